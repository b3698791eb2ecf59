/- Proved: the law FnApplied of the given program returns true for every input of its Go types and leaves each argument as it was; no condition. (Part 12 of 18.) -/
import Derived.Test.YtcgejabkjljeeaaCFnApplied4
import Derived.Lib.SliceRun
import Derived.Lib.Walk
import Derived.Test.YtcgejabkjljeeaaCFnApplied6
import Derived.Test.YtcgejabkjljeeaaCFnApplied10
import Derived.Test.YtcgejabkjljeeaaCFnApplied0
section
namespace Go.Proofs.Ytcgejabkjljeeaa.P
open Go.RowKit Go.Proofs.YtcgejabkjljeeaaW.PrintWords Go.Proofs.YtcgejabkjljeeaaW.PrintLast Go.Proofs.YtcgejabkjljeeaaW.PrintMore
attribute [local go_sem] str_gtr str_leq str_geq max2_int min2_int max_two min_two qc1 qb1 max_four min_four
set_option linter.unusedVariables false
set_option linter.unusedSimpArgs false
theorem R_empty {α : Type} (d : Kd α) (e : Nat) (w : World) (base : Nat) (hb : base ≤ w.heap.size) : d.R e (w.alloc (.cells #[] e)) base (fun _ => True) (.slice (some ⟨w.heap.size, 0, none⟩) ([] : List α).length 0) [] :=
 ⟨fun _ _ => trivial, [], World.ownsRow_made w #[] 0 hb (Nat.zero_le _) (by simp), Reps.none _ _⟩
set_option maxHeartbeats 4000000 in
set_option maxRecDepth 100000 in
theorem clone_Meta (A0 : Option Addr) (c0 : Nat) (l : List S66) (w0 w : World) (hB : Below w0.heap.size w0 w) (hr : Kd.C k66 w A0 l.length l) (hl : l.length * 56 ≤ 140737488355328) :
  Calls Try.prog 69 #[.slice A0 l.length c0] w fun e w' => ∃ v, e = .returned v ∧ Kd.R k66 66 w' w0.heap.size (fun _ => True) v l ∧ Below w0.heap.size w0 w' := by
 have q : ∀ (w : World) (a : Option Addr) (n c n' c' : Nat), (binOp .eql 30 (.slice a n c) (.slice none n' c')).run Try.prog w = .ok (.bool a.isNone) w := fun w a n c n' c' => Lib.run_eql_slice_nil w _ _ a n c n' c' Try.underlying30
 have HR := Qz.mk hr
 have HB := Qz.mk hB
 have hsz := hB.size
 cases A0 with
 | none =>
  have h0 : l = [] := by
   by_cases h0 : l.length = 0
   ·exact List.length_eq_zero_iff.1 h0
   ·obtain ⟨ad, e, _⟩ := hr.2.2 (by omega)
    cases e
  clear hr hB
  go_enter Try.func69, Try.ntmps69
  go_wp2
  go_ret
  refine ⟨_, rfl, ?_, HB.out⟩
  rw [h0]
  exact Kd.R_nil _ _ _ _ _
 | some ad =>
  clear hr hB
  have HX := Qz.mk hl
  clear hl
  go_enter Try.func69, Try.ntmps69
  go_wp2_with (first | ((with_reducible refine gate_builtin (b := .append) (xs := #[.tmp 5, .tmp 6]) rfl ?_); at_builtin; refine Kd.R_append_rows k66 (w0 := w0) w0.heap.size rfl (.tmp 5) (.tmp 6) 30 66 (.agg #[.int .i64 0, .int .i64 0, .string ⟨#[]⟩, .string ⟨#[]⟩, .int .i64 0]) 56 rfl Try.underlying30 info66 rfl (by decide) (by omega) (.slice (some ⟨w.heap.size, 0, none⟩) ([] : List S66).length 0) [] l (some ad) l.length c0 (fun _ => True) (fun _ => False) rfl rfl ?aO ?aR (fun _ _ h => h) (fun _ h => h.elim) ?aF ?aB ?aS ?aL ?_; (case aO => exact R_empty k66 66 w _ hsz); (case aR => exact Kd.C_below HR.out ((Below.refl _ w).alloc (Nat.le_refl _) _)); (case aF => exact fun _ _ => trivial); (case aB => exact HB.out.alloc hsz _); (case aS => exact (HB.out.alloc hsz _).size); (case aL => have := HX.out; simp only [List.length_nil, Nat.zero_add]; exact this); intro v1 w1 ho hb hg hat))
  go_ret
  exact ⟨_, rfl, ho, hb⟩
end Go.Proofs.Ytcgejabkjljeeaa.P
end

section
namespace Go.Proofs.Ytcgejabkjljeeaa.P
open Go.RowKit Go.Proofs.YtcgejabkjljeeaaW.PrintWords Go.Proofs.YtcgejabkjljeeaaW.PrintLast Go.Proofs.YtcgejabkjljeeaaW.PrintMore
attribute [local go_sem] str_gtr str_leq str_geq max2_int min2_int max_two min_two qc1 qb1 max_four min_four
set_option linter.unusedVariables false
set_option linter.unusedSimpArgs false
def idxf {α : Type} (p : α → Bool) : List α → Nat → Int
 | [], _ => -1
 | x :: xs, i => if p x = true then (i : Int) else idxf p xs (i + 1)
theorem idxf_hit {α : Type} (p : α → Bool) (d : α) : ∀ (l : List α) (k i : Nat), k < l.length → p (l.getD k d) = true → (∀ j, j < k → p (l.getD j d) = false) → idxf p l i = ((i + k : Nat) : Int)
 | [], _, _, h, _, _ => absurd h (Nat.not_lt_zero _)
 | x :: xs, 0, i, _, h, _ => by
  have : p x = true := by simpa using h
  simp [idxf, this]
 | x :: xs, k + 1, i, hk, h, hn => by
  have h0 : p x = false := by simpa using hn 0 (Nat.succ_pos _)
  simp only [idxf, h0, Bool.false_eq_true, if_false]
  rw [idxf_hit p d xs k (i + 1) (by simpa using hk) (by simpa using h) (fun j hj => by simpa using hn (j + 1) (by omega))]
  congr 1
  omega
theorem idxf_miss {α : Type} (p : α → Bool) (d : α) : ∀ (l : List α) (i : Nat), (∀ j, j < l.length → p (l.getD j d) = false) → idxf p l i = -1
 | [], _, _ => rfl
 | x :: xs, i, hn => by
  have h0 : p x = false := by simpa using hn 0 (by simp)
  simp only [idxf, h0, Bool.false_eq_true, if_false]
  exact idxf_miss p d xs (i + 1) (fun j hj => by simpa using hn (j + 1) (by simpa using hj))
theorem idxf_any {α : Type} (p : α → Bool) : ∀ (l : List α) (i : Nat), decide (0 ≤ idxf p l i) = l.any p
 | [], _ => rfl
 | x :: xs, i => by
  cases h : p x with
  | true => simp [idxf, h]
  | false =>
   simp only [idxf, h, Bool.false_eq_true, if_false, List.any_cons, Bool.false_or]
   exact idxf_any p xs (i + 1)
set_option maxHeartbeats 2000000 in
theorem indexFunc_Meta.calls (g : Nat) (lb : Array Value) (p : S66 → Bool) (A : Option Addr) (c : Nat) (l : List S66) (w : World) (hr : Kd.C k66 w A l.length l)
  (eg : ∀ args w, (callFunc g args).run Try.prog w = .ok (.enter g args) w)
  (hp : ∀ (x : S66) (W : World), Below w.heap.size w W → Calls Try.prog g (#[.agg #[.int .i64 x.f0, .int .i64 x.f1, .string x.f2, .string x.f3, .int .i64 x.f4]] ++ lb) W fun e w' => e = .returned (.bool (p x)) ∧ Below w.heap.size w w') :
  Calls Try.prog 92 #[.slice A l.length c, .func (.func g) #[] lb] w fun e w' => e = .returned (.int .i64 (idxf p l 0)) ∧ Below w.heap.size w w' := by
 have hlm := Kd.C_max hr
 have HR := Qz.mk hr
 clear hr
 go_enter Try.func92, Try.ntmps92
 go_wp2
 go_loopg [5, 8] l.length (fun gg _ s8 wr => ∃ i : Int, 0 ≤ i ∧ i ≤ l.length ∧ (l.length : Int) - i ≤ gg ∧ s8 = .int .i64 i ∧ Qz (Below w.heap.size w wr) ∧ Qz (∀ j : Nat, (j : Int) < i → p (l.getD j z66) = false))
 case atStart => exact ⟨0, by omega, by omega, by omega, rfl, ⟨Below.refl _ w⟩, ⟨fun j hj => absurd hj (by omega)⟩⟩
 case round =>
  obtain ⟨i, hi0, hi1, hg, rfl, BW, AN⟩ := hrel
  by_cases hlt : i < (l.length : Int)
  ·obtain ⟨k1, rfl⟩ : ∃ m, gk = m + 1 := ⟨gk - 1, by omega⟩
   have hd : decide (i < (l.length : Int)) = true := decide_eq_true hlt
   obtain ⟨ad, e, h0, h1, h2, h3, h4⟩ := at_T66 HR.out i hi0 hlt
   cases e
   replace h0 := (BW.out.cell (World.block_lt_of_cell? w _ h0)).trans h0
   replace h1 := (BW.out.cell (World.block_lt_of_cell? w _ h1)).trans h1
   replace h2 := (BW.out.cell (World.block_lt_of_cell? w _ h2)).trans h2
   replace h3 := (BW.out.cell (World.block_lt_of_cell? w _ h3)).trans h3
   replace h4 := (BW.out.cell (World.block_lt_of_cell? w _ h4)).trans h4
   have hcall := hp (qm l i) wr BW.out
   clear hp
   have HX : Qz (qm l i = l.getD i.toNat z66) := ⟨rfl⟩
   generalize qm l i = x at h0 h1 h2 h3 h4 hcall HX
   cases hq : p x with
   | true =>
    rw [hq] at hcall
    have HQ := Qz.mk hq
    clear hq
    go_wp2_with fail
    (with_reducible refine hcall.mono ?_)
    rintro e w' ⟨rfl, hb'⟩
    go_wp2
    go_ret
    refine ⟨?_, hb'⟩
    show Ending.returned (.int .i64 i) = _
    rw [idxf_hit p z66 l i.toNat 0 (by omega) (by rw [← HX.out]; exact HQ.out) (fun j hj => AN.out j (by omega))]
    rw [show (((0 + i.toNat : Nat)) : Int) = i from by omega]
   | false =>
    rw [hq] at hcall
    have HQ := Qz.mk hq
    clear hq
    go_wp2_with fail
    (with_reducible refine hcall.mono ?_)
    rintro e w' ⟨rfl, hb'⟩
    go_wp2
    go_roundg k1
    case measure => omega
    case rel =>
     refine ⟨i + 1, by omega, by omega, by omega, by first | rfl | go_num, ⟨hb'⟩, ⟨fun j hj => ?_⟩⟩
     by_cases e : (j : Int) = i
     ·subst e
      rw [← show x = l.getD j z66 from HX.out]
      exact HQ.out
     ·exact AN.out j (by omega)
  ·have hd : decide (i < (l.length : Int)) = false := decide_eq_false hlt
   go_wp2
   all_goals
    go_ret
    refine ⟨?_, BW.out⟩
    rw [idxf_miss p z66 l 0 (fun j hj => AN.out j (by omega))]
    rfl
end Go.Proofs.Ytcgejabkjljeeaa.P
end

section
namespace Go.Proofs.Ytcgejabkjljeeaa.P
open Go.RowKit Go.Proofs.YtcgejabkjljeeaaW.PrintWords Go.Proofs.YtcgejabkjljeeaaW.PrintLast Go.Proofs.YtcgejabkjljeeaaW.PrintMore
attribute [local go_sem] str_gtr str_leq str_geq max2_int min2_int max_two min_two qc1 qb1 max_four min_four
set_option linter.unusedVariables false
set_option linter.unusedSimpArgs false
theorem zeroCells_length (cs : Array Value) (n : Nat) : (Builtin.zeroCells cs n).toList.length = n * cs.size := by simp [Builtin.zeroCells]
theorem zeroCells_one (cs : Array Value) (n : Nat) (hp : 0 < cs.size) (h : ∀ v ∈ cs, v.oneCell' = true) : ∀ v ∈ (Builtin.zeroCells cs n).toList, v.oneCell' = true := by
 intro v hv
 simp only [Builtin.zeroCells, Array.toList_map, List.mem_map] at hv
 obtain ⟨i, _, rfl⟩ := hv
 rw [getElem!_pos cs (i % cs.size) (Nat.mod_lt _ hp)]
 exact h _ (Array.getElem_mem _)
theorem idxf_neg {α : Type} (p : α → Bool) : ∀ (l : List α) (i : Nat), idxf p l i = -1 ∨ ∃ k : Nat, k < l.length ∧ idxf p l i = ((i + k : Nat) : Int) ∧ (∀ d, p (l.getD k d) = true) ∧ ∀ d j, j < k → p (l.getD j d) = false
 | [], _ => .inl rfl
 | x :: xs, i => by
  cases h : p x with
  | true => exact .inr ⟨0, by simp, by simp [idxf, h], fun d => by simpa using h, fun d j hj => absurd hj (Nat.not_lt_zero _)⟩
  | false =>
   simp only [idxf, h, Bool.false_eq_true, if_false]
   rcases idxf_neg p xs (i + 1) with h1 | ⟨k, h1, h2, h3, h4⟩
   ·exact .inl h1
   ·refine .inr ⟨k + 1, by simpa using h1, by rw [h2]; congr 1; omega, fun d => by simpa using h3 d, fun d j hj => ?_⟩
    cases j with
    | zero => simpa using h
    | succ j => simpa using h4 d j (by omega)
def StayBut (W W' : World) (v : Value) : Prop := W.heap.size ≤ W'.heap.size ∧ ∀ k, k < W.heap.size → some k ≠ v.ownBlock → W'.heap[k]? = W.heap[k]?
theorem StayBut.below {W W' : World} (h : Below W.heap.size W W') (v : Value) : StayBut W W' v := ⟨h.size, fun k hk _ => h.block k hk⟩
theorem StayBut.step {W W1 W2 : World} {v : Value} (h : StayBut W W1 v) (hb : Below W1.heap.size W1 W2) : StayBut W W2 v := ⟨Nat.le_trans h.1 hb.size, fun k hk hv => (hb.block k (Nat.lt_of_lt_of_le hk h.1)).trans (h.2 k hk hv)⟩
theorem StayBut.grown {W W1 W2 : World} {v : Value} {g : Nat} (h : StayBut W W1 v) (hg : W1.grownBy W2 (some g)) (hv : v.ownBlock = some g) : StayBut W W2 v := ⟨Nat.le_trans h.1 hg.size, fun k hk hk2 => (hg.block k (Nat.lt_of_lt_of_le hk h.1) (by rw [← hv]; exact hk2)).trans (h.2 k hk hk2)⟩
end Go.Proofs.Ytcgejabkjljeeaa.P
end

section
namespace Go.Proofs.Ytcgejabkjljeeaa.P
open Go.RowKit Go.Proofs.YtcgejabkjljeeaaW.PrintWords Go.Proofs.YtcgejabkjljeeaaW.PrintLast Go.Proofs.YtcgejabkjljeeaaW.PrintMore
attribute [local go_sem] str_gtr str_leq str_geq max2_int min2_int max_two min_two qc1 qb1 max_four min_four
set_option linter.unusedVariables false
set_option linter.unusedSimpArgs false
theorem R_clear_tail {α : Type} (d : Kd α) {P : Program} {e : Nat} {W : World} {base : Nat} {ok : Nat → Prop} {g n cap : Nat} {xs : List α} (HO : d.R e W base ok (.slice (some ⟨g, 0, none⟩) n cap) xs) (q : Nat) (hq : n + (q + 1) ≤ cap) (t : TypeId) (z : Value)
  (ht : P.underlying t = some (.slice e)) (hv : ∀ w, (zeroValue e).run P w = .ok z w) (hz : z.cells.size = d.sz) (h0 : 0 < d.sz) (h1 : ∀ v ∈ z.cells, v.oneCell' = true) (c' : Nat) :
  ∃ W', (∀ ty, (Builtin.clear_ #[t] ty #[.slice (some ⟨g, n * d.sz, none⟩) (q + 1) c']).run P W = .ok (.tuple #[]) W') ∧ d.R e W' base ok (.slice (some ⟨g, 0, none⟩) n cap) xs ∧ W.grownBy W' (some g) := by
 have hn : n = xs.length := (Kd.R_reads' HO).1
 subst hn
 obtain ⟨h2, inner, ho, hr⟩ := HO
 rcases ho.2 with ⟨hv0, _⟩ | ⟨g', cap', cur, hv0, hb, hh, hnc, hcm, hcs, htk⟩
 ·cases hv0
 injection hv0 with ea _ ec
 injection ea with ea
 injection ea with eg
 subst eg; subst ec
 have hlen : (Builtin.zeroCells z.cells (q + 1)).toList.length = (q + 1) * d.sz := by rw [zeroCells_length, hz]
 have hfit : xs.length * d.sz + (q + 1) * d.sz ≤ cur.size := by
  rw [← Nat.add_mul, hcs]
  exact Nat.mul_le_mul_right _ (by omega)
 generalize (q + 1) * d.sz = S at hlen hfit
 have hst := run_storeCells_cells (P := P) g (xs.length * d.sz) (Builtin.zeroCells z.cells (q + 1)).toList 0 W (fun j hj => by rw [cell_of_row W g _ cur e (0, 0) hh]; rw [hlen] at hj; simp; omega) (fun j _ => qe hh _) (zeroCells_one _ _ (by omega) h1)
 simp only [Nat.add_zero] at hst
 refine ⟨W.setCells g (xs.length * d.sz) (Builtin.zeroCells z.cells (q + 1)).toList, fun ty => ?_, ?_, ?_⟩
 ·simp [Builtin.clear_, run_underlying ht, hv, hst]
 ·refine ⟨h2, inner, ?_, hr.imp_ (fun _ _ hp => d.M_move (fun k hk => setCells_far _ _ k (fun he => hk.2 (by rw [he]; simp [Value.ownBlock]))) hp)⟩
  obtain ⟨cur', h3, h4, h5⟩ := setCells_row (Builtin.zeroCells z.cells (q + 1)).toList (xs.length * d.sz) W cur hh (by rw [hlen]; exact hfit)
  refine ⟨ho.1, .inr ⟨g, cap, cur', rfl, hb, h3, hnc, hcm, by rw [h4, hcs], ?_⟩⟩
  rw [h5, ← htk, List.append_assoc, List.take_append_of_le_length (by rw [List.length_take, Array.length_toList (xs := cur)]; omega), List.take_take, Nat.min_self]
 ·obtain ⟨s1, s2, s3, s4⟩ := setCells_same g (Builtin.zeroCells z.cells (q + 1)).toList (xs.length * d.sz) W
  exact ⟨s1, s2, s3, by rw [s4]; exact Nat.le_refl _, fun k _ hk => setCells_far _ _ k (fun he => hk (by rw [he]))⟩
section
attribute [-go_sem] Go.Builtin.append_
set_option maxHeartbeats 4000000 in
set_option maxRecDepth 100000 in
theorem delete_Meta (i g n c base : Nat) (xs : List S66) (w0 W : World) (hB : Below base w0 W) (hbase : base ≤ W.heap.size) (hr : Kd.R k66 66 W base (fun _ => True) (.slice (some ⟨g, 0, none⟩) (n + 1) c) xs) (hi : i < n + 1) :
  Calls Try.prog 94 #[.slice (some ⟨g, 0, none⟩) (n + 1) c, .int .i64 i, .int .i64 ((i + 1 : Nat) : Int)] W fun e w' => e = .returned (.slice (some ⟨g, 0, none⟩) n c) ∧ Kd.R k66 66 w' base (fun _ => True) (.slice (some ⟨g, 0, none⟩) n c) (xs.eraseIdx i) ∧ Below base w0 w' := by
 obtain ⟨hn, hnc, hC⟩ := Kd.R_reads' hr
 have hmax : c ≤ 9223372036854775807 := by
  obtain ⟨inner, ho⟩ := Kd.R_own hr
  rcases ho.2 with ⟨hv0, _⟩ | ⟨g', cap', cur, hv0, hb, hh, h1, h2, _⟩
  ·cases hv0
  ·injection hv0 with _ _ ec
   rw [ec]; exact h2
 clear hC hn
 obtain ⟨i0, hi0, hsz⟩ := Option.map_eq_some_iff.1 (show (Try.prog.info? 66).map (·.size) = some (k66).sz from by kernel_rfl)
 obtain ⟨W1, hap, hR1, hg1⟩ := Kd.R_delete_run (P := Try.prog) k66 base 30 30 66 i0 Try.underlying30 hi0 hsz (Kd.R_drew hr) hi rfl (c - (i + 1))
 obtain ⟨W2, hcl, hR2, hg2⟩ := R_clear_tail (P := Try.prog) k66 hR1 0 (by omega) 30 (.agg #[.int .i64 0, .int .i64 0, .string ⟨#[]⟩, .string ⟨#[]⟩, .int .i64 0]) Try.underlying30 (fun w => by kernel_rfl) rfl (by decide) (by intro q hq; simp [Value.cells] at hq; rcases hq with rfl | rfl | rfl | rfl | rfl <;> rfl) (c - n)
 have hcl0 := hcl 0
 clear hcl
 have hbs : ∀ q, (some g : Option Nat) = some q → base ≤ q := fun q hq => by injection hq with hq; subst hq; exact Kd.R_base hr _ (by simp [Value.ownBlock])
 have HB2 := Qz.mk ((below_drew hB).grown hg1 hbase hbs |>.grown hg2 (Nat.le_trans hbase hg1.size) hbs)
 have HR2 := Qz.mk hR2
 have hz : ((i : Int) == ((i + 1 : Nat) : Int)) = false := beq_eq_false_iff_ne.2 (by omega)
 clear hR1 hR2 hB hg1 hg2 hr hbs
 have hsl : (k66).sz = 5 := rfl
 rw [hsl] at hap hcl0
 rw [Nat.add_sub_cancel, Nat.zero_add] at hcl0
 rw [Nat.add_sub_cancel] at hap HR2
 by_cases hc : c = i + 1
 ·rw [if_pos hc] at hap
  obtain rfl : n = i := by omega
  subst hc
  simp only [Nat.sub_self] at hap
  rw [show n + 1 - n = 1 from by omega] at hcl0
  go_enter Try.func94, Try.ntmps94
  go_wp2
  go_region
  all_goals go_wp2
  all_goals go_ret
  all_goals exact ⟨rfl, HR2.out, HB2.out⟩
 ·rw [if_neg hc, Option.map_some, add_at, Nat.zero_add, show n + 1 - (i + 1) = n - i from by omega] at hap
  go_enter Try.func94, Try.ntmps94
  go_wp2
  go_region
  all_goals go_wp2
  all_goals go_ret
  all_goals exact ⟨rfl, HR2.out, HB2.out⟩
end
end Go.Proofs.Ytcgejabkjljeeaa.P
end

section
namespace Go.Proofs.Ytcgejabkjljeeaa.P
open Go.RowKit Go.Proofs.YtcgejabkjljeeaaW.PrintWords Go.Proofs.YtcgejabkjljeeaaW.PrintLast Go.Proofs.YtcgejabkjljeeaaW.PrintMore
attribute [local go_sem] str_gtr str_leq str_geq max2_int min2_int max_two min_two qc1 qb1 max_four min_four
set_option linter.unusedVariables false
set_option linter.unusedSimpArgs false
theorem cmpB_metas : CmpB Try.prog 67 #[] encL (cfL mcmp) := by
 intro W x y
 obtain ⟨k, hk⟩ := Ev.rounds (cmpMetas_ev x.1 y.1)
 exact impl_cmpMetas.calls k x.1.f0 x.1.f1 x.1.f2 x.1.f3 x.1.f4 y.1.f0 y.1.f1 y.1.f2 y.1.f3 y.1.f4 _ W hk
def numP (n : Int) (x : S66) : Bool := x.f0 == n
def cutAll : List S66 → List Int → Option (List S66)
 | l, [] => some l
 | l, n :: ns => if idxf (numP n) l 0 < 0 then none else cutAll (l.eraseIdx (idxf (numP n) l 0).toNat) ns
def edV (l : List S66) (n s g : Int) (adds : List S66) (cuts : List Int) (n' s' g' : Int) : List S66 × Int × Int × Int × Bool :=
 if n' < n ∨ s' < s ∨ g' < g ∨ 30 < adds.length then ([], 0, 0, 0, false) else
 match cutAll l cuts with
 | none => ([], 0, 0, 0, false)
 | some m => if vOk (srt mcmp (m ++ adds)) n' s' g' then (srt mcmp (m ++ adds), n', s', g', true) else ([], 0, 0, 0, false)
def impl_Version_edited.f (l0_0 : List S66) (a0_1 a0_2 a0_3 : Int) (l1_0 : List S66) (l1_1 : List Int) (a1_2 a1_3 a1_4 : Int) : Option (List S66 × Int × Int × Int × Bool) :=
 if l0_0.length ≤ 1000000 then some (edV l0_0 a0_1 a0_2 a0_3 l1_0 l1_1 a1_2 a1_3 a1_4) else none
set_option maxHeartbeats 4000000 in
theorem numP_calls (n : Int) (b : Nat) (x : S66) (W : World) (hc : W.cell? ⟨b, 0, none⟩ = some (.int .i64 n)) (hb : b < W.heap.size) :
  Calls Try.prog 93 #[.agg #[.int .i64 x.f0, .int .i64 x.f1, .string x.f2, .string x.f3, .int .i64 x.f4], .pointer (some ⟨b, 0, none⟩)] W fun e w' => e = .returned (.bool (numP n x)) ∧ Below W.heap.size W w' := by
 have hca : ∀ o, (W.alloc o).cell? ⟨b, 0, none⟩ = some (.int .i64 n) := fun o => (((Below.refl _ W).alloc (Nat.le_refl _) o).cell (p := ⟨b, 0, none⟩) hb).trans hc
 have hne : b ≠ W.heap.size := by omega
 unfold numP
 go_enter Try.func93, Try.ntmps93
 go_wp2
 go_ret
 exact ⟨rfl, (Below.refl _ W).alloc (Nat.le_refl _) _⟩
theorem put4 {w : World} {g t : Nat} {x0 x1 x2 x3 a b c d : Value} (h : w.heap[g]? = some (.cells #[x0, x1, x2, x3] t (0, 0))) : ((((w.setCell ⟨g, 0, none⟩ a).setCell ⟨g, 1, none⟩ b).setCell ⟨g, 2, none⟩ c).setCell ⟨g, 3, none⟩ d).heap[g]? = some (.cells #[a, b, c, d] t (0, 0)) :=
 qt (qt (qt (qt h 0 a rfl) 1 b rfl) 2 c rfl) 3 d rfl
theorem below4 {w W : World} {g : Nat} {a b c d : Value} (h : Below w.heap.size w W) (hg : w.heap.size ≤ g) : Below w.heap.size w ((((W.setCell ⟨g, 0, none⟩ a).setCell ⟨g, 1, none⟩ b).setCell ⟨g, 2, none⟩ c).setCell ⟨g, 3, none⟩ d) :=
 qf (qf (qf (qf h hg) hg) hg) hg
theorem R_put4 {α : Type} {d : Kd α} {e base g : Nat} {W : World} {v : Value} {xs : List α} {a b c f : Value} (h : d.R e W base (fun _ => True) v xs) (hg : g < base) : d.R e ((((W.setCell ⟨g, 0, none⟩ a).setCell ⟨g, 1, none⟩ b).setCell ⟨g, 2, none⟩ c).setCell ⟨g, 3, none⟩ f) base (fun _ => True) v xs := by
 have h1 := Kd.R_mono (ok' := fun k => base ≤ k) (Kd.R_bound h) (fun k hk => hk.2.1)
 have far : ∀ {w : World} (p : Addr) (u : Value), p.block = g → d.R e w base (fun k => base ≤ k) v xs → d.R e (w.setCell p u) base (fun k => base ≤ k) v xs := fun p u hp hh => Kd.R_far hh (p := p) (fun k hk => by have : base ≤ k := hk; omega) u
 exact Kd.R_mono (far _ _ rfl (far _ _ rfl (far _ _ rfl (far _ _ rfl h1)))) (fun _ _ => trivial)
theorem three (w : World) (X Y Z : Obj) : Below w.heap.size w (((w.alloc X).alloc Y).alloc Z) ∧ (((w.alloc X).alloc Y).alloc Z).heap[w.heap.size + 1]? = some Y ∧ (((w.alloc X).alloc Y).alloc Z).heap[w.heap.size + 1 + 1]? = some Z ∧ (((w.alloc X).alloc Y).alloc Z).heap.size = w.heap.size + 3 := by
 have e1 : (w.alloc X).heap.size = w.heap.size + 1 := by simp
 have e2 : ((w.alloc X).alloc Y).heap.size = w.heap.size + 1 + 1 := by simp
 refine ⟨(((Below.refl _ w).alloc (Nat.le_refl _) _).alloc (by omega) _).alloc (by omega) _, ?_, ?_, by simp⟩
 ·rw [← e1]; exact qa (blk_new _ _) _
 ·rw [← e2]; exact blk_new _ _
set_option maxHeartbeats 4000000 in
set_option maxRecDepth 100000 in
theorem impl_Version_edited.calls (A0_0 : Option Addr) (c0_0 : Nat) (l0_0 : List S66) (a0_1 a0_2 a0_3 : Int) (A1_0 : Option Addr) (c1_0 : Nat) (l1_0 : List S66) (A1_1 : Option Addr) (c1_1 : Nat) (l1_1 : List Int) (a1_2 a1_3 a1_4 : Int) (r1 : List S66) (r2 r3 r4 : Int) (r5 : Bool) (w : World)
  (hr0_0 : Kd.C k66 w A0_0 l0_0.length l0_0) (hc0_0 : l0_0.length ≤ c0_0) (hr1_0 : Kd.C k66 w A1_0 l1_0.length l1_0) (hc1_0 : l1_0.length ≤ c1_0) (hr1_1 : Kd.C (Kd.int .i64) w A1_1 l1_1.length l1_1) (hc1_1 : l1_1.length ≤ c1_1)
  (h : impl_Version_edited.f l0_0 a0_1 a0_2 a0_3 l1_0 l1_1 a1_2 a1_3 a1_4 = some (r1, r2, r3, r4, r5)) :
  Calls Try.prog 59 #[.agg #[.slice A0_0 l0_0.length c0_0, .int .i64 a0_1, .int .i64 a0_2, .int .i64 a0_3], .agg #[.slice A1_0 l1_0.length c1_0, .slice A1_1 l1_1.length c1_1, .int .i64 a1_2, .int .i64 a1_3, .int .i64 a1_4]] w fun e w' => ∃ v0_ : Value, e = .returned (.tuple #[.agg #[v0_, .int .i64 r2, .int .i64 r3, .int .i64 r4], .bool r5]) ∧ Kd.R k66 66 w' w.heap.size (fun _ => True) v0_ r1 ∧ Below w.heap.size w w' := by
 have hu32 := Try.underlying32
 have hu37 := Try.underlying37
 have H00 := Qz.mk hr0_0
 have H10 := Qz.mk hr1_0
 have H11 := Qz.mk hr1_1
 clear hr0_0 hr1_0 hr1_1
 have hf : ∀ W' : World, W'.heap[w.heap.size + 1 + 1]? = some (.cells #[.slice none 0 0, .int .i64 0, .int .i64 0, .int .i64 0] 32 (0, 0)) → Below w.heap.size w W' → ∀ tmps : Array Value, tmps.getD 4 undef = .pointer (some ⟨w.heap.size + 1 + 1, 0, none⟩) → tmps.getD 5 undef = .bool false → (r1, r2, r3, r4, r5) = (([] : List S66), (0 : Int), (0 : Int), (0 : Int), false) →
   bodyPost Try.prog Try.f59 (fun e w' => ∃ v0_ : Value, e = .returned (.tuple #[.agg #[v0_, .int .i64 r2, .int .i64 r3, .int .i64 r4], .bool r5]) ∧ Kd.R k66 66 w' w.heap.size (fun _ => True) v0_ r1 ∧ Below w.heap.size w w') Exit.ret ⟨tmps, []⟩ W' := by
  intro W' hb hB tmps h4 h5 hr
  simp only [Prod.mk.injEq] at hr
  obtain ⟨rfl, rfl, rfl, rfl, rfl⟩ := hr
  refine bodyPost_ret (results_ct rfl _ _ (w.heap.size + 1 + 1) 32 _ (0, 0) _ h4 hb Try.underlying32 rfl (by kernel_rfl)) rfl ?_
  rw [h5]
  exact ⟨_, rfl, Kd.R_nil _ _ _ _ _, hB⟩
 have HF := Qz.mk hf
 clear hf
 unfold impl_Version_edited.f at h
 split at h
 case isFalse => cases h
 rename_i hl
 replace h := Option.some.inj h
 unfold edV at h
 by_cases z1 : a1_2 < a0_1
 ·have z1b : decide (a1_2 < a0_1) = true := decide_eq_true z1
  rw [if_pos (.inl z1)] at h
  have HH := Qz.mk h
  clear h z1
  go_enter Try.func59, Try.ntmps59
  go_wp2
  exact HF.out _ (three w _ _ _).2.2.1 (three w _ _ _).1 _ rfl rfl HH.out.symm
 have z1b : decide (a1_2 < a0_1) = false := decide_eq_false z1
 by_cases z2 : a1_3 < a0_2
 ·have z2b : decide (a1_3 < a0_2) = true := decide_eq_true z2
  rw [if_pos (.inr (.inl z2))] at h
  have HH := Qz.mk h
  clear h z1 z2
  go_enter Try.func59, Try.ntmps59
  go_wp2
  exact HF.out _ (three w _ _ _).2.2.1 (three w _ _ _).1 _ rfl rfl HH.out.symm
 have z2b : decide (a1_3 < a0_2) = false := decide_eq_false z2
 by_cases z3 : a1_4 < a0_3
 ·have z3b : decide (a1_4 < a0_3) = true := decide_eq_true z3
  rw [if_pos (.inr (.inr (.inl z3)))] at h
  have HH := Qz.mk h
  clear h z1 z2 z3
  go_enter Try.func59, Try.ntmps59
  go_wp2
  exact HF.out _ (three w _ _ _).2.2.1 (three w _ _ _).1 _ rfl rfl HH.out.symm
 have z3b : decide (a1_4 < a0_3) = false := decide_eq_false z3
 by_cases z4 : 30 < l1_0.length
 ·have z4b : decide ((30 : Int) < (l1_0.length : Int)) = true := decide_eq_true (by omega)
  rw [if_pos (.inr (.inr (.inr z4)))] at h
  have HH := Qz.mk h
  clear h z1 z2 z3
  go_enter Try.func59, Try.ntmps59
  go_wp2
  exact HF.out _ (three w _ _ _).2.2.1 (three w _ _ _).1 _ rfl rfl HH.out.symm
 have z4b : decide ((30 : Int) < (l1_0.length : Int)) = false := decide_eq_false (by omega)
 rw [if_neg (by rintro (h | h | h | h) <;> contradiction)] at h
 have HH := Qz.mk h
 clear h z1 z2 z3
 go_enter Try.func59, Try.ntmps59
 go_wp2_with fail
 have h3 := three w (.cells #[.slice A0_0 l0_0.length c0_0, .int .i64 a0_1, .int .i64 a0_2, .int .i64 a0_3] 32) (.cells #[.slice A1_0 l1_0.length c1_0, .slice A1_1 l1_1.length c1_1, .int .i64 a1_2, .int .i64 a1_3, .int .i64 a1_4] 37) (.cells #[.slice none 0 0, .int .i64 0, .int .i64 0, .int .i64 0] 32)
 generalize ((w.alloc (.cells #[.slice A0_0 l0_0.length c0_0, .int .i64 a0_1, .int .i64 a0_2, .int .i64 a0_3] 32)).alloc (.cells #[.slice A1_0 l1_0.length c1_0, .slice A1_1 l1_1.length c1_1, .int .i64 a1_2, .int .i64 a1_3, .int .i64 a1_4] 37)).alloc (.cells #[.slice none 0 0, .int .i64 0, .int .i64 0, .int .i64 0] 32) = W0 at h3 ⊢
 have HBK := Qz.mk h3.1
 have BKe := Qz.mk h3.2.1
 have BKr := Qz.mk h3.2.2.1
 have HSZ := Qz.mk h3.2.2.2
 clear h3
 (with_reducible refine (clone_Meta A0_0 c0_0 l0_0 W0 W0 (Below.refl _ W0) (Kd.C_below H00.out HBK.out) (by omega)).mono ?_)
 rintro e w1 ⟨v, rfl, hR, hB⟩
 have HR := Qz.mk hR
 have HB := Qz.mk hB
 have BKe1 := Qz.mk (qo BKe.out hB)
 have BKr1 := Qz.mk (qo BKr.out hB)
 have HS1 := Qz.mk hB.size
 have hx1 := (qd BKe1.out 1).trans rfl
 clear hR hB
 go_wp2
 go_loopg [6, 43] l1_1.length (fun gk s6 s43 wr => ∃ (i : Nat) (m : List S66) (vf : Value), s6 = vf ∧ s43 = .int .i64 i ∧ i ≤ l1_1.length ∧ l1_1.length - i ≤ gk ∧ Qz (cutAll l0_0 l1_1 = cutAll m (l1_1.drop i)) ∧ m.length ≤ l0_0.length ∧ Qz (Kd.R k66 66 wr W0.heap.size (fun _ => True) vf m) ∧ Qz (Below W0.heap.size W0 wr))
 case atStart => exact ⟨0, l0_0, v, rfl, rfl, by omega, by omega, ⟨rfl⟩, Nat.le_refl _, HR, HB⟩
 case round =>
  obtain ⟨i, m, vf, rfl, rfl, hi, hg, HC, hml, HR, HB⟩ := hrel
  have HBW := Qz.mk (HBK.out.trans (HB.out.mono (by have := HSZ.out; omega)))
  obtain ⟨Af, cf, ef⟩ := Kd.R_slice HR.out
  subst ef
  by_cases hlt : i < l1_1.length
  ·have hd : decide ((i : Int) < (l1_1.length : Int)) = true := decide_eq_true (by omega)
   have HLT := Qz.mk hlt
   obtain ⟨ad, cc, ead, _, hK, hc0⟩ := Kd.C_get H11.out (0 : Int) (i : Int) (by omega) (by omega)
   obtain rfl : cc = [.int .i64 (l1_1.getD (i : Int).toNat 0)] := hK
   have hxi := hc0 0 _ rfl
   rw [show (Kd.int .i64).sz = 1 from rfl, Nat.mul_one, Nat.add_zero, Int.toNat_natCast] at hxi
   replace hxi := (HBW.out.cell (World.block_lt_of_cell? w _ hxi)).trans hxi
   have HN : Qz (l1_1.drop i = l1_1.getD i 0 :: l1_1.drop (i + 1)) := ⟨by rw [List.drop_eq_getElem_cons hlt, List.getD_eq_getElem?_getD, List.getElem?_eq_getElem hlt]; rfl⟩
   clear hc0
   generalize l1_1.getD i 0 = n at hxi HN
   cases ead
   have hb0 : Below wr.heap.size wr (wr.alloc (.cells #[.int .i64 n] 2)) := (Below.refl _ wr).alloc (Nat.le_refl _) _
   have hcall := indexFunc_Meta.calls 93 #[.pointer (some ⟨wr.heap.size, 0, none⟩)] (numP n) Af cf m (wr.alloc (.cells #[.int .i64 n] 2)) (Kd.C_below (Kd.R_reads' HR.out).2.2 hb0) (fun args w => by kernel_rfl)
    (fun x W hb => (numP_calls n wr.heap.size x W ((hb.cell (p := ⟨wr.heap.size, 0, none⟩) (by simp)).trans (by simp)) (Nat.lt_of_lt_of_le (by simp) hb.size)).mono (fun e w' h => ⟨h.1, hb.trans (h.2.mono hb.size)⟩))
   have HCALL := Qz.mk hcall
   have HB0 := Qz.mk hb0
   clear hcall hb0
   rcases idxf_neg (numP n) m 0 with hq | ⟨k, hk, hq, _⟩
   ·have hcall := HCALL.out
    rw [hq] at hcall
    have hdq : decide ((-1 : Int) < 0) = true := rfl
    go_wp2_with fail
    (with_reducible refine hcall.mono ?_)
    rintro e w3 ⟨rfl, hb3⟩
    have hb3' : Below wr.heap.size wr w3 := HB0.out.trans (hb3.mono (by simp))
    have HB3 := Qz.mk (HBW.out.trans (hb3'.mono HBW.out.size))
    have BKr3 := Qz.mk (qo (qo BKr.out HB.out) hb3')
    clear hcall hb3 hb3' hxi
    have hq0 := (qd BKr3.out 0).trans rfl
    have hq1 := (qd BKr3.out 1).trans rfl
    have hq2 := (qd BKr3.out 2).trans rfl
    have hq3 := (qd BKr3.out 3).trans rfl
    have hf0 := qe BKr3.out 0
    have hf1 := qe BKr3.out 1
    have hf2 := qe BKr3.out 2
    have hf3 := qe BKr3.out 3
    go_wp2
    refine HF.out _ (put4 BKr3.out) (below4 HB3.out (by omega)) _ rfl rfl ?_
    have hh := HH.out
    rw [HC.out, HN.out, cutAll, if_pos (by rw [hq]; decide)] at hh
    exact hh.symm
   ·obtain ⟨gg, cap, ef, _⟩ := Kd.R_form HR.out (by omega)
    injection ef with e1_ _ e3_
    subst e1_ e3_
    have hcall := HCALL.out
    rw [hq, Nat.zero_add] at hcall
    have hdq : decide ((k : Int) < 0) = false := decide_eq_false (by omega)
    go_wp2_with fail
    (with_reducible refine hcall.mono ?_)
    rintro e w3 ⟨rfl, hb3⟩
    have hb3' : Below wr.heap.size wr w3 := HB0.out.trans (hb3.mono (by simp))
    have HR3 := Qz.mk (Kd.R_below HR.out hb3')
    have HB3 := Qz.mk (HB.out.trans (hb3'.mono HB.out.size))
    clear hcall hb3 hb3' hxi
    go_wp2_with fail
    obtain ⟨n', hn'⟩ : ∃ n', m.length = n' + 1 := ⟨m.length - 1, by omega⟩
    rw [hn', show ((k : Int) + 1) = ((k + 1 : Nat) : Int) from by omega]
    (with_reducible refine (delete_Meta k gg n' cf W0.heap.size m W0 w3 HB3.out HB3.out.size (by rw [← hn']; exact HR3.out) (by omega)).mono ?_)
    rintro e w4 ⟨rfl, hR4, hB4⟩
    have HR4 := Qz.mk hR4
    have HB4 := Qz.mk hB4
    clear hR4 hB4 HR3 HB3 HR HB
    go_wp2
    go_roundg (l1_1.length - (i + 1))
    case measure => have := HLT.out; omega
    case rel =>
     have hlt2 := HLT.out
     have hlm := Kd.C_max H11.out
     refine ⟨i + 1, m.eraseIdx k, _, rfl, congrArg (Value.int .i64) (by unfold wrap64; omega), HLT.out, Nat.le_refl _, ⟨?_⟩, by rw [List.length_eraseIdx_of_lt hk]; omega, HR4, HB4⟩
     rw [HC.out, HN.out, cutAll, if_neg (by rw [hq]; omega), hq, Nat.zero_add, Int.toNat_natCast]
  ·have hd : decide ((i : Int) < (l1_1.length : Int)) = false := decide_eq_false (by omega)
   obtain rfl : i = l1_1.length := by omega
   have BKe2 := Qz.mk (qo BKe.out HB.out)
   have hx0 := (qd BKe2.out 0).trans rfl
   go_wp2_with (first | ((with_reducible refine gate_builtin (b := .append) (xs := #[.tmp 59, .tmp 61]) rfl ?_); at_builtin; refine Kd.R_append_rows k66 (w0 := W0) W0.heap.size rfl (.tmp 59) (.tmp 61) 30 66 (.agg #[.int .i64 0, .int .i64 0, .string ⟨#[]⟩, .string ⟨#[]⟩, .int .i64 0]) 56 rfl Try.underlying30 info66 rfl (by decide) (by omega) (.slice Af m.length cf) m l1_0 A1_0 l1_0.length c1_0 (fun _ => True) (fun _ => False) rfl rfl ?aO ?aR (fun _ _ h => h) (fun _ h => h.elim) ?aF ?aB ?aS ?aL ?_; (case aO => exact HR.out); (case aR => exact Kd.C_below H10.out HBW.out); (case aF => exact fun _ _ => trivial); (case aB => exact HB.out); (case aS => exact HB.out.size); (case aL => omega); intro v1 w2 ho hb hg hat; clear hx0))
   (with_reducible refine (sort_own 67 mcmp (fun args w => by kernel_rfl) cmpB_metas W0.heap.size v1 (m ++ l1_0) W0 w2 ho hb (by rw [List.length_append]; omega)).mono ?_)
   rintro e w3 ⟨rfl, hR3, hB3⟩
   obtain ⟨A3, c3, e3⟩ := Kd.R_slice hR3
   subst e3
   have HR3 := Qz.mk hR3
   have HB3 := Qz.mk hB3
   clear ho hb hg hat hR3 hB3 HR HB BKe2
   have BKe3 := Qz.mk (qo BKe.out HB3.out)
   have BKr3 := Qz.mk (qo BKr.out HB3.out)
   have hx2 := (qd BKe3.out 2).trans rfl
   have hx3 := (qd BKe3.out 3).trans rfl
   have hx4 := (qd BKe3.out 4).trans rfl
   go_wp2_with fail
   have hba : Below w3.heap.size w3 (w3.alloc (.cells #[.slice A3 (srt mcmp (m ++ l1_0)).length c3, .int .i64 a1_2, .int .i64 a1_3, .int .i64 a1_4] 32)) := (Below.refl _ w3).alloc (Nat.le_refl _) _
   have BKo := Qz.mk (blk_new w3 (.cells #[.slice A3 (srt mcmp (m ++ l1_0)).length c3, .int .i64 a1_2, .int .i64 a1_3, .int .i64 a1_4] 32))
   have HBA := Qz.mk hba
   clear hba
   generalize hw4 : w3.alloc (.cells #[.slice A3 (srt mcmp (m ++ l1_0)).length c3, .int .i64 a1_2, .int .i64 a1_3, .int .i64 a1_4] 32) = w4 at HBA BKo ⊢
   clear hw4
   have hh := HH.out
   rw [HC.out, List.drop_length, cutAll] at hh
   simp only [] at hh
   by_cases ok : vOk (srt mcmp (m ++ l1_0)) a1_2 a1_3 a1_4
   ·rw [if_pos ok] at hh
    have HH2 := Qz.mk hh
    clear hh
    (with_reducible refine (impl_VersionOk.calls A3 c3 (srt mcmp (m ++ l1_0)) a1_2 a1_3 a1_4 true w4 (Kd.C_below (Kd.R_reads' HR3.out).2.2 HBA.out) (Kd.R_reads' HR3.out).2.1 (by unfold impl_VersionOk.f; rw [decide_eq_true ok])).mono ?_)
    rintro e w5 ⟨rfl, hb5⟩
    have hb5 : Below w4.heap.size w4 w5 := by first | exact hb5 | exact hb5.below
    have BKo5 := Qz.mk (qo BKo.out hb5)
    have BKr5 := Qz.mk (qo (qo BKr3.out HBA.out) hb5)
    have HR5 := Qz.mk (Kd.R_below (Kd.R_below HR3.out HBA.out) hb5)
    have HB5 := Qz.mk (HBK.out.trans ((HB3.out.trans ((HBA.out.trans (hb5.mono HBA.out.size)).mono HB3.out.size)).mono HBK.out.size))
    clear hb5
    have hy0 := (qd BKo5.out 0).trans rfl
    have hy1 := (qd BKo5.out 1).trans rfl
    have hy2 := (qd BKo5.out 2).trans rfl
    have hy3 := (qd BKo5.out 3).trans rfl
    have hq0 := (qd BKr5.out 0).trans rfl
    have hq1 := (qd BKr5.out 1).trans rfl
    have hq2 := (qd BKr5.out 2).trans rfl
    have hq3 := (qd BKr5.out 3).trans rfl
    have hf0 := qe BKr5.out 0
    have hf1 := qe BKr5.out 1
    have hf2 := qe BKr5.out 2
    have hf3 := qe BKr5.out 3
    go_wp2
    have hsz := HSZ.out
    have hr := HH2.out
    simp only [Prod.mk.injEq] at hr
    obtain ⟨rfl, rfl, rfl, rfl, rfl⟩ := hr
    refine bodyPost_ret (results_ct rfl _ _ (w.heap.size + 1 + 1) 32 _ (0, 0) _ rfl (put4 BKr5.out) Try.underlying32 rfl (by kernel_rfl)) rfl ?_
    exact ⟨_, rfl, Kd.R_lower (R_put4 HR5.out (by omega)) HBK.out.size, below4 HB5.out (by omega)⟩
   ·rw [if_neg ok] at hh
    have HH2 := Qz.mk hh
    clear hh
    (with_reducible refine (impl_VersionOk.calls A3 c3 (srt mcmp (m ++ l1_0)) a1_2 a1_3 a1_4 false w4 (Kd.C_below (Kd.R_reads' HR3.out).2.2 HBA.out) (Kd.R_reads' HR3.out).2.1 (by unfold impl_VersionOk.f; rw [decide_eq_false ok])).mono ?_)
    rintro e w5 ⟨rfl, hb5⟩
    have hb5 : Below w4.heap.size w4 w5 := by first | exact hb5 | exact hb5.below
    have BKr5 := Qz.mk (qo (qo BKr3.out HBA.out) hb5)
    have HB5 := Qz.mk (HBK.out.trans ((HB3.out.trans ((HBA.out.trans (hb5.mono HBA.out.size)).mono HB3.out.size)).mono HBK.out.size))
    clear hb5
    have hq0 := (qd BKr5.out 0).trans rfl
    have hq1 := (qd BKr5.out 1).trans rfl
    have hq2 := (qd BKr5.out 2).trans rfl
    have hq3 := (qd BKr5.out 3).trans rfl
    have hf0 := qe BKr5.out 0
    have hf1 := qe BKr5.out 1
    have hf2 := qe BKr5.out 2
    have hf3 := qe BKr5.out 3
    go_wp2
    exact HF.out _ (put4 BKr5.out) (below4 HB5.out (by omega)) _ rfl rfl HH2.out.symm
theorem yq28 {P : Prop} (h : P := by (with_reducible repeat (first | refine qb ?_ _ | refine qc ?_ | refine qa ?_ _)); exact BK101.out) : P := h
theorem yq29 {P : Prop} (h : P := by (with_reducible repeat (first | refine qb ?_ _ | refine qc ?_ | refine qa ?_ _)); exact BK102.out) : P := h
theorem yq30 {P : Prop} (h : P := by repeat (first | (with_reducible first | exact HB.out | apply qi | apply qg | apply qh | refine qf ?_ GE101.out | refine qf ?_ GE102.out | refine qf ?_ GE103.out) | exact HB.out)) : P := h
theorem yq31 {P : Prop} (h : P := by rw [hg]; exact Nat.ne_of_lt (qy (g := gb101) (o := .cells #[.slice A0_0 l0_0.length c0_0, .int .i64 a0_1, .int .i64 a0_2, .int .i64 a0_3] 32 (0, 0)) yq28)) : P := h
theorem yq32 {P : Prop} (h : P := by rw [hg]; exact Nat.ne_of_gt (qy (g := gb101) (o := .cells #[.slice A0_0 l0_0.length c0_0, .int .i64 a0_1, .int .i64 a0_2, .int .i64 a0_3] 32 (0, 0)) yq28)) : P := h
theorem yq33 {P : Prop} (h : P := by repeat (first | (with_reducible first | exact HB.out | apply qi | apply qg | apply qh | refine qf ?_ GE101.out | refine qf ?_ GE102.out) | exact HB.out)) : P := h
theorem yq34 {P : Prop} (h : P := by repeat (first | (with_reducible first | exact HB.out | apply qi | apply qg | apply qh | refine qf ?_ GE101.out) | exact HB.out)) : P := h
theorem yq35 {P : Prop} (h : P := by (try simp only [List.map_toArray, List.map_cons, List.map_nil]); first | done | rfl | (simp only [List.length_drop, List.length_take]; rfl) | (rw [IntWalk.u64_in _ (by omega)] <;> rfl)) : P := h
theorem yq36 {P : Prop} (h : P := by repeat (first | exact (Kd.C_below HR0_0.out HB.out) | (with_reducible refine Kd.C_alloc ?_ _) | (with_reducible refine Kd.C_drewN ?_ _) | (with_reducible refine Kd.C_drew ?_))) : P := h
theorem yq37 {P : Prop} (h : P := by repeat (first | (with_reducible first | exact HB.out | apply qi | apply qg | apply qh) | exact HB.out)) : P := h
def impl_Apply.f (l0_0 : List (S66)) (a0_1 : Int) (a0_2 : Int) (a0_3 : Int) (l1_0 : List (S66)) (l1_1 : List Int) (a1_2 : Int) (a1_3 : Int) (a1_4 : Int) : Option ((List (S66)) × Int × Int × Int × Bool) := (impl_VersionOk.f l0_0 a0_1 a0_2 a0_3).bind fun t104 => (if t104 = true then ((impl_Version_edited.f l0_0 a0_1 a0_2 a0_3 l1_0 l1_1 a1_2 a1_3 a1_4).bind fun bt105 => (some (bt105.1, bt105.2.1, bt105.2.2.1, bt105.2.2.2.1, bt105.2.2.2.2))) else (some (([] : List (S66)), 0, 0, 0, false)))
set_option maxHeartbeats 8000000 in
set_option maxRecDepth 100000 in
theorem impl_Apply.calls (A0_0 : Option Addr) (c0_0 : Nat) (l0_0 : List (S66)) (a0_1 : Int) (a0_2 : Int) (a0_3 : Int) (A1_0 : Option Addr) (c1_0 : Nat) (l1_0 : List (S66)) (A1_1 : Option Addr) (c1_1 : Nat) (l1_1 : List Int) (a1_2 : Int) (a1_3 : Int) (a1_4 : Int) (r1 : List (S66)) (r2 : Int) (r3 : Int) (r4 : Int) (r5 : Bool) (w : World) (hr0_0 : Kd.C k66 w A0_0 l0_0.length l0_0) (hc0_0 : l0_0.length ≤ c0_0) (hr1_0 : Kd.C k66 w A1_0 l1_0.length l1_0) (hc1_0 : l1_0.length ≤ c1_0) (hr1_1 : Kd.C (Kd.int .i64) w A1_1 l1_1.length l1_1) (hc1_1 : l1_1.length ≤ c1_1) (h : impl_Apply.f l0_0 a0_1 a0_2 a0_3 l1_0 l1_1 a1_2 a1_3 a1_4 = some (r1, r2, r3, r4, r5)) :
  Calls Try.prog 20 #[.agg #[.slice A0_0 l0_0.length c0_0, .int .i64 a0_1, .int .i64 a0_2, .int .i64 a0_3], .agg #[.slice A1_0 l1_0.length c1_0, .slice A1_1 l1_1.length c1_1, .int .i64 a1_2, .int .i64 a1_3, .int .i64 a1_4]] w fun e w' => ∃ v0_ : Value, e = .returned (.tuple #[.agg #[v0_, .int .i64 r2, .int .i64 r3, .int .i64 r4], .bool r5]) ∧ Kd.R k66 66 w' w.heap.size (fun _ => True) v0_ r1 ∧ Below w.heap.size w w' := by
 have hu32 := Try.underlying32
 have hu37 := Try.underlying37
 have HR0_0 := Qz.mk hr0_0
 have HC0_0 := Qz.mk hc0_0
 clear hr0_0 hc0_0
 have HR1_0 := Qz.mk hr1_0
 have HC1_0 := Qz.mk hc1_0
 clear hr1_0 hc1_0
 have HR1_1 := Qz.mk hr1_1
 have HC1_1 := Qz.mk hc1_1
 clear hr1_1 hc1_1
 have HB := Qz.mk (Below.refl w.heap.size w)
 have H : ((impl_VersionOk.f l0_0 a0_1 a0_2 a0_3).bind fun t104 => (if t104 = true then ((impl_Version_edited.f l0_0 a0_1 a0_2 a0_3 l1_0 l1_1 a1_2 a1_3 a1_4).bind fun bt105 => (some (bt105.1, bt105.2.1, bt105.2.2.1, bt105.2.2.2.1, bt105.2.2.2.2))) else (some (([] : List (S66)), 0, 0, 0, false)))) = some (r1, r2, r3, r4, r5) := h
 clear h
 replace H := Option.bind_eq_some_iff.mp H
 obtain ⟨t104, A30, H⟩ := H
 replace H : (if t104 = true then ((impl_Version_edited.f l0_0 a0_1 a0_2 a0_3 l1_0 l1_1 a1_2 a1_3 a1_4).bind fun bt105 => (some (bt105.1, bt105.2.1, bt105.2.2.1, bt105.2.2.2.1, bt105.2.2.2.2))) else (some (([] : List (S66)), 0, 0, 0, false))) = some (r1, r2, r3, r4, r5) := H
 have A3 := Qz.mk A30
 clear A30
 by_cases c4 : t104 = true
 ·subst c4
  have H1 : ((impl_Version_edited.f l0_0 a0_1 a0_2 a0_3 l1_0 l1_1 a1_2 a1_3 a1_4).bind fun bt105 => (some (bt105.1, bt105.2.1, bt105.2.2.1, bt105.2.2.2.1, bt105.2.2.2.2))) = some (r1, r2, r3, r4, r5) := by rw [if_pos rfl] at H; exact H
  clear H
  have H := H1
  clear H1
  replace H := Option.bind_eq_some_iff.mp H
  obtain ⟨⟨t105, t108, t109, t110, t111⟩, A50, H⟩ := H
  replace H : (some (t105, t108, t109, t110, t111)) = some (r1, r2, r3, r4, r5) := H
  have A5 := Qz.mk A50
  clear A50
  simp only [Option.some.injEq, Prod.mk.injEq] at H
  obtain ⟨rfl, rfl, rfl, rfl, rfl⟩ := H
  go_enter Try.func20, Try.ntmps20
  go_wp2_with (first | ((with_reducible refine gate_dst (N := 2) rfl ?_); refine box_event ?hg (N := 2) ?hd (cs := #[.slice A0_0 l0_0.length c0_0, .int .i64 a0_1, .int .i64 a0_2, .int .i64 a0_3]) (t := 32) ?hr ?_; (case hd => rfl); (case hg => rfl); (case hr => first | (go_simp; done) | (go_simp; rfl)); intro gb101 hg w6 hbox hb; have BK101 := Qz.mk (hbox); have GW101 := Qz.mk ((by rw [hg]; exact (qu yq37) : w.heap.size ≤ gb101)); have GE101 := GW101; replace HB := Qz.mk (qp yq37 hb); clear hb hbox hg) | ((with_reducible refine gate_dst (N := 3) rfl ?_); refine box_event ?hg (N := 3) ?hd (cs := #[.slice A1_0 l1_0.length c1_0, .slice A1_1 l1_1.length c1_1, .int .i64 a1_2, .int .i64 a1_3, .int .i64 a1_4]) (t := 37) ?hr ?_; (case hd => rfl); (case hg => rfl); (case hr => first | (go_simp; done) | (go_simp; rfl)); intro gb102 hg w7 hbox hb; have BK102 := Qz.mk (hbox); have GW102 := Qz.mk ((by rw [hg]; exact (qu yq34) : w.heap.size ≤ gb102)); have GE102 := GW102; replace HB := Qz.mk (qp yq34 hb); have NB101_102 := Qz.mk ((yq31 : gb101 ≠ gb102)); have NB102_101 := Qz.mk ((yq32 : gb102 ≠ gb101)); replace BK101 := Qz.mk (qo (g := gb101) (o := .cells #[.slice A0_0 l0_0.length c0_0, .int .i64 a0_1, .int .i64 a0_2, .int .i64 a0_3] 32 (0, 0)) yq28 hb); clear hb hbox hg) | ((with_reducible refine gate_dst (N := 4) rfl ?_); refine box_event ?hg (N := 4) ?hd (cs := #[.slice none 0 0, .int .i64 0, .int .i64 0, .int .i64 0]) (t := 32) ?hr ?_; (case hd => rfl); (case hg => rfl); (case hr => first | (go_simp; done) | (go_simp; rfl)); intro gb103 hg w8 hbox hb; have BK103 := Qz.mk (hbox); have GW103 := Qz.mk ((by rw [hg]; exact (qu yq33) : w.heap.size ≤ gb103)); have GE103 := GW103; replace HB := Qz.mk (qp yq33 hb); have NB101_103 := Qz.mk ((yq31 : gb101 ≠ gb103)); have NB103_101 := Qz.mk ((yq32 : gb103 ≠ gb101)); replace BK101 := Qz.mk (qo (g := gb101) (o := .cells #[.slice A0_0 l0_0.length c0_0, .int .i64 a0_1, .int .i64 a0_2, .int .i64 a0_3] 32 (0, 0)) yq28 hb); have NB102_103 := Qz.mk ((by rw [hg]; exact Nat.ne_of_lt (qy (g := gb102) (o := .cells #[.slice A1_0 l1_0.length c1_0, .slice A1_1 l1_1.length c1_1, .int .i64 a1_2, .int .i64 a1_3, .int .i64 a1_4] 37 (0, 0)) yq29) : gb102 ≠ gb103)); have NB103_102 := Qz.mk ((by rw [hg]; exact Nat.ne_of_gt (qy (g := gb102) (o := .cells #[.slice A1_0 l1_0.length c1_0, .slice A1_1 l1_1.length c1_1, .int .i64 a1_2, .int .i64 a1_3, .int .i64 a1_4] 37 (0, 0)) yq29) : gb103 ≠ gb102)); replace BK102 := Qz.mk (qo (g := gb102) (o := .cells #[.slice A1_0 l1_0.length c1_0, .slice A1_1 l1_1.length c1_1, .int .i64 a1_2, .int .i64 a1_3, .int .i64 a1_4] 37 (0, 0)) yq29 hb); clear hb hbox hg; have hnb9 := NB101_102.out; have hnc9 := NB102_101.out; have hnb10 := NB101_103.out; have hnc10 := NB103_101.out; have hcz11_0 := (qd BK101.out 0).trans rfl; have hcz11_1 := (qd BK101.out 1).trans rfl; have hcz11_2 := (qd BK101.out 2).trans rfl; have hcz11_3 := (qd BK101.out 3).trans rfl; have hfz11_0 := qe BK101.out 0; have hfz11_1 := qe BK101.out 1; have hfz11_2 := qe BK101.out 2; have hfz11_3 := qe BK101.out 3) | ((with_reducible refine qr (f := 27) rfl ?_); refine goesL_ (some 7) rfl rfl Try.func27 (by kernel_rfl) rfl #[.agg #[.slice A0_0 l0_0.length c0_0, .int .i64 a0_1, .int .i64 a0_2, .int .i64 a0_3]] rfl yq35 ?_; (with_reducible refine (impl_VersionOk.calls _ _ l0_0 a0_1 a0_2 a0_3 true _ ?side1 ?side2 A3.out).mono ?_); (case side1 => exact yq36); (case side2 => exact HC0_0.out); rintro e w12 ⟨rfl, hb⟩; refine ⟨_, rfl, ?_⟩; replace BK101 := Qz.mk (qo (g := gb101) (o := .cells #[.slice A0_0 l0_0.length c0_0, .int .i64 a0_1, .int .i64 a0_2, .int .i64 a0_3] 32 (0, 0)) yq28 hb); replace BK102 := Qz.mk (qo (g := gb102) (o := .cells #[.slice A1_0 l1_0.length c1_0, .slice A1_1 l1_1.length c1_1, .int .i64 a1_2, .int .i64 a1_3, .int .i64 a1_4] 37 (0, 0)) yq29 hb); replace BK103 := Qz.mk (qo (g := gb103) (o := .cells #[.slice none 0 0, .int .i64 0, .int .i64 0, .int .i64 0] 32 (0, 0)) (by (with_reducible repeat (first | refine qb ?_ _ | refine qc ?_ | refine qa ?_ _)); exact BK103.out) hb); replace HB := Qz.mk (qp yq30 hb); (try clear hb); (try clear hk); have hcz13_0 := (qd BK101.out 0).trans rfl; have hcz13_1 := (qd BK101.out 1).trans rfl; have hcz13_2 := (qd BK101.out 2).trans rfl; have hcz13_3 := (qd BK101.out 3).trans rfl; have hfz13_0 := qe BK101.out 0; have hfz13_1 := qe BK101.out 1; have hfz13_2 := qe BK101.out 2; have hfz13_3 := qe BK101.out 3; have hnb14 := NB102_103.out; have hnc14 := NB103_102.out; have hcz15_0 := (qd BK102.out 0).trans rfl; have hcz15_1 := (qd BK102.out 1).trans rfl; have hcz15_2 := (qd BK102.out 2).trans rfl; have hcz15_3 := (qd BK102.out 3).trans rfl; have hcz15_4 := (qd BK102.out 4).trans rfl; have hfz15_0 := qe BK102.out 0; have hfz15_1 := qe BK102.out 1; have hfz15_2 := qe BK102.out 2; have hfz15_3 := qe BK102.out 3; have hfz15_4 := qe BK102.out 4) | ((with_reducible refine qr (f := 59) rfl ?_); refine goesL_ (some 12) rfl rfl Try.func59 (by kernel_rfl) rfl #[.agg #[.slice A0_0 l0_0.length c0_0, .int .i64 a0_1, .int .i64 a0_2, .int .i64 a0_3], .agg #[.slice A1_0 l1_0.length c1_0, .slice A1_1 l1_1.length c1_1, .int .i64 a1_2, .int .i64 a1_3, .int .i64 a1_4]] rfl yq35 ?_; (with_reducible refine (impl_Version_edited.calls _ _ l0_0 a0_1 a0_2 a0_3 _ _ l1_0 _ _ l1_1 a1_2 a1_3 a1_4 t105 t108 t109 t110 t111 _ ?side1 ?side2 ?side3 ?side4 ?side5 ?side6 A5.out).mono ?_); (case side1 => exact yq36); (case side2 => exact HC0_0.out); (case side3 => repeat (first | exact (Kd.C_below HR1_0.out HB.out) | (with_reducible refine Kd.C_alloc ?_ _) | (with_reducible refine Kd.C_drewN ?_ _) | (with_reducible refine Kd.C_drew ?_))); (case side4 => exact HC1_0.out); (case side5 => repeat (first | exact (Kd.C_below HR1_1.out HB.out) | (with_reducible refine Kd.C_alloc ?_ _) | (with_reducible refine Kd.C_drewN ?_ _) | (with_reducible refine Kd.C_drew ?_))); (case side6 => exact HC1_1.out); rintro e w16 ⟨v106, rfl, ho0, hb⟩; refine ⟨_, rfl, ?_⟩; have HO107 := Qz.mk (Kd.R_lower ho0 (qu yq30)); replace BK101 := Qz.mk (qo (g := gb101) (o := .cells #[.slice A0_0 l0_0.length c0_0, .int .i64 a0_1, .int .i64 a0_2, .int .i64 a0_3] 32 (0, 0)) yq28 hb); replace BK102 := Qz.mk (qo (g := gb102) (o := .cells #[.slice A1_0 l1_0.length c1_0, .slice A1_1 l1_1.length c1_1, .int .i64 a1_2, .int .i64 a1_3, .int .i64 a1_4] 37 (0, 0)) yq29 hb); replace BK103 := Qz.mk (qo (g := gb103) (o := .cells #[.slice none 0 0, .int .i64 0, .int .i64 0, .int .i64 0] 32 (0, 0)) (by (with_reducible repeat (first | refine qb ?_ _ | refine qc ?_ | refine qa ?_ _)); exact BK103.out) hb); replace HB := Qz.mk (qp yq30 hb); (try clear hb); (try clear hk); (try clear ho0); obtain ⟨Ao17, co17, eo17⟩ := Kd.R_slice HO107.out; subst eo17; have hcz18_0 := (qd BK103.out 0).trans rfl; have hcz18_1 := (qd BK103.out 1).trans rfl; have hcz18_2 := (qd BK103.out 2).trans rfl; have hcz18_3 := (qd BK103.out 3).trans rfl; have hfz18_0 := qe BK103.out 0; have hfz18_1 := qe BK103.out 1; have hfz18_2 := qe BK103.out 2; have hfz18_3 := qe BK103.out 3))
  refine bodyPost_ret (results_ct rfl _ _ gb103 32 #[.slice Ao17 t105.length co17, .int .i64 t108, .int .i64 t109, .int .i64 t110] (0, 0) _ rfl (by (with_reducible repeat (first | refine qb ?_ _ | refine qc ?_ | refine qa ?_ _)); refine qt (cs := #[.slice Ao17 t105.length co17, .int .i64 t108, .int .i64 t109, .int .i64 0]) ?_ 3 _ rfl; (with_reducible repeat (first | refine qb ?_ _ | refine qc ?_ | refine qa ?_ _)); refine qt (cs := #[.slice Ao17 t105.length co17, .int .i64 t108, .int .i64 0, .int .i64 0]) ?_ 2 _ rfl; (with_reducible repeat (first | refine qb ?_ _ | refine qc ?_ | refine qa ?_ _)); refine qt (cs := #[.slice Ao17 t105.length co17, .int .i64 0, .int .i64 0, .int .i64 0]) ?_ 1 _ rfl; (with_reducible repeat (first | refine qb ?_ _ | refine qc ?_ | refine qa ?_ _)); refine qt (cs := #[.slice none 0 0, .int .i64 0, .int .i64 0, .int .i64 0]) ?_ 0 _ rfl; (with_reducible repeat (first | refine qb ?_ _ | refine qc ?_ | refine qa ?_ _)); exact BK103.out) Try.underlying32 rfl (by kernel_rfl)) rfl ?_
  exact ⟨_, by first | rfl | (simp [qw, qv] <;> rfl) | (simp [*, qw, qv] <;> rfl), by (with_reducible repeat (first | apply Kd.R_alloc | apply Kd.R_drewN | apply Kd.R_drew)); exact Kd.R_mono (Kd.R_far (p := ⟨gb103, 3, none⟩) (Kd.R_far (p := ⟨gb103, 2, none⟩) (Kd.R_far (p := ⟨gb103, 1, none⟩) (Kd.R_far (p := ⟨gb103, 0, none⟩) (Kd.R_types HO107.out BK103.out (by decide)) (fun _ hk => hk.2) (.slice Ao17 t105.length co17)) (fun _ hk => hk.2) (.int .i64 t108)) (fun _ hk => hk.2) (.int .i64 t109)) (fun _ hk => hk.2) (.int .i64 t110)) (fun _ hk => trivial), by repeat (first | (with_reducible first | exact HB.out | apply qi | apply qg | apply qh | refine qf ?_ GE101.out | refine qf ?_ GE102.out | refine qf ?_ GE103.out) | exact HB.out)⟩
 ·replace c4 := Bool.eq_false_iff.mpr c4
  subst c4
  have H1 : (some (([] : List (S66)), 0, 0, 0, false)) = some (r1, r2, r3, r4, r5) := by rw [if_neg (show ¬ (false = true) by decide)] at H; exact H
  clear H
  have H := H1
  clear H1
  simp only [Option.some.injEq, Prod.mk.injEq] at H
  obtain ⟨rfl, rfl, rfl, rfl, rfl⟩ := H
  go_enter Try.func20, Try.ntmps20
  go_wp2_with (first | ((with_reducible refine gate_dst (N := 2) rfl ?_); refine box_event ?hg (N := 2) ?hd (cs := #[.slice A0_0 l0_0.length c0_0, .int .i64 a0_1, .int .i64 a0_2, .int .i64 a0_3]) (t := 32) ?hr ?_; (case hd => rfl); (case hg => rfl); (case hr => first | (go_simp; done) | (go_simp; rfl)); intro gb101 hg w19 hbox hb; have BK101 := Qz.mk (hbox); have GW101 := Qz.mk ((by rw [hg]; exact (qu yq37) : w.heap.size ≤ gb101)); have GE101 := GW101; replace HB := Qz.mk (qp yq37 hb); clear hb hbox hg) | ((with_reducible refine gate_dst (N := 3) rfl ?_); refine box_event ?hg (N := 3) ?hd (cs := #[.slice A1_0 l1_0.length c1_0, .slice A1_1 l1_1.length c1_1, .int .i64 a1_2, .int .i64 a1_3, .int .i64 a1_4]) (t := 37) ?hr ?_; (case hd => rfl); (case hg => rfl); (case hr => first | (go_simp; done) | (go_simp; rfl)); intro gb102 hg w20 hbox hb; have BK102 := Qz.mk (hbox); have GW102 := Qz.mk ((by rw [hg]; exact (qu yq34) : w.heap.size ≤ gb102)); have GE102 := GW102; replace HB := Qz.mk (qp yq34 hb); have NB101_102 := Qz.mk ((yq31 : gb101 ≠ gb102)); have NB102_101 := Qz.mk ((yq32 : gb102 ≠ gb101)); replace BK101 := Qz.mk (qo (g := gb101) (o := .cells #[.slice A0_0 l0_0.length c0_0, .int .i64 a0_1, .int .i64 a0_2, .int .i64 a0_3] 32 (0, 0)) yq28 hb); clear hb hbox hg) | ((with_reducible refine gate_dst (N := 4) rfl ?_); refine box_event ?hg (N := 4) ?hd (cs := #[.slice none 0 0, .int .i64 0, .int .i64 0, .int .i64 0]) (t := 32) ?hr ?_; (case hd => rfl); (case hg => rfl); (case hr => first | (go_simp; done) | (go_simp; rfl)); intro gb103 hg w21 hbox hb; have BK103 := Qz.mk (hbox); have GW103 := Qz.mk ((by rw [hg]; exact (qu yq33) : w.heap.size ≤ gb103)); have GE103 := GW103; replace HB := Qz.mk (qp yq33 hb); have NB101_103 := Qz.mk ((yq31 : gb101 ≠ gb103)); have NB103_101 := Qz.mk ((yq32 : gb103 ≠ gb101)); replace BK101 := Qz.mk (qo (g := gb101) (o := .cells #[.slice A0_0 l0_0.length c0_0, .int .i64 a0_1, .int .i64 a0_2, .int .i64 a0_3] 32 (0, 0)) yq28 hb); have NB102_103 := Qz.mk ((by rw [hg]; exact Nat.ne_of_lt (qy (g := gb102) (o := .cells #[.slice A1_0 l1_0.length c1_0, .slice A1_1 l1_1.length c1_1, .int .i64 a1_2, .int .i64 a1_3, .int .i64 a1_4] 37 (0, 0)) yq29) : gb102 ≠ gb103)); have NB103_102 := Qz.mk ((by rw [hg]; exact Nat.ne_of_gt (qy (g := gb102) (o := .cells #[.slice A1_0 l1_0.length c1_0, .slice A1_1 l1_1.length c1_1, .int .i64 a1_2, .int .i64 a1_3, .int .i64 a1_4] 37 (0, 0)) yq29) : gb103 ≠ gb102)); replace BK102 := Qz.mk (qo (g := gb102) (o := .cells #[.slice A1_0 l1_0.length c1_0, .slice A1_1 l1_1.length c1_1, .int .i64 a1_2, .int .i64 a1_3, .int .i64 a1_4] 37 (0, 0)) yq29 hb); clear hb hbox hg; have hnb22 := NB101_102.out; have hnc22 := NB102_101.out; have hnb23 := NB101_103.out; have hnc23 := NB103_101.out; have hcz24_0 := (qd BK101.out 0).trans rfl; have hcz24_1 := (qd BK101.out 1).trans rfl; have hcz24_2 := (qd BK101.out 2).trans rfl; have hcz24_3 := (qd BK101.out 3).trans rfl; have hfz24_0 := qe BK101.out 0; have hfz24_1 := qe BK101.out 1; have hfz24_2 := qe BK101.out 2; have hfz24_3 := qe BK101.out 3) | ((with_reducible refine qr (f := 27) rfl ?_); refine goesL_ (some 7) rfl rfl Try.func27 (by kernel_rfl) rfl #[.agg #[.slice A0_0 l0_0.length c0_0, .int .i64 a0_1, .int .i64 a0_2, .int .i64 a0_3]] rfl yq35 ?_; (with_reducible refine (impl_VersionOk.calls _ _ l0_0 a0_1 a0_2 a0_3 false _ ?side1 ?side2 A3.out).mono ?_); (case side1 => exact yq36); (case side2 => exact HC0_0.out); rintro e w25 ⟨rfl, hb⟩; refine ⟨_, rfl, ?_⟩; replace BK101 := Qz.mk (qo (g := gb101) (o := .cells #[.slice A0_0 l0_0.length c0_0, .int .i64 a0_1, .int .i64 a0_2, .int .i64 a0_3] 32 (0, 0)) yq28 hb); replace BK102 := Qz.mk (qo (g := gb102) (o := .cells #[.slice A1_0 l1_0.length c1_0, .slice A1_1 l1_1.length c1_1, .int .i64 a1_2, .int .i64 a1_3, .int .i64 a1_4] 37 (0, 0)) yq29 hb); replace BK103 := Qz.mk (qo (g := gb103) (o := .cells #[.slice none 0 0, .int .i64 0, .int .i64 0, .int .i64 0] 32 (0, 0)) (by (with_reducible repeat (first | refine qb ?_ _ | refine qc ?_ | refine qa ?_ _)); exact BK103.out) hb); replace HB := Qz.mk (qp yq30 hb); (try clear hb); (try clear hk); have hnb26 := NB103_102.out; have hnc26 := NB102_103.out; have hcz27_0 := (qd BK103.out 0).trans rfl; have hcz27_1 := (qd BK103.out 1).trans rfl; have hcz27_2 := (qd BK103.out 2).trans rfl; have hcz27_3 := (qd BK103.out 3).trans rfl; have hfz27_0 := qe BK103.out 0; have hfz27_1 := qe BK103.out 1; have hfz27_2 := qe BK103.out 2; have hfz27_3 := qe BK103.out 3))
  refine bodyPost_ret (results_ct rfl _ _ gb103 32 #[.slice none 0 0, .int .i64 0, .int .i64 0, .int .i64 0] (0, 0) _ rfl (by (with_reducible repeat (first | refine qb ?_ _ | refine qc ?_ | refine qa ?_ _)); refine qt (cs := #[.slice none 0 0, .int .i64 0, .int .i64 0, .int .i64 0]) ?_ 3 _ rfl; (with_reducible repeat (first | refine qb ?_ _ | refine qc ?_ | refine qa ?_ _)); refine qt (cs := #[.slice none 0 0, .int .i64 0, .int .i64 0, .int .i64 0]) ?_ 2 _ rfl; (with_reducible repeat (first | refine qb ?_ _ | refine qc ?_ | refine qa ?_ _)); refine qt (cs := #[.slice none 0 0, .int .i64 0, .int .i64 0, .int .i64 0]) ?_ 1 _ rfl; (with_reducible repeat (first | refine qb ?_ _ | refine qc ?_ | refine qa ?_ _)); refine qt (cs := #[.slice none 0 0, .int .i64 0, .int .i64 0, .int .i64 0]) ?_ 0 _ rfl; (with_reducible repeat (first | refine qb ?_ _ | refine qc ?_ | refine qa ?_ _)); exact BK103.out) Try.underlying32 rfl (by kernel_rfl)) rfl ?_
  exact ⟨_, by first | rfl | (simp [qw, qv] <;> rfl) | (simp [*, qw, qv] <;> rfl), by first | exact Kd.R_nil _ _ _ _ _ | exact Kd.N_nil _ _ _ _ _ | exact Kd.V_nil _ _ _ _ _ | exact Kd.Q_nil _ _ _ _ _ | exact Kd.S_nil _ _ _ _ _, by repeat (first | (with_reducible first | exact HB.out | apply qi | apply qg | apply qh | refine qf ?_ GE101.out | refine qf ?_ GE102.out | refine qf ?_ GE103.out) | exact HB.out)⟩
def laws_big.f (l0 : List Int) : Option (Bool) := some (decide ((l0.length : Int) > 1048576))
set_option maxHeartbeats 8000000 in
set_option maxRecDepth 100000 in
theorem laws_big.calls (A0 : Option Addr) (c0 : Nat) (l0 : List Int) (r : Bool) (w : World) (hr0 : Kd.C (Kd.int .u8) w A0 l0.length l0) (hc0 : l0.length ≤ c0) (h : laws_big.f l0 = some r) :
  Calls Try.prog 36 #[.slice A0 l0.length c0] w fun e w' => e = .returned (.bool r) ∧ Drawn0 w w' := by
 have HR0 := Qz.mk hr0
 have HC0 := Qz.mk hc0
 clear hr0 hc0
 have H : (some (decide ((l0.length : Int) > 1048576))) = some r := h
 clear h
 obtain rfl := Option.some.inj H
 go_enter Try.func36, Try.ntmps36
 go_wp2
 go_ret
 exact ⟨by first | rfl | (simp; done) | (simp [*]; done), by repeat (first | exact Drawn0.refl _ | apply Drawn0.step)⟩
def IsS123 (w0 W : World) (g : Nat) (f0 : List Int) (f1 : Int) : Prop := ∃ A0 c0, W.heap[g]? = some (.cells #[.slice A0 f0.length c0, .int .i64 f1] 123 (0, 0)) ∧ w0.heap.size ≤ g ∧ Kd.C (Kd.int .u8) w0 A0 f0.length f0
theorem IsS123.grown {w0 W : World} {g : Nat} {f0 : List Int} {f1 : Int} {W1 : World} {row : Option Nat} (h : IsS123 w0 W g f0 f1) (hw : W.grownBy W1 row) (hne : some g ≠ row) : IsS123 w0 W1 g f0 f1 := by
 obtain ⟨A0, c0, hb, hg, hr0⟩ := h
 exact ⟨A0, c0, qd1 hb hw hne, hg, hr0⟩
theorem IsS123.kept {w0 W : World} {g : Nat} {f0 : List Int} {f1 : Int} {W1 : World} {S : Nat → Prop} (h : IsS123 w0 W g f0 f1) (hk : Kept W W1 S) (hne : ¬ S g) : IsS123 w0 W1 g f0 f1 := by
 obtain ⟨A0, c0, hb, hg, hr0⟩ := h
 exact ⟨A0, c0, blk_kept hb hk hne, hg, hr0⟩
theorem IsS123.below {w0 W : World} {g : Nat} {f0 : List Int} {f1 : Int} {W1 : World} (h : IsS123 w0 W g f0 f1) (hw : Below W.heap.size W W1) : IsS123 w0 W1 g f0 f1 := h.grown (grown_of_below hw none) (by simp)
theorem IsS123.alloc {w0 W : World} {g : Nat} {f0 : List Int} {f1 : Int} (h : IsS123 w0 W g f0 f1) (o : Obj) : IsS123 w0 (W.alloc o) g f0 f1 := h.below (qi (Below.refl _ _) o)
theorem IsS123.drewN {w0 W : World} {g : Nat} {f0 : List Int} {f1 : Int} (h : IsS123 w0 W g f0 f1) (m : Nat) : IsS123 w0 (W.drewN m) g f0 f1 := h
theorem IsS123.drew {w0 W : World} {g : Nat} {f0 : List Int} {f1 : Int} (h : IsS123 w0 W g f0 f1) : IsS123 w0 W.drew g f0 f1 := h
theorem IsS123.at_ {w0 W : World} {g : Nat} {f0 : List Int} {f1 : Int} {w' : World} {m : Nat} (hq : W.drewN m = w') (h : IsS123 w0 W g f0 f1) : IsS123 w0 w' g f0 f1 := by subst hq; exact IsS123.drewN h m
theorem IsS123.apart {w0 W : World} {g : Nat} {f0 : List Int} {f1 : Int} {α : Type} {d : Kd α} {e : Nat} {base : Nat} {ok : Nat → Prop} {v : Value} {xs : List α} (h : IsS123 w0 W g f0 f1) (ho : d.R e W base ok v xs) (ht : ∀ q, q ∈ e :: d.E → q ≠ 123) : d.R e W base (fun k => ok k ∧ k ≠ g) v xs := by
 obtain ⟨A0, c0, hb, hg, hr0⟩ := h
 exact Kd.R_types ho hb ht
theorem IsS123.own_ne {w0 W : World} {g : Nat} {f0 : List Int} {f1 : Int} {α : Type} {d : Kd α} {e : Nat} {base : Nat} {ok : Nat → Prop} {v : Value} {xs : List α} (h : IsS123 w0 W g f0 f1) (ho : d.R e W base ok v xs) (ht : e ≠ 123) : some g ≠ v.ownBlock := by
 obtain ⟨A0, c0, hb, hg, hr0⟩ := h
 exact Kd.R_ne ho hb ht
theorem IsS123.lt {w0 W : World} {g : Nat} {f0 : List Int} {f1 : Int} (h : IsS123 w0 W g f0 f1) : g < W.heap.size := by
 obtain ⟨A0, c0, hb, hg, hr0⟩ := h
 exact qy hb
theorem IsS123.ge {w0 W : World} {g : Nat} {f0 : List Int} {f1 : Int} (h : IsS123 w0 W g f0 f1) : w0.heap.size ≤ g := by
 obtain ⟨A0, c0, hb, hg, hr0⟩ := h
 exact hg
theorem IsS123.ne_blk {w0 W : World} {g : Nat} {f0 : List Int} {f1 : Int} {a : Nat} {cs : Array Value} {t : TypeId} {fr : Nat × Nat} (h : IsS123 w0 W g f0 f1) (hb2 : W.heap[a]? = some (.cells cs t fr)) (ht : t ≠ 123) : g ≠ a := by
 obtain ⟨A0, c0, hb, hg, hr0⟩ := h
 rintro rfl
 rw [hb] at hb2
 injection hb2 with hb2
 injection hb2 with _ ht2
 exact ht ht2.symm
theorem IsS123.far {w0 W : World} {g : Nat} {f0 : List Int} {f1 : Int} {p : Addr} (h : IsS123 w0 W g f0 f1) (hne : g ≠ p.block) (u : Value) : IsS123 w0 (W.setCell p u) g f0 f1 := by
 obtain ⟨A0, c0, hb, hg, hr0⟩ := h
 exact ⟨A0, c0, qq hb hne u, hg, hr0⟩
theorem cellS123_0 {W : World} {g : Nat} {A0 : Option Addr} {c0 : Nat} {f0 : List Int} {f1 : Int} (h : W.heap[g]? = some (.cells #[.slice A0 f0.length c0, .int .i64 f1] 123 (0, 0))) : W.cell? ⟨g, 0, none⟩ = some (.slice A0 f0.length c0) := (qd h 0).trans rfl
theorem cellS123_1 {W : World} {g : Nat} {A0 : Option Addr} {c0 : Nat} {f0 : List Int} {f1 : Int} (h : W.heap[g]? = some (.cells #[.slice A0 f0.length c0, .int .i64 f1] 123 (0, 0))) : W.cell? ⟨g, 1, none⟩ = some (.int .i64 f1) := (qd h 1).trans rfl
theorem IsS123.set_1 {w0 W : World} {g : Nat} {f0 : List Int} {f1 : Int} (h : IsS123 w0 W g f0 f1) (x : Int) : IsS123 w0 (W.setCell ⟨g, 1, none⟩ (.int .i64 x)) g f0 x := by
 obtain ⟨A0, c0, hb, hg, hr0⟩ := h
 exact ⟨A0, c0, by simpa using blk_set hb 1 (.int .i64 x), hg, hr0⟩
def spec_l1Open.f (l0 : List Int) : Option (List Int × Int) := some (l0, 0)
set_option maxHeartbeats 8000000 in
set_option maxRecDepth 100000 in
theorem spec_l1Open.calls (A0 : Option Addr) (c0 : Nat) (l0 : List Int) (r1 : List Int) (r2 : Int) (w0 w : World) (hB : Below w0.heap.size w0 w) (hr0 : Kd.C (Kd.int .u8) w0 A0 l0.length l0) (hc0 : l0.length ≤ c0) (h : spec_l1Open.f l0 = some (r1, r2)) :
  Calls Try.prog 70 #[.slice A0 l0.length c0] w fun e w' => ∃ g_ : Nat, e = .returned (.pointer (some ⟨g_, 0, none⟩)) ∧ IsS123 w0 w' g_ r1 r2 ∧ Below w0.heap.size w0 w' ∧ Below w.heap.size w w' := by
 have hu123 := Try.underlying123
 have HR0 := Qz.mk hr0
 have HC0 := Qz.mk hc0
 clear hr0 hc0
 have HBW := Qz.mk (Below.refl w.heap.size w)
 have HW0 := Qz.mk hB.size
 have HB := Qz.mk hB
 clear hB
 have H : (some (l0, 0)) = some (r1, r2) := h
 clear h
 simp only [Option.some.injEq, Prod.mk.injEq] at H
 obtain ⟨rfl, rfl⟩ := H
 go_enter Try.func70, Try.ntmps70
 go_wp2_with (first | ((with_reducible refine gate_dst (N := 5) rfl ?_); refine box_event ?hg (N := 5) ?hd (cs := #[.slice A0 l0.length c0, .int .i64 0]) (t := 123) ?hr ?_; (case hd => rfl); (case hg => rfl); (case hr => first | (go_simp; done) | (go_simp; rfl)); intro gb101 hg w2 hbox hb; replace HB := Qz.mk (qp (by repeat (first | (with_reducible first | exact HB.out | apply qi | apply qg | apply qh) | exact HB.out)) hb); have BK101 := Qz.mk (hbox); have GW101 := Qz.mk ((by rw [hg]; exact (qu (by repeat (first | (with_reducible first | exact HBW.out | apply qi | apply qg | apply qh) | exact HBW.out))) : w.heap.size ≤ gb101)); have GE101 := Qz.mk ((Nat.le_trans HW0.out (by rw [hg]; exact (qu (by repeat (first | (with_reducible first | exact HBW.out | apply qi | apply qg | apply qh) | exact HBW.out))) : w.heap.size ≤ gb101) : w0.heap.size ≤ gb101)); replace HBW := Qz.mk (qp HBW.out hb); clear hb hbox hg))
 go_ret
 exact ⟨_, rfl, (show IsS123 w0 _ gb101 l0 0 from ⟨_, _, by (with_reducible repeat (first | refine qb ?_ _ | refine qc ?_ | refine qa ?_ _)); exact BK101.out, GE101.out, HR0.out⟩), by repeat (first | (with_reducible first | exact HB.out | apply qi | apply qg | apply qh | refine qf ?_ GE101.out) | exact HB.out), by repeat (first | (with_reducible first | exact HBW.out | apply qi | apply qg | apply qh | refine qf ?_ GW101.out) | exact HBW.out)⟩
def spec_l1Rd_next.f (s0_0 : List Int) (s0_1 : Int) : Option (Int × Int) := if s0_1 ≥ (s0_0.length : Int) then (some (0, s0_1)) else (if 0 ≤ (wrap64 ((wrap64 (s0_1 + 1)) - 1)) then (if (wrap64 ((wrap64 (s0_1 + 1)) - 1)) < (s0_0.length : Int) then (some (wrap64 (rd s0_0 (wrap64 ((wrap64 (s0_1 + 1)) - 1))), wrap64 (s0_1 + 1))) else (none)) else (none))
set_option maxHeartbeats 8000000 in
set_option maxRecDepth 100000 in
theorem spec_l1Rd_next.calls (g : Nat) (s0_0 : List Int) (s0_1 : Int) (r1 : Int) (r2 : Int) (w0 w : World) (hI : IsS123 w0 w g s0_0 s0_1) (hB : Below w0.heap.size w0 w) (h : spec_l1Rd_next.f s0_0 s0_1 = some (r1, r2)) :
  Calls Try.prog 109 #[.pointer (some ⟨g, 0, none⟩)] w fun e w' => e = .returned (.int .i64 r1) ∧ IsS123 w0 w' g s0_0 r2 ∧ Below w0.heap.size w0 w' ∧ KeepBut w w' g none := by
 have HI0 := Qz.mk hI
 have HK := Qz.mk (KeepBut.refl w g none)
 have HL := Qz.mk hB.size
 clear hI
 have HW0 := Qz.mk hB.size
 have HB := Qz.mk hB
 clear hB
 have H : (if s0_1 ≥ (s0_0.length : Int) then (some (0, s0_1)) else (if 0 ≤ (wrap64 ((wrap64 (s0_1 + 1)) - 1)) then (if (wrap64 ((wrap64 (s0_1 + 1)) - 1)) < (s0_0.length : Int) then (some (wrap64 (rd s0_0 (wrap64 ((wrap64 (s0_1 + 1)) - 1))), wrap64 (s0_1 + 1))) else (none)) else (none))) = some (r1, r2) := h
 clear h
 by_cases c2 : s0_1 ≥ (s0_0.length : Int)
 ·rw [if_pos c2] at H
  have c2b0 : decide ((s0_0.length : Int) ≤ s0_1) = true := decide_eq_true c2
  clear c2
  simp only [Option.some.injEq, Prod.mk.injEq] at H
  obtain ⟨rfl, rfl⟩ := H
  obtain ⟨ASz3_0, cSz3_0, HGz3, hgz3, HSz3_0⟩ := HI0.out
  have hcz3_0 := cellS123_0 HGz3
  have hcz3_1 := cellS123_1 HGz3
  have hfz3_1 := qe HGz3 1
  clear HGz3 hgz3
  go_enter Try.func109, Try.ntmps109
  go_wp2
  repeat (go_quiet (fail); try go_wp2)
  go_ret
  exact ⟨by first | rfl | (simp [qw, qv] <;> rfl) | (simp [*, qw, qv] <;> rfl), by repeat (first | (with_reducible first | exact HI0.out | apply IsS123.alloc | apply IsS123.drewN | apply IsS123.drew | apply IsS123.set_1) | exact HI0.out), by repeat (first | (with_reducible first | exact HB.out | apply qi | apply qg | apply qh | refine qf ?_ (IsS123.ge HI0.out)) | exact HB.out), by repeat (first | (with_reducible first | exact HK.out | apply KeepBut.set_ | apply qk | apply qn | apply ql) | exact HK.out)⟩
 ·rw [if_neg c2] at H
  have c2b0 : decide ((s0_0.length : Int) ≤ s0_1) = false := decide_eq_false c2
  clear c2
  obtain ⟨ji4, hji4⟩ : ∃ j_ : Int, (wrap64 ((wrap64 (s0_1 + 1)) - 1)) = j_ := ⟨_, rfl⟩
  replace H : (if 0 ≤ (ji4) then (if (ji4) < (s0_0.length : Int) then (some (wrap64 (rd s0_0 (ji4)), wrap64 (s0_1 + 1))) else (none)) else (none)) = some (r1, r2) := by first | (rw [hji4] at H; exact H) | (simp only [hji4] at H ⊢; exact H)
  have hji4w : (IntKind.i64.wrap ((wrap64 (s0_1 + 1)) - 1)) = ji4 := (i64_w _).trans hji4
  by_cases c5 : 0 ≤ (ji4)
  ·rw [if_pos c5] at H
   have c5b0 : decide (0 ≤ (ji4)) = true := decide_eq_true c5
   clear c5
   by_cases c6 : (ji4) < (s0_0.length : Int)
   ·rw [if_pos c6] at H
    have c6b0 : decide ((ji4) < (s0_0.length : Int)) = true := decide_eq_true c6
    clear c6
    simp only [Option.some.injEq, Prod.mk.injEq] at H
    obtain ⟨rfl, rfl⟩ := H
    obtain ⟨ASz7_0, cSz7_0, HGz7, hgz7, HSz7_0⟩ := HI0.out
    have hcz7_0 := cellS123_0 HGz7
    have hcz7_1 := cellS123_1 HGz7
    have hfz7_1 := qe HGz7 1
    clear HGz7 hgz7
    have p101 : 0 ≤ ((ji4) : Int) := of_decide_eq_true (by first | (with_reducible assumption) | assumption)
    have q101 : (ji4) < (s0_0.length : Int) := of_decide_eq_true (by first | (with_reducible assumption) | assumption)
    obtain ⟨ad101, e101, hx101_0⟩ := Kd.at_int HSz7_0 (ji4) p101 q101
    cases e101
    have hn101_0 : ad101.block ≠ g := Nat.ne_of_lt (Nat.lt_of_lt_of_le (by have := World.block_lt_of_cell? _ _ hx101_0; first | rwa [add_block] at this | exact this) (IsS123.ge HI0.out))
    replace hx101_0 := pw_cell_below HB.out hx101_0
    replace hx101_0 := (qx (p := ⟨g, 1, none⟩) (by first | (rw [add_block]; exact hn101_0) | (show (Addr.add _ _).block ≠ _; rw [add_block]; exact hn101_0) | exact hn101_0) (.int .i64 (wrap64 (s0_1 + 1)))).trans hx101_0
    (try have hy101_0 := fun (n_ : Nat) => (show (((w.drewN n_).setCell ⟨g, 1, none⟩ (.int .i64 (wrap64 (s0_1 + 1))))).cell? _ = some _ from hx101_0))
    clear hn101_0
    replace p101 := eq_true p101
    replace q101 := eq_true q101
    go_enter Try.func109, Try.ntmps109
    go_wp2
    repeat (go_quiet (fail); try go_wp2)
    go_ret
    exact ⟨by first | rfl | (simp [qw, qv] <;> rfl) | (simp only [← hji4]; first | rfl | (simp [qw, qv] <;> rfl)) | (simp [*, qw, qv] <;> rfl), by repeat (first | (with_reducible first | exact HI0.out | apply IsS123.alloc | apply IsS123.drewN | apply IsS123.drew | apply IsS123.set_1) | exact HI0.out), by repeat (first | (with_reducible first | exact HB.out | apply qi | apply qg | apply qh | refine qf ?_ (IsS123.ge HI0.out)) | exact HB.out), by repeat (first | (with_reducible first | exact HK.out | apply KeepBut.set_ | apply qk | apply qn | apply ql) | exact HK.out)⟩
   ·rw [if_neg c6] at H
    exact absurd H (by simp)
  ·rw [if_neg c5] at H
   exact absurd H (by simp)
def spec_l1Rd_word.l0 : Nat → Int → Int → List Int → Int → Option (Int × Int)
 | 0, _, _, _, _ => none
 | k + 1, x3, x4, x1000, x1001 => if x4 < 8 then ((spec_l1Rd_next.f x1000 x1001).bind fun bt101 => (spec_l1Rd_word.l0 k (Go.bits .or .u64 (IntKind.u64.wrap (x3 * 256)) (IntKind.u64.wrap (bt101.1))) (wrap64 (x4 + 1)) x1000 bt101.2)) else (some (x3, x1001))
def spec_l1Rd_word.f (k : Nat) (s0_0 : List Int) (s0_1 : Int) : Option (Int × Int) := spec_l1Rd_word.l0 k 0 0 s0_0 s0_1
set_option maxHeartbeats 8000000 in
set_option maxRecDepth 100000 in
theorem spec_l1Rd_word.calls (k : Nat) (g : Nat) (s0_0 : List Int) (s0_1 : Int) (r1 : Int) (r2 : Int) (w0 w : World) (hI : IsS123 w0 w g s0_0 s0_1) (hB : Below w0.heap.size w0 w) (h : spec_l1Rd_word.f k s0_0 s0_1 = some (r1, r2)) :
  Calls Try.prog 119 #[.pointer (some ⟨g, 0, none⟩)] w fun e w' => e = .returned (.int .u64 r1) ∧ IsS123 w0 w' g s0_0 r2 ∧ Below w0.heap.size w0 w' ∧ KeepBut w w' g none := by
 have HI0 := Qz.mk hI
 have HK := Qz.mk (KeepBut.refl w g none)
 have HL := Qz.mk hB.size
 clear hI
 have HW0 := Qz.mk hB.size
 have HB := Qz.mk hB
 clear hB
 have H : (spec_l1Rd_word.l0 k 0 0 s0_0 s0_1) = some (r1, r2) := h
 clear h
 have H' := Qz.mk H
 clear H
 go_enter Try.func119, Try.ntmps119
 go_wp2
 go_loopg [3, 4] k (fun kq v3 v4 w' => ∃ (x3_1 : Int) (x4_1 : Int) (x1001_1 : Int), v3 = .int .u64 x3_1 ∧ v4 = .int .i64 x4_1 ∧ Qz (spec_l1Rd_word.l0 kq x3_1 x4_1 s0_0 x1001_1 = some (r1, r2)) ∧ Qz (kq ≤ k) ∧ Qz (IsS123 w0 w' g s0_0 x1001_1) ∧ Qz (KeepBut w w' g none) ∧ Qz (Below w0.heap.size w0 w'))
 case atStart => exact ⟨(0), (0), (s0_1), (by first | rfl | (simp; done) | (simp [*]; done)), (by first | rfl | (simp; done) | (simp [*]; done)), H', ⟨Nat.le_refl _⟩, ⟨by repeat (first | (with_reducible first | exact HI0.out | apply IsS123.alloc | apply IsS123.drewN | apply IsS123.drew | apply IsS123.set_1) | exact HI0.out)⟩, ⟨by repeat (first | (with_reducible first | exact HK.out | apply KeepBut.set_ | apply qk | apply qn | apply ql) | exact HK.out)⟩, ⟨by repeat (first | (with_reducible first | exact HB.out | apply qi | apply qg | apply qh | refine qf ?_ (IsS123.ge HI0.out)) | exact HB.out)⟩⟩
 case round =>
  clear H'
  try clear c1
  obtain ⟨x3_1, x4_1, x1001_1, rfl, rfl, HA, HK1, HI0, HK, HB⟩ := hrel
  cases gk with
  | zero => exact absurd HA.out (by simp [spec_l1Rd_word.l0])
  | succ k1 =>
   have H := HA.out
   clear HA
   simp only [spec_l1Rd_word.l0] at H
   by_cases c2 : x4_1 < 8
   ·rw [if_pos c2] at H
    have c2b0 : decide (x4_1 < 8) = true := decide_eq_true c2
    clear c2
    replace H := Option.bind_eq_some_iff.mp H
    obtain ⟨⟨t101, t102⟩, A30, H⟩ := H
    replace H : (spec_l1Rd_word.l0 k1 (Go.bits .or .u64 (IntKind.u64.wrap (x3_1 * 256)) (IntKind.u64.wrap (t101))) (wrap64 (x4_1 + 1)) s0_0 t102) = some (r1, r2) := H
    have A3 := Qz.mk A30
    clear A30
    have H' := Qz.mk H
    clear H
    go_wp2_with (first | ((with_reducible refine qr (f := 109) rfl ?_); refine goesL_ (some 12) rfl rfl Try.func109 (by kernel_rfl) rfl #[.pointer (some ⟨g, 0, none⟩)] rfl (by (try simp only [List.map_toArray, List.map_cons, List.map_nil]); first | done | rfl) ?_; (with_reducible refine (spec_l1Rd_next.calls g s0_0 x1001_1 t101 t102 w0 _ ?side1 ?side2 A3.out).mono ?_); (case side1 => repeat (first | (with_reducible first | exact HI0.out | apply IsS123.alloc | apply IsS123.drewN | apply IsS123.drew | apply IsS123.set_1) | exact HI0.out)); (case side2 => repeat (first | (with_reducible first | exact HB.out | apply qi | apply qg | apply qh | refine qf ?_ (IsS123.ge HI0.out)) | exact HB.out)); rintro e w4 ⟨rfl, hi, hb, hk⟩; refine ⟨_, rfl, ?_⟩; replace HK := Qz.mk (KeepBut.trans (by repeat (first | (with_reducible first | exact HK.out | apply KeepBut.set_ | apply qk | apply qn | apply ql) | exact HK.out)) hk (.inl rfl)); replace HB := Qz.mk (hb); replace HI0 := Qz.mk (hi); (try clear hb); (try clear hk); (try clear hi)))
    go_roundg k1
    case measure => have := HK1.out; omega
    case rel => exact ⟨(Go.bits .or .u64 (IntKind.u64.wrap (x3_1 * 256)) (IntKind.u64.wrap (t101))), (wrap64 (x4_1 + 1)), (t102), (by first | rfl | (simp; done) | (simp [*]; done)), (by first | rfl | (simp; done) | (simp [*]; done)), H', ⟨by have := HK1.out; omega⟩, ⟨by repeat (first | (with_reducible first | exact HI0.out | apply IsS123.alloc | apply IsS123.drewN | apply IsS123.drew | apply IsS123.set_1) | exact HI0.out)⟩, ⟨by repeat (first | (with_reducible first | exact HK.out | apply KeepBut.set_ | apply qk | apply qn | apply ql) | exact HK.out)⟩, ⟨by repeat (first | (with_reducible first | exact HB.out | apply qi | apply qg | apply qh | refine qf ?_ (IsS123.ge HI0.out)) | exact HB.out)⟩⟩
   ·rw [if_neg c2] at H
    have c2b0 : decide (x4_1 < 8) = false := decide_eq_false c2
    clear c2
    simp only [Option.some.injEq, Prod.mk.injEq] at H
    obtain ⟨rfl, rfl⟩ := H
    go_wp2
    go_ret
    exact ⟨by first | rfl | (simp [qw, qv] <;> rfl) | (simp [*, qw, qv] <;> rfl), by repeat (first | (with_reducible first | exact HI0.out | apply IsS123.alloc | apply IsS123.drewN | apply IsS123.drew | apply IsS123.set_1) | exact HI0.out), by repeat (first | (with_reducible first | exact HB.out | apply qi | apply qg | apply qh | refine qf ?_ (IsS123.ge HI0.out)) | exact HB.out), by repeat (first | (with_reducible first | exact HK.out | apply KeepBut.set_ | apply qk | apply qn | apply ql) | exact HK.out)⟩
theorem yq38 {P : Prop} (h : P := by repeat (first | (with_reducible first | exact HI0.out | apply IsS123.alloc | apply IsS123.drewN | apply IsS123.drew | apply IsS123.set_1) | exact HI0.out)) : P := h
theorem yq39 {P : Prop} (h : P := by repeat (first | (with_reducible first | exact HB.out | apply qi | apply qg | apply qh | refine qf ?_ (IsS123.ge HI0.out)) | exact HB.out)) : P := h
theorem yq40 {P : Prop} (h : P := by repeat (first | (with_reducible first | exact HK.out | apply KeepBut.set_ | apply qk | apply qn | apply ql) | exact HK.out)) : P := h
def spec_l1Rd_below.f (s0_0 : List Int) (s0_1 : Int) (a1 : Int) : Option (Int × Int) := if a1 ≤ 1 then (some (0, s0_1)) else (if a1 ≤ 256 then ((spec_l1Rd_next.f s0_0 s0_1).bind fun bt101 => (if a1 = 0 then (none) else (some (Int.tmod bt101.1 a1, bt101.2)))) else ((spec_l1Rd_next.f s0_0 s0_1).bind fun bt103 => ((spec_l1Rd_next.f s0_0 bt103.2).bind fun bt105 => (if a1 = 0 then (none) else (some (Int.tmod (wrap64 ((wrap64 (bt103.1 * 256)) + bt105.1)) a1, bt105.2))))))
set_option maxHeartbeats 8000000 in
set_option maxRecDepth 100000 in
theorem spec_l1Rd_below.calls (g : Nat) (s0_0 : List Int) (s0_1 : Int) (a1 : Int) (r1 : Int) (r2 : Int) (w0 w : World) (hI : IsS123 w0 w g s0_0 s0_1) (hB : Below w0.heap.size w0 w) (h : spec_l1Rd_below.f s0_0 s0_1 a1 = some (r1, r2)) :
  Calls Try.prog 80 #[.pointer (some ⟨g, 0, none⟩), .int .i64 a1] w fun e w' => e = .returned (.int .i64 r1) ∧ IsS123 w0 w' g s0_0 r2 ∧ Below w0.heap.size w0 w' ∧ KeepBut w w' g none := by
 have HI0 := Qz.mk hI
 have HK := Qz.mk (KeepBut.refl w g none)
 have HL := Qz.mk hB.size
 clear hI
 have HW0 := Qz.mk hB.size
 have HB := Qz.mk hB
 clear hB
 have H : (if a1 ≤ 1 then (some (0, s0_1)) else (if a1 ≤ 256 then ((spec_l1Rd_next.f s0_0 s0_1).bind fun bt101 => (if a1 = 0 then (none) else (some (Int.tmod bt101.1 a1, bt101.2)))) else ((spec_l1Rd_next.f s0_0 s0_1).bind fun bt103 => ((spec_l1Rd_next.f s0_0 bt103.2).bind fun bt105 => (if a1 = 0 then (none) else (some (Int.tmod (wrap64 ((wrap64 (bt103.1 * 256)) + bt105.1)) a1, bt105.2))))))) = some (r1, r2) := h
 clear h
 by_cases c3 : a1 ≤ 1
 ·rw [if_pos c3] at H
  have c3b0 : decide (a1 ≤ 1) = true := decide_eq_true c3
  clear c3
  simp only [Option.some.injEq, Prod.mk.injEq] at H
  obtain ⟨rfl, rfl⟩ := H
  go_enter Try.func80, Try.ntmps80
  go_wp2
  go_ret
  exact ⟨by first | rfl | (simp [qw, qv] <;> rfl) | (simp [*, qw, qv] <;> rfl), by repeat (first | (with_reducible first | exact HI0.out | apply IsS123.alloc | apply IsS123.drewN | apply IsS123.drew | apply IsS123.set_1) | exact HI0.out), by repeat (first | (with_reducible first | exact HB.out | apply qi | apply qg | apply qh | refine qf ?_ (IsS123.ge HI0.out)) | exact HB.out), by repeat (first | (with_reducible first | exact HK.out | apply KeepBut.set_ | apply qk | apply qn | apply ql) | exact HK.out)⟩
 ·rw [if_neg c3] at H
  have c3b0 : decide (a1 ≤ 1) = false := decide_eq_false c3
  clear c3
  by_cases c4 : a1 ≤ 256
  ·rw [if_pos c4] at H
   have c4b0 : decide (a1 ≤ 256) = true := decide_eq_true c4
   clear c4
   replace H := Option.bind_eq_some_iff.mp H
   obtain ⟨⟨t101, t102⟩, A50, H⟩ := H
   replace H : (if a1 = 0 then (none) else (some (Int.tmod t101 a1, t102))) = some (r1, r2) := H
   have A5 := Qz.mk A50
   clear A50
   by_cases c6 : a1 = 0
   ·rw [if_pos c6] at H
    exact absurd H (by simp)
   ·rw [if_neg c6] at H
    have c6b0 : (a1 == 0) = false := beq_eq_false_iff_ne.mpr c6
    have c6b1 : (a1 != 0) = true := bne_iff_ne.mpr c6
    simp only [Option.some.injEq, Prod.mk.injEq] at H
    obtain ⟨rfl, rfl⟩ := H
    go_enter Try.func80, Try.ntmps80
    go_wp2_with (first | ((with_reducible refine qr (f := 109) rfl ?_); refine goesL_ (some 11) rfl rfl Try.func109 (by kernel_rfl) rfl #[.pointer (some ⟨g, 0, none⟩)] rfl (by (try simp only [List.map_toArray, List.map_cons, List.map_nil]); first | done | rfl) ?_; (with_reducible refine (spec_l1Rd_next.calls g s0_0 s0_1 t101 t102 w0 _ ?side1 ?side2 A5.out).mono ?_); (case side1 => exact yq38); (case side2 => exact yq39); rintro e w7 ⟨rfl, hi, hb, hk⟩; refine ⟨_, rfl, ?_⟩; replace HK := Qz.mk (KeepBut.trans yq40 hk (.inl rfl)); replace HB := Qz.mk (hb); replace HI0 := Qz.mk (hi); (try clear hb); (try clear hk); (try clear hi)))
    go_ret
    exact ⟨by first | rfl | (simp [qw, qv] <;> rfl) | (simp [*, qw, qv] <;> rfl), by repeat (first | (with_reducible first | exact HI0.out | apply IsS123.alloc | apply IsS123.drewN | apply IsS123.drew | apply IsS123.set_1) | exact HI0.out), by repeat (first | (with_reducible first | exact HB.out | apply qi | apply qg | apply qh | refine qf ?_ (IsS123.ge HI0.out)) | exact HB.out), by repeat (first | (with_reducible first | exact HK.out | apply KeepBut.set_ | apply qk | apply qn | apply ql) | exact HK.out)⟩
  ·rw [if_neg c4] at H
   have c4b0 : decide (a1 ≤ 256) = false := decide_eq_false c4
   clear c4
   replace H := Option.bind_eq_some_iff.mp H
   obtain ⟨⟨t103, t104⟩, A80, H⟩ := H
   replace H : ((spec_l1Rd_next.f s0_0 t104).bind fun bt105 => (if a1 = 0 then (none) else (some (Int.tmod (wrap64 ((wrap64 (t103 * 256)) + bt105.1)) a1, bt105.2)))) = some (r1, r2) := H
   have A8 := Qz.mk A80
   clear A80
   replace H := Option.bind_eq_some_iff.mp H
   obtain ⟨⟨t105, t106⟩, A90, H⟩ := H
   replace H : (if a1 = 0 then (none) else (some (Int.tmod (wrap64 ((wrap64 (t103 * 256)) + t105)) a1, t106))) = some (r1, r2) := H
   have A9 := Qz.mk A90
   clear A90
   by_cases c10 : a1 = 0
   ·rw [if_pos c10] at H
    exact absurd H (by simp)
   ·rw [if_neg c10] at H
    have c10b0 : (a1 == 0) = false := beq_eq_false_iff_ne.mpr c10
    have c10b1 : (a1 != 0) = true := bne_iff_ne.mpr c10
    simp only [Option.some.injEq, Prod.mk.injEq] at H
    obtain ⟨rfl, rfl⟩ := H
    go_enter Try.func80, Try.ntmps80
    go_wp2_with (first | ((with_reducible refine qr (f := 109) rfl ?_); refine goesL_ (some 15) rfl rfl Try.func109 (by kernel_rfl) rfl #[.pointer (some ⟨g, 0, none⟩)] rfl (by (try simp only [List.map_toArray, List.map_cons, List.map_nil]); first | done | rfl) ?_; (with_reducible refine (spec_l1Rd_next.calls g s0_0 s0_1 t103 t104 w0 _ ?side1 ?side2 A8.out).mono ?_); (case side1 => exact yq38); (case side2 => exact yq39); rintro e w11 ⟨rfl, hi, hb, hk⟩; refine ⟨_, rfl, ?_⟩; replace HK := Qz.mk (KeepBut.trans yq40 hk (.inl rfl)); replace HB := Qz.mk (hb); replace HI0 := Qz.mk (hi); (try clear hb); (try clear hk); (try clear hi)) | ((with_reducible refine qr (f := 109) rfl ?_); refine goesL_ (some 19) rfl rfl Try.func109 (by kernel_rfl) rfl #[.pointer (some ⟨g, 0, none⟩)] rfl (by (try simp only [List.map_toArray, List.map_cons, List.map_nil]); first | done | rfl) ?_; (with_reducible refine (spec_l1Rd_next.calls g s0_0 t104 t105 t106 w0 _ ?side1 ?side2 A9.out).mono ?_); (case side1 => exact yq38); (case side2 => exact yq39); rintro e w12 ⟨rfl, hi, hb, hk⟩; refine ⟨_, rfl, ?_⟩; replace HK := Qz.mk (KeepBut.trans yq40 hk (.inl rfl)); replace HB := Qz.mk (hb); replace HI0 := Qz.mk (hi); (try clear hb); (try clear hk); (try clear hi)))
    go_ret
    exact ⟨by first | rfl | (simp [qw, qv] <;> rfl) | (simp [*, qw, qv] <;> rfl), by repeat (first | (with_reducible first | exact HI0.out | apply IsS123.alloc | apply IsS123.drewN | apply IsS123.drew | apply IsS123.set_1) | exact HI0.out), by repeat (first | (with_reducible first | exact HB.out | apply qi | apply qg | apply qh | refine qf ?_ (IsS123.ge HI0.out)) | exact HB.out), by repeat (first | (with_reducible first | exact HK.out | apply KeepBut.set_ | apply qk | apply qn | apply ql) | exact HK.out)⟩
theorem yq41 {P : Prop} (h : P := by repeat (first | (with_reducible first | exact HI0.out | apply IsS123.alloc | apply IsS123.drewN | apply IsS123.drew | apply IsS123.set_1) | exact HI0.out)) : P := h
theorem yq42 {P : Prop} (h : P := by repeat (first | (with_reducible first | exact HB.out | apply qi | apply qg | apply qh | refine qf ?_ (IsS123.ge HI0.out)) | exact HB.out)) : P := h
theorem yq43 {P : Prop} (h : P := by repeat (first | (with_reducible first | exact HK.out | apply KeepBut.set_ | apply qk | apply qn | apply ql) | exact HK.out)) : P := h
theorem yq44 {P : Prop} (h : P := by (try simp only [List.map_toArray, List.map_cons, List.map_nil]); first | done | rfl) : P := h
def spec_l1Rd_near.f (k : Nat) (s0_0 : List Int) (s0_1 : Int) (a1 : Int) (a2 : Int) : Option (Int × Int) := (spec_l1Rd_below.f s0_0 s0_1 8).bind fun bt101 => (if bt101.1 = 0 then (some (a1, bt101.2)) else (if bt101.1 = 1 then (some (a2, bt101.2)) else (if a2 < a1 then (some (a1, bt101.2)) else ((spec_l1Rd_word.f k s0_0 bt101.2).bind fun bt103 => (if (IntKind.u64.wrap (wrap64 ((wrap64 (a2 - a1)) + 1))) = 0 then (none) else (some (wrap64 (a1 + (wrap64 (Int.tmod (bt103.1 / 2) (IntKind.u64.wrap (wrap64 ((wrap64 (a2 - a1)) + 1)))))), bt103.2)))))))
set_option maxHeartbeats 8000000 in
set_option maxRecDepth 100000 in
theorem spec_l1Rd_near.calls (k : Nat) (g : Nat) (s0_0 : List Int) (s0_1 : Int) (a1 : Int) (a2 : Int) (r1 : Int) (r2 : Int) (w0 w : World) (hI : IsS123 w0 w g s0_0 s0_1) (hB : Below w0.heap.size w0 w) (h : spec_l1Rd_near.f k s0_0 s0_1 a1 a2 = some (r1, r2)) :
  Calls Try.prog 102 #[.pointer (some ⟨g, 0, none⟩), .int .i64 a1, .int .i64 a2] w fun e w' => e = .returned (.int .i64 r1) ∧ IsS123 w0 w' g s0_0 r2 ∧ Below w0.heap.size w0 w' ∧ KeepBut w w' g none := by
 have HI0 := Qz.mk hI
 have HK := Qz.mk (KeepBut.refl w g none)
 have HL := Qz.mk hB.size
 clear hI
 have HW0 := Qz.mk hB.size
 have HB := Qz.mk hB
 clear hB
 have H : ((spec_l1Rd_below.f s0_0 s0_1 8).bind fun bt101 => (if bt101.1 = 0 then (some (a1, bt101.2)) else (if bt101.1 = 1 then (some (a2, bt101.2)) else (if a2 < a1 then (some (a1, bt101.2)) else ((spec_l1Rd_word.f k s0_0 bt101.2).bind fun bt103 => (if (IntKind.u64.wrap (wrap64 ((wrap64 (a2 - a1)) + 1))) = 0 then (none) else (some (wrap64 (a1 + (wrap64 (Int.tmod (bt103.1 / 2) (IntKind.u64.wrap (wrap64 ((wrap64 (a2 - a1)) + 1)))))), bt103.2)))))))) = some (r1, r2) := h
 clear h
 replace H := Option.bind_eq_some_iff.mp H
 obtain ⟨⟨t101, t102⟩, A40, H⟩ := H
 replace H : (if t101 = 0 then (some (a1, t102)) else (if t101 = 1 then (some (a2, t102)) else (if a2 < a1 then (some (a1, t102)) else ((spec_l1Rd_word.f k s0_0 t102).bind fun bt103 => (if (IntKind.u64.wrap (wrap64 ((wrap64 (a2 - a1)) + 1))) = 0 then (none) else (some (wrap64 (a1 + (wrap64 (Int.tmod (bt103.1 / 2) (IntKind.u64.wrap (wrap64 ((wrap64 (a2 - a1)) + 1)))))), bt103.2))))))) = some (r1, r2) := H
 have A4 := Qz.mk A40
 clear A40
 by_cases c5 : t101 = 0
 ·rw [if_pos c5] at H
  have c5b0 : (t101 == 0) = true := beq_iff_eq.mpr c5
  have c5b1 : (t101 != 0) = false := bne_eq_false_iff_eq.mpr c5
  clear c5
  simp only [Option.some.injEq, Prod.mk.injEq] at H
  obtain ⟨rfl, rfl⟩ := H
  go_enter Try.func102, Try.ntmps102
  go_wp2_with (first | ((with_reducible refine qr (f := 80) rfl ?_); refine goesL_ (some 8) rfl rfl Try.func80 (by kernel_rfl) rfl #[.pointer (some ⟨g, 0, none⟩), .int .i64 8] rfl yq44 ?_; (with_reducible refine (spec_l1Rd_below.calls g s0_0 s0_1 8 t101 t102 w0 _ ?side1 ?side2 A4.out).mono ?_); (case side1 => exact yq41); (case side2 => exact yq42); rintro e w6 ⟨rfl, hi, hb, hk⟩; refine ⟨_, rfl, ?_⟩; replace HK := Qz.mk (KeepBut.trans yq43 hk (.inl rfl)); replace HB := Qz.mk (hb); replace HI0 := Qz.mk (hi); (try clear hb); (try clear hk); (try clear hi)))
  go_ret
  exact ⟨by first | rfl | (simp [qw, qv] <;> rfl) | (simp [*, qw, qv] <;> rfl), by repeat (first | (with_reducible first | exact HI0.out | apply IsS123.alloc | apply IsS123.drewN | apply IsS123.drew | apply IsS123.set_1) | exact HI0.out), by repeat (first | (with_reducible first | exact HB.out | apply qi | apply qg | apply qh | refine qf ?_ (IsS123.ge HI0.out)) | exact HB.out), by repeat (first | (with_reducible first | exact HK.out | apply KeepBut.set_ | apply qk | apply qn | apply ql) | exact HK.out)⟩
 ·rw [if_neg c5] at H
  have c5b0 : (t101 == 0) = false := beq_eq_false_iff_ne.mpr c5
  have c5b1 : (t101 != 0) = true := bne_iff_ne.mpr c5
  by_cases c7 : t101 = 1
  ·rw [if_pos c7] at H
   have c7b0 : (t101 == 1) = true := beq_iff_eq.mpr c7
   have c7b1 : (t101 != 1) = false := bne_eq_false_iff_eq.mpr c7
   clear c7
   simp only [Option.some.injEq, Prod.mk.injEq] at H
   obtain ⟨rfl, rfl⟩ := H
   go_enter Try.func102, Try.ntmps102
   go_wp2_with (first | ((with_reducible refine qr (f := 80) rfl ?_); refine goesL_ (some 8) rfl rfl Try.func80 (by kernel_rfl) rfl #[.pointer (some ⟨g, 0, none⟩), .int .i64 8] rfl yq44 ?_; (with_reducible refine (spec_l1Rd_below.calls g s0_0 s0_1 8 t101 t102 w0 _ ?side1 ?side2 A4.out).mono ?_); (case side1 => exact yq41); (case side2 => exact yq42); rintro e w8 ⟨rfl, hi, hb, hk⟩; refine ⟨_, rfl, ?_⟩; replace HK := Qz.mk (KeepBut.trans yq43 hk (.inl rfl)); replace HB := Qz.mk (hb); replace HI0 := Qz.mk (hi); (try clear hb); (try clear hk); (try clear hi)))
   go_ret
   exact ⟨by first | rfl | (simp [qw, qv] <;> rfl) | (simp [*, qw, qv] <;> rfl), by repeat (first | (with_reducible first | exact HI0.out | apply IsS123.alloc | apply IsS123.drewN | apply IsS123.drew | apply IsS123.set_1) | exact HI0.out), by repeat (first | (with_reducible first | exact HB.out | apply qi | apply qg | apply qh | refine qf ?_ (IsS123.ge HI0.out)) | exact HB.out), by repeat (first | (with_reducible first | exact HK.out | apply KeepBut.set_ | apply qk | apply qn | apply ql) | exact HK.out)⟩
  ·rw [if_neg c7] at H
   have c7b0 : (t101 == 1) = false := beq_eq_false_iff_ne.mpr c7
   have c7b1 : (t101 != 1) = true := bne_iff_ne.mpr c7
   by_cases c9 : a2 < a1
   ·rw [if_pos c9] at H
    have c9b0 : decide (a2 < a1) = true := decide_eq_true c9
    clear c9
    simp only [Option.some.injEq, Prod.mk.injEq] at H
    obtain ⟨rfl, rfl⟩ := H
    go_enter Try.func102, Try.ntmps102
    go_wp2_with (first | ((with_reducible refine qr (f := 80) rfl ?_); refine goesL_ (some 8) rfl rfl Try.func80 (by kernel_rfl) rfl #[.pointer (some ⟨g, 0, none⟩), .int .i64 8] rfl yq44 ?_; (with_reducible refine (spec_l1Rd_below.calls g s0_0 s0_1 8 t101 t102 w0 _ ?side1 ?side2 A4.out).mono ?_); (case side1 => exact yq41); (case side2 => exact yq42); rintro e w10 ⟨rfl, hi, hb, hk⟩; refine ⟨_, rfl, ?_⟩; replace HK := Qz.mk (KeepBut.trans yq43 hk (.inl rfl)); replace HB := Qz.mk (hb); replace HI0 := Qz.mk (hi); (try clear hb); (try clear hk); (try clear hi)))
    go_ret
    exact ⟨by first | rfl | (simp [qw, qv] <;> rfl) | (simp [*, qw, qv] <;> rfl), by repeat (first | (with_reducible first | exact HI0.out | apply IsS123.alloc | apply IsS123.drewN | apply IsS123.drew | apply IsS123.set_1) | exact HI0.out), by repeat (first | (with_reducible first | exact HB.out | apply qi | apply qg | apply qh | refine qf ?_ (IsS123.ge HI0.out)) | exact HB.out), by repeat (first | (with_reducible first | exact HK.out | apply KeepBut.set_ | apply qk | apply qn | apply ql) | exact HK.out)⟩
   ·rw [if_neg c9] at H
    have c9b0 : decide (a2 < a1) = false := decide_eq_false c9
    clear c9
    replace H := Option.bind_eq_some_iff.mp H
    obtain ⟨⟨t103, t104⟩, A110, H⟩ := H
    replace H : (if (IntKind.u64.wrap (wrap64 ((wrap64 (a2 - a1)) + 1))) = 0 then (none) else (some (wrap64 (a1 + (wrap64 (Int.tmod (t103 / 2) (IntKind.u64.wrap (wrap64 ((wrap64 (a2 - a1)) + 1)))))), t104))) = some (r1, r2) := H
    have A11 := Qz.mk A110
    clear A110
    by_cases c12 : (IntKind.u64.wrap (wrap64 ((wrap64 (a2 - a1)) + 1))) = 0
    ·rw [if_pos c12] at H
     exact absurd H (by simp)
    ·rw [if_neg c12] at H
     have c12b0 : ((IntKind.u64.wrap (wrap64 ((wrap64 (a2 - a1)) + 1))) == 0) = false := beq_eq_false_iff_ne.mpr c12
     have c12b1 : ((IntKind.u64.wrap (wrap64 ((wrap64 (a2 - a1)) + 1))) != 0) = true := bne_iff_ne.mpr c12
     simp only [Option.some.injEq, Prod.mk.injEq] at H
     obtain ⟨rfl, rfl⟩ := H
     go_enter Try.func102, Try.ntmps102
     go_wp2_with (first | ((with_reducible refine qr (f := 80) rfl ?_); refine goesL_ (some 8) rfl rfl Try.func80 (by kernel_rfl) rfl #[.pointer (some ⟨g, 0, none⟩), .int .i64 8] rfl yq44 ?_; (with_reducible refine (spec_l1Rd_below.calls g s0_0 s0_1 8 t101 t102 w0 _ ?side1 ?side2 A4.out).mono ?_); (case side1 => exact yq41); (case side2 => exact yq42); rintro e w13 ⟨rfl, hi, hb, hk⟩; refine ⟨_, rfl, ?_⟩; replace HK := Qz.mk (KeepBut.trans yq43 hk (.inl rfl)); replace HB := Qz.mk (hb); replace HI0 := Qz.mk (hi); (try clear hb); (try clear hk); (try clear hi)) | ((with_reducible refine qr (f := 119) rfl ?_); refine goesL_ (some 21) rfl rfl Try.func119 (by kernel_rfl) rfl #[.pointer (some ⟨g, 0, none⟩)] rfl yq44 ?_; (with_reducible refine (spec_l1Rd_word.calls k g s0_0 t102 t103 t104 w0 _ ?side1 ?side2 A11.out).mono ?_); (case side1 => exact yq41); (case side2 => exact yq42); rintro e w14 ⟨rfl, hi, hb, hk⟩; refine ⟨_, rfl, ?_⟩; replace HK := Qz.mk (KeepBut.trans yq43 hk (.inl rfl)); replace HB := Qz.mk (hb); replace HI0 := Qz.mk (hi); (try clear hb); (try clear hk); (try clear hi)))
     go_ret
     exact ⟨by first | rfl | (simp [qw, qv] <;> rfl) | (simp [*, qw, qv] <;> rfl), by repeat (first | (with_reducible first | exact HI0.out | apply IsS123.alloc | apply IsS123.drewN | apply IsS123.drew | apply IsS123.set_1) | exact HI0.out), by repeat (first | (with_reducible first | exact HB.out | apply qi | apply qg | apply qh | refine qf ?_ (IsS123.ge HI0.out)) | exact HB.out), by repeat (first | (with_reducible first | exact HK.out | apply KeepBut.set_ | apply qk | apply qn | apply ql) | exact HK.out)⟩
def spec_l1Rd_once.f (s0_0 : List Int) (s0_1 : Int) (a1 : Int) : Option (Bool × Int) := (spec_l1Rd_below.f s0_0 s0_1 a1).bind fun bt101 => (some ((bt101.1 == (wrap64 (a1 - 1))), bt101.2))
set_option maxHeartbeats 8000000 in
set_option maxRecDepth 100000 in
theorem spec_l1Rd_once.calls (g : Nat) (s0_0 : List Int) (s0_1 : Int) (a1 : Int) (r1 : Bool) (r2 : Int) (w0 w : World) (hI : IsS123 w0 w g s0_0 s0_1) (hB : Below w0.heap.size w0 w) (h : spec_l1Rd_once.f s0_0 s0_1 a1 = some (r1, r2)) :
  Calls Try.prog 73 #[.pointer (some ⟨g, 0, none⟩), .int .i64 a1] w fun e w' => e = .returned (.bool r1) ∧ IsS123 w0 w' g s0_0 r2 ∧ Below w0.heap.size w0 w' ∧ KeepBut w w' g none := by
 have HI0 := Qz.mk hI
 have HK := Qz.mk (KeepBut.refl w g none)
 have HL := Qz.mk hB.size
 clear hI
 have HW0 := Qz.mk hB.size
 have HB := Qz.mk hB
 clear hB
 have H : ((spec_l1Rd_below.f s0_0 s0_1 a1).bind fun bt101 => (some ((bt101.1 == (wrap64 (a1 - 1))), bt101.2))) = some (r1, r2) := h
 clear h
 replace H := Option.bind_eq_some_iff.mp H
 obtain ⟨⟨t101, t102⟩, A30, H⟩ := H
 replace H : (some ((t101 == (wrap64 (a1 - 1))), t102)) = some (r1, r2) := H
 have A3 := Qz.mk A30
 clear A30
 simp only [Option.some.injEq, Prod.mk.injEq] at H
 obtain ⟨rfl, rfl⟩ := H
 go_enter Try.func73, Try.ntmps73
 go_wp2_with (first | ((with_reducible refine qr (f := 80) rfl ?_); refine goesL_ (some 7) rfl rfl Try.func80 (by kernel_rfl) rfl #[.pointer (some ⟨g, 0, none⟩), .int .i64 a1] rfl (by (try simp only [List.map_toArray, List.map_cons, List.map_nil]); first | done | rfl) ?_; (with_reducible refine (spec_l1Rd_below.calls g s0_0 s0_1 a1 t101 t102 w0 _ ?side1 ?side2 A3.out).mono ?_); (case side1 => repeat (first | (with_reducible first | exact HI0.out | apply IsS123.alloc | apply IsS123.drewN | apply IsS123.drew | apply IsS123.set_1) | exact HI0.out)); (case side2 => repeat (first | (with_reducible first | exact HB.out | apply qi | apply qg | apply qh | refine qf ?_ (IsS123.ge HI0.out)) | exact HB.out)); rintro e w4 ⟨rfl, hi, hb, hk⟩; refine ⟨_, rfl, ?_⟩; replace HK := Qz.mk (KeepBut.trans (by repeat (first | (with_reducible first | exact HK.out | apply KeepBut.set_ | apply qk | apply qn | apply ql) | exact HK.out)) hk (.inl rfl)); replace HB := Qz.mk (hb); replace HI0 := Qz.mk (hi); (try clear hb); (try clear hk); (try clear hi)))
 go_ret
 exact ⟨by first | rfl | (simp [qw, qv] <;> rfl) | (simp [*, qw, qv] <;> rfl), by repeat (first | (with_reducible first | exact HI0.out | apply IsS123.alloc | apply IsS123.drewN | apply IsS123.drew | apply IsS123.set_1) | exact HI0.out), by repeat (first | (with_reducible first | exact HB.out | apply qi | apply qg | apply qh | refine qf ?_ (IsS123.ge HI0.out)) | exact HB.out), by repeat (first | (with_reducible first | exact HK.out | apply KeepBut.set_ | apply qk | apply qn | apply ql) | exact HK.out)⟩
theorem yq45 {P : Prop} (h : P := by repeat (first | (with_reducible first | exact HI0.out | apply IsS123.alloc | apply IsS123.drewN | apply IsS123.drew | apply IsS123.set_1) | exact HI0.out)) : P := h
theorem yq46 {P : Prop} (h : P := by repeat (first | (with_reducible first | exact HK.out | apply KeepBut.set_ | apply qk | apply qn | apply ql) | exact HK.out)) : P := h
theorem yq47 {P : Prop} (h : P := by repeat (first | (with_reducible first | exact HB.out | apply qi | apply qg | apply qh | refine qf ?_ (IsS123.ge HI0.out)) | exact HB.out)) : P := h
theorem yq48 {P : Prop} (h : P := by (try simp only [List.map_toArray, List.map_cons, List.map_nil]); first | done | rfl) : P := h
def spec_l1Rd_off.f (k : Nat) (s0_0 : List Int) (s0_1 : Int) (a1 : Int) (a2 : Int) : Option (Int × Int) := (spec_l1Rd_once.f s0_0 s0_1 24).bind fun bt101 => (if bt101.1 = true then ((some (([wrap64 (a1 - 1), wrap64 (a2 + 1), (-9223372036854775808), 9223372036854775807] : List Int) : List Int)).bind fun y103 => ((spec_l1Rd_below.f s0_0 bt101.2 4).bind fun bt106 => (if 0 ≤ bt106.1 then (if bt106.1 < (y103.length : Int) then (some (rd y103 bt106.1, bt106.2)) else (none)) else (none)))) else ((spec_l1Rd_near.f k s0_0 bt101.2 a1 a2).bind fun bt109 => (some (bt109.1, bt109.2))))
set_option maxHeartbeats 8000000 in
set_option maxRecDepth 100000 in
theorem spec_l1Rd_off.calls (k : Nat) (g : Nat) (s0_0 : List Int) (s0_1 : Int) (a1 : Int) (a2 : Int) (r1 : Int) (r2 : Int) (w0 w : World) (hI : IsS123 w0 w g s0_0 s0_1) (hB : Below w0.heap.size w0 w) (h : spec_l1Rd_off.f k s0_0 s0_1 a1 a2 = some (r1, r2)) :
  Calls Try.prog 72 #[.pointer (some ⟨g, 0, none⟩), .int .i64 a1, .int .i64 a2] w fun e w' => e = .returned (.int .i64 r1) ∧ IsS123 w0 w' g s0_0 r2 ∧ Below w0.heap.size w0 w' ∧ KeepBut w w' g none := by
 have HI0 := Qz.mk hI
 have HK := Qz.mk (KeepBut.refl w g none)
 have HL := Qz.mk hB.size
 clear hI
 have HW0 := Qz.mk hB.size
 have HB := Qz.mk hB
 clear hB
 have H : ((spec_l1Rd_once.f s0_0 s0_1 24).bind fun bt101 => (if bt101.1 = true then ((some (([wrap64 (a1 - 1), wrap64 (a2 + 1), (-9223372036854775808), 9223372036854775807] : List Int) : List Int)).bind fun y103 => ((spec_l1Rd_below.f s0_0 bt101.2 4).bind fun bt106 => (if 0 ≤ bt106.1 then (if bt106.1 < (y103.length : Int) then (some (rd y103 bt106.1, bt106.2)) else (none)) else (none)))) else ((spec_l1Rd_near.f k s0_0 bt101.2 a1 a2).bind fun bt109 => (some (bt109.1, bt109.2))))) = some (r1, r2) := h
 clear h
 replace H := Option.bind_eq_some_iff.mp H
 obtain ⟨⟨t101, t102⟩, A40, H⟩ := H
 replace H : (if t101 = true then ((some (([wrap64 (a1 - 1), wrap64 (a2 + 1), (-9223372036854775808), 9223372036854775807] : List Int) : List Int)).bind fun y103 => ((spec_l1Rd_below.f s0_0 t102 4).bind fun bt106 => (if 0 ≤ bt106.1 then (if bt106.1 < (y103.length : Int) then (some (rd y103 bt106.1, bt106.2)) else (none)) else (none)))) else ((spec_l1Rd_near.f k s0_0 t102 a1 a2).bind fun bt109 => (some (bt109.1, bt109.2)))) = some (r1, r2) := H
 have A4 := Qz.mk A40
 clear A40
 by_cases c5 : t101 = true
 ·subst c5
  have H1 : ((some (([wrap64 (a1 - 1), wrap64 (a2 + 1), (-9223372036854775808), 9223372036854775807] : List Int) : List Int)).bind fun y103 => ((spec_l1Rd_below.f s0_0 t102 4).bind fun bt106 => (if 0 ≤ bt106.1 then (if bt106.1 < (y103.length : Int) then (some (rd y103 bt106.1, bt106.2)) else (none)) else (none)))) = some (r1, r2) := by rw [if_pos rfl] at H; exact H
  clear H
  have H := H1
  clear H1
  obtain ⟨y103, hy103⟩ : ∃ y_ : List Int, y_ = (([wrap64 (a1 - 1), wrap64 (a2 + 1), (-9223372036854775808), 9223372036854775807] : List Int)) := ⟨_, rfl⟩
  replace H : ((spec_l1Rd_below.f s0_0 t102 4).bind fun bt106 => (if 0 ≤ bt106.1 then (if bt106.1 < (y103.length : Int) then (some (rd y103 bt106.1, bt106.2)) else (none)) else (none))) = some (r1, r2) := by first | (rw [hy103]; with_reducible exact H) | (have H2_ := (Option.bind_some _ _).symm.trans H; rw [hy103]; with_reducible exact H2_) | (have H2_ := (Option.bind_some _ _).symm.trans H; with_reducible exact H2_) | with_reducible exact H | (rw [hy103]; exact H) | exact H
  have Ny103 := Qz.mk hy103
  clear hy103
  replace H := Option.bind_eq_some_iff.mp H
  obtain ⟨⟨t106, t107⟩, A60, H⟩ := H
  replace H : (if 0 ≤ t106 then (if t106 < (y103.length : Int) then (some (rd y103 t106, t107)) else (none)) else (none)) = some (r1, r2) := H
  have A6 := Qz.mk A60
  clear A60
  by_cases c7 : 0 ≤ t106
  ·rw [if_pos c7] at H
   have c7b0 : decide (0 ≤ t106) = true := decide_eq_true c7
   clear c7
   by_cases c8 : t106 < (y103.length : Int)
   ·rw [if_pos c8] at H
    have c8b0 : decide (t106 < (y103.length : Int)) = true := decide_eq_true c8
    clear c8
    simp only [Option.some.injEq, Prod.mk.injEq] at H
    obtain ⟨rfl, rfl⟩ := H
    go_enter Try.func72, Try.ntmps72
    go_wp2_with (first | ((with_reducible refine qr (f := 73) rfl ?_); refine goesL_ (some 8) rfl rfl Try.func73 (by kernel_rfl) rfl #[.pointer (some ⟨g, 0, none⟩), .int .i64 24] rfl yq48 ?_; (with_reducible refine (spec_l1Rd_once.calls g s0_0 s0_1 24 true t102 w0 _ ?side1 ?side2 A4.out).mono ?_); (case side1 => exact yq45); (case side2 => exact yq47); rintro e w9 ⟨rfl, hi, hb, hk⟩; refine ⟨_, rfl, ?_⟩; replace HK := Qz.mk (KeepBut.trans yq46 hk (.inl rfl)); replace HB := Qz.mk (hb); replace HI0 := Qz.mk (hi); (try clear hb); (try clear hk); (try clear hi)) | ((with_reducible refine gate_dst (N := 13) rfl ?_); refine Kd.R_lit (Kd.int .i64) _ 2 ?hg (N := 13) ?hd (xs := ([wrap64 (a1 - 1), wrap64 (a2 + 1), (-9223372036854775808), 9223372036854775807] : List Int)) (inner := [.int .i64 (wrap64 (a1 - 1)), .int .i64 (wrap64 (a2 + 1)), .int .i64 (-9223372036854775808), .int .i64 9223372036854775807]) (ok := fun _ => True) (okp := fun _ => True) ?hr ?hp (fun _ hk => hk) trivial (Below.refl _ _) (Nat.le_refl _) (by simp) ?_; (case hd => rfl); (case hg => rfl); (case hr => first | (go_simp; done) | (go_simp; rfl)); (case hp => exact (Reps.one (show Kd.M (Kd.int .i64) _ _ _ (wrap64 (a1 - 1)) [.int .i64 (wrap64 (a1 - 1))] from rfl) (Reps.one (show Kd.M (Kd.int .i64) _ _ _ (wrap64 (a2 + 1)) [.int .i64 (wrap64 (a2 + 1))] from rfl) (Reps.one (show Kd.M (Kd.int .i64) _ _ _ (-9223372036854775808) [.int .i64 (-9223372036854775808)] from rfl) (Reps.one (show Kd.M (Kd.int .i64) _ _ _ 9223372036854775807 [.int .i64 9223372036854775807] from rfl) (Reps.none _ _)))))); intro v104 w10 ho11 hb hg_ hnew_; clear hg_ hnew_; (first | rw [← Ny103.out] at ho11 | (simp only [Int.reduceToNat] at ho11; rw [← Ny103.out] at ho11)); have HO105 := Qz.mk (Kd.R_lower ho11 (qa1 (w := w) (g := g) (row := none) yq46)); replace HK := Qz.mk (KeepBut.trans yq46 (KeepBut.of_below hb g none) (.inl rfl)); replace HB := Qz.mk (qp yq47 hb); replace HI0 := Qz.mk (IsS123.below yq45 hb); clear hb ho11) | ((with_reducible refine qr (f := 80) rfl ?_); refine goesL_ (some 15) rfl rfl Try.func80 (by kernel_rfl) rfl #[.pointer (some ⟨g, 0, none⟩), .int .i64 4] rfl yq48 ?_; (with_reducible refine (spec_l1Rd_below.calls g s0_0 t102 4 t106 t107 w0 _ ?side1 ?side2 A6.out).mono ?_); (case side1 => exact yq45); (case side2 => exact yq47); rintro e w12 ⟨rfl, hi, hb, hk⟩; refine ⟨_, rfl, ?_⟩; replace HO105 := Qz.mk (Kd.R_mono (Kd.R_keep (IsS123.apart (show IsS123 w0 _ g s0_0 t102 from by repeat (first | (with_reducible first | exact HI0.out | apply IsS123.alloc | apply IsS123.drewN | apply IsS123.drew | apply IsS123.set_1) | exact HI0.out)) (by (with_reducible repeat (first | apply Kd.R_alloc | apply Kd.R_drewN | apply Kd.R_drew)); exact HO105.out) (by decide)) hk (fun _ h => h.2)) (fun _ h => h.1)); replace HK := Qz.mk (KeepBut.trans yq46 hk (.inl rfl)); replace HB := Qz.mk (hb); replace HI0 := Qz.mk (hi); (try clear hb); (try clear hk); (try clear hi); obtain ⟨Ao13, co13, eo13⟩ := Kd.R_slice HO105.out; subst eo13; have p108 : 0 ≤ (t106 : Int) := of_decide_eq_true (by first | (with_reducible assumption) | assumption); have q108 : t106 < (y103.length : Int) := of_decide_eq_true (by first | (with_reducible assumption) | assumption); obtain ⟨ad108, e108, hx108_0⟩ := Kd.at_int (Kd.R_reads' HO105.out).2.2 t106 p108 q108; cases e108; replace p108 := eq_true p108; replace q108 := eq_true q108))
    go_ret
    exact ⟨by first | rfl | (simp [qw, qv] <;> rfl) | (simp [*, qw, qv] <;> rfl), by repeat (first | (with_reducible first | exact HI0.out | apply IsS123.alloc | apply IsS123.drewN | apply IsS123.drew | apply IsS123.set_1) | exact HI0.out), by repeat (first | (with_reducible first | exact HB.out | apply qi | apply qg | apply qh | refine qf ?_ (IsS123.ge HI0.out)) | exact HB.out), by repeat (first | (with_reducible first | exact HK.out | apply KeepBut.set_ | apply qk | apply qn | apply ql) | exact HK.out)⟩
   ·rw [if_neg c8] at H
    exact absurd H (by simp)
  ·rw [if_neg c7] at H
   exact absurd H (by simp)
 ·replace c5 := Bool.eq_false_iff.mpr c5
  subst c5
  have H1 : ((spec_l1Rd_near.f k s0_0 t102 a1 a2).bind fun bt109 => (some (bt109.1, bt109.2))) = some (r1, r2) := by rw [if_neg (show ¬ (false = true) by decide)] at H; exact H
  clear H
  have H := H1
  clear H1
  replace H := Option.bind_eq_some_iff.mp H
  obtain ⟨⟨t109, t110⟩, A140, H⟩ := H
  replace H : (some (t109, t110)) = some (r1, r2) := H
  have A14 := Qz.mk A140
  clear A140
  simp only [Option.some.injEq, Prod.mk.injEq] at H
  obtain ⟨rfl, rfl⟩ := H
  go_enter Try.func72, Try.ntmps72
  go_wp2_with (first | ((with_reducible refine qr (f := 73) rfl ?_); refine goesL_ (some 8) rfl rfl Try.func73 (by kernel_rfl) rfl #[.pointer (some ⟨g, 0, none⟩), .int .i64 24] rfl yq48 ?_; (with_reducible refine (spec_l1Rd_once.calls g s0_0 s0_1 24 false t102 w0 _ ?side1 ?side2 A4.out).mono ?_); (case side1 => exact yq45); (case side2 => exact yq47); rintro e w15 ⟨rfl, hi, hb, hk⟩; refine ⟨_, rfl, ?_⟩; replace HK := Qz.mk (KeepBut.trans yq46 hk (.inl rfl)); replace HB := Qz.mk (hb); replace HI0 := Qz.mk (hi); (try clear hb); (try clear hk); (try clear hi)) | ((with_reducible refine qr (f := 102) rfl ?_); refine goesL_ (some 21) rfl rfl Try.func102 (by kernel_rfl) rfl #[.pointer (some ⟨g, 0, none⟩), .int .i64 a1, .int .i64 a2] rfl yq48 ?_; (with_reducible refine (spec_l1Rd_near.calls k g s0_0 t102 a1 a2 t109 t110 w0 _ ?side1 ?side2 A14.out).mono ?_); (case side1 => exact yq45); (case side2 => exact yq47); rintro e w16 ⟨rfl, hi, hb, hk⟩; refine ⟨_, rfl, ?_⟩; replace HK := Qz.mk (KeepBut.trans yq46 hk (.inl rfl)); replace HB := Qz.mk (hb); replace HI0 := Qz.mk (hi); (try clear hb); (try clear hk); (try clear hi)))
  go_ret
  exact ⟨by first | rfl | (simp [qw, qv] <;> rfl) | (simp [*, qw, qv] <;> rfl), by repeat (first | (with_reducible first | exact HI0.out | apply IsS123.alloc | apply IsS123.drewN | apply IsS123.drew | apply IsS123.set_1) | exact HI0.out), by repeat (first | (with_reducible first | exact HB.out | apply qi | apply qg | apply qh | refine qf ?_ (IsS123.ge HI0.out)) | exact HB.out), by repeat (first | (with_reducible first | exact HK.out | apply KeepBut.set_ | apply qk | apply qn | apply ql) | exact HK.out)⟩
theorem yq49 {P : Prop} (h : P := by repeat (first | (with_reducible first | exact HK.out | apply KeepBut.set_ | apply qk | apply qn | apply ql) | exact HK.out)) : P := h
def spec_l1Rd_user.f (s0_0 : List Int) (s0_1 : Int) : Option (ByteArray × Int) := (some (([(⟨#[97]⟩ : ByteArray), (⟨#[98]⟩ : ByteArray), (⟨#[97, 98]⟩ : ByteArray), (⟨#[97, 98, 99]⟩ : ByteArray), (⟨#[97, 98, 100]⟩ : ByteArray), (⟨#[107, 101, 121]⟩ : ByteArray), (⟨#[107, 101, 121, 49]⟩ : ByteArray), (⟨#[107, 101, 121, 50]⟩ : ByteArray), (⟨#[122, 122]⟩ : ByteArray), (⟨#[97, 0]⟩ : ByteArray)] : List ByteArray) : List ByteArray)).bind fun y101 => ((spec_l1Rd_below.f s0_0 s0_1 10).bind fun bt104 => (if 0 ≤ bt104.1 then (if bt104.1 < (y101.length : Int) then (some (rdOf ByteArray.empty y101 bt104.1, bt104.2)) else (none)) else (none)))
set_option maxHeartbeats 8000000 in
set_option maxRecDepth 100000 in
theorem spec_l1Rd_user.calls (g : Nat) (s0_0 : List Int) (s0_1 : Int) (r1 : ByteArray) (r2 : Int) (w0 w : World) (hI : IsS123 w0 w g s0_0 s0_1) (hB : Below w0.heap.size w0 w) (h : spec_l1Rd_user.f s0_0 s0_1 = some (r1, r2)) :
  Calls Try.prog 74 #[.pointer (some ⟨g, 0, none⟩)] w fun e w' => e = .returned (.string r1) ∧ IsS123 w0 w' g s0_0 r2 ∧ Below w0.heap.size w0 w' ∧ KeepBut w w' g none := by
 have HI0 := Qz.mk hI
 have HK := Qz.mk (KeepBut.refl w g none)
 have HL := Qz.mk hB.size
 clear hI
 have HW0 := Qz.mk hB.size
 have HB := Qz.mk hB
 clear hB
 have H : ((some (([(⟨#[97]⟩ : ByteArray), (⟨#[98]⟩ : ByteArray), (⟨#[97, 98]⟩ : ByteArray), (⟨#[97, 98, 99]⟩ : ByteArray), (⟨#[97, 98, 100]⟩ : ByteArray), (⟨#[107, 101, 121]⟩ : ByteArray), (⟨#[107, 101, 121, 49]⟩ : ByteArray), (⟨#[107, 101, 121, 50]⟩ : ByteArray), (⟨#[122, 122]⟩ : ByteArray), (⟨#[97, 0]⟩ : ByteArray)] : List ByteArray) : List ByteArray)).bind fun y101 => ((spec_l1Rd_below.f s0_0 s0_1 10).bind fun bt104 => (if 0 ≤ bt104.1 then (if bt104.1 < (y101.length : Int) then (some (rdOf ByteArray.empty y101 bt104.1, bt104.2)) else (none)) else (none)))) = some (r1, r2) := h
 clear h
 obtain ⟨y101, hy101⟩ : ∃ y_ : List ByteArray, y_ = (([(⟨#[97]⟩ : ByteArray), (⟨#[98]⟩ : ByteArray), (⟨#[97, 98]⟩ : ByteArray), (⟨#[97, 98, 99]⟩ : ByteArray), (⟨#[97, 98, 100]⟩ : ByteArray), (⟨#[107, 101, 121]⟩ : ByteArray), (⟨#[107, 101, 121, 49]⟩ : ByteArray), (⟨#[107, 101, 121, 50]⟩ : ByteArray), (⟨#[122, 122]⟩ : ByteArray), (⟨#[97, 0]⟩ : ByteArray)] : List ByteArray)) := ⟨_, rfl⟩
 replace H : ((spec_l1Rd_below.f s0_0 s0_1 10).bind fun bt104 => (if 0 ≤ bt104.1 then (if bt104.1 < (y101.length : Int) then (some (rdOf ByteArray.empty y101 bt104.1, bt104.2)) else (none)) else (none))) = some (r1, r2) := by first | (rw [hy101]; with_reducible exact H) | (have H2_ := (Option.bind_some _ _).symm.trans H; rw [hy101]; with_reducible exact H2_) | (have H2_ := (Option.bind_some _ _).symm.trans H; with_reducible exact H2_) | with_reducible exact H | (rw [hy101]; exact H) | exact H
 have Ny101 := Qz.mk hy101
 clear hy101
 replace H := Option.bind_eq_some_iff.mp H
 obtain ⟨⟨t104, t105⟩, A20, H⟩ := H
 replace H : (if 0 ≤ t104 then (if t104 < (y101.length : Int) then (some (rdOf ByteArray.empty y101 t104, t105)) else (none)) else (none)) = some (r1, r2) := H
 have A2 := Qz.mk A20
 clear A20
 by_cases c3 : 0 ≤ t104
 ·rw [if_pos c3] at H
  have c3b0 : decide (0 ≤ t104) = true := decide_eq_true c3
  clear c3
  by_cases c4 : t104 < (y101.length : Int)
  ·rw [if_pos c4] at H
   have c4b0 : decide (t104 < (y101.length : Int)) = true := decide_eq_true c4
   clear c4
   simp only [Option.some.injEq, Prod.mk.injEq] at H
   obtain ⟨rfl, rfl⟩ := H
   go_enter Try.func74, Try.ntmps74
   go_wp2_with (first | ((with_reducible refine gate_dst (N := 3) rfl ?_); refine Kd.R_lit Kd.string _ 9 ?hg (N := 3) ?hd (xs := ([(⟨#[97]⟩ : ByteArray), (⟨#[98]⟩ : ByteArray), (⟨#[97, 98]⟩ : ByteArray), (⟨#[97, 98, 99]⟩ : ByteArray), (⟨#[97, 98, 100]⟩ : ByteArray), (⟨#[107, 101, 121]⟩ : ByteArray), (⟨#[107, 101, 121, 49]⟩ : ByteArray), (⟨#[107, 101, 121, 50]⟩ : ByteArray), (⟨#[122, 122]⟩ : ByteArray), (⟨#[97, 0]⟩ : ByteArray)] : List ByteArray)) (inner := [.string (⟨#[97]⟩ : ByteArray), .string (⟨#[98]⟩ : ByteArray), .string (⟨#[97, 98]⟩ : ByteArray), .string (⟨#[97, 98, 99]⟩ : ByteArray), .string (⟨#[97, 98, 100]⟩ : ByteArray), .string (⟨#[107, 101, 121]⟩ : ByteArray), .string (⟨#[107, 101, 121, 49]⟩ : ByteArray), .string (⟨#[107, 101, 121, 50]⟩ : ByteArray), .string (⟨#[122, 122]⟩ : ByteArray), .string (⟨#[97, 0]⟩ : ByteArray)]) (ok := fun _ => True) (okp := fun _ => True) ?hr ?hp (fun _ hk => hk) trivial (Below.refl _ _) (Nat.le_refl _) (by simp) ?_; (case hd => rfl); (case hg => rfl); (case hr => first | (go_simp; done) | (go_simp; rfl)); (case hp => exact (Reps.one (show Kd.M Kd.string _ _ _ (⟨#[97]⟩ : ByteArray) [.string (⟨#[97]⟩ : ByteArray)] from rfl) (Reps.one (show Kd.M Kd.string _ _ _ (⟨#[98]⟩ : ByteArray) [.string (⟨#[98]⟩ : ByteArray)] from rfl) (Reps.one (show Kd.M Kd.string _ _ _ (⟨#[97, 98]⟩ : ByteArray) [.string (⟨#[97, 98]⟩ : ByteArray)] from rfl) (Reps.one (show Kd.M Kd.string _ _ _ (⟨#[97, 98, 99]⟩ : ByteArray) [.string (⟨#[97, 98, 99]⟩ : ByteArray)] from rfl) (Reps.one (show Kd.M Kd.string _ _ _ (⟨#[97, 98, 100]⟩ : ByteArray) [.string (⟨#[97, 98, 100]⟩ : ByteArray)] from rfl) (Reps.one (show Kd.M Kd.string _ _ _ (⟨#[107, 101, 121]⟩ : ByteArray) [.string (⟨#[107, 101, 121]⟩ : ByteArray)] from rfl) (Reps.one (show Kd.M Kd.string _ _ _ (⟨#[107, 101, 121, 49]⟩ : ByteArray) [.string (⟨#[107, 101, 121, 49]⟩ : ByteArray)] from rfl) (Reps.one (show Kd.M Kd.string _ _ _ (⟨#[107, 101, 121, 50]⟩ : ByteArray) [.string (⟨#[107, 101, 121, 50]⟩ : ByteArray)] from rfl) (Reps.one (show Kd.M Kd.string _ _ _ (⟨#[122, 122]⟩ : ByteArray) [.string (⟨#[122, 122]⟩ : ByteArray)] from rfl) (Reps.one (show Kd.M Kd.string _ _ _ (⟨#[97, 0]⟩ : ByteArray) [.string (⟨#[97, 0]⟩ : ByteArray)] from rfl) (Reps.none _ _)))))))))))); intro v102 w5 ho6 hb hg_ hnew_; clear hg_ hnew_; (first | rw [← Ny101.out] at ho6 | (simp only [Int.reduceToNat] at ho6; rw [← Ny101.out] at ho6)); have HO103 := Qz.mk (Kd.R_lower ho6 (qa1 (w := w) (g := g) (row := none) yq49)); replace HK := Qz.mk (KeepBut.trans yq49 (KeepBut.of_below hb g none) (.inl rfl)); replace HB := Qz.mk (qp (by repeat (first | (with_reducible first | exact HB.out | apply qi | apply qg | apply qh | refine qf ?_ (IsS123.ge HI0.out)) | exact HB.out)) hb); replace HI0 := Qz.mk (IsS123.below (by repeat (first | (with_reducible first | exact HI0.out | apply IsS123.alloc | apply IsS123.drewN | apply IsS123.drew | apply IsS123.set_1) | exact HI0.out)) hb); clear hb ho6) | ((with_reducible refine qr (f := 80) rfl ?_); refine goesL_ (some 5) rfl rfl Try.func80 (by kernel_rfl) rfl #[.pointer (some ⟨g, 0, none⟩), .int .i64 10] rfl (by (try simp only [List.map_toArray, List.map_cons, List.map_nil]); first | done | rfl) ?_; (with_reducible refine (spec_l1Rd_below.calls g s0_0 s0_1 10 t104 t105 w0 _ ?side1 ?side2 A2.out).mono ?_); (case side1 => repeat (first | (with_reducible first | exact HI0.out | apply IsS123.alloc | apply IsS123.drewN | apply IsS123.drew | apply IsS123.set_1) | exact HI0.out)); (case side2 => repeat (first | (with_reducible first | exact HB.out | apply qi | apply qg | apply qh | refine qf ?_ (IsS123.ge HI0.out)) | exact HB.out)); rintro e w7 ⟨rfl, hi, hb, hk⟩; refine ⟨_, rfl, ?_⟩; replace HO103 := Qz.mk (Kd.R_mono (Kd.R_keep (IsS123.apart (show IsS123 w0 _ g s0_0 s0_1 from by repeat (first | (with_reducible first | exact HI0.out | apply IsS123.alloc | apply IsS123.drewN | apply IsS123.drew | apply IsS123.set_1) | exact HI0.out)) (by (with_reducible repeat (first | apply Kd.R_alloc | apply Kd.R_drewN | apply Kd.R_drew)); exact HO103.out) (by decide)) hk (fun _ h => h.2)) (fun _ h => h.1)); replace HK := Qz.mk (KeepBut.trans yq49 hk (.inl rfl)); replace HB := Qz.mk (hb); replace HI0 := Qz.mk (hi); (try clear hb); (try clear hk); (try clear hi); obtain ⟨Ao8, co8, eo8⟩ := Kd.R_slice HO103.out; subst eo8; have p106 : 0 ≤ (t104 : Int) := of_decide_eq_true (by first | (with_reducible assumption) | assumption); have q106 : t104 < (y101.length : Int) := of_decide_eq_true (by first | (with_reducible assumption) | assumption); obtain ⟨ad106, e106, hx106_0⟩ := Kd.at_string (Kd.R_reads' HO103.out).2.2 t104 p106 q106; cases e106; replace p106 := eq_true p106; replace q106 := eq_true q106))
   go_ret
   exact ⟨by first | rfl | (simp [qw, qv] <;> rfl) | (simp [*, qw, qv] <;> rfl), by repeat (first | (with_reducible first | exact HI0.out | apply IsS123.alloc | apply IsS123.drewN | apply IsS123.drew | apply IsS123.set_1) | exact HI0.out), by repeat (first | (with_reducible first | exact HB.out | apply qi | apply qg | apply qh | refine qf ?_ (IsS123.ge HI0.out)) | exact HB.out), by repeat (first | (with_reducible first | exact HK.out | apply KeepBut.set_ | apply qk | apply qn | apply ql) | exact HK.out)⟩
  ·rw [if_neg c4] at H
   exact absurd H (by simp)
 ·rw [if_neg c3] at H
  exact absurd H (by simp)
end Go.Proofs.Ytcgejabkjljeeaa.P
end

section
namespace Go.Proofs.Ytcgejabkjljeeaa.P
open Go.RowKit Go.Proofs.YtcgejabkjljeeaaW.PrintWords Go.Proofs.YtcgejabkjljeeaaW.PrintLast Go.Proofs.YtcgejabkjljeeaaW.PrintMore
attribute [local go_sem] str_gtr str_leq str_geq max2_int min2_int max_two min_two qc1 qb1 max_four min_four
set_option linter.unusedVariables false
set_option linter.unusedSimpArgs false
theorem yq50 {P : Prop} (h : P := by repeat (first | (with_reducible first | exact HI0.out | apply IsS123.alloc | apply IsS123.drewN | apply IsS123.drew) | exact HI0.out)) : P := h
theorem yq51 {P : Prop} (h : P := by repeat (first | (with_reducible first | exact HK.out | apply qk | apply qn | apply ql) | exact HK.out)) : P := h
theorem yq52 {P : Prop} (h : P := by repeat (first | (with_reducible first | exact HB.out | apply qi | apply qg | apply qh) | exact HB.out)) : P := h
theorem yq53 {P : Prop} (h : P := by (try simp only [List.map_toArray, List.map_cons, List.map_nil]); first | done | rfl) : P := h
def tmin (a b : ByteArray) : ByteArray := if (!Op.bytesLess b.toList a.toList) = true then a else b
def tmax (a b : ByteArray) : ByteArray := if (!Op.bytesLess a.toList b.toList) = true then a else b
theorem min2_str (x y : ByteArray) : Builtin.min2 (.string x) (.string y) = pure (.string (tmin x y)) := by
 have e := bytesLess_swap x.toList y.toList
 simp only [Builtin.min2, Op.stringOp, tmin, ← e, Bool.not_not]
 simp [asBool]
theorem max2_str (x y : ByteArray) : Builtin.max2 (.string x) (.string y) = pure (.string (tmax x y)) := by
 simp [Builtin.max2, Op.stringOp, asBool, tmax]
attribute [local go_sem] min2_str max2_str
def spec_l1Rd_meta.f (k : Nat) (s0_0 : List Int) (s0_1 : Int) : Option (Int × Int × ByteArray × ByteArray × Int × Int) := (spec_l1Rd_user.f s0_0 s0_1).bind fun a => (spec_l1Rd_user.f s0_0 a.2).bind fun b => (spec_l1Rd_near.f k s0_0 b.2 0 12).bind fun n => (spec_l1Rd_below.f s0_0 n.2 4).bind fun e => (spec_l1Rd_near.f k s0_0 e.2 0 40).bind fun c => (spec_l1Rd_once.f s0_0 c.2 24).bind fun o => if o.1 = true then (spec_l1Rd_off.f k s0_0 o.2 0 3).bind fun v => some (wrap64 (1 + n.1), v.1, tmin a.1 b.1, tmax a.1 b.1, wrap64 (1 + c.1), v.2) else some (wrap64 (1 + n.1), e.1, tmin a.1 b.1, tmax a.1 b.1, wrap64 (1 + c.1), o.2)
set_option maxHeartbeats 8000000 in
set_option maxRecDepth 100000 in
theorem spec_l1Rd_meta.calls (k : Nat) (g : Nat) (s0_0 : List Int) (s0_1 : Int) (r1 r2 : Int) (r3 r4 : ByteArray) (r5 r6 : Int) (w0 w : World) (hI : IsS123 w0 w g s0_0 s0_1) (hB : Below w0.heap.size w0 w) (h : spec_l1Rd_meta.f k s0_0 s0_1 = some (r1, r2, r3, r4, r5, r6)) :
  Calls Try.prog 103 #[.pointer (some ⟨g, 0, none⟩)] w fun e w' => e = .returned (.agg #[.int .i64 r1, .int .i64 r2, .string r3, .string r4, .int .i64 r5]) ∧ IsS123 w0 w' g s0_0 r6 ∧ Below w0.heap.size w0 w' ∧ KeepBut w w' g none := by
 have HI0 := Qz.mk hI
 have HK := Qz.mk (KeepBut.refl w g none)
 have HB := Qz.mk hB
 have hgw := hI.lt
 have hL := Qz.mk hB.size
 clear hI hB
 have HZ := Qz.mk (blk_new w (.cells #[.int .i64 0, .int .i64 0, .string ⟨#[]⟩, .string ⟨#[]⟩, .int .i64 0] 66))
 unfold spec_l1Rd_meta.f at h
 obtain ⟨⟨a1, a2⟩, A1, h⟩ := Option.bind_eq_some_iff.mp h
 obtain ⟨⟨b1, b2⟩, A2, h⟩ := Option.bind_eq_some_iff.mp h
 obtain ⟨⟨n1, n2⟩, A3, h⟩ := Option.bind_eq_some_iff.mp h
 obtain ⟨⟨e1, e2⟩, A4, h⟩ := Option.bind_eq_some_iff.mp h
 obtain ⟨⟨c1, c2⟩, A5, h⟩ := Option.bind_eq_some_iff.mp h
 obtain ⟨⟨o1, o2⟩, A6, h⟩ := Option.bind_eq_some_iff.mp h
 replace A1 := Qz.mk A1
 replace A2 := Qz.mk A2
 replace A3 := Qz.mk A3
 replace A4 := Qz.mk A4
 replace A5 := Qz.mk A5
 replace A6 := Qz.mk A6
 cases o1 with
 | false =>
  simp only [Bool.false_eq_true, if_false, Option.some.injEq, Prod.mk.injEq] at h
  obtain ⟨rfl, rfl, rfl, rfl, rfl, rfl⟩ := h
  go_enter Try.func103, Try.ntmps103
  go_wp2_with (first | ((with_reducible refine qr (f := 74) rfl ?_); refine goesL_ (some 7) rfl rfl Try.func74 (by kernel_rfl) rfl #[.pointer (some ⟨g, 0, none⟩)] rfl yq53 ?_;  (with_reducible refine (spec_l1Rd_user.calls g s0_0 s0_1 a1 a2 w0 _ ?side1 ?side2 A1.out).mono ?_); (case side1 => exact yq50); (case side2 => exact yq52); rintro e w1 ⟨rfl, hi, hb, hk⟩; refine ⟨_, rfl, ?_⟩; clear A1; have n0_ := Qz.mk (KeepBut.trans yq51 hk (.inl rfl)); replace HZ := Qz.mk (KeepBut.blk hk HZ.out (Nat.ne_of_gt hgw) (by simp)); have n1_ := Qz.mk (hb); have n2_ := Qz.mk (hi); clear HK; clear HB; clear HI0; have HK := n0_; have HB := n1_; have HI0 := n2_; clear n0_ n1_ n2_; (try clear hb); (try clear hk); (try clear hi)) | ((with_reducible refine qr (f := 74) rfl ?_); refine goesL_ (some 9) rfl rfl Try.func74 (by kernel_rfl) rfl #[.pointer (some ⟨g, 0, none⟩)] rfl yq53 ?_;  (with_reducible refine (spec_l1Rd_user.calls g s0_0 a2 b1 b2 w0 _ ?side1 ?side2 A2.out).mono ?_); (case side1 => exact yq50); (case side2 => exact yq52); rintro e w2 ⟨rfl, hi, hb, hk⟩; refine ⟨_, rfl, ?_⟩; clear A2; have n0_ := Qz.mk (KeepBut.trans yq51 hk (.inl rfl)); replace HZ := Qz.mk (KeepBut.blk hk HZ.out (Nat.ne_of_gt hgw) (by simp)); have n1_ := Qz.mk (hb); have n2_ := Qz.mk (hi); clear HK; clear HB; clear HI0; have HK := n0_; have HB := n1_; have HI0 := n2_; clear n0_ n1_ n2_; (try clear hb); (try clear hk); (try clear hi)) | ((with_reducible refine qr (f := 102) rfl ?_); refine goesL_ (some 11) rfl rfl Try.func102 (by kernel_rfl) rfl #[.pointer (some ⟨g, 0, none⟩), .int .i64 0, .int .i64 12] rfl yq53 ?_;  (with_reducible refine (spec_l1Rd_near.calls k g s0_0 b2 0 12 n1 n2 w0 _ ?side1 ?side2 A3.out).mono ?_); (case side1 => exact yq50); (case side2 => exact yq52); rintro e w3 ⟨rfl, hi, hb, hk⟩; refine ⟨_, rfl, ?_⟩; clear A3; have n0_ := Qz.mk (KeepBut.trans yq51 hk (.inl rfl)); replace HZ := Qz.mk (KeepBut.blk hk HZ.out (Nat.ne_of_gt hgw) (by simp)); have n1_ := Qz.mk (hb); have n2_ := Qz.mk (hi); clear HK; clear HB; clear HI0; have HK := n0_; have HB := n1_; have HI0 := n2_; clear n0_ n1_ n2_; (try clear hb); (try clear hk); (try clear hi)) | ((with_reducible refine qr (f := 80) rfl ?_); refine goesL_ (some 14) rfl rfl Try.func80 (by kernel_rfl) rfl #[.pointer (some ⟨g, 0, none⟩), .int .i64 4] rfl yq53 ?_;  (with_reducible refine (spec_l1Rd_below.calls g s0_0 n2 4 e1 e2 w0 _ ?side1 ?side2 A4.out).mono ?_); (case side1 => exact yq50); (case side2 => exact yq52); rintro e w4 ⟨rfl, hi, hb, hk⟩; refine ⟨_, rfl, ?_⟩; clear A4; have n0_ := Qz.mk (KeepBut.trans yq51 hk (.inl rfl)); replace HZ := Qz.mk (KeepBut.blk hk HZ.out (Nat.ne_of_gt hgw) (by simp)); have n1_ := Qz.mk (hb); have n2_ := Qz.mk (hi); clear HK; clear HB; clear HI0; have HK := n0_; have HB := n1_; have HI0 := n2_; clear n0_ n1_ n2_; (try clear hb); (try clear hk); (try clear hi)) | ((with_reducible refine qr (f := 102) rfl ?_); refine goesL_ (some 22) rfl rfl Try.func102 (by kernel_rfl) rfl #[.pointer (some ⟨g, 0, none⟩), .int .i64 0, .int .i64 40] rfl yq53 ?_;  (with_reducible refine (spec_l1Rd_near.calls k g s0_0 e2 0 40 c1 c2 w0 _ ?side1 ?side2 A5.out).mono ?_); (case side1 => exact yq50); (case side2 => exact yq52); rintro e w5 ⟨rfl, hi, hb, hk⟩; refine ⟨_, rfl, ?_⟩; clear A5; have n0_ := Qz.mk (KeepBut.trans yq51 hk (.inl rfl)); replace HZ := Qz.mk (KeepBut.blk hk HZ.out (Nat.ne_of_gt hgw) (by simp)); have n1_ := Qz.mk (hb); have n2_ := Qz.mk (hi); clear HK; clear HB; clear HI0; have HK := n0_; have HB := n1_; have HI0 := n2_; clear n0_ n1_ n2_; (try clear hb); (try clear hk); (try clear hi)) | (go_at_call 73; have hg5 := HI0.out.lt; have hs5 := HK.out.1; have hz5 := qy HZ.out; (with_reducible refine (spec_l1Rd_once.calls g s0_0 c2 24 false o2 w0 _ ?side1 ?side2 A6.out).mono ?_); (case side1 => exact yq50); (case side2 => exact yq52); rintro e w6 ⟨rfl, hi, hb, hk⟩;  clear A6; have n0_ := Qz.mk (KeepBut.trans yq51 hk (.inl rfl)); replace HZ := Qz.mk (KeepBut.blk hk (qa HZ.out _) (Nat.ne_of_gt hgw) (by simp)); have HM := Qz.mk (KeepBut.blk hk (blk_new _ _) (Nat.ne_of_gt hg5) (by simp)); have hm0 := (qd HM.out 0).trans rfl; have hz0 := (qd HZ.out 0).trans rfl; have hf0 := qe HZ.out 0; have hm1 := (qd HM.out 1).trans rfl; have hz1 := (qd HZ.out 1).trans rfl; have hf1 := qe HZ.out 1; have hm2 := (qd HM.out 2).trans rfl; have hz2 := (qd HZ.out 2).trans rfl; have hf2 := qe HZ.out 2; have hm3 := (qd HM.out 3).trans rfl; have hz3 := (qd HZ.out 3).trans rfl; have hf3 := qe HZ.out 3; have hm4 := (qd HM.out 4).trans rfl; have hz4 := (qd HZ.out 4).trans rfl; have hf4 := qe HZ.out 4; have n1_ := Qz.mk (hb); have n2_ := Qz.mk (hi); clear HK; clear HB; clear HI0; have HK := n0_; have HB := n1_; have HI0 := n2_; clear n0_ n1_ n2_; (try clear hb); (try clear hk); (try clear hi)))
  refine bodyPost_ret (results_cell_row rfl _ _ w.heap.size 66 #[.int .i64 (wrap64 (1 + n1)), .int .i64 e1, .string (tmin a1 b1), .string (tmax a1 b1), .int .i64 (wrap64 (1 + c1))] (0, 0) _ rfl (blk_set (blk_set (blk_set (blk_set (blk_set (HZ.out) 0 (.int .i64 (wrap64 (1 + n1)))) 1 (.int .i64 e1)) 2 (.string (tmin a1 b1))) 3 (.string (tmax a1 b1))) 4 (.int .i64 (wrap64 (1 + c1)))) Try.underlying66 rfl (by kernel_rfl)) rfl ?_
  have hgz : g ≠ w.heap.size := Nat.ne_of_lt hgw
  have hgm : g ≠ w5.heap.size := Nat.ne_of_lt hg5
  have hw5 := Nat.le_trans hL.out hs5
  exact ⟨rfl, by repeat (first | with_reducible exact HI0.out | (refine IsS123.far ?_ (by first | exact hgz | exact hgm) _)), by repeat (first | with_reducible exact HB.out | (refine qf ?_ (by first | exact hL.out | exact hw5))), by repeat (first | with_reducible exact HK.out | (refine qj ?_ (by first | exact Nat.le_refl _ | exact hs5) _))⟩
 | true =>
  simp only [if_true] at h
  obtain ⟨⟨v1, v2⟩, A7, h⟩ := Option.bind_eq_some_iff.mp h
  replace A7 := Qz.mk A7
  simp only [Option.some.injEq, Prod.mk.injEq] at h
  obtain ⟨rfl, rfl, rfl, rfl, rfl, rfl⟩ := h
  go_enter Try.func103, Try.ntmps103
  go_wp2_with (first | ((with_reducible refine qr (f := 74) rfl ?_); refine goesL_ (some 7) rfl rfl Try.func74 (by kernel_rfl) rfl #[.pointer (some ⟨g, 0, none⟩)] rfl yq53 ?_;  (with_reducible refine (spec_l1Rd_user.calls g s0_0 s0_1 a1 a2 w0 _ ?side1 ?side2 A1.out).mono ?_); (case side1 => exact yq50); (case side2 => exact yq52); rintro e w1 ⟨rfl, hi, hb, hk⟩; refine ⟨_, rfl, ?_⟩; clear A1; have n0_ := Qz.mk (KeepBut.trans yq51 hk (.inl rfl)); replace HZ := Qz.mk (KeepBut.blk hk HZ.out (Nat.ne_of_gt hgw) (by simp)); have n1_ := Qz.mk (hb); have n2_ := Qz.mk (hi); clear HK; clear HB; clear HI0; have HK := n0_; have HB := n1_; have HI0 := n2_; clear n0_ n1_ n2_; (try clear hb); (try clear hk); (try clear hi)) | ((with_reducible refine qr (f := 74) rfl ?_); refine goesL_ (some 9) rfl rfl Try.func74 (by kernel_rfl) rfl #[.pointer (some ⟨g, 0, none⟩)] rfl yq53 ?_;  (with_reducible refine (spec_l1Rd_user.calls g s0_0 a2 b1 b2 w0 _ ?side1 ?side2 A2.out).mono ?_); (case side1 => exact yq50); (case side2 => exact yq52); rintro e w2 ⟨rfl, hi, hb, hk⟩; refine ⟨_, rfl, ?_⟩; clear A2; have n0_ := Qz.mk (KeepBut.trans yq51 hk (.inl rfl)); replace HZ := Qz.mk (KeepBut.blk hk HZ.out (Nat.ne_of_gt hgw) (by simp)); have n1_ := Qz.mk (hb); have n2_ := Qz.mk (hi); clear HK; clear HB; clear HI0; have HK := n0_; have HB := n1_; have HI0 := n2_; clear n0_ n1_ n2_; (try clear hb); (try clear hk); (try clear hi)) | ((with_reducible refine qr (f := 102) rfl ?_); refine goesL_ (some 11) rfl rfl Try.func102 (by kernel_rfl) rfl #[.pointer (some ⟨g, 0, none⟩), .int .i64 0, .int .i64 12] rfl yq53 ?_;  (with_reducible refine (spec_l1Rd_near.calls k g s0_0 b2 0 12 n1 n2 w0 _ ?side1 ?side2 A3.out).mono ?_); (case side1 => exact yq50); (case side2 => exact yq52); rintro e w3 ⟨rfl, hi, hb, hk⟩; refine ⟨_, rfl, ?_⟩; clear A3; have n0_ := Qz.mk (KeepBut.trans yq51 hk (.inl rfl)); replace HZ := Qz.mk (KeepBut.blk hk HZ.out (Nat.ne_of_gt hgw) (by simp)); have n1_ := Qz.mk (hb); have n2_ := Qz.mk (hi); clear HK; clear HB; clear HI0; have HK := n0_; have HB := n1_; have HI0 := n2_; clear n0_ n1_ n2_; (try clear hb); (try clear hk); (try clear hi)) | ((with_reducible refine qr (f := 80) rfl ?_); refine goesL_ (some 14) rfl rfl Try.func80 (by kernel_rfl) rfl #[.pointer (some ⟨g, 0, none⟩), .int .i64 4] rfl yq53 ?_;  (with_reducible refine (spec_l1Rd_below.calls g s0_0 n2 4 e1 e2 w0 _ ?side1 ?side2 A4.out).mono ?_); (case side1 => exact yq50); (case side2 => exact yq52); rintro e w4 ⟨rfl, hi, hb, hk⟩; refine ⟨_, rfl, ?_⟩; clear A4; have n0_ := Qz.mk (KeepBut.trans yq51 hk (.inl rfl)); replace HZ := Qz.mk (KeepBut.blk hk HZ.out (Nat.ne_of_gt hgw) (by simp)); have n1_ := Qz.mk (hb); have n2_ := Qz.mk (hi); clear HK; clear HB; clear HI0; have HK := n0_; have HB := n1_; have HI0 := n2_; clear n0_ n1_ n2_; (try clear hb); (try clear hk); (try clear hi)) | ((with_reducible refine qr (f := 102) rfl ?_); refine goesL_ (some 22) rfl rfl Try.func102 (by kernel_rfl) rfl #[.pointer (some ⟨g, 0, none⟩), .int .i64 0, .int .i64 40] rfl yq53 ?_;  (with_reducible refine (spec_l1Rd_near.calls k g s0_0 e2 0 40 c1 c2 w0 _ ?side1 ?side2 A5.out).mono ?_); (case side1 => exact yq50); (case side2 => exact yq52); rintro e w5 ⟨rfl, hi, hb, hk⟩; refine ⟨_, rfl, ?_⟩; clear A5; have n0_ := Qz.mk (KeepBut.trans yq51 hk (.inl rfl)); replace HZ := Qz.mk (KeepBut.blk hk HZ.out (Nat.ne_of_gt hgw) (by simp)); have n1_ := Qz.mk (hb); have n2_ := Qz.mk (hi); clear HK; clear HB; clear HI0; have HK := n0_; have HB := n1_; have HI0 := n2_; clear n0_ n1_ n2_; (try clear hb); (try clear hk); (try clear hi)) | (go_at_call 73; have hg5 := HI0.out.lt; have hs5 := HK.out.1; have hz5 := qy HZ.out; (with_reducible refine (spec_l1Rd_once.calls g s0_0 c2 24 true o2 w0 _ ?side1 ?side2 A6.out).mono ?_); (case side1 => exact yq50); (case side2 => exact yq52); rintro e w6 ⟨rfl, hi, hb, hk⟩;  clear A6; have n0_ := Qz.mk (KeepBut.trans yq51 hk (.inl rfl)); replace HZ := Qz.mk (KeepBut.blk hk (qa HZ.out _) (Nat.ne_of_gt hgw) (by simp)); have HM := Qz.mk (KeepBut.blk hk (blk_new _ _) (Nat.ne_of_gt hg5) (by simp)); have hm0 := (qd HM.out 0).trans rfl; have hz0 := (qd HZ.out 0).trans rfl; have hf0 := qe HZ.out 0; have hm1 := (qd HM.out 1).trans rfl; have hz1 := (qd HZ.out 1).trans rfl; have hf1 := qe HZ.out 1; have hm2 := (qd HM.out 2).trans rfl; have hz2 := (qd HZ.out 2).trans rfl; have hf2 := qe HZ.out 2; have hm3 := (qd HM.out 3).trans rfl; have hz3 := (qd HZ.out 3).trans rfl; have hf3 := qe HZ.out 3; have hm4 := (qd HM.out 4).trans rfl; have hz4 := (qd HZ.out 4).trans rfl; have hf4 := qe HZ.out 4; have n1_ := Qz.mk (hb); have n2_ := Qz.mk (hi); clear HK; clear HB; clear HI0; have HK := n0_; have HB := n1_; have HI0 := n2_; clear n0_ n1_ n2_; (try clear hb); (try clear hk); (try clear hi)) | ((with_reducible refine qr (f := 72) rfl ?_); refine goesL_ (some 28) rfl rfl Try.func72 (by kernel_rfl) rfl #[.pointer (some ⟨g, 0, none⟩), .int .i64 0, .int .i64 3] rfl yq53 ?_; clear hm0 hz0 hf0 hm1 hz1 hf1 hm2 hz2 hf2 hm3 hz3 hf3 hm4 hz4 hf4; (with_reducible refine (spec_l1Rd_off.calls k g s0_0 o2 0 3 v1 v2 w0 _ ?side1 ?side2 A7.out).mono ?_); (case side1 => exact yq50); (case side2 => exact yq52); rintro e w7 ⟨rfl, hi, hb, hk⟩; refine ⟨_, rfl, ?_⟩; clear A7; have n0_ := Qz.mk (KeepBut.trans yq51 hk (.inl rfl)); replace HZ := Qz.mk (KeepBut.blk hk HZ.out (Nat.ne_of_gt hgw) (by simp)); replace HM := Qz.mk (KeepBut.blk hk HM.out (Nat.ne_of_gt hg5) (by simp)); have hfm := qe HM.out 1; have hm0 := (qd HM.out 0).trans rfl; have hz0 := (qd HZ.out 0).trans rfl; have hf0 := qe HZ.out 0; have hm1 := (qd HM.out 1).trans rfl; have hz1 := (qd HZ.out 1).trans rfl; have hf1 := qe HZ.out 1; have hm2 := (qd HM.out 2).trans rfl; have hz2 := (qd HZ.out 2).trans rfl; have hf2 := qe HZ.out 2; have hm3 := (qd HM.out 3).trans rfl; have hz3 := (qd HZ.out 3).trans rfl; have hf3 := qe HZ.out 3; have hm4 := (qd HM.out 4).trans rfl; have hz4 := (qd HZ.out 4).trans rfl; have hf4 := qe HZ.out 4; have n1_ := Qz.mk (hb); have n2_ := Qz.mk (hi); clear HK; clear HB; clear HI0; have HK := n0_; have HB := n1_; have HI0 := n2_; clear n0_ n1_ n2_; (try clear hb); (try clear hk); (try clear hi)))
  refine bodyPost_ret (results_cell_row rfl _ _ w.heap.size 66 #[.int .i64 (wrap64 (1 + n1)), .int .i64 v1, .string (tmin a1 b1), .string (tmax a1 b1), .int .i64 (wrap64 (1 + c1))] (0, 0) _ rfl (blk_set (blk_set (blk_set (blk_set (blk_set (qq HZ.out (Nat.ne_of_lt hz5) _) 0 (.int .i64 (wrap64 (1 + n1)))) 1 (.int .i64 v1)) 2 (.string (tmin a1 b1))) 3 (.string (tmax a1 b1))) 4 (.int .i64 (wrap64 (1 + c1)))) Try.underlying66 rfl (by kernel_rfl)) rfl ?_
  have hgz : g ≠ w.heap.size := Nat.ne_of_lt hgw
  have hgm : g ≠ w5.heap.size := Nat.ne_of_lt hg5
  have hw5 := Nat.le_trans hL.out hs5
  exact ⟨rfl, by repeat (first | with_reducible exact HI0.out | (refine IsS123.far ?_ (by first | exact hgz | exact hgm) _)), by repeat (first | with_reducible exact HB.out | (refine qf ?_ (by first | exact hL.out | exact hw5))), by repeat (first | with_reducible exact HK.out | (refine qj ?_ (by first | exact Nat.le_refl _ | exact hs5) _))⟩
end Go.Proofs.Ytcgejabkjljeeaa.P
end
