/- Proved: the law FnReplayed of the given program returns true for every input of its Go types and leaves each argument as it was; no condition. (Part 14 of 17.) -/
import Derived.Test.YtcgejabkjljeeaaCFnReplayed4
import Derived.Lib.SliceRun
import Derived.Lib.Walk
import Derived.Test.YtcgejabkjljeeaaCFnReplayed10
import Derived.Test.YtcgejabkjljeeaaCFnReplayed8
import Derived.Test.YtcgejabkjljeeaaCFnReplayed12
import Derived.Test.YtcgejabkjljeeaaCFnReplayed7
section
namespace Go.Proofs.Ytcgejabkjljeeaa.P
open Go.RowKit Go.Proofs.YtcgejabkjljeeaaW.PrintWords Go.Proofs.YtcgejabkjljeeaaW.PrintLast Go.Proofs.YtcgejabkjljeeaaW.PrintMore
attribute [local go_sem] str_gtr str_leq str_geq max2_int min2_int max_two min_two qe1 qd1 max_four min_four
set_option linter.unusedVariables false
set_option linter.unusedSimpArgs false
theorem R_empty {α : Type} (d : Kd α) (e : Nat) (w : World) (base : Nat) (hb : base ≤ w.heap.size) : d.R e (w.alloc (.cells #[] e)) base (fun _ => True) (.slice (some ⟨w.heap.size, 0, none⟩) ([] : List α).length 0) [] :=
 ⟨fun _ _ => trivial, [], World.ownsRow_made w #[] 0 hb (Nat.zero_le _) (by simp), Reps.none _ _⟩
set_option maxHeartbeats 4000000 in
set_option maxRecDepth 100000 in
theorem clone_Meta (A0 : Option Addr) (c0 : Nat) (l : List S66) (w0 w : World) (hB : Below w0.heap.size w0 w) (hr : Kd.C k66 w A0 l.length l) (hl : l.length * 56 ≤ 140737488355328) :
  Calls Try.prog 69 #[.slice A0 l.length c0] w fun e w' => ∃ v, e = .returned v ∧ Kd.R k66 66 w' w0.heap.size (fun _ => True) v l ∧ Below w0.heap.size w0 w' := by
 have q : ∀ (w : World) (a : Option Addr) (n c n' c' : Nat), (binOp .eql 30 (.slice a n c) (.slice none n' c')).run Try.prog w = .ok (.bool a.isNone) w := fun w a n c n' c' => Lib.run_eql_slice_nil w _ _ a n c n' c' Try.underlying30
 have HR := Qz.mk hr
 have HB := Qz.mk hB
 have hsz := hB.size
 cases A0 with
 | none =>
  have h0 : l = [] := by
   by_cases h0 : l.length = 0
   ·exact List.length_eq_zero_iff.1 h0
   ·obtain ⟨ad, e, _⟩ := hr.2.2 (by omega)
    cases e
  clear hr hB
  go_enter Try.func69, Try.ntmps69
  go_wp2
  go_ret
  refine ⟨_, rfl, ?_, HB.out⟩
  rw [h0]
  exact Kd.R_nil _ _ _ _ _
 | some ad =>
  clear hr hB
  have HX := Qz.mk hl
  clear hl
  go_enter Try.func69, Try.ntmps69
  go_wp2_with (first | ((with_reducible refine gate_builtin (b := .append) (xs := #[.tmp 5, .tmp 6]) rfl ?_); at_builtin; refine Kd.R_append_rows k66 (w0 := w0) w0.heap.size rfl (.tmp 5) (.tmp 6) 30 66 (.agg #[.int .i64 0, .int .i64 0, .string ⟨#[]⟩, .string ⟨#[]⟩, .int .i64 0]) 56 rfl Try.underlying30 info66 rfl (by decide) (by omega) (.slice (some ⟨w.heap.size, 0, none⟩) ([] : List S66).length 0) [] l (some ad) l.length c0 (fun _ => True) (fun _ => False) rfl rfl ?aO ?aR (fun _ _ h => h) (fun _ h => h.elim) ?aF ?aB ?aS ?aL ?_; (case aO => exact R_empty k66 66 w _ hsz); (case aR => exact Kd.C_below HR.out ((Below.refl _ w).alloc (Nat.le_refl _) _)); (case aF => exact fun _ _ => trivial); (case aB => exact HB.out.alloc hsz _); (case aS => exact (HB.out.alloc hsz _).size); (case aL => have := HX.out; simp only [List.length_nil, Nat.zero_add]; exact this); intro v1 w1 ho hb hg hat))
  go_ret
  exact ⟨_, rfl, ho, hb⟩
end Go.Proofs.Ytcgejabkjljeeaa.P
end

section
namespace Go.Proofs.Ytcgejabkjljeeaa.P
open Go.RowKit Go.Proofs.YtcgejabkjljeeaaW.PrintWords Go.Proofs.YtcgejabkjljeeaaW.PrintLast Go.Proofs.YtcgejabkjljeeaaW.PrintMore
attribute [local go_sem] str_gtr str_leq str_geq max2_int min2_int max_two min_two qe1 qd1 max_four min_four
set_option linter.unusedVariables false
set_option linter.unusedSimpArgs false
def idxf {α : Type} (p : α → Bool) : List α → Nat → Int
 | [], _ => -1
 | x :: xs, i => if p x = true then (i : Int) else idxf p xs (i + 1)
theorem idxf_hit {α : Type} (p : α → Bool) (d : α) : ∀ (l : List α) (k i : Nat), k < l.length → p (l.getD k d) = true → (∀ j, j < k → p (l.getD j d) = false) → idxf p l i = ((i + k : Nat) : Int)
 | [], _, _, h, _, _ => absurd h (Nat.not_lt_zero _)
 | x :: xs, 0, i, _, h, _ => by
  have : p x = true := by simpa using h
  simp [idxf, this]
 | x :: xs, k + 1, i, hk, h, hn => by
  have h0 : p x = false := by simpa using hn 0 (Nat.succ_pos _)
  simp only [idxf, h0, Bool.false_eq_true, if_false]
  rw [idxf_hit p d xs k (i + 1) (by simpa using hk) (by simpa using h) (fun j hj => by simpa using hn (j + 1) (by omega))]
  congr 1
  omega
theorem idxf_miss {α : Type} (p : α → Bool) (d : α) : ∀ (l : List α) (i : Nat), (∀ j, j < l.length → p (l.getD j d) = false) → idxf p l i = -1
 | [], _, _ => rfl
 | x :: xs, i, hn => by
  have h0 : p x = false := by simpa using hn 0 (by simp)
  simp only [idxf, h0, Bool.false_eq_true, if_false]
  exact idxf_miss p d xs (i + 1) (fun j hj => by simpa using hn (j + 1) (by simpa using hj))
theorem idxf_any {α : Type} (p : α → Bool) : ∀ (l : List α) (i : Nat), decide (0 ≤ idxf p l i) = l.any p
 | [], _ => rfl
 | x :: xs, i => by
  cases h : p x with
  | true => simp [idxf, h]
  | false =>
   simp only [idxf, h, Bool.false_eq_true, if_false, List.any_cons, Bool.false_or]
   exact idxf_any p xs (i + 1)
set_option maxHeartbeats 2000000 in
theorem indexFunc_Meta.calls (g : Nat) (lb : Array Value) (p : S66 → Bool) (A : Option Addr) (c : Nat) (l : List S66) (w : World) (hr : Kd.C k66 w A l.length l)
  (eg : ∀ args w, (callFunc g args).run Try.prog w = .ok (.enter g args) w)
  (hp : ∀ (x : S66) (W : World), Below w.heap.size w W → Calls Try.prog g (#[.agg #[.int .i64 x.f0, .int .i64 x.f1, .string x.f2, .string x.f3, .int .i64 x.f4]] ++ lb) W fun e w' => e = .returned (.bool (p x)) ∧ Below w.heap.size w w') :
  Calls Try.prog 92 #[.slice A l.length c, .func (.func g) #[] lb] w fun e w' => e = .returned (.int .i64 (idxf p l 0)) ∧ Below w.heap.size w w' := by
 have hlm := Kd.C_max hr
 have HR := Qz.mk hr
 clear hr
 go_enter Try.func92, Try.ntmps92
 go_wp2
 go_loopg [5, 8] l.length (fun gg _ s8 wr => ∃ i : Int, 0 ≤ i ∧ i ≤ l.length ∧ (l.length : Int) - i ≤ gg ∧ s8 = .int .i64 i ∧ Qz (Below w.heap.size w wr) ∧ Qz (∀ j : Nat, (j : Int) < i → p (l.getD j z66) = false))
 case atStart => exact ⟨0, by omega, by omega, by omega, rfl, ⟨Below.refl _ w⟩, ⟨fun j hj => absurd hj (by omega)⟩⟩
 case round =>
  obtain ⟨i, hi0, hi1, hg, rfl, BW, AN⟩ := hrel
  by_cases hlt : i < (l.length : Int)
  ·obtain ⟨k1, rfl⟩ : ∃ m, gk = m + 1 := ⟨gk - 1, by omega⟩
   have hd : decide (i < (l.length : Int)) = true := decide_eq_true hlt
   obtain ⟨ad, e, h0, h1, h2, h3, h4⟩ := at_T66 HR.out i hi0 hlt
   cases e
   replace h0 := (BW.out.cell (World.block_lt_of_cell? w _ h0)).trans h0
   replace h1 := (BW.out.cell (World.block_lt_of_cell? w _ h1)).trans h1
   replace h2 := (BW.out.cell (World.block_lt_of_cell? w _ h2)).trans h2
   replace h3 := (BW.out.cell (World.block_lt_of_cell? w _ h3)).trans h3
   replace h4 := (BW.out.cell (World.block_lt_of_cell? w _ h4)).trans h4
   have hcall := hp (qa1 l i) wr BW.out
   clear hp
   have HX : Qz (qa1 l i = l.getD i.toNat z66) := ⟨rfl⟩
   generalize qa1 l i = x at h0 h1 h2 h3 h4 hcall HX
   cases hq : p x with
   | true =>
    rw [hq] at hcall
    have HQ := Qz.mk hq
    clear hq
    go_wp2_with fail
    (with_reducible refine hcall.mono ?_)
    rintro e w' ⟨rfl, hb'⟩
    go_wp2
    go_ret
    refine ⟨?_, hb'⟩
    show Ending.returned (.int .i64 i) = _
    rw [idxf_hit p z66 l i.toNat 0 (by omega) (by rw [← HX.out]; exact HQ.out) (fun j hj => AN.out j (by omega))]
    rw [show (((0 + i.toNat : Nat)) : Int) = i from by omega]
   | false =>
    rw [hq] at hcall
    have HQ := Qz.mk hq
    clear hq
    go_wp2_with fail
    (with_reducible refine hcall.mono ?_)
    rintro e w' ⟨rfl, hb'⟩
    go_wp2
    go_roundg k1
    case measure => omega
    case rel =>
     refine ⟨i + 1, by omega, by omega, by omega, by first | rfl | go_num, ⟨hb'⟩, ⟨fun j hj => ?_⟩⟩
     by_cases e : (j : Int) = i
     ·subst e
      rw [← show x = l.getD j z66 from HX.out]
      exact HQ.out
     ·exact AN.out j (by omega)
  ·have hd : decide (i < (l.length : Int)) = false := decide_eq_false hlt
   go_wp2
   all_goals
    go_ret
    refine ⟨?_, BW.out⟩
    rw [idxf_miss p z66 l 0 (fun j hj => AN.out j (by omega))]
    rfl
end Go.Proofs.Ytcgejabkjljeeaa.P
end

section
namespace Go.Proofs.Ytcgejabkjljeeaa.P
open Go.RowKit Go.Proofs.YtcgejabkjljeeaaW.PrintWords Go.Proofs.YtcgejabkjljeeaaW.PrintLast Go.Proofs.YtcgejabkjljeeaaW.PrintMore
attribute [local go_sem] str_gtr str_leq str_geq max2_int min2_int max_two min_two qe1 qd1 max_four min_four
set_option linter.unusedVariables false
set_option linter.unusedSimpArgs false
theorem zeroCells_length (cs : Array Value) (n : Nat) : (Builtin.zeroCells cs n).toList.length = n * cs.size := by simp [Builtin.zeroCells]
theorem zeroCells_one (cs : Array Value) (n : Nat) (hp : 0 < cs.size) (h : ∀ v ∈ cs, v.oneCell' = true) : ∀ v ∈ (Builtin.zeroCells cs n).toList, v.oneCell' = true := by
 intro v hv
 simp only [Builtin.zeroCells, Array.toList_map, List.mem_map] at hv
 obtain ⟨i, _, rfl⟩ := hv
 rw [getElem!_pos cs (i % cs.size) (Nat.mod_lt _ hp)]
 exact h _ (Array.getElem_mem _)
theorem idxf_neg {α : Type} (p : α → Bool) : ∀ (l : List α) (i : Nat), idxf p l i = -1 ∨ ∃ k : Nat, k < l.length ∧ idxf p l i = ((i + k : Nat) : Int) ∧ (∀ d, p (l.getD k d) = true) ∧ ∀ d j, j < k → p (l.getD j d) = false
 | [], _ => .inl rfl
 | x :: xs, i => by
  cases h : p x with
  | true => exact .inr ⟨0, by simp, by simp [idxf, h], fun d => by simpa using h, fun d j hj => absurd hj (Nat.not_lt_zero _)⟩
  | false =>
   simp only [idxf, h, Bool.false_eq_true, if_false]
   rcases idxf_neg p xs (i + 1) with h1 | ⟨k, h1, h2, h3, h4⟩
   ·exact .inl h1
   ·refine .inr ⟨k + 1, by simpa using h1, by rw [h2]; congr 1; omega, fun d => by simpa using h3 d, fun d j hj => ?_⟩
    cases j with
    | zero => simpa using h
    | succ j => simpa using h4 d j (by omega)
def StayBut (W W' : World) (v : Value) : Prop := W.heap.size ≤ W'.heap.size ∧ ∀ k, k < W.heap.size → some k ≠ v.ownBlock → W'.heap[k]? = W.heap[k]?
theorem StayBut.below {W W' : World} (h : Below W.heap.size W W') (v : Value) : StayBut W W' v := ⟨h.size, fun k hk _ => h.block k hk⟩
theorem StayBut.step {W W1 W2 : World} {v : Value} (h : StayBut W W1 v) (hb : Below W1.heap.size W1 W2) : StayBut W W2 v := ⟨Nat.le_trans h.1 hb.size, fun k hk hv => (hb.block k (Nat.lt_of_lt_of_le hk h.1)).trans (h.2 k hk hv)⟩
theorem StayBut.grown {W W1 W2 : World} {v : Value} {g : Nat} (h : StayBut W W1 v) (hg : W1.grownBy W2 (some g)) (hv : v.ownBlock = some g) : StayBut W W2 v := ⟨Nat.le_trans h.1 hg.size, fun k hk hk2 => (hg.block k (Nat.lt_of_lt_of_le hk h.1) (by rw [← hv]; exact hk2)).trans (h.2 k hk hk2)⟩
end Go.Proofs.Ytcgejabkjljeeaa.P
end

section
namespace Go.Proofs.Ytcgejabkjljeeaa.P
open Go.RowKit Go.Proofs.YtcgejabkjljeeaaW.PrintWords Go.Proofs.YtcgejabkjljeeaaW.PrintLast Go.Proofs.YtcgejabkjljeeaaW.PrintMore
attribute [local go_sem] str_gtr str_leq str_geq max2_int min2_int max_two min_two qe1 qd1 max_four min_four
set_option linter.unusedVariables false
set_option linter.unusedSimpArgs false
theorem R_clear_tail {α : Type} (d : Kd α) {P : Program} {e : Nat} {W : World} {base : Nat} {ok : Nat → Prop} {g n cap : Nat} {xs : List α} (HO : d.R e W base ok (.slice (some ⟨g, 0, none⟩) n cap) xs) (q : Nat) (hq : n + (q + 1) ≤ cap) (t : TypeId) (z : Value)
  (ht : P.underlying t = some (.slice e)) (hv : ∀ w, (zeroValue e).run P w = .ok z w) (hz : z.cells.size = d.sz) (h0 : 0 < d.sz) (h1 : ∀ v ∈ z.cells, v.oneCell' = true) (c' : Nat) :
  ∃ W', (∀ ty, (Builtin.clear_ #[t] ty #[.slice (some ⟨g, n * d.sz, none⟩) (q + 1) c']).run P W = .ok (.tuple #[]) W') ∧ d.R e W' base ok (.slice (some ⟨g, 0, none⟩) n cap) xs ∧ W.grownBy W' (some g) := by
 have hn : n = xs.length := (Kd.R_reads' HO).1
 subst hn
 obtain ⟨h2, inner, ho, hr⟩ := HO
 rcases ho.2 with ⟨hv0, _⟩ | ⟨g', cap', cur, hv0, hb, hh, hnc, hcm, hcs, htk⟩
 ·cases hv0
 injection hv0 with ea _ ec
 injection ea with ea
 injection ea with eg
 subst eg; subst ec
 have hlen : (Builtin.zeroCells z.cells (q + 1)).toList.length = (q + 1) * d.sz := by rw [zeroCells_length, hz]
 have hfit : xs.length * d.sz + (q + 1) * d.sz ≤ cur.size := by
  rw [← Nat.add_mul, hcs]
  exact Nat.mul_le_mul_right _ (by omega)
 generalize (q + 1) * d.sz = S at hlen hfit
 have hst := run_storeCells_cells (P := P) g (xs.length * d.sz) (Builtin.zeroCells z.cells (q + 1)).toList 0 W (fun j hj => by rw [cell_of_row W g _ cur e (0, 0) hh]; rw [hlen] at hj; simp; omega) (fun j _ => qf hh _) (zeroCells_one _ _ (by omega) h1)
 simp only [Nat.add_zero] at hst
 refine ⟨W.setCells g (xs.length * d.sz) (Builtin.zeroCells z.cells (q + 1)).toList, fun ty => ?_, ?_, ?_⟩
 ·simp [Builtin.clear_, run_underlying ht, hv, hst]
 ·refine ⟨h2, inner, ?_, hr.imp_ (fun _ _ hp => d.M_move (fun k hk => setCells_far _ _ k (fun he => hk.2 (by rw [he]; simp [Value.ownBlock]))) hp)⟩
  obtain ⟨cur', h3, h4, h5⟩ := setCells_row (Builtin.zeroCells z.cells (q + 1)).toList (xs.length * d.sz) W cur hh (by rw [hlen]; exact hfit)
  refine ⟨ho.1, .inr ⟨g, cap, cur', rfl, hb, h3, hnc, hcm, by rw [h4, hcs], ?_⟩⟩
  rw [h5, ← htk, List.append_assoc, List.take_append_of_le_length (by rw [List.length_take, Array.length_toList (xs := cur)]; omega), List.take_take, Nat.min_self]
 ·obtain ⟨s1, s2, s3, s4⟩ := setCells_same g (Builtin.zeroCells z.cells (q + 1)).toList (xs.length * d.sz) W
  exact ⟨s1, s2, s3, by rw [s4]; exact Nat.le_refl _, fun k _ hk => setCells_far _ _ k (fun he => hk (by rw [he]))⟩
section
attribute [-go_sem] Go.Builtin.append_
set_option maxHeartbeats 4000000 in
set_option maxRecDepth 100000 in
theorem delete_Meta (i g n c base : Nat) (xs : List S66) (w0 W : World) (hB : Below base w0 W) (hbase : base ≤ W.heap.size) (hr : Kd.R k66 66 W base (fun _ => True) (.slice (some ⟨g, 0, none⟩) (n + 1) c) xs) (hi : i < n + 1) :
  Calls Try.prog 94 #[.slice (some ⟨g, 0, none⟩) (n + 1) c, .int .i64 i, .int .i64 ((i + 1 : Nat) : Int)] W fun e w' => e = .returned (.slice (some ⟨g, 0, none⟩) n c) ∧ Kd.R k66 66 w' base (fun _ => True) (.slice (some ⟨g, 0, none⟩) n c) (xs.eraseIdx i) ∧ Below base w0 w' := by
 obtain ⟨hn, hnc, hC⟩ := Kd.R_reads' hr
 have hmax : c ≤ 9223372036854775807 := by
  obtain ⟨inner, ho⟩ := Kd.R_own hr
  rcases ho.2 with ⟨hv0, _⟩ | ⟨g', cap', cur, hv0, hb, hh, h1, h2, _⟩
  ·cases hv0
  ·injection hv0 with _ _ ec
   rw [ec]; exact h2
 clear hC hn
 obtain ⟨i0, hi0, hsz⟩ := Option.map_eq_some_iff.1 (show (Try.prog.info? 66).map (·.size) = some (k66).sz from by kernel_rfl)
 obtain ⟨W1, hap, hR1, hg1⟩ := Kd.R_delete_run (P := Try.prog) k66 base 30 30 66 i0 Try.underlying30 hi0 hsz (Kd.R_drew hr) hi rfl (c - (i + 1))
 obtain ⟨W2, hcl, hR2, hg2⟩ := R_clear_tail (P := Try.prog) k66 hR1 0 (by omega) 30 (.agg #[.int .i64 0, .int .i64 0, .string ⟨#[]⟩, .string ⟨#[]⟩, .int .i64 0]) Try.underlying30 (fun w => by kernel_rfl) rfl (by decide) (by intro q hq; simp [Value.cells] at hq; rcases hq with rfl | rfl | rfl | rfl | rfl <;> rfl) (c - n)
 have hcl0 := hcl 0
 clear hcl
 have hbs : ∀ q, (some g : Option Nat) = some q → base ≤ q := fun q hq => by injection hq with hq; subst hq; exact Kd.R_base hr _ (by simp [Value.ownBlock])
 have HB2 := Qz.mk ((below_drew hB).grown hg1 hbase hbs |>.grown hg2 (Nat.le_trans hbase hg1.size) hbs)
 have HR2 := Qz.mk hR2
 have hz : ((i : Int) == ((i + 1 : Nat) : Int)) = false := beq_eq_false_iff_ne.2 (by omega)
 clear hR1 hR2 hB hg1 hg2 hr hbs
 have hsl : (k66).sz = 5 := rfl
 rw [hsl] at hap hcl0
 rw [Nat.add_sub_cancel, Nat.zero_add] at hcl0
 rw [Nat.add_sub_cancel] at hap HR2
 by_cases hc : c = i + 1
 ·rw [if_pos hc] at hap
  obtain rfl : n = i := by omega
  subst hc
  simp only [Nat.sub_self] at hap
  rw [show n + 1 - n = 1 from by omega] at hcl0
  go_enter Try.func94, Try.ntmps94
  go_wp2
  go_region
  all_goals go_wp2
  all_goals go_ret
  all_goals exact ⟨rfl, HR2.out, HB2.out⟩
 ·rw [if_neg hc, Option.map_some, add_at, Nat.zero_add, show n + 1 - (i + 1) = n - i from by omega] at hap
  go_enter Try.func94, Try.ntmps94
  go_wp2
  go_region
  all_goals go_wp2
  all_goals go_ret
  all_goals exact ⟨rfl, HR2.out, HB2.out⟩
end
end Go.Proofs.Ytcgejabkjljeeaa.P
end

section
namespace Go.Proofs.Ytcgejabkjljeeaa.P
open Go.RowKit Go.Proofs.YtcgejabkjljeeaaW.PrintWords Go.Proofs.YtcgejabkjljeeaaW.PrintLast Go.Proofs.YtcgejabkjljeeaaW.PrintMore
attribute [local go_sem] str_gtr str_leq str_geq max2_int min2_int max_two min_two qe1 qd1 max_four min_four
set_option linter.unusedVariables false
set_option linter.unusedSimpArgs false
theorem cmpB_metas : CmpB Try.prog 67 #[] encL (cfL mcmp) := by
 intro W x y
 obtain ⟨k, hk⟩ := Ev.rounds (cmpMetas_ev x.1 y.1)
 exact impl_cmpMetas.calls k x.1.f0 x.1.f1 x.1.f2 x.1.f3 x.1.f4 y.1.f0 y.1.f1 y.1.f2 y.1.f3 y.1.f4 _ W hk
def numP (n : Int) (x : S66) : Bool := x.f0 == n
def cutAll : List S66 → List Int → Option (List S66)
 | l, [] => some l
 | l, n :: ns => if idxf (numP n) l 0 < 0 then none else cutAll (l.eraseIdx (idxf (numP n) l 0).toNat) ns
def edV (l : List S66) (n s g : Int) (adds : List S66) (cuts : List Int) (n' s' g' : Int) : List S66 × Int × Int × Int × Bool :=
 if n' < n ∨ s' < s ∨ g' < g ∨ 30 < adds.length then ([], 0, 0, 0, false) else
 match cutAll l cuts with
 | none => ([], 0, 0, 0, false)
 | some m => if vOk (srt mcmp (m ++ adds)) n' s' g' then (srt mcmp (m ++ adds), n', s', g', true) else ([], 0, 0, 0, false)
def impl_Version_edited.f (l0_0 : List S66) (a0_1 a0_2 a0_3 : Int) (l1_0 : List S66) (l1_1 : List Int) (a1_2 a1_3 a1_4 : Int) : Option (List S66 × Int × Int × Int × Bool) :=
 if l0_0.length ≤ 1000000 then some (edV l0_0 a0_1 a0_2 a0_3 l1_0 l1_1 a1_2 a1_3 a1_4) else none
set_option maxHeartbeats 4000000 in
theorem numP_calls (n : Int) (b : Nat) (x : S66) (W : World) (hc : W.cell? ⟨b, 0, none⟩ = some (.int .i64 n)) (hb : b < W.heap.size) :
  Calls Try.prog 93 #[.agg #[.int .i64 x.f0, .int .i64 x.f1, .string x.f2, .string x.f3, .int .i64 x.f4], .pointer (some ⟨b, 0, none⟩)] W fun e w' => e = .returned (.bool (numP n x)) ∧ Below W.heap.size W w' := by
 have hca : ∀ o, (W.alloc o).cell? ⟨b, 0, none⟩ = some (.int .i64 n) := fun o => (((Below.refl _ W).alloc (Nat.le_refl _) o).cell (p := ⟨b, 0, none⟩) hb).trans hc
 have hne : b ≠ W.heap.size := by omega
 unfold numP
 go_enter Try.func93, Try.ntmps93
 go_wp2
 go_ret
 exact ⟨rfl, (Below.refl _ W).alloc (Nat.le_refl _) _⟩
theorem put4 {w : World} {g t : Nat} {x0 x1 x2 x3 a b c d : Value} (h : w.heap[g]? = some (.cells #[x0, x1, x2, x3] t (0, 0))) : ((((w.setCell ⟨g, 0, none⟩ a).setCell ⟨g, 1, none⟩ b).setCell ⟨g, 2, none⟩ c).setCell ⟨g, 3, none⟩ d).heap[g]? = some (.cells #[a, b, c, d] t (0, 0)) :=
 qt (qt (qt (qt h 0 a rfl) 1 b rfl) 2 c rfl) 3 d rfl
theorem below4 {w W : World} {g : Nat} {a b c d : Value} (h : Below w.heap.size w W) (hg : w.heap.size ≤ g) : Below w.heap.size w ((((W.setCell ⟨g, 0, none⟩ a).setCell ⟨g, 1, none⟩ b).setCell ⟨g, 2, none⟩ c).setCell ⟨g, 3, none⟩ d) :=
 qe (qe (qe (qe h hg) hg) hg) hg
theorem R_put4 {α : Type} {d : Kd α} {e base g : Nat} {W : World} {v : Value} {xs : List α} {a b c f : Value} (h : d.R e W base (fun _ => True) v xs) (hg : g < base) : d.R e ((((W.setCell ⟨g, 0, none⟩ a).setCell ⟨g, 1, none⟩ b).setCell ⟨g, 2, none⟩ c).setCell ⟨g, 3, none⟩ f) base (fun _ => True) v xs := by
 have h1 := Kd.R_mono (ok' := fun k => base ≤ k) (Kd.R_bound h) (fun k hk => hk.2.1)
 have far : ∀ {w : World} (p : Addr) (u : Value), p.block = g → d.R e w base (fun k => base ≤ k) v xs → d.R e (w.setCell p u) base (fun k => base ≤ k) v xs := fun p u hp hh => Kd.R_far hh (p := p) (fun k hk => by have : base ≤ k := hk; omega) u
 exact Kd.R_mono (far _ _ rfl (far _ _ rfl (far _ _ rfl (far _ _ rfl h1)))) (fun _ _ => trivial)
theorem three (w : World) (X Y Z : Obj) : Below w.heap.size w (((w.alloc X).alloc Y).alloc Z) ∧ (((w.alloc X).alloc Y).alloc Z).heap[w.heap.size + 1]? = some Y ∧ (((w.alloc X).alloc Y).alloc Z).heap[w.heap.size + 1 + 1]? = some Z ∧ (((w.alloc X).alloc Y).alloc Z).heap.size = w.heap.size + 3 := by
 have e1 : (w.alloc X).heap.size = w.heap.size + 1 := by simp
 have e2 : ((w.alloc X).alloc Y).heap.size = w.heap.size + 1 + 1 := by simp
 refine ⟨(((Below.refl _ w).alloc (Nat.le_refl _) _).alloc (by omega) _).alloc (by omega) _, ?_, ?_, by simp⟩
 ·rw [← e1]; exact qa (blk_new _ _) _
 ·rw [← e2]; exact blk_new _ _
set_option maxHeartbeats 4000000 in
set_option maxRecDepth 100000 in
theorem impl_Version_edited.calls (A0_0 : Option Addr) (c0_0 : Nat) (l0_0 : List S66) (a0_1 a0_2 a0_3 : Int) (A1_0 : Option Addr) (c1_0 : Nat) (l1_0 : List S66) (A1_1 : Option Addr) (c1_1 : Nat) (l1_1 : List Int) (a1_2 a1_3 a1_4 : Int) (r1 : List S66) (r2 r3 r4 : Int) (r5 : Bool) (w : World)
  (hr0_0 : Kd.C k66 w A0_0 l0_0.length l0_0) (hc0_0 : l0_0.length ≤ c0_0) (hr1_0 : Kd.C k66 w A1_0 l1_0.length l1_0) (hc1_0 : l1_0.length ≤ c1_0) (hr1_1 : Kd.C (Kd.int .i64) w A1_1 l1_1.length l1_1) (hc1_1 : l1_1.length ≤ c1_1)
  (h : impl_Version_edited.f l0_0 a0_1 a0_2 a0_3 l1_0 l1_1 a1_2 a1_3 a1_4 = some (r1, r2, r3, r4, r5)) :
  Calls Try.prog 59 #[.agg #[.slice A0_0 l0_0.length c0_0, .int .i64 a0_1, .int .i64 a0_2, .int .i64 a0_3], .agg #[.slice A1_0 l1_0.length c1_0, .slice A1_1 l1_1.length c1_1, .int .i64 a1_2, .int .i64 a1_3, .int .i64 a1_4]] w fun e w' => ∃ v0_ : Value, e = .returned (.tuple #[.agg #[v0_, .int .i64 r2, .int .i64 r3, .int .i64 r4], .bool r5]) ∧ Kd.R k66 66 w' w.heap.size (fun _ => True) v0_ r1 ∧ Below w.heap.size w w' := by
 have hu32 := Try.underlying32
 have hu37 := Try.underlying37
 have H00 := Qz.mk hr0_0
 have H10 := Qz.mk hr1_0
 have H11 := Qz.mk hr1_1
 clear hr0_0 hr1_0 hr1_1
 have hf : ∀ W' : World, W'.heap[w.heap.size + 1 + 1]? = some (.cells #[.slice none 0 0, .int .i64 0, .int .i64 0, .int .i64 0] 32 (0, 0)) → Below w.heap.size w W' → ∀ tmps : Array Value, tmps.getD 4 undef = .pointer (some ⟨w.heap.size + 1 + 1, 0, none⟩) → tmps.getD 5 undef = .bool false → (r1, r2, r3, r4, r5) = (([] : List S66), (0 : Int), (0 : Int), (0 : Int), false) →
   bodyPost Try.prog Try.f59 (fun e w' => ∃ v0_ : Value, e = .returned (.tuple #[.agg #[v0_, .int .i64 r2, .int .i64 r3, .int .i64 r4], .bool r5]) ∧ Kd.R k66 66 w' w.heap.size (fun _ => True) v0_ r1 ∧ Below w.heap.size w w') Exit.ret ⟨tmps, []⟩ W' := by
  intro W' hb hB tmps h4 h5 hr
  simp only [Prod.mk.injEq] at hr
  obtain ⟨rfl, rfl, rfl, rfl, rfl⟩ := hr
  refine bodyPost_ret (results_ct rfl _ _ (w.heap.size + 1 + 1) 32 _ (0, 0) _ h4 hb Try.underlying32 rfl (by kernel_rfl)) rfl ?_
  rw [h5]
  exact ⟨_, rfl, Kd.R_nil _ _ _ _ _, hB⟩
 have HF := Qz.mk hf
 clear hf
 unfold impl_Version_edited.f at h
 split at h
 case isFalse => cases h
 rename_i hl
 replace h := Option.some.inj h
 unfold edV at h
 by_cases z1 : a1_2 < a0_1
 ·have z1b : decide (a1_2 < a0_1) = true := decide_eq_true z1
  rw [if_pos (.inl z1)] at h
  have HH := Qz.mk h
  clear h z1
  go_enter Try.func59, Try.ntmps59
  go_wp2
  exact HF.out _ (three w _ _ _).2.2.1 (three w _ _ _).1 _ rfl rfl HH.out.symm
 have z1b : decide (a1_2 < a0_1) = false := decide_eq_false z1
 by_cases z2 : a1_3 < a0_2
 ·have z2b : decide (a1_3 < a0_2) = true := decide_eq_true z2
  rw [if_pos (.inr (.inl z2))] at h
  have HH := Qz.mk h
  clear h z1 z2
  go_enter Try.func59, Try.ntmps59
  go_wp2
  exact HF.out _ (three w _ _ _).2.2.1 (three w _ _ _).1 _ rfl rfl HH.out.symm
 have z2b : decide (a1_3 < a0_2) = false := decide_eq_false z2
 by_cases z3 : a1_4 < a0_3
 ·have z3b : decide (a1_4 < a0_3) = true := decide_eq_true z3
  rw [if_pos (.inr (.inr (.inl z3)))] at h
  have HH := Qz.mk h
  clear h z1 z2 z3
  go_enter Try.func59, Try.ntmps59
  go_wp2
  exact HF.out _ (three w _ _ _).2.2.1 (three w _ _ _).1 _ rfl rfl HH.out.symm
 have z3b : decide (a1_4 < a0_3) = false := decide_eq_false z3
 by_cases z4 : 30 < l1_0.length
 ·have z4b : decide ((30 : Int) < (l1_0.length : Int)) = true := decide_eq_true (by omega)
  rw [if_pos (.inr (.inr (.inr z4)))] at h
  have HH := Qz.mk h
  clear h z1 z2 z3
  go_enter Try.func59, Try.ntmps59
  go_wp2
  exact HF.out _ (three w _ _ _).2.2.1 (three w _ _ _).1 _ rfl rfl HH.out.symm
 have z4b : decide ((30 : Int) < (l1_0.length : Int)) = false := decide_eq_false (by omega)
 rw [if_neg (by rintro (h | h | h | h) <;> contradiction)] at h
 have HH := Qz.mk h
 clear h z1 z2 z3
 go_enter Try.func59, Try.ntmps59
 go_wp2_with fail
 have h3 := three w (.cells #[.slice A0_0 l0_0.length c0_0, .int .i64 a0_1, .int .i64 a0_2, .int .i64 a0_3] 32) (.cells #[.slice A1_0 l1_0.length c1_0, .slice A1_1 l1_1.length c1_1, .int .i64 a1_2, .int .i64 a1_3, .int .i64 a1_4] 37) (.cells #[.slice none 0 0, .int .i64 0, .int .i64 0, .int .i64 0] 32)
 generalize ((w.alloc (.cells #[.slice A0_0 l0_0.length c0_0, .int .i64 a0_1, .int .i64 a0_2, .int .i64 a0_3] 32)).alloc (.cells #[.slice A1_0 l1_0.length c1_0, .slice A1_1 l1_1.length c1_1, .int .i64 a1_2, .int .i64 a1_3, .int .i64 a1_4] 37)).alloc (.cells #[.slice none 0 0, .int .i64 0, .int .i64 0, .int .i64 0] 32) = W0 at h3 ⊢
 have HBK := Qz.mk h3.1
 have BKe := Qz.mk h3.2.1
 have BKr := Qz.mk h3.2.2.1
 have HSZ := Qz.mk h3.2.2.2
 clear h3
 (with_reducible refine (clone_Meta A0_0 c0_0 l0_0 W0 W0 (Below.refl _ W0) (Kd.C_below H00.out HBK.out) (by omega)).mono ?_)
 rintro e w1 ⟨v, rfl, hR, hB⟩
 have HR := Qz.mk hR
 have HB := Qz.mk hB
 have BKe1 := Qz.mk (qb1 BKe.out hB)
 have BKr1 := Qz.mk (qb1 BKr.out hB)
 have HS1 := Qz.mk hB.size
 have hx1 := (qd BKe1.out 1).trans rfl
 clear hR hB
 go_wp2
 go_loopg [6, 43] l1_1.length (fun gk s6 s43 wr => ∃ (i : Nat) (m : List S66) (vf : Value), s6 = vf ∧ s43 = .int .i64 i ∧ i ≤ l1_1.length ∧ l1_1.length - i ≤ gk ∧ Qz (cutAll l0_0 l1_1 = cutAll m (l1_1.drop i)) ∧ m.length ≤ l0_0.length ∧ Qz (Kd.R k66 66 wr W0.heap.size (fun _ => True) vf m) ∧ Qz (Below W0.heap.size W0 wr))
 case atStart => exact ⟨0, l0_0, v, rfl, rfl, by omega, by omega, ⟨rfl⟩, Nat.le_refl _, HR, HB⟩
 case round =>
  obtain ⟨i, m, vf, rfl, rfl, hi, hg, HC, hml, HR, HB⟩ := hrel
  have HBW := Qz.mk (HBK.out.trans (HB.out.mono (by have := HSZ.out; omega)))
  obtain ⟨Af, cf, ef⟩ := Kd.R_slice HR.out
  subst ef
  by_cases hlt : i < l1_1.length
  ·have hd : decide ((i : Int) < (l1_1.length : Int)) = true := decide_eq_true (by omega)
   have HLT := Qz.mk hlt
   obtain ⟨ad, cc, ead, _, hK, hc0⟩ := Kd.C_get H11.out (0 : Int) (i : Int) (by omega) (by omega)
   obtain rfl : cc = [.int .i64 (l1_1.getD (i : Int).toNat 0)] := hK
   have hxi := hc0 0 _ rfl
   rw [show (Kd.int .i64).sz = 1 from rfl, Nat.mul_one, Nat.add_zero, Int.toNat_natCast] at hxi
   replace hxi := (HBW.out.cell (World.block_lt_of_cell? w _ hxi)).trans hxi
   have HN : Qz (l1_1.drop i = l1_1.getD i 0 :: l1_1.drop (i + 1)) := ⟨by rw [List.drop_eq_getElem_cons hlt, List.getD_eq_getElem?_getD, List.getElem?_eq_getElem hlt]; rfl⟩
   clear hc0
   generalize l1_1.getD i 0 = n at hxi HN
   cases ead
   have hb0 : Below wr.heap.size wr (wr.alloc (.cells #[.int .i64 n] 2)) := (Below.refl _ wr).alloc (Nat.le_refl _) _
   have hcall := indexFunc_Meta.calls 93 #[.pointer (some ⟨wr.heap.size, 0, none⟩)] (numP n) Af cf m (wr.alloc (.cells #[.int .i64 n] 2)) (Kd.C_below (Kd.R_reads' HR.out).2.2 hb0) (fun args w => by kernel_rfl)
    (fun x W hb => (numP_calls n wr.heap.size x W ((hb.cell (p := ⟨wr.heap.size, 0, none⟩) (by simp)).trans (by simp)) (Nat.lt_of_lt_of_le (by simp) hb.size)).mono (fun e w' h => ⟨h.1, hb.trans (h.2.mono hb.size)⟩))
   have HCALL := Qz.mk hcall
   have HB0 := Qz.mk hb0
   clear hcall hb0
   rcases idxf_neg (numP n) m 0 with hq | ⟨k, hk, hq, _⟩
   ·have hcall := HCALL.out
    rw [hq] at hcall
    have hdq : decide ((-1 : Int) < 0) = true := rfl
    go_wp2_with fail
    (with_reducible refine hcall.mono ?_)
    rintro e w3 ⟨rfl, hb3⟩
    have hb3' : Below wr.heap.size wr w3 := HB0.out.trans (hb3.mono (by simp))
    have HB3 := Qz.mk (HBW.out.trans (hb3'.mono HBW.out.size))
    have BKr3 := Qz.mk (qb1 (qb1 BKr.out HB.out) hb3')
    clear hcall hb3 hb3' hxi
    have hq0 := (qd BKr3.out 0).trans rfl
    have hq1 := (qd BKr3.out 1).trans rfl
    have hq2 := (qd BKr3.out 2).trans rfl
    have hq3 := (qd BKr3.out 3).trans rfl
    have hf0 := qf BKr3.out 0
    have hf1 := qf BKr3.out 1
    have hf2 := qf BKr3.out 2
    have hf3 := qf BKr3.out 3
    go_wp2
    refine HF.out _ (put4 BKr3.out) (below4 HB3.out (by omega)) _ rfl rfl ?_
    have hh := HH.out
    rw [HC.out, HN.out, cutAll, if_pos (by rw [hq]; decide)] at hh
    exact hh.symm
   ·obtain ⟨gg, cap, ef, _⟩ := Kd.R_form HR.out (by omega)
    injection ef with e1_ _ e3_
    subst e1_ e3_
    have hcall := HCALL.out
    rw [hq, Nat.zero_add] at hcall
    have hdq : decide ((k : Int) < 0) = false := decide_eq_false (by omega)
    go_wp2_with fail
    (with_reducible refine hcall.mono ?_)
    rintro e w3 ⟨rfl, hb3⟩
    have hb3' : Below wr.heap.size wr w3 := HB0.out.trans (hb3.mono (by simp))
    have HR3 := Qz.mk (Kd.R_below HR.out hb3')
    have HB3 := Qz.mk (HB.out.trans (hb3'.mono HB.out.size))
    clear hcall hb3 hb3' hxi
    go_wp2_with fail
    obtain ⟨n', hn'⟩ : ∃ n', m.length = n' + 1 := ⟨m.length - 1, by omega⟩
    rw [hn', show ((k : Int) + 1) = ((k + 1 : Nat) : Int) from by omega]
    (with_reducible refine (delete_Meta k gg n' cf W0.heap.size m W0 w3 HB3.out HB3.out.size (by rw [← hn']; exact HR3.out) (by omega)).mono ?_)
    rintro e w4 ⟨rfl, hR4, hB4⟩
    have HR4 := Qz.mk hR4
    have HB4 := Qz.mk hB4
    clear hR4 hB4 HR3 HB3 HR HB
    go_wp2
    go_roundg (l1_1.length - (i + 1))
    case measure => have := HLT.out; omega
    case rel =>
     have hlt2 := HLT.out
     have hlm := Kd.C_max H11.out
     refine ⟨i + 1, m.eraseIdx k, _, rfl, congrArg (Value.int .i64) (by unfold wrap64; omega), HLT.out, Nat.le_refl _, ⟨?_⟩, by rw [List.length_eraseIdx_of_lt hk]; omega, HR4, HB4⟩
     rw [HC.out, HN.out, cutAll, if_neg (by rw [hq]; omega), hq, Nat.zero_add, Int.toNat_natCast]
  ·have hd : decide ((i : Int) < (l1_1.length : Int)) = false := decide_eq_false (by omega)
   obtain rfl : i = l1_1.length := by omega
   have BKe2 := Qz.mk (qb1 BKe.out HB.out)
   have hx0 := (qd BKe2.out 0).trans rfl
   go_wp2_with (first | ((with_reducible refine gate_builtin (b := .append) (xs := #[.tmp 59, .tmp 61]) rfl ?_); at_builtin; refine Kd.R_append_rows k66 (w0 := W0) W0.heap.size rfl (.tmp 59) (.tmp 61) 30 66 (.agg #[.int .i64 0, .int .i64 0, .string ⟨#[]⟩, .string ⟨#[]⟩, .int .i64 0]) 56 rfl Try.underlying30 info66 rfl (by decide) (by omega) (.slice Af m.length cf) m l1_0 A1_0 l1_0.length c1_0 (fun _ => True) (fun _ => False) rfl rfl ?aO ?aR (fun _ _ h => h) (fun _ h => h.elim) ?aF ?aB ?aS ?aL ?_; (case aO => exact HR.out); (case aR => exact Kd.C_below H10.out HBW.out); (case aF => exact fun _ _ => trivial); (case aB => exact HB.out); (case aS => exact HB.out.size); (case aL => omega); intro v1 w2 ho hb hg hat; clear hx0))
   (with_reducible refine (sort_own 67 mcmp (fun args w => by kernel_rfl) cmpB_metas W0.heap.size v1 (m ++ l1_0) W0 w2 ho hb (by rw [List.length_append]; omega)).mono ?_)
   rintro e w3 ⟨rfl, hR3, hB3⟩
   obtain ⟨A3, c3, e3⟩ := Kd.R_slice hR3
   subst e3
   have HR3 := Qz.mk hR3
   have HB3 := Qz.mk hB3
   clear ho hb hg hat hR3 hB3 HR HB BKe2
   have BKe3 := Qz.mk (qb1 BKe.out HB3.out)
   have BKr3 := Qz.mk (qb1 BKr.out HB3.out)
   have hx2 := (qd BKe3.out 2).trans rfl
   have hx3 := (qd BKe3.out 3).trans rfl
   have hx4 := (qd BKe3.out 4).trans rfl
   go_wp2_with fail
   have hba : Below w3.heap.size w3 (w3.alloc (.cells #[.slice A3 (srt mcmp (m ++ l1_0)).length c3, .int .i64 a1_2, .int .i64 a1_3, .int .i64 a1_4] 32)) := (Below.refl _ w3).alloc (Nat.le_refl _) _
   have BKo := Qz.mk (blk_new w3 (.cells #[.slice A3 (srt mcmp (m ++ l1_0)).length c3, .int .i64 a1_2, .int .i64 a1_3, .int .i64 a1_4] 32))
   have HBA := Qz.mk hba
   clear hba
   generalize hw4 : w3.alloc (.cells #[.slice A3 (srt mcmp (m ++ l1_0)).length c3, .int .i64 a1_2, .int .i64 a1_3, .int .i64 a1_4] 32) = w4 at HBA BKo ⊢
   clear hw4
   have hh := HH.out
   rw [HC.out, List.drop_length, cutAll] at hh
   simp only [] at hh
   by_cases ok : vOk (srt mcmp (m ++ l1_0)) a1_2 a1_3 a1_4
   ·rw [if_pos ok] at hh
    have HH2 := Qz.mk hh
    clear hh
    (with_reducible refine (impl_VersionOk.calls A3 c3 (srt mcmp (m ++ l1_0)) a1_2 a1_3 a1_4 true w4 (Kd.C_below (Kd.R_reads' HR3.out).2.2 HBA.out) (Kd.R_reads' HR3.out).2.1 (by unfold impl_VersionOk.f; rw [decide_eq_true ok])).mono ?_)
    rintro e w5 ⟨rfl, hb5⟩
    have hb5 : Below w4.heap.size w4 w5 := by first | exact hb5 | exact hb5.below
    have BKo5 := Qz.mk (qb1 BKo.out hb5)
    have BKr5 := Qz.mk (qb1 (qb1 BKr3.out HBA.out) hb5)
    have HR5 := Qz.mk (Kd.R_below (Kd.R_below HR3.out HBA.out) hb5)
    have HB5 := Qz.mk (HBK.out.trans ((HB3.out.trans ((HBA.out.trans (hb5.mono HBA.out.size)).mono HB3.out.size)).mono HBK.out.size))
    clear hb5
    have hy0 := (qd BKo5.out 0).trans rfl
    have hy1 := (qd BKo5.out 1).trans rfl
    have hy2 := (qd BKo5.out 2).trans rfl
    have hy3 := (qd BKo5.out 3).trans rfl
    have hq0 := (qd BKr5.out 0).trans rfl
    have hq1 := (qd BKr5.out 1).trans rfl
    have hq2 := (qd BKr5.out 2).trans rfl
    have hq3 := (qd BKr5.out 3).trans rfl
    have hf0 := qf BKr5.out 0
    have hf1 := qf BKr5.out 1
    have hf2 := qf BKr5.out 2
    have hf3 := qf BKr5.out 3
    go_wp2
    have hsz := HSZ.out
    have hr := HH2.out
    simp only [Prod.mk.injEq] at hr
    obtain ⟨rfl, rfl, rfl, rfl, rfl⟩ := hr
    refine bodyPost_ret (results_ct rfl _ _ (w.heap.size + 1 + 1) 32 _ (0, 0) _ rfl (put4 BKr5.out) Try.underlying32 rfl (by kernel_rfl)) rfl ?_
    exact ⟨_, rfl, Kd.R_lower (R_put4 HR5.out (by omega)) HBK.out.size, below4 HB5.out (by omega)⟩
   ·rw [if_neg ok] at hh
    have HH2 := Qz.mk hh
    clear hh
    (with_reducible refine (impl_VersionOk.calls A3 c3 (srt mcmp (m ++ l1_0)) a1_2 a1_3 a1_4 false w4 (Kd.C_below (Kd.R_reads' HR3.out).2.2 HBA.out) (Kd.R_reads' HR3.out).2.1 (by unfold impl_VersionOk.f; rw [decide_eq_false ok])).mono ?_)
    rintro e w5 ⟨rfl, hb5⟩
    have hb5 : Below w4.heap.size w4 w5 := by first | exact hb5 | exact hb5.below
    have BKr5 := Qz.mk (qb1 (qb1 BKr3.out HBA.out) hb5)
    have HB5 := Qz.mk (HBK.out.trans ((HB3.out.trans ((HBA.out.trans (hb5.mono HBA.out.size)).mono HB3.out.size)).mono HBK.out.size))
    clear hb5
    have hq0 := (qd BKr5.out 0).trans rfl
    have hq1 := (qd BKr5.out 1).trans rfl
    have hq2 := (qd BKr5.out 2).trans rfl
    have hq3 := (qd BKr5.out 3).trans rfl
    have hf0 := qf BKr5.out 0
    have hf1 := qf BKr5.out 1
    have hf2 := qf BKr5.out 2
    have hf3 := qf BKr5.out 3
    go_wp2
    exact HF.out _ (put4 BKr5.out) (below4 HB5.out (by omega)) _ rfl rfl HH2.out.symm
end Go.Proofs.Ytcgejabkjljeeaa.P
end

section
namespace Go.Proofs.Ytcgejabkjljeeaa.P
open Go.RowKit Go.Proofs.YtcgejabkjljeeaaW.PrintWords Go.Proofs.YtcgejabkjljeeaaW.PrintLast Go.Proofs.YtcgejabkjljeeaaW.PrintMore
attribute [local go_sem] str_gtr str_leq str_geq max2_int min2_int max_two min_two qe1 qd1 max_four min_four
set_option linter.unusedVariables false
set_option linter.unusedSimpArgs false
def impl_Meta_69.f (l0 : List S66) : Option (List S66) := if l0.length * 56 ≤ 140737488355328 then some l0 else none
theorem impl_Meta_69.calls (A0 : Option Addr) (c0 : Nat) (l0 : List S66) (r : List S66) (w : World) (hr0 : Kd.C k66 w A0 l0.length l0) (hc0 : l0.length ≤ c0) (h : impl_Meta_69.f l0 = some r) :
  Calls Try.prog 69 #[.slice A0 l0.length c0] w fun e w' => ∃ v0_ : Value, e = .returned v0_ ∧ Kd.R k66 66 w' w.heap.size (fun _ => True) v0_ r ∧ Below w.heap.size w w' := by
 unfold impl_Meta_69.f at h
 split at h
 ·rename_i hl
  obtain rfl := Option.some.inj h
  exact clone_Meta A0 c0 l0 w w (Below.refl _ _) hr0 hl
 ·cases h
theorem yq117 {P : Prop} (h : P := by (with_reducible repeat (first | apply Kd.R_alloc | apply Kd.R_drewN | apply Kd.R_drew)); exact (Kd.R_mono (Kd.R_far (p := ⟨gb109, 4, none⟩) (Kd.R_far (p := ⟨gb109, 3, none⟩) (Kd.R_far (p := ⟨gb109, 2, none⟩) (Kd.R_far (p := ⟨gb109, 1, none⟩) (Kd.R_far (p := ⟨gb109, 0, none⟩) (Kd.R_types HO_105000.out BK109.out (by decide)) (fun _ hk => hk.2) (.slice A108_0 ((qw l1 x22_1).f0).length c108_0)) (fun _ hk => hk.2) (.slice A108_1 ((qw l1 x22_1).f1).length c108_1)) (fun _ hk => hk.2) (.int .i64 ((qw l1 x22_1).f2))) (fun _ hk => hk.2) (.int .i64 ((qw l1 x22_1).f3))) (fun _ hk => hk.2) (.int .i64 ((qw l1 x22_1).f4))) (fun _ h_ => h_.1))) : P := h
theorem yq118 {P : Prop} (h : P := by repeat (first | (with_reducible first | exact HB.out | apply qh | apply qg | apply qi | refine qe ?_ GE101.out | refine qe ?_ GE102.out | refine qe ?_ GE104.out | refine qe ?_ GE109.out) | exact HB.out)) : P := h
theorem yq119 {P : Prop} (h : P := by (with_reducible repeat (first | refine qb ?_ _ | refine qc ?_ | refine qa ?_ _)); exact BK101.out) : P := h
theorem yq120 {P : Prop} (h : P := by (with_reducible repeat (first | refine qb ?_ _ | refine qc ?_ | refine qa ?_ _)); exact BK102.out) : P := h
theorem yq121 {P : Prop} (h : P := by (with_reducible repeat (first | refine qb ?_ _ | refine qc ?_ | refine qa ?_ _)); refine qt (cs := #[.slice A108_0 ((qw l1 x22_1).f0).length c108_0, .slice A108_1 ((qw l1 x22_1).f1).length c108_1, .int .i64 ((qw l1 x22_1).f2), .int .i64 ((qw l1 x22_1).f3), .int .i64 0]) ?_ 4 _ rfl; (with_reducible repeat (first | refine qb ?_ _ | refine qc ?_ | refine qa ?_ _)); refine qt (cs := #[.slice A108_0 ((qw l1 x22_1).f0).length c108_0, .slice A108_1 ((qw l1 x22_1).f1).length c108_1, .int .i64 ((qw l1 x22_1).f2), .int .i64 0, .int .i64 0]) ?_ 3 _ rfl; (with_reducible repeat (first | refine qb ?_ _ | refine qc ?_ | refine qa ?_ _)); refine qt (cs := #[.slice A108_0 ((qw l1 x22_1).f0).length c108_0, .slice A108_1 ((qw l1 x22_1).f1).length c108_1, .int .i64 0, .int .i64 0, .int .i64 0]) ?_ 2 _ rfl; (with_reducible repeat (first | refine qb ?_ _ | refine qc ?_ | refine qa ?_ _)); refine qt (cs := #[.slice A108_0 ((qw l1 x22_1).f0).length c108_0, .slice none 0 0, .int .i64 0, .int .i64 0, .int .i64 0]) ?_ 1 _ rfl; (with_reducible repeat (first | refine qb ?_ _ | refine qc ?_ | refine qa ?_ _)); refine qt (cs := #[.slice none 0 0, .slice none 0 0, .int .i64 0, .int .i64 0, .int .i64 0]) ?_ 0 _ rfl; (with_reducible repeat (first | refine qb ?_ _ | refine qc ?_ | refine qa ?_ _)); exact BK109.out) : P := h
theorem yq122 {P : Prop} (h : P := by repeat (first | (with_reducible first | exact HB.out | apply qh | apply qg | apply qi | refine qe ?_ GE101.out | refine qe ?_ GE102.out | refine qe ?_ GE104.out) | exact HB.out)) : P := h
theorem yq123 {P : Prop} (h : P := by (with_reducible repeat (first | refine qb ?_ _ | refine qc ?_ | refine qa ?_ _)); exact BK104.out) : P := h
theorem yq124 {P : Prop} (h : P := by rw [hg]; exact Nat.ne_of_lt (qv (g := gb101) (o := .cells #[.slice A0_0 l0_0.length c0_0, .int .i64 a0_1, .int .i64 a0_2, .int .i64 a0_3] 32 (0, 0)) yq119)) : P := h
theorem yq125 {P : Prop} (h : P := by rw [hg]; exact Nat.ne_of_gt (qv (g := gb101) (o := .cells #[.slice A0_0 l0_0.length c0_0, .int .i64 a0_1, .int .i64 a0_2, .int .i64 a0_3] 32 (0, 0)) yq119)) : P := h
theorem yq126 {P : Prop} (h : P := by (try simp only [List.map_toArray, List.map_cons, List.map_nil]); first | done | rfl | (simp only [List.length_drop, List.length_take]; rfl) | (rw [IntWalk.u64_in _ (by omega)] <;> rfl)) : P := h
theorem yq127 {P : Prop} (h : P := by (with_reducible repeat (first | refine qb ?_ _ | refine qc ?_ | refine qa ?_ _)); refine qp ?_ NB104_109.out _; (with_reducible repeat (first | refine qb ?_ _ | refine qc ?_ | refine qa ?_ _)); refine qp ?_ NB104_109.out _; (with_reducible repeat (first | refine qb ?_ _ | refine qc ?_ | refine qa ?_ _)); refine qp ?_ NB104_109.out _; (with_reducible repeat (first | refine qb ?_ _ | refine qc ?_ | refine qa ?_ _)); refine qp ?_ NB104_109.out _; (with_reducible repeat (first | refine qb ?_ _ | refine qc ?_ | refine qa ?_ _)); refine qp ?_ NB104_109.out _; (with_reducible repeat (first | refine qb ?_ _ | refine qc ?_ | refine qa ?_ _)); exact BK104.out) : P := h
theorem yq128 {P : Prop} (h : P := by (with_reducible repeat (first | refine qb ?_ _ | refine qc ?_ | refine qa ?_ _)); refine qp ?_ NB102_109.out _; (with_reducible repeat (first | refine qb ?_ _ | refine qc ?_ | refine qa ?_ _)); refine qp ?_ NB102_109.out _; (with_reducible repeat (first | refine qb ?_ _ | refine qc ?_ | refine qa ?_ _)); refine qp ?_ NB102_109.out _; (with_reducible repeat (first | refine qb ?_ _ | refine qc ?_ | refine qa ?_ _)); refine qp ?_ NB102_109.out _; (with_reducible repeat (first | refine qb ?_ _ | refine qc ?_ | refine qa ?_ _)); refine qp ?_ NB102_109.out _; (with_reducible repeat (first | refine qb ?_ _ | refine qc ?_ | refine qa ?_ _)); exact BK102.out) : P := h
theorem yq129 {P : Prop} (h : P := by (with_reducible repeat (first | refine qb ?_ _ | refine qc ?_ | refine qa ?_ _)); refine qp ?_ NB101_109.out _; (with_reducible repeat (first | refine qb ?_ _ | refine qc ?_ | refine qa ?_ _)); refine qp ?_ NB101_109.out _; (with_reducible repeat (first | refine qb ?_ _ | refine qc ?_ | refine qa ?_ _)); refine qp ?_ NB101_109.out _; (with_reducible repeat (first | refine qb ?_ _ | refine qc ?_ | refine qa ?_ _)); refine qp ?_ NB101_109.out _; (with_reducible repeat (first | refine qb ?_ _ | refine qc ?_ | refine qa ?_ _)); refine qp ?_ NB101_109.out _; (with_reducible repeat (first | refine qb ?_ _ | refine qc ?_ | refine qa ?_ _)); exact BK101.out) : P := h
theorem yq130 {P : Prop} (h : P := by (with_reducible repeat (first | refine qb ?_ _ | refine qc ?_ | refine qa ?_ _)); exact BK109.out) : P := h
theorem yq131 {P : Prop} (h : P := by rw [hg]; exact Nat.ne_of_lt (qv (g := gb102) (o := .cells #[.slice none 0 0, .int .i64 x103001_1, .int .i64 x103002_1, .int .i64 x103003_1] 32 (0, 0)) yq120)) : P := h
theorem yq132 {P : Prop} (h : P := by rw [hg]; exact Nat.ne_of_gt (qv (g := gb102) (o := .cells #[.slice none 0 0, .int .i64 x103001_1, .int .i64 x103002_1, .int .i64 x103003_1] 32 (0, 0)) yq120)) : P := h
theorem yq133 {P : Prop} (h : P := by repeat (first | (with_reducible first | exact HB.out | apply qh | apply qg | apply qi | refine qe ?_ GE101.out | refine qe ?_ GE102.out) | exact HB.out)) : P := h
theorem yq134 {P : Prop} (h : P := by repeat (first | (with_reducible first | exact HB.out | apply qh | apply qg | apply qi | refine qe ?_ GE101.out) | exact HB.out)) : P := h
theorem yq135 {P : Prop} (h : P := by (with_reducible repeat (first | apply Kd.R_alloc | apply Kd.R_drewN | apply Kd.R_drew)); exact HO_105000.out) : P := h
theorem yq136 {P : Prop} (h : P := by repeat (first | (with_reducible first | exact HB.out | apply qh | apply qg | apply qi) | exact HB.out)) : P := h
theorem yq137 {P : Prop} (h : P := by first | (go_simp; done) | (go_simp; rfl)) : P := h
theorem yq138 {P : Prop} (h : P := by rw [hg]; exact Nat.ne_of_lt (qv (g := gb109) (o := .cells #[.slice A108_0 ((qw l1 x22_1).f0).length c108_0, .slice A108_1 ((qw l1 x22_1).f1).length c108_1, .int .i64 ((qw l1 x22_1).f2), .int .i64 ((qw l1 x22_1).f3), .int .i64 ((qw l1 x22_1).f4)] 37 (0, 0)) yq130)) : P := h
theorem yq139 {P : Prop} (h : P := by rw [hg]; exact Nat.ne_of_gt (qv (g := gb109) (o := .cells #[.slice A108_0 ((qw l1 x22_1).f0).length c108_0, .slice A108_1 ((qw l1 x22_1).f1).length c108_1, .int .i64 ((qw l1 x22_1).f2), .int .i64 ((qw l1 x22_1).f3), .int .i64 ((qw l1 x22_1).f4)] 37 (0, 0)) yq130)) : P := h
theorem bkbf31 {w0 W W2 : World} {g : Nat} {o : Obj} (_ : Qz (w0.heap[g]? = some o)) (h : W.heap[g]? = some o) (hb : Below W.heap.size W W2) : Qz (W2.heap[g]? = some o) := Qz.mk (qb1 h hb)
def impl_Replay.l0 : Nat → List (S37) → List (S37) → Int → Int → List (S66) → Int → Int → Int → Option ((List (S66)) × Int × Int × Int × Int)
 | 0, _, _, _, _, _, _, _, _ => none
 | k + 1, x1, x20, x21, x22, x105000, x105001, x105002, x105003 => if x22 < x21 then (if 0 ≤ x22 then (if x22 < (x20.length : Int) then ((impl_Version_edited.f x105000 x105001 x105002 x105003 ((qw x20 x22).f0) ((qw x20 x22).f1) ((qw x20 x22).f2) ((qw x20 x22).f3) ((qw x20 x22).f4)).bind fun bt110 => (if bt110.2.2.2.2 = true then (impl_Replay.l0 k x1 x20 x21 (wrap64 (x22 + 1)) bt110.1 bt110.2.1 bt110.2.2.1 bt110.2.2.2.1) else (some (x105000, x105001, x105002, x105003, x22)))) else (none)) else (none)) else (some (x105000, x105001, x105002, x105003, (x1.length : Int)))
def impl_Replay.f (k : Nat) (l0_0 : List (S66)) (a0_1 : Int) (a0_2 : Int) (a0_3 : Int) (l1 : List (S37)) : Option ((List (S66)) × Int × Int × Int × Int) := (impl_VersionOk.f l0_0 a0_1 a0_2 a0_3).bind fun t103 => (if t103 = true then ((impl_Meta_69.f l0_0).bind fun t105 => (impl_Replay.l0 k l1 l1 (l1.length : Int) 0 t105 a0_1 a0_2 a0_3)) else (some (([] : List (S66)), 0, 0, 0, (-1))))
set_option maxHeartbeats 8000000 in
set_option maxRecDepth 100000 in
theorem impl_Replay.calls (k : Nat) (A0_0 : Option Addr) (c0_0 : Nat) (l0_0 : List (S66)) (a0_1 : Int) (a0_2 : Int) (a0_3 : Int) (A1 : Option Addr) (c1 : Nat) (l1 : List (S37)) (r1 : List (S66)) (r2 : Int) (r3 : Int) (r4 : Int) (r5 : Int) (w : World) (hr0_0 : Kd.C k66 w A0_0 l0_0.length l0_0) (hc0_0 : l0_0.length ≤ c0_0) (hr1 : Kd.C k37 w A1 l1.length l1) (hc1 : l1.length ≤ c1) (h : impl_Replay.f k l0_0 a0_1 a0_2 a0_3 l1 = some (r1, r2, r3, r4, r5)) :
  Calls Try.prog 31 #[.agg #[.slice A0_0 l0_0.length c0_0, .int .i64 a0_1, .int .i64 a0_2, .int .i64 a0_3], .slice A1 l1.length c1] w fun e w' => ∃ v0_ : Value, e = .returned (.tuple #[.agg #[v0_, .int .i64 r2, .int .i64 r3, .int .i64 r4], .int .i64 r5]) ∧ Kd.R k66 66 w' w.heap.size (fun _ => True) v0_ r1 ∧ Below w.heap.size w w' := by
 have hu32 := Try.underlying32
 have hu37 := Try.underlying37
 have HR0_0 := Qz.mk hr0_0
 have HC0_0 := Qz.mk hc0_0
 clear hr0_0 hc0_0
 have HR1 := Qz.mk hr1
 have HC1 := Qz.mk hc1
 clear hr1 hc1
 have HB := Qz.mk (Below.refl w.heap.size w)
 have H : ((impl_VersionOk.f l0_0 a0_1 a0_2 a0_3).bind fun t103 => (if t103 = true then ((impl_Meta_69.f l0_0).bind fun t105 => (impl_Replay.l0 k l1 l1 (l1.length : Int) 0 t105 a0_1 a0_2 a0_3)) else (some (([] : List (S66)), 0, 0, 0, (-1))))) = some (r1, r2, r3, r4, r5) := h
 clear h
 replace H := Option.bind_eq_some_iff.mp H
 obtain ⟨t103, A30, H⟩ := H
 replace H : (if t103 = true then ((impl_Meta_69.f l0_0).bind fun t105 => (impl_Replay.l0 k l1 l1 (l1.length : Int) 0 t105 a0_1 a0_2 a0_3)) else (some (([] : List (S66)), 0, 0, 0, (-1)))) = some (r1, r2, r3, r4, r5) := H
 have A3 := Qz.mk A30
 clear A30
 by_cases c4 : t103 = true
 ·subst c4
  have H1 : ((impl_Meta_69.f l0_0).bind fun t105 => (impl_Replay.l0 k l1 l1 (l1.length : Int) 0 t105 a0_1 a0_2 a0_3)) = some (r1, r2, r3, r4, r5) := by rw [if_pos rfl] at H; exact H
  clear H
  have H := H1
  clear H1
  replace H := Option.bind_eq_some_iff.mp H
  obtain ⟨t105, A50, H⟩ := H
  replace H : (impl_Replay.l0 k l1 l1 (l1.length : Int) 0 t105 a0_1 a0_2 a0_3) = some (r1, r2, r3, r4, r5) := H
  have A5 := Qz.mk A50
  clear A50
  have H' := Qz.mk H
  clear H
  go_enter Try.func31, Try.ntmps31
  go_wp2_with (first | ((with_reducible refine gate_dst (N := 2) rfl ?_); refine box_event ?hg (N := 2) ?hd (cs := #[.slice A0_0 l0_0.length c0_0, .int .i64 a0_1, .int .i64 a0_2, .int .i64 a0_3]) (t := 32) ?hr ?_; (case hd => rfl); (case hg => rfl); (case hr => exact yq137); intro gb101 hg w6 hbox hb; have BK101 := Qz.mk (hbox); have GW101 := Qz.mk ((by rw [hg]; exact (qz yq136) : w.heap.size ≤ gb101)); have GE101 := GW101; replace HB := Qz.mk (qq yq136 hb); clear hb hbox hg) | ((with_reducible refine gate_dst (N := 4) rfl ?_); refine box_event ?hg (N := 4) ?hd (cs := #[.slice none 0 0, .int .i64 0, .int .i64 0, .int .i64 0]) (t := 32) ?hr ?_; (case hd => rfl); (case hg => rfl); (case hr => exact yq137); intro gb102 hg w7 hbox hb; have BK102 := Qz.mk (hbox); have GW102 := Qz.mk ((by rw [hg]; exact (qz yq134) : w.heap.size ≤ gb102)); have GE102 := GW102; replace HB := Qz.mk (qq yq134 hb); have NB101_102 := Qz.mk ((yq124 : gb101 ≠ gb102)); have NB102_101 := Qz.mk ((yq125 : gb102 ≠ gb101)); replace BK101 := bkbf31 BK101 yq119 hb; clear hb hbox hg; have hnb8 := NB101_102.out; have hnc8 := NB102_101.out; have hcz9_0 := (qd BK101.out 0).trans rfl; have hcz9_1 := (qd BK101.out 1).trans rfl; have hcz9_2 := (qd BK101.out 2).trans rfl; have hcz9_3 := (qd BK101.out 3).trans rfl; have hfz9_0 := qf BK101.out 0; have hfz9_1 := qf BK101.out 1; have hfz9_2 := qf BK101.out 2; have hfz9_3 := qf BK101.out 3) | ((with_reducible refine qu (f := 27) rfl ?_); refine goesL_ (some 12) rfl rfl Try.func27 (by kernel_rfl) rfl #[.agg #[.slice A0_0 l0_0.length c0_0, .int .i64 a0_1, .int .i64 a0_2, .int .i64 a0_3]] rfl yq126 ?_; (with_reducible refine (impl_VersionOk.calls _ _ l0_0 a0_1 a0_2 a0_3 true _ ?side1 ?side2 A3.out).mono ?_); (case side1 => repeat (first | exact (Kd.C_below HR0_0.out HB.out) | (with_reducible refine Kd.C_alloc ?_ _) | (with_reducible refine Kd.C_drewN ?_ _) | (with_reducible refine Kd.C_drew ?_))); (case side2 => exact HC0_0.out); rintro e w10 ⟨rfl, hb⟩; refine ⟨_, rfl, ?_⟩; replace BK101 := bkbf31 BK101 yq119 hb; replace BK102 := bkbf31 BK102 yq120 hb; replace HB := Qz.mk (qq yq133 hb); (try clear hb); (try clear hk); have hcz11_0 := (qd BK101.out 0).trans rfl; have hcz11_1 := (qd BK101.out 1).trans rfl; have hcz11_2 := (qd BK101.out 2).trans rfl; have hcz11_3 := (qd BK101.out 3).trans rfl; have hfz11_0 := qf BK101.out 0; have hfz11_1 := qf BK101.out 1; have hfz11_2 := qf BK101.out 2; have hfz11_3 := qf BK101.out 3) | ((with_reducible refine gate_dst (N := 6) rfl ?_); refine box_event ?hg (N := 6) ?hd (cs := #[.slice none 0 0, .int .i64 0, .int .i64 0, .int .i64 0]) (t := 32) ?hr ?_; (case hd => rfl); (case hg => rfl); (case hr => exact yq137); intro gb104 hg w12 hbox hb; have BK104 := Qz.mk (hbox); have GW104 := Qz.mk ((by rw [hg]; exact (qz yq133) : w.heap.size ≤ gb104)); have GE104 := GW104; replace HB := Qz.mk (qq yq133 hb); have NB101_104 := Qz.mk ((yq124 : gb101 ≠ gb104)); have NB104_101 := Qz.mk ((yq125 : gb104 ≠ gb101)); replace BK101 := bkbf31 BK101 yq119 hb; have NB102_104 := Qz.mk ((by rw [hg]; exact Nat.ne_of_lt (qv (g := gb102) (o := .cells #[.slice none 0 0, .int .i64 0, .int .i64 0, .int .i64 0] 32 (0, 0)) yq120) : gb102 ≠ gb104)); have NB104_102 := Qz.mk ((by rw [hg]; exact Nat.ne_of_gt (qv (g := gb102) (o := .cells #[.slice none 0 0, .int .i64 0, .int .i64 0, .int .i64 0] 32 (0, 0)) yq120) : gb104 ≠ gb102)); replace BK102 := bkbf31 BK102 yq120 hb; clear hb hbox hg; have hnb13 := NB104_101.out; have hnc13 := NB101_104.out; have hnb14 := NB104_102.out; have hnc14 := NB102_104.out; have hcz15_0 := (qd BK104.out 0).trans rfl; have hcz15_1 := (qd BK104.out 1).trans rfl; have hcz15_2 := (qd BK104.out 2).trans rfl; have hcz15_3 := (qd BK104.out 3).trans rfl; have hfz15_0 := qf BK104.out 0; have hfz15_1 := qf BK104.out 1; have hfz15_2 := qf BK104.out 2; have hfz15_3 := qf BK104.out 3; have hcz16_0 := (qd BK101.out 0).trans rfl; have hcz16_1 := (qd BK101.out 1).trans rfl; have hcz16_2 := (qd BK101.out 2).trans rfl; have hcz16_3 := (qd BK101.out 3).trans rfl; have hfz16_0 := qf BK101.out 0; have hfz16_1 := qf BK101.out 1; have hfz16_2 := qf BK101.out 2; have hfz16_3 := qf BK101.out 3) | ((with_reducible refine qu (f := 69) rfl ?_); refine goesL_ (some 18) rfl rfl Try.func69 (by kernel_rfl) rfl #[.slice A0_0 l0_0.length c0_0] rfl yq126 ?_; (with_reducible refine (impl_Meta_69.calls _ _ l0_0 t105 _ ?side1 ?side2 A5.out).mono ?_); (case side1 => exact Kd.C_below HR0_0.out yq122); (case side2 => exact HC0_0.out); rintro e w17 ⟨v106, rfl, ho0, hb⟩; refine ⟨_, rfl, ?_⟩; have HO107 := Qz.mk (Kd.R_lower ho0 (qz yq122)); replace BK101 := Qz.mk (qb1 (g := gb101) (o := .cells #[.slice A0_0 l0_0.length c0_0, .int .i64 a0_1, .int .i64 a0_2, .int .i64 a0_3] 32 (0, 0)) (by (with_reducible repeat (first | refine qb ?_ _ | refine qc ?_ | refine qa ?_ _)); refine qp ?_ NB101_104.out _; (with_reducible repeat (first | refine qb ?_ _ | refine qc ?_ | refine qa ?_ _)); refine qp ?_ NB101_104.out _; (with_reducible repeat (first | refine qb ?_ _ | refine qc ?_ | refine qa ?_ _)); refine qp ?_ NB101_104.out _; (with_reducible repeat (first | refine qb ?_ _ | refine qc ?_ | refine qa ?_ _)); refine qp ?_ NB101_104.out _; (with_reducible repeat (first | refine qb ?_ _ | refine qc ?_ | refine qa ?_ _)); exact BK101.out) hb); replace BK102 := Qz.mk (qb1 (g := gb102) (o := .cells #[.slice none 0 0, .int .i64 0, .int .i64 0, .int .i64 0] 32 (0, 0)) (by (with_reducible repeat (first | refine qb ?_ _ | refine qc ?_ | refine qa ?_ _)); refine qp ?_ NB102_104.out _; (with_reducible repeat (first | refine qb ?_ _ | refine qc ?_ | refine qa ?_ _)); refine qp ?_ NB102_104.out _; (with_reducible repeat (first | refine qb ?_ _ | refine qc ?_ | refine qa ?_ _)); refine qp ?_ NB102_104.out _; (with_reducible repeat (first | refine qb ?_ _ | refine qc ?_ | refine qa ?_ _)); refine qp ?_ NB102_104.out _; (with_reducible repeat (first | refine qb ?_ _ | refine qc ?_ | refine qa ?_ _)); exact BK102.out) hb); replace BK104 := Qz.mk (qb1 (g := gb104) (o := .cells #[.slice A0_0 l0_0.length c0_0, .int .i64 a0_1, .int .i64 a0_2, .int .i64 a0_3] 32 (0, 0)) (by (with_reducible repeat (first | refine qb ?_ _ | refine qc ?_ | refine qa ?_ _)); refine qt (cs := #[.slice A0_0 l0_0.length c0_0, .int .i64 a0_1, .int .i64 a0_2, .int .i64 0]) ?_ 3 _ rfl; (with_reducible repeat (first | refine qb ?_ _ | refine qc ?_ | refine qa ?_ _)); refine qt (cs := #[.slice A0_0 l0_0.length c0_0, .int .i64 a0_1, .int .i64 0, .int .i64 0]) ?_ 2 _ rfl; (with_reducible repeat (first | refine qb ?_ _ | refine qc ?_ | refine qa ?_ _)); refine qt (cs := #[.slice A0_0 l0_0.length c0_0, .int .i64 0, .int .i64 0, .int .i64 0]) ?_ 1 _ rfl; (with_reducible repeat (first | refine qb ?_ _ | refine qc ?_ | refine qa ?_ _)); refine qt (cs := #[.slice none 0 0, .int .i64 0, .int .i64 0, .int .i64 0]) ?_ 0 _ rfl; (with_reducible repeat (first | refine qb ?_ _ | refine qc ?_ | refine qa ?_ _)); exact BK104.out) hb); replace HB := Qz.mk (qq yq122 hb); (try clear hb); (try clear hk); (try clear ho0); obtain ⟨Ao18, co18, eo18⟩ := Kd.R_slice HO107.out; subst eo18; have hcz19_0 := (qd BK104.out 0).trans rfl; have hcz19_1 := (qd BK104.out 1).trans rfl; have hcz19_2 := (qd BK104.out 2).trans rfl; have hcz19_3 := (qd BK104.out 3).trans rfl; have hfz19_0 := qf BK104.out 0; have hfz19_1 := qf BK104.out 1; have hfz19_2 := qf BK104.out 2; have hfz19_3 := qf BK104.out 3))
  go_loopg [22] k (fun kq v22 w' => ∃ (x22_1 : Int) (x103001_1 : Int) (x103002_1 : Int) (x103003_1 : Int) (x105000_1 : List (S66)) (x105001_1 : Int) (x105002_1 : Int) (x105003_1 : Int) (u105000 : Value), v22 = .int .i64 x22_1 ∧ Qz (impl_Replay.l0 kq l1 l1 (l1.length : Int) x22_1 x105000_1 x105001_1 x105002_1 x105003_1 = some (r1, r2, r3, r4, r5)) ∧ Qz (kq ≤ k) ∧ Qz (Kd.R k66 66 w' w.heap.size (fun _ => True) u105000 x105000_1) ∧ Qz (w'.heap[gb101]? = some (.cells #[(.slice A0_0 l0_0.length c0_0), .int .i64 a0_1, .int .i64 a0_2, .int .i64 a0_3] 32 (0, 0))) ∧ Qz (w'.heap[gb102]? = some (.cells #[(.slice none 0 0), .int .i64 x103001_1, .int .i64 x103002_1, .int .i64 x103003_1] 32 (0, 0))) ∧ Qz (w'.heap[gb104]? = some (.cells #[u105000, .int .i64 x105001_1, .int .i64 x105002_1, .int .i64 x105003_1] 32 (0, 0))) ∧ Qz (Below w.heap.size w w'))
  case atStart => exact ⟨(0), (0), (0), (0), (t105), (a0_1), (a0_2), (a0_3), (.slice Ao18 t105.length co18), (by first | rfl | (simp; done) | (simp [*]; done)), H', ⟨Nat.le_refl _⟩, ⟨by (with_reducible repeat (first | apply Kd.R_alloc | apply Kd.R_drewN | apply Kd.R_drew)); exact Kd.R_mono (Kd.R_far (p := ⟨gb104, 0, none⟩) (Kd.R_types HO107.out BK104.out (by decide)) (fun _ hk => hk.2) (.slice Ao18 t105.length co18)) (fun _ hk => trivial)⟩, ⟨by (with_reducible repeat (first | refine qb ?_ _ | refine qc ?_ | refine qa ?_ _)); refine qp ?_ NB101_104.out _; (with_reducible repeat (first | refine qb ?_ _ | refine qc ?_ | refine qa ?_ _)); exact BK101.out⟩, ⟨by (with_reducible repeat (first | refine qb ?_ _ | refine qc ?_ | refine qa ?_ _)); refine qp ?_ NB102_104.out _; (with_reducible repeat (first | refine qb ?_ _ | refine qc ?_ | refine qa ?_ _)); exact BK102.out⟩, ⟨by (with_reducible repeat (first | refine qb ?_ _ | refine qc ?_ | refine qa ?_ _)); refine qt (cs := #[.slice A0_0 l0_0.length c0_0, .int .i64 a0_1, .int .i64 a0_2, .int .i64 a0_3]) ?_ 0 _ rfl; (with_reducible repeat (first | refine qb ?_ _ | refine qc ?_ | refine qa ?_ _)); exact BK104.out⟩, ⟨by repeat (first | (with_reducible first | exact HB.out | apply qh | apply qg | apply qi | refine qe ?_ GE101.out | refine qe ?_ GE102.out | refine qe ?_ GE104.out) | exact HB.out)⟩⟩
  case round =>
   clear H'
   (try clear c1);(try clear c2);(try clear p2);(try clear c3);(try clear c4);(try clear c6);(try clear c8);(try clear c13);(try clear c14);(try clear hcz11_0);(try clear hcz11_1);(try clear hcz11_2);(try clear hcz11_3);(try clear hcz15_0);(try clear hcz15_1);(try clear hcz15_2);(try clear hcz15_3);(try clear hcz16_0);(try clear hcz16_1);(try clear hcz16_2);(try clear hcz16_3);(try clear hcz19_0);(try clear hcz19_1);(try clear hcz19_2);(try clear hcz19_3);(try clear hcz9_0);(try clear hcz9_1);(try clear hcz9_2);(try clear hcz9_3);(try clear hfz11_0);(try clear hfz11_1);(try clear hfz11_2);(try clear hfz11_3);(try clear hfz15_0);(try clear hfz15_1);(try clear hfz15_2);(try clear hfz15_3);(try clear hfz16_0);(try clear hfz16_1);(try clear hfz16_2);(try clear hfz16_3);(try clear hfz19_0);(try clear hfz19_1);(try clear hfz19_2);(try clear hfz19_3);(try clear hfz9_0);(try clear hfz9_1);(try clear hfz9_2);(try clear hfz9_3)
   obtain ⟨x22_1, x103001_1, x103002_1, x103003_1, x105000_1, x105001_1, x105002_1, x105003_1, u105000, rfl, HA, HK1, HO_105000, BK101, BK102, BK104, HB⟩ := hrel
   cases gk with
   | zero => exact absurd HA.out (by simp [impl_Replay.l0])
   | succ k1 =>
    have H := HA.out
    clear HA
    simp only [impl_Replay.l0] at H
    by_cases c20 : x22_1 < (l1.length : Int)
    ·rw [if_pos c20] at H
     have c20b0 : decide (x22_1 < (l1.length : Int)) = true := decide_eq_true c20
     clear c20
     by_cases c21 : 0 ≤ x22_1
     ·rw [if_pos c21] at H
      have c21b0 : decide (0 ≤ x22_1) = true := decide_eq_true c21
      clear c21
      by_cases c22 : x22_1 < (l1.length : Int)
      ·rw [if_pos c22] at H
       have c22b0 : decide (x22_1 < (l1.length : Int)) = true := decide_eq_true c22
       clear c22
       replace H := Option.bind_eq_some_iff.mp H
       obtain ⟨⟨t110, t113, t114, t115, t116⟩, A230, H⟩ := H
       replace H : (if t116 = true then (impl_Replay.l0 k1 l1 l1 (l1.length : Int) (wrap64 (x22_1 + 1)) t110 t113 t114 t115) else (some (x105000_1, x105001_1, x105002_1, x105003_1, x22_1))) = some (r1, r2, r3, r4, r5) := H
       have A23 := Qz.mk A230
       clear A230
       by_cases c24 : t116 = true
       ·subst c24
        have H1 : (impl_Replay.l0 k1 l1 l1 (l1.length : Int) (wrap64 (x22_1 + 1)) t110 t113 t114 t115) = some (r1, r2, r3, r4, r5) := by rw [if_pos rfl] at H; exact H
        clear H
        have H := H1
        clear H1
        have H' := Qz.mk H
        clear H
        have p108 : 0 ≤ (x22_1 : Int) := of_decide_eq_true (by first | (with_reducible assumption) | assumption)
        have q108 : x22_1 < (l1.length : Int) := of_decide_eq_true (by first | (with_reducible assumption) | assumption)
        obtain ⟨ad108, A108_0, c108_0, A108_1, c108_1, e108, hx108_0, hx108_1, hx108_2, hx108_3, hx108_4, hl108_0, hi108_0, hl108_1, hi108_1⟩ := at_T37 HR1.out x22_1 p108 q108
        cases e108
        replace hx108_0 := (HB.out.cell (World.block_lt_of_cell? w _ hx108_0)).trans hx108_0
        replace hx108_1 := (HB.out.cell (World.block_lt_of_cell? w _ hx108_1)).trans hx108_1
        replace hx108_2 := (HB.out.cell (World.block_lt_of_cell? w _ hx108_2)).trans hx108_2
        replace hx108_3 := (HB.out.cell (World.block_lt_of_cell? w _ hx108_3)).trans hx108_3
        replace hx108_4 := (HB.out.cell (World.block_lt_of_cell? w _ hx108_4)).trans hx108_4
        have HR108_0 := Qz.mk hi108_0
        have HC108_0 := Qz.mk hl108_0
        clear hi108_0 hl108_0
        have HR108_1 := Qz.mk hi108_1
        have HC108_1 := Qz.mk hl108_1
        clear hi108_1 hl108_1
        replace p108 := eq_true p108
        replace q108 := eq_true q108
        go_wp2_with (first | ((with_reducible refine gate_dst (N := 8) rfl ?_); refine box_event ?hg (N := 8) ?hd (cs := #[.slice none 0 0, .slice none 0 0, .int .i64 0, .int .i64 0, .int .i64 0]) (t := 37) ?hr ?_; (case hd => rfl); (case hg => rfl); (case hr => exact yq137); intro gb109 hg w25 hbox hb; replace HO_105000 := Qz.mk (Kd.R_below yq135 hb); have BK109 := Qz.mk (hbox); have GW109 := Qz.mk ((by rw [hg]; exact (qz yq122) : w.heap.size ≤ gb109)); have GE109 := GW109; replace HB := Qz.mk (qq yq122 hb); have NB101_109 := Qz.mk ((yq124 : gb101 ≠ gb109)); have NB109_101 := Qz.mk ((yq125 : gb109 ≠ gb101)); replace BK101 := bkbf31 BK101 yq119 hb; have NB102_109 := Qz.mk ((yq131 : gb102 ≠ gb109)); have NB109_102 := Qz.mk ((yq132 : gb109 ≠ gb102)); replace BK102 := bkbf31 BK102 yq120 hb; have NB104_109 := Qz.mk ((by rw [hg]; exact Nat.ne_of_lt (qv (g := gb104) (o := .cells #[u105000, .int .i64 x105001_1, .int .i64 x105002_1, .int .i64 x105003_1] 32 (0, 0)) yq123) : gb104 ≠ gb109)); have NB109_104 := Qz.mk ((by rw [hg]; exact Nat.ne_of_gt (qv (g := gb104) (o := .cells #[u105000, .int .i64 x105001_1, .int .i64 x105002_1, .int .i64 x105003_1] 32 (0, 0)) yq123) : gb109 ≠ gb104)); replace BK104 := bkbf31 BK104 yq123 hb; clear hb hbox hg; have hnb26 := NB109_101.out; have hnc26 := NB101_109.out; have hnb27 := NB109_102.out; have hnc27 := NB102_109.out; have hnb28 := NB109_104.out; have hnc28 := NB104_109.out; have hcz29_0 := (qd BK109.out 0).trans rfl; have hcz29_1 := (qd BK109.out 1).trans rfl; have hcz29_2 := (qd BK109.out 2).trans rfl; have hcz29_3 := (qd BK109.out 3).trans rfl; have hcz29_4 := (qd BK109.out 4).trans rfl; have hfz29_0 := qf BK109.out 0; have hfz29_1 := qf BK109.out 1; have hfz29_2 := qf BK109.out 2; have hfz29_3 := qf BK109.out 3; have hfz29_4 := qf BK109.out 4; have hnb30 := NB104_101.out; have hnc30 := NB101_104.out; have hnb31 := NB104_102.out; have hnc31 := NB102_104.out; have hcz32_0 := (qd BK104.out 0).trans rfl; have hcz32_1 := (qd BK104.out 1).trans rfl; have hcz32_2 := (qd BK104.out 2).trans rfl; have hcz32_3 := (qd BK104.out 3).trans rfl; have hfz32_0 := qf BK104.out 0; have hfz32_1 := qf BK104.out 1; have hfz32_2 := qf BK104.out 2; have hfz32_3 := qf BK104.out 3; obtain ⟨Ao33, co33, eo33⟩ := Kd.R_slice HO_105000.out; subst eo33) | ((with_reducible refine qu (f := 59) rfl ?_); refine goesL_ (some 30) rfl rfl Try.func59 (by kernel_rfl) rfl #[.agg #[.slice Ao33 x105000_1.length co33, .int .i64 x105001_1, .int .i64 x105002_1, .int .i64 x105003_1], .agg #[.slice A108_0 ((qw l1 x22_1).f0).length c108_0, .slice A108_1 ((qw l1 x22_1).f1).length c108_1, .int .i64 ((qw l1 x22_1).f2), .int .i64 ((qw l1 x22_1).f3), .int .i64 ((qw l1 x22_1).f4)]] rfl yq126 ?_; (with_reducible refine (impl_Version_edited.calls _ _ x105000_1 x105001_1 x105002_1 x105003_1 _ _ ((qw l1 x22_1).f0) _ _ ((qw l1 x22_1).f1) ((qw l1 x22_1).f2) ((qw l1 x22_1).f3) ((qw l1 x22_1).f4) t110 t113 t114 t115 true _ ?side1 ?side2 ?side3 ?side4 ?side5 ?side6 A23.out).mono ?_); (case side1 => refine (Kd.R_reads' (e := 66) (base := w.heap.size) (ok := fun k_ => True) (n := x105000_1.length) (c := co33) ?_).2.2; exact yq117); (case side2 => exact (Kd.R_reads' HO_105000.out).2.1); (case side3 => exact Kd.C_below HR108_0.out yq118); (case side4 => exact HC108_0.out); (case side5 => exact Kd.C_below HR108_1.out yq118); (case side6 => exact HC108_1.out); rintro e w34 ⟨v111, rfl, ho0, hb⟩; refine ⟨_, rfl, ?_⟩; have HO112 := Qz.mk (Kd.R_lower (Kd.R_new' ho0 (Kd.R_lt yq117)) (qz yq118)); replace HO_105000 := Qz.mk (Kd.R_elder' yq117 (Kd.R_base ho0) hb); replace BK101 := Qz.mk (qb1 (g := gb101) (o := .cells #[.slice A0_0 l0_0.length c0_0, .int .i64 a0_1, .int .i64 a0_2, .int .i64 a0_3] 32 (0, 0)) yq129 hb); replace BK102 := Qz.mk (qb1 (g := gb102) (o := .cells #[.slice none 0 0, .int .i64 x103001_1, .int .i64 x103002_1, .int .i64 x103003_1] 32 (0, 0)) yq128 hb); replace BK104 := Qz.mk (qb1 (g := gb104) (o := .cells #[.slice Ao33 x105000_1.length co33, .int .i64 x105001_1, .int .i64 x105002_1, .int .i64 x105003_1] 32 (0, 0)) yq127 hb); replace BK109 := Qz.mk (qb1 (g := gb109) (o := .cells #[.slice A108_0 ((qw l1 x22_1).f0).length c108_0, .slice A108_1 ((qw l1 x22_1).f1).length c108_1, .int .i64 ((qw l1 x22_1).f2), .int .i64 ((qw l1 x22_1).f3), .int .i64 ((qw l1 x22_1).f4)] 37 (0, 0)) yq121 hb); replace HB := Qz.mk (qq yq118 hb); (try clear hb); (try clear hk); (try clear ho0)) | ((with_reducible refine gate_dst (N := 9) rfl ?_); refine box_event ?hg (N := 9) ?hd (cs := #[.slice none 0 0, .int .i64 0, .int .i64 0, .int .i64 0]) (t := 32) ?hr ?_; (case hd => rfl); (case hg => rfl); (case hr => exact yq137); intro gb117 hg w35 hbox hb; replace HO_105000 := Qz.mk (Kd.R_below yq135 hb); replace HO112 := Qz.mk (Kd.R_below (by (with_reducible repeat (first | apply Kd.R_alloc | apply Kd.R_drewN | apply Kd.R_drew)); exact HO112.out) hb); have BK117 := Qz.mk (hbox); have GW117 := Qz.mk ((by rw [hg]; exact (qz yq118) : w.heap.size ≤ gb117)); have GE117 := GW117; replace HB := Qz.mk (qq yq118 hb); have NB101_117 := Qz.mk ((yq124 : gb101 ≠ gb117)); have NB117_101 := Qz.mk ((yq125 : gb117 ≠ gb101)); replace BK101 := bkbf31 BK101 yq119 hb; have NB102_117 := Qz.mk ((yq131 : gb102 ≠ gb117)); have NB117_102 := Qz.mk ((yq132 : gb117 ≠ gb102)); replace BK102 := bkbf31 BK102 yq120 hb; have NB104_117 := Qz.mk ((by rw [hg]; exact Nat.ne_of_lt (qv (g := gb104) (o := .cells #[.slice Ao33 x105000_1.length co33, .int .i64 x105001_1, .int .i64 x105002_1, .int .i64 x105003_1] 32 (0, 0)) yq123) : gb104 ≠ gb117)); have NB117_104 := Qz.mk ((by rw [hg]; exact Nat.ne_of_gt (qv (g := gb104) (o := .cells #[.slice Ao33 x105000_1.length co33, .int .i64 x105001_1, .int .i64 x105002_1, .int .i64 x105003_1] 32 (0, 0)) yq123) : gb117 ≠ gb104)); replace BK104 := bkbf31 BK104 yq123 hb; have NB109_117 := Qz.mk ((yq138 : gb109 ≠ gb117)); have NB117_109 := Qz.mk ((yq139 : gb117 ≠ gb109)); replace BK109 := bkbf31 BK109 yq130 hb; clear hb hbox hg; obtain ⟨Ao36, co36, eo36⟩ := Kd.R_slice HO112.out; subst eo36; have hnb37 := NB117_101.out; have hnc37 := NB101_117.out; have hnb38 := NB117_102.out; have hnc38 := NB102_117.out; have hnb39 := NB117_104.out; have hnc39 := NB104_117.out; have hnb40 := NB117_109.out; have hnc40 := NB109_117.out; have hcz41_0 := (qd BK117.out 0).trans rfl; have hcz41_1 := (qd BK117.out 1).trans rfl; have hcz41_2 := (qd BK117.out 2).trans rfl; have hcz41_3 := (qd BK117.out 3).trans rfl; have hfz41_0 := qf BK117.out 0; have hfz41_1 := qf BK117.out 1; have hfz41_2 := qf BK117.out 2; have hfz41_3 := qf BK117.out 3; have hcz42_0 := (qd BK104.out 0).trans rfl; have hcz42_1 := (qd BK104.out 1).trans rfl; have hcz42_2 := (qd BK104.out 2).trans rfl; have hcz42_3 := (qd BK104.out 3).trans rfl; have hfz42_0 := qf BK104.out 0; have hfz42_1 := qf BK104.out 1; have hfz42_2 := qf BK104.out 2; have hfz42_3 := qf BK104.out 3))
        go_roundg k1
        case measure => have := HK1.out; omega
        case rel => exact ⟨(wrap64 (x22_1 + 1)), (x103001_1), (x103002_1), (x103003_1), (t110), (t113), (t114), (t115), (.slice Ao36 t110.length co36), (by first | rfl | (simp; done) | (simp [*]; done)), H', ⟨by have := HK1.out; omega⟩, ⟨by (with_reducible repeat (first | apply Kd.R_alloc | apply Kd.R_drewN | apply Kd.R_drew)); exact Kd.R_mono (Kd.R_far (p := ⟨gb104, 3, none⟩) (Kd.R_far (p := ⟨gb104, 2, none⟩) (Kd.R_far (p := ⟨gb104, 1, none⟩) (Kd.R_far (p := ⟨gb104, 0, none⟩) (Kd.R_far (p := ⟨gb117, 3, none⟩) (Kd.R_far (p := ⟨gb117, 2, none⟩) (Kd.R_far (p := ⟨gb117, 1, none⟩) (Kd.R_far (p := ⟨gb117, 0, none⟩) (Kd.R_types (Kd.R_types HO112.out BK117.out (by decide)) BK104.out (by decide)) (fun _ hk => hk.1.2) (.slice Ao36 t110.length co36)) (fun _ hk => hk.1.2) (.int .i64 t113)) (fun _ hk => hk.1.2) (.int .i64 t114)) (fun _ hk => hk.1.2) (.int .i64 t115)) (fun _ hk => hk.2) (.slice Ao36 t110.length co36)) (fun _ hk => hk.2) (.int .i64 t113)) (fun _ hk => hk.2) (.int .i64 t114)) (fun _ hk => hk.2) (.int .i64 t115)) (fun _ hk => trivial)⟩, ⟨by (with_reducible repeat (first | refine qb ?_ _ | refine qc ?_ | refine qa ?_ _)); refine qp ?_ NB101_104.out _; (with_reducible repeat (first | refine qb ?_ _ | refine qc ?_ | refine qa ?_ _)); refine qp ?_ NB101_104.out _; (with_reducible repeat (first | refine qb ?_ _ | refine qc ?_ | refine qa ?_ _)); refine qp ?_ NB101_104.out _; (with_reducible repeat (first | refine qb ?_ _ | refine qc ?_ | refine qa ?_ _)); refine qp ?_ NB101_104.out _; (with_reducible repeat (first | refine qb ?_ _ | refine qc ?_ | refine qa ?_ _)); refine qp ?_ NB101_117.out _; (with_reducible repeat (first | refine qb ?_ _ | refine qc ?_ | refine qa ?_ _)); refine qp ?_ NB101_117.out _; (with_reducible repeat (first | refine qb ?_ _ | refine qc ?_ | refine qa ?_ _)); refine qp ?_ NB101_117.out _; (with_reducible repeat (first | refine qb ?_ _ | refine qc ?_ | refine qa ?_ _)); refine qp ?_ NB101_117.out _; (with_reducible repeat (first | refine qb ?_ _ | refine qc ?_ | refine qa ?_ _)); exact BK101.out⟩, ⟨by (with_reducible repeat (first | refine qb ?_ _ | refine qc ?_ | refine qa ?_ _)); refine qp ?_ NB102_104.out _; (with_reducible repeat (first | refine qb ?_ _ | refine qc ?_ | refine qa ?_ _)); refine qp ?_ NB102_104.out _; (with_reducible repeat (first | refine qb ?_ _ | refine qc ?_ | refine qa ?_ _)); refine qp ?_ NB102_104.out _; (with_reducible repeat (first | refine qb ?_ _ | refine qc ?_ | refine qa ?_ _)); refine qp ?_ NB102_104.out _; (with_reducible repeat (first | refine qb ?_ _ | refine qc ?_ | refine qa ?_ _)); refine qp ?_ NB102_117.out _; (with_reducible repeat (first | refine qb ?_ _ | refine qc ?_ | refine qa ?_ _)); refine qp ?_ NB102_117.out _; (with_reducible repeat (first | refine qb ?_ _ | refine qc ?_ | refine qa ?_ _)); refine qp ?_ NB102_117.out _; (with_reducible repeat (first | refine qb ?_ _ | refine qc ?_ | refine qa ?_ _)); refine qp ?_ NB102_117.out _; (with_reducible repeat (first | refine qb ?_ _ | refine qc ?_ | refine qa ?_ _)); exact BK102.out⟩, ⟨by (with_reducible repeat (first | refine qb ?_ _ | refine qc ?_ | refine qa ?_ _)); refine qt (cs := #[.slice Ao36 t110.length co36, .int .i64 t113, .int .i64 t114, .int .i64 x105003_1]) ?_ 3 _ rfl; (with_reducible repeat (first | refine qb ?_ _ | refine qc ?_ | refine qa ?_ _)); refine qt (cs := #[.slice Ao36 t110.length co36, .int .i64 t113, .int .i64 x105002_1, .int .i64 x105003_1]) ?_ 2 _ rfl; (with_reducible repeat (first | refine qb ?_ _ | refine qc ?_ | refine qa ?_ _)); refine qt (cs := #[.slice Ao36 t110.length co36, .int .i64 x105001_1, .int .i64 x105002_1, .int .i64 x105003_1]) ?_ 1 _ rfl; (with_reducible repeat (first | refine qb ?_ _ | refine qc ?_ | refine qa ?_ _)); refine qt (cs := #[.slice Ao33 x105000_1.length co33, .int .i64 x105001_1, .int .i64 x105002_1, .int .i64 x105003_1]) ?_ 0 _ rfl; (with_reducible repeat (first | refine qb ?_ _ | refine qc ?_ | refine qa ?_ _)); refine qp ?_ NB104_117.out _; (with_reducible repeat (first | refine qb ?_ _ | refine qc ?_ | refine qa ?_ _)); refine qp ?_ NB104_117.out _; (with_reducible repeat (first | refine qb ?_ _ | refine qc ?_ | refine qa ?_ _)); refine qp ?_ NB104_117.out _; (with_reducible repeat (first | refine qb ?_ _ | refine qc ?_ | refine qa ?_ _)); refine qp ?_ NB104_117.out _; (with_reducible repeat (first | refine qb ?_ _ | refine qc ?_ | refine qa ?_ _)); exact BK104.out⟩, ⟨by repeat (first | (with_reducible first | exact HB.out | apply qh | apply qg | apply qi | refine qe ?_ GE101.out | refine qe ?_ GE102.out | refine qe ?_ GE104.out | refine qe ?_ GE109.out | refine qe ?_ GE117.out) | exact HB.out)⟩⟩
       ·replace c24 := Bool.eq_false_iff.mpr c24
        subst c24
        have H1 : (some (x105000_1, x105001_1, x105002_1, x105003_1, x22_1)) = some (r1, r2, r3, r4, r5) := by rw [if_neg (show ¬ (false = true) by decide)] at H; exact H
        clear H
        have H := H1
        clear H1
        simp only [Option.some.injEq, Prod.mk.injEq] at H
        obtain ⟨rfl, rfl, rfl, rfl, rfl⟩ := H
        have p108 : 0 ≤ (x22_1 : Int) := of_decide_eq_true (by first | (with_reducible assumption) | assumption)
        have q108 : x22_1 < (l1.length : Int) := of_decide_eq_true (by first | (with_reducible assumption) | assumption)
        obtain ⟨ad108, A108_0, c108_0, A108_1, c108_1, e108, hx108_0, hx108_1, hx108_2, hx108_3, hx108_4, hl108_0, hi108_0, hl108_1, hi108_1⟩ := at_T37 HR1.out x22_1 p108 q108
        cases e108
        replace hx108_0 := (HB.out.cell (World.block_lt_of_cell? w _ hx108_0)).trans hx108_0
        replace hx108_1 := (HB.out.cell (World.block_lt_of_cell? w _ hx108_1)).trans hx108_1
        replace hx108_2 := (HB.out.cell (World.block_lt_of_cell? w _ hx108_2)).trans hx108_2
        replace hx108_3 := (HB.out.cell (World.block_lt_of_cell? w _ hx108_3)).trans hx108_3
        replace hx108_4 := (HB.out.cell (World.block_lt_of_cell? w _ hx108_4)).trans hx108_4
        have HR108_0 := Qz.mk hi108_0
        have HC108_0 := Qz.mk hl108_0
        clear hi108_0 hl108_0
        have HR108_1 := Qz.mk hi108_1
        have HC108_1 := Qz.mk hl108_1
        clear hi108_1 hl108_1
        replace p108 := eq_true p108
        replace q108 := eq_true q108
        go_wp2_with (first | ((with_reducible refine gate_dst (N := 8) rfl ?_); refine box_event ?hg (N := 8) ?hd (cs := #[.slice none 0 0, .slice none 0 0, .int .i64 0, .int .i64 0, .int .i64 0]) (t := 37) ?hr ?_; (case hd => rfl); (case hg => rfl); (case hr => exact yq137); intro gb109 hg w43 hbox hb; replace HO_105000 := Qz.mk (Kd.R_below yq135 hb); have BK109 := Qz.mk (hbox); have GW109 := Qz.mk ((by rw [hg]; exact (qz yq122) : w.heap.size ≤ gb109)); have GE109 := GW109; replace HB := Qz.mk (qq yq122 hb); have NB101_109 := Qz.mk ((yq124 : gb101 ≠ gb109)); have NB109_101 := Qz.mk ((yq125 : gb109 ≠ gb101)); replace BK101 := bkbf31 BK101 yq119 hb; have NB102_109 := Qz.mk ((yq131 : gb102 ≠ gb109)); have NB109_102 := Qz.mk ((yq132 : gb109 ≠ gb102)); replace BK102 := bkbf31 BK102 yq120 hb; have NB104_109 := Qz.mk ((by rw [hg]; exact Nat.ne_of_lt (qv (g := gb104) (o := .cells #[u105000, .int .i64 x105001_1, .int .i64 x105002_1, .int .i64 x105003_1] 32 (0, 0)) yq123) : gb104 ≠ gb109)); have NB109_104 := Qz.mk ((by rw [hg]; exact Nat.ne_of_gt (qv (g := gb104) (o := .cells #[u105000, .int .i64 x105001_1, .int .i64 x105002_1, .int .i64 x105003_1] 32 (0, 0)) yq123) : gb109 ≠ gb104)); replace BK104 := bkbf31 BK104 yq123 hb; clear hb hbox hg; have hnb44 := NB109_101.out; have hnc44 := NB101_109.out; have hnb45 := NB109_102.out; have hnc45 := NB102_109.out; have hnb46 := NB109_104.out; have hnc46 := NB104_109.out; have hcz47_0 := (qd BK109.out 0).trans rfl; have hcz47_1 := (qd BK109.out 1).trans rfl; have hcz47_2 := (qd BK109.out 2).trans rfl; have hcz47_3 := (qd BK109.out 3).trans rfl; have hcz47_4 := (qd BK109.out 4).trans rfl; have hfz47_0 := qf BK109.out 0; have hfz47_1 := qf BK109.out 1; have hfz47_2 := qf BK109.out 2; have hfz47_3 := qf BK109.out 3; have hfz47_4 := qf BK109.out 4; have hnb48 := NB104_101.out; have hnc48 := NB101_104.out; have hnb49 := NB104_102.out; have hnc49 := NB102_104.out; have hcz50_0 := (qd BK104.out 0).trans rfl; have hcz50_1 := (qd BK104.out 1).trans rfl; have hcz50_2 := (qd BK104.out 2).trans rfl; have hcz50_3 := (qd BK104.out 3).trans rfl; have hfz50_0 := qf BK104.out 0; have hfz50_1 := qf BK104.out 1; have hfz50_2 := qf BK104.out 2; have hfz50_3 := qf BK104.out 3; obtain ⟨Ao51, co51, eo51⟩ := Kd.R_slice HO_105000.out; subst eo51) | ((with_reducible refine qu (f := 59) rfl ?_); refine goesL_ (some 30) rfl rfl Try.func59 (by kernel_rfl) rfl #[.agg #[.slice Ao51 x105000_1.length co51, .int .i64 x105001_1, .int .i64 x105002_1, .int .i64 x105003_1], .agg #[.slice A108_0 ((qw l1 x22_1).f0).length c108_0, .slice A108_1 ((qw l1 x22_1).f1).length c108_1, .int .i64 ((qw l1 x22_1).f2), .int .i64 ((qw l1 x22_1).f3), .int .i64 ((qw l1 x22_1).f4)]] rfl yq126 ?_; (with_reducible refine (impl_Version_edited.calls _ _ x105000_1 x105001_1 x105002_1 x105003_1 _ _ ((qw l1 x22_1).f0) _ _ ((qw l1 x22_1).f1) ((qw l1 x22_1).f2) ((qw l1 x22_1).f3) ((qw l1 x22_1).f4) t110 t113 t114 t115 false _ ?side1 ?side2 ?side3 ?side4 ?side5 ?side6 A23.out).mono ?_); (case side1 => refine (Kd.R_reads' (e := 66) (base := w.heap.size) (ok := fun k_ => True) (n := x105000_1.length) (c := co51) ?_).2.2; exact yq117); (case side2 => exact (Kd.R_reads' HO_105000.out).2.1); (case side3 => exact Kd.C_below HR108_0.out yq118); (case side4 => exact HC108_0.out); (case side5 => exact Kd.C_below HR108_1.out yq118); (case side6 => exact HC108_1.out); rintro e w52 ⟨v111, rfl, ho0, hb⟩; refine ⟨_, rfl, ?_⟩; have HO112 := Qz.mk (Kd.R_lower (Kd.R_new' ho0 (Kd.R_lt yq117)) (qz yq118)); replace HO_105000 := Qz.mk (Kd.R_elder' yq117 (Kd.R_base ho0) hb); replace BK101 := Qz.mk (qb1 (g := gb101) (o := .cells #[.slice A0_0 l0_0.length c0_0, .int .i64 a0_1, .int .i64 a0_2, .int .i64 a0_3] 32 (0, 0)) yq129 hb); replace BK102 := Qz.mk (qb1 (g := gb102) (o := .cells #[.slice none 0 0, .int .i64 x103001_1, .int .i64 x103002_1, .int .i64 x103003_1] 32 (0, 0)) yq128 hb); replace BK104 := Qz.mk (qb1 (g := gb104) (o := .cells #[.slice Ao51 x105000_1.length co51, .int .i64 x105001_1, .int .i64 x105002_1, .int .i64 x105003_1] 32 (0, 0)) yq127 hb); replace BK109 := Qz.mk (qb1 (g := gb109) (o := .cells #[.slice A108_0 ((qw l1 x22_1).f0).length c108_0, .slice A108_1 ((qw l1 x22_1).f1).length c108_1, .int .i64 ((qw l1 x22_1).f2), .int .i64 ((qw l1 x22_1).f3), .int .i64 ((qw l1 x22_1).f4)] 37 (0, 0)) yq121 hb); replace HB := Qz.mk (qq yq118 hb); (try clear hb); (try clear hk); (try clear ho0)) | ((with_reducible refine gate_dst (N := 9) rfl ?_); refine box_event ?hg (N := 9) ?hd (cs := #[.slice none 0 0, .int .i64 0, .int .i64 0, .int .i64 0]) (t := 32) ?hr ?_; (case hd => rfl); (case hg => rfl); (case hr => exact yq137); intro gb117 hg w53 hbox hb; replace HO_105000 := Qz.mk (Kd.R_below yq135 hb); replace HO112 := Qz.mk (Kd.R_below (by (with_reducible repeat (first | apply Kd.R_alloc | apply Kd.R_drewN | apply Kd.R_drew)); exact HO112.out) hb); have BK117 := Qz.mk (hbox); have GW117 := Qz.mk ((by rw [hg]; exact (qz yq118) : w.heap.size ≤ gb117)); have GE117 := GW117; replace HB := Qz.mk (qq yq118 hb); have NB101_117 := Qz.mk ((yq124 : gb101 ≠ gb117)); have NB117_101 := Qz.mk ((yq125 : gb117 ≠ gb101)); replace BK101 := bkbf31 BK101 yq119 hb; have NB102_117 := Qz.mk ((yq131 : gb102 ≠ gb117)); have NB117_102 := Qz.mk ((yq132 : gb117 ≠ gb102)); replace BK102 := bkbf31 BK102 yq120 hb; have NB104_117 := Qz.mk ((by rw [hg]; exact Nat.ne_of_lt (qv (g := gb104) (o := .cells #[.slice Ao51 x105000_1.length co51, .int .i64 x105001_1, .int .i64 x105002_1, .int .i64 x105003_1] 32 (0, 0)) yq123) : gb104 ≠ gb117)); have NB117_104 := Qz.mk ((by rw [hg]; exact Nat.ne_of_gt (qv (g := gb104) (o := .cells #[.slice Ao51 x105000_1.length co51, .int .i64 x105001_1, .int .i64 x105002_1, .int .i64 x105003_1] 32 (0, 0)) yq123) : gb117 ≠ gb104)); replace BK104 := bkbf31 BK104 yq123 hb; have NB109_117 := Qz.mk ((yq138 : gb109 ≠ gb117)); have NB117_109 := Qz.mk ((yq139 : gb117 ≠ gb109)); replace BK109 := bkbf31 BK109 yq130 hb; clear hb hbox hg; obtain ⟨Ao54, co54, eo54⟩ := Kd.R_slice HO112.out; subst eo54; have hnb55 := NB117_101.out; have hnc55 := NB101_117.out; have hnb56 := NB117_102.out; have hnc56 := NB102_117.out; have hnb57 := NB117_104.out; have hnc57 := NB104_117.out; have hnb58 := NB117_109.out; have hnc58 := NB109_117.out; have hcz59_0 := (qd BK117.out 0).trans rfl; have hcz59_1 := (qd BK117.out 1).trans rfl; have hcz59_2 := (qd BK117.out 2).trans rfl; have hcz59_3 := (qd BK117.out 3).trans rfl; have hfz59_0 := qf BK117.out 0; have hfz59_1 := qf BK117.out 1; have hfz59_2 := qf BK117.out 2; have hfz59_3 := qf BK117.out 3; have hcz60_0 := (qd BK104.out 0).trans rfl; have hcz60_1 := (qd BK104.out 1).trans rfl; have hcz60_2 := (qd BK104.out 2).trans rfl; have hcz60_3 := (qd BK104.out 3).trans rfl; have hfz60_0 := qf BK104.out 0; have hfz60_1 := qf BK104.out 1; have hfz60_2 := qf BK104.out 2; have hfz60_3 := qf BK104.out 3; have hnb61 := NB102_101.out; have hnc61 := NB101_102.out; have hcz62_0 := (qd BK102.out 0).trans rfl; have hcz62_1 := (qd BK102.out 1).trans rfl; have hcz62_2 := (qd BK102.out 2).trans rfl; have hcz62_3 := (qd BK102.out 3).trans rfl; have hfz62_0 := qf BK102.out 0; have hfz62_1 := qf BK102.out 1; have hfz62_2 := qf BK102.out 2; have hfz62_3 := qf BK102.out 3))
        refine bodyPost_ret (results_ct rfl _ _ gb102 32 #[.slice Ao51 x105000_1.length co51, .int .i64 x105001_1, .int .i64 x105002_1, .int .i64 x105003_1] (0, 0) _ rfl (by (with_reducible repeat (first | refine qb ?_ _ | refine qc ?_ | refine qa ?_ _)); refine qt (cs := #[.slice Ao51 x105000_1.length co51, .int .i64 x105001_1, .int .i64 x105002_1, .int .i64 x103003_1]) ?_ 3 _ rfl; (with_reducible repeat (first | refine qb ?_ _ | refine qc ?_ | refine qa ?_ _)); refine qt (cs := #[.slice Ao51 x105000_1.length co51, .int .i64 x105001_1, .int .i64 x103002_1, .int .i64 x103003_1]) ?_ 2 _ rfl; (with_reducible repeat (first | refine qb ?_ _ | refine qc ?_ | refine qa ?_ _)); refine qt (cs := #[.slice Ao51 x105000_1.length co51, .int .i64 x103001_1, .int .i64 x103002_1, .int .i64 x103003_1]) ?_ 1 _ rfl; (with_reducible repeat (first | refine qb ?_ _ | refine qc ?_ | refine qa ?_ _)); refine qt (cs := #[.slice none 0 0, .int .i64 x103001_1, .int .i64 x103002_1, .int .i64 x103003_1]) ?_ 0 _ rfl; (with_reducible repeat (first | refine qb ?_ _ | refine qc ?_ | refine qa ?_ _)); refine qp ?_ NB102_117.out _; (with_reducible repeat (first | refine qb ?_ _ | refine qc ?_ | refine qa ?_ _)); refine qp ?_ NB102_117.out _; (with_reducible repeat (first | refine qb ?_ _ | refine qc ?_ | refine qa ?_ _)); refine qp ?_ NB102_117.out _; (with_reducible repeat (first | refine qb ?_ _ | refine qc ?_ | refine qa ?_ _)); refine qp ?_ NB102_117.out _; (with_reducible repeat (first | refine qb ?_ _ | refine qc ?_ | refine qa ?_ _)); exact BK102.out) Try.underlying32 rfl (by kernel_rfl)) rfl ?_
        exact ⟨_, by first | rfl | (simp [qy, qx] <;> rfl) | (simp [*, qy, qx] <;> rfl), by (with_reducible repeat (first | apply Kd.R_alloc | apply Kd.R_drewN | apply Kd.R_drew)); exact Kd.R_mono (Kd.R_far (p := ⟨gb102, 3, none⟩) (Kd.R_far (p := ⟨gb102, 2, none⟩) (Kd.R_far (p := ⟨gb102, 1, none⟩) (Kd.R_far (p := ⟨gb102, 0, none⟩) (Kd.R_far (p := ⟨gb117, 3, none⟩) (Kd.R_far (p := ⟨gb117, 2, none⟩) (Kd.R_far (p := ⟨gb117, 1, none⟩) (Kd.R_far (p := ⟨gb117, 0, none⟩) (Kd.R_types (Kd.R_types HO_105000.out BK117.out (by decide)) BK102.out (by decide)) (fun _ hk => hk.1.2) (.slice Ao54 t110.length co54)) (fun _ hk => hk.1.2) (.int .i64 t113)) (fun _ hk => hk.1.2) (.int .i64 t114)) (fun _ hk => hk.1.2) (.int .i64 t115)) (fun _ hk => hk.2) (.slice Ao51 x105000_1.length co51)) (fun _ hk => hk.2) (.int .i64 x105001_1)) (fun _ hk => hk.2) (.int .i64 x105002_1)) (fun _ hk => hk.2) (.int .i64 x105003_1)) (fun _ hk => trivial), by repeat (first | (with_reducible first | exact HB.out | apply qh | apply qg | apply qi | refine qe ?_ GE101.out | refine qe ?_ GE102.out | refine qe ?_ GE104.out | refine qe ?_ GE109.out | refine qe ?_ GE117.out) | exact HB.out)⟩
      ·rw [if_neg c22] at H
       exact absurd H (by simp)
     ·rw [if_neg c21] at H
      exact absurd H (by simp)
    ·rw [if_neg c20] at H
     have c20b0 : decide (x22_1 < (l1.length : Int)) = false := decide_eq_false c20
     clear c20
     simp only [Option.some.injEq, Prod.mk.injEq] at H
     obtain ⟨rfl, rfl, rfl, rfl, rfl⟩ := H
     have hnb63 := NB104_101.out
     have hnc63 := NB101_104.out
     have hnb64 := NB104_102.out
     have hnc64 := NB102_104.out
     have hcz65_0 := (qd BK104.out 0).trans rfl
     have hcz65_1 := (qd BK104.out 1).trans rfl
     have hcz65_2 := (qd BK104.out 2).trans rfl
     have hcz65_3 := (qd BK104.out 3).trans rfl
     have hfz65_0 := qf BK104.out 0
     have hfz65_1 := qf BK104.out 1
     have hfz65_2 := qf BK104.out 2
     have hfz65_3 := qf BK104.out 3
     obtain ⟨Ao66, co66, eo66⟩ := Kd.R_slice HO_105000.out
     subst eo66
     have hnb67 := NB102_101.out
     have hnc67 := NB101_102.out
     have hcz68_0 := (qd BK102.out 0).trans rfl
     have hcz68_1 := (qd BK102.out 1).trans rfl
     have hcz68_2 := (qd BK102.out 2).trans rfl
     have hcz68_3 := (qd BK102.out 3).trans rfl
     have hfz68_0 := qf BK102.out 0
     have hfz68_1 := qf BK102.out 1
     have hfz68_2 := qf BK102.out 2
     have hfz68_3 := qf BK102.out 3
     go_wp2
     refine bodyPost_ret (results_ct rfl _ _ gb102 32 #[.slice Ao66 x105000_1.length co66, .int .i64 x105001_1, .int .i64 x105002_1, .int .i64 x105003_1] (0, 0) _ rfl (by (with_reducible repeat (first | refine qb ?_ _ | refine qc ?_ | refine qa ?_ _)); refine qt (cs := #[.slice Ao66 x105000_1.length co66, .int .i64 x105001_1, .int .i64 x105002_1, .int .i64 x103003_1]) ?_ 3 _ rfl; (with_reducible repeat (first | refine qb ?_ _ | refine qc ?_ | refine qa ?_ _)); refine qt (cs := #[.slice Ao66 x105000_1.length co66, .int .i64 x105001_1, .int .i64 x103002_1, .int .i64 x103003_1]) ?_ 2 _ rfl; (with_reducible repeat (first | refine qb ?_ _ | refine qc ?_ | refine qa ?_ _)); refine qt (cs := #[.slice Ao66 x105000_1.length co66, .int .i64 x103001_1, .int .i64 x103002_1, .int .i64 x103003_1]) ?_ 1 _ rfl; (with_reducible repeat (first | refine qb ?_ _ | refine qc ?_ | refine qa ?_ _)); refine qt (cs := #[.slice none 0 0, .int .i64 x103001_1, .int .i64 x103002_1, .int .i64 x103003_1]) ?_ 0 _ rfl; (with_reducible repeat (first | refine qb ?_ _ | refine qc ?_ | refine qa ?_ _)); exact BK102.out) Try.underlying32 rfl (by kernel_rfl)) rfl ?_
     exact ⟨_, by first | rfl | (simp [qy, qx] <;> rfl) | (simp [*, qy, qx] <;> rfl), by (with_reducible repeat (first | apply Kd.R_alloc | apply Kd.R_drewN | apply Kd.R_drew)); exact Kd.R_mono (Kd.R_far (p := ⟨gb102, 3, none⟩) (Kd.R_far (p := ⟨gb102, 2, none⟩) (Kd.R_far (p := ⟨gb102, 1, none⟩) (Kd.R_far (p := ⟨gb102, 0, none⟩) (Kd.R_types HO_105000.out BK102.out (by decide)) (fun _ hk => hk.2) (.slice Ao66 x105000_1.length co66)) (fun _ hk => hk.2) (.int .i64 x105001_1)) (fun _ hk => hk.2) (.int .i64 x105002_1)) (fun _ hk => hk.2) (.int .i64 x105003_1)) (fun _ hk => trivial), by repeat (first | (with_reducible first | exact HB.out | apply qh | apply qg | apply qi | refine qe ?_ GE101.out | refine qe ?_ GE102.out | refine qe ?_ GE104.out) | exact HB.out)⟩
 ·replace c4 := Bool.eq_false_iff.mpr c4
  subst c4
  have H1 : (some (([] : List (S66)), 0, 0, 0, (-1))) = some (r1, r2, r3, r4, r5) := by rw [if_neg (show ¬ (false = true) by decide)] at H; exact H
  clear H
  have H := H1
  clear H1
  simp only [Option.some.injEq, Prod.mk.injEq] at H
  obtain ⟨rfl, rfl, rfl, rfl, rfl⟩ := H
  go_enter Try.func31, Try.ntmps31
  go_wp2_with (first | ((with_reducible refine gate_dst (N := 2) rfl ?_); refine box_event ?hg (N := 2) ?hd (cs := #[.slice A0_0 l0_0.length c0_0, .int .i64 a0_1, .int .i64 a0_2, .int .i64 a0_3]) (t := 32) ?hr ?_; (case hd => rfl); (case hg => rfl); (case hr => exact yq137); intro gb101 hg w69 hbox hb; have BK101 := Qz.mk (hbox); have GW101 := Qz.mk ((by rw [hg]; exact (qz yq136) : w.heap.size ≤ gb101)); have GE101 := GW101; replace HB := Qz.mk (qq yq136 hb); clear hb hbox hg) | ((with_reducible refine gate_dst (N := 4) rfl ?_); refine box_event ?hg (N := 4) ?hd (cs := #[.slice none 0 0, .int .i64 0, .int .i64 0, .int .i64 0]) (t := 32) ?hr ?_; (case hd => rfl); (case hg => rfl); (case hr => exact yq137); intro gb102 hg w70 hbox hb; have BK102 := Qz.mk (hbox); have GW102 := Qz.mk ((by rw [hg]; exact (qz yq134) : w.heap.size ≤ gb102)); have GE102 := GW102; replace HB := Qz.mk (qq yq134 hb); have NB101_102 := Qz.mk ((yq124 : gb101 ≠ gb102)); have NB102_101 := Qz.mk ((yq125 : gb102 ≠ gb101)); replace BK101 := bkbf31 BK101 yq119 hb; clear hb hbox hg; have hnb71 := NB101_102.out; have hnc71 := NB102_101.out; have hcz72_0 := (qd BK101.out 0).trans rfl; have hcz72_1 := (qd BK101.out 1).trans rfl; have hcz72_2 := (qd BK101.out 2).trans rfl; have hcz72_3 := (qd BK101.out 3).trans rfl; have hfz72_0 := qf BK101.out 0; have hfz72_1 := qf BK101.out 1; have hfz72_2 := qf BK101.out 2; have hfz72_3 := qf BK101.out 3) | ((with_reducible refine qu (f := 27) rfl ?_); refine goesL_ (some 12) rfl rfl Try.func27 (by kernel_rfl) rfl #[.agg #[.slice A0_0 l0_0.length c0_0, .int .i64 a0_1, .int .i64 a0_2, .int .i64 a0_3]] rfl yq126 ?_; (with_reducible refine (impl_VersionOk.calls _ _ l0_0 a0_1 a0_2 a0_3 false _ ?side1 ?side2 A3.out).mono ?_); (case side1 => repeat (first | exact (Kd.C_below HR0_0.out HB.out) | (with_reducible refine Kd.C_alloc ?_ _) | (with_reducible refine Kd.C_drewN ?_ _) | (with_reducible refine Kd.C_drew ?_))); (case side2 => exact HC0_0.out); rintro e w73 ⟨rfl, hb⟩; refine ⟨_, rfl, ?_⟩; replace BK101 := bkbf31 BK101 yq119 hb; replace BK102 := bkbf31 BK102 yq120 hb; replace HB := Qz.mk (qq yq133 hb); (try clear hb); (try clear hk); have hcz74_0 := (qd BK102.out 0).trans rfl; have hcz74_1 := (qd BK102.out 1).trans rfl; have hcz74_2 := (qd BK102.out 2).trans rfl; have hcz74_3 := (qd BK102.out 3).trans rfl; have hfz74_0 := qf BK102.out 0; have hfz74_1 := qf BK102.out 1; have hfz74_2 := qf BK102.out 2; have hfz74_3 := qf BK102.out 3))
  refine bodyPost_ret (results_ct rfl _ _ gb102 32 #[.slice none 0 0, .int .i64 0, .int .i64 0, .int .i64 0] (0, 0) _ rfl (by (with_reducible repeat (first | refine qb ?_ _ | refine qc ?_ | refine qa ?_ _)); refine qt (cs := #[.slice none 0 0, .int .i64 0, .int .i64 0, .int .i64 0]) ?_ 3 _ rfl; (with_reducible repeat (first | refine qb ?_ _ | refine qc ?_ | refine qa ?_ _)); refine qt (cs := #[.slice none 0 0, .int .i64 0, .int .i64 0, .int .i64 0]) ?_ 2 _ rfl; (with_reducible repeat (first | refine qb ?_ _ | refine qc ?_ | refine qa ?_ _)); refine qt (cs := #[.slice none 0 0, .int .i64 0, .int .i64 0, .int .i64 0]) ?_ 1 _ rfl; (with_reducible repeat (first | refine qb ?_ _ | refine qc ?_ | refine qa ?_ _)); refine qt (cs := #[.slice none 0 0, .int .i64 0, .int .i64 0, .int .i64 0]) ?_ 0 _ rfl; (with_reducible repeat (first | refine qb ?_ _ | refine qc ?_ | refine qa ?_ _)); exact BK102.out) Try.underlying32 rfl (by kernel_rfl)) rfl ?_
  exact ⟨_, by first | rfl | (simp [qy, qx] <;> rfl) | (simp [*, qy, qx] <;> rfl), by first | exact Kd.R_nil _ _ _ _ _ | exact Kd.N_nil _ _ _ _ _ | exact Kd.V_nil _ _ _ _ _ | exact Kd.Q_nil _ _ _ _ _ | exact Kd.S_nil _ _ _ _ _, by repeat (first | (with_reducible first | exact HB.out | apply qh | apply qg | apply qi | refine qe ?_ GE101.out | refine qe ?_ GE102.out) | exact HB.out)⟩
def laws_big.f (l0 : List Int) : Option (Bool) := some (decide ((l0.length : Int) > 1048576))
set_option maxHeartbeats 8000000 in
set_option maxRecDepth 100000 in
theorem laws_big.calls (A0 : Option Addr) (c0 : Nat) (l0 : List Int) (r : Bool) (w : World) (hr0 : Kd.C (Kd.int .u8) w A0 l0.length l0) (hc0 : l0.length ≤ c0) (h : laws_big.f l0 = some r) :
  Calls Try.prog 36 #[.slice A0 l0.length c0] w fun e w' => e = .returned (.bool r) ∧ Drawn0 w w' := by
 have HR0 := Qz.mk hr0
 have HC0 := Qz.mk hc0
 clear hr0 hc0
 have H : (some (decide ((l0.length : Int) > 1048576))) = some r := h
 clear h
 obtain rfl := Option.some.inj H
 go_enter Try.func36, Try.ntmps36
 go_wp2
 go_ret
 exact ⟨by first | rfl | (simp; done) | (simp [*]; done), by repeat (first | exact Drawn0.refl _ | apply Drawn0.step)⟩
theorem eqA66 (d : Nat) (w : World) (x0 y0 : Int) (x1 y1 : Int) (x2 y2 : ByteArray) (x3 y3 : ByteArray) (x4 y4 : Int) :
  (Op.equalIn (d + 2) 66 (.agg #[.int .i64 x0, .int .i64 x1, .string x2, .string x3, .int .i64 x4]) (.agg #[.int .i64 y0, .int .i64 y1, .string y2, .string y3, .int .i64 y4])).run Try.prog w = .ok (x0 == y0 && (x1 == y1 && (x2.toList == y2.toList && (x3.toList == y3.toList && (x4 == y4))))) w := by
 refine eqA_of Try.underlying66 (by kernel_rfl) ?_
 refine eqf_cons (by rfl) (by go_simp; rfl) (by go_simp; rfl) (by go_simp) ?_
 refine eqf_cons (by rfl) (by go_simp; rfl) (by go_simp; rfl) (by go_simp) ?_
 refine eqf_cons (by rfl) (by go_simp; rfl) (by go_simp; rfl) (by go_simp) ?_
 refine eqf_cons (by rfl) (by go_simp; rfl) (by go_simp; rfl) (by go_simp) ?_
 exact eqf_last (by rfl) (by go_simp; rfl) (by go_simp; rfl) (by go_simp)
end Go.Proofs.Ytcgejabkjljeeaa.P
end

section
namespace Go.Proofs.Ytcgejabkjljeeaa.P
open Go.RowKit Go.Proofs.YtcgejabkjljeeaaW.PrintWords Go.Proofs.YtcgejabkjljeeaaW.PrintLast Go.Proofs.YtcgejabkjljeeaaW.PrintMore
attribute [local go_sem] str_gtr str_leq str_geq max2_int min2_int max_two min_two qe1 qd1 max_four min_four
set_option linter.unusedVariables false
set_option linter.unusedSimpArgs false
attribute [local go_sem high] eqA66
theorem yq140 {P : Prop} (h : P := by first | (with_reducible assumption) | assumption) : P := h
def laws_sameMetas.l0 : Nat → List (S66) → List (S66) → Int → Option (Bool)
 | 0, _, _, _ => none
 | k + 1, x0, x1, x5 => if x5 < (x0.length : Int) then (if 0 ≤ x5 then (if x5 < (x1.length : Int) then (if (!(((qa1 x0 x5).f0) == ((qa1 x1 x5).f0)) || (!(((qa1 x0 x5).f1) == ((qa1 x1 x5).f1)) || (!((((qa1 x0 x5).f2).toList) == (((qa1 x1 x5).f2).toList)) || (!((((qa1 x0 x5).f3).toList) == (((qa1 x1 x5).f3).toList)) || (!(((qa1 x0 x5).f4) == ((qa1 x1 x5).f4))))))) = true then (some false) else (laws_sameMetas.l0 k x0 x1 (wrap64 (x5 + 1)))) else (none)) else (none)) else (some true)
def laws_sameMetas.f (k : Nat) (l0 : List (S66)) (l1 : List (S66)) : Option (Bool) := if (l0.length : Int) = (l1.length : Int) then (laws_sameMetas.l0 k l0 l1 0) else (some false)
set_option maxHeartbeats 8000000 in
set_option maxRecDepth 100000 in
theorem laws_sameMetas.calls (k : Nat) (A0 : Option Addr) (c0 : Nat) (l0 : List (S66)) (A1 : Option Addr) (c1 : Nat) (l1 : List (S66)) (r : Bool) (w : World) (hr0 : Kd.C k66 w A0 l0.length l0) (hc0 : l0.length ≤ c0) (hr1 : Kd.C k66 w A1 l1.length l1) (hc1 : l1.length ≤ c1) (h : laws_sameMetas.f k l0 l1 = some r) :
  Calls Try.prog 50 #[.slice A0 l0.length c0, .slice A1 l1.length c1] w fun e w' => e = .returned (.bool r) ∧ Drawn0 w w' := by
 have hu66 := Try.underlying66
 have HR0 := Qz.mk hr0
 have HC0 := Qz.mk hc0
 clear hr0 hc0
 have HR1 := Qz.mk hr1
 have HC1 := Qz.mk hc1
 clear hr1 hc1
 have H : (if (l0.length : Int) = (l1.length : Int) then (laws_sameMetas.l0 k l0 l1 0) else (some false)) = some r := h
 clear h
 by_cases c3 : (l0.length : Int) = (l1.length : Int)
 ·rw [if_pos c3] at H
  have c3b0 : ((l0.length : Int) == (l1.length : Int)) = true := beq_iff_eq.mpr c3
  have c3b1 : ((l0.length : Int) != (l1.length : Int)) = false := bne_eq_false_iff_eq.mpr c3
  have c3b2 : (l0.length == l1.length) = true := by first | simpa using c3 | (simp at c3 ⊢; omega)
  clear c3
  have H' := Qz.mk H
  clear H
  go_enter Try.func50, Try.ntmps50
  go_wp2
  repeat (go_quiet (fail); try go_wp2)
  go_loopg [5] k (fun kq v5 w' => ∃ (x5_1 : Int), v5 = .int .i64 x5_1 ∧ Qz (laws_sameMetas.l0 kq l0 l1 x5_1 = some r) ∧ Qz (kq ≤ k) ∧ Drawn0 w w')
  case atStart => exact ⟨(0), (by first | rfl | (simp; done) | (simp [*]; done)), H', ⟨Nat.le_refl _⟩, by repeat (first | exact Drawn0.refl _ | apply Drawn0.step)⟩
  case round =>
   clear H'
   (try clear c1);(try clear p2);(try clear c3);(try clear c3b0);(try clear c3b1);(try clear c3b2)
   obtain ⟨x5_1, rfl, HA, HK1, ⟨m1, rfl⟩⟩ := hrel
   cases gk with
   | zero => exact absurd HA.out (by simp [laws_sameMetas.l0])
   | succ k1 =>
    have H := HA.out
    clear HA
    simp only [laws_sameMetas.l0] at H
    by_cases c4 : x5_1 < (l0.length : Int)
    ·rw [if_pos c4] at H
     have c4b0 : decide (x5_1 < (l0.length : Int)) = true := decide_eq_true c4
     clear c4
     by_cases c5 : 0 ≤ x5_1
     ·rw [if_pos c5] at H
      have c5b0 : decide (0 ≤ x5_1) = true := decide_eq_true c5
      clear c5
      by_cases c6 : x5_1 < (l1.length : Int)
      ·rw [if_pos c6] at H
       have c6b0 : decide (x5_1 < (l1.length : Int)) = true := decide_eq_true c6
       clear c6
       by_cases c7 : (!(((qa1 l0 x5_1).f0) == ((qa1 l1 x5_1).f0)) || (!(((qa1 l0 x5_1).f1) == ((qa1 l1 x5_1).f1)) || (!((((qa1 l0 x5_1).f2).toList) == (((qa1 l1 x5_1).f2).toList)) || (!((((qa1 l0 x5_1).f3).toList) == (((qa1 l1 x5_1).f3).toList)) || (!(((qa1 l0 x5_1).f4) == ((qa1 l1 x5_1).f4))))))) = true
       ·rw [if_pos c7] at H
        have c7b0 : (!(((qa1 l0 x5_1).f0) == ((qa1 l1 x5_1).f0)) || (!(((qa1 l0 x5_1).f1) == ((qa1 l1 x5_1).f1)) || (!((((qa1 l0 x5_1).f2).toList) == (((qa1 l1 x5_1).f2).toList)) || (!((((qa1 l0 x5_1).f3).toList) == (((qa1 l1 x5_1).f3).toList)) || (!(((qa1 l0 x5_1).f4) == ((qa1 l1 x5_1).f4))))))) = true := c7
        clear c7
        obtain rfl := Option.some.inj H
        have p101 : 0 ≤ (x5_1 : Int) := of_decide_eq_true yq140
        have q101 : x5_1 < (l0.length : Int) := of_decide_eq_true yq140
        obtain ⟨ad101, e101, hx101_0, hx101_1, hx101_2, hx101_3, hx101_4⟩ := at_T66 HR0.out x5_1 p101 q101
        cases e101
        replace p101 := eq_true p101
        replace q101 := eq_true q101
        have p102 : 0 ≤ (x5_1 : Int) := of_decide_eq_true yq140
        have q102 : x5_1 < (l1.length : Int) := of_decide_eq_true yq140
        obtain ⟨ad102, e102, hx102_0, hx102_1, hx102_2, hx102_3, hx102_4⟩ := at_T66 HR1.out x5_1 p102 q102
        cases e102
        replace p102 := eq_true p102
        replace q102 := eq_true q102
        go_wp2
        repeat (go_quiet (fail); try go_wp2)
        go_ret
        exact ⟨by first | rfl | (simp; done) | (simp [*]; done), by repeat (first | exact Drawn0.refl _ | apply Drawn0.step)⟩
       ·rw [if_neg c7] at H
        have c7b0 : (!(((qa1 l0 x5_1).f0) == ((qa1 l1 x5_1).f0)) || (!(((qa1 l0 x5_1).f1) == ((qa1 l1 x5_1).f1)) || (!((((qa1 l0 x5_1).f2).toList) == (((qa1 l1 x5_1).f2).toList)) || (!((((qa1 l0 x5_1).f3).toList) == (((qa1 l1 x5_1).f3).toList)) || (!(((qa1 l0 x5_1).f4) == ((qa1 l1 x5_1).f4))))))) = false := by simpa using c7
        clear c7
        have H' := Qz.mk H
        clear H
        have p101 : 0 ≤ (x5_1 : Int) := of_decide_eq_true yq140
        have q101 : x5_1 < (l0.length : Int) := of_decide_eq_true yq140
        obtain ⟨ad101, e101, hx101_0, hx101_1, hx101_2, hx101_3, hx101_4⟩ := at_T66 HR0.out x5_1 p101 q101
        cases e101
        replace p101 := eq_true p101
        replace q101 := eq_true q101
        have p102 : 0 ≤ (x5_1 : Int) := of_decide_eq_true yq140
        have q102 : x5_1 < (l1.length : Int) := of_decide_eq_true yq140
        obtain ⟨ad102, e102, hx102_0, hx102_1, hx102_2, hx102_3, hx102_4⟩ := at_T66 HR1.out x5_1 p102 q102
        cases e102
        replace p102 := eq_true p102
        replace q102 := eq_true q102
        go_wp2
        repeat (go_quiet (fail); try go_wp2)
        go_roundg k1
        case measure => have := HK1.out; omega
        case rel => exact ⟨(wrap64 (x5_1 + 1)), (by first | rfl | (simp; done) | (simp [*]; done)), H', ⟨by have := HK1.out; omega⟩, by repeat (first | exact Drawn0.refl _ | apply Drawn0.step)⟩
      ·rw [if_neg c6] at H
       exact absurd H (by simp)
     ·rw [if_neg c5] at H
      exact absurd H (by simp)
    ·rw [if_neg c4] at H
     have c4b0 : decide (x5_1 < (l0.length : Int)) = false := decide_eq_false c4
     clear c4
     obtain rfl := Option.some.inj H
     go_wp2
     repeat (go_quiet (fail); try go_wp2)
     go_ret
     exact ⟨by first | rfl | (simp; done) | (simp [*]; done), by repeat (first | exact Drawn0.refl _ | apply Drawn0.step)⟩
 ·rw [if_neg c3] at H
  have c3b0 : ((l0.length : Int) == (l1.length : Int)) = false := beq_eq_false_iff_ne.mpr c3
  have c3b1 : ((l0.length : Int) != (l1.length : Int)) = true := bne_iff_ne.mpr c3
  have c3b2 : (l0.length == l1.length) = false := by first | simpa using c3 | (simp at c3 ⊢; omega)
  obtain rfl := Option.some.inj H
  go_enter Try.func50, Try.ntmps50
  go_wp2
  repeat (go_quiet (fail); try go_wp2)
  go_ret
  exact ⟨by first | rfl | (simp; done) | (simp [*]; done), by repeat (first | exact Drawn0.refl _ | apply Drawn0.step)⟩
theorem yq141 {P : Prop} (h : P := by (with_reducible repeat (first | refine qb ?_ _ | refine qc ?_ | refine qa ?_ _)); exact BK111.out) : P := h
theorem yq142 {P : Prop} (h : P := by (with_reducible repeat (first | refine qb ?_ _ | refine qc ?_ | refine qa ?_ _)); exact BK119.out) : P := h
theorem yq143 {P : Prop} (h : P := by (with_reducible repeat (first | refine qb ?_ _ | refine qc ?_ | refine qa ?_ _)); exact BK127.out) : P := h
theorem yq144 {P : Prop} (h : P := by repeat (first | (with_reducible first | exact HB.out | apply qh | apply qg | apply qi | refine qe ?_ GE111.out | refine qe ?_ GE119.out | refine qe ?_ GE127.out | refine qe ?_ GE140.out) | exact HB.out)) : P := h
theorem yq145 {P : Prop} (h : P := by repeat (first | (with_reducible exact HR132.out) | (with_reducible refine Kd.C_alloc ?_ _) | (with_reducible refine Kd.C_drewN ?_ _) | (with_reducible refine Kd.C_drew ?_) | exact HR132.out)) : P := h
theorem yq146 {P : Prop} (h : P := by repeat (first | (with_reducible first | exact HB.out | apply qh | apply qg | apply qi | refine qe ?_ GE111.out | refine qe ?_ GE119.out | refine qe ?_ GE127.out) | exact HB.out)) : P := h
theorem yq147 {P : Prop} (h : P := by (try simp only [List.map_toArray, List.map_cons, List.map_nil]); first | done | rfl | (simp only [List.length_drop, List.length_take]; rfl) | (rw [IntWalk.u64_in _ (by omega)] <;> rfl)) : P := h
theorem yq148 {P : Prop} (h : P := by (with_reducible repeat (first | apply Kd.R_alloc | apply Kd.R_drewN | apply Kd.R_drew)); exact HO_128000.out) : P := h
theorem yq149 {P : Prop} (h : P := by (with_reducible repeat (first | apply Kd.R_alloc | apply Kd.R_drewN | apply Kd.R_drew)); exact HO_120000.out) : P := h
theorem yq150 {P : Prop} (h : P := by (with_reducible repeat (first | apply Kd.R_alloc | apply Kd.R_drewN | apply Kd.R_drew)); exact HO_112000.out) : P := h
theorem yq151 {P : Prop} (h : P := by (with_reducible repeat (first | refine qb ?_ _ | refine qc ?_ | refine qa ?_ _)); exact BK140.out) : P := h
theorem yq152 {P : Prop} (h : P := by (with_reducible repeat (first | apply Kd.S_alloc | apply Kd.S_drewN | apply Kd.S_drew)); exact HO_4.out) : P := h
theorem yq153 {P : Prop} (h : P := by rw [hg]; exact Nat.ne_of_lt (qv (g := gb111) (o := .cells #[.slice Ao10 t102.length co10, .int .i64 t105, .int .i64 t106, .int .i64 t107] 32 (0, 0)) yq141)) : P := h
theorem yq154 {P : Prop} (h : P := by rw [hg]; exact Nat.ne_of_gt (qv (g := gb111) (o := .cells #[.slice Ao10 t102.length co10, .int .i64 t105, .int .i64 t106, .int .i64 t107] 32 (0, 0)) yq141)) : P := h
theorem yq155 {P : Prop} (h : P := by repeat (first | (with_reducible exact HR145.out) | (with_reducible refine Kd.C_alloc ?_ _) | (with_reducible refine Kd.C_drewN ?_ _) | (with_reducible refine Kd.C_drew ?_) | exact HR145.out)) : P := h
theorem yq156 {P : Prop} (h : P := by (with_reducible repeat (first | apply Kd.R_alloc | apply Kd.R_drewN | apply Kd.R_drew)); exact (Kd.R_mono (Kd.R_far (p := ⟨gb119, 3, none⟩) (Kd.R_far (p := ⟨gb119, 2, none⟩) (Kd.R_far (p := ⟨gb119, 1, none⟩) (Kd.R_far (p := ⟨gb119, 0, none⟩) (Kd.R_types HO104.out BK119.out (by decide)) (fun _ hk => hk.2) (.slice Ao15 t112.length co15)) (fun _ hk => hk.2) (.int .i64 t115)) (fun _ hk => hk.2) (.int .i64 t116)) (fun _ hk => hk.2) (.int .i64 t117)) (fun _ h_ => h_.1))) : P := h
theorem yq157 {P : Prop} (h : P := by (with_reducible repeat (first | apply Kd.R_alloc | apply Kd.R_drewN | apply Kd.R_drew)); exact (Kd.R_mono (Kd.R_far (p := ⟨gb111, 3, none⟩) (Kd.R_far (p := ⟨gb111, 2, none⟩) (Kd.R_far (p := ⟨gb111, 1, none⟩) (Kd.R_far (p := ⟨gb111, 0, none⟩) (Kd.R_types HO104.out BK111.out (by decide)) (fun _ hk => hk.2) (.slice Ao10 t102.length co10)) (fun _ hk => hk.2) (.int .i64 t105)) (fun _ hk => hk.2) (.int .i64 t106)) (fun _ hk => hk.2) (.int .i64 t107)) (fun _ h_ => h_.1))) : P := h
theorem yq158 {P : Prop} (h : P := by rw [hg]; exact Nat.ne_of_lt (qv (g := gb119) (o := .cells #[.slice Ao15 t112.length co15, .int .i64 t115, .int .i64 t116, .int .i64 t117] 32 (0, 0)) yq142)) : P := h
theorem yq159 {P : Prop} (h : P := by rw [hg]; exact Nat.ne_of_gt (qv (g := gb119) (o := .cells #[.slice Ao15 t112.length co15, .int .i64 t115, .int .i64 t116, .int .i64 t117] 32 (0, 0)) yq142)) : P := h
theorem yq160 {P : Prop} (h : P := by rw [hg]; exact Nat.ne_of_lt (qv (g := gb127) (o := .cells #[.slice Ao21 t120.length co21, .int .i64 t123, .int .i64 t124, .int .i64 t125] 32 (0, 0)) yq143)) : P := h
theorem yq161 {P : Prop} (h : P := by rw [hg]; exact Nat.ne_of_gt (qv (g := gb127) (o := .cells #[.slice Ao21 t120.length co21, .int .i64 t123, .int .i64 t124, .int .i64 t125] 32 (0, 0)) yq143)) : P := h
theorem yq162 {P : Prop} (h : P := by refine (Kd.R_reads' (e := 66) (base := w.heap.size) (ok := fun k_ => ((True ∧ some k_ ≠ (.slice Ao10 t102.length co10 : Value).ownBlock) ∧ some k_ ≠ (.slice Ao21 t120.length co21 : Value).ownBlock)) (n := t112.length) (c := co15) ?_).2.2; exact (by (with_reducible repeat (first | apply Kd.R_alloc | apply Kd.R_drewN | apply Kd.R_drew)); exact (Kd.R_mono (Kd.R_far (p := ⟨gb127, 3, none⟩) (Kd.R_far (p := ⟨gb127, 2, none⟩) (Kd.R_far (p := ⟨gb127, 1, none⟩) (Kd.R_far (p := ⟨gb127, 0, none⟩) (Kd.R_types HO114.out BK127.out (by decide)) (fun _ hk => hk.2) (.slice Ao21 t120.length co21)) (fun _ hk => hk.2) (.int .i64 t123)) (fun _ hk => hk.2) (.int .i64 t124)) (fun _ hk => hk.2) (.int .i64 t125)) (fun _ h_ => h_.1)))) : P := h
theorem yq163 {P : Prop} (h : P := by refine (Kd.R_reads' (e := 66) (base := w.heap.size) (ok := fun k_ => ((True ∧ some k_ ≠ (.slice Ao10 t102.length co10 : Value).ownBlock) ∧ some k_ ≠ (.slice Ao15 t112.length co15 : Value).ownBlock)) (n := t120.length) (c := co21) ?_).2.2; exact (by (with_reducible repeat (first | apply Kd.R_alloc | apply Kd.R_drewN | apply Kd.R_drew)); exact (Kd.R_mono (Kd.R_far (p := ⟨gb127, 3, none⟩) (Kd.R_far (p := ⟨gb127, 2, none⟩) (Kd.R_far (p := ⟨gb127, 1, none⟩) (Kd.R_far (p := ⟨gb127, 0, none⟩) (Kd.R_types HO122.out BK127.out (by decide)) (fun _ hk => hk.2) (.slice Ao21 t120.length co21)) (fun _ hk => hk.2) (.int .i64 t123)) (fun _ hk => hk.2) (.int .i64 t124)) (fun _ hk => hk.2) (.int .i64 t125)) (fun _ h_ => h_.1)))) : P := h
theorem yq164 {P : Prop} (h : P := by (with_reducible repeat (first | apply Kd.R_alloc | apply Kd.R_drewN | apply Kd.R_drew)); exact HO135.out) : P := h
theorem yq165 {P : Prop} (h : P := by repeat (first | (with_reducible first | exact HB.out | apply qh | apply qg | apply qi | refine qe ?_ GE111.out | refine qe ?_ GE119.out | refine qe ?_ GE127.out | refine qe ?_ GE140.out | refine qe ?_ GE153.out) | exact HB.out)) : P := h
theorem yq166 {P : Prop} (h : P := by repeat (first | exact (Kd.R_reads' HO_112000.out).2.2 | (with_reducible refine Kd.C_alloc ?_ _) | (with_reducible refine Kd.C_drewN ?_ _) | (with_reducible refine Kd.C_drew ?_))) : P := h
theorem yq167 {P : Prop} (h : P := by (with_reducible repeat (first | apply Kd.S_alloc | apply Kd.S_drewN | apply Kd.S_drew)); exact Kd.S_mono HO_4.out (fun _ hk => ⟨hk.2, ⟨hk.1.1, ⟨hk.1.2.1, hk.1.2.2⟩⟩⟩)) : P := h
theorem yq168 {P : Prop} (h : P := by (with_reducible repeat (first | apply Kd.S_alloc | apply Kd.S_drewN | apply Kd.S_drew)); exact (Kd.S_mono (Kd.S_far (p := ⟨gb119, 3, none⟩) (Kd.S_far (p := ⟨gb119, 2, none⟩) (Kd.S_far (p := ⟨gb119, 1, none⟩) (Kd.S_far (p := ⟨gb119, 0, none⟩) (Kd.S_types HO110.out BK119.out (by decide)) (fun _ hk => hk.2) (.slice Ao15 t112.length co15)) (fun _ hk => hk.2) (.int .i64 t115)) (fun _ hk => hk.2) (.int .i64 t116)) (fun _ hk => hk.2) (.int .i64 t117)) (fun _ h_ => h_.1))) : P := h
theorem yq169 {P : Prop} (h : P := by (with_reducible repeat (first | apply Kd.S_alloc | apply Kd.S_drewN | apply Kd.S_drew)); exact (Kd.S_mono (Kd.S_far (p := ⟨gb111, 3, none⟩) (Kd.S_far (p := ⟨gb111, 2, none⟩) (Kd.S_far (p := ⟨gb111, 1, none⟩) (Kd.S_far (p := ⟨gb111, 0, none⟩) (Kd.S_types HO110.out BK111.out (by decide)) (fun _ hk => hk.2) (.slice Ao10 t102.length co10)) (fun _ hk => hk.2) (.int .i64 t105)) (fun _ hk => hk.2) (.int .i64 t106)) (fun _ hk => hk.2) (.int .i64 t107)) (fun _ h_ => h_.1))) : P := h
theorem yq170 {P : Prop} (h : P := by (with_reducible repeat (first | apply Kd.R_alloc | apply Kd.R_drewN | apply Kd.R_drew)); exact (Kd.R_mono (Kd.R_far (p := ⟨gb119, 3, none⟩) (Kd.R_far (p := ⟨gb119, 2, none⟩) (Kd.R_far (p := ⟨gb119, 1, none⟩) (Kd.R_far (p := ⟨gb119, 0, none⟩) (Kd.R_types HO114.out BK119.out (by decide)) (fun _ hk => hk.2) (.slice Ao15 t112.length co15)) (fun _ hk => hk.2) (.int .i64 t115)) (fun _ hk => hk.2) (.int .i64 t116)) (fun _ hk => hk.2) (.int .i64 t117)) (fun _ h_ => h_.1))) : P := h
theorem yq171 {P : Prop} (h : P := by (with_reducible repeat (first | apply Kd.R_alloc | apply Kd.R_drewN | apply Kd.R_drew)); exact Kd.R_mono HO_128000.out (fun _ hk => ⟨hk.2, ⟨hk.1.1, hk.1.2⟩⟩)) : P := h
theorem yq172 {P : Prop} (h : P := by (with_reducible repeat (first | apply Kd.R_alloc | apply Kd.R_drewN | apply Kd.R_drew)); exact Kd.R_mono HO_120000.out (fun _ hk => ⟨hk.2, ⟨hk.1.1, hk.1.2⟩⟩)) : P := h
theorem yq173 {P : Prop} (h : P := by (with_reducible repeat (first | apply Kd.R_alloc | apply Kd.R_drewN | apply Kd.R_drew)); exact Kd.R_mono HO_112000.out (fun _ hk => ⟨hk.2, ⟨hk.1.1, hk.1.2⟩⟩)) : P := h
theorem yq174 {P : Prop} (h : P := by (with_reducible repeat (first | apply Kd.R_alloc | apply Kd.R_drewN | apply Kd.R_drew)); exact Kd.R_mono HO135.out (fun _ hk => ⟨hk.1.1.2, ⟨hk.1.2, hk.2⟩⟩)) : P := h
theorem yq175 {P : Prop} (h : P := by repeat (first | (with_reducible first | exact HB.out | apply qh | apply qg | apply qi | refine qe ?_ GE111.out | refine qe ?_ GE119.out) | exact HB.out)) : P := h
theorem yq176 {P : Prop} (h : P := by repeat (first | exact yq145 | (with_reducible refine Kd.C_alloc ?_ _) | (with_reducible refine Kd.C_drewN ?_ _) | (with_reducible refine Kd.C_drew ?_))) : P := h
theorem yq177 {P : Prop} (h : P := by repeat (first | (with_reducible first | exact HB.out | apply qh | apply qg | apply qi) | exact HB.out)) : P := h
theorem yq178 {P : Prop} (h : P := by repeat (first | (with_reducible first | exact HB.out | apply qh | apply qg | apply qi | refine qe ?_ GE111.out) | exact HB.out)) : P := h
theorem yq179 {P : Prop} (h : P := by first | (with_reducible assumption) | assumption) : P := h
theorem yq180 {P : Prop} (h : P := by repeat (first | exact HR0.out | (with_reducible refine Kd.C_alloc ?_ _) | (with_reducible refine Kd.C_drewN ?_ _) | (with_reducible refine Kd.C_drew ?_))) : P := h
theorem yq181 {P : Prop} (h : P := by first | (go_simp; done) | (go_simp; rfl)) : P := h
theorem bkbf13 {w0 W W2 : World} {g : Nat} {o : Obj} (_ : Qz (w0.heap[g]? = some o)) (h : W.heap[g]? = some o) (hb : Below W.heap.size W W2) : Qz (W2.heap[g]? = some o) := Qz.mk (qb1 h hb)
def laws_FnReplayed.j0 : Nat → List Int → List (S37) → Int → Int → Bool → List (S66) → Int → Int → Int → List (S66) → Int → Int → Int → Option (Bool)
 | 0, _, _, _, _, _, _, _, _, _, _, _, _, _ => none
 | k + 1, x0, x4, x6, x8, x47, x112000, x112001, x112002, x112003, x120000, x120001, x120002, x120003 => if x47 = true then (some (x6 == x8)) else (if (wrap64 ((x4.length : Int) + 1)) = 0 then (none) else (if 0 ≤ ((x0.length : Int) % (wrap64 ((x4.length : Int) + 1))) then (if ((x0.length : Int) % (wrap64 ((x4.length : Int) + 1))) ≤ (x4.length : Int) then ((impl_Replay.f k x112000 x112001 x112002 x112003 (x4.take (((x0.length : Int) % (wrap64 ((x4.length : Int) + 1))) : Int).toNat)).bind fun bt133 => (if bt133.2.2.2.2 < ((x0.length : Int) % (wrap64 ((x4.length : Int) + 1))) then (if bt133.2.2.2.2 = x6 then ((laws_sameMetas.f k bt133.1 x120000).bind fun t141 => (some t141)) else (none)) else ((impl_Replay.f k bt133.1 bt133.2.1 bt133.2.2.1 bt133.2.2.2.1 (x4.drop (((x0.length : Int) % (wrap64 ((x4.length : Int) + 1))) : Int).toNat)).bind fun bt146 => (if (wrap64 (bt133.2.2.2.2 + bt146.2.2.2.2)) = x6 then ((laws_sameMetas.f k bt146.1 x120000).bind fun t154 => (if t154 = true then (if bt146.2.1 = x120001 then (if bt146.2.2.1 = x120002 then (some (bt146.2.2.2.1 == x120003)) else (none)) else (none)) else (none))) else (none))))) else (none)) else (none)))
def laws_FnReplayed.f (k : Nat) (l0 : List Int) : Option (Bool) := (laws_big.f l0).bind fun t101 => (if t101 = true then (some true) else ((spec_DrawReplay.f k l0).bind fun bt102 => ((impl_Replay.f k bt102.1 bt102.2.1 bt102.2.2.1 bt102.2.2.2.1 bt102.2.2.2.2).bind fun bt112 => ((spec_Replay.f k bt102.1 bt102.2.1 bt102.2.2.1 bt102.2.2.2.1 bt102.2.2.2.2).bind fun bt120 => (if bt112.2.2.2.2 = bt120.2.2.2.2 then ((laws_sameMetas.f k bt112.1 bt120.1).bind fun t128 => (if t128 = true then (laws_FnReplayed.j0 k l0 bt102.2.2.2.2 bt112.2.2.2.2 bt120.2.2.2.2 (decide (bt112.2.2.2.2 < 0)) bt102.1 bt102.2.1 bt102.2.2.1 bt102.2.2.2.1 bt112.1 bt112.2.1 bt112.2.2.1 bt112.2.2.2.1) else (laws_FnReplayed.j0 k l0 bt102.2.2.2.2 bt112.2.2.2.2 bt120.2.2.2.2 true bt102.1 bt102.2.1 bt102.2.2.1 bt102.2.2.2.1 bt112.1 bt112.2.1 bt112.2.2.1 bt112.2.2.2.1))) else (laws_FnReplayed.j0 k l0 bt102.2.2.2.2 bt112.2.2.2.2 bt120.2.2.2.2 true bt102.1 bt102.2.1 bt102.2.2.1 bt102.2.2.2.1 bt112.1 bt112.2.1 bt112.2.2.1 bt112.2.2.2.1))))))
def laws_FnReplayed.T9 : Bool × List (List Nat × List Nat) := (true, [([], []), ([], []), ([], []), ([1, 2], [1, 2]), ([0, 3], [0, 3]), ([4], [4]), ([5], [5]), ([5], [5]), ([], []), ([8, 6, 4, 0, 1, 2, 3, 4, 5, 6, 8], [6, 8]), ([7, 9, 0, 1, 2, 3, 4, 5, 6, 7, 8, 9], [7])])
def laws_FnReplayed.B9 : List Nat := [0, 0, 0, 6, 15, 31, 63, 63, 0, 383, 1023]
theorem laws_FnReplayed.tab9 : rtab .any (opsOf Try.f13 9) = laws_FnReplayed.T9 := by kernel_rfl
theorem laws_FnReplayed.bits9 : waitsOk laws_FnReplayed.T9.2 laws_FnReplayed.B9 = true := by kernel_rfl
def laws_FnReplayed.T12 : Bool × List (List Nat × List Nat) := (true, [([], []), ([], []), ([], []), ([1, 2], [1, 2]), ([0, 3], [0, 3]), ([4], [4]), ([5], [5]), ([5], [5]), ([], []), ([8, 6, 4, 0, 1, 2, 3, 4, 5, 6, 8], [6, 8]), ([7, 9, 0, 1, 2, 3, 4, 5, 6, 7, 8, 9], [7])])
def laws_FnReplayed.B12 : List Nat := [0, 0, 0, 6, 15, 31, 63, 63, 0, 383, 1023]
theorem laws_FnReplayed.tab12 : rtab .any (opsOf Try.f13 12) = laws_FnReplayed.T12 := by kernel_rfl
theorem laws_FnReplayed.bits12 : waitsOk laws_FnReplayed.T12.2 laws_FnReplayed.B12 = true := by kernel_rfl
set_option maxHeartbeats 8000000 in
set_option maxRecDepth 100000 in
theorem laws_FnReplayed.calls (k : Nat) (A0 : Option Addr) (c0 : Nat) (l0 : List Int) (r : Bool) (w : World) (hr0 : Kd.C (Kd.int .u8) w A0 l0.length l0) (hc0 : l0.length ≤ c0) (h : laws_FnReplayed.f k l0 = some r) :
  Calls Try.prog 13 #[.slice A0 l0.length c0] w fun e w' => e = .returned (.bool r) ∧ Below w.heap.size w w' := by
 have hu32 := Try.underlying32
 have HR0 := Qz.mk hr0
 have HC0 := Qz.mk hc0
 clear hr0 hc0
 have HB := Qz.mk (Below.refl w.heap.size w)
 have H : ((laws_big.f l0).bind fun t101 => (if t101 = true then (some true) else ((spec_DrawReplay.f k l0).bind fun bt102 => ((impl_Replay.f k bt102.1 bt102.2.1 bt102.2.2.1 bt102.2.2.2.1 bt102.2.2.2.2).bind fun bt112 => ((spec_Replay.f k bt102.1 bt102.2.1 bt102.2.2.1 bt102.2.2.2.1 bt102.2.2.2.2).bind fun bt120 => (if bt112.2.2.2.2 = bt120.2.2.2.2 then ((laws_sameMetas.f k bt112.1 bt120.1).bind fun t128 => (if t128 = true then (laws_FnReplayed.j0 k l0 bt102.2.2.2.2 bt112.2.2.2.2 bt120.2.2.2.2 (decide (bt112.2.2.2.2 < 0)) bt102.1 bt102.2.1 bt102.2.2.1 bt102.2.2.2.1 bt112.1 bt112.2.1 bt112.2.2.1 bt112.2.2.2.1) else (laws_FnReplayed.j0 k l0 bt102.2.2.2.2 bt112.2.2.2.2 bt120.2.2.2.2 true bt102.1 bt102.2.1 bt102.2.2.1 bt102.2.2.2.1 bt112.1 bt112.2.1 bt112.2.2.1 bt112.2.2.2.1))) else (laws_FnReplayed.j0 k l0 bt102.2.2.2.2 bt112.2.2.2.2 bt120.2.2.2.2 true bt102.1 bt102.2.1 bt102.2.2.1 bt102.2.2.2.1 bt112.1 bt112.2.1 bt112.2.2.1 bt112.2.2.2.1))))))) = some r := h
 clear h
 replace H := Option.bind_eq_some_iff.mp H
 obtain ⟨t101, A20, H⟩ := H
 replace H : (if t101 = true then (some true) else ((spec_DrawReplay.f k l0).bind fun bt102 => ((impl_Replay.f k bt102.1 bt102.2.1 bt102.2.2.1 bt102.2.2.2.1 bt102.2.2.2.2).bind fun bt112 => ((spec_Replay.f k bt102.1 bt102.2.1 bt102.2.2.1 bt102.2.2.2.1 bt102.2.2.2.2).bind fun bt120 => (if bt112.2.2.2.2 = bt120.2.2.2.2 then ((laws_sameMetas.f k bt112.1 bt120.1).bind fun t128 => (if t128 = true then (laws_FnReplayed.j0 k l0 bt102.2.2.2.2 bt112.2.2.2.2 bt120.2.2.2.2 (decide (bt112.2.2.2.2 < 0)) bt102.1 bt102.2.1 bt102.2.2.1 bt102.2.2.2.1 bt112.1 bt112.2.1 bt112.2.2.1 bt112.2.2.2.1) else (laws_FnReplayed.j0 k l0 bt102.2.2.2.2 bt112.2.2.2.2 bt120.2.2.2.2 true bt102.1 bt102.2.1 bt102.2.2.1 bt102.2.2.2.1 bt112.1 bt112.2.1 bt112.2.2.1 bt112.2.2.2.1))) else (laws_FnReplayed.j0 k l0 bt102.2.2.2.2 bt112.2.2.2.2 bt120.2.2.2.2 true bt102.1 bt102.2.1 bt102.2.2.1 bt102.2.2.2.1 bt112.1 bt112.2.1 bt112.2.2.1 bt112.2.2.2.1)))))) = some r := H
 have A2 := Qz.mk A20
 clear A20
 by_cases c3 : t101 = true
 ·subst c3
  have H1 : (some true) = some r := by rw [if_pos rfl] at H; exact H
  clear H
  have H := H1
  clear H1
  obtain rfl := Option.some.inj H
  go_enter Try.func13, Try.ntmps13
  go_wp2_with (first | ((with_reducible refine qu (f := 36) rfl ?_); refine goesL_ (some 15) rfl rfl Try.func36 (by kernel_rfl) rfl #[.slice A0 l0.length c0] rfl yq147 ?_; (with_reducible refine (laws_big.calls _ _ l0 true _ ?side1 ?side2 A2.out).mono ?_); (case side1 => exact yq180); (case side2 => exact HC0.out); rintro e w' ⟨rfl, ⟨nd, rfl⟩⟩; refine ⟨_, rfl, ?_⟩))
  go_ret
  exact ⟨by first | rfl | (simp [qy, qx] <;> rfl) | (simp [*, qy, qx] <;> rfl), by repeat (first | (with_reducible first | exact HB.out | apply qh | apply qg | apply qi) | exact HB.out)⟩
 ·replace c3 := Bool.eq_false_iff.mpr c3
  subst c3
  have H1 : ((spec_DrawReplay.f k l0).bind fun bt102 => ((impl_Replay.f k bt102.1 bt102.2.1 bt102.2.2.1 bt102.2.2.2.1 bt102.2.2.2.2).bind fun bt112 => ((spec_Replay.f k bt102.1 bt102.2.1 bt102.2.2.1 bt102.2.2.2.1 bt102.2.2.2.2).bind fun bt120 => (if bt112.2.2.2.2 = bt120.2.2.2.2 then ((laws_sameMetas.f k bt112.1 bt120.1).bind fun t128 => (if t128 = true then (laws_FnReplayed.j0 k l0 bt102.2.2.2.2 bt112.2.2.2.2 bt120.2.2.2.2 (decide (bt112.2.2.2.2 < 0)) bt102.1 bt102.2.1 bt102.2.2.1 bt102.2.2.2.1 bt112.1 bt112.2.1 bt112.2.2.1 bt112.2.2.2.1) else (laws_FnReplayed.j0 k l0 bt102.2.2.2.2 bt112.2.2.2.2 bt120.2.2.2.2 true bt102.1 bt102.2.1 bt102.2.2.1 bt102.2.2.2.1 bt112.1 bt112.2.1 bt112.2.2.1 bt112.2.2.2.1))) else (laws_FnReplayed.j0 k l0 bt102.2.2.2.2 bt112.2.2.2.2 bt120.2.2.2.2 true bt102.1 bt102.2.1 bt102.2.2.1 bt102.2.2.2.1 bt112.1 bt112.2.1 bt112.2.2.1 bt112.2.2.2.1))))) = some r := by rw [if_neg (show ¬ (false = true) by decide)] at H; exact H
  clear H
  have H := H1
  clear H1
  replace H := Option.bind_eq_some_iff.mp H
  obtain ⟨⟨t102, t105, t106, t107, t108⟩, A40, H⟩ := H
  replace H : ((impl_Replay.f k t102 t105 t106 t107 t108).bind fun bt112 => ((spec_Replay.f k t102 t105 t106 t107 t108).bind fun bt120 => (if bt112.2.2.2.2 = bt120.2.2.2.2 then ((laws_sameMetas.f k bt112.1 bt120.1).bind fun t128 => (if t128 = true then (laws_FnReplayed.j0 k l0 t108 bt112.2.2.2.2 bt120.2.2.2.2 (decide (bt112.2.2.2.2 < 0)) t102 t105 t106 t107 bt112.1 bt112.2.1 bt112.2.2.1 bt112.2.2.2.1) else (laws_FnReplayed.j0 k l0 t108 bt112.2.2.2.2 bt120.2.2.2.2 true t102 t105 t106 t107 bt112.1 bt112.2.1 bt112.2.2.1 bt112.2.2.2.1))) else (laws_FnReplayed.j0 k l0 t108 bt112.2.2.2.2 bt120.2.2.2.2 true t102 t105 t106 t107 bt112.1 bt112.2.1 bt112.2.2.1 bt112.2.2.2.1)))) = some r := H
  have A4 := Qz.mk A40
  clear A40
  replace H := Option.bind_eq_some_iff.mp H
  obtain ⟨⟨t112, t115, t116, t117, t118⟩, A50, H⟩ := H
  replace H : ((spec_Replay.f k t102 t105 t106 t107 t108).bind fun bt120 => (if t118 = bt120.2.2.2.2 then ((laws_sameMetas.f k t112 bt120.1).bind fun t128 => (if t128 = true then (laws_FnReplayed.j0 k l0 t108 t118 bt120.2.2.2.2 (decide (t118 < 0)) t102 t105 t106 t107 t112 t115 t116 t117) else (laws_FnReplayed.j0 k l0 t108 t118 bt120.2.2.2.2 true t102 t105 t106 t107 t112 t115 t116 t117))) else (laws_FnReplayed.j0 k l0 t108 t118 bt120.2.2.2.2 true t102 t105 t106 t107 t112 t115 t116 t117))) = some r := H
  have A5 := Qz.mk A50
  clear A50
  replace H := Option.bind_eq_some_iff.mp H
  obtain ⟨⟨t120, t123, t124, t125, t126⟩, A60, H⟩ := H
  replace H : (if t118 = t126 then ((laws_sameMetas.f k t112 t120).bind fun t128 => (if t128 = true then (laws_FnReplayed.j0 k l0 t108 t118 t126 (decide (t118 < 0)) t102 t105 t106 t107 t112 t115 t116 t117) else (laws_FnReplayed.j0 k l0 t108 t118 t126 true t102 t105 t106 t107 t112 t115 t116 t117))) else (laws_FnReplayed.j0 k l0 t108 t118 t126 true t102 t105 t106 t107 t112 t115 t116 t117)) = some r := H
  have A6 := Qz.mk A60
  clear A60
  have HC7 := Qz.mk H
  clear H
  go_enter Try.func13, Try.ntmps13
  go_upto_region 6 with (first | ((with_reducible refine qu (f := 36) rfl ?_); refine goesL_ (some 15) rfl rfl Try.func36 (by kernel_rfl) rfl #[.slice A0 l0.length c0] rfl yq147 ?_; (with_reducible refine (laws_big.calls _ _ l0 false _ ?side1 ?side2 A2.out).mono ?_); (case side1 => exact yq180); (case side2 => exact HC0.out); rintro e w' ⟨rfl, ⟨nd, rfl⟩⟩; refine ⟨_, rfl, ?_⟩) | ((with_reducible refine qu (f := 51) rfl ?_); refine goesL_ (some 18) rfl rfl Try.func51 (by kernel_rfl) rfl #[.slice A0 l0.length c0] rfl yq147 ?_; (with_reducible refine (spec_DrawReplay.calls k _ _ l0 t102 t105 t106 t107 t108 _ ?side1 ?side2 A4.out).mono ?_); (case side1 => exact yq180); (case side2 => exact HC0.out); rintro e w8 ⟨v103, v109, rfl, ho0, ho1, hb⟩; refine ⟨_, rfl, ?_⟩; have HO104 := Qz.mk (Kd.R_lower ho0 (qz yq177)); have HO110 := Qz.mk (Kd.S_lower ho1 (qz yq177)); replace HB := Qz.mk (qq yq177 hb); (try clear hb); (try clear hk); (try clear ho0); (try clear ho1)) | ((with_reducible refine gate_dst (N := 3) rfl ?_); refine box_event ?hg (N := 3) ?hd (cs := #[.slice none 0 0, .int .i64 0, .int .i64 0, .int .i64 0]) (t := 32) ?hr ?_; (case hd => rfl); (case hg => rfl); (case hr => exact yq181); intro gb111 hg w9 hbox hb; replace HO104 := Qz.mk (Kd.R_below (by (with_reducible repeat (first | apply Kd.R_alloc | apply Kd.R_drewN | apply Kd.R_drew)); exact HO104.out) hb); replace HO110 := Qz.mk (Kd.S_below (by (with_reducible repeat (first | apply Kd.S_alloc | apply Kd.S_drewN | apply Kd.S_drew)); exact HO110.out) hb); have BK111 := Qz.mk (hbox); have GW111 := Qz.mk ((by rw [hg]; exact (qz yq177) : w.heap.size ≤ gb111)); have GE111 := GW111; replace HB := Qz.mk (qq yq177 hb); clear hb hbox hg; obtain ⟨Ao10, co10, eo10⟩ := Kd.R_slice HO104.out; subst eo10; have hcz11_0 := (qd BK111.out 0).trans rfl; have hcz11_1 := (qd BK111.out 1).trans rfl; have hcz11_2 := (qd BK111.out 2).trans rfl; have hcz11_3 := (qd BK111.out 3).trans rfl; have hfz11_0 := qf BK111.out 0; have hfz11_1 := qf BK111.out 1; have hfz11_2 := qf BK111.out 2; have hfz11_3 := qf BK111.out 3; obtain ⟨Ao12, co12, eo12⟩ := Kd.S_slice HO110.out; subst eo12) | ((with_reducible refine qu (f := 31) rfl ?_); refine goesL_ (some 24) rfl rfl Try.func31 (by kernel_rfl) rfl #[.agg #[.slice Ao10 t102.length co10, .int .i64 t105, .int .i64 t106, .int .i64 t107], .slice Ao12 t108.length co12] rfl yq147 ?_; (with_reducible refine (impl_Replay.calls k _ _ t102 t105 t106 t107 _ _ t108 t112 t115 t116 t117 t118 _ ?side1 ?side2 ?side3 ?side4 A5.out).mono ?_); (case side1 => refine (Kd.R_reads' (e := 66) (base := w.heap.size) (ok := fun k_ => True) (n := t102.length) (c := co10) ?_).2.2; exact yq157); (case side2 => exact (Kd.R_reads' HO104.out).2.1); (case side3 => refine (Kd.S_reads' (e := 37) (base := w.heap.size) (ok := fun k_ => some k_ ≠ (.slice Ao10 t102.length co10 : Value).ownBlock) (n := t108.length) (c := co12) ?_).2.2; exact yq169); (case side4 => exact (Kd.S_reads' HO110.out).2.1); rintro e w13 ⟨v113, rfl, ho0, hb⟩; refine ⟨_, rfl, ?_⟩; replace HO110 := Qz.mk (Kd.S_elder' yq169 (Kd.R_base ho0) hb); have HO114 := Qz.mk (Kd.R_lower (Kd.R_new' ho0 (Kd.R_lt yq157)) (qz yq178)); replace HO104 := Qz.mk (Kd.R_elder' yq157 (Kd.R_base ho0) hb); replace BK111 := Qz.mk (qb1 (g := gb111) (o := .cells #[.slice Ao10 t102.length co10, .int .i64 t105, .int .i64 t106, .int .i64 t107] 32 (0, 0)) (by (with_reducible repeat (first | refine qb ?_ _ | refine qc ?_ | refine qa ?_ _)); refine qt (cs := #[.slice Ao10 t102.length co10, .int .i64 t105, .int .i64 t106, .int .i64 0]) ?_ 3 _ rfl; (with_reducible repeat (first | refine qb ?_ _ | refine qc ?_ | refine qa ?_ _)); refine qt (cs := #[.slice Ao10 t102.length co10, .int .i64 t105, .int .i64 0, .int .i64 0]) ?_ 2 _ rfl; (with_reducible repeat (first | refine qb ?_ _ | refine qc ?_ | refine qa ?_ _)); refine qt (cs := #[.slice Ao10 t102.length co10, .int .i64 0, .int .i64 0, .int .i64 0]) ?_ 1 _ rfl; (with_reducible repeat (first | refine qb ?_ _ | refine qc ?_ | refine qa ?_ _)); refine qt (cs := #[.slice none 0 0, .int .i64 0, .int .i64 0, .int .i64 0]) ?_ 0 _ rfl; (with_reducible repeat (first | refine qb ?_ _ | refine qc ?_ | refine qa ?_ _)); exact BK111.out) hb); replace HB := Qz.mk (qq yq178 hb); (try clear hb); (try clear hk); (try clear ho0)) | ((with_reducible refine gate_dst (N := 5) rfl ?_); refine box_event ?hg (N := 5) ?hd (cs := #[.slice none 0 0, .int .i64 0, .int .i64 0, .int .i64 0]) (t := 32) ?hr ?_; (case hd => rfl); (case hg => rfl); (case hr => exact yq181); intro gb119 hg w14 hbox hb; replace HO104 := Qz.mk (Kd.R_below (by (with_reducible repeat (first | apply Kd.R_alloc | apply Kd.R_drewN | apply Kd.R_drew)); exact HO104.out) hb); replace HO110 := Qz.mk (Kd.S_below (by (with_reducible repeat (first | apply Kd.S_alloc | apply Kd.S_drewN | apply Kd.S_drew)); exact HO110.out) hb); replace HO114 := Qz.mk (Kd.R_below (by (with_reducible repeat (first | apply Kd.R_alloc | apply Kd.R_drewN | apply Kd.R_drew)); exact HO114.out) hb); have BK119 := Qz.mk (hbox); have GW119 := Qz.mk ((by rw [hg]; exact (qz yq178) : w.heap.size ≤ gb119)); have GE119 := GW119; replace HB := Qz.mk (qq yq178 hb); have NB111_119 := Qz.mk ((yq153 : gb111 ≠ gb119)); have NB119_111 := Qz.mk ((yq154 : gb119 ≠ gb111)); replace BK111 := bkbf13 BK111 yq141 hb; clear hb hbox hg; obtain ⟨Ao15, co15, eo15⟩ := Kd.R_slice HO114.out; subst eo15; have hnb16 := NB119_111.out; have hnc16 := NB111_119.out; have hcz17_0 := (qd BK119.out 0).trans rfl; have hcz17_1 := (qd BK119.out 1).trans rfl; have hcz17_2 := (qd BK119.out 2).trans rfl; have hcz17_3 := (qd BK119.out 3).trans rfl; have hfz17_0 := qf BK119.out 0; have hfz17_1 := qf BK119.out 1; have hfz17_2 := qf BK119.out 2; have hfz17_3 := qf BK119.out 3; have hcz18_0 := (qd BK111.out 0).trans rfl; have hcz18_1 := (qd BK111.out 1).trans rfl; have hcz18_2 := (qd BK111.out 2).trans rfl; have hcz18_3 := (qd BK111.out 3).trans rfl; have hfz18_0 := qf BK111.out 0; have hfz18_1 := qf BK111.out 1; have hfz18_2 := qf BK111.out 2; have hfz18_3 := qf BK111.out 3) | ((with_reducible refine qu (f := 29) rfl ?_); refine goesL_ (some 30) rfl rfl Try.func29 (by kernel_rfl) rfl #[.agg #[.slice Ao10 t102.length co10, .int .i64 t105, .int .i64 t106, .int .i64 t107], .slice Ao12 t108.length co12] rfl yq147 ?_; (with_reducible refine (spec_Replay.calls k _ _ t102 t105 t106 t107 _ _ t108 t120 t123 t124 t125 t126 _ ?side1 ?side2 ?side3 ?side4 A6.out).mono ?_); (case side1 => refine (Kd.R_reads' (e := 66) (base := w.heap.size) (ok := fun k_ => (True ∧ some k_ ≠ (.slice Ao15 t112.length co15 : Value).ownBlock)) (n := t102.length) (c := co10) ?_).2.2; exact yq156); (case side2 => exact (Kd.R_reads' HO104.out).2.1); (case side3 => refine (Kd.S_reads' (e := 37) (base := w.heap.size) (ok := fun k_ => (some k_ ≠ (.slice Ao10 t102.length co10 : Value).ownBlock ∧ some k_ ≠ (.slice Ao15 t112.length co15 : Value).ownBlock)) (n := t108.length) (c := co12) ?_).2.2; exact yq168); (case side4 => exact (Kd.S_reads' HO110.out).2.1); rintro e w19 ⟨v121, rfl, ho0, hb⟩; refine ⟨_, rfl, ?_⟩; replace HO110 := Qz.mk (Kd.S_elder' yq168 (Kd.R_base ho0) hb); have HO122 := Qz.mk (Kd.R_lower (Kd.R_new' (Kd.R_new' ho0 (Kd.R_lt yq156)) (Kd.R_lt yq170)) (qz yq175)); replace HO104 := Qz.mk (Kd.R_elder' yq156 (Kd.R_base ho0) hb); replace HO114 := Qz.mk (Kd.R_elder' yq170 (Kd.R_base ho0) hb); replace BK111 := Qz.mk (qb1 (g := gb111) (o := .cells #[.slice Ao10 t102.length co10, .int .i64 t105, .int .i64 t106, .int .i64 t107] 32 (0, 0)) (by (with_reducible repeat (first | refine qb ?_ _ | refine qc ?_ | refine qa ?_ _)); refine qp ?_ NB111_119.out _; (with_reducible repeat (first | refine qb ?_ _ | refine qc ?_ | refine qa ?_ _)); refine qp ?_ NB111_119.out _; (with_reducible repeat (first | refine qb ?_ _ | refine qc ?_ | refine qa ?_ _)); refine qp ?_ NB111_119.out _; (with_reducible repeat (first | refine qb ?_ _ | refine qc ?_ | refine qa ?_ _)); refine qp ?_ NB111_119.out _; (with_reducible repeat (first | refine qb ?_ _ | refine qc ?_ | refine qa ?_ _)); exact BK111.out) hb); replace BK119 := Qz.mk (qb1 (g := gb119) (o := .cells #[.slice Ao15 t112.length co15, .int .i64 t115, .int .i64 t116, .int .i64 t117] 32 (0, 0)) (by (with_reducible repeat (first | refine qb ?_ _ | refine qc ?_ | refine qa ?_ _)); refine qt (cs := #[.slice Ao15 t112.length co15, .int .i64 t115, .int .i64 t116, .int .i64 0]) ?_ 3 _ rfl; (with_reducible repeat (first | refine qb ?_ _ | refine qc ?_ | refine qa ?_ _)); refine qt (cs := #[.slice Ao15 t112.length co15, .int .i64 t115, .int .i64 0, .int .i64 0]) ?_ 2 _ rfl; (with_reducible repeat (first | refine qb ?_ _ | refine qc ?_ | refine qa ?_ _)); refine qt (cs := #[.slice Ao15 t112.length co15, .int .i64 0, .int .i64 0, .int .i64 0]) ?_ 1 _ rfl; (with_reducible repeat (first | refine qb ?_ _ | refine qc ?_ | refine qa ?_ _)); refine qt (cs := #[.slice none 0 0, .int .i64 0, .int .i64 0, .int .i64 0]) ?_ 0 _ rfl; (with_reducible repeat (first | refine qb ?_ _ | refine qc ?_ | refine qa ?_ _)); exact BK119.out) hb); replace HB := Qz.mk (qq yq175 hb); (try clear hb); (try clear hk); (try clear ho0)) | ((with_reducible refine gate_dst (N := 7) rfl ?_); refine box_event ?hg (N := 7) ?hd (cs := #[.slice none 0 0, .int .i64 0, .int .i64 0, .int .i64 0]) (t := 32) ?hr ?_; (case hd => rfl); (case hg => rfl); (case hr => exact yq181); intro gb127 hg w20 hbox hb; replace HO104 := Qz.mk (Kd.R_below (by (with_reducible repeat (first | apply Kd.R_alloc | apply Kd.R_drewN | apply Kd.R_drew)); exact HO104.out) hb); replace HO110 := Qz.mk (Kd.S_below (by (with_reducible repeat (first | apply Kd.S_alloc | apply Kd.S_drewN | apply Kd.S_drew)); exact HO110.out) hb); replace HO114 := Qz.mk (Kd.R_below (by (with_reducible repeat (first | apply Kd.R_alloc | apply Kd.R_drewN | apply Kd.R_drew)); exact HO114.out) hb); replace HO122 := Qz.mk (Kd.R_below (by (with_reducible repeat (first | apply Kd.R_alloc | apply Kd.R_drewN | apply Kd.R_drew)); exact HO122.out) hb); have BK127 := Qz.mk (hbox); have GW127 := Qz.mk ((by rw [hg]; exact (qz yq175) : w.heap.size ≤ gb127)); have GE127 := GW127; replace HB := Qz.mk (qq yq175 hb); have NB111_127 := Qz.mk ((yq153 : gb111 ≠ gb127)); have NB127_111 := Qz.mk ((yq154 : gb127 ≠ gb111)); replace BK111 := bkbf13 BK111 yq141 hb; have NB119_127 := Qz.mk ((yq158 : gb119 ≠ gb127)); have NB127_119 := Qz.mk ((yq159 : gb127 ≠ gb119)); replace BK119 := bkbf13 BK119 yq142 hb; clear hb hbox hg; obtain ⟨Ao21, co21, eo21⟩ := Kd.R_slice HO122.out; subst eo21; have hnb22 := NB127_111.out; have hnc22 := NB111_127.out; have hnb23 := NB127_119.out; have hnc23 := NB119_127.out; have hcz24_0 := (qd BK127.out 0).trans rfl; have hcz24_1 := (qd BK127.out 1).trans rfl; have hcz24_2 := (qd BK127.out 2).trans rfl; have hcz24_3 := (qd BK127.out 3).trans rfl; have hfz24_0 := qf BK127.out 0; have hfz24_1 := qf BK127.out 1; have hfz24_2 := qf BK127.out 2; have hfz24_3 := qf BK127.out 3))
  (try simp only [Act.put, sq1, sq2, sq3])
  go_cut [47] (fun v47 wc => ∃ (kq : Nat) (x47_6 : Bool), v47 = .bool x47_6 ∧ Qz (laws_FnReplayed.j0 kq l0 t108 t118 t126 x47_6 t102 t105 t106 t107 t112 t115 t116 t117 = some r) ∧ Qz (kq ≤ k) ∧ Qz (Kd.S k37 37 wc w.heap.size (fun k_ => some k_ ≠ ((.slice Ao10 t102.length co10) : Value).ownBlock ∧ some k_ ≠ ((.slice Ao15 t112.length co15) : Value).ownBlock ∧ some k_ ≠ ((.slice Ao21 t120.length co21) : Value).ownBlock) (.slice Ao12 t108.length co12) t108) ∧ Qz (Kd.R k66 66 wc w.heap.size (fun k_ => some k_ ≠ ((.slice Ao15 t112.length co15) : Value).ownBlock ∧ some k_ ≠ ((.slice Ao21 t120.length co21) : Value).ownBlock) (.slice Ao10 t102.length co10) t102) ∧ Qz (Kd.R k66 66 wc w.heap.size (fun k_ => some k_ ≠ ((.slice Ao10 t102.length co10) : Value).ownBlock ∧ some k_ ≠ ((.slice Ao21 t120.length co21) : Value).ownBlock) (.slice Ao15 t112.length co15) t112) ∧ Qz (Kd.R k66 66 wc w.heap.size (fun k_ => some k_ ≠ ((.slice Ao10 t102.length co10) : Value).ownBlock ∧ some k_ ≠ ((.slice Ao15 t112.length co15) : Value).ownBlock) (.slice Ao21 t120.length co21) t120) ∧ Qz (wc.heap[gb111]? = some (.cells #[(.slice Ao10 t102.length co10), .int .i64 t105, .int .i64 t106, .int .i64 t107] 32 (0, 0))) ∧ Qz (wc.heap[gb119]? = some (.cells #[(.slice Ao15 t112.length co15), .int .i64 t115, .int .i64 t116, .int .i64 t117] 32 (0, 0))) ∧ Qz (wc.heap[gb127]? = some (.cells #[(.slice Ao21 t120.length co21), .int .i64 t123, .int .i64 t124, .int .i64 t125] 32 (0, 0))) ∧ Qz (Below w.heap.size w wc))
  case first =>
   have H := HC7.out
   clear HC7
   by_cases c25 : t118 = t126
   ·rw [if_pos c25] at H
    have c25b0 : (t118 == t126) = true := beq_iff_eq.mpr c25
    have c25b1 : (t118 != t126) = false := bne_eq_false_iff_eq.mpr c25
    clear c25
    (first | rw [c25b0] | (simp only [i64_w, i32_w]; rw [c25b0]) | skip)
    replace H := Option.bind_eq_some_iff.mp H
    obtain ⟨t128, A260, H⟩ := H
    replace H : (if t128 = true then (laws_FnReplayed.j0 k l0 t108 t118 t126 (decide (t118 < 0)) t102 t105 t106 t107 t112 t115 t116 t117) else (laws_FnReplayed.j0 k l0 t108 t118 t126 true t102 t105 t106 t107 t112 t115 t116 t117)) = some r := H
    have A26 := Qz.mk A260
    clear A260
    by_cases c27 : t128 = true
    ·subst c27
     have H1 : (laws_FnReplayed.j0 k l0 t108 t118 t126 (decide (t118 < 0)) t102 t105 t106 t107 t112 t115 t116 t117) = some r := by rw [if_pos rfl] at H; exact H
     clear H
     have H := H1
     clear H1
     have H' := Qz.mk H
     clear H
     have hnb28 := NB119_111.out
     have hnc28 := NB111_119.out
     have hnb29 := NB119_127.out
     have hnc29 := NB127_119.out
     have hcz30_0 := (qd BK119.out 0).trans rfl
     have hcz30_1 := (qd BK119.out 1).trans rfl
     have hcz30_2 := (qd BK119.out 2).trans rfl
     have hcz30_3 := (qd BK119.out 3).trans rfl
     have hfz30_0 := qf BK119.out 0
     have hfz30_1 := qf BK119.out 1
     have hfz30_2 := qf BK119.out 2
     have hfz30_3 := qf BK119.out 3
     have hnb31 := NB127_111.out
     have hnc31 := NB111_127.out
     have hcz32_0 := (qd BK127.out 0).trans rfl
     have hcz32_1 := (qd BK127.out 1).trans rfl
     have hcz32_2 := (qd BK127.out 2).trans rfl
     have hcz32_3 := (qd BK127.out 3).trans rfl
     have hfz32_0 := qf BK127.out 0
     have hfz32_1 := qf BK127.out 1
     have hfz32_2 := qf BK127.out 2
     have hfz32_3 := qf BK127.out 3
     go_wp2_with (first | (go_at_call 50; (with_reducible refine (laws_sameMetas.calls k _ _ t112 _ _ t120 true _ ?side1 ?side2 ?side3 ?side4 A26.out).mono ?_); (case side1 => exact yq162); (case side2 => exact (Kd.R_reads' HO114.out).2.1); (case side3 => exact yq163); (case side4 => exact (Kd.R_reads' HO122.out).2.1); rintro e w' ⟨rfl, ⟨nd, rfl⟩⟩))
     go_meet
     case rel => exact ⟨_, (decide (t118 < 0)), (by first | rfl | (simp; done) | (simp [*]; done)), H', ⟨by first | omega | exact Nat.le_refl _⟩, ⟨by (with_reducible repeat (first | apply Kd.S_alloc | apply Kd.S_drewN | apply Kd.S_drew)); exact Kd.S_mono (Kd.S_far (p := ⟨gb127, 3, none⟩) (Kd.S_far (p := ⟨gb127, 2, none⟩) (Kd.S_far (p := ⟨gb127, 1, none⟩) (Kd.S_far (p := ⟨gb127, 0, none⟩) (Kd.S_types HO110.out BK127.out (by decide)) (fun _ hk => hk.2) (.slice Ao21 t120.length co21)) (fun _ hk => hk.2) (.int .i64 t123)) (fun _ hk => hk.2) (.int .i64 t124)) (fun _ hk => hk.2) (.int .i64 t125)) (fun _ hk => ⟨hk.1.1.1, ⟨hk.1.1.2, hk.1.2⟩⟩)⟩, ⟨by (with_reducible repeat (first | apply Kd.R_alloc | apply Kd.R_drewN | apply Kd.R_drew)); exact Kd.R_mono (Kd.R_far (p := ⟨gb127, 3, none⟩) (Kd.R_far (p := ⟨gb127, 2, none⟩) (Kd.R_far (p := ⟨gb127, 1, none⟩) (Kd.R_far (p := ⟨gb127, 0, none⟩) (Kd.R_types HO104.out BK127.out (by decide)) (fun _ hk => hk.2) (.slice Ao21 t120.length co21)) (fun _ hk => hk.2) (.int .i64 t123)) (fun _ hk => hk.2) (.int .i64 t124)) (fun _ hk => hk.2) (.int .i64 t125)) (fun _ hk => ⟨hk.1.1.2, hk.1.2⟩)⟩, ⟨by (with_reducible repeat (first | apply Kd.R_alloc | apply Kd.R_drewN | apply Kd.R_drew)); exact Kd.R_mono (Kd.R_far (p := ⟨gb127, 3, none⟩) (Kd.R_far (p := ⟨gb127, 2, none⟩) (Kd.R_far (p := ⟨gb127, 1, none⟩) (Kd.R_far (p := ⟨gb127, 0, none⟩) (Kd.R_types HO114.out BK127.out (by decide)) (fun _ hk => hk.2) (.slice Ao21 t120.length co21)) (fun _ hk => hk.2) (.int .i64 t123)) (fun _ hk => hk.2) (.int .i64 t124)) (fun _ hk => hk.2) (.int .i64 t125)) (fun _ hk => ⟨hk.1.1.2, hk.1.2⟩)⟩, ⟨by (with_reducible repeat (first | apply Kd.R_alloc | apply Kd.R_drewN | apply Kd.R_drew)); exact Kd.R_mono (Kd.R_far (p := ⟨gb127, 3, none⟩) (Kd.R_far (p := ⟨gb127, 2, none⟩) (Kd.R_far (p := ⟨gb127, 1, none⟩) (Kd.R_far (p := ⟨gb127, 0, none⟩) (Kd.R_types HO122.out BK127.out (by decide)) (fun _ hk => hk.2) (.slice Ao21 t120.length co21)) (fun _ hk => hk.2) (.int .i64 t123)) (fun _ hk => hk.2) (.int .i64 t124)) (fun _ hk => hk.2) (.int .i64 t125)) (fun _ hk => ⟨hk.1.1.2, hk.1.2⟩)⟩, ⟨by (with_reducible repeat (first | refine qb ?_ _ | refine qc ?_ | refine qa ?_ _)); refine qp ?_ NB111_127.out _; (with_reducible repeat (first | refine qb ?_ _ | refine qc ?_ | refine qa ?_ _)); refine qp ?_ NB111_127.out _; (with_reducible repeat (first | refine qb ?_ _ | refine qc ?_ | refine qa ?_ _)); refine qp ?_ NB111_127.out _; (with_reducible repeat (first | refine qb ?_ _ | refine qc ?_ | refine qa ?_ _)); refine qp ?_ NB111_127.out _; (with_reducible repeat (first | refine qb ?_ _ | refine qc ?_ | refine qa ?_ _)); exact BK111.out⟩, ⟨by (with_reducible repeat (first | refine qb ?_ _ | refine qc ?_ | refine qa ?_ _)); refine qp ?_ NB119_127.out _; (with_reducible repeat (first | refine qb ?_ _ | refine qc ?_ | refine qa ?_ _)); refine qp ?_ NB119_127.out _; (with_reducible repeat (first | refine qb ?_ _ | refine qc ?_ | refine qa ?_ _)); refine qp ?_ NB119_127.out _; (with_reducible repeat (first | refine qb ?_ _ | refine qc ?_ | refine qa ?_ _)); refine qp ?_ NB119_127.out _; (with_reducible repeat (first | refine qb ?_ _ | refine qc ?_ | refine qa ?_ _)); exact BK119.out⟩, ⟨by (with_reducible repeat (first | refine qb ?_ _ | refine qc ?_ | refine qa ?_ _)); refine qt (cs := #[.slice Ao21 t120.length co21, .int .i64 t123, .int .i64 t124, .int .i64 0]) ?_ 3 _ rfl; (with_reducible repeat (first | refine qb ?_ _ | refine qc ?_ | refine qa ?_ _)); refine qt (cs := #[.slice Ao21 t120.length co21, .int .i64 t123, .int .i64 0, .int .i64 0]) ?_ 2 _ rfl; (with_reducible repeat (first | refine qb ?_ _ | refine qc ?_ | refine qa ?_ _)); refine qt (cs := #[.slice Ao21 t120.length co21, .int .i64 0, .int .i64 0, .int .i64 0]) ?_ 1 _ rfl; (with_reducible repeat (first | refine qb ?_ _ | refine qc ?_ | refine qa ?_ _)); refine qt (cs := #[.slice none 0 0, .int .i64 0, .int .i64 0, .int .i64 0]) ?_ 0 _ rfl; (with_reducible repeat (first | refine qb ?_ _ | refine qc ?_ | refine qa ?_ _)); exact BK127.out⟩, ⟨by repeat (first | (with_reducible first | exact HB.out | apply qh | apply qg | apply qi | refine qe ?_ GE111.out | refine qe ?_ GE119.out | refine qe ?_ GE127.out) | exact HB.out)⟩⟩
    ·replace c27 := Bool.eq_false_iff.mpr c27
     subst c27
     have H1 : (laws_FnReplayed.j0 k l0 t108 t118 t126 true t102 t105 t106 t107 t112 t115 t116 t117) = some r := by rw [if_neg (show ¬ (false = true) by decide)] at H; exact H
     clear H
     have H := H1
     clear H1
     have H' := Qz.mk H
     clear H
     have hnb33 := NB119_111.out
     have hnc33 := NB111_119.out
     have hnb34 := NB119_127.out
     have hnc34 := NB127_119.out
     have hcz35_0 := (qd BK119.out 0).trans rfl
     have hcz35_1 := (qd BK119.out 1).trans rfl
     have hcz35_2 := (qd BK119.out 2).trans rfl
     have hcz35_3 := (qd BK119.out 3).trans rfl
     have hfz35_0 := qf BK119.out 0
     have hfz35_1 := qf BK119.out 1
     have hfz35_2 := qf BK119.out 2
     have hfz35_3 := qf BK119.out 3
     have hnb36 := NB127_111.out
     have hnc36 := NB111_127.out
     have hcz37_0 := (qd BK127.out 0).trans rfl
     have hcz37_1 := (qd BK127.out 1).trans rfl
     have hcz37_2 := (qd BK127.out 2).trans rfl
     have hcz37_3 := (qd BK127.out 3).trans rfl
     have hfz37_0 := qf BK127.out 0
     have hfz37_1 := qf BK127.out 1
     have hfz37_2 := qf BK127.out 2
     have hfz37_3 := qf BK127.out 3
     go_wp2_with (first | (go_at_call 50; (with_reducible refine (laws_sameMetas.calls k _ _ t112 _ _ t120 false _ ?side1 ?side2 ?side3 ?side4 A26.out).mono ?_); (case side1 => exact yq162); (case side2 => exact (Kd.R_reads' HO114.out).2.1); (case side3 => exact yq163); (case side4 => exact (Kd.R_reads' HO122.out).2.1); rintro e w' ⟨rfl, ⟨nd, rfl⟩⟩))
     go_meet
     case rel => exact ⟨_, (true), (by first | rfl | (simp; done) | (simp [*]; done)), H', ⟨by first | omega | exact Nat.le_refl _⟩, ⟨by (with_reducible repeat (first | apply Kd.S_alloc | apply Kd.S_drewN | apply Kd.S_drew)); exact Kd.S_mono (Kd.S_far (p := ⟨gb127, 3, none⟩) (Kd.S_far (p := ⟨gb127, 2, none⟩) (Kd.S_far (p := ⟨gb127, 1, none⟩) (Kd.S_far (p := ⟨gb127, 0, none⟩) (Kd.S_types HO110.out BK127.out (by decide)) (fun _ hk => hk.2) (.slice Ao21 t120.length co21)) (fun _ hk => hk.2) (.int .i64 t123)) (fun _ hk => hk.2) (.int .i64 t124)) (fun _ hk => hk.2) (.int .i64 t125)) (fun _ hk => ⟨hk.1.1.1, ⟨hk.1.1.2, hk.1.2⟩⟩)⟩, ⟨by (with_reducible repeat (first | apply Kd.R_alloc | apply Kd.R_drewN | apply Kd.R_drew)); exact Kd.R_mono (Kd.R_far (p := ⟨gb127, 3, none⟩) (Kd.R_far (p := ⟨gb127, 2, none⟩) (Kd.R_far (p := ⟨gb127, 1, none⟩) (Kd.R_far (p := ⟨gb127, 0, none⟩) (Kd.R_types HO104.out BK127.out (by decide)) (fun _ hk => hk.2) (.slice Ao21 t120.length co21)) (fun _ hk => hk.2) (.int .i64 t123)) (fun _ hk => hk.2) (.int .i64 t124)) (fun _ hk => hk.2) (.int .i64 t125)) (fun _ hk => ⟨hk.1.1.2, hk.1.2⟩)⟩, ⟨by (with_reducible repeat (first | apply Kd.R_alloc | apply Kd.R_drewN | apply Kd.R_drew)); exact Kd.R_mono (Kd.R_far (p := ⟨gb127, 3, none⟩) (Kd.R_far (p := ⟨gb127, 2, none⟩) (Kd.R_far (p := ⟨gb127, 1, none⟩) (Kd.R_far (p := ⟨gb127, 0, none⟩) (Kd.R_types HO114.out BK127.out (by decide)) (fun _ hk => hk.2) (.slice Ao21 t120.length co21)) (fun _ hk => hk.2) (.int .i64 t123)) (fun _ hk => hk.2) (.int .i64 t124)) (fun _ hk => hk.2) (.int .i64 t125)) (fun _ hk => ⟨hk.1.1.2, hk.1.2⟩)⟩, ⟨by (with_reducible repeat (first | apply Kd.R_alloc | apply Kd.R_drewN | apply Kd.R_drew)); exact Kd.R_mono (Kd.R_far (p := ⟨gb127, 3, none⟩) (Kd.R_far (p := ⟨gb127, 2, none⟩) (Kd.R_far (p := ⟨gb127, 1, none⟩) (Kd.R_far (p := ⟨gb127, 0, none⟩) (Kd.R_types HO122.out BK127.out (by decide)) (fun _ hk => hk.2) (.slice Ao21 t120.length co21)) (fun _ hk => hk.2) (.int .i64 t123)) (fun _ hk => hk.2) (.int .i64 t124)) (fun _ hk => hk.2) (.int .i64 t125)) (fun _ hk => ⟨hk.1.1.2, hk.1.2⟩)⟩, ⟨by (with_reducible repeat (first | refine qb ?_ _ | refine qc ?_ | refine qa ?_ _)); refine qp ?_ NB111_127.out _; (with_reducible repeat (first | refine qb ?_ _ | refine qc ?_ | refine qa ?_ _)); refine qp ?_ NB111_127.out _; (with_reducible repeat (first | refine qb ?_ _ | refine qc ?_ | refine qa ?_ _)); refine qp ?_ NB111_127.out _; (with_reducible repeat (first | refine qb ?_ _ | refine qc ?_ | refine qa ?_ _)); refine qp ?_ NB111_127.out _; (with_reducible repeat (first | refine qb ?_ _ | refine qc ?_ | refine qa ?_ _)); exact BK111.out⟩, ⟨by (with_reducible repeat (first | refine qb ?_ _ | refine qc ?_ | refine qa ?_ _)); refine qp ?_ NB119_127.out _; (with_reducible repeat (first | refine qb ?_ _ | refine qc ?_ | refine qa ?_ _)); refine qp ?_ NB119_127.out _; (with_reducible repeat (first | refine qb ?_ _ | refine qc ?_ | refine qa ?_ _)); refine qp ?_ NB119_127.out _; (with_reducible repeat (first | refine qb ?_ _ | refine qc ?_ | refine qa ?_ _)); refine qp ?_ NB119_127.out _; (with_reducible repeat (first | refine qb ?_ _ | refine qc ?_ | refine qa ?_ _)); exact BK119.out⟩, ⟨by (with_reducible repeat (first | refine qb ?_ _ | refine qc ?_ | refine qa ?_ _)); refine qt (cs := #[.slice Ao21 t120.length co21, .int .i64 t123, .int .i64 t124, .int .i64 0]) ?_ 3 _ rfl; (with_reducible repeat (first | refine qb ?_ _ | refine qc ?_ | refine qa ?_ _)); refine qt (cs := #[.slice Ao21 t120.length co21, .int .i64 t123, .int .i64 0, .int .i64 0]) ?_ 2 _ rfl; (with_reducible repeat (first | refine qb ?_ _ | refine qc ?_ | refine qa ?_ _)); refine qt (cs := #[.slice Ao21 t120.length co21, .int .i64 0, .int .i64 0, .int .i64 0]) ?_ 1 _ rfl; (with_reducible repeat (first | refine qb ?_ _ | refine qc ?_ | refine qa ?_ _)); refine qt (cs := #[.slice none 0 0, .int .i64 0, .int .i64 0, .int .i64 0]) ?_ 0 _ rfl; (with_reducible repeat (first | refine qb ?_ _ | refine qc ?_ | refine qa ?_ _)); exact BK127.out⟩, ⟨by repeat (first | (with_reducible first | exact HB.out | apply qh | apply qg | apply qi | refine qe ?_ GE111.out | refine qe ?_ GE119.out | refine qe ?_ GE127.out) | exact HB.out)⟩⟩
   ·rw [if_neg c25] at H
    have c25b0 : (t118 == t126) = false := beq_eq_false_iff_ne.mpr c25
    have c25b1 : (t118 != t126) = true := bne_iff_ne.mpr c25
    (first | rw [c25b0] | (simp only [i64_w, i32_w]; rw [c25b0]) | skip)
    have H' := Qz.mk H
    clear H
    go_wp2
    go_meet
    case rel => exact ⟨_, (true), (by first | rfl | (simp; done) | (simp [*]; done)), H', ⟨by first | omega | exact Nat.le_refl _⟩, ⟨by (with_reducible repeat (first | apply Kd.S_alloc | apply Kd.S_drewN | apply Kd.S_drew)); exact Kd.S_mono (Kd.S_far (p := ⟨gb127, 3, none⟩) (Kd.S_far (p := ⟨gb127, 2, none⟩) (Kd.S_far (p := ⟨gb127, 1, none⟩) (Kd.S_far (p := ⟨gb127, 0, none⟩) (Kd.S_types HO110.out BK127.out (by decide)) (fun _ hk => hk.2) (.slice Ao21 t120.length co21)) (fun _ hk => hk.2) (.int .i64 t123)) (fun _ hk => hk.2) (.int .i64 t124)) (fun _ hk => hk.2) (.int .i64 t125)) (fun _ hk => ⟨hk.1.1.1, ⟨hk.1.1.2, hk.1.2⟩⟩)⟩, ⟨by (with_reducible repeat (first | apply Kd.R_alloc | apply Kd.R_drewN | apply Kd.R_drew)); exact Kd.R_mono (Kd.R_far (p := ⟨gb127, 3, none⟩) (Kd.R_far (p := ⟨gb127, 2, none⟩) (Kd.R_far (p := ⟨gb127, 1, none⟩) (Kd.R_far (p := ⟨gb127, 0, none⟩) (Kd.R_types HO104.out BK127.out (by decide)) (fun _ hk => hk.2) (.slice Ao21 t120.length co21)) (fun _ hk => hk.2) (.int .i64 t123)) (fun _ hk => hk.2) (.int .i64 t124)) (fun _ hk => hk.2) (.int .i64 t125)) (fun _ hk => ⟨hk.1.1.2, hk.1.2⟩)⟩, ⟨by (with_reducible repeat (first | apply Kd.R_alloc | apply Kd.R_drewN | apply Kd.R_drew)); exact Kd.R_mono (Kd.R_far (p := ⟨gb127, 3, none⟩) (Kd.R_far (p := ⟨gb127, 2, none⟩) (Kd.R_far (p := ⟨gb127, 1, none⟩) (Kd.R_far (p := ⟨gb127, 0, none⟩) (Kd.R_types HO114.out BK127.out (by decide)) (fun _ hk => hk.2) (.slice Ao21 t120.length co21)) (fun _ hk => hk.2) (.int .i64 t123)) (fun _ hk => hk.2) (.int .i64 t124)) (fun _ hk => hk.2) (.int .i64 t125)) (fun _ hk => ⟨hk.1.1.2, hk.1.2⟩)⟩, ⟨by (with_reducible repeat (first | apply Kd.R_alloc | apply Kd.R_drewN | apply Kd.R_drew)); exact Kd.R_mono (Kd.R_far (p := ⟨gb127, 3, none⟩) (Kd.R_far (p := ⟨gb127, 2, none⟩) (Kd.R_far (p := ⟨gb127, 1, none⟩) (Kd.R_far (p := ⟨gb127, 0, none⟩) (Kd.R_types HO122.out BK127.out (by decide)) (fun _ hk => hk.2) (.slice Ao21 t120.length co21)) (fun _ hk => hk.2) (.int .i64 t123)) (fun _ hk => hk.2) (.int .i64 t124)) (fun _ hk => hk.2) (.int .i64 t125)) (fun _ hk => ⟨hk.1.1.2, hk.1.2⟩)⟩, ⟨by (with_reducible repeat (first | refine qb ?_ _ | refine qc ?_ | refine qa ?_ _)); refine qp ?_ NB111_127.out _; (with_reducible repeat (first | refine qb ?_ _ | refine qc ?_ | refine qa ?_ _)); refine qp ?_ NB111_127.out _; (with_reducible repeat (first | refine qb ?_ _ | refine qc ?_ | refine qa ?_ _)); refine qp ?_ NB111_127.out _; (with_reducible repeat (first | refine qb ?_ _ | refine qc ?_ | refine qa ?_ _)); refine qp ?_ NB111_127.out _; (with_reducible repeat (first | refine qb ?_ _ | refine qc ?_ | refine qa ?_ _)); exact BK111.out⟩, ⟨by (with_reducible repeat (first | refine qb ?_ _ | refine qc ?_ | refine qa ?_ _)); refine qp ?_ NB119_127.out _; (with_reducible repeat (first | refine qb ?_ _ | refine qc ?_ | refine qa ?_ _)); refine qp ?_ NB119_127.out _; (with_reducible repeat (first | refine qb ?_ _ | refine qc ?_ | refine qa ?_ _)); refine qp ?_ NB119_127.out _; (with_reducible repeat (first | refine qb ?_ _ | refine qc ?_ | refine qa ?_ _)); refine qp ?_ NB119_127.out _; (with_reducible repeat (first | refine qb ?_ _ | refine qc ?_ | refine qa ?_ _)); exact BK119.out⟩, ⟨by (with_reducible repeat (first | refine qb ?_ _ | refine qc ?_ | refine qa ?_ _)); refine qt (cs := #[.slice Ao21 t120.length co21, .int .i64 t123, .int .i64 t124, .int .i64 0]) ?_ 3 _ rfl; (with_reducible repeat (first | refine qb ?_ _ | refine qc ?_ | refine qa ?_ _)); refine qt (cs := #[.slice Ao21 t120.length co21, .int .i64 t123, .int .i64 0, .int .i64 0]) ?_ 2 _ rfl; (with_reducible repeat (first | refine qb ?_ _ | refine qc ?_ | refine qa ?_ _)); refine qt (cs := #[.slice Ao21 t120.length co21, .int .i64 0, .int .i64 0, .int .i64 0]) ?_ 1 _ rfl; (with_reducible repeat (first | refine qb ?_ _ | refine qc ?_ | refine qa ?_ _)); refine qt (cs := #[.slice none 0 0, .int .i64 0, .int .i64 0, .int .i64 0]) ?_ 0 _ rfl; (with_reducible repeat (first | refine qb ?_ _ | refine qc ?_ | refine qa ?_ _)); exact BK127.out⟩, ⟨by repeat (first | (with_reducible first | exact HB.out | apply qh | apply qg | apply qi | refine qe ?_ GE111.out | refine qe ?_ GE119.out | refine qe ?_ GE127.out) | exact HB.out)⟩⟩
  case rest =>
   clear HC7
   (try clear c1);(try clear c2);(try clear p2);(try clear c3);(try clear c5);(try clear c13);(try clear c16);(try clear c22);(try clear c23);(try clear c25);(try clear c25b0);(try clear c25b1);(try clear c27);(try clear c28);(try clear c29);(try clear c31);(try clear c33);(try clear c34);(try clear c36);(try clear hcz11_0);(try clear hcz11_1);(try clear hcz11_2);(try clear hcz11_3);(try clear hcz17_0);(try clear hcz17_1);(try clear hcz17_2);(try clear hcz17_3);(try clear hcz18_0);(try clear hcz18_1);(try clear hcz18_2);(try clear hcz18_3);(try clear hcz24_0);(try clear hcz24_1);(try clear hcz24_2);(try clear hcz24_3);(try clear hcz30_0);(try clear hcz30_1);(try clear hcz30_2);(try clear hcz30_3);(try clear hcz32_0);(try clear hcz32_1);(try clear hcz32_2);(try clear hcz32_3);(try clear hcz35_0);(try clear hcz35_1);(try clear hcz35_2);(try clear hcz35_3);(try clear hcz37_0);(try clear hcz37_1);(try clear hcz37_2);(try clear hcz37_3);(try clear hfz11_0);(try clear hfz11_1);(try clear hfz11_2);(try clear hfz11_3);(try clear hfz17_0);(try clear hfz17_1);(try clear hfz17_2);(try clear hfz17_3);(try clear hfz18_0);(try clear hfz18_1);(try clear hfz18_2);(try clear hfz18_3);(try clear hfz24_0);(try clear hfz24_1);(try clear hfz24_2);(try clear hfz24_3);(try clear hfz30_0);(try clear hfz30_1);(try clear hfz30_2);(try clear hfz30_3);(try clear hfz32_0);(try clear hfz32_1);(try clear hfz32_2);(try clear hfz32_3);(try clear hfz35_0);(try clear hfz35_1);(try clear hfz35_2);(try clear hfz35_3);(try clear hfz37_0);(try clear hfz37_1);(try clear hfz37_2);(try clear hfz37_3)
   obtain ⟨kq, x47_6, rfl, HA, HJ6, HO_4, HO_112000, HO_120000, HO_128000, BK111, BK119, BK127, HB⟩ := hcut
   cases kq with
   | zero => exact absurd HA.out (by simp [laws_FnReplayed.j0])
   | succ kj6 =>
    have H := HA.out
    clear HA
    simp only [laws_FnReplayed.j0] at H
    by_cases c38 : x47_6 = true
    ·subst c38
     have H1 : (some (t118 == t126)) = some r := by rw [if_pos rfl] at H; exact H
     clear H
     have H := H1
     clear H1
     obtain rfl := Option.some.inj H
     go_wp2
     go_ret
     exact ⟨by first | rfl | (simp [qy, qx] <;> rfl) | (simp [*, qy, qx] <;> rfl), by repeat (first | (with_reducible first | exact HB.out | apply qh | apply qg | apply qi | refine qe ?_ GE111.out | refine qe ?_ GE119.out | refine qe ?_ GE127.out) | exact HB.out)⟩
    ·replace c38 := Bool.eq_false_iff.mpr c38
     subst c38
     have H1 : (if (wrap64 ((t108.length : Int) + 1)) = 0 then (none) else (if 0 ≤ ((l0.length : Int) % (wrap64 ((t108.length : Int) + 1))) then (if ((l0.length : Int) % (wrap64 ((t108.length : Int) + 1))) ≤ (t108.length : Int) then ((impl_Replay.f kj6 t102 t105 t106 t107 (t108.take (((l0.length : Int) % (wrap64 ((t108.length : Int) + 1))) : Int).toNat)).bind fun bt133 => (if bt133.2.2.2.2 < ((l0.length : Int) % (wrap64 ((t108.length : Int) + 1))) then (if bt133.2.2.2.2 = t118 then ((laws_sameMetas.f kj6 bt133.1 t112).bind fun t141 => (some t141)) else (none)) else ((impl_Replay.f kj6 bt133.1 bt133.2.1 bt133.2.2.1 bt133.2.2.2.1 (t108.drop (((l0.length : Int) % (wrap64 ((t108.length : Int) + 1))) : Int).toNat)).bind fun bt146 => (if (wrap64 (bt133.2.2.2.2 + bt146.2.2.2.2)) = t118 then ((laws_sameMetas.f kj6 bt146.1 t112).bind fun t154 => (if t154 = true then (if bt146.2.1 = t115 then (if bt146.2.2.1 = t116 then (some (bt146.2.2.2.1 == t117)) else (none)) else (none)) else (none))) else (none))))) else (none)) else (none))) = some r := by rw [if_neg (show ¬ (false = true) by decide)] at H; exact H
     clear H
     have H := H1
     clear H1
     by_cases c39 : (wrap64 ((t108.length : Int) + 1)) = 0
     ·rw [if_pos c39] at H
      exact absurd H (by simp)
     ·rw [if_neg c39] at H
      have c39b0 : ((wrap64 ((t108.length : Int) + 1)) == 0) = false := beq_eq_false_iff_ne.mpr c39
      have c39b1 : ((wrap64 ((t108.length : Int) + 1)) != 0) = true := bne_iff_ne.mpr c39
      obtain ⟨ji40, hji40⟩ : ∃ j_ : Int, ((l0.length : Int) % (wrap64 ((t108.length : Int) + 1))) = j_ := ⟨_, rfl⟩
      replace H : (if 0 ≤ (ji40) then (if (ji40) ≤ (t108.length : Int) then ((impl_Replay.f kj6 t102 t105 t106 t107 (t108.take ((ji40) : Int).toNat)).bind fun bt133 => (if bt133.2.2.2.2 < (ji40) then (if bt133.2.2.2.2 = t118 then ((laws_sameMetas.f kj6 bt133.1 t112).bind fun t141 => (some t141)) else (none)) else ((impl_Replay.f kj6 bt133.1 bt133.2.1 bt133.2.2.1 bt133.2.2.2.1 (t108.drop ((ji40) : Int).toNat)).bind fun bt146 => (if (wrap64 (bt133.2.2.2.2 + bt146.2.2.2.2)) = t118 then ((laws_sameMetas.f kj6 bt146.1 t112).bind fun t154 => (if t154 = true then (if bt146.2.1 = t115 then (if bt146.2.2.1 = t116 then (some (bt146.2.2.2.1 == t117)) else (none)) else (none)) else (none))) else (none))))) else (none)) else (none)) = some r := by first | (rw [hji40] at H; exact H) | (simp only [hji40] at H ⊢; exact H)
      by_cases c41 : 0 ≤ (ji40)
      ·rw [if_pos c41] at H
       have c41b0 := eq_true c41
       have c41b1 : decide (0 ≤ (ji40)) = true := decide_eq_true c41
       clear c41
       by_cases c42 : (ji40) ≤ (t108.length : Int)
       ·rw [if_pos c42] at H
        have c42b0 := eq_true c42
        have c42b1 : decide ((ji40) ≤ (t108.length : Int)) = true := decide_eq_true c42
        clear c42
        obtain ⟨y129, hy129⟩ : ∃ y_ : List (S37), y_ = (t108.take ((ji40) : Int).toNat) := ⟨_, rfl⟩
        replace H : ((impl_Replay.f kj6 t102 t105 t106 t107 y129).bind fun bt133 => (if bt133.2.2.2.2 < (ji40) then (if bt133.2.2.2.2 = t118 then ((laws_sameMetas.f kj6 bt133.1 t112).bind fun t141 => (some t141)) else (none)) else ((impl_Replay.f kj6 bt133.1 bt133.2.1 bt133.2.2.1 bt133.2.2.2.1 (t108.drop ((ji40) : Int).toNat)).bind fun bt146 => (if (wrap64 (bt133.2.2.2.2 + bt146.2.2.2.2)) = t118 then ((laws_sameMetas.f kj6 bt146.1 t112).bind fun t154 => (if t154 = true then (if bt146.2.1 = t115 then (if bt146.2.2.1 = t116 then (some (bt146.2.2.2.1 == t117)) else (none)) else (none)) else (none))) else (none))))) = some r := by first | (rw [hy129]; with_reducible exact H) | (have H2_ := (Option.bind_some _ _).symm.trans H; rw [hy129]; with_reducible exact H2_) | (have H2_ := (Option.bind_some _ _).symm.trans H; with_reducible exact H2_) | with_reducible exact H | (rw [hy129]; exact H) | exact H
        have Ny129 := Qz.mk hy129
        clear hy129
        replace H := Option.bind_eq_some_iff.mp H
        obtain ⟨⟨t133, t136, t137, t138, t139⟩, A430, H⟩ := H
        replace H : (if t139 < (ji40) then (if t139 = t118 then ((laws_sameMetas.f kj6 t133 t112).bind fun t141 => (some t141)) else (none)) else ((impl_Replay.f kj6 t133 t136 t137 t138 (t108.drop ((ji40) : Int).toNat)).bind fun bt146 => (if (wrap64 (t139 + bt146.2.2.2.2)) = t118 then ((laws_sameMetas.f kj6 bt146.1 t112).bind fun t154 => (if t154 = true then (if bt146.2.1 = t115 then (if bt146.2.2.1 = t116 then (some (bt146.2.2.2.1 == t117)) else (none)) else (none)) else (none))) else (none)))) = some r := H
        have A43 := Qz.mk A430
        clear A430
        by_cases c44 : t139 < (ji40)
        ·rw [if_pos c44] at H
         have c44b0 : decide (t139 < (ji40)) = true := decide_eq_true c44
         clear c44
         by_cases c45 : t139 = t118
         ·rw [if_pos c45] at H
          have c45b0 : (t139 == t118) = true := beq_iff_eq.mpr c45
          have c45b1 : (t139 != t118) = false := bne_eq_false_iff_eq.mpr c45
          clear c45
          replace H := Option.bind_eq_some_iff.mp H
          obtain ⟨t141, A460, H⟩ := H
          replace H : (some t141) = some r := H
          have A46 := Qz.mk A460
          clear A460
          obtain rfl := Option.some.inj H
          try go_wp2
          replace HO_4 := Qz.mk (Kd.S_drew HO_4.out)
          replace HO_112000 := Qz.mk (Kd.R_drew HO_112000.out)
          replace HO_120000 := Qz.mk (Kd.R_drew HO_120000.out)
          replace HO_128000 := Qz.mk (Kd.R_drew HO_128000.out)
          replace BK111 := Qz.mk (qc BK111.out)
          replace BK119 := Qz.mk (qc BK119.out)
          replace BK127 := Qz.mk (qc BK127.out)
          replace HB := Qz.mk (qi HB.out)
          have q48 : ((ji40) : Int) ≤ ((t108.length : Int) : Int) := of_decide_eq_true yq179
          obtain ⟨i048, hi048, _, hsz48, _⟩ := info_parts info37
          have hroom48 : t108.length ≤ co12 := (Kd.S_reads' HO_4.out).2.1
          have hC48 : Kd.C k37 _ Ao12 t108.length t108 := (Kd.S_reads' HO_4.out).2.2
          have hcut48 := cut_to (P := Try.prog) 50 37 .i64 Try.underlying50 hi048 Ao12 t108.length co12 (ji40) (of_decide_eq_true yq179) q48 hroom48
          have hr48 := Kd.C_take (m := ((ji40) : Int).toNat) hC48 (by omega)
          have hy48 : y129.length = ((ji40) : Int).toNat := (by rw [Ny129.out, List.length_take]; omega)
          rw [← Ny129.out] at hr48
          rw [← hy48] at hcut48
          have HR132 := Qz.mk hr48
          have HC132 := Qz.mk (show y129.length ≤ co12 from by omega)
          clear hr48 hC48 hroom48 hi048 hsz48
          have KY48 := Qz.mk hy48
          clear hy48
          have KL48 := Qz.mk (show ((ji40) : Int).toNat ≤ t108.length from by omega)
          replace q48 := eq_true q48
          refine start_ (n := 11) (S := fun w' => w'.cell? ⟨gb111, 0, none⟩ = some (.slice Ao10 t102.length co10) ∧ w'.cell? ⟨gb111, 1, none⟩ = some (.int .i64 t105) ∧ w'.cell? ⟨gb111, 2, none⟩ = some (.int .i64 t106) ∧ w'.cell? ⟨gb111, 3, none⟩ = some (.int .i64 t107)) (ds := []) bq1 (by kernel_rfl) rfl rfl ⟨(qd BK111.out 0).trans rfl, (qd BK111.out 1).trans rfl, (qd BK111.out 2).trans rfl, (qd BK111.out 3).trans rfl⟩ (fun hHeld => ?_); refine with_tabW laws_FnReplayed.tab9 laws_FnReplayed.bits9 (fun HT_ HW_ => ?_)
          generalize wc.drew = w47 at HO_4 HO_112000 HO_120000 HO_128000 BK111 BK119 BK127 HB HR132 hHeld ⊢
          refine pure_ (i := 1) (N := some 59) (v := ?_) (a' := ?_) bq4 rfl rfl (qf1 HT_.out (by kernel_rfl)) (fun _ _ _ h => h) (Or.inl ⟨by rfl, ?_⟩) ?_ ?_
          rotate_left
          ·intro w'
           go_simp
           with_reducible rfl
          rotate_left
          ·simp only [Act.put, sq1, sq2, sq3, i64_w, i32_w]
           rfl
          refine pure_ (i := 2) (N := some 60) (v := ?_) (a' := ?_) bq6 rfl rfl (qf1 HT_.out (by kernel_rfl)) (fun _ _ _ h => h) (Or.inl ⟨by rfl, ?_⟩) ?_ ?_
          rotate_left
          ·intro w'
           go_simp
           with_reducible rfl
          rotate_left
          ·simp only [Act.put, sq1, sq2, sq3, i64_w, i32_w]
           rfl
          refine pure_ (i := 3) (N := some 61) (v := ?_) (a' := ?_) bq8 rfl rfl (qf1 HT_.out (by kernel_rfl)) (fun _ _ _ h => h) (Or.inl ⟨by rfl, ?_⟩) ?_ ?_
          rotate_left
          ·intro w'
           go_simp
           with_reducible rfl
          rotate_left
          ·simp only [Act.put, sq1, sq2, sq3, i64_w, i32_w]
           rfl
          refine take_ (i := 0) (N := some 58) (v := ?_) (a' := ?_) bq16 rfl rfl (take_ofW HT_.out HW_.out (by kernel_rfl)) (fun _ _ _ h => h) (Or.inl ⟨by rfl, ?_⟩) hHeld ?_ ?_
          rotate_left
          ·rintro w' ⟨s0, s1, s2, s3⟩
           go_simp
           with_reducible rfl
          rotate_left
          ·simp only [Act.put, sq1, sq2, sq3, i64_w, i32_w]
           rfl
          refine join_ (σ := Value × Nat) 2 bq39 (fun s_ => [(62, .tuple #[.agg #[s_.1, .int .i64 t136, .int .i64 t137, .int .i64 t138], .int .i64 t139]), (10, .pointer (some ⟨s_.2, 0, none⟩)), (57, .tuple #[.agg #[s_.1, .int .i64 t136, .int .i64 t137, .int .i64 t138], .int .i64 t139]), (63, .agg #[s_.1, .int .i64 t136, .int .i64 t137, .int .i64 t138]), (64, .int .i64 t139)]) (fun s_ w' => (w'.cell? ⟨gb111, 0, none⟩ = some (.slice Ao10 t102.length co10) ∧ w'.cell? ⟨gb111, 1, none⟩ = some (.int .i64 t105) ∧ w'.cell? ⟨gb111, 2, none⟩ = some (.int .i64 t106) ∧ w'.cell? ⟨gb111, 3, none⟩ = some (.int .i64 t107)) ∧ (Kd.R k66 66 w' w.heap.size (fun k_ => some k_ ≠ (.slice Ao10 t102.length co10 : Value).ownBlock ∧ some k_ ≠ (.slice Ao15 t112.length co15 : Value).ownBlock ∧ some k_ ≠ (.slice Ao21 t120.length co21 : Value).ownBlock) s_.1 t133) ∧ (Kd.R k66 66 w' w.heap.size (fun k_ => some k_ ≠ (s_.1 : Value).ownBlock ∧ some k_ ≠ (.slice Ao15 t112.length co15 : Value).ownBlock ∧ some k_ ≠ (.slice Ao21 t120.length co21 : Value).ownBlock) (.slice Ao10 t102.length co10) t102) ∧ (Kd.R k66 66 w' w.heap.size (fun k_ => some k_ ≠ (s_.1 : Value).ownBlock ∧ some k_ ≠ (.slice Ao10 t102.length co10 : Value).ownBlock ∧ some k_ ≠ (.slice Ao21 t120.length co21 : Value).ownBlock) (.slice Ao15 t112.length co15) t112) ∧ (Kd.R k66 66 w' w.heap.size (fun k_ => some k_ ≠ (s_.1 : Value).ownBlock ∧ some k_ ≠ (.slice Ao10 t102.length co10 : Value).ownBlock ∧ some k_ ≠ (.slice Ao15 t112.length co15 : Value).ownBlock) (.slice Ao21 t120.length co21) t120) ∧ (Kd.S k37 37 w' w.heap.size (fun k_ => some k_ ≠ (s_.1 : Value).ownBlock ∧ some k_ ≠ (.slice Ao10 t102.length co10 : Value).ownBlock ∧ some k_ ≠ (.slice Ao15 t112.length co15 : Value).ownBlock ∧ some k_ ≠ (.slice Ao21 t120.length co21 : Value).ownBlock) (.slice Ao12 t108.length co12) t108) ∧ (w'.heap[gb111]? = some (.cells #[.slice Ao10 t102.length co10, .int .i64 t105, .int .i64 t106, .int .i64 t107] 32 (0, 0))) ∧ (w'.heap[gb119]? = some (.cells #[.slice Ao15 t112.length co15, .int .i64 t115, .int .i64 t116, .int .i64 t117] 32 (0, 0))) ∧ (w'.heap[gb127]? = some (.cells #[.slice Ao21 t120.length co21, .int .i64 t123, .int .i64 t124, .int .i64 t125] 32 (0, 0))) ∧ (w'.heap[s_.2]? = some (.cells #[.slice none 0 0, .int .i64 0, .int .i64 0, .int .i64 0] 32 (0, 0))) ∧ (w.heap.size ≤ s_.2) ∧ (w.heap.size ≤ s_.2) ∧ (gb111 ≠ s_.2) ∧ (s_.2 ≠ gb111) ∧ (gb119 ≠ s_.2) ∧ (s_.2 ≠ gb119) ∧ (gb127 ≠ s_.2) ∧ (s_.2 ≠ gb127) ∧ (Below w.heap.size w w')) ?_ ?_
          rotate_left
          ·intro hCont
           refine two_ (i := 4) (j := 8) (Ni := some 62) (Nj := some 10) bq20 bq17 rfl rfl rfl rfl (two_of HT_.out (by kernel_rfl)) (by decide) (by decide) (fun K hK => ?_) (fun K hK => ?_)
           ·skip
            refine goes_ Try.func31 (by kernel_rfl) rfl #[.agg #[.slice Ao10 t102.length co10, .int .i64 t105, .int .i64 t106, .int .i64 t107], .slice Ao12 y129.length co12] (by rfl) rfl rfl yq147 ?_
            with_reducible refine (impl_Replay.calls kj6 _ _ t102 t105 t106 t107 _ _ y129 t133 t136 t137 t138 t139 _ ?side1 ?side2 ?side3 ?side4 A43.out).mono ?_
            (case side1 => exact yq166)
            (case side2 => exact (Kd.R_reads' HO_112000.out).2.1)
            (case side3 => exact yq176)
            (case side4 => exact HC132.out)
            rintro e w49 ⟨v134, rfl, ho0, hb⟩
            refine ⟨_, rfl, ?_⟩
            replace HO_4 := Qz.mk (Kd.S_elder' yq152 (Kd.R_base ho0) hb)
            have HO135 := Qz.mk (Kd.R_lower (Kd.R_new' (Kd.R_new' (Kd.R_new' ho0 (Kd.R_lt yq150)) (Kd.R_lt yq149)) (Kd.R_lt yq148)) (qz yq146))
            replace HO_112000 := Qz.mk (Kd.R_elder' yq150 (Kd.R_base ho0) hb)
            replace HO_120000 := Qz.mk (Kd.R_elder' yq149 (Kd.R_base ho0) hb)
            replace HO_128000 := Qz.mk (Kd.R_elder' yq148 (Kd.R_base ho0) hb)
            replace BK111 := bkbf13 BK111 yq141 hb
            replace BK119 := bkbf13 BK119 yq142 hb
            replace BK127 := bkbf13 BK127 yq143 hb
            replace HR132 := Qz.mk (Kd.C_below yq145 hb)
            replace HB := Qz.mk (qq yq146 hb)
            (try clear hb)
            (try clear hk)
            (try clear ho0)
            refine hK.out _ _ ⟨(qd BK111.out 0).trans rfl, (qd BK111.out 1).trans rfl, (qd BK111.out 2).trans rfl, (qd BK111.out 3).trans rfl⟩ (fun hHeld => ?_)
            clear hK K
            refine norm_ (a' := ?_) ?_ ?_
            rotate_left
            ·show Act.put _ (some 62) _ = _
             simp only [Act.put, sq1, sq2, sq3, i64_w, i32_w]
             rfl
            refine pure_ (i := 5) (N := some 57) (v := ?_) (a' := ?_) bq25 rfl rfl (qf1 HT_.out (by kernel_rfl)) (fun _ _ _ h => h) (Or.inl ⟨by rfl, ?_⟩) ?_ ?_
            rotate_left
            ·intro w'
             go_simp
             with_reducible rfl
            rotate_left
            ·simp only [Act.put, sq1, sq2, sq3, i64_w, i32_w]
             rfl
            refine pure_ (i := 6) (N := some 63) (v := ?_) (a' := ?_) bq30 rfl rfl (qf1 HT_.out (by kernel_rfl)) (fun _ _ _ h => h) (Or.inl ⟨by rfl, ?_⟩) ?_ ?_
            rotate_left
            ·intro w'
             go_simp
             with_reducible rfl
            rotate_left
            ·simp only [Act.put, sq1, sq2, sq3, i64_w, i32_w]
             rfl
            refine pure_ (i := 7) (N := some 64) (v := ?_) (a' := ?_) bq35 rfl rfl (qf1 HT_.out (by kernel_rfl)) (fun _ _ _ h => h) (Or.inl ⟨by rfl, ?_⟩) ?_ ?_
            rotate_left
            ·intro w'
             go_simp
             with_reducible rfl
            rotate_left
            ·simp only [Act.put, sq1, sq2, sq3, i64_w, i32_w]
             rfl
            refine one_ (i := 8) (N := some 10) bq39 rfl rfl (one_of HT_.out (by kernel_rfl)) (by decide) (fun K hK => ?_)
            refine box_step ?hg (N := 10) ?hd (cs := #[.slice none 0 0, .int .i64 0, .int .i64 0, .int .i64 0]) (t := 32) ?hr ?_; (case hd => rfl); (case hg => rfl); (case hr => exact yq181)
            intro gb140 hg w50 hbox hb
            replace HO_4 := Qz.mk (Kd.S_below yq152 hb)
            replace HO_112000 := Qz.mk (Kd.R_below yq150 hb)
            replace HO_120000 := Qz.mk (Kd.R_below yq149 hb)
            replace HO_128000 := Qz.mk (Kd.R_below yq148 hb)
            replace HO135 := Qz.mk (Kd.R_below yq164 hb)
            replace HR132 := Qz.mk (Kd.C_below yq145 hb)
            have BK140 := Qz.mk (hbox)
            have GW140 := Qz.mk ((by rw [hg]; exact (qz yq146) : w.heap.size ≤ gb140))
            have GE140 := GW140
            replace HB := Qz.mk (qq yq146 hb)
            have NB111_140 := Qz.mk ((yq153 : gb111 ≠ gb140))
            have NB140_111 := Qz.mk ((yq154 : gb140 ≠ gb111))
            replace BK111 := bkbf13 BK111 yq141 hb
            have NB119_140 := Qz.mk ((yq158 : gb119 ≠ gb140))
            have NB140_119 := Qz.mk ((yq159 : gb140 ≠ gb119))
            replace BK119 := bkbf13 BK119 yq142 hb
            have NB127_140 := Qz.mk ((yq160 : gb127 ≠ gb140))
            have NB140_127 := Qz.mk ((yq161 : gb140 ≠ gb127))
            replace BK127 := bkbf13 BK127 yq143 hb
            clear hb hbox hg
            refine hK.out _ _ ⟨(qd BK111.out 0).trans rfl, (qd BK111.out 1).trans rfl, (qd BK111.out 2).trans rfl, (qd BK111.out 3).trans rfl⟩ (fun hHeld => ?_)
            clear hK K
            refine norm_ (a' := ?_) ?_ ?_
            rotate_left
            ·show Act.put _ (some 10) _ = _
             simp only [Act.put, sq1, sq2, sq3, i64_w, i32_w]
             rfl
            exact norm_ (by simp only [putAll, Act.put, sq1, sq2, sq3]) (hCont (v134, gb140) _ ⟨hHeld, yq174, yq173, yq172, yq171, yq167, yq141, yq142, yq143, yq151, GW140.out, GE140.out, NB111_140.out, NB140_111.out, NB119_140.out, NB140_119.out, NB127_140.out, NB140_127.out, yq144⟩)
           ·skip
            refine box_step ?hg (N := 10) ?hd (cs := #[.slice none 0 0, .int .i64 0, .int .i64 0, .int .i64 0]) (t := 32) ?hr ?_; (case hd => rfl); (case hg => rfl); (case hr => exact yq181)
            intro gb140 hg w49 hbox hb
            replace HO_4 := Qz.mk (Kd.S_below yq152 hb)
            replace HO_112000 := Qz.mk (Kd.R_below yq150 hb)
            replace HO_120000 := Qz.mk (Kd.R_below yq149 hb)
            replace HO_128000 := Qz.mk (Kd.R_below yq148 hb)
            replace HR132 := Qz.mk (Kd.C_below yq145 hb)
            have BK140 := Qz.mk (hbox)
            have GW140 := Qz.mk ((by rw [hg]; exact (qz yq146) : w.heap.size ≤ gb140))
            have GE140 := GW140
            replace HB := Qz.mk (qq yq146 hb)
            have NB111_140 := Qz.mk ((yq153 : gb111 ≠ gb140))
            have NB140_111 := Qz.mk ((yq154 : gb140 ≠ gb111))
            replace BK111 := bkbf13 BK111 yq141 hb
            have NB119_140 := Qz.mk ((yq158 : gb119 ≠ gb140))
            have NB140_119 := Qz.mk ((yq159 : gb140 ≠ gb119))
            replace BK119 := bkbf13 BK119 yq142 hb
            have NB127_140 := Qz.mk ((yq160 : gb127 ≠ gb140))
            have NB140_127 := Qz.mk ((yq161 : gb140 ≠ gb127))
            replace BK127 := bkbf13 BK127 yq143 hb
            clear hb hbox hg
            refine hK.out _ _ ⟨(qd BK111.out 0).trans rfl, (qd BK111.out 1).trans rfl, (qd BK111.out 2).trans rfl, (qd BK111.out 3).trans rfl⟩ (fun hHeld => ?_)
            clear hK K
            refine norm_ (a' := ?_) ?_ ?_
            rotate_left
            ·show Act.put _ (some 10) _ = _
             simp only [Act.put, sq1, sq2, sq3, i64_w, i32_w]
             rfl
            refine one_ (i := 4) (N := some 62) bq22 rfl rfl (one_of HT_.out (by kernel_rfl)) (by decide) (fun K hK => ?_)
            refine goes_ Try.func31 (by kernel_rfl) rfl #[.agg #[.slice Ao10 t102.length co10, .int .i64 t105, .int .i64 t106, .int .i64 t107], .slice Ao12 y129.length co12] (by rfl) rfl rfl yq147 ?_
            with_reducible refine (impl_Replay.calls kj6 _ _ t102 t105 t106 t107 _ _ y129 t133 t136 t137 t138 t139 _ ?side1 ?side2 ?side3 ?side4 A43.out).mono ?_
            (case side1 => exact yq166)
            (case side2 => exact (Kd.R_reads' HO_112000.out).2.1)
            (case side3 => exact yq176)
            (case side4 => exact HC132.out)
            rintro e w50 ⟨v134, rfl, ho0, hb⟩
            refine ⟨_, rfl, ?_⟩
            replace HO_4 := Qz.mk (Kd.S_elder' yq152 (Kd.R_base ho0) hb)
            have HO135 := Qz.mk (Kd.R_lower (Kd.R_new' (Kd.R_new' (Kd.R_new' ho0 (Kd.R_lt yq150)) (Kd.R_lt yq149)) (Kd.R_lt yq148)) (qz yq144))
            replace HO_112000 := Qz.mk (Kd.R_elder' yq150 (Kd.R_base ho0) hb)
            replace HO_120000 := Qz.mk (Kd.R_elder' yq149 (Kd.R_base ho0) hb)
            replace HO_128000 := Qz.mk (Kd.R_elder' yq148 (Kd.R_base ho0) hb)
            replace BK111 := bkbf13 BK111 yq141 hb
            replace BK119 := bkbf13 BK119 yq142 hb
            replace BK127 := bkbf13 BK127 yq143 hb
            replace HR132 := Qz.mk (Kd.C_below yq145 hb)
            replace BK140 := bkbf13 BK140 yq151 hb
            replace HB := Qz.mk (qq yq144 hb)
            (try clear hb)
            (try clear hk)
            (try clear ho0)
            refine hK.out _ _ ⟨(qd BK111.out 0).trans rfl, (qd BK111.out 1).trans rfl, (qd BK111.out 2).trans rfl, (qd BK111.out 3).trans rfl⟩ (fun hHeld => ?_)
            clear hK K
            refine norm_ (a' := ?_) ?_ ?_
            rotate_left
            ·show Act.put _ (some 62) _ = _
             simp only [Act.put, sq1, sq2, sq3, i64_w, i32_w]
             rfl
            refine pure_ (i := 5) (N := some 57) (v := ?_) (a' := ?_) bq27 rfl rfl (qf1 HT_.out (by kernel_rfl)) (fun _ _ _ h => h) (Or.inl ⟨by rfl, ?_⟩) ?_ ?_
            rotate_left
            ·intro w'
             go_simp
             with_reducible rfl
            rotate_left
            ·simp only [Act.put, sq1, sq2, sq3, i64_w, i32_w]
             rfl
            refine pure_ (i := 6) (N := some 63) (v := ?_) (a' := ?_) bq32 rfl rfl (qf1 HT_.out (by kernel_rfl)) (fun _ _ _ h => h) (Or.inl ⟨by rfl, ?_⟩) ?_ ?_
            rotate_left
            ·intro w'
             go_simp
             with_reducible rfl
            rotate_left
            ·simp only [Act.put, sq1, sq2, sq3, i64_w, i32_w]
             rfl
            refine pure_ (i := 7) (N := some 64) (v := ?_) (a' := ?_) bq39 rfl rfl (qf1 HT_.out (by kernel_rfl)) (fun _ _ _ h => h) (Or.inl ⟨by rfl, ?_⟩) ?_ ?_
            rotate_left
            ·intro w'
             go_simp
             with_reducible rfl
            rotate_left
            ·simp only [Act.put, sq1, sq2, sq3, i64_w, i32_w]
             rfl
            exact norm_ (by simp only [putAll, Act.put, sq1, sq2, sq3]) (hCont (v134, gb140) _ ⟨hHeld, yq174, yq173, yq172, yq171, yq167, yq141, yq142, yq143, yq151, GW140.out, GE140.out, NB111_140.out, NB140_111.out, NB119_140.out, NB140_119.out, NB127_140.out, NB140_127.out, yq144⟩)
          rintro ⟨v134, gb140⟩ w51 ⟨hS_, h0_, h1_, h2_, h3_, h4_, h5_, h6_, h7_, h8_, h9_, h10_, h11_, h12_, h13_, h14_, h15_, h16_, h17_⟩
          have n0_ : Qz (Kd.R k66 66 w51 w.heap.size (fun k_ => some k_ ≠ (.slice Ao10 t102.length co10 : Value).ownBlock ∧ some k_ ≠ (.slice Ao15 t112.length co15 : Value).ownBlock ∧ some k_ ≠ (.slice Ao21 t120.length co21 : Value).ownBlock) v134 t133) := ⟨h0_⟩
          have n1_ : Qz (Kd.R k66 66 w51 w.heap.size (fun k_ => some k_ ≠ (v134 : Value).ownBlock ∧ some k_ ≠ (.slice Ao15 t112.length co15 : Value).ownBlock ∧ some k_ ≠ (.slice Ao21 t120.length co21 : Value).ownBlock) (.slice Ao10 t102.length co10) t102) := ⟨h1_⟩
          have n2_ : Qz (Kd.R k66 66 w51 w.heap.size (fun k_ => some k_ ≠ (v134 : Value).ownBlock ∧ some k_ ≠ (.slice Ao10 t102.length co10 : Value).ownBlock ∧ some k_ ≠ (.slice Ao21 t120.length co21 : Value).ownBlock) (.slice Ao15 t112.length co15) t112) := ⟨h2_⟩
          have n3_ : Qz (Kd.R k66 66 w51 w.heap.size (fun k_ => some k_ ≠ (v134 : Value).ownBlock ∧ some k_ ≠ (.slice Ao10 t102.length co10 : Value).ownBlock ∧ some k_ ≠ (.slice Ao15 t112.length co15 : Value).ownBlock) (.slice Ao21 t120.length co21) t120) := ⟨h3_⟩
          have n4_ : Qz (Kd.S k37 37 w51 w.heap.size (fun k_ => some k_ ≠ (v134 : Value).ownBlock ∧ some k_ ≠ (.slice Ao10 t102.length co10 : Value).ownBlock ∧ some k_ ≠ (.slice Ao15 t112.length co15 : Value).ownBlock ∧ some k_ ≠ (.slice Ao21 t120.length co21 : Value).ownBlock) (.slice Ao12 t108.length co12) t108) := ⟨h4_⟩
          have n5_ : Qz (w51.heap[gb111]? = some (.cells #[.slice Ao10 t102.length co10, .int .i64 t105, .int .i64 t106, .int .i64 t107] 32 (0, 0))) := ⟨h5_⟩
          have n6_ : Qz (w51.heap[gb119]? = some (.cells #[.slice Ao15 t112.length co15, .int .i64 t115, .int .i64 t116, .int .i64 t117] 32 (0, 0))) := ⟨h6_⟩
          have n7_ : Qz (w51.heap[gb127]? = some (.cells #[.slice Ao21 t120.length co21, .int .i64 t123, .int .i64 t124, .int .i64 t125] 32 (0, 0))) := ⟨h7_⟩
          have n8_ : Qz (w51.heap[gb140]? = some (.cells #[.slice none 0 0, .int .i64 0, .int .i64 0, .int .i64 0] 32 (0, 0))) := ⟨h8_⟩
          have n9_ : Qz (w.heap.size ≤ gb140) := ⟨h9_⟩
          have n10_ : Qz (w.heap.size ≤ gb140) := ⟨h10_⟩
          have n11_ : Qz (gb111 ≠ gb140) := ⟨h11_⟩
          have n12_ : Qz (gb140 ≠ gb111) := ⟨h12_⟩
          have n13_ : Qz (gb119 ≠ gb140) := ⟨h13_⟩
          have n14_ : Qz (gb140 ≠ gb119) := ⟨h14_⟩
          have n15_ : Qz (gb127 ≠ gb140) := ⟨h15_⟩
          have n16_ : Qz (gb140 ≠ gb127) := ⟨h16_⟩
          have n17_ : Qz (Below w.heap.size w w51) := ⟨h17_⟩
          clear HO_4
          clear HO_112000
          clear HO_120000
          clear HO_128000
          clear BK111
          clear BK119
          clear BK127
          clear HB
          clear h0_ h1_ h2_ h3_ h4_ h5_ h6_ h7_ h8_ h9_ h10_ h11_ h12_ h13_ h14_ h15_ h16_ h17_
          have HO135 := n0_
          have HO_112000 := n1_
          have HO_120000 := n2_
          have HO_128000 := n3_
          have HO_4 := n4_
          have BK111 := n5_
          have BK119 := n6_
          have BK127 := n7_
          have BK140 := n8_
          have GW140 := n9_
          have GE140 := n10_
          have NB111_140 := n11_
          have NB140_111 := n12_
          have NB119_140 := n13_
          have NB140_119 := n14_
          have NB127_140 := n15_
          have NB140_127 := n16_
          have HB := n17_
          clear n0_ n1_ n2_ n3_ n4_ n5_ n6_ n7_ n8_ n9_ n10_ n11_ n12_ n13_ n14_ n15_ n16_ n17_
          have hHeld : w51.cell? ⟨gb111, 0, none⟩ = some (.slice Ao10 t102.length co10) ∧ w51.cell? ⟨gb111, 1, none⟩ = some (.int .i64 t105) ∧ w51.cell? ⟨gb111, 2, none⟩ = some (.int .i64 t106) ∧ w51.cell? ⟨gb111, 3, none⟩ = some (.int .i64 t107) := hS_
          obtain ⟨Ao52, co52, eo52⟩ := Kd.R_slice HO135.out
          (first | subst eo52 | (injection eo52 with f1_ f2_ f3_; have f4_ := f1_.symm; have f5_ := f3_.symm; clear f1_ f2_ f3_; subst f4_; subst f5_))
          refine norm_ (a' := ?_) ?_ ?_
          rotate_left
          ·simp only [putAll, Act.put, sq1, sq2, sq3]
           rfl
          refine one_ (i := 9) (N := none) bq42 rfl rfl (one_of HT_.out (by kernel_rfl)) (by decide) (fun K hK => ?_)
          have hs53 : w51.cell? ⟨gb140, 0, none⟩ = some (.slice none 0 0) := (qd BK140.out 0).trans rfl
          have hfs53 := qf BK140.out 0
          have hns53_0 := NB111_140.out
          have hns53_1 := NB119_140.out
          have hns53_2 := NB127_140.out
          have hms53_0 := NB140_111.out
          have hms53_1 := NB140_119.out
          have hms53_2 := NB140_127.out
          have hs54 : w51.cell? ⟨gb140, 1, none⟩ = some (.int .i64 0) := (qd BK140.out 1).trans rfl
          have hfs54 := qf BK140.out 1
          have hns54_0 := NB111_140.out
          have hns54_1 := NB119_140.out
          have hns54_2 := NB127_140.out
          have hms54_0 := NB140_111.out
          have hms54_1 := NB140_119.out
          have hms54_2 := NB140_127.out
          have hs55 : w51.cell? ⟨gb140, 2, none⟩ = some (.int .i64 0) := (qd BK140.out 2).trans rfl
          have hfs55 := qf BK140.out 2
          have hns55_0 := NB111_140.out
          have hns55_1 := NB119_140.out
          have hns55_2 := NB127_140.out
          have hms55_0 := NB140_111.out
          have hms55_1 := NB140_119.out
          have hms55_2 := NB140_127.out
          have hs56 : w51.cell? ⟨gb140, 3, none⟩ = some (.int .i64 0) := (qd BK140.out 3).trans rfl
          have hfs56 := qf BK140.out 3
          have hns56_0 := NB111_140.out
          have hns56_1 := NB119_140.out
          have hns56_2 := NB127_140.out
          have hms56_0 := NB140_111.out
          have hms56_1 := NB140_119.out
          have hms56_2 := NB140_127.out
          refine skip_ (w1 := ?_) (by rfl) rfl ?_ ?_
          rotate_left
          ·go_simp
           rfl
          refine hK.out _ _ ⟨((qr (p := ⟨gb140, _, none⟩) NB111_140.out _).trans (((qr (p := ⟨gb140, _, none⟩) NB111_140.out _).trans (((qr (p := ⟨gb140, _, none⟩) NB111_140.out _).trans (((qr (p := ⟨gb140, _, none⟩) NB111_140.out _).trans (hHeld.1)))))))), ((qr (p := ⟨gb140, _, none⟩) NB111_140.out _).trans (((qr (p := ⟨gb140, _, none⟩) NB111_140.out _).trans (((qr (p := ⟨gb140, _, none⟩) NB111_140.out _).trans (((qr (p := ⟨gb140, _, none⟩) NB111_140.out _).trans (hHeld.2.1)))))))), ((qr (p := ⟨gb140, _, none⟩) NB111_140.out _).trans (((qr (p := ⟨gb140, _, none⟩) NB111_140.out _).trans (((qr (p := ⟨gb140, _, none⟩) NB111_140.out _).trans (((qr (p := ⟨gb140, _, none⟩) NB111_140.out _).trans (hHeld.2.2.1)))))))), ((qr (p := ⟨gb140, _, none⟩) NB111_140.out _).trans (((qr (p := ⟨gb140, _, none⟩) NB111_140.out _).trans (((qr (p := ⟨gb140, _, none⟩) NB111_140.out _).trans (((qr (p := ⟨gb140, _, none⟩) NB111_140.out _).trans (hHeld.2.2.2))))))))⟩ (fun hHeld => ?_)
          clear hK K
          refine pure_ (i := 10) (N := some 11) (v := ?_) (a' := ?_) bq47 rfl rfl (qf1 HT_.out (by kernel_rfl)) (fun _ _ _ h => h) (Or.inl ⟨by rfl, ?_⟩) ?_ ?_
          rotate_left
          ·intro w'
           go_simp
           with_reducible rfl
          rotate_left
          ·simp only [Act.put, sq1, sq2, sq3, i64_w, i32_w]
           rfl
          refine done_ (done_of HT_.out (by kernel_rfl)) ?_
          have hnb57 := NB140_111.out
          have hnc57 := NB111_140.out
          have hnb58 := NB140_119.out
          have hnc58 := NB119_140.out
          have hnb59 := NB140_127.out
          have hnc59 := NB127_140.out
          have hcz60_0 := (qd BK140.out 0).trans rfl
          have hcz60_1 := (qd BK140.out 1).trans rfl
          have hcz60_2 := (qd BK140.out 2).trans rfl
          have hcz60_3 := (qd BK140.out 3).trans rfl
          have hfz60_0 := qf BK140.out 0
          have hfz60_1 := qf BK140.out 1
          have hfz60_2 := qf BK140.out 2
          have hfz60_3 := qf BK140.out 3
          have hnb61 := NB119_111.out
          have hnc61 := NB111_119.out
          have hnb62 := NB119_127.out
          have hnc62 := NB127_119.out
          have hcz63_0 := (qd BK119.out 0).trans rfl
          have hcz63_1 := (qd BK119.out 1).trans rfl
          have hcz63_2 := (qd BK119.out 2).trans rfl
          have hcz63_3 := (qd BK119.out 3).trans rfl
          have hfz63_0 := qf BK119.out 0
          have hfz63_1 := qf BK119.out 1
          have hfz63_2 := qf BK119.out 2
          have hfz63_3 := qf BK119.out 3
          try go_wp2_with (first | (go_at_call 50; (with_reducible refine (laws_sameMetas.calls kj6 _ _ t133 _ _ t112 t141 _ ?side1 ?side2 ?side3 ?side4 A46.out).mono ?_); (case side1 => refine (Kd.R_reads' (e := 66) (base := w.heap.size) (ok := fun k_ => (some k_ ≠ (.slice Ao10 t102.length co10 : Value).ownBlock ∧ (some k_ ≠ (.slice Ao15 t112.length co15 : Value).ownBlock ∧ some k_ ≠ (.slice Ao21 t120.length co21 : Value).ownBlock))) (n := t133.length) (c := co52) ?_).2.2; exact (by (with_reducible repeat (first | apply Kd.R_alloc | apply Kd.R_drewN | apply Kd.R_drew)); exact (Kd.R_mono (Kd.R_far (p := ⟨gb140, 3, none⟩) (Kd.R_far (p := ⟨gb140, 2, none⟩) (Kd.R_far (p := ⟨gb140, 1, none⟩) (Kd.R_far (p := ⟨gb140, 0, none⟩) (Kd.R_types HO135.out BK140.out (by decide)) (fun _ hk => hk.2) (.slice Ao52 t133.length co52)) (fun _ hk => hk.2) (.int .i64 t136)) (fun _ hk => hk.2) (.int .i64 t137)) (fun _ hk => hk.2) (.int .i64 t138)) (fun _ h_ => h_.1)))); (case side2 => exact (Kd.R_reads' HO135.out).2.1); (case side3 => refine (Kd.R_reads' (e := 66) (base := w.heap.size) (ok := fun k_ => (some k_ ≠ (.slice Ao52 t133.length co52 : Value).ownBlock ∧ (some k_ ≠ (.slice Ao10 t102.length co10 : Value).ownBlock ∧ some k_ ≠ (.slice Ao21 t120.length co21 : Value).ownBlock))) (n := t112.length) (c := co15) ?_).2.2; exact (by (with_reducible repeat (first | apply Kd.R_alloc | apply Kd.R_drewN | apply Kd.R_drew)); exact (Kd.R_mono (Kd.R_far (p := ⟨gb140, 3, none⟩) (Kd.R_far (p := ⟨gb140, 2, none⟩) (Kd.R_far (p := ⟨gb140, 1, none⟩) (Kd.R_far (p := ⟨gb140, 0, none⟩) (Kd.R_types HO_120000.out BK140.out (by decide)) (fun _ hk => hk.2) (.slice Ao52 t133.length co52)) (fun _ hk => hk.2) (.int .i64 t136)) (fun _ hk => hk.2) (.int .i64 t137)) (fun _ hk => hk.2) (.int .i64 t138)) (fun _ h_ => h_.1)))); (case side4 => exact (Kd.R_reads' HO_120000.out).2.1); rintro e w' ⟨rfl, ⟨nd, rfl⟩⟩))
          go_ret
          exact ⟨by first | rfl | (simp [qy, qx] <;> rfl) | (simp only [← hji40]; first | rfl | (simp [qy, qx] <;> rfl)) | (simp [*, qy, qx] <;> rfl), by repeat (first | (with_reducible first | exact HB.out | apply qh | apply qg | apply qi | refine qe ?_ GE111.out | refine qe ?_ GE119.out | refine qe ?_ GE127.out | refine qe ?_ GE140.out) | exact HB.out)⟩
         ·rw [if_neg c45] at H
          exact absurd H (by simp)
        ·rw [if_neg c44] at H
         have c44b0 : decide (t139 < (ji40)) = false := decide_eq_false c44
         clear c44
         have c64b0 := eq_true (of_decide_eq_true yq179 : 0 ≤ (ji40))
         have c65b0 := eq_true (of_decide_eq_true yq179 : (ji40) ≤ (t108.length : Int))
         obtain ⟨y142, hy142⟩ : ∃ y_ : List (S37), y_ = (t108.drop ((ji40) : Int).toNat) := ⟨_, rfl⟩
         replace H : ((impl_Replay.f kj6 t133 t136 t137 t138 y142).bind fun bt146 => (if (wrap64 (t139 + bt146.2.2.2.2)) = t118 then ((laws_sameMetas.f kj6 bt146.1 t112).bind fun t154 => (if t154 = true then (if bt146.2.1 = t115 then (if bt146.2.2.1 = t116 then (some (bt146.2.2.2.1 == t117)) else (none)) else (none)) else (none))) else (none))) = some r := by first | (rw [hy142]; with_reducible exact H) | (have H2_ := (Option.bind_some _ _).symm.trans H; rw [hy142]; with_reducible exact H2_) | (have H2_ := (Option.bind_some _ _).symm.trans H; with_reducible exact H2_) | with_reducible exact H | (rw [hy142]; exact H) | exact H
         have Ny142 := Qz.mk hy142
         clear hy142
         replace H := Option.bind_eq_some_iff.mp H
         obtain ⟨⟨t146, t149, t150, t151, t152⟩, A660, H⟩ := H
         replace H : (if (wrap64 (t139 + t152)) = t118 then ((laws_sameMetas.f kj6 t146 t112).bind fun t154 => (if t154 = true then (if t149 = t115 then (if t150 = t116 then (some (t151 == t117)) else (none)) else (none)) else (none))) else (none)) = some r := H
         have A66 := Qz.mk A660
         clear A660
         by_cases c67 : (wrap64 (t139 + t152)) = t118
         ·rw [if_pos c67] at H
          have c67b0 : ((wrap64 (t139 + t152)) == t118) = true := beq_iff_eq.mpr c67
          have c67b1 : ((wrap64 (t139 + t152)) != t118) = false := bne_eq_false_iff_eq.mpr c67
          clear c67
          replace H := Option.bind_eq_some_iff.mp H
          obtain ⟨t154, A680, H⟩ := H
          replace H : (if t154 = true then (if t149 = t115 then (if t150 = t116 then (some (t151 == t117)) else (none)) else (none)) else (none)) = some r := H
          have A68 := Qz.mk A680
          clear A680
          by_cases c69 : t154 = true
          ·subst c69
           have H1 : (if t149 = t115 then (if t150 = t116 then (some (t151 == t117)) else (none)) else (none)) = some r := by rw [if_pos rfl] at H; exact H
           clear H
           have H := H1
           clear H1
           by_cases c70 : t149 = t115
           ·rw [if_pos c70] at H
            have c70b0 : (t149 == t115) = true := beq_iff_eq.mpr c70
            have c70b1 : (t149 != t115) = false := bne_eq_false_iff_eq.mpr c70
            clear c70
            by_cases c71 : t150 = t116
            ·rw [if_pos c71] at H
             have c71b0 : (t150 == t116) = true := beq_iff_eq.mpr c71
             have c71b1 : (t150 != t116) = false := bne_eq_false_iff_eq.mpr c71
             clear c71
             obtain rfl := Option.some.inj H
             try go_wp2
             replace HO_4 := Qz.mk (Kd.S_drew HO_4.out)
             replace HO_112000 := Qz.mk (Kd.R_drew HO_112000.out)
             replace HO_120000 := Qz.mk (Kd.R_drew HO_120000.out)
             replace HO_128000 := Qz.mk (Kd.R_drew HO_128000.out)
             replace BK111 := Qz.mk (qc BK111.out)
             replace BK119 := Qz.mk (qc BK119.out)
             replace BK127 := Qz.mk (qc BK127.out)
             replace HB := Qz.mk (qi HB.out)
             have q73 : ((ji40) : Int) ≤ ((t108.length : Int) : Int) := of_decide_eq_true yq179
             obtain ⟨i073, hi073, _, hsz73, _⟩ := info_parts info37
             have hroom73 : t108.length ≤ co12 := (Kd.S_reads' HO_4.out).2.1
             have hC73 : Kd.C k37 _ Ao12 t108.length t108 := (Kd.S_reads' HO_4.out).2.2
             have hcut73 := cut_to (P := Try.prog) 50 37 .i64 Try.underlying50 hi073 Ao12 t108.length co12 (ji40) (of_decide_eq_true yq179) q73 hroom73
             have hr73 := Kd.C_take (m := ((ji40) : Int).toNat) hC73 (by omega)
             have hy73 : y129.length = ((ji40) : Int).toNat := (by rw [Ny129.out, List.length_take]; omega)
             rw [← Ny129.out] at hr73
             rw [← hy73] at hcut73
             have HR132 := Qz.mk hr73
             have HC132 := Qz.mk (show y129.length ≤ co12 from by omega)
             clear hr73 hC73 hroom73 hi073 hsz73
             have KY73 := Qz.mk hy73
             clear hy73
             have KL73 := Qz.mk (show ((ji40) : Int).toNat ≤ t108.length from by omega)
             replace q73 := eq_true q73
             refine start_ (n := 11) (S := fun w' => w'.cell? ⟨gb111, 0, none⟩ = some (.slice Ao10 t102.length co10) ∧ w'.cell? ⟨gb111, 1, none⟩ = some (.int .i64 t105) ∧ w'.cell? ⟨gb111, 2, none⟩ = some (.int .i64 t106) ∧ w'.cell? ⟨gb111, 3, none⟩ = some (.int .i64 t107)) (ds := []) bq1 (by kernel_rfl) rfl rfl ⟨(qd BK111.out 0).trans rfl, (qd BK111.out 1).trans rfl, (qd BK111.out 2).trans rfl, (qd BK111.out 3).trans rfl⟩ (fun hHeld => ?_); refine with_tabW laws_FnReplayed.tab9 laws_FnReplayed.bits9 (fun HT_ HW_ => ?_)
             generalize wc.drew = w72 at HO_4 HO_112000 HO_120000 HO_128000 BK111 BK119 BK127 HB HR132 hHeld ⊢
             refine pure_ (i := 1) (N := some 59) (v := ?_) (a' := ?_) bq4 rfl rfl (qf1 HT_.out (by kernel_rfl)) (fun _ _ _ h => h) (Or.inl ⟨by rfl, ?_⟩) ?_ ?_
             rotate_left
             ·intro w'
              go_simp
              with_reducible rfl
             rotate_left
             ·simp only [Act.put, sq1, sq2, sq3, i64_w, i32_w]
              rfl
             refine pure_ (i := 2) (N := some 60) (v := ?_) (a' := ?_) bq6 rfl rfl (qf1 HT_.out (by kernel_rfl)) (fun _ _ _ h => h) (Or.inl ⟨by rfl, ?_⟩) ?_ ?_
             rotate_left
             ·intro w'
              go_simp
              with_reducible rfl
             rotate_left
             ·simp only [Act.put, sq1, sq2, sq3, i64_w, i32_w]
              rfl
             refine pure_ (i := 3) (N := some 61) (v := ?_) (a' := ?_) bq8 rfl rfl (qf1 HT_.out (by kernel_rfl)) (fun _ _ _ h => h) (Or.inl ⟨by rfl, ?_⟩) ?_ ?_
             rotate_left
             ·intro w'
              go_simp
              with_reducible rfl
             rotate_left
             ·simp only [Act.put, sq1, sq2, sq3, i64_w, i32_w]
              rfl
             refine take_ (i := 0) (N := some 58) (v := ?_) (a' := ?_) bq16 rfl rfl (take_ofW HT_.out HW_.out (by kernel_rfl)) (fun _ _ _ h => h) (Or.inl ⟨by rfl, ?_⟩) hHeld ?_ ?_
             rotate_left
             ·rintro w' ⟨s0, s1, s2, s3⟩
              go_simp
              with_reducible rfl
             rotate_left
             ·simp only [Act.put, sq1, sq2, sq3, i64_w, i32_w]
              rfl
             refine join_ (σ := Value × Nat) 2 bq39 (fun s_ => [(62, .tuple #[.agg #[s_.1, .int .i64 t136, .int .i64 t137, .int .i64 t138], .int .i64 t139]), (10, .pointer (some ⟨s_.2, 0, none⟩)), (57, .tuple #[.agg #[s_.1, .int .i64 t136, .int .i64 t137, .int .i64 t138], .int .i64 t139]), (63, .agg #[s_.1, .int .i64 t136, .int .i64 t137, .int .i64 t138]), (64, .int .i64 t139)]) (fun s_ w' => (w'.cell? ⟨gb111, 0, none⟩ = some (.slice Ao10 t102.length co10) ∧ w'.cell? ⟨gb111, 1, none⟩ = some (.int .i64 t105) ∧ w'.cell? ⟨gb111, 2, none⟩ = some (.int .i64 t106) ∧ w'.cell? ⟨gb111, 3, none⟩ = some (.int .i64 t107)) ∧ (Kd.R k66 66 w' w.heap.size (fun k_ => some k_ ≠ (.slice Ao10 t102.length co10 : Value).ownBlock ∧ some k_ ≠ (.slice Ao15 t112.length co15 : Value).ownBlock ∧ some k_ ≠ (.slice Ao21 t120.length co21 : Value).ownBlock) s_.1 t133) ∧ (Kd.R k66 66 w' w.heap.size (fun k_ => some k_ ≠ (s_.1 : Value).ownBlock ∧ some k_ ≠ (.slice Ao15 t112.length co15 : Value).ownBlock ∧ some k_ ≠ (.slice Ao21 t120.length co21 : Value).ownBlock) (.slice Ao10 t102.length co10) t102) ∧ (Kd.R k66 66 w' w.heap.size (fun k_ => some k_ ≠ (s_.1 : Value).ownBlock ∧ some k_ ≠ (.slice Ao10 t102.length co10 : Value).ownBlock ∧ some k_ ≠ (.slice Ao21 t120.length co21 : Value).ownBlock) (.slice Ao15 t112.length co15) t112) ∧ (Kd.R k66 66 w' w.heap.size (fun k_ => some k_ ≠ (s_.1 : Value).ownBlock ∧ some k_ ≠ (.slice Ao10 t102.length co10 : Value).ownBlock ∧ some k_ ≠ (.slice Ao15 t112.length co15 : Value).ownBlock) (.slice Ao21 t120.length co21) t120) ∧ (Kd.S k37 37 w' w.heap.size (fun k_ => some k_ ≠ (s_.1 : Value).ownBlock ∧ some k_ ≠ (.slice Ao10 t102.length co10 : Value).ownBlock ∧ some k_ ≠ (.slice Ao15 t112.length co15 : Value).ownBlock ∧ some k_ ≠ (.slice Ao21 t120.length co21 : Value).ownBlock) (.slice Ao12 t108.length co12) t108) ∧ (w'.heap[gb111]? = some (.cells #[.slice Ao10 t102.length co10, .int .i64 t105, .int .i64 t106, .int .i64 t107] 32 (0, 0))) ∧ (w'.heap[gb119]? = some (.cells #[.slice Ao15 t112.length co15, .int .i64 t115, .int .i64 t116, .int .i64 t117] 32 (0, 0))) ∧ (w'.heap[gb127]? = some (.cells #[.slice Ao21 t120.length co21, .int .i64 t123, .int .i64 t124, .int .i64 t125] 32 (0, 0))) ∧ (w'.heap[s_.2]? = some (.cells #[.slice none 0 0, .int .i64 0, .int .i64 0, .int .i64 0] 32 (0, 0))) ∧ (w.heap.size ≤ s_.2) ∧ (w.heap.size ≤ s_.2) ∧ (gb111 ≠ s_.2) ∧ (s_.2 ≠ gb111) ∧ (gb119 ≠ s_.2) ∧ (s_.2 ≠ gb119) ∧ (gb127 ≠ s_.2) ∧ (s_.2 ≠ gb127) ∧ (Below w.heap.size w w')) ?_ ?_
             rotate_left
             ·intro hCont
              refine two_ (i := 4) (j := 8) (Ni := some 62) (Nj := some 10) bq20 bq17 rfl rfl rfl rfl (two_of HT_.out (by kernel_rfl)) (by decide) (by decide) (fun K hK => ?_) (fun K hK => ?_)
              ·skip
               refine goes_ Try.func31 (by kernel_rfl) rfl #[.agg #[.slice Ao10 t102.length co10, .int .i64 t105, .int .i64 t106, .int .i64 t107], .slice Ao12 y129.length co12] (by rfl) rfl rfl yq147 ?_
               with_reducible refine (impl_Replay.calls kj6 _ _ t102 t105 t106 t107 _ _ y129 t133 t136 t137 t138 t139 _ ?side1 ?side2 ?side3 ?side4 A43.out).mono ?_
               (case side1 => exact yq166)
               (case side2 => exact (Kd.R_reads' HO_112000.out).2.1)
               (case side3 => exact yq176)
               (case side4 => exact HC132.out)
               rintro e w74 ⟨v134, rfl, ho0, hb⟩
               refine ⟨_, rfl, ?_⟩
               replace HO_4 := Qz.mk (Kd.S_elder' yq152 (Kd.R_base ho0) hb)
               have HO135 := Qz.mk (Kd.R_lower (Kd.R_new' (Kd.R_new' (Kd.R_new' ho0 (Kd.R_lt yq150)) (Kd.R_lt yq149)) (Kd.R_lt yq148)) (qz yq146))
               replace HO_112000 := Qz.mk (Kd.R_elder' yq150 (Kd.R_base ho0) hb)
               replace HO_120000 := Qz.mk (Kd.R_elder' yq149 (Kd.R_base ho0) hb)
               replace HO_128000 := Qz.mk (Kd.R_elder' yq148 (Kd.R_base ho0) hb)
               replace BK111 := bkbf13 BK111 yq141 hb
               replace BK119 := bkbf13 BK119 yq142 hb
               replace BK127 := bkbf13 BK127 yq143 hb
               replace HR132 := Qz.mk (Kd.C_below yq145 hb)
               replace HB := Qz.mk (qq yq146 hb)
               (try clear hb)
               (try clear hk)
               (try clear ho0)
               refine hK.out _ _ ⟨(qd BK111.out 0).trans rfl, (qd BK111.out 1).trans rfl, (qd BK111.out 2).trans rfl, (qd BK111.out 3).trans rfl⟩ (fun hHeld => ?_)
               clear hK K
               refine norm_ (a' := ?_) ?_ ?_
               rotate_left
               ·show Act.put _ (some 62) _ = _
                simp only [Act.put, sq1, sq2, sq3, i64_w, i32_w]
                rfl
               refine pure_ (i := 5) (N := some 57) (v := ?_) (a' := ?_) bq25 rfl rfl (qf1 HT_.out (by kernel_rfl)) (fun _ _ _ h => h) (Or.inl ⟨by rfl, ?_⟩) ?_ ?_
               rotate_left
               ·intro w'
                go_simp
                with_reducible rfl
               rotate_left
               ·simp only [Act.put, sq1, sq2, sq3, i64_w, i32_w]
                rfl
               refine pure_ (i := 6) (N := some 63) (v := ?_) (a' := ?_) bq30 rfl rfl (qf1 HT_.out (by kernel_rfl)) (fun _ _ _ h => h) (Or.inl ⟨by rfl, ?_⟩) ?_ ?_
               rotate_left
               ·intro w'
                go_simp
                with_reducible rfl
               rotate_left
               ·simp only [Act.put, sq1, sq2, sq3, i64_w, i32_w]
                rfl
               refine pure_ (i := 7) (N := some 64) (v := ?_) (a' := ?_) bq35 rfl rfl (qf1 HT_.out (by kernel_rfl)) (fun _ _ _ h => h) (Or.inl ⟨by rfl, ?_⟩) ?_ ?_
               rotate_left
               ·intro w'
                go_simp
                with_reducible rfl
               rotate_left
               ·simp only [Act.put, sq1, sq2, sq3, i64_w, i32_w]
                rfl
               refine one_ (i := 8) (N := some 10) bq39 rfl rfl (one_of HT_.out (by kernel_rfl)) (by decide) (fun K hK => ?_)
               refine box_step ?hg (N := 10) ?hd (cs := #[.slice none 0 0, .int .i64 0, .int .i64 0, .int .i64 0]) (t := 32) ?hr ?_; (case hd => rfl); (case hg => rfl); (case hr => exact yq181)
               intro gb140 hg w75 hbox hb
               replace HO_4 := Qz.mk (Kd.S_below yq152 hb)
               replace HO_112000 := Qz.mk (Kd.R_below yq150 hb)
               replace HO_120000 := Qz.mk (Kd.R_below yq149 hb)
               replace HO_128000 := Qz.mk (Kd.R_below yq148 hb)
               replace HO135 := Qz.mk (Kd.R_below yq164 hb)
               replace HR132 := Qz.mk (Kd.C_below yq145 hb)
               have BK140 := Qz.mk (hbox)
               have GW140 := Qz.mk ((by rw [hg]; exact (qz yq146) : w.heap.size ≤ gb140))
               have GE140 := GW140
               replace HB := Qz.mk (qq yq146 hb)
               have NB111_140 := Qz.mk ((yq153 : gb111 ≠ gb140))
               have NB140_111 := Qz.mk ((yq154 : gb140 ≠ gb111))
               replace BK111 := bkbf13 BK111 yq141 hb
               have NB119_140 := Qz.mk ((yq158 : gb119 ≠ gb140))
               have NB140_119 := Qz.mk ((yq159 : gb140 ≠ gb119))
               replace BK119 := bkbf13 BK119 yq142 hb
               have NB127_140 := Qz.mk ((yq160 : gb127 ≠ gb140))
               have NB140_127 := Qz.mk ((yq161 : gb140 ≠ gb127))
               replace BK127 := bkbf13 BK127 yq143 hb
               clear hb hbox hg
               refine hK.out _ _ ⟨(qd BK111.out 0).trans rfl, (qd BK111.out 1).trans rfl, (qd BK111.out 2).trans rfl, (qd BK111.out 3).trans rfl⟩ (fun hHeld => ?_)
               clear hK K
               refine norm_ (a' := ?_) ?_ ?_
               rotate_left
               ·show Act.put _ (some 10) _ = _
                simp only [Act.put, sq1, sq2, sq3, i64_w, i32_w]
                rfl
               exact norm_ (by simp only [putAll, Act.put, sq1, sq2, sq3]) (hCont (v134, gb140) _ ⟨hHeld, yq174, yq173, yq172, yq171, yq167, yq141, yq142, yq143, yq151, GW140.out, GE140.out, NB111_140.out, NB140_111.out, NB119_140.out, NB140_119.out, NB127_140.out, NB140_127.out, yq144⟩)
              ·skip
               refine box_step ?hg (N := 10) ?hd (cs := #[.slice none 0 0, .int .i64 0, .int .i64 0, .int .i64 0]) (t := 32) ?hr ?_; (case hd => rfl); (case hg => rfl); (case hr => exact yq181)
               intro gb140 hg w74 hbox hb
               replace HO_4 := Qz.mk (Kd.S_below yq152 hb)
               replace HO_112000 := Qz.mk (Kd.R_below yq150 hb)
               replace HO_120000 := Qz.mk (Kd.R_below yq149 hb)
               replace HO_128000 := Qz.mk (Kd.R_below yq148 hb)
               replace HR132 := Qz.mk (Kd.C_below yq145 hb)
               have BK140 := Qz.mk (hbox)
               have GW140 := Qz.mk ((by rw [hg]; exact (qz yq146) : w.heap.size ≤ gb140))
               have GE140 := GW140
               replace HB := Qz.mk (qq yq146 hb)
               have NB111_140 := Qz.mk ((yq153 : gb111 ≠ gb140))
               have NB140_111 := Qz.mk ((yq154 : gb140 ≠ gb111))
               replace BK111 := bkbf13 BK111 yq141 hb
               have NB119_140 := Qz.mk ((yq158 : gb119 ≠ gb140))
               have NB140_119 := Qz.mk ((yq159 : gb140 ≠ gb119))
               replace BK119 := bkbf13 BK119 yq142 hb
               have NB127_140 := Qz.mk ((yq160 : gb127 ≠ gb140))
               have NB140_127 := Qz.mk ((yq161 : gb140 ≠ gb127))
               replace BK127 := bkbf13 BK127 yq143 hb
               clear hb hbox hg
               refine hK.out _ _ ⟨(qd BK111.out 0).trans rfl, (qd BK111.out 1).trans rfl, (qd BK111.out 2).trans rfl, (qd BK111.out 3).trans rfl⟩ (fun hHeld => ?_)
               clear hK K
               refine norm_ (a' := ?_) ?_ ?_
               rotate_left
               ·show Act.put _ (some 10) _ = _
                simp only [Act.put, sq1, sq2, sq3, i64_w, i32_w]
                rfl
               refine one_ (i := 4) (N := some 62) bq22 rfl rfl (one_of HT_.out (by kernel_rfl)) (by decide) (fun K hK => ?_)
               refine goes_ Try.func31 (by kernel_rfl) rfl #[.agg #[.slice Ao10 t102.length co10, .int .i64 t105, .int .i64 t106, .int .i64 t107], .slice Ao12 y129.length co12] (by rfl) rfl rfl yq147 ?_
               with_reducible refine (impl_Replay.calls kj6 _ _ t102 t105 t106 t107 _ _ y129 t133 t136 t137 t138 t139 _ ?side1 ?side2 ?side3 ?side4 A43.out).mono ?_
               (case side1 => exact yq166)
               (case side2 => exact (Kd.R_reads' HO_112000.out).2.1)
               (case side3 => exact yq176)
               (case side4 => exact HC132.out)
               rintro e w75 ⟨v134, rfl, ho0, hb⟩
               refine ⟨_, rfl, ?_⟩
               replace HO_4 := Qz.mk (Kd.S_elder' yq152 (Kd.R_base ho0) hb)
               have HO135 := Qz.mk (Kd.R_lower (Kd.R_new' (Kd.R_new' (Kd.R_new' ho0 (Kd.R_lt yq150)) (Kd.R_lt yq149)) (Kd.R_lt yq148)) (qz yq144))
               replace HO_112000 := Qz.mk (Kd.R_elder' yq150 (Kd.R_base ho0) hb)
               replace HO_120000 := Qz.mk (Kd.R_elder' yq149 (Kd.R_base ho0) hb)
               replace HO_128000 := Qz.mk (Kd.R_elder' yq148 (Kd.R_base ho0) hb)
               replace BK111 := bkbf13 BK111 yq141 hb
               replace BK119 := bkbf13 BK119 yq142 hb
               replace BK127 := bkbf13 BK127 yq143 hb
               replace HR132 := Qz.mk (Kd.C_below yq145 hb)
               replace BK140 := bkbf13 BK140 yq151 hb
               replace HB := Qz.mk (qq yq144 hb)
               (try clear hb)
               (try clear hk)
               (try clear ho0)
               refine hK.out _ _ ⟨(qd BK111.out 0).trans rfl, (qd BK111.out 1).trans rfl, (qd BK111.out 2).trans rfl, (qd BK111.out 3).trans rfl⟩ (fun hHeld => ?_)
               clear hK K
               refine norm_ (a' := ?_) ?_ ?_
               rotate_left
               ·show Act.put _ (some 62) _ = _
                simp only [Act.put, sq1, sq2, sq3, i64_w, i32_w]
                rfl
               refine pure_ (i := 5) (N := some 57) (v := ?_) (a' := ?_) bq27 rfl rfl (qf1 HT_.out (by kernel_rfl)) (fun _ _ _ h => h) (Or.inl ⟨by rfl, ?_⟩) ?_ ?_
               rotate_left
               ·intro w'
                go_simp
                with_reducible rfl
               rotate_left
               ·simp only [Act.put, sq1, sq2, sq3, i64_w, i32_w]
                rfl
               refine pure_ (i := 6) (N := some 63) (v := ?_) (a' := ?_) bq32 rfl rfl (qf1 HT_.out (by kernel_rfl)) (fun _ _ _ h => h) (Or.inl ⟨by rfl, ?_⟩) ?_ ?_
               rotate_left
               ·intro w'
                go_simp
                with_reducible rfl
               rotate_left
               ·simp only [Act.put, sq1, sq2, sq3, i64_w, i32_w]
                rfl
               refine pure_ (i := 7) (N := some 64) (v := ?_) (a' := ?_) bq39 rfl rfl (qf1 HT_.out (by kernel_rfl)) (fun _ _ _ h => h) (Or.inl ⟨by rfl, ?_⟩) ?_ ?_
               rotate_left
               ·intro w'
                go_simp
                with_reducible rfl
               rotate_left
               ·simp only [Act.put, sq1, sq2, sq3, i64_w, i32_w]
                rfl
               exact norm_ (by simp only [putAll, Act.put, sq1, sq2, sq3]) (hCont (v134, gb140) _ ⟨hHeld, yq174, yq173, yq172, yq171, yq167, yq141, yq142, yq143, yq151, GW140.out, GE140.out, NB111_140.out, NB140_111.out, NB119_140.out, NB140_119.out, NB127_140.out, NB140_127.out, yq144⟩)
             rintro ⟨v134, gb140⟩ w76 ⟨hS_, h0_, h1_, h2_, h3_, h4_, h5_, h6_, h7_, h8_, h9_, h10_, h11_, h12_, h13_, h14_, h15_, h16_, h17_⟩
             have n0_ : Qz (Kd.R k66 66 w76 w.heap.size (fun k_ => some k_ ≠ (.slice Ao10 t102.length co10 : Value).ownBlock ∧ some k_ ≠ (.slice Ao15 t112.length co15 : Value).ownBlock ∧ some k_ ≠ (.slice Ao21 t120.length co21 : Value).ownBlock) v134 t133) := ⟨h0_⟩
             have n1_ : Qz (Kd.R k66 66 w76 w.heap.size (fun k_ => some k_ ≠ (v134 : Value).ownBlock ∧ some k_ ≠ (.slice Ao15 t112.length co15 : Value).ownBlock ∧ some k_ ≠ (.slice Ao21 t120.length co21 : Value).ownBlock) (.slice Ao10 t102.length co10) t102) := ⟨h1_⟩
             have n2_ : Qz (Kd.R k66 66 w76 w.heap.size (fun k_ => some k_ ≠ (v134 : Value).ownBlock ∧ some k_ ≠ (.slice Ao10 t102.length co10 : Value).ownBlock ∧ some k_ ≠ (.slice Ao21 t120.length co21 : Value).ownBlock) (.slice Ao15 t112.length co15) t112) := ⟨h2_⟩
             have n3_ : Qz (Kd.R k66 66 w76 w.heap.size (fun k_ => some k_ ≠ (v134 : Value).ownBlock ∧ some k_ ≠ (.slice Ao10 t102.length co10 : Value).ownBlock ∧ some k_ ≠ (.slice Ao15 t112.length co15 : Value).ownBlock) (.slice Ao21 t120.length co21) t120) := ⟨h3_⟩
             have n4_ : Qz (Kd.S k37 37 w76 w.heap.size (fun k_ => some k_ ≠ (v134 : Value).ownBlock ∧ some k_ ≠ (.slice Ao10 t102.length co10 : Value).ownBlock ∧ some k_ ≠ (.slice Ao15 t112.length co15 : Value).ownBlock ∧ some k_ ≠ (.slice Ao21 t120.length co21 : Value).ownBlock) (.slice Ao12 t108.length co12) t108) := ⟨h4_⟩
             have n5_ : Qz (w76.heap[gb111]? = some (.cells #[.slice Ao10 t102.length co10, .int .i64 t105, .int .i64 t106, .int .i64 t107] 32 (0, 0))) := ⟨h5_⟩
             have n6_ : Qz (w76.heap[gb119]? = some (.cells #[.slice Ao15 t112.length co15, .int .i64 t115, .int .i64 t116, .int .i64 t117] 32 (0, 0))) := ⟨h6_⟩
             have n7_ : Qz (w76.heap[gb127]? = some (.cells #[.slice Ao21 t120.length co21, .int .i64 t123, .int .i64 t124, .int .i64 t125] 32 (0, 0))) := ⟨h7_⟩
             have n8_ : Qz (w76.heap[gb140]? = some (.cells #[.slice none 0 0, .int .i64 0, .int .i64 0, .int .i64 0] 32 (0, 0))) := ⟨h8_⟩
             have n9_ : Qz (w.heap.size ≤ gb140) := ⟨h9_⟩
             have n10_ : Qz (w.heap.size ≤ gb140) := ⟨h10_⟩
             have n11_ : Qz (gb111 ≠ gb140) := ⟨h11_⟩
             have n12_ : Qz (gb140 ≠ gb111) := ⟨h12_⟩
             have n13_ : Qz (gb119 ≠ gb140) := ⟨h13_⟩
             have n14_ : Qz (gb140 ≠ gb119) := ⟨h14_⟩
             have n15_ : Qz (gb127 ≠ gb140) := ⟨h15_⟩
             have n16_ : Qz (gb140 ≠ gb127) := ⟨h16_⟩
             have n17_ : Qz (Below w.heap.size w w76) := ⟨h17_⟩
             clear HO_4
             clear HO_112000
             clear HO_120000
             clear HO_128000
             clear BK111
             clear BK119
             clear BK127
             clear HB
             clear h0_ h1_ h2_ h3_ h4_ h5_ h6_ h7_ h8_ h9_ h10_ h11_ h12_ h13_ h14_ h15_ h16_ h17_
             have HO135 := n0_
             have HO_112000 := n1_
             have HO_120000 := n2_
             have HO_128000 := n3_
             have HO_4 := n4_
             have BK111 := n5_
             have BK119 := n6_
             have BK127 := n7_
             have BK140 := n8_
             have GW140 := n9_
             have GE140 := n10_
             have NB111_140 := n11_
             have NB140_111 := n12_
             have NB119_140 := n13_
             have NB140_119 := n14_
             have NB127_140 := n15_
             have NB140_127 := n16_
             have HB := n17_
             clear n0_ n1_ n2_ n3_ n4_ n5_ n6_ n7_ n8_ n9_ n10_ n11_ n12_ n13_ n14_ n15_ n16_ n17_
             have hHeld : w76.cell? ⟨gb111, 0, none⟩ = some (.slice Ao10 t102.length co10) ∧ w76.cell? ⟨gb111, 1, none⟩ = some (.int .i64 t105) ∧ w76.cell? ⟨gb111, 2, none⟩ = some (.int .i64 t106) ∧ w76.cell? ⟨gb111, 3, none⟩ = some (.int .i64 t107) := hS_
             obtain ⟨Ao77, co77, eo77⟩ := Kd.R_slice HO135.out
             (first | subst eo77 | (injection eo77 with f1_ f2_ f3_; have f4_ := f1_.symm; have f5_ := f3_.symm; clear f1_ f2_ f3_; subst f4_; subst f5_))
             refine norm_ (a' := ?_) ?_ ?_
             rotate_left
             ·simp only [putAll, Act.put, sq1, sq2, sq3]
              rfl
             refine one_ (i := 9) (N := none) bq42 rfl rfl (one_of HT_.out (by kernel_rfl)) (by decide) (fun K hK => ?_)
             have hs78 : w76.cell? ⟨gb140, 0, none⟩ = some (.slice none 0 0) := (qd BK140.out 0).trans rfl
             have hfs78 := qf BK140.out 0
             have hns78_0 := NB111_140.out
             have hns78_1 := NB119_140.out
             have hns78_2 := NB127_140.out
             have hms78_0 := NB140_111.out
             have hms78_1 := NB140_119.out
             have hms78_2 := NB140_127.out
             have hs79 : w76.cell? ⟨gb140, 1, none⟩ = some (.int .i64 0) := (qd BK140.out 1).trans rfl
             have hfs79 := qf BK140.out 1
             have hns79_0 := NB111_140.out
             have hns79_1 := NB119_140.out
             have hns79_2 := NB127_140.out
             have hms79_0 := NB140_111.out
             have hms79_1 := NB140_119.out
             have hms79_2 := NB140_127.out
             have hs80 : w76.cell? ⟨gb140, 2, none⟩ = some (.int .i64 0) := (qd BK140.out 2).trans rfl
             have hfs80 := qf BK140.out 2
             have hns80_0 := NB111_140.out
             have hns80_1 := NB119_140.out
             have hns80_2 := NB127_140.out
             have hms80_0 := NB140_111.out
             have hms80_1 := NB140_119.out
             have hms80_2 := NB140_127.out
             have hs81 : w76.cell? ⟨gb140, 3, none⟩ = some (.int .i64 0) := (qd BK140.out 3).trans rfl
             have hfs81 := qf BK140.out 3
             have hns81_0 := NB111_140.out
             have hns81_1 := NB119_140.out
             have hns81_2 := NB127_140.out
             have hms81_0 := NB140_111.out
             have hms81_1 := NB140_119.out
             have hms81_2 := NB140_127.out
             refine skip_ (w1 := ?_) (by rfl) rfl ?_ ?_
             rotate_left
             ·go_simp
              rfl
             refine hK.out _ _ ⟨((qr (p := ⟨gb140, _, none⟩) NB111_140.out _).trans (((qr (p := ⟨gb140, _, none⟩) NB111_140.out _).trans (((qr (p := ⟨gb140, _, none⟩) NB111_140.out _).trans (((qr (p := ⟨gb140, _, none⟩) NB111_140.out _).trans (hHeld.1)))))))), ((qr (p := ⟨gb140, _, none⟩) NB111_140.out _).trans (((qr (p := ⟨gb140, _, none⟩) NB111_140.out _).trans (((qr (p := ⟨gb140, _, none⟩) NB111_140.out _).trans (((qr (p := ⟨gb140, _, none⟩) NB111_140.out _).trans (hHeld.2.1)))))))), ((qr (p := ⟨gb140, _, none⟩) NB111_140.out _).trans (((qr (p := ⟨gb140, _, none⟩) NB111_140.out _).trans (((qr (p := ⟨gb140, _, none⟩) NB111_140.out _).trans (((qr (p := ⟨gb140, _, none⟩) NB111_140.out _).trans (hHeld.2.2.1)))))))), ((qr (p := ⟨gb140, _, none⟩) NB111_140.out _).trans (((qr (p := ⟨gb140, _, none⟩) NB111_140.out _).trans (((qr (p := ⟨gb140, _, none⟩) NB111_140.out _).trans (((qr (p := ⟨gb140, _, none⟩) NB111_140.out _).trans (hHeld.2.2.2))))))))⟩ (fun hHeld => ?_)
             clear hK K
             refine pure_ (i := 10) (N := some 11) (v := ?_) (a' := ?_) bq47 rfl rfl (qf1 HT_.out (by kernel_rfl)) (fun _ _ _ h => h) (Or.inl ⟨by rfl, ?_⟩) ?_ ?_
             rotate_left
             ·intro w'
              go_simp
              with_reducible rfl
             rotate_left
             ·simp only [Act.put, sq1, sq2, sq3, i64_w, i32_w]
              rfl
             refine done_ (done_of HT_.out (by kernel_rfl)) ?_
             try go_wp2
             have n0_ : Qz (Kd.S k37 37 ((((w76.setCell ⟨gb140, 0, none⟩ (.slice Ao77 t133.length co77)).setCell ⟨gb140, 1, none⟩ (.int .i64 t136)).setCell ⟨gb140, 2, none⟩ (.int .i64 t137)).setCell ⟨gb140, 3, none⟩ (.int .i64 t138)) w.heap.size (fun k_ => some k_ ≠ (.slice Ao10 t102.length co10 : Value).ownBlock ∧ some k_ ≠ (.slice Ao15 t112.length co15 : Value).ownBlock ∧ some k_ ≠ (.slice Ao21 t120.length co21 : Value).ownBlock ∧ some k_ ≠ (.slice Ao77 t133.length co77 : Value).ownBlock) (.slice Ao12 t108.length co12) t108) := ⟨by (with_reducible repeat (first | apply Kd.S_alloc | apply Kd.S_drewN | apply Kd.S_drew)); exact Kd.S_mono (Kd.S_far (p := ⟨gb140, 3, none⟩) (Kd.S_far (p := ⟨gb140, 2, none⟩) (Kd.S_far (p := ⟨gb140, 1, none⟩) (Kd.S_far (p := ⟨gb140, 0, none⟩) (Kd.S_types HO_4.out BK140.out (by decide)) (fun _ hk => hk.2) (.slice Ao77 t133.length co77)) (fun _ hk => hk.2) (.int .i64 t136)) (fun _ hk => hk.2) (.int .i64 t137)) (fun _ hk => hk.2) (.int .i64 t138)) (fun _ hk => ⟨hk.1.2.1, ⟨hk.1.2.2.1, ⟨hk.1.2.2.2, hk.1.1⟩⟩⟩)⟩
             have n1_ : Qz (Kd.R k66 66 ((((w76.setCell ⟨gb140, 0, none⟩ (.slice Ao77 t133.length co77)).setCell ⟨gb140, 1, none⟩ (.int .i64 t136)).setCell ⟨gb140, 2, none⟩ (.int .i64 t137)).setCell ⟨gb140, 3, none⟩ (.int .i64 t138)) w.heap.size (fun k_ => some k_ ≠ (.slice Ao15 t112.length co15 : Value).ownBlock ∧ some k_ ≠ (.slice Ao21 t120.length co21 : Value).ownBlock ∧ some k_ ≠ (.slice Ao77 t133.length co77 : Value).ownBlock) (.slice Ao10 t102.length co10) t102) := ⟨by (with_reducible repeat (first | apply Kd.R_alloc | apply Kd.R_drewN | apply Kd.R_drew)); exact Kd.R_mono (Kd.R_far (p := ⟨gb140, 3, none⟩) (Kd.R_far (p := ⟨gb140, 2, none⟩) (Kd.R_far (p := ⟨gb140, 1, none⟩) (Kd.R_far (p := ⟨gb140, 0, none⟩) (Kd.R_types HO_112000.out BK140.out (by decide)) (fun _ hk => hk.2) (.slice Ao77 t133.length co77)) (fun _ hk => hk.2) (.int .i64 t136)) (fun _ hk => hk.2) (.int .i64 t137)) (fun _ hk => hk.2) (.int .i64 t138)) (fun _ hk => ⟨hk.1.2.1, ⟨hk.1.2.2, hk.1.1⟩⟩)⟩
             have n2_ : Qz (Kd.R k66 66 ((((w76.setCell ⟨gb140, 0, none⟩ (.slice Ao77 t133.length co77)).setCell ⟨gb140, 1, none⟩ (.int .i64 t136)).setCell ⟨gb140, 2, none⟩ (.int .i64 t137)).setCell ⟨gb140, 3, none⟩ (.int .i64 t138)) w.heap.size (fun k_ => some k_ ≠ (.slice Ao10 t102.length co10 : Value).ownBlock ∧ some k_ ≠ (.slice Ao21 t120.length co21 : Value).ownBlock ∧ some k_ ≠ (.slice Ao77 t133.length co77 : Value).ownBlock) (.slice Ao15 t112.length co15) t112) := ⟨by (with_reducible repeat (first | apply Kd.R_alloc | apply Kd.R_drewN | apply Kd.R_drew)); exact Kd.R_mono (Kd.R_far (p := ⟨gb140, 3, none⟩) (Kd.R_far (p := ⟨gb140, 2, none⟩) (Kd.R_far (p := ⟨gb140, 1, none⟩) (Kd.R_far (p := ⟨gb140, 0, none⟩) (Kd.R_types HO_120000.out BK140.out (by decide)) (fun _ hk => hk.2) (.slice Ao77 t133.length co77)) (fun _ hk => hk.2) (.int .i64 t136)) (fun _ hk => hk.2) (.int .i64 t137)) (fun _ hk => hk.2) (.int .i64 t138)) (fun _ hk => ⟨hk.1.2.1, ⟨hk.1.2.2, hk.1.1⟩⟩)⟩
             have n3_ : Qz (Kd.R k66 66 ((((w76.setCell ⟨gb140, 0, none⟩ (.slice Ao77 t133.length co77)).setCell ⟨gb140, 1, none⟩ (.int .i64 t136)).setCell ⟨gb140, 2, none⟩ (.int .i64 t137)).setCell ⟨gb140, 3, none⟩ (.int .i64 t138)) w.heap.size (fun k_ => some k_ ≠ (.slice Ao10 t102.length co10 : Value).ownBlock ∧ some k_ ≠ (.slice Ao15 t112.length co15 : Value).ownBlock ∧ some k_ ≠ (.slice Ao77 t133.length co77 : Value).ownBlock) (.slice Ao21 t120.length co21) t120) := ⟨by (with_reducible repeat (first | apply Kd.R_alloc | apply Kd.R_drewN | apply Kd.R_drew)); exact Kd.R_mono (Kd.R_far (p := ⟨gb140, 3, none⟩) (Kd.R_far (p := ⟨gb140, 2, none⟩) (Kd.R_far (p := ⟨gb140, 1, none⟩) (Kd.R_far (p := ⟨gb140, 0, none⟩) (Kd.R_types HO_128000.out BK140.out (by decide)) (fun _ hk => hk.2) (.slice Ao77 t133.length co77)) (fun _ hk => hk.2) (.int .i64 t136)) (fun _ hk => hk.2) (.int .i64 t137)) (fun _ hk => hk.2) (.int .i64 t138)) (fun _ hk => ⟨hk.1.2.1, ⟨hk.1.2.2, hk.1.1⟩⟩)⟩
             have n4_ : Qz (Kd.R k66 66 ((((w76.setCell ⟨gb140, 0, none⟩ (.slice Ao77 t133.length co77)).setCell ⟨gb140, 1, none⟩ (.int .i64 t136)).setCell ⟨gb140, 2, none⟩ (.int .i64 t137)).setCell ⟨gb140, 3, none⟩ (.int .i64 t138)) w.heap.size (fun k_ => some k_ ≠ (.slice Ao10 t102.length co10 : Value).ownBlock ∧ some k_ ≠ (.slice Ao15 t112.length co15 : Value).ownBlock ∧ some k_ ≠ (.slice Ao21 t120.length co21 : Value).ownBlock) (.slice Ao77 t133.length co77) t133) := ⟨by (with_reducible repeat (first | apply Kd.R_alloc | apply Kd.R_drewN | apply Kd.R_drew)); exact Kd.R_mono (Kd.R_far (p := ⟨gb140, 3, none⟩) (Kd.R_far (p := ⟨gb140, 2, none⟩) (Kd.R_far (p := ⟨gb140, 1, none⟩) (Kd.R_far (p := ⟨gb140, 0, none⟩) (Kd.R_types HO135.out BK140.out (by decide)) (fun _ hk => hk.2) (.slice Ao77 t133.length co77)) (fun _ hk => hk.2) (.int .i64 t136)) (fun _ hk => hk.2) (.int .i64 t137)) (fun _ hk => hk.2) (.int .i64 t138)) (fun _ hk => ⟨hk.1.1, ⟨hk.1.2.1, hk.1.2.2⟩⟩)⟩
             have n5_ : Qz (((((w76.setCell ⟨gb140, 0, none⟩ (.slice Ao77 t133.length co77)).setCell ⟨gb140, 1, none⟩ (.int .i64 t136)).setCell ⟨gb140, 2, none⟩ (.int .i64 t137)).setCell ⟨gb140, 3, none⟩ (.int .i64 t138)).heap[gb111]? = some (.cells #[.slice Ao10 t102.length co10, .int .i64 t105, .int .i64 t106, .int .i64 t107] 32 (0, 0))) := ⟨by (with_reducible repeat (first | refine qb ?_ _ | refine qc ?_ | refine qa ?_ _)); refine qp ?_ NB111_140.out _; (with_reducible repeat (first | refine qb ?_ _ | refine qc ?_ | refine qa ?_ _)); refine qp ?_ NB111_140.out _; (with_reducible repeat (first | refine qb ?_ _ | refine qc ?_ | refine qa ?_ _)); refine qp ?_ NB111_140.out _; (with_reducible repeat (first | refine qb ?_ _ | refine qc ?_ | refine qa ?_ _)); refine qp ?_ NB111_140.out _; (with_reducible repeat (first | refine qb ?_ _ | refine qc ?_ | refine qa ?_ _)); exact BK111.out⟩
             have n6_ : Qz (((((w76.setCell ⟨gb140, 0, none⟩ (.slice Ao77 t133.length co77)).setCell ⟨gb140, 1, none⟩ (.int .i64 t136)).setCell ⟨gb140, 2, none⟩ (.int .i64 t137)).setCell ⟨gb140, 3, none⟩ (.int .i64 t138)).heap[gb119]? = some (.cells #[.slice Ao15 t112.length co15, .int .i64 t115, .int .i64 t116, .int .i64 t117] 32 (0, 0))) := ⟨by (with_reducible repeat (first | refine qb ?_ _ | refine qc ?_ | refine qa ?_ _)); refine qp ?_ NB119_140.out _; (with_reducible repeat (first | refine qb ?_ _ | refine qc ?_ | refine qa ?_ _)); refine qp ?_ NB119_140.out _; (with_reducible repeat (first | refine qb ?_ _ | refine qc ?_ | refine qa ?_ _)); refine qp ?_ NB119_140.out _; (with_reducible repeat (first | refine qb ?_ _ | refine qc ?_ | refine qa ?_ _)); refine qp ?_ NB119_140.out _; (with_reducible repeat (first | refine qb ?_ _ | refine qc ?_ | refine qa ?_ _)); exact BK119.out⟩
             have n7_ : Qz (((((w76.setCell ⟨gb140, 0, none⟩ (.slice Ao77 t133.length co77)).setCell ⟨gb140, 1, none⟩ (.int .i64 t136)).setCell ⟨gb140, 2, none⟩ (.int .i64 t137)).setCell ⟨gb140, 3, none⟩ (.int .i64 t138)).heap[gb127]? = some (.cells #[.slice Ao21 t120.length co21, .int .i64 t123, .int .i64 t124, .int .i64 t125] 32 (0, 0))) := ⟨by (with_reducible repeat (first | refine qb ?_ _ | refine qc ?_ | refine qa ?_ _)); refine qp ?_ NB127_140.out _; (with_reducible repeat (first | refine qb ?_ _ | refine qc ?_ | refine qa ?_ _)); refine qp ?_ NB127_140.out _; (with_reducible repeat (first | refine qb ?_ _ | refine qc ?_ | refine qa ?_ _)); refine qp ?_ NB127_140.out _; (with_reducible repeat (first | refine qb ?_ _ | refine qc ?_ | refine qa ?_ _)); refine qp ?_ NB127_140.out _; (with_reducible repeat (first | refine qb ?_ _ | refine qc ?_ | refine qa ?_ _)); exact BK127.out⟩
             have n8_ : Qz (((((w76.setCell ⟨gb140, 0, none⟩ (.slice Ao77 t133.length co77)).setCell ⟨gb140, 1, none⟩ (.int .i64 t136)).setCell ⟨gb140, 2, none⟩ (.int .i64 t137)).setCell ⟨gb140, 3, none⟩ (.int .i64 t138)).heap[gb140]? = some (.cells #[.slice Ao77 t133.length co77, .int .i64 t136, .int .i64 t137, .int .i64 t138] 32 (0, 0))) := ⟨by (with_reducible repeat (first | refine qb ?_ _ | refine qc ?_ | refine qa ?_ _)); refine qt (cs := #[.slice Ao77 t133.length co77, .int .i64 t136, .int .i64 t137, .int .i64 0]) ?_ 3 _ rfl; (with_reducible repeat (first | refine qb ?_ _ | refine qc ?_ | refine qa ?_ _)); refine qt (cs := #[.slice Ao77 t133.length co77, .int .i64 t136, .int .i64 0, .int .i64 0]) ?_ 2 _ rfl; (with_reducible repeat (first | refine qb ?_ _ | refine qc ?_ | refine qa ?_ _)); refine qt (cs := #[.slice Ao77 t133.length co77, .int .i64 0, .int .i64 0, .int .i64 0]) ?_ 1 _ rfl; (with_reducible repeat (first | refine qb ?_ _ | refine qc ?_ | refine qa ?_ _)); refine qt (cs := #[.slice none 0 0, .int .i64 0, .int .i64 0, .int .i64 0]) ?_ 0 _ rfl; (with_reducible repeat (first | refine qb ?_ _ | refine qc ?_ | refine qa ?_ _)); exact BK140.out⟩
             have n9_ : Qz (Below w.heap.size w ((((w76.setCell ⟨gb140, 0, none⟩ (.slice Ao77 t133.length co77)).setCell ⟨gb140, 1, none⟩ (.int .i64 t136)).setCell ⟨gb140, 2, none⟩ (.int .i64 t137)).setCell ⟨gb140, 3, none⟩ (.int .i64 t138))) := ⟨by repeat (first | (with_reducible first | exact HB.out | apply qh | apply qg | apply qi | refine qe ?_ GE111.out | refine qe ?_ GE119.out | refine qe ?_ GE127.out | refine qe ?_ GE140.out) | exact HB.out)⟩
             (try clear HO_4)
             (try clear HO_112000)
             (try clear HO_120000)
             (try clear HO_128000)
             (try clear HO135)
             (try clear BK111)
             (try clear BK119)
             (try clear BK127)
             (try clear BK140)
             (try clear HB)
             generalize ((((w76.setCell ⟨gb140, 0, none⟩ (.slice Ao77 t133.length co77)).setCell ⟨gb140, 1, none⟩ (.int .i64 t136)).setCell ⟨gb140, 2, none⟩ (.int .i64 t137)).setCell ⟨gb140, 3, none⟩ (.int .i64 t138)) = w82 at n0_ n1_ n2_ n3_ n4_ n5_ n6_ n7_ n8_ n9_ ⊢
             have HO_4 := n0_
             have HO_112000 := n1_
             have HO_120000 := n2_
             have HO_128000 := n3_
             have HO135 := n4_
             have BK111 := n5_
             have BK119 := n6_
             have BK127 := n7_
             have BK140 := n8_
             have HB := n9_
             clear n0_ n1_ n2_ n3_ n4_ n5_ n6_ n7_ n8_ n9_
             replace HO_4 := Qz.mk (Kd.S_drew HO_4.out)
             replace HO_112000 := Qz.mk (Kd.R_drew HO_112000.out)
             replace HO_120000 := Qz.mk (Kd.R_drew HO_120000.out)
             replace HO_128000 := Qz.mk (Kd.R_drew HO_128000.out)
             replace HO135 := Qz.mk (Kd.R_drew HO135.out)
             replace BK111 := Qz.mk (qc BK111.out)
             replace BK119 := Qz.mk (qc BK119.out)
             replace BK127 := Qz.mk (qc BK127.out)
             replace BK140 := Qz.mk (qc BK140.out)
             replace HB := Qz.mk (qi HB.out)
             have q84 : ((ji40) : Int) ≤ ((t108.length : Int) : Int) := of_decide_eq_true yq179
             obtain ⟨i084, hi084, _, hsz84, _⟩ := info_parts info37
             have hroom84 : t108.length ≤ co12 := (Kd.S_reads' HO_4.out).2.1
             have hC84 : Kd.C k37 _ Ao12 t108.length t108 := (Kd.S_reads' HO_4.out).2.2
             have q084 : (0 : Int) ≤ ((ji40) : Int) := of_decide_eq_true yq179
             have hcut84 := cut_from (P := Try.prog) 50 37 .i64 Try.underlying50 hi084 5 hsz84 Ao12 t108.length co12 (ji40) q084 q84
             have hr84 := Kd.C_drop (m := ((ji40) : Int).toNat) (c := co12) hC84 (by omega) hroom84
             obtain ⟨A84, hA84⟩ : ∃ A1, A1 = (if co12 = ((ji40) : Int).toNat then Ao12 else (Ao12 : Option Addr).map (·.add (((ji40) : Int).toNat * 5))) := ⟨_, rfl⟩
             obtain ⟨c84, hc84⟩ : ∃ c1, c1 = co12 - ((ji40) : Int).toNat := ⟨_, rfl⟩
             have hy84 : y142.length = t108.length - ((ji40) : Int).toNat := (by rw [Ny142.out, List.length_drop] <;> omega)
             rw [show (t108).drop ((ji40) : Int).toNat = y142 from Ny142.out.symm] at hr84
             replace hr84 : Kd.C k37 _ A84 y142.length y142 := (by rw [hA84]; exact hr84)
             rw [← hy84, ← hA84, ← hc84] at hcut84
             have HR145 := Qz.mk hr84
             have HC145 := Qz.mk (show y142.length ≤ c84 from by rw [hy84, hc84]; exact Nat.sub_le_sub_right hroom84 _)
             clear hr84 hC84 hroom84 hi084 hsz84 hc84
             have KY84 := Qz.mk hy84
             have KA84 := Qz.mk hA84
             clear hy84 hA84
             have KL84 := Qz.mk (show ((ji40) : Int).toNat ≤ t108.length from by omega)
             replace q84 := eq_true q84
             refine start_ (n := 11) (S := fun w' => w'.cell? ⟨gb140, 0, none⟩ = some (.slice Ao77 t133.length co77) ∧ w'.cell? ⟨gb140, 1, none⟩ = some (.int .i64 t136) ∧ w'.cell? ⟨gb140, 2, none⟩ = some (.int .i64 t137) ∧ w'.cell? ⟨gb140, 3, none⟩ = some (.int .i64 t138)) (ds := []) bq1 (by kernel_rfl) rfl rfl ⟨(qd BK140.out 0).trans rfl, (qd BK140.out 1).trans rfl, (qd BK140.out 2).trans rfl, (qd BK140.out 3).trans rfl⟩ (fun hHeld => ?_); refine with_tabW laws_FnReplayed.tab12 laws_FnReplayed.bits12 (fun HT_ HW_ => ?_)
             generalize w82.drew = w83 at HO_4 HO_112000 HO_120000 HO_128000 HO135 BK111 BK119 BK127 BK140 HB HR145 hHeld ⊢
             refine pure_ (i := 1) (N := some 80) (v := ?_) (a' := ?_) bq4 rfl rfl (qf1 HT_.out (by kernel_rfl)) (fun _ _ _ h => h) (Or.inl ⟨by rfl, ?_⟩) ?_ ?_
             rotate_left
             ·intro w'
              go_simp
              with_reducible rfl
             rotate_left
             ·simp only [Act.put, sq1, sq2, sq3, i64_w, i32_w]
              rfl
             refine pure_ (i := 2) (N := some 81) (v := ?_) (a' := ?_) bq6 rfl rfl (qf1 HT_.out (by kernel_rfl)) (fun _ _ _ h => h) (Or.inl ⟨by rfl, ?_⟩) ?_ ?_
             rotate_left
             ·intro w'
              go_simp
              with_reducible rfl
             rotate_left
             ·simp only [Act.put, sq1, sq2, sq3, i64_w, i32_w]
              rfl
             refine pure_ (i := 3) (N := some 82) (v := ?_) (a' := ?_) bq8 rfl rfl (qf1 HT_.out (by kernel_rfl)) (fun _ _ _ h => h) (Or.inl ⟨by rfl, ?_⟩) ?_ ?_
             rotate_left
             ·intro w'
              go_simp
              with_reducible rfl
             rotate_left
             ·simp only [Act.put, sq1, sq2, sq3, i64_w, i32_w]
              rfl
             refine take_ (i := 0) (N := some 79) (v := ?_) (a' := ?_) bq16 rfl rfl (take_ofW HT_.out HW_.out (by kernel_rfl)) (fun _ _ _ h => h) (Or.inl ⟨by rfl, ?_⟩) hHeld ?_ ?_
             rotate_left
             ·rintro w' ⟨s0, s1, s2, s3⟩
              go_simp
              with_reducible rfl
             rotate_left
             ·simp only [Act.put, sq1, sq2, sq3, i64_w, i32_w]
              rfl
             refine join_ (σ := Value × Nat) 2 bq39 (fun s_ => [(83, .tuple #[.agg #[s_.1, .int .i64 t149, .int .i64 t150, .int .i64 t151], .int .i64 t152]), (12, .pointer (some ⟨s_.2, 0, none⟩)), (78, .tuple #[.agg #[s_.1, .int .i64 t149, .int .i64 t150, .int .i64 t151], .int .i64 t152]), (84, .agg #[s_.1, .int .i64 t149, .int .i64 t150, .int .i64 t151]), (85, .int .i64 t152)]) (fun s_ w' => (w'.cell? ⟨gb140, 0, none⟩ = some (.slice Ao77 t133.length co77) ∧ w'.cell? ⟨gb140, 1, none⟩ = some (.int .i64 t136) ∧ w'.cell? ⟨gb140, 2, none⟩ = some (.int .i64 t137) ∧ w'.cell? ⟨gb140, 3, none⟩ = some (.int .i64 t138)) ∧ (Kd.R k66 66 w' w.heap.size (fun k_ => some k_ ≠ (s_.1 : Value).ownBlock ∧ some k_ ≠ (.slice Ao10 t102.length co10 : Value).ownBlock ∧ some k_ ≠ (.slice Ao15 t112.length co15 : Value).ownBlock ∧ some k_ ≠ (.slice Ao21 t120.length co21 : Value).ownBlock) (.slice Ao77 t133.length co77) t133) ∧ (Kd.R k66 66 w' w.heap.size (fun k_ => some k_ ≠ (.slice Ao77 t133.length co77 : Value).ownBlock ∧ some k_ ≠ (.slice Ao10 t102.length co10 : Value).ownBlock ∧ some k_ ≠ (.slice Ao15 t112.length co15 : Value).ownBlock ∧ some k_ ≠ (.slice Ao21 t120.length co21 : Value).ownBlock) s_.1 t146) ∧ (Kd.R k66 66 w' w.heap.size (fun k_ => some k_ ≠ (.slice Ao77 t133.length co77 : Value).ownBlock ∧ some k_ ≠ (s_.1 : Value).ownBlock ∧ some k_ ≠ (.slice Ao15 t112.length co15 : Value).ownBlock ∧ some k_ ≠ (.slice Ao21 t120.length co21 : Value).ownBlock) (.slice Ao10 t102.length co10) t102) ∧ (Kd.R k66 66 w' w.heap.size (fun k_ => some k_ ≠ (.slice Ao77 t133.length co77 : Value).ownBlock ∧ some k_ ≠ (s_.1 : Value).ownBlock ∧ some k_ ≠ (.slice Ao10 t102.length co10 : Value).ownBlock ∧ some k_ ≠ (.slice Ao21 t120.length co21 : Value).ownBlock) (.slice Ao15 t112.length co15) t112) ∧ (Kd.R k66 66 w' w.heap.size (fun k_ => some k_ ≠ (.slice Ao77 t133.length co77 : Value).ownBlock ∧ some k_ ≠ (s_.1 : Value).ownBlock ∧ some k_ ≠ (.slice Ao10 t102.length co10 : Value).ownBlock ∧ some k_ ≠ (.slice Ao15 t112.length co15 : Value).ownBlock) (.slice Ao21 t120.length co21) t120) ∧ (Kd.S k37 37 w' w.heap.size (fun k_ => some k_ ≠ (.slice Ao77 t133.length co77 : Value).ownBlock ∧ some k_ ≠ (s_.1 : Value).ownBlock ∧ some k_ ≠ (.slice Ao10 t102.length co10 : Value).ownBlock ∧ some k_ ≠ (.slice Ao15 t112.length co15 : Value).ownBlock ∧ some k_ ≠ (.slice Ao21 t120.length co21 : Value).ownBlock) (.slice Ao12 t108.length co12) t108) ∧ (w'.heap[gb111]? = some (.cells #[.slice Ao10 t102.length co10, .int .i64 t105, .int .i64 t106, .int .i64 t107] 32 (0, 0))) ∧ (w'.heap[gb119]? = some (.cells #[.slice Ao15 t112.length co15, .int .i64 t115, .int .i64 t116, .int .i64 t117] 32 (0, 0))) ∧ (w'.heap[gb127]? = some (.cells #[.slice Ao21 t120.length co21, .int .i64 t123, .int .i64 t124, .int .i64 t125] 32 (0, 0))) ∧ (w'.heap[gb140]? = some (.cells #[.slice Ao77 t133.length co77, .int .i64 t136, .int .i64 t137, .int .i64 t138] 32 (0, 0))) ∧ (w'.heap[s_.2]? = some (.cells #[.slice none 0 0, .int .i64 0, .int .i64 0, .int .i64 0] 32 (0, 0))) ∧ (w.heap.size ≤ s_.2) ∧ (w.heap.size ≤ s_.2) ∧ (gb111 ≠ s_.2) ∧ (s_.2 ≠ gb111) ∧ (gb119 ≠ s_.2) ∧ (s_.2 ≠ gb119) ∧ (gb127 ≠ s_.2) ∧ (s_.2 ≠ gb127) ∧ (gb140 ≠ s_.2) ∧ (s_.2 ≠ gb140) ∧ (Below w.heap.size w w')) ?_ ?_
             rotate_left
             ·intro hCont
              refine two_ (i := 4) (j := 8) (Ni := some 83) (Nj := some 12) bq20 bq17 rfl rfl rfl rfl (two_of HT_.out (by kernel_rfl)) (by decide) (by decide) (fun K hK => ?_) (fun K hK => ?_)
              ·skip
               refine goes_ Try.func31 (by kernel_rfl) rfl #[.agg #[.slice Ao77 t133.length co77, .int .i64 t136, .int .i64 t137, .int .i64 t138], .slice A84 y142.length c84] (by rfl) rfl rfl yq147 ?_
               with_reducible refine (impl_Replay.calls kj6 _ _ t133 t136 t137 t138 _ _ y142 t146 t149 t150 t151 t152 _ ?side1 ?side2 ?side3 ?side4 A66.out).mono ?_
               (case side1 => repeat (first | exact (Kd.R_reads' HO135.out).2.2 | (with_reducible refine Kd.C_alloc ?_ _) | (with_reducible refine Kd.C_drewN ?_ _) | (with_reducible refine Kd.C_drew ?_)))
               (case side2 => exact (Kd.R_reads' HO135.out).2.1)
               (case side3 => repeat (first | exact yq155 | (with_reducible refine Kd.C_alloc ?_ _) | (with_reducible refine Kd.C_drewN ?_ _) | (with_reducible refine Kd.C_drew ?_)))
               (case side4 => exact HC145.out)
               rintro e w85 ⟨v147, rfl, ho0, hb⟩
               refine ⟨_, rfl, ?_⟩
               replace HO_4 := Qz.mk (Kd.S_elder' yq152 (Kd.R_base ho0) hb)
               have HO148 := Qz.mk (Kd.R_lower (Kd.R_new' (Kd.R_new' (Kd.R_new' (Kd.R_new' ho0 (Kd.R_lt yq150)) (Kd.R_lt yq149)) (Kd.R_lt yq148)) (Kd.R_lt yq164)) (qz yq144))
               replace HO_112000 := Qz.mk (Kd.R_elder' yq150 (Kd.R_base ho0) hb)
               replace HO_120000 := Qz.mk (Kd.R_elder' yq149 (Kd.R_base ho0) hb)
               replace HO_128000 := Qz.mk (Kd.R_elder' yq148 (Kd.R_base ho0) hb)
               replace HO135 := Qz.mk (Kd.R_elder' yq164 (Kd.R_base ho0) hb)
               replace BK111 := bkbf13 BK111 yq141 hb
               replace BK119 := bkbf13 BK119 yq142 hb
               replace BK127 := bkbf13 BK127 yq143 hb
               replace BK140 := bkbf13 BK140 yq151 hb
               replace HR145 := Qz.mk (Kd.C_below yq155 hb)
               replace HB := Qz.mk (qq yq144 hb)
               (try clear hb)
               (try clear hk)
               (try clear ho0)
               refine hK.out _ _ ⟨(qd BK140.out 0).trans rfl, (qd BK140.out 1).trans rfl, (qd BK140.out 2).trans rfl, (qd BK140.out 3).trans rfl⟩ (fun hHeld => ?_)
               clear hK K
               refine norm_ (a' := ?_) ?_ ?_
               rotate_left
               ·show Act.put _ (some 83) _ = _
                simp only [Act.put, sq1, sq2, sq3, i64_w, i32_w]
                rfl
               refine pure_ (i := 5) (N := some 78) (v := ?_) (a' := ?_) bq25 rfl rfl (qf1 HT_.out (by kernel_rfl)) (fun _ _ _ h => h) (Or.inl ⟨by rfl, ?_⟩) ?_ ?_
               rotate_left
               ·intro w'
                go_simp
                with_reducible rfl
               rotate_left
               ·simp only [Act.put, sq1, sq2, sq3, i64_w, i32_w]
                rfl
               refine pure_ (i := 6) (N := some 84) (v := ?_) (a' := ?_) bq30 rfl rfl (qf1 HT_.out (by kernel_rfl)) (fun _ _ _ h => h) (Or.inl ⟨by rfl, ?_⟩) ?_ ?_
               rotate_left
               ·intro w'
                go_simp
                with_reducible rfl
               rotate_left
               ·simp only [Act.put, sq1, sq2, sq3, i64_w, i32_w]
                rfl
               refine pure_ (i := 7) (N := some 85) (v := ?_) (a' := ?_) bq35 rfl rfl (qf1 HT_.out (by kernel_rfl)) (fun _ _ _ h => h) (Or.inl ⟨by rfl, ?_⟩) ?_ ?_
               rotate_left
               ·intro w'
                go_simp
                with_reducible rfl
               rotate_left
               ·simp only [Act.put, sq1, sq2, sq3, i64_w, i32_w]
                rfl
               refine one_ (i := 8) (N := some 12) bq39 rfl rfl (one_of HT_.out (by kernel_rfl)) (by decide) (fun K hK => ?_)
               refine box_step ?hg (N := 12) ?hd (cs := #[.slice none 0 0, .int .i64 0, .int .i64 0, .int .i64 0]) (t := 32) ?hr ?_; (case hd => rfl); (case hg => rfl); (case hr => exact yq181)
               intro gb153 hg w86 hbox hb
               replace HO_4 := Qz.mk (Kd.S_below yq152 hb)
               replace HO_112000 := Qz.mk (Kd.R_below yq150 hb)
               replace HO_120000 := Qz.mk (Kd.R_below yq149 hb)
               replace HO_128000 := Qz.mk (Kd.R_below yq148 hb)
               replace HO135 := Qz.mk (Kd.R_below yq164 hb)
               replace HO148 := Qz.mk (Kd.R_below (by (with_reducible repeat (first | apply Kd.R_alloc | apply Kd.R_drewN | apply Kd.R_drew)); exact HO148.out) hb)
               replace HR145 := Qz.mk (Kd.C_below yq155 hb)
               have BK153 := Qz.mk (hbox)
               have GW153 := Qz.mk ((by rw [hg]; exact (qz yq144) : w.heap.size ≤ gb153))
               have GE153 := GW153
               replace HB := Qz.mk (qq yq144 hb)
               have NB111_153 := Qz.mk ((yq153 : gb111 ≠ gb153))
               have NB153_111 := Qz.mk ((yq154 : gb153 ≠ gb111))
               replace BK111 := bkbf13 BK111 yq141 hb
               have NB119_153 := Qz.mk ((yq158 : gb119 ≠ gb153))
               have NB153_119 := Qz.mk ((yq159 : gb153 ≠ gb119))
               replace BK119 := bkbf13 BK119 yq142 hb
               have NB127_153 := Qz.mk ((yq160 : gb127 ≠ gb153))
               have NB153_127 := Qz.mk ((yq161 : gb153 ≠ gb127))
               replace BK127 := bkbf13 BK127 yq143 hb
               have NB140_153 := Qz.mk ((by rw [hg]; exact Nat.ne_of_lt (qv (g := gb140) (o := .cells #[.slice Ao77 t133.length co77, .int .i64 t136, .int .i64 t137, .int .i64 t138] 32 (0, 0)) yq151) : gb140 ≠ gb153))
               have NB153_140 := Qz.mk ((by rw [hg]; exact Nat.ne_of_gt (qv (g := gb140) (o := .cells #[.slice Ao77 t133.length co77, .int .i64 t136, .int .i64 t137, .int .i64 t138] 32 (0, 0)) yq151) : gb153 ≠ gb140))
               replace BK140 := bkbf13 BK140 yq151 hb
               clear hb hbox hg
               refine hK.out _ _ ⟨(qd BK140.out 0).trans rfl, (qd BK140.out 1).trans rfl, (qd BK140.out 2).trans rfl, (qd BK140.out 3).trans rfl⟩ (fun hHeld => ?_)
               clear hK K
               refine norm_ (a' := ?_) ?_ ?_
               rotate_left
               ·show Act.put _ (some 12) _ = _
                simp only [Act.put, sq1, sq2, sq3, i64_w, i32_w]
                rfl
               exact norm_ (by simp only [putAll, Act.put, sq1, sq2, sq3]) (hCont (v147, gb153) _ ⟨hHeld, (by (with_reducible repeat (first | apply Kd.R_alloc | apply Kd.R_drewN | apply Kd.R_drew)); exact Kd.R_mono HO135.out (fun _ hk => ⟨hk.2, ⟨hk.1.1, ⟨hk.1.2.1, hk.1.2.2⟩⟩⟩)), (by (with_reducible repeat (first | apply Kd.R_alloc | apply Kd.R_drewN | apply Kd.R_drew)); exact Kd.R_mono HO148.out (fun _ hk => ⟨hk.2, ⟨hk.1.1.1.2, ⟨hk.1.1.2, hk.1.2⟩⟩⟩)), (by (with_reducible repeat (first | apply Kd.R_alloc | apply Kd.R_drewN | apply Kd.R_drew)); exact Kd.R_mono HO_112000.out (fun _ hk => ⟨hk.1.2.2, ⟨hk.2, ⟨hk.1.1, hk.1.2.1⟩⟩⟩)), (by (with_reducible repeat (first | apply Kd.R_alloc | apply Kd.R_drewN | apply Kd.R_drew)); exact Kd.R_mono HO_120000.out (fun _ hk => ⟨hk.1.2.2, ⟨hk.2, ⟨hk.1.1, hk.1.2.1⟩⟩⟩)), (by (with_reducible repeat (first | apply Kd.R_alloc | apply Kd.R_drewN | apply Kd.R_drew)); exact Kd.R_mono HO_128000.out (fun _ hk => ⟨hk.1.2.2, ⟨hk.2, ⟨hk.1.1, hk.1.2.1⟩⟩⟩)), (by (with_reducible repeat (first | apply Kd.S_alloc | apply Kd.S_drewN | apply Kd.S_drew)); exact Kd.S_mono HO_4.out (fun _ hk => ⟨hk.1.2.2.2, ⟨hk.2, ⟨hk.1.1, ⟨hk.1.2.1, hk.1.2.2.1⟩⟩⟩⟩)), yq141, yq142, yq143, yq151, (by (with_reducible repeat (first | refine qb ?_ _ | refine qc ?_ | refine qa ?_ _)); exact BK153.out), GW153.out, GE153.out, NB111_153.out, NB153_111.out, NB119_153.out, NB153_119.out, NB127_153.out, NB153_127.out, NB140_153.out, NB153_140.out, yq165⟩)
              ·skip
               refine box_step ?hg (N := 12) ?hd (cs := #[.slice none 0 0, .int .i64 0, .int .i64 0, .int .i64 0]) (t := 32) ?hr ?_; (case hd => rfl); (case hg => rfl); (case hr => exact yq181)
               intro gb153 hg w85 hbox hb
               replace HO_4 := Qz.mk (Kd.S_below yq152 hb)
               replace HO_112000 := Qz.mk (Kd.R_below yq150 hb)
               replace HO_120000 := Qz.mk (Kd.R_below yq149 hb)
               replace HO_128000 := Qz.mk (Kd.R_below yq148 hb)
               replace HO135 := Qz.mk (Kd.R_below yq164 hb)
               replace HR145 := Qz.mk (Kd.C_below yq155 hb)
               have BK153 := Qz.mk (hbox)
               have GW153 := Qz.mk ((by rw [hg]; exact (qz yq144) : w.heap.size ≤ gb153))
               have GE153 := GW153
               replace HB := Qz.mk (qq yq144 hb)
               have NB111_153 := Qz.mk ((yq153 : gb111 ≠ gb153))
               have NB153_111 := Qz.mk ((yq154 : gb153 ≠ gb111))
               replace BK111 := bkbf13 BK111 yq141 hb
               have NB119_153 := Qz.mk ((yq158 : gb119 ≠ gb153))
               have NB153_119 := Qz.mk ((yq159 : gb153 ≠ gb119))
               replace BK119 := bkbf13 BK119 yq142 hb
               have NB127_153 := Qz.mk ((yq160 : gb127 ≠ gb153))
               have NB153_127 := Qz.mk ((yq161 : gb153 ≠ gb127))
               replace BK127 := bkbf13 BK127 yq143 hb
               have NB140_153 := Qz.mk ((by rw [hg]; exact Nat.ne_of_lt (qv (g := gb140) (o := .cells #[.slice Ao77 t133.length co77, .int .i64 t136, .int .i64 t137, .int .i64 t138] 32 (0, 0)) yq151) : gb140 ≠ gb153))
               have NB153_140 := Qz.mk ((by rw [hg]; exact Nat.ne_of_gt (qv (g := gb140) (o := .cells #[.slice Ao77 t133.length co77, .int .i64 t136, .int .i64 t137, .int .i64 t138] 32 (0, 0)) yq151) : gb153 ≠ gb140))
               replace BK140 := bkbf13 BK140 yq151 hb
               clear hb hbox hg
               refine hK.out _ _ ⟨(qd BK140.out 0).trans rfl, (qd BK140.out 1).trans rfl, (qd BK140.out 2).trans rfl, (qd BK140.out 3).trans rfl⟩ (fun hHeld => ?_)
               clear hK K
               refine norm_ (a' := ?_) ?_ ?_
               rotate_left
               ·show Act.put _ (some 12) _ = _
                simp only [Act.put, sq1, sq2, sq3, i64_w, i32_w]
                rfl
               refine one_ (i := 4) (N := some 83) bq22 rfl rfl (one_of HT_.out (by kernel_rfl)) (by decide) (fun K hK => ?_)
               refine goes_ Try.func31 (by kernel_rfl) rfl #[.agg #[.slice Ao77 t133.length co77, .int .i64 t136, .int .i64 t137, .int .i64 t138], .slice A84 y142.length c84] (by rfl) rfl rfl yq147 ?_
               with_reducible refine (impl_Replay.calls kj6 _ _ t133 t136 t137 t138 _ _ y142 t146 t149 t150 t151 t152 _ ?side1 ?side2 ?side3 ?side4 A66.out).mono ?_
               (case side1 => repeat (first | exact (Kd.R_reads' HO135.out).2.2 | (with_reducible refine Kd.C_alloc ?_ _) | (with_reducible refine Kd.C_drewN ?_ _) | (with_reducible refine Kd.C_drew ?_)))
               (case side2 => exact (Kd.R_reads' HO135.out).2.1)
               (case side3 => repeat (first | exact yq155 | (with_reducible refine Kd.C_alloc ?_ _) | (with_reducible refine Kd.C_drewN ?_ _) | (with_reducible refine Kd.C_drew ?_)))
               (case side4 => exact HC145.out)
               rintro e w86 ⟨v147, rfl, ho0, hb⟩
               refine ⟨_, rfl, ?_⟩
               replace HO_4 := Qz.mk (Kd.S_elder' yq152 (Kd.R_base ho0) hb)
               have HO148 := Qz.mk (Kd.R_lower (Kd.R_new' (Kd.R_new' (Kd.R_new' (Kd.R_new' ho0 (Kd.R_lt yq150)) (Kd.R_lt yq149)) (Kd.R_lt yq148)) (Kd.R_lt yq164)) (qz yq165))
               replace HO_112000 := Qz.mk (Kd.R_elder' yq150 (Kd.R_base ho0) hb)
               replace HO_120000 := Qz.mk (Kd.R_elder' yq149 (Kd.R_base ho0) hb)
               replace HO_128000 := Qz.mk (Kd.R_elder' yq148 (Kd.R_base ho0) hb)
               replace HO135 := Qz.mk (Kd.R_elder' yq164 (Kd.R_base ho0) hb)
               replace BK111 := bkbf13 BK111 yq141 hb
               replace BK119 := bkbf13 BK119 yq142 hb
               replace BK127 := bkbf13 BK127 yq143 hb
               replace BK140 := bkbf13 BK140 yq151 hb
               replace HR145 := Qz.mk (Kd.C_below yq155 hb)
               replace BK153 := bkbf13 BK153 (by (with_reducible repeat (first | refine qb ?_ _ | refine qc ?_ | refine qa ?_ _)); exact BK153.out) hb
               replace HB := Qz.mk (qq yq165 hb)
               (try clear hb)
               (try clear hk)
               (try clear ho0)
               refine hK.out _ _ ⟨(qd BK140.out 0).trans rfl, (qd BK140.out 1).trans rfl, (qd BK140.out 2).trans rfl, (qd BK140.out 3).trans rfl⟩ (fun hHeld => ?_)
               clear hK K
               refine norm_ (a' := ?_) ?_ ?_
               rotate_left
               ·show Act.put _ (some 83) _ = _
                simp only [Act.put, sq1, sq2, sq3, i64_w, i32_w]
                rfl
               refine pure_ (i := 5) (N := some 78) (v := ?_) (a' := ?_) bq27 rfl rfl (qf1 HT_.out (by kernel_rfl)) (fun _ _ _ h => h) (Or.inl ⟨by rfl, ?_⟩) ?_ ?_
               rotate_left
               ·intro w'
                go_simp
                with_reducible rfl
               rotate_left
               ·simp only [Act.put, sq1, sq2, sq3, i64_w, i32_w]
                rfl
               refine pure_ (i := 6) (N := some 84) (v := ?_) (a' := ?_) bq32 rfl rfl (qf1 HT_.out (by kernel_rfl)) (fun _ _ _ h => h) (Or.inl ⟨by rfl, ?_⟩) ?_ ?_
               rotate_left
               ·intro w'
                go_simp
                with_reducible rfl
               rotate_left
               ·simp only [Act.put, sq1, sq2, sq3, i64_w, i32_w]
                rfl
               refine pure_ (i := 7) (N := some 85) (v := ?_) (a' := ?_) bq39 rfl rfl (qf1 HT_.out (by kernel_rfl)) (fun _ _ _ h => h) (Or.inl ⟨by rfl, ?_⟩) ?_ ?_
               rotate_left
               ·intro w'
                go_simp
                with_reducible rfl
               rotate_left
               ·simp only [Act.put, sq1, sq2, sq3, i64_w, i32_w]
                rfl
               exact norm_ (by simp only [putAll, Act.put, sq1, sq2, sq3]) (hCont (v147, gb153) _ ⟨hHeld, (by (with_reducible repeat (first | apply Kd.R_alloc | apply Kd.R_drewN | apply Kd.R_drew)); exact Kd.R_mono HO135.out (fun _ hk => ⟨hk.2, ⟨hk.1.1, ⟨hk.1.2.1, hk.1.2.2⟩⟩⟩)), (by (with_reducible repeat (first | apply Kd.R_alloc | apply Kd.R_drewN | apply Kd.R_drew)); exact Kd.R_mono HO148.out (fun _ hk => ⟨hk.2, ⟨hk.1.1.1.2, ⟨hk.1.1.2, hk.1.2⟩⟩⟩)), (by (with_reducible repeat (first | apply Kd.R_alloc | apply Kd.R_drewN | apply Kd.R_drew)); exact Kd.R_mono HO_112000.out (fun _ hk => ⟨hk.1.2.2, ⟨hk.2, ⟨hk.1.1, hk.1.2.1⟩⟩⟩)), (by (with_reducible repeat (first | apply Kd.R_alloc | apply Kd.R_drewN | apply Kd.R_drew)); exact Kd.R_mono HO_120000.out (fun _ hk => ⟨hk.1.2.2, ⟨hk.2, ⟨hk.1.1, hk.1.2.1⟩⟩⟩)), (by (with_reducible repeat (first | apply Kd.R_alloc | apply Kd.R_drewN | apply Kd.R_drew)); exact Kd.R_mono HO_128000.out (fun _ hk => ⟨hk.1.2.2, ⟨hk.2, ⟨hk.1.1, hk.1.2.1⟩⟩⟩)), (by (with_reducible repeat (first | apply Kd.S_alloc | apply Kd.S_drewN | apply Kd.S_drew)); exact Kd.S_mono HO_4.out (fun _ hk => ⟨hk.1.2.2.2, ⟨hk.2, ⟨hk.1.1, ⟨hk.1.2.1, hk.1.2.2.1⟩⟩⟩⟩)), yq141, yq142, yq143, yq151, (by (with_reducible repeat (first | refine qb ?_ _ | refine qc ?_ | refine qa ?_ _)); exact BK153.out), GW153.out, GE153.out, NB111_153.out, NB153_111.out, NB119_153.out, NB153_119.out, NB127_153.out, NB153_127.out, NB140_153.out, NB153_140.out, yq165⟩)
             rintro ⟨v147, gb153⟩ w87 ⟨hS_, h0_, h1_, h2_, h3_, h4_, h5_, h6_, h7_, h8_, h9_, h10_, h11_, h12_, h13_, h14_, h15_, h16_, h17_, h18_, h19_, h20_, h21_⟩
             have n0_ : Qz (Kd.R k66 66 w87 w.heap.size (fun k_ => some k_ ≠ (v147 : Value).ownBlock ∧ some k_ ≠ (.slice Ao10 t102.length co10 : Value).ownBlock ∧ some k_ ≠ (.slice Ao15 t112.length co15 : Value).ownBlock ∧ some k_ ≠ (.slice Ao21 t120.length co21 : Value).ownBlock) (.slice Ao77 t133.length co77) t133) := ⟨h0_⟩
             have n1_ : Qz (Kd.R k66 66 w87 w.heap.size (fun k_ => some k_ ≠ (.slice Ao77 t133.length co77 : Value).ownBlock ∧ some k_ ≠ (.slice Ao10 t102.length co10 : Value).ownBlock ∧ some k_ ≠ (.slice Ao15 t112.length co15 : Value).ownBlock ∧ some k_ ≠ (.slice Ao21 t120.length co21 : Value).ownBlock) v147 t146) := ⟨h1_⟩
             have n2_ : Qz (Kd.R k66 66 w87 w.heap.size (fun k_ => some k_ ≠ (.slice Ao77 t133.length co77 : Value).ownBlock ∧ some k_ ≠ (v147 : Value).ownBlock ∧ some k_ ≠ (.slice Ao15 t112.length co15 : Value).ownBlock ∧ some k_ ≠ (.slice Ao21 t120.length co21 : Value).ownBlock) (.slice Ao10 t102.length co10) t102) := ⟨h2_⟩
             have n3_ : Qz (Kd.R k66 66 w87 w.heap.size (fun k_ => some k_ ≠ (.slice Ao77 t133.length co77 : Value).ownBlock ∧ some k_ ≠ (v147 : Value).ownBlock ∧ some k_ ≠ (.slice Ao10 t102.length co10 : Value).ownBlock ∧ some k_ ≠ (.slice Ao21 t120.length co21 : Value).ownBlock) (.slice Ao15 t112.length co15) t112) := ⟨h3_⟩
             have n4_ : Qz (Kd.R k66 66 w87 w.heap.size (fun k_ => some k_ ≠ (.slice Ao77 t133.length co77 : Value).ownBlock ∧ some k_ ≠ (v147 : Value).ownBlock ∧ some k_ ≠ (.slice Ao10 t102.length co10 : Value).ownBlock ∧ some k_ ≠ (.slice Ao15 t112.length co15 : Value).ownBlock) (.slice Ao21 t120.length co21) t120) := ⟨h4_⟩
             have n5_ : Qz (Kd.S k37 37 w87 w.heap.size (fun k_ => some k_ ≠ (.slice Ao77 t133.length co77 : Value).ownBlock ∧ some k_ ≠ (v147 : Value).ownBlock ∧ some k_ ≠ (.slice Ao10 t102.length co10 : Value).ownBlock ∧ some k_ ≠ (.slice Ao15 t112.length co15 : Value).ownBlock ∧ some k_ ≠ (.slice Ao21 t120.length co21 : Value).ownBlock) (.slice Ao12 t108.length co12) t108) := ⟨h5_⟩
             have n6_ : Qz (w87.heap[gb111]? = some (.cells #[.slice Ao10 t102.length co10, .int .i64 t105, .int .i64 t106, .int .i64 t107] 32 (0, 0))) := ⟨h6_⟩
             have n7_ : Qz (w87.heap[gb119]? = some (.cells #[.slice Ao15 t112.length co15, .int .i64 t115, .int .i64 t116, .int .i64 t117] 32 (0, 0))) := ⟨h7_⟩
             have n8_ : Qz (w87.heap[gb127]? = some (.cells #[.slice Ao21 t120.length co21, .int .i64 t123, .int .i64 t124, .int .i64 t125] 32 (0, 0))) := ⟨h8_⟩
             have n9_ : Qz (w87.heap[gb140]? = some (.cells #[.slice Ao77 t133.length co77, .int .i64 t136, .int .i64 t137, .int .i64 t138] 32 (0, 0))) := ⟨h9_⟩
             have n10_ : Qz (w87.heap[gb153]? = some (.cells #[.slice none 0 0, .int .i64 0, .int .i64 0, .int .i64 0] 32 (0, 0))) := ⟨h10_⟩
             have n11_ : Qz (w.heap.size ≤ gb153) := ⟨h11_⟩
             have n12_ : Qz (w.heap.size ≤ gb153) := ⟨h12_⟩
             have n13_ : Qz (gb111 ≠ gb153) := ⟨h13_⟩
             have n14_ : Qz (gb153 ≠ gb111) := ⟨h14_⟩
             have n15_ : Qz (gb119 ≠ gb153) := ⟨h15_⟩
             have n16_ : Qz (gb153 ≠ gb119) := ⟨h16_⟩
             have n17_ : Qz (gb127 ≠ gb153) := ⟨h17_⟩
             have n18_ : Qz (gb153 ≠ gb127) := ⟨h18_⟩
             have n19_ : Qz (gb140 ≠ gb153) := ⟨h19_⟩
             have n20_ : Qz (gb153 ≠ gb140) := ⟨h20_⟩
             have n21_ : Qz (Below w.heap.size w w87) := ⟨h21_⟩
             clear HO_4
             clear HO_112000
             clear HO_120000
             clear HO_128000
             clear HO135
             clear BK111
             clear BK119
             clear BK127
             clear BK140
             clear HB
             clear h0_ h1_ h2_ h3_ h4_ h5_ h6_ h7_ h8_ h9_ h10_ h11_ h12_ h13_ h14_ h15_ h16_ h17_ h18_ h19_ h20_ h21_
             have HO135 := n0_
             have HO148 := n1_
             have HO_112000 := n2_
             have HO_120000 := n3_
             have HO_128000 := n4_
             have HO_4 := n5_
             have BK111 := n6_
             have BK119 := n7_
             have BK127 := n8_
             have BK140 := n9_
             have BK153 := n10_
             have GW153 := n11_
             have GE153 := n12_
             have NB111_153 := n13_
             have NB153_111 := n14_
             have NB119_153 := n15_
             have NB153_119 := n16_
             have NB127_153 := n17_
             have NB153_127 := n18_
             have NB140_153 := n19_
             have NB153_140 := n20_
             have HB := n21_
             clear n0_ n1_ n2_ n3_ n4_ n5_ n6_ n7_ n8_ n9_ n10_ n11_ n12_ n13_ n14_ n15_ n16_ n17_ n18_ n19_ n20_ n21_
             have hHeld : w87.cell? ⟨gb140, 0, none⟩ = some (.slice Ao77 t133.length co77) ∧ w87.cell? ⟨gb140, 1, none⟩ = some (.int .i64 t136) ∧ w87.cell? ⟨gb140, 2, none⟩ = some (.int .i64 t137) ∧ w87.cell? ⟨gb140, 3, none⟩ = some (.int .i64 t138) := hS_
             obtain ⟨Ao88, co88, eo88⟩ := Kd.R_slice HO148.out
             (first | subst eo88 | (injection eo88 with f1_ f2_ f3_; have f4_ := f1_.symm; have f5_ := f3_.symm; clear f1_ f2_ f3_; subst f4_; subst f5_))
             refine norm_ (a' := ?_) ?_ ?_
             rotate_left
             ·simp only [putAll, Act.put, sq1, sq2, sq3]
              rfl
             refine one_ (i := 9) (N := none) bq42 rfl rfl (one_of HT_.out (by kernel_rfl)) (by decide) (fun K hK => ?_)
             have hs89 : w87.cell? ⟨gb153, 0, none⟩ = some (.slice none 0 0) := (qd BK153.out 0).trans rfl
             have hfs89 := qf BK153.out 0
             have hns89_0 := NB111_153.out
             have hns89_1 := NB119_153.out
             have hns89_2 := NB127_153.out
             have hns89_3 := NB140_153.out
             have hms89_0 := NB153_111.out
             have hms89_1 := NB153_119.out
             have hms89_2 := NB153_127.out
             have hms89_3 := NB153_140.out
             have hs90 : w87.cell? ⟨gb153, 1, none⟩ = some (.int .i64 0) := (qd BK153.out 1).trans rfl
             have hfs90 := qf BK153.out 1
             have hns90_0 := NB111_153.out
             have hns90_1 := NB119_153.out
             have hns90_2 := NB127_153.out
             have hns90_3 := NB140_153.out
             have hms90_0 := NB153_111.out
             have hms90_1 := NB153_119.out
             have hms90_2 := NB153_127.out
             have hms90_3 := NB153_140.out
             have hs91 : w87.cell? ⟨gb153, 2, none⟩ = some (.int .i64 0) := (qd BK153.out 2).trans rfl
             have hfs91 := qf BK153.out 2
             have hns91_0 := NB111_153.out
             have hns91_1 := NB119_153.out
             have hns91_2 := NB127_153.out
             have hns91_3 := NB140_153.out
             have hms91_0 := NB153_111.out
             have hms91_1 := NB153_119.out
             have hms91_2 := NB153_127.out
             have hms91_3 := NB153_140.out
             have hs92 : w87.cell? ⟨gb153, 3, none⟩ = some (.int .i64 0) := (qd BK153.out 3).trans rfl
             have hfs92 := qf BK153.out 3
             have hns92_0 := NB111_153.out
             have hns92_1 := NB119_153.out
             have hns92_2 := NB127_153.out
             have hns92_3 := NB140_153.out
             have hms92_0 := NB153_111.out
             have hms92_1 := NB153_119.out
             have hms92_2 := NB153_127.out
             have hms92_3 := NB153_140.out
             refine skip_ (w1 := ?_) (by rfl) rfl ?_ ?_
             rotate_left
             ·go_simp
              rfl
             refine hK.out _ _ ⟨((qr (p := ⟨gb153, _, none⟩) NB140_153.out _).trans (((qr (p := ⟨gb153, _, none⟩) NB140_153.out _).trans (((qr (p := ⟨gb153, _, none⟩) NB140_153.out _).trans (((qr (p := ⟨gb153, _, none⟩) NB140_153.out _).trans (hHeld.1)))))))), ((qr (p := ⟨gb153, _, none⟩) NB140_153.out _).trans (((qr (p := ⟨gb153, _, none⟩) NB140_153.out _).trans (((qr (p := ⟨gb153, _, none⟩) NB140_153.out _).trans (((qr (p := ⟨gb153, _, none⟩) NB140_153.out _).trans (hHeld.2.1)))))))), ((qr (p := ⟨gb153, _, none⟩) NB140_153.out _).trans (((qr (p := ⟨gb153, _, none⟩) NB140_153.out _).trans (((qr (p := ⟨gb153, _, none⟩) NB140_153.out _).trans (((qr (p := ⟨gb153, _, none⟩) NB140_153.out _).trans (hHeld.2.2.1)))))))), ((qr (p := ⟨gb153, _, none⟩) NB140_153.out _).trans (((qr (p := ⟨gb153, _, none⟩) NB140_153.out _).trans (((qr (p := ⟨gb153, _, none⟩) NB140_153.out _).trans (((qr (p := ⟨gb153, _, none⟩) NB140_153.out _).trans (hHeld.2.2.2))))))))⟩ (fun hHeld => ?_)
             clear hK K
             refine pure_ (i := 10) (N := some 13) (v := ?_) (a' := ?_) bq47 rfl rfl (qf1 HT_.out (by kernel_rfl)) (fun _ _ _ h => h) (Or.inl ⟨by rfl, ?_⟩) ?_ ?_
             rotate_left
             ·intro w'
              go_simp
              with_reducible rfl
             rotate_left
             ·simp only [Act.put, sq1, sq2, sq3, i64_w, i32_w]
              rfl
             refine done_ (done_of HT_.out (by kernel_rfl)) ?_
             have hnb93 := NB153_111.out
             have hnc93 := NB111_153.out
             have hnb94 := NB153_119.out
             have hnc94 := NB119_153.out
             have hnb95 := NB153_127.out
             have hnc95 := NB127_153.out
             have hnb96 := NB153_140.out
             have hnc96 := NB140_153.out
             have hcz97_0 := (qd BK153.out 0).trans rfl
             have hcz97_1 := (qd BK153.out 1).trans rfl
             have hcz97_2 := (qd BK153.out 2).trans rfl
             have hcz97_3 := (qd BK153.out 3).trans rfl
             have hfz97_0 := qf BK153.out 0
             have hfz97_1 := qf BK153.out 1
             have hfz97_2 := qf BK153.out 2
             have hfz97_3 := qf BK153.out 3
             have hnb98 := NB119_111.out
             have hnc98 := NB111_119.out
             have hnb99 := NB119_127.out
             have hnc99 := NB127_119.out
             have hnb100 := NB119_140.out
             have hnc100 := NB140_119.out
             have hcz101_0 := (qd BK119.out 0).trans rfl
             have hcz101_1 := (qd BK119.out 1).trans rfl
             have hcz101_2 := (qd BK119.out 2).trans rfl
             have hcz101_3 := (qd BK119.out 3).trans rfl
             have hfz101_0 := qf BK119.out 0
             have hfz101_1 := qf BK119.out 1
             have hfz101_2 := qf BK119.out 2
             have hfz101_3 := qf BK119.out 3
             try go_wp2_with (first | (go_at_call 50; (with_reducible refine (laws_sameMetas.calls kj6 _ _ t146 _ _ t112 true _ ?side1 ?side2 ?side3 ?side4 A68.out).mono ?_); (case side1 => refine (Kd.R_reads' (e := 66) (base := w.heap.size) (ok := fun k_ => (some k_ ≠ (.slice Ao77 t133.length co77 : Value).ownBlock ∧ (some k_ ≠ (.slice Ao10 t102.length co10 : Value).ownBlock ∧ (some k_ ≠ (.slice Ao15 t112.length co15 : Value).ownBlock ∧ some k_ ≠ (.slice Ao21 t120.length co21 : Value).ownBlock)))) (n := t146.length) (c := co88) ?_).2.2; exact (by (with_reducible repeat (first | apply Kd.R_alloc | apply Kd.R_drewN | apply Kd.R_drew)); exact (Kd.R_mono (Kd.R_far (p := ⟨gb153, 3, none⟩) (Kd.R_far (p := ⟨gb153, 2, none⟩) (Kd.R_far (p := ⟨gb153, 1, none⟩) (Kd.R_far (p := ⟨gb153, 0, none⟩) (Kd.R_types HO148.out BK153.out (by decide)) (fun _ hk => hk.2) (.slice Ao88 t146.length co88)) (fun _ hk => hk.2) (.int .i64 t149)) (fun _ hk => hk.2) (.int .i64 t150)) (fun _ hk => hk.2) (.int .i64 t151)) (fun _ h_ => h_.1)))); (case side2 => exact (Kd.R_reads' HO148.out).2.1); (case side3 => refine (Kd.R_reads' (e := 66) (base := w.heap.size) (ok := fun k_ => (some k_ ≠ (.slice Ao77 t133.length co77 : Value).ownBlock ∧ (some k_ ≠ (.slice Ao88 t146.length co88 : Value).ownBlock ∧ (some k_ ≠ (.slice Ao10 t102.length co10 : Value).ownBlock ∧ some k_ ≠ (.slice Ao21 t120.length co21 : Value).ownBlock)))) (n := t112.length) (c := co15) ?_).2.2; exact (by (with_reducible repeat (first | apply Kd.R_alloc | apply Kd.R_drewN | apply Kd.R_drew)); exact (Kd.R_mono (Kd.R_far (p := ⟨gb153, 3, none⟩) (Kd.R_far (p := ⟨gb153, 2, none⟩) (Kd.R_far (p := ⟨gb153, 1, none⟩) (Kd.R_far (p := ⟨gb153, 0, none⟩) (Kd.R_types HO_120000.out BK153.out (by decide)) (fun _ hk => hk.2) (.slice Ao88 t146.length co88)) (fun _ hk => hk.2) (.int .i64 t149)) (fun _ hk => hk.2) (.int .i64 t150)) (fun _ hk => hk.2) (.int .i64 t151)) (fun _ h_ => h_.1)))); (case side4 => exact (Kd.R_reads' HO_120000.out).2.1); rintro e w' ⟨rfl, ⟨nd, rfl⟩⟩))
             go_ret
             exact ⟨by first | rfl | (simp [qy, qx] <;> rfl) | (simp only [← hji40]; first | rfl | (simp [qy, qx] <;> rfl)) | (simp [*, qy, qx] <;> rfl), by repeat (first | (with_reducible first | exact HB.out | apply qh | apply qg | apply qi | refine qe ?_ GE111.out | refine qe ?_ GE119.out | refine qe ?_ GE127.out | refine qe ?_ GE140.out | refine qe ?_ GE153.out) | exact HB.out)⟩
            ·rw [if_neg c71] at H
             exact absurd H (by simp)
           ·rw [if_neg c70] at H
            exact absurd H (by simp)
          ·replace c69 := Bool.eq_false_iff.mpr c69
           subst c69
           have H1 : (none) = some r := by rw [if_neg (show ¬ (false = true) by decide)] at H; exact H
           clear H
           have H := H1
           clear H1
           exact absurd H (by simp)
         ·rw [if_neg c67] at H
          exact absurd H (by simp)
       ·rw [if_neg c42] at H
        exact absurd H (by simp)
      ·rw [if_neg c41] at H
       exact absurd H (by simp)
def laws_FnReplayed.Pure : Prop := ∀ (l0 : List Int), l0.length ≤ maxLen → l0.length * 1 ≤ 140737488351232 → (∀ x ∈ l0, (Lit.int .u8 x).wf = true) → ∃ k, laws_FnReplayed.f k l0 = some true
theorem laws_FnReplayed.walk (P : laws_FnReplayed.Pure) (a0 : Option Addr) (len0 cap0 : Nat) (z0 : List Int) (w : World) (w0 : (a0 = none ∧ len0 = 0 ∧ cap0 = 0 ∧ z0 = []) ∨ ∃ x, a0 = some x ∧ len0 ≤ cap0 ∧ cap0 ≤ maxLen ∧ z0.length = cap0 ∧ (∀ i, i < z0.length → w.cell? (x.add i) = some (.int .u8 (z0.getD i 0))) ∧ ∀ n ∈ z0, (Lit.int .u8 n).wf = true) (y0 : len0 * 1 ≤ 140737488351232) :
  Calls Try.prog 13 #[.slice a0 len0 cap0] w fun e w' => e = .returned (.bool true) ∧ Below w.heap.size w w' := by
 obtain ⟨l0, rfl, hr0, hm0, hw0, hc0⟩ := ReadsInt.ofRowC w0
 obtain ⟨k, h⟩ := P l0 hm0 y0 hw0
 refine (laws_FnReplayed.calls k _ _ l0 true w (Kd.C_of_reads (d := (0 : Int)) (h1 := fun _ => rfl) hr0) hc0 h).mono ?_
 rintro e w' ⟨rfl, hd⟩
 exact ⟨rfl, hd⟩
end Go.Proofs.Ytcgejabkjljeeaa.P
end
