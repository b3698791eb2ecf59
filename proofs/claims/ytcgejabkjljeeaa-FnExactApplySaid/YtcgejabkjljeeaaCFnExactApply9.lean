/- Proved: the law FnExactApply of the given program returns true for every input of its Go types and leaves each argument as it was; no condition. (Part 10 of 15.) -/
import Derived.Test.YtcgejabkjljeeaaCFnExactApply3
import Derived.Lib.SliceRun
import Derived.Lib.Walk
import Derived.Test.YtcgejabkjljeeaaCFnExactApply6
import Derived.Test.YtcgejabkjljeeaaCFnExactApply4
import Derived.Test.YtcgejabkjljeeaaCFnExactApply8
section
namespace Go.Proofs.Ytcgejabkjljeeaa.P
open Go.RowKit Go.Proofs.YtcgejabkjljeeaaW.PrintWords Go.Proofs.YtcgejabkjljeeaaW.PrintLast Go.Proofs.YtcgejabkjljeeaaW.PrintMore
attribute [local go_sem] str_gtr str_leq str_geq qb1 qz max_two min_two qw qv qa1 qy
set_option linter.unusedVariables false
set_option linter.unusedSimpArgs false
theorem R_empty {α : Type} (d : Kd α) (e : Nat) (w : World) (base : Nat) (hb : base ≤ w.heap.size) : d.R e (w.alloc (.cells #[] e)) base (fun _ => True) (.slice (some ⟨w.heap.size, 0, none⟩) ([] : List α).length 0) [] :=
 ⟨fun _ _ => trivial, [], World.ownsRow_made w #[] 0 hb (Nat.zero_le _) (by simp), Reps.none _ _⟩
set_option maxHeartbeats 4000000 in
set_option maxRecDepth 100000 in
theorem clone_Meta (A0 : Option Addr) (c0 : Nat) (l : List S66) (w0 w : World) (hB : Below w0.heap.size w0 w) (hr : Kd.C k66 w A0 l.length l) (hl : l.length * 56 ≤ 140737488355328) :
  Calls Try.prog 69 #[.slice A0 l.length c0] w fun e w' => ∃ v, e = .returned v ∧ Kd.R k66 66 w' w0.heap.size (fun _ => True) v l ∧ Below w0.heap.size w0 w' := by
 have q : ∀ (w : World) (a : Option Addr) (n c n' c' : Nat), (binOp .eql 30 (.slice a n c) (.slice none n' c')).run Try.prog w = .ok (.bool a.isNone) w := fun w a n c n' c' => Lib.run_eql_slice_nil w _ _ a n c n' c' Try.underlying30
 have HR := Qz.mk hr
 have HB := Qz.mk hB
 have hsz := hB.size
 cases A0 with
 | none =>
  have h0 : l = [] := by
   by_cases h0 : l.length = 0
   ·exact List.length_eq_zero_iff.1 h0
   ·obtain ⟨ad, e, _⟩ := hr.2.2 (by omega)
    cases e
  clear hr hB
  go_enter Try.func69, Try.ntmps69
  go_wp2
  go_ret
  refine ⟨_, rfl, ?_, HB.out⟩
  rw [h0]
  exact Kd.R_nil _ _ _ _ _
 | some ad =>
  clear hr hB
  have HX := Qz.mk hl
  clear hl
  go_enter Try.func69, Try.ntmps69
  go_wp2_with (first | ((with_reducible refine gate_builtin (b := .append) (xs := #[.tmp 5, .tmp 6]) rfl ?_); at_builtin; refine Kd.R_append_rows k66 (w0 := w0) w0.heap.size rfl (.tmp 5) (.tmp 6) 30 66 (.agg #[.int .i64 0, .int .i64 0, .string ⟨#[]⟩, .string ⟨#[]⟩, .int .i64 0]) 56 rfl Try.underlying30 info66 rfl (by decide) (by omega) (.slice (some ⟨w.heap.size, 0, none⟩) ([] : List S66).length 0) [] l (some ad) l.length c0 (fun _ => True) (fun _ => False) rfl rfl ?aO ?aR (fun _ _ h => h) (fun _ h => h.elim) ?aF ?aB ?aS ?aL ?_; (case aO => exact R_empty k66 66 w _ hsz); (case aR => exact Kd.C_below HR.out ((Below.refl _ w).alloc (Nat.le_refl _) _)); (case aF => exact fun _ _ => trivial); (case aB => exact HB.out.alloc hsz _); (case aS => exact (HB.out.alloc hsz _).size); (case aL => have := HX.out; simp only [List.length_nil, Nat.zero_add]; exact this); intro v1 w1 ho hb hg hat))
  go_ret
  exact ⟨_, rfl, ho, hb⟩
end Go.Proofs.Ytcgejabkjljeeaa.P
end

section
namespace Go.Proofs.Ytcgejabkjljeeaa.P
open Go.RowKit Go.Proofs.YtcgejabkjljeeaaW.PrintWords Go.Proofs.YtcgejabkjljeeaaW.PrintLast Go.Proofs.YtcgejabkjljeeaaW.PrintMore
attribute [local go_sem] str_gtr str_leq str_geq qb1 qz max_two min_two qw qv qa1 qy
set_option linter.unusedVariables false
set_option linter.unusedSimpArgs false
def idxf {α : Type} (p : α → Bool) : List α → Nat → Int
 | [], _ => -1
 | x :: xs, i => if p x = true then (i : Int) else idxf p xs (i + 1)
theorem idxf_hit {α : Type} (p : α → Bool) (d : α) : ∀ (l : List α) (k i : Nat), k < l.length → p (l.getD k d) = true → (∀ j, j < k → p (l.getD j d) = false) → idxf p l i = ((i + k : Nat) : Int)
 | [], _, _, h, _, _ => absurd h (Nat.not_lt_zero _)
 | x :: xs, 0, i, _, h, _ => by
  have : p x = true := by simpa using h
  simp [idxf, this]
 | x :: xs, k + 1, i, hk, h, hn => by
  have h0 : p x = false := by simpa using hn 0 (Nat.succ_pos _)
  simp only [idxf, h0, Bool.false_eq_true, if_false]
  rw [idxf_hit p d xs k (i + 1) (by simpa using hk) (by simpa using h) (fun j hj => by simpa using hn (j + 1) (by omega))]
  congr 1
  omega
theorem idxf_miss {α : Type} (p : α → Bool) (d : α) : ∀ (l : List α) (i : Nat), (∀ j, j < l.length → p (l.getD j d) = false) → idxf p l i = -1
 | [], _, _ => rfl
 | x :: xs, i, hn => by
  have h0 : p x = false := by simpa using hn 0 (by simp)
  simp only [idxf, h0, Bool.false_eq_true, if_false]
  exact idxf_miss p d xs (i + 1) (fun j hj => by simpa using hn (j + 1) (by simpa using hj))
theorem idxf_any {α : Type} (p : α → Bool) : ∀ (l : List α) (i : Nat), decide (0 ≤ idxf p l i) = l.any p
 | [], _ => rfl
 | x :: xs, i => by
  cases h : p x with
  | true => simp [idxf, h]
  | false =>
   simp only [idxf, h, Bool.false_eq_true, if_false, List.any_cons, Bool.false_or]
   exact idxf_any p xs (i + 1)
set_option maxHeartbeats 2000000 in
theorem indexFunc_Meta.calls (g : Nat) (lb : Array Value) (p : S66 → Bool) (A : Option Addr) (c : Nat) (l : List S66) (w : World) (hr : Kd.C k66 w A l.length l)
  (eg : ∀ args w, (callFunc g args).run Try.prog w = .ok (.enter g args) w)
  (hp : ∀ (x : S66) (W : World), Below w.heap.size w W → Calls Try.prog g (#[.agg #[.int .i64 x.f0, .int .i64 x.f1, .string x.f2, .string x.f3, .int .i64 x.f4]] ++ lb) W fun e w' => e = .returned (.bool (p x)) ∧ Below w.heap.size w w') :
  Calls Try.prog 92 #[.slice A l.length c, .func (.func g) #[] lb] w fun e w' => e = .returned (.int .i64 (idxf p l 0)) ∧ Below w.heap.size w w' := by
 have hlm := Kd.C_max hr
 have HR := Qz.mk hr
 clear hr
 go_enter Try.func92, Try.ntmps92
 go_wp2
 go_loopg [5, 8] l.length (fun gg _ s8 wr => ∃ i : Int, 0 ≤ i ∧ i ≤ l.length ∧ (l.length : Int) - i ≤ gg ∧ s8 = .int .i64 i ∧ Qz (Below w.heap.size w wr) ∧ Qz (∀ j : Nat, (j : Int) < i → p (l.getD j z66) = false))
 case atStart => exact ⟨0, by omega, by omega, by omega, rfl, ⟨Below.refl _ w⟩, ⟨fun j hj => absurd hj (by omega)⟩⟩
 case round =>
  obtain ⟨i, hi0, hi1, hg, rfl, BW, AN⟩ := hrel
  by_cases hlt : i < (l.length : Int)
  ·obtain ⟨k1, rfl⟩ : ∃ m, gk = m + 1 := ⟨gk - 1, by omega⟩
   have hd : decide (i < (l.length : Int)) = true := decide_eq_true hlt
   obtain ⟨ad, e, h0, h1, h2, h3, h4⟩ := at_T66 HR.out i hi0 hlt
   cases e
   replace h0 := (BW.out.cell (World.block_lt_of_cell? w _ h0)).trans h0
   replace h1 := (BW.out.cell (World.block_lt_of_cell? w _ h1)).trans h1
   replace h2 := (BW.out.cell (World.block_lt_of_cell? w _ h2)).trans h2
   replace h3 := (BW.out.cell (World.block_lt_of_cell? w _ h3)).trans h3
   replace h4 := (BW.out.cell (World.block_lt_of_cell? w _ h4)).trans h4
   have hcall := hp (qk l i) wr BW.out
   clear hp
   have HX : Qz (qk l i = l.getD i.toNat z66) := ⟨rfl⟩
   generalize qk l i = x at h0 h1 h2 h3 h4 hcall HX
   cases hq : p x with
   | true =>
    rw [hq] at hcall
    have HQ := Qz.mk hq
    clear hq
    go_wp2_with fail
    (with_reducible refine hcall.mono ?_)
    rintro e w' ⟨rfl, hb'⟩
    go_wp2
    go_ret
    refine ⟨?_, hb'⟩
    show Ending.returned (.int .i64 i) = _
    rw [idxf_hit p z66 l i.toNat 0 (by omega) (by rw [← HX.out]; exact HQ.out) (fun j hj => AN.out j (by omega))]
    rw [show (((0 + i.toNat : Nat)) : Int) = i from by omega]
   | false =>
    rw [hq] at hcall
    have HQ := Qz.mk hq
    clear hq
    go_wp2_with fail
    (with_reducible refine hcall.mono ?_)
    rintro e w' ⟨rfl, hb'⟩
    go_wp2
    go_roundg k1
    case measure => omega
    case rel =>
     refine ⟨i + 1, by omega, by omega, by omega, by first | rfl | go_num, ⟨hb'⟩, ⟨fun j hj => ?_⟩⟩
     by_cases e : (j : Int) = i
     ·subst e
      rw [← show x = l.getD j z66 from HX.out]
      exact HQ.out
     ·exact AN.out j (by omega)
  ·have hd : decide (i < (l.length : Int)) = false := decide_eq_false hlt
   go_wp2
   all_goals
    go_ret
    refine ⟨?_, BW.out⟩
    rw [idxf_miss p z66 l 0 (fun j hj => AN.out j (by omega))]
    rfl
end Go.Proofs.Ytcgejabkjljeeaa.P
end

section
namespace Go.Proofs.Ytcgejabkjljeeaa.P
open Go.RowKit Go.Proofs.YtcgejabkjljeeaaW.PrintWords Go.Proofs.YtcgejabkjljeeaaW.PrintLast Go.Proofs.YtcgejabkjljeeaaW.PrintMore
attribute [local go_sem] str_gtr str_leq str_geq qb1 qz max_two min_two qw qv qa1 qy
set_option linter.unusedVariables false
set_option linter.unusedSimpArgs false
theorem zeroCells_length (cs : Array Value) (n : Nat) : (Builtin.zeroCells cs n).toList.length = n * cs.size := by simp [Builtin.zeroCells]
theorem zeroCells_one (cs : Array Value) (n : Nat) (hp : 0 < cs.size) (h : ∀ v ∈ cs, v.oneCell' = true) : ∀ v ∈ (Builtin.zeroCells cs n).toList, v.oneCell' = true := by
 intro v hv
 simp only [Builtin.zeroCells, Array.toList_map, List.mem_map] at hv
 obtain ⟨i, _, rfl⟩ := hv
 rw [getElem!_pos cs (i % cs.size) (Nat.mod_lt _ hp)]
 exact h _ (Array.getElem_mem _)
theorem idxf_neg {α : Type} (p : α → Bool) : ∀ (l : List α) (i : Nat), idxf p l i = -1 ∨ ∃ k : Nat, k < l.length ∧ idxf p l i = ((i + k : Nat) : Int) ∧ (∀ d, p (l.getD k d) = true) ∧ ∀ d j, j < k → p (l.getD j d) = false
 | [], _ => .inl rfl
 | x :: xs, i => by
  cases h : p x with
  | true => exact .inr ⟨0, by simp, by simp [idxf, h], fun d => by simpa using h, fun d j hj => absurd hj (Nat.not_lt_zero _)⟩
  | false =>
   simp only [idxf, h, Bool.false_eq_true, if_false]
   rcases idxf_neg p xs (i + 1) with h1 | ⟨k, h1, h2, h3, h4⟩
   ·exact .inl h1
   ·refine .inr ⟨k + 1, by simpa using h1, by rw [h2]; congr 1; omega, fun d => by simpa using h3 d, fun d j hj => ?_⟩
    cases j with
    | zero => simpa using h
    | succ j => simpa using h4 d j (by omega)
def StayBut (W W' : World) (v : Value) : Prop := W.heap.size ≤ W'.heap.size ∧ ∀ k, k < W.heap.size → some k ≠ v.ownBlock → W'.heap[k]? = W.heap[k]?
theorem StayBut.below {W W' : World} (h : Below W.heap.size W W') (v : Value) : StayBut W W' v := ⟨h.size, fun k hk _ => h.block k hk⟩
theorem StayBut.step {W W1 W2 : World} {v : Value} (h : StayBut W W1 v) (hb : Below W1.heap.size W1 W2) : StayBut W W2 v := ⟨Nat.le_trans h.1 hb.size, fun k hk hv => (hb.block k (Nat.lt_of_lt_of_le hk h.1)).trans (h.2 k hk hv)⟩
theorem StayBut.grown {W W1 W2 : World} {v : Value} {g : Nat} (h : StayBut W W1 v) (hg : W1.grownBy W2 (some g)) (hv : v.ownBlock = some g) : StayBut W W2 v := ⟨Nat.le_trans h.1 hg.size, fun k hk hk2 => (hg.block k (Nat.lt_of_lt_of_le hk h.1) (by rw [← hv]; exact hk2)).trans (h.2 k hk hk2)⟩
end Go.Proofs.Ytcgejabkjljeeaa.P
end

section
namespace Go.Proofs.Ytcgejabkjljeeaa.P
open Go.RowKit Go.Proofs.YtcgejabkjljeeaaW.PrintWords Go.Proofs.YtcgejabkjljeeaaW.PrintLast Go.Proofs.YtcgejabkjljeeaaW.PrintMore
attribute [local go_sem] str_gtr str_leq str_geq qb1 qz max_two min_two qw qv qa1 qy
set_option linter.unusedVariables false
set_option linter.unusedSimpArgs false
theorem R_clear_tail {α : Type} (d : Kd α) {P : Program} {e : Nat} {W : World} {base : Nat} {ok : Nat → Prop} {g n cap : Nat} {xs : List α} (HO : d.R e W base ok (.slice (some ⟨g, 0, none⟩) n cap) xs) (q : Nat) (hq : n + (q + 1) ≤ cap) (t : TypeId) (z : Value)
  (ht : P.underlying t = some (.slice e)) (hv : ∀ w, (zeroValue e).run P w = .ok z w) (hz : z.cells.size = d.sz) (h0 : 0 < d.sz) (h1 : ∀ v ∈ z.cells, v.oneCell' = true) (c' : Nat) :
  ∃ W', (∀ ty, (Builtin.clear_ #[t] ty #[.slice (some ⟨g, n * d.sz, none⟩) (q + 1) c']).run P W = .ok (.tuple #[]) W') ∧ d.R e W' base ok (.slice (some ⟨g, 0, none⟩) n cap) xs ∧ W.grownBy W' (some g) := by
 have hn : n = xs.length := (Kd.R_reads' HO).1
 subst hn
 obtain ⟨h2, inner, ho, hr⟩ := HO
 rcases ho.2 with ⟨hv0, _⟩ | ⟨g', cap', cur, hv0, hb, hh, hnc, hcm, hcs, htk⟩
 ·cases hv0
 injection hv0 with ea _ ec
 injection ea with ea
 injection ea with eg
 subst eg; subst ec
 have hlen : (Builtin.zeroCells z.cells (q + 1)).toList.length = (q + 1) * d.sz := by rw [zeroCells_length, hz]
 have hfit : xs.length * d.sz + (q + 1) * d.sz ≤ cur.size := by
  rw [← Nat.add_mul, hcs]
  exact Nat.mul_le_mul_right _ (by omega)
 generalize (q + 1) * d.sz = S at hlen hfit
 have hst := run_storeCells_cells (P := P) g (xs.length * d.sz) (Builtin.zeroCells z.cells (q + 1)).toList 0 W (fun j hj => by rw [cell_of_row W g _ cur e (0, 0) hh]; rw [hlen] at hj; simp; omega) (fun j _ => qd hh _) (zeroCells_one _ _ (by omega) h1)
 simp only [Nat.add_zero] at hst
 refine ⟨W.setCells g (xs.length * d.sz) (Builtin.zeroCells z.cells (q + 1)).toList, fun ty => ?_, ?_, ?_⟩
 ·simp [Builtin.clear_, run_underlying ht, hv, hst]
 ·refine ⟨h2, inner, ?_, hr.imp_ (fun _ _ hp => d.M_move (fun k hk => setCells_far _ _ k (fun he => hk.2 (by rw [he]; simp [Value.ownBlock]))) hp)⟩
  obtain ⟨cur', h3, h4, h5⟩ := setCells_row (Builtin.zeroCells z.cells (q + 1)).toList (xs.length * d.sz) W cur hh (by rw [hlen]; exact hfit)
  refine ⟨ho.1, .inr ⟨g, cap, cur', rfl, hb, h3, hnc, hcm, by rw [h4, hcs], ?_⟩⟩
  rw [h5, ← htk, List.append_assoc, List.take_append_of_le_length (by rw [List.length_take, Array.length_toList (xs := cur)]; omega), List.take_take, Nat.min_self]
 ·obtain ⟨s1, s2, s3, s4⟩ := setCells_same g (Builtin.zeroCells z.cells (q + 1)).toList (xs.length * d.sz) W
  exact ⟨s1, s2, s3, by rw [s4]; exact Nat.le_refl _, fun k _ hk => setCells_far _ _ k (fun he => hk (by rw [he]))⟩
section
attribute [-go_sem] Go.Builtin.append_
set_option maxHeartbeats 4000000 in
set_option maxRecDepth 100000 in
theorem delete_Meta (i g n c base : Nat) (xs : List S66) (w0 W : World) (hB : Below base w0 W) (hbase : base ≤ W.heap.size) (hr : Kd.R k66 66 W base (fun _ => True) (.slice (some ⟨g, 0, none⟩) (n + 1) c) xs) (hi : i < n + 1) :
  Calls Try.prog 94 #[.slice (some ⟨g, 0, none⟩) (n + 1) c, .int .i64 i, .int .i64 ((i + 1 : Nat) : Int)] W fun e w' => e = .returned (.slice (some ⟨g, 0, none⟩) n c) ∧ Kd.R k66 66 w' base (fun _ => True) (.slice (some ⟨g, 0, none⟩) n c) (xs.eraseIdx i) ∧ Below base w0 w' := by
 obtain ⟨hn, hnc, hC⟩ := Kd.R_reads' hr
 have hmax : c ≤ 9223372036854775807 := by
  obtain ⟨inner, ho⟩ := Kd.R_own hr
  rcases ho.2 with ⟨hv0, _⟩ | ⟨g', cap', cur, hv0, hb, hh, h1, h2, _⟩
  ·cases hv0
  ·injection hv0 with _ _ ec
   rw [ec]; exact h2
 clear hC hn
 obtain ⟨i0, hi0, hsz⟩ := Option.map_eq_some_iff.1 (show (Try.prog.info? 66).map (·.size) = some (k66).sz from by kernel_rfl)
 obtain ⟨W1, hap, hR1, hg1⟩ := Kd.R_delete_run (P := Try.prog) k66 base 30 30 66 i0 Try.underlying30 hi0 hsz (Kd.R_drew hr) hi rfl (c - (i + 1))
 obtain ⟨W2, hcl, hR2, hg2⟩ := R_clear_tail (P := Try.prog) k66 hR1 0 (by omega) 30 (.agg #[.int .i64 0, .int .i64 0, .string ⟨#[]⟩, .string ⟨#[]⟩, .int .i64 0]) Try.underlying30 (fun w => by kernel_rfl) rfl (by decide) (by intro q hq; simp [Value.cells] at hq; rcases hq with rfl | rfl | rfl | rfl | rfl <;> rfl) (c - n)
 have hcl0 := hcl 0
 clear hcl
 have hbs : ∀ q, (some g : Option Nat) = some q → base ≤ q := fun q hq => by injection hq with hq; subst hq; exact Kd.R_base hr _ (by simp [Value.ownBlock])
 have HB2 := Qz.mk ((below_drew hB).grown hg1 hbase hbs |>.grown hg2 (Nat.le_trans hbase hg1.size) hbs)
 have HR2 := Qz.mk hR2
 have hz : ((i : Int) == ((i + 1 : Nat) : Int)) = false := beq_eq_false_iff_ne.2 (by omega)
 clear hR1 hR2 hB hg1 hg2 hr hbs
 have hsl : (k66).sz = 5 := rfl
 rw [hsl] at hap hcl0
 rw [Nat.add_sub_cancel, Nat.zero_add] at hcl0
 rw [Nat.add_sub_cancel] at hap HR2
 by_cases hc : c = i + 1
 ·rw [if_pos hc] at hap
  obtain rfl : n = i := by omega
  subst hc
  simp only [Nat.sub_self] at hap
  rw [show n + 1 - n = 1 from by omega] at hcl0
  go_enter Try.func94, Try.ntmps94
  go_wp2
  go_region
  all_goals go_wp2
  all_goals go_ret
  all_goals exact ⟨rfl, HR2.out, HB2.out⟩
 ·rw [if_neg hc, Option.map_some, add_at, Nat.zero_add, show n + 1 - (i + 1) = n - i from by omega] at hap
  go_enter Try.func94, Try.ntmps94
  go_wp2
  go_region
  all_goals go_wp2
  all_goals go_ret
  all_goals exact ⟨rfl, HR2.out, HB2.out⟩
end
end Go.Proofs.Ytcgejabkjljeeaa.P
end

section
namespace Go.Proofs.Ytcgejabkjljeeaa.P
open Go.RowKit Go.Proofs.YtcgejabkjljeeaaW.PrintWords Go.Proofs.YtcgejabkjljeeaaW.PrintLast Go.Proofs.YtcgejabkjljeeaaW.PrintMore
attribute [local go_sem] str_gtr str_leq str_geq qb1 qz max_two min_two qw qv qa1 qy
set_option linter.unusedVariables false
set_option linter.unusedSimpArgs false
theorem cmpB_metas : CmpB Try.prog 67 #[] encL (cfL mcmp) := by
 intro W x y
 obtain ⟨k, hk⟩ := Ev.rounds (cmpMetas_ev x.1 y.1)
 exact impl_cmpMetas.calls k x.1.f0 x.1.f1 x.1.f2 x.1.f3 x.1.f4 y.1.f0 y.1.f1 y.1.f2 y.1.f3 y.1.f4 _ W hk
def numP (n : Int) (x : S66) : Bool := x.f0 == n
def cutAll : List S66 → List Int → Option (List S66)
 | l, [] => some l
 | l, n :: ns => if idxf (numP n) l 0 < 0 then none else cutAll (l.eraseIdx (idxf (numP n) l 0).toNat) ns
def edV (l : List S66) (n s g : Int) (adds : List S66) (cuts : List Int) (n' s' g' : Int) : List S66 × Int × Int × Int × Bool :=
 if n' < n ∨ s' < s ∨ g' < g ∨ 30 < adds.length then ([], 0, 0, 0, false) else
 match cutAll l cuts with
 | none => ([], 0, 0, 0, false)
 | some m => if vOk (srt mcmp (m ++ adds)) n' s' g' then (srt mcmp (m ++ adds), n', s', g', true) else ([], 0, 0, 0, false)
def impl_Version_edited.f (l0_0 : List S66) (a0_1 a0_2 a0_3 : Int) (l1_0 : List S66) (l1_1 : List Int) (a1_2 a1_3 a1_4 : Int) : Option (List S66 × Int × Int × Int × Bool) :=
 if l0_0.length ≤ 1000000 then some (edV l0_0 a0_1 a0_2 a0_3 l1_0 l1_1 a1_2 a1_3 a1_4) else none
set_option maxHeartbeats 4000000 in
theorem numP_calls (n : Int) (b : Nat) (x : S66) (W : World) (hc : W.cell? ⟨b, 0, none⟩ = some (.int .i64 n)) (hb : b < W.heap.size) :
  Calls Try.prog 93 #[.agg #[.int .i64 x.f0, .int .i64 x.f1, .string x.f2, .string x.f3, .int .i64 x.f4], .pointer (some ⟨b, 0, none⟩)] W fun e w' => e = .returned (.bool (numP n x)) ∧ Below W.heap.size W w' := by
 have hca : ∀ o, (W.alloc o).cell? ⟨b, 0, none⟩ = some (.int .i64 n) := fun o => (((Below.refl _ W).alloc (Nat.le_refl _) o).cell (p := ⟨b, 0, none⟩) hb).trans hc
 have hne : b ≠ W.heap.size := by omega
 unfold numP
 go_enter Try.func93, Try.ntmps93
 go_wp2
 go_ret
 exact ⟨rfl, (Below.refl _ W).alloc (Nat.le_refl _) _⟩
theorem put4 {w : World} {g t : Nat} {x0 x1 x2 x3 a b c d : Value} (h : w.heap[g]? = some (.cells #[x0, x1, x2, x3] t (0, 0))) : ((((w.setCell ⟨g, 0, none⟩ a).setCell ⟨g, 1, none⟩ b).setCell ⟨g, 2, none⟩ c).setCell ⟨g, 3, none⟩ d).heap[g]? = some (.cells #[a, b, c, d] t (0, 0)) :=
 blk_put (blk_put (blk_put (blk_put h 0 a rfl) 1 b rfl) 2 c rfl) 3 d rfl
theorem below4 {w W : World} {g : Nat} {a b c d : Value} (h : Below w.heap.size w W) (hg : w.heap.size ≤ g) : Below w.heap.size w ((((W.setCell ⟨g, 0, none⟩ a).setCell ⟨g, 1, none⟩ b).setCell ⟨g, 2, none⟩ c).setCell ⟨g, 3, none⟩ d) :=
 qc (qc (qc (qc h hg) hg) hg) hg
theorem R_put4 {α : Type} {d : Kd α} {e base g : Nat} {W : World} {v : Value} {xs : List α} {a b c f : Value} (h : d.R e W base (fun _ => True) v xs) (hg : g < base) : d.R e ((((W.setCell ⟨g, 0, none⟩ a).setCell ⟨g, 1, none⟩ b).setCell ⟨g, 2, none⟩ c).setCell ⟨g, 3, none⟩ f) base (fun _ => True) v xs := by
 have h1 := Kd.R_mono (ok' := fun k => base ≤ k) (Kd.R_bound h) (fun k hk => hk.2.1)
 have far : ∀ {w : World} (p : Addr) (u : Value), p.block = g → d.R e w base (fun k => base ≤ k) v xs → d.R e (w.setCell p u) base (fun k => base ≤ k) v xs := fun p u hp hh => Kd.R_far hh (p := p) (fun k hk => by have : base ≤ k := hk; omega) u
 exact Kd.R_mono (far _ _ rfl (far _ _ rfl (far _ _ rfl (far _ _ rfl h1)))) (fun _ _ => trivial)
theorem three (w : World) (X Y Z : Obj) : Below w.heap.size w (((w.alloc X).alloc Y).alloc Z) ∧ (((w.alloc X).alloc Y).alloc Z).heap[w.heap.size + 1]? = some Y ∧ (((w.alloc X).alloc Y).alloc Z).heap[w.heap.size + 1 + 1]? = some Z ∧ (((w.alloc X).alloc Y).alloc Z).heap.size = w.heap.size + 3 := by
 have e1 : (w.alloc X).heap.size = w.heap.size + 1 := by simp
 have e2 : ((w.alloc X).alloc Y).heap.size = w.heap.size + 1 + 1 := by simp
 refine ⟨(((Below.refl _ w).alloc (Nat.le_refl _) _).alloc (by omega) _).alloc (by omega) _, ?_, ?_, by simp⟩
 ·rw [← e1]; exact qe (blk_new _ _) _
 ·rw [← e2]; exact blk_new _ _
set_option maxHeartbeats 4000000 in
set_option maxRecDepth 100000 in
theorem impl_Version_edited.calls (A0_0 : Option Addr) (c0_0 : Nat) (l0_0 : List S66) (a0_1 a0_2 a0_3 : Int) (A1_0 : Option Addr) (c1_0 : Nat) (l1_0 : List S66) (A1_1 : Option Addr) (c1_1 : Nat) (l1_1 : List Int) (a1_2 a1_3 a1_4 : Int) (r1 : List S66) (r2 r3 r4 : Int) (r5 : Bool) (w : World)
  (hr0_0 : Kd.C k66 w A0_0 l0_0.length l0_0) (hc0_0 : l0_0.length ≤ c0_0) (hr1_0 : Kd.C k66 w A1_0 l1_0.length l1_0) (hc1_0 : l1_0.length ≤ c1_0) (hr1_1 : Kd.C (Kd.int .i64) w A1_1 l1_1.length l1_1) (hc1_1 : l1_1.length ≤ c1_1)
  (h : impl_Version_edited.f l0_0 a0_1 a0_2 a0_3 l1_0 l1_1 a1_2 a1_3 a1_4 = some (r1, r2, r3, r4, r5)) :
  Calls Try.prog 59 #[.agg #[.slice A0_0 l0_0.length c0_0, .int .i64 a0_1, .int .i64 a0_2, .int .i64 a0_3], .agg #[.slice A1_0 l1_0.length c1_0, .slice A1_1 l1_1.length c1_1, .int .i64 a1_2, .int .i64 a1_3, .int .i64 a1_4]] w fun e w' => ∃ v0_ : Value, e = .returned (.tuple #[.agg #[v0_, .int .i64 r2, .int .i64 r3, .int .i64 r4], .bool r5]) ∧ Kd.R k66 66 w' w.heap.size (fun _ => True) v0_ r1 ∧ Below w.heap.size w w' := by
 have hu32 := Try.underlying32
 have hu37 := Try.underlying37
 have H00 := Qz.mk hr0_0
 have H10 := Qz.mk hr1_0
 have H11 := Qz.mk hr1_1
 clear hr0_0 hr1_0 hr1_1
 have hf : ∀ W' : World, W'.heap[w.heap.size + 1 + 1]? = some (.cells #[.slice none 0 0, .int .i64 0, .int .i64 0, .int .i64 0] 32 (0, 0)) → Below w.heap.size w W' → ∀ tmps : Array Value, tmps.getD 4 undef = .pointer (some ⟨w.heap.size + 1 + 1, 0, none⟩) → tmps.getD 5 undef = .bool false → (r1, r2, r3, r4, r5) = (([] : List S66), (0 : Int), (0 : Int), (0 : Int), false) →
   bodyPost Try.prog Try.f59 (fun e w' => ∃ v0_ : Value, e = .returned (.tuple #[.agg #[v0_, .int .i64 r2, .int .i64 r3, .int .i64 r4], .bool r5]) ∧ Kd.R k66 66 w' w.heap.size (fun _ => True) v0_ r1 ∧ Below w.heap.size w w') Exit.ret ⟨tmps, []⟩ W' := by
  intro W' hb hB tmps h4 h5 hr
  simp only [Prod.mk.injEq] at hr
  obtain ⟨rfl, rfl, rfl, rfl, rfl⟩ := hr
  refine bodyPost_ret (results_ct rfl _ _ (w.heap.size + 1 + 1) 32 _ (0, 0) _ h4 hb Try.underlying32 rfl (by kernel_rfl)) rfl ?_
  rw [h5]
  exact ⟨_, rfl, Kd.R_nil _ _ _ _ _, hB⟩
 have HF := Qz.mk hf
 clear hf
 unfold impl_Version_edited.f at h
 split at h
 case isFalse => cases h
 rename_i hl
 replace h := Option.some.inj h
 unfold edV at h
 by_cases z1 : a1_2 < a0_1
 ·have z1b : decide (a1_2 < a0_1) = true := decide_eq_true z1
  rw [if_pos (.inl z1)] at h
  have HH := Qz.mk h
  clear h z1
  go_enter Try.func59, Try.ntmps59
  go_wp2
  exact HF.out _ (three w _ _ _).2.2.1 (three w _ _ _).1 _ rfl rfl HH.out.symm
 have z1b : decide (a1_2 < a0_1) = false := decide_eq_false z1
 by_cases z2 : a1_3 < a0_2
 ·have z2b : decide (a1_3 < a0_2) = true := decide_eq_true z2
  rw [if_pos (.inr (.inl z2))] at h
  have HH := Qz.mk h
  clear h z1 z2
  go_enter Try.func59, Try.ntmps59
  go_wp2
  exact HF.out _ (three w _ _ _).2.2.1 (three w _ _ _).1 _ rfl rfl HH.out.symm
 have z2b : decide (a1_3 < a0_2) = false := decide_eq_false z2
 by_cases z3 : a1_4 < a0_3
 ·have z3b : decide (a1_4 < a0_3) = true := decide_eq_true z3
  rw [if_pos (.inr (.inr (.inl z3)))] at h
  have HH := Qz.mk h
  clear h z1 z2 z3
  go_enter Try.func59, Try.ntmps59
  go_wp2
  exact HF.out _ (three w _ _ _).2.2.1 (three w _ _ _).1 _ rfl rfl HH.out.symm
 have z3b : decide (a1_4 < a0_3) = false := decide_eq_false z3
 by_cases z4 : 30 < l1_0.length
 ·have z4b : decide ((30 : Int) < (l1_0.length : Int)) = true := decide_eq_true (by omega)
  rw [if_pos (.inr (.inr (.inr z4)))] at h
  have HH := Qz.mk h
  clear h z1 z2 z3
  go_enter Try.func59, Try.ntmps59
  go_wp2
  exact HF.out _ (three w _ _ _).2.2.1 (three w _ _ _).1 _ rfl rfl HH.out.symm
 have z4b : decide ((30 : Int) < (l1_0.length : Int)) = false := decide_eq_false (by omega)
 rw [if_neg (by rintro (h | h | h | h) <;> contradiction)] at h
 have HH := Qz.mk h
 clear h z1 z2 z3
 go_enter Try.func59, Try.ntmps59
 go_wp2_with fail
 have h3 := three w (.cells #[.slice A0_0 l0_0.length c0_0, .int .i64 a0_1, .int .i64 a0_2, .int .i64 a0_3] 32) (.cells #[.slice A1_0 l1_0.length c1_0, .slice A1_1 l1_1.length c1_1, .int .i64 a1_2, .int .i64 a1_3, .int .i64 a1_4] 37) (.cells #[.slice none 0 0, .int .i64 0, .int .i64 0, .int .i64 0] 32)
 generalize ((w.alloc (.cells #[.slice A0_0 l0_0.length c0_0, .int .i64 a0_1, .int .i64 a0_2, .int .i64 a0_3] 32)).alloc (.cells #[.slice A1_0 l1_0.length c1_0, .slice A1_1 l1_1.length c1_1, .int .i64 a1_2, .int .i64 a1_3, .int .i64 a1_4] 37)).alloc (.cells #[.slice none 0 0, .int .i64 0, .int .i64 0, .int .i64 0] 32) = W0 at h3 ⊢
 have HBK := Qz.mk h3.1
 have BKe := Qz.mk h3.2.1
 have BKr := Qz.mk h3.2.2.1
 have HSZ := Qz.mk h3.2.2.2
 clear h3
 (with_reducible refine (clone_Meta A0_0 c0_0 l0_0 W0 W0 (Below.refl _ W0) (Kd.C_below H00.out HBK.out) (by omega)).mono ?_)
 rintro e w1 ⟨v, rfl, hR, hB⟩
 have HR := Qz.mk hR
 have HB := Qz.mk hB
 have BKe1 := Qz.mk (qp BKe.out hB)
 have BKr1 := Qz.mk (qp BKr.out hB)
 have HS1 := Qz.mk hB.size
 have hx1 := (qa BKe1.out 1).trans rfl
 clear hR hB
 go_wp2
 go_loopg [6, 43] l1_1.length (fun gk s6 s43 wr => ∃ (i : Nat) (m : List S66) (vf : Value), s6 = vf ∧ s43 = .int .i64 i ∧ i ≤ l1_1.length ∧ l1_1.length - i ≤ gk ∧ Qz (cutAll l0_0 l1_1 = cutAll m (l1_1.drop i)) ∧ m.length ≤ l0_0.length ∧ Qz (Kd.R k66 66 wr W0.heap.size (fun _ => True) vf m) ∧ Qz (Below W0.heap.size W0 wr))
 case atStart => exact ⟨0, l0_0, v, rfl, rfl, by omega, by omega, ⟨rfl⟩, Nat.le_refl _, HR, HB⟩
 case round =>
  obtain ⟨i, m, vf, rfl, rfl, hi, hg, HC, hml, HR, HB⟩ := hrel
  have HBW := Qz.mk (HBK.out.trans (HB.out.mono (by have := HSZ.out; omega)))
  obtain ⟨Af, cf, ef⟩ := Kd.R_slice HR.out
  subst ef
  by_cases hlt : i < l1_1.length
  ·have hd : decide ((i : Int) < (l1_1.length : Int)) = true := decide_eq_true (by omega)
   have HLT := Qz.mk hlt
   obtain ⟨ad, cc, ead, _, hK, hc0⟩ := Kd.C_get H11.out (0 : Int) (i : Int) (by omega) (by omega)
   obtain rfl : cc = [.int .i64 (l1_1.getD (i : Int).toNat 0)] := hK
   have hxi := hc0 0 _ rfl
   rw [show (Kd.int .i64).sz = 1 from rfl, Nat.mul_one, Nat.add_zero, Int.toNat_natCast] at hxi
   replace hxi := (HBW.out.cell (World.block_lt_of_cell? w _ hxi)).trans hxi
   have HN : Qz (l1_1.drop i = l1_1.getD i 0 :: l1_1.drop (i + 1)) := ⟨by rw [List.drop_eq_getElem_cons hlt, List.getD_eq_getElem?_getD, List.getElem?_eq_getElem hlt]; rfl⟩
   clear hc0
   generalize l1_1.getD i 0 = n at hxi HN
   cases ead
   have hb0 : Below wr.heap.size wr (wr.alloc (.cells #[.int .i64 n] 2)) := (Below.refl _ wr).alloc (Nat.le_refl _) _
   have hcall := indexFunc_Meta.calls 93 #[.pointer (some ⟨wr.heap.size, 0, none⟩)] (numP n) Af cf m (wr.alloc (.cells #[.int .i64 n] 2)) (Kd.C_below (Kd.R_reads' HR.out).2.2 hb0) (fun args w => by kernel_rfl)
    (fun x W hb => (numP_calls n wr.heap.size x W ((hb.cell (p := ⟨wr.heap.size, 0, none⟩) (by simp)).trans (by simp)) (Nat.lt_of_lt_of_le (by simp) hb.size)).mono (fun e w' h => ⟨h.1, hb.trans (h.2.mono hb.size)⟩))
   have HCALL := Qz.mk hcall
   have HB0 := Qz.mk hb0
   clear hcall hb0
   rcases idxf_neg (numP n) m 0 with hq | ⟨k, hk, hq, _⟩
   ·have hcall := HCALL.out
    rw [hq] at hcall
    have hdq : decide ((-1 : Int) < 0) = true := rfl
    go_wp2_with fail
    (with_reducible refine hcall.mono ?_)
    rintro e w3 ⟨rfl, hb3⟩
    have hb3' : Below wr.heap.size wr w3 := HB0.out.trans (hb3.mono (by simp))
    have HB3 := Qz.mk (HBW.out.trans (hb3'.mono HBW.out.size))
    have BKr3 := Qz.mk (qp (qp BKr.out HB.out) hb3')
    clear hcall hb3 hb3' hxi
    have hq0 := (qa BKr3.out 0).trans rfl
    have hq1 := (qa BKr3.out 1).trans rfl
    have hq2 := (qa BKr3.out 2).trans rfl
    have hq3 := (qa BKr3.out 3).trans rfl
    have hf0 := qd BKr3.out 0
    have hf1 := qd BKr3.out 1
    have hf2 := qd BKr3.out 2
    have hf3 := qd BKr3.out 3
    go_wp2
    refine HF.out _ (put4 BKr3.out) (below4 HB3.out (by omega)) _ rfl rfl ?_
    have hh := HH.out
    rw [HC.out, HN.out, cutAll, if_pos (by rw [hq]; decide)] at hh
    exact hh.symm
   ·obtain ⟨gg, cap, ef, _⟩ := Kd.R_form HR.out (by omega)
    injection ef with e1_ _ e3_
    subst e1_ e3_
    have hcall := HCALL.out
    rw [hq, Nat.zero_add] at hcall
    have hdq : decide ((k : Int) < 0) = false := decide_eq_false (by omega)
    go_wp2_with fail
    (with_reducible refine hcall.mono ?_)
    rintro e w3 ⟨rfl, hb3⟩
    have hb3' : Below wr.heap.size wr w3 := HB0.out.trans (hb3.mono (by simp))
    have HR3 := Qz.mk (Kd.R_below HR.out hb3')
    have HB3 := Qz.mk (HB.out.trans (hb3'.mono HB.out.size))
    clear hcall hb3 hb3' hxi
    go_wp2_with fail
    obtain ⟨n', hn'⟩ : ∃ n', m.length = n' + 1 := ⟨m.length - 1, by omega⟩
    rw [hn', show ((k : Int) + 1) = ((k + 1 : Nat) : Int) from by omega]
    (with_reducible refine (delete_Meta k gg n' cf W0.heap.size m W0 w3 HB3.out HB3.out.size (by rw [← hn']; exact HR3.out) (by omega)).mono ?_)
    rintro e w4 ⟨rfl, hR4, hB4⟩
    have HR4 := Qz.mk hR4
    have HB4 := Qz.mk hB4
    clear hR4 hB4 HR3 HB3 HR HB
    go_wp2
    go_roundg (l1_1.length - (i + 1))
    case measure => have := HLT.out; omega
    case rel =>
     have hlt2 := HLT.out
     have hlm := Kd.C_max H11.out
     refine ⟨i + 1, m.eraseIdx k, _, rfl, congrArg (Value.int .i64) (by unfold wrap64; omega), HLT.out, Nat.le_refl _, ⟨?_⟩, by rw [List.length_eraseIdx_of_lt hk]; omega, HR4, HB4⟩
     rw [HC.out, HN.out, cutAll, if_neg (by rw [hq]; omega), hq, Nat.zero_add, Int.toNat_natCast]
  ·have hd : decide ((i : Int) < (l1_1.length : Int)) = false := decide_eq_false (by omega)
   obtain rfl : i = l1_1.length := by omega
   have BKe2 := Qz.mk (qp BKe.out HB.out)
   have hx0 := (qa BKe2.out 0).trans rfl
   go_wp2_with (first | ((with_reducible refine gate_builtin (b := .append) (xs := #[.tmp 59, .tmp 61]) rfl ?_); at_builtin; refine Kd.R_append_rows k66 (w0 := W0) W0.heap.size rfl (.tmp 59) (.tmp 61) 30 66 (.agg #[.int .i64 0, .int .i64 0, .string ⟨#[]⟩, .string ⟨#[]⟩, .int .i64 0]) 56 rfl Try.underlying30 info66 rfl (by decide) (by omega) (.slice Af m.length cf) m l1_0 A1_0 l1_0.length c1_0 (fun _ => True) (fun _ => False) rfl rfl ?aO ?aR (fun _ _ h => h) (fun _ h => h.elim) ?aF ?aB ?aS ?aL ?_; (case aO => exact HR.out); (case aR => exact Kd.C_below H10.out HBW.out); (case aF => exact fun _ _ => trivial); (case aB => exact HB.out); (case aS => exact HB.out.size); (case aL => omega); intro v1 w2 ho hb hg hat; clear hx0))
   (with_reducible refine (sort_own 67 mcmp (fun args w => by kernel_rfl) cmpB_metas W0.heap.size v1 (m ++ l1_0) W0 w2 ho hb (by rw [List.length_append]; omega)).mono ?_)
   rintro e w3 ⟨rfl, hR3, hB3⟩
   obtain ⟨A3, c3, e3⟩ := Kd.R_slice hR3
   subst e3
   have HR3 := Qz.mk hR3
   have HB3 := Qz.mk hB3
   clear ho hb hg hat hR3 hB3 HR HB BKe2
   have BKe3 := Qz.mk (qp BKe.out HB3.out)
   have BKr3 := Qz.mk (qp BKr.out HB3.out)
   have hx2 := (qa BKe3.out 2).trans rfl
   have hx3 := (qa BKe3.out 3).trans rfl
   have hx4 := (qa BKe3.out 4).trans rfl
   go_wp2_with fail
   have hba : Below w3.heap.size w3 (w3.alloc (.cells #[.slice A3 (srt mcmp (m ++ l1_0)).length c3, .int .i64 a1_2, .int .i64 a1_3, .int .i64 a1_4] 32)) := (Below.refl _ w3).alloc (Nat.le_refl _) _
   have BKo := Qz.mk (blk_new w3 (.cells #[.slice A3 (srt mcmp (m ++ l1_0)).length c3, .int .i64 a1_2, .int .i64 a1_3, .int .i64 a1_4] 32))
   have HBA := Qz.mk hba
   clear hba
   generalize hw4 : w3.alloc (.cells #[.slice A3 (srt mcmp (m ++ l1_0)).length c3, .int .i64 a1_2, .int .i64 a1_3, .int .i64 a1_4] 32) = w4 at HBA BKo ⊢
   clear hw4
   have hh := HH.out
   rw [HC.out, List.drop_length, cutAll] at hh
   simp only [] at hh
   by_cases ok : vOk (srt mcmp (m ++ l1_0)) a1_2 a1_3 a1_4
   ·rw [if_pos ok] at hh
    have HH2 := Qz.mk hh
    clear hh
    (with_reducible refine (impl_VersionOk.calls A3 c3 (srt mcmp (m ++ l1_0)) a1_2 a1_3 a1_4 true w4 (Kd.C_below (Kd.R_reads' HR3.out).2.2 HBA.out) (Kd.R_reads' HR3.out).2.1 (by unfold impl_VersionOk.f; rw [decide_eq_true ok])).mono ?_)
    rintro e w5 ⟨rfl, hb5⟩
    have hb5 : Below w4.heap.size w4 w5 := by first | exact hb5 | exact hb5.below
    have BKo5 := Qz.mk (qp BKo.out hb5)
    have BKr5 := Qz.mk (qp (qp BKr3.out HBA.out) hb5)
    have HR5 := Qz.mk (Kd.R_below (Kd.R_below HR3.out HBA.out) hb5)
    have HB5 := Qz.mk (HBK.out.trans ((HB3.out.trans ((HBA.out.trans (hb5.mono HBA.out.size)).mono HB3.out.size)).mono HBK.out.size))
    clear hb5
    have hy0 := (qa BKo5.out 0).trans rfl
    have hy1 := (qa BKo5.out 1).trans rfl
    have hy2 := (qa BKo5.out 2).trans rfl
    have hy3 := (qa BKo5.out 3).trans rfl
    have hq0 := (qa BKr5.out 0).trans rfl
    have hq1 := (qa BKr5.out 1).trans rfl
    have hq2 := (qa BKr5.out 2).trans rfl
    have hq3 := (qa BKr5.out 3).trans rfl
    have hf0 := qd BKr5.out 0
    have hf1 := qd BKr5.out 1
    have hf2 := qd BKr5.out 2
    have hf3 := qd BKr5.out 3
    go_wp2
    have hsz := HSZ.out
    have hr := HH2.out
    simp only [Prod.mk.injEq] at hr
    obtain ⟨rfl, rfl, rfl, rfl, rfl⟩ := hr
    refine bodyPost_ret (results_ct rfl _ _ (w.heap.size + 1 + 1) 32 _ (0, 0) _ rfl (put4 BKr5.out) Try.underlying32 rfl (by kernel_rfl)) rfl ?_
    exact ⟨_, rfl, Kd.R_lower (R_put4 HR5.out (by omega)) HBK.out.size, below4 HB5.out (by omega)⟩
   ·rw [if_neg ok] at hh
    have HH2 := Qz.mk hh
    clear hh
    (with_reducible refine (impl_VersionOk.calls A3 c3 (srt mcmp (m ++ l1_0)) a1_2 a1_3 a1_4 false w4 (Kd.C_below (Kd.R_reads' HR3.out).2.2 HBA.out) (Kd.R_reads' HR3.out).2.1 (by unfold impl_VersionOk.f; rw [decide_eq_false ok])).mono ?_)
    rintro e w5 ⟨rfl, hb5⟩
    have hb5 : Below w4.heap.size w4 w5 := by first | exact hb5 | exact hb5.below
    have BKr5 := Qz.mk (qp (qp BKr3.out HBA.out) hb5)
    have HB5 := Qz.mk (HBK.out.trans ((HB3.out.trans ((HBA.out.trans (hb5.mono HBA.out.size)).mono HB3.out.size)).mono HBK.out.size))
    clear hb5
    have hq0 := (qa BKr5.out 0).trans rfl
    have hq1 := (qa BKr5.out 1).trans rfl
    have hq2 := (qa BKr5.out 2).trans rfl
    have hq3 := (qa BKr5.out 3).trans rfl
    have hf0 := qd BKr5.out 0
    have hf1 := qd BKr5.out 1
    have hf2 := qd BKr5.out 2
    have hf3 := qd BKr5.out 3
    go_wp2
    exact HF.out _ (put4 BKr5.out) (below4 HB5.out (by omega)) _ rfl rfl HH2.out.symm
theorem yq27 {P : Prop} (h : P := by (with_reducible repeat (first | refine qf ?_ _ | refine qg ?_ | refine qe ?_ _)); exact BK101.out) : P := h
theorem yq28 {P : Prop} (h : P := by (with_reducible repeat (first | refine qf ?_ _ | refine qg ?_ | refine qe ?_ _)); exact BK102.out) : P := h
theorem yq29 {P : Prop} (h : P := by repeat (first | (with_reducible first | exact HB.out | apply qi | apply qb | apply qh | refine qc ?_ GE101.out | refine qc ?_ GE102.out | refine qc ?_ GE103.out) | exact HB.out)) : P := h
theorem yq30 {P : Prop} (h : P := by rw [hg]; exact Nat.ne_of_lt (qq (g := gb101) (o := .cells #[.slice A0_0 l0_0.length c0_0, .int .i64 a0_1, .int .i64 a0_2, .int .i64 a0_3] 32 (0, 0)) yq27)) : P := h
theorem yq31 {P : Prop} (h : P := by rw [hg]; exact Nat.ne_of_gt (qq (g := gb101) (o := .cells #[.slice A0_0 l0_0.length c0_0, .int .i64 a0_1, .int .i64 a0_2, .int .i64 a0_3] 32 (0, 0)) yq27)) : P := h
theorem yq32 {P : Prop} (h : P := by repeat (first | (with_reducible first | exact HB.out | apply qi | apply qb | apply qh | refine qc ?_ GE101.out | refine qc ?_ GE102.out) | exact HB.out)) : P := h
theorem yq33 {P : Prop} (h : P := by repeat (first | (with_reducible first | exact HB.out | apply qi | apply qb | apply qh | refine qc ?_ GE101.out) | exact HB.out)) : P := h
theorem yq34 {P : Prop} (h : P := by (try simp only [List.map_toArray, List.map_cons, List.map_nil]); first | done | rfl | (simp only [List.length_drop, List.length_take]; rfl) | (rw [IntWalk.u64_in _ (by omega)] <;> rfl)) : P := h
theorem yq35 {P : Prop} (h : P := by repeat (first | exact (Kd.C_below HR0_0.out HB.out) | (with_reducible refine Kd.C_alloc ?_ _) | (with_reducible refine Kd.C_drewN ?_ _) | (with_reducible refine Kd.C_drew ?_))) : P := h
theorem yq36 {P : Prop} (h : P := by repeat (first | (with_reducible first | exact HB.out | apply qi | apply qb | apply qh) | exact HB.out)) : P := h
theorem bkbf20 {w0 W W2 : World} {g : Nat} {o : Obj} (_ : Qz (w0.heap[g]? = some o)) (h : W.heap[g]? = some o) (hb : Below W.heap.size W W2) : Qz (W2.heap[g]? = some o) := Qz.mk (qp h hb)
def impl_Apply.f (l0_0 : List (S66)) (a0_1 : Int) (a0_2 : Int) (a0_3 : Int) (l1_0 : List (S66)) (l1_1 : List Int) (a1_2 : Int) (a1_3 : Int) (a1_4 : Int) : Option ((List (S66)) × Int × Int × Int × Bool) := (impl_VersionOk.f l0_0 a0_1 a0_2 a0_3).bind fun t104 => (if t104 = true then ((impl_Version_edited.f l0_0 a0_1 a0_2 a0_3 l1_0 l1_1 a1_2 a1_3 a1_4).bind fun bt105 => (some (bt105.1, bt105.2.1, bt105.2.2.1, bt105.2.2.2.1, bt105.2.2.2.2))) else (some (([] : List (S66)), 0, 0, 0, false)))
set_option maxHeartbeats 8000000 in
set_option maxRecDepth 100000 in
theorem impl_Apply.calls (A0_0 : Option Addr) (c0_0 : Nat) (l0_0 : List (S66)) (a0_1 : Int) (a0_2 : Int) (a0_3 : Int) (A1_0 : Option Addr) (c1_0 : Nat) (l1_0 : List (S66)) (A1_1 : Option Addr) (c1_1 : Nat) (l1_1 : List Int) (a1_2 : Int) (a1_3 : Int) (a1_4 : Int) (r1 : List (S66)) (r2 : Int) (r3 : Int) (r4 : Int) (r5 : Bool) (w : World) (hr0_0 : Kd.C k66 w A0_0 l0_0.length l0_0) (hc0_0 : l0_0.length ≤ c0_0) (hr1_0 : Kd.C k66 w A1_0 l1_0.length l1_0) (hc1_0 : l1_0.length ≤ c1_0) (hr1_1 : Kd.C (Kd.int .i64) w A1_1 l1_1.length l1_1) (hc1_1 : l1_1.length ≤ c1_1) (h : impl_Apply.f l0_0 a0_1 a0_2 a0_3 l1_0 l1_1 a1_2 a1_3 a1_4 = some (r1, r2, r3, r4, r5)) :
  Calls Try.prog 20 #[.agg #[.slice A0_0 l0_0.length c0_0, .int .i64 a0_1, .int .i64 a0_2, .int .i64 a0_3], .agg #[.slice A1_0 l1_0.length c1_0, .slice A1_1 l1_1.length c1_1, .int .i64 a1_2, .int .i64 a1_3, .int .i64 a1_4]] w fun e w' => ∃ v0_ : Value, e = .returned (.tuple #[.agg #[v0_, .int .i64 r2, .int .i64 r3, .int .i64 r4], .bool r5]) ∧ Kd.R k66 66 w' w.heap.size (fun _ => True) v0_ r1 ∧ Below w.heap.size w w' := by
 have hu32 := Try.underlying32
 have hu37 := Try.underlying37
 have HR0_0 := Qz.mk hr0_0
 have HC0_0 := Qz.mk hc0_0
 clear hr0_0 hc0_0
 have HR1_0 := Qz.mk hr1_0
 have HC1_0 := Qz.mk hc1_0
 clear hr1_0 hc1_0
 have HR1_1 := Qz.mk hr1_1
 have HC1_1 := Qz.mk hc1_1
 clear hr1_1 hc1_1
 have HB := Qz.mk (Below.refl w.heap.size w)
 have H : ((impl_VersionOk.f l0_0 a0_1 a0_2 a0_3).bind fun t104 => (if t104 = true then ((impl_Version_edited.f l0_0 a0_1 a0_2 a0_3 l1_0 l1_1 a1_2 a1_3 a1_4).bind fun bt105 => (some (bt105.1, bt105.2.1, bt105.2.2.1, bt105.2.2.2.1, bt105.2.2.2.2))) else (some (([] : List (S66)), 0, 0, 0, false)))) = some (r1, r2, r3, r4, r5) := h
 clear h
 replace H := Option.bind_eq_some_iff.mp H
 obtain ⟨t104, A30, H⟩ := H
 replace H : (if t104 = true then ((impl_Version_edited.f l0_0 a0_1 a0_2 a0_3 l1_0 l1_1 a1_2 a1_3 a1_4).bind fun bt105 => (some (bt105.1, bt105.2.1, bt105.2.2.1, bt105.2.2.2.1, bt105.2.2.2.2))) else (some (([] : List (S66)), 0, 0, 0, false))) = some (r1, r2, r3, r4, r5) := H
 have A3 := Qz.mk A30
 clear A30
 by_cases c4 : t104 = true
 ·subst c4
  have H1 : ((impl_Version_edited.f l0_0 a0_1 a0_2 a0_3 l1_0 l1_1 a1_2 a1_3 a1_4).bind fun bt105 => (some (bt105.1, bt105.2.1, bt105.2.2.1, bt105.2.2.2.1, bt105.2.2.2.2))) = some (r1, r2, r3, r4, r5) := by rw [if_pos rfl] at H; exact H
  clear H
  have H := H1
  clear H1
  replace H := Option.bind_eq_some_iff.mp H
  obtain ⟨⟨t105, t108, t109, t110, t111⟩, A50, H⟩ := H
  replace H : (some (t105, t108, t109, t110, t111)) = some (r1, r2, r3, r4, r5) := H
  have A5 := Qz.mk A50
  clear A50
  simp only [Option.some.injEq, Prod.mk.injEq] at H
  obtain ⟨rfl, rfl, rfl, rfl, rfl⟩ := H
  go_enter Try.func20, Try.ntmps20
  go_wp2_with (first | ((with_reducible refine qt (N := 2) rfl ?_); refine qr ?hg (N := 2) ?hd (cs := #[.slice A0_0 l0_0.length c0_0, .int .i64 a0_1, .int .i64 a0_2, .int .i64 a0_3]) (t := 32) ?hr ?_; (case hd => rfl); (case hg => rfl); (case hr => first | (go_simp; done) | (go_simp; rfl)); intro gb101 hg w6 hbox hb; have BK101 := Qz.mk (hbox); have GW101 := Qz.mk ((by rw [hg]; exact (ql yq36) : w.heap.size ≤ gb101)); have GE101 := GW101; replace HB := Qz.mk (qj yq36 hb); clear hb hbox hg) | ((with_reducible refine qt (N := 3) rfl ?_); refine qr ?hg (N := 3) ?hd (cs := #[.slice A1_0 l1_0.length c1_0, .slice A1_1 l1_1.length c1_1, .int .i64 a1_2, .int .i64 a1_3, .int .i64 a1_4]) (t := 37) ?hr ?_; (case hd => rfl); (case hg => rfl); (case hr => first | (go_simp; done) | (go_simp; rfl)); intro gb102 hg w7 hbox hb; have BK102 := Qz.mk (hbox); have GW102 := Qz.mk ((by rw [hg]; exact (ql yq33) : w.heap.size ≤ gb102)); have GE102 := GW102; replace HB := Qz.mk (qj yq33 hb); have NB101_102 := Qz.mk ((yq30 : gb101 ≠ gb102)); have NB102_101 := Qz.mk ((yq31 : gb102 ≠ gb101)); replace BK101 := bkbf20 BK101 yq27 hb; clear hb hbox hg) | ((with_reducible refine qt (N := 4) rfl ?_); refine qr ?hg (N := 4) ?hd (cs := #[.slice none 0 0, .int .i64 0, .int .i64 0, .int .i64 0]) (t := 32) ?hr ?_; (case hd => rfl); (case hg => rfl); (case hr => first | (go_simp; done) | (go_simp; rfl)); intro gb103 hg w8 hbox hb; have BK103 := Qz.mk (hbox); have GW103 := Qz.mk ((by rw [hg]; exact (ql yq32) : w.heap.size ≤ gb103)); have GE103 := GW103; replace HB := Qz.mk (qj yq32 hb); have NB101_103 := Qz.mk ((yq30 : gb101 ≠ gb103)); have NB103_101 := Qz.mk ((yq31 : gb103 ≠ gb101)); replace BK101 := bkbf20 BK101 yq27 hb; have NB102_103 := Qz.mk ((by rw [hg]; exact Nat.ne_of_lt (qq (g := gb102) (o := .cells #[.slice A1_0 l1_0.length c1_0, .slice A1_1 l1_1.length c1_1, .int .i64 a1_2, .int .i64 a1_3, .int .i64 a1_4] 37 (0, 0)) yq28) : gb102 ≠ gb103)); have NB103_102 := Qz.mk ((by rw [hg]; exact Nat.ne_of_gt (qq (g := gb102) (o := .cells #[.slice A1_0 l1_0.length c1_0, .slice A1_1 l1_1.length c1_1, .int .i64 a1_2, .int .i64 a1_3, .int .i64 a1_4] 37 (0, 0)) yq28) : gb103 ≠ gb102)); replace BK102 := bkbf20 BK102 yq28 hb; clear hb hbox hg; have hnb9 := NB101_102.out; have hnc9 := NB102_101.out; have hnb10 := NB101_103.out; have hnc10 := NB103_101.out; have hcz11_0 := (qa BK101.out 0).trans rfl; have hcz11_1 := (qa BK101.out 1).trans rfl; have hcz11_2 := (qa BK101.out 2).trans rfl; have hcz11_3 := (qa BK101.out 3).trans rfl; have hfz11_0 := qd BK101.out 0; have hfz11_1 := qd BK101.out 1; have hfz11_2 := qd BK101.out 2; have hfz11_3 := qd BK101.out 3) | ((with_reducible refine qo (f := 27) rfl ?_); refine goesL_ (some 7) rfl rfl Try.func27 (by kernel_rfl) rfl #[.agg #[.slice A0_0 l0_0.length c0_0, .int .i64 a0_1, .int .i64 a0_2, .int .i64 a0_3]] rfl yq34 ?_; (with_reducible refine (impl_VersionOk.calls _ _ l0_0 a0_1 a0_2 a0_3 true _ ?side1 ?side2 A3.out).mono ?_); (case side1 => exact yq35); (case side2 => exact HC0_0.out); rintro e w12 ⟨rfl, hb⟩; refine ⟨_, rfl, ?_⟩; replace BK101 := bkbf20 BK101 yq27 hb; replace BK102 := bkbf20 BK102 yq28 hb; replace BK103 := bkbf20 BK103 (by (with_reducible repeat (first | refine qf ?_ _ | refine qg ?_ | refine qe ?_ _)); exact BK103.out) hb; replace HB := Qz.mk (qj yq29 hb); (try clear hb); (try clear hk); have hcz13_0 := (qa BK101.out 0).trans rfl; have hcz13_1 := (qa BK101.out 1).trans rfl; have hcz13_2 := (qa BK101.out 2).trans rfl; have hcz13_3 := (qa BK101.out 3).trans rfl; have hfz13_0 := qd BK101.out 0; have hfz13_1 := qd BK101.out 1; have hfz13_2 := qd BK101.out 2; have hfz13_3 := qd BK101.out 3; have hnb14 := NB102_103.out; have hnc14 := NB103_102.out; have hcz15_0 := (qa BK102.out 0).trans rfl; have hcz15_1 := (qa BK102.out 1).trans rfl; have hcz15_2 := (qa BK102.out 2).trans rfl; have hcz15_3 := (qa BK102.out 3).trans rfl; have hcz15_4 := (qa BK102.out 4).trans rfl; have hfz15_0 := qd BK102.out 0; have hfz15_1 := qd BK102.out 1; have hfz15_2 := qd BK102.out 2; have hfz15_3 := qd BK102.out 3; have hfz15_4 := qd BK102.out 4) | ((with_reducible refine qo (f := 59) rfl ?_); refine goesL_ (some 12) rfl rfl Try.func59 (by kernel_rfl) rfl #[.agg #[.slice A0_0 l0_0.length c0_0, .int .i64 a0_1, .int .i64 a0_2, .int .i64 a0_3], .agg #[.slice A1_0 l1_0.length c1_0, .slice A1_1 l1_1.length c1_1, .int .i64 a1_2, .int .i64 a1_3, .int .i64 a1_4]] rfl yq34 ?_; (with_reducible refine (impl_Version_edited.calls _ _ l0_0 a0_1 a0_2 a0_3 _ _ l1_0 _ _ l1_1 a1_2 a1_3 a1_4 t105 t108 t109 t110 t111 _ ?side1 ?side2 ?side3 ?side4 ?side5 ?side6 A5.out).mono ?_); (case side1 => exact yq35); (case side2 => exact HC0_0.out); (case side3 => repeat (first | exact (Kd.C_below HR1_0.out HB.out) | (with_reducible refine Kd.C_alloc ?_ _) | (with_reducible refine Kd.C_drewN ?_ _) | (with_reducible refine Kd.C_drew ?_))); (case side4 => exact HC1_0.out); (case side5 => repeat (first | exact (Kd.C_below HR1_1.out HB.out) | (with_reducible refine Kd.C_alloc ?_ _) | (with_reducible refine Kd.C_drewN ?_ _) | (with_reducible refine Kd.C_drew ?_))); (case side6 => exact HC1_1.out); rintro e w16 ⟨v106, rfl, ho0, hb⟩; refine ⟨_, rfl, ?_⟩; have HO107 := Qz.mk (Kd.R_lower ho0 (ql yq29)); replace BK101 := bkbf20 BK101 yq27 hb; replace BK102 := bkbf20 BK102 yq28 hb; replace BK103 := bkbf20 BK103 (by (with_reducible repeat (first | refine qf ?_ _ | refine qg ?_ | refine qe ?_ _)); exact BK103.out) hb; replace HB := Qz.mk (qj yq29 hb); (try clear hb); (try clear hk); (try clear ho0); obtain ⟨Ao17, co17, eo17⟩ := Kd.R_slice HO107.out; subst eo17; have hcz18_0 := (qa BK103.out 0).trans rfl; have hcz18_1 := (qa BK103.out 1).trans rfl; have hcz18_2 := (qa BK103.out 2).trans rfl; have hcz18_3 := (qa BK103.out 3).trans rfl; have hfz18_0 := qd BK103.out 0; have hfz18_1 := qd BK103.out 1; have hfz18_2 := qd BK103.out 2; have hfz18_3 := qd BK103.out 3))
  refine bodyPost_ret (results_ct rfl _ _ gb103 32 #[.slice Ao17 t105.length co17, .int .i64 t108, .int .i64 t109, .int .i64 t110] (0, 0) _ rfl (by (with_reducible repeat (first | refine qf ?_ _ | refine qg ?_ | refine qe ?_ _)); refine blk_put (cs := #[.slice Ao17 t105.length co17, .int .i64 t108, .int .i64 t109, .int .i64 0]) ?_ 3 _ rfl; (with_reducible repeat (first | refine qf ?_ _ | refine qg ?_ | refine qe ?_ _)); refine blk_put (cs := #[.slice Ao17 t105.length co17, .int .i64 t108, .int .i64 0, .int .i64 0]) ?_ 2 _ rfl; (with_reducible repeat (first | refine qf ?_ _ | refine qg ?_ | refine qe ?_ _)); refine blk_put (cs := #[.slice Ao17 t105.length co17, .int .i64 0, .int .i64 0, .int .i64 0]) ?_ 1 _ rfl; (with_reducible repeat (first | refine qf ?_ _ | refine qg ?_ | refine qe ?_ _)); refine blk_put (cs := #[.slice none 0 0, .int .i64 0, .int .i64 0, .int .i64 0]) ?_ 0 _ rfl; (with_reducible repeat (first | refine qf ?_ _ | refine qg ?_ | refine qe ?_ _)); exact BK103.out) Try.underlying32 rfl (by kernel_rfl)) rfl ?_
  exact ⟨_, by first | rfl | (simp [qn, qm] <;> rfl) | (simp [*, qn, qm] <;> rfl), by (with_reducible repeat (first | apply Kd.R_alloc | apply Kd.R_drewN | apply Kd.R_drew)); exact Kd.R_mono (Kd.R_far (p := ⟨gb103, 3, none⟩) (Kd.R_far (p := ⟨gb103, 2, none⟩) (Kd.R_far (p := ⟨gb103, 1, none⟩) (Kd.R_far (p := ⟨gb103, 0, none⟩) (Kd.R_types HO107.out BK103.out (by decide)) (fun _ hk => hk.2) (.slice Ao17 t105.length co17)) (fun _ hk => hk.2) (.int .i64 t108)) (fun _ hk => hk.2) (.int .i64 t109)) (fun _ hk => hk.2) (.int .i64 t110)) (fun _ hk => trivial), by repeat (first | (with_reducible first | exact HB.out | apply qi | apply qb | apply qh | refine qc ?_ GE101.out | refine qc ?_ GE102.out | refine qc ?_ GE103.out) | exact HB.out)⟩
 ·replace c4 := Bool.eq_false_iff.mpr c4
  subst c4
  have H1 : (some (([] : List (S66)), 0, 0, 0, false)) = some (r1, r2, r3, r4, r5) := by rw [if_neg (show ¬ (false = true) by decide)] at H; exact H
  clear H
  have H := H1
  clear H1
  simp only [Option.some.injEq, Prod.mk.injEq] at H
  obtain ⟨rfl, rfl, rfl, rfl, rfl⟩ := H
  go_enter Try.func20, Try.ntmps20
  go_wp2_with (first | ((with_reducible refine qt (N := 2) rfl ?_); refine qr ?hg (N := 2) ?hd (cs := #[.slice A0_0 l0_0.length c0_0, .int .i64 a0_1, .int .i64 a0_2, .int .i64 a0_3]) (t := 32) ?hr ?_; (case hd => rfl); (case hg => rfl); (case hr => first | (go_simp; done) | (go_simp; rfl)); intro gb101 hg w19 hbox hb; have BK101 := Qz.mk (hbox); have GW101 := Qz.mk ((by rw [hg]; exact (ql yq36) : w.heap.size ≤ gb101)); have GE101 := GW101; replace HB := Qz.mk (qj yq36 hb); clear hb hbox hg) | ((with_reducible refine qt (N := 3) rfl ?_); refine qr ?hg (N := 3) ?hd (cs := #[.slice A1_0 l1_0.length c1_0, .slice A1_1 l1_1.length c1_1, .int .i64 a1_2, .int .i64 a1_3, .int .i64 a1_4]) (t := 37) ?hr ?_; (case hd => rfl); (case hg => rfl); (case hr => first | (go_simp; done) | (go_simp; rfl)); intro gb102 hg w20 hbox hb; have BK102 := Qz.mk (hbox); have GW102 := Qz.mk ((by rw [hg]; exact (ql yq33) : w.heap.size ≤ gb102)); have GE102 := GW102; replace HB := Qz.mk (qj yq33 hb); have NB101_102 := Qz.mk ((yq30 : gb101 ≠ gb102)); have NB102_101 := Qz.mk ((yq31 : gb102 ≠ gb101)); replace BK101 := bkbf20 BK101 yq27 hb; clear hb hbox hg) | ((with_reducible refine qt (N := 4) rfl ?_); refine qr ?hg (N := 4) ?hd (cs := #[.slice none 0 0, .int .i64 0, .int .i64 0, .int .i64 0]) (t := 32) ?hr ?_; (case hd => rfl); (case hg => rfl); (case hr => first | (go_simp; done) | (go_simp; rfl)); intro gb103 hg w21 hbox hb; have BK103 := Qz.mk (hbox); have GW103 := Qz.mk ((by rw [hg]; exact (ql yq32) : w.heap.size ≤ gb103)); have GE103 := GW103; replace HB := Qz.mk (qj yq32 hb); have NB101_103 := Qz.mk ((yq30 : gb101 ≠ gb103)); have NB103_101 := Qz.mk ((yq31 : gb103 ≠ gb101)); replace BK101 := bkbf20 BK101 yq27 hb; have NB102_103 := Qz.mk ((by rw [hg]; exact Nat.ne_of_lt (qq (g := gb102) (o := .cells #[.slice A1_0 l1_0.length c1_0, .slice A1_1 l1_1.length c1_1, .int .i64 a1_2, .int .i64 a1_3, .int .i64 a1_4] 37 (0, 0)) yq28) : gb102 ≠ gb103)); have NB103_102 := Qz.mk ((by rw [hg]; exact Nat.ne_of_gt (qq (g := gb102) (o := .cells #[.slice A1_0 l1_0.length c1_0, .slice A1_1 l1_1.length c1_1, .int .i64 a1_2, .int .i64 a1_3, .int .i64 a1_4] 37 (0, 0)) yq28) : gb103 ≠ gb102)); replace BK102 := bkbf20 BK102 yq28 hb; clear hb hbox hg; have hnb22 := NB101_102.out; have hnc22 := NB102_101.out; have hnb23 := NB101_103.out; have hnc23 := NB103_101.out; have hcz24_0 := (qa BK101.out 0).trans rfl; have hcz24_1 := (qa BK101.out 1).trans rfl; have hcz24_2 := (qa BK101.out 2).trans rfl; have hcz24_3 := (qa BK101.out 3).trans rfl; have hfz24_0 := qd BK101.out 0; have hfz24_1 := qd BK101.out 1; have hfz24_2 := qd BK101.out 2; have hfz24_3 := qd BK101.out 3) | ((with_reducible refine qo (f := 27) rfl ?_); refine goesL_ (some 7) rfl rfl Try.func27 (by kernel_rfl) rfl #[.agg #[.slice A0_0 l0_0.length c0_0, .int .i64 a0_1, .int .i64 a0_2, .int .i64 a0_3]] rfl yq34 ?_; (with_reducible refine (impl_VersionOk.calls _ _ l0_0 a0_1 a0_2 a0_3 false _ ?side1 ?side2 A3.out).mono ?_); (case side1 => exact yq35); (case side2 => exact HC0_0.out); rintro e w25 ⟨rfl, hb⟩; refine ⟨_, rfl, ?_⟩; replace BK101 := bkbf20 BK101 yq27 hb; replace BK102 := bkbf20 BK102 yq28 hb; replace BK103 := bkbf20 BK103 (by (with_reducible repeat (first | refine qf ?_ _ | refine qg ?_ | refine qe ?_ _)); exact BK103.out) hb; replace HB := Qz.mk (qj yq29 hb); (try clear hb); (try clear hk); have hnb26 := NB103_102.out; have hnc26 := NB102_103.out; have hcz27_0 := (qa BK103.out 0).trans rfl; have hcz27_1 := (qa BK103.out 1).trans rfl; have hcz27_2 := (qa BK103.out 2).trans rfl; have hcz27_3 := (qa BK103.out 3).trans rfl; have hfz27_0 := qd BK103.out 0; have hfz27_1 := qd BK103.out 1; have hfz27_2 := qd BK103.out 2; have hfz27_3 := qd BK103.out 3))
  refine bodyPost_ret (results_ct rfl _ _ gb103 32 #[.slice none 0 0, .int .i64 0, .int .i64 0, .int .i64 0] (0, 0) _ rfl (by (with_reducible repeat (first | refine qf ?_ _ | refine qg ?_ | refine qe ?_ _)); refine blk_put (cs := #[.slice none 0 0, .int .i64 0, .int .i64 0, .int .i64 0]) ?_ 3 _ rfl; (with_reducible repeat (first | refine qf ?_ _ | refine qg ?_ | refine qe ?_ _)); refine blk_put (cs := #[.slice none 0 0, .int .i64 0, .int .i64 0, .int .i64 0]) ?_ 2 _ rfl; (with_reducible repeat (first | refine qf ?_ _ | refine qg ?_ | refine qe ?_ _)); refine blk_put (cs := #[.slice none 0 0, .int .i64 0, .int .i64 0, .int .i64 0]) ?_ 1 _ rfl; (with_reducible repeat (first | refine qf ?_ _ | refine qg ?_ | refine qe ?_ _)); refine blk_put (cs := #[.slice none 0 0, .int .i64 0, .int .i64 0, .int .i64 0]) ?_ 0 _ rfl; (with_reducible repeat (first | refine qf ?_ _ | refine qg ?_ | refine qe ?_ _)); exact BK103.out) Try.underlying32 rfl (by kernel_rfl)) rfl ?_
  exact ⟨_, by first | rfl | (simp [qn, qm] <;> rfl) | (simp [*, qn, qm] <;> rfl), by first | exact Kd.R_nil _ _ _ _ _ | exact Kd.N_nil _ _ _ _ _ | exact Kd.V_nil _ _ _ _ _ | exact Kd.Q_nil _ _ _ _ _ | exact Kd.S_nil _ _ _ _ _, by repeat (first | (with_reducible first | exact HB.out | apply qi | apply qb | apply qh | refine qc ?_ GE101.out | refine qc ?_ GE102.out | refine qc ?_ GE103.out) | exact HB.out)⟩
theorem yq37 {P : Prop} (h : P := by (with_reducible repeat (first | refine qf ?_ _ | refine qg ?_ | refine qe ?_ _)); exact BK101.out) : P := h
theorem yq38 {P : Prop} (h : P := by repeat (first | (with_reducible first | exact HB.out | apply qi | apply qb | apply qh | refine qc ?_ GE101.out) | exact HB.out)) : P := h
theorem yq39 {P : Prop} (h : P := by repeat (first | (with_reducible first | exact HB.out | apply qi | apply qb | apply qh) | exact HB.out)) : P := h
theorem yq40 {P : Prop} (h : P := by rw [hg]; exact Nat.ne_of_lt (qq (g := gb101) (o := .cells #[.int .i64 a0_0, .int .i64 a0_1, .string a0_2, .string a0_3, .int .i64 a0_4] 66 (0, 0)) yq37)) : P := h
theorem yq41 {P : Prop} (h : P := by rw [hg]; exact Nat.ne_of_gt (qq (g := gb101) (o := .cells #[.int .i64 a0_0, .int .i64 a0_1, .string a0_2, .string a0_3, .int .i64 a0_4] 66 (0, 0)) yq37)) : P := h
theorem yq42 {P : Prop} (h : P := by first | (go_simp; done) | (go_simp; rfl)) : P := h
def laws_eqMeta.f (a0_0 : Int) (a0_1 : Int) (a0_2 : ByteArray) (a0_3 : ByteArray) (a0_4 : Int) (a1_0 : Int) (a1_1 : Int) (a1_2 : ByteArray) (a1_3 : ByteArray) (a1_4 : Int) : Option (Bool) := if a0_0 = a1_0 then (if a0_1 = a1_1 then (if a0_2.toList = a1_2.toList then (if a0_3.toList = a1_3.toList then (if a0_4 = a1_4 then (some true) else (some false)) else (some false)) else (some false)) else (some false)) else (some false)
set_option maxHeartbeats 8000000 in
set_option maxRecDepth 100000 in
theorem laws_eqMeta.calls (a0_0 : Int) (a0_1 : Int) (a0_2 : ByteArray) (a0_3 : ByteArray) (a0_4 : Int) (a1_0 : Int) (a1_1 : Int) (a1_2 : ByteArray) (a1_3 : ByteArray) (a1_4 : Int) (r : Bool) (w : World) (h : laws_eqMeta.f a0_0 a0_1 a0_2 a0_3 a0_4 a1_0 a1_1 a1_2 a1_3 a1_4 = some r) :
  Calls Try.prog 96 #[.agg #[.int .i64 a0_0, .int .i64 a0_1, .string a0_2, .string a0_3, .int .i64 a0_4], .agg #[.int .i64 a1_0, .int .i64 a1_1, .string a1_2, .string a1_3, .int .i64 a1_4]] w fun e w' => e = .returned (.bool r) ∧ Below w.heap.size w w' := by
 have hu66 := Try.underlying66
 have HB := Qz.mk (Below.refl w.heap.size w)
 have H : (if a0_0 = a1_0 then (if a0_1 = a1_1 then (if a0_2.toList = a1_2.toList then (if a0_3.toList = a1_3.toList then (if a0_4 = a1_4 then (some true) else (some false)) else (some false)) else (some false)) else (some false)) else (some false)) = some r := h
 clear h
 by_cases c3 : a0_0 = a1_0
 ·rw [if_pos c3] at H
  have c3b0 : (a0_0 == a1_0) = true := beq_iff_eq.mpr c3
  have c3b1 : (a0_0 != a1_0) = false := bne_eq_false_iff_eq.mpr c3
  clear c3
  by_cases c4 : a0_1 = a1_1
  ·rw [if_pos c4] at H
   have c4b0 : (a0_1 == a1_1) = true := beq_iff_eq.mpr c4
   have c4b1 : (a0_1 != a1_1) = false := bne_eq_false_iff_eq.mpr c4
   clear c4
   by_cases c5 : a0_2.toList = a1_2.toList
   ·rw [if_pos c5] at H
    have c5b0 : (a0_2.toList == a1_2.toList) = true := beq_iff_eq.mpr c5
    have c5b1 : (a0_2.toList != a1_2.toList) = false := bne_eq_false_iff_eq.mpr c5
    clear c5
    by_cases c6 : a0_3.toList = a1_3.toList
    ·rw [if_pos c6] at H
     have c6b0 : (a0_3.toList == a1_3.toList) = true := beq_iff_eq.mpr c6
     have c6b1 : (a0_3.toList != a1_3.toList) = false := bne_eq_false_iff_eq.mpr c6
     clear c6
     by_cases c7 : a0_4 = a1_4
     ·rw [if_pos c7] at H
      have c7b0 : (a0_4 == a1_4) = true := beq_iff_eq.mpr c7
      have c7b1 : (a0_4 != a1_4) = false := bne_eq_false_iff_eq.mpr c7
      clear c7
      obtain rfl := Option.some.inj H
      go_enter Try.func96, Try.ntmps96
      go_wp2_with (first | ((with_reducible refine qt (N := 2) rfl ?_); refine qr ?hg (N := 2) ?hd (cs := #[.int .i64 a0_0, .int .i64 a0_1, .string a0_2, .string a0_3, .int .i64 a0_4]) (t := 66) ?hr ?_; (case hd => rfl); (case hg => rfl); (case hr => exact yq42); intro gb101 hg w8 hbox hb; have BK101 := Qz.mk (hbox); have GW101 := Qz.mk ((by rw [hg]; exact (ql yq39) : w.heap.size ≤ gb101)); have GE101 := GW101; replace HB := Qz.mk (qj yq39 hb); clear hb hbox hg) | ((with_reducible refine qt (N := 3) rfl ?_); refine qr ?hg (N := 3) ?hd (cs := #[.int .i64 a1_0, .int .i64 a1_1, .string a1_2, .string a1_3, .int .i64 a1_4]) (t := 66) ?hr ?_; (case hd => rfl); (case hg => rfl); (case hr => exact yq42); intro gb102 hg w9 hbox hb; have BK102 := Qz.mk (hbox); have GW102 := Qz.mk ((by rw [hg]; exact (ql yq38) : w.heap.size ≤ gb102)); have GE102 := GW102; replace HB := Qz.mk (qj yq38 hb); have NB101_102 := Qz.mk ((yq40 : gb101 ≠ gb102)); have NB102_101 := Qz.mk ((yq41 : gb102 ≠ gb101)); replace BK101 := Qz.mk (qp (g := gb101) (o := .cells #[.int .i64 a0_0, .int .i64 a0_1, .string a0_2, .string a0_3, .int .i64 a0_4] 66 (0, 0)) yq37 hb); clear hb hbox hg; have hnb10 := NB101_102.out; have hnc10 := NB102_101.out; have hcz11_0 := (qa BK101.out 0).trans rfl; have hcz11_1 := (qa BK101.out 1).trans rfl; have hcz11_2 := (qa BK101.out 2).trans rfl; have hcz11_3 := (qa BK101.out 3).trans rfl; have hcz11_4 := (qa BK101.out 4).trans rfl; have hfz11_0 := qd BK101.out 0; have hfz11_1 := qd BK101.out 1; have hfz11_2 := qd BK101.out 2; have hfz11_3 := qd BK101.out 3; have hfz11_4 := qd BK101.out 4; have hcz12_0 := (qa BK102.out 0).trans rfl; have hcz12_1 := (qa BK102.out 1).trans rfl; have hcz12_2 := (qa BK102.out 2).trans rfl; have hcz12_3 := (qa BK102.out 3).trans rfl; have hcz12_4 := (qa BK102.out 4).trans rfl; have hfz12_0 := qd BK102.out 0; have hfz12_1 := qd BK102.out 1; have hfz12_2 := qd BK102.out 2; have hfz12_3 := qd BK102.out 3; have hfz12_4 := qd BK102.out 4))
      go_ret
      exact ⟨by first | rfl | (simp [qn, qm] <;> rfl) | (simp [*, qn, qm] <;> rfl), by repeat (first | (with_reducible first | exact HB.out | apply qi | apply qb | apply qh | refine qc ?_ GE101.out | refine qc ?_ GE102.out) | exact HB.out)⟩
     ·rw [if_neg c7] at H
      have c7b0 : (a0_4 == a1_4) = false := beq_eq_false_iff_ne.mpr c7
      have c7b1 : (a0_4 != a1_4) = true := bne_iff_ne.mpr c7
      obtain rfl := Option.some.inj H
      go_enter Try.func96, Try.ntmps96
      go_wp2_with (first | ((with_reducible refine qt (N := 2) rfl ?_); refine qr ?hg (N := 2) ?hd (cs := #[.int .i64 a0_0, .int .i64 a0_1, .string a0_2, .string a0_3, .int .i64 a0_4]) (t := 66) ?hr ?_; (case hd => rfl); (case hg => rfl); (case hr => exact yq42); intro gb101 hg w13 hbox hb; have BK101 := Qz.mk (hbox); have GW101 := Qz.mk ((by rw [hg]; exact (ql yq39) : w.heap.size ≤ gb101)); have GE101 := GW101; replace HB := Qz.mk (qj yq39 hb); clear hb hbox hg) | ((with_reducible refine qt (N := 3) rfl ?_); refine qr ?hg (N := 3) ?hd (cs := #[.int .i64 a1_0, .int .i64 a1_1, .string a1_2, .string a1_3, .int .i64 a1_4]) (t := 66) ?hr ?_; (case hd => rfl); (case hg => rfl); (case hr => exact yq42); intro gb102 hg w14 hbox hb; have BK102 := Qz.mk (hbox); have GW102 := Qz.mk ((by rw [hg]; exact (ql yq38) : w.heap.size ≤ gb102)); have GE102 := GW102; replace HB := Qz.mk (qj yq38 hb); have NB101_102 := Qz.mk ((yq40 : gb101 ≠ gb102)); have NB102_101 := Qz.mk ((yq41 : gb102 ≠ gb101)); replace BK101 := Qz.mk (qp (g := gb101) (o := .cells #[.int .i64 a0_0, .int .i64 a0_1, .string a0_2, .string a0_3, .int .i64 a0_4] 66 (0, 0)) yq37 hb); clear hb hbox hg; have hnb15 := NB101_102.out; have hnc15 := NB102_101.out; have hcz16_0 := (qa BK101.out 0).trans rfl; have hcz16_1 := (qa BK101.out 1).trans rfl; have hcz16_2 := (qa BK101.out 2).trans rfl; have hcz16_3 := (qa BK101.out 3).trans rfl; have hcz16_4 := (qa BK101.out 4).trans rfl; have hfz16_0 := qd BK101.out 0; have hfz16_1 := qd BK101.out 1; have hfz16_2 := qd BK101.out 2; have hfz16_3 := qd BK101.out 3; have hfz16_4 := qd BK101.out 4; have hcz17_0 := (qa BK102.out 0).trans rfl; have hcz17_1 := (qa BK102.out 1).trans rfl; have hcz17_2 := (qa BK102.out 2).trans rfl; have hcz17_3 := (qa BK102.out 3).trans rfl; have hcz17_4 := (qa BK102.out 4).trans rfl; have hfz17_0 := qd BK102.out 0; have hfz17_1 := qd BK102.out 1; have hfz17_2 := qd BK102.out 2; have hfz17_3 := qd BK102.out 3; have hfz17_4 := qd BK102.out 4))
      go_ret
      exact ⟨by first | rfl | (simp [qn, qm] <;> rfl) | (simp [*, qn, qm] <;> rfl), by repeat (first | (with_reducible first | exact HB.out | apply qi | apply qb | apply qh | refine qc ?_ GE101.out | refine qc ?_ GE102.out) | exact HB.out)⟩
    ·rw [if_neg c6] at H
     have c6b0 : (a0_3.toList == a1_3.toList) = false := beq_eq_false_iff_ne.mpr c6
     have c6b1 : (a0_3.toList != a1_3.toList) = true := bne_iff_ne.mpr c6
     obtain rfl := Option.some.inj H
     go_enter Try.func96, Try.ntmps96
     go_wp2_with (first | ((with_reducible refine qt (N := 2) rfl ?_); refine qr ?hg (N := 2) ?hd (cs := #[.int .i64 a0_0, .int .i64 a0_1, .string a0_2, .string a0_3, .int .i64 a0_4]) (t := 66) ?hr ?_; (case hd => rfl); (case hg => rfl); (case hr => exact yq42); intro gb101 hg w18 hbox hb; have BK101 := Qz.mk (hbox); have GW101 := Qz.mk ((by rw [hg]; exact (ql yq39) : w.heap.size ≤ gb101)); have GE101 := GW101; replace HB := Qz.mk (qj yq39 hb); clear hb hbox hg) | ((with_reducible refine qt (N := 3) rfl ?_); refine qr ?hg (N := 3) ?hd (cs := #[.int .i64 a1_0, .int .i64 a1_1, .string a1_2, .string a1_3, .int .i64 a1_4]) (t := 66) ?hr ?_; (case hd => rfl); (case hg => rfl); (case hr => exact yq42); intro gb102 hg w19 hbox hb; have BK102 := Qz.mk (hbox); have GW102 := Qz.mk ((by rw [hg]; exact (ql yq38) : w.heap.size ≤ gb102)); have GE102 := GW102; replace HB := Qz.mk (qj yq38 hb); have NB101_102 := Qz.mk ((yq40 : gb101 ≠ gb102)); have NB102_101 := Qz.mk ((yq41 : gb102 ≠ gb101)); replace BK101 := Qz.mk (qp (g := gb101) (o := .cells #[.int .i64 a0_0, .int .i64 a0_1, .string a0_2, .string a0_3, .int .i64 a0_4] 66 (0, 0)) yq37 hb); clear hb hbox hg; have hnb20 := NB101_102.out; have hnc20 := NB102_101.out; have hcz21_0 := (qa BK101.out 0).trans rfl; have hcz21_1 := (qa BK101.out 1).trans rfl; have hcz21_2 := (qa BK101.out 2).trans rfl; have hcz21_3 := (qa BK101.out 3).trans rfl; have hcz21_4 := (qa BK101.out 4).trans rfl; have hfz21_0 := qd BK101.out 0; have hfz21_1 := qd BK101.out 1; have hfz21_2 := qd BK101.out 2; have hfz21_3 := qd BK101.out 3; have hfz21_4 := qd BK101.out 4; have hcz22_0 := (qa BK102.out 0).trans rfl; have hcz22_1 := (qa BK102.out 1).trans rfl; have hcz22_2 := (qa BK102.out 2).trans rfl; have hcz22_3 := (qa BK102.out 3).trans rfl; have hcz22_4 := (qa BK102.out 4).trans rfl; have hfz22_0 := qd BK102.out 0; have hfz22_1 := qd BK102.out 1; have hfz22_2 := qd BK102.out 2; have hfz22_3 := qd BK102.out 3; have hfz22_4 := qd BK102.out 4))
     go_ret
     exact ⟨by first | rfl | (simp [qn, qm] <;> rfl) | (simp [*, qn, qm] <;> rfl), by repeat (first | (with_reducible first | exact HB.out | apply qi | apply qb | apply qh | refine qc ?_ GE101.out | refine qc ?_ GE102.out) | exact HB.out)⟩
   ·rw [if_neg c5] at H
    have c5b0 : (a0_2.toList == a1_2.toList) = false := beq_eq_false_iff_ne.mpr c5
    have c5b1 : (a0_2.toList != a1_2.toList) = true := bne_iff_ne.mpr c5
    obtain rfl := Option.some.inj H
    go_enter Try.func96, Try.ntmps96
    go_wp2_with (first | ((with_reducible refine qt (N := 2) rfl ?_); refine qr ?hg (N := 2) ?hd (cs := #[.int .i64 a0_0, .int .i64 a0_1, .string a0_2, .string a0_3, .int .i64 a0_4]) (t := 66) ?hr ?_; (case hd => rfl); (case hg => rfl); (case hr => exact yq42); intro gb101 hg w23 hbox hb; have BK101 := Qz.mk (hbox); have GW101 := Qz.mk ((by rw [hg]; exact (ql yq39) : w.heap.size ≤ gb101)); have GE101 := GW101; replace HB := Qz.mk (qj yq39 hb); clear hb hbox hg) | ((with_reducible refine qt (N := 3) rfl ?_); refine qr ?hg (N := 3) ?hd (cs := #[.int .i64 a1_0, .int .i64 a1_1, .string a1_2, .string a1_3, .int .i64 a1_4]) (t := 66) ?hr ?_; (case hd => rfl); (case hg => rfl); (case hr => exact yq42); intro gb102 hg w24 hbox hb; have BK102 := Qz.mk (hbox); have GW102 := Qz.mk ((by rw [hg]; exact (ql yq38) : w.heap.size ≤ gb102)); have GE102 := GW102; replace HB := Qz.mk (qj yq38 hb); have NB101_102 := Qz.mk ((yq40 : gb101 ≠ gb102)); have NB102_101 := Qz.mk ((yq41 : gb102 ≠ gb101)); replace BK101 := Qz.mk (qp (g := gb101) (o := .cells #[.int .i64 a0_0, .int .i64 a0_1, .string a0_2, .string a0_3, .int .i64 a0_4] 66 (0, 0)) yq37 hb); clear hb hbox hg; have hnb25 := NB101_102.out; have hnc25 := NB102_101.out; have hcz26_0 := (qa BK101.out 0).trans rfl; have hcz26_1 := (qa BK101.out 1).trans rfl; have hcz26_2 := (qa BK101.out 2).trans rfl; have hcz26_3 := (qa BK101.out 3).trans rfl; have hcz26_4 := (qa BK101.out 4).trans rfl; have hfz26_0 := qd BK101.out 0; have hfz26_1 := qd BK101.out 1; have hfz26_2 := qd BK101.out 2; have hfz26_3 := qd BK101.out 3; have hfz26_4 := qd BK101.out 4; have hcz27_0 := (qa BK102.out 0).trans rfl; have hcz27_1 := (qa BK102.out 1).trans rfl; have hcz27_2 := (qa BK102.out 2).trans rfl; have hcz27_3 := (qa BK102.out 3).trans rfl; have hcz27_4 := (qa BK102.out 4).trans rfl; have hfz27_0 := qd BK102.out 0; have hfz27_1 := qd BK102.out 1; have hfz27_2 := qd BK102.out 2; have hfz27_3 := qd BK102.out 3; have hfz27_4 := qd BK102.out 4))
    go_ret
    exact ⟨by first | rfl | (simp [qn, qm] <;> rfl) | (simp [*, qn, qm] <;> rfl), by repeat (first | (with_reducible first | exact HB.out | apply qi | apply qb | apply qh | refine qc ?_ GE101.out | refine qc ?_ GE102.out) | exact HB.out)⟩
  ·rw [if_neg c4] at H
   have c4b0 : (a0_1 == a1_1) = false := beq_eq_false_iff_ne.mpr c4
   have c4b1 : (a0_1 != a1_1) = true := bne_iff_ne.mpr c4
   obtain rfl := Option.some.inj H
   go_enter Try.func96, Try.ntmps96
   go_wp2_with (first | ((with_reducible refine qt (N := 2) rfl ?_); refine qr ?hg (N := 2) ?hd (cs := #[.int .i64 a0_0, .int .i64 a0_1, .string a0_2, .string a0_3, .int .i64 a0_4]) (t := 66) ?hr ?_; (case hd => rfl); (case hg => rfl); (case hr => exact yq42); intro gb101 hg w28 hbox hb; have BK101 := Qz.mk (hbox); have GW101 := Qz.mk ((by rw [hg]; exact (ql yq39) : w.heap.size ≤ gb101)); have GE101 := GW101; replace HB := Qz.mk (qj yq39 hb); clear hb hbox hg) | ((with_reducible refine qt (N := 3) rfl ?_); refine qr ?hg (N := 3) ?hd (cs := #[.int .i64 a1_0, .int .i64 a1_1, .string a1_2, .string a1_3, .int .i64 a1_4]) (t := 66) ?hr ?_; (case hd => rfl); (case hg => rfl); (case hr => exact yq42); intro gb102 hg w29 hbox hb; have BK102 := Qz.mk (hbox); have GW102 := Qz.mk ((by rw [hg]; exact (ql yq38) : w.heap.size ≤ gb102)); have GE102 := GW102; replace HB := Qz.mk (qj yq38 hb); have NB101_102 := Qz.mk ((yq40 : gb101 ≠ gb102)); have NB102_101 := Qz.mk ((yq41 : gb102 ≠ gb101)); replace BK101 := Qz.mk (qp (g := gb101) (o := .cells #[.int .i64 a0_0, .int .i64 a0_1, .string a0_2, .string a0_3, .int .i64 a0_4] 66 (0, 0)) yq37 hb); clear hb hbox hg; have hnb30 := NB101_102.out; have hnc30 := NB102_101.out; have hcz31_0 := (qa BK101.out 0).trans rfl; have hcz31_1 := (qa BK101.out 1).trans rfl; have hcz31_2 := (qa BK101.out 2).trans rfl; have hcz31_3 := (qa BK101.out 3).trans rfl; have hcz31_4 := (qa BK101.out 4).trans rfl; have hfz31_0 := qd BK101.out 0; have hfz31_1 := qd BK101.out 1; have hfz31_2 := qd BK101.out 2; have hfz31_3 := qd BK101.out 3; have hfz31_4 := qd BK101.out 4; have hcz32_0 := (qa BK102.out 0).trans rfl; have hcz32_1 := (qa BK102.out 1).trans rfl; have hcz32_2 := (qa BK102.out 2).trans rfl; have hcz32_3 := (qa BK102.out 3).trans rfl; have hcz32_4 := (qa BK102.out 4).trans rfl; have hfz32_0 := qd BK102.out 0; have hfz32_1 := qd BK102.out 1; have hfz32_2 := qd BK102.out 2; have hfz32_3 := qd BK102.out 3; have hfz32_4 := qd BK102.out 4))
   go_ret
   exact ⟨by first | rfl | (simp [qn, qm] <;> rfl) | (simp [*, qn, qm] <;> rfl), by repeat (first | (with_reducible first | exact HB.out | apply qi | apply qb | apply qh | refine qc ?_ GE101.out | refine qc ?_ GE102.out) | exact HB.out)⟩
 ·rw [if_neg c3] at H
  have c3b0 : (a0_0 == a1_0) = false := beq_eq_false_iff_ne.mpr c3
  have c3b1 : (a0_0 != a1_0) = true := bne_iff_ne.mpr c3
  obtain rfl := Option.some.inj H
  go_enter Try.func96, Try.ntmps96
  go_wp2_with (first | ((with_reducible refine qt (N := 2) rfl ?_); refine qr ?hg (N := 2) ?hd (cs := #[.int .i64 a0_0, .int .i64 a0_1, .string a0_2, .string a0_3, .int .i64 a0_4]) (t := 66) ?hr ?_; (case hd => rfl); (case hg => rfl); (case hr => exact yq42); intro gb101 hg w33 hbox hb; have BK101 := Qz.mk (hbox); have GW101 := Qz.mk ((by rw [hg]; exact (ql yq39) : w.heap.size ≤ gb101)); have GE101 := GW101; replace HB := Qz.mk (qj yq39 hb); clear hb hbox hg) | ((with_reducible refine qt (N := 3) rfl ?_); refine qr ?hg (N := 3) ?hd (cs := #[.int .i64 a1_0, .int .i64 a1_1, .string a1_2, .string a1_3, .int .i64 a1_4]) (t := 66) ?hr ?_; (case hd => rfl); (case hg => rfl); (case hr => exact yq42); intro gb102 hg w34 hbox hb; have BK102 := Qz.mk (hbox); have GW102 := Qz.mk ((by rw [hg]; exact (ql yq38) : w.heap.size ≤ gb102)); have GE102 := GW102; replace HB := Qz.mk (qj yq38 hb); have NB101_102 := Qz.mk ((yq40 : gb101 ≠ gb102)); have NB102_101 := Qz.mk ((yq41 : gb102 ≠ gb101)); replace BK101 := Qz.mk (qp (g := gb101) (o := .cells #[.int .i64 a0_0, .int .i64 a0_1, .string a0_2, .string a0_3, .int .i64 a0_4] 66 (0, 0)) yq37 hb); clear hb hbox hg; have hnb35 := NB101_102.out; have hnc35 := NB102_101.out; have hcz36_0 := (qa BK101.out 0).trans rfl; have hcz36_1 := (qa BK101.out 1).trans rfl; have hcz36_2 := (qa BK101.out 2).trans rfl; have hcz36_3 := (qa BK101.out 3).trans rfl; have hcz36_4 := (qa BK101.out 4).trans rfl; have hfz36_0 := qd BK101.out 0; have hfz36_1 := qd BK101.out 1; have hfz36_2 := qd BK101.out 2; have hfz36_3 := qd BK101.out 3; have hfz36_4 := qd BK101.out 4; have hcz37_0 := (qa BK102.out 0).trans rfl; have hcz37_1 := (qa BK102.out 1).trans rfl; have hcz37_2 := (qa BK102.out 2).trans rfl; have hcz37_3 := (qa BK102.out 3).trans rfl; have hcz37_4 := (qa BK102.out 4).trans rfl; have hfz37_0 := qd BK102.out 0; have hfz37_1 := qd BK102.out 1; have hfz37_2 := qd BK102.out 2; have hfz37_3 := qd BK102.out 3; have hfz37_4 := qd BK102.out 4))
  go_ret
  exact ⟨by first | rfl | (simp [qn, qm] <;> rfl) | (simp [*, qn, qm] <;> rfl), by repeat (first | (with_reducible first | exact HB.out | apply qi | apply qb | apply qh | refine qc ?_ GE101.out | refine qc ?_ GE102.out) | exact HB.out)⟩
theorem yq43 {P : Prop} (h : P := by first | (with_reducible assumption) | assumption) : P := h
def laws_eqMetaS.l0 : Nat → List (S66) → List (S66) → Int → Option (Bool)
 | 0, _, _, _ => none
 | k + 1, x0, x1, x5 => if x5 < (x0.length : Int) then (if 0 ≤ x5 then (if x5 < (x1.length : Int) then ((laws_eqMeta.f ((qk x0 x5).f0) ((qk x0 x5).f1) ((qk x0 x5).f2) ((qk x0 x5).f3) ((qk x0 x5).f4) ((qk x1 x5).f0) ((qk x1 x5).f1) ((qk x1 x5).f2) ((qk x1 x5).f3) ((qk x1 x5).f4)).bind fun t103 => (if t103 = true then (laws_eqMetaS.l0 k x0 x1 (wrap64 (x5 + 1))) else (some false))) else (none)) else (none)) else (some true)
def laws_eqMetaS.f (k : Nat) (l0 : List (S66)) (l1 : List (S66)) : Option (Bool) := if (l0.length : Int) = (l1.length : Int) then (laws_eqMetaS.l0 k l0 l1 0) else (some false)
def laws_eqMetaS.T6 : Bool × List (List Nat × List Nat) := (true, [([], []), ([], []), ([0, 1], [0, 1]), ([2], [2]), ([], []), ([], []), ([4, 5], [4, 5]), ([6], [6]), ([3, 7], [3, 7]), ([8], [8])])
def laws_eqMetaS.B6 : List Nat := [0, 0, 3, 7, 0, 0, 48, 112, 255, 511]
theorem laws_eqMetaS.tab6 : rtab .any (opsOf Try.f60 6) = laws_eqMetaS.T6 := by kernel_rfl
theorem laws_eqMetaS.bits6 : waitsOk laws_eqMetaS.T6.2 laws_eqMetaS.B6 = true := by kernel_rfl
set_option maxHeartbeats 8000000 in
set_option maxRecDepth 100000 in
theorem laws_eqMetaS.calls (k : Nat) (A0 : Option Addr) (c0 : Nat) (l0 : List (S66)) (A1 : Option Addr) (c1 : Nat) (l1 : List (S66)) (r : Bool) (w : World) (hr0 : Kd.C k66 w A0 l0.length l0) (hc0 : l0.length ≤ c0) (hr1 : Kd.C k66 w A1 l1.length l1) (hc1 : l1.length ≤ c1) (h : laws_eqMetaS.f k l0 l1 = some r) :
  Calls Try.prog 60 #[.slice A0 l0.length c0, .slice A1 l1.length c1] w fun e w' => e = .returned (.bool r) ∧ Below w.heap.size w w' := by
 have hu66 := Try.underlying66
 have HR0 := Qz.mk hr0
 have HC0 := Qz.mk hc0
 clear hr0 hc0
 have HR1 := Qz.mk hr1
 have HC1 := Qz.mk hc1
 clear hr1 hc1
 have HB := Qz.mk (Below.refl w.heap.size w)
 have H : (if (l0.length : Int) = (l1.length : Int) then (laws_eqMetaS.l0 k l0 l1 0) else (some false)) = some r := h
 clear h
 by_cases c3 : (l0.length : Int) = (l1.length : Int)
 ·rw [if_pos c3] at H
  have c3b0 : ((l0.length : Int) == (l1.length : Int)) = true := beq_iff_eq.mpr c3
  have c3b1 : ((l0.length : Int) != (l1.length : Int)) = false := bne_eq_false_iff_eq.mpr c3
  have c3b2 : (l0.length == l1.length) = true := by first | simpa using c3 | (simp at c3 ⊢; omega)
  clear c3
  have H' := Qz.mk H
  clear H
  go_enter Try.func60, Try.ntmps60
  go_wp2
  go_loopg [5] k (fun kq v5 w' => ∃ (x5_1 : Int), v5 = .int .i64 x5_1 ∧ Qz (laws_eqMetaS.l0 kq l0 l1 x5_1 = some r) ∧ Qz (kq ≤ k) ∧ Qz (Below w.heap.size w w'))
  case atStart => exact ⟨(0), (by first | rfl | (simp; done) | (simp [*]; done)), H', ⟨Nat.le_refl _⟩, ⟨by repeat (first | (with_reducible first | exact HB.out | apply qi | apply qb | apply qh) | exact HB.out)⟩⟩
  case round =>
   clear H'
   (try clear c1);(try clear p2);(try clear c3);(try clear c3b0);(try clear c3b1);(try clear c3b2)
   obtain ⟨x5_1, rfl, HA, HK1, HB⟩ := hrel
   cases gk with
   | zero => exact absurd HA.out (by simp [laws_eqMetaS.l0])
   | succ k1 =>
    have H := HA.out
    clear HA
    simp only [laws_eqMetaS.l0] at H
    by_cases c4 : x5_1 < (l0.length : Int)
    ·rw [if_pos c4] at H
     have c4b0 : decide (x5_1 < (l0.length : Int)) = true := decide_eq_true c4
     clear c4
     by_cases c5 : 0 ≤ x5_1
     ·rw [if_pos c5] at H
      have c5b0 : decide (0 ≤ x5_1) = true := decide_eq_true c5
      clear c5
      by_cases c6 : x5_1 < (l1.length : Int)
      ·rw [if_pos c6] at H
       have c6b0 : decide (x5_1 < (l1.length : Int)) = true := decide_eq_true c6
       clear c6
       replace H := Option.bind_eq_some_iff.mp H
       obtain ⟨t103, A70, H⟩ := H
       replace H : (if t103 = true then (laws_eqMetaS.l0 k1 l0 l1 (wrap64 (x5_1 + 1))) else (some false)) = some r := H
       have A7 := Qz.mk A70
       clear A70
       by_cases c8 : t103 = true
       ·subst c8
        have H1 : (laws_eqMetaS.l0 k1 l0 l1 (wrap64 (x5_1 + 1))) = some r := by rw [if_pos rfl] at H; exact H
        clear H
        have H := H1
        clear H1
        have H' := Qz.mk H
        clear H
        try go_wp2
        replace HB := Qz.mk (qh HB.out)
        have p101 : 0 ≤ (x5_1 : Int) := of_decide_eq_true yq43
        have q101 : x5_1 < (l0.length : Int) := of_decide_eq_true yq43
        obtain ⟨ad101, e101, hx101_0, hx101_1, hx101_2, hx101_3, hx101_4⟩ := at_T66 HR0.out x5_1 p101 q101
        have hw101_4 := hx101_4
        have hw101_3 := hx101_3
        have hw101_2 := hx101_2
        have hw101_1 := hx101_1
        have hw101_0 := hx101_0
        cases e101
        replace hx101_0 := (HB.out.cell (World.block_lt_of_cell? w _ hx101_0)).trans hx101_0
        replace hx101_1 := (HB.out.cell (World.block_lt_of_cell? w _ hx101_1)).trans hx101_1
        replace hx101_2 := (HB.out.cell (World.block_lt_of_cell? w _ hx101_2)).trans hx101_2
        replace hx101_3 := (HB.out.cell (World.block_lt_of_cell? w _ hx101_3)).trans hx101_3
        replace hx101_4 := (HB.out.cell (World.block_lt_of_cell? w _ hx101_4)).trans hx101_4
        replace p101 := eq_true p101
        replace q101 := eq_true q101
        have p102 : 0 ≤ (x5_1 : Int) := of_decide_eq_true yq43
        have q102 : x5_1 < (l1.length : Int) := of_decide_eq_true yq43
        obtain ⟨ad102, e102, hx102_0, hx102_1, hx102_2, hx102_3, hx102_4⟩ := at_T66 HR1.out x5_1 p102 q102
        have hw102_4 := hx102_4
        have hw102_3 := hx102_3
        have hw102_2 := hx102_2
        have hw102_1 := hx102_1
        have hw102_0 := hx102_0
        cases e102
        replace hx102_0 := (HB.out.cell (World.block_lt_of_cell? w _ hx102_0)).trans hx102_0
        replace hx102_1 := (HB.out.cell (World.block_lt_of_cell? w _ hx102_1)).trans hx102_1
        replace hx102_2 := (HB.out.cell (World.block_lt_of_cell? w _ hx102_2)).trans hx102_2
        replace hx102_3 := (HB.out.cell (World.block_lt_of_cell? w _ hx102_3)).trans hx102_3
        replace hx102_4 := (HB.out.cell (World.block_lt_of_cell? w _ hx102_4)).trans hx102_4
        replace p102 := eq_true p102
        replace q102 := eq_true q102
        refine start_ (n := 10) (S := fun w' => w'.cell? (ad101.add ((x5_1).toNat * 5)) = some (.int .i64 ((qk l0 x5_1).f0)) ∧ w'.cell? ⟨(ad101.add ((x5_1).toNat * 5)).block, (ad101.add ((x5_1).toNat * 5)).off + 1, none⟩ = some (.int .i64 ((qk l0 x5_1).f1)) ∧ w'.cell? ⟨(ad101.add ((x5_1).toNat * 5)).block, (ad101.add ((x5_1).toNat * 5)).off + 2, none⟩ = some (.string ((qk l0 x5_1).f2)) ∧ w'.cell? ⟨(ad101.add ((x5_1).toNat * 5)).block, (ad101.add ((x5_1).toNat * 5)).off + 3, none⟩ = some (.string ((qk l0 x5_1).f3)) ∧ w'.cell? ⟨(ad101.add ((x5_1).toNat * 5)).block, (ad101.add ((x5_1).toNat * 5)).off + 4, none⟩ = some (.int .i64 ((qk l0 x5_1).f4)) ∧ w'.cell? (ad102.add ((x5_1).toNat * 5)) = some (.int .i64 ((qk l1 x5_1).f0)) ∧ w'.cell? ⟨(ad102.add ((x5_1).toNat * 5)).block, (ad102.add ((x5_1).toNat * 5)).off + 1, none⟩ = some (.int .i64 ((qk l1 x5_1).f1)) ∧ w'.cell? ⟨(ad102.add ((x5_1).toNat * 5)).block, (ad102.add ((x5_1).toNat * 5)).off + 2, none⟩ = some (.string ((qk l1 x5_1).f2)) ∧ w'.cell? ⟨(ad102.add ((x5_1).toNat * 5)).block, (ad102.add ((x5_1).toNat * 5)).off + 3, none⟩ = some (.string ((qk l1 x5_1).f3)) ∧ w'.cell? ⟨(ad102.add ((x5_1).toNat * 5)).block, (ad102.add ((x5_1).toNat * 5)).off + 4, none⟩ = some (.int .i64 ((qk l1 x5_1).f4))) (ds := []) bq1 (by kernel_rfl) rfl rfl ⟨((HB.out.cell (World.block_lt_of_cell? w _ hw101_0)).trans hw101_0), ((HB.out.cell (World.block_lt_of_cell? w _ hw101_1)).trans hw101_1), ((HB.out.cell (World.block_lt_of_cell? w _ hw101_2)).trans hw101_2), ((HB.out.cell (World.block_lt_of_cell? w _ hw101_3)).trans hw101_3), ((HB.out.cell (World.block_lt_of_cell? w _ hw101_4)).trans hw101_4), ((HB.out.cell (World.block_lt_of_cell? w _ hw102_0)).trans hw102_0), ((HB.out.cell (World.block_lt_of_cell? w _ hw102_1)).trans hw102_1), ((HB.out.cell (World.block_lt_of_cell? w _ hw102_2)).trans hw102_2), ((HB.out.cell (World.block_lt_of_cell? w _ hw102_3)).trans hw102_3), ((HB.out.cell (World.block_lt_of_cell? w _ hw102_4)).trans hw102_4)⟩ (fun hHeld => ?_); refine with_tabW laws_eqMetaS.tab6 laws_eqMetaS.bits6 (fun HT_ HW_ => ?_)
        generalize wr.drew = w9 at HB hx101_0 hx101_1 hx101_2 hx101_3 hx101_4 hx102_0 hx102_1 hx102_2 hx102_3 hx102_4 hHeld ⊢
        refine pure_ (i := 0) (N := some 17) (v := ?_) (a' := ?_) bq4 rfl rfl (any_of HT_.out (by kernel_rfl)) (fun _ _ _ h => h) (Or.inl ⟨by rfl, ?_⟩) ?_ ?_
        rotate_left
        ·intro w'
         go_simp
         with_reducible rfl
        rotate_left
        ·simp only [Act.put, sq1, sq2, sq3, i64_w, i32_w]
         rfl
        refine pure_ (i := 1) (N := some 18) (v := ?_) (a' := ?_) bq8 rfl rfl (any_of HT_.out (by kernel_rfl)) (fun _ _ _ h => h) (Or.inl ⟨by rfl, ?_⟩) ?_ ?_
        rotate_left
        ·intro w'
         go_simp
         with_reducible rfl
        rotate_left
        ·simp only [Act.put, sq1, sq2, sq3, i64_w, i32_w]
         rfl
        refine pure_ (i := 2) (N := some 19) (v := ?_) (a' := ?_) bq11 rfl rfl (any_of HT_.out (by kernel_rfl)) (fun _ _ _ h => h) (Or.inl ⟨by rfl, ?_⟩) ?_ ?_
        rotate_left
        ·intro w'
         go_simp
         with_reducible rfl
        rotate_left
        ·simp only [Act.put, sq1, sq2, sq3, i64_w, i32_w]
         rfl
        refine pure_ (i := 4) (N := some 21) (v := ?_) (a' := ?_) bq14 rfl rfl (any_of HT_.out (by kernel_rfl)) (fun _ _ _ h => h) (Or.inl ⟨by rfl, ?_⟩) ?_ ?_
        rotate_left
        ·intro w'
         go_simp
         with_reducible rfl
        rotate_left
        ·simp only [Act.put, sq1, sq2, sq3, i64_w, i32_w]
         rfl
        refine pure_ (i := 5) (N := some 22) (v := ?_) (a' := ?_) bq15 rfl rfl (any_of HT_.out (by kernel_rfl)) (fun _ _ _ h => h) (Or.inl ⟨by rfl, ?_⟩) ?_ ?_
        rotate_left
        ·intro w'
         go_simp
         with_reducible rfl
        rotate_left
        ·simp only [Act.put, sq1, sq2, sq3, i64_w, i32_w]
         rfl
        refine pure_ (i := 6) (N := some 23) (v := ?_) (a' := ?_) bq16 rfl rfl (any_of HT_.out (by kernel_rfl)) (fun _ _ _ h => h) (Or.inl ⟨by rfl, ?_⟩) ?_ ?_
        rotate_left
        ·intro w'
         go_simp
         with_reducible rfl
        rotate_left
        ·simp only [Act.put, sq1, sq2, sq3, i64_w, i32_w]
         rfl
        refine take_ (i := 3) (N := some 20) (v := ?_) (a' := ?_) bq27 rfl rfl (take_ofW HT_.out HW_.out (by kernel_rfl)) (fun _ _ _ h => h) (Or.inl ⟨by rfl, ?_⟩) hHeld ?_ ?_
        rotate_left
        ·rintro w' ⟨s0, s1, s2, s3, s4, s5, s6, s7, s8, s9⟩
         go_simp
         with_reducible rfl
        rotate_left
        ·simp only [Act.put, sq1, sq2, sq3, i64_w, i32_w]
         rfl
        refine take_ (i := 7) (N := some 24) (v := ?_) (a' := ?_) bq31 rfl rfl (take_ofW HT_.out HW_.out (by kernel_rfl)) (fun _ _ _ h => h) (Or.inl ⟨by rfl, ?_⟩) hHeld ?_ ?_
        rotate_left
        ·rintro w' ⟨s0, s1, s2, s3, s4, s5, s6, s7, s8, s9⟩
         go_simp
         with_reducible rfl
        rotate_left
        ·simp only [Act.put, sq1, sq2, sq3, i64_w, i32_w]
         rfl
        refine one_ (i := 8) (N := some 25) bq33 rfl rfl (one_of HT_.out (by kernel_rfl)) (by decide) (fun K hK => ?_)
        refine goes_ Try.func96 (by kernel_rfl) rfl #[.agg #[.int .i64 ((qk l0 x5_1).f0), .int .i64 ((qk l0 x5_1).f1), .string ((qk l0 x5_1).f2), .string ((qk l0 x5_1).f3), .int .i64 ((qk l0 x5_1).f4)], .agg #[.int .i64 ((qk l1 x5_1).f0), .int .i64 ((qk l1 x5_1).f1), .string ((qk l1 x5_1).f2), .string ((qk l1 x5_1).f3), .int .i64 ((qk l1 x5_1).f4)]] (by rfl) rfl rfl (by (try simp only [List.map_toArray, List.map_cons, List.map_nil]); first | done | rfl) ?_
        with_reducible refine (laws_eqMeta.calls ((qk l0 x5_1).f0) ((qk l0 x5_1).f1) ((qk l0 x5_1).f2) ((qk l0 x5_1).f3) ((qk l0 x5_1).f4) ((qk l1 x5_1).f0) ((qk l1 x5_1).f1) ((qk l1 x5_1).f2) ((qk l1 x5_1).f3) ((qk l1 x5_1).f4) true _ A7.out).mono ?_
        rintro e w10 ⟨rfl, hb⟩
        refine ⟨_, rfl, ?_⟩
        replace HB := Qz.mk (qj (by repeat (first | (with_reducible first | exact HB.out | apply qi | apply qb | apply qh) | exact HB.out)) hb)
        (try clear hb)
        refine hK.out _ _ ⟨((HB.out.cell (World.block_lt_of_cell? w _ hw101_0)).trans hw101_0), ((HB.out.cell (World.block_lt_of_cell? w _ hw101_1)).trans hw101_1), ((HB.out.cell (World.block_lt_of_cell? w _ hw101_2)).trans hw101_2), ((HB.out.cell (World.block_lt_of_cell? w _ hw101_3)).trans hw101_3), ((HB.out.cell (World.block_lt_of_cell? w _ hw101_4)).trans hw101_4), ((HB.out.cell (World.block_lt_of_cell? w _ hw102_0)).trans hw102_0), ((HB.out.cell (World.block_lt_of_cell? w _ hw102_1)).trans hw102_1), ((HB.out.cell (World.block_lt_of_cell? w _ hw102_2)).trans hw102_2), ((HB.out.cell (World.block_lt_of_cell? w _ hw102_3)).trans hw102_3), ((HB.out.cell (World.block_lt_of_cell? w _ hw102_4)).trans hw102_4)⟩ (fun hHeld => ?_)
        clear hK K
        refine norm_ (a' := ?_) ?_ ?_
        rotate_left
        ·show Act.put _ (some 25) _ = _
         simp only [Act.put, sq1, sq2, sq3, i64_w, i32_w]
         rfl
        refine pure_ (i := 9) (N := some 26) (v := ?_) (a' := ?_) bq36 rfl rfl (any_of HT_.out (by kernel_rfl)) (fun _ _ _ h => h) (Or.inl ⟨by rfl, ?_⟩) ?_ ?_
        rotate_left
        ·intro w'
         go_simp
         with_reducible rfl
        rotate_left
        ·simp only [Act.put, sq1, sq2, sq3, i64_w, i32_w]
         rfl
        refine done_ (done_of HT_.out (by kernel_rfl)) ?_
        try go_wp2
        go_roundg k1
        case measure => have := HK1.out; omega
        case rel => exact ⟨(wrap64 (x5_1 + 1)), (by first | rfl | (simp; done) | (simp [*]; done)), H', ⟨by have := HK1.out; omega⟩, ⟨by repeat (first | (with_reducible first | exact HB.out | apply qi | apply qb | apply qh) | exact HB.out)⟩⟩
       ·replace c8 := Bool.eq_false_iff.mpr c8
        subst c8
        have H1 : (some false) = some r := by rw [if_neg (show ¬ (false = true) by decide)] at H; exact H
        clear H
        have H := H1
        clear H1
        obtain rfl := Option.some.inj H
        try go_wp2
        replace HB := Qz.mk (qh HB.out)
        have p101 : 0 ≤ (x5_1 : Int) := of_decide_eq_true yq43
        have q101 : x5_1 < (l0.length : Int) := of_decide_eq_true yq43
        obtain ⟨ad101, e101, hx101_0, hx101_1, hx101_2, hx101_3, hx101_4⟩ := at_T66 HR0.out x5_1 p101 q101
        have hw101_4 := hx101_4
        have hw101_3 := hx101_3
        have hw101_2 := hx101_2
        have hw101_1 := hx101_1
        have hw101_0 := hx101_0
        cases e101
        replace hx101_0 := (HB.out.cell (World.block_lt_of_cell? w _ hx101_0)).trans hx101_0
        replace hx101_1 := (HB.out.cell (World.block_lt_of_cell? w _ hx101_1)).trans hx101_1
        replace hx101_2 := (HB.out.cell (World.block_lt_of_cell? w _ hx101_2)).trans hx101_2
        replace hx101_3 := (HB.out.cell (World.block_lt_of_cell? w _ hx101_3)).trans hx101_3
        replace hx101_4 := (HB.out.cell (World.block_lt_of_cell? w _ hx101_4)).trans hx101_4
        replace p101 := eq_true p101
        replace q101 := eq_true q101
        have p102 : 0 ≤ (x5_1 : Int) := of_decide_eq_true yq43
        have q102 : x5_1 < (l1.length : Int) := of_decide_eq_true yq43
        obtain ⟨ad102, e102, hx102_0, hx102_1, hx102_2, hx102_3, hx102_4⟩ := at_T66 HR1.out x5_1 p102 q102
        have hw102_4 := hx102_4
        have hw102_3 := hx102_3
        have hw102_2 := hx102_2
        have hw102_1 := hx102_1
        have hw102_0 := hx102_0
        cases e102
        replace hx102_0 := (HB.out.cell (World.block_lt_of_cell? w _ hx102_0)).trans hx102_0
        replace hx102_1 := (HB.out.cell (World.block_lt_of_cell? w _ hx102_1)).trans hx102_1
        replace hx102_2 := (HB.out.cell (World.block_lt_of_cell? w _ hx102_2)).trans hx102_2
        replace hx102_3 := (HB.out.cell (World.block_lt_of_cell? w _ hx102_3)).trans hx102_3
        replace hx102_4 := (HB.out.cell (World.block_lt_of_cell? w _ hx102_4)).trans hx102_4
        replace p102 := eq_true p102
        replace q102 := eq_true q102
        refine start_ (n := 10) (S := fun w' => w'.cell? (ad101.add ((x5_1).toNat * 5)) = some (.int .i64 ((qk l0 x5_1).f0)) ∧ w'.cell? ⟨(ad101.add ((x5_1).toNat * 5)).block, (ad101.add ((x5_1).toNat * 5)).off + 1, none⟩ = some (.int .i64 ((qk l0 x5_1).f1)) ∧ w'.cell? ⟨(ad101.add ((x5_1).toNat * 5)).block, (ad101.add ((x5_1).toNat * 5)).off + 2, none⟩ = some (.string ((qk l0 x5_1).f2)) ∧ w'.cell? ⟨(ad101.add ((x5_1).toNat * 5)).block, (ad101.add ((x5_1).toNat * 5)).off + 3, none⟩ = some (.string ((qk l0 x5_1).f3)) ∧ w'.cell? ⟨(ad101.add ((x5_1).toNat * 5)).block, (ad101.add ((x5_1).toNat * 5)).off + 4, none⟩ = some (.int .i64 ((qk l0 x5_1).f4)) ∧ w'.cell? (ad102.add ((x5_1).toNat * 5)) = some (.int .i64 ((qk l1 x5_1).f0)) ∧ w'.cell? ⟨(ad102.add ((x5_1).toNat * 5)).block, (ad102.add ((x5_1).toNat * 5)).off + 1, none⟩ = some (.int .i64 ((qk l1 x5_1).f1)) ∧ w'.cell? ⟨(ad102.add ((x5_1).toNat * 5)).block, (ad102.add ((x5_1).toNat * 5)).off + 2, none⟩ = some (.string ((qk l1 x5_1).f2)) ∧ w'.cell? ⟨(ad102.add ((x5_1).toNat * 5)).block, (ad102.add ((x5_1).toNat * 5)).off + 3, none⟩ = some (.string ((qk l1 x5_1).f3)) ∧ w'.cell? ⟨(ad102.add ((x5_1).toNat * 5)).block, (ad102.add ((x5_1).toNat * 5)).off + 4, none⟩ = some (.int .i64 ((qk l1 x5_1).f4))) (ds := []) bq1 (by kernel_rfl) rfl rfl ⟨((HB.out.cell (World.block_lt_of_cell? w _ hw101_0)).trans hw101_0), ((HB.out.cell (World.block_lt_of_cell? w _ hw101_1)).trans hw101_1), ((HB.out.cell (World.block_lt_of_cell? w _ hw101_2)).trans hw101_2), ((HB.out.cell (World.block_lt_of_cell? w _ hw101_3)).trans hw101_3), ((HB.out.cell (World.block_lt_of_cell? w _ hw101_4)).trans hw101_4), ((HB.out.cell (World.block_lt_of_cell? w _ hw102_0)).trans hw102_0), ((HB.out.cell (World.block_lt_of_cell? w _ hw102_1)).trans hw102_1), ((HB.out.cell (World.block_lt_of_cell? w _ hw102_2)).trans hw102_2), ((HB.out.cell (World.block_lt_of_cell? w _ hw102_3)).trans hw102_3), ((HB.out.cell (World.block_lt_of_cell? w _ hw102_4)).trans hw102_4)⟩ (fun hHeld => ?_); refine with_tabW laws_eqMetaS.tab6 laws_eqMetaS.bits6 (fun HT_ HW_ => ?_)
        generalize wr.drew = w11 at HB hx101_0 hx101_1 hx101_2 hx101_3 hx101_4 hx102_0 hx102_1 hx102_2 hx102_3 hx102_4 hHeld ⊢
        refine pure_ (i := 0) (N := some 17) (v := ?_) (a' := ?_) bq4 rfl rfl (any_of HT_.out (by kernel_rfl)) (fun _ _ _ h => h) (Or.inl ⟨by rfl, ?_⟩) ?_ ?_
        rotate_left
        ·intro w'
         go_simp
         with_reducible rfl
        rotate_left
        ·simp only [Act.put, sq1, sq2, sq3, i64_w, i32_w]
         rfl
        refine pure_ (i := 1) (N := some 18) (v := ?_) (a' := ?_) bq8 rfl rfl (any_of HT_.out (by kernel_rfl)) (fun _ _ _ h => h) (Or.inl ⟨by rfl, ?_⟩) ?_ ?_
        rotate_left
        ·intro w'
         go_simp
         with_reducible rfl
        rotate_left
        ·simp only [Act.put, sq1, sq2, sq3, i64_w, i32_w]
         rfl
        refine pure_ (i := 2) (N := some 19) (v := ?_) (a' := ?_) bq11 rfl rfl (any_of HT_.out (by kernel_rfl)) (fun _ _ _ h => h) (Or.inl ⟨by rfl, ?_⟩) ?_ ?_
        rotate_left
        ·intro w'
         go_simp
         with_reducible rfl
        rotate_left
        ·simp only [Act.put, sq1, sq2, sq3, i64_w, i32_w]
         rfl
        refine pure_ (i := 4) (N := some 21) (v := ?_) (a' := ?_) bq14 rfl rfl (any_of HT_.out (by kernel_rfl)) (fun _ _ _ h => h) (Or.inl ⟨by rfl, ?_⟩) ?_ ?_
        rotate_left
        ·intro w'
         go_simp
         with_reducible rfl
        rotate_left
        ·simp only [Act.put, sq1, sq2, sq3, i64_w, i32_w]
         rfl
        refine pure_ (i := 5) (N := some 22) (v := ?_) (a' := ?_) bq15 rfl rfl (any_of HT_.out (by kernel_rfl)) (fun _ _ _ h => h) (Or.inl ⟨by rfl, ?_⟩) ?_ ?_
        rotate_left
        ·intro w'
         go_simp
         with_reducible rfl
        rotate_left
        ·simp only [Act.put, sq1, sq2, sq3, i64_w, i32_w]
         rfl
        refine pure_ (i := 6) (N := some 23) (v := ?_) (a' := ?_) bq16 rfl rfl (any_of HT_.out (by kernel_rfl)) (fun _ _ _ h => h) (Or.inl ⟨by rfl, ?_⟩) ?_ ?_
        rotate_left
        ·intro w'
         go_simp
         with_reducible rfl
        rotate_left
        ·simp only [Act.put, sq1, sq2, sq3, i64_w, i32_w]
         rfl
        refine take_ (i := 3) (N := some 20) (v := ?_) (a' := ?_) bq27 rfl rfl (take_ofW HT_.out HW_.out (by kernel_rfl)) (fun _ _ _ h => h) (Or.inl ⟨by rfl, ?_⟩) hHeld ?_ ?_
        rotate_left
        ·rintro w' ⟨s0, s1, s2, s3, s4, s5, s6, s7, s8, s9⟩
         go_simp
         with_reducible rfl
        rotate_left
        ·simp only [Act.put, sq1, sq2, sq3, i64_w, i32_w]
         rfl
        refine take_ (i := 7) (N := some 24) (v := ?_) (a' := ?_) bq31 rfl rfl (take_ofW HT_.out HW_.out (by kernel_rfl)) (fun _ _ _ h => h) (Or.inl ⟨by rfl, ?_⟩) hHeld ?_ ?_
        rotate_left
        ·rintro w' ⟨s0, s1, s2, s3, s4, s5, s6, s7, s8, s9⟩
         go_simp
         with_reducible rfl
        rotate_left
        ·simp only [Act.put, sq1, sq2, sq3, i64_w, i32_w]
         rfl
        refine one_ (i := 8) (N := some 25) bq33 rfl rfl (one_of HT_.out (by kernel_rfl)) (by decide) (fun K hK => ?_)
        refine goes_ Try.func96 (by kernel_rfl) rfl #[.agg #[.int .i64 ((qk l0 x5_1).f0), .int .i64 ((qk l0 x5_1).f1), .string ((qk l0 x5_1).f2), .string ((qk l0 x5_1).f3), .int .i64 ((qk l0 x5_1).f4)], .agg #[.int .i64 ((qk l1 x5_1).f0), .int .i64 ((qk l1 x5_1).f1), .string ((qk l1 x5_1).f2), .string ((qk l1 x5_1).f3), .int .i64 ((qk l1 x5_1).f4)]] (by rfl) rfl rfl (by (try simp only [List.map_toArray, List.map_cons, List.map_nil]); first | done | rfl) ?_
        with_reducible refine (laws_eqMeta.calls ((qk l0 x5_1).f0) ((qk l0 x5_1).f1) ((qk l0 x5_1).f2) ((qk l0 x5_1).f3) ((qk l0 x5_1).f4) ((qk l1 x5_1).f0) ((qk l1 x5_1).f1) ((qk l1 x5_1).f2) ((qk l1 x5_1).f3) ((qk l1 x5_1).f4) false _ A7.out).mono ?_
        rintro e w12 ⟨rfl, hb⟩
        refine ⟨_, rfl, ?_⟩
        replace HB := Qz.mk (qj (by repeat (first | (with_reducible first | exact HB.out | apply qi | apply qb | apply qh) | exact HB.out)) hb)
        (try clear hb)
        refine hK.out _ _ ⟨((HB.out.cell (World.block_lt_of_cell? w _ hw101_0)).trans hw101_0), ((HB.out.cell (World.block_lt_of_cell? w _ hw101_1)).trans hw101_1), ((HB.out.cell (World.block_lt_of_cell? w _ hw101_2)).trans hw101_2), ((HB.out.cell (World.block_lt_of_cell? w _ hw101_3)).trans hw101_3), ((HB.out.cell (World.block_lt_of_cell? w _ hw101_4)).trans hw101_4), ((HB.out.cell (World.block_lt_of_cell? w _ hw102_0)).trans hw102_0), ((HB.out.cell (World.block_lt_of_cell? w _ hw102_1)).trans hw102_1), ((HB.out.cell (World.block_lt_of_cell? w _ hw102_2)).trans hw102_2), ((HB.out.cell (World.block_lt_of_cell? w _ hw102_3)).trans hw102_3), ((HB.out.cell (World.block_lt_of_cell? w _ hw102_4)).trans hw102_4)⟩ (fun hHeld => ?_)
        clear hK K
        refine norm_ (a' := ?_) ?_ ?_
        rotate_left
        ·show Act.put _ (some 25) _ = _
         simp only [Act.put, sq1, sq2, sq3, i64_w, i32_w]
         rfl
        refine pure_ (i := 9) (N := some 26) (v := ?_) (a' := ?_) bq36 rfl rfl (any_of HT_.out (by kernel_rfl)) (fun _ _ _ h => h) (Or.inl ⟨by rfl, ?_⟩) ?_ ?_
        rotate_left
        ·intro w'
         go_simp
         with_reducible rfl
        rotate_left
        ·simp only [Act.put, sq1, sq2, sq3, i64_w, i32_w]
         rfl
        refine done_ (done_of HT_.out (by kernel_rfl)) ?_
        try go_wp2
        go_ret
        exact ⟨by first | rfl | (simp [qn, qm] <;> rfl) | (simp [*, qn, qm] <;> rfl), by repeat (first | (with_reducible first | exact HB.out | apply qi | apply qb | apply qh) | exact HB.out)⟩
      ·rw [if_neg c6] at H
       exact absurd H (by simp)
     ·rw [if_neg c5] at H
      exact absurd H (by simp)
    ·rw [if_neg c4] at H
     have c4b0 : decide (x5_1 < (l0.length : Int)) = false := decide_eq_false c4
     clear c4
     obtain rfl := Option.some.inj H
     go_wp2
     go_ret
     exact ⟨by first | rfl | (simp [qn, qm] <;> rfl) | (simp [*, qn, qm] <;> rfl), by repeat (first | (with_reducible first | exact HB.out | apply qi | apply qb | apply qh) | exact HB.out)⟩
 ·rw [if_neg c3] at H
  have c3b0 : ((l0.length : Int) == (l1.length : Int)) = false := beq_eq_false_iff_ne.mpr c3
  have c3b1 : ((l0.length : Int) != (l1.length : Int)) = true := bne_iff_ne.mpr c3
  have c3b2 : (l0.length == l1.length) = false := by first | simpa using c3 | (simp at c3 ⊢; omega)
  obtain rfl := Option.some.inj H
  go_enter Try.func60, Try.ntmps60
  go_wp2
  go_ret
  exact ⟨by first | rfl | (simp [qn, qm] <;> rfl) | (simp [*, qn, qm] <;> rfl), by repeat (first | (with_reducible first | exact HB.out | apply qi | apply qb | apply qh) | exact HB.out)⟩
theorem yq44 {P : Prop} (h : P := by (with_reducible repeat (first | refine qf ?_ _ | refine qg ?_ | refine qe ?_ _)); exact BK101.out) : P := h
theorem yq45 {P : Prop} (h : P := by repeat (first | (with_reducible first | exact HB.out | apply qi | apply qb | apply qh | refine qc ?_ GE101.out) | exact HB.out)) : P := h
theorem yq46 {P : Prop} (h : P := by repeat (first | (with_reducible first | exact HB.out | apply qi | apply qb | apply qh) | exact HB.out)) : P := h
theorem yq47 {P : Prop} (h : P := by (try simp only [List.map_toArray, List.map_cons, List.map_nil]); first | done | rfl | (simp only [List.length_drop, List.length_take]; rfl) | (rw [IntWalk.u64_in _ (by omega)] <;> rfl)) : P := h
theorem yq48 {P : Prop} (h : P := by repeat (first | exact (Kd.C_below HR1_0.out HB.out) | (with_reducible refine Kd.C_alloc ?_ _) | (with_reducible refine Kd.C_drewN ?_ _) | (with_reducible refine Kd.C_drew ?_))) : P := h
theorem yq49 {P : Prop} (h : P := by repeat (first | exact (Kd.C_below HR0_0.out HB.out) | (with_reducible refine Kd.C_alloc ?_ _) | (with_reducible refine Kd.C_drewN ?_ _) | (with_reducible refine Kd.C_drew ?_))) : P := h
theorem yq50 {P : Prop} (h : P := by rw [hg]; exact Nat.ne_of_lt (qq (g := gb101) (o := .cells #[.slice A0_0 l0_0.length c0_0, .int .i64 a0_1, .int .i64 a0_2, .int .i64 a0_3] 32 (0, 0)) yq44)) : P := h
theorem yq51 {P : Prop} (h : P := by rw [hg]; exact Nat.ne_of_gt (qq (g := gb101) (o := .cells #[.slice A0_0 l0_0.length c0_0, .int .i64 a0_1, .int .i64 a0_2, .int .i64 a0_3] 32 (0, 0)) yq44)) : P := h
theorem yq52 {P : Prop} (h : P := by repeat (first | (with_reducible first | exact HB.out | apply qi | apply qb | apply qh | refine qc ?_ GE101.out | refine qc ?_ GE102.out) | exact HB.out)) : P := h
theorem yq53 {P : Prop} (h : P := by (with_reducible repeat (first | refine qf ?_ _ | refine qg ?_ | refine qe ?_ _)); exact BK102.out) : P := h
theorem yq54 {P : Prop} (h : P := by first | (go_simp; done) | (go_simp; rfl)) : P := h
theorem bkbf21 {w0 W W2 : World} {g : Nat} {o : Obj} (_ : Qz (w0.heap[g]? = some o)) (h : W.heap[g]? = some o) (hb : Below W.heap.size W W2) : Qz (W2.heap[g]? = some o) := Qz.mk (qp h hb)
def laws_eqVersion.f (k : Nat) (l0_0 : List (S66)) (a0_1 : Int) (a0_2 : Int) (a0_3 : Int) (l1_0 : List (S66)) (a1_1 : Int) (a1_2 : Int) (a1_3 : Int) : Option (Bool) := (laws_eqMetaS.f k l0_0 l1_0).bind fun t103 => (if t103 = true then (if a0_1 = a1_1 then (if a0_2 = a1_2 then (if a0_3 = a1_3 then (some true) else (some false)) else (some false)) else (some false)) else (some false))
set_option maxHeartbeats 8000000 in
set_option maxRecDepth 100000 in
theorem laws_eqVersion.calls (k : Nat) (A0_0 : Option Addr) (c0_0 : Nat) (l0_0 : List (S66)) (a0_1 : Int) (a0_2 : Int) (a0_3 : Int) (A1_0 : Option Addr) (c1_0 : Nat) (l1_0 : List (S66)) (a1_1 : Int) (a1_2 : Int) (a1_3 : Int) (r : Bool) (w : World) (hr0_0 : Kd.C k66 w A0_0 l0_0.length l0_0) (hc0_0 : l0_0.length ≤ c0_0) (hr1_0 : Kd.C k66 w A1_0 l1_0.length l1_0) (hc1_0 : l1_0.length ≤ c1_0) (h : laws_eqVersion.f k l0_0 a0_1 a0_2 a0_3 l1_0 a1_1 a1_2 a1_3 = some r) :
  Calls Try.prog 21 #[.agg #[.slice A0_0 l0_0.length c0_0, .int .i64 a0_1, .int .i64 a0_2, .int .i64 a0_3], .agg #[.slice A1_0 l1_0.length c1_0, .int .i64 a1_1, .int .i64 a1_2, .int .i64 a1_3]] w fun e w' => e = .returned (.bool r) ∧ Below w.heap.size w w' := by
 have hu32 := Try.underlying32
 have HR0_0 := Qz.mk hr0_0
 have HC0_0 := Qz.mk hc0_0
 clear hr0_0 hc0_0
 have HR1_0 := Qz.mk hr1_0
 have HC1_0 := Qz.mk hc1_0
 clear hr1_0 hc1_0
 have HB := Qz.mk (Below.refl w.heap.size w)
 have H : ((laws_eqMetaS.f k l0_0 l1_0).bind fun t103 => (if t103 = true then (if a0_1 = a1_1 then (if a0_2 = a1_2 then (if a0_3 = a1_3 then (some true) else (some false)) else (some false)) else (some false)) else (some false))) = some r := h
 clear h
 replace H := Option.bind_eq_some_iff.mp H
 obtain ⟨t103, A30, H⟩ := H
 replace H : (if t103 = true then (if a0_1 = a1_1 then (if a0_2 = a1_2 then (if a0_3 = a1_3 then (some true) else (some false)) else (some false)) else (some false)) else (some false)) = some r := H
 have A3 := Qz.mk A30
 clear A30
 by_cases c4 : t103 = true
 ·subst c4
  have H1 : (if a0_1 = a1_1 then (if a0_2 = a1_2 then (if a0_3 = a1_3 then (some true) else (some false)) else (some false)) else (some false)) = some r := by rw [if_pos rfl] at H; exact H
  clear H
  have H := H1
  clear H1
  by_cases c5 : a0_1 = a1_1
  ·rw [if_pos c5] at H
   have c5b0 : (a0_1 == a1_1) = true := beq_iff_eq.mpr c5
   have c5b1 : (a0_1 != a1_1) = false := bne_eq_false_iff_eq.mpr c5
   clear c5
   by_cases c6 : a0_2 = a1_2
   ·rw [if_pos c6] at H
    have c6b0 : (a0_2 == a1_2) = true := beq_iff_eq.mpr c6
    have c6b1 : (a0_2 != a1_2) = false := bne_eq_false_iff_eq.mpr c6
    clear c6
    by_cases c7 : a0_3 = a1_3
    ·rw [if_pos c7] at H
     have c7b0 : (a0_3 == a1_3) = true := beq_iff_eq.mpr c7
     have c7b1 : (a0_3 != a1_3) = false := bne_eq_false_iff_eq.mpr c7
     clear c7
     obtain rfl := Option.some.inj H
     go_enter Try.func21, Try.ntmps21
     go_wp2_with (first | ((with_reducible refine qt (N := 2) rfl ?_); refine qr ?hg (N := 2) ?hd (cs := #[.slice A0_0 l0_0.length c0_0, .int .i64 a0_1, .int .i64 a0_2, .int .i64 a0_3]) (t := 32) ?hr ?_; (case hd => rfl); (case hg => rfl); (case hr => exact yq54); intro gb101 hg w8 hbox hb; have BK101 := Qz.mk (hbox); have GW101 := Qz.mk ((by rw [hg]; exact (ql yq46) : w.heap.size ≤ gb101)); have GE101 := GW101; replace HB := Qz.mk (qj yq46 hb); clear hb hbox hg) | ((with_reducible refine qt (N := 3) rfl ?_); refine qr ?hg (N := 3) ?hd (cs := #[.slice A1_0 l1_0.length c1_0, .int .i64 a1_1, .int .i64 a1_2, .int .i64 a1_3]) (t := 32) ?hr ?_; (case hd => rfl); (case hg => rfl); (case hr => exact yq54); intro gb102 hg w9 hbox hb; have BK102 := Qz.mk (hbox); have GW102 := Qz.mk ((by rw [hg]; exact (ql yq45) : w.heap.size ≤ gb102)); have GE102 := GW102; replace HB := Qz.mk (qj yq45 hb); have NB101_102 := Qz.mk ((yq50 : gb101 ≠ gb102)); have NB102_101 := Qz.mk ((yq51 : gb102 ≠ gb101)); replace BK101 := bkbf21 BK101 yq44 hb; clear hb hbox hg; have hnb10 := NB101_102.out; have hnc10 := NB102_101.out; have hcz11_0 := (qa BK101.out 0).trans rfl; have hcz11_1 := (qa BK101.out 1).trans rfl; have hcz11_2 := (qa BK101.out 2).trans rfl; have hcz11_3 := (qa BK101.out 3).trans rfl; have hfz11_0 := qd BK101.out 0; have hfz11_1 := qd BK101.out 1; have hfz11_2 := qd BK101.out 2; have hfz11_3 := qd BK101.out 3; have hcz12_0 := (qa BK102.out 0).trans rfl; have hcz12_1 := (qa BK102.out 1).trans rfl; have hcz12_2 := (qa BK102.out 2).trans rfl; have hcz12_3 := (qa BK102.out 3).trans rfl; have hfz12_0 := qd BK102.out 0; have hfz12_1 := qd BK102.out 1; have hfz12_2 := qd BK102.out 2; have hfz12_3 := qd BK102.out 3) | ((with_reducible refine qo (f := 60) rfl ?_); refine goesL_ (some 9) rfl rfl Try.func60 (by kernel_rfl) rfl #[.slice A0_0 l0_0.length c0_0, .slice A1_0 l1_0.length c1_0] rfl yq47 ?_; (with_reducible refine (laws_eqMetaS.calls k _ _ l0_0 _ _ l1_0 true _ ?side1 ?side2 ?side3 ?side4 A3.out).mono ?_); (case side1 => exact yq49); (case side2 => exact HC0_0.out); (case side3 => exact yq48); (case side4 => exact HC1_0.out); rintro e w13 ⟨rfl, hb⟩; refine ⟨_, rfl, ?_⟩; replace BK101 := bkbf21 BK101 yq44 hb; replace BK102 := bkbf21 BK102 yq53 hb; replace HB := Qz.mk (qj yq52 hb); (try clear hb); have hcz14_0 := (qa BK101.out 0).trans rfl; have hcz14_1 := (qa BK101.out 1).trans rfl; have hcz14_2 := (qa BK101.out 2).trans rfl; have hcz14_3 := (qa BK101.out 3).trans rfl; have hfz14_0 := qd BK101.out 0; have hfz14_1 := qd BK101.out 1; have hfz14_2 := qd BK101.out 2; have hfz14_3 := qd BK101.out 3; have hcz15_0 := (qa BK102.out 0).trans rfl; have hcz15_1 := (qa BK102.out 1).trans rfl; have hcz15_2 := (qa BK102.out 2).trans rfl; have hcz15_3 := (qa BK102.out 3).trans rfl; have hfz15_0 := qd BK102.out 0; have hfz15_1 := qd BK102.out 1; have hfz15_2 := qd BK102.out 2; have hfz15_3 := qd BK102.out 3))
     go_ret
     exact ⟨by first | rfl | (simp [qn, qm] <;> rfl) | (simp [*, qn, qm] <;> rfl), by repeat (first | (with_reducible first | exact HB.out | apply qi | apply qb | apply qh | refine qc ?_ GE101.out | refine qc ?_ GE102.out) | exact HB.out)⟩
    ·rw [if_neg c7] at H
     have c7b0 : (a0_3 == a1_3) = false := beq_eq_false_iff_ne.mpr c7
     have c7b1 : (a0_3 != a1_3) = true := bne_iff_ne.mpr c7
     obtain rfl := Option.some.inj H
     go_enter Try.func21, Try.ntmps21
     go_wp2_with (first | ((with_reducible refine qt (N := 2) rfl ?_); refine qr ?hg (N := 2) ?hd (cs := #[.slice A0_0 l0_0.length c0_0, .int .i64 a0_1, .int .i64 a0_2, .int .i64 a0_3]) (t := 32) ?hr ?_; (case hd => rfl); (case hg => rfl); (case hr => exact yq54); intro gb101 hg w16 hbox hb; have BK101 := Qz.mk (hbox); have GW101 := Qz.mk ((by rw [hg]; exact (ql yq46) : w.heap.size ≤ gb101)); have GE101 := GW101; replace HB := Qz.mk (qj yq46 hb); clear hb hbox hg) | ((with_reducible refine qt (N := 3) rfl ?_); refine qr ?hg (N := 3) ?hd (cs := #[.slice A1_0 l1_0.length c1_0, .int .i64 a1_1, .int .i64 a1_2, .int .i64 a1_3]) (t := 32) ?hr ?_; (case hd => rfl); (case hg => rfl); (case hr => exact yq54); intro gb102 hg w17 hbox hb; have BK102 := Qz.mk (hbox); have GW102 := Qz.mk ((by rw [hg]; exact (ql yq45) : w.heap.size ≤ gb102)); have GE102 := GW102; replace HB := Qz.mk (qj yq45 hb); have NB101_102 := Qz.mk ((yq50 : gb101 ≠ gb102)); have NB102_101 := Qz.mk ((yq51 : gb102 ≠ gb101)); replace BK101 := bkbf21 BK101 yq44 hb; clear hb hbox hg; have hnb18 := NB101_102.out; have hnc18 := NB102_101.out; have hcz19_0 := (qa BK101.out 0).trans rfl; have hcz19_1 := (qa BK101.out 1).trans rfl; have hcz19_2 := (qa BK101.out 2).trans rfl; have hcz19_3 := (qa BK101.out 3).trans rfl; have hfz19_0 := qd BK101.out 0; have hfz19_1 := qd BK101.out 1; have hfz19_2 := qd BK101.out 2; have hfz19_3 := qd BK101.out 3; have hcz20_0 := (qa BK102.out 0).trans rfl; have hcz20_1 := (qa BK102.out 1).trans rfl; have hcz20_2 := (qa BK102.out 2).trans rfl; have hcz20_3 := (qa BK102.out 3).trans rfl; have hfz20_0 := qd BK102.out 0; have hfz20_1 := qd BK102.out 1; have hfz20_2 := qd BK102.out 2; have hfz20_3 := qd BK102.out 3) | ((with_reducible refine qo (f := 60) rfl ?_); refine goesL_ (some 9) rfl rfl Try.func60 (by kernel_rfl) rfl #[.slice A0_0 l0_0.length c0_0, .slice A1_0 l1_0.length c1_0] rfl yq47 ?_; (with_reducible refine (laws_eqMetaS.calls k _ _ l0_0 _ _ l1_0 true _ ?side1 ?side2 ?side3 ?side4 A3.out).mono ?_); (case side1 => exact yq49); (case side2 => exact HC0_0.out); (case side3 => exact yq48); (case side4 => exact HC1_0.out); rintro e w21 ⟨rfl, hb⟩; refine ⟨_, rfl, ?_⟩; replace BK101 := bkbf21 BK101 yq44 hb; replace BK102 := bkbf21 BK102 yq53 hb; replace HB := Qz.mk (qj yq52 hb); (try clear hb); have hcz22_0 := (qa BK101.out 0).trans rfl; have hcz22_1 := (qa BK101.out 1).trans rfl; have hcz22_2 := (qa BK101.out 2).trans rfl; have hcz22_3 := (qa BK101.out 3).trans rfl; have hfz22_0 := qd BK101.out 0; have hfz22_1 := qd BK101.out 1; have hfz22_2 := qd BK101.out 2; have hfz22_3 := qd BK101.out 3; have hcz23_0 := (qa BK102.out 0).trans rfl; have hcz23_1 := (qa BK102.out 1).trans rfl; have hcz23_2 := (qa BK102.out 2).trans rfl; have hcz23_3 := (qa BK102.out 3).trans rfl; have hfz23_0 := qd BK102.out 0; have hfz23_1 := qd BK102.out 1; have hfz23_2 := qd BK102.out 2; have hfz23_3 := qd BK102.out 3))
     go_ret
     exact ⟨by first | rfl | (simp [qn, qm] <;> rfl) | (simp [*, qn, qm] <;> rfl), by repeat (first | (with_reducible first | exact HB.out | apply qi | apply qb | apply qh | refine qc ?_ GE101.out | refine qc ?_ GE102.out) | exact HB.out)⟩
   ·rw [if_neg c6] at H
    have c6b0 : (a0_2 == a1_2) = false := beq_eq_false_iff_ne.mpr c6
    have c6b1 : (a0_2 != a1_2) = true := bne_iff_ne.mpr c6
    obtain rfl := Option.some.inj H
    go_enter Try.func21, Try.ntmps21
    go_wp2_with (first | ((with_reducible refine qt (N := 2) rfl ?_); refine qr ?hg (N := 2) ?hd (cs := #[.slice A0_0 l0_0.length c0_0, .int .i64 a0_1, .int .i64 a0_2, .int .i64 a0_3]) (t := 32) ?hr ?_; (case hd => rfl); (case hg => rfl); (case hr => exact yq54); intro gb101 hg w24 hbox hb; have BK101 := Qz.mk (hbox); have GW101 := Qz.mk ((by rw [hg]; exact (ql yq46) : w.heap.size ≤ gb101)); have GE101 := GW101; replace HB := Qz.mk (qj yq46 hb); clear hb hbox hg) | ((with_reducible refine qt (N := 3) rfl ?_); refine qr ?hg (N := 3) ?hd (cs := #[.slice A1_0 l1_0.length c1_0, .int .i64 a1_1, .int .i64 a1_2, .int .i64 a1_3]) (t := 32) ?hr ?_; (case hd => rfl); (case hg => rfl); (case hr => exact yq54); intro gb102 hg w25 hbox hb; have BK102 := Qz.mk (hbox); have GW102 := Qz.mk ((by rw [hg]; exact (ql yq45) : w.heap.size ≤ gb102)); have GE102 := GW102; replace HB := Qz.mk (qj yq45 hb); have NB101_102 := Qz.mk ((yq50 : gb101 ≠ gb102)); have NB102_101 := Qz.mk ((yq51 : gb102 ≠ gb101)); replace BK101 := bkbf21 BK101 yq44 hb; clear hb hbox hg; have hnb26 := NB101_102.out; have hnc26 := NB102_101.out; have hcz27_0 := (qa BK101.out 0).trans rfl; have hcz27_1 := (qa BK101.out 1).trans rfl; have hcz27_2 := (qa BK101.out 2).trans rfl; have hcz27_3 := (qa BK101.out 3).trans rfl; have hfz27_0 := qd BK101.out 0; have hfz27_1 := qd BK101.out 1; have hfz27_2 := qd BK101.out 2; have hfz27_3 := qd BK101.out 3; have hcz28_0 := (qa BK102.out 0).trans rfl; have hcz28_1 := (qa BK102.out 1).trans rfl; have hcz28_2 := (qa BK102.out 2).trans rfl; have hcz28_3 := (qa BK102.out 3).trans rfl; have hfz28_0 := qd BK102.out 0; have hfz28_1 := qd BK102.out 1; have hfz28_2 := qd BK102.out 2; have hfz28_3 := qd BK102.out 3) | ((with_reducible refine qo (f := 60) rfl ?_); refine goesL_ (some 9) rfl rfl Try.func60 (by kernel_rfl) rfl #[.slice A0_0 l0_0.length c0_0, .slice A1_0 l1_0.length c1_0] rfl yq47 ?_; (with_reducible refine (laws_eqMetaS.calls k _ _ l0_0 _ _ l1_0 true _ ?side1 ?side2 ?side3 ?side4 A3.out).mono ?_); (case side1 => exact yq49); (case side2 => exact HC0_0.out); (case side3 => exact yq48); (case side4 => exact HC1_0.out); rintro e w29 ⟨rfl, hb⟩; refine ⟨_, rfl, ?_⟩; replace BK101 := bkbf21 BK101 yq44 hb; replace BK102 := bkbf21 BK102 yq53 hb; replace HB := Qz.mk (qj yq52 hb); (try clear hb); have hcz30_0 := (qa BK101.out 0).trans rfl; have hcz30_1 := (qa BK101.out 1).trans rfl; have hcz30_2 := (qa BK101.out 2).trans rfl; have hcz30_3 := (qa BK101.out 3).trans rfl; have hfz30_0 := qd BK101.out 0; have hfz30_1 := qd BK101.out 1; have hfz30_2 := qd BK101.out 2; have hfz30_3 := qd BK101.out 3; have hcz31_0 := (qa BK102.out 0).trans rfl; have hcz31_1 := (qa BK102.out 1).trans rfl; have hcz31_2 := (qa BK102.out 2).trans rfl; have hcz31_3 := (qa BK102.out 3).trans rfl; have hfz31_0 := qd BK102.out 0; have hfz31_1 := qd BK102.out 1; have hfz31_2 := qd BK102.out 2; have hfz31_3 := qd BK102.out 3))
    go_ret
    exact ⟨by first | rfl | (simp [qn, qm] <;> rfl) | (simp [*, qn, qm] <;> rfl), by repeat (first | (with_reducible first | exact HB.out | apply qi | apply qb | apply qh | refine qc ?_ GE101.out | refine qc ?_ GE102.out) | exact HB.out)⟩
  ·rw [if_neg c5] at H
   have c5b0 : (a0_1 == a1_1) = false := beq_eq_false_iff_ne.mpr c5
   have c5b1 : (a0_1 != a1_1) = true := bne_iff_ne.mpr c5
   obtain rfl := Option.some.inj H
   go_enter Try.func21, Try.ntmps21
   go_wp2_with (first | ((with_reducible refine qt (N := 2) rfl ?_); refine qr ?hg (N := 2) ?hd (cs := #[.slice A0_0 l0_0.length c0_0, .int .i64 a0_1, .int .i64 a0_2, .int .i64 a0_3]) (t := 32) ?hr ?_; (case hd => rfl); (case hg => rfl); (case hr => exact yq54); intro gb101 hg w32 hbox hb; have BK101 := Qz.mk (hbox); have GW101 := Qz.mk ((by rw [hg]; exact (ql yq46) : w.heap.size ≤ gb101)); have GE101 := GW101; replace HB := Qz.mk (qj yq46 hb); clear hb hbox hg) | ((with_reducible refine qt (N := 3) rfl ?_); refine qr ?hg (N := 3) ?hd (cs := #[.slice A1_0 l1_0.length c1_0, .int .i64 a1_1, .int .i64 a1_2, .int .i64 a1_3]) (t := 32) ?hr ?_; (case hd => rfl); (case hg => rfl); (case hr => exact yq54); intro gb102 hg w33 hbox hb; have BK102 := Qz.mk (hbox); have GW102 := Qz.mk ((by rw [hg]; exact (ql yq45) : w.heap.size ≤ gb102)); have GE102 := GW102; replace HB := Qz.mk (qj yq45 hb); have NB101_102 := Qz.mk ((yq50 : gb101 ≠ gb102)); have NB102_101 := Qz.mk ((yq51 : gb102 ≠ gb101)); replace BK101 := bkbf21 BK101 yq44 hb; clear hb hbox hg; have hnb34 := NB101_102.out; have hnc34 := NB102_101.out; have hcz35_0 := (qa BK101.out 0).trans rfl; have hcz35_1 := (qa BK101.out 1).trans rfl; have hcz35_2 := (qa BK101.out 2).trans rfl; have hcz35_3 := (qa BK101.out 3).trans rfl; have hfz35_0 := qd BK101.out 0; have hfz35_1 := qd BK101.out 1; have hfz35_2 := qd BK101.out 2; have hfz35_3 := qd BK101.out 3; have hcz36_0 := (qa BK102.out 0).trans rfl; have hcz36_1 := (qa BK102.out 1).trans rfl; have hcz36_2 := (qa BK102.out 2).trans rfl; have hcz36_3 := (qa BK102.out 3).trans rfl; have hfz36_0 := qd BK102.out 0; have hfz36_1 := qd BK102.out 1; have hfz36_2 := qd BK102.out 2; have hfz36_3 := qd BK102.out 3) | ((with_reducible refine qo (f := 60) rfl ?_); refine goesL_ (some 9) rfl rfl Try.func60 (by kernel_rfl) rfl #[.slice A0_0 l0_0.length c0_0, .slice A1_0 l1_0.length c1_0] rfl yq47 ?_; (with_reducible refine (laws_eqMetaS.calls k _ _ l0_0 _ _ l1_0 true _ ?side1 ?side2 ?side3 ?side4 A3.out).mono ?_); (case side1 => exact yq49); (case side2 => exact HC0_0.out); (case side3 => exact yq48); (case side4 => exact HC1_0.out); rintro e w37 ⟨rfl, hb⟩; refine ⟨_, rfl, ?_⟩; replace BK101 := bkbf21 BK101 yq44 hb; replace BK102 := bkbf21 BK102 yq53 hb; replace HB := Qz.mk (qj yq52 hb); (try clear hb); have hcz38_0 := (qa BK101.out 0).trans rfl; have hcz38_1 := (qa BK101.out 1).trans rfl; have hcz38_2 := (qa BK101.out 2).trans rfl; have hcz38_3 := (qa BK101.out 3).trans rfl; have hfz38_0 := qd BK101.out 0; have hfz38_1 := qd BK101.out 1; have hfz38_2 := qd BK101.out 2; have hfz38_3 := qd BK101.out 3; have hcz39_0 := (qa BK102.out 0).trans rfl; have hcz39_1 := (qa BK102.out 1).trans rfl; have hcz39_2 := (qa BK102.out 2).trans rfl; have hcz39_3 := (qa BK102.out 3).trans rfl; have hfz39_0 := qd BK102.out 0; have hfz39_1 := qd BK102.out 1; have hfz39_2 := qd BK102.out 2; have hfz39_3 := qd BK102.out 3))
   go_ret
   exact ⟨by first | rfl | (simp [qn, qm] <;> rfl) | (simp [*, qn, qm] <;> rfl), by repeat (first | (with_reducible first | exact HB.out | apply qi | apply qb | apply qh | refine qc ?_ GE101.out | refine qc ?_ GE102.out) | exact HB.out)⟩
 ·replace c4 := Bool.eq_false_iff.mpr c4
  subst c4
  have H1 : (some false) = some r := by rw [if_neg (show ¬ (false = true) by decide)] at H; exact H
  clear H
  have H := H1
  clear H1
  obtain rfl := Option.some.inj H
  go_enter Try.func21, Try.ntmps21
  go_wp2_with (first | ((with_reducible refine qt (N := 2) rfl ?_); refine qr ?hg (N := 2) ?hd (cs := #[.slice A0_0 l0_0.length c0_0, .int .i64 a0_1, .int .i64 a0_2, .int .i64 a0_3]) (t := 32) ?hr ?_; (case hd => rfl); (case hg => rfl); (case hr => exact yq54); intro gb101 hg w40 hbox hb; have BK101 := Qz.mk (hbox); have GW101 := Qz.mk ((by rw [hg]; exact (ql yq46) : w.heap.size ≤ gb101)); have GE101 := GW101; replace HB := Qz.mk (qj yq46 hb); clear hb hbox hg) | ((with_reducible refine qt (N := 3) rfl ?_); refine qr ?hg (N := 3) ?hd (cs := #[.slice A1_0 l1_0.length c1_0, .int .i64 a1_1, .int .i64 a1_2, .int .i64 a1_3]) (t := 32) ?hr ?_; (case hd => rfl); (case hg => rfl); (case hr => exact yq54); intro gb102 hg w41 hbox hb; have BK102 := Qz.mk (hbox); have GW102 := Qz.mk ((by rw [hg]; exact (ql yq45) : w.heap.size ≤ gb102)); have GE102 := GW102; replace HB := Qz.mk (qj yq45 hb); have NB101_102 := Qz.mk ((yq50 : gb101 ≠ gb102)); have NB102_101 := Qz.mk ((yq51 : gb102 ≠ gb101)); replace BK101 := bkbf21 BK101 yq44 hb; clear hb hbox hg; have hnb42 := NB101_102.out; have hnc42 := NB102_101.out; have hcz43_0 := (qa BK101.out 0).trans rfl; have hcz43_1 := (qa BK101.out 1).trans rfl; have hcz43_2 := (qa BK101.out 2).trans rfl; have hcz43_3 := (qa BK101.out 3).trans rfl; have hfz43_0 := qd BK101.out 0; have hfz43_1 := qd BK101.out 1; have hfz43_2 := qd BK101.out 2; have hfz43_3 := qd BK101.out 3; have hcz44_0 := (qa BK102.out 0).trans rfl; have hcz44_1 := (qa BK102.out 1).trans rfl; have hcz44_2 := (qa BK102.out 2).trans rfl; have hcz44_3 := (qa BK102.out 3).trans rfl; have hfz44_0 := qd BK102.out 0; have hfz44_1 := qd BK102.out 1; have hfz44_2 := qd BK102.out 2; have hfz44_3 := qd BK102.out 3) | ((with_reducible refine qo (f := 60) rfl ?_); refine goesL_ (some 9) rfl rfl Try.func60 (by kernel_rfl) rfl #[.slice A0_0 l0_0.length c0_0, .slice A1_0 l1_0.length c1_0] rfl yq47 ?_; (with_reducible refine (laws_eqMetaS.calls k _ _ l0_0 _ _ l1_0 false _ ?side1 ?side2 ?side3 ?side4 A3.out).mono ?_); (case side1 => exact yq49); (case side2 => exact HC0_0.out); (case side3 => exact yq48); (case side4 => exact HC1_0.out); rintro e w45 ⟨rfl, hb⟩; refine ⟨_, rfl, ?_⟩; replace BK101 := bkbf21 BK101 yq44 hb; replace BK102 := bkbf21 BK102 yq53 hb; replace HB := Qz.mk (qj yq52 hb); (try clear hb)))
  go_ret
  exact ⟨by first | rfl | (simp [qn, qm] <;> rfl) | (simp [*, qn, qm] <;> rfl), by repeat (first | (with_reducible first | exact HB.out | apply qi | apply qb | apply qh | refine qc ?_ GE101.out | refine qc ?_ GE102.out) | exact HB.out)⟩
theorem yq55 {P : Prop} (h : P := by first | (with_reducible assumption) | assumption) : P := h
def laws_eqInt64S.l0 : Nat → List Int → List Int → Int → Option (Bool)
 | 0, _, _, _ => none
 | k + 1, x0, x1, x5 => if x5 < (x0.length : Int) then (if 0 ≤ x5 then (if x5 < (x1.length : Int) then (if (rd x0 x5) = (rd x1 x5) then (laws_eqInt64S.l0 k x0 x1 (wrap64 (x5 + 1))) else (some false)) else (none)) else (none)) else (some true)
def laws_eqInt64S.f (k : Nat) (l0 : List Int) (l1 : List Int) : Option (Bool) := if (l0.length : Int) = (l1.length : Int) then (laws_eqInt64S.l0 k l0 l1 0) else (some false)
set_option maxHeartbeats 8000000 in
set_option maxRecDepth 100000 in
theorem laws_eqInt64S.calls (k : Nat) (A0 : Option Addr) (c0 : Nat) (l0 : List Int) (A1 : Option Addr) (c1 : Nat) (l1 : List Int) (r : Bool) (w : World) (hr0 : Kd.C (Kd.int .i64) w A0 l0.length l0) (hc0 : l0.length ≤ c0) (hr1 : Kd.C (Kd.int .i64) w A1 l1.length l1) (hc1 : l1.length ≤ c1) (h : laws_eqInt64S.f k l0 l1 = some r) :
  Calls Try.prog 44 #[.slice A0 l0.length c0, .slice A1 l1.length c1] w fun e w' => e = .returned (.bool r) ∧ Drawn0 w w' := by
 have HR0 := Qz.mk hr0
 have HC0 := Qz.mk hc0
 clear hr0 hc0
 have HR1 := Qz.mk hr1
 have HC1 := Qz.mk hc1
 clear hr1 hc1
 have H : (if (l0.length : Int) = (l1.length : Int) then (laws_eqInt64S.l0 k l0 l1 0) else (some false)) = some r := h
 clear h
 by_cases c3 : (l0.length : Int) = (l1.length : Int)
 ·rw [if_pos c3] at H
  have c3b0 : ((l0.length : Int) == (l1.length : Int)) = true := beq_iff_eq.mpr c3
  have c3b1 : ((l0.length : Int) != (l1.length : Int)) = false := bne_eq_false_iff_eq.mpr c3
  have c3b2 : (l0.length == l1.length) = true := by first | simpa using c3 | (simp at c3 ⊢; omega)
  clear c3
  have H' := Qz.mk H
  clear H
  go_enter Try.func44, Try.ntmps44
  go_wp2
  repeat (go_quiet (fail); try go_wp2)
  go_loopg [5] k (fun kq v5 w' => ∃ (x5_1 : Int), v5 = .int .i64 x5_1 ∧ Qz (laws_eqInt64S.l0 kq l0 l1 x5_1 = some r) ∧ Qz (kq ≤ k) ∧ Drawn0 w w')
  case atStart => exact ⟨(0), (by first | rfl | (simp; done) | (simp [*]; done)), H', ⟨Nat.le_refl _⟩, by repeat (first | exact Drawn0.refl _ | apply Drawn0.step)⟩
  case round =>
   clear H'
   (try clear c1);(try clear p2);(try clear c3);(try clear c3b0);(try clear c3b1);(try clear c3b2)
   obtain ⟨x5_1, rfl, HA, HK1, ⟨m1, rfl⟩⟩ := hrel
   cases gk with
   | zero => exact absurd HA.out (by simp [laws_eqInt64S.l0])
   | succ k1 =>
    have H := HA.out
    clear HA
    simp only [laws_eqInt64S.l0] at H
    by_cases c4 : x5_1 < (l0.length : Int)
    ·rw [if_pos c4] at H
     have c4b0 : decide (x5_1 < (l0.length : Int)) = true := decide_eq_true c4
     clear c4
     by_cases c5 : 0 ≤ x5_1
     ·rw [if_pos c5] at H
      have c5b0 : decide (0 ≤ x5_1) = true := decide_eq_true c5
      clear c5
      by_cases c6 : x5_1 < (l1.length : Int)
      ·rw [if_pos c6] at H
       have c6b0 : decide (x5_1 < (l1.length : Int)) = true := decide_eq_true c6
       clear c6
       by_cases c7 : (rd l0 x5_1) = (rd l1 x5_1)
       ·rw [if_pos c7] at H
        have c7b0 : ((rd l0 x5_1) == (rd l1 x5_1)) = true := beq_iff_eq.mpr c7
        have c7b1 : ((rd l0 x5_1) != (rd l1 x5_1)) = false := bne_eq_false_iff_eq.mpr c7
        clear c7
        have H' := Qz.mk H
        clear H
        have p101 : 0 ≤ (x5_1 : Int) := of_decide_eq_true yq55
        have q101 : x5_1 < (l0.length : Int) := of_decide_eq_true yq55
        obtain ⟨ad101, e101, hx101_0⟩ := Kd.at_int HR0.out x5_1 p101 q101
        cases e101
        replace p101 := eq_true p101
        replace q101 := eq_true q101
        have p102 : 0 ≤ (x5_1 : Int) := of_decide_eq_true yq55
        have q102 : x5_1 < (l1.length : Int) := of_decide_eq_true yq55
        obtain ⟨ad102, e102, hx102_0⟩ := Kd.at_int HR1.out x5_1 p102 q102
        cases e102
        replace p102 := eq_true p102
        replace q102 := eq_true q102
        go_wp2
        repeat (go_quiet (fail); try go_wp2)
        go_roundg k1
        case measure => have := HK1.out; omega
        case rel => exact ⟨(wrap64 (x5_1 + 1)), (by first | rfl | (simp; done) | (simp [*]; done)), H', ⟨by have := HK1.out; omega⟩, by repeat (first | exact Drawn0.refl _ | apply Drawn0.step)⟩
       ·rw [if_neg c7] at H
        have c7b0 : ((rd l0 x5_1) == (rd l1 x5_1)) = false := beq_eq_false_iff_ne.mpr c7
        have c7b1 : ((rd l0 x5_1) != (rd l1 x5_1)) = true := bne_iff_ne.mpr c7
        obtain rfl := Option.some.inj H
        have p101 : 0 ≤ (x5_1 : Int) := of_decide_eq_true yq55
        have q101 : x5_1 < (l0.length : Int) := of_decide_eq_true yq55
        obtain ⟨ad101, e101, hx101_0⟩ := Kd.at_int HR0.out x5_1 p101 q101
        cases e101
        replace p101 := eq_true p101
        replace q101 := eq_true q101
        have p102 : 0 ≤ (x5_1 : Int) := of_decide_eq_true yq55
        have q102 : x5_1 < (l1.length : Int) := of_decide_eq_true yq55
        obtain ⟨ad102, e102, hx102_0⟩ := Kd.at_int HR1.out x5_1 p102 q102
        cases e102
        replace p102 := eq_true p102
        replace q102 := eq_true q102
        go_wp2
        repeat (go_quiet (fail); try go_wp2)
        go_ret
        exact ⟨by first | rfl | (simp; done) | (simp [*]; done), by repeat (first | exact Drawn0.refl _ | apply Drawn0.step)⟩
      ·rw [if_neg c6] at H
       exact absurd H (by simp)
     ·rw [if_neg c5] at H
      exact absurd H (by simp)
    ·rw [if_neg c4] at H
     have c4b0 : decide (x5_1 < (l0.length : Int)) = false := decide_eq_false c4
     clear c4
     obtain rfl := Option.some.inj H
     go_wp2
     repeat (go_quiet (fail); try go_wp2)
     go_ret
     exact ⟨by first | rfl | (simp; done) | (simp [*]; done), by repeat (first | exact Drawn0.refl _ | apply Drawn0.step)⟩
 ·rw [if_neg c3] at H
  have c3b0 : ((l0.length : Int) == (l1.length : Int)) = false := beq_eq_false_iff_ne.mpr c3
  have c3b1 : ((l0.length : Int) != (l1.length : Int)) = true := bne_iff_ne.mpr c3
  have c3b2 : (l0.length == l1.length) = false := by first | simpa using c3 | (simp at c3 ⊢; omega)
  obtain rfl := Option.some.inj H
  go_enter Try.func44, Try.ntmps44
  go_wp2
  repeat (go_quiet (fail); try go_wp2)
  go_ret
  exact ⟨by first | rfl | (simp; done) | (simp [*]; done), by repeat (first | exact Drawn0.refl _ | apply Drawn0.step)⟩
theorem yq56 {P : Prop} (h : P := by (with_reducible repeat (first | refine qf ?_ _ | refine qg ?_ | refine qe ?_ _)); exact BK101.out) : P := h
theorem yq57 {P : Prop} (h : P := by (try simp only [List.map_toArray, List.map_cons, List.map_nil]); first | done | rfl | (simp only [List.length_drop, List.length_take]; rfl) | (rw [IntWalk.u64_in _ (by omega)] <;> rfl)) : P := h
theorem yq58 {P : Prop} (h : P := by repeat (first | (with_reducible first | exact HB.out | apply qi | apply qb | apply qh | refine qc ?_ GE101.out) | exact HB.out)) : P := h
theorem yq59 {P : Prop} (h : P := by repeat (first | (with_reducible first | exact HB.out | apply qi | apply qb | apply qh) | exact HB.out)) : P := h
theorem yq60 {P : Prop} (h : P := by rw [hg]; exact Nat.ne_of_lt (qq (g := gb101) (o := .cells #[.slice A0_0 l0_0.length c0_0, .slice A0_1 l0_1.length c0_1, .int .i64 a0_2, .int .i64 a0_3, .int .i64 a0_4] 37 (0, 0)) yq56)) : P := h
theorem yq61 {P : Prop} (h : P := by rw [hg]; exact Nat.ne_of_gt (qq (g := gb101) (o := .cells #[.slice A0_0 l0_0.length c0_0, .slice A0_1 l0_1.length c0_1, .int .i64 a0_2, .int .i64 a0_3, .int .i64 a0_4] 37 (0, 0)) yq56)) : P := h
theorem yq62 {P : Prop} (h : P := by repeat (first | exact (Kd.C_below HR1_0.out HB.out) | (with_reducible refine Kd.C_alloc ?_ _) | (with_reducible refine Kd.C_drewN ?_ _) | (with_reducible refine Kd.C_drew ?_))) : P := h
theorem yq63 {P : Prop} (h : P := by repeat (first | exact (Kd.C_below HR0_0.out HB.out) | (with_reducible refine Kd.C_alloc ?_ _) | (with_reducible refine Kd.C_drewN ?_ _) | (with_reducible refine Kd.C_drew ?_))) : P := h
theorem yq64 {P : Prop} (h : P := by repeat (first | (with_reducible first | exact HB.out | apply qi | apply qb | apply qh | refine qc ?_ GE101.out | refine qc ?_ GE102.out) | exact HB.out)) : P := h
theorem yq65 {P : Prop} (h : P := by repeat (first | exact (Kd.C_below HR1_1.out HB.out) | (with_reducible refine Kd.C_alloc ?_ _) | (with_reducible refine Kd.C_drewN ?_ _) | (with_reducible refine Kd.C_drew ?_))) : P := h
theorem yq66 {P : Prop} (h : P := by repeat (first | exact (Kd.C_below HR0_1.out HB.out) | (with_reducible refine Kd.C_alloc ?_ _) | (with_reducible refine Kd.C_drewN ?_ _) | (with_reducible refine Kd.C_drew ?_))) : P := h
theorem yq67 {P : Prop} (h : P := by (with_reducible repeat (first | refine qf ?_ _ | refine qg ?_ | refine qe ?_ _)); exact BK102.out) : P := h
theorem yq68 {P : Prop} (h : P := by first | (go_simp; done) | (go_simp; rfl)) : P := h
theorem bkbf22 {w0 W W2 : World} {g : Nat} {o : Obj} (_ : Qz (w0.heap[g]? = some o)) (h : W.heap[g]? = some o) (hb : Below W.heap.size W W2) : Qz (W2.heap[g]? = some o) := Qz.mk (qp h hb)
def laws_eqEdit.f (k : Nat) (l0_0 : List (S66)) (l0_1 : List Int) (a0_2 : Int) (a0_3 : Int) (a0_4 : Int) (l1_0 : List (S66)) (l1_1 : List Int) (a1_2 : Int) (a1_3 : Int) (a1_4 : Int) : Option (Bool) := (laws_eqMetaS.f k l0_0 l1_0).bind fun t103 => (if t103 = true then ((laws_eqInt64S.f k l0_1 l1_1).bind fun t104 => (if t104 = true then (if a0_2 = a1_2 then (if a0_3 = a1_3 then (if a0_4 = a1_4 then (some true) else (some false)) else (some false)) else (some false)) else (some false))) else (some false))
set_option maxHeartbeats 8000000 in
set_option maxRecDepth 100000 in
theorem laws_eqEdit.calls (k : Nat) (A0_0 : Option Addr) (c0_0 : Nat) (l0_0 : List (S66)) (A0_1 : Option Addr) (c0_1 : Nat) (l0_1 : List Int) (a0_2 : Int) (a0_3 : Int) (a0_4 : Int) (A1_0 : Option Addr) (c1_0 : Nat) (l1_0 : List (S66)) (A1_1 : Option Addr) (c1_1 : Nat) (l1_1 : List Int) (a1_2 : Int) (a1_3 : Int) (a1_4 : Int) (r : Bool) (w : World) (hr0_0 : Kd.C k66 w A0_0 l0_0.length l0_0) (hc0_0 : l0_0.length ≤ c0_0) (hr0_1 : Kd.C (Kd.int .i64) w A0_1 l0_1.length l0_1) (hc0_1 : l0_1.length ≤ c0_1) (hr1_0 : Kd.C k66 w A1_0 l1_0.length l1_0) (hc1_0 : l1_0.length ≤ c1_0) (hr1_1 : Kd.C (Kd.int .i64) w A1_1 l1_1.length l1_1) (hc1_1 : l1_1.length ≤ c1_1) (h : laws_eqEdit.f k l0_0 l0_1 a0_2 a0_3 a0_4 l1_0 l1_1 a1_2 a1_3 a1_4 = some r) :
  Calls Try.prog 22 #[.agg #[.slice A0_0 l0_0.length c0_0, .slice A0_1 l0_1.length c0_1, .int .i64 a0_2, .int .i64 a0_3, .int .i64 a0_4], .agg #[.slice A1_0 l1_0.length c1_0, .slice A1_1 l1_1.length c1_1, .int .i64 a1_2, .int .i64 a1_3, .int .i64 a1_4]] w fun e w' => e = .returned (.bool r) ∧ Below w.heap.size w w' := by
 have hu37 := Try.underlying37
 have HR0_0 := Qz.mk hr0_0
 have HC0_0 := Qz.mk hc0_0
 clear hr0_0 hc0_0
 have HR0_1 := Qz.mk hr0_1
 have HC0_1 := Qz.mk hc0_1
 clear hr0_1 hc0_1
 have HR1_0 := Qz.mk hr1_0
 have HC1_0 := Qz.mk hc1_0
 clear hr1_0 hc1_0
 have HR1_1 := Qz.mk hr1_1
 have HC1_1 := Qz.mk hc1_1
 clear hr1_1 hc1_1
 have HB := Qz.mk (Below.refl w.heap.size w)
 have H : ((laws_eqMetaS.f k l0_0 l1_0).bind fun t103 => (if t103 = true then ((laws_eqInt64S.f k l0_1 l1_1).bind fun t104 => (if t104 = true then (if a0_2 = a1_2 then (if a0_3 = a1_3 then (if a0_4 = a1_4 then (some true) else (some false)) else (some false)) else (some false)) else (some false))) else (some false))) = some r := h
 clear h
 replace H := Option.bind_eq_some_iff.mp H
 obtain ⟨t103, A30, H⟩ := H
 replace H : (if t103 = true then ((laws_eqInt64S.f k l0_1 l1_1).bind fun t104 => (if t104 = true then (if a0_2 = a1_2 then (if a0_3 = a1_3 then (if a0_4 = a1_4 then (some true) else (some false)) else (some false)) else (some false)) else (some false))) else (some false)) = some r := H
 have A3 := Qz.mk A30
 clear A30
 by_cases c4 : t103 = true
 ·subst c4
  have H1 : ((laws_eqInt64S.f k l0_1 l1_1).bind fun t104 => (if t104 = true then (if a0_2 = a1_2 then (if a0_3 = a1_3 then (if a0_4 = a1_4 then (some true) else (some false)) else (some false)) else (some false)) else (some false))) = some r := by rw [if_pos rfl] at H; exact H
  clear H
  have H := H1
  clear H1
  replace H := Option.bind_eq_some_iff.mp H
  obtain ⟨t104, A50, H⟩ := H
  replace H : (if t104 = true then (if a0_2 = a1_2 then (if a0_3 = a1_3 then (if a0_4 = a1_4 then (some true) else (some false)) else (some false)) else (some false)) else (some false)) = some r := H
  have A5 := Qz.mk A50
  clear A50
  by_cases c6 : t104 = true
  ·subst c6
   have H1 : (if a0_2 = a1_2 then (if a0_3 = a1_3 then (if a0_4 = a1_4 then (some true) else (some false)) else (some false)) else (some false)) = some r := by rw [if_pos rfl] at H; exact H
   clear H
   have H := H1
   clear H1
   by_cases c7 : a0_2 = a1_2
   ·rw [if_pos c7] at H
    have c7b0 : (a0_2 == a1_2) = true := beq_iff_eq.mpr c7
    have c7b1 : (a0_2 != a1_2) = false := bne_eq_false_iff_eq.mpr c7
    clear c7
    by_cases c8 : a0_3 = a1_3
    ·rw [if_pos c8] at H
     have c8b0 : (a0_3 == a1_3) = true := beq_iff_eq.mpr c8
     have c8b1 : (a0_3 != a1_3) = false := bne_eq_false_iff_eq.mpr c8
     clear c8
     by_cases c9 : a0_4 = a1_4
     ·rw [if_pos c9] at H
      have c9b0 : (a0_4 == a1_4) = true := beq_iff_eq.mpr c9
      have c9b1 : (a0_4 != a1_4) = false := bne_eq_false_iff_eq.mpr c9
      clear c9
      obtain rfl := Option.some.inj H
      go_enter Try.func22, Try.ntmps22
      go_wp2_with (first | ((with_reducible refine qt (N := 2) rfl ?_); refine qr ?hg (N := 2) ?hd (cs := #[.slice A0_0 l0_0.length c0_0, .slice A0_1 l0_1.length c0_1, .int .i64 a0_2, .int .i64 a0_3, .int .i64 a0_4]) (t := 37) ?hr ?_; (case hd => rfl); (case hg => rfl); (case hr => exact yq68); intro gb101 hg w10 hbox hb; have BK101 := Qz.mk (hbox); have GW101 := Qz.mk ((by rw [hg]; exact (ql yq59) : w.heap.size ≤ gb101)); have GE101 := GW101; replace HB := Qz.mk (qj yq59 hb); clear hb hbox hg) | ((with_reducible refine qt (N := 3) rfl ?_); refine qr ?hg (N := 3) ?hd (cs := #[.slice A1_0 l1_0.length c1_0, .slice A1_1 l1_1.length c1_1, .int .i64 a1_2, .int .i64 a1_3, .int .i64 a1_4]) (t := 37) ?hr ?_; (case hd => rfl); (case hg => rfl); (case hr => exact yq68); intro gb102 hg w11 hbox hb; have BK102 := Qz.mk (hbox); have GW102 := Qz.mk ((by rw [hg]; exact (ql yq58) : w.heap.size ≤ gb102)); have GE102 := GW102; replace HB := Qz.mk (qj yq58 hb); have NB101_102 := Qz.mk ((yq60 : gb101 ≠ gb102)); have NB102_101 := Qz.mk ((yq61 : gb102 ≠ gb101)); replace BK101 := bkbf22 BK101 yq56 hb; clear hb hbox hg; have hnb12 := NB101_102.out; have hnc12 := NB102_101.out; have hcz13_0 := (qa BK101.out 0).trans rfl; have hcz13_1 := (qa BK101.out 1).trans rfl; have hcz13_2 := (qa BK101.out 2).trans rfl; have hcz13_3 := (qa BK101.out 3).trans rfl; have hcz13_4 := (qa BK101.out 4).trans rfl; have hfz13_0 := qd BK101.out 0; have hfz13_1 := qd BK101.out 1; have hfz13_2 := qd BK101.out 2; have hfz13_3 := qd BK101.out 3; have hfz13_4 := qd BK101.out 4; have hcz14_0 := (qa BK102.out 0).trans rfl; have hcz14_1 := (qa BK102.out 1).trans rfl; have hcz14_2 := (qa BK102.out 2).trans rfl; have hcz14_3 := (qa BK102.out 3).trans rfl; have hcz14_4 := (qa BK102.out 4).trans rfl; have hfz14_0 := qd BK102.out 0; have hfz14_1 := qd BK102.out 1; have hfz14_2 := qd BK102.out 2; have hfz14_3 := qd BK102.out 3; have hfz14_4 := qd BK102.out 4) | ((with_reducible refine qo (f := 60) rfl ?_); refine goesL_ (some 9) rfl rfl Try.func60 (by kernel_rfl) rfl #[.slice A0_0 l0_0.length c0_0, .slice A1_0 l1_0.length c1_0] rfl yq57 ?_; (with_reducible refine (laws_eqMetaS.calls k _ _ l0_0 _ _ l1_0 true _ ?side1 ?side2 ?side3 ?side4 A3.out).mono ?_); (case side1 => exact yq63); (case side2 => exact HC0_0.out); (case side3 => exact yq62); (case side4 => exact HC1_0.out); rintro e w15 ⟨rfl, hb⟩; refine ⟨_, rfl, ?_⟩; replace BK101 := bkbf22 BK101 yq56 hb; replace BK102 := bkbf22 BK102 yq67 hb; replace HB := Qz.mk (qj yq64 hb); (try clear hb); have hcz16_0 := (qa BK101.out 0).trans rfl; have hcz16_1 := (qa BK101.out 1).trans rfl; have hcz16_2 := (qa BK101.out 2).trans rfl; have hcz16_3 := (qa BK101.out 3).trans rfl; have hcz16_4 := (qa BK101.out 4).trans rfl; have hfz16_0 := qd BK101.out 0; have hfz16_1 := qd BK101.out 1; have hfz16_2 := qd BK101.out 2; have hfz16_3 := qd BK101.out 3; have hfz16_4 := qd BK101.out 4; have hcz17_0 := (qa BK102.out 0).trans rfl; have hcz17_1 := (qa BK102.out 1).trans rfl; have hcz17_2 := (qa BK102.out 2).trans rfl; have hcz17_3 := (qa BK102.out 3).trans rfl; have hcz17_4 := (qa BK102.out 4).trans rfl; have hfz17_0 := qd BK102.out 0; have hfz17_1 := qd BK102.out 1; have hfz17_2 := qd BK102.out 2; have hfz17_3 := qd BK102.out 3; have hfz17_4 := qd BK102.out 4) | ((with_reducible refine qo (f := 44) rfl ?_); refine goesL_ (some 15) rfl rfl Try.func44 (by kernel_rfl) rfl #[.slice A0_1 l0_1.length c0_1, .slice A1_1 l1_1.length c1_1] rfl yq57 ?_; (with_reducible refine (laws_eqInt64S.calls k _ _ l0_1 _ _ l1_1 true _ ?side1 ?side2 ?side3 ?side4 A5.out).mono ?_); (case side1 => exact yq66); (case side2 => exact HC0_1.out); (case side3 => exact yq65); (case side4 => exact HC1_1.out); rintro e w' ⟨rfl, ⟨nd, rfl⟩⟩; refine ⟨_, rfl, ?_⟩))
      go_ret
      exact ⟨by first | rfl | (simp [qn, qm] <;> rfl) | (simp [*, qn, qm] <;> rfl), by repeat (first | (with_reducible first | exact HB.out | apply qi | apply qb | apply qh | refine qc ?_ GE101.out | refine qc ?_ GE102.out) | exact HB.out)⟩
     ·rw [if_neg c9] at H
      have c9b0 : (a0_4 == a1_4) = false := beq_eq_false_iff_ne.mpr c9
      have c9b1 : (a0_4 != a1_4) = true := bne_iff_ne.mpr c9
      obtain rfl := Option.some.inj H
      go_enter Try.func22, Try.ntmps22
      go_wp2_with (first | ((with_reducible refine qt (N := 2) rfl ?_); refine qr ?hg (N := 2) ?hd (cs := #[.slice A0_0 l0_0.length c0_0, .slice A0_1 l0_1.length c0_1, .int .i64 a0_2, .int .i64 a0_3, .int .i64 a0_4]) (t := 37) ?hr ?_; (case hd => rfl); (case hg => rfl); (case hr => exact yq68); intro gb101 hg w18 hbox hb; have BK101 := Qz.mk (hbox); have GW101 := Qz.mk ((by rw [hg]; exact (ql yq59) : w.heap.size ≤ gb101)); have GE101 := GW101; replace HB := Qz.mk (qj yq59 hb); clear hb hbox hg) | ((with_reducible refine qt (N := 3) rfl ?_); refine qr ?hg (N := 3) ?hd (cs := #[.slice A1_0 l1_0.length c1_0, .slice A1_1 l1_1.length c1_1, .int .i64 a1_2, .int .i64 a1_3, .int .i64 a1_4]) (t := 37) ?hr ?_; (case hd => rfl); (case hg => rfl); (case hr => exact yq68); intro gb102 hg w19 hbox hb; have BK102 := Qz.mk (hbox); have GW102 := Qz.mk ((by rw [hg]; exact (ql yq58) : w.heap.size ≤ gb102)); have GE102 := GW102; replace HB := Qz.mk (qj yq58 hb); have NB101_102 := Qz.mk ((yq60 : gb101 ≠ gb102)); have NB102_101 := Qz.mk ((yq61 : gb102 ≠ gb101)); replace BK101 := bkbf22 BK101 yq56 hb; clear hb hbox hg; have hnb20 := NB101_102.out; have hnc20 := NB102_101.out; have hcz21_0 := (qa BK101.out 0).trans rfl; have hcz21_1 := (qa BK101.out 1).trans rfl; have hcz21_2 := (qa BK101.out 2).trans rfl; have hcz21_3 := (qa BK101.out 3).trans rfl; have hcz21_4 := (qa BK101.out 4).trans rfl; have hfz21_0 := qd BK101.out 0; have hfz21_1 := qd BK101.out 1; have hfz21_2 := qd BK101.out 2; have hfz21_3 := qd BK101.out 3; have hfz21_4 := qd BK101.out 4; have hcz22_0 := (qa BK102.out 0).trans rfl; have hcz22_1 := (qa BK102.out 1).trans rfl; have hcz22_2 := (qa BK102.out 2).trans rfl; have hcz22_3 := (qa BK102.out 3).trans rfl; have hcz22_4 := (qa BK102.out 4).trans rfl; have hfz22_0 := qd BK102.out 0; have hfz22_1 := qd BK102.out 1; have hfz22_2 := qd BK102.out 2; have hfz22_3 := qd BK102.out 3; have hfz22_4 := qd BK102.out 4) | ((with_reducible refine qo (f := 60) rfl ?_); refine goesL_ (some 9) rfl rfl Try.func60 (by kernel_rfl) rfl #[.slice A0_0 l0_0.length c0_0, .slice A1_0 l1_0.length c1_0] rfl yq57 ?_; (with_reducible refine (laws_eqMetaS.calls k _ _ l0_0 _ _ l1_0 true _ ?side1 ?side2 ?side3 ?side4 A3.out).mono ?_); (case side1 => exact yq63); (case side2 => exact HC0_0.out); (case side3 => exact yq62); (case side4 => exact HC1_0.out); rintro e w23 ⟨rfl, hb⟩; refine ⟨_, rfl, ?_⟩; replace BK101 := bkbf22 BK101 yq56 hb; replace BK102 := bkbf22 BK102 yq67 hb; replace HB := Qz.mk (qj yq64 hb); (try clear hb); have hcz24_0 := (qa BK101.out 0).trans rfl; have hcz24_1 := (qa BK101.out 1).trans rfl; have hcz24_2 := (qa BK101.out 2).trans rfl; have hcz24_3 := (qa BK101.out 3).trans rfl; have hcz24_4 := (qa BK101.out 4).trans rfl; have hfz24_0 := qd BK101.out 0; have hfz24_1 := qd BK101.out 1; have hfz24_2 := qd BK101.out 2; have hfz24_3 := qd BK101.out 3; have hfz24_4 := qd BK101.out 4; have hcz25_0 := (qa BK102.out 0).trans rfl; have hcz25_1 := (qa BK102.out 1).trans rfl; have hcz25_2 := (qa BK102.out 2).trans rfl; have hcz25_3 := (qa BK102.out 3).trans rfl; have hcz25_4 := (qa BK102.out 4).trans rfl; have hfz25_0 := qd BK102.out 0; have hfz25_1 := qd BK102.out 1; have hfz25_2 := qd BK102.out 2; have hfz25_3 := qd BK102.out 3; have hfz25_4 := qd BK102.out 4) | ((with_reducible refine qo (f := 44) rfl ?_); refine goesL_ (some 15) rfl rfl Try.func44 (by kernel_rfl) rfl #[.slice A0_1 l0_1.length c0_1, .slice A1_1 l1_1.length c1_1] rfl yq57 ?_; (with_reducible refine (laws_eqInt64S.calls k _ _ l0_1 _ _ l1_1 true _ ?side1 ?side2 ?side3 ?side4 A5.out).mono ?_); (case side1 => exact yq66); (case side2 => exact HC0_1.out); (case side3 => exact yq65); (case side4 => exact HC1_1.out); rintro e w' ⟨rfl, ⟨nd, rfl⟩⟩; refine ⟨_, rfl, ?_⟩))
      go_ret
      exact ⟨by first | rfl | (simp [qn, qm] <;> rfl) | (simp [*, qn, qm] <;> rfl), by repeat (first | (with_reducible first | exact HB.out | apply qi | apply qb | apply qh | refine qc ?_ GE101.out | refine qc ?_ GE102.out) | exact HB.out)⟩
    ·rw [if_neg c8] at H
     have c8b0 : (a0_3 == a1_3) = false := beq_eq_false_iff_ne.mpr c8
     have c8b1 : (a0_3 != a1_3) = true := bne_iff_ne.mpr c8
     obtain rfl := Option.some.inj H
     go_enter Try.func22, Try.ntmps22
     go_wp2_with (first | ((with_reducible refine qt (N := 2) rfl ?_); refine qr ?hg (N := 2) ?hd (cs := #[.slice A0_0 l0_0.length c0_0, .slice A0_1 l0_1.length c0_1, .int .i64 a0_2, .int .i64 a0_3, .int .i64 a0_4]) (t := 37) ?hr ?_; (case hd => rfl); (case hg => rfl); (case hr => exact yq68); intro gb101 hg w26 hbox hb; have BK101 := Qz.mk (hbox); have GW101 := Qz.mk ((by rw [hg]; exact (ql yq59) : w.heap.size ≤ gb101)); have GE101 := GW101; replace HB := Qz.mk (qj yq59 hb); clear hb hbox hg) | ((with_reducible refine qt (N := 3) rfl ?_); refine qr ?hg (N := 3) ?hd (cs := #[.slice A1_0 l1_0.length c1_0, .slice A1_1 l1_1.length c1_1, .int .i64 a1_2, .int .i64 a1_3, .int .i64 a1_4]) (t := 37) ?hr ?_; (case hd => rfl); (case hg => rfl); (case hr => exact yq68); intro gb102 hg w27 hbox hb; have BK102 := Qz.mk (hbox); have GW102 := Qz.mk ((by rw [hg]; exact (ql yq58) : w.heap.size ≤ gb102)); have GE102 := GW102; replace HB := Qz.mk (qj yq58 hb); have NB101_102 := Qz.mk ((yq60 : gb101 ≠ gb102)); have NB102_101 := Qz.mk ((yq61 : gb102 ≠ gb101)); replace BK101 := bkbf22 BK101 yq56 hb; clear hb hbox hg; have hnb28 := NB101_102.out; have hnc28 := NB102_101.out; have hcz29_0 := (qa BK101.out 0).trans rfl; have hcz29_1 := (qa BK101.out 1).trans rfl; have hcz29_2 := (qa BK101.out 2).trans rfl; have hcz29_3 := (qa BK101.out 3).trans rfl; have hcz29_4 := (qa BK101.out 4).trans rfl; have hfz29_0 := qd BK101.out 0; have hfz29_1 := qd BK101.out 1; have hfz29_2 := qd BK101.out 2; have hfz29_3 := qd BK101.out 3; have hfz29_4 := qd BK101.out 4; have hcz30_0 := (qa BK102.out 0).trans rfl; have hcz30_1 := (qa BK102.out 1).trans rfl; have hcz30_2 := (qa BK102.out 2).trans rfl; have hcz30_3 := (qa BK102.out 3).trans rfl; have hcz30_4 := (qa BK102.out 4).trans rfl; have hfz30_0 := qd BK102.out 0; have hfz30_1 := qd BK102.out 1; have hfz30_2 := qd BK102.out 2; have hfz30_3 := qd BK102.out 3; have hfz30_4 := qd BK102.out 4) | ((with_reducible refine qo (f := 60) rfl ?_); refine goesL_ (some 9) rfl rfl Try.func60 (by kernel_rfl) rfl #[.slice A0_0 l0_0.length c0_0, .slice A1_0 l1_0.length c1_0] rfl yq57 ?_; (with_reducible refine (laws_eqMetaS.calls k _ _ l0_0 _ _ l1_0 true _ ?side1 ?side2 ?side3 ?side4 A3.out).mono ?_); (case side1 => exact yq63); (case side2 => exact HC0_0.out); (case side3 => exact yq62); (case side4 => exact HC1_0.out); rintro e w31 ⟨rfl, hb⟩; refine ⟨_, rfl, ?_⟩; replace BK101 := bkbf22 BK101 yq56 hb; replace BK102 := bkbf22 BK102 yq67 hb; replace HB := Qz.mk (qj yq64 hb); (try clear hb); have hcz32_0 := (qa BK101.out 0).trans rfl; have hcz32_1 := (qa BK101.out 1).trans rfl; have hcz32_2 := (qa BK101.out 2).trans rfl; have hcz32_3 := (qa BK101.out 3).trans rfl; have hcz32_4 := (qa BK101.out 4).trans rfl; have hfz32_0 := qd BK101.out 0; have hfz32_1 := qd BK101.out 1; have hfz32_2 := qd BK101.out 2; have hfz32_3 := qd BK101.out 3; have hfz32_4 := qd BK101.out 4; have hcz33_0 := (qa BK102.out 0).trans rfl; have hcz33_1 := (qa BK102.out 1).trans rfl; have hcz33_2 := (qa BK102.out 2).trans rfl; have hcz33_3 := (qa BK102.out 3).trans rfl; have hcz33_4 := (qa BK102.out 4).trans rfl; have hfz33_0 := qd BK102.out 0; have hfz33_1 := qd BK102.out 1; have hfz33_2 := qd BK102.out 2; have hfz33_3 := qd BK102.out 3; have hfz33_4 := qd BK102.out 4) | ((with_reducible refine qo (f := 44) rfl ?_); refine goesL_ (some 15) rfl rfl Try.func44 (by kernel_rfl) rfl #[.slice A0_1 l0_1.length c0_1, .slice A1_1 l1_1.length c1_1] rfl yq57 ?_; (with_reducible refine (laws_eqInt64S.calls k _ _ l0_1 _ _ l1_1 true _ ?side1 ?side2 ?side3 ?side4 A5.out).mono ?_); (case side1 => exact yq66); (case side2 => exact HC0_1.out); (case side3 => exact yq65); (case side4 => exact HC1_1.out); rintro e w' ⟨rfl, ⟨nd, rfl⟩⟩; refine ⟨_, rfl, ?_⟩))
     go_ret
     exact ⟨by first | rfl | (simp [qn, qm] <;> rfl) | (simp [*, qn, qm] <;> rfl), by repeat (first | (with_reducible first | exact HB.out | apply qi | apply qb | apply qh | refine qc ?_ GE101.out | refine qc ?_ GE102.out) | exact HB.out)⟩
   ·rw [if_neg c7] at H
    have c7b0 : (a0_2 == a1_2) = false := beq_eq_false_iff_ne.mpr c7
    have c7b1 : (a0_2 != a1_2) = true := bne_iff_ne.mpr c7
    obtain rfl := Option.some.inj H
    go_enter Try.func22, Try.ntmps22
    go_wp2_with (first | ((with_reducible refine qt (N := 2) rfl ?_); refine qr ?hg (N := 2) ?hd (cs := #[.slice A0_0 l0_0.length c0_0, .slice A0_1 l0_1.length c0_1, .int .i64 a0_2, .int .i64 a0_3, .int .i64 a0_4]) (t := 37) ?hr ?_; (case hd => rfl); (case hg => rfl); (case hr => exact yq68); intro gb101 hg w34 hbox hb; have BK101 := Qz.mk (hbox); have GW101 := Qz.mk ((by rw [hg]; exact (ql yq59) : w.heap.size ≤ gb101)); have GE101 := GW101; replace HB := Qz.mk (qj yq59 hb); clear hb hbox hg) | ((with_reducible refine qt (N := 3) rfl ?_); refine qr ?hg (N := 3) ?hd (cs := #[.slice A1_0 l1_0.length c1_0, .slice A1_1 l1_1.length c1_1, .int .i64 a1_2, .int .i64 a1_3, .int .i64 a1_4]) (t := 37) ?hr ?_; (case hd => rfl); (case hg => rfl); (case hr => exact yq68); intro gb102 hg w35 hbox hb; have BK102 := Qz.mk (hbox); have GW102 := Qz.mk ((by rw [hg]; exact (ql yq58) : w.heap.size ≤ gb102)); have GE102 := GW102; replace HB := Qz.mk (qj yq58 hb); have NB101_102 := Qz.mk ((yq60 : gb101 ≠ gb102)); have NB102_101 := Qz.mk ((yq61 : gb102 ≠ gb101)); replace BK101 := bkbf22 BK101 yq56 hb; clear hb hbox hg; have hnb36 := NB101_102.out; have hnc36 := NB102_101.out; have hcz37_0 := (qa BK101.out 0).trans rfl; have hcz37_1 := (qa BK101.out 1).trans rfl; have hcz37_2 := (qa BK101.out 2).trans rfl; have hcz37_3 := (qa BK101.out 3).trans rfl; have hcz37_4 := (qa BK101.out 4).trans rfl; have hfz37_0 := qd BK101.out 0; have hfz37_1 := qd BK101.out 1; have hfz37_2 := qd BK101.out 2; have hfz37_3 := qd BK101.out 3; have hfz37_4 := qd BK101.out 4; have hcz38_0 := (qa BK102.out 0).trans rfl; have hcz38_1 := (qa BK102.out 1).trans rfl; have hcz38_2 := (qa BK102.out 2).trans rfl; have hcz38_3 := (qa BK102.out 3).trans rfl; have hcz38_4 := (qa BK102.out 4).trans rfl; have hfz38_0 := qd BK102.out 0; have hfz38_1 := qd BK102.out 1; have hfz38_2 := qd BK102.out 2; have hfz38_3 := qd BK102.out 3; have hfz38_4 := qd BK102.out 4) | ((with_reducible refine qo (f := 60) rfl ?_); refine goesL_ (some 9) rfl rfl Try.func60 (by kernel_rfl) rfl #[.slice A0_0 l0_0.length c0_0, .slice A1_0 l1_0.length c1_0] rfl yq57 ?_; (with_reducible refine (laws_eqMetaS.calls k _ _ l0_0 _ _ l1_0 true _ ?side1 ?side2 ?side3 ?side4 A3.out).mono ?_); (case side1 => exact yq63); (case side2 => exact HC0_0.out); (case side3 => exact yq62); (case side4 => exact HC1_0.out); rintro e w39 ⟨rfl, hb⟩; refine ⟨_, rfl, ?_⟩; replace BK101 := bkbf22 BK101 yq56 hb; replace BK102 := bkbf22 BK102 yq67 hb; replace HB := Qz.mk (qj yq64 hb); (try clear hb); have hcz40_0 := (qa BK101.out 0).trans rfl; have hcz40_1 := (qa BK101.out 1).trans rfl; have hcz40_2 := (qa BK101.out 2).trans rfl; have hcz40_3 := (qa BK101.out 3).trans rfl; have hcz40_4 := (qa BK101.out 4).trans rfl; have hfz40_0 := qd BK101.out 0; have hfz40_1 := qd BK101.out 1; have hfz40_2 := qd BK101.out 2; have hfz40_3 := qd BK101.out 3; have hfz40_4 := qd BK101.out 4; have hcz41_0 := (qa BK102.out 0).trans rfl; have hcz41_1 := (qa BK102.out 1).trans rfl; have hcz41_2 := (qa BK102.out 2).trans rfl; have hcz41_3 := (qa BK102.out 3).trans rfl; have hcz41_4 := (qa BK102.out 4).trans rfl; have hfz41_0 := qd BK102.out 0; have hfz41_1 := qd BK102.out 1; have hfz41_2 := qd BK102.out 2; have hfz41_3 := qd BK102.out 3; have hfz41_4 := qd BK102.out 4) | ((with_reducible refine qo (f := 44) rfl ?_); refine goesL_ (some 15) rfl rfl Try.func44 (by kernel_rfl) rfl #[.slice A0_1 l0_1.length c0_1, .slice A1_1 l1_1.length c1_1] rfl yq57 ?_; (with_reducible refine (laws_eqInt64S.calls k _ _ l0_1 _ _ l1_1 true _ ?side1 ?side2 ?side3 ?side4 A5.out).mono ?_); (case side1 => exact yq66); (case side2 => exact HC0_1.out); (case side3 => exact yq65); (case side4 => exact HC1_1.out); rintro e w' ⟨rfl, ⟨nd, rfl⟩⟩; refine ⟨_, rfl, ?_⟩))
    go_ret
    exact ⟨by first | rfl | (simp [qn, qm] <;> rfl) | (simp [*, qn, qm] <;> rfl), by repeat (first | (with_reducible first | exact HB.out | apply qi | apply qb | apply qh | refine qc ?_ GE101.out | refine qc ?_ GE102.out) | exact HB.out)⟩
  ·replace c6 := Bool.eq_false_iff.mpr c6
   subst c6
   have H1 : (some false) = some r := by rw [if_neg (show ¬ (false = true) by decide)] at H; exact H
   clear H
   have H := H1
   clear H1
   obtain rfl := Option.some.inj H
   go_enter Try.func22, Try.ntmps22
   go_wp2_with (first | ((with_reducible refine qt (N := 2) rfl ?_); refine qr ?hg (N := 2) ?hd (cs := #[.slice A0_0 l0_0.length c0_0, .slice A0_1 l0_1.length c0_1, .int .i64 a0_2, .int .i64 a0_3, .int .i64 a0_4]) (t := 37) ?hr ?_; (case hd => rfl); (case hg => rfl); (case hr => exact yq68); intro gb101 hg w42 hbox hb; have BK101 := Qz.mk (hbox); have GW101 := Qz.mk ((by rw [hg]; exact (ql yq59) : w.heap.size ≤ gb101)); have GE101 := GW101; replace HB := Qz.mk (qj yq59 hb); clear hb hbox hg) | ((with_reducible refine qt (N := 3) rfl ?_); refine qr ?hg (N := 3) ?hd (cs := #[.slice A1_0 l1_0.length c1_0, .slice A1_1 l1_1.length c1_1, .int .i64 a1_2, .int .i64 a1_3, .int .i64 a1_4]) (t := 37) ?hr ?_; (case hd => rfl); (case hg => rfl); (case hr => exact yq68); intro gb102 hg w43 hbox hb; have BK102 := Qz.mk (hbox); have GW102 := Qz.mk ((by rw [hg]; exact (ql yq58) : w.heap.size ≤ gb102)); have GE102 := GW102; replace HB := Qz.mk (qj yq58 hb); have NB101_102 := Qz.mk ((yq60 : gb101 ≠ gb102)); have NB102_101 := Qz.mk ((yq61 : gb102 ≠ gb101)); replace BK101 := bkbf22 BK101 yq56 hb; clear hb hbox hg; have hnb44 := NB101_102.out; have hnc44 := NB102_101.out; have hcz45_0 := (qa BK101.out 0).trans rfl; have hcz45_1 := (qa BK101.out 1).trans rfl; have hcz45_2 := (qa BK101.out 2).trans rfl; have hcz45_3 := (qa BK101.out 3).trans rfl; have hcz45_4 := (qa BK101.out 4).trans rfl; have hfz45_0 := qd BK101.out 0; have hfz45_1 := qd BK101.out 1; have hfz45_2 := qd BK101.out 2; have hfz45_3 := qd BK101.out 3; have hfz45_4 := qd BK101.out 4; have hcz46_0 := (qa BK102.out 0).trans rfl; have hcz46_1 := (qa BK102.out 1).trans rfl; have hcz46_2 := (qa BK102.out 2).trans rfl; have hcz46_3 := (qa BK102.out 3).trans rfl; have hcz46_4 := (qa BK102.out 4).trans rfl; have hfz46_0 := qd BK102.out 0; have hfz46_1 := qd BK102.out 1; have hfz46_2 := qd BK102.out 2; have hfz46_3 := qd BK102.out 3; have hfz46_4 := qd BK102.out 4) | ((with_reducible refine qo (f := 60) rfl ?_); refine goesL_ (some 9) rfl rfl Try.func60 (by kernel_rfl) rfl #[.slice A0_0 l0_0.length c0_0, .slice A1_0 l1_0.length c1_0] rfl yq57 ?_; (with_reducible refine (laws_eqMetaS.calls k _ _ l0_0 _ _ l1_0 true _ ?side1 ?side2 ?side3 ?side4 A3.out).mono ?_); (case side1 => exact yq63); (case side2 => exact HC0_0.out); (case side3 => exact yq62); (case side4 => exact HC1_0.out); rintro e w47 ⟨rfl, hb⟩; refine ⟨_, rfl, ?_⟩; replace BK101 := bkbf22 BK101 yq56 hb; replace BK102 := bkbf22 BK102 yq67 hb; replace HB := Qz.mk (qj yq64 hb); (try clear hb); have hcz48_0 := (qa BK101.out 0).trans rfl; have hcz48_1 := (qa BK101.out 1).trans rfl; have hcz48_2 := (qa BK101.out 2).trans rfl; have hcz48_3 := (qa BK101.out 3).trans rfl; have hcz48_4 := (qa BK101.out 4).trans rfl; have hfz48_0 := qd BK101.out 0; have hfz48_1 := qd BK101.out 1; have hfz48_2 := qd BK101.out 2; have hfz48_3 := qd BK101.out 3; have hfz48_4 := qd BK101.out 4; have hcz49_0 := (qa BK102.out 0).trans rfl; have hcz49_1 := (qa BK102.out 1).trans rfl; have hcz49_2 := (qa BK102.out 2).trans rfl; have hcz49_3 := (qa BK102.out 3).trans rfl; have hcz49_4 := (qa BK102.out 4).trans rfl; have hfz49_0 := qd BK102.out 0; have hfz49_1 := qd BK102.out 1; have hfz49_2 := qd BK102.out 2; have hfz49_3 := qd BK102.out 3; have hfz49_4 := qd BK102.out 4) | ((with_reducible refine qo (f := 44) rfl ?_); refine goesL_ (some 15) rfl rfl Try.func44 (by kernel_rfl) rfl #[.slice A0_1 l0_1.length c0_1, .slice A1_1 l1_1.length c1_1] rfl yq57 ?_; (with_reducible refine (laws_eqInt64S.calls k _ _ l0_1 _ _ l1_1 false _ ?side1 ?side2 ?side3 ?side4 A5.out).mono ?_); (case side1 => exact yq66); (case side2 => exact HC0_1.out); (case side3 => exact yq65); (case side4 => exact HC1_1.out); rintro e w' ⟨rfl, ⟨nd, rfl⟩⟩; refine ⟨_, rfl, ?_⟩))
   go_ret
   exact ⟨by first | rfl | (simp [qn, qm] <;> rfl) | (simp [*, qn, qm] <;> rfl), by repeat (first | (with_reducible first | exact HB.out | apply qi | apply qb | apply qh | refine qc ?_ GE101.out | refine qc ?_ GE102.out) | exact HB.out)⟩
 ·replace c4 := Bool.eq_false_iff.mpr c4
  subst c4
  have H1 : (some false) = some r := by rw [if_neg (show ¬ (false = true) by decide)] at H; exact H
  clear H
  have H := H1
  clear H1
  obtain rfl := Option.some.inj H
  go_enter Try.func22, Try.ntmps22
  go_wp2_with (first | ((with_reducible refine qt (N := 2) rfl ?_); refine qr ?hg (N := 2) ?hd (cs := #[.slice A0_0 l0_0.length c0_0, .slice A0_1 l0_1.length c0_1, .int .i64 a0_2, .int .i64 a0_3, .int .i64 a0_4]) (t := 37) ?hr ?_; (case hd => rfl); (case hg => rfl); (case hr => exact yq68); intro gb101 hg w50 hbox hb; have BK101 := Qz.mk (hbox); have GW101 := Qz.mk ((by rw [hg]; exact (ql yq59) : w.heap.size ≤ gb101)); have GE101 := GW101; replace HB := Qz.mk (qj yq59 hb); clear hb hbox hg) | ((with_reducible refine qt (N := 3) rfl ?_); refine qr ?hg (N := 3) ?hd (cs := #[.slice A1_0 l1_0.length c1_0, .slice A1_1 l1_1.length c1_1, .int .i64 a1_2, .int .i64 a1_3, .int .i64 a1_4]) (t := 37) ?hr ?_; (case hd => rfl); (case hg => rfl); (case hr => exact yq68); intro gb102 hg w51 hbox hb; have BK102 := Qz.mk (hbox); have GW102 := Qz.mk ((by rw [hg]; exact (ql yq58) : w.heap.size ≤ gb102)); have GE102 := GW102; replace HB := Qz.mk (qj yq58 hb); have NB101_102 := Qz.mk ((yq60 : gb101 ≠ gb102)); have NB102_101 := Qz.mk ((yq61 : gb102 ≠ gb101)); replace BK101 := bkbf22 BK101 yq56 hb; clear hb hbox hg; have hnb52 := NB101_102.out; have hnc52 := NB102_101.out; have hcz53_0 := (qa BK101.out 0).trans rfl; have hcz53_1 := (qa BK101.out 1).trans rfl; have hcz53_2 := (qa BK101.out 2).trans rfl; have hcz53_3 := (qa BK101.out 3).trans rfl; have hcz53_4 := (qa BK101.out 4).trans rfl; have hfz53_0 := qd BK101.out 0; have hfz53_1 := qd BK101.out 1; have hfz53_2 := qd BK101.out 2; have hfz53_3 := qd BK101.out 3; have hfz53_4 := qd BK101.out 4; have hcz54_0 := (qa BK102.out 0).trans rfl; have hcz54_1 := (qa BK102.out 1).trans rfl; have hcz54_2 := (qa BK102.out 2).trans rfl; have hcz54_3 := (qa BK102.out 3).trans rfl; have hcz54_4 := (qa BK102.out 4).trans rfl; have hfz54_0 := qd BK102.out 0; have hfz54_1 := qd BK102.out 1; have hfz54_2 := qd BK102.out 2; have hfz54_3 := qd BK102.out 3; have hfz54_4 := qd BK102.out 4) | ((with_reducible refine qo (f := 60) rfl ?_); refine goesL_ (some 9) rfl rfl Try.func60 (by kernel_rfl) rfl #[.slice A0_0 l0_0.length c0_0, .slice A1_0 l1_0.length c1_0] rfl yq57 ?_; (with_reducible refine (laws_eqMetaS.calls k _ _ l0_0 _ _ l1_0 false _ ?side1 ?side2 ?side3 ?side4 A3.out).mono ?_); (case side1 => exact yq63); (case side2 => exact HC0_0.out); (case side3 => exact yq62); (case side4 => exact HC1_0.out); rintro e w55 ⟨rfl, hb⟩; refine ⟨_, rfl, ?_⟩; replace BK101 := bkbf22 BK101 yq56 hb; replace BK102 := bkbf22 BK102 yq67 hb; replace HB := Qz.mk (qj yq64 hb); (try clear hb)))
  go_ret
  exact ⟨by first | rfl | (simp [qn, qm] <;> rfl) | (simp [*, qn, qm] <;> rfl), by repeat (first | (with_reducible first | exact HB.out | apply qi | apply qb | apply qh | refine qc ?_ GE101.out | refine qc ?_ GE102.out) | exact HB.out)⟩
def laws_markText.l0 : Nat → Int → ByteArray → Option (ByteArray)
 | 0, _, _ => none
 | k + 1, x0, x3 => if x0 > 0 then ((some (([(wrap64 (48 + (Int.tmod x0 10))) % 256] : List Int) : List Int)).bind fun y101 => (if (strOfNums y101).size + x3.size ≤ 9223372036854775807 then (laws_markText.l0 k (wrap64 (Int.tdiv x0 10)) ((strOfNums y101) ++ x3)) else (none))) else (if 1 + x3.size ≤ 9223372036854775807 then (some ((⟨#[109]⟩ : ByteArray) ++ x3)) else (none))
def laws_markText.f (k : Nat) (a0 : Int) : Option (ByteArray) := if a0 ≤ 0 then (some (⟨#[109, 48]⟩ : ByteArray)) else (laws_markText.l0 k a0 (⟨#[]⟩ : ByteArray))
set_option maxHeartbeats 8000000 in
set_option maxRecDepth 100000 in
theorem laws_markText.calls (k : Nat) (a0 : Int) (r : ByteArray) (w : World) (h : laws_markText.f k a0 = some r) :
  Calls Try.prog 97 #[.int .i64 a0] w fun e w' => e = .returned (.string r) ∧ Below w.heap.size w w' := by
 have HB := Qz.mk (Below.refl w.heap.size w)
 have H : (if a0 ≤ 0 then (some (⟨#[109, 48]⟩ : ByteArray)) else (laws_markText.l0 k a0 (⟨#[]⟩ : ByteArray))) = some r := h
 clear h
 by_cases c2 : a0 ≤ 0
 ·rw [if_pos c2] at H
  have c2b0 : decide (a0 ≤ 0) = true := decide_eq_true c2
  clear c2
  obtain rfl := Option.some.inj H
  go_enter Try.func97, Try.ntmps97
  go_wp2
  go_ret
  exact ⟨by first | rfl | (simp [qn, qm] <;> rfl) | (simp [*, qn, qm] <;> rfl), by repeat (first | (with_reducible first | exact HB.out | apply qi | apply qb | apply qh) | exact HB.out)⟩
 ·rw [if_neg c2] at H
  have c2b0 : decide (a0 ≤ 0) = false := decide_eq_false c2
  clear c2
  have H' := Qz.mk H
  clear H
  go_enter Try.func97, Try.ntmps97
  go_wp2
  go_loopg [0, 3] k (fun kq v0 v3 w' => ∃ (x0_1 : Int) (x3_1 : ByteArray), v0 = .int .i64 x0_1 ∧ v3 = .string x3_1 ∧ Qz (laws_markText.l0 kq x0_1 x3_1 = some r) ∧ Qz (kq ≤ k) ∧ Qz (Below w.heap.size w w'))
  case atStart => exact ⟨(a0), ((⟨#[]⟩ : ByteArray)), (by first | rfl | (simp; done) | (simp [*]; done)), (by first | rfl | (simp; done) | (simp [*]; done)), H', ⟨Nat.le_refl _⟩, ⟨by repeat (first | (with_reducible first | exact HB.out | apply qi | apply qb | apply qh) | exact HB.out)⟩⟩
  case round =>
   clear H'
   (try clear c2);(try clear c2b0);(try clear p2)
   obtain ⟨x0_1, x3_1, rfl, rfl, HA, HK1, HB⟩ := hrel
   cases gk with
   | zero => exact absurd HA.out (by simp [laws_markText.l0])
   | succ k1 =>
    have H := HA.out
    clear HA
    simp only [laws_markText.l0] at H
    by_cases c3 : x0_1 > 0
    ·rw [if_pos c3] at H
     have c3b0 : decide (0 < x0_1) = true := decide_eq_true c3
     clear c3
     obtain ⟨y101, hy101⟩ : ∃ y_ : List Int, y_ = (([(wrap64 (48 + (Int.tmod x0_1 10))) % 256] : List Int)) := ⟨_, rfl⟩
     replace H : (if (strOfNums y101).size + x3_1.size ≤ 9223372036854775807 then (laws_markText.l0 k1 (wrap64 (Int.tdiv x0_1 10)) ((strOfNums y101) ++ x3_1)) else (none)) = some r := by first | (rw [hy101]; with_reducible exact H) | (have H2_ := (Option.bind_some _ _).symm.trans H; rw [hy101]; with_reducible exact H2_) | (have H2_ := (Option.bind_some _ _).symm.trans H; with_reducible exact H2_) | with_reducible exact H | (rw [hy101]; exact H) | exact H
     have Ny101 := Qz.mk hy101
     clear hy101
     by_cases c4 : (strOfNums y101).size + x3_1.size ≤ 9223372036854775807
     ·rw [if_pos c4] at H
      have c4b0 := eq_true c4
      have c4b1 : decide ((strOfNums y101).size + x3_1.size ≤ 9223372036854775807) = true := decide_eq_true c4
      try have c4b2 : (9223372036854775807 < (strOfNums y101).size + x3_1.size) = False := eq_false (Nat.not_lt.2 c4)
      have H' := Qz.mk H
      clear H
      go_wp2_with (first | ((with_reducible refine qt (N := 12) rfl ?_); refine Kd.R_lit (Kd.int .u8) _ 5 ?hg (N := 12) ?hd (xs := ([(wrap64 (48 + (Int.tmod x0_1 10))) % 256] : List Int)) (inner := [.int .u8 ((wrap64 (48 + (Int.tmod x0_1 10))) % 256)]) (ok := fun _ => True) (okp := fun _ => True) ?hr ?hp (fun _ hk => hk) trivial (Below.refl _ _) (Nat.le_refl _) (by simp) ?_; (case hd => rfl); (case hg => rfl); (case hr => first | (go_simp; done) | (go_simp; rfl)); (case hp => exact (Reps.one (show Kd.M (Kd.int .u8) _ _ _ ((wrap64 (48 + (Int.tmod x0_1 10))) % 256) [.int .u8 ((wrap64 (48 + (Int.tmod x0_1 10))) % 256)] from rfl) (Reps.none _ _))); intro v102 w5 ho6 hb hg_ hnew_; clear hg_ hnew_; (first | rw [← Ny101.out] at ho6 | (simp only [Int.reduceToNat] at ho6; rw [← Ny101.out] at ho6)); have HO103 := Qz.mk (Kd.R_lower ho6 (ql (by repeat (first | (with_reducible first | exact HB.out | apply qi | apply qb | apply qh) | exact HB.out)))); replace HB := Qz.mk (qj (by repeat (first | (with_reducible first | exact HB.out | apply qi | apply qb | apply qh) | exact HB.out)) hb); clear hb ho6; have hcv7 := own_string (P := Try.prog) Try.underlying57 Try.underlying5 Try.underlying9 (Kd.own_of_R HO103.out)))
      go_roundg k1
      case measure => have := HK1.out; omega
      case rel => exact ⟨(wrap64 (Int.tdiv x0_1 10)), ((strOfNums y101) ++ x3_1), (by first | rfl | (simp; done) | (simp [*]; done)), (by first | rfl | (simp; done) | (simp [*]; done)), H', ⟨by have := HK1.out; omega⟩, ⟨by repeat (first | (with_reducible first | exact HB.out | apply qi | apply qb | apply qh) | exact HB.out)⟩⟩
     ·rw [if_neg c4] at H
      exact absurd H (by simp)
    ·rw [if_neg c3] at H
     have c3b0 : decide (0 < x0_1) = false := decide_eq_false c3
     clear c3
     by_cases c8 : 1 + x3_1.size ≤ 9223372036854775807
     ·rw [if_pos c8] at H
      have c8b0 := eq_true c8
      have c8b1 : decide (1 + x3_1.size ≤ 9223372036854775807) = true := decide_eq_true c8
      try have c8b2 : (9223372036854775807 < 1 + x3_1.size) = False := eq_false (Nat.not_lt.2 c8)
      obtain rfl := Option.some.inj H
      go_wp2
      go_ret
      exact ⟨by first | rfl | (simp [qn, qm] <;> rfl) | (simp [*, qn, qm] <;> rfl), by repeat (first | (with_reducible first | exact HB.out | apply qi | apply qb | apply qh) | exact HB.out)⟩
     ·rw [if_neg c8] at H
      exact absurd H (by simp)
theorem yq69 {P : Prop} (h : P := by first | (with_reducible assumption) | assumption) : P := h
theorem yq70 {P : Prop} (h : P := by repeat (first | (with_reducible first | exact HK.out | apply Kept.alloc | apply Kept.drewN | apply Kept.drew) | exact HK.out)) : P := h
theorem yq71 {P : Prop} (h : P := by (with_reducible repeat (first | apply Kd.R_alloc | apply Kd.R_drewN | apply Kd.R_drew)); exact HO_0.out) : P := h
def laws_markMetaS.l0 : Nat → List (S66) → Int → Int → Option (Int × (List (S66)))
 | 0, _, _, _ => none
 | k + 1, x0, x1, x5 => if x5 < (x0.length : Int) then (if 0 ≤ x5 then ((some (x0.set (x5 : Int).toNat (⟨x1, (qk x0 x5).f1, (qk x0 x5).f2, (qk x0 x5).f3, (qk x0 x5).f4⟩ : S66) : List (S66))).bind fun y101 => ((some (y101.set (x5 : Int).toNat (⟨(qk y101 x5).f0, wrap64 (x1 + 1), (qk y101 x5).f2, (qk y101 x5).f3, (qk y101 x5).f4⟩ : S66) : List (S66))).bind fun y102 => ((laws_markText.f k (wrap64 ((wrap64 (x1 + 1)) + 1))).bind fun t103 => ((some (y102.set (x5 : Int).toNat (⟨(qk y102 x5).f0, (qk y102 x5).f1, t103, (qk y102 x5).f3, (qk y102 x5).f4⟩ : S66) : List (S66))).bind fun y104 => ((laws_markText.f k (wrap64 ((wrap64 ((wrap64 (x1 + 1)) + 1)) + 1))).bind fun t105 => ((some (y104.set (x5 : Int).toNat (⟨(qk y104 x5).f0, (qk y104 x5).f1, (qk y104 x5).f2, t105, (qk y104 x5).f4⟩ : S66) : List (S66))).bind fun y106 => (laws_markMetaS.l0 k (y106.set (x5 : Int).toNat (⟨(qk y106 x5).f0, (qk y106 x5).f1, (qk y106 x5).f2, (qk y106 x5).f3, wrap64 ((wrap64 ((wrap64 ((wrap64 (x1 + 1)) + 1)) + 1)) + 1)⟩ : S66)) (wrap64 ((wrap64 ((wrap64 ((wrap64 ((wrap64 (x1 + 1)) + 1)) + 1)) + 1)) + 1)) (wrap64 (x5 + 1))))))))) else (none)) else (some (x1, x0))
def laws_markMetaS.f (k : Nat) (l0 : List (S66)) (a1 : Int) : Option (Int × (List (S66))) := laws_markMetaS.l0 k l0 a1 0
set_option maxHeartbeats 8000000 in
set_option maxRecDepth 100000 in
theorem laws_markMetaS.calls (k : Nat) (P0_ : Nat → Prop) (u9000_ : Value) (l0 : List (S66)) (a1 : Int) (r1 : Int) (r2 : List (S66)) (w0 w : World) (hB : Below w0.heap.size w0 w) (ho0 : Kd.R k66 66 w w0.heap.size P0_ u9000_ l0) (h : laws_markMetaS.f k l0 a1 = some (r1, r2)) :
  Calls Try.prog 61 #[u9000_, .int .i64 a1] w fun e w' => e = .returned (.int .i64 r1) ∧ Kd.R k66 66 w' w0.heap.size (fun k_ => (P0_ k_ ∨ w.heap.size ≤ k_)) u9000_ r2 ∧ Below w0.heap.size w0 w' ∧ Kept w w' (fun k_ => P0_ k_) := by
 have HO0 := Qz.mk (show Kd.R k66 66 w w0.heap.size (fun k_ => (P0_ k_ ∨ w.heap.size ≤ k_)) u9000_ l0 from Kd.R_mono ho0 (fun k_ hk => (.inl hk)))
 have HK := Qz.mk (Kept.refl w (fun k_ => P0_ k_))
 have HW0 := Qz.mk hB.size
 have HB := Qz.mk hB
 clear hB
 have H : (laws_markMetaS.l0 k l0 a1 0) = some (r1, r2) := h
 clear h
 have H' := Qz.mk H
 clear H
 go_enter Try.func61, Try.ntmps61
 go_wp2
 go_loopg [1, 5] k (fun kq v1 v5 w' => ∃ (x0_1 : List (S66)) (x1_1 : Int) (x5_1 : Int), v1 = .int .i64 x1_1 ∧ v5 = .int .i64 x5_1 ∧ Qz (laws_markMetaS.l0 kq x0_1 x1_1 x5_1 = some (r1, r2)) ∧ Qz (kq ≤ k) ∧ Qz (Kd.R k66 66 w' w0.heap.size (fun k_ => (P0_ k_ ∨ w.heap.size ≤ k_)) u9000_ x0_1) ∧ Qz (Kept w w' (fun k_ => P0_ k_)) ∧ Qz (Below w0.heap.size w0 w'))
 case atStart => exact ⟨(l0), (a1), (0), (by first | rfl | (simp; done) | (simp [*]; done)), (by first | rfl | (simp; done) | (simp [*]; done)), H', ⟨Nat.le_refl _⟩, ⟨by (with_reducible repeat (first | apply Kd.R_alloc | apply Kd.R_drewN | apply Kd.R_drew)); exact HO0.out⟩, ⟨by repeat (first | (with_reducible first | exact HK.out | apply Kept.alloc | apply Kept.drewN | apply Kept.drew) | exact HK.out)⟩, ⟨by repeat (first | (with_reducible first | exact HB.out | apply qi | apply qb | apply qh) | exact HB.out)⟩⟩
 case round =>
  clear H'
  try clear p2
  obtain ⟨x0_1, x1_1, x5_1, rfl, rfl, HA, HK1, HO_0, HK, HB⟩ := hrel
  cases gk with
  | zero => exact absurd HA.out (by simp [laws_markMetaS.l0])
  | succ k1 =>
   have H := HA.out
   clear HA
   simp only [laws_markMetaS.l0] at H
   by_cases c3 : x5_1 < (x0_1.length : Int)
   ·rw [if_pos c3] at H
    have c3b0 : decide (x5_1 < (x0_1.length : Int)) = true := decide_eq_true c3
    clear c3
    by_cases c4 : 0 ≤ x5_1
    ·rw [if_pos c4] at H
     have c4b0 : decide (0 ≤ x5_1) = true := decide_eq_true c4
     clear c4
     obtain ⟨y101, hy101⟩ : ∃ y_ : List (S66), y_ = (x0_1.set (x5_1 : Int).toNat (⟨x1_1, (qk x0_1 x5_1).f1, (qk x0_1 x5_1).f2, (qk x0_1 x5_1).f3, (qk x0_1 x5_1).f4⟩ : S66)) := ⟨_, rfl⟩
     replace H : ((some (y101.set (x5_1 : Int).toNat (⟨(qk y101 x5_1).f0, wrap64 (x1_1 + 1), (qk y101 x5_1).f2, (qk y101 x5_1).f3, (qk y101 x5_1).f4⟩ : S66) : List (S66))).bind fun y102 => ((laws_markText.f k1 (wrap64 ((wrap64 (x1_1 + 1)) + 1))).bind fun t103 => ((some (y102.set (x5_1 : Int).toNat (⟨(qk y102 x5_1).f0, (qk y102 x5_1).f1, t103, (qk y102 x5_1).f3, (qk y102 x5_1).f4⟩ : S66) : List (S66))).bind fun y104 => ((laws_markText.f k1 (wrap64 ((wrap64 ((wrap64 (x1_1 + 1)) + 1)) + 1))).bind fun t105 => ((some (y104.set (x5_1 : Int).toNat (⟨(qk y104 x5_1).f0, (qk y104 x5_1).f1, (qk y104 x5_1).f2, t105, (qk y104 x5_1).f4⟩ : S66) : List (S66))).bind fun y106 => (laws_markMetaS.l0 k1 (y106.set (x5_1 : Int).toNat (⟨(qk y106 x5_1).f0, (qk y106 x5_1).f1, (qk y106 x5_1).f2, (qk y106 x5_1).f3, wrap64 ((wrap64 ((wrap64 ((wrap64 (x1_1 + 1)) + 1)) + 1)) + 1)⟩ : S66)) (wrap64 ((wrap64 ((wrap64 ((wrap64 ((wrap64 (x1_1 + 1)) + 1)) + 1)) + 1)) + 1)) (wrap64 (x5_1 + 1)))))))) = some (r1, r2) := by first | (rw [hy101]; with_reducible exact H) | (have H2_ := (Option.bind_some _ _).symm.trans H; rw [hy101]; with_reducible exact H2_) | (have H2_ := (Option.bind_some _ _).symm.trans H; with_reducible exact H2_) | with_reducible exact H | (rw [hy101]; exact H) | exact H
     have Ny101 := Qz.mk hy101
     clear hy101
     obtain ⟨y102, hy102⟩ : ∃ y_ : List (S66), y_ = (y101.set (x5_1 : Int).toNat (⟨(qk y101 x5_1).f0, wrap64 (x1_1 + 1), (qk y101 x5_1).f2, (qk y101 x5_1).f3, (qk y101 x5_1).f4⟩ : S66)) := ⟨_, rfl⟩
     replace H : ((laws_markText.f k1 (wrap64 ((wrap64 (x1_1 + 1)) + 1))).bind fun t103 => ((some (y102.set (x5_1 : Int).toNat (⟨(qk y102 x5_1).f0, (qk y102 x5_1).f1, t103, (qk y102 x5_1).f3, (qk y102 x5_1).f4⟩ : S66) : List (S66))).bind fun y104 => ((laws_markText.f k1 (wrap64 ((wrap64 ((wrap64 (x1_1 + 1)) + 1)) + 1))).bind fun t105 => ((some (y104.set (x5_1 : Int).toNat (⟨(qk y104 x5_1).f0, (qk y104 x5_1).f1, (qk y104 x5_1).f2, t105, (qk y104 x5_1).f4⟩ : S66) : List (S66))).bind fun y106 => (laws_markMetaS.l0 k1 (y106.set (x5_1 : Int).toNat (⟨(qk y106 x5_1).f0, (qk y106 x5_1).f1, (qk y106 x5_1).f2, (qk y106 x5_1).f3, wrap64 ((wrap64 ((wrap64 ((wrap64 (x1_1 + 1)) + 1)) + 1)) + 1)⟩ : S66)) (wrap64 ((wrap64 ((wrap64 ((wrap64 ((wrap64 (x1_1 + 1)) + 1)) + 1)) + 1)) + 1)) (wrap64 (x5_1 + 1))))))) = some (r1, r2) := by first | (rw [hy102]; with_reducible exact H) | (have H2_ := (Option.bind_some _ _).symm.trans H; rw [hy102]; with_reducible exact H2_) | (have H2_ := (Option.bind_some _ _).symm.trans H; with_reducible exact H2_) | with_reducible exact H | (rw [hy102]; exact H) | exact H
     have Ny102 := Qz.mk hy102
     clear hy102
     replace H := Option.bind_eq_some_iff.mp H
     obtain ⟨t103, A70, H⟩ := H
     replace H : ((some (y102.set (x5_1 : Int).toNat (⟨(qk y102 x5_1).f0, (qk y102 x5_1).f1, t103, (qk y102 x5_1).f3, (qk y102 x5_1).f4⟩ : S66) : List (S66))).bind fun y104 => ((laws_markText.f k1 (wrap64 ((wrap64 ((wrap64 (x1_1 + 1)) + 1)) + 1))).bind fun t105 => ((some (y104.set (x5_1 : Int).toNat (⟨(qk y104 x5_1).f0, (qk y104 x5_1).f1, (qk y104 x5_1).f2, t105, (qk y104 x5_1).f4⟩ : S66) : List (S66))).bind fun y106 => (laws_markMetaS.l0 k1 (y106.set (x5_1 : Int).toNat (⟨(qk y106 x5_1).f0, (qk y106 x5_1).f1, (qk y106 x5_1).f2, (qk y106 x5_1).f3, wrap64 ((wrap64 ((wrap64 ((wrap64 (x1_1 + 1)) + 1)) + 1)) + 1)⟩ : S66)) (wrap64 ((wrap64 ((wrap64 ((wrap64 ((wrap64 (x1_1 + 1)) + 1)) + 1)) + 1)) + 1)) (wrap64 (x5_1 + 1)))))) = some (r1, r2) := H
     have A7 := Qz.mk A70
     clear A70
     obtain ⟨y104, hy104⟩ : ∃ y_ : List (S66), y_ = (y102.set (x5_1 : Int).toNat (⟨(qk y102 x5_1).f0, (qk y102 x5_1).f1, t103, (qk y102 x5_1).f3, (qk y102 x5_1).f4⟩ : S66)) := ⟨_, rfl⟩
     replace H : ((laws_markText.f k1 (wrap64 ((wrap64 ((wrap64 (x1_1 + 1)) + 1)) + 1))).bind fun t105 => ((some (y104.set (x5_1 : Int).toNat (⟨(qk y104 x5_1).f0, (qk y104 x5_1).f1, (qk y104 x5_1).f2, t105, (qk y104 x5_1).f4⟩ : S66) : List (S66))).bind fun y106 => (laws_markMetaS.l0 k1 (y106.set (x5_1 : Int).toNat (⟨(qk y106 x5_1).f0, (qk y106 x5_1).f1, (qk y106 x5_1).f2, (qk y106 x5_1).f3, wrap64 ((wrap64 ((wrap64 ((wrap64 (x1_1 + 1)) + 1)) + 1)) + 1)⟩ : S66)) (wrap64 ((wrap64 ((wrap64 ((wrap64 ((wrap64 (x1_1 + 1)) + 1)) + 1)) + 1)) + 1)) (wrap64 (x5_1 + 1))))) = some (r1, r2) := by first | (rw [hy104]; with_reducible exact H) | (have H2_ := (Option.bind_some _ _).symm.trans H; rw [hy104]; with_reducible exact H2_) | (have H2_ := (Option.bind_some _ _).symm.trans H; with_reducible exact H2_) | with_reducible exact H | (rw [hy104]; exact H) | exact H
     have Ny104 := Qz.mk hy104
     clear hy104
     replace H := Option.bind_eq_some_iff.mp H
     obtain ⟨t105, A90, H⟩ := H
     replace H : ((some (y104.set (x5_1 : Int).toNat (⟨(qk y104 x5_1).f0, (qk y104 x5_1).f1, (qk y104 x5_1).f2, t105, (qk y104 x5_1).f4⟩ : S66) : List (S66))).bind fun y106 => (laws_markMetaS.l0 k1 (y106.set (x5_1 : Int).toNat (⟨(qk y106 x5_1).f0, (qk y106 x5_1).f1, (qk y106 x5_1).f2, (qk y106 x5_1).f3, wrap64 ((wrap64 ((wrap64 ((wrap64 (x1_1 + 1)) + 1)) + 1)) + 1)⟩ : S66)) (wrap64 ((wrap64 ((wrap64 ((wrap64 ((wrap64 (x1_1 + 1)) + 1)) + 1)) + 1)) + 1)) (wrap64 (x5_1 + 1)))) = some (r1, r2) := H
     have A9 := Qz.mk A90
     clear A90
     obtain ⟨y106, hy106⟩ : ∃ y_ : List (S66), y_ = (y104.set (x5_1 : Int).toNat (⟨(qk y104 x5_1).f0, (qk y104 x5_1).f1, (qk y104 x5_1).f2, t105, (qk y104 x5_1).f4⟩ : S66)) := ⟨_, rfl⟩
     replace H : (laws_markMetaS.l0 k1 (y106.set (x5_1 : Int).toNat (⟨(qk y106 x5_1).f0, (qk y106 x5_1).f1, (qk y106 x5_1).f2, (qk y106 x5_1).f3, wrap64 ((wrap64 ((wrap64 ((wrap64 (x1_1 + 1)) + 1)) + 1)) + 1)⟩ : S66)) (wrap64 ((wrap64 ((wrap64 ((wrap64 ((wrap64 (x1_1 + 1)) + 1)) + 1)) + 1)) + 1)) (wrap64 (x5_1 + 1))) = some (r1, r2) := by first | (rw [hy106]; with_reducible exact H) | (have H2_ := (Option.bind_some _ _).symm.trans H; rw [hy106]; with_reducible exact H2_) | (have H2_ := (Option.bind_some _ _).symm.trans H; with_reducible exact H2_) | with_reducible exact H | (rw [hy106]; exact H) | exact H
     have Ny106 := Qz.mk hy106
     clear hy106
     obtain ⟨y107, hy107⟩ : ∃ y_ : List (S66), y_ = (y106.set (x5_1 : Int).toNat (⟨(qk y106 x5_1).f0, (qk y106 x5_1).f1, (qk y106 x5_1).f2, (qk y106 x5_1).f3, wrap64 ((wrap64 ((wrap64 ((wrap64 (x1_1 + 1)) + 1)) + 1)) + 1)⟩ : S66)) := ⟨_, rfl⟩
     replace H : (laws_markMetaS.l0 k1 y107 (wrap64 ((wrap64 ((wrap64 ((wrap64 ((wrap64 (x1_1 + 1)) + 1)) + 1)) + 1)) + 1)) (wrap64 (x5_1 + 1))) = some (r1, r2) := by first | (rw [hy107]; with_reducible exact H) | (have H2_ := (Option.bind_some _ _).symm.trans H; rw [hy107]; with_reducible exact H2_) | (have H2_ := (Option.bind_some _ _).symm.trans H; with_reducible exact H2_) | with_reducible exact H | (rw [hy107]; exact H) | exact H
     have Ny107 := Qz.mk hy107
     clear hy107
     have H' := Qz.mk H
     clear H
     obtain ⟨Ao12, co12, eo12⟩ := Kd.R_slice HO_0.out
     subst eo12
     have p5 : 0 ≤ (x5_1 : Int) := of_decide_eq_true yq69
     have q5 : (x5_1 : Int) < ((x0_1.length : Int) : Int) := of_decide_eq_true yq69
     obtain ⟨go5, co5, eo5, gb5, gl5, cl5, HG5⟩ := Kd.R_form HO_0.out (by omega)
     (first | cases eo5 | (injection eo5 with ea_ en_ ec_; (first | subst ea_ | (injection ea_ with ea_; subst ea_)); subst ec_; clear en_))
     have GB5 := Qz.mk gb5
     have GG5 := Qz.mk HG5
     clear gb5 gl5 HG5
     have HMgo5 := Qz.mk (show (P0_ go5 ∨ w.heap.size ≤ go5) from (HO_0.out.1 _ rfl))
     obtain ⟨ce5, hcl5, hM5, hcc5, hfr5⟩ := Kd.R_elem HO_0.out z66 (x5_1 : Int) p5 q5
     obtain rfl := k66_openM hM5
     have hx5_0 : wr.cell? ⟨go5, (x5_1 : Int).toNat * 5, none⟩ = some (.int .i64 ((qk x0_1 x5_1).f0)) := hcc5 0 _ rfl
     have hx5_1 : wr.cell? ⟨go5, (x5_1 : Int).toNat * 5 + 1, none⟩ = some (.int .i64 ((qk x0_1 x5_1).f1)) := hcc5 1 _ rfl
     have hx5_2 : wr.cell? ⟨go5, (x5_1 : Int).toNat * 5 + 2, none⟩ = some (.string ((qk x0_1 x5_1).f2)) := hcc5 2 _ rfl
     have hx5_3 : wr.cell? ⟨go5, (x5_1 : Int).toNat * 5 + 3, none⟩ = some (.string ((qk x0_1 x5_1).f3)) := hcc5 3 _ rfl
     have hx5_4 : wr.cell? ⟨go5, (x5_1 : Int).toNat * 5 + 4, none⟩ = some (.int .i64 ((qk x0_1 x5_1).f4)) := hcc5 4 _ rfl
     have hf5_0 : wr.frozen? ⟨go5, (x5_1 : Int).toNat * 5, none⟩ = false := hfr5 0
     have hf5_1 : wr.frozen? ⟨go5, (x5_1 : Int).toNat * 5 + 1, none⟩ = false := hfr5 1
     have hf5_2 : wr.frozen? ⟨go5, (x5_1 : Int).toNat * 5 + 2, none⟩ = false := hfr5 2
     have hf5_3 : wr.frozen? ⟨go5, (x5_1 : Int).toNat * 5 + 3, none⟩ = false := hfr5 3
     have hf5_4 : wr.frozen? ⟨go5, (x5_1 : Int).toNat * 5 + 4, none⟩ = false := hfr5 4
     clear hcl5 hcc5 hfr5 hM5
     replace p5 := eq_true p5
     replace q5 := eq_true q5
     have HX13 := Qz.mk (show Kd.R k66 66 wr w0.heap.size (fun k_ => (P0_ k_ ∨ w.heap.size ≤ k_)) (.slice (some ⟨go5, 0, none⟩) x0_1.length co12) x0_1 from yq71)
     obtain ⟨ce13, hcl13, hM13, hcc13, hfr13⟩ := Kd.R_elem HX13.out z66 (x5_1 : Int) (of_decide_eq_true yq69) (by have h_ : (x5_1 : Int) < ((x0_1.length : Int) : Int) := of_decide_eq_true yq69; first | exact h_ | (have e_ := (Kd.R_reads' HO_0.out).1; omega) | simpa using h_)
     obtain rfl := k66_openM hM13
     have HP13 := Kd.R_seg HX13.out (x5_1 : Int) (of_decide_eq_true yq69) (by have h_ : (x5_1 : Int) < ((x0_1.length : Int) : Int) := of_decide_eq_true yq69; first | exact h_ | (have e_ := (Kd.R_reads' HO_0.out).1; omega) | simpa using h_) (seg := [.int .i64 x1_1]) (j := 0) hcl13 hcc13 (show 1 ≤ 5 from by decide) (x' := (⟨x1_1, (qk x0_1 x5_1).f1, (qk x0_1 x5_1).f2, (qk x0_1 x5_1).f3, (qk x0_1 x5_1).f4⟩ : S66)) (k66_mkM _ _ _ (⟨x1_1, (qk x0_1 x5_1).f1, (qk x0_1 x5_1).f2, (qk x0_1 x5_1).f3, (qk x0_1 x5_1).f4⟩ : S66) ) (fun _ hk => hk)
     have hx13_0 := hcc13 0 _ rfl
     (try simp only [show (k66).sz = 5 from rfl, Nat.mul_one, Nat.add_zero] at hx13_0)
     have hf13_0 := hfr13 0
     (try simp only [show (k66).sz = 5 from rfl, Nat.mul_one, Nat.add_zero] at hf13_0)
     clear hcl13 hcc13 hfr13 hM13
     go_wp2_with (first | ((with_reducible refine gate_store (t := 2) (p := 16) rfl ?_); refine store_event (t := 2) (p := 16) (v := ?vo_w14) (w1 := (wr.setCell ⟨go5, (x5_1 : Int).toNat * 5, none⟩ (.int .i64 x1_1))) ?hg ?ho ?hn ?hr ?_; (case ho => rfl); (case hg => rfl); (case hn => rfl); (case hr => first | (go_simp; done) | (go_simp; rfl)); intro w14 hw; have hg : wr.grownBy w14 (some go5) := (by rw [hw]; exact HP13.2); have hp_ : Kd.R k66 66 w14 w0.heap.size (fun k_ => (P0_ k_ ∨ w.heap.size ≤ k_)) (.slice (some ⟨go5, 0, none⟩) x0_1.length co12) y101 := (by rw [hw, Ny101.out]; exact HP13.1); clear HP13; replace HB := Qz.mk ((by rw [hw]; exact qc (HB.out) GB5.out : Below w0.heap.size w0 w14)); replace HK := Qz.mk (Kept.of_grown (S := (fun k_ => P0_ k_)) hg yq70 (fun k_ e_ => (HO_0.out.1 k_ e_))); replace HO_0 := Qz.mk (hp_); clear hg hw hp_; have p6 : 0 ≤ (x5_1 : Int) := of_decide_eq_true yq69; have q6 : (x5_1 : Int) < ((x0_1.length : Int) : Int) := of_decide_eq_true yq69; obtain ⟨ce6, hcl6, hM6, hcc6, hfr6⟩ := Kd.R_elem HO_0.out z66 (x5_1 : Int) p6 q6; obtain rfl := k66_openM hM6; have hx6_0 : w14.cell? ⟨go5, (x5_1 : Int).toNat * 5, none⟩ = some (.int .i64 ((qk y101 x5_1).f0)) := hcc6 0 _ rfl; have hx6_1 : w14.cell? ⟨go5, (x5_1 : Int).toNat * 5 + 1, none⟩ = some (.int .i64 ((qk y101 x5_1).f1)) := hcc6 1 _ rfl; have hx6_2 : w14.cell? ⟨go5, (x5_1 : Int).toNat * 5 + 2, none⟩ = some (.string ((qk y101 x5_1).f2)) := hcc6 2 _ rfl; have hx6_3 : w14.cell? ⟨go5, (x5_1 : Int).toNat * 5 + 3, none⟩ = some (.string ((qk y101 x5_1).f3)) := hcc6 3 _ rfl; have hx6_4 : w14.cell? ⟨go5, (x5_1 : Int).toNat * 5 + 4, none⟩ = some (.int .i64 ((qk y101 x5_1).f4)) := hcc6 4 _ rfl; have hf6_0 : w14.frozen? ⟨go5, (x5_1 : Int).toNat * 5, none⟩ = false := hfr6 0; have hf6_1 : w14.frozen? ⟨go5, (x5_1 : Int).toNat * 5 + 1, none⟩ = false := hfr6 1; have hf6_2 : w14.frozen? ⟨go5, (x5_1 : Int).toNat * 5 + 2, none⟩ = false := hfr6 2; have hf6_3 : w14.frozen? ⟨go5, (x5_1 : Int).toNat * 5 + 3, none⟩ = false := hfr6 3; have hf6_4 : w14.frozen? ⟨go5, (x5_1 : Int).toNat * 5 + 4, none⟩ = false := hfr6 4; clear hcl6 hcc6 hfr6 hM6; replace p6 := eq_true p6; replace q6 := eq_true q6; have HX15 := Qz.mk (show Kd.R k66 66 w14 w0.heap.size (fun k_ => (P0_ k_ ∨ w.heap.size ≤ k_)) (.slice (some ⟨go5, 0, none⟩) x0_1.length co12) y101 from yq71); obtain ⟨ce15, hcl15, hM15, hcc15, hfr15⟩ := Kd.R_elem HX15.out z66 (x5_1 : Int) (of_decide_eq_true yq69) (by have h_ : (x5_1 : Int) < ((x0_1.length : Int) : Int) := of_decide_eq_true yq69; first | exact h_ | (have e_ := (Kd.R_reads' HO_0.out).1; omega) | simpa using h_); obtain rfl := k66_openM hM15; have HP15 := Kd.R_seg HX15.out (x5_1 : Int) (of_decide_eq_true yq69) (by have h_ : (x5_1 : Int) < ((x0_1.length : Int) : Int) := of_decide_eq_true yq69; first | exact h_ | (have e_ := (Kd.R_reads' HO_0.out).1; omega) | simpa using h_) (seg := [.int .i64 (wrap64 (x1_1 + 1))]) (j := 1) hcl15 hcc15 (show 2 ≤ 5 from by decide) (x' := (⟨(qk y101 x5_1).f0, wrap64 (x1_1 + 1), (qk y101 x5_1).f2, (qk y101 x5_1).f3, (qk y101 x5_1).f4⟩ : S66)) (k66_mkM _ _ _ (⟨(qk y101 x5_1).f0, wrap64 (x1_1 + 1), (qk y101 x5_1).f2, (qk y101 x5_1).f3, (qk y101 x5_1).f4⟩ : S66) ) (fun _ hk => hk); have hx15_1 := hcc15 1 _ rfl; (try simp only [show (k66).sz = 5 from rfl, Nat.mul_one, Nat.add_zero] at hx15_1); have hf15_1 := hfr15 1; (try simp only [show (k66).sz = 5 from rfl, Nat.mul_one, Nat.add_zero] at hf15_1); clear hcl15 hcc15 hfr15 hM15) | ((with_reducible refine gate_store (t := 2) (p := 23) rfl ?_); refine store_event (t := 2) (p := 23) (v := ?vo_w16) (w1 := (w14.setCell ⟨go5, (x5_1 : Int).toNat * 5 + 1, none⟩ (.int .i64 (wrap64 (x1_1 + 1))))) ?hg ?ho ?hn ?hr ?_; (case ho => rfl); (case hg => rfl); (case hn => rfl); (case hr => first | (go_simp; done) | (go_simp; rfl)); intro w16 hw; have hg : w14.grownBy w16 (some go5) := (by rw [hw]; exact HP15.2); have hp_ : Kd.R k66 66 w16 w0.heap.size (fun k_ => (P0_ k_ ∨ w.heap.size ≤ k_)) (.slice (some ⟨go5, 0, none⟩) x0_1.length co12) y102 := (by rw [hw, Ny102.out]; exact HP15.1); clear HP15; replace HB := Qz.mk ((by rw [hw]; exact qc (HB.out) GB5.out : Below w0.heap.size w0 w16)); replace HK := Qz.mk (Kept.of_grown (S := (fun k_ => P0_ k_)) hg yq70 (fun k_ e_ => (HO_0.out.1 k_ e_))); replace HO_0 := Qz.mk (hp_); clear hg hw hp_) | ((with_reducible refine qo (f := 97) rfl ?_); refine goesL_ (some 29) rfl rfl Try.func97 (by kernel_rfl) rfl #[.int .i64 (wrap64 ((wrap64 (x1_1 + 1)) + 1))] rfl (by (try simp only [List.map_toArray, List.map_cons, List.map_nil]); first | done | rfl | (simp only [List.length_drop, List.length_take]; rfl) | (rw [IntWalk.u64_in _ (by omega)] <;> rfl)) ?_; (with_reducible refine (laws_markText.calls k1 (wrap64 ((wrap64 (x1_1 + 1)) + 1)) t103 _ A7.out).mono ?_); rintro e w17 ⟨rfl, hb⟩; refine ⟨_, rfl, ?_⟩; replace HO_0 := Qz.mk (Kd.R_below yq71 hb); replace HK := Qz.mk (Kept.below (S := (fun k_ => P0_ k_)) yq70 hb); replace HB := Qz.mk (qj (by repeat (first | (with_reducible first | exact HB.out | apply qi | apply qb | apply qh) | exact HB.out)) hb); (try clear hb); (try clear hk); have p8 : 0 ≤ (x5_1 : Int) := of_decide_eq_true yq69; have q8 : (x5_1 : Int) < ((x0_1.length : Int) : Int) := of_decide_eq_true yq69; obtain ⟨ce8, hcl8, hM8, hcc8, hfr8⟩ := Kd.R_elem HO_0.out z66 (x5_1 : Int) p8 q8; obtain rfl := k66_openM hM8; have hx8_0 : w17.cell? ⟨go5, (x5_1 : Int).toNat * 5, none⟩ = some (.int .i64 ((qk y102 x5_1).f0)) := hcc8 0 _ rfl; have hx8_1 : w17.cell? ⟨go5, (x5_1 : Int).toNat * 5 + 1, none⟩ = some (.int .i64 ((qk y102 x5_1).f1)) := hcc8 1 _ rfl; have hx8_2 : w17.cell? ⟨go5, (x5_1 : Int).toNat * 5 + 2, none⟩ = some (.string ((qk y102 x5_1).f2)) := hcc8 2 _ rfl; have hx8_3 : w17.cell? ⟨go5, (x5_1 : Int).toNat * 5 + 3, none⟩ = some (.string ((qk y102 x5_1).f3)) := hcc8 3 _ rfl; have hx8_4 : w17.cell? ⟨go5, (x5_1 : Int).toNat * 5 + 4, none⟩ = some (.int .i64 ((qk y102 x5_1).f4)) := hcc8 4 _ rfl; have hf8_0 : w17.frozen? ⟨go5, (x5_1 : Int).toNat * 5, none⟩ = false := hfr8 0; have hf8_1 : w17.frozen? ⟨go5, (x5_1 : Int).toNat * 5 + 1, none⟩ = false := hfr8 1; have hf8_2 : w17.frozen? ⟨go5, (x5_1 : Int).toNat * 5 + 2, none⟩ = false := hfr8 2; have hf8_3 : w17.frozen? ⟨go5, (x5_1 : Int).toNat * 5 + 3, none⟩ = false := hfr8 3; have hf8_4 : w17.frozen? ⟨go5, (x5_1 : Int).toNat * 5 + 4, none⟩ = false := hfr8 4; clear hcl8 hcc8 hfr8 hM8; replace p8 := eq_true p8; replace q8 := eq_true q8; have HX18 := Qz.mk (show Kd.R k66 66 w17 w0.heap.size (fun k_ => (P0_ k_ ∨ w.heap.size ≤ k_)) (.slice (some ⟨go5, 0, none⟩) x0_1.length co12) y102 from yq71); obtain ⟨ce18, hcl18, hM18, hcc18, hfr18⟩ := Kd.R_elem HX18.out z66 (x5_1 : Int) (of_decide_eq_true yq69) (by have h_ : (x5_1 : Int) < ((x0_1.length : Int) : Int) := of_decide_eq_true yq69; first | exact h_ | (have e_ := (Kd.R_reads' HO_0.out).1; omega) | simpa using h_); obtain rfl := k66_openM hM18; have HP18 := Kd.R_seg HX18.out (x5_1 : Int) (of_decide_eq_true yq69) (by have h_ : (x5_1 : Int) < ((x0_1.length : Int) : Int) := of_decide_eq_true yq69; first | exact h_ | (have e_ := (Kd.R_reads' HO_0.out).1; omega) | simpa using h_) (seg := [.string t103]) (j := 2) hcl18 hcc18 (show 3 ≤ 5 from by decide) (x' := (⟨(qk y102 x5_1).f0, (qk y102 x5_1).f1, t103, (qk y102 x5_1).f3, (qk y102 x5_1).f4⟩ : S66)) (k66_mkM _ _ _ (⟨(qk y102 x5_1).f0, (qk y102 x5_1).f1, t103, (qk y102 x5_1).f3, (qk y102 x5_1).f4⟩ : S66) ) (fun _ hk => hk); have hx18_2 := hcc18 2 _ rfl; (try simp only [show (k66).sz = 5 from rfl, Nat.mul_one, Nat.add_zero] at hx18_2); have hf18_2 := hfr18 2; (try simp only [show (k66).sz = 5 from rfl, Nat.mul_one, Nat.add_zero] at hf18_2); clear hcl18 hcc18 hfr18 hM18) | ((with_reducible refine gate_store (t := 9) (p := 31) rfl ?_); refine store_event (t := 9) (p := 31) (v := ?vo_w19) (w1 := (w17.setCell ⟨go5, (x5_1 : Int).toNat * 5 + 2, none⟩ (.string t103))) ?hg ?ho ?hn ?hr ?_; (case ho => rfl); (case hg => rfl); (case hn => rfl); (case hr => first | (go_simp; done) | (go_simp; rfl)); intro w19 hw; have hg : w17.grownBy w19 (some go5) := (by rw [hw]; exact HP18.2); have hp_ : Kd.R k66 66 w19 w0.heap.size (fun k_ => (P0_ k_ ∨ w.heap.size ≤ k_)) (.slice (some ⟨go5, 0, none⟩) x0_1.length co12) y104 := (by rw [hw, Ny104.out]; exact HP18.1); clear HP18; replace HB := Qz.mk ((by rw [hw]; exact qc (HB.out) GB5.out : Below w0.heap.size w0 w19)); replace HK := Qz.mk (Kept.of_grown (S := (fun k_ => P0_ k_)) hg yq70 (fun k_ e_ => (HO_0.out.1 k_ e_))); replace HO_0 := Qz.mk (hp_); clear hg hw hp_) | ((with_reducible refine qo (f := 97) rfl ?_); refine goesL_ (some 37) rfl rfl Try.func97 (by kernel_rfl) rfl #[.int .i64 (wrap64 ((wrap64 ((wrap64 (x1_1 + 1)) + 1)) + 1))] rfl (by (try simp only [List.map_toArray, List.map_cons, List.map_nil]); first | done | rfl | (simp only [List.length_drop, List.length_take]; rfl) | (rw [IntWalk.u64_in _ (by omega)] <;> rfl)) ?_; (with_reducible refine (laws_markText.calls k1 (wrap64 ((wrap64 ((wrap64 (x1_1 + 1)) + 1)) + 1)) t105 _ A9.out).mono ?_); rintro e w20 ⟨rfl, hb⟩; refine ⟨_, rfl, ?_⟩; replace HO_0 := Qz.mk (Kd.R_below yq71 hb); replace HK := Qz.mk (Kept.below (S := (fun k_ => P0_ k_)) yq70 hb); replace HB := Qz.mk (qj (by repeat (first | (with_reducible first | exact HB.out | apply qi | apply qb | apply qh) | exact HB.out)) hb); (try clear hb); (try clear hk); have p10 : 0 ≤ (x5_1 : Int) := of_decide_eq_true yq69; have q10 : (x5_1 : Int) < ((x0_1.length : Int) : Int) := of_decide_eq_true yq69; obtain ⟨ce10, hcl10, hM10, hcc10, hfr10⟩ := Kd.R_elem HO_0.out z66 (x5_1 : Int) p10 q10; obtain rfl := k66_openM hM10; have hx10_0 : w20.cell? ⟨go5, (x5_1 : Int).toNat * 5, none⟩ = some (.int .i64 ((qk y104 x5_1).f0)) := hcc10 0 _ rfl; have hx10_1 : w20.cell? ⟨go5, (x5_1 : Int).toNat * 5 + 1, none⟩ = some (.int .i64 ((qk y104 x5_1).f1)) := hcc10 1 _ rfl; have hx10_2 : w20.cell? ⟨go5, (x5_1 : Int).toNat * 5 + 2, none⟩ = some (.string ((qk y104 x5_1).f2)) := hcc10 2 _ rfl; have hx10_3 : w20.cell? ⟨go5, (x5_1 : Int).toNat * 5 + 3, none⟩ = some (.string ((qk y104 x5_1).f3)) := hcc10 3 _ rfl; have hx10_4 : w20.cell? ⟨go5, (x5_1 : Int).toNat * 5 + 4, none⟩ = some (.int .i64 ((qk y104 x5_1).f4)) := hcc10 4 _ rfl; have hf10_0 : w20.frozen? ⟨go5, (x5_1 : Int).toNat * 5, none⟩ = false := hfr10 0; have hf10_1 : w20.frozen? ⟨go5, (x5_1 : Int).toNat * 5 + 1, none⟩ = false := hfr10 1; have hf10_2 : w20.frozen? ⟨go5, (x5_1 : Int).toNat * 5 + 2, none⟩ = false := hfr10 2; have hf10_3 : w20.frozen? ⟨go5, (x5_1 : Int).toNat * 5 + 3, none⟩ = false := hfr10 3; have hf10_4 : w20.frozen? ⟨go5, (x5_1 : Int).toNat * 5 + 4, none⟩ = false := hfr10 4; clear hcl10 hcc10 hfr10 hM10; replace p10 := eq_true p10; replace q10 := eq_true q10; have HX21 := Qz.mk (show Kd.R k66 66 w20 w0.heap.size (fun k_ => (P0_ k_ ∨ w.heap.size ≤ k_)) (.slice (some ⟨go5, 0, none⟩) x0_1.length co12) y104 from yq71); obtain ⟨ce21, hcl21, hM21, hcc21, hfr21⟩ := Kd.R_elem HX21.out z66 (x5_1 : Int) (of_decide_eq_true yq69) (by have h_ : (x5_1 : Int) < ((x0_1.length : Int) : Int) := of_decide_eq_true yq69; first | exact h_ | (have e_ := (Kd.R_reads' HO_0.out).1; omega) | simpa using h_); obtain rfl := k66_openM hM21; have HP21 := Kd.R_seg HX21.out (x5_1 : Int) (of_decide_eq_true yq69) (by have h_ : (x5_1 : Int) < ((x0_1.length : Int) : Int) := of_decide_eq_true yq69; first | exact h_ | (have e_ := (Kd.R_reads' HO_0.out).1; omega) | simpa using h_) (seg := [.string t105]) (j := 3) hcl21 hcc21 (show 4 ≤ 5 from by decide) (x' := (⟨(qk y104 x5_1).f0, (qk y104 x5_1).f1, (qk y104 x5_1).f2, t105, (qk y104 x5_1).f4⟩ : S66)) (k66_mkM _ _ _ (⟨(qk y104 x5_1).f0, (qk y104 x5_1).f1, (qk y104 x5_1).f2, t105, (qk y104 x5_1).f4⟩ : S66) ) (fun _ hk => hk); have hx21_3 := hcc21 3 _ rfl; (try simp only [show (k66).sz = 5 from rfl, Nat.mul_one, Nat.add_zero] at hx21_3); have hf21_3 := hfr21 3; (try simp only [show (k66).sz = 5 from rfl, Nat.mul_one, Nat.add_zero] at hf21_3); clear hcl21 hcc21 hfr21 hM21) | ((with_reducible refine gate_store (t := 9) (p := 39) rfl ?_); refine store_event (t := 9) (p := 39) (v := ?vo_w22) (w1 := (w20.setCell ⟨go5, (x5_1 : Int).toNat * 5 + 3, none⟩ (.string t105))) ?hg ?ho ?hn ?hr ?_; (case ho => rfl); (case hg => rfl); (case hn => rfl); (case hr => first | (go_simp; done) | (go_simp; rfl)); intro w22 hw; have hg : w20.grownBy w22 (some go5) := (by rw [hw]; exact HP21.2); have hp_ : Kd.R k66 66 w22 w0.heap.size (fun k_ => (P0_ k_ ∨ w.heap.size ≤ k_)) (.slice (some ⟨go5, 0, none⟩) x0_1.length co12) y106 := (by rw [hw, Ny106.out]; exact HP21.1); clear HP21; replace HB := Qz.mk ((by rw [hw]; exact qc (HB.out) GB5.out : Below w0.heap.size w0 w22)); replace HK := Qz.mk (Kept.of_grown (S := (fun k_ => P0_ k_)) hg yq70 (fun k_ e_ => (HO_0.out.1 k_ e_))); replace HO_0 := Qz.mk (hp_); clear hg hw hp_; have p11 : 0 ≤ (x5_1 : Int) := of_decide_eq_true yq69; have q11 : (x5_1 : Int) < ((x0_1.length : Int) : Int) := of_decide_eq_true yq69; obtain ⟨ce11, hcl11, hM11, hcc11, hfr11⟩ := Kd.R_elem HO_0.out z66 (x5_1 : Int) p11 q11; obtain rfl := k66_openM hM11; have hx11_0 : w22.cell? ⟨go5, (x5_1 : Int).toNat * 5, none⟩ = some (.int .i64 ((qk y106 x5_1).f0)) := hcc11 0 _ rfl; have hx11_1 : w22.cell? ⟨go5, (x5_1 : Int).toNat * 5 + 1, none⟩ = some (.int .i64 ((qk y106 x5_1).f1)) := hcc11 1 _ rfl; have hx11_2 : w22.cell? ⟨go5, (x5_1 : Int).toNat * 5 + 2, none⟩ = some (.string ((qk y106 x5_1).f2)) := hcc11 2 _ rfl; have hx11_3 : w22.cell? ⟨go5, (x5_1 : Int).toNat * 5 + 3, none⟩ = some (.string ((qk y106 x5_1).f3)) := hcc11 3 _ rfl; have hx11_4 : w22.cell? ⟨go5, (x5_1 : Int).toNat * 5 + 4, none⟩ = some (.int .i64 ((qk y106 x5_1).f4)) := hcc11 4 _ rfl; have hf11_0 : w22.frozen? ⟨go5, (x5_1 : Int).toNat * 5, none⟩ = false := hfr11 0; have hf11_1 : w22.frozen? ⟨go5, (x5_1 : Int).toNat * 5 + 1, none⟩ = false := hfr11 1; have hf11_2 : w22.frozen? ⟨go5, (x5_1 : Int).toNat * 5 + 2, none⟩ = false := hfr11 2; have hf11_3 : w22.frozen? ⟨go5, (x5_1 : Int).toNat * 5 + 3, none⟩ = false := hfr11 3; have hf11_4 : w22.frozen? ⟨go5, (x5_1 : Int).toNat * 5 + 4, none⟩ = false := hfr11 4; clear hcl11 hcc11 hfr11 hM11; replace p11 := eq_true p11; replace q11 := eq_true q11; have HX23 := Qz.mk (show Kd.R k66 66 w22 w0.heap.size (fun k_ => (P0_ k_ ∨ w.heap.size ≤ k_)) (.slice (some ⟨go5, 0, none⟩) x0_1.length co12) y106 from yq71); obtain ⟨ce23, hcl23, hM23, hcc23, hfr23⟩ := Kd.R_elem HX23.out z66 (x5_1 : Int) (of_decide_eq_true yq69) (by have h_ : (x5_1 : Int) < ((x0_1.length : Int) : Int) := of_decide_eq_true yq69; first | exact h_ | (have e_ := (Kd.R_reads' HO_0.out).1; omega) | simpa using h_); obtain rfl := k66_openM hM23; have HP23 := Kd.R_seg HX23.out (x5_1 : Int) (of_decide_eq_true yq69) (by have h_ : (x5_1 : Int) < ((x0_1.length : Int) : Int) := of_decide_eq_true yq69; first | exact h_ | (have e_ := (Kd.R_reads' HO_0.out).1; omega) | simpa using h_) (seg := [.int .i64 (wrap64 ((wrap64 ((wrap64 ((wrap64 (x1_1 + 1)) + 1)) + 1)) + 1))]) (j := 4) hcl23 hcc23 (show 5 ≤ 5 from by decide) (x' := (⟨(qk y106 x5_1).f0, (qk y106 x5_1).f1, (qk y106 x5_1).f2, (qk y106 x5_1).f3, wrap64 ((wrap64 ((wrap64 ((wrap64 (x1_1 + 1)) + 1)) + 1)) + 1)⟩ : S66)) (k66_mkM _ _ _ (⟨(qk y106 x5_1).f0, (qk y106 x5_1).f1, (qk y106 x5_1).f2, (qk y106 x5_1).f3, wrap64 ((wrap64 ((wrap64 ((wrap64 (x1_1 + 1)) + 1)) + 1)) + 1)⟩ : S66) ) (fun _ hk => hk); have hx23_4 := hcc23 4 _ rfl; (try simp only [show (k66).sz = 5 from rfl, Nat.mul_one, Nat.add_zero] at hx23_4); have hf23_4 := hfr23 4; (try simp only [show (k66).sz = 5 from rfl, Nat.mul_one, Nat.add_zero] at hf23_4); clear hcl23 hcc23 hfr23 hM23) | ((with_reducible refine gate_store (t := 2) (p := 46) rfl ?_); refine store_event (t := 2) (p := 46) (v := ?vo_w24) (w1 := (w22.setCell ⟨go5, (x5_1 : Int).toNat * 5 + 4, none⟩ (.int .i64 (wrap64 ((wrap64 ((wrap64 ((wrap64 (x1_1 + 1)) + 1)) + 1)) + 1))))) ?hg ?ho ?hn ?hr ?_; (case ho => rfl); (case hg => rfl); (case hn => rfl); (case hr => first | (go_simp; done) | (go_simp; rfl)); intro w24 hw; have hg : w22.grownBy w24 (some go5) := (by rw [hw]; exact HP23.2); have hp_ : Kd.R k66 66 w24 w0.heap.size (fun k_ => (P0_ k_ ∨ w.heap.size ≤ k_)) (.slice (some ⟨go5, 0, none⟩) x0_1.length co12) y107 := (by rw [hw, Ny107.out]; exact HP23.1); clear HP23; replace HB := Qz.mk ((by rw [hw]; exact qc (HB.out) GB5.out : Below w0.heap.size w0 w24)); replace HK := Qz.mk (Kept.of_grown (S := (fun k_ => P0_ k_)) hg yq70 (fun k_ e_ => (HO_0.out.1 k_ e_))); replace HO_0 := Qz.mk (hp_); clear hg hw hp_))
     go_roundg k1
     case measure => have := HK1.out; omega
     case rel => exact ⟨(y107), (wrap64 ((wrap64 ((wrap64 ((wrap64 ((wrap64 (x1_1 + 1)) + 1)) + 1)) + 1)) + 1)), (wrap64 (x5_1 + 1)), (by first | rfl | (simp; done) | (simp [*]; done)), (by first | rfl | (simp; done) | (simp [*]; done)), H', ⟨by have := HK1.out; omega⟩, ⟨by (with_reducible repeat (first | apply Kd.R_alloc | apply Kd.R_drewN | apply Kd.R_drew)); exact HO_0.out⟩, ⟨by repeat (first | (with_reducible first | exact HK.out | apply Kept.alloc | apply Kept.drewN | apply Kept.drew) | exact HK.out)⟩, ⟨by repeat (first | (with_reducible first | exact HB.out | apply qi | apply qb | apply qh) | exact HB.out)⟩⟩
    ·rw [if_neg c4] at H
     exact absurd H (by simp)
   ·rw [if_neg c3] at H
    have c3b0 : decide (x5_1 < (x0_1.length : Int)) = false := decide_eq_false c3
    clear c3
    simp only [Option.some.injEq, Prod.mk.injEq] at H
    obtain ⟨rfl, rfl⟩ := H
    obtain ⟨Ao25, co25, eo25⟩ := Kd.R_slice HO_0.out
    subst eo25
    go_wp2
    go_ret
    exact ⟨by first | rfl | (simp [qn, qm] <;> rfl) | (simp [*, qn, qm] <;> rfl), by (with_reducible repeat (first | apply Kd.R_alloc | apply Kd.R_drewN | apply Kd.R_drew)); exact HO_0.out, by repeat (first | (with_reducible first | exact HB.out | apply qi | apply qb | apply qh) | exact HB.out), by repeat (first | (with_reducible first | exact HK.out | apply Kept.alloc | apply Kept.drewN | apply Kept.drew) | exact HK.out)⟩
def laws_markVersion.f (k : Nat) (l0_0 : List (S66)) (a0_1 : Int) (a0_2 : Int) (a0_3 : Int) (a1 : Int) : Option (Int × (List (S66))) := (laws_markMetaS.f k l0_0 a1).bind fun bt102 => (some (bt102.1, bt102.2))
set_option maxHeartbeats 8000000 in
set_option maxRecDepth 100000 in
theorem laws_markVersion.calls (k : Nat) (P0_0_ : Nat → Prop) (u9000_ : Value) (l0_0 : List (S66)) (a0_1 : Int) (a0_2 : Int) (a0_3 : Int) (a1 : Int) (r1 : Int) (r2 : List (S66)) (w0 w : World) (hB : Below w0.heap.size w0 w) (ho0_0 : Kd.R k66 66 w w0.heap.size P0_0_ u9000_ l0_0) (h : laws_markVersion.f k l0_0 a0_1 a0_2 a0_3 a1 = some (r1, r2)) :
  Calls Try.prog 23 #[.agg #[u9000_, .int .i64 a0_1, .int .i64 a0_2, .int .i64 a0_3], .int .i64 a1] w fun e w' => e = .returned (.int .i64 r1) ∧ Kd.R k66 66 w' w0.heap.size (fun k_ => (P0_0_ k_ ∨ w.heap.size ≤ k_)) u9000_ r2 ∧ Below w0.heap.size w0 w' ∧ Kept w w' (fun k_ => P0_0_ k_) := by
 have hu32 := Try.underlying32
 have HO0_0 := Qz.mk (show Kd.R k66 66 w w0.heap.size (fun k_ => (P0_0_ k_ ∨ w.heap.size ≤ k_)) u9000_ l0_0 from Kd.R_mono ho0_0 (fun k_ hk => (.inl hk)))
 have HK := Qz.mk (Kept.refl w (fun k_ => P0_0_ k_))
 have HW0 := Qz.mk hB.size
 have HB := Qz.mk hB
 clear hB
 have H : ((laws_markMetaS.f k l0_0 a1).bind fun bt102 => (some (bt102.1, bt102.2))) = some (r1, r2) := h
 clear h
 replace H := Option.bind_eq_some_iff.mp H
 obtain ⟨⟨t102, t103⟩, A30, H⟩ := H
 replace H : (some (t102, t103)) = some (r1, r2) := H
 have A3 := Qz.mk A30
 clear A30
 simp only [Option.some.injEq, Prod.mk.injEq] at H
 obtain ⟨rfl, rfl⟩ := H
 obtain ⟨Ao4, co4, eo4⟩ := Kd.R_slice HO0_0.out
 subst eo4
 go_enter Try.func23, Try.ntmps23
 go_wp2_with (first | ((with_reducible refine qt (N := 2) rfl ?_); refine qr ?hg (N := 2) ?hd (cs := #[.slice Ao4 l0_0.length co4, .int .i64 a0_1, .int .i64 a0_2, .int .i64 a0_3]) (t := 32) ?hr ?_; (case hd => rfl); (case hg => rfl); (case hr => first | (go_simp; done) | (go_simp; rfl)); intro gb101 hg w5 hbox hb; replace HO0_0 := Qz.mk (Kd.R_below (by (with_reducible repeat (first | apply Kd.R_alloc | apply Kd.R_drewN | apply Kd.R_drew)); exact HO0_0.out) hb); have BK101 := Qz.mk (hbox); have GW101 := Qz.mk ((by rw [hg]; exact (by first | exact HK.out.1 | exact (show Kept w _ (fun k_ => P0_0_ k_) from by repeat (first | (with_reducible first | exact HK.out | apply Kept.alloc | apply Kept.drewN | apply Kept.drew) | exact HK.out)).1) : w.heap.size ≤ gb101)); replace HK := Qz.mk (Kept.below (S := (fun k_ => P0_0_ k_)) (by repeat (first | (with_reducible first | exact HK.out | apply Kept.alloc | apply Kept.drewN | apply Kept.drew) | exact HK.out)) hb); have GE101 := Qz.mk ((by rw [hg]; exact (ql (by repeat (first | (with_reducible first | exact HB.out | apply qi | apply qb | apply qh) | exact HB.out))) : w0.heap.size ≤ gb101)); replace HB := Qz.mk (qj (by repeat (first | (with_reducible first | exact HB.out | apply qi | apply qb | apply qh) | exact HB.out)) hb); clear hb hbox hg; have hcz6_0 := (qa BK101.out 0).trans rfl; have hcz6_1 := (qa BK101.out 1).trans rfl; have hcz6_2 := (qa BK101.out 2).trans rfl; have hcz6_3 := (qa BK101.out 3).trans rfl; have hfz6_0 := qd BK101.out 0; have hfz6_1 := qd BK101.out 1; have hfz6_2 := qd BK101.out 2; have hfz6_3 := qd BK101.out 3) | ((with_reducible refine qo (f := 61) rfl ?_); refine goesL_ (some 8) rfl rfl Try.func61 (by kernel_rfl) rfl #[.slice Ao4 l0_0.length co4, .int .i64 a1] rfl (by (try simp only [List.map_toArray, List.map_cons, List.map_nil]); first | done | rfl | (simp only [List.length_drop, List.length_take]; rfl) | (rw [IntWalk.u64_in _ (by omega)] <;> rfl)) ?_; (with_reducible refine (laws_markMetaS.calls k (fun k_ => some k_ = (.slice Ao4 l0_0.length co4 : Value).ownBlock) (.slice Ao4 l0_0.length co4) l0_0 a1 t102 t103 w0 _ ?side1 ?side2 A3.out).mono ?_); (case side1 => repeat (first | (with_reducible first | exact HB.out | apply qi | apply qb | apply qh | refine qc ?_ GE101.out) | exact HB.out)); (case side2 => exact Kd.R_tight rfl HO0_0.out); rintro e w7 ⟨rfl, hy0, hb, hkp⟩; refine ⟨_, rfl, ?_⟩; replace BK101 := Qz.mk (blk_kept (by (with_reducible repeat (first | refine qf ?_ _ | refine qg ?_ | refine qe ?_ _)); exact BK101.out) hkp (fun hs_ => (fun e_ => (Kd.R_ne HO0_0.out BK101.out (by decide)) e_) hs_)); replace HK := Qz.mk (Kept.then_ (S := (fun k_ => P0_0_ k_)) (by repeat (first | (with_reducible first | exact HK.out | apply Kept.alloc | apply Kept.drewN | apply Kept.drew | refine Kept.setCell ?_ (.inr GW101.out) _) | exact HK.out)) hkp (fun k_ hs_ => (fun e_ => (HO0_0.out.1 k_ e_.symm)) hs_)); replace HO0_0 := Qz.mk (Kd.R_reok rfl hy0 (fun k_ e_ => HO0_0.out.1 k_ e_)); replace HB := Qz.mk (hb); (try clear hb); (try clear hkp); (try clear hy0)))
 go_ret
 exact ⟨by first | rfl | (simp [qn, qm] <;> rfl) | (simp [*, qn, qm] <;> rfl), by (with_reducible repeat (first | apply Kd.R_alloc | apply Kd.R_drewN | apply Kd.R_drew)); exact HO0_0.out, by repeat (first | (with_reducible first | exact HB.out | apply qi | apply qb | apply qh | refine qc ?_ GE101.out) | exact HB.out), by repeat (first | (with_reducible first | exact HK.out | apply Kept.alloc | apply Kept.drewN | apply Kept.drew | refine Kept.setCell ?_ (.inr GW101.out) _) | exact HK.out)⟩
def laws_markInt64S.l0 : Nat → List Int → Int → Int → Option (Int × List Int)
 | 0, _, _, _ => none
 | k + 1, x0, x1, x5 => if x5 < (x0.length : Int) then (if 0 ≤ x5 then (laws_markInt64S.l0 k (x0.set (x5 : Int).toNat x1) (wrap64 (x1 + 1)) (wrap64 (x5 + 1))) else (none)) else (some (x1, x0))
def laws_markInt64S.f (k : Nat) (l0 : List Int) (a1 : Int) : Option (Int × List Int) := laws_markInt64S.l0 k l0 a1 0
set_option maxHeartbeats 8000000 in
set_option maxRecDepth 100000 in
theorem laws_markInt64S.calls (k : Nat) (P0_ : Nat → Prop) (u9000_ : Value) (l0 : List Int) (a1 : Int) (r1 : Int) (r2 : List Int) (w0 w : World) (hB : Below w0.heap.size w0 w) (ho0 : Kd.R (Kd.int .i64) 2 w w0.heap.size P0_ u9000_ l0) (h : laws_markInt64S.f k l0 a1 = some (r1, r2)) :
  Calls Try.prog 45 #[u9000_, .int .i64 a1] w fun e w' => e = .returned (.int .i64 r1) ∧ Kd.R (Kd.int .i64) 2 w' w0.heap.size (fun k_ => (P0_ k_ ∨ w.heap.size ≤ k_)) u9000_ r2 ∧ Below w0.heap.size w0 w' ∧ Kept w w' (fun k_ => P0_ k_) := by
 have HO0 := Qz.mk (show Kd.R (Kd.int .i64) 2 w w0.heap.size (fun k_ => (P0_ k_ ∨ w.heap.size ≤ k_)) u9000_ l0 from Kd.R_mono ho0 (fun k_ hk => (.inl hk)))
 have HK := Qz.mk (Kept.refl w (fun k_ => P0_ k_))
 have HW0 := Qz.mk hB.size
 have HB := Qz.mk hB
 clear hB
 have H : (laws_markInt64S.l0 k l0 a1 0) = some (r1, r2) := h
 clear h
 have H' := Qz.mk H
 clear H
 go_enter Try.func45, Try.ntmps45
 go_wp2
 go_loopg [1, 5] k (fun kq v1 v5 w' => ∃ (x0_1 : List Int) (x1_1 : Int) (x5_1 : Int), v1 = .int .i64 x1_1 ∧ v5 = .int .i64 x5_1 ∧ Qz (laws_markInt64S.l0 kq x0_1 x1_1 x5_1 = some (r1, r2)) ∧ Qz (kq ≤ k) ∧ Qz (Kd.R (Kd.int .i64) 2 w' w0.heap.size (fun k_ => (P0_ k_ ∨ w.heap.size ≤ k_)) u9000_ x0_1) ∧ Qz (Kept w w' (fun k_ => P0_ k_)) ∧ Qz (Below w0.heap.size w0 w'))
 case atStart => exact ⟨(l0), (a1), (0), (by first | rfl | (simp; done) | (simp [*]; done)), (by first | rfl | (simp; done) | (simp [*]; done)), H', ⟨Nat.le_refl _⟩, ⟨by (with_reducible repeat (first | apply Kd.R_alloc | apply Kd.R_drewN | apply Kd.R_drew)); exact HO0.out⟩, ⟨by repeat (first | (with_reducible first | exact HK.out | apply Kept.alloc | apply Kept.drewN | apply Kept.drew) | exact HK.out)⟩, ⟨by repeat (first | (with_reducible first | exact HB.out | apply qi | apply qb | apply qh) | exact HB.out)⟩⟩
 case round =>
  clear H'
  try clear p2
  obtain ⟨x0_1, x1_1, x5_1, rfl, rfl, HA, HK1, HO_0, HK, HB⟩ := hrel
  cases gk with
  | zero => exact absurd HA.out (by simp [laws_markInt64S.l0])
  | succ k1 =>
   have H := HA.out
   clear HA
   simp only [laws_markInt64S.l0] at H
   by_cases c3 : x5_1 < (x0_1.length : Int)
   ·rw [if_pos c3] at H
    have c3b0 : decide (x5_1 < (x0_1.length : Int)) = true := decide_eq_true c3
    clear c3
    by_cases c4 : 0 ≤ x5_1
    ·rw [if_pos c4] at H
     have c4b0 : decide (0 ≤ x5_1) = true := decide_eq_true c4
     clear c4
     obtain ⟨y101, hy101⟩ : ∃ y_ : List Int, y_ = (x0_1.set (x5_1 : Int).toNat x1_1) := ⟨_, rfl⟩
     replace H : (laws_markInt64S.l0 k1 y101 (wrap64 (x1_1 + 1)) (wrap64 (x5_1 + 1))) = some (r1, r2) := by first | (rw [hy101]; with_reducible exact H) | (have H2_ := (Option.bind_some _ _).symm.trans H; rw [hy101]; with_reducible exact H2_) | (have H2_ := (Option.bind_some _ _).symm.trans H; with_reducible exact H2_) | with_reducible exact H | (rw [hy101]; exact H) | exact H
     have Ny101 := Qz.mk hy101
     clear hy101
     have H' := Qz.mk H
     clear H
     obtain ⟨Ao6, co6, eo6⟩ := Kd.R_slice HO_0.out
     subst eo6
     have p5 : 0 ≤ (x5_1 : Int) := of_decide_eq_true (by first | (with_reducible assumption) | assumption)
     have q5 : (x5_1 : Int) < ((x0_1.length : Int) : Int) := of_decide_eq_true (by first | (with_reducible assumption) | assumption)
     obtain ⟨go5, co5, eo5, gb5, gl5, cl5, HG5⟩ := Kd.R_form HO_0.out (by omega)
     (first | cases eo5 | (injection eo5 with ea_ en_ ec_; (first | subst ea_ | (injection ea_ with ea_; subst ea_)); subst ec_; clear en_))
     have GB5 := Qz.mk gb5
     have GG5 := Qz.mk HG5
     clear gb5 gl5 HG5
     have HMgo5 := Qz.mk (show (P0_ go5 ∨ w.heap.size ≤ go5) from (HO_0.out.1 _ rfl))
     obtain ⟨hx5_0, hf5_0⟩ := Kd.R_celln 0 HO_0.out (x5_1 : Int) p5 q5
     replace p5 := eq_true p5
     replace q5 := eq_true q5
     have HP7 := Kd.R_putg HO_0.out (x5_1 : Int) x1_1
     go_wp2_with (first | ((with_reducible refine gate_store (t := 2) (p := 15) rfl ?_); refine store_event (t := 2) (p := 15) (v := ?vo_w8) (w1 := (wr.setCell ⟨go5, (x5_1 : Int).toNat, none⟩ (.int .i64 x1_1))) ?hg ?ho ?hn ?hr ?_; (case ho => rfl); (case hg => rfl); (case hn => rfl); (case hr => first | (go_simp; done) | (go_simp; rfl)); intro w8 hw; have hg : wr.grownBy w8 (some go5) := (by rw [hw]; exact HP7.2); have hp_ : Kd.R (Kd.int .i64) 2 w8 w0.heap.size (fun k_ => (P0_ k_ ∨ w.heap.size ≤ k_)) (.slice (some ⟨go5, 0, none⟩) x0_1.length co6) y101 := (by rw [hw, Ny101.out]; exact HP7.1); clear HP7; replace HB := Qz.mk ((by rw [hw]; exact qc (HB.out) GB5.out : Below w0.heap.size w0 w8)); replace HK := Qz.mk (Kept.of_grown (S := (fun k_ => P0_ k_)) hg (by repeat (first | (with_reducible first | exact HK.out | apply Kept.alloc | apply Kept.drewN | apply Kept.drew) | exact HK.out)) (fun k_ e_ => (HO_0.out.1 k_ e_))); replace HO_0 := Qz.mk (hp_); clear hg hw hp_))
     go_roundg k1
     case measure => have := HK1.out; omega
     case rel => exact ⟨(y101), (wrap64 (x1_1 + 1)), (wrap64 (x5_1 + 1)), (by first | rfl | (simp; done) | (simp [*]; done)), (by first | rfl | (simp; done) | (simp [*]; done)), H', ⟨by have := HK1.out; omega⟩, ⟨by (with_reducible repeat (first | apply Kd.R_alloc | apply Kd.R_drewN | apply Kd.R_drew)); exact HO_0.out⟩, ⟨by repeat (first | (with_reducible first | exact HK.out | apply Kept.alloc | apply Kept.drewN | apply Kept.drew) | exact HK.out)⟩, ⟨by repeat (first | (with_reducible first | exact HB.out | apply qi | apply qb | apply qh) | exact HB.out)⟩⟩
    ·rw [if_neg c4] at H
     exact absurd H (by simp)
   ·rw [if_neg c3] at H
    have c3b0 : decide (x5_1 < (x0_1.length : Int)) = false := decide_eq_false c3
    clear c3
    simp only [Option.some.injEq, Prod.mk.injEq] at H
    obtain ⟨rfl, rfl⟩ := H
    obtain ⟨Ao9, co9, eo9⟩ := Kd.R_slice HO_0.out
    subst eo9
    go_wp2
    go_ret
    exact ⟨by first | rfl | (simp [qn, qm] <;> rfl) | (simp [*, qn, qm] <;> rfl), by (with_reducible repeat (first | apply Kd.R_alloc | apply Kd.R_drewN | apply Kd.R_drew)); exact HO_0.out, by repeat (first | (with_reducible first | exact HB.out | apply qi | apply qb | apply qh) | exact HB.out), by repeat (first | (with_reducible first | exact HK.out | apply Kept.alloc | apply Kept.drewN | apply Kept.drew) | exact HK.out)⟩
def laws_markEdit.f (k : Nat) (l0_0 : List (S66)) (l0_1 : List Int) (a0_2 : Int) (a0_3 : Int) (a0_4 : Int) (a1 : Int) : Option (Int × (List (S66)) × List Int) := (laws_markMetaS.f k l0_0 a1).bind fun bt102 => ((laws_markInt64S.f k l0_1 bt102.1).bind fun bt104 => (some (bt104.1, bt102.2, bt104.2)))
set_option maxHeartbeats 8000000 in
set_option maxRecDepth 100000 in
theorem laws_markEdit.calls (k : Nat) (P0_0_ : Nat → Prop) (u9000_ : Value) (l0_0 : List (S66)) (P0_1_ : Nat → Prop) (u9001_ : Value) (l0_1 : List Int) (a0_2 : Int) (a0_3 : Int) (a0_4 : Int) (a1 : Int) (r1 : Int) (r2 : List (S66)) (r3 : List Int) (w0 w : World) (hB : Below w0.heap.size w0 w) (ho0_0 : Kd.R k66 66 w w0.heap.size P0_0_ u9000_ l0_0) (ho0_1 : Kd.R (Kd.int .i64) 2 w w0.heap.size P0_1_ u9001_ l0_1) (h : laws_markEdit.f k l0_0 l0_1 a0_2 a0_3 a0_4 a1 = some (r1, r2, r3)) :
  Calls Try.prog 24 #[.agg #[u9000_, u9001_, .int .i64 a0_2, .int .i64 a0_3, .int .i64 a0_4], .int .i64 a1] w fun e w' => e = .returned (.int .i64 r1) ∧ Kd.R k66 66 w' w0.heap.size (fun k_ => ((P0_0_ k_ ∨ P0_1_ k_) ∨ w.heap.size ≤ k_)) u9000_ r2 ∧ Kd.R (Kd.int .i64) 2 w' w0.heap.size (fun k_ => ((P0_0_ k_ ∨ P0_1_ k_) ∨ w.heap.size ≤ k_)) u9001_ r3 ∧ Below w0.heap.size w0 w' ∧ Kept w w' (fun k_ => P0_0_ k_ ∨ P0_1_ k_) := by
 have hu37 := Try.underlying37
 have HO0_0 := Qz.mk (show Kd.R k66 66 w w0.heap.size (fun k_ => ((P0_0_ k_ ∨ P0_1_ k_) ∨ w.heap.size ≤ k_)) u9000_ l0_0 from Kd.R_mono ho0_0 (fun k_ hk => (.inl (.inl hk))))
 have HO0_1 := Qz.mk (show Kd.R (Kd.int .i64) 2 w w0.heap.size (fun k_ => ((P0_0_ k_ ∨ P0_1_ k_) ∨ w.heap.size ≤ k_)) u9001_ l0_1 from Kd.R_mono ho0_1 (fun k_ hk => (.inl (.inr hk))))
 have HK := Qz.mk (Kept.refl w (fun k_ => P0_0_ k_ ∨ P0_1_ k_))
 have HW0 := Qz.mk hB.size
 have HB := Qz.mk hB
 clear hB
 have H : ((laws_markMetaS.f k l0_0 a1).bind fun bt102 => ((laws_markInt64S.f k l0_1 bt102.1).bind fun bt104 => (some (bt104.1, bt102.2, bt104.2)))) = some (r1, r2, r3) := h
 clear h
 replace H := Option.bind_eq_some_iff.mp H
 obtain ⟨⟨t102, t103⟩, A30, H⟩ := H
 replace H : ((laws_markInt64S.f k l0_1 t102).bind fun bt104 => (some (bt104.1, t103, bt104.2))) = some (r1, r2, r3) := H
 have A3 := Qz.mk A30
 clear A30
 replace H := Option.bind_eq_some_iff.mp H
 obtain ⟨⟨t104, t105⟩, A40, H⟩ := H
 replace H : (some (t104, t103, t105)) = some (r1, r2, r3) := H
 have A4 := Qz.mk A40
 clear A40
 simp only [Option.some.injEq, Prod.mk.injEq] at H
 obtain ⟨rfl, rfl, rfl⟩ := H
 obtain ⟨Ao5, co5, eo5⟩ := Kd.R_slice HO0_0.out
 subst eo5
 obtain ⟨Ao6, co6, eo6⟩ := Kd.R_slice HO0_1.out
 subst eo6
 go_enter Try.func24, Try.ntmps24
 go_wp2_with (first | ((with_reducible refine qt (N := 2) rfl ?_); refine qr ?hg (N := 2) ?hd (cs := #[.slice Ao5 l0_0.length co5, .slice Ao6 l0_1.length co6, .int .i64 a0_2, .int .i64 a0_3, .int .i64 a0_4]) (t := 37) ?hr ?_; (case hd => rfl); (case hg => rfl); (case hr => first | (go_simp; done) | (go_simp; rfl)); intro gb101 hg w7 hbox hb; replace HO0_0 := Qz.mk (Kd.R_below (by (with_reducible repeat (first | apply Kd.R_alloc | apply Kd.R_drewN | apply Kd.R_drew)); exact HO0_0.out) hb); replace HO0_1 := Qz.mk (Kd.R_below (by (with_reducible repeat (first | apply Kd.R_alloc | apply Kd.R_drewN | apply Kd.R_drew)); exact HO0_1.out) hb); have BK101 := Qz.mk (hbox); have GW101 := Qz.mk ((by rw [hg]; exact (by first | exact HK.out.1 | exact (show Kept w _ (fun k_ => P0_0_ k_ ∨ P0_1_ k_) from by repeat (first | (with_reducible first | exact HK.out | apply Kept.alloc | apply Kept.drewN | apply Kept.drew) | exact HK.out)).1) : w.heap.size ≤ gb101)); replace HK := Qz.mk (Kept.below (S := (fun k_ => P0_0_ k_ ∨ P0_1_ k_)) (by repeat (first | (with_reducible first | exact HK.out | apply Kept.alloc | apply Kept.drewN | apply Kept.drew) | exact HK.out)) hb); have GE101 := Qz.mk ((by rw [hg]; exact (ql (by repeat (first | (with_reducible first | exact HB.out | apply qi | apply qb | apply qh) | exact HB.out))) : w0.heap.size ≤ gb101)); replace HB := Qz.mk (qj (by repeat (first | (with_reducible first | exact HB.out | apply qi | apply qb | apply qh) | exact HB.out)) hb); clear hb hbox hg; have hcz8_0 := (qa BK101.out 0).trans rfl; have hcz8_1 := (qa BK101.out 1).trans rfl; have hcz8_2 := (qa BK101.out 2).trans rfl; have hcz8_3 := (qa BK101.out 3).trans rfl; have hcz8_4 := (qa BK101.out 4).trans rfl; have hfz8_0 := qd BK101.out 0; have hfz8_1 := qd BK101.out 1; have hfz8_2 := qd BK101.out 2; have hfz8_3 := qd BK101.out 3; have hfz8_4 := qd BK101.out 4) | ((with_reducible refine qo (f := 61) rfl ?_); refine goesL_ (some 8) rfl rfl Try.func61 (by kernel_rfl) rfl #[.slice Ao5 l0_0.length co5, .int .i64 a1] rfl (by (try simp only [List.map_toArray, List.map_cons, List.map_nil]); first | done | rfl | (simp only [List.length_drop, List.length_take]; rfl) | (rw [IntWalk.u64_in _ (by omega)] <;> rfl)) ?_; (with_reducible refine (laws_markMetaS.calls k (fun k_ => some k_ = (.slice Ao5 l0_0.length co5 : Value).ownBlock) (.slice Ao5 l0_0.length co5) l0_0 a1 t102 t103 w0 _ ?side1 ?side2 A3.out).mono ?_); (case side1 => repeat (first | (with_reducible first | exact HB.out | apply qi | apply qb | apply qh | refine qc ?_ GE101.out) | exact HB.out)); (case side2 => exact Kd.R_tight rfl HO0_0.out); rintro e w9 ⟨rfl, hy0, hb, hkp⟩; refine ⟨_, rfl, ?_⟩; replace HO0_1 := Qz.mk (Kd.R_mono (ok' := fun k_ => ((P0_0_ k_ ∨ P0_1_ k_) ∨ w.heap.size ≤ k_)) (Kd.R_keptB ((Kd.R_apart' HO0_1.out (Kd.R_typed HO0_0.out) (by decide))) hkp (fun k_ hk_ hs_ => (hk_.2) hs_)) (fun k_ hk_ => hk_.1.1)); replace BK101 := Qz.mk (blk_kept (by (with_reducible repeat (first | refine qf ?_ _ | refine qg ?_ | refine qe ?_ _)); exact BK101.out) hkp (fun hs_ => (fun e_ => (Kd.R_ne HO0_0.out BK101.out (by decide)) e_) hs_)); replace HK := Qz.mk (Kept.then_ (S := (fun k_ => P0_0_ k_ ∨ P0_1_ k_)) (by repeat (first | (with_reducible first | exact HK.out | apply Kept.alloc | apply Kept.drewN | apply Kept.drew | refine Kept.setCell ?_ (.inr GW101.out) _) | exact HK.out)) hkp (fun k_ hs_ => (fun e_ => (HO0_0.out.1 k_ e_.symm)) hs_)); replace HO0_0 := Qz.mk (Kd.R_reok rfl hy0 (fun k_ e_ => HO0_0.out.1 k_ e_)); replace HB := Qz.mk (hb); (try clear hb); (try clear hkp); (try clear hy0); have hcz10_0 := (qa BK101.out 0).trans rfl; have hcz10_1 := (qa BK101.out 1).trans rfl; have hcz10_2 := (qa BK101.out 2).trans rfl; have hcz10_3 := (qa BK101.out 3).trans rfl; have hcz10_4 := (qa BK101.out 4).trans rfl; have hfz10_0 := qd BK101.out 0; have hfz10_1 := qd BK101.out 1; have hfz10_2 := qd BK101.out 2; have hfz10_3 := qd BK101.out 3; have hfz10_4 := qd BK101.out 4) | ((with_reducible refine qo (f := 45) rfl ?_); refine goesL_ (some 12) rfl rfl Try.func45 (by kernel_rfl) rfl #[.slice Ao6 l0_1.length co6, .int .i64 t102] rfl (by (try simp only [List.map_toArray, List.map_cons, List.map_nil]); first | done | rfl | (simp only [List.length_drop, List.length_take]; rfl) | (rw [IntWalk.u64_in _ (by omega)] <;> rfl)) ?_; (with_reducible refine (laws_markInt64S.calls k (fun k_ => some k_ = (.slice Ao6 l0_1.length co6 : Value).ownBlock) (.slice Ao6 l0_1.length co6) l0_1 t102 t104 t105 w0 _ ?side1 ?side2 A4.out).mono ?_); (case side1 => repeat (first | (with_reducible first | exact HB.out | apply qi | apply qb | apply qh | refine qc ?_ GE101.out) | exact HB.out)); (case side2 => exact Kd.R_tight rfl HO0_1.out); rintro e w11 ⟨rfl, hy0, hb, hkp⟩; refine ⟨_, rfl, ?_⟩; replace HO0_0 := Qz.mk (Kd.R_mono (ok' := fun k_ => ((P0_0_ k_ ∨ P0_1_ k_) ∨ w.heap.size ≤ k_)) (Kd.R_keptB ((Kd.R_apart' HO0_0.out (Kd.R_typed HO0_1.out) (by decide))) hkp (fun k_ hk_ hs_ => (hk_.2) hs_)) (fun k_ hk_ => hk_.1.1)); replace BK101 := Qz.mk (blk_kept (by (with_reducible repeat (first | refine qf ?_ _ | refine qg ?_ | refine qe ?_ _)); exact BK101.out) hkp (fun hs_ => (fun e_ => (Kd.R_ne HO0_1.out BK101.out (by decide)) e_) hs_)); replace HK := Qz.mk (Kept.then_ (S := (fun k_ => P0_0_ k_ ∨ P0_1_ k_)) (by repeat (first | (with_reducible first | exact HK.out | apply Kept.alloc | apply Kept.drewN | apply Kept.drew | refine Kept.setCell ?_ (.inr GW101.out) _) | exact HK.out)) hkp (fun k_ hs_ => (fun e_ => (HO0_1.out.1 k_ e_.symm)) hs_)); replace HO0_1 := Qz.mk (Kd.R_reok rfl hy0 (fun k_ e_ => HO0_1.out.1 k_ e_)); replace HB := Qz.mk (hb); (try clear hb); (try clear hkp); (try clear hy0)))
 go_ret
 exact ⟨by first | rfl | (simp [qn, qm] <;> rfl) | (simp [*, qn, qm] <;> rfl), by (with_reducible repeat (first | apply Kd.R_alloc | apply Kd.R_drewN | apply Kd.R_drew)); exact HO0_0.out, by (with_reducible repeat (first | apply Kd.R_alloc | apply Kd.R_drewN | apply Kd.R_drew)); exact HO0_1.out, by repeat (first | (with_reducible first | exact HB.out | apply qi | apply qb | apply qh | refine qc ?_ GE101.out) | exact HB.out), by repeat (first | (with_reducible first | exact HK.out | apply Kept.alloc | apply Kept.drewN | apply Kept.drew | refine Kept.setCell ?_ (.inr GW101.out) _) | exact HK.out)⟩
end Go.Proofs.Ytcgejabkjljeeaa.P
end
