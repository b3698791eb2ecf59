/- Proved: the law FnExactReplay of the given program returns true for every input of its Go types and leaves each argument as it was; no condition. (Part 12 of 15.) -/
import Derived.Test.YtcgejabkjljeeaaCFnExactReplay3
import Derived.Lib.SliceRun
import Derived.Lib.Walk
import Derived.Test.YtcgejabkjljeeaaCFnExactReplay8
import Derived.Test.YtcgejabkjljeeaaCFnExactReplay6
import Derived.Test.YtcgejabkjljeeaaCFnExactReplay10
import Derived.Test.YtcgejabkjljeeaaCFnExactReplay4
import Derived.Test.YtcgejabkjljeeaaCFnExactReplay5
section
namespace Go.Proofs.Ytcgejabkjljeeaa.P
open Go.RowKit Go.Proofs.YtcgejabkjljeeaaW.PrintWords Go.Proofs.YtcgejabkjljeeaaW.PrintLast Go.Proofs.YtcgejabkjljeeaaW.PrintMore
attribute [local go_sem] str_gtr str_leq str_geq qe1 qc1 max_two min_two qy qx qd1 qb1
set_option linter.unusedVariables false
set_option linter.unusedSimpArgs false
theorem R_empty {α : Type} (d : Kd α) (e : Nat) (w : World) (base : Nat) (hb : base ≤ w.heap.size) : d.R e (w.alloc (.cells #[] e)) base (fun _ => True) (.slice (some ⟨w.heap.size, 0, none⟩) ([] : List α).length 0) [] :=
 ⟨fun _ _ => trivial, [], World.ownsRow_made w #[] 0 hb (Nat.zero_le _) (by simp), Reps.none _ _⟩
set_option maxHeartbeats 4000000 in
set_option maxRecDepth 100000 in
theorem clone_Meta (A0 : Option Addr) (c0 : Nat) (l : List S66) (w0 w : World) (hB : Below w0.heap.size w0 w) (hr : Kd.C k66 w A0 l.length l) (hl : l.length * 56 ≤ 140737488355328) :
  Calls Try.prog 69 #[.slice A0 l.length c0] w fun e w' => ∃ v, e = .returned v ∧ Kd.R k66 66 w' w0.heap.size (fun _ => True) v l ∧ Below w0.heap.size w0 w' := by
 have q : ∀ (w : World) (a : Option Addr) (n c n' c' : Nat), (binOp .eql 30 (.slice a n c) (.slice none n' c')).run Try.prog w = .ok (.bool a.isNone) w := fun w a n c n' c' => Lib.run_eql_slice_nil w _ _ a n c n' c' Try.underlying30
 have HR := Qz.mk hr
 have HB := Qz.mk hB
 have hsz := hB.size
 cases A0 with
 | none =>
  have h0 : l = [] := by
   by_cases h0 : l.length = 0
   ·exact List.length_eq_zero_iff.1 h0
   ·obtain ⟨ad, e, _⟩ := hr.2.2 (by omega)
    cases e
  clear hr hB
  go_enter Try.func69, Try.ntmps69
  go_wp2
  go_ret
  refine ⟨_, rfl, ?_, HB.out⟩
  rw [h0]
  exact Kd.R_nil _ _ _ _ _
 | some ad =>
  clear hr hB
  have HX := Qz.mk hl
  clear hl
  go_enter Try.func69, Try.ntmps69
  go_wp2_with (first | ((with_reducible refine gate_builtin (b := .append) (xs := #[.tmp 5, .tmp 6]) rfl ?_); at_builtin; refine Kd.R_append_rows k66 (w0 := w0) w0.heap.size rfl (.tmp 5) (.tmp 6) 30 66 (.agg #[.int .i64 0, .int .i64 0, .string ⟨#[]⟩, .string ⟨#[]⟩, .int .i64 0]) 56 rfl Try.underlying30 info66 rfl (by decide) (by omega) (.slice (some ⟨w.heap.size, 0, none⟩) ([] : List S66).length 0) [] l (some ad) l.length c0 (fun _ => True) (fun _ => False) rfl rfl ?aO ?aR (fun _ _ h => h) (fun _ h => h.elim) ?aF ?aB ?aS ?aL ?_; (case aO => exact R_empty k66 66 w _ hsz); (case aR => exact Kd.C_below HR.out ((Below.refl _ w).alloc (Nat.le_refl _) _)); (case aF => exact fun _ _ => trivial); (case aB => exact HB.out.alloc hsz _); (case aS => exact (HB.out.alloc hsz _).size); (case aL => have := HX.out; simp only [List.length_nil, Nat.zero_add]; exact this); intro v1 w1 ho hb hg hat))
  go_ret
  exact ⟨_, rfl, ho, hb⟩
end Go.Proofs.Ytcgejabkjljeeaa.P
end

section
namespace Go.Proofs.Ytcgejabkjljeeaa.P
open Go.RowKit Go.Proofs.YtcgejabkjljeeaaW.PrintWords Go.Proofs.YtcgejabkjljeeaaW.PrintLast Go.Proofs.YtcgejabkjljeeaaW.PrintMore
attribute [local go_sem] str_gtr str_leq str_geq qe1 qc1 max_two min_two qy qx qd1 qb1
set_option linter.unusedVariables false
set_option linter.unusedSimpArgs false
def idxf {α : Type} (p : α → Bool) : List α → Nat → Int
 | [], _ => -1
 | x :: xs, i => if p x = true then (i : Int) else idxf p xs (i + 1)
theorem idxf_hit {α : Type} (p : α → Bool) (d : α) : ∀ (l : List α) (k i : Nat), k < l.length → p (l.getD k d) = true → (∀ j, j < k → p (l.getD j d) = false) → idxf p l i = ((i + k : Nat) : Int)
 | [], _, _, h, _, _ => absurd h (Nat.not_lt_zero _)
 | x :: xs, 0, i, _, h, _ => by
  have : p x = true := by simpa using h
  simp [idxf, this]
 | x :: xs, k + 1, i, hk, h, hn => by
  have h0 : p x = false := by simpa using hn 0 (Nat.succ_pos _)
  simp only [idxf, h0, Bool.false_eq_true, if_false]
  rw [idxf_hit p d xs k (i + 1) (by simpa using hk) (by simpa using h) (fun j hj => by simpa using hn (j + 1) (by omega))]
  congr 1
  omega
theorem idxf_miss {α : Type} (p : α → Bool) (d : α) : ∀ (l : List α) (i : Nat), (∀ j, j < l.length → p (l.getD j d) = false) → idxf p l i = -1
 | [], _, _ => rfl
 | x :: xs, i, hn => by
  have h0 : p x = false := by simpa using hn 0 (by simp)
  simp only [idxf, h0, Bool.false_eq_true, if_false]
  exact idxf_miss p d xs (i + 1) (fun j hj => by simpa using hn (j + 1) (by simpa using hj))
theorem idxf_any {α : Type} (p : α → Bool) : ∀ (l : List α) (i : Nat), decide (0 ≤ idxf p l i) = l.any p
 | [], _ => rfl
 | x :: xs, i => by
  cases h : p x with
  | true => simp [idxf, h]
  | false =>
   simp only [idxf, h, Bool.false_eq_true, if_false, List.any_cons, Bool.false_or]
   exact idxf_any p xs (i + 1)
set_option maxHeartbeats 2000000 in
theorem indexFunc_Meta.calls (g : Nat) (lb : Array Value) (p : S66 → Bool) (A : Option Addr) (c : Nat) (l : List S66) (w : World) (hr : Kd.C k66 w A l.length l)
  (eg : ∀ args w, (callFunc g args).run Try.prog w = .ok (.enter g args) w)
  (hp : ∀ (x : S66) (W : World), Below w.heap.size w W → Calls Try.prog g (#[.agg #[.int .i64 x.f0, .int .i64 x.f1, .string x.f2, .string x.f3, .int .i64 x.f4]] ++ lb) W fun e w' => e = .returned (.bool (p x)) ∧ Below w.heap.size w w') :
  Calls Try.prog 92 #[.slice A l.length c, .func (.func g) #[] lb] w fun e w' => e = .returned (.int .i64 (idxf p l 0)) ∧ Below w.heap.size w w' := by
 have hlm := Kd.C_max hr
 have HR := Qz.mk hr
 clear hr
 go_enter Try.func92, Try.ntmps92
 go_wp2
 go_loopg [5, 8] l.length (fun gg _ s8 wr => ∃ i : Int, 0 ≤ i ∧ i ≤ l.length ∧ (l.length : Int) - i ≤ gg ∧ s8 = .int .i64 i ∧ Qz (Below w.heap.size w wr) ∧ Qz (∀ j : Nat, (j : Int) < i → p (l.getD j z66) = false))
 case atStart => exact ⟨0, by omega, by omega, by omega, rfl, ⟨Below.refl _ w⟩, ⟨fun j hj => absurd hj (by omega)⟩⟩
 case round =>
  obtain ⟨i, hi0, hi1, hg, rfl, BW, AN⟩ := hrel
  by_cases hlt : i < (l.length : Int)
  ·obtain ⟨k1, rfl⟩ : ∃ m, gk = m + 1 := ⟨gk - 1, by omega⟩
   have hd : decide (i < (l.length : Int)) = true := decide_eq_true hlt
   obtain ⟨ad, e, h0, h1, h2, h3, h4⟩ := at_T66 HR.out i hi0 hlt
   cases e
   replace h0 := (BW.out.cell (World.block_lt_of_cell? w _ h0)).trans h0
   replace h1 := (BW.out.cell (World.block_lt_of_cell? w _ h1)).trans h1
   replace h2 := (BW.out.cell (World.block_lt_of_cell? w _ h2)).trans h2
   replace h3 := (BW.out.cell (World.block_lt_of_cell? w _ h3)).trans h3
   replace h4 := (BW.out.cell (World.block_lt_of_cell? w _ h4)).trans h4
   have hcall := hp (ql l i) wr BW.out
   clear hp
   have HX : Qz (ql l i = l.getD i.toNat z66) := ⟨rfl⟩
   generalize ql l i = x at h0 h1 h2 h3 h4 hcall HX
   cases hq : p x with
   | true =>
    rw [hq] at hcall
    have HQ := Qz.mk hq
    clear hq
    go_wp2_with fail
    (with_reducible refine hcall.mono ?_)
    rintro e w' ⟨rfl, hb'⟩
    go_wp2
    go_ret
    refine ⟨?_, hb'⟩
    show Ending.returned (.int .i64 i) = _
    rw [idxf_hit p z66 l i.toNat 0 (by omega) (by rw [← HX.out]; exact HQ.out) (fun j hj => AN.out j (by omega))]
    rw [show (((0 + i.toNat : Nat)) : Int) = i from by omega]
   | false =>
    rw [hq] at hcall
    have HQ := Qz.mk hq
    clear hq
    go_wp2_with fail
    (with_reducible refine hcall.mono ?_)
    rintro e w' ⟨rfl, hb'⟩
    go_wp2
    go_roundg k1
    case measure => omega
    case rel =>
     refine ⟨i + 1, by omega, by omega, by omega, by first | rfl | go_num, ⟨hb'⟩, ⟨fun j hj => ?_⟩⟩
     by_cases e : (j : Int) = i
     ·subst e
      rw [← show x = l.getD j z66 from HX.out]
      exact HQ.out
     ·exact AN.out j (by omega)
  ·have hd : decide (i < (l.length : Int)) = false := decide_eq_false hlt
   go_wp2
   all_goals
    go_ret
    refine ⟨?_, BW.out⟩
    rw [idxf_miss p z66 l 0 (fun j hj => AN.out j (by omega))]
    rfl
end Go.Proofs.Ytcgejabkjljeeaa.P
end

section
namespace Go.Proofs.Ytcgejabkjljeeaa.P
open Go.RowKit Go.Proofs.YtcgejabkjljeeaaW.PrintWords Go.Proofs.YtcgejabkjljeeaaW.PrintLast Go.Proofs.YtcgejabkjljeeaaW.PrintMore
attribute [local go_sem] str_gtr str_leq str_geq qe1 qc1 max_two min_two qy qx qd1 qb1
set_option linter.unusedVariables false
set_option linter.unusedSimpArgs false
theorem zeroCells_length (cs : Array Value) (n : Nat) : (Builtin.zeroCells cs n).toList.length = n * cs.size := by simp [Builtin.zeroCells]
theorem zeroCells_one (cs : Array Value) (n : Nat) (hp : 0 < cs.size) (h : ∀ v ∈ cs, v.oneCell' = true) : ∀ v ∈ (Builtin.zeroCells cs n).toList, v.oneCell' = true := by
 intro v hv
 simp only [Builtin.zeroCells, Array.toList_map, List.mem_map] at hv
 obtain ⟨i, _, rfl⟩ := hv
 rw [getElem!_pos cs (i % cs.size) (Nat.mod_lt _ hp)]
 exact h _ (Array.getElem_mem _)
theorem idxf_neg {α : Type} (p : α → Bool) : ∀ (l : List α) (i : Nat), idxf p l i = -1 ∨ ∃ k : Nat, k < l.length ∧ idxf p l i = ((i + k : Nat) : Int) ∧ (∀ d, p (l.getD k d) = true) ∧ ∀ d j, j < k → p (l.getD j d) = false
 | [], _ => .inl rfl
 | x :: xs, i => by
  cases h : p x with
  | true => exact .inr ⟨0, by simp, by simp [idxf, h], fun d => by simpa using h, fun d j hj => absurd hj (Nat.not_lt_zero _)⟩
  | false =>
   simp only [idxf, h, Bool.false_eq_true, if_false]
   rcases idxf_neg p xs (i + 1) with h1 | ⟨k, h1, h2, h3, h4⟩
   ·exact .inl h1
   ·refine .inr ⟨k + 1, by simpa using h1, by rw [h2]; congr 1; omega, fun d => by simpa using h3 d, fun d j hj => ?_⟩
    cases j with
    | zero => simpa using h
    | succ j => simpa using h4 d j (by omega)
def StayBut (W W' : World) (v : Value) : Prop := W.heap.size ≤ W'.heap.size ∧ ∀ k, k < W.heap.size → some k ≠ v.ownBlock → W'.heap[k]? = W.heap[k]?
theorem StayBut.below {W W' : World} (h : Below W.heap.size W W') (v : Value) : StayBut W W' v := ⟨h.size, fun k hk _ => h.block k hk⟩
theorem StayBut.step {W W1 W2 : World} {v : Value} (h : StayBut W W1 v) (hb : Below W1.heap.size W1 W2) : StayBut W W2 v := ⟨Nat.le_trans h.1 hb.size, fun k hk hv => (hb.block k (Nat.lt_of_lt_of_le hk h.1)).trans (h.2 k hk hv)⟩
theorem StayBut.grown {W W1 W2 : World} {v : Value} {g : Nat} (h : StayBut W W1 v) (hg : W1.grownBy W2 (some g)) (hv : v.ownBlock = some g) : StayBut W W2 v := ⟨Nat.le_trans h.1 hg.size, fun k hk hk2 => (hg.block k (Nat.lt_of_lt_of_le hk h.1) (by rw [← hv]; exact hk2)).trans (h.2 k hk hk2)⟩
end Go.Proofs.Ytcgejabkjljeeaa.P
end

section
namespace Go.Proofs.Ytcgejabkjljeeaa.P
open Go.RowKit Go.Proofs.YtcgejabkjljeeaaW.PrintWords Go.Proofs.YtcgejabkjljeeaaW.PrintLast Go.Proofs.YtcgejabkjljeeaaW.PrintMore
attribute [local go_sem] str_gtr str_leq str_geq qe1 qc1 max_two min_two qy qx qd1 qb1
set_option linter.unusedVariables false
set_option linter.unusedSimpArgs false
theorem R_clear_tail {α : Type} (d : Kd α) {P : Program} {e : Nat} {W : World} {base : Nat} {ok : Nat → Prop} {g n cap : Nat} {xs : List α} (HO : d.R e W base ok (.slice (some ⟨g, 0, none⟩) n cap) xs) (q : Nat) (hq : n + (q + 1) ≤ cap) (t : TypeId) (z : Value)
  (ht : P.underlying t = some (.slice e)) (hv : ∀ w, (zeroValue e).run P w = .ok z w) (hz : z.cells.size = d.sz) (h0 : 0 < d.sz) (h1 : ∀ v ∈ z.cells, v.oneCell' = true) (c' : Nat) :
  ∃ W', (∀ ty, (Builtin.clear_ #[t] ty #[.slice (some ⟨g, n * d.sz, none⟩) (q + 1) c']).run P W = .ok (.tuple #[]) W') ∧ d.R e W' base ok (.slice (some ⟨g, 0, none⟩) n cap) xs ∧ W.grownBy W' (some g) := by
 have hn : n = xs.length := (Kd.R_reads' HO).1
 subst hn
 obtain ⟨h2, inner, ho, hr⟩ := HO
 rcases ho.2 with ⟨hv0, _⟩ | ⟨g', cap', cur, hv0, hb, hh, hnc, hcm, hcs, htk⟩
 ·cases hv0
 injection hv0 with ea _ ec
 injection ea with ea
 injection ea with eg
 subst eg; subst ec
 have hlen : (Builtin.zeroCells z.cells (q + 1)).toList.length = (q + 1) * d.sz := by rw [zeroCells_length, hz]
 have hfit : xs.length * d.sz + (q + 1) * d.sz ≤ cur.size := by
  rw [← Nat.add_mul, hcs]
  exact Nat.mul_le_mul_right _ (by omega)
 generalize (q + 1) * d.sz = S at hlen hfit
 have hst := run_storeCells_cells (P := P) g (xs.length * d.sz) (Builtin.zeroCells z.cells (q + 1)).toList 0 W (fun j hj => by rw [cell_of_row W g _ cur e (0, 0) hh]; rw [hlen] at hj; simp; omega) (fun j _ => qc hh _) (zeroCells_one _ _ (by omega) h1)
 simp only [Nat.add_zero] at hst
 refine ⟨W.setCells g (xs.length * d.sz) (Builtin.zeroCells z.cells (q + 1)).toList, fun ty => ?_, ?_, ?_⟩
 ·simp [Builtin.clear_, run_underlying ht, hv, hst]
 ·refine ⟨h2, inner, ?_, hr.imp_ (fun _ _ hp => d.M_move (fun k hk => setCells_far _ _ k (fun he => hk.2 (by rw [he]; simp [Value.ownBlock]))) hp)⟩
  obtain ⟨cur', h3, h4, h5⟩ := setCells_row (Builtin.zeroCells z.cells (q + 1)).toList (xs.length * d.sz) W cur hh (by rw [hlen]; exact hfit)
  refine ⟨ho.1, .inr ⟨g, cap, cur', rfl, hb, h3, hnc, hcm, by rw [h4, hcs], ?_⟩⟩
  rw [h5, ← htk, List.append_assoc, List.take_append_of_le_length (by rw [List.length_take, Array.length_toList (xs := cur)]; omega), List.take_take, Nat.min_self]
 ·obtain ⟨s1, s2, s3, s4⟩ := setCells_same g (Builtin.zeroCells z.cells (q + 1)).toList (xs.length * d.sz) W
  exact ⟨s1, s2, s3, by rw [s4]; exact Nat.le_refl _, fun k _ hk => setCells_far _ _ k (fun he => hk (by rw [he]))⟩
section
attribute [-go_sem] Go.Builtin.append_
set_option maxHeartbeats 4000000 in
set_option maxRecDepth 100000 in
theorem delete_Meta (i g n c base : Nat) (xs : List S66) (w0 W : World) (hB : Below base w0 W) (hbase : base ≤ W.heap.size) (hr : Kd.R k66 66 W base (fun _ => True) (.slice (some ⟨g, 0, none⟩) (n + 1) c) xs) (hi : i < n + 1) :
  Calls Try.prog 94 #[.slice (some ⟨g, 0, none⟩) (n + 1) c, .int .i64 i, .int .i64 ((i + 1 : Nat) : Int)] W fun e w' => e = .returned (.slice (some ⟨g, 0, none⟩) n c) ∧ Kd.R k66 66 w' base (fun _ => True) (.slice (some ⟨g, 0, none⟩) n c) (xs.eraseIdx i) ∧ Below base w0 w' := by
 obtain ⟨hn, hnc, hC⟩ := Kd.R_reads' hr
 have hmax : c ≤ 9223372036854775807 := by
  obtain ⟨inner, ho⟩ := Kd.R_own hr
  rcases ho.2 with ⟨hv0, _⟩ | ⟨g', cap', cur, hv0, hb, hh, h1, h2, _⟩
  ·cases hv0
  ·injection hv0 with _ _ ec
   rw [ec]; exact h2
 clear hC hn
 obtain ⟨i0, hi0, hsz⟩ := Option.map_eq_some_iff.1 (show (Try.prog.info? 66).map (·.size) = some (k66).sz from by kernel_rfl)
 obtain ⟨W1, hap, hR1, hg1⟩ := Kd.R_delete_run (P := Try.prog) k66 base 30 30 66 i0 Try.underlying30 hi0 hsz (Kd.R_drew hr) hi rfl (c - (i + 1))
 obtain ⟨W2, hcl, hR2, hg2⟩ := R_clear_tail (P := Try.prog) k66 hR1 0 (by omega) 30 (.agg #[.int .i64 0, .int .i64 0, .string ⟨#[]⟩, .string ⟨#[]⟩, .int .i64 0]) Try.underlying30 (fun w => by kernel_rfl) rfl (by decide) (by intro q hq; simp [Value.cells] at hq; rcases hq with rfl | rfl | rfl | rfl | rfl <;> rfl) (c - n)
 have hcl0 := hcl 0
 clear hcl
 have hbs : ∀ q, (some g : Option Nat) = some q → base ≤ q := fun q hq => by injection hq with hq; subst hq; exact Kd.R_base hr _ (by simp [Value.ownBlock])
 have HB2 := Qz.mk ((below_drew hB).grown hg1 hbase hbs |>.grown hg2 (Nat.le_trans hbase hg1.size) hbs)
 have HR2 := Qz.mk hR2
 have hz : ((i : Int) == ((i + 1 : Nat) : Int)) = false := beq_eq_false_iff_ne.2 (by omega)
 clear hR1 hR2 hB hg1 hg2 hr hbs
 have hsl : (k66).sz = 5 := rfl
 rw [hsl] at hap hcl0
 rw [Nat.add_sub_cancel, Nat.zero_add] at hcl0
 rw [Nat.add_sub_cancel] at hap HR2
 by_cases hc : c = i + 1
 ·rw [if_pos hc] at hap
  obtain rfl : n = i := by omega
  subst hc
  simp only [Nat.sub_self] at hap
  rw [show n + 1 - n = 1 from by omega] at hcl0
  go_enter Try.func94, Try.ntmps94
  go_wp2
  go_region
  all_goals go_wp2
  all_goals go_ret
  all_goals exact ⟨rfl, HR2.out, HB2.out⟩
 ·rw [if_neg hc, Option.map_some, add_at, Nat.zero_add, show n + 1 - (i + 1) = n - i from by omega] at hap
  go_enter Try.func94, Try.ntmps94
  go_wp2
  go_region
  all_goals go_wp2
  all_goals go_ret
  all_goals exact ⟨rfl, HR2.out, HB2.out⟩
end
end Go.Proofs.Ytcgejabkjljeeaa.P
end

section
namespace Go.Proofs.Ytcgejabkjljeeaa.P
open Go.RowKit Go.Proofs.YtcgejabkjljeeaaW.PrintWords Go.Proofs.YtcgejabkjljeeaaW.PrintLast Go.Proofs.YtcgejabkjljeeaaW.PrintMore
attribute [local go_sem] str_gtr str_leq str_geq qe1 qc1 max_two min_two qy qx qd1 qb1
set_option linter.unusedVariables false
set_option linter.unusedSimpArgs false
theorem cmpB_metas : CmpB Try.prog 67 #[] encL (cfL mcmp) := by
 intro W x y
 obtain ⟨k, hk⟩ := Ev.rounds (cmpMetas_ev x.1 y.1)
 exact impl_cmpMetas.calls k x.1.f0 x.1.f1 x.1.f2 x.1.f3 x.1.f4 y.1.f0 y.1.f1 y.1.f2 y.1.f3 y.1.f4 _ W hk
def numP (n : Int) (x : S66) : Bool := x.f0 == n
def cutAll : List S66 → List Int → Option (List S66)
 | l, [] => some l
 | l, n :: ns => if idxf (numP n) l 0 < 0 then none else cutAll (l.eraseIdx (idxf (numP n) l 0).toNat) ns
def edV (l : List S66) (n s g : Int) (adds : List S66) (cuts : List Int) (n' s' g' : Int) : List S66 × Int × Int × Int × Bool :=
 if n' < n ∨ s' < s ∨ g' < g ∨ 30 < adds.length then ([], 0, 0, 0, false) else
 match cutAll l cuts with
 | none => ([], 0, 0, 0, false)
 | some m => if vOk (srt mcmp (m ++ adds)) n' s' g' then (srt mcmp (m ++ adds), n', s', g', true) else ([], 0, 0, 0, false)
def impl_Version_edited.f (l0_0 : List S66) (a0_1 a0_2 a0_3 : Int) (l1_0 : List S66) (l1_1 : List Int) (a1_2 a1_3 a1_4 : Int) : Option (List S66 × Int × Int × Int × Bool) :=
 if l0_0.length ≤ 1000000 then some (edV l0_0 a0_1 a0_2 a0_3 l1_0 l1_1 a1_2 a1_3 a1_4) else none
set_option maxHeartbeats 4000000 in
theorem numP_calls (n : Int) (b : Nat) (x : S66) (W : World) (hc : W.cell? ⟨b, 0, none⟩ = some (.int .i64 n)) (hb : b < W.heap.size) :
  Calls Try.prog 93 #[.agg #[.int .i64 x.f0, .int .i64 x.f1, .string x.f2, .string x.f3, .int .i64 x.f4], .pointer (some ⟨b, 0, none⟩)] W fun e w' => e = .returned (.bool (numP n x)) ∧ Below W.heap.size W w' := by
 have hca : ∀ o, (W.alloc o).cell? ⟨b, 0, none⟩ = some (.int .i64 n) := fun o => (((Below.refl _ W).alloc (Nat.le_refl _) o).cell (p := ⟨b, 0, none⟩) hb).trans hc
 have hne : b ≠ W.heap.size := by omega
 unfold numP
 go_enter Try.func93, Try.ntmps93
 go_wp2
 go_ret
 exact ⟨rfl, (Below.refl _ W).alloc (Nat.le_refl _) _⟩
theorem put4 {w : World} {g t : Nat} {x0 x1 x2 x3 a b c d : Value} (h : w.heap[g]? = some (.cells #[x0, x1, x2, x3] t (0, 0))) : ((((w.setCell ⟨g, 0, none⟩ a).setCell ⟨g, 1, none⟩ b).setCell ⟨g, 2, none⟩ c).setCell ⟨g, 3, none⟩ d).heap[g]? = some (.cells #[a, b, c, d] t (0, 0)) :=
 qa1 (qa1 (qa1 (qa1 h 0 a rfl) 1 b rfl) 2 c rfl) 3 d rfl
theorem below4 {w W : World} {g : Nat} {a b c d : Value} (h : Below w.heap.size w W) (hg : w.heap.size ≤ g) : Below w.heap.size w ((((W.setCell ⟨g, 0, none⟩ a).setCell ⟨g, 1, none⟩ b).setCell ⟨g, 2, none⟩ c).setCell ⟨g, 3, none⟩ d) :=
 qi (qi (qi (qi h hg) hg) hg) hg
theorem R_put4 {α : Type} {d : Kd α} {e base g : Nat} {W : World} {v : Value} {xs : List α} {a b c f : Value} (h : d.R e W base (fun _ => True) v xs) (hg : g < base) : d.R e ((((W.setCell ⟨g, 0, none⟩ a).setCell ⟨g, 1, none⟩ b).setCell ⟨g, 2, none⟩ c).setCell ⟨g, 3, none⟩ f) base (fun _ => True) v xs := by
 have h1 := Kd.R_mono (ok' := fun k => base ≤ k) (Kd.R_bound h) (fun k hk => hk.2.1)
 have far : ∀ {w : World} (p : Addr) (u : Value), p.block = g → d.R e w base (fun k => base ≤ k) v xs → d.R e (w.setCell p u) base (fun k => base ≤ k) v xs := fun p u hp hh => Kd.R_far hh (p := p) (fun k hk => by have : base ≤ k := hk; omega) u
 exact Kd.R_mono (far _ _ rfl (far _ _ rfl (far _ _ rfl (far _ _ rfl h1)))) (fun _ _ => trivial)
theorem three (w : World) (X Y Z : Obj) : Below w.heap.size w (((w.alloc X).alloc Y).alloc Z) ∧ (((w.alloc X).alloc Y).alloc Z).heap[w.heap.size + 1]? = some Y ∧ (((w.alloc X).alloc Y).alloc Z).heap[w.heap.size + 1 + 1]? = some Z ∧ (((w.alloc X).alloc Y).alloc Z).heap.size = w.heap.size + 3 := by
 have e1 : (w.alloc X).heap.size = w.heap.size + 1 := by simp
 have e2 : ((w.alloc X).alloc Y).heap.size = w.heap.size + 1 + 1 := by simp
 refine ⟨(((Below.refl _ w).alloc (Nat.le_refl _) _).alloc (by omega) _).alloc (by omega) _, ?_, ?_, by simp⟩
 ·rw [← e1]; exact qf (blk_new _ _) _
 ·rw [← e2]; exact blk_new _ _
set_option maxHeartbeats 4000000 in
set_option maxRecDepth 100000 in
theorem impl_Version_edited.calls (A0_0 : Option Addr) (c0_0 : Nat) (l0_0 : List S66) (a0_1 a0_2 a0_3 : Int) (A1_0 : Option Addr) (c1_0 : Nat) (l1_0 : List S66) (A1_1 : Option Addr) (c1_1 : Nat) (l1_1 : List Int) (a1_2 a1_3 a1_4 : Int) (r1 : List S66) (r2 r3 r4 : Int) (r5 : Bool) (w : World)
  (hr0_0 : Kd.C k66 w A0_0 l0_0.length l0_0) (hc0_0 : l0_0.length ≤ c0_0) (hr1_0 : Kd.C k66 w A1_0 l1_0.length l1_0) (hc1_0 : l1_0.length ≤ c1_0) (hr1_1 : Kd.C (Kd.int .i64) w A1_1 l1_1.length l1_1) (hc1_1 : l1_1.length ≤ c1_1)
  (h : impl_Version_edited.f l0_0 a0_1 a0_2 a0_3 l1_0 l1_1 a1_2 a1_3 a1_4 = some (r1, r2, r3, r4, r5)) :
  Calls Try.prog 59 #[.agg #[.slice A0_0 l0_0.length c0_0, .int .i64 a0_1, .int .i64 a0_2, .int .i64 a0_3], .agg #[.slice A1_0 l1_0.length c1_0, .slice A1_1 l1_1.length c1_1, .int .i64 a1_2, .int .i64 a1_3, .int .i64 a1_4]] w fun e w' => ∃ v0_ : Value, e = .returned (.tuple #[.agg #[v0_, .int .i64 r2, .int .i64 r3, .int .i64 r4], .bool r5]) ∧ Kd.R k66 66 w' w.heap.size (fun _ => True) v0_ r1 ∧ Below w.heap.size w w' := by
 have hu32 := Try.underlying32
 have hu37 := Try.underlying37
 have H00 := Qz.mk hr0_0
 have H10 := Qz.mk hr1_0
 have H11 := Qz.mk hr1_1
 clear hr0_0 hr1_0 hr1_1
 have hf : ∀ W' : World, W'.heap[w.heap.size + 1 + 1]? = some (.cells #[.slice none 0 0, .int .i64 0, .int .i64 0, .int .i64 0] 32 (0, 0)) → Below w.heap.size w W' → ∀ tmps : Array Value, tmps.getD 4 undef = .pointer (some ⟨w.heap.size + 1 + 1, 0, none⟩) → tmps.getD 5 undef = .bool false → (r1, r2, r3, r4, r5) = (([] : List S66), (0 : Int), (0 : Int), (0 : Int), false) →
   bodyPost Try.prog Try.f59 (fun e w' => ∃ v0_ : Value, e = .returned (.tuple #[.agg #[v0_, .int .i64 r2, .int .i64 r3, .int .i64 r4], .bool r5]) ∧ Kd.R k66 66 w' w.heap.size (fun _ => True) v0_ r1 ∧ Below w.heap.size w w') Exit.ret ⟨tmps, []⟩ W' := by
  intro W' hb hB tmps h4 h5 hr
  simp only [Prod.mk.injEq] at hr
  obtain ⟨rfl, rfl, rfl, rfl, rfl⟩ := hr
  refine bodyPost_ret (results_ct rfl _ _ (w.heap.size + 1 + 1) 32 _ (0, 0) _ h4 hb Try.underlying32 rfl (by kernel_rfl)) rfl ?_
  rw [h5]
  exact ⟨_, rfl, Kd.R_nil _ _ _ _ _, hB⟩
 have HF := Qz.mk hf
 clear hf
 unfold impl_Version_edited.f at h
 split at h
 case isFalse => cases h
 rename_i hl
 replace h := Option.some.inj h
 unfold edV at h
 by_cases z1 : a1_2 < a0_1
 ·have z1b : decide (a1_2 < a0_1) = true := decide_eq_true z1
  rw [if_pos (.inl z1)] at h
  have HH := Qz.mk h
  clear h z1
  go_enter Try.func59, Try.ntmps59
  go_wp2
  exact HF.out _ (three w _ _ _).2.2.1 (three w _ _ _).1 _ rfl rfl HH.out.symm
 have z1b : decide (a1_2 < a0_1) = false := decide_eq_false z1
 by_cases z2 : a1_3 < a0_2
 ·have z2b : decide (a1_3 < a0_2) = true := decide_eq_true z2
  rw [if_pos (.inr (.inl z2))] at h
  have HH := Qz.mk h
  clear h z1 z2
  go_enter Try.func59, Try.ntmps59
  go_wp2
  exact HF.out _ (three w _ _ _).2.2.1 (three w _ _ _).1 _ rfl rfl HH.out.symm
 have z2b : decide (a1_3 < a0_2) = false := decide_eq_false z2
 by_cases z3 : a1_4 < a0_3
 ·have z3b : decide (a1_4 < a0_3) = true := decide_eq_true z3
  rw [if_pos (.inr (.inr (.inl z3)))] at h
  have HH := Qz.mk h
  clear h z1 z2 z3
  go_enter Try.func59, Try.ntmps59
  go_wp2
  exact HF.out _ (three w _ _ _).2.2.1 (three w _ _ _).1 _ rfl rfl HH.out.symm
 have z3b : decide (a1_4 < a0_3) = false := decide_eq_false z3
 by_cases z4 : 30 < l1_0.length
 ·have z4b : decide ((30 : Int) < (l1_0.length : Int)) = true := decide_eq_true (by omega)
  rw [if_pos (.inr (.inr (.inr z4)))] at h
  have HH := Qz.mk h
  clear h z1 z2 z3
  go_enter Try.func59, Try.ntmps59
  go_wp2
  exact HF.out _ (three w _ _ _).2.2.1 (three w _ _ _).1 _ rfl rfl HH.out.symm
 have z4b : decide ((30 : Int) < (l1_0.length : Int)) = false := decide_eq_false (by omega)
 rw [if_neg (by rintro (h | h | h | h) <;> contradiction)] at h
 have HH := Qz.mk h
 clear h z1 z2 z3
 go_enter Try.func59, Try.ntmps59
 go_wp2_with fail
 have h3 := three w (.cells #[.slice A0_0 l0_0.length c0_0, .int .i64 a0_1, .int .i64 a0_2, .int .i64 a0_3] 32) (.cells #[.slice A1_0 l1_0.length c1_0, .slice A1_1 l1_1.length c1_1, .int .i64 a1_2, .int .i64 a1_3, .int .i64 a1_4] 37) (.cells #[.slice none 0 0, .int .i64 0, .int .i64 0, .int .i64 0] 32)
 generalize ((w.alloc (.cells #[.slice A0_0 l0_0.length c0_0, .int .i64 a0_1, .int .i64 a0_2, .int .i64 a0_3] 32)).alloc (.cells #[.slice A1_0 l1_0.length c1_0, .slice A1_1 l1_1.length c1_1, .int .i64 a1_2, .int .i64 a1_3, .int .i64 a1_4] 37)).alloc (.cells #[.slice none 0 0, .int .i64 0, .int .i64 0, .int .i64 0] 32) = W0 at h3 ⊢
 have HBK := Qz.mk h3.1
 have BKe := Qz.mk h3.2.1
 have BKr := Qz.mk h3.2.2.1
 have HSZ := Qz.mk h3.2.2.2
 clear h3
 (with_reducible refine (clone_Meta A0_0 c0_0 l0_0 W0 W0 (Below.refl _ W0) (Kd.C_below H00.out HBK.out) (by omega)).mono ?_)
 rintro e w1 ⟨v, rfl, hR, hB⟩
 have HR := Qz.mk hR
 have HB := Qz.mk hB
 have BKe1 := Qz.mk (qo BKe.out hB)
 have BKr1 := Qz.mk (qo BKr.out hB)
 have HS1 := Qz.mk hB.size
 have hx1 := (qa BKe1.out 1).trans rfl
 clear hR hB
 go_wp2
 go_loopg [6, 43] l1_1.length (fun gk s6 s43 wr => ∃ (i : Nat) (m : List S66) (vf : Value), s6 = vf ∧ s43 = .int .i64 i ∧ i ≤ l1_1.length ∧ l1_1.length - i ≤ gk ∧ Qz (cutAll l0_0 l1_1 = cutAll m (l1_1.drop i)) ∧ m.length ≤ l0_0.length ∧ Qz (Kd.R k66 66 wr W0.heap.size (fun _ => True) vf m) ∧ Qz (Below W0.heap.size W0 wr))
 case atStart => exact ⟨0, l0_0, v, rfl, rfl, by omega, by omega, ⟨rfl⟩, Nat.le_refl _, HR, HB⟩
 case round =>
  obtain ⟨i, m, vf, rfl, rfl, hi, hg, HC, hml, HR, HB⟩ := hrel
  have HBW := Qz.mk (HBK.out.trans (HB.out.mono (by have := HSZ.out; omega)))
  obtain ⟨Af, cf, ef⟩ := Kd.R_slice HR.out
  subst ef
  by_cases hlt : i < l1_1.length
  ·have hd : decide ((i : Int) < (l1_1.length : Int)) = true := decide_eq_true (by omega)
   have HLT := Qz.mk hlt
   obtain ⟨ad, cc, ead, _, hK, hc0⟩ := Kd.C_get H11.out (0 : Int) (i : Int) (by omega) (by omega)
   obtain rfl : cc = [.int .i64 (l1_1.getD (i : Int).toNat 0)] := hK
   have hxi := hc0 0 _ rfl
   rw [show (Kd.int .i64).sz = 1 from rfl, Nat.mul_one, Nat.add_zero, Int.toNat_natCast] at hxi
   replace hxi := (HBW.out.cell (World.block_lt_of_cell? w _ hxi)).trans hxi
   have HN : Qz (l1_1.drop i = l1_1.getD i 0 :: l1_1.drop (i + 1)) := ⟨by rw [List.drop_eq_getElem_cons hlt, List.getD_eq_getElem?_getD, List.getElem?_eq_getElem hlt]; rfl⟩
   clear hc0
   generalize l1_1.getD i 0 = n at hxi HN
   cases ead
   have hb0 : Below wr.heap.size wr (wr.alloc (.cells #[.int .i64 n] 2)) := (Below.refl _ wr).alloc (Nat.le_refl _) _
   have hcall := indexFunc_Meta.calls 93 #[.pointer (some ⟨wr.heap.size, 0, none⟩)] (numP n) Af cf m (wr.alloc (.cells #[.int .i64 n] 2)) (Kd.C_below (Kd.R_reads' HR.out).2.2 hb0) (fun args w => by kernel_rfl)
    (fun x W hb => (numP_calls n wr.heap.size x W ((hb.cell (p := ⟨wr.heap.size, 0, none⟩) (by simp)).trans (by simp)) (Nat.lt_of_lt_of_le (by simp) hb.size)).mono (fun e w' h => ⟨h.1, hb.trans (h.2.mono hb.size)⟩))
   have HCALL := Qz.mk hcall
   have HB0 := Qz.mk hb0
   clear hcall hb0
   rcases idxf_neg (numP n) m 0 with hq | ⟨k, hk, hq, _⟩
   ·have hcall := HCALL.out
    rw [hq] at hcall
    have hdq : decide ((-1 : Int) < 0) = true := rfl
    go_wp2_with fail
    (with_reducible refine hcall.mono ?_)
    rintro e w3 ⟨rfl, hb3⟩
    have hb3' : Below wr.heap.size wr w3 := HB0.out.trans (hb3.mono (by simp))
    have HB3 := Qz.mk (HBW.out.trans (hb3'.mono HBW.out.size))
    have BKr3 := Qz.mk (qo (qo BKr.out HB.out) hb3')
    clear hcall hb3 hb3' hxi
    have hq0 := (qa BKr3.out 0).trans rfl
    have hq1 := (qa BKr3.out 1).trans rfl
    have hq2 := (qa BKr3.out 2).trans rfl
    have hq3 := (qa BKr3.out 3).trans rfl
    have hf0 := qc BKr3.out 0
    have hf1 := qc BKr3.out 1
    have hf2 := qc BKr3.out 2
    have hf3 := qc BKr3.out 3
    go_wp2
    refine HF.out _ (put4 BKr3.out) (below4 HB3.out (by omega)) _ rfl rfl ?_
    have hh := HH.out
    rw [HC.out, HN.out, cutAll, if_pos (by rw [hq]; decide)] at hh
    exact hh.symm
   ·obtain ⟨gg, cap, ef, _⟩ := Kd.R_form HR.out (by omega)
    injection ef with e1_ _ e3_
    subst e1_ e3_
    have hcall := HCALL.out
    rw [hq, Nat.zero_add] at hcall
    have hdq : decide ((k : Int) < 0) = false := decide_eq_false (by omega)
    go_wp2_with fail
    (with_reducible refine hcall.mono ?_)
    rintro e w3 ⟨rfl, hb3⟩
    have hb3' : Below wr.heap.size wr w3 := HB0.out.trans (hb3.mono (by simp))
    have HR3 := Qz.mk (Kd.R_below HR.out hb3')
    have HB3 := Qz.mk (HB.out.trans (hb3'.mono HB.out.size))
    clear hcall hb3 hb3' hxi
    go_wp2_with fail
    obtain ⟨n', hn'⟩ : ∃ n', m.length = n' + 1 := ⟨m.length - 1, by omega⟩
    rw [hn', show ((k : Int) + 1) = ((k + 1 : Nat) : Int) from by omega]
    (with_reducible refine (delete_Meta k gg n' cf W0.heap.size m W0 w3 HB3.out HB3.out.size (by rw [← hn']; exact HR3.out) (by omega)).mono ?_)
    rintro e w4 ⟨rfl, hR4, hB4⟩
    have HR4 := Qz.mk hR4
    have HB4 := Qz.mk hB4
    clear hR4 hB4 HR3 HB3 HR HB
    go_wp2
    go_roundg (l1_1.length - (i + 1))
    case measure => have := HLT.out; omega
    case rel =>
     have hlt2 := HLT.out
     have hlm := Kd.C_max H11.out
     refine ⟨i + 1, m.eraseIdx k, _, rfl, congrArg (Value.int .i64) (by unfold wrap64; omega), HLT.out, Nat.le_refl _, ⟨?_⟩, by rw [List.length_eraseIdx_of_lt hk]; omega, HR4, HB4⟩
     rw [HC.out, HN.out, cutAll, if_neg (by rw [hq]; omega), hq, Nat.zero_add, Int.toNat_natCast]
  ·have hd : decide ((i : Int) < (l1_1.length : Int)) = false := decide_eq_false (by omega)
   obtain rfl : i = l1_1.length := by omega
   have BKe2 := Qz.mk (qo BKe.out HB.out)
   have hx0 := (qa BKe2.out 0).trans rfl
   go_wp2_with (first | ((with_reducible refine gate_builtin (b := .append) (xs := #[.tmp 59, .tmp 61]) rfl ?_); at_builtin; refine Kd.R_append_rows k66 (w0 := W0) W0.heap.size rfl (.tmp 59) (.tmp 61) 30 66 (.agg #[.int .i64 0, .int .i64 0, .string ⟨#[]⟩, .string ⟨#[]⟩, .int .i64 0]) 56 rfl Try.underlying30 info66 rfl (by decide) (by omega) (.slice Af m.length cf) m l1_0 A1_0 l1_0.length c1_0 (fun _ => True) (fun _ => False) rfl rfl ?aO ?aR (fun _ _ h => h) (fun _ h => h.elim) ?aF ?aB ?aS ?aL ?_; (case aO => exact HR.out); (case aR => exact Kd.C_below H10.out HBW.out); (case aF => exact fun _ _ => trivial); (case aB => exact HB.out); (case aS => exact HB.out.size); (case aL => omega); intro v1 w2 ho hb hg hat; clear hx0))
   (with_reducible refine (sort_own 67 mcmp (fun args w => by kernel_rfl) cmpB_metas W0.heap.size v1 (m ++ l1_0) W0 w2 ho hb (by rw [List.length_append]; omega)).mono ?_)
   rintro e w3 ⟨rfl, hR3, hB3⟩
   obtain ⟨A3, c3, e3⟩ := Kd.R_slice hR3
   subst e3
   have HR3 := Qz.mk hR3
   have HB3 := Qz.mk hB3
   clear ho hb hg hat hR3 hB3 HR HB BKe2
   have BKe3 := Qz.mk (qo BKe.out HB3.out)
   have BKr3 := Qz.mk (qo BKr.out HB3.out)
   have hx2 := (qa BKe3.out 2).trans rfl
   have hx3 := (qa BKe3.out 3).trans rfl
   have hx4 := (qa BKe3.out 4).trans rfl
   go_wp2_with fail
   have hba : Below w3.heap.size w3 (w3.alloc (.cells #[.slice A3 (srt mcmp (m ++ l1_0)).length c3, .int .i64 a1_2, .int .i64 a1_3, .int .i64 a1_4] 32)) := (Below.refl _ w3).alloc (Nat.le_refl _) _
   have BKo := Qz.mk (blk_new w3 (.cells #[.slice A3 (srt mcmp (m ++ l1_0)).length c3, .int .i64 a1_2, .int .i64 a1_3, .int .i64 a1_4] 32))
   have HBA := Qz.mk hba
   clear hba
   generalize hw4 : w3.alloc (.cells #[.slice A3 (srt mcmp (m ++ l1_0)).length c3, .int .i64 a1_2, .int .i64 a1_3, .int .i64 a1_4] 32) = w4 at HBA BKo ⊢
   clear hw4
   have hh := HH.out
   rw [HC.out, List.drop_length, cutAll] at hh
   simp only [] at hh
   by_cases ok : vOk (srt mcmp (m ++ l1_0)) a1_2 a1_3 a1_4
   ·rw [if_pos ok] at hh
    have HH2 := Qz.mk hh
    clear hh
    (with_reducible refine (impl_VersionOk.calls A3 c3 (srt mcmp (m ++ l1_0)) a1_2 a1_3 a1_4 true w4 (Kd.C_below (Kd.R_reads' HR3.out).2.2 HBA.out) (Kd.R_reads' HR3.out).2.1 (by unfold impl_VersionOk.f; rw [decide_eq_true ok])).mono ?_)
    rintro e w5 ⟨rfl, hb5⟩
    have hb5 : Below w4.heap.size w4 w5 := by first | exact hb5 | exact hb5.below
    have BKo5 := Qz.mk (qo BKo.out hb5)
    have BKr5 := Qz.mk (qo (qo BKr3.out HBA.out) hb5)
    have HR5 := Qz.mk (Kd.R_below (Kd.R_below HR3.out HBA.out) hb5)
    have HB5 := Qz.mk (HBK.out.trans ((HB3.out.trans ((HBA.out.trans (hb5.mono HBA.out.size)).mono HB3.out.size)).mono HBK.out.size))
    clear hb5
    have hy0 := (qa BKo5.out 0).trans rfl
    have hy1 := (qa BKo5.out 1).trans rfl
    have hy2 := (qa BKo5.out 2).trans rfl
    have hy3 := (qa BKo5.out 3).trans rfl
    have hq0 := (qa BKr5.out 0).trans rfl
    have hq1 := (qa BKr5.out 1).trans rfl
    have hq2 := (qa BKr5.out 2).trans rfl
    have hq3 := (qa BKr5.out 3).trans rfl
    have hf0 := qc BKr5.out 0
    have hf1 := qc BKr5.out 1
    have hf2 := qc BKr5.out 2
    have hf3 := qc BKr5.out 3
    go_wp2
    have hsz := HSZ.out
    have hr := HH2.out
    simp only [Prod.mk.injEq] at hr
    obtain ⟨rfl, rfl, rfl, rfl, rfl⟩ := hr
    refine bodyPost_ret (results_ct rfl _ _ (w.heap.size + 1 + 1) 32 _ (0, 0) _ rfl (put4 BKr5.out) Try.underlying32 rfl (by kernel_rfl)) rfl ?_
    exact ⟨_, rfl, Kd.R_lower (R_put4 HR5.out (by omega)) HBK.out.size, below4 HB5.out (by omega)⟩
   ·rw [if_neg ok] at hh
    have HH2 := Qz.mk hh
    clear hh
    (with_reducible refine (impl_VersionOk.calls A3 c3 (srt mcmp (m ++ l1_0)) a1_2 a1_3 a1_4 false w4 (Kd.C_below (Kd.R_reads' HR3.out).2.2 HBA.out) (Kd.R_reads' HR3.out).2.1 (by unfold impl_VersionOk.f; rw [decide_eq_false ok])).mono ?_)
    rintro e w5 ⟨rfl, hb5⟩
    have hb5 : Below w4.heap.size w4 w5 := by first | exact hb5 | exact hb5.below
    have BKr5 := Qz.mk (qo (qo BKr3.out HBA.out) hb5)
    have HB5 := Qz.mk (HBK.out.trans ((HB3.out.trans ((HBA.out.trans (hb5.mono HBA.out.size)).mono HB3.out.size)).mono HBK.out.size))
    clear hb5
    have hq0 := (qa BKr5.out 0).trans rfl
    have hq1 := (qa BKr5.out 1).trans rfl
    have hq2 := (qa BKr5.out 2).trans rfl
    have hq3 := (qa BKr5.out 3).trans rfl
    have hf0 := qc BKr5.out 0
    have hf1 := qc BKr5.out 1
    have hf2 := qc BKr5.out 2
    have hf3 := qc BKr5.out 3
    go_wp2
    exact HF.out _ (put4 BKr5.out) (below4 HB5.out (by omega)) _ rfl rfl HH2.out.symm
end Go.Proofs.Ytcgejabkjljeeaa.P
end

section
namespace Go.Proofs.Ytcgejabkjljeeaa.P
open Go.RowKit Go.Proofs.YtcgejabkjljeeaaW.PrintWords Go.Proofs.YtcgejabkjljeeaaW.PrintLast Go.Proofs.YtcgejabkjljeeaaW.PrintMore
attribute [local go_sem] str_gtr str_leq str_geq qe1 qc1 max_two min_two qy qx qd1 qb1
set_option linter.unusedVariables false
set_option linter.unusedSimpArgs false
def impl_Meta_69.f (l0 : List S66) : Option (List S66) := if l0.length * 56 ≤ 140737488355328 then some l0 else none
theorem impl_Meta_69.calls (A0 : Option Addr) (c0 : Nat) (l0 : List S66) (r : List S66) (w : World) (hr0 : Kd.C k66 w A0 l0.length l0) (hc0 : l0.length ≤ c0) (h : impl_Meta_69.f l0 = some r) :
  Calls Try.prog 69 #[.slice A0 l0.length c0] w fun e w' => ∃ v0_ : Value, e = .returned v0_ ∧ Kd.R k66 66 w' w.heap.size (fun _ => True) v0_ r ∧ Below w.heap.size w w' := by
 unfold impl_Meta_69.f at h
 split at h
 ·rename_i hl
  obtain rfl := Option.some.inj h
  exact clone_Meta A0 c0 l0 w w (Below.refl _ _) hr0 hl
 ·cases h
theorem yq78 {P : Prop} (h : P := by (with_reducible repeat (first | apply Kd.R_alloc | apply Kd.R_drewN | apply Kd.R_drew)); exact (Kd.R_mono (Kd.R_far (p := ⟨gb109, 4, none⟩) (Kd.R_far (p := ⟨gb109, 3, none⟩) (Kd.R_far (p := ⟨gb109, 2, none⟩) (Kd.R_far (p := ⟨gb109, 1, none⟩) (Kd.R_far (p := ⟨gb109, 0, none⟩) (Kd.R_types HO_105000.out BK109.out (by decide)) (fun _ hk => hk.2) (.slice A108_0 ((qq l1 x22_1).f0).length c108_0)) (fun _ hk => hk.2) (.slice A108_1 ((qq l1 x22_1).f1).length c108_1)) (fun _ hk => hk.2) (.int .i64 ((qq l1 x22_1).f2))) (fun _ hk => hk.2) (.int .i64 ((qq l1 x22_1).f3))) (fun _ hk => hk.2) (.int .i64 ((qq l1 x22_1).f4))) (fun _ h_ => h_.1))) : P := h
theorem yq79 {P : Prop} (h : P := by repeat (first | (with_reducible first | exact HB.out | apply qd | apply qb | apply qe | refine qi ?_ GE101.out | refine qi ?_ GE102.out | refine qi ?_ GE104.out | refine qi ?_ GE109.out) | exact HB.out)) : P := h
theorem yq80 {P : Prop} (h : P := by (with_reducible repeat (first | refine qg ?_ _ | refine qh ?_ | refine qf ?_ _)); exact BK101.out) : P := h
theorem yq81 {P : Prop} (h : P := by (with_reducible repeat (first | refine qg ?_ _ | refine qh ?_ | refine qf ?_ _)); exact BK102.out) : P := h
theorem yq82 {P : Prop} (h : P := by (with_reducible repeat (first | refine qg ?_ _ | refine qh ?_ | refine qf ?_ _)); refine qa1 (cs := #[.slice A108_0 ((qq l1 x22_1).f0).length c108_0, .slice A108_1 ((qq l1 x22_1).f1).length c108_1, .int .i64 ((qq l1 x22_1).f2), .int .i64 ((qq l1 x22_1).f3), .int .i64 0]) ?_ 4 _ rfl; (with_reducible repeat (first | refine qg ?_ _ | refine qh ?_ | refine qf ?_ _)); refine qa1 (cs := #[.slice A108_0 ((qq l1 x22_1).f0).length c108_0, .slice A108_1 ((qq l1 x22_1).f1).length c108_1, .int .i64 ((qq l1 x22_1).f2), .int .i64 0, .int .i64 0]) ?_ 3 _ rfl; (with_reducible repeat (first | refine qg ?_ _ | refine qh ?_ | refine qf ?_ _)); refine qa1 (cs := #[.slice A108_0 ((qq l1 x22_1).f0).length c108_0, .slice A108_1 ((qq l1 x22_1).f1).length c108_1, .int .i64 0, .int .i64 0, .int .i64 0]) ?_ 2 _ rfl; (with_reducible repeat (first | refine qg ?_ _ | refine qh ?_ | refine qf ?_ _)); refine qa1 (cs := #[.slice A108_0 ((qq l1 x22_1).f0).length c108_0, .slice none 0 0, .int .i64 0, .int .i64 0, .int .i64 0]) ?_ 1 _ rfl; (with_reducible repeat (first | refine qg ?_ _ | refine qh ?_ | refine qf ?_ _)); refine qa1 (cs := #[.slice none 0 0, .slice none 0 0, .int .i64 0, .int .i64 0, .int .i64 0]) ?_ 0 _ rfl; (with_reducible repeat (first | refine qg ?_ _ | refine qh ?_ | refine qf ?_ _)); exact BK109.out) : P := h
theorem yq83 {P : Prop} (h : P := by repeat (first | (with_reducible first | exact HB.out | apply qd | apply qb | apply qe | refine qi ?_ GE101.out | refine qi ?_ GE102.out | refine qi ?_ GE104.out) | exact HB.out)) : P := h
theorem yq84 {P : Prop} (h : P := by (with_reducible repeat (first | refine qg ?_ _ | refine qh ?_ | refine qf ?_ _)); exact BK104.out) : P := h
theorem yq85 {P : Prop} (h : P := by rw [hg]; exact Nat.ne_of_lt (qw (g := gb101) (o := .cells #[.slice A0_0 l0_0.length c0_0, .int .i64 a0_1, .int .i64 a0_2, .int .i64 a0_3] 32 (0, 0)) yq80)) : P := h
theorem yq86 {P : Prop} (h : P := by rw [hg]; exact Nat.ne_of_gt (qw (g := gb101) (o := .cells #[.slice A0_0 l0_0.length c0_0, .int .i64 a0_1, .int .i64 a0_2, .int .i64 a0_3] 32 (0, 0)) yq80)) : P := h
theorem yq87 {P : Prop} (h : P := by (try simp only [List.map_toArray, List.map_cons, List.map_nil]); first | done | rfl | (simp only [List.length_drop, List.length_take]; rfl) | (rw [IntWalk.u64_in _ (by omega)] <;> rfl)) : P := h
theorem yq88 {P : Prop} (h : P := by (with_reducible repeat (first | refine qg ?_ _ | refine qh ?_ | refine qf ?_ _)); refine qu ?_ NB104_109.out _; (with_reducible repeat (first | refine qg ?_ _ | refine qh ?_ | refine qf ?_ _)); refine qu ?_ NB104_109.out _; (with_reducible repeat (first | refine qg ?_ _ | refine qh ?_ | refine qf ?_ _)); refine qu ?_ NB104_109.out _; (with_reducible repeat (first | refine qg ?_ _ | refine qh ?_ | refine qf ?_ _)); refine qu ?_ NB104_109.out _; (with_reducible repeat (first | refine qg ?_ _ | refine qh ?_ | refine qf ?_ _)); refine qu ?_ NB104_109.out _; (with_reducible repeat (first | refine qg ?_ _ | refine qh ?_ | refine qf ?_ _)); exact BK104.out) : P := h
theorem yq89 {P : Prop} (h : P := by (with_reducible repeat (first | refine qg ?_ _ | refine qh ?_ | refine qf ?_ _)); refine qu ?_ NB102_109.out _; (with_reducible repeat (first | refine qg ?_ _ | refine qh ?_ | refine qf ?_ _)); refine qu ?_ NB102_109.out _; (with_reducible repeat (first | refine qg ?_ _ | refine qh ?_ | refine qf ?_ _)); refine qu ?_ NB102_109.out _; (with_reducible repeat (first | refine qg ?_ _ | refine qh ?_ | refine qf ?_ _)); refine qu ?_ NB102_109.out _; (with_reducible repeat (first | refine qg ?_ _ | refine qh ?_ | refine qf ?_ _)); refine qu ?_ NB102_109.out _; (with_reducible repeat (first | refine qg ?_ _ | refine qh ?_ | refine qf ?_ _)); exact BK102.out) : P := h
theorem yq90 {P : Prop} (h : P := by (with_reducible repeat (first | refine qg ?_ _ | refine qh ?_ | refine qf ?_ _)); refine qu ?_ NB101_109.out _; (with_reducible repeat (first | refine qg ?_ _ | refine qh ?_ | refine qf ?_ _)); refine qu ?_ NB101_109.out _; (with_reducible repeat (first | refine qg ?_ _ | refine qh ?_ | refine qf ?_ _)); refine qu ?_ NB101_109.out _; (with_reducible repeat (first | refine qg ?_ _ | refine qh ?_ | refine qf ?_ _)); refine qu ?_ NB101_109.out _; (with_reducible repeat (first | refine qg ?_ _ | refine qh ?_ | refine qf ?_ _)); refine qu ?_ NB101_109.out _; (with_reducible repeat (first | refine qg ?_ _ | refine qh ?_ | refine qf ?_ _)); exact BK101.out) : P := h
theorem yq91 {P : Prop} (h : P := by (with_reducible repeat (first | refine qg ?_ _ | refine qh ?_ | refine qf ?_ _)); exact BK109.out) : P := h
theorem yq92 {P : Prop} (h : P := by rw [hg]; exact Nat.ne_of_lt (qw (g := gb102) (o := .cells #[.slice none 0 0, .int .i64 x103001_1, .int .i64 x103002_1, .int .i64 x103003_1] 32 (0, 0)) yq81)) : P := h
theorem yq93 {P : Prop} (h : P := by rw [hg]; exact Nat.ne_of_gt (qw (g := gb102) (o := .cells #[.slice none 0 0, .int .i64 x103001_1, .int .i64 x103002_1, .int .i64 x103003_1] 32 (0, 0)) yq81)) : P := h
theorem yq94 {P : Prop} (h : P := by repeat (first | (with_reducible first | exact HB.out | apply qd | apply qb | apply qe | refine qi ?_ GE101.out | refine qi ?_ GE102.out) | exact HB.out)) : P := h
theorem yq95 {P : Prop} (h : P := by repeat (first | (with_reducible first | exact HB.out | apply qd | apply qb | apply qe | refine qi ?_ GE101.out) | exact HB.out)) : P := h
theorem yq96 {P : Prop} (h : P := by (with_reducible repeat (first | apply Kd.R_alloc | apply Kd.R_drewN | apply Kd.R_drew)); exact HO_105000.out) : P := h
theorem yq97 {P : Prop} (h : P := by repeat (first | (with_reducible first | exact HB.out | apply qd | apply qb | apply qe) | exact HB.out)) : P := h
theorem yq98 {P : Prop} (h : P := by first | (go_simp; done) | (go_simp; rfl)) : P := h
theorem yq99 {P : Prop} (h : P := by rw [hg]; exact Nat.ne_of_lt (qw (g := gb109) (o := .cells #[.slice A108_0 ((qq l1 x22_1).f0).length c108_0, .slice A108_1 ((qq l1 x22_1).f1).length c108_1, .int .i64 ((qq l1 x22_1).f2), .int .i64 ((qq l1 x22_1).f3), .int .i64 ((qq l1 x22_1).f4)] 37 (0, 0)) yq91)) : P := h
theorem yq100 {P : Prop} (h : P := by rw [hg]; exact Nat.ne_of_gt (qw (g := gb109) (o := .cells #[.slice A108_0 ((qq l1 x22_1).f0).length c108_0, .slice A108_1 ((qq l1 x22_1).f1).length c108_1, .int .i64 ((qq l1 x22_1).f2), .int .i64 ((qq l1 x22_1).f3), .int .i64 ((qq l1 x22_1).f4)] 37 (0, 0)) yq91)) : P := h
theorem bkbf31 {w0 W W2 : World} {g : Nat} {o : Obj} (_ : Qz (w0.heap[g]? = some o)) (h : W.heap[g]? = some o) (hb : Below W.heap.size W W2) : Qz (W2.heap[g]? = some o) := Qz.mk (qo h hb)
def impl_Replay.l0 : Nat → List (S37) → List (S37) → Int → Int → List (S66) → Int → Int → Int → Option ((List (S66)) × Int × Int × Int × Int)
 | 0, _, _, _, _, _, _, _, _ => none
 | k + 1, x1, x20, x21, x22, x105000, x105001, x105002, x105003 => if x22 < x21 then (if 0 ≤ x22 then (if x22 < (x20.length : Int) then ((impl_Version_edited.f x105000 x105001 x105002 x105003 ((qq x20 x22).f0) ((qq x20 x22).f1) ((qq x20 x22).f2) ((qq x20 x22).f3) ((qq x20 x22).f4)).bind fun bt110 => (if bt110.2.2.2.2 = true then (impl_Replay.l0 k x1 x20 x21 (wrap64 (x22 + 1)) bt110.1 bt110.2.1 bt110.2.2.1 bt110.2.2.2.1) else (some (x105000, x105001, x105002, x105003, x22)))) else (none)) else (none)) else (some (x105000, x105001, x105002, x105003, (x1.length : Int)))
def impl_Replay.f (k : Nat) (l0_0 : List (S66)) (a0_1 : Int) (a0_2 : Int) (a0_3 : Int) (l1 : List (S37)) : Option ((List (S66)) × Int × Int × Int × Int) := (impl_VersionOk.f l0_0 a0_1 a0_2 a0_3).bind fun t103 => (if t103 = true then ((impl_Meta_69.f l0_0).bind fun t105 => (impl_Replay.l0 k l1 l1 (l1.length : Int) 0 t105 a0_1 a0_2 a0_3)) else (some (([] : List (S66)), 0, 0, 0, (-1))))
set_option maxHeartbeats 8000000 in
set_option maxRecDepth 100000 in
theorem impl_Replay.calls (k : Nat) (A0_0 : Option Addr) (c0_0 : Nat) (l0_0 : List (S66)) (a0_1 : Int) (a0_2 : Int) (a0_3 : Int) (A1 : Option Addr) (c1 : Nat) (l1 : List (S37)) (r1 : List (S66)) (r2 : Int) (r3 : Int) (r4 : Int) (r5 : Int) (w : World) (hr0_0 : Kd.C k66 w A0_0 l0_0.length l0_0) (hc0_0 : l0_0.length ≤ c0_0) (hr1 : Kd.C k37 w A1 l1.length l1) (hc1 : l1.length ≤ c1) (h : impl_Replay.f k l0_0 a0_1 a0_2 a0_3 l1 = some (r1, r2, r3, r4, r5)) :
  Calls Try.prog 31 #[.agg #[.slice A0_0 l0_0.length c0_0, .int .i64 a0_1, .int .i64 a0_2, .int .i64 a0_3], .slice A1 l1.length c1] w fun e w' => ∃ v0_ : Value, e = .returned (.tuple #[.agg #[v0_, .int .i64 r2, .int .i64 r3, .int .i64 r4], .int .i64 r5]) ∧ Kd.R k66 66 w' w.heap.size (fun _ => True) v0_ r1 ∧ Below w.heap.size w w' := by
 have hu32 := Try.underlying32
 have hu37 := Try.underlying37
 have HR0_0 := Qz.mk hr0_0
 have HC0_0 := Qz.mk hc0_0
 clear hr0_0 hc0_0
 have HR1 := Qz.mk hr1
 have HC1 := Qz.mk hc1
 clear hr1 hc1
 have HB := Qz.mk (Below.refl w.heap.size w)
 have H : ((impl_VersionOk.f l0_0 a0_1 a0_2 a0_3).bind fun t103 => (if t103 = true then ((impl_Meta_69.f l0_0).bind fun t105 => (impl_Replay.l0 k l1 l1 (l1.length : Int) 0 t105 a0_1 a0_2 a0_3)) else (some (([] : List (S66)), 0, 0, 0, (-1))))) = some (r1, r2, r3, r4, r5) := h
 clear h
 replace H := Option.bind_eq_some_iff.mp H
 obtain ⟨t103, A30, H⟩ := H
 replace H : (if t103 = true then ((impl_Meta_69.f l0_0).bind fun t105 => (impl_Replay.l0 k l1 l1 (l1.length : Int) 0 t105 a0_1 a0_2 a0_3)) else (some (([] : List (S66)), 0, 0, 0, (-1)))) = some (r1, r2, r3, r4, r5) := H
 have A3 := Qz.mk A30
 clear A30
 by_cases c4 : t103 = true
 ·subst c4
  have H1 : ((impl_Meta_69.f l0_0).bind fun t105 => (impl_Replay.l0 k l1 l1 (l1.length : Int) 0 t105 a0_1 a0_2 a0_3)) = some (r1, r2, r3, r4, r5) := by rw [if_pos rfl] at H; exact H
  clear H
  have H := H1
  clear H1
  replace H := Option.bind_eq_some_iff.mp H
  obtain ⟨t105, A50, H⟩ := H
  replace H : (impl_Replay.l0 k l1 l1 (l1.length : Int) 0 t105 a0_1 a0_2 a0_3) = some (r1, r2, r3, r4, r5) := H
  have A5 := Qz.mk A50
  clear A50
  have H' := Qz.mk H
  clear H
  go_enter Try.func31, Try.ntmps31
  go_wp2_with (first | ((with_reducible refine qv (N := 2) rfl ?_); refine qt ?hg (N := 2) ?hd (cs := #[.slice A0_0 l0_0.length c0_0, .int .i64 a0_1, .int .i64 a0_2, .int .i64 a0_3]) (t := 32) ?hr ?_; (case hd => rfl); (case hg => rfl); (case hr => exact yq98); intro gb101 hg w6 hbox hb; have BK101 := Qz.mk (hbox); have GW101 := Qz.mk ((by rw [hg]; exact (qp yq97) : w.heap.size ≤ gb101)); have GE101 := GW101; replace HB := Qz.mk (qk yq97 hb); clear hb hbox hg) | ((with_reducible refine qv (N := 4) rfl ?_); refine qt ?hg (N := 4) ?hd (cs := #[.slice none 0 0, .int .i64 0, .int .i64 0, .int .i64 0]) (t := 32) ?hr ?_; (case hd => rfl); (case hg => rfl); (case hr => exact yq98); intro gb102 hg w7 hbox hb; have BK102 := Qz.mk (hbox); have GW102 := Qz.mk ((by rw [hg]; exact (qp yq95) : w.heap.size ≤ gb102)); have GE102 := GW102; replace HB := Qz.mk (qk yq95 hb); have NB101_102 := Qz.mk ((yq85 : gb101 ≠ gb102)); have NB102_101 := Qz.mk ((yq86 : gb102 ≠ gb101)); replace BK101 := bkbf31 BK101 yq80 hb; clear hb hbox hg; have hnb8 := NB101_102.out; have hnc8 := NB102_101.out; have hcz9_0 := (qa BK101.out 0).trans rfl; have hcz9_1 := (qa BK101.out 1).trans rfl; have hcz9_2 := (qa BK101.out 2).trans rfl; have hcz9_3 := (qa BK101.out 3).trans rfl; have hfz9_0 := qc BK101.out 0; have hfz9_1 := qc BK101.out 1; have hfz9_2 := qc BK101.out 2; have hfz9_3 := qc BK101.out 3) | ((with_reducible refine qr (f := 27) rfl ?_); refine goesL_ (some 12) rfl rfl Try.func27 (by kernel_rfl) rfl #[.agg #[.slice A0_0 l0_0.length c0_0, .int .i64 a0_1, .int .i64 a0_2, .int .i64 a0_3]] rfl yq87 ?_; (with_reducible refine (impl_VersionOk.calls _ _ l0_0 a0_1 a0_2 a0_3 true _ ?side1 ?side2 A3.out).mono ?_); (case side1 => repeat (first | exact (Kd.C_below HR0_0.out HB.out) | (with_reducible refine Kd.C_alloc ?_ _) | (with_reducible refine Kd.C_drewN ?_ _) | (with_reducible refine Kd.C_drew ?_))); (case side2 => exact HC0_0.out); rintro e w10 ⟨rfl, hb⟩; refine ⟨_, rfl, ?_⟩; replace BK101 := bkbf31 BK101 yq80 hb; replace BK102 := bkbf31 BK102 yq81 hb; replace HB := Qz.mk (qk yq94 hb); (try clear hb); (try clear hk); have hcz11_0 := (qa BK101.out 0).trans rfl; have hcz11_1 := (qa BK101.out 1).trans rfl; have hcz11_2 := (qa BK101.out 2).trans rfl; have hcz11_3 := (qa BK101.out 3).trans rfl; have hfz11_0 := qc BK101.out 0; have hfz11_1 := qc BK101.out 1; have hfz11_2 := qc BK101.out 2; have hfz11_3 := qc BK101.out 3) | ((with_reducible refine qv (N := 6) rfl ?_); refine qt ?hg (N := 6) ?hd (cs := #[.slice none 0 0, .int .i64 0, .int .i64 0, .int .i64 0]) (t := 32) ?hr ?_; (case hd => rfl); (case hg => rfl); (case hr => exact yq98); intro gb104 hg w12 hbox hb; have BK104 := Qz.mk (hbox); have GW104 := Qz.mk ((by rw [hg]; exact (qp yq94) : w.heap.size ≤ gb104)); have GE104 := GW104; replace HB := Qz.mk (qk yq94 hb); have NB101_104 := Qz.mk ((yq85 : gb101 ≠ gb104)); have NB104_101 := Qz.mk ((yq86 : gb104 ≠ gb101)); replace BK101 := bkbf31 BK101 yq80 hb; have NB102_104 := Qz.mk ((by rw [hg]; exact Nat.ne_of_lt (qw (g := gb102) (o := .cells #[.slice none 0 0, .int .i64 0, .int .i64 0, .int .i64 0] 32 (0, 0)) yq81) : gb102 ≠ gb104)); have NB104_102 := Qz.mk ((by rw [hg]; exact Nat.ne_of_gt (qw (g := gb102) (o := .cells #[.slice none 0 0, .int .i64 0, .int .i64 0, .int .i64 0] 32 (0, 0)) yq81) : gb104 ≠ gb102)); replace BK102 := bkbf31 BK102 yq81 hb; clear hb hbox hg; have hnb13 := NB104_101.out; have hnc13 := NB101_104.out; have hnb14 := NB104_102.out; have hnc14 := NB102_104.out; have hcz15_0 := (qa BK104.out 0).trans rfl; have hcz15_1 := (qa BK104.out 1).trans rfl; have hcz15_2 := (qa BK104.out 2).trans rfl; have hcz15_3 := (qa BK104.out 3).trans rfl; have hfz15_0 := qc BK104.out 0; have hfz15_1 := qc BK104.out 1; have hfz15_2 := qc BK104.out 2; have hfz15_3 := qc BK104.out 3; have hcz16_0 := (qa BK101.out 0).trans rfl; have hcz16_1 := (qa BK101.out 1).trans rfl; have hcz16_2 := (qa BK101.out 2).trans rfl; have hcz16_3 := (qa BK101.out 3).trans rfl; have hfz16_0 := qc BK101.out 0; have hfz16_1 := qc BK101.out 1; have hfz16_2 := qc BK101.out 2; have hfz16_3 := qc BK101.out 3) | ((with_reducible refine qr (f := 69) rfl ?_); refine goesL_ (some 18) rfl rfl Try.func69 (by kernel_rfl) rfl #[.slice A0_0 l0_0.length c0_0] rfl yq87 ?_; (with_reducible refine (impl_Meta_69.calls _ _ l0_0 t105 _ ?side1 ?side2 A5.out).mono ?_); (case side1 => exact Kd.C_below HR0_0.out yq83); (case side2 => exact HC0_0.out); rintro e w17 ⟨v106, rfl, ho0, hb⟩; refine ⟨_, rfl, ?_⟩; have HO107 := Qz.mk (Kd.R_lower ho0 (qp yq83)); replace BK101 := Qz.mk (qo (g := gb101) (o := .cells #[.slice A0_0 l0_0.length c0_0, .int .i64 a0_1, .int .i64 a0_2, .int .i64 a0_3] 32 (0, 0)) (by (with_reducible repeat (first | refine qg ?_ _ | refine qh ?_ | refine qf ?_ _)); refine qu ?_ NB101_104.out _; (with_reducible repeat (first | refine qg ?_ _ | refine qh ?_ | refine qf ?_ _)); refine qu ?_ NB101_104.out _; (with_reducible repeat (first | refine qg ?_ _ | refine qh ?_ | refine qf ?_ _)); refine qu ?_ NB101_104.out _; (with_reducible repeat (first | refine qg ?_ _ | refine qh ?_ | refine qf ?_ _)); refine qu ?_ NB101_104.out _; (with_reducible repeat (first | refine qg ?_ _ | refine qh ?_ | refine qf ?_ _)); exact BK101.out) hb); replace BK102 := Qz.mk (qo (g := gb102) (o := .cells #[.slice none 0 0, .int .i64 0, .int .i64 0, .int .i64 0] 32 (0, 0)) (by (with_reducible repeat (first | refine qg ?_ _ | refine qh ?_ | refine qf ?_ _)); refine qu ?_ NB102_104.out _; (with_reducible repeat (first | refine qg ?_ _ | refine qh ?_ | refine qf ?_ _)); refine qu ?_ NB102_104.out _; (with_reducible repeat (first | refine qg ?_ _ | refine qh ?_ | refine qf ?_ _)); refine qu ?_ NB102_104.out _; (with_reducible repeat (first | refine qg ?_ _ | refine qh ?_ | refine qf ?_ _)); refine qu ?_ NB102_104.out _; (with_reducible repeat (first | refine qg ?_ _ | refine qh ?_ | refine qf ?_ _)); exact BK102.out) hb); replace BK104 := Qz.mk (qo (g := gb104) (o := .cells #[.slice A0_0 l0_0.length c0_0, .int .i64 a0_1, .int .i64 a0_2, .int .i64 a0_3] 32 (0, 0)) (by (with_reducible repeat (first | refine qg ?_ _ | refine qh ?_ | refine qf ?_ _)); refine qa1 (cs := #[.slice A0_0 l0_0.length c0_0, .int .i64 a0_1, .int .i64 a0_2, .int .i64 0]) ?_ 3 _ rfl; (with_reducible repeat (first | refine qg ?_ _ | refine qh ?_ | refine qf ?_ _)); refine qa1 (cs := #[.slice A0_0 l0_0.length c0_0, .int .i64 a0_1, .int .i64 0, .int .i64 0]) ?_ 2 _ rfl; (with_reducible repeat (first | refine qg ?_ _ | refine qh ?_ | refine qf ?_ _)); refine qa1 (cs := #[.slice A0_0 l0_0.length c0_0, .int .i64 0, .int .i64 0, .int .i64 0]) ?_ 1 _ rfl; (with_reducible repeat (first | refine qg ?_ _ | refine qh ?_ | refine qf ?_ _)); refine qa1 (cs := #[.slice none 0 0, .int .i64 0, .int .i64 0, .int .i64 0]) ?_ 0 _ rfl; (with_reducible repeat (first | refine qg ?_ _ | refine qh ?_ | refine qf ?_ _)); exact BK104.out) hb); replace HB := Qz.mk (qk yq83 hb); (try clear hb); (try clear hk); (try clear ho0); obtain ⟨Ao18, co18, eo18⟩ := Kd.R_slice HO107.out; subst eo18; have hcz19_0 := (qa BK104.out 0).trans rfl; have hcz19_1 := (qa BK104.out 1).trans rfl; have hcz19_2 := (qa BK104.out 2).trans rfl; have hcz19_3 := (qa BK104.out 3).trans rfl; have hfz19_0 := qc BK104.out 0; have hfz19_1 := qc BK104.out 1; have hfz19_2 := qc BK104.out 2; have hfz19_3 := qc BK104.out 3))
  go_loopg [22] k (fun kq v22 w' => ∃ (x22_1 : Int) (x103001_1 : Int) (x103002_1 : Int) (x103003_1 : Int) (x105000_1 : List (S66)) (x105001_1 : Int) (x105002_1 : Int) (x105003_1 : Int) (u105000 : Value), v22 = .int .i64 x22_1 ∧ Qz (impl_Replay.l0 kq l1 l1 (l1.length : Int) x22_1 x105000_1 x105001_1 x105002_1 x105003_1 = some (r1, r2, r3, r4, r5)) ∧ Qz (kq ≤ k) ∧ Qz (Kd.R k66 66 w' w.heap.size (fun _ => True) u105000 x105000_1) ∧ Qz (w'.heap[gb101]? = some (.cells #[(.slice A0_0 l0_0.length c0_0), .int .i64 a0_1, .int .i64 a0_2, .int .i64 a0_3] 32 (0, 0))) ∧ Qz (w'.heap[gb102]? = some (.cells #[(.slice none 0 0), .int .i64 x103001_1, .int .i64 x103002_1, .int .i64 x103003_1] 32 (0, 0))) ∧ Qz (w'.heap[gb104]? = some (.cells #[u105000, .int .i64 x105001_1, .int .i64 x105002_1, .int .i64 x105003_1] 32 (0, 0))) ∧ Qz (Below w.heap.size w w'))
  case atStart => exact ⟨(0), (0), (0), (0), (t105), (a0_1), (a0_2), (a0_3), (.slice Ao18 t105.length co18), (by first | rfl | (simp; done) | (simp [*]; done)), H', ⟨Nat.le_refl _⟩, ⟨by (with_reducible repeat (first | apply Kd.R_alloc | apply Kd.R_drewN | apply Kd.R_drew)); exact Kd.R_mono (Kd.R_far (p := ⟨gb104, 0, none⟩) (Kd.R_types HO107.out BK104.out (by decide)) (fun _ hk => hk.2) (.slice Ao18 t105.length co18)) (fun _ hk => trivial)⟩, ⟨by (with_reducible repeat (first | refine qg ?_ _ | refine qh ?_ | refine qf ?_ _)); refine qu ?_ NB101_104.out _; (with_reducible repeat (first | refine qg ?_ _ | refine qh ?_ | refine qf ?_ _)); exact BK101.out⟩, ⟨by (with_reducible repeat (first | refine qg ?_ _ | refine qh ?_ | refine qf ?_ _)); refine qu ?_ NB102_104.out _; (with_reducible repeat (first | refine qg ?_ _ | refine qh ?_ | refine qf ?_ _)); exact BK102.out⟩, ⟨by (with_reducible repeat (first | refine qg ?_ _ | refine qh ?_ | refine qf ?_ _)); refine qa1 (cs := #[.slice A0_0 l0_0.length c0_0, .int .i64 a0_1, .int .i64 a0_2, .int .i64 a0_3]) ?_ 0 _ rfl; (with_reducible repeat (first | refine qg ?_ _ | refine qh ?_ | refine qf ?_ _)); exact BK104.out⟩, ⟨by repeat (first | (with_reducible first | exact HB.out | apply qd | apply qb | apply qe | refine qi ?_ GE101.out | refine qi ?_ GE102.out | refine qi ?_ GE104.out) | exact HB.out)⟩⟩
  case round =>
   clear H'
   (try clear c1);(try clear c2);(try clear p2);(try clear c3);(try clear c4);(try clear c6);(try clear c8);(try clear c13);(try clear c14);(try clear hcz11_0);(try clear hcz11_1);(try clear hcz11_2);(try clear hcz11_3);(try clear hcz15_0);(try clear hcz15_1);(try clear hcz15_2);(try clear hcz15_3);(try clear hcz16_0);(try clear hcz16_1);(try clear hcz16_2);(try clear hcz16_3);(try clear hcz19_0);(try clear hcz19_1);(try clear hcz19_2);(try clear hcz19_3);(try clear hcz9_0);(try clear hcz9_1);(try clear hcz9_2);(try clear hcz9_3);(try clear hfz11_0);(try clear hfz11_1);(try clear hfz11_2);(try clear hfz11_3);(try clear hfz15_0);(try clear hfz15_1);(try clear hfz15_2);(try clear hfz15_3);(try clear hfz16_0);(try clear hfz16_1);(try clear hfz16_2);(try clear hfz16_3);(try clear hfz19_0);(try clear hfz19_1);(try clear hfz19_2);(try clear hfz19_3);(try clear hfz9_0);(try clear hfz9_1);(try clear hfz9_2);(try clear hfz9_3)
   obtain ⟨x22_1, x103001_1, x103002_1, x103003_1, x105000_1, x105001_1, x105002_1, x105003_1, u105000, rfl, HA, HK1, HO_105000, BK101, BK102, BK104, HB⟩ := hrel
   cases gk with
   | zero => exact absurd HA.out (by simp [impl_Replay.l0])
   | succ k1 =>
    have H := HA.out
    clear HA
    simp only [impl_Replay.l0] at H
    by_cases c20 : x22_1 < (l1.length : Int)
    ·rw [if_pos c20] at H
     have c20b0 : decide (x22_1 < (l1.length : Int)) = true := decide_eq_true c20
     clear c20
     by_cases c21 : 0 ≤ x22_1
     ·rw [if_pos c21] at H
      have c21b0 : decide (0 ≤ x22_1) = true := decide_eq_true c21
      clear c21
      by_cases c22 : x22_1 < (l1.length : Int)
      ·rw [if_pos c22] at H
       have c22b0 : decide (x22_1 < (l1.length : Int)) = true := decide_eq_true c22
       clear c22
       replace H := Option.bind_eq_some_iff.mp H
       obtain ⟨⟨t110, t113, t114, t115, t116⟩, A230, H⟩ := H
       replace H : (if t116 = true then (impl_Replay.l0 k1 l1 l1 (l1.length : Int) (wrap64 (x22_1 + 1)) t110 t113 t114 t115) else (some (x105000_1, x105001_1, x105002_1, x105003_1, x22_1))) = some (r1, r2, r3, r4, r5) := H
       have A23 := Qz.mk A230
       clear A230
       by_cases c24 : t116 = true
       ·subst c24
        have H1 : (impl_Replay.l0 k1 l1 l1 (l1.length : Int) (wrap64 (x22_1 + 1)) t110 t113 t114 t115) = some (r1, r2, r3, r4, r5) := by rw [if_pos rfl] at H; exact H
        clear H
        have H := H1
        clear H1
        have H' := Qz.mk H
        clear H
        have p108 : 0 ≤ (x22_1 : Int) := of_decide_eq_true (by first | (with_reducible assumption) | assumption)
        have q108 : x22_1 < (l1.length : Int) := of_decide_eq_true (by first | (with_reducible assumption) | assumption)
        obtain ⟨ad108, A108_0, c108_0, A108_1, c108_1, e108, hx108_0, hx108_1, hx108_2, hx108_3, hx108_4, hl108_0, hi108_0, hl108_1, hi108_1⟩ := at_T37 HR1.out x22_1 p108 q108
        cases e108
        replace hx108_0 := (HB.out.cell (World.block_lt_of_cell? w _ hx108_0)).trans hx108_0
        replace hx108_1 := (HB.out.cell (World.block_lt_of_cell? w _ hx108_1)).trans hx108_1
        replace hx108_2 := (HB.out.cell (World.block_lt_of_cell? w _ hx108_2)).trans hx108_2
        replace hx108_3 := (HB.out.cell (World.block_lt_of_cell? w _ hx108_3)).trans hx108_3
        replace hx108_4 := (HB.out.cell (World.block_lt_of_cell? w _ hx108_4)).trans hx108_4
        have HR108_0 := Qz.mk hi108_0
        have HC108_0 := Qz.mk hl108_0
        clear hi108_0 hl108_0
        have HR108_1 := Qz.mk hi108_1
        have HC108_1 := Qz.mk hl108_1
        clear hi108_1 hl108_1
        replace p108 := eq_true p108
        replace q108 := eq_true q108
        go_wp2_with (first | ((with_reducible refine qv (N := 8) rfl ?_); refine qt ?hg (N := 8) ?hd (cs := #[.slice none 0 0, .slice none 0 0, .int .i64 0, .int .i64 0, .int .i64 0]) (t := 37) ?hr ?_; (case hd => rfl); (case hg => rfl); (case hr => exact yq98); intro gb109 hg w25 hbox hb; replace HO_105000 := Qz.mk (Kd.R_below yq96 hb); have BK109 := Qz.mk (hbox); have GW109 := Qz.mk ((by rw [hg]; exact (qp yq83) : w.heap.size ≤ gb109)); have GE109 := GW109; replace HB := Qz.mk (qk yq83 hb); have NB101_109 := Qz.mk ((yq85 : gb101 ≠ gb109)); have NB109_101 := Qz.mk ((yq86 : gb109 ≠ gb101)); replace BK101 := bkbf31 BK101 yq80 hb; have NB102_109 := Qz.mk ((yq92 : gb102 ≠ gb109)); have NB109_102 := Qz.mk ((yq93 : gb109 ≠ gb102)); replace BK102 := bkbf31 BK102 yq81 hb; have NB104_109 := Qz.mk ((by rw [hg]; exact Nat.ne_of_lt (qw (g := gb104) (o := .cells #[u105000, .int .i64 x105001_1, .int .i64 x105002_1, .int .i64 x105003_1] 32 (0, 0)) yq84) : gb104 ≠ gb109)); have NB109_104 := Qz.mk ((by rw [hg]; exact Nat.ne_of_gt (qw (g := gb104) (o := .cells #[u105000, .int .i64 x105001_1, .int .i64 x105002_1, .int .i64 x105003_1] 32 (0, 0)) yq84) : gb109 ≠ gb104)); replace BK104 := bkbf31 BK104 yq84 hb; clear hb hbox hg; have hnb26 := NB109_101.out; have hnc26 := NB101_109.out; have hnb27 := NB109_102.out; have hnc27 := NB102_109.out; have hnb28 := NB109_104.out; have hnc28 := NB104_109.out; have hcz29_0 := (qa BK109.out 0).trans rfl; have hcz29_1 := (qa BK109.out 1).trans rfl; have hcz29_2 := (qa BK109.out 2).trans rfl; have hcz29_3 := (qa BK109.out 3).trans rfl; have hcz29_4 := (qa BK109.out 4).trans rfl; have hfz29_0 := qc BK109.out 0; have hfz29_1 := qc BK109.out 1; have hfz29_2 := qc BK109.out 2; have hfz29_3 := qc BK109.out 3; have hfz29_4 := qc BK109.out 4; have hnb30 := NB104_101.out; have hnc30 := NB101_104.out; have hnb31 := NB104_102.out; have hnc31 := NB102_104.out; have hcz32_0 := (qa BK104.out 0).trans rfl; have hcz32_1 := (qa BK104.out 1).trans rfl; have hcz32_2 := (qa BK104.out 2).trans rfl; have hcz32_3 := (qa BK104.out 3).trans rfl; have hfz32_0 := qc BK104.out 0; have hfz32_1 := qc BK104.out 1; have hfz32_2 := qc BK104.out 2; have hfz32_3 := qc BK104.out 3; obtain ⟨Ao33, co33, eo33⟩ := Kd.R_slice HO_105000.out; subst eo33) | ((with_reducible refine qr (f := 59) rfl ?_); refine goesL_ (some 30) rfl rfl Try.func59 (by kernel_rfl) rfl #[.agg #[.slice Ao33 x105000_1.length co33, .int .i64 x105001_1, .int .i64 x105002_1, .int .i64 x105003_1], .agg #[.slice A108_0 ((qq l1 x22_1).f0).length c108_0, .slice A108_1 ((qq l1 x22_1).f1).length c108_1, .int .i64 ((qq l1 x22_1).f2), .int .i64 ((qq l1 x22_1).f3), .int .i64 ((qq l1 x22_1).f4)]] rfl yq87 ?_; (with_reducible refine (impl_Version_edited.calls _ _ x105000_1 x105001_1 x105002_1 x105003_1 _ _ ((qq l1 x22_1).f0) _ _ ((qq l1 x22_1).f1) ((qq l1 x22_1).f2) ((qq l1 x22_1).f3) ((qq l1 x22_1).f4) t110 t113 t114 t115 true _ ?side1 ?side2 ?side3 ?side4 ?side5 ?side6 A23.out).mono ?_); (case side1 => refine (Kd.R_reads' (e := 66) (base := w.heap.size) (ok := fun k_ => True) (n := x105000_1.length) (c := co33) ?_).2.2; exact yq78); (case side2 => exact (Kd.R_reads' HO_105000.out).2.1); (case side3 => exact Kd.C_below HR108_0.out yq79); (case side4 => exact HC108_0.out); (case side5 => exact Kd.C_below HR108_1.out yq79); (case side6 => exact HC108_1.out); rintro e w34 ⟨v111, rfl, ho0, hb⟩; refine ⟨_, rfl, ?_⟩; have HO112 := Qz.mk (Kd.R_lower (Kd.R_new' ho0 (Kd.R_lt yq78)) (qp yq79)); replace HO_105000 := Qz.mk (Kd.R_elder' yq78 (Kd.R_base ho0) hb); replace BK101 := Qz.mk (qo (g := gb101) (o := .cells #[.slice A0_0 l0_0.length c0_0, .int .i64 a0_1, .int .i64 a0_2, .int .i64 a0_3] 32 (0, 0)) yq90 hb); replace BK102 := Qz.mk (qo (g := gb102) (o := .cells #[.slice none 0 0, .int .i64 x103001_1, .int .i64 x103002_1, .int .i64 x103003_1] 32 (0, 0)) yq89 hb); replace BK104 := Qz.mk (qo (g := gb104) (o := .cells #[.slice Ao33 x105000_1.length co33, .int .i64 x105001_1, .int .i64 x105002_1, .int .i64 x105003_1] 32 (0, 0)) yq88 hb); replace BK109 := Qz.mk (qo (g := gb109) (o := .cells #[.slice A108_0 ((qq l1 x22_1).f0).length c108_0, .slice A108_1 ((qq l1 x22_1).f1).length c108_1, .int .i64 ((qq l1 x22_1).f2), .int .i64 ((qq l1 x22_1).f3), .int .i64 ((qq l1 x22_1).f4)] 37 (0, 0)) yq82 hb); replace HB := Qz.mk (qk yq79 hb); (try clear hb); (try clear hk); (try clear ho0)) | ((with_reducible refine qv (N := 9) rfl ?_); refine qt ?hg (N := 9) ?hd (cs := #[.slice none 0 0, .int .i64 0, .int .i64 0, .int .i64 0]) (t := 32) ?hr ?_; (case hd => rfl); (case hg => rfl); (case hr => exact yq98); intro gb117 hg w35 hbox hb; replace HO_105000 := Qz.mk (Kd.R_below yq96 hb); replace HO112 := Qz.mk (Kd.R_below (by (with_reducible repeat (first | apply Kd.R_alloc | apply Kd.R_drewN | apply Kd.R_drew)); exact HO112.out) hb); have BK117 := Qz.mk (hbox); have GW117 := Qz.mk ((by rw [hg]; exact (qp yq79) : w.heap.size ≤ gb117)); have GE117 := GW117; replace HB := Qz.mk (qk yq79 hb); have NB101_117 := Qz.mk ((yq85 : gb101 ≠ gb117)); have NB117_101 := Qz.mk ((yq86 : gb117 ≠ gb101)); replace BK101 := bkbf31 BK101 yq80 hb; have NB102_117 := Qz.mk ((yq92 : gb102 ≠ gb117)); have NB117_102 := Qz.mk ((yq93 : gb117 ≠ gb102)); replace BK102 := bkbf31 BK102 yq81 hb; have NB104_117 := Qz.mk ((by rw [hg]; exact Nat.ne_of_lt (qw (g := gb104) (o := .cells #[.slice Ao33 x105000_1.length co33, .int .i64 x105001_1, .int .i64 x105002_1, .int .i64 x105003_1] 32 (0, 0)) yq84) : gb104 ≠ gb117)); have NB117_104 := Qz.mk ((by rw [hg]; exact Nat.ne_of_gt (qw (g := gb104) (o := .cells #[.slice Ao33 x105000_1.length co33, .int .i64 x105001_1, .int .i64 x105002_1, .int .i64 x105003_1] 32 (0, 0)) yq84) : gb117 ≠ gb104)); replace BK104 := bkbf31 BK104 yq84 hb; have NB109_117 := Qz.mk ((yq99 : gb109 ≠ gb117)); have NB117_109 := Qz.mk ((yq100 : gb117 ≠ gb109)); replace BK109 := bkbf31 BK109 yq91 hb; clear hb hbox hg; obtain ⟨Ao36, co36, eo36⟩ := Kd.R_slice HO112.out; subst eo36; have hnb37 := NB117_101.out; have hnc37 := NB101_117.out; have hnb38 := NB117_102.out; have hnc38 := NB102_117.out; have hnb39 := NB117_104.out; have hnc39 := NB104_117.out; have hnb40 := NB117_109.out; have hnc40 := NB109_117.out; have hcz41_0 := (qa BK117.out 0).trans rfl; have hcz41_1 := (qa BK117.out 1).trans rfl; have hcz41_2 := (qa BK117.out 2).trans rfl; have hcz41_3 := (qa BK117.out 3).trans rfl; have hfz41_0 := qc BK117.out 0; have hfz41_1 := qc BK117.out 1; have hfz41_2 := qc BK117.out 2; have hfz41_3 := qc BK117.out 3; have hcz42_0 := (qa BK104.out 0).trans rfl; have hcz42_1 := (qa BK104.out 1).trans rfl; have hcz42_2 := (qa BK104.out 2).trans rfl; have hcz42_3 := (qa BK104.out 3).trans rfl; have hfz42_0 := qc BK104.out 0; have hfz42_1 := qc BK104.out 1; have hfz42_2 := qc BK104.out 2; have hfz42_3 := qc BK104.out 3))
        go_roundg k1
        case measure => have := HK1.out; omega
        case rel => exact ⟨(wrap64 (x22_1 + 1)), (x103001_1), (x103002_1), (x103003_1), (t110), (t113), (t114), (t115), (.slice Ao36 t110.length co36), (by first | rfl | (simp; done) | (simp [*]; done)), H', ⟨by have := HK1.out; omega⟩, ⟨by (with_reducible repeat (first | apply Kd.R_alloc | apply Kd.R_drewN | apply Kd.R_drew)); exact Kd.R_mono (Kd.R_far (p := ⟨gb104, 3, none⟩) (Kd.R_far (p := ⟨gb104, 2, none⟩) (Kd.R_far (p := ⟨gb104, 1, none⟩) (Kd.R_far (p := ⟨gb104, 0, none⟩) (Kd.R_far (p := ⟨gb117, 3, none⟩) (Kd.R_far (p := ⟨gb117, 2, none⟩) (Kd.R_far (p := ⟨gb117, 1, none⟩) (Kd.R_far (p := ⟨gb117, 0, none⟩) (Kd.R_types (Kd.R_types HO112.out BK117.out (by decide)) BK104.out (by decide)) (fun _ hk => hk.1.2) (.slice Ao36 t110.length co36)) (fun _ hk => hk.1.2) (.int .i64 t113)) (fun _ hk => hk.1.2) (.int .i64 t114)) (fun _ hk => hk.1.2) (.int .i64 t115)) (fun _ hk => hk.2) (.slice Ao36 t110.length co36)) (fun _ hk => hk.2) (.int .i64 t113)) (fun _ hk => hk.2) (.int .i64 t114)) (fun _ hk => hk.2) (.int .i64 t115)) (fun _ hk => trivial)⟩, ⟨by (with_reducible repeat (first | refine qg ?_ _ | refine qh ?_ | refine qf ?_ _)); refine qu ?_ NB101_104.out _; (with_reducible repeat (first | refine qg ?_ _ | refine qh ?_ | refine qf ?_ _)); refine qu ?_ NB101_104.out _; (with_reducible repeat (first | refine qg ?_ _ | refine qh ?_ | refine qf ?_ _)); refine qu ?_ NB101_104.out _; (with_reducible repeat (first | refine qg ?_ _ | refine qh ?_ | refine qf ?_ _)); refine qu ?_ NB101_104.out _; (with_reducible repeat (first | refine qg ?_ _ | refine qh ?_ | refine qf ?_ _)); refine qu ?_ NB101_117.out _; (with_reducible repeat (first | refine qg ?_ _ | refine qh ?_ | refine qf ?_ _)); refine qu ?_ NB101_117.out _; (with_reducible repeat (first | refine qg ?_ _ | refine qh ?_ | refine qf ?_ _)); refine qu ?_ NB101_117.out _; (with_reducible repeat (first | refine qg ?_ _ | refine qh ?_ | refine qf ?_ _)); refine qu ?_ NB101_117.out _; (with_reducible repeat (first | refine qg ?_ _ | refine qh ?_ | refine qf ?_ _)); exact BK101.out⟩, ⟨by (with_reducible repeat (first | refine qg ?_ _ | refine qh ?_ | refine qf ?_ _)); refine qu ?_ NB102_104.out _; (with_reducible repeat (first | refine qg ?_ _ | refine qh ?_ | refine qf ?_ _)); refine qu ?_ NB102_104.out _; (with_reducible repeat (first | refine qg ?_ _ | refine qh ?_ | refine qf ?_ _)); refine qu ?_ NB102_104.out _; (with_reducible repeat (first | refine qg ?_ _ | refine qh ?_ | refine qf ?_ _)); refine qu ?_ NB102_104.out _; (with_reducible repeat (first | refine qg ?_ _ | refine qh ?_ | refine qf ?_ _)); refine qu ?_ NB102_117.out _; (with_reducible repeat (first | refine qg ?_ _ | refine qh ?_ | refine qf ?_ _)); refine qu ?_ NB102_117.out _; (with_reducible repeat (first | refine qg ?_ _ | refine qh ?_ | refine qf ?_ _)); refine qu ?_ NB102_117.out _; (with_reducible repeat (first | refine qg ?_ _ | refine qh ?_ | refine qf ?_ _)); refine qu ?_ NB102_117.out _; (with_reducible repeat (first | refine qg ?_ _ | refine qh ?_ | refine qf ?_ _)); exact BK102.out⟩, ⟨by (with_reducible repeat (first | refine qg ?_ _ | refine qh ?_ | refine qf ?_ _)); refine qa1 (cs := #[.slice Ao36 t110.length co36, .int .i64 t113, .int .i64 t114, .int .i64 x105003_1]) ?_ 3 _ rfl; (with_reducible repeat (first | refine qg ?_ _ | refine qh ?_ | refine qf ?_ _)); refine qa1 (cs := #[.slice Ao36 t110.length co36, .int .i64 t113, .int .i64 x105002_1, .int .i64 x105003_1]) ?_ 2 _ rfl; (with_reducible repeat (first | refine qg ?_ _ | refine qh ?_ | refine qf ?_ _)); refine qa1 (cs := #[.slice Ao36 t110.length co36, .int .i64 x105001_1, .int .i64 x105002_1, .int .i64 x105003_1]) ?_ 1 _ rfl; (with_reducible repeat (first | refine qg ?_ _ | refine qh ?_ | refine qf ?_ _)); refine qa1 (cs := #[.slice Ao33 x105000_1.length co33, .int .i64 x105001_1, .int .i64 x105002_1, .int .i64 x105003_1]) ?_ 0 _ rfl; (with_reducible repeat (first | refine qg ?_ _ | refine qh ?_ | refine qf ?_ _)); refine qu ?_ NB104_117.out _; (with_reducible repeat (first | refine qg ?_ _ | refine qh ?_ | refine qf ?_ _)); refine qu ?_ NB104_117.out _; (with_reducible repeat (first | refine qg ?_ _ | refine qh ?_ | refine qf ?_ _)); refine qu ?_ NB104_117.out _; (with_reducible repeat (first | refine qg ?_ _ | refine qh ?_ | refine qf ?_ _)); refine qu ?_ NB104_117.out _; (with_reducible repeat (first | refine qg ?_ _ | refine qh ?_ | refine qf ?_ _)); exact BK104.out⟩, ⟨by repeat (first | (with_reducible first | exact HB.out | apply qd | apply qb | apply qe | refine qi ?_ GE101.out | refine qi ?_ GE102.out | refine qi ?_ GE104.out | refine qi ?_ GE109.out | refine qi ?_ GE117.out) | exact HB.out)⟩⟩
       ·replace c24 := Bool.eq_false_iff.mpr c24
        subst c24
        have H1 : (some (x105000_1, x105001_1, x105002_1, x105003_1, x22_1)) = some (r1, r2, r3, r4, r5) := by rw [if_neg (show ¬ (false = true) by decide)] at H; exact H
        clear H
        have H := H1
        clear H1
        simp only [Option.some.injEq, Prod.mk.injEq] at H
        obtain ⟨rfl, rfl, rfl, rfl, rfl⟩ := H
        have p108 : 0 ≤ (x22_1 : Int) := of_decide_eq_true (by first | (with_reducible assumption) | assumption)
        have q108 : x22_1 < (l1.length : Int) := of_decide_eq_true (by first | (with_reducible assumption) | assumption)
        obtain ⟨ad108, A108_0, c108_0, A108_1, c108_1, e108, hx108_0, hx108_1, hx108_2, hx108_3, hx108_4, hl108_0, hi108_0, hl108_1, hi108_1⟩ := at_T37 HR1.out x22_1 p108 q108
        cases e108
        replace hx108_0 := (HB.out.cell (World.block_lt_of_cell? w _ hx108_0)).trans hx108_0
        replace hx108_1 := (HB.out.cell (World.block_lt_of_cell? w _ hx108_1)).trans hx108_1
        replace hx108_2 := (HB.out.cell (World.block_lt_of_cell? w _ hx108_2)).trans hx108_2
        replace hx108_3 := (HB.out.cell (World.block_lt_of_cell? w _ hx108_3)).trans hx108_3
        replace hx108_4 := (HB.out.cell (World.block_lt_of_cell? w _ hx108_4)).trans hx108_4
        have HR108_0 := Qz.mk hi108_0
        have HC108_0 := Qz.mk hl108_0
        clear hi108_0 hl108_0
        have HR108_1 := Qz.mk hi108_1
        have HC108_1 := Qz.mk hl108_1
        clear hi108_1 hl108_1
        replace p108 := eq_true p108
        replace q108 := eq_true q108
        go_wp2_with (first | ((with_reducible refine qv (N := 8) rfl ?_); refine qt ?hg (N := 8) ?hd (cs := #[.slice none 0 0, .slice none 0 0, .int .i64 0, .int .i64 0, .int .i64 0]) (t := 37) ?hr ?_; (case hd => rfl); (case hg => rfl); (case hr => exact yq98); intro gb109 hg w43 hbox hb; replace HO_105000 := Qz.mk (Kd.R_below yq96 hb); have BK109 := Qz.mk (hbox); have GW109 := Qz.mk ((by rw [hg]; exact (qp yq83) : w.heap.size ≤ gb109)); have GE109 := GW109; replace HB := Qz.mk (qk yq83 hb); have NB101_109 := Qz.mk ((yq85 : gb101 ≠ gb109)); have NB109_101 := Qz.mk ((yq86 : gb109 ≠ gb101)); replace BK101 := bkbf31 BK101 yq80 hb; have NB102_109 := Qz.mk ((yq92 : gb102 ≠ gb109)); have NB109_102 := Qz.mk ((yq93 : gb109 ≠ gb102)); replace BK102 := bkbf31 BK102 yq81 hb; have NB104_109 := Qz.mk ((by rw [hg]; exact Nat.ne_of_lt (qw (g := gb104) (o := .cells #[u105000, .int .i64 x105001_1, .int .i64 x105002_1, .int .i64 x105003_1] 32 (0, 0)) yq84) : gb104 ≠ gb109)); have NB109_104 := Qz.mk ((by rw [hg]; exact Nat.ne_of_gt (qw (g := gb104) (o := .cells #[u105000, .int .i64 x105001_1, .int .i64 x105002_1, .int .i64 x105003_1] 32 (0, 0)) yq84) : gb109 ≠ gb104)); replace BK104 := bkbf31 BK104 yq84 hb; clear hb hbox hg; have hnb44 := NB109_101.out; have hnc44 := NB101_109.out; have hnb45 := NB109_102.out; have hnc45 := NB102_109.out; have hnb46 := NB109_104.out; have hnc46 := NB104_109.out; have hcz47_0 := (qa BK109.out 0).trans rfl; have hcz47_1 := (qa BK109.out 1).trans rfl; have hcz47_2 := (qa BK109.out 2).trans rfl; have hcz47_3 := (qa BK109.out 3).trans rfl; have hcz47_4 := (qa BK109.out 4).trans rfl; have hfz47_0 := qc BK109.out 0; have hfz47_1 := qc BK109.out 1; have hfz47_2 := qc BK109.out 2; have hfz47_3 := qc BK109.out 3; have hfz47_4 := qc BK109.out 4; have hnb48 := NB104_101.out; have hnc48 := NB101_104.out; have hnb49 := NB104_102.out; have hnc49 := NB102_104.out; have hcz50_0 := (qa BK104.out 0).trans rfl; have hcz50_1 := (qa BK104.out 1).trans rfl; have hcz50_2 := (qa BK104.out 2).trans rfl; have hcz50_3 := (qa BK104.out 3).trans rfl; have hfz50_0 := qc BK104.out 0; have hfz50_1 := qc BK104.out 1; have hfz50_2 := qc BK104.out 2; have hfz50_3 := qc BK104.out 3; obtain ⟨Ao51, co51, eo51⟩ := Kd.R_slice HO_105000.out; subst eo51) | ((with_reducible refine qr (f := 59) rfl ?_); refine goesL_ (some 30) rfl rfl Try.func59 (by kernel_rfl) rfl #[.agg #[.slice Ao51 x105000_1.length co51, .int .i64 x105001_1, .int .i64 x105002_1, .int .i64 x105003_1], .agg #[.slice A108_0 ((qq l1 x22_1).f0).length c108_0, .slice A108_1 ((qq l1 x22_1).f1).length c108_1, .int .i64 ((qq l1 x22_1).f2), .int .i64 ((qq l1 x22_1).f3), .int .i64 ((qq l1 x22_1).f4)]] rfl yq87 ?_; (with_reducible refine (impl_Version_edited.calls _ _ x105000_1 x105001_1 x105002_1 x105003_1 _ _ ((qq l1 x22_1).f0) _ _ ((qq l1 x22_1).f1) ((qq l1 x22_1).f2) ((qq l1 x22_1).f3) ((qq l1 x22_1).f4) t110 t113 t114 t115 false _ ?side1 ?side2 ?side3 ?side4 ?side5 ?side6 A23.out).mono ?_); (case side1 => refine (Kd.R_reads' (e := 66) (base := w.heap.size) (ok := fun k_ => True) (n := x105000_1.length) (c := co51) ?_).2.2; exact yq78); (case side2 => exact (Kd.R_reads' HO_105000.out).2.1); (case side3 => exact Kd.C_below HR108_0.out yq79); (case side4 => exact HC108_0.out); (case side5 => exact Kd.C_below HR108_1.out yq79); (case side6 => exact HC108_1.out); rintro e w52 ⟨v111, rfl, ho0, hb⟩; refine ⟨_, rfl, ?_⟩; have HO112 := Qz.mk (Kd.R_lower (Kd.R_new' ho0 (Kd.R_lt yq78)) (qp yq79)); replace HO_105000 := Qz.mk (Kd.R_elder' yq78 (Kd.R_base ho0) hb); replace BK101 := Qz.mk (qo (g := gb101) (o := .cells #[.slice A0_0 l0_0.length c0_0, .int .i64 a0_1, .int .i64 a0_2, .int .i64 a0_3] 32 (0, 0)) yq90 hb); replace BK102 := Qz.mk (qo (g := gb102) (o := .cells #[.slice none 0 0, .int .i64 x103001_1, .int .i64 x103002_1, .int .i64 x103003_1] 32 (0, 0)) yq89 hb); replace BK104 := Qz.mk (qo (g := gb104) (o := .cells #[.slice Ao51 x105000_1.length co51, .int .i64 x105001_1, .int .i64 x105002_1, .int .i64 x105003_1] 32 (0, 0)) yq88 hb); replace BK109 := Qz.mk (qo (g := gb109) (o := .cells #[.slice A108_0 ((qq l1 x22_1).f0).length c108_0, .slice A108_1 ((qq l1 x22_1).f1).length c108_1, .int .i64 ((qq l1 x22_1).f2), .int .i64 ((qq l1 x22_1).f3), .int .i64 ((qq l1 x22_1).f4)] 37 (0, 0)) yq82 hb); replace HB := Qz.mk (qk yq79 hb); (try clear hb); (try clear hk); (try clear ho0)) | ((with_reducible refine qv (N := 9) rfl ?_); refine qt ?hg (N := 9) ?hd (cs := #[.slice none 0 0, .int .i64 0, .int .i64 0, .int .i64 0]) (t := 32) ?hr ?_; (case hd => rfl); (case hg => rfl); (case hr => exact yq98); intro gb117 hg w53 hbox hb; replace HO_105000 := Qz.mk (Kd.R_below yq96 hb); replace HO112 := Qz.mk (Kd.R_below (by (with_reducible repeat (first | apply Kd.R_alloc | apply Kd.R_drewN | apply Kd.R_drew)); exact HO112.out) hb); have BK117 := Qz.mk (hbox); have GW117 := Qz.mk ((by rw [hg]; exact (qp yq79) : w.heap.size ≤ gb117)); have GE117 := GW117; replace HB := Qz.mk (qk yq79 hb); have NB101_117 := Qz.mk ((yq85 : gb101 ≠ gb117)); have NB117_101 := Qz.mk ((yq86 : gb117 ≠ gb101)); replace BK101 := bkbf31 BK101 yq80 hb; have NB102_117 := Qz.mk ((yq92 : gb102 ≠ gb117)); have NB117_102 := Qz.mk ((yq93 : gb117 ≠ gb102)); replace BK102 := bkbf31 BK102 yq81 hb; have NB104_117 := Qz.mk ((by rw [hg]; exact Nat.ne_of_lt (qw (g := gb104) (o := .cells #[.slice Ao51 x105000_1.length co51, .int .i64 x105001_1, .int .i64 x105002_1, .int .i64 x105003_1] 32 (0, 0)) yq84) : gb104 ≠ gb117)); have NB117_104 := Qz.mk ((by rw [hg]; exact Nat.ne_of_gt (qw (g := gb104) (o := .cells #[.slice Ao51 x105000_1.length co51, .int .i64 x105001_1, .int .i64 x105002_1, .int .i64 x105003_1] 32 (0, 0)) yq84) : gb117 ≠ gb104)); replace BK104 := bkbf31 BK104 yq84 hb; have NB109_117 := Qz.mk ((yq99 : gb109 ≠ gb117)); have NB117_109 := Qz.mk ((yq100 : gb117 ≠ gb109)); replace BK109 := bkbf31 BK109 yq91 hb; clear hb hbox hg; obtain ⟨Ao54, co54, eo54⟩ := Kd.R_slice HO112.out; subst eo54; have hnb55 := NB117_101.out; have hnc55 := NB101_117.out; have hnb56 := NB117_102.out; have hnc56 := NB102_117.out; have hnb57 := NB117_104.out; have hnc57 := NB104_117.out; have hnb58 := NB117_109.out; have hnc58 := NB109_117.out; have hcz59_0 := (qa BK117.out 0).trans rfl; have hcz59_1 := (qa BK117.out 1).trans rfl; have hcz59_2 := (qa BK117.out 2).trans rfl; have hcz59_3 := (qa BK117.out 3).trans rfl; have hfz59_0 := qc BK117.out 0; have hfz59_1 := qc BK117.out 1; have hfz59_2 := qc BK117.out 2; have hfz59_3 := qc BK117.out 3; have hcz60_0 := (qa BK104.out 0).trans rfl; have hcz60_1 := (qa BK104.out 1).trans rfl; have hcz60_2 := (qa BK104.out 2).trans rfl; have hcz60_3 := (qa BK104.out 3).trans rfl; have hfz60_0 := qc BK104.out 0; have hfz60_1 := qc BK104.out 1; have hfz60_2 := qc BK104.out 2; have hfz60_3 := qc BK104.out 3; have hnb61 := NB102_101.out; have hnc61 := NB101_102.out; have hcz62_0 := (qa BK102.out 0).trans rfl; have hcz62_1 := (qa BK102.out 1).trans rfl; have hcz62_2 := (qa BK102.out 2).trans rfl; have hcz62_3 := (qa BK102.out 3).trans rfl; have hfz62_0 := qc BK102.out 0; have hfz62_1 := qc BK102.out 1; have hfz62_2 := qc BK102.out 2; have hfz62_3 := qc BK102.out 3))
        refine bodyPost_ret (results_ct rfl _ _ gb102 32 #[.slice Ao51 x105000_1.length co51, .int .i64 x105001_1, .int .i64 x105002_1, .int .i64 x105003_1] (0, 0) _ rfl (by (with_reducible repeat (first | refine qg ?_ _ | refine qh ?_ | refine qf ?_ _)); refine qa1 (cs := #[.slice Ao51 x105000_1.length co51, .int .i64 x105001_1, .int .i64 x105002_1, .int .i64 x103003_1]) ?_ 3 _ rfl; (with_reducible repeat (first | refine qg ?_ _ | refine qh ?_ | refine qf ?_ _)); refine qa1 (cs := #[.slice Ao51 x105000_1.length co51, .int .i64 x105001_1, .int .i64 x103002_1, .int .i64 x103003_1]) ?_ 2 _ rfl; (with_reducible repeat (first | refine qg ?_ _ | refine qh ?_ | refine qf ?_ _)); refine qa1 (cs := #[.slice Ao51 x105000_1.length co51, .int .i64 x103001_1, .int .i64 x103002_1, .int .i64 x103003_1]) ?_ 1 _ rfl; (with_reducible repeat (first | refine qg ?_ _ | refine qh ?_ | refine qf ?_ _)); refine qa1 (cs := #[.slice none 0 0, .int .i64 x103001_1, .int .i64 x103002_1, .int .i64 x103003_1]) ?_ 0 _ rfl; (with_reducible repeat (first | refine qg ?_ _ | refine qh ?_ | refine qf ?_ _)); refine qu ?_ NB102_117.out _; (with_reducible repeat (first | refine qg ?_ _ | refine qh ?_ | refine qf ?_ _)); refine qu ?_ NB102_117.out _; (with_reducible repeat (first | refine qg ?_ _ | refine qh ?_ | refine qf ?_ _)); refine qu ?_ NB102_117.out _; (with_reducible repeat (first | refine qg ?_ _ | refine qh ?_ | refine qf ?_ _)); refine qu ?_ NB102_117.out _; (with_reducible repeat (first | refine qg ?_ _ | refine qh ?_ | refine qf ?_ _)); exact BK102.out) Try.underlying32 rfl (by kernel_rfl)) rfl ?_
        exact ⟨_, by first | rfl | (simp [qn, qm] <;> rfl) | (simp [*, qn, qm] <;> rfl), by (with_reducible repeat (first | apply Kd.R_alloc | apply Kd.R_drewN | apply Kd.R_drew)); exact Kd.R_mono (Kd.R_far (p := ⟨gb102, 3, none⟩) (Kd.R_far (p := ⟨gb102, 2, none⟩) (Kd.R_far (p := ⟨gb102, 1, none⟩) (Kd.R_far (p := ⟨gb102, 0, none⟩) (Kd.R_far (p := ⟨gb117, 3, none⟩) (Kd.R_far (p := ⟨gb117, 2, none⟩) (Kd.R_far (p := ⟨gb117, 1, none⟩) (Kd.R_far (p := ⟨gb117, 0, none⟩) (Kd.R_types (Kd.R_types HO_105000.out BK117.out (by decide)) BK102.out (by decide)) (fun _ hk => hk.1.2) (.slice Ao54 t110.length co54)) (fun _ hk => hk.1.2) (.int .i64 t113)) (fun _ hk => hk.1.2) (.int .i64 t114)) (fun _ hk => hk.1.2) (.int .i64 t115)) (fun _ hk => hk.2) (.slice Ao51 x105000_1.length co51)) (fun _ hk => hk.2) (.int .i64 x105001_1)) (fun _ hk => hk.2) (.int .i64 x105002_1)) (fun _ hk => hk.2) (.int .i64 x105003_1)) (fun _ hk => trivial), by repeat (first | (with_reducible first | exact HB.out | apply qd | apply qb | apply qe | refine qi ?_ GE101.out | refine qi ?_ GE102.out | refine qi ?_ GE104.out | refine qi ?_ GE109.out | refine qi ?_ GE117.out) | exact HB.out)⟩
      ·rw [if_neg c22] at H
       exact absurd H (by simp)
     ·rw [if_neg c21] at H
      exact absurd H (by simp)
    ·rw [if_neg c20] at H
     have c20b0 : decide (x22_1 < (l1.length : Int)) = false := decide_eq_false c20
     clear c20
     simp only [Option.some.injEq, Prod.mk.injEq] at H
     obtain ⟨rfl, rfl, rfl, rfl, rfl⟩ := H
     have hnb63 := NB104_101.out
     have hnc63 := NB101_104.out
     have hnb64 := NB104_102.out
     have hnc64 := NB102_104.out
     have hcz65_0 := (qa BK104.out 0).trans rfl
     have hcz65_1 := (qa BK104.out 1).trans rfl
     have hcz65_2 := (qa BK104.out 2).trans rfl
     have hcz65_3 := (qa BK104.out 3).trans rfl
     have hfz65_0 := qc BK104.out 0
     have hfz65_1 := qc BK104.out 1
     have hfz65_2 := qc BK104.out 2
     have hfz65_3 := qc BK104.out 3
     obtain ⟨Ao66, co66, eo66⟩ := Kd.R_slice HO_105000.out
     subst eo66
     have hnb67 := NB102_101.out
     have hnc67 := NB101_102.out
     have hcz68_0 := (qa BK102.out 0).trans rfl
     have hcz68_1 := (qa BK102.out 1).trans rfl
     have hcz68_2 := (qa BK102.out 2).trans rfl
     have hcz68_3 := (qa BK102.out 3).trans rfl
     have hfz68_0 := qc BK102.out 0
     have hfz68_1 := qc BK102.out 1
     have hfz68_2 := qc BK102.out 2
     have hfz68_3 := qc BK102.out 3
     go_wp2
     refine bodyPost_ret (results_ct rfl _ _ gb102 32 #[.slice Ao66 x105000_1.length co66, .int .i64 x105001_1, .int .i64 x105002_1, .int .i64 x105003_1] (0, 0) _ rfl (by (with_reducible repeat (first | refine qg ?_ _ | refine qh ?_ | refine qf ?_ _)); refine qa1 (cs := #[.slice Ao66 x105000_1.length co66, .int .i64 x105001_1, .int .i64 x105002_1, .int .i64 x103003_1]) ?_ 3 _ rfl; (with_reducible repeat (first | refine qg ?_ _ | refine qh ?_ | refine qf ?_ _)); refine qa1 (cs := #[.slice Ao66 x105000_1.length co66, .int .i64 x105001_1, .int .i64 x103002_1, .int .i64 x103003_1]) ?_ 2 _ rfl; (with_reducible repeat (first | refine qg ?_ _ | refine qh ?_ | refine qf ?_ _)); refine qa1 (cs := #[.slice Ao66 x105000_1.length co66, .int .i64 x103001_1, .int .i64 x103002_1, .int .i64 x103003_1]) ?_ 1 _ rfl; (with_reducible repeat (first | refine qg ?_ _ | refine qh ?_ | refine qf ?_ _)); refine qa1 (cs := #[.slice none 0 0, .int .i64 x103001_1, .int .i64 x103002_1, .int .i64 x103003_1]) ?_ 0 _ rfl; (with_reducible repeat (first | refine qg ?_ _ | refine qh ?_ | refine qf ?_ _)); exact BK102.out) Try.underlying32 rfl (by kernel_rfl)) rfl ?_
     exact ⟨_, by first | rfl | (simp [qn, qm] <;> rfl) | (simp [*, qn, qm] <;> rfl), by (with_reducible repeat (first | apply Kd.R_alloc | apply Kd.R_drewN | apply Kd.R_drew)); exact Kd.R_mono (Kd.R_far (p := ⟨gb102, 3, none⟩) (Kd.R_far (p := ⟨gb102, 2, none⟩) (Kd.R_far (p := ⟨gb102, 1, none⟩) (Kd.R_far (p := ⟨gb102, 0, none⟩) (Kd.R_types HO_105000.out BK102.out (by decide)) (fun _ hk => hk.2) (.slice Ao66 x105000_1.length co66)) (fun _ hk => hk.2) (.int .i64 x105001_1)) (fun _ hk => hk.2) (.int .i64 x105002_1)) (fun _ hk => hk.2) (.int .i64 x105003_1)) (fun _ hk => trivial), by repeat (first | (with_reducible first | exact HB.out | apply qd | apply qb | apply qe | refine qi ?_ GE101.out | refine qi ?_ GE102.out | refine qi ?_ GE104.out) | exact HB.out)⟩
 ·replace c4 := Bool.eq_false_iff.mpr c4
  subst c4
  have H1 : (some (([] : List (S66)), 0, 0, 0, (-1))) = some (r1, r2, r3, r4, r5) := by rw [if_neg (show ¬ (false = true) by decide)] at H; exact H
  clear H
  have H := H1
  clear H1
  simp only [Option.some.injEq, Prod.mk.injEq] at H
  obtain ⟨rfl, rfl, rfl, rfl, rfl⟩ := H
  go_enter Try.func31, Try.ntmps31
  go_wp2_with (first | ((with_reducible refine qv (N := 2) rfl ?_); refine qt ?hg (N := 2) ?hd (cs := #[.slice A0_0 l0_0.length c0_0, .int .i64 a0_1, .int .i64 a0_2, .int .i64 a0_3]) (t := 32) ?hr ?_; (case hd => rfl); (case hg => rfl); (case hr => exact yq98); intro gb101 hg w69 hbox hb; have BK101 := Qz.mk (hbox); have GW101 := Qz.mk ((by rw [hg]; exact (qp yq97) : w.heap.size ≤ gb101)); have GE101 := GW101; replace HB := Qz.mk (qk yq97 hb); clear hb hbox hg) | ((with_reducible refine qv (N := 4) rfl ?_); refine qt ?hg (N := 4) ?hd (cs := #[.slice none 0 0, .int .i64 0, .int .i64 0, .int .i64 0]) (t := 32) ?hr ?_; (case hd => rfl); (case hg => rfl); (case hr => exact yq98); intro gb102 hg w70 hbox hb; have BK102 := Qz.mk (hbox); have GW102 := Qz.mk ((by rw [hg]; exact (qp yq95) : w.heap.size ≤ gb102)); have GE102 := GW102; replace HB := Qz.mk (qk yq95 hb); have NB101_102 := Qz.mk ((yq85 : gb101 ≠ gb102)); have NB102_101 := Qz.mk ((yq86 : gb102 ≠ gb101)); replace BK101 := bkbf31 BK101 yq80 hb; clear hb hbox hg; have hnb71 := NB101_102.out; have hnc71 := NB102_101.out; have hcz72_0 := (qa BK101.out 0).trans rfl; have hcz72_1 := (qa BK101.out 1).trans rfl; have hcz72_2 := (qa BK101.out 2).trans rfl; have hcz72_3 := (qa BK101.out 3).trans rfl; have hfz72_0 := qc BK101.out 0; have hfz72_1 := qc BK101.out 1; have hfz72_2 := qc BK101.out 2; have hfz72_3 := qc BK101.out 3) | ((with_reducible refine qr (f := 27) rfl ?_); refine goesL_ (some 12) rfl rfl Try.func27 (by kernel_rfl) rfl #[.agg #[.slice A0_0 l0_0.length c0_0, .int .i64 a0_1, .int .i64 a0_2, .int .i64 a0_3]] rfl yq87 ?_; (with_reducible refine (impl_VersionOk.calls _ _ l0_0 a0_1 a0_2 a0_3 false _ ?side1 ?side2 A3.out).mono ?_); (case side1 => repeat (first | exact (Kd.C_below HR0_0.out HB.out) | (with_reducible refine Kd.C_alloc ?_ _) | (with_reducible refine Kd.C_drewN ?_ _) | (with_reducible refine Kd.C_drew ?_))); (case side2 => exact HC0_0.out); rintro e w73 ⟨rfl, hb⟩; refine ⟨_, rfl, ?_⟩; replace BK101 := bkbf31 BK101 yq80 hb; replace BK102 := bkbf31 BK102 yq81 hb; replace HB := Qz.mk (qk yq94 hb); (try clear hb); (try clear hk); have hcz74_0 := (qa BK102.out 0).trans rfl; have hcz74_1 := (qa BK102.out 1).trans rfl; have hcz74_2 := (qa BK102.out 2).trans rfl; have hcz74_3 := (qa BK102.out 3).trans rfl; have hfz74_0 := qc BK102.out 0; have hfz74_1 := qc BK102.out 1; have hfz74_2 := qc BK102.out 2; have hfz74_3 := qc BK102.out 3))
  refine bodyPost_ret (results_ct rfl _ _ gb102 32 #[.slice none 0 0, .int .i64 0, .int .i64 0, .int .i64 0] (0, 0) _ rfl (by (with_reducible repeat (first | refine qg ?_ _ | refine qh ?_ | refine qf ?_ _)); refine qa1 (cs := #[.slice none 0 0, .int .i64 0, .int .i64 0, .int .i64 0]) ?_ 3 _ rfl; (with_reducible repeat (first | refine qg ?_ _ | refine qh ?_ | refine qf ?_ _)); refine qa1 (cs := #[.slice none 0 0, .int .i64 0, .int .i64 0, .int .i64 0]) ?_ 2 _ rfl; (with_reducible repeat (first | refine qg ?_ _ | refine qh ?_ | refine qf ?_ _)); refine qa1 (cs := #[.slice none 0 0, .int .i64 0, .int .i64 0, .int .i64 0]) ?_ 1 _ rfl; (with_reducible repeat (first | refine qg ?_ _ | refine qh ?_ | refine qf ?_ _)); refine qa1 (cs := #[.slice none 0 0, .int .i64 0, .int .i64 0, .int .i64 0]) ?_ 0 _ rfl; (with_reducible repeat (first | refine qg ?_ _ | refine qh ?_ | refine qf ?_ _)); exact BK102.out) Try.underlying32 rfl (by kernel_rfl)) rfl ?_
  exact ⟨_, by first | rfl | (simp [qn, qm] <;> rfl) | (simp [*, qn, qm] <;> rfl), by first | exact Kd.R_nil _ _ _ _ _ | exact Kd.N_nil _ _ _ _ _ | exact Kd.V_nil _ _ _ _ _ | exact Kd.Q_nil _ _ _ _ _ | exact Kd.S_nil _ _ _ _ _, by repeat (first | (with_reducible first | exact HB.out | apply qd | apply qb | apply qe | refine qi ?_ GE101.out | refine qi ?_ GE102.out) | exact HB.out)⟩
theorem yq101 {P : Prop} (h : P := by first | (with_reducible assumption) | assumption) : P := h
def laws_eqInt64S.l0 : Nat → List Int → List Int → Int → Option (Bool)
 | 0, _, _, _ => none
 | k + 1, x0, x1, x5 => if x5 < (x0.length : Int) then (if 0 ≤ x5 then (if x5 < (x1.length : Int) then (if (rd x0 x5) = (rd x1 x5) then (laws_eqInt64S.l0 k x0 x1 (wrap64 (x5 + 1))) else (some false)) else (none)) else (none)) else (some true)
def laws_eqInt64S.f (k : Nat) (l0 : List Int) (l1 : List Int) : Option (Bool) := if (l0.length : Int) = (l1.length : Int) then (laws_eqInt64S.l0 k l0 l1 0) else (some false)
set_option maxHeartbeats 8000000 in
set_option maxRecDepth 100000 in
theorem laws_eqInt64S.calls (k : Nat) (A0 : Option Addr) (c0 : Nat) (l0 : List Int) (A1 : Option Addr) (c1 : Nat) (l1 : List Int) (r : Bool) (w : World) (hr0 : Kd.C (Kd.int .i64) w A0 l0.length l0) (hc0 : l0.length ≤ c0) (hr1 : Kd.C (Kd.int .i64) w A1 l1.length l1) (hc1 : l1.length ≤ c1) (h : laws_eqInt64S.f k l0 l1 = some r) :
  Calls Try.prog 44 #[.slice A0 l0.length c0, .slice A1 l1.length c1] w fun e w' => e = .returned (.bool r) ∧ Drawn0 w w' := by
 have HR0 := Qz.mk hr0
 have HC0 := Qz.mk hc0
 clear hr0 hc0
 have HR1 := Qz.mk hr1
 have HC1 := Qz.mk hc1
 clear hr1 hc1
 have H : (if (l0.length : Int) = (l1.length : Int) then (laws_eqInt64S.l0 k l0 l1 0) else (some false)) = some r := h
 clear h
 by_cases c3 : (l0.length : Int) = (l1.length : Int)
 ·rw [if_pos c3] at H
  have c3b0 : ((l0.length : Int) == (l1.length : Int)) = true := beq_iff_eq.mpr c3
  have c3b1 : ((l0.length : Int) != (l1.length : Int)) = false := bne_eq_false_iff_eq.mpr c3
  have c3b2 : (l0.length == l1.length) = true := by first | simpa using c3 | (simp at c3 ⊢; omega)
  clear c3
  have H' := Qz.mk H
  clear H
  go_enter Try.func44, Try.ntmps44
  go_wp2
  repeat (go_quiet (fail); try go_wp2)
  go_loopg [5] k (fun kq v5 w' => ∃ (x5_1 : Int), v5 = .int .i64 x5_1 ∧ Qz (laws_eqInt64S.l0 kq l0 l1 x5_1 = some r) ∧ Qz (kq ≤ k) ∧ Drawn0 w w')
  case atStart => exact ⟨(0), (by first | rfl | (simp; done) | (simp [*]; done)), H', ⟨Nat.le_refl _⟩, by repeat (first | exact Drawn0.refl _ | apply Drawn0.step)⟩
  case round =>
   clear H'
   (try clear c1);(try clear p2);(try clear c3);(try clear c3b0);(try clear c3b1);(try clear c3b2)
   obtain ⟨x5_1, rfl, HA, HK1, ⟨m1, rfl⟩⟩ := hrel
   cases gk with
   | zero => exact absurd HA.out (by simp [laws_eqInt64S.l0])
   | succ k1 =>
    have H := HA.out
    clear HA
    simp only [laws_eqInt64S.l0] at H
    by_cases c4 : x5_1 < (l0.length : Int)
    ·rw [if_pos c4] at H
     have c4b0 : decide (x5_1 < (l0.length : Int)) = true := decide_eq_true c4
     clear c4
     by_cases c5 : 0 ≤ x5_1
     ·rw [if_pos c5] at H
      have c5b0 : decide (0 ≤ x5_1) = true := decide_eq_true c5
      clear c5
      by_cases c6 : x5_1 < (l1.length : Int)
      ·rw [if_pos c6] at H
       have c6b0 : decide (x5_1 < (l1.length : Int)) = true := decide_eq_true c6
       clear c6
       by_cases c7 : (rd l0 x5_1) = (rd l1 x5_1)
       ·rw [if_pos c7] at H
        have c7b0 : ((rd l0 x5_1) == (rd l1 x5_1)) = true := beq_iff_eq.mpr c7
        have c7b1 : ((rd l0 x5_1) != (rd l1 x5_1)) = false := bne_eq_false_iff_eq.mpr c7
        clear c7
        have H' := Qz.mk H
        clear H
        have p101 : 0 ≤ (x5_1 : Int) := of_decide_eq_true yq101
        have q101 : x5_1 < (l0.length : Int) := of_decide_eq_true yq101
        obtain ⟨ad101, e101, hx101_0⟩ := Kd.at_int HR0.out x5_1 p101 q101
        cases e101
        replace p101 := eq_true p101
        replace q101 := eq_true q101
        have p102 : 0 ≤ (x5_1 : Int) := of_decide_eq_true yq101
        have q102 : x5_1 < (l1.length : Int) := of_decide_eq_true yq101
        obtain ⟨ad102, e102, hx102_0⟩ := Kd.at_int HR1.out x5_1 p102 q102
        cases e102
        replace p102 := eq_true p102
        replace q102 := eq_true q102
        go_wp2
        repeat (go_quiet (fail); try go_wp2)
        go_roundg k1
        case measure => have := HK1.out; omega
        case rel => exact ⟨(wrap64 (x5_1 + 1)), (by first | rfl | (simp; done) | (simp [*]; done)), H', ⟨by have := HK1.out; omega⟩, by repeat (first | exact Drawn0.refl _ | apply Drawn0.step)⟩
       ·rw [if_neg c7] at H
        have c7b0 : ((rd l0 x5_1) == (rd l1 x5_1)) = false := beq_eq_false_iff_ne.mpr c7
        have c7b1 : ((rd l0 x5_1) != (rd l1 x5_1)) = true := bne_iff_ne.mpr c7
        obtain rfl := Option.some.inj H
        have p101 : 0 ≤ (x5_1 : Int) := of_decide_eq_true yq101
        have q101 : x5_1 < (l0.length : Int) := of_decide_eq_true yq101
        obtain ⟨ad101, e101, hx101_0⟩ := Kd.at_int HR0.out x5_1 p101 q101
        cases e101
        replace p101 := eq_true p101
        replace q101 := eq_true q101
        have p102 : 0 ≤ (x5_1 : Int) := of_decide_eq_true yq101
        have q102 : x5_1 < (l1.length : Int) := of_decide_eq_true yq101
        obtain ⟨ad102, e102, hx102_0⟩ := Kd.at_int HR1.out x5_1 p102 q102
        cases e102
        replace p102 := eq_true p102
        replace q102 := eq_true q102
        go_wp2
        repeat (go_quiet (fail); try go_wp2)
        go_ret
        exact ⟨by first | rfl | (simp; done) | (simp [*]; done), by repeat (first | exact Drawn0.refl _ | apply Drawn0.step)⟩
      ·rw [if_neg c6] at H
       exact absurd H (by simp)
     ·rw [if_neg c5] at H
      exact absurd H (by simp)
    ·rw [if_neg c4] at H
     have c4b0 : decide (x5_1 < (l0.length : Int)) = false := decide_eq_false c4
     clear c4
     obtain rfl := Option.some.inj H
     go_wp2
     repeat (go_quiet (fail); try go_wp2)
     go_ret
     exact ⟨by first | rfl | (simp; done) | (simp [*]; done), by repeat (first | exact Drawn0.refl _ | apply Drawn0.step)⟩
 ·rw [if_neg c3] at H
  have c3b0 : ((l0.length : Int) == (l1.length : Int)) = false := beq_eq_false_iff_ne.mpr c3
  have c3b1 : ((l0.length : Int) != (l1.length : Int)) = true := bne_iff_ne.mpr c3
  have c3b2 : (l0.length == l1.length) = false := by first | simpa using c3 | (simp at c3 ⊢; omega)
  obtain rfl := Option.some.inj H
  go_enter Try.func44, Try.ntmps44
  go_wp2
  repeat (go_quiet (fail); try go_wp2)
  go_ret
  exact ⟨by first | rfl | (simp; done) | (simp [*]; done), by repeat (first | exact Drawn0.refl _ | apply Drawn0.step)⟩
theorem yq102 {P : Prop} (h : P := by (with_reducible repeat (first | refine qg ?_ _ | refine qh ?_ | refine qf ?_ _)); exact BK101.out) : P := h
theorem yq103 {P : Prop} (h : P := by (try simp only [List.map_toArray, List.map_cons, List.map_nil]); first | done | rfl | (simp only [List.length_drop, List.length_take]; rfl) | (rw [IntWalk.u64_in _ (by omega)] <;> rfl)) : P := h
theorem yq104 {P : Prop} (h : P := by repeat (first | (with_reducible first | exact HB.out | apply qd | apply qb | apply qe | refine qi ?_ GE101.out) | exact HB.out)) : P := h
theorem yq105 {P : Prop} (h : P := by repeat (first | (with_reducible first | exact HB.out | apply qd | apply qb | apply qe) | exact HB.out)) : P := h
theorem yq106 {P : Prop} (h : P := by rw [hg]; exact Nat.ne_of_lt (qw (g := gb101) (o := .cells #[.slice A0_0 l0_0.length c0_0, .slice A0_1 l0_1.length c0_1, .int .i64 a0_2, .int .i64 a0_3, .int .i64 a0_4] 37 (0, 0)) yq102)) : P := h
theorem yq107 {P : Prop} (h : P := by rw [hg]; exact Nat.ne_of_gt (qw (g := gb101) (o := .cells #[.slice A0_0 l0_0.length c0_0, .slice A0_1 l0_1.length c0_1, .int .i64 a0_2, .int .i64 a0_3, .int .i64 a0_4] 37 (0, 0)) yq102)) : P := h
theorem yq108 {P : Prop} (h : P := by repeat (first | exact (Kd.C_below HR1_0.out HB.out) | (with_reducible refine Kd.C_alloc ?_ _) | (with_reducible refine Kd.C_drewN ?_ _) | (with_reducible refine Kd.C_drew ?_))) : P := h
theorem yq109 {P : Prop} (h : P := by repeat (first | exact (Kd.C_below HR0_0.out HB.out) | (with_reducible refine Kd.C_alloc ?_ _) | (with_reducible refine Kd.C_drewN ?_ _) | (with_reducible refine Kd.C_drew ?_))) : P := h
theorem yq110 {P : Prop} (h : P := by repeat (first | (with_reducible first | exact HB.out | apply qd | apply qb | apply qe | refine qi ?_ GE101.out | refine qi ?_ GE102.out) | exact HB.out)) : P := h
theorem yq111 {P : Prop} (h : P := by repeat (first | exact (Kd.C_below HR1_1.out HB.out) | (with_reducible refine Kd.C_alloc ?_ _) | (with_reducible refine Kd.C_drewN ?_ _) | (with_reducible refine Kd.C_drew ?_))) : P := h
theorem yq112 {P : Prop} (h : P := by repeat (first | exact (Kd.C_below HR0_1.out HB.out) | (with_reducible refine Kd.C_alloc ?_ _) | (with_reducible refine Kd.C_drewN ?_ _) | (with_reducible refine Kd.C_drew ?_))) : P := h
theorem yq113 {P : Prop} (h : P := by (with_reducible repeat (first | refine qg ?_ _ | refine qh ?_ | refine qf ?_ _)); exact BK102.out) : P := h
theorem yq114 {P : Prop} (h : P := by first | (go_simp; done) | (go_simp; rfl)) : P := h
theorem bkbf22 {w0 W W2 : World} {g : Nat} {o : Obj} (_ : Qz (w0.heap[g]? = some o)) (h : W.heap[g]? = some o) (hb : Below W.heap.size W W2) : Qz (W2.heap[g]? = some o) := Qz.mk (qo h hb)
def laws_eqEdit.f (k : Nat) (l0_0 : List (S66)) (l0_1 : List Int) (a0_2 : Int) (a0_3 : Int) (a0_4 : Int) (l1_0 : List (S66)) (l1_1 : List Int) (a1_2 : Int) (a1_3 : Int) (a1_4 : Int) : Option (Bool) := (laws_eqMetaS.f k l0_0 l1_0).bind fun t103 => (if t103 = true then ((laws_eqInt64S.f k l0_1 l1_1).bind fun t104 => (if t104 = true then (if a0_2 = a1_2 then (if a0_3 = a1_3 then (if a0_4 = a1_4 then (some true) else (some false)) else (some false)) else (some false)) else (some false))) else (some false))
set_option maxHeartbeats 8000000 in
set_option maxRecDepth 100000 in
theorem laws_eqEdit.calls (k : Nat) (A0_0 : Option Addr) (c0_0 : Nat) (l0_0 : List (S66)) (A0_1 : Option Addr) (c0_1 : Nat) (l0_1 : List Int) (a0_2 : Int) (a0_3 : Int) (a0_4 : Int) (A1_0 : Option Addr) (c1_0 : Nat) (l1_0 : List (S66)) (A1_1 : Option Addr) (c1_1 : Nat) (l1_1 : List Int) (a1_2 : Int) (a1_3 : Int) (a1_4 : Int) (r : Bool) (w : World) (hr0_0 : Kd.C k66 w A0_0 l0_0.length l0_0) (hc0_0 : l0_0.length ≤ c0_0) (hr0_1 : Kd.C (Kd.int .i64) w A0_1 l0_1.length l0_1) (hc0_1 : l0_1.length ≤ c0_1) (hr1_0 : Kd.C k66 w A1_0 l1_0.length l1_0) (hc1_0 : l1_0.length ≤ c1_0) (hr1_1 : Kd.C (Kd.int .i64) w A1_1 l1_1.length l1_1) (hc1_1 : l1_1.length ≤ c1_1) (h : laws_eqEdit.f k l0_0 l0_1 a0_2 a0_3 a0_4 l1_0 l1_1 a1_2 a1_3 a1_4 = some r) :
  Calls Try.prog 22 #[.agg #[.slice A0_0 l0_0.length c0_0, .slice A0_1 l0_1.length c0_1, .int .i64 a0_2, .int .i64 a0_3, .int .i64 a0_4], .agg #[.slice A1_0 l1_0.length c1_0, .slice A1_1 l1_1.length c1_1, .int .i64 a1_2, .int .i64 a1_3, .int .i64 a1_4]] w fun e w' => e = .returned (.bool r) ∧ Below w.heap.size w w' := by
 have hu37 := Try.underlying37
 have HR0_0 := Qz.mk hr0_0
 have HC0_0 := Qz.mk hc0_0
 clear hr0_0 hc0_0
 have HR0_1 := Qz.mk hr0_1
 have HC0_1 := Qz.mk hc0_1
 clear hr0_1 hc0_1
 have HR1_0 := Qz.mk hr1_0
 have HC1_0 := Qz.mk hc1_0
 clear hr1_0 hc1_0
 have HR1_1 := Qz.mk hr1_1
 have HC1_1 := Qz.mk hc1_1
 clear hr1_1 hc1_1
 have HB := Qz.mk (Below.refl w.heap.size w)
 have H : ((laws_eqMetaS.f k l0_0 l1_0).bind fun t103 => (if t103 = true then ((laws_eqInt64S.f k l0_1 l1_1).bind fun t104 => (if t104 = true then (if a0_2 = a1_2 then (if a0_3 = a1_3 then (if a0_4 = a1_4 then (some true) else (some false)) else (some false)) else (some false)) else (some false))) else (some false))) = some r := h
 clear h
 replace H := Option.bind_eq_some_iff.mp H
 obtain ⟨t103, A30, H⟩ := H
 replace H : (if t103 = true then ((laws_eqInt64S.f k l0_1 l1_1).bind fun t104 => (if t104 = true then (if a0_2 = a1_2 then (if a0_3 = a1_3 then (if a0_4 = a1_4 then (some true) else (some false)) else (some false)) else (some false)) else (some false))) else (some false)) = some r := H
 have A3 := Qz.mk A30
 clear A30
 by_cases c4 : t103 = true
 ·subst c4
  have H1 : ((laws_eqInt64S.f k l0_1 l1_1).bind fun t104 => (if t104 = true then (if a0_2 = a1_2 then (if a0_3 = a1_3 then (if a0_4 = a1_4 then (some true) else (some false)) else (some false)) else (some false)) else (some false))) = some r := by rw [if_pos rfl] at H; exact H
  clear H
  have H := H1
  clear H1
  replace H := Option.bind_eq_some_iff.mp H
  obtain ⟨t104, A50, H⟩ := H
  replace H : (if t104 = true then (if a0_2 = a1_2 then (if a0_3 = a1_3 then (if a0_4 = a1_4 then (some true) else (some false)) else (some false)) else (some false)) else (some false)) = some r := H
  have A5 := Qz.mk A50
  clear A50
  by_cases c6 : t104 = true
  ·subst c6
   have H1 : (if a0_2 = a1_2 then (if a0_3 = a1_3 then (if a0_4 = a1_4 then (some true) else (some false)) else (some false)) else (some false)) = some r := by rw [if_pos rfl] at H; exact H
   clear H
   have H := H1
   clear H1
   by_cases c7 : a0_2 = a1_2
   ·rw [if_pos c7] at H
    have c7b0 : (a0_2 == a1_2) = true := beq_iff_eq.mpr c7
    have c7b1 : (a0_2 != a1_2) = false := bne_eq_false_iff_eq.mpr c7
    clear c7
    by_cases c8 : a0_3 = a1_3
    ·rw [if_pos c8] at H
     have c8b0 : (a0_3 == a1_3) = true := beq_iff_eq.mpr c8
     have c8b1 : (a0_3 != a1_3) = false := bne_eq_false_iff_eq.mpr c8
     clear c8
     by_cases c9 : a0_4 = a1_4
     ·rw [if_pos c9] at H
      have c9b0 : (a0_4 == a1_4) = true := beq_iff_eq.mpr c9
      have c9b1 : (a0_4 != a1_4) = false := bne_eq_false_iff_eq.mpr c9
      clear c9
      obtain rfl := Option.some.inj H
      go_enter Try.func22, Try.ntmps22
      go_wp2_with (first | ((with_reducible refine qv (N := 2) rfl ?_); refine qt ?hg (N := 2) ?hd (cs := #[.slice A0_0 l0_0.length c0_0, .slice A0_1 l0_1.length c0_1, .int .i64 a0_2, .int .i64 a0_3, .int .i64 a0_4]) (t := 37) ?hr ?_; (case hd => rfl); (case hg => rfl); (case hr => exact yq114); intro gb101 hg w10 hbox hb; have BK101 := Qz.mk (hbox); have GW101 := Qz.mk ((by rw [hg]; exact (qp yq105) : w.heap.size ≤ gb101)); have GE101 := GW101; replace HB := Qz.mk (qk yq105 hb); clear hb hbox hg) | ((with_reducible refine qv (N := 3) rfl ?_); refine qt ?hg (N := 3) ?hd (cs := #[.slice A1_0 l1_0.length c1_0, .slice A1_1 l1_1.length c1_1, .int .i64 a1_2, .int .i64 a1_3, .int .i64 a1_4]) (t := 37) ?hr ?_; (case hd => rfl); (case hg => rfl); (case hr => exact yq114); intro gb102 hg w11 hbox hb; have BK102 := Qz.mk (hbox); have GW102 := Qz.mk ((by rw [hg]; exact (qp yq104) : w.heap.size ≤ gb102)); have GE102 := GW102; replace HB := Qz.mk (qk yq104 hb); have NB101_102 := Qz.mk ((yq106 : gb101 ≠ gb102)); have NB102_101 := Qz.mk ((yq107 : gb102 ≠ gb101)); replace BK101 := bkbf22 BK101 yq102 hb; clear hb hbox hg; have hnb12 := NB101_102.out; have hnc12 := NB102_101.out; have hcz13_0 := (qa BK101.out 0).trans rfl; have hcz13_1 := (qa BK101.out 1).trans rfl; have hcz13_2 := (qa BK101.out 2).trans rfl; have hcz13_3 := (qa BK101.out 3).trans rfl; have hcz13_4 := (qa BK101.out 4).trans rfl; have hfz13_0 := qc BK101.out 0; have hfz13_1 := qc BK101.out 1; have hfz13_2 := qc BK101.out 2; have hfz13_3 := qc BK101.out 3; have hfz13_4 := qc BK101.out 4; have hcz14_0 := (qa BK102.out 0).trans rfl; have hcz14_1 := (qa BK102.out 1).trans rfl; have hcz14_2 := (qa BK102.out 2).trans rfl; have hcz14_3 := (qa BK102.out 3).trans rfl; have hcz14_4 := (qa BK102.out 4).trans rfl; have hfz14_0 := qc BK102.out 0; have hfz14_1 := qc BK102.out 1; have hfz14_2 := qc BK102.out 2; have hfz14_3 := qc BK102.out 3; have hfz14_4 := qc BK102.out 4) | ((with_reducible refine qr (f := 60) rfl ?_); refine goesL_ (some 9) rfl rfl Try.func60 (by kernel_rfl) rfl #[.slice A0_0 l0_0.length c0_0, .slice A1_0 l1_0.length c1_0] rfl yq103 ?_; (with_reducible refine (laws_eqMetaS.calls k _ _ l0_0 _ _ l1_0 true _ ?side1 ?side2 ?side3 ?side4 A3.out).mono ?_); (case side1 => exact yq109); (case side2 => exact HC0_0.out); (case side3 => exact yq108); (case side4 => exact HC1_0.out); rintro e w15 ⟨rfl, hb⟩; refine ⟨_, rfl, ?_⟩; replace BK101 := bkbf22 BK101 yq102 hb; replace BK102 := bkbf22 BK102 yq113 hb; replace HB := Qz.mk (qk yq110 hb); (try clear hb); have hcz16_0 := (qa BK101.out 0).trans rfl; have hcz16_1 := (qa BK101.out 1).trans rfl; have hcz16_2 := (qa BK101.out 2).trans rfl; have hcz16_3 := (qa BK101.out 3).trans rfl; have hcz16_4 := (qa BK101.out 4).trans rfl; have hfz16_0 := qc BK101.out 0; have hfz16_1 := qc BK101.out 1; have hfz16_2 := qc BK101.out 2; have hfz16_3 := qc BK101.out 3; have hfz16_4 := qc BK101.out 4; have hcz17_0 := (qa BK102.out 0).trans rfl; have hcz17_1 := (qa BK102.out 1).trans rfl; have hcz17_2 := (qa BK102.out 2).trans rfl; have hcz17_3 := (qa BK102.out 3).trans rfl; have hcz17_4 := (qa BK102.out 4).trans rfl; have hfz17_0 := qc BK102.out 0; have hfz17_1 := qc BK102.out 1; have hfz17_2 := qc BK102.out 2; have hfz17_3 := qc BK102.out 3; have hfz17_4 := qc BK102.out 4) | ((with_reducible refine qr (f := 44) rfl ?_); refine goesL_ (some 15) rfl rfl Try.func44 (by kernel_rfl) rfl #[.slice A0_1 l0_1.length c0_1, .slice A1_1 l1_1.length c1_1] rfl yq103 ?_; (with_reducible refine (laws_eqInt64S.calls k _ _ l0_1 _ _ l1_1 true _ ?side1 ?side2 ?side3 ?side4 A5.out).mono ?_); (case side1 => exact yq112); (case side2 => exact HC0_1.out); (case side3 => exact yq111); (case side4 => exact HC1_1.out); rintro e w' ⟨rfl, ⟨nd, rfl⟩⟩; refine ⟨_, rfl, ?_⟩))
      go_ret
      exact ⟨by first | rfl | (simp [qn, qm] <;> rfl) | (simp [*, qn, qm] <;> rfl), by repeat (first | (with_reducible first | exact HB.out | apply qd | apply qb | apply qe | refine qi ?_ GE101.out | refine qi ?_ GE102.out) | exact HB.out)⟩
     ·rw [if_neg c9] at H
      have c9b0 : (a0_4 == a1_4) = false := beq_eq_false_iff_ne.mpr c9
      have c9b1 : (a0_4 != a1_4) = true := bne_iff_ne.mpr c9
      obtain rfl := Option.some.inj H
      go_enter Try.func22, Try.ntmps22
      go_wp2_with (first | ((with_reducible refine qv (N := 2) rfl ?_); refine qt ?hg (N := 2) ?hd (cs := #[.slice A0_0 l0_0.length c0_0, .slice A0_1 l0_1.length c0_1, .int .i64 a0_2, .int .i64 a0_3, .int .i64 a0_4]) (t := 37) ?hr ?_; (case hd => rfl); (case hg => rfl); (case hr => exact yq114); intro gb101 hg w18 hbox hb; have BK101 := Qz.mk (hbox); have GW101 := Qz.mk ((by rw [hg]; exact (qp yq105) : w.heap.size ≤ gb101)); have GE101 := GW101; replace HB := Qz.mk (qk yq105 hb); clear hb hbox hg) | ((with_reducible refine qv (N := 3) rfl ?_); refine qt ?hg (N := 3) ?hd (cs := #[.slice A1_0 l1_0.length c1_0, .slice A1_1 l1_1.length c1_1, .int .i64 a1_2, .int .i64 a1_3, .int .i64 a1_4]) (t := 37) ?hr ?_; (case hd => rfl); (case hg => rfl); (case hr => exact yq114); intro gb102 hg w19 hbox hb; have BK102 := Qz.mk (hbox); have GW102 := Qz.mk ((by rw [hg]; exact (qp yq104) : w.heap.size ≤ gb102)); have GE102 := GW102; replace HB := Qz.mk (qk yq104 hb); have NB101_102 := Qz.mk ((yq106 : gb101 ≠ gb102)); have NB102_101 := Qz.mk ((yq107 : gb102 ≠ gb101)); replace BK101 := bkbf22 BK101 yq102 hb; clear hb hbox hg; have hnb20 := NB101_102.out; have hnc20 := NB102_101.out; have hcz21_0 := (qa BK101.out 0).trans rfl; have hcz21_1 := (qa BK101.out 1).trans rfl; have hcz21_2 := (qa BK101.out 2).trans rfl; have hcz21_3 := (qa BK101.out 3).trans rfl; have hcz21_4 := (qa BK101.out 4).trans rfl; have hfz21_0 := qc BK101.out 0; have hfz21_1 := qc BK101.out 1; have hfz21_2 := qc BK101.out 2; have hfz21_3 := qc BK101.out 3; have hfz21_4 := qc BK101.out 4; have hcz22_0 := (qa BK102.out 0).trans rfl; have hcz22_1 := (qa BK102.out 1).trans rfl; have hcz22_2 := (qa BK102.out 2).trans rfl; have hcz22_3 := (qa BK102.out 3).trans rfl; have hcz22_4 := (qa BK102.out 4).trans rfl; have hfz22_0 := qc BK102.out 0; have hfz22_1 := qc BK102.out 1; have hfz22_2 := qc BK102.out 2; have hfz22_3 := qc BK102.out 3; have hfz22_4 := qc BK102.out 4) | ((with_reducible refine qr (f := 60) rfl ?_); refine goesL_ (some 9) rfl rfl Try.func60 (by kernel_rfl) rfl #[.slice A0_0 l0_0.length c0_0, .slice A1_0 l1_0.length c1_0] rfl yq103 ?_; (with_reducible refine (laws_eqMetaS.calls k _ _ l0_0 _ _ l1_0 true _ ?side1 ?side2 ?side3 ?side4 A3.out).mono ?_); (case side1 => exact yq109); (case side2 => exact HC0_0.out); (case side3 => exact yq108); (case side4 => exact HC1_0.out); rintro e w23 ⟨rfl, hb⟩; refine ⟨_, rfl, ?_⟩; replace BK101 := bkbf22 BK101 yq102 hb; replace BK102 := bkbf22 BK102 yq113 hb; replace HB := Qz.mk (qk yq110 hb); (try clear hb); have hcz24_0 := (qa BK101.out 0).trans rfl; have hcz24_1 := (qa BK101.out 1).trans rfl; have hcz24_2 := (qa BK101.out 2).trans rfl; have hcz24_3 := (qa BK101.out 3).trans rfl; have hcz24_4 := (qa BK101.out 4).trans rfl; have hfz24_0 := qc BK101.out 0; have hfz24_1 := qc BK101.out 1; have hfz24_2 := qc BK101.out 2; have hfz24_3 := qc BK101.out 3; have hfz24_4 := qc BK101.out 4; have hcz25_0 := (qa BK102.out 0).trans rfl; have hcz25_1 := (qa BK102.out 1).trans rfl; have hcz25_2 := (qa BK102.out 2).trans rfl; have hcz25_3 := (qa BK102.out 3).trans rfl; have hcz25_4 := (qa BK102.out 4).trans rfl; have hfz25_0 := qc BK102.out 0; have hfz25_1 := qc BK102.out 1; have hfz25_2 := qc BK102.out 2; have hfz25_3 := qc BK102.out 3; have hfz25_4 := qc BK102.out 4) | ((with_reducible refine qr (f := 44) rfl ?_); refine goesL_ (some 15) rfl rfl Try.func44 (by kernel_rfl) rfl #[.slice A0_1 l0_1.length c0_1, .slice A1_1 l1_1.length c1_1] rfl yq103 ?_; (with_reducible refine (laws_eqInt64S.calls k _ _ l0_1 _ _ l1_1 true _ ?side1 ?side2 ?side3 ?side4 A5.out).mono ?_); (case side1 => exact yq112); (case side2 => exact HC0_1.out); (case side3 => exact yq111); (case side4 => exact HC1_1.out); rintro e w' ⟨rfl, ⟨nd, rfl⟩⟩; refine ⟨_, rfl, ?_⟩))
      go_ret
      exact ⟨by first | rfl | (simp [qn, qm] <;> rfl) | (simp [*, qn, qm] <;> rfl), by repeat (first | (with_reducible first | exact HB.out | apply qd | apply qb | apply qe | refine qi ?_ GE101.out | refine qi ?_ GE102.out) | exact HB.out)⟩
    ·rw [if_neg c8] at H
     have c8b0 : (a0_3 == a1_3) = false := beq_eq_false_iff_ne.mpr c8
     have c8b1 : (a0_3 != a1_3) = true := bne_iff_ne.mpr c8
     obtain rfl := Option.some.inj H
     go_enter Try.func22, Try.ntmps22
     go_wp2_with (first | ((with_reducible refine qv (N := 2) rfl ?_); refine qt ?hg (N := 2) ?hd (cs := #[.slice A0_0 l0_0.length c0_0, .slice A0_1 l0_1.length c0_1, .int .i64 a0_2, .int .i64 a0_3, .int .i64 a0_4]) (t := 37) ?hr ?_; (case hd => rfl); (case hg => rfl); (case hr => exact yq114); intro gb101 hg w26 hbox hb; have BK101 := Qz.mk (hbox); have GW101 := Qz.mk ((by rw [hg]; exact (qp yq105) : w.heap.size ≤ gb101)); have GE101 := GW101; replace HB := Qz.mk (qk yq105 hb); clear hb hbox hg) | ((with_reducible refine qv (N := 3) rfl ?_); refine qt ?hg (N := 3) ?hd (cs := #[.slice A1_0 l1_0.length c1_0, .slice A1_1 l1_1.length c1_1, .int .i64 a1_2, .int .i64 a1_3, .int .i64 a1_4]) (t := 37) ?hr ?_; (case hd => rfl); (case hg => rfl); (case hr => exact yq114); intro gb102 hg w27 hbox hb; have BK102 := Qz.mk (hbox); have GW102 := Qz.mk ((by rw [hg]; exact (qp yq104) : w.heap.size ≤ gb102)); have GE102 := GW102; replace HB := Qz.mk (qk yq104 hb); have NB101_102 := Qz.mk ((yq106 : gb101 ≠ gb102)); have NB102_101 := Qz.mk ((yq107 : gb102 ≠ gb101)); replace BK101 := bkbf22 BK101 yq102 hb; clear hb hbox hg; have hnb28 := NB101_102.out; have hnc28 := NB102_101.out; have hcz29_0 := (qa BK101.out 0).trans rfl; have hcz29_1 := (qa BK101.out 1).trans rfl; have hcz29_2 := (qa BK101.out 2).trans rfl; have hcz29_3 := (qa BK101.out 3).trans rfl; have hcz29_4 := (qa BK101.out 4).trans rfl; have hfz29_0 := qc BK101.out 0; have hfz29_1 := qc BK101.out 1; have hfz29_2 := qc BK101.out 2; have hfz29_3 := qc BK101.out 3; have hfz29_4 := qc BK101.out 4; have hcz30_0 := (qa BK102.out 0).trans rfl; have hcz30_1 := (qa BK102.out 1).trans rfl; have hcz30_2 := (qa BK102.out 2).trans rfl; have hcz30_3 := (qa BK102.out 3).trans rfl; have hcz30_4 := (qa BK102.out 4).trans rfl; have hfz30_0 := qc BK102.out 0; have hfz30_1 := qc BK102.out 1; have hfz30_2 := qc BK102.out 2; have hfz30_3 := qc BK102.out 3; have hfz30_4 := qc BK102.out 4) | ((with_reducible refine qr (f := 60) rfl ?_); refine goesL_ (some 9) rfl rfl Try.func60 (by kernel_rfl) rfl #[.slice A0_0 l0_0.length c0_0, .slice A1_0 l1_0.length c1_0] rfl yq103 ?_; (with_reducible refine (laws_eqMetaS.calls k _ _ l0_0 _ _ l1_0 true _ ?side1 ?side2 ?side3 ?side4 A3.out).mono ?_); (case side1 => exact yq109); (case side2 => exact HC0_0.out); (case side3 => exact yq108); (case side4 => exact HC1_0.out); rintro e w31 ⟨rfl, hb⟩; refine ⟨_, rfl, ?_⟩; replace BK101 := bkbf22 BK101 yq102 hb; replace BK102 := bkbf22 BK102 yq113 hb; replace HB := Qz.mk (qk yq110 hb); (try clear hb); have hcz32_0 := (qa BK101.out 0).trans rfl; have hcz32_1 := (qa BK101.out 1).trans rfl; have hcz32_2 := (qa BK101.out 2).trans rfl; have hcz32_3 := (qa BK101.out 3).trans rfl; have hcz32_4 := (qa BK101.out 4).trans rfl; have hfz32_0 := qc BK101.out 0; have hfz32_1 := qc BK101.out 1; have hfz32_2 := qc BK101.out 2; have hfz32_3 := qc BK101.out 3; have hfz32_4 := qc BK101.out 4; have hcz33_0 := (qa BK102.out 0).trans rfl; have hcz33_1 := (qa BK102.out 1).trans rfl; have hcz33_2 := (qa BK102.out 2).trans rfl; have hcz33_3 := (qa BK102.out 3).trans rfl; have hcz33_4 := (qa BK102.out 4).trans rfl; have hfz33_0 := qc BK102.out 0; have hfz33_1 := qc BK102.out 1; have hfz33_2 := qc BK102.out 2; have hfz33_3 := qc BK102.out 3; have hfz33_4 := qc BK102.out 4) | ((with_reducible refine qr (f := 44) rfl ?_); refine goesL_ (some 15) rfl rfl Try.func44 (by kernel_rfl) rfl #[.slice A0_1 l0_1.length c0_1, .slice A1_1 l1_1.length c1_1] rfl yq103 ?_; (with_reducible refine (laws_eqInt64S.calls k _ _ l0_1 _ _ l1_1 true _ ?side1 ?side2 ?side3 ?side4 A5.out).mono ?_); (case side1 => exact yq112); (case side2 => exact HC0_1.out); (case side3 => exact yq111); (case side4 => exact HC1_1.out); rintro e w' ⟨rfl, ⟨nd, rfl⟩⟩; refine ⟨_, rfl, ?_⟩))
     go_ret
     exact ⟨by first | rfl | (simp [qn, qm] <;> rfl) | (simp [*, qn, qm] <;> rfl), by repeat (first | (with_reducible first | exact HB.out | apply qd | apply qb | apply qe | refine qi ?_ GE101.out | refine qi ?_ GE102.out) | exact HB.out)⟩
   ·rw [if_neg c7] at H
    have c7b0 : (a0_2 == a1_2) = false := beq_eq_false_iff_ne.mpr c7
    have c7b1 : (a0_2 != a1_2) = true := bne_iff_ne.mpr c7
    obtain rfl := Option.some.inj H
    go_enter Try.func22, Try.ntmps22
    go_wp2_with (first | ((with_reducible refine qv (N := 2) rfl ?_); refine qt ?hg (N := 2) ?hd (cs := #[.slice A0_0 l0_0.length c0_0, .slice A0_1 l0_1.length c0_1, .int .i64 a0_2, .int .i64 a0_3, .int .i64 a0_4]) (t := 37) ?hr ?_; (case hd => rfl); (case hg => rfl); (case hr => exact yq114); intro gb101 hg w34 hbox hb; have BK101 := Qz.mk (hbox); have GW101 := Qz.mk ((by rw [hg]; exact (qp yq105) : w.heap.size ≤ gb101)); have GE101 := GW101; replace HB := Qz.mk (qk yq105 hb); clear hb hbox hg) | ((with_reducible refine qv (N := 3) rfl ?_); refine qt ?hg (N := 3) ?hd (cs := #[.slice A1_0 l1_0.length c1_0, .slice A1_1 l1_1.length c1_1, .int .i64 a1_2, .int .i64 a1_3, .int .i64 a1_4]) (t := 37) ?hr ?_; (case hd => rfl); (case hg => rfl); (case hr => exact yq114); intro gb102 hg w35 hbox hb; have BK102 := Qz.mk (hbox); have GW102 := Qz.mk ((by rw [hg]; exact (qp yq104) : w.heap.size ≤ gb102)); have GE102 := GW102; replace HB := Qz.mk (qk yq104 hb); have NB101_102 := Qz.mk ((yq106 : gb101 ≠ gb102)); have NB102_101 := Qz.mk ((yq107 : gb102 ≠ gb101)); replace BK101 := bkbf22 BK101 yq102 hb; clear hb hbox hg; have hnb36 := NB101_102.out; have hnc36 := NB102_101.out; have hcz37_0 := (qa BK101.out 0).trans rfl; have hcz37_1 := (qa BK101.out 1).trans rfl; have hcz37_2 := (qa BK101.out 2).trans rfl; have hcz37_3 := (qa BK101.out 3).trans rfl; have hcz37_4 := (qa BK101.out 4).trans rfl; have hfz37_0 := qc BK101.out 0; have hfz37_1 := qc BK101.out 1; have hfz37_2 := qc BK101.out 2; have hfz37_3 := qc BK101.out 3; have hfz37_4 := qc BK101.out 4; have hcz38_0 := (qa BK102.out 0).trans rfl; have hcz38_1 := (qa BK102.out 1).trans rfl; have hcz38_2 := (qa BK102.out 2).trans rfl; have hcz38_3 := (qa BK102.out 3).trans rfl; have hcz38_4 := (qa BK102.out 4).trans rfl; have hfz38_0 := qc BK102.out 0; have hfz38_1 := qc BK102.out 1; have hfz38_2 := qc BK102.out 2; have hfz38_3 := qc BK102.out 3; have hfz38_4 := qc BK102.out 4) | ((with_reducible refine qr (f := 60) rfl ?_); refine goesL_ (some 9) rfl rfl Try.func60 (by kernel_rfl) rfl #[.slice A0_0 l0_0.length c0_0, .slice A1_0 l1_0.length c1_0] rfl yq103 ?_; (with_reducible refine (laws_eqMetaS.calls k _ _ l0_0 _ _ l1_0 true _ ?side1 ?side2 ?side3 ?side4 A3.out).mono ?_); (case side1 => exact yq109); (case side2 => exact HC0_0.out); (case side3 => exact yq108); (case side4 => exact HC1_0.out); rintro e w39 ⟨rfl, hb⟩; refine ⟨_, rfl, ?_⟩; replace BK101 := bkbf22 BK101 yq102 hb; replace BK102 := bkbf22 BK102 yq113 hb; replace HB := Qz.mk (qk yq110 hb); (try clear hb); have hcz40_0 := (qa BK101.out 0).trans rfl; have hcz40_1 := (qa BK101.out 1).trans rfl; have hcz40_2 := (qa BK101.out 2).trans rfl; have hcz40_3 := (qa BK101.out 3).trans rfl; have hcz40_4 := (qa BK101.out 4).trans rfl; have hfz40_0 := qc BK101.out 0; have hfz40_1 := qc BK101.out 1; have hfz40_2 := qc BK101.out 2; have hfz40_3 := qc BK101.out 3; have hfz40_4 := qc BK101.out 4; have hcz41_0 := (qa BK102.out 0).trans rfl; have hcz41_1 := (qa BK102.out 1).trans rfl; have hcz41_2 := (qa BK102.out 2).trans rfl; have hcz41_3 := (qa BK102.out 3).trans rfl; have hcz41_4 := (qa BK102.out 4).trans rfl; have hfz41_0 := qc BK102.out 0; have hfz41_1 := qc BK102.out 1; have hfz41_2 := qc BK102.out 2; have hfz41_3 := qc BK102.out 3; have hfz41_4 := qc BK102.out 4) | ((with_reducible refine qr (f := 44) rfl ?_); refine goesL_ (some 15) rfl rfl Try.func44 (by kernel_rfl) rfl #[.slice A0_1 l0_1.length c0_1, .slice A1_1 l1_1.length c1_1] rfl yq103 ?_; (with_reducible refine (laws_eqInt64S.calls k _ _ l0_1 _ _ l1_1 true _ ?side1 ?side2 ?side3 ?side4 A5.out).mono ?_); (case side1 => exact yq112); (case side2 => exact HC0_1.out); (case side3 => exact yq111); (case side4 => exact HC1_1.out); rintro e w' ⟨rfl, ⟨nd, rfl⟩⟩; refine ⟨_, rfl, ?_⟩))
    go_ret
    exact ⟨by first | rfl | (simp [qn, qm] <;> rfl) | (simp [*, qn, qm] <;> rfl), by repeat (first | (with_reducible first | exact HB.out | apply qd | apply qb | apply qe | refine qi ?_ GE101.out | refine qi ?_ GE102.out) | exact HB.out)⟩
  ·replace c6 := Bool.eq_false_iff.mpr c6
   subst c6
   have H1 : (some false) = some r := by rw [if_neg (show ¬ (false = true) by decide)] at H; exact H
   clear H
   have H := H1
   clear H1
   obtain rfl := Option.some.inj H
   go_enter Try.func22, Try.ntmps22
   go_wp2_with (first | ((with_reducible refine qv (N := 2) rfl ?_); refine qt ?hg (N := 2) ?hd (cs := #[.slice A0_0 l0_0.length c0_0, .slice A0_1 l0_1.length c0_1, .int .i64 a0_2, .int .i64 a0_3, .int .i64 a0_4]) (t := 37) ?hr ?_; (case hd => rfl); (case hg => rfl); (case hr => exact yq114); intro gb101 hg w42 hbox hb; have BK101 := Qz.mk (hbox); have GW101 := Qz.mk ((by rw [hg]; exact (qp yq105) : w.heap.size ≤ gb101)); have GE101 := GW101; replace HB := Qz.mk (qk yq105 hb); clear hb hbox hg) | ((with_reducible refine qv (N := 3) rfl ?_); refine qt ?hg (N := 3) ?hd (cs := #[.slice A1_0 l1_0.length c1_0, .slice A1_1 l1_1.length c1_1, .int .i64 a1_2, .int .i64 a1_3, .int .i64 a1_4]) (t := 37) ?hr ?_; (case hd => rfl); (case hg => rfl); (case hr => exact yq114); intro gb102 hg w43 hbox hb; have BK102 := Qz.mk (hbox); have GW102 := Qz.mk ((by rw [hg]; exact (qp yq104) : w.heap.size ≤ gb102)); have GE102 := GW102; replace HB := Qz.mk (qk yq104 hb); have NB101_102 := Qz.mk ((yq106 : gb101 ≠ gb102)); have NB102_101 := Qz.mk ((yq107 : gb102 ≠ gb101)); replace BK101 := bkbf22 BK101 yq102 hb; clear hb hbox hg; have hnb44 := NB101_102.out; have hnc44 := NB102_101.out; have hcz45_0 := (qa BK101.out 0).trans rfl; have hcz45_1 := (qa BK101.out 1).trans rfl; have hcz45_2 := (qa BK101.out 2).trans rfl; have hcz45_3 := (qa BK101.out 3).trans rfl; have hcz45_4 := (qa BK101.out 4).trans rfl; have hfz45_0 := qc BK101.out 0; have hfz45_1 := qc BK101.out 1; have hfz45_2 := qc BK101.out 2; have hfz45_3 := qc BK101.out 3; have hfz45_4 := qc BK101.out 4; have hcz46_0 := (qa BK102.out 0).trans rfl; have hcz46_1 := (qa BK102.out 1).trans rfl; have hcz46_2 := (qa BK102.out 2).trans rfl; have hcz46_3 := (qa BK102.out 3).trans rfl; have hcz46_4 := (qa BK102.out 4).trans rfl; have hfz46_0 := qc BK102.out 0; have hfz46_1 := qc BK102.out 1; have hfz46_2 := qc BK102.out 2; have hfz46_3 := qc BK102.out 3; have hfz46_4 := qc BK102.out 4) | ((with_reducible refine qr (f := 60) rfl ?_); refine goesL_ (some 9) rfl rfl Try.func60 (by kernel_rfl) rfl #[.slice A0_0 l0_0.length c0_0, .slice A1_0 l1_0.length c1_0] rfl yq103 ?_; (with_reducible refine (laws_eqMetaS.calls k _ _ l0_0 _ _ l1_0 true _ ?side1 ?side2 ?side3 ?side4 A3.out).mono ?_); (case side1 => exact yq109); (case side2 => exact HC0_0.out); (case side3 => exact yq108); (case side4 => exact HC1_0.out); rintro e w47 ⟨rfl, hb⟩; refine ⟨_, rfl, ?_⟩; replace BK101 := bkbf22 BK101 yq102 hb; replace BK102 := bkbf22 BK102 yq113 hb; replace HB := Qz.mk (qk yq110 hb); (try clear hb); have hcz48_0 := (qa BK101.out 0).trans rfl; have hcz48_1 := (qa BK101.out 1).trans rfl; have hcz48_2 := (qa BK101.out 2).trans rfl; have hcz48_3 := (qa BK101.out 3).trans rfl; have hcz48_4 := (qa BK101.out 4).trans rfl; have hfz48_0 := qc BK101.out 0; have hfz48_1 := qc BK101.out 1; have hfz48_2 := qc BK101.out 2; have hfz48_3 := qc BK101.out 3; have hfz48_4 := qc BK101.out 4; have hcz49_0 := (qa BK102.out 0).trans rfl; have hcz49_1 := (qa BK102.out 1).trans rfl; have hcz49_2 := (qa BK102.out 2).trans rfl; have hcz49_3 := (qa BK102.out 3).trans rfl; have hcz49_4 := (qa BK102.out 4).trans rfl; have hfz49_0 := qc BK102.out 0; have hfz49_1 := qc BK102.out 1; have hfz49_2 := qc BK102.out 2; have hfz49_3 := qc BK102.out 3; have hfz49_4 := qc BK102.out 4) | ((with_reducible refine qr (f := 44) rfl ?_); refine goesL_ (some 15) rfl rfl Try.func44 (by kernel_rfl) rfl #[.slice A0_1 l0_1.length c0_1, .slice A1_1 l1_1.length c1_1] rfl yq103 ?_; (with_reducible refine (laws_eqInt64S.calls k _ _ l0_1 _ _ l1_1 false _ ?side1 ?side2 ?side3 ?side4 A5.out).mono ?_); (case side1 => exact yq112); (case side2 => exact HC0_1.out); (case side3 => exact yq111); (case side4 => exact HC1_1.out); rintro e w' ⟨rfl, ⟨nd, rfl⟩⟩; refine ⟨_, rfl, ?_⟩))
   go_ret
   exact ⟨by first | rfl | (simp [qn, qm] <;> rfl) | (simp [*, qn, qm] <;> rfl), by repeat (first | (with_reducible first | exact HB.out | apply qd | apply qb | apply qe | refine qi ?_ GE101.out | refine qi ?_ GE102.out) | exact HB.out)⟩
 ·replace c4 := Bool.eq_false_iff.mpr c4
  subst c4
  have H1 : (some false) = some r := by rw [if_neg (show ¬ (false = true) by decide)] at H; exact H
  clear H
  have H := H1
  clear H1
  obtain rfl := Option.some.inj H
  go_enter Try.func22, Try.ntmps22
  go_wp2_with (first | ((with_reducible refine qv (N := 2) rfl ?_); refine qt ?hg (N := 2) ?hd (cs := #[.slice A0_0 l0_0.length c0_0, .slice A0_1 l0_1.length c0_1, .int .i64 a0_2, .int .i64 a0_3, .int .i64 a0_4]) (t := 37) ?hr ?_; (case hd => rfl); (case hg => rfl); (case hr => exact yq114); intro gb101 hg w50 hbox hb; have BK101 := Qz.mk (hbox); have GW101 := Qz.mk ((by rw [hg]; exact (qp yq105) : w.heap.size ≤ gb101)); have GE101 := GW101; replace HB := Qz.mk (qk yq105 hb); clear hb hbox hg) | ((with_reducible refine qv (N := 3) rfl ?_); refine qt ?hg (N := 3) ?hd (cs := #[.slice A1_0 l1_0.length c1_0, .slice A1_1 l1_1.length c1_1, .int .i64 a1_2, .int .i64 a1_3, .int .i64 a1_4]) (t := 37) ?hr ?_; (case hd => rfl); (case hg => rfl); (case hr => exact yq114); intro gb102 hg w51 hbox hb; have BK102 := Qz.mk (hbox); have GW102 := Qz.mk ((by rw [hg]; exact (qp yq104) : w.heap.size ≤ gb102)); have GE102 := GW102; replace HB := Qz.mk (qk yq104 hb); have NB101_102 := Qz.mk ((yq106 : gb101 ≠ gb102)); have NB102_101 := Qz.mk ((yq107 : gb102 ≠ gb101)); replace BK101 := bkbf22 BK101 yq102 hb; clear hb hbox hg; have hnb52 := NB101_102.out; have hnc52 := NB102_101.out; have hcz53_0 := (qa BK101.out 0).trans rfl; have hcz53_1 := (qa BK101.out 1).trans rfl; have hcz53_2 := (qa BK101.out 2).trans rfl; have hcz53_3 := (qa BK101.out 3).trans rfl; have hcz53_4 := (qa BK101.out 4).trans rfl; have hfz53_0 := qc BK101.out 0; have hfz53_1 := qc BK101.out 1; have hfz53_2 := qc BK101.out 2; have hfz53_3 := qc BK101.out 3; have hfz53_4 := qc BK101.out 4; have hcz54_0 := (qa BK102.out 0).trans rfl; have hcz54_1 := (qa BK102.out 1).trans rfl; have hcz54_2 := (qa BK102.out 2).trans rfl; have hcz54_3 := (qa BK102.out 3).trans rfl; have hcz54_4 := (qa BK102.out 4).trans rfl; have hfz54_0 := qc BK102.out 0; have hfz54_1 := qc BK102.out 1; have hfz54_2 := qc BK102.out 2; have hfz54_3 := qc BK102.out 3; have hfz54_4 := qc BK102.out 4) | ((with_reducible refine qr (f := 60) rfl ?_); refine goesL_ (some 9) rfl rfl Try.func60 (by kernel_rfl) rfl #[.slice A0_0 l0_0.length c0_0, .slice A1_0 l1_0.length c1_0] rfl yq103 ?_; (with_reducible refine (laws_eqMetaS.calls k _ _ l0_0 _ _ l1_0 false _ ?side1 ?side2 ?side3 ?side4 A3.out).mono ?_); (case side1 => exact yq109); (case side2 => exact HC0_0.out); (case side3 => exact yq108); (case side4 => exact HC1_0.out); rintro e w55 ⟨rfl, hb⟩; refine ⟨_, rfl, ?_⟩; replace BK101 := bkbf22 BK101 yq102 hb; replace BK102 := bkbf22 BK102 yq113 hb; replace HB := Qz.mk (qk yq110 hb); (try clear hb)))
  go_ret
  exact ⟨by first | rfl | (simp [qn, qm] <;> rfl) | (simp [*, qn, qm] <;> rfl), by repeat (first | (with_reducible first | exact HB.out | apply qd | apply qb | apply qe | refine qi ?_ GE101.out | refine qi ?_ GE102.out) | exact HB.out)⟩
theorem yq115 {P : Prop} (h : P := by first | (with_reducible assumption) | assumption) : P := h
def laws_eqEditS.l0 : Nat → List (S37) → List (S37) → Int → Option (Bool)
 | 0, _, _, _ => none
 | k + 1, x0, x1, x5 => if x5 < (x0.length : Int) then (if 0 ≤ x5 then (if x5 < (x1.length : Int) then ((laws_eqEdit.f k ((qq x0 x5).f0) ((qq x0 x5).f1) ((qq x0 x5).f2) ((qq x0 x5).f3) ((qq x0 x5).f4) ((qq x1 x5).f0) ((qq x1 x5).f1) ((qq x1 x5).f2) ((qq x1 x5).f3) ((qq x1 x5).f4)).bind fun t103 => (if t103 = true then (laws_eqEditS.l0 k x0 x1 (wrap64 (x5 + 1))) else (some false))) else (none)) else (none)) else (some true)
def laws_eqEditS.f (k : Nat) (l0 : List (S37)) (l1 : List (S37)) : Option (Bool) := if (l0.length : Int) = (l1.length : Int) then (laws_eqEditS.l0 k l0 l1 0) else (some false)
def laws_eqEditS.T6 : Bool × List (List Nat × List Nat) := (true, [([], []), ([], []), ([0, 1], [0, 1]), ([2], [2]), ([], []), ([], []), ([4, 5], [4, 5]), ([6], [6]), ([3, 7], [3, 7]), ([8], [8])])
def laws_eqEditS.B6 : List Nat := [0, 0, 3, 7, 0, 0, 48, 112, 255, 511]
theorem laws_eqEditS.tab6 : rtab .any (opsOf Try.f32 6) = laws_eqEditS.T6 := by kernel_rfl
theorem laws_eqEditS.bits6 : waitsOk laws_eqEditS.T6.2 laws_eqEditS.B6 = true := by kernel_rfl
set_option maxHeartbeats 8000000 in
set_option maxRecDepth 100000 in
theorem laws_eqEditS.calls (k : Nat) (A0 : Option Addr) (c0 : Nat) (l0 : List (S37)) (A1 : Option Addr) (c1 : Nat) (l1 : List (S37)) (r : Bool) (w : World) (hr0 : Kd.C k37 w A0 l0.length l0) (hc0 : l0.length ≤ c0) (hr1 : Kd.C k37 w A1 l1.length l1) (hc1 : l1.length ≤ c1) (h : laws_eqEditS.f k l0 l1 = some r) :
  Calls Try.prog 32 #[.slice A0 l0.length c0, .slice A1 l1.length c1] w fun e w' => e = .returned (.bool r) ∧ Below w.heap.size w w' := by
 have hu37 := Try.underlying37
 have HR0 := Qz.mk hr0
 have HC0 := Qz.mk hc0
 clear hr0 hc0
 have HR1 := Qz.mk hr1
 have HC1 := Qz.mk hc1
 clear hr1 hc1
 have HB := Qz.mk (Below.refl w.heap.size w)
 have H : (if (l0.length : Int) = (l1.length : Int) then (laws_eqEditS.l0 k l0 l1 0) else (some false)) = some r := h
 clear h
 by_cases c3 : (l0.length : Int) = (l1.length : Int)
 ·rw [if_pos c3] at H
  have c3b0 : ((l0.length : Int) == (l1.length : Int)) = true := beq_iff_eq.mpr c3
  have c3b1 : ((l0.length : Int) != (l1.length : Int)) = false := bne_eq_false_iff_eq.mpr c3
  have c3b2 : (l0.length == l1.length) = true := by first | simpa using c3 | (simp at c3 ⊢; omega)
  clear c3
  have H' := Qz.mk H
  clear H
  go_enter Try.func32, Try.ntmps32
  go_wp2
  go_loopg [5] k (fun kq v5 w' => ∃ (x5_1 : Int), v5 = .int .i64 x5_1 ∧ Qz (laws_eqEditS.l0 kq l0 l1 x5_1 = some r) ∧ Qz (kq ≤ k) ∧ Qz (Below w.heap.size w w'))
  case atStart => exact ⟨(0), (by first | rfl | (simp; done) | (simp [*]; done)), H', ⟨Nat.le_refl _⟩, ⟨by repeat (first | (with_reducible first | exact HB.out | apply qd | apply qb | apply qe) | exact HB.out)⟩⟩
  case round =>
   clear H'
   (try clear c1);(try clear p2);(try clear c3);(try clear c3b0);(try clear c3b1);(try clear c3b2)
   obtain ⟨x5_1, rfl, HA, HK1, HB⟩ := hrel
   cases gk with
   | zero => exact absurd HA.out (by simp [laws_eqEditS.l0])
   | succ k1 =>
    have H := HA.out
    clear HA
    simp only [laws_eqEditS.l0] at H
    by_cases c4 : x5_1 < (l0.length : Int)
    ·rw [if_pos c4] at H
     have c4b0 : decide (x5_1 < (l0.length : Int)) = true := decide_eq_true c4
     clear c4
     by_cases c5 : 0 ≤ x5_1
     ·rw [if_pos c5] at H
      have c5b0 : decide (0 ≤ x5_1) = true := decide_eq_true c5
      clear c5
      by_cases c6 : x5_1 < (l1.length : Int)
      ·rw [if_pos c6] at H
       have c6b0 : decide (x5_1 < (l1.length : Int)) = true := decide_eq_true c6
       clear c6
       replace H := Option.bind_eq_some_iff.mp H
       obtain ⟨t103, A70, H⟩ := H
       replace H : (if t103 = true then (laws_eqEditS.l0 k1 l0 l1 (wrap64 (x5_1 + 1))) else (some false)) = some r := H
       have A7 := Qz.mk A70
       clear A70
       by_cases c8 : t103 = true
       ·subst c8
        have H1 : (laws_eqEditS.l0 k1 l0 l1 (wrap64 (x5_1 + 1))) = some r := by rw [if_pos rfl] at H; exact H
        clear H
        have H := H1
        clear H1
        have H' := Qz.mk H
        clear H
        try go_wp2
        replace HB := Qz.mk (qe HB.out)
        have p101 : 0 ≤ (x5_1 : Int) := of_decide_eq_true yq115
        have q101 : x5_1 < (l0.length : Int) := of_decide_eq_true yq115
        obtain ⟨ad101, A101_0, c101_0, A101_1, c101_1, e101, hx101_0, hx101_1, hx101_2, hx101_3, hx101_4, hl101_0, hi101_0, hl101_1, hi101_1⟩ := at_T37 HR0.out x5_1 p101 q101
        have hw101_4 := hx101_4
        have hw101_3 := hx101_3
        have hw101_2 := hx101_2
        have hw101_1 := hx101_1
        have hw101_0 := hx101_0
        cases e101
        replace hx101_0 := (HB.out.cell (World.block_lt_of_cell? w _ hx101_0)).trans hx101_0
        replace hx101_1 := (HB.out.cell (World.block_lt_of_cell? w _ hx101_1)).trans hx101_1
        replace hx101_2 := (HB.out.cell (World.block_lt_of_cell? w _ hx101_2)).trans hx101_2
        replace hx101_3 := (HB.out.cell (World.block_lt_of_cell? w _ hx101_3)).trans hx101_3
        replace hx101_4 := (HB.out.cell (World.block_lt_of_cell? w _ hx101_4)).trans hx101_4
        have HR101_0 := Qz.mk hi101_0
        have HC101_0 := Qz.mk hl101_0
        clear hi101_0 hl101_0
        have HR101_1 := Qz.mk hi101_1
        have HC101_1 := Qz.mk hl101_1
        clear hi101_1 hl101_1
        replace p101 := eq_true p101
        replace q101 := eq_true q101
        have p102 : 0 ≤ (x5_1 : Int) := of_decide_eq_true yq115
        have q102 : x5_1 < (l1.length : Int) := of_decide_eq_true yq115
        obtain ⟨ad102, A102_0, c102_0, A102_1, c102_1, e102, hx102_0, hx102_1, hx102_2, hx102_3, hx102_4, hl102_0, hi102_0, hl102_1, hi102_1⟩ := at_T37 HR1.out x5_1 p102 q102
        have hw102_4 := hx102_4
        have hw102_3 := hx102_3
        have hw102_2 := hx102_2
        have hw102_1 := hx102_1
        have hw102_0 := hx102_0
        cases e102
        replace hx102_0 := (HB.out.cell (World.block_lt_of_cell? w _ hx102_0)).trans hx102_0
        replace hx102_1 := (HB.out.cell (World.block_lt_of_cell? w _ hx102_1)).trans hx102_1
        replace hx102_2 := (HB.out.cell (World.block_lt_of_cell? w _ hx102_2)).trans hx102_2
        replace hx102_3 := (HB.out.cell (World.block_lt_of_cell? w _ hx102_3)).trans hx102_3
        replace hx102_4 := (HB.out.cell (World.block_lt_of_cell? w _ hx102_4)).trans hx102_4
        have HR102_0 := Qz.mk hi102_0
        have HC102_0 := Qz.mk hl102_0
        clear hi102_0 hl102_0
        have HR102_1 := Qz.mk hi102_1
        have HC102_1 := Qz.mk hl102_1
        clear hi102_1 hl102_1
        replace p102 := eq_true p102
        replace q102 := eq_true q102
        refine start_ (n := 10) (S := fun w' => w'.cell? (ad101.add ((x5_1).toNat * 5)) = some (.slice A101_0 ((qq l0 x5_1).f0).length c101_0) ∧ w'.cell? ⟨(ad101.add ((x5_1).toNat * 5)).block, (ad101.add ((x5_1).toNat * 5)).off + 1, none⟩ = some (.slice A101_1 ((qq l0 x5_1).f1).length c101_1) ∧ w'.cell? ⟨(ad101.add ((x5_1).toNat * 5)).block, (ad101.add ((x5_1).toNat * 5)).off + 2, none⟩ = some (.int .i64 ((qq l0 x5_1).f2)) ∧ w'.cell? ⟨(ad101.add ((x5_1).toNat * 5)).block, (ad101.add ((x5_1).toNat * 5)).off + 3, none⟩ = some (.int .i64 ((qq l0 x5_1).f3)) ∧ w'.cell? ⟨(ad101.add ((x5_1).toNat * 5)).block, (ad101.add ((x5_1).toNat * 5)).off + 4, none⟩ = some (.int .i64 ((qq l0 x5_1).f4)) ∧ w'.cell? (ad102.add ((x5_1).toNat * 5)) = some (.slice A102_0 ((qq l1 x5_1).f0).length c102_0) ∧ w'.cell? ⟨(ad102.add ((x5_1).toNat * 5)).block, (ad102.add ((x5_1).toNat * 5)).off + 1, none⟩ = some (.slice A102_1 ((qq l1 x5_1).f1).length c102_1) ∧ w'.cell? ⟨(ad102.add ((x5_1).toNat * 5)).block, (ad102.add ((x5_1).toNat * 5)).off + 2, none⟩ = some (.int .i64 ((qq l1 x5_1).f2)) ∧ w'.cell? ⟨(ad102.add ((x5_1).toNat * 5)).block, (ad102.add ((x5_1).toNat * 5)).off + 3, none⟩ = some (.int .i64 ((qq l1 x5_1).f3)) ∧ w'.cell? ⟨(ad102.add ((x5_1).toNat * 5)).block, (ad102.add ((x5_1).toNat * 5)).off + 4, none⟩ = some (.int .i64 ((qq l1 x5_1).f4))) (ds := []) bq1 (by kernel_rfl) rfl rfl ⟨((HB.out.cell (World.block_lt_of_cell? w _ hw101_0)).trans hw101_0), ((HB.out.cell (World.block_lt_of_cell? w _ hw101_1)).trans hw101_1), ((HB.out.cell (World.block_lt_of_cell? w _ hw101_2)).trans hw101_2), ((HB.out.cell (World.block_lt_of_cell? w _ hw101_3)).trans hw101_3), ((HB.out.cell (World.block_lt_of_cell? w _ hw101_4)).trans hw101_4), ((HB.out.cell (World.block_lt_of_cell? w _ hw102_0)).trans hw102_0), ((HB.out.cell (World.block_lt_of_cell? w _ hw102_1)).trans hw102_1), ((HB.out.cell (World.block_lt_of_cell? w _ hw102_2)).trans hw102_2), ((HB.out.cell (World.block_lt_of_cell? w _ hw102_3)).trans hw102_3), ((HB.out.cell (World.block_lt_of_cell? w _ hw102_4)).trans hw102_4)⟩ (fun hHeld => ?_); refine with_tabW laws_eqEditS.tab6 laws_eqEditS.bits6 (fun HT_ HW_ => ?_)
        generalize wr.drew = w9 at HB HR101_0 HR101_1 HR102_0 HR102_1 hx101_0 hx101_1 hx101_2 hx101_3 hx101_4 hx102_0 hx102_1 hx102_2 hx102_3 hx102_4 hHeld ⊢
        refine pure_ (i := 0) (N := some 17) (v := ?_) (a' := ?_) bq6 rfl rfl (any_of HT_.out (by kernel_rfl)) (fun _ _ _ h => h) (Or.inl ⟨by rfl, ?_⟩) ?_ ?_
        rotate_left
        ·intro w'
         go_simp
         with_reducible rfl
        rotate_left
        ·simp only [Act.put, sq1, sq2, sq3, i64_w, i32_w]
         rfl
        refine pure_ (i := 1) (N := some 18) (v := ?_) (a' := ?_) bq8 rfl rfl (any_of HT_.out (by kernel_rfl)) (fun _ _ _ h => h) (Or.inl ⟨by rfl, ?_⟩) ?_ ?_
        rotate_left
        ·intro w'
         go_simp
         with_reducible rfl
        rotate_left
        ·simp only [Act.put, sq1, sq2, sq3, i64_w, i32_w]
         rfl
        refine pure_ (i := 2) (N := some 19) (v := ?_) (a' := ?_) bq10 rfl rfl (any_of HT_.out (by kernel_rfl)) (fun _ _ _ h => h) (Or.inl ⟨by rfl, ?_⟩) ?_ ?_
        rotate_left
        ·intro w'
         go_simp
         with_reducible rfl
        rotate_left
        ·simp only [Act.put, sq1, sq2, sq3, i64_w, i32_w]
         rfl
        refine pure_ (i := 4) (N := some 21) (v := ?_) (a' := ?_) bq12 rfl rfl (any_of HT_.out (by kernel_rfl)) (fun _ _ _ h => h) (Or.inl ⟨by rfl, ?_⟩) ?_ ?_
        rotate_left
        ·intro w'
         go_simp
         with_reducible rfl
        rotate_left
        ·simp only [Act.put, sq1, sq2, sq3, i64_w, i32_w]
         rfl
        refine pure_ (i := 5) (N := some 22) (v := ?_) (a' := ?_) bq13 rfl rfl (any_of HT_.out (by kernel_rfl)) (fun _ _ _ h => h) (Or.inl ⟨by rfl, ?_⟩) ?_ ?_
        rotate_left
        ·intro w'
         go_simp
         with_reducible rfl
        rotate_left
        ·simp only [Act.put, sq1, sq2, sq3, i64_w, i32_w]
         rfl
        refine pure_ (i := 6) (N := some 23) (v := ?_) (a' := ?_) bq14 rfl rfl (any_of HT_.out (by kernel_rfl)) (fun _ _ _ h => h) (Or.inl ⟨by rfl, ?_⟩) ?_ ?_
        rotate_left
        ·intro w'
         go_simp
         with_reducible rfl
        rotate_left
        ·simp only [Act.put, sq1, sq2, sq3, i64_w, i32_w]
         rfl
        refine take_ (i := 3) (N := some 20) (v := ?_) (a' := ?_) bq24 rfl rfl (take_ofW HT_.out HW_.out (by kernel_rfl)) (fun _ _ _ h => h) (Or.inl ⟨by rfl, ?_⟩) hHeld ?_ ?_
        rotate_left
        ·rintro w' ⟨s0, s1, s2, s3, s4, s5, s6, s7, s8, s9⟩
         go_simp
         with_reducible rfl
        rotate_left
        ·simp only [Act.put, sq1, sq2, sq3, i64_w, i32_w]
         rfl
        refine take_ (i := 7) (N := some 24) (v := ?_) (a' := ?_) bq28 rfl rfl (take_ofW HT_.out HW_.out (by kernel_rfl)) (fun _ _ _ h => h) (Or.inl ⟨by rfl, ?_⟩) hHeld ?_ ?_
        rotate_left
        ·rintro w' ⟨s0, s1, s2, s3, s4, s5, s6, s7, s8, s9⟩
         go_simp
         with_reducible rfl
        rotate_left
        ·simp only [Act.put, sq1, sq2, sq3, i64_w, i32_w]
         rfl
        refine one_ (i := 8) (N := some 25) bq31 rfl rfl (one_of HT_.out (by kernel_rfl)) (by decide) (fun K hK => ?_)
        refine goes_ Try.func22 (by kernel_rfl) rfl #[.agg #[.slice A101_0 ((qq l0 x5_1).f0).length c101_0, .slice A101_1 ((qq l0 x5_1).f1).length c101_1, .int .i64 ((qq l0 x5_1).f2), .int .i64 ((qq l0 x5_1).f3), .int .i64 ((qq l0 x5_1).f4)], .agg #[.slice A102_0 ((qq l1 x5_1).f0).length c102_0, .slice A102_1 ((qq l1 x5_1).f1).length c102_1, .int .i64 ((qq l1 x5_1).f2), .int .i64 ((qq l1 x5_1).f3), .int .i64 ((qq l1 x5_1).f4)]] (by rfl) rfl rfl (by (try simp only [List.map_toArray, List.map_cons, List.map_nil]); first | done | rfl | (simp only [List.length_drop, List.length_take]; rfl) | (rw [IntWalk.u64_in _ (by omega)] <;> rfl)) ?_
        with_reducible refine (laws_eqEdit.calls k1 _ _ ((qq l0 x5_1).f0) _ _ ((qq l0 x5_1).f1) ((qq l0 x5_1).f2) ((qq l0 x5_1).f3) ((qq l0 x5_1).f4) _ _ ((qq l1 x5_1).f0) _ _ ((qq l1 x5_1).f1) ((qq l1 x5_1).f2) ((qq l1 x5_1).f3) ((qq l1 x5_1).f4) true _ ?side1 ?side2 ?side3 ?side4 ?side5 ?side6 ?side7 ?side8 A7.out).mono ?_
        (case side1 => repeat (first | exact (Kd.C_below HR101_0.out HB.out) | (with_reducible refine Kd.C_alloc ?_ _) | (with_reducible refine Kd.C_drewN ?_ _) | (with_reducible refine Kd.C_drew ?_)))
        (case side2 => exact HC101_0.out)
        (case side3 => repeat (first | exact (Kd.C_below HR101_1.out HB.out) | (with_reducible refine Kd.C_alloc ?_ _) | (with_reducible refine Kd.C_drewN ?_ _) | (with_reducible refine Kd.C_drew ?_)))
        (case side4 => exact HC101_1.out)
        (case side5 => repeat (first | exact (Kd.C_below HR102_0.out HB.out) | (with_reducible refine Kd.C_alloc ?_ _) | (with_reducible refine Kd.C_drewN ?_ _) | (with_reducible refine Kd.C_drew ?_)))
        (case side6 => exact HC102_0.out)
        (case side7 => repeat (first | exact (Kd.C_below HR102_1.out HB.out) | (with_reducible refine Kd.C_alloc ?_ _) | (with_reducible refine Kd.C_drewN ?_ _) | (with_reducible refine Kd.C_drew ?_)))
        (case side8 => exact HC102_1.out)
        rintro e w10 ⟨rfl, hb⟩
        refine ⟨_, rfl, ?_⟩
        replace HB := Qz.mk (qk (by repeat (first | (with_reducible first | exact HB.out | apply qd | apply qb | apply qe) | exact HB.out)) hb)
        (try clear hb)
        refine hK.out _ _ ⟨((HB.out.cell (World.block_lt_of_cell? w _ hw101_0)).trans hw101_0), ((HB.out.cell (World.block_lt_of_cell? w _ hw101_1)).trans hw101_1), ((HB.out.cell (World.block_lt_of_cell? w _ hw101_2)).trans hw101_2), ((HB.out.cell (World.block_lt_of_cell? w _ hw101_3)).trans hw101_3), ((HB.out.cell (World.block_lt_of_cell? w _ hw101_4)).trans hw101_4), ((HB.out.cell (World.block_lt_of_cell? w _ hw102_0)).trans hw102_0), ((HB.out.cell (World.block_lt_of_cell? w _ hw102_1)).trans hw102_1), ((HB.out.cell (World.block_lt_of_cell? w _ hw102_2)).trans hw102_2), ((HB.out.cell (World.block_lt_of_cell? w _ hw102_3)).trans hw102_3), ((HB.out.cell (World.block_lt_of_cell? w _ hw102_4)).trans hw102_4)⟩ (fun hHeld => ?_)
        clear hK K
        refine norm_ (a' := ?_) ?_ ?_
        rotate_left
        ·show Act.put _ (some 25) _ = _
         simp only [Act.put, sq1, sq2, sq3, i64_w, i32_w]
         rfl
        refine pure_ (i := 9) (N := some 26) (v := ?_) (a' := ?_) bq35 rfl rfl (any_of HT_.out (by kernel_rfl)) (fun _ _ _ h => h) (Or.inl ⟨by rfl, ?_⟩) ?_ ?_
        rotate_left
        ·intro w'
         go_simp
         with_reducible rfl
        rotate_left
        ·simp only [Act.put, sq1, sq2, sq3, i64_w, i32_w]
         rfl
        refine done_ (done_of HT_.out (by kernel_rfl)) ?_
        try go_wp2
        go_roundg k1
        case measure => have := HK1.out; omega
        case rel => exact ⟨(wrap64 (x5_1 + 1)), (by first | rfl | (simp; done) | (simp [*]; done)), H', ⟨by have := HK1.out; omega⟩, ⟨by repeat (first | (with_reducible first | exact HB.out | apply qd | apply qb | apply qe) | exact HB.out)⟩⟩
       ·replace c8 := Bool.eq_false_iff.mpr c8
        subst c8
        have H1 : (some false) = some r := by rw [if_neg (show ¬ (false = true) by decide)] at H; exact H
        clear H
        have H := H1
        clear H1
        obtain rfl := Option.some.inj H
        try go_wp2
        replace HB := Qz.mk (qe HB.out)
        have p101 : 0 ≤ (x5_1 : Int) := of_decide_eq_true yq115
        have q101 : x5_1 < (l0.length : Int) := of_decide_eq_true yq115
        obtain ⟨ad101, A101_0, c101_0, A101_1, c101_1, e101, hx101_0, hx101_1, hx101_2, hx101_3, hx101_4, hl101_0, hi101_0, hl101_1, hi101_1⟩ := at_T37 HR0.out x5_1 p101 q101
        have hw101_4 := hx101_4
        have hw101_3 := hx101_3
        have hw101_2 := hx101_2
        have hw101_1 := hx101_1
        have hw101_0 := hx101_0
        cases e101
        replace hx101_0 := (HB.out.cell (World.block_lt_of_cell? w _ hx101_0)).trans hx101_0
        replace hx101_1 := (HB.out.cell (World.block_lt_of_cell? w _ hx101_1)).trans hx101_1
        replace hx101_2 := (HB.out.cell (World.block_lt_of_cell? w _ hx101_2)).trans hx101_2
        replace hx101_3 := (HB.out.cell (World.block_lt_of_cell? w _ hx101_3)).trans hx101_3
        replace hx101_4 := (HB.out.cell (World.block_lt_of_cell? w _ hx101_4)).trans hx101_4
        have HR101_0 := Qz.mk hi101_0
        have HC101_0 := Qz.mk hl101_0
        clear hi101_0 hl101_0
        have HR101_1 := Qz.mk hi101_1
        have HC101_1 := Qz.mk hl101_1
        clear hi101_1 hl101_1
        replace p101 := eq_true p101
        replace q101 := eq_true q101
        have p102 : 0 ≤ (x5_1 : Int) := of_decide_eq_true yq115
        have q102 : x5_1 < (l1.length : Int) := of_decide_eq_true yq115
        obtain ⟨ad102, A102_0, c102_0, A102_1, c102_1, e102, hx102_0, hx102_1, hx102_2, hx102_3, hx102_4, hl102_0, hi102_0, hl102_1, hi102_1⟩ := at_T37 HR1.out x5_1 p102 q102
        have hw102_4 := hx102_4
        have hw102_3 := hx102_3
        have hw102_2 := hx102_2
        have hw102_1 := hx102_1
        have hw102_0 := hx102_0
        cases e102
        replace hx102_0 := (HB.out.cell (World.block_lt_of_cell? w _ hx102_0)).trans hx102_0
        replace hx102_1 := (HB.out.cell (World.block_lt_of_cell? w _ hx102_1)).trans hx102_1
        replace hx102_2 := (HB.out.cell (World.block_lt_of_cell? w _ hx102_2)).trans hx102_2
        replace hx102_3 := (HB.out.cell (World.block_lt_of_cell? w _ hx102_3)).trans hx102_3
        replace hx102_4 := (HB.out.cell (World.block_lt_of_cell? w _ hx102_4)).trans hx102_4
        have HR102_0 := Qz.mk hi102_0
        have HC102_0 := Qz.mk hl102_0
        clear hi102_0 hl102_0
        have HR102_1 := Qz.mk hi102_1
        have HC102_1 := Qz.mk hl102_1
        clear hi102_1 hl102_1
        replace p102 := eq_true p102
        replace q102 := eq_true q102
        refine start_ (n := 10) (S := fun w' => w'.cell? (ad101.add ((x5_1).toNat * 5)) = some (.slice A101_0 ((qq l0 x5_1).f0).length c101_0) ∧ w'.cell? ⟨(ad101.add ((x5_1).toNat * 5)).block, (ad101.add ((x5_1).toNat * 5)).off + 1, none⟩ = some (.slice A101_1 ((qq l0 x5_1).f1).length c101_1) ∧ w'.cell? ⟨(ad101.add ((x5_1).toNat * 5)).block, (ad101.add ((x5_1).toNat * 5)).off + 2, none⟩ = some (.int .i64 ((qq l0 x5_1).f2)) ∧ w'.cell? ⟨(ad101.add ((x5_1).toNat * 5)).block, (ad101.add ((x5_1).toNat * 5)).off + 3, none⟩ = some (.int .i64 ((qq l0 x5_1).f3)) ∧ w'.cell? ⟨(ad101.add ((x5_1).toNat * 5)).block, (ad101.add ((x5_1).toNat * 5)).off + 4, none⟩ = some (.int .i64 ((qq l0 x5_1).f4)) ∧ w'.cell? (ad102.add ((x5_1).toNat * 5)) = some (.slice A102_0 ((qq l1 x5_1).f0).length c102_0) ∧ w'.cell? ⟨(ad102.add ((x5_1).toNat * 5)).block, (ad102.add ((x5_1).toNat * 5)).off + 1, none⟩ = some (.slice A102_1 ((qq l1 x5_1).f1).length c102_1) ∧ w'.cell? ⟨(ad102.add ((x5_1).toNat * 5)).block, (ad102.add ((x5_1).toNat * 5)).off + 2, none⟩ = some (.int .i64 ((qq l1 x5_1).f2)) ∧ w'.cell? ⟨(ad102.add ((x5_1).toNat * 5)).block, (ad102.add ((x5_1).toNat * 5)).off + 3, none⟩ = some (.int .i64 ((qq l1 x5_1).f3)) ∧ w'.cell? ⟨(ad102.add ((x5_1).toNat * 5)).block, (ad102.add ((x5_1).toNat * 5)).off + 4, none⟩ = some (.int .i64 ((qq l1 x5_1).f4))) (ds := []) bq1 (by kernel_rfl) rfl rfl ⟨((HB.out.cell (World.block_lt_of_cell? w _ hw101_0)).trans hw101_0), ((HB.out.cell (World.block_lt_of_cell? w _ hw101_1)).trans hw101_1), ((HB.out.cell (World.block_lt_of_cell? w _ hw101_2)).trans hw101_2), ((HB.out.cell (World.block_lt_of_cell? w _ hw101_3)).trans hw101_3), ((HB.out.cell (World.block_lt_of_cell? w _ hw101_4)).trans hw101_4), ((HB.out.cell (World.block_lt_of_cell? w _ hw102_0)).trans hw102_0), ((HB.out.cell (World.block_lt_of_cell? w _ hw102_1)).trans hw102_1), ((HB.out.cell (World.block_lt_of_cell? w _ hw102_2)).trans hw102_2), ((HB.out.cell (World.block_lt_of_cell? w _ hw102_3)).trans hw102_3), ((HB.out.cell (World.block_lt_of_cell? w _ hw102_4)).trans hw102_4)⟩ (fun hHeld => ?_); refine with_tabW laws_eqEditS.tab6 laws_eqEditS.bits6 (fun HT_ HW_ => ?_)
        generalize wr.drew = w11 at HB HR101_0 HR101_1 HR102_0 HR102_1 hx101_0 hx101_1 hx101_2 hx101_3 hx101_4 hx102_0 hx102_1 hx102_2 hx102_3 hx102_4 hHeld ⊢
        refine pure_ (i := 0) (N := some 17) (v := ?_) (a' := ?_) bq6 rfl rfl (any_of HT_.out (by kernel_rfl)) (fun _ _ _ h => h) (Or.inl ⟨by rfl, ?_⟩) ?_ ?_
        rotate_left
        ·intro w'
         go_simp
         with_reducible rfl
        rotate_left
        ·simp only [Act.put, sq1, sq2, sq3, i64_w, i32_w]
         rfl
        refine pure_ (i := 1) (N := some 18) (v := ?_) (a' := ?_) bq8 rfl rfl (any_of HT_.out (by kernel_rfl)) (fun _ _ _ h => h) (Or.inl ⟨by rfl, ?_⟩) ?_ ?_
        rotate_left
        ·intro w'
         go_simp
         with_reducible rfl
        rotate_left
        ·simp only [Act.put, sq1, sq2, sq3, i64_w, i32_w]
         rfl
        refine pure_ (i := 2) (N := some 19) (v := ?_) (a' := ?_) bq10 rfl rfl (any_of HT_.out (by kernel_rfl)) (fun _ _ _ h => h) (Or.inl ⟨by rfl, ?_⟩) ?_ ?_
        rotate_left
        ·intro w'
         go_simp
         with_reducible rfl
        rotate_left
        ·simp only [Act.put, sq1, sq2, sq3, i64_w, i32_w]
         rfl
        refine pure_ (i := 4) (N := some 21) (v := ?_) (a' := ?_) bq12 rfl rfl (any_of HT_.out (by kernel_rfl)) (fun _ _ _ h => h) (Or.inl ⟨by rfl, ?_⟩) ?_ ?_
        rotate_left
        ·intro w'
         go_simp
         with_reducible rfl
        rotate_left
        ·simp only [Act.put, sq1, sq2, sq3, i64_w, i32_w]
         rfl
        refine pure_ (i := 5) (N := some 22) (v := ?_) (a' := ?_) bq13 rfl rfl (any_of HT_.out (by kernel_rfl)) (fun _ _ _ h => h) (Or.inl ⟨by rfl, ?_⟩) ?_ ?_
        rotate_left
        ·intro w'
         go_simp
         with_reducible rfl
        rotate_left
        ·simp only [Act.put, sq1, sq2, sq3, i64_w, i32_w]
         rfl
        refine pure_ (i := 6) (N := some 23) (v := ?_) (a' := ?_) bq14 rfl rfl (any_of HT_.out (by kernel_rfl)) (fun _ _ _ h => h) (Or.inl ⟨by rfl, ?_⟩) ?_ ?_
        rotate_left
        ·intro w'
         go_simp
         with_reducible rfl
        rotate_left
        ·simp only [Act.put, sq1, sq2, sq3, i64_w, i32_w]
         rfl
        refine take_ (i := 3) (N := some 20) (v := ?_) (a' := ?_) bq24 rfl rfl (take_ofW HT_.out HW_.out (by kernel_rfl)) (fun _ _ _ h => h) (Or.inl ⟨by rfl, ?_⟩) hHeld ?_ ?_
        rotate_left
        ·rintro w' ⟨s0, s1, s2, s3, s4, s5, s6, s7, s8, s9⟩
         go_simp
         with_reducible rfl
        rotate_left
        ·simp only [Act.put, sq1, sq2, sq3, i64_w, i32_w]
         rfl
        refine take_ (i := 7) (N := some 24) (v := ?_) (a' := ?_) bq28 rfl rfl (take_ofW HT_.out HW_.out (by kernel_rfl)) (fun _ _ _ h => h) (Or.inl ⟨by rfl, ?_⟩) hHeld ?_ ?_
        rotate_left
        ·rintro w' ⟨s0, s1, s2, s3, s4, s5, s6, s7, s8, s9⟩
         go_simp
         with_reducible rfl
        rotate_left
        ·simp only [Act.put, sq1, sq2, sq3, i64_w, i32_w]
         rfl
        refine one_ (i := 8) (N := some 25) bq31 rfl rfl (one_of HT_.out (by kernel_rfl)) (by decide) (fun K hK => ?_)
        refine goes_ Try.func22 (by kernel_rfl) rfl #[.agg #[.slice A101_0 ((qq l0 x5_1).f0).length c101_0, .slice A101_1 ((qq l0 x5_1).f1).length c101_1, .int .i64 ((qq l0 x5_1).f2), .int .i64 ((qq l0 x5_1).f3), .int .i64 ((qq l0 x5_1).f4)], .agg #[.slice A102_0 ((qq l1 x5_1).f0).length c102_0, .slice A102_1 ((qq l1 x5_1).f1).length c102_1, .int .i64 ((qq l1 x5_1).f2), .int .i64 ((qq l1 x5_1).f3), .int .i64 ((qq l1 x5_1).f4)]] (by rfl) rfl rfl (by (try simp only [List.map_toArray, List.map_cons, List.map_nil]); first | done | rfl | (simp only [List.length_drop, List.length_take]; rfl) | (rw [IntWalk.u64_in _ (by omega)] <;> rfl)) ?_
        with_reducible refine (laws_eqEdit.calls k1 _ _ ((qq l0 x5_1).f0) _ _ ((qq l0 x5_1).f1) ((qq l0 x5_1).f2) ((qq l0 x5_1).f3) ((qq l0 x5_1).f4) _ _ ((qq l1 x5_1).f0) _ _ ((qq l1 x5_1).f1) ((qq l1 x5_1).f2) ((qq l1 x5_1).f3) ((qq l1 x5_1).f4) false _ ?side1 ?side2 ?side3 ?side4 ?side5 ?side6 ?side7 ?side8 A7.out).mono ?_
        (case side1 => repeat (first | exact (Kd.C_below HR101_0.out HB.out) | (with_reducible refine Kd.C_alloc ?_ _) | (with_reducible refine Kd.C_drewN ?_ _) | (with_reducible refine Kd.C_drew ?_)))
        (case side2 => exact HC101_0.out)
        (case side3 => repeat (first | exact (Kd.C_below HR101_1.out HB.out) | (with_reducible refine Kd.C_alloc ?_ _) | (with_reducible refine Kd.C_drewN ?_ _) | (with_reducible refine Kd.C_drew ?_)))
        (case side4 => exact HC101_1.out)
        (case side5 => repeat (first | exact (Kd.C_below HR102_0.out HB.out) | (with_reducible refine Kd.C_alloc ?_ _) | (with_reducible refine Kd.C_drewN ?_ _) | (with_reducible refine Kd.C_drew ?_)))
        (case side6 => exact HC102_0.out)
        (case side7 => repeat (first | exact (Kd.C_below HR102_1.out HB.out) | (with_reducible refine Kd.C_alloc ?_ _) | (with_reducible refine Kd.C_drewN ?_ _) | (with_reducible refine Kd.C_drew ?_)))
        (case side8 => exact HC102_1.out)
        rintro e w12 ⟨rfl, hb⟩
        refine ⟨_, rfl, ?_⟩
        replace HB := Qz.mk (qk (by repeat (first | (with_reducible first | exact HB.out | apply qd | apply qb | apply qe) | exact HB.out)) hb)
        (try clear hb)
        refine hK.out _ _ ⟨((HB.out.cell (World.block_lt_of_cell? w _ hw101_0)).trans hw101_0), ((HB.out.cell (World.block_lt_of_cell? w _ hw101_1)).trans hw101_1), ((HB.out.cell (World.block_lt_of_cell? w _ hw101_2)).trans hw101_2), ((HB.out.cell (World.block_lt_of_cell? w _ hw101_3)).trans hw101_3), ((HB.out.cell (World.block_lt_of_cell? w _ hw101_4)).trans hw101_4), ((HB.out.cell (World.block_lt_of_cell? w _ hw102_0)).trans hw102_0), ((HB.out.cell (World.block_lt_of_cell? w _ hw102_1)).trans hw102_1), ((HB.out.cell (World.block_lt_of_cell? w _ hw102_2)).trans hw102_2), ((HB.out.cell (World.block_lt_of_cell? w _ hw102_3)).trans hw102_3), ((HB.out.cell (World.block_lt_of_cell? w _ hw102_4)).trans hw102_4)⟩ (fun hHeld => ?_)
        clear hK K
        refine norm_ (a' := ?_) ?_ ?_
        rotate_left
        ·show Act.put _ (some 25) _ = _
         simp only [Act.put, sq1, sq2, sq3, i64_w, i32_w]
         rfl
        refine pure_ (i := 9) (N := some 26) (v := ?_) (a' := ?_) bq35 rfl rfl (any_of HT_.out (by kernel_rfl)) (fun _ _ _ h => h) (Or.inl ⟨by rfl, ?_⟩) ?_ ?_
        rotate_left
        ·intro w'
         go_simp
         with_reducible rfl
        rotate_left
        ·simp only [Act.put, sq1, sq2, sq3, i64_w, i32_w]
         rfl
        refine done_ (done_of HT_.out (by kernel_rfl)) ?_
        try go_wp2
        go_ret
        exact ⟨by first | rfl | (simp [qn, qm] <;> rfl) | (simp [*, qn, qm] <;> rfl), by repeat (first | (with_reducible first | exact HB.out | apply qd | apply qb | apply qe) | exact HB.out)⟩
      ·rw [if_neg c6] at H
       exact absurd H (by simp)
     ·rw [if_neg c5] at H
      exact absurd H (by simp)
    ·rw [if_neg c4] at H
     have c4b0 : decide (x5_1 < (l0.length : Int)) = false := decide_eq_false c4
     clear c4
     obtain rfl := Option.some.inj H
     go_wp2
     go_ret
     exact ⟨by first | rfl | (simp [qn, qm] <;> rfl) | (simp [*, qn, qm] <;> rfl), by repeat (first | (with_reducible first | exact HB.out | apply qd | apply qb | apply qe) | exact HB.out)⟩
 ·rw [if_neg c3] at H
  have c3b0 : ((l0.length : Int) == (l1.length : Int)) = false := beq_eq_false_iff_ne.mpr c3
  have c3b1 : ((l0.length : Int) != (l1.length : Int)) = true := bne_iff_ne.mpr c3
  have c3b2 : (l0.length == l1.length) = false := by first | simpa using c3 | (simp at c3 ⊢; omega)
  obtain rfl := Option.some.inj H
  go_enter Try.func32, Try.ntmps32
  go_wp2
  go_ret
  exact ⟨by first | rfl | (simp [qn, qm] <;> rfl) | (simp [*, qn, qm] <;> rfl), by repeat (first | (with_reducible first | exact HB.out | apply qd | apply qb | apply qe) | exact HB.out)⟩
end Go.Proofs.Ytcgejabkjljeeaa.P
end

section
namespace Go.Proofs.Ytcgejabkjljeeaa.P
open Go.RowKit Go.Proofs.YtcgejabkjljeeaaW.PrintWords Go.Proofs.YtcgejabkjljeeaaW.PrintLast Go.Proofs.YtcgejabkjljeeaaW.PrintMore
attribute [local go_sem] str_gtr str_leq str_geq qe1 qc1 max_two min_two qy qx qd1 qb1
set_option linter.unusedVariables false
set_option linter.unusedSimpArgs false
theorem R_made {α : Type} {d : Kd α} {e : Nat} {w' : World} {b lo base : Nat} {v : Value} {xs : List α} (h : d.R e w' b (fun _ => True) v xs) (h1 : lo ≤ b) (h2 : base ≤ b) : d.R e w' base (fun k_ => lo ≤ k_ ∧ k_ < w'.heap.size) v xs :=
 Kd.R_mono (Kd.R_lower (Kd.R_bound h) h2) (fun k_ hk => ⟨Nat.le_trans h1 hk.2.1, hk.2.2.1⟩)
theorem S_made {α : Type} {d : Kd α} {e : Nat} {w' : World} {b lo base : Nat} {v : Value} {xs : List α} (h : Kd.S d e w' b (fun _ => True) v xs) (h1 : lo ≤ b) (h2 : base ≤ b) : Kd.S d e w' base (fun k_ => lo ≤ k_ ∧ k_ < w'.heap.size) v xs :=
 Kd.S_mono (Kd.S_lower (Kd.S_bound h) h2) (fun k_ hk => ⟨Nat.le_trans h1 hk.2.1, hk.2.2.1⟩)
theorem box1 (w : World) (X : Obj) : Below w.heap.size w (w.alloc X) ∧ w.heap.size + 1 ≤ (w.alloc X).heap.size ∧ (w.alloc X).heap[w.heap.size]? = some X :=
 ⟨(Below.refl _ w).alloc (Nat.le_refl _) _, by simp, blk_new _ _⟩
end Go.Proofs.Ytcgejabkjljeeaa.P
end

section
namespace Go.Proofs.Ytcgejabkjljeeaa.P
open Go.RowKit Go.Proofs.YtcgejabkjljeeaaW.PrintWords Go.Proofs.YtcgejabkjljeeaaW.PrintLast Go.Proofs.YtcgejabkjljeeaaW.PrintMore
attribute [local go_sem] str_gtr str_leq str_geq qe1 qc1 max_two min_two qy qx qd1 qb1
set_option linter.unusedVariables false
set_option linter.unusedSimpArgs false
theorem yq116 {P : Prop} (h : P := by repeat (first | (with_reducible first | exact HB.out | apply qd | apply qb | apply qe) | exact HB.out)) : P := h
theorem yq117 {P : Prop} (h : P := by (with_reducible repeat (first | apply Kd.R_alloc | apply Kd.R_drewN | apply Kd.R_drew)); exact HW0_0.out) : P := h
theorem yq118 {P : Prop} (h : P := by (with_reducible repeat (first | apply Kd.R_alloc | apply Kd.R_drewN | apply Kd.R_drew)); exact HG0_0.out) : P := h
theorem yq119 {P : Prop} (h : P := by (with_reducible repeat (first | apply Kd.S_alloc | apply Kd.S_drewN | apply Kd.S_drew)); exact HX1_0.out) : P := h
theorem yq120 {P : Prop} (h : P := by (with_reducible repeat (first | apply Kd.R_alloc | apply Kd.R_drewN | apply Kd.R_drew)); exact HX0_0.out) : P := h
def laws_FnExactReplay.f (k : Nat) (l0_0 : List (S114)) (a0_1 : Int) (a0_2 : Int) (a0_3 : Int) (l1 : List (S27)) : Option Bool := (laws_szVersion.f k l0_0 a0_1 a0_2 a0_3 1048576).bind fun s0 => if s0 < 0 then some true else (laws_szEditS.f k l1 s0).bind fun s1 => if s1 < 0 then some true else (laws_toVersion.f k l0_0 a0_1 a0_2 a0_3).bind fun T0 => (laws_toEditS.f k l1).bind fun T1 => (spec_Replay.f k T0.1 T0.2.1 T0.2.2.1 T0.2.2.2 T1).bind fun b => (impl_Replay.f k T0.1 T0.2.1 T0.2.2.1 T0.2.2.2 T1).bind fun g => (laws_eqVersion.f k g.1 g.2.1 g.2.2.1 g.2.2.2.1 b.1 b.2.1 b.2.2.1 b.2.2.2.1).bind fun t0 => if t0 = true then (if g.2.2.2.2 = b.2.2.2.2 then ((laws_eqVersion.f k T0.1 T0.2.1 T0.2.2.1 T0.2.2.2 T0.1 T0.2.1 T0.2.2.1 T0.2.2.2).bind fun u0 => if u0 = true then ((laws_eqEditS.f k T1 T1).bind fun u1 => if u1 = true then ((laws_markVersion.f k T0.1 T0.2.1 T0.2.2.1 T0.2.2.2 1).bind fun m0 => (laws_markEditS.f k T1 m0.1).bind fun m1 => if 0 ≤ m1.1 then ((laws_markVersion.f k g.1 g.2.1 g.2.2.1 g.2.2.2.1 1).bind fun n0 => (laws_heldVersion.f k n0.2 g.2.1 g.2.2.1 g.2.2.2.1 1).bind fun q0 => if 0 ≤ q0 then (if q0 = n0.1 then (some true) else none) else none) else none) else none) else none) else none) else none
theorem iteL_FnExactReplay {c : Prop} [Decidable c] {a : Option Bool} {r : Bool} (h : (if c then a else none) = some r) : c ∧ a = some r := by
 by_cases hc : c
 ·rw [if_pos hc] at h; exact ⟨hc, h⟩
 ·rw [if_neg hc] at h; cases h
set_option maxHeartbeats 8000000 in
set_option maxRecDepth 100000 in
theorem laws_FnExactReplay.calls (k : Nat) (A0_0 : Option Addr) (c0_0 : Nat) (l0_0 : List (S114)) (a0_1 : Int) (a0_2 : Int) (a0_3 : Int) (A1 : Option Addr) (c1 : Nat) (l1 : List (S27)) (r : Bool) (w : World) (hr0_0 : Kd.C k114 w A0_0 l0_0.length l0_0) (hc0_0 : l0_0.length ≤ c0_0) (hr1 : Kd.C k27 w A1 l1.length l1) (hc1 : l1.length ≤ c1) (h : laws_FnExactReplay.f k l0_0 a0_1 a0_2 a0_3 l1 = some r) :
  Calls Try.prog 5 #[.agg #[.slice A0_0 l0_0.length c0_0, .int .i64 a0_1, .int .i64 a0_2, .int .i64 a0_3], .slice A1 l1.length c1] w fun e w' => e = .returned (.bool r) ∧ Below w.heap.size w w' := by
 have HR0_0 := Qz.mk hr0_0; have HC0_0 := Qz.mk hc0_0; clear hr0_0 hc0_0
 have HR1 := Qz.mk hr1; have HC1 := Qz.mk hc1; clear hr1 hc1
 have hu24 := Try.underlying24
 have hu32 := Try.underlying32
 have hu27 := Try.underlying27
 have hu37 := Try.underlying37
 have HB := Qz.mk (Below.refl w.heap.size w)
 unfold laws_FnExactReplay.f at h
 have H := h; clear h
 have H2 := Option.bind_eq_some_iff.mp H; clear H; obtain ⟨s0, A1_, H⟩ := H2
 have A1 := Qz.mk A1_; clear A1_
 by_cases z0 : s0 < 0
 ·rw [if_pos z0] at H
  obtain rfl := Option.some.inj H
  have z0b : decide (s0 < 0) = true := decide_eq_true z0
  go_enter Try.func5, Try.ntmps5
  go_wp2_with fail
  have h2_ := box1 w (.cells #[.slice A0_0 l0_0.length c0_0, .int .i64 a0_1, .int .i64 a0_2, .int .i64 a0_3] 24)
  generalize (w.alloc (.cells #[.slice A0_0 l0_0.length c0_0, .int .i64 a0_1, .int .i64 a0_2, .int .i64 a0_3] 24)) = w1 at h2_ ⊢
  have HB := Qz.mk h2_.1; have NB := Qz.mk h2_.2.1; have N1 := Qz.mk (show w.heap.size ≤ w1.heap.size from h2_.1.size)
  have BK0 := Qz.mk h2_.2.2
  clear h2_
  (with_reducible refine (laws_szVersion.calls k _ _ l0_0 a0_1 a0_2 a0_3 1048576 s0 _ ?side1 ?side2 A1.out).mono ?_)
  case side1 => repeat (first | exact (Kd.C_below HR0_0.out HB.out) | (with_reducible refine Kd.C_alloc ?_ _) | (with_reducible refine Kd.C_drewN ?_ _) | (with_reducible refine Kd.C_drew ?_))
  case side2 => exact HC0_0.out
  rintro e w2 ⟨rfl, hb⟩
  have N2 := Qz.mk (show w1.heap.size ≤ w2.heap.size from by first | exact hb.size | exact Nat.le_trans (by simp) hb.size)
  have n_ := Qz.mk (qo BK0.out hb); clear BK0; have BK0 := n_; clear n_
  have n_ := Qz.mk (qk yq116 hb); clear HB; have HB := n_; clear n_ hb
  have hz0_0 := (qa BK0.out 0).trans rfl
  have hz0_1 := (qa BK0.out 1).trans rfl
  have hz0_2 := (qa BK0.out 2).trans rfl
  have hz0_3 := (qa BK0.out 3).trans rfl
  go_wp2
  go_ret
  exact ⟨rfl, yq116⟩
 have z0b : decide (s0 < 0) = false := decide_eq_false z0
 rw [if_neg z0] at H; clear z0
 have H2 := Option.bind_eq_some_iff.mp H; clear H; obtain ⟨s1, A2_, H⟩ := H2
 have A2 := Qz.mk A2_; clear A2_
 by_cases z1 : s1 < 0
 ·rw [if_pos z1] at H
  obtain rfl := Option.some.inj H
  have z1b : decide (s1 < 0) = true := decide_eq_true z1
  go_enter Try.func5, Try.ntmps5
  go_wp2_with fail
  have h2_ := box1 w (.cells #[.slice A0_0 l0_0.length c0_0, .int .i64 a0_1, .int .i64 a0_2, .int .i64 a0_3] 24)
  generalize (w.alloc (.cells #[.slice A0_0 l0_0.length c0_0, .int .i64 a0_1, .int .i64 a0_2, .int .i64 a0_3] 24)) = w1 at h2_ ⊢
  have HB := Qz.mk h2_.1; have NB := Qz.mk h2_.2.1; have N1 := Qz.mk (show w.heap.size ≤ w1.heap.size from h2_.1.size)
  have BK0 := Qz.mk h2_.2.2
  clear h2_
  (with_reducible refine (laws_szVersion.calls k _ _ l0_0 a0_1 a0_2 a0_3 1048576 s0 _ ?side1 ?side2 A1.out).mono ?_)
  case side1 => repeat (first | exact (Kd.C_below HR0_0.out HB.out) | (with_reducible refine Kd.C_alloc ?_ _) | (with_reducible refine Kd.C_drewN ?_ _) | (with_reducible refine Kd.C_drew ?_))
  case side2 => exact HC0_0.out
  rintro e w2 ⟨rfl, hb⟩
  have N2 := Qz.mk (show w1.heap.size ≤ w2.heap.size from by first | exact hb.size | exact Nat.le_trans (by simp) hb.size)
  have n_ := Qz.mk (qo BK0.out hb); clear BK0; have BK0 := n_; clear n_
  have n_ := Qz.mk (qk yq116 hb); clear HB; have HB := n_; clear n_ hb
  have hz0_0 := (qa BK0.out 0).trans rfl
  have hz0_1 := (qa BK0.out 1).trans rfl
  have hz0_2 := (qa BK0.out 2).trans rfl
  have hz0_3 := (qa BK0.out 3).trans rfl
  go_wp2_with fail
  (with_reducible refine (laws_szEditS.calls k _ _ l1 s0 s1 _ ?side1 ?side2 A2.out).mono ?_)
  case side1 => repeat (first | exact (Kd.C_below HR1.out HB.out) | (with_reducible refine Kd.C_alloc ?_ _) | (with_reducible refine Kd.C_drewN ?_ _) | (with_reducible refine Kd.C_drew ?_))
  case side2 => exact HC1.out
  rintro e w3 ⟨rfl, hb⟩
  have N3 := Qz.mk (show w2.heap.size ≤ w3.heap.size from by first | exact hb.size | exact Nat.le_trans (by simp) hb.size)
  have n_ := Qz.mk (qo BK0.out hb); clear BK0; have BK0 := n_; clear n_
  have n_ := Qz.mk (qk yq116 hb); clear HB; have HB := n_; clear n_ hb
  try clear hz0_0 hz0_1 hz0_2 hz0_3
  try clear hy0_0
  try clear hy0_1
  try clear hy0_2
  try clear hy0_3
  have hz0_0 := (qa BK0.out 0).trans rfl
  have hz0_1 := (qa BK0.out 1).trans rfl
  have hz0_2 := (qa BK0.out 2).trans rfl
  have hz0_3 := (qa BK0.out 3).trans rfl
  go_wp2
  go_ret
  exact ⟨rfl, yq116⟩
 have z1b : decide (s1 < 0) = false := decide_eq_false z1
 rw [if_neg z1] at H; clear z1
 have H2 := Option.bind_eq_some_iff.mp H; clear H; obtain ⟨⟨T0_0, T0_1, T0_2, T0_3⟩, A3_, H⟩ := H2
 have A3 := Qz.mk A3_; clear A3_
 have H2 := Option.bind_eq_some_iff.mp H; clear H; obtain ⟨T1_0, A4_, H⟩ := H2
 have A4 := Qz.mk A4_; clear A4_
 have H2 := Option.bind_eq_some_iff.mp H; clear H; obtain ⟨⟨b_0, b_1, b_2, b_3, b_4⟩, A5_, H⟩ := H2
 have A5 := Qz.mk A5_; clear A5_
 have H2 := Option.bind_eq_some_iff.mp H; clear H; obtain ⟨⟨g_0, g_1, g_2, g_3, g_4⟩, A6_, H⟩ := H2
 have A6 := Qz.mk A6_; clear A6_
 have H2 := Option.bind_eq_some_iff.mp H; clear H; obtain ⟨t0, A7_, H⟩ := H2
 have A7 := Qz.mk A7_; clear A7_
 have H2 := iteL_FnExactReplay H; clear H; obtain ⟨e_, H⟩ := H2
 subst e_
 have H2 := iteL_FnExactReplay H; clear H; obtain ⟨e_, H⟩ := H2
 replace e_ : g_4 = b_4 := e_
 subst e_
 have H2 := Option.bind_eq_some_iff.mp H; clear H; obtain ⟨u0, A8_, H⟩ := H2
 have A8 := Qz.mk A8_; clear A8_
 have H2 := iteL_FnExactReplay H; clear H; obtain ⟨e_, H⟩ := H2
 subst e_
 have H2 := Option.bind_eq_some_iff.mp H; clear H; obtain ⟨u1, A9_, H⟩ := H2
 have A9 := Qz.mk A9_; clear A9_
 have H2 := iteL_FnExactReplay H; clear H; obtain ⟨e_, H⟩ := H2
 subst e_
 have H2 := Option.bind_eq_some_iff.mp H; clear H; obtain ⟨⟨m0, M0_0⟩, A10_, H⟩ := H2
 have A10 := Qz.mk A10_; clear A10_
 have H2 := Option.bind_eq_some_iff.mp H; clear H; obtain ⟨⟨m1, M1_0⟩, A11_, H⟩ := H2
 have A11 := Qz.mk A11_; clear A11_
 have H2 := iteL_FnExactReplay H; clear H; obtain ⟨zm, H⟩ := H2
 replace zm : 0 ≤ m1 := zm
 have zmb : decide (m1 < 0) = false := decide_eq_false (by omega)
 clear zm
 have H2 := Option.bind_eq_some_iff.mp H; clear H; obtain ⟨⟨n0, N0_0⟩, A12_, H⟩ := H2
 have A12 := Qz.mk A12_; clear A12_
 have H2 := Option.bind_eq_some_iff.mp H; clear H; obtain ⟨q0, A13_, H⟩ := H2
 have A13 := Qz.mk A13_; clear A13_
 have H2 := iteL_FnExactReplay H; clear H; obtain ⟨zq, H⟩ := H2
 have zq0 : decide (q0 < 0) = false := decide_eq_false (by omega)
 clear zq
 have H2 := iteL_FnExactReplay H; clear H; obtain ⟨e_, H⟩ := H2
 replace e_ : q0 = n0 := e_
 subst e_
 obtain rfl := Option.some.inj H
 go_enter Try.func5, Try.ntmps5
 go_wp2_with fail
 have h2_ := box1 w (.cells #[.slice A0_0 l0_0.length c0_0, .int .i64 a0_1, .int .i64 a0_2, .int .i64 a0_3] 24)
 generalize (w.alloc (.cells #[.slice A0_0 l0_0.length c0_0, .int .i64 a0_1, .int .i64 a0_2, .int .i64 a0_3] 24)) = w1 at h2_ ⊢
 have HB := Qz.mk h2_.1; have NB := Qz.mk h2_.2.1; have N1 := Qz.mk (show w.heap.size ≤ w1.heap.size from h2_.1.size)
 have BK0 := Qz.mk h2_.2.2
 clear h2_
 (with_reducible refine (laws_szVersion.calls k _ _ l0_0 a0_1 a0_2 a0_3 1048576 s0 _ ?side1 ?side2 A1.out).mono ?_)
 case side1 => repeat (first | exact (Kd.C_below HR0_0.out HB.out) | (with_reducible refine Kd.C_alloc ?_ _) | (with_reducible refine Kd.C_drewN ?_ _) | (with_reducible refine Kd.C_drew ?_))
 case side2 => exact HC0_0.out
 rintro e w2 ⟨rfl, hb⟩
 have N2 := Qz.mk (show w1.heap.size ≤ w2.heap.size from by first | exact hb.size | exact Nat.le_trans (by simp) hb.size)
 have n_ := Qz.mk (qo BK0.out hb); clear BK0; have BK0 := n_; clear n_
 have n_ := Qz.mk (qk yq116 hb); clear HB; have HB := n_; clear n_ hb
 have hz0_0 := (qa BK0.out 0).trans rfl
 have hz0_1 := (qa BK0.out 1).trans rfl
 have hz0_2 := (qa BK0.out 2).trans rfl
 have hz0_3 := (qa BK0.out 3).trans rfl
 go_wp2_with fail
 (with_reducible refine (laws_szEditS.calls k _ _ l1 s0 s1 _ ?side1 ?side2 A2.out).mono ?_)
 case side1 => repeat (first | exact (Kd.C_below HR1.out HB.out) | (with_reducible refine Kd.C_alloc ?_ _) | (with_reducible refine Kd.C_drewN ?_ _) | (with_reducible refine Kd.C_drew ?_))
 case side2 => exact HC1.out
 rintro e w3 ⟨rfl, hb⟩
 have N3 := Qz.mk (show w2.heap.size ≤ w3.heap.size from by first | exact hb.size | exact Nat.le_trans (by simp) hb.size)
 have n_ := Qz.mk (qo BK0.out hb); clear BK0; have BK0 := n_; clear n_
 have n_ := Qz.mk (qk yq116 hb); clear HB; have HB := n_; clear n_ hb
 try clear hz0_0 hz0_1 hz0_2 hz0_3
 try clear hy0_0
 try clear hy0_1
 try clear hy0_2
 try clear hy0_3
 have hz0_0 := (qa BK0.out 0).trans rfl
 have hz0_1 := (qa BK0.out 1).trans rfl
 have hz0_2 := (qa BK0.out 2).trans rfl
 have hz0_3 := (qa BK0.out 3).trans rfl
 go_wp2_with fail
 (with_reducible refine (laws_toVersion.calls k _ _ l0_0 a0_1 a0_2 a0_3 T0_0 T0_1 T0_2 T0_3 _ ?side1 ?side2 A3.out).mono ?_)
 case side1 => repeat (first | exact (Kd.C_below HR0_0.out HB.out) | (with_reducible refine Kd.C_alloc ?_ _) | (with_reducible refine Kd.C_drewN ?_ _) | (with_reducible refine Kd.C_drew ?_))
 case side2 => exact HC0_0.out
 rintro e w4 ⟨v0_, rfl, ho0, hb⟩
 have N4 := Qz.mk (show w3.heap.size ≤ w4.heap.size from by first | exact hb.size | exact Nat.le_trans (by simp) hb.size)
 have HY0_0 := Qz.mk (R_made ho0 (lo := w3.heap.size) (by first | exact Nat.le_refl _ | simp) (qp yq116))
 have n_ := Qz.mk (qo BK0.out hb); clear BK0; have BK0 := n_; clear n_
 have n_ := Qz.mk (qk yq116 hb); clear HB; have HB := n_; clear n_ hb ho0
 obtain ⟨AY0_0, cY0_0, eY0_0⟩ := Kd.R_slice HY0_0.out; subst eY0_0
 try clear hz0_0 hz0_1 hz0_2 hz0_3
 try clear hy0_0
 try clear hy0_1
 try clear hy0_2
 try clear hy0_3
 have hz0_0 := (qa BK0.out 0).trans rfl
 have hz0_1 := (qa BK0.out 1).trans rfl
 have hz0_2 := (qa BK0.out 2).trans rfl
 have hz0_3 := (qa BK0.out 3).trans rfl
 go_wp2_with fail
 (with_reducible refine (laws_toEditS.calls k _ _ l1 T1_0 _ ?side1 ?side2 A4.out).mono ?_)
 case side1 => repeat (first | exact (Kd.C_below HR1.out HB.out) | (with_reducible refine Kd.C_alloc ?_ _) | (with_reducible refine Kd.C_drewN ?_ _) | (with_reducible refine Kd.C_drew ?_))
 case side2 => exact HC1.out
 rintro e w5 ⟨v0_, rfl, ho0, hb⟩
 have N5 := Qz.mk (show w4.heap.size ≤ w5.heap.size from by first | exact hb.size | exact Nat.le_trans (by simp) hb.size)
 have n_ := Qz.mk (Kd.R_below (by (with_reducible repeat (first | apply Kd.R_alloc | apply Kd.R_drewN | apply Kd.R_drew)); exact HY0_0.out) hb); clear HY0_0; have HY0_0 := n_; clear n_
 have HY1_0 := Qz.mk (S_made ho0 (lo := w4.heap.size) (by first | exact Nat.le_refl _ | simp) (qp yq116))
 have n_ := Qz.mk (qo BK0.out hb); clear BK0; have BK0 := n_; clear n_
 have n_ := Qz.mk (qk yq116 hb); clear HB; have HB := n_; clear n_ hb ho0
 obtain ⟨AY1_0, cY1_0, eY1_0⟩ := Kd.S_slice HY1_0.out; subst eY1_0
 try clear hz0_0 hz0_1 hz0_2 hz0_3
 try clear hy0_0
 try clear hy0_1
 try clear hy0_2
 try clear hy0_3
 have hz0_0 := (qa BK0.out 0).trans rfl
 have hz0_1 := (qa BK0.out 1).trans rfl
 have hz0_2 := (qa BK0.out 2).trans rfl
 have hz0_3 := (qa BK0.out 3).trans rfl
 go_wp2_with fail
 (with_reducible refine (spec_Replay.calls k _ _ T0_0 T0_1 T0_2 T0_3 _ _ T1_0 b_0 b_1 b_2 b_3 g_4 _ ?side1 ?side2 ?side3 ?side4 A5.out).mono ?_)
 case side1 => repeat (first | exact (Kd.R_reads' HY0_0.out).2.2 | (with_reducible refine Kd.C_alloc ?_ _) | (with_reducible refine Kd.C_drewN ?_ _) | (with_reducible refine Kd.C_drew ?_))
 case side2 => exact (Kd.R_reads' HY0_0.out).2.1
 case side3 => repeat (first | exact (Kd.S_reads' HY1_0.out).2.2 | (with_reducible refine Kd.C_alloc ?_ _) | (with_reducible refine Kd.C_drewN ?_ _) | (with_reducible refine Kd.C_drew ?_))
 case side4 => exact (Kd.S_reads' HY1_0.out).2.1
 rintro e w6 ⟨v0_, rfl, ho0, hb⟩
 have N6 := Qz.mk (show w5.heap.size ≤ w6.heap.size from by first | exact hb.size | exact Nat.le_trans (by simp) hb.size)
 have n_ := Qz.mk (Kd.R_below (by (with_reducible repeat (first | apply Kd.R_alloc | apply Kd.R_drewN | apply Kd.R_drew)); exact HY0_0.out) hb); clear HY0_0; have HY0_0 := n_; clear n_
 have n_ := Qz.mk (Kd.S_below (by (with_reducible repeat (first | apply Kd.S_alloc | apply Kd.S_drewN | apply Kd.S_drew)); exact HY1_0.out) hb); clear HY1_0; have HY1_0 := n_; clear n_
 have HW0_0 := Qz.mk (R_made ho0 (lo := w5.heap.size) (by first | exact Nat.le_refl _ | simp) (qp yq116))
 have n_ := Qz.mk (qo BK0.out hb); clear BK0; have BK0 := n_; clear n_
 have n_ := Qz.mk (qk yq116 hb); clear HB; have HB := n_; clear n_ hb ho0
 obtain ⟨AW0_0, cW0_0, eW0_0⟩ := Kd.R_slice HW0_0.out; subst eW0_0
 try clear hz0_0 hz0_1 hz0_2 hz0_3
 try clear hy0_0
 try clear hy0_1
 try clear hy0_2
 try clear hy0_3
 have hz0_0 := (qa BK0.out 0).trans rfl
 have hz0_1 := (qa BK0.out 1).trans rfl
 have hz0_2 := (qa BK0.out 2).trans rfl
 have hz0_3 := (qa BK0.out 3).trans rfl
 have hy0_0 := fun o => (qa (qf BK0.out o) 0).trans rfl
 have hy0_1 := fun o => (qa (qf BK0.out o) 1).trans rfl
 have hy0_2 := fun o => (qa (qf BK0.out o) 2).trans rfl
 have hy0_3 := fun o => (qa (qf BK0.out o) 3).trans rfl
 clear HY0_0
 clear HY1_0
 go_wp2_with fail
 have BK1 := Qz.mk (blk_new w6 (.cells #[.slice AW0_0 b_0.length cW0_0, .int .i64 b_1, .int .i64 b_2, .int .i64 b_3] 32))
 have n_ := Qz.mk (qf BK0.out (.cells #[.slice AW0_0 b_0.length cW0_0, .int .i64 b_1, .int .i64 b_2, .int .i64 b_3] 32)); clear BK0; have BK0 := n_; clear n_
 have n_ := Qz.mk (Kd.R_alloc HW0_0.out (.cells #[.slice AW0_0 b_0.length cW0_0, .int .i64 b_1, .int .i64 b_2, .int .i64 b_3] 32)); clear HW0_0; have HW0_0 := n_; clear n_
 have n_ := Qz.mk (qd HB.out (.cells #[.slice AW0_0 b_0.length cW0_0, .int .i64 b_1, .int .i64 b_2, .int .i64 b_3] 32)); clear HB; have HB := n_; clear n_
 have N7 := Qz.mk (show w6.heap.size < (w6.alloc (.cells #[.slice AW0_0 b_0.length cW0_0, .int .i64 b_1, .int .i64 b_2, .int .i64 b_3] 32)).heap.size from by simp)
 clear hz0_0 hy0_0 hz0_1 hy0_1 hz0_2 hy0_2 hz0_3 hy0_3
 generalize w6.alloc (.cells #[.slice AW0_0 b_0.length cW0_0, .int .i64 b_1, .int .i64 b_2, .int .i64 b_3] 32) = w7 at BK1 BK0 HW0_0 HB N7 ⊢
 (with_reducible refine (laws_toVersion.calls k _ _ l0_0 a0_1 a0_2 a0_3 T0_0 T0_1 T0_2 T0_3 _ ?side1 ?side2 A3.out).mono ?_)
 case side1 => repeat (first | exact (Kd.C_below HR0_0.out HB.out) | (with_reducible refine Kd.C_alloc ?_ _) | (with_reducible refine Kd.C_drewN ?_ _) | (with_reducible refine Kd.C_drew ?_))
 case side2 => exact HC0_0.out
 rintro e w8 ⟨v0_, rfl, ho0, hb⟩
 have N8 := Qz.mk (show w7.heap.size ≤ w8.heap.size from by first | exact hb.size | exact Nat.le_trans (by simp) hb.size)
 have n_ := Qz.mk (Kd.R_below yq117 hb); clear HW0_0; have HW0_0 := n_; clear n_
 have HX0_0 := Qz.mk (R_made ho0 (lo := w7.heap.size) (by first | exact Nat.le_refl _ | simp) (qp yq116))
 have n_ := Qz.mk (qo BK0.out hb); clear BK0; have BK0 := n_; clear n_
 have n_ := Qz.mk (qo BK1.out hb); clear BK1; have BK1 := n_; clear n_
 have n_ := Qz.mk (qk yq116 hb); clear HB; have HB := n_; clear n_ hb ho0
 obtain ⟨AX0_0, cX0_0, eX0_0⟩ := Kd.R_slice HX0_0.out; subst eX0_0
 have hz0_0 := (qa BK0.out 0).trans rfl
 have hz0_1 := (qa BK0.out 1).trans rfl
 have hz0_2 := (qa BK0.out 2).trans rfl
 have hz0_3 := (qa BK0.out 3).trans rfl
 have hz1_0 := (qa BK1.out 0).trans rfl
 have hz1_1 := (qa BK1.out 1).trans rfl
 have hz1_2 := (qa BK1.out 2).trans rfl
 have hz1_3 := (qa BK1.out 3).trans rfl
 have hy0_0 := fun o => (qa (qf BK0.out o) 0).trans rfl
 have hy0_1 := fun o => (qa (qf BK0.out o) 1).trans rfl
 have hy0_2 := fun o => (qa (qf BK0.out o) 2).trans rfl
 have hy0_3 := fun o => (qa (qf BK0.out o) 3).trans rfl
 have hy1_0 := fun o => (qa (qf BK1.out o) 0).trans rfl
 have hy1_1 := fun o => (qa (qf BK1.out o) 1).trans rfl
 have hy1_2 := fun o => (qa (qf BK1.out o) 2).trans rfl
 have hy1_3 := fun o => (qa (qf BK1.out o) 3).trans rfl
 go_wp2_with fail
 have BK2 := Qz.mk (blk_new w8 (.cells #[.slice AX0_0 T0_0.length cX0_0, .int .i64 T0_1, .int .i64 T0_2, .int .i64 T0_3] 32))
 have n_ := Qz.mk (qf BK0.out (.cells #[.slice AX0_0 T0_0.length cX0_0, .int .i64 T0_1, .int .i64 T0_2, .int .i64 T0_3] 32)); clear BK0; have BK0 := n_; clear n_
 have n_ := Qz.mk (qf BK1.out (.cells #[.slice AX0_0 T0_0.length cX0_0, .int .i64 T0_1, .int .i64 T0_2, .int .i64 T0_3] 32)); clear BK1; have BK1 := n_; clear n_
 have n_ := Qz.mk (Kd.R_alloc HW0_0.out (.cells #[.slice AX0_0 T0_0.length cX0_0, .int .i64 T0_1, .int .i64 T0_2, .int .i64 T0_3] 32)); clear HW0_0; have HW0_0 := n_; clear n_
 have n_ := Qz.mk (Kd.R_alloc HX0_0.out (.cells #[.slice AX0_0 T0_0.length cX0_0, .int .i64 T0_1, .int .i64 T0_2, .int .i64 T0_3] 32)); clear HX0_0; have HX0_0 := n_; clear n_
 have n_ := Qz.mk (qd HB.out (.cells #[.slice AX0_0 T0_0.length cX0_0, .int .i64 T0_1, .int .i64 T0_2, .int .i64 T0_3] 32)); clear HB; have HB := n_; clear n_
 have N9 := Qz.mk (show w8.heap.size < (w8.alloc (.cells #[.slice AX0_0 T0_0.length cX0_0, .int .i64 T0_1, .int .i64 T0_2, .int .i64 T0_3] 32)).heap.size from by simp)
 clear hz0_0 hy0_0 hz0_1 hy0_1 hz0_2 hy0_2 hz0_3 hy0_3 hz1_0 hy1_0 hz1_1 hy1_1 hz1_2 hy1_2 hz1_3 hy1_3
 generalize w8.alloc (.cells #[.slice AX0_0 T0_0.length cX0_0, .int .i64 T0_1, .int .i64 T0_2, .int .i64 T0_3] 32) = w9 at BK2 BK0 BK1 HW0_0 HX0_0 HB N9 ⊢
 (with_reducible refine (laws_toEditS.calls k _ _ l1 T1_0 _ ?side1 ?side2 A4.out).mono ?_)
 case side1 => repeat (first | exact (Kd.C_below HR1.out HB.out) | (with_reducible refine Kd.C_alloc ?_ _) | (with_reducible refine Kd.C_drewN ?_ _) | (with_reducible refine Kd.C_drew ?_))
 case side2 => exact HC1.out
 rintro e w10 ⟨v0_, rfl, ho0, hb⟩
 have N10 := Qz.mk (show w9.heap.size ≤ w10.heap.size from by first | exact hb.size | exact Nat.le_trans (by simp) hb.size)
 have n_ := Qz.mk (Kd.R_below yq117 hb); clear HW0_0; have HW0_0 := n_; clear n_
 have n_ := Qz.mk (Kd.R_below yq120 hb); clear HX0_0; have HX0_0 := n_; clear n_
 have HX1_0 := Qz.mk (S_made ho0 (lo := w9.heap.size) (by first | exact Nat.le_refl _ | simp) (qp yq116))
 have n_ := Qz.mk (qo BK0.out hb); clear BK0; have BK0 := n_; clear n_
 have n_ := Qz.mk (qo BK1.out hb); clear BK1; have BK1 := n_; clear n_
 have n_ := Qz.mk (qo BK2.out hb); clear BK2; have BK2 := n_; clear n_
 have n_ := Qz.mk (qk yq116 hb); clear HB; have HB := n_; clear n_ hb ho0
 obtain ⟨AX1_0, cX1_0, eX1_0⟩ := Kd.S_slice HX1_0.out; subst eX1_0
 have hz0_0 := (qa BK0.out 0).trans rfl
 have hz0_1 := (qa BK0.out 1).trans rfl
 have hz0_2 := (qa BK0.out 2).trans rfl
 have hz0_3 := (qa BK0.out 3).trans rfl
 have hz1_0 := (qa BK1.out 0).trans rfl
 have hz1_1 := (qa BK1.out 1).trans rfl
 have hz1_2 := (qa BK1.out 2).trans rfl
 have hz1_3 := (qa BK1.out 3).trans rfl
 have hz2_0 := (qa BK2.out 0).trans rfl
 have hz2_1 := (qa BK2.out 1).trans rfl
 have hz2_2 := (qa BK2.out 2).trans rfl
 have hz2_3 := (qa BK2.out 3).trans rfl
 go_wp2_with fail
 (with_reducible refine (impl_Replay.calls k _ _ T0_0 T0_1 T0_2 T0_3 _ _ T1_0 g_0 g_1 g_2 g_3 g_4 _ ?side1 ?side2 ?side3 ?side4 A6.out).mono ?_)
 case side1 => repeat (first | exact (Kd.R_reads' HX0_0.out).2.2 | (with_reducible refine Kd.C_alloc ?_ _) | (with_reducible refine Kd.C_drewN ?_ _) | (with_reducible refine Kd.C_drew ?_))
 case side2 => exact (Kd.R_reads' HX0_0.out).2.1
 case side3 => repeat (first | exact (Kd.S_reads' HX1_0.out).2.2 | (with_reducible refine Kd.C_alloc ?_ _) | (with_reducible refine Kd.C_drewN ?_ _) | (with_reducible refine Kd.C_drew ?_))
 case side4 => exact (Kd.S_reads' HX1_0.out).2.1
 rintro e w11 ⟨v0_, rfl, ho0, hb⟩
 have N11 := Qz.mk (show w10.heap.size ≤ w11.heap.size from by first | exact hb.size | exact Nat.le_trans (by simp) hb.size)
 have n_ := Qz.mk (Kd.R_below yq117 hb); clear HW0_0; have HW0_0 := n_; clear n_
 have n_ := Qz.mk (Kd.R_below yq120 hb); clear HX0_0; have HX0_0 := n_; clear n_
 have n_ := Qz.mk (Kd.S_below yq119 hb); clear HX1_0; have HX1_0 := n_; clear n_
 have HG0_0 := Qz.mk (R_made ho0 (lo := w10.heap.size) (by first | exact Nat.le_refl _ | simp) (qp yq116))
 have n_ := Qz.mk (qo BK0.out hb); clear BK0; have BK0 := n_; clear n_
 have n_ := Qz.mk (qo BK1.out hb); clear BK1; have BK1 := n_; clear n_
 have n_ := Qz.mk (qo BK2.out hb); clear BK2; have BK2 := n_; clear n_
 have n_ := Qz.mk (qk yq116 hb); clear HB; have HB := n_; clear n_ hb ho0
 obtain ⟨AG0_0, cG0_0, eG0_0⟩ := Kd.R_slice HG0_0.out; subst eG0_0
 try clear hz0_0 hz0_1 hz0_2 hz0_3 hz1_0 hz1_1 hz1_2 hz1_3 hz2_0 hz2_1 hz2_2 hz2_3
 try clear hy0_0
 try clear hy0_1
 try clear hy0_2
 try clear hy0_3
 try clear hy1_0
 try clear hy1_1
 try clear hy1_2
 try clear hy1_3
 try clear hy2_0
 try clear hy2_1
 try clear hy2_2
 try clear hy2_3
 have hz0_0 := (qa BK0.out 0).trans rfl
 have hz0_1 := (qa BK0.out 1).trans rfl
 have hz0_2 := (qa BK0.out 2).trans rfl
 have hz0_3 := (qa BK0.out 3).trans rfl
 have hz1_0 := (qa BK1.out 0).trans rfl
 have hz1_1 := (qa BK1.out 1).trans rfl
 have hz1_2 := (qa BK1.out 2).trans rfl
 have hz1_3 := (qa BK1.out 3).trans rfl
 have hz2_0 := (qa BK2.out 0).trans rfl
 have hz2_1 := (qa BK2.out 1).trans rfl
 have hz2_2 := (qa BK2.out 2).trans rfl
 have hz2_3 := (qa BK2.out 3).trans rfl
 have hy0_0 := fun o => (qa (qf BK0.out o) 0).trans rfl
 have hy0_1 := fun o => (qa (qf BK0.out o) 1).trans rfl
 have hy0_2 := fun o => (qa (qf BK0.out o) 2).trans rfl
 have hy0_3 := fun o => (qa (qf BK0.out o) 3).trans rfl
 have hy1_0 := fun o => (qa (qf BK1.out o) 0).trans rfl
 have hy1_1 := fun o => (qa (qf BK1.out o) 1).trans rfl
 have hy1_2 := fun o => (qa (qf BK1.out o) 2).trans rfl
 have hy1_3 := fun o => (qa (qf BK1.out o) 3).trans rfl
 have hy2_0 := fun o => (qa (qf BK2.out o) 0).trans rfl
 have hy2_1 := fun o => (qa (qf BK2.out o) 1).trans rfl
 have hy2_2 := fun o => (qa (qf BK2.out o) 2).trans rfl
 have hy2_3 := fun o => (qa (qf BK2.out o) 3).trans rfl
 go_wp2_with fail
 have BK3 := Qz.mk (blk_new w11 (.cells #[.slice AG0_0 g_0.length cG0_0, .int .i64 g_1, .int .i64 g_2, .int .i64 g_3] 32))
 have n_ := Qz.mk (qf BK0.out (.cells #[.slice AG0_0 g_0.length cG0_0, .int .i64 g_1, .int .i64 g_2, .int .i64 g_3] 32)); clear BK0; have BK0 := n_; clear n_
 have n_ := Qz.mk (qf BK1.out (.cells #[.slice AG0_0 g_0.length cG0_0, .int .i64 g_1, .int .i64 g_2, .int .i64 g_3] 32)); clear BK1; have BK1 := n_; clear n_
 have n_ := Qz.mk (qf BK2.out (.cells #[.slice AG0_0 g_0.length cG0_0, .int .i64 g_1, .int .i64 g_2, .int .i64 g_3] 32)); clear BK2; have BK2 := n_; clear n_
 have n_ := Qz.mk (Kd.R_alloc HW0_0.out (.cells #[.slice AG0_0 g_0.length cG0_0, .int .i64 g_1, .int .i64 g_2, .int .i64 g_3] 32)); clear HW0_0; have HW0_0 := n_; clear n_
 have n_ := Qz.mk (Kd.R_alloc HX0_0.out (.cells #[.slice AG0_0 g_0.length cG0_0, .int .i64 g_1, .int .i64 g_2, .int .i64 g_3] 32)); clear HX0_0; have HX0_0 := n_; clear n_
 have n_ := Qz.mk (Kd.S_alloc HX1_0.out (.cells #[.slice AG0_0 g_0.length cG0_0, .int .i64 g_1, .int .i64 g_2, .int .i64 g_3] 32)); clear HX1_0; have HX1_0 := n_; clear n_
 have n_ := Qz.mk (Kd.R_alloc HG0_0.out (.cells #[.slice AG0_0 g_0.length cG0_0, .int .i64 g_1, .int .i64 g_2, .int .i64 g_3] 32)); clear HG0_0; have HG0_0 := n_; clear n_
 have n_ := Qz.mk (qd HB.out (.cells #[.slice AG0_0 g_0.length cG0_0, .int .i64 g_1, .int .i64 g_2, .int .i64 g_3] 32)); clear HB; have HB := n_; clear n_
 have N12 := Qz.mk (show w11.heap.size < (w11.alloc (.cells #[.slice AG0_0 g_0.length cG0_0, .int .i64 g_1, .int .i64 g_2, .int .i64 g_3] 32)).heap.size from by simp)
 clear hz0_0 hy0_0 hz0_1 hy0_1 hz0_2 hy0_2 hz0_3 hy0_3 hz1_0 hy1_0 hz1_1 hy1_1 hz1_2 hy1_2 hz1_3 hy1_3 hz2_0 hy2_0 hz2_1 hy2_1 hz2_2 hy2_2 hz2_3 hy2_3
 generalize w11.alloc (.cells #[.slice AG0_0 g_0.length cG0_0, .int .i64 g_1, .int .i64 g_2, .int .i64 g_3] 32) = w12 at BK3 BK0 BK1 BK2 HW0_0 HX0_0 HX1_0 HG0_0 HB N12 ⊢
 (with_reducible refine (laws_eqVersion.calls k _ _ g_0 g_1 g_2 g_3 _ _ b_0 b_1 b_2 b_3 true _ ?side1 ?side2 ?side3 ?side4 A7.out).mono ?_)
 case side1 => repeat (first | exact (Kd.R_reads' HG0_0.out).2.2 | (with_reducible refine Kd.C_alloc ?_ _) | (with_reducible refine Kd.C_drewN ?_ _) | (with_reducible refine Kd.C_drew ?_))
 case side2 => exact (Kd.R_reads' HG0_0.out).2.1
 case side3 => repeat (first | exact (Kd.R_reads' HW0_0.out).2.2 | (with_reducible refine Kd.C_alloc ?_ _) | (with_reducible refine Kd.C_drewN ?_ _) | (with_reducible refine Kd.C_drew ?_))
 case side4 => exact (Kd.R_reads' HW0_0.out).2.1
 rintro e w13 ⟨rfl, hb⟩
 have N13 := Qz.mk (show w12.heap.size ≤ w13.heap.size from by first | exact hb.size | exact Nat.le_trans (by simp) hb.size)
 have n_ := Qz.mk (Kd.R_below yq117 hb); clear HW0_0; have HW0_0 := n_; clear n_
 have n_ := Qz.mk (Kd.R_below yq120 hb); clear HX0_0; have HX0_0 := n_; clear n_
 have n_ := Qz.mk (Kd.S_below yq119 hb); clear HX1_0; have HX1_0 := n_; clear n_
 have n_ := Qz.mk (Kd.R_below yq118 hb); clear HG0_0; have HG0_0 := n_; clear n_
 have n_ := Qz.mk (qo BK0.out hb); clear BK0; have BK0 := n_; clear n_
 have n_ := Qz.mk (qo BK1.out hb); clear BK1; have BK1 := n_; clear n_
 have n_ := Qz.mk (qo BK2.out hb); clear BK2; have BK2 := n_; clear n_
 have n_ := Qz.mk (qo BK3.out hb); clear BK3; have BK3 := n_; clear n_
 have n_ := Qz.mk (qk yq116 hb); clear HB; have HB := n_; clear n_ hb
 have hz0_0 := (qa BK0.out 0).trans rfl
 have hz0_1 := (qa BK0.out 1).trans rfl
 have hz0_2 := (qa BK0.out 2).trans rfl
 have hz0_3 := (qa BK0.out 3).trans rfl
 have hz1_0 := (qa BK1.out 0).trans rfl
 have hz1_1 := (qa BK1.out 1).trans rfl
 have hz1_2 := (qa BK1.out 2).trans rfl
 have hz1_3 := (qa BK1.out 3).trans rfl
 have hz2_0 := (qa BK2.out 0).trans rfl
 have hz2_1 := (qa BK2.out 1).trans rfl
 have hz2_2 := (qa BK2.out 2).trans rfl
 have hz2_3 := (qa BK2.out 3).trans rfl
 have hz3_0 := (qa BK3.out 0).trans rfl
 have hz3_1 := (qa BK3.out 1).trans rfl
 have hz3_2 := (qa BK3.out 2).trans rfl
 have hz3_3 := (qa BK3.out 3).trans rfl
 go_wp2_with fail
 go_region_with (first | (go_at_call 18; (with_reducible refine (laws_toVersion.calls k _ _ l0_0 a0_1 a0_2 a0_3 T0_0 T0_1 T0_2 T0_3 _ ?side1 ?side2 A3.out).mono ?_); (case side1 => repeat (first | exact (Kd.C_below HR0_0.out HB.out) | (with_reducible refine Kd.C_alloc ?_ _) | (with_reducible refine Kd.C_drewN ?_ _) | (with_reducible refine Kd.C_drew ?_))); (case side2 => exact HC0_0.out); rintro e w14 ⟨v0_, rfl, ho0, hb⟩; have N14 := Qz.mk (show w13.heap.size ≤ w14.heap.size from by first | exact hb.size | exact Nat.le_trans (by simp) hb.size); have n_ := Qz.mk (Kd.R_below yq117 hb); clear HW0_0; have HW0_0 := n_; clear n_; have n_ := Qz.mk (Kd.R_below yq120 hb); clear HX0_0; have HX0_0 := n_; clear n_; have n_ := Qz.mk (Kd.S_below yq119 hb); clear HX1_0; have HX1_0 := n_; clear n_; have n_ := Qz.mk (Kd.R_below yq118 hb); clear HG0_0; have HG0_0 := n_; clear n_; have HZ0_0 := Qz.mk (R_made ho0 (lo := w13.heap.size) (by first | exact Nat.le_refl _ | simp) (qp yq116)); have n_ := Qz.mk (qo (g := w.heap.size) (o := .cells #[.slice A0_0 l0_0.length c0_0, .int .i64 a0_1, .int .i64 a0_2, .int .i64 a0_3] 24 (0, 0)) (by (with_reducible repeat (first | refine qg ?_ _ | refine qh ?_ | refine qf ?_ _)); exact BK0.out) hb); clear BK0; have BK0 := n_; clear n_; have n_ := Qz.mk (qo (g := w6.heap.size) (o := .cells #[.slice AW0_0 b_0.length cW0_0, .int .i64 b_1, .int .i64 b_2, .int .i64 b_3] 32 (0, 0)) (by (with_reducible repeat (first | refine qg ?_ _ | refine qh ?_ | refine qf ?_ _)); exact BK1.out) hb); clear BK1; have BK1 := n_; clear n_; have n_ := Qz.mk (qo (g := w8.heap.size) (o := .cells #[.slice AX0_0 T0_0.length cX0_0, .int .i64 T0_1, .int .i64 T0_2, .int .i64 T0_3] 32 (0, 0)) (by (with_reducible repeat (first | refine qg ?_ _ | refine qh ?_ | refine qf ?_ _)); exact BK2.out) hb); clear BK2; have BK2 := n_; clear n_; have n_ := Qz.mk (qo (g := w11.heap.size) (o := .cells #[.slice AG0_0 g_0.length cG0_0, .int .i64 g_1, .int .i64 g_2, .int .i64 g_3] 32 (0, 0)) (by (with_reducible repeat (first | refine qg ?_ _ | refine qh ?_ | refine qf ?_ _)); exact BK3.out) hb); clear BK3; have BK3 := n_; clear n_; have n_ := Qz.mk (qk yq116 hb); clear HB; have HB := n_; clear n_ hb ho0; obtain ⟨AZ0_0, cZ0_0, eZ0_0⟩ := Kd.R_slice HZ0_0.out; subst eZ0_0; (try clear hz0_0 hz0_1 hz0_2 hz0_3 hz1_0 hz1_1 hz1_2 hz1_3 hz2_0 hz2_1 hz2_2 hz2_3 hz3_0 hz3_1 hz3_2 hz3_3); (try clear hy0_0); (try clear hy0_1); (try clear hy0_2); (try clear hy0_3); (try clear hy1_0); (try clear hy1_1); (try clear hy1_2); (try clear hy1_3); (try clear hy2_0); (try clear hy2_1); (try clear hy2_2); (try clear hy2_3); (try clear hy3_0); (try clear hy3_1); (try clear hy3_2); (try clear hy3_3); have hz0_0 := (qa BK0.out 0).trans rfl; have hz0_1 := (qa BK0.out 1).trans rfl; have hz0_2 := (qa BK0.out 2).trans rfl; have hz0_3 := (qa BK0.out 3).trans rfl; have hz1_0 := (qa BK1.out 0).trans rfl; have hz1_1 := (qa BK1.out 1).trans rfl; have hz1_2 := (qa BK1.out 2).trans rfl; have hz1_3 := (qa BK1.out 3).trans rfl; have hz2_0 := (qa BK2.out 0).trans rfl; have hz2_1 := (qa BK2.out 1).trans rfl; have hz2_2 := (qa BK2.out 2).trans rfl; have hz2_3 := (qa BK2.out 3).trans rfl; have hz3_0 := (qa BK3.out 0).trans rfl; have hz3_1 := (qa BK3.out 1).trans rfl; have hz3_2 := (qa BK3.out 2).trans rfl; have hz3_3 := (qa BK3.out 3).trans rfl) | (go_at_call 21; (with_reducible refine (laws_eqVersion.calls k _ _ T0_0 T0_1 T0_2 T0_3 _ _ T0_0 T0_1 T0_2 T0_3 true _ ?side1 ?side2 ?side3 ?side4 A8.out).mono ?_); (case side1 => repeat (first | exact (Kd.R_reads' HX0_0.out).2.2 | (with_reducible refine Kd.C_alloc ?_ _) | (with_reducible refine Kd.C_drewN ?_ _) | (with_reducible refine Kd.C_drew ?_))); (case side2 => exact (Kd.R_reads' HX0_0.out).2.1); (case side3 => repeat (first | exact (Kd.R_reads' HZ0_0.out).2.2 | (with_reducible refine Kd.C_alloc ?_ _) | (with_reducible refine Kd.C_drewN ?_ _) | (with_reducible refine Kd.C_drew ?_))); (case side4 => exact (Kd.R_reads' HZ0_0.out).2.1); rintro e w15 ⟨rfl, hb⟩; have N15 := Qz.mk (show w14.heap.size ≤ w15.heap.size from by first | exact hb.size | exact Nat.le_trans (by simp) hb.size); have n_ := Qz.mk (Kd.R_below yq117 hb); clear HW0_0; have HW0_0 := n_; clear n_; have n_ := Qz.mk (Kd.R_below yq120 hb); clear HX0_0; have HX0_0 := n_; clear n_; have n_ := Qz.mk (Kd.S_below yq119 hb); clear HX1_0; have HX1_0 := n_; clear n_; have n_ := Qz.mk (Kd.R_below yq118 hb); clear HG0_0; have HG0_0 := n_; clear n_; have n_ := Qz.mk (Kd.R_below (by (with_reducible repeat (first | apply Kd.R_alloc | apply Kd.R_drewN | apply Kd.R_drew)); exact HZ0_0.out) hb); clear HZ0_0; have HZ0_0 := n_; clear n_; have n_ := Qz.mk (qo (g := w.heap.size) (o := .cells #[.slice A0_0 l0_0.length c0_0, .int .i64 a0_1, .int .i64 a0_2, .int .i64 a0_3] 24 (0, 0)) (by (with_reducible repeat (first | refine qg ?_ _ | refine qh ?_ | refine qf ?_ _)); exact BK0.out) hb); clear BK0; have BK0 := n_; clear n_; have n_ := Qz.mk (qo (g := w6.heap.size) (o := .cells #[.slice AW0_0 b_0.length cW0_0, .int .i64 b_1, .int .i64 b_2, .int .i64 b_3] 32 (0, 0)) (by (with_reducible repeat (first | refine qg ?_ _ | refine qh ?_ | refine qf ?_ _)); exact BK1.out) hb); clear BK1; have BK1 := n_; clear n_; have n_ := Qz.mk (qo (g := w8.heap.size) (o := .cells #[.slice AX0_0 T0_0.length cX0_0, .int .i64 T0_1, .int .i64 T0_2, .int .i64 T0_3] 32 (0, 0)) (by (with_reducible repeat (first | refine qg ?_ _ | refine qh ?_ | refine qf ?_ _)); exact BK2.out) hb); clear BK2; have BK2 := n_; clear n_; have n_ := Qz.mk (qo (g := w11.heap.size) (o := .cells #[.slice AG0_0 g_0.length cG0_0, .int .i64 g_1, .int .i64 g_2, .int .i64 g_3] 32 (0, 0)) (by (with_reducible repeat (first | refine qg ?_ _ | refine qh ?_ | refine qf ?_ _)); exact BK3.out) hb); clear BK3; have BK3 := n_; clear n_; have n_ := Qz.mk (qk yq116 hb); clear HB; have HB := n_; clear n_ hb; (try clear hz0_0 hz0_1 hz0_2 hz0_3 hz1_0 hz1_1 hz1_2 hz1_3 hz2_0 hz2_1 hz2_2 hz2_3 hz3_0 hz3_1 hz3_2 hz3_3); (try clear hy0_0); (try clear hy0_1); (try clear hy0_2); (try clear hy0_3); (try clear hy1_0); (try clear hy1_1); (try clear hy1_2); (try clear hy1_3); (try clear hy2_0); (try clear hy2_1); (try clear hy2_2); (try clear hy2_3); (try clear hy3_0); (try clear hy3_1); (try clear hy3_2); (try clear hy3_3); have hz0_0 := (qa BK0.out 0).trans rfl; have hz0_1 := (qa BK0.out 1).trans rfl; have hz0_2 := (qa BK0.out 2).trans rfl; have hz0_3 := (qa BK0.out 3).trans rfl; have hz1_0 := (qa BK1.out 0).trans rfl; have hz1_1 := (qa BK1.out 1).trans rfl; have hz1_2 := (qa BK1.out 2).trans rfl; have hz1_3 := (qa BK1.out 3).trans rfl; have hz2_0 := (qa BK2.out 0).trans rfl; have hz2_1 := (qa BK2.out 1).trans rfl; have hz2_2 := (qa BK2.out 2).trans rfl; have hz2_3 := (qa BK2.out 3).trans rfl; have hz3_0 := (qa BK3.out 0).trans rfl; have hz3_1 := (qa BK3.out 1).trans rfl; have hz3_2 := (qa BK3.out 2).trans rfl; have hz3_3 := (qa BK3.out 3).trans rfl))
 all_goals
  clear HZ0_0
  go_wp2_with fail
  (with_reducible refine (laws_toEditS.calls k _ _ l1 T1_0 _ ?side1 ?side2 A4.out).mono ?_)
  case side1 => repeat (first | exact (Kd.C_below HR1.out HB.out) | (with_reducible refine Kd.C_alloc ?_ _) | (with_reducible refine Kd.C_drewN ?_ _) | (with_reducible refine Kd.C_drew ?_))
  case side2 => exact HC1.out
  rintro e w16 ⟨v0_, rfl, ho0, hb⟩
  have N16 := Qz.mk (show w15.heap.size ≤ w16.heap.size from by first | exact hb.size | exact Nat.le_trans (by simp) hb.size)
  have n_ := Qz.mk (Kd.R_below yq117 hb); clear HW0_0; have HW0_0 := n_; clear n_
  have n_ := Qz.mk (Kd.R_below yq120 hb); clear HX0_0; have HX0_0 := n_; clear n_
  have n_ := Qz.mk (Kd.S_below yq119 hb); clear HX1_0; have HX1_0 := n_; clear n_
  have n_ := Qz.mk (Kd.R_below yq118 hb); clear HG0_0; have HG0_0 := n_; clear n_
  have HZ1_0 := Qz.mk (S_made ho0 (lo := w15.heap.size) (by first | exact Nat.le_refl _ | simp) (qp yq116))
  have n_ := Qz.mk (qo BK0.out hb); clear BK0; have BK0 := n_; clear n_
  have n_ := Qz.mk (qo BK1.out hb); clear BK1; have BK1 := n_; clear n_
  have n_ := Qz.mk (qo BK2.out hb); clear BK2; have BK2 := n_; clear n_
  have n_ := Qz.mk (qo BK3.out hb); clear BK3; have BK3 := n_; clear n_
  have n_ := Qz.mk (qk yq116 hb); clear HB; have HB := n_; clear n_ hb ho0
  obtain ⟨AZ1_0, cZ1_0, eZ1_0⟩ := Kd.S_slice HZ1_0.out; subst eZ1_0
  try clear hz0_0 hz0_1 hz0_2 hz0_3 hz1_0 hz1_1 hz1_2 hz1_3 hz2_0 hz2_1 hz2_2 hz2_3 hz3_0 hz3_1 hz3_2 hz3_3
  try clear hy0_0
  try clear hy0_1
  try clear hy0_2
  try clear hy0_3
  try clear hy1_0
  try clear hy1_1
  try clear hy1_2
  try clear hy1_3
  try clear hy2_0
  try clear hy2_1
  try clear hy2_2
  try clear hy2_3
  try clear hy3_0
  try clear hy3_1
  try clear hy3_2
  try clear hy3_3
  have hz0_0 := (qa BK0.out 0).trans rfl
  have hz0_1 := (qa BK0.out 1).trans rfl
  have hz0_2 := (qa BK0.out 2).trans rfl
  have hz0_3 := (qa BK0.out 3).trans rfl
  have hz1_0 := (qa BK1.out 0).trans rfl
  have hz1_1 := (qa BK1.out 1).trans rfl
  have hz1_2 := (qa BK1.out 2).trans rfl
  have hz1_3 := (qa BK1.out 3).trans rfl
  have hz2_0 := (qa BK2.out 0).trans rfl
  have hz2_1 := (qa BK2.out 1).trans rfl
  have hz2_2 := (qa BK2.out 2).trans rfl
  have hz2_3 := (qa BK2.out 3).trans rfl
  have hz3_0 := (qa BK3.out 0).trans rfl
  have hz3_1 := (qa BK3.out 1).trans rfl
  have hz3_2 := (qa BK3.out 2).trans rfl
  have hz3_3 := (qa BK3.out 3).trans rfl
  go_wp2_with fail
  (with_reducible refine (laws_eqEditS.calls k _ _ T1_0 _ _ T1_0 true _ ?side1 ?side2 ?side3 ?side4 A9.out).mono ?_)
  case side1 => repeat (first | exact (Kd.S_reads' HX1_0.out).2.2 | (with_reducible refine Kd.C_alloc ?_ _) | (with_reducible refine Kd.C_drewN ?_ _) | (with_reducible refine Kd.C_drew ?_))
  case side2 => exact (Kd.S_reads' HX1_0.out).2.1
  case side3 => repeat (first | exact (Kd.S_reads' HZ1_0.out).2.2 | (with_reducible refine Kd.C_alloc ?_ _) | (with_reducible refine Kd.C_drewN ?_ _) | (with_reducible refine Kd.C_drew ?_))
  case side4 => exact (Kd.S_reads' HZ1_0.out).2.1
  rintro e w17 ⟨rfl, hb⟩
  have N17 := Qz.mk (show w16.heap.size ≤ w17.heap.size from by first | exact hb.size | exact Nat.le_trans (by simp) hb.size)
  have n_ := Qz.mk (Kd.R_below yq117 hb); clear HW0_0; have HW0_0 := n_; clear n_
  have n_ := Qz.mk (Kd.R_below yq120 hb); clear HX0_0; have HX0_0 := n_; clear n_
  have n_ := Qz.mk (Kd.S_below yq119 hb); clear HX1_0; have HX1_0 := n_; clear n_
  have n_ := Qz.mk (Kd.R_below yq118 hb); clear HG0_0; have HG0_0 := n_; clear n_
  have n_ := Qz.mk (Kd.S_below (by (with_reducible repeat (first | apply Kd.S_alloc | apply Kd.S_drewN | apply Kd.S_drew)); exact HZ1_0.out) hb); clear HZ1_0; have HZ1_0 := n_; clear n_
  have n_ := Qz.mk (qo BK0.out hb); clear BK0; have BK0 := n_; clear n_
  have n_ := Qz.mk (qo BK1.out hb); clear BK1; have BK1 := n_; clear n_
  have n_ := Qz.mk (qo BK2.out hb); clear BK2; have BK2 := n_; clear n_
  have n_ := Qz.mk (qo BK3.out hb); clear BK3; have BK3 := n_; clear n_
  have n_ := Qz.mk (qk yq116 hb); clear HB; have HB := n_; clear n_ hb
  try clear hz0_0 hz0_1 hz0_2 hz0_3 hz1_0 hz1_1 hz1_2 hz1_3 hz2_0 hz2_1 hz2_2 hz2_3 hz3_0 hz3_1 hz3_2 hz3_3
  try clear hy0_0
  try clear hy0_1
  try clear hy0_2
  try clear hy0_3
  try clear hy1_0
  try clear hy1_1
  try clear hy1_2
  try clear hy1_3
  try clear hy2_0
  try clear hy2_1
  try clear hy2_2
  try clear hy2_3
  try clear hy3_0
  try clear hy3_1
  try clear hy3_2
  try clear hy3_3
  have hz0_0 := (qa BK0.out 0).trans rfl
  have hz0_1 := (qa BK0.out 1).trans rfl
  have hz0_2 := (qa BK0.out 2).trans rfl
  have hz0_3 := (qa BK0.out 3).trans rfl
  have hz1_0 := (qa BK1.out 0).trans rfl
  have hz1_1 := (qa BK1.out 1).trans rfl
  have hz1_2 := (qa BK1.out 2).trans rfl
  have hz1_3 := (qa BK1.out 3).trans rfl
  have hz2_0 := (qa BK2.out 0).trans rfl
  have hz2_1 := (qa BK2.out 1).trans rfl
  have hz2_2 := (qa BK2.out 2).trans rfl
  have hz2_3 := (qa BK2.out 3).trans rfl
  have hz3_0 := (qa BK3.out 0).trans rfl
  have hz3_1 := (qa BK3.out 1).trans rfl
  have hz3_2 := (qa BK3.out 2).trans rfl
  have hz3_3 := (qa BK3.out 3).trans rfl
  clear HZ1_0
  go_wp2_with fail
  (with_reducible refine (laws_markVersion.calls k (fun k_ => w7.heap.size ≤ k_ ∧ k_ < w8.heap.size) _ T0_0 T0_1 T0_2 T0_3 1 m0 M0_0 w _ ?side1 ?side2 A10.out).mono ?_)
  case side1 => exact yq116
  case side2 => exact yq120
  rintro e w18 ⟨rfl, hR0, hB2, hK2⟩
  have N18 := Qz.mk (show w17.heap.size ≤ w18.heap.size from hK2.1)
  have n_ := Qz.mk (Kd.R_kept yq117 hK2 (fun k_ h1_ h2_ => by have := N1.out; have := N2.out; have := N3.out; have := N4.out; have := N5.out; have := N6.out; have := N7.out; have := N8.out; have := N9.out; have := N10.out; have := N11.out; have := N12.out; have := N13.out; have := N14.out; have := N15.out; have := N16.out; have := N17.out; have := N18.out; omega)); clear HW0_0; have HW0_0 := n_; clear n_
  have n_ := Qz.mk (Kd.S_kept yq119 hK2 (fun k_ h1_ h2_ => by have := N1.out; have := N2.out; have := N3.out; have := N4.out; have := N5.out; have := N6.out; have := N7.out; have := N8.out; have := N9.out; have := N10.out; have := N11.out; have := N12.out; have := N13.out; have := N14.out; have := N15.out; have := N16.out; have := N17.out; have := N18.out; omega)); clear HX1_0; have HX1_0 := n_; clear n_
  have n_ := Qz.mk (Kd.R_kept yq118 hK2 (fun k_ h1_ h2_ => by have := N1.out; have := N2.out; have := N3.out; have := N4.out; have := N5.out; have := N6.out; have := N7.out; have := N8.out; have := N9.out; have := N10.out; have := N11.out; have := N12.out; have := N13.out; have := N14.out; have := N15.out; have := N16.out; have := N17.out; have := N18.out; omega)); clear HG0_0; have HG0_0 := n_; clear n_
  clear HX0_0; have HX0_0 := Qz.mk hR0
  obtain ⟨A_, c_, e_⟩ := Kd.R_slice HX0_0.out; injection e_ with e1_ e2_ e3_; clear e1_ e3_; have LX0_0 := Qz.mk e2_; clear e2_
  have n_ := Qz.mk (blk_kept BK0.out hK2 (fun h1_ => by have := NB.out; have := N1.out; have := N2.out; have := N3.out; have := N4.out; have := N5.out; have := N6.out; have := N7.out; have := N8.out; have := N9.out; have := N10.out; have := N11.out; have := N12.out; have := N13.out; have := N14.out; have := N15.out; have := N16.out; have := N17.out; have := N18.out; omega)); clear BK0; have BK0 := n_; clear n_
  have n_ := Qz.mk (blk_kept BK1.out hK2 (fun h1_ => by have := NB.out; have := N1.out; have := N2.out; have := N3.out; have := N4.out; have := N5.out; have := N6.out; have := N7.out; have := N8.out; have := N9.out; have := N10.out; have := N11.out; have := N12.out; have := N13.out; have := N14.out; have := N15.out; have := N16.out; have := N17.out; have := N18.out; omega)); clear BK1; have BK1 := n_; clear n_
  have n_ := Qz.mk (blk_kept BK2.out hK2 (fun h1_ => by have := NB.out; have := N1.out; have := N2.out; have := N3.out; have := N4.out; have := N5.out; have := N6.out; have := N7.out; have := N8.out; have := N9.out; have := N10.out; have := N11.out; have := N12.out; have := N13.out; have := N14.out; have := N15.out; have := N16.out; have := N17.out; have := N18.out; omega)); clear BK2; have BK2 := n_; clear n_
  have n_ := Qz.mk (blk_kept BK3.out hK2 (fun h1_ => by have := NB.out; have := N1.out; have := N2.out; have := N3.out; have := N4.out; have := N5.out; have := N6.out; have := N7.out; have := N8.out; have := N9.out; have := N10.out; have := N11.out; have := N12.out; have := N13.out; have := N14.out; have := N15.out; have := N16.out; have := N17.out; have := N18.out; omega)); clear BK3; have BK3 := n_; clear n_
  clear HB; have HB := Qz.mk hB2; clear hB2 hK2 hR0
  try clear hz0_0 hz0_1 hz0_2 hz0_3 hz1_0 hz1_1 hz1_2 hz1_3 hz2_0 hz2_1 hz2_2 hz2_3 hz3_0 hz3_1 hz3_2 hz3_3
  try clear hy0_0
  try clear hy0_1
  try clear hy0_2
  try clear hy0_3
  try clear hy1_0
  try clear hy1_1
  try clear hy1_2
  try clear hy1_3
  try clear hy2_0
  try clear hy2_1
  try clear hy2_2
  try clear hy2_3
  try clear hy3_0
  try clear hy3_1
  try clear hy3_2
  try clear hy3_3
  have hz0_0 := (qa BK0.out 0).trans rfl
  have hz0_1 := (qa BK0.out 1).trans rfl
  have hz0_2 := (qa BK0.out 2).trans rfl
  have hz0_3 := (qa BK0.out 3).trans rfl
  have hz1_0 := (qa BK1.out 0).trans rfl
  have hz1_1 := (qa BK1.out 1).trans rfl
  have hz1_2 := (qa BK1.out 2).trans rfl
  have hz1_3 := (qa BK1.out 3).trans rfl
  have hz2_0 := (qa BK2.out 0).trans rfl
  have hz2_1 := (qa BK2.out 1).trans rfl
  have hz2_2 := (qa BK2.out 2).trans rfl
  have hz2_3 := (qa BK2.out 3).trans rfl
  have hz3_0 := (qa BK3.out 0).trans rfl
  have hz3_1 := (qa BK3.out 1).trans rfl
  have hz3_2 := (qa BK3.out 2).trans rfl
  have hz3_3 := (qa BK3.out 3).trans rfl
  clear HX0_0
  go_wp2_with fail
  (with_reducible refine (laws_markEditS.calls k (fun k_ => w9.heap.size ≤ k_ ∧ k_ < w10.heap.size) _ T1_0 m0 m1 M1_0 w _ ?side1 ?side2 A11.out).mono ?_)
  case side1 => exact yq116
  case side2 => exact yq119
  rintro e w19 ⟨rfl, hR0, hB2, hK2⟩
  have N19 := Qz.mk (show w18.heap.size ≤ w19.heap.size from hK2.1)
  have n_ := Qz.mk (Kd.R_kept yq117 hK2 (fun k_ h1_ h2_ => by have := N1.out; have := N2.out; have := N3.out; have := N4.out; have := N5.out; have := N6.out; have := N7.out; have := N8.out; have := N9.out; have := N10.out; have := N11.out; have := N12.out; have := N13.out; have := N14.out; have := N15.out; have := N16.out; have := N17.out; have := N18.out; have := N19.out; omega)); clear HW0_0; have HW0_0 := n_; clear n_
  have n_ := Qz.mk (Kd.R_kept yq118 hK2 (fun k_ h1_ h2_ => by have := N1.out; have := N2.out; have := N3.out; have := N4.out; have := N5.out; have := N6.out; have := N7.out; have := N8.out; have := N9.out; have := N10.out; have := N11.out; have := N12.out; have := N13.out; have := N14.out; have := N15.out; have := N16.out; have := N17.out; have := N18.out; have := N19.out; omega)); clear HG0_0; have HG0_0 := n_; clear n_
  clear HX1_0; have HX1_0 := Qz.mk hR0
  obtain ⟨A_, c_, e_⟩ := Kd.S_slice HX1_0.out; injection e_ with e1_ e2_ e3_; clear e1_ e3_; have LX1_0 := Qz.mk e2_; clear e2_
  have n_ := Qz.mk (blk_kept BK0.out hK2 (fun h1_ => by have := NB.out; have := N1.out; have := N2.out; have := N3.out; have := N4.out; have := N5.out; have := N6.out; have := N7.out; have := N8.out; have := N9.out; have := N10.out; have := N11.out; have := N12.out; have := N13.out; have := N14.out; have := N15.out; have := N16.out; have := N17.out; have := N18.out; have := N19.out; omega)); clear BK0; have BK0 := n_; clear n_
  have n_ := Qz.mk (blk_kept BK1.out hK2 (fun h1_ => by have := NB.out; have := N1.out; have := N2.out; have := N3.out; have := N4.out; have := N5.out; have := N6.out; have := N7.out; have := N8.out; have := N9.out; have := N10.out; have := N11.out; have := N12.out; have := N13.out; have := N14.out; have := N15.out; have := N16.out; have := N17.out; have := N18.out; have := N19.out; omega)); clear BK1; have BK1 := n_; clear n_
  have n_ := Qz.mk (blk_kept BK2.out hK2 (fun h1_ => by have := NB.out; have := N1.out; have := N2.out; have := N3.out; have := N4.out; have := N5.out; have := N6.out; have := N7.out; have := N8.out; have := N9.out; have := N10.out; have := N11.out; have := N12.out; have := N13.out; have := N14.out; have := N15.out; have := N16.out; have := N17.out; have := N18.out; have := N19.out; omega)); clear BK2; have BK2 := n_; clear n_
  have n_ := Qz.mk (blk_kept BK3.out hK2 (fun h1_ => by have := NB.out; have := N1.out; have := N2.out; have := N3.out; have := N4.out; have := N5.out; have := N6.out; have := N7.out; have := N8.out; have := N9.out; have := N10.out; have := N11.out; have := N12.out; have := N13.out; have := N14.out; have := N15.out; have := N16.out; have := N17.out; have := N18.out; have := N19.out; omega)); clear BK3; have BK3 := n_; clear n_
  clear HB; have HB := Qz.mk hB2; clear hB2 hK2 hR0
  try clear hz0_0 hz0_1 hz0_2 hz0_3 hz1_0 hz1_1 hz1_2 hz1_3 hz2_0 hz2_1 hz2_2 hz2_3 hz3_0 hz3_1 hz3_2 hz3_3
  try clear hy0_0
  try clear hy0_1
  try clear hy0_2
  try clear hy0_3
  try clear hy1_0
  try clear hy1_1
  try clear hy1_2
  try clear hy1_3
  try clear hy2_0
  try clear hy2_1
  try clear hy2_2
  try clear hy2_3
  try clear hy3_0
  try clear hy3_1
  try clear hy3_2
  try clear hy3_3
  have hz0_0 := (qa BK0.out 0).trans rfl
  have hz0_1 := (qa BK0.out 1).trans rfl
  have hz0_2 := (qa BK0.out 2).trans rfl
  have hz0_3 := (qa BK0.out 3).trans rfl
  have hz1_0 := (qa BK1.out 0).trans rfl
  have hz1_1 := (qa BK1.out 1).trans rfl
  have hz1_2 := (qa BK1.out 2).trans rfl
  have hz1_3 := (qa BK1.out 3).trans rfl
  have hz2_0 := (qa BK2.out 0).trans rfl
  have hz2_1 := (qa BK2.out 1).trans rfl
  have hz2_2 := (qa BK2.out 2).trans rfl
  have hz2_3 := (qa BK2.out 3).trans rfl
  have hz3_0 := (qa BK3.out 0).trans rfl
  have hz3_1 := (qa BK3.out 1).trans rfl
  have hz3_2 := (qa BK3.out 2).trans rfl
  have hz3_3 := (qa BK3.out 3).trans rfl
  clear HX1_0
  go_wp2_with fail
  (with_reducible refine (laws_eqVersion.calls k _ _ g_0 g_1 g_2 g_3 _ _ b_0 b_1 b_2 b_3 true _ ?side1 ?side2 ?side3 ?side4 A7.out).mono ?_)
  case side1 => repeat (first | exact (Kd.R_reads' HG0_0.out).2.2 | (with_reducible refine Kd.C_alloc ?_ _) | (with_reducible refine Kd.C_drewN ?_ _) | (with_reducible refine Kd.C_drew ?_))
  case side2 => exact (Kd.R_reads' HG0_0.out).2.1
  case side3 => repeat (first | exact (Kd.R_reads' HW0_0.out).2.2 | (with_reducible refine Kd.C_alloc ?_ _) | (with_reducible refine Kd.C_drewN ?_ _) | (with_reducible refine Kd.C_drew ?_))
  case side4 => exact (Kd.R_reads' HW0_0.out).2.1
  rintro e w20 ⟨rfl, hb⟩
  have N20 := Qz.mk (show w19.heap.size ≤ w20.heap.size from by first | exact hb.size | exact Nat.le_trans (by simp) hb.size)
  have n_ := Qz.mk (Kd.R_below yq117 hb); clear HW0_0; have HW0_0 := n_; clear n_
  have n_ := Qz.mk (Kd.R_below yq118 hb); clear HG0_0; have HG0_0 := n_; clear n_
  have n_ := Qz.mk (qo BK0.out hb); clear BK0; have BK0 := n_; clear n_
  have n_ := Qz.mk (qo BK1.out hb); clear BK1; have BK1 := n_; clear n_
  have n_ := Qz.mk (qo BK2.out hb); clear BK2; have BK2 := n_; clear n_
  have n_ := Qz.mk (qo BK3.out hb); clear BK3; have BK3 := n_; clear n_
  have n_ := Qz.mk (qk yq116 hb); clear HB; have HB := n_; clear n_ hb
  try clear hz0_0 hz0_1 hz0_2 hz0_3 hz1_0 hz1_1 hz1_2 hz1_3 hz2_0 hz2_1 hz2_2 hz2_3 hz3_0 hz3_1 hz3_2 hz3_3
  try clear hy0_0
  try clear hy0_1
  try clear hy0_2
  try clear hy0_3
  try clear hy1_0
  try clear hy1_1
  try clear hy1_2
  try clear hy1_3
  try clear hy2_0
  try clear hy2_1
  try clear hy2_2
  try clear hy2_3
  try clear hy3_0
  try clear hy3_1
  try clear hy3_2
  try clear hy3_3
  have hz0_0 := (qa BK0.out 0).trans rfl
  have hz0_1 := (qa BK0.out 1).trans rfl
  have hz0_2 := (qa BK0.out 2).trans rfl
  have hz0_3 := (qa BK0.out 3).trans rfl
  have hz1_0 := (qa BK1.out 0).trans rfl
  have hz1_1 := (qa BK1.out 1).trans rfl
  have hz1_2 := (qa BK1.out 2).trans rfl
  have hz1_3 := (qa BK1.out 3).trans rfl
  have hz2_0 := (qa BK2.out 0).trans rfl
  have hz2_1 := (qa BK2.out 1).trans rfl
  have hz2_2 := (qa BK2.out 2).trans rfl
  have hz2_3 := (qa BK2.out 3).trans rfl
  have hz3_0 := (qa BK3.out 0).trans rfl
  have hz3_1 := (qa BK3.out 1).trans rfl
  have hz3_2 := (qa BK3.out 2).trans rfl
  have hz3_3 := (qa BK3.out 3).trans rfl
  go_wp2_with fail
  (with_reducible refine (laws_markVersion.calls k (fun k_ => w10.heap.size ≤ k_ ∧ k_ < w11.heap.size) _ g_0 g_1 g_2 g_3 1 q0 N0_0 w _ ?side1 ?side2 A12.out).mono ?_)
  case side1 => exact yq116
  case side2 => exact yq118
  rintro e w21 ⟨rfl, hR0, hB2, hK2⟩
  have N21 := Qz.mk (show w20.heap.size ≤ w21.heap.size from hK2.1)
  have n_ := Qz.mk (Kd.R_kept yq117 hK2 (fun k_ h1_ h2_ => by have := N1.out; have := N2.out; have := N3.out; have := N4.out; have := N5.out; have := N6.out; have := N7.out; have := N8.out; have := N9.out; have := N10.out; have := N11.out; have := N12.out; have := N13.out; have := N14.out; have := N15.out; have := N16.out; have := N17.out; have := N18.out; have := N19.out; have := N20.out; have := N21.out; omega)); clear HW0_0; have HW0_0 := n_; clear n_
  clear HG0_0; have HG0_0 := Qz.mk hR0
  obtain ⟨A_, c_, e_⟩ := Kd.R_slice HG0_0.out; injection e_ with e1_ e2_ e3_; clear e1_ e3_; have LG0_0 := Qz.mk e2_; clear e2_
  have n_ := Qz.mk (blk_kept BK0.out hK2 (fun h1_ => by have := NB.out; have := N1.out; have := N2.out; have := N3.out; have := N4.out; have := N5.out; have := N6.out; have := N7.out; have := N8.out; have := N9.out; have := N10.out; have := N11.out; have := N12.out; have := N13.out; have := N14.out; have := N15.out; have := N16.out; have := N17.out; have := N18.out; have := N19.out; have := N20.out; have := N21.out; omega)); clear BK0; have BK0 := n_; clear n_
  have n_ := Qz.mk (blk_kept BK1.out hK2 (fun h1_ => by have := NB.out; have := N1.out; have := N2.out; have := N3.out; have := N4.out; have := N5.out; have := N6.out; have := N7.out; have := N8.out; have := N9.out; have := N10.out; have := N11.out; have := N12.out; have := N13.out; have := N14.out; have := N15.out; have := N16.out; have := N17.out; have := N18.out; have := N19.out; have := N20.out; have := N21.out; omega)); clear BK1; have BK1 := n_; clear n_
  have n_ := Qz.mk (blk_kept BK2.out hK2 (fun h1_ => by have := NB.out; have := N1.out; have := N2.out; have := N3.out; have := N4.out; have := N5.out; have := N6.out; have := N7.out; have := N8.out; have := N9.out; have := N10.out; have := N11.out; have := N12.out; have := N13.out; have := N14.out; have := N15.out; have := N16.out; have := N17.out; have := N18.out; have := N19.out; have := N20.out; have := N21.out; omega)); clear BK2; have BK2 := n_; clear n_
  have n_ := Qz.mk (blk_kept BK3.out hK2 (fun h1_ => by have := NB.out; have := N1.out; have := N2.out; have := N3.out; have := N4.out; have := N5.out; have := N6.out; have := N7.out; have := N8.out; have := N9.out; have := N10.out; have := N11.out; have := N12.out; have := N13.out; have := N14.out; have := N15.out; have := N16.out; have := N17.out; have := N18.out; have := N19.out; have := N20.out; have := N21.out; omega)); clear BK3; have BK3 := n_; clear n_
  clear HB; have HB := Qz.mk hB2; clear hB2 hK2 hR0
  try clear hz0_0 hz0_1 hz0_2 hz0_3 hz1_0 hz1_1 hz1_2 hz1_3 hz2_0 hz2_1 hz2_2 hz2_3 hz3_0 hz3_1 hz3_2 hz3_3
  try clear hy0_0
  try clear hy0_1
  try clear hy0_2
  try clear hy0_3
  try clear hy1_0
  try clear hy1_1
  try clear hy1_2
  try clear hy1_3
  try clear hy2_0
  try clear hy2_1
  try clear hy2_2
  try clear hy2_3
  try clear hy3_0
  try clear hy3_1
  try clear hy3_2
  try clear hy3_3
  have hz0_0 := (qa BK0.out 0).trans rfl
  have hz0_1 := (qa BK0.out 1).trans rfl
  have hz0_2 := (qa BK0.out 2).trans rfl
  have hz0_3 := (qa BK0.out 3).trans rfl
  have hz1_0 := (qa BK1.out 0).trans rfl
  have hz1_1 := (qa BK1.out 1).trans rfl
  have hz1_2 := (qa BK1.out 2).trans rfl
  have hz1_3 := (qa BK1.out 3).trans rfl
  have hz2_0 := (qa BK2.out 0).trans rfl
  have hz2_1 := (qa BK2.out 1).trans rfl
  have hz2_2 := (qa BK2.out 2).trans rfl
  have hz2_3 := (qa BK2.out 3).trans rfl
  have hz3_0 := (qa BK3.out 0).trans rfl
  have hz3_1 := (qa BK3.out 1).trans rfl
  have hz3_2 := (qa BK3.out 2).trans rfl
  have hz3_3 := (qa BK3.out 3).trans rfl
  go_wp2_with fail
  try rw [LG0_0.out]
  (with_reducible refine (laws_heldVersion.calls k _ _ N0_0 g_1 g_2 g_3 1 q0 _ ?side1 ?side2 A13.out).mono ?_)
  case side1 => repeat (first | exact (Kd.R_reads' HG0_0.out).2.2 | (with_reducible refine Kd.C_alloc ?_ _) | (with_reducible refine Kd.C_drewN ?_ _) | (with_reducible refine Kd.C_drew ?_))
  case side2 => have l_ := (Kd.R_reads' HG0_0.out).2.1; rw [LG0_0.out] at l_; exact l_
  rintro e w22 ⟨rfl, hb⟩
  have N22 := Qz.mk (show w21.heap.size ≤ w22.heap.size from by first | exact hb.size | exact Nat.le_trans (by simp) hb.size)
  have n_ := Qz.mk (Kd.R_below yq117 hb); clear HW0_0; have HW0_0 := n_; clear n_
  have n_ := Qz.mk (Kd.R_below yq118 hb); clear HG0_0; have HG0_0 := n_; clear n_
  have n_ := Qz.mk (qo BK0.out hb); clear BK0; have BK0 := n_; clear n_
  have n_ := Qz.mk (qo BK1.out hb); clear BK1; have BK1 := n_; clear n_
  have n_ := Qz.mk (qo BK2.out hb); clear BK2; have BK2 := n_; clear n_
  have n_ := Qz.mk (qo BK3.out hb); clear BK3; have BK3 := n_; clear n_
  have n_ := Qz.mk (qk yq116 hb); clear HB; have HB := n_; clear n_ hb
  try clear hz0_0 hz0_1 hz0_2 hz0_3 hz1_0 hz1_1 hz1_2 hz1_3 hz2_0 hz2_1 hz2_2 hz2_3 hz3_0 hz3_1 hz3_2 hz3_3
  try clear hy0_0
  try clear hy0_1
  try clear hy0_2
  try clear hy0_3
  try clear hy1_0
  try clear hy1_1
  try clear hy1_2
  try clear hy1_3
  try clear hy2_0
  try clear hy2_1
  try clear hy2_2
  try clear hy2_3
  try clear hy3_0
  try clear hy3_1
  try clear hy3_2
  try clear hy3_3
  have hz0_0 := (qa BK0.out 0).trans rfl
  have hz0_1 := (qa BK0.out 1).trans rfl
  have hz0_2 := (qa BK0.out 2).trans rfl
  have hz0_3 := (qa BK0.out 3).trans rfl
  have hz1_0 := (qa BK1.out 0).trans rfl
  have hz1_1 := (qa BK1.out 1).trans rfl
  have hz1_2 := (qa BK1.out 2).trans rfl
  have hz1_3 := (qa BK1.out 3).trans rfl
  have hz2_0 := (qa BK2.out 0).trans rfl
  have hz2_1 := (qa BK2.out 1).trans rfl
  have hz2_2 := (qa BK2.out 2).trans rfl
  have hz2_3 := (qa BK2.out 3).trans rfl
  have hz3_0 := (qa BK3.out 0).trans rfl
  have hz3_1 := (qa BK3.out 1).trans rfl
  have hz3_2 := (qa BK3.out 2).trans rfl
  have hz3_3 := (qa BK3.out 3).trans rfl
  go_wp2_with fail
  (with_reducible refine (laws_toVersion.calls k _ _ l0_0 a0_1 a0_2 a0_3 T0_0 T0_1 T0_2 T0_3 _ ?side1 ?side2 A3.out).mono ?_)
  case side1 => repeat (first | exact (Kd.C_below HR0_0.out HB.out) | (with_reducible refine Kd.C_alloc ?_ _) | (with_reducible refine Kd.C_drewN ?_ _) | (with_reducible refine Kd.C_drew ?_))
  case side2 => exact HC0_0.out
  rintro e w23 ⟨v0_, rfl, ho0, hb⟩
  have N23 := Qz.mk (show w22.heap.size ≤ w23.heap.size from by first | exact hb.size | exact Nat.le_trans (by simp) hb.size)
  have n_ := Qz.mk (Kd.R_below yq117 hb); clear HW0_0; have HW0_0 := n_; clear n_
  have n_ := Qz.mk (Kd.R_below yq118 hb); clear HG0_0; have HG0_0 := n_; clear n_
  have HV0_0 := Qz.mk (R_made ho0 (lo := w22.heap.size) (by first | exact Nat.le_refl _ | simp) (qp yq116))
  have n_ := Qz.mk (qo BK0.out hb); clear BK0; have BK0 := n_; clear n_
  have n_ := Qz.mk (qo BK1.out hb); clear BK1; have BK1 := n_; clear n_
  have n_ := Qz.mk (qo BK2.out hb); clear BK2; have BK2 := n_; clear n_
  have n_ := Qz.mk (qo BK3.out hb); clear BK3; have BK3 := n_; clear n_
  have n_ := Qz.mk (qk yq116 hb); clear HB; have HB := n_; clear n_ hb ho0
  obtain ⟨AV0_0, cV0_0, eV0_0⟩ := Kd.R_slice HV0_0.out; subst eV0_0
  try clear hz0_0 hz0_1 hz0_2 hz0_3 hz1_0 hz1_1 hz1_2 hz1_3 hz2_0 hz2_1 hz2_2 hz2_3 hz3_0 hz3_1 hz3_2 hz3_3
  try clear hy0_0
  try clear hy0_1
  try clear hy0_2
  try clear hy0_3
  try clear hy1_0
  try clear hy1_1
  try clear hy1_2
  try clear hy1_3
  try clear hy2_0
  try clear hy2_1
  try clear hy2_2
  try clear hy2_3
  try clear hy3_0
  try clear hy3_1
  try clear hy3_2
  try clear hy3_3
  have hz0_0 := (qa BK0.out 0).trans rfl
  have hz0_1 := (qa BK0.out 1).trans rfl
  have hz0_2 := (qa BK0.out 2).trans rfl
  have hz0_3 := (qa BK0.out 3).trans rfl
  have hz1_0 := (qa BK1.out 0).trans rfl
  have hz1_1 := (qa BK1.out 1).trans rfl
  have hz1_2 := (qa BK1.out 2).trans rfl
  have hz1_3 := (qa BK1.out 3).trans rfl
  have hz2_0 := (qa BK2.out 0).trans rfl
  have hz2_1 := (qa BK2.out 1).trans rfl
  have hz2_2 := (qa BK2.out 2).trans rfl
  have hz2_3 := (qa BK2.out 3).trans rfl
  have hz3_0 := (qa BK3.out 0).trans rfl
  have hz3_1 := (qa BK3.out 1).trans rfl
  have hz3_2 := (qa BK3.out 2).trans rfl
  have hz3_3 := (qa BK3.out 3).trans rfl
  go_wp2_with fail
  (with_reducible refine (laws_toEditS.calls k _ _ l1 T1_0 _ ?side1 ?side2 A4.out).mono ?_)
  case side1 => repeat (first | exact (Kd.C_below HR1.out HB.out) | (with_reducible refine Kd.C_alloc ?_ _) | (with_reducible refine Kd.C_drewN ?_ _) | (with_reducible refine Kd.C_drew ?_))
  case side2 => exact HC1.out
  rintro e w24 ⟨v0_, rfl, ho0, hb⟩
  have N24 := Qz.mk (show w23.heap.size ≤ w24.heap.size from by first | exact hb.size | exact Nat.le_trans (by simp) hb.size)
  have n_ := Qz.mk (Kd.R_below yq117 hb); clear HW0_0; have HW0_0 := n_; clear n_
  have n_ := Qz.mk (Kd.R_below yq118 hb); clear HG0_0; have HG0_0 := n_; clear n_
  have n_ := Qz.mk (Kd.R_below (by (with_reducible repeat (first | apply Kd.R_alloc | apply Kd.R_drewN | apply Kd.R_drew)); exact HV0_0.out) hb); clear HV0_0; have HV0_0 := n_; clear n_
  have HV1_0 := Qz.mk (S_made ho0 (lo := w23.heap.size) (by first | exact Nat.le_refl _ | simp) (qp yq116))
  have n_ := Qz.mk (qo BK0.out hb); clear BK0; have BK0 := n_; clear n_
  have n_ := Qz.mk (qo BK1.out hb); clear BK1; have BK1 := n_; clear n_
  have n_ := Qz.mk (qo BK2.out hb); clear BK2; have BK2 := n_; clear n_
  have n_ := Qz.mk (qo BK3.out hb); clear BK3; have BK3 := n_; clear n_
  have n_ := Qz.mk (qk yq116 hb); clear HB; have HB := n_; clear n_ hb ho0
  obtain ⟨AV1_0, cV1_0, eV1_0⟩ := Kd.S_slice HV1_0.out; subst eV1_0
  try clear hz0_0 hz0_1 hz0_2 hz0_3 hz1_0 hz1_1 hz1_2 hz1_3 hz2_0 hz2_1 hz2_2 hz2_3 hz3_0 hz3_1 hz3_2 hz3_3
  try clear hy0_0
  try clear hy0_1
  try clear hy0_2
  try clear hy0_3
  try clear hy1_0
  try clear hy1_1
  try clear hy1_2
  try clear hy1_3
  try clear hy2_0
  try clear hy2_1
  try clear hy2_2
  try clear hy2_3
  try clear hy3_0
  try clear hy3_1
  try clear hy3_2
  try clear hy3_3
  have hz0_0 := (qa BK0.out 0).trans rfl
  have hz0_1 := (qa BK0.out 1).trans rfl
  have hz0_2 := (qa BK0.out 2).trans rfl
  have hz0_3 := (qa BK0.out 3).trans rfl
  have hz1_0 := (qa BK1.out 0).trans rfl
  have hz1_1 := (qa BK1.out 1).trans rfl
  have hz1_2 := (qa BK1.out 2).trans rfl
  have hz1_3 := (qa BK1.out 3).trans rfl
  have hz2_0 := (qa BK2.out 0).trans rfl
  have hz2_1 := (qa BK2.out 1).trans rfl
  have hz2_2 := (qa BK2.out 2).trans rfl
  have hz2_3 := (qa BK2.out 3).trans rfl
  have hz3_0 := (qa BK3.out 0).trans rfl
  have hz3_1 := (qa BK3.out 1).trans rfl
  have hz3_2 := (qa BK3.out 2).trans rfl
  have hz3_3 := (qa BK3.out 3).trans rfl
  go_wp2_with fail
  (with_reducible refine (impl_Replay.calls k _ _ T0_0 T0_1 T0_2 T0_3 _ _ T1_0 g_0 g_1 g_2 g_3 g_4 _ ?side1 ?side2 ?side3 ?side4 A6.out).mono ?_)
  case side1 => repeat (first | exact (Kd.R_reads' HV0_0.out).2.2 | (with_reducible refine Kd.C_alloc ?_ _) | (with_reducible refine Kd.C_drewN ?_ _) | (with_reducible refine Kd.C_drew ?_))
  case side2 => exact (Kd.R_reads' HV0_0.out).2.1
  case side3 => repeat (first | exact (Kd.S_reads' HV1_0.out).2.2 | (with_reducible refine Kd.C_alloc ?_ _) | (with_reducible refine Kd.C_drewN ?_ _) | (with_reducible refine Kd.C_drew ?_))
  case side4 => exact (Kd.S_reads' HV1_0.out).2.1
  rintro e w25 ⟨v0_, rfl, ho0, hb⟩
  have N25 := Qz.mk (show w24.heap.size ≤ w25.heap.size from by first | exact hb.size | exact Nat.le_trans (by simp) hb.size)
  have n_ := Qz.mk (Kd.R_below yq117 hb); clear HW0_0; have HW0_0 := n_; clear n_
  have n_ := Qz.mk (Kd.R_below yq118 hb); clear HG0_0; have HG0_0 := n_; clear n_
  have n_ := Qz.mk (Kd.R_below (by (with_reducible repeat (first | apply Kd.R_alloc | apply Kd.R_drewN | apply Kd.R_drew)); exact HV0_0.out) hb); clear HV0_0; have HV0_0 := n_; clear n_
  have n_ := Qz.mk (Kd.S_below (by (with_reducible repeat (first | apply Kd.S_alloc | apply Kd.S_drewN | apply Kd.S_drew)); exact HV1_0.out) hb); clear HV1_0; have HV1_0 := n_; clear n_
  have HH0_0 := Qz.mk (R_made ho0 (lo := w24.heap.size) (by first | exact Nat.le_refl _ | simp) (qp yq116))
  have n_ := Qz.mk (qo BK0.out hb); clear BK0; have BK0 := n_; clear n_
  have n_ := Qz.mk (qo BK1.out hb); clear BK1; have BK1 := n_; clear n_
  have n_ := Qz.mk (qo BK2.out hb); clear BK2; have BK2 := n_; clear n_
  have n_ := Qz.mk (qo BK3.out hb); clear BK3; have BK3 := n_; clear n_
  have n_ := Qz.mk (qk yq116 hb); clear HB; have HB := n_; clear n_ hb ho0
  obtain ⟨AH0_0, cH0_0, eH0_0⟩ := Kd.R_slice HH0_0.out; subst eH0_0
  try clear hz0_0 hz0_1 hz0_2 hz0_3 hz1_0 hz1_1 hz1_2 hz1_3 hz2_0 hz2_1 hz2_2 hz2_3 hz3_0 hz3_1 hz3_2 hz3_3
  try clear hy0_0
  try clear hy0_1
  try clear hy0_2
  try clear hy0_3
  try clear hy1_0
  try clear hy1_1
  try clear hy1_2
  try clear hy1_3
  try clear hy2_0
  try clear hy2_1
  try clear hy2_2
  try clear hy2_3
  try clear hy3_0
  try clear hy3_1
  try clear hy3_2
  try clear hy3_3
  have hz0_0 := (qa BK0.out 0).trans rfl
  have hz0_1 := (qa BK0.out 1).trans rfl
  have hz0_2 := (qa BK0.out 2).trans rfl
  have hz0_3 := (qa BK0.out 3).trans rfl
  have hz1_0 := (qa BK1.out 0).trans rfl
  have hz1_1 := (qa BK1.out 1).trans rfl
  have hz1_2 := (qa BK1.out 2).trans rfl
  have hz1_3 := (qa BK1.out 3).trans rfl
  have hz2_0 := (qa BK2.out 0).trans rfl
  have hz2_1 := (qa BK2.out 1).trans rfl
  have hz2_2 := (qa BK2.out 2).trans rfl
  have hz2_3 := (qa BK2.out 3).trans rfl
  have hz3_0 := (qa BK3.out 0).trans rfl
  have hz3_1 := (qa BK3.out 1).trans rfl
  have hz3_2 := (qa BK3.out 2).trans rfl
  have hz3_3 := (qa BK3.out 3).trans rfl
  have hy0_0 := fun o => (qa (qf BK0.out o) 0).trans rfl
  have hy0_1 := fun o => (qa (qf BK0.out o) 1).trans rfl
  have hy0_2 := fun o => (qa (qf BK0.out o) 2).trans rfl
  have hy0_3 := fun o => (qa (qf BK0.out o) 3).trans rfl
  have hy1_0 := fun o => (qa (qf BK1.out o) 0).trans rfl
  have hy1_1 := fun o => (qa (qf BK1.out o) 1).trans rfl
  have hy1_2 := fun o => (qa (qf BK1.out o) 2).trans rfl
  have hy1_3 := fun o => (qa (qf BK1.out o) 3).trans rfl
  have hy2_0 := fun o => (qa (qf BK2.out o) 0).trans rfl
  have hy2_1 := fun o => (qa (qf BK2.out o) 1).trans rfl
  have hy2_2 := fun o => (qa (qf BK2.out o) 2).trans rfl
  have hy2_3 := fun o => (qa (qf BK2.out o) 3).trans rfl
  have hy3_0 := fun o => (qa (qf BK3.out o) 0).trans rfl
  have hy3_1 := fun o => (qa (qf BK3.out o) 1).trans rfl
  have hy3_2 := fun o => (qa (qf BK3.out o) 2).trans rfl
  have hy3_3 := fun o => (qa (qf BK3.out o) 3).trans rfl
  clear HV0_0
  clear HV1_0
  go_wp2_with fail
  have BK4 := Qz.mk (blk_new w25 (.cells #[.slice AH0_0 g_0.length cH0_0, .int .i64 g_1, .int .i64 g_2, .int .i64 g_3] 32))
  have n_ := Qz.mk (qf BK0.out (.cells #[.slice AH0_0 g_0.length cH0_0, .int .i64 g_1, .int .i64 g_2, .int .i64 g_3] 32)); clear BK0; have BK0 := n_; clear n_
  have n_ := Qz.mk (qf BK1.out (.cells #[.slice AH0_0 g_0.length cH0_0, .int .i64 g_1, .int .i64 g_2, .int .i64 g_3] 32)); clear BK1; have BK1 := n_; clear n_
  have n_ := Qz.mk (qf BK2.out (.cells #[.slice AH0_0 g_0.length cH0_0, .int .i64 g_1, .int .i64 g_2, .int .i64 g_3] 32)); clear BK2; have BK2 := n_; clear n_
  have n_ := Qz.mk (qf BK3.out (.cells #[.slice AH0_0 g_0.length cH0_0, .int .i64 g_1, .int .i64 g_2, .int .i64 g_3] 32)); clear BK3; have BK3 := n_; clear n_
  have n_ := Qz.mk (Kd.R_alloc HW0_0.out (.cells #[.slice AH0_0 g_0.length cH0_0, .int .i64 g_1, .int .i64 g_2, .int .i64 g_3] 32)); clear HW0_0; have HW0_0 := n_; clear n_
  have n_ := Qz.mk (Kd.R_alloc HG0_0.out (.cells #[.slice AH0_0 g_0.length cH0_0, .int .i64 g_1, .int .i64 g_2, .int .i64 g_3] 32)); clear HG0_0; have HG0_0 := n_; clear n_
  have n_ := Qz.mk (Kd.R_alloc HH0_0.out (.cells #[.slice AH0_0 g_0.length cH0_0, .int .i64 g_1, .int .i64 g_2, .int .i64 g_3] 32)); clear HH0_0; have HH0_0 := n_; clear n_
  have n_ := Qz.mk (qd HB.out (.cells #[.slice AH0_0 g_0.length cH0_0, .int .i64 g_1, .int .i64 g_2, .int .i64 g_3] 32)); clear HB; have HB := n_; clear n_
  have N26 := Qz.mk (show w25.heap.size < (w25.alloc (.cells #[.slice AH0_0 g_0.length cH0_0, .int .i64 g_1, .int .i64 g_2, .int .i64 g_3] 32)).heap.size from by simp)
  clear hz0_0 hy0_0 hz0_1 hy0_1 hz0_2 hy0_2 hz0_3 hy0_3 hz1_0 hy1_0 hz1_1 hy1_1 hz1_2 hy1_2 hz1_3 hy1_3 hz2_0 hy2_0 hz2_1 hy2_1 hz2_2 hy2_2 hz2_3 hy2_3 hz3_0 hy3_0 hz3_1 hy3_1 hz3_2 hy3_2 hz3_3 hy3_3
  generalize w25.alloc (.cells #[.slice AH0_0 g_0.length cH0_0, .int .i64 g_1, .int .i64 g_2, .int .i64 g_3] 32) = w26 at BK4 BK0 BK1 BK2 BK3 HW0_0 HG0_0 HH0_0 HB N26 ⊢
  (with_reducible refine (laws_eqVersion.calls k _ _ g_0 g_1 g_2 g_3 _ _ b_0 b_1 b_2 b_3 true _ ?side1 ?side2 ?side3 ?side4 A7.out).mono ?_)
  case side1 => repeat (first | exact (Kd.R_reads' HH0_0.out).2.2 | (with_reducible refine Kd.C_alloc ?_ _) | (with_reducible refine Kd.C_drewN ?_ _) | (with_reducible refine Kd.C_drew ?_))
  case side2 => exact (Kd.R_reads' HH0_0.out).2.1
  case side3 => repeat (first | exact (Kd.R_reads' HW0_0.out).2.2 | (with_reducible refine Kd.C_alloc ?_ _) | (with_reducible refine Kd.C_drewN ?_ _) | (with_reducible refine Kd.C_drew ?_))
  case side4 => exact (Kd.R_reads' HW0_0.out).2.1
  rintro e w27 ⟨rfl, hb⟩
  have N27 := Qz.mk (show w26.heap.size ≤ w27.heap.size from by first | exact hb.size | exact Nat.le_trans (by simp) hb.size)
  have n_ := Qz.mk (Kd.R_below yq117 hb); clear HW0_0; have HW0_0 := n_; clear n_
  have n_ := Qz.mk (Kd.R_below yq118 hb); clear HG0_0; have HG0_0 := n_; clear n_
  have n_ := Qz.mk (Kd.R_below (by (with_reducible repeat (first | apply Kd.R_alloc | apply Kd.R_drewN | apply Kd.R_drew)); exact HH0_0.out) hb); clear HH0_0; have HH0_0 := n_; clear n_
  have n_ := Qz.mk (qo BK0.out hb); clear BK0; have BK0 := n_; clear n_
  have n_ := Qz.mk (qo BK1.out hb); clear BK1; have BK1 := n_; clear n_
  have n_ := Qz.mk (qo BK2.out hb); clear BK2; have BK2 := n_; clear n_
  have n_ := Qz.mk (qo BK3.out hb); clear BK3; have BK3 := n_; clear n_
  have n_ := Qz.mk (qo BK4.out hb); clear BK4; have BK4 := n_; clear n_
  have n_ := Qz.mk (qk yq116 hb); clear HB; have HB := n_; clear n_ hb
  have hz0_0 := (qa BK0.out 0).trans rfl
  have hz0_1 := (qa BK0.out 1).trans rfl
  have hz0_2 := (qa BK0.out 2).trans rfl
  have hz0_3 := (qa BK0.out 3).trans rfl
  have hz1_0 := (qa BK1.out 0).trans rfl
  have hz1_1 := (qa BK1.out 1).trans rfl
  have hz1_2 := (qa BK1.out 2).trans rfl
  have hz1_3 := (qa BK1.out 3).trans rfl
  have hz2_0 := (qa BK2.out 0).trans rfl
  have hz2_1 := (qa BK2.out 1).trans rfl
  have hz2_2 := (qa BK2.out 2).trans rfl
  have hz2_3 := (qa BK2.out 3).trans rfl
  have hz3_0 := (qa BK3.out 0).trans rfl
  have hz3_1 := (qa BK3.out 1).trans rfl
  have hz3_2 := (qa BK3.out 2).trans rfl
  have hz3_3 := (qa BK3.out 3).trans rfl
  have hz4_0 := (qa BK4.out 0).trans rfl
  have hz4_1 := (qa BK4.out 1).trans rfl
  have hz4_2 := (qa BK4.out 2).trans rfl
  have hz4_3 := (qa BK4.out 3).trans rfl
  go_wp2_with fail
  try rw [LG0_0.out]
  (with_reducible refine (laws_heldVersion.calls k _ _ N0_0 g_1 g_2 g_3 1 q0 _ ?side1 ?side2 A13.out).mono ?_)
  case side1 => repeat (first | exact (Kd.R_reads' HG0_0.out).2.2 | (with_reducible refine Kd.C_alloc ?_ _) | (with_reducible refine Kd.C_drewN ?_ _) | (with_reducible refine Kd.C_drew ?_))
  case side2 => have l_ := (Kd.R_reads' HG0_0.out).2.1; rw [LG0_0.out] at l_; exact l_
  rintro e w28 ⟨rfl, hb⟩
  have N28 := Qz.mk (show w27.heap.size ≤ w28.heap.size from by first | exact hb.size | exact Nat.le_trans (by simp) hb.size)
  have n_ := Qz.mk (Kd.R_below yq117 hb); clear HW0_0; have HW0_0 := n_; clear n_
  have n_ := Qz.mk (Kd.R_below yq118 hb); clear HG0_0; have HG0_0 := n_; clear n_
  have n_ := Qz.mk (Kd.R_below (by (with_reducible repeat (first | apply Kd.R_alloc | apply Kd.R_drewN | apply Kd.R_drew)); exact HH0_0.out) hb); clear HH0_0; have HH0_0 := n_; clear n_
  have n_ := Qz.mk (qo BK0.out hb); clear BK0; have BK0 := n_; clear n_
  have n_ := Qz.mk (qo BK1.out hb); clear BK1; have BK1 := n_; clear n_
  have n_ := Qz.mk (qo BK2.out hb); clear BK2; have BK2 := n_; clear n_
  have n_ := Qz.mk (qo BK3.out hb); clear BK3; have BK3 := n_; clear n_
  have n_ := Qz.mk (qo BK4.out hb); clear BK4; have BK4 := n_; clear n_
  have n_ := Qz.mk (qk yq116 hb); clear HB; have HB := n_; clear n_ hb
  try clear hz0_0 hz0_1 hz0_2 hz0_3 hz1_0 hz1_1 hz1_2 hz1_3 hz2_0 hz2_1 hz2_2 hz2_3 hz3_0 hz3_1 hz3_2 hz3_3 hz4_0 hz4_1 hz4_2 hz4_3
  try clear hy0_0
  try clear hy0_1
  try clear hy0_2
  try clear hy0_3
  try clear hy1_0
  try clear hy1_1
  try clear hy1_2
  try clear hy1_3
  try clear hy2_0
  try clear hy2_1
  try clear hy2_2
  try clear hy2_3
  try clear hy3_0
  try clear hy3_1
  try clear hy3_2
  try clear hy3_3
  try clear hy4_0
  try clear hy4_1
  try clear hy4_2
  try clear hy4_3
  have hz0_0 := (qa BK0.out 0).trans rfl
  have hz0_1 := (qa BK0.out 1).trans rfl
  have hz0_2 := (qa BK0.out 2).trans rfl
  have hz0_3 := (qa BK0.out 3).trans rfl
  have hz1_0 := (qa BK1.out 0).trans rfl
  have hz1_1 := (qa BK1.out 1).trans rfl
  have hz1_2 := (qa BK1.out 2).trans rfl
  have hz1_3 := (qa BK1.out 3).trans rfl
  have hz2_0 := (qa BK2.out 0).trans rfl
  have hz2_1 := (qa BK2.out 1).trans rfl
  have hz2_2 := (qa BK2.out 2).trans rfl
  have hz2_3 := (qa BK2.out 3).trans rfl
  have hz3_0 := (qa BK3.out 0).trans rfl
  have hz3_1 := (qa BK3.out 1).trans rfl
  have hz3_2 := (qa BK3.out 2).trans rfl
  have hz3_3 := (qa BK3.out 3).trans rfl
  have hz4_0 := (qa BK4.out 0).trans rfl
  have hz4_1 := (qa BK4.out 1).trans rfl
  have hz4_2 := (qa BK4.out 2).trans rfl
  have hz4_3 := (qa BK4.out 3).trans rfl
  go_wp2
  go_ret
  exact ⟨rfl, yq116⟩
end Go.Proofs.Ytcgejabkjljeeaa.P
end
