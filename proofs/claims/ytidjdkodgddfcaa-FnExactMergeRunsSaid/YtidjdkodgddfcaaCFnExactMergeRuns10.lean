/- Proved: the law FnExactMergeRuns of the given program returns true for every input of its Go types and leaves each argument as it was; no condition. (Part 11 of 13.) -/
import Derived.Test.YtidjdkodgddfcaaCFnExactMergeRuns4
import Derived.Lib.SliceRun
import Derived.Lib.Walk
import Derived.Test.YtidjdkodgddfcaaCFnExactMergeRuns6
import Derived.Test.YtidjdkodgddfcaaCFnExactMergeRuns9
import Derived.Test.YtidjdkodgddfcaaCFnExactMergeRuns7
import Derived.Shelf.SlSortCmp.KitK
import Derived.Deep.LoopGhost
import Derived.Test.YtidjdkodgddfcaaCFnExactMergeRuns5
section
namespace Go.Proofs.Ytidjdkodgddfcaa.P
open Go.RowKit Go.Proofs.YtidjdkodgddfcaaW.PrintWords Go.Proofs.YtidjdkodgddfcaaW.PrintLast Go.Proofs.YtidjdkodgddfcaaW.PrintMore
attribute [local go_sem] str_gtr str_leq str_geq max2_int min2_int max_two min_two max_three min_three max_four min_four
set_option linter.unusedVariables false
set_option linter.unusedSimpArgs false
theorem R_empty {α : Type} (d : Kd α) (e : Nat) (w : World) (base : Nat) (hb : base ≤ w.heap.size) : d.R e (w.alloc (.cells #[] e)) base (fun _ => True) (.slice (some ⟨w.heap.size, 0, none⟩) ([] : List α).length 0) [] :=
  ⟨fun _ _ => trivial, [], World.ownsRow_made w #[] 0 hb (Nat.zero_le _) (by simp), Reps.none _ _⟩
set_option maxHeartbeats 4000000 in
set_option maxRecDepth 100000 in
theorem clone_Entry (A0 : Option Addr) (c0 : Nat) (l : List S64) (w0 w : World) (hB : Below w0.heap.size w0 w) (hr : Kd.C k64 w A0 l.length l) (hl : l.length * 48 ≤ 140737488355328) :
    Calls Try.prog 168 #[.slice A0 l.length c0] w fun e w' => ∃ v, e = .returned v ∧ Kd.R k64 64 w' w0.heap.size (fun _ => True) v l ∧ Below w0.heap.size w0 w' := by
  have q : ∀ (w : World) (a : Option Addr) (n c n' c' : Nat), (binOp .eql 26 (.slice a n c) (.slice none n' c')).run Try.prog w = .ok (.bool a.isNone) w := fun w a n c n' c' => Lib.run_eql_slice_nil w _ _ a n c n' c' Try.underlying26
  have HR := Aside0.mk hr
  have HB := Aside0.mk hB
  have hsz := hB.size
  cases A0 with
  | none =>
    have h0 : l = [] := by
      by_cases h0 : l.length = 0
      · exact List.length_eq_zero_iff.1 h0
      · obtain ⟨ad, e, _⟩ := hr.2.2 (by omega)
        cases e
    clear hr hB
    go_enter Try.func168, Try.ntmps168
    go_wp2
    go_ret
    refine ⟨_, rfl, ?_, HB.out⟩
    rw [h0]
    exact Kd.R_nil _ _ _ _ _
  | some ad =>
    clear hr hB
    have HX := Aside0.mk hl
    clear hl
    go_enter Try.func168, Try.ntmps168
    go_wp2_with (first | ((with_reducible refine gate_builtin (b := .append) (xs := #[.tmp 5, .tmp 6]) rfl ?_); at_builtin; refine Kd.R_append_rows k64 (w0 := w0) w0.heap.size rfl (.tmp 5) (.tmp 6) 26 64 (.agg #[.string ⟨#[]⟩, .int .i64 0, .int .i64 0, .string ⟨#[]⟩]) 48 rfl Try.underlying26 info64 rfl (by decide) (by omega) (.slice (some ⟨w.heap.size, 0, none⟩) ([] : List S64).length 0) [] l (some ad) l.length c0 (fun _ => True) (fun _ => False) rfl rfl ?aO ?aR (fun _ _ h => h) (fun _ h => h.elim) ?aF ?aB ?aS ?aL ?_; (case aO => exact R_empty k64 64 w _ hsz); (case aR => exact Kd.C_below HR.out ((Below.refl _ w).alloc (Nat.le_refl _) _)); (case aF => exact fun _ _ => trivial); (case aB => exact HB.out.alloc hsz _); (case aS => exact (HB.out.alloc hsz _).size); (case aL => have := HX.out; simp only [List.length_nil, Nat.zero_add]; exact this); intro v1 w1 ho hb hg hat))
    go_ret
    exact ⟨_, rfl, ho, hb⟩
end Go.Proofs.Ytidjdkodgddfcaa.P
end

section
namespace Go.Proofs.Ytidjdkodgddfcaa.P
open Go.RowKit Go.Proofs.YtidjdkodgddfcaaW.PrintWords Go.Proofs.YtidjdkodgddfcaaW.PrintLast Go.Proofs.YtidjdkodgddfcaaW.PrintMore
attribute [local go_sem] str_gtr str_leq str_geq max2_int min2_int max_two min_two max_three min_three max_four min_four
set_option linter.unusedVariables false
set_option linter.unusedSimpArgs false
theorem cmpB_entries : CmpB Try.prog 97 #[] encL (cfL ecmp) := by
  intro W x y
  obtain ⟨k, hk⟩ := Ev.rounds (cmpKeys_ev x.1.f0.f0 x.1.f0.f1 x.1.f0.f2 y.1.f0.f0 y.1.f0.f1 y.1.f0.f2)
  exact impl_cmpEntries.calls k x.1.f0.f0 x.1.f0.f1 x.1.f0.f2 x.1.f1 y.1.f0.f0 y.1.f0.f1 y.1.f0.f2 y.1.f1 _ W (by unfold impl_cmpEntries.f; rw [hk]; rfl)
def impl_ordered.f (l0 : List S64) : Option (List S64) := if l0.length ≤ 1000000 then some (srt ecmp l0) else none
set_option maxHeartbeats 4000000 in
theorem impl_ordered.calls (A0 : Option Addr) (c0 : Nat) (l0 : List S64) (r : List S64) (w : World) (hr0 : Kd.C k64 w A0 l0.length l0) (hc0 : l0.length ≤ c0) (h : impl_ordered.f l0 = some r) :
    Calls Try.prog 117 #[.slice A0 l0.length c0] w fun e w' => ∃ v0_ : Value, e = .returned (v0_) ∧ Kd.R k64 64 w' w.heap.size (fun _ => True) v0_ r ∧ Below w.heap.size w w' := by
  unfold impl_ordered.f at h
  split at h
  · rename_i hl
    obtain rfl := Option.some.inj h
    have hcl := clone_Entry A0 c0 l0 w w (Below.refl _ w) hr0 (by omega)
    have hso := fun v W hR hB => sort_own 97 ecmp (fun args w => by kernel_rfl) cmpB_entries w.heap.size v l0 w W hR hB (by omega)
    have HSO := Aside0.mk hso
    clear hr0 hc0 h hl hso
    generalize srt ecmp l0 = r at HSO ⊢
    have q1 : ∀ args w, (callFunc 168 args).run Try.prog w = .ok (.enter 168 args) w := fun args w => by kernel_rfl
    have q2 : ∀ args w, (callFunc 169 args).run Try.prog w = .ok (.enter 169 args) w := fun args w => by kernel_rfl
    go_enter Try.func117, Try.ntmps117
    go_wp2_with fail
    (with_reducible refine hcl.mono ?_)
    rintro e w1 ⟨v, rfl, hR, hB⟩
    have hso := HSO.out v w1 hR hB
    clear hcl hR hB HSO
    go_wp2_with fail
    (with_reducible refine hso.mono ?_)
    rintro e w2 ⟨rfl, hR, hB⟩
    have HR := Aside0.mk hR
    have HB := Aside0.mk hB
    clear hso hR hB
    go_wp2
    go_ret
    exact ⟨_, rfl, HR.out, HB.out⟩
  · cases h
end Go.Proofs.Ytidjdkodgddfcaa.P
end

section
namespace Go.Proofs.Ytidjdkodgddfcaa.P
open Go.RowKit Go.Proofs.YtidjdkodgddfcaaW.PrintWords Go.Proofs.YtidjdkodgddfcaaW.PrintLast Go.Proofs.YtidjdkodgddfcaaW.PrintMore
attribute [local go_sem] str_gtr str_leq str_geq max2_int min2_int max_two min_two max_three min_three max_four min_four
set_option linter.unusedVariables false
set_option linter.unusedSimpArgs false
attribute [local go_sem high] eqA35
def impl_merged_1.f (a0_0 : ByteArray) (a0_1 : Int) (a0_2 : Int) (a0_3 : ByteArray) (a1_0 : ByteArray) (a1_1 : Int) (a1_2 : Int) (a1_3 : ByteArray) : Option (Bool) := some (a0_0.toList == a1_0.toList && (a0_1 == a1_1 && (a0_2 == a1_2)))
set_option maxHeartbeats 8000000 in
set_option maxRecDepth 100000 in
theorem impl_merged_1.calls (a0_0 : ByteArray) (a0_1 : Int) (a0_2 : Int) (a0_3 : ByteArray) (a1_0 : ByteArray) (a1_1 : Int) (a1_2 : Int) (a1_3 : ByteArray) (r : Bool) (w : World) (h : impl_merged_1.f a0_0 a0_1 a0_2 a0_3 a1_0 a1_1 a1_2 a1_3 = some r) :
    Calls Try.prog 161 #[.agg #[.string a0_0, .int .i64 a0_1, .int .i64 a0_2, .string a0_3], .agg #[.string a1_0, .int .i64 a1_1, .int .i64 a1_2, .string a1_3]] w fun e w' => e = .returned (.bool r) ∧ Below w.heap.size w w' := by
  have hu64 := Try.underlying64
  have hu35 := Try.underlying35
  have HB := Aside0.mk (Below.refl w.heap.size w)
  have H : (some (a0_0.toList == a1_0.toList && (a0_1 == a1_1 && (a0_2 == a1_2)))) = some r := h
  clear h
  obtain rfl := Option.some.inj H
  go_enter Try.func161, Try.ntmps161
  go_wp2_with (first | ((with_reducible refine gate_dst (N := 2) rfl ?_); refine box_event ?hg (N := 2) ?hd (cs := #[.string a0_0, .int .i64 a0_1, .int .i64 a0_2, .string a0_3]) (t := 64) ?hr ?_; (case hd => rfl); (case hg => rfl); (case hr => first | (go_simp; done) | (go_simp; rfl)); intro gb101 hg w3 hbox hb; have n0_ := Aside0.mk (below_step (by repeat (first | (with_reducible first | exact HB.out | apply below_alloc | apply pw_below_drewN | apply below_drew1) | exact HB.out)) hb); have n1_ := Aside0.mk (hbox); have n2_ := Aside0.mk ((by rw [hg]; exact (below_size (by repeat (first | (with_reducible first | exact HB.out | apply below_alloc | apply pw_below_drewN | apply below_drew1) | exact HB.out))) : w.heap.size ≤ gb101)); have n3_ := Aside0.mk ((by rw [hg]; exact (below_size (by repeat (first | (with_reducible first | exact HB.out | apply below_alloc | apply pw_below_drewN | apply below_drew1) | exact HB.out))) : w.heap.size ≤ gb101)); clear HB; have HB := n0_; have BK101 := n1_; have GW101 := n2_; have GE101 := n3_; clear n0_ n1_ n2_ n3_; clear hb hbox hg) | ((with_reducible refine gate_dst (N := 3) rfl ?_); refine box_event ?hg (N := 3) ?hd (cs := #[.string a1_0, .int .i64 a1_1, .int .i64 a1_2, .string a1_3]) (t := 64) ?hr ?_; (case hd => rfl); (case hg => rfl); (case hr => first | (go_simp; done) | (go_simp; rfl)); intro gb102 hg w4 hbox hb; have n0_ := Aside0.mk (blk_below (g := gb101) (o := .cells #[.string a0_0, .int .i64 a0_1, .int .i64 a0_2, .string a0_3] 64 (0, 0)) (by (with_reducible repeat (first | refine blk_drewN ?_ _ | refine blk_drew ?_ | refine blk_alloc ?_ _)); exact BK101.out) hb); have n1_ := Aside0.mk (below_step (by repeat (first | (with_reducible first | exact HB.out | apply below_alloc | apply pw_below_drewN | apply below_drew1 | refine below_set ?_ GE101.out) | exact HB.out)) hb); have n2_ := Aside0.mk (hbox); have n3_ := Aside0.mk ((by rw [hg]; exact (below_size (by repeat (first | (with_reducible first | exact HB.out | apply below_alloc | apply pw_below_drewN | apply below_drew1 | refine below_set ?_ GE101.out) | exact HB.out))) : w.heap.size ≤ gb102)); have n4_ := Aside0.mk ((by rw [hg]; exact (below_size (by repeat (first | (with_reducible first | exact HB.out | apply below_alloc | apply pw_below_drewN | apply below_drew1 | refine below_set ?_ GE101.out) | exact HB.out))) : w.heap.size ≤ gb102)); have n5_ := Aside0.mk ((by rw [hg]; exact Nat.ne_of_lt (blk_lt (g := gb101) (o := .cells #[.string a0_0, .int .i64 a0_1, .int .i64 a0_2, .string a0_3] 64 (0, 0)) (by (with_reducible repeat (first | refine blk_drewN ?_ _ | refine blk_drew ?_ | refine blk_alloc ?_ _)); exact BK101.out)) : gb101 ≠ gb102)); have n6_ := Aside0.mk ((by rw [hg]; exact Nat.ne_of_gt (blk_lt (g := gb101) (o := .cells #[.string a0_0, .int .i64 a0_1, .int .i64 a0_2, .string a0_3] 64 (0, 0)) (by (with_reducible repeat (first | refine blk_drewN ?_ _ | refine blk_drew ?_ | refine blk_alloc ?_ _)); exact BK101.out)) : gb102 ≠ gb101)); clear BK101; clear HB; have BK101 := n0_; have HB := n1_; have BK102 := n2_; have GW102 := n3_; have GE102 := n4_; have NB101_102 := n5_; have NB102_101 := n6_; clear n0_ n1_ n2_ n3_ n4_ n5_ n6_; clear hb hbox hg; have hnb5 := NB101_102.out; have hnc5 := NB102_101.out; have hcz6_0 : w4.cell? ⟨gb101, 0, none⟩ = some (.string a0_0) := (blk_cell BK101.out 0).trans rfl; have hcz6_1 : w4.cell? ⟨gb101, 1, none⟩ = some (.int .i64 a0_1) := (blk_cell BK101.out 1).trans rfl; have hcz6_2 : w4.cell? ⟨gb101, 2, none⟩ = some (.int .i64 a0_2) := (blk_cell BK101.out 2).trans rfl; have hcz6_3 : w4.cell? ⟨gb101, 3, none⟩ = some (.string a0_3) := (blk_cell BK101.out 3).trans rfl; have hfz6_0 := blk_frozen BK101.out 0; have hfz6_1 := blk_frozen BK101.out 1; have hfz6_2 := blk_frozen BK101.out 2; have hfz6_3 := blk_frozen BK101.out 3; have hcz7_0 : w4.cell? ⟨gb102, 0, none⟩ = some (.string a1_0) := (blk_cell BK102.out 0).trans rfl; have hcz7_1 : w4.cell? ⟨gb102, 1, none⟩ = some (.int .i64 a1_1) := (blk_cell BK102.out 1).trans rfl; have hcz7_2 : w4.cell? ⟨gb102, 2, none⟩ = some (.int .i64 a1_2) := (blk_cell BK102.out 2).trans rfl; have hcz7_3 : w4.cell? ⟨gb102, 3, none⟩ = some (.string a1_3) := (blk_cell BK102.out 3).trans rfl; have hfz7_0 := blk_frozen BK102.out 0; have hfz7_1 := blk_frozen BK102.out 1; have hfz7_2 := blk_frozen BK102.out 2; have hfz7_3 := blk_frozen BK102.out 3))
  go_ret
  exact ⟨by first | rfl | (simp [errW_none, errW_some] <;> rfl) | (simp [*, errW_none, errW_some] <;> rfl), by repeat (first | (with_reducible first | exact HB.out | apply below_alloc | apply pw_below_drewN | apply below_drew1 | refine below_set ?_ GE101.out | refine below_set ?_ GE102.out) | exact HB.out)⟩
end Go.Proofs.Ytidjdkodgddfcaa.P
end

section
namespace Go.Proofs.Ytidjdkodgddfcaa.P
open Go.RowKit Go.Proofs.YtidjdkodgddfcaaW.PrintWords Go.Proofs.YtidjdkodgddfcaaW.PrintLast Go.Proofs.YtidjdkodgddfcaaW.PrintMore
attribute [local go_sem] str_gtr str_leq str_geq max2_int min2_int max_two min_two max_three min_three max_four min_four
set_option linter.unusedVariables false
set_option linter.unusedSimpArgs false
def idxf {α : Type} (p : α → Bool) : List α → Nat → Int
  | [], _ => -1
  | x :: xs, i => if p x = true then (i : Int) else idxf p xs (i + 1)
theorem idxf_hit {α : Type} (p : α → Bool) (d : α) : ∀ (l : List α) (k i : Nat), k < l.length → p (l.getD k d) = true → (∀ j, j < k → p (l.getD j d) = false) → idxf p l i = ((i + k : Nat) : Int)
  | [], _, _, h, _, _ => absurd h (Nat.not_lt_zero _)
  | x :: xs, 0, i, _, h, _ => by
    have : p x = true := by simpa using h
    simp [idxf, this]
  | x :: xs, k + 1, i, hk, h, hn => by
    have h0 : p x = false := by simpa using hn 0 (Nat.succ_pos _)
    simp only [idxf, h0, Bool.false_eq_true, if_false]
    rw [idxf_hit p d xs k (i + 1) (by simpa using hk) (by simpa using h) (fun j hj => by simpa using hn (j + 1) (by omega))]
    congr 1
    omega
theorem idxf_miss {α : Type} (p : α → Bool) (d : α) : ∀ (l : List α) (i : Nat), (∀ j, j < l.length → p (l.getD j d) = false) → idxf p l i = -1
  | [], _, _ => rfl
  | x :: xs, i, hn => by
    have h0 : p x = false := by simpa using hn 0 (by simp)
    simp only [idxf, h0, Bool.false_eq_true, if_false]
    exact idxf_miss p d xs (i + 1) (fun j hj => by simpa using hn (j + 1) (by simpa using hj))
theorem idxf_any {α : Type} (p : α → Bool) : ∀ (l : List α) (i : Nat), decide (0 ≤ idxf p l i) = l.any p
  | [], _ => rfl
  | x :: xs, i => by
    cases h : p x with
    | true => simp [idxf, h]
    | false =>
      simp only [idxf, h, Bool.false_eq_true, if_false, List.any_cons, Bool.false_or]
      exact idxf_any p xs (i + 1)
end Go.Proofs.Ytidjdkodgddfcaa.P
end

section
namespace Go.Proofs.Ytidjdkodgddfcaa.P
open Go.RowKit Go.Proofs.YtidjdkodgddfcaaW.PrintWords Go.Proofs.YtidjdkodgddfcaaW.PrintLast Go.Proofs.YtidjdkodgddfcaaW.PrintMore
attribute [local go_sem] str_gtr str_leq str_geq max2_int min2_int max_two min_two max_three min_three max_four min_four
set_option linter.unusedVariables false
set_option linter.unusedSimpArgs false
theorem zeroCells_length (cs : Array Value) (n : Nat) : (Builtin.zeroCells cs n).toList.length = n * cs.size := by simp [Builtin.zeroCells]
theorem zeroCells_one (cs : Array Value) (n : Nat) (hp : 0 < cs.size) (h : ∀ v ∈ cs, v.oneCell' = true) : ∀ v ∈ (Builtin.zeroCells cs n).toList, v.oneCell' = true := by
  intro v hv
  simp only [Builtin.zeroCells, Array.toList_map, List.mem_map] at hv
  obtain ⟨i, _, rfl⟩ := hv
  rw [getElem!_pos cs (i % cs.size) (Nat.mod_lt _ hp)]
  exact h _ (Array.getElem_mem _)
theorem R_clear {α : Type} (d : Kd α) {P : Program} {e : Nat} {W : World} {base : Nat} {ok : Nat → Prop} {g n cap : Nat} {xs : List α} (HO : d.R e W base ok (.slice (some ⟨g, 0, none⟩) n cap) xs) (i : Nat) (hi : i ≤ n) (t : TypeId) (z : Value)
    (ht : P.underlying t = some (.slice e)) (hv : ∀ w, (zeroValue e).run P w = .ok z w) (hz : z.cells.size = d.sz) (h0 : 0 < d.sz) (h1 : ∀ v ∈ z.cells, v.oneCell' = true) (a' : Option Addr) (ha : i < n → a' = some ⟨g, i * d.sz, none⟩) (c' : Nat) :
    ∃ W', (∀ ty, (Builtin.clear_ #[t] ty #[.slice a' (n - i) c']).run P W = .ok (.tuple #[]) W') ∧ d.R e W' base ok (.slice (some ⟨g, 0, none⟩) i cap) (xs.take i) ∧ W.grownBy W' (some g) := by
  have hn : n = xs.length := (Kd.R_reads' HO).1
  have HT := Kd.R_take (m := i) HO (by omega)
  rcases Nat.lt_or_ge i n with hin | hge
  · have hown := HO.2
    obtain ⟨inner, ho, _⟩ := hown
    rcases ho.2 with ⟨hv0, _⟩ | ⟨g', cap', cur, hv0, hb, hh, hnc, hcm, hcs, htk⟩
    · cases hv0
    injection hv0 with ea _ ec
    injection ea with ea
    injection ea with eg
    subst eg; subst ec
    have hlen : (Builtin.zeroCells z.cells (n - i)).toList.length = (n - i) * d.sz := by rw [zeroCells_length, hz]
    have hfit : i * d.sz + (n - i) * d.sz ≤ cur.size := by
      rw [← Nat.add_mul, hcs]
      exact Nat.mul_le_mul_right _ (by omega)
    have hst := run_storeCells_cells (P := P) g (i * d.sz) (Builtin.zeroCells z.cells (n - i)).toList 0 W (fun j hj => by rw [cell_of_row W g _ cur e (0, 0) hh]; rw [hlen] at hj; simp; omega) (fun j _ => blk_frozen hh _) (zeroCells_one _ _ (by omega) h1)
    simp only [Nat.add_zero] at hst
    refine ⟨W.setCells g (i * d.sz) (Builtin.zeroCells z.cells (n - i)).toList, fun ty => ?_, ?_, ?_⟩
    · rw [ha hin]
      obtain ⟨m, hm⟩ : ∃ m, n - i = m + 1 := ⟨n - i - 1, by omega⟩
      rw [hm] at hst ⊢
      simp [Builtin.clear_, run_underlying ht, hv, hst]
    · obtain ⟨h2, inner', ho', hr'⟩ := HT
      refine ⟨h2, inner', ?_, hr'.imp_ (fun _ _ hp => d.M_move (fun k hk => setCells_far _ _ k (fun he => hk.2 (by rw [he]; simp [Value.ownBlock]))) hp)⟩
      obtain ⟨cur', h3, h4, h5⟩ := setCells_row (Builtin.zeroCells z.cells (n - i)).toList (i * d.sz) W cur hh (by rw [hlen]; exact hfit)
      have hti : (xs.take i).length = i := by rw [List.length_take]; omega
      rw [hti] at ho' ⊢
      rcases ho'.2 with ⟨hv1, _⟩ | ⟨g1, cap1, cur1, hv1, hb1, hh1, hnc1, hcm1, hcs1, htk1⟩
      · cases hv1
      injection hv1 with ea ei ec
      injection ea with ea
      injection ea with eg
      subst eg; subst ec
      rw [hh] at hh1
      injection hh1 with hh1
      injection hh1 with hh1
      subst hh1
      refine ⟨ho'.1, .inr ⟨g, cap, cur', rfl, hb, h3, hnc1, hcm, by rw [h4, hcs], ?_⟩⟩
      rw [h5, ← htk1, List.append_assoc, List.take_append_of_le_length (by rw [List.length_take, Array.length_toList]; omega), List.take_take, Nat.min_self]
    · obtain ⟨s1, s2, s3, s4⟩ := setCells_same g (Builtin.zeroCells z.cells (n - i)).toList (i * d.sz) W
      exact ⟨s1, s2, s3, by rw [s4]; exact Nat.le_refl _, fun k _ hk => setCells_far _ _ k (fun he => hk (by rw [he]))⟩
  · obtain rfl : i = n := by omega
    refine ⟨W, fun ty => ?_, HT, World.grownBy.refl W _⟩
    rw [Nat.sub_self]
    cases a' <;> simp [Builtin.clear_, run_underlying ht]
def StayBut (W W' : World) (v : Value) : Prop := W.heap.size ≤ W'.heap.size ∧ ∀ k, k < W.heap.size → some k ≠ v.ownBlock → W'.heap[k]? = W.heap[k]?
theorem StayBut.below {W W' : World} (h : Below W.heap.size W W') (v : Value) : StayBut W W' v := ⟨h.size, fun k hk _ => h.block k hk⟩
theorem StayBut.step {W W1 W2 : World} {v : Value} (h : StayBut W W1 v) (hb : Below W1.heap.size W1 W2) : StayBut W W2 v := ⟨Nat.le_trans h.1 hb.size, fun k hk hv => (hb.block k (Nat.lt_of_lt_of_le hk h.1)).trans (h.2 k hk hv)⟩
theorem StayBut.grown {W W1 W2 : World} {v : Value} {g : Nat} (h : StayBut W W1 v) (hg : W1.grownBy W2 (some g)) (hv : v.ownBlock = some g) : StayBut W W2 v := ⟨Nat.le_trans h.1 hg.size, fun k hk hk2 => (hg.block k (Nat.lt_of_lt_of_le hk h.1) (by rw [← hv]; exact hk2)).trans (h.2 k hk hk2)⟩
theorem take_snoc {α : Type} (xs : List α) (k : Nat) (d : α) (h : k < xs.length) : xs.take (k + 1) = xs.take k ++ [xs.getD k d] := by
  rw [List.take_add_one, List.getD_eq_getElem?_getD, List.getElem?_eq_getElem h]
  rfl
end Go.Proofs.Ytidjdkodgddfcaa.P
end

section
namespace Go.Proofs.Ytidjdkodgddfcaa.P
open Go.RowKit Go.Proofs.YtidjdkodgddfcaaW.PrintWords Go.Proofs.YtidjdkodgddfcaaW.PrintLast Go.Proofs.YtidjdkodgddfcaaW.PrintMore
attribute [local go_sem] str_gtr str_leq str_geq max2_int min2_int max_two min_two max_three min_three max_four min_four
set_option linter.unusedVariables false
set_option linter.unusedSimpArgs false
open Go.Sort
def cptF {α : Type} (eq : α → α → Bool) : α → List α → List α
  | _, [] => []
  | p, y :: ys => if eq y p = true then cptF eq y ys else y :: cptF eq y ys
def cptL {α : Type} (eq : α → α → Bool) : List α → List α
  | [] => []
  | x :: xs => x :: cptF eq x xs
theorem cptF_snoc {α : Type} (eq : α → α → Bool) (d x : α) : ∀ (l : List α) (p : α), cptF eq p (l ++ [x]) = cptF eq p l ++ (if eq x ((p :: l).getD l.length d) = true then [] else [x])
  | [], p => by
    simp only [List.nil_append, cptF, List.length_nil, List.getD_cons_zero]
    (try (split <;> rfl))
  | y :: ys, p => by
    have ih := cptF_snoc eq d x ys y
    rw [List.cons_append, cptF, cptF, ih, List.length_cons, List.getD_cons_succ]
    (try (split <;> rfl))
theorem cptL_step {α : Type} (eq : α → α → Bool) (d : α) (xs : List α) (j : Nat) (hj : j + 1 < xs.length) : cptL eq (xs.take (j + 1 + 1)) = cptL eq (xs.take (j + 1)) ++ (if eq (xs.getD (j + 1) d) (xs.getD j d) = true then [] else [xs.getD (j + 1) d]) := by
  rw [take_snoc xs (j + 1) d hj]
  cases xs with
  | nil => simp at hj
  | cons p l =>
    rw [List.take_succ_cons, List.cons_append, cptL, cptL, cptF_snoc eq d]
    have hl : (l.take j).length = j := by
      rw [List.length_take]
      simp only [List.length_cons] at hj
      omega
    rw [hl]
    have e : (p :: l.take j).getD j d = (p :: l).getD j d := by
      cases j with
      | zero => rfl
      | succ j =>
        rw [List.getD_cons_succ, List.getD_cons_succ, List.getD_eq_getElem?_getD, List.getElem?_take, if_pos (by omega), ← List.getD_eq_getElem?_getD]
    rw [e]
    rfl
theorem below_growX {w : World} (t : Nat) (os : Array Obj) : Below w.heap.size w (grow (atD w t) os) :=
  ⟨rfl, rfl, rfl, by rw [size_grow]; exact Nat.le_add_right _ _, fun k hk => heap_grow_old (atD w t) os hk⟩
theorem cell_growX {w : World} {a : Addr} {v : Value} (h : w.cell? a = some v) (t : Nat) (os : Array Obj) : (grow (atD w t) os).cell? a = some v :=
  ((below_growX t os).cell (World.block_lt_of_cell? _ _ h)).trans h
set_option maxHeartbeats 8000000 in
set_option maxRecDepth 100000 in
theorem compactFunc_Entry (g : Nat) (eqb : S64 → S64 → Bool) (base : Nat) (v : Value) (xs : List S64) (w0 W : World) (hr : Kd.R k64 64 W base (fun _ => True) v xs) (hB : Below base w0 W) (hbase : base ≤ W.heap.size)
    (eg : ∀ args w, (callFunc g args).run Try.prog w = .ok (.enter g args) w)
    (hp : ∀ (x y : S64) (W' : World), Calls Try.prog g #[.agg #[.string x.f0.f0, .int .i64 x.f0.f1, .int .i64 x.f0.f2, .string x.f1], .agg #[.string y.f0.f0, .int .i64 y.f0.f1, .int .i64 y.f0.f2, .string y.f1]] W' fun e w' => e = .returned (.bool (eqb x y)) ∧ Below W'.heap.size W' w') :
    Calls Try.prog 160 #[v, .func (.func g) #[] #[]] W fun e w' => ∃ v1, e = .returned v1 ∧ Kd.R k64 64 w' base (fun _ => True) v1 (cptL eqb xs) ∧ Below base w0 w' := by
  have hu := Try.underlying64
  by_cases h2 : xs.length < 2
  · obtain ⟨Ad, c, rfl, hc, hC⟩ := Kd.R_reads hr
    have h2z : (xs.length : Int) < 2 := by omega
    have e : cptL eqb xs = xs := by
      match xs, h2 with
      | [], _ => rfl
      | [x], _ => rfl
      | x :: y :: l, h => simp only [List.length_cons] at h; omega
    have HR := Aside0.mk hr
    have HB := Aside0.mk hB
    clear hr hB hp hC
    go_enter Try.func160, Try.ntmps160
    go_wp2
    go_ret
    rw [e]
    exact ⟨_, rfl, HR.out, HB.out⟩
  · have h2z : ¬ (xs.length : Int) < 2 := by omega
    obtain ⟨gg, cap, rfl, hgb, hgl, _⟩ := Kd.R_form hr (by omega)
    obtain ⟨_, hcc, _⟩ := Kd.R_reads' hr
    have hsz : xs.length ≤ 9223372036854775807 := by
      obtain ⟨inner, ho⟩ := Kd.R_own hr
      rcases ho.2 with ⟨h, _⟩ | ⟨_, _, _, _, _, _, h1, h2, _⟩
      · cases h
      · exact Nat.le_trans h1 h2
    have HR := Aside0.mk hr
    have HB := Aside0.mk hB
    have HP := Aside0.mk hp
    clear hr hB hp
    go_enter Try.func160, Try.ntmps160
    go_wp2
    go_loopg [5] xs.length (fun gk s5 wr => ∃ (jp : Nat), s5 = .int .i64 ((jp : Int) + 1) ∧ jp + 1 ≤ xs.length ∧ xs.length - (jp + 1) ≤ gk ∧ Aside0 (Kd.R k64 64 wr base (fun _ => True) (.slice (some ⟨gg, 0, none⟩) xs.length cap) xs) ∧ Aside0 (cptL eqb (xs.take (jp + 1)) = xs.take (jp + 1)) ∧ Aside0 (Below base w0 wr) ∧ Aside0 (base ≤ wr.heap.size))
    case atStart =>
      refine ⟨0, by first | rfl | go_num, by omega, by omega, HR, ⟨?_⟩, HB, ⟨hbase⟩⟩
      cases xs with
      | nil => rfl
      | cons x l => rfl
    case round =>
      clear HR HB
      obtain ⟨jp, rfl, hjn, hg, HO, HT, HBr, HS⟩ := hrel
      by_cases hlt : jp + 1 < xs.length
      · have hd : (jp : Int) + 1 < (xs.length : Int) := by omega
        have e1 : ((jp : Int) + 1).toNat = jp + 1 := by omega
        have p1 : (0 : Int) ≤ (jp : Int) + 1 := by omega
        have p2 : (jp : Int) < (xs.length : Int) := by omega
        have w1 : IntKind.i64.wrap (jp : Int) = (jp : Int) := by rw [IntKind.wrap_i64]; omega
        have w2_ : IntKind.i64.wrap ((jp : Int) + 1) = (jp : Int) + 1 := by rw [IntKind.wrap_i64]; omega
        have ST := Aside0.mk (cptL_step eqb z64 xs jp hlt)
        have TS := Aside0.mk (take_snoc xs (jp + 1) z64 hlt)
        obtain ⟨cex, _, hMx, hcx, _⟩ := Kd.R_elem HO.out z64 ((jp + 1 : Nat) : Int) (by omega) (by omega)
        obtain rfl := k64_openM hMx
        rw [Int.toNat_natCast] at hcx
        obtain ⟨cey, _, hMy, hcy, _⟩ := Kd.R_elem HO.out z64 ((jp : Nat) : Int) (by omega) (by omega)
        obtain rfl := k64_openM hMy
        rw [Int.toNat_natCast] at hcy
        generalize xs.getD (jp + 1) z64 = x at hcx ST TS
        generalize xs.getD jp z64 = y at hcy ST
        have hx0 : ∀ t os, (grow (atD wr t) os).cell? ⟨gg, (jp + 1) * 4, none⟩ = some (.string x.f0.f0) := cell_growX (by have h_ := hcx 0 _ rfl; rw [show (jp + 1) * k64.sz + 0 = (jp + 1) * 4 from by show (jp + 1) * 4 + 0 = (jp + 1) * 4; omega] at h_; exact h_)
        have hx1 : ∀ t os, (grow (atD wr t) os).cell? ⟨gg, (jp + 1) * 4 + 1, none⟩ = some (.int .i64 x.f0.f1) := cell_growX (by have h_ := hcx 1 _ rfl; rw [show (jp + 1) * k64.sz + 1 = (jp + 1) * 4 + 1 from by show (jp + 1) * 4 + 1 = (jp + 1) * 4 + 1; omega] at h_; exact h_)
        have hx2 : ∀ t os, (grow (atD wr t) os).cell? ⟨gg, (jp + 1) * 4 + 2, none⟩ = some (.int .i64 x.f0.f2) := cell_growX (by have h_ := hcx 2 _ rfl; rw [show (jp + 1) * k64.sz + 2 = (jp + 1) * 4 + 2 from by show (jp + 1) * 4 + 2 = (jp + 1) * 4 + 2; omega] at h_; exact h_)
        have hx3 : ∀ t os, (grow (atD wr t) os).cell? ⟨gg, (jp + 1) * 4 + 3, none⟩ = some (.string x.f1) := cell_growX (by have h_ := hcx 3 _ rfl; rw [show (jp + 1) * k64.sz + 3 = (jp + 1) * 4 + 3 from by show (jp + 1) * 4 + 3 = (jp + 1) * 4 + 3; omega] at h_; exact h_)
        have hy0 : ∀ t os, (grow (atD wr t) os).cell? ⟨gg, jp * 4, none⟩ = some (.string y.f0.f0) := cell_growX (by have h_ := hcy 0 _ rfl; rw [show (jp) * k64.sz + 0 = jp * 4 from by show (jp) * 4 + 0 = jp * 4; omega] at h_; exact h_)
        have hy1 : ∀ t os, (grow (atD wr t) os).cell? ⟨gg, jp * 4 + 1, none⟩ = some (.int .i64 y.f0.f1) := cell_growX (by have h_ := hcy 1 _ rfl; rw [show (jp) * k64.sz + 1 = jp * 4 + 1 from by show (jp) * 4 + 1 = jp * 4 + 1; omega] at h_; exact h_)
        have hy2 : ∀ t os, (grow (atD wr t) os).cell? ⟨gg, jp * 4 + 2, none⟩ = some (.int .i64 y.f0.f2) := cell_growX (by have h_ := hcy 2 _ rfl; rw [show (jp) * k64.sz + 2 = jp * 4 + 2 from by show (jp) * 4 + 2 = jp * 4 + 2; omega] at h_; exact h_)
        have hy3 : ∀ t os, (grow (atD wr t) os).cell? ⟨gg, jp * 4 + 3, none⟩ = some (.string y.f1) := cell_growX (by have h_ := hcy 3 _ rfl; rw [show (jp) * k64.sz + 3 = jp * 4 + 3 from by show (jp) * 4 + 3 = jp * 4 + 3; omega] at h_; exact h_)
        clear hMx hMy hcx hcy
        cases hq : eqb x y with
        | false =>
          have HQ := Aside0.mk hq
          have hcl := fun t os => ((HP.out x y (grow (atD wr t) os)).mono fun e w' ⟨he, hb⟩ => (⟨he, grownX_of_below hb⟩ : e = Ending.returned (.bool (eqb x y)) ∧ ∃ t' os', w' = grow (atD (grow (atD wr t) os) t') os'))
          rw [hq] at hcl
          go_wp2_with fail
          refine wp_region_quietX (by kernel_rfl) (by kernel_rfl) ?_
          repeat (quiet_step (first | (go_at_fn g; refine callsX_of (hcl _ _))))
          refine wpQuiet_nil ?_
          intro _ hw_
          obtain ⟨⟨tq, osq⟩, hw_⟩ := hw_
          subst hw_
          have HBX := Aside0.mk (below_growX (w := wr) tq osq)
          clear hcl hx0 hx1 hx2 hx3 hy0 hy1 hy2 hy3
          generalize grow (atD wr tq) osq = w2 at HBX ⊢
          clear hq
          go_wp2
          go_roundg (xs.length - (jp + 1 + 1))
          case measure => omega
          case rel =>
            refine ⟨jp + 1, by first | rfl | go_num | (congr 1; omega), by omega, Nat.le_refl _, ⟨Kd.R_below HO.out HBX.out⟩, ⟨?_⟩, ⟨HBr.out.trans (HBX.out.mono HS.out)⟩, ⟨Nat.le_trans HS.out HBX.out.size⟩⟩
            have ST := ST.out
            rw [HQ.out, if_neg (by simp), HT.out] at ST
            rw [ST, TS.out]
        | true =>
          have HQ := Aside0.mk hq
          have hcl := fun t os => ((HP.out x y (grow (atD wr t) os)).mono fun e w' ⟨he, hb⟩ => (⟨he, grownX_of_below hb⟩ : e = Ending.returned (.bool (eqb x y)) ∧ ∃ t' os', w' = grow (atD (grow (atD wr t) os) t') os'))
          rw [hq] at hcl
          go_wp2_with fail
          refine wp_region_quietX (by kernel_rfl) (by kernel_rfl) ?_
          repeat (quiet_step (first | (go_at_fn g; refine callsX_of (hcl _ _))))
          refine wpQuiet_nil ?_
          intro _ hw_
          obtain ⟨⟨tq, osq⟩, hw_⟩ := hw_
          subst hw_
          have HBX := Aside0.mk (below_growX (w := wr) tq osq)
          clear hcl hx0 hx1 hx2 hx3 hy0 hy1 hy2 hy3
          generalize grow (atD wr tq) osq = w2 at HBX ⊢
          clear hq
          have hcap : ¬ (cap = jp + 1) := by omega
          have HO2 := Aside0.mk (Kd.R_below HO.out HBX.out)
          have HB2 := Aside0.mk (HBr.out.trans (HBX.out.mono HS.out))
          have HS2 := Aside0.mk (Nat.le_trans HS.out HBX.out.size)
          have HT2 : Aside0 (cptL eqb (xs.take (jp + 1 + 1)) = xs.take (jp + 1)) := ⟨by rw [ST.out, HQ.out, if_pos rfl, List.append_nil]; exact HT.out⟩
          clear HO HBr HS HT ST TS HBX HQ
          go_wp2
          go_loopg [5, 7] xs.length (fun gk s5 s7 wr => ∃ (i qp : Nat) (dk : List S64), s5 = .int .i64 i ∧ s7 = .int .i64 ((qp : Int) + 1) ∧ i ≤ jp + 1 + qp ∧ jp + 1 + qp + 1 ≤ xs.length ∧ xs.length - (jp + 1 + qp + 1) ≤ gk ∧ Aside0 (Kd.R k64 64 wr base (fun _ => True) (.slice (some ⟨gg, 0, none⟩) xs.length cap) dk) ∧ Aside0 (dk.take i = cptL eqb (xs.take (jp + 1 + qp + 1))) ∧ Aside0 (∀ q, jp + 1 + qp ≤ q → dk.getD q z64 = xs.getD q z64) ∧ Aside0 (Below base w0 wr) ∧ Aside0 (base ≤ wr.heap.size))
          case atStart => exact ⟨jp + 1, 0, xs, by first | rfl | go_num | (congr 1; omega), by first | rfl | go_num, by omega, by omega, by omega, HO2, ⟨HT2.out.symm⟩, ⟨fun q _ => rfl⟩, HB2, HS2⟩
          case round =>
            clear HO2 HB2 HS2 HT2
            obtain ⟨i, qp, dk, rfl, rfl, hik, hkn, hg2, HO, HT, HQ, HBr, HS⟩ := hrel
            have hdl : dk.length = xs.length := (Kd.R_reads' HO.out).1.symm
            by_cases hlt2 : jp + 1 + qp + 1 < xs.length
            · have hd2 : (qp : Int) + 1 < (xs.length : Int) - ((jp : Int) + 1) := by omega
              have hd3 : (qp : Int) + 1 < ((xs.length - (jp + 1) : Nat) : Int) := by omega
              have hd4 : (qp : Int) < ((xs.length - (jp + 1) : Nat) : Int) := by omega
              have e2 : ((qp : Int) + 1).toNat = qp + 1 := by omega
              have p3 : (0 : Int) ≤ (qp : Int) + 1 := by omega
              have w3_ : IntKind.i64.wrap (qp : Int) = (qp : Int) := by rw [IntKind.wrap_i64]; omega
              have ST := Aside0.mk (cptL_step eqb z64 xs (jp + 1 + qp) hlt2)
              obtain ⟨cex, _, hMx, hcx, _⟩ := Kd.R_elem HO.out z64 ((jp + 1 + qp + 1 : Nat) : Int) (by omega) (by omega)
              obtain rfl := k64_openM hMx
              rw [Int.toNat_natCast] at hcx
              obtain ⟨cey, _, hMy, hcy, _⟩ := Kd.R_elem HO.out z64 ((jp + 1 + qp : Nat) : Int) (by omega) (by omega)
              obtain rfl := k64_openM hMy
              rw [Int.toNat_natCast] at hcy
              rw [HQ.out (jp + 1 + qp + 1) (by omega)] at hcx
              rw [HQ.out (jp + 1 + qp) (by omega)] at hcy
              have HX : Aside0 (xs.getD (jp + 1 + qp + 1) z64 = xs.getD (jp + 1 + qp + 1) z64) := ⟨rfl⟩
              generalize xs.getD (jp + 1 + qp + 1) z64 = x at hcx ST HX
              generalize xs.getD (jp + 1 + qp) z64 = y at hcy ST
              have hx0 : ∀ t os, (grow (atD wr t) os).cell? ⟨gg, (jp + 1) * 4 + (qp + 1) * 4, none⟩ = some (.string x.f0.f0) := cell_growX (by have h_ := hcx 0 _ rfl; rw [show (jp + 1 + qp + 1) * k64.sz + 0 = (jp + 1) * 4 + (qp + 1) * 4 from by show (jp + 1 + qp + 1) * 4 + 0 = (jp + 1) * 4 + (qp + 1) * 4; omega] at h_; exact h_)
              have hx1 : ∀ t os, (grow (atD wr t) os).cell? ⟨gg, (jp + 1) * 4 + (qp + 1) * 4 + 1, none⟩ = some (.int .i64 x.f0.f1) := cell_growX (by have h_ := hcx 1 _ rfl; rw [show (jp + 1 + qp + 1) * k64.sz + 1 = (jp + 1) * 4 + (qp + 1) * 4 + 1 from by show (jp + 1 + qp + 1) * 4 + 1 = (jp + 1) * 4 + (qp + 1) * 4 + 1; omega] at h_; exact h_)
              have hx2 : ∀ t os, (grow (atD wr t) os).cell? ⟨gg, (jp + 1) * 4 + (qp + 1) * 4 + 2, none⟩ = some (.int .i64 x.f0.f2) := cell_growX (by have h_ := hcx 2 _ rfl; rw [show (jp + 1 + qp + 1) * k64.sz + 2 = (jp + 1) * 4 + (qp + 1) * 4 + 2 from by show (jp + 1 + qp + 1) * 4 + 2 = (jp + 1) * 4 + (qp + 1) * 4 + 2; omega] at h_; exact h_)
              have hx3 : ∀ t os, (grow (atD wr t) os).cell? ⟨gg, (jp + 1) * 4 + (qp + 1) * 4 + 3, none⟩ = some (.string x.f1) := cell_growX (by have h_ := hcx 3 _ rfl; rw [show (jp + 1 + qp + 1) * k64.sz + 3 = (jp + 1) * 4 + (qp + 1) * 4 + 3 from by show (jp + 1 + qp + 1) * 4 + 3 = (jp + 1) * 4 + (qp + 1) * 4 + 3; omega] at h_; exact h_)
              have hy0 : ∀ t os, (grow (atD wr t) os).cell? ⟨gg, (jp + 1) * 4 + qp * 4, none⟩ = some (.string y.f0.f0) := cell_growX (by have h_ := hcy 0 _ rfl; rw [show (jp + 1 + qp) * k64.sz + 0 = (jp + 1) * 4 + qp * 4 from by show (jp + 1 + qp) * 4 + 0 = (jp + 1) * 4 + qp * 4; omega] at h_; exact h_)
              have hy1 : ∀ t os, (grow (atD wr t) os).cell? ⟨gg, (jp + 1) * 4 + qp * 4 + 1, none⟩ = some (.int .i64 y.f0.f1) := cell_growX (by have h_ := hcy 1 _ rfl; rw [show (jp + 1 + qp) * k64.sz + 1 = (jp + 1) * 4 + qp * 4 + 1 from by show (jp + 1 + qp) * 4 + 1 = (jp + 1) * 4 + qp * 4 + 1; omega] at h_; exact h_)
              have hy2 : ∀ t os, (grow (atD wr t) os).cell? ⟨gg, (jp + 1) * 4 + qp * 4 + 2, none⟩ = some (.int .i64 y.f0.f2) := cell_growX (by have h_ := hcy 2 _ rfl; rw [show (jp + 1 + qp) * k64.sz + 2 = (jp + 1) * 4 + qp * 4 + 2 from by show (jp + 1 + qp) * 4 + 2 = (jp + 1) * 4 + qp * 4 + 2; omega] at h_; exact h_)
              have hy3 : ∀ t os, (grow (atD wr t) os).cell? ⟨gg, (jp + 1) * 4 + qp * 4 + 3, none⟩ = some (.string y.f1) := cell_growX (by have h_ := hcy 3 _ rfl; rw [show (jp + 1 + qp) * k64.sz + 3 = (jp + 1) * 4 + qp * 4 + 3 from by show (jp + 1 + qp) * 4 + 3 = (jp + 1) * 4 + qp * 4 + 3; omega] at h_; exact h_)
              have HCX := Aside0.mk hcx
              clear hMx hMy hcx hcy
              cases hq : eqb x y with
              | true =>
                have HE := Aside0.mk hq
                have hcl := fun t os => ((HP.out x y (grow (atD wr t) os)).mono fun e w' ⟨he, hb⟩ => (⟨he, grownX_of_below hb⟩ : e = Ending.returned (.bool (eqb x y)) ∧ ∃ t' os', w' = grow (atD (grow (atD wr t) os) t') os'))
                rw [hq] at hcl
                go_wp2_with fail
                refine wp_region_quietX (by kernel_rfl) (by kernel_rfl) ?_
                repeat (quiet_step (first | (go_at_fn g; refine callsX_of (hcl _ _))))
                refine wpQuiet_nil ?_
                intro _ hw_
                obtain ⟨⟨tq, osq⟩, hw_⟩ := hw_
                subst hw_
                have HBX := Aside0.mk (below_growX (w := wr) tq osq)
                clear hcl hx0 hx1 hx2 hx3 hy0 hy1 hy2 hy3
                generalize grow (atD wr tq) osq = w2 at HBX ⊢
                clear hq
                go_wp2
                go_roundg (xs.length - (jp + 1 + qp + 1 + 1))
                case measure => omega
                case rel =>
                  refine ⟨i, qp + 1, dk, rfl, by first | rfl | go_num | (congr 1; omega), by omega, by omega, by omega, ⟨Kd.R_below HO.out HBX.out⟩, ⟨?_⟩, ⟨fun q hq => HQ.out q (by omega)⟩, ⟨HBr.out.trans (HBX.out.mono HS.out)⟩, ⟨Nat.le_trans HS.out HBX.out.size⟩⟩
                  have ST := ST.out
                  rw [HE.out, if_pos rfl, List.append_nil] at ST
                  exact HT.out.trans ST.symm
              | false =>
                have HE := Aside0.mk hq
                have hcl := fun t os => ((HP.out x y (grow (atD wr t) os)).mono fun e w' ⟨he, hb⟩ => (⟨he, grownX_of_below hb⟩ : e = Ending.returned (.bool (eqb x y)) ∧ ∃ t' os', w' = grow (atD (grow (atD wr t) os) t') os'))
                rw [hq] at hcl
                go_wp2_with fail
                refine wp_region_quietX (by kernel_rfl) (by kernel_rfl) ?_
                repeat (quiet_step (first | (go_at_fn g; refine callsX_of (hcl _ _))))
                refine wpQuiet_nil ?_
                intro _ hw_
                obtain ⟨⟨tq, osq⟩, hw_⟩ := hw_
                subst hw_
                have HBX := Aside0.mk (below_growX (w := wr) tq osq)
                clear hcl hx0 hx1 hx2 hx3 hy0 hy1 hy2 hy3
                generalize grow (atD wr tq) osq = w2 at HBX ⊢
                clear hq
                have HO2 := Aside0.mk (Kd.R_below HO.out HBX.out)
                have HB2 := Aside0.mk (HBr.out.trans (HBX.out.mono HS.out))
                have HS2 := Aside0.mk (Nat.le_trans HS.out HBX.out.size)
                have hz0 : w2.cell? ⟨gg, (jp + 1) * 4 + (qp + 1) * 4, none⟩ = some (.string x.f0.f0) := (HBX.out.cell (World.block_lt_of_cell? _ _ (show wr.cell? _ = _ from by have h_ := HCX.out 0 _ rfl; rw [show (jp + 1 + qp + 1) * k64.sz + 0 = (jp + 1) * 4 + (qp + 1) * 4 from by show (jp + 1 + qp + 1) * 4 + 0 = _; omega] at h_; exact h_))).trans (by have h_ := HCX.out 0 _ rfl; rw [show (jp + 1 + qp + 1) * k64.sz + 0 = (jp + 1) * 4 + (qp + 1) * 4 from by show (jp + 1 + qp + 1) * 4 + 0 = _; omega] at h_; exact h_)
                have hz1 : w2.cell? ⟨gg, (jp + 1) * 4 + (qp + 1) * 4 + 1, none⟩ = some (.int .i64 x.f0.f1) := (HBX.out.cell (World.block_lt_of_cell? _ _ (show wr.cell? _ = _ from by have h_ := HCX.out 1 _ rfl; rw [show (jp + 1 + qp + 1) * k64.sz + 1 = (jp + 1) * 4 + (qp + 1) * 4 + 1 from by show (jp + 1 + qp + 1) * 4 + 1 = _; omega] at h_; exact h_))).trans (by have h_ := HCX.out 1 _ rfl; rw [show (jp + 1 + qp + 1) * k64.sz + 1 = (jp + 1) * 4 + (qp + 1) * 4 + 1 from by show (jp + 1 + qp + 1) * 4 + 1 = _; omega] at h_; exact h_)
                have hz2 : w2.cell? ⟨gg, (jp + 1) * 4 + (qp + 1) * 4 + 2, none⟩ = some (.int .i64 x.f0.f2) := (HBX.out.cell (World.block_lt_of_cell? _ _ (show wr.cell? _ = _ from by have h_ := HCX.out 2 _ rfl; rw [show (jp + 1 + qp + 1) * k64.sz + 2 = (jp + 1) * 4 + (qp + 1) * 4 + 2 from by show (jp + 1 + qp + 1) * 4 + 2 = _; omega] at h_; exact h_))).trans (by have h_ := HCX.out 2 _ rfl; rw [show (jp + 1 + qp + 1) * k64.sz + 2 = (jp + 1) * 4 + (qp + 1) * 4 + 2 from by show (jp + 1 + qp + 1) * 4 + 2 = _; omega] at h_; exact h_)
                have hz3 : w2.cell? ⟨gg, (jp + 1) * 4 + (qp + 1) * 4 + 3, none⟩ = some (.string x.f1) := (HBX.out.cell (World.block_lt_of_cell? _ _ (show wr.cell? _ = _ from by have h_ := HCX.out 3 _ rfl; rw [show (jp + 1 + qp + 1) * k64.sz + 3 = (jp + 1) * 4 + (qp + 1) * 4 + 3 from by show (jp + 1 + qp + 1) * 4 + 3 = _; omega] at h_; exact h_))).trans (by have h_ := HCX.out 3 _ rfl; rw [show (jp + 1 + qp + 1) * k64.sz + 3 = (jp + 1) * 4 + (qp + 1) * 4 + 3 from by show (jp + 1 + qp + 1) * 4 + 3 = _; omega] at h_; exact h_)
                have hin : (i : Int) < (xs.length : Int) := by omega
                obtain ⟨ce, hcl, hM, hcc3, hfr⟩ := Kd.R_elem HO2.out z64 (i : Int) (by omega) (by omega)
                obtain rfl := k64_openM hM
                have HC2 := Aside0.mk hcc3
                clear hM hcl hfr hcc3 HO HBr HS
                go_wp2_with (first | ((with_reducible refine gate_ (.store 64 (.tmp 56) (.tmp 55)) rfl ?_); refine Kd.R_store k64 (w0 := w0) base rfl rfl 64 (.tmp 56) (.tmp 55) rfl 64 (i : Int) 0 dk x (.agg #[.string x.f0.f0, .int .i64 x.f0.f1, .int .i64 x.f0.f2, .string x.f1]) [.string x.f0.f0, .int .i64 x.f0.f1, .int .i64 x.f0.f2, .string x.f1] _ (fun _ => True) (fun _ => False) rfl (by rw [Int.toNat_natCast]; rfl) rfl rfl (show (Try.prog.info? 64).map (·.size) = some 4 from by kernel_rfl) (by intro q hq; simp at hq; rcases hq with rfl | rfl | rfl | rfl <;> rfl) HO2.out (by omega) (by omega) rfl HC2.out (show 4 ≤ 4 from Nat.le_refl _) (k64_mkM _ _ _ x) (fun _ hk => hk.elim) HB2.out ?_; intro w3 hR3 hB3 hg3))
                go_roundg (xs.length - (jp + 1 + qp + 1 + 1))
                case measure => omega
                case rel =>
                  refine ⟨i + 1, qp + 1, dk.set i x, by first | rfl | go_num, by first | rfl | go_num | (congr 1; omega), by omega, by omega, by omega, ⟨by rw [Int.toNat_natCast] at hR3; exact hR3⟩, ⟨?_⟩, ⟨fun q hq => ?_⟩, ⟨hB3⟩, ⟨Nat.le_trans HS2.out hg3.size⟩⟩
                  · have ST := ST.out
                    rw [HE.out, if_neg (by simp)] at ST
                    rw [set_take dk i x (by omega), HT.out]
                    exact ST.symm
                  · rw [List.getD_eq_getElem?_getD, List.getElem?_set_ne (by omega), ← List.getD_eq_getElem?_getD]
                    exact HQ.out q (by omega)
            · have hd2 : ¬ (qp : Int) + 1 < ((xs.length - (jp + 1) : Nat) : Int) := by omega
              have hcap2 : ¬ (cap = i) := by omega
              have hin : (i : Int) ≤ (xs.length : Int) := by omega
              obtain ⟨W3, hcl, hR3, hg3⟩ := R_clear (P := Try.prog) k64 HO.out i (by omega) 26 (.agg #[.string ⟨#[]⟩, .int .i64 0, .int .i64 0, .string ⟨#[]⟩]) Try.underlying26 (fun w => by kernel_rfl) rfl (by decide) (by intro q hq; simp [Value.cells] at hq; rcases hq with rfl | rfl | rfl | rfl <;> rfl) (some ⟨gg, i * 4, none⟩) (fun _ => rfl) (cap - i)
              have hcl0 := hcl 0
              clear hcl
              go_wp2
              go_ret
              have ht := HT.out
              rw [show jp + 1 + qp + 1 = xs.length from by omega, List.take_length] at ht
              rw [← ht]
              exact ⟨_, rfl, hR3, HBr.out.grown hg3 HS.out (fun q hq => by injection hq with hq; omega)⟩
      · have hd : ¬ (jp : Int) + 1 < (xs.length : Int) := by omega
        go_wp2
        go_ret
        have ht := HT.out
        rw [show jp + 1 = xs.length from by omega, List.take_length] at ht
        rw [ht]
        exact ⟨_, rfl, HO.out, HBr.out⟩
end Go.Proofs.Ytidjdkodgddfcaa.P
end

section
namespace Go.Proofs.Ytidjdkodgddfcaa.P
open Go.RowKit Go.Proofs.YtidjdkodgddfcaaW.PrintWords Go.Proofs.YtidjdkodgddfcaaW.PrintLast Go.Proofs.YtidjdkodgddfcaaW.PrintMore
attribute [local go_sem] str_gtr str_leq str_geq max2_int min2_int max_two min_two max_three min_three max_four min_four
set_option linter.unusedVariables false
set_option linter.unusedSimpArgs false
def eqK (x y : S64) : Bool := x.f0.f0.toList == y.f0.f0.toList && (x.f0.f1 == y.f0.f1 && x.f0.f2 == y.f0.f2)
def impl_merged.f (l0 : List S64) : Option (List S64) := if l0.length ≤ 1000000 then some (cptL eqK (srt ecmp l0)) else none
set_option maxHeartbeats 4000000 in
theorem impl_merged.calls (A0 : Option Addr) (c0 : Nat) (l0 : List S64) (r : List S64) (w : World) (hr0 : Kd.C k64 w A0 l0.length l0) (hc0 : l0.length ≤ c0) (h : impl_merged.f l0 = some r) :
    Calls Try.prog 102 #[.slice A0 l0.length c0] w fun e w' => ∃ v0_ : Value, e = .returned (v0_) ∧ Kd.R k64 64 w' w.heap.size (fun _ => True) v0_ r ∧ Below w.heap.size w w' := by
  unfold impl_merged.f at h
  split at h
  · rename_i hl
    obtain rfl := Option.some.inj h
    have ho := impl_ordered.calls A0 c0 l0 (srt ecmp l0) w hr0 hc0 (if_pos hl)
    have hcf := fun v W hR hB hb => compactFunc_Entry 161 eqK w.heap.size v (srt ecmp l0) w W hR hB hb (fun args w => by kernel_rfl) (fun x y W' => impl_merged_1.calls x.f0.f0 x.f0.f1 x.f0.f2 x.f1 y.f0.f0 y.f0.f1 y.f0.f2 y.f1 (eqK x y) W' rfl)
    have HCF := Aside0.mk hcf
    clear hr0 hc0 h hl hcf
    generalize cptL eqK (srt ecmp l0) = r at HCF ⊢
    generalize srt ecmp l0 = m at ho HCF
    have q1 : ∀ args w, (callFunc 117 args).run Try.prog w = .ok (.enter 117 args) w := fun args w => by kernel_rfl
    have q2 : ∀ args w, (callFunc 160 args).run Try.prog w = .ok (.enter 160 args) w := fun args w => by kernel_rfl
    go_enter Try.func102, Try.ntmps102
    go_wp2_with fail
    (with_reducible refine ho.mono ?_)
    rintro e w1 ⟨v, rfl, hR, hB⟩
    have hc := HCF.out v w1 hR hB hB.size
    clear ho hR hB HCF
    go_wp2_with fail
    (with_reducible refine hc.mono ?_)
    rintro e w2 ⟨v2, rfl, hR, hB⟩
    have HR := Aside0.mk hR
    have HB := Aside0.mk hB
    clear hc hR hB
    go_wp2
    go_ret
    exact ⟨_, rfl, HR.out, HB.out⟩
  · cases h
def impl_joined.l0 : Nat → List (S64) → List (S62) → Int → Int → Option ((List (S64)))
  | 0, _, _, _, _ => none
  | k + 1, x3, x7, x8, x9 => if x9 < x8 then (if 0 ≤ x9 then (if x9 < (x7.length : Int) then (if x3.length + ((rd_T62 x7 x9).f0).length < 2932031007402 then (impl_joined.l0 k (x3 ++ ((rd_T62 x7 x9).f0)) x7 x8 (wrap64 (x9 + 1))) else (none)) else (none)) else (none)) else (some x3)
def impl_joined.f (k : Nat) (l0 : List (S62)) : Option ((List (S64))) := impl_joined.l0 k (([] : List (S64))) l0 (l0.length : Int) 0
set_option maxHeartbeats 8000000 in
set_option maxRecDepth 100000 in
theorem impl_joined.calls (k : Nat) (A0 : Option Addr) (c0 : Nat) (l0 : List (S62)) (r : List (S64)) (w : World) (hr0 : Kd.C k62 w A0 l0.length l0) (hc0 : l0.length ≤ c0) (h : impl_joined.f k l0 = some r) :
    Calls Try.prog 103 #[.slice A0 l0.length c0] w fun e w' => ∃ v0_ : Value, e = .returned (v0_) ∧ Kd.R k64 64 w' w.heap.size (fun _ => True) v0_ r ∧ Below w.heap.size w w' := by
  have hu62 := Try.underlying62
  have HR0 := Aside0.mk hr0
  have HC0 := Aside0.mk hc0
  clear hr0 hc0
  have HB := Aside0.mk (Below.refl w.heap.size w)
  have H : (impl_joined.l0 k (([] : List (S64))) l0 (l0.length : Int) 0) = some r := h
  clear h
  obtain ⟨y101, hy101⟩ : ∃ y_ : List (S64), y_ = (([] : List (S64))) := ⟨_, rfl⟩
  replace H : (impl_joined.l0 k y101 l0 (l0.length : Int) 0) = some r := by first | (rw [hy101]; with_reducible exact H) | (have H2_ := (Option.bind_some _ _).symm.trans H; rw [hy101]; with_reducible exact H2_) | (have H2_ := (Option.bind_some _ _).symm.trans H; with_reducible exact H2_) | with_reducible exact H | (rw [hy101]; exact H) | exact H
  have Ny101 := Aside0.mk hy101
  clear hy101
  have H' := Aside0.mk H
  clear H
  go_enter Try.func103, Try.ntmps103
  go_wp2_with (first | ((with_reducible refine gate_dst (N := 6) rfl ?_); refine Kd.R_lit k64 _ 64 ?hg (N := 6) ?hd (xs := ([] : List (S64))) (inner := []) (ok := fun _ => True) (okp := fun _ => True) ?hr ?hp (fun _ hk => hk) trivial (Below.refl _ _) (Nat.le_refl _) (by simp) ?_; (case hd => rfl); (case hg => rfl); (case hr => first | (go_simp; done) | (go_simp; rfl)); (case hp => exact (Reps.none _ _)); intro v102 w2 ho3 hb hg_ hnew_; clear hg_ hnew_; (first | rw [← Ny101.out] at ho3 | (simp only [Int.reduceToNat] at ho3; rw [← Ny101.out] at ho3)); have n0_ := Aside0.mk (Kd.R_lower ho3 (below_size (by repeat (first | (with_reducible first | exact HB.out | apply below_alloc | apply pw_below_drewN | apply below_drew1) | exact HB.out)))); have n1_ := Aside0.mk (below_step (by repeat (first | (with_reducible first | exact HB.out | apply below_alloc | apply pw_below_drewN | apply below_drew1) | exact HB.out)) hb); clear HB; have HO103 := n0_; have HB := n1_; clear n0_ n1_; clear hb ho3))
  go_loopg [3, 9] k (fun kq v3 v9 w' => ∃ (x3_1 : List (S64)) (x9_1 : Int), v9 = .int .i64 x9_1 ∧ Aside0 (impl_joined.l0 kq x3_1 l0 (l0.length : Int) x9_1 = some r) ∧ Aside0 (kq ≤ k) ∧ Aside0 (Kd.R k64 64 w' w.heap.size (fun _ => True) v3 x3_1) ∧ Aside0 (Below w.heap.size w w'))
  case atStart => exact ⟨(y101), (0), (by first | rfl | (simp; done) | (simp [*]; done)), H', ⟨Nat.le_refl _⟩, ⟨by (with_reducible repeat (first | apply Kd.R_alloc | apply Kd.R_drewN | apply Kd.R_drew)); exact HO103.out⟩, ⟨by repeat (first | (with_reducible first | exact HB.out | apply below_alloc | apply pw_below_drewN | apply below_drew1) | exact HB.out)⟩⟩
  case round =>
    clear H'
    try clear c1
    try clear p2
    obtain ⟨x3_1, x9_1, rfl, HA, HK1, HO_3, HB⟩ := hrel
    cases gk with
    | zero => exact absurd HA.out (by simp [impl_joined.l0])
    | succ k1 =>
      have H := HA.out
      clear HA
      simp only [impl_joined.l0] at H
      by_cases c4 : x9_1 < (l0.length : Int)
      · rw [if_pos c4] at H
        have c4b0 : decide (x9_1 < (l0.length : Int)) = true := decide_eq_true c4
        clear c4
        by_cases c5 : 0 ≤ x9_1
        · rw [if_pos c5] at H
          have c5b0 : decide (0 ≤ x9_1) = true := decide_eq_true c5
          clear c5
          by_cases c6 : x9_1 < (l0.length : Int)
          · rw [if_pos c6] at H
            have c6b0 : decide (x9_1 < (l0.length : Int)) = true := decide_eq_true c6
            clear c6
            by_cases c7 : x3_1.length + ((rd_T62 l0 x9_1).f0).length < 2932031007402
            · rw [if_pos c7] at H
              have LMc7 := Aside0.mk c7
              clear c7
              obtain ⟨y106, hy106⟩ : ∃ y_ : List (S64), y_ = (x3_1 ++ ((rd_T62 l0 x9_1).f0)) := ⟨_, rfl⟩
              replace H : (impl_joined.l0 k1 y106 l0 (l0.length : Int) (wrap64 (x9_1 + 1))) = some r := by first | (rw [hy106]; with_reducible exact H) | (have H2_ := (Option.bind_some _ _).symm.trans H; rw [hy106]; with_reducible exact H2_) | (have H2_ := (Option.bind_some _ _).symm.trans H; with_reducible exact H2_) | with_reducible exact H | (rw [hy106]; exact H) | exact H
              have Ny106 := Aside0.mk hy106
              clear hy106
              have H' := Aside0.mk H
              clear H
              have p104 : 0 ≤ (x9_1 : Int) := of_decide_eq_true (by first | (with_reducible assumption) | assumption)
              have q104 : x9_1 < (l0.length : Int) := of_decide_eq_true (by first | (with_reducible assumption) | assumption)
              obtain ⟨ad104, A104_0, c104_0, e104, hx104_0, hl104_0, hi104_0⟩ := at_T62 HR0.out x9_1 p104 q104
              cases e104
              replace hx104_0 := (HB.out.cell (World.block_lt_of_cell? w _ hx104_0)).trans hx104_0
              have HR104_0 := Aside0.mk hi104_0
              have HC104_0 := Aside0.mk hl104_0
              clear hi104_0 hl104_0
              replace p104 := eq_true p104
              replace q104 := eq_true q104
              go_wp2_with (first | ((with_reducible refine gate_dst (N := 5) rfl ?_); refine box_event ?hg (N := 5) ?hd (cs := #[.slice none 0 0]) (t := 62) ?hr ?_; (case hd => rfl); (case hg => rfl); (case hr => first | (go_simp; done) | (go_simp; rfl)); intro gb105 hg w8 hbox hb; have n0_ := Aside0.mk (Kd.R_below (by (with_reducible repeat (first | apply Kd.R_alloc | apply Kd.R_drewN | apply Kd.R_drew)); exact HO_3.out) hb); have n1_ := Aside0.mk (below_step (by repeat (first | (with_reducible first | exact HB.out | apply below_alloc | apply pw_below_drewN | apply below_drew1) | exact HB.out)) hb); have n2_ := Aside0.mk (hbox); have n3_ := Aside0.mk ((by rw [hg]; exact (below_size (by repeat (first | (with_reducible first | exact HB.out | apply below_alloc | apply pw_below_drewN | apply below_drew1) | exact HB.out))) : w.heap.size ≤ gb105)); have n4_ := Aside0.mk ((by rw [hg]; exact (below_size (by repeat (first | (with_reducible first | exact HB.out | apply below_alloc | apply pw_below_drewN | apply below_drew1) | exact HB.out))) : w.heap.size ≤ gb105)); clear HO_3; clear HB; have HO_3 := n0_; have HB := n1_; have BK105 := n2_; have GW105 := n3_; have GE105 := n4_; clear n0_ n1_ n2_ n3_ n4_; clear hb hbox hg; have hcz9_0 : w8.cell? ⟨gb105, 0, none⟩ = some (.slice none 0 0) := (blk_cell BK105.out 0).trans rfl; have hfz9_0 := blk_frozen BK105.out 0) | ((with_reducible refine gate_builtin (b := .append) (xs := #[.tmp 13, .tmp 15]) rfl ?_); at_builtin; refine Kd.R_append_rows k64 (w0 := w) w.heap.size rfl (.tmp 13) (.tmp 15) 26 64 (.agg #[(.string ⟨#[]⟩), (.int .i64 0), (.int .i64 0), (.string ⟨#[]⟩)]) 48 rfl Try.underlying26 info64 rfl (by decide) (by omega) u3 x3_1 ((rd_T62 l0 x9_1).f0) _ _ _ (fun _ => True) (fun _ => False) rfl rfl ?aO ?aR (fun _ _ h => h) (fun _ h => h.elim) ?aF ?aB ?aS ?aL ?_; (case aR => exact Kd.C_below HR104_0.out (by repeat (first | (with_reducible first | exact HB.out | apply below_alloc | apply pw_below_drewN | apply below_drew1 | refine below_set ?_ GE105.out) | exact HB.out))); (case aB => exact (by repeat (first | (with_reducible first | exact HB.out | apply below_alloc | apply pw_below_drewN | apply below_drew1 | refine below_set ?_ GE105.out) | exact HB.out))); (case aF => exact (fun _ _ => trivial)); (case aO => exact (by (with_reducible repeat (first | apply Kd.R_alloc | apply Kd.R_drewN | apply Kd.R_drew)); exact Kd.R_mono (Kd.R_far (p := ⟨gb105, 0, none⟩) (Kd.R_types HO_3.out BK105.out (by decide)) (fun _ hk => hk.2) (.slice A104_0 ((rd_T62 l0 x9_1).f0).length c104_0)) (fun _ hk => trivial))); (case aS => exact (below_size (by repeat (first | (with_reducible first | exact HB.out | apply below_alloc | apply pw_below_drewN | apply below_drew1 | refine below_set ?_ GE105.out) | exact HB.out)))); (case aL => have := LMc7.out; omega); intro v107 w10 ho hb hg hat; rw [← Ny106.out] at ho; have n0_ := Aside0.mk (blk_grown (g := gb105) (o := .cells #[.slice A104_0 ((rd_T62 l0 x9_1).f0).length c104_0] 62 (0, 0)) (by (with_reducible repeat (first | refine blk_drewN ?_ _ | refine blk_drew ?_ | refine blk_alloc ?_ _)); refine blk_put (cs := #[.slice none 0 0]) ?_ 0 _ rfl; (with_reducible repeat (first | refine blk_drewN ?_ _ | refine blk_drew ?_ | refine blk_alloc ?_ _)); exact BK105.out) hg (Kd.R_ne HO_3.out BK105.out (by decide))); have n1_ := Aside0.mk (hb); have n2_ := Aside0.mk (ho); clear BK105; clear HB; clear HO_3; have BK105 := n0_; have HB := n1_; have HO108 := n2_; clear n0_ n1_ n2_; clear ho hb hg hat))
              go_roundg k1
              case measure => have := HK1.out; omega
              case rel => exact ⟨(y106), (wrap64 (x9_1 + 1)), (by first | rfl | (simp; done) | (simp [*]; done)), H', ⟨by have := HK1.out; omega⟩, ⟨by (with_reducible repeat (first | apply Kd.R_alloc | apply Kd.R_drewN | apply Kd.R_drew)); exact HO108.out⟩, ⟨by repeat (first | (with_reducible first | exact HB.out | apply below_alloc | apply pw_below_drewN | apply below_drew1 | refine below_set ?_ GE105.out) | exact HB.out)⟩⟩
            · rw [if_neg c7] at H
              exact absurd H (by simp)
          · rw [if_neg c6] at H
            exact absurd H (by simp)
        · rw [if_neg c5] at H
          exact absurd H (by simp)
      · rw [if_neg c4] at H
        have c4b0 : decide (x9_1 < (l0.length : Int)) = false := decide_eq_false c4
        clear c4
        obtain rfl := Option.some.inj H
        go_wp2
        go_ret
        exact ⟨_, by first | rfl | (simp [errW_none, errW_some] <;> rfl) | (simp [*, errW_none, errW_some] <;> rfl), by (with_reducible repeat (first | apply Kd.R_alloc | apply Kd.R_drewN | apply Kd.R_drew)); exact HO_3.out, by repeat (first | (with_reducible first | exact HB.out | apply below_alloc | apply pw_below_drewN | apply below_drew1) | exact HB.out)⟩
def impl_RunsOk_1.f (k : Nat) (l0_0 : List (S64)) : Option (Bool) := (impl_EntriesOk.f k l0_0).bind fun t102 => (some (!t102))
set_option maxHeartbeats 8000000 in
set_option maxRecDepth 100000 in
theorem impl_RunsOk_1.calls (k : Nat) (A0_0 : Option Addr) (c0_0 : Nat) (l0_0 : List (S64)) (r : Bool) (w : World) (hr0_0 : Kd.C k64 w A0_0 l0_0.length l0_0) (hc0_0 : l0_0.length ≤ c0_0) (h : impl_RunsOk_1.f k l0_0 = some r) :
    Calls Try.prog 107 #[.agg #[.slice A0_0 l0_0.length c0_0]] w fun e w' => e = .returned (.bool r) ∧ Below w.heap.size w w' := by
  have hu62 := Try.underlying62
  have HR0_0 := Aside0.mk hr0_0
  have HC0_0 := Aside0.mk hc0_0
  clear hr0_0 hc0_0
  have HB := Aside0.mk (Below.refl w.heap.size w)
  have H : ((impl_EntriesOk.f k l0_0).bind fun t102 => (some (!t102))) = some r := h
  clear h
  replace H := Option.bind_eq_some_iff.mp H
  obtain ⟨t102, A20, H⟩ := H
  replace H : (some (!t102)) = some r := H
  have A2 := Aside0.mk A20
  clear A20
  obtain rfl := Option.some.inj H
  go_enter Try.func107, Try.ntmps107
  go_wp2_with (first | ((with_reducible refine gate_dst (N := 1) rfl ?_); refine box_event ?hg (N := 1) ?hd (cs := #[.slice A0_0 l0_0.length c0_0]) (t := 62) ?hr ?_; (case hd => rfl); (case hg => rfl); (case hr => first | (go_simp; done) | (go_simp; rfl)); intro gb101 hg w3 hbox hb; have n0_ := Aside0.mk (below_step (by repeat (first | (with_reducible first | exact HB.out | apply below_alloc | apply pw_below_drewN | apply below_drew1) | exact HB.out)) hb); have n1_ := Aside0.mk (hbox); have n2_ := Aside0.mk ((by rw [hg]; exact (below_size (by repeat (first | (with_reducible first | exact HB.out | apply below_alloc | apply pw_below_drewN | apply below_drew1) | exact HB.out))) : w.heap.size ≤ gb101)); have n3_ := Aside0.mk ((by rw [hg]; exact (below_size (by repeat (first | (with_reducible first | exact HB.out | apply below_alloc | apply pw_below_drewN | apply below_drew1) | exact HB.out))) : w.heap.size ≤ gb101)); clear HB; have HB := n0_; have BK101 := n1_; have GW101 := n2_; have GE101 := n3_; clear n0_ n1_ n2_ n3_; clear hb hbox hg; have hcz4_0 : w3.cell? ⟨gb101, 0, none⟩ = some (.slice A0_0 l0_0.length c0_0) := (blk_cell BK101.out 0).trans rfl; have hfz4_0 := blk_frozen BK101.out 0) | ((with_reducible refine gate_callee (f := 43) rfl ?_); refine goesL_ (some 5) rfl rfl Try.func43 (by kernel_rfl) rfl #[.slice A0_0 l0_0.length c0_0] rfl (by (try simp only [List.map_toArray, List.map_cons, List.map_nil]); first | done | rfl | (simp only [List.length_drop, List.length_take]; rfl) | (rw [IntWalk.u64_in _ (by omega)] <;> rfl)) ?_; (with_reducible refine (impl_EntriesOk.calls k _ _ l0_0 t102 _ ?side1 ?side2 A2.out).mono ?_); (case side1 => repeat (first | exact (Kd.C_below HR0_0.out HB.out) | (with_reducible refine Kd.C_alloc ?_ _) | (with_reducible refine Kd.C_drewN ?_ _) | (with_reducible refine Kd.C_drew ?_))); (case side2 => exact HC0_0.out); rintro e w5 ⟨rfl, hb⟩; refine ⟨_, rfl, ?_⟩; have n0_ := Aside0.mk (blk_below (g := gb101) (o := .cells #[.slice A0_0 l0_0.length c0_0] 62 (0, 0)) (by (with_reducible repeat (first | refine blk_drewN ?_ _ | refine blk_drew ?_ | refine blk_alloc ?_ _)); exact BK101.out) hb); have n1_ := Aside0.mk (below_step (by repeat (first | (with_reducible first | exact HB.out | apply below_alloc | apply pw_below_drewN | apply below_drew1 | refine below_set ?_ GE101.out) | exact HB.out)) hb); clear BK101; clear HB; have BK101 := n0_; have HB := n1_; clear n0_ n1_; (try clear hb); (try clear hb2); (try clear hk); (try clear hi)))
  go_ret
  exact ⟨by first | rfl | (simp [errW_none, errW_some] <;> rfl) | (simp [*, errW_none, errW_some] <;> rfl), by repeat (first | (with_reducible first | exact HB.out | apply below_alloc | apply pw_below_drewN | apply below_drew1 | refine below_set ?_ GE101.out) | exact HB.out)⟩
end Go.Proofs.Ytidjdkodgddfcaa.P
end

section
namespace Go.Proofs.Ytidjdkodgddfcaa.P
open Go.RowKit Go.Proofs.YtidjdkodgddfcaaW.PrintWords Go.Proofs.YtidjdkodgddfcaaW.PrintLast Go.Proofs.YtidjdkodgddfcaaW.PrintMore
attribute [local go_sem] str_gtr str_leq str_geq max2_int min2_int max_two min_two max_three min_three max_four min_four
set_option linter.unusedVariables false
set_option linter.unusedSimpArgs false
def runsBad (k : Nat) : List S62 → Option Bool
  | [] => some false
  | x :: xs => (impl_RunsOk_1.f k x.f0).bind fun b => (runsBad k xs).bind fun c => some (b || c)
def containsFunc_notRow.f (k : Nat) (l : List S62) : Option Bool := runsBad k l
theorem runsBad_all {k : Nat} : ∀ {l : List S62} {r : Bool}, runsBad k l = some r → ∃ p : S62 → Bool, (∀ x ∈ l, impl_RunsOk_1.f k x.f0 = some (p x)) ∧ r = l.any p := by
  intro l r h
  refine ⟨fun x => (impl_RunsOk_1.f k x.f0).getD false, ?_, ?_⟩
  · intro x hx
    induction l generalizing r with
    | nil => cases hx
    | cons y ys ih =>
      unfold runsBad at h
      obtain ⟨b, hb, h⟩ := Option.bind_eq_some_iff.mp h
      obtain ⟨c, hc, h⟩ := Option.bind_eq_some_iff.mp h
      rcases List.mem_cons.1 hx with hx | hx
      · rw [hx]
        show impl_RunsOk_1.f k y.f0 = some ((impl_RunsOk_1.f k y.f0).getD false)
        rw [hb]
        rfl
      · exact ih hc hx
  · induction l generalizing r with
    | nil => injection h with h; exact h.symm
    | cons y ys ih =>
      unfold runsBad at h
      obtain ⟨b, hb, h⟩ := Option.bind_eq_some_iff.mp h
      obtain ⟨c, hc, h⟩ := Option.bind_eq_some_iff.mp h
      injection h with h
      rw [List.any_cons, hb, ← ih hc, ← h]
      rfl
set_option maxHeartbeats 4000000 in
set_option maxRecDepth 100000 in
theorem indexFunc_Run.calls (k : Nat) (p : S62 → Bool) (A : Option Addr) (c : Nat) (l : List S62) (w : World) (hr : Kd.C k62 w A l.length l)
    (hp : ∀ x ∈ l, impl_RunsOk_1.f k x.f0 = some (p x)) :
    Calls Try.prog 162 #[.slice A l.length c, .func (.func 107) #[] #[]] w fun e w' => e = .returned (.int .i64 (idxf p l 0)) ∧ Below w.heap.size w w' := by
  have hlm := Kd.C_max hr
  have eg : ∀ args w, (callFunc 107 args).run Try.prog w = .ok (.enter 107 args) w := fun args w => by kernel_rfl
  have HR := Aside0.mk hr
  have HP := Aside0.mk hp
  clear hr hp
  go_enter Try.func162, Try.ntmps162
  go_wp2
  go_loopg [5, 8] l.length (fun gg _ s8 wr => ∃ i : Int, 0 ≤ i ∧ i ≤ l.length ∧ (l.length : Int) - i ≤ gg ∧ s8 = .int .i64 i ∧ Aside0 (Below w.heap.size w wr) ∧ Aside0 (∀ j : Nat, (j : Int) < i → p (l.getD j z62) = false))
  case atStart => exact ⟨0, by omega, by omega, by omega, rfl, ⟨Below.refl _ w⟩, ⟨fun j hj => absurd hj (by omega)⟩⟩
  case round =>
    obtain ⟨i, hi0, hi1, hg, rfl, BW, AN⟩ := hrel
    by_cases hlt : i < (l.length : Int)
    · obtain ⟨k1, rfl⟩ : ∃ m, gk = m + 1 := ⟨gk - 1, by omega⟩
      have hd : decide (i < (l.length : Int)) = true := decide_eq_true hlt
      obtain ⟨ad, A0, c0, e, h0, hc0, hC0⟩ := at_T62 HR.out i hi0 hlt
      cases e
      replace h0 := (BW.out.cell (World.block_lt_of_cell? w _ h0)).trans h0
      have hC1 := Kd.C_below hC0 BW.out
      have hX : rd_T62 l i = l.getD i.toNat z62 := rfl
      have hmem : l.getD i.toNat z62 ∈ l := by
        rw [List.getD_eq_getElem?_getD, List.getElem?_eq_getElem (show i.toNat < l.length by omega)]
        exact List.getElem_mem _
      have hf := HP.out _ hmem
      rw [← hX] at hf
      have HX : Aside0 (rd_T62 l i = l.getD i.toNat z62) := ⟨rfl⟩
      clear hX hmem hC0
      generalize rd_T62 l i = x at h0 hc0 hC1 hf HX
      have hcall := impl_RunsOk_1.calls k A0 c0 x.f0 (p x) wr hC1 hc0 hf
      clear hC1 hf
      have HC0 := Aside0.mk hc0
      clear hc0
      cases hq : p x with
      | true =>
        rw [hq] at hcall
        have HQ := Aside0.mk hq
        clear hq
        go_wp2_with fail
        (with_reducible refine hcall.mono ?_)
        rintro e w' ⟨rfl, hb'⟩
        have hb2 := BW.out.trans (hb'.mono BW.out.size)
        go_wp2
        go_ret
        refine ⟨?_, hb2⟩
        show Ending.returned (.int .i64 i) = _
        rw [idxf_hit p z62 l i.toNat 0 (by omega) (by rw [← HX.out]; exact HQ.out) (fun j hj => AN.out j (by omega))]
        rw [show (((0 + i.toNat : Nat)) : Int) = i from by omega]
      | false =>
        rw [hq] at hcall
        have HQ := Aside0.mk hq
        clear hq
        go_wp2_with fail
        (with_reducible refine hcall.mono ?_)
        rintro e w' ⟨rfl, hb'⟩
        have hb2 := Aside0.mk (BW.out.trans (hb'.mono BW.out.size))
        clear hb'
        go_wp2
        go_roundg k1
        case measure => omega
        case rel =>
          refine ⟨i + 1, by omega, by omega, by omega, by first | rfl | go_num, hb2, ⟨fun j hj => ?_⟩⟩
          by_cases e : (j : Int) = i
          · subst e
            rw [← show x = l.getD j z62 from HX.out]
            exact HQ.out
          · exact AN.out j (by omega)
    · have hd : decide (i < (l.length : Int)) = false := decide_eq_false hlt
      go_wp2
      all_goals
        go_ret
        refine ⟨?_, BW.out⟩
        rw [idxf_miss p z62 l 0 (fun j hj => AN.out j (by omega))]
        rfl
theorem containsFunc_notRow.calls (k : Nat) (A0 : Option Addr) (c0 : Nat) (l : List S62) (r : Bool) (w : World) (hr0 : Kd.C k62 w A0 l.length l) (hc0 : l.length ≤ c0) (h : containsFunc_notRow.f k l = some r) :
    Calls Try.prog 106 #[.slice A0 l.length c0, .func (.func 107) #[] #[]] w fun e w' => e = .returned (.bool r) ∧ Below w.heap.size w w' := by
  obtain ⟨p, hp, rfl⟩ := runsBad_all h
  rw [← idxf_any p l 0]
  have hcall := indexFunc_Run.calls k p A0 c0 l w hr0 hp
  clear hr0 hp h
  generalize idxf p l 0 = r at hcall ⊢
  go_enter Try.func106, Try.ntmps106
  go_wp2_with fail
  (with_reducible refine hcall.mono ?_)
  rintro e w' ⟨rfl, hb'⟩
  go_wp2
  go_ret
  exact ⟨rfl, hb'⟩
def impl_RunsOk.f (k : Nat) (l0 : List (S62)) : Option (Bool) := if (l0.length : Int) ≤ 20 then ((containsFunc_notRow.f k l0).bind fun t101 => (if t101 = true then (some false) else ((impl_joined.f k l0).bind fun t102 => (some (decide ((t102.length : Int) ≤ 400)))))) else (some false)
set_option maxHeartbeats 8000000 in
set_option maxRecDepth 100000 in
theorem impl_RunsOk.calls (k : Nat) (A0 : Option Addr) (c0 : Nat) (l0 : List (S62)) (r : Bool) (w : World) (hr0 : Kd.C k62 w A0 l0.length l0) (hc0 : l0.length ≤ c0) (h : impl_RunsOk.f k l0 = some r) :
    Calls Try.prog 42 #[.slice A0 l0.length c0] w fun e w' => e = .returned (.bool r) ∧ Below w.heap.size w w' := by
  have HR0 := Aside0.mk hr0
  have HC0 := Aside0.mk hc0
  clear hr0 hc0
  have HB := Aside0.mk (Below.refl w.heap.size w)
  have H : (if (l0.length : Int) ≤ 20 then ((containsFunc_notRow.f k l0).bind fun t101 => (if t101 = true then (some false) else ((impl_joined.f k l0).bind fun t102 => (some (decide ((t102.length : Int) ≤ 400)))))) else (some false)) = some r := h
  clear h
  by_cases c2 : (l0.length : Int) ≤ 20
  · rw [if_pos c2] at H
    have c2b0 : decide ((l0.length : Int) ≤ 20) = true := decide_eq_true c2
    have c2b1 : decide (l0.length ≤ 20) = true := decide_eq_true (by omega)
    clear c2
    replace H := Option.bind_eq_some_iff.mp H
    obtain ⟨t101, A30, H⟩ := H
    replace H : (if t101 = true then (some false) else ((impl_joined.f k l0).bind fun t102 => (some (decide ((t102.length : Int) ≤ 400))))) = some r := H
    have A3 := Aside0.mk A30
    clear A30
    by_cases c4 : t101 = true
    · subst c4
      have H1 : (some false) = some r := by rw [if_pos rfl] at H; exact H
      clear H
      have H := H1
      clear H1
      obtain rfl := Option.some.inj H
      go_enter Try.func42, Try.ntmps42
      go_wp2_with (first | (go_at_call 106; (with_reducible refine (containsFunc_notRow.calls k _ _ l0  true _ ?side1 ?side2 A3.out).mono ?_); (case side1 => repeat (first | exact HR0.out | (with_reducible refine Kd.C_alloc ?_ _) | (with_reducible refine Kd.C_drewN ?_ _) | (with_reducible refine Kd.C_drew ?_))); (case side2 => exact HC0.out); rintro e w5 ⟨rfl, hb⟩; have n0_ := Aside0.mk (below_step (by repeat (first | (with_reducible first | exact HB.out | apply below_alloc | apply pw_below_drewN | apply below_drew1) | exact HB.out)) hb); clear HB; have HB := n0_; clear n0_; (try clear hb); (try clear hb2); (try clear hk); (try clear hi)))
      go_ret
      exact ⟨by first | rfl | (simp [errW_none, errW_some] <;> rfl) | (simp [*, errW_none, errW_some] <;> rfl), by repeat (first | (with_reducible first | exact HB.out | apply below_alloc | apply pw_below_drewN | apply below_drew1) | exact HB.out)⟩
    · replace c4 := Bool.eq_false_iff.mpr c4
      subst c4
      have H1 : ((impl_joined.f k l0).bind fun t102 => (some (decide ((t102.length : Int) ≤ 400)))) = some r := by rw [if_neg (show ¬ (false = true) by decide)] at H; exact H
      clear H
      have H := H1
      clear H1
      replace H := Option.bind_eq_some_iff.mp H
      obtain ⟨t102, A60, H⟩ := H
      replace H : (some (decide ((t102.length : Int) ≤ 400))) = some r := H
      have A6 := Aside0.mk A60
      clear A60
      obtain rfl := Option.some.inj H
      go_enter Try.func42, Try.ntmps42
      go_wp2_with (first | (go_at_call 106; (with_reducible refine (containsFunc_notRow.calls k _ _ l0  false _ ?side1 ?side2 A3.out).mono ?_); (case side1 => repeat (first | exact HR0.out | (with_reducible refine Kd.C_alloc ?_ _) | (with_reducible refine Kd.C_drewN ?_ _) | (with_reducible refine Kd.C_drew ?_))); (case side2 => exact HC0.out); rintro e w7 ⟨rfl, hb⟩; have n0_ := Aside0.mk (below_step (by repeat (first | (with_reducible first | exact HB.out | apply below_alloc | apply pw_below_drewN | apply below_drew1) | exact HB.out)) hb); clear HB; have HB := n0_; clear n0_; (try clear hb); (try clear hb2); (try clear hk); (try clear hi)) | (go_at_call 103; (with_reducible refine (impl_joined.calls k _ _ l0 t102 _ ?side1 ?side2 A6.out).mono ?_); (case side1 => repeat (first | exact (Kd.C_below HR0.out HB.out) | (with_reducible refine Kd.C_alloc ?_ _) | (with_reducible refine Kd.C_drewN ?_ _) | (with_reducible refine Kd.C_drew ?_))); (case side2 => exact HC0.out); rintro e w8 ⟨v103, rfl, ho0, hb⟩; have n0_ := Aside0.mk (Kd.R_lower ho0 (below_size (by repeat (first | (with_reducible first | exact HB.out | apply below_alloc | apply pw_below_drewN | apply below_drew1) | exact HB.out)))); have n1_ := Aside0.mk (below_step (by repeat (first | (with_reducible first | exact HB.out | apply below_alloc | apply pw_below_drewN | apply below_drew1) | exact HB.out)) hb); clear HB; have HO104 := n0_; have HB := n1_; clear n0_ n1_; (try clear hb); (try clear hb2); (try clear hk); (try clear hi); (try clear ho0); obtain ⟨Ao9, co9, eo9⟩ := Kd.R_slice HO104.out; subst eo9))
      go_ret
      exact ⟨by first | rfl | (simp [errW_none, errW_some] <;> rfl) | (simp [*, errW_none, errW_some] <;> rfl), by repeat (first | (with_reducible first | exact HB.out | apply below_alloc | apply pw_below_drewN | apply below_drew1) | exact HB.out)⟩
  · rw [if_neg c2] at H
    have c2b0 : decide ((l0.length : Int) ≤ 20) = false := decide_eq_false c2
    have c2b1 : decide (l0.length ≤ 20) = false := decide_eq_false (by omega)
    clear c2
    obtain rfl := Option.some.inj H
    go_enter Try.func42, Try.ntmps42
    go_wp2
    go_ret
    exact ⟨by first | rfl | (simp [errW_none, errW_some] <;> rfl) | (simp [*, errW_none, errW_some] <;> rfl), by repeat (first | (with_reducible first | exact HB.out | apply below_alloc | apply pw_below_drewN | apply below_drew1) | exact HB.out)⟩
def impl_MergeRuns.f (k : Nat) (l0 : List (S62)) : Option ((List (S64)) × Bool) := (impl_RunsOk.f k l0).bind fun t101 => (if t101 = true then ((impl_joined.f k l0).bind fun t102 => ((impl_merged.f t102).bind fun t105 => (some (t105, true)))) else (some (([] : List (S64)), false)))
set_option maxHeartbeats 8000000 in
set_option maxRecDepth 100000 in
theorem impl_MergeRuns.calls (k : Nat) (A0 : Option Addr) (c0 : Nat) (l0 : List (S62)) (r1 : List (S64)) (r2 : Bool) (w : World) (hr0 : Kd.C k62 w A0 l0.length l0) (hc0 : l0.length ≤ c0) (h : impl_MergeRuns.f k l0 = some (r1, r2)) :
    Calls Try.prog 38 #[.slice A0 l0.length c0] w fun e w' => ∃ v0_ : Value, e = .returned (.tuple #[v0_, .bool r2]) ∧ Kd.R k64 64 w' w.heap.size (fun _ => True) v0_ r1 ∧ Below w.heap.size w w' := by
  have HR0 := Aside0.mk hr0
  have HC0 := Aside0.mk hc0
  clear hr0 hc0
  have HB := Aside0.mk (Below.refl w.heap.size w)
  have H : ((impl_RunsOk.f k l0).bind fun t101 => (if t101 = true then ((impl_joined.f k l0).bind fun t102 => ((impl_merged.f t102).bind fun t105 => (some (t105, true)))) else (some (([] : List (S64)), false)))) = some (r1, r2) := h
  clear h
  replace H := Option.bind_eq_some_iff.mp H
  obtain ⟨t101, A20, H⟩ := H
  replace H : (if t101 = true then ((impl_joined.f k l0).bind fun t102 => ((impl_merged.f t102).bind fun t105 => (some (t105, true)))) else (some (([] : List (S64)), false))) = some (r1, r2) := H
  have A2 := Aside0.mk A20
  clear A20
  by_cases c3 : t101 = true
  · subst c3
    have H1 : ((impl_joined.f k l0).bind fun t102 => ((impl_merged.f t102).bind fun t105 => (some (t105, true)))) = some (r1, r2) := by rw [if_pos rfl] at H; exact H
    clear H
    have H := H1
    clear H1
    replace H := Option.bind_eq_some_iff.mp H
    obtain ⟨t102, A40, H⟩ := H
    replace H : ((impl_merged.f t102).bind fun t105 => (some (t105, true))) = some (r1, r2) := H
    have A4 := Aside0.mk A40
    clear A40
    replace H := Option.bind_eq_some_iff.mp H
    obtain ⟨t105, A50, H⟩ := H
    replace H : (some (t105, true)) = some (r1, r2) := H
    have A5 := Aside0.mk A50
    clear A50
    simp only [Option.some.injEq, Prod.mk.injEq] at H
    obtain ⟨rfl, rfl⟩ := H
    go_enter Try.func38, Try.ntmps38
    go_wp2_with (first | ((with_reducible refine gate_callee (f := 42) rfl ?_); refine goesL_ (some 5) rfl rfl Try.func42 (by kernel_rfl) rfl #[.slice A0 l0.length c0] rfl (by (try simp only [List.map_toArray, List.map_cons, List.map_nil]); first | done | rfl | (simp only [List.length_drop, List.length_take]; rfl) | (rw [IntWalk.u64_in _ (by omega)] <;> rfl)) ?_; (with_reducible refine (impl_RunsOk.calls k _ _ l0 true _ ?side1 ?side2 A2.out).mono ?_); (case side1 => repeat (first | exact HR0.out | (with_reducible refine Kd.C_alloc ?_ _) | (with_reducible refine Kd.C_drewN ?_ _) | (with_reducible refine Kd.C_drew ?_))); (case side2 => exact HC0.out); rintro e w6 ⟨rfl, hb⟩; refine ⟨_, rfl, ?_⟩; have n0_ := Aside0.mk (below_step (by repeat (first | (with_reducible first | exact HB.out | apply below_alloc | apply pw_below_drewN | apply below_drew1) | exact HB.out)) hb); clear HB; have HB := n0_; clear n0_; (try clear hb); (try clear hb2); (try clear hk); (try clear hi)) | ((with_reducible refine gate_callee (f := 103) rfl ?_); refine goesL_ (some 8) rfl rfl Try.func103 (by kernel_rfl) rfl #[.slice A0 l0.length c0] rfl (by (try simp only [List.map_toArray, List.map_cons, List.map_nil]); first | done | rfl | (simp only [List.length_drop, List.length_take]; rfl) | (rw [IntWalk.u64_in _ (by omega)] <;> rfl)) ?_; (with_reducible refine (impl_joined.calls k _ _ l0 t102 _ ?side1 ?side2 A4.out).mono ?_); (case side1 => repeat (first | exact (Kd.C_below HR0.out HB.out) | (with_reducible refine Kd.C_alloc ?_ _) | (with_reducible refine Kd.C_drewN ?_ _) | (with_reducible refine Kd.C_drew ?_))); (case side2 => exact HC0.out); rintro e w7 ⟨v103, rfl, ho0, hb⟩; refine ⟨_, rfl, ?_⟩; have n0_ := Aside0.mk (Kd.R_lower ho0 (below_size (by repeat (first | (with_reducible first | exact HB.out | apply below_alloc | apply pw_below_drewN | apply below_drew1) | exact HB.out)))); have n1_ := Aside0.mk (below_step (by repeat (first | (with_reducible first | exact HB.out | apply below_alloc | apply pw_below_drewN | apply below_drew1) | exact HB.out)) hb); clear HB; have HO104 := n0_; have HB := n1_; clear n0_ n1_; (try clear hb); (try clear hb2); (try clear hk); (try clear hi); (try clear ho0); obtain ⟨Ao8, co8, eo8⟩ := Kd.R_slice HO104.out; subst eo8) | ((with_reducible refine gate_callee (f := 102) rfl ?_); refine goesL_ (some 9) rfl rfl Try.func102 (by kernel_rfl) rfl #[.slice Ao8 t102.length co8] rfl (by (try simp only [List.map_toArray, List.map_cons, List.map_nil]); first | done | rfl | (simp only [List.length_drop, List.length_take]; rfl) | (rw [IntWalk.u64_in _ (by omega)] <;> rfl)) ?_; (with_reducible refine (impl_merged.calls _ _ t102 t105 _ ?side1 ?side2 A5.out).mono ?_); (case side1 => repeat (first | exact (Kd.R_reads' HO104.out).2.2 | (with_reducible refine Kd.C_alloc ?_ _) | (with_reducible refine Kd.C_drewN ?_ _) | (with_reducible refine Kd.C_drew ?_))); (case side2 => exact (Kd.R_reads' HO104.out).2.1); rintro e w9 ⟨v106, rfl, ho0, hb⟩; refine ⟨_, rfl, ?_⟩; have n0_ := Aside0.mk (Kd.R_elder' (by (with_reducible repeat (first | apply Kd.R_alloc | apply Kd.R_drewN | apply Kd.R_drew)); exact HO104.out) (Kd.R_base ho0) hb); have n1_ := Aside0.mk (Kd.R_lower (Kd.R_new' ho0 (Kd.R_lt (by (with_reducible repeat (first | apply Kd.R_alloc | apply Kd.R_drewN | apply Kd.R_drew)); exact HO104.out))) (below_size (by repeat (first | (with_reducible first | exact HB.out | apply below_alloc | apply pw_below_drewN | apply below_drew1) | exact HB.out)))); have n2_ := Aside0.mk (below_step (by repeat (first | (with_reducible first | exact HB.out | apply below_alloc | apply pw_below_drewN | apply below_drew1) | exact HB.out)) hb); clear HO104; clear HB; have HO104 := n0_; have HO107 := n1_; have HB := n2_; clear n0_ n1_ n2_; (try clear hb); (try clear hb2); (try clear hk); (try clear hi); (try clear ho0)))
    go_ret2
    exact ⟨_, by first | rfl | (simp [errW_none, errW_some] <;> rfl) | (simp [*, errW_none, errW_some] <;> rfl), by (with_reducible repeat (first | apply Kd.R_alloc | apply Kd.R_drewN | apply Kd.R_drew)); exact Kd.R_mono HO107.out (fun _ hk => trivial), by repeat (first | (with_reducible first | exact HB.out | apply below_alloc | apply pw_below_drewN | apply below_drew1) | exact HB.out)⟩
  · replace c3 := Bool.eq_false_iff.mpr c3
    subst c3
    have H1 : (some (([] : List (S64)), false)) = some (r1, r2) := by rw [if_neg (show ¬ (false = true) by decide)] at H; exact H
    clear H
    have H := H1
    clear H1
    simp only [Option.some.injEq, Prod.mk.injEq] at H
    obtain ⟨rfl, rfl⟩ := H
    go_enter Try.func38, Try.ntmps38
    go_wp2_with (first | ((with_reducible refine gate_callee (f := 42) rfl ?_); refine goesL_ (some 5) rfl rfl Try.func42 (by kernel_rfl) rfl #[.slice A0 l0.length c0] rfl (by (try simp only [List.map_toArray, List.map_cons, List.map_nil]); first | done | rfl | (simp only [List.length_drop, List.length_take]; rfl) | (rw [IntWalk.u64_in _ (by omega)] <;> rfl)) ?_; (with_reducible refine (impl_RunsOk.calls k _ _ l0 false _ ?side1 ?side2 A2.out).mono ?_); (case side1 => repeat (first | exact HR0.out | (with_reducible refine Kd.C_alloc ?_ _) | (with_reducible refine Kd.C_drewN ?_ _) | (with_reducible refine Kd.C_drew ?_))); (case side2 => exact HC0.out); rintro e w10 ⟨rfl, hb⟩; refine ⟨_, rfl, ?_⟩; have n0_ := Aside0.mk (below_step (by repeat (first | (with_reducible first | exact HB.out | apply below_alloc | apply pw_below_drewN | apply below_drew1) | exact HB.out)) hb); clear HB; have HB := n0_; clear n0_; (try clear hb); (try clear hb2); (try clear hk); (try clear hi)))
    go_ret2
    exact ⟨_, by first | rfl | (simp [errW_none, errW_some] <;> rfl) | (simp [*, errW_none, errW_some] <;> rfl), by first | exact Kd.R_nil _ _ _ _ _ | exact Kd.N_nil _ _ _ _ _ | exact Kd.V_nil _ _ _ _ _ | exact Kd.Q_nil _ _ _ _ _ | exact Kd.S_nil _ _ _ _ _, by repeat (first | (with_reducible first | exact HB.out | apply below_alloc | apply pw_below_drewN | apply below_drew1) | exact HB.out)⟩
def laws_eqRun.f (k : Nat) (l0_0 : List (S64)) (l1_0 : List (S64)) : Option (Bool) := (laws_eqEntryS.f k l0_0 l1_0).bind fun t103 => (if t103 = true then (some true) else (some false))
set_option maxHeartbeats 8000000 in
set_option maxRecDepth 100000 in
theorem laws_eqRun.calls (k : Nat) (A0_0 : Option Addr) (c0_0 : Nat) (l0_0 : List (S64)) (A1_0 : Option Addr) (c1_0 : Nat) (l1_0 : List (S64)) (r : Bool) (w : World) (hr0_0 : Kd.C k64 w A0_0 l0_0.length l0_0) (hc0_0 : l0_0.length ≤ c0_0) (hr1_0 : Kd.C k64 w A1_0 l1_0.length l1_0) (hc1_0 : l1_0.length ≤ c1_0) (h : laws_eqRun.f k l0_0 l1_0 = some r) :
    Calls Try.prog 104 #[.agg #[.slice A0_0 l0_0.length c0_0], .agg #[.slice A1_0 l1_0.length c1_0]] w fun e w' => e = .returned (.bool r) ∧ Below w.heap.size w w' := by
  have hu62 := Try.underlying62
  have HR0_0 := Aside0.mk hr0_0
  have HC0_0 := Aside0.mk hc0_0
  clear hr0_0 hc0_0
  have HR1_0 := Aside0.mk hr1_0
  have HC1_0 := Aside0.mk hc1_0
  clear hr1_0 hc1_0
  have HB := Aside0.mk (Below.refl w.heap.size w)
  have H : ((laws_eqEntryS.f k l0_0 l1_0).bind fun t103 => (if t103 = true then (some true) else (some false))) = some r := h
  clear h
  replace H := Option.bind_eq_some_iff.mp H
  obtain ⟨t103, A30, H⟩ := H
  replace H : (if t103 = true then (some true) else (some false)) = some r := H
  have A3 := Aside0.mk A30
  clear A30
  by_cases c4 : t103 = true
  · subst c4
    have H1 : (some true) = some r := by rw [if_pos rfl] at H; exact H
    clear H
    have H := H1
    clear H1
    obtain rfl := Option.some.inj H
    go_enter Try.func104, Try.ntmps104
    go_wp2_with (first | ((with_reducible refine gate_dst (N := 2) rfl ?_); refine box_event ?hg (N := 2) ?hd (cs := #[.slice A0_0 l0_0.length c0_0]) (t := 62) ?hr ?_; (case hd => rfl); (case hg => rfl); (case hr => first | (go_simp; done) | (go_simp; rfl)); intro gb101 hg w5 hbox hb; have n0_ := Aside0.mk (below_step (by repeat (first | (with_reducible first | exact HB.out | apply below_alloc | apply pw_below_drewN | apply below_drew1) | exact HB.out)) hb); have n1_ := Aside0.mk (hbox); have n2_ := Aside0.mk ((by rw [hg]; exact (below_size (by repeat (first | (with_reducible first | exact HB.out | apply below_alloc | apply pw_below_drewN | apply below_drew1) | exact HB.out))) : w.heap.size ≤ gb101)); have n3_ := Aside0.mk ((by rw [hg]; exact (below_size (by repeat (first | (with_reducible first | exact HB.out | apply below_alloc | apply pw_below_drewN | apply below_drew1) | exact HB.out))) : w.heap.size ≤ gb101)); clear HB; have HB := n0_; have BK101 := n1_; have GW101 := n2_; have GE101 := n3_; clear n0_ n1_ n2_ n3_; clear hb hbox hg) | ((with_reducible refine gate_dst (N := 3) rfl ?_); refine box_event ?hg (N := 3) ?hd (cs := #[.slice A1_0 l1_0.length c1_0]) (t := 62) ?hr ?_; (case hd => rfl); (case hg => rfl); (case hr => first | (go_simp; done) | (go_simp; rfl)); intro gb102 hg w6 hbox hb; have n0_ := Aside0.mk (blk_below (g := gb101) (o := .cells #[.slice A0_0 l0_0.length c0_0] 62 (0, 0)) (by (with_reducible repeat (first | refine blk_drewN ?_ _ | refine blk_drew ?_ | refine blk_alloc ?_ _)); exact BK101.out) hb); have n1_ := Aside0.mk (below_step (by repeat (first | (with_reducible first | exact HB.out | apply below_alloc | apply pw_below_drewN | apply below_drew1 | refine below_set ?_ GE101.out) | exact HB.out)) hb); have n2_ := Aside0.mk (hbox); have n3_ := Aside0.mk ((by rw [hg]; exact (below_size (by repeat (first | (with_reducible first | exact HB.out | apply below_alloc | apply pw_below_drewN | apply below_drew1 | refine below_set ?_ GE101.out) | exact HB.out))) : w.heap.size ≤ gb102)); have n4_ := Aside0.mk ((by rw [hg]; exact (below_size (by repeat (first | (with_reducible first | exact HB.out | apply below_alloc | apply pw_below_drewN | apply below_drew1 | refine below_set ?_ GE101.out) | exact HB.out))) : w.heap.size ≤ gb102)); have n5_ := Aside0.mk ((by rw [hg]; exact Nat.ne_of_lt (blk_lt (g := gb101) (o := .cells #[.slice A0_0 l0_0.length c0_0] 62 (0, 0)) (by (with_reducible repeat (first | refine blk_drewN ?_ _ | refine blk_drew ?_ | refine blk_alloc ?_ _)); exact BK101.out)) : gb101 ≠ gb102)); have n6_ := Aside0.mk ((by rw [hg]; exact Nat.ne_of_gt (blk_lt (g := gb101) (o := .cells #[.slice A0_0 l0_0.length c0_0] 62 (0, 0)) (by (with_reducible repeat (first | refine blk_drewN ?_ _ | refine blk_drew ?_ | refine blk_alloc ?_ _)); exact BK101.out)) : gb102 ≠ gb101)); clear BK101; clear HB; have BK101 := n0_; have HB := n1_; have BK102 := n2_; have GW102 := n3_; have GE102 := n4_; have NB101_102 := n5_; have NB102_101 := n6_; clear n0_ n1_ n2_ n3_ n4_ n5_ n6_; clear hb hbox hg; have hnb7 := NB101_102.out; have hnc7 := NB102_101.out; have hcz8_0 : w6.cell? ⟨gb101, 0, none⟩ = some (.slice A0_0 l0_0.length c0_0) := (blk_cell BK101.out 0).trans rfl; have hfz8_0 := blk_frozen BK101.out 0; have hcz9_0 : w6.cell? ⟨gb102, 0, none⟩ = some (.slice A1_0 l1_0.length c1_0) := (blk_cell BK102.out 0).trans rfl; have hfz9_0 := blk_frozen BK102.out 0) | ((with_reducible refine gate_callee (f := 19) rfl ?_); refine goesL_ (some 9) rfl rfl Try.func19 (by kernel_rfl) rfl #[.slice A0_0 l0_0.length c0_0, .slice A1_0 l1_0.length c1_0] rfl (by (try simp only [List.map_toArray, List.map_cons, List.map_nil]); first | done | rfl | (simp only [List.length_drop, List.length_take]; rfl) | (rw [IntWalk.u64_in _ (by omega)] <;> rfl)) ?_; (with_reducible refine (laws_eqEntryS.calls k _ _ l0_0 _ _ l1_0 true _ ?side1 ?side2 ?side3 ?side4 A3.out).mono ?_); (case side1 => repeat (first | exact (Kd.C_below HR0_0.out HB.out) | (with_reducible refine Kd.C_alloc ?_ _) | (with_reducible refine Kd.C_drewN ?_ _) | (with_reducible refine Kd.C_drew ?_))); (case side2 => exact HC0_0.out); (case side3 => repeat (first | exact (Kd.C_below HR1_0.out HB.out) | (with_reducible refine Kd.C_alloc ?_ _) | (with_reducible refine Kd.C_drewN ?_ _) | (with_reducible refine Kd.C_drew ?_))); (case side4 => exact HC1_0.out); rintro e w10 ⟨rfl, hb⟩; refine ⟨_, rfl, ?_⟩; have n0_ := Aside0.mk (blk_below (g := gb101) (o := .cells #[.slice A0_0 l0_0.length c0_0] 62 (0, 0)) (by (with_reducible repeat (first | refine blk_drewN ?_ _ | refine blk_drew ?_ | refine blk_alloc ?_ _)); exact BK101.out) hb); have n1_ := Aside0.mk (blk_below (g := gb102) (o := .cells #[.slice A1_0 l1_0.length c1_0] 62 (0, 0)) (by (with_reducible repeat (first | refine blk_drewN ?_ _ | refine blk_drew ?_ | refine blk_alloc ?_ _)); exact BK102.out) hb); have n2_ := Aside0.mk (below_step (by repeat (first | (with_reducible first | exact HB.out | apply below_alloc | apply pw_below_drewN | apply below_drew1 | refine below_set ?_ GE101.out | refine below_set ?_ GE102.out) | exact HB.out)) hb); clear BK101; clear BK102; clear HB; have BK101 := n0_; have BK102 := n1_; have HB := n2_; clear n0_ n1_ n2_; (try clear hb); (try clear hb2); (try clear hk); (try clear hi)))
    go_ret
    exact ⟨by first | rfl | (simp [errW_none, errW_some] <;> rfl) | (simp [*, errW_none, errW_some] <;> rfl), by repeat (first | (with_reducible first | exact HB.out | apply below_alloc | apply pw_below_drewN | apply below_drew1 | refine below_set ?_ GE101.out | refine below_set ?_ GE102.out) | exact HB.out)⟩
  · replace c4 := Bool.eq_false_iff.mpr c4
    subst c4
    have H1 : (some false) = some r := by rw [if_neg (show ¬ (false = true) by decide)] at H; exact H
    clear H
    have H := H1
    clear H1
    obtain rfl := Option.some.inj H
    go_enter Try.func104, Try.ntmps104
    go_wp2_with (first | ((with_reducible refine gate_dst (N := 2) rfl ?_); refine box_event ?hg (N := 2) ?hd (cs := #[.slice A0_0 l0_0.length c0_0]) (t := 62) ?hr ?_; (case hd => rfl); (case hg => rfl); (case hr => first | (go_simp; done) | (go_simp; rfl)); intro gb101 hg w11 hbox hb; have n0_ := Aside0.mk (below_step (by repeat (first | (with_reducible first | exact HB.out | apply below_alloc | apply pw_below_drewN | apply below_drew1) | exact HB.out)) hb); have n1_ := Aside0.mk (hbox); have n2_ := Aside0.mk ((by rw [hg]; exact (below_size (by repeat (first | (with_reducible first | exact HB.out | apply below_alloc | apply pw_below_drewN | apply below_drew1) | exact HB.out))) : w.heap.size ≤ gb101)); have n3_ := Aside0.mk ((by rw [hg]; exact (below_size (by repeat (first | (with_reducible first | exact HB.out | apply below_alloc | apply pw_below_drewN | apply below_drew1) | exact HB.out))) : w.heap.size ≤ gb101)); clear HB; have HB := n0_; have BK101 := n1_; have GW101 := n2_; have GE101 := n3_; clear n0_ n1_ n2_ n3_; clear hb hbox hg) | ((with_reducible refine gate_dst (N := 3) rfl ?_); refine box_event ?hg (N := 3) ?hd (cs := #[.slice A1_0 l1_0.length c1_0]) (t := 62) ?hr ?_; (case hd => rfl); (case hg => rfl); (case hr => first | (go_simp; done) | (go_simp; rfl)); intro gb102 hg w12 hbox hb; have n0_ := Aside0.mk (blk_below (g := gb101) (o := .cells #[.slice A0_0 l0_0.length c0_0] 62 (0, 0)) (by (with_reducible repeat (first | refine blk_drewN ?_ _ | refine blk_drew ?_ | refine blk_alloc ?_ _)); exact BK101.out) hb); have n1_ := Aside0.mk (below_step (by repeat (first | (with_reducible first | exact HB.out | apply below_alloc | apply pw_below_drewN | apply below_drew1 | refine below_set ?_ GE101.out) | exact HB.out)) hb); have n2_ := Aside0.mk (hbox); have n3_ := Aside0.mk ((by rw [hg]; exact (below_size (by repeat (first | (with_reducible first | exact HB.out | apply below_alloc | apply pw_below_drewN | apply below_drew1 | refine below_set ?_ GE101.out) | exact HB.out))) : w.heap.size ≤ gb102)); have n4_ := Aside0.mk ((by rw [hg]; exact (below_size (by repeat (first | (with_reducible first | exact HB.out | apply below_alloc | apply pw_below_drewN | apply below_drew1 | refine below_set ?_ GE101.out) | exact HB.out))) : w.heap.size ≤ gb102)); have n5_ := Aside0.mk ((by rw [hg]; exact Nat.ne_of_lt (blk_lt (g := gb101) (o := .cells #[.slice A0_0 l0_0.length c0_0] 62 (0, 0)) (by (with_reducible repeat (first | refine blk_drewN ?_ _ | refine blk_drew ?_ | refine blk_alloc ?_ _)); exact BK101.out)) : gb101 ≠ gb102)); have n6_ := Aside0.mk ((by rw [hg]; exact Nat.ne_of_gt (blk_lt (g := gb101) (o := .cells #[.slice A0_0 l0_0.length c0_0] 62 (0, 0)) (by (with_reducible repeat (first | refine blk_drewN ?_ _ | refine blk_drew ?_ | refine blk_alloc ?_ _)); exact BK101.out)) : gb102 ≠ gb101)); clear BK101; clear HB; have BK101 := n0_; have HB := n1_; have BK102 := n2_; have GW102 := n3_; have GE102 := n4_; have NB101_102 := n5_; have NB102_101 := n6_; clear n0_ n1_ n2_ n3_ n4_ n5_ n6_; clear hb hbox hg; have hnb13 := NB101_102.out; have hnc13 := NB102_101.out; have hcz14_0 : w12.cell? ⟨gb101, 0, none⟩ = some (.slice A0_0 l0_0.length c0_0) := (blk_cell BK101.out 0).trans rfl; have hfz14_0 := blk_frozen BK101.out 0; have hcz15_0 : w12.cell? ⟨gb102, 0, none⟩ = some (.slice A1_0 l1_0.length c1_0) := (blk_cell BK102.out 0).trans rfl; have hfz15_0 := blk_frozen BK102.out 0) | ((with_reducible refine gate_callee (f := 19) rfl ?_); refine goesL_ (some 9) rfl rfl Try.func19 (by kernel_rfl) rfl #[.slice A0_0 l0_0.length c0_0, .slice A1_0 l1_0.length c1_0] rfl (by (try simp only [List.map_toArray, List.map_cons, List.map_nil]); first | done | rfl | (simp only [List.length_drop, List.length_take]; rfl) | (rw [IntWalk.u64_in _ (by omega)] <;> rfl)) ?_; (with_reducible refine (laws_eqEntryS.calls k _ _ l0_0 _ _ l1_0 false _ ?side1 ?side2 ?side3 ?side4 A3.out).mono ?_); (case side1 => repeat (first | exact (Kd.C_below HR0_0.out HB.out) | (with_reducible refine Kd.C_alloc ?_ _) | (with_reducible refine Kd.C_drewN ?_ _) | (with_reducible refine Kd.C_drew ?_))); (case side2 => exact HC0_0.out); (case side3 => repeat (first | exact (Kd.C_below HR1_0.out HB.out) | (with_reducible refine Kd.C_alloc ?_ _) | (with_reducible refine Kd.C_drewN ?_ _) | (with_reducible refine Kd.C_drew ?_))); (case side4 => exact HC1_0.out); rintro e w16 ⟨rfl, hb⟩; refine ⟨_, rfl, ?_⟩; have n0_ := Aside0.mk (blk_below (g := gb101) (o := .cells #[.slice A0_0 l0_0.length c0_0] 62 (0, 0)) (by (with_reducible repeat (first | refine blk_drewN ?_ _ | refine blk_drew ?_ | refine blk_alloc ?_ _)); exact BK101.out) hb); have n1_ := Aside0.mk (blk_below (g := gb102) (o := .cells #[.slice A1_0 l1_0.length c1_0] 62 (0, 0)) (by (with_reducible repeat (first | refine blk_drewN ?_ _ | refine blk_drew ?_ | refine blk_alloc ?_ _)); exact BK102.out) hb); have n2_ := Aside0.mk (below_step (by repeat (first | (with_reducible first | exact HB.out | apply below_alloc | apply pw_below_drewN | apply below_drew1 | refine below_set ?_ GE101.out | refine below_set ?_ GE102.out) | exact HB.out)) hb); clear BK101; clear BK102; clear HB; have BK101 := n0_; have BK102 := n1_; have HB := n2_; clear n0_ n1_ n2_; (try clear hb); (try clear hb2); (try clear hk); (try clear hi)))
    go_ret
    exact ⟨by first | rfl | (simp [errW_none, errW_some] <;> rfl) | (simp [*, errW_none, errW_some] <;> rfl), by repeat (first | (with_reducible first | exact HB.out | apply below_alloc | apply pw_below_drewN | apply below_drew1 | refine below_set ?_ GE101.out | refine below_set ?_ GE102.out) | exact HB.out)⟩
def laws_eqRunS.l0 : Nat → List (S62) → List (S62) → Int → Option (Bool)
  | 0, _, _, _ => none
  | k + 1, x0, x1, x5 => if x5 < (x0.length : Int) then (if 0 ≤ x5 then (if x5 < (x1.length : Int) then ((laws_eqRun.f k ((rd_T62 x0 x5).f0) ((rd_T62 x1 x5).f0)).bind fun t103 => (if t103 = true then (laws_eqRunS.l0 k x0 x1 (wrap64 (x5 + 1))) else (some false))) else (none)) else (none)) else (some true)
def laws_eqRunS.f (k : Nat) (l0 : List (S62)) (l1 : List (S62)) : Option (Bool) := if (l0.length : Int) = (l1.length : Int) then (laws_eqRunS.l0 k l0 l1 0) else (some false)
def laws_eqRunS.T6 : Bool × List (List Nat × List Nat) := (true, [([], []), ([], []), ([0, 1], [0, 1]), ([2], [2]), ([], []), ([], []), ([4, 5], [4, 5]), ([6], [6]), ([3, 7], [3, 7]), ([8], [8])])
def laws_eqRunS.B6 : List Nat := [0, 0, 3, 7, 0, 0, 48, 112, 255, 511]
theorem laws_eqRunS.tab6 : rtab .any (opsOf Try.f39 6) = laws_eqRunS.T6 := by kernel_rfl
theorem laws_eqRunS.bits6 : waitsOk laws_eqRunS.T6.2 laws_eqRunS.B6 = true := by kernel_rfl
set_option maxHeartbeats 8000000 in
set_option maxRecDepth 100000 in
theorem laws_eqRunS.calls (k : Nat) (A0 : Option Addr) (c0 : Nat) (l0 : List (S62)) (A1 : Option Addr) (c1 : Nat) (l1 : List (S62)) (r : Bool) (w : World) (hr0 : Kd.C k62 w A0 l0.length l0) (hc0 : l0.length ≤ c0) (hr1 : Kd.C k62 w A1 l1.length l1) (hc1 : l1.length ≤ c1) (h : laws_eqRunS.f k l0 l1 = some r) :
    Calls Try.prog 39 #[.slice A0 l0.length c0, .slice A1 l1.length c1] w fun e w' => e = .returned (.bool r) ∧ Below w.heap.size w w' := by
  have hu62 := Try.underlying62
  have HR0 := Aside0.mk hr0
  have HC0 := Aside0.mk hc0
  clear hr0 hc0
  have HR1 := Aside0.mk hr1
  have HC1 := Aside0.mk hc1
  clear hr1 hc1
  have HB := Aside0.mk (Below.refl w.heap.size w)
  have H : (if (l0.length : Int) = (l1.length : Int) then (laws_eqRunS.l0 k l0 l1 0) else (some false)) = some r := h
  clear h
  by_cases c3 : (l0.length : Int) = (l1.length : Int)
  · rw [if_pos c3] at H
    have c3b0 : ((l0.length : Int) == (l1.length : Int)) = true := beq_iff_eq.mpr c3
    have c3b1 : ((l0.length : Int) != (l1.length : Int)) = false := bne_eq_false_iff_eq.mpr c3
    have c3b2 : (l0.length == l1.length) = true := by first | simpa using c3 | (simp at c3 ⊢; omega)
    clear c3
    have H' := Aside0.mk H
    clear H
    go_enter Try.func39, Try.ntmps39
    go_wp2
    go_loopg [5] k (fun kq v5 w' => ∃ (x5_1 : Int), v5 = .int .i64 x5_1 ∧ Aside0 (laws_eqRunS.l0 kq l0 l1 x5_1 = some r) ∧ Aside0 (kq ≤ k) ∧ Aside0 (Below w.heap.size w w'))
    case atStart => exact ⟨(0), (by first | rfl | (simp; done) | (simp [*]; done)), H', ⟨Nat.le_refl _⟩, ⟨by repeat (first | (with_reducible first | exact HB.out | apply below_alloc | apply pw_below_drewN | apply below_drew1) | exact HB.out)⟩⟩
    case round =>
      clear H'
      try clear c1
      try clear p2
      try clear c3
      try clear c3b0
      try clear c3b1
      try clear c3b2
      obtain ⟨x5_1, rfl, HA, HK1, HB⟩ := hrel
      cases gk with
      | zero => exact absurd HA.out (by simp [laws_eqRunS.l0])
      | succ k1 =>
        have H := HA.out
        clear HA
        simp only [laws_eqRunS.l0] at H
        by_cases c4 : x5_1 < (l0.length : Int)
        · rw [if_pos c4] at H
          have c4b0 : decide (x5_1 < (l0.length : Int)) = true := decide_eq_true c4
          clear c4
          by_cases c5 : 0 ≤ x5_1
          · rw [if_pos c5] at H
            have c5b0 : decide (0 ≤ x5_1) = true := decide_eq_true c5
            clear c5
            by_cases c6 : x5_1 < (l1.length : Int)
            · rw [if_pos c6] at H
              have c6b0 : decide (x5_1 < (l1.length : Int)) = true := decide_eq_true c6
              clear c6
              replace H := Option.bind_eq_some_iff.mp H
              obtain ⟨t103, A70, H⟩ := H
              replace H : (if t103 = true then (laws_eqRunS.l0 k1 l0 l1 (wrap64 (x5_1 + 1))) else (some false)) = some r := H
              have A7 := Aside0.mk A70
              clear A70
              by_cases c8 : t103 = true
              · subst c8
                have H1 : (laws_eqRunS.l0 k1 l0 l1 (wrap64 (x5_1 + 1))) = some r := by rw [if_pos rfl] at H; exact H
                clear H
                have H := H1
                clear H1
                have H' := Aside0.mk H
                clear H
                try go_wp2
                have n0_ := Aside0.mk (below_drew1 HB.out)
                clear HB
                have HB := n0_
                clear n0_
                have p101 : 0 ≤ (x5_1 : Int) := of_decide_eq_true (by first | (with_reducible assumption) | assumption)
                have q101 : x5_1 < (l0.length : Int) := of_decide_eq_true (by first | (with_reducible assumption) | assumption)
                obtain ⟨ad101, A101_0, c101_0, e101, hx101_0, hl101_0, hi101_0⟩ := at_T62 HR0.out x5_1 p101 q101
                have hw101_0 := hx101_0
                cases e101
                replace hx101_0 := (HB.out.cell (World.block_lt_of_cell? w _ hx101_0)).trans hx101_0
                have HR101_0 := Aside0.mk hi101_0
                have HC101_0 := Aside0.mk hl101_0
                clear hi101_0 hl101_0
                replace p101 := eq_true p101
                replace q101 := eq_true q101
                have p102 : 0 ≤ (x5_1 : Int) := of_decide_eq_true (by first | (with_reducible assumption) | assumption)
                have q102 : x5_1 < (l1.length : Int) := of_decide_eq_true (by first | (with_reducible assumption) | assumption)
                obtain ⟨ad102, A102_0, c102_0, e102, hx102_0, hl102_0, hi102_0⟩ := at_T62 HR1.out x5_1 p102 q102
                have hw102_0 := hx102_0
                cases e102
                replace hx102_0 := (HB.out.cell (World.block_lt_of_cell? w _ hx102_0)).trans hx102_0
                have HR102_0 := Aside0.mk hi102_0
                have HC102_0 := Aside0.mk hl102_0
                clear hi102_0 hl102_0
                replace p102 := eq_true p102
                replace q102 := eq_true q102
                refine start_ (n := 10) (S := fun w' => w'.cell? (ad101.add (x5_1).toNat) = some (.slice A101_0 ((rd_T62 l0 x5_1).f0).length c101_0) ∧ w'.cell? (ad102.add (x5_1).toNat) = some (.slice A102_0 ((rd_T62 l1 x5_1).f0).length c102_0)) (ds := []) #[false, false, false, false, false, false, false, false, false, false] (by kernel_rfl) rfl rfl ⟨((HB.out.cell (World.block_lt_of_cell? w _ hw101_0)).trans hw101_0), ((HB.out.cell (World.block_lt_of_cell? w _ hw102_0)).trans hw102_0)⟩ (fun hHeld => ?_); refine with_tabW laws_eqRunS.tab6 laws_eqRunS.bits6 (fun HT_ HW_ => ?_)
                generalize wr.drew = w9 at HB HR101_0 HR102_0 hx101_0 hx102_0 hHeld ⊢
                refine pure_ (i := 0) (N := some 17) (v := ?_) (a' := ?_) #[true, false, false, false, false, false, false, false, false, false] rfl rfl (any_of HT_.out (by kernel_rfl)) (fun _ _ _ h => h) (Or.inl ⟨by rfl, ?_⟩) ?_ ?_
                rotate_left
                · intro w'
                  go_simp
                  with_reducible rfl
                rotate_left
                · simp only [Act.put, List.setIfInBounds_toArray, List.set_cons_zero, List.set_cons_succ, i64_w, i32_w]
                  rfl
                refine pure_ (i := 1) (N := some 18) (v := ?_) (a' := ?_) #[true, true, false, false, false, false, false, false, false, false] rfl rfl (any_of HT_.out (by kernel_rfl)) (fun _ _ _ h => h) (Or.inl ⟨by rfl, ?_⟩) ?_ ?_
                rotate_left
                · intro w'
                  go_simp
                  with_reducible rfl
                rotate_left
                · simp only [Act.put, List.setIfInBounds_toArray, List.set_cons_zero, List.set_cons_succ, i64_w, i32_w]
                  rfl
                refine pure_ (i := 2) (N := some 19) (v := ?_) (a' := ?_) #[true, true, true, false, false, false, false, false, false, false] rfl rfl (any_of HT_.out (by kernel_rfl)) (fun _ _ _ h => h) (Or.inl ⟨by rfl, ?_⟩) ?_ ?_
                rotate_left
                · intro w'
                  go_simp
                  with_reducible rfl
                rotate_left
                · simp only [Act.put, List.setIfInBounds_toArray, List.set_cons_zero, List.set_cons_succ, i64_w, i32_w]
                  rfl
                refine pure_ (i := 4) (N := some 21) (v := ?_) (a' := ?_) #[true, true, true, false, true, false, false, false, false, false] rfl rfl (any_of HT_.out (by kernel_rfl)) (fun _ _ _ h => h) (Or.inl ⟨by rfl, ?_⟩) ?_ ?_
                rotate_left
                · intro w'
                  go_simp
                  with_reducible rfl
                rotate_left
                · simp only [Act.put, List.setIfInBounds_toArray, List.set_cons_zero, List.set_cons_succ, i64_w, i32_w]
                  rfl
                refine pure_ (i := 5) (N := some 22) (v := ?_) (a' := ?_) #[true, true, true, false, true, true, false, false, false, false] rfl rfl (any_of HT_.out (by kernel_rfl)) (fun _ _ _ h => h) (Or.inl ⟨by rfl, ?_⟩) ?_ ?_
                rotate_left
                · intro w'
                  go_simp
                  with_reducible rfl
                rotate_left
                · simp only [Act.put, List.setIfInBounds_toArray, List.set_cons_zero, List.set_cons_succ, i64_w, i32_w]
                  rfl
                refine pure_ (i := 6) (N := some 23) (v := ?_) (a' := ?_) #[true, true, true, false, true, true, true, false, false, false] rfl rfl (any_of HT_.out (by kernel_rfl)) (fun _ _ _ h => h) (Or.inl ⟨by rfl, ?_⟩) ?_ ?_
                rotate_left
                · intro w'
                  go_simp
                  with_reducible rfl
                rotate_left
                · simp only [Act.put, List.setIfInBounds_toArray, List.set_cons_zero, List.set_cons_succ, i64_w, i32_w]
                  rfl
                refine take_ (i := 3) (N := some 20) (v := ?_) (a' := ?_) #[true, true, true, true, true, true, true, false, false, false] rfl rfl (take_ofW HT_.out HW_.out (by kernel_rfl)) (fun _ _ _ h => h) (Or.inl ⟨by rfl, ?_⟩) hHeld ?_ ?_
                rotate_left
                · rintro w' ⟨s0, s1⟩
                  go_simp
                  with_reducible rfl
                rotate_left
                · simp only [Act.put, List.setIfInBounds_toArray, List.set_cons_zero, List.set_cons_succ, i64_w, i32_w]
                  rfl
                refine take_ (i := 7) (N := some 24) (v := ?_) (a' := ?_) #[true, true, true, true, true, true, true, true, false, false] rfl rfl (take_ofW HT_.out HW_.out (by kernel_rfl)) (fun _ _ _ h => h) (Or.inl ⟨by rfl, ?_⟩) hHeld ?_ ?_
                rotate_left
                · rintro w' ⟨s0, s1⟩
                  go_simp
                  with_reducible rfl
                rotate_left
                · simp only [Act.put, List.setIfInBounds_toArray, List.set_cons_zero, List.set_cons_succ, i64_w, i32_w]
                  rfl
                refine one_ (i := 8) (N := some 25) #[true, true, true, true, true, true, true, true, true, false] rfl rfl (one_of HT_.out (by kernel_rfl)) (by decide) (fun K hK => ?_)
                refine goes_ Try.func104 (by kernel_rfl) rfl #[.agg #[.slice A101_0 ((rd_T62 l0 x5_1).f0).length c101_0], .agg #[.slice A102_0 ((rd_T62 l1 x5_1).f0).length c102_0]] (by rfl) rfl rfl (by (try simp only [List.map_toArray, List.map_cons, List.map_nil]); first | done | rfl | (simp only [List.length_drop, List.length_take]; rfl) | (rw [IntWalk.u64_in _ (by omega)] <;> rfl)) ?_
                with_reducible refine (laws_eqRun.calls k1 _ _ ((rd_T62 l0 x5_1).f0) _ _ ((rd_T62 l1 x5_1).f0) true _ ?side1 ?side2 ?side3 ?side4 A7.out).mono ?_
                (case side1 => repeat (first | exact (Kd.C_below HR101_0.out HB.out) | (with_reducible refine Kd.C_alloc ?_ _) | (with_reducible refine Kd.C_drewN ?_ _) | (with_reducible refine Kd.C_drew ?_)))
                (case side2 => exact HC101_0.out)
                (case side3 => repeat (first | exact (Kd.C_below HR102_0.out HB.out) | (with_reducible refine Kd.C_alloc ?_ _) | (with_reducible refine Kd.C_drewN ?_ _) | (with_reducible refine Kd.C_drew ?_)))
                (case side4 => exact HC102_0.out)
                rintro e w10 ⟨rfl, hb⟩
                refine ⟨_, rfl, ?_⟩
                have n0_ := Aside0.mk (below_step (by repeat (first | (with_reducible first | exact HB.out | apply below_alloc | apply pw_below_drewN | apply below_drew1) | exact HB.out)) hb)
                clear HB
                have HB := n0_
                clear n0_
                (try clear hb)
                (try clear hb2)
                (try clear hk)
                (try clear hi)
                refine hK.out _ _ ⟨((HB.out.cell (World.block_lt_of_cell? w _ hw101_0)).trans hw101_0), ((HB.out.cell (World.block_lt_of_cell? w _ hw102_0)).trans hw102_0)⟩ (fun hHeld => ?_)
                clear hK K
                refine norm_ (a' := ?_) ?_ ?_
                rotate_left
                · show Act.put _ (some 25) _ = _
                  simp only [Act.put, List.setIfInBounds_toArray, List.set_cons_zero, List.set_cons_succ, i64_w, i32_w]
                  rfl
                refine pure_ (i := 9) (N := some 26) (v := ?_) (a' := ?_) #[true, true, true, true, true, true, true, true, true, true] rfl rfl (any_of HT_.out (by kernel_rfl)) (fun _ _ _ h => h) (Or.inl ⟨by rfl, ?_⟩) ?_ ?_
                rotate_left
                · intro w'
                  go_simp
                  with_reducible rfl
                rotate_left
                · simp only [Act.put, List.setIfInBounds_toArray, List.set_cons_zero, List.set_cons_succ, i64_w, i32_w]
                  rfl
                refine done_ (done_of HT_.out (by kernel_rfl)) ?_
                try go_wp2
                go_roundg k1
                case measure => have := HK1.out; omega
                case rel => exact ⟨(wrap64 (x5_1 + 1)), (by first | rfl | (simp; done) | (simp [*]; done)), H', ⟨by have := HK1.out; omega⟩, ⟨by repeat (first | (with_reducible first | exact HB.out | apply below_alloc | apply pw_below_drewN | apply below_drew1) | exact HB.out)⟩⟩
              · replace c8 := Bool.eq_false_iff.mpr c8
                subst c8
                have H1 : (some false) = some r := by rw [if_neg (show ¬ (false = true) by decide)] at H; exact H
                clear H
                have H := H1
                clear H1
                obtain rfl := Option.some.inj H
                try go_wp2
                have n0_ := Aside0.mk (below_drew1 HB.out)
                clear HB
                have HB := n0_
                clear n0_
                have p101 : 0 ≤ (x5_1 : Int) := of_decide_eq_true (by first | (with_reducible assumption) | assumption)
                have q101 : x5_1 < (l0.length : Int) := of_decide_eq_true (by first | (with_reducible assumption) | assumption)
                obtain ⟨ad101, A101_0, c101_0, e101, hx101_0, hl101_0, hi101_0⟩ := at_T62 HR0.out x5_1 p101 q101
                have hw101_0 := hx101_0
                cases e101
                replace hx101_0 := (HB.out.cell (World.block_lt_of_cell? w _ hx101_0)).trans hx101_0
                have HR101_0 := Aside0.mk hi101_0
                have HC101_0 := Aside0.mk hl101_0
                clear hi101_0 hl101_0
                replace p101 := eq_true p101
                replace q101 := eq_true q101
                have p102 : 0 ≤ (x5_1 : Int) := of_decide_eq_true (by first | (with_reducible assumption) | assumption)
                have q102 : x5_1 < (l1.length : Int) := of_decide_eq_true (by first | (with_reducible assumption) | assumption)
                obtain ⟨ad102, A102_0, c102_0, e102, hx102_0, hl102_0, hi102_0⟩ := at_T62 HR1.out x5_1 p102 q102
                have hw102_0 := hx102_0
                cases e102
                replace hx102_0 := (HB.out.cell (World.block_lt_of_cell? w _ hx102_0)).trans hx102_0
                have HR102_0 := Aside0.mk hi102_0
                have HC102_0 := Aside0.mk hl102_0
                clear hi102_0 hl102_0
                replace p102 := eq_true p102
                replace q102 := eq_true q102
                refine start_ (n := 10) (S := fun w' => w'.cell? (ad101.add (x5_1).toNat) = some (.slice A101_0 ((rd_T62 l0 x5_1).f0).length c101_0) ∧ w'.cell? (ad102.add (x5_1).toNat) = some (.slice A102_0 ((rd_T62 l1 x5_1).f0).length c102_0)) (ds := []) #[false, false, false, false, false, false, false, false, false, false] (by kernel_rfl) rfl rfl ⟨((HB.out.cell (World.block_lt_of_cell? w _ hw101_0)).trans hw101_0), ((HB.out.cell (World.block_lt_of_cell? w _ hw102_0)).trans hw102_0)⟩ (fun hHeld => ?_); refine with_tabW laws_eqRunS.tab6 laws_eqRunS.bits6 (fun HT_ HW_ => ?_)
                generalize wr.drew = w11 at HB HR101_0 HR102_0 hx101_0 hx102_0 hHeld ⊢
                refine pure_ (i := 0) (N := some 17) (v := ?_) (a' := ?_) #[true, false, false, false, false, false, false, false, false, false] rfl rfl (any_of HT_.out (by kernel_rfl)) (fun _ _ _ h => h) (Or.inl ⟨by rfl, ?_⟩) ?_ ?_
                rotate_left
                · intro w'
                  go_simp
                  with_reducible rfl
                rotate_left
                · simp only [Act.put, List.setIfInBounds_toArray, List.set_cons_zero, List.set_cons_succ, i64_w, i32_w]
                  rfl
                refine pure_ (i := 1) (N := some 18) (v := ?_) (a' := ?_) #[true, true, false, false, false, false, false, false, false, false] rfl rfl (any_of HT_.out (by kernel_rfl)) (fun _ _ _ h => h) (Or.inl ⟨by rfl, ?_⟩) ?_ ?_
                rotate_left
                · intro w'
                  go_simp
                  with_reducible rfl
                rotate_left
                · simp only [Act.put, List.setIfInBounds_toArray, List.set_cons_zero, List.set_cons_succ, i64_w, i32_w]
                  rfl
                refine pure_ (i := 2) (N := some 19) (v := ?_) (a' := ?_) #[true, true, true, false, false, false, false, false, false, false] rfl rfl (any_of HT_.out (by kernel_rfl)) (fun _ _ _ h => h) (Or.inl ⟨by rfl, ?_⟩) ?_ ?_
                rotate_left
                · intro w'
                  go_simp
                  with_reducible rfl
                rotate_left
                · simp only [Act.put, List.setIfInBounds_toArray, List.set_cons_zero, List.set_cons_succ, i64_w, i32_w]
                  rfl
                refine pure_ (i := 4) (N := some 21) (v := ?_) (a' := ?_) #[true, true, true, false, true, false, false, false, false, false] rfl rfl (any_of HT_.out (by kernel_rfl)) (fun _ _ _ h => h) (Or.inl ⟨by rfl, ?_⟩) ?_ ?_
                rotate_left
                · intro w'
                  go_simp
                  with_reducible rfl
                rotate_left
                · simp only [Act.put, List.setIfInBounds_toArray, List.set_cons_zero, List.set_cons_succ, i64_w, i32_w]
                  rfl
                refine pure_ (i := 5) (N := some 22) (v := ?_) (a' := ?_) #[true, true, true, false, true, true, false, false, false, false] rfl rfl (any_of HT_.out (by kernel_rfl)) (fun _ _ _ h => h) (Or.inl ⟨by rfl, ?_⟩) ?_ ?_
                rotate_left
                · intro w'
                  go_simp
                  with_reducible rfl
                rotate_left
                · simp only [Act.put, List.setIfInBounds_toArray, List.set_cons_zero, List.set_cons_succ, i64_w, i32_w]
                  rfl
                refine pure_ (i := 6) (N := some 23) (v := ?_) (a' := ?_) #[true, true, true, false, true, true, true, false, false, false] rfl rfl (any_of HT_.out (by kernel_rfl)) (fun _ _ _ h => h) (Or.inl ⟨by rfl, ?_⟩) ?_ ?_
                rotate_left
                · intro w'
                  go_simp
                  with_reducible rfl
                rotate_left
                · simp only [Act.put, List.setIfInBounds_toArray, List.set_cons_zero, List.set_cons_succ, i64_w, i32_w]
                  rfl
                refine take_ (i := 3) (N := some 20) (v := ?_) (a' := ?_) #[true, true, true, true, true, true, true, false, false, false] rfl rfl (take_ofW HT_.out HW_.out (by kernel_rfl)) (fun _ _ _ h => h) (Or.inl ⟨by rfl, ?_⟩) hHeld ?_ ?_
                rotate_left
                · rintro w' ⟨s0, s1⟩
                  go_simp
                  with_reducible rfl
                rotate_left
                · simp only [Act.put, List.setIfInBounds_toArray, List.set_cons_zero, List.set_cons_succ, i64_w, i32_w]
                  rfl
                refine take_ (i := 7) (N := some 24) (v := ?_) (a' := ?_) #[true, true, true, true, true, true, true, true, false, false] rfl rfl (take_ofW HT_.out HW_.out (by kernel_rfl)) (fun _ _ _ h => h) (Or.inl ⟨by rfl, ?_⟩) hHeld ?_ ?_
                rotate_left
                · rintro w' ⟨s0, s1⟩
                  go_simp
                  with_reducible rfl
                rotate_left
                · simp only [Act.put, List.setIfInBounds_toArray, List.set_cons_zero, List.set_cons_succ, i64_w, i32_w]
                  rfl
                refine one_ (i := 8) (N := some 25) #[true, true, true, true, true, true, true, true, true, false] rfl rfl (one_of HT_.out (by kernel_rfl)) (by decide) (fun K hK => ?_)
                refine goes_ Try.func104 (by kernel_rfl) rfl #[.agg #[.slice A101_0 ((rd_T62 l0 x5_1).f0).length c101_0], .agg #[.slice A102_0 ((rd_T62 l1 x5_1).f0).length c102_0]] (by rfl) rfl rfl (by (try simp only [List.map_toArray, List.map_cons, List.map_nil]); first | done | rfl | (simp only [List.length_drop, List.length_take]; rfl) | (rw [IntWalk.u64_in _ (by omega)] <;> rfl)) ?_
                with_reducible refine (laws_eqRun.calls k1 _ _ ((rd_T62 l0 x5_1).f0) _ _ ((rd_T62 l1 x5_1).f0) false _ ?side1 ?side2 ?side3 ?side4 A7.out).mono ?_
                (case side1 => repeat (first | exact (Kd.C_below HR101_0.out HB.out) | (with_reducible refine Kd.C_alloc ?_ _) | (with_reducible refine Kd.C_drewN ?_ _) | (with_reducible refine Kd.C_drew ?_)))
                (case side2 => exact HC101_0.out)
                (case side3 => repeat (first | exact (Kd.C_below HR102_0.out HB.out) | (with_reducible refine Kd.C_alloc ?_ _) | (with_reducible refine Kd.C_drewN ?_ _) | (with_reducible refine Kd.C_drew ?_)))
                (case side4 => exact HC102_0.out)
                rintro e w12 ⟨rfl, hb⟩
                refine ⟨_, rfl, ?_⟩
                have n0_ := Aside0.mk (below_step (by repeat (first | (with_reducible first | exact HB.out | apply below_alloc | apply pw_below_drewN | apply below_drew1) | exact HB.out)) hb)
                clear HB
                have HB := n0_
                clear n0_
                (try clear hb)
                (try clear hb2)
                (try clear hk)
                (try clear hi)
                refine hK.out _ _ ⟨((HB.out.cell (World.block_lt_of_cell? w _ hw101_0)).trans hw101_0), ((HB.out.cell (World.block_lt_of_cell? w _ hw102_0)).trans hw102_0)⟩ (fun hHeld => ?_)
                clear hK K
                refine norm_ (a' := ?_) ?_ ?_
                rotate_left
                · show Act.put _ (some 25) _ = _
                  simp only [Act.put, List.setIfInBounds_toArray, List.set_cons_zero, List.set_cons_succ, i64_w, i32_w]
                  rfl
                refine pure_ (i := 9) (N := some 26) (v := ?_) (a' := ?_) #[true, true, true, true, true, true, true, true, true, true] rfl rfl (any_of HT_.out (by kernel_rfl)) (fun _ _ _ h => h) (Or.inl ⟨by rfl, ?_⟩) ?_ ?_
                rotate_left
                · intro w'
                  go_simp
                  with_reducible rfl
                rotate_left
                · simp only [Act.put, List.setIfInBounds_toArray, List.set_cons_zero, List.set_cons_succ, i64_w, i32_w]
                  rfl
                refine done_ (done_of HT_.out (by kernel_rfl)) ?_
                try go_wp2
                go_ret
                exact ⟨by first | rfl | (simp [errW_none, errW_some] <;> rfl) | (simp [*, errW_none, errW_some] <;> rfl), by repeat (first | (with_reducible first | exact HB.out | apply below_alloc | apply pw_below_drewN | apply below_drew1) | exact HB.out)⟩
            · rw [if_neg c6] at H
              exact absurd H (by simp)
          · rw [if_neg c5] at H
            exact absurd H (by simp)
        · rw [if_neg c4] at H
          have c4b0 : decide (x5_1 < (l0.length : Int)) = false := decide_eq_false c4
          clear c4
          obtain rfl := Option.some.inj H
          go_wp2
          go_ret
          exact ⟨by first | rfl | (simp [errW_none, errW_some] <;> rfl) | (simp [*, errW_none, errW_some] <;> rfl), by repeat (first | (with_reducible first | exact HB.out | apply below_alloc | apply pw_below_drewN | apply below_drew1) | exact HB.out)⟩
  · rw [if_neg c3] at H
    have c3b0 : ((l0.length : Int) == (l1.length : Int)) = false := beq_eq_false_iff_ne.mpr c3
    have c3b1 : ((l0.length : Int) != (l1.length : Int)) = true := bne_iff_ne.mpr c3
    have c3b2 : (l0.length == l1.length) = false := by first | simpa using c3 | (simp at c3 ⊢; omega)
    obtain rfl := Option.some.inj H
    go_enter Try.func39, Try.ntmps39
    go_wp2
    go_ret
    exact ⟨by first | rfl | (simp [errW_none, errW_some] <;> rfl) | (simp [*, errW_none, errW_some] <;> rfl), by repeat (first | (with_reducible first | exact HB.out | apply below_alloc | apply pw_below_drewN | apply below_drew1) | exact HB.out)⟩
end Go.Proofs.Ytidjdkodgddfcaa.P
end

section
namespace Go.Proofs.Ytidjdkodgddfcaa.P
open Go.RowKit Go.Proofs.YtidjdkodgddfcaaW.PrintWords Go.Proofs.YtidjdkodgddfcaaW.PrintLast Go.Proofs.YtidjdkodgddfcaaW.PrintMore
attribute [local go_sem] str_gtr str_leq str_geq max2_int min2_int max_two min_two max_three min_three max_four min_four
set_option linter.unusedVariables false
set_option linter.unusedSimpArgs false
theorem R_made {α : Type} {d : Kd α} {e : Nat} {w' : World} {b lo base : Nat} {v : Value} {xs : List α} (h : d.R e w' b (fun _ => True) v xs) (h1 : lo ≤ b) (h2 : base ≤ b) : d.R e w' base (fun k_ => lo ≤ k_ ∧ k_ < w'.heap.size) v xs :=
  Kd.R_mono (Kd.R_lower (Kd.R_bound h) h2) (fun k_ hk => ⟨Nat.le_trans h1 hk.2.1, hk.2.2.1⟩)
theorem S_made {α : Type} {d : Kd α} {e : Nat} {w' : World} {b lo base : Nat} {v : Value} {xs : List α} (h : Kd.S d e w' b (fun _ => True) v xs) (h1 : lo ≤ b) (h2 : base ≤ b) : Kd.S d e w' base (fun k_ => lo ≤ k_ ∧ k_ < w'.heap.size) v xs :=
  Kd.S_mono (Kd.S_lower (Kd.S_bound h) h2) (fun k_ hk => ⟨Nat.le_trans h1 hk.2.1, hk.2.2.1⟩)
end Go.Proofs.Ytidjdkodgddfcaa.P
end

section
namespace Go.Proofs.Ytidjdkodgddfcaa.P
open Go.RowKit Go.Proofs.YtidjdkodgddfcaaW.PrintWords Go.Proofs.YtidjdkodgddfcaaW.PrintLast Go.Proofs.YtidjdkodgddfcaaW.PrintMore
attribute [local go_sem] str_gtr str_leq str_geq max2_int min2_int max_two min_two max_three min_three max_four min_four
set_option linter.unusedVariables false
set_option linter.unusedSimpArgs false
def laws_FnExactMergeRuns.f (k : Nat) (l0 : List (S137)) : Option Bool := (laws_szRunS.f k l0 1048576).bind fun s0 => if s0 < 0 then some true else (laws_toRunS.f k l0).bind fun L0 => (spec_MergeRuns.f k L0).bind fun b => (impl_MergeRuns.f k L0).bind fun g => (laws_eqEntryS.f k g.1 b.1).bind fun t0 => if t0 = true then (if g.2 = b.2 then ((laws_eqRunS.f k L0 L0).bind fun u0 => if u0 = true then ((laws_markRunS.f k L0 1).bind fun m0 => if 0 ≤ m0.1 then ((laws_markEntryS.f k g.1 1).bind fun n0 => (laws_heldEntryS.f k n0.2 1).bind fun q0 => if 0 ≤ q0 then (if q0 = n0.1 then (some true) else none) else none) else none) else none) else none) else none
theorem ite_some {c : Prop} [Decidable c] {a : Option Bool} {r : Bool} (h : (if c then a else none) = some r) : c ∧ a = some r := by
  by_cases hc : c
  · rw [if_pos hc] at h; exact ⟨hc, h⟩
  · rw [if_neg hc] at h; cases h
set_option maxHeartbeats 8000000 in
set_option maxRecDepth 100000 in
theorem laws_FnExactMergeRuns.calls (k : Nat) (A0 : Option Addr) (c0 : Nat) (l0 : List (S137)) (r : Bool) (w : World) (hr0 : Kd.C k137 w A0 l0.length l0) (hc0 : l0.length ≤ c0) (h : laws_FnExactMergeRuns.f k l0 = some r) :
    Calls Try.prog 9 #[.slice A0 l0.length c0] w fun e w' => e = .returned (.bool r) ∧ Below w.heap.size w w' := by
  have HR0 := Aside0.mk hr0; have HC0 := Aside0.mk hc0; clear hr0 hc0
  have HB := Aside0.mk (Below.refl w.heap.size w)
  unfold laws_FnExactMergeRuns.f at h
  have H := h; clear h
  have H2 := Option.bind_eq_some_iff.mp H; clear H; obtain ⟨s0, A1_, H⟩ := H2
  have A1 := Aside0.mk A1_; clear A1_
  by_cases z0 : s0 < 0
  · rw [if_pos z0] at H
    obtain rfl := Option.some.inj H
    have z0b : decide (s0 < 0) = true := decide_eq_true z0
    go_enter Try.func9, Try.ntmps9
    go_wp2_with fail
    (with_reducible refine (laws_szRunS.calls k _ _ l0 1048576 s0 _ ?side1 ?side2 A1.out).mono ?_)
    case side1 => repeat (first | exact (Kd.C_below HR0.out HB.out) | (with_reducible refine Kd.C_alloc ?_ _) | (with_reducible refine Kd.C_drewN ?_ _) | (with_reducible refine Kd.C_drew ?_))
    case side2 => exact HC0.out
    rintro e w1 ⟨rfl, hb⟩
    have N1 := Aside0.mk (show w.heap.size ≤ w1.heap.size from by first | exact hb.size | simpa using hb.size)
    have n_ := Aside0.mk (below_step (by repeat (first | (with_reducible first | exact HB.out | apply below_alloc | apply pw_below_drewN | apply below_drew1) | exact HB.out)) hb)
    clear HB; have HB := n_; clear n_ hb
    go_wp2
    go_ret
    exact ⟨rfl, (by repeat (first | (with_reducible first | exact HB.out | apply below_alloc | apply pw_below_drewN | apply below_drew1) | exact HB.out))⟩
  have z0b : decide (s0 < 0) = false := decide_eq_false z0
  rw [if_neg z0] at H; clear z0
  have H2 := Option.bind_eq_some_iff.mp H; clear H; obtain ⟨L0, A2_, H⟩ := H2
  have A2 := Aside0.mk A2_; clear A2_
  have H2 := Option.bind_eq_some_iff.mp H; clear H; obtain ⟨⟨b_0, b_1⟩, A3_, H⟩ := H2
  have A3 := Aside0.mk A3_; clear A3_
  have H2 := Option.bind_eq_some_iff.mp H; clear H; obtain ⟨⟨g_0, g_1⟩, A4_, H⟩ := H2
  have A4 := Aside0.mk A4_; clear A4_
  have H2 := Option.bind_eq_some_iff.mp H; clear H; obtain ⟨t0, A5_, H⟩ := H2
  have A5 := Aside0.mk A5_; clear A5_
  have H2 := ite_some H; clear H; obtain ⟨e_, H⟩ := H2
  subst e_
  have H2 := ite_some H; clear H; obtain ⟨e_, H⟩ := H2
  replace e_ : g_1 = b_1 := e_
  subst e_
  have H2 := Option.bind_eq_some_iff.mp H; clear H; obtain ⟨u0, A6_, H⟩ := H2
  have A6 := Aside0.mk A6_; clear A6_
  have H2 := ite_some H; clear H; obtain ⟨e_, H⟩ := H2
  subst e_
  have H2 := Option.bind_eq_some_iff.mp H; clear H; obtain ⟨⟨m0, M0⟩, A7_, H⟩ := H2
  have A7 := Aside0.mk A7_; clear A7_
  have H2 := ite_some H; clear H; obtain ⟨zm, H⟩ := H2
  replace zm : 0 ≤ m0 := zm
  have zmb : decide (m0 < 0) = false := decide_eq_false (by omega)
  clear zm
  have H2 := Option.bind_eq_some_iff.mp H; clear H; obtain ⟨⟨n0, N0_⟩, A8_, H⟩ := H2
  have A8 := Aside0.mk A8_; clear A8_
  have H2 := Option.bind_eq_some_iff.mp H; clear H; obtain ⟨q0, A9_, H⟩ := H2
  have A9 := Aside0.mk A9_; clear A9_
  have H2 := ite_some H; clear H; obtain ⟨zq, H⟩ := H2
  have zq0 : decide (q0 < 0) = false := decide_eq_false (by omega)
  clear zq
  have H2 := ite_some H; clear H; obtain ⟨e_, H⟩ := H2
  replace e_ : q0 = n0 := e_
  subst e_
  obtain rfl := Option.some.inj H
  go_enter Try.func9, Try.ntmps9
  go_wp2_with fail
  (with_reducible refine (laws_szRunS.calls k _ _ l0 1048576 s0 _ ?side1 ?side2 A1.out).mono ?_)
  case side1 => repeat (first | exact (Kd.C_below HR0.out HB.out) | (with_reducible refine Kd.C_alloc ?_ _) | (with_reducible refine Kd.C_drewN ?_ _) | (with_reducible refine Kd.C_drew ?_))
  case side2 => exact HC0.out
  rintro e w1 ⟨rfl, hb⟩
  have N1 := Aside0.mk (show w.heap.size ≤ w1.heap.size from by first | exact hb.size | simpa using hb.size)
  have n_ := Aside0.mk (below_step (by repeat (first | (with_reducible first | exact HB.out | apply below_alloc | apply pw_below_drewN | apply below_drew1) | exact HB.out)) hb)
  clear HB; have HB := n_; clear n_ hb
  go_wp2_with fail
  (with_reducible refine (laws_toRunS.calls k _ _ l0 L0 _ ?side1 ?side2 A2.out).mono ?_)
  case side1 => repeat (first | exact (Kd.C_below HR0.out HB.out) | (with_reducible refine Kd.C_alloc ?_ _) | (with_reducible refine Kd.C_drewN ?_ _) | (with_reducible refine Kd.C_drew ?_))
  case side2 => exact HC0.out
  rintro e w2 ⟨v_, rfl, ho, hb⟩
  have N2 := Aside0.mk (show w1.heap.size ≤ w2.heap.size from by first | exact hb.size | simpa using hb.size)
  have HY0 := Aside0.mk (S_made ho (lo := w1.heap.size) (by first | exact Nat.le_refl _ | simp) (below_size (by repeat (first | (with_reducible first | exact HB.out | apply below_alloc | apply pw_below_drewN | apply below_drew1) | exact HB.out))))
  have n_ := Aside0.mk (below_step (by repeat (first | (with_reducible first | exact HB.out | apply below_alloc | apply pw_below_drewN | apply below_drew1) | exact HB.out)) hb)
  clear HB; have HB := n_; clear n_ hb ho
  obtain ⟨AY0, cY0, eY0⟩ := Kd.S_slice HY0.out
  subst eY0
  go_wp2_with fail
  (with_reducible refine (spec_MergeRuns.calls k _ _ L0 b_0 g_1 _ ?side1 ?side2 A3.out).mono ?_)
  case side1 => repeat (first | exact (Kd.S_reads' HY0.out).2.2 | (with_reducible refine Kd.C_alloc ?_ _) | (with_reducible refine Kd.C_drewN ?_ _) | (with_reducible refine Kd.C_drew ?_))
  case side2 => exact (Kd.S_reads' HY0.out).2.1
  rintro e w3 ⟨v_, rfl, ho, hb⟩
  have N3 := Aside0.mk (show w2.heap.size ≤ w3.heap.size from by first | exact hb.size | simpa using hb.size)
  have n_ := Aside0.mk (Kd.S_below (by (with_reducible repeat (first | apply Kd.S_alloc | apply Kd.S_drewN | apply Kd.S_drew)); exact HY0.out) hb)
  clear HY0; have HY0 := n_; clear n_
  have HW0 := Aside0.mk (R_made ho (lo := w2.heap.size) (by first | exact Nat.le_refl _ | simp) (below_size (by repeat (first | (with_reducible first | exact HB.out | apply below_alloc | apply pw_below_drewN | apply below_drew1) | exact HB.out))))
  have n_ := Aside0.mk (below_step (by repeat (first | (with_reducible first | exact HB.out | apply below_alloc | apply pw_below_drewN | apply below_drew1) | exact HB.out)) hb)
  clear HB; have HB := n_; clear n_ hb ho
  obtain ⟨AW0, cW0, eW0⟩ := Kd.R_slice HW0.out
  subst eW0
  clear HY0
  go_wp2_with fail
  (with_reducible refine (laws_toRunS.calls k _ _ l0 L0 _ ?side1 ?side2 A2.out).mono ?_)
  case side1 => repeat (first | exact (Kd.C_below HR0.out HB.out) | (with_reducible refine Kd.C_alloc ?_ _) | (with_reducible refine Kd.C_drewN ?_ _) | (with_reducible refine Kd.C_drew ?_))
  case side2 => exact HC0.out
  rintro e w4 ⟨v_, rfl, ho, hb⟩
  have N4 := Aside0.mk (show w3.heap.size ≤ w4.heap.size from by first | exact hb.size | simpa using hb.size)
  have n_ := Aside0.mk (Kd.R_below (by (with_reducible repeat (first | apply Kd.R_alloc | apply Kd.R_drewN | apply Kd.R_drew)); exact HW0.out) hb)
  clear HW0; have HW0 := n_; clear n_
  have HX0 := Aside0.mk (S_made ho (lo := w3.heap.size) (by first | exact Nat.le_refl _ | simp) (below_size (by repeat (first | (with_reducible first | exact HB.out | apply below_alloc | apply pw_below_drewN | apply below_drew1) | exact HB.out))))
  have n_ := Aside0.mk (below_step (by repeat (first | (with_reducible first | exact HB.out | apply below_alloc | apply pw_below_drewN | apply below_drew1) | exact HB.out)) hb)
  clear HB; have HB := n_; clear n_ hb ho
  obtain ⟨AX0, cX0, eX0⟩ := Kd.S_slice HX0.out
  subst eX0
  go_wp2_with fail
  (with_reducible refine (impl_MergeRuns.calls k _ _ L0 g_0 g_1 _ ?side1 ?side2 A4.out).mono ?_)
  case side1 => repeat (first | exact (Kd.S_reads' HX0.out).2.2 | (with_reducible refine Kd.C_alloc ?_ _) | (with_reducible refine Kd.C_drewN ?_ _) | (with_reducible refine Kd.C_drew ?_))
  case side2 => exact (Kd.S_reads' HX0.out).2.1
  rintro e w5 ⟨v_, rfl, ho, hb⟩
  have N5 := Aside0.mk (show w4.heap.size ≤ w5.heap.size from by first | exact hb.size | simpa using hb.size)
  have n_ := Aside0.mk (Kd.R_below (by (with_reducible repeat (first | apply Kd.R_alloc | apply Kd.R_drewN | apply Kd.R_drew)); exact HW0.out) hb)
  clear HW0; have HW0 := n_; clear n_
  have n_ := Aside0.mk (Kd.S_below (by (with_reducible repeat (first | apply Kd.S_alloc | apply Kd.S_drewN | apply Kd.S_drew)); exact HX0.out) hb)
  clear HX0; have HX0 := n_; clear n_
  have HG0 := Aside0.mk (R_made ho (lo := w4.heap.size) (by first | exact Nat.le_refl _ | simp) (below_size (by repeat (first | (with_reducible first | exact HB.out | apply below_alloc | apply pw_below_drewN | apply below_drew1) | exact HB.out))))
  have n_ := Aside0.mk (below_step (by repeat (first | (with_reducible first | exact HB.out | apply below_alloc | apply pw_below_drewN | apply below_drew1) | exact HB.out)) hb)
  clear HB; have HB := n_; clear n_ hb ho
  obtain ⟨AG0, cG0, eG0⟩ := Kd.R_slice HG0.out
  subst eG0
  go_wp2_with fail
  (with_reducible refine (laws_eqEntryS.calls k _ _ g_0 _ _ b_0 true _ ?side1 ?side2 ?side3 ?side4 A5.out).mono ?_)
  case side1 => repeat (first | exact (Kd.R_reads' HG0.out).2.2 | (with_reducible refine Kd.C_alloc ?_ _) | (with_reducible refine Kd.C_drewN ?_ _) | (with_reducible refine Kd.C_drew ?_))
  case side2 => exact (Kd.R_reads' HG0.out).2.1
  case side3 => repeat (first | exact (Kd.R_reads' HW0.out).2.2 | (with_reducible refine Kd.C_alloc ?_ _) | (with_reducible refine Kd.C_drewN ?_ _) | (with_reducible refine Kd.C_drew ?_))
  case side4 => exact (Kd.R_reads' HW0.out).2.1
  rintro e w6 ⟨rfl, hb⟩
  have N6 := Aside0.mk (show w5.heap.size ≤ w6.heap.size from by first | exact hb.size | simpa using hb.size)
  have n_ := Aside0.mk (Kd.R_below (by (with_reducible repeat (first | apply Kd.R_alloc | apply Kd.R_drewN | apply Kd.R_drew)); exact HW0.out) hb)
  clear HW0; have HW0 := n_; clear n_
  have n_ := Aside0.mk (Kd.S_below (by (with_reducible repeat (first | apply Kd.S_alloc | apply Kd.S_drewN | apply Kd.S_drew)); exact HX0.out) hb)
  clear HX0; have HX0 := n_; clear n_
  have n_ := Aside0.mk (Kd.R_below (by (with_reducible repeat (first | apply Kd.R_alloc | apply Kd.R_drewN | apply Kd.R_drew)); exact HG0.out) hb)
  clear HG0; have HG0 := n_; clear n_
  have n_ := Aside0.mk (below_step (by repeat (first | (with_reducible first | exact HB.out | apply below_alloc | apply pw_below_drewN | apply below_drew1) | exact HB.out)) hb)
  clear HB; have HB := n_; clear n_ hb
  go_wp2_with fail
  (with_reducible refine (laws_toRunS.calls k _ _ l0 L0 _ ?side1 ?side2 A2.out).mono ?_)
  case side1 => repeat (first | exact (Kd.C_below HR0.out HB.out) | (with_reducible refine Kd.C_alloc ?_ _) | (with_reducible refine Kd.C_drewN ?_ _) | (with_reducible refine Kd.C_drew ?_))
  case side2 => exact HC0.out
  rintro e w7 ⟨v_, rfl, ho, hb⟩
  have N7 := Aside0.mk (show w6.heap.size ≤ w7.heap.size from by first | exact hb.size | simpa using hb.size)
  have n_ := Aside0.mk (Kd.R_below (by (with_reducible repeat (first | apply Kd.R_alloc | apply Kd.R_drewN | apply Kd.R_drew)); exact HW0.out) hb)
  clear HW0; have HW0 := n_; clear n_
  have n_ := Aside0.mk (Kd.S_below (by (with_reducible repeat (first | apply Kd.S_alloc | apply Kd.S_drewN | apply Kd.S_drew)); exact HX0.out) hb)
  clear HX0; have HX0 := n_; clear n_
  have n_ := Aside0.mk (Kd.R_below (by (with_reducible repeat (first | apply Kd.R_alloc | apply Kd.R_drewN | apply Kd.R_drew)); exact HG0.out) hb)
  clear HG0; have HG0 := n_; clear n_
  have HZ0 := Aside0.mk (S_made ho (lo := w6.heap.size) (by first | exact Nat.le_refl _ | simp) (below_size (by repeat (first | (with_reducible first | exact HB.out | apply below_alloc | apply pw_below_drewN | apply below_drew1) | exact HB.out))))
  have n_ := Aside0.mk (below_step (by repeat (first | (with_reducible first | exact HB.out | apply below_alloc | apply pw_below_drewN | apply below_drew1) | exact HB.out)) hb)
  clear HB; have HB := n_; clear n_ hb ho
  obtain ⟨AZ0, cZ0, eZ0⟩ := Kd.S_slice HZ0.out
  subst eZ0
  go_wp2_with fail
  (with_reducible refine (laws_eqRunS.calls k _ _ L0 _ _ L0 true _ ?side1 ?side2 ?side3 ?side4 A6.out).mono ?_)
  case side1 => repeat (first | exact (Kd.S_reads' HX0.out).2.2 | (with_reducible refine Kd.C_alloc ?_ _) | (with_reducible refine Kd.C_drewN ?_ _) | (with_reducible refine Kd.C_drew ?_))
  case side2 => exact (Kd.S_reads' HX0.out).2.1
  case side3 => repeat (first | exact (Kd.S_reads' HZ0.out).2.2 | (with_reducible refine Kd.C_alloc ?_ _) | (with_reducible refine Kd.C_drewN ?_ _) | (with_reducible refine Kd.C_drew ?_))
  case side4 => exact (Kd.S_reads' HZ0.out).2.1
  rintro e w8 ⟨rfl, hb⟩
  have N8 := Aside0.mk (show w7.heap.size ≤ w8.heap.size from by first | exact hb.size | simpa using hb.size)
  have n_ := Aside0.mk (Kd.R_below (by (with_reducible repeat (first | apply Kd.R_alloc | apply Kd.R_drewN | apply Kd.R_drew)); exact HW0.out) hb)
  clear HW0; have HW0 := n_; clear n_
  have n_ := Aside0.mk (Kd.S_below (by (with_reducible repeat (first | apply Kd.S_alloc | apply Kd.S_drewN | apply Kd.S_drew)); exact HX0.out) hb)
  clear HX0; have HX0 := n_; clear n_
  have n_ := Aside0.mk (Kd.R_below (by (with_reducible repeat (first | apply Kd.R_alloc | apply Kd.R_drewN | apply Kd.R_drew)); exact HG0.out) hb)
  clear HG0; have HG0 := n_; clear n_
  have n_ := Aside0.mk (Kd.S_below (by (with_reducible repeat (first | apply Kd.S_alloc | apply Kd.S_drewN | apply Kd.S_drew)); exact HZ0.out) hb)
  clear HZ0; have HZ0 := n_; clear n_
  have n_ := Aside0.mk (below_step (by repeat (first | (with_reducible first | exact HB.out | apply below_alloc | apply pw_below_drewN | apply below_drew1) | exact HB.out)) hb)
  clear HB; have HB := n_; clear n_ hb
  clear HZ0
  go_wp2_with fail
  (with_reducible refine (laws_markRunS.calls k (fun k_ => w3.heap.size ≤ k_ ∧ k_ < w4.heap.size) _ L0 1 m0 M0 w _ ?side1 ?side2 A7.out).mono ?_)
  case side1 => exact (by repeat (first | (with_reducible first | exact HB.out | apply below_alloc | apply pw_below_drewN | apply below_drew1) | exact HB.out))
  case side2 => exact (by (with_reducible repeat (first | apply Kd.S_alloc | apply Kd.S_drewN | apply Kd.S_drew)); exact HX0.out)
  rintro e w9 ⟨rfl, hR2, hB2, hK2⟩
  have N9 := Aside0.mk (show w8.heap.size ≤ w9.heap.size from hK2.1)
  have n_ := Aside0.mk (Kd.R_kept (by (with_reducible repeat (first | apply Kd.R_alloc | apply Kd.R_drewN | apply Kd.R_drew)); exact HW0.out) hK2 (fun k_ h1_ h2_ => by have := N1.out; have := N2.out; have := N3.out; have := N4.out; have := N5.out; have := N6.out; have := N7.out; have := N8.out; have := N9.out; omega))
  clear HW0; have HW0 := n_; clear n_
  have n_ := Aside0.mk (Kd.R_kept (by (with_reducible repeat (first | apply Kd.R_alloc | apply Kd.R_drewN | apply Kd.R_drew)); exact HG0.out) hK2 (fun k_ h1_ h2_ => by have := N1.out; have := N2.out; have := N3.out; have := N4.out; have := N5.out; have := N6.out; have := N7.out; have := N8.out; have := N9.out; omega))
  clear HG0; have HG0 := n_; clear n_
  clear HX0; have HX0 := Aside0.mk hR2; clear HB; have HB := Aside0.mk hB2; clear hR2 hB2 hK2
  obtain ⟨A_, c_, e_⟩ := Kd.S_slice HX0.out
  injection e_ with e1_ e2_ e3_
  clear e1_ e3_
  have LX0 := Aside0.mk e2_; clear e2_
  clear HX0
  go_wp2_with fail
  (with_reducible refine (laws_eqEntryS.calls k _ _ g_0 _ _ b_0 true _ ?side1 ?side2 ?side3 ?side4 A5.out).mono ?_)
  case side1 => repeat (first | exact (Kd.R_reads' HG0.out).2.2 | (with_reducible refine Kd.C_alloc ?_ _) | (with_reducible refine Kd.C_drewN ?_ _) | (with_reducible refine Kd.C_drew ?_))
  case side2 => exact (Kd.R_reads' HG0.out).2.1
  case side3 => repeat (first | exact (Kd.R_reads' HW0.out).2.2 | (with_reducible refine Kd.C_alloc ?_ _) | (with_reducible refine Kd.C_drewN ?_ _) | (with_reducible refine Kd.C_drew ?_))
  case side4 => exact (Kd.R_reads' HW0.out).2.1
  rintro e w10 ⟨rfl, hb⟩
  have N10 := Aside0.mk (show w9.heap.size ≤ w10.heap.size from by first | exact hb.size | simpa using hb.size)
  have n_ := Aside0.mk (Kd.R_below (by (with_reducible repeat (first | apply Kd.R_alloc | apply Kd.R_drewN | apply Kd.R_drew)); exact HW0.out) hb)
  clear HW0; have HW0 := n_; clear n_
  have n_ := Aside0.mk (Kd.R_below (by (with_reducible repeat (first | apply Kd.R_alloc | apply Kd.R_drewN | apply Kd.R_drew)); exact HG0.out) hb)
  clear HG0; have HG0 := n_; clear n_
  have n_ := Aside0.mk (below_step (by repeat (first | (with_reducible first | exact HB.out | apply below_alloc | apply pw_below_drewN | apply below_drew1) | exact HB.out)) hb)
  clear HB; have HB := n_; clear n_ hb
  go_wp2_with fail
  (with_reducible refine (laws_markEntryS.calls k (fun k_ => w4.heap.size ≤ k_ ∧ k_ < w5.heap.size) _ g_0 1 q0 N0_ w _ ?side1 ?side2 A8.out).mono ?_)
  case side1 => exact (by repeat (first | (with_reducible first | exact HB.out | apply below_alloc | apply pw_below_drewN | apply below_drew1) | exact HB.out))
  case side2 => exact (by (with_reducible repeat (first | apply Kd.R_alloc | apply Kd.R_drewN | apply Kd.R_drew)); exact HG0.out)
  rintro e w11 ⟨rfl, hR2, hB2, hK2⟩
  have N11 := Aside0.mk (show w10.heap.size ≤ w11.heap.size from hK2.1)
  have n_ := Aside0.mk (Kd.R_kept (by (with_reducible repeat (first | apply Kd.R_alloc | apply Kd.R_drewN | apply Kd.R_drew)); exact HW0.out) hK2 (fun k_ h1_ h2_ => by have := N1.out; have := N2.out; have := N3.out; have := N4.out; have := N5.out; have := N6.out; have := N7.out; have := N8.out; have := N9.out; have := N10.out; have := N11.out; omega))
  clear HW0; have HW0 := n_; clear n_
  clear HG0; have HG0 := Aside0.mk hR2; clear HB; have HB := Aside0.mk hB2; clear hR2 hB2 hK2
  obtain ⟨A_, c_, e_⟩ := Kd.R_slice HG0.out
  injection e_ with e1_ e2_ e3_
  clear e1_ e3_
  have LG0 := Aside0.mk e2_; clear e2_
  go_wp2_with fail
  try rw [LG0.out]
  (with_reducible refine (laws_heldEntryS.calls k _ _ N0_ 1 q0 _ ?side1 ?side2 A9.out).mono ?_)
  case side1 => repeat (first | exact (Kd.R_reads' HG0.out).2.2 | (with_reducible refine Kd.C_alloc ?_ _) | (with_reducible refine Kd.C_drewN ?_ _) | (with_reducible refine Kd.C_drew ?_))
  case side2 => have l_ := (Kd.R_reads' HG0.out).2.1; rw [LG0.out] at l_; exact l_
  rintro e w12 ⟨rfl, hb⟩
  have N12 := Aside0.mk (show w11.heap.size ≤ w12.heap.size from by first | exact hb.size | simpa using hb.size)
  have n_ := Aside0.mk (Kd.R_below (by (with_reducible repeat (first | apply Kd.R_alloc | apply Kd.R_drewN | apply Kd.R_drew)); exact HW0.out) hb)
  clear HW0; have HW0 := n_; clear n_
  have n_ := Aside0.mk (Kd.R_below (by (with_reducible repeat (first | apply Kd.R_alloc | apply Kd.R_drewN | apply Kd.R_drew)); exact HG0.out) hb)
  clear HG0; have HG0 := n_; clear n_
  have n_ := Aside0.mk (below_step (by repeat (first | (with_reducible first | exact HB.out | apply below_alloc | apply pw_below_drewN | apply below_drew1) | exact HB.out)) hb)
  clear HB; have HB := n_; clear n_ hb
  go_wp2_with fail
  (with_reducible refine (laws_toRunS.calls k _ _ l0 L0 _ ?side1 ?side2 A2.out).mono ?_)
  case side1 => repeat (first | exact (Kd.C_below HR0.out HB.out) | (with_reducible refine Kd.C_alloc ?_ _) | (with_reducible refine Kd.C_drewN ?_ _) | (with_reducible refine Kd.C_drew ?_))
  case side2 => exact HC0.out
  rintro e w13 ⟨v_, rfl, ho, hb⟩
  have N13 := Aside0.mk (show w12.heap.size ≤ w13.heap.size from by first | exact hb.size | simpa using hb.size)
  have n_ := Aside0.mk (Kd.R_below (by (with_reducible repeat (first | apply Kd.R_alloc | apply Kd.R_drewN | apply Kd.R_drew)); exact HW0.out) hb)
  clear HW0; have HW0 := n_; clear n_
  have n_ := Aside0.mk (Kd.R_below (by (with_reducible repeat (first | apply Kd.R_alloc | apply Kd.R_drewN | apply Kd.R_drew)); exact HG0.out) hb)
  clear HG0; have HG0 := n_; clear n_
  have HV0 := Aside0.mk (S_made ho (lo := w12.heap.size) (by first | exact Nat.le_refl _ | simp) (below_size (by repeat (first | (with_reducible first | exact HB.out | apply below_alloc | apply pw_below_drewN | apply below_drew1) | exact HB.out))))
  have n_ := Aside0.mk (below_step (by repeat (first | (with_reducible first | exact HB.out | apply below_alloc | apply pw_below_drewN | apply below_drew1) | exact HB.out)) hb)
  clear HB; have HB := n_; clear n_ hb ho
  obtain ⟨AV0, cV0, eV0⟩ := Kd.S_slice HV0.out
  subst eV0
  go_wp2_with fail
  (with_reducible refine (impl_MergeRuns.calls k _ _ L0 g_0 g_1 _ ?side1 ?side2 A4.out).mono ?_)
  case side1 => repeat (first | exact (Kd.S_reads' HV0.out).2.2 | (with_reducible refine Kd.C_alloc ?_ _) | (with_reducible refine Kd.C_drewN ?_ _) | (with_reducible refine Kd.C_drew ?_))
  case side2 => exact (Kd.S_reads' HV0.out).2.1
  rintro e w14 ⟨v_, rfl, ho, hb⟩
  have N14 := Aside0.mk (show w13.heap.size ≤ w14.heap.size from by first | exact hb.size | simpa using hb.size)
  have n_ := Aside0.mk (Kd.R_below (by (with_reducible repeat (first | apply Kd.R_alloc | apply Kd.R_drewN | apply Kd.R_drew)); exact HW0.out) hb)
  clear HW0; have HW0 := n_; clear n_
  have n_ := Aside0.mk (Kd.R_below (by (with_reducible repeat (first | apply Kd.R_alloc | apply Kd.R_drewN | apply Kd.R_drew)); exact HG0.out) hb)
  clear HG0; have HG0 := n_; clear n_
  have n_ := Aside0.mk (Kd.S_below (by (with_reducible repeat (first | apply Kd.S_alloc | apply Kd.S_drewN | apply Kd.S_drew)); exact HV0.out) hb)
  clear HV0; have HV0 := n_; clear n_
  have HH0 := Aside0.mk (R_made ho (lo := w13.heap.size) (by first | exact Nat.le_refl _ | simp) (below_size (by repeat (first | (with_reducible first | exact HB.out | apply below_alloc | apply pw_below_drewN | apply below_drew1) | exact HB.out))))
  have n_ := Aside0.mk (below_step (by repeat (first | (with_reducible first | exact HB.out | apply below_alloc | apply pw_below_drewN | apply below_drew1) | exact HB.out)) hb)
  clear HB; have HB := n_; clear n_ hb ho
  obtain ⟨AH0, cH0, eH0⟩ := Kd.R_slice HH0.out
  subst eH0
  go_wp2_with fail
  (with_reducible refine (laws_eqEntryS.calls k _ _ g_0 _ _ b_0 true _ ?side1 ?side2 ?side3 ?side4 A5.out).mono ?_)
  case side1 => repeat (first | exact (Kd.R_reads' HH0.out).2.2 | (with_reducible refine Kd.C_alloc ?_ _) | (with_reducible refine Kd.C_drewN ?_ _) | (with_reducible refine Kd.C_drew ?_))
  case side2 => exact (Kd.R_reads' HH0.out).2.1
  case side3 => repeat (first | exact (Kd.R_reads' HW0.out).2.2 | (with_reducible refine Kd.C_alloc ?_ _) | (with_reducible refine Kd.C_drewN ?_ _) | (with_reducible refine Kd.C_drew ?_))
  case side4 => exact (Kd.R_reads' HW0.out).2.1
  rintro e w15 ⟨rfl, hb⟩
  have N15 := Aside0.mk (show w14.heap.size ≤ w15.heap.size from by first | exact hb.size | simpa using hb.size)
  have n_ := Aside0.mk (Kd.R_below (by (with_reducible repeat (first | apply Kd.R_alloc | apply Kd.R_drewN | apply Kd.R_drew)); exact HW0.out) hb)
  clear HW0; have HW0 := n_; clear n_
  have n_ := Aside0.mk (Kd.R_below (by (with_reducible repeat (first | apply Kd.R_alloc | apply Kd.R_drewN | apply Kd.R_drew)); exact HG0.out) hb)
  clear HG0; have HG0 := n_; clear n_
  have n_ := Aside0.mk (Kd.S_below (by (with_reducible repeat (first | apply Kd.S_alloc | apply Kd.S_drewN | apply Kd.S_drew)); exact HV0.out) hb)
  clear HV0; have HV0 := n_; clear n_
  have n_ := Aside0.mk (Kd.R_below (by (with_reducible repeat (first | apply Kd.R_alloc | apply Kd.R_drewN | apply Kd.R_drew)); exact HH0.out) hb)
  clear HH0; have HH0 := n_; clear n_
  have n_ := Aside0.mk (below_step (by repeat (first | (with_reducible first | exact HB.out | apply below_alloc | apply pw_below_drewN | apply below_drew1) | exact HB.out)) hb)
  clear HB; have HB := n_; clear n_ hb
  go_wp2_with fail
  try rw [LG0.out]
  (with_reducible refine (laws_heldEntryS.calls k _ _ N0_ 1 q0 _ ?side1 ?side2 A9.out).mono ?_)
  case side1 => repeat (first | exact (Kd.R_reads' HG0.out).2.2 | (with_reducible refine Kd.C_alloc ?_ _) | (with_reducible refine Kd.C_drewN ?_ _) | (with_reducible refine Kd.C_drew ?_))
  case side2 => have l_ := (Kd.R_reads' HG0.out).2.1; rw [LG0.out] at l_; exact l_
  rintro e w16 ⟨rfl, hb⟩
  have N16 := Aside0.mk (show w15.heap.size ≤ w16.heap.size from by first | exact hb.size | simpa using hb.size)
  have n_ := Aside0.mk (Kd.R_below (by (with_reducible repeat (first | apply Kd.R_alloc | apply Kd.R_drewN | apply Kd.R_drew)); exact HW0.out) hb)
  clear HW0; have HW0 := n_; clear n_
  have n_ := Aside0.mk (Kd.R_below (by (with_reducible repeat (first | apply Kd.R_alloc | apply Kd.R_drewN | apply Kd.R_drew)); exact HG0.out) hb)
  clear HG0; have HG0 := n_; clear n_
  have n_ := Aside0.mk (Kd.S_below (by (with_reducible repeat (first | apply Kd.S_alloc | apply Kd.S_drewN | apply Kd.S_drew)); exact HV0.out) hb)
  clear HV0; have HV0 := n_; clear n_
  have n_ := Aside0.mk (Kd.R_below (by (with_reducible repeat (first | apply Kd.R_alloc | apply Kd.R_drewN | apply Kd.R_drew)); exact HH0.out) hb)
  clear HH0; have HH0 := n_; clear n_
  have n_ := Aside0.mk (below_step (by repeat (first | (with_reducible first | exact HB.out | apply below_alloc | apply pw_below_drewN | apply below_drew1) | exact HB.out)) hb)
  clear HB; have HB := n_; clear n_ hb
  go_wp2
  go_ret
  exact ⟨rfl, (by repeat (first | (with_reducible first | exact HB.out | apply below_alloc | apply pw_below_drewN | apply below_drew1) | exact HB.out))⟩
end Go.Proofs.Ytidjdkodgddfcaa.P
end
