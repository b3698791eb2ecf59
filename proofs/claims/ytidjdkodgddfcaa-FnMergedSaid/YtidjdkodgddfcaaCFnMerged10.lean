/- Proved: the law FnMerged of the given program returns true for every input of its Go types and leaves each argument as it was; no condition. (Part 11 of 16.) -/
import Derived.Test.YtidjdkodgddfcaaCFnMerged4
import Derived.Lib.SliceRun
import Derived.Lib.Walk
import Derived.Test.YtidjdkodgddfcaaCFnMerged5
import Derived.Test.YtidjdkodgddfcaaCFnMerged9
import Derived.Test.YtidjdkodgddfcaaCFnMerged7
import Derived.Shelf.SlSortCmp.KitK
import Derived.Deep.LoopGhost
section
namespace Go.Proofs.Ytidjdkodgddfcaa.P
open Go.RowKit Go.Proofs.YtidjdkodgddfcaaW.PrintWords Go.Proofs.YtidjdkodgddfcaaW.PrintLast Go.Proofs.YtidjdkodgddfcaaW.PrintMore
attribute [local go_sem] str_gtr str_leq str_geq qd1 qb1 max_two min_two qy qx qc1 qa1
set_option linter.unusedVariables false
set_option linter.unusedSimpArgs false
theorem R_empty {α : Type} (d : Kd α) (e : Nat) (w : World) (base : Nat) (hb : base ≤ w.heap.size) : d.R e (w.alloc (.cells #[] e)) base (fun _ => True) (.slice (some ⟨w.heap.size, 0, none⟩) ([] : List α).length 0) [] :=
  ⟨fun _ _ => trivial, [], World.ownsRow_made w #[] 0 hb (Nat.zero_le _) (by simp), Reps.none _ _⟩
set_option maxHeartbeats 4000000 in
set_option maxRecDepth 100000 in
theorem clone_Entry (A0 : Option Addr) (c0 : Nat) (l : List S64) (w0 w : World) (hB : Below w0.heap.size w0 w) (hr : Kd.C k64 w A0 l.length l) (hl : l.length * 48 ≤ 140737488355328) :
    Calls Try.prog 168 #[.slice A0 l.length c0] w fun e w' => ∃ v, e = .returned v ∧ Kd.R k64 64 w' w0.heap.size (fun _ => True) v l ∧ Below w0.heap.size w0 w' := by
  have q : ∀ (w : World) (a : Option Addr) (n c n' c' : Nat), (binOp .eql 26 (.slice a n c) (.slice none n' c')).run Try.prog w = .ok (.bool a.isNone) w := fun w a n c n' c' => Lib.run_eql_slice_nil w _ _ a n c n' c' Try.underlying26
  have HR := Qz.mk hr
  have HB := Qz.mk hB
  have hsz := hB.size
  cases A0 with
  | none =>
    have h0 : l = [] := by
      by_cases h0 : l.length = 0
      · exact List.length_eq_zero_iff.1 h0
      · obtain ⟨ad, e, _⟩ := hr.2.2 (by omega)
        cases e
    clear hr hB
    go_enter Try.func168, Try.ntmps168
    go_wp2
    go_ret
    refine ⟨_, rfl, ?_, HB.out⟩
    rw [h0]
    exact Kd.R_nil _ _ _ _ _
  | some ad =>
    clear hr hB
    have HX := Qz.mk hl
    clear hl
    go_enter Try.func168, Try.ntmps168
    go_wp2_with (first | ((with_reducible refine gate_builtin (b := .append) (xs := #[.tmp 5, .tmp 6]) rfl ?_); at_builtin; refine Kd.R_append_rows k64 (w0 := w0) w0.heap.size rfl (.tmp 5) (.tmp 6) 26 64 (.agg #[.string ⟨#[]⟩, .int .i64 0, .int .i64 0, .string ⟨#[]⟩]) 48 rfl Try.underlying26 info64 rfl (by decide) (by omega) (.slice (some ⟨w.heap.size, 0, none⟩) ([] : List S64).length 0) [] l (some ad) l.length c0 (fun _ => True) (fun _ => False) rfl rfl ?aO ?aR (fun _ _ h => h) (fun _ h => h.elim) ?aF ?aB ?aS ?aL ?_; (case aO => exact R_empty k64 64 w _ hsz); (case aR => exact Kd.C_below HR.out ((Below.refl _ w).alloc (Nat.le_refl _) _)); (case aF => exact fun _ _ => trivial); (case aB => exact HB.out.alloc hsz _); (case aS => exact (HB.out.alloc hsz _).size); (case aL => have := HX.out; simp only [List.length_nil, Nat.zero_add]; exact this); intro v1 w1 ho hb hg hat))
    go_ret
    exact ⟨_, rfl, ho, hb⟩
end Go.Proofs.Ytidjdkodgddfcaa.P
end

section
namespace Go.Proofs.Ytidjdkodgddfcaa.P
open Go.RowKit Go.Proofs.YtidjdkodgddfcaaW.PrintWords Go.Proofs.YtidjdkodgddfcaaW.PrintLast Go.Proofs.YtidjdkodgddfcaaW.PrintMore
attribute [local go_sem] str_gtr str_leq str_geq qd1 qb1 max_two min_two qy qx qc1 qa1
set_option linter.unusedVariables false
set_option linter.unusedSimpArgs false
theorem cmpB_entries : CmpB Try.prog 97 #[] encL (cfL ecmp) := by
  intro W x y
  obtain ⟨k, hk⟩ := Ev.rounds (cmpKeys_ev x.1.f0.f0 x.1.f0.f1 x.1.f0.f2 y.1.f0.f0 y.1.f0.f1 y.1.f0.f2)
  exact impl_cmpEntries.calls k x.1.f0.f0 x.1.f0.f1 x.1.f0.f2 x.1.f1 y.1.f0.f0 y.1.f0.f1 y.1.f0.f2 y.1.f1 _ W (by unfold impl_cmpEntries.f; rw [hk]; rfl)
def impl_ordered.f (l0 : List S64) : Option (List S64) := if l0.length ≤ 1000000 then some (srt ecmp l0) else none
set_option maxHeartbeats 4000000 in
theorem impl_ordered.calls (A0 : Option Addr) (c0 : Nat) (l0 : List S64) (r : List S64) (w : World) (hr0 : Kd.C k64 w A0 l0.length l0) (hc0 : l0.length ≤ c0) (h : impl_ordered.f l0 = some r) :
    Calls Try.prog 117 #[.slice A0 l0.length c0] w fun e w' => ∃ v0_ : Value, e = .returned (v0_) ∧ Kd.R k64 64 w' w.heap.size (fun _ => True) v0_ r ∧ Below w.heap.size w w' := by
  unfold impl_ordered.f at h
  split at h
  · rename_i hl
    obtain rfl := Option.some.inj h
    have hcl := clone_Entry A0 c0 l0 w w (Below.refl _ w) hr0 (by omega)
    have hso := fun v W hR hB => sort_own 97 ecmp (fun args w => by kernel_rfl) cmpB_entries w.heap.size v l0 w W hR hB (by omega)
    have HSO := Qz.mk hso
    clear hr0 hc0 h hl hso
    generalize srt ecmp l0 = r at HSO ⊢
    have q1 : ∀ args w, (callFunc 168 args).run Try.prog w = .ok (.enter 168 args) w := fun args w => by kernel_rfl
    have q2 : ∀ args w, (callFunc 169 args).run Try.prog w = .ok (.enter 169 args) w := fun args w => by kernel_rfl
    go_enter Try.func117, Try.ntmps117
    go_wp2_with fail
    (with_reducible refine hcl.mono ?_)
    rintro e w1 ⟨v, rfl, hR, hB⟩
    have hso := HSO.out v w1 hR hB
    clear hcl hR hB HSO
    go_wp2_with fail
    (with_reducible refine hso.mono ?_)
    rintro e w2 ⟨rfl, hR, hB⟩
    have HR := Qz.mk hR
    have HB := Qz.mk hB
    clear hso hR hB
    go_wp2
    go_ret
    exact ⟨_, rfl, HR.out, HB.out⟩
  · cases h
end Go.Proofs.Ytidjdkodgddfcaa.P
end

section
namespace Go.Proofs.Ytidjdkodgddfcaa.P
open Go.RowKit Go.Proofs.YtidjdkodgddfcaaW.PrintWords Go.Proofs.YtidjdkodgddfcaaW.PrintLast Go.Proofs.YtidjdkodgddfcaaW.PrintMore
attribute [local go_sem] str_gtr str_leq str_geq qd1 qb1 max_two min_two qy qx qc1 qa1
set_option linter.unusedVariables false
set_option linter.unusedSimpArgs false
attribute [local go_sem high] eqA35
def impl_merged_1.f (a0_0 : ByteArray) (a0_1 : Int) (a0_2 : Int) (a0_3 : ByteArray) (a1_0 : ByteArray) (a1_1 : Int) (a1_2 : Int) (a1_3 : ByteArray) : Option (Bool) := some (a0_0.toList == a1_0.toList && (a0_1 == a1_1 && (a0_2 == a1_2)))
set_option maxHeartbeats 8000000 in
set_option maxRecDepth 100000 in
theorem impl_merged_1.calls (a0_0 : ByteArray) (a0_1 : Int) (a0_2 : Int) (a0_3 : ByteArray) (a1_0 : ByteArray) (a1_1 : Int) (a1_2 : Int) (a1_3 : ByteArray) (r : Bool) (w : World) (h : impl_merged_1.f a0_0 a0_1 a0_2 a0_3 a1_0 a1_1 a1_2 a1_3 = some r) :
  Calls Try.prog 161 #[.agg #[.string a0_0, .int .i64 a0_1, .int .i64 a0_2, .string a0_3], .agg #[.string a1_0, .int .i64 a1_1, .int .i64 a1_2, .string a1_3]] w fun e w' => e = .returned (.bool r) ∧ Below w.heap.size w w' := by
 have hu64 := Try.underlying64
 have hu35 := Try.underlying35
 have HB := Qz.mk (Below.refl w.heap.size w)
 have H : (some (a0_0.toList == a1_0.toList && (a0_1 == a1_1 && (a0_2 == a1_2)))) = some r := h
 clear h
 obtain rfl := Option.some.inj H
 go_enter Try.func161, Try.ntmps161
 go_wp2_with (first | ((with_reducible refine qz (N := 2) rfl ?_); refine qh1 ?hg (N := 2) ?hd (cs := #[.string a0_0, .int .i64 a0_1, .int .i64 a0_2, .string a0_3]) (t := 64) ?hr ?_; (case hd => rfl); (case hg => rfl); (case hr => first | (go_simp; done) | (go_simp; rfl)); intro gb101 hg w3 hbox hb; have BK101 := Qz.mk (hbox); have GW101 := Qz.mk ((by rw [hg]; exact (qu (by repeat (first | (with_reducible first | exact HB.out | apply qc | apply qa | apply qb) | exact HB.out))) : w.heap.size ≤ gb101)); have GE101 := GW101; replace HB := Qz.mk (qm (by repeat (first | (with_reducible first | exact HB.out | apply qc | apply qa | apply qb) | exact HB.out)) hb); clear hb hbox hg) | ((with_reducible refine qz (N := 3) rfl ?_); refine qh1 ?hg (N := 3) ?hd (cs := #[.string a1_0, .int .i64 a1_1, .int .i64 a1_2, .string a1_3]) (t := 64) ?hr ?_; (case hd => rfl); (case hg => rfl); (case hr => first | (go_simp; done) | (go_simp; rfl)); intro gb102 hg w4 hbox hb; have BK102 := Qz.mk (hbox); have GW102 := Qz.mk ((by rw [hg]; exact (qu (by repeat (first | (with_reducible first | exact HB.out | apply qc | apply qa | apply qb | refine qe ?_ GE101.out) | exact HB.out))) : w.heap.size ≤ gb102)); have GE102 := GW102; replace HB := Qz.mk (qm (by repeat (first | (with_reducible first | exact HB.out | apply qc | apply qa | apply qb | refine qe ?_ GE101.out) | exact HB.out)) hb); have NB101_102 := Qz.mk ((by rw [hg]; exact Nat.ne_of_lt (blk_lt (g := gb101) (o := .cells #[.string a0_0, .int .i64 a0_1, .int .i64 a0_2, .string a0_3] 64 (0, 0)) (by (with_reducible repeat (first | refine qh ?_ _ | refine qj ?_ | refine qi ?_ _)); exact BK101.out)) : gb101 ≠ gb102)); have NB102_101 := Qz.mk ((by rw [hg]; exact Nat.ne_of_gt (blk_lt (g := gb101) (o := .cells #[.string a0_0, .int .i64 a0_1, .int .i64 a0_2, .string a0_3] 64 (0, 0)) (by (with_reducible repeat (first | refine qh ?_ _ | refine qj ?_ | refine qi ?_ _)); exact BK101.out)) : gb102 ≠ gb101)); replace BK101 := Qz.mk (qf1 (g := gb101) (o := .cells #[.string a0_0, .int .i64 a0_1, .int .i64 a0_2, .string a0_3] 64 (0, 0)) (by (with_reducible repeat (first | refine qh ?_ _ | refine qj ?_ | refine qi ?_ _)); exact BK101.out) hb); clear hb hbox hg; have hnb5 := NB101_102.out; have hnc5 := NB102_101.out; have hcz6_0 : w4.cell? ⟨gb101, 0, none⟩ = some (.string a0_0) := (qf BK101.out 0).trans rfl; have hcz6_1 : w4.cell? ⟨gb101, 1, none⟩ = some (.int .i64 a0_1) := (qf BK101.out 1).trans rfl; have hcz6_2 : w4.cell? ⟨gb101, 2, none⟩ = some (.int .i64 a0_2) := (qf BK101.out 2).trans rfl; have hcz6_3 : w4.cell? ⟨gb101, 3, none⟩ = some (.string a0_3) := (qf BK101.out 3).trans rfl; have hfz6_0 := qg BK101.out 0; have hfz6_1 := qg BK101.out 1; have hfz6_2 := qg BK101.out 2; have hfz6_3 := qg BK101.out 3; have hcz7_0 : w4.cell? ⟨gb102, 0, none⟩ = some (.string a1_0) := (qf BK102.out 0).trans rfl; have hcz7_1 : w4.cell? ⟨gb102, 1, none⟩ = some (.int .i64 a1_1) := (qf BK102.out 1).trans rfl; have hcz7_2 : w4.cell? ⟨gb102, 2, none⟩ = some (.int .i64 a1_2) := (qf BK102.out 2).trans rfl; have hcz7_3 : w4.cell? ⟨gb102, 3, none⟩ = some (.string a1_3) := (qf BK102.out 3).trans rfl; have hfz7_0 := qg BK102.out 0; have hfz7_1 := qg BK102.out 1; have hfz7_2 := qg BK102.out 2; have hfz7_3 := qg BK102.out 3))
 go_ret
 exact ⟨by first | rfl | (simp [qq, qo] <;> rfl) | (simp [*, qq, qo] <;> rfl), by repeat (first | (with_reducible first | exact HB.out | apply qc | apply qa | apply qb | refine qe ?_ GE101.out | refine qe ?_ GE102.out) | exact HB.out)⟩
end Go.Proofs.Ytidjdkodgddfcaa.P
end

section
namespace Go.Proofs.Ytidjdkodgddfcaa.P
open Go.RowKit Go.Proofs.YtidjdkodgddfcaaW.PrintWords Go.Proofs.YtidjdkodgddfcaaW.PrintLast Go.Proofs.YtidjdkodgddfcaaW.PrintMore
attribute [local go_sem] str_gtr str_leq str_geq qd1 qb1 max_two min_two qy qx qc1 qa1
set_option linter.unusedVariables false
set_option linter.unusedSimpArgs false
def idxf {α : Type} (p : α → Bool) : List α → Nat → Int
  | [], _ => -1
  | x :: xs, i => if p x = true then (i : Int) else idxf p xs (i + 1)
theorem idxf_hit {α : Type} (p : α → Bool) (d : α) : ∀ (l : List α) (k i : Nat), k < l.length → p (l.getD k d) = true → (∀ j, j < k → p (l.getD j d) = false) → idxf p l i = ((i + k : Nat) : Int)
  | [], _, _, h, _, _ => absurd h (Nat.not_lt_zero _)
  | x :: xs, 0, i, _, h, _ => by
    have : p x = true := by simpa using h
    simp [idxf, this]
  | x :: xs, k + 1, i, hk, h, hn => by
    have h0 : p x = false := by simpa using hn 0 (Nat.succ_pos _)
    simp only [idxf, h0, Bool.false_eq_true, if_false]
    rw [idxf_hit p d xs k (i + 1) (by simpa using hk) (by simpa using h) (fun j hj => by simpa using hn (j + 1) (by omega))]
    congr 1
    omega
theorem idxf_miss {α : Type} (p : α → Bool) (d : α) : ∀ (l : List α) (i : Nat), (∀ j, j < l.length → p (l.getD j d) = false) → idxf p l i = -1
  | [], _, _ => rfl
  | x :: xs, i, hn => by
    have h0 : p x = false := by simpa using hn 0 (by simp)
    simp only [idxf, h0, Bool.false_eq_true, if_false]
    exact idxf_miss p d xs (i + 1) (fun j hj => by simpa using hn (j + 1) (by simpa using hj))
theorem idxf_any {α : Type} (p : α → Bool) : ∀ (l : List α) (i : Nat), decide (0 ≤ idxf p l i) = l.any p
  | [], _ => rfl
  | x :: xs, i => by
    cases h : p x with
    | true => simp [idxf, h]
    | false =>
      simp only [idxf, h, Bool.false_eq_true, if_false, List.any_cons, Bool.false_or]
      exact idxf_any p xs (i + 1)
end Go.Proofs.Ytidjdkodgddfcaa.P
end

section
namespace Go.Proofs.Ytidjdkodgddfcaa.P
open Go.RowKit Go.Proofs.YtidjdkodgddfcaaW.PrintWords Go.Proofs.YtidjdkodgddfcaaW.PrintLast Go.Proofs.YtidjdkodgddfcaaW.PrintMore
attribute [local go_sem] str_gtr str_leq str_geq qd1 qb1 max_two min_two qy qx qc1 qa1
set_option linter.unusedVariables false
set_option linter.unusedSimpArgs false
theorem zeroCells_length (cs : Array Value) (n : Nat) : (Builtin.zeroCells cs n).toList.length = n * cs.size := by simp [Builtin.zeroCells]
theorem zeroCells_one (cs : Array Value) (n : Nat) (hp : 0 < cs.size) (h : ∀ v ∈ cs, v.oneCell' = true) : ∀ v ∈ (Builtin.zeroCells cs n).toList, v.oneCell' = true := by
  intro v hv
  simp only [Builtin.zeroCells, Array.toList_map, List.mem_map] at hv
  obtain ⟨i, _, rfl⟩ := hv
  rw [getElem!_pos cs (i % cs.size) (Nat.mod_lt _ hp)]
  exact h _ (Array.getElem_mem _)
theorem R_clear {α : Type} (d : Kd α) {P : Program} {e : Nat} {W : World} {base : Nat} {ok : Nat → Prop} {g n cap : Nat} {xs : List α} (HO : d.R e W base ok (.slice (some ⟨g, 0, none⟩) n cap) xs) (i : Nat) (hi : i ≤ n) (t : TypeId) (z : Value)
    (ht : P.underlying t = some (.slice e)) (hv : ∀ w, (zeroValue e).run P w = .ok z w) (hz : z.cells.size = d.sz) (h0 : 0 < d.sz) (h1 : ∀ v ∈ z.cells, v.oneCell' = true) (a' : Option Addr) (ha : i < n → a' = some ⟨g, i * d.sz, none⟩) (c' : Nat) :
    ∃ W', (∀ ty, (Builtin.clear_ #[t] ty #[.slice a' (n - i) c']).run P W = .ok (.tuple #[]) W') ∧ d.R e W' base ok (.slice (some ⟨g, 0, none⟩) i cap) (xs.take i) ∧ W.grownBy W' (some g) := by
  have hn : n = xs.length := (Kd.R_reads' HO).1
  have HT := Kd.R_take (m := i) HO (by omega)
  rcases Nat.lt_or_ge i n with hin | hge
  · have hown := HO.2
    obtain ⟨inner, ho, _⟩ := hown
    rcases ho.2 with ⟨hv0, _⟩ | ⟨g', cap', cur, hv0, hb, hh, hnc, hcm, hcs, htk⟩
    · cases hv0
    injection hv0 with ea _ ec
    injection ea with ea
    injection ea with eg
    subst eg; subst ec
    have hlen : (Builtin.zeroCells z.cells (n - i)).toList.length = (n - i) * d.sz := by rw [zeroCells_length, hz]
    have hfit : i * d.sz + (n - i) * d.sz ≤ cur.size := by
      rw [← Nat.add_mul, hcs]
      exact Nat.mul_le_mul_right _ (by omega)
    have hst := run_storeCells_cells (P := P) g (i * d.sz) (Builtin.zeroCells z.cells (n - i)).toList 0 W (fun j hj => by rw [cell_of_row W g _ cur e (0, 0) hh]; rw [hlen] at hj; simp; omega) (fun j _ => qg hh _) (zeroCells_one _ _ (by omega) h1)
    simp only [Nat.add_zero] at hst
    refine ⟨W.setCells g (i * d.sz) (Builtin.zeroCells z.cells (n - i)).toList, fun ty => ?_, ?_, ?_⟩
    · rw [ha hin]
      obtain ⟨m, hm⟩ : ∃ m, n - i = m + 1 := ⟨n - i - 1, by omega⟩
      rw [hm] at hst ⊢
      simp [Builtin.clear_, run_underlying ht, hv, hst]
    · obtain ⟨h2, inner', ho', hr'⟩ := HT
      refine ⟨h2, inner', ?_, hr'.imp_ (fun _ _ hp => d.M_move (fun k hk => setCells_far _ _ k (fun he => hk.2 (by rw [he]; simp [Value.ownBlock]))) hp)⟩
      obtain ⟨cur', h3, h4, h5⟩ := setCells_row (Builtin.zeroCells z.cells (n - i)).toList (i * d.sz) W cur hh (by rw [hlen]; exact hfit)
      have hti : (xs.take i).length = i := by rw [List.length_take]; omega
      rw [hti] at ho' ⊢
      rcases ho'.2 with ⟨hv1, _⟩ | ⟨g1, cap1, cur1, hv1, hb1, hh1, hnc1, hcm1, hcs1, htk1⟩
      · cases hv1
      injection hv1 with ea ei ec
      injection ea with ea
      injection ea with eg
      subst eg; subst ec
      rw [hh] at hh1
      injection hh1 with hh1
      injection hh1 with hh1
      subst hh1
      refine ⟨ho'.1, .inr ⟨g, cap, cur', rfl, hb, h3, hnc1, hcm, by rw [h4, hcs], ?_⟩⟩
      rw [h5, ← htk1, List.append_assoc, List.take_append_of_le_length (by rw [List.length_take, Array.length_toList]; omega), List.take_take, Nat.min_self]
    · obtain ⟨s1, s2, s3, s4⟩ := setCells_same g (Builtin.zeroCells z.cells (n - i)).toList (i * d.sz) W
      exact ⟨s1, s2, s3, by rw [s4]; exact Nat.le_refl _, fun k _ hk => setCells_far _ _ k (fun he => hk (by rw [he]))⟩
  · obtain rfl : i = n := by omega
    refine ⟨W, fun ty => ?_, HT, World.grownBy.refl W _⟩
    rw [Nat.sub_self]
    cases a' <;> simp [Builtin.clear_, run_underlying ht]
def StayBut (W W' : World) (v : Value) : Prop := W.heap.size ≤ W'.heap.size ∧ ∀ k, k < W.heap.size → some k ≠ v.ownBlock → W'.heap[k]? = W.heap[k]?
theorem StayBut.below {W W' : World} (h : Below W.heap.size W W') (v : Value) : StayBut W W' v := ⟨h.size, fun k hk _ => h.block k hk⟩
theorem StayBut.step {W W1 W2 : World} {v : Value} (h : StayBut W W1 v) (hb : Below W1.heap.size W1 W2) : StayBut W W2 v := ⟨Nat.le_trans h.1 hb.size, fun k hk hv => (hb.block k (Nat.lt_of_lt_of_le hk h.1)).trans (h.2 k hk hv)⟩
theorem StayBut.grown {W W1 W2 : World} {v : Value} {g : Nat} (h : StayBut W W1 v) (hg : W1.grownBy W2 (some g)) (hv : v.ownBlock = some g) : StayBut W W2 v := ⟨Nat.le_trans h.1 hg.size, fun k hk hk2 => (hg.block k (Nat.lt_of_lt_of_le hk h.1) (by rw [← hv]; exact hk2)).trans (h.2 k hk hk2)⟩
theorem take_snoc {α : Type} (xs : List α) (k : Nat) (d : α) (h : k < xs.length) : xs.take (k + 1) = xs.take k ++ [xs.getD k d] := by
  rw [List.take_add_one, List.getD_eq_getElem?_getD, List.getElem?_eq_getElem h]
  rfl
end Go.Proofs.Ytidjdkodgddfcaa.P
end

section
namespace Go.Proofs.Ytidjdkodgddfcaa.P
open Go.RowKit Go.Proofs.YtidjdkodgddfcaaW.PrintWords Go.Proofs.YtidjdkodgddfcaaW.PrintLast Go.Proofs.YtidjdkodgddfcaaW.PrintMore
attribute [local go_sem] str_gtr str_leq str_geq qd1 qb1 max_two min_two qy qx qc1 qa1
set_option linter.unusedVariables false
set_option linter.unusedSimpArgs false
open Go.Sort
def cptF {α : Type} (eq : α → α → Bool) : α → List α → List α
  | _, [] => []
  | p, y :: ys => if eq y p = true then cptF eq y ys else y :: cptF eq y ys
def cptL {α : Type} (eq : α → α → Bool) : List α → List α
  | [] => []
  | x :: xs => x :: cptF eq x xs
theorem cptF_snoc {α : Type} (eq : α → α → Bool) (d x : α) : ∀ (l : List α) (p : α), cptF eq p (l ++ [x]) = cptF eq p l ++ (if eq x ((p :: l).getD l.length d) = true then [] else [x])
  | [], p => by
    simp only [List.nil_append, cptF, List.length_nil, List.getD_cons_zero]
    (try (split <;> rfl))
  | y :: ys, p => by
    have ih := cptF_snoc eq d x ys y
    rw [List.cons_append, cptF, cptF, ih, List.length_cons, List.getD_cons_succ]
    (try (split <;> rfl))
theorem cptL_step {α : Type} (eq : α → α → Bool) (d : α) (xs : List α) (j : Nat) (hj : j + 1 < xs.length) : cptL eq (xs.take (j + 1 + 1)) = cptL eq (xs.take (j + 1)) ++ (if eq (xs.getD (j + 1) d) (xs.getD j d) = true then [] else [xs.getD (j + 1) d]) := by
  rw [take_snoc xs (j + 1) d hj]
  cases xs with
  | nil => simp at hj
  | cons p l =>
    rw [List.take_succ_cons, List.cons_append, cptL, cptL, cptF_snoc eq d]
    have hl : (l.take j).length = j := by
      rw [List.length_take]
      simp only [List.length_cons] at hj
      omega
    rw [hl]
    have e : (p :: l.take j).getD j d = (p :: l).getD j d := by
      cases j with
      | zero => rfl
      | succ j =>
        rw [List.getD_cons_succ, List.getD_cons_succ, List.getD_eq_getElem?_getD, List.getElem?_take, if_pos (by omega), ← List.getD_eq_getElem?_getD]
    rw [e]
    rfl
theorem below_growX {w : World} (t : Nat) (os : Array Obj) : Below w.heap.size w (grow (atD w t) os) :=
  ⟨rfl, rfl, rfl, by rw [size_grow]; exact Nat.le_add_right _ _, fun k hk => heap_grow_old (atD w t) os hk⟩
theorem cell_growX {w : World} {a : Addr} {v : Value} (h : w.cell? a = some v) (t : Nat) (os : Array Obj) : (grow (atD w t) os).cell? a = some v :=
  ((below_growX t os).cell (World.block_lt_of_cell? _ _ h)).trans h
set_option maxHeartbeats 8000000 in
set_option maxRecDepth 100000 in
theorem compactFunc_Entry (g : Nat) (eqb : S64 → S64 → Bool) (base : Nat) (v : Value) (xs : List S64) (w0 W : World) (hr : Kd.R k64 64 W base (fun _ => True) v xs) (hB : Below base w0 W) (hbase : base ≤ W.heap.size)
    (eg : ∀ args w, (callFunc g args).run Try.prog w = .ok (.enter g args) w)
    (hp : ∀ (x y : S64) (W' : World), Calls Try.prog g #[.agg #[.string x.f0.f0, .int .i64 x.f0.f1, .int .i64 x.f0.f2, .string x.f1], .agg #[.string y.f0.f0, .int .i64 y.f0.f1, .int .i64 y.f0.f2, .string y.f1]] W' fun e w' => e = .returned (.bool (eqb x y)) ∧ Below W'.heap.size W' w') :
    Calls Try.prog 160 #[v, .func (.func g) #[] #[]] W fun e w' => ∃ v1, e = .returned v1 ∧ Kd.R k64 64 w' base (fun _ => True) v1 (cptL eqb xs) ∧ Below base w0 w' := by
  have hu := Try.underlying64
  by_cases h2 : xs.length < 2
  · obtain ⟨Ad, c, rfl, hc, hC⟩ := Kd.R_reads hr
    have h2z : (xs.length : Int) < 2 := by omega
    have e : cptL eqb xs = xs := by
      match xs, h2 with
      | [], _ => rfl
      | [x], _ => rfl
      | x :: y :: l, h => simp only [List.length_cons] at h; omega
    have HR := Qz.mk hr
    have HB := Qz.mk hB
    clear hr hB hp hC
    go_enter Try.func160, Try.ntmps160
    go_wp2
    go_ret
    rw [e]
    exact ⟨_, rfl, HR.out, HB.out⟩
  · have h2z : ¬ (xs.length : Int) < 2 := by omega
    obtain ⟨gg, cap, rfl, hgb, hgl, _⟩ := Kd.R_form hr (by omega)
    obtain ⟨_, hcc, _⟩ := Kd.R_reads' hr
    have hsz : xs.length ≤ 9223372036854775807 := by
      obtain ⟨inner, ho⟩ := Kd.R_own hr
      rcases ho.2 with ⟨h, _⟩ | ⟨_, _, _, _, _, _, h1, h2, _⟩
      · cases h
      · exact Nat.le_trans h1 h2
    have HR := Qz.mk hr
    have HB := Qz.mk hB
    have HP := Qz.mk hp
    clear hr hB hp
    go_enter Try.func160, Try.ntmps160
    go_wp2
    go_loopg [5] xs.length (fun gk s5 wr => ∃ (jp : Nat), s5 = .int .i64 ((jp : Int) + 1) ∧ jp + 1 ≤ xs.length ∧ xs.length - (jp + 1) ≤ gk ∧ Qz (Kd.R k64 64 wr base (fun _ => True) (.slice (some ⟨gg, 0, none⟩) xs.length cap) xs) ∧ Qz (cptL eqb (xs.take (jp + 1)) = xs.take (jp + 1)) ∧ Qz (Below base w0 wr) ∧ Qz (base ≤ wr.heap.size))
    case atStart =>
      refine ⟨0, by first | rfl | go_num, by omega, by omega, HR, ⟨?_⟩, HB, ⟨hbase⟩⟩
      cases xs with
      | nil => rfl
      | cons x l => rfl
    case round =>
      clear HR HB
      obtain ⟨jp, rfl, hjn, hg, HO, HT, HBr, HS⟩ := hrel
      by_cases hlt : jp + 1 < xs.length
      · have hd : (jp : Int) + 1 < (xs.length : Int) := by omega
        have e1 : ((jp : Int) + 1).toNat = jp + 1 := by omega
        have p1 : (0 : Int) ≤ (jp : Int) + 1 := by omega
        have p2 : (jp : Int) < (xs.length : Int) := by omega
        have w1 : IntKind.i64.wrap (jp : Int) = (jp : Int) := by rw [IntKind.wrap_i64]; omega
        have w2_ : IntKind.i64.wrap ((jp : Int) + 1) = (jp : Int) + 1 := by rw [IntKind.wrap_i64]; omega
        have ST := Qz.mk (cptL_step eqb z64 xs jp hlt)
        have TS := Qz.mk (take_snoc xs (jp + 1) z64 hlt)
        obtain ⟨cex, _, hMx, hcx, _⟩ := Kd.R_elem HO.out z64 ((jp + 1 : Nat) : Int) (by omega) (by omega)
        obtain rfl := k64_openM hMx
        rw [Int.toNat_natCast] at hcx
        obtain ⟨cey, _, hMy, hcy, _⟩ := Kd.R_elem HO.out z64 ((jp : Nat) : Int) (by omega) (by omega)
        obtain rfl := k64_openM hMy
        rw [Int.toNat_natCast] at hcy
        generalize xs.getD (jp + 1) z64 = x at hcx ST TS
        generalize xs.getD jp z64 = y at hcy ST
        have hx0 : ∀ t os, (grow (atD wr t) os).cell? ⟨gg, (jp + 1) * 4, none⟩ = some (.string x.f0.f0) := cell_growX (by have h_ := hcx 0 _ rfl; rw [show (jp + 1) * k64.sz + 0 = (jp + 1) * 4 from by show (jp + 1) * 4 + 0 = (jp + 1) * 4; omega] at h_; exact h_)
        have hx1 : ∀ t os, (grow (atD wr t) os).cell? ⟨gg, (jp + 1) * 4 + 1, none⟩ = some (.int .i64 x.f0.f1) := cell_growX (by have h_ := hcx 1 _ rfl; rw [show (jp + 1) * k64.sz + 1 = (jp + 1) * 4 + 1 from by show (jp + 1) * 4 + 1 = (jp + 1) * 4 + 1; omega] at h_; exact h_)
        have hx2 : ∀ t os, (grow (atD wr t) os).cell? ⟨gg, (jp + 1) * 4 + 2, none⟩ = some (.int .i64 x.f0.f2) := cell_growX (by have h_ := hcx 2 _ rfl; rw [show (jp + 1) * k64.sz + 2 = (jp + 1) * 4 + 2 from by show (jp + 1) * 4 + 2 = (jp + 1) * 4 + 2; omega] at h_; exact h_)
        have hx3 : ∀ t os, (grow (atD wr t) os).cell? ⟨gg, (jp + 1) * 4 + 3, none⟩ = some (.string x.f1) := cell_growX (by have h_ := hcx 3 _ rfl; rw [show (jp + 1) * k64.sz + 3 = (jp + 1) * 4 + 3 from by show (jp + 1) * 4 + 3 = (jp + 1) * 4 + 3; omega] at h_; exact h_)
        have hy0 : ∀ t os, (grow (atD wr t) os).cell? ⟨gg, jp * 4, none⟩ = some (.string y.f0.f0) := cell_growX (by have h_ := hcy 0 _ rfl; rw [show (jp) * k64.sz + 0 = jp * 4 from by show (jp) * 4 + 0 = jp * 4; omega] at h_; exact h_)
        have hy1 : ∀ t os, (grow (atD wr t) os).cell? ⟨gg, jp * 4 + 1, none⟩ = some (.int .i64 y.f0.f1) := cell_growX (by have h_ := hcy 1 _ rfl; rw [show (jp) * k64.sz + 1 = jp * 4 + 1 from by show (jp) * 4 + 1 = jp * 4 + 1; omega] at h_; exact h_)
        have hy2 : ∀ t os, (grow (atD wr t) os).cell? ⟨gg, jp * 4 + 2, none⟩ = some (.int .i64 y.f0.f2) := cell_growX (by have h_ := hcy 2 _ rfl; rw [show (jp) * k64.sz + 2 = jp * 4 + 2 from by show (jp) * 4 + 2 = jp * 4 + 2; omega] at h_; exact h_)
        have hy3 : ∀ t os, (grow (atD wr t) os).cell? ⟨gg, jp * 4 + 3, none⟩ = some (.string y.f1) := cell_growX (by have h_ := hcy 3 _ rfl; rw [show (jp) * k64.sz + 3 = jp * 4 + 3 from by show (jp) * 4 + 3 = jp * 4 + 3; omega] at h_; exact h_)
        clear hMx hMy hcx hcy
        cases hq : eqb x y with
        | false =>
          have HQ := Qz.mk hq
          have hcl := fun t os => ((HP.out x y (grow (atD wr t) os)).mono fun e w' ⟨he, hb⟩ => (⟨he, grownX_of_below hb⟩ : e = Ending.returned (.bool (eqb x y)) ∧ ∃ t' os', w' = grow (atD (grow (atD wr t) os) t') os'))
          rw [hq] at hcl
          go_wp2_with fail
          refine wp_region_quietX (by kernel_rfl) (by kernel_rfl) ?_
          repeat (quiet_step (first | (go_at_fn g; refine callsX_of (hcl _ _))))
          refine wpQuiet_nil ?_
          intro _ hw_
          obtain ⟨⟨tq, osq⟩, hw_⟩ := hw_
          subst hw_
          have HBX := Qz.mk (below_growX (w := wr) tq osq)
          clear hcl hx0 hx1 hx2 hx3 hy0 hy1 hy2 hy3
          generalize grow (atD wr tq) osq = w2 at HBX ⊢
          clear hq
          go_wp2
          go_roundg (xs.length - (jp + 1 + 1))
          case measure => omega
          case rel =>
            refine ⟨jp + 1, by first | rfl | go_num | (congr 1; omega), by omega, Nat.le_refl _, ⟨Kd.R_below HO.out HBX.out⟩, ⟨?_⟩, ⟨HBr.out.trans (HBX.out.mono HS.out)⟩, ⟨Nat.le_trans HS.out HBX.out.size⟩⟩
            have ST := ST.out
            rw [HQ.out, if_neg (by simp), HT.out] at ST
            rw [ST, TS.out]
        | true =>
          have HQ := Qz.mk hq
          have hcl := fun t os => ((HP.out x y (grow (atD wr t) os)).mono fun e w' ⟨he, hb⟩ => (⟨he, grownX_of_below hb⟩ : e = Ending.returned (.bool (eqb x y)) ∧ ∃ t' os', w' = grow (atD (grow (atD wr t) os) t') os'))
          rw [hq] at hcl
          go_wp2_with fail
          refine wp_region_quietX (by kernel_rfl) (by kernel_rfl) ?_
          repeat (quiet_step (first | (go_at_fn g; refine callsX_of (hcl _ _))))
          refine wpQuiet_nil ?_
          intro _ hw_
          obtain ⟨⟨tq, osq⟩, hw_⟩ := hw_
          subst hw_
          have HBX := Qz.mk (below_growX (w := wr) tq osq)
          clear hcl hx0 hx1 hx2 hx3 hy0 hy1 hy2 hy3
          generalize grow (atD wr tq) osq = w2 at HBX ⊢
          clear hq
          have hcap : ¬ (cap = jp + 1) := by omega
          have HO2 := Qz.mk (Kd.R_below HO.out HBX.out)
          have HB2 := Qz.mk (HBr.out.trans (HBX.out.mono HS.out))
          have HS2 := Qz.mk (Nat.le_trans HS.out HBX.out.size)
          have HT2 : Qz (cptL eqb (xs.take (jp + 1 + 1)) = xs.take (jp + 1)) := ⟨by rw [ST.out, HQ.out, if_pos rfl, List.append_nil]; exact HT.out⟩
          clear HO HBr HS HT ST TS HBX HQ
          go_wp2
          go_loopg [5, 7] xs.length (fun gk s5 s7 wr => ∃ (i qp : Nat) (dk : List S64), s5 = .int .i64 i ∧ s7 = .int .i64 ((qp : Int) + 1) ∧ i ≤ jp + 1 + qp ∧ jp + 1 + qp + 1 ≤ xs.length ∧ xs.length - (jp + 1 + qp + 1) ≤ gk ∧ Qz (Kd.R k64 64 wr base (fun _ => True) (.slice (some ⟨gg, 0, none⟩) xs.length cap) dk) ∧ Qz (dk.take i = cptL eqb (xs.take (jp + 1 + qp + 1))) ∧ Qz (∀ q, jp + 1 + qp ≤ q → dk.getD q z64 = xs.getD q z64) ∧ Qz (Below base w0 wr) ∧ Qz (base ≤ wr.heap.size))
          case atStart => exact ⟨jp + 1, 0, xs, by first | rfl | go_num | (congr 1; omega), by first | rfl | go_num, by omega, by omega, by omega, HO2, ⟨HT2.out.symm⟩, ⟨fun q _ => rfl⟩, HB2, HS2⟩
          case round =>
            clear HO2 HB2 HS2 HT2
            obtain ⟨i, qp, dk, rfl, rfl, hik, hkn, hg2, HO, HT, HQ, HBr, HS⟩ := hrel
            have hdl : dk.length = xs.length := (Kd.R_reads' HO.out).1.symm
            by_cases hlt2 : jp + 1 + qp + 1 < xs.length
            · have hd2 : (qp : Int) + 1 < (xs.length : Int) - ((jp : Int) + 1) := by omega
              have hd3 : (qp : Int) + 1 < ((xs.length - (jp + 1) : Nat) : Int) := by omega
              have hd4 : (qp : Int) < ((xs.length - (jp + 1) : Nat) : Int) := by omega
              have e2 : ((qp : Int) + 1).toNat = qp + 1 := by omega
              have p3 : (0 : Int) ≤ (qp : Int) + 1 := by omega
              have w3_ : IntKind.i64.wrap (qp : Int) = (qp : Int) := by rw [IntKind.wrap_i64]; omega
              have ST := Qz.mk (cptL_step eqb z64 xs (jp + 1 + qp) hlt2)
              obtain ⟨cex, _, hMx, hcx, _⟩ := Kd.R_elem HO.out z64 ((jp + 1 + qp + 1 : Nat) : Int) (by omega) (by omega)
              obtain rfl := k64_openM hMx
              rw [Int.toNat_natCast] at hcx
              obtain ⟨cey, _, hMy, hcy, _⟩ := Kd.R_elem HO.out z64 ((jp + 1 + qp : Nat) : Int) (by omega) (by omega)
              obtain rfl := k64_openM hMy
              rw [Int.toNat_natCast] at hcy
              rw [HQ.out (jp + 1 + qp + 1) (by omega)] at hcx
              rw [HQ.out (jp + 1 + qp) (by omega)] at hcy
              have HX : Qz (xs.getD (jp + 1 + qp + 1) z64 = xs.getD (jp + 1 + qp + 1) z64) := ⟨rfl⟩
              generalize xs.getD (jp + 1 + qp + 1) z64 = x at hcx ST HX
              generalize xs.getD (jp + 1 + qp) z64 = y at hcy ST
              have hx0 : ∀ t os, (grow (atD wr t) os).cell? ⟨gg, (jp + 1) * 4 + (qp + 1) * 4, none⟩ = some (.string x.f0.f0) := cell_growX (by have h_ := hcx 0 _ rfl; rw [show (jp + 1 + qp + 1) * k64.sz + 0 = (jp + 1) * 4 + (qp + 1) * 4 from by show (jp + 1 + qp + 1) * 4 + 0 = (jp + 1) * 4 + (qp + 1) * 4; omega] at h_; exact h_)
              have hx1 : ∀ t os, (grow (atD wr t) os).cell? ⟨gg, (jp + 1) * 4 + (qp + 1) * 4 + 1, none⟩ = some (.int .i64 x.f0.f1) := cell_growX (by have h_ := hcx 1 _ rfl; rw [show (jp + 1 + qp + 1) * k64.sz + 1 = (jp + 1) * 4 + (qp + 1) * 4 + 1 from by show (jp + 1 + qp + 1) * 4 + 1 = (jp + 1) * 4 + (qp + 1) * 4 + 1; omega] at h_; exact h_)
              have hx2 : ∀ t os, (grow (atD wr t) os).cell? ⟨gg, (jp + 1) * 4 + (qp + 1) * 4 + 2, none⟩ = some (.int .i64 x.f0.f2) := cell_growX (by have h_ := hcx 2 _ rfl; rw [show (jp + 1 + qp + 1) * k64.sz + 2 = (jp + 1) * 4 + (qp + 1) * 4 + 2 from by show (jp + 1 + qp + 1) * 4 + 2 = (jp + 1) * 4 + (qp + 1) * 4 + 2; omega] at h_; exact h_)
              have hx3 : ∀ t os, (grow (atD wr t) os).cell? ⟨gg, (jp + 1) * 4 + (qp + 1) * 4 + 3, none⟩ = some (.string x.f1) := cell_growX (by have h_ := hcx 3 _ rfl; rw [show (jp + 1 + qp + 1) * k64.sz + 3 = (jp + 1) * 4 + (qp + 1) * 4 + 3 from by show (jp + 1 + qp + 1) * 4 + 3 = (jp + 1) * 4 + (qp + 1) * 4 + 3; omega] at h_; exact h_)
              have hy0 : ∀ t os, (grow (atD wr t) os).cell? ⟨gg, (jp + 1) * 4 + qp * 4, none⟩ = some (.string y.f0.f0) := cell_growX (by have h_ := hcy 0 _ rfl; rw [show (jp + 1 + qp) * k64.sz + 0 = (jp + 1) * 4 + qp * 4 from by show (jp + 1 + qp) * 4 + 0 = (jp + 1) * 4 + qp * 4; omega] at h_; exact h_)
              have hy1 : ∀ t os, (grow (atD wr t) os).cell? ⟨gg, (jp + 1) * 4 + qp * 4 + 1, none⟩ = some (.int .i64 y.f0.f1) := cell_growX (by have h_ := hcy 1 _ rfl; rw [show (jp + 1 + qp) * k64.sz + 1 = (jp + 1) * 4 + qp * 4 + 1 from by show (jp + 1 + qp) * 4 + 1 = (jp + 1) * 4 + qp * 4 + 1; omega] at h_; exact h_)
              have hy2 : ∀ t os, (grow (atD wr t) os).cell? ⟨gg, (jp + 1) * 4 + qp * 4 + 2, none⟩ = some (.int .i64 y.f0.f2) := cell_growX (by have h_ := hcy 2 _ rfl; rw [show (jp + 1 + qp) * k64.sz + 2 = (jp + 1) * 4 + qp * 4 + 2 from by show (jp + 1 + qp) * 4 + 2 = (jp + 1) * 4 + qp * 4 + 2; omega] at h_; exact h_)
              have hy3 : ∀ t os, (grow (atD wr t) os).cell? ⟨gg, (jp + 1) * 4 + qp * 4 + 3, none⟩ = some (.string y.f1) := cell_growX (by have h_ := hcy 3 _ rfl; rw [show (jp + 1 + qp) * k64.sz + 3 = (jp + 1) * 4 + qp * 4 + 3 from by show (jp + 1 + qp) * 4 + 3 = (jp + 1) * 4 + qp * 4 + 3; omega] at h_; exact h_)
              have HCX := Qz.mk hcx
              clear hMx hMy hcx hcy
              cases hq : eqb x y with
              | true =>
                have HE := Qz.mk hq
                have hcl := fun t os => ((HP.out x y (grow (atD wr t) os)).mono fun e w' ⟨he, hb⟩ => (⟨he, grownX_of_below hb⟩ : e = Ending.returned (.bool (eqb x y)) ∧ ∃ t' os', w' = grow (atD (grow (atD wr t) os) t') os'))
                rw [hq] at hcl
                go_wp2_with fail
                refine wp_region_quietX (by kernel_rfl) (by kernel_rfl) ?_
                repeat (quiet_step (first | (go_at_fn g; refine callsX_of (hcl _ _))))
                refine wpQuiet_nil ?_
                intro _ hw_
                obtain ⟨⟨tq, osq⟩, hw_⟩ := hw_
                subst hw_
                have HBX := Qz.mk (below_growX (w := wr) tq osq)
                clear hcl hx0 hx1 hx2 hx3 hy0 hy1 hy2 hy3
                generalize grow (atD wr tq) osq = w2 at HBX ⊢
                clear hq
                go_wp2
                go_roundg (xs.length - (jp + 1 + qp + 1 + 1))
                case measure => omega
                case rel =>
                  refine ⟨i, qp + 1, dk, rfl, by first | rfl | go_num | (congr 1; omega), by omega, by omega, by omega, ⟨Kd.R_below HO.out HBX.out⟩, ⟨?_⟩, ⟨fun q hq => HQ.out q (by omega)⟩, ⟨HBr.out.trans (HBX.out.mono HS.out)⟩, ⟨Nat.le_trans HS.out HBX.out.size⟩⟩
                  have ST := ST.out
                  rw [HE.out, if_pos rfl, List.append_nil] at ST
                  exact HT.out.trans ST.symm
              | false =>
                have HE := Qz.mk hq
                have hcl := fun t os => ((HP.out x y (grow (atD wr t) os)).mono fun e w' ⟨he, hb⟩ => (⟨he, grownX_of_below hb⟩ : e = Ending.returned (.bool (eqb x y)) ∧ ∃ t' os', w' = grow (atD (grow (atD wr t) os) t') os'))
                rw [hq] at hcl
                go_wp2_with fail
                refine wp_region_quietX (by kernel_rfl) (by kernel_rfl) ?_
                repeat (quiet_step (first | (go_at_fn g; refine callsX_of (hcl _ _))))
                refine wpQuiet_nil ?_
                intro _ hw_
                obtain ⟨⟨tq, osq⟩, hw_⟩ := hw_
                subst hw_
                have HBX := Qz.mk (below_growX (w := wr) tq osq)
                clear hcl hx0 hx1 hx2 hx3 hy0 hy1 hy2 hy3
                generalize grow (atD wr tq) osq = w2 at HBX ⊢
                clear hq
                have HO2 := Qz.mk (Kd.R_below HO.out HBX.out)
                have HB2 := Qz.mk (HBr.out.trans (HBX.out.mono HS.out))
                have HS2 := Qz.mk (Nat.le_trans HS.out HBX.out.size)
                have hz0 : w2.cell? ⟨gg, (jp + 1) * 4 + (qp + 1) * 4, none⟩ = some (.string x.f0.f0) := (HBX.out.cell (World.block_lt_of_cell? _ _ (show wr.cell? _ = _ from by have h_ := HCX.out 0 _ rfl; rw [show (jp + 1 + qp + 1) * k64.sz + 0 = (jp + 1) * 4 + (qp + 1) * 4 from by show (jp + 1 + qp + 1) * 4 + 0 = _; omega] at h_; exact h_))).trans (by have h_ := HCX.out 0 _ rfl; rw [show (jp + 1 + qp + 1) * k64.sz + 0 = (jp + 1) * 4 + (qp + 1) * 4 from by show (jp + 1 + qp + 1) * 4 + 0 = _; omega] at h_; exact h_)
                have hz1 : w2.cell? ⟨gg, (jp + 1) * 4 + (qp + 1) * 4 + 1, none⟩ = some (.int .i64 x.f0.f1) := (HBX.out.cell (World.block_lt_of_cell? _ _ (show wr.cell? _ = _ from by have h_ := HCX.out 1 _ rfl; rw [show (jp + 1 + qp + 1) * k64.sz + 1 = (jp + 1) * 4 + (qp + 1) * 4 + 1 from by show (jp + 1 + qp + 1) * 4 + 1 = _; omega] at h_; exact h_))).trans (by have h_ := HCX.out 1 _ rfl; rw [show (jp + 1 + qp + 1) * k64.sz + 1 = (jp + 1) * 4 + (qp + 1) * 4 + 1 from by show (jp + 1 + qp + 1) * 4 + 1 = _; omega] at h_; exact h_)
                have hz2 : w2.cell? ⟨gg, (jp + 1) * 4 + (qp + 1) * 4 + 2, none⟩ = some (.int .i64 x.f0.f2) := (HBX.out.cell (World.block_lt_of_cell? _ _ (show wr.cell? _ = _ from by have h_ := HCX.out 2 _ rfl; rw [show (jp + 1 + qp + 1) * k64.sz + 2 = (jp + 1) * 4 + (qp + 1) * 4 + 2 from by show (jp + 1 + qp + 1) * 4 + 2 = _; omega] at h_; exact h_))).trans (by have h_ := HCX.out 2 _ rfl; rw [show (jp + 1 + qp + 1) * k64.sz + 2 = (jp + 1) * 4 + (qp + 1) * 4 + 2 from by show (jp + 1 + qp + 1) * 4 + 2 = _; omega] at h_; exact h_)
                have hz3 : w2.cell? ⟨gg, (jp + 1) * 4 + (qp + 1) * 4 + 3, none⟩ = some (.string x.f1) := (HBX.out.cell (World.block_lt_of_cell? _ _ (show wr.cell? _ = _ from by have h_ := HCX.out 3 _ rfl; rw [show (jp + 1 + qp + 1) * k64.sz + 3 = (jp + 1) * 4 + (qp + 1) * 4 + 3 from by show (jp + 1 + qp + 1) * 4 + 3 = _; omega] at h_; exact h_))).trans (by have h_ := HCX.out 3 _ rfl; rw [show (jp + 1 + qp + 1) * k64.sz + 3 = (jp + 1) * 4 + (qp + 1) * 4 + 3 from by show (jp + 1 + qp + 1) * 4 + 3 = _; omega] at h_; exact h_)
                have hin : (i : Int) < (xs.length : Int) := by omega
                obtain ⟨ce, hcl, hM, hcc3, hfr⟩ := Kd.R_elem HO2.out z64 (i : Int) (by omega) (by omega)
                obtain rfl := k64_openM hM
                have HC2 := Qz.mk hcc3
                clear hM hcl hfr hcc3 HO HBr HS
                go_wp2_with (first | ((with_reducible refine gate_ (.store 64 (.tmp 56) (.tmp 55)) rfl ?_); refine Kd.R_store k64 (w0 := w0) base rfl rfl 64 (.tmp 56) (.tmp 55) rfl 64 (i : Int) 0 dk x (.agg #[.string x.f0.f0, .int .i64 x.f0.f1, .int .i64 x.f0.f2, .string x.f1]) [.string x.f0.f0, .int .i64 x.f0.f1, .int .i64 x.f0.f2, .string x.f1] _ (fun _ => True) (fun _ => False) rfl (by rw [Int.toNat_natCast]; rfl) rfl rfl (show (Try.prog.info? 64).map (·.size) = some 4 from by kernel_rfl) (by intro q hq; simp at hq; rcases hq with rfl | rfl | rfl | rfl <;> rfl) HO2.out (by omega) (by omega) rfl HC2.out (show 4 ≤ 4 from Nat.le_refl _) (k64_mkM _ _ _ x) (fun _ hk => hk.elim) HB2.out ?_; intro w3 hR3 hB3 hg3))
                go_roundg (xs.length - (jp + 1 + qp + 1 + 1))
                case measure => omega
                case rel =>
                  refine ⟨i + 1, qp + 1, dk.set i x, by first | rfl | go_num, by first | rfl | go_num | (congr 1; omega), by omega, by omega, by omega, ⟨by rw [Int.toNat_natCast] at hR3; exact hR3⟩, ⟨?_⟩, ⟨fun q hq => ?_⟩, ⟨hB3⟩, ⟨Nat.le_trans HS2.out hg3.size⟩⟩
                  · have ST := ST.out
                    rw [HE.out, if_neg (by simp)] at ST
                    rw [set_take dk i x (by omega), HT.out]
                    exact ST.symm
                  · rw [List.getD_eq_getElem?_getD, List.getElem?_set_ne (by omega), ← List.getD_eq_getElem?_getD]
                    exact HQ.out q (by omega)
            · have hd2 : ¬ (qp : Int) + 1 < ((xs.length - (jp + 1) : Nat) : Int) := by omega
              have hcap2 : ¬ (cap = i) := by omega
              have hin : (i : Int) ≤ (xs.length : Int) := by omega
              obtain ⟨W3, hcl, hR3, hg3⟩ := R_clear (P := Try.prog) k64 HO.out i (by omega) 26 (.agg #[.string ⟨#[]⟩, .int .i64 0, .int .i64 0, .string ⟨#[]⟩]) Try.underlying26 (fun w => by kernel_rfl) rfl (by decide) (by intro q hq; simp [Value.cells] at hq; rcases hq with rfl | rfl | rfl | rfl <;> rfl) (some ⟨gg, i * 4, none⟩) (fun _ => rfl) (cap - i)
              have hcl0 := hcl 0
              clear hcl
              go_wp2
              go_ret
              have ht := HT.out
              rw [show jp + 1 + qp + 1 = xs.length from by omega, List.take_length] at ht
              rw [← ht]
              exact ⟨_, rfl, hR3, HBr.out.grown hg3 HS.out (fun q hq => by injection hq with hq; omega)⟩
      · have hd : ¬ (jp : Int) + 1 < (xs.length : Int) := by omega
        go_wp2
        go_ret
        have ht := HT.out
        rw [show jp + 1 = xs.length from by omega, List.take_length] at ht
        rw [ht]
        exact ⟨_, rfl, HO.out, HBr.out⟩
end Go.Proofs.Ytidjdkodgddfcaa.P
end

section
namespace Go.Proofs.Ytidjdkodgddfcaa.P
open Go.RowKit Go.Proofs.YtidjdkodgddfcaaW.PrintWords Go.Proofs.YtidjdkodgddfcaaW.PrintLast Go.Proofs.YtidjdkodgddfcaaW.PrintMore
attribute [local go_sem] str_gtr str_leq str_geq qd1 qb1 max_two min_two qy qx qc1 qa1
set_option linter.unusedVariables false
set_option linter.unusedSimpArgs false
def eqK (x y : S64) : Bool := x.f0.f0.toList == y.f0.f0.toList && (x.f0.f1 == y.f0.f1 && x.f0.f2 == y.f0.f2)
def impl_merged.f (l0 : List S64) : Option (List S64) := if l0.length ≤ 1000000 then some (cptL eqK (srt ecmp l0)) else none
set_option maxHeartbeats 4000000 in
theorem impl_merged.calls (A0 : Option Addr) (c0 : Nat) (l0 : List S64) (r : List S64) (w : World) (hr0 : Kd.C k64 w A0 l0.length l0) (hc0 : l0.length ≤ c0) (h : impl_merged.f l0 = some r) :
    Calls Try.prog 102 #[.slice A0 l0.length c0] w fun e w' => ∃ v0_ : Value, e = .returned (v0_) ∧ Kd.R k64 64 w' w.heap.size (fun _ => True) v0_ r ∧ Below w.heap.size w w' := by
  unfold impl_merged.f at h
  split at h
  · rename_i hl
    obtain rfl := Option.some.inj h
    have ho := impl_ordered.calls A0 c0 l0 (srt ecmp l0) w hr0 hc0 (if_pos hl)
    have hcf := fun v W hR hB hb => compactFunc_Entry 161 eqK w.heap.size v (srt ecmp l0) w W hR hB hb (fun args w => by kernel_rfl) (fun x y W' => impl_merged_1.calls x.f0.f0 x.f0.f1 x.f0.f2 x.f1 y.f0.f0 y.f0.f1 y.f0.f2 y.f1 (eqK x y) W' rfl)
    have HCF := Qz.mk hcf
    clear hr0 hc0 h hl hcf
    generalize cptL eqK (srt ecmp l0) = r at HCF ⊢
    generalize srt ecmp l0 = m at ho HCF
    have q1 : ∀ args w, (callFunc 117 args).run Try.prog w = .ok (.enter 117 args) w := fun args w => by kernel_rfl
    have q2 : ∀ args w, (callFunc 160 args).run Try.prog w = .ok (.enter 160 args) w := fun args w => by kernel_rfl
    go_enter Try.func102, Try.ntmps102
    go_wp2_with fail
    (with_reducible refine ho.mono ?_)
    rintro e w1 ⟨v, rfl, hR, hB⟩
    have hc := HCF.out v w1 hR hB hB.size
    clear ho hR hB HCF
    go_wp2_with fail
    (with_reducible refine hc.mono ?_)
    rintro e w2 ⟨v2, rfl, hR, hB⟩
    have HR := Qz.mk hR
    have HB := Qz.mk hB
    clear hc hR hB
    go_wp2
    go_ret
    exact ⟨_, rfl, HR.out, HB.out⟩
  · cases h
theorem yq40 {P : Prop} (h : P := by repeat (first | (with_reducible first | exact HB.out | apply qc | apply qa | apply qb) | exact HB.out)) : P := h
theorem yq41 {P : Prop} (h : P := by repeat (first | (with_reducible first | exact HB.out | apply qc | apply qa | apply qb | refine qe ?_ GE105.out) | exact HB.out)) : P := h
def impl_joined.l0 : Nat → List (S64) → List (S62) → Int → Int → Option ((List (S64)))
 | 0, _, _, _, _ => none
 | k + 1, x3, x7, x8, x9 => if x9 < x8 then (if 0 ≤ x9 then (if x9 < (x7.length : Int) then (if x3.length + ((qv x7 x9).f0).length < 2932031007402 then (impl_joined.l0 k (x3 ++ ((qv x7 x9).f0)) x7 x8 (wrap64 (x9 + 1))) else (none)) else (none)) else (none)) else (some x3)
def impl_joined.f (k : Nat) (l0 : List (S62)) : Option ((List (S64))) := impl_joined.l0 k (([] : List (S64))) l0 (l0.length : Int) 0
set_option maxHeartbeats 8000000 in
set_option maxRecDepth 100000 in
theorem impl_joined.calls (k : Nat) (A0 : Option Addr) (c0 : Nat) (l0 : List (S62)) (r : List (S64)) (w : World) (hr0 : Kd.C k62 w A0 l0.length l0) (hc0 : l0.length ≤ c0) (h : impl_joined.f k l0 = some r) :
  Calls Try.prog 103 #[.slice A0 l0.length c0] w fun e w' => ∃ v0_ : Value, e = .returned (v0_) ∧ Kd.R k64 64 w' w.heap.size (fun _ => True) v0_ r ∧ Below w.heap.size w w' := by
 have hu62 := Try.underlying62
 have HR0 := Qz.mk hr0
 have HC0 := Qz.mk hc0
 clear hr0 hc0
 have HB := Qz.mk (Below.refl w.heap.size w)
 have H : (impl_joined.l0 k (([] : List (S64))) l0 (l0.length : Int) 0) = some r := h
 clear h
 obtain ⟨y101, hy101⟩ : ∃ y_ : List (S64), y_ = (([] : List (S64))) := ⟨_, rfl⟩
 replace H : (impl_joined.l0 k y101 l0 (l0.length : Int) 0) = some r := by first | (rw [hy101]; with_reducible exact H) | (have H2_ := (Option.bind_some _ _).symm.trans H; rw [hy101]; with_reducible exact H2_) | (have H2_ := (Option.bind_some _ _).symm.trans H; with_reducible exact H2_) | with_reducible exact H | (rw [hy101]; exact H) | exact H
 have Ny101 := Qz.mk hy101
 clear hy101
 have H' := Qz.mk H
 clear H
 go_enter Try.func103, Try.ntmps103
 go_wp2_with (first | ((with_reducible refine qz (N := 6) rfl ?_); refine Kd.R_lit k64 _ 64 ?hg (N := 6) ?hd (xs := ([] : List (S64))) (inner := []) (ok := fun _ => True) (okp := fun _ => True) ?hr ?hp (fun _ hk => hk) trivial (Below.refl _ _) (Nat.le_refl _) (by simp) ?_; (case hd => rfl); (case hg => rfl); (case hr => first | (go_simp; done) | (go_simp; rfl)); (case hp => exact (Reps.none _ _)); intro v102 w2 ho3 hb hg_ hnew_; clear hg_ hnew_; (first | rw [← Ny101.out] at ho3 | (simp only [Int.reduceToNat] at ho3; rw [← Ny101.out] at ho3)); have HO103 := Qz.mk (Kd.R_lower ho3 (qu yq40)); replace HB := Qz.mk (qm yq40 hb); clear hb ho3))
 go_loopg [3, 9] k (fun kq v3 v9 w' => ∃ (x3_1 : List (S64)) (x9_1 : Int), v9 = .int .i64 x9_1 ∧ Qz (impl_joined.l0 kq x3_1 l0 (l0.length : Int) x9_1 = some r) ∧ Qz (kq ≤ k) ∧ Qz (Kd.R k64 64 w' w.heap.size (fun _ => True) v3 x3_1) ∧ Qz (Below w.heap.size w w'))
 case atStart => exact ⟨(y101), (0), (by first | rfl | (simp; done) | (simp [*]; done)), H', ⟨Nat.le_refl _⟩, ⟨by (with_reducible repeat (first | apply Kd.R_alloc | apply Kd.R_drewN | apply Kd.R_drew)); exact HO103.out⟩, ⟨by repeat (first | (with_reducible first | exact HB.out | apply qc | apply qa | apply qb) | exact HB.out)⟩⟩
 case round =>
  clear H'
  try clear c1
  try clear p2
  obtain ⟨x3_1, x9_1, rfl, HA, HK1, HO_3, HB⟩ := hrel
  cases gk with
  | zero => exact absurd HA.out (by simp [impl_joined.l0])
  | succ k1 =>
   have H := HA.out
   clear HA
   simp only [impl_joined.l0] at H
   by_cases c4 : x9_1 < (l0.length : Int)
   ·rw [if_pos c4] at H
    have c4b0 : decide (x9_1 < (l0.length : Int)) = true := decide_eq_true c4
    clear c4
    by_cases c5 : 0 ≤ x9_1
    ·rw [if_pos c5] at H
     have c5b0 : decide (0 ≤ x9_1) = true := decide_eq_true c5
     clear c5
     by_cases c6 : x9_1 < (l0.length : Int)
     ·rw [if_pos c6] at H
      have c6b0 : decide (x9_1 < (l0.length : Int)) = true := decide_eq_true c6
      clear c6
      by_cases c7 : x3_1.length + ((qv l0 x9_1).f0).length < 2932031007402
      ·rw [if_pos c7] at H
       have LMc7 := Qz.mk c7
       clear c7
       obtain ⟨y106, hy106⟩ : ∃ y_ : List (S64), y_ = (x3_1 ++ ((qv l0 x9_1).f0)) := ⟨_, rfl⟩
       replace H : (impl_joined.l0 k1 y106 l0 (l0.length : Int) (wrap64 (x9_1 + 1))) = some r := by first | (rw [hy106]; with_reducible exact H) | (have H2_ := (Option.bind_some _ _).symm.trans H; rw [hy106]; with_reducible exact H2_) | (have H2_ := (Option.bind_some _ _).symm.trans H; with_reducible exact H2_) | with_reducible exact H | (rw [hy106]; exact H) | exact H
       have Ny106 := Qz.mk hy106
       clear hy106
       have H' := Qz.mk H
       clear H
       have p104 : 0 ≤ (x9_1 : Int) := of_decide_eq_true (by first | (with_reducible assumption) | assumption)
       have q104 : x9_1 < (l0.length : Int) := of_decide_eq_true (by first | (with_reducible assumption) | assumption)
       obtain ⟨ad104, A104_0, c104_0, e104, hx104_0, hl104_0, hi104_0⟩ := at_T62 HR0.out x9_1 p104 q104
       cases e104
       replace hx104_0 := (HB.out.cell (World.block_lt_of_cell? w _ hx104_0)).trans hx104_0
       have HR104_0 := Qz.mk hi104_0
       have HC104_0 := Qz.mk hl104_0
       clear hi104_0 hl104_0
       replace p104 := eq_true p104
       replace q104 := eq_true q104
       go_wp2_with (first | ((with_reducible refine qz (N := 5) rfl ?_); refine qh1 ?hg (N := 5) ?hd (cs := #[.slice none 0 0]) (t := 62) ?hr ?_; (case hd => rfl); (case hg => rfl); (case hr => first | (go_simp; done) | (go_simp; rfl)); intro gb105 hg w8 hbox hb; replace HO_3 := Qz.mk (Kd.R_below (by (with_reducible repeat (first | apply Kd.R_alloc | apply Kd.R_drewN | apply Kd.R_drew)); exact HO_3.out) hb); have BK105 := Qz.mk (hbox); have GW105 := Qz.mk ((by rw [hg]; exact (qu yq40) : w.heap.size ≤ gb105)); have GE105 := GW105; replace HB := Qz.mk (qm yq40 hb); clear hb hbox hg; have hcz9_0 : w8.cell? ⟨gb105, 0, none⟩ = some (.slice none 0 0) := (qf BK105.out 0).trans rfl; have hfz9_0 := qg BK105.out 0) | ((with_reducible refine gate_builtin (b := .append) (xs := #[.tmp 13, .tmp 15]) rfl ?_); at_builtin; refine Kd.R_append_rows k64 (w0 := w) w.heap.size rfl (.tmp 13) (.tmp 15) 26 64 (.agg #[(.string ⟨#[]⟩), (.int .i64 0), (.int .i64 0), (.string ⟨#[]⟩)]) 48 rfl Try.underlying26 info64 rfl (by decide) (by omega) u3 x3_1 ((qv l0 x9_1).f0) _ _ _ (fun _ => True) (fun _ => False) rfl rfl ?aO ?aR (fun _ _ h => h) (fun _ h => h.elim) ?aF ?aB ?aS ?aL ?_; (case aR => exact Kd.C_below HR104_0.out yq41); (case aB => exact yq41); (case aF => exact (fun _ _ => trivial)); (case aO => exact (by (with_reducible repeat (first | apply Kd.R_alloc | apply Kd.R_drewN | apply Kd.R_drew)); exact Kd.R_mono (Kd.R_far (p := ⟨gb105, 0, none⟩) (Kd.R_types HO_3.out BK105.out (by decide)) (fun _ hk => hk.2) (.slice A104_0 ((qv l0 x9_1).f0).length c104_0)) (fun _ hk => trivial))); (case aS => exact (qu yq41)); (case aL => have := LMc7.out; omega); intro v107 w10 ho hb hg hat; rw [← Ny106.out] at ho; have n0_ := Qz.mk (blk_grown (g := gb105) (o := .cells #[.slice A104_0 ((qv l0 x9_1).f0).length c104_0] 62 (0, 0)) (by (with_reducible repeat (first | refine qh ?_ _ | refine qj ?_ | refine qi ?_ _)); refine blk_put (cs := #[.slice none 0 0]) ?_ 0 _ rfl; (with_reducible repeat (first | refine qh ?_ _ | refine qj ?_ | refine qi ?_ _)); exact BK105.out) hg (Kd.R_ne HO_3.out BK105.out (by decide))); have n1_ := Qz.mk (hb); have n2_ := Qz.mk (ho); clear BK105; clear HB; clear HO_3; have BK105 := n0_; have HB := n1_; have HO108 := n2_; clear n0_ n1_ n2_; clear ho hb hg hat))
       go_roundg k1
       case measure => have := HK1.out; omega
       case rel => exact ⟨(y106), (wrap64 (x9_1 + 1)), (by first | rfl | (simp; done) | (simp [*]; done)), H', ⟨by have := HK1.out; omega⟩, ⟨by (with_reducible repeat (first | apply Kd.R_alloc | apply Kd.R_drewN | apply Kd.R_drew)); exact HO108.out⟩, ⟨by repeat (first | (with_reducible first | exact HB.out | apply qc | apply qa | apply qb | refine qe ?_ GE105.out) | exact HB.out)⟩⟩
      ·rw [if_neg c7] at H
       exact absurd H (by simp)
     ·rw [if_neg c6] at H
      exact absurd H (by simp)
    ·rw [if_neg c5] at H
     exact absurd H (by simp)
   ·rw [if_neg c4] at H
    have c4b0 : decide (x9_1 < (l0.length : Int)) = false := decide_eq_false c4
    clear c4
    obtain rfl := Option.some.inj H
    go_wp2
    go_ret
    exact ⟨_, by first | rfl | (simp [qq, qo] <;> rfl) | (simp [*, qq, qo] <;> rfl), by (with_reducible repeat (first | apply Kd.R_alloc | apply Kd.R_drewN | apply Kd.R_drew)); exact HO_3.out, by repeat (first | (with_reducible first | exact HB.out | apply qc | apply qa | apply qb) | exact HB.out)⟩
def impl_RunsOk_1.f (k : Nat) (l0_0 : List (S64)) : Option (Bool) := (impl_EntriesOk.f k l0_0).bind fun t102 => (some (!t102))
set_option maxHeartbeats 8000000 in
set_option maxRecDepth 100000 in
theorem impl_RunsOk_1.calls (k : Nat) (A0_0 : Option Addr) (c0_0 : Nat) (l0_0 : List (S64)) (r : Bool) (w : World) (hr0_0 : Kd.C k64 w A0_0 l0_0.length l0_0) (hc0_0 : l0_0.length ≤ c0_0) (h : impl_RunsOk_1.f k l0_0 = some r) :
  Calls Try.prog 107 #[.agg #[.slice A0_0 l0_0.length c0_0]] w fun e w' => e = .returned (.bool r) ∧ Below w.heap.size w w' := by
 have hu62 := Try.underlying62
 have HR0_0 := Qz.mk hr0_0
 have HC0_0 := Qz.mk hc0_0
 clear hr0_0 hc0_0
 have HB := Qz.mk (Below.refl w.heap.size w)
 have H : ((impl_EntriesOk.f k l0_0).bind fun t102 => (some (!t102))) = some r := h
 clear h
 replace H := Option.bind_eq_some_iff.mp H
 obtain ⟨t102, A20, H⟩ := H
 replace H : (some (!t102)) = some r := H
 have A2 := Qz.mk A20
 clear A20
 obtain rfl := Option.some.inj H
 go_enter Try.func107, Try.ntmps107
 go_wp2_with (first | ((with_reducible refine qz (N := 1) rfl ?_); refine qh1 ?hg (N := 1) ?hd (cs := #[.slice A0_0 l0_0.length c0_0]) (t := 62) ?hr ?_; (case hd => rfl); (case hg => rfl); (case hr => first | (go_simp; done) | (go_simp; rfl)); intro gb101 hg w3 hbox hb; have BK101 := Qz.mk (hbox); have GW101 := Qz.mk ((by rw [hg]; exact (qu (by repeat (first | (with_reducible first | exact HB.out | apply qc | apply qa | apply qb) | exact HB.out))) : w.heap.size ≤ gb101)); have GE101 := GW101; replace HB := Qz.mk (qm (by repeat (first | (with_reducible first | exact HB.out | apply qc | apply qa | apply qb) | exact HB.out)) hb); clear hb hbox hg; have hcz4_0 : w3.cell? ⟨gb101, 0, none⟩ = some (.slice A0_0 l0_0.length c0_0) := (qf BK101.out 0).trans rfl; have hfz4_0 := qg BK101.out 0) | ((with_reducible refine qr (f := 43) rfl ?_); refine qe1 (some 5) rfl rfl Try.func43 (by kernel_rfl) rfl #[.slice A0_0 l0_0.length c0_0] rfl (by (try simp only [List.map_toArray, List.map_cons, List.map_nil]); first | done | rfl | (simp only [List.length_drop, List.length_take]; rfl) | (rw [IntWalk.u64_in _ (by omega)] <;> rfl)) ?_; (with_reducible refine (impl_EntriesOk.calls k _ _ l0_0 t102 _ ?side1 ?side2 A2.out).mono ?_); (case side1 => repeat (first | exact (Kd.C_below HR0_0.out HB.out) | (with_reducible refine Kd.C_alloc ?_ _) | (with_reducible refine Kd.C_drewN ?_ _) | (with_reducible refine Kd.C_drew ?_))); (case side2 => exact HC0_0.out); rintro e w5 ⟨rfl, hb⟩; refine ⟨_, rfl, ?_⟩; replace BK101 := Qz.mk (qf1 (g := gb101) (o := .cells #[.slice A0_0 l0_0.length c0_0] 62 (0, 0)) (by (with_reducible repeat (first | refine qh ?_ _ | refine qj ?_ | refine qi ?_ _)); exact BK101.out) hb); replace HB := Qz.mk (qm (by repeat (first | (with_reducible first | exact HB.out | apply qc | apply qa | apply qb | refine qe ?_ GE101.out) | exact HB.out)) hb); (try clear hb)))
 go_ret
 exact ⟨by first | rfl | (simp [qq, qo] <;> rfl) | (simp [*, qq, qo] <;> rfl), by repeat (first | (with_reducible first | exact HB.out | apply qc | apply qa | apply qb | refine qe ?_ GE101.out) | exact HB.out)⟩
end Go.Proofs.Ytidjdkodgddfcaa.P
end

section
namespace Go.Proofs.Ytidjdkodgddfcaa.P
open Go.RowKit Go.Proofs.YtidjdkodgddfcaaW.PrintWords Go.Proofs.YtidjdkodgddfcaaW.PrintLast Go.Proofs.YtidjdkodgddfcaaW.PrintMore
attribute [local go_sem] str_gtr str_leq str_geq qd1 qb1 max_two min_two qy qx qc1 qa1
set_option linter.unusedVariables false
set_option linter.unusedSimpArgs false
def runsBad (k : Nat) : List S62 → Option Bool
  | [] => some false
  | x :: xs => (impl_RunsOk_1.f k x.f0).bind fun b => (runsBad k xs).bind fun c => some (b || c)
def containsFunc_notRow.f (k : Nat) (l : List S62) : Option Bool := runsBad k l
theorem runsBad_all {k : Nat} : ∀ {l : List S62} {r : Bool}, runsBad k l = some r → ∃ p : S62 → Bool, (∀ x ∈ l, impl_RunsOk_1.f k x.f0 = some (p x)) ∧ r = l.any p := by
  intro l r h
  refine ⟨fun x => (impl_RunsOk_1.f k x.f0).getD false, ?_, ?_⟩
  · intro x hx
    induction l generalizing r with
    | nil => cases hx
    | cons y ys ih =>
      unfold runsBad at h
      obtain ⟨b, hb, h⟩ := Option.bind_eq_some_iff.mp h
      obtain ⟨c, hc, h⟩ := Option.bind_eq_some_iff.mp h
      rcases List.mem_cons.1 hx with hx | hx
      · rw [hx]
        show impl_RunsOk_1.f k y.f0 = some ((impl_RunsOk_1.f k y.f0).getD false)
        rw [hb]
        rfl
      · exact ih hc hx
  · induction l generalizing r with
    | nil => injection h with h; exact h.symm
    | cons y ys ih =>
      unfold runsBad at h
      obtain ⟨b, hb, h⟩ := Option.bind_eq_some_iff.mp h
      obtain ⟨c, hc, h⟩ := Option.bind_eq_some_iff.mp h
      injection h with h
      rw [List.any_cons, hb, ← ih hc, ← h]
      rfl
set_option maxHeartbeats 4000000 in
set_option maxRecDepth 100000 in
theorem indexFunc_Run.calls (k : Nat) (p : S62 → Bool) (A : Option Addr) (c : Nat) (l : List S62) (w : World) (hr : Kd.C k62 w A l.length l)
    (hp : ∀ x ∈ l, impl_RunsOk_1.f k x.f0 = some (p x)) :
    Calls Try.prog 162 #[.slice A l.length c, .func (.func 107) #[] #[]] w fun e w' => e = .returned (.int .i64 (idxf p l 0)) ∧ Below w.heap.size w w' := by
  have hlm := Kd.C_max hr
  have eg : ∀ args w, (callFunc 107 args).run Try.prog w = .ok (.enter 107 args) w := fun args w => by kernel_rfl
  have HR := Qz.mk hr
  have HP := Qz.mk hp
  clear hr hp
  go_enter Try.func162, Try.ntmps162
  go_wp2
  go_loopg [5, 8] l.length (fun gg _ s8 wr => ∃ i : Int, 0 ≤ i ∧ i ≤ l.length ∧ (l.length : Int) - i ≤ gg ∧ s8 = .int .i64 i ∧ Qz (Below w.heap.size w wr) ∧ Qz (∀ j : Nat, (j : Int) < i → p (l.getD j z62) = false))
  case atStart => exact ⟨0, by omega, by omega, by omega, rfl, ⟨Below.refl _ w⟩, ⟨fun j hj => absurd hj (by omega)⟩⟩
  case round =>
    obtain ⟨i, hi0, hi1, hg, rfl, BW, AN⟩ := hrel
    by_cases hlt : i < (l.length : Int)
    · obtain ⟨k1, rfl⟩ : ∃ m, gk = m + 1 := ⟨gk - 1, by omega⟩
      have hd : decide (i < (l.length : Int)) = true := decide_eq_true hlt
      obtain ⟨ad, A0, c0, e, h0, hc0, hC0⟩ := at_T62 HR.out i hi0 hlt
      cases e
      replace h0 := (BW.out.cell (World.block_lt_of_cell? w _ h0)).trans h0
      have hC1 := Kd.C_below hC0 BW.out
      have hX : qv l i = l.getD i.toNat z62 := rfl
      have hmem : l.getD i.toNat z62 ∈ l := by
        rw [List.getD_eq_getElem?_getD, List.getElem?_eq_getElem (show i.toNat < l.length by omega)]
        exact List.getElem_mem _
      have hf := HP.out _ hmem
      rw [← hX] at hf
      have HX : Qz (qv l i = l.getD i.toNat z62) := ⟨rfl⟩
      clear hX hmem hC0
      generalize qv l i = x at h0 hc0 hC1 hf HX
      have hcall := impl_RunsOk_1.calls k A0 c0 x.f0 (p x) wr hC1 hc0 hf
      clear hC1 hf
      have HC0 := Qz.mk hc0
      clear hc0
      cases hq : p x with
      | true =>
        rw [hq] at hcall
        have HQ := Qz.mk hq
        clear hq
        go_wp2_with fail
        (with_reducible refine hcall.mono ?_)
        rintro e w' ⟨rfl, hb'⟩
        have hb2 := BW.out.trans (hb'.mono BW.out.size)
        go_wp2
        go_ret
        refine ⟨?_, hb2⟩
        show Ending.returned (.int .i64 i) = _
        rw [idxf_hit p z62 l i.toNat 0 (by omega) (by rw [← HX.out]; exact HQ.out) (fun j hj => AN.out j (by omega))]
        rw [show (((0 + i.toNat : Nat)) : Int) = i from by omega]
      | false =>
        rw [hq] at hcall
        have HQ := Qz.mk hq
        clear hq
        go_wp2_with fail
        (with_reducible refine hcall.mono ?_)
        rintro e w' ⟨rfl, hb'⟩
        have hb2 := Qz.mk (BW.out.trans (hb'.mono BW.out.size))
        clear hb'
        go_wp2
        go_roundg k1
        case measure => omega
        case rel =>
          refine ⟨i + 1, by omega, by omega, by omega, by first | rfl | go_num, hb2, ⟨fun j hj => ?_⟩⟩
          by_cases e : (j : Int) = i
          · subst e
            rw [← show x = l.getD j z62 from HX.out]
            exact HQ.out
          · exact AN.out j (by omega)
    · have hd : decide (i < (l.length : Int)) = false := decide_eq_false hlt
      go_wp2
      all_goals
        go_ret
        refine ⟨?_, BW.out⟩
        rw [idxf_miss p z62 l 0 (fun j hj => AN.out j (by omega))]
        rfl
theorem containsFunc_notRow.calls (k : Nat) (A0 : Option Addr) (c0 : Nat) (l : List S62) (r : Bool) (w : World) (hr0 : Kd.C k62 w A0 l.length l) (hc0 : l.length ≤ c0) (h : containsFunc_notRow.f k l = some r) :
    Calls Try.prog 106 #[.slice A0 l.length c0, .func (.func 107) #[] #[]] w fun e w' => e = .returned (.bool r) ∧ Below w.heap.size w w' := by
  obtain ⟨p, hp, rfl⟩ := runsBad_all h
  rw [← idxf_any p l 0]
  have hcall := indexFunc_Run.calls k p A0 c0 l w hr0 hp
  clear hr0 hp h
  generalize idxf p l 0 = r at hcall ⊢
  go_enter Try.func106, Try.ntmps106
  go_wp2_with fail
  (with_reducible refine hcall.mono ?_)
  rintro e w' ⟨rfl, hb'⟩
  go_wp2
  go_ret
  exact ⟨rfl, hb'⟩
theorem yq42 {P : Prop} (h : P := by repeat (first | (with_reducible first | exact HB.out | apply qc | apply qa | apply qb) | exact HB.out)) : P := h
def impl_RunsOk.f (k : Nat) (l0 : List (S62)) : Option (Bool) := if (l0.length : Int) ≤ 20 then ((containsFunc_notRow.f k l0).bind fun t101 => (if t101 = true then (some false) else ((impl_joined.f k l0).bind fun t102 => (some (decide ((t102.length : Int) ≤ 400)))))) else (some false)
set_option maxHeartbeats 8000000 in
set_option maxRecDepth 100000 in
theorem impl_RunsOk.calls (k : Nat) (A0 : Option Addr) (c0 : Nat) (l0 : List (S62)) (r : Bool) (w : World) (hr0 : Kd.C k62 w A0 l0.length l0) (hc0 : l0.length ≤ c0) (h : impl_RunsOk.f k l0 = some r) :
  Calls Try.prog 42 #[.slice A0 l0.length c0] w fun e w' => e = .returned (.bool r) ∧ Below w.heap.size w w' := by
 have HR0 := Qz.mk hr0
 have HC0 := Qz.mk hc0
 clear hr0 hc0
 have HB := Qz.mk (Below.refl w.heap.size w)
 have H : (if (l0.length : Int) ≤ 20 then ((containsFunc_notRow.f k l0).bind fun t101 => (if t101 = true then (some false) else ((impl_joined.f k l0).bind fun t102 => (some (decide ((t102.length : Int) ≤ 400)))))) else (some false)) = some r := h
 clear h
 by_cases c2 : (l0.length : Int) ≤ 20
 ·rw [if_pos c2] at H
  have c2b0 : decide ((l0.length : Int) ≤ 20) = true := decide_eq_true c2
  have c2b1 : decide (l0.length ≤ 20) = true := decide_eq_true (by omega)
  clear c2
  replace H := Option.bind_eq_some_iff.mp H
  obtain ⟨t101, A30, H⟩ := H
  replace H : (if t101 = true then (some false) else ((impl_joined.f k l0).bind fun t102 => (some (decide ((t102.length : Int) ≤ 400))))) = some r := H
  have A3 := Qz.mk A30
  clear A30
  by_cases c4 : t101 = true
  ·subst c4
   have H1 : (some false) = some r := by rw [if_pos rfl] at H; exact H
   clear H
   have H := H1
   clear H1
   obtain rfl := Option.some.inj H
   go_enter Try.func42, Try.ntmps42
   go_wp2_with (first | (go_at_call 106; (with_reducible refine (containsFunc_notRow.calls k _ _ l0  true _ ?side1 ?side2 A3.out).mono ?_); (case side1 => repeat (first | exact HR0.out | (with_reducible refine Kd.C_alloc ?_ _) | (with_reducible refine Kd.C_drewN ?_ _) | (with_reducible refine Kd.C_drew ?_))); (case side2 => exact HC0.out); rintro e w5 ⟨rfl, hb⟩; replace HB := Qz.mk (qm yq42 hb); (try clear hb)))
   go_ret
   exact ⟨by first | rfl | (simp [qq, qo] <;> rfl) | (simp [*, qq, qo] <;> rfl), by repeat (first | (with_reducible first | exact HB.out | apply qc | apply qa | apply qb) | exact HB.out)⟩
  ·replace c4 := Bool.eq_false_iff.mpr c4
   subst c4
   have H1 : ((impl_joined.f k l0).bind fun t102 => (some (decide ((t102.length : Int) ≤ 400)))) = some r := by rw [if_neg (show ¬ (false = true) by decide)] at H; exact H
   clear H
   have H := H1
   clear H1
   replace H := Option.bind_eq_some_iff.mp H
   obtain ⟨t102, A60, H⟩ := H
   replace H : (some (decide ((t102.length : Int) ≤ 400))) = some r := H
   have A6 := Qz.mk A60
   clear A60
   obtain rfl := Option.some.inj H
   go_enter Try.func42, Try.ntmps42
   go_wp2_with (first | (go_at_call 106; (with_reducible refine (containsFunc_notRow.calls k _ _ l0  false _ ?side1 ?side2 A3.out).mono ?_); (case side1 => repeat (first | exact HR0.out | (with_reducible refine Kd.C_alloc ?_ _) | (with_reducible refine Kd.C_drewN ?_ _) | (with_reducible refine Kd.C_drew ?_))); (case side2 => exact HC0.out); rintro e w7 ⟨rfl, hb⟩; replace HB := Qz.mk (qm yq42 hb); (try clear hb)) | (go_at_call 103; (with_reducible refine (impl_joined.calls k _ _ l0 t102 _ ?side1 ?side2 A6.out).mono ?_); (case side1 => repeat (first | exact (Kd.C_below HR0.out HB.out) | (with_reducible refine Kd.C_alloc ?_ _) | (with_reducible refine Kd.C_drewN ?_ _) | (with_reducible refine Kd.C_drew ?_))); (case side2 => exact HC0.out); rintro e w8 ⟨v103, rfl, ho0, hb⟩; have HO104 := Qz.mk (Kd.R_lower ho0 (qu yq42)); replace HB := Qz.mk (qm yq42 hb); (try clear hb); (try clear ho0); obtain ⟨Ao9, co9, eo9⟩ := Kd.R_slice HO104.out; subst eo9))
   go_ret
   exact ⟨by first | rfl | (simp [qq, qo] <;> rfl) | (simp [*, qq, qo] <;> rfl), by repeat (first | (with_reducible first | exact HB.out | apply qc | apply qa | apply qb) | exact HB.out)⟩
 ·rw [if_neg c2] at H
  have c2b0 : decide ((l0.length : Int) ≤ 20) = false := decide_eq_false c2
  have c2b1 : decide (l0.length ≤ 20) = false := decide_eq_false (by omega)
  clear c2
  obtain rfl := Option.some.inj H
  go_enter Try.func42, Try.ntmps42
  go_wp2
  go_ret
  exact ⟨by first | rfl | (simp [qq, qo] <;> rfl) | (simp [*, qq, qo] <;> rfl), by repeat (first | (with_reducible first | exact HB.out | apply qc | apply qa | apply qb) | exact HB.out)⟩
theorem yq43 {P : Prop} (h : P := by (try simp only [List.map_toArray, List.map_cons, List.map_nil]); first | done | rfl | (simp only [List.length_drop, List.length_take]; rfl) | (rw [IntWalk.u64_in _ (by omega)] <;> rfl)) : P := h
theorem yq44 {P : Prop} (h : P := by repeat (first | (with_reducible first | exact HB.out | apply qc | apply qa | apply qb) | exact HB.out)) : P := h
def impl_MergeRuns.f (k : Nat) (l0 : List (S62)) : Option ((List (S64)) × Bool) := (impl_RunsOk.f k l0).bind fun t101 => (if t101 = true then ((impl_joined.f k l0).bind fun t102 => ((impl_merged.f t102).bind fun t105 => (some (t105, true)))) else (some (([] : List (S64)), false)))
set_option maxHeartbeats 8000000 in
set_option maxRecDepth 100000 in
theorem impl_MergeRuns.calls (k : Nat) (A0 : Option Addr) (c0 : Nat) (l0 : List (S62)) (r1 : List (S64)) (r2 : Bool) (w : World) (hr0 : Kd.C k62 w A0 l0.length l0) (hc0 : l0.length ≤ c0) (h : impl_MergeRuns.f k l0 = some (r1, r2)) :
  Calls Try.prog 38 #[.slice A0 l0.length c0] w fun e w' => ∃ v0_ : Value, e = .returned (.tuple #[v0_, .bool r2]) ∧ Kd.R k64 64 w' w.heap.size (fun _ => True) v0_ r1 ∧ Below w.heap.size w w' := by
 have HR0 := Qz.mk hr0
 have HC0 := Qz.mk hc0
 clear hr0 hc0
 have HB := Qz.mk (Below.refl w.heap.size w)
 have H : ((impl_RunsOk.f k l0).bind fun t101 => (if t101 = true then ((impl_joined.f k l0).bind fun t102 => ((impl_merged.f t102).bind fun t105 => (some (t105, true)))) else (some (([] : List (S64)), false)))) = some (r1, r2) := h
 clear h
 replace H := Option.bind_eq_some_iff.mp H
 obtain ⟨t101, A20, H⟩ := H
 replace H : (if t101 = true then ((impl_joined.f k l0).bind fun t102 => ((impl_merged.f t102).bind fun t105 => (some (t105, true)))) else (some (([] : List (S64)), false))) = some (r1, r2) := H
 have A2 := Qz.mk A20
 clear A20
 by_cases c3 : t101 = true
 ·subst c3
  have H1 : ((impl_joined.f k l0).bind fun t102 => ((impl_merged.f t102).bind fun t105 => (some (t105, true)))) = some (r1, r2) := by rw [if_pos rfl] at H; exact H
  clear H
  have H := H1
  clear H1
  replace H := Option.bind_eq_some_iff.mp H
  obtain ⟨t102, A40, H⟩ := H
  replace H : ((impl_merged.f t102).bind fun t105 => (some (t105, true))) = some (r1, r2) := H
  have A4 := Qz.mk A40
  clear A40
  replace H := Option.bind_eq_some_iff.mp H
  obtain ⟨t105, A50, H⟩ := H
  replace H : (some (t105, true)) = some (r1, r2) := H
  have A5 := Qz.mk A50
  clear A50
  simp only [Option.some.injEq, Prod.mk.injEq] at H
  obtain ⟨rfl, rfl⟩ := H
  go_enter Try.func38, Try.ntmps38
  go_wp2_with (first | ((with_reducible refine qr (f := 42) rfl ?_); refine qe1 (some 5) rfl rfl Try.func42 (by kernel_rfl) rfl #[.slice A0 l0.length c0] rfl yq43 ?_; (with_reducible refine (impl_RunsOk.calls k _ _ l0 true _ ?side1 ?side2 A2.out).mono ?_); (case side1 => repeat (first | exact HR0.out | (with_reducible refine Kd.C_alloc ?_ _) | (with_reducible refine Kd.C_drewN ?_ _) | (with_reducible refine Kd.C_drew ?_))); (case side2 => exact HC0.out); rintro e w6 ⟨rfl, hb⟩; refine ⟨_, rfl, ?_⟩; replace HB := Qz.mk (qm yq44 hb); (try clear hb); (try clear hk)) | ((with_reducible refine qr (f := 103) rfl ?_); refine qe1 (some 8) rfl rfl Try.func103 (by kernel_rfl) rfl #[.slice A0 l0.length c0] rfl yq43 ?_; (with_reducible refine (impl_joined.calls k _ _ l0 t102 _ ?side1 ?side2 A4.out).mono ?_); (case side1 => repeat (first | exact (Kd.C_below HR0.out HB.out) | (with_reducible refine Kd.C_alloc ?_ _) | (with_reducible refine Kd.C_drewN ?_ _) | (with_reducible refine Kd.C_drew ?_))); (case side2 => exact HC0.out); rintro e w7 ⟨v103, rfl, ho0, hb⟩; refine ⟨_, rfl, ?_⟩; have HO104 := Qz.mk (Kd.R_lower ho0 (qu yq44)); replace HB := Qz.mk (qm yq44 hb); (try clear hb); (try clear hk); (try clear ho0); obtain ⟨Ao8, co8, eo8⟩ := Kd.R_slice HO104.out; subst eo8) | ((with_reducible refine qr (f := 102) rfl ?_); refine qe1 (some 9) rfl rfl Try.func102 (by kernel_rfl) rfl #[.slice Ao8 t102.length co8] rfl yq43 ?_; (with_reducible refine (impl_merged.calls _ _ t102 t105 _ ?side1 ?side2 A5.out).mono ?_); (case side1 => repeat (first | exact (Kd.R_reads' HO104.out).2.2 | (with_reducible refine Kd.C_alloc ?_ _) | (with_reducible refine Kd.C_drewN ?_ _) | (with_reducible refine Kd.C_drew ?_))); (case side2 => exact (Kd.R_reads' HO104.out).2.1); rintro e w9 ⟨v106, rfl, ho0, hb⟩; refine ⟨_, rfl, ?_⟩; have HO107 := Qz.mk (Kd.R_lower (Kd.R_new' ho0 (Kd.R_lt (by (with_reducible repeat (first | apply Kd.R_alloc | apply Kd.R_drewN | apply Kd.R_drew)); exact HO104.out))) (qu yq44)); replace HO104 := Qz.mk (Kd.R_elder' (by (with_reducible repeat (first | apply Kd.R_alloc | apply Kd.R_drewN | apply Kd.R_drew)); exact HO104.out) (Kd.R_base ho0) hb); replace HB := Qz.mk (qm yq44 hb); (try clear hb); (try clear hk); (try clear ho0)))
  go_ret2
  exact ⟨_, by first | rfl | (simp [qq, qo] <;> rfl) | (simp [*, qq, qo] <;> rfl), by (with_reducible repeat (first | apply Kd.R_alloc | apply Kd.R_drewN | apply Kd.R_drew)); exact Kd.R_mono HO107.out (fun _ hk => trivial), by repeat (first | (with_reducible first | exact HB.out | apply qc | apply qa | apply qb) | exact HB.out)⟩
 ·replace c3 := Bool.eq_false_iff.mpr c3
  subst c3
  have H1 : (some (([] : List (S64)), false)) = some (r1, r2) := by rw [if_neg (show ¬ (false = true) by decide)] at H; exact H
  clear H
  have H := H1
  clear H1
  simp only [Option.some.injEq, Prod.mk.injEq] at H
  obtain ⟨rfl, rfl⟩ := H
  go_enter Try.func38, Try.ntmps38
  go_wp2_with (first | ((with_reducible refine qr (f := 42) rfl ?_); refine qe1 (some 5) rfl rfl Try.func42 (by kernel_rfl) rfl #[.slice A0 l0.length c0] rfl yq43 ?_; (with_reducible refine (impl_RunsOk.calls k _ _ l0 false _ ?side1 ?side2 A2.out).mono ?_); (case side1 => repeat (first | exact HR0.out | (with_reducible refine Kd.C_alloc ?_ _) | (with_reducible refine Kd.C_drewN ?_ _) | (with_reducible refine Kd.C_drew ?_))); (case side2 => exact HC0.out); rintro e w10 ⟨rfl, hb⟩; refine ⟨_, rfl, ?_⟩; replace HB := Qz.mk (qm yq44 hb); (try clear hb); (try clear hk)))
  go_ret2
  exact ⟨_, by first | rfl | (simp [qq, qo] <;> rfl) | (simp [*, qq, qo] <;> rfl), by first | exact Kd.R_nil _ _ _ _ _ | exact Kd.N_nil _ _ _ _ _ | exact Kd.V_nil _ _ _ _ _ | exact Kd.Q_nil _ _ _ _ _ | exact Kd.S_nil _ _ _ _ _, by repeat (first | (with_reducible first | exact HB.out | apply qc | apply qa | apply qb) | exact HB.out)⟩
def IsS178 (w0 W : World) (g : Nat) (f0 : List Int) (f1 : Int) : Prop := ∃ A0 c0, W.heap[g]? = some (.cells #[.slice A0 f0.length c0, .int .i64 f1] 178 (0, 0)) ∧ w0.heap.size ≤ g ∧ Kd.C (Kd.int .u8) w0 A0 f0.length f0
theorem IsS178.grown {w0 W : World} {g : Nat} {f0 : List Int} {f1 : Int} {W1 : World} {row : Option Nat} (h : IsS178 w0 W g f0 f1) (hw : W.grownBy W1 row) (hne : some g ≠ row) : IsS178 w0 W1 g f0 f1 := by
 obtain ⟨A0, c0, hb, hg, hr0⟩ := h
 exact ⟨A0, c0, blk_grown hb hw hne, hg, hr0⟩
theorem IsS178.kept {w0 W : World} {g : Nat} {f0 : List Int} {f1 : Int} {W1 : World} {S : Nat → Prop} (h : IsS178 w0 W g f0 f1) (hk : Kept W W1 S) (hne : ¬ S g) : IsS178 w0 W1 g f0 f1 := by
 obtain ⟨A0, c0, hb, hg, hr0⟩ := h
 exact ⟨A0, c0, blk_kept hb hk hne, hg, hr0⟩
theorem IsS178.below {w0 W : World} {g : Nat} {f0 : List Int} {f1 : Int} {W1 : World} (h : IsS178 w0 W g f0 f1) (hw : Below W.heap.size W W1) : IsS178 w0 W1 g f0 f1 := h.grown (grown_of_below hw none) (by simp)
theorem IsS178.alloc {w0 W : World} {g : Nat} {f0 : List Int} {f1 : Int} (h : IsS178 w0 W g f0 f1) (o : Obj) : IsS178 w0 (W.alloc o) g f0 f1 := h.below (qc (Below.refl _ _) o)
theorem IsS178.drewN {w0 W : World} {g : Nat} {f0 : List Int} {f1 : Int} (h : IsS178 w0 W g f0 f1) (m : Nat) : IsS178 w0 (W.drewN m) g f0 f1 := h
theorem IsS178.drew {w0 W : World} {g : Nat} {f0 : List Int} {f1 : Int} (h : IsS178 w0 W g f0 f1) : IsS178 w0 W.drew g f0 f1 := h
theorem IsS178.at_ {w0 W : World} {g : Nat} {f0 : List Int} {f1 : Int} {w' : World} {m : Nat} (hq : W.drewN m = w') (h : IsS178 w0 W g f0 f1) : IsS178 w0 w' g f0 f1 := by subst hq; exact IsS178.drewN h m
theorem IsS178.apart {w0 W : World} {g : Nat} {f0 : List Int} {f1 : Int} {α : Type} {d : Kd α} {e : Nat} {base : Nat} {ok : Nat → Prop} {v : Value} {xs : List α} (h : IsS178 w0 W g f0 f1) (ho : d.R e W base ok v xs) (ht : ∀ q, q ∈ e :: d.E → q ≠ 178) : d.R e W base (fun k => ok k ∧ k ≠ g) v xs := by
 obtain ⟨A0, c0, hb, hg, hr0⟩ := h
 exact Kd.R_types ho hb ht
theorem IsS178.own_ne {w0 W : World} {g : Nat} {f0 : List Int} {f1 : Int} {α : Type} {d : Kd α} {e : Nat} {base : Nat} {ok : Nat → Prop} {v : Value} {xs : List α} (h : IsS178 w0 W g f0 f1) (ho : d.R e W base ok v xs) (ht : e ≠ 178) : some g ≠ v.ownBlock := by
 obtain ⟨A0, c0, hb, hg, hr0⟩ := h
 exact Kd.R_ne ho hb ht
theorem IsS178.apartS {w0 W : World} {g : Nat} {f0 : List Int} {f1 : Int} {α : Type} {d : Kd α} {e : Nat} {base : Nat} {ok : Nat → Prop} {v : Value} {xs : List α} (h : IsS178 w0 W g f0 f1) (ho : d.S e W base ok v xs) (ht : ∀ q, q ∈ e :: d.E → q ≠ 178) : d.S e W base (fun k => ok k ∧ k ≠ g) v xs := by
 obtain ⟨A0, c0, hb, hg, hr0⟩ := h
 exact Kd.S_types ho hb ht
theorem IsS178.own_neS {w0 W : World} {g : Nat} {f0 : List Int} {f1 : Int} {α : Type} {d : Kd α} {e : Nat} {base : Nat} {ok : Nat → Prop} {v : Value} {xs : List α} (h : IsS178 w0 W g f0 f1) (ho : d.S e W base ok v xs) (ht : e ≠ 178) : some g ≠ v.ownBlock := by
 obtain ⟨A0, c0, hb, hg, hr0⟩ := h
 exact Kd.S_ne ho hb ht
theorem IsS178.lt {w0 W : World} {g : Nat} {f0 : List Int} {f1 : Int} (h : IsS178 w0 W g f0 f1) : g < W.heap.size := by
 obtain ⟨A0, c0, hb, hg, hr0⟩ := h
 exact blk_lt hb
theorem IsS178.ge {w0 W : World} {g : Nat} {f0 : List Int} {f1 : Int} (h : IsS178 w0 W g f0 f1) : w0.heap.size ≤ g := by
 obtain ⟨A0, c0, hb, hg, hr0⟩ := h
 exact hg
theorem IsS178.far {w0 W : World} {g : Nat} {f0 : List Int} {f1 : Int} {p : Addr} (h : IsS178 w0 W g f0 f1) (hne : g ≠ p.block) (u : Value) : IsS178 w0 (W.setCell p u) g f0 f1 := by
 obtain ⟨A0, c0, hb, hg, hr0⟩ := h
 exact ⟨A0, c0, blk_far hb hne u, hg, hr0⟩
theorem cellS178_0 {W : World} {g : Nat} {A0 : Option Addr} {c0 : Nat} {f0 : List Int} {f1 : Int} (h : W.heap[g]? = some (.cells #[.slice A0 f0.length c0, .int .i64 f1] 178 (0, 0))) : W.cell? ⟨g, 0, none⟩ = some (.slice A0 f0.length c0) := (qf h 0).trans rfl
theorem cellS178_1 {W : World} {g : Nat} {A0 : Option Addr} {c0 : Nat} {f0 : List Int} {f1 : Int} (h : W.heap[g]? = some (.cells #[.slice A0 f0.length c0, .int .i64 f1] 178 (0, 0))) : W.cell? ⟨g, 1, none⟩ = some (.int .i64 f1) := (qf h 1).trans rfl
theorem IsS178.set_1 {w0 W : World} {g : Nat} {f0 : List Int} {f1 : Int} (h : IsS178 w0 W g f0 f1) (x : Int) : IsS178 w0 (W.setCell ⟨g, 1, none⟩ (.int .i64 x)) g f0 x := by
 obtain ⟨A0, c0, hb, hg, hr0⟩ := h
 exact ⟨A0, c0, by simpa using blk_set hb 1 (.int .i64 x), hg, hr0⟩
def spec_l1Open.f (l0 : List Int) : Option (List Int × Int) := some (l0, 0)
set_option maxHeartbeats 8000000 in
set_option maxRecDepth 100000 in
theorem spec_l1Open.calls (A0 : Option Addr) (c0 : Nat) (l0 : List Int) (r1 : List Int) (r2 : Int) (w0 w : World) (hB : Below w0.heap.size w0 w) (hr0 : Kd.C (Kd.int .u8) w0 A0 l0.length l0) (hc0 : l0.length ≤ c0) (h : spec_l1Open.f l0 = some (r1, r2)) :
  Calls Try.prog 90 #[.slice A0 l0.length c0] w fun e w' => ∃ g_ : Nat, e = .returned (.pointer (some ⟨g_, 0, none⟩)) ∧ IsS178 w0 w' g_ r1 r2 ∧ Below w0.heap.size w0 w' ∧ Below w.heap.size w w' := by
 have hu178 := Try.underlying178
 have HR0 := Qz.mk hr0
 have HC0 := Qz.mk hc0
 clear hr0 hc0
 have HBW := Qz.mk (Below.refl w.heap.size w)
 have HW0 := Qz.mk hB.size
 have HB := Qz.mk hB
 clear hB
 have H : (some (l0, 0)) = some (r1, r2) := h
 clear h
 simp only [Option.some.injEq, Prod.mk.injEq] at H
 obtain ⟨rfl, rfl⟩ := H
 go_enter Try.func90, Try.ntmps90
 go_wp2_with (first | ((with_reducible refine qz (N := 5) rfl ?_); refine qh1 ?hg (N := 5) ?hd (cs := #[.slice A0 l0.length c0, .int .i64 0]) (t := 178) ?hr ?_; (case hd => rfl); (case hg => rfl); (case hr => first | (go_simp; done) | (go_simp; rfl)); intro gb101 hg w2 hbox hb; replace HB := Qz.mk (qm (by repeat (first | (with_reducible first | exact HB.out | apply qc | apply qa | apply qb) | exact HB.out)) hb); have BK101 := Qz.mk (hbox); have GW101 := Qz.mk ((by rw [hg]; exact (qu (by repeat (first | (with_reducible first | exact HBW.out | apply qc | apply qa | apply qb) | exact HBW.out))) : w.heap.size ≤ gb101)); have GE101 := Qz.mk ((Nat.le_trans HW0.out (by rw [hg]; exact (qu (by repeat (first | (with_reducible first | exact HBW.out | apply qc | apply qa | apply qb) | exact HBW.out))) : w.heap.size ≤ gb101) : w0.heap.size ≤ gb101)); replace HBW := Qz.mk (qm HBW.out hb); clear hb hbox hg))
 go_ret
 exact ⟨_, rfl, (show IsS178 w0 _ gb101 l0 0 from ⟨_, _, by (with_reducible repeat (first | refine qh ?_ _ | refine qj ?_ | refine qi ?_ _)); exact BK101.out, GE101.out, HR0.out⟩), by repeat (first | (with_reducible first | exact HB.out | apply qc | apply qa | apply qb | refine qe ?_ GE101.out) | exact HB.out), by repeat (first | (with_reducible first | exact HBW.out | apply qc | apply qa | apply qb | refine qe ?_ GW101.out) | exact HBW.out)⟩
def spec_l1Rd_next.f (s0_0 : List Int) (s0_1 : Int) : Option (Int × Int) := if s0_1 ≥ (s0_0.length : Int) then (some (0, s0_1)) else (if 0 ≤ (wrap64 ((wrap64 (s0_1 + 1)) - 1)) then (if (wrap64 ((wrap64 (s0_1 + 1)) - 1)) < (s0_0.length : Int) then (some (wrap64 (rd s0_0 (wrap64 ((wrap64 (s0_1 + 1)) - 1))), wrap64 (s0_1 + 1))) else (none)) else (none))
set_option maxHeartbeats 8000000 in
set_option maxRecDepth 100000 in
theorem spec_l1Rd_next.calls (g : Nat) (s0_0 : List Int) (s0_1 : Int) (r1 : Int) (r2 : Int) (w0 w : World) (hI : IsS178 w0 w g s0_0 s0_1) (hB : Below w0.heap.size w0 w) (h : spec_l1Rd_next.f s0_0 s0_1 = some (r1, r2)) :
  Calls Try.prog 171 #[.pointer (some ⟨g, 0, none⟩)] w fun e w' => e = .returned (.int .i64 r1) ∧ IsS178 w0 w' g s0_0 r2 ∧ Below w0.heap.size w0 w' ∧ KeepBut w w' g none := by
 have HI0 := Qz.mk hI
 have HK := Qz.mk (KeepBut.refl w g none)
 have HL := Qz.mk hB.size
 clear hI
 have HW0 := Qz.mk hB.size
 have HB := Qz.mk hB
 clear hB
 have H : (if s0_1 ≥ (s0_0.length : Int) then (some (0, s0_1)) else (if 0 ≤ (wrap64 ((wrap64 (s0_1 + 1)) - 1)) then (if (wrap64 ((wrap64 (s0_1 + 1)) - 1)) < (s0_0.length : Int) then (some (wrap64 (rd s0_0 (wrap64 ((wrap64 (s0_1 + 1)) - 1))), wrap64 (s0_1 + 1))) else (none)) else (none))) = some (r1, r2) := h
 clear h
 by_cases c2 : s0_1 ≥ (s0_0.length : Int)
 ·rw [if_pos c2] at H
  have c2b0 : decide ((s0_0.length : Int) ≤ s0_1) = true := decide_eq_true c2
  clear c2
  simp only [Option.some.injEq, Prod.mk.injEq] at H
  obtain ⟨rfl, rfl⟩ := H
  obtain ⟨ASz3_0, cSz3_0, HGz3, hgz3, HSz3_0⟩ := HI0.out
  have hcz3_0 := cellS178_0 HGz3
  have hcz3_1 := cellS178_1 HGz3
  have hfz3_1 := qg HGz3 1
  clear HGz3 hgz3
  go_enter Try.func171, Try.ntmps171
  go_wp2
  repeat (go_quiet (fail); try go_wp2)
  go_ret
  exact ⟨by first | rfl | (simp [qq, qo] <;> rfl) | (simp [*, qq, qo] <;> rfl), by repeat (first | (with_reducible first | exact HI0.out | apply IsS178.alloc | apply IsS178.drewN | apply IsS178.drew | apply IsS178.set_1) | exact HI0.out), by repeat (first | (with_reducible first | exact HB.out | apply qc | apply qa | apply qb | refine qe ?_ (IsS178.ge HI0.out)) | exact HB.out), by repeat (first | (with_reducible first | exact HK.out | apply KeepBut.set_ | apply qk | apply qn | apply ql) | exact HK.out)⟩
 ·rw [if_neg c2] at H
  have c2b0 : decide ((s0_0.length : Int) ≤ s0_1) = false := decide_eq_false c2
  clear c2
  obtain ⟨ji4, hji4⟩ : ∃ j_ : Int, (wrap64 ((wrap64 (s0_1 + 1)) - 1)) = j_ := ⟨_, rfl⟩
  replace H : (if 0 ≤ (ji4) then (if (ji4) < (s0_0.length : Int) then (some (wrap64 (rd s0_0 (ji4)), wrap64 (s0_1 + 1))) else (none)) else (none)) = some (r1, r2) := by first | (rw [hji4] at H; exact H) | (simp only [hji4] at H ⊢; exact H)
  have hji4w : (IntKind.i64.wrap ((wrap64 (s0_1 + 1)) - 1)) = ji4 := (i64_w _).trans hji4
  by_cases c5 : 0 ≤ (ji4)
  ·rw [if_pos c5] at H
   have c5b0 : decide (0 ≤ (ji4)) = true := decide_eq_true c5
   clear c5
   by_cases c6 : (ji4) < (s0_0.length : Int)
   ·rw [if_pos c6] at H
    have c6b0 : decide ((ji4) < (s0_0.length : Int)) = true := decide_eq_true c6
    clear c6
    simp only [Option.some.injEq, Prod.mk.injEq] at H
    obtain ⟨rfl, rfl⟩ := H
    obtain ⟨ASz7_0, cSz7_0, HGz7, hgz7, HSz7_0⟩ := HI0.out
    have hcz7_0 := cellS178_0 HGz7
    have hcz7_1 := cellS178_1 HGz7
    have hfz7_1 := qg HGz7 1
    clear HGz7 hgz7
    have p101 : 0 ≤ ((ji4) : Int) := of_decide_eq_true (by first | (with_reducible assumption) | assumption)
    have q101 : (ji4) < (s0_0.length : Int) := of_decide_eq_true (by first | (with_reducible assumption) | assumption)
    obtain ⟨ad101, e101, hx101_0⟩ := Kd.at_int HSz7_0 (ji4) p101 q101
    cases e101
    have hn101_0 : ad101.block ≠ g := Nat.ne_of_lt (Nat.lt_of_lt_of_le (by have := World.block_lt_of_cell? _ _ hx101_0; first | rwa [add_block] at this | exact this) (IsS178.ge HI0.out))
    replace hx101_0 := pw_cell_below HB.out hx101_0
    replace hx101_0 := (cell_far (p := ⟨g, 1, none⟩) (by first | (rw [add_block]; exact hn101_0) | (show (Addr.add _ _).block ≠ _; rw [add_block]; exact hn101_0) | exact hn101_0) (.int .i64 (wrap64 (s0_1 + 1)))).trans hx101_0
    (try have hy101_0 := fun (n_ : Nat) => (show (((w.drewN n_).setCell ⟨g, 1, none⟩ (.int .i64 (wrap64 (s0_1 + 1))))).cell? _ = some _ from hx101_0))
    clear hn101_0
    replace p101 := eq_true p101
    replace q101 := eq_true q101
    go_enter Try.func171, Try.ntmps171
    go_wp2
    repeat (go_quiet (fail); try go_wp2)
    go_ret
    exact ⟨by first | rfl | (simp [qq, qo] <;> rfl) | (simp only [← hji4]; first | rfl | (simp [qq, qo] <;> rfl)) | (simp [*, qq, qo] <;> rfl), by repeat (first | (with_reducible first | exact HI0.out | apply IsS178.alloc | apply IsS178.drewN | apply IsS178.drew | apply IsS178.set_1) | exact HI0.out), by repeat (first | (with_reducible first | exact HB.out | apply qc | apply qa | apply qb | refine qe ?_ (IsS178.ge HI0.out)) | exact HB.out), by repeat (first | (with_reducible first | exact HK.out | apply KeepBut.set_ | apply qk | apply qn | apply ql) | exact HK.out)⟩
   ·rw [if_neg c6] at H
    exact absurd H (by simp)
  ·rw [if_neg c5] at H
   exact absurd H (by simp)
theorem yq45 {P : Prop} (h : P := by repeat (first | (with_reducible first | exact HI0.out | apply IsS178.alloc | apply IsS178.drewN | apply IsS178.drew | apply IsS178.set_1) | exact HI0.out)) : P := h
theorem yq46 {P : Prop} (h : P := by repeat (first | (with_reducible first | exact HB.out | apply qc | apply qa | apply qb | refine qe ?_ (IsS178.ge HI0.out)) | exact HB.out)) : P := h
theorem yq47 {P : Prop} (h : P := by repeat (first | (with_reducible first | exact HK.out | apply KeepBut.set_ | apply qk | apply qn | apply ql) | exact HK.out)) : P := h
def spec_l1Rd_below.f (s0_0 : List Int) (s0_1 : Int) (a1 : Int) : Option (Int × Int) := if a1 ≤ 1 then (some (0, s0_1)) else (if a1 ≤ 256 then ((spec_l1Rd_next.f s0_0 s0_1).bind fun bt101 => (if a1 = 0 then (none) else (some (Int.tmod bt101.1 a1, bt101.2)))) else ((spec_l1Rd_next.f s0_0 s0_1).bind fun bt103 => ((spec_l1Rd_next.f s0_0 bt103.2).bind fun bt105 => (if a1 = 0 then (none) else (some (Int.tmod (wrap64 ((wrap64 (bt103.1 * 256)) + bt105.1)) a1, bt105.2))))))
set_option maxHeartbeats 8000000 in
set_option maxRecDepth 100000 in
theorem spec_l1Rd_below.calls (g : Nat) (s0_0 : List Int) (s0_1 : Int) (a1 : Int) (r1 : Int) (r2 : Int) (w0 w : World) (hI : IsS178 w0 w g s0_0 s0_1) (hB : Below w0.heap.size w0 w) (h : spec_l1Rd_below.f s0_0 s0_1 a1 = some (r1, r2)) :
  Calls Try.prog 119 #[.pointer (some ⟨g, 0, none⟩), .int .i64 a1] w fun e w' => e = .returned (.int .i64 r1) ∧ IsS178 w0 w' g s0_0 r2 ∧ Below w0.heap.size w0 w' ∧ KeepBut w w' g none := by
 have HI0 := Qz.mk hI
 have HK := Qz.mk (KeepBut.refl w g none)
 have HL := Qz.mk hB.size
 clear hI
 have HW0 := Qz.mk hB.size
 have HB := Qz.mk hB
 clear hB
 have H : (if a1 ≤ 1 then (some (0, s0_1)) else (if a1 ≤ 256 then ((spec_l1Rd_next.f s0_0 s0_1).bind fun bt101 => (if a1 = 0 then (none) else (some (Int.tmod bt101.1 a1, bt101.2)))) else ((spec_l1Rd_next.f s0_0 s0_1).bind fun bt103 => ((spec_l1Rd_next.f s0_0 bt103.2).bind fun bt105 => (if a1 = 0 then (none) else (some (Int.tmod (wrap64 ((wrap64 (bt103.1 * 256)) + bt105.1)) a1, bt105.2))))))) = some (r1, r2) := h
 clear h
 by_cases c3 : a1 ≤ 1
 ·rw [if_pos c3] at H
  have c3b0 : decide (a1 ≤ 1) = true := decide_eq_true c3
  clear c3
  simp only [Option.some.injEq, Prod.mk.injEq] at H
  obtain ⟨rfl, rfl⟩ := H
  go_enter Try.func119, Try.ntmps119
  go_wp2
  go_ret
  exact ⟨by first | rfl | (simp [qq, qo] <;> rfl) | (simp [*, qq, qo] <;> rfl), by repeat (first | (with_reducible first | exact HI0.out | apply IsS178.alloc | apply IsS178.drewN | apply IsS178.drew | apply IsS178.set_1) | exact HI0.out), by repeat (first | (with_reducible first | exact HB.out | apply qc | apply qa | apply qb | refine qe ?_ (IsS178.ge HI0.out)) | exact HB.out), by repeat (first | (with_reducible first | exact HK.out | apply KeepBut.set_ | apply qk | apply qn | apply ql) | exact HK.out)⟩
 ·rw [if_neg c3] at H
  have c3b0 : decide (a1 ≤ 1) = false := decide_eq_false c3
  clear c3
  by_cases c4 : a1 ≤ 256
  ·rw [if_pos c4] at H
   have c4b0 : decide (a1 ≤ 256) = true := decide_eq_true c4
   clear c4
   replace H := Option.bind_eq_some_iff.mp H
   obtain ⟨⟨t101, t102⟩, A50, H⟩ := H
   replace H : (if a1 = 0 then (none) else (some (Int.tmod t101 a1, t102))) = some (r1, r2) := H
   have A5 := Qz.mk A50
   clear A50
   by_cases c6 : a1 = 0
   ·rw [if_pos c6] at H
    exact absurd H (by simp)
   ·rw [if_neg c6] at H
    have c6b0 : (a1 == 0) = false := beq_eq_false_iff_ne.mpr c6
    have c6b1 : (a1 != 0) = true := bne_iff_ne.mpr c6
    simp only [Option.some.injEq, Prod.mk.injEq] at H
    obtain ⟨rfl, rfl⟩ := H
    go_enter Try.func119, Try.ntmps119
    go_wp2_with (first | ((with_reducible refine qr (f := 171) rfl ?_); refine qe1 (some 11) rfl rfl Try.func171 (by kernel_rfl) rfl #[.pointer (some ⟨g, 0, none⟩)] rfl (by (try simp only [List.map_toArray, List.map_cons, List.map_nil]); first | done | rfl) ?_; (with_reducible refine (spec_l1Rd_next.calls g s0_0 s0_1 t101 t102 w0 _ ?side1 ?side2 A5.out).mono ?_); (case side1 => exact yq45); (case side2 => exact yq46); rintro e w7 ⟨rfl, hi, hb, hk⟩; refine ⟨_, rfl, ?_⟩; replace HK := Qz.mk (KeepBut.trans yq47 hk (.inl rfl)); replace HB := Qz.mk (hb); replace HI0 := Qz.mk (hi); (try clear hb); (try clear hk); (try clear hi)))
    go_ret
    exact ⟨by first | rfl | (simp [qq, qo] <;> rfl) | (simp [*, qq, qo] <;> rfl), by repeat (first | (with_reducible first | exact HI0.out | apply IsS178.alloc | apply IsS178.drewN | apply IsS178.drew | apply IsS178.set_1) | exact HI0.out), by repeat (first | (with_reducible first | exact HB.out | apply qc | apply qa | apply qb | refine qe ?_ (IsS178.ge HI0.out)) | exact HB.out), by repeat (first | (with_reducible first | exact HK.out | apply KeepBut.set_ | apply qk | apply qn | apply ql) | exact HK.out)⟩
  ·rw [if_neg c4] at H
   have c4b0 : decide (a1 ≤ 256) = false := decide_eq_false c4
   clear c4
   replace H := Option.bind_eq_some_iff.mp H
   obtain ⟨⟨t103, t104⟩, A80, H⟩ := H
   replace H : ((spec_l1Rd_next.f s0_0 t104).bind fun bt105 => (if a1 = 0 then (none) else (some (Int.tmod (wrap64 ((wrap64 (t103 * 256)) + bt105.1)) a1, bt105.2)))) = some (r1, r2) := H
   have A8 := Qz.mk A80
   clear A80
   replace H := Option.bind_eq_some_iff.mp H
   obtain ⟨⟨t105, t106⟩, A90, H⟩ := H
   replace H : (if a1 = 0 then (none) else (some (Int.tmod (wrap64 ((wrap64 (t103 * 256)) + t105)) a1, t106))) = some (r1, r2) := H
   have A9 := Qz.mk A90
   clear A90
   by_cases c10 : a1 = 0
   ·rw [if_pos c10] at H
    exact absurd H (by simp)
   ·rw [if_neg c10] at H
    have c10b0 : (a1 == 0) = false := beq_eq_false_iff_ne.mpr c10
    have c10b1 : (a1 != 0) = true := bne_iff_ne.mpr c10
    simp only [Option.some.injEq, Prod.mk.injEq] at H
    obtain ⟨rfl, rfl⟩ := H
    go_enter Try.func119, Try.ntmps119
    go_wp2_with (first | ((with_reducible refine qr (f := 171) rfl ?_); refine qe1 (some 15) rfl rfl Try.func171 (by kernel_rfl) rfl #[.pointer (some ⟨g, 0, none⟩)] rfl (by (try simp only [List.map_toArray, List.map_cons, List.map_nil]); first | done | rfl) ?_; (with_reducible refine (spec_l1Rd_next.calls g s0_0 s0_1 t103 t104 w0 _ ?side1 ?side2 A8.out).mono ?_); (case side1 => exact yq45); (case side2 => exact yq46); rintro e w11 ⟨rfl, hi, hb, hk⟩; refine ⟨_, rfl, ?_⟩; replace HK := Qz.mk (KeepBut.trans yq47 hk (.inl rfl)); replace HB := Qz.mk (hb); replace HI0 := Qz.mk (hi); (try clear hb); (try clear hk); (try clear hi)) | ((with_reducible refine qr (f := 171) rfl ?_); refine qe1 (some 19) rfl rfl Try.func171 (by kernel_rfl) rfl #[.pointer (some ⟨g, 0, none⟩)] rfl (by (try simp only [List.map_toArray, List.map_cons, List.map_nil]); first | done | rfl) ?_; (with_reducible refine (spec_l1Rd_next.calls g s0_0 t104 t105 t106 w0 _ ?side1 ?side2 A9.out).mono ?_); (case side1 => exact yq45); (case side2 => exact yq46); rintro e w12 ⟨rfl, hi, hb, hk⟩; refine ⟨_, rfl, ?_⟩; replace HK := Qz.mk (KeepBut.trans yq47 hk (.inl rfl)); replace HB := Qz.mk (hb); replace HI0 := Qz.mk (hi); (try clear hb); (try clear hk); (try clear hi)))
    go_ret
    exact ⟨by first | rfl | (simp [qq, qo] <;> rfl) | (simp [*, qq, qo] <;> rfl), by repeat (first | (with_reducible first | exact HI0.out | apply IsS178.alloc | apply IsS178.drewN | apply IsS178.drew | apply IsS178.set_1) | exact HI0.out), by repeat (first | (with_reducible first | exact HB.out | apply qc | apply qa | apply qb | refine qe ?_ (IsS178.ge HI0.out)) | exact HB.out), by repeat (first | (with_reducible first | exact HK.out | apply KeepBut.set_ | apply qk | apply qn | apply ql) | exact HK.out)⟩
def spec_l1Rd_once.f (s0_0 : List Int) (s0_1 : Int) (a1 : Int) : Option (Bool × Int) := (spec_l1Rd_below.f s0_0 s0_1 a1).bind fun bt101 => (some ((bt101.1 == (wrap64 (a1 - 1))), bt101.2))
set_option maxHeartbeats 8000000 in
set_option maxRecDepth 100000 in
theorem spec_l1Rd_once.calls (g : Nat) (s0_0 : List Int) (s0_1 : Int) (a1 : Int) (r1 : Bool) (r2 : Int) (w0 w : World) (hI : IsS178 w0 w g s0_0 s0_1) (hB : Below w0.heap.size w0 w) (h : spec_l1Rd_once.f s0_0 s0_1 a1 = some (r1, r2)) :
  Calls Try.prog 156 #[.pointer (some ⟨g, 0, none⟩), .int .i64 a1] w fun e w' => e = .returned (.bool r1) ∧ IsS178 w0 w' g s0_0 r2 ∧ Below w0.heap.size w0 w' ∧ KeepBut w w' g none := by
 have HI0 := Qz.mk hI
 have HK := Qz.mk (KeepBut.refl w g none)
 have HL := Qz.mk hB.size
 clear hI
 have HW0 := Qz.mk hB.size
 have HB := Qz.mk hB
 clear hB
 have H : ((spec_l1Rd_below.f s0_0 s0_1 a1).bind fun bt101 => (some ((bt101.1 == (wrap64 (a1 - 1))), bt101.2))) = some (r1, r2) := h
 clear h
 replace H := Option.bind_eq_some_iff.mp H
 obtain ⟨⟨t101, t102⟩, A30, H⟩ := H
 replace H : (some ((t101 == (wrap64 (a1 - 1))), t102)) = some (r1, r2) := H
 have A3 := Qz.mk A30
 clear A30
 simp only [Option.some.injEq, Prod.mk.injEq] at H
 obtain ⟨rfl, rfl⟩ := H
 go_enter Try.func156, Try.ntmps156
 go_wp2_with (first | ((with_reducible refine qr (f := 119) rfl ?_); refine qe1 (some 7) rfl rfl Try.func119 (by kernel_rfl) rfl #[.pointer (some ⟨g, 0, none⟩), .int .i64 a1] rfl (by (try simp only [List.map_toArray, List.map_cons, List.map_nil]); first | done | rfl) ?_; (with_reducible refine (spec_l1Rd_below.calls g s0_0 s0_1 a1 t101 t102 w0 _ ?side1 ?side2 A3.out).mono ?_); (case side1 => repeat (first | (with_reducible first | exact HI0.out | apply IsS178.alloc | apply IsS178.drewN | apply IsS178.drew | apply IsS178.set_1) | exact HI0.out)); (case side2 => repeat (first | (with_reducible first | exact HB.out | apply qc | apply qa | apply qb | refine qe ?_ (IsS178.ge HI0.out)) | exact HB.out)); rintro e w4 ⟨rfl, hi, hb, hk⟩; refine ⟨_, rfl, ?_⟩; replace HK := Qz.mk (KeepBut.trans (by repeat (first | (with_reducible first | exact HK.out | apply KeepBut.set_ | apply qk | apply qn | apply ql) | exact HK.out)) hk (.inl rfl)); replace HB := Qz.mk (hb); replace HI0 := Qz.mk (hi); (try clear hb); (try clear hk); (try clear hi)))
 go_ret
 exact ⟨by first | rfl | (simp [qq, qo] <;> rfl) | (simp [*, qq, qo] <;> rfl), by repeat (first | (with_reducible first | exact HI0.out | apply IsS178.alloc | apply IsS178.drewN | apply IsS178.drew | apply IsS178.set_1) | exact HI0.out), by repeat (first | (with_reducible first | exact HB.out | apply qc | apply qa | apply qb | refine qe ?_ (IsS178.ge HI0.out)) | exact HB.out), by repeat (first | (with_reducible first | exact HK.out | apply KeepBut.set_ | apply qk | apply qn | apply ql) | exact HK.out)⟩
theorem yq48 {P : Prop} (h : P := by repeat (first | (with_reducible first | exact HK.out | apply KeepBut.set_ | apply qk | apply qn | apply ql) | exact HK.out)) : P := h
def spec_l1Rd_value.f (s0_0 : List Int) (s0_1 : Int) : Option (ByteArray × Int) := (some (([(⟨#[]⟩ : ByteArray), (⟨#[49]⟩ : ByteArray), (⟨#[50]⟩ : ByteArray), (⟨#[118, 97, 108, 117, 101]⟩ : ByteArray), (⟨#[118, 118]⟩ : ByteArray)] : List ByteArray) : List ByteArray)).bind fun y101 => ((spec_l1Rd_below.f s0_0 s0_1 5).bind fun bt104 => (if 0 ≤ bt104.1 then (if bt104.1 < (y101.length : Int) then (some (rdOf ByteArray.empty y101 bt104.1, bt104.2)) else (none)) else (none)))
set_option maxHeartbeats 8000000 in
set_option maxRecDepth 100000 in
theorem spec_l1Rd_value.calls (g : Nat) (s0_0 : List Int) (s0_1 : Int) (r1 : ByteArray) (r2 : Int) (w0 w : World) (hI : IsS178 w0 w g s0_0 s0_1) (hB : Below w0.heap.size w0 w) (h : spec_l1Rd_value.f s0_0 s0_1 = some (r1, r2)) :
  Calls Try.prog 187 #[.pointer (some ⟨g, 0, none⟩)] w fun e w' => e = .returned (.string r1) ∧ IsS178 w0 w' g s0_0 r2 ∧ Below w0.heap.size w0 w' ∧ KeepBut w w' g none := by
 have HI0 := Qz.mk hI
 have HK := Qz.mk (KeepBut.refl w g none)
 have HL := Qz.mk hB.size
 clear hI
 have HW0 := Qz.mk hB.size
 have HB := Qz.mk hB
 clear hB
 have H : ((some (([(⟨#[]⟩ : ByteArray), (⟨#[49]⟩ : ByteArray), (⟨#[50]⟩ : ByteArray), (⟨#[118, 97, 108, 117, 101]⟩ : ByteArray), (⟨#[118, 118]⟩ : ByteArray)] : List ByteArray) : List ByteArray)).bind fun y101 => ((spec_l1Rd_below.f s0_0 s0_1 5).bind fun bt104 => (if 0 ≤ bt104.1 then (if bt104.1 < (y101.length : Int) then (some (rdOf ByteArray.empty y101 bt104.1, bt104.2)) else (none)) else (none)))) = some (r1, r2) := h
 clear h
 obtain ⟨y101, hy101⟩ : ∃ y_ : List ByteArray, y_ = (([(⟨#[]⟩ : ByteArray), (⟨#[49]⟩ : ByteArray), (⟨#[50]⟩ : ByteArray), (⟨#[118, 97, 108, 117, 101]⟩ : ByteArray), (⟨#[118, 118]⟩ : ByteArray)] : List ByteArray)) := ⟨_, rfl⟩
 replace H : ((spec_l1Rd_below.f s0_0 s0_1 5).bind fun bt104 => (if 0 ≤ bt104.1 then (if bt104.1 < (y101.length : Int) then (some (rdOf ByteArray.empty y101 bt104.1, bt104.2)) else (none)) else (none))) = some (r1, r2) := by first | (rw [hy101]; with_reducible exact H) | (have H2_ := (Option.bind_some _ _).symm.trans H; rw [hy101]; with_reducible exact H2_) | (have H2_ := (Option.bind_some _ _).symm.trans H; with_reducible exact H2_) | with_reducible exact H | (rw [hy101]; exact H) | exact H
 have Ny101 := Qz.mk hy101
 clear hy101
 replace H := Option.bind_eq_some_iff.mp H
 obtain ⟨⟨t104, t105⟩, A20, H⟩ := H
 replace H : (if 0 ≤ t104 then (if t104 < (y101.length : Int) then (some (rdOf ByteArray.empty y101 t104, t105)) else (none)) else (none)) = some (r1, r2) := H
 have A2 := Qz.mk A20
 clear A20
 by_cases c3 : 0 ≤ t104
 ·rw [if_pos c3] at H
  have c3b0 : decide (0 ≤ t104) = true := decide_eq_true c3
  clear c3
  by_cases c4 : t104 < (y101.length : Int)
  ·rw [if_pos c4] at H
   have c4b0 : decide (t104 < (y101.length : Int)) = true := decide_eq_true c4
   clear c4
   simp only [Option.some.injEq, Prod.mk.injEq] at H
   obtain ⟨rfl, rfl⟩ := H
   go_enter Try.func187, Try.ntmps187
   go_wp2_with (first | ((with_reducible refine qz (N := 3) rfl ?_); refine Kd.R_lit Kd.string _ 9 ?hg (N := 3) ?hd (xs := ([(⟨#[]⟩ : ByteArray), (⟨#[49]⟩ : ByteArray), (⟨#[50]⟩ : ByteArray), (⟨#[118, 97, 108, 117, 101]⟩ : ByteArray), (⟨#[118, 118]⟩ : ByteArray)] : List ByteArray)) (inner := [.string (⟨#[]⟩ : ByteArray), .string (⟨#[49]⟩ : ByteArray), .string (⟨#[50]⟩ : ByteArray), .string (⟨#[118, 97, 108, 117, 101]⟩ : ByteArray), .string (⟨#[118, 118]⟩ : ByteArray)]) (ok := fun _ => True) (okp := fun _ => True) ?hr ?hp (fun _ hk => hk) trivial (Below.refl _ _) (Nat.le_refl _) (by simp) ?_; (case hd => rfl); (case hg => rfl); (case hr => first | (go_simp; done) | (go_simp; rfl)); (case hp => exact (Reps.one (show Kd.M Kd.string _ _ _ (⟨#[]⟩ : ByteArray) [.string (⟨#[]⟩ : ByteArray)] from rfl) (Reps.one (show Kd.M Kd.string _ _ _ (⟨#[49]⟩ : ByteArray) [.string (⟨#[49]⟩ : ByteArray)] from rfl) (Reps.one (show Kd.M Kd.string _ _ _ (⟨#[50]⟩ : ByteArray) [.string (⟨#[50]⟩ : ByteArray)] from rfl) (Reps.one (show Kd.M Kd.string _ _ _ (⟨#[118, 97, 108, 117, 101]⟩ : ByteArray) [.string (⟨#[118, 97, 108, 117, 101]⟩ : ByteArray)] from rfl) (Reps.one (show Kd.M Kd.string _ _ _ (⟨#[118, 118]⟩ : ByteArray) [.string (⟨#[118, 118]⟩ : ByteArray)] from rfl) (Reps.none _ _))))))); intro v102 w5 ho6 hb hg_ hnew_; clear hg_ hnew_; (first | rw [← Ny101.out] at ho6 | (simp only [Int.reduceToNat] at ho6; rw [← Ny101.out] at ho6)); have HO103 := Qz.mk (Kd.R_lower ho6 (qg1 (w := w) (g := g) (row := none) yq48)); replace HK := Qz.mk (KeepBut.trans yq48 (KeepBut.of_below hb g none) (.inl rfl)); replace HB := Qz.mk (qm (by repeat (first | (with_reducible first | exact HB.out | apply qc | apply qa | apply qb | refine qe ?_ (IsS178.ge HI0.out)) | exact HB.out)) hb); replace HI0 := Qz.mk (IsS178.below (by repeat (first | (with_reducible first | exact HI0.out | apply IsS178.alloc | apply IsS178.drewN | apply IsS178.drew | apply IsS178.set_1) | exact HI0.out)) hb); clear hb ho6) | ((with_reducible refine qr (f := 119) rfl ?_); refine qe1 (some 5) rfl rfl Try.func119 (by kernel_rfl) rfl #[.pointer (some ⟨g, 0, none⟩), .int .i64 5] rfl (by (try simp only [List.map_toArray, List.map_cons, List.map_nil]); first | done | rfl) ?_; (with_reducible refine (spec_l1Rd_below.calls g s0_0 s0_1 5 t104 t105 w0 _ ?side1 ?side2 A2.out).mono ?_); (case side1 => repeat (first | (with_reducible first | exact HI0.out | apply IsS178.alloc | apply IsS178.drewN | apply IsS178.drew | apply IsS178.set_1) | exact HI0.out)); (case side2 => repeat (first | (with_reducible first | exact HB.out | apply qc | apply qa | apply qb | refine qe ?_ (IsS178.ge HI0.out)) | exact HB.out)); rintro e w7 ⟨rfl, hi, hb, hk⟩; refine ⟨_, rfl, ?_⟩; replace HO103 := Qz.mk (Kd.R_mono (Kd.R_keep (IsS178.apart (show IsS178 w0 _ g s0_0 s0_1 from by repeat (first | (with_reducible first | exact HI0.out | apply IsS178.alloc | apply IsS178.drewN | apply IsS178.drew | apply IsS178.set_1) | exact HI0.out)) (by (with_reducible repeat (first | apply Kd.R_alloc | apply Kd.R_drewN | apply Kd.R_drew)); exact HO103.out) (by decide)) hk (fun _ h => h.2)) (fun _ h => h.1)); replace HK := Qz.mk (KeepBut.trans yq48 hk (.inl rfl)); replace HB := Qz.mk (hb); replace HI0 := Qz.mk (hi); (try clear hb); (try clear hk); (try clear hi); obtain ⟨Ao8, co8, eo8⟩ := Kd.R_slice HO103.out; subst eo8; have p106 : 0 ≤ (t104 : Int) := of_decide_eq_true (by first | (with_reducible assumption) | assumption); have q106 : t104 < (y101.length : Int) := of_decide_eq_true (by first | (with_reducible assumption) | assumption); obtain ⟨ad106, e106, hx106_0⟩ := Kd.at_string (Kd.R_reads' HO103.out).2.2 t104 p106 q106; cases e106; replace p106 := eq_true p106; replace q106 := eq_true q106))
   go_ret
   exact ⟨by first | rfl | (simp [qq, qo] <;> rfl) | (simp [*, qq, qo] <;> rfl), by repeat (first | (with_reducible first | exact HI0.out | apply IsS178.alloc | apply IsS178.drewN | apply IsS178.drew | apply IsS178.set_1) | exact HI0.out), by repeat (first | (with_reducible first | exact HB.out | apply qc | apply qa | apply qb | refine qe ?_ (IsS178.ge HI0.out)) | exact HB.out), by repeat (first | (with_reducible first | exact HK.out | apply KeepBut.set_ | apply qk | apply qn | apply ql) | exact HK.out)⟩
  ·rw [if_neg c4] at H
   exact absurd H (by simp)
 ·rw [if_neg c3] at H
  exact absurd H (by simp)
theorem yq49 {P : Prop} (h : P := by repeat (first | (with_reducible first | exact HK.out | apply KeepBut.set_ | apply qk | apply qn | apply ql) | exact HK.out)) : P := h
theorem yq50 {P : Prop} (h : P := by repeat (first | (with_reducible first | exact HI0.out | apply IsS178.alloc | apply IsS178.drewN | apply IsS178.drew | apply IsS178.set_1) | exact HI0.out)) : P := h
theorem yq51 {P : Prop} (h : P := by repeat (first | (with_reducible first | exact HB.out | apply qc | apply qa | apply qb | refine qe ?_ (IsS178.ge HI0.out)) | exact HB.out)) : P := h
def spec_l1Rd_bytes.l0 : Nat → List Int → Int → List Int → Int → Option (ByteArray × Int)
 | 0, _, _, _, _ => none
 | k + 1, x5, x6, x1000, x1001 => if x6 > 0 then ((spec_l1Rd_below.f x1000 x1001 256).bind fun bt106 => (if x5.length < 140737488355328 then (spec_l1Rd_bytes.l0 k (x5 ++ [(bt106.1) % 256]) (wrap64 (x6 - 1)) x1000 bt106.2) else (none))) else (some (strOfNums x5, x1001))
def spec_l1Rd_bytes.f (k : Nat) (s0_0 : List Int) (s0_1 : Int) (a1 : Int) : Option (ByteArray × Int) := (spec_l1Rd_below.f s0_0 s0_1 (wrap64 (a1 + 1))).bind fun bt104 => (spec_l1Rd_bytes.l0 k (([] : List Int)) bt104.1 s0_0 bt104.2)
set_option maxHeartbeats 8000000 in
set_option maxRecDepth 100000 in
theorem spec_l1Rd_bytes.calls (k : Nat) (g : Nat) (s0_0 : List Int) (s0_1 : Int) (a1 : Int) (r1 : ByteArray) (r2 : Int) (w0 w : World) (hI : IsS178 w0 w g s0_0 s0_1) (hB : Below w0.heap.size w0 w) (h : spec_l1Rd_bytes.f k s0_0 s0_1 a1 = some (r1, r2)) :
  Calls Try.prog 120 #[.pointer (some ⟨g, 0, none⟩), .int .i64 a1] w fun e w' => e = .returned (.string r1) ∧ IsS178 w0 w' g s0_0 r2 ∧ Below w0.heap.size w0 w' ∧ KeepBut w w' g none := by
 have HI0 := Qz.mk hI
 have HK := Qz.mk (KeepBut.refl w g none)
 have HL := Qz.mk hB.size
 clear hI
 have HW0 := Qz.mk hB.size
 have HB := Qz.mk hB
 clear hB
 have H : ((spec_l1Rd_below.f s0_0 s0_1 (wrap64 (a1 + 1))).bind fun bt104 => (spec_l1Rd_bytes.l0 k (([] : List Int)) bt104.1 s0_0 bt104.2)) = some (r1, r2) := h
 clear h
 obtain ⟨y101, hy101⟩ : ∃ y_ : List Int, y_ = (([] : List Int)) := ⟨_, rfl⟩
 replace H : ((spec_l1Rd_below.f s0_0 s0_1 (wrap64 (a1 + 1))).bind fun bt104 => (spec_l1Rd_bytes.l0 k y101 bt104.1 s0_0 bt104.2)) = some (r1, r2) := by first | (rw [hy101]; with_reducible exact H) | (have H2_ := (Option.bind_some _ _).symm.trans H; rw [hy101]; with_reducible exact H2_) | (have H2_ := (Option.bind_some _ _).symm.trans H; with_reducible exact H2_) | with_reducible exact H | (rw [hy101]; exact H) | exact H
 have Ny101 := Qz.mk hy101
 clear hy101
 replace H := Option.bind_eq_some_iff.mp H
 obtain ⟨⟨t104, t105⟩, A30, H⟩ := H
 replace H : (spec_l1Rd_bytes.l0 k y101 t104 s0_0 t105) = some (r1, r2) := H
 have A3 := Qz.mk A30
 clear A30
 have H' := Qz.mk H
 clear H
 go_enter Try.func120, Try.ntmps120
 go_wp2_with (first | ((with_reducible refine qz (N := 7) rfl ?_); refine Kd.R_lit (Kd.int .u8) _ 5 ?hg (N := 7) ?hd (xs := ([] : List Int)) (inner := []) (ok := fun _ => True) (okp := fun _ => True) ?hr ?hp (fun _ hk => hk) trivial (Below.refl _ _) (Nat.le_refl _) (by simp) ?_; (case hd => rfl); (case hg => rfl); (case hr => first | (go_simp; done) | (go_simp; rfl)); (case hp => exact (Reps.none _ _)); intro v102 w4 ho5 hb hg_ hnew_; clear hg_ hnew_; (first | rw [← Ny101.out] at ho5 | (simp only [Int.reduceToNat] at ho5; rw [← Ny101.out] at ho5)); have HO103 := Qz.mk (Kd.R_lower ho5 (qg1 (w := w) (g := g) (row := none) yq49)); replace HK := Qz.mk (KeepBut.trans yq49 (KeepBut.of_below hb g none) (.inl rfl)); replace HB := Qz.mk (qm yq51 hb); replace HI0 := Qz.mk (IsS178.below yq50 hb); clear hb ho5) | ((with_reducible refine qr (f := 119) rfl ?_); refine qe1 (some 11) rfl rfl Try.func119 (by kernel_rfl) rfl #[.pointer (some ⟨g, 0, none⟩), .int .i64 (wrap64 (a1 + 1))] rfl (by (try simp only [List.map_toArray, List.map_cons, List.map_nil]); first | done | rfl | (simp only [List.length_drop, List.length_take]; rfl) | (rw [IntWalk.u64_in _ (by omega)] <;> rfl)) ?_; (with_reducible refine (spec_l1Rd_below.calls g s0_0 s0_1 (wrap64 (a1 + 1)) t104 t105 w0 _ ?side1 ?side2 A3.out).mono ?_); (case side1 => exact yq50); (case side2 => exact yq51); rintro e w6 ⟨rfl, hi, hb, hk⟩; refine ⟨_, rfl, ?_⟩; replace HO103 := Qz.mk (Kd.R_mono (Kd.R_keep (IsS178.apart (show IsS178 w0 _ g s0_0 s0_1 from by repeat (first | (with_reducible first | exact HI0.out | apply IsS178.alloc | apply IsS178.drewN | apply IsS178.drew | apply IsS178.set_1) | exact HI0.out)) (by (with_reducible repeat (first | apply Kd.R_alloc | apply Kd.R_drewN | apply Kd.R_drew)); exact HO103.out) (by decide)) hk (fun _ h => h.2)) (fun _ h => h.1)); replace HK := Qz.mk (KeepBut.trans yq49 hk (.inl rfl)); replace HB := Qz.mk (hb); replace HI0 := Qz.mk (hi); (try clear hb); (try clear hk); (try clear hi)))
 go_loopg [5, 6] k (fun kq v5 v6 w' => ∃ (x5_1 : List Int) (x6_1 : Int) (x1001_1 : Int), v6 = .int .i64 x6_1 ∧ Qz (spec_l1Rd_bytes.l0 kq x5_1 x6_1 s0_0 x1001_1 = some (r1, r2)) ∧ Qz (kq ≤ k) ∧ Qz (Kd.R (Kd.int .u8) 5 w' w.heap.size (fun _ => True) v5 x5_1) ∧ Qz (IsS178 w0 w' g s0_0 x1001_1) ∧ Qz (KeepBut w w' g none) ∧ Qz (Below w0.heap.size w0 w'))
 case atStart => exact ⟨(y101), (t104), (t105), (by first | rfl | (simp; done) | (simp [*]; done)), H', ⟨Nat.le_refl _⟩, ⟨by (with_reducible repeat (first | apply Kd.R_alloc | apply Kd.R_drewN | apply Kd.R_drew)); exact HO103.out⟩, ⟨by repeat (first | (with_reducible first | exact HI0.out | apply IsS178.alloc | apply IsS178.drewN | apply IsS178.drew | apply IsS178.set_1) | exact HI0.out)⟩, ⟨by repeat (first | (with_reducible first | exact HK.out | apply KeepBut.set_ | apply qk | apply qn | apply ql) | exact HK.out)⟩, ⟨by repeat (first | (with_reducible first | exact HB.out | apply qc | apply qa | apply qb | refine qe ?_ (IsS178.ge HI0.out)) | exact HB.out)⟩⟩
 case round =>
  clear H'
  try clear c1
  try clear p2
  try clear p6
  obtain ⟨x5_1, x6_1, x1001_1, rfl, HA, HK1, HO_5, HI0, HK, HB⟩ := hrel
  cases gk with
  | zero => exact absurd HA.out (by simp [spec_l1Rd_bytes.l0])
  | succ k1 =>
   have H := HA.out
   clear HA
   simp only [spec_l1Rd_bytes.l0] at H
   by_cases c7 : x6_1 > 0
   ·rw [if_pos c7] at H
    have c7b0 : decide (0 < x6_1) = true := decide_eq_true c7
    clear c7
    replace H := Option.bind_eq_some_iff.mp H
    obtain ⟨⟨t106, t107⟩, A80, H⟩ := H
    replace H : (if x5_1.length < 140737488355328 then (spec_l1Rd_bytes.l0 k1 (x5_1 ++ [(t106) % 256]) (wrap64 (x6_1 - 1)) s0_0 t107) else (none)) = some (r1, r2) := H
    have A8 := Qz.mk A80
    clear A80
    by_cases c9 : x5_1.length < 140737488355328
    ·rw [if_pos c9] at H
     have LMc9 := Qz.mk c9
     clear c9
     obtain ⟨y108, hy108⟩ : ∃ y_ : List Int, y_ = (x5_1 ++ [(t106) % 256]) := ⟨_, rfl⟩
     replace H : (spec_l1Rd_bytes.l0 k1 y108 (wrap64 (x6_1 - 1)) s0_0 t107) = some (r1, r2) := by first | (rw [hy108]; with_reducible exact H) | (have H2_ := (Option.bind_some _ _).symm.trans H; rw [hy108]; with_reducible exact H2_) | (have H2_ := (Option.bind_some _ _).symm.trans H; with_reducible exact H2_) | with_reducible exact H | (rw [hy108]; exact H) | exact H
     have Ny108 := Qz.mk hy108
     clear hy108
     have H' := Qz.mk H
     clear H
     go_wp2_with (first | ((with_reducible refine qr (f := 119) rfl ?_); refine qe1 (some 18) rfl rfl Try.func119 (by kernel_rfl) rfl #[.pointer (some ⟨g, 0, none⟩), .int .i64 256] rfl (by (try simp only [List.map_toArray, List.map_cons, List.map_nil]); first | done | rfl) ?_; (with_reducible refine (spec_l1Rd_below.calls g s0_0 x1001_1 256 t106 t107 w0 _ ?side1 ?side2 A8.out).mono ?_); (case side1 => exact yq50); (case side2 => exact yq51); rintro e w10 ⟨rfl, hi, hb, hk⟩; refine ⟨_, rfl, ?_⟩; replace HO_5 := Qz.mk (Kd.R_mono (Kd.R_keep (IsS178.apart (show IsS178 w0 _ g s0_0 x1001_1 from by repeat (first | (with_reducible first | exact HI0.out | apply IsS178.alloc | apply IsS178.drewN | apply IsS178.drew | apply IsS178.set_1) | exact HI0.out)) (by (with_reducible repeat (first | apply Kd.R_alloc | apply Kd.R_drewN | apply Kd.R_drew)); exact HO_5.out) (by decide)) hk (fun _ h => h.2)) (fun _ h => h.1)); replace HK := Qz.mk (KeepBut.trans yq49 hk (.inl rfl)); replace HB := Qz.mk (hb); replace HI0 := Qz.mk (hi); (try clear hb); (try clear hk); (try clear hi)) | ((with_reducible refine gate_builtin (b := .append) (xs := #[.tmp 16, .tmp 20]) rfl ?_); at_builtin; refine Kd.R_append (Kd.int .u8) w.heap.size rfl (.tmp 16) (.tmp 20) 42 5 (.int .u8 0) 1 rfl Try.underlying42 info5 rfl (by decide) (by omega) u5 x5_1 ((t106) % 256) [.int .u8 ((t106) % 256)] (fun _ => True) (fun _ => False) rfl rfl ?aP (fun _ hk => hk.elim) ?aF ?aO (Below.refl _ _) ?aS ?aL ?_; (case aP => exact rfl); (case aF => exact (fun _ _ => trivial)); (case aO => exact (by (with_reducible repeat (first | apply Kd.R_alloc | apply Kd.R_drewN | apply Kd.R_drew)); exact HO_5.out)); (case aS => exact (qg1 (w := w) (g := g) (row := none) yq49)); (case aL => have := LMc9.out; omega); intro v109 w11 ho hb hg hat; rw [← Ny108.out] at ho; have n0_ := Qz.mk (IsS178.grown yq50 hg (IsS178.own_ne HI0.out HO_5.out (by decide))); have n1_ := Qz.mk (below_weaken yq51 HL.out hb); have n2_ := Qz.mk (KeepBut.trans yq49 (KeepBut.of_grown hg g) (Kd.R_base2 HO_5.out)); have n3_ := Qz.mk (ho); clear HI0; clear HB; clear HK; clear HO_5; have HI0 := n0_; have HB := n1_; have HK := n2_; have HO110 := n3_; clear n0_ n1_ n2_ n3_; clear ho hb hg hat))
     go_roundg k1
     case measure => have := HK1.out; omega
     case rel => exact ⟨(y108), (wrap64 (x6_1 - 1)), (t107), (by first | rfl | (simp; done) | (simp [*]; done)), H', ⟨by have := HK1.out; omega⟩, ⟨by (with_reducible repeat (first | apply Kd.R_alloc | apply Kd.R_drewN | apply Kd.R_drew)); exact HO110.out⟩, ⟨by repeat (first | (with_reducible first | exact HI0.out | apply IsS178.alloc | apply IsS178.drewN | apply IsS178.drew | apply IsS178.set_1) | exact HI0.out)⟩, ⟨by repeat (first | (with_reducible first | exact HK.out | apply KeepBut.set_ | apply qk | apply qn | apply ql) | exact HK.out)⟩, ⟨by repeat (first | (with_reducible first | exact HB.out | apply qc | apply qa | apply qb | refine qe ?_ (IsS178.ge HI0.out)) | exact HB.out)⟩⟩
    ·rw [if_neg c9] at H
     exact absurd H (by simp)
   ·rw [if_neg c7] at H
    have c7b0 : decide (0 < x6_1) = false := decide_eq_false c7
    clear c7
    simp only [Option.some.injEq, Prod.mk.injEq] at H
    obtain ⟨rfl, rfl⟩ := H
    have hcv12 := own_string (P := Try.prog) Try.underlying42 Try.underlying5 Try.underlying9 (Kd.own_of_R HO_5.out)
    go_wp2
    go_ret
    exact ⟨by first | rfl | (simp [qq, qo] <;> rfl) | (simp [*, qq, qo] <;> rfl), by repeat (first | (with_reducible first | exact HI0.out | apply IsS178.alloc | apply IsS178.drewN | apply IsS178.drew | apply IsS178.set_1) | exact HI0.out), by repeat (first | (with_reducible first | exact HB.out | apply qc | apply qa | apply qb | refine qe ?_ (IsS178.ge HI0.out)) | exact HB.out), by repeat (first | (with_reducible first | exact HK.out | apply KeepBut.set_ | apply qk | apply qn | apply ql) | exact HK.out)⟩
def spec_l1Rd_word.l0 : Nat → Int → Int → List Int → Int → Option (Int × Int)
 | 0, _, _, _, _ => none
 | k + 1, x3, x4, x1000, x1001 => if x4 < 8 then ((spec_l1Rd_next.f x1000 x1001).bind fun bt101 => (spec_l1Rd_word.l0 k (Go.bits .or .u64 (IntKind.u64.wrap (x3 * 256)) (IntKind.u64.wrap (bt101.1))) (wrap64 (x4 + 1)) x1000 bt101.2)) else (some (x3, x1001))
def spec_l1Rd_word.f (k : Nat) (s0_0 : List Int) (s0_1 : Int) : Option (Int × Int) := spec_l1Rd_word.l0 k 0 0 s0_0 s0_1
set_option maxHeartbeats 8000000 in
set_option maxRecDepth 100000 in
theorem spec_l1Rd_word.calls (k : Nat) (g : Nat) (s0_0 : List Int) (s0_1 : Int) (r1 : Int) (r2 : Int) (w0 w : World) (hI : IsS178 w0 w g s0_0 s0_1) (hB : Below w0.heap.size w0 w) (h : spec_l1Rd_word.f k s0_0 s0_1 = some (r1, r2)) :
  Calls Try.prog 188 #[.pointer (some ⟨g, 0, none⟩)] w fun e w' => e = .returned (.int .u64 r1) ∧ IsS178 w0 w' g s0_0 r2 ∧ Below w0.heap.size w0 w' ∧ KeepBut w w' g none := by
 have HI0 := Qz.mk hI
 have HK := Qz.mk (KeepBut.refl w g none)
 have HL := Qz.mk hB.size
 clear hI
 have HW0 := Qz.mk hB.size
 have HB := Qz.mk hB
 clear hB
 have H : (spec_l1Rd_word.l0 k 0 0 s0_0 s0_1) = some (r1, r2) := h
 clear h
 have H' := Qz.mk H
 clear H
 go_enter Try.func188, Try.ntmps188
 go_wp2
 go_loopg [3, 4] k (fun kq v3 v4 w' => ∃ (x3_1 : Int) (x4_1 : Int) (x1001_1 : Int), v3 = .int .u64 x3_1 ∧ v4 = .int .i64 x4_1 ∧ Qz (spec_l1Rd_word.l0 kq x3_1 x4_1 s0_0 x1001_1 = some (r1, r2)) ∧ Qz (kq ≤ k) ∧ Qz (IsS178 w0 w' g s0_0 x1001_1) ∧ Qz (KeepBut w w' g none) ∧ Qz (Below w0.heap.size w0 w'))
 case atStart => exact ⟨(0), (0), (s0_1), (by first | rfl | (simp; done) | (simp [*]; done)), (by first | rfl | (simp; done) | (simp [*]; done)), H', ⟨Nat.le_refl _⟩, ⟨by repeat (first | (with_reducible first | exact HI0.out | apply IsS178.alloc | apply IsS178.drewN | apply IsS178.drew | apply IsS178.set_1) | exact HI0.out)⟩, ⟨by repeat (first | (with_reducible first | exact HK.out | apply KeepBut.set_ | apply qk | apply qn | apply ql) | exact HK.out)⟩, ⟨by repeat (first | (with_reducible first | exact HB.out | apply qc | apply qa | apply qb | refine qe ?_ (IsS178.ge HI0.out)) | exact HB.out)⟩⟩
 case round =>
  clear H'
  try clear c1
  obtain ⟨x3_1, x4_1, x1001_1, rfl, rfl, HA, HK1, HI0, HK, HB⟩ := hrel
  cases gk with
  | zero => exact absurd HA.out (by simp [spec_l1Rd_word.l0])
  | succ k1 =>
   have H := HA.out
   clear HA
   simp only [spec_l1Rd_word.l0] at H
   by_cases c2 : x4_1 < 8
   ·rw [if_pos c2] at H
    have c2b0 : decide (x4_1 < 8) = true := decide_eq_true c2
    clear c2
    replace H := Option.bind_eq_some_iff.mp H
    obtain ⟨⟨t101, t102⟩, A30, H⟩ := H
    replace H : (spec_l1Rd_word.l0 k1 (Go.bits .or .u64 (IntKind.u64.wrap (x3_1 * 256)) (IntKind.u64.wrap (t101))) (wrap64 (x4_1 + 1)) s0_0 t102) = some (r1, r2) := H
    have A3 := Qz.mk A30
    clear A30
    have H' := Qz.mk H
    clear H
    go_wp2_with (first | ((with_reducible refine qr (f := 171) rfl ?_); refine qe1 (some 12) rfl rfl Try.func171 (by kernel_rfl) rfl #[.pointer (some ⟨g, 0, none⟩)] rfl (by (try simp only [List.map_toArray, List.map_cons, List.map_nil]); first | done | rfl) ?_; (with_reducible refine (spec_l1Rd_next.calls g s0_0 x1001_1 t101 t102 w0 _ ?side1 ?side2 A3.out).mono ?_); (case side1 => repeat (first | (with_reducible first | exact HI0.out | apply IsS178.alloc | apply IsS178.drewN | apply IsS178.drew | apply IsS178.set_1) | exact HI0.out)); (case side2 => repeat (first | (with_reducible first | exact HB.out | apply qc | apply qa | apply qb | refine qe ?_ (IsS178.ge HI0.out)) | exact HB.out)); rintro e w4 ⟨rfl, hi, hb, hk⟩; refine ⟨_, rfl, ?_⟩; replace HK := Qz.mk (KeepBut.trans (by repeat (first | (with_reducible first | exact HK.out | apply KeepBut.set_ | apply qk | apply qn | apply ql) | exact HK.out)) hk (.inl rfl)); replace HB := Qz.mk (hb); replace HI0 := Qz.mk (hi); (try clear hb); (try clear hk); (try clear hi)))
    go_roundg k1
    case measure => have := HK1.out; omega
    case rel => exact ⟨(Go.bits .or .u64 (IntKind.u64.wrap (x3_1 * 256)) (IntKind.u64.wrap (t101))), (wrap64 (x4_1 + 1)), (t102), (by first | rfl | (simp; done) | (simp [*]; done)), (by first | rfl | (simp; done) | (simp [*]; done)), H', ⟨by have := HK1.out; omega⟩, ⟨by repeat (first | (with_reducible first | exact HI0.out | apply IsS178.alloc | apply IsS178.drewN | apply IsS178.drew | apply IsS178.set_1) | exact HI0.out)⟩, ⟨by repeat (first | (with_reducible first | exact HK.out | apply KeepBut.set_ | apply qk | apply qn | apply ql) | exact HK.out)⟩, ⟨by repeat (first | (with_reducible first | exact HB.out | apply qc | apply qa | apply qb | refine qe ?_ (IsS178.ge HI0.out)) | exact HB.out)⟩⟩
   ·rw [if_neg c2] at H
    have c2b0 : decide (x4_1 < 8) = false := decide_eq_false c2
    clear c2
    simp only [Option.some.injEq, Prod.mk.injEq] at H
    obtain ⟨rfl, rfl⟩ := H
    go_wp2
    go_ret
    exact ⟨by first | rfl | (simp [qq, qo] <;> rfl) | (simp [*, qq, qo] <;> rfl), by repeat (first | (with_reducible first | exact HI0.out | apply IsS178.alloc | apply IsS178.drewN | apply IsS178.drew | apply IsS178.set_1) | exact HI0.out), by repeat (first | (with_reducible first | exact HB.out | apply qc | apply qa | apply qb | refine qe ?_ (IsS178.ge HI0.out)) | exact HB.out), by repeat (first | (with_reducible first | exact HK.out | apply KeepBut.set_ | apply qk | apply qn | apply ql) | exact HK.out)⟩
theorem yq52 {P : Prop} (h : P := by repeat (first | (with_reducible first | exact HI0.out | apply IsS178.alloc | apply IsS178.drewN | apply IsS178.drew | apply IsS178.set_1) | exact HI0.out)) : P := h
theorem yq53 {P : Prop} (h : P := by repeat (first | (with_reducible first | exact HB.out | apply qc | apply qa | apply qb | refine qe ?_ (IsS178.ge HI0.out)) | exact HB.out)) : P := h
theorem yq54 {P : Prop} (h : P := by repeat (first | (with_reducible first | exact HK.out | apply KeepBut.set_ | apply qk | apply qn | apply ql) | exact HK.out)) : P := h
theorem yq55 {P : Prop} (h : P := by (try simp only [List.map_toArray, List.map_cons, List.map_nil]); first | done | rfl) : P := h
def spec_l1Rd_near.f (k : Nat) (s0_0 : List Int) (s0_1 : Int) (a1 : Int) (a2 : Int) : Option (Int × Int) := (spec_l1Rd_below.f s0_0 s0_1 8).bind fun bt101 => (if bt101.1 = 0 then (some (a1, bt101.2)) else (if bt101.1 = 1 then (some (a2, bt101.2)) else (if a2 < a1 then (some (a1, bt101.2)) else ((spec_l1Rd_word.f k s0_0 bt101.2).bind fun bt103 => (if (IntKind.u64.wrap (wrap64 ((wrap64 (a2 - a1)) + 1))) = 0 then (none) else (some (wrap64 (a1 + (wrap64 (Int.tmod (bt103.1 / 2) (IntKind.u64.wrap (wrap64 ((wrap64 (a2 - a1)) + 1)))))), bt103.2)))))))
set_option maxHeartbeats 8000000 in
set_option maxRecDepth 100000 in
theorem spec_l1Rd_near.calls (k : Nat) (g : Nat) (s0_0 : List Int) (s0_1 : Int) (a1 : Int) (a2 : Int) (r1 : Int) (r2 : Int) (w0 w : World) (hI : IsS178 w0 w g s0_0 s0_1) (hB : Below w0.heap.size w0 w) (h : spec_l1Rd_near.f k s0_0 s0_1 a1 a2 = some (r1, r2)) :
  Calls Try.prog 157 #[.pointer (some ⟨g, 0, none⟩), .int .i64 a1, .int .i64 a2] w fun e w' => e = .returned (.int .i64 r1) ∧ IsS178 w0 w' g s0_0 r2 ∧ Below w0.heap.size w0 w' ∧ KeepBut w w' g none := by
 have HI0 := Qz.mk hI
 have HK := Qz.mk (KeepBut.refl w g none)
 have HL := Qz.mk hB.size
 clear hI
 have HW0 := Qz.mk hB.size
 have HB := Qz.mk hB
 clear hB
 have H : ((spec_l1Rd_below.f s0_0 s0_1 8).bind fun bt101 => (if bt101.1 = 0 then (some (a1, bt101.2)) else (if bt101.1 = 1 then (some (a2, bt101.2)) else (if a2 < a1 then (some (a1, bt101.2)) else ((spec_l1Rd_word.f k s0_0 bt101.2).bind fun bt103 => (if (IntKind.u64.wrap (wrap64 ((wrap64 (a2 - a1)) + 1))) = 0 then (none) else (some (wrap64 (a1 + (wrap64 (Int.tmod (bt103.1 / 2) (IntKind.u64.wrap (wrap64 ((wrap64 (a2 - a1)) + 1)))))), bt103.2)))))))) = some (r1, r2) := h
 clear h
 replace H := Option.bind_eq_some_iff.mp H
 obtain ⟨⟨t101, t102⟩, A40, H⟩ := H
 replace H : (if t101 = 0 then (some (a1, t102)) else (if t101 = 1 then (some (a2, t102)) else (if a2 < a1 then (some (a1, t102)) else ((spec_l1Rd_word.f k s0_0 t102).bind fun bt103 => (if (IntKind.u64.wrap (wrap64 ((wrap64 (a2 - a1)) + 1))) = 0 then (none) else (some (wrap64 (a1 + (wrap64 (Int.tmod (bt103.1 / 2) (IntKind.u64.wrap (wrap64 ((wrap64 (a2 - a1)) + 1)))))), bt103.2))))))) = some (r1, r2) := H
 have A4 := Qz.mk A40
 clear A40
 by_cases c5 : t101 = 0
 ·rw [if_pos c5] at H
  have c5b0 : (t101 == 0) = true := beq_iff_eq.mpr c5
  have c5b1 : (t101 != 0) = false := bne_eq_false_iff_eq.mpr c5
  clear c5
  simp only [Option.some.injEq, Prod.mk.injEq] at H
  obtain ⟨rfl, rfl⟩ := H
  go_enter Try.func157, Try.ntmps157
  go_wp2_with (first | ((with_reducible refine qr (f := 119) rfl ?_); refine qe1 (some 8) rfl rfl Try.func119 (by kernel_rfl) rfl #[.pointer (some ⟨g, 0, none⟩), .int .i64 8] rfl yq55 ?_; (with_reducible refine (spec_l1Rd_below.calls g s0_0 s0_1 8 t101 t102 w0 _ ?side1 ?side2 A4.out).mono ?_); (case side1 => exact yq52); (case side2 => exact yq53); rintro e w6 ⟨rfl, hi, hb, hk⟩; refine ⟨_, rfl, ?_⟩; replace HK := Qz.mk (KeepBut.trans yq54 hk (.inl rfl)); replace HB := Qz.mk (hb); replace HI0 := Qz.mk (hi); (try clear hb); (try clear hk); (try clear hi)))
  go_ret
  exact ⟨by first | rfl | (simp [qq, qo] <;> rfl) | (simp [*, qq, qo] <;> rfl), by repeat (first | (with_reducible first | exact HI0.out | apply IsS178.alloc | apply IsS178.drewN | apply IsS178.drew | apply IsS178.set_1) | exact HI0.out), by repeat (first | (with_reducible first | exact HB.out | apply qc | apply qa | apply qb | refine qe ?_ (IsS178.ge HI0.out)) | exact HB.out), by repeat (first | (with_reducible first | exact HK.out | apply KeepBut.set_ | apply qk | apply qn | apply ql) | exact HK.out)⟩
 ·rw [if_neg c5] at H
  have c5b0 : (t101 == 0) = false := beq_eq_false_iff_ne.mpr c5
  have c5b1 : (t101 != 0) = true := bne_iff_ne.mpr c5
  by_cases c7 : t101 = 1
  ·rw [if_pos c7] at H
   have c7b0 : (t101 == 1) = true := beq_iff_eq.mpr c7
   have c7b1 : (t101 != 1) = false := bne_eq_false_iff_eq.mpr c7
   clear c7
   simp only [Option.some.injEq, Prod.mk.injEq] at H
   obtain ⟨rfl, rfl⟩ := H
   go_enter Try.func157, Try.ntmps157
   go_wp2_with (first | ((with_reducible refine qr (f := 119) rfl ?_); refine qe1 (some 8) rfl rfl Try.func119 (by kernel_rfl) rfl #[.pointer (some ⟨g, 0, none⟩), .int .i64 8] rfl yq55 ?_; (with_reducible refine (spec_l1Rd_below.calls g s0_0 s0_1 8 t101 t102 w0 _ ?side1 ?side2 A4.out).mono ?_); (case side1 => exact yq52); (case side2 => exact yq53); rintro e w8 ⟨rfl, hi, hb, hk⟩; refine ⟨_, rfl, ?_⟩; replace HK := Qz.mk (KeepBut.trans yq54 hk (.inl rfl)); replace HB := Qz.mk (hb); replace HI0 := Qz.mk (hi); (try clear hb); (try clear hk); (try clear hi)))
   go_ret
   exact ⟨by first | rfl | (simp [qq, qo] <;> rfl) | (simp [*, qq, qo] <;> rfl), by repeat (first | (with_reducible first | exact HI0.out | apply IsS178.alloc | apply IsS178.drewN | apply IsS178.drew | apply IsS178.set_1) | exact HI0.out), by repeat (first | (with_reducible first | exact HB.out | apply qc | apply qa | apply qb | refine qe ?_ (IsS178.ge HI0.out)) | exact HB.out), by repeat (first | (with_reducible first | exact HK.out | apply KeepBut.set_ | apply qk | apply qn | apply ql) | exact HK.out)⟩
  ·rw [if_neg c7] at H
   have c7b0 : (t101 == 1) = false := beq_eq_false_iff_ne.mpr c7
   have c7b1 : (t101 != 1) = true := bne_iff_ne.mpr c7
   by_cases c9 : a2 < a1
   ·rw [if_pos c9] at H
    have c9b0 : decide (a2 < a1) = true := decide_eq_true c9
    clear c9
    simp only [Option.some.injEq, Prod.mk.injEq] at H
    obtain ⟨rfl, rfl⟩ := H
    go_enter Try.func157, Try.ntmps157
    go_wp2_with (first | ((with_reducible refine qr (f := 119) rfl ?_); refine qe1 (some 8) rfl rfl Try.func119 (by kernel_rfl) rfl #[.pointer (some ⟨g, 0, none⟩), .int .i64 8] rfl yq55 ?_; (with_reducible refine (spec_l1Rd_below.calls g s0_0 s0_1 8 t101 t102 w0 _ ?side1 ?side2 A4.out).mono ?_); (case side1 => exact yq52); (case side2 => exact yq53); rintro e w10 ⟨rfl, hi, hb, hk⟩; refine ⟨_, rfl, ?_⟩; replace HK := Qz.mk (KeepBut.trans yq54 hk (.inl rfl)); replace HB := Qz.mk (hb); replace HI0 := Qz.mk (hi); (try clear hb); (try clear hk); (try clear hi)))
    go_ret
    exact ⟨by first | rfl | (simp [qq, qo] <;> rfl) | (simp [*, qq, qo] <;> rfl), by repeat (first | (with_reducible first | exact HI0.out | apply IsS178.alloc | apply IsS178.drewN | apply IsS178.drew | apply IsS178.set_1) | exact HI0.out), by repeat (first | (with_reducible first | exact HB.out | apply qc | apply qa | apply qb | refine qe ?_ (IsS178.ge HI0.out)) | exact HB.out), by repeat (first | (with_reducible first | exact HK.out | apply KeepBut.set_ | apply qk | apply qn | apply ql) | exact HK.out)⟩
   ·rw [if_neg c9] at H
    have c9b0 : decide (a2 < a1) = false := decide_eq_false c9
    clear c9
    replace H := Option.bind_eq_some_iff.mp H
    obtain ⟨⟨t103, t104⟩, A110, H⟩ := H
    replace H : (if (IntKind.u64.wrap (wrap64 ((wrap64 (a2 - a1)) + 1))) = 0 then (none) else (some (wrap64 (a1 + (wrap64 (Int.tmod (t103 / 2) (IntKind.u64.wrap (wrap64 ((wrap64 (a2 - a1)) + 1)))))), t104))) = some (r1, r2) := H
    have A11 := Qz.mk A110
    clear A110
    by_cases c12 : (IntKind.u64.wrap (wrap64 ((wrap64 (a2 - a1)) + 1))) = 0
    ·rw [if_pos c12] at H
     exact absurd H (by simp)
    ·rw [if_neg c12] at H
     have c12b0 : ((IntKind.u64.wrap (wrap64 ((wrap64 (a2 - a1)) + 1))) == 0) = false := beq_eq_false_iff_ne.mpr c12
     have c12b1 : ((IntKind.u64.wrap (wrap64 ((wrap64 (a2 - a1)) + 1))) != 0) = true := bne_iff_ne.mpr c12
     simp only [Option.some.injEq, Prod.mk.injEq] at H
     obtain ⟨rfl, rfl⟩ := H
     go_enter Try.func157, Try.ntmps157
     go_wp2_with (first | ((with_reducible refine qr (f := 119) rfl ?_); refine qe1 (some 8) rfl rfl Try.func119 (by kernel_rfl) rfl #[.pointer (some ⟨g, 0, none⟩), .int .i64 8] rfl yq55 ?_; (with_reducible refine (spec_l1Rd_below.calls g s0_0 s0_1 8 t101 t102 w0 _ ?side1 ?side2 A4.out).mono ?_); (case side1 => exact yq52); (case side2 => exact yq53); rintro e w13 ⟨rfl, hi, hb, hk⟩; refine ⟨_, rfl, ?_⟩; replace HK := Qz.mk (KeepBut.trans yq54 hk (.inl rfl)); replace HB := Qz.mk (hb); replace HI0 := Qz.mk (hi); (try clear hb); (try clear hk); (try clear hi)) | ((with_reducible refine qr (f := 188) rfl ?_); refine qe1 (some 21) rfl rfl Try.func188 (by kernel_rfl) rfl #[.pointer (some ⟨g, 0, none⟩)] rfl yq55 ?_; (with_reducible refine (spec_l1Rd_word.calls k g s0_0 t102 t103 t104 w0 _ ?side1 ?side2 A11.out).mono ?_); (case side1 => exact yq52); (case side2 => exact yq53); rintro e w14 ⟨rfl, hi, hb, hk⟩; refine ⟨_, rfl, ?_⟩; replace HK := Qz.mk (KeepBut.trans yq54 hk (.inl rfl)); replace HB := Qz.mk (hb); replace HI0 := Qz.mk (hi); (try clear hb); (try clear hk); (try clear hi)))
     go_ret
     exact ⟨by first | rfl | (simp [qq, qo] <;> rfl) | (simp [*, qq, qo] <;> rfl), by repeat (first | (with_reducible first | exact HI0.out | apply IsS178.alloc | apply IsS178.drewN | apply IsS178.drew | apply IsS178.set_1) | exact HI0.out), by repeat (first | (with_reducible first | exact HB.out | apply qc | apply qa | apply qb | refine qe ?_ (IsS178.ge HI0.out)) | exact HB.out), by repeat (first | (with_reducible first | exact HK.out | apply KeepBut.set_ | apply qk | apply qn | apply ql) | exact HK.out)⟩
theorem yq56 {P : Prop} (h : P := by repeat (first | (with_reducible first | exact HK.out | apply KeepBut.set_ | apply qk | apply qn | apply ql) | exact HK.out)) : P := h
def spec_l1Rd_user.f (s0_0 : List Int) (s0_1 : Int) : Option (ByteArray × Int) := (some (([(⟨#[97]⟩ : ByteArray), (⟨#[98]⟩ : ByteArray), (⟨#[97, 98]⟩ : ByteArray), (⟨#[97, 98, 99]⟩ : ByteArray), (⟨#[97, 98, 100]⟩ : ByteArray), (⟨#[107, 101, 121]⟩ : ByteArray), (⟨#[107, 101, 121, 49]⟩ : ByteArray), (⟨#[107, 101, 121, 50]⟩ : ByteArray), (⟨#[122, 122]⟩ : ByteArray), (⟨#[97, 0]⟩ : ByteArray)] : List ByteArray) : List ByteArray)).bind fun y101 => ((spec_l1Rd_below.f s0_0 s0_1 10).bind fun bt104 => (if 0 ≤ bt104.1 then (if bt104.1 < (y101.length : Int) then (some (rdOf ByteArray.empty y101 bt104.1, bt104.2)) else (none)) else (none)))
set_option maxHeartbeats 8000000 in
set_option maxRecDepth 100000 in
theorem spec_l1Rd_user.calls (g : Nat) (s0_0 : List Int) (s0_1 : Int) (r1 : ByteArray) (r2 : Int) (w0 w : World) (hI : IsS178 w0 w g s0_0 s0_1) (hB : Below w0.heap.size w0 w) (h : spec_l1Rd_user.f s0_0 s0_1 = some (r1, r2)) :
  Calls Try.prog 158 #[.pointer (some ⟨g, 0, none⟩)] w fun e w' => e = .returned (.string r1) ∧ IsS178 w0 w' g s0_0 r2 ∧ Below w0.heap.size w0 w' ∧ KeepBut w w' g none := by
 have HI0 := Qz.mk hI
 have HK := Qz.mk (KeepBut.refl w g none)
 have HL := Qz.mk hB.size
 clear hI
 have HW0 := Qz.mk hB.size
 have HB := Qz.mk hB
 clear hB
 have H : ((some (([(⟨#[97]⟩ : ByteArray), (⟨#[98]⟩ : ByteArray), (⟨#[97, 98]⟩ : ByteArray), (⟨#[97, 98, 99]⟩ : ByteArray), (⟨#[97, 98, 100]⟩ : ByteArray), (⟨#[107, 101, 121]⟩ : ByteArray), (⟨#[107, 101, 121, 49]⟩ : ByteArray), (⟨#[107, 101, 121, 50]⟩ : ByteArray), (⟨#[122, 122]⟩ : ByteArray), (⟨#[97, 0]⟩ : ByteArray)] : List ByteArray) : List ByteArray)).bind fun y101 => ((spec_l1Rd_below.f s0_0 s0_1 10).bind fun bt104 => (if 0 ≤ bt104.1 then (if bt104.1 < (y101.length : Int) then (some (rdOf ByteArray.empty y101 bt104.1, bt104.2)) else (none)) else (none)))) = some (r1, r2) := h
 clear h
 obtain ⟨y101, hy101⟩ : ∃ y_ : List ByteArray, y_ = (([(⟨#[97]⟩ : ByteArray), (⟨#[98]⟩ : ByteArray), (⟨#[97, 98]⟩ : ByteArray), (⟨#[97, 98, 99]⟩ : ByteArray), (⟨#[97, 98, 100]⟩ : ByteArray), (⟨#[107, 101, 121]⟩ : ByteArray), (⟨#[107, 101, 121, 49]⟩ : ByteArray), (⟨#[107, 101, 121, 50]⟩ : ByteArray), (⟨#[122, 122]⟩ : ByteArray), (⟨#[97, 0]⟩ : ByteArray)] : List ByteArray)) := ⟨_, rfl⟩
 replace H : ((spec_l1Rd_below.f s0_0 s0_1 10).bind fun bt104 => (if 0 ≤ bt104.1 then (if bt104.1 < (y101.length : Int) then (some (rdOf ByteArray.empty y101 bt104.1, bt104.2)) else (none)) else (none))) = some (r1, r2) := by first | (rw [hy101]; with_reducible exact H) | (have H2_ := (Option.bind_some _ _).symm.trans H; rw [hy101]; with_reducible exact H2_) | (have H2_ := (Option.bind_some _ _).symm.trans H; with_reducible exact H2_) | with_reducible exact H | (rw [hy101]; exact H) | exact H
 have Ny101 := Qz.mk hy101
 clear hy101
 replace H := Option.bind_eq_some_iff.mp H
 obtain ⟨⟨t104, t105⟩, A20, H⟩ := H
 replace H : (if 0 ≤ t104 then (if t104 < (y101.length : Int) then (some (rdOf ByteArray.empty y101 t104, t105)) else (none)) else (none)) = some (r1, r2) := H
 have A2 := Qz.mk A20
 clear A20
 by_cases c3 : 0 ≤ t104
 ·rw [if_pos c3] at H
  have c3b0 : decide (0 ≤ t104) = true := decide_eq_true c3
  clear c3
  by_cases c4 : t104 < (y101.length : Int)
  ·rw [if_pos c4] at H
   have c4b0 : decide (t104 < (y101.length : Int)) = true := decide_eq_true c4
   clear c4
   simp only [Option.some.injEq, Prod.mk.injEq] at H
   obtain ⟨rfl, rfl⟩ := H
   go_enter Try.func158, Try.ntmps158
   go_wp2_with (first | ((with_reducible refine qz (N := 3) rfl ?_); refine Kd.R_lit Kd.string _ 9 ?hg (N := 3) ?hd (xs := ([(⟨#[97]⟩ : ByteArray), (⟨#[98]⟩ : ByteArray), (⟨#[97, 98]⟩ : ByteArray), (⟨#[97, 98, 99]⟩ : ByteArray), (⟨#[97, 98, 100]⟩ : ByteArray), (⟨#[107, 101, 121]⟩ : ByteArray), (⟨#[107, 101, 121, 49]⟩ : ByteArray), (⟨#[107, 101, 121, 50]⟩ : ByteArray), (⟨#[122, 122]⟩ : ByteArray), (⟨#[97, 0]⟩ : ByteArray)] : List ByteArray)) (inner := [.string (⟨#[97]⟩ : ByteArray), .string (⟨#[98]⟩ : ByteArray), .string (⟨#[97, 98]⟩ : ByteArray), .string (⟨#[97, 98, 99]⟩ : ByteArray), .string (⟨#[97, 98, 100]⟩ : ByteArray), .string (⟨#[107, 101, 121]⟩ : ByteArray), .string (⟨#[107, 101, 121, 49]⟩ : ByteArray), .string (⟨#[107, 101, 121, 50]⟩ : ByteArray), .string (⟨#[122, 122]⟩ : ByteArray), .string (⟨#[97, 0]⟩ : ByteArray)]) (ok := fun _ => True) (okp := fun _ => True) ?hr ?hp (fun _ hk => hk) trivial (Below.refl _ _) (Nat.le_refl _) (by simp) ?_; (case hd => rfl); (case hg => rfl); (case hr => first | (go_simp; done) | (go_simp; rfl)); (case hp => exact (Reps.one (show Kd.M Kd.string _ _ _ (⟨#[97]⟩ : ByteArray) [.string (⟨#[97]⟩ : ByteArray)] from rfl) (Reps.one (show Kd.M Kd.string _ _ _ (⟨#[98]⟩ : ByteArray) [.string (⟨#[98]⟩ : ByteArray)] from rfl) (Reps.one (show Kd.M Kd.string _ _ _ (⟨#[97, 98]⟩ : ByteArray) [.string (⟨#[97, 98]⟩ : ByteArray)] from rfl) (Reps.one (show Kd.M Kd.string _ _ _ (⟨#[97, 98, 99]⟩ : ByteArray) [.string (⟨#[97, 98, 99]⟩ : ByteArray)] from rfl) (Reps.one (show Kd.M Kd.string _ _ _ (⟨#[97, 98, 100]⟩ : ByteArray) [.string (⟨#[97, 98, 100]⟩ : ByteArray)] from rfl) (Reps.one (show Kd.M Kd.string _ _ _ (⟨#[107, 101, 121]⟩ : ByteArray) [.string (⟨#[107, 101, 121]⟩ : ByteArray)] from rfl) (Reps.one (show Kd.M Kd.string _ _ _ (⟨#[107, 101, 121, 49]⟩ : ByteArray) [.string (⟨#[107, 101, 121, 49]⟩ : ByteArray)] from rfl) (Reps.one (show Kd.M Kd.string _ _ _ (⟨#[107, 101, 121, 50]⟩ : ByteArray) [.string (⟨#[107, 101, 121, 50]⟩ : ByteArray)] from rfl) (Reps.one (show Kd.M Kd.string _ _ _ (⟨#[122, 122]⟩ : ByteArray) [.string (⟨#[122, 122]⟩ : ByteArray)] from rfl) (Reps.one (show Kd.M Kd.string _ _ _ (⟨#[97, 0]⟩ : ByteArray) [.string (⟨#[97, 0]⟩ : ByteArray)] from rfl) (Reps.none _ _)))))))))))); intro v102 w5 ho6 hb hg_ hnew_; clear hg_ hnew_; (first | rw [← Ny101.out] at ho6 | (simp only [Int.reduceToNat] at ho6; rw [← Ny101.out] at ho6)); have HO103 := Qz.mk (Kd.R_lower ho6 (qg1 (w := w) (g := g) (row := none) yq56)); replace HK := Qz.mk (KeepBut.trans yq56 (KeepBut.of_below hb g none) (.inl rfl)); replace HB := Qz.mk (qm (by repeat (first | (with_reducible first | exact HB.out | apply qc | apply qa | apply qb | refine qe ?_ (IsS178.ge HI0.out)) | exact HB.out)) hb); replace HI0 := Qz.mk (IsS178.below (by repeat (first | (with_reducible first | exact HI0.out | apply IsS178.alloc | apply IsS178.drewN | apply IsS178.drew | apply IsS178.set_1) | exact HI0.out)) hb); clear hb ho6) | ((with_reducible refine qr (f := 119) rfl ?_); refine qe1 (some 5) rfl rfl Try.func119 (by kernel_rfl) rfl #[.pointer (some ⟨g, 0, none⟩), .int .i64 10] rfl (by (try simp only [List.map_toArray, List.map_cons, List.map_nil]); first | done | rfl) ?_; (with_reducible refine (spec_l1Rd_below.calls g s0_0 s0_1 10 t104 t105 w0 _ ?side1 ?side2 A2.out).mono ?_); (case side1 => repeat (first | (with_reducible first | exact HI0.out | apply IsS178.alloc | apply IsS178.drewN | apply IsS178.drew | apply IsS178.set_1) | exact HI0.out)); (case side2 => repeat (first | (with_reducible first | exact HB.out | apply qc | apply qa | apply qb | refine qe ?_ (IsS178.ge HI0.out)) | exact HB.out)); rintro e w7 ⟨rfl, hi, hb, hk⟩; refine ⟨_, rfl, ?_⟩; replace HO103 := Qz.mk (Kd.R_mono (Kd.R_keep (IsS178.apart (show IsS178 w0 _ g s0_0 s0_1 from by repeat (first | (with_reducible first | exact HI0.out | apply IsS178.alloc | apply IsS178.drewN | apply IsS178.drew | apply IsS178.set_1) | exact HI0.out)) (by (with_reducible repeat (first | apply Kd.R_alloc | apply Kd.R_drewN | apply Kd.R_drew)); exact HO103.out) (by decide)) hk (fun _ h => h.2)) (fun _ h => h.1)); replace HK := Qz.mk (KeepBut.trans yq56 hk (.inl rfl)); replace HB := Qz.mk (hb); replace HI0 := Qz.mk (hi); (try clear hb); (try clear hk); (try clear hi); obtain ⟨Ao8, co8, eo8⟩ := Kd.R_slice HO103.out; subst eo8; have p106 : 0 ≤ (t104 : Int) := of_decide_eq_true (by first | (with_reducible assumption) | assumption); have q106 : t104 < (y101.length : Int) := of_decide_eq_true (by first | (with_reducible assumption) | assumption); obtain ⟨ad106, e106, hx106_0⟩ := Kd.at_string (Kd.R_reads' HO103.out).2.2 t104 p106 q106; cases e106; replace p106 := eq_true p106; replace q106 := eq_true q106))
   go_ret
   exact ⟨by first | rfl | (simp [qq, qo] <;> rfl) | (simp [*, qq, qo] <;> rfl), by repeat (first | (with_reducible first | exact HI0.out | apply IsS178.alloc | apply IsS178.drewN | apply IsS178.drew | apply IsS178.set_1) | exact HI0.out), by repeat (first | (with_reducible first | exact HB.out | apply qc | apply qa | apply qb | refine qe ?_ (IsS178.ge HI0.out)) | exact HB.out), by repeat (first | (with_reducible first | exact HK.out | apply KeepBut.set_ | apply qk | apply qn | apply ql) | exact HK.out)⟩
  ·rw [if_neg c4] at H
   exact absurd H (by simp)
 ·rw [if_neg c3] at H
  exact absurd H (by simp)
theorem yq57 {P : Prop} (h : P := by repeat (first | (with_reducible first | exact HI0.out | apply IsS178.alloc | apply IsS178.drewN | apply IsS178.drew | apply IsS178.set_1) | exact HI0.out)) : P := h
theorem yq58 {P : Prop} (h : P := by repeat (first | (with_reducible first | exact HK.out | apply KeepBut.set_ | apply qk | apply qn | apply ql) | exact HK.out)) : P := h
theorem yq59 {P : Prop} (h : P := by repeat (first | (with_reducible first | exact HB.out | apply qc | apply qa | apply qb | refine qe ?_ (IsS178.ge HI0.out)) | exact HB.out)) : P := h
theorem yq60 {P : Prop} (h : P := by (try simp only [List.map_toArray, List.map_cons, List.map_nil]); first | done | rfl) : P := h
def spec_l1Rd_off.f (k : Nat) (s0_0 : List Int) (s0_1 : Int) (a1 : Int) (a2 : Int) : Option (Int × Int) := (spec_l1Rd_once.f s0_0 s0_1 24).bind fun bt101 => (if bt101.1 = true then ((some (([wrap64 (a1 - 1), wrap64 (a2 + 1), (-9223372036854775808), 9223372036854775807] : List Int) : List Int)).bind fun y103 => ((spec_l1Rd_below.f s0_0 bt101.2 4).bind fun bt106 => (if 0 ≤ bt106.1 then (if bt106.1 < (y103.length : Int) then (some (rd y103 bt106.1, bt106.2)) else (none)) else (none)))) else ((spec_l1Rd_near.f k s0_0 bt101.2 a1 a2).bind fun bt109 => (some (bt109.1, bt109.2))))
set_option maxHeartbeats 8000000 in
set_option maxRecDepth 100000 in
theorem spec_l1Rd_off.calls (k : Nat) (g : Nat) (s0_0 : List Int) (s0_1 : Int) (a1 : Int) (a2 : Int) (r1 : Int) (r2 : Int) (w0 w : World) (hI : IsS178 w0 w g s0_0 s0_1) (hB : Below w0.heap.size w0 w) (h : spec_l1Rd_off.f k s0_0 s0_1 a1 a2 = some (r1, r2)) :
  Calls Try.prog 92 #[.pointer (some ⟨g, 0, none⟩), .int .i64 a1, .int .i64 a2] w fun e w' => e = .returned (.int .i64 r1) ∧ IsS178 w0 w' g s0_0 r2 ∧ Below w0.heap.size w0 w' ∧ KeepBut w w' g none := by
 have HI0 := Qz.mk hI
 have HK := Qz.mk (KeepBut.refl w g none)
 have HL := Qz.mk hB.size
 clear hI
 have HW0 := Qz.mk hB.size
 have HB := Qz.mk hB
 clear hB
 have H : ((spec_l1Rd_once.f s0_0 s0_1 24).bind fun bt101 => (if bt101.1 = true then ((some (([wrap64 (a1 - 1), wrap64 (a2 + 1), (-9223372036854775808), 9223372036854775807] : List Int) : List Int)).bind fun y103 => ((spec_l1Rd_below.f s0_0 bt101.2 4).bind fun bt106 => (if 0 ≤ bt106.1 then (if bt106.1 < (y103.length : Int) then (some (rd y103 bt106.1, bt106.2)) else (none)) else (none)))) else ((spec_l1Rd_near.f k s0_0 bt101.2 a1 a2).bind fun bt109 => (some (bt109.1, bt109.2))))) = some (r1, r2) := h
 clear h
 replace H := Option.bind_eq_some_iff.mp H
 obtain ⟨⟨t101, t102⟩, A40, H⟩ := H
 replace H : (if t101 = true then ((some (([wrap64 (a1 - 1), wrap64 (a2 + 1), (-9223372036854775808), 9223372036854775807] : List Int) : List Int)).bind fun y103 => ((spec_l1Rd_below.f s0_0 t102 4).bind fun bt106 => (if 0 ≤ bt106.1 then (if bt106.1 < (y103.length : Int) then (some (rd y103 bt106.1, bt106.2)) else (none)) else (none)))) else ((spec_l1Rd_near.f k s0_0 t102 a1 a2).bind fun bt109 => (some (bt109.1, bt109.2)))) = some (r1, r2) := H
 have A4 := Qz.mk A40
 clear A40
 by_cases c5 : t101 = true
 ·subst c5
  have H1 : ((some (([wrap64 (a1 - 1), wrap64 (a2 + 1), (-9223372036854775808), 9223372036854775807] : List Int) : List Int)).bind fun y103 => ((spec_l1Rd_below.f s0_0 t102 4).bind fun bt106 => (if 0 ≤ bt106.1 then (if bt106.1 < (y103.length : Int) then (some (rd y103 bt106.1, bt106.2)) else (none)) else (none)))) = some (r1, r2) := by rw [if_pos rfl] at H; exact H
  clear H
  have H := H1
  clear H1
  obtain ⟨y103, hy103⟩ : ∃ y_ : List Int, y_ = (([wrap64 (a1 - 1), wrap64 (a2 + 1), (-9223372036854775808), 9223372036854775807] : List Int)) := ⟨_, rfl⟩
  replace H : ((spec_l1Rd_below.f s0_0 t102 4).bind fun bt106 => (if 0 ≤ bt106.1 then (if bt106.1 < (y103.length : Int) then (some (rd y103 bt106.1, bt106.2)) else (none)) else (none))) = some (r1, r2) := by first | (rw [hy103]; with_reducible exact H) | (have H2_ := (Option.bind_some _ _).symm.trans H; rw [hy103]; with_reducible exact H2_) | (have H2_ := (Option.bind_some _ _).symm.trans H; with_reducible exact H2_) | with_reducible exact H | (rw [hy103]; exact H) | exact H
  have Ny103 := Qz.mk hy103
  clear hy103
  replace H := Option.bind_eq_some_iff.mp H
  obtain ⟨⟨t106, t107⟩, A60, H⟩ := H
  replace H : (if 0 ≤ t106 then (if t106 < (y103.length : Int) then (some (rd y103 t106, t107)) else (none)) else (none)) = some (r1, r2) := H
  have A6 := Qz.mk A60
  clear A60
  by_cases c7 : 0 ≤ t106
  ·rw [if_pos c7] at H
   have c7b0 : decide (0 ≤ t106) = true := decide_eq_true c7
   clear c7
   by_cases c8 : t106 < (y103.length : Int)
   ·rw [if_pos c8] at H
    have c8b0 : decide (t106 < (y103.length : Int)) = true := decide_eq_true c8
    clear c8
    simp only [Option.some.injEq, Prod.mk.injEq] at H
    obtain ⟨rfl, rfl⟩ := H
    go_enter Try.func92, Try.ntmps92
    go_wp2_with (first | ((with_reducible refine qr (f := 156) rfl ?_); refine qe1 (some 8) rfl rfl Try.func156 (by kernel_rfl) rfl #[.pointer (some ⟨g, 0, none⟩), .int .i64 24] rfl yq60 ?_; (with_reducible refine (spec_l1Rd_once.calls g s0_0 s0_1 24 true t102 w0 _ ?side1 ?side2 A4.out).mono ?_); (case side1 => exact yq57); (case side2 => exact yq59); rintro e w9 ⟨rfl, hi, hb, hk⟩; refine ⟨_, rfl, ?_⟩; replace HK := Qz.mk (KeepBut.trans yq58 hk (.inl rfl)); replace HB := Qz.mk (hb); replace HI0 := Qz.mk (hi); (try clear hb); (try clear hk); (try clear hi)) | ((with_reducible refine qz (N := 13) rfl ?_); refine Kd.R_lit (Kd.int .i64) _ 2 ?hg (N := 13) ?hd (xs := ([wrap64 (a1 - 1), wrap64 (a2 + 1), (-9223372036854775808), 9223372036854775807] : List Int)) (inner := [.int .i64 (wrap64 (a1 - 1)), .int .i64 (wrap64 (a2 + 1)), .int .i64 (-9223372036854775808), .int .i64 9223372036854775807]) (ok := fun _ => True) (okp := fun _ => True) ?hr ?hp (fun _ hk => hk) trivial (Below.refl _ _) (Nat.le_refl _) (by simp) ?_; (case hd => rfl); (case hg => rfl); (case hr => first | (go_simp; done) | (go_simp; rfl)); (case hp => exact (Reps.one (show Kd.M (Kd.int .i64) _ _ _ (wrap64 (a1 - 1)) [.int .i64 (wrap64 (a1 - 1))] from rfl) (Reps.one (show Kd.M (Kd.int .i64) _ _ _ (wrap64 (a2 + 1)) [.int .i64 (wrap64 (a2 + 1))] from rfl) (Reps.one (show Kd.M (Kd.int .i64) _ _ _ (-9223372036854775808) [.int .i64 (-9223372036854775808)] from rfl) (Reps.one (show Kd.M (Kd.int .i64) _ _ _ 9223372036854775807 [.int .i64 9223372036854775807] from rfl) (Reps.none _ _)))))); intro v104 w10 ho11 hb hg_ hnew_; clear hg_ hnew_; (first | rw [← Ny103.out] at ho11 | (simp only [Int.reduceToNat] at ho11; rw [← Ny103.out] at ho11)); have HO105 := Qz.mk (Kd.R_lower ho11 (qg1 (w := w) (g := g) (row := none) yq58)); replace HK := Qz.mk (KeepBut.trans yq58 (KeepBut.of_below hb g none) (.inl rfl)); replace HB := Qz.mk (qm yq59 hb); replace HI0 := Qz.mk (IsS178.below yq57 hb); clear hb ho11) | ((with_reducible refine qr (f := 119) rfl ?_); refine qe1 (some 15) rfl rfl Try.func119 (by kernel_rfl) rfl #[.pointer (some ⟨g, 0, none⟩), .int .i64 4] rfl yq60 ?_; (with_reducible refine (spec_l1Rd_below.calls g s0_0 t102 4 t106 t107 w0 _ ?side1 ?side2 A6.out).mono ?_); (case side1 => exact yq57); (case side2 => exact yq59); rintro e w12 ⟨rfl, hi, hb, hk⟩; refine ⟨_, rfl, ?_⟩; replace HO105 := Qz.mk (Kd.R_mono (Kd.R_keep (IsS178.apart (show IsS178 w0 _ g s0_0 t102 from by repeat (first | (with_reducible first | exact HI0.out | apply IsS178.alloc | apply IsS178.drewN | apply IsS178.drew | apply IsS178.set_1) | exact HI0.out)) (by (with_reducible repeat (first | apply Kd.R_alloc | apply Kd.R_drewN | apply Kd.R_drew)); exact HO105.out) (by decide)) hk (fun _ h => h.2)) (fun _ h => h.1)); replace HK := Qz.mk (KeepBut.trans yq58 hk (.inl rfl)); replace HB := Qz.mk (hb); replace HI0 := Qz.mk (hi); (try clear hb); (try clear hk); (try clear hi); obtain ⟨Ao13, co13, eo13⟩ := Kd.R_slice HO105.out; subst eo13; have p108 : 0 ≤ (t106 : Int) := of_decide_eq_true (by first | (with_reducible assumption) | assumption); have q108 : t106 < (y103.length : Int) := of_decide_eq_true (by first | (with_reducible assumption) | assumption); obtain ⟨ad108, e108, hx108_0⟩ := Kd.at_int (Kd.R_reads' HO105.out).2.2 t106 p108 q108; cases e108; replace p108 := eq_true p108; replace q108 := eq_true q108))
    go_ret
    exact ⟨by first | rfl | (simp [qq, qo] <;> rfl) | (simp [*, qq, qo] <;> rfl), by repeat (first | (with_reducible first | exact HI0.out | apply IsS178.alloc | apply IsS178.drewN | apply IsS178.drew | apply IsS178.set_1) | exact HI0.out), by repeat (first | (with_reducible first | exact HB.out | apply qc | apply qa | apply qb | refine qe ?_ (IsS178.ge HI0.out)) | exact HB.out), by repeat (first | (with_reducible first | exact HK.out | apply KeepBut.set_ | apply qk | apply qn | apply ql) | exact HK.out)⟩
   ·rw [if_neg c8] at H
    exact absurd H (by simp)
  ·rw [if_neg c7] at H
   exact absurd H (by simp)
 ·replace c5 := Bool.eq_false_iff.mpr c5
  subst c5
  have H1 : ((spec_l1Rd_near.f k s0_0 t102 a1 a2).bind fun bt109 => (some (bt109.1, bt109.2))) = some (r1, r2) := by rw [if_neg (show ¬ (false = true) by decide)] at H; exact H
  clear H
  have H := H1
  clear H1
  replace H := Option.bind_eq_some_iff.mp H
  obtain ⟨⟨t109, t110⟩, A140, H⟩ := H
  replace H : (some (t109, t110)) = some (r1, r2) := H
  have A14 := Qz.mk A140
  clear A140
  simp only [Option.some.injEq, Prod.mk.injEq] at H
  obtain ⟨rfl, rfl⟩ := H
  go_enter Try.func92, Try.ntmps92
  go_wp2_with (first | ((with_reducible refine qr (f := 156) rfl ?_); refine qe1 (some 8) rfl rfl Try.func156 (by kernel_rfl) rfl #[.pointer (some ⟨g, 0, none⟩), .int .i64 24] rfl yq60 ?_; (with_reducible refine (spec_l1Rd_once.calls g s0_0 s0_1 24 false t102 w0 _ ?side1 ?side2 A4.out).mono ?_); (case side1 => exact yq57); (case side2 => exact yq59); rintro e w15 ⟨rfl, hi, hb, hk⟩; refine ⟨_, rfl, ?_⟩; replace HK := Qz.mk (KeepBut.trans yq58 hk (.inl rfl)); replace HB := Qz.mk (hb); replace HI0 := Qz.mk (hi); (try clear hb); (try clear hk); (try clear hi)) | ((with_reducible refine qr (f := 157) rfl ?_); refine qe1 (some 21) rfl rfl Try.func157 (by kernel_rfl) rfl #[.pointer (some ⟨g, 0, none⟩), .int .i64 a1, .int .i64 a2] rfl yq60 ?_; (with_reducible refine (spec_l1Rd_near.calls k g s0_0 t102 a1 a2 t109 t110 w0 _ ?side1 ?side2 A14.out).mono ?_); (case side1 => exact yq57); (case side2 => exact yq59); rintro e w16 ⟨rfl, hi, hb, hk⟩; refine ⟨_, rfl, ?_⟩; replace HK := Qz.mk (KeepBut.trans yq58 hk (.inl rfl)); replace HB := Qz.mk (hb); replace HI0 := Qz.mk (hi); (try clear hb); (try clear hk); (try clear hi)))
  go_ret
  exact ⟨by first | rfl | (simp [qq, qo] <;> rfl) | (simp [*, qq, qo] <;> rfl), by repeat (first | (with_reducible first | exact HI0.out | apply IsS178.alloc | apply IsS178.drewN | apply IsS178.drew | apply IsS178.set_1) | exact HI0.out), by repeat (first | (with_reducible first | exact HB.out | apply qc | apply qa | apply qb | refine qe ?_ (IsS178.ge HI0.out)) | exact HB.out), by repeat (first | (with_reducible first | exact HK.out | apply KeepBut.set_ | apply qk | apply qn | apply ql) | exact HK.out)⟩
theorem yq61 {P : Prop} (h : P := by repeat (first | (with_reducible first | exact HK.out | apply KeepBut.set_ | apply qk | apply qn | apply ql | refine qw ?_ GW101.out _) | exact HK.out)) : P := h
theorem yq62 {P : Prop} (h : P := by repeat (first | (with_reducible first | exact HI0.out | apply IsS178.alloc | apply IsS178.drewN | apply IsS178.drew | apply IsS178.set_1 | apply (fun h_ => IsS178.far h_ NB0_101.out _)) | exact HI0.out)) : P := h
theorem yq63 {P : Prop} (h : P := by (with_reducible repeat (first | refine qh ?_ _ | refine qj ?_ | refine qi ?_ _)); exact BK101.out) : P := h
theorem yq64 {P : Prop} (h : P := by repeat (first | (with_reducible first | exact HB.out | apply qc | apply qa | apply qb | refine qe ?_ (IsS178.ge HI0.out) | refine qe ?_ GE101.out) | exact HB.out)) : P := h
theorem yq65 {P : Prop} (h : P := by (with_reducible repeat (first | refine qh ?_ _ | refine qj ?_ | refine qi ?_ _)); refine blk_put (cs := #[.string t102, .int .i64 t104, .int .i64 0]) ?_ 2 _ rfl; (with_reducible repeat (first | refine qh ?_ _ | refine qj ?_ | refine qi ?_ _)); refine blk_put (cs := #[.string t102, .int .i64 0, .int .i64 0]) ?_ 1 _ rfl; (with_reducible repeat (first | refine qh ?_ _ | refine qj ?_ | refine qi ?_ _)); refine blk_put (cs := #[.string (⟨#[]⟩ : ByteArray), .int .i64 0, .int .i64 0]) ?_ 0 _ rfl; (with_reducible repeat (first | refine qh ?_ _ | refine qj ?_ | refine qi ?_ _)); exact BK108.out) : P := h
theorem yq66 {P : Prop} (h : P := by repeat (first | (with_reducible first | exact HI0.out | apply IsS178.alloc | apply IsS178.drewN | apply IsS178.drew | apply IsS178.set_1 | apply (fun h_ => IsS178.far h_ NB0_101.out _) | apply (fun h_ => IsS178.far h_ NB0_108.out _)) | exact HI0.out)) : P := h
theorem yq67 {P : Prop} (h : P := by (try simp only [List.map_toArray, List.map_cons, List.map_nil]); first | done | rfl) : P := h
theorem yq68 {P : Prop} (h : P := by (with_reducible repeat (first | refine qh ?_ _ | refine qj ?_ | refine qi ?_ _)); refine blk_far ?_ NB101_108.out _; (with_reducible repeat (first | refine qh ?_ _ | refine qj ?_ | refine qi ?_ _)); refine blk_far ?_ NB101_108.out _; (with_reducible repeat (first | refine qh ?_ _ | refine qj ?_ | refine qi ?_ _)); refine blk_far ?_ NB101_108.out _; (with_reducible repeat (first | refine qh ?_ _ | refine qj ?_ | refine qi ?_ _)); exact BK101.out) : P := h
theorem yq69 {P : Prop} (h : P := by repeat (first | (with_reducible first | exact HK.out | apply KeepBut.set_ | apply qk | apply qn | apply ql) | exact HK.out)) : P := h
theorem yq70 {P : Prop} (h : P := by repeat (first | (with_reducible first | exact HB.out | apply qc | apply qa | apply qb | refine qe ?_ (IsS178.ge HI0.out) | refine qe ?_ GE101.out | refine qe ?_ GE108.out) | exact HB.out)) : P := h
theorem yq71 {P : Prop} (h : P := by repeat (first | (with_reducible first | exact HK.out | apply KeepBut.set_ | apply qk | apply qn | apply ql | refine qw ?_ GW101.out _ | refine qw ?_ GW108.out _) | exact HK.out)) : P := h
theorem yq72 {P : Prop} (h : P := by repeat (first | (with_reducible first | exact HI0.out | apply IsS178.alloc | apply IsS178.drewN | apply IsS178.drew | apply IsS178.set_1) | exact HI0.out)) : P := h
theorem yq73 {P : Prop} (h : P := by repeat (first | (with_reducible first | exact HB.out | apply qc | apply qa | apply qb | refine qe ?_ (IsS178.ge HI0.out)) | exact HB.out)) : P := h
theorem yq74 {P : Prop} (h : P := by rw [hg]; exact Nat.ne_of_lt (blk_lt (g := gb101) (o := .cells #[.string (⟨#[]⟩ : ByteArray), .int .i64 0, .int .i64 0] 35 (0, 0)) yq63)) : P := h
theorem yq75 {P : Prop} (h : P := by rw [hg]; exact Nat.ne_of_gt (blk_lt (g := gb101) (o := .cells #[.string (⟨#[]⟩ : ByteArray), .int .i64 0, .int .i64 0] 35 (0, 0)) yq63)) : P := h
theorem yq76 {P : Prop} (h : P := by rw [hg]; exact (qg1 (w := w) (g := g) (row := none) yq69)) : P := h
theorem yq77 {P : Prop} (h : P := by rw [hg]; exact (qg1 (w := w) (g := g) (row := none) yq61)) : P := h
theorem yq78 {P : Prop} (h : P := by first | (go_simp; done) | (go_simp; rfl)) : P := h
def spec_l1Rd_key.f (k : Nat) (s0_0 : List Int) (s0_1 : Int) : Option (ByteArray × Int × Int × Int) := (spec_l1Rd_user.f s0_0 s0_1).bind fun bt102 => ((spec_l1Rd_near.f k s0_0 bt102.2 0 12).bind fun bt104 => ((spec_l1Rd_below.f s0_0 bt104.2 2).bind fun bt106 => ((spec_l1Rd_below.f s0_0 bt106.2 24).bind fun bt109 => (if bt109.1 = 0 then ((spec_l1Rd_off.f k s0_0 bt109.2 0 1000000000000).bind fun bt111 => (some (bt102.1, bt111.1, bt106.1, bt111.2))) else (if bt109.1 = 1 then ((spec_l1Rd_off.f k s0_0 bt109.2 0 1).bind fun bt113 => (some (bt102.1, bt104.1, bt113.1, bt113.2))) else (if bt109.1 = 2 then ((spec_l1Rd_bytes.f k s0_0 bt109.2 45).bind fun bt115 => (some (bt115.1, bt104.1, bt106.1, bt115.2))) else (some (bt102.1, bt104.1, bt106.1, bt109.2))))))))
set_option maxHeartbeats 8000000 in
set_option maxRecDepth 100000 in
theorem spec_l1Rd_key.calls (k : Nat) (g : Nat) (s0_0 : List Int) (s0_1 : Int) (r1 : ByteArray) (r2 : Int) (r3 : Int) (r4 : Int) (w0 w : World) (hI : IsS178 w0 w g s0_0 s0_1) (hB : Below w0.heap.size w0 w) (h : spec_l1Rd_key.f k s0_0 s0_1 = some (r1, r2, r3, r4)) :
  Calls Try.prog 94 #[.pointer (some ⟨g, 0, none⟩)] w fun e w' => e = .returned (.agg #[.string r1, .int .i64 r2, .int .i64 r3]) ∧ IsS178 w0 w' g s0_0 r4 ∧ Below w0.heap.size w0 w' ∧ KeepBut w w' g none := by
 have hu35 := Try.underlying35
 have HI0 := Qz.mk hI
 have HK := Qz.mk (KeepBut.refl w g none)
 have HL := Qz.mk hB.size
 clear hI
 have HW0 := Qz.mk hB.size
 have HB := Qz.mk hB
 clear hB
 have H : ((spec_l1Rd_user.f s0_0 s0_1).bind fun bt102 => ((spec_l1Rd_near.f k s0_0 bt102.2 0 12).bind fun bt104 => ((spec_l1Rd_below.f s0_0 bt104.2 2).bind fun bt106 => ((spec_l1Rd_below.f s0_0 bt106.2 24).bind fun bt109 => (if bt109.1 = 0 then ((spec_l1Rd_off.f k s0_0 bt109.2 0 1000000000000).bind fun bt111 => (some (bt102.1, bt111.1, bt106.1, bt111.2))) else (if bt109.1 = 1 then ((spec_l1Rd_off.f k s0_0 bt109.2 0 1).bind fun bt113 => (some (bt102.1, bt104.1, bt113.1, bt113.2))) else (if bt109.1 = 2 then ((spec_l1Rd_bytes.f k s0_0 bt109.2 45).bind fun bt115 => (some (bt115.1, bt104.1, bt106.1, bt115.2))) else (some (bt102.1, bt104.1, bt106.1, bt109.2))))))))) = some (r1, r2, r3, r4) := h
 clear h
 replace H := Option.bind_eq_some_iff.mp H
 obtain ⟨⟨t102, t103⟩, A20, H⟩ := H
 replace H : ((spec_l1Rd_near.f k s0_0 t103 0 12).bind fun bt104 => ((spec_l1Rd_below.f s0_0 bt104.2 2).bind fun bt106 => ((spec_l1Rd_below.f s0_0 bt106.2 24).bind fun bt109 => (if bt109.1 = 0 then ((spec_l1Rd_off.f k s0_0 bt109.2 0 1000000000000).bind fun bt111 => (some (t102, bt111.1, bt106.1, bt111.2))) else (if bt109.1 = 1 then ((spec_l1Rd_off.f k s0_0 bt109.2 0 1).bind fun bt113 => (some (t102, bt104.1, bt113.1, bt113.2))) else (if bt109.1 = 2 then ((spec_l1Rd_bytes.f k s0_0 bt109.2 45).bind fun bt115 => (some (bt115.1, bt104.1, bt106.1, bt115.2))) else (some (t102, bt104.1, bt106.1, bt109.2)))))))) = some (r1, r2, r3, r4) := H
 have A2 := Qz.mk A20
 clear A20
 replace H := Option.bind_eq_some_iff.mp H
 obtain ⟨⟨t104, t105⟩, A30, H⟩ := H
 replace H : ((spec_l1Rd_below.f s0_0 t105 2).bind fun bt106 => ((spec_l1Rd_below.f s0_0 bt106.2 24).bind fun bt109 => (if bt109.1 = 0 then ((spec_l1Rd_off.f k s0_0 bt109.2 0 1000000000000).bind fun bt111 => (some (t102, bt111.1, bt106.1, bt111.2))) else (if bt109.1 = 1 then ((spec_l1Rd_off.f k s0_0 bt109.2 0 1).bind fun bt113 => (some (t102, t104, bt113.1, bt113.2))) else (if bt109.1 = 2 then ((spec_l1Rd_bytes.f k s0_0 bt109.2 45).bind fun bt115 => (some (bt115.1, t104, bt106.1, bt115.2))) else (some (t102, t104, bt106.1, bt109.2))))))) = some (r1, r2, r3, r4) := H
 have A3 := Qz.mk A30
 clear A30
 replace H := Option.bind_eq_some_iff.mp H
 obtain ⟨⟨t106, t107⟩, A40, H⟩ := H
 replace H : ((spec_l1Rd_below.f s0_0 t107 24).bind fun bt109 => (if bt109.1 = 0 then ((spec_l1Rd_off.f k s0_0 bt109.2 0 1000000000000).bind fun bt111 => (some (t102, bt111.1, t106, bt111.2))) else (if bt109.1 = 1 then ((spec_l1Rd_off.f k s0_0 bt109.2 0 1).bind fun bt113 => (some (t102, t104, bt113.1, bt113.2))) else (if bt109.1 = 2 then ((spec_l1Rd_bytes.f k s0_0 bt109.2 45).bind fun bt115 => (some (bt115.1, t104, t106, bt115.2))) else (some (t102, t104, t106, bt109.2)))))) = some (r1, r2, r3, r4) := H
 have A4 := Qz.mk A40
 clear A40
 replace H := Option.bind_eq_some_iff.mp H
 obtain ⟨⟨t109, t110⟩, A50, H⟩ := H
 replace H : (if t109 = 0 then ((spec_l1Rd_off.f k s0_0 t110 0 1000000000000).bind fun bt111 => (some (t102, bt111.1, t106, bt111.2))) else (if t109 = 1 then ((spec_l1Rd_off.f k s0_0 t110 0 1).bind fun bt113 => (some (t102, t104, bt113.1, bt113.2))) else (if t109 = 2 then ((spec_l1Rd_bytes.f k s0_0 t110 45).bind fun bt115 => (some (bt115.1, t104, t106, bt115.2))) else (some (t102, t104, t106, t110))))) = some (r1, r2, r3, r4) := H
 have A5 := Qz.mk A50
 clear A50
 by_cases c6 : t109 = 0
 ·rw [if_pos c6] at H
  have c6b0 : (t109 == 0) = true := beq_iff_eq.mpr c6
  have c6b1 : (t109 != 0) = false := bne_eq_false_iff_eq.mpr c6
  clear c6
  replace H := Option.bind_eq_some_iff.mp H
  obtain ⟨⟨t111, t112⟩, A70, H⟩ := H
  replace H : (some (t102, t111, t106, t112)) = some (r1, r2, r3, r4) := H
  have A7 := Qz.mk A70
  clear A70
  simp only [Option.some.injEq, Prod.mk.injEq] at H
  obtain ⟨rfl, rfl, rfl, rfl⟩ := H
  go_enter Try.func94, Try.ntmps94
  go_wp2_with (first | ((with_reducible refine qz (N := 2) rfl ?_); refine qh1 ?hg (N := 2) ?hd (cs := #[.string (⟨#[]⟩ : ByteArray), .int .i64 0, .int .i64 0]) (t := 35) ?hr ?_; (case hd => rfl); (case hg => rfl); (case hr => exact yq78); intro gb101 hg w8 hbox hb; replace HB := Qz.mk (qm yq73 hb); have BK101 := Qz.mk (hbox); have GW101 := Qz.mk ((yq76 : w.heap.size ≤ gb101)); have GE101 := Qz.mk ((Nat.le_trans HW0.out (yq76 : w.heap.size ≤ gb101) : w0.heap.size ≤ gb101)); replace HK := Qz.mk (KeepBut.trans yq69 (KeepBut.of_below hb g none) (.inl rfl)); have NB0_101 := Qz.mk ((by rw [hg]; exact Nat.ne_of_lt (IsS178.lt (show IsS178 w0 _ g s0_0 s0_1 from by repeat (first | (with_reducible first | exact HI0.out | apply IsS178.alloc | apply IsS178.drewN | apply IsS178.drew | apply IsS178.set_1) | exact HI0.out))) : g ≠ gb101)); have NB101_0 := Qz.mk ((by rw [hg]; exact Nat.ne_of_gt (IsS178.lt (show IsS178 w0 _ g s0_0 s0_1 from by repeat (first | (with_reducible first | exact HI0.out | apply IsS178.alloc | apply IsS178.drewN | apply IsS178.drew | apply IsS178.set_1) | exact HI0.out))) : gb101 ≠ g)); replace HI0 := Qz.mk (IsS178.below yq72 hb); clear hb hbox hg) | ((with_reducible refine qr (f := 158) rfl ?_); refine qe1 (some 5) rfl rfl Try.func158 (by kernel_rfl) rfl #[.pointer (some ⟨g, 0, none⟩)] rfl yq67 ?_; (with_reducible refine (spec_l1Rd_user.calls g s0_0 s0_1 t102 t103 w0 _ ?side1 ?side2 A2.out).mono ?_); (case side1 => exact yq62); (case side2 => exact yq64); rintro e w9 ⟨rfl, hi, hb, hk⟩; refine ⟨_, rfl, ?_⟩; replace BK101 := Qz.mk (KeepBut.blk hk (g' := gb101) (o := .cells #[.string (⟨#[]⟩ : ByteArray), .int .i64 0, .int .i64 0] 35 (0, 0)) yq63 NB101_0.out (by simp)); replace HK := Qz.mk (KeepBut.trans yq61 hk (.inl rfl)); replace HB := Qz.mk (hb); replace HI0 := Qz.mk (hi); (try clear hb); (try clear hk); (try clear hi)) | ((with_reducible refine qr (f := 157) rfl ?_); refine qe1 (some 7) rfl rfl Try.func157 (by kernel_rfl) rfl #[.pointer (some ⟨g, 0, none⟩), .int .i64 0, .int .i64 12] rfl yq67 ?_; (with_reducible refine (spec_l1Rd_near.calls k g s0_0 t103 0 12 t104 t105 w0 _ ?side1 ?side2 A3.out).mono ?_); (case side1 => exact yq62); (case side2 => exact yq64); rintro e w10 ⟨rfl, hi, hb, hk⟩; refine ⟨_, rfl, ?_⟩; replace BK101 := Qz.mk (KeepBut.blk hk (g' := gb101) (o := .cells #[.string (⟨#[]⟩ : ByteArray), .int .i64 0, .int .i64 0] 35 (0, 0)) yq63 NB101_0.out (by simp)); replace HK := Qz.mk (KeepBut.trans yq61 hk (.inl rfl)); replace HB := Qz.mk (hb); replace HI0 := Qz.mk (hi); (try clear hb); (try clear hk); (try clear hi)) | ((with_reducible refine qr (f := 119) rfl ?_); refine qe1 (some 9) rfl rfl Try.func119 (by kernel_rfl) rfl #[.pointer (some ⟨g, 0, none⟩), .int .i64 2] rfl yq67 ?_; (with_reducible refine (spec_l1Rd_below.calls g s0_0 t105 2 t106 t107 w0 _ ?side1 ?side2 A4.out).mono ?_); (case side1 => exact yq62); (case side2 => exact yq64); rintro e w11 ⟨rfl, hi, hb, hk⟩; refine ⟨_, rfl, ?_⟩; replace BK101 := Qz.mk (KeepBut.blk hk (g' := gb101) (o := .cells #[.string (⟨#[]⟩ : ByteArray), .int .i64 0, .int .i64 0] 35 (0, 0)) yq63 NB101_0.out (by simp)); replace HK := Qz.mk (KeepBut.trans yq61 hk (.inl rfl)); replace HB := Qz.mk (hb); replace HI0 := Qz.mk (hi); (try clear hb); (try clear hk); (try clear hi)) | ((with_reducible refine qz (N := 3) rfl ?_); refine qh1 ?hg (N := 3) ?hd (cs := #[.string (⟨#[]⟩ : ByteArray), .int .i64 0, .int .i64 0]) (t := 35) ?hr ?_; (case hd => rfl); (case hg => rfl); (case hr => exact yq78); intro gb108 hg w12 hbox hb; replace HB := Qz.mk (qm yq64 hb); have BK108 := Qz.mk (hbox); have GW108 := Qz.mk ((yq77 : w.heap.size ≤ gb108)); have GE108 := Qz.mk ((Nat.le_trans HW0.out (yq77 : w.heap.size ≤ gb108) : w0.heap.size ≤ gb108)); replace HK := Qz.mk (KeepBut.trans yq61 (KeepBut.of_below hb g none) (.inl rfl)); have NB101_108 := Qz.mk ((yq74 : gb101 ≠ gb108)); have NB108_101 := Qz.mk ((yq75 : gb108 ≠ gb101)); replace BK101 := Qz.mk (qf1 (g := gb101) (o := .cells #[.string (⟨#[]⟩ : ByteArray), .int .i64 0, .int .i64 0] 35 (0, 0)) yq63 hb); have NB0_108 := Qz.mk ((by rw [hg]; exact Nat.ne_of_lt (IsS178.lt (show IsS178 w0 _ g s0_0 t107 from by repeat (first | (with_reducible first | exact HI0.out | apply IsS178.alloc | apply IsS178.drewN | apply IsS178.drew | apply IsS178.set_1 | apply (fun h_ => IsS178.far h_ NB0_101.out _)) | exact HI0.out))) : g ≠ gb108)); have NB108_0 := Qz.mk ((by rw [hg]; exact Nat.ne_of_gt (IsS178.lt (show IsS178 w0 _ g s0_0 t107 from by repeat (first | (with_reducible first | exact HI0.out | apply IsS178.alloc | apply IsS178.drewN | apply IsS178.drew | apply IsS178.set_1 | apply (fun h_ => IsS178.far h_ NB0_101.out _)) | exact HI0.out))) : gb108 ≠ g)); replace HI0 := Qz.mk (IsS178.below yq62 hb); clear hb hbox hg; have hnb13 := NB108_101.out; have hnc13 := NB101_108.out; have hnb14 := NB108_0.out; have hnc14 := NB0_108.out; have hcz15_0 : w12.cell? ⟨gb108, 0, none⟩ = some (.string (⟨#[]⟩ : ByteArray)) := (qf BK108.out 0).trans rfl; have hcz15_1 : w12.cell? ⟨gb108, 1, none⟩ = some (.int .i64 0) := (qf BK108.out 1).trans rfl; have hcz15_2 : w12.cell? ⟨gb108, 2, none⟩ = some (.int .i64 0) := (qf BK108.out 2).trans rfl; have hfz15_0 := qg BK108.out 0; have hfz15_1 := qg BK108.out 1; have hfz15_2 := qg BK108.out 2) | ((with_reducible refine qr (f := 119) rfl ?_); refine qe1 (some 12) rfl rfl Try.func119 (by kernel_rfl) rfl #[.pointer (some ⟨g, 0, none⟩), .int .i64 24] rfl yq67 ?_; (with_reducible refine (spec_l1Rd_below.calls g s0_0 t107 24 t109 t110 w0 _ ?side1 ?side2 A5.out).mono ?_); (case side1 => exact yq66); (case side2 => exact yq70); rintro e w16 ⟨rfl, hi, hb, hk⟩; refine ⟨_, rfl, ?_⟩; replace BK101 := Qz.mk (KeepBut.blk hk (g' := gb101) (o := .cells #[.string (⟨#[]⟩ : ByteArray), .int .i64 0, .int .i64 0] 35 (0, 0)) yq68 NB101_0.out (by simp)); replace BK108 := Qz.mk (KeepBut.blk hk (g' := gb108) (o := .cells #[.string t102, .int .i64 t104, .int .i64 t106] 35 (0, 0)) yq65 NB108_0.out (by simp)); replace HK := Qz.mk (KeepBut.trans yq71 hk (.inl rfl)); replace HB := Qz.mk (hb); replace HI0 := Qz.mk (hi); (try clear hb); (try clear hk); (try clear hi)) | ((with_reducible refine qr (f := 92) rfl ?_); refine qe1 (some 16) rfl rfl Try.func92 (by kernel_rfl) rfl #[.pointer (some ⟨g, 0, none⟩), .int .i64 0, .int .i64 1000000000000] rfl yq67 ?_; (with_reducible refine (spec_l1Rd_off.calls k g s0_0 t110 0 1000000000000 t111 t112 w0 _ ?side1 ?side2 A7.out).mono ?_); (case side1 => exact yq66); (case side2 => exact yq70); rintro e w17 ⟨rfl, hi, hb, hk⟩; refine ⟨_, rfl, ?_⟩; replace BK101 := Qz.mk (KeepBut.blk hk (g' := gb101) (o := .cells #[.string (⟨#[]⟩ : ByteArray), .int .i64 0, .int .i64 0] 35 (0, 0)) yq63 NB101_0.out (by simp)); replace BK108 := Qz.mk (KeepBut.blk hk (g' := gb108) (o := .cells #[.string t102, .int .i64 t104, .int .i64 t106] 35 (0, 0)) (by (with_reducible repeat (first | refine qh ?_ _ | refine qj ?_ | refine qi ?_ _)); exact BK108.out) NB108_0.out (by simp)); replace HK := Qz.mk (KeepBut.trans yq71 hk (.inl rfl)); replace HB := Qz.mk (hb); replace HI0 := Qz.mk (hi); (try clear hb); (try clear hk); (try clear hi); have hcz18_0 : w17.cell? ⟨gb108, 0, none⟩ = some (.string t102) := (qf BK108.out 0).trans rfl; have hcz18_1 : w17.cell? ⟨gb108, 1, none⟩ = some (.int .i64 t104) := (qf BK108.out 1).trans rfl; have hcz18_2 : w17.cell? ⟨gb108, 2, none⟩ = some (.int .i64 t106) := (qf BK108.out 2).trans rfl; have hfz18_0 := qg BK108.out 0; have hfz18_1 := qg BK108.out 1; have hfz18_2 := qg BK108.out 2; have hnb19 := NB101_0.out; have hnc19 := NB0_101.out; have hcz20_0 : w17.cell? ⟨gb101, 0, none⟩ = some (.string (⟨#[]⟩ : ByteArray)) := (qf BK101.out 0).trans rfl; have hcz20_1 : w17.cell? ⟨gb101, 1, none⟩ = some (.int .i64 0) := (qf BK101.out 1).trans rfl; have hcz20_2 : w17.cell? ⟨gb101, 2, none⟩ = some (.int .i64 0) := (qf BK101.out 2).trans rfl; have hfz20_0 := qg BK101.out 0; have hfz20_1 := qg BK101.out 1; have hfz20_2 := qg BK101.out 2))
  refine bodyPost_ret (results_cell_row rfl _ _ gb101 35 #[.string t102, .int .i64 t111, .int .i64 t106] (0, 0) _ rfl (by (with_reducible repeat (first | refine qh ?_ _ | refine qj ?_ | refine qi ?_ _)); refine blk_put (cs := #[.string t102, .int .i64 t111, .int .i64 0]) ?_ 2 _ rfl; (with_reducible repeat (first | refine qh ?_ _ | refine qj ?_ | refine qi ?_ _)); refine blk_put (cs := #[.string t102, .int .i64 0, .int .i64 0]) ?_ 1 _ rfl; (with_reducible repeat (first | refine qh ?_ _ | refine qj ?_ | refine qi ?_ _)); refine blk_put (cs := #[.string (⟨#[]⟩ : ByteArray), .int .i64 0, .int .i64 0]) ?_ 0 _ rfl; (with_reducible repeat (first | refine qh ?_ _ | refine qj ?_ | refine qi ?_ _)); refine blk_far ?_ NB101_108.out _; (with_reducible repeat (first | refine qh ?_ _ | refine qj ?_ | refine qi ?_ _)); exact BK101.out) Try.underlying35 rfl (by kernel_rfl)) rfl ?_
  exact ⟨by first | rfl | (simp [qq, qo] <;> rfl) | (simp [*, qq, qo] <;> rfl), by repeat (first | (with_reducible first | exact HI0.out | apply IsS178.alloc | apply IsS178.drewN | apply IsS178.drew | apply IsS178.set_1 | apply (fun h_ => IsS178.far h_ NB0_101.out _) | apply (fun h_ => IsS178.far h_ NB0_108.out _)) | exact HI0.out), by repeat (first | (with_reducible first | exact HB.out | apply qc | apply qa | apply qb | refine qe ?_ (IsS178.ge HI0.out) | refine qe ?_ GE101.out | refine qe ?_ GE108.out) | exact HB.out), by repeat (first | (with_reducible first | exact HK.out | apply KeepBut.set_ | apply qk | apply qn | apply ql | refine qw ?_ GW101.out _ | refine qw ?_ GW108.out _) | exact HK.out)⟩
 ·rw [if_neg c6] at H
  have c6b0 : (t109 == 0) = false := beq_eq_false_iff_ne.mpr c6
  have c6b1 : (t109 != 0) = true := bne_iff_ne.mpr c6
  by_cases c21 : t109 = 1
  ·rw [if_pos c21] at H
   have c21b0 : (t109 == 1) = true := beq_iff_eq.mpr c21
   have c21b1 : (t109 != 1) = false := bne_eq_false_iff_eq.mpr c21
   clear c21
   replace H := Option.bind_eq_some_iff.mp H
   obtain ⟨⟨t113, t114⟩, A220, H⟩ := H
   replace H : (some (t102, t104, t113, t114)) = some (r1, r2, r3, r4) := H
   have A22 := Qz.mk A220
   clear A220
   simp only [Option.some.injEq, Prod.mk.injEq] at H
   obtain ⟨rfl, rfl, rfl, rfl⟩ := H
   go_enter Try.func94, Try.ntmps94
   go_wp2_with (first | ((with_reducible refine qz (N := 2) rfl ?_); refine qh1 ?hg (N := 2) ?hd (cs := #[.string (⟨#[]⟩ : ByteArray), .int .i64 0, .int .i64 0]) (t := 35) ?hr ?_; (case hd => rfl); (case hg => rfl); (case hr => exact yq78); intro gb101 hg w23 hbox hb; replace HB := Qz.mk (qm yq73 hb); have BK101 := Qz.mk (hbox); have GW101 := Qz.mk ((yq76 : w.heap.size ≤ gb101)); have GE101 := Qz.mk ((Nat.le_trans HW0.out (yq76 : w.heap.size ≤ gb101) : w0.heap.size ≤ gb101)); replace HK := Qz.mk (KeepBut.trans yq69 (KeepBut.of_below hb g none) (.inl rfl)); have NB0_101 := Qz.mk ((by rw [hg]; exact Nat.ne_of_lt (IsS178.lt (show IsS178 w0 _ g s0_0 s0_1 from by repeat (first | (with_reducible first | exact HI0.out | apply IsS178.alloc | apply IsS178.drewN | apply IsS178.drew | apply IsS178.set_1) | exact HI0.out))) : g ≠ gb101)); have NB101_0 := Qz.mk ((by rw [hg]; exact Nat.ne_of_gt (IsS178.lt (show IsS178 w0 _ g s0_0 s0_1 from by repeat (first | (with_reducible first | exact HI0.out | apply IsS178.alloc | apply IsS178.drewN | apply IsS178.drew | apply IsS178.set_1) | exact HI0.out))) : gb101 ≠ g)); replace HI0 := Qz.mk (IsS178.below yq72 hb); clear hb hbox hg) | ((with_reducible refine qr (f := 158) rfl ?_); refine qe1 (some 5) rfl rfl Try.func158 (by kernel_rfl) rfl #[.pointer (some ⟨g, 0, none⟩)] rfl yq67 ?_; (with_reducible refine (spec_l1Rd_user.calls g s0_0 s0_1 t102 t103 w0 _ ?side1 ?side2 A2.out).mono ?_); (case side1 => exact yq62); (case side2 => exact yq64); rintro e w24 ⟨rfl, hi, hb, hk⟩; refine ⟨_, rfl, ?_⟩; replace BK101 := Qz.mk (KeepBut.blk hk (g' := gb101) (o := .cells #[.string (⟨#[]⟩ : ByteArray), .int .i64 0, .int .i64 0] 35 (0, 0)) yq63 NB101_0.out (by simp)); replace HK := Qz.mk (KeepBut.trans yq61 hk (.inl rfl)); replace HB := Qz.mk (hb); replace HI0 := Qz.mk (hi); (try clear hb); (try clear hk); (try clear hi)) | ((with_reducible refine qr (f := 157) rfl ?_); refine qe1 (some 7) rfl rfl Try.func157 (by kernel_rfl) rfl #[.pointer (some ⟨g, 0, none⟩), .int .i64 0, .int .i64 12] rfl yq67 ?_; (with_reducible refine (spec_l1Rd_near.calls k g s0_0 t103 0 12 t104 t105 w0 _ ?side1 ?side2 A3.out).mono ?_); (case side1 => exact yq62); (case side2 => exact yq64); rintro e w25 ⟨rfl, hi, hb, hk⟩; refine ⟨_, rfl, ?_⟩; replace BK101 := Qz.mk (KeepBut.blk hk (g' := gb101) (o := .cells #[.string (⟨#[]⟩ : ByteArray), .int .i64 0, .int .i64 0] 35 (0, 0)) yq63 NB101_0.out (by simp)); replace HK := Qz.mk (KeepBut.trans yq61 hk (.inl rfl)); replace HB := Qz.mk (hb); replace HI0 := Qz.mk (hi); (try clear hb); (try clear hk); (try clear hi)) | ((with_reducible refine qr (f := 119) rfl ?_); refine qe1 (some 9) rfl rfl Try.func119 (by kernel_rfl) rfl #[.pointer (some ⟨g, 0, none⟩), .int .i64 2] rfl yq67 ?_; (with_reducible refine (spec_l1Rd_below.calls g s0_0 t105 2 t106 t107 w0 _ ?side1 ?side2 A4.out).mono ?_); (case side1 => exact yq62); (case side2 => exact yq64); rintro e w26 ⟨rfl, hi, hb, hk⟩; refine ⟨_, rfl, ?_⟩; replace BK101 := Qz.mk (KeepBut.blk hk (g' := gb101) (o := .cells #[.string (⟨#[]⟩ : ByteArray), .int .i64 0, .int .i64 0] 35 (0, 0)) yq63 NB101_0.out (by simp)); replace HK := Qz.mk (KeepBut.trans yq61 hk (.inl rfl)); replace HB := Qz.mk (hb); replace HI0 := Qz.mk (hi); (try clear hb); (try clear hk); (try clear hi)) | ((with_reducible refine qz (N := 3) rfl ?_); refine qh1 ?hg (N := 3) ?hd (cs := #[.string (⟨#[]⟩ : ByteArray), .int .i64 0, .int .i64 0]) (t := 35) ?hr ?_; (case hd => rfl); (case hg => rfl); (case hr => exact yq78); intro gb108 hg w27 hbox hb; replace HB := Qz.mk (qm yq64 hb); have BK108 := Qz.mk (hbox); have GW108 := Qz.mk ((yq77 : w.heap.size ≤ gb108)); have GE108 := Qz.mk ((Nat.le_trans HW0.out (yq77 : w.heap.size ≤ gb108) : w0.heap.size ≤ gb108)); replace HK := Qz.mk (KeepBut.trans yq61 (KeepBut.of_below hb g none) (.inl rfl)); have NB101_108 := Qz.mk ((yq74 : gb101 ≠ gb108)); have NB108_101 := Qz.mk ((yq75 : gb108 ≠ gb101)); replace BK101 := Qz.mk (qf1 (g := gb101) (o := .cells #[.string (⟨#[]⟩ : ByteArray), .int .i64 0, .int .i64 0] 35 (0, 0)) yq63 hb); have NB0_108 := Qz.mk ((by rw [hg]; exact Nat.ne_of_lt (IsS178.lt (show IsS178 w0 _ g s0_0 t107 from by repeat (first | (with_reducible first | exact HI0.out | apply IsS178.alloc | apply IsS178.drewN | apply IsS178.drew | apply IsS178.set_1 | apply (fun h_ => IsS178.far h_ NB0_101.out _)) | exact HI0.out))) : g ≠ gb108)); have NB108_0 := Qz.mk ((by rw [hg]; exact Nat.ne_of_gt (IsS178.lt (show IsS178 w0 _ g s0_0 t107 from by repeat (first | (with_reducible first | exact HI0.out | apply IsS178.alloc | apply IsS178.drewN | apply IsS178.drew | apply IsS178.set_1 | apply (fun h_ => IsS178.far h_ NB0_101.out _)) | exact HI0.out))) : gb108 ≠ g)); replace HI0 := Qz.mk (IsS178.below yq62 hb); clear hb hbox hg; have hnb28 := NB108_101.out; have hnc28 := NB101_108.out; have hnb29 := NB108_0.out; have hnc29 := NB0_108.out; have hcz30_0 : w27.cell? ⟨gb108, 0, none⟩ = some (.string (⟨#[]⟩ : ByteArray)) := (qf BK108.out 0).trans rfl; have hcz30_1 : w27.cell? ⟨gb108, 1, none⟩ = some (.int .i64 0) := (qf BK108.out 1).trans rfl; have hcz30_2 : w27.cell? ⟨gb108, 2, none⟩ = some (.int .i64 0) := (qf BK108.out 2).trans rfl; have hfz30_0 := qg BK108.out 0; have hfz30_1 := qg BK108.out 1; have hfz30_2 := qg BK108.out 2) | ((with_reducible refine qr (f := 119) rfl ?_); refine qe1 (some 12) rfl rfl Try.func119 (by kernel_rfl) rfl #[.pointer (some ⟨g, 0, none⟩), .int .i64 24] rfl yq67 ?_; (with_reducible refine (spec_l1Rd_below.calls g s0_0 t107 24 t109 t110 w0 _ ?side1 ?side2 A5.out).mono ?_); (case side1 => exact yq66); (case side2 => exact yq70); rintro e w31 ⟨rfl, hi, hb, hk⟩; refine ⟨_, rfl, ?_⟩; replace BK101 := Qz.mk (KeepBut.blk hk (g' := gb101) (o := .cells #[.string (⟨#[]⟩ : ByteArray), .int .i64 0, .int .i64 0] 35 (0, 0)) yq68 NB101_0.out (by simp)); replace BK108 := Qz.mk (KeepBut.blk hk (g' := gb108) (o := .cells #[.string t102, .int .i64 t104, .int .i64 t106] 35 (0, 0)) yq65 NB108_0.out (by simp)); replace HK := Qz.mk (KeepBut.trans yq71 hk (.inl rfl)); replace HB := Qz.mk (hb); replace HI0 := Qz.mk (hi); (try clear hb); (try clear hk); (try clear hi)) | ((with_reducible refine qr (f := 92) rfl ?_); refine qe1 (some 21) rfl rfl Try.func92 (by kernel_rfl) rfl #[.pointer (some ⟨g, 0, none⟩), .int .i64 0, .int .i64 1] rfl yq67 ?_; (with_reducible refine (spec_l1Rd_off.calls k g s0_0 t110 0 1 t113 t114 w0 _ ?side1 ?side2 A22.out).mono ?_); (case side1 => exact yq66); (case side2 => exact yq70); rintro e w32 ⟨rfl, hi, hb, hk⟩; refine ⟨_, rfl, ?_⟩; replace BK101 := Qz.mk (KeepBut.blk hk (g' := gb101) (o := .cells #[.string (⟨#[]⟩ : ByteArray), .int .i64 0, .int .i64 0] 35 (0, 0)) yq63 NB101_0.out (by simp)); replace BK108 := Qz.mk (KeepBut.blk hk (g' := gb108) (o := .cells #[.string t102, .int .i64 t104, .int .i64 t106] 35 (0, 0)) (by (with_reducible repeat (first | refine qh ?_ _ | refine qj ?_ | refine qi ?_ _)); exact BK108.out) NB108_0.out (by simp)); replace HK := Qz.mk (KeepBut.trans yq71 hk (.inl rfl)); replace HB := Qz.mk (hb); replace HI0 := Qz.mk (hi); (try clear hb); (try clear hk); (try clear hi); have hcz33_0 : w32.cell? ⟨gb108, 0, none⟩ = some (.string t102) := (qf BK108.out 0).trans rfl; have hcz33_1 : w32.cell? ⟨gb108, 1, none⟩ = some (.int .i64 t104) := (qf BK108.out 1).trans rfl; have hcz33_2 : w32.cell? ⟨gb108, 2, none⟩ = some (.int .i64 t106) := (qf BK108.out 2).trans rfl; have hfz33_0 := qg BK108.out 0; have hfz33_1 := qg BK108.out 1; have hfz33_2 := qg BK108.out 2; have hnb34 := NB101_0.out; have hnc34 := NB0_101.out; have hcz35_0 : w32.cell? ⟨gb101, 0, none⟩ = some (.string (⟨#[]⟩ : ByteArray)) := (qf BK101.out 0).trans rfl; have hcz35_1 : w32.cell? ⟨gb101, 1, none⟩ = some (.int .i64 0) := (qf BK101.out 1).trans rfl; have hcz35_2 : w32.cell? ⟨gb101, 2, none⟩ = some (.int .i64 0) := (qf BK101.out 2).trans rfl; have hfz35_0 := qg BK101.out 0; have hfz35_1 := qg BK101.out 1; have hfz35_2 := qg BK101.out 2))
   refine bodyPost_ret (results_cell_row rfl _ _ gb101 35 #[.string t102, .int .i64 t104, .int .i64 t113] (0, 0) _ rfl (by (with_reducible repeat (first | refine qh ?_ _ | refine qj ?_ | refine qi ?_ _)); refine blk_put (cs := #[.string t102, .int .i64 t104, .int .i64 0]) ?_ 2 _ rfl; (with_reducible repeat (first | refine qh ?_ _ | refine qj ?_ | refine qi ?_ _)); refine blk_put (cs := #[.string t102, .int .i64 0, .int .i64 0]) ?_ 1 _ rfl; (with_reducible repeat (first | refine qh ?_ _ | refine qj ?_ | refine qi ?_ _)); refine blk_put (cs := #[.string (⟨#[]⟩ : ByteArray), .int .i64 0, .int .i64 0]) ?_ 0 _ rfl; (with_reducible repeat (first | refine qh ?_ _ | refine qj ?_ | refine qi ?_ _)); refine blk_far ?_ NB101_108.out _; (with_reducible repeat (first | refine qh ?_ _ | refine qj ?_ | refine qi ?_ _)); exact BK101.out) Try.underlying35 rfl (by kernel_rfl)) rfl ?_
   exact ⟨by first | rfl | (simp [qq, qo] <;> rfl) | (simp [*, qq, qo] <;> rfl), by repeat (first | (with_reducible first | exact HI0.out | apply IsS178.alloc | apply IsS178.drewN | apply IsS178.drew | apply IsS178.set_1 | apply (fun h_ => IsS178.far h_ NB0_101.out _) | apply (fun h_ => IsS178.far h_ NB0_108.out _)) | exact HI0.out), by repeat (first | (with_reducible first | exact HB.out | apply qc | apply qa | apply qb | refine qe ?_ (IsS178.ge HI0.out) | refine qe ?_ GE101.out | refine qe ?_ GE108.out) | exact HB.out), by repeat (first | (with_reducible first | exact HK.out | apply KeepBut.set_ | apply qk | apply qn | apply ql | refine qw ?_ GW101.out _ | refine qw ?_ GW108.out _) | exact HK.out)⟩
  ·rw [if_neg c21] at H
   have c21b0 : (t109 == 1) = false := beq_eq_false_iff_ne.mpr c21
   have c21b1 : (t109 != 1) = true := bne_iff_ne.mpr c21
   by_cases c36 : t109 = 2
   ·rw [if_pos c36] at H
    have c36b0 : (t109 == 2) = true := beq_iff_eq.mpr c36
    have c36b1 : (t109 != 2) = false := bne_eq_false_iff_eq.mpr c36
    clear c36
    replace H := Option.bind_eq_some_iff.mp H
    obtain ⟨⟨t115, t116⟩, A370, H⟩ := H
    replace H : (some (t115, t104, t106, t116)) = some (r1, r2, r3, r4) := H
    have A37 := Qz.mk A370
    clear A370
    simp only [Option.some.injEq, Prod.mk.injEq] at H
    obtain ⟨rfl, rfl, rfl, rfl⟩ := H
    go_enter Try.func94, Try.ntmps94
    go_wp2_with (first | ((with_reducible refine qz (N := 2) rfl ?_); refine qh1 ?hg (N := 2) ?hd (cs := #[.string (⟨#[]⟩ : ByteArray), .int .i64 0, .int .i64 0]) (t := 35) ?hr ?_; (case hd => rfl); (case hg => rfl); (case hr => exact yq78); intro gb101 hg w38 hbox hb; replace HB := Qz.mk (qm yq73 hb); have BK101 := Qz.mk (hbox); have GW101 := Qz.mk ((yq76 : w.heap.size ≤ gb101)); have GE101 := Qz.mk ((Nat.le_trans HW0.out (yq76 : w.heap.size ≤ gb101) : w0.heap.size ≤ gb101)); replace HK := Qz.mk (KeepBut.trans yq69 (KeepBut.of_below hb g none) (.inl rfl)); have NB0_101 := Qz.mk ((by rw [hg]; exact Nat.ne_of_lt (IsS178.lt (show IsS178 w0 _ g s0_0 s0_1 from by repeat (first | (with_reducible first | exact HI0.out | apply IsS178.alloc | apply IsS178.drewN | apply IsS178.drew | apply IsS178.set_1) | exact HI0.out))) : g ≠ gb101)); have NB101_0 := Qz.mk ((by rw [hg]; exact Nat.ne_of_gt (IsS178.lt (show IsS178 w0 _ g s0_0 s0_1 from by repeat (first | (with_reducible first | exact HI0.out | apply IsS178.alloc | apply IsS178.drewN | apply IsS178.drew | apply IsS178.set_1) | exact HI0.out))) : gb101 ≠ g)); replace HI0 := Qz.mk (IsS178.below yq72 hb); clear hb hbox hg) | ((with_reducible refine qr (f := 158) rfl ?_); refine qe1 (some 5) rfl rfl Try.func158 (by kernel_rfl) rfl #[.pointer (some ⟨g, 0, none⟩)] rfl yq67 ?_; (with_reducible refine (spec_l1Rd_user.calls g s0_0 s0_1 t102 t103 w0 _ ?side1 ?side2 A2.out).mono ?_); (case side1 => exact yq62); (case side2 => exact yq64); rintro e w39 ⟨rfl, hi, hb, hk⟩; refine ⟨_, rfl, ?_⟩; replace BK101 := Qz.mk (KeepBut.blk hk (g' := gb101) (o := .cells #[.string (⟨#[]⟩ : ByteArray), .int .i64 0, .int .i64 0] 35 (0, 0)) yq63 NB101_0.out (by simp)); replace HK := Qz.mk (KeepBut.trans yq61 hk (.inl rfl)); replace HB := Qz.mk (hb); replace HI0 := Qz.mk (hi); (try clear hb); (try clear hk); (try clear hi)) | ((with_reducible refine qr (f := 157) rfl ?_); refine qe1 (some 7) rfl rfl Try.func157 (by kernel_rfl) rfl #[.pointer (some ⟨g, 0, none⟩), .int .i64 0, .int .i64 12] rfl yq67 ?_; (with_reducible refine (spec_l1Rd_near.calls k g s0_0 t103 0 12 t104 t105 w0 _ ?side1 ?side2 A3.out).mono ?_); (case side1 => exact yq62); (case side2 => exact yq64); rintro e w40 ⟨rfl, hi, hb, hk⟩; refine ⟨_, rfl, ?_⟩; replace BK101 := Qz.mk (KeepBut.blk hk (g' := gb101) (o := .cells #[.string (⟨#[]⟩ : ByteArray), .int .i64 0, .int .i64 0] 35 (0, 0)) yq63 NB101_0.out (by simp)); replace HK := Qz.mk (KeepBut.trans yq61 hk (.inl rfl)); replace HB := Qz.mk (hb); replace HI0 := Qz.mk (hi); (try clear hb); (try clear hk); (try clear hi)) | ((with_reducible refine qr (f := 119) rfl ?_); refine qe1 (some 9) rfl rfl Try.func119 (by kernel_rfl) rfl #[.pointer (some ⟨g, 0, none⟩), .int .i64 2] rfl yq67 ?_; (with_reducible refine (spec_l1Rd_below.calls g s0_0 t105 2 t106 t107 w0 _ ?side1 ?side2 A4.out).mono ?_); (case side1 => exact yq62); (case side2 => exact yq64); rintro e w41 ⟨rfl, hi, hb, hk⟩; refine ⟨_, rfl, ?_⟩; replace BK101 := Qz.mk (KeepBut.blk hk (g' := gb101) (o := .cells #[.string (⟨#[]⟩ : ByteArray), .int .i64 0, .int .i64 0] 35 (0, 0)) yq63 NB101_0.out (by simp)); replace HK := Qz.mk (KeepBut.trans yq61 hk (.inl rfl)); replace HB := Qz.mk (hb); replace HI0 := Qz.mk (hi); (try clear hb); (try clear hk); (try clear hi)) | ((with_reducible refine qz (N := 3) rfl ?_); refine qh1 ?hg (N := 3) ?hd (cs := #[.string (⟨#[]⟩ : ByteArray), .int .i64 0, .int .i64 0]) (t := 35) ?hr ?_; (case hd => rfl); (case hg => rfl); (case hr => exact yq78); intro gb108 hg w42 hbox hb; replace HB := Qz.mk (qm yq64 hb); have BK108 := Qz.mk (hbox); have GW108 := Qz.mk ((yq77 : w.heap.size ≤ gb108)); have GE108 := Qz.mk ((Nat.le_trans HW0.out (yq77 : w.heap.size ≤ gb108) : w0.heap.size ≤ gb108)); replace HK := Qz.mk (KeepBut.trans yq61 (KeepBut.of_below hb g none) (.inl rfl)); have NB101_108 := Qz.mk ((yq74 : gb101 ≠ gb108)); have NB108_101 := Qz.mk ((yq75 : gb108 ≠ gb101)); replace BK101 := Qz.mk (qf1 (g := gb101) (o := .cells #[.string (⟨#[]⟩ : ByteArray), .int .i64 0, .int .i64 0] 35 (0, 0)) yq63 hb); have NB0_108 := Qz.mk ((by rw [hg]; exact Nat.ne_of_lt (IsS178.lt (show IsS178 w0 _ g s0_0 t107 from by repeat (first | (with_reducible first | exact HI0.out | apply IsS178.alloc | apply IsS178.drewN | apply IsS178.drew | apply IsS178.set_1 | apply (fun h_ => IsS178.far h_ NB0_101.out _)) | exact HI0.out))) : g ≠ gb108)); have NB108_0 := Qz.mk ((by rw [hg]; exact Nat.ne_of_gt (IsS178.lt (show IsS178 w0 _ g s0_0 t107 from by repeat (first | (with_reducible first | exact HI0.out | apply IsS178.alloc | apply IsS178.drewN | apply IsS178.drew | apply IsS178.set_1 | apply (fun h_ => IsS178.far h_ NB0_101.out _)) | exact HI0.out))) : gb108 ≠ g)); replace HI0 := Qz.mk (IsS178.below yq62 hb); clear hb hbox hg; have hnb43 := NB108_101.out; have hnc43 := NB101_108.out; have hnb44 := NB108_0.out; have hnc44 := NB0_108.out; have hcz45_0 : w42.cell? ⟨gb108, 0, none⟩ = some (.string (⟨#[]⟩ : ByteArray)) := (qf BK108.out 0).trans rfl; have hcz45_1 : w42.cell? ⟨gb108, 1, none⟩ = some (.int .i64 0) := (qf BK108.out 1).trans rfl; have hcz45_2 : w42.cell? ⟨gb108, 2, none⟩ = some (.int .i64 0) := (qf BK108.out 2).trans rfl; have hfz45_0 := qg BK108.out 0; have hfz45_1 := qg BK108.out 1; have hfz45_2 := qg BK108.out 2) | ((with_reducible refine qr (f := 119) rfl ?_); refine qe1 (some 12) rfl rfl Try.func119 (by kernel_rfl) rfl #[.pointer (some ⟨g, 0, none⟩), .int .i64 24] rfl yq67 ?_; (with_reducible refine (spec_l1Rd_below.calls g s0_0 t107 24 t109 t110 w0 _ ?side1 ?side2 A5.out).mono ?_); (case side1 => exact yq66); (case side2 => exact yq70); rintro e w46 ⟨rfl, hi, hb, hk⟩; refine ⟨_, rfl, ?_⟩; replace BK101 := Qz.mk (KeepBut.blk hk (g' := gb101) (o := .cells #[.string (⟨#[]⟩ : ByteArray), .int .i64 0, .int .i64 0] 35 (0, 0)) yq68 NB101_0.out (by simp)); replace BK108 := Qz.mk (KeepBut.blk hk (g' := gb108) (o := .cells #[.string t102, .int .i64 t104, .int .i64 t106] 35 (0, 0)) yq65 NB108_0.out (by simp)); replace HK := Qz.mk (KeepBut.trans yq71 hk (.inl rfl)); replace HB := Qz.mk (hb); replace HI0 := Qz.mk (hi); (try clear hb); (try clear hk); (try clear hi)) | ((with_reducible refine qr (f := 120) rfl ?_); refine qe1 (some 26) rfl rfl Try.func120 (by kernel_rfl) rfl #[.pointer (some ⟨g, 0, none⟩), .int .i64 45] rfl yq67 ?_; (with_reducible refine (spec_l1Rd_bytes.calls k g s0_0 t110 45 t115 t116 w0 _ ?side1 ?side2 A37.out).mono ?_); (case side1 => exact yq66); (case side2 => exact yq70); rintro e w47 ⟨rfl, hi, hb, hk⟩; refine ⟨_, rfl, ?_⟩; replace BK101 := Qz.mk (KeepBut.blk hk (g' := gb101) (o := .cells #[.string (⟨#[]⟩ : ByteArray), .int .i64 0, .int .i64 0] 35 (0, 0)) yq63 NB101_0.out (by simp)); replace BK108 := Qz.mk (KeepBut.blk hk (g' := gb108) (o := .cells #[.string t102, .int .i64 t104, .int .i64 t106] 35 (0, 0)) (by (with_reducible repeat (first | refine qh ?_ _ | refine qj ?_ | refine qi ?_ _)); exact BK108.out) NB108_0.out (by simp)); replace HK := Qz.mk (KeepBut.trans yq71 hk (.inl rfl)); replace HB := Qz.mk (hb); replace HI0 := Qz.mk (hi); (try clear hb); (try clear hk); (try clear hi); have hcz48_0 : w47.cell? ⟨gb108, 0, none⟩ = some (.string t102) := (qf BK108.out 0).trans rfl; have hcz48_1 : w47.cell? ⟨gb108, 1, none⟩ = some (.int .i64 t104) := (qf BK108.out 1).trans rfl; have hcz48_2 : w47.cell? ⟨gb108, 2, none⟩ = some (.int .i64 t106) := (qf BK108.out 2).trans rfl; have hfz48_0 := qg BK108.out 0; have hfz48_1 := qg BK108.out 1; have hfz48_2 := qg BK108.out 2; have hnb49 := NB101_0.out; have hnc49 := NB0_101.out; have hcz50_0 : w47.cell? ⟨gb101, 0, none⟩ = some (.string (⟨#[]⟩ : ByteArray)) := (qf BK101.out 0).trans rfl; have hcz50_1 : w47.cell? ⟨gb101, 1, none⟩ = some (.int .i64 0) := (qf BK101.out 1).trans rfl; have hcz50_2 : w47.cell? ⟨gb101, 2, none⟩ = some (.int .i64 0) := (qf BK101.out 2).trans rfl; have hfz50_0 := qg BK101.out 0; have hfz50_1 := qg BK101.out 1; have hfz50_2 := qg BK101.out 2))
    refine bodyPost_ret (results_cell_row rfl _ _ gb101 35 #[.string t115, .int .i64 t104, .int .i64 t106] (0, 0) _ rfl (by (with_reducible repeat (first | refine qh ?_ _ | refine qj ?_ | refine qi ?_ _)); refine blk_put (cs := #[.string t115, .int .i64 t104, .int .i64 0]) ?_ 2 _ rfl; (with_reducible repeat (first | refine qh ?_ _ | refine qj ?_ | refine qi ?_ _)); refine blk_put (cs := #[.string t115, .int .i64 0, .int .i64 0]) ?_ 1 _ rfl; (with_reducible repeat (first | refine qh ?_ _ | refine qj ?_ | refine qi ?_ _)); refine blk_put (cs := #[.string (⟨#[]⟩ : ByteArray), .int .i64 0, .int .i64 0]) ?_ 0 _ rfl; (with_reducible repeat (first | refine qh ?_ _ | refine qj ?_ | refine qi ?_ _)); refine blk_far ?_ NB101_108.out _; (with_reducible repeat (first | refine qh ?_ _ | refine qj ?_ | refine qi ?_ _)); exact BK101.out) Try.underlying35 rfl (by kernel_rfl)) rfl ?_
    exact ⟨by first | rfl | (simp [qq, qo] <;> rfl) | (simp [*, qq, qo] <;> rfl), by repeat (first | (with_reducible first | exact HI0.out | apply IsS178.alloc | apply IsS178.drewN | apply IsS178.drew | apply IsS178.set_1 | apply (fun h_ => IsS178.far h_ NB0_101.out _) | apply (fun h_ => IsS178.far h_ NB0_108.out _)) | exact HI0.out), by repeat (first | (with_reducible first | exact HB.out | apply qc | apply qa | apply qb | refine qe ?_ (IsS178.ge HI0.out) | refine qe ?_ GE101.out | refine qe ?_ GE108.out) | exact HB.out), by repeat (first | (with_reducible first | exact HK.out | apply KeepBut.set_ | apply qk | apply qn | apply ql | refine qw ?_ GW101.out _ | refine qw ?_ GW108.out _) | exact HK.out)⟩
   ·rw [if_neg c36] at H
    have c36b0 : (t109 == 2) = false := beq_eq_false_iff_ne.mpr c36
    have c36b1 : (t109 != 2) = true := bne_iff_ne.mpr c36
    simp only [Option.some.injEq, Prod.mk.injEq] at H
    obtain ⟨rfl, rfl, rfl, rfl⟩ := H
    go_enter Try.func94, Try.ntmps94
    go_wp2_with (first | ((with_reducible refine qz (N := 2) rfl ?_); refine qh1 ?hg (N := 2) ?hd (cs := #[.string (⟨#[]⟩ : ByteArray), .int .i64 0, .int .i64 0]) (t := 35) ?hr ?_; (case hd => rfl); (case hg => rfl); (case hr => exact yq78); intro gb101 hg w51 hbox hb; replace HB := Qz.mk (qm yq73 hb); have BK101 := Qz.mk (hbox); have GW101 := Qz.mk ((yq76 : w.heap.size ≤ gb101)); have GE101 := Qz.mk ((Nat.le_trans HW0.out (yq76 : w.heap.size ≤ gb101) : w0.heap.size ≤ gb101)); replace HK := Qz.mk (KeepBut.trans yq69 (KeepBut.of_below hb g none) (.inl rfl)); have NB0_101 := Qz.mk ((by rw [hg]; exact Nat.ne_of_lt (IsS178.lt (show IsS178 w0 _ g s0_0 s0_1 from by repeat (first | (with_reducible first | exact HI0.out | apply IsS178.alloc | apply IsS178.drewN | apply IsS178.drew | apply IsS178.set_1) | exact HI0.out))) : g ≠ gb101)); have NB101_0 := Qz.mk ((by rw [hg]; exact Nat.ne_of_gt (IsS178.lt (show IsS178 w0 _ g s0_0 s0_1 from by repeat (first | (with_reducible first | exact HI0.out | apply IsS178.alloc | apply IsS178.drewN | apply IsS178.drew | apply IsS178.set_1) | exact HI0.out))) : gb101 ≠ g)); replace HI0 := Qz.mk (IsS178.below yq72 hb); clear hb hbox hg) | ((with_reducible refine qr (f := 158) rfl ?_); refine qe1 (some 5) rfl rfl Try.func158 (by kernel_rfl) rfl #[.pointer (some ⟨g, 0, none⟩)] rfl yq67 ?_; (with_reducible refine (spec_l1Rd_user.calls g s0_0 s0_1 t102 t103 w0 _ ?side1 ?side2 A2.out).mono ?_); (case side1 => exact yq62); (case side2 => exact yq64); rintro e w52 ⟨rfl, hi, hb, hk⟩; refine ⟨_, rfl, ?_⟩; replace BK101 := Qz.mk (KeepBut.blk hk (g' := gb101) (o := .cells #[.string (⟨#[]⟩ : ByteArray), .int .i64 0, .int .i64 0] 35 (0, 0)) yq63 NB101_0.out (by simp)); replace HK := Qz.mk (KeepBut.trans yq61 hk (.inl rfl)); replace HB := Qz.mk (hb); replace HI0 := Qz.mk (hi); (try clear hb); (try clear hk); (try clear hi)) | ((with_reducible refine qr (f := 157) rfl ?_); refine qe1 (some 7) rfl rfl Try.func157 (by kernel_rfl) rfl #[.pointer (some ⟨g, 0, none⟩), .int .i64 0, .int .i64 12] rfl yq67 ?_; (with_reducible refine (spec_l1Rd_near.calls k g s0_0 t103 0 12 t104 t105 w0 _ ?side1 ?side2 A3.out).mono ?_); (case side1 => exact yq62); (case side2 => exact yq64); rintro e w53 ⟨rfl, hi, hb, hk⟩; refine ⟨_, rfl, ?_⟩; replace BK101 := Qz.mk (KeepBut.blk hk (g' := gb101) (o := .cells #[.string (⟨#[]⟩ : ByteArray), .int .i64 0, .int .i64 0] 35 (0, 0)) yq63 NB101_0.out (by simp)); replace HK := Qz.mk (KeepBut.trans yq61 hk (.inl rfl)); replace HB := Qz.mk (hb); replace HI0 := Qz.mk (hi); (try clear hb); (try clear hk); (try clear hi)) | ((with_reducible refine qr (f := 119) rfl ?_); refine qe1 (some 9) rfl rfl Try.func119 (by kernel_rfl) rfl #[.pointer (some ⟨g, 0, none⟩), .int .i64 2] rfl yq67 ?_; (with_reducible refine (spec_l1Rd_below.calls g s0_0 t105 2 t106 t107 w0 _ ?side1 ?side2 A4.out).mono ?_); (case side1 => exact yq62); (case side2 => exact yq64); rintro e w54 ⟨rfl, hi, hb, hk⟩; refine ⟨_, rfl, ?_⟩; replace BK101 := Qz.mk (KeepBut.blk hk (g' := gb101) (o := .cells #[.string (⟨#[]⟩ : ByteArray), .int .i64 0, .int .i64 0] 35 (0, 0)) yq63 NB101_0.out (by simp)); replace HK := Qz.mk (KeepBut.trans yq61 hk (.inl rfl)); replace HB := Qz.mk (hb); replace HI0 := Qz.mk (hi); (try clear hb); (try clear hk); (try clear hi)) | ((with_reducible refine qz (N := 3) rfl ?_); refine qh1 ?hg (N := 3) ?hd (cs := #[.string (⟨#[]⟩ : ByteArray), .int .i64 0, .int .i64 0]) (t := 35) ?hr ?_; (case hd => rfl); (case hg => rfl); (case hr => exact yq78); intro gb108 hg w55 hbox hb; replace HB := Qz.mk (qm yq64 hb); have BK108 := Qz.mk (hbox); have GW108 := Qz.mk ((yq77 : w.heap.size ≤ gb108)); have GE108 := Qz.mk ((Nat.le_trans HW0.out (yq77 : w.heap.size ≤ gb108) : w0.heap.size ≤ gb108)); replace HK := Qz.mk (KeepBut.trans yq61 (KeepBut.of_below hb g none) (.inl rfl)); have NB101_108 := Qz.mk ((yq74 : gb101 ≠ gb108)); have NB108_101 := Qz.mk ((yq75 : gb108 ≠ gb101)); replace BK101 := Qz.mk (qf1 (g := gb101) (o := .cells #[.string (⟨#[]⟩ : ByteArray), .int .i64 0, .int .i64 0] 35 (0, 0)) yq63 hb); have NB0_108 := Qz.mk ((by rw [hg]; exact Nat.ne_of_lt (IsS178.lt (show IsS178 w0 _ g s0_0 t107 from by repeat (first | (with_reducible first | exact HI0.out | apply IsS178.alloc | apply IsS178.drewN | apply IsS178.drew | apply IsS178.set_1 | apply (fun h_ => IsS178.far h_ NB0_101.out _)) | exact HI0.out))) : g ≠ gb108)); have NB108_0 := Qz.mk ((by rw [hg]; exact Nat.ne_of_gt (IsS178.lt (show IsS178 w0 _ g s0_0 t107 from by repeat (first | (with_reducible first | exact HI0.out | apply IsS178.alloc | apply IsS178.drewN | apply IsS178.drew | apply IsS178.set_1 | apply (fun h_ => IsS178.far h_ NB0_101.out _)) | exact HI0.out))) : gb108 ≠ g)); replace HI0 := Qz.mk (IsS178.below yq62 hb); clear hb hbox hg; have hnb56 := NB108_101.out; have hnc56 := NB101_108.out; have hnb57 := NB108_0.out; have hnc57 := NB0_108.out; have hcz58_0 : w55.cell? ⟨gb108, 0, none⟩ = some (.string (⟨#[]⟩ : ByteArray)) := (qf BK108.out 0).trans rfl; have hcz58_1 : w55.cell? ⟨gb108, 1, none⟩ = some (.int .i64 0) := (qf BK108.out 1).trans rfl; have hcz58_2 : w55.cell? ⟨gb108, 2, none⟩ = some (.int .i64 0) := (qf BK108.out 2).trans rfl; have hfz58_0 := qg BK108.out 0; have hfz58_1 := qg BK108.out 1; have hfz58_2 := qg BK108.out 2) | ((with_reducible refine qr (f := 119) rfl ?_); refine qe1 (some 12) rfl rfl Try.func119 (by kernel_rfl) rfl #[.pointer (some ⟨g, 0, none⟩), .int .i64 24] rfl yq67 ?_; (with_reducible refine (spec_l1Rd_below.calls g s0_0 t107 24 t109 t110 w0 _ ?side1 ?side2 A5.out).mono ?_); (case side1 => exact yq66); (case side2 => exact yq70); rintro e w59 ⟨rfl, hi, hb, hk⟩; refine ⟨_, rfl, ?_⟩; replace BK101 := Qz.mk (KeepBut.blk hk (g' := gb101) (o := .cells #[.string (⟨#[]⟩ : ByteArray), .int .i64 0, .int .i64 0] 35 (0, 0)) yq68 NB101_0.out (by simp)); replace BK108 := Qz.mk (KeepBut.blk hk (g' := gb108) (o := .cells #[.string t102, .int .i64 t104, .int .i64 t106] 35 (0, 0)) yq65 NB108_0.out (by simp)); replace HK := Qz.mk (KeepBut.trans yq71 hk (.inl rfl)); replace HB := Qz.mk (hb); replace HI0 := Qz.mk (hi); (try clear hb); (try clear hk); (try clear hi); have hcz60_0 : w59.cell? ⟨gb108, 0, none⟩ = some (.string t102) := (qf BK108.out 0).trans rfl; have hcz60_1 : w59.cell? ⟨gb108, 1, none⟩ = some (.int .i64 t104) := (qf BK108.out 1).trans rfl; have hcz60_2 : w59.cell? ⟨gb108, 2, none⟩ = some (.int .i64 t106) := (qf BK108.out 2).trans rfl; have hfz60_0 := qg BK108.out 0; have hfz60_1 := qg BK108.out 1; have hfz60_2 := qg BK108.out 2; have hnb61 := NB101_0.out; have hnc61 := NB0_101.out; have hcz62_0 : w59.cell? ⟨gb101, 0, none⟩ = some (.string (⟨#[]⟩ : ByteArray)) := (qf BK101.out 0).trans rfl; have hcz62_1 : w59.cell? ⟨gb101, 1, none⟩ = some (.int .i64 0) := (qf BK101.out 1).trans rfl; have hcz62_2 : w59.cell? ⟨gb101, 2, none⟩ = some (.int .i64 0) := (qf BK101.out 2).trans rfl; have hfz62_0 := qg BK101.out 0; have hfz62_1 := qg BK101.out 1; have hfz62_2 := qg BK101.out 2))
    refine bodyPost_ret (results_cell_row rfl _ _ gb101 35 #[.string t102, .int .i64 t104, .int .i64 t106] (0, 0) _ rfl (by (with_reducible repeat (first | refine qh ?_ _ | refine qj ?_ | refine qi ?_ _)); refine blk_put (cs := #[.string t102, .int .i64 t104, .int .i64 0]) ?_ 2 _ rfl; (with_reducible repeat (first | refine qh ?_ _ | refine qj ?_ | refine qi ?_ _)); refine blk_put (cs := #[.string t102, .int .i64 0, .int .i64 0]) ?_ 1 _ rfl; (with_reducible repeat (first | refine qh ?_ _ | refine qj ?_ | refine qi ?_ _)); refine blk_put (cs := #[.string (⟨#[]⟩ : ByteArray), .int .i64 0, .int .i64 0]) ?_ 0 _ rfl; (with_reducible repeat (first | refine qh ?_ _ | refine qj ?_ | refine qi ?_ _)); exact BK101.out) Try.underlying35 rfl (by kernel_rfl)) rfl ?_
    exact ⟨by first | rfl | (simp [qq, qo] <;> rfl) | (simp [*, qq, qo] <;> rfl), by repeat (first | (with_reducible first | exact HI0.out | apply IsS178.alloc | apply IsS178.drewN | apply IsS178.drew | apply IsS178.set_1 | apply (fun h_ => IsS178.far h_ NB0_101.out _) | apply (fun h_ => IsS178.far h_ NB0_108.out _)) | exact HI0.out), by repeat (first | (with_reducible first | exact HB.out | apply qc | apply qa | apply qb | refine qe ?_ (IsS178.ge HI0.out) | refine qe ?_ GE101.out | refine qe ?_ GE108.out) | exact HB.out), by repeat (first | (with_reducible first | exact HK.out | apply KeepBut.set_ | apply qk | apply qn | apply ql | refine qw ?_ GW101.out _ | refine qw ?_ GW108.out _) | exact HK.out)⟩
theorem yq79 {P : Prop} (h : P := by repeat (first | (with_reducible first | exact HK.out | apply KeepBut.set_ | apply qk | apply qn | apply ql | refine qw ?_ GW101.out _) | exact HK.out)) : P := h
theorem yq80 {P : Prop} (h : P := by repeat (first | (with_reducible first | exact HI0.out | apply IsS178.alloc | apply IsS178.drewN | apply IsS178.drew | apply IsS178.set_1 | apply (fun h_ => IsS178.far h_ NB0_101.out _)) | exact HI0.out)) : P := h
theorem yq81 {P : Prop} (h : P := by (with_reducible repeat (first | refine qh ?_ _ | refine qj ?_ | refine qi ?_ _)); exact BK101.out) : P := h
theorem yq82 {P : Prop} (h : P := by repeat (first | (with_reducible first | exact HB.out | apply qc | apply qa | apply qb | refine qe ?_ (IsS178.ge HI0.out) | refine qe ?_ GE101.out) | exact HB.out)) : P := h
theorem yq83 {P : Prop} (h : P := by repeat (first | (with_reducible first | exact HK.out | apply KeepBut.set_ | apply qk | apply qn | apply ql) | exact HK.out)) : P := h
theorem yq84 {P : Prop} (h : P := by (with_reducible repeat (first | refine qh ?_ _ | refine qj ?_ | refine qi ?_ _)); refine blk_put (cs := #[.string t102, .int .i64 t103, .int .i64 t104, .string (⟨#[]⟩ : ByteArray)]) ?_ 3 _ rfl; (with_reducible repeat (first | refine qh ?_ _ | refine qj ?_ | refine qi ?_ _)); refine blk_put (cs := #[.string t102, .int .i64 t103, .int .i64 0, .string (⟨#[]⟩ : ByteArray)]) ?_ 2 _ rfl; (with_reducible repeat (first | refine qh ?_ _ | refine qj ?_ | refine qi ?_ _)); refine blk_put (cs := #[.string t102, .int .i64 0, .int .i64 0, .string (⟨#[]⟩ : ByteArray)]) ?_ 1 _ rfl; (with_reducible repeat (first | refine qh ?_ _ | refine qj ?_ | refine qi ?_ _)); refine blk_put (cs := #[.string (⟨#[]⟩ : ByteArray), .int .i64 0, .int .i64 0, .string (⟨#[]⟩ : ByteArray)]) ?_ 0 _ rfl; (with_reducible repeat (first | refine qh ?_ _ | refine qj ?_ | refine qi ?_ _)); exact BK108.out) : P := h
theorem yq85 {P : Prop} (h : P := by (with_reducible repeat (first | refine qh ?_ _ | refine qj ?_ | refine qi ?_ _)); refine blk_far ?_ NB101_108.out _; (with_reducible repeat (first | refine qh ?_ _ | refine qj ?_ | refine qi ?_ _)); refine blk_far ?_ NB101_108.out _; (with_reducible repeat (first | refine qh ?_ _ | refine qj ?_ | refine qi ?_ _)); refine blk_far ?_ NB101_108.out _; (with_reducible repeat (first | refine qh ?_ _ | refine qj ?_ | refine qi ?_ _)); refine blk_far ?_ NB101_108.out _; (with_reducible repeat (first | refine qh ?_ _ | refine qj ?_ | refine qi ?_ _)); exact BK101.out) : P := h
theorem yq86 {P : Prop} (h : P := by (try simp only [List.map_toArray, List.map_cons, List.map_nil]); first | done | rfl) : P := h
theorem yq87 {P : Prop} (h : P := by rw [hg]; exact Nat.ne_of_lt (blk_lt (g := gb101) (o := .cells #[.string (⟨#[]⟩ : ByteArray), .int .i64 0, .int .i64 0, .string (⟨#[]⟩ : ByteArray)] 64 (0, 0)) yq81)) : P := h
theorem yq88 {P : Prop} (h : P := by rw [hg]; exact Nat.ne_of_gt (blk_lt (g := gb101) (o := .cells #[.string (⟨#[]⟩ : ByteArray), .int .i64 0, .int .i64 0, .string (⟨#[]⟩ : ByteArray)] 64 (0, 0)) yq81)) : P := h
theorem yq89 {P : Prop} (h : P := by repeat (first | (with_reducible first | exact HI0.out | apply IsS178.alloc | apply IsS178.drewN | apply IsS178.drew | apply IsS178.set_1) | exact HI0.out)) : P := h
theorem yq90 {P : Prop} (h : P := by rw [hg]; exact (qg1 (w := w) (g := g) (row := none) yq83)) : P := h
theorem yq91 {P : Prop} (h : P := by rw [hg]; exact (qg1 (w := w) (g := g) (row := none) yq79)) : P := h
theorem yq92 {P : Prop} (h : P := by repeat (first | (with_reducible first | exact HB.out | apply qc | apply qa | apply qb | refine qe ?_ (IsS178.ge HI0.out)) | exact HB.out)) : P := h
theorem yq93 {P : Prop} (h : P := by repeat (first | (with_reducible first | exact HI0.out | apply IsS178.alloc | apply IsS178.drewN | apply IsS178.drew | apply IsS178.set_1 | apply (fun h_ => IsS178.far h_ NB0_101.out _) | apply (fun h_ => IsS178.far h_ NB0_108.out _)) | exact HI0.out)) : P := h
def spec_l1Rd_entry.f (k : Nat) (s0_0 : List Int) (s0_1 : Int) : Option (ByteArray × Int × Int × ByteArray × Int) := (spec_l1Rd_key.f k s0_0 s0_1).bind fun bt102 => ((spec_l1Rd_value.f s0_0 bt102.2.2.2).bind fun bt106 => (if bt102.2.2.1 = 0 then ((spec_l1Rd_once.f s0_0 bt106.2 12).bind fun bt109 => (if bt109.1 = true then (some (bt102.1, bt102.2.1, bt102.2.2.1, bt106.1, bt109.2)) else (some (bt102.1, bt102.2.1, bt102.2.2.1, (⟨#[]⟩ : ByteArray), bt109.2)))) else (some (bt102.1, bt102.2.1, bt102.2.2.1, bt106.1, bt106.2))))
set_option maxHeartbeats 8000000 in
set_option maxRecDepth 100000 in
theorem spec_l1Rd_entry.calls (k : Nat) (g : Nat) (s0_0 : List Int) (s0_1 : Int) (r1 : ByteArray) (r2 : Int) (r3 : Int) (r4 : ByteArray) (r5 : Int) (w0 w : World) (hI : IsS178 w0 w g s0_0 s0_1) (hB : Below w0.heap.size w0 w) (h : spec_l1Rd_entry.f k s0_0 s0_1 = some (r1, r2, r3, r4, r5)) :
  Calls Try.prog 155 #[.pointer (some ⟨g, 0, none⟩)] w fun e w' => e = .returned (.agg #[.string r1, .int .i64 r2, .int .i64 r3, .string r4]) ∧ IsS178 w0 w' g s0_0 r5 ∧ Below w0.heap.size w0 w' ∧ KeepBut w w' g none := by
 have hu64 := Try.underlying64
 have HI0 := Qz.mk hI
 have HK := Qz.mk (KeepBut.refl w g none)
 have HL := Qz.mk hB.size
 clear hI
 have HW0 := Qz.mk hB.size
 have HB := Qz.mk hB
 clear hB
 have H : ((spec_l1Rd_key.f k s0_0 s0_1).bind fun bt102 => ((spec_l1Rd_value.f s0_0 bt102.2.2.2).bind fun bt106 => (if bt102.2.2.1 = 0 then ((spec_l1Rd_once.f s0_0 bt106.2 12).bind fun bt109 => (if bt109.1 = true then (some (bt102.1, bt102.2.1, bt102.2.2.1, bt106.1, bt109.2)) else (some (bt102.1, bt102.2.1, bt102.2.2.1, (⟨#[]⟩ : ByteArray), bt109.2)))) else (some (bt102.1, bt102.2.1, bt102.2.2.1, bt106.1, bt106.2))))) = some (r1, r2, r3, r4, r5) := h
 clear h
 replace H := Option.bind_eq_some_iff.mp H
 obtain ⟨⟨t102, t103, t104, t105⟩, A20, H⟩ := H
 replace H : ((spec_l1Rd_value.f s0_0 t105).bind fun bt106 => (if t104 = 0 then ((spec_l1Rd_once.f s0_0 bt106.2 12).bind fun bt109 => (if bt109.1 = true then (some (t102, t103, t104, bt106.1, bt109.2)) else (some (t102, t103, t104, (⟨#[]⟩ : ByteArray), bt109.2)))) else (some (t102, t103, t104, bt106.1, bt106.2)))) = some (r1, r2, r3, r4, r5) := H
 have A2 := Qz.mk A20
 clear A20
 replace H := Option.bind_eq_some_iff.mp H
 obtain ⟨⟨t106, t107⟩, A30, H⟩ := H
 replace H : (if t104 = 0 then ((spec_l1Rd_once.f s0_0 t107 12).bind fun bt109 => (if bt109.1 = true then (some (t102, t103, t104, t106, bt109.2)) else (some (t102, t103, t104, (⟨#[]⟩ : ByteArray), bt109.2)))) else (some (t102, t103, t104, t106, t107))) = some (r1, r2, r3, r4, r5) := H
 have A3 := Qz.mk A30
 clear A30
 by_cases c4 : t104 = 0
 ·rw [if_pos c4] at H
  have c4b0 : (t104 == 0) = true := beq_iff_eq.mpr c4
  have c4b1 : (t104 != 0) = false := bne_eq_false_iff_eq.mpr c4
  clear c4
  replace H := Option.bind_eq_some_iff.mp H
  obtain ⟨⟨t109, t110⟩, A50, H⟩ := H
  replace H : (if t109 = true then (some (t102, t103, t104, t106, t110)) else (some (t102, t103, t104, (⟨#[]⟩ : ByteArray), t110))) = some (r1, r2, r3, r4, r5) := H
  have A5 := Qz.mk A50
  clear A50
  by_cases c6 : t109 = true
  ·subst c6
   have H1 : (some (t102, t103, t104, t106, t110)) = some (r1, r2, r3, r4, r5) := by rw [if_pos rfl] at H; exact H
   clear H
   have H := H1
   clear H1
   simp only [Option.some.injEq, Prod.mk.injEq] at H
   obtain ⟨rfl, rfl, rfl, rfl, rfl⟩ := H
   go_enter Try.func155, Try.ntmps155
   go_wp2_with (first | ((with_reducible refine qz (N := 2) rfl ?_); refine qh1 ?hg (N := 2) ?hd (cs := #[.string (⟨#[]⟩ : ByteArray), .int .i64 0, .int .i64 0, .string (⟨#[]⟩ : ByteArray)]) (t := 64) ?hr ?_; (case hd => rfl); (case hg => rfl); (case hr => first | (go_simp; done) | (go_simp; rfl)); intro gb101 hg w7 hbox hb; replace HB := Qz.mk (qm yq92 hb); have BK101 := Qz.mk (hbox); have GW101 := Qz.mk ((yq90 : w.heap.size ≤ gb101)); have GE101 := Qz.mk ((Nat.le_trans HW0.out (yq90 : w.heap.size ≤ gb101) : w0.heap.size ≤ gb101)); replace HK := Qz.mk (KeepBut.trans yq83 (KeepBut.of_below hb g none) (.inl rfl)); have NB0_101 := Qz.mk ((by rw [hg]; exact Nat.ne_of_lt (IsS178.lt (show IsS178 w0 _ g s0_0 s0_1 from by repeat (first | (with_reducible first | exact HI0.out | apply IsS178.alloc | apply IsS178.drewN | apply IsS178.drew | apply IsS178.set_1) | exact HI0.out))) : g ≠ gb101)); have NB101_0 := Qz.mk ((by rw [hg]; exact Nat.ne_of_gt (IsS178.lt (show IsS178 w0 _ g s0_0 s0_1 from by repeat (first | (with_reducible first | exact HI0.out | apply IsS178.alloc | apply IsS178.drewN | apply IsS178.drew | apply IsS178.set_1) | exact HI0.out))) : gb101 ≠ g)); replace HI0 := Qz.mk (IsS178.below yq89 hb); clear hb hbox hg) | ((with_reducible refine qr (f := 94) rfl ?_); refine qe1 (some 5) rfl rfl Try.func94 (by kernel_rfl) rfl #[.pointer (some ⟨g, 0, none⟩)] rfl yq86 ?_; (with_reducible refine (spec_l1Rd_key.calls k g s0_0 s0_1 t102 t103 t104 t105 w0 _ ?side1 ?side2 A2.out).mono ?_); (case side1 => exact yq80); (case side2 => exact yq82); rintro e w8 ⟨rfl, hi, hb, hk⟩; refine ⟨_, rfl, ?_⟩; replace BK101 := Qz.mk (KeepBut.blk hk (g' := gb101) (o := .cells #[.string (⟨#[]⟩ : ByteArray), .int .i64 0, .int .i64 0, .string (⟨#[]⟩ : ByteArray)] 64 (0, 0)) yq81 NB101_0.out (by simp)); replace HK := Qz.mk (KeepBut.trans yq79 hk (.inl rfl)); replace HB := Qz.mk (hb); replace HI0 := Qz.mk (hi); (try clear hb); (try clear hk); (try clear hi)) | ((with_reducible refine qr (f := 187) rfl ?_); refine qe1 (some 7) rfl rfl Try.func187 (by kernel_rfl) rfl #[.pointer (some ⟨g, 0, none⟩)] rfl yq86 ?_; (with_reducible refine (spec_l1Rd_value.calls g s0_0 t105 t106 t107 w0 _ ?side1 ?side2 A3.out).mono ?_); (case side1 => exact yq80); (case side2 => exact yq82); rintro e w9 ⟨rfl, hi, hb, hk⟩; refine ⟨_, rfl, ?_⟩; replace BK101 := Qz.mk (KeepBut.blk hk (g' := gb101) (o := .cells #[.string (⟨#[]⟩ : ByteArray), .int .i64 0, .int .i64 0, .string (⟨#[]⟩ : ByteArray)] 64 (0, 0)) yq81 NB101_0.out (by simp)); replace HK := Qz.mk (KeepBut.trans yq79 hk (.inl rfl)); replace HB := Qz.mk (hb); replace HI0 := Qz.mk (hi); (try clear hb); (try clear hk); (try clear hi)) | ((with_reducible refine qz (N := 3) rfl ?_); refine qh1 ?hg (N := 3) ?hd (cs := #[.string (⟨#[]⟩ : ByteArray), .int .i64 0, .int .i64 0, .string (⟨#[]⟩ : ByteArray)]) (t := 64) ?hr ?_; (case hd => rfl); (case hg => rfl); (case hr => first | (go_simp; done) | (go_simp; rfl)); intro gb108 hg w10 hbox hb; replace HB := Qz.mk (qm yq82 hb); have BK108 := Qz.mk (hbox); have GW108 := Qz.mk ((yq91 : w.heap.size ≤ gb108)); have GE108 := Qz.mk ((Nat.le_trans HW0.out (yq91 : w.heap.size ≤ gb108) : w0.heap.size ≤ gb108)); replace HK := Qz.mk (KeepBut.trans yq79 (KeepBut.of_below hb g none) (.inl rfl)); have NB101_108 := Qz.mk ((yq87 : gb101 ≠ gb108)); have NB108_101 := Qz.mk ((yq88 : gb108 ≠ gb101)); replace BK101 := Qz.mk (qf1 (g := gb101) (o := .cells #[.string (⟨#[]⟩ : ByteArray), .int .i64 0, .int .i64 0, .string (⟨#[]⟩ : ByteArray)] 64 (0, 0)) yq81 hb); have NB0_108 := Qz.mk ((by rw [hg]; exact Nat.ne_of_lt (IsS178.lt (show IsS178 w0 _ g s0_0 t107 from by repeat (first | (with_reducible first | exact HI0.out | apply IsS178.alloc | apply IsS178.drewN | apply IsS178.drew | apply IsS178.set_1 | apply (fun h_ => IsS178.far h_ NB0_101.out _)) | exact HI0.out))) : g ≠ gb108)); have NB108_0 := Qz.mk ((by rw [hg]; exact Nat.ne_of_gt (IsS178.lt (show IsS178 w0 _ g s0_0 t107 from by repeat (first | (with_reducible first | exact HI0.out | apply IsS178.alloc | apply IsS178.drewN | apply IsS178.drew | apply IsS178.set_1 | apply (fun h_ => IsS178.far h_ NB0_101.out _)) | exact HI0.out))) : gb108 ≠ g)); replace HI0 := Qz.mk (IsS178.below yq80 hb); clear hb hbox hg; have hnb11 := NB108_101.out; have hnc11 := NB101_108.out; have hnb12 := NB108_0.out; have hnc12 := NB0_108.out; have hcz13_0 : w10.cell? ⟨gb108, 0, none⟩ = some (.string (⟨#[]⟩ : ByteArray)) := (qf BK108.out 0).trans rfl; have hcz13_1 : w10.cell? ⟨gb108, 1, none⟩ = some (.int .i64 0) := (qf BK108.out 1).trans rfl; have hcz13_2 : w10.cell? ⟨gb108, 2, none⟩ = some (.int .i64 0) := (qf BK108.out 2).trans rfl; have hcz13_3 : w10.cell? ⟨gb108, 3, none⟩ = some (.string (⟨#[]⟩ : ByteArray)) := (qf BK108.out 3).trans rfl; have hfz13_0 := qg BK108.out 0; have hfz13_1 := qg BK108.out 1; have hfz13_2 := qg BK108.out 2; have hfz13_3 := qg BK108.out 3) | (go_at_call 156; (with_reducible refine (spec_l1Rd_once.calls g s0_0 t107 12 true t110 w0 _ ?side1 ?side2 A5.out).mono ?_); (case side1 => exact yq93); (case side2 => repeat (first | (with_reducible first | exact HB.out | apply qc | apply qa | apply qb | refine qe ?_ (IsS178.ge HI0.out) | refine qe ?_ GE101.out | refine qe ?_ GE108.out) | exact HB.out)); rintro e w14 ⟨rfl, hi, hb, hk⟩; replace BK101 := Qz.mk (KeepBut.blk hk (g' := gb101) (o := .cells #[.string (⟨#[]⟩ : ByteArray), .int .i64 0, .int .i64 0, .string (⟨#[]⟩ : ByteArray)] 64 (0, 0)) yq85 NB101_0.out (by simp)); replace BK108 := Qz.mk (KeepBut.blk hk (g' := gb108) (o := .cells #[.string t102, .int .i64 t103, .int .i64 t104, .string t106] 64 (0, 0)) yq84 NB108_0.out (by simp)); replace HK := Qz.mk (KeepBut.trans (by repeat (first | (with_reducible first | exact HK.out | apply KeepBut.set_ | apply qk | apply qn | apply ql | refine qw ?_ GW101.out _ | refine qw ?_ GW108.out _) | exact HK.out)) hk (.inl rfl)); replace HB := Qz.mk (hb); replace HI0 := Qz.mk (hi); (try clear hb); (try clear hk); (try clear hi); have hcz15_0 : w14.cell? ⟨gb108, 0, none⟩ = some (.string t102) := (qf BK108.out 0).trans rfl; have hcz15_1 : w14.cell? ⟨gb108, 1, none⟩ = some (.int .i64 t103) := (qf BK108.out 1).trans rfl; have hcz15_2 : w14.cell? ⟨gb108, 2, none⟩ = some (.int .i64 t104) := (qf BK108.out 2).trans rfl; have hcz15_3 : w14.cell? ⟨gb108, 3, none⟩ = some (.string t106) := (qf BK108.out 3).trans rfl; have hfz15_0 := qg BK108.out 0; have hfz15_1 := qg BK108.out 1; have hfz15_2 := qg BK108.out 2; have hfz15_3 := qg BK108.out 3; have hnb16 := NB101_0.out; have hnc16 := NB0_101.out; have hcz17_0 : w14.cell? ⟨gb101, 0, none⟩ = some (.string (⟨#[]⟩ : ByteArray)) := (qf BK101.out 0).trans rfl; have hcz17_1 : w14.cell? ⟨gb101, 1, none⟩ = some (.int .i64 0) := (qf BK101.out 1).trans rfl; have hcz17_2 : w14.cell? ⟨gb101, 2, none⟩ = some (.int .i64 0) := (qf BK101.out 2).trans rfl; have hcz17_3 : w14.cell? ⟨gb101, 3, none⟩ = some (.string (⟨#[]⟩ : ByteArray)) := (qf BK101.out 3).trans rfl; have hfz17_0 := qg BK101.out 0; have hfz17_1 := qg BK101.out 1; have hfz17_2 := qg BK101.out 2; have hfz17_3 := qg BK101.out 3))
   refine bodyPost_ret (results_cell_row rfl _ _ gb101 64 #[.string t102, .int .i64 t103, .int .i64 t104, .string t106] (0, 0) _ rfl (by (with_reducible repeat (first | refine qh ?_ _ | refine qj ?_ | refine qi ?_ _)); refine blk_put (cs := #[.string t102, .int .i64 t103, .int .i64 t104, .string (⟨#[]⟩ : ByteArray)]) ?_ 3 _ rfl; (with_reducible repeat (first | refine qh ?_ _ | refine qj ?_ | refine qi ?_ _)); refine blk_put (cs := #[.string t102, .int .i64 t103, .int .i64 0, .string (⟨#[]⟩ : ByteArray)]) ?_ 2 _ rfl; (with_reducible repeat (first | refine qh ?_ _ | refine qj ?_ | refine qi ?_ _)); refine blk_put (cs := #[.string t102, .int .i64 0, .int .i64 0, .string (⟨#[]⟩ : ByteArray)]) ?_ 1 _ rfl; (with_reducible repeat (first | refine qh ?_ _ | refine qj ?_ | refine qi ?_ _)); refine blk_put (cs := #[.string (⟨#[]⟩ : ByteArray), .int .i64 0, .int .i64 0, .string (⟨#[]⟩ : ByteArray)]) ?_ 0 _ rfl; (with_reducible repeat (first | refine qh ?_ _ | refine qj ?_ | refine qi ?_ _)); exact BK101.out) Try.underlying64 rfl (by kernel_rfl)) rfl ?_
   exact ⟨by first | rfl | (simp [qq, qo] <;> rfl) | (simp [*, qq, qo] <;> rfl), by repeat (first | (with_reducible first | exact HI0.out | apply IsS178.alloc | apply IsS178.drewN | apply IsS178.drew | apply IsS178.set_1 | apply (fun h_ => IsS178.far h_ NB0_101.out _) | apply (fun h_ => IsS178.far h_ NB0_108.out _)) | exact HI0.out), by repeat (first | (with_reducible first | exact HB.out | apply qc | apply qa | apply qb | refine qe ?_ (IsS178.ge HI0.out) | refine qe ?_ GE101.out | refine qe ?_ GE108.out) | exact HB.out), by repeat (first | (with_reducible first | exact HK.out | apply KeepBut.set_ | apply qk | apply qn | apply ql | refine qw ?_ GW101.out _ | refine qw ?_ GW108.out _) | exact HK.out)⟩
  ·replace c6 := Bool.eq_false_iff.mpr c6
   subst c6
   have H1 : (some (t102, t103, t104, (⟨#[]⟩ : ByteArray), t110)) = some (r1, r2, r3, r4, r5) := by rw [if_neg (show ¬ (false = true) by decide)] at H; exact H
   clear H
   have H := H1
   clear H1
   simp only [Option.some.injEq, Prod.mk.injEq] at H
   obtain ⟨rfl, rfl, rfl, rfl, rfl⟩ := H
   go_enter Try.func155, Try.ntmps155
   go_wp2_with (first | ((with_reducible refine qz (N := 2) rfl ?_); refine qh1 ?hg (N := 2) ?hd (cs := #[.string (⟨#[]⟩ : ByteArray), .int .i64 0, .int .i64 0, .string (⟨#[]⟩ : ByteArray)]) (t := 64) ?hr ?_; (case hd => rfl); (case hg => rfl); (case hr => first | (go_simp; done) | (go_simp; rfl)); intro gb101 hg w18 hbox hb; replace HB := Qz.mk (qm yq92 hb); have BK101 := Qz.mk (hbox); have GW101 := Qz.mk ((yq90 : w.heap.size ≤ gb101)); have GE101 := Qz.mk ((Nat.le_trans HW0.out (yq90 : w.heap.size ≤ gb101) : w0.heap.size ≤ gb101)); replace HK := Qz.mk (KeepBut.trans yq83 (KeepBut.of_below hb g none) (.inl rfl)); have NB0_101 := Qz.mk ((by rw [hg]; exact Nat.ne_of_lt (IsS178.lt (show IsS178 w0 _ g s0_0 s0_1 from by repeat (first | (with_reducible first | exact HI0.out | apply IsS178.alloc | apply IsS178.drewN | apply IsS178.drew | apply IsS178.set_1) | exact HI0.out))) : g ≠ gb101)); have NB101_0 := Qz.mk ((by rw [hg]; exact Nat.ne_of_gt (IsS178.lt (show IsS178 w0 _ g s0_0 s0_1 from by repeat (first | (with_reducible first | exact HI0.out | apply IsS178.alloc | apply IsS178.drewN | apply IsS178.drew | apply IsS178.set_1) | exact HI0.out))) : gb101 ≠ g)); replace HI0 := Qz.mk (IsS178.below yq89 hb); clear hb hbox hg) | ((with_reducible refine qr (f := 94) rfl ?_); refine qe1 (some 5) rfl rfl Try.func94 (by kernel_rfl) rfl #[.pointer (some ⟨g, 0, none⟩)] rfl yq86 ?_; (with_reducible refine (spec_l1Rd_key.calls k g s0_0 s0_1 t102 t103 t104 t105 w0 _ ?side1 ?side2 A2.out).mono ?_); (case side1 => exact yq80); (case side2 => exact yq82); rintro e w19 ⟨rfl, hi, hb, hk⟩; refine ⟨_, rfl, ?_⟩; replace BK101 := Qz.mk (KeepBut.blk hk (g' := gb101) (o := .cells #[.string (⟨#[]⟩ : ByteArray), .int .i64 0, .int .i64 0, .string (⟨#[]⟩ : ByteArray)] 64 (0, 0)) yq81 NB101_0.out (by simp)); replace HK := Qz.mk (KeepBut.trans yq79 hk (.inl rfl)); replace HB := Qz.mk (hb); replace HI0 := Qz.mk (hi); (try clear hb); (try clear hk); (try clear hi)) | ((with_reducible refine qr (f := 187) rfl ?_); refine qe1 (some 7) rfl rfl Try.func187 (by kernel_rfl) rfl #[.pointer (some ⟨g, 0, none⟩)] rfl yq86 ?_; (with_reducible refine (spec_l1Rd_value.calls g s0_0 t105 t106 t107 w0 _ ?side1 ?side2 A3.out).mono ?_); (case side1 => exact yq80); (case side2 => exact yq82); rintro e w20 ⟨rfl, hi, hb, hk⟩; refine ⟨_, rfl, ?_⟩; replace BK101 := Qz.mk (KeepBut.blk hk (g' := gb101) (o := .cells #[.string (⟨#[]⟩ : ByteArray), .int .i64 0, .int .i64 0, .string (⟨#[]⟩ : ByteArray)] 64 (0, 0)) yq81 NB101_0.out (by simp)); replace HK := Qz.mk (KeepBut.trans yq79 hk (.inl rfl)); replace HB := Qz.mk (hb); replace HI0 := Qz.mk (hi); (try clear hb); (try clear hk); (try clear hi)) | ((with_reducible refine qz (N := 3) rfl ?_); refine qh1 ?hg (N := 3) ?hd (cs := #[.string (⟨#[]⟩ : ByteArray), .int .i64 0, .int .i64 0, .string (⟨#[]⟩ : ByteArray)]) (t := 64) ?hr ?_; (case hd => rfl); (case hg => rfl); (case hr => first | (go_simp; done) | (go_simp; rfl)); intro gb108 hg w21 hbox hb; replace HB := Qz.mk (qm yq82 hb); have BK108 := Qz.mk (hbox); have GW108 := Qz.mk ((yq91 : w.heap.size ≤ gb108)); have GE108 := Qz.mk ((Nat.le_trans HW0.out (yq91 : w.heap.size ≤ gb108) : w0.heap.size ≤ gb108)); replace HK := Qz.mk (KeepBut.trans yq79 (KeepBut.of_below hb g none) (.inl rfl)); have NB101_108 := Qz.mk ((yq87 : gb101 ≠ gb108)); have NB108_101 := Qz.mk ((yq88 : gb108 ≠ gb101)); replace BK101 := Qz.mk (qf1 (g := gb101) (o := .cells #[.string (⟨#[]⟩ : ByteArray), .int .i64 0, .int .i64 0, .string (⟨#[]⟩ : ByteArray)] 64 (0, 0)) yq81 hb); have NB0_108 := Qz.mk ((by rw [hg]; exact Nat.ne_of_lt (IsS178.lt (show IsS178 w0 _ g s0_0 t107 from by repeat (first | (with_reducible first | exact HI0.out | apply IsS178.alloc | apply IsS178.drewN | apply IsS178.drew | apply IsS178.set_1 | apply (fun h_ => IsS178.far h_ NB0_101.out _)) | exact HI0.out))) : g ≠ gb108)); have NB108_0 := Qz.mk ((by rw [hg]; exact Nat.ne_of_gt (IsS178.lt (show IsS178 w0 _ g s0_0 t107 from by repeat (first | (with_reducible first | exact HI0.out | apply IsS178.alloc | apply IsS178.drewN | apply IsS178.drew | apply IsS178.set_1 | apply (fun h_ => IsS178.far h_ NB0_101.out _)) | exact HI0.out))) : gb108 ≠ g)); replace HI0 := Qz.mk (IsS178.below yq80 hb); clear hb hbox hg; have hnb22 := NB108_101.out; have hnc22 := NB101_108.out; have hnb23 := NB108_0.out; have hnc23 := NB0_108.out; have hcz24_0 : w21.cell? ⟨gb108, 0, none⟩ = some (.string (⟨#[]⟩ : ByteArray)) := (qf BK108.out 0).trans rfl; have hcz24_1 : w21.cell? ⟨gb108, 1, none⟩ = some (.int .i64 0) := (qf BK108.out 1).trans rfl; have hcz24_2 : w21.cell? ⟨gb108, 2, none⟩ = some (.int .i64 0) := (qf BK108.out 2).trans rfl; have hcz24_3 : w21.cell? ⟨gb108, 3, none⟩ = some (.string (⟨#[]⟩ : ByteArray)) := (qf BK108.out 3).trans rfl; have hfz24_0 := qg BK108.out 0; have hfz24_1 := qg BK108.out 1; have hfz24_2 := qg BK108.out 2; have hfz24_3 := qg BK108.out 3) | (go_at_call 156; (with_reducible refine (spec_l1Rd_once.calls g s0_0 t107 12 false t110 w0 _ ?side1 ?side2 A5.out).mono ?_); (case side1 => exact yq93); (case side2 => repeat (first | (with_reducible first | exact HB.out | apply qc | apply qa | apply qb | refine qe ?_ (IsS178.ge HI0.out) | refine qe ?_ GE101.out | refine qe ?_ GE108.out) | exact HB.out)); rintro e w25 ⟨rfl, hi, hb, hk⟩; replace BK101 := Qz.mk (KeepBut.blk hk (g' := gb101) (o := .cells #[.string (⟨#[]⟩ : ByteArray), .int .i64 0, .int .i64 0, .string (⟨#[]⟩ : ByteArray)] 64 (0, 0)) yq85 NB101_0.out (by simp)); replace BK108 := Qz.mk (KeepBut.blk hk (g' := gb108) (o := .cells #[.string t102, .int .i64 t103, .int .i64 t104, .string t106] 64 (0, 0)) yq84 NB108_0.out (by simp)); replace HK := Qz.mk (KeepBut.trans (by repeat (first | (with_reducible first | exact HK.out | apply KeepBut.set_ | apply qk | apply qn | apply ql | refine qw ?_ GW101.out _ | refine qw ?_ GW108.out _) | exact HK.out)) hk (.inl rfl)); replace HB := Qz.mk (hb); replace HI0 := Qz.mk (hi); (try clear hb); (try clear hk); (try clear hi); have hcz26_0 : w25.cell? ⟨gb108, 0, none⟩ = some (.string t102) := (qf BK108.out 0).trans rfl; have hcz26_1 : w25.cell? ⟨gb108, 1, none⟩ = some (.int .i64 t103) := (qf BK108.out 1).trans rfl; have hcz26_2 : w25.cell? ⟨gb108, 2, none⟩ = some (.int .i64 t104) := (qf BK108.out 2).trans rfl; have hcz26_3 : w25.cell? ⟨gb108, 3, none⟩ = some (.string t106) := (qf BK108.out 3).trans rfl; have hfz26_0 := qg BK108.out 0; have hfz26_1 := qg BK108.out 1; have hfz26_2 := qg BK108.out 2; have hfz26_3 := qg BK108.out 3; have hnb27 := NB101_0.out; have hnc27 := NB0_101.out; have hcz28_0 : w25.cell? ⟨gb101, 0, none⟩ = some (.string (⟨#[]⟩ : ByteArray)) := (qf BK101.out 0).trans rfl; have hcz28_1 : w25.cell? ⟨gb101, 1, none⟩ = some (.int .i64 0) := (qf BK101.out 1).trans rfl; have hcz28_2 : w25.cell? ⟨gb101, 2, none⟩ = some (.int .i64 0) := (qf BK101.out 2).trans rfl; have hcz28_3 : w25.cell? ⟨gb101, 3, none⟩ = some (.string (⟨#[]⟩ : ByteArray)) := (qf BK101.out 3).trans rfl; have hfz28_0 := qg BK101.out 0; have hfz28_1 := qg BK101.out 1; have hfz28_2 := qg BK101.out 2; have hfz28_3 := qg BK101.out 3))
   refine bodyPost_ret (results_cell_row rfl _ _ gb101 64 #[.string t102, .int .i64 t103, .int .i64 t104, .string (⟨#[]⟩ : ByteArray)] (0, 0) _ rfl (by (with_reducible repeat (first | refine qh ?_ _ | refine qj ?_ | refine qi ?_ _)); refine blk_put (cs := #[.string t102, .int .i64 t103, .int .i64 t104, .string (⟨#[]⟩ : ByteArray)]) ?_ 3 _ rfl; (with_reducible repeat (first | refine qh ?_ _ | refine qj ?_ | refine qi ?_ _)); refine blk_put (cs := #[.string t102, .int .i64 t103, .int .i64 0, .string (⟨#[]⟩ : ByteArray)]) ?_ 2 _ rfl; (with_reducible repeat (first | refine qh ?_ _ | refine qj ?_ | refine qi ?_ _)); refine blk_put (cs := #[.string t102, .int .i64 0, .int .i64 0, .string (⟨#[]⟩ : ByteArray)]) ?_ 1 _ rfl; (with_reducible repeat (first | refine qh ?_ _ | refine qj ?_ | refine qi ?_ _)); refine blk_put (cs := #[.string (⟨#[]⟩ : ByteArray), .int .i64 0, .int .i64 0, .string (⟨#[]⟩ : ByteArray)]) ?_ 0 _ rfl; (with_reducible repeat (first | refine qh ?_ _ | refine qj ?_ | refine qi ?_ _)); refine blk_far ?_ NB101_108.out _; (with_reducible repeat (first | refine qh ?_ _ | refine qj ?_ | refine qi ?_ _)); exact BK101.out) Try.underlying64 rfl (by kernel_rfl)) rfl ?_
   exact ⟨by first | rfl | (simp [qq, qo] <;> rfl) | (simp [*, qq, qo] <;> rfl), by repeat (first | (with_reducible first | exact HI0.out | apply IsS178.alloc | apply IsS178.drewN | apply IsS178.drew | apply IsS178.set_1 | apply (fun h_ => IsS178.far h_ NB0_101.out _) | apply (fun h_ => IsS178.far h_ NB0_108.out _)) | exact HI0.out), by repeat (first | (with_reducible first | exact HB.out | apply qc | apply qa | apply qb | refine qe ?_ (IsS178.ge HI0.out) | refine qe ?_ GE101.out | refine qe ?_ GE108.out) | exact HB.out), by repeat (first | (with_reducible first | exact HK.out | apply KeepBut.set_ | apply qk | apply qn | apply ql | refine qw ?_ GW101.out _ | refine qw ?_ GW108.out _) | exact HK.out)⟩
 ·rw [if_neg c4] at H
  have c4b0 : (t104 == 0) = false := beq_eq_false_iff_ne.mpr c4
  have c4b1 : (t104 != 0) = true := bne_iff_ne.mpr c4
  simp only [Option.some.injEq, Prod.mk.injEq] at H
  obtain ⟨rfl, rfl, rfl, rfl, rfl⟩ := H
  go_enter Try.func155, Try.ntmps155
  go_wp2_with (first | ((with_reducible refine qz (N := 2) rfl ?_); refine qh1 ?hg (N := 2) ?hd (cs := #[.string (⟨#[]⟩ : ByteArray), .int .i64 0, .int .i64 0, .string (⟨#[]⟩ : ByteArray)]) (t := 64) ?hr ?_; (case hd => rfl); (case hg => rfl); (case hr => first | (go_simp; done) | (go_simp; rfl)); intro gb101 hg w29 hbox hb; replace HB := Qz.mk (qm yq92 hb); have BK101 := Qz.mk (hbox); have GW101 := Qz.mk ((yq90 : w.heap.size ≤ gb101)); have GE101 := Qz.mk ((Nat.le_trans HW0.out (yq90 : w.heap.size ≤ gb101) : w0.heap.size ≤ gb101)); replace HK := Qz.mk (KeepBut.trans yq83 (KeepBut.of_below hb g none) (.inl rfl)); have NB0_101 := Qz.mk ((by rw [hg]; exact Nat.ne_of_lt (IsS178.lt (show IsS178 w0 _ g s0_0 s0_1 from by repeat (first | (with_reducible first | exact HI0.out | apply IsS178.alloc | apply IsS178.drewN | apply IsS178.drew | apply IsS178.set_1) | exact HI0.out))) : g ≠ gb101)); have NB101_0 := Qz.mk ((by rw [hg]; exact Nat.ne_of_gt (IsS178.lt (show IsS178 w0 _ g s0_0 s0_1 from by repeat (first | (with_reducible first | exact HI0.out | apply IsS178.alloc | apply IsS178.drewN | apply IsS178.drew | apply IsS178.set_1) | exact HI0.out))) : gb101 ≠ g)); replace HI0 := Qz.mk (IsS178.below yq89 hb); clear hb hbox hg) | ((with_reducible refine qr (f := 94) rfl ?_); refine qe1 (some 5) rfl rfl Try.func94 (by kernel_rfl) rfl #[.pointer (some ⟨g, 0, none⟩)] rfl yq86 ?_; (with_reducible refine (spec_l1Rd_key.calls k g s0_0 s0_1 t102 t103 t104 t105 w0 _ ?side1 ?side2 A2.out).mono ?_); (case side1 => exact yq80); (case side2 => exact yq82); rintro e w30 ⟨rfl, hi, hb, hk⟩; refine ⟨_, rfl, ?_⟩; replace BK101 := Qz.mk (KeepBut.blk hk (g' := gb101) (o := .cells #[.string (⟨#[]⟩ : ByteArray), .int .i64 0, .int .i64 0, .string (⟨#[]⟩ : ByteArray)] 64 (0, 0)) yq81 NB101_0.out (by simp)); replace HK := Qz.mk (KeepBut.trans yq79 hk (.inl rfl)); replace HB := Qz.mk (hb); replace HI0 := Qz.mk (hi); (try clear hb); (try clear hk); (try clear hi)) | ((with_reducible refine qr (f := 187) rfl ?_); refine qe1 (some 7) rfl rfl Try.func187 (by kernel_rfl) rfl #[.pointer (some ⟨g, 0, none⟩)] rfl yq86 ?_; (with_reducible refine (spec_l1Rd_value.calls g s0_0 t105 t106 t107 w0 _ ?side1 ?side2 A3.out).mono ?_); (case side1 => exact yq80); (case side2 => exact yq82); rintro e w31 ⟨rfl, hi, hb, hk⟩; refine ⟨_, rfl, ?_⟩; replace BK101 := Qz.mk (KeepBut.blk hk (g' := gb101) (o := .cells #[.string (⟨#[]⟩ : ByteArray), .int .i64 0, .int .i64 0, .string (⟨#[]⟩ : ByteArray)] 64 (0, 0)) yq81 NB101_0.out (by simp)); replace HK := Qz.mk (KeepBut.trans yq79 hk (.inl rfl)); replace HB := Qz.mk (hb); replace HI0 := Qz.mk (hi); (try clear hb); (try clear hk); (try clear hi)) | ((with_reducible refine qz (N := 3) rfl ?_); refine qh1 ?hg (N := 3) ?hd (cs := #[.string (⟨#[]⟩ : ByteArray), .int .i64 0, .int .i64 0, .string (⟨#[]⟩ : ByteArray)]) (t := 64) ?hr ?_; (case hd => rfl); (case hg => rfl); (case hr => first | (go_simp; done) | (go_simp; rfl)); intro gb108 hg w32 hbox hb; replace HB := Qz.mk (qm yq82 hb); have BK108 := Qz.mk (hbox); have GW108 := Qz.mk ((yq91 : w.heap.size ≤ gb108)); have GE108 := Qz.mk ((Nat.le_trans HW0.out (yq91 : w.heap.size ≤ gb108) : w0.heap.size ≤ gb108)); replace HK := Qz.mk (KeepBut.trans yq79 (KeepBut.of_below hb g none) (.inl rfl)); have NB101_108 := Qz.mk ((yq87 : gb101 ≠ gb108)); have NB108_101 := Qz.mk ((yq88 : gb108 ≠ gb101)); replace BK101 := Qz.mk (qf1 (g := gb101) (o := .cells #[.string (⟨#[]⟩ : ByteArray), .int .i64 0, .int .i64 0, .string (⟨#[]⟩ : ByteArray)] 64 (0, 0)) yq81 hb); have NB0_108 := Qz.mk ((by rw [hg]; exact Nat.ne_of_lt (IsS178.lt (show IsS178 w0 _ g s0_0 t107 from by repeat (first | (with_reducible first | exact HI0.out | apply IsS178.alloc | apply IsS178.drewN | apply IsS178.drew | apply IsS178.set_1 | apply (fun h_ => IsS178.far h_ NB0_101.out _)) | exact HI0.out))) : g ≠ gb108)); have NB108_0 := Qz.mk ((by rw [hg]; exact Nat.ne_of_gt (IsS178.lt (show IsS178 w0 _ g s0_0 t107 from by repeat (first | (with_reducible first | exact HI0.out | apply IsS178.alloc | apply IsS178.drewN | apply IsS178.drew | apply IsS178.set_1 | apply (fun h_ => IsS178.far h_ NB0_101.out _)) | exact HI0.out))) : gb108 ≠ g)); replace HI0 := Qz.mk (IsS178.below yq80 hb); clear hb hbox hg; have hnb33 := NB108_101.out; have hnc33 := NB101_108.out; have hnb34 := NB108_0.out; have hnc34 := NB0_108.out; have hcz35_0 : w32.cell? ⟨gb108, 0, none⟩ = some (.string (⟨#[]⟩ : ByteArray)) := (qf BK108.out 0).trans rfl; have hcz35_1 : w32.cell? ⟨gb108, 1, none⟩ = some (.int .i64 0) := (qf BK108.out 1).trans rfl; have hcz35_2 : w32.cell? ⟨gb108, 2, none⟩ = some (.int .i64 0) := (qf BK108.out 2).trans rfl; have hcz35_3 : w32.cell? ⟨gb108, 3, none⟩ = some (.string (⟨#[]⟩ : ByteArray)) := (qf BK108.out 3).trans rfl; have hfz35_0 := qg BK108.out 0; have hfz35_1 := qg BK108.out 1; have hfz35_2 := qg BK108.out 2; have hfz35_3 := qg BK108.out 3; have hnb36 := NB101_0.out; have hnc36 := NB0_101.out; have hcz37_0 : w32.cell? ⟨gb101, 0, none⟩ = some (.string (⟨#[]⟩ : ByteArray)) := (qf BK101.out 0).trans rfl; have hcz37_1 : w32.cell? ⟨gb101, 1, none⟩ = some (.int .i64 0) := (qf BK101.out 1).trans rfl; have hcz37_2 : w32.cell? ⟨gb101, 2, none⟩ = some (.int .i64 0) := (qf BK101.out 2).trans rfl; have hcz37_3 : w32.cell? ⟨gb101, 3, none⟩ = some (.string (⟨#[]⟩ : ByteArray)) := (qf BK101.out 3).trans rfl; have hfz37_0 := qg BK101.out 0; have hfz37_1 := qg BK101.out 1; have hfz37_2 := qg BK101.out 2; have hfz37_3 := qg BK101.out 3))
  refine bodyPost_ret (results_cell_row rfl _ _ gb101 64 #[.string t102, .int .i64 t103, .int .i64 t104, .string t106] (0, 0) _ rfl (by (with_reducible repeat (first | refine qh ?_ _ | refine qj ?_ | refine qi ?_ _)); refine blk_put (cs := #[.string t102, .int .i64 t103, .int .i64 t104, .string (⟨#[]⟩ : ByteArray)]) ?_ 3 _ rfl; (with_reducible repeat (first | refine qh ?_ _ | refine qj ?_ | refine qi ?_ _)); refine blk_put (cs := #[.string t102, .int .i64 t103, .int .i64 0, .string (⟨#[]⟩ : ByteArray)]) ?_ 2 _ rfl; (with_reducible repeat (first | refine qh ?_ _ | refine qj ?_ | refine qi ?_ _)); refine blk_put (cs := #[.string t102, .int .i64 0, .int .i64 0, .string (⟨#[]⟩ : ByteArray)]) ?_ 1 _ rfl; (with_reducible repeat (first | refine qh ?_ _ | refine qj ?_ | refine qi ?_ _)); refine blk_put (cs := #[.string (⟨#[]⟩ : ByteArray), .int .i64 0, .int .i64 0, .string (⟨#[]⟩ : ByteArray)]) ?_ 0 _ rfl; (with_reducible repeat (first | refine qh ?_ _ | refine qj ?_ | refine qi ?_ _)); refine blk_far ?_ NB101_108.out _; (with_reducible repeat (first | refine qh ?_ _ | refine qj ?_ | refine qi ?_ _)); refine blk_far ?_ NB101_108.out _; (with_reducible repeat (first | refine qh ?_ _ | refine qj ?_ | refine qi ?_ _)); refine blk_far ?_ NB101_108.out _; (with_reducible repeat (first | refine qh ?_ _ | refine qj ?_ | refine qi ?_ _)); refine blk_far ?_ NB101_108.out _; (with_reducible repeat (first | refine qh ?_ _ | refine qj ?_ | refine qi ?_ _)); exact BK101.out) Try.underlying64 rfl (by kernel_rfl)) rfl ?_
  exact ⟨by first | rfl | (simp [qq, qo] <;> rfl) | (simp [*, qq, qo] <;> rfl), by repeat (first | (with_reducible first | exact HI0.out | apply IsS178.alloc | apply IsS178.drewN | apply IsS178.drew | apply IsS178.set_1 | apply (fun h_ => IsS178.far h_ NB0_101.out _) | apply (fun h_ => IsS178.far h_ NB0_108.out _)) | exact HI0.out), by repeat (first | (with_reducible first | exact HB.out | apply qc | apply qa | apply qb | refine qe ?_ (IsS178.ge HI0.out) | refine qe ?_ GE101.out | refine qe ?_ GE108.out) | exact HB.out), by repeat (first | (with_reducible first | exact HK.out | apply KeepBut.set_ | apply qk | apply qn | apply ql | refine qw ?_ GW101.out _ | refine qw ?_ GW108.out _) | exact HK.out)⟩
end Go.Proofs.Ytidjdkodgddfcaa.P
end
