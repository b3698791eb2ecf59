/- Proved: the law FnReplayed of the given program returns true for every input of its Go types and leaves each argument as it was; no condition. (Part 7 of 17.) -/
import Derived.Test.YtcgejabkjljeeaaCFnReplayed4
import Derived.Test.YtcgejabkjljeeaaCFnReplayed5
section
namespace Go.Proofs.Ytcgejabkjljeeaa.P
open Go.RowKit Go.Proofs.YtcgejabkjljeeaaW.PrintWords Go.Proofs.YtcgejabkjljeeaaW.PrintLast Go.Proofs.YtcgejabkjljeeaaW.PrintMore
attribute [local go_sem] str_gtr str_leq str_geq max2_int min2_int max_two min_two qe1 qd1 max_four min_four
set_option linter.unusedVariables false
set_option linter.unusedSimpArgs false
theorem yq24 {P : Prop} (h : P := by repeat (first | (with_reducible first | exact HI0.out | apply IsS123.alloc | apply IsS123.drewN | apply IsS123.drew | apply IsS123.set_1 | apply (fun h_ => IsS123.far h_ NB0_101.out _) | apply (fun h_ => IsS123.far h_ NB0_102.out _) | apply (fun h_ => IsS123.far h_ NB0_107.out _)) | exact HI0.out)) : P := h
theorem yq25 {P : Prop} (h : P := by repeat (first | (with_reducible first | exact HK.out | apply KeepBut.set_ | apply ql | apply qo | apply qm | refine qj ?_ GW101.out _ | refine qj ?_ GW102.out _ | refine qj ?_ GW107.out _) | exact HK.out)) : P := h
theorem yq26 {P : Prop} (h : P := by repeat (first | (with_reducible first | exact HB.out | apply qh | apply qg | apply qi | refine qe ?_ (IsS123.ge HI0.out) | refine qe ?_ GE101.out | refine qe ?_ GE102.out | refine qe ?_ GE107.out) | exact HB.out)) : P := h
theorem yq27 {P : Prop} (h : P := by (with_reducible repeat (first | refine qb ?_ _ | refine qc ?_ | refine qa ?_ _)); exact BK101.out) : P := h
theorem yq28 {P : Prop} (h : P := by (with_reducible repeat (first | refine qb ?_ _ | refine qc ?_ | refine qa ?_ _)); exact BK102.out) : P := h
theorem yq29 {P : Prop} (h : P := by (with_reducible repeat (first | refine qb ?_ _ | refine qc ?_ | refine qa ?_ _)); refine qt (cs := #[.int .i64 t120, .int .i64 t121, .string t122, .string t123, .int .i64 0]) ?_ 4 _ rfl; (with_reducible repeat (first | refine qb ?_ _ | refine qc ?_ | refine qa ?_ _)); refine qt (cs := #[.int .i64 t120, .int .i64 t121, .string t122, .string (⟨#[]⟩ : ByteArray), .int .i64 0]) ?_ 3 _ rfl; (with_reducible repeat (first | refine qb ?_ _ | refine qc ?_ | refine qa ?_ _)); refine qt (cs := #[.int .i64 t120, .int .i64 t121, .string (⟨#[]⟩ : ByteArray), .string (⟨#[]⟩ : ByteArray), .int .i64 0]) ?_ 2 _ rfl; (with_reducible repeat (first | refine qb ?_ _ | refine qc ?_ | refine qa ?_ _)); refine qt (cs := #[.int .i64 t120, .int .i64 0, .string (⟨#[]⟩ : ByteArray), .string (⟨#[]⟩ : ByteArray), .int .i64 0]) ?_ 1 _ rfl; (with_reducible repeat (first | refine qb ?_ _ | refine qc ?_ | refine qa ?_ _)); refine qt (cs := #[.int .i64 0, .int .i64 0, .string (⟨#[]⟩ : ByteArray), .string (⟨#[]⟩ : ByteArray), .int .i64 0]) ?_ 0 _ rfl; (with_reducible repeat (first | refine qb ?_ _ | refine qc ?_ | refine qa ?_ _)); exact BK126.out) : P := h
theorem yq30 {P : Prop} (h : P := by (with_reducible repeat (first | refine qb ?_ _ | refine qc ?_ | refine qa ?_ _)); exact BK107.out) : P := h
theorem yq31 {P : Prop} (h : P := by repeat (first | (with_reducible first | exact HK.out | apply KeepBut.set_ | apply ql | apply qo | apply qm | refine qj ?_ GW101.out _ | refine qj ?_ GW102.out _) | exact HK.out)) : P := h
theorem yq32 {P : Prop} (h : P := by repeat (first | (with_reducible first | exact HK.out | apply KeepBut.set_ | apply ql | apply qo | apply qm | refine qj ?_ GW101.out _ | refine qj ?_ GW102.out _ | refine qj ?_ GW107.out _ | refine qj ?_ GW126.out _) | exact HK.out)) : P := h
theorem yq33 {P : Prop} (h : P := by repeat (first | (with_reducible first | exact HI0.out | apply IsS123.alloc | apply IsS123.drewN | apply IsS123.drew | apply IsS123.set_1 | apply (fun h_ => IsS123.far h_ NB0_101.out _) | apply (fun h_ => IsS123.far h_ NB0_102.out _) | apply (fun h_ => IsS123.far h_ NB0_107.out _) | apply (fun h_ => IsS123.far h_ NB0_126.out _)) | exact HI0.out)) : P := h
theorem yq34 {P : Prop} (h : P := by (with_reducible repeat (first | refine qb ?_ _ | refine qc ?_ | refine qa ?_ _)); refine qp ?_ NB107_126.out _; (with_reducible repeat (first | refine qb ?_ _ | refine qc ?_ | refine qa ?_ _)); refine qp ?_ NB107_126.out _; (with_reducible repeat (first | refine qb ?_ _ | refine qc ?_ | refine qa ?_ _)); refine qp ?_ NB107_126.out _; (with_reducible repeat (first | refine qb ?_ _ | refine qc ?_ | refine qa ?_ _)); refine qp ?_ NB107_126.out _; (with_reducible repeat (first | refine qb ?_ _ | refine qc ?_ | refine qa ?_ _)); refine qp ?_ NB107_126.out _; (with_reducible repeat (first | refine qb ?_ _ | refine qc ?_ | refine qa ?_ _)); exact BK107.out) : P := h
theorem yq35 {P : Prop} (h : P := by (with_reducible repeat (first | refine qb ?_ _ | refine qc ?_ | refine qa ?_ _)); refine qp ?_ NB102_126.out _; (with_reducible repeat (first | refine qb ?_ _ | refine qc ?_ | refine qa ?_ _)); refine qp ?_ NB102_126.out _; (with_reducible repeat (first | refine qb ?_ _ | refine qc ?_ | refine qa ?_ _)); refine qp ?_ NB102_126.out _; (with_reducible repeat (first | refine qb ?_ _ | refine qc ?_ | refine qa ?_ _)); refine qp ?_ NB102_126.out _; (with_reducible repeat (first | refine qb ?_ _ | refine qc ?_ | refine qa ?_ _)); refine qp ?_ NB102_126.out _; (with_reducible repeat (first | refine qb ?_ _ | refine qc ?_ | refine qa ?_ _)); exact BK102.out) : P := h
theorem yq36 {P : Prop} (h : P := by (with_reducible repeat (first | refine qb ?_ _ | refine qc ?_ | refine qa ?_ _)); refine qp ?_ NB101_126.out _; (with_reducible repeat (first | refine qb ?_ _ | refine qc ?_ | refine qa ?_ _)); refine qp ?_ NB101_126.out _; (with_reducible repeat (first | refine qb ?_ _ | refine qc ?_ | refine qa ?_ _)); refine qp ?_ NB101_126.out _; (with_reducible repeat (first | refine qb ?_ _ | refine qc ?_ | refine qa ?_ _)); refine qp ?_ NB101_126.out _; (with_reducible repeat (first | refine qb ?_ _ | refine qc ?_ | refine qa ?_ _)); refine qp ?_ NB101_126.out _; (with_reducible repeat (first | refine qb ?_ _ | refine qc ?_ | refine qa ?_ _)); exact BK101.out) : P := h
theorem yq37 {P : Prop} (h : P := by (with_reducible repeat (first | apply Kd.R_alloc | apply Kd.R_drewN | apply Kd.R_drew)); exact HO_108001.out) : P := h
theorem yq38 {P : Prop} (h : P := by (with_reducible repeat (first | apply Kd.R_alloc | apply Kd.R_drewN | apply Kd.R_drew)); exact (Kd.R_mono (Kd.R_far (p := ⟨gb126, 4, none⟩) (Kd.R_far (p := ⟨gb126, 3, none⟩) (Kd.R_far (p := ⟨gb126, 2, none⟩) (Kd.R_far (p := ⟨gb126, 1, none⟩) (Kd.R_far (p := ⟨gb126, 0, none⟩) (Kd.R_mono HO_108000.out (fun k_ hk => (⟨hk, hk.2⟩ : _ ∧ k_ ≠ gb126))) (fun _ hk => hk.2) (.int .i64 t120)) (fun _ hk => hk.2) (.int .i64 t121)) (fun _ hk => hk.2) (.string t122)) (fun _ hk => hk.2) (.string t123)) (fun _ hk => hk.2) (.int .i64 t124)) (fun _ h_ => h_.1))) : P := h
theorem yq39 {P : Prop} (h : P := by (with_reducible repeat (first | apply Kd.R_alloc | apply Kd.R_drewN | apply Kd.R_drew)); exact HO_108000.out) : P := h
theorem yq40 {P : Prop} (h : P := by (with_reducible repeat (first | apply Kd.R_alloc | apply Kd.R_drewN | apply Kd.R_drew)); exact (Kd.R_mono (Kd.R_far (p := ⟨gb126, 4, none⟩) (Kd.R_far (p := ⟨gb126, 3, none⟩) (Kd.R_far (p := ⟨gb126, 2, none⟩) (Kd.R_far (p := ⟨gb126, 1, none⟩) (Kd.R_far (p := ⟨gb126, 0, none⟩) (Kd.R_types HO_108001.out BK126.out (by decide)) (fun _ hk => hk.2) (.int .i64 t120)) (fun _ hk => hk.2) (.int .i64 t121)) (fun _ hk => hk.2) (.string t122)) (fun _ hk => hk.2) (.string t123)) (fun _ hk => hk.2) (.int .i64 t124)) (fun _ h_ => h_.1))) : P := h
theorem yq41 {P : Prop} (h : P := by repeat (first | (with_reducible first | exact HI0.out | apply IsS123.alloc | apply IsS123.drewN | apply IsS123.drew | apply IsS123.set_1 | apply (fun h_ => IsS123.far h_ NB0_101.out _) | apply (fun h_ => IsS123.far h_ NB0_102.out _)) | exact HI0.out)) : P := h
theorem yq42 {P : Prop} (h : P := by (try simp only [List.map_toArray, List.map_cons, List.map_nil]); first | done | rfl) : P := h
theorem yq43 {P : Prop} (h : P := by repeat (first | (with_reducible first | exact HB.out | apply qh | apply qg | apply qi | refine qe ?_ (IsS123.ge HI0.out) | refine qe ?_ GE101.out | refine qe ?_ GE102.out | refine qe ?_ GE107.out | refine qe ?_ GE126.out) | exact HB.out)) : P := h
theorem yq44 {P : Prop} (h : P := by rw [hg]; exact Nat.ne_of_lt (qv (g := gb101) (o := .cells #[.slice A1_0 l1_0.length c1_0, .int .i64 a1_1, .int .i64 a1_2, .int .i64 a1_3] 32 (0, 0)) yq27)) : P := h
theorem yq45 {P : Prop} (h : P := by rw [hg]; exact Nat.ne_of_gt (qv (g := gb101) (o := .cells #[.slice A1_0 l1_0.length c1_0, .int .i64 a1_1, .int .i64 a1_2, .int .i64 a1_3] 32 (0, 0)) yq27)) : P := h
theorem yq46 {P : Prop} (h : P := by repeat (first | (with_reducible first | exact HB.out | apply qh | apply qg | apply qi | refine qe ?_ (IsS123.ge HI0.out) | refine qe ?_ GE101.out | refine qe ?_ GE102.out) | exact HB.out)) : P := h
theorem yq47 {P : Prop} (h : P := by rw [hg]; exact Nat.ne_of_lt (qv (g := gb102) (o := .cells #[.slice none 0 0, .slice none 0 0, .int .i64 0, .int .i64 0, .int .i64 0] 37 (0, 0)) yq28)) : P := h
theorem yq48 {P : Prop} (h : P := by rw [hg]; exact Nat.ne_of_gt (qv (g := gb102) (o := .cells #[.slice none 0 0, .slice none 0 0, .int .i64 0, .int .i64 0, .int .i64 0] 37 (0, 0)) yq28)) : P := h
theorem yq49 {P : Prop} (h : P := by rw [hg]; exact Nat.ne_of_lt (qv (g := gb107) (o := .cells #[u108000, u108001, .int .i64 (wrap64 (a1_1 + t103)), .int .i64 (wrap64 (a1_2 + t105)), .int .i64 x108004_5] 37 (0, 0)) yq30)) : P := h
theorem yq50 {P : Prop} (h : P := by rw [hg]; exact Nat.ne_of_gt (qv (g := gb107) (o := .cells #[u108000, u108001, .int .i64 (wrap64 (a1_1 + t103)), .int .i64 (wrap64 (a1_2 + t105)), .int .i64 x108004_5] 37 (0, 0)) yq30)) : P := h
theorem yq51 {P : Prop} (h : P := by first | (go_simp; done) | (go_simp; rfl)) : P := h
theorem yq52 {P : Prop} (h : P := by repeat (first | (with_reducible first | exact HK.out | apply KeepBut.set_ | apply ql | apply qo | apply qm | refine qj ?_ GW101.out _) | exact HK.out)) : P := h
theorem yq53 {P : Prop} (h : P := by (with_reducible repeat (first | refine qb ?_ _ | refine qc ?_ | refine qa ?_ _)); refine qt (cs := #[.int .i64 t120, .int .i64 t121, .string t122, .string t123, .int .i64 t124]) ?_ 0 _ rfl; (with_reducible repeat (first | refine qb ?_ _ | refine qc ?_ | refine qa ?_ _)); exact BK126.out) : P := h
theorem yq54 {P : Prop} (h : P := by rw [hg]; exact (qc1 (w := w) (g := g) (row := none) yq31)) : P := h
theorem yq55 {P : Prop} (h : P := by rw [hg]; exact (qc1 (w := w) (g := g) (row := none) yq25)) : P := h
theorem yq56 {P : Prop} (h : P := by repeat (first | (with_reducible first | exact HK.out | apply KeepBut.set_ | apply ql | apply qo | apply qm) | exact HK.out)) : P := h
theorem yq57 {P : Prop} (h : P := by first | rfl | (simp; done) | (simp [*]; done)) : P := h
theorem bkbf88 {w0 W W2 : World} {g : Nat} {o : Obj} (_ : Qz (w0.heap[g]? = some o)) (h : W.heap[g]? = some o) (hb : Below W.heap.size W W2) : Qz (W2.heap[g]? = some o) := Qz.mk (qb1 h hb)
mutual
def spec_l1Rd_edit.j0 : Nat → List Int → Int → List (S66) → Int → Int → Int → Int → Int → Int → Option ((List (S66)) × List Int × Int × Int × Int × Int)
 | 0, _, _, _, _, _, _, _, _, _ => none
 | k + 1, x1000, x1001, x102000, x102001, x102002, x102003, x108002, x108003, x108004 => if (x102000.length : Int) > 0 then ((spec_l1Rd_once.f x1000 x1001 2).bind fun bt110 => (spec_l1Rd_edit.j1 k bt110.1 x1000 bt110.2 x102000 x102001 x102002 x102003 x108002 x108003 x108004)) else (spec_l1Rd_edit.j1 k false x1000 x1001 x102000 x102001 x102002 x102003 x108002 x108003 x108004)
def spec_l1Rd_edit.j1 : Nat → Bool → List Int → Int → List (S66) → Int → Int → Int → Int → Int → Int → Option ((List (S66)) × List Int × Int × Int × Int × Int)
 | 0, _, _, _, _, _, _, _, _, _, _ => none
 | k + 1, x34, x1000, x1001, x102000, x102001, x102002, x102003, x108002, x108003, x108004 => if x34 = true then ((spec_l1Rd_below.f x1000 x1001 (x102000.length : Int)).bind fun bt112 => (if 0 ≤ bt112.1 then (if bt112.1 < (x102000.length : Int) then (if ([] : List Int).length < 17592186044416 then (spec_l1Rd_edit.j2 k x1000 bt112.2 (([] : List Int) ++ [(qa1 x102000 bt112.1).f0]) x108002 x108003 x108004) else (none)) else (none)) else (none))) else (spec_l1Rd_edit.j2 k x1000 x1001 ([] : List Int) x108002 x108003 x108004)
def spec_l1Rd_edit.j2 : Nat → List Int → Int → List Int → Int → Int → Int → Option ((List (S66)) × List Int × Int × Int × Int × Int)
 | 0, _, _, _, _, _, _ => none
 | k + 1, x1000, x1001, x108001, x108002, x108003, x108004 => (spec_l1Rd_below.f x1000 x1001 3).bind fun bt118 => (spec_l1Rd_edit.l0 k bt118.1 x1000 bt118.2 ([] : List (S66)) x108001 x108002 x108003 x108004)
def spec_l1Rd_edit.l0 : Nat → Int → List Int → Int → List (S66) → List Int → Int → Int → Int → Option ((List (S66)) × List Int × Int × Int × Int × Int)
 | 0, _, _, _, _, _, _, _, _ => none
 | k + 1, x6, x1000, x1001, x108000, x108001, x108002, x108003, x108004 => if x6 > 0 then ((spec_l1Rd_meta.f k x1000 x1001).bind fun bt120 => (if x108002 > 1 then ((spec_l1Rd_once.f x1000 bt120.2.2.2.2.2 4).bind fun bt127 => (if bt127.1 = true then (if x108000.length < 2513169434916 then (spec_l1Rd_edit.l0 k (wrap64 (x6 - 1)) x1000 bt127.2 (x108000 ++ [(⟨bt120.1, bt120.2.1, bt120.2.2.1, bt120.2.2.2.1, bt120.2.2.2.2.1⟩ : S66)]) x108001 x108002 x108003 x108004) else (none)) else (if x108000.length < 2513169434916 then (spec_l1Rd_edit.l0 k (wrap64 (x6 - 1)) x1000 bt127.2 (x108000 ++ [(⟨wrap64 (x108002 - x6), bt120.2.1, bt120.2.2.1, bt120.2.2.2.1, bt120.2.2.2.2.1⟩ : S66)]) x108001 x108002 x108003 x108004) else (none)))) else (if x108000.length < 2513169434916 then (spec_l1Rd_edit.l0 k (wrap64 (x6 - 1)) x1000 bt120.2.2.2.2.2 (x108000 ++ [(⟨bt120.1, bt120.2.1, bt120.2.2.1, bt120.2.2.2.1, bt120.2.2.2.2.1⟩ : S66)]) x108001 x108002 x108003 x108004) else (none)))) else ((spec_l1Rd_once.f x1000 x1001 20).bind fun bt138 => (if bt138.1 = true then ((spec_l1Rd_off.f k x1000 bt138.2 1 9).bind fun bt140 => (if x108001.length < 17592186044416 then (some (x108000, (x108001 ++ [bt140.1]), x108002, x108003, x108004, bt140.2)) else (none))) else (some (x108000, x108001, x108002, x108003, x108004, bt138.2))))
end
def spec_l1Rd_edit.f (k : Nat) (s0_0 : List Int) (s0_1 : Int) (l1_0 : List (S66)) (a1_1 : Int) (a1_2 : Int) (a1_3 : Int) : Option ((List (S66)) × List Int × Int × Int × Int × Int) := (spec_l1Rd_below.f s0_0 s0_1 4).bind fun bt103 => ((spec_l1Rd_below.f s0_0 bt103.2 9).bind fun bt105 => ((spec_l1Rd_once.f s0_0 bt105.2 3).bind fun bt108 => (if bt108.1 = true then (spec_l1Rd_edit.j0 k s0_0 bt108.2 l1_0 a1_1 a1_2 a1_3 (wrap64 (a1_1 + bt103.1)) (wrap64 (a1_2 + bt105.1)) (wrap64 ((wrap64 (a1_1 + bt103.1)) - 1))) else (spec_l1Rd_edit.j0 k s0_0 bt108.2 l1_0 a1_1 a1_2 a1_3 (wrap64 (a1_1 + bt103.1)) (wrap64 (a1_2 + bt105.1)) a1_3))))
def spec_l1Rd_edit.T1 : Bool × List (List Nat × List Nat) := (true, [([], []), ([0], [0]), ([], []), ([2], [2]), ([1, 3], [1, 3]), ([], []), ([5], [5]), ([], []), ([7, 3], [7]), ([6, 8], [6, 8]), ([], []), ([10], [10]), ([4, 9, 11], [4, 9, 11]), ([], []), ([13, 12, 8, 0, 1, 2, 3, 4, 5, 6, 7, 8, 9, 10, 11, 12, 13], [12, 13])])
def spec_l1Rd_edit.B1 : List Nat := [0, 1, 0, 4, 15, 0, 32, 0, 140, 492, 0, 1024, 4095, 0, 16383]
theorem spec_l1Rd_edit.tab1 : rtab .any (opsOf Try.f88 1) = spec_l1Rd_edit.T1 := by kernel_rfl
theorem spec_l1Rd_edit.bits1 : waitsOk spec_l1Rd_edit.T1.2 spec_l1Rd_edit.B1 = true := by kernel_rfl
def spec_l1Rd_edit.T5 : Bool × List (List Nat × List Nat) := (true, [([], []), ([0], [0]), ([], []), ([2], [2]), ([], []), ([], []), ([5], [5]), ([6], [6]), ([4, 7], [4, 7]), ([3, 8], [3, 8]), ([9], [9]), ([10], [10]), ([11], [11]), ([1, 12, 8], [1, 12]), ([0, 1, 2, 3, 4, 5, 6, 7, 8, 9, 10, 11, 12, 13], []), ([14, 13, 13, 0, 1, 2, 3, 4, 5, 6, 7, 8, 9, 10, 11, 12, 13], [13, 14])])
def spec_l1Rd_edit.B5 : List Nat := [0, 1, 0, 4, 0, 0, 32, 96, 240, 508, 1020, 2044, 4092, 8191, 16383, 32767]
theorem spec_l1Rd_edit.tab5 : rtab .any (opsOf Try.f88 5) = spec_l1Rd_edit.T5 := by kernel_rfl
theorem spec_l1Rd_edit.bits5 : waitsOk spec_l1Rd_edit.T5.2 spec_l1Rd_edit.B5 = true := by kernel_rfl
def spec_l1Rd_edit.T14 : Bool × List (List Nat × List Nat) := (true, [([], []), ([0], [0]), ([], []), ([2], [2]), ([3], [3]), ([1, 4, 3], [1, 4]), ([0, 1, 2, 3, 4, 5], []), ([6, 5, 5, 0, 1, 2, 3, 4, 5], [5, 6])])
def spec_l1Rd_edit.B14 : List Nat := [0, 1, 0, 4, 12, 31, 63, 127]
theorem spec_l1Rd_edit.tab14 : rtab .any (opsOf Try.f88 14) = spec_l1Rd_edit.T14 := by kernel_rfl
theorem spec_l1Rd_edit.bits14 : waitsOk spec_l1Rd_edit.T14.2 spec_l1Rd_edit.B14 = true := by kernel_rfl
set_option maxHeartbeats 8000000 in
set_option maxRecDepth 100000 in
theorem spec_l1Rd_edit.calls (k : Nat) (g : Nat) (s0_0 : List Int) (s0_1 : Int) (A1_0 : Option Addr) (c1_0 : Nat) (l1_0 : List (S66)) (a1_1 : Int) (a1_2 : Int) (a1_3 : Int) (r1 : List (S66)) (r2 : List Int) (r3 : Int) (r4 : Int) (r5 : Int) (r6 : Int) (w0 w : World) (hI : IsS123 w0 w g s0_0 s0_1) (hB : Below w0.heap.size w0 w) (hr1_0 : ∀ W_, KeepBut w W_ g none → Kd.C k66 W_ A1_0 l1_0.length l1_0) (hc1_0 : l1_0.length ≤ c1_0) (h : spec_l1Rd_edit.f k s0_0 s0_1 l1_0 a1_1 a1_2 a1_3 = some (r1, r2, r3, r4, r5, r6)) :
  Calls Try.prog 88 #[.pointer (some ⟨g, 0, none⟩), .agg #[.slice A1_0 l1_0.length c1_0, .int .i64 a1_1, .int .i64 a1_2, .int .i64 a1_3]] w fun e w' => ∃ v0_ v1_ : Value, e = .returned (.agg #[v0_, v1_, .int .i64 r3, .int .i64 r4, .int .i64 r5]) ∧ Kd.R k66 66 w' w.heap.size (fun _ => True) v0_ r1 ∧ Kd.R (Kd.int .i64) 2 w' w.heap.size (fun _ => True) v1_ r2 ∧ IsS123 w0 w' g s0_0 r6 ∧ Below w0.heap.size w0 w' ∧ KeepBut w w' g none := by
 have hu32 := Try.underlying32
 have hu37 := Try.underlying37
 have hu66 := Try.underlying66
 have HR1_0 := Qz.mk hr1_0
 have HC1_0 := Qz.mk hc1_0
 clear hr1_0 hc1_0
 have HI0 := Qz.mk hI
 have HK := Qz.mk (KeepBut.refl w g none)
 have HL := Qz.mk hB.size
 clear hI
 have HW0 := Qz.mk hB.size
 have HB := Qz.mk hB
 clear hB
 have H : ((spec_l1Rd_below.f s0_0 s0_1 4).bind fun bt103 => ((spec_l1Rd_below.f s0_0 bt103.2 9).bind fun bt105 => ((spec_l1Rd_once.f s0_0 bt105.2 3).bind fun bt108 => (if bt108.1 = true then (spec_l1Rd_edit.j0 k s0_0 bt108.2 l1_0 a1_1 a1_2 a1_3 (wrap64 (a1_1 + bt103.1)) (wrap64 (a1_2 + bt105.1)) (wrap64 ((wrap64 (a1_1 + bt103.1)) - 1))) else (spec_l1Rd_edit.j0 k s0_0 bt108.2 l1_0 a1_1 a1_2 a1_3 (wrap64 (a1_1 + bt103.1)) (wrap64 (a1_2 + bt105.1)) a1_3))))) = some (r1, r2, r3, r4, r5, r6) := h
 clear h
 replace H := Option.bind_eq_some_iff.mp H
 obtain ⟨⟨t103, t104⟩, A30, H⟩ := H
 replace H : ((spec_l1Rd_below.f s0_0 t104 9).bind fun bt105 => ((spec_l1Rd_once.f s0_0 bt105.2 3).bind fun bt108 => (if bt108.1 = true then (spec_l1Rd_edit.j0 k s0_0 bt108.2 l1_0 a1_1 a1_2 a1_3 (wrap64 (a1_1 + t103)) (wrap64 (a1_2 + bt105.1)) (wrap64 ((wrap64 (a1_1 + t103)) - 1))) else (spec_l1Rd_edit.j0 k s0_0 bt108.2 l1_0 a1_1 a1_2 a1_3 (wrap64 (a1_1 + t103)) (wrap64 (a1_2 + bt105.1)) a1_3)))) = some (r1, r2, r3, r4, r5, r6) := H
 have A3 := Qz.mk A30
 clear A30
 replace H := Option.bind_eq_some_iff.mp H
 obtain ⟨⟨t105, t106⟩, A40, H⟩ := H
 replace H : ((spec_l1Rd_once.f s0_0 t106 3).bind fun bt108 => (if bt108.1 = true then (spec_l1Rd_edit.j0 k s0_0 bt108.2 l1_0 a1_1 a1_2 a1_3 (wrap64 (a1_1 + t103)) (wrap64 (a1_2 + t105)) (wrap64 ((wrap64 (a1_1 + t103)) - 1))) else (spec_l1Rd_edit.j0 k s0_0 bt108.2 l1_0 a1_1 a1_2 a1_3 (wrap64 (a1_1 + t103)) (wrap64 (a1_2 + t105)) a1_3))) = some (r1, r2, r3, r4, r5, r6) := H
 have A4 := Qz.mk A40
 clear A40
 replace H := Option.bind_eq_some_iff.mp H
 obtain ⟨⟨t108, t109⟩, A50, H⟩ := H
 replace H : (if t108 = true then (spec_l1Rd_edit.j0 k s0_0 t109 l1_0 a1_1 a1_2 a1_3 (wrap64 (a1_1 + t103)) (wrap64 (a1_2 + t105)) (wrap64 ((wrap64 (a1_1 + t103)) - 1))) else (spec_l1Rd_edit.j0 k s0_0 t109 l1_0 a1_1 a1_2 a1_3 (wrap64 (a1_1 + t103)) (wrap64 (a1_2 + t105)) a1_3)) = some (r1, r2, r3, r4, r5, r6) := H
 have A5 := Qz.mk A50
 clear A50
 have HC6 := Qz.mk H
 clear H
 go_enter Try.func88, Try.ntmps88
 try go_wp2_with (first | ((with_reducible refine gate_dst (N := 3) rfl ?_); refine box_event ?hg (N := 3) ?hd (cs := #[.slice A1_0 l1_0.length c1_0, .int .i64 a1_1, .int .i64 a1_2, .int .i64 a1_3]) (t := 32) ?hr ?_; (case hd => rfl); (case hg => rfl); (case hr => exact yq51); intro gb101 hg w7 hbox hb; replace HB := Qz.mk (qq (by repeat (first | (with_reducible first | exact HB.out | apply qh | apply qg | apply qi | refine qe ?_ (IsS123.ge HI0.out)) | exact HB.out)) hb); have BK101 := Qz.mk (hbox); have GW101 := Qz.mk ((by rw [hg]; exact (qc1 (w := w) (g := g) (row := none) yq56) : w.heap.size ≤ gb101)); have GE101 := Qz.mk ((Nat.le_trans HW0.out (by rw [hg]; exact (qc1 (w := w) (g := g) (row := none) yq56) : w.heap.size ≤ gb101) : w0.heap.size ≤ gb101)); replace HK := Qz.mk (KeepBut.trans yq56 (KeepBut.of_below hb g none) (.inl rfl)); have NB0_101 := Qz.mk ((by rw [hg]; exact Nat.ne_of_lt (IsS123.lt (show IsS123 w0 _ g s0_0 s0_1 from by repeat (first | (with_reducible first | exact HI0.out | apply IsS123.alloc | apply IsS123.drewN | apply IsS123.drew | apply IsS123.set_1) | exact HI0.out))) : g ≠ gb101)); have NB101_0 := Qz.mk ((by rw [hg]; exact Nat.ne_of_gt (IsS123.lt (show IsS123 w0 _ g s0_0 s0_1 from by repeat (first | (with_reducible first | exact HI0.out | apply IsS123.alloc | apply IsS123.drewN | apply IsS123.drew | apply IsS123.set_1) | exact HI0.out))) : gb101 ≠ g)); replace HI0 := Qz.mk (IsS123.below (by repeat (first | (with_reducible first | exact HI0.out | apply IsS123.alloc | apply IsS123.drewN | apply IsS123.drew | apply IsS123.set_1) | exact HI0.out)) hb); clear hb hbox hg) | ((with_reducible refine gate_dst (N := 4) rfl ?_); refine box_event ?hg (N := 4) ?hd (cs := #[.slice none 0 0, .slice none 0 0, .int .i64 0, .int .i64 0, .int .i64 0]) (t := 37) ?hr ?_; (case hd => rfl); (case hg => rfl); (case hr => exact yq51); intro gb102 hg w8 hbox hb; replace HB := Qz.mk (qq (by repeat (first | (with_reducible first | exact HB.out | apply qh | apply qg | apply qi | refine qe ?_ (IsS123.ge HI0.out) | refine qe ?_ GE101.out) | exact HB.out)) hb); have BK102 := Qz.mk (hbox); have GW102 := Qz.mk ((by rw [hg]; exact (qc1 (w := w) (g := g) (row := none) yq52) : w.heap.size ≤ gb102)); have GE102 := Qz.mk ((Nat.le_trans HW0.out (by rw [hg]; exact (qc1 (w := w) (g := g) (row := none) yq52) : w.heap.size ≤ gb102) : w0.heap.size ≤ gb102)); replace HK := Qz.mk (KeepBut.trans yq52 (KeepBut.of_below hb g none) (.inl rfl)); have NB101_102 := Qz.mk ((yq44 : gb101 ≠ gb102)); have NB102_101 := Qz.mk ((yq45 : gb102 ≠ gb101)); replace BK101 := bkbf88 BK101 yq27 hb; have NB0_102 := Qz.mk ((by rw [hg]; exact Nat.ne_of_lt (IsS123.lt (show IsS123 w0 _ g s0_0 s0_1 from by repeat (first | (with_reducible first | exact HI0.out | apply IsS123.alloc | apply IsS123.drewN | apply IsS123.drew | apply IsS123.set_1 | apply (fun h_ => IsS123.far h_ NB0_101.out _)) | exact HI0.out))) : g ≠ gb102)); have NB102_0 := Qz.mk ((by rw [hg]; exact Nat.ne_of_gt (IsS123.lt (show IsS123 w0 _ g s0_0 s0_1 from by repeat (first | (with_reducible first | exact HI0.out | apply IsS123.alloc | apply IsS123.drewN | apply IsS123.drew | apply IsS123.set_1 | apply (fun h_ => IsS123.far h_ NB0_101.out _)) | exact HI0.out))) : gb102 ≠ g)); replace HI0 := Qz.mk (IsS123.below (by repeat (first | (with_reducible first | exact HI0.out | apply IsS123.alloc | apply IsS123.drewN | apply IsS123.drew | apply IsS123.set_1 | apply (fun h_ => IsS123.far h_ NB0_101.out _)) | exact HI0.out)) hb); clear hb hbox hg))
 replace BK101 := Qz.mk (qc BK101.out)
 replace BK102 := Qz.mk (qc BK102.out)
 replace HI0 := Qz.mk (IsS123.drew HI0.out)
 replace HK := Qz.mk (qo HK.out)
 replace HB := Qz.mk (qi HB.out)
 refine start_ (n := 15) (S := fun w' => w'.cell? ⟨gb101, 0, none⟩ = some (.slice A1_0 l1_0.length c1_0) ∧ w'.cell? ⟨gb101, 1, none⟩ = some (.int .i64 a1_1) ∧ w'.cell? ⟨gb101, 2, none⟩ = some (.int .i64 a1_2) ∧ w'.cell? ⟨gb101, 3, none⟩ = some (.int .i64 a1_3)) (ds := []) #[false, false, false, false, false, false, false, false, false, false, false, false, false, false, false] (by kernel_rfl) rfl rfl ⟨(qd BK101.out 0).trans rfl, (qd BK101.out 1).trans rfl, (qd BK101.out 2).trans rfl, (qd BK101.out 3).trans rfl⟩ (fun hHeld => ?_); refine with_tabW spec_l1Rd_edit.tab1 spec_l1Rd_edit.bits1 (fun HT_ HW_ => ?_)
 generalize w8.drew = w9 at BK101 BK102 HI0 HK HB hHeld ⊢
 refine pure_ (i := 0) (N := some 8) (v := ?_) (a' := ?_) #[true, false, false, false, false, false, false, false, false, false, false, false, false, false, false] rfl rfl (qf1 HT_.out (by kernel_rfl)) (fun _ _ _ h => h) (Or.inl ⟨by rfl, ?_⟩) ?_ ?_
 rotate_left
 ·intro w'
  go_simp
  with_reducible rfl
 rotate_left
 ·simp only [Act.put, sq1, sq2, sq3, i64_w, i32_w]
  rfl
 refine pure_ (i := 2) (N := some 10) (v := ?_) (a' := ?_) #[true, false, true, false, false, false, false, false, false, false, false, false, false, false, false] rfl rfl (qf1 HT_.out (by kernel_rfl)) (fun _ _ _ h => h) (Or.inl ⟨by rfl, ?_⟩) ?_ ?_
 rotate_left
 ·intro w'
  go_simp
  with_reducible rfl
 rotate_left
 ·simp only [Act.put, sq1, sq2, sq3, i64_w, i32_w]
  rfl
 refine pure_ (i := 5) (N := some 13) (v := ?_) (a' := ?_) #[true, false, true, false, false, true, false, false, false, false, false, false, false, false, false] rfl rfl (qf1 HT_.out (by kernel_rfl)) (fun _ _ _ h => h) (Or.inl ⟨by rfl, ?_⟩) ?_ ?_
 rotate_left
 ·intro w'
  go_simp
  with_reducible rfl
 rotate_left
 ·simp only [Act.put, sq1, sq2, sq3, i64_w, i32_w]
  rfl
 refine pure_ (i := 7) (N := some 15) (v := ?_) (a' := ?_) #[true, false, true, false, false, true, false, true, false, false, false, false, false, false, false] rfl rfl (qf1 HT_.out (by kernel_rfl)) (fun _ _ _ h => h) (Or.inl ⟨by rfl, ?_⟩) ?_ ?_
 rotate_left
 ·intro w'
  go_simp
  with_reducible rfl
 rotate_left
 ·simp only [Act.put, sq1, sq2, sq3, i64_w, i32_w]
  rfl
 refine pure_ (i := 10) (N := some 18) (v := ?_) (a' := ?_) #[true, false, true, false, false, true, false, true, false, false, true, false, false, false, false] rfl rfl (qf1 HT_.out (by kernel_rfl)) (fun _ _ _ h => h) (Or.inl ⟨by rfl, ?_⟩) ?_ ?_
 rotate_left
 ·intro w'
  go_simp
  with_reducible rfl
 rotate_left
 ·simp only [Act.put, sq1, sq2, sq3, i64_w, i32_w]
  rfl
 refine take_ (i := 1) (N := some 9) (v := ?_) (a' := ?_) #[true, true, true, false, false, true, false, true, false, false, true, false, false, false, false] rfl rfl (take_ofW HT_.out HW_.out (by kernel_rfl)) (fun _ _ _ h => h) (Or.inl ⟨by rfl, ?_⟩) hHeld ?_ ?_
 rotate_left
 ·rintro w' ⟨s0, s1, s2, s3⟩
  go_simp
  with_reducible rfl
 rotate_left
 ·simp only [Act.put, sq1, sq2, sq3, i64_w, i32_w]
  rfl
 refine take_ (i := 6) (N := some 14) (v := ?_) (a' := ?_) #[true, true, true, false, false, true, true, true, false, false, true, false, false, false, false] rfl rfl (take_ofW HT_.out HW_.out (by kernel_rfl)) (fun _ _ _ h => h) (Or.inl ⟨by rfl, ?_⟩) hHeld ?_ ?_
 rotate_left
 ·rintro w' ⟨s0, s1, s2, s3⟩
  go_simp
  with_reducible rfl
 rotate_left
 ·simp only [Act.put, sq1, sq2, sq3, i64_w, i32_w]
  rfl
 refine take_ (i := 11) (N := some 19) (v := ?_) (a' := ?_) #[true, true, true, false, false, true, true, true, false, false, true, true, false, false, false] rfl rfl (take_ofW HT_.out HW_.out (by kernel_rfl)) (fun _ _ _ h => h) (Or.inl ⟨by rfl, ?_⟩) hHeld ?_ ?_
 rotate_left
 ·rintro w' ⟨s0, s1, s2, s3⟩
  go_simp
  with_reducible rfl
 rotate_left
 ·simp only [Act.put, sq1, sq2, sq3, i64_w, i32_w]
  rfl
 refine join_ (σ := Nat) 1 bq45 (fun s_ => [(11, .int .i64 t103), (16, .int .i64 t105), (5, .pointer (some ⟨s_, 0, none⟩)), (12, .int .i64 (wrap64 (a1_1 + t103))), (17, .int .i64 (wrap64 (a1_2 + t105))), (20, .agg #[.slice none 0 0, .slice none 0 0, .int .i64 (wrap64 (a1_1 + t103)), .int .i64 (wrap64 (a1_2 + t105)), .int .i64 a1_3])]) (fun s_ w' => (w'.cell? ⟨gb101, 0, none⟩ = some (.slice A1_0 l1_0.length c1_0) ∧ w'.cell? ⟨gb101, 1, none⟩ = some (.int .i64 a1_1) ∧ w'.cell? ⟨gb101, 2, none⟩ = some (.int .i64 a1_2) ∧ w'.cell? ⟨gb101, 3, none⟩ = some (.int .i64 a1_3)) ∧ (w'.heap[gb101]? = some (.cells #[.slice A1_0 l1_0.length c1_0, .int .i64 a1_1, .int .i64 a1_2, .int .i64 a1_3] 32 (0, 0))) ∧ (w'.heap[gb102]? = some (.cells #[.slice none 0 0, .slice none 0 0, .int .i64 0, .int .i64 0, .int .i64 0] 37 (0, 0))) ∧ (w'.heap[s_]? = some (.cells #[.slice none 0 0, .slice none 0 0, .int .i64 0, .int .i64 0, .int .i64 0] 37 (0, 0))) ∧ (w.heap.size ≤ s_) ∧ (w0.heap.size ≤ s_) ∧ (g ≠ s_) ∧ (s_ ≠ g) ∧ (gb101 ≠ s_) ∧ (s_ ≠ gb101) ∧ (gb102 ≠ s_) ∧ (s_ ≠ gb102) ∧ (IsS123 w0 w' g s0_0 t106) ∧ (KeepBut w w' g none) ∧ (Below w0.heap.size w0 w')) ?_ ?_
 rotate_left
 ·intro hCont
  refine two_ (i := 3) (j := 13) (Ni := some 11) (Nj := some 5) #[true, true, true, true, false, true, true, true, false, false, true, true, false, false, false] #[true, true, true, false, false, true, true, true, false, false, true, true, false, true, false] rfl rfl rfl rfl (two_of HT_.out (by kernel_rfl)) (by decide) (by decide) (fun K hK => ?_) (fun K hK => ?_)
  ·skip
   refine goes_ Try.func80 (by kernel_rfl) rfl #[.pointer (some ⟨g, 0, none⟩), .int .i64 4] (by rfl) rfl rfl yq42 ?_
   with_reducible refine (spec_l1Rd_below.calls g s0_0 s0_1 4 t103 t104 w0 _ ?side1 ?side2 A3.out).mono ?_
   (case side1 => exact yq41)
   (case side2 => exact yq46)
   rintro e w10 ⟨rfl, hi, hb, hk⟩
   refine ⟨_, rfl, ?_⟩
   replace BK101 := Qz.mk (KeepBut.blk hk (g' := gb101) (o := .cells #[.slice A1_0 l1_0.length c1_0, .int .i64 a1_1, .int .i64 a1_2, .int .i64 a1_3] 32 (0, 0)) yq27 NB101_0.out (by simp))
   replace BK102 := Qz.mk (KeepBut.blk hk (g' := gb102) (o := .cells #[.slice none 0 0, .slice none 0 0, .int .i64 0, .int .i64 0, .int .i64 0] 37 (0, 0)) yq28 NB102_0.out (by simp))
   replace HK := Qz.mk (KeepBut.trans yq31 hk (.inl rfl))
   replace HB := Qz.mk (hb)
   replace HI0 := Qz.mk (hi)
   (try clear hb)
   (try clear hk)
   (try clear hi)
   refine hK.out _ _ ⟨(qd BK101.out 0).trans rfl, (qd BK101.out 1).trans rfl, (qd BK101.out 2).trans rfl, (qd BK101.out 3).trans rfl⟩ (fun hHeld => ?_)
   clear hK K
   refine norm_ (a' := ?_) ?_ ?_
   rotate_left
   ·show Act.put _ (some 11) _ = _
    simp only [Act.put, sq1, sq2, sq3, i64_w, i32_w]
    rfl
   refine pure_ (i := 4) (N := some 12) (v := ?_) (a' := ?_) #[true, true, true, true, true, true, true, true, false, false, true, true, false, false, false] rfl rfl (qf1 HT_.out (by kernel_rfl)) (fun _ _ _ h => h) (Or.inl ⟨by rfl, ?_⟩) ?_ ?_
   rotate_left
   ·intro w'
    go_simp
    with_reducible rfl
   rotate_left
   ·simp only [Act.put, sq1, sq2, sq3, i64_w, i32_w]
    rfl
   refine two_ (i := 8) (j := 13) (Ni := some 16) (Nj := some 5) #[true, true, true, true, true, true, true, true, true, false, true, true, false, false, false] bq36 rfl rfl rfl rfl (two_of HT_.out (by kernel_rfl)) (by decide) (by decide) (fun K hK => ?_) (fun K hK => ?_)
   ·skip
    refine goes_ Try.func80 (by kernel_rfl) rfl #[.pointer (some ⟨g, 0, none⟩), .int .i64 9] (by rfl) rfl rfl yq42 ?_
    with_reducible refine (spec_l1Rd_below.calls g s0_0 t104 9 t105 t106 w0 _ ?side1 ?side2 A4.out).mono ?_
    (case side1 => exact yq41)
    (case side2 => exact yq46)
    rintro e w11 ⟨rfl, hi, hb, hk⟩
    refine ⟨_, rfl, ?_⟩
    replace BK101 := Qz.mk (KeepBut.blk hk (g' := gb101) (o := .cells #[.slice A1_0 l1_0.length c1_0, .int .i64 a1_1, .int .i64 a1_2, .int .i64 a1_3] 32 (0, 0)) yq27 NB101_0.out (by simp))
    replace BK102 := Qz.mk (KeepBut.blk hk (g' := gb102) (o := .cells #[.slice none 0 0, .slice none 0 0, .int .i64 0, .int .i64 0, .int .i64 0] 37 (0, 0)) yq28 NB102_0.out (by simp))
    replace HK := Qz.mk (KeepBut.trans yq31 hk (.inl rfl))
    replace HB := Qz.mk (hb)
    replace HI0 := Qz.mk (hi)
    (try clear hb)
    (try clear hk)
    (try clear hi)
    refine hK.out _ _ ⟨(qd BK101.out 0).trans rfl, (qd BK101.out 1).trans rfl, (qd BK101.out 2).trans rfl, (qd BK101.out 3).trans rfl⟩ (fun hHeld => ?_)
    clear hK K
    refine norm_ (a' := ?_) ?_ ?_
    rotate_left
    ·show Act.put _ (some 16) _ = _
     simp only [Act.put, sq1, sq2, sq3, i64_w, i32_w]
     rfl
    refine pure_ (i := 9) (N := some 17) (v := ?_) (a' := ?_) #[true, true, true, true, true, true, true, true, true, true, true, true, false, false, false] rfl rfl (qf1 HT_.out (by kernel_rfl)) (fun _ _ _ h => h) (Or.inl ⟨by rfl, ?_⟩) ?_ ?_
    rotate_left
    ·intro w'
     go_simp
     with_reducible rfl
    rotate_left
    ·simp only [Act.put, sq1, sq2, sq3, i64_w, i32_w]
     rfl
    refine pure_ (i := 12) (N := some 20) (v := ?_) (a' := ?_) #[true, true, true, true, true, true, true, true, true, true, true, true, true, false, false] rfl rfl (qf1 HT_.out (by kernel_rfl)) (fun _ _ _ h => h) (Or.inl ⟨by rfl, ?_⟩) ?_ ?_
    rotate_left
    ·intro w'
     go_simp
     with_reducible rfl
    rotate_left
    ·simp only [Act.put, sq1, sq2, sq3, i64_w, i32_w]
     rfl
    refine one_ (i := 13) (N := some 5) bq45 rfl rfl (one_of HT_.out (by kernel_rfl)) (by decide) (fun K hK => ?_)
    refine box_step ?hg (N := 5) ?hd (cs := #[.slice none 0 0, .slice none 0 0, .int .i64 0, .int .i64 0, .int .i64 0]) (t := 37) ?hr ?_; (case hd => rfl); (case hg => rfl); (case hr => exact yq51)
    intro gb107 hg w12 hbox hb
    replace HB := Qz.mk (qq yq46 hb)
    have BK107 := Qz.mk (hbox)
    have GW107 := Qz.mk ((yq54 : w.heap.size ≤ gb107))
    have GE107 := Qz.mk ((Nat.le_trans HW0.out (yq54 : w.heap.size ≤ gb107) : w0.heap.size ≤ gb107))
    replace HK := Qz.mk (KeepBut.trans yq31 (KeepBut.of_below hb g none) (.inl rfl))
    have NB101_107 := Qz.mk ((yq44 : gb101 ≠ gb107))
    have NB107_101 := Qz.mk ((yq45 : gb107 ≠ gb101))
    replace BK101 := bkbf88 BK101 yq27 hb
    have NB102_107 := Qz.mk ((yq47 : gb102 ≠ gb107))
    have NB107_102 := Qz.mk ((yq48 : gb107 ≠ gb102))
    replace BK102 := bkbf88 BK102 yq28 hb
    have NB0_107 := Qz.mk ((by rw [hg]; exact Nat.ne_of_lt (IsS123.lt (show IsS123 w0 _ g s0_0 t106 from by repeat (first | (with_reducible first | exact HI0.out | apply IsS123.alloc | apply IsS123.drewN | apply IsS123.drew | apply IsS123.set_1 | apply (fun h_ => IsS123.far h_ NB0_101.out _) | apply (fun h_ => IsS123.far h_ NB0_102.out _)) | exact HI0.out))) : g ≠ gb107))
    have NB107_0 := Qz.mk ((by rw [hg]; exact Nat.ne_of_gt (IsS123.lt (show IsS123 w0 _ g s0_0 t106 from by repeat (first | (with_reducible first | exact HI0.out | apply IsS123.alloc | apply IsS123.drewN | apply IsS123.drew | apply IsS123.set_1 | apply (fun h_ => IsS123.far h_ NB0_101.out _) | apply (fun h_ => IsS123.far h_ NB0_102.out _)) | exact HI0.out))) : gb107 ≠ g))
    replace HI0 := Qz.mk (IsS123.below yq41 hb)
    clear hb hbox hg
    refine hK.out _ _ ⟨(qd BK101.out 0).trans rfl, (qd BK101.out 1).trans rfl, (qd BK101.out 2).trans rfl, (qd BK101.out 3).trans rfl⟩ (fun hHeld => ?_)
    clear hK K
    refine norm_ (a' := ?_) ?_ ?_
    rotate_left
    ·show Act.put _ (some 5) _ = _
     simp only [Act.put, sq1, sq2, sq3, i64_w, i32_w]
     rfl
    exact norm_ (by simp only [putAll, Act.put, sq1, sq2, sq3]) (hCont (gb107) _ ⟨hHeld, yq27, yq28, yq30, GW107.out, GE107.out, NB0_107.out, NB107_0.out, NB101_107.out, NB107_101.out, NB102_107.out, NB107_102.out, yq24, yq25, yq26⟩)
   ·skip
    refine box_step ?hg (N := 5) ?hd (cs := #[.slice none 0 0, .slice none 0 0, .int .i64 0, .int .i64 0, .int .i64 0]) (t := 37) ?hr ?_; (case hd => rfl); (case hg => rfl); (case hr => exact yq51)
    intro gb107 hg w11 hbox hb
    replace HB := Qz.mk (qq yq46 hb)
    have BK107 := Qz.mk (hbox)
    have GW107 := Qz.mk ((yq54 : w.heap.size ≤ gb107))
    have GE107 := Qz.mk ((Nat.le_trans HW0.out (yq54 : w.heap.size ≤ gb107) : w0.heap.size ≤ gb107))
    replace HK := Qz.mk (KeepBut.trans yq31 (KeepBut.of_below hb g none) (.inl rfl))
    have NB101_107 := Qz.mk ((yq44 : gb101 ≠ gb107))
    have NB107_101 := Qz.mk ((yq45 : gb107 ≠ gb101))
    replace BK101 := bkbf88 BK101 yq27 hb
    have NB102_107 := Qz.mk ((yq47 : gb102 ≠ gb107))
    have NB107_102 := Qz.mk ((yq48 : gb107 ≠ gb102))
    replace BK102 := bkbf88 BK102 yq28 hb
    have NB0_107 := Qz.mk ((by rw [hg]; exact Nat.ne_of_lt (IsS123.lt (show IsS123 w0 _ g s0_0 t104 from by repeat (first | (with_reducible first | exact HI0.out | apply IsS123.alloc | apply IsS123.drewN | apply IsS123.drew | apply IsS123.set_1 | apply (fun h_ => IsS123.far h_ NB0_101.out _) | apply (fun h_ => IsS123.far h_ NB0_102.out _)) | exact HI0.out))) : g ≠ gb107))
    have NB107_0 := Qz.mk ((by rw [hg]; exact Nat.ne_of_gt (IsS123.lt (show IsS123 w0 _ g s0_0 t104 from by repeat (first | (with_reducible first | exact HI0.out | apply IsS123.alloc | apply IsS123.drewN | apply IsS123.drew | apply IsS123.set_1 | apply (fun h_ => IsS123.far h_ NB0_101.out _) | apply (fun h_ => IsS123.far h_ NB0_102.out _)) | exact HI0.out))) : gb107 ≠ g))
    replace HI0 := Qz.mk (IsS123.below yq41 hb)
    clear hb hbox hg
    refine hK.out _ _ ⟨(qd BK101.out 0).trans rfl, (qd BK101.out 1).trans rfl, (qd BK101.out 2).trans rfl, (qd BK101.out 3).trans rfl⟩ (fun hHeld => ?_)
    clear hK K
    refine norm_ (a' := ?_) ?_ ?_
    rotate_left
    ·show Act.put _ (some 5) _ = _
     simp only [Act.put, sq1, sq2, sq3, i64_w, i32_w]
     rfl
    refine one_ (i := 8) (N := some 16) bq40 rfl rfl (one_of HT_.out (by kernel_rfl)) (by decide) (fun K hK => ?_)
    refine goes_ Try.func80 (by kernel_rfl) rfl #[.pointer (some ⟨g, 0, none⟩), .int .i64 9] (by rfl) rfl rfl yq42 ?_
    with_reducible refine (spec_l1Rd_below.calls g s0_0 t104 9 t105 t106 w0 _ ?side1 ?side2 A4.out).mono ?_
    (case side1 => exact yq24)
    (case side2 => exact yq26)
    rintro e w12 ⟨rfl, hi, hb, hk⟩
    refine ⟨_, rfl, ?_⟩
    replace BK101 := Qz.mk (KeepBut.blk hk (g' := gb101) (o := .cells #[.slice A1_0 l1_0.length c1_0, .int .i64 a1_1, .int .i64 a1_2, .int .i64 a1_3] 32 (0, 0)) yq27 NB101_0.out (by simp))
    replace BK102 := Qz.mk (KeepBut.blk hk (g' := gb102) (o := .cells #[.slice none 0 0, .slice none 0 0, .int .i64 0, .int .i64 0, .int .i64 0] 37 (0, 0)) yq28 NB102_0.out (by simp))
    replace BK107 := Qz.mk (KeepBut.blk hk (g' := gb107) (o := .cells #[.slice none 0 0, .slice none 0 0, .int .i64 0, .int .i64 0, .int .i64 0] 37 (0, 0)) yq30 NB107_0.out (by simp))
    replace HK := Qz.mk (KeepBut.trans yq25 hk (.inl rfl))
    replace HB := Qz.mk (hb)
    replace HI0 := Qz.mk (hi)
    (try clear hb)
    (try clear hk)
    (try clear hi)
    refine hK.out _ _ ⟨(qd BK101.out 0).trans rfl, (qd BK101.out 1).trans rfl, (qd BK101.out 2).trans rfl, (qd BK101.out 3).trans rfl⟩ (fun hHeld => ?_)
    clear hK K
    refine norm_ (a' := ?_) ?_ ?_
    rotate_left
    ·show Act.put _ (some 16) _ = _
     simp only [Act.put, sq1, sq2, sq3, i64_w, i32_w]
     rfl
    refine pure_ (i := 9) (N := some 17) (v := ?_) (a' := ?_) bq44 rfl rfl (qf1 HT_.out (by kernel_rfl)) (fun _ _ _ h => h) (Or.inl ⟨by rfl, ?_⟩) ?_ ?_
    rotate_left
    ·intro w'
     go_simp
     with_reducible rfl
    rotate_left
    ·simp only [Act.put, sq1, sq2, sq3, i64_w, i32_w]
     rfl
    refine pure_ (i := 12) (N := some 20) (v := ?_) (a' := ?_) bq45 rfl rfl (qf1 HT_.out (by kernel_rfl)) (fun _ _ _ h => h) (Or.inl ⟨by rfl, ?_⟩) ?_ ?_
    rotate_left
    ·intro w'
     go_simp
     with_reducible rfl
    rotate_left
    ·simp only [Act.put, sq1, sq2, sq3, i64_w, i32_w]
     rfl
    exact norm_ (by simp only [putAll, Act.put, sq1, sq2, sq3]) (hCont (gb107) _ ⟨hHeld, yq27, yq28, yq30, GW107.out, GE107.out, NB0_107.out, NB107_0.out, NB101_107.out, NB107_101.out, NB102_107.out, NB107_102.out, yq24, yq25, yq26⟩)
  ·skip
   refine box_step ?hg (N := 5) ?hd (cs := #[.slice none 0 0, .slice none 0 0, .int .i64 0, .int .i64 0, .int .i64 0]) (t := 37) ?hr ?_; (case hd => rfl); (case hg => rfl); (case hr => exact yq51)
   intro gb107 hg w10 hbox hb
   replace HB := Qz.mk (qq yq46 hb)
   have BK107 := Qz.mk (hbox)
   have GW107 := Qz.mk ((yq54 : w.heap.size ≤ gb107))
   have GE107 := Qz.mk ((Nat.le_trans HW0.out (yq54 : w.heap.size ≤ gb107) : w0.heap.size ≤ gb107))
   replace HK := Qz.mk (KeepBut.trans yq31 (KeepBut.of_below hb g none) (.inl rfl))
   have NB101_107 := Qz.mk ((yq44 : gb101 ≠ gb107))
   have NB107_101 := Qz.mk ((yq45 : gb107 ≠ gb101))
   replace BK101 := bkbf88 BK101 yq27 hb
   have NB102_107 := Qz.mk ((yq47 : gb102 ≠ gb107))
   have NB107_102 := Qz.mk ((yq48 : gb107 ≠ gb102))
   replace BK102 := bkbf88 BK102 yq28 hb
   have NB0_107 := Qz.mk ((by rw [hg]; exact Nat.ne_of_lt (IsS123.lt (show IsS123 w0 _ g s0_0 s0_1 from by repeat (first | (with_reducible first | exact HI0.out | apply IsS123.alloc | apply IsS123.drewN | apply IsS123.drew | apply IsS123.set_1 | apply (fun h_ => IsS123.far h_ NB0_101.out _) | apply (fun h_ => IsS123.far h_ NB0_102.out _)) | exact HI0.out))) : g ≠ gb107))
   have NB107_0 := Qz.mk ((by rw [hg]; exact Nat.ne_of_gt (IsS123.lt (show IsS123 w0 _ g s0_0 s0_1 from by repeat (first | (with_reducible first | exact HI0.out | apply IsS123.alloc | apply IsS123.drewN | apply IsS123.drew | apply IsS123.set_1 | apply (fun h_ => IsS123.far h_ NB0_101.out _) | apply (fun h_ => IsS123.far h_ NB0_102.out _)) | exact HI0.out))) : gb107 ≠ g))
   replace HI0 := Qz.mk (IsS123.below yq41 hb)
   clear hb hbox hg
   refine hK.out _ _ ⟨(qd BK101.out 0).trans rfl, (qd BK101.out 1).trans rfl, (qd BK101.out 2).trans rfl, (qd BK101.out 3).trans rfl⟩ (fun hHeld => ?_)
   clear hK K
   refine norm_ (a' := ?_) ?_ ?_
   rotate_left
   ·show Act.put _ (some 5) _ = _
    simp only [Act.put, sq1, sq2, sq3, i64_w, i32_w]
    rfl
   refine one_ (i := 3) (N := some 11) #[true, true, true, true, false, true, true, true, false, false, true, true, false, true, false] rfl rfl (one_of HT_.out (by kernel_rfl)) (by decide) (fun K hK => ?_)
   refine goes_ Try.func80 (by kernel_rfl) rfl #[.pointer (some ⟨g, 0, none⟩), .int .i64 4] (by rfl) rfl rfl yq42 ?_
   with_reducible refine (spec_l1Rd_below.calls g s0_0 s0_1 4 t103 t104 w0 _ ?side1 ?side2 A3.out).mono ?_
   (case side1 => exact yq24)
   (case side2 => exact yq26)
   rintro e w11 ⟨rfl, hi, hb, hk⟩
   refine ⟨_, rfl, ?_⟩
   replace BK101 := Qz.mk (KeepBut.blk hk (g' := gb101) (o := .cells #[.slice A1_0 l1_0.length c1_0, .int .i64 a1_1, .int .i64 a1_2, .int .i64 a1_3] 32 (0, 0)) yq27 NB101_0.out (by simp))
   replace BK102 := Qz.mk (KeepBut.blk hk (g' := gb102) (o := .cells #[.slice none 0 0, .slice none 0 0, .int .i64 0, .int .i64 0, .int .i64 0] 37 (0, 0)) yq28 NB102_0.out (by simp))
   replace BK107 := Qz.mk (KeepBut.blk hk (g' := gb107) (o := .cells #[.slice none 0 0, .slice none 0 0, .int .i64 0, .int .i64 0, .int .i64 0] 37 (0, 0)) yq30 NB107_0.out (by simp))
   replace HK := Qz.mk (KeepBut.trans yq25 hk (.inl rfl))
   replace HB := Qz.mk (hb)
   replace HI0 := Qz.mk (hi)
   (try clear hb)
   (try clear hk)
   (try clear hi)
   refine hK.out _ _ ⟨(qd BK101.out 0).trans rfl, (qd BK101.out 1).trans rfl, (qd BK101.out 2).trans rfl, (qd BK101.out 3).trans rfl⟩ (fun hHeld => ?_)
   clear hK K
   refine norm_ (a' := ?_) ?_ ?_
   rotate_left
   ·show Act.put _ (some 11) _ = _
    simp only [Act.put, sq1, sq2, sq3, i64_w, i32_w]
    rfl
   refine pure_ (i := 4) (N := some 12) (v := ?_) (a' := ?_) bq36 rfl rfl (qf1 HT_.out (by kernel_rfl)) (fun _ _ _ h => h) (Or.inl ⟨by rfl, ?_⟩) ?_ ?_
   rotate_left
   ·intro w'
    go_simp
    with_reducible rfl
   rotate_left
   ·simp only [Act.put, sq1, sq2, sq3, i64_w, i32_w]
    rfl
   refine one_ (i := 8) (N := some 16) bq40 rfl rfl (one_of HT_.out (by kernel_rfl)) (by decide) (fun K hK => ?_)
   refine goes_ Try.func80 (by kernel_rfl) rfl #[.pointer (some ⟨g, 0, none⟩), .int .i64 9] (by rfl) rfl rfl yq42 ?_
   with_reducible refine (spec_l1Rd_below.calls g s0_0 t104 9 t105 t106 w0 _ ?side1 ?side2 A4.out).mono ?_
   (case side1 => exact yq24)
   (case side2 => exact yq26)
   rintro e w12 ⟨rfl, hi, hb, hk⟩
   refine ⟨_, rfl, ?_⟩
   replace BK101 := Qz.mk (KeepBut.blk hk (g' := gb101) (o := .cells #[.slice A1_0 l1_0.length c1_0, .int .i64 a1_1, .int .i64 a1_2, .int .i64 a1_3] 32 (0, 0)) yq27 NB101_0.out (by simp))
   replace BK102 := Qz.mk (KeepBut.blk hk (g' := gb102) (o := .cells #[.slice none 0 0, .slice none 0 0, .int .i64 0, .int .i64 0, .int .i64 0] 37 (0, 0)) yq28 NB102_0.out (by simp))
   replace BK107 := Qz.mk (KeepBut.blk hk (g' := gb107) (o := .cells #[.slice none 0 0, .slice none 0 0, .int .i64 0, .int .i64 0, .int .i64 0] 37 (0, 0)) yq30 NB107_0.out (by simp))
   replace HK := Qz.mk (KeepBut.trans yq25 hk (.inl rfl))
   replace HB := Qz.mk (hb)
   replace HI0 := Qz.mk (hi)
   (try clear hb)
   (try clear hk)
   (try clear hi)
   refine hK.out _ _ ⟨(qd BK101.out 0).trans rfl, (qd BK101.out 1).trans rfl, (qd BK101.out 2).trans rfl, (qd BK101.out 3).trans rfl⟩ (fun hHeld => ?_)
   clear hK K
   refine norm_ (a' := ?_) ?_ ?_
   rotate_left
   ·show Act.put _ (some 16) _ = _
    simp only [Act.put, sq1, sq2, sq3, i64_w, i32_w]
    rfl
   refine pure_ (i := 9) (N := some 17) (v := ?_) (a' := ?_) bq44 rfl rfl (qf1 HT_.out (by kernel_rfl)) (fun _ _ _ h => h) (Or.inl ⟨by rfl, ?_⟩) ?_ ?_
   rotate_left
   ·intro w'
    go_simp
    with_reducible rfl
   rotate_left
   ·simp only [Act.put, sq1, sq2, sq3, i64_w, i32_w]
    rfl
   refine pure_ (i := 12) (N := some 20) (v := ?_) (a' := ?_) bq45 rfl rfl (qf1 HT_.out (by kernel_rfl)) (fun _ _ _ h => h) (Or.inl ⟨by rfl, ?_⟩) ?_ ?_
   rotate_left
   ·intro w'
    go_simp
    with_reducible rfl
   rotate_left
   ·simp only [Act.put, sq1, sq2, sq3, i64_w, i32_w]
    rfl
   exact norm_ (by simp only [putAll, Act.put, sq1, sq2, sq3]) (hCont (gb107) _ ⟨hHeld, yq27, yq28, yq30, GW107.out, GE107.out, NB0_107.out, NB107_0.out, NB101_107.out, NB107_101.out, NB102_107.out, NB107_102.out, yq24, yq25, yq26⟩)
 rintro gb107 w13 ⟨hS_, h0_, h1_, h2_, h3_, h4_, h5_, h6_, h7_, h8_, h9_, h10_, h11_, h12_, h13_⟩
 have n0_ : Qz (w13.heap[gb101]? = some (.cells #[.slice A1_0 l1_0.length c1_0, .int .i64 a1_1, .int .i64 a1_2, .int .i64 a1_3] 32 (0, 0))) := ⟨h0_⟩
 have n1_ : Qz (w13.heap[gb102]? = some (.cells #[.slice none 0 0, .slice none 0 0, .int .i64 0, .int .i64 0, .int .i64 0] 37 (0, 0))) := ⟨h1_⟩
 have n2_ : Qz (w13.heap[gb107]? = some (.cells #[.slice none 0 0, .slice none 0 0, .int .i64 0, .int .i64 0, .int .i64 0] 37 (0, 0))) := ⟨h2_⟩
 have n3_ : Qz (w.heap.size ≤ gb107) := ⟨h3_⟩
 have n4_ : Qz (w0.heap.size ≤ gb107) := ⟨h4_⟩
 have n5_ : Qz (g ≠ gb107) := ⟨h5_⟩
 have n6_ : Qz (gb107 ≠ g) := ⟨h6_⟩
 have n7_ : Qz (gb101 ≠ gb107) := ⟨h7_⟩
 have n8_ : Qz (gb107 ≠ gb101) := ⟨h8_⟩
 have n9_ : Qz (gb102 ≠ gb107) := ⟨h9_⟩
 have n10_ : Qz (gb107 ≠ gb102) := ⟨h10_⟩
 have n11_ : Qz (IsS123 w0 w13 g s0_0 t106) := ⟨h11_⟩
 have n12_ : Qz (KeepBut w w13 g none) := ⟨h12_⟩
 have n13_ : Qz (Below w0.heap.size w0 w13) := ⟨h13_⟩
 clear BK101
 clear BK102
 clear HI0
 clear HK
 clear HB
 clear h0_ h1_ h2_ h3_ h4_ h5_ h6_ h7_ h8_ h9_ h10_ h11_ h12_ h13_
 have BK101 := n0_
 have BK102 := n1_
 have BK107 := n2_
 have GW107 := n3_
 have GE107 := n4_
 have NB0_107 := n5_
 have NB107_0 := n6_
 have NB101_107 := n7_
 have NB107_101 := n8_
 have NB102_107 := n9_
 have NB107_102 := n10_
 have HI0 := n11_
 have HK := n12_
 have HB := n13_
 clear n0_ n1_ n2_ n3_ n4_ n5_ n6_ n7_ n8_ n9_ n10_ n11_ n12_ n13_
 have hHeld : w13.cell? ⟨gb101, 0, none⟩ = some (.slice A1_0 l1_0.length c1_0) ∧ w13.cell? ⟨gb101, 1, none⟩ = some (.int .i64 a1_1) ∧ w13.cell? ⟨gb101, 2, none⟩ = some (.int .i64 a1_2) ∧ w13.cell? ⟨gb101, 3, none⟩ = some (.int .i64 a1_3) := hS_
 refine norm_ (a' := ?_) ?_ ?_
 rotate_left
 ·simp only [putAll, Act.put, sq1, sq2, sq3]
  rfl
 refine one_ (i := 14) (N := none) #[true, true, true, true, true, true, true, true, true, true, true, true, true, true, true] rfl rfl (one_of HT_.out (by kernel_rfl)) (by decide) (fun K hK => ?_)
 have hs14 : w13.cell? ⟨gb107, 0, none⟩ = some (.slice none 0 0) := (qd BK107.out 0).trans rfl
 have hfs14 := qf BK107.out 0
 have hns14_0 := NB101_107.out
 have hns14_1 := NB102_107.out
 have hms14_0 := NB107_101.out
 have hms14_1 := NB107_102.out
 have hs15 : w13.cell? ⟨gb107, 1, none⟩ = some (.slice none 0 0) := (qd BK107.out 1).trans rfl
 have hfs15 := qf BK107.out 1
 have hns15_0 := NB101_107.out
 have hns15_1 := NB102_107.out
 have hms15_0 := NB107_101.out
 have hms15_1 := NB107_102.out
 have hs16 : w13.cell? ⟨gb107, 2, none⟩ = some (.int .i64 0) := (qd BK107.out 2).trans rfl
 have hfs16 := qf BK107.out 2
 have hns16_0 := NB101_107.out
 have hns16_1 := NB102_107.out
 have hms16_0 := NB107_101.out
 have hms16_1 := NB107_102.out
 have hs17 : w13.cell? ⟨gb107, 3, none⟩ = some (.int .i64 0) := (qd BK107.out 3).trans rfl
 have hfs17 := qf BK107.out 3
 have hns17_0 := NB101_107.out
 have hns17_1 := NB102_107.out
 have hms17_0 := NB107_101.out
 have hms17_1 := NB107_102.out
 have hs18 : w13.cell? ⟨gb107, 4, none⟩ = some (.int .i64 0) := (qd BK107.out 4).trans rfl
 have hfs18 := qf BK107.out 4
 have hns18_0 := NB101_107.out
 have hns18_1 := NB102_107.out
 have hms18_0 := NB107_101.out
 have hms18_1 := NB107_102.out
 refine skip_ (w1 := ?_) (by rfl) rfl ?_ ?_
 rotate_left
 ·go_simp
  rfl
 refine hK.out _ _ ⟨((qr (p := ⟨gb107, _, none⟩) NB101_107.out _).trans (((qr (p := ⟨gb107, _, none⟩) NB101_107.out _).trans (((qr (p := ⟨gb107, _, none⟩) NB101_107.out _).trans (((qr (p := ⟨gb107, _, none⟩) NB101_107.out _).trans (((qr (p := ⟨gb107, _, none⟩) NB101_107.out _).trans (hHeld.1)))))))))), ((qr (p := ⟨gb107, _, none⟩) NB101_107.out _).trans (((qr (p := ⟨gb107, _, none⟩) NB101_107.out _).trans (((qr (p := ⟨gb107, _, none⟩) NB101_107.out _).trans (((qr (p := ⟨gb107, _, none⟩) NB101_107.out _).trans (((qr (p := ⟨gb107, _, none⟩) NB101_107.out _).trans (hHeld.2.1)))))))))), ((qr (p := ⟨gb107, _, none⟩) NB101_107.out _).trans (((qr (p := ⟨gb107, _, none⟩) NB101_107.out _).trans (((qr (p := ⟨gb107, _, none⟩) NB101_107.out _).trans (((qr (p := ⟨gb107, _, none⟩) NB101_107.out _).trans (((qr (p := ⟨gb107, _, none⟩) NB101_107.out _).trans (hHeld.2.2.1)))))))))), ((qr (p := ⟨gb107, _, none⟩) NB101_107.out _).trans (((qr (p := ⟨gb107, _, none⟩) NB101_107.out _).trans (((qr (p := ⟨gb107, _, none⟩) NB101_107.out _).trans (((qr (p := ⟨gb107, _, none⟩) NB101_107.out _).trans (((qr (p := ⟨gb107, _, none⟩) NB101_107.out _).trans (hHeld.2.2.2))))))))))⟩ (fun hHeld => ?_)
 clear hK K
 refine done_ (done_of HT_.out (by kernel_rfl)) ?_
 go_upto_if 22 with (first | ((with_reducible refine qu (f := 73) rfl ?_); refine goesL_ (some 22) rfl rfl Try.func73 (by kernel_rfl) rfl #[.pointer (some ⟨g, 0, none⟩), .int .i64 3] rfl yq42 ?_; (with_reducible refine (spec_l1Rd_once.calls g s0_0 t106 3 t108 t109 w0 _ ?side1 ?side2 A5.out).mono ?_); (case side1 => exact yq24); (case side2 => exact yq26); rintro e w19 ⟨rfl, hi, hb, hk⟩; refine ⟨_, rfl, ?_⟩; replace BK101 := Qz.mk (KeepBut.blk hk (g' := gb101) (o := .cells #[.slice A1_0 l1_0.length c1_0, .int .i64 a1_1, .int .i64 a1_2, .int .i64 a1_3] 32 (0, 0)) (by (with_reducible repeat (first | refine qb ?_ _ | refine qc ?_ | refine qa ?_ _)); refine qp ?_ NB101_107.out _; (with_reducible repeat (first | refine qb ?_ _ | refine qc ?_ | refine qa ?_ _)); refine qp ?_ NB101_107.out _; (with_reducible repeat (first | refine qb ?_ _ | refine qc ?_ | refine qa ?_ _)); refine qp ?_ NB101_107.out _; (with_reducible repeat (first | refine qb ?_ _ | refine qc ?_ | refine qa ?_ _)); refine qp ?_ NB101_107.out _; (with_reducible repeat (first | refine qb ?_ _ | refine qc ?_ | refine qa ?_ _)); refine qp ?_ NB101_107.out _; (with_reducible repeat (first | refine qb ?_ _ | refine qc ?_ | refine qa ?_ _)); exact BK101.out) NB101_0.out (by simp)); replace BK102 := Qz.mk (KeepBut.blk hk (g' := gb102) (o := .cells #[.slice none 0 0, .slice none 0 0, .int .i64 0, .int .i64 0, .int .i64 0] 37 (0, 0)) (by (with_reducible repeat (first | refine qb ?_ _ | refine qc ?_ | refine qa ?_ _)); refine qp ?_ NB102_107.out _; (with_reducible repeat (first | refine qb ?_ _ | refine qc ?_ | refine qa ?_ _)); refine qp ?_ NB102_107.out _; (with_reducible repeat (first | refine qb ?_ _ | refine qc ?_ | refine qa ?_ _)); refine qp ?_ NB102_107.out _; (with_reducible repeat (first | refine qb ?_ _ | refine qc ?_ | refine qa ?_ _)); refine qp ?_ NB102_107.out _; (with_reducible repeat (first | refine qb ?_ _ | refine qc ?_ | refine qa ?_ _)); refine qp ?_ NB102_107.out _; (with_reducible repeat (first | refine qb ?_ _ | refine qc ?_ | refine qa ?_ _)); exact BK102.out) NB102_0.out (by simp)); replace BK107 := Qz.mk (KeepBut.blk hk (g' := gb107) (o := .cells #[.slice none 0 0, .slice none 0 0, .int .i64 (wrap64 (a1_1 + t103)), .int .i64 (wrap64 (a1_2 + t105)), .int .i64 a1_3] 37 (0, 0)) (by (with_reducible repeat (first | refine qb ?_ _ | refine qc ?_ | refine qa ?_ _)); refine qt (cs := #[.slice none 0 0, .slice none 0 0, .int .i64 (wrap64 (a1_1 + t103)), .int .i64 (wrap64 (a1_2 + t105)), .int .i64 0]) ?_ 4 _ rfl; (with_reducible repeat (first | refine qb ?_ _ | refine qc ?_ | refine qa ?_ _)); refine qt (cs := #[.slice none 0 0, .slice none 0 0, .int .i64 (wrap64 (a1_1 + t103)), .int .i64 0, .int .i64 0]) ?_ 3 _ rfl; (with_reducible repeat (first | refine qb ?_ _ | refine qc ?_ | refine qa ?_ _)); refine qt (cs := #[.slice none 0 0, .slice none 0 0, .int .i64 0, .int .i64 0, .int .i64 0]) ?_ 2 _ rfl; (with_reducible repeat (first | refine qb ?_ _ | refine qc ?_ | refine qa ?_ _)); refine qt (cs := #[.slice none 0 0, .slice none 0 0, .int .i64 0, .int .i64 0, .int .i64 0]) ?_ 1 _ rfl; (with_reducible repeat (first | refine qb ?_ _ | refine qc ?_ | refine qa ?_ _)); refine qt (cs := #[.slice none 0 0, .slice none 0 0, .int .i64 0, .int .i64 0, .int .i64 0]) ?_ 0 _ rfl; (with_reducible repeat (first | refine qb ?_ _ | refine qc ?_ | refine qa ?_ _)); exact BK107.out) NB107_0.out (by simp)); replace HK := Qz.mk (KeepBut.trans yq25 hk (.inl rfl)); replace HB := Qz.mk (hb); replace HI0 := Qz.mk (hi); (try clear hb); (try clear hk); (try clear hi)))
 (try simp only [Act.put, sq1, sq2, sq3])
 go_cut [] (fun wc => ∃ (kq : Nat) (x108004_5 : Int), Qz (spec_l1Rd_edit.j0 kq s0_0 t109 l1_0 a1_1 a1_2 a1_3 (wrap64 (a1_1 + t103)) (wrap64 (a1_2 + t105)) x108004_5 = some (r1, r2, r3, r4, r5, r6)) ∧ Qz (kq ≤ k) ∧ Qz (wc.heap[gb101]? = some (.cells #[(.slice A1_0 l1_0.length c1_0), .int .i64 a1_1, .int .i64 a1_2, .int .i64 a1_3] 32 (0, 0))) ∧ Qz (wc.heap[gb102]? = some (.cells #[(.slice none 0 0), (.slice none 0 0), .int .i64 0, .int .i64 0, .int .i64 0] 37 (0, 0))) ∧ Qz (wc.heap[gb107]? = some (.cells #[(.slice none 0 0), (.slice none 0 0), .int .i64 (wrap64 (a1_1 + t103)), .int .i64 (wrap64 (a1_2 + t105)), .int .i64 x108004_5] 37 (0, 0))) ∧ Qz (IsS123 w0 wc g s0_0 t109) ∧ Qz (KeepBut w wc g none) ∧ Qz (Below w0.heap.size w0 wc))
 case first =>
  have H := HC6.out
  clear HC6
  by_cases c20 : t108 = true
  ·subst c20
   have H1 : (spec_l1Rd_edit.j0 k s0_0 t109 l1_0 a1_1 a1_2 a1_3 (wrap64 (a1_1 + t103)) (wrap64 (a1_2 + t105)) (wrap64 ((wrap64 (a1_1 + t103)) - 1))) = some (r1, r2, r3, r4, r5, r6) := by rw [if_pos rfl] at H; exact H
   clear H
   have H := H1
   clear H1
   have H' := Qz.mk H
   clear H
   have hnb21 := NB107_101.out
   have hnc21 := NB101_107.out
   have hnb22 := NB107_102.out
   have hnc22 := NB102_107.out
   have hnb23 := NB107_0.out
   have hnc23 := NB0_107.out
   have hcz24_0 := (qd BK107.out 0).trans rfl
   have hcz24_1 := (qd BK107.out 1).trans rfl
   have hcz24_2 : w19.cell? ⟨gb107, 2, none⟩ = some (.int .i64 (wrap64 (a1_1 + t103))) := (qd BK107.out 2).trans rfl
   have hcz24_3 : w19.cell? ⟨gb107, 3, none⟩ = some (.int .i64 (wrap64 (a1_2 + t105))) := (qd BK107.out 3).trans rfl
   have hcz24_4 := (qd BK107.out 4).trans rfl
   have hfz24_0 := qf BK107.out 0
   have hfz24_1 := qf BK107.out 1
   have hfz24_2 := qf BK107.out 2
   have hfz24_3 := qf BK107.out 3
   have hfz24_4 := qf BK107.out 4
   go_wp2
   go_meet
   case rel => exact ⟨_, (wrap64 ((wrap64 (a1_1 + t103)) - 1)), H', ⟨by first | omega | exact Nat.le_refl _⟩, ⟨by (with_reducible repeat (first | refine qb ?_ _ | refine qc ?_ | refine qa ?_ _)); refine qp ?_ NB101_107.out _; (with_reducible repeat (first | refine qb ?_ _ | refine qc ?_ | refine qa ?_ _)); exact BK101.out⟩, ⟨by (with_reducible repeat (first | refine qb ?_ _ | refine qc ?_ | refine qa ?_ _)); refine qp ?_ NB102_107.out _; (with_reducible repeat (first | refine qb ?_ _ | refine qc ?_ | refine qa ?_ _)); exact BK102.out⟩, ⟨by (with_reducible repeat (first | refine qb ?_ _ | refine qc ?_ | refine qa ?_ _)); refine qt (cs := #[.slice none 0 0, .slice none 0 0, .int .i64 (wrap64 (a1_1 + t103)), .int .i64 (wrap64 (a1_2 + t105)), .int .i64 a1_3]) ?_ 4 _ rfl; (with_reducible repeat (first | refine qb ?_ _ | refine qc ?_ | refine qa ?_ _)); exact BK107.out⟩, ⟨by repeat (first | (with_reducible first | exact HI0.out | apply IsS123.alloc | apply IsS123.drewN | apply IsS123.drew | apply IsS123.set_1 | apply (fun h_ => IsS123.far h_ NB0_101.out _) | apply (fun h_ => IsS123.far h_ NB0_102.out _) | apply (fun h_ => IsS123.far h_ NB0_107.out _)) | exact HI0.out)⟩, ⟨by repeat (first | (with_reducible first | exact HK.out | apply KeepBut.set_ | apply ql | apply qo | apply qm | refine qj ?_ GW101.out _ | refine qj ?_ GW102.out _ | refine qj ?_ GW107.out _) | exact HK.out)⟩, ⟨by repeat (first | (with_reducible first | exact HB.out | apply qh | apply qg | apply qi | refine qe ?_ (IsS123.ge HI0.out) | refine qe ?_ GE101.out | refine qe ?_ GE102.out | refine qe ?_ GE107.out) | exact HB.out)⟩⟩
  ·replace c20 := Bool.eq_false_iff.mpr c20
   subst c20
   have H1 : (spec_l1Rd_edit.j0 k s0_0 t109 l1_0 a1_1 a1_2 a1_3 (wrap64 (a1_1 + t103)) (wrap64 (a1_2 + t105)) a1_3) = some (r1, r2, r3, r4, r5, r6) := by rw [if_neg (show ¬ (false = true) by decide)] at H; exact H
   clear H
   have H := H1
   clear H1
   have H' := Qz.mk H
   clear H
   go_wp2
   go_meet
   case rel => exact ⟨_, (a1_3), H', ⟨by first | omega | exact Nat.le_refl _⟩, ⟨by (with_reducible repeat (first | refine qb ?_ _ | refine qc ?_ | refine qa ?_ _)); exact BK101.out⟩, ⟨by (with_reducible repeat (first | refine qb ?_ _ | refine qc ?_ | refine qa ?_ _)); exact BK102.out⟩, ⟨by (with_reducible repeat (first | refine qb ?_ _ | refine qc ?_ | refine qa ?_ _)); exact BK107.out⟩, ⟨by repeat (first | (with_reducible first | exact HI0.out | apply IsS123.alloc | apply IsS123.drewN | apply IsS123.drew | apply IsS123.set_1 | apply (fun h_ => IsS123.far h_ NB0_101.out _) | apply (fun h_ => IsS123.far h_ NB0_102.out _) | apply (fun h_ => IsS123.far h_ NB0_107.out _)) | exact HI0.out)⟩, ⟨by repeat (first | (with_reducible first | exact HK.out | apply KeepBut.set_ | apply ql | apply qo | apply qm | refine qj ?_ GW101.out _ | refine qj ?_ GW102.out _ | refine qj ?_ GW107.out _) | exact HK.out)⟩, ⟨by repeat (first | (with_reducible first | exact HB.out | apply qh | apply qg | apply qi | refine qe ?_ (IsS123.ge HI0.out) | refine qe ?_ GE101.out | refine qe ?_ GE102.out | refine qe ?_ GE107.out) | exact HB.out)⟩⟩
 case rest =>
  clear HC6
  (try clear c1);(try clear c2);(try clear p2);(try clear p6);(try clear c7);(try clear c8);(try clear c20);(try clear c21);(try clear c22);(try clear c23);(try clear hcz24_0);(try clear hcz24_1);(try clear hcz24_2);(try clear hcz24_3);(try clear hcz24_4);(try clear hfz24_0);(try clear hfz24_1);(try clear hfz24_2);(try clear hfz24_3);(try clear hfz24_4)
  obtain ⟨kq, x108004_5, HA, HJ5, BK101, BK102, BK107, HI0, HK, HB⟩ := hcut
  cases kq with
  | zero => exact absurd HA.out (by simp [spec_l1Rd_edit.j0])
  | succ kj5 =>
   have H := HA.out
   clear HA
   simp only [spec_l1Rd_edit.j0] at H
   have HC25 := Qz.mk H
   clear H
   go_upto_region 4 with (fail)
   go_cut [34] (fun v34 wc => ∃ (kq : Nat) (x34_24 : Bool) (x1001_24 : Int), v34 = .bool x34_24 ∧ Qz (spec_l1Rd_edit.j1 kq x34_24 s0_0 x1001_24 l1_0 a1_1 a1_2 a1_3 (wrap64 (a1_1 + t103)) (wrap64 (a1_2 + t105)) x108004_5 = some (r1, r2, r3, r4, r5, r6)) ∧ Qz (kq ≤ kj5) ∧ Qz (wc.heap[gb101]? = some (.cells #[(.slice A1_0 l1_0.length c1_0), .int .i64 a1_1, .int .i64 a1_2, .int .i64 a1_3] 32 (0, 0))) ∧ Qz (wc.heap[gb102]? = some (.cells #[(.slice none 0 0), (.slice none 0 0), .int .i64 0, .int .i64 0, .int .i64 0] 37 (0, 0))) ∧ Qz (wc.heap[gb107]? = some (.cells #[(.slice none 0 0), (.slice none 0 0), .int .i64 (wrap64 (a1_1 + t103)), .int .i64 (wrap64 (a1_2 + t105)), .int .i64 x108004_5] 37 (0, 0))) ∧ Qz (IsS123 w0 wc g s0_0 x1001_24) ∧ Qz (KeepBut w wc g none) ∧ Qz (Below w0.heap.size w0 wc))
   case first =>
    have H := HC25.out
    clear HC25
    by_cases c26 : (l1_0.length : Int) > 0
    ·rw [if_pos c26] at H
     have c26b0 : decide (0 < (l1_0.length : Int)) = true := decide_eq_true c26
     have c26b1 : decide (0 < l1_0.length) = true := decide_eq_true (by omega)
     clear c26
     (first | rw [c26b0] | (simp only [i64_w, i32_w]; rw [c26b0]) | skip)
     replace H := Option.bind_eq_some_iff.mp H
     obtain ⟨⟨t110, t111⟩, A270, H⟩ := H
     replace H : (spec_l1Rd_edit.j1 kj5 t110 s0_0 t111 l1_0 a1_1 a1_2 a1_3 (wrap64 (a1_1 + t103)) (wrap64 (a1_2 + t105)) x108004_5) = some (r1, r2, r3, r4, r5, r6) := H
     have A27 := Qz.mk A270
     clear A270
     have H' := Qz.mk H
     clear H
     have hnb28 := NB101_102.out
     have hnc28 := NB102_101.out
     have hnb29 := NB101_107.out
     have hnc29 := NB107_101.out
     have hnb30 := NB101_0.out
     have hnc30 := NB0_101.out
     have hcz31_0 := (qd BK101.out 0).trans rfl
     have hcz31_1 := (qd BK101.out 1).trans rfl
     have hcz31_2 := (qd BK101.out 2).trans rfl
     have hcz31_3 := (qd BK101.out 3).trans rfl
     have hfz31_0 := qf BK101.out 0
     have hfz31_1 := qf BK101.out 1
     have hfz31_2 := qf BK101.out 2
     have hfz31_3 := qf BK101.out 3
     go_wp2_with (first | (go_at_call 73; (with_reducible refine (spec_l1Rd_once.calls g s0_0 t109 2 t110 t111 w0 _ ?side1 ?side2 A27.out).mono ?_); (case side1 => exact yq24); (case side2 => exact yq26); rintro e w32 ⟨rfl, hi, hb, hk⟩; replace BK101 := Qz.mk (KeepBut.blk hk (g' := gb101) (o := .cells #[.slice A1_0 l1_0.length c1_0, .int .i64 a1_1, .int .i64 a1_2, .int .i64 a1_3] 32 (0, 0)) yq27 NB101_0.out (by simp)); replace BK102 := Qz.mk (KeepBut.blk hk (g' := gb102) (o := .cells #[.slice none 0 0, .slice none 0 0, .int .i64 0, .int .i64 0, .int .i64 0] 37 (0, 0)) yq28 NB102_0.out (by simp)); replace BK107 := Qz.mk (KeepBut.blk hk (g' := gb107) (o := .cells #[.slice none 0 0, .slice none 0 0, .int .i64 (wrap64 (a1_1 + t103)), .int .i64 (wrap64 (a1_2 + t105)), .int .i64 x108004_5] 37 (0, 0)) yq30 NB107_0.out (by simp)); replace HK := Qz.mk (KeepBut.trans yq25 hk (.inl rfl)); replace HB := Qz.mk (hb); replace HI0 := Qz.mk (hi); (try clear hb); (try clear hk); (try clear hi)))
     go_meet
     case rel => exact ⟨_, (t110), (t111), yq57, H', ⟨by have := HJ5.out; first | omega | exact Nat.le_refl _⟩, ⟨by (with_reducible repeat (first | refine qb ?_ _ | refine qc ?_ | refine qa ?_ _)); exact BK101.out⟩, ⟨by (with_reducible repeat (first | refine qb ?_ _ | refine qc ?_ | refine qa ?_ _)); exact BK102.out⟩, ⟨by (with_reducible repeat (first | refine qb ?_ _ | refine qc ?_ | refine qa ?_ _)); exact BK107.out⟩, ⟨by repeat (first | (with_reducible first | exact HI0.out | apply IsS123.alloc | apply IsS123.drewN | apply IsS123.drew | apply IsS123.set_1 | apply (fun h_ => IsS123.far h_ NB0_101.out _) | apply (fun h_ => IsS123.far h_ NB0_102.out _) | apply (fun h_ => IsS123.far h_ NB0_107.out _)) | exact HI0.out)⟩, ⟨by repeat (first | (with_reducible first | exact HK.out | apply KeepBut.set_ | apply ql | apply qo | apply qm | refine qj ?_ GW101.out _ | refine qj ?_ GW102.out _ | refine qj ?_ GW107.out _) | exact HK.out)⟩, ⟨by repeat (first | (with_reducible first | exact HB.out | apply qh | apply qg | apply qi | refine qe ?_ (IsS123.ge HI0.out) | refine qe ?_ GE101.out | refine qe ?_ GE102.out | refine qe ?_ GE107.out) | exact HB.out)⟩⟩
    ·rw [if_neg c26] at H
     have c26b0 : decide (0 < (l1_0.length : Int)) = false := decide_eq_false c26
     have c26b1 : decide (0 < l1_0.length) = false := decide_eq_false (by omega)
     clear c26
     (first | rw [c26b0] | (simp only [i64_w, i32_w]; rw [c26b0]) | skip)
     have H' := Qz.mk H
     clear H
     have hnb33 := NB101_102.out
     have hnc33 := NB102_101.out
     have hnb34 := NB101_107.out
     have hnc34 := NB107_101.out
     have hnb35 := NB101_0.out
     have hnc35 := NB0_101.out
     have hcz36_0 := (qd BK101.out 0).trans rfl
     have hcz36_1 := (qd BK101.out 1).trans rfl
     have hcz36_2 := (qd BK101.out 2).trans rfl
     have hcz36_3 := (qd BK101.out 3).trans rfl
     have hfz36_0 := qf BK101.out 0
     have hfz36_1 := qf BK101.out 1
     have hfz36_2 := qf BK101.out 2
     have hfz36_3 := qf BK101.out 3
     go_wp2
     go_meet
     case rel => exact ⟨_, (false), (t109), yq57, H', ⟨by have := HJ5.out; first | omega | exact Nat.le_refl _⟩, ⟨by (with_reducible repeat (first | refine qb ?_ _ | refine qc ?_ | refine qa ?_ _)); exact BK101.out⟩, ⟨by (with_reducible repeat (first | refine qb ?_ _ | refine qc ?_ | refine qa ?_ _)); exact BK102.out⟩, ⟨by (with_reducible repeat (first | refine qb ?_ _ | refine qc ?_ | refine qa ?_ _)); exact BK107.out⟩, ⟨by repeat (first | (with_reducible first | exact HI0.out | apply IsS123.alloc | apply IsS123.drewN | apply IsS123.drew | apply IsS123.set_1 | apply (fun h_ => IsS123.far h_ NB0_101.out _) | apply (fun h_ => IsS123.far h_ NB0_102.out _) | apply (fun h_ => IsS123.far h_ NB0_107.out _)) | exact HI0.out)⟩, ⟨by repeat (first | (with_reducible first | exact HK.out | apply KeepBut.set_ | apply ql | apply qo | apply qm | refine qj ?_ GW101.out _ | refine qj ?_ GW102.out _ | refine qj ?_ GW107.out _) | exact HK.out)⟩, ⟨by repeat (first | (with_reducible first | exact HB.out | apply qh | apply qg | apply qi | refine qe ?_ (IsS123.ge HI0.out) | refine qe ?_ GE101.out | refine qe ?_ GE102.out | refine qe ?_ GE107.out) | exact HB.out)⟩⟩
   case rest =>
    clear HC25
    (try clear c1);(try clear c2);(try clear p2);(try clear c3);(try clear p6);(try clear c7);(try clear c8);(try clear c20);(try clear c21);(try clear c22);(try clear c23);(try clear c26);(try clear c26b0);(try clear c26b1);(try clear c28);(try clear c29);(try clear c30);(try clear c33);(try clear c34);(try clear c35);(try clear hcz24_0);(try clear hcz24_1);(try clear hcz24_2);(try clear hcz24_3);(try clear hcz24_4);(try clear hcz31_0);(try clear hcz31_1);(try clear hcz31_2);(try clear hcz31_3);(try clear hcz36_0);(try clear hcz36_1);(try clear hcz36_2);(try clear hcz36_3);(try clear hfz24_0);(try clear hfz24_1);(try clear hfz24_2);(try clear hfz24_3);(try clear hfz24_4);(try clear hfz31_0);(try clear hfz31_1);(try clear hfz31_2);(try clear hfz31_3);(try clear hfz36_0);(try clear hfz36_1);(try clear hfz36_2);(try clear hfz36_3);(try clear p2);(try clear p6)
    obtain ⟨kq, x34_24, x1001_24, rfl, HA, HJ24, BK101, BK102, BK107, HI0, HK, HB⟩ := hcut
    cases kq with
    | zero => exact absurd HA.out (by simp [spec_l1Rd_edit.j1])
    | succ kj24 =>
     have H := HA.out
     clear HA
     simp only [spec_l1Rd_edit.j1] at H
     have HC37 := Qz.mk H
     clear H
     go_upto_if 34 with (fail)
     go_cut [] (fun wc => ∃ (kq : Nat) (x1001_36 : Int) (x108001_36 : List Int) (u108001 : Value), Qz (spec_l1Rd_edit.j2 kq s0_0 x1001_36 x108001_36 (wrap64 (a1_1 + t103)) (wrap64 (a1_2 + t105)) x108004_5 = some (r1, r2, r3, r4, r5, r6)) ∧ Qz (kq ≤ kj24) ∧ Qz (Kd.R (Kd.int .i64) 2 wc w.heap.size (fun _ => True) u108001 x108001_36) ∧ Qz (wc.heap[gb101]? = some (.cells #[(.slice A1_0 l1_0.length c1_0), .int .i64 a1_1, .int .i64 a1_2, .int .i64 a1_3] 32 (0, 0))) ∧ Qz (wc.heap[gb102]? = some (.cells #[(.slice none 0 0), (.slice none 0 0), .int .i64 0, .int .i64 0, .int .i64 0] 37 (0, 0))) ∧ Qz (wc.heap[gb107]? = some (.cells #[(.slice none 0 0), u108001, .int .i64 (wrap64 (a1_1 + t103)), .int .i64 (wrap64 (a1_2 + t105)), .int .i64 x108004_5] 37 (0, 0))) ∧ Qz (IsS123 w0 wc g s0_0 x1001_36) ∧ Qz (KeepBut w wc g none) ∧ Qz (Below w0.heap.size w0 wc))
     case first =>
      have H := HC37.out
      clear HC37
      by_cases c38 : x34_24 = true
      ·subst c38
       have H1 : ((spec_l1Rd_below.f s0_0 x1001_24 (l1_0.length : Int)).bind fun bt112 => (if 0 ≤ bt112.1 then (if bt112.1 < (l1_0.length : Int) then (if ([] : List Int).length < 17592186044416 then (spec_l1Rd_edit.j2 kj24 s0_0 bt112.2 (([] : List Int) ++ [(qa1 l1_0 bt112.1).f0]) (wrap64 (a1_1 + t103)) (wrap64 (a1_2 + t105)) x108004_5) else (none)) else (none)) else (none))) = some (r1, r2, r3, r4, r5, r6) := by rw [if_pos rfl] at H; exact H
       clear H
       have H := H1
       clear H1
       replace H := Option.bind_eq_some_iff.mp H
       obtain ⟨⟨t112, t113⟩, A390, H⟩ := H
       replace H : (if 0 ≤ t112 then (if t112 < (l1_0.length : Int) then (if ([] : List Int).length < 17592186044416 then (spec_l1Rd_edit.j2 kj24 s0_0 t113 (([] : List Int) ++ [(qa1 l1_0 t112).f0]) (wrap64 (a1_1 + t103)) (wrap64 (a1_2 + t105)) x108004_5) else (none)) else (none)) else (none)) = some (r1, r2, r3, r4, r5, r6) := H
       have A39 := Qz.mk A390
       clear A390
       by_cases c40 : 0 ≤ t112
       ·rw [if_pos c40] at H
        have c40b0 : decide (0 ≤ t112) = true := decide_eq_true c40
        clear c40
        (first | rw [c40b0] | (simp only [i64_w, i32_w]; rw [c40b0]) | skip)
        by_cases c41 : t112 < (l1_0.length : Int)
        ·rw [if_pos c41] at H
         have c41b0 : decide (t112 < (l1_0.length : Int)) = true := decide_eq_true c41
         clear c41
         by_cases c42 : ([] : List Int).length < 17592186044416
         ·rw [if_pos c42] at H
          have LMc42 := Qz.mk c42
          clear c42
          obtain ⟨y115, hy115⟩ : ∃ y_ : List Int, y_ = (([] : List Int) ++ [(qa1 l1_0 t112).f0]) := ⟨_, rfl⟩
          replace H : (spec_l1Rd_edit.j2 kj24 s0_0 t113 y115 (wrap64 (a1_1 + t103)) (wrap64 (a1_2 + t105)) x108004_5) = some (r1, r2, r3, r4, r5, r6) := by first | (rw [hy115]; with_reducible exact H) | (have H2_ := (Option.bind_some _ _).symm.trans H; rw [hy115]; with_reducible exact H2_) | (have H2_ := (Option.bind_some _ _).symm.trans H; with_reducible exact H2_) | with_reducible exact H | (rw [hy115]; exact H) | exact H
          have Ny115 := Qz.mk hy115
          clear hy115
          have H' := Qz.mk H
          clear H
          try go_wp2
          replace BK101 := Qz.mk (qc BK101.out)
          replace BK102 := Qz.mk (qc BK102.out)
          replace BK107 := Qz.mk (qc BK107.out)
          replace HI0 := Qz.mk (IsS123.drew HI0.out)
          replace HK := Qz.mk (qo HK.out)
          replace HB := Qz.mk (qi HB.out)
          have p114 : 0 ≤ (t112 : Int) := of_decide_eq_true (by first | (with_reducible assumption) | assumption)
          have q114 : t112 < (l1_0.length : Int) := of_decide_eq_true (by first | (with_reducible assumption) | assumption)
          obtain ⟨ad114, e114, hx114_0, hx114_1, hx114_2, hx114_3, hx114_4⟩ := at_T66 (Kd.C_foot_now HR1_0.out HK.out) t112 p114 q114
          have hw114_4 := hx114_4
          have hw114_3 := hx114_3
          have hw114_2 := hx114_2
          have hw114_1 := hx114_1
          have hw114_0 := hx114_0
          cases e114
          have hne114_4 := (show (⟨(ad114.add ((t112).toNat * 5)).block, (ad114.add ((t112).toNat * 5)).off + 4, none⟩ : Addr).block ≠ g from by first | (rw [qk]; exact Kd.foot_ne HR1_0.out (by omega) (by decide)) | (show (Addr.add _ _).block ≠ _; rw [qk]; exact Kd.foot_ne HR1_0.out (by omega) (by decide)) | exact Kd.foot_ne HR1_0.out (by omega) (by decide) | (dsimp only; exact Kd.foot_ne HR1_0.out (by omega) (by decide)))
          have hlt114_4 := (Kd.foot_lt HR1_0.out (by omega) (by decide))
          have hne114_3 := (show (⟨(ad114.add ((t112).toNat * 5)).block, (ad114.add ((t112).toNat * 5)).off + 3, none⟩ : Addr).block ≠ g from by first | (rw [qk]; exact Kd.foot_ne HR1_0.out (by omega) (by decide)) | (show (Addr.add _ _).block ≠ _; rw [qk]; exact Kd.foot_ne HR1_0.out (by omega) (by decide)) | exact Kd.foot_ne HR1_0.out (by omega) (by decide) | (dsimp only; exact Kd.foot_ne HR1_0.out (by omega) (by decide)))
          have hlt114_3 := (Kd.foot_lt HR1_0.out (by omega) (by decide))
          have hne114_2 := (show (⟨(ad114.add ((t112).toNat * 5)).block, (ad114.add ((t112).toNat * 5)).off + 2, none⟩ : Addr).block ≠ g from by first | (rw [qk]; exact Kd.foot_ne HR1_0.out (by omega) (by decide)) | (show (Addr.add _ _).block ≠ _; rw [qk]; exact Kd.foot_ne HR1_0.out (by omega) (by decide)) | exact Kd.foot_ne HR1_0.out (by omega) (by decide) | (dsimp only; exact Kd.foot_ne HR1_0.out (by omega) (by decide)))
          have hlt114_2 := (Kd.foot_lt HR1_0.out (by omega) (by decide))
          have hne114_1 := (show (⟨(ad114.add ((t112).toNat * 5)).block, (ad114.add ((t112).toNat * 5)).off + 1, none⟩ : Addr).block ≠ g from by first | (rw [qk]; exact Kd.foot_ne HR1_0.out (by omega) (by decide)) | (show (Addr.add _ _).block ≠ _; rw [qk]; exact Kd.foot_ne HR1_0.out (by omega) (by decide)) | exact Kd.foot_ne HR1_0.out (by omega) (by decide) | (dsimp only; exact Kd.foot_ne HR1_0.out (by omega) (by decide)))
          have hlt114_1 := (Kd.foot_lt HR1_0.out (by omega) (by decide))
          have hne114_0 := (show ((ad114.add ((t112).toNat * 5)) : Addr).block ≠ g from by first | (rw [qk]; exact Kd.foot_ne HR1_0.out (by omega) (by decide)) | (show (Addr.add _ _).block ≠ _; rw [qk]; exact Kd.foot_ne HR1_0.out (by omega) (by decide)) | exact Kd.foot_ne HR1_0.out (by omega) (by decide) | (dsimp only; exact Kd.foot_ne HR1_0.out (by omega) (by decide)))
          have hlt114_0 := (Kd.foot_lt HR1_0.out (by omega) (by decide))
          replace p114 := eq_true p114
          replace q114 := eq_true q114
          refine start_ (n := 16) (S := fun w' => w'.cell? ⟨gb107, 0, none⟩ = some (.slice none 0 0) ∧ w'.cell? ⟨gb107, 1, none⟩ = some (.slice none 0 0) ∧ w'.cell? ⟨gb107, 2, none⟩ = some (.int .i64 (wrap64 (a1_1 + t103))) ∧ w'.cell? ⟨gb107, 3, none⟩ = some (.int .i64 (wrap64 (a1_2 + t105))) ∧ w'.cell? ⟨gb107, 4, none⟩ = some (.int .i64 x108004_5) ∧ w'.cell? ⟨gb101, 0, none⟩ = some (.slice (some ad114) l1_0.length c1_0) ∧ w'.cell? ⟨gb101, 1, none⟩ = some (.int .i64 a1_1) ∧ w'.cell? ⟨gb101, 2, none⟩ = some (.int .i64 a1_2) ∧ w'.cell? ⟨gb101, 3, none⟩ = some (.int .i64 a1_3) ∧ w'.cell? (ad114.add ((t112).toNat * 5)) = some (.int .i64 ((qa1 l1_0 t112).f0)) ∧ w'.cell? ⟨(ad114.add ((t112).toNat * 5)).block, (ad114.add ((t112).toNat * 5)).off + 1, none⟩ = some (.int .i64 ((qa1 l1_0 t112).f1)) ∧ w'.cell? ⟨(ad114.add ((t112).toNat * 5)).block, (ad114.add ((t112).toNat * 5)).off + 2, none⟩ = some (.string ((qa1 l1_0 t112).f2)) ∧ w'.cell? ⟨(ad114.add ((t112).toNat * 5)).block, (ad114.add ((t112).toNat * 5)).off + 3, none⟩ = some (.string ((qa1 l1_0 t112).f3)) ∧ w'.cell? ⟨(ad114.add ((t112).toNat * 5)).block, (ad114.add ((t112).toNat * 5)).off + 4, none⟩ = some (.int .i64 ((qa1 l1_0 t112).f4))) (ds := [13, 15]) #[false, false, false, false, false, false, false, false, false, false, false, false, false, false, false, false] (by kernel_rfl) rfl rfl ⟨(qd BK107.out 0).trans rfl, (qd BK107.out 1).trans rfl, (qd BK107.out 2).trans rfl, (qd BK107.out 3).trans rfl, (qd BK107.out 4).trans rfl, (qd BK101.out 0).trans rfl, (qd BK101.out 1).trans rfl, (qd BK101.out 2).trans rfl, (qd BK101.out 3).trans rfl, hx114_0, hx114_1, hx114_2, hx114_3, hx114_4⟩ (fun hHeld => ?_); refine with_tabW spec_l1Rd_edit.tab5 spec_l1Rd_edit.bits5 (fun HT_ HW_ => ?_)
          generalize wc.drew = w43 at BK101 BK102 BK107 HI0 HK HB hx114_0 hx114_1 hx114_2 hx114_3 hx114_4 hHeld ⊢
          refine pure_ (i := 0) (N := some 35) (v := ?_) (a' := ?_) #[true, false, false, false, false, false, false, false, false, false, false, false, false, false, false, false] rfl rfl (qf1 HT_.out (by kernel_rfl)) (fun _ _ _ h => h) (Or.inl ⟨by rfl, ?_⟩) ?_ ?_
          rotate_left
          ·intro w'
           go_simp
           with_reducible rfl
          rotate_left
          ·simp only [Act.put, sq1, sq2, sq3, i64_w, i32_w]
           rfl
          refine pure_ (i := 2) (N := some 37) (v := ?_) (a' := ?_) #[true, false, true, false, false, false, false, false, false, false, false, false, false, false, false, false] rfl rfl (qf1 HT_.out (by kernel_rfl)) (fun _ _ _ h => h) (Or.inl ⟨by rfl, ?_⟩) ?_ ?_
          rotate_left
          ·intro w'
           go_simp
           with_reducible rfl
          rotate_left
          ·simp only [Act.put, sq1, sq2, sq3, i64_w, i32_w]
           rfl
          refine pure_ (i := 4) (N := some 39) (v := ?_) (a' := ?_) #[true, false, true, false, true, false, false, false, false, false, false, false, false, false, false, false] rfl rfl (qf1 HT_.out (by kernel_rfl)) (fun _ _ _ h => h) (Or.inl ⟨by rfl, ?_⟩) ?_ ?_
          rotate_left
          ·intro w'
           go_simp
           with_reducible rfl
          rotate_left
          ·simp only [Act.put, sq1, sq2, sq3, i64_w, i32_w]
           rfl
          refine pure_ (i := 5) (N := some 40) (v := ?_) (a' := ?_) #[true, false, true, false, true, true, false, false, false, false, false, false, false, false, false, false] rfl rfl (qf1 HT_.out (by kernel_rfl)) (fun _ _ _ h => h) (Or.inl ⟨by rfl, ?_⟩) ?_ ?_
          rotate_left
          ·intro w'
           go_simp
           with_reducible rfl
          rotate_left
          ·simp only [Act.put, sq1, sq2, sq3, i64_w, i32_w]
           rfl
          refine take_ (i := 1) (N := some 36) (v := ?_) (a' := ?_) #[true, true, true, false, true, true, false, false, false, false, false, false, false, false, false, false] rfl rfl (take_ofW HT_.out HW_.out (by kernel_rfl)) (fun _ _ _ h => h) (Or.inl ⟨by rfl, ?_⟩) hHeld ?_ ?_
          rotate_left
          ·rintro w' ⟨s0, s1, s2, s3, s4, s5, s6, s7, s8, s9, s10, s11, s12, s13⟩
           go_simp
           with_reducible rfl
          rotate_left
          ·simp only [Act.put, sq1, sq2, sq3, i64_w, i32_w]
           rfl
          refine take_ (i := 3) (N := some 38) (v := ?_) (a' := ?_) #[true, true, true, true, true, true, false, false, false, false, false, false, false, false, false, false] rfl rfl (take_ofW HT_.out HW_.out (by kernel_rfl)) (fun _ _ _ h => h) (Or.inl ⟨by rfl, ?_⟩) hHeld ?_ ?_
          rotate_left
          ·rintro w' ⟨s0, s1, s2, s3, s4, s5, s6, s7, s8, s9, s10, s11, s12, s13⟩
           go_simp
           with_reducible rfl
          rotate_left
          ·simp only [Act.put, sq1, sq2, sq3, i64_w, i32_w]
           rfl
          refine take_ (i := 6) (N := some 41) (v := ?_) (a' := ?_) #[true, true, true, true, true, true, true, false, false, false, false, false, false, false, false, false] rfl rfl (take_ofW HT_.out HW_.out (by kernel_rfl)) (fun _ _ _ h => h) (Or.inl ⟨by rfl, ?_⟩) hHeld ?_ ?_
          rotate_left
          ·rintro w' ⟨s0, s1, s2, s3, s4, s5, s6, s7, s8, s9, s10, s11, s12, s13⟩
           go_simp
           with_reducible rfl
          rotate_left
          ·simp only [Act.put, sq1, sq2, sq3, i64_w, i32_w]
           rfl
          refine pure_ (i := 7) (N := some 42) (v := ?_) (a' := ?_) #[true, true, true, true, true, true, true, true, false, false, false, false, false, false, false, false] rfl rfl (qf1 HT_.out (by kernel_rfl)) (fun _ _ _ h => h) (Or.inl ⟨by rfl, ?_⟩) ?_ ?_
          rotate_left
          ·intro w'
           go_simp
           with_reducible rfl
          rotate_left
          ·simp only [Act.put, sq1, sq2, sq3, i64_w, i32_w]
           rfl
          refine one_ (i := 8) (N := some 43) #[true, true, true, true, true, true, true, true, true, false, false, false, false, false, false, false] rfl rfl (one_of HT_.out (by kernel_rfl)) (by decide) (fun K hK => ?_)
          refine goes_ Try.func80 (by kernel_rfl) rfl #[.pointer (some ⟨g, 0, none⟩), .int .i64 (l1_0.length : Int)] (by rfl) rfl rfl (by (try simp only [List.map_toArray, List.map_cons, List.map_nil]); first | done | rfl | (simp only [List.length_drop, List.length_take]; rfl) | (rw [IntWalk.u64_in _ (by omega)] <;> rfl)) ?_
          with_reducible refine (spec_l1Rd_below.calls g s0_0 x1001_24 (l1_0.length : Int) t112 t113 w0 _ ?side1 ?side2 A39.out).mono ?_
          (case side1 => exact yq24)
          (case side2 => exact yq26)
          rintro e w44 ⟨rfl, hi, hb, hk⟩
          have HS9_ := keep_cell hk (hHeld.2.2.2.2.2.2.2.2.2.1) (by first | (rw [qk]; exact hne114_0) | (show (Addr.add _ _).block ≠ _; rw [qk]; exact hne114_0) | exact hne114_0)
          have HS10_ := keep_cell hk (hHeld.2.2.2.2.2.2.2.2.2.2.1) (by first | (rw [qk]; exact hne114_1) | (show (Addr.add _ _).block ≠ _; rw [qk]; exact hne114_1) | exact hne114_1)
          have HS11_ := keep_cell hk (hHeld.2.2.2.2.2.2.2.2.2.2.2.1) (by first | (rw [qk]; exact hne114_2) | (show (Addr.add _ _).block ≠ _; rw [qk]; exact hne114_2) | exact hne114_2)
          have HS12_ := keep_cell hk (hHeld.2.2.2.2.2.2.2.2.2.2.2.2.1) (by first | (rw [qk]; exact hne114_3) | (show (Addr.add _ _).block ≠ _; rw [qk]; exact hne114_3) | exact hne114_3)
          have HS13_ := keep_cell hk (hHeld.2.2.2.2.2.2.2.2.2.2.2.2.2) (by first | (rw [qk]; exact hne114_4) | (show (Addr.add _ _).block ≠ _; rw [qk]; exact hne114_4) | exact hne114_4)
          refine ⟨_, rfl, ?_⟩
          replace BK101 := Qz.mk (KeepBut.blk hk (g' := gb101) (o := .cells #[.slice (some ad114) l1_0.length c1_0, .int .i64 a1_1, .int .i64 a1_2, .int .i64 a1_3] 32 (0, 0)) yq27 NB101_0.out (by simp))
          replace BK102 := Qz.mk (KeepBut.blk hk (g' := gb102) (o := .cells #[.slice none 0 0, .slice none 0 0, .int .i64 0, .int .i64 0, .int .i64 0] 37 (0, 0)) yq28 NB102_0.out (by simp))
          replace BK107 := Qz.mk (KeepBut.blk hk (g' := gb107) (o := .cells #[.slice none 0 0, .slice none 0 0, .int .i64 (wrap64 (a1_1 + t103)), .int .i64 (wrap64 (a1_2 + t105)), .int .i64 x108004_5] 37 (0, 0)) yq30 NB107_0.out (by simp))
          replace HK := Qz.mk (KeepBut.trans yq25 hk (.inl rfl))
          replace HB := Qz.mk (hb)
          replace HI0 := Qz.mk (hi)
          (try clear hb)
          (try clear hk)
          (try clear hi)
          refine hK.out _ _ ⟨(qd BK107.out 0).trans rfl, (qd BK107.out 1).trans rfl, (qd BK107.out 2).trans rfl, (qd BK107.out 3).trans rfl, (qd BK107.out 4).trans rfl, (qd BK101.out 0).trans rfl, (qd BK101.out 1).trans rfl, (qd BK101.out 2).trans rfl, (qd BK101.out 3).trans rfl, HS9_, HS10_, HS11_, HS12_, HS13_⟩ (fun hHeld => ?_)
          clear hK K
          refine norm_ (a' := ?_) ?_ ?_
          rotate_left
          ·show Act.put _ (some 43) _ = _
           simp only [Act.put, sq1, sq2, sq3, i64_w, i32_w]
           rfl
          refine pure_ (i := 9) (N := some 44) (v := ?_) (a' := ?_) #[true, true, true, true, true, true, true, true, true, true, false, false, false, false, false, false] rfl rfl (qf1 HT_.out (by kernel_rfl)) (fun _ _ _ h => h) (Or.inl ⟨by rfl, ?_⟩) ?_ ?_
          rotate_left
          ·intro w'
           go_simp
           with_reducible rfl
          rotate_left
          ·simp only [Act.put, sq1, sq2, sq3, i64_w, i32_w]
           rfl
          refine pure_ (i := 10) (N := some 45) (v := ?_) (a' := ?_) #[true, true, true, true, true, true, true, true, true, true, true, false, false, false, false, false] rfl rfl (qf1 HT_.out (by kernel_rfl)) (fun _ _ _ h => h) (Or.inl ⟨by rfl, ?_⟩) ?_ ?_
          rotate_left
          ·intro w'
           go_simp
           with_reducible rfl
          rotate_left
          ·simp only [Act.put, sq1, sq2, sq3, i64_w, i32_w]
           rfl
          refine take_ (i := 11) (N := some 46) (v := ?_) (a' := ?_) #[true, true, true, true, true, true, true, true, true, true, true, true, false, false, false, false] rfl rfl (take_ofW HT_.out HW_.out (by kernel_rfl)) (fun _ _ _ h => h) (Or.inl ⟨by rfl, ?_⟩) hHeld ?_ ?_
          rotate_left
          ·rintro w' ⟨s0, s1, s2, s3, s4, s5, s6, s7, s8, s9, s10, s11, s12, s13⟩
           go_simp
           with_reducible rfl
          rotate_left
          ·simp only [Act.put, sq1, sq2, sq3, i64_w, i32_w]
           rfl
          refine one_ (i := 12) (N := some 47) #[true, true, true, true, true, true, true, true, true, true, true, true, true, false, false, false] rfl rfl (one_of HT_.out (by kernel_rfl)) (by decide) (fun K hK => ?_)
          refine value_ (w1 := ?_) (v := ?_) (by rfl) rfl ?_ ?_
          rotate_left 2
          ·go_simp
           constructor
           ·rfl
           ·rfl
          refine hK.out _ _ ⟨(qd (qa BK107.out _) 0).trans rfl, (qd (qa BK107.out _) 1).trans rfl, (qd (qa BK107.out _) 2).trans rfl, (qd (qa BK107.out _) 3).trans rfl, (qd (qa BK107.out _) 4).trans rfl, (qd (qa BK101.out _) 0).trans rfl, (qd (qa BK101.out _) 1).trans rfl, (qd (qa BK101.out _) 2).trans rfl, (qd (qa BK101.out _) 3).trans rfl, (World.cell?_alloc_lt _ _ _ (World.block_lt_of_cell? _ _ (hHeld.2.2.2.2.2.2.2.2.2.1))).trans (hHeld.2.2.2.2.2.2.2.2.2.1), (World.cell?_alloc_lt _ _ _ (World.block_lt_of_cell? _ _ (hHeld.2.2.2.2.2.2.2.2.2.2.1))).trans (hHeld.2.2.2.2.2.2.2.2.2.2.1), (World.cell?_alloc_lt _ _ _ (World.block_lt_of_cell? _ _ (hHeld.2.2.2.2.2.2.2.2.2.2.2.1))).trans (hHeld.2.2.2.2.2.2.2.2.2.2.2.1), (World.cell?_alloc_lt _ _ _ (World.block_lt_of_cell? _ _ (hHeld.2.2.2.2.2.2.2.2.2.2.2.2.1))).trans (hHeld.2.2.2.2.2.2.2.2.2.2.2.2.1), (World.cell?_alloc_lt _ _ _ (World.block_lt_of_cell? _ _ (hHeld.2.2.2.2.2.2.2.2.2.2.2.2.2))).trans (hHeld.2.2.2.2.2.2.2.2.2.2.2.2.2)⟩ (fun hHeld => ?_)
          clear hK K
          refine norm_ (a' := ?_) ?_ ?_
          rotate_left
          ·show Act.put _ (some 47) _ = _
           simp only [Act.put, sq1, sq2, sq3, i64_w, i32_w]
           rfl
          refine last_ (i := 13) (N := some 48) #[true, true, true, true, true, true, true, true, true, true, true, true, true, true, false, false] rfl rfl (one_of HT_.out (by kernel_rfl)) (by decide) (fun K hK => ?_)
          refine Kd.R_append_step (Kd.int .i64) w.heap.size (by rfl) (.tmp 36) (.tmp 47) 25 2 (.int .i64 0) 8 rfl Try.underlying25 info2 rfl (by decide) (by omega) (.slice none 0 0) ([] : List Int) ((qa1 l1_0 t112).f0) [.int .i64 ((qa1 l1_0 t112).f0)] (fun _ => True) (fun _ => False) rfl rfl ?aP (fun _ hk => hk.elim) ?aF ?aO (Below.refl _ _) ?aS ?aL ?_
          (case aP => exact rfl)
          (case aF => exact (fun _ _ => trivial))
          (case aO => exact ((Kd.R_nil _ _ _ _ (fun _ => True))))
          (case aS => exact (qc1 (w := w) (g := g) (row := none) yq25))
          (case aL => have := LMc42.out; omega)
          intro v116 w45 ho hb hg hat
          rw [← Ny115.out] at ho
          replace BK101 := Qz.mk (blk_grown (g := gb101) (o := .cells #[.slice (some ad114) l1_0.length c1_0, .int .i64 a1_1, .int .i64 a1_2, .int .i64 a1_3] 32 (0, 0)) yq27 hg (by simp [Value.ownBlock]))
          replace BK102 := Qz.mk (blk_grown (g := gb102) (o := .cells #[.slice none 0 0, .slice none 0 0, .int .i64 0, .int .i64 0, .int .i64 0] 37 (0, 0)) yq28 hg (by simp [Value.ownBlock]))
          replace BK107 := Qz.mk (blk_grown (g := gb107) (o := .cells #[.slice none 0 0, .slice none 0 0, .int .i64 (wrap64 (a1_1 + t103)), .int .i64 (wrap64 (a1_2 + t105)), .int .i64 x108004_5] 37 (0, 0)) yq30 hg (by simp [Value.ownBlock]))
          replace HB := Qz.mk (below_weaken yq26 HL.out hb)
          replace HI0 := Qz.mk (IsS123.grown yq24 hg (by simp [Value.ownBlock]))
          replace HK := Qz.mk (KeepBut.trans yq25 (KeepBut.of_grown hg g) (.inl (by simp [Value.ownBlock])))
          have HO117 := Qz.mk (ho)
          clear ho hb hg hat
          obtain ⟨Ao46, co46, eo46⟩ := Kd.R_slice HO117.out
          (first | subst eo46 | (injection eo46 with f1_ f2_ f3_; have f4_ := f1_.symm; have f5_ := f3_.symm; clear f1_ f2_ f3_; subst f4_; subst f5_))
          refine hK.out _ _ ?_
          clear hK K
          refine norm_ (a' := ?_) ?_ ?_
          rotate_left
          ·show Act.put _ (some 48) _ = _
           simp only [Act.put, sq1, sq2, sq3, i64_w, i32_w]
           rfl
          refine pure_ (i := 14) (N := some 49) (v := ?_) (a' := ?_) #[true, true, true, true, true, true, true, true, true, true, true, true, true, true, true, false] rfl rfl (qf1 HT_.out (by kernel_rfl)) (fun _ _ _ h => h) (Or.inl ⟨by rfl, ?_⟩) ?_ ?_
          rotate_left
          ·intro w'
           go_simp
           with_reducible rfl
          rotate_left
          ·simp only [Act.put, sq1, sq2, sq3, i64_w, i32_w]
           rfl
          refine last_ (i := 15) (N := none) #[true, true, true, true, true, true, true, true, true, true, true, true, true, true, true, true] rfl rfl (one_of HT_.out (by kernel_rfl)) (by decide) (fun K hK => ?_)
          have hs47 : w45.cell? ⟨gb107, 1, none⟩ = some (.slice none 0 0) := (qd BK107.out 1).trans rfl
          have hfs47 := qf BK107.out 1
          have hns47_0 := NB101_107.out
          have hns47_1 := NB102_107.out
          have hms47_0 := NB107_101.out
          have hms47_1 := NB107_102.out
          refine skip_ (w1 := ?_) (by rfl) rfl ?_ ?_
          rotate_left
          ·go_simp
           rfl
          refine hK.out _ _ ?_
          clear hK K
          refine done_ (done_of HT_.out (by kernel_rfl)) ?_
          try go_wp2
          go_meet
          case rel => exact ⟨_, (t113), (y115), (.slice Ao46 y115.length co46), H', ⟨by have := HJ5.out; have := HJ24.out; first | omega | exact Nat.le_refl _⟩, ⟨by (with_reducible repeat (first | apply Kd.R_alloc | apply Kd.R_drewN | apply Kd.R_drew)); exact Kd.R_mono (Kd.R_far (p := ⟨gb107, 1, none⟩) (Kd.R_types HO117.out BK107.out (by decide)) (fun _ hk => hk.2) (.slice Ao46 y115.length co46)) (fun _ hk => trivial)⟩, ⟨by (with_reducible repeat (first | refine qb ?_ _ | refine qc ?_ | refine qa ?_ _)); refine qp ?_ NB101_107.out _; (with_reducible repeat (first | refine qb ?_ _ | refine qc ?_ | refine qa ?_ _)); exact BK101.out⟩, ⟨by (with_reducible repeat (first | refine qb ?_ _ | refine qc ?_ | refine qa ?_ _)); refine qp ?_ NB102_107.out _; (with_reducible repeat (first | refine qb ?_ _ | refine qc ?_ | refine qa ?_ _)); exact BK102.out⟩, ⟨by (with_reducible repeat (first | refine qb ?_ _ | refine qc ?_ | refine qa ?_ _)); refine qt (cs := #[.slice none 0 0, .slice none 0 0, .int .i64 (wrap64 (a1_1 + t103)), .int .i64 (wrap64 (a1_2 + t105)), .int .i64 x108004_5]) ?_ 1 _ rfl; (with_reducible repeat (first | refine qb ?_ _ | refine qc ?_ | refine qa ?_ _)); exact BK107.out⟩, ⟨by repeat (first | (with_reducible first | exact HI0.out | apply IsS123.alloc | apply IsS123.drewN | apply IsS123.drew | apply IsS123.set_1 | apply (fun h_ => IsS123.far h_ NB0_101.out _) | apply (fun h_ => IsS123.far h_ NB0_102.out _) | apply (fun h_ => IsS123.far h_ NB0_107.out _)) | exact HI0.out)⟩, ⟨by repeat (first | (with_reducible first | exact HK.out | apply KeepBut.set_ | apply ql | apply qo | apply qm | refine qj ?_ GW101.out _ | refine qj ?_ GW102.out _ | refine qj ?_ GW107.out _) | exact HK.out)⟩, ⟨by repeat (first | (with_reducible first | exact HB.out | apply qh | apply qg | apply qi | refine qe ?_ (IsS123.ge HI0.out) | refine qe ?_ GE101.out | refine qe ?_ GE102.out | refine qe ?_ GE107.out) | exact HB.out)⟩⟩
         ·rw [if_neg c42] at H
          exact absurd H (by simp)
        ·rw [if_neg c41] at H
         exact absurd H (by simp)
       ·rw [if_neg c40] at H
        exact absurd H (by simp)
      ·replace c38 := Bool.eq_false_iff.mpr c38
       subst c38
       have H1 : (spec_l1Rd_edit.j2 kj24 s0_0 x1001_24 ([] : List Int) (wrap64 (a1_1 + t103)) (wrap64 (a1_2 + t105)) x108004_5) = some (r1, r2, r3, r4, r5, r6) := by rw [if_neg (show ¬ (false = true) by decide)] at H; exact H
       clear H
       have H := H1
       clear H1
       have H' := Qz.mk H
       clear H
       go_wp2
       go_meet
       case rel => exact ⟨_, (x1001_24), (([] : List Int)), (.slice none 0 0), H', ⟨by have := HJ5.out; have := HJ24.out; first | omega | exact Nat.le_refl _⟩, ⟨by first | exact Kd.R_nil _ _ _ _ _ | exact Kd.N_nil _ _ _ _ _ | exact Kd.V_nil _ _ _ _ _ | exact Kd.Q_nil _ _ _ _ _ | exact Kd.S_nil _ _ _ _ _⟩, ⟨by (with_reducible repeat (first | refine qb ?_ _ | refine qc ?_ | refine qa ?_ _)); exact BK101.out⟩, ⟨by (with_reducible repeat (first | refine qb ?_ _ | refine qc ?_ | refine qa ?_ _)); exact BK102.out⟩, ⟨by (with_reducible repeat (first | refine qb ?_ _ | refine qc ?_ | refine qa ?_ _)); exact BK107.out⟩, ⟨by repeat (first | (with_reducible first | exact HI0.out | apply IsS123.alloc | apply IsS123.drewN | apply IsS123.drew | apply IsS123.set_1 | apply (fun h_ => IsS123.far h_ NB0_101.out _) | apply (fun h_ => IsS123.far h_ NB0_102.out _) | apply (fun h_ => IsS123.far h_ NB0_107.out _)) | exact HI0.out)⟩, ⟨by repeat (first | (with_reducible first | exact HK.out | apply KeepBut.set_ | apply ql | apply qo | apply qm | refine qj ?_ GW101.out _ | refine qj ?_ GW102.out _ | refine qj ?_ GW107.out _) | exact HK.out)⟩, ⟨by repeat (first | (with_reducible first | exact HB.out | apply qh | apply qg | apply qi | refine qe ?_ (IsS123.ge HI0.out) | refine qe ?_ GE101.out | refine qe ?_ GE102.out | refine qe ?_ GE107.out) | exact HB.out)⟩⟩
     case rest =>
      clear HC37
      (try clear c1);(try clear p1);(try clear q1);(try clear hx1);(try clear c2);(try clear p2);(try clear c3);(try clear c4);(try clear p6);(try clear c7);(try clear c8);(try clear p11);(try clear q11);(try clear hx11);(try clear c20);(try clear c21);(try clear c22);(try clear c23);(try clear c26);(try clear c26b0);(try clear c26b1);(try clear c28);(try clear c29);(try clear c30);(try clear c33);(try clear c34);(try clear c35);(try clear c38);(try clear c40);(try clear c40b0);(try clear c41);(try clear c41b0);(try clear c42);(try clear hcz24_0);(try clear hcz24_1);(try clear hcz24_2);(try clear hcz24_3);(try clear hcz24_4);(try clear hcz31_0);(try clear hcz31_1);(try clear hcz31_2);(try clear hcz31_3);(try clear hcz36_0);(try clear hcz36_1);(try clear hcz36_2);(try clear hcz36_3);(try clear hfz24_0);(try clear hfz24_1);(try clear hfz24_2);(try clear hfz24_3);(try clear hfz24_4);(try clear hfz31_0);(try clear hfz31_1);(try clear hfz31_2);(try clear hfz31_3);(try clear hfz36_0);(try clear hfz36_1);(try clear hfz36_2);(try clear hfz36_3);(try clear hx114_0);(try clear hx114_1);(try clear hx114_2);(try clear hx114_3);(try clear hx114_4);(try clear p114);(try clear p2);(try clear p6);(try clear q114)
      obtain ⟨kq, x1001_36, x108001_36, u108001, HA, HJ36, HO_108001, BK101, BK102, BK107, HI0, HK, HB⟩ := hcut
      cases kq with
      | zero => exact absurd HA.out (by simp [spec_l1Rd_edit.j2])
      | succ kj36 =>
       have H := HA.out
       clear HA
       simp only [spec_l1Rd_edit.j2] at H
       replace H := Option.bind_eq_some_iff.mp H
       obtain ⟨⟨t118, t119⟩, A480, H⟩ := H
       replace H : (spec_l1Rd_edit.l0 kj36 t118 s0_0 t119 ([] : List (S66)) x108001_36 (wrap64 (a1_1 + t103)) (wrap64 (a1_2 + t105)) x108004_5) = some (r1, r2, r3, r4, r5, r6) := H
       have A48 := Qz.mk A480
       clear A480
       have H' := Qz.mk H
       clear H
       go_wp2_with (first | ((with_reducible refine qu (f := 80) rfl ?_); refine goesL_ (some 51) rfl rfl Try.func80 (by kernel_rfl) rfl #[.pointer (some ⟨g, 0, none⟩), .int .i64 3] rfl yq42 ?_; (with_reducible refine (spec_l1Rd_below.calls g s0_0 x1001_36 3 t118 t119 w0 _ ?side1 ?side2 A48.out).mono ?_); (case side1 => exact yq24); (case side2 => exact yq26); rintro e w49 ⟨rfl, hi, hb, hk⟩; refine ⟨_, rfl, ?_⟩; replace HO_108001 := Qz.mk (Kd.R_mono (Kd.R_keep (IsS123.apart (show IsS123 w0 _ g s0_0 x1001_36 from by repeat (first | (with_reducible first | exact HI0.out | apply IsS123.alloc | apply IsS123.drewN | apply IsS123.drew | apply IsS123.set_1 | apply (fun h_ => IsS123.far h_ NB0_101.out _) | apply (fun h_ => IsS123.far h_ NB0_102.out _) | apply (fun h_ => IsS123.far h_ NB0_107.out _)) | exact HI0.out)) yq37 (by decide)) hk (fun _ h => h.2)) (fun _ h => h.1)); replace BK101 := Qz.mk (KeepBut.blk hk (g' := gb101) (o := .cells #[.slice A1_0 l1_0.length c1_0, .int .i64 a1_1, .int .i64 a1_2, .int .i64 a1_3] 32 (0, 0)) yq27 NB101_0.out (by simp)); replace BK102 := Qz.mk (KeepBut.blk hk (g' := gb102) (o := .cells #[.slice none 0 0, .slice none 0 0, .int .i64 0, .int .i64 0, .int .i64 0] 37 (0, 0)) yq28 NB102_0.out (by simp)); replace BK107 := Qz.mk (KeepBut.blk hk (g' := gb107) (o := .cells #[.slice none 0 0, u108001, .int .i64 (wrap64 (a1_1 + t103)), .int .i64 (wrap64 (a1_2 + t105)), .int .i64 x108004_5] 37 (0, 0)) yq30 NB107_0.out (by simp)); replace HK := Qz.mk (KeepBut.trans yq25 hk (.inl rfl)); replace HB := Qz.mk (hb); replace HI0 := Qz.mk (hi); (try clear hb); (try clear hk); (try clear hi)))
       go_loopg [6] kj36 (fun kq v6 w' => ∃ (x6_4 : Int) (x1001_4 : Int) (x108000_4 : List (S66)) (u108000 : Value), v6 = .int .i64 x6_4 ∧ Qz (spec_l1Rd_edit.l0 kq x6_4 s0_0 x1001_4 x108000_4 x108001_36 (wrap64 (a1_1 + t103)) (wrap64 (a1_2 + t105)) x108004_5 = some (r1, r2, r3, r4, r5, r6)) ∧ Qz (kq ≤ kj36) ∧ Qz (Kd.R k66 66 w' w.heap.size (fun _ => True) u108000 x108000_4) ∧ Qz (Kd.R (Kd.int .i64) 2 w' w.heap.size (fun _ => True) u108001 x108001_36) ∧ Qz (w'.heap[gb101]? = some (.cells #[(.slice A1_0 l1_0.length c1_0), .int .i64 a1_1, .int .i64 a1_2, .int .i64 a1_3] 32 (0, 0))) ∧ Qz (w'.heap[gb102]? = some (.cells #[(.slice none 0 0), (.slice none 0 0), .int .i64 0, .int .i64 0, .int .i64 0] 37 (0, 0))) ∧ Qz (w'.heap[gb107]? = some (.cells #[u108000, u108001, .int .i64 (wrap64 (a1_1 + t103)), .int .i64 (wrap64 (a1_2 + t105)), .int .i64 x108004_5] 37 (0, 0))) ∧ Qz (IsS123 w0 w' g s0_0 x1001_4) ∧ Qz (KeepBut w w' g none) ∧ Qz (Below w0.heap.size w0 w'))
       case atStart => exact ⟨(t118), (t119), (([] : List (S66))), (.slice none 0 0), yq57, H', ⟨Nat.le_refl _⟩, ⟨by first | exact Kd.R_nil _ _ _ _ _ | exact Kd.N_nil _ _ _ _ _ | exact Kd.V_nil _ _ _ _ _ | exact Kd.Q_nil _ _ _ _ _ | exact Kd.S_nil _ _ _ _ _⟩, ⟨by (with_reducible repeat (first | apply Kd.R_alloc | apply Kd.R_drewN | apply Kd.R_drew)); exact HO_108001.out⟩, ⟨by (with_reducible repeat (first | refine qb ?_ _ | refine qc ?_ | refine qa ?_ _)); exact BK101.out⟩, ⟨by (with_reducible repeat (first | refine qb ?_ _ | refine qc ?_ | refine qa ?_ _)); exact BK102.out⟩, ⟨by (with_reducible repeat (first | refine qb ?_ _ | refine qc ?_ | refine qa ?_ _)); exact BK107.out⟩, ⟨by repeat (first | (with_reducible first | exact HI0.out | apply IsS123.alloc | apply IsS123.drewN | apply IsS123.drew | apply IsS123.set_1 | apply (fun h_ => IsS123.far h_ NB0_101.out _) | apply (fun h_ => IsS123.far h_ NB0_102.out _) | apply (fun h_ => IsS123.far h_ NB0_107.out _)) | exact HI0.out)⟩, ⟨by repeat (first | (with_reducible first | exact HK.out | apply KeepBut.set_ | apply ql | apply qo | apply qm | refine qj ?_ GW101.out _ | refine qj ?_ GW102.out _ | refine qj ?_ GW107.out _) | exact HK.out)⟩, ⟨by repeat (first | (with_reducible first | exact HB.out | apply qh | apply qg | apply qi | refine qe ?_ (IsS123.ge HI0.out) | refine qe ?_ GE101.out | refine qe ?_ GE102.out | refine qe ?_ GE107.out) | exact HB.out)⟩⟩
       case round =>
        clear H'
        (try clear c1);(try clear p1);(try clear q1);(try clear hx1);(try clear c2);(try clear p2);(try clear c3);(try clear c4);(try clear p6);(try clear c7);(try clear c8);(try clear p11);(try clear q11);(try clear hx11);(try clear c20);(try clear c21);(try clear c22);(try clear c23);(try clear c26);(try clear c26b0);(try clear c26b1);(try clear c28);(try clear c29);(try clear c30);(try clear c33);(try clear c34);(try clear c35);(try clear c38);(try clear c40);(try clear c40b0);(try clear c41);(try clear c41b0);(try clear c42);(try clear hcz24_0);(try clear hcz24_1);(try clear hcz24_2);(try clear hcz24_3);(try clear hcz24_4);(try clear hcz31_0);(try clear hcz31_1);(try clear hcz31_2);(try clear hcz31_3);(try clear hcz36_0);(try clear hcz36_1);(try clear hcz36_2);(try clear hcz36_3);(try clear hfz24_0);(try clear hfz24_1);(try clear hfz24_2);(try clear hfz24_3);(try clear hfz24_4);(try clear hfz31_0);(try clear hfz31_1);(try clear hfz31_2);(try clear hfz31_3);(try clear hfz36_0);(try clear hfz36_1);(try clear hfz36_2);(try clear hfz36_3);(try clear hx114_0);(try clear hx114_1);(try clear hx114_2);(try clear hx114_3);(try clear hx114_4);(try clear p1);(try clear p11);(try clear p114);(try clear p2);(try clear p6);(try clear q1);(try clear q11);(try clear q114)
        obtain ⟨x6_4, x1001_4, x108000_4, u108000, rfl, HA, HK4, HO_108000, HO_108001, BK101, BK102, BK107, HI0, HK, HB⟩ := hrel
        cases gk with
        | zero => exact absurd HA.out (by simp [spec_l1Rd_edit.l0])
        | succ k4 =>
         have H := HA.out
         clear HA
         simp only [spec_l1Rd_edit.l0] at H
         by_cases c50 : x6_4 > 0
         ·rw [if_pos c50] at H
          have c50b0 : decide (0 < x6_4) = true := decide_eq_true c50
          clear c50
          replace H := Option.bind_eq_some_iff.mp H
          obtain ⟨⟨t120, t121, t122, t123, t124, t125⟩, A510, H⟩ := H
          replace H : (if (wrap64 (a1_1 + t103)) > 1 then ((spec_l1Rd_once.f s0_0 t125 4).bind fun bt127 => (if bt127.1 = true then (if x108000_4.length < 2513169434916 then (spec_l1Rd_edit.l0 k4 (wrap64 (x6_4 - 1)) s0_0 bt127.2 (x108000_4 ++ [(⟨t120, t121, t122, t123, t124⟩ : S66)]) x108001_36 (wrap64 (a1_1 + t103)) (wrap64 (a1_2 + t105)) x108004_5) else (none)) else (if x108000_4.length < 2513169434916 then (spec_l1Rd_edit.l0 k4 (wrap64 (x6_4 - 1)) s0_0 bt127.2 (x108000_4 ++ [(⟨wrap64 ((wrap64 (a1_1 + t103)) - x6_4), t121, t122, t123, t124⟩ : S66)]) x108001_36 (wrap64 (a1_1 + t103)) (wrap64 (a1_2 + t105)) x108004_5) else (none)))) else (if x108000_4.length < 2513169434916 then (spec_l1Rd_edit.l0 k4 (wrap64 (x6_4 - 1)) s0_0 t125 (x108000_4 ++ [(⟨t120, t121, t122, t123, t124⟩ : S66)]) x108001_36 (wrap64 (a1_1 + t103)) (wrap64 (a1_2 + t105)) x108004_5) else (none))) = some (r1, r2, r3, r4, r5, r6) := H
          have A51 := Qz.mk A510
          clear A510
          by_cases c52 : (wrap64 (a1_1 + t103)) > 1
          ·rw [if_pos c52] at H
           have c52b0 : decide (1 < (wrap64 (a1_1 + t103))) = true := decide_eq_true c52
           clear c52
           replace H := Option.bind_eq_some_iff.mp H
           obtain ⟨⟨t127, t128⟩, A530, H⟩ := H
           replace H : (if t127 = true then (if x108000_4.length < 2513169434916 then (spec_l1Rd_edit.l0 k4 (wrap64 (x6_4 - 1)) s0_0 t128 (x108000_4 ++ [(⟨t120, t121, t122, t123, t124⟩ : S66)]) x108001_36 (wrap64 (a1_1 + t103)) (wrap64 (a1_2 + t105)) x108004_5) else (none)) else (if x108000_4.length < 2513169434916 then (spec_l1Rd_edit.l0 k4 (wrap64 (x6_4 - 1)) s0_0 t128 (x108000_4 ++ [(⟨wrap64 ((wrap64 (a1_1 + t103)) - x6_4), t121, t122, t123, t124⟩ : S66)]) x108001_36 (wrap64 (a1_1 + t103)) (wrap64 (a1_2 + t105)) x108004_5) else (none))) = some (r1, r2, r3, r4, r5, r6) := H
           have A53 := Qz.mk A530
           clear A530
           by_cases c54 : t127 = true
           ·subst c54
            have H1 : (if x108000_4.length < 2513169434916 then (spec_l1Rd_edit.l0 k4 (wrap64 (x6_4 - 1)) s0_0 t128 (x108000_4 ++ [(⟨t120, t121, t122, t123, t124⟩ : S66)]) x108001_36 (wrap64 (a1_1 + t103)) (wrap64 (a1_2 + t105)) x108004_5) else (none)) = some (r1, r2, r3, r4, r5, r6) := by rw [if_pos rfl] at H; exact H
            clear H
            have H := H1
            clear H1
            by_cases c55 : x108000_4.length < 2513169434916
            ·rw [if_pos c55] at H
             have LMc55 := Qz.mk c55
             clear c55
             obtain ⟨y129, hy129⟩ : ∃ y_ : List (S66), y_ = (x108000_4 ++ [(⟨t120, t121, t122, t123, t124⟩ : S66)]) := ⟨_, rfl⟩
             replace H : (spec_l1Rd_edit.l0 k4 (wrap64 (x6_4 - 1)) s0_0 t128 y129 x108001_36 (wrap64 (a1_1 + t103)) (wrap64 (a1_2 + t105)) x108004_5) = some (r1, r2, r3, r4, r5, r6) := by first | (rw [hy129]; with_reducible exact H) | (have H2_ := (Option.bind_some _ _).symm.trans H; rw [hy129]; with_reducible exact H2_) | (have H2_ := (Option.bind_some _ _).symm.trans H; with_reducible exact H2_) | with_reducible exact H | (rw [hy129]; exact H) | exact H
             have Ny129 := Qz.mk hy129
             clear hy129
             have H' := Qz.mk H
             clear H
             go_wp2_with (first | ((with_reducible refine qu (f := 103) rfl ?_); refine goesL_ (some 57) rfl rfl Try.func103 (by kernel_rfl) rfl #[.pointer (some ⟨g, 0, none⟩)] rfl yq42 ?_; (with_reducible refine (spec_l1Rd_meta.calls k4 g s0_0 x1001_4 t120 t121 t122 t123 t124 t125 w0 _ ?side1 ?side2 A51.out).mono ?_); (case side1 => exact yq24); (case side2 => exact yq26); rintro e w56 ⟨rfl, hi, hb, hk⟩; refine ⟨_, rfl, ?_⟩; replace HO_108000 := Qz.mk (Kd.R_mono (Kd.R_keep (IsS123.apart (show IsS123 w0 _ g s0_0 x1001_4 from by repeat (first | (with_reducible first | exact HI0.out | apply IsS123.alloc | apply IsS123.drewN | apply IsS123.drew | apply IsS123.set_1 | apply (fun h_ => IsS123.far h_ NB0_101.out _) | apply (fun h_ => IsS123.far h_ NB0_102.out _) | apply (fun h_ => IsS123.far h_ NB0_107.out _)) | exact HI0.out)) yq39 (by decide)) hk (fun _ h => h.2)) (fun _ h => h.1)); replace HO_108001 := Qz.mk (Kd.R_mono (Kd.R_keep (IsS123.apart (show IsS123 w0 _ g s0_0 x1001_4 from by repeat (first | (with_reducible first | exact HI0.out | apply IsS123.alloc | apply IsS123.drewN | apply IsS123.drew | apply IsS123.set_1 | apply (fun h_ => IsS123.far h_ NB0_101.out _) | apply (fun h_ => IsS123.far h_ NB0_102.out _) | apply (fun h_ => IsS123.far h_ NB0_107.out _)) | exact HI0.out)) yq37 (by decide)) hk (fun _ h => h.2)) (fun _ h => h.1)); replace BK101 := Qz.mk (KeepBut.blk hk (g' := gb101) (o := .cells #[.slice A1_0 l1_0.length c1_0, .int .i64 a1_1, .int .i64 a1_2, .int .i64 a1_3] 32 (0, 0)) yq27 NB101_0.out (by simp)); replace BK102 := Qz.mk (KeepBut.blk hk (g' := gb102) (o := .cells #[.slice none 0 0, .slice none 0 0, .int .i64 0, .int .i64 0, .int .i64 0] 37 (0, 0)) yq28 NB102_0.out (by simp)); replace BK107 := Qz.mk (KeepBut.blk hk (g' := gb107) (o := .cells #[u108000, u108001, .int .i64 (wrap64 (a1_1 + t103)), .int .i64 (wrap64 (a1_2 + t105)), .int .i64 x108004_5] 37 (0, 0)) yq30 NB107_0.out (by simp)); replace HK := Qz.mk (KeepBut.trans yq25 hk (.inl rfl)); replace HB := Qz.mk (hb); replace HI0 := Qz.mk (hi); (try clear hb); (try clear hk); (try clear hi)) | ((with_reducible refine gate_dst (N := 7) rfl ?_); refine box_event ?hg (N := 7) ?hd (cs := #[.int .i64 0, .int .i64 0, .string (⟨#[]⟩ : ByteArray), .string (⟨#[]⟩ : ByteArray), .int .i64 0]) (t := 66) ?hr ?_; (case hd => rfl); (case hg => rfl); (case hr => exact yq51); intro gb126 hg w57 hbox hb; replace HO_108000 := Qz.mk (Kd.R_below (Kd.R_elderB yq39 gb126 (Nat.le_of_eq hg.symm)) hb); replace HO_108001 := Qz.mk (Kd.R_below yq37 hb); replace HB := Qz.mk (qq yq26 hb); have BK126 := Qz.mk (hbox); have GW126 := Qz.mk ((yq55 : w.heap.size ≤ gb126)); have GE126 := Qz.mk ((Nat.le_trans HW0.out (yq55 : w.heap.size ≤ gb126) : w0.heap.size ≤ gb126)); replace HK := Qz.mk (KeepBut.trans yq25 (KeepBut.of_below hb g none) (.inl rfl)); have NB101_126 := Qz.mk ((yq44 : gb101 ≠ gb126)); have NB126_101 := Qz.mk ((yq45 : gb126 ≠ gb101)); replace BK101 := bkbf88 BK101 yq27 hb; have NB102_126 := Qz.mk ((yq47 : gb102 ≠ gb126)); have NB126_102 := Qz.mk ((yq48 : gb126 ≠ gb102)); replace BK102 := bkbf88 BK102 yq28 hb; have NB107_126 := Qz.mk ((yq49 : gb107 ≠ gb126)); have NB126_107 := Qz.mk ((yq50 : gb126 ≠ gb107)); replace BK107 := bkbf88 BK107 yq30 hb; have NB0_126 := Qz.mk ((by rw [hg]; exact Nat.ne_of_lt (IsS123.lt (show IsS123 w0 _ g s0_0 t125 from by repeat (first | (with_reducible first | exact HI0.out | apply IsS123.alloc | apply IsS123.drewN | apply IsS123.drew | apply IsS123.set_1 | apply (fun h_ => IsS123.far h_ NB0_101.out _) | apply (fun h_ => IsS123.far h_ NB0_102.out _) | apply (fun h_ => IsS123.far h_ NB0_107.out _)) | exact HI0.out))) : g ≠ gb126)); have NB126_0 := Qz.mk ((by rw [hg]; exact Nat.ne_of_gt (IsS123.lt (show IsS123 w0 _ g s0_0 t125 from by repeat (first | (with_reducible first | exact HI0.out | apply IsS123.alloc | apply IsS123.drewN | apply IsS123.drew | apply IsS123.set_1 | apply (fun h_ => IsS123.far h_ NB0_101.out _) | apply (fun h_ => IsS123.far h_ NB0_102.out _) | apply (fun h_ => IsS123.far h_ NB0_107.out _)) | exact HI0.out))) : gb126 ≠ g)); replace HI0 := Qz.mk (IsS123.below yq24 hb); clear hb hbox hg; have hnb58 := NB126_101.out; have hnc58 := NB101_126.out; have hnb59 := NB126_102.out; have hnc59 := NB102_126.out; have hnb60 := NB126_107.out; have hnc60 := NB107_126.out; have hnb61 := NB126_0.out; have hnc61 := NB0_126.out; have hcz62_0 := (qd BK126.out 0).trans rfl; have hcz62_1 := (qd BK126.out 1).trans rfl; have hcz62_2 := (qd BK126.out 2).trans rfl; have hcz62_3 := (qd BK126.out 3).trans rfl; have hcz62_4 := (qd BK126.out 4).trans rfl; have hfz62_0 := qf BK126.out 0; have hfz62_1 := qf BK126.out 1; have hfz62_2 := qf BK126.out 2; have hfz62_3 := qf BK126.out 3; have hfz62_4 := qf BK126.out 4; have hnb63 := NB107_101.out; have hnc63 := NB101_107.out; have hnb64 := NB107_102.out; have hnc64 := NB102_107.out; have hnb65 := NB107_0.out; have hnc65 := NB0_107.out; have hcz66_0 := (qd BK107.out 0).trans rfl; have hcz66_1 := (qd BK107.out 1).trans rfl; have hcz66_2 : w57.cell? ⟨gb107, 2, none⟩ = some (.int .i64 (wrap64 (a1_1 + t103))) := (qd BK107.out 2).trans rfl; have hcz66_3 : w57.cell? ⟨gb107, 3, none⟩ = some (.int .i64 (wrap64 (a1_2 + t105))) := (qd BK107.out 3).trans rfl; have hcz66_4 := (qd BK107.out 4).trans rfl; have hfz66_0 := qf BK107.out 0; have hfz66_1 := qf BK107.out 1; have hfz66_2 := qf BK107.out 2; have hfz66_3 := qf BK107.out 3; have hfz66_4 := qf BK107.out 4) | (go_at_call 73; (with_reducible refine (spec_l1Rd_once.calls g s0_0 t125 4 true t128 w0 _ ?side1 ?side2 A53.out).mono ?_); (case side1 => exact yq33); (case side2 => exact yq43); rintro e w67 ⟨rfl, hi, hb, hk⟩; replace HO_108000 := Qz.mk (Kd.R_mono (Kd.R_keep (IsS123.apart (show IsS123 w0 _ g s0_0 t125 from by repeat (first | (with_reducible first | exact HI0.out | apply IsS123.alloc | apply IsS123.drewN | apply IsS123.drew | apply IsS123.set_1 | apply (fun h_ => IsS123.far h_ NB0_101.out _) | apply (fun h_ => IsS123.far h_ NB0_102.out _) | apply (fun h_ => IsS123.far h_ NB0_107.out _) | apply (fun h_ => IsS123.far h_ NB0_126.out _)) | exact HI0.out)) yq38 (by decide)) hk (fun _ h => h.2)) (fun _ h => h.1)); replace HO_108001 := Qz.mk (Kd.R_mono (Kd.R_keep (IsS123.apart (show IsS123 w0 _ g s0_0 t125 from by repeat (first | (with_reducible first | exact HI0.out | apply IsS123.alloc | apply IsS123.drewN | apply IsS123.drew | apply IsS123.set_1 | apply (fun h_ => IsS123.far h_ NB0_101.out _) | apply (fun h_ => IsS123.far h_ NB0_102.out _) | apply (fun h_ => IsS123.far h_ NB0_107.out _) | apply (fun h_ => IsS123.far h_ NB0_126.out _)) | exact HI0.out)) yq40 (by decide)) hk (fun _ h => h.2)) (fun _ h => h.1)); replace BK101 := Qz.mk (KeepBut.blk hk (g' := gb101) (o := .cells #[.slice A1_0 l1_0.length c1_0, .int .i64 a1_1, .int .i64 a1_2, .int .i64 a1_3] 32 (0, 0)) yq36 NB101_0.out (by simp)); replace BK102 := Qz.mk (KeepBut.blk hk (g' := gb102) (o := .cells #[.slice none 0 0, .slice none 0 0, .int .i64 0, .int .i64 0, .int .i64 0] 37 (0, 0)) yq35 NB102_0.out (by simp)); replace BK107 := Qz.mk (KeepBut.blk hk (g' := gb107) (o := .cells #[u108000, u108001, .int .i64 (wrap64 (a1_1 + t103)), .int .i64 (wrap64 (a1_2 + t105)), .int .i64 x108004_5] 37 (0, 0)) yq34 NB107_0.out (by simp)); replace BK126 := Qz.mk (KeepBut.blk hk (g' := gb126) (o := .cells #[.int .i64 t120, .int .i64 t121, .string t122, .string t123, .int .i64 t124] 66 (0, 0)) yq29 NB126_0.out (by simp)); replace HK := Qz.mk (KeepBut.trans yq32 hk (.inl rfl)); replace HB := Qz.mk (hb); replace HI0 := Qz.mk (hi); (try clear hb); (try clear hk); (try clear hi); have hcz68_0 := (qd BK107.out 0).trans rfl; have hcz68_1 := (qd BK107.out 1).trans rfl; have hcz68_2 : w67.cell? ⟨gb107, 2, none⟩ = some (.int .i64 (wrap64 (a1_1 + t103))) := (qd BK107.out 2).trans rfl; have hcz68_3 : w67.cell? ⟨gb107, 3, none⟩ = some (.int .i64 (wrap64 (a1_2 + t105))) := (qd BK107.out 3).trans rfl; have hcz68_4 := (qd BK107.out 4).trans rfl; have hfz68_0 := qf BK107.out 0; have hfz68_1 := qf BK107.out 1; have hfz68_2 := qf BK107.out 2; have hfz68_3 := qf BK107.out 3; have hfz68_4 := qf BK107.out 4; have hcz69_0 := (qd BK126.out 0).trans rfl; have hcz69_1 := (qd BK126.out 1).trans rfl; have hcz69_2 := (qd BK126.out 2).trans rfl; have hcz69_3 := (qd BK126.out 3).trans rfl; have hcz69_4 := (qd BK126.out 4).trans rfl; have hfz69_0 := qf BK126.out 0; have hfz69_1 := qf BK126.out 1; have hfz69_2 := qf BK126.out 2; have hfz69_3 := qf BK126.out 3; have hfz69_4 := qf BK126.out 4) | ((with_reducible refine gate_builtin (b := .append) (xs := #[.tmp 72, .tmp 74]) rfl ?_); at_builtin; refine Kd.R_append k66 w.heap.size rfl (.tmp 72) (.tmp 74) 30 66 (.agg #[(.int .i64 0), (.int .i64 0), (.string ⟨#[]⟩), (.string ⟨#[]⟩), (.int .i64 0)]) 56 rfl Try.underlying30 info66 rfl (by decide) (by omega) u108000 x108000_4 (⟨t120, t121, t122, t123, t124⟩ : S66) [.int .i64 t120, .int .i64 t121, .string t122, .string t123, .int .i64 t124] (fun k_ => k_ ≠ gb126) (fun _ => False) rfl rfl ?aP (fun _ hk => hk.elim) ?aF ?aO (Below.refl _ _) ?aS ?aL ?_; (case aP => exact k66_mkM _ _ _ (⟨t120, t121, t122, t123, t124⟩ : S66)); (case aF => exact (fun k_ hk => Kd.freshB (g := gb126) (o := .cells #[.int .i64 t120, .int .i64 t121, .string t122, .string t123, .int .i64 t124] 66 (0, 0)) (by (with_reducible repeat (first | refine qb ?_ _ | refine qc ?_ | refine qa ?_ _)); exact BK126.out) k_ hk)); (case aO => exact (by (with_reducible repeat (first | apply Kd.R_alloc | apply Kd.R_drewN | apply Kd.R_drew)); exact Kd.R_mono HO_108000.out (fun _ hk => hk.2))); (case aS => exact (qc1 (w := w) (g := g) (row := none) yq32)); (case aL => have := LMc55.out; omega); intro v130 w70 ho hb hg hat; rw [← Ny129.out] at ho; have n0_ := Qz.mk (Kd.R_over' yq37 (Kd.R_typed yq39) (by decide) hg); have n1_ := Qz.mk (blk_grown (g := gb101) (o := .cells #[.slice A1_0 l1_0.length c1_0, .int .i64 a1_1, .int .i64 a1_2, .int .i64 a1_3] 32 (0, 0)) yq27 hg (Kd.R_ne HO_108000.out BK101.out (by decide))); have n2_ := Qz.mk (blk_grown (g := gb102) (o := .cells #[.slice none 0 0, .slice none 0 0, .int .i64 0, .int .i64 0, .int .i64 0] 37 (0, 0)) yq28 hg (Kd.R_ne HO_108000.out BK102.out (by decide))); have n3_ := Qz.mk (blk_grown (g := gb107) (o := .cells #[u108000, u108001, .int .i64 (wrap64 (a1_1 + t103)), .int .i64 (wrap64 (a1_2 + t105)), .int .i64 x108004_5] 37 (0, 0)) yq30 hg (Kd.R_ne HO_108000.out BK107.out (by decide))); have n4_ := Qz.mk (IsS123.grown yq33 hg (IsS123.own_ne HI0.out HO_108000.out (by decide))); have n5_ := Qz.mk (blk_grown (g := gb126) (o := .cells #[.int .i64 t120, .int .i64 t121, .string t122, .string t123, .int .i64 t124] 66 (0, 0)) (by (with_reducible repeat (first | refine qb ?_ _ | refine qc ?_ | refine qa ?_ _)); exact BK126.out) hg (Kd.R_away HO_108000.out (fun _ hk => hk.2))); have n6_ := Qz.mk (below_weaken yq43 HL.out hb); have n7_ := Qz.mk (KeepBut.trans yq32 (KeepBut.of_grown hg g) (Kd.R_base2 HO_108000.out)); have n8_ := Qz.mk (ho); clear HO_108001; clear BK101; clear BK102; clear BK107; clear HI0; clear BK126; clear HB; clear HK; clear HO_108000; have HO_108001 := n0_; have BK101 := n1_; have BK102 := n2_; have BK107 := n3_; have HI0 := n4_; have BK126 := n5_; have HB := n6_; have HK := n7_; have HO131 := n8_; clear n0_ n1_ n2_ n3_ n4_ n5_ n6_ n7_ n8_; clear ho hb hg hat; obtain ⟨Ao71, co71, eo71⟩ := Kd.R_slice HO131.out; subst eo71; have hcz72_0 := (qd BK107.out 0).trans rfl; have hcz72_1 := (qd BK107.out 1).trans rfl; have hcz72_2 : w70.cell? ⟨gb107, 2, none⟩ = some (.int .i64 (wrap64 (a1_1 + t103))) := (qd BK107.out 2).trans rfl; have hcz72_3 : w70.cell? ⟨gb107, 3, none⟩ = some (.int .i64 (wrap64 (a1_2 + t105))) := (qd BK107.out 3).trans rfl; have hcz72_4 := (qd BK107.out 4).trans rfl; have hfz72_0 := qf BK107.out 0; have hfz72_1 := qf BK107.out 1; have hfz72_2 := qf BK107.out 2; have hfz72_3 := qf BK107.out 3; have hfz72_4 := qf BK107.out 4))
             go_roundg k4
             case measure => have := HJ5.out; have := HJ24.out; have := HJ36.out; have := HK4.out; omega
             case rel => exact ⟨(wrap64 (x6_4 - 1)), (t128), (y129), (.slice Ao71 y129.length co71), yq57, H', ⟨by have := HJ5.out; have := HJ24.out; have := HJ36.out; have := HK4.out; omega⟩, ⟨by (with_reducible repeat (first | apply Kd.R_alloc | apply Kd.R_drewN | apply Kd.R_drew)); exact Kd.R_mono (Kd.R_far (p := ⟨gb107, 0, none⟩) (Kd.R_types HO131.out BK107.out (by decide)) (fun _ hk => hk.2) (.slice Ao71 y129.length co71)) (fun _ hk => trivial)⟩, ⟨by (with_reducible repeat (first | apply Kd.R_alloc | apply Kd.R_drewN | apply Kd.R_drew)); exact Kd.R_mono (Kd.R_far (p := ⟨gb107, 0, none⟩) (Kd.R_types HO_108001.out BK107.out (by decide)) (fun _ hk => hk.2) (.slice Ao71 y129.length co71)) (fun _ hk => trivial)⟩, ⟨by (with_reducible repeat (first | refine qb ?_ _ | refine qc ?_ | refine qa ?_ _)); refine qp ?_ NB101_107.out _; (with_reducible repeat (first | refine qb ?_ _ | refine qc ?_ | refine qa ?_ _)); exact BK101.out⟩, ⟨by (with_reducible repeat (first | refine qb ?_ _ | refine qc ?_ | refine qa ?_ _)); refine qp ?_ NB102_107.out _; (with_reducible repeat (first | refine qb ?_ _ | refine qc ?_ | refine qa ?_ _)); exact BK102.out⟩, ⟨by (with_reducible repeat (first | refine qb ?_ _ | refine qc ?_ | refine qa ?_ _)); refine qt (cs := #[u108000, u108001, .int .i64 (wrap64 (a1_1 + t103)), .int .i64 (wrap64 (a1_2 + t105)), .int .i64 x108004_5]) ?_ 0 _ rfl; (with_reducible repeat (first | refine qb ?_ _ | refine qc ?_ | refine qa ?_ _)); exact BK107.out⟩, ⟨by repeat (first | (with_reducible first | exact HI0.out | apply IsS123.alloc | apply IsS123.drewN | apply IsS123.drew | apply IsS123.set_1 | apply (fun h_ => IsS123.far h_ NB0_101.out _) | apply (fun h_ => IsS123.far h_ NB0_102.out _) | apply (fun h_ => IsS123.far h_ NB0_107.out _) | apply (fun h_ => IsS123.far h_ NB0_126.out _)) | exact HI0.out)⟩, ⟨by repeat (first | (with_reducible first | exact HK.out | apply KeepBut.set_ | apply ql | apply qo | apply qm | refine qj ?_ GW101.out _ | refine qj ?_ GW102.out _ | refine qj ?_ GW107.out _ | refine qj ?_ GW126.out _) | exact HK.out)⟩, ⟨by repeat (first | (with_reducible first | exact HB.out | apply qh | apply qg | apply qi | refine qe ?_ (IsS123.ge HI0.out) | refine qe ?_ GE101.out | refine qe ?_ GE102.out | refine qe ?_ GE107.out | refine qe ?_ GE126.out) | exact HB.out)⟩⟩
            ·rw [if_neg c55] at H
             exact absurd H (by simp)
           ·replace c54 := Bool.eq_false_iff.mpr c54
            subst c54
            have H1 : (if x108000_4.length < 2513169434916 then (spec_l1Rd_edit.l0 k4 (wrap64 (x6_4 - 1)) s0_0 t128 (x108000_4 ++ [(⟨wrap64 ((wrap64 (a1_1 + t103)) - x6_4), t121, t122, t123, t124⟩ : S66)]) x108001_36 (wrap64 (a1_1 + t103)) (wrap64 (a1_2 + t105)) x108004_5) else (none)) = some (r1, r2, r3, r4, r5, r6) := by rw [if_neg (show ¬ (false = true) by decide)] at H; exact H
            clear H
            have H := H1
            clear H1
            by_cases c73 : x108000_4.length < 2513169434916
            ·rw [if_pos c73] at H
             have LMc73 := Qz.mk c73
             clear c73
             obtain ⟨y132, hy132⟩ : ∃ y_ : List (S66), y_ = (x108000_4 ++ [(⟨wrap64 ((wrap64 (a1_1 + t103)) - x6_4), t121, t122, t123, t124⟩ : S66)]) := ⟨_, rfl⟩
             replace H : (spec_l1Rd_edit.l0 k4 (wrap64 (x6_4 - 1)) s0_0 t128 y132 x108001_36 (wrap64 (a1_1 + t103)) (wrap64 (a1_2 + t105)) x108004_5) = some (r1, r2, r3, r4, r5, r6) := by first | (rw [hy132]; with_reducible exact H) | (have H2_ := (Option.bind_some _ _).symm.trans H; rw [hy132]; with_reducible exact H2_) | (have H2_ := (Option.bind_some _ _).symm.trans H; with_reducible exact H2_) | with_reducible exact H | (rw [hy132]; exact H) | exact H
             have Ny132 := Qz.mk hy132
             clear hy132
             have H' := Qz.mk H
             clear H
             go_wp2_with (first | ((with_reducible refine qu (f := 103) rfl ?_); refine goesL_ (some 57) rfl rfl Try.func103 (by kernel_rfl) rfl #[.pointer (some ⟨g, 0, none⟩)] rfl yq42 ?_; (with_reducible refine (spec_l1Rd_meta.calls k4 g s0_0 x1001_4 t120 t121 t122 t123 t124 t125 w0 _ ?side1 ?side2 A51.out).mono ?_); (case side1 => exact yq24); (case side2 => exact yq26); rintro e w74 ⟨rfl, hi, hb, hk⟩; refine ⟨_, rfl, ?_⟩; replace HO_108000 := Qz.mk (Kd.R_mono (Kd.R_keep (IsS123.apart (show IsS123 w0 _ g s0_0 x1001_4 from by repeat (first | (with_reducible first | exact HI0.out | apply IsS123.alloc | apply IsS123.drewN | apply IsS123.drew | apply IsS123.set_1 | apply (fun h_ => IsS123.far h_ NB0_101.out _) | apply (fun h_ => IsS123.far h_ NB0_102.out _) | apply (fun h_ => IsS123.far h_ NB0_107.out _)) | exact HI0.out)) yq39 (by decide)) hk (fun _ h => h.2)) (fun _ h => h.1)); replace HO_108001 := Qz.mk (Kd.R_mono (Kd.R_keep (IsS123.apart (show IsS123 w0 _ g s0_0 x1001_4 from by repeat (first | (with_reducible first | exact HI0.out | apply IsS123.alloc | apply IsS123.drewN | apply IsS123.drew | apply IsS123.set_1 | apply (fun h_ => IsS123.far h_ NB0_101.out _) | apply (fun h_ => IsS123.far h_ NB0_102.out _) | apply (fun h_ => IsS123.far h_ NB0_107.out _)) | exact HI0.out)) yq37 (by decide)) hk (fun _ h => h.2)) (fun _ h => h.1)); replace BK101 := Qz.mk (KeepBut.blk hk (g' := gb101) (o := .cells #[.slice A1_0 l1_0.length c1_0, .int .i64 a1_1, .int .i64 a1_2, .int .i64 a1_3] 32 (0, 0)) yq27 NB101_0.out (by simp)); replace BK102 := Qz.mk (KeepBut.blk hk (g' := gb102) (o := .cells #[.slice none 0 0, .slice none 0 0, .int .i64 0, .int .i64 0, .int .i64 0] 37 (0, 0)) yq28 NB102_0.out (by simp)); replace BK107 := Qz.mk (KeepBut.blk hk (g' := gb107) (o := .cells #[u108000, u108001, .int .i64 (wrap64 (a1_1 + t103)), .int .i64 (wrap64 (a1_2 + t105)), .int .i64 x108004_5] 37 (0, 0)) yq30 NB107_0.out (by simp)); replace HK := Qz.mk (KeepBut.trans yq25 hk (.inl rfl)); replace HB := Qz.mk (hb); replace HI0 := Qz.mk (hi); (try clear hb); (try clear hk); (try clear hi)) | ((with_reducible refine gate_dst (N := 7) rfl ?_); refine box_event ?hg (N := 7) ?hd (cs := #[.int .i64 0, .int .i64 0, .string (⟨#[]⟩ : ByteArray), .string (⟨#[]⟩ : ByteArray), .int .i64 0]) (t := 66) ?hr ?_; (case hd => rfl); (case hg => rfl); (case hr => exact yq51); intro gb126 hg w75 hbox hb; replace HO_108000 := Qz.mk (Kd.R_below (Kd.R_elderB yq39 gb126 (Nat.le_of_eq hg.symm)) hb); replace HO_108001 := Qz.mk (Kd.R_below yq37 hb); replace HB := Qz.mk (qq yq26 hb); have BK126 := Qz.mk (hbox); have GW126 := Qz.mk ((yq55 : w.heap.size ≤ gb126)); have GE126 := Qz.mk ((Nat.le_trans HW0.out (yq55 : w.heap.size ≤ gb126) : w0.heap.size ≤ gb126)); replace HK := Qz.mk (KeepBut.trans yq25 (KeepBut.of_below hb g none) (.inl rfl)); have NB101_126 := Qz.mk ((yq44 : gb101 ≠ gb126)); have NB126_101 := Qz.mk ((yq45 : gb126 ≠ gb101)); replace BK101 := bkbf88 BK101 yq27 hb; have NB102_126 := Qz.mk ((yq47 : gb102 ≠ gb126)); have NB126_102 := Qz.mk ((yq48 : gb126 ≠ gb102)); replace BK102 := bkbf88 BK102 yq28 hb; have NB107_126 := Qz.mk ((yq49 : gb107 ≠ gb126)); have NB126_107 := Qz.mk ((yq50 : gb126 ≠ gb107)); replace BK107 := bkbf88 BK107 yq30 hb; have NB0_126 := Qz.mk ((by rw [hg]; exact Nat.ne_of_lt (IsS123.lt (show IsS123 w0 _ g s0_0 t125 from by repeat (first | (with_reducible first | exact HI0.out | apply IsS123.alloc | apply IsS123.drewN | apply IsS123.drew | apply IsS123.set_1 | apply (fun h_ => IsS123.far h_ NB0_101.out _) | apply (fun h_ => IsS123.far h_ NB0_102.out _) | apply (fun h_ => IsS123.far h_ NB0_107.out _)) | exact HI0.out))) : g ≠ gb126)); have NB126_0 := Qz.mk ((by rw [hg]; exact Nat.ne_of_gt (IsS123.lt (show IsS123 w0 _ g s0_0 t125 from by repeat (first | (with_reducible first | exact HI0.out | apply IsS123.alloc | apply IsS123.drewN | apply IsS123.drew | apply IsS123.set_1 | apply (fun h_ => IsS123.far h_ NB0_101.out _) | apply (fun h_ => IsS123.far h_ NB0_102.out _) | apply (fun h_ => IsS123.far h_ NB0_107.out _)) | exact HI0.out))) : gb126 ≠ g)); replace HI0 := Qz.mk (IsS123.below yq24 hb); clear hb hbox hg; have hnb76 := NB126_101.out; have hnc76 := NB101_126.out; have hnb77 := NB126_102.out; have hnc77 := NB102_126.out; have hnb78 := NB126_107.out; have hnc78 := NB107_126.out; have hnb79 := NB126_0.out; have hnc79 := NB0_126.out; have hcz80_0 := (qd BK126.out 0).trans rfl; have hcz80_1 := (qd BK126.out 1).trans rfl; have hcz80_2 := (qd BK126.out 2).trans rfl; have hcz80_3 := (qd BK126.out 3).trans rfl; have hcz80_4 := (qd BK126.out 4).trans rfl; have hfz80_0 := qf BK126.out 0; have hfz80_1 := qf BK126.out 1; have hfz80_2 := qf BK126.out 2; have hfz80_3 := qf BK126.out 3; have hfz80_4 := qf BK126.out 4; have hnb81 := NB107_101.out; have hnc81 := NB101_107.out; have hnb82 := NB107_102.out; have hnc82 := NB102_107.out; have hnb83 := NB107_0.out; have hnc83 := NB0_107.out; have hcz84_0 := (qd BK107.out 0).trans rfl; have hcz84_1 := (qd BK107.out 1).trans rfl; have hcz84_2 : w75.cell? ⟨gb107, 2, none⟩ = some (.int .i64 (wrap64 (a1_1 + t103))) := (qd BK107.out 2).trans rfl; have hcz84_3 : w75.cell? ⟨gb107, 3, none⟩ = some (.int .i64 (wrap64 (a1_2 + t105))) := (qd BK107.out 3).trans rfl; have hcz84_4 := (qd BK107.out 4).trans rfl; have hfz84_0 := qf BK107.out 0; have hfz84_1 := qf BK107.out 1; have hfz84_2 := qf BK107.out 2; have hfz84_3 := qf BK107.out 3; have hfz84_4 := qf BK107.out 4) | (go_at_call 73; (with_reducible refine (spec_l1Rd_once.calls g s0_0 t125 4 false t128 w0 _ ?side1 ?side2 A53.out).mono ?_); (case side1 => exact yq33); (case side2 => exact yq43); rintro e w85 ⟨rfl, hi, hb, hk⟩; replace HO_108000 := Qz.mk (Kd.R_mono (Kd.R_keep (IsS123.apart (show IsS123 w0 _ g s0_0 t125 from by repeat (first | (with_reducible first | exact HI0.out | apply IsS123.alloc | apply IsS123.drewN | apply IsS123.drew | apply IsS123.set_1 | apply (fun h_ => IsS123.far h_ NB0_101.out _) | apply (fun h_ => IsS123.far h_ NB0_102.out _) | apply (fun h_ => IsS123.far h_ NB0_107.out _) | apply (fun h_ => IsS123.far h_ NB0_126.out _)) | exact HI0.out)) yq38 (by decide)) hk (fun _ h => h.2)) (fun _ h => h.1)); replace HO_108001 := Qz.mk (Kd.R_mono (Kd.R_keep (IsS123.apart (show IsS123 w0 _ g s0_0 t125 from by repeat (first | (with_reducible first | exact HI0.out | apply IsS123.alloc | apply IsS123.drewN | apply IsS123.drew | apply IsS123.set_1 | apply (fun h_ => IsS123.far h_ NB0_101.out _) | apply (fun h_ => IsS123.far h_ NB0_102.out _) | apply (fun h_ => IsS123.far h_ NB0_107.out _) | apply (fun h_ => IsS123.far h_ NB0_126.out _)) | exact HI0.out)) yq40 (by decide)) hk (fun _ h => h.2)) (fun _ h => h.1)); replace BK101 := Qz.mk (KeepBut.blk hk (g' := gb101) (o := .cells #[.slice A1_0 l1_0.length c1_0, .int .i64 a1_1, .int .i64 a1_2, .int .i64 a1_3] 32 (0, 0)) yq36 NB101_0.out (by simp)); replace BK102 := Qz.mk (KeepBut.blk hk (g' := gb102) (o := .cells #[.slice none 0 0, .slice none 0 0, .int .i64 0, .int .i64 0, .int .i64 0] 37 (0, 0)) yq35 NB102_0.out (by simp)); replace BK107 := Qz.mk (KeepBut.blk hk (g' := gb107) (o := .cells #[u108000, u108001, .int .i64 (wrap64 (a1_1 + t103)), .int .i64 (wrap64 (a1_2 + t105)), .int .i64 x108004_5] 37 (0, 0)) yq34 NB107_0.out (by simp)); replace BK126 := Qz.mk (KeepBut.blk hk (g' := gb126) (o := .cells #[.int .i64 t120, .int .i64 t121, .string t122, .string t123, .int .i64 t124] 66 (0, 0)) yq29 NB126_0.out (by simp)); replace HK := Qz.mk (KeepBut.trans yq32 hk (.inl rfl)); replace HB := Qz.mk (hb); replace HI0 := Qz.mk (hi); (try clear hb); (try clear hk); (try clear hi); have hcz86_0 := (qd BK107.out 0).trans rfl; have hcz86_1 := (qd BK107.out 1).trans rfl; have hcz86_2 : w85.cell? ⟨gb107, 2, none⟩ = some (.int .i64 (wrap64 (a1_1 + t103))) := (qd BK107.out 2).trans rfl; have hcz86_3 : w85.cell? ⟨gb107, 3, none⟩ = some (.int .i64 (wrap64 (a1_2 + t105))) := (qd BK107.out 3).trans rfl; have hcz86_4 := (qd BK107.out 4).trans rfl; have hfz86_0 := qf BK107.out 0; have hfz86_1 := qf BK107.out 1; have hfz86_2 := qf BK107.out 2; have hfz86_3 := qf BK107.out 3; have hfz86_4 := qf BK107.out 4; have hcz87_0 := (qd BK126.out 0).trans rfl; have hcz87_1 := (qd BK126.out 1).trans rfl; have hcz87_2 := (qd BK126.out 2).trans rfl; have hcz87_3 := (qd BK126.out 3).trans rfl; have hcz87_4 := (qd BK126.out 4).trans rfl; have hfz87_0 := qf BK126.out 0; have hfz87_1 := qf BK126.out 1; have hfz87_2 := qf BK126.out 2; have hfz87_3 := qf BK126.out 3; have hfz87_4 := qf BK126.out 4) | ((with_reducible refine gate_builtin (b := .append) (xs := #[.tmp 72, .tmp 74]) rfl ?_); at_builtin; refine Kd.R_append k66 w.heap.size rfl (.tmp 72) (.tmp 74) 30 66 (.agg #[(.int .i64 0), (.int .i64 0), (.string ⟨#[]⟩), (.string ⟨#[]⟩), (.int .i64 0)]) 56 rfl Try.underlying30 info66 rfl (by decide) (by omega) u108000 x108000_4 (⟨wrap64 ((wrap64 (a1_1 + t103)) - x6_4), t121, t122, t123, t124⟩ : S66) [.int .i64 (wrap64 ((wrap64 (a1_1 + t103)) - x6_4)), .int .i64 t121, .string t122, .string t123, .int .i64 t124] (fun k_ => k_ ≠ gb126) (fun _ => False) rfl yq51 ?aP (fun _ hk => hk.elim) ?aF ?aO (Below.refl _ _) ?aS ?aL ?_; (case aP => exact k66_mkM _ _ _ (⟨wrap64 ((wrap64 (a1_1 + t103)) - x6_4), t121, t122, t123, t124⟩ : S66)); (case aF => exact (fun k_ hk => Kd.freshB (g := gb126) (o := .cells #[.int .i64 (wrap64 ((wrap64 (a1_1 + t103)) - x6_4)), .int .i64 t121, .string t122, .string t123, .int .i64 t124] 66 (0, 0)) yq53 k_ hk)); (case aO => exact (by (with_reducible repeat (first | apply Kd.R_alloc | apply Kd.R_drewN | apply Kd.R_drew)); exact Kd.R_mono (Kd.R_far (p := ⟨gb126, 0, none⟩) (Kd.R_mono HO_108000.out (fun k_ hk => (⟨hk, hk.2⟩ : _ ∧ k_ ≠ gb126))) (fun _ hk => hk.2) (.int .i64 (wrap64 ((wrap64 (a1_1 + t103)) - x6_4)))) (fun _ hk => hk.1.2))); (case aS => exact (qc1 (w := w) (g := g) (row := none) yq32)); (case aL => have := LMc73.out; omega); intro v133 w88 ho hb hg hat; rw [← Ny132.out] at ho; have n0_ := Qz.mk (Kd.R_over' (by (with_reducible repeat (first | apply Kd.R_alloc | apply Kd.R_drewN | apply Kd.R_drew)); exact (Kd.R_mono (Kd.R_far (p := ⟨gb126, 0, none⟩) (Kd.R_types HO_108001.out BK126.out (by decide)) (fun _ hk => hk.2) (.int .i64 (wrap64 ((wrap64 (a1_1 + t103)) - x6_4)))) (fun _ h_ => h_.1))) (Kd.R_typed (by (with_reducible repeat (first | apply Kd.R_alloc | apply Kd.R_drewN | apply Kd.R_drew)); exact (Kd.R_mono (Kd.R_far (p := ⟨gb126, 0, none⟩) (Kd.R_mono HO_108000.out (fun k_ hk => (⟨hk, hk.2⟩ : _ ∧ k_ ≠ gb126))) (fun _ hk => hk.2) (.int .i64 (wrap64 ((wrap64 (a1_1 + t103)) - x6_4)))) (fun _ h_ => h_.1)))) (by decide) hg); have n1_ := Qz.mk (blk_grown (g := gb101) (o := .cells #[.slice A1_0 l1_0.length c1_0, .int .i64 a1_1, .int .i64 a1_2, .int .i64 a1_3] 32 (0, 0)) (by (with_reducible repeat (first | refine qb ?_ _ | refine qc ?_ | refine qa ?_ _)); refine qp ?_ NB101_126.out _; (with_reducible repeat (first | refine qb ?_ _ | refine qc ?_ | refine qa ?_ _)); exact BK101.out) hg (Kd.R_ne HO_108000.out BK101.out (by decide))); have n2_ := Qz.mk (blk_grown (g := gb102) (o := .cells #[.slice none 0 0, .slice none 0 0, .int .i64 0, .int .i64 0, .int .i64 0] 37 (0, 0)) (by (with_reducible repeat (first | refine qb ?_ _ | refine qc ?_ | refine qa ?_ _)); refine qp ?_ NB102_126.out _; (with_reducible repeat (first | refine qb ?_ _ | refine qc ?_ | refine qa ?_ _)); exact BK102.out) hg (Kd.R_ne HO_108000.out BK102.out (by decide))); have n3_ := Qz.mk (blk_grown (g := gb107) (o := .cells #[u108000, u108001, .int .i64 (wrap64 (a1_1 + t103)), .int .i64 (wrap64 (a1_2 + t105)), .int .i64 x108004_5] 37 (0, 0)) (by (with_reducible repeat (first | refine qb ?_ _ | refine qc ?_ | refine qa ?_ _)); refine qp ?_ NB107_126.out _; (with_reducible repeat (first | refine qb ?_ _ | refine qc ?_ | refine qa ?_ _)); exact BK107.out) hg (Kd.R_ne HO_108000.out BK107.out (by decide))); have n4_ := Qz.mk (IsS123.grown yq33 hg (IsS123.own_ne HI0.out HO_108000.out (by decide))); have n5_ := Qz.mk (blk_grown (g := gb126) (o := .cells #[.int .i64 (wrap64 ((wrap64 (a1_1 + t103)) - x6_4)), .int .i64 t121, .string t122, .string t123, .int .i64 t124] 66 (0, 0)) yq53 hg (Kd.R_away HO_108000.out (fun _ hk => hk.2))); have n6_ := Qz.mk (below_weaken yq43 HL.out hb); have n7_ := Qz.mk (KeepBut.trans yq32 (KeepBut.of_grown hg g) (Kd.R_base2 HO_108000.out)); have n8_ := Qz.mk (ho); clear HO_108001; clear BK101; clear BK102; clear BK107; clear HI0; clear BK126; clear HB; clear HK; clear HO_108000; have HO_108001 := n0_; have BK101 := n1_; have BK102 := n2_; have BK107 := n3_; have HI0 := n4_; have BK126 := n5_; have HB := n6_; have HK := n7_; have HO134 := n8_; clear n0_ n1_ n2_ n3_ n4_ n5_ n6_ n7_ n8_; clear ho hb hg hat; obtain ⟨Ao89, co89, eo89⟩ := Kd.R_slice HO134.out; subst eo89; have hcz90_0 := (qd BK107.out 0).trans rfl; have hcz90_1 := (qd BK107.out 1).trans rfl; have hcz90_2 : w88.cell? ⟨gb107, 2, none⟩ = some (.int .i64 (wrap64 (a1_1 + t103))) := (qd BK107.out 2).trans rfl; have hcz90_3 : w88.cell? ⟨gb107, 3, none⟩ = some (.int .i64 (wrap64 (a1_2 + t105))) := (qd BK107.out 3).trans rfl; have hcz90_4 := (qd BK107.out 4).trans rfl; have hfz90_0 := qf BK107.out 0; have hfz90_1 := qf BK107.out 1; have hfz90_2 := qf BK107.out 2; have hfz90_3 := qf BK107.out 3; have hfz90_4 := qf BK107.out 4))
             go_roundg k4
             case measure => have := HJ5.out; have := HJ24.out; have := HJ36.out; have := HK4.out; omega
             case rel => exact ⟨(wrap64 (x6_4 - 1)), (t128), (y132), (.slice Ao89 y132.length co89), yq57, H', ⟨by have := HJ5.out; have := HJ24.out; have := HJ36.out; have := HK4.out; omega⟩, ⟨by (with_reducible repeat (first | apply Kd.R_alloc | apply Kd.R_drewN | apply Kd.R_drew)); exact Kd.R_mono (Kd.R_far (p := ⟨gb107, 0, none⟩) (Kd.R_types HO134.out BK107.out (by decide)) (fun _ hk => hk.2) (.slice Ao89 y132.length co89)) (fun _ hk => trivial)⟩, ⟨by (with_reducible repeat (first | apply Kd.R_alloc | apply Kd.R_drewN | apply Kd.R_drew)); exact Kd.R_mono (Kd.R_far (p := ⟨gb107, 0, none⟩) (Kd.R_types HO_108001.out BK107.out (by decide)) (fun _ hk => hk.2) (.slice Ao89 y132.length co89)) (fun _ hk => trivial)⟩, ⟨by (with_reducible repeat (first | refine qb ?_ _ | refine qc ?_ | refine qa ?_ _)); refine qp ?_ NB101_107.out _; (with_reducible repeat (first | refine qb ?_ _ | refine qc ?_ | refine qa ?_ _)); exact BK101.out⟩, ⟨by (with_reducible repeat (first | refine qb ?_ _ | refine qc ?_ | refine qa ?_ _)); refine qp ?_ NB102_107.out _; (with_reducible repeat (first | refine qb ?_ _ | refine qc ?_ | refine qa ?_ _)); exact BK102.out⟩, ⟨by (with_reducible repeat (first | refine qb ?_ _ | refine qc ?_ | refine qa ?_ _)); refine qt (cs := #[u108000, u108001, .int .i64 (wrap64 (a1_1 + t103)), .int .i64 (wrap64 (a1_2 + t105)), .int .i64 x108004_5]) ?_ 0 _ rfl; (with_reducible repeat (first | refine qb ?_ _ | refine qc ?_ | refine qa ?_ _)); exact BK107.out⟩, ⟨by repeat (first | (with_reducible first | exact HI0.out | apply IsS123.alloc | apply IsS123.drewN | apply IsS123.drew | apply IsS123.set_1 | apply (fun h_ => IsS123.far h_ NB0_101.out _) | apply (fun h_ => IsS123.far h_ NB0_102.out _) | apply (fun h_ => IsS123.far h_ NB0_107.out _) | apply (fun h_ => IsS123.far h_ NB0_126.out _)) | exact HI0.out)⟩, ⟨by repeat (first | (with_reducible first | exact HK.out | apply KeepBut.set_ | apply ql | apply qo | apply qm | refine qj ?_ GW101.out _ | refine qj ?_ GW102.out _ | refine qj ?_ GW107.out _ | refine qj ?_ GW126.out _) | exact HK.out)⟩, ⟨by repeat (first | (with_reducible first | exact HB.out | apply qh | apply qg | apply qi | refine qe ?_ (IsS123.ge HI0.out) | refine qe ?_ GE101.out | refine qe ?_ GE102.out | refine qe ?_ GE107.out | refine qe ?_ GE126.out) | exact HB.out)⟩⟩
            ·rw [if_neg c73] at H
             exact absurd H (by simp)
          ·rw [if_neg c52] at H
           have c52b0 : decide (1 < (wrap64 (a1_1 + t103))) = false := decide_eq_false c52
           clear c52
           by_cases c91 : x108000_4.length < 2513169434916
           ·rw [if_pos c91] at H
            have LMc91 := Qz.mk c91
            clear c91
            obtain ⟨y135, hy135⟩ : ∃ y_ : List (S66), y_ = (x108000_4 ++ [(⟨t120, t121, t122, t123, t124⟩ : S66)]) := ⟨_, rfl⟩
            replace H : (spec_l1Rd_edit.l0 k4 (wrap64 (x6_4 - 1)) s0_0 t125 y135 x108001_36 (wrap64 (a1_1 + t103)) (wrap64 (a1_2 + t105)) x108004_5) = some (r1, r2, r3, r4, r5, r6) := by first | (rw [hy135]; with_reducible exact H) | (have H2_ := (Option.bind_some _ _).symm.trans H; rw [hy135]; with_reducible exact H2_) | (have H2_ := (Option.bind_some _ _).symm.trans H; with_reducible exact H2_) | with_reducible exact H | (rw [hy135]; exact H) | exact H
            have Ny135 := Qz.mk hy135
            clear hy135
            have H' := Qz.mk H
            clear H
            go_wp2_with (first | ((with_reducible refine qu (f := 103) rfl ?_); refine goesL_ (some 57) rfl rfl Try.func103 (by kernel_rfl) rfl #[.pointer (some ⟨g, 0, none⟩)] rfl yq42 ?_; (with_reducible refine (spec_l1Rd_meta.calls k4 g s0_0 x1001_4 t120 t121 t122 t123 t124 t125 w0 _ ?side1 ?side2 A51.out).mono ?_); (case side1 => exact yq24); (case side2 => exact yq26); rintro e w92 ⟨rfl, hi, hb, hk⟩; refine ⟨_, rfl, ?_⟩; replace HO_108000 := Qz.mk (Kd.R_mono (Kd.R_keep (IsS123.apart (show IsS123 w0 _ g s0_0 x1001_4 from by repeat (first | (with_reducible first | exact HI0.out | apply IsS123.alloc | apply IsS123.drewN | apply IsS123.drew | apply IsS123.set_1 | apply (fun h_ => IsS123.far h_ NB0_101.out _) | apply (fun h_ => IsS123.far h_ NB0_102.out _) | apply (fun h_ => IsS123.far h_ NB0_107.out _)) | exact HI0.out)) yq39 (by decide)) hk (fun _ h => h.2)) (fun _ h => h.1)); replace HO_108001 := Qz.mk (Kd.R_mono (Kd.R_keep (IsS123.apart (show IsS123 w0 _ g s0_0 x1001_4 from by repeat (first | (with_reducible first | exact HI0.out | apply IsS123.alloc | apply IsS123.drewN | apply IsS123.drew | apply IsS123.set_1 | apply (fun h_ => IsS123.far h_ NB0_101.out _) | apply (fun h_ => IsS123.far h_ NB0_102.out _) | apply (fun h_ => IsS123.far h_ NB0_107.out _)) | exact HI0.out)) yq37 (by decide)) hk (fun _ h => h.2)) (fun _ h => h.1)); replace BK101 := Qz.mk (KeepBut.blk hk (g' := gb101) (o := .cells #[.slice A1_0 l1_0.length c1_0, .int .i64 a1_1, .int .i64 a1_2, .int .i64 a1_3] 32 (0, 0)) yq27 NB101_0.out (by simp)); replace BK102 := Qz.mk (KeepBut.blk hk (g' := gb102) (o := .cells #[.slice none 0 0, .slice none 0 0, .int .i64 0, .int .i64 0, .int .i64 0] 37 (0, 0)) yq28 NB102_0.out (by simp)); replace BK107 := Qz.mk (KeepBut.blk hk (g' := gb107) (o := .cells #[u108000, u108001, .int .i64 (wrap64 (a1_1 + t103)), .int .i64 (wrap64 (a1_2 + t105)), .int .i64 x108004_5] 37 (0, 0)) yq30 NB107_0.out (by simp)); replace HK := Qz.mk (KeepBut.trans yq25 hk (.inl rfl)); replace HB := Qz.mk (hb); replace HI0 := Qz.mk (hi); (try clear hb); (try clear hk); (try clear hi)) | ((with_reducible refine gate_dst (N := 7) rfl ?_); refine box_event ?hg (N := 7) ?hd (cs := #[.int .i64 0, .int .i64 0, .string (⟨#[]⟩ : ByteArray), .string (⟨#[]⟩ : ByteArray), .int .i64 0]) (t := 66) ?hr ?_; (case hd => rfl); (case hg => rfl); (case hr => exact yq51); intro gb126 hg w93 hbox hb; replace HO_108000 := Qz.mk (Kd.R_below (Kd.R_elderB yq39 gb126 (Nat.le_of_eq hg.symm)) hb); replace HO_108001 := Qz.mk (Kd.R_below yq37 hb); replace HB := Qz.mk (qq yq26 hb); have BK126 := Qz.mk (hbox); have GW126 := Qz.mk ((yq55 : w.heap.size ≤ gb126)); have GE126 := Qz.mk ((Nat.le_trans HW0.out (yq55 : w.heap.size ≤ gb126) : w0.heap.size ≤ gb126)); replace HK := Qz.mk (KeepBut.trans yq25 (KeepBut.of_below hb g none) (.inl rfl)); have NB101_126 := Qz.mk ((yq44 : gb101 ≠ gb126)); have NB126_101 := Qz.mk ((yq45 : gb126 ≠ gb101)); replace BK101 := bkbf88 BK101 yq27 hb; have NB102_126 := Qz.mk ((yq47 : gb102 ≠ gb126)); have NB126_102 := Qz.mk ((yq48 : gb126 ≠ gb102)); replace BK102 := bkbf88 BK102 yq28 hb; have NB107_126 := Qz.mk ((yq49 : gb107 ≠ gb126)); have NB126_107 := Qz.mk ((yq50 : gb126 ≠ gb107)); replace BK107 := bkbf88 BK107 yq30 hb; have NB0_126 := Qz.mk ((by rw [hg]; exact Nat.ne_of_lt (IsS123.lt (show IsS123 w0 _ g s0_0 t125 from by repeat (first | (with_reducible first | exact HI0.out | apply IsS123.alloc | apply IsS123.drewN | apply IsS123.drew | apply IsS123.set_1 | apply (fun h_ => IsS123.far h_ NB0_101.out _) | apply (fun h_ => IsS123.far h_ NB0_102.out _) | apply (fun h_ => IsS123.far h_ NB0_107.out _)) | exact HI0.out))) : g ≠ gb126)); have NB126_0 := Qz.mk ((by rw [hg]; exact Nat.ne_of_gt (IsS123.lt (show IsS123 w0 _ g s0_0 t125 from by repeat (first | (with_reducible first | exact HI0.out | apply IsS123.alloc | apply IsS123.drewN | apply IsS123.drew | apply IsS123.set_1 | apply (fun h_ => IsS123.far h_ NB0_101.out _) | apply (fun h_ => IsS123.far h_ NB0_102.out _) | apply (fun h_ => IsS123.far h_ NB0_107.out _)) | exact HI0.out))) : gb126 ≠ g)); replace HI0 := Qz.mk (IsS123.below yq24 hb); clear hb hbox hg; have hnb94 := NB126_101.out; have hnc94 := NB101_126.out; have hnb95 := NB126_102.out; have hnc95 := NB102_126.out; have hnb96 := NB126_107.out; have hnc96 := NB107_126.out; have hnb97 := NB126_0.out; have hnc97 := NB0_126.out; have hcz98_0 := (qd BK126.out 0).trans rfl; have hcz98_1 := (qd BK126.out 1).trans rfl; have hcz98_2 := (qd BK126.out 2).trans rfl; have hcz98_3 := (qd BK126.out 3).trans rfl; have hcz98_4 := (qd BK126.out 4).trans rfl; have hfz98_0 := qf BK126.out 0; have hfz98_1 := qf BK126.out 1; have hfz98_2 := qf BK126.out 2; have hfz98_3 := qf BK126.out 3; have hfz98_4 := qf BK126.out 4; have hnb99 := NB107_101.out; have hnc99 := NB101_107.out; have hnb100 := NB107_102.out; have hnc100 := NB102_107.out; have hnb101 := NB107_0.out; have hnc101 := NB0_107.out; have hcz102_0 := (qd BK107.out 0).trans rfl; have hcz102_1 := (qd BK107.out 1).trans rfl; have hcz102_2 : w93.cell? ⟨gb107, 2, none⟩ = some (.int .i64 (wrap64 (a1_1 + t103))) := (qd BK107.out 2).trans rfl; have hcz102_3 : w93.cell? ⟨gb107, 3, none⟩ = some (.int .i64 (wrap64 (a1_2 + t105))) := (qd BK107.out 3).trans rfl; have hcz102_4 := (qd BK107.out 4).trans rfl; have hfz102_0 := qf BK107.out 0; have hfz102_1 := qf BK107.out 1; have hfz102_2 := qf BK107.out 2; have hfz102_3 := qf BK107.out 3; have hfz102_4 := qf BK107.out 4) | ((with_reducible refine gate_builtin (b := .append) (xs := #[.tmp 72, .tmp 74]) rfl ?_); at_builtin; refine Kd.R_append k66 w.heap.size rfl (.tmp 72) (.tmp 74) 30 66 (.agg #[(.int .i64 0), (.int .i64 0), (.string ⟨#[]⟩), (.string ⟨#[]⟩), (.int .i64 0)]) 56 rfl Try.underlying30 info66 rfl (by decide) (by omega) u108000 x108000_4 (⟨t120, t121, t122, t123, t124⟩ : S66) [.int .i64 t120, .int .i64 t121, .string t122, .string t123, .int .i64 t124] (fun k_ => k_ ≠ gb126) (fun _ => False) rfl yq51 ?aP (fun _ hk => hk.elim) ?aF ?aO (Below.refl _ _) ?aS ?aL ?_; (case aP => exact k66_mkM _ _ _ (⟨t120, t121, t122, t123, t124⟩ : S66)); (case aF => exact (fun k_ hk => Kd.freshB (g := gb126) (o := .cells #[.int .i64 t120, .int .i64 t121, .string t122, .string t123, .int .i64 t124] 66 (0, 0)) yq29 k_ hk)); (case aO => exact (by (with_reducible repeat (first | apply Kd.R_alloc | apply Kd.R_drewN | apply Kd.R_drew)); exact Kd.R_mono (Kd.R_far (p := ⟨gb126, 4, none⟩) (Kd.R_far (p := ⟨gb126, 3, none⟩) (Kd.R_far (p := ⟨gb126, 2, none⟩) (Kd.R_far (p := ⟨gb126, 1, none⟩) (Kd.R_far (p := ⟨gb126, 0, none⟩) (Kd.R_mono HO_108000.out (fun k_ hk => (⟨hk, hk.2⟩ : _ ∧ k_ ≠ gb126))) (fun _ hk => hk.2) (.int .i64 t120)) (fun _ hk => hk.2) (.int .i64 t121)) (fun _ hk => hk.2) (.string t122)) (fun _ hk => hk.2) (.string t123)) (fun _ hk => hk.2) (.int .i64 t124)) (fun _ hk => hk.1.2))); (case aS => exact (qc1 (w := w) (g := g) (row := none) yq32)); (case aL => have := LMc91.out; omega); intro v136 w103 ho hb hg hat; rw [← Ny135.out] at ho; have n0_ := Qz.mk (Kd.R_over' yq40 (Kd.R_typed yq38) (by decide) hg); have n1_ := Qz.mk (blk_grown (g := gb101) (o := .cells #[.slice A1_0 l1_0.length c1_0, .int .i64 a1_1, .int .i64 a1_2, .int .i64 a1_3] 32 (0, 0)) yq36 hg (Kd.R_ne HO_108000.out BK101.out (by decide))); have n2_ := Qz.mk (blk_grown (g := gb102) (o := .cells #[.slice none 0 0, .slice none 0 0, .int .i64 0, .int .i64 0, .int .i64 0] 37 (0, 0)) yq35 hg (Kd.R_ne HO_108000.out BK102.out (by decide))); have n3_ := Qz.mk (blk_grown (g := gb107) (o := .cells #[u108000, u108001, .int .i64 (wrap64 (a1_1 + t103)), .int .i64 (wrap64 (a1_2 + t105)), .int .i64 x108004_5] 37 (0, 0)) yq34 hg (Kd.R_ne HO_108000.out BK107.out (by decide))); have n4_ := Qz.mk (IsS123.grown yq33 hg (IsS123.own_ne HI0.out HO_108000.out (by decide))); have n5_ := Qz.mk (blk_grown (g := gb126) (o := .cells #[.int .i64 t120, .int .i64 t121, .string t122, .string t123, .int .i64 t124] 66 (0, 0)) yq29 hg (Kd.R_away HO_108000.out (fun _ hk => hk.2))); have n6_ := Qz.mk (below_weaken yq43 HL.out hb); have n7_ := Qz.mk (KeepBut.trans yq32 (KeepBut.of_grown hg g) (Kd.R_base2 HO_108000.out)); have n8_ := Qz.mk (ho); clear HO_108001; clear BK101; clear BK102; clear BK107; clear HI0; clear BK126; clear HB; clear HK; clear HO_108000; have HO_108001 := n0_; have BK101 := n1_; have BK102 := n2_; have BK107 := n3_; have HI0 := n4_; have BK126 := n5_; have HB := n6_; have HK := n7_; have HO137 := n8_; clear n0_ n1_ n2_ n3_ n4_ n5_ n6_ n7_ n8_; clear ho hb hg hat; obtain ⟨Ao104, co104, eo104⟩ := Kd.R_slice HO137.out; subst eo104; have hcz105_0 := (qd BK107.out 0).trans rfl; have hcz105_1 := (qd BK107.out 1).trans rfl; have hcz105_2 : w103.cell? ⟨gb107, 2, none⟩ = some (.int .i64 (wrap64 (a1_1 + t103))) := (qd BK107.out 2).trans rfl; have hcz105_3 : w103.cell? ⟨gb107, 3, none⟩ = some (.int .i64 (wrap64 (a1_2 + t105))) := (qd BK107.out 3).trans rfl; have hcz105_4 := (qd BK107.out 4).trans rfl; have hfz105_0 := qf BK107.out 0; have hfz105_1 := qf BK107.out 1; have hfz105_2 := qf BK107.out 2; have hfz105_3 := qf BK107.out 3; have hfz105_4 := qf BK107.out 4))
            go_roundg k4
            case measure => have := HJ5.out; have := HJ24.out; have := HJ36.out; have := HK4.out; omega
            case rel => exact ⟨(wrap64 (x6_4 - 1)), (t125), (y135), (.slice Ao104 y135.length co104), yq57, H', ⟨by have := HJ5.out; have := HJ24.out; have := HJ36.out; have := HK4.out; omega⟩, ⟨by (with_reducible repeat (first | apply Kd.R_alloc | apply Kd.R_drewN | apply Kd.R_drew)); exact Kd.R_mono (Kd.R_far (p := ⟨gb107, 0, none⟩) (Kd.R_types HO137.out BK107.out (by decide)) (fun _ hk => hk.2) (.slice Ao104 y135.length co104)) (fun _ hk => trivial)⟩, ⟨by (with_reducible repeat (first | apply Kd.R_alloc | apply Kd.R_drewN | apply Kd.R_drew)); exact Kd.R_mono (Kd.R_far (p := ⟨gb107, 0, none⟩) (Kd.R_types HO_108001.out BK107.out (by decide)) (fun _ hk => hk.2) (.slice Ao104 y135.length co104)) (fun _ hk => trivial)⟩, ⟨by (with_reducible repeat (first | refine qb ?_ _ | refine qc ?_ | refine qa ?_ _)); refine qp ?_ NB101_107.out _; (with_reducible repeat (first | refine qb ?_ _ | refine qc ?_ | refine qa ?_ _)); exact BK101.out⟩, ⟨by (with_reducible repeat (first | refine qb ?_ _ | refine qc ?_ | refine qa ?_ _)); refine qp ?_ NB102_107.out _; (with_reducible repeat (first | refine qb ?_ _ | refine qc ?_ | refine qa ?_ _)); exact BK102.out⟩, ⟨by (with_reducible repeat (first | refine qb ?_ _ | refine qc ?_ | refine qa ?_ _)); refine qt (cs := #[u108000, u108001, .int .i64 (wrap64 (a1_1 + t103)), .int .i64 (wrap64 (a1_2 + t105)), .int .i64 x108004_5]) ?_ 0 _ rfl; (with_reducible repeat (first | refine qb ?_ _ | refine qc ?_ | refine qa ?_ _)); exact BK107.out⟩, ⟨by repeat (first | (with_reducible first | exact HI0.out | apply IsS123.alloc | apply IsS123.drewN | apply IsS123.drew | apply IsS123.set_1 | apply (fun h_ => IsS123.far h_ NB0_101.out _) | apply (fun h_ => IsS123.far h_ NB0_102.out _) | apply (fun h_ => IsS123.far h_ NB0_107.out _) | apply (fun h_ => IsS123.far h_ NB0_126.out _)) | exact HI0.out)⟩, ⟨by repeat (first | (with_reducible first | exact HK.out | apply KeepBut.set_ | apply ql | apply qo | apply qm | refine qj ?_ GW101.out _ | refine qj ?_ GW102.out _ | refine qj ?_ GW107.out _ | refine qj ?_ GW126.out _) | exact HK.out)⟩, ⟨by repeat (first | (with_reducible first | exact HB.out | apply qh | apply qg | apply qi | refine qe ?_ (IsS123.ge HI0.out) | refine qe ?_ GE101.out | refine qe ?_ GE102.out | refine qe ?_ GE107.out | refine qe ?_ GE126.out) | exact HB.out)⟩⟩
           ·rw [if_neg c91] at H
            exact absurd H (by simp)
         ·rw [if_neg c50] at H
          have c50b0 : decide (0 < x6_4) = false := decide_eq_false c50
          clear c50
          replace H := Option.bind_eq_some_iff.mp H
          obtain ⟨⟨t138, t139⟩, A1060, H⟩ := H
          replace H : (if t138 = true then ((spec_l1Rd_off.f k4 s0_0 t139 1 9).bind fun bt140 => (if x108001_36.length < 17592186044416 then (some (x108000_4, (x108001_36 ++ [bt140.1]), (wrap64 (a1_1 + t103)), (wrap64 (a1_2 + t105)), x108004_5, bt140.2)) else (none))) else (some (x108000_4, x108001_36, (wrap64 (a1_1 + t103)), (wrap64 (a1_2 + t105)), x108004_5, t139))) = some (r1, r2, r3, r4, r5, r6) := H
          have A106 := Qz.mk A1060
          clear A1060
          by_cases c107 : t138 = true
          ·subst c107
           have H1 : ((spec_l1Rd_off.f k4 s0_0 t139 1 9).bind fun bt140 => (if x108001_36.length < 17592186044416 then (some (x108000_4, (x108001_36 ++ [bt140.1]), (wrap64 (a1_1 + t103)), (wrap64 (a1_2 + t105)), x108004_5, bt140.2)) else (none))) = some (r1, r2, r3, r4, r5, r6) := by rw [if_pos rfl] at H; exact H
           clear H
           have H := H1
           clear H1
           replace H := Option.bind_eq_some_iff.mp H
           obtain ⟨⟨t140, t141⟩, A1080, H⟩ := H
           replace H : (if x108001_36.length < 17592186044416 then (some (x108000_4, (x108001_36 ++ [t140]), (wrap64 (a1_1 + t103)), (wrap64 (a1_2 + t105)), x108004_5, t141)) else (none)) = some (r1, r2, r3, r4, r5, r6) := H
           have A108 := Qz.mk A1080
           clear A1080
           by_cases c109 : x108001_36.length < 17592186044416
           ·rw [if_pos c109] at H
            have LMc109 := Qz.mk c109
            clear c109
            obtain ⟨y142, hy142⟩ : ∃ y_ : List Int, y_ = (x108001_36 ++ [t140]) := ⟨_, rfl⟩
            replace H : (some (x108000_4, y142, (wrap64 (a1_1 + t103)), (wrap64 (a1_2 + t105)), x108004_5, t141)) = some (r1, r2, r3, r4, r5, r6) := by first | (rw [hy142]; with_reducible exact H) | (have H2_ := (Option.bind_some _ _).symm.trans H; rw [hy142]; with_reducible exact H2_) | (have H2_ := (Option.bind_some _ _).symm.trans H; with_reducible exact H2_) | with_reducible exact H | (rw [hy142]; exact H) | exact H
            have Ny142 := Qz.mk hy142
            clear hy142
            simp only [Option.some.injEq, Prod.mk.injEq] at H
            obtain ⟨rfl, rfl, rfl, rfl, rfl, rfl⟩ := H
            try go_wp2_with (first | ((with_reducible refine qu (f := 73) rfl ?_); refine goesL_ (some 78) rfl rfl Try.func73 (by kernel_rfl) rfl #[.pointer (some ⟨g, 0, none⟩), .int .i64 20] rfl yq42 ?_; (with_reducible refine (spec_l1Rd_once.calls g s0_0 x1001_4 20 true t139 w0 _ ?side1 ?side2 A106.out).mono ?_); (case side1 => exact yq24); (case side2 => exact yq26); rintro e w110 ⟨rfl, hi, hb, hk⟩; refine ⟨_, rfl, ?_⟩; replace HO_108000 := Qz.mk (Kd.R_mono (Kd.R_keep (IsS123.apart (show IsS123 w0 _ g s0_0 x1001_4 from by repeat (first | (with_reducible first | exact HI0.out | apply IsS123.alloc | apply IsS123.drewN | apply IsS123.drew | apply IsS123.set_1 | apply (fun h_ => IsS123.far h_ NB0_101.out _) | apply (fun h_ => IsS123.far h_ NB0_102.out _) | apply (fun h_ => IsS123.far h_ NB0_107.out _)) | exact HI0.out)) yq39 (by decide)) hk (fun _ h => h.2)) (fun _ h => h.1)); replace HO_108001 := Qz.mk (Kd.R_mono (Kd.R_keep (IsS123.apart (show IsS123 w0 _ g s0_0 x1001_4 from by repeat (first | (with_reducible first | exact HI0.out | apply IsS123.alloc | apply IsS123.drewN | apply IsS123.drew | apply IsS123.set_1 | apply (fun h_ => IsS123.far h_ NB0_101.out _) | apply (fun h_ => IsS123.far h_ NB0_102.out _) | apply (fun h_ => IsS123.far h_ NB0_107.out _)) | exact HI0.out)) yq37 (by decide)) hk (fun _ h => h.2)) (fun _ h => h.1)); replace BK101 := Qz.mk (KeepBut.blk hk (g' := gb101) (o := .cells #[.slice A1_0 l1_0.length c1_0, .int .i64 a1_1, .int .i64 a1_2, .int .i64 a1_3] 32 (0, 0)) yq27 NB101_0.out (by simp)); replace BK102 := Qz.mk (KeepBut.blk hk (g' := gb102) (o := .cells #[.slice none 0 0, .slice none 0 0, .int .i64 0, .int .i64 0, .int .i64 0] 37 (0, 0)) yq28 NB102_0.out (by simp)); replace BK107 := Qz.mk (KeepBut.blk hk (g' := gb107) (o := .cells #[u108000, u108001, .int .i64 (wrap64 (a1_1 + t103)), .int .i64 (wrap64 (a1_2 + t105)), .int .i64 x108004_5] 37 (0, 0)) yq30 NB107_0.out (by simp)); replace HK := Qz.mk (KeepBut.trans yq25 hk (.inl rfl)); replace HB := Qz.mk (hb); replace HI0 := Qz.mk (hi); (try clear hb); (try clear hk); (try clear hi)))
            replace HO_108000 := Qz.mk (Kd.R_drew HO_108000.out)
            replace HO_108001 := Qz.mk (Kd.R_drew HO_108001.out)
            replace BK101 := Qz.mk (qc BK101.out)
            replace BK102 := Qz.mk (qc BK102.out)
            replace BK107 := Qz.mk (qc BK107.out)
            replace HI0 := Qz.mk (IsS123.drew HI0.out)
            replace HK := Qz.mk (qo HK.out)
            replace HB := Qz.mk (qi HB.out)
            refine start_ (n := 8) (S := fun w' => w'.cell? ⟨gb107, 0, none⟩ = some (u108000) ∧ w'.cell? ⟨gb107, 1, none⟩ = some (u108001) ∧ w'.cell? ⟨gb107, 2, none⟩ = some (.int .i64 (wrap64 (a1_1 + t103))) ∧ w'.cell? ⟨gb107, 3, none⟩ = some (.int .i64 (wrap64 (a1_2 + t105))) ∧ w'.cell? ⟨gb107, 4, none⟩ = some (.int .i64 x108004_5)) (ds := [7]) bq2 (by kernel_rfl) rfl rfl ⟨(qd BK107.out 0).trans rfl, (qd BK107.out 1).trans rfl, (qd BK107.out 2).trans rfl, (qd BK107.out 3).trans rfl, (qd BK107.out 4).trans rfl⟩ (fun hHeld => ?_); refine with_tabW spec_l1Rd_edit.tab14 spec_l1Rd_edit.bits14 (fun HT_ HW_ => ?_)
            generalize w110.drew = w111 at HO_108000 HO_108001 BK101 BK102 BK107 HI0 HK HB hHeld ⊢
            refine pure_ (i := 0) (N := some 79) (v := ?_) (a' := ?_) bq9 rfl rfl (qf1 HT_.out (by kernel_rfl)) (fun _ _ _ h => h) (Or.inl ⟨by rfl, ?_⟩) ?_ ?_
            rotate_left
            ·intro w'
             go_simp
             with_reducible rfl
            rotate_left
            ·simp only [Act.put, sq1, sq2, sq3, i64_w, i32_w]
             rfl
            refine pure_ (i := 2) (N := some 81) (v := ?_) (a' := ?_) bq10 rfl rfl (qf1 HT_.out (by kernel_rfl)) (fun _ _ _ h => h) (Or.inl ⟨by rfl, ?_⟩) ?_ ?_
            rotate_left
            ·intro w'
             go_simp
             with_reducible rfl
            rotate_left
            ·simp only [Act.put, sq1, sq2, sq3, i64_w, i32_w]
             rfl
            refine take_ (i := 1) (N := some 80) (v := ?_) (a' := ?_) bq14 rfl rfl (take_ofW HT_.out HW_.out (by kernel_rfl)) (fun _ _ _ h => h) (Or.inl ⟨by rfl, ?_⟩) hHeld ?_ ?_
            rotate_left
            ·rintro w' ⟨s0, s1, s2, s3, s4⟩
             go_simp
             with_reducible rfl
            rotate_left
            ·simp only [Act.put, sq1, sq2, sq3, i64_w, i32_w]
             rfl
            refine one_ (i := 3) (N := some 82) bq18 rfl rfl (one_of HT_.out (by kernel_rfl)) (by decide) (fun K hK => ?_)
            refine goes_ Try.func72 (by kernel_rfl) rfl #[.pointer (some ⟨g, 0, none⟩), .int .i64 1, .int .i64 9] (by rfl) rfl rfl yq42 ?_
            with_reducible refine (spec_l1Rd_off.calls k4 g s0_0 t139 1 9 t140 t141 w0 _ ?side1 ?side2 A108.out).mono ?_
            (case side1 => exact yq24)
            (case side2 => exact yq26)
            rintro e w112 ⟨rfl, hi, hb, hk⟩
            refine ⟨_, rfl, ?_⟩
            replace HO_108000 := Qz.mk (Kd.R_mono (Kd.R_keep (IsS123.apart (show IsS123 w0 _ g s0_0 t139 from by repeat (first | (with_reducible first | exact HI0.out | apply IsS123.alloc | apply IsS123.drewN | apply IsS123.drew | apply IsS123.set_1 | apply (fun h_ => IsS123.far h_ NB0_101.out _) | apply (fun h_ => IsS123.far h_ NB0_102.out _) | apply (fun h_ => IsS123.far h_ NB0_107.out _)) | exact HI0.out)) yq39 (by decide)) hk (fun _ h => h.2)) (fun _ h => h.1))
            replace HO_108001 := Qz.mk (Kd.R_mono (Kd.R_keep (IsS123.apart (show IsS123 w0 _ g s0_0 t139 from by repeat (first | (with_reducible first | exact HI0.out | apply IsS123.alloc | apply IsS123.drewN | apply IsS123.drew | apply IsS123.set_1 | apply (fun h_ => IsS123.far h_ NB0_101.out _) | apply (fun h_ => IsS123.far h_ NB0_102.out _) | apply (fun h_ => IsS123.far h_ NB0_107.out _)) | exact HI0.out)) yq37 (by decide)) hk (fun _ h => h.2)) (fun _ h => h.1))
            replace BK101 := Qz.mk (KeepBut.blk hk (g' := gb101) (o := .cells #[.slice A1_0 l1_0.length c1_0, .int .i64 a1_1, .int .i64 a1_2, .int .i64 a1_3] 32 (0, 0)) yq27 NB101_0.out (by simp))
            replace BK102 := Qz.mk (KeepBut.blk hk (g' := gb102) (o := .cells #[.slice none 0 0, .slice none 0 0, .int .i64 0, .int .i64 0, .int .i64 0] 37 (0, 0)) yq28 NB102_0.out (by simp))
            replace BK107 := Qz.mk (KeepBut.blk hk (g' := gb107) (o := .cells #[u108000, u108001, .int .i64 (wrap64 (a1_1 + t103)), .int .i64 (wrap64 (a1_2 + t105)), .int .i64 x108004_5] 37 (0, 0)) yq30 NB107_0.out (by simp))
            replace HK := Qz.mk (KeepBut.trans yq25 hk (.inl rfl))
            replace HB := Qz.mk (hb)
            replace HI0 := Qz.mk (hi)
            (try clear hb)
            (try clear hk)
            (try clear hi)
            refine hK.out _ _ ⟨(qd BK107.out 0).trans rfl, (qd BK107.out 1).trans rfl, (qd BK107.out 2).trans rfl, (qd BK107.out 3).trans rfl, (qd BK107.out 4).trans rfl⟩ (fun hHeld => ?_)
            clear hK K
            refine norm_ (a' := ?_) ?_ ?_
            rotate_left
            ·show Act.put _ (some 82) _ = _
             simp only [Act.put, sq1, sq2, sq3, i64_w, i32_w]
             rfl
            refine one_ (i := 4) (N := some 83) bq23 rfl rfl (one_of HT_.out (by kernel_rfl)) (by decide) (fun K hK => ?_)
            refine value_ (w1 := ?_) (v := ?_) (by rfl) rfl ?_ ?_
            rotate_left 2
            ·go_simp
             constructor
             ·rfl
             ·rfl
            refine hK.out _ _ ⟨(qd (qa BK107.out _) 0).trans rfl, (qd (qa BK107.out _) 1).trans rfl, (qd (qa BK107.out _) 2).trans rfl, (qd (qa BK107.out _) 3).trans rfl, (qd (qa BK107.out _) 4).trans rfl⟩ (fun hHeld => ?_)
            clear hK K
            refine norm_ (a' := ?_) ?_ ?_
            rotate_left
            ·show Act.put _ (some 83) _ = _
             simp only [Act.put, sq1, sq2, sq3, i64_w, i32_w]
             rfl
            refine one_ (i := 5) (N := some 84) bq28 rfl rfl (one_of HT_.out (by kernel_rfl)) (by decide) (fun K hK => ?_)
            refine Kd.R_append_step (Kd.int .i64) w.heap.size (by rfl) (.tmp 80) (.tmp 83) 25 2 (.int .i64 0) 8 rfl Try.underlying25 info2 rfl (by decide) (by omega) u108001 x108001_36 t140 [.int .i64 t140] (fun _ => True) (fun _ => False) rfl rfl ?aP (fun _ hk => hk.elim) ?aF ?aO (Below.refl _ _) ?aS ?aL ?_
            (case aP => exact rfl)
            (case aF => exact (fun _ _ => trivial))
            (case aO => exact yq37)
            (case aS => exact (qc1 (w := w) (g := g) (row := none) yq25))
            (case aL => have := LMc109.out; omega)
            intro v143 w113 ho hb hg hat
            rw [← Ny142.out] at ho
            have n0_ := Qz.mk (Kd.R_over' yq39 (Kd.R_typed yq37) (by decide) hg)
            have n1_ := Qz.mk (blk_grown (g := gb101) (o := .cells #[.slice A1_0 l1_0.length c1_0, .int .i64 a1_1, .int .i64 a1_2, .int .i64 a1_3] 32 (0, 0)) yq27 hg (Kd.R_ne HO_108001.out BK101.out (by decide)))
            have n2_ := Qz.mk (blk_grown (g := gb102) (o := .cells #[.slice none 0 0, .slice none 0 0, .int .i64 0, .int .i64 0, .int .i64 0] 37 (0, 0)) yq28 hg (Kd.R_ne HO_108001.out BK102.out (by decide)))
            have n3_ := Qz.mk (blk_grown (g := gb107) (o := .cells #[u108000, u108001, .int .i64 (wrap64 (a1_1 + t103)), .int .i64 (wrap64 (a1_2 + t105)), .int .i64 x108004_5] 37 (0, 0)) yq30 hg (Kd.R_ne HO_108001.out BK107.out (by decide)))
            have n4_ := Qz.mk (IsS123.grown yq24 hg (IsS123.own_ne HI0.out HO_108001.out (by decide)))
            have n5_ := Qz.mk (below_weaken yq26 HL.out hb)
            have n6_ := Qz.mk (KeepBut.trans yq25 (KeepBut.of_grown hg g) (Kd.R_base2 HO_108001.out))
            have n7_ := Qz.mk (ho)
            clear HO_108000
            clear BK101
            clear BK102
            clear BK107
            clear HI0
            clear HB
            clear HK
            clear HO_108001
            have HO_108000 := n0_
            have BK101 := n1_
            have BK102 := n2_
            have BK107 := n3_
            have HI0 := n4_
            have HB := n5_
            have HK := n6_
            have HO144 := n7_
            clear n0_ n1_ n2_ n3_ n4_ n5_ n6_ n7_
            clear ho hb hg hat
            obtain ⟨Ao114, co114, eo114⟩ := Kd.R_slice HO144.out
            (first | subst eo114 | (injection eo114 with f1_ f2_ f3_; have f4_ := f1_.symm; have f5_ := f3_.symm; clear f1_ f2_ f3_; subst f4_; subst f5_))
            refine hK.out _ _ ⟨(qd BK107.out 0).trans rfl, (qd BK107.out 1).trans rfl, (qd BK107.out 2).trans rfl, (qd BK107.out 3).trans rfl, (qd BK107.out 4).trans rfl⟩ (fun hHeld => ?_)
            clear hK K
            refine norm_ (a' := ?_) ?_ ?_
            rotate_left
            ·show Act.put _ (some 84) _ = _
             simp only [Act.put, sq1, sq2, sq3, i64_w, i32_w]
             rfl
            refine pure_ (i := 6) (N := some 85) (v := ?_) (a' := ?_) bq33 rfl rfl (qf1 HT_.out (by kernel_rfl)) (fun _ _ _ h => h) (Or.inl ⟨by rfl, ?_⟩) ?_ ?_
            rotate_left
            ·intro w'
             go_simp
             with_reducible rfl
            rotate_left
            ·simp only [Act.put, sq1, sq2, sq3, i64_w, i32_w]
             rfl
            refine last_ (i := 7) (N := none) bq48 rfl rfl (one_of HT_.out (by kernel_rfl)) (by decide) (fun K hK => ?_)
            have hs115 : w113.cell? ⟨gb107, 1, none⟩ = some (u108001) := (qd BK107.out 1).trans rfl
            have hfs115 := qf BK107.out 1
            have hns115_0 := NB101_107.out
            have hns115_1 := NB102_107.out
            have hms115_0 := NB107_101.out
            have hms115_1 := NB107_102.out
            refine skip_ (w1 := ?_) (by rfl) rfl ?_ ?_
            rotate_left
            ·go_simp
             rfl
            refine hK.out _ _ ?_
            clear hK K
            refine done_ (done_of HT_.out (by kernel_rfl)) ?_
            have hnb116 := NB107_101.out
            have hnc116 := NB101_107.out
            have hnb117 := NB107_102.out
            have hnc117 := NB102_107.out
            have hnb118 := NB107_0.out
            have hnc118 := NB0_107.out
            have hcz119_0 := (qd BK107.out 0).trans rfl
            have hcz119_1 := (qd BK107.out 1).trans rfl
            have hcz119_2 : w113.cell? ⟨gb107, 2, none⟩ = some (.int .i64 (wrap64 (a1_1 + t103))) := (qd BK107.out 2).trans rfl
            have hcz119_3 : w113.cell? ⟨gb107, 3, none⟩ = some (.int .i64 (wrap64 (a1_2 + t105))) := (qd BK107.out 3).trans rfl
            have hcz119_4 := (qd BK107.out 4).trans rfl
            have hfz119_0 := qf BK107.out 0
            have hfz119_1 := qf BK107.out 1
            have hfz119_2 := qf BK107.out 2
            have hfz119_3 := qf BK107.out 3
            have hfz119_4 := qf BK107.out 4
            obtain ⟨Ao120, co120, eo120⟩ := Kd.R_slice HO_108000.out
            subst eo120
            have hnb121 := NB102_101.out
            have hnc121 := NB101_102.out
            have hnb122 := NB102_0.out
            have hnc122 := NB0_102.out
            have hcz123_0 := (qd BK102.out 0).trans rfl
            have hcz123_1 := (qd BK102.out 1).trans rfl
            have hcz123_2 := (qd BK102.out 2).trans rfl
            have hcz123_3 := (qd BK102.out 3).trans rfl
            have hcz123_4 := (qd BK102.out 4).trans rfl
            have hfz123_0 := qf BK102.out 0
            have hfz123_1 := qf BK102.out 1
            have hfz123_2 := qf BK102.out 2
            have hfz123_3 := qf BK102.out 3
            have hfz123_4 := qf BK102.out 4
            try go_wp2
            refine bodyPost_ret (results_cell_row rfl _ _ gb102 37 #[.slice Ao120 x108000_4.length co120, .slice Ao114 y142.length co114, .int .i64 (wrap64 (a1_1 + t103)), .int .i64 (wrap64 (a1_2 + t105)), .int .i64 x108004_5] (0, 0) _ rfl (by (with_reducible repeat (first | refine qb ?_ _ | refine qc ?_ | refine qa ?_ _)); refine qt (cs := #[.slice Ao120 x108000_4.length co120, .slice Ao114 y142.length co114, .int .i64 (wrap64 (a1_1 + t103)), .int .i64 (wrap64 (a1_2 + t105)), .int .i64 0]) ?_ 4 _ rfl; (with_reducible repeat (first | refine qb ?_ _ | refine qc ?_ | refine qa ?_ _)); refine qt (cs := #[.slice Ao120 x108000_4.length co120, .slice Ao114 y142.length co114, .int .i64 (wrap64 (a1_1 + t103)), .int .i64 0, .int .i64 0]) ?_ 3 _ rfl; (with_reducible repeat (first | refine qb ?_ _ | refine qc ?_ | refine qa ?_ _)); refine qt (cs := #[.slice Ao120 x108000_4.length co120, .slice Ao114 y142.length co114, .int .i64 0, .int .i64 0, .int .i64 0]) ?_ 2 _ rfl; (with_reducible repeat (first | refine qb ?_ _ | refine qc ?_ | refine qa ?_ _)); refine qt (cs := #[.slice Ao120 x108000_4.length co120, .slice none 0 0, .int .i64 0, .int .i64 0, .int .i64 0]) ?_ 1 _ rfl; (with_reducible repeat (first | refine qb ?_ _ | refine qc ?_ | refine qa ?_ _)); refine qt (cs := #[.slice none 0 0, .slice none 0 0, .int .i64 0, .int .i64 0, .int .i64 0]) ?_ 0 _ rfl; (with_reducible repeat (first | refine qb ?_ _ | refine qc ?_ | refine qa ?_ _)); refine qp ?_ NB102_107.out _; (with_reducible repeat (first | refine qb ?_ _ | refine qc ?_ | refine qa ?_ _)); exact BK102.out) Try.underlying37 rfl (by kernel_rfl)) rfl ?_
            exact ⟨_, _, by first | rfl | (simp [qy, qx] <;> rfl) | (simp [*, qy, qx] <;> rfl), by (with_reducible repeat (first | apply Kd.R_alloc | apply Kd.R_drewN | apply Kd.R_drew)); exact Kd.R_mono (Kd.R_far (p := ⟨gb102, 4, none⟩) (Kd.R_far (p := ⟨gb102, 3, none⟩) (Kd.R_far (p := ⟨gb102, 2, none⟩) (Kd.R_far (p := ⟨gb102, 1, none⟩) (Kd.R_far (p := ⟨gb102, 0, none⟩) (Kd.R_far (p := ⟨gb107, 1, none⟩) (Kd.R_types (Kd.R_types HO_108000.out BK107.out (by decide)) BK102.out (by decide)) (fun _ hk => hk.1.2) (.slice Ao114 y142.length co114)) (fun _ hk => hk.2) (.slice Ao120 x108000_4.length co120)) (fun _ hk => hk.2) (.slice Ao114 y142.length co114)) (fun _ hk => hk.2) (.int .i64 (wrap64 (a1_1 + t103)))) (fun _ hk => hk.2) (.int .i64 (wrap64 (a1_2 + t105)))) (fun _ hk => hk.2) (.int .i64 x108004_5)) (fun _ hk => trivial), by (with_reducible repeat (first | apply Kd.R_alloc | apply Kd.R_drewN | apply Kd.R_drew)); exact Kd.R_mono (Kd.R_far (p := ⟨gb102, 4, none⟩) (Kd.R_far (p := ⟨gb102, 3, none⟩) (Kd.R_far (p := ⟨gb102, 2, none⟩) (Kd.R_far (p := ⟨gb102, 1, none⟩) (Kd.R_far (p := ⟨gb102, 0, none⟩) (Kd.R_far (p := ⟨gb107, 1, none⟩) (Kd.R_types (Kd.R_types HO144.out BK107.out (by decide)) BK102.out (by decide)) (fun _ hk => hk.1.2) (.slice Ao114 y142.length co114)) (fun _ hk => hk.2) (.slice Ao120 x108000_4.length co120)) (fun _ hk => hk.2) (.slice Ao114 y142.length co114)) (fun _ hk => hk.2) (.int .i64 (wrap64 (a1_1 + t103)))) (fun _ hk => hk.2) (.int .i64 (wrap64 (a1_2 + t105)))) (fun _ hk => hk.2) (.int .i64 x108004_5)) (fun _ hk => trivial), by repeat (first | (with_reducible first | exact HI0.out | apply IsS123.alloc | apply IsS123.drewN | apply IsS123.drew | apply IsS123.set_1 | apply (fun h_ => IsS123.far h_ NB0_101.out _) | apply (fun h_ => IsS123.far h_ NB0_102.out _) | apply (fun h_ => IsS123.far h_ NB0_107.out _)) | exact HI0.out), by repeat (first | (with_reducible first | exact HB.out | apply qh | apply qg | apply qi | refine qe ?_ (IsS123.ge HI0.out) | refine qe ?_ GE101.out | refine qe ?_ GE102.out | refine qe ?_ GE107.out) | exact HB.out), by repeat (first | (with_reducible first | exact HK.out | apply KeepBut.set_ | apply ql | apply qo | apply qm | refine qj ?_ GW101.out _ | refine qj ?_ GW102.out _ | refine qj ?_ GW107.out _) | exact HK.out)⟩
           ·rw [if_neg c109] at H
            exact absurd H (by simp)
          ·replace c107 := Bool.eq_false_iff.mpr c107
           subst c107
           have H1 : (some (x108000_4, x108001_36, (wrap64 (a1_1 + t103)), (wrap64 (a1_2 + t105)), x108004_5, t139)) = some (r1, r2, r3, r4, r5, r6) := by rw [if_neg (show ¬ (false = true) by decide)] at H; exact H
           clear H
           have H := H1
           clear H1
           simp only [Option.some.injEq, Prod.mk.injEq] at H
           obtain ⟨rfl, rfl, rfl, rfl, rfl, rfl⟩ := H
           go_wp2_with (first | ((with_reducible refine qu (f := 73) rfl ?_); refine goesL_ (some 78) rfl rfl Try.func73 (by kernel_rfl) rfl #[.pointer (some ⟨g, 0, none⟩), .int .i64 20] rfl yq42 ?_; (with_reducible refine (spec_l1Rd_once.calls g s0_0 x1001_4 20 false t139 w0 _ ?side1 ?side2 A106.out).mono ?_); (case side1 => exact yq24); (case side2 => exact yq26); rintro e w124 ⟨rfl, hi, hb, hk⟩; refine ⟨_, rfl, ?_⟩; replace HO_108000 := Qz.mk (Kd.R_mono (Kd.R_keep (IsS123.apart (show IsS123 w0 _ g s0_0 x1001_4 from by repeat (first | (with_reducible first | exact HI0.out | apply IsS123.alloc | apply IsS123.drewN | apply IsS123.drew | apply IsS123.set_1 | apply (fun h_ => IsS123.far h_ NB0_101.out _) | apply (fun h_ => IsS123.far h_ NB0_102.out _) | apply (fun h_ => IsS123.far h_ NB0_107.out _)) | exact HI0.out)) yq39 (by decide)) hk (fun _ h => h.2)) (fun _ h => h.1)); replace HO_108001 := Qz.mk (Kd.R_mono (Kd.R_keep (IsS123.apart (show IsS123 w0 _ g s0_0 x1001_4 from by repeat (first | (with_reducible first | exact HI0.out | apply IsS123.alloc | apply IsS123.drewN | apply IsS123.drew | apply IsS123.set_1 | apply (fun h_ => IsS123.far h_ NB0_101.out _) | apply (fun h_ => IsS123.far h_ NB0_102.out _) | apply (fun h_ => IsS123.far h_ NB0_107.out _)) | exact HI0.out)) yq37 (by decide)) hk (fun _ h => h.2)) (fun _ h => h.1)); replace BK101 := Qz.mk (KeepBut.blk hk (g' := gb101) (o := .cells #[.slice A1_0 l1_0.length c1_0, .int .i64 a1_1, .int .i64 a1_2, .int .i64 a1_3] 32 (0, 0)) yq27 NB101_0.out (by simp)); replace BK102 := Qz.mk (KeepBut.blk hk (g' := gb102) (o := .cells #[.slice none 0 0, .slice none 0 0, .int .i64 0, .int .i64 0, .int .i64 0] 37 (0, 0)) yq28 NB102_0.out (by simp)); replace BK107 := Qz.mk (KeepBut.blk hk (g' := gb107) (o := .cells #[u108000, u108001, .int .i64 (wrap64 (a1_1 + t103)), .int .i64 (wrap64 (a1_2 + t105)), .int .i64 x108004_5] 37 (0, 0)) yq30 NB107_0.out (by simp)); replace HK := Qz.mk (KeepBut.trans yq25 hk (.inl rfl)); replace HB := Qz.mk (hb); replace HI0 := Qz.mk (hi); (try clear hb); (try clear hk); (try clear hi); have hnb125 := NB107_101.out; have hnc125 := NB101_107.out; have hnb126 := NB107_102.out; have hnc126 := NB102_107.out; have hnb127 := NB107_0.out; have hnc127 := NB0_107.out; have hcz128_0 := (qd BK107.out 0).trans rfl; have hcz128_1 := (qd BK107.out 1).trans rfl; have hcz128_2 : w124.cell? ⟨gb107, 2, none⟩ = some (.int .i64 (wrap64 (a1_1 + t103))) := (qd BK107.out 2).trans rfl; have hcz128_3 : w124.cell? ⟨gb107, 3, none⟩ = some (.int .i64 (wrap64 (a1_2 + t105))) := (qd BK107.out 3).trans rfl; have hcz128_4 := (qd BK107.out 4).trans rfl; have hfz128_0 := qf BK107.out 0; have hfz128_1 := qf BK107.out 1; have hfz128_2 := qf BK107.out 2; have hfz128_3 := qf BK107.out 3; have hfz128_4 := qf BK107.out 4; obtain ⟨Ao129, co129, eo129⟩ := Kd.R_slice HO_108000.out; subst eo129; have hnb130 := NB102_101.out; have hnc130 := NB101_102.out; have hnb131 := NB102_0.out; have hnc131 := NB0_102.out; have hcz132_0 := (qd BK102.out 0).trans rfl; have hcz132_1 := (qd BK102.out 1).trans rfl; have hcz132_2 := (qd BK102.out 2).trans rfl; have hcz132_3 := (qd BK102.out 3).trans rfl; have hcz132_4 := (qd BK102.out 4).trans rfl; have hfz132_0 := qf BK102.out 0; have hfz132_1 := qf BK102.out 1; have hfz132_2 := qf BK102.out 2; have hfz132_3 := qf BK102.out 3; have hfz132_4 := qf BK102.out 4; obtain ⟨Ao133, co133, eo133⟩ := Kd.R_slice HO_108001.out; subst eo133))
           refine bodyPost_ret (results_cell_row rfl _ _ gb102 37 #[.slice Ao129 x108000_4.length co129, .slice Ao133 x108001_36.length co133, .int .i64 (wrap64 (a1_1 + t103)), .int .i64 (wrap64 (a1_2 + t105)), .int .i64 x108004_5] (0, 0) _ rfl (by (with_reducible repeat (first | refine qb ?_ _ | refine qc ?_ | refine qa ?_ _)); refine qt (cs := #[.slice Ao129 x108000_4.length co129, .slice Ao133 x108001_36.length co133, .int .i64 (wrap64 (a1_1 + t103)), .int .i64 (wrap64 (a1_2 + t105)), .int .i64 0]) ?_ 4 _ rfl; (with_reducible repeat (first | refine qb ?_ _ | refine qc ?_ | refine qa ?_ _)); refine qt (cs := #[.slice Ao129 x108000_4.length co129, .slice Ao133 x108001_36.length co133, .int .i64 (wrap64 (a1_1 + t103)), .int .i64 0, .int .i64 0]) ?_ 3 _ rfl; (with_reducible repeat (first | refine qb ?_ _ | refine qc ?_ | refine qa ?_ _)); refine qt (cs := #[.slice Ao129 x108000_4.length co129, .slice Ao133 x108001_36.length co133, .int .i64 0, .int .i64 0, .int .i64 0]) ?_ 2 _ rfl; (with_reducible repeat (first | refine qb ?_ _ | refine qc ?_ | refine qa ?_ _)); refine qt (cs := #[.slice Ao129 x108000_4.length co129, .slice none 0 0, .int .i64 0, .int .i64 0, .int .i64 0]) ?_ 1 _ rfl; (with_reducible repeat (first | refine qb ?_ _ | refine qc ?_ | refine qa ?_ _)); refine qt (cs := #[.slice none 0 0, .slice none 0 0, .int .i64 0, .int .i64 0, .int .i64 0]) ?_ 0 _ rfl; (with_reducible repeat (first | refine qb ?_ _ | refine qc ?_ | refine qa ?_ _)); exact BK102.out) Try.underlying37 rfl (by kernel_rfl)) rfl ?_
           exact ⟨_, _, by first | rfl | (simp [qy, qx] <;> rfl) | (simp [*, qy, qx] <;> rfl), by (with_reducible repeat (first | apply Kd.R_alloc | apply Kd.R_drewN | apply Kd.R_drew)); exact Kd.R_mono (Kd.R_far (p := ⟨gb102, 4, none⟩) (Kd.R_far (p := ⟨gb102, 3, none⟩) (Kd.R_far (p := ⟨gb102, 2, none⟩) (Kd.R_far (p := ⟨gb102, 1, none⟩) (Kd.R_far (p := ⟨gb102, 0, none⟩) (Kd.R_types HO_108000.out BK102.out (by decide)) (fun _ hk => hk.2) (.slice Ao129 x108000_4.length co129)) (fun _ hk => hk.2) (.slice Ao133 x108001_36.length co133)) (fun _ hk => hk.2) (.int .i64 (wrap64 (a1_1 + t103)))) (fun _ hk => hk.2) (.int .i64 (wrap64 (a1_2 + t105)))) (fun _ hk => hk.2) (.int .i64 x108004_5)) (fun _ hk => trivial), by (with_reducible repeat (first | apply Kd.R_alloc | apply Kd.R_drewN | apply Kd.R_drew)); exact Kd.R_mono (Kd.R_far (p := ⟨gb102, 4, none⟩) (Kd.R_far (p := ⟨gb102, 3, none⟩) (Kd.R_far (p := ⟨gb102, 2, none⟩) (Kd.R_far (p := ⟨gb102, 1, none⟩) (Kd.R_far (p := ⟨gb102, 0, none⟩) (Kd.R_types HO_108001.out BK102.out (by decide)) (fun _ hk => hk.2) (.slice Ao129 x108000_4.length co129)) (fun _ hk => hk.2) (.slice Ao133 x108001_36.length co133)) (fun _ hk => hk.2) (.int .i64 (wrap64 (a1_1 + t103)))) (fun _ hk => hk.2) (.int .i64 (wrap64 (a1_2 + t105)))) (fun _ hk => hk.2) (.int .i64 x108004_5)) (fun _ hk => trivial), by repeat (first | (with_reducible first | exact HI0.out | apply IsS123.alloc | apply IsS123.drewN | apply IsS123.drew | apply IsS123.set_1 | apply (fun h_ => IsS123.far h_ NB0_101.out _) | apply (fun h_ => IsS123.far h_ NB0_102.out _) | apply (fun h_ => IsS123.far h_ NB0_107.out _)) | exact HI0.out), by repeat (first | (with_reducible first | exact HB.out | apply qh | apply qg | apply qi | refine qe ?_ (IsS123.ge HI0.out) | refine qe ?_ GE101.out | refine qe ?_ GE102.out | refine qe ?_ GE107.out) | exact HB.out), by repeat (first | (with_reducible first | exact HK.out | apply KeepBut.set_ | apply ql | apply qo | apply qm | refine qj ?_ GW101.out _ | refine qj ?_ GW102.out _ | refine qj ?_ GW107.out _) | exact HK.out)⟩
end Go.Proofs.Ytcgejabkjljeeaa.P
end
