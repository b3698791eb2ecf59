/- Proved: the law FnExactCrash of the given program returns true for every input of its Go types and leaves each argument as it was; no condition. (Part 6 of 12.) -/
import Derived.Test.YtidjdkodgddfcaaCFnExactCrash4
import Derived.Lib.SliceRun
import Derived.Lib.Walk
section
namespace Go.Proofs.Ytidjdkodgddfcaa.P
open Go.RowKit Go.Proofs.YtidjdkodgddfcaaW.PrintWords Go.Proofs.YtidjdkodgddfcaaW.PrintLast Go.Proofs.YtidjdkodgddfcaaW.PrintMore
attribute [local go_sem] str_gtr str_leq str_geq qb1 qz max_two min_two qv qu qa1 qy
set_option linter.unusedVariables false
set_option linter.unusedSimpArgs false
theorem R_empty {α : Type} (d : Kd α) (e : Nat) (w : World) (base : Nat) (hb : base ≤ w.heap.size) : d.R e (w.alloc (.cells #[] e)) base (fun _ => True) (.slice (some ⟨w.heap.size, 0, none⟩) ([] : List α).length 0) [] :=
 ⟨fun _ _ => trivial, [], World.ownsRow_made w #[] 0 hb (Nat.zero_le _) (by simp), Reps.none _ _⟩
set_option maxHeartbeats 4000000 in
set_option maxRecDepth 100000 in
theorem clone_File (A0 : Option Addr) (c0 : Nat) (l : List S170) (w0 w : World) (hB : Below w0.heap.size w0 w) (hr : Kd.C k170 w A0 l.length l) (hl : l.length * 32 ≤ 140737488355328) :
  Calls Try.prog 179 #[.slice A0 l.length c0] w fun e w' => ∃ v, e = .returned v ∧ Kd.R k170 170 w' w0.heap.size (fun _ => True) v l ∧ Below w0.heap.size w0 w' := by
 have q : ∀ (w : World) (a : Option Addr) (n c n' c' : Nat), (binOp .eql 82 (.slice a n c) (.slice none n' c')).run Try.prog w = .ok (.bool a.isNone) w := fun w a n c n' c' => Lib.run_eql_slice_nil w _ _ a n c n' c' Try.underlying82
 have HR := Qz.mk hr
 have HB := Qz.mk hB
 have hsz := hB.size
 cases A0 with
 | none =>
  have h0 : l = [] := by
   by_cases h0 : l.length = 0
   ·exact List.length_eq_zero_iff.1 h0
   ·obtain ⟨ad, e, _⟩ := hr.2.2 (by omega)
    cases e
  clear hr hB
  go_enter Try.func179, Try.ntmps179
  go_wp2
  go_ret
  refine ⟨_, rfl, ?_, HB.out⟩
  rw [h0]
  exact Kd.R_nil _ _ _ _ _
 | some ad =>
  clear hr hB
  have HX := Qz.mk hl
  clear hl
  go_enter Try.func179, Try.ntmps179
  go_wp2_with (first | ((with_reducible refine gate_builtin (b := .append) (xs := #[.tmp 5, .tmp 6]) rfl ?_); at_builtin; refine Kd.R_append_rows k170 (w0 := w0) w0.heap.size rfl (.tmp 5) (.tmp 6) 82 170 (.agg #[.string ⟨#[]⟩, .string ⟨#[]⟩]) 32 rfl Try.underlying82 info170 rfl (by decide) (by omega) (.slice (some ⟨w.heap.size, 0, none⟩) ([] : List S170).length 0) [] l (some ad) l.length c0 (fun _ => True) (fun _ => False) rfl rfl ?aO ?aR (fun _ _ h => h) (fun _ h => h.elim) ?aF ?aB ?aS ?aL ?_; (case aO => exact R_empty k170 170 w _ hsz); (case aR => exact Kd.C_below HR.out ((Below.refl _ w).alloc (Nat.le_refl _) _)); (case aF => exact fun _ _ => trivial); (case aB => exact HB.out.alloc hsz _); (case aS => exact (HB.out.alloc hsz _).size); (case aL => have := HX.out; simp only [List.length_nil, Nat.zero_add]; exact this); intro v1 w1 ho hb hg hat))
  go_ret
  exact ⟨_, rfl, ho, hb⟩
end Go.Proofs.Ytidjdkodgddfcaa.P
end
