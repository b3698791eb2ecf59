-- Laid by a program of this session out of SharedWith.tpl.
import Derived.Test.YtedgdnkbojjbmaaPx0
import Derived.Test.YtedgdnkbojjbmaaPf14
import Derived.Test.YtedgdnkbojjbmaaPf15
import Derived.Test.YtedgdnkbojjbmaaPf3
import Derived.Test.YtedgdnkbojjbmaaK
namespace Go.Proofs.Ytedgdnkbojjbmaa.Pure
open Go.RowKit Go.Proofs.YtedgdnkbojjbmaaW.PrintWords Go.Proofs.YtedgdnkbojjbmaaW.PrintLast Go.Proofs.YtedgdnkbojjbmaaW.PrintMore
open Go.Proofs.Ytedgdnkbojjbmaa.P
set_option linter.unusedVariables false
set_option linter.unusedSimpArgs false

theorem shared_eq (k : Nat) (a b : ByteArray) (x : Int) : impl_SharedWith.l0 k a b x = spec_SharedWith.l0 k a b x := by
  induction k generalizing x with
  | zero => rfl
  | succ k ih => simp only [impl_SharedWith.l0, spec_SharedWith.l0, ih]
theorem shared_ends (a b : ByteArray) (ha : a.size ≤ 2097152) : ∃ r, Ev (fun k => spec_SharedWith.l0 k a b 0) r := by
  have key : ∀ i, i ≤ a.size → ∃ r, Ev (fun k => spec_SharedWith.l0 k a b (i : Int)) r := by
    refine downTo a.size ⟨_, Ev.step (fun k => rfl) (Ev.neg (by omega) (Ev.now _))⟩ ?_
    rintro i hi ⟨r, ih⟩
    by_cases h1 : (i : Int) < (b.size : Int)
    · by_cases h2 : bt a i = bt b i
      · exact ⟨r, Ev.step (fun k => rfl) (Ev.pos (by omega) (Ev.pos h1 (Ev.pos (by omega) (Ev.pos h2 (by rw [wsucc (by omega)]; exact ih)))))⟩
      · exact ⟨_, Ev.step (fun k => rfl) (Ev.pos (by omega) (Ev.pos h1 (Ev.pos (by omega) (Ev.neg h2 (Ev.now _)))))⟩
    · exact ⟨_, Ev.step (fun k => rfl) (Ev.pos (by omega) (Ev.neg h1 (Ev.now _)))⟩
  exact key 0 (Nat.zero_le _)
theorem FnExactSharedWith : laws_FnExactSharedWith.Pure := by
  intro a b _ _
  refine Ev.rounds (g := fun k => laws_FnExactSharedWith.f k a b) ?_
  unfold laws_FnExactSharedWith.f
  by_cases h1 : (a.size : Int) > 1048576
  · exact Ev.pos h1 (Ev.now _)
  · by_cases h2 : (b.size : Int) > 1048576
    · exact Ev.neg h1 (Ev.pos h2 (Ev.now _))
    · obtain ⟨r, hr⟩ := shared_ends a b (by omega)
      refine Ev.neg h1 (Ev.neg h2 (Ev.bind (a := r) hr (Ev.bind (a := r) ?_ (Ev.pos rfl (Ev.now _)))))
      exact Ev.congr (fun k => shared_eq k a b 0) hr
end Go.Proofs.Ytedgdnkbojjbmaa.Pure
