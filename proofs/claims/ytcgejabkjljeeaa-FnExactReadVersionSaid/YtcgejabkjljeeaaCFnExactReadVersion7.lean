/- Proved: the law FnExactReadVersion of the given program returns true for every input of its Go types and leaves each argument as it was; no condition. (Part 8 of 12.) -/
import Derived.Test.YtcgejabkjljeeaaCFnExactReadVersion3
import Derived.Test.YtcgejabkjljeeaaCFnExactReadVersion5
import Derived.Test.YtcgejabkjljeeaaCFnExactReadVersion6
import Derived.Maps.OwnOps
section
namespace Go.Proofs.Ytcgejabkjljeeaa.P
open Go.RowKit Go.Proofs.YtcgejabkjljeeaaW.PrintWords Go.Proofs.YtcgejabkjljeeaaW.PrintLast Go.Proofs.YtcgejabkjljeeaaW.PrintMore
attribute [local go_sem] str_gtr str_leq str_geq max2_int min2_int max_two min_two qw qv max_four min_four
set_option linter.unusedVariables false
set_option linter.unusedSimpArgs false
def cI (a b : Int) : Int := if a < b then -1 else if b < a then 1 else 0
def cS (a b : ByteArray) : Int := if tless a b = true then -1 else if tless b a = true then 1 else 0
def mcmp (p m : S66) : Int := if p.f1 = m.f1 ∧ p.f1 = 0 then cI m.f0 p.f0 else (([cI p.f1 m.f1, cS p.f2 m.f2] : List Int).find? fun x => x != 0).getD 0
theorem cmpMetas_ev (p m : S66) : Ev (fun k => impl_cmpMetas.f k p.f0 p.f1 p.f2 p.f3 p.f4 m.f0 m.f1 m.f2 m.f3 m.f4) (mcmp p m) := by
  unfold impl_cmpMetas.f mcmp
  have jt : ∀ b : Bool, Ev (fun k => impl_cmpMetas.j0 k b p.f0 p.f1 p.f2 p.f3 p.f4 m.f0 m.f1 m.f2 m.f3 m.f4) (if b = true then cI m.f0 p.f0 else (([cI p.f1 m.f1, cS p.f2 m.f2] : List Int).find? fun x => x != 0).getD 0) := by
    intro b
    refine Ev.step (fun k => impl_cmpMetas.j0.eq_2 ..) ?_
    cases b with
    | true => exact Ev.pos rfl (Ev.bindS (compareI_ev _ _) (Ev.now _))
    | false => exact Ev.neg (by simp) (Ev.bindS (compareI_ev _ _) (Ev.bindS (compareS_ev _ _) (Ev.bind (orInt_ev 2 _ rfl (by omega)) (Ev.now _))))
  by_cases c : p.f1 = m.f1
  · refine Ev.pos c ((jt _).eqr ?_)
    by_cases c2 : p.f1 = 0
    · rw [if_pos (by rw [c2]; rfl), if_pos ⟨c, c2⟩]
    · rw [if_neg (by simpa using c2), if_neg (fun h => c2 h.2)]
  · exact Ev.neg c ((jt false).eqr (by rw [if_neg (by simp), if_neg (fun h => c h.1)]))
def okM (next : Int) (m : S66) : Prop := (1 ≤ m.f0 ∧ m.f0 ≤ next - 1) ∧ (0 ≤ m.f1 ∧ m.f1 ≤ 3) ∧ isU m.f2 ∧ isU m.f3 ∧ tless m.f3 m.f2 = false ∧ 1 ≤ m.f4 ∧ m.f4 ≤ 400
def aheadM (p m : S66) : Prop := mcmp p m < 0 ∧ ¬ (m.f1 > 0 ∧ p.f1 = m.f1 ∧ tless p.f3 m.f2 = false)
def okAt (l : List S66) (next : Int) (i : Nat) : Prop := okM next (l.getD i z66) ∧ (¬ (l.getD i z66).f0 ∈ (l.take i).map (fun m => m.f0)) ∧ (0 < i → aheadM (l.getD (i - 1) z66) (l.getD i z66))
def vOk (l : List S66) (next seq log : Int) : Prop := l.length ≤ 30 ∧ (1 ≤ next ∧ next ≤ 1000000) ∧ (0 ≤ seq ∧ seq ≤ 1000000000000) ∧ (0 ≤ log ∧ log ≤ next - 1) ∧ ∀ i, i < l.length → okAt l next i
instance (next : Int) (m : S66) : Decidable (okM next m) := by unfold okM; infer_instance
instance (p m : S66) : Decidable (aheadM p m) := by unfold aheadM; infer_instance
instance (l : List S66) (next : Int) (i : Nat) : Decidable (okAt l next i) := by unfold okAt; infer_instance
instance (l : List S66) (next seq log : Int) : Decidable (vOk l next seq log) := by unfold vOk; infer_instance
def impl_VersionOk.f (l0_0 : List S66) (a0_1 a0_2 a0_3 : Int) : Option (Bool) := some (decide (vOk l0_0 a0_1 a0_2 a0_3))
theorem cell_grown {w w' : World} {b : Nat} {p : Addr} {v : Value} (hg : w.grownBy w' (some b)) (hc : w.cell? p = some v) (hne : p.block ≠ b) : w'.cell? p = some v := by
  have := hg.block p.block (World.block_lt_of_cell? w _ hc) (fun e => hne (by injection e))
  rw [← hc]
  simp only [World.cell?, this]
theorem zeroBool (w : World) : (zeroValue 4).run Try.prog w = .ok (.bool false) w := by kernel_rfl
set_option maxHeartbeats 8000000 in
set_option maxRecDepth 100000 in
theorem impl_VersionOk.calls (A0_0 : Option Addr) (c0_0 : Nat) (l : List (S66)) (next seq log : Int) (r : Bool) (w : World) (hr0 : Kd.C k66 w A0_0 l.length l) (hc0 : l.length ≤ c0_0) (h : impl_VersionOk.f l next seq log = some r) :
    Calls Try.prog 27 #[.agg #[.slice A0_0 l.length c0_0, .int .i64 next, .int .i64 seq, .int .i64 log]] w fun e w' => e = .returned (.bool r) ∧ Below w.heap.size w w' := by
  obtain rfl := Option.some.inj h
  clear h hc0
  have HR := Qz.mk hr0
  have hlm := Kd.C_max hr0
  clear hr0
  have hu0 := Try.underlying32
  have hmm := @run_makeMap Try.prog
  have hv0 : (w.alloc (.cells #[.slice A0_0 l.length c0_0, .int .i64 next, .int .i64 seq, .int .i64 log] 32)).cell? ⟨w.heap.size, 0, none⟩ = some (.slice A0_0 l.length c0_0) := by simp
  have hv1 : (w.alloc (.cells #[.slice A0_0 l.length c0_0, .int .i64 next, .int .i64 seq, .int .i64 log] 32)).cell? ⟨w.heap.size, 1, none⟩ = some (.int .i64 next) := by simp
  have hv2 : (w.alloc (.cells #[.slice A0_0 l.length c0_0, .int .i64 next, .int .i64 seq, .int .i64 log] 32)).cell? ⟨w.heap.size, 2, none⟩ = some (.int .i64 seq) := by simp
  have hv3 : (w.alloc (.cells #[.slice A0_0 l.length c0_0, .int .i64 next, .int .i64 seq, .int .i64 log] 32)).cell? ⟨w.heap.size, 3, none⟩ = some (.int .i64 log) := by simp
  have HB := Qz.mk ((Below.refl _ w).alloc (Nat.le_refl _) (.cells #[.slice A0_0 l.length c0_0, .int .i64 next, .int .i64 seq, .int .i64 log] 32))
  by_cases e0 : l.length ≤ 30
  case neg =>
    have hR : decide (vOk l next seq log) = false := decide_eq_false fun h => e0 h.1
    have d0 : decide ((l.length : Int) > 30) = true := decide_eq_true (by omega)
    go_enter Try.func27, Try.ntmps27
    go_wp2
    go_ret
    exact ⟨by rw [hR]; rfl, HB.out⟩
  have d0 : decide ((l.length : Int) > 30) = false := decide_eq_false (by omega)
  have e00 := e0
  by_cases e1 : 1 ≤ next ∧ next ≤ 1000000
  case neg =>
    have hR : decide (vOk l next seq log) = false := decide_eq_false fun h => e1 h.2.1
    have d1 : decide (1 ≤ next ∧ next ≤ 1000000) = false := decide_eq_false e1
    clear e0
    go_enter Try.func27, Try.ntmps27
    go_wp2_with (first | (go_at_call 65; (with_reducible refine (impl_within.calls _ _ _ _ _ (within_ev _ _ _)).mono ?_); rintro e w1 ⟨rfl, hb⟩; (try replace hb := hb.below); replace hv0 := (hb.cell (World.block_lt_of_cell? _ _ hv0)).trans hv0; replace hv1 := (hb.cell (World.block_lt_of_cell? _ _ hv1)).trans hv1; replace hv2 := (hb.cell (World.block_lt_of_cell? _ _ hv2)).trans hv2; replace hv3 := (hb.cell (World.block_lt_of_cell? _ _ hv3)).trans hv3; have n_ := Qz.mk (qp HB.out hb); clear HB; have HB := n_; clear n_;  clear hb))
    go_ret
    exact ⟨by rw [hR]; rfl, HB.out⟩
  have d1 : decide (1 ≤ next ∧ next ≤ 1000000) = true := decide_eq_true e1
  by_cases e2 : 0 ≤ seq ∧ seq ≤ 1000000000000
  case neg =>
    have hR : decide (vOk l next seq log) = false := decide_eq_false fun h => e2 h.2.2.1
    have d2 : decide (0 ≤ seq ∧ seq ≤ 1000000000000) = false := decide_eq_false e2
    clear e0
    go_enter Try.func27, Try.ntmps27
    go_wp2_with (first | (go_at_call 65; (with_reducible refine (impl_within.calls _ _ _ _ _ (within_ev _ _ _)).mono ?_); rintro e w1 ⟨rfl, hb⟩; (try replace hb := hb.below); replace hv0 := (hb.cell (World.block_lt_of_cell? _ _ hv0)).trans hv0; replace hv1 := (hb.cell (World.block_lt_of_cell? _ _ hv1)).trans hv1; replace hv2 := (hb.cell (World.block_lt_of_cell? _ _ hv2)).trans hv2; replace hv3 := (hb.cell (World.block_lt_of_cell? _ _ hv3)).trans hv3; have n_ := Qz.mk (qp HB.out hb); clear HB; have HB := n_; clear n_;  clear hb))
    go_ret
    exact ⟨by rw [hR]; rfl, HB.out⟩
  have d2 : decide (0 ≤ seq ∧ seq ≤ 1000000000000) = true := decide_eq_true e2
  by_cases e3 : 0 ≤ log ∧ log ≤ next - 1
  case neg =>
    have hR : decide (vOk l next seq log) = false := decide_eq_false fun h => e3 h.2.2.2.1
    have d3 : decide (0 ≤ log ∧ log ≤ next - 1) = false := decide_eq_false e3
    clear e0
    go_enter Try.func27, Try.ntmps27
    go_wp2_with (first | (go_at_call 65; (with_reducible refine (impl_within.calls _ _ _ _ _ (within_ev _ _ _)).mono ?_); rintro e w1 ⟨rfl, hb⟩; (try replace hb := hb.below); replace hv0 := (hb.cell (World.block_lt_of_cell? _ _ hv0)).trans hv0; replace hv1 := (hb.cell (World.block_lt_of_cell? _ _ hv1)).trans hv1; replace hv2 := (hb.cell (World.block_lt_of_cell? _ _ hv2)).trans hv2; replace hv3 := (hb.cell (World.block_lt_of_cell? _ _ hv3)).trans hv3; have n_ := Qz.mk (qp HB.out hb); clear HB; have HB := n_; clear n_;  clear hb))
    go_ret
    exact ⟨by rw [hR]; rfl, HB.out⟩
  have d3 : decide (0 ≤ log ∧ log ≤ next - 1) = true := decide_eq_true e3
  clear e0
  have hva0 := fun o => (((Below.refl _ _).alloc (Nat.le_refl _) o).cell (World.block_lt_of_cell? _ _ hv0)).trans hv0
  have hva1 := fun o => (((Below.refl _ _).alloc (Nat.le_refl _) o).cell (World.block_lt_of_cell? _ _ hv1)).trans hv1
  have hva2 := fun o => (((Below.refl _ _).alloc (Nat.le_refl _) o).cell (World.block_lt_of_cell? _ _ hv2)).trans hv2
  have hva3 := fun o => (((Below.refl _ _).alloc (Nat.le_refl _) o).cell (World.block_lt_of_cell? _ _ hv3)).trans hv3
  go_enter Try.func27, Try.ntmps27
  go_wp2_with (first | (go_at_call 65; (with_reducible refine (impl_within.calls _ _ _ _ _ (within_ev _ _ _)).mono ?_); rintro e w1 ⟨rfl, hb⟩; (try replace hb := hb.below); replace hv0 := (hb.cell (World.block_lt_of_cell? _ _ hv0)).trans hv0; replace hv1 := (hb.cell (World.block_lt_of_cell? _ _ hv1)).trans hv1; replace hv2 := (hb.cell (World.block_lt_of_cell? _ _ hv2)).trans hv2; replace hv3 := (hb.cell (World.block_lt_of_cell? _ _ hv3)).trans hv3; have n_ := Qz.mk (qp HB.out hb); clear HB; have HB := n_; clear n_; replace hva0 := fun o => (((Below.refl _ _).alloc (Nat.le_refl _) o).cell (World.block_lt_of_cell? _ _ hv0)).trans hv0; replace hva1 := fun o => (((Below.refl _ _).alloc (Nat.le_refl _) o).cell (World.block_lt_of_cell? _ _ hv1)).trans hv1; replace hva2 := fun o => (((Below.refl _ _).alloc (Nat.le_refl _) o).cell (World.block_lt_of_cell? _ _ hv2)).trans hv2; replace hva3 := fun o => (((Below.refl _ _).alloc (Nat.le_refl _) o).cell (World.block_lt_of_cell? _ _ hv3)).trans hv3; clear hb))
  have hmb := World.block_lt_of_cell? _ _ hv0
  have hmb : w.heap.size < w1.heap.size := hmb
  go_loopg [36] l.length (fun gk s36 wr => ∃ i : Nat, s36 = .int .i64 i ∧ i ≤ l.length ∧ l.length - i ≤ gk ∧ Qz (Below w.heap.size w wr) ∧ Qz (Met wr w1.heap.size ((l.take i).map fun m => m.f0)) ∧ Qz (∀ j, j < i → okAt l next j) ∧ wr.cell? ⟨w.heap.size, 0, none⟩ = some (.slice A0_0 l.length c0_0) ∧ wr.cell? ⟨w.heap.size, 1, none⟩ = some (.int .i64 next) ∧ wr.cell? ⟨w.heap.size, 2, none⟩ = some (.int .i64 seq) ∧ wr.cell? ⟨w.heap.size, 3, none⟩ = some (.int .i64 log))
  case atStart => exact ⟨0, rfl, Nat.zero_le _, by omega, ⟨HB.out.alloc HB.out.size _⟩, ⟨met_made w1⟩, ⟨fun j hj => absurd hj (Nat.not_lt_zero _)⟩, hva0 _, hva1 _, hva2 _, hva3 _⟩
  case round =>
    clear HB hva0 hva1 hva2 hva3 hv0 hv1 hv2 hv3
    obtain ⟨i, rfl, hin, hg, HBr, HMr, HOK, hv0, hv1, hv2, hv3⟩ := hrel
    by_cases hlt : i < l.length
    case neg =>
      obtain rfl : i = l.length := by omega
      have hd : decide ((l.length : Int) < (l.length : Int)) = false := decide_eq_false (by omega)
      have hR : decide (vOk l next seq log) = true := decide_eq_true ⟨e00, e1, e2, e3, HOK.out⟩
      go_wp2
      go_ret
      exact ⟨by first | rfl | (rw [hR]; rfl) | (simp [hR]; rfl), HBr.out⟩
    have hd : decide ((i : Int) < (l.length : Int)) = true := decide_eq_true (by omega)
    obtain ⟨ad, e, h0, h1, h2, h3, h4⟩ := at_T66 HR.out (i : Int) (by omega) (by omega)
    cases e
    rw [Int.toNat_natCast] at h0 h1 h2 h3 h4
    have hX : qk l (i : Int) = l.getD i z66 := by unfold qk; rw [Int.toNat_natCast]
    rw [hX] at h0 h1 h2 h3 h4
    have HOA : Qz (∀ j, okAt l next j → okAt l next j) := ⟨fun _ h => h⟩
    have hno : ¬ okAt l next i → decide (vOk l next seq log) = false := fun hn => decide_eq_false fun h => hn (h.2.2.2.2 i hlt)
    have hK : Qz (okAt l next i ↔ okM next (l.getD i z66) ∧ (¬ (l.getD i z66).f0 ∈ (l.take i).map (fun m => m.f0)) ∧ (0 < i → aheadM (l.getD (i - 1) z66) (l.getD i z66))) := ⟨Iff.rfl⟩
    have hT : Qz (((l.take (i + 1)).map fun m => m.f0) = ((l.take i).map fun m => m.f0) ++ [(l.getD i z66).f0]) := ⟨by rw [List.take_add_one, List.getElem?_eq_getElem hlt, List.map_append, List.getD_eq_getElem?_getD, List.getElem?_eq_getElem hlt]; rfl⟩
    clear hX
    generalize l.getD i z66 = x at h0 h1 h2 h3 h4 hK hT
    generalize ((l.take i).map fun m => m.f0) = K at HMr hK hT
    replace h0 := (HBr.out.cell (World.block_lt_of_cell? _ _ h0)).trans h0
    replace h1 := (HBr.out.cell (World.block_lt_of_cell? _ _ h1)).trans h1
    replace h2 := (HBr.out.cell (World.block_lt_of_cell? _ _ h2)).trans h2
    replace h3 := (HBr.out.cell (World.block_lt_of_cell? _ _ h3)).trans h3
    replace h4 := (HBr.out.cell (World.block_lt_of_cell? _ _ h4)).trans h4
    have HB := Qz.mk (HBr.out.alloc HBr.out.size (.cells #[.int .i64 x.f0, .int .i64 x.f1, .string x.f2, .string x.f3, .int .i64 x.f4] 66))
    have HM := Qz.mk (HMr.out.below ((Below.refl _ wr).alloc (Nat.le_refl _) (.cells #[.int .i64 x.f0, .int .i64 x.f1, .string x.f2, .string x.f3, .int .i64 x.f4] 66)))
    have hwr : w.heap.size < wr.heap.size := World.block_lt_of_cell? _ _ hv0
    have hmbr : w1.heap.size < wr.heap.size := HMr.out.lt
    replace hv0 := (((Below.refl _ wr).alloc (Nat.le_refl _) (.cells #[.int .i64 x.f0, .int .i64 x.f1, .string x.f2, .string x.f3, .int .i64 x.f4] 66)).cell (World.block_lt_of_cell? _ _ hv0)).trans hv0
    replace hv1 := (((Below.refl _ wr).alloc (Nat.le_refl _) (.cells #[.int .i64 x.f0, .int .i64 x.f1, .string x.f2, .string x.f3, .int .i64 x.f4] 66)).cell (World.block_lt_of_cell? _ _ hv1)).trans hv1
    replace hv2 := (((Below.refl _ wr).alloc (Nat.le_refl _) (.cells #[.int .i64 x.f0, .int .i64 x.f1, .string x.f2, .string x.f3, .int .i64 x.f4] 66)).cell (World.block_lt_of_cell? _ _ hv2)).trans hv2
    replace hv3 := (((Below.refl _ wr).alloc (Nat.le_refl _) (.cells #[.int .i64 x.f0, .int .i64 x.f1, .string x.f2, .string x.f3, .int .i64 x.f4] 66)).cell (World.block_lt_of_cell? _ _ hv3)).trans hv3
    have hx0 : (wr.alloc (.cells #[.int .i64 x.f0, .int .i64 x.f1, .string x.f2, .string x.f3, .int .i64 x.f4] 66)).cell? ⟨wr.heap.size, 0, none⟩ = some (.int .i64 x.f0) := by simp
    have hx1 : (wr.alloc (.cells #[.int .i64 x.f0, .int .i64 x.f1, .string x.f2, .string x.f3, .int .i64 x.f4] 66)).cell? ⟨wr.heap.size, 1, none⟩ = some (.int .i64 x.f1) := by simp
    have hx2 : (wr.alloc (.cells #[.int .i64 x.f0, .int .i64 x.f1, .string x.f2, .string x.f3, .int .i64 x.f4] 66)).cell? ⟨wr.heap.size, 2, none⟩ = some (.string x.f2) := by simp
    have hx3 : (wr.alloc (.cells #[.int .i64 x.f0, .int .i64 x.f1, .string x.f2, .string x.f3, .int .i64 x.f4] 66)).cell? ⟨wr.heap.size, 3, none⟩ = some (.string x.f3) := by simp
    have hx4 : (wr.alloc (.cells #[.int .i64 x.f0, .int .i64 x.f1, .string x.f2, .string x.f3, .int .i64 x.f4] 66)).cell? ⟨wr.heap.size, 4, none⟩ = some (.int .i64 x.f4) := by simp
    clear HBr HMr
    by_cases c1 : 1 ≤ x.f0 ∧ x.f0 ≤ next - 1
    case neg =>
      have hR := hno fun h => (by have h := hK.out.1 h; exact c1 h.1.1)
      have b1 : decide (1 ≤ x.f0 ∧ x.f0 ≤ next - 1) = false := decide_eq_false c1
      go_wp2_with (first | (go_at_call 65; (with_reducible refine (impl_within.calls _ _ _ _ _ (within_ev _ _ _)).mono ?_); rintro e w9 ⟨rfl, hb⟩; (try replace hb := hb.below); replace hv0 := (hb.cell (World.block_lt_of_cell? _ _ hv0)).trans hv0; replace hv1 := (hb.cell (World.block_lt_of_cell? _ _ hv1)).trans hv1; replace hv2 := (hb.cell (World.block_lt_of_cell? _ _ hv2)).trans hv2; replace hv3 := (hb.cell (World.block_lt_of_cell? _ _ hv3)).trans hv3; replace hx0 := (hb.cell (World.block_lt_of_cell? _ _ hx0)).trans hx0; replace hx1 := (hb.cell (World.block_lt_of_cell? _ _ hx1)).trans hx1; replace hx2 := (hb.cell (World.block_lt_of_cell? _ _ hx2)).trans hx2; replace hx3 := (hb.cell (World.block_lt_of_cell? _ _ hx3)).trans hx3; replace hx4 := (hb.cell (World.block_lt_of_cell? _ _ hx4)).trans hx4; have n_ := Qz.mk (qp HB.out hb); clear HB; have HB := n_; clear n_; have m_ := Qz.mk (HM.out.below hb); clear HM; have HM := m_; clear m_; clear hb) | (go_at_call 66; (with_reducible refine (impl_isUser.calls _ _ _ (isUser_ev _)).mono ?_); rintro e w9 ⟨rfl, hb⟩; (try replace hb := hb.below); replace hv0 := (hb.cell (World.block_lt_of_cell? _ _ hv0)).trans hv0; replace hv1 := (hb.cell (World.block_lt_of_cell? _ _ hv1)).trans hv1; replace hv2 := (hb.cell (World.block_lt_of_cell? _ _ hv2)).trans hv2; replace hv3 := (hb.cell (World.block_lt_of_cell? _ _ hv3)).trans hv3; replace hx0 := (hb.cell (World.block_lt_of_cell? _ _ hx0)).trans hx0; replace hx1 := (hb.cell (World.block_lt_of_cell? _ _ hx1)).trans hx1; replace hx2 := (hb.cell (World.block_lt_of_cell? _ _ hx2)).trans hx2; replace hx3 := (hb.cell (World.block_lt_of_cell? _ _ hx3)).trans hx3; replace hx4 := (hb.cell (World.block_lt_of_cell? _ _ hx4)).trans hx4; have n_ := Qz.mk (qp HB.out hb); clear HB; have HB := n_; clear n_; have m_ := Qz.mk (HM.out.below hb); clear HM; have HM := m_; clear m_; clear hb))
      go_ret
      exact ⟨by rw [hR]; rfl, HB.out⟩
    have b1 : decide (1 ≤ x.f0 ∧ x.f0 ≤ next - 1) = true := decide_eq_true c1
    have hwf : (Lit.int .i64 x.f0).wf = true := by simp [Lit.wf, IntKind.min, IntKind.max, IntKind.signed, IntKind.bits]; omega
    have hlk := met_look HM.out Try.underlying85 Try.underlying2 (zeroBool _) x.f0 hwf
    by_cases c2 : x.f0 ∈ K
    case pos =>
      have hR := hno fun h => (by have h := hK.out.1 h; exact h.2.1 c2)
      have b2 : decide (x.f0 ∈ K) = true := decide_eq_true c2
      go_wp2_with (first | (go_at_call 65; (with_reducible refine (impl_within.calls _ _ _ _ _ (within_ev _ _ _)).mono ?_); rintro e w9 ⟨rfl, hb⟩; (try replace hb := hb.below); replace hv0 := (hb.cell (World.block_lt_of_cell? _ _ hv0)).trans hv0; replace hv1 := (hb.cell (World.block_lt_of_cell? _ _ hv1)).trans hv1; replace hv2 := (hb.cell (World.block_lt_of_cell? _ _ hv2)).trans hv2; replace hv3 := (hb.cell (World.block_lt_of_cell? _ _ hv3)).trans hv3; replace hx0 := (hb.cell (World.block_lt_of_cell? _ _ hx0)).trans hx0; replace hx1 := (hb.cell (World.block_lt_of_cell? _ _ hx1)).trans hx1; replace hx2 := (hb.cell (World.block_lt_of_cell? _ _ hx2)).trans hx2; replace hx3 := (hb.cell (World.block_lt_of_cell? _ _ hx3)).trans hx3; replace hx4 := (hb.cell (World.block_lt_of_cell? _ _ hx4)).trans hx4; have n_ := Qz.mk (qp HB.out hb); clear HB; have HB := n_; clear n_; have m_ := Qz.mk (HM.out.below hb); clear HM; have HM := m_; clear m_; replace hlk := met_look HM.out Try.underlying85 Try.underlying2 (zeroBool _) x.f0 hwf; clear hb) | (go_at_call 66; (with_reducible refine (impl_isUser.calls _ _ _ (isUser_ev _)).mono ?_); rintro e w9 ⟨rfl, hb⟩; (try replace hb := hb.below); replace hv0 := (hb.cell (World.block_lt_of_cell? _ _ hv0)).trans hv0; replace hv1 := (hb.cell (World.block_lt_of_cell? _ _ hv1)).trans hv1; replace hv2 := (hb.cell (World.block_lt_of_cell? _ _ hv2)).trans hv2; replace hv3 := (hb.cell (World.block_lt_of_cell? _ _ hv3)).trans hv3; replace hx0 := (hb.cell (World.block_lt_of_cell? _ _ hx0)).trans hx0; replace hx1 := (hb.cell (World.block_lt_of_cell? _ _ hx1)).trans hx1; replace hx2 := (hb.cell (World.block_lt_of_cell? _ _ hx2)).trans hx2; replace hx3 := (hb.cell (World.block_lt_of_cell? _ _ hx3)).trans hx3; replace hx4 := (hb.cell (World.block_lt_of_cell? _ _ hx4)).trans hx4; have n_ := Qz.mk (qp HB.out hb); clear HB; have HB := n_; clear n_; have m_ := Qz.mk (HM.out.below hb); clear HM; have HM := m_; clear m_; replace hlk := met_look HM.out Try.underlying85 Try.underlying2 (zeroBool _) x.f0 hwf; clear hb))
      go_ret
      exact ⟨by rw [hR]; rfl, HB.out⟩
    have b2 : decide (x.f0 ∈ K) = false := decide_eq_false c2
    by_cases c3 : 0 ≤ x.f1 ∧ x.f1 ≤ 3
    case neg =>
      have hR := hno fun h => (by have h := hK.out.1 h; exact c3 h.1.2.1)
      have b3 : decide (0 ≤ x.f1 ∧ x.f1 ≤ 3) = false := decide_eq_false c3
      go_wp2_with (first | (go_at_call 65; (with_reducible refine (impl_within.calls _ _ _ _ _ (within_ev _ _ _)).mono ?_); rintro e w9 ⟨rfl, hb⟩; (try replace hb := hb.below); replace hv0 := (hb.cell (World.block_lt_of_cell? _ _ hv0)).trans hv0; replace hv1 := (hb.cell (World.block_lt_of_cell? _ _ hv1)).trans hv1; replace hv2 := (hb.cell (World.block_lt_of_cell? _ _ hv2)).trans hv2; replace hv3 := (hb.cell (World.block_lt_of_cell? _ _ hv3)).trans hv3; replace hx0 := (hb.cell (World.block_lt_of_cell? _ _ hx0)).trans hx0; replace hx1 := (hb.cell (World.block_lt_of_cell? _ _ hx1)).trans hx1; replace hx2 := (hb.cell (World.block_lt_of_cell? _ _ hx2)).trans hx2; replace hx3 := (hb.cell (World.block_lt_of_cell? _ _ hx3)).trans hx3; replace hx4 := (hb.cell (World.block_lt_of_cell? _ _ hx4)).trans hx4; have n_ := Qz.mk (qp HB.out hb); clear HB; have HB := n_; clear n_; have m_ := Qz.mk (HM.out.below hb); clear HM; have HM := m_; clear m_; replace hlk := met_look HM.out Try.underlying85 Try.underlying2 (zeroBool _) x.f0 hwf; clear hb) | (go_at_call 66; (with_reducible refine (impl_isUser.calls _ _ _ (isUser_ev _)).mono ?_); rintro e w9 ⟨rfl, hb⟩; (try replace hb := hb.below); replace hv0 := (hb.cell (World.block_lt_of_cell? _ _ hv0)).trans hv0; replace hv1 := (hb.cell (World.block_lt_of_cell? _ _ hv1)).trans hv1; replace hv2 := (hb.cell (World.block_lt_of_cell? _ _ hv2)).trans hv2; replace hv3 := (hb.cell (World.block_lt_of_cell? _ _ hv3)).trans hv3; replace hx0 := (hb.cell (World.block_lt_of_cell? _ _ hx0)).trans hx0; replace hx1 := (hb.cell (World.block_lt_of_cell? _ _ hx1)).trans hx1; replace hx2 := (hb.cell (World.block_lt_of_cell? _ _ hx2)).trans hx2; replace hx3 := (hb.cell (World.block_lt_of_cell? _ _ hx3)).trans hx3; replace hx4 := (hb.cell (World.block_lt_of_cell? _ _ hx4)).trans hx4; have n_ := Qz.mk (qp HB.out hb); clear HB; have HB := n_; clear n_; have m_ := Qz.mk (HM.out.below hb); clear HM; have HM := m_; clear m_; replace hlk := met_look HM.out Try.underlying85 Try.underlying2 (zeroBool _) x.f0 hwf; clear hb))
      go_ret
      exact ⟨by rw [hR]; rfl, HB.out⟩
    have b3 : decide (0 ≤ x.f1 ∧ x.f1 ≤ 3) = true := decide_eq_true c3
    by_cases c4 : isU x.f2
    case neg =>
      have hR := hno fun h => (by have h := hK.out.1 h; exact c4 h.1.2.2.1)
      have b4 : decide (isU x.f2) = false := decide_eq_false c4
      go_wp2_with (first | (go_at_call 65; (with_reducible refine (impl_within.calls _ _ _ _ _ (within_ev _ _ _)).mono ?_); rintro e w9 ⟨rfl, hb⟩; (try replace hb := hb.below); replace hv0 := (hb.cell (World.block_lt_of_cell? _ _ hv0)).trans hv0; replace hv1 := (hb.cell (World.block_lt_of_cell? _ _ hv1)).trans hv1; replace hv2 := (hb.cell (World.block_lt_of_cell? _ _ hv2)).trans hv2; replace hv3 := (hb.cell (World.block_lt_of_cell? _ _ hv3)).trans hv3; replace hx0 := (hb.cell (World.block_lt_of_cell? _ _ hx0)).trans hx0; replace hx1 := (hb.cell (World.block_lt_of_cell? _ _ hx1)).trans hx1; replace hx2 := (hb.cell (World.block_lt_of_cell? _ _ hx2)).trans hx2; replace hx3 := (hb.cell (World.block_lt_of_cell? _ _ hx3)).trans hx3; replace hx4 := (hb.cell (World.block_lt_of_cell? _ _ hx4)).trans hx4; have n_ := Qz.mk (qp HB.out hb); clear HB; have HB := n_; clear n_; have m_ := Qz.mk (HM.out.below hb); clear HM; have HM := m_; clear m_; replace hlk := met_look HM.out Try.underlying85 Try.underlying2 (zeroBool _) x.f0 hwf; clear hb) | (go_at_call 66; (with_reducible refine (impl_isUser.calls _ _ _ (isUser_ev _)).mono ?_); rintro e w9 ⟨rfl, hb⟩; (try replace hb := hb.below); replace hv0 := (hb.cell (World.block_lt_of_cell? _ _ hv0)).trans hv0; replace hv1 := (hb.cell (World.block_lt_of_cell? _ _ hv1)).trans hv1; replace hv2 := (hb.cell (World.block_lt_of_cell? _ _ hv2)).trans hv2; replace hv3 := (hb.cell (World.block_lt_of_cell? _ _ hv3)).trans hv3; replace hx0 := (hb.cell (World.block_lt_of_cell? _ _ hx0)).trans hx0; replace hx1 := (hb.cell (World.block_lt_of_cell? _ _ hx1)).trans hx1; replace hx2 := (hb.cell (World.block_lt_of_cell? _ _ hx2)).trans hx2; replace hx3 := (hb.cell (World.block_lt_of_cell? _ _ hx3)).trans hx3; replace hx4 := (hb.cell (World.block_lt_of_cell? _ _ hx4)).trans hx4; have n_ := Qz.mk (qp HB.out hb); clear HB; have HB := n_; clear n_; have m_ := Qz.mk (HM.out.below hb); clear HM; have HM := m_; clear m_; replace hlk := met_look HM.out Try.underlying85 Try.underlying2 (zeroBool _) x.f0 hwf; clear hb))
      go_ret
      exact ⟨by rw [hR]; rfl, HB.out⟩
    have b4 : decide (isU x.f2) = true := decide_eq_true c4
    by_cases c5 : isU x.f3
    case neg =>
      have hR := hno fun h => (by have h := hK.out.1 h; exact c5 h.1.2.2.2.1)
      have b5 : decide (isU x.f3) = false := decide_eq_false c5
      go_wp2_with (first | (go_at_call 65; (with_reducible refine (impl_within.calls _ _ _ _ _ (within_ev _ _ _)).mono ?_); rintro e w9 ⟨rfl, hb⟩; (try replace hb := hb.below); replace hv0 := (hb.cell (World.block_lt_of_cell? _ _ hv0)).trans hv0; replace hv1 := (hb.cell (World.block_lt_of_cell? _ _ hv1)).trans hv1; replace hv2 := (hb.cell (World.block_lt_of_cell? _ _ hv2)).trans hv2; replace hv3 := (hb.cell (World.block_lt_of_cell? _ _ hv3)).trans hv3; replace hx0 := (hb.cell (World.block_lt_of_cell? _ _ hx0)).trans hx0; replace hx1 := (hb.cell (World.block_lt_of_cell? _ _ hx1)).trans hx1; replace hx2 := (hb.cell (World.block_lt_of_cell? _ _ hx2)).trans hx2; replace hx3 := (hb.cell (World.block_lt_of_cell? _ _ hx3)).trans hx3; replace hx4 := (hb.cell (World.block_lt_of_cell? _ _ hx4)).trans hx4; have n_ := Qz.mk (qp HB.out hb); clear HB; have HB := n_; clear n_; have m_ := Qz.mk (HM.out.below hb); clear HM; have HM := m_; clear m_; replace hlk := met_look HM.out Try.underlying85 Try.underlying2 (zeroBool _) x.f0 hwf; clear hb) | (go_at_call 66; (with_reducible refine (impl_isUser.calls _ _ _ (isUser_ev _)).mono ?_); rintro e w9 ⟨rfl, hb⟩; (try replace hb := hb.below); replace hv0 := (hb.cell (World.block_lt_of_cell? _ _ hv0)).trans hv0; replace hv1 := (hb.cell (World.block_lt_of_cell? _ _ hv1)).trans hv1; replace hv2 := (hb.cell (World.block_lt_of_cell? _ _ hv2)).trans hv2; replace hv3 := (hb.cell (World.block_lt_of_cell? _ _ hv3)).trans hv3; replace hx0 := (hb.cell (World.block_lt_of_cell? _ _ hx0)).trans hx0; replace hx1 := (hb.cell (World.block_lt_of_cell? _ _ hx1)).trans hx1; replace hx2 := (hb.cell (World.block_lt_of_cell? _ _ hx2)).trans hx2; replace hx3 := (hb.cell (World.block_lt_of_cell? _ _ hx3)).trans hx3; replace hx4 := (hb.cell (World.block_lt_of_cell? _ _ hx4)).trans hx4; have n_ := Qz.mk (qp HB.out hb); clear HB; have HB := n_; clear n_; have m_ := Qz.mk (HM.out.below hb); clear HM; have HM := m_; clear m_; replace hlk := met_look HM.out Try.underlying85 Try.underlying2 (zeroBool _) x.f0 hwf; clear hb))
      go_ret
      exact ⟨by rw [hR]; rfl, HB.out⟩
    have b5 : decide (isU x.f3) = true := decide_eq_true c5
    cases b6 : Op.bytesLess x.f3.toList x.f2.toList
    case true =>
      have hR := hno fun h => (by have h := hK.out.1 h; have := h.1.2.2.2.2.1; unfold tless at this; rw [b6] at this; cases this)
      go_wp2_with (first | (go_at_call 65; (with_reducible refine (impl_within.calls _ _ _ _ _ (within_ev _ _ _)).mono ?_); rintro e w9 ⟨rfl, hb⟩; (try replace hb := hb.below); replace hv0 := (hb.cell (World.block_lt_of_cell? _ _ hv0)).trans hv0; replace hv1 := (hb.cell (World.block_lt_of_cell? _ _ hv1)).trans hv1; replace hv2 := (hb.cell (World.block_lt_of_cell? _ _ hv2)).trans hv2; replace hv3 := (hb.cell (World.block_lt_of_cell? _ _ hv3)).trans hv3; replace hx0 := (hb.cell (World.block_lt_of_cell? _ _ hx0)).trans hx0; replace hx1 := (hb.cell (World.block_lt_of_cell? _ _ hx1)).trans hx1; replace hx2 := (hb.cell (World.block_lt_of_cell? _ _ hx2)).trans hx2; replace hx3 := (hb.cell (World.block_lt_of_cell? _ _ hx3)).trans hx3; replace hx4 := (hb.cell (World.block_lt_of_cell? _ _ hx4)).trans hx4; have n_ := Qz.mk (qp HB.out hb); clear HB; have HB := n_; clear n_; have m_ := Qz.mk (HM.out.below hb); clear HM; have HM := m_; clear m_; replace hlk := met_look HM.out Try.underlying85 Try.underlying2 (zeroBool _) x.f0 hwf; clear hb) | (go_at_call 66; (with_reducible refine (impl_isUser.calls _ _ _ (isUser_ev _)).mono ?_); rintro e w9 ⟨rfl, hb⟩; (try replace hb := hb.below); replace hv0 := (hb.cell (World.block_lt_of_cell? _ _ hv0)).trans hv0; replace hv1 := (hb.cell (World.block_lt_of_cell? _ _ hv1)).trans hv1; replace hv2 := (hb.cell (World.block_lt_of_cell? _ _ hv2)).trans hv2; replace hv3 := (hb.cell (World.block_lt_of_cell? _ _ hv3)).trans hv3; replace hx0 := (hb.cell (World.block_lt_of_cell? _ _ hx0)).trans hx0; replace hx1 := (hb.cell (World.block_lt_of_cell? _ _ hx1)).trans hx1; replace hx2 := (hb.cell (World.block_lt_of_cell? _ _ hx2)).trans hx2; replace hx3 := (hb.cell (World.block_lt_of_cell? _ _ hx3)).trans hx3; replace hx4 := (hb.cell (World.block_lt_of_cell? _ _ hx4)).trans hx4; have n_ := Qz.mk (qp HB.out hb); clear HB; have HB := n_; clear n_; have m_ := Qz.mk (HM.out.below hb); clear HM; have HM := m_; clear m_; replace hlk := met_look HM.out Try.underlying85 Try.underlying2 (zeroBool _) x.f0 hwf; clear hb))
      go_ret
      exact ⟨by rw [hR]; rfl, HB.out⟩
    by_cases c7 : 1 ≤ x.f4 ∧ x.f4 ≤ 400
    case neg =>
      have hR := hno fun h => (by have h := hK.out.1 h; exact c7 h.1.2.2.2.2.2)
      have b7 : decide (1 ≤ x.f4 ∧ x.f4 ≤ 400) = false := decide_eq_false c7
      go_wp2_with (first | (go_at_call 65; (with_reducible refine (impl_within.calls _ _ _ _ _ (within_ev _ _ _)).mono ?_); rintro e w9 ⟨rfl, hb⟩; (try replace hb := hb.below); replace hv0 := (hb.cell (World.block_lt_of_cell? _ _ hv0)).trans hv0; replace hv1 := (hb.cell (World.block_lt_of_cell? _ _ hv1)).trans hv1; replace hv2 := (hb.cell (World.block_lt_of_cell? _ _ hv2)).trans hv2; replace hv3 := (hb.cell (World.block_lt_of_cell? _ _ hv3)).trans hv3; replace hx0 := (hb.cell (World.block_lt_of_cell? _ _ hx0)).trans hx0; replace hx1 := (hb.cell (World.block_lt_of_cell? _ _ hx1)).trans hx1; replace hx2 := (hb.cell (World.block_lt_of_cell? _ _ hx2)).trans hx2; replace hx3 := (hb.cell (World.block_lt_of_cell? _ _ hx3)).trans hx3; replace hx4 := (hb.cell (World.block_lt_of_cell? _ _ hx4)).trans hx4; have n_ := Qz.mk (qp HB.out hb); clear HB; have HB := n_; clear n_; have m_ := Qz.mk (HM.out.below hb); clear HM; have HM := m_; clear m_; replace hlk := met_look HM.out Try.underlying85 Try.underlying2 (zeroBool _) x.f0 hwf; clear hb) | (go_at_call 66; (with_reducible refine (impl_isUser.calls _ _ _ (isUser_ev _)).mono ?_); rintro e w9 ⟨rfl, hb⟩; (try replace hb := hb.below); replace hv0 := (hb.cell (World.block_lt_of_cell? _ _ hv0)).trans hv0; replace hv1 := (hb.cell (World.block_lt_of_cell? _ _ hv1)).trans hv1; replace hv2 := (hb.cell (World.block_lt_of_cell? _ _ hv2)).trans hv2; replace hv3 := (hb.cell (World.block_lt_of_cell? _ _ hv3)).trans hv3; replace hx0 := (hb.cell (World.block_lt_of_cell? _ _ hx0)).trans hx0; replace hx1 := (hb.cell (World.block_lt_of_cell? _ _ hx1)).trans hx1; replace hx2 := (hb.cell (World.block_lt_of_cell? _ _ hx2)).trans hx2; replace hx3 := (hb.cell (World.block_lt_of_cell? _ _ hx3)).trans hx3; replace hx4 := (hb.cell (World.block_lt_of_cell? _ _ hx4)).trans hx4; have n_ := Qz.mk (qp HB.out hb); clear HB; have HB := n_; clear n_; have m_ := Qz.mk (HM.out.below hb); clear HM; have HM := m_; clear m_; replace hlk := met_look HM.out Try.underlying85 Try.underlying2 (zeroBool _) x.f0 hwf; clear hb))
      go_ret
      exact ⟨by rw [hR]; rfl, HB.out⟩
    have b7 : decide (1 ≤ x.f4 ∧ x.f4 ≤ 400) = true := decide_eq_true c7
    have hbase : w.heap.size ≤ (wr.alloc (.cells #[.int .i64 x.f0, .int .i64 x.f1, .string x.f2, .string x.f3, .int .i64 x.f4] 66)).heap.size := HB.out.size
    by_cases hi0 : i = 0
    case pos =>
      have hie : ((i : Int) == 0) = true := beq_iff_eq.2 (by omega)
      have Hi0 := Qz.mk hi0
      clear hi0
      go_wp2_with (first | (go_at_call 65; (with_reducible refine (impl_within.calls _ _ _ _ _ (within_ev _ _ _)).mono ?_); rintro e w9 ⟨rfl, hb⟩; (try replace hb := hb.below); replace hv0 := (hb.cell (World.block_lt_of_cell? _ _ hv0)).trans hv0; replace hv1 := (hb.cell (World.block_lt_of_cell? _ _ hv1)).trans hv1; replace hv2 := (hb.cell (World.block_lt_of_cell? _ _ hv2)).trans hv2; replace hv3 := (hb.cell (World.block_lt_of_cell? _ _ hv3)).trans hv3; replace hx0 := (hb.cell (World.block_lt_of_cell? _ _ hx0)).trans hx0; replace hx1 := (hb.cell (World.block_lt_of_cell? _ _ hx1)).trans hx1; replace hx2 := (hb.cell (World.block_lt_of_cell? _ _ hx2)).trans hx2; replace hx3 := (hb.cell (World.block_lt_of_cell? _ _ hx3)).trans hx3; replace hx4 := (hb.cell (World.block_lt_of_cell? _ _ hx4)).trans hx4; have n_ := Qz.mk (qp HB.out hb); clear HB; have HB := n_; clear n_; have m_ := Qz.mk (HM.out.below hb); clear HM; have HM := m_; clear m_; replace hlk := met_look HM.out Try.underlying85 Try.underlying2 (zeroBool _) x.f0 hwf; clear hb) | (go_at_call 66; (with_reducible refine (impl_isUser.calls _ _ _ (isUser_ev _)).mono ?_); rintro e w9 ⟨rfl, hb⟩; (try replace hb := hb.below); replace hv0 := (hb.cell (World.block_lt_of_cell? _ _ hv0)).trans hv0; replace hv1 := (hb.cell (World.block_lt_of_cell? _ _ hv1)).trans hv1; replace hv2 := (hb.cell (World.block_lt_of_cell? _ _ hv2)).trans hv2; replace hv3 := (hb.cell (World.block_lt_of_cell? _ _ hv3)).trans hv3; replace hx0 := (hb.cell (World.block_lt_of_cell? _ _ hx0)).trans hx0; replace hx1 := (hb.cell (World.block_lt_of_cell? _ _ hx1)).trans hx1; replace hx2 := (hb.cell (World.block_lt_of_cell? _ _ hx2)).trans hx2; replace hx3 := (hb.cell (World.block_lt_of_cell? _ _ hx3)).trans hx3; replace hx4 := (hb.cell (World.block_lt_of_cell? _ _ hx4)).trans hx4; have n_ := Qz.mk (qp HB.out hb); clear HB; have HB := n_; clear n_; have m_ := Qz.mk (HM.out.below hb); clear HM; have HM := m_; clear m_; replace hlk := met_look HM.out Try.underlying85 Try.underlying2 (zeroBool _) x.f0 hwf; clear hb) | (at_mapUpdate; refine wpList_met_store _ rfl _ _ _ 85 rfl 2 4 Try.underlying85 Try.underlying2 w1.heap.size K x.f0 (by rfl) (by rfl) (by rfl) hwf c2 HM.out ?_; intro w3 hm3 hg3; replace hv0 := cell_grown hg3 hv0 (by show w.heap.size ≠ w1.heap.size; omega); replace hv1 := cell_grown hg3 hv1 (by show w.heap.size ≠ w1.heap.size; omega); replace hv2 := cell_grown hg3 hv2 (by show w.heap.size ≠ w1.heap.size; omega); replace hv3 := cell_grown hg3 hv3 (by show w.heap.size ≠ w1.heap.size; omega); replace hx0 := cell_grown hg3 hx0 (by show wr.heap.size ≠ w1.heap.size; omega); replace hx1 := cell_grown hg3 hx1 (by show wr.heap.size ≠ w1.heap.size; omega); replace hx2 := cell_grown hg3 hx2 (by show wr.heap.size ≠ w1.heap.size; omega); replace hx3 := cell_grown hg3 hx3 (by show wr.heap.size ≠ w1.heap.size; omega); replace hx4 := cell_grown hg3 hx4 (by show wr.heap.size ≠ w1.heap.size; omega); have n_ := Qz.mk (HB.out.grown hg3 HB.out.size (fun q hq => by injection hq with hq; omega)); clear HB; have HB := n_; clear n_; clear HM; have HM := Qz.mk hm3; clear hm3 hg3))
      go_roundg (l.length - (i + 1))
      case measure => omega
      case rel =>
        refine ⟨i + 1, by first | rfl | go_num, by omega, Nat.le_refl _, HB, ⟨?_⟩, ⟨fun j hj => ?_⟩, hv0, hv1, hv2, hv3⟩
        · rw [hT.out]; exact HM.out
        · have Hi0 := Hi0.out
          obtain rfl : j = i := by omega
          exact hK.out.2 ⟨⟨c1, c3, c4, c5, b6, c7⟩, c2, fun h => absurd h (by omega)⟩
    have hie : ((i : Int) == 0) = false := beq_eq_false_iff_ne.2 (by omega)
    obtain ⟨ad2, e2', q0, q1, q2, q3, q4⟩ := at_T66 HR.out ((i : Int) - 1) (by omega) (by omega)
    obtain rfl : ad = ad2 := by injection e2'
    clear e2'
    rw [show ((i : Int) - 1).toNat = i - 1 from by omega] at q0 q1 q2 q3 q4
    have hX2 : qk l ((i : Int) - 1) = l.getD (i - 1) z66 := by unfold qk; rw [show ((i : Int) - 1).toNat = i - 1 from by omega]
    rw [hX2] at q0 q1 q2 q3 q4
    clear hX2
    generalize l.getD (i - 1) z66 = p at q0 q1 q2 q3 q4 hK
    have Q0 := Qz.mk q0
    have Q1 := Qz.mk q1
    have Q2 := Qz.mk q2
    have Q3 := Qz.mk q3
    have Q4 := Qz.mk q4
    clear q0 q1 q2 q3 q4
    obtain ⟨kc, hkc⟩ := Ev.rounds (cmpMetas_ev p x)
    have HKC := Qz.mk hkc
    clear hkc
    by_cases k1 : mcmp p x ≥ 0
    case pos =>
      have hR := hno fun h => (by have h := (hK.out.1 h).2.2 (by omega); have := h.1; omega)
      have g1 : decide (mcmp p x ≥ 0) = true := decide_eq_true k1
      go_wp2_with (first | (go_at_call 65; (with_reducible refine (impl_within.calls _ _ _ _ _ (within_ev _ _ _)).mono ?_); rintro e w9 ⟨rfl, hb⟩; (try replace hb := hb.below); replace hv0 := (hb.cell (World.block_lt_of_cell? _ _ hv0)).trans hv0; replace hv1 := (hb.cell (World.block_lt_of_cell? _ _ hv1)).trans hv1; replace hv2 := (hb.cell (World.block_lt_of_cell? _ _ hv2)).trans hv2; replace hv3 := (hb.cell (World.block_lt_of_cell? _ _ hv3)).trans hv3; replace hx0 := (hb.cell (World.block_lt_of_cell? _ _ hx0)).trans hx0; replace hx1 := (hb.cell (World.block_lt_of_cell? _ _ hx1)).trans hx1; replace hx2 := (hb.cell (World.block_lt_of_cell? _ _ hx2)).trans hx2; replace hx3 := (hb.cell (World.block_lt_of_cell? _ _ hx3)).trans hx3; replace hx4 := (hb.cell (World.block_lt_of_cell? _ _ hx4)).trans hx4; have n_ := Qz.mk (qp HB.out hb); clear HB; have HB := n_; clear n_; have m_ := Qz.mk (HM.out.below hb); clear HM; have HM := m_; clear m_; replace hlk := met_look HM.out Try.underlying85 Try.underlying2 (zeroBool _) x.f0 hwf; clear hb) | (go_at_call 66; (with_reducible refine (impl_isUser.calls _ _ _ (isUser_ev _)).mono ?_); rintro e w9 ⟨rfl, hb⟩; (try replace hb := hb.below); replace hv0 := (hb.cell (World.block_lt_of_cell? _ _ hv0)).trans hv0; replace hv1 := (hb.cell (World.block_lt_of_cell? _ _ hv1)).trans hv1; replace hv2 := (hb.cell (World.block_lt_of_cell? _ _ hv2)).trans hv2; replace hv3 := (hb.cell (World.block_lt_of_cell? _ _ hv3)).trans hv3; replace hx0 := (hb.cell (World.block_lt_of_cell? _ _ hx0)).trans hx0; replace hx1 := (hb.cell (World.block_lt_of_cell? _ _ hx1)).trans hx1; replace hx2 := (hb.cell (World.block_lt_of_cell? _ _ hx2)).trans hx2; replace hx3 := (hb.cell (World.block_lt_of_cell? _ _ hx3)).trans hx3; replace hx4 := (hb.cell (World.block_lt_of_cell? _ _ hx4)).trans hx4; have n_ := Qz.mk (qp HB.out hb); clear HB; have HB := n_; clear n_; have m_ := Qz.mk (HM.out.below hb); clear HM; have HM := m_; clear m_; replace hlk := met_look HM.out Try.underlying85 Try.underlying2 (zeroBool _) x.f0 hwf; clear hb) | (at_mapUpdate; refine wpList_met_store _ rfl _ _ _ 85 rfl 2 4 Try.underlying85 Try.underlying2 w1.heap.size K x.f0 (by rfl) (by rfl) (by rfl) hwf c2 HM.out ?_; intro w3 hm3 hg3; replace hv0 := cell_grown hg3 hv0 (by show w.heap.size ≠ w1.heap.size; omega); replace hv1 := cell_grown hg3 hv1 (by show w.heap.size ≠ w1.heap.size; omega); replace hv2 := cell_grown hg3 hv2 (by show w.heap.size ≠ w1.heap.size; omega); replace hv3 := cell_grown hg3 hv3 (by show w.heap.size ≠ w1.heap.size; omega); replace hx0 := cell_grown hg3 hx0 (by show wr.heap.size ≠ w1.heap.size; omega); replace hx1 := cell_grown hg3 hx1 (by show wr.heap.size ≠ w1.heap.size; omega); replace hx2 := cell_grown hg3 hx2 (by show wr.heap.size ≠ w1.heap.size; omega); replace hx3 := cell_grown hg3 hx3 (by show wr.heap.size ≠ w1.heap.size; omega); replace hx4 := cell_grown hg3 hx4 (by show wr.heap.size ≠ w1.heap.size; omega); have n_ := Qz.mk (HB.out.grown hg3 HB.out.size (fun q hq => by injection hq with hq; omega)); clear HB; have HB := n_; clear n_; clear HM; have HM := Qz.mk hm3; clear hm3 hg3; have q0 := (HB.out.cell (World.block_lt_of_cell? _ _ Q0.out)).trans Q0.out; have q1 := (HB.out.cell (World.block_lt_of_cell? _ _ Q1.out)).trans Q1.out; have q2 := (HB.out.cell (World.block_lt_of_cell? _ _ Q2.out)).trans Q2.out; have q3 := (HB.out.cell (World.block_lt_of_cell? _ _ Q3.out)).trans Q3.out; have q4 := (HB.out.cell (World.block_lt_of_cell? _ _ Q4.out)).trans Q4.out; have hxa0 := fun o => (((Below.refl _ w3).alloc (Nat.le_refl _) o).cell (World.block_lt_of_cell? _ _ hx0)).trans hx0; have hxa1 := fun o => (((Below.refl _ w3).alloc (Nat.le_refl _) o).cell (World.block_lt_of_cell? _ _ hx1)).trans hx1; have hxa2 := fun o => (((Below.refl _ w3).alloc (Nat.le_refl _) o).cell (World.block_lt_of_cell? _ _ hx2)).trans hx2; have hxa3 := fun o => (((Below.refl _ w3).alloc (Nat.le_refl _) o).cell (World.block_lt_of_cell? _ _ hx3)).trans hx3; have hxa4 := fun o => (((Below.refl _ w3).alloc (Nat.le_refl _) o).cell (World.block_lt_of_cell? _ _ hx4)).trans hx4; have hpa0 : (w3.alloc (.cells #[.int .i64 p.f0, .int .i64 p.f1, .string p.f2, .string p.f3, .int .i64 p.f4] 66)).cell? ⟨w3.heap.size, 0, none⟩ = some (.int .i64 p.f0) := (by simp); have hpa1 : (w3.alloc (.cells #[.int .i64 p.f0, .int .i64 p.f1, .string p.f2, .string p.f3, .int .i64 p.f4] 66)).cell? ⟨w3.heap.size, 1, none⟩ = some (.int .i64 p.f1) := (by simp); have hpa2 : (w3.alloc (.cells #[.int .i64 p.f0, .int .i64 p.f1, .string p.f2, .string p.f3, .int .i64 p.f4] 66)).cell? ⟨w3.heap.size, 2, none⟩ = some (.string p.f2) := (by simp); have hpa3 : (w3.alloc (.cells #[.int .i64 p.f0, .int .i64 p.f1, .string p.f2, .string p.f3, .int .i64 p.f4] 66)).cell? ⟨w3.heap.size, 3, none⟩ = some (.string p.f3) := (by simp); have hpa4 : (w3.alloc (.cells #[.int .i64 p.f0, .int .i64 p.f1, .string p.f2, .string p.f3, .int .i64 p.f4] 66)).cell? ⟨w3.heap.size, 4, none⟩ = some (.int .i64 p.f4) := (by simp)) | (go_at_call 67; (with_reducible refine (impl_cmpMetas.calls kc _ _ _ _ _ _ _ _ _ _ _ _ HKC.out).mono ?_); rintro e w4 ⟨rfl, hb⟩; (try replace hb := hb.below); replace hx0 := (hb.cell (World.block_lt_of_cell? _ _ (hxa0 _))).trans (hxa0 _); clear hxa0; replace hx1 := (hb.cell (World.block_lt_of_cell? _ _ (hxa1 _))).trans (hxa1 _); clear hxa1; replace hx2 := (hb.cell (World.block_lt_of_cell? _ _ (hxa2 _))).trans (hxa2 _); clear hxa2; replace hx3 := (hb.cell (World.block_lt_of_cell? _ _ (hxa3 _))).trans (hxa3 _); clear hxa3; replace hx4 := (hb.cell (World.block_lt_of_cell? _ _ (hxa4 _))).trans (hxa4 _); clear hxa4;have hp0 := (hb.cell (World.block_lt_of_cell? _ _ hpa0)).trans hpa0; clear hpa0; have hp1 := (hb.cell (World.block_lt_of_cell? _ _ hpa1)).trans hpa1; clear hpa1; have hp2 := (hb.cell (World.block_lt_of_cell? _ _ hpa2)).trans hpa2; clear hpa2; have hp3 := (hb.cell (World.block_lt_of_cell? _ _ hpa3)).trans hpa3; clear hpa3; have hp4 := (hb.cell (World.block_lt_of_cell? _ _ hpa4)).trans hpa4; clear hpa4;replace hv0 := (hb.cell (World.block_lt_of_cell? _ _ ((((Below.refl _ w3).alloc (Nat.le_refl _) _).cell (World.block_lt_of_cell? _ _ hv0)).trans hv0))).trans ((((Below.refl _ w3).alloc (Nat.le_refl _) _).cell (World.block_lt_of_cell? _ _ hv0)).trans hv0); replace hv1 := (hb.cell (World.block_lt_of_cell? _ _ ((((Below.refl _ w3).alloc (Nat.le_refl _) _).cell (World.block_lt_of_cell? _ _ hv1)).trans hv1))).trans ((((Below.refl _ w3).alloc (Nat.le_refl _) _).cell (World.block_lt_of_cell? _ _ hv1)).trans hv1); replace hv2 := (hb.cell (World.block_lt_of_cell? _ _ ((((Below.refl _ w3).alloc (Nat.le_refl _) _).cell (World.block_lt_of_cell? _ _ hv2)).trans hv2))).trans ((((Below.refl _ w3).alloc (Nat.le_refl _) _).cell (World.block_lt_of_cell? _ _ hv2)).trans hv2); replace hv3 := (hb.cell (World.block_lt_of_cell? _ _ ((((Below.refl _ w3).alloc (Nat.le_refl _) _).cell (World.block_lt_of_cell? _ _ hv3)).trans hv3))).trans ((((Below.refl _ w3).alloc (Nat.le_refl _) _).cell (World.block_lt_of_cell? _ _ hv3)).trans hv3); have n_ := Qz.mk (qp (HB.out.alloc HB.out.size _) hb); clear HB; have HB := n_; clear n_; have m_ := Qz.mk ((HM.out.kept (World.grownBy_alloc w3 _ none) (by simp)).below hb); clear HM; have HM := m_; clear m_ hb))
      go_ret
      exact ⟨by rw [hR]; rfl, HB.out⟩
    have g1 : decide (mcmp p x ≥ 0) = false := decide_eq_false k1
    by_cases k2 : x.f1 > 0
    case neg =>
      have g2 : decide (x.f1 > 0) = false := decide_eq_false k2
      go_wp2_with (first | (go_at_call 65; (with_reducible refine (impl_within.calls _ _ _ _ _ (within_ev _ _ _)).mono ?_); rintro e w9 ⟨rfl, hb⟩; (try replace hb := hb.below); replace hv0 := (hb.cell (World.block_lt_of_cell? _ _ hv0)).trans hv0; replace hv1 := (hb.cell (World.block_lt_of_cell? _ _ hv1)).trans hv1; replace hv2 := (hb.cell (World.block_lt_of_cell? _ _ hv2)).trans hv2; replace hv3 := (hb.cell (World.block_lt_of_cell? _ _ hv3)).trans hv3; replace hx0 := (hb.cell (World.block_lt_of_cell? _ _ hx0)).trans hx0; replace hx1 := (hb.cell (World.block_lt_of_cell? _ _ hx1)).trans hx1; replace hx2 := (hb.cell (World.block_lt_of_cell? _ _ hx2)).trans hx2; replace hx3 := (hb.cell (World.block_lt_of_cell? _ _ hx3)).trans hx3; replace hx4 := (hb.cell (World.block_lt_of_cell? _ _ hx4)).trans hx4; have n_ := Qz.mk (qp HB.out hb); clear HB; have HB := n_; clear n_; have m_ := Qz.mk (HM.out.below hb); clear HM; have HM := m_; clear m_; replace hlk := met_look HM.out Try.underlying85 Try.underlying2 (zeroBool _) x.f0 hwf; clear hb) | (go_at_call 66; (with_reducible refine (impl_isUser.calls _ _ _ (isUser_ev _)).mono ?_); rintro e w9 ⟨rfl, hb⟩; (try replace hb := hb.below); replace hv0 := (hb.cell (World.block_lt_of_cell? _ _ hv0)).trans hv0; replace hv1 := (hb.cell (World.block_lt_of_cell? _ _ hv1)).trans hv1; replace hv2 := (hb.cell (World.block_lt_of_cell? _ _ hv2)).trans hv2; replace hv3 := (hb.cell (World.block_lt_of_cell? _ _ hv3)).trans hv3; replace hx0 := (hb.cell (World.block_lt_of_cell? _ _ hx0)).trans hx0; replace hx1 := (hb.cell (World.block_lt_of_cell? _ _ hx1)).trans hx1; replace hx2 := (hb.cell (World.block_lt_of_cell? _ _ hx2)).trans hx2; replace hx3 := (hb.cell (World.block_lt_of_cell? _ _ hx3)).trans hx3; replace hx4 := (hb.cell (World.block_lt_of_cell? _ _ hx4)).trans hx4; have n_ := Qz.mk (qp HB.out hb); clear HB; have HB := n_; clear n_; have m_ := Qz.mk (HM.out.below hb); clear HM; have HM := m_; clear m_; replace hlk := met_look HM.out Try.underlying85 Try.underlying2 (zeroBool _) x.f0 hwf; clear hb) | (at_mapUpdate; refine wpList_met_store _ rfl _ _ _ 85 rfl 2 4 Try.underlying85 Try.underlying2 w1.heap.size K x.f0 (by rfl) (by rfl) (by rfl) hwf c2 HM.out ?_; intro w3 hm3 hg3; replace hv0 := cell_grown hg3 hv0 (by show w.heap.size ≠ w1.heap.size; omega); replace hv1 := cell_grown hg3 hv1 (by show w.heap.size ≠ w1.heap.size; omega); replace hv2 := cell_grown hg3 hv2 (by show w.heap.size ≠ w1.heap.size; omega); replace hv3 := cell_grown hg3 hv3 (by show w.heap.size ≠ w1.heap.size; omega); replace hx0 := cell_grown hg3 hx0 (by show wr.heap.size ≠ w1.heap.size; omega); replace hx1 := cell_grown hg3 hx1 (by show wr.heap.size ≠ w1.heap.size; omega); replace hx2 := cell_grown hg3 hx2 (by show wr.heap.size ≠ w1.heap.size; omega); replace hx3 := cell_grown hg3 hx3 (by show wr.heap.size ≠ w1.heap.size; omega); replace hx4 := cell_grown hg3 hx4 (by show wr.heap.size ≠ w1.heap.size; omega); have n_ := Qz.mk (HB.out.grown hg3 HB.out.size (fun q hq => by injection hq with hq; omega)); clear HB; have HB := n_; clear n_; clear HM; have HM := Qz.mk hm3; clear hm3 hg3; have q0 := (HB.out.cell (World.block_lt_of_cell? _ _ Q0.out)).trans Q0.out; have q1 := (HB.out.cell (World.block_lt_of_cell? _ _ Q1.out)).trans Q1.out; have q2 := (HB.out.cell (World.block_lt_of_cell? _ _ Q2.out)).trans Q2.out; have q3 := (HB.out.cell (World.block_lt_of_cell? _ _ Q3.out)).trans Q3.out; have q4 := (HB.out.cell (World.block_lt_of_cell? _ _ Q4.out)).trans Q4.out; have hxa0 := fun o => (((Below.refl _ w3).alloc (Nat.le_refl _) o).cell (World.block_lt_of_cell? _ _ hx0)).trans hx0; have hxa1 := fun o => (((Below.refl _ w3).alloc (Nat.le_refl _) o).cell (World.block_lt_of_cell? _ _ hx1)).trans hx1; have hxa2 := fun o => (((Below.refl _ w3).alloc (Nat.le_refl _) o).cell (World.block_lt_of_cell? _ _ hx2)).trans hx2; have hxa3 := fun o => (((Below.refl _ w3).alloc (Nat.le_refl _) o).cell (World.block_lt_of_cell? _ _ hx3)).trans hx3; have hxa4 := fun o => (((Below.refl _ w3).alloc (Nat.le_refl _) o).cell (World.block_lt_of_cell? _ _ hx4)).trans hx4; have hpa0 : (w3.alloc (.cells #[.int .i64 p.f0, .int .i64 p.f1, .string p.f2, .string p.f3, .int .i64 p.f4] 66)).cell? ⟨w3.heap.size, 0, none⟩ = some (.int .i64 p.f0) := (by simp); have hpa1 : (w3.alloc (.cells #[.int .i64 p.f0, .int .i64 p.f1, .string p.f2, .string p.f3, .int .i64 p.f4] 66)).cell? ⟨w3.heap.size, 1, none⟩ = some (.int .i64 p.f1) := (by simp); have hpa2 : (w3.alloc (.cells #[.int .i64 p.f0, .int .i64 p.f1, .string p.f2, .string p.f3, .int .i64 p.f4] 66)).cell? ⟨w3.heap.size, 2, none⟩ = some (.string p.f2) := (by simp); have hpa3 : (w3.alloc (.cells #[.int .i64 p.f0, .int .i64 p.f1, .string p.f2, .string p.f3, .int .i64 p.f4] 66)).cell? ⟨w3.heap.size, 3, none⟩ = some (.string p.f3) := (by simp); have hpa4 : (w3.alloc (.cells #[.int .i64 p.f0, .int .i64 p.f1, .string p.f2, .string p.f3, .int .i64 p.f4] 66)).cell? ⟨w3.heap.size, 4, none⟩ = some (.int .i64 p.f4) := (by simp)) | (go_at_call 67; (with_reducible refine (impl_cmpMetas.calls kc _ _ _ _ _ _ _ _ _ _ _ _ HKC.out).mono ?_); rintro e w4 ⟨rfl, hb⟩; (try replace hb := hb.below); replace hx0 := (hb.cell (World.block_lt_of_cell? _ _ (hxa0 _))).trans (hxa0 _); clear hxa0; replace hx1 := (hb.cell (World.block_lt_of_cell? _ _ (hxa1 _))).trans (hxa1 _); clear hxa1; replace hx2 := (hb.cell (World.block_lt_of_cell? _ _ (hxa2 _))).trans (hxa2 _); clear hxa2; replace hx3 := (hb.cell (World.block_lt_of_cell? _ _ (hxa3 _))).trans (hxa3 _); clear hxa3; replace hx4 := (hb.cell (World.block_lt_of_cell? _ _ (hxa4 _))).trans (hxa4 _); clear hxa4;have hp0 := (hb.cell (World.block_lt_of_cell? _ _ hpa0)).trans hpa0; clear hpa0; have hp1 := (hb.cell (World.block_lt_of_cell? _ _ hpa1)).trans hpa1; clear hpa1; have hp2 := (hb.cell (World.block_lt_of_cell? _ _ hpa2)).trans hpa2; clear hpa2; have hp3 := (hb.cell (World.block_lt_of_cell? _ _ hpa3)).trans hpa3; clear hpa3; have hp4 := (hb.cell (World.block_lt_of_cell? _ _ hpa4)).trans hpa4; clear hpa4;replace hv0 := (hb.cell (World.block_lt_of_cell? _ _ ((((Below.refl _ w3).alloc (Nat.le_refl _) _).cell (World.block_lt_of_cell? _ _ hv0)).trans hv0))).trans ((((Below.refl _ w3).alloc (Nat.le_refl _) _).cell (World.block_lt_of_cell? _ _ hv0)).trans hv0); replace hv1 := (hb.cell (World.block_lt_of_cell? _ _ ((((Below.refl _ w3).alloc (Nat.le_refl _) _).cell (World.block_lt_of_cell? _ _ hv1)).trans hv1))).trans ((((Below.refl _ w3).alloc (Nat.le_refl _) _).cell (World.block_lt_of_cell? _ _ hv1)).trans hv1); replace hv2 := (hb.cell (World.block_lt_of_cell? _ _ ((((Below.refl _ w3).alloc (Nat.le_refl _) _).cell (World.block_lt_of_cell? _ _ hv2)).trans hv2))).trans ((((Below.refl _ w3).alloc (Nat.le_refl _) _).cell (World.block_lt_of_cell? _ _ hv2)).trans hv2); replace hv3 := (hb.cell (World.block_lt_of_cell? _ _ ((((Below.refl _ w3).alloc (Nat.le_refl _) _).cell (World.block_lt_of_cell? _ _ hv3)).trans hv3))).trans ((((Below.refl _ w3).alloc (Nat.le_refl _) _).cell (World.block_lt_of_cell? _ _ hv3)).trans hv3); have n_ := Qz.mk (qp (HB.out.alloc HB.out.size _) hb); clear HB; have HB := n_; clear n_; have m_ := Qz.mk ((HM.out.kept (World.grownBy_alloc w3 _ none) (by simp)).below hb); clear HM; have HM := m_; clear m_ hb))
      go_roundg (l.length - (i + 1))
      case measure => omega
      case rel =>
        refine ⟨i + 1, by first | rfl | go_num, by omega, Nat.le_refl _, HB, ⟨?_⟩, ⟨fun j hj => ?_⟩, hv0, hv1, hv2, hv3⟩
        · rw [hT.out]; exact HM.out
        · by_cases e : j = i
          · subst e
            exact hK.out.2 ⟨⟨c1, c3, c4, c5, b6, c7⟩, c2, fun _ => ⟨by omega, fun h => absurd h.1 (by omega)⟩⟩
          · exact HOK.out j (by omega)
    have g2 : decide (x.f1 > 0) = true := decide_eq_true k2
    by_cases k3 : p.f1 = x.f1
    case neg =>
      have g3 : (p.f1 == x.f1) = false := beq_eq_false_iff_ne.2 k3
      go_wp2_with (first | (go_at_call 65; (with_reducible refine (impl_within.calls _ _ _ _ _ (within_ev _ _ _)).mono ?_); rintro e w9 ⟨rfl, hb⟩; (try replace hb := hb.below); replace hv0 := (hb.cell (World.block_lt_of_cell? _ _ hv0)).trans hv0; replace hv1 := (hb.cell (World.block_lt_of_cell? _ _ hv1)).trans hv1; replace hv2 := (hb.cell (World.block_lt_of_cell? _ _ hv2)).trans hv2; replace hv3 := (hb.cell (World.block_lt_of_cell? _ _ hv3)).trans hv3; replace hx0 := (hb.cell (World.block_lt_of_cell? _ _ hx0)).trans hx0; replace hx1 := (hb.cell (World.block_lt_of_cell? _ _ hx1)).trans hx1; replace hx2 := (hb.cell (World.block_lt_of_cell? _ _ hx2)).trans hx2; replace hx3 := (hb.cell (World.block_lt_of_cell? _ _ hx3)).trans hx3; replace hx4 := (hb.cell (World.block_lt_of_cell? _ _ hx4)).trans hx4; have n_ := Qz.mk (qp HB.out hb); clear HB; have HB := n_; clear n_; have m_ := Qz.mk (HM.out.below hb); clear HM; have HM := m_; clear m_; replace hlk := met_look HM.out Try.underlying85 Try.underlying2 (zeroBool _) x.f0 hwf; clear hb) | (go_at_call 66; (with_reducible refine (impl_isUser.calls _ _ _ (isUser_ev _)).mono ?_); rintro e w9 ⟨rfl, hb⟩; (try replace hb := hb.below); replace hv0 := (hb.cell (World.block_lt_of_cell? _ _ hv0)).trans hv0; replace hv1 := (hb.cell (World.block_lt_of_cell? _ _ hv1)).trans hv1; replace hv2 := (hb.cell (World.block_lt_of_cell? _ _ hv2)).trans hv2; replace hv3 := (hb.cell (World.block_lt_of_cell? _ _ hv3)).trans hv3; replace hx0 := (hb.cell (World.block_lt_of_cell? _ _ hx0)).trans hx0; replace hx1 := (hb.cell (World.block_lt_of_cell? _ _ hx1)).trans hx1; replace hx2 := (hb.cell (World.block_lt_of_cell? _ _ hx2)).trans hx2; replace hx3 := (hb.cell (World.block_lt_of_cell? _ _ hx3)).trans hx3; replace hx4 := (hb.cell (World.block_lt_of_cell? _ _ hx4)).trans hx4; have n_ := Qz.mk (qp HB.out hb); clear HB; have HB := n_; clear n_; have m_ := Qz.mk (HM.out.below hb); clear HM; have HM := m_; clear m_; replace hlk := met_look HM.out Try.underlying85 Try.underlying2 (zeroBool _) x.f0 hwf; clear hb) | (at_mapUpdate; refine wpList_met_store _ rfl _ _ _ 85 rfl 2 4 Try.underlying85 Try.underlying2 w1.heap.size K x.f0 (by rfl) (by rfl) (by rfl) hwf c2 HM.out ?_; intro w3 hm3 hg3; replace hv0 := cell_grown hg3 hv0 (by show w.heap.size ≠ w1.heap.size; omega); replace hv1 := cell_grown hg3 hv1 (by show w.heap.size ≠ w1.heap.size; omega); replace hv2 := cell_grown hg3 hv2 (by show w.heap.size ≠ w1.heap.size; omega); replace hv3 := cell_grown hg3 hv3 (by show w.heap.size ≠ w1.heap.size; omega); replace hx0 := cell_grown hg3 hx0 (by show wr.heap.size ≠ w1.heap.size; omega); replace hx1 := cell_grown hg3 hx1 (by show wr.heap.size ≠ w1.heap.size; omega); replace hx2 := cell_grown hg3 hx2 (by show wr.heap.size ≠ w1.heap.size; omega); replace hx3 := cell_grown hg3 hx3 (by show wr.heap.size ≠ w1.heap.size; omega); replace hx4 := cell_grown hg3 hx4 (by show wr.heap.size ≠ w1.heap.size; omega); have n_ := Qz.mk (HB.out.grown hg3 HB.out.size (fun q hq => by injection hq with hq; omega)); clear HB; have HB := n_; clear n_; clear HM; have HM := Qz.mk hm3; clear hm3 hg3; have q0 := (HB.out.cell (World.block_lt_of_cell? _ _ Q0.out)).trans Q0.out; have q1 := (HB.out.cell (World.block_lt_of_cell? _ _ Q1.out)).trans Q1.out; have q2 := (HB.out.cell (World.block_lt_of_cell? _ _ Q2.out)).trans Q2.out; have q3 := (HB.out.cell (World.block_lt_of_cell? _ _ Q3.out)).trans Q3.out; have q4 := (HB.out.cell (World.block_lt_of_cell? _ _ Q4.out)).trans Q4.out; have hxa0 := fun o => (((Below.refl _ w3).alloc (Nat.le_refl _) o).cell (World.block_lt_of_cell? _ _ hx0)).trans hx0; have hxa1 := fun o => (((Below.refl _ w3).alloc (Nat.le_refl _) o).cell (World.block_lt_of_cell? _ _ hx1)).trans hx1; have hxa2 := fun o => (((Below.refl _ w3).alloc (Nat.le_refl _) o).cell (World.block_lt_of_cell? _ _ hx2)).trans hx2; have hxa3 := fun o => (((Below.refl _ w3).alloc (Nat.le_refl _) o).cell (World.block_lt_of_cell? _ _ hx3)).trans hx3; have hxa4 := fun o => (((Below.refl _ w3).alloc (Nat.le_refl _) o).cell (World.block_lt_of_cell? _ _ hx4)).trans hx4; have hpa0 : (w3.alloc (.cells #[.int .i64 p.f0, .int .i64 p.f1, .string p.f2, .string p.f3, .int .i64 p.f4] 66)).cell? ⟨w3.heap.size, 0, none⟩ = some (.int .i64 p.f0) := (by simp); have hpa1 : (w3.alloc (.cells #[.int .i64 p.f0, .int .i64 p.f1, .string p.f2, .string p.f3, .int .i64 p.f4] 66)).cell? ⟨w3.heap.size, 1, none⟩ = some (.int .i64 p.f1) := (by simp); have hpa2 : (w3.alloc (.cells #[.int .i64 p.f0, .int .i64 p.f1, .string p.f2, .string p.f3, .int .i64 p.f4] 66)).cell? ⟨w3.heap.size, 2, none⟩ = some (.string p.f2) := (by simp); have hpa3 : (w3.alloc (.cells #[.int .i64 p.f0, .int .i64 p.f1, .string p.f2, .string p.f3, .int .i64 p.f4] 66)).cell? ⟨w3.heap.size, 3, none⟩ = some (.string p.f3) := (by simp); have hpa4 : (w3.alloc (.cells #[.int .i64 p.f0, .int .i64 p.f1, .string p.f2, .string p.f3, .int .i64 p.f4] 66)).cell? ⟨w3.heap.size, 4, none⟩ = some (.int .i64 p.f4) := (by simp)) | (go_at_call 67; (with_reducible refine (impl_cmpMetas.calls kc _ _ _ _ _ _ _ _ _ _ _ _ HKC.out).mono ?_); rintro e w4 ⟨rfl, hb⟩; (try replace hb := hb.below); replace hx0 := (hb.cell (World.block_lt_of_cell? _ _ (hxa0 _))).trans (hxa0 _); clear hxa0; replace hx1 := (hb.cell (World.block_lt_of_cell? _ _ (hxa1 _))).trans (hxa1 _); clear hxa1; replace hx2 := (hb.cell (World.block_lt_of_cell? _ _ (hxa2 _))).trans (hxa2 _); clear hxa2; replace hx3 := (hb.cell (World.block_lt_of_cell? _ _ (hxa3 _))).trans (hxa3 _); clear hxa3; replace hx4 := (hb.cell (World.block_lt_of_cell? _ _ (hxa4 _))).trans (hxa4 _); clear hxa4;have hp0 := (hb.cell (World.block_lt_of_cell? _ _ hpa0)).trans hpa0; clear hpa0; have hp1 := (hb.cell (World.block_lt_of_cell? _ _ hpa1)).trans hpa1; clear hpa1; have hp2 := (hb.cell (World.block_lt_of_cell? _ _ hpa2)).trans hpa2; clear hpa2; have hp3 := (hb.cell (World.block_lt_of_cell? _ _ hpa3)).trans hpa3; clear hpa3; have hp4 := (hb.cell (World.block_lt_of_cell? _ _ hpa4)).trans hpa4; clear hpa4;replace hv0 := (hb.cell (World.block_lt_of_cell? _ _ ((((Below.refl _ w3).alloc (Nat.le_refl _) _).cell (World.block_lt_of_cell? _ _ hv0)).trans hv0))).trans ((((Below.refl _ w3).alloc (Nat.le_refl _) _).cell (World.block_lt_of_cell? _ _ hv0)).trans hv0); replace hv1 := (hb.cell (World.block_lt_of_cell? _ _ ((((Below.refl _ w3).alloc (Nat.le_refl _) _).cell (World.block_lt_of_cell? _ _ hv1)).trans hv1))).trans ((((Below.refl _ w3).alloc (Nat.le_refl _) _).cell (World.block_lt_of_cell? _ _ hv1)).trans hv1); replace hv2 := (hb.cell (World.block_lt_of_cell? _ _ ((((Below.refl _ w3).alloc (Nat.le_refl _) _).cell (World.block_lt_of_cell? _ _ hv2)).trans hv2))).trans ((((Below.refl _ w3).alloc (Nat.le_refl _) _).cell (World.block_lt_of_cell? _ _ hv2)).trans hv2); replace hv3 := (hb.cell (World.block_lt_of_cell? _ _ ((((Below.refl _ w3).alloc (Nat.le_refl _) _).cell (World.block_lt_of_cell? _ _ hv3)).trans hv3))).trans ((((Below.refl _ w3).alloc (Nat.le_refl _) _).cell (World.block_lt_of_cell? _ _ hv3)).trans hv3); have n_ := Qz.mk (qp (HB.out.alloc HB.out.size _) hb); clear HB; have HB := n_; clear n_; have m_ := Qz.mk ((HM.out.kept (World.grownBy_alloc w3 _ none) (by simp)).below hb); clear HM; have HM := m_; clear m_ hb))
      go_roundg (l.length - (i + 1))
      case measure => omega
      case rel =>
        refine ⟨i + 1, by first | rfl | go_num, by omega, Nat.le_refl _, HB, ⟨?_⟩, ⟨fun j hj => ?_⟩, hv0, hv1, hv2, hv3⟩
        · rw [hT.out]; exact HM.out
        · by_cases e : j = i
          · subst e
            exact hK.out.2 ⟨⟨c1, c3, c4, c5, b6, c7⟩, c2, fun _ => ⟨by omega, fun h => k3 h.2.1⟩⟩
          · exact HOK.out j (by omega)
    have g3 : (p.f1 == x.f1) = true := beq_iff_eq.2 k3
    have K3 := Qz.mk k3
    clear k3
    cases g4 : Op.bytesLess p.f3.toList x.f2.toList
    case false =>
      have hR := hno fun h => (by have h := (hK.out.1 h).2.2 (by omega); exact h.2 ⟨k2, K3.out, g4⟩)
      go_wp2_with (first | (go_at_call 65; (with_reducible refine (impl_within.calls _ _ _ _ _ (within_ev _ _ _)).mono ?_); rintro e w9 ⟨rfl, hb⟩; (try replace hb := hb.below); replace hv0 := (hb.cell (World.block_lt_of_cell? _ _ hv0)).trans hv0; replace hv1 := (hb.cell (World.block_lt_of_cell? _ _ hv1)).trans hv1; replace hv2 := (hb.cell (World.block_lt_of_cell? _ _ hv2)).trans hv2; replace hv3 := (hb.cell (World.block_lt_of_cell? _ _ hv3)).trans hv3; replace hx0 := (hb.cell (World.block_lt_of_cell? _ _ hx0)).trans hx0; replace hx1 := (hb.cell (World.block_lt_of_cell? _ _ hx1)).trans hx1; replace hx2 := (hb.cell (World.block_lt_of_cell? _ _ hx2)).trans hx2; replace hx3 := (hb.cell (World.block_lt_of_cell? _ _ hx3)).trans hx3; replace hx4 := (hb.cell (World.block_lt_of_cell? _ _ hx4)).trans hx4; have n_ := Qz.mk (qp HB.out hb); clear HB; have HB := n_; clear n_; have m_ := Qz.mk (HM.out.below hb); clear HM; have HM := m_; clear m_; replace hlk := met_look HM.out Try.underlying85 Try.underlying2 (zeroBool _) x.f0 hwf; clear hb) | (go_at_call 66; (with_reducible refine (impl_isUser.calls _ _ _ (isUser_ev _)).mono ?_); rintro e w9 ⟨rfl, hb⟩; (try replace hb := hb.below); replace hv0 := (hb.cell (World.block_lt_of_cell? _ _ hv0)).trans hv0; replace hv1 := (hb.cell (World.block_lt_of_cell? _ _ hv1)).trans hv1; replace hv2 := (hb.cell (World.block_lt_of_cell? _ _ hv2)).trans hv2; replace hv3 := (hb.cell (World.block_lt_of_cell? _ _ hv3)).trans hv3; replace hx0 := (hb.cell (World.block_lt_of_cell? _ _ hx0)).trans hx0; replace hx1 := (hb.cell (World.block_lt_of_cell? _ _ hx1)).trans hx1; replace hx2 := (hb.cell (World.block_lt_of_cell? _ _ hx2)).trans hx2; replace hx3 := (hb.cell (World.block_lt_of_cell? _ _ hx3)).trans hx3; replace hx4 := (hb.cell (World.block_lt_of_cell? _ _ hx4)).trans hx4; have n_ := Qz.mk (qp HB.out hb); clear HB; have HB := n_; clear n_; have m_ := Qz.mk (HM.out.below hb); clear HM; have HM := m_; clear m_; replace hlk := met_look HM.out Try.underlying85 Try.underlying2 (zeroBool _) x.f0 hwf; clear hb) | (at_mapUpdate; refine wpList_met_store _ rfl _ _ _ 85 rfl 2 4 Try.underlying85 Try.underlying2 w1.heap.size K x.f0 (by rfl) (by rfl) (by rfl) hwf c2 HM.out ?_; intro w3 hm3 hg3; replace hv0 := cell_grown hg3 hv0 (by show w.heap.size ≠ w1.heap.size; omega); replace hv1 := cell_grown hg3 hv1 (by show w.heap.size ≠ w1.heap.size; omega); replace hv2 := cell_grown hg3 hv2 (by show w.heap.size ≠ w1.heap.size; omega); replace hv3 := cell_grown hg3 hv3 (by show w.heap.size ≠ w1.heap.size; omega); replace hx0 := cell_grown hg3 hx0 (by show wr.heap.size ≠ w1.heap.size; omega); replace hx1 := cell_grown hg3 hx1 (by show wr.heap.size ≠ w1.heap.size; omega); replace hx2 := cell_grown hg3 hx2 (by show wr.heap.size ≠ w1.heap.size; omega); replace hx3 := cell_grown hg3 hx3 (by show wr.heap.size ≠ w1.heap.size; omega); replace hx4 := cell_grown hg3 hx4 (by show wr.heap.size ≠ w1.heap.size; omega); have n_ := Qz.mk (HB.out.grown hg3 HB.out.size (fun q hq => by injection hq with hq; omega)); clear HB; have HB := n_; clear n_; clear HM; have HM := Qz.mk hm3; clear hm3 hg3; have q0 := (HB.out.cell (World.block_lt_of_cell? _ _ Q0.out)).trans Q0.out; have q1 := (HB.out.cell (World.block_lt_of_cell? _ _ Q1.out)).trans Q1.out; have q2 := (HB.out.cell (World.block_lt_of_cell? _ _ Q2.out)).trans Q2.out; have q3 := (HB.out.cell (World.block_lt_of_cell? _ _ Q3.out)).trans Q3.out; have q4 := (HB.out.cell (World.block_lt_of_cell? _ _ Q4.out)).trans Q4.out; have hxa0 := fun o => (((Below.refl _ w3).alloc (Nat.le_refl _) o).cell (World.block_lt_of_cell? _ _ hx0)).trans hx0; have hxa1 := fun o => (((Below.refl _ w3).alloc (Nat.le_refl _) o).cell (World.block_lt_of_cell? _ _ hx1)).trans hx1; have hxa2 := fun o => (((Below.refl _ w3).alloc (Nat.le_refl _) o).cell (World.block_lt_of_cell? _ _ hx2)).trans hx2; have hxa3 := fun o => (((Below.refl _ w3).alloc (Nat.le_refl _) o).cell (World.block_lt_of_cell? _ _ hx3)).trans hx3; have hxa4 := fun o => (((Below.refl _ w3).alloc (Nat.le_refl _) o).cell (World.block_lt_of_cell? _ _ hx4)).trans hx4; have hpa0 : (w3.alloc (.cells #[.int .i64 p.f0, .int .i64 p.f1, .string p.f2, .string p.f3, .int .i64 p.f4] 66)).cell? ⟨w3.heap.size, 0, none⟩ = some (.int .i64 p.f0) := (by simp); have hpa1 : (w3.alloc (.cells #[.int .i64 p.f0, .int .i64 p.f1, .string p.f2, .string p.f3, .int .i64 p.f4] 66)).cell? ⟨w3.heap.size, 1, none⟩ = some (.int .i64 p.f1) := (by simp); have hpa2 : (w3.alloc (.cells #[.int .i64 p.f0, .int .i64 p.f1, .string p.f2, .string p.f3, .int .i64 p.f4] 66)).cell? ⟨w3.heap.size, 2, none⟩ = some (.string p.f2) := (by simp); have hpa3 : (w3.alloc (.cells #[.int .i64 p.f0, .int .i64 p.f1, .string p.f2, .string p.f3, .int .i64 p.f4] 66)).cell? ⟨w3.heap.size, 3, none⟩ = some (.string p.f3) := (by simp); have hpa4 : (w3.alloc (.cells #[.int .i64 p.f0, .int .i64 p.f1, .string p.f2, .string p.f3, .int .i64 p.f4] 66)).cell? ⟨w3.heap.size, 4, none⟩ = some (.int .i64 p.f4) := (by simp)) | (go_at_call 67; (with_reducible refine (impl_cmpMetas.calls kc _ _ _ _ _ _ _ _ _ _ _ _ HKC.out).mono ?_); rintro e w4 ⟨rfl, hb⟩; (try replace hb := hb.below); replace hx0 := (hb.cell (World.block_lt_of_cell? _ _ (hxa0 _))).trans (hxa0 _); clear hxa0; replace hx1 := (hb.cell (World.block_lt_of_cell? _ _ (hxa1 _))).trans (hxa1 _); clear hxa1; replace hx2 := (hb.cell (World.block_lt_of_cell? _ _ (hxa2 _))).trans (hxa2 _); clear hxa2; replace hx3 := (hb.cell (World.block_lt_of_cell? _ _ (hxa3 _))).trans (hxa3 _); clear hxa3; replace hx4 := (hb.cell (World.block_lt_of_cell? _ _ (hxa4 _))).trans (hxa4 _); clear hxa4;have hp0 := (hb.cell (World.block_lt_of_cell? _ _ hpa0)).trans hpa0; clear hpa0; have hp1 := (hb.cell (World.block_lt_of_cell? _ _ hpa1)).trans hpa1; clear hpa1; have hp2 := (hb.cell (World.block_lt_of_cell? _ _ hpa2)).trans hpa2; clear hpa2; have hp3 := (hb.cell (World.block_lt_of_cell? _ _ hpa3)).trans hpa3; clear hpa3; have hp4 := (hb.cell (World.block_lt_of_cell? _ _ hpa4)).trans hpa4; clear hpa4;replace hv0 := (hb.cell (World.block_lt_of_cell? _ _ ((((Below.refl _ w3).alloc (Nat.le_refl _) _).cell (World.block_lt_of_cell? _ _ hv0)).trans hv0))).trans ((((Below.refl _ w3).alloc (Nat.le_refl _) _).cell (World.block_lt_of_cell? _ _ hv0)).trans hv0); replace hv1 := (hb.cell (World.block_lt_of_cell? _ _ ((((Below.refl _ w3).alloc (Nat.le_refl _) _).cell (World.block_lt_of_cell? _ _ hv1)).trans hv1))).trans ((((Below.refl _ w3).alloc (Nat.le_refl _) _).cell (World.block_lt_of_cell? _ _ hv1)).trans hv1); replace hv2 := (hb.cell (World.block_lt_of_cell? _ _ ((((Below.refl _ w3).alloc (Nat.le_refl _) _).cell (World.block_lt_of_cell? _ _ hv2)).trans hv2))).trans ((((Below.refl _ w3).alloc (Nat.le_refl _) _).cell (World.block_lt_of_cell? _ _ hv2)).trans hv2); replace hv3 := (hb.cell (World.block_lt_of_cell? _ _ ((((Below.refl _ w3).alloc (Nat.le_refl _) _).cell (World.block_lt_of_cell? _ _ hv3)).trans hv3))).trans ((((Below.refl _ w3).alloc (Nat.le_refl _) _).cell (World.block_lt_of_cell? _ _ hv3)).trans hv3); have n_ := Qz.mk (qp (HB.out.alloc HB.out.size _) hb); clear HB; have HB := n_; clear n_; have m_ := Qz.mk ((HM.out.kept (World.grownBy_alloc w3 _ none) (by simp)).below hb); clear HM; have HM := m_; clear m_ hb))
      go_ret
      exact ⟨by rw [hR]; rfl, HB.out⟩
    case true =>
      go_wp2_with (first | (go_at_call 65; (with_reducible refine (impl_within.calls _ _ _ _ _ (within_ev _ _ _)).mono ?_); rintro e w9 ⟨rfl, hb⟩; (try replace hb := hb.below); replace hv0 := (hb.cell (World.block_lt_of_cell? _ _ hv0)).trans hv0; replace hv1 := (hb.cell (World.block_lt_of_cell? _ _ hv1)).trans hv1; replace hv2 := (hb.cell (World.block_lt_of_cell? _ _ hv2)).trans hv2; replace hv3 := (hb.cell (World.block_lt_of_cell? _ _ hv3)).trans hv3; replace hx0 := (hb.cell (World.block_lt_of_cell? _ _ hx0)).trans hx0; replace hx1 := (hb.cell (World.block_lt_of_cell? _ _ hx1)).trans hx1; replace hx2 := (hb.cell (World.block_lt_of_cell? _ _ hx2)).trans hx2; replace hx3 := (hb.cell (World.block_lt_of_cell? _ _ hx3)).trans hx3; replace hx4 := (hb.cell (World.block_lt_of_cell? _ _ hx4)).trans hx4; have n_ := Qz.mk (qp HB.out hb); clear HB; have HB := n_; clear n_; have m_ := Qz.mk (HM.out.below hb); clear HM; have HM := m_; clear m_; replace hlk := met_look HM.out Try.underlying85 Try.underlying2 (zeroBool _) x.f0 hwf; clear hb) | (go_at_call 66; (with_reducible refine (impl_isUser.calls _ _ _ (isUser_ev _)).mono ?_); rintro e w9 ⟨rfl, hb⟩; (try replace hb := hb.below); replace hv0 := (hb.cell (World.block_lt_of_cell? _ _ hv0)).trans hv0; replace hv1 := (hb.cell (World.block_lt_of_cell? _ _ hv1)).trans hv1; replace hv2 := (hb.cell (World.block_lt_of_cell? _ _ hv2)).trans hv2; replace hv3 := (hb.cell (World.block_lt_of_cell? _ _ hv3)).trans hv3; replace hx0 := (hb.cell (World.block_lt_of_cell? _ _ hx0)).trans hx0; replace hx1 := (hb.cell (World.block_lt_of_cell? _ _ hx1)).trans hx1; replace hx2 := (hb.cell (World.block_lt_of_cell? _ _ hx2)).trans hx2; replace hx3 := (hb.cell (World.block_lt_of_cell? _ _ hx3)).trans hx3; replace hx4 := (hb.cell (World.block_lt_of_cell? _ _ hx4)).trans hx4; have n_ := Qz.mk (qp HB.out hb); clear HB; have HB := n_; clear n_; have m_ := Qz.mk (HM.out.below hb); clear HM; have HM := m_; clear m_; replace hlk := met_look HM.out Try.underlying85 Try.underlying2 (zeroBool _) x.f0 hwf; clear hb) | (at_mapUpdate; refine wpList_met_store _ rfl _ _ _ 85 rfl 2 4 Try.underlying85 Try.underlying2 w1.heap.size K x.f0 (by rfl) (by rfl) (by rfl) hwf c2 HM.out ?_; intro w3 hm3 hg3; replace hv0 := cell_grown hg3 hv0 (by show w.heap.size ≠ w1.heap.size; omega); replace hv1 := cell_grown hg3 hv1 (by show w.heap.size ≠ w1.heap.size; omega); replace hv2 := cell_grown hg3 hv2 (by show w.heap.size ≠ w1.heap.size; omega); replace hv3 := cell_grown hg3 hv3 (by show w.heap.size ≠ w1.heap.size; omega); replace hx0 := cell_grown hg3 hx0 (by show wr.heap.size ≠ w1.heap.size; omega); replace hx1 := cell_grown hg3 hx1 (by show wr.heap.size ≠ w1.heap.size; omega); replace hx2 := cell_grown hg3 hx2 (by show wr.heap.size ≠ w1.heap.size; omega); replace hx3 := cell_grown hg3 hx3 (by show wr.heap.size ≠ w1.heap.size; omega); replace hx4 := cell_grown hg3 hx4 (by show wr.heap.size ≠ w1.heap.size; omega); have n_ := Qz.mk (HB.out.grown hg3 HB.out.size (fun q hq => by injection hq with hq; omega)); clear HB; have HB := n_; clear n_; clear HM; have HM := Qz.mk hm3; clear hm3 hg3; have q0 := (HB.out.cell (World.block_lt_of_cell? _ _ Q0.out)).trans Q0.out; have q1 := (HB.out.cell (World.block_lt_of_cell? _ _ Q1.out)).trans Q1.out; have q2 := (HB.out.cell (World.block_lt_of_cell? _ _ Q2.out)).trans Q2.out; have q3 := (HB.out.cell (World.block_lt_of_cell? _ _ Q3.out)).trans Q3.out; have q4 := (HB.out.cell (World.block_lt_of_cell? _ _ Q4.out)).trans Q4.out; have hxa0 := fun o => (((Below.refl _ w3).alloc (Nat.le_refl _) o).cell (World.block_lt_of_cell? _ _ hx0)).trans hx0; have hxa1 := fun o => (((Below.refl _ w3).alloc (Nat.le_refl _) o).cell (World.block_lt_of_cell? _ _ hx1)).trans hx1; have hxa2 := fun o => (((Below.refl _ w3).alloc (Nat.le_refl _) o).cell (World.block_lt_of_cell? _ _ hx2)).trans hx2; have hxa3 := fun o => (((Below.refl _ w3).alloc (Nat.le_refl _) o).cell (World.block_lt_of_cell? _ _ hx3)).trans hx3; have hxa4 := fun o => (((Below.refl _ w3).alloc (Nat.le_refl _) o).cell (World.block_lt_of_cell? _ _ hx4)).trans hx4; have hpa0 : (w3.alloc (.cells #[.int .i64 p.f0, .int .i64 p.f1, .string p.f2, .string p.f3, .int .i64 p.f4] 66)).cell? ⟨w3.heap.size, 0, none⟩ = some (.int .i64 p.f0) := (by simp); have hpa1 : (w3.alloc (.cells #[.int .i64 p.f0, .int .i64 p.f1, .string p.f2, .string p.f3, .int .i64 p.f4] 66)).cell? ⟨w3.heap.size, 1, none⟩ = some (.int .i64 p.f1) := (by simp); have hpa2 : (w3.alloc (.cells #[.int .i64 p.f0, .int .i64 p.f1, .string p.f2, .string p.f3, .int .i64 p.f4] 66)).cell? ⟨w3.heap.size, 2, none⟩ = some (.string p.f2) := (by simp); have hpa3 : (w3.alloc (.cells #[.int .i64 p.f0, .int .i64 p.f1, .string p.f2, .string p.f3, .int .i64 p.f4] 66)).cell? ⟨w3.heap.size, 3, none⟩ = some (.string p.f3) := (by simp); have hpa4 : (w3.alloc (.cells #[.int .i64 p.f0, .int .i64 p.f1, .string p.f2, .string p.f3, .int .i64 p.f4] 66)).cell? ⟨w3.heap.size, 4, none⟩ = some (.int .i64 p.f4) := (by simp)) | (go_at_call 67; (with_reducible refine (impl_cmpMetas.calls kc _ _ _ _ _ _ _ _ _ _ _ _ HKC.out).mono ?_); rintro e w4 ⟨rfl, hb⟩; (try replace hb := hb.below); replace hx0 := (hb.cell (World.block_lt_of_cell? _ _ (hxa0 _))).trans (hxa0 _); clear hxa0; replace hx1 := (hb.cell (World.block_lt_of_cell? _ _ (hxa1 _))).trans (hxa1 _); clear hxa1; replace hx2 := (hb.cell (World.block_lt_of_cell? _ _ (hxa2 _))).trans (hxa2 _); clear hxa2; replace hx3 := (hb.cell (World.block_lt_of_cell? _ _ (hxa3 _))).trans (hxa3 _); clear hxa3; replace hx4 := (hb.cell (World.block_lt_of_cell? _ _ (hxa4 _))).trans (hxa4 _); clear hxa4;have hp0 := (hb.cell (World.block_lt_of_cell? _ _ hpa0)).trans hpa0; clear hpa0; have hp1 := (hb.cell (World.block_lt_of_cell? _ _ hpa1)).trans hpa1; clear hpa1; have hp2 := (hb.cell (World.block_lt_of_cell? _ _ hpa2)).trans hpa2; clear hpa2; have hp3 := (hb.cell (World.block_lt_of_cell? _ _ hpa3)).trans hpa3; clear hpa3; have hp4 := (hb.cell (World.block_lt_of_cell? _ _ hpa4)).trans hpa4; clear hpa4;replace hv0 := (hb.cell (World.block_lt_of_cell? _ _ ((((Below.refl _ w3).alloc (Nat.le_refl _) _).cell (World.block_lt_of_cell? _ _ hv0)).trans hv0))).trans ((((Below.refl _ w3).alloc (Nat.le_refl _) _).cell (World.block_lt_of_cell? _ _ hv0)).trans hv0); replace hv1 := (hb.cell (World.block_lt_of_cell? _ _ ((((Below.refl _ w3).alloc (Nat.le_refl _) _).cell (World.block_lt_of_cell? _ _ hv1)).trans hv1))).trans ((((Below.refl _ w3).alloc (Nat.le_refl _) _).cell (World.block_lt_of_cell? _ _ hv1)).trans hv1); replace hv2 := (hb.cell (World.block_lt_of_cell? _ _ ((((Below.refl _ w3).alloc (Nat.le_refl _) _).cell (World.block_lt_of_cell? _ _ hv2)).trans hv2))).trans ((((Below.refl _ w3).alloc (Nat.le_refl _) _).cell (World.block_lt_of_cell? _ _ hv2)).trans hv2); replace hv3 := (hb.cell (World.block_lt_of_cell? _ _ ((((Below.refl _ w3).alloc (Nat.le_refl _) _).cell (World.block_lt_of_cell? _ _ hv3)).trans hv3))).trans ((((Below.refl _ w3).alloc (Nat.le_refl _) _).cell (World.block_lt_of_cell? _ _ hv3)).trans hv3); have n_ := Qz.mk (qp (HB.out.alloc HB.out.size _) hb); clear HB; have HB := n_; clear n_; have m_ := Qz.mk ((HM.out.kept (World.grownBy_alloc w3 _ none) (by simp)).below hb); clear HM; have HM := m_; clear m_ hb))
      go_roundg (l.length - (i + 1))
      case measure => omega
      case rel =>
        refine ⟨i + 1, by first | rfl | go_num, by omega, Nat.le_refl _, HB, ⟨?_⟩, ⟨fun j hj => ?_⟩, hv0, hv1, hv2, hv3⟩
        · rw [hT.out]; exact HM.out
        · by_cases e : j = i
          · subst e
            exact hK.out.2 ⟨⟨c1, c3, c4, c5, b6, c7⟩, c2, fun _ => ⟨by omega, fun h => by have h := h.2.2; unfold tless at h; rw [g4] at h; cases h⟩⟩
          · exact HOK.out j (by omega)
def impl_TakeFixed.f (a0 : ByteArray) : Option (Int × ByteArray × Bool) := if (a0.size : Int) < 4 then (some (0, (⟨#[]⟩ : ByteArray), false)) else (if 0 < (a0.size : Int) then (if 1 < (a0.size : Int) then (if 2 < (a0.size : Int) then (if 3 < (a0.size : Int) then (if 4 ≤ (a0.size : Int) then (some (Go.bits .or .u32 (Go.bits .or .u32 (Go.bits .or .u32 ((bt a0 0) % 4294967296) ((((bt a0 1) % 4294967296) * 256) % 4294967296)) ((((bt a0 2) % 4294967296) * 65536) % 4294967296)) ((((bt a0 3) % 4294967296) * 16777216) % 4294967296), a0.extract 4 a0.size, true)) else (none)) else (none)) else (none)) else (none)) else (none))
set_option maxHeartbeats 8000000 in
set_option maxRecDepth 100000 in
theorem impl_TakeFixed.calls (a0 : ByteArray) (r1 : Int) (r2 : ByteArray) (r3 : Bool) (w : World) (h : impl_TakeFixed.f a0 = some (r1, r2, r3)) :
  Calls Try.prog 122 #[.string a0] w fun e w' => e = .returned (.tuple #[.int .u32 r1, .string r2, .bool r3]) ∧ Drawn0 w w' := by
 have H : (if (a0.size : Int) < 4 then (some (0, (⟨#[]⟩ : ByteArray), false)) else (if 0 < (a0.size : Int) then (if 1 < (a0.size : Int) then (if 2 < (a0.size : Int) then (if 3 < (a0.size : Int) then (if 4 ≤ (a0.size : Int) then (some (Go.bits .or .u32 (Go.bits .or .u32 (Go.bits .or .u32 ((bt a0 0) % 4294967296) ((((bt a0 1) % 4294967296) * 256) % 4294967296)) ((((bt a0 2) % 4294967296) * 65536) % 4294967296)) ((((bt a0 3) % 4294967296) * 16777216) % 4294967296), a0.extract 4 a0.size, true)) else (none)) else (none)) else (none)) else (none)) else (none))) = some (r1, r2, r3) := h
 clear h
 by_cases c2 : (a0.size : Int) < 4
 ·rw [if_pos c2] at H
  have c2b0 : decide ((a0.size : Int) < 4) = true := decide_eq_true c2
  have c2b1 : decide (a0.size < 4) = true := decide_eq_true (by omega)
  clear c2
  simp only [Option.some.injEq, Prod.mk.injEq] at H
  obtain ⟨rfl, rfl, rfl⟩ := H
  go_enter Try.func122, Try.ntmps122
  go_wp2
  repeat (go_quiet (fail); try go_wp2)
  go_ret3
  exact ⟨by first | rfl | (simp; done) | (simp [*]; done), by repeat (first | exact Drawn0.refl _ | apply Drawn0.step)⟩
 ·rw [if_neg c2] at H
  have c2b0 : decide ((a0.size : Int) < 4) = false := decide_eq_false c2
  have c2b1 : decide (a0.size < 4) = false := decide_eq_false (by omega)
  clear c2
  by_cases c3 : 0 < (a0.size : Int)
  ·rw [if_pos c3] at H
   have c3b0 : decide (0 < (a0.size : Int)) = true := decide_eq_true c3
   have c3b1 : decide (0 < a0.size) = true := decide_eq_true (by omega)
   clear c3
   by_cases c5 : 1 < (a0.size : Int)
   ·rw [if_pos c5] at H
    have c5b0 : decide (1 < (a0.size : Int)) = true := decide_eq_true c5
    have c5b1 : decide (1 < a0.size) = true := decide_eq_true (by omega)
    clear c5
    by_cases c7 : 2 < (a0.size : Int)
    ·rw [if_pos c7] at H
     have c7b0 : decide (2 < (a0.size : Int)) = true := decide_eq_true c7
     have c7b1 : decide (2 < a0.size) = true := decide_eq_true (by omega)
     clear c7
     by_cases c9 : 3 < (a0.size : Int)
     ·rw [if_pos c9] at H
      have c9b0 : decide (3 < (a0.size : Int)) = true := decide_eq_true c9
      have c9b1 : decide (3 < a0.size) = true := decide_eq_true (by omega)
      clear c9
      by_cases c11 : 4 ≤ (a0.size : Int)
      ·rw [if_pos c11] at H
       have c11b0 := eq_true c11
       have c11b1 : decide (4 ≤ (a0.size : Int)) = true := decide_eq_true c11
       clear c11
       simp only [Option.some.injEq, Prod.mk.injEq] at H
       obtain ⟨rfl, rfl, rfl⟩ := H
       have p4 : 0 ≤ (0 : Int) := (by omega)
       have q4 : 0 < a0.size := (by have : (0 : Int) < (a0.size : Int) := of_decide_eq_true (by first | (with_reducible assumption) | assumption); omega)
       have hx4 : ∀ h : 0 < a0.size, ((a0[0]'h).toNat : Int) = bt a0 0 := bt_at a0 0
       clear p4
       have qi4 : (0 < (a0.size : Int)) = True := eq_true (of_decide_eq_true (by first | (with_reducible assumption) | assumption))
       replace q4 := eq_true q4
       have p6 : 0 ≤ (1 : Int) := (by omega)
       have q6 : 1 < a0.size := (by have : (1 : Int) < (a0.size : Int) := of_decide_eq_true (by first | (with_reducible assumption) | assumption); omega)
       have hx6 : ∀ h : 1 < a0.size, ((a0[1]'h).toNat : Int) = bt a0 1 := bt_at a0 1
       clear p6
       have qi6 : (1 < (a0.size : Int)) = True := eq_true (of_decide_eq_true (by first | (with_reducible assumption) | assumption))
       replace q6 := eq_true q6
       have p8 : 0 ≤ (2 : Int) := (by omega)
       have q8 : 2 < a0.size := (by have : (2 : Int) < (a0.size : Int) := of_decide_eq_true (by first | (with_reducible assumption) | assumption); omega)
       have hx8 : ∀ h : 2 < a0.size, ((a0[2]'h).toNat : Int) = bt a0 2 := bt_at a0 2
       clear p8
       have qi8 : (2 < (a0.size : Int)) = True := eq_true (of_decide_eq_true (by first | (with_reducible assumption) | assumption))
       replace q8 := eq_true q8
       have p10 : 0 ≤ (3 : Int) := (by omega)
       have q10 : 3 < a0.size := (by have : (3 : Int) < (a0.size : Int) := of_decide_eq_true (by first | (with_reducible assumption) | assumption); omega)
       have hx10 : ∀ h : 3 < a0.size, ((a0[3]'h).toNat : Int) = bt a0 3 := bt_at a0 3
       clear p10
       have qi10 : (3 < (a0.size : Int)) = True := eq_true (of_decide_eq_true (by first | (with_reducible assumption) | assumption))
       replace q10 := eq_true q10
       go_enter Try.func122, Try.ntmps122
       go_wp2
       repeat (go_quiet (fail); try go_wp2)
       go_ret3
       exact ⟨by first | rfl | (simp; done) | (simp [*]; done), by repeat (first | exact Drawn0.refl _ | apply Drawn0.step)⟩
      ·rw [if_neg c11] at H
       exact absurd H (by simp)
     ·rw [if_neg c9] at H
      exact absurd H (by simp)
    ·rw [if_neg c7] at H
     exact absurd H (by simp)
   ·rw [if_neg c5] at H
    exact absurd H (by simp)
  ·rw [if_neg c3] at H
   exact absurd H (by simp)
mutual
def impl_TakeVar.l0 : Nat → ByteArray → Int → Int → Option (Int × ByteArray × Bool)
 | 0, _, _, _ => none
 | k + 1, x0, x5, x6 => if x6 < (x0.size : Int) then (impl_TakeVar.j1 k x0 x5 x6 (decide (x6 < 10))) else (impl_TakeVar.j1 k x0 x5 x6 false)
def impl_TakeVar.j1 : Nat → ByteArray → Int → Int → Bool → Option (Int × ByteArray × Bool)
 | 0, _, _, _, _ => none
 | k + 1, x0, x5, x6, x15 => if x15 = true then (if 0 ≤ x6 then (if x6 < (x0.size : Int) then (if x6 = 9 then (impl_TakeVar.j2 k x0 x5 x6 (IntKind.u64.wrap (Go.bits .and .u8 (bt x0 x6) 127)) (decide ((IntKind.u64.wrap (Go.bits .and .u8 (bt x0 x6) 127)) > 1))) else (impl_TakeVar.j2 k x0 x5 x6 (IntKind.u64.wrap (Go.bits .and .u8 (bt x0 x6) 127)) false)) else (none)) else (none)) else (some (0, (⟨#[]⟩ : ByteArray), false))
def impl_TakeVar.j2 : Nat → ByteArray → Int → Int → Int → Bool → Option (Int × ByteArray × Bool)
 | 0, _, _, _, _, _ => none
 | k + 1, x0, x5, x6, x7, x28 => if x28 = true then (some (0, (⟨#[]⟩ : ByteArray), false)) else (if 0 ≤ (wrap64 (7 * x6)) then (if 0 ≤ x6 then (if x6 < (x0.size : Int) then (if (bt x0 x6) ≥ 128 then (impl_TakeVar.l0 k x0 (Go.bits .or .u64 x5 (shl .u64 x7 (wrap64 (7 * x6)))) (wrap64 (x6 + 1))) else (if x7 = 0 then (if x6 > 0 then (some (0, (⟨#[]⟩ : ByteArray), false)) else (if 0 ≤ (wrap64 (x6 + 1)) then (if (wrap64 (x6 + 1)) ≤ (x0.size : Int) then (some (Go.bits .or .u64 x5 (shl .u64 x7 (wrap64 (7 * x6))), x0.extract ((wrap64 (x6 + 1)) : Int).toNat x0.size, true)) else (none)) else (none))) else (if 0 ≤ (wrap64 (x6 + 1)) then (if (wrap64 (x6 + 1)) ≤ (x0.size : Int) then (some (Go.bits .or .u64 x5 (shl .u64 x7 (wrap64 (7 * x6))), x0.extract ((wrap64 (x6 + 1)) : Int).toNat x0.size, true)) else (none)) else (none)))) else (none)) else (none)) else (none))
end
def impl_TakeVar.f (k : Nat) (a0 : ByteArray) : Option (Int × ByteArray × Bool) := impl_TakeVar.l0 k a0 0 0
set_option maxHeartbeats 8000000 in
set_option maxRecDepth 100000 in
theorem impl_TakeVar.calls (k : Nat) (a0 : ByteArray) (r1 : Int) (r2 : ByteArray) (r3 : Bool) (w : World) (h : impl_TakeVar.f k a0 = some (r1, r2, r3)) :
  Calls Try.prog 114 #[.string a0] w fun e w' => e = .returned (.tuple #[.int .u64 r1, .string r2, .bool r3]) ∧ Drawn0 w w' := by
 have H : (impl_TakeVar.l0 k a0 0 0) = some (r1, r2, r3) := h
 clear h
 have H' := Qz.mk H
 clear H
 go_enter Try.func114, Try.ntmps114
 go_wp2
 repeat (go_quiet (fail); try go_wp2)
 go_loopg [5, 6] k (fun kq v5 v6 w' => ∃ (x5_1 : Int) (x6_1 : Int), v5 = .int .u64 x5_1 ∧ v6 = .int .i64 x6_1 ∧ Qz (impl_TakeVar.l0 kq a0 x5_1 x6_1 = some (r1, r2, r3)) ∧ Qz (kq ≤ k) ∧ Drawn0 w w')
 case atStart => exact ⟨(0), (0), (by first | rfl | (simp; done) | (simp [*]; done)), (by first | rfl | (simp; done) | (simp [*]; done)), H', ⟨Nat.le_refl _⟩, by repeat (first | exact Drawn0.refl _ | apply Drawn0.step)⟩
 case round =>
  clear H'
  try clear c1
  obtain ⟨x5_1, x6_1, rfl, rfl, HA, HK1, ⟨m1, rfl⟩⟩ := hrel
  cases gk with
  | zero => exact absurd HA.out (by simp [impl_TakeVar.l0])
  | succ k1 =>
   have H := HA.out
   clear HA
   simp only [impl_TakeVar.l0] at H
   have HC2 := Qz.mk H
   clear H
   go_upto_region 3 with (fail)
   repeat (go_quiet (fail); go_upto_region 3 with (fail))
   go_cut [15] (fun v15 wc => ∃ (kq : Nat) (x15_1 : Bool), v15 = .bool x15_1 ∧ Qz (impl_TakeVar.j1 kq a0 x5_1 x6_1 x15_1 = some (r1, r2, r3)) ∧ Qz (kq ≤ k1) ∧ Drawn0 w wc)
   case first =>
    have H := HC2.out
    clear HC2
    by_cases c3 : x6_1 < (a0.size : Int)
    ·rw [if_pos c3] at H
     have c3b0 : decide (x6_1 < (a0.size : Int)) = true := decide_eq_true c3
     clear c3
     (first | rw [c3b0] | (simp only [i64_w, i32_w]; rw [c3b0]) | skip)
     have H' := Qz.mk H
     clear H
     go_wp2
     repeat (go_quiet (fail); try go_wp2)
     go_meet
     case rel => exact ⟨_, (decide (x6_1 < 10)), (by first | rfl | (simp; done) | (simp [*]; done)), H', ⟨by have := HK1.out; first | omega | exact Nat.le_refl _⟩, by repeat (first | exact Drawn0.refl _ | apply Drawn0.step)⟩
    ·rw [if_neg c3] at H
     have c3b0 : decide (x6_1 < (a0.size : Int)) = false := decide_eq_false c3
     clear c3
     (first | rw [c3b0] | (simp only [i64_w, i32_w]; rw [c3b0]) | skip)
     have H' := Qz.mk H
     clear H
     go_wp2
     repeat (go_quiet (fail); try go_wp2)
     go_meet
     case rel => exact ⟨_, (false), (by first | rfl | (simp; done) | (simp [*]; done)), H', ⟨by have := HK1.out; first | omega | exact Nat.le_refl _⟩, by repeat (first | exact Drawn0.refl _ | apply Drawn0.step)⟩
   case rest =>
    clear HC2
    try clear c1
    try clear p2
    try clear c3
    try clear c3b0
    obtain ⟨kq, x15_1, rfl, HA, HJ1, ⟨mc1, rfl⟩⟩ := hcut
    cases kq with
    | zero => exact absurd HA.out (by simp [impl_TakeVar.j1])
    | succ kj1 =>
     have H := HA.out
     clear HA
     simp only [impl_TakeVar.j1] at H
     by_cases c4 : x15_1 = true
     ·subst c4
      have H1 : (if 0 ≤ x6_1 then (if x6_1 < (a0.size : Int) then (if x6_1 = 9 then (impl_TakeVar.j2 kj1 a0 x5_1 x6_1 (IntKind.u64.wrap (Go.bits .and .u8 (bt a0 x6_1) 127)) (decide ((IntKind.u64.wrap (Go.bits .and .u8 (bt a0 x6_1) 127)) > 1))) else (impl_TakeVar.j2 kj1 a0 x5_1 x6_1 (IntKind.u64.wrap (Go.bits .and .u8 (bt a0 x6_1) 127)) false)) else (none)) else (none)) = some (r1, r2, r3) := by rw [if_pos rfl] at H; exact H
      clear H
      have H := H1
      clear H1
      by_cases c5 : 0 ≤ x6_1
      ·rw [if_pos c5] at H
       have c5b0 : decide (0 ≤ x6_1) = true := decide_eq_true c5
       clear c5
       by_cases c6 : x6_1 < (a0.size : Int)
       ·rw [if_pos c6] at H
        have c6b0 : decide (x6_1 < (a0.size : Int)) = true := decide_eq_true c6
        clear c6
        have HC8 := Qz.mk H
        clear H
        have p7 : 0 ≤ (x6_1 : Int) := of_decide_eq_true (by first | (with_reducible assumption) | assumption)
        have q7 : x6_1 < (a0.size : Int) := of_decide_eq_true (by first | (with_reducible assumption) | assumption)
        have hx7 := bt_at a0 x6_1
        replace p7 := eq_true p7
        replace q7 := eq_true q7
        go_upto_region 6 with (fail)
        repeat (go_quiet (fail); go_upto_region 6 with (fail))
        go_cut [28] (fun v28 wc => ∃ (kq : Nat) (x28_7 : Bool), v28 = .bool x28_7 ∧ Qz (impl_TakeVar.j2 kq a0 x5_1 x6_1 (IntKind.u64.wrap (Go.bits .and .u8 (bt a0 x6_1) 127)) x28_7 = some (r1, r2, r3)) ∧ Qz (kq ≤ kj1) ∧ Drawn0 w wc)
        case first =>
         have H := HC8.out
         clear HC8
         by_cases c9 : x6_1 = 9
         ·rw [if_pos c9] at H
          have c9b0 : (x6_1 == 9) = true := beq_iff_eq.mpr c9
          have c9b1 : (x6_1 != 9) = false := bne_eq_false_iff_eq.mpr c9
          clear c9
          (first | rw [c9b0] | (simp only [i64_w, i32_w]; rw [c9b0]) | skip)
          have H' := Qz.mk H
          clear H
          go_wp2
          repeat (go_quiet (fail); try go_wp2)
          go_meet
          case rel => exact ⟨_, (decide ((IntKind.u64.wrap (Go.bits .and .u8 (bt a0 x6_1) 127)) > 1)), (by first | rfl | (simp; done) | (simp [*]; done)), H', ⟨by have := HK1.out; have := HJ1.out; first | omega | exact Nat.le_refl _⟩, by repeat (first | exact Drawn0.refl _ | apply Drawn0.step)⟩
         ·rw [if_neg c9] at H
          have c9b0 : (x6_1 == 9) = false := beq_eq_false_iff_ne.mpr c9
          have c9b1 : (x6_1 != 9) = true := bne_iff_ne.mpr c9
          (first | rw [c9b0] | (simp only [i64_w, i32_w]; rw [c9b0]) | skip)
          have H' := Qz.mk H
          clear H
          go_wp2
          repeat (go_quiet (fail); try go_wp2)
          go_meet
          case rel => exact ⟨_, (false), (by first | rfl | (simp; done) | (simp [*]; done)), H', ⟨by have := HK1.out; have := HJ1.out; first | omega | exact Nat.le_refl _⟩, by repeat (first | exact Drawn0.refl _ | apply Drawn0.step)⟩
        case rest =>
         clear HC8
         try clear c1
         try clear p2
         try clear c3
         try clear c3b0
         try clear c4
         try clear c5
         try clear c5b0
         try clear c6
         try clear c6b0
         try clear p7
         try clear q7
         try clear hx7
         try clear c9
         try clear c9b0
         try clear c9b1
         try clear p2
         try clear p7
         try clear q7
         obtain ⟨kq, x28_7, rfl, HA, HJ7, ⟨mc7, rfl⟩⟩ := hcut
         cases kq with
         | zero => exact absurd HA.out (by simp [impl_TakeVar.j2])
         | succ kj7 =>
          have H := HA.out
          clear HA
          simp only [impl_TakeVar.j2] at H
          by_cases c10 : x28_7 = true
          ·subst c10
           have H1 : (some (0, (⟨#[]⟩ : ByteArray), false)) = some (r1, r2, r3) := by rw [if_pos rfl] at H; exact H
           clear H
           have H := H1
           clear H1
           simp only [Option.some.injEq, Prod.mk.injEq] at H
           obtain ⟨rfl, rfl, rfl⟩ := H
           go_wp2
           repeat (go_quiet (fail); try go_wp2)
           go_ret3
           exact ⟨by first | rfl | (simp; done) | (simp [*]; done), by repeat (first | exact Drawn0.refl _ | apply Drawn0.step)⟩
          ·replace c10 := Bool.eq_false_iff.mpr c10
           subst c10
           have H1 : (if 0 ≤ (wrap64 (7 * x6_1)) then (if 0 ≤ x6_1 then (if x6_1 < (a0.size : Int) then (if (bt a0 x6_1) ≥ 128 then (impl_TakeVar.l0 kj7 a0 (Go.bits .or .u64 x5_1 (shl .u64 (IntKind.u64.wrap (Go.bits .and .u8 (bt a0 x6_1) 127)) (wrap64 (7 * x6_1)))) (wrap64 (x6_1 + 1))) else (if (IntKind.u64.wrap (Go.bits .and .u8 (bt a0 x6_1) 127)) = 0 then (if x6_1 > 0 then (some (0, (⟨#[]⟩ : ByteArray), false)) else (if 0 ≤ (wrap64 (x6_1 + 1)) then (if (wrap64 (x6_1 + 1)) ≤ (a0.size : Int) then (some (Go.bits .or .u64 x5_1 (shl .u64 (IntKind.u64.wrap (Go.bits .and .u8 (bt a0 x6_1) 127)) (wrap64 (7 * x6_1))), a0.extract ((wrap64 (x6_1 + 1)) : Int).toNat a0.size, true)) else (none)) else (none))) else (if 0 ≤ (wrap64 (x6_1 + 1)) then (if (wrap64 (x6_1 + 1)) ≤ (a0.size : Int) then (some (Go.bits .or .u64 x5_1 (shl .u64 (IntKind.u64.wrap (Go.bits .and .u8 (bt a0 x6_1) 127)) (wrap64 (7 * x6_1))), a0.extract ((wrap64 (x6_1 + 1)) : Int).toNat a0.size, true)) else (none)) else (none)))) else (none)) else (none)) else (none)) = some (r1, r2, r3) := by rw [if_neg (show ¬ (false = true) by decide)] at H; exact H
           clear H
           have H := H1
           clear H1
           obtain ⟨ji11, hji11⟩ : ∃ j_ : Int, (wrap64 (7 * x6_1)) = j_ := ⟨_, rfl⟩
           replace H : (if 0 ≤ (ji11) then (if 0 ≤ x6_1 then (if x6_1 < (a0.size : Int) then (if (bt a0 x6_1) ≥ 128 then (impl_TakeVar.l0 kj7 a0 (Go.bits .or .u64 x5_1 (shl .u64 (IntKind.u64.wrap (Go.bits .and .u8 (bt a0 x6_1) 127)) (ji11))) (wrap64 (x6_1 + 1))) else (if (IntKind.u64.wrap (Go.bits .and .u8 (bt a0 x6_1) 127)) = 0 then (if x6_1 > 0 then (some (0, (⟨#[]⟩ : ByteArray), false)) else (if 0 ≤ (wrap64 (x6_1 + 1)) then (if (wrap64 (x6_1 + 1)) ≤ (a0.size : Int) then (some (Go.bits .or .u64 x5_1 (shl .u64 (IntKind.u64.wrap (Go.bits .and .u8 (bt a0 x6_1) 127)) (ji11)), a0.extract ((wrap64 (x6_1 + 1)) : Int).toNat a0.size, true)) else (none)) else (none))) else (if 0 ≤ (wrap64 (x6_1 + 1)) then (if (wrap64 (x6_1 + 1)) ≤ (a0.size : Int) then (some (Go.bits .or .u64 x5_1 (shl .u64 (IntKind.u64.wrap (Go.bits .and .u8 (bt a0 x6_1) 127)) (ji11)), a0.extract ((wrap64 (x6_1 + 1)) : Int).toNat a0.size, true)) else (none)) else (none)))) else (none)) else (none)) else (none)) = some (r1, r2, r3) := by first | (rw [hji11] at H; exact H) | (simp only [hji11] at H ⊢; exact H)
           have hji11w : (IntKind.i64.wrap (7 * x6_1)) = ji11 := (i64_w _).trans hji11
           by_cases c12 : 0 ≤ (ji11)
           ·rw [if_pos c12] at H
            have c12b0 := eq_true c12
            have c12b1 : decide (0 ≤ (ji11)) = true := decide_eq_true c12
            clear c12
            obtain ⟨ji13, hji13⟩ : ∃ j_ : Int, (shl .u64 (IntKind.u64.wrap (Go.bits .and .u8 (bt a0 x6_1) 127)) (ji11)) = j_ := ⟨_, rfl⟩
            replace H : (if 0 ≤ x6_1 then (if x6_1 < (a0.size : Int) then (if (bt a0 x6_1) ≥ 128 then (impl_TakeVar.l0 kj7 a0 (Go.bits .or .u64 x5_1 (ji13)) (wrap64 (x6_1 + 1))) else (if (IntKind.u64.wrap (Go.bits .and .u8 (bt a0 x6_1) 127)) = 0 then (if x6_1 > 0 then (some (0, (⟨#[]⟩ : ByteArray), false)) else (if 0 ≤ (wrap64 (x6_1 + 1)) then (if (wrap64 (x6_1 + 1)) ≤ (a0.size : Int) then (some (Go.bits .or .u64 x5_1 (ji13), a0.extract ((wrap64 (x6_1 + 1)) : Int).toNat a0.size, true)) else (none)) else (none))) else (if 0 ≤ (wrap64 (x6_1 + 1)) then (if (wrap64 (x6_1 + 1)) ≤ (a0.size : Int) then (some (Go.bits .or .u64 x5_1 (ji13), a0.extract ((wrap64 (x6_1 + 1)) : Int).toNat a0.size, true)) else (none)) else (none)))) else (none)) else (none)) = some (r1, r2, r3) := by first | (rw [hji13] at H; exact H) | (simp only [hji13] at H ⊢; exact H)
            have hji13_ : (IntKind.u64.wrap ((IntKind.u64.wrap (Go.bits .and .u8 (bt a0 x6_1) 127)) * 2 ^ min (ji11).toNat 64)) = ji13 := hji13
            have hji13z : (ji11) ≤ 64 → (IntKind.u64.wrap ((IntKind.u64.wrap (Go.bits .and .u8 (bt a0 x6_1) 127)) * 2 ^ (ji11).toNat)) = ji13 := shl_small hji13
            by_cases c14 : 0 ≤ x6_1
            ·rw [if_pos c14] at H
             have c14b0 : decide (0 ≤ x6_1) = true := decide_eq_true c14
             clear c14
             by_cases c15 : x6_1 < (a0.size : Int)
             ·rw [if_pos c15] at H
              have c15b0 : decide (x6_1 < (a0.size : Int)) = true := decide_eq_true c15
              clear c15
              by_cases c17 : (bt a0 x6_1) ≥ 128
              ·rw [if_pos c17] at H
               have c17b0 : decide (128 ≤ (bt a0 x6_1)) = true := decide_eq_true c17
               clear c17
               have H' := Qz.mk H
               clear H
               have p16 : 0 ≤ (x6_1 : Int) := of_decide_eq_true (by first | (with_reducible assumption) | assumption)
               have q16 : x6_1 < (a0.size : Int) := of_decide_eq_true (by first | (with_reducible assumption) | assumption)
               have hx16 := bt_at a0 x6_1
               replace p16 := eq_true p16
               replace q16 := eq_true q16
               go_wp2
               repeat (go_quiet (fail); try go_wp2)
               go_roundg kj7
               case measure => have := HK1.out; have := HJ1.out; have := HJ7.out; omega
               case rel => exact ⟨(Go.bits .or .u64 x5_1 (ji13)), (wrap64 (x6_1 + 1)), (by first | rfl | (simp; done) | (simp only [← hji13] <;> (first | rfl | simp)) | (simp [*]; done)), (by first | rfl | (simp; done) | (simp [*]; done)), H', ⟨by have := HK1.out; have := HJ1.out; have := HJ7.out; omega⟩, by repeat (first | exact Drawn0.refl _ | apply Drawn0.step)⟩
              ·rw [if_neg c17] at H
               have c17b0 : decide (128 ≤ (bt a0 x6_1)) = false := decide_eq_false c17
               clear c17
               by_cases c18 : (IntKind.u64.wrap (Go.bits .and .u8 (bt a0 x6_1) 127)) = 0
               ·rw [if_pos c18] at H
                have c18b0 : ((IntKind.u64.wrap (Go.bits .and .u8 (bt a0 x6_1) 127)) == 0) = true := beq_iff_eq.mpr c18
                have c18b1 : ((IntKind.u64.wrap (Go.bits .and .u8 (bt a0 x6_1) 127)) != 0) = false := bne_eq_false_iff_eq.mpr c18
                clear c18
                by_cases c19 : x6_1 > 0
                ·rw [if_pos c19] at H
                 have c19b0 : decide (0 < x6_1) = true := decide_eq_true c19
                 clear c19
                 simp only [Option.some.injEq, Prod.mk.injEq] at H
                 obtain ⟨rfl, rfl, rfl⟩ := H
                 have p16 : 0 ≤ (x6_1 : Int) := of_decide_eq_true (by first | (with_reducible assumption) | assumption)
                 have q16 : x6_1 < (a0.size : Int) := of_decide_eq_true (by first | (with_reducible assumption) | assumption)
                 have hx16 := bt_at a0 x6_1
                 replace p16 := eq_true p16
                 replace q16 := eq_true q16
                 go_wp2
                 repeat (go_quiet (fail); try go_wp2)
                 go_ret3
                 exact ⟨by first | rfl | (simp; done) | (simp only [← hji11, ← hji13] <;> (first | rfl | simp)) | (simp [*]; done), by repeat (first | exact Drawn0.refl _ | apply Drawn0.step)⟩
                ·rw [if_neg c19] at H
                 have c19b0 : decide (0 < x6_1) = false := decide_eq_false c19
                 clear c19
                 obtain ⟨ji20, hji20⟩ : ∃ j_ : Int, (wrap64 (x6_1 + 1)) = j_ := ⟨_, rfl⟩
                 replace H : (if 0 ≤ (ji20) then (if (ji20) ≤ (a0.size : Int) then (some (Go.bits .or .u64 x5_1 (ji13), a0.extract ((ji20) : Int).toNat a0.size, true)) else (none)) else (none)) = some (r1, r2, r3) := by first | (rw [hji20] at H; exact H) | (simp only [hji20] at H ⊢; exact H)
                 have hji20w : (IntKind.i64.wrap (x6_1 + 1)) = ji20 := (i64_w _).trans hji20
                 by_cases c21 : 0 ≤ (ji20)
                 ·rw [if_pos c21] at H
                  have c21b0 := eq_true c21
                  have c21b1 : decide (0 ≤ (ji20)) = true := decide_eq_true c21
                  clear c21
                  by_cases c22 : (ji20) ≤ (a0.size : Int)
                  ·rw [if_pos c22] at H
                   have c22b0 := eq_true c22
                   have c22b1 : decide ((ji20) ≤ (a0.size : Int)) = true := decide_eq_true c22
                   clear c22
                   simp only [Option.some.injEq, Prod.mk.injEq] at H
                   obtain ⟨rfl, rfl, rfl⟩ := H
                   have p16 : 0 ≤ (x6_1 : Int) := of_decide_eq_true (by first | (with_reducible assumption) | assumption)
                   have q16 : x6_1 < (a0.size : Int) := of_decide_eq_true (by first | (with_reducible assumption) | assumption)
                   have hx16 := bt_at a0 x6_1
                   replace p16 := eq_true p16
                   replace q16 := eq_true q16
                   go_wp2
                   repeat (go_quiet (fail); try go_wp2)
                   go_ret3
                   exact ⟨by first | rfl | (simp; done) | (simp only [← hji11, ← hji13, ← hji20] <;> (first | rfl | simp)) | (simp [*]; done), by repeat (first | exact Drawn0.refl _ | apply Drawn0.step)⟩
                  ·rw [if_neg c22] at H
                   exact absurd H (by simp)
                 ·rw [if_neg c21] at H
                  exact absurd H (by simp)
               ·rw [if_neg c18] at H
                have c18b0 : ((IntKind.u64.wrap (Go.bits .and .u8 (bt a0 x6_1) 127)) == 0) = false := beq_eq_false_iff_ne.mpr c18
                have c18b1 : ((IntKind.u64.wrap (Go.bits .and .u8 (bt a0 x6_1) 127)) != 0) = true := bne_iff_ne.mpr c18
                obtain ⟨ji23, hji23⟩ : ∃ j_ : Int, (wrap64 (x6_1 + 1)) = j_ := ⟨_, rfl⟩
                replace H : (if 0 ≤ (ji23) then (if (ji23) ≤ (a0.size : Int) then (some (Go.bits .or .u64 x5_1 (ji13), a0.extract ((ji23) : Int).toNat a0.size, true)) else (none)) else (none)) = some (r1, r2, r3) := by first | (rw [hji23] at H; exact H) | (simp only [hji23] at H ⊢; exact H)
                have hji23w : (IntKind.i64.wrap (x6_1 + 1)) = ji23 := (i64_w _).trans hji23
                by_cases c24 : 0 ≤ (ji23)
                ·rw [if_pos c24] at H
                 have c24b0 := eq_true c24
                 have c24b1 : decide (0 ≤ (ji23)) = true := decide_eq_true c24
                 clear c24
                 by_cases c25 : (ji23) ≤ (a0.size : Int)
                 ·rw [if_pos c25] at H
                  have c25b0 := eq_true c25
                  have c25b1 : decide ((ji23) ≤ (a0.size : Int)) = true := decide_eq_true c25
                  clear c25
                  simp only [Option.some.injEq, Prod.mk.injEq] at H
                  obtain ⟨rfl, rfl, rfl⟩ := H
                  have p16 : 0 ≤ (x6_1 : Int) := of_decide_eq_true (by first | (with_reducible assumption) | assumption)
                  have q16 : x6_1 < (a0.size : Int) := of_decide_eq_true (by first | (with_reducible assumption) | assumption)
                  have hx16 := bt_at a0 x6_1
                  replace p16 := eq_true p16
                  replace q16 := eq_true q16
                  go_wp2
                  repeat (go_quiet (fail); try go_wp2)
                  go_ret3
                  exact ⟨by first | rfl | (simp; done) | (simp only [← hji11, ← hji13, ← hji23] <;> (first | rfl | simp)) | (simp [*]; done), by repeat (first | exact Drawn0.refl _ | apply Drawn0.step)⟩
                 ·rw [if_neg c25] at H
                  exact absurd H (by simp)
                ·rw [if_neg c24] at H
                 exact absurd H (by simp)
             ·rw [if_neg c15] at H
              exact absurd H (by simp)
            ·rw [if_neg c14] at H
             exact absurd H (by simp)
           ·rw [if_neg c12] at H
            exact absurd H (by simp)
       ·rw [if_neg c6] at H
        exact absurd H (by simp)
      ·rw [if_neg c5] at H
       exact absurd H (by simp)
     ·replace c4 := Bool.eq_false_iff.mpr c4
      subst c4
      have H1 : (some (0, (⟨#[]⟩ : ByteArray), false)) = some (r1, r2, r3) := by rw [if_neg (show ¬ (false = true) by decide)] at H; exact H
      clear H
      have H := H1
      clear H1
      simp only [Option.some.injEq, Prod.mk.injEq] at H
      obtain ⟨rfl, rfl, rfl⟩ := H
      go_wp2
      repeat (go_quiet (fail); try go_wp2)
      go_ret3
      exact ⟨by first | rfl | (simp; done) | (simp [*]; done), by repeat (first | exact Drawn0.refl _ | apply Drawn0.step)⟩
def impl_TakeText.f (k : Nat) (a0 : ByteArray) : Option (ByteArray × ByteArray × Bool) := (impl_TakeVar.f k a0).bind fun bt101 => (if bt101.2.2 = true then (if bt101.1 > 60000 then (some ((⟨#[]⟩ : ByteArray), (⟨#[]⟩ : ByteArray), false)) else (if bt101.1 > (IntKind.u64.wrap ((bt101.2.1.size : Int))) then (some ((⟨#[]⟩ : ByteArray), (⟨#[]⟩ : ByteArray), false)) else (if 0 ≤ bt101.1 then (if bt101.1 ≤ (bt101.2.1.size : Int) then (some (bt101.2.1.extract 0 (bt101.1 : Int).toNat, bt101.2.1.extract (bt101.1 : Int).toNat bt101.2.1.size, true)) else (none)) else (none)))) else (some ((⟨#[]⟩ : ByteArray), (⟨#[]⟩ : ByteArray), false)))
set_option maxHeartbeats 8000000 in
set_option maxRecDepth 100000 in
theorem impl_TakeText.calls (k : Nat) (a0 : ByteArray) (r1 : ByteArray) (r2 : ByteArray) (r3 : Bool) (w : World) (h : impl_TakeText.f k a0 = some (r1, r2, r3)) :
  Calls Try.prog 115 #[.string a0] w fun e w' => e = .returned (.tuple #[.string r1, .string r2, .bool r3]) ∧ Drawn0 w w' := by
 have H : ((impl_TakeVar.f k a0).bind fun bt101 => (if bt101.2.2 = true then (if bt101.1 > 60000 then (some ((⟨#[]⟩ : ByteArray), (⟨#[]⟩ : ByteArray), false)) else (if bt101.1 > (IntKind.u64.wrap ((bt101.2.1.size : Int))) then (some ((⟨#[]⟩ : ByteArray), (⟨#[]⟩ : ByteArray), false)) else (if 0 ≤ bt101.1 then (if bt101.1 ≤ (bt101.2.1.size : Int) then (some (bt101.2.1.extract 0 (bt101.1 : Int).toNat, bt101.2.1.extract (bt101.1 : Int).toNat bt101.2.1.size, true)) else (none)) else (none)))) else (some ((⟨#[]⟩ : ByteArray), (⟨#[]⟩ : ByteArray), false)))) = some (r1, r2, r3) := h
 clear h
 replace H := Option.bind_eq_some_iff.mp H
 obtain ⟨⟨t101, t102, t103⟩, A20, H⟩ := H
 replace H : (if t103 = true then (if t101 > 60000 then (some ((⟨#[]⟩ : ByteArray), (⟨#[]⟩ : ByteArray), false)) else (if t101 > (IntKind.u64.wrap ((t102.size : Int))) then (some ((⟨#[]⟩ : ByteArray), (⟨#[]⟩ : ByteArray), false)) else (if 0 ≤ t101 then (if t101 ≤ (t102.size : Int) then (some (t102.extract 0 (t101 : Int).toNat, t102.extract (t101 : Int).toNat t102.size, true)) else (none)) else (none)))) else (some ((⟨#[]⟩ : ByteArray), (⟨#[]⟩ : ByteArray), false))) = some (r1, r2, r3) := H
 have A2 := Qz.mk A20
 clear A20
 by_cases c3 : t103 = true
 ·subst c3
  have H1 : (if t101 > 60000 then (some ((⟨#[]⟩ : ByteArray), (⟨#[]⟩ : ByteArray), false)) else (if t101 > (IntKind.u64.wrap ((t102.size : Int))) then (some ((⟨#[]⟩ : ByteArray), (⟨#[]⟩ : ByteArray), false)) else (if 0 ≤ t101 then (if t101 ≤ (t102.size : Int) then (some (t102.extract 0 (t101 : Int).toNat, t102.extract (t101 : Int).toNat t102.size, true)) else (none)) else (none)))) = some (r1, r2, r3) := by rw [if_pos rfl] at H; exact H
  clear H
  have H := H1
  clear H1
  by_cases c4 : t101 > 60000
  ·rw [if_pos c4] at H
   have c4b0 : decide (60000 < t101) = true := decide_eq_true c4
   clear c4
   simp only [Option.some.injEq, Prod.mk.injEq] at H
   obtain ⟨rfl, rfl, rfl⟩ := H
   go_enter Try.func115, Try.ntmps115
   go_wp2_with (first | (go_at_call 114; (with_reducible refine (impl_TakeVar.calls k a0 t101 t102 true _ A2.out).mono ?_); rintro e w' ⟨rfl, ⟨nd, rfl⟩⟩; (try first | exact ⟨rfl, _, World.drewN_drewN _ _ _⟩ | exact ⟨rfl, _, Eq.trans (World.drewN_drewN _ _ _) (congrArg (World.drewN _) (Nat.add_assoc _ _ _))⟩)))
   repeat (go_quiet (first | (go_at_call 114; (with_reducible refine (impl_TakeVar.calls k a0 t101 t102 true _ A2.out).mono ?_); rintro e w' ⟨rfl, ⟨nd, rfl⟩⟩; (try first | exact ⟨rfl, _, World.drewN_drewN _ _ _⟩ | exact ⟨rfl, _, Eq.trans (World.drewN_drewN _ _ _) (congrArg (World.drewN _) (Nat.add_assoc _ _ _))⟩))); try go_wp2_with (first | (go_at_call 114; (with_reducible refine (impl_TakeVar.calls k a0 t101 t102 true _ A2.out).mono ?_); rintro e w' ⟨rfl, ⟨nd, rfl⟩⟩; (try first | exact ⟨rfl, _, World.drewN_drewN _ _ _⟩ | exact ⟨rfl, _, Eq.trans (World.drewN_drewN _ _ _) (congrArg (World.drewN _) (Nat.add_assoc _ _ _))⟩))))
   go_ret3
   exact ⟨by first | rfl | (simp; done) | (simp [*]; done), by repeat (first | exact Drawn0.refl _ | apply Drawn0.step)⟩
  ·rw [if_neg c4] at H
   have c4b0 : decide (60000 < t101) = false := decide_eq_false c4
   clear c4
   by_cases c5 : t101 > (IntKind.u64.wrap ((t102.size : Int)))
   ·rw [if_pos c5] at H
    have c5b0 : decide ((IntKind.u64.wrap ((t102.size : Int))) < t101) = true := decide_eq_true c5
    clear c5
    simp only [Option.some.injEq, Prod.mk.injEq] at H
    obtain ⟨rfl, rfl, rfl⟩ := H
    go_enter Try.func115, Try.ntmps115
    go_wp2_with (first | (go_at_call 114; (with_reducible refine (impl_TakeVar.calls k a0 t101 t102 true _ A2.out).mono ?_); rintro e w' ⟨rfl, ⟨nd, rfl⟩⟩; (try first | exact ⟨rfl, _, World.drewN_drewN _ _ _⟩ | exact ⟨rfl, _, Eq.trans (World.drewN_drewN _ _ _) (congrArg (World.drewN _) (Nat.add_assoc _ _ _))⟩)))
    repeat (go_quiet (first | (go_at_call 114; (with_reducible refine (impl_TakeVar.calls k a0 t101 t102 true _ A2.out).mono ?_); rintro e w' ⟨rfl, ⟨nd, rfl⟩⟩; (try first | exact ⟨rfl, _, World.drewN_drewN _ _ _⟩ | exact ⟨rfl, _, Eq.trans (World.drewN_drewN _ _ _) (congrArg (World.drewN _) (Nat.add_assoc _ _ _))⟩))); try go_wp2_with (first | (go_at_call 114; (with_reducible refine (impl_TakeVar.calls k a0 t101 t102 true _ A2.out).mono ?_); rintro e w' ⟨rfl, ⟨nd, rfl⟩⟩; (try first | exact ⟨rfl, _, World.drewN_drewN _ _ _⟩ | exact ⟨rfl, _, Eq.trans (World.drewN_drewN _ _ _) (congrArg (World.drewN _) (Nat.add_assoc _ _ _))⟩))))
    go_ret3
    exact ⟨by first | rfl | (simp; done) | (simp [*]; done), by repeat (first | exact Drawn0.refl _ | apply Drawn0.step)⟩
   ·rw [if_neg c5] at H
    have c5b0 : decide ((IntKind.u64.wrap ((t102.size : Int))) < t101) = false := decide_eq_false c5
    clear c5
    by_cases c6 : 0 ≤ t101
    ·rw [if_pos c6] at H
     have c6b0 := eq_true c6
     have c6b1 : decide (0 ≤ t101) = true := decide_eq_true c6
     clear c6
     by_cases c7 : t101 ≤ (t102.size : Int)
     ·rw [if_pos c7] at H
      have c7b0 := eq_true c7
      have c7b1 : decide (t101 ≤ (t102.size : Int)) = true := decide_eq_true c7
      clear c7
      have c8b0 := eq_true (of_decide_eq_true (by first | (with_reducible assumption) | assumption) : 0 ≤ t101)
      have c9b0 := eq_true (of_decide_eq_true (by first | (with_reducible assumption) | assumption) : t101 ≤ (t102.size : Int))
      simp only [Option.some.injEq, Prod.mk.injEq] at H
      obtain ⟨rfl, rfl, rfl⟩ := H
      go_enter Try.func115, Try.ntmps115
      go_wp2_with (first | (go_at_call 114; (with_reducible refine (impl_TakeVar.calls k a0 t101 t102 true _ A2.out).mono ?_); rintro e w' ⟨rfl, ⟨nd, rfl⟩⟩; (try first | exact ⟨rfl, _, World.drewN_drewN _ _ _⟩ | exact ⟨rfl, _, Eq.trans (World.drewN_drewN _ _ _) (congrArg (World.drewN _) (Nat.add_assoc _ _ _))⟩)))
      repeat (go_quiet (first | (go_at_call 114; (with_reducible refine (impl_TakeVar.calls k a0 t101 t102 true _ A2.out).mono ?_); rintro e w' ⟨rfl, ⟨nd, rfl⟩⟩; (try first | exact ⟨rfl, _, World.drewN_drewN _ _ _⟩ | exact ⟨rfl, _, Eq.trans (World.drewN_drewN _ _ _) (congrArg (World.drewN _) (Nat.add_assoc _ _ _))⟩))); try go_wp2_with (first | (go_at_call 114; (with_reducible refine (impl_TakeVar.calls k a0 t101 t102 true _ A2.out).mono ?_); rintro e w' ⟨rfl, ⟨nd, rfl⟩⟩; (try first | exact ⟨rfl, _, World.drewN_drewN _ _ _⟩ | exact ⟨rfl, _, Eq.trans (World.drewN_drewN _ _ _) (congrArg (World.drewN _) (Nat.add_assoc _ _ _))⟩))))
      go_ret3
      exact ⟨by first | rfl | (simp; done) | (simp [*]; done), by repeat (first | exact Drawn0.refl _ | apply Drawn0.step)⟩
     ·rw [if_neg c7] at H
      exact absurd H (by simp)
    ·rw [if_neg c6] at H
     exact absurd H (by simp)
 ·replace c3 := Bool.eq_false_iff.mpr c3
  subst c3
  have H1 : (some ((⟨#[]⟩ : ByteArray), (⟨#[]⟩ : ByteArray), false)) = some (r1, r2, r3) := by rw [if_neg (show ¬ (false = true) by decide)] at H; exact H
  clear H
  have H := H1
  clear H1
  simp only [Option.some.injEq, Prod.mk.injEq] at H
  obtain ⟨rfl, rfl, rfl⟩ := H
  go_enter Try.func115, Try.ntmps115
  go_wp2_with (first | (go_at_call 114; (with_reducible refine (impl_TakeVar.calls k a0 t101 t102 false _ A2.out).mono ?_); rintro e w' ⟨rfl, ⟨nd, rfl⟩⟩; (try first | exact ⟨rfl, _, World.drewN_drewN _ _ _⟩ | exact ⟨rfl, _, Eq.trans (World.drewN_drewN _ _ _) (congrArg (World.drewN _) (Nat.add_assoc _ _ _))⟩)))
  repeat (go_quiet (first | (go_at_call 114; (with_reducible refine (impl_TakeVar.calls k a0 t101 t102 false _ A2.out).mono ?_); rintro e w' ⟨rfl, ⟨nd, rfl⟩⟩; (try first | exact ⟨rfl, _, World.drewN_drewN _ _ _⟩ | exact ⟨rfl, _, Eq.trans (World.drewN_drewN _ _ _) (congrArg (World.drewN _) (Nat.add_assoc _ _ _))⟩))); try go_wp2_with (first | (go_at_call 114; (with_reducible refine (impl_TakeVar.calls k a0 t101 t102 false _ A2.out).mono ?_); rintro e w' ⟨rfl, ⟨nd, rfl⟩⟩; (try first | exact ⟨rfl, _, World.drewN_drewN _ _ _⟩ | exact ⟨rfl, _, Eq.trans (World.drewN_drewN _ _ _) (congrArg (World.drewN _) (Nat.add_assoc _ _ _))⟩))))
  go_ret3
  exact ⟨by first | rfl | (simp; done) | (simp [*]; done), by repeat (first | exact Drawn0.refl _ | apply Drawn0.step)⟩
def IsS108 (w0 W : World) (g : Nat) (f0 : ByteArray) (f1 : Bool) : Prop := W.heap[g]? = some (.cells #[.string f0, .bool f1] 108 (0, 0)) ∧ w0.heap.size ≤ g
theorem IsS108.grown {w0 W : World} {g : Nat} {f0 : ByteArray} {f1 : Bool} {W1 : World} {row : Option Nat} (h : IsS108 w0 W g f0 f1) (hw : W.grownBy W1 row) (hne : some g ≠ row) : IsS108 w0 W1 g f0 f1 := by
 obtain ⟨hb, hg⟩ := h
 exact ⟨blk_grown hb hw hne, hg⟩
theorem IsS108.kept {w0 W : World} {g : Nat} {f0 : ByteArray} {f1 : Bool} {W1 : World} {S : Nat → Prop} (h : IsS108 w0 W g f0 f1) (hk : Kept W W1 S) (hne : ¬ S g) : IsS108 w0 W1 g f0 f1 := by
 obtain ⟨hb, hg⟩ := h
 exact ⟨blk_kept hb hk hne, hg⟩
theorem IsS108.below {w0 W : World} {g : Nat} {f0 : ByteArray} {f1 : Bool} {W1 : World} (h : IsS108 w0 W g f0 f1) (hw : Below W.heap.size W W1) : IsS108 w0 W1 g f0 f1 := h.grown (grown_of_below hw none) (by simp)
theorem IsS108.alloc {w0 W : World} {g : Nat} {f0 : ByteArray} {f1 : Bool} (h : IsS108 w0 W g f0 f1) (o : Obj) : IsS108 w0 (W.alloc o) g f0 f1 := h.below (qf (Below.refl _ _) o)
theorem IsS108.drewN {w0 W : World} {g : Nat} {f0 : ByteArray} {f1 : Bool} (h : IsS108 w0 W g f0 f1) (m : Nat) : IsS108 w0 (W.drewN m) g f0 f1 := h
theorem IsS108.drew {w0 W : World} {g : Nat} {f0 : ByteArray} {f1 : Bool} (h : IsS108 w0 W g f0 f1) : IsS108 w0 W.drew g f0 f1 := h
theorem IsS108.at_ {w0 W : World} {g : Nat} {f0 : ByteArray} {f1 : Bool} {w' : World} {m : Nat} (hq : W.drewN m = w') (h : IsS108 w0 W g f0 f1) : IsS108 w0 w' g f0 f1 := by subst hq; exact IsS108.drewN h m
theorem IsS108.apart {w0 W : World} {g : Nat} {f0 : ByteArray} {f1 : Bool} {α : Type} {d : Kd α} {e : Nat} {base : Nat} {ok : Nat → Prop} {v : Value} {xs : List α} (h : IsS108 w0 W g f0 f1) (ho : d.R e W base ok v xs) (ht : ∀ q, q ∈ e :: d.E → q ≠ 108) : d.R e W base (fun k => ok k ∧ k ≠ g) v xs := by
 obtain ⟨hb, hg⟩ := h
 exact Kd.R_types ho hb ht
theorem IsS108.own_ne {w0 W : World} {g : Nat} {f0 : ByteArray} {f1 : Bool} {α : Type} {d : Kd α} {e : Nat} {base : Nat} {ok : Nat → Prop} {v : Value} {xs : List α} (h : IsS108 w0 W g f0 f1) (ho : d.R e W base ok v xs) (ht : e ≠ 108) : some g ≠ v.ownBlock := by
 obtain ⟨hb, hg⟩ := h
 exact Kd.R_ne ho hb ht
theorem IsS108.lt {w0 W : World} {g : Nat} {f0 : ByteArray} {f1 : Bool} (h : IsS108 w0 W g f0 f1) : g < W.heap.size := by
 obtain ⟨hb, hg⟩ := h
 exact blk_lt hb
theorem IsS108.ge {w0 W : World} {g : Nat} {f0 : ByteArray} {f1 : Bool} (h : IsS108 w0 W g f0 f1) : w0.heap.size ≤ g := by
 obtain ⟨hb, hg⟩ := h
 exact hg
theorem IsS108.far {w0 W : World} {g : Nat} {f0 : ByteArray} {f1 : Bool} {p : Addr} (h : IsS108 w0 W g f0 f1) (hne : g ≠ p.block) (u : Value) : IsS108 w0 (W.setCell p u) g f0 f1 := by
 obtain ⟨hb, hg⟩ := h
 exact ⟨blk_far hb hne u, hg⟩
theorem cellS108_0 {W : World} {g : Nat} {f0 : ByteArray} {f1 : Bool} (h : W.heap[g]? = some (.cells #[.string f0, .bool f1] 108 (0, 0))) : W.cell? ⟨g, 0, none⟩ = some (.string f0) := (qe h 0).trans rfl
theorem IsS108.set_0 {w0 W : World} {g : Nat} {f0 : ByteArray} {f1 : Bool} (h : IsS108 w0 W g f0 f1) (x : ByteArray) : IsS108 w0 (W.setCell ⟨g, 0, none⟩ (.string x)) g x f1 := by
 obtain ⟨hb, hg⟩ := h
 exact ⟨by simpa using blk_set hb 0 (.string x), hg⟩
theorem cellS108_1 {W : World} {g : Nat} {f0 : ByteArray} {f1 : Bool} (h : W.heap[g]? = some (.cells #[.string f0, .bool f1] 108 (0, 0))) : W.cell? ⟨g, 1, none⟩ = some (.bool f1) := (qe h 1).trans rfl
theorem IsS108.set_1 {w0 W : World} {g : Nat} {f0 : ByteArray} {f1 : Bool} (h : IsS108 w0 W g f0 f1) (x : Bool) : IsS108 w0 (W.setCell ⟨g, 1, none⟩ (.bool x)) g f0 x := by
 obtain ⟨hb, hg⟩ := h
 exact ⟨by simpa using blk_set hb 1 (.bool x), hg⟩
def impl_taker_text.f (k : Nat) (s0_0 : ByteArray) (s0_1 : Bool) : Option (ByteArray × ByteArray × Bool) := (impl_TakeText.f k s0_0).bind fun bt101 => (if bt101.2.2 = true then (some (bt101.1, bt101.2.1, s0_1)) else (some ((⟨#[]⟩ : ByteArray), s0_0, true)))
set_option maxHeartbeats 8000000 in
set_option maxRecDepth 100000 in
theorem impl_taker_text.calls (k : Nat) (g : Nat) (s0_0 : ByteArray) (s0_1 : Bool) (r1 : ByteArray) (r2 : ByteArray) (r3 : Bool) (w0 w : World) (hI : IsS108 w0 w g s0_0 s0_1) (hB : Below w0.heap.size w0 w) (h : impl_taker_text.f k s0_0 s0_1 = some (r1, r2, r3)) :
  Calls Try.prog 87 #[.pointer (some ⟨g, 0, none⟩)] w fun e w' => e = .returned (.string r1) ∧ IsS108 w0 w' g r2 r3 ∧ Below w0.heap.size w0 w' ∧ KeepBut w w' g none := by
 have HI0 := Qz.mk hI
 have HK := Qz.mk (KeepBut.refl w g none)
 have HL := Qz.mk hB.size
 clear hI
 have HW0 := Qz.mk hB.size
 have HB := Qz.mk hB
 clear hB
 have H : ((impl_TakeText.f k s0_0).bind fun bt101 => (if bt101.2.2 = true then (some (bt101.1, bt101.2.1, s0_1)) else (some ((⟨#[]⟩ : ByteArray), s0_0, true)))) = some (r1, r2, r3) := h
 clear h
 replace H := Option.bind_eq_some_iff.mp H
 obtain ⟨⟨t101, t102, t103⟩, A20, H⟩ := H
 replace H : (if t103 = true then (some (t101, t102, s0_1)) else (some ((⟨#[]⟩ : ByteArray), s0_0, true))) = some (r1, r2, r3) := H
 have A2 := Qz.mk A20
 clear A20
 by_cases c3 : t103 = true
 ·subst c3
  have H1 : (some (t101, t102, s0_1)) = some (r1, r2, r3) := by rw [if_pos rfl] at H; exact H
  clear H
  have H := H1
  clear H1
  simp only [Option.some.injEq, Prod.mk.injEq] at H
  obtain ⟨rfl, rfl, rfl⟩ := H
  obtain ⟨HGz4, hgz4⟩ := HI0.out
  have hcz4_0 := cellS108_0 HGz4
  have hcz4_1 := cellS108_1 HGz4
  have hfz4_0 := qc HGz4 0
  have hfz4_1 := qc HGz4 1
  clear HGz4 hgz4
  go_enter Try.func87, Try.ntmps87
  go_wp2_with (first | ((with_reducible refine qm (f := 115) rfl ?_); refine qt (some 11) rfl rfl Try.func115 (by kernel_rfl) rfl #[.string s0_0] rfl (by (try simp only [List.map_toArray, List.map_cons, List.map_nil]); first | done | rfl) ?_; (with_reducible refine (impl_TakeText.calls k s0_0 t101 t102 true _ A2.out).mono ?_); rintro e w' ⟨rfl, ⟨nd, rfl⟩⟩; refine ⟨_, rfl, ?_⟩))
  go_ret
  exact ⟨by first | rfl | (simp [qo, qn] <;> rfl) | (simp [*, qo, qn] <;> rfl), by repeat (first | (with_reducible first | exact HI0.out | apply IsS108.alloc | apply IsS108.drewN | apply IsS108.drew | apply IsS108.set_0 | apply IsS108.set_1) | exact HI0.out), by repeat (first | (with_reducible first | exact HB.out | apply qf | apply qa | apply qd | refine qi ?_ (IsS108.ge HI0.out)) | exact HB.out), by repeat (first | (with_reducible first | exact HK.out | apply KeepBut.set_ | apply keep_drewN | apply keep_drew | apply keep_alloc) | exact HK.out)⟩
 ·replace c3 := Bool.eq_false_iff.mpr c3
  subst c3
  have H1 : (some ((⟨#[]⟩ : ByteArray), s0_0, true)) = some (r1, r2, r3) := by rw [if_neg (show ¬ (false = true) by decide)] at H; exact H
  clear H
  have H := H1
  clear H1
  simp only [Option.some.injEq, Prod.mk.injEq] at H
  obtain ⟨rfl, rfl, rfl⟩ := H
  obtain ⟨HGz5, hgz5⟩ := HI0.out
  have hcz5_0 := cellS108_0 HGz5
  have hcz5_1 := cellS108_1 HGz5
  have hfz5_0 := qc HGz5 0
  have hfz5_1 := qc HGz5 1
  clear HGz5 hgz5
  go_enter Try.func87, Try.ntmps87
  go_wp2_with (first | ((with_reducible refine qm (f := 115) rfl ?_); refine qt (some 11) rfl rfl Try.func115 (by kernel_rfl) rfl #[.string s0_0] rfl (by (try simp only [List.map_toArray, List.map_cons, List.map_nil]); first | done | rfl) ?_; (with_reducible refine (impl_TakeText.calls k s0_0 t101 t102 false _ A2.out).mono ?_); rintro e w' ⟨rfl, ⟨nd, rfl⟩⟩; refine ⟨_, rfl, ?_⟩))
  go_ret
  exact ⟨by first | rfl | (simp [qo, qn] <;> rfl) | (simp [*, qo, qn] <;> rfl), by repeat (first | (with_reducible first | exact HI0.out | apply IsS108.alloc | apply IsS108.drewN | apply IsS108.drew | apply IsS108.set_0 | apply IsS108.set_1) | exact HI0.out), by repeat (first | (with_reducible first | exact HB.out | apply qf | apply qa | apply qd | refine qi ?_ (IsS108.ge HI0.out)) | exact HB.out), by repeat (first | (with_reducible first | exact HK.out | apply KeepBut.set_ | apply keep_drewN | apply keep_drew | apply keep_alloc) | exact HK.out)⟩
def impl_taker_fixed.f (s0_0 : ByteArray) (s0_1 : Bool) : Option (Int × ByteArray × Bool) := (impl_TakeFixed.f s0_0).bind fun bt101 => (if bt101.2.2 = true then (some (wrap64 (bt101.1), bt101.2.1, s0_1)) else (some (0, s0_0, true)))
set_option maxHeartbeats 8000000 in
set_option maxRecDepth 100000 in
theorem impl_taker_fixed.calls (g : Nat) (s0_0 : ByteArray) (s0_1 : Bool) (r1 : Int) (r2 : ByteArray) (r3 : Bool) (w0 w : World) (hI : IsS108 w0 w g s0_0 s0_1) (hB : Below w0.heap.size w0 w) (h : impl_taker_fixed.f s0_0 s0_1 = some (r1, r2, r3)) :
  Calls Try.prog 112 #[.pointer (some ⟨g, 0, none⟩)] w fun e w' => e = .returned (.int .i64 r1) ∧ IsS108 w0 w' g r2 r3 ∧ Below w0.heap.size w0 w' ∧ KeepBut w w' g none := by
 have HI0 := Qz.mk hI
 have HK := Qz.mk (KeepBut.refl w g none)
 have HL := Qz.mk hB.size
 clear hI
 have HW0 := Qz.mk hB.size
 have HB := Qz.mk hB
 clear hB
 have H : ((impl_TakeFixed.f s0_0).bind fun bt101 => (if bt101.2.2 = true then (some (wrap64 (bt101.1), bt101.2.1, s0_1)) else (some (0, s0_0, true)))) = some (r1, r2, r3) := h
 clear h
 replace H := Option.bind_eq_some_iff.mp H
 obtain ⟨⟨t101, t102, t103⟩, A20, H⟩ := H
 replace H : (if t103 = true then (some (wrap64 (t101), t102, s0_1)) else (some (0, s0_0, true))) = some (r1, r2, r3) := H
 have A2 := Qz.mk A20
 clear A20
 by_cases c3 : t103 = true
 ·subst c3
  have H1 : (some (wrap64 (t101), t102, s0_1)) = some (r1, r2, r3) := by rw [if_pos rfl] at H; exact H
  clear H
  have H := H1
  clear H1
  simp only [Option.some.injEq, Prod.mk.injEq] at H
  obtain ⟨rfl, rfl, rfl⟩ := H
  obtain ⟨HGz4, hgz4⟩ := HI0.out
  have hcz4_0 := cellS108_0 HGz4
  have hcz4_1 := cellS108_1 HGz4
  have hfz4_0 := qc HGz4 0
  have hfz4_1 := qc HGz4 1
  clear HGz4 hgz4
  go_enter Try.func112, Try.ntmps112
  go_wp2_with (first | ((with_reducible refine qm (f := 122) rfl ?_); refine qt (some 11) rfl rfl Try.func122 (by kernel_rfl) rfl #[.string s0_0] rfl (by (try simp only [List.map_toArray, List.map_cons, List.map_nil]); first | done | rfl) ?_; (with_reducible refine (impl_TakeFixed.calls s0_0 t101 t102 true _ A2.out).mono ?_); rintro e w' ⟨rfl, ⟨nd, rfl⟩⟩; refine ⟨_, rfl, ?_⟩))
  go_ret
  exact ⟨by first | rfl | (simp [qo, qn] <;> rfl) | (simp [*, qo, qn] <;> rfl), by repeat (first | (with_reducible first | exact HI0.out | apply IsS108.alloc | apply IsS108.drewN | apply IsS108.drew | apply IsS108.set_0 | apply IsS108.set_1) | exact HI0.out), by repeat (first | (with_reducible first | exact HB.out | apply qf | apply qa | apply qd | refine qi ?_ (IsS108.ge HI0.out)) | exact HB.out), by repeat (first | (with_reducible first | exact HK.out | apply KeepBut.set_ | apply keep_drewN | apply keep_drew | apply keep_alloc) | exact HK.out)⟩
 ·replace c3 := Bool.eq_false_iff.mpr c3
  subst c3
  have H1 : (some (0, s0_0, true)) = some (r1, r2, r3) := by rw [if_neg (show ¬ (false = true) by decide)] at H; exact H
  clear H
  have H := H1
  clear H1
  simp only [Option.some.injEq, Prod.mk.injEq] at H
  obtain ⟨rfl, rfl, rfl⟩ := H
  obtain ⟨HGz5, hgz5⟩ := HI0.out
  have hcz5_0 := cellS108_0 HGz5
  have hcz5_1 := cellS108_1 HGz5
  have hfz5_0 := qc HGz5 0
  have hfz5_1 := qc HGz5 1
  clear HGz5 hgz5
  go_enter Try.func112, Try.ntmps112
  go_wp2_with (first | ((with_reducible refine qm (f := 122) rfl ?_); refine qt (some 11) rfl rfl Try.func122 (by kernel_rfl) rfl #[.string s0_0] rfl (by (try simp only [List.map_toArray, List.map_cons, List.map_nil]); first | done | rfl) ?_; (with_reducible refine (impl_TakeFixed.calls s0_0 t101 t102 false _ A2.out).mono ?_); rintro e w' ⟨rfl, ⟨nd, rfl⟩⟩; refine ⟨_, rfl, ?_⟩))
  go_ret
  exact ⟨by first | rfl | (simp [qo, qn] <;> rfl) | (simp [*, qo, qn] <;> rfl), by repeat (first | (with_reducible first | exact HI0.out | apply IsS108.alloc | apply IsS108.drewN | apply IsS108.drew | apply IsS108.set_0 | apply IsS108.set_1) | exact HI0.out), by repeat (first | (with_reducible first | exact HB.out | apply qf | apply qa | apply qd | refine qi ?_ (IsS108.ge HI0.out)) | exact HB.out), by repeat (first | (with_reducible first | exact HK.out | apply KeepBut.set_ | apply keep_drewN | apply keep_drew | apply keep_alloc) | exact HK.out)⟩
mutual
def impl_Crc.l0 : Nat → ByteArray → Int → Int → Int → Option (Int)
 | 0, _, _, _, _ => none
 | k + 1, x0, x3, x6, x7 => if x7 < x6 then (if 0 ≤ x7 then (if x7 < (x0.size : Int) then (impl_Crc.l1 k x0 (Go.bits .xor .u32 x3 ((bt x0 x7) % 4294967296)) x6 x7 0) else (none)) else (none)) else (some (Go.bits .xor .u32 4294967295 x3))
def impl_Crc.l1 : Nat → ByteArray → Int → Int → Int → Int → Option (Int)
 | 0, _, _, _, _, _ => none
 | k + 1, x0, x3, x6, x7, x16 => if x16 < 8 then (if (Go.bits .and .u32 x3 1) = 1 then (impl_Crc.l1 k x0 (Go.bits .xor .u32 (x3 / 2) 2197175160) x6 x7 (wrap64 (x16 + 1))) else (impl_Crc.l1 k x0 (x3 / 2) x6 x7 (wrap64 (x16 + 1)))) else (impl_Crc.l0 k x0 x3 x6 (wrap64 (x7 + 1)))
end
def impl_Crc.f (k : Nat) (a0 : ByteArray) : Option (Int) := impl_Crc.l0 k a0 4294967295 (a0.size : Int) 0
set_option maxHeartbeats 8000000 in
set_option maxRecDepth 100000 in
theorem impl_Crc.calls (k : Nat) (a0 : ByteArray) (r : Int) (w : World) (h : impl_Crc.f k a0 = some r) :
  Calls Try.prog 113 #[.string a0] w fun e w' => e = .returned (.int .u32 r) ∧ Drawn0 w w' := by
 have H : (impl_Crc.l0 k a0 4294967295 (a0.size : Int) 0) = some r := h
 clear h
 have H' := Qz.mk H
 clear H
 go_enter Try.func113, Try.ntmps113
 go_wp2
 go_loopg [3, 7] k (fun kq v3 v7 w' => ∃ (x3_1 : Int) (x7_1 : Int), v3 = .int .u32 x3_1 ∧ v7 = .int .i64 x7_1 ∧ Qz (impl_Crc.l0 kq a0 x3_1 (a0.size : Int) x7_1 = some r) ∧ Qz (kq ≤ k) ∧ Drawn0 w w')
 case atStart => exact ⟨(4294967295), (0), (by first | rfl | (simp; done) | (simp [*]; done)), (by first | rfl | (simp; done) | (simp [*]; done)), H', ⟨Nat.le_refl _⟩, by repeat (first | exact Drawn0.refl _ | apply Drawn0.step)⟩
 case round =>
  clear H'
  try clear c1
  obtain ⟨x3_1, x7_1, rfl, rfl, HA, HK1, ⟨m1, rfl⟩⟩ := hrel
  cases gk with
  | zero => exact absurd HA.out (by simp [impl_Crc.l0])
  | succ k1 =>
   have H := HA.out
   clear HA
   simp only [impl_Crc.l0] at H
   by_cases c2 : x7_1 < (a0.size : Int)
   ·rw [if_pos c2] at H
    have c2b0 : decide (x7_1 < (a0.size : Int)) = true := decide_eq_true c2
    clear c2
    by_cases c3 : 0 ≤ x7_1
    ·rw [if_pos c3] at H
     have c3b0 : decide (0 ≤ x7_1) = true := decide_eq_true c3
     clear c3
     by_cases c4 : x7_1 < (a0.size : Int)
     ·rw [if_pos c4] at H
      have c4b0 : decide (x7_1 < (a0.size : Int)) = true := decide_eq_true c4
      clear c4
      have H' := Qz.mk H
      clear H
      have p5 : 0 ≤ (x7_1 : Int) := of_decide_eq_true (by first | (with_reducible assumption) | assumption)
      have q5 : x7_1 < (a0.size : Int) := of_decide_eq_true (by first | (with_reducible assumption) | assumption)
      have hx5 := bt_at a0 x7_1
      replace p5 := eq_true p5
      replace q5 := eq_true q5
      go_wp2
      go_loopg [3, 16] k1 (fun kq v3 v16 w' => ∃ (x3_2 : Int) (x16_2 : Int), v3 = .int .u32 x3_2 ∧ v16 = .int .i64 x16_2 ∧ Qz (impl_Crc.l1 kq a0 x3_2 (a0.size : Int) x7_1 x16_2 = some r) ∧ Qz (kq ≤ k1) ∧ Drawn0 w w')
      case atStart => exact ⟨(Go.bits .xor .u32 x3_1 ((bt a0 x7_1) % 4294967296)), (0), (by first | rfl | (simp; done) | (simp [*]; done)), (by first | rfl | (simp; done) | (simp [*]; done)), H', ⟨Nat.le_refl _⟩, by repeat (first | exact Drawn0.refl _ | apply Drawn0.step)⟩
      case round =>
       clear H'
       try clear c1
       try clear c2
       try clear c2b0
       try clear p2
       try clear c3
       try clear c3b0
       try clear c4
       try clear c4b0
       try clear p5
       try clear q5
       try clear hx5
       try clear p5
       try clear q5
       obtain ⟨x3_2, x16_2, rfl, rfl, HA, HK2, ⟨m2, rfl⟩⟩ := hrel
       cases gk with
       | zero => exact absurd HA.out (by simp [impl_Crc.l1])
       | succ k2 =>
        have H := HA.out
        clear HA
        simp only [impl_Crc.l1] at H
        by_cases c6 : x16_2 < 8
        ·rw [if_pos c6] at H
         have c6b0 : decide (x16_2 < 8) = true := decide_eq_true c6
         clear c6
         by_cases c7 : (Go.bits .and .u32 x3_2 1) = 1
         ·rw [if_pos c7] at H
          have c7b0 : ((Go.bits .and .u32 x3_2 1) == 1) = true := beq_iff_eq.mpr c7
          have c7b1 : ((Go.bits .and .u32 x3_2 1) != 1) = false := bne_eq_false_iff_eq.mpr c7
          clear c7
          have H' := Qz.mk H
          clear H
          go_wp2
          go_roundg k2
          case measure => have := HK1.out; have := HK2.out; omega
          case rel => exact ⟨(Go.bits .xor .u32 (x3_2 / 2) 2197175160), (wrap64 (x16_2 + 1)), (by first | rfl | (simp; done) | (simp [*]; done)), (by first | rfl | (simp; done) | (simp [*]; done)), H', ⟨by have := HK1.out; have := HK2.out; omega⟩, by repeat (first | exact Drawn0.refl _ | apply Drawn0.step)⟩
         ·rw [if_neg c7] at H
          have c7b0 : ((Go.bits .and .u32 x3_2 1) == 1) = false := beq_eq_false_iff_ne.mpr c7
          have c7b1 : ((Go.bits .and .u32 x3_2 1) != 1) = true := bne_iff_ne.mpr c7
          have H' := Qz.mk H
          clear H
          go_wp2
          go_roundg k2
          case measure => have := HK1.out; have := HK2.out; omega
          case rel => exact ⟨(x3_2 / 2), (wrap64 (x16_2 + 1)), (by first | rfl | (simp; done) | (simp [*]; done)), (by first | rfl | (simp; done) | (simp [*]; done)), H', ⟨by have := HK1.out; have := HK2.out; omega⟩, by repeat (first | exact Drawn0.refl _ | apply Drawn0.step)⟩
        ·rw [if_neg c6] at H
         have c6b0 : decide (x16_2 < 8) = false := decide_eq_false c6
         clear c6
         have H' := Qz.mk H
         clear H
         go_wp2
         go_roundg k2
         case measure => have := HK1.out; have := HK2.out; omega
         case rel => exact ⟨(x3_2), (wrap64 (x7_1 + 1)), (by first | rfl | (simp; done) | (simp [*]; done)), (by first | rfl | (simp; done) | (simp [*]; done)), H', ⟨by have := HK1.out; have := HK2.out; omega⟩, by repeat (first | exact Drawn0.refl _ | apply Drawn0.step)⟩
     ·rw [if_neg c4] at H
      exact absurd H (by simp)
    ·rw [if_neg c3] at H
     exact absurd H (by simp)
   ·rw [if_neg c2] at H
    have c2b0 : decide (x7_1 < (a0.size : Int)) = false := decide_eq_false c2
    clear c2
    obtain rfl := Option.some.inj H
    go_wp2
    go_ret
    exact ⟨by first | rfl | (simp; done) | (simp [*]; done), by repeat (first | exact Drawn0.refl _ | apply Drawn0.step)⟩
def impl_taker_section.f (k : Nat) (s0_0 : ByteArray) (s0_1 : Bool) : Option (ByteArray × ByteArray × Bool) := (impl_taker_text.f k s0_0 s0_1).bind fun bt101 => ((impl_taker_fixed.f bt101.2.1 bt101.2.2).bind fun bt104 => ((impl_Crc.f k bt101.1).bind fun t107 => (if bt104.1 = (wrap64 (t107)) then (some (bt101.1, bt104.2.1, bt104.2.2)) else (some (bt101.1, bt104.2.1, true)))))
set_option maxHeartbeats 8000000 in
set_option maxRecDepth 100000 in
theorem impl_taker_section.calls (k : Nat) (g : Nat) (s0_0 : ByteArray) (s0_1 : Bool) (r1 : ByteArray) (r2 : ByteArray) (r3 : Bool) (w0 w : World) (hI : IsS108 w0 w g s0_0 s0_1) (hB : Below w0.heap.size w0 w) (h : impl_taker_section.f k s0_0 s0_1 = some (r1, r2, r3)) :
  Calls Try.prog 84 #[.pointer (some ⟨g, 0, none⟩)] w fun e w' => e = .returned (.string r1) ∧ IsS108 w0 w' g r2 r3 ∧ Below w0.heap.size w0 w' ∧ KeepBut w w' g none := by
 have HI0 := Qz.mk hI
 have HK := Qz.mk (KeepBut.refl w g none)
 have HL := Qz.mk hB.size
 clear hI
 have HW0 := Qz.mk hB.size
 have HB := Qz.mk hB
 clear hB
 have H : ((impl_taker_text.f k s0_0 s0_1).bind fun bt101 => ((impl_taker_fixed.f bt101.2.1 bt101.2.2).bind fun bt104 => ((impl_Crc.f k bt101.1).bind fun t107 => (if bt104.1 = (wrap64 (t107)) then (some (bt101.1, bt104.2.1, bt104.2.2)) else (some (bt101.1, bt104.2.1, true)))))) = some (r1, r2, r3) := h
 clear h
 replace H := Option.bind_eq_some_iff.mp H
 obtain ⟨⟨t101, t102, t103⟩, A20, H⟩ := H
 replace H : ((impl_taker_fixed.f t102 t103).bind fun bt104 => ((impl_Crc.f k t101).bind fun t107 => (if bt104.1 = (wrap64 (t107)) then (some (t101, bt104.2.1, bt104.2.2)) else (some (t101, bt104.2.1, true))))) = some (r1, r2, r3) := H
 have A2 := Qz.mk A20
 clear A20
 replace H := Option.bind_eq_some_iff.mp H
 obtain ⟨⟨t104, t105, t106⟩, A30, H⟩ := H
 replace H : ((impl_Crc.f k t101).bind fun t107 => (if t104 = (wrap64 (t107)) then (some (t101, t105, t106)) else (some (t101, t105, true)))) = some (r1, r2, r3) := H
 have A3 := Qz.mk A30
 clear A30
 replace H := Option.bind_eq_some_iff.mp H
 obtain ⟨t107, A40, H⟩ := H
 replace H : (if t104 = (wrap64 (t107)) then (some (t101, t105, t106)) else (some (t101, t105, true))) = some (r1, r2, r3) := H
 have A4 := Qz.mk A40
 clear A40
 by_cases c5 : t104 = (wrap64 (t107))
 ·rw [if_pos c5] at H
  have c5b0 : (t104 == (wrap64 (t107))) = true := beq_iff_eq.mpr c5
  have c5b1 : (t104 != (wrap64 (t107))) = false := bne_eq_false_iff_eq.mpr c5
  clear c5
  simp only [Option.some.injEq, Prod.mk.injEq] at H
  obtain ⟨rfl, rfl, rfl⟩ := H
  go_enter Try.func84, Try.ntmps84
  go_wp2_with (first | ((with_reducible refine qm (f := 87) rfl ?_); refine qt (some 5) rfl rfl Try.func87 (by kernel_rfl) rfl #[.pointer (some ⟨g, 0, none⟩)] rfl (by (try simp only [List.map_toArray, List.map_cons, List.map_nil]); first | done | rfl) ?_; (with_reducible refine (impl_taker_text.calls k g s0_0 s0_1 t101 t102 t103 w0 _ ?side1 ?side2 A2.out).mono ?_); (case side1 => repeat (first | (with_reducible first | exact HI0.out | apply IsS108.alloc | apply IsS108.drewN | apply IsS108.drew | apply IsS108.set_0 | apply IsS108.set_1) | exact HI0.out)); (case side2 => repeat (first | (with_reducible first | exact HB.out | apply qf | apply qa | apply qd | refine qi ?_ (IsS108.ge HI0.out)) | exact HB.out)); rintro e w6 ⟨rfl, hi, hb, hk⟩; refine ⟨_, rfl, ?_⟩; replace HK := Qz.mk (KeepBut.trans (by repeat (first | (with_reducible first | exact HK.out | apply KeepBut.set_ | apply keep_drewN | apply keep_drew | apply keep_alloc) | exact HK.out)) hk (.inl rfl)); replace HB := Qz.mk (hb); replace HI0 := Qz.mk (hi); (try clear hb); (try clear hk); (try clear hi)) | ((with_reducible refine qm (f := 112) rfl ?_); refine qt (some 8) rfl rfl Try.func112 (by kernel_rfl) rfl #[.pointer (some ⟨g, 0, none⟩)] rfl (by (try simp only [List.map_toArray, List.map_cons, List.map_nil]); first | done | rfl) ?_; (with_reducible refine (impl_taker_fixed.calls g t102 t103 t104 t105 t106 w0 _ ?side1 ?side2 A3.out).mono ?_); (case side1 => repeat (first | (with_reducible first | exact HI0.out | apply IsS108.alloc | apply IsS108.drewN | apply IsS108.drew | apply IsS108.set_0 | apply IsS108.set_1) | exact HI0.out)); (case side2 => repeat (first | (with_reducible first | exact HB.out | apply qf | apply qa | apply qd | refine qi ?_ (IsS108.ge HI0.out)) | exact HB.out)); rintro e w7 ⟨rfl, hi, hb, hk⟩; refine ⟨_, rfl, ?_⟩; replace HK := Qz.mk (KeepBut.trans (by repeat (first | (with_reducible first | exact HK.out | apply KeepBut.set_ | apply keep_drewN | apply keep_drew | apply keep_alloc) | exact HK.out)) hk (.inl rfl)); replace HB := Qz.mk (hb); replace HI0 := Qz.mk (hi); (try clear hb); (try clear hk); (try clear hi)) | ((with_reducible refine qm (f := 113) rfl ?_); refine qt (some 10) rfl rfl Try.func113 (by kernel_rfl) rfl #[.string t101] rfl (by (try simp only [List.map_toArray, List.map_cons, List.map_nil]); first | done | rfl) ?_; (with_reducible refine (impl_Crc.calls k t101 t107 _ A4.out).mono ?_); rintro e w' ⟨rfl, ⟨nd, rfl⟩⟩; refine ⟨_, rfl, ?_⟩; (try (rw [drewN_self w7]; generalize hq_ : World.drewN w7 _ = w7; have n0_ : Qz (IsS108 w0 w7 g t105 t106) := ⟨by rw [← hq_]; exact (by repeat (first | (with_reducible first | exact HI0.out | apply IsS108.alloc | apply IsS108.drewN | apply IsS108.drew | apply IsS108.set_0 | apply IsS108.set_1) | exact HI0.out))⟩; have n1_ : Qz (KeepBut w w7 g none) := ⟨by rw [← hq_]; exact (by repeat (first | (with_reducible first | exact HK.out | apply KeepBut.set_ | apply keep_drewN | apply keep_drew | apply keep_alloc) | exact HK.out))⟩; have n2_ : Qz (Below w0.heap.size w0 w7) := ⟨by rw [← hq_]; exact (by repeat (first | (with_reducible first | exact HB.out | apply qf | apply qa | apply qd | refine qi ?_ (IsS108.ge HI0.out)) | exact HB.out))⟩; clear HI0 HK HB hq_; have HI0 := n0_; have HK := n1_; have HB := n2_; clear n0_ n1_ n2_)); obtain ⟨HGz8, hgz8⟩ := HI0.out; have hcz8_0 := cellS108_0 HGz8; have hcz8_1 := cellS108_1 HGz8; have hfz8_0 := qc HGz8 0; have hfz8_1 := qc HGz8 1; clear HGz8 hgz8))
  go_ret
  exact ⟨by first | rfl | (simp [qo, qn] <;> rfl) | (simp [*, qo, qn] <;> rfl), by repeat (first | (with_reducible first | exact HI0.out | apply IsS108.alloc | apply IsS108.drewN | apply IsS108.drew | apply IsS108.set_0 | apply IsS108.set_1) | exact HI0.out), by repeat (first | (with_reducible first | exact HB.out | apply qf | apply qa | apply qd | refine qi ?_ (IsS108.ge HI0.out)) | exact HB.out), by repeat (first | (with_reducible first | exact HK.out | apply KeepBut.set_ | apply keep_drewN | apply keep_drew | apply keep_alloc) | exact HK.out)⟩
 ·rw [if_neg c5] at H
  have c5b0 : (t104 == (wrap64 (t107))) = false := beq_eq_false_iff_ne.mpr c5
  have c5b1 : (t104 != (wrap64 (t107))) = true := bne_iff_ne.mpr c5
  simp only [Option.some.injEq, Prod.mk.injEq] at H
  obtain ⟨rfl, rfl, rfl⟩ := H
  go_enter Try.func84, Try.ntmps84
  go_wp2_with (first | ((with_reducible refine qm (f := 87) rfl ?_); refine qt (some 5) rfl rfl Try.func87 (by kernel_rfl) rfl #[.pointer (some ⟨g, 0, none⟩)] rfl (by (try simp only [List.map_toArray, List.map_cons, List.map_nil]); first | done | rfl) ?_; (with_reducible refine (impl_taker_text.calls k g s0_0 s0_1 t101 t102 t103 w0 _ ?side1 ?side2 A2.out).mono ?_); (case side1 => repeat (first | (with_reducible first | exact HI0.out | apply IsS108.alloc | apply IsS108.drewN | apply IsS108.drew | apply IsS108.set_0 | apply IsS108.set_1) | exact HI0.out)); (case side2 => repeat (first | (with_reducible first | exact HB.out | apply qf | apply qa | apply qd | refine qi ?_ (IsS108.ge HI0.out)) | exact HB.out)); rintro e w9 ⟨rfl, hi, hb, hk⟩; refine ⟨_, rfl, ?_⟩; replace HK := Qz.mk (KeepBut.trans (by repeat (first | (with_reducible first | exact HK.out | apply KeepBut.set_ | apply keep_drewN | apply keep_drew | apply keep_alloc) | exact HK.out)) hk (.inl rfl)); replace HB := Qz.mk (hb); replace HI0 := Qz.mk (hi); (try clear hb); (try clear hk); (try clear hi)) | ((with_reducible refine qm (f := 112) rfl ?_); refine qt (some 8) rfl rfl Try.func112 (by kernel_rfl) rfl #[.pointer (some ⟨g, 0, none⟩)] rfl (by (try simp only [List.map_toArray, List.map_cons, List.map_nil]); first | done | rfl) ?_; (with_reducible refine (impl_taker_fixed.calls g t102 t103 t104 t105 t106 w0 _ ?side1 ?side2 A3.out).mono ?_); (case side1 => repeat (first | (with_reducible first | exact HI0.out | apply IsS108.alloc | apply IsS108.drewN | apply IsS108.drew | apply IsS108.set_0 | apply IsS108.set_1) | exact HI0.out)); (case side2 => repeat (first | (with_reducible first | exact HB.out | apply qf | apply qa | apply qd | refine qi ?_ (IsS108.ge HI0.out)) | exact HB.out)); rintro e w10 ⟨rfl, hi, hb, hk⟩; refine ⟨_, rfl, ?_⟩; replace HK := Qz.mk (KeepBut.trans (by repeat (first | (with_reducible first | exact HK.out | apply KeepBut.set_ | apply keep_drewN | apply keep_drew | apply keep_alloc) | exact HK.out)) hk (.inl rfl)); replace HB := Qz.mk (hb); replace HI0 := Qz.mk (hi); (try clear hb); (try clear hk); (try clear hi)) | ((with_reducible refine qm (f := 113) rfl ?_); refine qt (some 10) rfl rfl Try.func113 (by kernel_rfl) rfl #[.string t101] rfl (by (try simp only [List.map_toArray, List.map_cons, List.map_nil]); first | done | rfl) ?_; (with_reducible refine (impl_Crc.calls k t101 t107 _ A4.out).mono ?_); rintro e w' ⟨rfl, ⟨nd, rfl⟩⟩; refine ⟨_, rfl, ?_⟩; (try (rw [drewN_self w10]; generalize hq_ : World.drewN w10 _ = w10; have n0_ : Qz (IsS108 w0 w10 g t105 t106) := ⟨by rw [← hq_]; exact (by repeat (first | (with_reducible first | exact HI0.out | apply IsS108.alloc | apply IsS108.drewN | apply IsS108.drew | apply IsS108.set_0 | apply IsS108.set_1) | exact HI0.out))⟩; have n1_ : Qz (KeepBut w w10 g none) := ⟨by rw [← hq_]; exact (by repeat (first | (with_reducible first | exact HK.out | apply KeepBut.set_ | apply keep_drewN | apply keep_drew | apply keep_alloc) | exact HK.out))⟩; have n2_ : Qz (Below w0.heap.size w0 w10) := ⟨by rw [← hq_]; exact (by repeat (first | (with_reducible first | exact HB.out | apply qf | apply qa | apply qd | refine qi ?_ (IsS108.ge HI0.out)) | exact HB.out))⟩; clear HI0 HK HB hq_; have HI0 := n0_; have HK := n1_; have HB := n2_; clear n0_ n1_ n2_)); obtain ⟨HGz11, hgz11⟩ := HI0.out; have hcz11_0 := cellS108_0 HGz11; have hcz11_1 := cellS108_1 HGz11; have hfz11_0 := qc HGz11 0; have hfz11_1 := qc HGz11 1; clear HGz11 hgz11))
  go_ret
  exact ⟨by first | rfl | (simp [qo, qn] <;> rfl) | (simp [*, qo, qn] <;> rfl), by repeat (first | (with_reducible first | exact HI0.out | apply IsS108.alloc | apply IsS108.drewN | apply IsS108.drew | apply IsS108.set_0 | apply IsS108.set_1) | exact HI0.out), by repeat (first | (with_reducible first | exact HB.out | apply qf | apply qa | apply qd | refine qi ?_ (IsS108.ge HI0.out)) | exact HB.out), by repeat (first | (with_reducible first | exact HK.out | apply KeepBut.set_ | apply keep_drewN | apply keep_drew | apply keep_alloc) | exact HK.out)⟩
def impl_taker_whole.f (s0_0 : ByteArray) (s0_1 : Bool) : Option (Bool × ByteArray × Bool) := if s0_1 = true then (some (false, s0_0, s0_1)) else (some ((s0_0.toList == ([] : List UInt8)), s0_0, s0_1))
set_option maxHeartbeats 8000000 in
set_option maxRecDepth 100000 in
theorem impl_taker_whole.calls (g : Nat) (s0_0 : ByteArray) (s0_1 : Bool) (r1 : Bool) (r2 : ByteArray) (r3 : Bool) (w0 w : World) (hI : IsS108 w0 w g s0_0 s0_1) (hB : Below w0.heap.size w0 w) (h : impl_taker_whole.f s0_0 s0_1 = some (r1, r2, r3)) :
  Calls Try.prog 85 #[.pointer (some ⟨g, 0, none⟩)] w fun e w' => e = .returned (.bool r1) ∧ IsS108 w0 w' g r2 r3 ∧ Below w0.heap.size w0 w' ∧ KeepBut w w' g none := by
 have HI0 := Qz.mk hI
 have HK := Qz.mk (KeepBut.refl w g none)
 have HL := Qz.mk hB.size
 clear hI
 have HW0 := Qz.mk hB.size
 have HB := Qz.mk hB
 clear hB
 have H : (if s0_1 = true then (some (false, s0_0, s0_1)) else (some ((s0_0.toList == ([] : List UInt8)), s0_0, s0_1))) = some (r1, r2, r3) := h
 clear h
 by_cases c2 : s0_1 = true
 ·subst c2
  have H1 : (some (false, s0_0, true)) = some (r1, r2, r3) := by rw [if_pos rfl] at H; exact H
  clear H
  have H := H1
  clear H1
  simp only [Option.some.injEq, Prod.mk.injEq] at H
  obtain ⟨rfl, rfl, rfl⟩ := H
  obtain ⟨HGz3, hgz3⟩ := HI0.out
  have hcz3_0 := cellS108_0 HGz3
  have hcz3_1 := cellS108_1 HGz3
  have hfz3_0 := qc HGz3 0
  have hfz3_1 := qc HGz3 1
  clear HGz3 hgz3
  go_enter Try.func85, Try.ntmps85
  go_wp2
  go_ret
  exact ⟨by first | rfl | (simp [qo, qn] <;> rfl) | (simp [*, qo, qn] <;> rfl), by repeat (first | (with_reducible first | exact HI0.out | apply IsS108.alloc | apply IsS108.drewN | apply IsS108.drew | apply IsS108.set_0 | apply IsS108.set_1) | exact HI0.out), by repeat (first | (with_reducible first | exact HB.out | apply qf | apply qa | apply qd | refine qi ?_ (IsS108.ge HI0.out)) | exact HB.out), by repeat (first | (with_reducible first | exact HK.out | apply KeepBut.set_ | apply keep_drewN | apply keep_drew | apply keep_alloc) | exact HK.out)⟩
 ·replace c2 := Bool.eq_false_iff.mpr c2
  subst c2
  have H1 : (some ((s0_0.toList == ([] : List UInt8)), s0_0, false)) = some (r1, r2, r3) := by rw [if_neg (show ¬ (false = true) by decide)] at H; exact H
  clear H
  have H := H1
  clear H1
  simp only [Option.some.injEq, Prod.mk.injEq] at H
  obtain ⟨rfl, rfl, rfl⟩ := H
  obtain ⟨HGz4, hgz4⟩ := HI0.out
  have hcz4_0 := cellS108_0 HGz4
  have hcz4_1 := cellS108_1 HGz4
  have hfz4_0 := qc HGz4 0
  have hfz4_1 := qc HGz4 1
  clear HGz4 hgz4
  go_enter Try.func85, Try.ntmps85
  go_wp2
  go_ret
  exact ⟨by first | rfl | (simp [qo, qn] <;> rfl) | (simp [*, qo, qn] <;> rfl), by repeat (first | (with_reducible first | exact HI0.out | apply IsS108.alloc | apply IsS108.drewN | apply IsS108.drew | apply IsS108.set_0 | apply IsS108.set_1) | exact HI0.out), by repeat (first | (with_reducible first | exact HB.out | apply qf | apply qa | apply qd | refine qi ?_ (IsS108.ge HI0.out)) | exact HB.out), by repeat (first | (with_reducible first | exact HK.out | apply KeepBut.set_ | apply keep_drewN | apply keep_drew | apply keep_alloc) | exact HK.out)⟩
def impl_taker_number.f (k : Nat) (s0_0 : ByteArray) (s0_1 : Bool) : Option (Int × ByteArray × Bool) := (impl_TakeVar.f k s0_0).bind fun bt101 => (if bt101.2.2 = true then (if bt101.1 > 4611686018427387904 then (some (0, s0_0, true)) else (some (wrap64 (bt101.1), bt101.2.1, s0_1))) else (some (0, s0_0, true)))
set_option maxHeartbeats 8000000 in
set_option maxRecDepth 100000 in
theorem impl_taker_number.calls (k : Nat) (g : Nat) (s0_0 : ByteArray) (s0_1 : Bool) (r1 : Int) (r2 : ByteArray) (r3 : Bool) (w0 w : World) (hI : IsS108 w0 w g s0_0 s0_1) (hB : Below w0.heap.size w0 w) (h : impl_taker_number.f k s0_0 s0_1 = some (r1, r2, r3)) :
  Calls Try.prog 86 #[.pointer (some ⟨g, 0, none⟩)] w fun e w' => e = .returned (.int .i64 r1) ∧ IsS108 w0 w' g r2 r3 ∧ Below w0.heap.size w0 w' ∧ KeepBut w w' g none := by
 have HI0 := Qz.mk hI
 have HK := Qz.mk (KeepBut.refl w g none)
 have HL := Qz.mk hB.size
 clear hI
 have HW0 := Qz.mk hB.size
 have HB := Qz.mk hB
 clear hB
 have H : ((impl_TakeVar.f k s0_0).bind fun bt101 => (if bt101.2.2 = true then (if bt101.1 > 4611686018427387904 then (some (0, s0_0, true)) else (some (wrap64 (bt101.1), bt101.2.1, s0_1))) else (some (0, s0_0, true)))) = some (r1, r2, r3) := h
 clear h
 replace H := Option.bind_eq_some_iff.mp H
 obtain ⟨⟨t101, t102, t103⟩, A20, H⟩ := H
 replace H : (if t103 = true then (if t101 > 4611686018427387904 then (some (0, s0_0, true)) else (some (wrap64 (t101), t102, s0_1))) else (some (0, s0_0, true))) = some (r1, r2, r3) := H
 have A2 := Qz.mk A20
 clear A20
 by_cases c3 : t103 = true
 ·subst c3
  have H1 : (if t101 > 4611686018427387904 then (some (0, s0_0, true)) else (some (wrap64 (t101), t102, s0_1))) = some (r1, r2, r3) := by rw [if_pos rfl] at H; exact H
  clear H
  have H := H1
  clear H1
  by_cases c4 : t101 > 4611686018427387904
  ·rw [if_pos c4] at H
   have c4b0 : decide (4611686018427387904 < t101) = true := decide_eq_true c4
   clear c4
   simp only [Option.some.injEq, Prod.mk.injEq] at H
   obtain ⟨rfl, rfl, rfl⟩ := H
   obtain ⟨HGz5, hgz5⟩ := HI0.out
   have hcz5_0 := cellS108_0 HGz5
   have hcz5_1 := cellS108_1 HGz5
   have hfz5_0 := qc HGz5 0
   have hfz5_1 := qc HGz5 1
   clear HGz5 hgz5
   go_enter Try.func86, Try.ntmps86
   go_wp2_with (first | ((with_reducible refine qm (f := 114) rfl ?_); refine qt (some 11) rfl rfl Try.func114 (by kernel_rfl) rfl #[.string s0_0] rfl (by (try simp only [List.map_toArray, List.map_cons, List.map_nil]); first | done | rfl) ?_; (with_reducible refine (impl_TakeVar.calls k s0_0 t101 t102 true _ A2.out).mono ?_); rintro e w' ⟨rfl, ⟨nd, rfl⟩⟩; refine ⟨_, rfl, ?_⟩))
   go_ret
   exact ⟨by first | rfl | (simp [qo, qn] <;> rfl) | (simp [*, qo, qn] <;> rfl), by repeat (first | (with_reducible first | exact HI0.out | apply IsS108.alloc | apply IsS108.drewN | apply IsS108.drew | apply IsS108.set_0 | apply IsS108.set_1) | exact HI0.out), by repeat (first | (with_reducible first | exact HB.out | apply qf | apply qa | apply qd | refine qi ?_ (IsS108.ge HI0.out)) | exact HB.out), by repeat (first | (with_reducible first | exact HK.out | apply KeepBut.set_ | apply keep_drewN | apply keep_drew | apply keep_alloc) | exact HK.out)⟩
  ·rw [if_neg c4] at H
   have c4b0 : decide (4611686018427387904 < t101) = false := decide_eq_false c4
   clear c4
   simp only [Option.some.injEq, Prod.mk.injEq] at H
   obtain ⟨rfl, rfl, rfl⟩ := H
   obtain ⟨HGz6, hgz6⟩ := HI0.out
   have hcz6_0 := cellS108_0 HGz6
   have hcz6_1 := cellS108_1 HGz6
   have hfz6_0 := qc HGz6 0
   have hfz6_1 := qc HGz6 1
   clear HGz6 hgz6
   go_enter Try.func86, Try.ntmps86
   go_wp2_with (first | ((with_reducible refine qm (f := 114) rfl ?_); refine qt (some 11) rfl rfl Try.func114 (by kernel_rfl) rfl #[.string s0_0] rfl (by (try simp only [List.map_toArray, List.map_cons, List.map_nil]); first | done | rfl) ?_; (with_reducible refine (impl_TakeVar.calls k s0_0 t101 t102 true _ A2.out).mono ?_); rintro e w' ⟨rfl, ⟨nd, rfl⟩⟩; refine ⟨_, rfl, ?_⟩))
   go_ret
   exact ⟨by first | rfl | (simp [qo, qn] <;> rfl) | (simp [*, qo, qn] <;> rfl), by repeat (first | (with_reducible first | exact HI0.out | apply IsS108.alloc | apply IsS108.drewN | apply IsS108.drew | apply IsS108.set_0 | apply IsS108.set_1) | exact HI0.out), by repeat (first | (with_reducible first | exact HB.out | apply qf | apply qa | apply qd | refine qi ?_ (IsS108.ge HI0.out)) | exact HB.out), by repeat (first | (with_reducible first | exact HK.out | apply KeepBut.set_ | apply keep_drewN | apply keep_drew | apply keep_alloc) | exact HK.out)⟩
 ·replace c3 := Bool.eq_false_iff.mpr c3
  subst c3
  have H1 : (some (0, s0_0, true)) = some (r1, r2, r3) := by rw [if_neg (show ¬ (false = true) by decide)] at H; exact H
  clear H
  have H := H1
  clear H1
  simp only [Option.some.injEq, Prod.mk.injEq] at H
  obtain ⟨rfl, rfl, rfl⟩ := H
  obtain ⟨HGz7, hgz7⟩ := HI0.out
  have hcz7_0 := cellS108_0 HGz7
  have hcz7_1 := cellS108_1 HGz7
  have hfz7_0 := qc HGz7 0
  have hfz7_1 := qc HGz7 1
  clear HGz7 hgz7
  go_enter Try.func86, Try.ntmps86
  go_wp2_with (first | ((with_reducible refine qm (f := 114) rfl ?_); refine qt (some 11) rfl rfl Try.func114 (by kernel_rfl) rfl #[.string s0_0] rfl (by (try simp only [List.map_toArray, List.map_cons, List.map_nil]); first | done | rfl) ?_; (with_reducible refine (impl_TakeVar.calls k s0_0 t101 t102 false _ A2.out).mono ?_); rintro e w' ⟨rfl, ⟨nd, rfl⟩⟩; refine ⟨_, rfl, ?_⟩))
  go_ret
  exact ⟨by first | rfl | (simp [qo, qn] <;> rfl) | (simp [*, qo, qn] <;> rfl), by repeat (first | (with_reducible first | exact HI0.out | apply IsS108.alloc | apply IsS108.drewN | apply IsS108.drew | apply IsS108.set_0 | apply IsS108.set_1) | exact HI0.out), by repeat (first | (with_reducible first | exact HB.out | apply qf | apply qa | apply qd | refine qi ?_ (IsS108.ge HI0.out)) | exact HB.out), by repeat (first | (with_reducible first | exact HK.out | apply KeepBut.set_ | apply keep_drewN | apply keep_drew | apply keep_alloc) | exact HK.out)⟩
mutual
def impl_ReadVersion.j0 : Nat → Int → Bool → ByteArray → Bool → Int → Int → Int → Option ((List (S66)) × Int × Int × Int × Bool)
 | 0, _, _, _, _, _, _, _ => none
 | k + 1, x7, x36, x110000, x110001, x120001, x120002, x120003 => if x36 = true then (some (([] : List (S66)), 0, 0, 0, false)) else (impl_ReadVersion.l0 k x7 0 x110000 x110001 ([] : List (S66)) x120001 x120002 x120003)
def impl_ReadVersion.l0 : Nat → Int → Int → ByteArray → Bool → List (S66) → Int → Int → Int → Option ((List (S66)) × Int × Int × Int × Bool)
 | 0, _, _, _, _, _, _, _, _ => none
 | k + 1, x38, x39, x110000, x110001, x120000, x120001, x120002, x120003 => if x39 < x38 then ((impl_taker_number.f k x110000 x110001).bind fun bt123 => ((impl_taker_number.f k bt123.2.1 bt123.2.2).bind fun bt126 => ((impl_taker_text.f k bt126.2.1 bt126.2.2).bind fun bt129 => ((impl_taker_text.f k bt129.2.1 bt129.2.2).bind fun bt132 => ((impl_taker_number.f k bt132.2.1 bt132.2.2).bind fun bt135 => (if x120000.length < 2513169434916 then (impl_ReadVersion.l0 k x38 (wrap64 (x39 + 1)) bt135.2.1 bt135.2.2 (x120000 ++ [(⟨bt123.1, bt126.1, bt129.1, bt132.1, bt135.1⟩ : S66)]) x120001 x120002 x120003) else (none))))))) else ((impl_taker_whole.f x110000 x110001).bind fun bt141 => (if bt141.1 = true then ((impl_VersionOk.f x120000 x120001 x120002 x120003).bind fun t144 => (if t144 = true then (some (x120000, x120001, x120002, x120003, true)) else (some (([] : List (S66)), 0, 0, 0, false)))) else (some (([] : List (S66)), 0, 0, 0, false))))
end
def impl_ReadVersion.f (k : Nat) (a0 : ByteArray) : Option ((List (S66)) × Int × Int × Int × Bool) := (impl_taker_section.f k a0 false).bind fun bt103 => ((impl_taker_whole.f bt103.2.1 bt103.2.2).bind fun bt106 => (if bt106.1 = true then ((impl_taker_number.f k bt103.1 false).bind fun bt110 => ((impl_taker_number.f k bt110.2.1 bt110.2.2).bind fun bt113 => ((impl_taker_number.f k bt113.2.1 bt113.2.2).bind fun bt116 => ((impl_taker_number.f k bt116.2.1 bt116.2.2).bind fun bt120 => (if bt120.2.2 = true then (impl_ReadVersion.j0 k bt120.1 true bt120.2.1 bt120.2.2 bt110.1 bt113.1 bt116.1) else (impl_ReadVersion.j0 k bt120.1 (decide (bt120.1 > 30)) bt120.2.1 bt120.2.2 bt110.1 bt113.1 bt116.1)))))) else (some (([] : List (S66)), 0, 0, 0, false))))
def impl_ReadVersion.T12 : Bool × List (List Nat × List Nat) := (true, [([], []), ([0], [0]), ([], []), ([2], [2]), ([], []), ([4, 3], [4]), ([], []), ([6, 5], [6]), ([], []), ([8, 7], [8]), ([], []), ([10, 9], [10]), ([3, 5, 7, 9, 11], [3, 5, 7, 9, 11]), ([12], [12]), ([1, 13, 11], [1, 13]), ([0, 1, 2, 3, 4, 5, 6, 7, 8, 9, 10, 11, 12, 13, 14], []), ([15, 14, 14, 0, 1, 2, 3, 4, 5, 6, 7, 8, 9, 10, 11, 12, 13, 14], [14, 15])])
def impl_ReadVersion.B12 : List Nat := [0, 1, 0, 4, 0, 28, 0, 124, 0, 508, 0, 2044, 4092, 8188, 16383, 32767, 65535]
theorem impl_ReadVersion.tab12 : rtab .any (opsOf Try.f48 12) = impl_ReadVersion.T12 := by kernel_rfl
theorem impl_ReadVersion.bits12 : waitsOk impl_ReadVersion.T12.2 impl_ReadVersion.B12 = true := by kernel_rfl
set_option maxHeartbeats 8000000 in
set_option maxRecDepth 100000 in
theorem impl_ReadVersion.calls (k : Nat) (a0 : ByteArray) (r1 : List (S66)) (r2 : Int) (r3 : Int) (r4 : Int) (r5 : Bool) (w : World) (h : impl_ReadVersion.f k a0 = some (r1, r2, r3, r4, r5)) :
  Calls Try.prog 48 #[.string a0] w fun e w' => ∃ v0_ : Value, e = .returned (.tuple #[.agg #[v0_, .int .i64 r2, .int .i64 r3, .int .i64 r4], .bool r5]) ∧ Kd.R k66 66 w' w.heap.size (fun _ => True) v0_ r1 ∧ Below w.heap.size w w' := by
 have hu32 := Try.underlying32
 have hu108 := Try.underlying108
 have hu66 := Try.underlying66
 have HB := Qz.mk (Below.refl w.heap.size w)
 have H : ((impl_taker_section.f k a0 false).bind fun bt103 => ((impl_taker_whole.f bt103.2.1 bt103.2.2).bind fun bt106 => (if bt106.1 = true then ((impl_taker_number.f k bt103.1 false).bind fun bt110 => ((impl_taker_number.f k bt110.2.1 bt110.2.2).bind fun bt113 => ((impl_taker_number.f k bt113.2.1 bt113.2.2).bind fun bt116 => ((impl_taker_number.f k bt116.2.1 bt116.2.2).bind fun bt120 => (if bt120.2.2 = true then (impl_ReadVersion.j0 k bt120.1 true bt120.2.1 bt120.2.2 bt110.1 bt113.1 bt116.1) else (impl_ReadVersion.j0 k bt120.1 (decide (bt120.1 > 30)) bt120.2.1 bt120.2.2 bt110.1 bt113.1 bt116.1)))))) else (some (([] : List (S66)), 0, 0, 0, false))))) = some (r1, r2, r3, r4, r5) := h
 clear h
 replace H := Option.bind_eq_some_iff.mp H
 obtain ⟨⟨t103, t104, t105⟩, A20, H⟩ := H
 replace H : ((impl_taker_whole.f t104 t105).bind fun bt106 => (if bt106.1 = true then ((impl_taker_number.f k t103 false).bind fun bt110 => ((impl_taker_number.f k bt110.2.1 bt110.2.2).bind fun bt113 => ((impl_taker_number.f k bt113.2.1 bt113.2.2).bind fun bt116 => ((impl_taker_number.f k bt116.2.1 bt116.2.2).bind fun bt120 => (if bt120.2.2 = true then (impl_ReadVersion.j0 k bt120.1 true bt120.2.1 bt120.2.2 bt110.1 bt113.1 bt116.1) else (impl_ReadVersion.j0 k bt120.1 (decide (bt120.1 > 30)) bt120.2.1 bt120.2.2 bt110.1 bt113.1 bt116.1)))))) else (some (([] : List (S66)), 0, 0, 0, false)))) = some (r1, r2, r3, r4, r5) := H
 have A2 := Qz.mk A20
 clear A20
 replace H := Option.bind_eq_some_iff.mp H
 obtain ⟨⟨t106, t107, t108⟩, A30, H⟩ := H
 replace H : (if t106 = true then ((impl_taker_number.f k t103 false).bind fun bt110 => ((impl_taker_number.f k bt110.2.1 bt110.2.2).bind fun bt113 => ((impl_taker_number.f k bt113.2.1 bt113.2.2).bind fun bt116 => ((impl_taker_number.f k bt116.2.1 bt116.2.2).bind fun bt120 => (if bt120.2.2 = true then (impl_ReadVersion.j0 k bt120.1 true bt120.2.1 bt120.2.2 bt110.1 bt113.1 bt116.1) else (impl_ReadVersion.j0 k bt120.1 (decide (bt120.1 > 30)) bt120.2.1 bt120.2.2 bt110.1 bt113.1 bt116.1)))))) else (some (([] : List (S66)), 0, 0, 0, false))) = some (r1, r2, r3, r4, r5) := H
 have A3 := Qz.mk A30
 clear A30
 by_cases c4 : t106 = true
 ·subst c4
  have H1 : ((impl_taker_number.f k t103 false).bind fun bt110 => ((impl_taker_number.f k bt110.2.1 bt110.2.2).bind fun bt113 => ((impl_taker_number.f k bt113.2.1 bt113.2.2).bind fun bt116 => ((impl_taker_number.f k bt116.2.1 bt116.2.2).bind fun bt120 => (if bt120.2.2 = true then (impl_ReadVersion.j0 k bt120.1 true bt120.2.1 bt120.2.2 bt110.1 bt113.1 bt116.1) else (impl_ReadVersion.j0 k bt120.1 (decide (bt120.1 > 30)) bt120.2.1 bt120.2.2 bt110.1 bt113.1 bt116.1)))))) = some (r1, r2, r3, r4, r5) := by rw [if_pos rfl] at H; exact H
  clear H
  have H := H1
  clear H1
  replace H := Option.bind_eq_some_iff.mp H
  obtain ⟨⟨t110, t111, t112⟩, A50, H⟩ := H
  replace H : ((impl_taker_number.f k t111 t112).bind fun bt113 => ((impl_taker_number.f k bt113.2.1 bt113.2.2).bind fun bt116 => ((impl_taker_number.f k bt116.2.1 bt116.2.2).bind fun bt120 => (if bt120.2.2 = true then (impl_ReadVersion.j0 k bt120.1 true bt120.2.1 bt120.2.2 t110 bt113.1 bt116.1) else (impl_ReadVersion.j0 k bt120.1 (decide (bt120.1 > 30)) bt120.2.1 bt120.2.2 t110 bt113.1 bt116.1))))) = some (r1, r2, r3, r4, r5) := H
  have A5 := Qz.mk A50
  clear A50
  replace H := Option.bind_eq_some_iff.mp H
  obtain ⟨⟨t113, t114, t115⟩, A60, H⟩ := H
  replace H : ((impl_taker_number.f k t114 t115).bind fun bt116 => ((impl_taker_number.f k bt116.2.1 bt116.2.2).bind fun bt120 => (if bt120.2.2 = true then (impl_ReadVersion.j0 k bt120.1 true bt120.2.1 bt120.2.2 t110 t113 bt116.1) else (impl_ReadVersion.j0 k bt120.1 (decide (bt120.1 > 30)) bt120.2.1 bt120.2.2 t110 t113 bt116.1)))) = some (r1, r2, r3, r4, r5) := H
  have A6 := Qz.mk A60
  clear A60
  replace H := Option.bind_eq_some_iff.mp H
  obtain ⟨⟨t116, t117, t118⟩, A70, H⟩ := H
  replace H : ((impl_taker_number.f k t117 t118).bind fun bt120 => (if bt120.2.2 = true then (impl_ReadVersion.j0 k bt120.1 true bt120.2.1 bt120.2.2 t110 t113 t116) else (impl_ReadVersion.j0 k bt120.1 (decide (bt120.1 > 30)) bt120.2.1 bt120.2.2 t110 t113 t116))) = some (r1, r2, r3, r4, r5) := H
  have A7 := Qz.mk A70
  clear A70
  replace H := Option.bind_eq_some_iff.mp H
  obtain ⟨⟨t120, t121, t122⟩, A80, H⟩ := H
  replace H : (if t122 = true then (impl_ReadVersion.j0 k t120 true t121 t122 t110 t113 t116) else (impl_ReadVersion.j0 k t120 (decide (t120 > 30)) t121 t122 t110 t113 t116)) = some (r1, r2, r3, r4, r5) := H
  have A8 := Qz.mk A80
  clear A80
  have HC9 := Qz.mk H
  clear H
  go_enter Try.func48, Try.ntmps48
  go_upto_region 8 with (first | ((with_reducible refine gate_dst (N := 2) rfl ?_); refine qx ?hg (N := 2) ?hd (cs := #[.slice none 0 0, .int .i64 0, .int .i64 0, .int .i64 0]) (t := 32) ?hr ?_; (case hd => rfl); (case hg => rfl); (case hr => first | (go_simp; done) | (go_simp; rfl)); intro gb101 hg w10 hbox hb; have BK101 := Qz.mk (hbox); have GW101 := Qz.mk ((by rw [hg]; exact (qs (by repeat (first | (with_reducible first | exact HB.out | apply qf | apply qa | apply qd) | exact HB.out))) : w.heap.size ≤ gb101)); have GE101 := GW101; replace HB := Qz.mk (qp (by repeat (first | (with_reducible first | exact HB.out | apply qf | apply qa | apply qd) | exact HB.out)) hb); clear hb hbox hg) | ((with_reducible refine gate_dst (N := 10) rfl ?_); refine qx ?hg (N := 10) ?hd (cs := #[.string a0, .bool false]) (t := 108) ?hr ?_; (case hd => rfl); (case hg => rfl); (case hr => first | (go_simp; done) | (go_simp; rfl)); intro gb102 hg w11 hbox hb; have HI102 := Qz.mk ((⟨hbox, (by rw [hg]; exact (qs (by repeat (first | (with_reducible first | exact HB.out | apply qf | apply qa | apply qd | refine qi ?_ GE101.out) | exact HB.out))) : w.heap.size ≤ gb102)⟩ : IsS108 w w11 gb102 a0 false)); replace HB := Qz.mk (qp (by repeat (first | (with_reducible first | exact HB.out | apply qf | apply qa | apply qd | refine qi ?_ GE101.out) | exact HB.out)) hb); have NB101_102 := Qz.mk ((by rw [hg]; exact Nat.ne_of_lt (blk_lt (g := gb101) (o := .cells #[.slice none 0 0, .int .i64 0, .int .i64 0, .int .i64 0] 32 (0, 0)) (by (with_reducible repeat (first | refine qh ?_ _ | refine qj ?_ | refine qg ?_ _)); exact BK101.out)) : gb101 ≠ gb102)); have NB102_101 := Qz.mk ((by rw [hg]; exact Nat.ne_of_gt (blk_lt (g := gb101) (o := .cells #[.slice none 0 0, .int .i64 0, .int .i64 0, .int .i64 0] 32 (0, 0)) (by (with_reducible repeat (first | refine qh ?_ _ | refine qj ?_ | refine qg ?_ _)); exact BK101.out)) : gb102 ≠ gb101)); replace BK101 := Qz.mk (qr (g := gb101) (o := .cells #[.slice none 0 0, .int .i64 0, .int .i64 0, .int .i64 0] 32 (0, 0)) (by (with_reducible repeat (first | refine qh ?_ _ | refine qj ?_ | refine qg ?_ _)); exact BK101.out) hb); clear hb hbox hg) | ((with_reducible refine qm (f := 84) rfl ?_); refine qt (some 12) rfl rfl Try.func84 (by kernel_rfl) rfl #[.pointer (some ⟨gb102, 0, none⟩)] rfl (by (try simp only [List.map_toArray, List.map_cons, List.map_nil]); first | done | rfl) ?_; (with_reducible refine (impl_taker_section.calls k gb102 a0 false t103 t104 t105 w _ ?side1 ?side2 A2.out).mono ?_); (case side1 => repeat (first | (with_reducible first | exact HI102.out | apply IsS108.alloc | apply IsS108.drewN | apply IsS108.drew | apply IsS108.set_0 | apply IsS108.set_1 | apply (fun h_ => IsS108.far h_ NB102_101.out _)) | exact HI102.out)); (case side2 => repeat (first | (with_reducible first | exact HB.out | apply qf | apply qa | apply qd | refine qi ?_ (IsS108.ge HI102.out) | refine qi ?_ GE101.out) | exact HB.out)); rintro e w12 ⟨rfl, hi, hb, hk⟩; refine ⟨_, rfl, ?_⟩; replace BK101 := Qz.mk (KeepBut.blk hk (g' := gb101) (o := .cells #[.slice none 0 0, .int .i64 0, .int .i64 0, .int .i64 0] 32 (0, 0)) (by (with_reducible repeat (first | refine qh ?_ _ | refine qj ?_ | refine qg ?_ _)); exact BK101.out) NB101_102.out (by simp)); replace HB := Qz.mk (hb); replace HI102 := Qz.mk (hi); (try clear hb); (try clear hk); (try clear hi)) | ((with_reducible refine qm (f := 85) rfl ?_); refine qt (some 14) rfl rfl Try.func85 (by kernel_rfl) rfl #[.pointer (some ⟨gb102, 0, none⟩)] rfl (by (try simp only [List.map_toArray, List.map_cons, List.map_nil]); first | done | rfl) ?_; (with_reducible refine (impl_taker_whole.calls gb102 t104 t105 true t107 t108 w _ ?side1 ?side2 A3.out).mono ?_); (case side1 => repeat (first | (with_reducible first | exact HI102.out | apply IsS108.alloc | apply IsS108.drewN | apply IsS108.drew | apply IsS108.set_0 | apply IsS108.set_1 | apply (fun h_ => IsS108.far h_ NB102_101.out _)) | exact HI102.out)); (case side2 => repeat (first | (with_reducible first | exact HB.out | apply qf | apply qa | apply qd | refine qi ?_ (IsS108.ge HI102.out) | refine qi ?_ GE101.out) | exact HB.out)); rintro e w13 ⟨rfl, hi, hb, hk⟩; refine ⟨_, rfl, ?_⟩; replace BK101 := Qz.mk (KeepBut.blk hk (g' := gb101) (o := .cells #[.slice none 0 0, .int .i64 0, .int .i64 0, .int .i64 0] 32 (0, 0)) (by (with_reducible repeat (first | refine qh ?_ _ | refine qj ?_ | refine qg ?_ _)); exact BK101.out) NB101_102.out (by simp)); replace HB := Qz.mk (hb); replace HI102 := Qz.mk (hi); (try clear hb); (try clear hk); (try clear hi)) | ((with_reducible refine gate_dst (N := 19) rfl ?_); refine qx ?hg (N := 19) ?hd (cs := #[.string t103, .bool false]) (t := 108) ?hr ?_; (case hd => rfl); (case hg => rfl); (case hr => first | (go_simp; done) | (go_simp; rfl)); intro gb109 hg w14 hbox hb; have HI109 := Qz.mk ((⟨hbox, (by rw [hg]; exact (qs (by repeat (first | (with_reducible first | exact HB.out | apply qf | apply qa | apply qd | refine qi ?_ GE101.out) | exact HB.out))) : w.heap.size ≤ gb109)⟩ : IsS108 w w14 gb109 t103 false)); replace HB := Qz.mk (qp (by repeat (first | (with_reducible first | exact HB.out | apply qf | apply qa | apply qd | refine qi ?_ GE101.out) | exact HB.out)) hb); have NB101_109 := Qz.mk ((by rw [hg]; exact Nat.ne_of_lt (blk_lt (g := gb101) (o := .cells #[.slice none 0 0, .int .i64 0, .int .i64 0, .int .i64 0] 32 (0, 0)) (by (with_reducible repeat (first | refine qh ?_ _ | refine qj ?_ | refine qg ?_ _)); exact BK101.out)) : gb101 ≠ gb109)); have NB109_101 := Qz.mk ((by rw [hg]; exact Nat.ne_of_gt (blk_lt (g := gb101) (o := .cells #[.slice none 0 0, .int .i64 0, .int .i64 0, .int .i64 0] 32 (0, 0)) (by (with_reducible repeat (first | refine qh ?_ _ | refine qj ?_ | refine qg ?_ _)); exact BK101.out)) : gb109 ≠ gb101)); replace BK101 := Qz.mk (qr (g := gb101) (o := .cells #[.slice none 0 0, .int .i64 0, .int .i64 0, .int .i64 0] 32 (0, 0)) (by (with_reducible repeat (first | refine qh ?_ _ | refine qj ?_ | refine qg ?_ _)); exact BK101.out) hb); clear hb hbox hg) | ((with_reducible refine qm (f := 86) rfl ?_); refine qt (some 21) rfl rfl Try.func86 (by kernel_rfl) rfl #[.pointer (some ⟨gb109, 0, none⟩)] rfl (by (try simp only [List.map_toArray, List.map_cons, List.map_nil]); first | done | rfl) ?_; (with_reducible refine (impl_taker_number.calls k gb109 t103 false t110 t111 t112 w _ ?side1 ?side2 A5.out).mono ?_); (case side1 => repeat (first | (with_reducible first | exact HI109.out | apply IsS108.alloc | apply IsS108.drewN | apply IsS108.drew | apply IsS108.set_0 | apply IsS108.set_1 | apply (fun h_ => IsS108.far h_ NB109_101.out _)) | exact HI109.out)); (case side2 => repeat (first | (with_reducible first | exact HB.out | apply qf | apply qa | apply qd | refine qi ?_ (IsS108.ge HI109.out) | refine qi ?_ GE101.out) | exact HB.out)); rintro e w15 ⟨rfl, hi, hb, hk⟩; refine ⟨_, rfl, ?_⟩; replace BK101 := Qz.mk (KeepBut.blk hk (g' := gb101) (o := .cells #[.slice none 0 0, .int .i64 0, .int .i64 0, .int .i64 0] 32 (0, 0)) (by (with_reducible repeat (first | refine qh ?_ _ | refine qj ?_ | refine qg ?_ _)); exact BK101.out) NB101_109.out (by simp)); replace HB := Qz.mk (hb); replace HI109 := Qz.mk (hi); (try clear hb); (try clear hk); (try clear hi)) | ((with_reducible refine qm (f := 86) rfl ?_); refine qt (some 23) rfl rfl Try.func86 (by kernel_rfl) rfl #[.pointer (some ⟨gb109, 0, none⟩)] rfl (by (try simp only [List.map_toArray, List.map_cons, List.map_nil]); first | done | rfl) ?_; (with_reducible refine (impl_taker_number.calls k gb109 t111 t112 t113 t114 t115 w _ ?side1 ?side2 A6.out).mono ?_); (case side1 => repeat (first | (with_reducible first | exact HI109.out | apply IsS108.alloc | apply IsS108.drewN | apply IsS108.drew | apply IsS108.set_0 | apply IsS108.set_1 | apply (fun h_ => IsS108.far h_ NB109_101.out _)) | exact HI109.out)); (case side2 => repeat (first | (with_reducible first | exact HB.out | apply qf | apply qa | apply qd | refine qi ?_ (IsS108.ge HI109.out) | refine qi ?_ GE101.out) | exact HB.out)); rintro e w16 ⟨rfl, hi, hb, hk⟩; refine ⟨_, rfl, ?_⟩; replace BK101 := Qz.mk (KeepBut.blk hk (g' := gb101) (o := .cells #[.slice none 0 0, .int .i64 0, .int .i64 0, .int .i64 0] 32 (0, 0)) (by (with_reducible repeat (first | refine qh ?_ _ | refine qj ?_ | refine qg ?_ _)); exact BK101.out) NB101_109.out (by simp)); replace HB := Qz.mk (hb); replace HI109 := Qz.mk (hi); (try clear hb); (try clear hk); (try clear hi)) | ((with_reducible refine qm (f := 86) rfl ?_); refine qt (some 25) rfl rfl Try.func86 (by kernel_rfl) rfl #[.pointer (some ⟨gb109, 0, none⟩)] rfl (by (try simp only [List.map_toArray, List.map_cons, List.map_nil]); first | done | rfl) ?_; (with_reducible refine (impl_taker_number.calls k gb109 t114 t115 t116 t117 t118 w _ ?side1 ?side2 A7.out).mono ?_); (case side1 => repeat (first | (with_reducible first | exact HI109.out | apply IsS108.alloc | apply IsS108.drewN | apply IsS108.drew | apply IsS108.set_0 | apply IsS108.set_1 | apply (fun h_ => IsS108.far h_ NB109_101.out _)) | exact HI109.out)); (case side2 => repeat (first | (with_reducible first | exact HB.out | apply qf | apply qa | apply qd | refine qi ?_ (IsS108.ge HI109.out) | refine qi ?_ GE101.out) | exact HB.out)); rintro e w17 ⟨rfl, hi, hb, hk⟩; refine ⟨_, rfl, ?_⟩; replace BK101 := Qz.mk (KeepBut.blk hk (g' := gb101) (o := .cells #[.slice none 0 0, .int .i64 0, .int .i64 0, .int .i64 0] 32 (0, 0)) (by (with_reducible repeat (first | refine qh ?_ _ | refine qj ?_ | refine qg ?_ _)); exact BK101.out) NB101_109.out (by simp)); replace HB := Qz.mk (hb); replace HI109 := Qz.mk (hi); (try clear hb); (try clear hk); (try clear hi)) | ((with_reducible refine gate_dst (N := 6) rfl ?_); refine qx ?hg (N := 6) ?hd (cs := #[.slice none 0 0, .int .i64 0, .int .i64 0, .int .i64 0]) (t := 32) ?hr ?_; (case hd => rfl); (case hg => rfl); (case hr => first | (go_simp; done) | (go_simp; rfl)); intro gb119 hg w18 hbox hb; have BK119 := Qz.mk (hbox); have GW119 := Qz.mk ((by rw [hg]; exact (qs (by repeat (first | (with_reducible first | exact HB.out | apply qf | apply qa | apply qd | refine qi ?_ (IsS108.ge HI109.out) | refine qi ?_ GE101.out) | exact HB.out))) : w.heap.size ≤ gb119)); have GE119 := GW119; replace HB := Qz.mk (qp (by repeat (first | (with_reducible first | exact HB.out | apply qf | apply qa | apply qd | refine qi ?_ (IsS108.ge HI109.out) | refine qi ?_ GE101.out) | exact HB.out)) hb); have NB101_119 := Qz.mk ((by rw [hg]; exact Nat.ne_of_lt (blk_lt (g := gb101) (o := .cells #[.slice none 0 0, .int .i64 0, .int .i64 0, .int .i64 0] 32 (0, 0)) (by (with_reducible repeat (first | refine qh ?_ _ | refine qj ?_ | refine qg ?_ _)); exact BK101.out)) : gb101 ≠ gb119)); have NB119_101 := Qz.mk ((by rw [hg]; exact Nat.ne_of_gt (blk_lt (g := gb101) (o := .cells #[.slice none 0 0, .int .i64 0, .int .i64 0, .int .i64 0] 32 (0, 0)) (by (with_reducible repeat (first | refine qh ?_ _ | refine qj ?_ | refine qg ?_ _)); exact BK101.out)) : gb119 ≠ gb101)); replace BK101 := Qz.mk (qr (g := gb101) (o := .cells #[.slice none 0 0, .int .i64 0, .int .i64 0, .int .i64 0] 32 (0, 0)) (by (with_reducible repeat (first | refine qh ?_ _ | refine qj ?_ | refine qg ?_ _)); exact BK101.out) hb); have NB109_119 := Qz.mk ((by rw [hg]; exact Nat.ne_of_lt (IsS108.lt (show IsS108 w _ gb109 t117 t118 from by repeat (first | (with_reducible first | exact HI109.out | apply IsS108.alloc | apply IsS108.drewN | apply IsS108.drew | apply IsS108.set_0 | apply IsS108.set_1 | apply (fun h_ => IsS108.far h_ NB109_101.out _)) | exact HI109.out))) : gb109 ≠ gb119)); have NB119_109 := Qz.mk ((by rw [hg]; exact Nat.ne_of_gt (IsS108.lt (show IsS108 w _ gb109 t117 t118 from by repeat (first | (with_reducible first | exact HI109.out | apply IsS108.alloc | apply IsS108.drewN | apply IsS108.drew | apply IsS108.set_0 | apply IsS108.set_1 | apply (fun h_ => IsS108.far h_ NB109_101.out _)) | exact HI109.out))) : gb119 ≠ gb109)); replace HI109 := Qz.mk (IsS108.below (by repeat (first | (with_reducible first | exact HI109.out | apply IsS108.alloc | apply IsS108.drewN | apply IsS108.drew | apply IsS108.set_0 | apply IsS108.set_1 | apply (fun h_ => IsS108.far h_ NB109_101.out _)) | exact HI109.out)) hb); clear hb hbox hg; have hnb19 := NB119_101.out; have hnc19 := NB101_119.out; have hnb20 := NB119_109.out; have hnc20 := NB109_119.out; have hcz21_0 : w18.cell? ⟨gb119, 0, none⟩ = some (.slice none 0 0) := (qe BK119.out 0).trans rfl; have hcz21_1 : w18.cell? ⟨gb119, 1, none⟩ = some (.int .i64 0) := (qe BK119.out 1).trans rfl; have hcz21_2 : w18.cell? ⟨gb119, 2, none⟩ = some (.int .i64 0) := (qe BK119.out 2).trans rfl; have hcz21_3 : w18.cell? ⟨gb119, 3, none⟩ = some (.int .i64 0) := (qe BK119.out 3).trans rfl; have hfz21_0 := qc BK119.out 0; have hfz21_1 := qc BK119.out 1; have hfz21_2 := qc BK119.out 2; have hfz21_3 := qc BK119.out 3) | ((with_reducible refine qm (f := 86) rfl ?_); refine qt (some 28) rfl rfl Try.func86 (by kernel_rfl) rfl #[.pointer (some ⟨gb109, 0, none⟩)] rfl (by (try simp only [List.map_toArray, List.map_cons, List.map_nil]); first | done | rfl) ?_; (with_reducible refine (impl_taker_number.calls k gb109 t117 t118 t120 t121 t122 w _ ?side1 ?side2 A8.out).mono ?_); (case side1 => repeat (first | (with_reducible first | exact HI109.out | apply IsS108.alloc | apply IsS108.drewN | apply IsS108.drew | apply IsS108.set_0 | apply IsS108.set_1 | apply (fun h_ => IsS108.far h_ NB109_101.out _) | apply (fun h_ => IsS108.far h_ NB109_119.out _)) | exact HI109.out)); (case side2 => repeat (first | (with_reducible first | exact HB.out | apply qf | apply qa | apply qd | refine qi ?_ (IsS108.ge HI109.out) | refine qi ?_ GE101.out | refine qi ?_ GE119.out) | exact HB.out)); rintro e w22 ⟨rfl, hi, hb, hk⟩; refine ⟨_, rfl, ?_⟩; replace BK101 := Qz.mk (KeepBut.blk hk (g' := gb101) (o := .cells #[.slice none 0 0, .int .i64 0, .int .i64 0, .int .i64 0] 32 (0, 0)) (by (with_reducible repeat (first | refine qh ?_ _ | refine qj ?_ | refine qg ?_ _)); refine blk_far ?_ NB101_119.out _; (with_reducible repeat (first | refine qh ?_ _ | refine qj ?_ | refine qg ?_ _)); refine blk_far ?_ NB101_119.out _; (with_reducible repeat (first | refine qh ?_ _ | refine qj ?_ | refine qg ?_ _)); refine blk_far ?_ NB101_119.out _; (with_reducible repeat (first | refine qh ?_ _ | refine qj ?_ | refine qg ?_ _)); refine blk_far ?_ NB101_119.out _; (with_reducible repeat (first | refine qh ?_ _ | refine qj ?_ | refine qg ?_ _)); exact BK101.out) NB101_109.out (by simp)); replace BK119 := Qz.mk (KeepBut.blk hk (g' := gb119) (o := .cells #[.slice none 0 0, .int .i64 t110, .int .i64 t113, .int .i64 t116] 32 (0, 0)) (by (with_reducible repeat (first | refine qh ?_ _ | refine qj ?_ | refine qg ?_ _)); refine qu (cs := #[.slice none 0 0, .int .i64 t110, .int .i64 t113, .int .i64 0]) ?_ 3 _ rfl; (with_reducible repeat (first | refine qh ?_ _ | refine qj ?_ | refine qg ?_ _)); refine qu (cs := #[.slice none 0 0, .int .i64 t110, .int .i64 0, .int .i64 0]) ?_ 2 _ rfl; (with_reducible repeat (first | refine qh ?_ _ | refine qj ?_ | refine qg ?_ _)); refine qu (cs := #[.slice none 0 0, .int .i64 0, .int .i64 0, .int .i64 0]) ?_ 1 _ rfl; (with_reducible repeat (first | refine qh ?_ _ | refine qj ?_ | refine qg ?_ _)); refine qu (cs := #[.slice none 0 0, .int .i64 0, .int .i64 0, .int .i64 0]) ?_ 0 _ rfl; (with_reducible repeat (first | refine qh ?_ _ | refine qj ?_ | refine qg ?_ _)); exact BK119.out) NB119_109.out (by simp)); replace HB := Qz.mk (hb); replace HI109 := Qz.mk (hi); (try clear hb); (try clear hk); (try clear hi)))
  (try simp only [Act.put, sq1, sq2, sq3])
  go_cut [36] (fun v36 wc => ∃ (kq : Nat) (x36_8 : Bool), v36 = .bool x36_8 ∧ Qz (impl_ReadVersion.j0 kq t120 x36_8 t121 t122 t110 t113 t116 = some (r1, r2, r3, r4, r5)) ∧ Qz (kq ≤ k) ∧ Qz (wc.heap[gb101]? = some (.cells #[(.slice none 0 0), .int .i64 0, .int .i64 0, .int .i64 0] 32 (0, 0))) ∧ Qz (wc.heap[gb119]? = some (.cells #[(.slice none 0 0), .int .i64 t110, .int .i64 t113, .int .i64 t116] 32 (0, 0))) ∧ Qz (IsS108 w wc gb109 t121 t122) ∧ Qz (Below w.heap.size w wc))
  case first =>
   have H := HC9.out
   clear HC9
   by_cases c23 : t122 = true
   ·subst c23
    have H1 : (impl_ReadVersion.j0 k t120 true t121 true t110 t113 t116) = some (r1, r2, r3, r4, r5) := by rw [if_pos rfl] at H; exact H
    clear H
    have H := H1
    clear H1
    have H' := Qz.mk H
    clear H
    obtain ⟨HGz24, hgz24⟩ := HI109.out
    have hcz24_0 := cellS108_0 HGz24
    have hcz24_1 := cellS108_1 HGz24
    have hfz24_0 := qc HGz24 0
    have hfz24_1 := qc HGz24 1
    clear HGz24 hgz24
    go_wp2
    go_meet
    case rel => exact ⟨_, (true), (by first | rfl | (simp; done) | (simp [*]; done)), H', ⟨by first | omega | exact Nat.le_refl _⟩, ⟨by (with_reducible repeat (first | refine qh ?_ _ | refine qj ?_ | refine qg ?_ _)); exact BK101.out⟩, ⟨by (with_reducible repeat (first | refine qh ?_ _ | refine qj ?_ | refine qg ?_ _)); exact BK119.out⟩, ⟨by repeat (first | (with_reducible first | exact HI109.out | apply IsS108.alloc | apply IsS108.drewN | apply IsS108.drew | apply IsS108.set_0 | apply IsS108.set_1 | apply (fun h_ => IsS108.far h_ NB109_101.out _) | apply (fun h_ => IsS108.far h_ NB109_119.out _)) | exact HI109.out)⟩, ⟨by repeat (first | (with_reducible first | exact HB.out | apply qf | apply qa | apply qd | refine qi ?_ (IsS108.ge HI109.out) | refine qi ?_ GE101.out | refine qi ?_ GE119.out) | exact HB.out)⟩⟩
   ·replace c23 := Bool.eq_false_iff.mpr c23
    subst c23
    have H1 : (impl_ReadVersion.j0 k t120 (decide (t120 > 30)) t121 false t110 t113 t116) = some (r1, r2, r3, r4, r5) := by rw [if_neg (show ¬ (false = true) by decide)] at H; exact H
    clear H
    have H := H1
    clear H1
    have H' := Qz.mk H
    clear H
    obtain ⟨HGz25, hgz25⟩ := HI109.out
    have hcz25_0 := cellS108_0 HGz25
    have hcz25_1 := cellS108_1 HGz25
    have hfz25_0 := qc HGz25 0
    have hfz25_1 := qc HGz25 1
    clear HGz25 hgz25
    go_wp2
    go_meet
    case rel => exact ⟨_, (decide (t120 > 30)), (by first | rfl | (simp; done) | (simp [*]; done)), H', ⟨by first | omega | exact Nat.le_refl _⟩, ⟨by (with_reducible repeat (first | refine qh ?_ _ | refine qj ?_ | refine qg ?_ _)); exact BK101.out⟩, ⟨by (with_reducible repeat (first | refine qh ?_ _ | refine qj ?_ | refine qg ?_ _)); exact BK119.out⟩, ⟨by repeat (first | (with_reducible first | exact HI109.out | apply IsS108.alloc | apply IsS108.drewN | apply IsS108.drew | apply IsS108.set_0 | apply IsS108.set_1 | apply (fun h_ => IsS108.far h_ NB109_101.out _) | apply (fun h_ => IsS108.far h_ NB109_119.out _)) | exact HI109.out)⟩, ⟨by repeat (first | (with_reducible first | exact HB.out | apply qf | apply qa | apply qd | refine qi ?_ (IsS108.ge HI109.out) | refine qi ?_ GE101.out | refine qi ?_ GE119.out) | exact HB.out)⟩⟩
  case rest =>
   clear HC9
   try clear c1
   try clear c2
   try clear p2
   try clear c4
   try clear c8
   try clear c19
   try clear c20
   try clear c23
   try clear hcz21_0
   try clear hcz21_1
   try clear hcz21_2
   try clear hcz21_3
   try clear hcz24_0
   try clear hcz24_1
   try clear hcz25_0
   try clear hcz25_1
   try clear hfz21_0
   try clear hfz21_1
   try clear hfz21_2
   try clear hfz21_3
   try clear hfz24_0
   try clear hfz24_1
   try clear hfz25_0
   try clear hfz25_1
   obtain ⟨kq, x36_8, rfl, HA, HJ8, BK101, BK119, HI109, HB⟩ := hcut
   cases kq with
   | zero => exact absurd HA.out (by simp [impl_ReadVersion.j0])
   | succ kj8 =>
    have H := HA.out
    clear HA
    simp only [impl_ReadVersion.j0] at H
    by_cases c26 : x36_8 = true
    ·subst c26
     have H1 : (some (([] : List (S66)), 0, 0, 0, false)) = some (r1, r2, r3, r4, r5) := by rw [if_pos rfl] at H; exact H
     clear H
     have H := H1
     clear H1
     simp only [Option.some.injEq, Prod.mk.injEq] at H
     obtain ⟨rfl, rfl, rfl, rfl, rfl⟩ := H
     have hnb27 := NB101_119.out
     have hnc27 := NB119_101.out
     have hnb28 := NB101_109.out
     have hnc28 := NB109_101.out
     have hcz29_0 : wc.cell? ⟨gb101, 0, none⟩ = some (.slice none 0 0) := (qe BK101.out 0).trans rfl
     have hcz29_1 : wc.cell? ⟨gb101, 1, none⟩ = some (.int .i64 0) := (qe BK101.out 1).trans rfl
     have hcz29_2 : wc.cell? ⟨gb101, 2, none⟩ = some (.int .i64 0) := (qe BK101.out 2).trans rfl
     have hcz29_3 : wc.cell? ⟨gb101, 3, none⟩ = some (.int .i64 0) := (qe BK101.out 3).trans rfl
     have hfz29_0 := qc BK101.out 0
     have hfz29_1 := qc BK101.out 1
     have hfz29_2 := qc BK101.out 2
     have hfz29_3 := qc BK101.out 3
     go_wp2
     refine bodyPost_ret (results_ct rfl _ _ gb101 32 #[.slice none 0 0, .int .i64 0, .int .i64 0, .int .i64 0] (0, 0) _ rfl (by (with_reducible repeat (first | refine qh ?_ _ | refine qj ?_ | refine qg ?_ _)); refine qu (cs := #[.slice none 0 0, .int .i64 0, .int .i64 0, .int .i64 0]) ?_ 3 _ rfl; (with_reducible repeat (first | refine qh ?_ _ | refine qj ?_ | refine qg ?_ _)); refine qu (cs := #[.slice none 0 0, .int .i64 0, .int .i64 0, .int .i64 0]) ?_ 2 _ rfl; (with_reducible repeat (first | refine qh ?_ _ | refine qj ?_ | refine qg ?_ _)); refine qu (cs := #[.slice none 0 0, .int .i64 0, .int .i64 0, .int .i64 0]) ?_ 1 _ rfl; (with_reducible repeat (first | refine qh ?_ _ | refine qj ?_ | refine qg ?_ _)); refine qu (cs := #[.slice none 0 0, .int .i64 0, .int .i64 0, .int .i64 0]) ?_ 0 _ rfl; (with_reducible repeat (first | refine qh ?_ _ | refine qj ?_ | refine qg ?_ _)); exact BK101.out) Try.underlying32 rfl (by kernel_rfl)) rfl ?_
     exact ⟨_, by first | rfl | (simp [qo, qn] <;> rfl) | (simp [*, qo, qn] <;> rfl), by first | exact Kd.R_nil _ _ _ _ _ | exact Kd.N_nil _ _ _ _ _ | exact Kd.V_nil _ _ _ _ _ | exact Kd.Q_nil _ _ _ _ _ | exact Kd.S_nil _ _ _ _ _, by repeat (first | (with_reducible first | exact HB.out | apply qf | apply qa | apply qd | refine qi ?_ (IsS108.ge HI109.out) | refine qi ?_ GE101.out | refine qi ?_ GE119.out) | exact HB.out)⟩
    ·replace c26 := Bool.eq_false_iff.mpr c26
     subst c26
     have H1 : (impl_ReadVersion.l0 kj8 t120 0 t121 t122 ([] : List (S66)) t110 t113 t116) = some (r1, r2, r3, r4, r5) := by rw [if_neg (show ¬ (false = true) by decide)] at H; exact H
     clear H
     have H := H1
     clear H1
     have H' := Qz.mk H
     clear H
     go_wp2
     go_loopg [39] kj8 (fun kq v39 w' => ∃ (x39_2 : Int) (x110000_2 : ByteArray) (x110001_2 : Bool) (x120000_2 : List (S66)) (u120000 : Value), v39 = .int .i64 x39_2 ∧ Qz (impl_ReadVersion.l0 kq t120 x39_2 x110000_2 x110001_2 x120000_2 t110 t113 t116 = some (r1, r2, r3, r4, r5)) ∧ Qz (kq ≤ kj8) ∧ Qz (Kd.R k66 66 w' w.heap.size (fun _ => True) u120000 x120000_2) ∧ Qz (w'.heap[gb101]? = some (.cells #[(.slice none 0 0), .int .i64 0, .int .i64 0, .int .i64 0] 32 (0, 0))) ∧ Qz (w'.heap[gb119]? = some (.cells #[u120000, .int .i64 t110, .int .i64 t113, .int .i64 t116] 32 (0, 0))) ∧ Qz (IsS108 w w' gb109 x110000_2 x110001_2) ∧ Qz (Below w.heap.size w w'))
     case atStart => exact ⟨(0), (t121), (t122), (([] : List (S66))), (.slice none 0 0), (by first | rfl | (simp; done) | (simp [*]; done)), H', ⟨Nat.le_refl _⟩, ⟨by first | exact Kd.R_nil _ _ _ _ _ | exact Kd.N_nil _ _ _ _ _ | exact Kd.V_nil _ _ _ _ _ | exact Kd.Q_nil _ _ _ _ _ | exact Kd.S_nil _ _ _ _ _⟩, ⟨by (with_reducible repeat (first | refine qh ?_ _ | refine qj ?_ | refine qg ?_ _)); exact BK101.out⟩, ⟨by (with_reducible repeat (first | refine qh ?_ _ | refine qj ?_ | refine qg ?_ _)); exact BK119.out⟩, ⟨by repeat (first | (with_reducible first | exact HI109.out | apply IsS108.alloc | apply IsS108.drewN | apply IsS108.drew | apply IsS108.set_0 | apply IsS108.set_1 | apply (fun h_ => IsS108.far h_ NB109_101.out _) | apply (fun h_ => IsS108.far h_ NB109_119.out _)) | exact HI109.out)⟩, ⟨by repeat (first | (with_reducible first | exact HB.out | apply qf | apply qa | apply qd | refine qi ?_ (IsS108.ge HI109.out) | refine qi ?_ GE101.out | refine qi ?_ GE119.out) | exact HB.out)⟩⟩
     case round =>
      clear H'
      try clear c1
      try clear c2
      try clear p2
      try clear c4
      try clear c8
      try clear c19
      try clear c20
      try clear c23
      try clear c26
      try clear c27
      try clear c28
      try clear hcz21_0
      try clear hcz21_1
      try clear hcz21_2
      try clear hcz21_3
      try clear hcz24_0
      try clear hcz24_1
      try clear hcz25_0
      try clear hcz25_1
      try clear hcz29_0
      try clear hcz29_1
      try clear hcz29_2
      try clear hcz29_3
      try clear hfz21_0
      try clear hfz21_1
      try clear hfz21_2
      try clear hfz21_3
      try clear hfz24_0
      try clear hfz24_1
      try clear hfz25_0
      try clear hfz25_1
      try clear hfz29_0
      try clear hfz29_1
      try clear hfz29_2
      try clear hfz29_3
      try clear p2
      obtain ⟨x39_2, x110000_2, x110001_2, x120000_2, u120000, rfl, HA, HK2, HO_120000, BK101, BK119, HI109, HB⟩ := hrel
      cases gk with
      | zero => exact absurd HA.out (by simp [impl_ReadVersion.l0])
      | succ k2 =>
       have H := HA.out
       clear HA
       simp only [impl_ReadVersion.l0] at H
       by_cases c30 : x39_2 < t120
       ·rw [if_pos c30] at H
        have c30b0 : decide (x39_2 < t120) = true := decide_eq_true c30
        clear c30
        replace H := Option.bind_eq_some_iff.mp H
        obtain ⟨⟨t123, t124, t125⟩, A310, H⟩ := H
        replace H : ((impl_taker_number.f k2 t124 t125).bind fun bt126 => ((impl_taker_text.f k2 bt126.2.1 bt126.2.2).bind fun bt129 => ((impl_taker_text.f k2 bt129.2.1 bt129.2.2).bind fun bt132 => ((impl_taker_number.f k2 bt132.2.1 bt132.2.2).bind fun bt135 => (if x120000_2.length < 2513169434916 then (impl_ReadVersion.l0 k2 t120 (wrap64 (x39_2 + 1)) bt135.2.1 bt135.2.2 (x120000_2 ++ [(⟨t123, bt126.1, bt129.1, bt132.1, bt135.1⟩ : S66)]) t110 t113 t116) else (none)))))) = some (r1, r2, r3, r4, r5) := H
        have A31 := Qz.mk A310
        clear A310
        replace H := Option.bind_eq_some_iff.mp H
        obtain ⟨⟨t126, t127, t128⟩, A320, H⟩ := H
        replace H : ((impl_taker_text.f k2 t127 t128).bind fun bt129 => ((impl_taker_text.f k2 bt129.2.1 bt129.2.2).bind fun bt132 => ((impl_taker_number.f k2 bt132.2.1 bt132.2.2).bind fun bt135 => (if x120000_2.length < 2513169434916 then (impl_ReadVersion.l0 k2 t120 (wrap64 (x39_2 + 1)) bt135.2.1 bt135.2.2 (x120000_2 ++ [(⟨t123, t126, bt129.1, bt132.1, bt135.1⟩ : S66)]) t110 t113 t116) else (none))))) = some (r1, r2, r3, r4, r5) := H
        have A32 := Qz.mk A320
        clear A320
        replace H := Option.bind_eq_some_iff.mp H
        obtain ⟨⟨t129, t130, t131⟩, A330, H⟩ := H
        replace H : ((impl_taker_text.f k2 t130 t131).bind fun bt132 => ((impl_taker_number.f k2 bt132.2.1 bt132.2.2).bind fun bt135 => (if x120000_2.length < 2513169434916 then (impl_ReadVersion.l0 k2 t120 (wrap64 (x39_2 + 1)) bt135.2.1 bt135.2.2 (x120000_2 ++ [(⟨t123, t126, t129, bt132.1, bt135.1⟩ : S66)]) t110 t113 t116) else (none)))) = some (r1, r2, r3, r4, r5) := H
        have A33 := Qz.mk A330
        clear A330
        replace H := Option.bind_eq_some_iff.mp H
        obtain ⟨⟨t132, t133, t134⟩, A340, H⟩ := H
        replace H : ((impl_taker_number.f k2 t133 t134).bind fun bt135 => (if x120000_2.length < 2513169434916 then (impl_ReadVersion.l0 k2 t120 (wrap64 (x39_2 + 1)) bt135.2.1 bt135.2.2 (x120000_2 ++ [(⟨t123, t126, t129, t132, bt135.1⟩ : S66)]) t110 t113 t116) else (none))) = some (r1, r2, r3, r4, r5) := H
        have A34 := Qz.mk A340
        clear A340
        replace H := Option.bind_eq_some_iff.mp H
        obtain ⟨⟨t135, t136, t137⟩, A350, H⟩ := H
        replace H : (if x120000_2.length < 2513169434916 then (impl_ReadVersion.l0 k2 t120 (wrap64 (x39_2 + 1)) t136 t137 (x120000_2 ++ [(⟨t123, t126, t129, t132, t135⟩ : S66)]) t110 t113 t116) else (none)) = some (r1, r2, r3, r4, r5) := H
        have A35 := Qz.mk A350
        clear A350
        by_cases c36 : x120000_2.length < 2513169434916
        ·rw [if_pos c36] at H
         have LMc36 := Qz.mk c36
         clear c36
         obtain ⟨y138, hy138⟩ : ∃ y_ : List (S66), y_ = (x120000_2 ++ [(⟨t123, t126, t129, t132, t135⟩ : S66)]) := ⟨_, rfl⟩
         replace H : (impl_ReadVersion.l0 k2 t120 (wrap64 (x39_2 + 1)) t136 t137 y138 t110 t113 t116) = some (r1, r2, r3, r4, r5) := by first | (rw [hy138]; with_reducible exact H) | (have H2_ := (Option.bind_some _ _).symm.trans H; rw [hy138]; with_reducible exact H2_) | (have H2_ := (Option.bind_some _ _).symm.trans H; with_reducible exact H2_) | with_reducible exact H | (rw [hy138]; exact H) | exact H
         have Ny138 := Qz.mk hy138
         clear hy138
         have H' := Qz.mk H
         clear H
         try go_wp2
         replace HO_120000 := Qz.mk (Kd.R_drew HO_120000.out)
         replace BK101 := Qz.mk (qj BK101.out)
         replace BK119 := Qz.mk (qj BK119.out)
         replace HI109 := Qz.mk (IsS108.drew HI109.out)
         replace HB := Qz.mk (qd HB.out)
         refine start_ (n := 17) (S := fun w' => w'.cell? ⟨gb119, 0, none⟩ = some (u120000) ∧ w'.cell? ⟨gb119, 1, none⟩ = some (.int .i64 t110) ∧ w'.cell? ⟨gb119, 2, none⟩ = some (.int .i64 t113) ∧ w'.cell? ⟨gb119, 3, none⟩ = some (.int .i64 t116)) (ds := [16]) #[false, false, false, false, false, false, false, false, false, false, false, false, false, false, false, false, false] (by kernel_rfl) rfl rfl ⟨(qe BK119.out 0).trans rfl, (qe BK119.out 1).trans rfl, (qe BK119.out 2).trans rfl, (qe BK119.out 3).trans rfl⟩ (fun hHeld => ?_); refine with_tabW impl_ReadVersion.tab12 impl_ReadVersion.bits12 (fun HT_ HW_ => ?_)
         generalize wr.drew = w37 at HO_120000 BK101 BK119 HI109 HB hHeld ⊢
         refine pure_ (i := 0) (N := some 41) (v := ?_) (a' := ?_) #[true, false, false, false, false, false, false, false, false, false, false, false, false, false, false, false, false] rfl rfl (qq HT_.out (by kernel_rfl)) (fun _ _ _ h => h) (Or.inl ⟨by rfl, ?_⟩) ?_ ?_
         rotate_left
         ·intro w'
          go_simp
          with_reducible rfl
         rotate_left
         ·simp only [Act.put, sq1, sq2, sq3, i64_w, i32_w]
          rfl
         refine pure_ (i := 2) (N := some 43) (v := ?_) (a' := ?_) #[true, false, true, false, false, false, false, false, false, false, false, false, false, false, false, false, false] rfl rfl (qq HT_.out (by kernel_rfl)) (fun _ _ _ h => h) (Or.inl ⟨by rfl, ?_⟩) ?_ ?_
         rotate_left
         ·intro w'
          go_simp
          with_reducible rfl
         rotate_left
         ·simp only [Act.put, sq1, sq2, sq3, i64_w, i32_w]
          rfl
         refine pure_ (i := 4) (N := some 45) (v := ?_) (a' := ?_) #[true, false, true, false, true, false, false, false, false, false, false, false, false, false, false, false, false] rfl rfl (qq HT_.out (by kernel_rfl)) (fun _ _ _ h => h) (Or.inl ⟨by rfl, ?_⟩) ?_ ?_
         rotate_left
         ·intro w'
          go_simp
          with_reducible rfl
         rotate_left
         ·simp only [Act.put, sq1, sq2, sq3, i64_w, i32_w]
          rfl
         refine pure_ (i := 6) (N := some 47) (v := ?_) (a' := ?_) #[true, false, true, false, true, false, true, false, false, false, false, false, false, false, false, false, false] rfl rfl (qq HT_.out (by kernel_rfl)) (fun _ _ _ h => h) (Or.inl ⟨by rfl, ?_⟩) ?_ ?_
         rotate_left
         ·intro w'
          go_simp
          with_reducible rfl
         rotate_left
         ·simp only [Act.put, sq1, sq2, sq3, i64_w, i32_w]
          rfl
         refine pure_ (i := 8) (N := some 49) (v := ?_) (a' := ?_) #[true, false, true, false, true, false, true, false, true, false, false, false, false, false, false, false, false] rfl rfl (qq HT_.out (by kernel_rfl)) (fun _ _ _ h => h) (Or.inl ⟨by rfl, ?_⟩) ?_ ?_
         rotate_left
         ·intro w'
          go_simp
          with_reducible rfl
         rotate_left
         ·simp only [Act.put, sq1, sq2, sq3, i64_w, i32_w]
          rfl
         refine pure_ (i := 10) (N := some 51) (v := ?_) (a' := ?_) #[true, false, true, false, true, false, true, false, true, false, true, false, false, false, false, false, false] rfl rfl (qq HT_.out (by kernel_rfl)) (fun _ _ _ h => h) (Or.inl ⟨by rfl, ?_⟩) ?_ ?_
         rotate_left
         ·intro w'
          go_simp
          with_reducible rfl
         rotate_left
         ·simp only [Act.put, sq1, sq2, sq3, i64_w, i32_w]
          rfl
         refine take_ (i := 1) (N := some 42) (v := ?_) (a' := ?_) #[true, true, true, false, true, false, true, false, true, false, true, false, false, false, false, false, false] rfl rfl (take_ofW HT_.out HW_.out (by kernel_rfl)) (fun _ _ _ h => h) (Or.inl ⟨by rfl, ?_⟩) hHeld ?_ ?_
         rotate_left
         ·rintro w' ⟨s0, s1, s2, s3⟩
          go_simp
          with_reducible rfl
         rotate_left
         ·simp only [Act.put, sq1, sq2, sq3, i64_w, i32_w]
          rfl
         refine one_ (i := 3) (N := some 44) #[true, true, true, true, true, false, true, false, true, false, true, false, false, false, false, false, false] rfl rfl (one_of HT_.out (by kernel_rfl)) (by decide) (fun K hK => ?_)
         refine goes_ Try.func86 (by kernel_rfl) rfl #[.pointer (some ⟨gb109, 0, none⟩)] (by rfl) rfl rfl (by (try simp only [List.map_toArray, List.map_cons, List.map_nil]); first | done | rfl) ?_
         with_reducible refine (impl_taker_number.calls k2 gb109 x110000_2 x110001_2 t123 t124 t125 w _ ?side1 ?side2 A31.out).mono ?_
         (case side1 => repeat (first | (with_reducible first | exact HI109.out | apply IsS108.alloc | apply IsS108.drewN | apply IsS108.drew | apply IsS108.set_0 | apply IsS108.set_1 | apply (fun h_ => IsS108.far h_ NB109_101.out _) | apply (fun h_ => IsS108.far h_ NB109_119.out _)) | exact HI109.out))
         (case side2 => repeat (first | (with_reducible first | exact HB.out | apply qf | apply qa | apply qd | refine qi ?_ (IsS108.ge HI109.out) | refine qi ?_ GE101.out | refine qi ?_ GE119.out) | exact HB.out))
         rintro e w38 ⟨rfl, hi, hb, hk⟩
         refine ⟨_, rfl, ?_⟩
         replace HO_120000 := Qz.mk (Kd.R_mono (Kd.R_keep (IsS108.apart (show IsS108 w _ gb109 x110000_2 x110001_2 from by repeat (first | (with_reducible first | exact HI109.out | apply IsS108.alloc | apply IsS108.drewN | apply IsS108.drew | apply IsS108.set_0 | apply IsS108.set_1 | apply (fun h_ => IsS108.far h_ NB109_101.out _) | apply (fun h_ => IsS108.far h_ NB109_119.out _)) | exact HI109.out)) (by (with_reducible repeat (first | apply Kd.R_alloc | apply Kd.R_drewN | apply Kd.R_drew)); exact HO_120000.out) (by decide)) hk (fun _ h => h.2)) (fun _ h => h.1))
         replace BK101 := Qz.mk (KeepBut.blk hk (g' := gb101) (o := .cells #[.slice none 0 0, .int .i64 0, .int .i64 0, .int .i64 0] 32 (0, 0)) (by (with_reducible repeat (first | refine qh ?_ _ | refine qj ?_ | refine qg ?_ _)); exact BK101.out) NB101_109.out (by simp))
         replace BK119 := Qz.mk (KeepBut.blk hk (g' := gb119) (o := .cells #[u120000, .int .i64 t110, .int .i64 t113, .int .i64 t116] 32 (0, 0)) (by (with_reducible repeat (first | refine qh ?_ _ | refine qj ?_ | refine qg ?_ _)); exact BK119.out) NB119_109.out (by simp))
         replace HB := Qz.mk (hb)
         replace HI109 := Qz.mk (hi)
         (try clear hb)
         (try clear hk)
         (try clear hi)
         refine hK.out _ _ ⟨(qe BK119.out 0).trans rfl, (qe BK119.out 1).trans rfl, (qe BK119.out 2).trans rfl, (qe BK119.out 3).trans rfl⟩ (fun hHeld => ?_)
         clear hK K
         refine norm_ (a' := ?_) ?_ ?_
         rotate_left
         ·show Act.put _ (some 44) _ = _
          simp only [Act.put, sq1, sq2, sq3, i64_w, i32_w]
          rfl
         refine one_ (i := 5) (N := some 46) #[true, true, true, true, true, true, true, false, true, false, true, false, false, false, false, false, false] rfl rfl (one_of HT_.out (by kernel_rfl)) (by decide) (fun K hK => ?_)
         refine goes_ Try.func86 (by kernel_rfl) rfl #[.pointer (some ⟨gb109, 0, none⟩)] (by rfl) rfl rfl (by (try simp only [List.map_toArray, List.map_cons, List.map_nil]); first | done | rfl) ?_
         with_reducible refine (impl_taker_number.calls k2 gb109 t124 t125 t126 t127 t128 w _ ?side1 ?side2 A32.out).mono ?_
         (case side1 => repeat (first | (with_reducible first | exact HI109.out | apply IsS108.alloc | apply IsS108.drewN | apply IsS108.drew | apply IsS108.set_0 | apply IsS108.set_1 | apply (fun h_ => IsS108.far h_ NB109_101.out _) | apply (fun h_ => IsS108.far h_ NB109_119.out _)) | exact HI109.out))
         (case side2 => repeat (first | (with_reducible first | exact HB.out | apply qf | apply qa | apply qd | refine qi ?_ (IsS108.ge HI109.out) | refine qi ?_ GE101.out | refine qi ?_ GE119.out) | exact HB.out))
         rintro e w39 ⟨rfl, hi, hb, hk⟩
         refine ⟨_, rfl, ?_⟩
         replace HO_120000 := Qz.mk (Kd.R_mono (Kd.R_keep (IsS108.apart (show IsS108 w _ gb109 t124 t125 from by repeat (first | (with_reducible first | exact HI109.out | apply IsS108.alloc | apply IsS108.drewN | apply IsS108.drew | apply IsS108.set_0 | apply IsS108.set_1 | apply (fun h_ => IsS108.far h_ NB109_101.out _) | apply (fun h_ => IsS108.far h_ NB109_119.out _)) | exact HI109.out)) (by (with_reducible repeat (first | apply Kd.R_alloc | apply Kd.R_drewN | apply Kd.R_drew)); exact HO_120000.out) (by decide)) hk (fun _ h => h.2)) (fun _ h => h.1))
         replace BK101 := Qz.mk (KeepBut.blk hk (g' := gb101) (o := .cells #[.slice none 0 0, .int .i64 0, .int .i64 0, .int .i64 0] 32 (0, 0)) (by (with_reducible repeat (first | refine qh ?_ _ | refine qj ?_ | refine qg ?_ _)); exact BK101.out) NB101_109.out (by simp))
         replace BK119 := Qz.mk (KeepBut.blk hk (g' := gb119) (o := .cells #[u120000, .int .i64 t110, .int .i64 t113, .int .i64 t116] 32 (0, 0)) (by (with_reducible repeat (first | refine qh ?_ _ | refine qj ?_ | refine qg ?_ _)); exact BK119.out) NB119_109.out (by simp))
         replace HB := Qz.mk (hb)
         replace HI109 := Qz.mk (hi)
         (try clear hb)
         (try clear hk)
         (try clear hi)
         refine hK.out _ _ ⟨(qe BK119.out 0).trans rfl, (qe BK119.out 1).trans rfl, (qe BK119.out 2).trans rfl, (qe BK119.out 3).trans rfl⟩ (fun hHeld => ?_)
         clear hK K
         refine norm_ (a' := ?_) ?_ ?_
         rotate_left
         ·show Act.put _ (some 46) _ = _
          simp only [Act.put, sq1, sq2, sq3, i64_w, i32_w]
          rfl
         refine one_ (i := 7) (N := some 48) #[true, true, true, true, true, true, true, true, true, false, true, false, false, false, false, false, false] rfl rfl (one_of HT_.out (by kernel_rfl)) (by decide) (fun K hK => ?_)
         refine goes_ Try.func87 (by kernel_rfl) rfl #[.pointer (some ⟨gb109, 0, none⟩)] (by rfl) rfl rfl (by (try simp only [List.map_toArray, List.map_cons, List.map_nil]); first | done | rfl) ?_
         with_reducible refine (impl_taker_text.calls k2 gb109 t127 t128 t129 t130 t131 w _ ?side1 ?side2 A33.out).mono ?_
         (case side1 => repeat (first | (with_reducible first | exact HI109.out | apply IsS108.alloc | apply IsS108.drewN | apply IsS108.drew | apply IsS108.set_0 | apply IsS108.set_1 | apply (fun h_ => IsS108.far h_ NB109_101.out _) | apply (fun h_ => IsS108.far h_ NB109_119.out _)) | exact HI109.out))
         (case side2 => repeat (first | (with_reducible first | exact HB.out | apply qf | apply qa | apply qd | refine qi ?_ (IsS108.ge HI109.out) | refine qi ?_ GE101.out | refine qi ?_ GE119.out) | exact HB.out))
         rintro e w40 ⟨rfl, hi, hb, hk⟩
         refine ⟨_, rfl, ?_⟩
         replace HO_120000 := Qz.mk (Kd.R_mono (Kd.R_keep (IsS108.apart (show IsS108 w _ gb109 t127 t128 from by repeat (first | (with_reducible first | exact HI109.out | apply IsS108.alloc | apply IsS108.drewN | apply IsS108.drew | apply IsS108.set_0 | apply IsS108.set_1 | apply (fun h_ => IsS108.far h_ NB109_101.out _) | apply (fun h_ => IsS108.far h_ NB109_119.out _)) | exact HI109.out)) (by (with_reducible repeat (first | apply Kd.R_alloc | apply Kd.R_drewN | apply Kd.R_drew)); exact HO_120000.out) (by decide)) hk (fun _ h => h.2)) (fun _ h => h.1))
         replace BK101 := Qz.mk (KeepBut.blk hk (g' := gb101) (o := .cells #[.slice none 0 0, .int .i64 0, .int .i64 0, .int .i64 0] 32 (0, 0)) (by (with_reducible repeat (first | refine qh ?_ _ | refine qj ?_ | refine qg ?_ _)); exact BK101.out) NB101_109.out (by simp))
         replace BK119 := Qz.mk (KeepBut.blk hk (g' := gb119) (o := .cells #[u120000, .int .i64 t110, .int .i64 t113, .int .i64 t116] 32 (0, 0)) (by (with_reducible repeat (first | refine qh ?_ _ | refine qj ?_ | refine qg ?_ _)); exact BK119.out) NB119_109.out (by simp))
         replace HB := Qz.mk (hb)
         replace HI109 := Qz.mk (hi)
         (try clear hb)
         (try clear hk)
         (try clear hi)
         refine hK.out _ _ ⟨(qe BK119.out 0).trans rfl, (qe BK119.out 1).trans rfl, (qe BK119.out 2).trans rfl, (qe BK119.out 3).trans rfl⟩ (fun hHeld => ?_)
         clear hK K
         refine norm_ (a' := ?_) ?_ ?_
         rotate_left
         ·show Act.put _ (some 48) _ = _
          simp only [Act.put, sq1, sq2, sq3, i64_w, i32_w]
          rfl
         refine one_ (i := 9) (N := some 50) #[true, true, true, true, true, true, true, true, true, true, true, false, false, false, false, false, false] rfl rfl (one_of HT_.out (by kernel_rfl)) (by decide) (fun K hK => ?_)
         refine goes_ Try.func87 (by kernel_rfl) rfl #[.pointer (some ⟨gb109, 0, none⟩)] (by rfl) rfl rfl (by (try simp only [List.map_toArray, List.map_cons, List.map_nil]); first | done | rfl) ?_
         with_reducible refine (impl_taker_text.calls k2 gb109 t130 t131 t132 t133 t134 w _ ?side1 ?side2 A34.out).mono ?_
         (case side1 => repeat (first | (with_reducible first | exact HI109.out | apply IsS108.alloc | apply IsS108.drewN | apply IsS108.drew | apply IsS108.set_0 | apply IsS108.set_1 | apply (fun h_ => IsS108.far h_ NB109_101.out _) | apply (fun h_ => IsS108.far h_ NB109_119.out _)) | exact HI109.out))
         (case side2 => repeat (first | (with_reducible first | exact HB.out | apply qf | apply qa | apply qd | refine qi ?_ (IsS108.ge HI109.out) | refine qi ?_ GE101.out | refine qi ?_ GE119.out) | exact HB.out))
         rintro e w41 ⟨rfl, hi, hb, hk⟩
         refine ⟨_, rfl, ?_⟩
         replace HO_120000 := Qz.mk (Kd.R_mono (Kd.R_keep (IsS108.apart (show IsS108 w _ gb109 t130 t131 from by repeat (first | (with_reducible first | exact HI109.out | apply IsS108.alloc | apply IsS108.drewN | apply IsS108.drew | apply IsS108.set_0 | apply IsS108.set_1 | apply (fun h_ => IsS108.far h_ NB109_101.out _) | apply (fun h_ => IsS108.far h_ NB109_119.out _)) | exact HI109.out)) (by (with_reducible repeat (first | apply Kd.R_alloc | apply Kd.R_drewN | apply Kd.R_drew)); exact HO_120000.out) (by decide)) hk (fun _ h => h.2)) (fun _ h => h.1))
         replace BK101 := Qz.mk (KeepBut.blk hk (g' := gb101) (o := .cells #[.slice none 0 0, .int .i64 0, .int .i64 0, .int .i64 0] 32 (0, 0)) (by (with_reducible repeat (first | refine qh ?_ _ | refine qj ?_ | refine qg ?_ _)); exact BK101.out) NB101_109.out (by simp))
         replace BK119 := Qz.mk (KeepBut.blk hk (g' := gb119) (o := .cells #[u120000, .int .i64 t110, .int .i64 t113, .int .i64 t116] 32 (0, 0)) (by (with_reducible repeat (first | refine qh ?_ _ | refine qj ?_ | refine qg ?_ _)); exact BK119.out) NB119_109.out (by simp))
         replace HB := Qz.mk (hb)
         replace HI109 := Qz.mk (hi)
         (try clear hb)
         (try clear hk)
         (try clear hi)
         refine hK.out _ _ ⟨(qe BK119.out 0).trans rfl, (qe BK119.out 1).trans rfl, (qe BK119.out 2).trans rfl, (qe BK119.out 3).trans rfl⟩ (fun hHeld => ?_)
         clear hK K
         refine norm_ (a' := ?_) ?_ ?_
         rotate_left
         ·show Act.put _ (some 50) _ = _
          simp only [Act.put, sq1, sq2, sq3, i64_w, i32_w]
          rfl
         refine one_ (i := 11) (N := some 52) #[true, true, true, true, true, true, true, true, true, true, true, true, false, false, false, false, false] rfl rfl (one_of HT_.out (by kernel_rfl)) (by decide) (fun K hK => ?_)
         refine goes_ Try.func86 (by kernel_rfl) rfl #[.pointer (some ⟨gb109, 0, none⟩)] (by rfl) rfl rfl (by (try simp only [List.map_toArray, List.map_cons, List.map_nil]); first | done | rfl) ?_
         with_reducible refine (impl_taker_number.calls k2 gb109 t133 t134 t135 t136 t137 w _ ?side1 ?side2 A35.out).mono ?_
         (case side1 => repeat (first | (with_reducible first | exact HI109.out | apply IsS108.alloc | apply IsS108.drewN | apply IsS108.drew | apply IsS108.set_0 | apply IsS108.set_1 | apply (fun h_ => IsS108.far h_ NB109_101.out _) | apply (fun h_ => IsS108.far h_ NB109_119.out _)) | exact HI109.out))
         (case side2 => repeat (first | (with_reducible first | exact HB.out | apply qf | apply qa | apply qd | refine qi ?_ (IsS108.ge HI109.out) | refine qi ?_ GE101.out | refine qi ?_ GE119.out) | exact HB.out))
         rintro e w42 ⟨rfl, hi, hb, hk⟩
         refine ⟨_, rfl, ?_⟩
         replace HO_120000 := Qz.mk (Kd.R_mono (Kd.R_keep (IsS108.apart (show IsS108 w _ gb109 t133 t134 from by repeat (first | (with_reducible first | exact HI109.out | apply IsS108.alloc | apply IsS108.drewN | apply IsS108.drew | apply IsS108.set_0 | apply IsS108.set_1 | apply (fun h_ => IsS108.far h_ NB109_101.out _) | apply (fun h_ => IsS108.far h_ NB109_119.out _)) | exact HI109.out)) (by (with_reducible repeat (first | apply Kd.R_alloc | apply Kd.R_drewN | apply Kd.R_drew)); exact HO_120000.out) (by decide)) hk (fun _ h => h.2)) (fun _ h => h.1))
         replace BK101 := Qz.mk (KeepBut.blk hk (g' := gb101) (o := .cells #[.slice none 0 0, .int .i64 0, .int .i64 0, .int .i64 0] 32 (0, 0)) (by (with_reducible repeat (first | refine qh ?_ _ | refine qj ?_ | refine qg ?_ _)); exact BK101.out) NB101_109.out (by simp))
         replace BK119 := Qz.mk (KeepBut.blk hk (g' := gb119) (o := .cells #[u120000, .int .i64 t110, .int .i64 t113, .int .i64 t116] 32 (0, 0)) (by (with_reducible repeat (first | refine qh ?_ _ | refine qj ?_ | refine qg ?_ _)); exact BK119.out) NB119_109.out (by simp))
         replace HB := Qz.mk (hb)
         replace HI109 := Qz.mk (hi)
         (try clear hb)
         (try clear hk)
         (try clear hi)
         refine hK.out _ _ ⟨(qe BK119.out 0).trans rfl, (qe BK119.out 1).trans rfl, (qe BK119.out 2).trans rfl, (qe BK119.out 3).trans rfl⟩ (fun hHeld => ?_)
         clear hK K
         refine norm_ (a' := ?_) ?_ ?_
         rotate_left
         ·show Act.put _ (some 52) _ = _
          simp only [Act.put, sq1, sq2, sq3, i64_w, i32_w]
          rfl
         refine pure_ (i := 12) (N := some 53) (v := ?_) (a' := ?_) #[true, true, true, true, true, true, true, true, true, true, true, true, true, false, false, false, false] rfl rfl (qq HT_.out (by kernel_rfl)) (fun _ _ _ h => h) (Or.inl ⟨by rfl, ?_⟩) ?_ ?_
         rotate_left
         ·intro w'
          go_simp
          with_reducible rfl
         rotate_left
         ·simp only [Act.put, sq1, sq2, sq3, i64_w, i32_w]
          rfl
         refine one_ (i := 13) (N := some 54) #[true, true, true, true, true, true, true, true, true, true, true, true, true, true, false, false, false] rfl rfl (one_of HT_.out (by kernel_rfl)) (by decide) (fun K hK => ?_)
         refine value_ (w1 := ?_) (v := ?_) (by rfl) rfl ?_ ?_
         rotate_left 2
         ·go_simp
          constructor
          ·rfl
          ·rfl
         refine hK.out _ _ ⟨(qe (qg BK119.out _) 0).trans rfl, (qe (qg BK119.out _) 1).trans rfl, (qe (qg BK119.out _) 2).trans rfl, (qe (qg BK119.out _) 3).trans rfl⟩ (fun hHeld => ?_)
         clear hK K
         refine norm_ (a' := ?_) ?_ ?_
         rotate_left
         ·show Act.put _ (some 54) _ = _
          simp only [Act.put, sq1, sq2, sq3, i64_w, i32_w]
          rfl
         refine one_ (i := 14) (N := some 55) #[true, true, true, true, true, true, true, true, true, true, true, true, true, true, true, false, false] rfl rfl (one_of HT_.out (by kernel_rfl)) (by decide) (fun K hK => ?_)
         refine Kd.R_append_step k66 (w0 := w) w.heap.size (by rfl) (.tmp 42) (.tmp 54) 30 66 (.agg #[(.int .i64 0), (.int .i64 0), (.string ⟨#[]⟩), (.string ⟨#[]⟩), (.int .i64 0)]) 56 rfl Try.underlying30 info66 rfl (by decide) (by omega) u120000 x120000_2 (⟨t123, t126, t129, t132, t135⟩ : S66) [.int .i64 t123, .int .i64 t126, .string t129, .string t132, .int .i64 t135] (fun _ => True) (fun _ => False) rfl rfl ?aP (fun _ hk => hk.elim) ?aF ?aO ?aB ?aS ?aL ?_
         (case aP => exact k66_mkM _ _ _ (⟨t123, t126, t129, t132, t135⟩ : S66))
         (case aB => exact (by repeat (first | (with_reducible first | exact HB.out | apply qf | apply qa | apply qd | refine qi ?_ (IsS108.ge HI109.out) | refine qi ?_ GE101.out | refine qi ?_ GE119.out) | exact HB.out)))
         (case aF => exact (fun _ _ => trivial))
         (case aO => exact (by (with_reducible repeat (first | apply Kd.R_alloc | apply Kd.R_drewN | apply Kd.R_drew)); exact HO_120000.out))
         (case aS => exact (qs (by repeat (first | (with_reducible first | exact HB.out | apply qf | apply qa | apply qd | refine qi ?_ (IsS108.ge HI109.out) | refine qi ?_ GE101.out | refine qi ?_ GE119.out) | exact HB.out))))
         (case aL => have := LMc36.out; omega)
         intro v139 w43 ho hb hg hat
         rw [← Ny138.out] at ho
         have n0_ := Qz.mk (blk_grown (g := gb101) (o := .cells #[.slice none 0 0, .int .i64 0, .int .i64 0, .int .i64 0] 32 (0, 0)) (by (with_reducible repeat (first | refine qh ?_ _ | refine qj ?_ | refine qg ?_ _)); exact BK101.out) hg (Kd.R_ne HO_120000.out BK101.out (by decide)))
         have n1_ := Qz.mk (blk_grown (g := gb119) (o := .cells #[u120000, .int .i64 t110, .int .i64 t113, .int .i64 t116] 32 (0, 0)) (by (with_reducible repeat (first | refine qh ?_ _ | refine qj ?_ | refine qg ?_ _)); exact BK119.out) hg (Kd.R_ne HO_120000.out BK119.out (by decide)))
         have n2_ := Qz.mk (IsS108.grown (by repeat (first | (with_reducible first | exact HI109.out | apply IsS108.alloc | apply IsS108.drewN | apply IsS108.drew | apply IsS108.set_0 | apply IsS108.set_1 | apply (fun h_ => IsS108.far h_ NB109_101.out _) | apply (fun h_ => IsS108.far h_ NB109_119.out _)) | exact HI109.out)) hg (IsS108.own_ne HI109.out HO_120000.out (by decide)))
         have n3_ := Qz.mk (hb)
         have n4_ := Qz.mk (ho)
         clear BK101
         clear BK119
         clear HI109
         clear HB
         clear HO_120000
         have BK101 := n0_
         have BK119 := n1_
         have HI109 := n2_
         have HB := n3_
         have HO140 := n4_
         clear n0_ n1_ n2_ n3_ n4_
         clear ho hb hg hat
         obtain ⟨Ao44, co44, eo44⟩ := Kd.R_slice HO140.out
         (first | subst eo44 | (injection eo44 with f1_ f2_ f3_; have f4_ := f1_.symm; have f5_ := f3_.symm; clear f1_ f2_ f3_; subst f4_; subst f5_))
         refine hK.out _ _ ⟨(qe BK119.out 0).trans rfl, (qe BK119.out 1).trans rfl, (qe BK119.out 2).trans rfl, (qe BK119.out 3).trans rfl⟩ (fun hHeld => ?_)
         clear hK K
         refine norm_ (a' := ?_) ?_ ?_
         rotate_left
         ·show Act.put _ (some 55) _ = _
          simp only [Act.put, sq1, sq2, sq3, i64_w, i32_w]
          rfl
         refine pure_ (i := 15) (N := some 56) (v := ?_) (a' := ?_) #[true, true, true, true, true, true, true, true, true, true, true, true, true, true, true, true, false] rfl rfl (qq HT_.out (by kernel_rfl)) (fun _ _ _ h => h) (Or.inl ⟨by rfl, ?_⟩) ?_ ?_
         rotate_left
         ·intro w'
          go_simp
          with_reducible rfl
         rotate_left
         ·simp only [Act.put, sq1, sq2, sq3, i64_w, i32_w]
          rfl
         refine last_ (i := 16) (N := none) #[true, true, true, true, true, true, true, true, true, true, true, true, true, true, true, true, true] rfl rfl (one_of HT_.out (by kernel_rfl)) (by decide) (fun K hK => ?_)
         have hs45 : w43.cell? ⟨gb119, 0, none⟩ = some (u120000) := (qe BK119.out 0).trans rfl
         have hfs45 := qc BK119.out 0
         have hns45_0 := NB101_119.out
         have hms45_0 := NB119_101.out
         refine skip_ (w1 := ?_) (by rfl) rfl ?_ ?_
         rotate_left
         ·go_simp
          rfl
         refine hK.out _ _ ?_
         clear hK K
         refine done_ (done_of HT_.out (by kernel_rfl)) ?_
         try go_wp2
         go_roundg k2
         case measure => have := HJ8.out; have := HK2.out; omega
         case rel => exact ⟨(wrap64 (x39_2 + 1)), (t136), (t137), (y138), (.slice Ao44 y138.length co44), (by first | rfl | (simp; done) | (simp [*]; done)), H', ⟨by have := HJ8.out; have := HK2.out; omega⟩, ⟨by (with_reducible repeat (first | apply Kd.R_alloc | apply Kd.R_drewN | apply Kd.R_drew)); exact Kd.R_mono (Kd.R_far (p := ⟨gb119, 0, none⟩) (Kd.R_types HO140.out BK119.out (by decide)) (fun _ hk => hk.2) (.slice Ao44 y138.length co44)) (fun _ hk => trivial)⟩, ⟨by (with_reducible repeat (first | refine qh ?_ _ | refine qj ?_ | refine qg ?_ _)); refine blk_far ?_ NB101_119.out _; (with_reducible repeat (first | refine qh ?_ _ | refine qj ?_ | refine qg ?_ _)); exact BK101.out⟩, ⟨by (with_reducible repeat (first | refine qh ?_ _ | refine qj ?_ | refine qg ?_ _)); refine qu (cs := #[u120000, .int .i64 t110, .int .i64 t113, .int .i64 t116]) ?_ 0 _ rfl; (with_reducible repeat (first | refine qh ?_ _ | refine qj ?_ | refine qg ?_ _)); exact BK119.out⟩, ⟨by repeat (first | (with_reducible first | exact HI109.out | apply IsS108.alloc | apply IsS108.drewN | apply IsS108.drew | apply IsS108.set_0 | apply IsS108.set_1 | apply (fun h_ => IsS108.far h_ NB109_101.out _) | apply (fun h_ => IsS108.far h_ NB109_119.out _)) | exact HI109.out)⟩, ⟨by repeat (first | (with_reducible first | exact HB.out | apply qf | apply qa | apply qd | refine qi ?_ (IsS108.ge HI109.out) | refine qi ?_ GE101.out | refine qi ?_ GE119.out) | exact HB.out)⟩⟩
        ·rw [if_neg c36] at H
         exact absurd H (by simp)
       ·rw [if_neg c30] at H
        have c30b0 : decide (x39_2 < t120) = false := decide_eq_false c30
        clear c30
        replace H := Option.bind_eq_some_iff.mp H
        obtain ⟨⟨t141, t142, t143⟩, A460, H⟩ := H
        replace H : (if t141 = true then ((impl_VersionOk.f x120000_2 t110 t113 t116).bind fun t144 => (if t144 = true then (some (x120000_2, t110, t113, t116, true)) else (some (([] : List (S66)), 0, 0, 0, false)))) else (some (([] : List (S66)), 0, 0, 0, false))) = some (r1, r2, r3, r4, r5) := H
        have A46 := Qz.mk A460
        clear A460
        by_cases c47 : t141 = true
        ·subst c47
         have H1 : ((impl_VersionOk.f x120000_2 t110 t113 t116).bind fun t144 => (if t144 = true then (some (x120000_2, t110, t113, t116, true)) else (some (([] : List (S66)), 0, 0, 0, false)))) = some (r1, r2, r3, r4, r5) := by rw [if_pos rfl] at H; exact H
         clear H
         have H := H1
         clear H1
         replace H := Option.bind_eq_some_iff.mp H
         obtain ⟨t144, A480, H⟩ := H
         replace H : (if t144 = true then (some (x120000_2, t110, t113, t116, true)) else (some (([] : List (S66)), 0, 0, 0, false))) = some (r1, r2, r3, r4, r5) := H
         have A48 := Qz.mk A480
         clear A480
         by_cases c49 : t144 = true
         ·subst c49
          have H1 : (some (x120000_2, t110, t113, t116, true)) = some (r1, r2, r3, r4, r5) := by rw [if_pos rfl] at H; exact H
          clear H
          have H := H1
          clear H1
          simp only [Option.some.injEq, Prod.mk.injEq] at H
          obtain ⟨rfl, rfl, rfl, rfl, rfl⟩ := H
          go_wp2_with (first | ((with_reducible refine qm (f := 85) rfl ?_); refine qt (some 59) rfl rfl Try.func85 (by kernel_rfl) rfl #[.pointer (some ⟨gb109, 0, none⟩)] rfl (by (try simp only [List.map_toArray, List.map_cons, List.map_nil]); first | done | rfl) ?_; (with_reducible refine (impl_taker_whole.calls gb109 x110000_2 x110001_2 true t142 t143 w _ ?side1 ?side2 A46.out).mono ?_); (case side1 => repeat (first | (with_reducible first | exact HI109.out | apply IsS108.alloc | apply IsS108.drewN | apply IsS108.drew | apply IsS108.set_0 | apply IsS108.set_1 | apply (fun h_ => IsS108.far h_ NB109_101.out _) | apply (fun h_ => IsS108.far h_ NB109_119.out _)) | exact HI109.out)); (case side2 => repeat (first | (with_reducible first | exact HB.out | apply qf | apply qa | apply qd | refine qi ?_ (IsS108.ge HI109.out) | refine qi ?_ GE101.out | refine qi ?_ GE119.out) | exact HB.out)); rintro e w50 ⟨rfl, hi, hb, hk⟩; refine ⟨_, rfl, ?_⟩; replace HO_120000 := Qz.mk (Kd.R_mono (Kd.R_keep (IsS108.apart (show IsS108 w _ gb109 x110000_2 x110001_2 from by repeat (first | (with_reducible first | exact HI109.out | apply IsS108.alloc | apply IsS108.drewN | apply IsS108.drew | apply IsS108.set_0 | apply IsS108.set_1 | apply (fun h_ => IsS108.far h_ NB109_101.out _) | apply (fun h_ => IsS108.far h_ NB109_119.out _)) | exact HI109.out)) (by (with_reducible repeat (first | apply Kd.R_alloc | apply Kd.R_drewN | apply Kd.R_drew)); exact HO_120000.out) (by decide)) hk (fun _ h => h.2)) (fun _ h => h.1)); replace BK101 := Qz.mk (KeepBut.blk hk (g' := gb101) (o := .cells #[.slice none 0 0, .int .i64 0, .int .i64 0, .int .i64 0] 32 (0, 0)) (by (with_reducible repeat (first | refine qh ?_ _ | refine qj ?_ | refine qg ?_ _)); exact BK101.out) NB101_109.out (by simp)); replace BK119 := Qz.mk (KeepBut.blk hk (g' := gb119) (o := .cells #[u120000, .int .i64 t110, .int .i64 t113, .int .i64 t116] 32 (0, 0)) (by (with_reducible repeat (first | refine qh ?_ _ | refine qj ?_ | refine qg ?_ _)); exact BK119.out) NB119_109.out (by simp)); replace HB := Qz.mk (hb); replace HI109 := Qz.mk (hi); (try clear hb); (try clear hk); (try clear hi); have hnb51 := NB119_101.out; have hnc51 := NB101_119.out; have hnb52 := NB119_109.out; have hnc52 := NB109_119.out; have hcz53_0 : w50.cell? ⟨gb119, 0, none⟩ = some (u120000) := (qe BK119.out 0).trans rfl; have hcz53_1 : w50.cell? ⟨gb119, 1, none⟩ = some (.int .i64 t110) := (qe BK119.out 1).trans rfl; have hcz53_2 : w50.cell? ⟨gb119, 2, none⟩ = some (.int .i64 t113) := (qe BK119.out 2).trans rfl; have hcz53_3 : w50.cell? ⟨gb119, 3, none⟩ = some (.int .i64 t116) := (qe BK119.out 3).trans rfl; have hfz53_0 := qc BK119.out 0; have hfz53_1 := qc BK119.out 1; have hfz53_2 := qc BK119.out 2; have hfz53_3 := qc BK119.out 3; obtain ⟨Ao54, co54, eo54⟩ := Kd.R_slice HO_120000.out; subst eo54) | (go_at_call 27; (with_reducible refine (impl_VersionOk.calls _ _ x120000_2 t110 t113 t116 true _ ?side1 ?side2 A48.out).mono ?_); (case side1 => repeat (first | exact (Kd.R_reads' HO_120000.out).2.2 | (with_reducible refine Kd.C_alloc ?_ _) | (with_reducible refine Kd.C_drewN ?_ _) | (with_reducible refine Kd.C_drew ?_))); (case side2 => exact (Kd.R_reads' HO_120000.out).2.1); rintro e w55 ⟨rfl, hb⟩; replace HO_120000 := Qz.mk (Kd.R_below (by (with_reducible repeat (first | apply Kd.R_alloc | apply Kd.R_drewN | apply Kd.R_drew)); exact HO_120000.out) hb); replace BK101 := Qz.mk (qr (g := gb101) (o := .cells #[.slice none 0 0, .int .i64 0, .int .i64 0, .int .i64 0] 32 (0, 0)) (by (with_reducible repeat (first | refine qh ?_ _ | refine qj ?_ | refine qg ?_ _)); exact BK101.out) hb); replace BK119 := Qz.mk (qr (g := gb119) (o := .cells #[.slice Ao54 x120000_2.length co54, .int .i64 t110, .int .i64 t113, .int .i64 t116] 32 (0, 0)) (by (with_reducible repeat (first | refine qh ?_ _ | refine qj ?_ | refine qg ?_ _)); exact BK119.out) hb); replace HB := Qz.mk (qp (by repeat (first | (with_reducible first | exact HB.out | apply qf | apply qa | apply qd | refine qi ?_ (IsS108.ge HI109.out) | refine qi ?_ GE101.out | refine qi ?_ GE119.out) | exact HB.out)) hb); replace HI109 := Qz.mk (IsS108.below (by repeat (first | (with_reducible first | exact HI109.out | apply IsS108.alloc | apply IsS108.drewN | apply IsS108.drew | apply IsS108.set_0 | apply IsS108.set_1 | apply (fun h_ => IsS108.far h_ NB109_101.out _) | apply (fun h_ => IsS108.far h_ NB109_119.out _)) | exact HI109.out)) hb); (try clear hb); (try clear hk); (try clear hi); have hcz56_0 : w55.cell? ⟨gb119, 0, none⟩ = some (.slice Ao54 x120000_2.length co54) := (qe BK119.out 0).trans rfl; have hcz56_1 : w55.cell? ⟨gb119, 1, none⟩ = some (.int .i64 t110) := (qe BK119.out 1).trans rfl; have hcz56_2 : w55.cell? ⟨gb119, 2, none⟩ = some (.int .i64 t113) := (qe BK119.out 2).trans rfl; have hcz56_3 : w55.cell? ⟨gb119, 3, none⟩ = some (.int .i64 t116) := (qe BK119.out 3).trans rfl; have hfz56_0 := qc BK119.out 0; have hfz56_1 := qc BK119.out 1; have hfz56_2 := qc BK119.out 2; have hfz56_3 := qc BK119.out 3; have hnb57 := NB101_109.out; have hnc57 := NB109_101.out; have hcz58_0 : w55.cell? ⟨gb101, 0, none⟩ = some (.slice none 0 0) := (qe BK101.out 0).trans rfl; have hcz58_1 : w55.cell? ⟨gb101, 1, none⟩ = some (.int .i64 0) := (qe BK101.out 1).trans rfl; have hcz58_2 : w55.cell? ⟨gb101, 2, none⟩ = some (.int .i64 0) := (qe BK101.out 2).trans rfl; have hcz58_3 : w55.cell? ⟨gb101, 3, none⟩ = some (.int .i64 0) := (qe BK101.out 3).trans rfl; have hfz58_0 := qc BK101.out 0; have hfz58_1 := qc BK101.out 1; have hfz58_2 := qc BK101.out 2; have hfz58_3 := qc BK101.out 3))
          refine bodyPost_ret (results_ct rfl _ _ gb101 32 #[.slice Ao54 x120000_2.length co54, .int .i64 t110, .int .i64 t113, .int .i64 t116] (0, 0) _ rfl (by (with_reducible repeat (first | refine qh ?_ _ | refine qj ?_ | refine qg ?_ _)); refine qu (cs := #[.slice Ao54 x120000_2.length co54, .int .i64 t110, .int .i64 t113, .int .i64 0]) ?_ 3 _ rfl; (with_reducible repeat (first | refine qh ?_ _ | refine qj ?_ | refine qg ?_ _)); refine qu (cs := #[.slice Ao54 x120000_2.length co54, .int .i64 t110, .int .i64 0, .int .i64 0]) ?_ 2 _ rfl; (with_reducible repeat (first | refine qh ?_ _ | refine qj ?_ | refine qg ?_ _)); refine qu (cs := #[.slice Ao54 x120000_2.length co54, .int .i64 0, .int .i64 0, .int .i64 0]) ?_ 1 _ rfl; (with_reducible repeat (first | refine qh ?_ _ | refine qj ?_ | refine qg ?_ _)); refine qu (cs := #[.slice none 0 0, .int .i64 0, .int .i64 0, .int .i64 0]) ?_ 0 _ rfl; (with_reducible repeat (first | refine qh ?_ _ | refine qj ?_ | refine qg ?_ _)); exact BK101.out) Try.underlying32 rfl (by kernel_rfl)) rfl ?_
          exact ⟨_, by first | rfl | (simp [qo, qn] <;> rfl) | (simp [*, qo, qn] <;> rfl), by (with_reducible repeat (first | apply Kd.R_alloc | apply Kd.R_drewN | apply Kd.R_drew)); exact Kd.R_mono (Kd.R_far (p := ⟨gb101, 3, none⟩) (Kd.R_far (p := ⟨gb101, 2, none⟩) (Kd.R_far (p := ⟨gb101, 1, none⟩) (Kd.R_far (p := ⟨gb101, 0, none⟩) (Kd.R_types HO_120000.out BK101.out (by decide)) (fun _ hk => hk.2) (.slice Ao54 x120000_2.length co54)) (fun _ hk => hk.2) (.int .i64 t110)) (fun _ hk => hk.2) (.int .i64 t113)) (fun _ hk => hk.2) (.int .i64 t116)) (fun _ hk => trivial), by repeat (first | (with_reducible first | exact HB.out | apply qf | apply qa | apply qd | refine qi ?_ (IsS108.ge HI109.out) | refine qi ?_ GE101.out | refine qi ?_ GE119.out) | exact HB.out)⟩
         ·replace c49 := Bool.eq_false_iff.mpr c49
          subst c49
          have H1 : (some (([] : List (S66)), 0, 0, 0, false)) = some (r1, r2, r3, r4, r5) := by rw [if_neg (show ¬ (false = true) by decide)] at H; exact H
          clear H
          have H := H1
          clear H1
          simp only [Option.some.injEq, Prod.mk.injEq] at H
          obtain ⟨rfl, rfl, rfl, rfl, rfl⟩ := H
          go_wp2_with (first | ((with_reducible refine qm (f := 85) rfl ?_); refine qt (some 59) rfl rfl Try.func85 (by kernel_rfl) rfl #[.pointer (some ⟨gb109, 0, none⟩)] rfl (by (try simp only [List.map_toArray, List.map_cons, List.map_nil]); first | done | rfl) ?_; (with_reducible refine (impl_taker_whole.calls gb109 x110000_2 x110001_2 true t142 t143 w _ ?side1 ?side2 A46.out).mono ?_); (case side1 => repeat (first | (with_reducible first | exact HI109.out | apply IsS108.alloc | apply IsS108.drewN | apply IsS108.drew | apply IsS108.set_0 | apply IsS108.set_1 | apply (fun h_ => IsS108.far h_ NB109_101.out _) | apply (fun h_ => IsS108.far h_ NB109_119.out _)) | exact HI109.out)); (case side2 => repeat (first | (with_reducible first | exact HB.out | apply qf | apply qa | apply qd | refine qi ?_ (IsS108.ge HI109.out) | refine qi ?_ GE101.out | refine qi ?_ GE119.out) | exact HB.out)); rintro e w59 ⟨rfl, hi, hb, hk⟩; refine ⟨_, rfl, ?_⟩; replace HO_120000 := Qz.mk (Kd.R_mono (Kd.R_keep (IsS108.apart (show IsS108 w _ gb109 x110000_2 x110001_2 from by repeat (first | (with_reducible first | exact HI109.out | apply IsS108.alloc | apply IsS108.drewN | apply IsS108.drew | apply IsS108.set_0 | apply IsS108.set_1 | apply (fun h_ => IsS108.far h_ NB109_101.out _) | apply (fun h_ => IsS108.far h_ NB109_119.out _)) | exact HI109.out)) (by (with_reducible repeat (first | apply Kd.R_alloc | apply Kd.R_drewN | apply Kd.R_drew)); exact HO_120000.out) (by decide)) hk (fun _ h => h.2)) (fun _ h => h.1)); replace BK101 := Qz.mk (KeepBut.blk hk (g' := gb101) (o := .cells #[.slice none 0 0, .int .i64 0, .int .i64 0, .int .i64 0] 32 (0, 0)) (by (with_reducible repeat (first | refine qh ?_ _ | refine qj ?_ | refine qg ?_ _)); exact BK101.out) NB101_109.out (by simp)); replace BK119 := Qz.mk (KeepBut.blk hk (g' := gb119) (o := .cells #[u120000, .int .i64 t110, .int .i64 t113, .int .i64 t116] 32 (0, 0)) (by (with_reducible repeat (first | refine qh ?_ _ | refine qj ?_ | refine qg ?_ _)); exact BK119.out) NB119_109.out (by simp)); replace HB := Qz.mk (hb); replace HI109 := Qz.mk (hi); (try clear hb); (try clear hk); (try clear hi); have hnb60 := NB119_101.out; have hnc60 := NB101_119.out; have hnb61 := NB119_109.out; have hnc61 := NB109_119.out; have hcz62_0 : w59.cell? ⟨gb119, 0, none⟩ = some (u120000) := (qe BK119.out 0).trans rfl; have hcz62_1 : w59.cell? ⟨gb119, 1, none⟩ = some (.int .i64 t110) := (qe BK119.out 1).trans rfl; have hcz62_2 : w59.cell? ⟨gb119, 2, none⟩ = some (.int .i64 t113) := (qe BK119.out 2).trans rfl; have hcz62_3 : w59.cell? ⟨gb119, 3, none⟩ = some (.int .i64 t116) := (qe BK119.out 3).trans rfl; have hfz62_0 := qc BK119.out 0; have hfz62_1 := qc BK119.out 1; have hfz62_2 := qc BK119.out 2; have hfz62_3 := qc BK119.out 3; obtain ⟨Ao63, co63, eo63⟩ := Kd.R_slice HO_120000.out; subst eo63) | (go_at_call 27; (with_reducible refine (impl_VersionOk.calls _ _ x120000_2 t110 t113 t116 false _ ?side1 ?side2 A48.out).mono ?_); (case side1 => repeat (first | exact (Kd.R_reads' HO_120000.out).2.2 | (with_reducible refine Kd.C_alloc ?_ _) | (with_reducible refine Kd.C_drewN ?_ _) | (with_reducible refine Kd.C_drew ?_))); (case side2 => exact (Kd.R_reads' HO_120000.out).2.1); rintro e w64 ⟨rfl, hb⟩; replace HO_120000 := Qz.mk (Kd.R_below (by (with_reducible repeat (first | apply Kd.R_alloc | apply Kd.R_drewN | apply Kd.R_drew)); exact HO_120000.out) hb); replace BK101 := Qz.mk (qr (g := gb101) (o := .cells #[.slice none 0 0, .int .i64 0, .int .i64 0, .int .i64 0] 32 (0, 0)) (by (with_reducible repeat (first | refine qh ?_ _ | refine qj ?_ | refine qg ?_ _)); exact BK101.out) hb); replace BK119 := Qz.mk (qr (g := gb119) (o := .cells #[.slice Ao63 x120000_2.length co63, .int .i64 t110, .int .i64 t113, .int .i64 t116] 32 (0, 0)) (by (with_reducible repeat (first | refine qh ?_ _ | refine qj ?_ | refine qg ?_ _)); exact BK119.out) hb); replace HB := Qz.mk (qp (by repeat (first | (with_reducible first | exact HB.out | apply qf | apply qa | apply qd | refine qi ?_ (IsS108.ge HI109.out) | refine qi ?_ GE101.out | refine qi ?_ GE119.out) | exact HB.out)) hb); replace HI109 := Qz.mk (IsS108.below (by repeat (first | (with_reducible first | exact HI109.out | apply IsS108.alloc | apply IsS108.drewN | apply IsS108.drew | apply IsS108.set_0 | apply IsS108.set_1 | apply (fun h_ => IsS108.far h_ NB109_101.out _) | apply (fun h_ => IsS108.far h_ NB109_119.out _)) | exact HI109.out)) hb); (try clear hb); (try clear hk); (try clear hi); have hnb65 := NB101_109.out; have hnc65 := NB109_101.out; have hcz66_0 : w64.cell? ⟨gb101, 0, none⟩ = some (.slice none 0 0) := (qe BK101.out 0).trans rfl; have hcz66_1 : w64.cell? ⟨gb101, 1, none⟩ = some (.int .i64 0) := (qe BK101.out 1).trans rfl; have hcz66_2 : w64.cell? ⟨gb101, 2, none⟩ = some (.int .i64 0) := (qe BK101.out 2).trans rfl; have hcz66_3 : w64.cell? ⟨gb101, 3, none⟩ = some (.int .i64 0) := (qe BK101.out 3).trans rfl; have hfz66_0 := qc BK101.out 0; have hfz66_1 := qc BK101.out 1; have hfz66_2 := qc BK101.out 2; have hfz66_3 := qc BK101.out 3))
          refine bodyPost_ret (results_ct rfl _ _ gb101 32 #[.slice none 0 0, .int .i64 0, .int .i64 0, .int .i64 0] (0, 0) _ rfl (by (with_reducible repeat (first | refine qh ?_ _ | refine qj ?_ | refine qg ?_ _)); refine qu (cs := #[.slice none 0 0, .int .i64 0, .int .i64 0, .int .i64 0]) ?_ 3 _ rfl; (with_reducible repeat (first | refine qh ?_ _ | refine qj ?_ | refine qg ?_ _)); refine qu (cs := #[.slice none 0 0, .int .i64 0, .int .i64 0, .int .i64 0]) ?_ 2 _ rfl; (with_reducible repeat (first | refine qh ?_ _ | refine qj ?_ | refine qg ?_ _)); refine qu (cs := #[.slice none 0 0, .int .i64 0, .int .i64 0, .int .i64 0]) ?_ 1 _ rfl; (with_reducible repeat (first | refine qh ?_ _ | refine qj ?_ | refine qg ?_ _)); refine qu (cs := #[.slice none 0 0, .int .i64 0, .int .i64 0, .int .i64 0]) ?_ 0 _ rfl; (with_reducible repeat (first | refine qh ?_ _ | refine qj ?_ | refine qg ?_ _)); exact BK101.out) Try.underlying32 rfl (by kernel_rfl)) rfl ?_
          exact ⟨_, by first | rfl | (simp [qo, qn] <;> rfl) | (simp [*, qo, qn] <;> rfl), by first | exact Kd.R_nil _ _ _ _ _ | exact Kd.N_nil _ _ _ _ _ | exact Kd.V_nil _ _ _ _ _ | exact Kd.Q_nil _ _ _ _ _ | exact Kd.S_nil _ _ _ _ _, by repeat (first | (with_reducible first | exact HB.out | apply qf | apply qa | apply qd | refine qi ?_ (IsS108.ge HI109.out) | refine qi ?_ GE101.out | refine qi ?_ GE119.out) | exact HB.out)⟩
        ·replace c47 := Bool.eq_false_iff.mpr c47
         subst c47
         have H1 : (some (([] : List (S66)), 0, 0, 0, false)) = some (r1, r2, r3, r4, r5) := by rw [if_neg (show ¬ (false = true) by decide)] at H; exact H
         clear H
         have H := H1
         clear H1
         simp only [Option.some.injEq, Prod.mk.injEq] at H
         obtain ⟨rfl, rfl, rfl, rfl, rfl⟩ := H
         go_wp2_with (first | ((with_reducible refine qm (f := 85) rfl ?_); refine qt (some 59) rfl rfl Try.func85 (by kernel_rfl) rfl #[.pointer (some ⟨gb109, 0, none⟩)] rfl (by (try simp only [List.map_toArray, List.map_cons, List.map_nil]); first | done | rfl) ?_; (with_reducible refine (impl_taker_whole.calls gb109 x110000_2 x110001_2 false t142 t143 w _ ?side1 ?side2 A46.out).mono ?_); (case side1 => repeat (first | (with_reducible first | exact HI109.out | apply IsS108.alloc | apply IsS108.drewN | apply IsS108.drew | apply IsS108.set_0 | apply IsS108.set_1 | apply (fun h_ => IsS108.far h_ NB109_101.out _) | apply (fun h_ => IsS108.far h_ NB109_119.out _)) | exact HI109.out)); (case side2 => repeat (first | (with_reducible first | exact HB.out | apply qf | apply qa | apply qd | refine qi ?_ (IsS108.ge HI109.out) | refine qi ?_ GE101.out | refine qi ?_ GE119.out) | exact HB.out)); rintro e w67 ⟨rfl, hi, hb, hk⟩; refine ⟨_, rfl, ?_⟩; replace HO_120000 := Qz.mk (Kd.R_mono (Kd.R_keep (IsS108.apart (show IsS108 w _ gb109 x110000_2 x110001_2 from by repeat (first | (with_reducible first | exact HI109.out | apply IsS108.alloc | apply IsS108.drewN | apply IsS108.drew | apply IsS108.set_0 | apply IsS108.set_1 | apply (fun h_ => IsS108.far h_ NB109_101.out _) | apply (fun h_ => IsS108.far h_ NB109_119.out _)) | exact HI109.out)) (by (with_reducible repeat (first | apply Kd.R_alloc | apply Kd.R_drewN | apply Kd.R_drew)); exact HO_120000.out) (by decide)) hk (fun _ h => h.2)) (fun _ h => h.1)); replace BK101 := Qz.mk (KeepBut.blk hk (g' := gb101) (o := .cells #[.slice none 0 0, .int .i64 0, .int .i64 0, .int .i64 0] 32 (0, 0)) (by (with_reducible repeat (first | refine qh ?_ _ | refine qj ?_ | refine qg ?_ _)); exact BK101.out) NB101_109.out (by simp)); replace BK119 := Qz.mk (KeepBut.blk hk (g' := gb119) (o := .cells #[u120000, .int .i64 t110, .int .i64 t113, .int .i64 t116] 32 (0, 0)) (by (with_reducible repeat (first | refine qh ?_ _ | refine qj ?_ | refine qg ?_ _)); exact BK119.out) NB119_109.out (by simp)); replace HB := Qz.mk (hb); replace HI109 := Qz.mk (hi); (try clear hb); (try clear hk); (try clear hi); have hnb68 := NB101_119.out; have hnc68 := NB119_101.out; have hnb69 := NB101_109.out; have hnc69 := NB109_101.out; have hcz70_0 : w67.cell? ⟨gb101, 0, none⟩ = some (.slice none 0 0) := (qe BK101.out 0).trans rfl; have hcz70_1 : w67.cell? ⟨gb101, 1, none⟩ = some (.int .i64 0) := (qe BK101.out 1).trans rfl; have hcz70_2 : w67.cell? ⟨gb101, 2, none⟩ = some (.int .i64 0) := (qe BK101.out 2).trans rfl; have hcz70_3 : w67.cell? ⟨gb101, 3, none⟩ = some (.int .i64 0) := (qe BK101.out 3).trans rfl; have hfz70_0 := qc BK101.out 0; have hfz70_1 := qc BK101.out 1; have hfz70_2 := qc BK101.out 2; have hfz70_3 := qc BK101.out 3))
         refine bodyPost_ret (results_ct rfl _ _ gb101 32 #[.slice none 0 0, .int .i64 0, .int .i64 0, .int .i64 0] (0, 0) _ rfl (by (with_reducible repeat (first | refine qh ?_ _ | refine qj ?_ | refine qg ?_ _)); refine qu (cs := #[.slice none 0 0, .int .i64 0, .int .i64 0, .int .i64 0]) ?_ 3 _ rfl; (with_reducible repeat (first | refine qh ?_ _ | refine qj ?_ | refine qg ?_ _)); refine qu (cs := #[.slice none 0 0, .int .i64 0, .int .i64 0, .int .i64 0]) ?_ 2 _ rfl; (with_reducible repeat (first | refine qh ?_ _ | refine qj ?_ | refine qg ?_ _)); refine qu (cs := #[.slice none 0 0, .int .i64 0, .int .i64 0, .int .i64 0]) ?_ 1 _ rfl; (with_reducible repeat (first | refine qh ?_ _ | refine qj ?_ | refine qg ?_ _)); refine qu (cs := #[.slice none 0 0, .int .i64 0, .int .i64 0, .int .i64 0]) ?_ 0 _ rfl; (with_reducible repeat (first | refine qh ?_ _ | refine qj ?_ | refine qg ?_ _)); exact BK101.out) Try.underlying32 rfl (by kernel_rfl)) rfl ?_
         exact ⟨_, by first | rfl | (simp [qo, qn] <;> rfl) | (simp [*, qo, qn] <;> rfl), by first | exact Kd.R_nil _ _ _ _ _ | exact Kd.N_nil _ _ _ _ _ | exact Kd.V_nil _ _ _ _ _ | exact Kd.Q_nil _ _ _ _ _ | exact Kd.S_nil _ _ _ _ _, by repeat (first | (with_reducible first | exact HB.out | apply qf | apply qa | apply qd | refine qi ?_ (IsS108.ge HI109.out) | refine qi ?_ GE101.out | refine qi ?_ GE119.out) | exact HB.out)⟩
 ·replace c4 := Bool.eq_false_iff.mpr c4
  subst c4
  have H1 : (some (([] : List (S66)), 0, 0, 0, false)) = some (r1, r2, r3, r4, r5) := by rw [if_neg (show ¬ (false = true) by decide)] at H; exact H
  clear H
  have H := H1
  clear H1
  simp only [Option.some.injEq, Prod.mk.injEq] at H
  obtain ⟨rfl, rfl, rfl, rfl, rfl⟩ := H
  go_enter Try.func48, Try.ntmps48
  go_wp2_with (first | ((with_reducible refine gate_dst (N := 2) rfl ?_); refine qx ?hg (N := 2) ?hd (cs := #[.slice none 0 0, .int .i64 0, .int .i64 0, .int .i64 0]) (t := 32) ?hr ?_; (case hd => rfl); (case hg => rfl); (case hr => first | (go_simp; done) | (go_simp; rfl)); intro gb101 hg w71 hbox hb; have BK101 := Qz.mk (hbox); have GW101 := Qz.mk ((by rw [hg]; exact (qs (by repeat (first | (with_reducible first | exact HB.out | apply qf | apply qa | apply qd) | exact HB.out))) : w.heap.size ≤ gb101)); have GE101 := GW101; replace HB := Qz.mk (qp (by repeat (first | (with_reducible first | exact HB.out | apply qf | apply qa | apply qd) | exact HB.out)) hb); clear hb hbox hg) | ((with_reducible refine gate_dst (N := 10) rfl ?_); refine qx ?hg (N := 10) ?hd (cs := #[.string a0, .bool false]) (t := 108) ?hr ?_; (case hd => rfl); (case hg => rfl); (case hr => first | (go_simp; done) | (go_simp; rfl)); intro gb102 hg w72 hbox hb; have HI102 := Qz.mk ((⟨hbox, (by rw [hg]; exact (qs (by repeat (first | (with_reducible first | exact HB.out | apply qf | apply qa | apply qd | refine qi ?_ GE101.out) | exact HB.out))) : w.heap.size ≤ gb102)⟩ : IsS108 w w72 gb102 a0 false)); replace HB := Qz.mk (qp (by repeat (first | (with_reducible first | exact HB.out | apply qf | apply qa | apply qd | refine qi ?_ GE101.out) | exact HB.out)) hb); have NB101_102 := Qz.mk ((by rw [hg]; exact Nat.ne_of_lt (blk_lt (g := gb101) (o := .cells #[.slice none 0 0, .int .i64 0, .int .i64 0, .int .i64 0] 32 (0, 0)) (by (with_reducible repeat (first | refine qh ?_ _ | refine qj ?_ | refine qg ?_ _)); exact BK101.out)) : gb101 ≠ gb102)); have NB102_101 := Qz.mk ((by rw [hg]; exact Nat.ne_of_gt (blk_lt (g := gb101) (o := .cells #[.slice none 0 0, .int .i64 0, .int .i64 0, .int .i64 0] 32 (0, 0)) (by (with_reducible repeat (first | refine qh ?_ _ | refine qj ?_ | refine qg ?_ _)); exact BK101.out)) : gb102 ≠ gb101)); replace BK101 := Qz.mk (qr (g := gb101) (o := .cells #[.slice none 0 0, .int .i64 0, .int .i64 0, .int .i64 0] 32 (0, 0)) (by (with_reducible repeat (first | refine qh ?_ _ | refine qj ?_ | refine qg ?_ _)); exact BK101.out) hb); clear hb hbox hg) | ((with_reducible refine qm (f := 84) rfl ?_); refine qt (some 12) rfl rfl Try.func84 (by kernel_rfl) rfl #[.pointer (some ⟨gb102, 0, none⟩)] rfl (by (try simp only [List.map_toArray, List.map_cons, List.map_nil]); first | done | rfl) ?_; (with_reducible refine (impl_taker_section.calls k gb102 a0 false t103 t104 t105 w _ ?side1 ?side2 A2.out).mono ?_); (case side1 => repeat (first | (with_reducible first | exact HI102.out | apply IsS108.alloc | apply IsS108.drewN | apply IsS108.drew | apply IsS108.set_0 | apply IsS108.set_1 | apply (fun h_ => IsS108.far h_ NB102_101.out _)) | exact HI102.out)); (case side2 => repeat (first | (with_reducible first | exact HB.out | apply qf | apply qa | apply qd | refine qi ?_ (IsS108.ge HI102.out) | refine qi ?_ GE101.out) | exact HB.out)); rintro e w73 ⟨rfl, hi, hb, hk⟩; refine ⟨_, rfl, ?_⟩; replace BK101 := Qz.mk (KeepBut.blk hk (g' := gb101) (o := .cells #[.slice none 0 0, .int .i64 0, .int .i64 0, .int .i64 0] 32 (0, 0)) (by (with_reducible repeat (first | refine qh ?_ _ | refine qj ?_ | refine qg ?_ _)); exact BK101.out) NB101_102.out (by simp)); replace HB := Qz.mk (hb); replace HI102 := Qz.mk (hi); (try clear hb); (try clear hk); (try clear hi)) | ((with_reducible refine qm (f := 85) rfl ?_); refine qt (some 14) rfl rfl Try.func85 (by kernel_rfl) rfl #[.pointer (some ⟨gb102, 0, none⟩)] rfl (by (try simp only [List.map_toArray, List.map_cons, List.map_nil]); first | done | rfl) ?_; (with_reducible refine (impl_taker_whole.calls gb102 t104 t105 false t107 t108 w _ ?side1 ?side2 A3.out).mono ?_); (case side1 => repeat (first | (with_reducible first | exact HI102.out | apply IsS108.alloc | apply IsS108.drewN | apply IsS108.drew | apply IsS108.set_0 | apply IsS108.set_1 | apply (fun h_ => IsS108.far h_ NB102_101.out _)) | exact HI102.out)); (case side2 => repeat (first | (with_reducible first | exact HB.out | apply qf | apply qa | apply qd | refine qi ?_ (IsS108.ge HI102.out) | refine qi ?_ GE101.out) | exact HB.out)); rintro e w74 ⟨rfl, hi, hb, hk⟩; refine ⟨_, rfl, ?_⟩; replace BK101 := Qz.mk (KeepBut.blk hk (g' := gb101) (o := .cells #[.slice none 0 0, .int .i64 0, .int .i64 0, .int .i64 0] 32 (0, 0)) (by (with_reducible repeat (first | refine qh ?_ _ | refine qj ?_ | refine qg ?_ _)); exact BK101.out) NB101_102.out (by simp)); replace HB := Qz.mk (hb); replace HI102 := Qz.mk (hi); (try clear hb); (try clear hk); (try clear hi); have hnb75 := NB101_102.out; have hnc75 := NB102_101.out; have hcz76_0 : w74.cell? ⟨gb101, 0, none⟩ = some (.slice none 0 0) := (qe BK101.out 0).trans rfl; have hcz76_1 : w74.cell? ⟨gb101, 1, none⟩ = some (.int .i64 0) := (qe BK101.out 1).trans rfl; have hcz76_2 : w74.cell? ⟨gb101, 2, none⟩ = some (.int .i64 0) := (qe BK101.out 2).trans rfl; have hcz76_3 : w74.cell? ⟨gb101, 3, none⟩ = some (.int .i64 0) := (qe BK101.out 3).trans rfl; have hfz76_0 := qc BK101.out 0; have hfz76_1 := qc BK101.out 1; have hfz76_2 := qc BK101.out 2; have hfz76_3 := qc BK101.out 3))
  refine bodyPost_ret (results_ct rfl _ _ gb101 32 #[.slice none 0 0, .int .i64 0, .int .i64 0, .int .i64 0] (0, 0) _ rfl (by (with_reducible repeat (first | refine qh ?_ _ | refine qj ?_ | refine qg ?_ _)); refine qu (cs := #[.slice none 0 0, .int .i64 0, .int .i64 0, .int .i64 0]) ?_ 3 _ rfl; (with_reducible repeat (first | refine qh ?_ _ | refine qj ?_ | refine qg ?_ _)); refine qu (cs := #[.slice none 0 0, .int .i64 0, .int .i64 0, .int .i64 0]) ?_ 2 _ rfl; (with_reducible repeat (first | refine qh ?_ _ | refine qj ?_ | refine qg ?_ _)); refine qu (cs := #[.slice none 0 0, .int .i64 0, .int .i64 0, .int .i64 0]) ?_ 1 _ rfl; (with_reducible repeat (first | refine qh ?_ _ | refine qj ?_ | refine qg ?_ _)); refine qu (cs := #[.slice none 0 0, .int .i64 0, .int .i64 0, .int .i64 0]) ?_ 0 _ rfl; (with_reducible repeat (first | refine qh ?_ _ | refine qj ?_ | refine qg ?_ _)); exact BK101.out) Try.underlying32 rfl (by kernel_rfl)) rfl ?_
  exact ⟨_, by first | rfl | (simp [qo, qn] <;> rfl) | (simp [*, qo, qn] <;> rfl), by first | exact Kd.R_nil _ _ _ _ _ | exact Kd.N_nil _ _ _ _ _ | exact Kd.V_nil _ _ _ _ _ | exact Kd.Q_nil _ _ _ _ _ | exact Kd.S_nil _ _ _ _ _, by repeat (first | (with_reducible first | exact HB.out | apply qf | apply qa | apply qd | refine qi ?_ (IsS108.ge HI102.out) | refine qi ?_ GE101.out) | exact HB.out)⟩
end Go.Proofs.Ytcgejabkjljeeaa.P
end
