/- Proved: the law FnExactVersionText of the given program returns true for every input of its Go types and leaves each argument as it was; no condition. (Part 8 of 12.) -/
import Derived.Test.YtcgejabkjljeeaaCFnExactVersionText3
import Derived.Test.YtcgejabkjljeeaaCFnExactVersionText5
import Derived.Test.YtcgejabkjljeeaaCFnExactVersionText6
import Derived.Maps.OwnOps
section
namespace Go.Proofs.Ytcgejabkjljeeaa.P
open Go.RowKit Go.Proofs.YtcgejabkjljeeaaW.PrintWords Go.Proofs.YtcgejabkjljeeaaW.PrintLast Go.Proofs.YtcgejabkjljeeaaW.PrintMore
attribute [local go_sem] str_gtr str_leq str_geq max2_int min2_int max_two min_two max_three min_three max_four min_four
set_option linter.unusedVariables false
set_option linter.unusedSimpArgs false
def cI (a b : Int) : Int := if a < b then -1 else if b < a then 1 else 0
def cS (a b : ByteArray) : Int := if tless a b = true then -1 else if tless b a = true then 1 else 0
def mcmp (p m : S66) : Int := if p.f1 = m.f1 ∧ p.f1 = 0 then cI m.f0 p.f0 else (([cI p.f1 m.f1, cS p.f2 m.f2] : List Int).find? fun x => x != 0).getD 0
theorem cmpMetas_ev (p m : S66) : Ev (fun k => impl_cmpMetas.f k p.f0 p.f1 p.f2 p.f3 p.f4 m.f0 m.f1 m.f2 m.f3 m.f4) (mcmp p m) := by
  unfold impl_cmpMetas.f mcmp
  have jt : ∀ b : Bool, Ev (fun k => impl_cmpMetas.j0 k b p.f0 p.f1 p.f2 p.f3 p.f4 m.f0 m.f1 m.f2 m.f3 m.f4) (if b = true then cI m.f0 p.f0 else (([cI p.f1 m.f1, cS p.f2 m.f2] : List Int).find? fun x => x != 0).getD 0) := by
    intro b
    refine Ev.step (fun k => impl_cmpMetas.j0.eq_2 ..) ?_
    cases b with
    | true => exact Ev.pos rfl (Ev.bindS (compareI_ev _ _) (Ev.now _))
    | false => exact Ev.neg (by simp) (Ev.bindS (compareI_ev _ _) (Ev.bindS (compareS_ev _ _) (Ev.bind (orInt_ev 2 _ rfl (by omega)) (Ev.now _))))
  by_cases c : p.f1 = m.f1
  · refine Ev.pos c ((jt _).eqr ?_)
    by_cases c2 : p.f1 = 0
    · rw [if_pos (by rw [c2]; rfl), if_pos ⟨c, c2⟩]
    · rw [if_neg (by simpa using c2), if_neg (fun h => c2 h.2)]
  · exact Ev.neg c ((jt false).eqr (by rw [if_neg (by simp), if_neg (fun h => c h.1)]))
def okM (next : Int) (m : S66) : Prop := (1 ≤ m.f0 ∧ m.f0 ≤ next - 1) ∧ (0 ≤ m.f1 ∧ m.f1 ≤ 3) ∧ isU m.f2 ∧ isU m.f3 ∧ tless m.f3 m.f2 = false ∧ 1 ≤ m.f4 ∧ m.f4 ≤ 400
def aheadM (p m : S66) : Prop := mcmp p m < 0 ∧ ¬ (m.f1 > 0 ∧ p.f1 = m.f1 ∧ tless p.f3 m.f2 = false)
def okAt (l : List S66) (next : Int) (i : Nat) : Prop := okM next (l.getD i z66) ∧ (¬ (l.getD i z66).f0 ∈ (l.take i).map (fun m => m.f0)) ∧ (0 < i → aheadM (l.getD (i - 1) z66) (l.getD i z66))
def vOk (l : List S66) (next seq log : Int) : Prop := l.length ≤ 30 ∧ (1 ≤ next ∧ next ≤ 1000000) ∧ (0 ≤ seq ∧ seq ≤ 1000000000000) ∧ (0 ≤ log ∧ log ≤ next - 1) ∧ ∀ i, i < l.length → okAt l next i
instance (next : Int) (m : S66) : Decidable (okM next m) := by unfold okM; infer_instance
instance (p m : S66) : Decidable (aheadM p m) := by unfold aheadM; infer_instance
instance (l : List S66) (next : Int) (i : Nat) : Decidable (okAt l next i) := by unfold okAt; infer_instance
instance (l : List S66) (next seq log : Int) : Decidable (vOk l next seq log) := by unfold vOk; infer_instance
def impl_VersionOk.f (l0_0 : List S66) (a0_1 a0_2 a0_3 : Int) : Option (Bool) := some (decide (vOk l0_0 a0_1 a0_2 a0_3))
theorem cell_grown {w w' : World} {b : Nat} {p : Addr} {v : Value} (hg : w.grownBy w' (some b)) (hc : w.cell? p = some v) (hne : p.block ≠ b) : w'.cell? p = some v := by
  have := hg.block p.block (World.block_lt_of_cell? w _ hc) (fun e => hne (by injection e))
  rw [← hc]
  simp only [World.cell?, this]
theorem zeroBool (w : World) : (zeroValue 4).run Try.prog w = .ok (.bool false) w := by kernel_rfl
set_option maxHeartbeats 8000000 in
set_option maxRecDepth 100000 in
theorem impl_VersionOk.calls (A0_0 : Option Addr) (c0_0 : Nat) (l : List (S66)) (next seq log : Int) (r : Bool) (w : World) (hr0 : Kd.C k66 w A0_0 l.length l) (hc0 : l.length ≤ c0_0) (h : impl_VersionOk.f l next seq log = some r) :
    Calls Try.prog 27 #[.agg #[.slice A0_0 l.length c0_0, .int .i64 next, .int .i64 seq, .int .i64 log]] w fun e w' => e = .returned (.bool r) ∧ Below w.heap.size w w' := by
  obtain rfl := Option.some.inj h
  clear h hc0
  have HR := Aside0.mk hr0
  have hlm := Kd.C_max hr0
  clear hr0
  have hu0 := Try.underlying32
  have hmm := @run_makeMap Try.prog
  have hv0 : (w.alloc (.cells #[.slice A0_0 l.length c0_0, .int .i64 next, .int .i64 seq, .int .i64 log] 32)).cell? ⟨w.heap.size, 0, none⟩ = some (.slice A0_0 l.length c0_0) := by simp
  have hv1 : (w.alloc (.cells #[.slice A0_0 l.length c0_0, .int .i64 next, .int .i64 seq, .int .i64 log] 32)).cell? ⟨w.heap.size, 1, none⟩ = some (.int .i64 next) := by simp
  have hv2 : (w.alloc (.cells #[.slice A0_0 l.length c0_0, .int .i64 next, .int .i64 seq, .int .i64 log] 32)).cell? ⟨w.heap.size, 2, none⟩ = some (.int .i64 seq) := by simp
  have hv3 : (w.alloc (.cells #[.slice A0_0 l.length c0_0, .int .i64 next, .int .i64 seq, .int .i64 log] 32)).cell? ⟨w.heap.size, 3, none⟩ = some (.int .i64 log) := by simp
  have HB := Aside0.mk ((Below.refl _ w).alloc (Nat.le_refl _) (.cells #[.slice A0_0 l.length c0_0, .int .i64 next, .int .i64 seq, .int .i64 log] 32))
  by_cases e0 : l.length ≤ 30
  case neg =>
    have hR : decide (vOk l next seq log) = false := decide_eq_false fun h => e0 h.1
    have d0 : decide ((l.length : Int) > 30) = true := decide_eq_true (by omega)
    go_enter Try.func27, Try.ntmps27
    go_wp2
    go_ret
    exact ⟨by rw [hR]; rfl, HB.out⟩
  have d0 : decide ((l.length : Int) > 30) = false := decide_eq_false (by omega)
  have e00 := e0
  by_cases e1 : 1 ≤ next ∧ next ≤ 1000000
  case neg =>
    have hR : decide (vOk l next seq log) = false := decide_eq_false fun h => e1 h.2.1
    have d1 : decide (1 ≤ next ∧ next ≤ 1000000) = false := decide_eq_false e1
    clear e0
    go_enter Try.func27, Try.ntmps27
    go_wp2_with (first | (go_at_call 65; (with_reducible refine (impl_within.calls _ _ _ _ _ (within_ev _ _ _)).mono ?_); rintro e w1 ⟨rfl, hb⟩; (try replace hb := hb.below); replace hv0 := (hb.cell (World.block_lt_of_cell? _ _ hv0)).trans hv0; replace hv1 := (hb.cell (World.block_lt_of_cell? _ _ hv1)).trans hv1; replace hv2 := (hb.cell (World.block_lt_of_cell? _ _ hv2)).trans hv2; replace hv3 := (hb.cell (World.block_lt_of_cell? _ _ hv3)).trans hv3; have n_ := Aside0.mk (below_step HB.out hb); clear HB; have HB := n_; clear n_;  clear hb))
    go_ret
    exact ⟨by rw [hR]; rfl, HB.out⟩
  have d1 : decide (1 ≤ next ∧ next ≤ 1000000) = true := decide_eq_true e1
  by_cases e2 : 0 ≤ seq ∧ seq ≤ 1000000000000
  case neg =>
    have hR : decide (vOk l next seq log) = false := decide_eq_false fun h => e2 h.2.2.1
    have d2 : decide (0 ≤ seq ∧ seq ≤ 1000000000000) = false := decide_eq_false e2
    clear e0
    go_enter Try.func27, Try.ntmps27
    go_wp2_with (first | (go_at_call 65; (with_reducible refine (impl_within.calls _ _ _ _ _ (within_ev _ _ _)).mono ?_); rintro e w1 ⟨rfl, hb⟩; (try replace hb := hb.below); replace hv0 := (hb.cell (World.block_lt_of_cell? _ _ hv0)).trans hv0; replace hv1 := (hb.cell (World.block_lt_of_cell? _ _ hv1)).trans hv1; replace hv2 := (hb.cell (World.block_lt_of_cell? _ _ hv2)).trans hv2; replace hv3 := (hb.cell (World.block_lt_of_cell? _ _ hv3)).trans hv3; have n_ := Aside0.mk (below_step HB.out hb); clear HB; have HB := n_; clear n_;  clear hb))
    go_ret
    exact ⟨by rw [hR]; rfl, HB.out⟩
  have d2 : decide (0 ≤ seq ∧ seq ≤ 1000000000000) = true := decide_eq_true e2
  by_cases e3 : 0 ≤ log ∧ log ≤ next - 1
  case neg =>
    have hR : decide (vOk l next seq log) = false := decide_eq_false fun h => e3 h.2.2.2.1
    have d3 : decide (0 ≤ log ∧ log ≤ next - 1) = false := decide_eq_false e3
    clear e0
    go_enter Try.func27, Try.ntmps27
    go_wp2_with (first | (go_at_call 65; (with_reducible refine (impl_within.calls _ _ _ _ _ (within_ev _ _ _)).mono ?_); rintro e w1 ⟨rfl, hb⟩; (try replace hb := hb.below); replace hv0 := (hb.cell (World.block_lt_of_cell? _ _ hv0)).trans hv0; replace hv1 := (hb.cell (World.block_lt_of_cell? _ _ hv1)).trans hv1; replace hv2 := (hb.cell (World.block_lt_of_cell? _ _ hv2)).trans hv2; replace hv3 := (hb.cell (World.block_lt_of_cell? _ _ hv3)).trans hv3; have n_ := Aside0.mk (below_step HB.out hb); clear HB; have HB := n_; clear n_;  clear hb))
    go_ret
    exact ⟨by rw [hR]; rfl, HB.out⟩
  have d3 : decide (0 ≤ log ∧ log ≤ next - 1) = true := decide_eq_true e3
  clear e0
  have hva0 := fun o => (((Below.refl _ _).alloc (Nat.le_refl _) o).cell (World.block_lt_of_cell? _ _ hv0)).trans hv0
  have hva1 := fun o => (((Below.refl _ _).alloc (Nat.le_refl _) o).cell (World.block_lt_of_cell? _ _ hv1)).trans hv1
  have hva2 := fun o => (((Below.refl _ _).alloc (Nat.le_refl _) o).cell (World.block_lt_of_cell? _ _ hv2)).trans hv2
  have hva3 := fun o => (((Below.refl _ _).alloc (Nat.le_refl _) o).cell (World.block_lt_of_cell? _ _ hv3)).trans hv3
  go_enter Try.func27, Try.ntmps27
  go_wp2_with (first | (go_at_call 65; (with_reducible refine (impl_within.calls _ _ _ _ _ (within_ev _ _ _)).mono ?_); rintro e w1 ⟨rfl, hb⟩; (try replace hb := hb.below); replace hv0 := (hb.cell (World.block_lt_of_cell? _ _ hv0)).trans hv0; replace hv1 := (hb.cell (World.block_lt_of_cell? _ _ hv1)).trans hv1; replace hv2 := (hb.cell (World.block_lt_of_cell? _ _ hv2)).trans hv2; replace hv3 := (hb.cell (World.block_lt_of_cell? _ _ hv3)).trans hv3; have n_ := Aside0.mk (below_step HB.out hb); clear HB; have HB := n_; clear n_; replace hva0 := fun o => (((Below.refl _ _).alloc (Nat.le_refl _) o).cell (World.block_lt_of_cell? _ _ hv0)).trans hv0; replace hva1 := fun o => (((Below.refl _ _).alloc (Nat.le_refl _) o).cell (World.block_lt_of_cell? _ _ hv1)).trans hv1; replace hva2 := fun o => (((Below.refl _ _).alloc (Nat.le_refl _) o).cell (World.block_lt_of_cell? _ _ hv2)).trans hv2; replace hva3 := fun o => (((Below.refl _ _).alloc (Nat.le_refl _) o).cell (World.block_lt_of_cell? _ _ hv3)).trans hv3; clear hb))
  have hmb := World.block_lt_of_cell? _ _ hv0
  have hmb : w.heap.size < w1.heap.size := hmb
  go_loopg [36] l.length (fun gk s36 wr => ∃ i : Nat, s36 = .int .i64 i ∧ i ≤ l.length ∧ l.length - i ≤ gk ∧ Aside0 (Below w.heap.size w wr) ∧ Aside0 (Met wr w1.heap.size ((l.take i).map fun m => m.f0)) ∧ Aside0 (∀ j, j < i → okAt l next j) ∧ wr.cell? ⟨w.heap.size, 0, none⟩ = some (.slice A0_0 l.length c0_0) ∧ wr.cell? ⟨w.heap.size, 1, none⟩ = some (.int .i64 next) ∧ wr.cell? ⟨w.heap.size, 2, none⟩ = some (.int .i64 seq) ∧ wr.cell? ⟨w.heap.size, 3, none⟩ = some (.int .i64 log))
  case atStart => exact ⟨0, rfl, Nat.zero_le _, by omega, ⟨HB.out.alloc HB.out.size _⟩, ⟨met_made w1⟩, ⟨fun j hj => absurd hj (Nat.not_lt_zero _)⟩, hva0 _, hva1 _, hva2 _, hva3 _⟩
  case round =>
    clear HB hva0 hva1 hva2 hva3 hv0 hv1 hv2 hv3
    obtain ⟨i, rfl, hin, hg, HBr, HMr, HOK, hv0, hv1, hv2, hv3⟩ := hrel
    by_cases hlt : i < l.length
    case neg =>
      obtain rfl : i = l.length := by omega
      have hd : decide ((l.length : Int) < (l.length : Int)) = false := decide_eq_false (by omega)
      have hR : decide (vOk l next seq log) = true := decide_eq_true ⟨e00, e1, e2, e3, HOK.out⟩
      go_wp2
      go_ret
      exact ⟨by first | rfl | (rw [hR]; rfl) | (simp [hR]; rfl), HBr.out⟩
    have hd : decide ((i : Int) < (l.length : Int)) = true := decide_eq_true (by omega)
    obtain ⟨ad, e, h0, h1, h2, h3, h4⟩ := at_T66 HR.out (i : Int) (by omega) (by omega)
    cases e
    rw [Int.toNat_natCast] at h0 h1 h2 h3 h4
    have hX : rd_T66 l (i : Int) = l.getD i z66 := by unfold rd_T66; rw [Int.toNat_natCast]
    rw [hX] at h0 h1 h2 h3 h4
    have HOA : Aside0 (∀ j, okAt l next j → okAt l next j) := ⟨fun _ h => h⟩
    have hno : ¬ okAt l next i → decide (vOk l next seq log) = false := fun hn => decide_eq_false fun h => hn (h.2.2.2.2 i hlt)
    have hK : Aside0 (okAt l next i ↔ okM next (l.getD i z66) ∧ (¬ (l.getD i z66).f0 ∈ (l.take i).map (fun m => m.f0)) ∧ (0 < i → aheadM (l.getD (i - 1) z66) (l.getD i z66))) := ⟨Iff.rfl⟩
    have hT : Aside0 (((l.take (i + 1)).map fun m => m.f0) = ((l.take i).map fun m => m.f0) ++ [(l.getD i z66).f0]) := ⟨by rw [List.take_add_one, List.getElem?_eq_getElem hlt, List.map_append, List.getD_eq_getElem?_getD, List.getElem?_eq_getElem hlt]; rfl⟩
    clear hX
    generalize l.getD i z66 = x at h0 h1 h2 h3 h4 hK hT
    generalize ((l.take i).map fun m => m.f0) = K at HMr hK hT
    replace h0 := (HBr.out.cell (World.block_lt_of_cell? _ _ h0)).trans h0
    replace h1 := (HBr.out.cell (World.block_lt_of_cell? _ _ h1)).trans h1
    replace h2 := (HBr.out.cell (World.block_lt_of_cell? _ _ h2)).trans h2
    replace h3 := (HBr.out.cell (World.block_lt_of_cell? _ _ h3)).trans h3
    replace h4 := (HBr.out.cell (World.block_lt_of_cell? _ _ h4)).trans h4
    have HB := Aside0.mk (HBr.out.alloc HBr.out.size (.cells #[.int .i64 x.f0, .int .i64 x.f1, .string x.f2, .string x.f3, .int .i64 x.f4] 66))
    have HM := Aside0.mk (HMr.out.below ((Below.refl _ wr).alloc (Nat.le_refl _) (.cells #[.int .i64 x.f0, .int .i64 x.f1, .string x.f2, .string x.f3, .int .i64 x.f4] 66)))
    have hwr : w.heap.size < wr.heap.size := World.block_lt_of_cell? _ _ hv0
    have hmbr : w1.heap.size < wr.heap.size := HMr.out.lt
    replace hv0 := (((Below.refl _ wr).alloc (Nat.le_refl _) (.cells #[.int .i64 x.f0, .int .i64 x.f1, .string x.f2, .string x.f3, .int .i64 x.f4] 66)).cell (World.block_lt_of_cell? _ _ hv0)).trans hv0
    replace hv1 := (((Below.refl _ wr).alloc (Nat.le_refl _) (.cells #[.int .i64 x.f0, .int .i64 x.f1, .string x.f2, .string x.f3, .int .i64 x.f4] 66)).cell (World.block_lt_of_cell? _ _ hv1)).trans hv1
    replace hv2 := (((Below.refl _ wr).alloc (Nat.le_refl _) (.cells #[.int .i64 x.f0, .int .i64 x.f1, .string x.f2, .string x.f3, .int .i64 x.f4] 66)).cell (World.block_lt_of_cell? _ _ hv2)).trans hv2
    replace hv3 := (((Below.refl _ wr).alloc (Nat.le_refl _) (.cells #[.int .i64 x.f0, .int .i64 x.f1, .string x.f2, .string x.f3, .int .i64 x.f4] 66)).cell (World.block_lt_of_cell? _ _ hv3)).trans hv3
    have hx0 : (wr.alloc (.cells #[.int .i64 x.f0, .int .i64 x.f1, .string x.f2, .string x.f3, .int .i64 x.f4] 66)).cell? ⟨wr.heap.size, 0, none⟩ = some (.int .i64 x.f0) := by simp
    have hx1 : (wr.alloc (.cells #[.int .i64 x.f0, .int .i64 x.f1, .string x.f2, .string x.f3, .int .i64 x.f4] 66)).cell? ⟨wr.heap.size, 1, none⟩ = some (.int .i64 x.f1) := by simp
    have hx2 : (wr.alloc (.cells #[.int .i64 x.f0, .int .i64 x.f1, .string x.f2, .string x.f3, .int .i64 x.f4] 66)).cell? ⟨wr.heap.size, 2, none⟩ = some (.string x.f2) := by simp
    have hx3 : (wr.alloc (.cells #[.int .i64 x.f0, .int .i64 x.f1, .string x.f2, .string x.f3, .int .i64 x.f4] 66)).cell? ⟨wr.heap.size, 3, none⟩ = some (.string x.f3) := by simp
    have hx4 : (wr.alloc (.cells #[.int .i64 x.f0, .int .i64 x.f1, .string x.f2, .string x.f3, .int .i64 x.f4] 66)).cell? ⟨wr.heap.size, 4, none⟩ = some (.int .i64 x.f4) := by simp
    clear HBr HMr
    by_cases c1 : 1 ≤ x.f0 ∧ x.f0 ≤ next - 1
    case neg =>
      have hR := hno fun h => (by have h := hK.out.1 h; exact c1 h.1.1)
      have b1 : decide (1 ≤ x.f0 ∧ x.f0 ≤ next - 1) = false := decide_eq_false c1
      go_wp2_with (first | (go_at_call 65; (with_reducible refine (impl_within.calls _ _ _ _ _ (within_ev _ _ _)).mono ?_); rintro e w9 ⟨rfl, hb⟩; (try replace hb := hb.below); replace hv0 := (hb.cell (World.block_lt_of_cell? _ _ hv0)).trans hv0; replace hv1 := (hb.cell (World.block_lt_of_cell? _ _ hv1)).trans hv1; replace hv2 := (hb.cell (World.block_lt_of_cell? _ _ hv2)).trans hv2; replace hv3 := (hb.cell (World.block_lt_of_cell? _ _ hv3)).trans hv3; replace hx0 := (hb.cell (World.block_lt_of_cell? _ _ hx0)).trans hx0; replace hx1 := (hb.cell (World.block_lt_of_cell? _ _ hx1)).trans hx1; replace hx2 := (hb.cell (World.block_lt_of_cell? _ _ hx2)).trans hx2; replace hx3 := (hb.cell (World.block_lt_of_cell? _ _ hx3)).trans hx3; replace hx4 := (hb.cell (World.block_lt_of_cell? _ _ hx4)).trans hx4; have n_ := Aside0.mk (below_step HB.out hb); clear HB; have HB := n_; clear n_; have m_ := Aside0.mk (HM.out.below hb); clear HM; have HM := m_; clear m_; clear hb) | (go_at_call 66; (with_reducible refine (impl_isUser.calls _ _ _ (isUser_ev _)).mono ?_); rintro e w9 ⟨rfl, hb⟩; (try replace hb := hb.below); replace hv0 := (hb.cell (World.block_lt_of_cell? _ _ hv0)).trans hv0; replace hv1 := (hb.cell (World.block_lt_of_cell? _ _ hv1)).trans hv1; replace hv2 := (hb.cell (World.block_lt_of_cell? _ _ hv2)).trans hv2; replace hv3 := (hb.cell (World.block_lt_of_cell? _ _ hv3)).trans hv3; replace hx0 := (hb.cell (World.block_lt_of_cell? _ _ hx0)).trans hx0; replace hx1 := (hb.cell (World.block_lt_of_cell? _ _ hx1)).trans hx1; replace hx2 := (hb.cell (World.block_lt_of_cell? _ _ hx2)).trans hx2; replace hx3 := (hb.cell (World.block_lt_of_cell? _ _ hx3)).trans hx3; replace hx4 := (hb.cell (World.block_lt_of_cell? _ _ hx4)).trans hx4; have n_ := Aside0.mk (below_step HB.out hb); clear HB; have HB := n_; clear n_; have m_ := Aside0.mk (HM.out.below hb); clear HM; have HM := m_; clear m_; clear hb))
      go_ret
      exact ⟨by rw [hR]; rfl, HB.out⟩
    have b1 : decide (1 ≤ x.f0 ∧ x.f0 ≤ next - 1) = true := decide_eq_true c1
    have hwf : (Lit.int .i64 x.f0).wf = true := by simp [Lit.wf, IntKind.min, IntKind.max, IntKind.signed, IntKind.bits]; omega
    have hlk := met_look HM.out Try.underlying85 Try.underlying2 (zeroBool _) x.f0 hwf
    by_cases c2 : x.f0 ∈ K
    case pos =>
      have hR := hno fun h => (by have h := hK.out.1 h; exact h.2.1 c2)
      have b2 : decide (x.f0 ∈ K) = true := decide_eq_true c2
      go_wp2_with (first | (go_at_call 65; (with_reducible refine (impl_within.calls _ _ _ _ _ (within_ev _ _ _)).mono ?_); rintro e w9 ⟨rfl, hb⟩; (try replace hb := hb.below); replace hv0 := (hb.cell (World.block_lt_of_cell? _ _ hv0)).trans hv0; replace hv1 := (hb.cell (World.block_lt_of_cell? _ _ hv1)).trans hv1; replace hv2 := (hb.cell (World.block_lt_of_cell? _ _ hv2)).trans hv2; replace hv3 := (hb.cell (World.block_lt_of_cell? _ _ hv3)).trans hv3; replace hx0 := (hb.cell (World.block_lt_of_cell? _ _ hx0)).trans hx0; replace hx1 := (hb.cell (World.block_lt_of_cell? _ _ hx1)).trans hx1; replace hx2 := (hb.cell (World.block_lt_of_cell? _ _ hx2)).trans hx2; replace hx3 := (hb.cell (World.block_lt_of_cell? _ _ hx3)).trans hx3; replace hx4 := (hb.cell (World.block_lt_of_cell? _ _ hx4)).trans hx4; have n_ := Aside0.mk (below_step HB.out hb); clear HB; have HB := n_; clear n_; have m_ := Aside0.mk (HM.out.below hb); clear HM; have HM := m_; clear m_; replace hlk := met_look HM.out Try.underlying85 Try.underlying2 (zeroBool _) x.f0 hwf; clear hb) | (go_at_call 66; (with_reducible refine (impl_isUser.calls _ _ _ (isUser_ev _)).mono ?_); rintro e w9 ⟨rfl, hb⟩; (try replace hb := hb.below); replace hv0 := (hb.cell (World.block_lt_of_cell? _ _ hv0)).trans hv0; replace hv1 := (hb.cell (World.block_lt_of_cell? _ _ hv1)).trans hv1; replace hv2 := (hb.cell (World.block_lt_of_cell? _ _ hv2)).trans hv2; replace hv3 := (hb.cell (World.block_lt_of_cell? _ _ hv3)).trans hv3; replace hx0 := (hb.cell (World.block_lt_of_cell? _ _ hx0)).trans hx0; replace hx1 := (hb.cell (World.block_lt_of_cell? _ _ hx1)).trans hx1; replace hx2 := (hb.cell (World.block_lt_of_cell? _ _ hx2)).trans hx2; replace hx3 := (hb.cell (World.block_lt_of_cell? _ _ hx3)).trans hx3; replace hx4 := (hb.cell (World.block_lt_of_cell? _ _ hx4)).trans hx4; have n_ := Aside0.mk (below_step HB.out hb); clear HB; have HB := n_; clear n_; have m_ := Aside0.mk (HM.out.below hb); clear HM; have HM := m_; clear m_; replace hlk := met_look HM.out Try.underlying85 Try.underlying2 (zeroBool _) x.f0 hwf; clear hb))
      go_ret
      exact ⟨by rw [hR]; rfl, HB.out⟩
    have b2 : decide (x.f0 ∈ K) = false := decide_eq_false c2
    by_cases c3 : 0 ≤ x.f1 ∧ x.f1 ≤ 3
    case neg =>
      have hR := hno fun h => (by have h := hK.out.1 h; exact c3 h.1.2.1)
      have b3 : decide (0 ≤ x.f1 ∧ x.f1 ≤ 3) = false := decide_eq_false c3
      go_wp2_with (first | (go_at_call 65; (with_reducible refine (impl_within.calls _ _ _ _ _ (within_ev _ _ _)).mono ?_); rintro e w9 ⟨rfl, hb⟩; (try replace hb := hb.below); replace hv0 := (hb.cell (World.block_lt_of_cell? _ _ hv0)).trans hv0; replace hv1 := (hb.cell (World.block_lt_of_cell? _ _ hv1)).trans hv1; replace hv2 := (hb.cell (World.block_lt_of_cell? _ _ hv2)).trans hv2; replace hv3 := (hb.cell (World.block_lt_of_cell? _ _ hv3)).trans hv3; replace hx0 := (hb.cell (World.block_lt_of_cell? _ _ hx0)).trans hx0; replace hx1 := (hb.cell (World.block_lt_of_cell? _ _ hx1)).trans hx1; replace hx2 := (hb.cell (World.block_lt_of_cell? _ _ hx2)).trans hx2; replace hx3 := (hb.cell (World.block_lt_of_cell? _ _ hx3)).trans hx3; replace hx4 := (hb.cell (World.block_lt_of_cell? _ _ hx4)).trans hx4; have n_ := Aside0.mk (below_step HB.out hb); clear HB; have HB := n_; clear n_; have m_ := Aside0.mk (HM.out.below hb); clear HM; have HM := m_; clear m_; replace hlk := met_look HM.out Try.underlying85 Try.underlying2 (zeroBool _) x.f0 hwf; clear hb) | (go_at_call 66; (with_reducible refine (impl_isUser.calls _ _ _ (isUser_ev _)).mono ?_); rintro e w9 ⟨rfl, hb⟩; (try replace hb := hb.below); replace hv0 := (hb.cell (World.block_lt_of_cell? _ _ hv0)).trans hv0; replace hv1 := (hb.cell (World.block_lt_of_cell? _ _ hv1)).trans hv1; replace hv2 := (hb.cell (World.block_lt_of_cell? _ _ hv2)).trans hv2; replace hv3 := (hb.cell (World.block_lt_of_cell? _ _ hv3)).trans hv3; replace hx0 := (hb.cell (World.block_lt_of_cell? _ _ hx0)).trans hx0; replace hx1 := (hb.cell (World.block_lt_of_cell? _ _ hx1)).trans hx1; replace hx2 := (hb.cell (World.block_lt_of_cell? _ _ hx2)).trans hx2; replace hx3 := (hb.cell (World.block_lt_of_cell? _ _ hx3)).trans hx3; replace hx4 := (hb.cell (World.block_lt_of_cell? _ _ hx4)).trans hx4; have n_ := Aside0.mk (below_step HB.out hb); clear HB; have HB := n_; clear n_; have m_ := Aside0.mk (HM.out.below hb); clear HM; have HM := m_; clear m_; replace hlk := met_look HM.out Try.underlying85 Try.underlying2 (zeroBool _) x.f0 hwf; clear hb))
      go_ret
      exact ⟨by rw [hR]; rfl, HB.out⟩
    have b3 : decide (0 ≤ x.f1 ∧ x.f1 ≤ 3) = true := decide_eq_true c3
    by_cases c4 : isU x.f2
    case neg =>
      have hR := hno fun h => (by have h := hK.out.1 h; exact c4 h.1.2.2.1)
      have b4 : decide (isU x.f2) = false := decide_eq_false c4
      go_wp2_with (first | (go_at_call 65; (with_reducible refine (impl_within.calls _ _ _ _ _ (within_ev _ _ _)).mono ?_); rintro e w9 ⟨rfl, hb⟩; (try replace hb := hb.below); replace hv0 := (hb.cell (World.block_lt_of_cell? _ _ hv0)).trans hv0; replace hv1 := (hb.cell (World.block_lt_of_cell? _ _ hv1)).trans hv1; replace hv2 := (hb.cell (World.block_lt_of_cell? _ _ hv2)).trans hv2; replace hv3 := (hb.cell (World.block_lt_of_cell? _ _ hv3)).trans hv3; replace hx0 := (hb.cell (World.block_lt_of_cell? _ _ hx0)).trans hx0; replace hx1 := (hb.cell (World.block_lt_of_cell? _ _ hx1)).trans hx1; replace hx2 := (hb.cell (World.block_lt_of_cell? _ _ hx2)).trans hx2; replace hx3 := (hb.cell (World.block_lt_of_cell? _ _ hx3)).trans hx3; replace hx4 := (hb.cell (World.block_lt_of_cell? _ _ hx4)).trans hx4; have n_ := Aside0.mk (below_step HB.out hb); clear HB; have HB := n_; clear n_; have m_ := Aside0.mk (HM.out.below hb); clear HM; have HM := m_; clear m_; replace hlk := met_look HM.out Try.underlying85 Try.underlying2 (zeroBool _) x.f0 hwf; clear hb) | (go_at_call 66; (with_reducible refine (impl_isUser.calls _ _ _ (isUser_ev _)).mono ?_); rintro e w9 ⟨rfl, hb⟩; (try replace hb := hb.below); replace hv0 := (hb.cell (World.block_lt_of_cell? _ _ hv0)).trans hv0; replace hv1 := (hb.cell (World.block_lt_of_cell? _ _ hv1)).trans hv1; replace hv2 := (hb.cell (World.block_lt_of_cell? _ _ hv2)).trans hv2; replace hv3 := (hb.cell (World.block_lt_of_cell? _ _ hv3)).trans hv3; replace hx0 := (hb.cell (World.block_lt_of_cell? _ _ hx0)).trans hx0; replace hx1 := (hb.cell (World.block_lt_of_cell? _ _ hx1)).trans hx1; replace hx2 := (hb.cell (World.block_lt_of_cell? _ _ hx2)).trans hx2; replace hx3 := (hb.cell (World.block_lt_of_cell? _ _ hx3)).trans hx3; replace hx4 := (hb.cell (World.block_lt_of_cell? _ _ hx4)).trans hx4; have n_ := Aside0.mk (below_step HB.out hb); clear HB; have HB := n_; clear n_; have m_ := Aside0.mk (HM.out.below hb); clear HM; have HM := m_; clear m_; replace hlk := met_look HM.out Try.underlying85 Try.underlying2 (zeroBool _) x.f0 hwf; clear hb))
      go_ret
      exact ⟨by rw [hR]; rfl, HB.out⟩
    have b4 : decide (isU x.f2) = true := decide_eq_true c4
    by_cases c5 : isU x.f3
    case neg =>
      have hR := hno fun h => (by have h := hK.out.1 h; exact c5 h.1.2.2.2.1)
      have b5 : decide (isU x.f3) = false := decide_eq_false c5
      go_wp2_with (first | (go_at_call 65; (with_reducible refine (impl_within.calls _ _ _ _ _ (within_ev _ _ _)).mono ?_); rintro e w9 ⟨rfl, hb⟩; (try replace hb := hb.below); replace hv0 := (hb.cell (World.block_lt_of_cell? _ _ hv0)).trans hv0; replace hv1 := (hb.cell (World.block_lt_of_cell? _ _ hv1)).trans hv1; replace hv2 := (hb.cell (World.block_lt_of_cell? _ _ hv2)).trans hv2; replace hv3 := (hb.cell (World.block_lt_of_cell? _ _ hv3)).trans hv3; replace hx0 := (hb.cell (World.block_lt_of_cell? _ _ hx0)).trans hx0; replace hx1 := (hb.cell (World.block_lt_of_cell? _ _ hx1)).trans hx1; replace hx2 := (hb.cell (World.block_lt_of_cell? _ _ hx2)).trans hx2; replace hx3 := (hb.cell (World.block_lt_of_cell? _ _ hx3)).trans hx3; replace hx4 := (hb.cell (World.block_lt_of_cell? _ _ hx4)).trans hx4; have n_ := Aside0.mk (below_step HB.out hb); clear HB; have HB := n_; clear n_; have m_ := Aside0.mk (HM.out.below hb); clear HM; have HM := m_; clear m_; replace hlk := met_look HM.out Try.underlying85 Try.underlying2 (zeroBool _) x.f0 hwf; clear hb) | (go_at_call 66; (with_reducible refine (impl_isUser.calls _ _ _ (isUser_ev _)).mono ?_); rintro e w9 ⟨rfl, hb⟩; (try replace hb := hb.below); replace hv0 := (hb.cell (World.block_lt_of_cell? _ _ hv0)).trans hv0; replace hv1 := (hb.cell (World.block_lt_of_cell? _ _ hv1)).trans hv1; replace hv2 := (hb.cell (World.block_lt_of_cell? _ _ hv2)).trans hv2; replace hv3 := (hb.cell (World.block_lt_of_cell? _ _ hv3)).trans hv3; replace hx0 := (hb.cell (World.block_lt_of_cell? _ _ hx0)).trans hx0; replace hx1 := (hb.cell (World.block_lt_of_cell? _ _ hx1)).trans hx1; replace hx2 := (hb.cell (World.block_lt_of_cell? _ _ hx2)).trans hx2; replace hx3 := (hb.cell (World.block_lt_of_cell? _ _ hx3)).trans hx3; replace hx4 := (hb.cell (World.block_lt_of_cell? _ _ hx4)).trans hx4; have n_ := Aside0.mk (below_step HB.out hb); clear HB; have HB := n_; clear n_; have m_ := Aside0.mk (HM.out.below hb); clear HM; have HM := m_; clear m_; replace hlk := met_look HM.out Try.underlying85 Try.underlying2 (zeroBool _) x.f0 hwf; clear hb))
      go_ret
      exact ⟨by rw [hR]; rfl, HB.out⟩
    have b5 : decide (isU x.f3) = true := decide_eq_true c5
    cases b6 : Op.bytesLess x.f3.toList x.f2.toList
    case true =>
      have hR := hno fun h => (by have h := hK.out.1 h; have := h.1.2.2.2.2.1; unfold tless at this; rw [b6] at this; cases this)
      go_wp2_with (first | (go_at_call 65; (with_reducible refine (impl_within.calls _ _ _ _ _ (within_ev _ _ _)).mono ?_); rintro e w9 ⟨rfl, hb⟩; (try replace hb := hb.below); replace hv0 := (hb.cell (World.block_lt_of_cell? _ _ hv0)).trans hv0; replace hv1 := (hb.cell (World.block_lt_of_cell? _ _ hv1)).trans hv1; replace hv2 := (hb.cell (World.block_lt_of_cell? _ _ hv2)).trans hv2; replace hv3 := (hb.cell (World.block_lt_of_cell? _ _ hv3)).trans hv3; replace hx0 := (hb.cell (World.block_lt_of_cell? _ _ hx0)).trans hx0; replace hx1 := (hb.cell (World.block_lt_of_cell? _ _ hx1)).trans hx1; replace hx2 := (hb.cell (World.block_lt_of_cell? _ _ hx2)).trans hx2; replace hx3 := (hb.cell (World.block_lt_of_cell? _ _ hx3)).trans hx3; replace hx4 := (hb.cell (World.block_lt_of_cell? _ _ hx4)).trans hx4; have n_ := Aside0.mk (below_step HB.out hb); clear HB; have HB := n_; clear n_; have m_ := Aside0.mk (HM.out.below hb); clear HM; have HM := m_; clear m_; replace hlk := met_look HM.out Try.underlying85 Try.underlying2 (zeroBool _) x.f0 hwf; clear hb) | (go_at_call 66; (with_reducible refine (impl_isUser.calls _ _ _ (isUser_ev _)).mono ?_); rintro e w9 ⟨rfl, hb⟩; (try replace hb := hb.below); replace hv0 := (hb.cell (World.block_lt_of_cell? _ _ hv0)).trans hv0; replace hv1 := (hb.cell (World.block_lt_of_cell? _ _ hv1)).trans hv1; replace hv2 := (hb.cell (World.block_lt_of_cell? _ _ hv2)).trans hv2; replace hv3 := (hb.cell (World.block_lt_of_cell? _ _ hv3)).trans hv3; replace hx0 := (hb.cell (World.block_lt_of_cell? _ _ hx0)).trans hx0; replace hx1 := (hb.cell (World.block_lt_of_cell? _ _ hx1)).trans hx1; replace hx2 := (hb.cell (World.block_lt_of_cell? _ _ hx2)).trans hx2; replace hx3 := (hb.cell (World.block_lt_of_cell? _ _ hx3)).trans hx3; replace hx4 := (hb.cell (World.block_lt_of_cell? _ _ hx4)).trans hx4; have n_ := Aside0.mk (below_step HB.out hb); clear HB; have HB := n_; clear n_; have m_ := Aside0.mk (HM.out.below hb); clear HM; have HM := m_; clear m_; replace hlk := met_look HM.out Try.underlying85 Try.underlying2 (zeroBool _) x.f0 hwf; clear hb))
      go_ret
      exact ⟨by rw [hR]; rfl, HB.out⟩
    by_cases c7 : 1 ≤ x.f4 ∧ x.f4 ≤ 400
    case neg =>
      have hR := hno fun h => (by have h := hK.out.1 h; exact c7 h.1.2.2.2.2.2)
      have b7 : decide (1 ≤ x.f4 ∧ x.f4 ≤ 400) = false := decide_eq_false c7
      go_wp2_with (first | (go_at_call 65; (with_reducible refine (impl_within.calls _ _ _ _ _ (within_ev _ _ _)).mono ?_); rintro e w9 ⟨rfl, hb⟩; (try replace hb := hb.below); replace hv0 := (hb.cell (World.block_lt_of_cell? _ _ hv0)).trans hv0; replace hv1 := (hb.cell (World.block_lt_of_cell? _ _ hv1)).trans hv1; replace hv2 := (hb.cell (World.block_lt_of_cell? _ _ hv2)).trans hv2; replace hv3 := (hb.cell (World.block_lt_of_cell? _ _ hv3)).trans hv3; replace hx0 := (hb.cell (World.block_lt_of_cell? _ _ hx0)).trans hx0; replace hx1 := (hb.cell (World.block_lt_of_cell? _ _ hx1)).trans hx1; replace hx2 := (hb.cell (World.block_lt_of_cell? _ _ hx2)).trans hx2; replace hx3 := (hb.cell (World.block_lt_of_cell? _ _ hx3)).trans hx3; replace hx4 := (hb.cell (World.block_lt_of_cell? _ _ hx4)).trans hx4; have n_ := Aside0.mk (below_step HB.out hb); clear HB; have HB := n_; clear n_; have m_ := Aside0.mk (HM.out.below hb); clear HM; have HM := m_; clear m_; replace hlk := met_look HM.out Try.underlying85 Try.underlying2 (zeroBool _) x.f0 hwf; clear hb) | (go_at_call 66; (with_reducible refine (impl_isUser.calls _ _ _ (isUser_ev _)).mono ?_); rintro e w9 ⟨rfl, hb⟩; (try replace hb := hb.below); replace hv0 := (hb.cell (World.block_lt_of_cell? _ _ hv0)).trans hv0; replace hv1 := (hb.cell (World.block_lt_of_cell? _ _ hv1)).trans hv1; replace hv2 := (hb.cell (World.block_lt_of_cell? _ _ hv2)).trans hv2; replace hv3 := (hb.cell (World.block_lt_of_cell? _ _ hv3)).trans hv3; replace hx0 := (hb.cell (World.block_lt_of_cell? _ _ hx0)).trans hx0; replace hx1 := (hb.cell (World.block_lt_of_cell? _ _ hx1)).trans hx1; replace hx2 := (hb.cell (World.block_lt_of_cell? _ _ hx2)).trans hx2; replace hx3 := (hb.cell (World.block_lt_of_cell? _ _ hx3)).trans hx3; replace hx4 := (hb.cell (World.block_lt_of_cell? _ _ hx4)).trans hx4; have n_ := Aside0.mk (below_step HB.out hb); clear HB; have HB := n_; clear n_; have m_ := Aside0.mk (HM.out.below hb); clear HM; have HM := m_; clear m_; replace hlk := met_look HM.out Try.underlying85 Try.underlying2 (zeroBool _) x.f0 hwf; clear hb))
      go_ret
      exact ⟨by rw [hR]; rfl, HB.out⟩
    have b7 : decide (1 ≤ x.f4 ∧ x.f4 ≤ 400) = true := decide_eq_true c7
    have hbase : w.heap.size ≤ (wr.alloc (.cells #[.int .i64 x.f0, .int .i64 x.f1, .string x.f2, .string x.f3, .int .i64 x.f4] 66)).heap.size := HB.out.size
    by_cases hi0 : i = 0
    case pos =>
      have hie : ((i : Int) == 0) = true := beq_iff_eq.2 (by omega)
      have Hi0 := Aside0.mk hi0
      clear hi0
      go_wp2_with (first | (go_at_call 65; (with_reducible refine (impl_within.calls _ _ _ _ _ (within_ev _ _ _)).mono ?_); rintro e w9 ⟨rfl, hb⟩; (try replace hb := hb.below); replace hv0 := (hb.cell (World.block_lt_of_cell? _ _ hv0)).trans hv0; replace hv1 := (hb.cell (World.block_lt_of_cell? _ _ hv1)).trans hv1; replace hv2 := (hb.cell (World.block_lt_of_cell? _ _ hv2)).trans hv2; replace hv3 := (hb.cell (World.block_lt_of_cell? _ _ hv3)).trans hv3; replace hx0 := (hb.cell (World.block_lt_of_cell? _ _ hx0)).trans hx0; replace hx1 := (hb.cell (World.block_lt_of_cell? _ _ hx1)).trans hx1; replace hx2 := (hb.cell (World.block_lt_of_cell? _ _ hx2)).trans hx2; replace hx3 := (hb.cell (World.block_lt_of_cell? _ _ hx3)).trans hx3; replace hx4 := (hb.cell (World.block_lt_of_cell? _ _ hx4)).trans hx4; have n_ := Aside0.mk (below_step HB.out hb); clear HB; have HB := n_; clear n_; have m_ := Aside0.mk (HM.out.below hb); clear HM; have HM := m_; clear m_; replace hlk := met_look HM.out Try.underlying85 Try.underlying2 (zeroBool _) x.f0 hwf; clear hb) | (go_at_call 66; (with_reducible refine (impl_isUser.calls _ _ _ (isUser_ev _)).mono ?_); rintro e w9 ⟨rfl, hb⟩; (try replace hb := hb.below); replace hv0 := (hb.cell (World.block_lt_of_cell? _ _ hv0)).trans hv0; replace hv1 := (hb.cell (World.block_lt_of_cell? _ _ hv1)).trans hv1; replace hv2 := (hb.cell (World.block_lt_of_cell? _ _ hv2)).trans hv2; replace hv3 := (hb.cell (World.block_lt_of_cell? _ _ hv3)).trans hv3; replace hx0 := (hb.cell (World.block_lt_of_cell? _ _ hx0)).trans hx0; replace hx1 := (hb.cell (World.block_lt_of_cell? _ _ hx1)).trans hx1; replace hx2 := (hb.cell (World.block_lt_of_cell? _ _ hx2)).trans hx2; replace hx3 := (hb.cell (World.block_lt_of_cell? _ _ hx3)).trans hx3; replace hx4 := (hb.cell (World.block_lt_of_cell? _ _ hx4)).trans hx4; have n_ := Aside0.mk (below_step HB.out hb); clear HB; have HB := n_; clear n_; have m_ := Aside0.mk (HM.out.below hb); clear HM; have HM := m_; clear m_; replace hlk := met_look HM.out Try.underlying85 Try.underlying2 (zeroBool _) x.f0 hwf; clear hb) | (at_mapUpdate; refine wpList_met_store _ rfl _ _ _ 85 rfl 2 4 Try.underlying85 Try.underlying2 w1.heap.size K x.f0 (by rfl) (by rfl) (by rfl) hwf c2 HM.out ?_; intro w3 hm3 hg3; replace hv0 := cell_grown hg3 hv0 (by show w.heap.size ≠ w1.heap.size; omega); replace hv1 := cell_grown hg3 hv1 (by show w.heap.size ≠ w1.heap.size; omega); replace hv2 := cell_grown hg3 hv2 (by show w.heap.size ≠ w1.heap.size; omega); replace hv3 := cell_grown hg3 hv3 (by show w.heap.size ≠ w1.heap.size; omega); replace hx0 := cell_grown hg3 hx0 (by show wr.heap.size ≠ w1.heap.size; omega); replace hx1 := cell_grown hg3 hx1 (by show wr.heap.size ≠ w1.heap.size; omega); replace hx2 := cell_grown hg3 hx2 (by show wr.heap.size ≠ w1.heap.size; omega); replace hx3 := cell_grown hg3 hx3 (by show wr.heap.size ≠ w1.heap.size; omega); replace hx4 := cell_grown hg3 hx4 (by show wr.heap.size ≠ w1.heap.size; omega); have n_ := Aside0.mk (HB.out.grown hg3 HB.out.size (fun q hq => by injection hq with hq; omega)); clear HB; have HB := n_; clear n_; clear HM; have HM := Aside0.mk hm3; clear hm3 hg3))
      go_roundg (l.length - (i + 1))
      case measure => omega
      case rel =>
        refine ⟨i + 1, by first | rfl | go_num, by omega, Nat.le_refl _, HB, ⟨?_⟩, ⟨fun j hj => ?_⟩, hv0, hv1, hv2, hv3⟩
        · rw [hT.out]; exact HM.out
        · have Hi0 := Hi0.out
          obtain rfl : j = i := by omega
          exact hK.out.2 ⟨⟨c1, c3, c4, c5, b6, c7⟩, c2, fun h => absurd h (by omega)⟩
    have hie : ((i : Int) == 0) = false := beq_eq_false_iff_ne.2 (by omega)
    obtain ⟨ad2, e2', q0, q1, q2, q3, q4⟩ := at_T66 HR.out ((i : Int) - 1) (by omega) (by omega)
    obtain rfl : ad = ad2 := by injection e2'
    clear e2'
    rw [show ((i : Int) - 1).toNat = i - 1 from by omega] at q0 q1 q2 q3 q4
    have hX2 : rd_T66 l ((i : Int) - 1) = l.getD (i - 1) z66 := by unfold rd_T66; rw [show ((i : Int) - 1).toNat = i - 1 from by omega]
    rw [hX2] at q0 q1 q2 q3 q4
    clear hX2
    generalize l.getD (i - 1) z66 = p at q0 q1 q2 q3 q4 hK
    have Q0 := Aside0.mk q0
    have Q1 := Aside0.mk q1
    have Q2 := Aside0.mk q2
    have Q3 := Aside0.mk q3
    have Q4 := Aside0.mk q4
    clear q0 q1 q2 q3 q4
    obtain ⟨kc, hkc⟩ := Ev.rounds (cmpMetas_ev p x)
    have HKC := Aside0.mk hkc
    clear hkc
    by_cases k1 : mcmp p x ≥ 0
    case pos =>
      have hR := hno fun h => (by have h := (hK.out.1 h).2.2 (by omega); have := h.1; omega)
      have g1 : decide (mcmp p x ≥ 0) = true := decide_eq_true k1
      go_wp2_with (first | (go_at_call 65; (with_reducible refine (impl_within.calls _ _ _ _ _ (within_ev _ _ _)).mono ?_); rintro e w9 ⟨rfl, hb⟩; (try replace hb := hb.below); replace hv0 := (hb.cell (World.block_lt_of_cell? _ _ hv0)).trans hv0; replace hv1 := (hb.cell (World.block_lt_of_cell? _ _ hv1)).trans hv1; replace hv2 := (hb.cell (World.block_lt_of_cell? _ _ hv2)).trans hv2; replace hv3 := (hb.cell (World.block_lt_of_cell? _ _ hv3)).trans hv3; replace hx0 := (hb.cell (World.block_lt_of_cell? _ _ hx0)).trans hx0; replace hx1 := (hb.cell (World.block_lt_of_cell? _ _ hx1)).trans hx1; replace hx2 := (hb.cell (World.block_lt_of_cell? _ _ hx2)).trans hx2; replace hx3 := (hb.cell (World.block_lt_of_cell? _ _ hx3)).trans hx3; replace hx4 := (hb.cell (World.block_lt_of_cell? _ _ hx4)).trans hx4; have n_ := Aside0.mk (below_step HB.out hb); clear HB; have HB := n_; clear n_; have m_ := Aside0.mk (HM.out.below hb); clear HM; have HM := m_; clear m_; replace hlk := met_look HM.out Try.underlying85 Try.underlying2 (zeroBool _) x.f0 hwf; clear hb) | (go_at_call 66; (with_reducible refine (impl_isUser.calls _ _ _ (isUser_ev _)).mono ?_); rintro e w9 ⟨rfl, hb⟩; (try replace hb := hb.below); replace hv0 := (hb.cell (World.block_lt_of_cell? _ _ hv0)).trans hv0; replace hv1 := (hb.cell (World.block_lt_of_cell? _ _ hv1)).trans hv1; replace hv2 := (hb.cell (World.block_lt_of_cell? _ _ hv2)).trans hv2; replace hv3 := (hb.cell (World.block_lt_of_cell? _ _ hv3)).trans hv3; replace hx0 := (hb.cell (World.block_lt_of_cell? _ _ hx0)).trans hx0; replace hx1 := (hb.cell (World.block_lt_of_cell? _ _ hx1)).trans hx1; replace hx2 := (hb.cell (World.block_lt_of_cell? _ _ hx2)).trans hx2; replace hx3 := (hb.cell (World.block_lt_of_cell? _ _ hx3)).trans hx3; replace hx4 := (hb.cell (World.block_lt_of_cell? _ _ hx4)).trans hx4; have n_ := Aside0.mk (below_step HB.out hb); clear HB; have HB := n_; clear n_; have m_ := Aside0.mk (HM.out.below hb); clear HM; have HM := m_; clear m_; replace hlk := met_look HM.out Try.underlying85 Try.underlying2 (zeroBool _) x.f0 hwf; clear hb) | (at_mapUpdate; refine wpList_met_store _ rfl _ _ _ 85 rfl 2 4 Try.underlying85 Try.underlying2 w1.heap.size K x.f0 (by rfl) (by rfl) (by rfl) hwf c2 HM.out ?_; intro w3 hm3 hg3; replace hv0 := cell_grown hg3 hv0 (by show w.heap.size ≠ w1.heap.size; omega); replace hv1 := cell_grown hg3 hv1 (by show w.heap.size ≠ w1.heap.size; omega); replace hv2 := cell_grown hg3 hv2 (by show w.heap.size ≠ w1.heap.size; omega); replace hv3 := cell_grown hg3 hv3 (by show w.heap.size ≠ w1.heap.size; omega); replace hx0 := cell_grown hg3 hx0 (by show wr.heap.size ≠ w1.heap.size; omega); replace hx1 := cell_grown hg3 hx1 (by show wr.heap.size ≠ w1.heap.size; omega); replace hx2 := cell_grown hg3 hx2 (by show wr.heap.size ≠ w1.heap.size; omega); replace hx3 := cell_grown hg3 hx3 (by show wr.heap.size ≠ w1.heap.size; omega); replace hx4 := cell_grown hg3 hx4 (by show wr.heap.size ≠ w1.heap.size; omega); have n_ := Aside0.mk (HB.out.grown hg3 HB.out.size (fun q hq => by injection hq with hq; omega)); clear HB; have HB := n_; clear n_; clear HM; have HM := Aside0.mk hm3; clear hm3 hg3; have q0 := (HB.out.cell (World.block_lt_of_cell? _ _ Q0.out)).trans Q0.out; have q1 := (HB.out.cell (World.block_lt_of_cell? _ _ Q1.out)).trans Q1.out; have q2 := (HB.out.cell (World.block_lt_of_cell? _ _ Q2.out)).trans Q2.out; have q3 := (HB.out.cell (World.block_lt_of_cell? _ _ Q3.out)).trans Q3.out; have q4 := (HB.out.cell (World.block_lt_of_cell? _ _ Q4.out)).trans Q4.out; have hxa0 := fun o => (((Below.refl _ w3).alloc (Nat.le_refl _) o).cell (World.block_lt_of_cell? _ _ hx0)).trans hx0; have hxa1 := fun o => (((Below.refl _ w3).alloc (Nat.le_refl _) o).cell (World.block_lt_of_cell? _ _ hx1)).trans hx1; have hxa2 := fun o => (((Below.refl _ w3).alloc (Nat.le_refl _) o).cell (World.block_lt_of_cell? _ _ hx2)).trans hx2; have hxa3 := fun o => (((Below.refl _ w3).alloc (Nat.le_refl _) o).cell (World.block_lt_of_cell? _ _ hx3)).trans hx3; have hxa4 := fun o => (((Below.refl _ w3).alloc (Nat.le_refl _) o).cell (World.block_lt_of_cell? _ _ hx4)).trans hx4; have hpa0 : (w3.alloc (.cells #[.int .i64 p.f0, .int .i64 p.f1, .string p.f2, .string p.f3, .int .i64 p.f4] 66)).cell? ⟨w3.heap.size, 0, none⟩ = some (.int .i64 p.f0) := (by simp); have hpa1 : (w3.alloc (.cells #[.int .i64 p.f0, .int .i64 p.f1, .string p.f2, .string p.f3, .int .i64 p.f4] 66)).cell? ⟨w3.heap.size, 1, none⟩ = some (.int .i64 p.f1) := (by simp); have hpa2 : (w3.alloc (.cells #[.int .i64 p.f0, .int .i64 p.f1, .string p.f2, .string p.f3, .int .i64 p.f4] 66)).cell? ⟨w3.heap.size, 2, none⟩ = some (.string p.f2) := (by simp); have hpa3 : (w3.alloc (.cells #[.int .i64 p.f0, .int .i64 p.f1, .string p.f2, .string p.f3, .int .i64 p.f4] 66)).cell? ⟨w3.heap.size, 3, none⟩ = some (.string p.f3) := (by simp); have hpa4 : (w3.alloc (.cells #[.int .i64 p.f0, .int .i64 p.f1, .string p.f2, .string p.f3, .int .i64 p.f4] 66)).cell? ⟨w3.heap.size, 4, none⟩ = some (.int .i64 p.f4) := (by simp)) | (go_at_call 67; (with_reducible refine (impl_cmpMetas.calls kc _ _ _ _ _ _ _ _ _ _ _ _ HKC.out).mono ?_); rintro e w4 ⟨rfl, hb⟩; (try replace hb := hb.below); replace hx0 := (hb.cell (World.block_lt_of_cell? _ _ (hxa0 _))).trans (hxa0 _); clear hxa0; replace hx1 := (hb.cell (World.block_lt_of_cell? _ _ (hxa1 _))).trans (hxa1 _); clear hxa1; replace hx2 := (hb.cell (World.block_lt_of_cell? _ _ (hxa2 _))).trans (hxa2 _); clear hxa2; replace hx3 := (hb.cell (World.block_lt_of_cell? _ _ (hxa3 _))).trans (hxa3 _); clear hxa3; replace hx4 := (hb.cell (World.block_lt_of_cell? _ _ (hxa4 _))).trans (hxa4 _); clear hxa4;have hp0 := (hb.cell (World.block_lt_of_cell? _ _ hpa0)).trans hpa0; clear hpa0; have hp1 := (hb.cell (World.block_lt_of_cell? _ _ hpa1)).trans hpa1; clear hpa1; have hp2 := (hb.cell (World.block_lt_of_cell? _ _ hpa2)).trans hpa2; clear hpa2; have hp3 := (hb.cell (World.block_lt_of_cell? _ _ hpa3)).trans hpa3; clear hpa3; have hp4 := (hb.cell (World.block_lt_of_cell? _ _ hpa4)).trans hpa4; clear hpa4;replace hv0 := (hb.cell (World.block_lt_of_cell? _ _ ((((Below.refl _ w3).alloc (Nat.le_refl _) _).cell (World.block_lt_of_cell? _ _ hv0)).trans hv0))).trans ((((Below.refl _ w3).alloc (Nat.le_refl _) _).cell (World.block_lt_of_cell? _ _ hv0)).trans hv0); replace hv1 := (hb.cell (World.block_lt_of_cell? _ _ ((((Below.refl _ w3).alloc (Nat.le_refl _) _).cell (World.block_lt_of_cell? _ _ hv1)).trans hv1))).trans ((((Below.refl _ w3).alloc (Nat.le_refl _) _).cell (World.block_lt_of_cell? _ _ hv1)).trans hv1); replace hv2 := (hb.cell (World.block_lt_of_cell? _ _ ((((Below.refl _ w3).alloc (Nat.le_refl _) _).cell (World.block_lt_of_cell? _ _ hv2)).trans hv2))).trans ((((Below.refl _ w3).alloc (Nat.le_refl _) _).cell (World.block_lt_of_cell? _ _ hv2)).trans hv2); replace hv3 := (hb.cell (World.block_lt_of_cell? _ _ ((((Below.refl _ w3).alloc (Nat.le_refl _) _).cell (World.block_lt_of_cell? _ _ hv3)).trans hv3))).trans ((((Below.refl _ w3).alloc (Nat.le_refl _) _).cell (World.block_lt_of_cell? _ _ hv3)).trans hv3); have n_ := Aside0.mk (below_step (HB.out.alloc HB.out.size _) hb); clear HB; have HB := n_; clear n_; have m_ := Aside0.mk ((HM.out.kept (World.grownBy_alloc w3 _ none) (by simp)).below hb); clear HM; have HM := m_; clear m_ hb))
      go_ret
      exact ⟨by rw [hR]; rfl, HB.out⟩
    have g1 : decide (mcmp p x ≥ 0) = false := decide_eq_false k1
    by_cases k2 : x.f1 > 0
    case neg =>
      have g2 : decide (x.f1 > 0) = false := decide_eq_false k2
      go_wp2_with (first | (go_at_call 65; (with_reducible refine (impl_within.calls _ _ _ _ _ (within_ev _ _ _)).mono ?_); rintro e w9 ⟨rfl, hb⟩; (try replace hb := hb.below); replace hv0 := (hb.cell (World.block_lt_of_cell? _ _ hv0)).trans hv0; replace hv1 := (hb.cell (World.block_lt_of_cell? _ _ hv1)).trans hv1; replace hv2 := (hb.cell (World.block_lt_of_cell? _ _ hv2)).trans hv2; replace hv3 := (hb.cell (World.block_lt_of_cell? _ _ hv3)).trans hv3; replace hx0 := (hb.cell (World.block_lt_of_cell? _ _ hx0)).trans hx0; replace hx1 := (hb.cell (World.block_lt_of_cell? _ _ hx1)).trans hx1; replace hx2 := (hb.cell (World.block_lt_of_cell? _ _ hx2)).trans hx2; replace hx3 := (hb.cell (World.block_lt_of_cell? _ _ hx3)).trans hx3; replace hx4 := (hb.cell (World.block_lt_of_cell? _ _ hx4)).trans hx4; have n_ := Aside0.mk (below_step HB.out hb); clear HB; have HB := n_; clear n_; have m_ := Aside0.mk (HM.out.below hb); clear HM; have HM := m_; clear m_; replace hlk := met_look HM.out Try.underlying85 Try.underlying2 (zeroBool _) x.f0 hwf; clear hb) | (go_at_call 66; (with_reducible refine (impl_isUser.calls _ _ _ (isUser_ev _)).mono ?_); rintro e w9 ⟨rfl, hb⟩; (try replace hb := hb.below); replace hv0 := (hb.cell (World.block_lt_of_cell? _ _ hv0)).trans hv0; replace hv1 := (hb.cell (World.block_lt_of_cell? _ _ hv1)).trans hv1; replace hv2 := (hb.cell (World.block_lt_of_cell? _ _ hv2)).trans hv2; replace hv3 := (hb.cell (World.block_lt_of_cell? _ _ hv3)).trans hv3; replace hx0 := (hb.cell (World.block_lt_of_cell? _ _ hx0)).trans hx0; replace hx1 := (hb.cell (World.block_lt_of_cell? _ _ hx1)).trans hx1; replace hx2 := (hb.cell (World.block_lt_of_cell? _ _ hx2)).trans hx2; replace hx3 := (hb.cell (World.block_lt_of_cell? _ _ hx3)).trans hx3; replace hx4 := (hb.cell (World.block_lt_of_cell? _ _ hx4)).trans hx4; have n_ := Aside0.mk (below_step HB.out hb); clear HB; have HB := n_; clear n_; have m_ := Aside0.mk (HM.out.below hb); clear HM; have HM := m_; clear m_; replace hlk := met_look HM.out Try.underlying85 Try.underlying2 (zeroBool _) x.f0 hwf; clear hb) | (at_mapUpdate; refine wpList_met_store _ rfl _ _ _ 85 rfl 2 4 Try.underlying85 Try.underlying2 w1.heap.size K x.f0 (by rfl) (by rfl) (by rfl) hwf c2 HM.out ?_; intro w3 hm3 hg3; replace hv0 := cell_grown hg3 hv0 (by show w.heap.size ≠ w1.heap.size; omega); replace hv1 := cell_grown hg3 hv1 (by show w.heap.size ≠ w1.heap.size; omega); replace hv2 := cell_grown hg3 hv2 (by show w.heap.size ≠ w1.heap.size; omega); replace hv3 := cell_grown hg3 hv3 (by show w.heap.size ≠ w1.heap.size; omega); replace hx0 := cell_grown hg3 hx0 (by show wr.heap.size ≠ w1.heap.size; omega); replace hx1 := cell_grown hg3 hx1 (by show wr.heap.size ≠ w1.heap.size; omega); replace hx2 := cell_grown hg3 hx2 (by show wr.heap.size ≠ w1.heap.size; omega); replace hx3 := cell_grown hg3 hx3 (by show wr.heap.size ≠ w1.heap.size; omega); replace hx4 := cell_grown hg3 hx4 (by show wr.heap.size ≠ w1.heap.size; omega); have n_ := Aside0.mk (HB.out.grown hg3 HB.out.size (fun q hq => by injection hq with hq; omega)); clear HB; have HB := n_; clear n_; clear HM; have HM := Aside0.mk hm3; clear hm3 hg3; have q0 := (HB.out.cell (World.block_lt_of_cell? _ _ Q0.out)).trans Q0.out; have q1 := (HB.out.cell (World.block_lt_of_cell? _ _ Q1.out)).trans Q1.out; have q2 := (HB.out.cell (World.block_lt_of_cell? _ _ Q2.out)).trans Q2.out; have q3 := (HB.out.cell (World.block_lt_of_cell? _ _ Q3.out)).trans Q3.out; have q4 := (HB.out.cell (World.block_lt_of_cell? _ _ Q4.out)).trans Q4.out; have hxa0 := fun o => (((Below.refl _ w3).alloc (Nat.le_refl _) o).cell (World.block_lt_of_cell? _ _ hx0)).trans hx0; have hxa1 := fun o => (((Below.refl _ w3).alloc (Nat.le_refl _) o).cell (World.block_lt_of_cell? _ _ hx1)).trans hx1; have hxa2 := fun o => (((Below.refl _ w3).alloc (Nat.le_refl _) o).cell (World.block_lt_of_cell? _ _ hx2)).trans hx2; have hxa3 := fun o => (((Below.refl _ w3).alloc (Nat.le_refl _) o).cell (World.block_lt_of_cell? _ _ hx3)).trans hx3; have hxa4 := fun o => (((Below.refl _ w3).alloc (Nat.le_refl _) o).cell (World.block_lt_of_cell? _ _ hx4)).trans hx4; have hpa0 : (w3.alloc (.cells #[.int .i64 p.f0, .int .i64 p.f1, .string p.f2, .string p.f3, .int .i64 p.f4] 66)).cell? ⟨w3.heap.size, 0, none⟩ = some (.int .i64 p.f0) := (by simp); have hpa1 : (w3.alloc (.cells #[.int .i64 p.f0, .int .i64 p.f1, .string p.f2, .string p.f3, .int .i64 p.f4] 66)).cell? ⟨w3.heap.size, 1, none⟩ = some (.int .i64 p.f1) := (by simp); have hpa2 : (w3.alloc (.cells #[.int .i64 p.f0, .int .i64 p.f1, .string p.f2, .string p.f3, .int .i64 p.f4] 66)).cell? ⟨w3.heap.size, 2, none⟩ = some (.string p.f2) := (by simp); have hpa3 : (w3.alloc (.cells #[.int .i64 p.f0, .int .i64 p.f1, .string p.f2, .string p.f3, .int .i64 p.f4] 66)).cell? ⟨w3.heap.size, 3, none⟩ = some (.string p.f3) := (by simp); have hpa4 : (w3.alloc (.cells #[.int .i64 p.f0, .int .i64 p.f1, .string p.f2, .string p.f3, .int .i64 p.f4] 66)).cell? ⟨w3.heap.size, 4, none⟩ = some (.int .i64 p.f4) := (by simp)) | (go_at_call 67; (with_reducible refine (impl_cmpMetas.calls kc _ _ _ _ _ _ _ _ _ _ _ _ HKC.out).mono ?_); rintro e w4 ⟨rfl, hb⟩; (try replace hb := hb.below); replace hx0 := (hb.cell (World.block_lt_of_cell? _ _ (hxa0 _))).trans (hxa0 _); clear hxa0; replace hx1 := (hb.cell (World.block_lt_of_cell? _ _ (hxa1 _))).trans (hxa1 _); clear hxa1; replace hx2 := (hb.cell (World.block_lt_of_cell? _ _ (hxa2 _))).trans (hxa2 _); clear hxa2; replace hx3 := (hb.cell (World.block_lt_of_cell? _ _ (hxa3 _))).trans (hxa3 _); clear hxa3; replace hx4 := (hb.cell (World.block_lt_of_cell? _ _ (hxa4 _))).trans (hxa4 _); clear hxa4;have hp0 := (hb.cell (World.block_lt_of_cell? _ _ hpa0)).trans hpa0; clear hpa0; have hp1 := (hb.cell (World.block_lt_of_cell? _ _ hpa1)).trans hpa1; clear hpa1; have hp2 := (hb.cell (World.block_lt_of_cell? _ _ hpa2)).trans hpa2; clear hpa2; have hp3 := (hb.cell (World.block_lt_of_cell? _ _ hpa3)).trans hpa3; clear hpa3; have hp4 := (hb.cell (World.block_lt_of_cell? _ _ hpa4)).trans hpa4; clear hpa4;replace hv0 := (hb.cell (World.block_lt_of_cell? _ _ ((((Below.refl _ w3).alloc (Nat.le_refl _) _).cell (World.block_lt_of_cell? _ _ hv0)).trans hv0))).trans ((((Below.refl _ w3).alloc (Nat.le_refl _) _).cell (World.block_lt_of_cell? _ _ hv0)).trans hv0); replace hv1 := (hb.cell (World.block_lt_of_cell? _ _ ((((Below.refl _ w3).alloc (Nat.le_refl _) _).cell (World.block_lt_of_cell? _ _ hv1)).trans hv1))).trans ((((Below.refl _ w3).alloc (Nat.le_refl _) _).cell (World.block_lt_of_cell? _ _ hv1)).trans hv1); replace hv2 := (hb.cell (World.block_lt_of_cell? _ _ ((((Below.refl _ w3).alloc (Nat.le_refl _) _).cell (World.block_lt_of_cell? _ _ hv2)).trans hv2))).trans ((((Below.refl _ w3).alloc (Nat.le_refl _) _).cell (World.block_lt_of_cell? _ _ hv2)).trans hv2); replace hv3 := (hb.cell (World.block_lt_of_cell? _ _ ((((Below.refl _ w3).alloc (Nat.le_refl _) _).cell (World.block_lt_of_cell? _ _ hv3)).trans hv3))).trans ((((Below.refl _ w3).alloc (Nat.le_refl _) _).cell (World.block_lt_of_cell? _ _ hv3)).trans hv3); have n_ := Aside0.mk (below_step (HB.out.alloc HB.out.size _) hb); clear HB; have HB := n_; clear n_; have m_ := Aside0.mk ((HM.out.kept (World.grownBy_alloc w3 _ none) (by simp)).below hb); clear HM; have HM := m_; clear m_ hb))
      go_roundg (l.length - (i + 1))
      case measure => omega
      case rel =>
        refine ⟨i + 1, by first | rfl | go_num, by omega, Nat.le_refl _, HB, ⟨?_⟩, ⟨fun j hj => ?_⟩, hv0, hv1, hv2, hv3⟩
        · rw [hT.out]; exact HM.out
        · by_cases e : j = i
          · subst e
            exact hK.out.2 ⟨⟨c1, c3, c4, c5, b6, c7⟩, c2, fun _ => ⟨by omega, fun h => absurd h.1 (by omega)⟩⟩
          · exact HOK.out j (by omega)
    have g2 : decide (x.f1 > 0) = true := decide_eq_true k2
    by_cases k3 : p.f1 = x.f1
    case neg =>
      have g3 : (p.f1 == x.f1) = false := beq_eq_false_iff_ne.2 k3
      go_wp2_with (first | (go_at_call 65; (with_reducible refine (impl_within.calls _ _ _ _ _ (within_ev _ _ _)).mono ?_); rintro e w9 ⟨rfl, hb⟩; (try replace hb := hb.below); replace hv0 := (hb.cell (World.block_lt_of_cell? _ _ hv0)).trans hv0; replace hv1 := (hb.cell (World.block_lt_of_cell? _ _ hv1)).trans hv1; replace hv2 := (hb.cell (World.block_lt_of_cell? _ _ hv2)).trans hv2; replace hv3 := (hb.cell (World.block_lt_of_cell? _ _ hv3)).trans hv3; replace hx0 := (hb.cell (World.block_lt_of_cell? _ _ hx0)).trans hx0; replace hx1 := (hb.cell (World.block_lt_of_cell? _ _ hx1)).trans hx1; replace hx2 := (hb.cell (World.block_lt_of_cell? _ _ hx2)).trans hx2; replace hx3 := (hb.cell (World.block_lt_of_cell? _ _ hx3)).trans hx3; replace hx4 := (hb.cell (World.block_lt_of_cell? _ _ hx4)).trans hx4; have n_ := Aside0.mk (below_step HB.out hb); clear HB; have HB := n_; clear n_; have m_ := Aside0.mk (HM.out.below hb); clear HM; have HM := m_; clear m_; replace hlk := met_look HM.out Try.underlying85 Try.underlying2 (zeroBool _) x.f0 hwf; clear hb) | (go_at_call 66; (with_reducible refine (impl_isUser.calls _ _ _ (isUser_ev _)).mono ?_); rintro e w9 ⟨rfl, hb⟩; (try replace hb := hb.below); replace hv0 := (hb.cell (World.block_lt_of_cell? _ _ hv0)).trans hv0; replace hv1 := (hb.cell (World.block_lt_of_cell? _ _ hv1)).trans hv1; replace hv2 := (hb.cell (World.block_lt_of_cell? _ _ hv2)).trans hv2; replace hv3 := (hb.cell (World.block_lt_of_cell? _ _ hv3)).trans hv3; replace hx0 := (hb.cell (World.block_lt_of_cell? _ _ hx0)).trans hx0; replace hx1 := (hb.cell (World.block_lt_of_cell? _ _ hx1)).trans hx1; replace hx2 := (hb.cell (World.block_lt_of_cell? _ _ hx2)).trans hx2; replace hx3 := (hb.cell (World.block_lt_of_cell? _ _ hx3)).trans hx3; replace hx4 := (hb.cell (World.block_lt_of_cell? _ _ hx4)).trans hx4; have n_ := Aside0.mk (below_step HB.out hb); clear HB; have HB := n_; clear n_; have m_ := Aside0.mk (HM.out.below hb); clear HM; have HM := m_; clear m_; replace hlk := met_look HM.out Try.underlying85 Try.underlying2 (zeroBool _) x.f0 hwf; clear hb) | (at_mapUpdate; refine wpList_met_store _ rfl _ _ _ 85 rfl 2 4 Try.underlying85 Try.underlying2 w1.heap.size K x.f0 (by rfl) (by rfl) (by rfl) hwf c2 HM.out ?_; intro w3 hm3 hg3; replace hv0 := cell_grown hg3 hv0 (by show w.heap.size ≠ w1.heap.size; omega); replace hv1 := cell_grown hg3 hv1 (by show w.heap.size ≠ w1.heap.size; omega); replace hv2 := cell_grown hg3 hv2 (by show w.heap.size ≠ w1.heap.size; omega); replace hv3 := cell_grown hg3 hv3 (by show w.heap.size ≠ w1.heap.size; omega); replace hx0 := cell_grown hg3 hx0 (by show wr.heap.size ≠ w1.heap.size; omega); replace hx1 := cell_grown hg3 hx1 (by show wr.heap.size ≠ w1.heap.size; omega); replace hx2 := cell_grown hg3 hx2 (by show wr.heap.size ≠ w1.heap.size; omega); replace hx3 := cell_grown hg3 hx3 (by show wr.heap.size ≠ w1.heap.size; omega); replace hx4 := cell_grown hg3 hx4 (by show wr.heap.size ≠ w1.heap.size; omega); have n_ := Aside0.mk (HB.out.grown hg3 HB.out.size (fun q hq => by injection hq with hq; omega)); clear HB; have HB := n_; clear n_; clear HM; have HM := Aside0.mk hm3; clear hm3 hg3; have q0 := (HB.out.cell (World.block_lt_of_cell? _ _ Q0.out)).trans Q0.out; have q1 := (HB.out.cell (World.block_lt_of_cell? _ _ Q1.out)).trans Q1.out; have q2 := (HB.out.cell (World.block_lt_of_cell? _ _ Q2.out)).trans Q2.out; have q3 := (HB.out.cell (World.block_lt_of_cell? _ _ Q3.out)).trans Q3.out; have q4 := (HB.out.cell (World.block_lt_of_cell? _ _ Q4.out)).trans Q4.out; have hxa0 := fun o => (((Below.refl _ w3).alloc (Nat.le_refl _) o).cell (World.block_lt_of_cell? _ _ hx0)).trans hx0; have hxa1 := fun o => (((Below.refl _ w3).alloc (Nat.le_refl _) o).cell (World.block_lt_of_cell? _ _ hx1)).trans hx1; have hxa2 := fun o => (((Below.refl _ w3).alloc (Nat.le_refl _) o).cell (World.block_lt_of_cell? _ _ hx2)).trans hx2; have hxa3 := fun o => (((Below.refl _ w3).alloc (Nat.le_refl _) o).cell (World.block_lt_of_cell? _ _ hx3)).trans hx3; have hxa4 := fun o => (((Below.refl _ w3).alloc (Nat.le_refl _) o).cell (World.block_lt_of_cell? _ _ hx4)).trans hx4; have hpa0 : (w3.alloc (.cells #[.int .i64 p.f0, .int .i64 p.f1, .string p.f2, .string p.f3, .int .i64 p.f4] 66)).cell? ⟨w3.heap.size, 0, none⟩ = some (.int .i64 p.f0) := (by simp); have hpa1 : (w3.alloc (.cells #[.int .i64 p.f0, .int .i64 p.f1, .string p.f2, .string p.f3, .int .i64 p.f4] 66)).cell? ⟨w3.heap.size, 1, none⟩ = some (.int .i64 p.f1) := (by simp); have hpa2 : (w3.alloc (.cells #[.int .i64 p.f0, .int .i64 p.f1, .string p.f2, .string p.f3, .int .i64 p.f4] 66)).cell? ⟨w3.heap.size, 2, none⟩ = some (.string p.f2) := (by simp); have hpa3 : (w3.alloc (.cells #[.int .i64 p.f0, .int .i64 p.f1, .string p.f2, .string p.f3, .int .i64 p.f4] 66)).cell? ⟨w3.heap.size, 3, none⟩ = some (.string p.f3) := (by simp); have hpa4 : (w3.alloc (.cells #[.int .i64 p.f0, .int .i64 p.f1, .string p.f2, .string p.f3, .int .i64 p.f4] 66)).cell? ⟨w3.heap.size, 4, none⟩ = some (.int .i64 p.f4) := (by simp)) | (go_at_call 67; (with_reducible refine (impl_cmpMetas.calls kc _ _ _ _ _ _ _ _ _ _ _ _ HKC.out).mono ?_); rintro e w4 ⟨rfl, hb⟩; (try replace hb := hb.below); replace hx0 := (hb.cell (World.block_lt_of_cell? _ _ (hxa0 _))).trans (hxa0 _); clear hxa0; replace hx1 := (hb.cell (World.block_lt_of_cell? _ _ (hxa1 _))).trans (hxa1 _); clear hxa1; replace hx2 := (hb.cell (World.block_lt_of_cell? _ _ (hxa2 _))).trans (hxa2 _); clear hxa2; replace hx3 := (hb.cell (World.block_lt_of_cell? _ _ (hxa3 _))).trans (hxa3 _); clear hxa3; replace hx4 := (hb.cell (World.block_lt_of_cell? _ _ (hxa4 _))).trans (hxa4 _); clear hxa4;have hp0 := (hb.cell (World.block_lt_of_cell? _ _ hpa0)).trans hpa0; clear hpa0; have hp1 := (hb.cell (World.block_lt_of_cell? _ _ hpa1)).trans hpa1; clear hpa1; have hp2 := (hb.cell (World.block_lt_of_cell? _ _ hpa2)).trans hpa2; clear hpa2; have hp3 := (hb.cell (World.block_lt_of_cell? _ _ hpa3)).trans hpa3; clear hpa3; have hp4 := (hb.cell (World.block_lt_of_cell? _ _ hpa4)).trans hpa4; clear hpa4;replace hv0 := (hb.cell (World.block_lt_of_cell? _ _ ((((Below.refl _ w3).alloc (Nat.le_refl _) _).cell (World.block_lt_of_cell? _ _ hv0)).trans hv0))).trans ((((Below.refl _ w3).alloc (Nat.le_refl _) _).cell (World.block_lt_of_cell? _ _ hv0)).trans hv0); replace hv1 := (hb.cell (World.block_lt_of_cell? _ _ ((((Below.refl _ w3).alloc (Nat.le_refl _) _).cell (World.block_lt_of_cell? _ _ hv1)).trans hv1))).trans ((((Below.refl _ w3).alloc (Nat.le_refl _) _).cell (World.block_lt_of_cell? _ _ hv1)).trans hv1); replace hv2 := (hb.cell (World.block_lt_of_cell? _ _ ((((Below.refl _ w3).alloc (Nat.le_refl _) _).cell (World.block_lt_of_cell? _ _ hv2)).trans hv2))).trans ((((Below.refl _ w3).alloc (Nat.le_refl _) _).cell (World.block_lt_of_cell? _ _ hv2)).trans hv2); replace hv3 := (hb.cell (World.block_lt_of_cell? _ _ ((((Below.refl _ w3).alloc (Nat.le_refl _) _).cell (World.block_lt_of_cell? _ _ hv3)).trans hv3))).trans ((((Below.refl _ w3).alloc (Nat.le_refl _) _).cell (World.block_lt_of_cell? _ _ hv3)).trans hv3); have n_ := Aside0.mk (below_step (HB.out.alloc HB.out.size _) hb); clear HB; have HB := n_; clear n_; have m_ := Aside0.mk ((HM.out.kept (World.grownBy_alloc w3 _ none) (by simp)).below hb); clear HM; have HM := m_; clear m_ hb))
      go_roundg (l.length - (i + 1))
      case measure => omega
      case rel =>
        refine ⟨i + 1, by first | rfl | go_num, by omega, Nat.le_refl _, HB, ⟨?_⟩, ⟨fun j hj => ?_⟩, hv0, hv1, hv2, hv3⟩
        · rw [hT.out]; exact HM.out
        · by_cases e : j = i
          · subst e
            exact hK.out.2 ⟨⟨c1, c3, c4, c5, b6, c7⟩, c2, fun _ => ⟨by omega, fun h => k3 h.2.1⟩⟩
          · exact HOK.out j (by omega)
    have g3 : (p.f1 == x.f1) = true := beq_iff_eq.2 k3
    have K3 := Aside0.mk k3
    clear k3
    cases g4 : Op.bytesLess p.f3.toList x.f2.toList
    case false =>
      have hR := hno fun h => (by have h := (hK.out.1 h).2.2 (by omega); exact h.2 ⟨k2, K3.out, g4⟩)
      go_wp2_with (first | (go_at_call 65; (with_reducible refine (impl_within.calls _ _ _ _ _ (within_ev _ _ _)).mono ?_); rintro e w9 ⟨rfl, hb⟩; (try replace hb := hb.below); replace hv0 := (hb.cell (World.block_lt_of_cell? _ _ hv0)).trans hv0; replace hv1 := (hb.cell (World.block_lt_of_cell? _ _ hv1)).trans hv1; replace hv2 := (hb.cell (World.block_lt_of_cell? _ _ hv2)).trans hv2; replace hv3 := (hb.cell (World.block_lt_of_cell? _ _ hv3)).trans hv3; replace hx0 := (hb.cell (World.block_lt_of_cell? _ _ hx0)).trans hx0; replace hx1 := (hb.cell (World.block_lt_of_cell? _ _ hx1)).trans hx1; replace hx2 := (hb.cell (World.block_lt_of_cell? _ _ hx2)).trans hx2; replace hx3 := (hb.cell (World.block_lt_of_cell? _ _ hx3)).trans hx3; replace hx4 := (hb.cell (World.block_lt_of_cell? _ _ hx4)).trans hx4; have n_ := Aside0.mk (below_step HB.out hb); clear HB; have HB := n_; clear n_; have m_ := Aside0.mk (HM.out.below hb); clear HM; have HM := m_; clear m_; replace hlk := met_look HM.out Try.underlying85 Try.underlying2 (zeroBool _) x.f0 hwf; clear hb) | (go_at_call 66; (with_reducible refine (impl_isUser.calls _ _ _ (isUser_ev _)).mono ?_); rintro e w9 ⟨rfl, hb⟩; (try replace hb := hb.below); replace hv0 := (hb.cell (World.block_lt_of_cell? _ _ hv0)).trans hv0; replace hv1 := (hb.cell (World.block_lt_of_cell? _ _ hv1)).trans hv1; replace hv2 := (hb.cell (World.block_lt_of_cell? _ _ hv2)).trans hv2; replace hv3 := (hb.cell (World.block_lt_of_cell? _ _ hv3)).trans hv3; replace hx0 := (hb.cell (World.block_lt_of_cell? _ _ hx0)).trans hx0; replace hx1 := (hb.cell (World.block_lt_of_cell? _ _ hx1)).trans hx1; replace hx2 := (hb.cell (World.block_lt_of_cell? _ _ hx2)).trans hx2; replace hx3 := (hb.cell (World.block_lt_of_cell? _ _ hx3)).trans hx3; replace hx4 := (hb.cell (World.block_lt_of_cell? _ _ hx4)).trans hx4; have n_ := Aside0.mk (below_step HB.out hb); clear HB; have HB := n_; clear n_; have m_ := Aside0.mk (HM.out.below hb); clear HM; have HM := m_; clear m_; replace hlk := met_look HM.out Try.underlying85 Try.underlying2 (zeroBool _) x.f0 hwf; clear hb) | (at_mapUpdate; refine wpList_met_store _ rfl _ _ _ 85 rfl 2 4 Try.underlying85 Try.underlying2 w1.heap.size K x.f0 (by rfl) (by rfl) (by rfl) hwf c2 HM.out ?_; intro w3 hm3 hg3; replace hv0 := cell_grown hg3 hv0 (by show w.heap.size ≠ w1.heap.size; omega); replace hv1 := cell_grown hg3 hv1 (by show w.heap.size ≠ w1.heap.size; omega); replace hv2 := cell_grown hg3 hv2 (by show w.heap.size ≠ w1.heap.size; omega); replace hv3 := cell_grown hg3 hv3 (by show w.heap.size ≠ w1.heap.size; omega); replace hx0 := cell_grown hg3 hx0 (by show wr.heap.size ≠ w1.heap.size; omega); replace hx1 := cell_grown hg3 hx1 (by show wr.heap.size ≠ w1.heap.size; omega); replace hx2 := cell_grown hg3 hx2 (by show wr.heap.size ≠ w1.heap.size; omega); replace hx3 := cell_grown hg3 hx3 (by show wr.heap.size ≠ w1.heap.size; omega); replace hx4 := cell_grown hg3 hx4 (by show wr.heap.size ≠ w1.heap.size; omega); have n_ := Aside0.mk (HB.out.grown hg3 HB.out.size (fun q hq => by injection hq with hq; omega)); clear HB; have HB := n_; clear n_; clear HM; have HM := Aside0.mk hm3; clear hm3 hg3; have q0 := (HB.out.cell (World.block_lt_of_cell? _ _ Q0.out)).trans Q0.out; have q1 := (HB.out.cell (World.block_lt_of_cell? _ _ Q1.out)).trans Q1.out; have q2 := (HB.out.cell (World.block_lt_of_cell? _ _ Q2.out)).trans Q2.out; have q3 := (HB.out.cell (World.block_lt_of_cell? _ _ Q3.out)).trans Q3.out; have q4 := (HB.out.cell (World.block_lt_of_cell? _ _ Q4.out)).trans Q4.out; have hxa0 := fun o => (((Below.refl _ w3).alloc (Nat.le_refl _) o).cell (World.block_lt_of_cell? _ _ hx0)).trans hx0; have hxa1 := fun o => (((Below.refl _ w3).alloc (Nat.le_refl _) o).cell (World.block_lt_of_cell? _ _ hx1)).trans hx1; have hxa2 := fun o => (((Below.refl _ w3).alloc (Nat.le_refl _) o).cell (World.block_lt_of_cell? _ _ hx2)).trans hx2; have hxa3 := fun o => (((Below.refl _ w3).alloc (Nat.le_refl _) o).cell (World.block_lt_of_cell? _ _ hx3)).trans hx3; have hxa4 := fun o => (((Below.refl _ w3).alloc (Nat.le_refl _) o).cell (World.block_lt_of_cell? _ _ hx4)).trans hx4; have hpa0 : (w3.alloc (.cells #[.int .i64 p.f0, .int .i64 p.f1, .string p.f2, .string p.f3, .int .i64 p.f4] 66)).cell? ⟨w3.heap.size, 0, none⟩ = some (.int .i64 p.f0) := (by simp); have hpa1 : (w3.alloc (.cells #[.int .i64 p.f0, .int .i64 p.f1, .string p.f2, .string p.f3, .int .i64 p.f4] 66)).cell? ⟨w3.heap.size, 1, none⟩ = some (.int .i64 p.f1) := (by simp); have hpa2 : (w3.alloc (.cells #[.int .i64 p.f0, .int .i64 p.f1, .string p.f2, .string p.f3, .int .i64 p.f4] 66)).cell? ⟨w3.heap.size, 2, none⟩ = some (.string p.f2) := (by simp); have hpa3 : (w3.alloc (.cells #[.int .i64 p.f0, .int .i64 p.f1, .string p.f2, .string p.f3, .int .i64 p.f4] 66)).cell? ⟨w3.heap.size, 3, none⟩ = some (.string p.f3) := (by simp); have hpa4 : (w3.alloc (.cells #[.int .i64 p.f0, .int .i64 p.f1, .string p.f2, .string p.f3, .int .i64 p.f4] 66)).cell? ⟨w3.heap.size, 4, none⟩ = some (.int .i64 p.f4) := (by simp)) | (go_at_call 67; (with_reducible refine (impl_cmpMetas.calls kc _ _ _ _ _ _ _ _ _ _ _ _ HKC.out).mono ?_); rintro e w4 ⟨rfl, hb⟩; (try replace hb := hb.below); replace hx0 := (hb.cell (World.block_lt_of_cell? _ _ (hxa0 _))).trans (hxa0 _); clear hxa0; replace hx1 := (hb.cell (World.block_lt_of_cell? _ _ (hxa1 _))).trans (hxa1 _); clear hxa1; replace hx2 := (hb.cell (World.block_lt_of_cell? _ _ (hxa2 _))).trans (hxa2 _); clear hxa2; replace hx3 := (hb.cell (World.block_lt_of_cell? _ _ (hxa3 _))).trans (hxa3 _); clear hxa3; replace hx4 := (hb.cell (World.block_lt_of_cell? _ _ (hxa4 _))).trans (hxa4 _); clear hxa4;have hp0 := (hb.cell (World.block_lt_of_cell? _ _ hpa0)).trans hpa0; clear hpa0; have hp1 := (hb.cell (World.block_lt_of_cell? _ _ hpa1)).trans hpa1; clear hpa1; have hp2 := (hb.cell (World.block_lt_of_cell? _ _ hpa2)).trans hpa2; clear hpa2; have hp3 := (hb.cell (World.block_lt_of_cell? _ _ hpa3)).trans hpa3; clear hpa3; have hp4 := (hb.cell (World.block_lt_of_cell? _ _ hpa4)).trans hpa4; clear hpa4;replace hv0 := (hb.cell (World.block_lt_of_cell? _ _ ((((Below.refl _ w3).alloc (Nat.le_refl _) _).cell (World.block_lt_of_cell? _ _ hv0)).trans hv0))).trans ((((Below.refl _ w3).alloc (Nat.le_refl _) _).cell (World.block_lt_of_cell? _ _ hv0)).trans hv0); replace hv1 := (hb.cell (World.block_lt_of_cell? _ _ ((((Below.refl _ w3).alloc (Nat.le_refl _) _).cell (World.block_lt_of_cell? _ _ hv1)).trans hv1))).trans ((((Below.refl _ w3).alloc (Nat.le_refl _) _).cell (World.block_lt_of_cell? _ _ hv1)).trans hv1); replace hv2 := (hb.cell (World.block_lt_of_cell? _ _ ((((Below.refl _ w3).alloc (Nat.le_refl _) _).cell (World.block_lt_of_cell? _ _ hv2)).trans hv2))).trans ((((Below.refl _ w3).alloc (Nat.le_refl _) _).cell (World.block_lt_of_cell? _ _ hv2)).trans hv2); replace hv3 := (hb.cell (World.block_lt_of_cell? _ _ ((((Below.refl _ w3).alloc (Nat.le_refl _) _).cell (World.block_lt_of_cell? _ _ hv3)).trans hv3))).trans ((((Below.refl _ w3).alloc (Nat.le_refl _) _).cell (World.block_lt_of_cell? _ _ hv3)).trans hv3); have n_ := Aside0.mk (below_step (HB.out.alloc HB.out.size _) hb); clear HB; have HB := n_; clear n_; have m_ := Aside0.mk ((HM.out.kept (World.grownBy_alloc w3 _ none) (by simp)).below hb); clear HM; have HM := m_; clear m_ hb))
      go_ret
      exact ⟨by rw [hR]; rfl, HB.out⟩
    case true =>
      go_wp2_with (first | (go_at_call 65; (with_reducible refine (impl_within.calls _ _ _ _ _ (within_ev _ _ _)).mono ?_); rintro e w9 ⟨rfl, hb⟩; (try replace hb := hb.below); replace hv0 := (hb.cell (World.block_lt_of_cell? _ _ hv0)).trans hv0; replace hv1 := (hb.cell (World.block_lt_of_cell? _ _ hv1)).trans hv1; replace hv2 := (hb.cell (World.block_lt_of_cell? _ _ hv2)).trans hv2; replace hv3 := (hb.cell (World.block_lt_of_cell? _ _ hv3)).trans hv3; replace hx0 := (hb.cell (World.block_lt_of_cell? _ _ hx0)).trans hx0; replace hx1 := (hb.cell (World.block_lt_of_cell? _ _ hx1)).trans hx1; replace hx2 := (hb.cell (World.block_lt_of_cell? _ _ hx2)).trans hx2; replace hx3 := (hb.cell (World.block_lt_of_cell? _ _ hx3)).trans hx3; replace hx4 := (hb.cell (World.block_lt_of_cell? _ _ hx4)).trans hx4; have n_ := Aside0.mk (below_step HB.out hb); clear HB; have HB := n_; clear n_; have m_ := Aside0.mk (HM.out.below hb); clear HM; have HM := m_; clear m_; replace hlk := met_look HM.out Try.underlying85 Try.underlying2 (zeroBool _) x.f0 hwf; clear hb) | (go_at_call 66; (with_reducible refine (impl_isUser.calls _ _ _ (isUser_ev _)).mono ?_); rintro e w9 ⟨rfl, hb⟩; (try replace hb := hb.below); replace hv0 := (hb.cell (World.block_lt_of_cell? _ _ hv0)).trans hv0; replace hv1 := (hb.cell (World.block_lt_of_cell? _ _ hv1)).trans hv1; replace hv2 := (hb.cell (World.block_lt_of_cell? _ _ hv2)).trans hv2; replace hv3 := (hb.cell (World.block_lt_of_cell? _ _ hv3)).trans hv3; replace hx0 := (hb.cell (World.block_lt_of_cell? _ _ hx0)).trans hx0; replace hx1 := (hb.cell (World.block_lt_of_cell? _ _ hx1)).trans hx1; replace hx2 := (hb.cell (World.block_lt_of_cell? _ _ hx2)).trans hx2; replace hx3 := (hb.cell (World.block_lt_of_cell? _ _ hx3)).trans hx3; replace hx4 := (hb.cell (World.block_lt_of_cell? _ _ hx4)).trans hx4; have n_ := Aside0.mk (below_step HB.out hb); clear HB; have HB := n_; clear n_; have m_ := Aside0.mk (HM.out.below hb); clear HM; have HM := m_; clear m_; replace hlk := met_look HM.out Try.underlying85 Try.underlying2 (zeroBool _) x.f0 hwf; clear hb) | (at_mapUpdate; refine wpList_met_store _ rfl _ _ _ 85 rfl 2 4 Try.underlying85 Try.underlying2 w1.heap.size K x.f0 (by rfl) (by rfl) (by rfl) hwf c2 HM.out ?_; intro w3 hm3 hg3; replace hv0 := cell_grown hg3 hv0 (by show w.heap.size ≠ w1.heap.size; omega); replace hv1 := cell_grown hg3 hv1 (by show w.heap.size ≠ w1.heap.size; omega); replace hv2 := cell_grown hg3 hv2 (by show w.heap.size ≠ w1.heap.size; omega); replace hv3 := cell_grown hg3 hv3 (by show w.heap.size ≠ w1.heap.size; omega); replace hx0 := cell_grown hg3 hx0 (by show wr.heap.size ≠ w1.heap.size; omega); replace hx1 := cell_grown hg3 hx1 (by show wr.heap.size ≠ w1.heap.size; omega); replace hx2 := cell_grown hg3 hx2 (by show wr.heap.size ≠ w1.heap.size; omega); replace hx3 := cell_grown hg3 hx3 (by show wr.heap.size ≠ w1.heap.size; omega); replace hx4 := cell_grown hg3 hx4 (by show wr.heap.size ≠ w1.heap.size; omega); have n_ := Aside0.mk (HB.out.grown hg3 HB.out.size (fun q hq => by injection hq with hq; omega)); clear HB; have HB := n_; clear n_; clear HM; have HM := Aside0.mk hm3; clear hm3 hg3; have q0 := (HB.out.cell (World.block_lt_of_cell? _ _ Q0.out)).trans Q0.out; have q1 := (HB.out.cell (World.block_lt_of_cell? _ _ Q1.out)).trans Q1.out; have q2 := (HB.out.cell (World.block_lt_of_cell? _ _ Q2.out)).trans Q2.out; have q3 := (HB.out.cell (World.block_lt_of_cell? _ _ Q3.out)).trans Q3.out; have q4 := (HB.out.cell (World.block_lt_of_cell? _ _ Q4.out)).trans Q4.out; have hxa0 := fun o => (((Below.refl _ w3).alloc (Nat.le_refl _) o).cell (World.block_lt_of_cell? _ _ hx0)).trans hx0; have hxa1 := fun o => (((Below.refl _ w3).alloc (Nat.le_refl _) o).cell (World.block_lt_of_cell? _ _ hx1)).trans hx1; have hxa2 := fun o => (((Below.refl _ w3).alloc (Nat.le_refl _) o).cell (World.block_lt_of_cell? _ _ hx2)).trans hx2; have hxa3 := fun o => (((Below.refl _ w3).alloc (Nat.le_refl _) o).cell (World.block_lt_of_cell? _ _ hx3)).trans hx3; have hxa4 := fun o => (((Below.refl _ w3).alloc (Nat.le_refl _) o).cell (World.block_lt_of_cell? _ _ hx4)).trans hx4; have hpa0 : (w3.alloc (.cells #[.int .i64 p.f0, .int .i64 p.f1, .string p.f2, .string p.f3, .int .i64 p.f4] 66)).cell? ⟨w3.heap.size, 0, none⟩ = some (.int .i64 p.f0) := (by simp); have hpa1 : (w3.alloc (.cells #[.int .i64 p.f0, .int .i64 p.f1, .string p.f2, .string p.f3, .int .i64 p.f4] 66)).cell? ⟨w3.heap.size, 1, none⟩ = some (.int .i64 p.f1) := (by simp); have hpa2 : (w3.alloc (.cells #[.int .i64 p.f0, .int .i64 p.f1, .string p.f2, .string p.f3, .int .i64 p.f4] 66)).cell? ⟨w3.heap.size, 2, none⟩ = some (.string p.f2) := (by simp); have hpa3 : (w3.alloc (.cells #[.int .i64 p.f0, .int .i64 p.f1, .string p.f2, .string p.f3, .int .i64 p.f4] 66)).cell? ⟨w3.heap.size, 3, none⟩ = some (.string p.f3) := (by simp); have hpa4 : (w3.alloc (.cells #[.int .i64 p.f0, .int .i64 p.f1, .string p.f2, .string p.f3, .int .i64 p.f4] 66)).cell? ⟨w3.heap.size, 4, none⟩ = some (.int .i64 p.f4) := (by simp)) | (go_at_call 67; (with_reducible refine (impl_cmpMetas.calls kc _ _ _ _ _ _ _ _ _ _ _ _ HKC.out).mono ?_); rintro e w4 ⟨rfl, hb⟩; (try replace hb := hb.below); replace hx0 := (hb.cell (World.block_lt_of_cell? _ _ (hxa0 _))).trans (hxa0 _); clear hxa0; replace hx1 := (hb.cell (World.block_lt_of_cell? _ _ (hxa1 _))).trans (hxa1 _); clear hxa1; replace hx2 := (hb.cell (World.block_lt_of_cell? _ _ (hxa2 _))).trans (hxa2 _); clear hxa2; replace hx3 := (hb.cell (World.block_lt_of_cell? _ _ (hxa3 _))).trans (hxa3 _); clear hxa3; replace hx4 := (hb.cell (World.block_lt_of_cell? _ _ (hxa4 _))).trans (hxa4 _); clear hxa4;have hp0 := (hb.cell (World.block_lt_of_cell? _ _ hpa0)).trans hpa0; clear hpa0; have hp1 := (hb.cell (World.block_lt_of_cell? _ _ hpa1)).trans hpa1; clear hpa1; have hp2 := (hb.cell (World.block_lt_of_cell? _ _ hpa2)).trans hpa2; clear hpa2; have hp3 := (hb.cell (World.block_lt_of_cell? _ _ hpa3)).trans hpa3; clear hpa3; have hp4 := (hb.cell (World.block_lt_of_cell? _ _ hpa4)).trans hpa4; clear hpa4;replace hv0 := (hb.cell (World.block_lt_of_cell? _ _ ((((Below.refl _ w3).alloc (Nat.le_refl _) _).cell (World.block_lt_of_cell? _ _ hv0)).trans hv0))).trans ((((Below.refl _ w3).alloc (Nat.le_refl _) _).cell (World.block_lt_of_cell? _ _ hv0)).trans hv0); replace hv1 := (hb.cell (World.block_lt_of_cell? _ _ ((((Below.refl _ w3).alloc (Nat.le_refl _) _).cell (World.block_lt_of_cell? _ _ hv1)).trans hv1))).trans ((((Below.refl _ w3).alloc (Nat.le_refl _) _).cell (World.block_lt_of_cell? _ _ hv1)).trans hv1); replace hv2 := (hb.cell (World.block_lt_of_cell? _ _ ((((Below.refl _ w3).alloc (Nat.le_refl _) _).cell (World.block_lt_of_cell? _ _ hv2)).trans hv2))).trans ((((Below.refl _ w3).alloc (Nat.le_refl _) _).cell (World.block_lt_of_cell? _ _ hv2)).trans hv2); replace hv3 := (hb.cell (World.block_lt_of_cell? _ _ ((((Below.refl _ w3).alloc (Nat.le_refl _) _).cell (World.block_lt_of_cell? _ _ hv3)).trans hv3))).trans ((((Below.refl _ w3).alloc (Nat.le_refl _) _).cell (World.block_lt_of_cell? _ _ hv3)).trans hv3); have n_ := Aside0.mk (below_step (HB.out.alloc HB.out.size _) hb); clear HB; have HB := n_; clear n_; have m_ := Aside0.mk ((HM.out.kept (World.grownBy_alloc w3 _ none) (by simp)).below hb); clear HM; have HM := m_; clear m_ hb))
      go_roundg (l.length - (i + 1))
      case measure => omega
      case rel =>
        refine ⟨i + 1, by first | rfl | go_num, by omega, Nat.le_refl _, HB, ⟨?_⟩, ⟨fun j hj => ?_⟩, hv0, hv1, hv2, hv3⟩
        · rw [hT.out]; exact HM.out
        · by_cases e : j = i
          · subst e
            exact hK.out.2 ⟨⟨c1, c3, c4, c5, b6, c7⟩, c2, fun _ => ⟨by omega, fun h => by have h := h.2.2; unfold tless at h; rw [g4] at h; cases h⟩⟩
          · exact HOK.out j (by omega)
def impl_PutVar.l0 : Nat → Int → List Int → Option (ByteArray)
  | 0, _, _ => none
  | k + 1, x0, x3 => if x0 ≥ 128 then (if x3.length < 140737488355328 then (impl_PutVar.l0 k (x0 / 128) (x3 ++ [Go.bits .or .u8 ((x0) % 256) 128])) else (none)) else (if x3.length < 140737488355328 then (some (strOfNums (x3 ++ [(x0) % 256]))) else (none))
def impl_PutVar.f (k : Nat) (a0 : Int) : Option (ByteArray) := impl_PutVar.l0 k a0 (([] : List Int))
set_option maxHeartbeats 8000000 in
set_option maxRecDepth 100000 in
theorem impl_PutVar.calls (k : Nat) (a0 : Int) (r : ByteArray) (w : World) (h : impl_PutVar.f k a0 = some r) :
    Calls Try.prog 120 #[.int .u64 a0] w fun e w' => e = .returned (.string r) ∧ Below w.heap.size w w' := by
  have HB := Aside0.mk (Below.refl w.heap.size w)
  have H : (impl_PutVar.l0 k a0 (([] : List Int))) = some r := h
  clear h
  obtain ⟨y101, hy101⟩ : ∃ y_ : List Int, y_ = (([] : List Int)) := ⟨_, rfl⟩
  replace H : (impl_PutVar.l0 k a0 y101) = some r := by first | (rw [hy101]; with_reducible exact H) | (have H2_ := (Option.bind_some _ _).symm.trans H; rw [hy101]; with_reducible exact H2_) | (have H2_ := (Option.bind_some _ _).symm.trans H; with_reducible exact H2_) | with_reducible exact H | (rw [hy101]; exact H) | exact H
  have Ny101 := Aside0.mk hy101
  clear hy101
  have H' := Aside0.mk H
  clear H
  go_enter Try.func120, Try.ntmps120
  go_wp2_with (first | ((with_reducible refine gate_dst (N := 4) rfl ?_); refine Kd.R_lit (Kd.int .u8) _ 5 ?hg (N := 4) ?hd (xs := ([] : List Int)) (inner := []) (ok := fun _ => True) (okp := fun _ => True) ?hr ?hp (fun _ hk => hk) trivial (Below.refl _ _) (Nat.le_refl _) (by simp) ?_; (case hd => rfl); (case hg => rfl); (case hr => first | (go_simp; done) | (go_simp; rfl)); (case hp => exact (Reps.none _ _)); intro v102 w2 ho3 hb hg_ hnew_; clear hg_ hnew_; (first | rw [← Ny101.out] at ho3 | (simp only [Int.reduceToNat] at ho3; rw [← Ny101.out] at ho3)); have n0_ := Aside0.mk (Kd.R_lower ho3 (below_size (by repeat (first | (with_reducible first | exact HB.out | apply below_alloc | apply pw_below_drewN | apply below_drew1) | exact HB.out)))); have n1_ := Aside0.mk (below_step (by repeat (first | (with_reducible first | exact HB.out | apply below_alloc | apply pw_below_drewN | apply below_drew1) | exact HB.out)) hb); clear HB; have HO103 := n0_; have HB := n1_; clear n0_ n1_; clear hb ho3))
  go_loopg [0, 3] k (fun kq v0 v3 w' => ∃ (x0_1 : Int) (x3_1 : List Int), v0 = .int .u64 x0_1 ∧ Aside0 (impl_PutVar.l0 kq x0_1 x3_1 = some r) ∧ Aside0 (kq ≤ k) ∧ Aside0 (Kd.R (Kd.int .u8) 5 w' w.heap.size (fun _ => True) v3 x3_1) ∧ Aside0 (Below w.heap.size w w'))
  case atStart => exact ⟨(a0), (y101), (by first | rfl | (simp; done) | (simp [*]; done)), H', ⟨Nat.le_refl _⟩, ⟨by (with_reducible repeat (first | apply Kd.R_alloc | apply Kd.R_drewN | apply Kd.R_drew)); exact HO103.out⟩, ⟨by repeat (first | (with_reducible first | exact HB.out | apply below_alloc | apply pw_below_drewN | apply below_drew1) | exact HB.out)⟩⟩
  case round =>
    clear H'
    try clear c1
    try clear p2
    obtain ⟨x0_1, x3_1, rfl, HA, HK1, HO_3, HB⟩ := hrel
    cases gk with
    | zero => exact absurd HA.out (by simp [impl_PutVar.l0])
    | succ k1 =>
      have H := HA.out
      clear HA
      simp only [impl_PutVar.l0] at H
      by_cases c4 : x0_1 ≥ 128
      · rw [if_pos c4] at H
        have c4b0 : decide (128 ≤ x0_1) = true := decide_eq_true c4
        clear c4
        by_cases c5 : x3_1.length < 140737488355328
        · rw [if_pos c5] at H
          have LMc5 := Aside0.mk c5
          clear c5
          obtain ⟨y104, hy104⟩ : ∃ y_ : List Int, y_ = (x3_1 ++ [Go.bits .or .u8 ((x0_1) % 256) 128]) := ⟨_, rfl⟩
          replace H : (impl_PutVar.l0 k1 (x0_1 / 128) y104) = some r := by first | (rw [hy104]; with_reducible exact H) | (have H2_ := (Option.bind_some _ _).symm.trans H; rw [hy104]; with_reducible exact H2_) | (have H2_ := (Option.bind_some _ _).symm.trans H; with_reducible exact H2_) | with_reducible exact H | (rw [hy104]; exact H) | exact H
          have Ny104 := Aside0.mk hy104
          clear hy104
          have H' := Aside0.mk H
          clear H
          go_wp2_with (first | ((with_reducible refine gate_builtin (b := .append) (xs := #[.tmp 9, .tmp 13]) rfl ?_); at_builtin; refine Kd.R_append (Kd.int .u8) (w0 := w) w.heap.size rfl (.tmp 9) (.tmp 13) 57 5 (.int .u8 0) 1 rfl Try.underlying57 info5 rfl (by decide) (by omega) u3 x3_1 (Go.bits .or .u8 ((x0_1) % 256) 128) [.int .u8 (Go.bits .or .u8 ((x0_1) % 256) 128)] (fun _ => True) (fun _ => False) rfl rfl ?aP (fun _ hk => hk.elim) ?aF ?aO ?aB ?aS ?aL ?_; (case aP => exact rfl); (case aB => exact (by repeat (first | (with_reducible first | exact HB.out | apply below_alloc | apply pw_below_drewN | apply below_drew1) | exact HB.out))); (case aF => exact (fun _ _ => trivial)); (case aO => exact (by (with_reducible repeat (first | apply Kd.R_alloc | apply Kd.R_drewN | apply Kd.R_drew)); exact HO_3.out)); (case aS => exact (below_size (by repeat (first | (with_reducible first | exact HB.out | apply below_alloc | apply pw_below_drewN | apply below_drew1) | exact HB.out)))); (case aL => have := LMc5.out; omega); intro v105 w6 ho hb hg hat; rw [← Ny104.out] at ho; have n0_ := Aside0.mk (hb); have n1_ := Aside0.mk (ho); clear HB; clear HO_3; have HB := n0_; have HO106 := n1_; clear n0_ n1_; clear ho hb hg hat))
          go_roundg k1
          case measure => have := HK1.out; omega
          case rel => exact ⟨(x0_1 / 128), (y104), (by first | rfl | (simp; done) | (simp [*]; done)), H', ⟨by have := HK1.out; omega⟩, ⟨by (with_reducible repeat (first | apply Kd.R_alloc | apply Kd.R_drewN | apply Kd.R_drew)); exact HO106.out⟩, ⟨by repeat (first | (with_reducible first | exact HB.out | apply below_alloc | apply pw_below_drewN | apply below_drew1) | exact HB.out)⟩⟩
        · rw [if_neg c5] at H
          exact absurd H (by simp)
      · rw [if_neg c4] at H
        have c4b0 : decide (128 ≤ x0_1) = false := decide_eq_false c4
        clear c4
        by_cases c7 : x3_1.length < 140737488355328
        · rw [if_pos c7] at H
          have LMc7 := Aside0.mk c7
          clear c7
          obtain ⟨y107, hy107⟩ : ∃ y_ : List Int, y_ = (x3_1 ++ [(x0_1) % 256]) := ⟨_, rfl⟩
          replace H : (some (strOfNums y107)) = some r := by first | (rw [hy107]; with_reducible exact H) | (have H2_ := (Option.bind_some _ _).symm.trans H; rw [hy107]; with_reducible exact H2_) | (have H2_ := (Option.bind_some _ _).symm.trans H; with_reducible exact H2_) | with_reducible exact H | (rw [hy107]; exact H) | exact H
          have Ny107 := Aside0.mk hy107
          clear hy107
          obtain rfl := Option.some.inj H
          go_wp2_with (first | ((with_reducible refine gate_builtin (b := .append) (xs := #[.tmp 15, .tmp 18]) rfl ?_); at_builtin; refine Kd.R_append (Kd.int .u8) (w0 := w) w.heap.size rfl (.tmp 15) (.tmp 18) 57 5 (.int .u8 0) 1 rfl Try.underlying57 info5 rfl (by decide) (by omega) u3 x3_1 ((x0_1) % 256) [.int .u8 ((x0_1) % 256)] (fun _ => True) (fun _ => False) rfl rfl ?aP (fun _ hk => hk.elim) ?aF ?aO ?aB ?aS ?aL ?_; (case aP => exact rfl); (case aB => exact (by repeat (first | (with_reducible first | exact HB.out | apply below_alloc | apply pw_below_drewN | apply below_drew1) | exact HB.out))); (case aF => exact (fun _ _ => trivial)); (case aO => exact (by (with_reducible repeat (first | apply Kd.R_alloc | apply Kd.R_drewN | apply Kd.R_drew)); exact HO_3.out)); (case aS => exact (below_size (by repeat (first | (with_reducible first | exact HB.out | apply below_alloc | apply pw_below_drewN | apply below_drew1) | exact HB.out)))); (case aL => have := LMc7.out; omega); intro v108 w8 ho hb hg hat; rw [← Ny107.out] at ho; have n0_ := Aside0.mk (hb); have n1_ := Aside0.mk (ho); clear HB; clear HO_3; have HB := n0_; have HO109 := n1_; clear n0_ n1_; clear ho hb hg hat; have hcv9 := own_string (P := Try.prog) Try.underlying57 Try.underlying5 Try.underlying9 (Kd.own_of_R HO109.out)))
          go_ret
          exact ⟨by first | rfl | (simp [errW_none, errW_some] <;> rfl) | (simp [*, errW_none, errW_some] <;> rfl), by repeat (first | (with_reducible first | exact HB.out | apply below_alloc | apply pw_below_drewN | apply below_drew1) | exact HB.out)⟩
        · rw [if_neg c7] at H
          exact absurd H (by simp)
def impl_putInt.f (k : Nat) (a0 : Int) : Option (ByteArray) := (impl_PutVar.f k (IntKind.u64.wrap (a0))).bind fun t101 => (some t101)
set_option maxHeartbeats 8000000 in
set_option maxRecDepth 100000 in
theorem impl_putInt.calls (k : Nat) (a0 : Int) (r : ByteArray) (w : World) (h : impl_putInt.f k a0 = some r) :
    Calls Try.prog 106 #[.int .i64 a0] w fun e w' => e = .returned (.string r) ∧ Below w.heap.size w w' := by
  have HB := Aside0.mk (Below.refl w.heap.size w)
  have H : ((impl_PutVar.f k (IntKind.u64.wrap (a0))).bind fun t101 => (some t101)) = some r := h
  clear h
  replace H := Option.bind_eq_some_iff.mp H
  obtain ⟨t101, A20, H⟩ := H
  replace H : (some t101) = some r := H
  have A2 := Aside0.mk A20
  clear A20
  obtain rfl := Option.some.inj H
  go_enter Try.func106, Try.ntmps106
  go_wp2_with (first | ((with_reducible refine gate_callee (f := 120) rfl ?_); refine goesL_ (some 5) rfl rfl Try.func120 (by kernel_rfl) rfl #[.int .u64 (IntKind.u64.wrap (a0))] rfl (by (try simp only [List.map_toArray, List.map_cons, List.map_nil]); first | done | rfl | (simp only [List.length_drop, List.length_take]; rfl) | (rw [IntWalk.u64_in _ (by omega)] <;> rfl)) ?_; (with_reducible refine (impl_PutVar.calls k (IntKind.u64.wrap (a0)) t101 _ A2.out).mono ?_); rintro e w3 ⟨rfl, hb⟩; refine ⟨_, rfl, ?_⟩; have n0_ := Aside0.mk (below_step (by repeat (first | (with_reducible first | exact HB.out | apply below_alloc | apply pw_below_drewN | apply below_drew1) | exact HB.out)) hb); clear HB; have HB := n0_; clear n0_; (try clear hb); (try clear hb2); (try clear hk); (try clear hi)))
  go_ret
  exact ⟨by first | rfl | (simp [errW_none, errW_some] <;> rfl) | (simp [*, errW_none, errW_some] <;> rfl), by repeat (first | (with_reducible first | exact HB.out | apply below_alloc | apply pw_below_drewN | apply below_drew1) | exact HB.out)⟩
def impl_PutText.f (k : Nat) (a0 : ByteArray) : Option (ByteArray) := (impl_PutVar.f k (IntKind.u64.wrap ((a0.size : Int)))).bind fun t101 => (if t101.size + a0.size ≤ 9223372036854775807 then (some (t101 ++ a0)) else (none))
set_option maxHeartbeats 8000000 in
set_option maxRecDepth 100000 in
theorem impl_PutText.calls (k : Nat) (a0 : ByteArray) (r : ByteArray) (w : World) (h : impl_PutText.f k a0 = some r) :
    Calls Try.prog 107 #[.string a0] w fun e w' => e = .returned (.string r) ∧ Below w.heap.size w w' := by
  have HB := Aside0.mk (Below.refl w.heap.size w)
  have H : ((impl_PutVar.f k (IntKind.u64.wrap ((a0.size : Int)))).bind fun t101 => (if t101.size + a0.size ≤ 9223372036854775807 then (some (t101 ++ a0)) else (none))) = some r := h
  clear h
  replace H := Option.bind_eq_some_iff.mp H
  obtain ⟨t101, A20, H⟩ := H
  replace H : (if t101.size + a0.size ≤ 9223372036854775807 then (some (t101 ++ a0)) else (none)) = some r := H
  have A2 := Aside0.mk A20
  clear A20
  by_cases c3 : t101.size + a0.size ≤ 9223372036854775807
  · rw [if_pos c3] at H
    have c3b0 := eq_true c3
    have c3b1 : decide (t101.size + a0.size ≤ 9223372036854775807) = true := decide_eq_true c3
    try have c3b2 : (9223372036854775807 < t101.size + a0.size) = False := eq_false (Nat.not_lt.2 c3)
    obtain rfl := Option.some.inj H
    go_enter Try.func107, Try.ntmps107
    go_wp2_with (first | ((with_reducible refine gate_callee (f := 120) rfl ?_); refine goesL_ (some 6) rfl rfl Try.func120 (by kernel_rfl) rfl #[.int .u64 (IntKind.u64.wrap ((a0.size : Int)))] rfl (by (try simp only [List.map_toArray, List.map_cons, List.map_nil]); first | done | rfl | (simp only [List.length_drop, List.length_take]; rfl) | (rw [IntWalk.u64_in _ (by omega)] <;> rfl)) ?_; (with_reducible refine (impl_PutVar.calls k (IntKind.u64.wrap ((a0.size : Int))) t101 _ A2.out).mono ?_); rintro e w4 ⟨rfl, hb⟩; refine ⟨_, rfl, ?_⟩; have n0_ := Aside0.mk (below_step (by repeat (first | (with_reducible first | exact HB.out | apply below_alloc | apply pw_below_drewN | apply below_drew1) | exact HB.out)) hb); clear HB; have HB := n0_; clear n0_; (try clear hb); (try clear hb2); (try clear hk); (try clear hi)))
    go_ret
    exact ⟨by first | rfl | (simp [errW_none, errW_some] <;> rfl) | (simp [*, errW_none, errW_some] <;> rfl), by repeat (first | (with_reducible first | exact HB.out | apply below_alloc | apply pw_below_drewN | apply below_drew1) | exact HB.out)⟩
  · rw [if_neg c3] at H
    exact absurd H (by simp)
mutual
def impl_Crc.l0 : Nat → ByteArray → Int → Int → Int → Option (Int)
  | 0, _, _, _, _ => none
  | k + 1, x0, x3, x6, x7 => if x7 < x6 then (if 0 ≤ x7 then (if x7 < (x0.size : Int) then (impl_Crc.l1 k x0 (Go.bits .xor .u32 x3 ((bt x0 x7) % 4294967296)) x6 x7 0) else (none)) else (none)) else (some (Go.bits .xor .u32 4294967295 x3))
def impl_Crc.l1 : Nat → ByteArray → Int → Int → Int → Int → Option (Int)
  | 0, _, _, _, _, _ => none
  | k + 1, x0, x3, x6, x7, x16 => if x16 < 8 then (if (Go.bits .and .u32 x3 1) = 1 then (impl_Crc.l1 k x0 (Go.bits .xor .u32 (x3 / 2) 2197175160) x6 x7 (wrap64 (x16 + 1))) else (impl_Crc.l1 k x0 (x3 / 2) x6 x7 (wrap64 (x16 + 1)))) else (impl_Crc.l0 k x0 x3 x6 (wrap64 (x7 + 1)))
end
def impl_Crc.f (k : Nat) (a0 : ByteArray) : Option (Int) := impl_Crc.l0 k a0 4294967295 (a0.size : Int) 0
set_option maxHeartbeats 8000000 in
set_option maxRecDepth 100000 in
theorem impl_Crc.calls (k : Nat) (a0 : ByteArray) (r : Int) (w : World) (h : impl_Crc.f k a0 = some r) :
    Calls Try.prog 113 #[.string a0] w fun e w' => e = .returned (.int .u32 r) ∧ Drawn0 w w' := by
  have H : (impl_Crc.l0 k a0 4294967295 (a0.size : Int) 0) = some r := h
  clear h
  have H' := Aside0.mk H
  clear H
  go_enter Try.func113, Try.ntmps113
  go_wp2
  go_loopg [3, 7] k (fun kq v3 v7 w' => ∃ (x3_1 : Int) (x7_1 : Int), v3 = .int .u32 x3_1 ∧ v7 = .int .i64 x7_1 ∧ Aside0 (impl_Crc.l0 kq a0 x3_1 (a0.size : Int) x7_1 = some r) ∧ Aside0 (kq ≤ k) ∧ Drawn0 w w')
  case atStart => exact ⟨(4294967295), (0), (by first | rfl | (simp; done) | (simp [*]; done)), (by first | rfl | (simp; done) | (simp [*]; done)), H', ⟨Nat.le_refl _⟩, by repeat (first | exact Drawn0.refl _ | apply Drawn0.step)⟩
  case round =>
    clear H'
    try clear c1
    obtain ⟨x3_1, x7_1, rfl, rfl, HA, HK1, ⟨m1, rfl⟩⟩ := hrel
    cases gk with
    | zero => exact absurd HA.out (by simp [impl_Crc.l0])
    | succ k1 =>
      have H := HA.out
      clear HA
      simp only [impl_Crc.l0] at H
      by_cases c2 : x7_1 < (a0.size : Int)
      · rw [if_pos c2] at H
        have c2b0 : decide (x7_1 < (a0.size : Int)) = true := decide_eq_true c2
        clear c2
        by_cases c3 : 0 ≤ x7_1
        · rw [if_pos c3] at H
          have c3b0 : decide (0 ≤ x7_1) = true := decide_eq_true c3
          clear c3
          by_cases c4 : x7_1 < (a0.size : Int)
          · rw [if_pos c4] at H
            have c4b0 : decide (x7_1 < (a0.size : Int)) = true := decide_eq_true c4
            clear c4
            have H' := Aside0.mk H
            clear H
            have p5 : 0 ≤ (x7_1 : Int) := of_decide_eq_true (by first | (with_reducible assumption) | assumption)
            have q5 : x7_1 < (a0.size : Int) := of_decide_eq_true (by first | (with_reducible assumption) | assumption)
            have hx5 := bt_at a0 x7_1
            replace p5 := eq_true p5
            replace q5 := eq_true q5
            go_wp2
            go_loopg [3, 16] k1 (fun kq v3 v16 w' => ∃ (x3_2 : Int) (x16_2 : Int), v3 = .int .u32 x3_2 ∧ v16 = .int .i64 x16_2 ∧ Aside0 (impl_Crc.l1 kq a0 x3_2 (a0.size : Int) x7_1 x16_2 = some r) ∧ Aside0 (kq ≤ k1) ∧ Drawn0 w w')
            case atStart => exact ⟨(Go.bits .xor .u32 x3_1 ((bt a0 x7_1) % 4294967296)), (0), (by first | rfl | (simp; done) | (simp [*]; done)), (by first | rfl | (simp; done) | (simp [*]; done)), H', ⟨Nat.le_refl _⟩, by repeat (first | exact Drawn0.refl _ | apply Drawn0.step)⟩
            case round =>
              clear H'
              try clear c1
              try clear c2
              try clear c2b0
              try clear p2
              try clear c3
              try clear c3b0
              try clear c4
              try clear c4b0
              try clear p5
              try clear q5
              try clear hx5
              try clear p5
              try clear q5
              obtain ⟨x3_2, x16_2, rfl, rfl, HA, HK2, ⟨m2, rfl⟩⟩ := hrel
              cases gk with
              | zero => exact absurd HA.out (by simp [impl_Crc.l1])
              | succ k2 =>
                have H := HA.out
                clear HA
                simp only [impl_Crc.l1] at H
                by_cases c6 : x16_2 < 8
                · rw [if_pos c6] at H
                  have c6b0 : decide (x16_2 < 8) = true := decide_eq_true c6
                  clear c6
                  by_cases c7 : (Go.bits .and .u32 x3_2 1) = 1
                  · rw [if_pos c7] at H
                    have c7b0 : ((Go.bits .and .u32 x3_2 1) == 1) = true := beq_iff_eq.mpr c7
                    have c7b1 : ((Go.bits .and .u32 x3_2 1) != 1) = false := bne_eq_false_iff_eq.mpr c7
                    clear c7
                    have H' := Aside0.mk H
                    clear H
                    go_wp2
                    go_roundg k2
                    case measure => have := HK1.out; have := HK2.out; omega
                    case rel => exact ⟨(Go.bits .xor .u32 (x3_2 / 2) 2197175160), (wrap64 (x16_2 + 1)), (by first | rfl | (simp; done) | (simp [*]; done)), (by first | rfl | (simp; done) | (simp [*]; done)), H', ⟨by have := HK1.out; have := HK2.out; omega⟩, by repeat (first | exact Drawn0.refl _ | apply Drawn0.step)⟩
                  · rw [if_neg c7] at H
                    have c7b0 : ((Go.bits .and .u32 x3_2 1) == 1) = false := beq_eq_false_iff_ne.mpr c7
                    have c7b1 : ((Go.bits .and .u32 x3_2 1) != 1) = true := bne_iff_ne.mpr c7
                    have H' := Aside0.mk H
                    clear H
                    go_wp2
                    go_roundg k2
                    case measure => have := HK1.out; have := HK2.out; omega
                    case rel => exact ⟨(x3_2 / 2), (wrap64 (x16_2 + 1)), (by first | rfl | (simp; done) | (simp [*]; done)), (by first | rfl | (simp; done) | (simp [*]; done)), H', ⟨by have := HK1.out; have := HK2.out; omega⟩, by repeat (first | exact Drawn0.refl _ | apply Drawn0.step)⟩
                · rw [if_neg c6] at H
                  have c6b0 : decide (x16_2 < 8) = false := decide_eq_false c6
                  clear c6
                  have H' := Aside0.mk H
                  clear H
                  go_wp2
                  go_roundg k2
                  case measure => have := HK1.out; have := HK2.out; omega
                  case rel => exact ⟨(x3_2), (wrap64 (x7_1 + 1)), (by first | rfl | (simp; done) | (simp [*]; done)), (by first | rfl | (simp; done) | (simp [*]; done)), H', ⟨by have := HK1.out; have := HK2.out; omega⟩, by repeat (first | exact Drawn0.refl _ | apply Drawn0.step)⟩
          · rw [if_neg c4] at H
            exact absurd H (by simp)
        · rw [if_neg c3] at H
          exact absurd H (by simp)
      · rw [if_neg c2] at H
        have c2b0 : decide (x7_1 < (a0.size : Int)) = false := decide_eq_false c2
        clear c2
        obtain rfl := Option.some.inj H
        go_wp2
        go_ret
        exact ⟨by first | rfl | (simp; done) | (simp [*]; done), by repeat (first | exact Drawn0.refl _ | apply Drawn0.step)⟩
def impl_PutFixed.f (a0 : Int) : Option (ByteArray) := some (strOfNums (([(a0) % 256, (a0 / 256) % 256, (a0 / 65536) % 256, (a0 / 16777216) % 256] : List Int)))
set_option maxHeartbeats 8000000 in
set_option maxRecDepth 100000 in
theorem impl_PutFixed.calls (a0 : Int) (r : ByteArray) (w : World) (h : impl_PutFixed.f a0 = some r) :
    Calls Try.prog 121 #[.int .u32 a0] w fun e w' => e = .returned (.string r) ∧ Below w.heap.size w w' := by
  have HB := Aside0.mk (Below.refl w.heap.size w)
  have H : (some (strOfNums (([(a0) % 256, (a0 / 256) % 256, (a0 / 65536) % 256, (a0 / 16777216) % 256] : List Int)))) = some r := h
  clear h
  obtain ⟨y101, hy101⟩ : ∃ y_ : List Int, y_ = (([(a0) % 256, (a0 / 256) % 256, (a0 / 65536) % 256, (a0 / 16777216) % 256] : List Int)) := ⟨_, rfl⟩
  replace H : (some (strOfNums y101)) = some r := by first | (rw [hy101]; with_reducible exact H) | (have H2_ := (Option.bind_some _ _).symm.trans H; rw [hy101]; with_reducible exact H2_) | (have H2_ := (Option.bind_some _ _).symm.trans H; with_reducible exact H2_) | with_reducible exact H | (rw [hy101]; exact H) | exact H
  have Ny101 := Aside0.mk hy101
  clear hy101
  obtain rfl := Option.some.inj H
  go_enter Try.func121, Try.ntmps121
  go_wp2_with (first | ((with_reducible refine gate_dst (N := 14) rfl ?_); refine Kd.R_lit (Kd.int .u8) _ 5 ?hg (N := 14) ?hd (xs := ([(a0) % 256, (a0 / 256) % 256, (a0 / 65536) % 256, (a0 / 16777216) % 256] : List Int)) (inner := [.int .u8 ((a0) % 256), .int .u8 ((a0 / 256) % 256), .int .u8 ((a0 / 65536) % 256), .int .u8 ((a0 / 16777216) % 256)]) (ok := fun _ => True) (okp := fun _ => True) ?hr ?hp (fun _ hk => hk) trivial (Below.refl _ _) (Nat.le_refl _) (by simp) ?_; (case hd => rfl); (case hg => rfl); (case hr => first | (go_simp; done) | (go_simp; rfl)); (case hp => exact (Reps.one (show Kd.M (Kd.int .u8) _ _ _ ((a0) % 256) [.int .u8 ((a0) % 256)] from rfl) (Reps.one (show Kd.M (Kd.int .u8) _ _ _ ((a0 / 256) % 256) [.int .u8 ((a0 / 256) % 256)] from rfl) (Reps.one (show Kd.M (Kd.int .u8) _ _ _ ((a0 / 65536) % 256) [.int .u8 ((a0 / 65536) % 256)] from rfl) (Reps.one (show Kd.M (Kd.int .u8) _ _ _ ((a0 / 16777216) % 256) [.int .u8 ((a0 / 16777216) % 256)] from rfl) (Reps.none _ _)))))); intro v102 w2 ho3 hb hg_ hnew_; clear hg_ hnew_; (first | rw [← Ny101.out] at ho3 | (simp only [Int.reduceToNat] at ho3; rw [← Ny101.out] at ho3)); have n0_ := Aside0.mk (Kd.R_lower ho3 (below_size (by repeat (first | (with_reducible first | exact HB.out | apply below_alloc | apply pw_below_drewN | apply below_drew1) | exact HB.out)))); have n1_ := Aside0.mk (below_step (by repeat (first | (with_reducible first | exact HB.out | apply below_alloc | apply pw_below_drewN | apply below_drew1) | exact HB.out)) hb); clear HB; have HO103 := n0_; have HB := n1_; clear n0_ n1_; clear hb ho3; have hcv4 := own_string (P := Try.prog) Try.underlying57 Try.underlying5 Try.underlying9 (Kd.own_of_R HO103.out)))
  go_ret
  exact ⟨by first | rfl | (simp [errW_none, errW_some] <;> rfl) | (simp [*, errW_none, errW_some] <;> rfl), by repeat (first | (with_reducible first | exact HB.out | apply below_alloc | apply pw_below_drewN | apply below_drew1) | exact HB.out)⟩
def impl_section.f (k : Nat) (a0 : ByteArray) : Option (ByteArray) := (impl_PutText.f k a0).bind fun t101 => ((impl_Crc.f k a0).bind fun t102 => ((impl_PutFixed.f t102).bind fun t103 => (if t101.size + t103.size ≤ 9223372036854775807 then (some (t101 ++ t103)) else (none))))
set_option maxHeartbeats 8000000 in
set_option maxRecDepth 100000 in
theorem impl_section.calls (k : Nat) (a0 : ByteArray) (r : ByteArray) (w : World) (h : impl_section.f k a0 = some r) :
    Calls Try.prog 108 #[.string a0] w fun e w' => e = .returned (.string r) ∧ Below w.heap.size w w' := by
  have HB := Aside0.mk (Below.refl w.heap.size w)
  have H : ((impl_PutText.f k a0).bind fun t101 => ((impl_Crc.f k a0).bind fun t102 => ((impl_PutFixed.f t102).bind fun t103 => (if t101.size + t103.size ≤ 9223372036854775807 then (some (t101 ++ t103)) else (none))))) = some r := h
  clear h
  replace H := Option.bind_eq_some_iff.mp H
  obtain ⟨t101, A20, H⟩ := H
  replace H : ((impl_Crc.f k a0).bind fun t102 => ((impl_PutFixed.f t102).bind fun t103 => (if t101.size + t103.size ≤ 9223372036854775807 then (some (t101 ++ t103)) else (none)))) = some r := H
  have A2 := Aside0.mk A20
  clear A20
  replace H := Option.bind_eq_some_iff.mp H
  obtain ⟨t102, A30, H⟩ := H
  replace H : ((impl_PutFixed.f t102).bind fun t103 => (if t101.size + t103.size ≤ 9223372036854775807 then (some (t101 ++ t103)) else (none))) = some r := H
  have A3 := Aside0.mk A30
  clear A30
  replace H := Option.bind_eq_some_iff.mp H
  obtain ⟨t103, A40, H⟩ := H
  replace H : (if t101.size + t103.size ≤ 9223372036854775807 then (some (t101 ++ t103)) else (none)) = some r := H
  have A4 := Aside0.mk A40
  clear A40
  by_cases c5 : t101.size + t103.size ≤ 9223372036854775807
  · rw [if_pos c5] at H
    have c5b0 := eq_true c5
    have c5b1 : decide (t101.size + t103.size ≤ 9223372036854775807) = true := decide_eq_true c5
    try have c5b2 : (9223372036854775807 < t101.size + t103.size) = False := eq_false (Nat.not_lt.2 c5)
    obtain rfl := Option.some.inj H
    go_enter Try.func108, Try.ntmps108
    go_wp2_with (first | ((with_reducible refine gate_callee (f := 107) rfl ?_); refine goesL_ (some 4) rfl rfl Try.func107 (by kernel_rfl) rfl #[.string a0] rfl (by (try simp only [List.map_toArray, List.map_cons, List.map_nil]); first | done | rfl | (simp only [List.length_drop, List.length_take]; rfl) | (rw [IntWalk.u64_in _ (by omega)] <;> rfl)) ?_; (with_reducible refine (impl_PutText.calls k a0 t101 _ A2.out).mono ?_); rintro e w6 ⟨rfl, hb⟩; refine ⟨_, rfl, ?_⟩; have n0_ := Aside0.mk (below_step (by repeat (first | (with_reducible first | exact HB.out | apply below_alloc | apply pw_below_drewN | apply below_drew1) | exact HB.out)) hb); clear HB; have HB := n0_; clear n0_; (try clear hb); (try clear hb2); (try clear hk); (try clear hi)) | ((with_reducible refine gate_callee (f := 113) rfl ?_); refine goesL_ (some 6) rfl rfl Try.func113 (by kernel_rfl) rfl #[.string a0] rfl (by (try simp only [List.map_toArray, List.map_cons, List.map_nil]); first | done | rfl | (simp only [List.length_drop, List.length_take]; rfl) | (rw [IntWalk.u64_in _ (by omega)] <;> rfl)) ?_; (with_reducible refine (impl_Crc.calls k a0 t102 _ A3.out).mono ?_); rintro e w' ⟨rfl, ⟨nd, rfl⟩⟩; refine ⟨_, rfl, ?_⟩) | ((with_reducible refine gate_callee (f := 121) rfl ?_); refine goesL_ (some 7) rfl rfl Try.func121 (by kernel_rfl) rfl #[.int .u32 t102] rfl (by (try simp only [List.map_toArray, List.map_cons, List.map_nil]); first | done | rfl | (simp only [List.length_drop, List.length_take]; rfl) | (rw [IntWalk.u64_in _ (by omega)] <;> rfl)) ?_; (with_reducible refine (impl_PutFixed.calls t102 t103 _ A4.out).mono ?_); rintro e w7 ⟨rfl, hb⟩; refine ⟨_, rfl, ?_⟩; have n0_ := Aside0.mk (below_step (by repeat (first | (with_reducible first | exact HB.out | apply below_alloc | apply pw_below_drewN | apply below_drew1) | exact HB.out)) hb); clear HB; have HB := n0_; clear n0_; (try clear hb); (try clear hb2); (try clear hk); (try clear hi)))
    go_ret
    exact ⟨by first | rfl | (simp [errW_none, errW_some] <;> rfl) | (simp [*, errW_none, errW_some] <;> rfl), by repeat (first | (with_reducible first | exact HB.out | apply below_alloc | apply pw_below_drewN | apply below_drew1) | exact HB.out)⟩
  · rw [if_neg c5] at H
    exact absurd H (by simp)
def impl_Version_text.l0 : Nat → ByteArray → List (S66) → Int → Int → Option (ByteArray)
  | 0, _, _, _, _ => none
  | k + 1, x3, x23, x24, x25 => if x25 < x24 then (if 0 ≤ x25 then (if x25 < (x23.length : Int) then ((impl_putInt.f k ((rd_T66 x23 x25).f0)).bind fun t109 => ((impl_putInt.f k ((rd_T66 x23 x25).f1)).bind fun t110 => (if t109.size + t110.size ≤ 9223372036854775807 then ((impl_PutText.f k ((rd_T66 x23 x25).f2)).bind fun t111 => (if t109.size + t110.size + t111.size ≤ 9223372036854775807 then ((impl_PutText.f k ((rd_T66 x23 x25).f3)).bind fun t112 => (if t109.size + t110.size + t111.size + t112.size ≤ 9223372036854775807 then ((impl_putInt.f k ((rd_T66 x23 x25).f4)).bind fun t113 => (if t109.size + t110.size + t111.size + t112.size + t113.size ≤ 9223372036854775807 then (if x3.size + (t109.size + t110.size + t111.size + t112.size + t113.size) ≤ 9223372036854775807 then (impl_Version_text.l0 k (x3 ++ ((((t109 ++ t110) ++ t111) ++ t112) ++ t113)) x23 x24 (wrap64 (x25 + 1))) else (none)) else (none))) else (none))) else (none))) else (none)))) else (none)) else (none)) else ((impl_section.f k x3).bind fun t106 => (some t106))
def impl_Version_text.f (k : Nat) (l0_0 : List (S66)) (a0_1 : Int) (a0_2 : Int) (a0_3 : Int) : Option (ByteArray) := (impl_putInt.f k a0_1).bind fun t102 => ((impl_putInt.f k a0_2).bind fun t103 => (if t102.size + t103.size ≤ 9223372036854775807 then ((impl_putInt.f k a0_3).bind fun t104 => (if t102.size + t103.size + t104.size ≤ 9223372036854775807 then ((impl_putInt.f k (l0_0.length : Int)).bind fun t105 => (if t102.size + t103.size + t104.size + t105.size ≤ 9223372036854775807 then (impl_Version_text.l0 k (((t102 ++ t103) ++ t104) ++ t105) l0_0 (l0_0.length : Int) 0) else (none))) else (none))) else (none)))
def impl_Version_text.T1 : Bool × List (List Nat × List Nat) := (true, [([], []), ([0], [0]), ([1], [1]), ([], []), ([3], [3]), ([4, 2], [4]), ([2, 5], [2, 5]), ([], []), ([7], [7]), ([8, 5], [8]), ([6, 9], [6, 9]), ([], []), ([11], [11]), ([12], [12]), ([13, 9], [13]), ([10, 14], [10, 14]), ([15, 14, 0, 1, 2, 3, 4, 5, 6, 7, 8, 9, 10, 11, 12, 13, 14, 15], [15])])
def impl_Version_text.B1 : List Nat := [0, 1, 3, 0, 8, 31, 63, 0, 128, 447, 1023, 0, 2048, 6144, 15295, 32767, 65535]
theorem impl_Version_text.tab1 : rtab .any (opsOf Try.f79 1) = impl_Version_text.T1 := by kernel_rfl
theorem impl_Version_text.bits1 : waitsOk impl_Version_text.T1.2 impl_Version_text.B1 = true := by kernel_rfl
def impl_Version_text.T5 : Bool × List (List Nat × List Nat) := (true, [([], []), ([], []), ([1], [1]), ([2], [2]), ([], []), ([4], [4]), ([5, 3], [5]), ([3, 6], [3, 6]), ([], []), ([8], [8]), ([9, 6], [9]), ([7, 10], [7, 10]), ([], []), ([12], [12]), ([13, 10], [13]), ([11, 14], [11, 14]), ([], []), ([16], [16]), ([17, 14], [17]), ([15, 18], [15, 18]), ([0, 19], [0, 19]), ([20, 18, 0, 1, 2, 3, 4, 5, 6, 7, 8, 9, 10, 11, 12, 13, 14, 15, 16, 17, 18, 19, 20], [0, 20])])
def impl_Version_text.B5 : List Nat := [0, 0, 2, 6, 0, 16, 62, 126, 0, 256, 894, 2046, 0, 4096, 14206, 32766, 0, 65536, 227198, 524286, 1048575, 2097151]
theorem impl_Version_text.tab5 : rtab .any (opsOf Try.f79 5) = impl_Version_text.T5 := by kernel_rfl
theorem impl_Version_text.bits5 : waitsOk impl_Version_text.T5.2 impl_Version_text.B5 = true := by kernel_rfl
set_option maxHeartbeats 8000000 in
set_option maxRecDepth 100000 in
theorem impl_Version_text.calls (k : Nat) (A0_0 : Option Addr) (c0_0 : Nat) (l0_0 : List (S66)) (a0_1 : Int) (a0_2 : Int) (a0_3 : Int) (r : ByteArray) (w : World) (hr0_0 : Kd.C k66 w A0_0 l0_0.length l0_0) (hc0_0 : l0_0.length ≤ c0_0) (h : impl_Version_text.f k l0_0 a0_1 a0_2 a0_3 = some r) :
    Calls Try.prog 79 #[.agg #[.slice A0_0 l0_0.length c0_0, .int .i64 a0_1, .int .i64 a0_2, .int .i64 a0_3]] w fun e w' => e = .returned (.string r) ∧ Below w.heap.size w w' := by
  have hu32 := Try.underlying32
  have hu66 := Try.underlying66
  have HR0_0 := Aside0.mk hr0_0
  have HC0_0 := Aside0.mk hc0_0
  clear hr0_0 hc0_0
  have HB := Aside0.mk (Below.refl w.heap.size w)
  have H : ((impl_putInt.f k a0_1).bind fun t102 => ((impl_putInt.f k a0_2).bind fun t103 => (if t102.size + t103.size ≤ 9223372036854775807 then ((impl_putInt.f k a0_3).bind fun t104 => (if t102.size + t103.size + t104.size ≤ 9223372036854775807 then ((impl_putInt.f k (l0_0.length : Int)).bind fun t105 => (if t102.size + t103.size + t104.size + t105.size ≤ 9223372036854775807 then (impl_Version_text.l0 k (((t102 ++ t103) ++ t104) ++ t105) l0_0 (l0_0.length : Int) 0) else (none))) else (none))) else (none)))) = some r := h
  clear h
  replace H := Option.bind_eq_some_iff.mp H
  obtain ⟨t102, A20, H⟩ := H
  replace H : ((impl_putInt.f k a0_2).bind fun t103 => (if t102.size + t103.size ≤ 9223372036854775807 then ((impl_putInt.f k a0_3).bind fun t104 => (if t102.size + t103.size + t104.size ≤ 9223372036854775807 then ((impl_putInt.f k (l0_0.length : Int)).bind fun t105 => (if t102.size + t103.size + t104.size + t105.size ≤ 9223372036854775807 then (impl_Version_text.l0 k (((t102 ++ t103) ++ t104) ++ t105) l0_0 (l0_0.length : Int) 0) else (none))) else (none))) else (none))) = some r := H
  have A2 := Aside0.mk A20
  clear A20
  replace H := Option.bind_eq_some_iff.mp H
  obtain ⟨t103, A30, H⟩ := H
  replace H : (if t102.size + t103.size ≤ 9223372036854775807 then ((impl_putInt.f k a0_3).bind fun t104 => (if t102.size + t103.size + t104.size ≤ 9223372036854775807 then ((impl_putInt.f k (l0_0.length : Int)).bind fun t105 => (if t102.size + t103.size + t104.size + t105.size ≤ 9223372036854775807 then (impl_Version_text.l0 k (((t102 ++ t103) ++ t104) ++ t105) l0_0 (l0_0.length : Int) 0) else (none))) else (none))) else (none)) = some r := H
  have A3 := Aside0.mk A30
  clear A30
  by_cases c4 : t102.size + t103.size ≤ 9223372036854775807
  · rw [if_pos c4] at H
    have c4b0 := eq_true c4
    have c4b1 : decide (t102.size + t103.size ≤ 9223372036854775807) = true := decide_eq_true c4
    try have c4b2 : (9223372036854775807 < t102.size + t103.size) = False := eq_false (Nat.not_lt.2 c4)
    replace H := Option.bind_eq_some_iff.mp H
    obtain ⟨t104, A50, H⟩ := H
    replace H : (if t102.size + t103.size + t104.size ≤ 9223372036854775807 then ((impl_putInt.f k (l0_0.length : Int)).bind fun t105 => (if t102.size + t103.size + t104.size + t105.size ≤ 9223372036854775807 then (impl_Version_text.l0 k (((t102 ++ t103) ++ t104) ++ t105) l0_0 (l0_0.length : Int) 0) else (none))) else (none)) = some r := H
    have A5 := Aside0.mk A50
    clear A50
    by_cases c6 : t102.size + t103.size + t104.size ≤ 9223372036854775807
    · rw [if_pos c6] at H
      have c6b0 := eq_true c6
      have c6b1 : decide (t102.size + t103.size + t104.size ≤ 9223372036854775807) = true := decide_eq_true c6
      try have c6b2 : (9223372036854775807 < t102.size + t103.size + t104.size) = False := eq_false (Nat.not_lt.2 c6)
      replace H := Option.bind_eq_some_iff.mp H
      obtain ⟨t105, A70, H⟩ := H
      replace H : (if t102.size + t103.size + t104.size + t105.size ≤ 9223372036854775807 then (impl_Version_text.l0 k (((t102 ++ t103) ++ t104) ++ t105) l0_0 (l0_0.length : Int) 0) else (none)) = some r := H
      have A7 := Aside0.mk A70
      clear A70
      by_cases c8 : t102.size + t103.size + t104.size + t105.size ≤ 9223372036854775807
      · rw [if_pos c8] at H
        have c8b0 := eq_true c8
        have c8b1 : decide (t102.size + t103.size + t104.size + t105.size ≤ 9223372036854775807) = true := decide_eq_true c8
        try have c8b2 : (9223372036854775807 < t102.size + t103.size + t104.size + t105.size) = False := eq_false (Nat.not_lt.2 c8)
        have H' := Aside0.mk H
        clear H
        go_enter Try.func79, Try.ntmps79
        try go_wp2_with (first | ((with_reducible refine gate_dst (N := 1) rfl ?_); refine box_event ?hg (N := 1) ?hd (cs := #[.slice A0_0 l0_0.length c0_0, .int .i64 a0_1, .int .i64 a0_2, .int .i64 a0_3]) (t := 32) ?hr ?_; (case hd => rfl); (case hg => rfl); (case hr => first | (go_simp; done) | (go_simp; rfl)); intro gb101 hg w9 hbox hb; have n0_ := Aside0.mk (below_step (by repeat (first | (with_reducible first | exact HB.out | apply below_alloc | apply pw_below_drewN | apply below_drew1) | exact HB.out)) hb); have n1_ := Aside0.mk (hbox); have n2_ := Aside0.mk ((by rw [hg]; exact (below_size (by repeat (first | (with_reducible first | exact HB.out | apply below_alloc | apply pw_below_drewN | apply below_drew1) | exact HB.out))) : w.heap.size ≤ gb101)); have n3_ := Aside0.mk ((by rw [hg]; exact (below_size (by repeat (first | (with_reducible first | exact HB.out | apply below_alloc | apply pw_below_drewN | apply below_drew1) | exact HB.out))) : w.heap.size ≤ gb101)); clear HB; have HB := n0_; have BK101 := n1_; have GW101 := n2_; have GE101 := n3_; clear n0_ n1_ n2_ n3_; clear hb hbox hg))
        have n0_ := Aside0.mk (blk_drew BK101.out)
        have n1_ := Aside0.mk (below_drew1 HB.out)
        clear BK101
        clear HB
        have BK101 := n0_
        have HB := n1_
        clear n0_ n1_
        refine start_ (n := 17) (S := fun w' => w'.cell? ⟨gb101, 0, none⟩ = some (.slice A0_0 l0_0.length c0_0) ∧ w'.cell? ⟨gb101, 1, none⟩ = some (.int .i64 a0_1) ∧ w'.cell? ⟨gb101, 2, none⟩ = some (.int .i64 a0_2) ∧ w'.cell? ⟨gb101, 3, none⟩ = some (.int .i64 a0_3)) (ds := []) #[false, false, false, false, false, false, false, false, false, false, false, false, false, false, false, false, false] (by kernel_rfl) rfl rfl ⟨(blk_cell BK101.out 0).trans rfl, (blk_cell BK101.out 1).trans rfl, (blk_cell BK101.out 2).trans rfl, (blk_cell BK101.out 3).trans rfl⟩ (fun hHeld => ?_); refine with_tabW impl_Version_text.tab1 impl_Version_text.bits1 (fun HT_ HW_ => ?_)
        generalize w9.drew = w10 at BK101 HB hHeld ⊢
        refine pure_ (i := 0) (N := some 6) (v := ?_) (a' := ?_) #[true, false, false, false, false, false, false, false, false, false, false, false, false, false, false, false, false] rfl rfl (any_of HT_.out (by kernel_rfl)) (fun _ _ _ h => h) (Or.inl ⟨by rfl, ?_⟩) ?_ ?_
        rotate_left
        · intro w'
          go_simp
          with_reducible rfl
        rotate_left
        · simp only [Act.put, List.setIfInBounds_toArray, List.set_cons_zero, List.set_cons_succ, i64_w, i32_w]
          rfl
        refine pure_ (i := 3) (N := some 9) (v := ?_) (a' := ?_) #[true, false, false, true, false, false, false, false, false, false, false, false, false, false, false, false, false] rfl rfl (any_of HT_.out (by kernel_rfl)) (fun _ _ _ h => h) (Or.inl ⟨by rfl, ?_⟩) ?_ ?_
        rotate_left
        · intro w'
          go_simp
          with_reducible rfl
        rotate_left
        · simp only [Act.put, List.setIfInBounds_toArray, List.set_cons_zero, List.set_cons_succ, i64_w, i32_w]
          rfl
        refine pure_ (i := 7) (N := some 13) (v := ?_) (a' := ?_) #[true, false, false, true, false, false, false, true, false, false, false, false, false, false, false, false, false] rfl rfl (any_of HT_.out (by kernel_rfl)) (fun _ _ _ h => h) (Or.inl ⟨by rfl, ?_⟩) ?_ ?_
        rotate_left
        · intro w'
          go_simp
          with_reducible rfl
        rotate_left
        · simp only [Act.put, List.setIfInBounds_toArray, List.set_cons_zero, List.set_cons_succ, i64_w, i32_w]
          rfl
        refine pure_ (i := 11) (N := some 17) (v := ?_) (a' := ?_) #[true, false, false, true, false, false, false, true, false, false, false, true, false, false, false, false, false] rfl rfl (any_of HT_.out (by kernel_rfl)) (fun _ _ _ h => h) (Or.inl ⟨by rfl, ?_⟩) ?_ ?_
        rotate_left
        · intro w'
          go_simp
          with_reducible rfl
        rotate_left
        · simp only [Act.put, List.setIfInBounds_toArray, List.set_cons_zero, List.set_cons_succ, i64_w, i32_w]
          rfl
        refine take_ (i := 1) (N := some 7) (v := ?_) (a' := ?_) #[true, true, false, true, false, false, false, true, false, false, false, true, false, false, false, false, false] rfl rfl (take_ofW HT_.out HW_.out (by kernel_rfl)) (fun _ _ _ h => h) (Or.inl ⟨by rfl, ?_⟩) hHeld ?_ ?_
        rotate_left
        · rintro w' ⟨s0, s1, s2, s3⟩
          go_simp
          with_reducible rfl
        rotate_left
        · simp only [Act.put, List.setIfInBounds_toArray, List.set_cons_zero, List.set_cons_succ, i64_w, i32_w]
          rfl
        refine take_ (i := 4) (N := some 10) (v := ?_) (a' := ?_) #[true, true, false, true, true, false, false, true, false, false, false, true, false, false, false, false, false] rfl rfl (take_ofW HT_.out HW_.out (by kernel_rfl)) (fun _ _ _ h => h) (Or.inl ⟨by rfl, ?_⟩) hHeld ?_ ?_
        rotate_left
        · rintro w' ⟨s0, s1, s2, s3⟩
          go_simp
          with_reducible rfl
        rotate_left
        · simp only [Act.put, List.setIfInBounds_toArray, List.set_cons_zero, List.set_cons_succ, i64_w, i32_w]
          rfl
        refine take_ (i := 8) (N := some 14) (v := ?_) (a' := ?_) #[true, true, false, true, true, false, false, true, true, false, false, true, false, false, false, false, false] rfl rfl (take_ofW HT_.out HW_.out (by kernel_rfl)) (fun _ _ _ h => h) (Or.inl ⟨by rfl, ?_⟩) hHeld ?_ ?_
        rotate_left
        · rintro w' ⟨s0, s1, s2, s3⟩
          go_simp
          with_reducible rfl
        rotate_left
        · simp only [Act.put, List.setIfInBounds_toArray, List.set_cons_zero, List.set_cons_succ, i64_w, i32_w]
          rfl
        refine take_ (i := 12) (N := some 18) (v := ?_) (a' := ?_) #[true, true, false, true, true, false, false, true, true, false, false, true, true, false, false, false, false] rfl rfl (take_ofW HT_.out HW_.out (by kernel_rfl)) (fun _ _ _ h => h) (Or.inl ⟨by rfl, ?_⟩) hHeld ?_ ?_
        rotate_left
        · rintro w' ⟨s0, s1, s2, s3⟩
          go_simp
          with_reducible rfl
        rotate_left
        · simp only [Act.put, List.setIfInBounds_toArray, List.set_cons_zero, List.set_cons_succ, i64_w, i32_w]
          rfl
        refine pure_ (i := 13) (N := some 19) (v := ?_) (a' := ?_) #[true, true, false, true, true, false, false, true, true, false, false, true, true, true, false, false, false] rfl rfl (any_of HT_.out (by kernel_rfl)) (fun _ _ _ h => h) (Or.inl ⟨by rfl, ?_⟩) ?_ ?_
        rotate_left
        · intro w'
          go_simp
          with_reducible rfl
        rotate_left
        · simp only [Act.put, List.setIfInBounds_toArray, List.set_cons_zero, List.set_cons_succ, i64_w, i32_w]
          rfl
        refine one_ (i := 2) (N := some 8) #[true, true, true, true, true, false, false, true, true, false, false, true, true, true, false, false, false] rfl rfl (one_of HT_.out (by kernel_rfl)) (by decide) (fun K hK => ?_)
        refine goes_ Try.func106 (by kernel_rfl) rfl #[.int .i64 a0_1] (by rfl) rfl rfl (by (try simp only [List.map_toArray, List.map_cons, List.map_nil]); first | done | rfl | (simp only [List.length_drop, List.length_take]; rfl) | (rw [IntWalk.u64_in _ (by omega)] <;> rfl)) ?_
        with_reducible refine (impl_putInt.calls k a0_1 t102 _ A2.out).mono ?_
        rintro e w11 ⟨rfl, hb⟩
        refine ⟨_, rfl, ?_⟩
        have n0_ := Aside0.mk (blk_below (g := gb101) (o := .cells #[.slice A0_0 l0_0.length c0_0, .int .i64 a0_1, .int .i64 a0_2, .int .i64 a0_3] 32 (0, 0)) (by (with_reducible repeat (first | refine blk_drewN ?_ _ | refine blk_drew ?_ | refine blk_alloc ?_ _)); exact BK101.out) hb)
        have n1_ := Aside0.mk (below_step (by repeat (first | (with_reducible first | exact HB.out | apply below_alloc | apply pw_below_drewN | apply below_drew1 | refine below_set ?_ GE101.out) | exact HB.out)) hb)
        clear BK101
        clear HB
        have BK101 := n0_
        have HB := n1_
        clear n0_ n1_
        (try clear hb)
        (try clear hb2)
        (try clear hk)
        (try clear hi)
        refine hK.out _ _ ⟨(blk_cell BK101.out 0).trans rfl, (blk_cell BK101.out 1).trans rfl, (blk_cell BK101.out 2).trans rfl, (blk_cell BK101.out 3).trans rfl⟩ (fun hHeld => ?_)
        clear hK K
        refine norm_ (a' := ?_) ?_ ?_
        rotate_left
        · show Act.put _ (some 8) _ = _
          simp only [Act.put, List.setIfInBounds_toArray, List.set_cons_zero, List.set_cons_succ, i64_w, i32_w]
          rfl
        refine one_ (i := 5) (N := some 11) #[true, true, true, true, true, true, false, true, true, false, false, true, true, true, false, false, false] rfl rfl (one_of HT_.out (by kernel_rfl)) (by decide) (fun K hK => ?_)
        refine goes_ Try.func106 (by kernel_rfl) rfl #[.int .i64 a0_2] (by rfl) rfl rfl (by (try simp only [List.map_toArray, List.map_cons, List.map_nil]); first | done | rfl | (simp only [List.length_drop, List.length_take]; rfl) | (rw [IntWalk.u64_in _ (by omega)] <;> rfl)) ?_
        with_reducible refine (impl_putInt.calls k a0_2 t103 _ A3.out).mono ?_
        rintro e w12 ⟨rfl, hb⟩
        refine ⟨_, rfl, ?_⟩
        have n0_ := Aside0.mk (blk_below (g := gb101) (o := .cells #[.slice A0_0 l0_0.length c0_0, .int .i64 a0_1, .int .i64 a0_2, .int .i64 a0_3] 32 (0, 0)) (by (with_reducible repeat (first | refine blk_drewN ?_ _ | refine blk_drew ?_ | refine blk_alloc ?_ _)); exact BK101.out) hb)
        have n1_ := Aside0.mk (below_step (by repeat (first | (with_reducible first | exact HB.out | apply below_alloc | apply pw_below_drewN | apply below_drew1 | refine below_set ?_ GE101.out) | exact HB.out)) hb)
        clear BK101
        clear HB
        have BK101 := n0_
        have HB := n1_
        clear n0_ n1_
        (try clear hb)
        (try clear hb2)
        (try clear hk)
        (try clear hi)
        refine hK.out _ _ ⟨(blk_cell BK101.out 0).trans rfl, (blk_cell BK101.out 1).trans rfl, (blk_cell BK101.out 2).trans rfl, (blk_cell BK101.out 3).trans rfl⟩ (fun hHeld => ?_)
        clear hK K
        refine norm_ (a' := ?_) ?_ ?_
        rotate_left
        · show Act.put _ (some 11) _ = _
          simp only [Act.put, List.setIfInBounds_toArray, List.set_cons_zero, List.set_cons_succ, i64_w, i32_w]
          rfl
        refine pure_ (i := 6) (N := some 12) (v := ?_) (a' := ?_) #[true, true, true, true, true, true, true, true, true, false, false, true, true, true, false, false, false] rfl rfl (any_of HT_.out (by kernel_rfl)) (fun _ _ _ h => h) (Or.inl ⟨by rfl, ?_⟩) ?_ ?_
        rotate_left
        · intro w'
          go_simp
          with_reducible rfl
        rotate_left
        · simp only [Act.put, List.setIfInBounds_toArray, List.set_cons_zero, List.set_cons_succ, i64_w, i32_w]
          rfl
        refine one_ (i := 9) (N := some 15) #[true, true, true, true, true, true, true, true, true, true, false, true, true, true, false, false, false] rfl rfl (one_of HT_.out (by kernel_rfl)) (by decide) (fun K hK => ?_)
        refine goes_ Try.func106 (by kernel_rfl) rfl #[.int .i64 a0_3] (by rfl) rfl rfl (by (try simp only [List.map_toArray, List.map_cons, List.map_nil]); first | done | rfl | (simp only [List.length_drop, List.length_take]; rfl) | (rw [IntWalk.u64_in _ (by omega)] <;> rfl)) ?_
        with_reducible refine (impl_putInt.calls k a0_3 t104 _ A5.out).mono ?_
        rintro e w13 ⟨rfl, hb⟩
        refine ⟨_, rfl, ?_⟩
        have n0_ := Aside0.mk (blk_below (g := gb101) (o := .cells #[.slice A0_0 l0_0.length c0_0, .int .i64 a0_1, .int .i64 a0_2, .int .i64 a0_3] 32 (0, 0)) (by (with_reducible repeat (first | refine blk_drewN ?_ _ | refine blk_drew ?_ | refine blk_alloc ?_ _)); exact BK101.out) hb)
        have n1_ := Aside0.mk (below_step (by repeat (first | (with_reducible first | exact HB.out | apply below_alloc | apply pw_below_drewN | apply below_drew1 | refine below_set ?_ GE101.out) | exact HB.out)) hb)
        clear BK101
        clear HB
        have BK101 := n0_
        have HB := n1_
        clear n0_ n1_
        (try clear hb)
        (try clear hb2)
        (try clear hk)
        (try clear hi)
        refine hK.out _ _ ⟨(blk_cell BK101.out 0).trans rfl, (blk_cell BK101.out 1).trans rfl, (blk_cell BK101.out 2).trans rfl, (blk_cell BK101.out 3).trans rfl⟩ (fun hHeld => ?_)
        clear hK K
        refine norm_ (a' := ?_) ?_ ?_
        rotate_left
        · show Act.put _ (some 15) _ = _
          simp only [Act.put, List.setIfInBounds_toArray, List.set_cons_zero, List.set_cons_succ, i64_w, i32_w]
          rfl
        refine pure_ (i := 10) (N := some 16) (v := ?_) (a' := ?_) #[true, true, true, true, true, true, true, true, true, true, true, true, true, true, false, false, false] rfl rfl (any_of HT_.out (by kernel_rfl)) (fun _ _ _ h => h) (Or.inl ⟨by rfl, ?_⟩) ?_ ?_
        rotate_left
        · intro w'
          go_simp
          with_reducible rfl
        rotate_left
        · simp only [Act.put, List.setIfInBounds_toArray, List.set_cons_zero, List.set_cons_succ, i64_w, i32_w]
          rfl
        refine one_ (i := 14) (N := some 20) #[true, true, true, true, true, true, true, true, true, true, true, true, true, true, true, false, false] rfl rfl (one_of HT_.out (by kernel_rfl)) (by decide) (fun K hK => ?_)
        refine goes_ Try.func106 (by kernel_rfl) rfl #[.int .i64 (l0_0.length : Int)] (by rfl) rfl rfl (by (try simp only [List.map_toArray, List.map_cons, List.map_nil]); first | done | rfl | (simp only [List.length_drop, List.length_take]; rfl) | (rw [IntWalk.u64_in _ (by omega)] <;> rfl)) ?_
        with_reducible refine (impl_putInt.calls k (l0_0.length : Int) t105 _ A7.out).mono ?_
        rintro e w14 ⟨rfl, hb⟩
        refine ⟨_, rfl, ?_⟩
        have n0_ := Aside0.mk (blk_below (g := gb101) (o := .cells #[.slice A0_0 l0_0.length c0_0, .int .i64 a0_1, .int .i64 a0_2, .int .i64 a0_3] 32 (0, 0)) (by (with_reducible repeat (first | refine blk_drewN ?_ _ | refine blk_drew ?_ | refine blk_alloc ?_ _)); exact BK101.out) hb)
        have n1_ := Aside0.mk (below_step (by repeat (first | (with_reducible first | exact HB.out | apply below_alloc | apply pw_below_drewN | apply below_drew1 | refine below_set ?_ GE101.out) | exact HB.out)) hb)
        clear BK101
        clear HB
        have BK101 := n0_
        have HB := n1_
        clear n0_ n1_
        (try clear hb)
        (try clear hb2)
        (try clear hk)
        (try clear hi)
        refine hK.out _ _ ⟨(blk_cell BK101.out 0).trans rfl, (blk_cell BK101.out 1).trans rfl, (blk_cell BK101.out 2).trans rfl, (blk_cell BK101.out 3).trans rfl⟩ (fun hHeld => ?_)
        clear hK K
        refine norm_ (a' := ?_) ?_ ?_
        rotate_left
        · show Act.put _ (some 20) _ = _
          simp only [Act.put, List.setIfInBounds_toArray, List.set_cons_zero, List.set_cons_succ, i64_w, i32_w]
          rfl
        refine pure_ (i := 15) (N := some 21) (v := ?_) (a' := ?_) #[true, true, true, true, true, true, true, true, true, true, true, true, true, true, true, true, false] rfl rfl (any_of HT_.out (by kernel_rfl)) (fun _ _ _ h => h) (Or.inl ⟨by rfl, ?_⟩) ?_ ?_
        rotate_left
        · intro w'
          go_simp
          with_reducible rfl
        rotate_left
        · simp only [Act.put, List.setIfInBounds_toArray, List.set_cons_zero, List.set_cons_succ, i64_w, i32_w]
          rfl
        refine pure_ (i := 16) (N := some 3) (v := ?_) (a' := ?_) #[true, true, true, true, true, true, true, true, true, true, true, true, true, true, true, true, true] rfl rfl (any_of HT_.out (by kernel_rfl)) (fun _ _ _ h => h) (Or.inl ⟨by rfl, ?_⟩) ?_ ?_
        rotate_left
        · intro w'
          go_simp
          with_reducible rfl
        rotate_left
        · simp only [Act.put, List.setIfInBounds_toArray, List.set_cons_zero, List.set_cons_succ, i64_w, i32_w]
          rfl
        refine done_ (done_of HT_.out (by kernel_rfl)) ?_
        have hcz15_0 : w14.cell? ⟨gb101, 0, none⟩ = some (.slice A0_0 l0_0.length c0_0) := (blk_cell BK101.out 0).trans rfl
        have hcz15_1 : w14.cell? ⟨gb101, 1, none⟩ = some (.int .i64 a0_1) := (blk_cell BK101.out 1).trans rfl
        have hcz15_2 : w14.cell? ⟨gb101, 2, none⟩ = some (.int .i64 a0_2) := (blk_cell BK101.out 2).trans rfl
        have hcz15_3 : w14.cell? ⟨gb101, 3, none⟩ = some (.int .i64 a0_3) := (blk_cell BK101.out 3).trans rfl
        have hfz15_0 := blk_frozen BK101.out 0
        have hfz15_1 := blk_frozen BK101.out 1
        have hfz15_2 := blk_frozen BK101.out 2
        have hfz15_3 := blk_frozen BK101.out 3
        try go_wp2
        go_loopg [3, 25] k (fun kq v3 v25 w' => ∃ (x3_1 : ByteArray) (x25_1 : Int), v3 = .string x3_1 ∧ v25 = .int .i64 x25_1 ∧ Aside0 (impl_Version_text.l0 kq x3_1 l0_0 (l0_0.length : Int) x25_1 = some r) ∧ Aside0 (kq ≤ k) ∧ Aside0 (w'.heap[gb101]? = some (.cells #[(.slice A0_0 l0_0.length c0_0), .int .i64 a0_1, .int .i64 a0_2, .int .i64 a0_3] 32 (0, 0))) ∧ Aside0 (Below w.heap.size w w'))
        case atStart => exact ⟨(((t102 ++ t103) ++ t104) ++ t105), (0), (by first | rfl | (simp; done) | (simp [*]; done)), (by first | rfl | (simp; done) | (simp [*]; done)), H', ⟨Nat.le_refl _⟩, ⟨by (with_reducible repeat (first | refine blk_drewN ?_ _ | refine blk_drew ?_ | refine blk_alloc ?_ _)); exact BK101.out⟩, ⟨by repeat (first | (with_reducible first | exact HB.out | apply below_alloc | apply pw_below_drewN | apply below_drew1 | refine below_set ?_ GE101.out) | exact HB.out)⟩⟩
        case round =>
          clear H'
          try clear c1
          try clear p2
          try clear c4
          try clear c4b0
          try clear c4b1
          try clear c4b2
          try clear c6
          try clear c6b0
          try clear c6b1
          try clear c6b2
          try clear c7
          try clear c8
          try clear c8b0
          try clear c8b1
          try clear c8b2
          try clear c10
          try clear hcz15_0
          try clear hcz15_1
          try clear hcz15_2
          try clear hcz15_3
          try clear hfz15_0
          try clear hfz15_1
          try clear hfz15_2
          try clear hfz15_3
          obtain ⟨x3_1, x25_1, rfl, rfl, HA, HK1, BK101, HB⟩ := hrel
          cases gk with
          | zero => exact absurd HA.out (by simp [impl_Version_text.l0])
          | succ k1 =>
            have H := HA.out
            clear HA
            simp only [impl_Version_text.l0] at H
            by_cases c16 : x25_1 < (l0_0.length : Int)
            · rw [if_pos c16] at H
              have c16b0 : decide (x25_1 < (l0_0.length : Int)) = true := decide_eq_true c16
              clear c16
              by_cases c17 : 0 ≤ x25_1
              · rw [if_pos c17] at H
                have c17b0 : decide (0 ≤ x25_1) = true := decide_eq_true c17
                clear c17
                by_cases c18 : x25_1 < (l0_0.length : Int)
                · rw [if_pos c18] at H
                  have c18b0 : decide (x25_1 < (l0_0.length : Int)) = true := decide_eq_true c18
                  clear c18
                  replace H := Option.bind_eq_some_iff.mp H
                  obtain ⟨t109, A190, H⟩ := H
                  replace H : ((impl_putInt.f k1 ((rd_T66 l0_0 x25_1).f1)).bind fun t110 => (if t109.size + t110.size ≤ 9223372036854775807 then ((impl_PutText.f k1 ((rd_T66 l0_0 x25_1).f2)).bind fun t111 => (if t109.size + t110.size + t111.size ≤ 9223372036854775807 then ((impl_PutText.f k1 ((rd_T66 l0_0 x25_1).f3)).bind fun t112 => (if t109.size + t110.size + t111.size + t112.size ≤ 9223372036854775807 then ((impl_putInt.f k1 ((rd_T66 l0_0 x25_1).f4)).bind fun t113 => (if t109.size + t110.size + t111.size + t112.size + t113.size ≤ 9223372036854775807 then (if x3_1.size + (t109.size + t110.size + t111.size + t112.size + t113.size) ≤ 9223372036854775807 then (impl_Version_text.l0 k1 (x3_1 ++ ((((t109 ++ t110) ++ t111) ++ t112) ++ t113)) l0_0 (l0_0.length : Int) (wrap64 (x25_1 + 1))) else (none)) else (none))) else (none))) else (none))) else (none))) = some r := H
                  have A19 := Aside0.mk A190
                  clear A190
                  replace H := Option.bind_eq_some_iff.mp H
                  obtain ⟨t110, A200, H⟩ := H
                  replace H : (if t109.size + t110.size ≤ 9223372036854775807 then ((impl_PutText.f k1 ((rd_T66 l0_0 x25_1).f2)).bind fun t111 => (if t109.size + t110.size + t111.size ≤ 9223372036854775807 then ((impl_PutText.f k1 ((rd_T66 l0_0 x25_1).f3)).bind fun t112 => (if t109.size + t110.size + t111.size + t112.size ≤ 9223372036854775807 then ((impl_putInt.f k1 ((rd_T66 l0_0 x25_1).f4)).bind fun t113 => (if t109.size + t110.size + t111.size + t112.size + t113.size ≤ 9223372036854775807 then (if x3_1.size + (t109.size + t110.size + t111.size + t112.size + t113.size) ≤ 9223372036854775807 then (impl_Version_text.l0 k1 (x3_1 ++ ((((t109 ++ t110) ++ t111) ++ t112) ++ t113)) l0_0 (l0_0.length : Int) (wrap64 (x25_1 + 1))) else (none)) else (none))) else (none))) else (none))) else (none)) = some r := H
                  have A20 := Aside0.mk A200
                  clear A200
                  by_cases c21 : t109.size + t110.size ≤ 9223372036854775807
                  · rw [if_pos c21] at H
                    have c21b0 := eq_true c21
                    have c21b1 : decide (t109.size + t110.size ≤ 9223372036854775807) = true := decide_eq_true c21
                    try have c21b2 : (9223372036854775807 < t109.size + t110.size) = False := eq_false (Nat.not_lt.2 c21)
                    replace H := Option.bind_eq_some_iff.mp H
                    obtain ⟨t111, A220, H⟩ := H
                    replace H : (if t109.size + t110.size + t111.size ≤ 9223372036854775807 then ((impl_PutText.f k1 ((rd_T66 l0_0 x25_1).f3)).bind fun t112 => (if t109.size + t110.size + t111.size + t112.size ≤ 9223372036854775807 then ((impl_putInt.f k1 ((rd_T66 l0_0 x25_1).f4)).bind fun t113 => (if t109.size + t110.size + t111.size + t112.size + t113.size ≤ 9223372036854775807 then (if x3_1.size + (t109.size + t110.size + t111.size + t112.size + t113.size) ≤ 9223372036854775807 then (impl_Version_text.l0 k1 (x3_1 ++ ((((t109 ++ t110) ++ t111) ++ t112) ++ t113)) l0_0 (l0_0.length : Int) (wrap64 (x25_1 + 1))) else (none)) else (none))) else (none))) else (none)) = some r := H
                    have A22 := Aside0.mk A220
                    clear A220
                    by_cases c23 : t109.size + t110.size + t111.size ≤ 9223372036854775807
                    · rw [if_pos c23] at H
                      have c23b0 := eq_true c23
                      have c23b1 : decide (t109.size + t110.size + t111.size ≤ 9223372036854775807) = true := decide_eq_true c23
                      try have c23b2 : (9223372036854775807 < t109.size + t110.size + t111.size) = False := eq_false (Nat.not_lt.2 c23)
                      replace H := Option.bind_eq_some_iff.mp H
                      obtain ⟨t112, A240, H⟩ := H
                      replace H : (if t109.size + t110.size + t111.size + t112.size ≤ 9223372036854775807 then ((impl_putInt.f k1 ((rd_T66 l0_0 x25_1).f4)).bind fun t113 => (if t109.size + t110.size + t111.size + t112.size + t113.size ≤ 9223372036854775807 then (if x3_1.size + (t109.size + t110.size + t111.size + t112.size + t113.size) ≤ 9223372036854775807 then (impl_Version_text.l0 k1 (x3_1 ++ ((((t109 ++ t110) ++ t111) ++ t112) ++ t113)) l0_0 (l0_0.length : Int) (wrap64 (x25_1 + 1))) else (none)) else (none))) else (none)) = some r := H
                      have A24 := Aside0.mk A240
                      clear A240
                      by_cases c25 : t109.size + t110.size + t111.size + t112.size ≤ 9223372036854775807
                      · rw [if_pos c25] at H
                        have c25b0 := eq_true c25
                        have c25b1 : decide (t109.size + t110.size + t111.size + t112.size ≤ 9223372036854775807) = true := decide_eq_true c25
                        try have c25b2 : (9223372036854775807 < t109.size + t110.size + t111.size + t112.size) = False := eq_false (Nat.not_lt.2 c25)
                        replace H := Option.bind_eq_some_iff.mp H
                        obtain ⟨t113, A260, H⟩ := H
                        replace H : (if t109.size + t110.size + t111.size + t112.size + t113.size ≤ 9223372036854775807 then (if x3_1.size + (t109.size + t110.size + t111.size + t112.size + t113.size) ≤ 9223372036854775807 then (impl_Version_text.l0 k1 (x3_1 ++ ((((t109 ++ t110) ++ t111) ++ t112) ++ t113)) l0_0 (l0_0.length : Int) (wrap64 (x25_1 + 1))) else (none)) else (none)) = some r := H
                        have A26 := Aside0.mk A260
                        clear A260
                        by_cases c27 : t109.size + t110.size + t111.size + t112.size + t113.size ≤ 9223372036854775807
                        · rw [if_pos c27] at H
                          have c27b0 := eq_true c27
                          have c27b1 : decide (t109.size + t110.size + t111.size + t112.size + t113.size ≤ 9223372036854775807) = true := decide_eq_true c27
                          try have c27b2 : (9223372036854775807 < t109.size + t110.size + t111.size + t112.size + t113.size) = False := eq_false (Nat.not_lt.2 c27)
                          by_cases c28 : x3_1.size + (t109.size + t110.size + t111.size + t112.size + t113.size) ≤ 9223372036854775807
                          · rw [if_pos c28] at H
                            have c28b0 := eq_true c28
                            have c28b1 : decide (x3_1.size + (t109.size + t110.size + t111.size + t112.size + t113.size) ≤ 9223372036854775807) = true := decide_eq_true c28
                            try have c28b2 : (9223372036854775807 < x3_1.size + (t109.size + t110.size + t111.size + t112.size + t113.size)) = False := eq_false (Nat.not_lt.2 c28)
                            have H' := Aside0.mk H
                            clear H
                            have p107 : 0 ≤ (x25_1 : Int) := of_decide_eq_true (by first | (with_reducible assumption) | assumption)
                            have q107 : x25_1 < (l0_0.length : Int) := of_decide_eq_true (by first | (with_reducible assumption) | assumption)
                            obtain ⟨ad107, e107, hx107_0, hx107_1, hx107_2, hx107_3, hx107_4⟩ := at_T66 HR0_0.out x25_1 p107 q107
                            cases e107
                            replace hx107_0 := (HB.out.cell (World.block_lt_of_cell? w _ hx107_0)).trans hx107_0
                            replace hx107_1 := (HB.out.cell (World.block_lt_of_cell? w _ hx107_1)).trans hx107_1
                            replace hx107_2 := (HB.out.cell (World.block_lt_of_cell? w _ hx107_2)).trans hx107_2
                            replace hx107_3 := (HB.out.cell (World.block_lt_of_cell? w _ hx107_3)).trans hx107_3
                            replace hx107_4 := (HB.out.cell (World.block_lt_of_cell? w _ hx107_4)).trans hx107_4
                            replace p107 := eq_true p107
                            replace q107 := eq_true q107
                            try go_wp2_with (first | ((with_reducible refine gate_dst (N := 5) rfl ?_); refine box_event ?hg (N := 5) ?hd (cs := #[.int .i64 0, .int .i64 0, .string (⟨#[]⟩ : ByteArray), .string (⟨#[]⟩ : ByteArray), .int .i64 0]) (t := 66) ?hr ?_; (case hd => rfl); (case hg => rfl); (case hr => first | (go_simp; done) | (go_simp; rfl)); intro gb108 hg w29 hbox hb; have n0_ := Aside0.mk (blk_below (g := gb101) (o := .cells #[.slice (some ad107) l0_0.length c0_0, .int .i64 a0_1, .int .i64 a0_2, .int .i64 a0_3] 32 (0, 0)) (by (with_reducible repeat (first | refine blk_drewN ?_ _ | refine blk_drew ?_ | refine blk_alloc ?_ _)); exact BK101.out) hb); have n1_ := Aside0.mk (below_step (by repeat (first | (with_reducible first | exact HB.out | apply below_alloc | apply pw_below_drewN | apply below_drew1 | refine below_set ?_ GE101.out) | exact HB.out)) hb); have n2_ := Aside0.mk (hbox); have n3_ := Aside0.mk ((by rw [hg]; exact (below_size (by repeat (first | (with_reducible first | exact HB.out | apply below_alloc | apply pw_below_drewN | apply below_drew1 | refine below_set ?_ GE101.out) | exact HB.out))) : w.heap.size ≤ gb108)); have n4_ := Aside0.mk ((by rw [hg]; exact (below_size (by repeat (first | (with_reducible first | exact HB.out | apply below_alloc | apply pw_below_drewN | apply below_drew1 | refine below_set ?_ GE101.out) | exact HB.out))) : w.heap.size ≤ gb108)); have n5_ := Aside0.mk ((by rw [hg]; exact Nat.ne_of_lt (blk_lt (g := gb101) (o := .cells #[.slice (some ad107) l0_0.length c0_0, .int .i64 a0_1, .int .i64 a0_2, .int .i64 a0_3] 32 (0, 0)) (by (with_reducible repeat (first | refine blk_drewN ?_ _ | refine blk_drew ?_ | refine blk_alloc ?_ _)); exact BK101.out)) : gb101 ≠ gb108)); have n6_ := Aside0.mk ((by rw [hg]; exact Nat.ne_of_gt (blk_lt (g := gb101) (o := .cells #[.slice (some ad107) l0_0.length c0_0, .int .i64 a0_1, .int .i64 a0_2, .int .i64 a0_3] 32 (0, 0)) (by (with_reducible repeat (first | refine blk_drewN ?_ _ | refine blk_drew ?_ | refine blk_alloc ?_ _)); exact BK101.out)) : gb108 ≠ gb101)); clear BK101; clear HB; have BK101 := n0_; have HB := n1_; have BK108 := n2_; have GW108 := n3_; have GE108 := n4_; have NB101_108 := n5_; have NB108_101 := n6_; clear n0_ n1_ n2_ n3_ n4_ n5_ n6_; clear hb hbox hg; have hnb30 := NB108_101.out; have hnc30 := NB101_108.out; have hcz31_0 : w29.cell? ⟨gb108, 0, none⟩ = some (.int .i64 0) := (blk_cell BK108.out 0).trans rfl; have hcz31_1 : w29.cell? ⟨gb108, 1, none⟩ = some (.int .i64 0) := (blk_cell BK108.out 1).trans rfl; have hcz31_2 : w29.cell? ⟨gb108, 2, none⟩ = some (.string (⟨#[]⟩ : ByteArray)) := (blk_cell BK108.out 2).trans rfl; have hcz31_3 : w29.cell? ⟨gb108, 3, none⟩ = some (.string (⟨#[]⟩ : ByteArray)) := (blk_cell BK108.out 3).trans rfl; have hcz31_4 : w29.cell? ⟨gb108, 4, none⟩ = some (.int .i64 0) := (blk_cell BK108.out 4).trans rfl; have hfz31_0 := blk_frozen BK108.out 0; have hfz31_1 := blk_frozen BK108.out 1; have hfz31_2 := blk_frozen BK108.out 2; have hfz31_3 := blk_frozen BK108.out 3; have hfz31_4 := blk_frozen BK108.out 4))
                            have n0_ : Aside0 ((((((w29.setCell ⟨gb108, 0, none⟩ (.int .i64 ((rd_T66 l0_0 x25_1).f0))).setCell ⟨gb108, 1, none⟩ (.int .i64 ((rd_T66 l0_0 x25_1).f1))).setCell ⟨gb108, 2, none⟩ (.string ((rd_T66 l0_0 x25_1).f2))).setCell ⟨gb108, 3, none⟩ (.string ((rd_T66 l0_0 x25_1).f3))).setCell ⟨gb108, 4, none⟩ (.int .i64 ((rd_T66 l0_0 x25_1).f4))).heap[gb101]? = some (.cells #[.slice (some ad107) l0_0.length c0_0, .int .i64 a0_1, .int .i64 a0_2, .int .i64 a0_3] 32 (0, 0))) := ⟨by (with_reducible repeat (first | refine blk_drewN ?_ _ | refine blk_drew ?_ | refine blk_alloc ?_ _)); refine blk_far ?_ NB101_108.out _; (with_reducible repeat (first | refine blk_drewN ?_ _ | refine blk_drew ?_ | refine blk_alloc ?_ _)); refine blk_far ?_ NB101_108.out _; (with_reducible repeat (first | refine blk_drewN ?_ _ | refine blk_drew ?_ | refine blk_alloc ?_ _)); refine blk_far ?_ NB101_108.out _; (with_reducible repeat (first | refine blk_drewN ?_ _ | refine blk_drew ?_ | refine blk_alloc ?_ _)); refine blk_far ?_ NB101_108.out _; (with_reducible repeat (first | refine blk_drewN ?_ _ | refine blk_drew ?_ | refine blk_alloc ?_ _)); refine blk_far ?_ NB101_108.out _; (with_reducible repeat (first | refine blk_drewN ?_ _ | refine blk_drew ?_ | refine blk_alloc ?_ _)); exact BK101.out⟩
                            have n1_ : Aside0 ((((((w29.setCell ⟨gb108, 0, none⟩ (.int .i64 ((rd_T66 l0_0 x25_1).f0))).setCell ⟨gb108, 1, none⟩ (.int .i64 ((rd_T66 l0_0 x25_1).f1))).setCell ⟨gb108, 2, none⟩ (.string ((rd_T66 l0_0 x25_1).f2))).setCell ⟨gb108, 3, none⟩ (.string ((rd_T66 l0_0 x25_1).f3))).setCell ⟨gb108, 4, none⟩ (.int .i64 ((rd_T66 l0_0 x25_1).f4))).heap[gb108]? = some (.cells #[.int .i64 ((rd_T66 l0_0 x25_1).f0), .int .i64 ((rd_T66 l0_0 x25_1).f1), .string ((rd_T66 l0_0 x25_1).f2), .string ((rd_T66 l0_0 x25_1).f3), .int .i64 ((rd_T66 l0_0 x25_1).f4)] 66 (0, 0))) := ⟨by (with_reducible repeat (first | refine blk_drewN ?_ _ | refine blk_drew ?_ | refine blk_alloc ?_ _)); refine blk_put (cs := #[.int .i64 ((rd_T66 l0_0 x25_1).f0), .int .i64 ((rd_T66 l0_0 x25_1).f1), .string ((rd_T66 l0_0 x25_1).f2), .string ((rd_T66 l0_0 x25_1).f3), .int .i64 0]) ?_ 4 _ rfl; (with_reducible repeat (first | refine blk_drewN ?_ _ | refine blk_drew ?_ | refine blk_alloc ?_ _)); refine blk_put (cs := #[.int .i64 ((rd_T66 l0_0 x25_1).f0), .int .i64 ((rd_T66 l0_0 x25_1).f1), .string ((rd_T66 l0_0 x25_1).f2), .string (⟨#[]⟩ : ByteArray), .int .i64 0]) ?_ 3 _ rfl; (with_reducible repeat (first | refine blk_drewN ?_ _ | refine blk_drew ?_ | refine blk_alloc ?_ _)); refine blk_put (cs := #[.int .i64 ((rd_T66 l0_0 x25_1).f0), .int .i64 ((rd_T66 l0_0 x25_1).f1), .string (⟨#[]⟩ : ByteArray), .string (⟨#[]⟩ : ByteArray), .int .i64 0]) ?_ 2 _ rfl; (with_reducible repeat (first | refine blk_drewN ?_ _ | refine blk_drew ?_ | refine blk_alloc ?_ _)); refine blk_put (cs := #[.int .i64 ((rd_T66 l0_0 x25_1).f0), .int .i64 0, .string (⟨#[]⟩ : ByteArray), .string (⟨#[]⟩ : ByteArray), .int .i64 0]) ?_ 1 _ rfl; (with_reducible repeat (first | refine blk_drewN ?_ _ | refine blk_drew ?_ | refine blk_alloc ?_ _)); refine blk_put (cs := #[.int .i64 0, .int .i64 0, .string (⟨#[]⟩ : ByteArray), .string (⟨#[]⟩ : ByteArray), .int .i64 0]) ?_ 0 _ rfl; (with_reducible repeat (first | refine blk_drewN ?_ _ | refine blk_drew ?_ | refine blk_alloc ?_ _)); exact BK108.out⟩
                            have n2_ : Aside0 (Below w.heap.size w (((((w29.setCell ⟨gb108, 0, none⟩ (.int .i64 ((rd_T66 l0_0 x25_1).f0))).setCell ⟨gb108, 1, none⟩ (.int .i64 ((rd_T66 l0_0 x25_1).f1))).setCell ⟨gb108, 2, none⟩ (.string ((rd_T66 l0_0 x25_1).f2))).setCell ⟨gb108, 3, none⟩ (.string ((rd_T66 l0_0 x25_1).f3))).setCell ⟨gb108, 4, none⟩ (.int .i64 ((rd_T66 l0_0 x25_1).f4)))) := ⟨by repeat (first | (with_reducible first | exact HB.out | apply below_alloc | apply pw_below_drewN | apply below_drew1 | refine below_set ?_ GE101.out | refine below_set ?_ GE108.out) | exact HB.out)⟩
                            (try clear BK101)
                            (try clear BK108)
                            (try clear HB)
                            generalize (((((w29.setCell ⟨gb108, 0, none⟩ (.int .i64 ((rd_T66 l0_0 x25_1).f0))).setCell ⟨gb108, 1, none⟩ (.int .i64 ((rd_T66 l0_0 x25_1).f1))).setCell ⟨gb108, 2, none⟩ (.string ((rd_T66 l0_0 x25_1).f2))).setCell ⟨gb108, 3, none⟩ (.string ((rd_T66 l0_0 x25_1).f3))).setCell ⟨gb108, 4, none⟩ (.int .i64 ((rd_T66 l0_0 x25_1).f4))) = w32 at n0_ n1_ n2_ ⊢
                            have BK101 := n0_
                            have BK108 := n1_
                            have HB := n2_
                            clear n0_ n1_ n2_
                            have n0_ := Aside0.mk (blk_drew BK101.out)
                            have n1_ := Aside0.mk (blk_drew BK108.out)
                            have n2_ := Aside0.mk (below_drew1 HB.out)
                            clear BK101
                            clear BK108
                            clear HB
                            have BK101 := n0_
                            have BK108 := n1_
                            have HB := n2_
                            clear n0_ n1_ n2_
                            refine start_ (n := 22) (S := fun w' => w'.cell? ⟨gb108, 0, none⟩ = some (.int .i64 ((rd_T66 l0_0 x25_1).f0)) ∧ w'.cell? ⟨gb108, 1, none⟩ = some (.int .i64 ((rd_T66 l0_0 x25_1).f1)) ∧ w'.cell? ⟨gb108, 2, none⟩ = some (.string ((rd_T66 l0_0 x25_1).f2)) ∧ w'.cell? ⟨gb108, 3, none⟩ = some (.string ((rd_T66 l0_0 x25_1).f3)) ∧ w'.cell? ⟨gb108, 4, none⟩ = some (.int .i64 ((rd_T66 l0_0 x25_1).f4))) (ds := []) #[false, false, false, false, false, false, false, false, false, false, false, false, false, false, false, false, false, false, false, false, false, false] (by kernel_rfl) rfl rfl ⟨(blk_cell BK108.out 0).trans rfl, (blk_cell BK108.out 1).trans rfl, (blk_cell BK108.out 2).trans rfl, (blk_cell BK108.out 3).trans rfl, (blk_cell BK108.out 4).trans rfl⟩ (fun hHeld => ?_); refine with_tabW impl_Version_text.tab5 impl_Version_text.bits5 (fun HT_ HW_ => ?_)
                            generalize w32.drew = w33 at BK101 BK108 HB hHeld ⊢
                            refine pure_ (i := 0) (N := some 29) (v := ?_) (a' := ?_) #[true, false, false, false, false, false, false, false, false, false, false, false, false, false, false, false, false, false, false, false, false, false] rfl rfl (any_of HT_.out (by kernel_rfl)) (fun _ _ _ h => h) (Or.inl ⟨by rfl, ?_⟩) ?_ ?_
                            rotate_left
                            · intro w'
                              go_simp
                              with_reducible rfl
                            rotate_left
                            · simp only [Act.put, List.setIfInBounds_toArray, List.set_cons_zero, List.set_cons_succ, i64_w, i32_w]
                              rfl
                            refine pure_ (i := 1) (N := some 30) (v := ?_) (a' := ?_) #[true, true, false, false, false, false, false, false, false, false, false, false, false, false, false, false, false, false, false, false, false, false] rfl rfl (any_of HT_.out (by kernel_rfl)) (fun _ _ _ h => h) (Or.inl ⟨by rfl, ?_⟩) ?_ ?_
                            rotate_left
                            · intro w'
                              go_simp
                              with_reducible rfl
                            rotate_left
                            · simp only [Act.put, List.setIfInBounds_toArray, List.set_cons_zero, List.set_cons_succ, i64_w, i32_w]
                              rfl
                            refine pure_ (i := 4) (N := some 33) (v := ?_) (a' := ?_) #[true, true, false, false, true, false, false, false, false, false, false, false, false, false, false, false, false, false, false, false, false, false] rfl rfl (any_of HT_.out (by kernel_rfl)) (fun _ _ _ h => h) (Or.inl ⟨by rfl, ?_⟩) ?_ ?_
                            rotate_left
                            · intro w'
                              go_simp
                              with_reducible rfl
                            rotate_left
                            · simp only [Act.put, List.setIfInBounds_toArray, List.set_cons_zero, List.set_cons_succ, i64_w, i32_w]
                              rfl
                            refine pure_ (i := 8) (N := some 37) (v := ?_) (a' := ?_) #[true, true, false, false, true, false, false, false, true, false, false, false, false, false, false, false, false, false, false, false, false, false] rfl rfl (any_of HT_.out (by kernel_rfl)) (fun _ _ _ h => h) (Or.inl ⟨by rfl, ?_⟩) ?_ ?_
                            rotate_left
                            · intro w'
                              go_simp
                              with_reducible rfl
                            rotate_left
                            · simp only [Act.put, List.setIfInBounds_toArray, List.set_cons_zero, List.set_cons_succ, i64_w, i32_w]
                              rfl
                            refine pure_ (i := 12) (N := some 41) (v := ?_) (a' := ?_) #[true, true, false, false, true, false, false, false, true, false, false, false, true, false, false, false, false, false, false, false, false, false] rfl rfl (any_of HT_.out (by kernel_rfl)) (fun _ _ _ h => h) (Or.inl ⟨by rfl, ?_⟩) ?_ ?_
                            rotate_left
                            · intro w'
                              go_simp
                              with_reducible rfl
                            rotate_left
                            · simp only [Act.put, List.setIfInBounds_toArray, List.set_cons_zero, List.set_cons_succ, i64_w, i32_w]
                              rfl
                            refine pure_ (i := 16) (N := some 45) (v := ?_) (a' := ?_) #[true, true, false, false, true, false, false, false, true, false, false, false, true, false, false, false, true, false, false, false, false, false] rfl rfl (any_of HT_.out (by kernel_rfl)) (fun _ _ _ h => h) (Or.inl ⟨by rfl, ?_⟩) ?_ ?_
                            rotate_left
                            · intro w'
                              go_simp
                              with_reducible rfl
                            rotate_left
                            · simp only [Act.put, List.setIfInBounds_toArray, List.set_cons_zero, List.set_cons_succ, i64_w, i32_w]
                              rfl
                            refine take_ (i := 2) (N := some 31) (v := ?_) (a' := ?_) #[true, true, true, false, true, false, false, false, true, false, false, false, true, false, false, false, true, false, false, false, false, false] rfl rfl (take_ofW HT_.out HW_.out (by kernel_rfl)) (fun _ _ _ h => h) (Or.inl ⟨by rfl, ?_⟩) hHeld ?_ ?_
                            rotate_left
                            · rintro w' ⟨s0, s1, s2, s3, s4⟩
                              go_simp
                              with_reducible rfl
                            rotate_left
                            · simp only [Act.put, List.setIfInBounds_toArray, List.set_cons_zero, List.set_cons_succ, i64_w, i32_w]
                              rfl
                            refine take_ (i := 5) (N := some 34) (v := ?_) (a' := ?_) #[true, true, true, false, true, true, false, false, true, false, false, false, true, false, false, false, true, false, false, false, false, false] rfl rfl (take_ofW HT_.out HW_.out (by kernel_rfl)) (fun _ _ _ h => h) (Or.inl ⟨by rfl, ?_⟩) hHeld ?_ ?_
                            rotate_left
                            · rintro w' ⟨s0, s1, s2, s3, s4⟩
                              go_simp
                              with_reducible rfl
                            rotate_left
                            · simp only [Act.put, List.setIfInBounds_toArray, List.set_cons_zero, List.set_cons_succ, i64_w, i32_w]
                              rfl
                            refine take_ (i := 9) (N := some 38) (v := ?_) (a' := ?_) #[true, true, true, false, true, true, false, false, true, true, false, false, true, false, false, false, true, false, false, false, false, false] rfl rfl (take_ofW HT_.out HW_.out (by kernel_rfl)) (fun _ _ _ h => h) (Or.inl ⟨by rfl, ?_⟩) hHeld ?_ ?_
                            rotate_left
                            · rintro w' ⟨s0, s1, s2, s3, s4⟩
                              go_simp
                              with_reducible rfl
                            rotate_left
                            · simp only [Act.put, List.setIfInBounds_toArray, List.set_cons_zero, List.set_cons_succ, i64_w, i32_w]
                              rfl
                            refine take_ (i := 13) (N := some 42) (v := ?_) (a' := ?_) #[true, true, true, false, true, true, false, false, true, true, false, false, true, true, false, false, true, false, false, false, false, false] rfl rfl (take_ofW HT_.out HW_.out (by kernel_rfl)) (fun _ _ _ h => h) (Or.inl ⟨by rfl, ?_⟩) hHeld ?_ ?_
                            rotate_left
                            · rintro w' ⟨s0, s1, s2, s3, s4⟩
                              go_simp
                              with_reducible rfl
                            rotate_left
                            · simp only [Act.put, List.setIfInBounds_toArray, List.set_cons_zero, List.set_cons_succ, i64_w, i32_w]
                              rfl
                            refine take_ (i := 17) (N := some 46) (v := ?_) (a' := ?_) #[true, true, true, false, true, true, false, false, true, true, false, false, true, true, false, false, true, true, false, false, false, false] rfl rfl (take_ofW HT_.out HW_.out (by kernel_rfl)) (fun _ _ _ h => h) (Or.inl ⟨by rfl, ?_⟩) hHeld ?_ ?_
                            rotate_left
                            · rintro w' ⟨s0, s1, s2, s3, s4⟩
                              go_simp
                              with_reducible rfl
                            rotate_left
                            · simp only [Act.put, List.setIfInBounds_toArray, List.set_cons_zero, List.set_cons_succ, i64_w, i32_w]
                              rfl
                            refine one_ (i := 3) (N := some 32) #[true, true, true, true, true, true, false, false, true, true, false, false, true, true, false, false, true, true, false, false, false, false] rfl rfl (one_of HT_.out (by kernel_rfl)) (by decide) (fun K hK => ?_)
                            refine goes_ Try.func106 (by kernel_rfl) rfl #[.int .i64 ((rd_T66 l0_0 x25_1).f0)] (by rfl) rfl rfl (by (try simp only [List.map_toArray, List.map_cons, List.map_nil]); first | done | rfl | (simp only [List.length_drop, List.length_take]; rfl) | (rw [IntWalk.u64_in _ (by omega)] <;> rfl)) ?_
                            with_reducible refine (impl_putInt.calls k1 ((rd_T66 l0_0 x25_1).f0) t109 _ A19.out).mono ?_
                            rintro e w34 ⟨rfl, hb⟩
                            refine ⟨_, rfl, ?_⟩
                            have n0_ := Aside0.mk (blk_below (g := gb101) (o := .cells #[.slice (some ad107) l0_0.length c0_0, .int .i64 a0_1, .int .i64 a0_2, .int .i64 a0_3] 32 (0, 0)) (by (with_reducible repeat (first | refine blk_drewN ?_ _ | refine blk_drew ?_ | refine blk_alloc ?_ _)); exact BK101.out) hb)
                            have n1_ := Aside0.mk (blk_below (g := gb108) (o := .cells #[.int .i64 ((rd_T66 l0_0 x25_1).f0), .int .i64 ((rd_T66 l0_0 x25_1).f1), .string ((rd_T66 l0_0 x25_1).f2), .string ((rd_T66 l0_0 x25_1).f3), .int .i64 ((rd_T66 l0_0 x25_1).f4)] 66 (0, 0)) (by (with_reducible repeat (first | refine blk_drewN ?_ _ | refine blk_drew ?_ | refine blk_alloc ?_ _)); exact BK108.out) hb)
                            have n2_ := Aside0.mk (below_step (by repeat (first | (with_reducible first | exact HB.out | apply below_alloc | apply pw_below_drewN | apply below_drew1 | refine below_set ?_ GE101.out | refine below_set ?_ GE108.out) | exact HB.out)) hb)
                            clear BK101
                            clear BK108
                            clear HB
                            have BK101 := n0_
                            have BK108 := n1_
                            have HB := n2_
                            clear n0_ n1_ n2_
                            (try clear hb)
                            (try clear hb2)
                            (try clear hk)
                            (try clear hi)
                            refine hK.out _ _ ⟨(blk_cell BK108.out 0).trans rfl, (blk_cell BK108.out 1).trans rfl, (blk_cell BK108.out 2).trans rfl, (blk_cell BK108.out 3).trans rfl, (blk_cell BK108.out 4).trans rfl⟩ (fun hHeld => ?_)
                            clear hK K
                            refine norm_ (a' := ?_) ?_ ?_
                            rotate_left
                            · show Act.put _ (some 32) _ = _
                              simp only [Act.put, List.setIfInBounds_toArray, List.set_cons_zero, List.set_cons_succ, i64_w, i32_w]
                              rfl
                            refine one_ (i := 6) (N := some 35) #[true, true, true, true, true, true, true, false, true, true, false, false, true, true, false, false, true, true, false, false, false, false] rfl rfl (one_of HT_.out (by kernel_rfl)) (by decide) (fun K hK => ?_)
                            refine goes_ Try.func106 (by kernel_rfl) rfl #[.int .i64 ((rd_T66 l0_0 x25_1).f1)] (by rfl) rfl rfl (by (try simp only [List.map_toArray, List.map_cons, List.map_nil]); first | done | rfl | (simp only [List.length_drop, List.length_take]; rfl) | (rw [IntWalk.u64_in _ (by omega)] <;> rfl)) ?_
                            with_reducible refine (impl_putInt.calls k1 ((rd_T66 l0_0 x25_1).f1) t110 _ A20.out).mono ?_
                            rintro e w35 ⟨rfl, hb⟩
                            refine ⟨_, rfl, ?_⟩
                            have n0_ := Aside0.mk (blk_below (g := gb101) (o := .cells #[.slice (some ad107) l0_0.length c0_0, .int .i64 a0_1, .int .i64 a0_2, .int .i64 a0_3] 32 (0, 0)) (by (with_reducible repeat (first | refine blk_drewN ?_ _ | refine blk_drew ?_ | refine blk_alloc ?_ _)); exact BK101.out) hb)
                            have n1_ := Aside0.mk (blk_below (g := gb108) (o := .cells #[.int .i64 ((rd_T66 l0_0 x25_1).f0), .int .i64 ((rd_T66 l0_0 x25_1).f1), .string ((rd_T66 l0_0 x25_1).f2), .string ((rd_T66 l0_0 x25_1).f3), .int .i64 ((rd_T66 l0_0 x25_1).f4)] 66 (0, 0)) (by (with_reducible repeat (first | refine blk_drewN ?_ _ | refine blk_drew ?_ | refine blk_alloc ?_ _)); exact BK108.out) hb)
                            have n2_ := Aside0.mk (below_step (by repeat (first | (with_reducible first | exact HB.out | apply below_alloc | apply pw_below_drewN | apply below_drew1 | refine below_set ?_ GE101.out | refine below_set ?_ GE108.out) | exact HB.out)) hb)
                            clear BK101
                            clear BK108
                            clear HB
                            have BK101 := n0_
                            have BK108 := n1_
                            have HB := n2_
                            clear n0_ n1_ n2_
                            (try clear hb)
                            (try clear hb2)
                            (try clear hk)
                            (try clear hi)
                            refine hK.out _ _ ⟨(blk_cell BK108.out 0).trans rfl, (blk_cell BK108.out 1).trans rfl, (blk_cell BK108.out 2).trans rfl, (blk_cell BK108.out 3).trans rfl, (blk_cell BK108.out 4).trans rfl⟩ (fun hHeld => ?_)
                            clear hK K
                            refine norm_ (a' := ?_) ?_ ?_
                            rotate_left
                            · show Act.put _ (some 35) _ = _
                              simp only [Act.put, List.setIfInBounds_toArray, List.set_cons_zero, List.set_cons_succ, i64_w, i32_w]
                              rfl
                            refine pure_ (i := 7) (N := some 36) (v := ?_) (a' := ?_) #[true, true, true, true, true, true, true, true, true, true, false, false, true, true, false, false, true, true, false, false, false, false] rfl rfl (any_of HT_.out (by kernel_rfl)) (fun _ _ _ h => h) (Or.inl ⟨by rfl, ?_⟩) ?_ ?_
                            rotate_left
                            · intro w'
                              go_simp
                              with_reducible rfl
                            rotate_left
                            · simp only [Act.put, List.setIfInBounds_toArray, List.set_cons_zero, List.set_cons_succ, i64_w, i32_w]
                              rfl
                            refine one_ (i := 10) (N := some 39) #[true, true, true, true, true, true, true, true, true, true, true, false, true, true, false, false, true, true, false, false, false, false] rfl rfl (one_of HT_.out (by kernel_rfl)) (by decide) (fun K hK => ?_)
                            refine goes_ Try.func107 (by kernel_rfl) rfl #[.string ((rd_T66 l0_0 x25_1).f2)] (by rfl) rfl rfl (by (try simp only [List.map_toArray, List.map_cons, List.map_nil]); first | done | rfl | (simp only [List.length_drop, List.length_take]; rfl) | (rw [IntWalk.u64_in _ (by omega)] <;> rfl)) ?_
                            with_reducible refine (impl_PutText.calls k1 ((rd_T66 l0_0 x25_1).f2) t111 _ A22.out).mono ?_
                            rintro e w36 ⟨rfl, hb⟩
                            refine ⟨_, rfl, ?_⟩
                            have n0_ := Aside0.mk (blk_below (g := gb101) (o := .cells #[.slice (some ad107) l0_0.length c0_0, .int .i64 a0_1, .int .i64 a0_2, .int .i64 a0_3] 32 (0, 0)) (by (with_reducible repeat (first | refine blk_drewN ?_ _ | refine blk_drew ?_ | refine blk_alloc ?_ _)); exact BK101.out) hb)
                            have n1_ := Aside0.mk (blk_below (g := gb108) (o := .cells #[.int .i64 ((rd_T66 l0_0 x25_1).f0), .int .i64 ((rd_T66 l0_0 x25_1).f1), .string ((rd_T66 l0_0 x25_1).f2), .string ((rd_T66 l0_0 x25_1).f3), .int .i64 ((rd_T66 l0_0 x25_1).f4)] 66 (0, 0)) (by (with_reducible repeat (first | refine blk_drewN ?_ _ | refine blk_drew ?_ | refine blk_alloc ?_ _)); exact BK108.out) hb)
                            have n2_ := Aside0.mk (below_step (by repeat (first | (with_reducible first | exact HB.out | apply below_alloc | apply pw_below_drewN | apply below_drew1 | refine below_set ?_ GE101.out | refine below_set ?_ GE108.out) | exact HB.out)) hb)
                            clear BK101
                            clear BK108
                            clear HB
                            have BK101 := n0_
                            have BK108 := n1_
                            have HB := n2_
                            clear n0_ n1_ n2_
                            (try clear hb)
                            (try clear hb2)
                            (try clear hk)
                            (try clear hi)
                            refine hK.out _ _ ⟨(blk_cell BK108.out 0).trans rfl, (blk_cell BK108.out 1).trans rfl, (blk_cell BK108.out 2).trans rfl, (blk_cell BK108.out 3).trans rfl, (blk_cell BK108.out 4).trans rfl⟩ (fun hHeld => ?_)
                            clear hK K
                            refine norm_ (a' := ?_) ?_ ?_
                            rotate_left
                            · show Act.put _ (some 39) _ = _
                              simp only [Act.put, List.setIfInBounds_toArray, List.set_cons_zero, List.set_cons_succ, i64_w, i32_w]
                              rfl
                            refine pure_ (i := 11) (N := some 40) (v := ?_) (a' := ?_) #[true, true, true, true, true, true, true, true, true, true, true, true, true, true, false, false, true, true, false, false, false, false] rfl rfl (any_of HT_.out (by kernel_rfl)) (fun _ _ _ h => h) (Or.inl ⟨by rfl, ?_⟩) ?_ ?_
                            rotate_left
                            · intro w'
                              go_simp
                              with_reducible rfl
                            rotate_left
                            · simp only [Act.put, List.setIfInBounds_toArray, List.set_cons_zero, List.set_cons_succ, i64_w, i32_w]
                              rfl
                            refine one_ (i := 14) (N := some 43) #[true, true, true, true, true, true, true, true, true, true, true, true, true, true, true, false, true, true, false, false, false, false] rfl rfl (one_of HT_.out (by kernel_rfl)) (by decide) (fun K hK => ?_)
                            refine goes_ Try.func107 (by kernel_rfl) rfl #[.string ((rd_T66 l0_0 x25_1).f3)] (by rfl) rfl rfl (by (try simp only [List.map_toArray, List.map_cons, List.map_nil]); first | done | rfl | (simp only [List.length_drop, List.length_take]; rfl) | (rw [IntWalk.u64_in _ (by omega)] <;> rfl)) ?_
                            with_reducible refine (impl_PutText.calls k1 ((rd_T66 l0_0 x25_1).f3) t112 _ A24.out).mono ?_
                            rintro e w37 ⟨rfl, hb⟩
                            refine ⟨_, rfl, ?_⟩
                            have n0_ := Aside0.mk (blk_below (g := gb101) (o := .cells #[.slice (some ad107) l0_0.length c0_0, .int .i64 a0_1, .int .i64 a0_2, .int .i64 a0_3] 32 (0, 0)) (by (with_reducible repeat (first | refine blk_drewN ?_ _ | refine blk_drew ?_ | refine blk_alloc ?_ _)); exact BK101.out) hb)
                            have n1_ := Aside0.mk (blk_below (g := gb108) (o := .cells #[.int .i64 ((rd_T66 l0_0 x25_1).f0), .int .i64 ((rd_T66 l0_0 x25_1).f1), .string ((rd_T66 l0_0 x25_1).f2), .string ((rd_T66 l0_0 x25_1).f3), .int .i64 ((rd_T66 l0_0 x25_1).f4)] 66 (0, 0)) (by (with_reducible repeat (first | refine blk_drewN ?_ _ | refine blk_drew ?_ | refine blk_alloc ?_ _)); exact BK108.out) hb)
                            have n2_ := Aside0.mk (below_step (by repeat (first | (with_reducible first | exact HB.out | apply below_alloc | apply pw_below_drewN | apply below_drew1 | refine below_set ?_ GE101.out | refine below_set ?_ GE108.out) | exact HB.out)) hb)
                            clear BK101
                            clear BK108
                            clear HB
                            have BK101 := n0_
                            have BK108 := n1_
                            have HB := n2_
                            clear n0_ n1_ n2_
                            (try clear hb)
                            (try clear hb2)
                            (try clear hk)
                            (try clear hi)
                            refine hK.out _ _ ⟨(blk_cell BK108.out 0).trans rfl, (blk_cell BK108.out 1).trans rfl, (blk_cell BK108.out 2).trans rfl, (blk_cell BK108.out 3).trans rfl, (blk_cell BK108.out 4).trans rfl⟩ (fun hHeld => ?_)
                            clear hK K
                            refine norm_ (a' := ?_) ?_ ?_
                            rotate_left
                            · show Act.put _ (some 43) _ = _
                              simp only [Act.put, List.setIfInBounds_toArray, List.set_cons_zero, List.set_cons_succ, i64_w, i32_w]
                              rfl
                            refine pure_ (i := 15) (N := some 44) (v := ?_) (a' := ?_) #[true, true, true, true, true, true, true, true, true, true, true, true, true, true, true, true, true, true, false, false, false, false] rfl rfl (any_of HT_.out (by kernel_rfl)) (fun _ _ _ h => h) (Or.inl ⟨by rfl, ?_⟩) ?_ ?_
                            rotate_left
                            · intro w'
                              go_simp
                              with_reducible rfl
                            rotate_left
                            · simp only [Act.put, List.setIfInBounds_toArray, List.set_cons_zero, List.set_cons_succ, i64_w, i32_w]
                              rfl
                            refine one_ (i := 18) (N := some 47) #[true, true, true, true, true, true, true, true, true, true, true, true, true, true, true, true, true, true, true, false, false, false] rfl rfl (one_of HT_.out (by kernel_rfl)) (by decide) (fun K hK => ?_)
                            refine goes_ Try.func106 (by kernel_rfl) rfl #[.int .i64 ((rd_T66 l0_0 x25_1).f4)] (by rfl) rfl rfl (by (try simp only [List.map_toArray, List.map_cons, List.map_nil]); first | done | rfl | (simp only [List.length_drop, List.length_take]; rfl) | (rw [IntWalk.u64_in _ (by omega)] <;> rfl)) ?_
                            with_reducible refine (impl_putInt.calls k1 ((rd_T66 l0_0 x25_1).f4) t113 _ A26.out).mono ?_
                            rintro e w38 ⟨rfl, hb⟩
                            refine ⟨_, rfl, ?_⟩
                            have n0_ := Aside0.mk (blk_below (g := gb101) (o := .cells #[.slice (some ad107) l0_0.length c0_0, .int .i64 a0_1, .int .i64 a0_2, .int .i64 a0_3] 32 (0, 0)) (by (with_reducible repeat (first | refine blk_drewN ?_ _ | refine blk_drew ?_ | refine blk_alloc ?_ _)); exact BK101.out) hb)
                            have n1_ := Aside0.mk (blk_below (g := gb108) (o := .cells #[.int .i64 ((rd_T66 l0_0 x25_1).f0), .int .i64 ((rd_T66 l0_0 x25_1).f1), .string ((rd_T66 l0_0 x25_1).f2), .string ((rd_T66 l0_0 x25_1).f3), .int .i64 ((rd_T66 l0_0 x25_1).f4)] 66 (0, 0)) (by (with_reducible repeat (first | refine blk_drewN ?_ _ | refine blk_drew ?_ | refine blk_alloc ?_ _)); exact BK108.out) hb)
                            have n2_ := Aside0.mk (below_step (by repeat (first | (with_reducible first | exact HB.out | apply below_alloc | apply pw_below_drewN | apply below_drew1 | refine below_set ?_ GE101.out | refine below_set ?_ GE108.out) | exact HB.out)) hb)
                            clear BK101
                            clear BK108
                            clear HB
                            have BK101 := n0_
                            have BK108 := n1_
                            have HB := n2_
                            clear n0_ n1_ n2_
                            (try clear hb)
                            (try clear hb2)
                            (try clear hk)
                            (try clear hi)
                            refine hK.out _ _ ⟨(blk_cell BK108.out 0).trans rfl, (blk_cell BK108.out 1).trans rfl, (blk_cell BK108.out 2).trans rfl, (blk_cell BK108.out 3).trans rfl, (blk_cell BK108.out 4).trans rfl⟩ (fun hHeld => ?_)
                            clear hK K
                            refine norm_ (a' := ?_) ?_ ?_
                            rotate_left
                            · show Act.put _ (some 47) _ = _
                              simp only [Act.put, List.setIfInBounds_toArray, List.set_cons_zero, List.set_cons_succ, i64_w, i32_w]
                              rfl
                            refine pure_ (i := 19) (N := some 48) (v := ?_) (a' := ?_) #[true, true, true, true, true, true, true, true, true, true, true, true, true, true, true, true, true, true, true, true, false, false] rfl rfl (any_of HT_.out (by kernel_rfl)) (fun _ _ _ h => h) (Or.inl ⟨by rfl, ?_⟩) ?_ ?_
                            rotate_left
                            · intro w'
                              go_simp
                              with_reducible rfl
                            rotate_left
                            · simp only [Act.put, List.setIfInBounds_toArray, List.set_cons_zero, List.set_cons_succ, i64_w, i32_w]
                              rfl
                            refine pure_ (i := 20) (N := some 49) (v := ?_) (a' := ?_) #[true, true, true, true, true, true, true, true, true, true, true, true, true, true, true, true, true, true, true, true, true, false] rfl rfl (any_of HT_.out (by kernel_rfl)) (fun _ _ _ h => h) (Or.inl ⟨by rfl, ?_⟩) ?_ ?_
                            rotate_left
                            · intro w'
                              go_simp
                              with_reducible rfl
                            rotate_left
                            · simp only [Act.put, List.setIfInBounds_toArray, List.set_cons_zero, List.set_cons_succ, i64_w, i32_w]
                              rfl
                            refine pure_ (i := 21) (N := some 3) (v := ?_) (a' := ?_) #[true, true, true, true, true, true, true, true, true, true, true, true, true, true, true, true, true, true, true, true, true, true] rfl rfl (any_of HT_.out (by kernel_rfl)) (fun _ _ _ h => h) (Or.inl ⟨by rfl, ?_⟩) ?_ ?_
                            rotate_left
                            · intro w'
                              go_simp
                              with_reducible rfl
                            rotate_left
                            · simp only [Act.put, List.setIfInBounds_toArray, List.set_cons_zero, List.set_cons_succ, i64_w, i32_w]
                              rfl
                            refine done_ (done_of HT_.out (by kernel_rfl)) ?_
                            try go_wp2
                            go_roundg k1
                            case measure => have := HK1.out; omega
                            case rel => exact ⟨(x3_1 ++ ((((t109 ++ t110) ++ t111) ++ t112) ++ t113)), (wrap64 (x25_1 + 1)), (by first | rfl | (simp; done) | (simp [*]; done)), (by first | rfl | (simp; done) | (simp [*]; done)), H', ⟨by have := HK1.out; omega⟩, ⟨by (with_reducible repeat (first | refine blk_drewN ?_ _ | refine blk_drew ?_ | refine blk_alloc ?_ _)); exact BK101.out⟩, ⟨by repeat (first | (with_reducible first | exact HB.out | apply below_alloc | apply pw_below_drewN | apply below_drew1 | refine below_set ?_ GE101.out | refine below_set ?_ GE108.out) | exact HB.out)⟩⟩
                          · rw [if_neg c28] at H
                            exact absurd H (by simp)
                        · rw [if_neg c27] at H
                          exact absurd H (by simp)
                      · rw [if_neg c25] at H
                        exact absurd H (by simp)
                    · rw [if_neg c23] at H
                      exact absurd H (by simp)
                  · rw [if_neg c21] at H
                    exact absurd H (by simp)
                · rw [if_neg c18] at H
                  exact absurd H (by simp)
              · rw [if_neg c17] at H
                exact absurd H (by simp)
            · rw [if_neg c16] at H
              have c16b0 : decide (x25_1 < (l0_0.length : Int)) = false := decide_eq_false c16
              clear c16
              replace H := Option.bind_eq_some_iff.mp H
              obtain ⟨t106, A390, H⟩ := H
              replace H : (some t106) = some r := H
              have A39 := Aside0.mk A390
              clear A390
              obtain rfl := Option.some.inj H
              go_wp2_with (first | ((with_reducible refine gate_callee (f := 108) rfl ?_); refine goesL_ (some 52) rfl rfl Try.func108 (by kernel_rfl) rfl #[.string x3_1] rfl (by (try simp only [List.map_toArray, List.map_cons, List.map_nil]); first | done | rfl | (simp only [List.length_drop, List.length_take]; rfl) | (rw [IntWalk.u64_in _ (by omega)] <;> rfl)) ?_; (with_reducible refine (impl_section.calls k1 x3_1 t106 _ A39.out).mono ?_); rintro e w40 ⟨rfl, hb⟩; refine ⟨_, rfl, ?_⟩; have n0_ := Aside0.mk (blk_below (g := gb101) (o := .cells #[.slice A0_0 l0_0.length c0_0, .int .i64 a0_1, .int .i64 a0_2, .int .i64 a0_3] 32 (0, 0)) (by (with_reducible repeat (first | refine blk_drewN ?_ _ | refine blk_drew ?_ | refine blk_alloc ?_ _)); exact BK101.out) hb); have n1_ := Aside0.mk (below_step (by repeat (first | (with_reducible first | exact HB.out | apply below_alloc | apply pw_below_drewN | apply below_drew1 | refine below_set ?_ GE101.out) | exact HB.out)) hb); clear BK101; clear HB; have BK101 := n0_; have HB := n1_; clear n0_ n1_; (try clear hb); (try clear hb2); (try clear hk); (try clear hi)))
              go_ret
              exact ⟨by first | rfl | (simp [errW_none, errW_some] <;> rfl) | (simp [*, errW_none, errW_some] <;> rfl), by repeat (first | (with_reducible first | exact HB.out | apply below_alloc | apply pw_below_drewN | apply below_drew1 | refine below_set ?_ GE101.out) | exact HB.out)⟩
      · rw [if_neg c8] at H
        exact absurd H (by simp)
    · rw [if_neg c6] at H
      exact absurd H (by simp)
  · rw [if_neg c4] at H
    exact absurd H (by simp)
def impl_VersionText.f (k : Nat) (l0_0 : List (S66)) (a0_1 : Int) (a0_2 : Int) (a0_3 : Int) : Option (ByteArray) := (impl_VersionOk.f l0_0 a0_1 a0_2 a0_3).bind fun t102 => (if t102 = true then ((impl_Version_text.f k l0_0 a0_1 a0_2 a0_3).bind fun t103 => (some t103)) else (some (⟨#[]⟩ : ByteArray)))
set_option maxHeartbeats 8000000 in
set_option maxRecDepth 100000 in
theorem impl_VersionText.calls (k : Nat) (A0_0 : Option Addr) (c0_0 : Nat) (l0_0 : List (S66)) (a0_1 : Int) (a0_2 : Int) (a0_3 : Int) (r : ByteArray) (w : World) (hr0_0 : Kd.C k66 w A0_0 l0_0.length l0_0) (hc0_0 : l0_0.length ≤ c0_0) (h : impl_VersionText.f k l0_0 a0_1 a0_2 a0_3 = some r) :
    Calls Try.prog 42 #[.agg #[.slice A0_0 l0_0.length c0_0, .int .i64 a0_1, .int .i64 a0_2, .int .i64 a0_3]] w fun e w' => e = .returned (.string r) ∧ Below w.heap.size w w' := by
  have hu32 := Try.underlying32
  have HR0_0 := Aside0.mk hr0_0
  have HC0_0 := Aside0.mk hc0_0
  clear hr0_0 hc0_0
  have HB := Aside0.mk (Below.refl w.heap.size w)
  have H : ((impl_VersionOk.f l0_0 a0_1 a0_2 a0_3).bind fun t102 => (if t102 = true then ((impl_Version_text.f k l0_0 a0_1 a0_2 a0_3).bind fun t103 => (some t103)) else (some (⟨#[]⟩ : ByteArray)))) = some r := h
  clear h
  replace H := Option.bind_eq_some_iff.mp H
  obtain ⟨t102, A20, H⟩ := H
  replace H : (if t102 = true then ((impl_Version_text.f k l0_0 a0_1 a0_2 a0_3).bind fun t103 => (some t103)) else (some (⟨#[]⟩ : ByteArray))) = some r := H
  have A2 := Aside0.mk A20
  clear A20
  by_cases c3 : t102 = true
  · subst c3
    have H1 : ((impl_Version_text.f k l0_0 a0_1 a0_2 a0_3).bind fun t103 => (some t103)) = some r := by rw [if_pos rfl] at H; exact H
    clear H
    have H := H1
    clear H1
    replace H := Option.bind_eq_some_iff.mp H
    obtain ⟨t103, A40, H⟩ := H
    replace H : (some t103) = some r := H
    have A4 := Aside0.mk A40
    clear A40
    obtain rfl := Option.some.inj H
    go_enter Try.func42, Try.ntmps42
    go_wp2_with (first | ((with_reducible refine gate_dst (N := 1) rfl ?_); refine box_event ?hg (N := 1) ?hd (cs := #[.slice A0_0 l0_0.length c0_0, .int .i64 a0_1, .int .i64 a0_2, .int .i64 a0_3]) (t := 32) ?hr ?_; (case hd => rfl); (case hg => rfl); (case hr => first | (go_simp; done) | (go_simp; rfl)); intro gb101 hg w5 hbox hb; have n0_ := Aside0.mk (below_step (by repeat (first | (with_reducible first | exact HB.out | apply below_alloc | apply pw_below_drewN | apply below_drew1) | exact HB.out)) hb); have n1_ := Aside0.mk (hbox); have n2_ := Aside0.mk ((by rw [hg]; exact (below_size (by repeat (first | (with_reducible first | exact HB.out | apply below_alloc | apply pw_below_drewN | apply below_drew1) | exact HB.out))) : w.heap.size ≤ gb101)); have n3_ := Aside0.mk ((by rw [hg]; exact (below_size (by repeat (first | (with_reducible first | exact HB.out | apply below_alloc | apply pw_below_drewN | apply below_drew1) | exact HB.out))) : w.heap.size ≤ gb101)); clear HB; have HB := n0_; have BK101 := n1_; have GW101 := n2_; have GE101 := n3_; clear n0_ n1_ n2_ n3_; clear hb hbox hg; have hcz6_0 : w5.cell? ⟨gb101, 0, none⟩ = some (.slice A0_0 l0_0.length c0_0) := (blk_cell BK101.out 0).trans rfl; have hcz6_1 : w5.cell? ⟨gb101, 1, none⟩ = some (.int .i64 a0_1) := (blk_cell BK101.out 1).trans rfl; have hcz6_2 : w5.cell? ⟨gb101, 2, none⟩ = some (.int .i64 a0_2) := (blk_cell BK101.out 2).trans rfl; have hcz6_3 : w5.cell? ⟨gb101, 3, none⟩ = some (.int .i64 a0_3) := (blk_cell BK101.out 3).trans rfl; have hfz6_0 := blk_frozen BK101.out 0; have hfz6_1 := blk_frozen BK101.out 1; have hfz6_2 := blk_frozen BK101.out 2; have hfz6_3 := blk_frozen BK101.out 3) | ((with_reducible refine gate_callee (f := 27) rfl ?_); refine goesL_ (some 4) rfl rfl Try.func27 (by kernel_rfl) rfl #[.agg #[.slice A0_0 l0_0.length c0_0, .int .i64 a0_1, .int .i64 a0_2, .int .i64 a0_3]] rfl (by (try simp only [List.map_toArray, List.map_cons, List.map_nil]); first | done | rfl | (simp only [List.length_drop, List.length_take]; rfl) | (rw [IntWalk.u64_in _ (by omega)] <;> rfl)) ?_; (with_reducible refine (impl_VersionOk.calls _ _ l0_0 a0_1 a0_2 a0_3 true _ ?side1 ?side2 A2.out).mono ?_); (case side1 => repeat (first | exact (Kd.C_below HR0_0.out HB.out) | (with_reducible refine Kd.C_alloc ?_ _) | (with_reducible refine Kd.C_drewN ?_ _) | (with_reducible refine Kd.C_drew ?_))); (case side2 => exact HC0_0.out); rintro e w7 ⟨rfl, hb⟩; refine ⟨_, rfl, ?_⟩; have n0_ := Aside0.mk (blk_below (g := gb101) (o := .cells #[.slice A0_0 l0_0.length c0_0, .int .i64 a0_1, .int .i64 a0_2, .int .i64 a0_3] 32 (0, 0)) (by (with_reducible repeat (first | refine blk_drewN ?_ _ | refine blk_drew ?_ | refine blk_alloc ?_ _)); exact BK101.out) hb); have n1_ := Aside0.mk (below_step (by repeat (first | (with_reducible first | exact HB.out | apply below_alloc | apply pw_below_drewN | apply below_drew1 | refine below_set ?_ GE101.out) | exact HB.out)) hb); clear BK101; clear HB; have BK101 := n0_; have HB := n1_; clear n0_ n1_; (try clear hb); (try clear hb2); (try clear hk); (try clear hi); have hcz8_0 : w7.cell? ⟨gb101, 0, none⟩ = some (.slice A0_0 l0_0.length c0_0) := (blk_cell BK101.out 0).trans rfl; have hcz8_1 : w7.cell? ⟨gb101, 1, none⟩ = some (.int .i64 a0_1) := (blk_cell BK101.out 1).trans rfl; have hcz8_2 : w7.cell? ⟨gb101, 2, none⟩ = some (.int .i64 a0_2) := (blk_cell BK101.out 2).trans rfl; have hcz8_3 : w7.cell? ⟨gb101, 3, none⟩ = some (.int .i64 a0_3) := (blk_cell BK101.out 3).trans rfl; have hfz8_0 := blk_frozen BK101.out 0; have hfz8_1 := blk_frozen BK101.out 1; have hfz8_2 := blk_frozen BK101.out 2; have hfz8_3 := blk_frozen BK101.out 3) | ((with_reducible refine gate_callee (f := 79) rfl ?_); refine goesL_ (some 7) rfl rfl Try.func79 (by kernel_rfl) rfl #[.agg #[.slice A0_0 l0_0.length c0_0, .int .i64 a0_1, .int .i64 a0_2, .int .i64 a0_3]] rfl (by (try simp only [List.map_toArray, List.map_cons, List.map_nil]); first | done | rfl | (simp only [List.length_drop, List.length_take]; rfl) | (rw [IntWalk.u64_in _ (by omega)] <;> rfl)) ?_; (with_reducible refine (impl_Version_text.calls k _ _ l0_0 a0_1 a0_2 a0_3 t103 _ ?side1 ?side2 A4.out).mono ?_); (case side1 => repeat (first | exact (Kd.C_below HR0_0.out HB.out) | (with_reducible refine Kd.C_alloc ?_ _) | (with_reducible refine Kd.C_drewN ?_ _) | (with_reducible refine Kd.C_drew ?_))); (case side2 => exact HC0_0.out); rintro e w9 ⟨rfl, hb⟩; refine ⟨_, rfl, ?_⟩; have n0_ := Aside0.mk (blk_below (g := gb101) (o := .cells #[.slice A0_0 l0_0.length c0_0, .int .i64 a0_1, .int .i64 a0_2, .int .i64 a0_3] 32 (0, 0)) (by (with_reducible repeat (first | refine blk_drewN ?_ _ | refine blk_drew ?_ | refine blk_alloc ?_ _)); exact BK101.out) hb); have n1_ := Aside0.mk (below_step (by repeat (first | (with_reducible first | exact HB.out | apply below_alloc | apply pw_below_drewN | apply below_drew1 | refine below_set ?_ GE101.out) | exact HB.out)) hb); clear BK101; clear HB; have BK101 := n0_; have HB := n1_; clear n0_ n1_; (try clear hb); (try clear hb2); (try clear hk); (try clear hi)))
    go_ret
    exact ⟨by first | rfl | (simp [errW_none, errW_some] <;> rfl) | (simp [*, errW_none, errW_some] <;> rfl), by repeat (first | (with_reducible first | exact HB.out | apply below_alloc | apply pw_below_drewN | apply below_drew1 | refine below_set ?_ GE101.out) | exact HB.out)⟩
  · replace c3 := Bool.eq_false_iff.mpr c3
    subst c3
    have H1 : (some (⟨#[]⟩ : ByteArray)) = some r := by rw [if_neg (show ¬ (false = true) by decide)] at H; exact H
    clear H
    have H := H1
    clear H1
    obtain rfl := Option.some.inj H
    go_enter Try.func42, Try.ntmps42
    go_wp2_with (first | ((with_reducible refine gate_dst (N := 1) rfl ?_); refine box_event ?hg (N := 1) ?hd (cs := #[.slice A0_0 l0_0.length c0_0, .int .i64 a0_1, .int .i64 a0_2, .int .i64 a0_3]) (t := 32) ?hr ?_; (case hd => rfl); (case hg => rfl); (case hr => first | (go_simp; done) | (go_simp; rfl)); intro gb101 hg w10 hbox hb; have n0_ := Aside0.mk (below_step (by repeat (first | (with_reducible first | exact HB.out | apply below_alloc | apply pw_below_drewN | apply below_drew1) | exact HB.out)) hb); have n1_ := Aside0.mk (hbox); have n2_ := Aside0.mk ((by rw [hg]; exact (below_size (by repeat (first | (with_reducible first | exact HB.out | apply below_alloc | apply pw_below_drewN | apply below_drew1) | exact HB.out))) : w.heap.size ≤ gb101)); have n3_ := Aside0.mk ((by rw [hg]; exact (below_size (by repeat (first | (with_reducible first | exact HB.out | apply below_alloc | apply pw_below_drewN | apply below_drew1) | exact HB.out))) : w.heap.size ≤ gb101)); clear HB; have HB := n0_; have BK101 := n1_; have GW101 := n2_; have GE101 := n3_; clear n0_ n1_ n2_ n3_; clear hb hbox hg; have hcz11_0 : w10.cell? ⟨gb101, 0, none⟩ = some (.slice A0_0 l0_0.length c0_0) := (blk_cell BK101.out 0).trans rfl; have hcz11_1 : w10.cell? ⟨gb101, 1, none⟩ = some (.int .i64 a0_1) := (blk_cell BK101.out 1).trans rfl; have hcz11_2 : w10.cell? ⟨gb101, 2, none⟩ = some (.int .i64 a0_2) := (blk_cell BK101.out 2).trans rfl; have hcz11_3 : w10.cell? ⟨gb101, 3, none⟩ = some (.int .i64 a0_3) := (blk_cell BK101.out 3).trans rfl; have hfz11_0 := blk_frozen BK101.out 0; have hfz11_1 := blk_frozen BK101.out 1; have hfz11_2 := blk_frozen BK101.out 2; have hfz11_3 := blk_frozen BK101.out 3) | ((with_reducible refine gate_callee (f := 27) rfl ?_); refine goesL_ (some 4) rfl rfl Try.func27 (by kernel_rfl) rfl #[.agg #[.slice A0_0 l0_0.length c0_0, .int .i64 a0_1, .int .i64 a0_2, .int .i64 a0_3]] rfl (by (try simp only [List.map_toArray, List.map_cons, List.map_nil]); first | done | rfl | (simp only [List.length_drop, List.length_take]; rfl) | (rw [IntWalk.u64_in _ (by omega)] <;> rfl)) ?_; (with_reducible refine (impl_VersionOk.calls _ _ l0_0 a0_1 a0_2 a0_3 false _ ?side1 ?side2 A2.out).mono ?_); (case side1 => repeat (first | exact (Kd.C_below HR0_0.out HB.out) | (with_reducible refine Kd.C_alloc ?_ _) | (with_reducible refine Kd.C_drewN ?_ _) | (with_reducible refine Kd.C_drew ?_))); (case side2 => exact HC0_0.out); rintro e w12 ⟨rfl, hb⟩; refine ⟨_, rfl, ?_⟩; have n0_ := Aside0.mk (blk_below (g := gb101) (o := .cells #[.slice A0_0 l0_0.length c0_0, .int .i64 a0_1, .int .i64 a0_2, .int .i64 a0_3] 32 (0, 0)) (by (with_reducible repeat (first | refine blk_drewN ?_ _ | refine blk_drew ?_ | refine blk_alloc ?_ _)); exact BK101.out) hb); have n1_ := Aside0.mk (below_step (by repeat (first | (with_reducible first | exact HB.out | apply below_alloc | apply pw_below_drewN | apply below_drew1 | refine below_set ?_ GE101.out) | exact HB.out)) hb); clear BK101; clear HB; have BK101 := n0_; have HB := n1_; clear n0_ n1_; (try clear hb); (try clear hb2); (try clear hk); (try clear hi)))
    go_ret
    exact ⟨by first | rfl | (simp [errW_none, errW_some] <;> rfl) | (simp [*, errW_none, errW_some] <;> rfl), by repeat (first | (with_reducible first | exact HB.out | apply below_alloc | apply pw_below_drewN | apply below_drew1 | refine below_set ?_ GE101.out) | exact HB.out)⟩
def laws_FnExactVersionText.f (k : Nat) (l0_0 : List (S114)) (a0_1 : Int) (a0_2 : Int) (a0_3 : Int) : Option (Bool) := (laws_szVersion.f k l0_0 a0_1 a0_2 a0_3 1048576).bind fun t102 => (if t102 < 0 then (some true) else ((laws_toVersion.f k l0_0 a0_1 a0_2 a0_3).bind fun bt103 => ((spec_VersionText.f k bt103.1 bt103.2.1 bt103.2.2.1 bt103.2.2.2).bind fun t109 => ((laws_toVersion.f k l0_0 a0_1 a0_2 a0_3).bind fun bt110 => ((impl_VersionText.f k bt110.1 bt110.2.1 bt110.2.2.1 bt110.2.2.2).bind fun t117 => (if t117.toList = t109.toList then ((laws_toVersion.f k l0_0 a0_1 a0_2 a0_3).bind fun bt118 => ((laws_eqVersion.f k bt110.1 bt110.2.1 bt110.2.2.1 bt110.2.2.2 bt118.1 bt118.2.1 bt118.2.2.1 bt118.2.2.2).bind fun t124 => (if t124 = true then (some true) else (some false)))) else (some false)))))))
set_option maxHeartbeats 8000000 in
set_option maxRecDepth 100000 in
theorem laws_FnExactVersionText.calls (k : Nat) (A0_0 : Option Addr) (c0_0 : Nat) (l0_0 : List (S114)) (a0_1 : Int) (a0_2 : Int) (a0_3 : Int) (r : Bool) (w : World) (hr0_0 : Kd.C k114 w A0_0 l0_0.length l0_0) (hc0_0 : l0_0.length ≤ c0_0) (h : laws_FnExactVersionText.f k l0_0 a0_1 a0_2 a0_3 = some r) :
    Calls Try.prog 8 #[.agg #[.slice A0_0 l0_0.length c0_0, .int .i64 a0_1, .int .i64 a0_2, .int .i64 a0_3]] w fun e w' => e = .returned (.bool r) ∧ Below w.heap.size w w' := by
  have hu24 := Try.underlying24
  have hu32 := Try.underlying32
  have HR0_0 := Aside0.mk hr0_0
  have HC0_0 := Aside0.mk hc0_0
  clear hr0_0 hc0_0
  have HB := Aside0.mk (Below.refl w.heap.size w)
  have H : ((laws_szVersion.f k l0_0 a0_1 a0_2 a0_3 1048576).bind fun t102 => (if t102 < 0 then (some true) else ((laws_toVersion.f k l0_0 a0_1 a0_2 a0_3).bind fun bt103 => ((spec_VersionText.f k bt103.1 bt103.2.1 bt103.2.2.1 bt103.2.2.2).bind fun t109 => ((laws_toVersion.f k l0_0 a0_1 a0_2 a0_3).bind fun bt110 => ((impl_VersionText.f k bt110.1 bt110.2.1 bt110.2.2.1 bt110.2.2.2).bind fun t117 => (if t117.toList = t109.toList then ((laws_toVersion.f k l0_0 a0_1 a0_2 a0_3).bind fun bt118 => ((laws_eqVersion.f k bt110.1 bt110.2.1 bt110.2.2.1 bt110.2.2.2 bt118.1 bt118.2.1 bt118.2.2.1 bt118.2.2.2).bind fun t124 => (if t124 = true then (some true) else (some false)))) else (some false)))))))) = some r := h
  clear h
  replace H := Option.bind_eq_some_iff.mp H
  obtain ⟨t102, A20, H⟩ := H
  replace H : (if t102 < 0 then (some true) else ((laws_toVersion.f k l0_0 a0_1 a0_2 a0_3).bind fun bt103 => ((spec_VersionText.f k bt103.1 bt103.2.1 bt103.2.2.1 bt103.2.2.2).bind fun t109 => ((laws_toVersion.f k l0_0 a0_1 a0_2 a0_3).bind fun bt110 => ((impl_VersionText.f k bt110.1 bt110.2.1 bt110.2.2.1 bt110.2.2.2).bind fun t117 => (if t117.toList = t109.toList then ((laws_toVersion.f k l0_0 a0_1 a0_2 a0_3).bind fun bt118 => ((laws_eqVersion.f k bt110.1 bt110.2.1 bt110.2.2.1 bt110.2.2.2 bt118.1 bt118.2.1 bt118.2.2.1 bt118.2.2.2).bind fun t124 => (if t124 = true then (some true) else (some false)))) else (some false))))))) = some r := H
  have A2 := Aside0.mk A20
  clear A20
  by_cases c3 : t102 < 0
  · rw [if_pos c3] at H
    have c3b0 : decide (t102 < 0) = true := decide_eq_true c3
    clear c3
    obtain rfl := Option.some.inj H
    go_enter Try.func8, Try.ntmps8
    go_wp2_with (first | ((with_reducible refine gate_dst (N := 1) rfl ?_); refine box_event ?hg (N := 1) ?hd (cs := #[.slice A0_0 l0_0.length c0_0, .int .i64 a0_1, .int .i64 a0_2, .int .i64 a0_3]) (t := 24) ?hr ?_; (case hd => rfl); (case hg => rfl); (case hr => first | (go_simp; done) | (go_simp; rfl)); intro gb101 hg w4 hbox hb; have n0_ := Aside0.mk (below_step (by repeat (first | (with_reducible first | exact HB.out | apply below_alloc | apply pw_below_drewN | apply below_drew1) | exact HB.out)) hb); have n1_ := Aside0.mk (hbox); have n2_ := Aside0.mk ((by rw [hg]; exact (below_size (by repeat (first | (with_reducible first | exact HB.out | apply below_alloc | apply pw_below_drewN | apply below_drew1) | exact HB.out))) : w.heap.size ≤ gb101)); have n3_ := Aside0.mk ((by rw [hg]; exact (below_size (by repeat (first | (with_reducible first | exact HB.out | apply below_alloc | apply pw_below_drewN | apply below_drew1) | exact HB.out))) : w.heap.size ≤ gb101)); clear HB; have HB := n0_; have BK101 := n1_; have GW101 := n2_; have GE101 := n3_; clear n0_ n1_ n2_ n3_; clear hb hbox hg; have hcz5_0 : w4.cell? ⟨gb101, 0, none⟩ = some (.slice A0_0 l0_0.length c0_0) := (blk_cell BK101.out 0).trans rfl; have hcz5_1 : w4.cell? ⟨gb101, 1, none⟩ = some (.int .i64 a0_1) := (blk_cell BK101.out 1).trans rfl; have hcz5_2 : w4.cell? ⟨gb101, 2, none⟩ = some (.int .i64 a0_2) := (blk_cell BK101.out 2).trans rfl; have hcz5_3 : w4.cell? ⟨gb101, 3, none⟩ = some (.int .i64 a0_3) := (blk_cell BK101.out 3).trans rfl; have hfz5_0 := blk_frozen BK101.out 0; have hfz5_1 := blk_frozen BK101.out 1; have hfz5_2 := blk_frozen BK101.out 2; have hfz5_3 := blk_frozen BK101.out 3) | ((with_reducible refine gate_callee (f := 15) rfl ?_); refine goesL_ (some 9) rfl rfl Try.func15 (by kernel_rfl) rfl #[.agg #[.slice A0_0 l0_0.length c0_0, .int .i64 a0_1, .int .i64 a0_2, .int .i64 a0_3], .int .i64 1048576] rfl (by (try simp only [List.map_toArray, List.map_cons, List.map_nil]); first | done | rfl | (simp only [List.length_drop, List.length_take]; rfl) | (rw [IntWalk.u64_in _ (by omega)] <;> rfl)) ?_; (with_reducible refine (laws_szVersion.calls k _ _ l0_0 a0_1 a0_2 a0_3 1048576 t102 _ ?side1 ?side2 A2.out).mono ?_); (case side1 => repeat (first | exact (Kd.C_below HR0_0.out HB.out) | (with_reducible refine Kd.C_alloc ?_ _) | (with_reducible refine Kd.C_drewN ?_ _) | (with_reducible refine Kd.C_drew ?_))); (case side2 => exact HC0_0.out); rintro e w6 ⟨rfl, hb⟩; refine ⟨_, rfl, ?_⟩; have n0_ := Aside0.mk (blk_below (g := gb101) (o := .cells #[.slice A0_0 l0_0.length c0_0, .int .i64 a0_1, .int .i64 a0_2, .int .i64 a0_3] 24 (0, 0)) (by (with_reducible repeat (first | refine blk_drewN ?_ _ | refine blk_drew ?_ | refine blk_alloc ?_ _)); exact BK101.out) hb); have n1_ := Aside0.mk (below_step (by repeat (first | (with_reducible first | exact HB.out | apply below_alloc | apply pw_below_drewN | apply below_drew1 | refine below_set ?_ GE101.out) | exact HB.out)) hb); clear BK101; clear HB; have BK101 := n0_; have HB := n1_; clear n0_ n1_; (try clear hb); (try clear hb2); (try clear hk); (try clear hi)))
    go_ret
    exact ⟨by first | rfl | (simp [errW_none, errW_some] <;> rfl) | (simp [*, errW_none, errW_some] <;> rfl), by repeat (first | (with_reducible first | exact HB.out | apply below_alloc | apply pw_below_drewN | apply below_drew1 | refine below_set ?_ GE101.out) | exact HB.out)⟩
  · rw [if_neg c3] at H
    have c3b0 : decide (t102 < 0) = false := decide_eq_false c3
    clear c3
    replace H := Option.bind_eq_some_iff.mp H
    obtain ⟨⟨t103, t106, t107, t108⟩, A70, H⟩ := H
    replace H : ((spec_VersionText.f k t103 t106 t107 t108).bind fun t109 => ((laws_toVersion.f k l0_0 a0_1 a0_2 a0_3).bind fun bt110 => ((impl_VersionText.f k bt110.1 bt110.2.1 bt110.2.2.1 bt110.2.2.2).bind fun t117 => (if t117.toList = t109.toList then ((laws_toVersion.f k l0_0 a0_1 a0_2 a0_3).bind fun bt118 => ((laws_eqVersion.f k bt110.1 bt110.2.1 bt110.2.2.1 bt110.2.2.2 bt118.1 bt118.2.1 bt118.2.2.1 bt118.2.2.2).bind fun t124 => (if t124 = true then (some true) else (some false)))) else (some false))))) = some r := H
    have A7 := Aside0.mk A70
    clear A70
    replace H := Option.bind_eq_some_iff.mp H
    obtain ⟨t109, A80, H⟩ := H
    replace H : ((laws_toVersion.f k l0_0 a0_1 a0_2 a0_3).bind fun bt110 => ((impl_VersionText.f k bt110.1 bt110.2.1 bt110.2.2.1 bt110.2.2.2).bind fun t117 => (if t117.toList = t109.toList then ((laws_toVersion.f k l0_0 a0_1 a0_2 a0_3).bind fun bt118 => ((laws_eqVersion.f k bt110.1 bt110.2.1 bt110.2.2.1 bt110.2.2.2 bt118.1 bt118.2.1 bt118.2.2.1 bt118.2.2.2).bind fun t124 => (if t124 = true then (some true) else (some false)))) else (some false)))) = some r := H
    have A8 := Aside0.mk A80
    clear A80
    replace H := Option.bind_eq_some_iff.mp H
    obtain ⟨⟨t110, t113, t114, t115⟩, A90, H⟩ := H
    replace H : ((impl_VersionText.f k t110 t113 t114 t115).bind fun t117 => (if t117.toList = t109.toList then ((laws_toVersion.f k l0_0 a0_1 a0_2 a0_3).bind fun bt118 => ((laws_eqVersion.f k t110 t113 t114 t115 bt118.1 bt118.2.1 bt118.2.2.1 bt118.2.2.2).bind fun t124 => (if t124 = true then (some true) else (some false)))) else (some false))) = some r := H
    have A9 := Aside0.mk A90
    clear A90
    replace H := Option.bind_eq_some_iff.mp H
    obtain ⟨t117, A100, H⟩ := H
    replace H : (if t117.toList = t109.toList then ((laws_toVersion.f k l0_0 a0_1 a0_2 a0_3).bind fun bt118 => ((laws_eqVersion.f k t110 t113 t114 t115 bt118.1 bt118.2.1 bt118.2.2.1 bt118.2.2.2).bind fun t124 => (if t124 = true then (some true) else (some false)))) else (some false)) = some r := H
    have A10 := Aside0.mk A100
    clear A100
    by_cases c11 : t117.toList = t109.toList
    · rw [if_pos c11] at H
      have c11b0 : (t117.toList == t109.toList) = true := beq_iff_eq.mpr c11
      have c11b1 : (t117.toList != t109.toList) = false := bne_eq_false_iff_eq.mpr c11
      clear c11
      replace H := Option.bind_eq_some_iff.mp H
      obtain ⟨⟨t118, t121, t122, t123⟩, A120, H⟩ := H
      replace H : ((laws_eqVersion.f k t110 t113 t114 t115 t118 t121 t122 t123).bind fun t124 => (if t124 = true then (some true) else (some false))) = some r := H
      have A12 := Aside0.mk A120
      clear A120
      replace H := Option.bind_eq_some_iff.mp H
      obtain ⟨t124, A130, H⟩ := H
      replace H : (if t124 = true then (some true) else (some false)) = some r := H
      have A13 := Aside0.mk A130
      clear A130
      by_cases c14 : t124 = true
      · subst c14
        have H1 : (some true) = some r := by rw [if_pos rfl] at H; exact H
        clear H
        have H := H1
        clear H1
        obtain rfl := Option.some.inj H
        go_enter Try.func8, Try.ntmps8
        try go_wp2_with (first | ((with_reducible refine gate_dst (N := 1) rfl ?_); refine box_event ?hg (N := 1) ?hd (cs := #[.slice A0_0 l0_0.length c0_0, .int .i64 a0_1, .int .i64 a0_2, .int .i64 a0_3]) (t := 24) ?hr ?_; (case hd => rfl); (case hg => rfl); (case hr => first | (go_simp; done) | (go_simp; rfl)); intro gb101 hg w15 hbox hb; have n0_ := Aside0.mk (below_step (by repeat (first | (with_reducible first | exact HB.out | apply below_alloc | apply pw_below_drewN | apply below_drew1) | exact HB.out)) hb); have n1_ := Aside0.mk (hbox); have n2_ := Aside0.mk ((by rw [hg]; exact (below_size (by repeat (first | (with_reducible first | exact HB.out | apply below_alloc | apply pw_below_drewN | apply below_drew1) | exact HB.out))) : w.heap.size ≤ gb101)); have n3_ := Aside0.mk ((by rw [hg]; exact (below_size (by repeat (first | (with_reducible first | exact HB.out | apply below_alloc | apply pw_below_drewN | apply below_drew1) | exact HB.out))) : w.heap.size ≤ gb101)); clear HB; have HB := n0_; have BK101 := n1_; have GW101 := n2_; have GE101 := n3_; clear n0_ n1_ n2_ n3_; clear hb hbox hg; have hcz16_0 : w15.cell? ⟨gb101, 0, none⟩ = some (.slice A0_0 l0_0.length c0_0) := (blk_cell BK101.out 0).trans rfl; have hcz16_1 : w15.cell? ⟨gb101, 1, none⟩ = some (.int .i64 a0_1) := (blk_cell BK101.out 1).trans rfl; have hcz16_2 : w15.cell? ⟨gb101, 2, none⟩ = some (.int .i64 a0_2) := (blk_cell BK101.out 2).trans rfl; have hcz16_3 : w15.cell? ⟨gb101, 3, none⟩ = some (.int .i64 a0_3) := (blk_cell BK101.out 3).trans rfl; have hfz16_0 := blk_frozen BK101.out 0; have hfz16_1 := blk_frozen BK101.out 1; have hfz16_2 := blk_frozen BK101.out 2; have hfz16_3 := blk_frozen BK101.out 3) | ((with_reducible refine gate_callee (f := 15) rfl ?_); refine goesL_ (some 9) rfl rfl Try.func15 (by kernel_rfl) rfl #[.agg #[.slice A0_0 l0_0.length c0_0, .int .i64 a0_1, .int .i64 a0_2, .int .i64 a0_3], .int .i64 1048576] rfl (by (try simp only [List.map_toArray, List.map_cons, List.map_nil]); first | done | rfl | (simp only [List.length_drop, List.length_take]; rfl) | (rw [IntWalk.u64_in _ (by omega)] <;> rfl)) ?_; (with_reducible refine (laws_szVersion.calls k _ _ l0_0 a0_1 a0_2 a0_3 1048576 t102 _ ?side1 ?side2 A2.out).mono ?_); (case side1 => repeat (first | exact (Kd.C_below HR0_0.out HB.out) | (with_reducible refine Kd.C_alloc ?_ _) | (with_reducible refine Kd.C_drewN ?_ _) | (with_reducible refine Kd.C_drew ?_))); (case side2 => exact HC0_0.out); rintro e w17 ⟨rfl, hb⟩; refine ⟨_, rfl, ?_⟩; have n0_ := Aside0.mk (blk_below (g := gb101) (o := .cells #[.slice A0_0 l0_0.length c0_0, .int .i64 a0_1, .int .i64 a0_2, .int .i64 a0_3] 24 (0, 0)) (by (with_reducible repeat (first | refine blk_drewN ?_ _ | refine blk_drew ?_ | refine blk_alloc ?_ _)); exact BK101.out) hb); have n1_ := Aside0.mk (below_step (by repeat (first | (with_reducible first | exact HB.out | apply below_alloc | apply pw_below_drewN | apply below_drew1 | refine below_set ?_ GE101.out) | exact HB.out)) hb); clear BK101; clear HB; have BK101 := n0_; have HB := n1_; clear n0_ n1_; (try clear hb); (try clear hb2); (try clear hk); (try clear hi); have hcz18_0 : w17.cell? ⟨gb101, 0, none⟩ = some (.slice A0_0 l0_0.length c0_0) := (blk_cell BK101.out 0).trans rfl; have hcz18_1 : w17.cell? ⟨gb101, 1, none⟩ = some (.int .i64 a0_1) := (blk_cell BK101.out 1).trans rfl; have hcz18_2 : w17.cell? ⟨gb101, 2, none⟩ = some (.int .i64 a0_2) := (blk_cell BK101.out 2).trans rfl; have hcz18_3 : w17.cell? ⟨gb101, 3, none⟩ = some (.int .i64 a0_3) := (blk_cell BK101.out 3).trans rfl; have hfz18_0 := blk_frozen BK101.out 0; have hfz18_1 := blk_frozen BK101.out 1; have hfz18_2 := blk_frozen BK101.out 2; have hfz18_3 := blk_frozen BK101.out 3) | ((with_reducible refine gate_callee (f := 18) rfl ?_); refine goesL_ (some 13) rfl rfl Try.func18 (by kernel_rfl) rfl #[.agg #[.slice A0_0 l0_0.length c0_0, .int .i64 a0_1, .int .i64 a0_2, .int .i64 a0_3]] rfl (by (try simp only [List.map_toArray, List.map_cons, List.map_nil]); first | done | rfl | (simp only [List.length_drop, List.length_take]; rfl) | (rw [IntWalk.u64_in _ (by omega)] <;> rfl)) ?_; (with_reducible refine (laws_toVersion.calls k _ _ l0_0 a0_1 a0_2 a0_3 t103 t106 t107 t108 _ ?side1 ?side2 A7.out).mono ?_); (case side1 => repeat (first | exact (Kd.C_below HR0_0.out HB.out) | (with_reducible refine Kd.C_alloc ?_ _) | (with_reducible refine Kd.C_drewN ?_ _) | (with_reducible refine Kd.C_drew ?_))); (case side2 => exact HC0_0.out); rintro e w19 ⟨v104, rfl, ho0, hb⟩; refine ⟨_, rfl, ?_⟩; have n0_ := Aside0.mk (Kd.R_lower ho0 (below_size (by repeat (first | (with_reducible first | exact HB.out | apply below_alloc | apply pw_below_drewN | apply below_drew1 | refine below_set ?_ GE101.out) | exact HB.out)))); have n1_ := Aside0.mk (blk_below (g := gb101) (o := .cells #[.slice A0_0 l0_0.length c0_0, .int .i64 a0_1, .int .i64 a0_2, .int .i64 a0_3] 24 (0, 0)) (by (with_reducible repeat (first | refine blk_drewN ?_ _ | refine blk_drew ?_ | refine blk_alloc ?_ _)); exact BK101.out) hb); have n2_ := Aside0.mk (below_step (by repeat (first | (with_reducible first | exact HB.out | apply below_alloc | apply pw_below_drewN | apply below_drew1 | refine below_set ?_ GE101.out) | exact HB.out)) hb); clear BK101; clear HB; have HO105 := n0_; have BK101 := n1_; have HB := n2_; clear n0_ n1_ n2_; (try clear hb); (try clear hb2); (try clear hk); (try clear hi); (try clear ho0); obtain ⟨Ao20, co20, eo20⟩ := Kd.R_slice HO105.out; subst eo20) | ((with_reducible refine gate_callee (f := 41) rfl ?_); refine goesL_ (some 14) rfl rfl Try.func41 (by kernel_rfl) rfl #[.agg #[.slice Ao20 t103.length co20, .int .i64 t106, .int .i64 t107, .int .i64 t108]] rfl (by (try simp only [List.map_toArray, List.map_cons, List.map_nil]); first | done | rfl | (simp only [List.length_drop, List.length_take]; rfl) | (rw [IntWalk.u64_in _ (by omega)] <;> rfl)) ?_; (with_reducible refine (spec_VersionText.calls k _ _ t103 t106 t107 t108 t109 _ ?side1 ?side2 A8.out).mono ?_); (case side1 => repeat (first | exact (Kd.R_reads' HO105.out).2.2 | (with_reducible refine Kd.C_alloc ?_ _) | (with_reducible refine Kd.C_drewN ?_ _) | (with_reducible refine Kd.C_drew ?_))); (case side2 => exact (Kd.R_reads' HO105.out).2.1); rintro e w21 ⟨rfl, hb⟩; refine ⟨_, rfl, ?_⟩; have n0_ := Aside0.mk (Kd.R_below (by (with_reducible repeat (first | apply Kd.R_alloc | apply Kd.R_drewN | apply Kd.R_drew)); exact HO105.out) hb); have n1_ := Aside0.mk (blk_below (g := gb101) (o := .cells #[.slice A0_0 l0_0.length c0_0, .int .i64 a0_1, .int .i64 a0_2, .int .i64 a0_3] 24 (0, 0)) (by (with_reducible repeat (first | refine blk_drewN ?_ _ | refine blk_drew ?_ | refine blk_alloc ?_ _)); exact BK101.out) hb); have n2_ := Aside0.mk (below_step (by repeat (first | (with_reducible first | exact HB.out | apply below_alloc | apply pw_below_drewN | apply below_drew1 | refine below_set ?_ GE101.out) | exact HB.out)) hb); clear HO105; clear BK101; clear HB; have HO105 := n0_; have BK101 := n1_; have HB := n2_; clear n0_ n1_ n2_; (try clear hb); (try clear hb2); (try clear hk); (try clear hi); have hcz22_0 : w21.cell? ⟨gb101, 0, none⟩ = some (.slice A0_0 l0_0.length c0_0) := (blk_cell BK101.out 0).trans rfl; have hcz22_1 : w21.cell? ⟨gb101, 1, none⟩ = some (.int .i64 a0_1) := (blk_cell BK101.out 1).trans rfl; have hcz22_2 : w21.cell? ⟨gb101, 2, none⟩ = some (.int .i64 a0_2) := (blk_cell BK101.out 2).trans rfl; have hcz22_3 : w21.cell? ⟨gb101, 3, none⟩ = some (.int .i64 a0_3) := (blk_cell BK101.out 3).trans rfl; have hfz22_0 := blk_frozen BK101.out 0; have hfz22_1 := blk_frozen BK101.out 1; have hfz22_2 := blk_frozen BK101.out 2; have hfz22_3 := blk_frozen BK101.out 3) | ((with_reducible refine gate_callee (f := 18) rfl ?_); refine goesL_ (some 16) rfl rfl Try.func18 (by kernel_rfl) rfl #[.agg #[.slice A0_0 l0_0.length c0_0, .int .i64 a0_1, .int .i64 a0_2, .int .i64 a0_3]] rfl (by (try simp only [List.map_toArray, List.map_cons, List.map_nil]); first | done | rfl | (simp only [List.length_drop, List.length_take]; rfl) | (rw [IntWalk.u64_in _ (by omega)] <;> rfl)) ?_; (with_reducible refine (laws_toVersion.calls k _ _ l0_0 a0_1 a0_2 a0_3 t110 t113 t114 t115 _ ?side1 ?side2 A9.out).mono ?_); (case side1 => repeat (first | exact (Kd.C_below HR0_0.out HB.out) | (with_reducible refine Kd.C_alloc ?_ _) | (with_reducible refine Kd.C_drewN ?_ _) | (with_reducible refine Kd.C_drew ?_))); (case side2 => exact HC0_0.out); rintro e w23 ⟨v111, rfl, ho0, hb⟩; refine ⟨_, rfl, ?_⟩; have n0_ := Aside0.mk (Kd.R_elder' (by (with_reducible repeat (first | apply Kd.R_alloc | apply Kd.R_drewN | apply Kd.R_drew)); exact HO105.out) (Kd.R_base ho0) hb); have n1_ := Aside0.mk (Kd.R_lower (Kd.R_new' ho0 (Kd.R_lt (by (with_reducible repeat (first | apply Kd.R_alloc | apply Kd.R_drewN | apply Kd.R_drew)); exact HO105.out))) (below_size (by repeat (first | (with_reducible first | exact HB.out | apply below_alloc | apply pw_below_drewN | apply below_drew1 | refine below_set ?_ GE101.out) | exact HB.out)))); have n2_ := Aside0.mk (blk_below (g := gb101) (o := .cells #[.slice A0_0 l0_0.length c0_0, .int .i64 a0_1, .int .i64 a0_2, .int .i64 a0_3] 24 (0, 0)) (by (with_reducible repeat (first | refine blk_drewN ?_ _ | refine blk_drew ?_ | refine blk_alloc ?_ _)); exact BK101.out) hb); have n3_ := Aside0.mk (below_step (by repeat (first | (with_reducible first | exact HB.out | apply below_alloc | apply pw_below_drewN | apply below_drew1 | refine below_set ?_ GE101.out) | exact HB.out)) hb); clear HO105; clear BK101; clear HB; have HO105 := n0_; have HO112 := n1_; have BK101 := n2_; have HB := n3_; clear n0_ n1_ n2_ n3_; (try clear hb); (try clear hb2); (try clear hk); (try clear hi); (try clear ho0)) | ((with_reducible refine gate_dst (N := 5) rfl ?_); refine box_event ?hg (N := 5) ?hd (cs := #[.slice none 0 0, .int .i64 0, .int .i64 0, .int .i64 0]) (t := 32) ?hr ?_; (case hd => rfl); (case hg => rfl); (case hr => first | (go_simp; done) | (go_simp; rfl)); intro gb116 hg w24 hbox hb; have n0_ := Aside0.mk (Kd.R_below (by (with_reducible repeat (first | apply Kd.R_alloc | apply Kd.R_drewN | apply Kd.R_drew)); exact HO105.out) hb); have n1_ := Aside0.mk (Kd.R_below (by (with_reducible repeat (first | apply Kd.R_alloc | apply Kd.R_drewN | apply Kd.R_drew)); exact HO112.out) hb); have n2_ := Aside0.mk (blk_below (g := gb101) (o := .cells #[.slice A0_0 l0_0.length c0_0, .int .i64 a0_1, .int .i64 a0_2, .int .i64 a0_3] 24 (0, 0)) (by (with_reducible repeat (first | refine blk_drewN ?_ _ | refine blk_drew ?_ | refine blk_alloc ?_ _)); exact BK101.out) hb); have n3_ := Aside0.mk (below_step (by repeat (first | (with_reducible first | exact HB.out | apply below_alloc | apply pw_below_drewN | apply below_drew1 | refine below_set ?_ GE101.out) | exact HB.out)) hb); have n4_ := Aside0.mk (hbox); have n5_ := Aside0.mk ((by rw [hg]; exact (below_size (by repeat (first | (with_reducible first | exact HB.out | apply below_alloc | apply pw_below_drewN | apply below_drew1 | refine below_set ?_ GE101.out) | exact HB.out))) : w.heap.size ≤ gb116)); have n6_ := Aside0.mk ((by rw [hg]; exact (below_size (by repeat (first | (with_reducible first | exact HB.out | apply below_alloc | apply pw_below_drewN | apply below_drew1 | refine below_set ?_ GE101.out) | exact HB.out))) : w.heap.size ≤ gb116)); have n7_ := Aside0.mk ((by rw [hg]; exact Nat.ne_of_lt (blk_lt (g := gb101) (o := .cells #[.slice A0_0 l0_0.length c0_0, .int .i64 a0_1, .int .i64 a0_2, .int .i64 a0_3] 24 (0, 0)) (by (with_reducible repeat (first | refine blk_drewN ?_ _ | refine blk_drew ?_ | refine blk_alloc ?_ _)); exact BK101.out)) : gb101 ≠ gb116)); have n8_ := Aside0.mk ((by rw [hg]; exact Nat.ne_of_gt (blk_lt (g := gb101) (o := .cells #[.slice A0_0 l0_0.length c0_0, .int .i64 a0_1, .int .i64 a0_2, .int .i64 a0_3] 24 (0, 0)) (by (with_reducible repeat (first | refine blk_drewN ?_ _ | refine blk_drew ?_ | refine blk_alloc ?_ _)); exact BK101.out)) : gb116 ≠ gb101)); clear HO105; clear HO112; clear BK101; clear HB; have HO105 := n0_; have HO112 := n1_; have BK101 := n2_; have HB := n3_; have BK116 := n4_; have GW116 := n5_; have GE116 := n6_; have NB101_116 := n7_; have NB116_101 := n8_; clear n0_ n1_ n2_ n3_ n4_ n5_ n6_ n7_ n8_; clear hb hbox hg; obtain ⟨Ao25, co25, eo25⟩ := Kd.R_slice HO112.out; subst eo25; have hnb26 := NB116_101.out; have hnc26 := NB101_116.out; have hcz27_0 : w24.cell? ⟨gb116, 0, none⟩ = some (.slice none 0 0) := (blk_cell BK116.out 0).trans rfl; have hcz27_1 : w24.cell? ⟨gb116, 1, none⟩ = some (.int .i64 0) := (blk_cell BK116.out 1).trans rfl; have hcz27_2 : w24.cell? ⟨gb116, 2, none⟩ = some (.int .i64 0) := (blk_cell BK116.out 2).trans rfl; have hcz27_3 : w24.cell? ⟨gb116, 3, none⟩ = some (.int .i64 0) := (blk_cell BK116.out 3).trans rfl; have hfz27_0 := blk_frozen BK116.out 0; have hfz27_1 := blk_frozen BK116.out 1; have hfz27_2 := blk_frozen BK116.out 2; have hfz27_3 := blk_frozen BK116.out 3) | ((with_reducible refine gate_callee (f := 42) rfl ?_); refine goesL_ (some 18) rfl rfl Try.func42 (by kernel_rfl) rfl #[.agg #[.slice Ao25 t110.length co25, .int .i64 t113, .int .i64 t114, .int .i64 t115]] rfl (by (try simp only [List.map_toArray, List.map_cons, List.map_nil]); first | done | rfl | (simp only [List.length_drop, List.length_take]; rfl) | (rw [IntWalk.u64_in _ (by omega)] <;> rfl)) ?_; (with_reducible refine (impl_VersionText.calls k _ _ t110 t113 t114 t115 t117 _ ?side1 ?side2 A10.out).mono ?_); (case side1 => refine (Kd.R_reads' (e := 66) (base := w.heap.size) (ok := fun k_ => (True ∧ some k_ ≠ (.slice Ao20 t103.length co20 : Value).ownBlock)) (n := t110.length) (c := co25) ?_).2.2; exact (by (with_reducible repeat (first | apply Kd.R_alloc | apply Kd.R_drewN | apply Kd.R_drew)); exact (Kd.R_mono (Kd.R_far (p := ⟨gb116, 3, none⟩) (Kd.R_far (p := ⟨gb116, 2, none⟩) (Kd.R_far (p := ⟨gb116, 1, none⟩) (Kd.R_far (p := ⟨gb116, 0, none⟩) (Kd.R_types HO112.out BK116.out (by decide)) (fun _ hk => hk.2) (.slice Ao25 t110.length co25)) (fun _ hk => hk.2) (.int .i64 t113)) (fun _ hk => hk.2) (.int .i64 t114)) (fun _ hk => hk.2) (.int .i64 t115)) (fun _ h_ => h_.1)))); (case side2 => exact (Kd.R_reads' HO112.out).2.1); rintro e w28 ⟨rfl, hb⟩; refine ⟨_, rfl, ?_⟩; have n0_ := Aside0.mk (Kd.R_below (by (with_reducible repeat (first | apply Kd.R_alloc | apply Kd.R_drewN | apply Kd.R_drew)); exact (Kd.R_mono (Kd.R_far (p := ⟨gb116, 3, none⟩) (Kd.R_far (p := ⟨gb116, 2, none⟩) (Kd.R_far (p := ⟨gb116, 1, none⟩) (Kd.R_far (p := ⟨gb116, 0, none⟩) (Kd.R_types HO105.out BK116.out (by decide)) (fun _ hk => hk.2) (.slice Ao25 t110.length co25)) (fun _ hk => hk.2) (.int .i64 t113)) (fun _ hk => hk.2) (.int .i64 t114)) (fun _ hk => hk.2) (.int .i64 t115)) (fun _ h_ => h_.1))) hb); have n1_ := Aside0.mk (Kd.R_below (by (with_reducible repeat (first | apply Kd.R_alloc | apply Kd.R_drewN | apply Kd.R_drew)); exact (Kd.R_mono (Kd.R_far (p := ⟨gb116, 3, none⟩) (Kd.R_far (p := ⟨gb116, 2, none⟩) (Kd.R_far (p := ⟨gb116, 1, none⟩) (Kd.R_far (p := ⟨gb116, 0, none⟩) (Kd.R_types HO112.out BK116.out (by decide)) (fun _ hk => hk.2) (.slice Ao25 t110.length co25)) (fun _ hk => hk.2) (.int .i64 t113)) (fun _ hk => hk.2) (.int .i64 t114)) (fun _ hk => hk.2) (.int .i64 t115)) (fun _ h_ => h_.1))) hb); have n2_ := Aside0.mk (blk_below (g := gb101) (o := .cells #[.slice A0_0 l0_0.length c0_0, .int .i64 a0_1, .int .i64 a0_2, .int .i64 a0_3] 24 (0, 0)) (by (with_reducible repeat (first | refine blk_drewN ?_ _ | refine blk_drew ?_ | refine blk_alloc ?_ _)); refine blk_far ?_ NB101_116.out _; (with_reducible repeat (first | refine blk_drewN ?_ _ | refine blk_drew ?_ | refine blk_alloc ?_ _)); refine blk_far ?_ NB101_116.out _; (with_reducible repeat (first | refine blk_drewN ?_ _ | refine blk_drew ?_ | refine blk_alloc ?_ _)); refine blk_far ?_ NB101_116.out _; (with_reducible repeat (first | refine blk_drewN ?_ _ | refine blk_drew ?_ | refine blk_alloc ?_ _)); refine blk_far ?_ NB101_116.out _; (with_reducible repeat (first | refine blk_drewN ?_ _ | refine blk_drew ?_ | refine blk_alloc ?_ _)); exact BK101.out) hb); have n3_ := Aside0.mk (blk_below (g := gb116) (o := .cells #[.slice Ao25 t110.length co25, .int .i64 t113, .int .i64 t114, .int .i64 t115] 32 (0, 0)) (by (with_reducible repeat (first | refine blk_drewN ?_ _ | refine blk_drew ?_ | refine blk_alloc ?_ _)); refine blk_put (cs := #[.slice Ao25 t110.length co25, .int .i64 t113, .int .i64 t114, .int .i64 0]) ?_ 3 _ rfl; (with_reducible repeat (first | refine blk_drewN ?_ _ | refine blk_drew ?_ | refine blk_alloc ?_ _)); refine blk_put (cs := #[.slice Ao25 t110.length co25, .int .i64 t113, .int .i64 0, .int .i64 0]) ?_ 2 _ rfl; (with_reducible repeat (first | refine blk_drewN ?_ _ | refine blk_drew ?_ | refine blk_alloc ?_ _)); refine blk_put (cs := #[.slice Ao25 t110.length co25, .int .i64 0, .int .i64 0, .int .i64 0]) ?_ 1 _ rfl; (with_reducible repeat (first | refine blk_drewN ?_ _ | refine blk_drew ?_ | refine blk_alloc ?_ _)); refine blk_put (cs := #[.slice none 0 0, .int .i64 0, .int .i64 0, .int .i64 0]) ?_ 0 _ rfl; (with_reducible repeat (first | refine blk_drewN ?_ _ | refine blk_drew ?_ | refine blk_alloc ?_ _)); exact BK116.out) hb); have n4_ := Aside0.mk (below_step (by repeat (first | (with_reducible first | exact HB.out | apply below_alloc | apply pw_below_drewN | apply below_drew1 | refine below_set ?_ GE101.out | refine below_set ?_ GE116.out) | exact HB.out)) hb); clear HO105; clear HO112; clear BK101; clear BK116; clear HB; have HO105 := n0_; have HO112 := n1_; have BK101 := n2_; have BK116 := n3_; have HB := n4_; clear n0_ n1_ n2_ n3_ n4_; (try clear hb); (try clear hb2); (try clear hk); (try clear hi)))
        have n0_ := Aside0.mk (Kd.R_drew HO105.out)
        have n1_ := Aside0.mk (Kd.R_drew HO112.out)
        have n2_ := Aside0.mk (blk_drew BK101.out)
        have n3_ := Aside0.mk (blk_drew BK116.out)
        have n4_ := Aside0.mk (below_drew1 HB.out)
        clear HO105
        clear HO112
        clear BK101
        clear BK116
        clear HB
        have HO105 := n0_
        have HO112 := n1_
        have BK101 := n2_
        have BK116 := n3_
        have HB := n4_
        clear n0_ n1_ n2_ n3_ n4_
        refine start_ (n := 5) (S := fun w' => w'.cell? ⟨gb116, 0, none⟩ = some (.slice Ao25 t110.length co25) ∧ w'.cell? ⟨gb116, 1, none⟩ = some (.int .i64 t113) ∧ w'.cell? ⟨gb116, 2, none⟩ = some (.int .i64 t114) ∧ w'.cell? ⟨gb116, 3, none⟩ = some (.int .i64 t115) ∧ w'.cell? ⟨gb101, 0, none⟩ = some (.slice A0_0 l0_0.length c0_0) ∧ w'.cell? ⟨gb101, 1, none⟩ = some (.int .i64 a0_1) ∧ w'.cell? ⟨gb101, 2, none⟩ = some (.int .i64 a0_2) ∧ w'.cell? ⟨gb101, 3, none⟩ = some (.int .i64 a0_3)) (ds := []) #[false, false, false, false, false] (by kernel_rfl) rfl rfl ⟨(blk_cell BK116.out 0).trans rfl, (blk_cell BK116.out 1).trans rfl, (blk_cell BK116.out 2).trans rfl, (blk_cell BK116.out 3).trans rfl, (blk_cell BK101.out 0).trans rfl, (blk_cell BK101.out 1).trans rfl, (blk_cell BK101.out 2).trans rfl, (blk_cell BK101.out 3).trans rfl⟩ (fun hHeld => ?_)
        generalize w28.drew = w29 at HO105 HO112 BK101 BK116 HB hHeld ⊢
        refine take_ (i := 0) (N := some 22) (v := ?_) (a' := ?_) #[true, false, false, false, false] rfl rfl (by kernel_rfl) (fun _ _ _ h => h) (Or.inl ⟨by rfl, ?_⟩) hHeld ?_ ?_
        rotate_left
        · rintro w' ⟨s0, s1, s2, s3, s4, s5, s6, s7⟩
          go_simp
          with_reducible rfl
        rotate_left
        · simp only [Act.put, List.setIfInBounds_toArray, List.set_cons_zero, List.set_cons_succ, i64_w, i32_w]
          rfl
        refine take_ (i := 1) (N := some 23) (v := ?_) (a' := ?_) #[true, true, false, false, false] rfl rfl (by kernel_rfl) (fun _ _ _ h => h) (Or.inl ⟨by rfl, ?_⟩) hHeld ?_ ?_
        rotate_left
        · rintro w' ⟨s0, s1, s2, s3, s4, s5, s6, s7⟩
          go_simp
          with_reducible rfl
        rotate_left
        · simp only [Act.put, List.setIfInBounds_toArray, List.set_cons_zero, List.set_cons_succ, i64_w, i32_w]
          rfl
        refine one_ (i := 2) (N := some 24) #[true, true, true, false, false] rfl rfl (by kernel_rfl) (by decide) (fun K hK => ?_)
        refine goes_ Try.func18 (by kernel_rfl) rfl #[.agg #[.slice A0_0 l0_0.length c0_0, .int .i64 a0_1, .int .i64 a0_2, .int .i64 a0_3]] (by rfl) rfl rfl (by (try simp only [List.map_toArray, List.map_cons, List.map_nil]); first | done | rfl | (simp only [List.length_drop, List.length_take]; rfl) | (rw [IntWalk.u64_in _ (by omega)] <;> rfl)) ?_
        with_reducible refine (laws_toVersion.calls k _ _ l0_0 a0_1 a0_2 a0_3 t118 t121 t122 t123 _ ?side1 ?side2 A12.out).mono ?_
        (case side1 => repeat (first | exact (Kd.C_below HR0_0.out HB.out) | (with_reducible refine Kd.C_alloc ?_ _) | (with_reducible refine Kd.C_drewN ?_ _) | (with_reducible refine Kd.C_drew ?_)))
        (case side2 => exact HC0_0.out)
        rintro e w30 ⟨v119, rfl, ho0, hb⟩
        refine ⟨_, rfl, ?_⟩
        have n0_ := Aside0.mk (Kd.R_elder' (by (with_reducible repeat (first | apply Kd.R_alloc | apply Kd.R_drewN | apply Kd.R_drew)); exact HO105.out) (Kd.R_base ho0) hb)
        have n1_ := Aside0.mk (Kd.R_elder' (by (with_reducible repeat (first | apply Kd.R_alloc | apply Kd.R_drewN | apply Kd.R_drew)); exact HO112.out) (Kd.R_base ho0) hb)
        have n2_ := Aside0.mk (Kd.R_lower (Kd.R_new' (Kd.R_new' ho0 (Kd.R_lt (by (with_reducible repeat (first | apply Kd.R_alloc | apply Kd.R_drewN | apply Kd.R_drew)); exact HO105.out))) (Kd.R_lt (by (with_reducible repeat (first | apply Kd.R_alloc | apply Kd.R_drewN | apply Kd.R_drew)); exact HO112.out))) (below_size (by repeat (first | (with_reducible first | exact HB.out | apply below_alloc | apply pw_below_drewN | apply below_drew1 | refine below_set ?_ GE101.out | refine below_set ?_ GE116.out) | exact HB.out))))
        have n3_ := Aside0.mk (blk_below (g := gb101) (o := .cells #[.slice A0_0 l0_0.length c0_0, .int .i64 a0_1, .int .i64 a0_2, .int .i64 a0_3] 24 (0, 0)) (by (with_reducible repeat (first | refine blk_drewN ?_ _ | refine blk_drew ?_ | refine blk_alloc ?_ _)); exact BK101.out) hb)
        have n4_ := Aside0.mk (blk_below (g := gb116) (o := .cells #[.slice Ao25 t110.length co25, .int .i64 t113, .int .i64 t114, .int .i64 t115] 32 (0, 0)) (by (with_reducible repeat (first | refine blk_drewN ?_ _ | refine blk_drew ?_ | refine blk_alloc ?_ _)); exact BK116.out) hb)
        have n5_ := Aside0.mk (below_step (by repeat (first | (with_reducible first | exact HB.out | apply below_alloc | apply pw_below_drewN | apply below_drew1 | refine below_set ?_ GE101.out | refine below_set ?_ GE116.out) | exact HB.out)) hb)
        clear HO105
        clear HO112
        clear BK101
        clear BK116
        clear HB
        have HO105 := n0_
        have HO112 := n1_
        have HO120 := n2_
        have BK101 := n3_
        have BK116 := n4_
        have HB := n5_
        clear n0_ n1_ n2_ n3_ n4_ n5_
        (try clear hb)
        (try clear hb2)
        (try clear hk)
        (try clear hi)
        (try clear ho0)
        obtain ⟨Ao31, co31, eo31⟩ := Kd.R_slice HO120.out
        (first | subst eo31 | (injection eo31 with f1_ f2_ f3_; have f4_ := f1_.symm; have f5_ := f3_.symm; clear f1_ f2_ f3_; subst f4_; subst f5_))
        refine hK.out _ _ ⟨(blk_cell BK116.out 0).trans rfl, (blk_cell BK116.out 1).trans rfl, (blk_cell BK116.out 2).trans rfl, (blk_cell BK116.out 3).trans rfl, (blk_cell BK101.out 0).trans rfl, (blk_cell BK101.out 1).trans rfl, (blk_cell BK101.out 2).trans rfl, (blk_cell BK101.out 3).trans rfl⟩ (fun hHeld => ?_)
        clear hK K
        refine norm_ (a' := ?_) ?_ ?_
        rotate_left
        · show Act.put _ (some 24) _ = _
          simp only [Act.put, List.setIfInBounds_toArray, List.set_cons_zero, List.set_cons_succ, i64_w, i32_w]
          rfl
        refine one_ (i := 3) (N := some 25) #[true, true, true, true, false] rfl rfl (by kernel_rfl) (by decide) (fun K hK => ?_)
        refine goes_ Try.func21 (by kernel_rfl) rfl #[.agg #[.slice Ao25 t110.length co25, .int .i64 t113, .int .i64 t114, .int .i64 t115], .agg #[.slice Ao31 t118.length co31, .int .i64 t121, .int .i64 t122, .int .i64 t123]] (by rfl) rfl rfl (by (try simp only [List.map_toArray, List.map_cons, List.map_nil]); first | done | rfl | (simp only [List.length_drop, List.length_take]; rfl) | (rw [IntWalk.u64_in _ (by omega)] <;> rfl)) ?_
        with_reducible refine (laws_eqVersion.calls k _ _ t110 t113 t114 t115 _ _ t118 t121 t122 t123 true _ ?side1 ?side2 ?side3 ?side4 A13.out).mono ?_
        (case side1 => repeat (first | exact (Kd.R_reads' HO112.out).2.2 | (with_reducible refine Kd.C_alloc ?_ _) | (with_reducible refine Kd.C_drewN ?_ _) | (with_reducible refine Kd.C_drew ?_)))
        (case side2 => exact (Kd.R_reads' HO112.out).2.1)
        (case side3 => repeat (first | exact (Kd.R_reads' HO120.out).2.2 | (with_reducible refine Kd.C_alloc ?_ _) | (with_reducible refine Kd.C_drewN ?_ _) | (with_reducible refine Kd.C_drew ?_)))
        (case side4 => exact (Kd.R_reads' HO120.out).2.1)
        rintro e w32 ⟨rfl, hb⟩
        refine ⟨_, rfl, ?_⟩
        have n0_ := Aside0.mk (Kd.R_below (by (with_reducible repeat (first | apply Kd.R_alloc | apply Kd.R_drewN | apply Kd.R_drew)); exact HO105.out) hb)
        have n1_ := Aside0.mk (Kd.R_below (by (with_reducible repeat (first | apply Kd.R_alloc | apply Kd.R_drewN | apply Kd.R_drew)); exact HO112.out) hb)
        have n2_ := Aside0.mk (Kd.R_below (by (with_reducible repeat (first | apply Kd.R_alloc | apply Kd.R_drewN | apply Kd.R_drew)); exact HO120.out) hb)
        have n3_ := Aside0.mk (blk_below (g := gb101) (o := .cells #[.slice A0_0 l0_0.length c0_0, .int .i64 a0_1, .int .i64 a0_2, .int .i64 a0_3] 24 (0, 0)) (by (with_reducible repeat (first | refine blk_drewN ?_ _ | refine blk_drew ?_ | refine blk_alloc ?_ _)); exact BK101.out) hb)
        have n4_ := Aside0.mk (blk_below (g := gb116) (o := .cells #[.slice Ao25 t110.length co25, .int .i64 t113, .int .i64 t114, .int .i64 t115] 32 (0, 0)) (by (with_reducible repeat (first | refine blk_drewN ?_ _ | refine blk_drew ?_ | refine blk_alloc ?_ _)); exact BK116.out) hb)
        have n5_ := Aside0.mk (below_step (by repeat (first | (with_reducible first | exact HB.out | apply below_alloc | apply pw_below_drewN | apply below_drew1 | refine below_set ?_ GE101.out | refine below_set ?_ GE116.out) | exact HB.out)) hb)
        clear HO105
        clear HO112
        clear HO120
        clear BK101
        clear BK116
        clear HB
        have HO105 := n0_
        have HO112 := n1_
        have HO120 := n2_
        have BK101 := n3_
        have BK116 := n4_
        have HB := n5_
        clear n0_ n1_ n2_ n3_ n4_ n5_
        (try clear hb)
        (try clear hb2)
        (try clear hk)
        (try clear hi)
        refine hK.out _ _ ⟨(blk_cell BK116.out 0).trans rfl, (blk_cell BK116.out 1).trans rfl, (blk_cell BK116.out 2).trans rfl, (blk_cell BK116.out 3).trans rfl, (blk_cell BK101.out 0).trans rfl, (blk_cell BK101.out 1).trans rfl, (blk_cell BK101.out 2).trans rfl, (blk_cell BK101.out 3).trans rfl⟩ (fun hHeld => ?_)
        clear hK K
        refine norm_ (a' := ?_) ?_ ?_
        rotate_left
        · show Act.put _ (some 25) _ = _
          simp only [Act.put, List.setIfInBounds_toArray, List.set_cons_zero, List.set_cons_succ, i64_w, i32_w]
          rfl
        refine pure_ (i := 4) (N := some 26) (v := ?_) (a' := ?_) #[true, true, true, true, true] rfl rfl (by kernel_rfl) (fun _ _ _ h => h) (Or.inl ⟨by rfl, ?_⟩) ?_ ?_
        rotate_left
        · intro w'
          go_simp
          with_reducible rfl
        rotate_left
        · simp only [Act.put, List.setIfInBounds_toArray, List.set_cons_zero, List.set_cons_succ, i64_w, i32_w]
          rfl
        refine done_ (by kernel_rfl) ?_
        try go_wp2
        go_ret
        exact ⟨by first | rfl | (simp [errW_none, errW_some] <;> rfl) | (simp [*, errW_none, errW_some] <;> rfl), by repeat (first | (with_reducible first | exact HB.out | apply below_alloc | apply pw_below_drewN | apply below_drew1 | refine below_set ?_ GE101.out | refine below_set ?_ GE116.out) | exact HB.out)⟩
      · replace c14 := Bool.eq_false_iff.mpr c14
        subst c14
        have H1 : (some false) = some r := by rw [if_neg (show ¬ (false = true) by decide)] at H; exact H
        clear H
        have H := H1
        clear H1
        obtain rfl := Option.some.inj H
        go_enter Try.func8, Try.ntmps8
        try go_wp2_with (first | ((with_reducible refine gate_dst (N := 1) rfl ?_); refine box_event ?hg (N := 1) ?hd (cs := #[.slice A0_0 l0_0.length c0_0, .int .i64 a0_1, .int .i64 a0_2, .int .i64 a0_3]) (t := 24) ?hr ?_; (case hd => rfl); (case hg => rfl); (case hr => first | (go_simp; done) | (go_simp; rfl)); intro gb101 hg w33 hbox hb; have n0_ := Aside0.mk (below_step (by repeat (first | (with_reducible first | exact HB.out | apply below_alloc | apply pw_below_drewN | apply below_drew1) | exact HB.out)) hb); have n1_ := Aside0.mk (hbox); have n2_ := Aside0.mk ((by rw [hg]; exact (below_size (by repeat (first | (with_reducible first | exact HB.out | apply below_alloc | apply pw_below_drewN | apply below_drew1) | exact HB.out))) : w.heap.size ≤ gb101)); have n3_ := Aside0.mk ((by rw [hg]; exact (below_size (by repeat (first | (with_reducible first | exact HB.out | apply below_alloc | apply pw_below_drewN | apply below_drew1) | exact HB.out))) : w.heap.size ≤ gb101)); clear HB; have HB := n0_; have BK101 := n1_; have GW101 := n2_; have GE101 := n3_; clear n0_ n1_ n2_ n3_; clear hb hbox hg; have hcz34_0 : w33.cell? ⟨gb101, 0, none⟩ = some (.slice A0_0 l0_0.length c0_0) := (blk_cell BK101.out 0).trans rfl; have hcz34_1 : w33.cell? ⟨gb101, 1, none⟩ = some (.int .i64 a0_1) := (blk_cell BK101.out 1).trans rfl; have hcz34_2 : w33.cell? ⟨gb101, 2, none⟩ = some (.int .i64 a0_2) := (blk_cell BK101.out 2).trans rfl; have hcz34_3 : w33.cell? ⟨gb101, 3, none⟩ = some (.int .i64 a0_3) := (blk_cell BK101.out 3).trans rfl; have hfz34_0 := blk_frozen BK101.out 0; have hfz34_1 := blk_frozen BK101.out 1; have hfz34_2 := blk_frozen BK101.out 2; have hfz34_3 := blk_frozen BK101.out 3) | ((with_reducible refine gate_callee (f := 15) rfl ?_); refine goesL_ (some 9) rfl rfl Try.func15 (by kernel_rfl) rfl #[.agg #[.slice A0_0 l0_0.length c0_0, .int .i64 a0_1, .int .i64 a0_2, .int .i64 a0_3], .int .i64 1048576] rfl (by (try simp only [List.map_toArray, List.map_cons, List.map_nil]); first | done | rfl | (simp only [List.length_drop, List.length_take]; rfl) | (rw [IntWalk.u64_in _ (by omega)] <;> rfl)) ?_; (with_reducible refine (laws_szVersion.calls k _ _ l0_0 a0_1 a0_2 a0_3 1048576 t102 _ ?side1 ?side2 A2.out).mono ?_); (case side1 => repeat (first | exact (Kd.C_below HR0_0.out HB.out) | (with_reducible refine Kd.C_alloc ?_ _) | (with_reducible refine Kd.C_drewN ?_ _) | (with_reducible refine Kd.C_drew ?_))); (case side2 => exact HC0_0.out); rintro e w35 ⟨rfl, hb⟩; refine ⟨_, rfl, ?_⟩; have n0_ := Aside0.mk (blk_below (g := gb101) (o := .cells #[.slice A0_0 l0_0.length c0_0, .int .i64 a0_1, .int .i64 a0_2, .int .i64 a0_3] 24 (0, 0)) (by (with_reducible repeat (first | refine blk_drewN ?_ _ | refine blk_drew ?_ | refine blk_alloc ?_ _)); exact BK101.out) hb); have n1_ := Aside0.mk (below_step (by repeat (first | (with_reducible first | exact HB.out | apply below_alloc | apply pw_below_drewN | apply below_drew1 | refine below_set ?_ GE101.out) | exact HB.out)) hb); clear BK101; clear HB; have BK101 := n0_; have HB := n1_; clear n0_ n1_; (try clear hb); (try clear hb2); (try clear hk); (try clear hi); have hcz36_0 : w35.cell? ⟨gb101, 0, none⟩ = some (.slice A0_0 l0_0.length c0_0) := (blk_cell BK101.out 0).trans rfl; have hcz36_1 : w35.cell? ⟨gb101, 1, none⟩ = some (.int .i64 a0_1) := (blk_cell BK101.out 1).trans rfl; have hcz36_2 : w35.cell? ⟨gb101, 2, none⟩ = some (.int .i64 a0_2) := (blk_cell BK101.out 2).trans rfl; have hcz36_3 : w35.cell? ⟨gb101, 3, none⟩ = some (.int .i64 a0_3) := (blk_cell BK101.out 3).trans rfl; have hfz36_0 := blk_frozen BK101.out 0; have hfz36_1 := blk_frozen BK101.out 1; have hfz36_2 := blk_frozen BK101.out 2; have hfz36_3 := blk_frozen BK101.out 3) | ((with_reducible refine gate_callee (f := 18) rfl ?_); refine goesL_ (some 13) rfl rfl Try.func18 (by kernel_rfl) rfl #[.agg #[.slice A0_0 l0_0.length c0_0, .int .i64 a0_1, .int .i64 a0_2, .int .i64 a0_3]] rfl (by (try simp only [List.map_toArray, List.map_cons, List.map_nil]); first | done | rfl | (simp only [List.length_drop, List.length_take]; rfl) | (rw [IntWalk.u64_in _ (by omega)] <;> rfl)) ?_; (with_reducible refine (laws_toVersion.calls k _ _ l0_0 a0_1 a0_2 a0_3 t103 t106 t107 t108 _ ?side1 ?side2 A7.out).mono ?_); (case side1 => repeat (first | exact (Kd.C_below HR0_0.out HB.out) | (with_reducible refine Kd.C_alloc ?_ _) | (with_reducible refine Kd.C_drewN ?_ _) | (with_reducible refine Kd.C_drew ?_))); (case side2 => exact HC0_0.out); rintro e w37 ⟨v104, rfl, ho0, hb⟩; refine ⟨_, rfl, ?_⟩; have n0_ := Aside0.mk (Kd.R_lower ho0 (below_size (by repeat (first | (with_reducible first | exact HB.out | apply below_alloc | apply pw_below_drewN | apply below_drew1 | refine below_set ?_ GE101.out) | exact HB.out)))); have n1_ := Aside0.mk (blk_below (g := gb101) (o := .cells #[.slice A0_0 l0_0.length c0_0, .int .i64 a0_1, .int .i64 a0_2, .int .i64 a0_3] 24 (0, 0)) (by (with_reducible repeat (first | refine blk_drewN ?_ _ | refine blk_drew ?_ | refine blk_alloc ?_ _)); exact BK101.out) hb); have n2_ := Aside0.mk (below_step (by repeat (first | (with_reducible first | exact HB.out | apply below_alloc | apply pw_below_drewN | apply below_drew1 | refine below_set ?_ GE101.out) | exact HB.out)) hb); clear BK101; clear HB; have HO105 := n0_; have BK101 := n1_; have HB := n2_; clear n0_ n1_ n2_; (try clear hb); (try clear hb2); (try clear hk); (try clear hi); (try clear ho0); obtain ⟨Ao38, co38, eo38⟩ := Kd.R_slice HO105.out; subst eo38) | ((with_reducible refine gate_callee (f := 41) rfl ?_); refine goesL_ (some 14) rfl rfl Try.func41 (by kernel_rfl) rfl #[.agg #[.slice Ao38 t103.length co38, .int .i64 t106, .int .i64 t107, .int .i64 t108]] rfl (by (try simp only [List.map_toArray, List.map_cons, List.map_nil]); first | done | rfl | (simp only [List.length_drop, List.length_take]; rfl) | (rw [IntWalk.u64_in _ (by omega)] <;> rfl)) ?_; (with_reducible refine (spec_VersionText.calls k _ _ t103 t106 t107 t108 t109 _ ?side1 ?side2 A8.out).mono ?_); (case side1 => repeat (first | exact (Kd.R_reads' HO105.out).2.2 | (with_reducible refine Kd.C_alloc ?_ _) | (with_reducible refine Kd.C_drewN ?_ _) | (with_reducible refine Kd.C_drew ?_))); (case side2 => exact (Kd.R_reads' HO105.out).2.1); rintro e w39 ⟨rfl, hb⟩; refine ⟨_, rfl, ?_⟩; have n0_ := Aside0.mk (Kd.R_below (by (with_reducible repeat (first | apply Kd.R_alloc | apply Kd.R_drewN | apply Kd.R_drew)); exact HO105.out) hb); have n1_ := Aside0.mk (blk_below (g := gb101) (o := .cells #[.slice A0_0 l0_0.length c0_0, .int .i64 a0_1, .int .i64 a0_2, .int .i64 a0_3] 24 (0, 0)) (by (with_reducible repeat (first | refine blk_drewN ?_ _ | refine blk_drew ?_ | refine blk_alloc ?_ _)); exact BK101.out) hb); have n2_ := Aside0.mk (below_step (by repeat (first | (with_reducible first | exact HB.out | apply below_alloc | apply pw_below_drewN | apply below_drew1 | refine below_set ?_ GE101.out) | exact HB.out)) hb); clear HO105; clear BK101; clear HB; have HO105 := n0_; have BK101 := n1_; have HB := n2_; clear n0_ n1_ n2_; (try clear hb); (try clear hb2); (try clear hk); (try clear hi); have hcz40_0 : w39.cell? ⟨gb101, 0, none⟩ = some (.slice A0_0 l0_0.length c0_0) := (blk_cell BK101.out 0).trans rfl; have hcz40_1 : w39.cell? ⟨gb101, 1, none⟩ = some (.int .i64 a0_1) := (blk_cell BK101.out 1).trans rfl; have hcz40_2 : w39.cell? ⟨gb101, 2, none⟩ = some (.int .i64 a0_2) := (blk_cell BK101.out 2).trans rfl; have hcz40_3 : w39.cell? ⟨gb101, 3, none⟩ = some (.int .i64 a0_3) := (blk_cell BK101.out 3).trans rfl; have hfz40_0 := blk_frozen BK101.out 0; have hfz40_1 := blk_frozen BK101.out 1; have hfz40_2 := blk_frozen BK101.out 2; have hfz40_3 := blk_frozen BK101.out 3) | ((with_reducible refine gate_callee (f := 18) rfl ?_); refine goesL_ (some 16) rfl rfl Try.func18 (by kernel_rfl) rfl #[.agg #[.slice A0_0 l0_0.length c0_0, .int .i64 a0_1, .int .i64 a0_2, .int .i64 a0_3]] rfl (by (try simp only [List.map_toArray, List.map_cons, List.map_nil]); first | done | rfl | (simp only [List.length_drop, List.length_take]; rfl) | (rw [IntWalk.u64_in _ (by omega)] <;> rfl)) ?_; (with_reducible refine (laws_toVersion.calls k _ _ l0_0 a0_1 a0_2 a0_3 t110 t113 t114 t115 _ ?side1 ?side2 A9.out).mono ?_); (case side1 => repeat (first | exact (Kd.C_below HR0_0.out HB.out) | (with_reducible refine Kd.C_alloc ?_ _) | (with_reducible refine Kd.C_drewN ?_ _) | (with_reducible refine Kd.C_drew ?_))); (case side2 => exact HC0_0.out); rintro e w41 ⟨v111, rfl, ho0, hb⟩; refine ⟨_, rfl, ?_⟩; have n0_ := Aside0.mk (Kd.R_elder' (by (with_reducible repeat (first | apply Kd.R_alloc | apply Kd.R_drewN | apply Kd.R_drew)); exact HO105.out) (Kd.R_base ho0) hb); have n1_ := Aside0.mk (Kd.R_lower (Kd.R_new' ho0 (Kd.R_lt (by (with_reducible repeat (first | apply Kd.R_alloc | apply Kd.R_drewN | apply Kd.R_drew)); exact HO105.out))) (below_size (by repeat (first | (with_reducible first | exact HB.out | apply below_alloc | apply pw_below_drewN | apply below_drew1 | refine below_set ?_ GE101.out) | exact HB.out)))); have n2_ := Aside0.mk (blk_below (g := gb101) (o := .cells #[.slice A0_0 l0_0.length c0_0, .int .i64 a0_1, .int .i64 a0_2, .int .i64 a0_3] 24 (0, 0)) (by (with_reducible repeat (first | refine blk_drewN ?_ _ | refine blk_drew ?_ | refine blk_alloc ?_ _)); exact BK101.out) hb); have n3_ := Aside0.mk (below_step (by repeat (first | (with_reducible first | exact HB.out | apply below_alloc | apply pw_below_drewN | apply below_drew1 | refine below_set ?_ GE101.out) | exact HB.out)) hb); clear HO105; clear BK101; clear HB; have HO105 := n0_; have HO112 := n1_; have BK101 := n2_; have HB := n3_; clear n0_ n1_ n2_ n3_; (try clear hb); (try clear hb2); (try clear hk); (try clear hi); (try clear ho0)) | ((with_reducible refine gate_dst (N := 5) rfl ?_); refine box_event ?hg (N := 5) ?hd (cs := #[.slice none 0 0, .int .i64 0, .int .i64 0, .int .i64 0]) (t := 32) ?hr ?_; (case hd => rfl); (case hg => rfl); (case hr => first | (go_simp; done) | (go_simp; rfl)); intro gb116 hg w42 hbox hb; have n0_ := Aside0.mk (Kd.R_below (by (with_reducible repeat (first | apply Kd.R_alloc | apply Kd.R_drewN | apply Kd.R_drew)); exact HO105.out) hb); have n1_ := Aside0.mk (Kd.R_below (by (with_reducible repeat (first | apply Kd.R_alloc | apply Kd.R_drewN | apply Kd.R_drew)); exact HO112.out) hb); have n2_ := Aside0.mk (blk_below (g := gb101) (o := .cells #[.slice A0_0 l0_0.length c0_0, .int .i64 a0_1, .int .i64 a0_2, .int .i64 a0_3] 24 (0, 0)) (by (with_reducible repeat (first | refine blk_drewN ?_ _ | refine blk_drew ?_ | refine blk_alloc ?_ _)); exact BK101.out) hb); have n3_ := Aside0.mk (below_step (by repeat (first | (with_reducible first | exact HB.out | apply below_alloc | apply pw_below_drewN | apply below_drew1 | refine below_set ?_ GE101.out) | exact HB.out)) hb); have n4_ := Aside0.mk (hbox); have n5_ := Aside0.mk ((by rw [hg]; exact (below_size (by repeat (first | (with_reducible first | exact HB.out | apply below_alloc | apply pw_below_drewN | apply below_drew1 | refine below_set ?_ GE101.out) | exact HB.out))) : w.heap.size ≤ gb116)); have n6_ := Aside0.mk ((by rw [hg]; exact (below_size (by repeat (first | (with_reducible first | exact HB.out | apply below_alloc | apply pw_below_drewN | apply below_drew1 | refine below_set ?_ GE101.out) | exact HB.out))) : w.heap.size ≤ gb116)); have n7_ := Aside0.mk ((by rw [hg]; exact Nat.ne_of_lt (blk_lt (g := gb101) (o := .cells #[.slice A0_0 l0_0.length c0_0, .int .i64 a0_1, .int .i64 a0_2, .int .i64 a0_3] 24 (0, 0)) (by (with_reducible repeat (first | refine blk_drewN ?_ _ | refine blk_drew ?_ | refine blk_alloc ?_ _)); exact BK101.out)) : gb101 ≠ gb116)); have n8_ := Aside0.mk ((by rw [hg]; exact Nat.ne_of_gt (blk_lt (g := gb101) (o := .cells #[.slice A0_0 l0_0.length c0_0, .int .i64 a0_1, .int .i64 a0_2, .int .i64 a0_3] 24 (0, 0)) (by (with_reducible repeat (first | refine blk_drewN ?_ _ | refine blk_drew ?_ | refine blk_alloc ?_ _)); exact BK101.out)) : gb116 ≠ gb101)); clear HO105; clear HO112; clear BK101; clear HB; have HO105 := n0_; have HO112 := n1_; have BK101 := n2_; have HB := n3_; have BK116 := n4_; have GW116 := n5_; have GE116 := n6_; have NB101_116 := n7_; have NB116_101 := n8_; clear n0_ n1_ n2_ n3_ n4_ n5_ n6_ n7_ n8_; clear hb hbox hg; obtain ⟨Ao43, co43, eo43⟩ := Kd.R_slice HO112.out; subst eo43; have hnb44 := NB116_101.out; have hnc44 := NB101_116.out; have hcz45_0 : w42.cell? ⟨gb116, 0, none⟩ = some (.slice none 0 0) := (blk_cell BK116.out 0).trans rfl; have hcz45_1 : w42.cell? ⟨gb116, 1, none⟩ = some (.int .i64 0) := (blk_cell BK116.out 1).trans rfl; have hcz45_2 : w42.cell? ⟨gb116, 2, none⟩ = some (.int .i64 0) := (blk_cell BK116.out 2).trans rfl; have hcz45_3 : w42.cell? ⟨gb116, 3, none⟩ = some (.int .i64 0) := (blk_cell BK116.out 3).trans rfl; have hfz45_0 := blk_frozen BK116.out 0; have hfz45_1 := blk_frozen BK116.out 1; have hfz45_2 := blk_frozen BK116.out 2; have hfz45_3 := blk_frozen BK116.out 3) | ((with_reducible refine gate_callee (f := 42) rfl ?_); refine goesL_ (some 18) rfl rfl Try.func42 (by kernel_rfl) rfl #[.agg #[.slice Ao43 t110.length co43, .int .i64 t113, .int .i64 t114, .int .i64 t115]] rfl (by (try simp only [List.map_toArray, List.map_cons, List.map_nil]); first | done | rfl | (simp only [List.length_drop, List.length_take]; rfl) | (rw [IntWalk.u64_in _ (by omega)] <;> rfl)) ?_; (with_reducible refine (impl_VersionText.calls k _ _ t110 t113 t114 t115 t117 _ ?side1 ?side2 A10.out).mono ?_); (case side1 => refine (Kd.R_reads' (e := 66) (base := w.heap.size) (ok := fun k_ => (True ∧ some k_ ≠ (.slice Ao38 t103.length co38 : Value).ownBlock)) (n := t110.length) (c := co43) ?_).2.2; exact (by (with_reducible repeat (first | apply Kd.R_alloc | apply Kd.R_drewN | apply Kd.R_drew)); exact (Kd.R_mono (Kd.R_far (p := ⟨gb116, 3, none⟩) (Kd.R_far (p := ⟨gb116, 2, none⟩) (Kd.R_far (p := ⟨gb116, 1, none⟩) (Kd.R_far (p := ⟨gb116, 0, none⟩) (Kd.R_types HO112.out BK116.out (by decide)) (fun _ hk => hk.2) (.slice Ao43 t110.length co43)) (fun _ hk => hk.2) (.int .i64 t113)) (fun _ hk => hk.2) (.int .i64 t114)) (fun _ hk => hk.2) (.int .i64 t115)) (fun _ h_ => h_.1)))); (case side2 => exact (Kd.R_reads' HO112.out).2.1); rintro e w46 ⟨rfl, hb⟩; refine ⟨_, rfl, ?_⟩; have n0_ := Aside0.mk (Kd.R_below (by (with_reducible repeat (first | apply Kd.R_alloc | apply Kd.R_drewN | apply Kd.R_drew)); exact (Kd.R_mono (Kd.R_far (p := ⟨gb116, 3, none⟩) (Kd.R_far (p := ⟨gb116, 2, none⟩) (Kd.R_far (p := ⟨gb116, 1, none⟩) (Kd.R_far (p := ⟨gb116, 0, none⟩) (Kd.R_types HO105.out BK116.out (by decide)) (fun _ hk => hk.2) (.slice Ao43 t110.length co43)) (fun _ hk => hk.2) (.int .i64 t113)) (fun _ hk => hk.2) (.int .i64 t114)) (fun _ hk => hk.2) (.int .i64 t115)) (fun _ h_ => h_.1))) hb); have n1_ := Aside0.mk (Kd.R_below (by (with_reducible repeat (first | apply Kd.R_alloc | apply Kd.R_drewN | apply Kd.R_drew)); exact (Kd.R_mono (Kd.R_far (p := ⟨gb116, 3, none⟩) (Kd.R_far (p := ⟨gb116, 2, none⟩) (Kd.R_far (p := ⟨gb116, 1, none⟩) (Kd.R_far (p := ⟨gb116, 0, none⟩) (Kd.R_types HO112.out BK116.out (by decide)) (fun _ hk => hk.2) (.slice Ao43 t110.length co43)) (fun _ hk => hk.2) (.int .i64 t113)) (fun _ hk => hk.2) (.int .i64 t114)) (fun _ hk => hk.2) (.int .i64 t115)) (fun _ h_ => h_.1))) hb); have n2_ := Aside0.mk (blk_below (g := gb101) (o := .cells #[.slice A0_0 l0_0.length c0_0, .int .i64 a0_1, .int .i64 a0_2, .int .i64 a0_3] 24 (0, 0)) (by (with_reducible repeat (first | refine blk_drewN ?_ _ | refine blk_drew ?_ | refine blk_alloc ?_ _)); refine blk_far ?_ NB101_116.out _; (with_reducible repeat (first | refine blk_drewN ?_ _ | refine blk_drew ?_ | refine blk_alloc ?_ _)); refine blk_far ?_ NB101_116.out _; (with_reducible repeat (first | refine blk_drewN ?_ _ | refine blk_drew ?_ | refine blk_alloc ?_ _)); refine blk_far ?_ NB101_116.out _; (with_reducible repeat (first | refine blk_drewN ?_ _ | refine blk_drew ?_ | refine blk_alloc ?_ _)); refine blk_far ?_ NB101_116.out _; (with_reducible repeat (first | refine blk_drewN ?_ _ | refine blk_drew ?_ | refine blk_alloc ?_ _)); exact BK101.out) hb); have n3_ := Aside0.mk (blk_below (g := gb116) (o := .cells #[.slice Ao43 t110.length co43, .int .i64 t113, .int .i64 t114, .int .i64 t115] 32 (0, 0)) (by (with_reducible repeat (first | refine blk_drewN ?_ _ | refine blk_drew ?_ | refine blk_alloc ?_ _)); refine blk_put (cs := #[.slice Ao43 t110.length co43, .int .i64 t113, .int .i64 t114, .int .i64 0]) ?_ 3 _ rfl; (with_reducible repeat (first | refine blk_drewN ?_ _ | refine blk_drew ?_ | refine blk_alloc ?_ _)); refine blk_put (cs := #[.slice Ao43 t110.length co43, .int .i64 t113, .int .i64 0, .int .i64 0]) ?_ 2 _ rfl; (with_reducible repeat (first | refine blk_drewN ?_ _ | refine blk_drew ?_ | refine blk_alloc ?_ _)); refine blk_put (cs := #[.slice Ao43 t110.length co43, .int .i64 0, .int .i64 0, .int .i64 0]) ?_ 1 _ rfl; (with_reducible repeat (first | refine blk_drewN ?_ _ | refine blk_drew ?_ | refine blk_alloc ?_ _)); refine blk_put (cs := #[.slice none 0 0, .int .i64 0, .int .i64 0, .int .i64 0]) ?_ 0 _ rfl; (with_reducible repeat (first | refine blk_drewN ?_ _ | refine blk_drew ?_ | refine blk_alloc ?_ _)); exact BK116.out) hb); have n4_ := Aside0.mk (below_step (by repeat (first | (with_reducible first | exact HB.out | apply below_alloc | apply pw_below_drewN | apply below_drew1 | refine below_set ?_ GE101.out | refine below_set ?_ GE116.out) | exact HB.out)) hb); clear HO105; clear HO112; clear BK101; clear BK116; clear HB; have HO105 := n0_; have HO112 := n1_; have BK101 := n2_; have BK116 := n3_; have HB := n4_; clear n0_ n1_ n2_ n3_ n4_; (try clear hb); (try clear hb2); (try clear hk); (try clear hi)))
        have n0_ := Aside0.mk (Kd.R_drew HO105.out)
        have n1_ := Aside0.mk (Kd.R_drew HO112.out)
        have n2_ := Aside0.mk (blk_drew BK101.out)
        have n3_ := Aside0.mk (blk_drew BK116.out)
        have n4_ := Aside0.mk (below_drew1 HB.out)
        clear HO105
        clear HO112
        clear BK101
        clear BK116
        clear HB
        have HO105 := n0_
        have HO112 := n1_
        have BK101 := n2_
        have BK116 := n3_
        have HB := n4_
        clear n0_ n1_ n2_ n3_ n4_
        refine start_ (n := 5) (S := fun w' => w'.cell? ⟨gb116, 0, none⟩ = some (.slice Ao43 t110.length co43) ∧ w'.cell? ⟨gb116, 1, none⟩ = some (.int .i64 t113) ∧ w'.cell? ⟨gb116, 2, none⟩ = some (.int .i64 t114) ∧ w'.cell? ⟨gb116, 3, none⟩ = some (.int .i64 t115) ∧ w'.cell? ⟨gb101, 0, none⟩ = some (.slice A0_0 l0_0.length c0_0) ∧ w'.cell? ⟨gb101, 1, none⟩ = some (.int .i64 a0_1) ∧ w'.cell? ⟨gb101, 2, none⟩ = some (.int .i64 a0_2) ∧ w'.cell? ⟨gb101, 3, none⟩ = some (.int .i64 a0_3)) (ds := []) #[false, false, false, false, false] (by kernel_rfl) rfl rfl ⟨(blk_cell BK116.out 0).trans rfl, (blk_cell BK116.out 1).trans rfl, (blk_cell BK116.out 2).trans rfl, (blk_cell BK116.out 3).trans rfl, (blk_cell BK101.out 0).trans rfl, (blk_cell BK101.out 1).trans rfl, (blk_cell BK101.out 2).trans rfl, (blk_cell BK101.out 3).trans rfl⟩ (fun hHeld => ?_)
        generalize w46.drew = w47 at HO105 HO112 BK101 BK116 HB hHeld ⊢
        refine take_ (i := 0) (N := some 22) (v := ?_) (a' := ?_) #[true, false, false, false, false] rfl rfl (by kernel_rfl) (fun _ _ _ h => h) (Or.inl ⟨by rfl, ?_⟩) hHeld ?_ ?_
        rotate_left
        · rintro w' ⟨s0, s1, s2, s3, s4, s5, s6, s7⟩
          go_simp
          with_reducible rfl
        rotate_left
        · simp only [Act.put, List.setIfInBounds_toArray, List.set_cons_zero, List.set_cons_succ, i64_w, i32_w]
          rfl
        refine take_ (i := 1) (N := some 23) (v := ?_) (a' := ?_) #[true, true, false, false, false] rfl rfl (by kernel_rfl) (fun _ _ _ h => h) (Or.inl ⟨by rfl, ?_⟩) hHeld ?_ ?_
        rotate_left
        · rintro w' ⟨s0, s1, s2, s3, s4, s5, s6, s7⟩
          go_simp
          with_reducible rfl
        rotate_left
        · simp only [Act.put, List.setIfInBounds_toArray, List.set_cons_zero, List.set_cons_succ, i64_w, i32_w]
          rfl
        refine one_ (i := 2) (N := some 24) #[true, true, true, false, false] rfl rfl (by kernel_rfl) (by decide) (fun K hK => ?_)
        refine goes_ Try.func18 (by kernel_rfl) rfl #[.agg #[.slice A0_0 l0_0.length c0_0, .int .i64 a0_1, .int .i64 a0_2, .int .i64 a0_3]] (by rfl) rfl rfl (by (try simp only [List.map_toArray, List.map_cons, List.map_nil]); first | done | rfl | (simp only [List.length_drop, List.length_take]; rfl) | (rw [IntWalk.u64_in _ (by omega)] <;> rfl)) ?_
        with_reducible refine (laws_toVersion.calls k _ _ l0_0 a0_1 a0_2 a0_3 t118 t121 t122 t123 _ ?side1 ?side2 A12.out).mono ?_
        (case side1 => repeat (first | exact (Kd.C_below HR0_0.out HB.out) | (with_reducible refine Kd.C_alloc ?_ _) | (with_reducible refine Kd.C_drewN ?_ _) | (with_reducible refine Kd.C_drew ?_)))
        (case side2 => exact HC0_0.out)
        rintro e w48 ⟨v119, rfl, ho0, hb⟩
        refine ⟨_, rfl, ?_⟩
        have n0_ := Aside0.mk (Kd.R_elder' (by (with_reducible repeat (first | apply Kd.R_alloc | apply Kd.R_drewN | apply Kd.R_drew)); exact HO105.out) (Kd.R_base ho0) hb)
        have n1_ := Aside0.mk (Kd.R_elder' (by (with_reducible repeat (first | apply Kd.R_alloc | apply Kd.R_drewN | apply Kd.R_drew)); exact HO112.out) (Kd.R_base ho0) hb)
        have n2_ := Aside0.mk (Kd.R_lower (Kd.R_new' (Kd.R_new' ho0 (Kd.R_lt (by (with_reducible repeat (first | apply Kd.R_alloc | apply Kd.R_drewN | apply Kd.R_drew)); exact HO105.out))) (Kd.R_lt (by (with_reducible repeat (first | apply Kd.R_alloc | apply Kd.R_drewN | apply Kd.R_drew)); exact HO112.out))) (below_size (by repeat (first | (with_reducible first | exact HB.out | apply below_alloc | apply pw_below_drewN | apply below_drew1 | refine below_set ?_ GE101.out | refine below_set ?_ GE116.out) | exact HB.out))))
        have n3_ := Aside0.mk (blk_below (g := gb101) (o := .cells #[.slice A0_0 l0_0.length c0_0, .int .i64 a0_1, .int .i64 a0_2, .int .i64 a0_3] 24 (0, 0)) (by (with_reducible repeat (first | refine blk_drewN ?_ _ | refine blk_drew ?_ | refine blk_alloc ?_ _)); exact BK101.out) hb)
        have n4_ := Aside0.mk (blk_below (g := gb116) (o := .cells #[.slice Ao43 t110.length co43, .int .i64 t113, .int .i64 t114, .int .i64 t115] 32 (0, 0)) (by (with_reducible repeat (first | refine blk_drewN ?_ _ | refine blk_drew ?_ | refine blk_alloc ?_ _)); exact BK116.out) hb)
        have n5_ := Aside0.mk (below_step (by repeat (first | (with_reducible first | exact HB.out | apply below_alloc | apply pw_below_drewN | apply below_drew1 | refine below_set ?_ GE101.out | refine below_set ?_ GE116.out) | exact HB.out)) hb)
        clear HO105
        clear HO112
        clear BK101
        clear BK116
        clear HB
        have HO105 := n0_
        have HO112 := n1_
        have HO120 := n2_
        have BK101 := n3_
        have BK116 := n4_
        have HB := n5_
        clear n0_ n1_ n2_ n3_ n4_ n5_
        (try clear hb)
        (try clear hb2)
        (try clear hk)
        (try clear hi)
        (try clear ho0)
        obtain ⟨Ao49, co49, eo49⟩ := Kd.R_slice HO120.out
        (first | subst eo49 | (injection eo49 with f1_ f2_ f3_; have f4_ := f1_.symm; have f5_ := f3_.symm; clear f1_ f2_ f3_; subst f4_; subst f5_))
        refine hK.out _ _ ⟨(blk_cell BK116.out 0).trans rfl, (blk_cell BK116.out 1).trans rfl, (blk_cell BK116.out 2).trans rfl, (blk_cell BK116.out 3).trans rfl, (blk_cell BK101.out 0).trans rfl, (blk_cell BK101.out 1).trans rfl, (blk_cell BK101.out 2).trans rfl, (blk_cell BK101.out 3).trans rfl⟩ (fun hHeld => ?_)
        clear hK K
        refine norm_ (a' := ?_) ?_ ?_
        rotate_left
        · show Act.put _ (some 24) _ = _
          simp only [Act.put, List.setIfInBounds_toArray, List.set_cons_zero, List.set_cons_succ, i64_w, i32_w]
          rfl
        refine one_ (i := 3) (N := some 25) #[true, true, true, true, false] rfl rfl (by kernel_rfl) (by decide) (fun K hK => ?_)
        refine goes_ Try.func21 (by kernel_rfl) rfl #[.agg #[.slice Ao43 t110.length co43, .int .i64 t113, .int .i64 t114, .int .i64 t115], .agg #[.slice Ao49 t118.length co49, .int .i64 t121, .int .i64 t122, .int .i64 t123]] (by rfl) rfl rfl (by (try simp only [List.map_toArray, List.map_cons, List.map_nil]); first | done | rfl | (simp only [List.length_drop, List.length_take]; rfl) | (rw [IntWalk.u64_in _ (by omega)] <;> rfl)) ?_
        with_reducible refine (laws_eqVersion.calls k _ _ t110 t113 t114 t115 _ _ t118 t121 t122 t123 false _ ?side1 ?side2 ?side3 ?side4 A13.out).mono ?_
        (case side1 => repeat (first | exact (Kd.R_reads' HO112.out).2.2 | (with_reducible refine Kd.C_alloc ?_ _) | (with_reducible refine Kd.C_drewN ?_ _) | (with_reducible refine Kd.C_drew ?_)))
        (case side2 => exact (Kd.R_reads' HO112.out).2.1)
        (case side3 => repeat (first | exact (Kd.R_reads' HO120.out).2.2 | (with_reducible refine Kd.C_alloc ?_ _) | (with_reducible refine Kd.C_drewN ?_ _) | (with_reducible refine Kd.C_drew ?_)))
        (case side4 => exact (Kd.R_reads' HO120.out).2.1)
        rintro e w50 ⟨rfl, hb⟩
        refine ⟨_, rfl, ?_⟩
        have n0_ := Aside0.mk (Kd.R_below (by (with_reducible repeat (first | apply Kd.R_alloc | apply Kd.R_drewN | apply Kd.R_drew)); exact HO105.out) hb)
        have n1_ := Aside0.mk (Kd.R_below (by (with_reducible repeat (first | apply Kd.R_alloc | apply Kd.R_drewN | apply Kd.R_drew)); exact HO112.out) hb)
        have n2_ := Aside0.mk (Kd.R_below (by (with_reducible repeat (first | apply Kd.R_alloc | apply Kd.R_drewN | apply Kd.R_drew)); exact HO120.out) hb)
        have n3_ := Aside0.mk (blk_below (g := gb101) (o := .cells #[.slice A0_0 l0_0.length c0_0, .int .i64 a0_1, .int .i64 a0_2, .int .i64 a0_3] 24 (0, 0)) (by (with_reducible repeat (first | refine blk_drewN ?_ _ | refine blk_drew ?_ | refine blk_alloc ?_ _)); exact BK101.out) hb)
        have n4_ := Aside0.mk (blk_below (g := gb116) (o := .cells #[.slice Ao43 t110.length co43, .int .i64 t113, .int .i64 t114, .int .i64 t115] 32 (0, 0)) (by (with_reducible repeat (first | refine blk_drewN ?_ _ | refine blk_drew ?_ | refine blk_alloc ?_ _)); exact BK116.out) hb)
        have n5_ := Aside0.mk (below_step (by repeat (first | (with_reducible first | exact HB.out | apply below_alloc | apply pw_below_drewN | apply below_drew1 | refine below_set ?_ GE101.out | refine below_set ?_ GE116.out) | exact HB.out)) hb)
        clear HO105
        clear HO112
        clear HO120
        clear BK101
        clear BK116
        clear HB
        have HO105 := n0_
        have HO112 := n1_
        have HO120 := n2_
        have BK101 := n3_
        have BK116 := n4_
        have HB := n5_
        clear n0_ n1_ n2_ n3_ n4_ n5_
        (try clear hb)
        (try clear hb2)
        (try clear hk)
        (try clear hi)
        refine hK.out _ _ ⟨(blk_cell BK116.out 0).trans rfl, (blk_cell BK116.out 1).trans rfl, (blk_cell BK116.out 2).trans rfl, (blk_cell BK116.out 3).trans rfl, (blk_cell BK101.out 0).trans rfl, (blk_cell BK101.out 1).trans rfl, (blk_cell BK101.out 2).trans rfl, (blk_cell BK101.out 3).trans rfl⟩ (fun hHeld => ?_)
        clear hK K
        refine norm_ (a' := ?_) ?_ ?_
        rotate_left
        · show Act.put _ (some 25) _ = _
          simp only [Act.put, List.setIfInBounds_toArray, List.set_cons_zero, List.set_cons_succ, i64_w, i32_w]
          rfl
        refine pure_ (i := 4) (N := some 26) (v := ?_) (a' := ?_) #[true, true, true, true, true] rfl rfl (by kernel_rfl) (fun _ _ _ h => h) (Or.inl ⟨by rfl, ?_⟩) ?_ ?_
        rotate_left
        · intro w'
          go_simp
          with_reducible rfl
        rotate_left
        · simp only [Act.put, List.setIfInBounds_toArray, List.set_cons_zero, List.set_cons_succ, i64_w, i32_w]
          rfl
        refine done_ (by kernel_rfl) ?_
        try go_wp2
        go_ret
        exact ⟨by first | rfl | (simp [errW_none, errW_some] <;> rfl) | (simp [*, errW_none, errW_some] <;> rfl), by repeat (first | (with_reducible first | exact HB.out | apply below_alloc | apply pw_below_drewN | apply below_drew1 | refine below_set ?_ GE101.out | refine below_set ?_ GE116.out) | exact HB.out)⟩
    · rw [if_neg c11] at H
      have c11b0 : (t117.toList == t109.toList) = false := beq_eq_false_iff_ne.mpr c11
      have c11b1 : (t117.toList != t109.toList) = true := bne_iff_ne.mpr c11
      obtain rfl := Option.some.inj H
      go_enter Try.func8, Try.ntmps8
      go_wp2_with (first | ((with_reducible refine gate_dst (N := 1) rfl ?_); refine box_event ?hg (N := 1) ?hd (cs := #[.slice A0_0 l0_0.length c0_0, .int .i64 a0_1, .int .i64 a0_2, .int .i64 a0_3]) (t := 24) ?hr ?_; (case hd => rfl); (case hg => rfl); (case hr => first | (go_simp; done) | (go_simp; rfl)); intro gb101 hg w51 hbox hb; have n0_ := Aside0.mk (below_step (by repeat (first | (with_reducible first | exact HB.out | apply below_alloc | apply pw_below_drewN | apply below_drew1) | exact HB.out)) hb); have n1_ := Aside0.mk (hbox); have n2_ := Aside0.mk ((by rw [hg]; exact (below_size (by repeat (first | (with_reducible first | exact HB.out | apply below_alloc | apply pw_below_drewN | apply below_drew1) | exact HB.out))) : w.heap.size ≤ gb101)); have n3_ := Aside0.mk ((by rw [hg]; exact (below_size (by repeat (first | (with_reducible first | exact HB.out | apply below_alloc | apply pw_below_drewN | apply below_drew1) | exact HB.out))) : w.heap.size ≤ gb101)); clear HB; have HB := n0_; have BK101 := n1_; have GW101 := n2_; have GE101 := n3_; clear n0_ n1_ n2_ n3_; clear hb hbox hg; have hcz52_0 : w51.cell? ⟨gb101, 0, none⟩ = some (.slice A0_0 l0_0.length c0_0) := (blk_cell BK101.out 0).trans rfl; have hcz52_1 : w51.cell? ⟨gb101, 1, none⟩ = some (.int .i64 a0_1) := (blk_cell BK101.out 1).trans rfl; have hcz52_2 : w51.cell? ⟨gb101, 2, none⟩ = some (.int .i64 a0_2) := (blk_cell BK101.out 2).trans rfl; have hcz52_3 : w51.cell? ⟨gb101, 3, none⟩ = some (.int .i64 a0_3) := (blk_cell BK101.out 3).trans rfl; have hfz52_0 := blk_frozen BK101.out 0; have hfz52_1 := blk_frozen BK101.out 1; have hfz52_2 := blk_frozen BK101.out 2; have hfz52_3 := blk_frozen BK101.out 3) | ((with_reducible refine gate_callee (f := 15) rfl ?_); refine goesL_ (some 9) rfl rfl Try.func15 (by kernel_rfl) rfl #[.agg #[.slice A0_0 l0_0.length c0_0, .int .i64 a0_1, .int .i64 a0_2, .int .i64 a0_3], .int .i64 1048576] rfl (by (try simp only [List.map_toArray, List.map_cons, List.map_nil]); first | done | rfl | (simp only [List.length_drop, List.length_take]; rfl) | (rw [IntWalk.u64_in _ (by omega)] <;> rfl)) ?_; (with_reducible refine (laws_szVersion.calls k _ _ l0_0 a0_1 a0_2 a0_3 1048576 t102 _ ?side1 ?side2 A2.out).mono ?_); (case side1 => repeat (first | exact (Kd.C_below HR0_0.out HB.out) | (with_reducible refine Kd.C_alloc ?_ _) | (with_reducible refine Kd.C_drewN ?_ _) | (with_reducible refine Kd.C_drew ?_))); (case side2 => exact HC0_0.out); rintro e w53 ⟨rfl, hb⟩; refine ⟨_, rfl, ?_⟩; have n0_ := Aside0.mk (blk_below (g := gb101) (o := .cells #[.slice A0_0 l0_0.length c0_0, .int .i64 a0_1, .int .i64 a0_2, .int .i64 a0_3] 24 (0, 0)) (by (with_reducible repeat (first | refine blk_drewN ?_ _ | refine blk_drew ?_ | refine blk_alloc ?_ _)); exact BK101.out) hb); have n1_ := Aside0.mk (below_step (by repeat (first | (with_reducible first | exact HB.out | apply below_alloc | apply pw_below_drewN | apply below_drew1 | refine below_set ?_ GE101.out) | exact HB.out)) hb); clear BK101; clear HB; have BK101 := n0_; have HB := n1_; clear n0_ n1_; (try clear hb); (try clear hb2); (try clear hk); (try clear hi); have hcz54_0 : w53.cell? ⟨gb101, 0, none⟩ = some (.slice A0_0 l0_0.length c0_0) := (blk_cell BK101.out 0).trans rfl; have hcz54_1 : w53.cell? ⟨gb101, 1, none⟩ = some (.int .i64 a0_1) := (blk_cell BK101.out 1).trans rfl; have hcz54_2 : w53.cell? ⟨gb101, 2, none⟩ = some (.int .i64 a0_2) := (blk_cell BK101.out 2).trans rfl; have hcz54_3 : w53.cell? ⟨gb101, 3, none⟩ = some (.int .i64 a0_3) := (blk_cell BK101.out 3).trans rfl; have hfz54_0 := blk_frozen BK101.out 0; have hfz54_1 := blk_frozen BK101.out 1; have hfz54_2 := blk_frozen BK101.out 2; have hfz54_3 := blk_frozen BK101.out 3) | ((with_reducible refine gate_callee (f := 18) rfl ?_); refine goesL_ (some 13) rfl rfl Try.func18 (by kernel_rfl) rfl #[.agg #[.slice A0_0 l0_0.length c0_0, .int .i64 a0_1, .int .i64 a0_2, .int .i64 a0_3]] rfl (by (try simp only [List.map_toArray, List.map_cons, List.map_nil]); first | done | rfl | (simp only [List.length_drop, List.length_take]; rfl) | (rw [IntWalk.u64_in _ (by omega)] <;> rfl)) ?_; (with_reducible refine (laws_toVersion.calls k _ _ l0_0 a0_1 a0_2 a0_3 t103 t106 t107 t108 _ ?side1 ?side2 A7.out).mono ?_); (case side1 => repeat (first | exact (Kd.C_below HR0_0.out HB.out) | (with_reducible refine Kd.C_alloc ?_ _) | (with_reducible refine Kd.C_drewN ?_ _) | (with_reducible refine Kd.C_drew ?_))); (case side2 => exact HC0_0.out); rintro e w55 ⟨v104, rfl, ho0, hb⟩; refine ⟨_, rfl, ?_⟩; have n0_ := Aside0.mk (Kd.R_lower ho0 (below_size (by repeat (first | (with_reducible first | exact HB.out | apply below_alloc | apply pw_below_drewN | apply below_drew1 | refine below_set ?_ GE101.out) | exact HB.out)))); have n1_ := Aside0.mk (blk_below (g := gb101) (o := .cells #[.slice A0_0 l0_0.length c0_0, .int .i64 a0_1, .int .i64 a0_2, .int .i64 a0_3] 24 (0, 0)) (by (with_reducible repeat (first | refine blk_drewN ?_ _ | refine blk_drew ?_ | refine blk_alloc ?_ _)); exact BK101.out) hb); have n2_ := Aside0.mk (below_step (by repeat (first | (with_reducible first | exact HB.out | apply below_alloc | apply pw_below_drewN | apply below_drew1 | refine below_set ?_ GE101.out) | exact HB.out)) hb); clear BK101; clear HB; have HO105 := n0_; have BK101 := n1_; have HB := n2_; clear n0_ n1_ n2_; (try clear hb); (try clear hb2); (try clear hk); (try clear hi); (try clear ho0); obtain ⟨Ao56, co56, eo56⟩ := Kd.R_slice HO105.out; subst eo56) | ((with_reducible refine gate_callee (f := 41) rfl ?_); refine goesL_ (some 14) rfl rfl Try.func41 (by kernel_rfl) rfl #[.agg #[.slice Ao56 t103.length co56, .int .i64 t106, .int .i64 t107, .int .i64 t108]] rfl (by (try simp only [List.map_toArray, List.map_cons, List.map_nil]); first | done | rfl | (simp only [List.length_drop, List.length_take]; rfl) | (rw [IntWalk.u64_in _ (by omega)] <;> rfl)) ?_; (with_reducible refine (spec_VersionText.calls k _ _ t103 t106 t107 t108 t109 _ ?side1 ?side2 A8.out).mono ?_); (case side1 => repeat (first | exact (Kd.R_reads' HO105.out).2.2 | (with_reducible refine Kd.C_alloc ?_ _) | (with_reducible refine Kd.C_drewN ?_ _) | (with_reducible refine Kd.C_drew ?_))); (case side2 => exact (Kd.R_reads' HO105.out).2.1); rintro e w57 ⟨rfl, hb⟩; refine ⟨_, rfl, ?_⟩; have n0_ := Aside0.mk (Kd.R_below (by (with_reducible repeat (first | apply Kd.R_alloc | apply Kd.R_drewN | apply Kd.R_drew)); exact HO105.out) hb); have n1_ := Aside0.mk (blk_below (g := gb101) (o := .cells #[.slice A0_0 l0_0.length c0_0, .int .i64 a0_1, .int .i64 a0_2, .int .i64 a0_3] 24 (0, 0)) (by (with_reducible repeat (first | refine blk_drewN ?_ _ | refine blk_drew ?_ | refine blk_alloc ?_ _)); exact BK101.out) hb); have n2_ := Aside0.mk (below_step (by repeat (first | (with_reducible first | exact HB.out | apply below_alloc | apply pw_below_drewN | apply below_drew1 | refine below_set ?_ GE101.out) | exact HB.out)) hb); clear HO105; clear BK101; clear HB; have HO105 := n0_; have BK101 := n1_; have HB := n2_; clear n0_ n1_ n2_; (try clear hb); (try clear hb2); (try clear hk); (try clear hi); have hcz58_0 : w57.cell? ⟨gb101, 0, none⟩ = some (.slice A0_0 l0_0.length c0_0) := (blk_cell BK101.out 0).trans rfl; have hcz58_1 : w57.cell? ⟨gb101, 1, none⟩ = some (.int .i64 a0_1) := (blk_cell BK101.out 1).trans rfl; have hcz58_2 : w57.cell? ⟨gb101, 2, none⟩ = some (.int .i64 a0_2) := (blk_cell BK101.out 2).trans rfl; have hcz58_3 : w57.cell? ⟨gb101, 3, none⟩ = some (.int .i64 a0_3) := (blk_cell BK101.out 3).trans rfl; have hfz58_0 := blk_frozen BK101.out 0; have hfz58_1 := blk_frozen BK101.out 1; have hfz58_2 := blk_frozen BK101.out 2; have hfz58_3 := blk_frozen BK101.out 3) | ((with_reducible refine gate_callee (f := 18) rfl ?_); refine goesL_ (some 16) rfl rfl Try.func18 (by kernel_rfl) rfl #[.agg #[.slice A0_0 l0_0.length c0_0, .int .i64 a0_1, .int .i64 a0_2, .int .i64 a0_3]] rfl (by (try simp only [List.map_toArray, List.map_cons, List.map_nil]); first | done | rfl | (simp only [List.length_drop, List.length_take]; rfl) | (rw [IntWalk.u64_in _ (by omega)] <;> rfl)) ?_; (with_reducible refine (laws_toVersion.calls k _ _ l0_0 a0_1 a0_2 a0_3 t110 t113 t114 t115 _ ?side1 ?side2 A9.out).mono ?_); (case side1 => repeat (first | exact (Kd.C_below HR0_0.out HB.out) | (with_reducible refine Kd.C_alloc ?_ _) | (with_reducible refine Kd.C_drewN ?_ _) | (with_reducible refine Kd.C_drew ?_))); (case side2 => exact HC0_0.out); rintro e w59 ⟨v111, rfl, ho0, hb⟩; refine ⟨_, rfl, ?_⟩; have n0_ := Aside0.mk (Kd.R_elder' (by (with_reducible repeat (first | apply Kd.R_alloc | apply Kd.R_drewN | apply Kd.R_drew)); exact HO105.out) (Kd.R_base ho0) hb); have n1_ := Aside0.mk (Kd.R_lower (Kd.R_new' ho0 (Kd.R_lt (by (with_reducible repeat (first | apply Kd.R_alloc | apply Kd.R_drewN | apply Kd.R_drew)); exact HO105.out))) (below_size (by repeat (first | (with_reducible first | exact HB.out | apply below_alloc | apply pw_below_drewN | apply below_drew1 | refine below_set ?_ GE101.out) | exact HB.out)))); have n2_ := Aside0.mk (blk_below (g := gb101) (o := .cells #[.slice A0_0 l0_0.length c0_0, .int .i64 a0_1, .int .i64 a0_2, .int .i64 a0_3] 24 (0, 0)) (by (with_reducible repeat (first | refine blk_drewN ?_ _ | refine blk_drew ?_ | refine blk_alloc ?_ _)); exact BK101.out) hb); have n3_ := Aside0.mk (below_step (by repeat (first | (with_reducible first | exact HB.out | apply below_alloc | apply pw_below_drewN | apply below_drew1 | refine below_set ?_ GE101.out) | exact HB.out)) hb); clear HO105; clear BK101; clear HB; have HO105 := n0_; have HO112 := n1_; have BK101 := n2_; have HB := n3_; clear n0_ n1_ n2_ n3_; (try clear hb); (try clear hb2); (try clear hk); (try clear hi); (try clear ho0)) | ((with_reducible refine gate_dst (N := 5) rfl ?_); refine box_event ?hg (N := 5) ?hd (cs := #[.slice none 0 0, .int .i64 0, .int .i64 0, .int .i64 0]) (t := 32) ?hr ?_; (case hd => rfl); (case hg => rfl); (case hr => first | (go_simp; done) | (go_simp; rfl)); intro gb116 hg w60 hbox hb; have n0_ := Aside0.mk (Kd.R_below (by (with_reducible repeat (first | apply Kd.R_alloc | apply Kd.R_drewN | apply Kd.R_drew)); exact HO105.out) hb); have n1_ := Aside0.mk (Kd.R_below (by (with_reducible repeat (first | apply Kd.R_alloc | apply Kd.R_drewN | apply Kd.R_drew)); exact HO112.out) hb); have n2_ := Aside0.mk (blk_below (g := gb101) (o := .cells #[.slice A0_0 l0_0.length c0_0, .int .i64 a0_1, .int .i64 a0_2, .int .i64 a0_3] 24 (0, 0)) (by (with_reducible repeat (first | refine blk_drewN ?_ _ | refine blk_drew ?_ | refine blk_alloc ?_ _)); exact BK101.out) hb); have n3_ := Aside0.mk (below_step (by repeat (first | (with_reducible first | exact HB.out | apply below_alloc | apply pw_below_drewN | apply below_drew1 | refine below_set ?_ GE101.out) | exact HB.out)) hb); have n4_ := Aside0.mk (hbox); have n5_ := Aside0.mk ((by rw [hg]; exact (below_size (by repeat (first | (with_reducible first | exact HB.out | apply below_alloc | apply pw_below_drewN | apply below_drew1 | refine below_set ?_ GE101.out) | exact HB.out))) : w.heap.size ≤ gb116)); have n6_ := Aside0.mk ((by rw [hg]; exact (below_size (by repeat (first | (with_reducible first | exact HB.out | apply below_alloc | apply pw_below_drewN | apply below_drew1 | refine below_set ?_ GE101.out) | exact HB.out))) : w.heap.size ≤ gb116)); have n7_ := Aside0.mk ((by rw [hg]; exact Nat.ne_of_lt (blk_lt (g := gb101) (o := .cells #[.slice A0_0 l0_0.length c0_0, .int .i64 a0_1, .int .i64 a0_2, .int .i64 a0_3] 24 (0, 0)) (by (with_reducible repeat (first | refine blk_drewN ?_ _ | refine blk_drew ?_ | refine blk_alloc ?_ _)); exact BK101.out)) : gb101 ≠ gb116)); have n8_ := Aside0.mk ((by rw [hg]; exact Nat.ne_of_gt (blk_lt (g := gb101) (o := .cells #[.slice A0_0 l0_0.length c0_0, .int .i64 a0_1, .int .i64 a0_2, .int .i64 a0_3] 24 (0, 0)) (by (with_reducible repeat (first | refine blk_drewN ?_ _ | refine blk_drew ?_ | refine blk_alloc ?_ _)); exact BK101.out)) : gb116 ≠ gb101)); clear HO105; clear HO112; clear BK101; clear HB; have HO105 := n0_; have HO112 := n1_; have BK101 := n2_; have HB := n3_; have BK116 := n4_; have GW116 := n5_; have GE116 := n6_; have NB101_116 := n7_; have NB116_101 := n8_; clear n0_ n1_ n2_ n3_ n4_ n5_ n6_ n7_ n8_; clear hb hbox hg; obtain ⟨Ao61, co61, eo61⟩ := Kd.R_slice HO112.out; subst eo61; have hnb62 := NB116_101.out; have hnc62 := NB101_116.out; have hcz63_0 : w60.cell? ⟨gb116, 0, none⟩ = some (.slice none 0 0) := (blk_cell BK116.out 0).trans rfl; have hcz63_1 : w60.cell? ⟨gb116, 1, none⟩ = some (.int .i64 0) := (blk_cell BK116.out 1).trans rfl; have hcz63_2 : w60.cell? ⟨gb116, 2, none⟩ = some (.int .i64 0) := (blk_cell BK116.out 2).trans rfl; have hcz63_3 : w60.cell? ⟨gb116, 3, none⟩ = some (.int .i64 0) := (blk_cell BK116.out 3).trans rfl; have hfz63_0 := blk_frozen BK116.out 0; have hfz63_1 := blk_frozen BK116.out 1; have hfz63_2 := blk_frozen BK116.out 2; have hfz63_3 := blk_frozen BK116.out 3) | ((with_reducible refine gate_callee (f := 42) rfl ?_); refine goesL_ (some 18) rfl rfl Try.func42 (by kernel_rfl) rfl #[.agg #[.slice Ao61 t110.length co61, .int .i64 t113, .int .i64 t114, .int .i64 t115]] rfl (by (try simp only [List.map_toArray, List.map_cons, List.map_nil]); first | done | rfl | (simp only [List.length_drop, List.length_take]; rfl) | (rw [IntWalk.u64_in _ (by omega)] <;> rfl)) ?_; (with_reducible refine (impl_VersionText.calls k _ _ t110 t113 t114 t115 t117 _ ?side1 ?side2 A10.out).mono ?_); (case side1 => refine (Kd.R_reads' (e := 66) (base := w.heap.size) (ok := fun k_ => (True ∧ some k_ ≠ (.slice Ao56 t103.length co56 : Value).ownBlock)) (n := t110.length) (c := co61) ?_).2.2; exact (by (with_reducible repeat (first | apply Kd.R_alloc | apply Kd.R_drewN | apply Kd.R_drew)); exact (Kd.R_mono (Kd.R_far (p := ⟨gb116, 3, none⟩) (Kd.R_far (p := ⟨gb116, 2, none⟩) (Kd.R_far (p := ⟨gb116, 1, none⟩) (Kd.R_far (p := ⟨gb116, 0, none⟩) (Kd.R_types HO112.out BK116.out (by decide)) (fun _ hk => hk.2) (.slice Ao61 t110.length co61)) (fun _ hk => hk.2) (.int .i64 t113)) (fun _ hk => hk.2) (.int .i64 t114)) (fun _ hk => hk.2) (.int .i64 t115)) (fun _ h_ => h_.1)))); (case side2 => exact (Kd.R_reads' HO112.out).2.1); rintro e w64 ⟨rfl, hb⟩; refine ⟨_, rfl, ?_⟩; have n0_ := Aside0.mk (Kd.R_below (by (with_reducible repeat (first | apply Kd.R_alloc | apply Kd.R_drewN | apply Kd.R_drew)); exact (Kd.R_mono (Kd.R_far (p := ⟨gb116, 3, none⟩) (Kd.R_far (p := ⟨gb116, 2, none⟩) (Kd.R_far (p := ⟨gb116, 1, none⟩) (Kd.R_far (p := ⟨gb116, 0, none⟩) (Kd.R_types HO105.out BK116.out (by decide)) (fun _ hk => hk.2) (.slice Ao61 t110.length co61)) (fun _ hk => hk.2) (.int .i64 t113)) (fun _ hk => hk.2) (.int .i64 t114)) (fun _ hk => hk.2) (.int .i64 t115)) (fun _ h_ => h_.1))) hb); have n1_ := Aside0.mk (Kd.R_below (by (with_reducible repeat (first | apply Kd.R_alloc | apply Kd.R_drewN | apply Kd.R_drew)); exact (Kd.R_mono (Kd.R_far (p := ⟨gb116, 3, none⟩) (Kd.R_far (p := ⟨gb116, 2, none⟩) (Kd.R_far (p := ⟨gb116, 1, none⟩) (Kd.R_far (p := ⟨gb116, 0, none⟩) (Kd.R_types HO112.out BK116.out (by decide)) (fun _ hk => hk.2) (.slice Ao61 t110.length co61)) (fun _ hk => hk.2) (.int .i64 t113)) (fun _ hk => hk.2) (.int .i64 t114)) (fun _ hk => hk.2) (.int .i64 t115)) (fun _ h_ => h_.1))) hb); have n2_ := Aside0.mk (blk_below (g := gb101) (o := .cells #[.slice A0_0 l0_0.length c0_0, .int .i64 a0_1, .int .i64 a0_2, .int .i64 a0_3] 24 (0, 0)) (by (with_reducible repeat (first | refine blk_drewN ?_ _ | refine blk_drew ?_ | refine blk_alloc ?_ _)); refine blk_far ?_ NB101_116.out _; (with_reducible repeat (first | refine blk_drewN ?_ _ | refine blk_drew ?_ | refine blk_alloc ?_ _)); refine blk_far ?_ NB101_116.out _; (with_reducible repeat (first | refine blk_drewN ?_ _ | refine blk_drew ?_ | refine blk_alloc ?_ _)); refine blk_far ?_ NB101_116.out _; (with_reducible repeat (first | refine blk_drewN ?_ _ | refine blk_drew ?_ | refine blk_alloc ?_ _)); refine blk_far ?_ NB101_116.out _; (with_reducible repeat (first | refine blk_drewN ?_ _ | refine blk_drew ?_ | refine blk_alloc ?_ _)); exact BK101.out) hb); have n3_ := Aside0.mk (blk_below (g := gb116) (o := .cells #[.slice Ao61 t110.length co61, .int .i64 t113, .int .i64 t114, .int .i64 t115] 32 (0, 0)) (by (with_reducible repeat (first | refine blk_drewN ?_ _ | refine blk_drew ?_ | refine blk_alloc ?_ _)); refine blk_put (cs := #[.slice Ao61 t110.length co61, .int .i64 t113, .int .i64 t114, .int .i64 0]) ?_ 3 _ rfl; (with_reducible repeat (first | refine blk_drewN ?_ _ | refine blk_drew ?_ | refine blk_alloc ?_ _)); refine blk_put (cs := #[.slice Ao61 t110.length co61, .int .i64 t113, .int .i64 0, .int .i64 0]) ?_ 2 _ rfl; (with_reducible repeat (first | refine blk_drewN ?_ _ | refine blk_drew ?_ | refine blk_alloc ?_ _)); refine blk_put (cs := #[.slice Ao61 t110.length co61, .int .i64 0, .int .i64 0, .int .i64 0]) ?_ 1 _ rfl; (with_reducible repeat (first | refine blk_drewN ?_ _ | refine blk_drew ?_ | refine blk_alloc ?_ _)); refine blk_put (cs := #[.slice none 0 0, .int .i64 0, .int .i64 0, .int .i64 0]) ?_ 0 _ rfl; (with_reducible repeat (first | refine blk_drewN ?_ _ | refine blk_drew ?_ | refine blk_alloc ?_ _)); exact BK116.out) hb); have n4_ := Aside0.mk (below_step (by repeat (first | (with_reducible first | exact HB.out | apply below_alloc | apply pw_below_drewN | apply below_drew1 | refine below_set ?_ GE101.out | refine below_set ?_ GE116.out) | exact HB.out)) hb); clear HO105; clear HO112; clear BK101; clear BK116; clear HB; have HO105 := n0_; have HO112 := n1_; have BK101 := n2_; have BK116 := n3_; have HB := n4_; clear n0_ n1_ n2_ n3_ n4_; (try clear hb); (try clear hb2); (try clear hk); (try clear hi)))
      go_ret
      exact ⟨by first | rfl | (simp [errW_none, errW_some] <;> rfl) | (simp [*, errW_none, errW_some] <;> rfl), by repeat (first | (with_reducible first | exact HB.out | apply below_alloc | apply pw_below_drewN | apply below_drew1 | refine below_set ?_ GE101.out | refine below_set ?_ GE116.out) | exact HB.out)⟩
end Go.Proofs.Ytcgejabkjljeeaa.P
end
