/- Proved: the law FnReplayed of the given program returns true for every input of its Go types and leaves each argument as it was; no condition. (Part 11 of 17.) -/
import Derived.Test.YtcgejabkjljeeaaCFnReplayed4
import Derived.Test.YtcgejabkjljeeaaCFnReplayed8
import Derived.Test.YtcgejabkjljeeaaCFnReplayed9
import Derived.Maps.OwnOps
section
namespace Go.Proofs.Ytcgejabkjljeeaa.P
open Go.RowKit Go.Proofs.YtcgejabkjljeeaaW.PrintWords Go.Proofs.YtcgejabkjljeeaaW.PrintLast Go.Proofs.YtcgejabkjljeeaaW.PrintMore
attribute [local go_sem] str_gtr str_leq str_geq max2_int min2_int max_two min_two qe1 qd1 max_four min_four
set_option linter.unusedVariables false
set_option linter.unusedSimpArgs false
theorem yq115 {P : Prop} (h : P := by show wr.heap.size ≠ w1.heap.size; omega) : P := h
theorem yq116 {P : Prop} (h : P := by show w.heap.size ≠ w1.heap.size; omega) : P := h
theorem bc {w W : World} {p : Addr} {v : Value} (hb : Below w.heap.size w W) (h : w.cell? p = some v) : W.cell? p = some v := (hb.cell (World.block_lt_of_cell? _ _ h)).trans h
theorem ba {w : World} {p : Addr} {v : Value} (h : w.cell? p = some v) (o : Obj) : (w.alloc o).cell? p = some v := bc ((Below.refl _ w).alloc (Nat.le_refl _) o) h
def cI (a b : Int) : Int := if a < b then -1 else if b < a then 1 else 0
def cS (a b : ByteArray) : Int := if tless a b = true then -1 else if tless b a = true then 1 else 0
def mcmp (p m : S66) : Int := if p.f1 = m.f1 ∧ p.f1 = 0 then cI m.f0 p.f0 else (([cI p.f1 m.f1, cS p.f2 m.f2] : List Int).find? fun x => x != 0).getD 0
theorem cmpMetas_ev (p m : S66) : Ev (fun k => impl_cmpMetas.f k p.f0 p.f1 p.f2 p.f3 p.f4 m.f0 m.f1 m.f2 m.f3 m.f4) (mcmp p m) := by
 unfold impl_cmpMetas.f mcmp
 have jt : ∀ b : Bool, Ev (fun k => impl_cmpMetas.j0 k b p.f0 p.f1 p.f2 p.f3 p.f4 m.f0 m.f1 m.f2 m.f3 m.f4) (if b = true then cI m.f0 p.f0 else (([cI p.f1 m.f1, cS p.f2 m.f2] : List Int).find? fun x => x != 0).getD 0) := by
  intro b
  refine Ev.step (fun k => impl_cmpMetas.j0.eq_2 ..) ?_
  cases b with
  | true => exact Ev.pos rfl (Ev.bindS (compareI_ev _ _) (Ev.now _))
  | false => exact Ev.neg (by simp) (Ev.bindS (compareI_ev _ _) (Ev.bindS (compareS_ev _ _) (Ev.bind (orInt_ev 2 _ rfl (by omega)) (Ev.now _))))
 by_cases c : p.f1 = m.f1
 ·refine Ev.pos c ((jt _).eqr ?_)
  by_cases c2 : p.f1 = 0
  ·rw [if_pos (by rw [c2]; rfl), if_pos ⟨c, c2⟩]
  ·rw [if_neg (by simpa using c2), if_neg (fun h => c2 h.2)]
 ·exact Ev.neg c ((jt false).eqr (by rw [if_neg (by simp), if_neg (fun h => c h.1)]))
def okM (next : Int) (m : S66) : Prop := (1 ≤ m.f0 ∧ m.f0 ≤ next - 1) ∧ (0 ≤ m.f1 ∧ m.f1 ≤ 3) ∧ isU m.f2 ∧ isU m.f3 ∧ tless m.f3 m.f2 = false ∧ 1 ≤ m.f4 ∧ m.f4 ≤ 400
def aheadM (p m : S66) : Prop := mcmp p m < 0 ∧ ¬ (m.f1 > 0 ∧ p.f1 = m.f1 ∧ tless p.f3 m.f2 = false)
def okAt (l : List S66) (next : Int) (i : Nat) : Prop := okM next (l.getD i z66) ∧ (¬ (l.getD i z66).f0 ∈ (l.take i).map (fun m => m.f0)) ∧ (0 < i → aheadM (l.getD (i - 1) z66) (l.getD i z66))
def vOk (l : List S66) (next seq log : Int) : Prop := l.length ≤ 30 ∧ (1 ≤ next ∧ next ≤ 1000000) ∧ (0 ≤ seq ∧ seq ≤ 1000000000000) ∧ (0 ≤ log ∧ log ≤ next - 1) ∧ ∀ i, i < l.length → okAt l next i
instance (next : Int) (m : S66) : Decidable (okM next m) := by unfold okM; infer_instance
instance (p m : S66) : Decidable (aheadM p m) := by unfold aheadM; infer_instance
instance (l : List S66) (next : Int) (i : Nat) : Decidable (okAt l next i) := by unfold okAt; infer_instance
instance (l : List S66) (next seq log : Int) : Decidable (vOk l next seq log) := by unfold vOk; infer_instance
def impl_VersionOk.f (l0_0 : List S66) (a0_1 a0_2 a0_3 : Int) : Option (Bool) := some (decide (vOk l0_0 a0_1 a0_2 a0_3))
theorem cell_grown {w w' : World} {b : Nat} {p : Addr} {v : Value} (hg : w.grownBy w' (some b)) (hc : w.cell? p = some v) (hne : p.block ≠ b) : w'.cell? p = some v := by
 have := hg.block p.block (World.block_lt_of_cell? w _ hc) (fun e => hne (by injection e))
 rw [← hc]
 simp only [World.cell?, this]
theorem zeroBool (w : World) : (zeroValue 4).run Try.prog w = .ok (.bool false) w := by kernel_rfl
set_option maxHeartbeats 8000000 in
set_option maxRecDepth 100000 in
theorem impl_VersionOk.calls (A0_0 : Option Addr) (c0_0 : Nat) (l : List (S66)) (next seq log : Int) (r : Bool) (w : World) (hr0 : Kd.C k66 w A0_0 l.length l) (hc0 : l.length ≤ c0_0) (h : impl_VersionOk.f l next seq log = some r) :
  Calls Try.prog 27 #[.agg #[.slice A0_0 l.length c0_0, .int .i64 next, .int .i64 seq, .int .i64 log]] w fun e w' => e = .returned (.bool r) ∧ Below w.heap.size w w' := by
 obtain rfl := Option.some.inj h
 clear h hc0
 have HR := Qz.mk hr0
 have hlm := Kd.C_max hr0
 clear hr0
 have hu0 := Try.underlying32
 have hmm := @run_makeMap Try.prog
 have hv0 : (w.alloc (.cells #[.slice A0_0 l.length c0_0, .int .i64 next, .int .i64 seq, .int .i64 log] 32)).cell? ⟨w.heap.size, 0, none⟩ = some (.slice A0_0 l.length c0_0) := by simp
 have hv1 : (w.alloc (.cells #[.slice A0_0 l.length c0_0, .int .i64 next, .int .i64 seq, .int .i64 log] 32)).cell? ⟨w.heap.size, 1, none⟩ = some (.int .i64 next) := by simp
 have hv2 : (w.alloc (.cells #[.slice A0_0 l.length c0_0, .int .i64 next, .int .i64 seq, .int .i64 log] 32)).cell? ⟨w.heap.size, 2, none⟩ = some (.int .i64 seq) := by simp
 have hv3 : (w.alloc (.cells #[.slice A0_0 l.length c0_0, .int .i64 next, .int .i64 seq, .int .i64 log] 32)).cell? ⟨w.heap.size, 3, none⟩ = some (.int .i64 log) := by simp
 have HB := Qz.mk ((Below.refl _ w).alloc (Nat.le_refl _) (.cells #[.slice A0_0 l.length c0_0, .int .i64 next, .int .i64 seq, .int .i64 log] 32))
 by_cases e0 : l.length ≤ 30
 case neg =>
  have hR : decide (vOk l next seq log) = false := decide_eq_false fun h => e0 h.1
  have d0 : decide ((l.length : Int) > 30) = true := decide_eq_true (by omega)
  go_enter Try.func27, Try.ntmps27
  go_wp2
  go_ret
  exact ⟨by rw [hR]; rfl, HB.out⟩
 have d0 : decide ((l.length : Int) > 30) = false := decide_eq_false (by omega)
 have e00 := e0
 by_cases e1 : 1 ≤ next ∧ next ≤ 1000000
 case neg =>
  have hR : decide (vOk l next seq log) = false := decide_eq_false fun h => e1 h.2.1
  have d1 : decide (1 ≤ next ∧ next ≤ 1000000) = false := decide_eq_false e1
  clear e0
  go_enter Try.func27, Try.ntmps27
  go_wp2_with (first | (go_at_call 65; (with_reducible refine (impl_within.calls _ _ _ _ _ (within_ev _ _ _)).mono ?_); rintro e w1 ⟨rfl, hb⟩; (try replace hb := hb.below); replace hv0 := bc hb hv0; replace hv1 := bc hb hv1; replace hv2 := bc hb hv2; replace hv3 := bc hb hv3; have n_ := Qz.mk (qq HB.out hb); clear HB; have HB := n_; clear n_;  clear hb))
  go_ret
  exact ⟨by rw [hR]; rfl, HB.out⟩
 have d1 : decide (1 ≤ next ∧ next ≤ 1000000) = true := decide_eq_true e1
 by_cases e2 : 0 ≤ seq ∧ seq ≤ 1000000000000
 case neg =>
  have hR : decide (vOk l next seq log) = false := decide_eq_false fun h => e2 h.2.2.1
  have d2 : decide (0 ≤ seq ∧ seq ≤ 1000000000000) = false := decide_eq_false e2
  clear e0
  go_enter Try.func27, Try.ntmps27
  go_wp2_with (first | (go_at_call 65; (with_reducible refine (impl_within.calls _ _ _ _ _ (within_ev _ _ _)).mono ?_); rintro e w1 ⟨rfl, hb⟩; (try replace hb := hb.below); replace hv0 := bc hb hv0; replace hv1 := bc hb hv1; replace hv2 := bc hb hv2; replace hv3 := bc hb hv3; have n_ := Qz.mk (qq HB.out hb); clear HB; have HB := n_; clear n_;  clear hb))
  go_ret
  exact ⟨by rw [hR]; rfl, HB.out⟩
 have d2 : decide (0 ≤ seq ∧ seq ≤ 1000000000000) = true := decide_eq_true e2
 by_cases e3 : 0 ≤ log ∧ log ≤ next - 1
 case neg =>
  have hR : decide (vOk l next seq log) = false := decide_eq_false fun h => e3 h.2.2.2.1
  have d3 : decide (0 ≤ log ∧ log ≤ next - 1) = false := decide_eq_false e3
  clear e0
  go_enter Try.func27, Try.ntmps27
  go_wp2_with (first | (go_at_call 65; (with_reducible refine (impl_within.calls _ _ _ _ _ (within_ev _ _ _)).mono ?_); rintro e w1 ⟨rfl, hb⟩; (try replace hb := hb.below); replace hv0 := bc hb hv0; replace hv1 := bc hb hv1; replace hv2 := bc hb hv2; replace hv3 := bc hb hv3; have n_ := Qz.mk (qq HB.out hb); clear HB; have HB := n_; clear n_;  clear hb))
  go_ret
  exact ⟨by rw [hR]; rfl, HB.out⟩
 have d3 : decide (0 ≤ log ∧ log ≤ next - 1) = true := decide_eq_true e3
 clear e0
 have hva0 := fun o => (((Below.refl _ _).alloc (Nat.le_refl _) o).cell (World.block_lt_of_cell? _ _ hv0)).trans hv0
 have hva1 := fun o => (((Below.refl _ _).alloc (Nat.le_refl _) o).cell (World.block_lt_of_cell? _ _ hv1)).trans hv1
 have hva2 := fun o => (((Below.refl _ _).alloc (Nat.le_refl _) o).cell (World.block_lt_of_cell? _ _ hv2)).trans hv2
 have hva3 := fun o => (((Below.refl _ _).alloc (Nat.le_refl _) o).cell (World.block_lt_of_cell? _ _ hv3)).trans hv3
 go_enter Try.func27, Try.ntmps27
 go_wp2_with (first | (go_at_call 65; (with_reducible refine (impl_within.calls _ _ _ _ _ (within_ev _ _ _)).mono ?_); rintro e w1 ⟨rfl, hb⟩; (try replace hb := hb.below); replace hv0 := bc hb hv0; replace hv1 := bc hb hv1; replace hv2 := bc hb hv2; replace hv3 := bc hb hv3; have n_ := Qz.mk (qq HB.out hb); clear HB; have HB := n_; clear n_; replace hva0 := fun o => (((Below.refl _ _).alloc (Nat.le_refl _) o).cell (World.block_lt_of_cell? _ _ hv0)).trans hv0; replace hva1 := fun o => (((Below.refl _ _).alloc (Nat.le_refl _) o).cell (World.block_lt_of_cell? _ _ hv1)).trans hv1; replace hva2 := fun o => (((Below.refl _ _).alloc (Nat.le_refl _) o).cell (World.block_lt_of_cell? _ _ hv2)).trans hv2; replace hva3 := fun o => (((Below.refl _ _).alloc (Nat.le_refl _) o).cell (World.block_lt_of_cell? _ _ hv3)).trans hv3; clear hb))
 have hmb := World.block_lt_of_cell? _ _ hv0
 have hmb : w.heap.size < w1.heap.size := hmb
 go_loopg [36] l.length (fun gk s36 wr => ∃ i : Nat, s36 = .int .i64 i ∧ i ≤ l.length ∧ l.length - i ≤ gk ∧ Qz (Below w.heap.size w wr) ∧ Qz (Met wr w1.heap.size ((l.take i).map fun m => m.f0)) ∧ Qz (∀ j, j < i → okAt l next j) ∧ wr.cell? ⟨w.heap.size, 0, none⟩ = some (.slice A0_0 l.length c0_0) ∧ wr.cell? ⟨w.heap.size, 1, none⟩ = some (.int .i64 next) ∧ wr.cell? ⟨w.heap.size, 2, none⟩ = some (.int .i64 seq) ∧ wr.cell? ⟨w.heap.size, 3, none⟩ = some (.int .i64 log))
 case atStart => exact ⟨0, rfl, Nat.zero_le _, by omega, ⟨HB.out.alloc HB.out.size _⟩, ⟨met_made w1⟩, ⟨fun j hj => absurd hj (Nat.not_lt_zero _)⟩, hva0 _, hva1 _, hva2 _, hva3 _⟩
 case round =>
  clear HB hva0 hva1 hva2 hva3 hv0 hv1 hv2 hv3
  obtain ⟨i, rfl, hin, hg, HBr, HMr, HOK, hv0, hv1, hv2, hv3⟩ := hrel
  by_cases hlt : i < l.length
  case neg =>
   obtain rfl : i = l.length := by omega
   have hd : decide ((l.length : Int) < (l.length : Int)) = false := decide_eq_false (by omega)
   have hR : decide (vOk l next seq log) = true := decide_eq_true ⟨e00, e1, e2, e3, HOK.out⟩
   go_wp2
   go_ret
   exact ⟨by first | rfl | (rw [hR]; rfl) | (simp [hR]; rfl), HBr.out⟩
  have hd : decide ((i : Int) < (l.length : Int)) = true := decide_eq_true (by omega)
  obtain ⟨ad, e, h0, h1, h2, h3, h4⟩ := at_T66 HR.out (i : Int) (by omega) (by omega)
  cases e
  rw [Int.toNat_natCast] at h0 h1 h2 h3 h4
  have hX : qa1 l (i : Int) = l.getD i z66 := by unfold qa1; rw [Int.toNat_natCast]
  rw [hX] at h0 h1 h2 h3 h4
  have HOA : Qz (∀ j, okAt l next j → okAt l next j) := ⟨fun _ h => h⟩
  have hno : ¬ okAt l next i → decide (vOk l next seq log) = false := fun hn => decide_eq_false fun h => hn (h.2.2.2.2 i hlt)
  have hK : Qz (okAt l next i ↔ okM next (l.getD i z66) ∧ (¬ (l.getD i z66).f0 ∈ (l.take i).map (fun m => m.f0)) ∧ (0 < i → aheadM (l.getD (i - 1) z66) (l.getD i z66))) := ⟨Iff.rfl⟩
  have hT : Qz (((l.take (i + 1)).map fun m => m.f0) = ((l.take i).map fun m => m.f0) ++ [(l.getD i z66).f0]) := ⟨by rw [List.take_add_one, List.getElem?_eq_getElem hlt, List.map_append, List.getD_eq_getElem?_getD, List.getElem?_eq_getElem hlt]; rfl⟩
  clear hX
  generalize l.getD i z66 = x at h0 h1 h2 h3 h4 hK hT
  generalize ((l.take i).map fun m => m.f0) = K at HMr hK hT
  replace h0 := bc HBr.out h0
  replace h1 := bc HBr.out h1
  replace h2 := bc HBr.out h2
  replace h3 := bc HBr.out h3
  replace h4 := bc HBr.out h4
  have HB := Qz.mk (HBr.out.alloc HBr.out.size (.cells #[.int .i64 x.f0, .int .i64 x.f1, .string x.f2, .string x.f3, .int .i64 x.f4] 66))
  have HM := Qz.mk (HMr.out.below ((Below.refl _ wr).alloc (Nat.le_refl _) (.cells #[.int .i64 x.f0, .int .i64 x.f1, .string x.f2, .string x.f3, .int .i64 x.f4] 66)))
  have hwr : w.heap.size < wr.heap.size := World.block_lt_of_cell? _ _ hv0
  have hmbr : w1.heap.size < wr.heap.size := HMr.out.lt
  replace hv0 := (((Below.refl _ wr).alloc (Nat.le_refl _) (.cells #[.int .i64 x.f0, .int .i64 x.f1, .string x.f2, .string x.f3, .int .i64 x.f4] 66)).cell (World.block_lt_of_cell? _ _ hv0)).trans hv0
  replace hv1 := (((Below.refl _ wr).alloc (Nat.le_refl _) (.cells #[.int .i64 x.f0, .int .i64 x.f1, .string x.f2, .string x.f3, .int .i64 x.f4] 66)).cell (World.block_lt_of_cell? _ _ hv1)).trans hv1
  replace hv2 := (((Below.refl _ wr).alloc (Nat.le_refl _) (.cells #[.int .i64 x.f0, .int .i64 x.f1, .string x.f2, .string x.f3, .int .i64 x.f4] 66)).cell (World.block_lt_of_cell? _ _ hv2)).trans hv2
  replace hv3 := (((Below.refl _ wr).alloc (Nat.le_refl _) (.cells #[.int .i64 x.f0, .int .i64 x.f1, .string x.f2, .string x.f3, .int .i64 x.f4] 66)).cell (World.block_lt_of_cell? _ _ hv3)).trans hv3
  have hx0 : (wr.alloc (.cells #[.int .i64 x.f0, .int .i64 x.f1, .string x.f2, .string x.f3, .int .i64 x.f4] 66)).cell? ⟨wr.heap.size, 0, none⟩ = some (.int .i64 x.f0) := by simp
  have hx1 : (wr.alloc (.cells #[.int .i64 x.f0, .int .i64 x.f1, .string x.f2, .string x.f3, .int .i64 x.f4] 66)).cell? ⟨wr.heap.size, 1, none⟩ = some (.int .i64 x.f1) := by simp
  have hx2 : (wr.alloc (.cells #[.int .i64 x.f0, .int .i64 x.f1, .string x.f2, .string x.f3, .int .i64 x.f4] 66)).cell? ⟨wr.heap.size, 2, none⟩ = some (.string x.f2) := by simp
  have hx3 : (wr.alloc (.cells #[.int .i64 x.f0, .int .i64 x.f1, .string x.f2, .string x.f3, .int .i64 x.f4] 66)).cell? ⟨wr.heap.size, 3, none⟩ = some (.string x.f3) := by simp
  have hx4 : (wr.alloc (.cells #[.int .i64 x.f0, .int .i64 x.f1, .string x.f2, .string x.f3, .int .i64 x.f4] 66)).cell? ⟨wr.heap.size, 4, none⟩ = some (.int .i64 x.f4) := by simp
  clear HBr HMr
  by_cases c1 : 1 ≤ x.f0 ∧ x.f0 ≤ next - 1
  case neg =>
   have hR := hno fun h => (by have h := hK.out.1 h; exact c1 h.1.1)
   have b1 : decide (1 ≤ x.f0 ∧ x.f0 ≤ next - 1) = false := decide_eq_false c1
   go_wp2_with (first | (go_at_call 65; (with_reducible refine (impl_within.calls _ _ _ _ _ (within_ev _ _ _)).mono ?_); rintro e w9 ⟨rfl, hb⟩; (try replace hb := hb.below); replace hv0 := bc hb hv0; replace hv1 := bc hb hv1; replace hv2 := bc hb hv2; replace hv3 := bc hb hv3; replace hx0 := bc hb hx0; replace hx1 := bc hb hx1; replace hx2 := bc hb hx2; replace hx3 := bc hb hx3; replace hx4 := bc hb hx4; have n_ := Qz.mk (qq HB.out hb); clear HB; have HB := n_; clear n_; have m_ := Qz.mk (HM.out.below hb); clear HM; have HM := m_; clear m_; clear hb) | (go_at_call 66; (with_reducible refine (impl_isUser.calls _ _ _ (isUser_ev _)).mono ?_); rintro e w9 ⟨rfl, hb⟩; (try replace hb := hb.below); replace hv0 := bc hb hv0; replace hv1 := bc hb hv1; replace hv2 := bc hb hv2; replace hv3 := bc hb hv3; replace hx0 := bc hb hx0; replace hx1 := bc hb hx1; replace hx2 := bc hb hx2; replace hx3 := bc hb hx3; replace hx4 := bc hb hx4; have n_ := Qz.mk (qq HB.out hb); clear HB; have HB := n_; clear n_; have m_ := Qz.mk (HM.out.below hb); clear HM; have HM := m_; clear m_; clear hb))
   go_ret
   exact ⟨by rw [hR]; rfl, HB.out⟩
  have b1 : decide (1 ≤ x.f0 ∧ x.f0 ≤ next - 1) = true := decide_eq_true c1
  have hwf : (Lit.int .i64 x.f0).wf = true := by simp [Lit.wf, IntKind.min, IntKind.max, IntKind.signed, IntKind.bits]; omega
  have hlk := met_look HM.out Try.underlying85 Try.underlying2 (zeroBool _) x.f0 hwf
  by_cases c2 : x.f0 ∈ K
  case pos =>
   have hR := hno fun h => (by have h := hK.out.1 h; exact h.2.1 c2)
   have b2 : decide (x.f0 ∈ K) = true := decide_eq_true c2
   go_wp2_with (first | (go_at_call 65; (with_reducible refine (impl_within.calls _ _ _ _ _ (within_ev _ _ _)).mono ?_); rintro e w9 ⟨rfl, hb⟩; (try replace hb := hb.below); replace hv0 := bc hb hv0; replace hv1 := bc hb hv1; replace hv2 := bc hb hv2; replace hv3 := bc hb hv3; replace hx0 := bc hb hx0; replace hx1 := bc hb hx1; replace hx2 := bc hb hx2; replace hx3 := bc hb hx3; replace hx4 := bc hb hx4; have n_ := Qz.mk (qq HB.out hb); clear HB; have HB := n_; clear n_; have m_ := Qz.mk (HM.out.below hb); clear HM; have HM := m_; clear m_; replace hlk := met_look HM.out Try.underlying85 Try.underlying2 (zeroBool _) x.f0 hwf; clear hb) | (go_at_call 66; (with_reducible refine (impl_isUser.calls _ _ _ (isUser_ev _)).mono ?_); rintro e w9 ⟨rfl, hb⟩; (try replace hb := hb.below); replace hv0 := bc hb hv0; replace hv1 := bc hb hv1; replace hv2 := bc hb hv2; replace hv3 := bc hb hv3; replace hx0 := bc hb hx0; replace hx1 := bc hb hx1; replace hx2 := bc hb hx2; replace hx3 := bc hb hx3; replace hx4 := bc hb hx4; have n_ := Qz.mk (qq HB.out hb); clear HB; have HB := n_; clear n_; have m_ := Qz.mk (HM.out.below hb); clear HM; have HM := m_; clear m_; replace hlk := met_look HM.out Try.underlying85 Try.underlying2 (zeroBool _) x.f0 hwf; clear hb))
   go_ret
   exact ⟨by rw [hR]; rfl, HB.out⟩
  have b2 : decide (x.f0 ∈ K) = false := decide_eq_false c2
  by_cases c3 : 0 ≤ x.f1 ∧ x.f1 ≤ 3
  case neg =>
   have hR := hno fun h => (by have h := hK.out.1 h; exact c3 h.1.2.1)
   have b3 : decide (0 ≤ x.f1 ∧ x.f1 ≤ 3) = false := decide_eq_false c3
   go_wp2_with (first | (go_at_call 65; (with_reducible refine (impl_within.calls _ _ _ _ _ (within_ev _ _ _)).mono ?_); rintro e w9 ⟨rfl, hb⟩; (try replace hb := hb.below); replace hv0 := bc hb hv0; replace hv1 := bc hb hv1; replace hv2 := bc hb hv2; replace hv3 := bc hb hv3; replace hx0 := bc hb hx0; replace hx1 := bc hb hx1; replace hx2 := bc hb hx2; replace hx3 := bc hb hx3; replace hx4 := bc hb hx4; have n_ := Qz.mk (qq HB.out hb); clear HB; have HB := n_; clear n_; have m_ := Qz.mk (HM.out.below hb); clear HM; have HM := m_; clear m_; replace hlk := met_look HM.out Try.underlying85 Try.underlying2 (zeroBool _) x.f0 hwf; clear hb) | (go_at_call 66; (with_reducible refine (impl_isUser.calls _ _ _ (isUser_ev _)).mono ?_); rintro e w9 ⟨rfl, hb⟩; (try replace hb := hb.below); replace hv0 := bc hb hv0; replace hv1 := bc hb hv1; replace hv2 := bc hb hv2; replace hv3 := bc hb hv3; replace hx0 := bc hb hx0; replace hx1 := bc hb hx1; replace hx2 := bc hb hx2; replace hx3 := bc hb hx3; replace hx4 := bc hb hx4; have n_ := Qz.mk (qq HB.out hb); clear HB; have HB := n_; clear n_; have m_ := Qz.mk (HM.out.below hb); clear HM; have HM := m_; clear m_; replace hlk := met_look HM.out Try.underlying85 Try.underlying2 (zeroBool _) x.f0 hwf; clear hb))
   go_ret
   exact ⟨by rw [hR]; rfl, HB.out⟩
  have b3 : decide (0 ≤ x.f1 ∧ x.f1 ≤ 3) = true := decide_eq_true c3
  by_cases c4 : isU x.f2
  case neg =>
   have hR := hno fun h => (by have h := hK.out.1 h; exact c4 h.1.2.2.1)
   have b4 : decide (isU x.f2) = false := decide_eq_false c4
   go_wp2_with (first | (go_at_call 65; (with_reducible refine (impl_within.calls _ _ _ _ _ (within_ev _ _ _)).mono ?_); rintro e w9 ⟨rfl, hb⟩; (try replace hb := hb.below); replace hv0 := bc hb hv0; replace hv1 := bc hb hv1; replace hv2 := bc hb hv2; replace hv3 := bc hb hv3; replace hx0 := bc hb hx0; replace hx1 := bc hb hx1; replace hx2 := bc hb hx2; replace hx3 := bc hb hx3; replace hx4 := bc hb hx4; have n_ := Qz.mk (qq HB.out hb); clear HB; have HB := n_; clear n_; have m_ := Qz.mk (HM.out.below hb); clear HM; have HM := m_; clear m_; replace hlk := met_look HM.out Try.underlying85 Try.underlying2 (zeroBool _) x.f0 hwf; clear hb) | (go_at_call 66; (with_reducible refine (impl_isUser.calls _ _ _ (isUser_ev _)).mono ?_); rintro e w9 ⟨rfl, hb⟩; (try replace hb := hb.below); replace hv0 := bc hb hv0; replace hv1 := bc hb hv1; replace hv2 := bc hb hv2; replace hv3 := bc hb hv3; replace hx0 := bc hb hx0; replace hx1 := bc hb hx1; replace hx2 := bc hb hx2; replace hx3 := bc hb hx3; replace hx4 := bc hb hx4; have n_ := Qz.mk (qq HB.out hb); clear HB; have HB := n_; clear n_; have m_ := Qz.mk (HM.out.below hb); clear HM; have HM := m_; clear m_; replace hlk := met_look HM.out Try.underlying85 Try.underlying2 (zeroBool _) x.f0 hwf; clear hb))
   go_ret
   exact ⟨by rw [hR]; rfl, HB.out⟩
  have b4 : decide (isU x.f2) = true := decide_eq_true c4
  by_cases c5 : isU x.f3
  case neg =>
   have hR := hno fun h => (by have h := hK.out.1 h; exact c5 h.1.2.2.2.1)
   have b5 : decide (isU x.f3) = false := decide_eq_false c5
   go_wp2_with (first | (go_at_call 65; (with_reducible refine (impl_within.calls _ _ _ _ _ (within_ev _ _ _)).mono ?_); rintro e w9 ⟨rfl, hb⟩; (try replace hb := hb.below); replace hv0 := bc hb hv0; replace hv1 := bc hb hv1; replace hv2 := bc hb hv2; replace hv3 := bc hb hv3; replace hx0 := bc hb hx0; replace hx1 := bc hb hx1; replace hx2 := bc hb hx2; replace hx3 := bc hb hx3; replace hx4 := bc hb hx4; have n_ := Qz.mk (qq HB.out hb); clear HB; have HB := n_; clear n_; have m_ := Qz.mk (HM.out.below hb); clear HM; have HM := m_; clear m_; replace hlk := met_look HM.out Try.underlying85 Try.underlying2 (zeroBool _) x.f0 hwf; clear hb) | (go_at_call 66; (with_reducible refine (impl_isUser.calls _ _ _ (isUser_ev _)).mono ?_); rintro e w9 ⟨rfl, hb⟩; (try replace hb := hb.below); replace hv0 := bc hb hv0; replace hv1 := bc hb hv1; replace hv2 := bc hb hv2; replace hv3 := bc hb hv3; replace hx0 := bc hb hx0; replace hx1 := bc hb hx1; replace hx2 := bc hb hx2; replace hx3 := bc hb hx3; replace hx4 := bc hb hx4; have n_ := Qz.mk (qq HB.out hb); clear HB; have HB := n_; clear n_; have m_ := Qz.mk (HM.out.below hb); clear HM; have HM := m_; clear m_; replace hlk := met_look HM.out Try.underlying85 Try.underlying2 (zeroBool _) x.f0 hwf; clear hb))
   go_ret
   exact ⟨by rw [hR]; rfl, HB.out⟩
  have b5 : decide (isU x.f3) = true := decide_eq_true c5
  cases b6 : Op.bytesLess x.f3.toList x.f2.toList
  case true =>
   have hR := hno fun h => (by have h := hK.out.1 h; have := h.1.2.2.2.2.1; unfold tless at this; rw [b6] at this; cases this)
   go_wp2_with (first | (go_at_call 65; (with_reducible refine (impl_within.calls _ _ _ _ _ (within_ev _ _ _)).mono ?_); rintro e w9 ⟨rfl, hb⟩; (try replace hb := hb.below); replace hv0 := bc hb hv0; replace hv1 := bc hb hv1; replace hv2 := bc hb hv2; replace hv3 := bc hb hv3; replace hx0 := bc hb hx0; replace hx1 := bc hb hx1; replace hx2 := bc hb hx2; replace hx3 := bc hb hx3; replace hx4 := bc hb hx4; have n_ := Qz.mk (qq HB.out hb); clear HB; have HB := n_; clear n_; have m_ := Qz.mk (HM.out.below hb); clear HM; have HM := m_; clear m_; replace hlk := met_look HM.out Try.underlying85 Try.underlying2 (zeroBool _) x.f0 hwf; clear hb) | (go_at_call 66; (with_reducible refine (impl_isUser.calls _ _ _ (isUser_ev _)).mono ?_); rintro e w9 ⟨rfl, hb⟩; (try replace hb := hb.below); replace hv0 := bc hb hv0; replace hv1 := bc hb hv1; replace hv2 := bc hb hv2; replace hv3 := bc hb hv3; replace hx0 := bc hb hx0; replace hx1 := bc hb hx1; replace hx2 := bc hb hx2; replace hx3 := bc hb hx3; replace hx4 := bc hb hx4; have n_ := Qz.mk (qq HB.out hb); clear HB; have HB := n_; clear n_; have m_ := Qz.mk (HM.out.below hb); clear HM; have HM := m_; clear m_; replace hlk := met_look HM.out Try.underlying85 Try.underlying2 (zeroBool _) x.f0 hwf; clear hb))
   go_ret
   exact ⟨by rw [hR]; rfl, HB.out⟩
  by_cases c7 : 1 ≤ x.f4 ∧ x.f4 ≤ 400
  case neg =>
   have hR := hno fun h => (by have h := hK.out.1 h; exact c7 h.1.2.2.2.2.2)
   have b7 : decide (1 ≤ x.f4 ∧ x.f4 ≤ 400) = false := decide_eq_false c7
   go_wp2_with (first | (go_at_call 65; (with_reducible refine (impl_within.calls _ _ _ _ _ (within_ev _ _ _)).mono ?_); rintro e w9 ⟨rfl, hb⟩; (try replace hb := hb.below); replace hv0 := bc hb hv0; replace hv1 := bc hb hv1; replace hv2 := bc hb hv2; replace hv3 := bc hb hv3; replace hx0 := bc hb hx0; replace hx1 := bc hb hx1; replace hx2 := bc hb hx2; replace hx3 := bc hb hx3; replace hx4 := bc hb hx4; have n_ := Qz.mk (qq HB.out hb); clear HB; have HB := n_; clear n_; have m_ := Qz.mk (HM.out.below hb); clear HM; have HM := m_; clear m_; replace hlk := met_look HM.out Try.underlying85 Try.underlying2 (zeroBool _) x.f0 hwf; clear hb) | (go_at_call 66; (with_reducible refine (impl_isUser.calls _ _ _ (isUser_ev _)).mono ?_); rintro e w9 ⟨rfl, hb⟩; (try replace hb := hb.below); replace hv0 := bc hb hv0; replace hv1 := bc hb hv1; replace hv2 := bc hb hv2; replace hv3 := bc hb hv3; replace hx0 := bc hb hx0; replace hx1 := bc hb hx1; replace hx2 := bc hb hx2; replace hx3 := bc hb hx3; replace hx4 := bc hb hx4; have n_ := Qz.mk (qq HB.out hb); clear HB; have HB := n_; clear n_; have m_ := Qz.mk (HM.out.below hb); clear HM; have HM := m_; clear m_; replace hlk := met_look HM.out Try.underlying85 Try.underlying2 (zeroBool _) x.f0 hwf; clear hb))
   go_ret
   exact ⟨by rw [hR]; rfl, HB.out⟩
  have b7 : decide (1 ≤ x.f4 ∧ x.f4 ≤ 400) = true := decide_eq_true c7
  have hbase : w.heap.size ≤ (wr.alloc (.cells #[.int .i64 x.f0, .int .i64 x.f1, .string x.f2, .string x.f3, .int .i64 x.f4] 66)).heap.size := HB.out.size
  by_cases hi0 : i = 0
  case pos =>
   have hie : ((i : Int) == 0) = true := beq_iff_eq.2 (by omega)
   have Hi0 := Qz.mk hi0
   clear hi0
   go_wp2_with (first | (go_at_call 65; (with_reducible refine (impl_within.calls _ _ _ _ _ (within_ev _ _ _)).mono ?_); rintro e w9 ⟨rfl, hb⟩; (try replace hb := hb.below); replace hv0 := bc hb hv0; replace hv1 := bc hb hv1; replace hv2 := bc hb hv2; replace hv3 := bc hb hv3; replace hx0 := bc hb hx0; replace hx1 := bc hb hx1; replace hx2 := bc hb hx2; replace hx3 := bc hb hx3; replace hx4 := bc hb hx4; have n_ := Qz.mk (qq HB.out hb); clear HB; have HB := n_; clear n_; have m_ := Qz.mk (HM.out.below hb); clear HM; have HM := m_; clear m_; replace hlk := met_look HM.out Try.underlying85 Try.underlying2 (zeroBool _) x.f0 hwf; clear hb) | (go_at_call 66; (with_reducible refine (impl_isUser.calls _ _ _ (isUser_ev _)).mono ?_); rintro e w9 ⟨rfl, hb⟩; (try replace hb := hb.below); replace hv0 := bc hb hv0; replace hv1 := bc hb hv1; replace hv2 := bc hb hv2; replace hv3 := bc hb hv3; replace hx0 := bc hb hx0; replace hx1 := bc hb hx1; replace hx2 := bc hb hx2; replace hx3 := bc hb hx3; replace hx4 := bc hb hx4; have n_ := Qz.mk (qq HB.out hb); clear HB; have HB := n_; clear n_; have m_ := Qz.mk (HM.out.below hb); clear HM; have HM := m_; clear m_; replace hlk := met_look HM.out Try.underlying85 Try.underlying2 (zeroBool _) x.f0 hwf; clear hb) | (at_mapUpdate; refine wpList_met_store _ rfl _ _ _ 85 rfl 2 4 Try.underlying85 Try.underlying2 w1.heap.size K x.f0 (by rfl) (by rfl) (by rfl) hwf c2 HM.out ?_; intro w3 hm3 hg3; replace hv0 := cell_grown hg3 hv0 yq116; replace hv1 := cell_grown hg3 hv1 yq116; replace hv2 := cell_grown hg3 hv2 yq116; replace hv3 := cell_grown hg3 hv3 yq116; replace hx0 := cell_grown hg3 hx0 yq115; replace hx1 := cell_grown hg3 hx1 yq115; replace hx2 := cell_grown hg3 hx2 yq115; replace hx3 := cell_grown hg3 hx3 yq115; replace hx4 := cell_grown hg3 hx4 yq115; have n_ := Qz.mk (HB.out.grown hg3 HB.out.size (fun q hq => by injection hq with hq; omega)); clear HB; have HB := n_; clear n_; clear HM; have HM := Qz.mk hm3; clear hm3 hg3))
   go_roundg (l.length - (i + 1))
   case measure => omega
   case rel =>
    refine ⟨i + 1, by first | rfl | go_num, by omega, Nat.le_refl _, HB, ⟨?_⟩, ⟨fun j hj => ?_⟩, hv0, hv1, hv2, hv3⟩
    ·rw [hT.out]; exact HM.out
    ·have Hi0 := Hi0.out
     obtain rfl : j = i := by omega
     exact hK.out.2 ⟨⟨c1, c3, c4, c5, b6, c7⟩, c2, fun h => absurd h (by omega)⟩
  have hie : ((i : Int) == 0) = false := beq_eq_false_iff_ne.2 (by omega)
  obtain ⟨ad2, e2', q0, q1, q2, q3, q4⟩ := at_T66 HR.out ((i : Int) - 1) (by omega) (by omega)
  obtain rfl : ad = ad2 := by injection e2'
  clear e2'
  rw [show ((i : Int) - 1).toNat = i - 1 from by omega] at q0 q1 q2 q3 q4
  have hX2 : qa1 l ((i : Int) - 1) = l.getD (i - 1) z66 := by unfold qa1; rw [show ((i : Int) - 1).toNat = i - 1 from by omega]
  rw [hX2] at q0 q1 q2 q3 q4
  clear hX2
  generalize l.getD (i - 1) z66 = p at q0 q1 q2 q3 q4 hK
  have Q0 := Qz.mk q0
  have Q1 := Qz.mk q1
  have Q2 := Qz.mk q2
  have Q3 := Qz.mk q3
  have Q4 := Qz.mk q4
  clear q0 q1 q2 q3 q4
  obtain ⟨kc, hkc⟩ := Ev.rounds (cmpMetas_ev p x)
  have HKC := Qz.mk hkc
  clear hkc
  by_cases k1 : mcmp p x ≥ 0
  case pos =>
   have hR := hno fun h => (by have h := (hK.out.1 h).2.2 (by omega); have := h.1; omega)
   have g1 : decide (mcmp p x ≥ 0) = true := decide_eq_true k1
   go_wp2_with (first | (go_at_call 65; (with_reducible refine (impl_within.calls _ _ _ _ _ (within_ev _ _ _)).mono ?_); rintro e w9 ⟨rfl, hb⟩; (try replace hb := hb.below); replace hv0 := bc hb hv0; replace hv1 := bc hb hv1; replace hv2 := bc hb hv2; replace hv3 := bc hb hv3; replace hx0 := bc hb hx0; replace hx1 := bc hb hx1; replace hx2 := bc hb hx2; replace hx3 := bc hb hx3; replace hx4 := bc hb hx4; have n_ := Qz.mk (qq HB.out hb); clear HB; have HB := n_; clear n_; have m_ := Qz.mk (HM.out.below hb); clear HM; have HM := m_; clear m_; replace hlk := met_look HM.out Try.underlying85 Try.underlying2 (zeroBool _) x.f0 hwf; clear hb) | (go_at_call 66; (with_reducible refine (impl_isUser.calls _ _ _ (isUser_ev _)).mono ?_); rintro e w9 ⟨rfl, hb⟩; (try replace hb := hb.below); replace hv0 := bc hb hv0; replace hv1 := bc hb hv1; replace hv2 := bc hb hv2; replace hv3 := bc hb hv3; replace hx0 := bc hb hx0; replace hx1 := bc hb hx1; replace hx2 := bc hb hx2; replace hx3 := bc hb hx3; replace hx4 := bc hb hx4; have n_ := Qz.mk (qq HB.out hb); clear HB; have HB := n_; clear n_; have m_ := Qz.mk (HM.out.below hb); clear HM; have HM := m_; clear m_; replace hlk := met_look HM.out Try.underlying85 Try.underlying2 (zeroBool _) x.f0 hwf; clear hb) | (at_mapUpdate; refine wpList_met_store _ rfl _ _ _ 85 rfl 2 4 Try.underlying85 Try.underlying2 w1.heap.size K x.f0 (by rfl) (by rfl) (by rfl) hwf c2 HM.out ?_; intro w3 hm3 hg3; replace hv0 := cell_grown hg3 hv0 yq116; replace hv1 := cell_grown hg3 hv1 yq116; replace hv2 := cell_grown hg3 hv2 yq116; replace hv3 := cell_grown hg3 hv3 yq116; replace hx0 := cell_grown hg3 hx0 yq115; replace hx1 := cell_grown hg3 hx1 yq115; replace hx2 := cell_grown hg3 hx2 yq115; replace hx3 := cell_grown hg3 hx3 yq115; replace hx4 := cell_grown hg3 hx4 yq115; have n_ := Qz.mk (HB.out.grown hg3 HB.out.size (fun q hq => by injection hq with hq; omega)); clear HB; have HB := n_; clear n_; clear HM; have HM := Qz.mk hm3; clear hm3 hg3; have q0 := bc HB.out Q0.out; have q1 := bc HB.out Q1.out; have q2 := bc HB.out Q2.out; have q3 := bc HB.out Q3.out; have q4 := bc HB.out Q4.out; have hxa0 := fun o => ba hx0 o; have hxa1 := fun o => ba hx1 o; have hxa2 := fun o => ba hx2 o; have hxa3 := fun o => ba hx3 o; have hxa4 := fun o => ba hx4 o; have hpa0 : (w3.alloc (.cells #[.int .i64 p.f0, .int .i64 p.f1, .string p.f2, .string p.f3, .int .i64 p.f4] 66)).cell? ⟨w3.heap.size, 0, none⟩ = some (.int .i64 p.f0) := (by simp); have hpa1 : (w3.alloc (.cells #[.int .i64 p.f0, .int .i64 p.f1, .string p.f2, .string p.f3, .int .i64 p.f4] 66)).cell? ⟨w3.heap.size, 1, none⟩ = some (.int .i64 p.f1) := (by simp); have hpa2 : (w3.alloc (.cells #[.int .i64 p.f0, .int .i64 p.f1, .string p.f2, .string p.f3, .int .i64 p.f4] 66)).cell? ⟨w3.heap.size, 2, none⟩ = some (.string p.f2) := (by simp); have hpa3 : (w3.alloc (.cells #[.int .i64 p.f0, .int .i64 p.f1, .string p.f2, .string p.f3, .int .i64 p.f4] 66)).cell? ⟨w3.heap.size, 3, none⟩ = some (.string p.f3) := (by simp); have hpa4 : (w3.alloc (.cells #[.int .i64 p.f0, .int .i64 p.f1, .string p.f2, .string p.f3, .int .i64 p.f4] 66)).cell? ⟨w3.heap.size, 4, none⟩ = some (.int .i64 p.f4) := (by simp)) | (go_at_call 67; (with_reducible refine (impl_cmpMetas.calls kc _ _ _ _ _ _ _ _ _ _ _ _ HKC.out).mono ?_); rintro e w4 ⟨rfl, hb⟩; (try replace hb := hb.below); replace hx0 := bc hb (hxa0 _); clear hxa0; replace hx1 := bc hb (hxa1 _); clear hxa1; replace hx2 := bc hb (hxa2 _); clear hxa2; replace hx3 := bc hb (hxa3 _); clear hxa3; replace hx4 := bc hb (hxa4 _); clear hxa4;have hp0 := bc hb hpa0; clear hpa0; have hp1 := bc hb hpa1; clear hpa1; have hp2 := bc hb hpa2; clear hpa2; have hp3 := bc hb hpa3; clear hpa3; have hp4 := bc hb hpa4; clear hpa4;replace hv0 := bc hb (ba hv0 _); replace hv1 := bc hb (ba hv1 _); replace hv2 := bc hb (ba hv2 _); replace hv3 := bc hb (ba hv3 _); have n_ := Qz.mk (qq (HB.out.alloc HB.out.size _) hb); clear HB; have HB := n_; clear n_; have m_ := Qz.mk ((HM.out.kept (World.grownBy_alloc w3 _ none) (by simp)).below hb); clear HM; have HM := m_; clear m_ hb))
   go_ret
   exact ⟨by rw [hR]; rfl, HB.out⟩
  have g1 : decide (mcmp p x ≥ 0) = false := decide_eq_false k1
  by_cases k2 : x.f1 > 0
  case neg =>
   have g2 : decide (x.f1 > 0) = false := decide_eq_false k2
   go_wp2_with (first | (go_at_call 65; (with_reducible refine (impl_within.calls _ _ _ _ _ (within_ev _ _ _)).mono ?_); rintro e w9 ⟨rfl, hb⟩; (try replace hb := hb.below); replace hv0 := bc hb hv0; replace hv1 := bc hb hv1; replace hv2 := bc hb hv2; replace hv3 := bc hb hv3; replace hx0 := bc hb hx0; replace hx1 := bc hb hx1; replace hx2 := bc hb hx2; replace hx3 := bc hb hx3; replace hx4 := bc hb hx4; have n_ := Qz.mk (qq HB.out hb); clear HB; have HB := n_; clear n_; have m_ := Qz.mk (HM.out.below hb); clear HM; have HM := m_; clear m_; replace hlk := met_look HM.out Try.underlying85 Try.underlying2 (zeroBool _) x.f0 hwf; clear hb) | (go_at_call 66; (with_reducible refine (impl_isUser.calls _ _ _ (isUser_ev _)).mono ?_); rintro e w9 ⟨rfl, hb⟩; (try replace hb := hb.below); replace hv0 := bc hb hv0; replace hv1 := bc hb hv1; replace hv2 := bc hb hv2; replace hv3 := bc hb hv3; replace hx0 := bc hb hx0; replace hx1 := bc hb hx1; replace hx2 := bc hb hx2; replace hx3 := bc hb hx3; replace hx4 := bc hb hx4; have n_ := Qz.mk (qq HB.out hb); clear HB; have HB := n_; clear n_; have m_ := Qz.mk (HM.out.below hb); clear HM; have HM := m_; clear m_; replace hlk := met_look HM.out Try.underlying85 Try.underlying2 (zeroBool _) x.f0 hwf; clear hb) | (at_mapUpdate; refine wpList_met_store _ rfl _ _ _ 85 rfl 2 4 Try.underlying85 Try.underlying2 w1.heap.size K x.f0 (by rfl) (by rfl) (by rfl) hwf c2 HM.out ?_; intro w3 hm3 hg3; replace hv0 := cell_grown hg3 hv0 yq116; replace hv1 := cell_grown hg3 hv1 yq116; replace hv2 := cell_grown hg3 hv2 yq116; replace hv3 := cell_grown hg3 hv3 yq116; replace hx0 := cell_grown hg3 hx0 yq115; replace hx1 := cell_grown hg3 hx1 yq115; replace hx2 := cell_grown hg3 hx2 yq115; replace hx3 := cell_grown hg3 hx3 yq115; replace hx4 := cell_grown hg3 hx4 yq115; have n_ := Qz.mk (HB.out.grown hg3 HB.out.size (fun q hq => by injection hq with hq; omega)); clear HB; have HB := n_; clear n_; clear HM; have HM := Qz.mk hm3; clear hm3 hg3; have q0 := bc HB.out Q0.out; have q1 := bc HB.out Q1.out; have q2 := bc HB.out Q2.out; have q3 := bc HB.out Q3.out; have q4 := bc HB.out Q4.out; have hxa0 := fun o => ba hx0 o; have hxa1 := fun o => ba hx1 o; have hxa2 := fun o => ba hx2 o; have hxa3 := fun o => ba hx3 o; have hxa4 := fun o => ba hx4 o; have hpa0 : (w3.alloc (.cells #[.int .i64 p.f0, .int .i64 p.f1, .string p.f2, .string p.f3, .int .i64 p.f4] 66)).cell? ⟨w3.heap.size, 0, none⟩ = some (.int .i64 p.f0) := (by simp); have hpa1 : (w3.alloc (.cells #[.int .i64 p.f0, .int .i64 p.f1, .string p.f2, .string p.f3, .int .i64 p.f4] 66)).cell? ⟨w3.heap.size, 1, none⟩ = some (.int .i64 p.f1) := (by simp); have hpa2 : (w3.alloc (.cells #[.int .i64 p.f0, .int .i64 p.f1, .string p.f2, .string p.f3, .int .i64 p.f4] 66)).cell? ⟨w3.heap.size, 2, none⟩ = some (.string p.f2) := (by simp); have hpa3 : (w3.alloc (.cells #[.int .i64 p.f0, .int .i64 p.f1, .string p.f2, .string p.f3, .int .i64 p.f4] 66)).cell? ⟨w3.heap.size, 3, none⟩ = some (.string p.f3) := (by simp); have hpa4 : (w3.alloc (.cells #[.int .i64 p.f0, .int .i64 p.f1, .string p.f2, .string p.f3, .int .i64 p.f4] 66)).cell? ⟨w3.heap.size, 4, none⟩ = some (.int .i64 p.f4) := (by simp)) | (go_at_call 67; (with_reducible refine (impl_cmpMetas.calls kc _ _ _ _ _ _ _ _ _ _ _ _ HKC.out).mono ?_); rintro e w4 ⟨rfl, hb⟩; (try replace hb := hb.below); replace hx0 := bc hb (hxa0 _); clear hxa0; replace hx1 := bc hb (hxa1 _); clear hxa1; replace hx2 := bc hb (hxa2 _); clear hxa2; replace hx3 := bc hb (hxa3 _); clear hxa3; replace hx4 := bc hb (hxa4 _); clear hxa4;have hp0 := bc hb hpa0; clear hpa0; have hp1 := bc hb hpa1; clear hpa1; have hp2 := bc hb hpa2; clear hpa2; have hp3 := bc hb hpa3; clear hpa3; have hp4 := bc hb hpa4; clear hpa4;replace hv0 := bc hb (ba hv0 _); replace hv1 := bc hb (ba hv1 _); replace hv2 := bc hb (ba hv2 _); replace hv3 := bc hb (ba hv3 _); have n_ := Qz.mk (qq (HB.out.alloc HB.out.size _) hb); clear HB; have HB := n_; clear n_; have m_ := Qz.mk ((HM.out.kept (World.grownBy_alloc w3 _ none) (by simp)).below hb); clear HM; have HM := m_; clear m_ hb))
   go_roundg (l.length - (i + 1))
   case measure => omega
   case rel =>
    refine ⟨i + 1, by first | rfl | go_num, by omega, Nat.le_refl _, HB, ⟨?_⟩, ⟨fun j hj => ?_⟩, hv0, hv1, hv2, hv3⟩
    ·rw [hT.out]; exact HM.out
    ·by_cases e : j = i
     ·subst e
      exact hK.out.2 ⟨⟨c1, c3, c4, c5, b6, c7⟩, c2, fun _ => ⟨by omega, fun h => absurd h.1 (by omega)⟩⟩
     ·exact HOK.out j (by omega)
  have g2 : decide (x.f1 > 0) = true := decide_eq_true k2
  by_cases k3 : p.f1 = x.f1
  case neg =>
   have g3 : (p.f1 == x.f1) = false := beq_eq_false_iff_ne.2 k3
   go_wp2_with (first | (go_at_call 65; (with_reducible refine (impl_within.calls _ _ _ _ _ (within_ev _ _ _)).mono ?_); rintro e w9 ⟨rfl, hb⟩; (try replace hb := hb.below); replace hv0 := bc hb hv0; replace hv1 := bc hb hv1; replace hv2 := bc hb hv2; replace hv3 := bc hb hv3; replace hx0 := bc hb hx0; replace hx1 := bc hb hx1; replace hx2 := bc hb hx2; replace hx3 := bc hb hx3; replace hx4 := bc hb hx4; have n_ := Qz.mk (qq HB.out hb); clear HB; have HB := n_; clear n_; have m_ := Qz.mk (HM.out.below hb); clear HM; have HM := m_; clear m_; replace hlk := met_look HM.out Try.underlying85 Try.underlying2 (zeroBool _) x.f0 hwf; clear hb) | (go_at_call 66; (with_reducible refine (impl_isUser.calls _ _ _ (isUser_ev _)).mono ?_); rintro e w9 ⟨rfl, hb⟩; (try replace hb := hb.below); replace hv0 := bc hb hv0; replace hv1 := bc hb hv1; replace hv2 := bc hb hv2; replace hv3 := bc hb hv3; replace hx0 := bc hb hx0; replace hx1 := bc hb hx1; replace hx2 := bc hb hx2; replace hx3 := bc hb hx3; replace hx4 := bc hb hx4; have n_ := Qz.mk (qq HB.out hb); clear HB; have HB := n_; clear n_; have m_ := Qz.mk (HM.out.below hb); clear HM; have HM := m_; clear m_; replace hlk := met_look HM.out Try.underlying85 Try.underlying2 (zeroBool _) x.f0 hwf; clear hb) | (at_mapUpdate; refine wpList_met_store _ rfl _ _ _ 85 rfl 2 4 Try.underlying85 Try.underlying2 w1.heap.size K x.f0 (by rfl) (by rfl) (by rfl) hwf c2 HM.out ?_; intro w3 hm3 hg3; replace hv0 := cell_grown hg3 hv0 yq116; replace hv1 := cell_grown hg3 hv1 yq116; replace hv2 := cell_grown hg3 hv2 yq116; replace hv3 := cell_grown hg3 hv3 yq116; replace hx0 := cell_grown hg3 hx0 yq115; replace hx1 := cell_grown hg3 hx1 yq115; replace hx2 := cell_grown hg3 hx2 yq115; replace hx3 := cell_grown hg3 hx3 yq115; replace hx4 := cell_grown hg3 hx4 yq115; have n_ := Qz.mk (HB.out.grown hg3 HB.out.size (fun q hq => by injection hq with hq; omega)); clear HB; have HB := n_; clear n_; clear HM; have HM := Qz.mk hm3; clear hm3 hg3; have q0 := bc HB.out Q0.out; have q1 := bc HB.out Q1.out; have q2 := bc HB.out Q2.out; have q3 := bc HB.out Q3.out; have q4 := bc HB.out Q4.out; have hxa0 := fun o => ba hx0 o; have hxa1 := fun o => ba hx1 o; have hxa2 := fun o => ba hx2 o; have hxa3 := fun o => ba hx3 o; have hxa4 := fun o => ba hx4 o; have hpa0 : (w3.alloc (.cells #[.int .i64 p.f0, .int .i64 p.f1, .string p.f2, .string p.f3, .int .i64 p.f4] 66)).cell? ⟨w3.heap.size, 0, none⟩ = some (.int .i64 p.f0) := (by simp); have hpa1 : (w3.alloc (.cells #[.int .i64 p.f0, .int .i64 p.f1, .string p.f2, .string p.f3, .int .i64 p.f4] 66)).cell? ⟨w3.heap.size, 1, none⟩ = some (.int .i64 p.f1) := (by simp); have hpa2 : (w3.alloc (.cells #[.int .i64 p.f0, .int .i64 p.f1, .string p.f2, .string p.f3, .int .i64 p.f4] 66)).cell? ⟨w3.heap.size, 2, none⟩ = some (.string p.f2) := (by simp); have hpa3 : (w3.alloc (.cells #[.int .i64 p.f0, .int .i64 p.f1, .string p.f2, .string p.f3, .int .i64 p.f4] 66)).cell? ⟨w3.heap.size, 3, none⟩ = some (.string p.f3) := (by simp); have hpa4 : (w3.alloc (.cells #[.int .i64 p.f0, .int .i64 p.f1, .string p.f2, .string p.f3, .int .i64 p.f4] 66)).cell? ⟨w3.heap.size, 4, none⟩ = some (.int .i64 p.f4) := (by simp)) | (go_at_call 67; (with_reducible refine (impl_cmpMetas.calls kc _ _ _ _ _ _ _ _ _ _ _ _ HKC.out).mono ?_); rintro e w4 ⟨rfl, hb⟩; (try replace hb := hb.below); replace hx0 := bc hb (hxa0 _); clear hxa0; replace hx1 := bc hb (hxa1 _); clear hxa1; replace hx2 := bc hb (hxa2 _); clear hxa2; replace hx3 := bc hb (hxa3 _); clear hxa3; replace hx4 := bc hb (hxa4 _); clear hxa4;have hp0 := bc hb hpa0; clear hpa0; have hp1 := bc hb hpa1; clear hpa1; have hp2 := bc hb hpa2; clear hpa2; have hp3 := bc hb hpa3; clear hpa3; have hp4 := bc hb hpa4; clear hpa4;replace hv0 := bc hb (ba hv0 _); replace hv1 := bc hb (ba hv1 _); replace hv2 := bc hb (ba hv2 _); replace hv3 := bc hb (ba hv3 _); have n_ := Qz.mk (qq (HB.out.alloc HB.out.size _) hb); clear HB; have HB := n_; clear n_; have m_ := Qz.mk ((HM.out.kept (World.grownBy_alloc w3 _ none) (by simp)).below hb); clear HM; have HM := m_; clear m_ hb))
   go_roundg (l.length - (i + 1))
   case measure => omega
   case rel =>
    refine ⟨i + 1, by first | rfl | go_num, by omega, Nat.le_refl _, HB, ⟨?_⟩, ⟨fun j hj => ?_⟩, hv0, hv1, hv2, hv3⟩
    ·rw [hT.out]; exact HM.out
    ·by_cases e : j = i
     ·subst e
      exact hK.out.2 ⟨⟨c1, c3, c4, c5, b6, c7⟩, c2, fun _ => ⟨by omega, fun h => k3 h.2.1⟩⟩
     ·exact HOK.out j (by omega)
  have g3 : (p.f1 == x.f1) = true := beq_iff_eq.2 k3
  have K3 := Qz.mk k3
  clear k3
  cases g4 : Op.bytesLess p.f3.toList x.f2.toList
  case false =>
   have hR := hno fun h => (by have h := (hK.out.1 h).2.2 (by omega); exact h.2 ⟨k2, K3.out, g4⟩)
   go_wp2_with (first | (go_at_call 65; (with_reducible refine (impl_within.calls _ _ _ _ _ (within_ev _ _ _)).mono ?_); rintro e w9 ⟨rfl, hb⟩; (try replace hb := hb.below); replace hv0 := bc hb hv0; replace hv1 := bc hb hv1; replace hv2 := bc hb hv2; replace hv3 := bc hb hv3; replace hx0 := bc hb hx0; replace hx1 := bc hb hx1; replace hx2 := bc hb hx2; replace hx3 := bc hb hx3; replace hx4 := bc hb hx4; have n_ := Qz.mk (qq HB.out hb); clear HB; have HB := n_; clear n_; have m_ := Qz.mk (HM.out.below hb); clear HM; have HM := m_; clear m_; replace hlk := met_look HM.out Try.underlying85 Try.underlying2 (zeroBool _) x.f0 hwf; clear hb) | (go_at_call 66; (with_reducible refine (impl_isUser.calls _ _ _ (isUser_ev _)).mono ?_); rintro e w9 ⟨rfl, hb⟩; (try replace hb := hb.below); replace hv0 := bc hb hv0; replace hv1 := bc hb hv1; replace hv2 := bc hb hv2; replace hv3 := bc hb hv3; replace hx0 := bc hb hx0; replace hx1 := bc hb hx1; replace hx2 := bc hb hx2; replace hx3 := bc hb hx3; replace hx4 := bc hb hx4; have n_ := Qz.mk (qq HB.out hb); clear HB; have HB := n_; clear n_; have m_ := Qz.mk (HM.out.below hb); clear HM; have HM := m_; clear m_; replace hlk := met_look HM.out Try.underlying85 Try.underlying2 (zeroBool _) x.f0 hwf; clear hb) | (at_mapUpdate; refine wpList_met_store _ rfl _ _ _ 85 rfl 2 4 Try.underlying85 Try.underlying2 w1.heap.size K x.f0 (by rfl) (by rfl) (by rfl) hwf c2 HM.out ?_; intro w3 hm3 hg3; replace hv0 := cell_grown hg3 hv0 yq116; replace hv1 := cell_grown hg3 hv1 yq116; replace hv2 := cell_grown hg3 hv2 yq116; replace hv3 := cell_grown hg3 hv3 yq116; replace hx0 := cell_grown hg3 hx0 yq115; replace hx1 := cell_grown hg3 hx1 yq115; replace hx2 := cell_grown hg3 hx2 yq115; replace hx3 := cell_grown hg3 hx3 yq115; replace hx4 := cell_grown hg3 hx4 yq115; have n_ := Qz.mk (HB.out.grown hg3 HB.out.size (fun q hq => by injection hq with hq; omega)); clear HB; have HB := n_; clear n_; clear HM; have HM := Qz.mk hm3; clear hm3 hg3; have q0 := bc HB.out Q0.out; have q1 := bc HB.out Q1.out; have q2 := bc HB.out Q2.out; have q3 := bc HB.out Q3.out; have q4 := bc HB.out Q4.out; have hxa0 := fun o => ba hx0 o; have hxa1 := fun o => ba hx1 o; have hxa2 := fun o => ba hx2 o; have hxa3 := fun o => ba hx3 o; have hxa4 := fun o => ba hx4 o; have hpa0 : (w3.alloc (.cells #[.int .i64 p.f0, .int .i64 p.f1, .string p.f2, .string p.f3, .int .i64 p.f4] 66)).cell? ⟨w3.heap.size, 0, none⟩ = some (.int .i64 p.f0) := (by simp); have hpa1 : (w3.alloc (.cells #[.int .i64 p.f0, .int .i64 p.f1, .string p.f2, .string p.f3, .int .i64 p.f4] 66)).cell? ⟨w3.heap.size, 1, none⟩ = some (.int .i64 p.f1) := (by simp); have hpa2 : (w3.alloc (.cells #[.int .i64 p.f0, .int .i64 p.f1, .string p.f2, .string p.f3, .int .i64 p.f4] 66)).cell? ⟨w3.heap.size, 2, none⟩ = some (.string p.f2) := (by simp); have hpa3 : (w3.alloc (.cells #[.int .i64 p.f0, .int .i64 p.f1, .string p.f2, .string p.f3, .int .i64 p.f4] 66)).cell? ⟨w3.heap.size, 3, none⟩ = some (.string p.f3) := (by simp); have hpa4 : (w3.alloc (.cells #[.int .i64 p.f0, .int .i64 p.f1, .string p.f2, .string p.f3, .int .i64 p.f4] 66)).cell? ⟨w3.heap.size, 4, none⟩ = some (.int .i64 p.f4) := (by simp)) | (go_at_call 67; (with_reducible refine (impl_cmpMetas.calls kc _ _ _ _ _ _ _ _ _ _ _ _ HKC.out).mono ?_); rintro e w4 ⟨rfl, hb⟩; (try replace hb := hb.below); replace hx0 := bc hb (hxa0 _); clear hxa0; replace hx1 := bc hb (hxa1 _); clear hxa1; replace hx2 := bc hb (hxa2 _); clear hxa2; replace hx3 := bc hb (hxa3 _); clear hxa3; replace hx4 := bc hb (hxa4 _); clear hxa4;have hp0 := bc hb hpa0; clear hpa0; have hp1 := bc hb hpa1; clear hpa1; have hp2 := bc hb hpa2; clear hpa2; have hp3 := bc hb hpa3; clear hpa3; have hp4 := bc hb hpa4; clear hpa4;replace hv0 := bc hb (ba hv0 _); replace hv1 := bc hb (ba hv1 _); replace hv2 := bc hb (ba hv2 _); replace hv3 := bc hb (ba hv3 _); have n_ := Qz.mk (qq (HB.out.alloc HB.out.size _) hb); clear HB; have HB := n_; clear n_; have m_ := Qz.mk ((HM.out.kept (World.grownBy_alloc w3 _ none) (by simp)).below hb); clear HM; have HM := m_; clear m_ hb))
   go_ret
   exact ⟨by rw [hR]; rfl, HB.out⟩
  case true =>
   go_wp2_with (first | (go_at_call 65; (with_reducible refine (impl_within.calls _ _ _ _ _ (within_ev _ _ _)).mono ?_); rintro e w9 ⟨rfl, hb⟩; (try replace hb := hb.below); replace hv0 := bc hb hv0; replace hv1 := bc hb hv1; replace hv2 := bc hb hv2; replace hv3 := bc hb hv3; replace hx0 := bc hb hx0; replace hx1 := bc hb hx1; replace hx2 := bc hb hx2; replace hx3 := bc hb hx3; replace hx4 := bc hb hx4; have n_ := Qz.mk (qq HB.out hb); clear HB; have HB := n_; clear n_; have m_ := Qz.mk (HM.out.below hb); clear HM; have HM := m_; clear m_; replace hlk := met_look HM.out Try.underlying85 Try.underlying2 (zeroBool _) x.f0 hwf; clear hb) | (go_at_call 66; (with_reducible refine (impl_isUser.calls _ _ _ (isUser_ev _)).mono ?_); rintro e w9 ⟨rfl, hb⟩; (try replace hb := hb.below); replace hv0 := bc hb hv0; replace hv1 := bc hb hv1; replace hv2 := bc hb hv2; replace hv3 := bc hb hv3; replace hx0 := bc hb hx0; replace hx1 := bc hb hx1; replace hx2 := bc hb hx2; replace hx3 := bc hb hx3; replace hx4 := bc hb hx4; have n_ := Qz.mk (qq HB.out hb); clear HB; have HB := n_; clear n_; have m_ := Qz.mk (HM.out.below hb); clear HM; have HM := m_; clear m_; replace hlk := met_look HM.out Try.underlying85 Try.underlying2 (zeroBool _) x.f0 hwf; clear hb) | (at_mapUpdate; refine wpList_met_store _ rfl _ _ _ 85 rfl 2 4 Try.underlying85 Try.underlying2 w1.heap.size K x.f0 (by rfl) (by rfl) (by rfl) hwf c2 HM.out ?_; intro w3 hm3 hg3; replace hv0 := cell_grown hg3 hv0 yq116; replace hv1 := cell_grown hg3 hv1 yq116; replace hv2 := cell_grown hg3 hv2 yq116; replace hv3 := cell_grown hg3 hv3 yq116; replace hx0 := cell_grown hg3 hx0 yq115; replace hx1 := cell_grown hg3 hx1 yq115; replace hx2 := cell_grown hg3 hx2 yq115; replace hx3 := cell_grown hg3 hx3 yq115; replace hx4 := cell_grown hg3 hx4 yq115; have n_ := Qz.mk (HB.out.grown hg3 HB.out.size (fun q hq => by injection hq with hq; omega)); clear HB; have HB := n_; clear n_; clear HM; have HM := Qz.mk hm3; clear hm3 hg3; have q0 := bc HB.out Q0.out; have q1 := bc HB.out Q1.out; have q2 := bc HB.out Q2.out; have q3 := bc HB.out Q3.out; have q4 := bc HB.out Q4.out; have hxa0 := fun o => ba hx0 o; have hxa1 := fun o => ba hx1 o; have hxa2 := fun o => ba hx2 o; have hxa3 := fun o => ba hx3 o; have hxa4 := fun o => ba hx4 o; have hpa0 : (w3.alloc (.cells #[.int .i64 p.f0, .int .i64 p.f1, .string p.f2, .string p.f3, .int .i64 p.f4] 66)).cell? ⟨w3.heap.size, 0, none⟩ = some (.int .i64 p.f0) := (by simp); have hpa1 : (w3.alloc (.cells #[.int .i64 p.f0, .int .i64 p.f1, .string p.f2, .string p.f3, .int .i64 p.f4] 66)).cell? ⟨w3.heap.size, 1, none⟩ = some (.int .i64 p.f1) := (by simp); have hpa2 : (w3.alloc (.cells #[.int .i64 p.f0, .int .i64 p.f1, .string p.f2, .string p.f3, .int .i64 p.f4] 66)).cell? ⟨w3.heap.size, 2, none⟩ = some (.string p.f2) := (by simp); have hpa3 : (w3.alloc (.cells #[.int .i64 p.f0, .int .i64 p.f1, .string p.f2, .string p.f3, .int .i64 p.f4] 66)).cell? ⟨w3.heap.size, 3, none⟩ = some (.string p.f3) := (by simp); have hpa4 : (w3.alloc (.cells #[.int .i64 p.f0, .int .i64 p.f1, .string p.f2, .string p.f3, .int .i64 p.f4] 66)).cell? ⟨w3.heap.size, 4, none⟩ = some (.int .i64 p.f4) := (by simp)) | (go_at_call 67; (with_reducible refine (impl_cmpMetas.calls kc _ _ _ _ _ _ _ _ _ _ _ _ HKC.out).mono ?_); rintro e w4 ⟨rfl, hb⟩; (try replace hb := hb.below); replace hx0 := bc hb (hxa0 _); clear hxa0; replace hx1 := bc hb (hxa1 _); clear hxa1; replace hx2 := bc hb (hxa2 _); clear hxa2; replace hx3 := bc hb (hxa3 _); clear hxa3; replace hx4 := bc hb (hxa4 _); clear hxa4;have hp0 := bc hb hpa0; clear hpa0; have hp1 := bc hb hpa1; clear hpa1; have hp2 := bc hb hpa2; clear hpa2; have hp3 := bc hb hpa3; clear hpa3; have hp4 := bc hb hpa4; clear hpa4;replace hv0 := bc hb (ba hv0 _); replace hv1 := bc hb (ba hv1 _); replace hv2 := bc hb (ba hv2 _); replace hv3 := bc hb (ba hv3 _); have n_ := Qz.mk (qq (HB.out.alloc HB.out.size _) hb); clear HB; have HB := n_; clear n_; have m_ := Qz.mk ((HM.out.kept (World.grownBy_alloc w3 _ none) (by simp)).below hb); clear HM; have HM := m_; clear m_ hb))
   go_roundg (l.length - (i + 1))
   case measure => omega
   case rel =>
    refine ⟨i + 1, by first | rfl | go_num, by omega, Nat.le_refl _, HB, ⟨?_⟩, ⟨fun j hj => ?_⟩, hv0, hv1, hv2, hv3⟩
    ·rw [hT.out]; exact HM.out
    ·by_cases e : j = i
     ·subst e
      exact hK.out.2 ⟨⟨c1, c3, c4, c5, b6, c7⟩, c2, fun _ => ⟨by omega, fun h => by have h := h.2.2; unfold tless at h; rw [g4] at h; cases h⟩⟩
     ·exact HOK.out j (by omega)
end Go.Proofs.Ytcgejabkjljeeaa.P
end
