/- Proved: the law FnExactVersionText of the given program returns true for every input of its Go types and leaves each argument as it was; no condition. (Part 11 of 12.) -/
import Derived.Test.YtcgejabkjljeeaaCFnExactVersionText3
import Derived.Test.YtcgejabkjljeeaaCFnExactVersionText4
import Derived.Test.YtcgejabkjljeeaaCFnExactVersionText7
import Derived.Test.YtcgejabkjljeeaaCFnExactVersionText5
import Derived.Test.YtcgejabkjljeeaaCFnExactVersionText9
import Derived.OpenShut
import Derived.Test.YtcgejabkjljeeaaCFnExactVersionText8
section
namespace Go.Proofs.Ytcgejabkjljeeaa.P
open Go.RowKit Go.Proofs.YtcgejabkjljeeaaW.PrintWords Go.Proofs.YtcgejabkjljeeaaW.PrintLast Go.Proofs.YtcgejabkjljeeaaW.PrintMore
attribute [local go_sem] str_gtr str_leq str_geq max2_int min2_int max_two min_two max_three min_three max_four min_four
set_option linter.unusedVariables false
set_option linter.unusedSimpArgs false
theorem xor_comm32 (a b : Int) : Go.bits .xor .u32 a b = Go.bits .xor .u32 b a := by unfold Go.bits; simp [BitVec.xor_comm]
theorem and_nat32 (a b : Nat) (ha : a < 4294967296) (hb : b < 4294967296) : Go.bits .and .u32 (a : Int) (b : Int) = ((a &&& b : Nat) : Int) := by
  have hx : a &&& b < 2 ^ 32 := Nat.and_lt_two_pow _ (by omega)
  have h1 : (BitVec.ofInt 32 (a : Int)).toNat = a := by
    rw [BitVec.ofInt_natCast, BitVec.toNat_ofNat]; exact Nat.mod_eq_of_lt (by omega)
  have h2 : (BitVec.ofInt 32 (b : Int)).toNat = b := by
    rw [BitVec.ofInt_natCast, BitVec.toNat_ofNat]; exact Nat.mod_eq_of_lt (by omega)
  show IntKind.u32.wrap ((BitVec.ofInt 32 (a : Int) &&& BitVec.ofInt 32 (b : Int)).toNat : Int) = _
  rw [BitVec.toNat_and, h1, h2, show IntKind.u32.wrap ((a &&& b : Nat) : Int) = ((a &&& b : Nat) : Int) % 4294967296 from by simp [IntKind.wrap, IntKind.bits, IntKind.signed]]
  omega
theorem and_one32 (x : Int) (h0 : 0 ≤ x) (h1 : x < 4294967296) : Go.bits .and .u32 x 1 = x % 2 := by
  have h := and_nat32 x.toNat 1 (by omega) (by omega)
  rw [Nat.and_one_is_mod, Int.toNat_of_nonneg h0] at h
  have h2 : ((x.toNat % 2 : Nat) : Int) = x % 2 := by omega
  exact h.trans h2
theorem xor_range32 (a b : Int) : 0 ≤ Go.bits .xor .u32 a b ∧ Go.bits .xor .u32 a b < 4294967296 := by
  have := wf_bits .xor .u32 a b
  simp [Lit.wf, IntKind.min, IntKind.max, IntKind.signed, IntKind.bits] at this
  omega
def cr8 : Nat → Int → Int
  | 0, x => x
  | d + 1, x => cr8 d (if x % 2 = 1 then Go.bits .xor .u32 (x / 2) 2197175160 else x / 2)
def crG (s : ByteArray) : Nat → Nat → Int → Int
  | _, 0, x => Go.bits .xor .u32 x 4294967295
  | i, d + 1, x => crG s (i + 1) d (cr8 8 (Go.bits .xor .u32 x ((bt s (i : Int)) % 4294967296)))
def crc (s : ByteArray) : Int := crG s 0 s.size 4294967295
theorem crc_ev (s : ByteArray) (hs : s.size ≤ 4611686018427387900) : Ev (fun k => impl_Crc.f k s) (crc s) := by
  unfold impl_Crc.f crc
  have key : ∀ (d i : Nat), i + d = s.size → ∀ x : Int, 0 ≤ x → x < 4294967296 → Ev (fun k => impl_Crc.l0 k s x (s.size : Int) (i : Int)) (crG s i d x) := by
    intro d
    induction d with
    | zero =>
      intro i hi x h0 h1
      refine Ev.step (fun k => impl_Crc.l0.eq_2 ..) ?_
      exact Ev.neg (by omega) ((Ev.now _).eqr (xor_comm32 _ _))
    | succ d ih =>
      intro i hi x h0 h1
      have inner : ∀ (e j : Nat), j + e = 8 → ∀ y : Int, 0 ≤ y → y < 4294967296 → cr8 8 (Go.bits .xor .u32 x ((bt s (i : Int)) % 4294967296)) = cr8 e y → Ev (fun k => impl_Crc.l1 k s y (s.size : Int) (i : Int) (j : Int)) (crG s i (d + 1) x) := by
        intro e
        induction e with
        | zero =>
          intro j hj y h0 h1 he
          refine Ev.step (fun k => impl_Crc.l1.eq_2 ..) ?_
          rw [wsucc (show i < 4611686018427387904 by omega)]
          refine Ev.neg (by omega) ((ih (i + 1) (by omega) y h0 h1).eqr ?_)
          rw [crG, he]
          rfl
        | succ e ih2 =>
          intro j hj y h0 h1 he
          rw [show cr8 (e + 1) y = cr8 e (if y % 2 = 1 then Go.bits .xor .u32 (y / 2) 2197175160 else y / 2) from rfl] at he
          refine Ev.step (fun k => impl_Crc.l1.eq_2 ..) ?_
          rw [wsucc (show j < 4611686018427387904 by omega), and_one32 y h0 h1]
          refine Ev.pos (by omega) ?_
          by_cases c : y % 2 = 1
          · rw [if_pos c] at he
            have hr := xor_range32 (y / 2) 2197175160
            exact Ev.pos c (ih2 (j + 1) (by omega) _ hr.1 hr.2 he)
          · rw [if_neg c] at he
            exact Ev.neg c (ih2 (j + 1) (by omega) _ (by omega) (by omega) he)
      have hr := xor_range32 x ((bt s (i : Int)) % 4294967296)
      refine Ev.step (fun k => impl_Crc.l0.eq_2 ..) ?_
      exact Ev.pos (by omega) (Ev.pos (by omega) (Ev.pos (by omega) (inner 8 0 rfl _ hr.1 hr.2 rfl)))
  exact key s.size 0 (by omega) _ (by omega) (by omega)
theorem sCrc_ev (s : ByteArray) (hs : s.size ≤ 4611686018427387900) : Ev (fun k => spec_Crc.f k s) (crc s) := by
  unfold spec_Crc.f crc
  have key : ∀ (d i : Nat), i + d = s.size → ∀ x : Int, 0 ≤ x → x < 4294967296 → Ev (fun k => spec_Crc.l0 k s x (i : Int)) (crG s i d x) := by
    intro d
    induction d with
    | zero =>
      intro i hi x h0 h1
      refine Ev.step (fun k => spec_Crc.l0.eq_2 ..) ?_
      exact Ev.neg (by omega) (Ev.now _)
    | succ d ih =>
      intro i hi x h0 h1
      have inner : ∀ (e j : Nat), j + e = 8 → ∀ y : Int, 0 ≤ y → y < 4294967296 → cr8 8 (Go.bits .xor .u32 x ((bt s (i : Int)) % 4294967296)) = cr8 e y → Ev (fun k => spec_Crc.l1 k s y (i : Int) (j : Int)) (crG s i (d + 1) x) := by
        intro e
        induction e with
        | zero =>
          intro j hj y h0 h1 he
          refine Ev.step (fun k => spec_Crc.l1.eq_2 ..) ?_
          rw [wsucc (show i < 4611686018427387904 by omega)]
          refine Ev.neg (by omega) ((ih (i + 1) (by omega) y h0 h1).eqr ?_)
          rw [crG, he]
          rfl
        | succ e ih2 =>
          intro j hj y h0 h1 he
          rw [show cr8 (e + 1) y = cr8 e (if y % 2 = 1 then Go.bits .xor .u32 (y / 2) 2197175160 else y / 2) from rfl] at he
          refine Ev.step (fun k => spec_Crc.l1.eq_2 ..) ?_
          rw [wsucc (show j < 4611686018427387904 by omega), Int.tmod_eq_emod_of_nonneg h0]
          refine Ev.pos (by omega) ?_
          by_cases c : y % 2 = 1
          · rw [if_pos c] at he
            have hr := xor_range32 (y / 2) 2197175160
            exact Ev.pos c (ih2 (j + 1) (by omega) _ hr.1 hr.2 he)
          · rw [if_neg c] at he
            exact Ev.neg c (ih2 (j + 1) (by omega) _ (by omega) (by omega) he)
      have hr := xor_range32 x ((bt s (i : Int)) % 4294967296)
      refine Ev.step (fun k => spec_Crc.l0.eq_2 ..) ?_
      exact Ev.pos (by omega) (Ev.pos (by omega) (inner 8 0 rfl _ hr.1 hr.2 rfl))
  exact key s.size 0 (by omega) _ (by omega) (by omega)
def sec (t : ByteArray) : ByteArray := pt t ++ pf (crc t)
theorem section_ev (t : ByteArray) (h : t.size ≤ 2305843009213693952) : Ev (fun k => impl_section.f k t) (sec t) := by
  unfold impl_section.f
  have h1 := pt_size t (by omega)
  have h2 := pf_size (crc t)
  exact Ev.bind (putText_ev t (by omega)) (Ev.bind (crc_ev t (by omega)) (Ev.bindS (putFixed_ev _) (Ev.pos (by omega) (Ev.now _))))
theorem sSection_ev (t : ByteArray) (h : t.size ≤ 2305843009213693952) : Ev (fun k => spec_l10Section.f k t) (sec t) := by
  unfold spec_l10Section.f
  have h1 := pt_size t (by omega)
  have h2 := pf_size (crc t)
  exact Ev.bind (sPutText_ev t (by omega)) (Ev.bind (sCrc_ev t (by omega)) (Ev.bindS (sPutFixed_ev _) (Ev.pos (by omega) (Ev.now _))))
end Go.Proofs.Ytcgejabkjljeeaa.P
end

section
namespace Go.Proofs.Ytcgejabkjljeeaa.Pure
open Go.RowKit Go.Proofs.YtcgejabkjljeeaaW.PrintWords Go.Proofs.YtcgejabkjljeeaaW.PrintLast Go.Proofs.YtcgejabkjljeeaaW.PrintMore
open Go.Proofs.Ytcgejabkjljeeaa.P
set_option linter.unusedVariables false
set_option linter.unusedSimpArgs false
abbrev M_ := S66
theorem rdM (l : List M_) (i : Nat) : rd_T66 l (i : Int) = l.getD i z66 := by unfold rd_T66; rw [Int.toNat_natCast]
def sAh (p m : M_) : Bool := if p.f1 = m.f1 then (if p.f1 = 0 then decide (p.f0 > m.f0) else tless p.f3 m.f2) else decide (p.f1 < m.f1)
theorem sAhead_ev (p m : M_) : spec_l12Ahead.f p.f0 p.f1 p.f2 p.f3 p.f4 m.f0 m.f1 m.f2 m.f3 m.f4 = some (sAh p m) := by
  unfold spec_l12Ahead.f sAh tless
  split
  · split <;> rfl
  · rfl
def sMe (m : M_) : Prop := (1 ≤ m.f0 ∧ m.f0 ≤ 1000000) ∧ (0 ≤ m.f1 ∧ m.f1 ≤ 3) ∧ isU m.f2 ∧ isU m.f3 ∧ tless m.f3 m.f2 = false ∧ 1 ≤ m.f4 ∧ m.f4 ≤ 400
instance (m : M_) : Decidable (sMe m) := by unfold sMe; infer_instance
theorem sMeta_ev (m : M_) : spec_l12Meta.f m.f0 m.f1 m.f2 m.f3 m.f4 = some (decide (sMe m)) := by
  unfold spec_l12Meta.f
  rw [in_ev, Option.bind_some]
  by_cases c1 : 1 ≤ m.f0 ∧ m.f0 ≤ 1000000
  · rw [decide_eq_true c1, if_pos rfl, in_ev, Option.bind_some]
    by_cases c2 : 0 ≤ m.f1 ∧ m.f1 ≤ 3
    · rw [decide_eq_true c2, if_pos rfl, l2User_ev, Option.bind_some]
      by_cases c3 : isU m.f2
      · rw [decide_eq_true c3, if_pos rfl, l2User_ev, Option.bind_some]
        by_cases c4 : isU m.f3
        · rw [decide_eq_true c4, if_pos rfl]
          by_cases c5 : Op.bytesLess m.f3.toList m.f2.toList = true
          · rw [if_pos c5, decide_eq_false]
            intro h
            have := h.2.2.2.2.1
            unfold tless at this
            rw [c5] at this
            cases this
          · rw [if_neg c5, in_ev, Option.bind_some]
            have c5' : tless m.f3 m.f2 = false := by unfold tless; simpa using c5
            exact congrArg some (decide_eq_decide.2 ⟨fun h => ⟨c1, c2, c3, c4, c5', h⟩, fun h => h.2.2.2.2.2⟩)
        · rw [decide_eq_false c4, if_neg (by decide), decide_eq_false (fun h => c4 h.2.2.2.1)]
      · rw [decide_eq_false c3, if_neg (by decide), decide_eq_false (fun h => c3 h.2.2.1)]
    · rw [decide_eq_false c2, if_neg (by decide), decide_eq_false (fun h => c2 h.2.1)]
  · rw [decide_eq_false c1, if_neg (by decide), decide_eq_false (fun h => c1 h.1)]
theorem cI_neg (a b : Int) : cI a b < 0 ↔ a < b := by unfold cI; split <;> (try split) <;> constructor <;> intro h <;> omega
theorem cI_ne (a b : Int) (h : a ≠ b) : cI a b ≠ 0 := by unfold cI; split <;> (try split) <;> omega
theorem cI_self (a : Int) : cI a a = 0 := by unfold cI; rw [if_neg (by omega), if_neg (by omega)]
theorem cS_neg (a b : ByteArray) : cS a b < 0 ↔ tless a b = true := by
  unfold cS
  by_cases h : tless a b = true
  · simp [h]
  · rw [if_neg h]
    constructor
    · intro h2
      split at h2 <;> omega
    · intro h2
      exact absurd h2 h
theorem ahead_eq (next : Int) (p m : M_) (hp : okM next p) : sAh p m = true ↔ aheadM p m := by
  unfold sAh aheadM mcmp
  by_cases c : p.f1 = m.f1
  · rw [if_pos c]
    by_cases c2 : p.f1 = 0
    · rw [if_pos c2, if_pos ⟨c, c2⟩, cI_neg, decide_eq_true_eq]
      constructor
      · exact fun h => ⟨h, fun h2 => by have := h2.1; omega⟩
      · exact fun h => h.1
    · rw [if_neg c2, if_neg (fun h => c2 h.2)]
      have h0 : (([cI p.f1 m.f1, cS p.f2 m.f2] : List Int).find? fun x => x != 0).getD 0 = cS p.f2 m.f2 := by
        rw [c, cI_self]
        by_cases h : cS p.f2 m.f2 = 0
        · simp [h]
        · simp [h]
      rw [h0, cS_neg]
      have hpos : m.f1 > 0 := by have := hp.2.1; omega
      have hle := hp.2.2.2.2.1
      constructor
      · intro h
        refine ⟨?_, fun h2 => by rw [h] at h2; cases h2.2.2⟩
        cases hq : tless p.f2 p.f3 with
        | true => exact bl_trans hq h
        | false =>
          have := bl_eq (a := p.f2.toList) (b := p.f3.toList) hq hle
          unfold tless at h ⊢
          rw [this]
          exact h
      · intro h
        cases hq : tless p.f3 m.f2 with
        | true => rfl
        | false => exact absurd ⟨hpos, c, hq⟩ h.2
  · rw [if_neg c, if_neg (fun h => c h.1), decide_eq_true_eq]
    have h0 : (([cI p.f1 m.f1, cS p.f2 m.f2] : List Int).find? fun x => x != 0).getD 0 = cI p.f1 m.f1 := by
      have := cI_ne p.f1 m.f1 c
      simp [this]
    rw [h0, cI_neg]
    exact ⟨fun h => ⟨h, fun h2 => c h2.2.1⟩, fun h => h.1⟩
theorem sMe_ok (next : Int) (hn : 1 ≤ next ∧ next ≤ 1000000) (m : M_) : (sMe m ∧ ¬ m.f0 ≥ next) ↔ okM next m := by
  unfold sMe okM
  constructor
  · rintro ⟨⟨h1, h2⟩, h3⟩
    exact ⟨by omega, h2⟩
  · rintro ⟨h1, h2⟩
    exact ⟨⟨by omega, h2⟩, by omega⟩
def okFrom (l : List M_) (next : Int) (i : Nat) : Prop := ∀ j, i ≤ j → j < l.length → okAt l next j
noncomputable instance (l : List M_) (next : Int) (i : Nat) : Decidable (okFrom l next i) := Classical.propDecidable _
theorem okFrom_step {l : List M_} {next : Int} {i : Nat} (hi : i < l.length) : okFrom l next i ↔ okAt l next i ∧ okFrom l next (i + 1) := by
  constructor
  · exact fun h => ⟨h i (Nat.le_refl _) hi, fun j h1 h2 => h j (by omega) h2⟩
  · rintro ⟨h1, h2⟩ j hj hl
    by_cases e : j = i
    · rw [e]; exact h1
    · exact h2 j (by omega) hl
theorem mem_nums (l : List M_) (i : Nat) (hi : i ≤ l.length) (n : Int) : n ∈ (l.take i).map (fun m => m.f0) ↔ ∃ j, j < i ∧ (l.getD j z66).f0 = n := by
  rw [List.mem_map]
  constructor
  · rintro ⟨m, hm, rfl⟩
    obtain ⟨j, hj, rfl⟩ := List.getElem_of_mem hm
    rw [List.length_take] at hj
    refine ⟨j, by omega, ?_⟩
    rw [List.getElem_take, List.getD_eq_getElem?_getD, List.getElem?_eq_getElem (by omega)]
    rfl
  · rintro ⟨j, hj, rfl⟩
    refine ⟨l.getD j z66, ?_, rfl⟩
    rw [List.getD_eq_getElem?_getD, List.getElem?_eq_getElem (show j < l.length by omega)]
    show l[j]'(by omega) ∈ l.take i
    rw [List.mem_take_iff_getElem]
    exact ⟨j, by omega, rfl⟩
theorem sVersionOk_ev (l : List M_) (next seq log : Int) (hl : l.length < 2097152) : Ev (fun k => spec_VersionOk.f k l next seq log) (decide (vOk l next seq log)) := by
  have bad : ¬ vOk l next seq log → Ev (fun k => spec_VersionOk.j0 k true l next seq log) (decide (vOk l next seq log)) := fun h => by
    rw [decide_eq_false h]
    refine Ev.step (fun k => spec_VersionOk.j0.eq_2 ..) ?_
    exact Ev.pos rfl (Ev.now _)
  unfold spec_VersionOk.f
  by_cases c0 : (l.length : Int) > 30
  · exact Ev.pos c0 (bad fun h => by have := h.1; omega)
  refine Ev.neg c0 (Ev.bindS (in_ev _ _ _) ?_)
  by_cases c1 : 1 ≤ next ∧ next ≤ 1000000
  case neg => exact Ev.neg (by simpa using c1) (bad fun h => c1 h.2.1)
  refine Ev.pos (decide_eq_true c1) (Ev.bindS (in_ev _ _ _) ?_)
  by_cases c2 : 0 ≤ seq ∧ seq ≤ 1000000000000
  case neg => exact Ev.neg (by simpa using c2) (bad fun h => c2 h.2.2.1)
  refine Ev.pos (decide_eq_true c2) ?_
  rw [wid (x := next - 1) (by omega) (by omega)]
  refine Ev.bindS (in_ev _ _ _) ?_
  by_cases c3 : 0 ≤ log ∧ log ≤ next - 1
  case neg =>
    rw [decide_eq_false c3]
    exact bad fun h => c3 h.2.2.2.1
  rw [decide_eq_true c3]
  refine Ev.step (fun k => spec_VersionOk.j0.eq_2 ..) ?_
  refine Ev.neg (by decide) ?_
  have key : ∀ i, i ≤ l.length → (∀ j, j < i → okAt l next j) → Ev (fun k => spec_VersionOk.l0 k (i : Int) l next seq log) (decide (okFrom l next i)) := by
    refine downTo l.length ?_ ?_
    · intro _
      refine Ev.step (fun k => spec_VersionOk.l0.eq_2 ..) ?_
      exact Ev.neg (by omega) ((Ev.now _).eqr (decide_eq_true (show okFrom l next l.length from fun j h1 h2 => by omega)).symm)
    · intro i hi ih hb
      have fail : ¬ okAt l next i → Ev (fun k => spec_VersionOk.j2 k (i : Int) true l next seq log) (decide (okFrom l next i)) := fun h => by
        refine Ev.step (fun k => spec_VersionOk.j2.eq_2 ..) ?_
        exact Ev.pos rfl ((Ev.now _).eqr (decide_eq_false (p := okFrom l next i) fun h2 => h ((okFrom_step hi).1 h2).1).symm)
      have dup : okM next (l.getD i z66) → (0 < i → aheadM (l.getD (i - 1) z66) (l.getD i z66)) → Ev (fun k => spec_VersionOk.j2 k (i : Int) false l next seq log) (decide (okFrom l next i)) := fun h1 h2 => by
        refine Ev.step (fun k => spec_VersionOk.j2.eq_2 ..) ?_
        refine Ev.neg (by decide) ?_
        have k2 : ∀ j, j ≤ i → (∀ q, q < j → (l.getD q z66).f0 ≠ (l.getD i z66).f0) → Ev (fun k => spec_VersionOk.l1 k (i : Int) (j : Int) l next seq log) (decide (okFrom l next i)) := by
          refine downTo i ?_ ?_
          · intro hq
            have hok : okAt l next i := ⟨h1, fun hm => by
              obtain ⟨j, hj, he⟩ := (mem_nums l i (by omega) _).1 hm
              exact hq j hj he, h2⟩
            refine Ev.step (fun k => spec_VersionOk.l1.eq_2 ..) ?_
            rw [wsucc (show i < 4611686018427387904 by omega)]
            refine Ev.neg (by omega) ((ih (fun j hj => ?_)).eqr ?_)
            · by_cases e : j = i
              · rw [e]; exact hok
              · exact hb j (by omega)
            · exact decide_eq_decide.2 ⟨fun h => (okFrom_step hi).2 ⟨hok, h⟩, fun h => ((okFrom_step hi).1 h).2⟩
          · intro j hj ih2 hq
            refine Ev.step (fun k => spec_VersionOk.l1.eq_2 ..) ?_
            rw [rdM, rdM, wsucc (show j < 4611686018427387904 by omega)]
            refine Ev.pos (by omega) (Ev.pos (by omega) (Ev.pos (by omega) (Ev.pos (by omega) (Ev.pos (by omega) ?_))))
            by_cases e : (l.getD j z66).f0 = (l.getD i z66).f0
            · refine Ev.pos e ((Ev.now _).eqr (decide_eq_false (p := okFrom l next i) fun h => ?_).symm)
              exact ((okFrom_step hi).1 h).1.2.1 ((mem_nums l i (by omega) _).2 ⟨j, hj, e⟩)
            · refine Ev.neg e (ih2 fun q hqj => ?_)
              by_cases e2 : q = j
              · rw [e2]; exact e
              · exact hq q (by omega)
        exact k2 0 (Nat.zero_le _) (fun q hq => absurd hq (Nat.not_lt_zero _))
      refine Ev.step (fun k => spec_VersionOk.l0.eq_2 ..) ?_
      rw [rdM]
      refine Ev.pos (by omega) (Ev.pos (by omega) (Ev.bindS (sMeta_ev _) ?_))
      by_cases d1 : sMe (l.getD i z66)
      case neg => exact Ev.neg (by simpa using d1) (fail fun h => d1 ((sMe_ok next c1 _).2 h.1).1)
      refine Ev.pos (decide_eq_true d1) ?_
      by_cases d2 : (l.getD i z66).f0 ≥ next
      · exact Ev.pos d2 (fail fun h => ((sMe_ok next c1 _).2 h.1).2 d2)
      refine Ev.neg d2 ?_
      have hok := (sMe_ok next c1 _).1 ⟨d1, d2⟩
      by_cases d3 : i = 0
      · refine Ev.neg (by omega) (dup hok (fun h => absurd h (by omega)))
      · have hr : rd_T66 l (wrap64 ((i : Int) - 1)) = l.getD (i - 1) z66 := by
          rw [wid (by omega) (by omega), show (i : Int) - 1 = ((i - 1 : Nat) : Int) from by omega, rdM]
        rw [hr, wid (x := (i : Int) - 1) (by omega) (by omega)]
        refine Ev.pos (by omega) (Ev.pos (by omega) (Ev.pos (by omega) (Ev.bindS (sAhead_ev _ _) ?_)))
        have hp := (hb (i - 1) (by omega)).1
        cases d4 : sAh (l.getD (i - 1) z66) (l.getD i z66) with
        | true => exact dup hok (fun _ => (ahead_eq next _ _ hp).1 d4)
        | false =>
          refine fail fun h => ?_
          have := (ahead_eq next _ _ hp).2 (h.2.2 (by omega))
          rw [d4] at this
          cases this
  refine (key 0 (Nat.zero_le _) (fun j hj => absurd hj (Nat.not_lt_zero _))).eqr (decide_eq_decide.2 ⟨fun h => ⟨by omega, c1, c2, c3, fun i hi => h i (Nat.zero_le _) hi⟩, fun h j _ hj => h.2.2.2.2 j hj⟩)
end Go.Proofs.Ytcgejabkjljeeaa.Pure
end

section
namespace Go.Proofs.Ytcgejabkjljeeaa.Pure
open Go.RowKit Go.Proofs.YtcgejabkjljeeaaW.PrintWords Go.Proofs.YtcgejabkjljeeaaW.PrintLast Go.Proofs.YtcgejabkjljeeaaW.PrintMore
open Go.Proofs.Ytcgejabkjljeeaa.P
set_option linter.unusedVariables false
set_option linter.unusedSimpArgs false
def mtext (m : M_) : ByteArray := (((pv m.f0.toNat ++ pv m.f1.toNat) ++ pt m.f2) ++ pt m.f3) ++ pv m.f4.toNat
def mtexts : List M_ → ByteArray
  | [] => ⟨#[]⟩
  | m :: ms => mtext m ++ mtexts ms
def vbody (l : List M_) (n s g : Int) : ByteArray := (((pv n.toNat ++ pv s.toNat) ++ pv g.toNat) ++ pv l.length) ++ mtexts l
theorem ba_assoc (a b c : ByteArray) : (a ++ b) ++ c = a ++ (b ++ c) := by
  apply ByteArray.ext
  simp [ByteArray.data_append, Array.append_assoc]
theorem ba_nil (a : ByteArray) : a ++ (⟨#[]⟩ : ByteArray) = a := by
  apply ByteArray.ext
  simp [ByteArray.data_append]
theorem okM_small {next : Int} {m : M_} (h : okM next m) (hn : next ≤ 1000000) : (0 ≤ m.f0 ∧ m.f0 < 1000000) ∧ (0 ≤ m.f1 ∧ m.f1 ≤ 3) ∧ (m.f2.size ≤ 40) ∧ (m.f3.size ≤ 40) ∧ 0 ≤ m.f4 ∧ m.f4 ≤ 400 := by
  have h3 := h.2.2.1
  have h4 := h.2.2.2.1
  unfold isU at h3 h4
  have h1 := h.1
  have h2 := h.2.1
  have h6 := h.2.2.2.2.2
  omega
theorem pvz (n : Int) (h : 0 ≤ n) (h1 : n < 18446744073709551616) : 1 ≤ (pv n.toNat).size ∧ (pv n.toNat).size ≤ 10 := pv_size (by omega)
theorem putI_ev (n : Int) (h : 0 ≤ n) (h1 : n < 9223372036854775808) : Ev (fun k => impl_putInt.f k n) (pv n.toNat) := by
  have := putInt_ev n.toNat (by omega)
  rw [Int.toNat_of_nonneg h] at this
  exact this
theorem sPutI_ev (n : Int) (h : 0 ≤ n) (h1 : n < 9223372036854775808) : Ev (fun k => spec_PutVar.f k (IntKind.u64.wrap n)) (pv n.toNat) := by
  have := sPutVar_ev n.toNat (by omega)
  rw [Int.toNat_of_nonneg h] at this
  rw [uid h (by omega)]
  exact this
noncomputable def vtV (l : List M_) (n s g : Int) : ByteArray := if vOk l n s g then sec (vbody l n s g) else ⟨#[]⟩
theorem vOk_all {l : List M_} {n s g : Int} (h : vOk l n s g) : ∀ m ∈ l, okM n m := by
  intro m hm
  obtain ⟨j, hj, rfl⟩ := List.getElem_of_mem hm
  have := (h.2.2.2.2 j hj).1
  rw [List.getD_eq_getElem?_getD, List.getElem?_eq_getElem hj] at this
  exact this
theorem vtext_loop (l : List M_) (n s g : Int) (hv : vOk l n s g) : ∀ i, i ≤ l.length → ∀ out : ByteArray, out.size ≤ 40 + i * 130 → Ev (fun k => impl_Version_text.l0 k out l (l.length : Int) (i : Int)) (sec (out ++ mtexts (l.drop i))) := by
  have h30 := hv.1
  refine downTo l.length ?_ ?_
  · intro out ho
    refine Ev.step (fun k => impl_Version_text.l0.eq_2 ..) ?_
    rw [List.drop_length, mtexts, ba_nil]
    exact Ev.neg (by omega) (Ev.bind (section_ev out (by omega)) (Ev.now _))
  · intro i hi ih out ho
    have hr : rd_T66 l (i : Int) = l[i] := by rw [rdM, List.getD_eq_getElem?_getD, List.getElem?_eq_getElem hi]; rfl
    obtain ⟨h0, h1, h2, h3, h4⟩ := okM_small (vOk_all hv l[i] (List.getElem_mem hi)) hv.2.1.2
    have e0 := pvz l[i].f0 (by omega) (by omega)
    have e1 := pvz l[i].f1 (by omega) (by omega)
    have e2 := pt_size l[i].f2 (by omega)
    have e3 := pt_size l[i].f3 (by omega)
    have e4 := pvz l[i].f4 (by omega) (by omega)
    rw [List.drop_eq_getElem_cons hi, mtexts]
    have fin : sec ((out ++ ((((pv l[i].f0.toNat ++ pv l[i].f1.toNat) ++ pt l[i].f2) ++ pt l[i].f3) ++ pv l[i].f4.toNat)) ++ mtexts (l.drop (i + 1))) = sec (out ++ (mtext l[i] ++ mtexts (l.drop (i + 1)))) := by
      unfold mtext
      simp only [ba_assoc]
    refine Ev.step (fun k => impl_Version_text.l0.eq_2 ..) ?_
    rw [hr, wsucc (show i < 4611686018427387904 by omega)]
    refine Ev.pos (by omega) (Ev.pos (by omega) (Ev.pos (by omega) (Ev.bind (putI_ev _ h0.1 (by omega)) (Ev.bind (putI_ev _ h1.1 (by omega)) (Ev.pos (by omega) (Ev.bind (putText_ev _ (by omega)) (Ev.pos (by omega) (Ev.bind (putText_ev _ (by omega)) (Ev.pos (by omega) (Ev.bind (putI_ev _ h4.1 (by omega)) (Ev.pos (by omega) (Ev.pos (by omega) ((ih _ ?_).eqr fin)))))))))))))
    simp only [ByteArray.size_append]
    omega
theorem sVtext_loop (l : List M_) (n s g : Int) (hv : vOk l n s g) : ∀ i, i ≤ l.length → ∀ out : ByteArray, out.size ≤ 40 + i * 130 → Ev (fun k => spec_VersionText.l0 k out (i : Int) l n s g) (sec (out ++ mtexts (l.drop i))) := by
  have h30 := hv.1
  refine downTo l.length ?_ ?_
  · intro out ho
    refine Ev.step (fun k => spec_VersionText.l0.eq_2 ..) ?_
    rw [List.drop_length, mtexts, ba_nil]
    exact Ev.neg (by omega) (Ev.bind (sSection_ev out (by omega)) (Ev.now _))
  · intro i hi ih out ho
    have hr : rd_T66 l (i : Int) = l[i] := by rw [rdM, List.getD_eq_getElem?_getD, List.getElem?_eq_getElem hi]; rfl
    obtain ⟨h0, h1, h2, h3, h4⟩ := okM_small (vOk_all hv l[i] (List.getElem_mem hi)) hv.2.1.2
    have e0 := pvz l[i].f0 (by omega) (by omega)
    have e1 := pvz l[i].f1 (by omega) (by omega)
    have e2 := pt_size l[i].f2 (by omega)
    have e3 := pt_size l[i].f3 (by omega)
    have e4 := pvz l[i].f4 (by omega) (by omega)
    rw [List.drop_eq_getElem_cons hi, mtexts]
    have fin : sec ((((((out ++ pv l[i].f0.toNat) ++ pv l[i].f1.toNat) ++ pt l[i].f2) ++ pt l[i].f3) ++ pv l[i].f4.toNat) ++ mtexts (l.drop (i + 1))) = sec (out ++ (mtext l[i] ++ mtexts (l.drop (i + 1)))) := by
      unfold mtext
      simp only [ba_assoc]
    refine Ev.step (fun k => spec_VersionText.l0.eq_2 ..) ?_
    rw [hr, wsucc (show i < 4611686018427387904 by omega)]
    refine Ev.pos (by omega) (Ev.pos (by omega) (Ev.bind (sPutI_ev _ h0.1 (by omega)) (Ev.pos (by omega) (Ev.bind (sPutI_ev _ h1.1 (by omega)) (Ev.pos (by omega) (Ev.bind (sPutText_ev _ (by omega)) (Ev.pos (by omega) (Ev.bind (sPutText_ev _ (by omega)) (Ev.pos (by omega) (Ev.bind (sPutI_ev _ h4.1 (by omega)) (Ev.pos (by omega) ((ih _ ?_).eqr fin))))))))))))
    simp only [ByteArray.size_append]
    omega
theorem versionText_ev (l : List M_) (n s g : Int) : Ev (fun k => impl_VersionText.f k l n s g) (vtV l n s g) := by
  unfold impl_VersionText.f vtV
  refine Ev.bindS (show impl_VersionOk.f l n s g = some (decide (vOk l n s g)) from rfl) ?_
  by_cases c : vOk l n s g
  case neg =>
    rw [if_neg c]
    exact Ev.neg (by simp [c]) (Ev.now _)
  rw [if_pos c]
  refine Ev.pos (decide_eq_true c) (Ev.bind (a := sec (vbody l n s g)) ?_ (Ev.now _))
  have hn := c.2.1
  have hs := c.2.2.1
  have hg := c.2.2.2.1
  have h30 := c.1
  have e0 := pvz n (by omega) (by omega)
  have e1 := pvz s (by omega) (by omega)
  have e2 := pvz g (by omega) (by omega)
  have e3 := pv_size (n := l.length) (by omega)
  have hlen := putInt_ev l.length (by omega)
  unfold impl_Version_text.f
  refine Ev.bind (putI_ev n (by omega) (by omega)) (Ev.bind (putI_ev s (by omega) (by omega)) (Ev.pos (by omega) (Ev.bind (putI_ev g (by omega) (by omega)) (Ev.pos (by omega) (Ev.bind hlen (Ev.pos (by omega) ((vtext_loop l n s g c 0 (Nat.zero_le _) _ ?_).eqr rfl)))))))
  simp only [ByteArray.size_append]
  omega
theorem sVersionText_ev (l : List M_) (n s g : Int) (hl : l.length < 2097152) : Ev (fun k => spec_VersionText.f k l n s g) (vtV l n s g) := by
  unfold spec_VersionText.f vtV
  refine Ev.bind (sVersionOk_ev l n s g hl) ?_
  by_cases c : vOk l n s g
  case neg =>
    rw [if_neg c]
    exact Ev.neg (by simp [c]) (Ev.now _)
  rw [if_pos c]
  have hn := c.2.1
  have hs := c.2.2.1
  have hg := c.2.2.2.1
  have h30 := c.1
  have e0 := pvz n (by omega) (by omega)
  have e1 := pvz s (by omega) (by omega)
  have e2 := pvz g (by omega) (by omega)
  have e3 := pv_size (n := l.length) (by omega)
  have hlen := sPutI_ev (l.length : Int) (by omega) (by omega)
  rw [Int.toNat_natCast] at hlen
  refine Ev.pos (decide_eq_true c) (Ev.bind (sPutI_ev n (by omega) (by omega)) (Ev.bind (sPutI_ev s (by omega) (by omega)) (Ev.pos (by omega) (Ev.bind (sPutI_ev g (by omega) (by omega)) (Ev.pos (by omega) (Ev.bind hlen (Ev.pos (by omega) ((sVtext_loop l n s g c 0 (Nat.zero_le _) _ ?_).eqr rfl))))))))
  simp only [ByteArray.size_append]
  omega
end Go.Proofs.Ytcgejabkjljeeaa.Pure
end

section
namespace Go.Proofs.Ytcgejabkjljeeaa.Pure
open Go.RowKit Go.Proofs.YtcgejabkjljeeaaW.PrintWords Go.Proofs.YtcgejabkjljeeaaW.PrintLast Go.Proofs.YtcgejabkjljeeaaW.PrintMore
open Go.Proofs.Ytcgejabkjljeeaa.P
set_option linter.unusedVariables false
set_option linter.unusedSimpArgs false
theorem szVersion_ev (l : List S114) (a b c : Int) (hl : l.length ≤ 9223372036854775807 ∧ ∀ x ∈ l, wf_Meta x) : ∃ r, Ev (fun k => laws_szVersion.f k l a b c 1048576) r ∧ (r = -1 ∨ 0 ≤ r ∧ (l.length : Int) ≤ 1048576 ∧ ∀ x ∈ l, sm_Meta x) := by
  obtain ⟨q, hq, hq1, hq2⟩ := szMetaS_ev l 1048576 hl.2 hl.1 (by omega) (by omega)
  unfold laws_szVersion.f
  rcases hq2 with rfl | ⟨hq0, hlen, hsm⟩
  · exact ⟨-1, Ev.bind hq (Ev.pos (by omega) (Ev.now _)), .inl rfl⟩
  · exact ⟨q, Ev.bind hq (Ev.neg (by omega) (Ev.now _)), .inr ⟨hq0, hlen, hsm⟩⟩
theorem toVersion_ev (l : List S114) (a b c : Int) (hl : l.length < 2097152) : Ev (fun k => laws_toVersion.f k l a b c) (l.map cv_Meta, a, b, c) := by
  unfold laws_toVersion.f
  exact Ev.bind (toMetaS_ev l hl) (Ev.now _)
theorem eqVersion_ev (l : List M_) (a b c : Int) (hl : l.length < 2097152) : Ev (fun k => laws_eqVersion.f k l a b c l a b c) true := by
  unfold laws_eqVersion.f
  exact Ev.bind (eqMetaS_ev l hl) (Ev.pos rfl (Ev.pos rfl (Ev.pos rfl (Ev.pos rfl (Ev.now _)))))
end Go.Proofs.Ytcgejabkjljeeaa.Pure
end

section
namespace Go.Proofs.Ytcgejabkjljeeaa.Pure
open Go.RowKit Go.Proofs.YtcgejabkjljeeaaW.PrintWords Go.Proofs.YtcgejabkjljeeaaW.PrintLast Go.Proofs.YtcgejabkjljeeaaW.PrintMore
open Go.Proofs.Ytcgejabkjljeeaa.P
set_option linter.unusedVariables false
set_option linter.unusedSimpArgs false
theorem FnExactVersionText : ∀ (l0_0 : (List S114)) (a0_1 : Int) (a0_2 : Int) (a0_3 : Int), (l0_0.length ≤ 9223372036854775807 ∧ ∀ x ∈ l0_0, wf_Meta x) → (-9223372036854775808 ≤ a0_1 ∧ a0_1 ≤ 9223372036854775807) → (-9223372036854775808 ≤ a0_2 ∧ a0_2 ≤ 9223372036854775807) → (-9223372036854775808 ≤ a0_3 ∧ a0_3 ≤ 9223372036854775807) → Ev (fun k => laws_FnExactVersionText.f k l0_0 a0_1 a0_2 a0_3) true := by
  intro l a b c hl _ _ _
  unfold laws_FnExactVersionText.f
  obtain ⟨q, hq, hq2⟩ := szVersion_ev l a b c hl
  rcases hq2 with rfl | ⟨hq0, hlen, hsm⟩
  · exact Ev.bind hq (Ev.pos (by omega) (Ev.now _))
  · have ht := toVersion_ev l a b c (by omega)
    have hm : (l.map cv_Meta).length < 2097152 := by rw [List.length_map]; omega
    exact Ev.bind hq (Ev.neg (by omega) (Ev.bind ht (Ev.bind (sVersionText_ev _ a b c hm) (Ev.bind ht (Ev.bind (versionText_ev _ a b c) (Ev.pos rfl (Ev.bind ht (Ev.bind (eqVersion_ev _ a b c hm) (Ev.pos rfl (Ev.now _))))))))))
end Go.Proofs.Ytcgejabkjljeeaa.Pure
end
