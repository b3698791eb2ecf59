/- Proved: the law FnExactReadVersion of the given program returns true for every input of its Go types and leaves each argument as it was; no condition. (Part 11 of 12.) -/
import Derived.Test.YtcgejabkjljeeaaCFnExactReadVersion3
import Derived.Test.YtcgejabkjljeeaaCFnExactReadVersion4
import Derived.Test.YtcgejabkjljeeaaCFnExactReadVersion7
import Derived.Test.YtcgejabkjljeeaaCFnExactReadVersion5
import Derived.Test.YtcgejabkjljeeaaCFnExactReadVersion9
import Derived.OpenShut
import Derived.Test.YtcgejabkjljeeaaCFnExactReadVersion8
section
namespace Go.Proofs.Ytcgejabkjljeeaa.P
open Go.RowKit Go.Proofs.YtcgejabkjljeeaaW.PrintWords Go.Proofs.YtcgejabkjljeeaaW.PrintLast Go.Proofs.YtcgejabkjljeeaaW.PrintMore
attribute [local go_sem] str_gtr str_leq str_geq max2_int min2_int max_two min_two qw qv max_four min_four
set_option linter.unusedVariables false
set_option linter.unusedSimpArgs false
theorem xor_comm32 (a b : Int) : Go.bits .xor .u32 a b = Go.bits .xor .u32 b a := by unfold Go.bits; simp [BitVec.xor_comm]
theorem and_nat32 (a b : Nat) (ha : a < 4294967296) (hb : b < 4294967296) : Go.bits .and .u32 (a : Int) (b : Int) = ((a &&& b : Nat) : Int) := by
  have hx : a &&& b < 2 ^ 32 := Nat.and_lt_two_pow _ (by omega)
  have h1 : (BitVec.ofInt 32 (a : Int)).toNat = a := by
    rw [BitVec.ofInt_natCast, BitVec.toNat_ofNat]; exact Nat.mod_eq_of_lt (by omega)
  have h2 : (BitVec.ofInt 32 (b : Int)).toNat = b := by
    rw [BitVec.ofInt_natCast, BitVec.toNat_ofNat]; exact Nat.mod_eq_of_lt (by omega)
  show IntKind.u32.wrap ((BitVec.ofInt 32 (a : Int) &&& BitVec.ofInt 32 (b : Int)).toNat : Int) = _
  rw [BitVec.toNat_and, h1, h2, show IntKind.u32.wrap ((a &&& b : Nat) : Int) = ((a &&& b : Nat) : Int) % 4294967296 from by simp [IntKind.wrap, IntKind.bits, IntKind.signed]]
  omega
theorem and_one32 (x : Int) (h0 : 0 ≤ x) (h1 : x < 4294967296) : Go.bits .and .u32 x 1 = x % 2 := by
  have h := and_nat32 x.toNat 1 (by omega) (by omega)
  rw [Nat.and_one_is_mod, Int.toNat_of_nonneg h0] at h
  have h2 : ((x.toNat % 2 : Nat) : Int) = x % 2 := by omega
  exact h.trans h2
theorem xor_range32 (a b : Int) : 0 ≤ Go.bits .xor .u32 a b ∧ Go.bits .xor .u32 a b < 4294967296 := by
  have := wf_bits .xor .u32 a b
  simp [Lit.wf, IntKind.min, IntKind.max, IntKind.signed, IntKind.bits] at this
  omega
def cr8 : Nat → Int → Int
  | 0, x => x
  | d + 1, x => cr8 d (if x % 2 = 1 then Go.bits .xor .u32 (x / 2) 2197175160 else x / 2)
def crG (s : ByteArray) : Nat → Nat → Int → Int
  | _, 0, x => Go.bits .xor .u32 x 4294967295
  | i, d + 1, x => crG s (i + 1) d (cr8 8 (Go.bits .xor .u32 x ((bt s (i : Int)) % 4294967296)))
def crc (s : ByteArray) : Int := crG s 0 s.size 4294967295
theorem crG_range (s : ByteArray) : ∀ (d i : Nat) (x : Int), 0 ≤ crG s i d x ∧ crG s i d x < 4294967296
  | 0, i, x => xor_range32 _ _
  | d + 1, i, x => crG_range s d (i + 1) _
theorem crc_range (s : ByteArray) : 0 ≤ crc s ∧ crc s < 4294967296 := crG_range s _ _ _
theorem crc_ev (s : ByteArray) (hs : s.size ≤ 4611686018427387900) : Ev (fun k => impl_Crc.f k s) (crc s) := by
  unfold impl_Crc.f crc
  have key : ∀ (d i : Nat), i + d = s.size → ∀ x : Int, 0 ≤ x → x < 4294967296 → Ev (fun k => impl_Crc.l0 k s x (s.size : Int) (i : Int)) (crG s i d x) := by
    intro d
    induction d with
    | zero =>
      intro i hi x h0 h1
      refine Ev.step (fun k => impl_Crc.l0.eq_2 ..) ?_
      exact Ev.neg (by omega) ((Ev.now _).eqr (xor_comm32 _ _))
    | succ d ih =>
      intro i hi x h0 h1
      have inner : ∀ (e j : Nat), j + e = 8 → ∀ y : Int, 0 ≤ y → y < 4294967296 → cr8 8 (Go.bits .xor .u32 x ((bt s (i : Int)) % 4294967296)) = cr8 e y → Ev (fun k => impl_Crc.l1 k s y (s.size : Int) (i : Int) (j : Int)) (crG s i (d + 1) x) := by
        intro e
        induction e with
        | zero =>
          intro j hj y h0 h1 he
          refine Ev.step (fun k => impl_Crc.l1.eq_2 ..) ?_
          rw [wsucc (show i < 4611686018427387904 by omega)]
          refine Ev.neg (by omega) ((ih (i + 1) (by omega) y h0 h1).eqr ?_)
          rw [crG, he]
          rfl
        | succ e ih2 =>
          intro j hj y h0 h1 he
          rw [show cr8 (e + 1) y = cr8 e (if y % 2 = 1 then Go.bits .xor .u32 (y / 2) 2197175160 else y / 2) from rfl] at he
          refine Ev.step (fun k => impl_Crc.l1.eq_2 ..) ?_
          rw [wsucc (show j < 4611686018427387904 by omega), and_one32 y h0 h1]
          refine Ev.pos (by omega) ?_
          by_cases c : y % 2 = 1
          · rw [if_pos c] at he
            have hr := xor_range32 (y / 2) 2197175160
            exact Ev.pos c (ih2 (j + 1) (by omega) _ hr.1 hr.2 he)
          · rw [if_neg c] at he
            exact Ev.neg c (ih2 (j + 1) (by omega) _ (by omega) (by omega) he)
      have hr := xor_range32 x ((bt s (i : Int)) % 4294967296)
      refine Ev.step (fun k => impl_Crc.l0.eq_2 ..) ?_
      exact Ev.pos (by omega) (Ev.pos (by omega) (Ev.pos (by omega) (inner 8 0 rfl _ hr.1 hr.2 rfl)))
  exact key s.size 0 (by omega) _ (by omega) (by omega)
theorem sCrc_ev (s : ByteArray) (hs : s.size ≤ 4611686018427387900) : Ev (fun k => spec_Crc.f k s) (crc s) := by
  unfold spec_Crc.f crc
  have key : ∀ (d i : Nat), i + d = s.size → ∀ x : Int, 0 ≤ x → x < 4294967296 → Ev (fun k => spec_Crc.l0 k s x (i : Int)) (crG s i d x) := by
    intro d
    induction d with
    | zero =>
      intro i hi x h0 h1
      refine Ev.step (fun k => spec_Crc.l0.eq_2 ..) ?_
      exact Ev.neg (by omega) (Ev.now _)
    | succ d ih =>
      intro i hi x h0 h1
      have inner : ∀ (e j : Nat), j + e = 8 → ∀ y : Int, 0 ≤ y → y < 4294967296 → cr8 8 (Go.bits .xor .u32 x ((bt s (i : Int)) % 4294967296)) = cr8 e y → Ev (fun k => spec_Crc.l1 k s y (i : Int) (j : Int)) (crG s i (d + 1) x) := by
        intro e
        induction e with
        | zero =>
          intro j hj y h0 h1 he
          refine Ev.step (fun k => spec_Crc.l1.eq_2 ..) ?_
          rw [wsucc (show i < 4611686018427387904 by omega)]
          refine Ev.neg (by omega) ((ih (i + 1) (by omega) y h0 h1).eqr ?_)
          rw [crG, he]
          rfl
        | succ e ih2 =>
          intro j hj y h0 h1 he
          rw [show cr8 (e + 1) y = cr8 e (if y % 2 = 1 then Go.bits .xor .u32 (y / 2) 2197175160 else y / 2) from rfl] at he
          refine Ev.step (fun k => spec_Crc.l1.eq_2 ..) ?_
          rw [wsucc (show j < 4611686018427387904 by omega), Int.tmod_eq_emod_of_nonneg h0]
          refine Ev.pos (by omega) ?_
          by_cases c : y % 2 = 1
          · rw [if_pos c] at he
            have hr := xor_range32 (y / 2) 2197175160
            exact Ev.pos c (ih2 (j + 1) (by omega) _ hr.1 hr.2 he)
          · rw [if_neg c] at he
            exact Ev.neg c (ih2 (j + 1) (by omega) _ (by omega) (by omega) he)
      have hr := xor_range32 x ((bt s (i : Int)) % 4294967296)
      refine Ev.step (fun k => spec_Crc.l0.eq_2 ..) ?_
      exact Ev.pos (by omega) (Ev.pos (by omega) (inner 8 0 rfl _ hr.1 hr.2 rfl))
  exact key s.size 0 (by omega) _ (by omega) (by omega)
def sec (t : ByteArray) : ByteArray := pt t ++ pf (crc t)
theorem sSection_ev (t : ByteArray) (h : t.size ≤ 2305843009213693952) : Ev (fun k => spec_l10Section.f k t) (sec t) := by
  unfold spec_l10Section.f
  have h1 := pt_size t (by omega)
  have h2 := pf_size (crc t)
  exact Ev.bind (sPutText_ev t (by omega)) (Ev.bind (sCrc_ev t (by omega)) (Ev.bindS (sPutFixed_ev _) (Ev.pos (by omega) (Ev.now _))))
end Go.Proofs.Ytcgejabkjljeeaa.P
end

section
namespace Go.Proofs.Ytcgejabkjljeeaa.Pure
open Go.RowKit Go.Proofs.YtcgejabkjljeeaaW.PrintWords Go.Proofs.YtcgejabkjljeeaaW.PrintLast Go.Proofs.YtcgejabkjljeeaaW.PrintMore
open Go.Proofs.Ytcgejabkjljeeaa.P
set_option linter.unusedVariables false
set_option linter.unusedSimpArgs false
abbrev M_ := S66
theorem rdM (l : List M_) (i : Nat) : qk l (i : Int) = l.getD i z66 := by unfold qk; rw [Int.toNat_natCast]
def sAh (p m : M_) : Bool := if p.f1 = m.f1 then (if p.f1 = 0 then decide (p.f0 > m.f0) else tless p.f3 m.f2) else decide (p.f1 < m.f1)
theorem sAhead_ev (p m : M_) : spec_l12Ahead.f p.f0 p.f1 p.f2 p.f3 p.f4 m.f0 m.f1 m.f2 m.f3 m.f4 = some (sAh p m) := by
  unfold spec_l12Ahead.f sAh tless
  split
  · split <;> rfl
  · rfl
def sMe (m : M_) : Prop := (1 ≤ m.f0 ∧ m.f0 ≤ 1000000) ∧ (0 ≤ m.f1 ∧ m.f1 ≤ 3) ∧ isU m.f2 ∧ isU m.f3 ∧ tless m.f3 m.f2 = false ∧ 1 ≤ m.f4 ∧ m.f4 ≤ 400
instance (m : M_) : Decidable (sMe m) := by unfold sMe; infer_instance
theorem sMeta_ev (m : M_) : spec_l12Meta.f m.f0 m.f1 m.f2 m.f3 m.f4 = some (decide (sMe m)) := by
  unfold spec_l12Meta.f
  rw [in_ev, Option.bind_some]
  by_cases c1 : 1 ≤ m.f0 ∧ m.f0 ≤ 1000000
  · rw [decide_eq_true c1, if_pos rfl, in_ev, Option.bind_some]
    by_cases c2 : 0 ≤ m.f1 ∧ m.f1 ≤ 3
    · rw [decide_eq_true c2, if_pos rfl, l2User_ev, Option.bind_some]
      by_cases c3 : isU m.f2
      · rw [decide_eq_true c3, if_pos rfl, l2User_ev, Option.bind_some]
        by_cases c4 : isU m.f3
        · rw [decide_eq_true c4, if_pos rfl]
          by_cases c5 : Op.bytesLess m.f3.toList m.f2.toList = true
          · rw [if_pos c5, decide_eq_false]
            intro h
            have := h.2.2.2.2.1
            unfold tless at this
            rw [c5] at this
            cases this
          · rw [if_neg c5, in_ev, Option.bind_some]
            have c5' : tless m.f3 m.f2 = false := by unfold tless; simpa using c5
            exact congrArg some (decide_eq_decide.2 ⟨fun h => ⟨c1, c2, c3, c4, c5', h⟩, fun h => h.2.2.2.2.2⟩)
        · rw [decide_eq_false c4, if_neg (by decide), decide_eq_false (fun h => c4 h.2.2.2.1)]
      · rw [decide_eq_false c3, if_neg (by decide), decide_eq_false (fun h => c3 h.2.2.1)]
    · rw [decide_eq_false c2, if_neg (by decide), decide_eq_false (fun h => c2 h.2.1)]
  · rw [decide_eq_false c1, if_neg (by decide), decide_eq_false (fun h => c1 h.1)]
theorem cI_neg (a b : Int) : cI a b < 0 ↔ a < b := by unfold cI; split <;> (try split) <;> constructor <;> intro h <;> omega
theorem cI_ne (a b : Int) (h : a ≠ b) : cI a b ≠ 0 := by unfold cI; split <;> (try split) <;> omega
theorem cI_self (a : Int) : cI a a = 0 := by unfold cI; rw [if_neg (by omega), if_neg (by omega)]
theorem cS_neg (a b : ByteArray) : cS a b < 0 ↔ tless a b = true := by
  unfold cS
  by_cases h : tless a b = true
  · simp [h]
  · rw [if_neg h]
    constructor
    · intro h2
      split at h2 <;> omega
    · intro h2
      exact absurd h2 h
theorem ahead_eq (next : Int) (p m : M_) (hp : okM next p) : sAh p m = true ↔ aheadM p m := by
  unfold sAh aheadM mcmp
  by_cases c : p.f1 = m.f1
  · rw [if_pos c]
    by_cases c2 : p.f1 = 0
    · rw [if_pos c2, if_pos ⟨c, c2⟩, cI_neg, decide_eq_true_eq]
      constructor
      · exact fun h => ⟨h, fun h2 => by have := h2.1; omega⟩
      · exact fun h => h.1
    · rw [if_neg c2, if_neg (fun h => c2 h.2)]
      have h0 : (([cI p.f1 m.f1, cS p.f2 m.f2] : List Int).find? fun x => x != 0).getD 0 = cS p.f2 m.f2 := by
        rw [c, cI_self]
        by_cases h : cS p.f2 m.f2 = 0
        · simp [h]
        · simp [h]
      rw [h0, cS_neg]
      have hpos : m.f1 > 0 := by have := hp.2.1; omega
      have hle := hp.2.2.2.2.1
      constructor
      · intro h
        refine ⟨?_, fun h2 => by rw [h] at h2; cases h2.2.2⟩
        cases hq : tless p.f2 p.f3 with
        | true => exact bl_trans hq h
        | false =>
          have := bl_eq (a := p.f2.toList) (b := p.f3.toList) hq hle
          unfold tless at h ⊢
          rw [this]
          exact h
      · intro h
        cases hq : tless p.f3 m.f2 with
        | true => rfl
        | false => exact absurd ⟨hpos, c, hq⟩ h.2
  · rw [if_neg c, if_neg (fun h => c h.1), decide_eq_true_eq]
    have h0 : (([cI p.f1 m.f1, cS p.f2 m.f2] : List Int).find? fun x => x != 0).getD 0 = cI p.f1 m.f1 := by
      have := cI_ne p.f1 m.f1 c
      simp [this]
    rw [h0, cI_neg]
    exact ⟨fun h => ⟨h, fun h2 => c h2.2.1⟩, fun h => h.1⟩
theorem sMe_ok (next : Int) (hn : 1 ≤ next ∧ next ≤ 1000000) (m : M_) : (sMe m ∧ ¬ m.f0 ≥ next) ↔ okM next m := by
  unfold sMe okM
  constructor
  · rintro ⟨⟨h1, h2⟩, h3⟩
    exact ⟨by omega, h2⟩
  · rintro ⟨h1, h2⟩
    exact ⟨⟨by omega, h2⟩, by omega⟩
def okFrom (l : List M_) (next : Int) (i : Nat) : Prop := ∀ j, i ≤ j → j < l.length → okAt l next j
noncomputable instance (l : List M_) (next : Int) (i : Nat) : Decidable (okFrom l next i) := Classical.propDecidable _
theorem okFrom_step {l : List M_} {next : Int} {i : Nat} (hi : i < l.length) : okFrom l next i ↔ okAt l next i ∧ okFrom l next (i + 1) := by
  constructor
  · exact fun h => ⟨h i (Nat.le_refl _) hi, fun j h1 h2 => h j (by omega) h2⟩
  · rintro ⟨h1, h2⟩ j hj hl
    by_cases e : j = i
    · rw [e]; exact h1
    · exact h2 j (by omega) hl
theorem mem_nums (l : List M_) (i : Nat) (hi : i ≤ l.length) (n : Int) : n ∈ (l.take i).map (fun m => m.f0) ↔ ∃ j, j < i ∧ (l.getD j z66).f0 = n := by
  rw [List.mem_map]
  constructor
  · rintro ⟨m, hm, rfl⟩
    obtain ⟨j, hj, rfl⟩ := List.getElem_of_mem hm
    rw [List.length_take] at hj
    refine ⟨j, by omega, ?_⟩
    rw [List.getElem_take, List.getD_eq_getElem?_getD, List.getElem?_eq_getElem (by omega)]
    rfl
  · rintro ⟨j, hj, rfl⟩
    refine ⟨l.getD j z66, ?_, rfl⟩
    rw [List.getD_eq_getElem?_getD, List.getElem?_eq_getElem (show j < l.length by omega)]
    show l[j]'(by omega) ∈ l.take i
    rw [List.mem_take_iff_getElem]
    exact ⟨j, by omega, rfl⟩
theorem sVersionOk_ev (l : List M_) (next seq log : Int) (hl : l.length < 2097152) : Ev (fun k => spec_VersionOk.f k l next seq log) (decide (vOk l next seq log)) := by
  have bad : ¬ vOk l next seq log → Ev (fun k => spec_VersionOk.j0 k true l next seq log) (decide (vOk l next seq log)) := fun h => by
    rw [decide_eq_false h]
    refine Ev.step (fun k => spec_VersionOk.j0.eq_2 ..) ?_
    exact Ev.pos rfl (Ev.now _)
  unfold spec_VersionOk.f
  by_cases c0 : (l.length : Int) > 30
  · exact Ev.pos c0 (bad fun h => by have := h.1; omega)
  refine Ev.neg c0 (Ev.bindS (in_ev _ _ _) ?_)
  by_cases c1 : 1 ≤ next ∧ next ≤ 1000000
  case neg => exact Ev.neg (by simpa using c1) (bad fun h => c1 h.2.1)
  refine Ev.pos (decide_eq_true c1) (Ev.bindS (in_ev _ _ _) ?_)
  by_cases c2 : 0 ≤ seq ∧ seq ≤ 1000000000000
  case neg => exact Ev.neg (by simpa using c2) (bad fun h => c2 h.2.2.1)
  refine Ev.pos (decide_eq_true c2) ?_
  rw [wid (x := next - 1) (by omega) (by omega)]
  refine Ev.bindS (in_ev _ _ _) ?_
  by_cases c3 : 0 ≤ log ∧ log ≤ next - 1
  case neg =>
    rw [decide_eq_false c3]
    exact bad fun h => c3 h.2.2.2.1
  rw [decide_eq_true c3]
  refine Ev.step (fun k => spec_VersionOk.j0.eq_2 ..) ?_
  refine Ev.neg (by decide) ?_
  have key : ∀ i, i ≤ l.length → (∀ j, j < i → okAt l next j) → Ev (fun k => spec_VersionOk.l0 k (i : Int) l next seq log) (decide (okFrom l next i)) := by
    refine downTo l.length ?_ ?_
    · intro _
      refine Ev.step (fun k => spec_VersionOk.l0.eq_2 ..) ?_
      exact Ev.neg (by omega) ((Ev.now _).eqr (decide_eq_true (show okFrom l next l.length from fun j h1 h2 => by omega)).symm)
    · intro i hi ih hb
      have fail : ¬ okAt l next i → Ev (fun k => spec_VersionOk.j2 k (i : Int) true l next seq log) (decide (okFrom l next i)) := fun h => by
        refine Ev.step (fun k => spec_VersionOk.j2.eq_2 ..) ?_
        exact Ev.pos rfl ((Ev.now _).eqr (decide_eq_false (p := okFrom l next i) fun h2 => h ((okFrom_step hi).1 h2).1).symm)
      have dup : okM next (l.getD i z66) → (0 < i → aheadM (l.getD (i - 1) z66) (l.getD i z66)) → Ev (fun k => spec_VersionOk.j2 k (i : Int) false l next seq log) (decide (okFrom l next i)) := fun h1 h2 => by
        refine Ev.step (fun k => spec_VersionOk.j2.eq_2 ..) ?_
        refine Ev.neg (by decide) ?_
        have k2 : ∀ j, j ≤ i → (∀ q, q < j → (l.getD q z66).f0 ≠ (l.getD i z66).f0) → Ev (fun k => spec_VersionOk.l1 k (i : Int) (j : Int) l next seq log) (decide (okFrom l next i)) := by
          refine downTo i ?_ ?_
          · intro hq
            have hok : okAt l next i := ⟨h1, fun hm => by
              obtain ⟨j, hj, he⟩ := (mem_nums l i (by omega) _).1 hm
              exact hq j hj he, h2⟩
            refine Ev.step (fun k => spec_VersionOk.l1.eq_2 ..) ?_
            rw [wsucc (show i < 4611686018427387904 by omega)]
            refine Ev.neg (by omega) ((ih (fun j hj => ?_)).eqr ?_)
            · by_cases e : j = i
              · rw [e]; exact hok
              · exact hb j (by omega)
            · exact decide_eq_decide.2 ⟨fun h => (okFrom_step hi).2 ⟨hok, h⟩, fun h => ((okFrom_step hi).1 h).2⟩
          · intro j hj ih2 hq
            refine Ev.step (fun k => spec_VersionOk.l1.eq_2 ..) ?_
            rw [rdM, rdM, wsucc (show j < 4611686018427387904 by omega)]
            refine Ev.pos (by omega) (Ev.pos (by omega) (Ev.pos (by omega) (Ev.pos (by omega) (Ev.pos (by omega) ?_))))
            by_cases e : (l.getD j z66).f0 = (l.getD i z66).f0
            · refine Ev.pos e ((Ev.now _).eqr (decide_eq_false (p := okFrom l next i) fun h => ?_).symm)
              exact ((okFrom_step hi).1 h).1.2.1 ((mem_nums l i (by omega) _).2 ⟨j, hj, e⟩)
            · refine Ev.neg e (ih2 fun q hqj => ?_)
              by_cases e2 : q = j
              · rw [e2]; exact e
              · exact hq q (by omega)
        exact k2 0 (Nat.zero_le _) (fun q hq => absurd hq (Nat.not_lt_zero _))
      refine Ev.step (fun k => spec_VersionOk.l0.eq_2 ..) ?_
      rw [rdM]
      refine Ev.pos (by omega) (Ev.pos (by omega) (Ev.bindS (sMeta_ev _) ?_))
      by_cases d1 : sMe (l.getD i z66)
      case neg => exact Ev.neg (by simpa using d1) (fail fun h => d1 ((sMe_ok next c1 _).2 h.1).1)
      refine Ev.pos (decide_eq_true d1) ?_
      by_cases d2 : (l.getD i z66).f0 ≥ next
      · exact Ev.pos d2 (fail fun h => ((sMe_ok next c1 _).2 h.1).2 d2)
      refine Ev.neg d2 ?_
      have hok := (sMe_ok next c1 _).1 ⟨d1, d2⟩
      by_cases d3 : i = 0
      · refine Ev.neg (by omega) (dup hok (fun h => absurd h (by omega)))
      · have hr : qk l (wrap64 ((i : Int) - 1)) = l.getD (i - 1) z66 := by
          rw [wid (by omega) (by omega), show (i : Int) - 1 = ((i - 1 : Nat) : Int) from by omega, rdM]
        rw [hr, wid (x := (i : Int) - 1) (by omega) (by omega)]
        refine Ev.pos (by omega) (Ev.pos (by omega) (Ev.pos (by omega) (Ev.bindS (sAhead_ev _ _) ?_)))
        have hp := (hb (i - 1) (by omega)).1
        cases d4 : sAh (l.getD (i - 1) z66) (l.getD i z66) with
        | true => exact dup hok (fun _ => (ahead_eq next _ _ hp).1 d4)
        | false =>
          refine fail fun h => ?_
          have := (ahead_eq next _ _ hp).2 (h.2.2 (by omega))
          rw [d4] at this
          cases this
  refine (key 0 (Nat.zero_le _) (fun j hj => absurd hj (Nat.not_lt_zero _))).eqr (decide_eq_decide.2 ⟨fun h => ⟨by omega, c1, c2, c3, fun i hi => h i (Nat.zero_le _) hi⟩, fun h j _ hj => h.2.2.2.2 j hj⟩)
end Go.Proofs.Ytcgejabkjljeeaa.Pure
end

section
namespace Go.Proofs.Ytcgejabkjljeeaa.Pure
open Go.RowKit Go.Proofs.YtcgejabkjljeeaaW.PrintWords Go.Proofs.YtcgejabkjljeeaaW.PrintLast Go.Proofs.YtcgejabkjljeeaaW.PrintMore
open Go.Proofs.Ytcgejabkjljeeaa.P
set_option linter.unusedVariables false
set_option linter.unusedSimpArgs false
theorem ba_nil (a : ByteArray) : a ++ (⟨#[]⟩ : ByteArray) = a := by
  apply ByteArray.ext
  simp [ByteArray.data_append]
theorem vOk_all {l : List M_} {n s g : Int} (h : vOk l n s g) : ∀ m ∈ l, okM n m := by
  intro m hm
  obtain ⟨j, hj, rfl⟩ := List.getElem_of_mem hm
  have := (h.2.2.2.2 j hj).1
  rw [List.getD_eq_getElem?_getD, List.getElem?_eq_getElem hj] at this
  exact this
end Go.Proofs.Ytcgejabkjljeeaa.Pure
end

section
namespace Go.Proofs.Ytcgejabkjljeeaa.Pure
open Go.RowKit Go.Proofs.YtcgejabkjljeeaaW.PrintWords Go.Proofs.YtcgejabkjljeeaaW.PrintLast Go.Proofs.YtcgejabkjljeeaaW.PrintMore
open Go.Proofs.Ytcgejabkjljeeaa.P
set_option linter.unusedVariables false
set_option linter.unusedSimpArgs false
abbrev RV := List M_ × Int × Int × Int × Bool
def rvBad : RV := ([], 0, 0, 0, false)
def iT (s : ByteArray) : Int × ByteArray × Bool := if (tv s).2.2 = true ∧ (tv s).1 ≤ 1000000000000 then ((tv s).1, (tv s).2.1, true) else (0, ⟨#[]⟩, false)
theorem l12Int_ev (s : ByteArray) (hs : s.size ≤ 4611686018427387904) : Ev (fun k => spec_l12Int.f k s) (iT s) := by
  unfold spec_l12Int.f iT
  refine Ev.bind (sTakeVar_ev s (by omega)) ?_
  have hr := tv_range s
  by_cases c : (tv s).2.2 = true
  · refine Ev.pos c ?_
    by_cases c2 : (tv s).1 > 1000000000000
    · exact (Ev.pos c2 (Ev.now _)).eqr (if_neg (fun h => by omega)).symm
    · rw [wid (x := (tv s).1) (by omega) (by omega)]
      exact (Ev.neg c2 (Ev.now _)).eqr (if_pos ⟨c, by omega⟩).symm
  · exact (Ev.neg c (Ev.now _)).eqr (if_neg (fun h => c h.1)).symm
theorem iT_size (s : ByteArray) : (iT s).2.1.size ≤ s.size := by
  unfold iT
  have hr := tv_range s
  split
  · exact hr.2.2.1
  · exact Nat.zero_le _
theorem iT_good {s : ByteArray} (h : (iT s).2.2 = true) (b : Bool) : numT s b = ((iT s).1, (iT s).2.1, b) ∧ (iT s).1 ≤ 1000000000000 := by
  unfold iT at h ⊢
  split at h
  · rename_i c
    rw [if_pos c]
    exact ⟨numT_good c.1 (by omega), c.2⟩
  · cases h
theorem iT_not {s : ByteArray} (h : ¬ (iT s).2.2 = true) (b : Bool) : (numT s b).2.2 = true ∨ (numT s b).1 > 1000000000000 := by
  unfold iT at h
  split at h
  · exact absurd rfl h
  · rename_i c
    by_cases c1 : (tv s).2.2 = true ∧ (tv s).1 ≤ 4611686018427387904
    · right
      rw [numT_good c1.1 c1.2]
      have : ¬ (tv s).1 ≤ 1000000000000 := fun h2 => c ⟨c1.1, h2⟩
      show (tv s).1 > _
      omega
    · left
      rw [numT_not c1]
def fin3 (acc : List M_) (left : ByteArray) (bad : Bool) (n s g : Int) : RV := if bad = false ∧ left.toList = [] ∧ vOk acc n s g then (acc, n, s, g, true) else rvBad
def iM (left : ByteArray) (bad : Bool) : M_ × ByteArray × Bool :=
  let a := numT left bad
  let b := numT a.2.1 a.2.2
  let c := txtT b.2.1 b.2.2
  let e := txtT c.2.1 c.2.2
  let f := numT e.2.1 e.2.2
  (⟨a.1, b.1, c.1, e.1, f.1⟩, f.2.1, f.2.2)
def iGo (n s g : Int) : Nat → ByteArray → Bool → List M_ → RV
  | 0, left, bad, acc => fin3 acc left bad n s g
  | d + 1, left, bad, acc => iGo n s g d (iM left bad).2.1 (iM left bad).2.2 (acc ++ [(iM left bad).1])
theorem iM_bad (left : ByteArray) : (iM left true).2.2 = true := by
  unfold iM
  have h1 := numT_bad left
  simp only [h1]
  have h2 := numT_bad (numT left true).2.1
  simp only [h2]
  have h3 := txtT_bad (numT (numT left true).2.1 true).2.1
  simp only [h3]
  have h4 := txtT_bad (txtT (numT (numT left true).2.1 true).2.1 true).2.1
  simp only [h4]
  exact numT_bad _
theorem iM_size (left : ByteArray) (bad : Bool) : (iM left bad).2.1.size ≤ left.size := by
  unfold iM
  simp only []
  have a := numT_size left bad
  generalize numT left bad = A at a ⊢
  have b := numT_size A.2.1 A.2.2
  generalize numT A.2.1 A.2.2 = B at b ⊢
  have c := (txtT_size B.2.1 B.2.2).1
  generalize txtT B.2.1 B.2.2 = C at c ⊢
  have e := (txtT_size C.2.1 C.2.2).1
  generalize txtT C.2.1 C.2.2 = E at e ⊢
  have f := numT_size E.2.1 E.2.2
  generalize numT E.2.1 E.2.2 = F at f ⊢
  omega
theorem iGo_bad (n s g : Int) : ∀ (d : Nat) (left : ByteArray) (acc : List M_), iGo n s g d left true acc = rvBad
  | 0, left, acc => by
    unfold iGo fin3
    rw [if_neg (fun h => by cases h.1)]
  | d + 1, left, acc => by
    have h := iM_bad left
    rw [iGo]
    generalize iM left true = m at h ⊢
    rw [h]
    exact iGo_bad n s g d _ _
theorem iGo_no (n s g : Int) : ∀ (d : Nat) (left : ByteArray) (bad : Bool) (acc : List M_), (∀ ext, ¬ vOk (acc ++ ext) n s g) → iGo n s g d left bad acc = rvBad
  | 0, left, bad, acc, h => by
    unfold iGo fin3
    rw [if_neg (fun h2 => h [] (by rw [List.append_nil]; exact h2.2.2))]
  | d + 1, left, bad, acc, h => by
    rw [iGo]
    generalize iM left bad = m
    refine iGo_no n s g d _ _ _ (fun ext => ?_)
    rw [List.append_assoc]
    exact h _
def sGo (n s g : Int) : Nat → ByteArray → List M_ → RV
  | 0, left, acc => if left.toList = [] ∧ vOk acc n s g then (acc, n, s, g, true) else rvBad
  | d + 1, left, acc =>
    if (iT left).2.2 = true ∧ (iT (iT left).2.1).2.2 = true ∧ (tt (iT (iT left).2.1).2.1).2.2 = true ∧ (tt (tt (iT (iT left).2.1).2.1).2.1).2.2 = true ∧ (iT (tt (tt (iT (iT left).2.1).2.1).2.1).2.1).2.2 = true then
      sGo n s g d (iT (tt (tt (iT (iT left).2.1).2.1).2.1).2.1).2.1 (acc ++ [⟨(iT left).1, (iT (iT left).2.1).1, (tt (iT (iT left).2.1).2.1).1, (tt (tt (iT (iT left).2.1).2.1).2.1).1, (iT (tt (tt (iT (iT left).2.1).2.1).2.1).2.1).1⟩])
    else rvBad
theorem big_not (acc : List M_) (m : M_) (n s g : Int) (h : m.f0 > 1000000000000 ∨ m.f1 > 1000000000000 ∨ m.f4 > 1000000000000) : ∀ ext, ¬ vOk ((acc ++ [m]) ++ ext) n s g := by
  intro ext hv
  have h1 := vOk_all hv m (by simp)
  have h2 := hv.2.1
  unfold okM at h1
  omega
theorem go_eq (n s g : Int) : ∀ (d : Nat) (left : ByteArray) (acc : List M_), iGo n s g d left false acc = sGo n s g d left acc := by
  intro d
  induction d with
  | zero =>
    intro left acc
    unfold iGo sGo fin3
    by_cases c : left.toList = [] ∧ vOk acc n s g
    · rw [if_pos c, if_pos ⟨rfl, c⟩]
    · rw [if_neg c, if_neg (fun h => c h.2)]
  | succ d ih =>
    intro left acc
    rw [iGo, sGo]
    have finish : ((iM left false).2.2 = true ∨ (iM left false).1.f0 > 1000000000000 ∨ (iM left false).1.f1 > 1000000000000 ∨ (iM left false).1.f4 > 1000000000000) → iGo n s g d (iM left false).2.1 (iM left false).2.2 (acc ++ [(iM left false).1]) = rvBad := by
      rintro (h | h)
      · rw [h]
        exact iGo_bad n s g d _ _
      · exact iGo_no n s g d _ _ _ (big_not acc _ n s g h)
    have hM := iM.eq_1 left false
    generalize iM left false = m at hM finish ⊢
    obtain ⟨⟨m0, m1, m2, m3, m4⟩, ml, mb⟩ := m
    simp only [Prod.mk.injEq, S66.mk.injEq] at hM
    obtain ⟨⟨h0, h1, h2, h3, h4⟩, hl, hb⟩ := hM
    simp only [] at finish ⊢
    have gA := @iT_good left
    have nA := @iT_not left
    generalize iT left = A at gA nA ⊢
    have step : ∀ (x : Int × ByteArray × Bool), x.2.2 = true → (numT (txtT (txtT (numT x.2.1 x.2.2).2.1 (numT x.2.1 x.2.2).2.2).2.1 (txtT (numT x.2.1 x.2.2).2.1 (numT x.2.1 x.2.2).2.2).2.2).2.1 (txtT (txtT (numT x.2.1 x.2.2).2.1 (numT x.2.1 x.2.2).2.2).2.1 (txtT (numT x.2.1 x.2.2).2.1 (numT x.2.1 x.2.2).2.2).2.2).2.2).2.2 = true := by
      intro x hx
      rw [hx]
      have h2 := numT_bad x.2.1
      generalize numT x.2.1 true = y at h2 ⊢
      rw [h2]
      have h3 := txtT_bad y.2.1
      generalize txtT y.2.1 true = z at h3 ⊢
      rw [h3]
      have h4 := txtT_bad z.2.1
      generalize txtT z.2.1 true = v at h4 ⊢
      rw [h4]
      exact numT_bad _
    have step2 : ∀ (y : Int × ByteArray × Bool), y.2.2 = true → (numT (txtT (txtT y.2.1 y.2.2).2.1 (txtT y.2.1 y.2.2).2.2).2.1 (txtT (txtT y.2.1 y.2.2).2.1 (txtT y.2.1 y.2.2).2.2).2.2).2.2 = true := by
      intro y h2
      rw [h2]
      have h3 := txtT_bad y.2.1
      generalize txtT y.2.1 true = z at h3 ⊢
      rw [h3]
      have h4 := txtT_bad z.2.1
      generalize txtT z.2.1 true = v at h4 ⊢
      rw [h4]
      exact numT_bad _
    have step3 : ∀ (z : ByteArray × ByteArray × Bool), z.2.2 = true → (numT (txtT z.2.1 z.2.2).2.1 (txtT z.2.1 z.2.2).2.2).2.2 = true := by
      intro z h3
      rw [h3]
      have h4 := txtT_bad z.2.1
      generalize txtT z.2.1 true = v at h4 ⊢
      rw [h4]
      exact numT_bad _
    have step4 : ∀ (v : ByteArray × ByteArray × Bool), v.2.2 = true → (numT v.2.1 v.2.2).2.2 = true := by
      intro v h4
      rw [h4]
      exact numT_bad _
    by_cases c1 : A.2.2 = true
    case neg =>
      rw [if_neg (fun h => c1 h.1)]
      refine finish ?_
      rcases nA c1 false with h | h
      · left
        rw [hb]
        exact step _ h
      · right; left
        rw [h0]
        exact h
    have g1 := (gA c1 false).1
    clear gA nA step
    simp only [g1] at h0 h1 h2 h3 h4 hl hb
    have gB := @iT_good A.2.1
    have nB := @iT_not A.2.1
    generalize iT A.2.1 = B at gB nB ⊢
    by_cases c2 : B.2.2 = true
    case neg =>
      rw [if_neg (fun h => c2 h.2.1)]
      refine finish ?_
      rcases nB c2 false with h | h
      · left
        rw [hb]
        exact step2 _ h
      · right; right; left
        rw [h1]
        exact h
    have g2 := (gB c2 false).1
    clear gB nB step2
    simp only [g2] at h1 h2 h3 h4 hl hb
    have gC := @txtT_good B.2.1 false
    have nC := @txtT_not B.2.1 false
    generalize tt B.2.1 = C at gC nC ⊢
    by_cases c3 : C.2.2 = true
    case neg =>
      rw [if_neg (fun h => c3 h.2.2.1)]
      refine finish (.inl ?_)
      rw [hb]
      exact step3 _ (by rw [nC c3])
    simp only [gC c3] at h2 h3 h4 hl hb
    clear gC nC step3
    have gD := @txtT_good C.2.1 false
    have nD := @txtT_not C.2.1 false
    generalize tt C.2.1 = D at gD nD ⊢
    by_cases c4 : D.2.2 = true
    case neg =>
      rw [if_neg (fun h => c4 h.2.2.2.1)]
      refine finish (.inl ?_)
      rw [hb]
      exact step4 _ (by rw [nD c4])
    simp only [gD c4] at h3 h4 hl hb
    clear gD nD step4
    have gF := @iT_good D.2.1
    have nF := @iT_not D.2.1
    generalize iT D.2.1 = F at gF nF ⊢
    by_cases c5 : F.2.2 = true
    case neg =>
      rw [if_neg (fun h => c5 h.2.2.2.2)]
      refine finish ?_
      rcases nF c5 false with h | h
      · left
        rw [hb]
        exact h
      · right; right; right
        rw [h4]
        exact h
    simp only [(gF c5 false).1] at h4 hl hb
    rw [if_pos ⟨c1, c2, c3, c4, c5⟩, h0, h1, h2, h3, h4, hl, hb]
    exact ih F.2.1 _
abbrev T3 := Int × ByteArray × Bool
def rI4 (a b c e : T3) : RV := if e.2.2 = true ∨ e.1 > 30 then rvBad else iGo a.1 b.1 c.1 e.1.toNat e.2.1 e.2.2 []
def rI3 (a b c : T3) : RV := rI4 a b c (numT c.2.1 c.2.2)
def rI2 (a b : T3) : RV := rI3 a b (numT b.2.1 b.2.2)
def rI1 (a : T3) : RV := rI2 a (numT a.2.1 a.2.2)
def rdI (body : ByteArray) : RV := rI1 (numT body false)
theorem rI3_bad (a b c : T3) (h : c.2.2 = true) : rI3 a b c = rvBad := by
  unfold rI3 rI4
  rw [h, if_pos (.inl (numT_bad _))]
theorem rI2_bad (a b : T3) (h : b.2.2 = true) : rI2 a b = rvBad := rI3_bad a b _ (by rw [h]; exact numT_bad _)
theorem rI1_bad (a : T3) (h : a.2.2 = true) : rI1 a = rvBad := rI2_bad a _ (by rw [h]; exact numT_bad _)
theorem rI4_big (a b c e : T3) (h : a.1 > 1000000000000 ∨ b.1 > 1000000000000 ∨ c.1 > 1000000000000) : rI4 a b c e = rvBad := by
  unfold rI4
  split
  · rfl
  · refine iGo_no _ _ _ _ _ _ _ (fun ext hv => ?_)
    have h1 := hv.2.1
    have h2 := hv.2.2.1
    have h3 := hv.2.2.2.1
    omega
def rS4 (a b c e : T3) : RV := if a.2.2 = true ∧ b.2.2 = true ∧ c.2.2 = true ∧ e.2.2 = true ∧ e.1 ≤ 30 then sGo a.1 b.1 c.1 e.1.toNat e.2.1 [] else rvBad
def rdS (body : ByteArray) : RV := rS4 (iT body) (iT (iT body).2.1) (iT (iT (iT body).2.1).2.1) (iT (iT (iT (iT body).2.1).2.1).2.1)
theorem rd_eq (body : ByteArray) : rdI body = rdS body := by
  unfold rdI rdS
  have gA := @iT_good body
  have nA := @iT_not body
  generalize iT body = A at gA nA ⊢
  by_cases c1 : A.2.2 = true
  case neg =>
    rw [rS4, if_neg (fun h => c1 h.1)]
    rcases nA c1 false with h | h
    · exact rI1_bad _ h
    · exact rI4_big _ _ _ _ (.inl h)
  rw [(gA c1 false).1]
  unfold rI1
  simp only []
  have gB := @iT_good A.2.1
  have nB := @iT_not A.2.1
  generalize iT A.2.1 = B at gB nB ⊢
  by_cases c2 : B.2.2 = true
  case neg =>
    rw [rS4, if_neg (fun h => c2 h.2.1)]
    rcases nB c2 false with h | h
    · exact rI2_bad _ _ h
    · exact rI4_big _ _ _ _ (.inr (.inl h))
  rw [(gB c2 false).1]
  unfold rI2
  simp only []
  have gC := @iT_good B.2.1
  have nC := @iT_not B.2.1
  generalize iT B.2.1 = C at gC nC ⊢
  by_cases c3 : C.2.2 = true
  case neg =>
    rw [rS4, if_neg (fun h => c3 h.2.2.1)]
    rcases nC c3 false with h | h
    · exact rI3_bad _ _ _ h
    · exact rI4_big _ _ _ _ (.inr (.inr h))
  rw [(gC c3 false).1]
  unfold rI3
  simp only []
  have gD := @iT_good C.2.1
  have nD := @iT_not C.2.1
  generalize iT C.2.1 = D at gD nD ⊢
  by_cases c4 : D.2.2 = true
  case neg =>
    rw [rS4, if_neg (fun h => c4 h.2.2.2.1)]
    unfold rI4
    rw [if_pos]
    rcases nD c4 false with h | h
    · exact .inl h
    · exact .inr (by omega)
  rw [(gD c4 false).1]
  unfold rI4 rS4
  simp only []
  by_cases c5 : D.1 ≤ 30
  · rw [if_neg (by rintro (h | h); cases h; omega), if_pos ⟨c1, c2, c3, c4, c5⟩]
    exact go_eq _ _ _ _ _ _
  · rw [if_pos (.inr (by omega)), if_neg (fun h => c5 h.2.2.2.2)]
def fxT (r : ByteArray) (b : Bool) : T3 := if (tf r).2.2 = true then ((tf r).1, (tf r).2.1, b) else (0, r, true)
theorem fixed_taken' (r : ByteArray) (b : Bool) : impl_taker_fixed.f r b = some (fxT r b) := by
  unfold impl_taker_fixed.f fxT
  rw [takeFixed_ev, Option.bind_some]
  have h4 := f4_range r
  by_cases c : (tf r).2.2 = true
  · rw [if_pos c, if_pos c]
    unfold tf at c ⊢
    split
    · rename_i h
      rw [if_pos h] at c
      cases c
    · simp only []
      rw [wid (by omega) (by omega)]
  · rw [if_neg c, if_neg c]
def okS (s : ByteArray) : Prop := (tt s).2.2 = true ∧ (tt s).2.1.size = 4 ∧ f4 (tt s).2.1 = crc (tt s).1
instance (s : ByteArray) : Decidable (okS s) := by unfold okS; infer_instance
theorem toList_nil (a : ByteArray) : a.toList = [] ↔ a.size = 0 := by
  rw [ByteArray.toList_eq]
  constructor
  · intro h
    have : a.data.toList.length = 0 := by rw [h]; rfl
    rw [Array.length_toList] at this
    exact this
  · intro h
    exact List.eq_nil_of_length_eq_zero (by rw [Array.length_toList]; exact h)
theorem section_taken (s : ByteArray) (hs : s.size ≤ 1048576) : ∃ r : ByteArray × ByteArray × Bool, Ev (fun k => impl_taker_section.f k s false) r ∧ ((!r.2.2 && (r.2.1.toList == [])) = decide (okS s)) ∧ (okS s → r.1 = (tt s).1) := by
  have hr := tt_range s
  unfold impl_taker_section.f
  by_cases c : (tt s).2.2 = true
  case neg =>
    have ht := text_taken s false (by omega)
    rw [txtT_not c] at ht
    have hno : decide (okS s) = false := decide_eq_false fun h => c h.1
    have hf : (fxT s true).2.2 = true := by unfold fxT; split <;> rfl
    have hcr := crc_range (⟨#[]⟩ : ByteArray)
    by_cases c2 : (fxT s true).1 = crc ⟨#[]⟩
    · refine ⟨(⟨#[]⟩, (fxT s true).2.1, (fxT s true).2.2), Ev.bind ht (Ev.bindS (fixed_taken' _ _) (Ev.bind (crc_ev _ (Nat.zero_le _)) ?_)), by rw [hno, hf]; rfl, fun h => absurd h.1 c⟩
      rw [wid (x := crc ⟨#[]⟩) (by omega) (by omega)]
      exact Ev.pos c2 (Ev.now _)
    · refine ⟨(⟨#[]⟩, (fxT s true).2.1, true), Ev.bind ht (Ev.bindS (fixed_taken' _ _) (Ev.bind (crc_ev _ (Nat.zero_le _)) ?_)), by rw [hno]; rfl, fun h => absurd h.1 c⟩
      rw [wid (x := crc ⟨#[]⟩) (by omega) (by omega)]
      exact Ev.neg c2 (Ev.now _)
  have ht := text_taken s false (by omega)
  rw [txtT_good c] at ht
  have hcr := crc_range (tt s).1
  have hce := crc_ev (tt s).1 (by omega)
  by_cases c4 : (tt s).2.1.size < 4
  · have hf : fxT (tt s).2.1 false = (0, (tt s).2.1, true) := by unfold fxT tf; rw [if_pos c4, if_neg (by decide)]
    have hfx := fixed_taken' (tt s).2.1 false
    rw [hf] at hfx
    have hno : decide (okS s) = false := decide_eq_false fun h => by have := h.2.1; omega
    by_cases c2 : (0 : Int) = crc (tt s).1
    · refine ⟨((tt s).1, (tt s).2.1, true), Ev.bind ht (Ev.bindS hfx (Ev.bind hce ?_)), by rw [hno]; rfl, fun _ => rfl⟩
      rw [wid (x := crc (tt s).1) (by omega) (by omega)]
      exact Ev.pos c2 (Ev.now _)
    · refine ⟨((tt s).1, (tt s).2.1, true), Ev.bind ht (Ev.bindS hfx (Ev.bind hce ?_)), by rw [hno]; rfl, fun _ => rfl⟩
      rw [wid (x := crc (tt s).1) (by omega) (by omega)]
      exact Ev.neg c2 (Ev.now _)
  · have hf : fxT (tt s).2.1 false = (f4 (tt s).2.1, (tt s).2.1.extract 4 (tt s).2.1.size, false) := by unfold fxT tf; rw [if_neg c4, if_pos rfl]
    have hfx := fixed_taken' (tt s).2.1 false
    rw [hf] at hfx
    by_cases c2 : f4 (tt s).2.1 = crc (tt s).1
    · refine ⟨((tt s).1, (tt s).2.1.extract 4 (tt s).2.1.size, false), Ev.bind ht (Ev.bindS hfx (Ev.bind hce ?_)), ?_, fun _ => rfl⟩
      · rw [wid (x := crc (tt s).1) (by omega) (by omega)]
        exact Ev.pos c2 (Ev.now _)
      · by_cases c3 : (tt s).2.1.size = 4
        · rw [decide_eq_true (show okS s from ⟨c, c3, c2⟩)]
          rw [show ((tt s).2.1.extract 4 (tt s).2.1.size).toList = [] from (toList_nil _).2 (by rw [ByteArray.size_extract]; omega)]
          rfl
        · rw [decide_eq_false (show ¬ okS s from fun h => c3 h.2.1)]
          have : ¬ ((tt s).2.1.extract 4 (tt s).2.1.size).toList = [] := fun h => by
            have := (toList_nil _).1 h
            rw [ByteArray.size_extract] at this
            omega
          rw [show (((tt s).2.1.extract 4 (tt s).2.1.size).toList == []) = false from beq_eq_false_iff_ne.2 this]
          rfl
    · refine ⟨((tt s).1, (tt s).2.1.extract 4 (tt s).2.1.size, true), Ev.bind ht (Ev.bindS hfx (Ev.bind hce ?_)), ?_, fun _ => rfl⟩
      · rw [wid (x := crc (tt s).1) (by omega) (by omega)]
        exact Ev.neg c2 (Ev.now _)
      · rw [decide_eq_false (show ¬ okS s from fun h => c2 h.2.2)]
        rfl
def rvV (s : ByteArray) : RV := if okS s then rdS (tt s).1 else rvBad
theorem readLoop_ev (n s g : Int) (N : Nat) (hN : N ≤ 30) : ∀ d i, i + d = N → ∀ (left : ByteArray) (bad : Bool) (acc : List M_), left.size ≤ 60000 → acc.length ≤ i → Ev (fun k => impl_ReadVersion.l0 k (N : Int) (i : Int) left bad acc n s g) (iGo n s g d left bad acc) := by
  intro d
  induction d with
  | zero =>
    intro i hi left bad acc hl ha
    refine Ev.step (fun k => impl_ReadVersion.l0.eq_2 ..) ?_
    rw [iGo, fin3]
    refine Ev.neg (by omega) (Ev.bindS (whole_taken left bad) ?_)
    have hw : (!bad && (left.toList == [])) = true ↔ bad = false ∧ left.toList = [] := by simp
    by_cases c : bad = false ∧ left.toList = []
    · refine Ev.pos (hw.2 c) (Ev.bindS (show impl_VersionOk.f acc n s g = some (decide (vOk acc n s g)) from rfl) ?_)
      by_cases c2 : vOk acc n s g
      · exact (Ev.pos (decide_eq_true c2) (Ev.now _)).eqr (if_pos ⟨c.1, c.2, c2⟩).symm
      · exact (Ev.neg (by simp [c2]) (Ev.now _)).eqr (if_neg (fun h => c2 h.2.2)).symm
    · exact (Ev.neg (fun h => c (hw.1 h)) (Ev.now _)).eqr (if_neg (fun h => c ⟨h.1, h.2.1⟩)).symm
  | succ d ih =>
    intro i hi left bad acc hl ha
    refine Ev.step (fun k => impl_ReadVersion.l0.eq_2 ..) ?_
    rw [iGo]
    have hsz := iM_size left bad
    have h1 := number_taken left bad (by omega)
    have z1 := numT_size left bad
    have h2 := number_taken (numT left bad).2.1 (numT left bad).2.2 (by omega)
    have z2 := numT_size (numT left bad).2.1 (numT left bad).2.2
    have h3 := text_taken (numT (numT left bad).2.1 (numT left bad).2.2).2.1 (numT (numT left bad).2.1 (numT left bad).2.2).2.2 (by omega)
    have z3 := (txtT_size (numT (numT left bad).2.1 (numT left bad).2.2).2.1 (numT (numT left bad).2.1 (numT left bad).2.2).2.2).1
    have h4 := text_taken _ (txtT (numT (numT left bad).2.1 (numT left bad).2.2).2.1 (numT (numT left bad).2.1 (numT left bad).2.2).2.2).2.2 (show (txtT (numT (numT left bad).2.1 (numT left bad).2.2).2.1 (numT (numT left bad).2.1 (numT left bad).2.2).2.2).2.1.size ≤ 4611686018427387904 by omega)
    have z4 := (txtT_size (txtT (numT (numT left bad).2.1 (numT left bad).2.2).2.1 (numT (numT left bad).2.1 (numT left bad).2.2).2.2).2.1 (txtT (numT (numT left bad).2.1 (numT left bad).2.2).2.1 (numT (numT left bad).2.1 (numT left bad).2.2).2.2).2.2).1
    have hM := iM.eq_1 left bad
    have ihh := ih (i + 1) (by omega) (iM left bad).2.1 (iM left bad).2.2 (acc ++ [(iM left bad).1]) (by omega) (by rw [List.length_append]; simp only [List.length_cons, List.length_nil]; omega)
    generalize iM left bad = m at hM ihh hsz ⊢
    obtain ⟨⟨m0, m1, m2, m3, m4⟩, ml, mb⟩ := m
    simp only [Prod.mk.injEq, S66.mk.injEq] at hM
    obtain ⟨⟨q0, q1, q2, q3, q4⟩, ql, qb⟩ := hM
    refine Ev.pos (by omega) (Ev.bind h1 (Ev.bind h2 (Ev.bind h3 (Ev.bind h4 (Ev.bind (number_taken _ _ (by omega)) (Ev.pos (by omega) ?_))))))
    rw [wsucc (show i < 4611686018427387904 by omega)]
    simp only [] at ihh ⊢
    rw [← q0, ← q1, ← q2, ← q3, ← q4, ← ql, ← qb]
    exact ihh
theorem readVersion_ev (s : ByteArray) (hs : s.size ≤ 1048576) : Ev (fun k => impl_ReadVersion.f k s) (rvV s) := by
  unfold impl_ReadVersion.f rvV
  obtain ⟨r, h1, h2, h3⟩ := section_taken s hs
  refine Ev.bind h1 (Ev.bindS (whole_taken _ _) ?_)
  simp only []
  rw [h2]
  by_cases c : okS s
  case neg => exact (Ev.neg (by simp [c]) (Ev.now _)).eqr (if_neg c).symm
  rw [if_pos c]
  refine Ev.pos (decide_eq_true c) ?_
  rw [h3 c, ← rd_eq]
  have hr := tt_range s
  generalize (tt s).1 = body at hr ⊢
  unfold rdI
  have t1 := number_taken body false (by omega)
  have z1 := numT_size body false
  generalize numT body false = a at t1 z1 ⊢
  unfold rI1
  have t2 := number_taken a.2.1 a.2.2 (by omega)
  have z2 := numT_size a.2.1 a.2.2
  generalize numT a.2.1 a.2.2 = b at t2 z2 ⊢
  unfold rI2
  have t3 := number_taken b.2.1 b.2.2 (by omega)
  have z3 := numT_size b.2.1 b.2.2
  generalize numT b.2.1 b.2.2 = c3 at t3 z3 ⊢
  unfold rI3
  have t4 := number_taken c3.2.1 c3.2.2 (by omega)
  have z4 := numT_size c3.2.1 c3.2.2
  have n4 : 0 ≤ (numT c3.2.1 c3.2.2).1 := by
    have := (tv_range c3.2.1).1
    unfold numT
    split
    · exact this
    · exact Int.le_refl _
  generalize numT c3.2.1 c3.2.2 = e at t4 z4 n4 ⊢
  unfold rI4
  refine Ev.bind t1 (Ev.bind t2 (Ev.bind t3 (Ev.bind t4 ?_)))
  have jt : ∀ f : Bool, (f = true ↔ (e.2.2 = true ∨ e.1 > 30)) → Ev (fun k => impl_ReadVersion.j0 k e.1 f e.2.1 e.2.2 a.1 b.1 c3.1) (if e.2.2 = true ∨ e.1 > 30 then rvBad else iGo a.1 b.1 c3.1 e.1.toNat e.2.1 e.2.2 []) := by
    intro f hf
    refine Ev.step (fun k => impl_ReadVersion.j0.eq_2 ..) ?_
    by_cases cf : e.2.2 = true ∨ e.1 > 30
    · exact (Ev.pos (hf.2 cf) (Ev.now _)).eqr (if_pos cf).symm
    · refine (Ev.neg (fun h => cf (hf.1 h)) ?_).eqr (if_neg cf).symm
      have hN : e.1.toNat ≤ 30 := by
        have : ¬ e.1 > 30 := fun h => cf (.inr h)
        omega
      have := readLoop_ev a.1 b.1 c3.1 e.1.toNat hN e.1.toNat 0 (by omega) e.2.1 e.2.2 [] (by omega) (Nat.zero_le _)
      rw [Int.toNat_of_nonneg n4] at this
      exact this
  by_cases ce : e.2.2 = true
  · exact Ev.pos ce (jt true ⟨fun _ => .inl ce, fun _ => rfl⟩)
  · exact Ev.neg ce (jt _ ⟨fun h => .inr (of_decide_eq_true h), fun h => decide_eq_true (h.resolve_left ce)⟩)
theorem sReadLoop_ev (n s g : Int) (N : Nat) (hN : N ≤ 30) : ∀ d i, i + d = N → ∀ (left : ByteArray) (acc : List M_), left.size ≤ 60000 → acc.length ≤ i → Ev (fun k => spec_ReadVersion.l0 k (N : Int) left (i : Int) acc n s g) (sGo n s g d left acc) := by
  intro d
  induction d with
  | zero =>
    intro i hi left acc hl ha
    refine Ev.step (fun k => spec_ReadVersion.l0.eq_2 ..) ?_
    rw [sGo]
    refine Ev.neg (by omega) ?_
    by_cases c : left.toList = ([] : List UInt8)
    · refine Ev.pos c (Ev.bind (sVersionOk_ev acc n s g (by omega)) ?_)
      by_cases c2 : vOk acc n s g
      · exact (Ev.pos (decide_eq_true c2) (Ev.now _)).eqr (if_pos ⟨c, c2⟩).symm
      · exact (Ev.neg (by simp [c2]) (Ev.now _)).eqr (if_neg (fun h => c2 h.2)).symm
    · exact (Ev.neg c (Ev.now _)).eqr (if_neg (fun h => c h.1)).symm
  | succ d ih =>
    intro i hi left acc hl ha
    refine Ev.step (fun k => spec_ReadVersion.l0.eq_2 ..) ?_
    rw [sGo]
    have h1 := l12Int_ev left (by omega)
    have z1 := iT_size left
    generalize iT left = A at h1 z1 ⊢
    have h2 := l12Int_ev A.2.1 (by omega)
    have z2 := iT_size A.2.1
    generalize iT A.2.1 = B at h2 z2 ⊢
    have h3 := sTakeText_ev B.2.1 (by omega)
    have z3 := (tt_range B.2.1).2.2.1
    generalize tt B.2.1 = C at h3 z3 ⊢
    have h4 := sTakeText_ev C.2.1 (by omega)
    have z4 := (tt_range C.2.1).2.2.1
    generalize tt C.2.1 = D at h4 z4 ⊢
    have h5 := l12Int_ev D.2.1 (by omega)
    have z5 := iT_size D.2.1
    generalize iT D.2.1 = F at h5 z5 ⊢
    refine Ev.pos (by omega) (Ev.bind h1 (Ev.bind h2 (Ev.bind h3 (Ev.bind h4 (Ev.bind h5 ?_)))))
    by_cases c1 : A.2.2 = true
    case neg => exact (Ev.neg c1 (Ev.now _)).eqr (if_neg (fun h => c1 h.1)).symm
    by_cases c2 : B.2.2 = true
    case neg => exact (Ev.pos c1 (Ev.neg c2 (Ev.now _))).eqr (if_neg (fun h => c2 h.2.1)).symm
    by_cases c3 : C.2.2 = true
    case neg => exact (Ev.pos c1 (Ev.pos c2 (Ev.neg c3 (Ev.now _)))).eqr (if_neg (fun h => c3 h.2.2.1)).symm
    by_cases c4 : D.2.2 = true
    case neg => exact (Ev.pos c1 (Ev.pos c2 (Ev.pos c3 (Ev.neg c4 (Ev.now _))))).eqr (if_neg (fun h => c4 h.2.2.2.1)).symm
    by_cases c5 : F.2.2 = true
    case neg => exact (Ev.pos c1 (Ev.pos c2 (Ev.pos c3 (Ev.pos c4 (Ev.neg c5 (Ev.now _)))))).eqr (if_neg (fun h => c5 h.2.2.2.2)).symm
    refine (Ev.pos c1 (Ev.pos c2 (Ev.pos c3 (Ev.pos c4 (Ev.pos c5 (Ev.pos (by omega) ?_)))))).eqr (if_pos ⟨c1, c2, c3, c4, c5⟩).symm
    rw [wsucc (show i < 4611686018427387904 by omega)]
    exact ih (i + 1) (by omega) _ _ (by omega) (by rw [List.length_append]; simp only [List.length_cons, List.length_nil]; omega)
theorem sReadVersion_ev (s : ByteArray) (hs : s.size ≤ 1048576) : Ev (fun k => spec_ReadVersion.f k s) (rvV s) := by
  have hr := tt_range s
  have bad : ∀ x : ByteArray, ¬ okS s → Ev (fun k => spec_ReadVersion.j0 k x true) (rvV s) := fun x h => by
    unfold rvV
    rw [if_neg h]
    refine Ev.step (fun k => spec_ReadVersion.j0.eq_2 ..) ?_
    exact Ev.pos rfl (Ev.now _)
  have htake : Ev (fun k => spec_l10Take.f k s 0) (if (tt s).2.2 = true ∧ (tf (tt s).2.1).2.2 = true ∧ (tf (tt s).2.1).1 = crc (tt s).1 then ((tt s).1, true) else ((⟨#[]⟩ : ByteArray), false)) := by
    unfold spec_l10Take.f
    rw [show s.extract (0 : Int).toNat s.size = s from by rw [show (0 : Int).toNat = 0 from rfl]; exact ByteArray.extract_zero_size]
    refine Ev.neg (by omega) (Ev.pos (by omega) (Ev.pos (by omega) (Ev.bind (sTakeText_ev s (by omega)) (Ev.bindS (sTakeFixed_ev _) ?_))))
    by_cases c1 : (tt s).2.2 = true
    case neg => exact (Ev.neg c1 (Ev.now _)).eqr (if_neg (fun h => c1 h.1)).symm
    by_cases c2 : (tf (tt s).2.1).2.2 = true
    case neg => exact (Ev.pos c1 (Ev.neg c2 (Ev.now _))).eqr (if_neg (fun h => c2 h.2.1)).symm
    by_cases c3 : (tf (tt s).2.1).1 = crc (tt s).1
    · exact (Ev.pos c1 (Ev.pos c2 (Ev.bind (sCrc_ev (tt s).1 (by omega)) (Ev.pos c3 (Ev.now _))))).eqr (if_pos ⟨c1, c2, c3⟩).symm
    · exact (Ev.pos c1 (Ev.pos c2 (Ev.bind (sCrc_ev (tt s).1 (by omega)) (Ev.neg c3 (Ev.now _))))).eqr (if_neg (fun h => c3 h.2.2)).symm
  unfold spec_ReadVersion.f
  refine Ev.bind htake ?_
  by_cases c : (tt s).2.2 = true ∧ (tf (tt s).2.1).2.2 = true ∧ (tf (tt s).2.1).1 = crc (tt s).1
  case neg =>
    rw [if_neg c]
    refine Ev.neg (by simp) (bad _ fun h => c ⟨h.1, ?_, ?_⟩)
    · unfold tf
      rw [if_neg (by have := h.2.1; omega)]
    · unfold tf
      rw [if_neg (by have := h.2.1; omega)]
      exact h.2.2
  rw [if_pos c]
  have h4 : ¬ (tt s).2.1.size < 4 := fun h => by
    have := c.2.1
    unfold tf at this
    rw [if_pos h] at this
    cases this
  have hf4 : f4 (tt s).2.1 = crc (tt s).1 := by
    have := c.2.2
    unfold tf at this
    rw [if_neg h4] at this
    exact this
  refine Ev.pos rfl (Ev.bind (sSection_ev (tt s).1 (by omega)) ?_)
  have hback := tt_back s c.1
  have hp := pf_f4 (tt s).2.1 (by omega)
  by_cases c3 : (tt s).2.1.size = 4
  case neg =>
    have hne : (sec (tt s).1).toList ≠ s.toList := fun h => by
      have h5 : (sec (tt s).1).size = s.size := by
        rw [ByteArray.toList_eq, ByteArray.toList_eq] at h
        have := congrArg List.length h
        rw [Array.length_toList, Array.length_toList] at this
        exact this
      have h6 := congrArg ByteArray.size hback
      have h7 := pf_size (crc (tt s).1)
      unfold sec at h5
      rw [ByteArray.size_append] at h5 h6
      omega
    rw [show ((sec (tt s).1).toList != s.toList) = true from bne_iff_ne.2 hne]
    exact bad _ fun h => c3 h.2.1
  have hok : okS s := ⟨c.1, c3, hf4⟩
  have heq : sec (tt s).1 = s := by
    unfold sec
    rw [hf4] at hp
    have hz : (tt s).2.1.extract 4 (tt s).2.1.size = ⟨#[]⟩ := by
      apply ByteArray.ext
      apply Array.eq_empty_of_size_eq_zero
      show ((tt s).2.1.extract 4 (tt s).2.1.size).size = 0
      rw [ByteArray.size_extract]
      omega
    rw [hz, ba_nil] at hp
    rw [hp]
    exact hback.symm
  rw [heq, show (s.toList != s.toList) = false from by simp]
  unfold rvV
  rw [if_pos hok]
  refine Ev.step (fun k => spec_ReadVersion.j0.eq_2 ..) ?_
  refine Ev.neg (by decide) ?_
  have hbs := hr.1
  generalize (tt s).1 = body at hbs ⊢
  unfold rdS
  have h1 := l12Int_ev body (by omega)
  have z1 := iT_size body
  generalize iT body = A at h1 z1 ⊢
  have h2 := l12Int_ev A.2.1 (by omega)
  have z2 := iT_size A.2.1
  generalize iT A.2.1 = B at h2 z2 ⊢
  have h3 := l12Int_ev B.2.1 (by omega)
  have z3 := iT_size B.2.1
  generalize iT B.2.1 = C at h3 z3 ⊢
  have h5 := l12Int_ev C.2.1 (by omega)
  have z5 := iT_size C.2.1
  have n5 : 0 ≤ (iT C.2.1).1 := by
    have := (tv_range C.2.1).1
    unfold iT
    split
    · exact this
    · exact Int.le_refl _
  generalize iT C.2.1 = D at h5 z5 n5 ⊢
  unfold rS4
  have jt : ∀ f : Bool, (f = false ↔ (A.2.2 = true ∧ B.2.2 = true ∧ C.2.2 = true ∧ D.2.2 = true ∧ D.1 ≤ 30)) → Ev (fun k => spec_ReadVersion.j1 k A.1 B.1 C.1 D.1 D.2.1 f) (if A.2.2 = true ∧ B.2.2 = true ∧ C.2.2 = true ∧ D.2.2 = true ∧ D.1 ≤ 30 then sGo A.1 B.1 C.1 D.1.toNat D.2.1 [] else rvBad) := by
    intro f hf
    refine Ev.step (fun k => spec_ReadVersion.j1.eq_2 ..) ?_
    by_cases cf : A.2.2 = true ∧ B.2.2 = true ∧ C.2.2 = true ∧ D.2.2 = true ∧ D.1 ≤ 30
    · refine (Ev.neg (by rw [hf.2 cf]; decide) ?_).eqr (if_pos cf).symm
      have hN : D.1.toNat ≤ 30 := by have := cf.2.2.2.2; omega
      have := sReadLoop_ev A.1 B.1 C.1 D.1.toNat hN D.1.toNat 0 (by omega) D.2.1 [] (by omega) (Nat.zero_le _)
      rw [Int.toNat_of_nonneg n5] at this
      exact this
    · refine (Ev.pos ?_ (Ev.now _)).eqr (if_neg cf).symm
      cases f with
      | true => rfl
      | false => exact absurd (hf.1 rfl) cf
  refine Ev.bind h1 (Ev.bind h2 (Ev.bind h3 (Ev.bind h5 ?_)))
  by_cases c1 : A.2.2 = true
  case neg => exact Ev.neg c1 (jt true ⟨fun h => (by cases h), fun h => absurd h.1 c1⟩)
  refine Ev.pos c1 ?_
  by_cases c2 : B.2.2 = true
  case neg => exact Ev.neg c2 (jt true ⟨fun h => (by cases h), fun h => absurd h.2.1 c2⟩)
  refine Ev.pos c2 ?_
  by_cases c3' : C.2.2 = true
  case neg => exact Ev.neg c3' (jt true ⟨fun h => (by cases h), fun h => absurd h.2.2.1 c3'⟩)
  refine Ev.pos c3' ?_
  by_cases c4 : D.2.2 = true
  case neg => exact Ev.neg c4 (jt true ⟨fun h => (by cases h), fun h => absurd h.2.2.2.1 c4⟩)
  refine Ev.pos c4 (jt _ ⟨fun h => ⟨c1, c2, c3', c4, ?_⟩, fun h => decide_eq_false (by omega)⟩)
  have := of_decide_eq_false h
  omega
end Go.Proofs.Ytcgejabkjljeeaa.Pure
end

section
namespace Go.Proofs.Ytcgejabkjljeeaa.Pure
open Go.RowKit Go.Proofs.YtcgejabkjljeeaaW.PrintWords Go.Proofs.YtcgejabkjljeeaaW.PrintLast Go.Proofs.YtcgejabkjljeeaaW.PrintMore
open Go.Proofs.Ytcgejabkjljeeaa.P
set_option linter.unusedVariables false
set_option linter.unusedSimpArgs false
theorem eqVersion_ev (l : List M_) (a b c : Int) (hl : l.length < 2097152) : Ev (fun k => laws_eqVersion.f k l a b c l a b c) true := by
  unfold laws_eqVersion.f
  exact Ev.bind (eqMetaS_ev l hl) (Ev.pos rfl (Ev.pos rfl (Ev.pos rfl (Ev.pos rfl (Ev.now _)))))
end Go.Proofs.Ytcgejabkjljeeaa.Pure
end

section
namespace Go.Proofs.Ytcgejabkjljeeaa.Pure
open Go.RowKit Go.Proofs.YtcgejabkjljeeaaW.PrintWords Go.Proofs.YtcgejabkjljeeaaW.PrintLast Go.Proofs.YtcgejabkjljeeaaW.PrintMore
open Go.Proofs.Ytcgejabkjljeeaa.P
set_option linter.unusedVariables false
set_option linter.unusedSimpArgs false
theorem iGo_len (n s g : Int) : ∀ (d : Nat) (left : ByteArray) (acc : List M_), (sGo n s g d left acc).1.length ≤ 30
  | 0, left, acc => by
    unfold sGo
    split
    · rename_i h
      exact h.2.1
    · exact Nat.zero_le _
  | d + 1, left, acc => by
    rw [sGo]
    split
    · exact iGo_len n s g d _ _
    · exact Nat.zero_le _
theorem rvV_len (s : ByteArray) : (rvV s).1.length ≤ 30 := by
  unfold rvV
  split
  · unfold rdS rS4
    split
    · exact iGo_len _ _ _ _ _ _
    · exact Nat.zero_le _
  · exact Nat.zero_le _
theorem FnExactReadVersion : laws_FnExactReadVersion.Pure := by
  intro s _
  refine Ev.rounds (g := fun k => laws_FnExactReadVersion.f k s) ?_
  unfold laws_FnExactReadVersion.f
  by_cases c : (s.size : Int) > 1048576
  · exact Ev.pos c (Ev.now _)
  · have hl := rvV_len s
    have hs := sReadVersion_ev s (by omega)
    have hi := readVersion_ev s (by omega)
    generalize rvV s = v at hl hs hi
    obtain ⟨l, a, b, g, ok⟩ := v
    simp only [] at hl
    have he := eqVersion_ev l a b g (by omega)
    have hm := markMetaS_ev l (by omega) 1 (by omega) (by omega)
    have hh := heldMetaS_ev l.length (by omega) 1 (by omega) (by omega)
    have hmv : Ev (fun k => laws_markVersion.f k l a b g 1) _ := Ev.bind hm (Ev.now _)
    have hhv : Ev (fun k => laws_heldVersion.f k ((List.range l.length).map fun j : Nat => mk_Meta (1 + 5 * (j : Int))) a b g 1) (1 + 5 * l.length) := by
      unfold laws_heldVersion.f
      exact Ev.bind hh (Ev.neg (by omega) (Ev.now _))
    refine Ev.neg c (Ev.bind hs (Ev.bind hi (Ev.bind he (Ev.pos rfl ?_))))
    rw [show (ok != ok) = false from by simp]
    refine Ev.step (fun k => laws_FnExactReadVersion.j0.eq_2 ..) ?_
    refine Ev.neg (by decide) (Ev.bind hmv (Ev.bind hhv (Ev.neg (by omega) (Ev.pos rfl (Ev.bind hi (Ev.bind he (Ev.pos rfl ?_)))))))
    rw [show (ok != ok) = false from by simp]
    refine Ev.step (fun k => laws_FnExactReadVersion.j1.eq_2 ..) ?_
    exact Ev.neg (by decide) (Ev.bind hhv (Ev.neg (by omega) (Ev.pos rfl (Ev.now _))))
end Go.Proofs.Ytcgejabkjljeeaa.Pure
end
