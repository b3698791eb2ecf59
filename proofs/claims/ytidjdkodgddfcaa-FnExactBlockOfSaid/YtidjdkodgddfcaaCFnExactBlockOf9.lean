/- Proved: the law FnExactBlockOf of the given program returns true for every input of its Go types and leaves each argument as it was; no condition. (Part 10 of 11.) -/
import Derived.Test.YtidjdkodgddfcaaCFnExactBlockOf4
import Derived.Test.YtidjdkodgddfcaaCFnExactBlockOf6
import Derived.Test.YtidjdkodgddfcaaCFnExactBlockOf7
import Derived.Test.YtidjdkodgddfcaaCFnExactBlockOf8
import Derived.Lib.EndianBits
import Derived.Test.YtidjdkodgddfcaaCFnExactBlockOf5
section
namespace Go.Proofs.Ytidjdkodgddfcaa.P
open Go.RowKit Go.Proofs.YtidjdkodgddfcaaW.PrintWords Go.Proofs.YtidjdkodgddfcaaW.PrintLast Go.Proofs.YtidjdkodgddfcaaW.PrintMore
attribute [local go_sem] str_gtr str_leq str_geq max2_int min2_int max_two min_two max_three min_three max_four min_four
set_option linter.unusedVariables false
set_option linter.unusedSimpArgs false
def pvl (n : Nat) : List Int := if n < 128 then [(n : Int)] else ((n % 128 + 128 : Nat) : Int) :: pvl (n / 128)
termination_by n
decreasing_by omega
def pv (n : Nat) : ByteArray := strOfNums (pvl n)
theorem pvl_small {n : Nat} (h : n < 128) : pvl n = [(n : Int)] := by rw [pvl, if_pos h]
theorem pvl_big {n : Nat} (h : ¬ n < 128) : pvl n = ((n % 128 + 128 : Nat) : Int) :: pvl (n / 128) := by rw [pvl, if_neg h]
theorem pvl_len (d : Nat) : ∀ n, n < 128 ^ (d + 1) → 1 ≤ (pvl n).length ∧ (pvl n).length ≤ d + 1 := by
  induction d with
  | zero =>
    intro n h
    rw [pvl_small (by simpa using h)]
    simp
  | succ d ih =>
    intro n h
    by_cases c : n < 128
    · rw [pvl_small c]
      simp
    · rw [pvl_big c, List.length_cons]
      have := ih (n / 128) (Nat.div_lt_of_lt_mul (by rw [Nat.pow_succ, Nat.mul_comm] at h; exact h))
      omega
theorem pv_size {n : Nat} (h : n < 18446744073709551616) : 1 ≤ (pv n).size ∧ (pv n).size ≤ 10 := by
  have e : (pv n).size = (pvl n).length := by unfold pv strOfNums; simp [ByteArray.size]
  rw [e]
  exact pvl_len 9 n (by omega)
theorem or128 : ∀ x : Fin 256, Go.bits .or .u8 ((x.val : Nat) : Int) 128 = ((x.val % 128 + 128 : Nat) : Int) := by decide +kernel
theorem putVar_ev (n : Nat) (h : n < 18446744073709551616) : Ev (fun k => impl_PutVar.f k (n : Int)) (pv n) := by
  have key : ∀ (d n : Nat) (acc : List Int), n < 128 ^ (d + 1) → acc.length + d ≤ 100 → Ev (fun k => impl_PutVar.l0 k (n : Int) acc) (strOfNums (acc ++ pvl n)) := by
    intro d
    induction d with
    | zero =>
      intro n acc hn ha
      have hn' : n < 128 := by simpa using hn
      rw [pvl_small hn']
      refine Ev.step (fun k => rfl) (Ev.neg (by omega) (Ev.pos (by omega) ?_))
      rw [Int.emod_eq_of_lt (by omega) (by omega)]
      exact Ev.now _
    | succ d ih =>
      intro n acc hn ha
      by_cases c : n < 128
      · rw [pvl_small c]
        refine Ev.step (fun k => rfl) (Ev.neg (by omega) (Ev.pos (by omega) ?_))
        rw [Int.emod_eq_of_lt (by omega) (by omega)]
        exact Ev.now _
      · rw [pvl_big c]
        refine Ev.step (fun k => rfl) (Ev.pos (by omega) (Ev.pos (by omega) ?_))
        have e : Go.bits .or .u8 ((n : Int) % 256) 128 = ((n % 128 + 128 : Nat) : Int) := by
          have := or128 ⟨n % 256, by omega⟩
          simp only at this
          rw [show ((n : Int) % 256) = ((n % 256 : Nat) : Int) from by omega, this]
          omega
        rw [e, show ((n : Int) / 128) = ((n / 128 : Nat) : Int) from by omega]
        refine (ih (n / 128) _ (Nat.div_lt_of_lt_mul (by rw [Nat.pow_succ, Nat.mul_comm] at hn; exact hn)) (by rw [List.length_append]; simp; omega)).eqr ?_
        rw [List.append_assoc]
        rfl
  have := key 9 n [] (by omega) (by simp)
  rw [List.nil_append] at this
  exact this
theorem sPutVar_ev (n : Nat) (h : n < 18446744073709551616) : Ev (fun k => spec_PutVar.f k (n : Int)) (pv n) := by
  have key : ∀ (d n : Nat) (acc : List Int), n < 18446744073709551616 → n < 128 ^ (d + 1) → acc.length + d ≤ 100 → Ev (fun k => spec_PutVar.l0 k (n : Int) acc) (strOfNums (acc ++ pvl n)) := by
    intro d
    induction d with
    | zero =>
      intro n acc h hn ha
      have hn' : n < 128 := by simpa using hn
      rw [pvl_small hn']
      refine Ev.step (fun k => rfl) (Ev.neg (by omega) (Ev.pos (by omega) ?_))
      rw [Int.emod_eq_of_lt (by omega) (by omega)]
      exact Ev.now _
    | succ d ih =>
      intro n acc h hn ha
      by_cases c : n < 128
      · rw [pvl_small c]
        refine Ev.step (fun k => rfl) (Ev.neg (by omega) (Ev.pos (by omega) ?_))
        rw [Int.emod_eq_of_lt (by omega) (by omega)]
        exact Ev.now _
      · rw [pvl_big c]
        refine Ev.step (fun k => rfl) (Ev.pos (by omega) (Ev.pos (by omega) ?_))
        have e : (IntKind.u64.wrap ((Int.tmod (n : Int) 128) + 128)) % 256 = ((n % 128 + 128 : Nat) : Int) := by
          rw [Int.tmod_eq_emod_of_nonneg (by omega), uid (by omega) (by omega)]
          omega
        have e2 : IntKind.u64.wrap (Int.tdiv (n : Int) 128) = ((n / 128 : Nat) : Int) := by
          rw [Int.tdiv_eq_ediv_of_nonneg (by omega), uid (by omega) (by omega)]
          omega
        rw [e, e2]
        refine (ih (n / 128) _ (by omega) (Nat.div_lt_of_lt_mul (by rw [Nat.pow_succ, Nat.mul_comm] at hn; exact hn)) (by rw [List.length_append]; simp; omega)).eqr ?_
        rw [List.append_assoc]
        rfl
  have := key 9 n [] h (by omega) (by simp)
  rw [List.nil_append] at this
  exact this
theorem putInt_ev (n : Nat) (h : n < 9223372036854775808) : Ev (fun k => impl_putInt.f k (n : Int)) (pv n) := by
  unfold impl_putInt.f
  rw [uid (by omega) (by omega)]
  exact Ev.bind (putVar_ev n (by omega)) (Ev.now _)
def pt (s : ByteArray) : ByteArray := pv s.size ++ s
theorem putText_ev (t : ByteArray) (h : t.size ≤ 4611686018427387904) : Ev (fun k => impl_PutText.f k t) (pt t) := by
  unfold impl_PutText.f
  rw [uid (by omega) (by omega)]
  have := (pv_size (n := t.size) (by omega)).2
  exact Ev.bind (putVar_ev t.size (by omega)) (Ev.pos (by omega) (Ev.now _))
theorem sPutText_ev (t : ByteArray) (h : t.size ≤ 4611686018427387904) : Ev (fun k => spec_PutText.f k t) (pt t) := by
  unfold spec_PutText.f
  rw [uid (by omega) (by omega)]
  have := (pv_size (n := t.size) (by omega)).2
  exact Ev.bind (sPutVar_ev t.size (by omega)) (Ev.pos (by omega) (Ev.now _))
theorem pt_size (t : ByteArray) (h : t.size ≤ 4611686018427387904) : t.size + 1 ≤ (pt t).size ∧ (pt t).size ≤ t.size + 10 := by
  have := pv_size (n := t.size) (by omega)
  unfold pt
  rw [ByteArray.size_append]
  omega
end Go.Proofs.Ytidjdkodgddfcaa.P
end

section
namespace Go.Proofs.Ytidjdkodgddfcaa.P
open Go.RowKit Go.Proofs.YtidjdkodgddfcaaW.PrintWords Go.Proofs.YtidjdkodgddfcaaW.PrintLast Go.Proofs.YtidjdkodgddfcaaW.PrintMore
attribute [local go_sem] str_gtr str_leq str_geq max2_int min2_int max_two min_two max_three min_three max_four min_four
set_option linter.unusedVariables false
set_option linter.unusedSimpArgs false
theorem empty_size : (⟨#[]⟩ : ByteArray).size = 0 := rfl
theorem bytesOf_strOfNums (l : List Int) (h : ∀ x ∈ l, 0 ≤ x ∧ x < 256) : bytesOf (strOfNums l) = l := by
  unfold bytesOf strOfNums
  simp only [List.map_map]
  conv => rhs; rw [← List.map_id l]
  refine List.map_congr_left fun x hx => ?_
  have := h x hx
  simp only [Function.comp_apply, id]
  rw [UInt8.toNat_ofNat']
  omega
end Go.Proofs.Ytidjdkodgddfcaa.P
end

section
namespace Go.Proofs.Ytidjdkodgddfcaa.P
open Go.RowKit Go.Proofs.YtidjdkodgddfcaaW.PrintWords Go.Proofs.YtidjdkodgddfcaaW.PrintLast Go.Proofs.YtidjdkodgddfcaaW.PrintMore
attribute [local go_sem] str_gtr str_leq str_geq max2_int min2_int max_two min_two max_three min_three max_four min_four
set_option linter.unusedVariables false
set_option linter.unusedSimpArgs false
def pf (n : Int) : ByteArray := strOfNums [n % 256, (n / 256) % 256, (n / 65536) % 256, (n / 16777216) % 256]
theorem bytesOf_pf (n : Int) : bytesOf (pf n) = [n % 256, (n / 256) % 256, (n / 65536) % 256, (n / 16777216) % 256] := by
  refine bytesOf_strOfNums _ fun x hx => ?_
  simp only [List.mem_cons, List.not_mem_nil, or_false] at hx
  omega
theorem pf_size (n : Int) : (pf n).size = 4 := by rw [← bytesOf_length, bytesOf_pf]; rfl
theorem putFixed_ev (n : Int) : impl_PutFixed.f n = some (pf n) := rfl
theorem sPutFixed_ev (n : Int) : spec_PutFixed.f n = some (pf n) := rfl
end Go.Proofs.Ytidjdkodgddfcaa.P
end

section
namespace Go.Proofs.Ytidjdkodgddfcaa.Pure
open Go.RowKit Go.Proofs.YtidjdkodgddfcaaW.PrintWords Go.Proofs.YtidjdkodgddfcaaW.PrintLast Go.Proofs.YtidjdkodgddfcaaW.PrintMore
open Go.Proofs.Ytidjdkodgddfcaa.P
set_option linter.unusedVariables false
set_option linter.unusedSimpArgs false
def cpl : List Int → List Int → Nat
  | a :: x, b :: y => if a = b then cpl x y + 1 else 0
  | _, _ => 0
def shv (a b : ByteArray) : Nat := cpl (bytesOf a) (bytesOf b)
theorem cpl_le : ∀ a b : List Int, cpl a b ≤ a.length ∧ cpl a b ≤ b.length
  | [], _ => by simp [cpl]
  | _ :: _, [] => by simp [cpl]
  | a :: x, b :: y => by
    have := cpl_le x y
    unfold cpl
    split
    · simp only [List.length_cons]; omega
    · simp
theorem shv_le (a b : ByteArray) : shv a b ≤ a.size ∧ shv a b ≤ b.size := by
  have := cpl_le (bytesOf a) (bytesOf b)
  rw [bytesOf_length, bytesOf_length] at this
  exact this
theorem drop_bt (s : ByteArray) (i : Nat) (h : i < s.size) : (bytesOf s).drop i = bt s (i : Int) :: (bytesOf s).drop (i + 1) := by
  have hl : i < (bytesOf s).length := by rw [bytesOf_length]; exact h
  rw [List.drop_eq_getElem_cons hl]
  congr 1
  rw [← rd_bytesOf]
  unfold rd
  rw [Int.toNat_natCast, List.getD_eq_getElem?_getD, List.getElem?_eq_getElem hl]
  rfl
theorem shared_ev (a b : ByteArray) (ha : a.size ≤ 2097152) : Ev (fun k => impl_SharedWith.f k a b) ((shv a b : Nat) : Int) := by
  have key : ∀ i, i ≤ a.size → Ev (fun k => impl_SharedWith.l0 k a b (i : Int)) ((i + cpl ((bytesOf a).drop i) ((bytesOf b).drop i) : Nat) : Int) := by
    refine downTo a.size ?_ ?_
    · refine Ev.step (fun k => impl_SharedWith.l0.eq_2 ..) (Ev.neg (by omega) ((Ev.now _).eqr ?_))
      rw [← bytesOf_length a, List.drop_length]
      simp [cpl]
    · intro i hi ih
      refine Ev.step (fun k => impl_SharedWith.l0.eq_2 ..) (Ev.pos (by omega) ?_)
      rw [drop_bt a i hi]
      by_cases h1 : i < b.size
      · rw [drop_bt b i h1]
        refine Ev.pos (by omega) (Ev.pos (by omega) ?_)
        by_cases h2 : bt a i = bt b i
        · refine Ev.pos h2 ?_
          rw [wsucc (by omega)]
          refine ih.eqr ?_
          rw [cpl, if_pos h2]
          omega
        · refine Ev.neg h2 ((Ev.now _).eqr ?_)
          rw [cpl, if_neg h2]
          rfl
      · refine Ev.neg (by omega) ((Ev.now _).eqr ?_)
        rw [show (bytesOf b).drop i = [] from List.drop_eq_nil_of_le (by rw [bytesOf_length]; omega)]
        simp [cpl]
  have := key 0 (Nat.zero_le _)
  rw [List.drop_zero, List.drop_zero, Nat.zero_add] at this
  exact this
theorem sShared_ev (a b : ByteArray) (ha : a.size ≤ 2097152) : Ev (fun k => spec_SharedWith.f k a b) ((shv a b : Nat) : Int) := by
  have key : ∀ i, i ≤ a.size → Ev (fun k => spec_SharedWith.l0 k a b (i : Int)) ((i + cpl ((bytesOf a).drop i) ((bytesOf b).drop i) : Nat) : Int) := by
    refine downTo a.size ?_ ?_
    · refine Ev.step (fun k => spec_SharedWith.l0.eq_2 ..) (Ev.neg (by omega) ((Ev.now _).eqr ?_))
      rw [← bytesOf_length a, List.drop_length]
      simp [cpl]
    · intro i hi ih
      refine Ev.step (fun k => spec_SharedWith.l0.eq_2 ..) (Ev.pos (by omega) ?_)
      rw [drop_bt a i hi]
      by_cases h1 : i < b.size
      · rw [drop_bt b i h1]
        refine Ev.pos (by omega) (Ev.pos (by omega) ?_)
        by_cases h2 : bt a i = bt b i
        · refine Ev.pos h2 ?_
          rw [wsucc (by omega)]
          refine ih.eqr ?_
          rw [cpl, if_pos h2]
          omega
        · refine Ev.neg h2 ((Ev.now _).eqr ?_)
          rw [cpl, if_neg h2]
          rfl
      · refine Ev.neg (by omega) ((Ev.now _).eqr ?_)
        rw [show (bytesOf b).drop i = [] from List.drop_eq_nil_of_le (by rw [bytesOf_length]; omega)]
        simp [cpl]
  have := key 0 (Nat.zero_le _)
  rw [List.drop_zero, List.drop_zero, Nat.zero_add] at this
  exact this
def kn (q d : Int) : Int := 2 * q + d
def kt (u : ByteArray) (q d : Int) : ByteArray := (u ++ pf (kn q d % 4294967296)) ++ pf (kn q d / 4294967296 % 4294967296)
theorem kt_size (u : ByteArray) (q d : Int) : (kt u q d).size = u.size + 8 := by
  unfold kt
  rw [ByteArray.size_append, ByteArray.size_append, pf_size, pf_size]
theorem keyText_ev {u : ByteArray} {q d : Int} (h : isK u q d) : impl_keyText.f u q d = some (kt u q d) := by
  obtain ⟨⟨h1, h2⟩, h3, h4⟩ := h
  have e : IntKind.u64.wrap (wrap64 (wrap64 (2 * q) + d)) = kn q d := by
    rw [wid (x := 2 * q) (by omega) (by omega), wid (by omega) (by omega), uid (by omega) (by omega)]
    rfl
  unfold impl_keyText.f
  have z1 := pf_size (kn q d % 4294967296)
  have z2 := pf_size (kn q d / 4294967296 % 4294967296)
  rw [e, putFixed_ev, putFixed_ev, Option.bind_some, if_pos (by omega), Option.bind_some, if_pos (by omega)]
  rfl
theorem sKeyText_ev {u : ByteArray} {q d : Int} (h : isK u q d) : spec_KeyText.f u q d = some (kt u q d) := by
  have hk := sKeyOk_ev u q d
  rw [decide_eq_true h] at hk
  obtain ⟨⟨h1, h2⟩, h3, h4⟩ := h
  have e : IntKind.u64.wrap (wrap64 (wrap64 (2 * q) + d)) = kn q d := by
    rw [wid (x := 2 * q) (by omega) (by omega), wid (by omega) (by omega), uid (by omega) (by omega)]
    rfl
  unfold spec_KeyText.f
  have z1 := pf_size (kn q d % 4294967296)
  have z2 := pf_size (kn q d / 4294967296 % 4294967296)
  rw [hk, Option.bind_some, if_pos rfl, e, sPutFixed_ev, sPutFixed_ev, Option.bind_some, if_pos (by omega), Option.bind_some, if_pos (by omega)]
  rfl
def ekt (e : S64) : ByteArray := kt e.f0.f0 e.f0.f1 e.f0.f2
def blkGo (every : Int) : Nat → List S64 → ByteArray → ByteArray → ByteArray → Int → ByteArray
  | _, [], out, _, anew, many => ((out ++ anew) ++ pf many) ++ pf (every % 4294967296)
  | i, e :: es, out, ahead, anew, many =>
    if Int.tmod (i : Int) every = 0 then blkGo every (i + 1) es (out ++ (pv 0 ++ pt (ekt e) ++ pt e.f1)) (ekt e) (anew ++ pf ((out.size : Int) % 4294967296)) ((many + 1) % 4294967296)
    else blkGo every (i + 1) es (out ++ (pv (shv ahead (ekt e)) ++ pt ((ekt e).extract (shv ahead (ekt e)) (ekt e).size) ++ pt e.f1)) (ekt e) anew many
def blkT (l : List S64) (every : Int) : ByteArray := blkGo every 0 l ⟨#[]⟩ ⟨#[]⟩ ⟨#[]⟩ 0
noncomputable def blkV (l : List S64) (every : Int) : ByteArray × Bool :=
  if isRow l ∧ l.length ≠ 0 ∧ 1 ≤ every ∧ every ≤ 16 then (if ((blkT l every).size : Int) > 60000 then (⟨#[]⟩, false) else (blkT l every, true)) else (⟨#[]⟩, false)
theorem row_small {l : List S64} (h : isRow l) (i : Nat) (hi : i < l.length) : isK l[i].f0.f0 l[i].f0.f1 l[i].f0.f2 ∧ l[i].f0.f0.size ≤ 40 ∧ l[i].f1.size ≤ 200 := by
  have := (h.2 i (Nat.zero_le _) hi).1
  unfold isEx isE at this
  refine ⟨this.1, this.1.1.2, this.2.1⟩
theorem block_ev (l : List S64) (h : isRow l) (every : Int) (h1 : 1 ≤ every) (h2 : every ≤ 16) : Ev (fun k => impl_block.f k l every) (blkT l every) := by
  have key : ∀ i, i ≤ l.length → ∀ (out ahead anew : ByteArray) (many : Int), out.size ≤ 400 * i → ahead.size ≤ 48 → anew.size ≤ 4 * i → Ev (fun k => impl_block.l0 k every out ahead anew many l (l.length : Int) (i : Int)) (blkGo every i (l.drop i) out ahead anew many) := by
    have hlen := h.1
    refine downTo l.length ?_ ?_
    · intro out ahead anew many z1 z2 z3
      rw [List.drop_length]
      refine Ev.step (fun k => impl_block.l0.eq_2 ..) ?_
      have p1 := pf_size many
      have p2 := pf_size (every % 4294967296)
      exact Ev.neg (by omega) (Ev.pos (by omega) (Ev.bindS (putFixed_ev _) (Ev.pos (by omega) (Ev.bindS (putFixed_ev _) (Ev.pos (by omega) (Ev.now _))))))
    · intro i hi ih out ahead anew many z1 z2 z3
      obtain ⟨hk, hu, hv⟩ := row_small h i hi
      have hz := kt_size l[i].f0.f0 l[i].f0.f1 l[i].f0.f2
      rw [List.drop_eq_getElem_cons hi]
      refine Ev.step (fun k => impl_block.l0.eq_2 ..) ?_
      refine Ev.pos (by omega) (Ev.pos (by omega) (Ev.pos (by omega) ?_))
      rw [rdE l i hi]
      refine Ev.bindS (keyText_ev hk) (Ev.neg (by omega) ?_)
      have pv0 := pv_size (n := 0) (by omega)
      have v1 := putText_ev l[i].f1 (by omega)
      have v2 := pt_size l[i].f1 (by omega)
      have ee : ekt l[i] = kt l[i].f0.f0 l[i].f0.f1 l[i].f0.f2 := rfl
      by_cases c : Int.tmod (i : Int) every = 0
      · have k1 := putText_ev (ekt l[i]) (by rw [ee]; omega)
        have k2 := pt_size (ekt l[i]) (by rw [ee]; omega)
        have n0 := putInt_ev 0 (by omega)
        have pfz := pf_size ((out.size : Int) % 4294967296)
        rw [← ee] at hz ⊢
        refine Ev.pos c (Ev.bindS (putFixed_ev _) (Ev.pos (by omega) (Ev.bind n0 (Ev.pos (by omega) ?_))))
        rw [ByteArray.extract_zero_size]
        refine Ev.bind k1 (Ev.pos (by omega) (Ev.bind v1 (Ev.pos (by omega) (Ev.pos (by omega) ?_))))
        rw [wsucc (by omega)]
        refine (ih _ (ekt l[i]) _ _ ?_ (by omega) ?_).eqr ?_
        · rw [ByteArray.size_append, ByteArray.size_append, ByteArray.size_append]; omega
        · rw [ByteArray.size_append]; omega
        · rw [blkGo, if_pos c]
      · obtain ⟨s1, s2⟩ := shv_le ahead (ekt l[i])
        have hsh := shared_ev ahead (ekt l[i]) (by omega)
        have ns := putInt_ev (shv ahead (ekt l[i])) (by omega)
        have nz := pv_size (n := shv ahead (ekt l[i])) (by omega)
        have ez : ((ekt l[i]).extract (shv ahead (ekt l[i])) (ekt l[i]).size).size ≤ 48 := by rw [ByteArray.size_extract]; rw [ee]; omega
        have k1 := putText_ev ((ekt l[i]).extract (shv ahead (ekt l[i])) (ekt l[i]).size) (by omega)
        have k2 := pt_size ((ekt l[i]).extract (shv ahead (ekt l[i])) (ekt l[i]).size) (by omega)
        rw [← ee] at hz ⊢
        refine Ev.neg c (Ev.bind hsh (Ev.bind ns (Ev.pos (by omega) (Ev.pos (by omega) ?_))))
        rw [Int.toNat_natCast]
        refine Ev.bind k1 (Ev.pos (by omega) (Ev.bind v1 (Ev.pos (by omega) (Ev.pos (by omega) ?_))))
        rw [wsucc (by omega)]
        refine (ih _ (ekt l[i]) _ _ ?_ (by omega) (by omega)).eqr ?_
        · rw [ByteArray.size_append, ByteArray.size_append, ByteArray.size_append]; omega
        · rw [blkGo, if_neg c]
  exact key 0 (Nat.zero_le _) _ _ _ _ (by simp [empty_size]) (by simp [empty_size]) (by simp [empty_size])
theorem sBlock_ev (l : List S64) (h : isRow l) (every : Int) (h1 : 1 ≤ every) (h2 : every ≤ 16) : Ev (fun k => spec_BlockOf.l0 k l every ⟨#[]⟩ ⟨#[]⟩ 0 ⟨#[]⟩ 0) (if ((blkT l every).size : Int) > 60000 then (⟨#[]⟩, false) else (blkT l every, true)) := by
  have key : ∀ i, i ≤ l.length → ∀ (out ahead anew : ByteArray) (many : Int), out.size ≤ 400 * i → ahead.size ≤ 48 → anew.size ≤ 4 * i → Ev (fun k => spec_BlockOf.l0 k l every out anew many ahead (i : Int)) (if ((blkGo every i (l.drop i) out ahead anew many).size : Int) > 60000 then (⟨#[]⟩, false) else (blkGo every i (l.drop i) out ahead anew many, true)) := by
    have hlen := h.1
    refine downTo l.length ?_ ?_
    · intro out ahead anew many z1 z2 z3
      rw [List.drop_length]
      refine Ev.step (fun k => spec_BlockOf.l0.eq_2 ..) ?_
      have p1 := pf_size many
      have p2 := pf_size (every % 4294967296)
      refine Ev.neg (by omega) (Ev.pos (by omega) (Ev.bindS (sPutFixed_ev _) (Ev.pos (by omega) (Ev.bindS (sPutFixed_ev _) (Ev.pos (by omega) ?_)))))
      rw [blkGo]
      by_cases c : (((((out ++ anew) ++ pf many) ++ pf (every % 4294967296)).size : Nat) : Int) > 60000
      · exact Ev.pos c ((Ev.now _).eqr (if_pos c).symm)
      · exact Ev.neg c ((Ev.now _).eqr (if_neg c).symm)
    · intro i hi ih out ahead anew many z1 z2 z3
      obtain ⟨hk, hu, hv⟩ := row_small h i hi
      have hz := kt_size l[i].f0.f0 l[i].f0.f1 l[i].f0.f2
      rw [List.drop_eq_getElem_cons hi]
      refine Ev.step (fun k => spec_BlockOf.l0.eq_2 ..) ?_
      refine Ev.pos (by omega) (Ev.pos (by omega) ?_)
      rw [rdE l i hi]
      have pv0 := pv_size (n := 0) (by omega)
      have v1 := sPutText_ev l[i].f1 (by omega)
      have v2 := pt_size l[i].f1 (by omega)
      have ee : ekt l[i] = kt l[i].f0.f0 l[i].f0.f1 l[i].f0.f2 := rfl
      obtain ⟨s1, s2⟩ := shv_le ahead (ekt l[i])
      have hsh := sShared_ev ahead (ekt l[i]) (by omega)
      refine Ev.bindS (sKeyText_ev hk) ?_
      rw [← ee] at hz ⊢
      refine Ev.bind hsh (Ev.neg (by omega) ?_)
      by_cases c : Int.tmod (i : Int) every = 0
      · have k1 := sPutText_ev (ekt l[i]) (by rw [ee]; rw [ee] at hz; omega)
        have k2 := pt_size (ekt l[i]) (by rw [ee]; rw [ee] at hz; omega)
        have n0 := sPutVar_ev 0 (by omega)
        have pfz := pf_size ((out.size : Int) % 4294967296)
        refine Ev.pos c (Ev.bindS (sPutFixed_ev _) (Ev.pos (by omega) (Ev.bind n0 (Ev.pos (by omega) (Ev.pos (by omega) ?_)))))
        rw [ByteArray.extract_zero_size]
        refine Ev.bind k1 (Ev.pos (by omega) (Ev.bind v1 (Ev.pos (by omega) ?_)))
        rw [wsucc (by omega), show ((out ++ pv 0) ++ pt (ekt l[i])) ++ pt l[i].f1 = out ++ (pv 0 ++ pt (ekt l[i]) ++ pt l[i].f1) from by simp only [ByteArray.append_assoc]]
        refine (ih _ (ekt l[i]) _ _ ?_ (by omega) ?_).eqr ?_
        · rw [ByteArray.size_append, ByteArray.size_append, ByteArray.size_append]; omega
        · rw [ByteArray.size_append]; omega
        · rw [blkGo, if_pos c]
      · have ns := sPutVar_ev (shv ahead (ekt l[i])) (by omega)
        have nz := pv_size (n := shv ahead (ekt l[i])) (by omega)
        have ez : ((ekt l[i]).extract (shv ahead (ekt l[i])) (ekt l[i]).size).size ≤ 48 := by rw [ByteArray.size_extract]; omega
        have k1 := sPutText_ev ((ekt l[i]).extract (shv ahead (ekt l[i])) (ekt l[i]).size) (by omega)
        have k2 := pt_size ((ekt l[i]).extract (shv ahead (ekt l[i])) (ekt l[i]).size) (by omega)
        refine Ev.neg c ?_
        rw [uid (by omega) (by omega)]
        refine Ev.bind ns (Ev.pos (by omega) (Ev.pos (by omega) (Ev.pos (by omega) ?_)))
        rw [Int.toNat_natCast]
        refine Ev.bind k1 (Ev.pos (by omega) (Ev.bind v1 (Ev.pos (by omega) ?_)))
        rw [wsucc (by omega), show ((out ++ pv (shv ahead (ekt l[i]))) ++ pt ((ekt l[i]).extract (shv ahead (ekt l[i])) (ekt l[i]).size)) ++ pt l[i].f1 = out ++ (pv (shv ahead (ekt l[i])) ++ pt ((ekt l[i]).extract (shv ahead (ekt l[i])) (ekt l[i]).size) ++ pt l[i].f1) from by simp only [ByteArray.append_assoc]]
        refine (ih _ (ekt l[i]) _ _ ?_ (by omega) (by omega)).eqr ?_
        · rw [ByteArray.size_append, ByteArray.size_append, ByteArray.size_append]; omega
        · rw [blkGo, if_neg c]
  exact key 0 (Nat.zero_le _) _ _ _ _ (by simp [empty_size]) (by simp [empty_size]) (by simp [empty_size])
theorem blockOf_ev (l : List S64) (hl : l.length < 2097152) (every : Int) : Ev (fun k => impl_BlockOf.f k l every) (blkV l every) := by
  have hw := within_ev every 1 16
  have jt : ¬ (isRow l ∧ l.length ≠ 0 ∧ 1 ≤ every ∧ every ≤ 16) → Ev (fun k => impl_BlockOf.j0 k l every true) (blkV l every) := fun h => by
    refine Ev.step (fun k => impl_BlockOf.j0.eq_2 ..) ?_
    exact Ev.pos rfl ((Ev.now _).eqr (if_neg h).symm)
  unfold impl_BlockOf.f
  refine Ev.bind (entriesOk_ev l hl) ?_
  by_cases c1 : isRow l
  · refine Ev.pos (decide_eq_true c1) ?_
    by_cases c2 : l.length = 0
    · exact Ev.pos (by omega) (jt fun h => h.2.1 c2)
    · refine Ev.neg (by omega) (Ev.bindS hw ?_)
      by_cases c3 : 1 ≤ every ∧ every ≤ 16
      · rw [decide_eq_true c3]
        refine Ev.step (fun k => impl_BlockOf.j0.eq_2 ..) ?_
        refine Ev.neg (by decide) (Ev.eqr ?_ (if_pos ⟨c1, c2, c3.1, c3.2⟩).symm)
        refine Ev.bind (block_ev l c1 every c3.1 c3.2) ?_
        by_cases c4 : ((blkT l every).size : Int) > 60000
        · exact Ev.pos c4 ((Ev.now _).eqr (if_pos c4).symm)
        · exact Ev.neg c4 ((Ev.now _).eqr (if_neg c4).symm)
      · rw [decide_eq_false c3]
        exact jt fun h => c3 h.2.2
  · exact Ev.neg (by simpa using c1) (jt fun h => c1 h.1)
theorem sBlockOf_ev (l : List S64) (hl : l.length < 2097152) (every : Int) : Ev (fun k => spec_BlockOf.f k l every) (blkV l every) := by
  have hw := in_ev every 1 16
  have jt : ¬ (isRow l ∧ l.length ≠ 0 ∧ 1 ≤ every ∧ every ≤ 16) → Ev (fun k => spec_BlockOf.j0 k l every true) (blkV l every) := fun h => by
    refine Ev.step (fun k => spec_BlockOf.j0.eq_2 ..) ?_
    exact Ev.pos rfl ((Ev.now _).eqr (if_neg h).symm)
  unfold spec_BlockOf.f
  refine Ev.bind (sEntriesOk_ev l hl) ?_
  by_cases c1 : isRow l
  · refine Ev.pos (decide_eq_true c1) ?_
    by_cases c2 : l.length = 0
    · exact Ev.pos (by omega) (jt fun h => h.2.1 c2)
    · refine Ev.neg (by omega) (Ev.bindS hw ?_)
      by_cases c3 : 1 ≤ every ∧ every ≤ 16
      · rw [decide_eq_true c3]
        refine Ev.step (fun k => spec_BlockOf.j0.eq_2 ..) ?_
        refine Ev.neg (by decide) (Ev.eqr ?_ (if_pos ⟨c1, c2, c3.1, c3.2⟩).symm)
        exact sBlock_ev l c1 every c3.1 c3.2
      · rw [decide_eq_false c3]
        exact jt fun h => c3 h.2.2
  · exact Ev.neg (by simpa using c1) (jt fun h => c1 h.1)
end Go.Proofs.Ytidjdkodgddfcaa.Pure
end

section
namespace Go.Proofs.Ytidjdkodgddfcaa.Pure
open Go.RowKit Go.Proofs.YtidjdkodgddfcaaW.PrintWords Go.Proofs.YtidjdkodgddfcaaW.PrintLast Go.Proofs.YtidjdkodgddfcaaW.PrintMore
open Go.Proofs.Ytidjdkodgddfcaa.P
set_option linter.unusedVariables false
set_option linter.unusedSimpArgs false
theorem FnExactBlockOf : ∀ (l0 : (List S101)) (a1 : Int), (l0.length ≤ 9223372036854775807 ∧ ∀ x ∈ l0, wf_Entry x) → (-9223372036854775808 ≤ a1 ∧ a1 ≤ 9223372036854775807) → Ev (fun k => laws_FnExactBlockOf.f k l0 a1) true := by
  intro l every hl _
  unfold laws_FnExactBlockOf.f
  obtain ⟨q, hq, hq1, hq2⟩ := szEntryS_ev l 1048576 hl.2 hl.1 (by omega) (by omega)
  rcases hq2 with rfl | ⟨hq0, hlen, hsm⟩
  · exact Ev.bind hq (Ev.pos (by omega) (Ev.now _))
  · have ht := toEntryS_ev l (by omega)
    have hm : (l.map cv_Entry).length < 2097152 := by rw [List.length_map]; omega
    have he := eqEntryS_ev (l.map cv_Entry) hm
    refine Ev.bind hq (Ev.neg (by omega) (Ev.bind ht (Ev.bind (sBlockOf_ev _ hm every) (Ev.bind ht (Ev.bind (blockOf_ev _ hm every) (Ev.pos rfl ?_))))))
    rw [show ((blkV (l.map cv_Entry) every).2 != (blkV (l.map cv_Entry) every).2) = false from by simp]
    refine Ev.step (fun k => laws_FnExactBlockOf.j0.eq_2 ..) ?_
    exact Ev.neg (by decide) (Ev.bind ht (Ev.bind he (Ev.pos rfl (Ev.now _))))
end Go.Proofs.Ytidjdkodgddfcaa.Pure
end
