/- Proved: the law FnExactBatchText of the given program returns true for every input of its Go types and leaves each argument as it was; no condition. (Part 8 of 9.) -/
import Derived.Test.YtedgdnkbojjbmaaCFnExactBatchText3
import Derived.Test.YtedgdnkbojjbmaaCFnExactBatchText4
import Derived.Test.YtedgdnkbojjbmaaCFnExactBatchText5
import Derived.Test.YtedgdnkbojjbmaaCFnExactBatchText6
import Derived.Lib.EndianBits
section
namespace Go.Proofs.Ytedgdnkbojjbmaa.P
open Go.RowKit Go.Proofs.YtedgdnkbojjbmaaW.PrintWords Go.Proofs.YtedgdnkbojjbmaaW.PrintLast Go.Proofs.YtedgdnkbojjbmaaW.PrintMore
attribute [local go_sem] str_gtr str_leq str_geq max2_int min2_int max_two min_two max_three min_three max_four min_four
set_option linter.unusedVariables false
set_option linter.unusedSimpArgs false
def pvl (n : Nat) : List Int := if n < 128 then [(n : Int)] else ((n % 128 + 128 : Nat) : Int) :: pvl (n / 128)
termination_by n
decreasing_by omega
def pv (n : Nat) : ByteArray := strOfNums (pvl n)
theorem pvl_small {n : Nat} (h : n < 128) : pvl n = [(n : Int)] := by rw [pvl, if_pos h]
theorem pvl_big {n : Nat} (h : ¬ n < 128) : pvl n = ((n % 128 + 128 : Nat) : Int) :: pvl (n / 128) := by rw [pvl, if_neg h]
theorem pvl_len (d : Nat) : ∀ n, n < 128 ^ (d + 1) → 1 ≤ (pvl n).length ∧ (pvl n).length ≤ d + 1 := by
  induction d with
  | zero =>
    intro n h
    rw [pvl_small (by simpa using h)]
    simp
  | succ d ih =>
    intro n h
    by_cases c : n < 128
    · rw [pvl_small c]
      simp
    · rw [pvl_big c, List.length_cons]
      have := ih (n / 128) (Nat.div_lt_of_lt_mul (by rw [Nat.pow_succ, Nat.mul_comm] at h; exact h))
      omega
theorem pv_size {n : Nat} (h : n < 18446744073709551616) : 1 ≤ (pv n).size ∧ (pv n).size ≤ 10 := by
  have e : (pv n).size = (pvl n).length := by unfold pv strOfNums; simp [ByteArray.size]
  rw [e]
  exact pvl_len 9 n (by omega)
theorem or128 : ∀ x : Fin 256, Go.bits .or .u8 ((x.val : Nat) : Int) 128 = ((x.val % 128 + 128 : Nat) : Int) := by decide +kernel
theorem putVar_ev (n : Nat) (h : n < 18446744073709551616) : Ev (fun k => impl_PutVar.f k (n : Int)) (pv n) := by
  have key : ∀ (d n : Nat) (acc : List Int), n < 128 ^ (d + 1) → acc.length + d ≤ 100 → Ev (fun k => impl_PutVar.l0 k (n : Int) acc) (strOfNums (acc ++ pvl n)) := by
    intro d
    induction d with
    | zero =>
      intro n acc hn ha
      have hn' : n < 128 := by simpa using hn
      rw [pvl_small hn']
      refine Ev.step (fun k => rfl) (Ev.neg (by omega) (Ev.pos (by omega) ?_))
      rw [Int.emod_eq_of_lt (by omega) (by omega)]
      exact Ev.now _
    | succ d ih =>
      intro n acc hn ha
      by_cases c : n < 128
      · rw [pvl_small c]
        refine Ev.step (fun k => rfl) (Ev.neg (by omega) (Ev.pos (by omega) ?_))
        rw [Int.emod_eq_of_lt (by omega) (by omega)]
        exact Ev.now _
      · rw [pvl_big c]
        refine Ev.step (fun k => rfl) (Ev.pos (by omega) (Ev.pos (by omega) ?_))
        have e : Go.bits .or .u8 ((n : Int) % 256) 128 = ((n % 128 + 128 : Nat) : Int) := by
          have := or128 ⟨n % 256, by omega⟩
          simp only at this
          rw [show ((n : Int) % 256) = ((n % 256 : Nat) : Int) from by omega, this]
          omega
        rw [e, show ((n : Int) / 128) = ((n / 128 : Nat) : Int) from by omega]
        refine (ih (n / 128) _ (Nat.div_lt_of_lt_mul (by rw [Nat.pow_succ, Nat.mul_comm] at hn; exact hn)) (by rw [List.length_append]; simp; omega)).eqr ?_
        rw [List.append_assoc]
        rfl
  have := key 9 n [] (by omega) (by simp)
  rw [List.nil_append] at this
  exact this
theorem sPutVar_ev (n : Nat) (h : n < 18446744073709551616) : Ev (fun k => spec_PutVar.f k (n : Int)) (pv n) := by
  have key : ∀ (d n : Nat) (acc : List Int), n < 18446744073709551616 → n < 128 ^ (d + 1) → acc.length + d ≤ 100 → Ev (fun k => spec_PutVar.l0 k (n : Int) acc) (strOfNums (acc ++ pvl n)) := by
    intro d
    induction d with
    | zero =>
      intro n acc h hn ha
      have hn' : n < 128 := by simpa using hn
      rw [pvl_small hn']
      refine Ev.step (fun k => rfl) (Ev.neg (by omega) (Ev.pos (by omega) ?_))
      rw [Int.emod_eq_of_lt (by omega) (by omega)]
      exact Ev.now _
    | succ d ih =>
      intro n acc h hn ha
      by_cases c : n < 128
      · rw [pvl_small c]
        refine Ev.step (fun k => rfl) (Ev.neg (by omega) (Ev.pos (by omega) ?_))
        rw [Int.emod_eq_of_lt (by omega) (by omega)]
        exact Ev.now _
      · rw [pvl_big c]
        refine Ev.step (fun k => rfl) (Ev.pos (by omega) (Ev.pos (by omega) ?_))
        have e : (IntKind.u64.wrap ((Int.tmod (n : Int) 128) + 128)) % 256 = ((n % 128 + 128 : Nat) : Int) := by
          rw [Int.tmod_eq_emod_of_nonneg (by omega), uid (by omega) (by omega)]
          omega
        have e2 : IntKind.u64.wrap (Int.tdiv (n : Int) 128) = ((n / 128 : Nat) : Int) := by
          rw [Int.tdiv_eq_ediv_of_nonneg (by omega), uid (by omega) (by omega)]
          omega
        rw [e, e2]
        refine (ih (n / 128) _ (by omega) (Nat.div_lt_of_lt_mul (by rw [Nat.pow_succ, Nat.mul_comm] at hn; exact hn)) (by rw [List.length_append]; simp; omega)).eqr ?_
        rw [List.append_assoc]
        rfl
  have := key 9 n [] h (by omega) (by simp)
  rw [List.nil_append] at this
  exact this
theorem putInt_ev (n : Nat) (h : n < 9223372036854775808) : Ev (fun k => impl_putInt.f k (n : Int)) (pv n) := by
  unfold impl_putInt.f
  rw [uid (by omega) (by omega)]
  exact Ev.bind (putVar_ev n (by omega)) (Ev.now _)
def pt (s : ByteArray) : ByteArray := pv s.size ++ s
theorem putText_ev (t : ByteArray) (h : t.size ≤ 4611686018427387904) : Ev (fun k => impl_PutText.f k t) (pt t) := by
  unfold impl_PutText.f
  rw [uid (by omega) (by omega)]
  have := (pv_size (n := t.size) (by omega)).2
  exact Ev.bind (putVar_ev t.size (by omega)) (Ev.pos (by omega) (Ev.now _))
theorem sPutText_ev (t : ByteArray) (h : t.size ≤ 4611686018427387904) : Ev (fun k => spec_PutText.f k t) (pt t) := by
  unfold spec_PutText.f
  rw [uid (by omega) (by omega)]
  have := (pv_size (n := t.size) (by omega)).2
  exact Ev.bind (sPutVar_ev t.size (by omega)) (Ev.pos (by omega) (Ev.now _))
theorem pt_size (t : ByteArray) (h : t.size ≤ 4611686018427387904) : t.size + 1 ≤ (pt t).size ∧ (pt t).size ≤ t.size + 10 := by
  have := pv_size (n := t.size) (by omega)
  unfold pt
  rw [ByteArray.size_append]
  omega
end Go.Proofs.Ytedgdnkbojjbmaa.P
end

section
namespace Go.Proofs.Ytedgdnkbojjbmaa.Pure
open Go.RowKit Go.Proofs.YtedgdnkbojjbmaaW.PrintWords Go.Proofs.YtedgdnkbojjbmaaW.PrintLast Go.Proofs.YtedgdnkbojjbmaaW.PrintMore
open Go.Proofs.Ytedgdnkbojjbmaa.P
set_option linter.unusedVariables false
set_option linter.unusedSimpArgs false
theorem rdOp (l : List S114) (i : Nat) (h : i < l.length) : rd_T114 l (i : Int) = l[i] := by
  unfold rd_T114
  rw [Int.toNat_natCast, List.getD_eq_getElem?_getD, List.getElem?_eq_getElem h]
  rfl
def entOf (q : Int) (i : Nat) (o : S114) : S139 := ⟨⟨o.f1, wrap64 (q + (i : Int)), o.f0⟩, o.f2⟩
def entsFrom (q : Int) : Nat → List S114 → List S139
  | _, [] => []
  | i, o :: os => entOf q i o :: entsFrom q (i + 1) os
theorem entries_ev (q : Int) (l : List S114) (hl : l.length < 2097152) : Ev (fun k => impl_Batch_entries.f k q l) (entsFrom q 0 l) := by
  have key : ∀ i, i ≤ l.length → ∀ acc : List S139, acc.length = i → Ev (fun k => impl_Batch_entries.l0 k acc l (l.length : Int) (i : Int) q l) (acc ++ entsFrom q i (l.drop i)) := by
    refine downTo l.length ?_ ?_
    · intro acc ha
      rw [List.drop_length]
      refine Ev.step (fun k => impl_Batch_entries.l0.eq_2 ..) ?_
      refine Ev.neg (by omega) ?_
      rw [entsFrom, List.append_nil]
      exact Ev.now _
    · intro i hi ih acc ha
      rw [List.drop_eq_getElem_cons hi]
      refine Ev.step (fun k => impl_Batch_entries.l0.eq_2 ..) ?_
      refine Ev.pos (by omega) (Ev.pos (by omega) (Ev.pos (by omega) (Ev.pos (by omega) ?_)))
      rw [wsucc (by omega), rdOp l i hi]
      refine (ih (acc ++ [entOf q i l[i]]) (by simp [ha])).eqr ?_
      rw [List.append_assoc]
      rfl
  exact key 0 (Nat.zero_le _) [] rfl
def isB (q : Int) (l : List S114) : Prop := (1 ≤ l.length ∧ l.length ≤ 20) ∧ (1 ≤ q ∧ q ≤ 999999999980) ∧ ∀ x ∈ entsFrom q 0 l, isE x.f0.f0 x.f0.f1 x.f0.f2 x.f1
noncomputable instance (q : Int) (l : List S114) : Decidable (isB q l) := Classical.propDecidable _
theorem notEntryOk_p (x : S139) : containsFunc_notEntryOk.p x = !decide (isE x.f0.f0 x.f0.f1 x.f0.f2 x.f1) := by
  unfold containsFunc_notEntryOk.p impl_BatchOk_1.f
  rw [entryOk_ev]
  rfl
theorem any_not {α : Type} (l : List α) (p : α → Prop) [DecidablePred p] : (!l.any fun x => !decide (p x)) = decide (∀ x ∈ l, p x) := by
  induction l with
  | nil => simp
  | cons a l ih =>
    rw [List.any_cons, Bool.not_or, Bool.not_not, ih]
    simp
theorem batchOk_ev (q : Int) (l : List S114) (hl : l.length < 2097152) : Ev (fun k => impl_BatchOk.f k q l) (decide (isB q l)) := by
  have h1 := within_ev (l.length : Int) 1 20
  have h2 := within_ev q 1 999999999980
  unfold impl_BatchOk.f
  refine Ev.bindS h1 ?_
  by_cases c1 : 1 ≤ l.length ∧ l.length ≤ 20
  · refine Ev.pos (decide_eq_true (by omega)) (Ev.bindS h2 ?_)
    by_cases c2 : 1 ≤ q ∧ q ≤ 999999999980
    · refine Ev.pos (decide_eq_true c2) (Ev.bind (entries_ev q l hl) (Ev.bindS rfl ((Ev.now _).eqr ?_)))
      rw [show containsFunc_notEntryOk.p = fun x => !decide (isE x.f0.f0 x.f0.f1 x.f0.f2 x.f1) from funext notEntryOk_p, any_not]
      exact decide_eq_decide.2 ⟨fun h => ⟨c1, c2, h⟩, fun h => h.2.2⟩
    · exact Ev.neg (by simpa using c2) ((Ev.now _).eqr (decide_eq_false fun h => c2 h.2.1).symm)
  · exact Ev.neg (by simp only [decide_eq_true_eq]; omega) ((Ev.now _).eqr (decide_eq_false fun h => c1 h.1).symm)
theorem sBatchOk_ev (q : Int) (l : List S114) (hl : l.length < 2097152) : Ev (fun k => spec_BatchOk.f k q l) (decide (isB q l)) := by
  have h2 := in_ev q 1 999999999980
  have jt : Ev (fun k => spec_BatchOk.j0 k true q l) false := by
    refine Ev.step (fun k => spec_BatchOk.j0.eq_2 ..) ?_
    exact Ev.pos rfl (Ev.now _)
  unfold spec_BatchOk.f
  by_cases c1 : (l.length : Int) < 1
  · exact Ev.pos c1 (jt.eqr (decide_eq_false fun h => by have := h.1; omega).symm)
  · refine Ev.neg c1 ?_
    by_cases c3 : (l.length : Int) > 20
    · exact Ev.pos c3 (jt.eqr (decide_eq_false fun h => by have := h.1; omega).symm)
    · refine Ev.neg c3 (Ev.bindS h2 ?_)
      by_cases c2 : 1 ≤ q ∧ q ≤ 999999999980
      · rw [decide_eq_true c2]
        refine Ev.step (fun k => spec_BatchOk.j0.eq_2 ..) ?_
        refine Ev.neg (by decide) ?_
        have key : ∀ i, i ≤ l.length → Ev (fun k => spec_BatchOk.l0 k (i : Int) q l) (decide (∀ x ∈ entsFrom q i (l.drop i), isE x.f0.f0 x.f0.f1 x.f0.f2 x.f1)) := by
          refine downTo l.length ?_ ?_
          · refine Ev.step (fun k => spec_BatchOk.l0.eq_2 ..) ?_
            rw [List.drop_length]
            exact Ev.neg (by omega) ((Ev.now _).eqr (decide_eq_true (fun x h => by simp [entsFrom] at h)).symm)
          · intro i hi ih
            rw [List.drop_eq_getElem_cons hi]
            refine Ev.step (fun k => spec_BatchOk.l0.eq_2 ..) ?_
            refine Ev.pos (by omega) (Ev.bindS (a := (l[i].f1, wrap64 (q + (i : Int)), l[i].f0, l[i].f2)) ?_ (Ev.bindS (sEntryOk_ev _ _ _ _) ?_))
            · unfold spec_l7Entry.f
              rw [if_pos (by omega), if_pos (by omega), rdOp l i hi]
            · by_cases ce : isE l[i].f1 (wrap64 (q + (i : Int))) l[i].f0 l[i].f2
              · refine Ev.pos (decide_eq_true ce) ?_
                rw [wsucc (by omega)]
                refine ih.eqr (decide_eq_decide.2 ⟨fun h x hx => ?_, fun h x hx => h x (List.mem_cons_of_mem _ hx)⟩)
                rcases List.mem_cons.1 hx with rfl | hx
                · exact ce
                · exact h x hx
              · refine Ev.neg (by simpa using ce) ((Ev.now _).eqr (decide_eq_false fun h => ce ?_).symm)
                exact h (entOf q i l[i]) (List.mem_cons_self ..)
        refine (key 0 (Nat.zero_le _)).eqr (decide_eq_decide.2 ⟨fun h => ⟨by omega, c2, h⟩, fun h => h.2.2⟩)
      · rw [decide_eq_false c2]
        exact jt.eqr (decide_eq_false fun h => c2 h.2.1).symm
def opText (o : S114) : ByteArray := strOfNums [o.f0 % 256] ++ pt o.f1 ++ pt o.f2
def opsText : List S114 → ByteArray
  | [] => ⟨#[]⟩
  | o :: os => opText o ++ opsText os
def batchT (q : Int) (l : List S114) : ByteArray := pv q.toNat ++ pv l.length ++ opsText l
theorem op_small {q : Int} {i : Nat} : ∀ {l : List S114}, (∀ x ∈ entsFrom q i l, isE x.f0.f0 x.f0.f1 x.f0.f2 x.f1) → ∀ o ∈ l, (1 ≤ o.f1.size ∧ o.f1.size ≤ 40) ∧ o.f2.size ≤ 200 ∧ (o.f0 = 0 ∨ o.f0 = 1) := by
  intro l
  induction l generalizing i with
  | nil => intro _ o ho; simp at ho
  | cons a l ih =>
    intro h o ho
    rcases List.mem_cons.1 ho with rfl | ho
    · have := h (entOf q i o) (List.mem_cons_self ..)
      unfold isE isK isU entOf at this
      simp only at this
      refine ⟨this.1.1, this.2.1, by omega⟩
    · exact ih (i := i + 1) (fun x hx => h x (List.mem_cons_of_mem _ hx)) o ho
theorem strOfNums_size' (l : List Int) : (strOfNums l).size = l.length := by
  unfold strOfNums
  simp [ByteArray.size]
theorem opText_size (o : S114) (h1 : o.f1.size ≤ 40) (h2 : o.f2.size ≤ 200) : (opText o).size ≤ 300 := by
  have a := pt_size o.f1 (by omega)
  have b := pt_size o.f2 (by omega)
  unfold opText
  rw [ByteArray.size_append, ByteArray.size_append, strOfNums_size']
  simp only [List.length_cons, List.length_nil]
  omega
theorem byteArray_append_nil (a : ByteArray) : a ++ (⟨#[]⟩ : ByteArray) = a := by
  apply ByteArray.ext
  simp
theorem sText_ev (q : Int) (l : List S114) (hs : ∀ o ∈ l, (1 ≤ o.f1.size ∧ o.f1.size ≤ 40) ∧ o.f2.size ≤ 200 ∧ (o.f0 = 0 ∨ o.f0 = 1)) (hl : l.length ≤ 20) (acc : ByteArray) (ha : acc.size ≤ 100) :
    Ev (fun k => spec_BatchText.l0 k acc 0 q l) (acc ++ opsText l) := by
  have key : ∀ i, i ≤ l.length → ∀ acc : ByteArray, acc.size ≤ 100 + 300 * i → Ev (fun k => spec_BatchText.l0 k acc (i : Int) q l) (acc ++ opsText (l.drop i)) := by
    refine downTo l.length ?_ ?_
    · intro acc _
      refine Ev.step (fun k => spec_BatchText.l0.eq_2 ..) ?_
      refine Ev.neg (by omega) ((Ev.now _).eqr ?_)
      rw [List.drop_length, opsText, byteArray_append_nil]
    · intro i hi ih acc ha
      obtain ⟨m1, m2, m3⟩ := hs l[i] (List.getElem_mem hi)
      have e1 := sPutText_ev l[i].f1 (by omega)
      have e2 := sPutText_ev l[i].f2 (by omega)
      have z1 := pt_size l[i].f1 (by omega)
      have z2 := pt_size l[i].f2 (by omega)
      have z0 : (strOfNums [l[i].f0 % 256]).size = 1 := strOfNums_size' _
      have zo := opText_size l[i] m1.2 m2
      rw [List.drop_eq_getElem_cons hi]
      refine Ev.step (fun k => spec_BatchText.l0.eq_2 ..) ?_
      rw [rdOp l i hi]
      refine Ev.pos (by omega) (Ev.pos (by omega) (Ev.bindS rfl (Ev.pos (by omega) (Ev.bind e1 (Ev.pos (by omega) (Ev.bind e2 (Ev.pos (by omega) ?_)))))))
      rw [wsucc (by omega)]
      have e : acc ++ strOfNums [l[i].f0 % 256] ++ pt l[i].f1 ++ pt l[i].f2 = acc ++ opText l[i] := by
        unfold opText
        simp only [ByteArray.append_assoc]
      rw [e]
      refine (ih (acc ++ opText l[i]) (by rw [ByteArray.size_append]; omega)).eqr ?_
      rw [ByteArray.append_assoc]
      rfl
  exact key 0 (Nat.zero_le _) acc (by omega)
theorem text_ev (l : List S114) (hs : ∀ o ∈ l, (1 ≤ o.f1.size ∧ o.f1.size ≤ 40) ∧ o.f2.size ≤ 200 ∧ (o.f0 = 0 ∨ o.f0 = 1)) (hl : l.length ≤ 20) (acc : ByteArray) (ha : acc.size ≤ 100) :
    Ev (fun k => impl_Batch_text.l0 k acc l (l.length : Int) 0) (acc ++ opsText l) := by
  have key : ∀ i, i ≤ l.length → ∀ acc : ByteArray, acc.size ≤ 100 + 300 * i → Ev (fun k => impl_Batch_text.l0 k acc l (l.length : Int) (i : Int)) (acc ++ opsText (l.drop i)) := by
    refine downTo l.length ?_ ?_
    · intro acc _
      refine Ev.step (fun k => impl_Batch_text.l0.eq_2 ..) ?_
      refine Ev.neg (by omega) ((Ev.now _).eqr ?_)
      rw [List.drop_length, opsText, byteArray_append_nil]
    · intro i hi ih acc ha
      obtain ⟨m1, m2, m3⟩ := hs l[i] (List.getElem_mem hi)
      have e1 := putText_ev l[i].f1 (by omega)
      have e2 := putText_ev l[i].f2 (by omega)
      have z1 := pt_size l[i].f1 (by omega)
      have z2 := pt_size l[i].f2 (by omega)
      have z0 : (strOfNums [l[i].f0 % 256]).size = 1 := strOfNums_size' _
      have zo := opText_size l[i] m1.2 m2
      rw [List.drop_eq_getElem_cons hi]
      refine Ev.step (fun k => impl_Batch_text.l0.eq_2 ..) ?_
      rw [rdOp l i hi]
      refine Ev.pos (by omega) (Ev.pos (by omega) (Ev.pos (by omega) (Ev.bindS rfl (Ev.bind e1 (Ev.pos (by omega) (Ev.bind e2 (Ev.pos (by omega) (Ev.pos (by omega) ?_))))))))
      rw [wsucc (by omega)]
      refine (ih (acc ++ opText l[i]) (by rw [ByteArray.size_append]; omega)).eqr ?_
      rw [ByteArray.append_assoc]
      rfl
  exact key 0 (Nat.zero_le _) acc (by omega)
theorem isB_ops {q : Int} {l : List S114} (h : isB q l) : ∀ o ∈ l, (1 ≤ o.f1.size ∧ o.f1.size ≤ 40) ∧ o.f2.size ≤ 200 ∧ (o.f0 = 0 ∨ o.f0 = 1) := op_small h.2.2
theorem batchText_ev (q : Int) (l : List S114) (hl : l.length < 2097152) : Ev (fun k => impl_BatchText.f k q l) (if isB q l then batchT q l else ⟨#[]⟩) := by
  unfold impl_BatchText.f
  refine Ev.bind (batchOk_ev q l hl) ?_
  by_cases c : isB q l
  · refine Ev.pos (decide_eq_true c) ?_
    rw [if_pos c]
    have hq := c.2.1
    have p1 := putInt_ev q.toNat (by omega)
    have p2 := putInt_ev l.length (by omega)
    rw [show ((q.toNat : Nat) : Int) = q from by omega] at p1
    have s1 := pv_size (n := q.toNat) (by omega)
    have s2 := pv_size (n := l.length) (by omega)
    refine Ev.bind (a := batchT q l) ?_ (Ev.now _)
    unfold impl_Batch_text.f
    exact Ev.bind p1 (Ev.bind p2 (Ev.pos (by omega) (text_ev l (isB_ops c) c.1.2 _ (by rw [ByteArray.size_append]; omega))))
  · refine Ev.neg (by simpa using c) ?_
    rw [if_neg c]
    exact Ev.now _
theorem sBatchText_ev (q : Int) (l : List S114) (hl : l.length < 2097152) : Ev (fun k => spec_BatchText.f k q l) (if isB q l then batchT q l else ⟨#[]⟩) := by
  unfold spec_BatchText.f
  refine Ev.bind (sBatchOk_ev q l hl) ?_
  by_cases c : isB q l
  · refine Ev.pos (decide_eq_true c) ?_
    rw [if_pos c]
    have hq := c.2.1
    have p1 := sPutVar_ev q.toNat (by omega)
    have p2 := sPutVar_ev l.length (by omega)
    rw [show ((q.toNat : Nat) : Int) = q from by omega] at p1
    have s1 := pv_size (n := q.toNat) (by omega)
    have s2 := pv_size (n := l.length) (by omega)
    rw [uid (by omega) (by omega), uid (by omega) (by omega)]
    exact Ev.bind p1 (Ev.bind p2 (Ev.pos (by omega) (sText_ev q l (isB_ops c) c.1.2 _ (by rw [ByteArray.size_append]; omega))))
  · refine Ev.neg (by simpa using c) ?_
    rw [if_neg c]
    exact Ev.now _
end Go.Proofs.Ytedgdnkbojjbmaa.Pure
end

section
namespace Go.Proofs.Ytedgdnkbojjbmaa.Pure
open Go.RowKit Go.Proofs.YtedgdnkbojjbmaaW.PrintWords Go.Proofs.YtedgdnkbojjbmaaW.PrintLast Go.Proofs.YtedgdnkbojjbmaaW.PrintMore
open Go.Proofs.Ytedgdnkbojjbmaa.P
set_option linter.unusedVariables false
set_option linter.unusedSimpArgs false
theorem FnExactBatchText : ∀ (a0_0 : Int) (l0_1 : (List S134)), (-9223372036854775808 ≤ a0_0 ∧ a0_0 ≤ 9223372036854775807) → (l0_1.length ≤ 9223372036854775807 ∧ ∀ x ∈ l0_1, wf_Op x) → Ev (fun k => laws_FnExactBatchText.f k a0_0 l0_1) true := by
  intro m l _ hl
  unfold laws_FnExactBatchText.f
  obtain ⟨q, hq, hq1, hq2⟩ := szOpS_ev l 1048576 hl.2 hl.1 (by omega) (by omega)
  rcases hq2 with rfl | ⟨hq0, hlen, hsm⟩
  · have hz : Ev (fun k => laws_szBatch.f k m l 1048576) (-1) := by
      unfold laws_szBatch.f
      exact Ev.bind hq (Ev.pos (by omega) (Ev.now _))
    exact Ev.bind hz (Ev.pos (by omega) (Ev.now _))
  · have hz : Ev (fun k => laws_szBatch.f k m l 1048576) q := by
      unfold laws_szBatch.f
      exact Ev.bind hq (Ev.neg (by omega) (Ev.now _))
    have ht : Ev (fun k => laws_toBatch.f k m l) (m, l.map cv_Op) := by
      unfold laws_toBatch.f
      exact Ev.bind (toOpS_ev l (by omega)) (Ev.now _)
    have hm : (l.map cv_Op).length < 2097152 := by rw [List.length_map]; omega
    have he : Ev (fun k => laws_eqBatch.f k m (l.map cv_Op) m (l.map cv_Op)) true := by
      unfold laws_eqBatch.f
      exact Ev.pos rfl (Ev.bind (eqOpS_ev _ hm) (Ev.pos rfl (Ev.now _)))
    exact Ev.bind hz (Ev.neg (by omega) (Ev.bind ht (Ev.bind (sBatchText_ev m _ hm) (Ev.bind ht (Ev.bind (batchText_ev m _ hm) (Ev.pos rfl (Ev.bind ht (Ev.bind he (Ev.pos rfl (Ev.now _))))))))))
end Go.Proofs.Ytedgdnkbojjbmaa.Pure
end
