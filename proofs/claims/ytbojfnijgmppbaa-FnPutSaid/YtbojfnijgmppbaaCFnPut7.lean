/- Proved: the law FnPut of the given program returns true for every input of its Go types and leaves each argument as it was; no condition. (Part 8 of 15.) -/
import Derived.Test.YtbojfnijgmppbaaCFnPut4
import Derived.Shelf.Spec.SlicesInsert
import Derived.Lib.AppendZerosOnto
section
namespace Go.Proofs.Ytbojfnijgmppbaa.P
open Go.RowKit Go.Proofs.YtbojfnijgmppbaaW.PrintWords Go.Proofs.YtbojfnijgmppbaaW.PrintLast Go.Proofs.YtbojfnijgmppbaaW.PrintMore
attribute [local go_sem] str_gtr str_leq str_geq max2_int min2_int max_two min_two max_three min_three max_four min_four
set_option linter.unusedVariables false
set_option linter.unusedSimpArgs false
open Go.Shelf Go.Lib
theorem run_copyK {P : Program} (k : Nat) (w : World) (dT sT ty elem : TypeId) (b o dLen dCap : Nat) (a : Addr) (sLen sCap : Nat) (cs : List Value)
    (hu : P.underlying dT = some (.slice elem)) (hs : (P.info? elem).map (·.size) = some k) (hn : cs.length = Nat.min sLen dLen * k)
    (hsrc : ∀ j v, cs[j]? = some v → w.cell? (a.add j) = some v) (hc : ∀ j, j < cs.length → (w.cell? ⟨b, o + j, none⟩).isSome = true) (hf : ∀ j, j < cs.length → w.frozen? ⟨b, o + j, none⟩ = false) (h1 : ∀ v ∈ cs, v.oneCell' = true) :
    (Builtin.copy_ #[dT, sT] ty #[.slice (some ⟨b, o, none⟩) dLen dCap, .slice (some a) sLen sCap]).run P w = .ok (goInt (Nat.min sLen dLen)) (w.setCells b o cs) := by
  have hl := run_loadCells_list (P := P) w a cs hsrc
  have hst := run_storeCells_cells (P := P) b o cs 0 w (by simpa using hc) (by simpa using hf) h1
  cases hq : P.info? elem with
  | none => simp [hq] at hs
  | some i =>
    have hi : i.size = k := by simpa [hq] using hs
    simp [Builtin.copy_, run_underlying hu, Builtin.lenOf, Builtin.firstCells, sizeOf, typeInfo, hq, hi, ← hn, hl, hst]
theorem insTake (d : Nat) {i n m : Nat} {cur inner vs : List Value} (hin : inner.length = n * d) (hi : i ≤ n) (hv : vs.length = m * d) (hc : (n + m) * d ≤ cur.length) (ht : cur.take (i * d) = inner.take (i * d)) (c1 c2 : List Value)
    (h1 : c1 = cur.take ((i + m) * d) ++ inner.drop (i * d) ++ cur.drop ((i + m) * d + (inner.drop (i * d)).length)) (h2 : c2 = c1.take (i * d) ++ vs ++ c1.drop (i * d + vs.length)) : c2.take ((n + m) * d) = inner.take (i * d) ++ (vs ++ inner.drop (i * d)) := by
  have e1 : (i + m) * d = i * d + m * d := Nat.add_mul _ _ _
  have e2 : (n + m) * d = n * d + m * d := Nat.add_mul _ _ _
  have e3 : i * d ≤ n * d := Nat.mul_le_mul_right _ hi
  have l1 : (cur.take ((i + m) * d)).length = i * d + m * d := by rw [List.length_take]; omega
  have l2 : (inner.drop (i * d)).length = n * d - i * d := by rw [List.length_drop, hin]
  have a1 : c1.take (i * d) = inner.take (i * d) := by
    rw [h1, List.append_assoc, List.take_append_of_le_length (by rw [l1]; omega), List.take_take, Nat.min_eq_left (by omega), ht]
  have a2 : c1.drop (i * d + vs.length) = inner.drop (i * d) ++ cur.drop ((i + m) * d + (inner.drop (i * d)).length) := by
    rw [h1, List.append_assoc, hv, ← l1, List.drop_left']
    rfl
  have l3 : (inner.take (i * d)).length = i * d := by rw [List.length_take]; omega
  rw [h2, a1, a2, List.append_assoc, ← List.append_assoc vs, ← List.append_assoc, List.take_left']
  rw [List.length_append, List.length_append, l3, hv, l2]
  omega
section
variable {α : Type}
theorem R_shift_in (d : Kd α) {e : Nat} {W : World} {base : Nat} {ok : Nat → Prop} {g n c : Nat} {xs : List α} (hM : ∀ {W W' : World} {b : Nat} {ok ok' : Nat → Prop} {p : α} {q : List Value}, d.M W b ok p q → d.M W' b ok' p q) (HO : d.R e W base ok (.slice (some ⟨g, 0, none⟩) n c) xs) (i : Nat) (hi : i ≤ n) (hc : n + 1 ≤ c) (x : α) (vs : List Value) (hx : d.M W base ok x vs) (hl : vs.length = 1 * d.sz) :
    ∃ inner : List Value, inner.length = n * d.sz ∧ (∀ j u, inner[j]? = some u → W.cell? ⟨g, j, none⟩ = some u) ∧ (∀ u ∈ inner, u.oneCell' = true) ∧ (∀ j, j < c * d.sz → (W.cell? ⟨g, j, none⟩).isSome = true) ∧ (∀ j, W.frozen? ⟨g, j, none⟩ = false) ∧ W.shape? g = some (e, c * d.sz) ∧ c ≤ 9223372036854775807 ∧
      d.R e ((W.drew.setCells g ((i + 1) * d.sz) (inner.drop (i * d.sz))).setCells g (i * d.sz) vs) base ok (.slice (some ⟨g, 0, none⟩) (n + 1) c) (xs.take i ++ x :: xs.drop i) ∧ W.grownBy ((W.drew.setCells g ((i + 1) * d.sz) (inner.drop (i * d.sz))).setCells g (i * d.sz) vs) (some g) := by
  obtain ⟨hn, hnc, _⟩ := Kd.R_reads' HO
  obtain ⟨hok, inner, hown, hr⟩ := HO
  have hin : inner.length = n * d.sz := by rw [hr.1, hn]
  rcases hown.2 with ⟨hv, _⟩ | ⟨g', cap', cur, hv, hb, hh, _, hcm, hcs, htake⟩
  · cases hv
  injection hv with ha _ hc'
  injection ha with ha
  injection ha with hg
  subst hg; subst hc'
  rw [← hn] at htake
  have e1 : (i + 1) * d.sz = i * d.sz + 1 * d.sz := Nat.add_mul _ _ _
  have e2 : (n + 1) * d.sz = n * d.sz + 1 * d.sz := Nat.add_mul _ _ _
  have e3 : i * d.sz ≤ n * d.sz := Nat.mul_le_mul_right _ hi
  have e4 : (n + 1) * d.sz ≤ c * d.sz := Nat.mul_le_mul_right _ hc
  have hcl : cur.toList.length = c * d.sz := by rw [Array.length_toList, hcs]
  have hcur : ∀ q, q < n * d.sz → cur.toList[q]? = inner[q]? := by
    intro q hq
    rw [← htake, List.getElem?_take, if_pos hq]
  have hone : ∀ u ∈ inner, u.oneCell' = true := by
    intro u hu
    obtain ⟨q, hq, rfl⟩ := List.mem_iff_getElem.1 hu
    have hs0 : 0 < d.sz := by
      rcases Nat.eq_zero_or_pos d.sz with h | h
      · rw [h, Nat.mul_zero] at hin; omega
      · exact h
    have hql : q / d.sz < xs.length := by
      rw [Nat.div_lt_iff_lt_mul hs0, ← hr.1]
      exact hq
    refine d.K_one (d.K_of_M (hr.2 (q / d.sz) _ (List.getElem?_eq_getElem hql))) _ ?_
    rw [List.mem_iff_getElem?]
    refine ⟨q % d.sz, ?_⟩
    rw [List.getElem?_take, if_pos (Nat.mod_lt _ hs0), List.getElem?_drop, Nat.mul_comm, Nat.div_add_mod, List.getElem?_eq_getElem hq]
  have hdl : (inner.drop (i * d.sz)).length = n * d.sz - i * d.sz := by rw [List.length_drop, hin]
  obtain ⟨c1, a1, a2, a3⟩ := setCells_row (inner.drop (i * d.sz)) ((i + 1) * d.sz) W.drew cur hh (by rw [hdl, hcs]; omega)
  obtain ⟨c2, b1, b2, b3⟩ := setCells_row vs (i * d.sz) _ c1 a1 (by rw [hl, a2, hcs]; omega)
  have htk := insTake d.sz hin hi hl (by rw [hcl]; exact e4) (by rw [← htake, List.take_take, Nat.min_eq_left e3]) c1.toList c2.toList a3 b3
  obtain ⟨s1, s2, s3, s4⟩ := setCells_same g (inner.drop (i * d.sz)) ((i + 1) * d.sz) W.drew
  obtain ⟨t1, t2, t3, t4⟩ := setCells_same g vs (i * d.sz) (W.drew.setCells g ((i + 1) * d.sz) (inner.drop (i * d.sz)))
  have hxl : (xs.take i ++ x :: xs.drop i).length = n + 1 := by rw [List.length_append, List.length_take, List.length_cons, List.length_drop]; omega
  refine ⟨inner, hin, ?_, hone, ?_, fun j => blk_frozen hh j, ?_, hcm, ⟨hok, inner.take (i * d.sz) ++ (vs ++ inner.drop (i * d.sz)), ⟨?_, .inr ⟨g, c, c2, by rw [hxl], hb, b1, by rw [hxl]; omega, hcm, by rw [b2, a2, hcs], by rw [hxl, htk]⟩⟩, ?_⟩, ⟨t1.trans s1, t2.trans s2, t3.trans s3, by rw [t4, s4]; exact Nat.le_refl _, fun k _ hk => (setCells_far _ _ k (fun he => hk (by rw [he]))).trans (setCells_far _ _ k (fun he => hk (by rw [he])))⟩⟩
  · intro j u hu
    have hj := (List.getElem?_eq_some_iff.1 hu).1
    rw [cell_of_row W g _ cur e (0, 0) hh, ← Array.getElem?_toList, hcur j (by omega), hu]
  · intro j hj
    rw [cell_of_row W g _ cur e (0, 0) hh, Array.getElem?_eq_getElem (by omega)]
    rfl
  · simp [World.shape?, hh, hcs]
  · rw [List.length_append, List.length_append, List.length_take, hdl, hl, hxl, hin]
    omega
  · have h0 := Kd.reps_take hr (m := i) (by omega)
    have h1 := Kd.reps_drop hr (m := i)
    have h2 : Reps (d.M W base ok) d.sz [x] vs := by
      refine ⟨by rw [hl]; rfl, fun j p hj => ?_⟩
      cases j with
      | zero =>
        simp at hj
        subst hj
        rw [Nat.zero_mul, List.drop_zero, List.take_of_length_le (by omega)]
        exact hx
      | succ j => simp at hj
    have h3 := Kd.reps_append (Kd.reps_append (h0.imp_ (fun _ _ h => hM (W' := (W.drew.setCells g ((i + 1) * d.sz) (inner.drop (i * d.sz))).setCells g (i * d.sz) vs) (ok' := fun k => ok k ∧ some k ≠ (Value.slice (some ⟨g, 0, none⟩) (xs.take i ++ x :: xs.drop i).length c).ownBlock) h)) (h2.imp_ (fun _ _ h => hM h))) (h1.imp_ (fun _ _ h => hM h))
    rw [List.append_assoc, List.append_assoc] at h3
    exact h3
theorem R_grow_in (d : Kd α) {e : Nat} {W W1 : World} {base : Nat} {g n c G N : Nat} {xs : List α} (hM : ∀ {W W' : World} {b : Nat} {ok ok' : Nat → Prop} {p : α} {q : List Value}, d.M W b ok p q → d.M W' b ok' p q) (HO : d.R e W base (fun _ => True) (.slice (some ⟨g, 0, none⟩) n c) xs) (inner : List Value) (hin : inner.length = n * d.sz) (hcell : ∀ j u, inner[j]? = some u → W.cell? ⟨g, j, none⟩ = some u) (i : Nat) (hi : i ≤ n) (hG : n + 1 ≤ G) (hGm : G ≤ maxLen) (x : α) (vs : List Value) (hx : d.M W base (fun _ => True) x vs) (hl : vs.length = 1 * d.sz)
    (ROW : Array Value) (hsz : ROW.size = G * d.sz) (htk : ROW.toList.take (i * d.sz) = inner.take (i * d.sz)) (hb : base ≤ N) (hh : W1.heap[N]? = some (.cells ROW e (0, 0))) :
    d.R e ((W1.setCells N (i * d.sz) vs).drew.setCells N ((i + 1) * d.sz) (inner.drop (i * d.sz))) base (fun _ => True) (.slice (some ⟨N, 0, none⟩) (n + 1) G) (xs.take i ++ x :: xs.drop i) := by
  obtain ⟨hn, hnc, _⟩ := Kd.R_reads' HO
  obtain ⟨_, inner', hown, hr⟩ := HO
  rcases hown.2 with ⟨hv, _⟩ | ⟨g', cap', cur, hv, hb', hh', _, hcm, hcs, htake⟩
  · cases hv
  injection hv with ha _ hc'
  injection ha with ha
  injection ha with hg
  subst hg; subst hc'
  have hin' : inner'.length = n * d.sz := by rw [hr.1, hn]
  have hii : inner' = inner := by
    apply List.ext_getElem?
    intro q
    by_cases hq : q < n * d.sz
    · have h1 := hcell q _ (List.getElem?_eq_getElem (by omega))
      rw [cell_of_row W g _ cur e (0, 0) hh', ← Array.getElem?_toList] at h1
      rw [← htake, List.getElem?_take, if_pos (by rw [← hn]; exact hq), h1, List.getElem?_eq_getElem]
    · rw [List.getElem?_eq_none (by omega), List.getElem?_eq_none (by omega)]
  subst hii
  have e1 : (i + 1) * d.sz = i * d.sz + 1 * d.sz := Nat.add_mul _ _ _
  have e2 : (n + 1) * d.sz = n * d.sz + 1 * d.sz := Nat.add_mul _ _ _
  have e3 : i * d.sz ≤ n * d.sz := Nat.mul_le_mul_right _ hi
  have e4 : (n + 1) * d.sz ≤ G * d.sz := Nat.mul_le_mul_right _ hG
  have hdl : (inner'.drop (i * d.sz)).length = n * d.sz - i * d.sz := by rw [List.length_drop, hin]
  obtain ⟨c1, a1, a2, a3⟩ := setCells_row vs (i * d.sz) W1 ROW hh (by rw [hl, hsz]; omega)
  obtain ⟨c2, b1, b2, b3⟩ := setCells_row (inner'.drop (i * d.sz)) ((i + 1) * d.sz) ((W1.setCells N (i * d.sz) vs).drew) c1 a1 (by rw [hdl, a2, hsz]; omega)
  have hxl : (xs.take i ++ x :: xs.drop i).length = n + 1 := by rw [List.length_append, List.length_take, List.length_cons, List.length_drop]; omega
  have l3 : (inner'.take (i * d.sz)).length = i * d.sz := by rw [List.length_take]; omega
  have htk2 : c2.toList.take ((n + 1) * d.sz) = inner'.take (i * d.sz) ++ (vs ++ inner'.drop (i * d.sz)) := by
    have h1 : c1.toList.take ((i + 1) * d.sz) = inner'.take (i * d.sz) ++ vs := by
      rw [a3, htk]
      exact List.take_left' (by rw [List.length_append, l3, hl]; omega)
    rw [b3, h1, List.append_assoc, List.append_assoc, ← List.append_assoc vs, ← List.append_assoc]
    exact List.take_left' (by rw [List.length_append, List.length_append, l3, hl, hdl]; omega)
  refine ⟨fun _ _ => trivial, inner'.take (i * d.sz) ++ (vs ++ inner'.drop (i * d.sz)), ⟨?_, .inr ⟨N, G, c2, by rw [hxl], hb, b1, by rw [hxl]; omega, hGm, by rw [b2, a2, hsz], by rw [hxl, htk2]⟩⟩, ?_⟩
  · rw [List.length_append, List.length_append, List.length_take, hdl, hl, hxl, hin]
    omega
  · have h0 := Kd.reps_take hr (m := i) (by omega)
    have h1 := Kd.reps_drop hr (m := i)
    have h2 : Reps (d.M W base (fun _ => True)) d.sz [x] vs := by
      refine ⟨by rw [hl]; rfl, fun j p hj => ?_⟩
      cases j with
      | zero =>
        simp at hj
        subst hj
        rw [Nat.zero_mul, List.drop_zero, List.take_of_length_le (by omega)]
        exact hx
      | succ j => simp at hj
    have h3 := Kd.reps_append (Kd.reps_append (h0.imp_ (fun _ _ h => hM (W' := (W1.setCells N (i * d.sz) vs).drew.setCells N ((i + 1) * d.sz) (inner'.drop (i * d.sz))) (ok' := fun k => True ∧ some k ≠ (Value.slice (some ⟨N, 0, none⟩) (xs.take i ++ x :: xs.drop i).length G).ownBlock) h)) (h2.imp_ (fun _ _ h => hM h))) (h1.imp_ (fun _ _ h => hM h))
    rw [List.append_assoc, List.append_assoc] at h3
    exact h3
theorem C_one {d : Kd α} {w : World} {vb : Nat} {x : α} {vs : List Value} (hl : vs.length = 1 * d.sz) (hK : d.K w x vs) (hc : ∀ j u, vs[j]? = some u → w.cell? ⟨vb, j, none⟩ = some u) : d.C w (some ⟨vb, 0, none⟩) [x].length [x] := by
  refine ⟨rfl, by simp, fun _ => ⟨_, rfl, fun j p hj => ?_⟩⟩
  cases j with
  | zero =>
    simp at hj
    subst hj
    exact ⟨vs, by omega, hK, fun i u hu => by rw [Nat.zero_mul, Nat.zero_add, add_at, Nat.zero_add]; exact hc i u hu⟩
  | succ j => simp at hj
end
set_option maxHeartbeats 4000000 in
set_option maxRecDepth 100000 in
theorem insShift_Entry (g n c i vb m vc : Nat) (cs vs : List Value) (w : World) (hi : i < n) (hm : 0 < m) (hroom : n + m ≤ c) (hc63 : c ≤ 9223372036854775807) (hvb : vb ≠ g)
    (hcl : cs.length = n * 4) (hvl : vs.length = m * 4) (hcs : ∀ j v, cs[j]? = some v → w.cell? ⟨g, j, none⟩ = some v) (hsp : ∀ j, j < c * 4 → (w.cell? ⟨g, j, none⟩).isSome = true) (hfz : ∀ j, w.frozen? ⟨g, j, none⟩ = false)
    (hvs : ∀ j v, vs[j]? = some v → w.cell? ⟨vb, j, none⟩ = some v) (h1c : ∀ v ∈ cs, v.oneCell' = true) (h1v : ∀ v ∈ vs, v.oneCell' = true)
    (tA tB : TypeId) (kA kB : Nat) (hsa : w.shape? vb = some (tA, kA)) (hsb : w.shape? g = some (tB, kB)) (hkB : kB ≠ 0) (hfa : w.frozen? ⟨vb, 0, none⟩ = false) (hfe : w.frozen? ⟨vb, kA, none⟩ = false) :
    Calls Try.prog 82 #[.slice (some ⟨g, 0, none⟩) n c, .int .i64 i, .slice (some ⟨vb, 0, none⟩) m vc] w fun e w' =>
      e = .returned (.slice (some ⟨g, 0, none⟩) (n + m) c) ∧ w' = (w.drew.setCells g ((i + m) * 4) (cs.drop (i * 4))).setCells g (i * 4) vs := by
  have hu := Try.underlying32
  have mixed : Try.prog.follows .mixedOrders = true := by kernel_rfl
  have hz1 : ¬ ((m : Int) = 0) := by omega
  have hz2 : ¬ ((i : Int) = (n : Int)) := by omega
  have hsz : (Try.prog.info? 48).map (·.size) = some 4 := by kernel_rfl
  have hov : ∀ lb cb, (callFunc 104 #[.slice (some ⟨vb, 0, none⟩) m vc, .slice (some ⟨g, (i + m) * 4, none⟩) lb cb]).run Try.prog w = .ok (.value (.bool false)) w := fun lb cb => by
    rw [run_callFunc_extern Try.func104 (by kernel_rfl) (by kernel_rfl) (by kernel_rfl) (e := Extern.SlicesOverlaps.overlaps #[32, 32] #[4]) (by kernel_rfl),
      Lib.run_overlaps_apart w 32 4 48 hu 4 (fun w => by kernel_rfl) ⟨vb, 0, none⟩ ⟨g, (i + m) * 4, none⟩ m vc lb cb hvb tA tB kA kB hsa hsb hkB hfa hfe]
    rfl
  have hdl : (cs.drop (i * 4)).length = (n - i) * 4 := by rw [List.length_drop, hcl]; omega
  have hw1 : IntKind.i64.wrap ((i : Int) + (m : Int)) = (i : Int) + (m : Int) := by rw [IntKind.wrap_i64]; omega
  have hb1 : (0 : Int) ≤ (i : Int) + (m : Int) := by omega
  have hin : i ≤ n := by omega
  have htn : ((i : Int) + (m : Int)).toNat = i + m := by omega
  have hb2 : ¬ (c = i + m) := by omega
  have hb3 : (i : Int) ≤ (n : Int) + (m : Int) := by omega
  have hb4 : ¬ (c = i) := by omega
  have hcp1 : ∀ ty dc sc, (Builtin.copy_ #[32, 32] ty #[.slice (some ⟨g, (i + m) * 4, none⟩) (n + m - (i + m)) dc, .slice (some ⟨g, i * 4, none⟩) (n + m - i) sc]).run Try.prog w.drew = .ok (goInt ((n - i : Nat) : Int)) (w.drew.setCells g ((i + m) * 4) (cs.drop (i * 4))) := fun ty dc sc => by
    have h := run_copyK (P := Try.prog) 4 w.drew 32 32 ty 48 g ((i + m) * 4) (n + m - (i + m)) dc ⟨g, i * 4, none⟩ (n + m - i) sc (cs.drop (i * 4)) hu hsz (by rw [hdl, show Nat.min (n + m - i) (n + m - (i + m)) = n - i from by simp only [Nat.min_def]; split <;> omega])
      (fun j v hj => by rw [Addr.add_lit]; exact hcs (i * 4 + j) v (by rwa [List.getElem?_drop] at hj))
      (fun j hj => hsp _ (by rw [hdl] at hj; omega)) (fun j hj => hfz _) (fun v hv => h1c v (List.mem_of_mem_drop hv))
    rwa [show Nat.min (n + m - i) (n + m - (i + m)) = n - i from by simp only [Nat.min_def]; split <;> omega] at h
  obtain ⟨W1, hW1⟩ : ∃ W1, W1 = w.drew.setCells g ((i + m) * 4) (cs.drop (i * 4)) := ⟨_, rfl⟩
  have hsp1 : ∀ j, j < c * 4 → (W1.cell? ⟨g, j, none⟩).isSome = true := fun j hj => by
    rw [hW1]
    exact isSome_setCells g (cs.drop (i * 4)) ((i + m) * 4) w.drew (fun q hq => hsp _ (by rw [hdl] at hq; omega)) _ (hsp j hj)
  have hcp2 : ∀ (W : World), (∀ x, W.cell? x = W1.cell? x) → (∀ x, W.frozen? x = W1.frozen? x) → ∀ ty dc, (Builtin.copy_ #[32, 32] ty #[.slice (some ⟨g, i * 4, none⟩) (n + m - i) dc, .slice (some ⟨vb, 0, none⟩) m vc]).run Try.prog W = .ok (goInt m) (W.setCells g (i * 4) vs) := fun W hWc hWf ty dc => by
    have h := run_copyK (P := Try.prog) 4 W 32 32 ty 48 g (i * 4) (n + m - i) dc ⟨vb, 0, none⟩ m vc vs hu hsz (by rw [hvl, show Nat.min m (n + m - i) = m from by simp only [Nat.min_def]; split <;> omega])
      (fun j v hj => by
        rw [Addr.add_lit, Nat.zero_add, hWc, hW1, World.cell?_setCells_out g _ _ _ _ (fun h _ => absurd h hvb)]
        exact hvs j v hj)
      (fun j hj => by rw [hWc]; exact hsp1 _ (by rw [hvl] at hj; omega)) (fun j hj => by rw [hWf, hW1, World.frozen?_setCells]; exact hfz _) h1v
    rwa [show Nat.min m (n + m - i) = m from by simp only [Nat.min_def]; split <;> omega] at h
  rw [← hW1] at hcp1
  go_enter Try.func82, Try.ntmps82
  go_wp2_with (simp only [hov])
  go_region_law_o (refine step_copy_runI rfl _ _ 32 32 rfl _ _ (by simp [Act.eval, Act.put]) (by simp [Act.eval, Act.put]) (hcp1 _ _ _) ?_)
  go_wp2_with (at_builtin; refine wpList_copy_runI _ rfl _ _ 32 32 rfl _ _ rfl rfl (hcp2 _ (fun _ => rfl) (fun _ => rfl) _ _) ?_)
  go_ret
  first | exact ⟨rfl, rfl⟩ | exact ⟨rfl, by rw [hW1]⟩
set_option maxHeartbeats 4000000 in
set_option maxRecDepth 100000 in
theorem insGrow_Entry (g n c i vb m vc : Nat) (cs vs : List Value) (w : World) (hi : i < n) (hm : 0 < m) (hnc : n ≤ c) (hroom : c < n + m) (hbig : (n + m) * 48 ≤ 140737488355328)
    (hcl : cs.length = n * 4) (hvl : vs.length = m * 4) (hgw : g < w.heap.size) (hvw : vb < w.heap.size) (hcs : ∀ j v, cs[j]? = some v → w.cell? ⟨g, j, none⟩ = some v)
    (hvs : ∀ j v, vs[j]? = some v → w.cell? ⟨vb, j, none⟩ = some v) (h1c : ∀ v ∈ cs, v.oneCell' = true) (h1v : ∀ v ∈ vs, v.oneCell' = true) :
    Calls Try.prog 82 #[.slice (some ⟨g, 0, none⟩) n c, .int .i64 i, .slice (some ⟨vb, 0, none⟩) m vc] w fun e w' =>
      e = .returned (.slice (some ⟨w.heap.size, 0, none⟩) (n + m) (grownCap w (n + m) c 48)) ∧
      w' = (((w.alloc (.cells ((cs.take (i * 4)).toArray ++ Builtin.zeroCells (.agg #[.string ⟨#[]⟩, .int .i64 0, .int .i64 0, .string ⟨#[]⟩] : Value).cells (n + m - i) ++ Builtin.zeroCells (.agg #[.string ⟨#[]⟩, .int .i64 0, .int .i64 0, .string ⟨#[]⟩] : Value).cells (grownCap w (n + m) c 48 - (n + m))) 48)).drew.setCells w.heap.size (i * 4) vs).drew).setCells w.heap.size ((i + m) * 4) (cs.drop (i * 4)) := by
  have hu := Try.underlying32
  have mixed : Try.prog.follows .mixedOrders = true := by kernel_rfl
  obtain ⟨i0, hi0, hzz⟩ := Option.map_eq_some_iff.1 info48
  simp only [Prod.mk.injEq] at hzz
  obtain ⟨hz0, hzs, hzb⟩ := hzz
  have hz1 : ¬ ((m : Int) = 0) := by omega
  have hz2 : ¬ ((i : Int) = (n : Int)) := by omega
  have hz3 : (c : Int) < (n : Int) + (m : Int) := by omega
  have hsz : (Try.prog.info? 48).map (·.size) = some 4 := by kernel_rfl
  have hkk : (n : Int) + (m : Int) - (i : Int) = ((n + m - i : Nat) : Int) := by omega
  have hik : i + (n + m - i) = n + m := by omega
  have hold : (Builtin.firstCells i0.size i (.slice (some ⟨g, 0, none⟩) i c)).run Try.prog w.drew = .ok (cs.take (i * 4)).toArray w.drew := by
    rw [hzs]
    exact run_firstCells_some w.drew 4 i ⟨g, 0, none⟩ i c (cs.take (i * 4)) (by rw [List.length_take]; omega) (fun j v hj => by
      rw [Addr.add_lit, Nat.zero_add]
      rw [List.getElem?_take] at hj
      split at hj
      · exact hcs j v hj
      · cases hj)
  have hrz : ∀ ty, (Builtin.append_ #[32, 3] ty #[.slice (some ⟨g, 0, none⟩) i c, .int .i64 ((n : Int) + (m : Int) - (i : Int))]).run Try.prog w =
      .ok (.slice (some ⟨w.heap.size, 0, none⟩) (n + m) (grownCap w (n + m) c 48)) (w.drew.alloc (.cells ((cs.take (i * 4)).toArray ++ Builtin.zeroCells (.agg #[.string ⟨#[]⟩, .int .i64 0, .int .i64 0, .string ⟨#[]⟩] : Value).cells (n + m - i) ++ Builtin.zeroCells (.agg #[.string ⟨#[]⟩, .int .i64 0, .int .i64 0, .string ⟨#[]⟩] : Value).cells (grownCap w (n + m) c 48 - (n + m))) 48)) := fun ty => by
    have h := Lib.run_append_grow_zeros (P := Try.prog) w 32 3 ty 48 i0 _ .i64 .i64 hu Try.underlying3 hi0 hz0 (some ⟨g, 0, none⟩) i c (cs.take (i * 4)) hold (n + m - i) (by omega) (by rw [hzs]; decide) (by omega) (by omega) (by rw [hzb]; omega) (by rw [hzb, hik]; exact growslice_fits hroom hbig)
    rw [hik] at h
    rw [hkk]
    exact h
  obtain ⟨G, hG⟩ : ∃ G, G = grownCap w (n + m) c 48 := ⟨_, rfl⟩
  obtain ⟨ROW, hROW⟩ : ∃ ROW : Array Value, ROW = (cs.take (i * 4)).toArray ++ Builtin.zeroCells (.agg #[.string ⟨#[]⟩, .int .i64 0, .int .i64 0, .string ⟨#[]⟩] : Value).cells (n + m - i) ++ Builtin.zeroCells (.agg #[.string ⟨#[]⟩, .int .i64 0, .int .i64 0, .string ⟨#[]⟩] : Value).cells (G - (n + m)) := ⟨_, rfl⟩
  rw [← hG] at hrz ⊢
  rw [← hROW] at hrz ⊢
  have hRl : (n + m) * 4 ≤ ROW.size := by
    rw [hROW]
    have e : ∀ q, (Builtin.zeroCells (.agg #[.string ⟨#[]⟩, .int .i64 0, .int .i64 0, .string ⟨#[]⟩] : Value).cells q).size = q * 4 := fun q => by simp [Builtin.zeroCells, Value.cells]
    rw [Array.size_append, Array.size_append, e, List.size_toArray, List.length_take]
    omega
  obtain ⟨W1, hW1⟩ : ∃ W1, W1 = w.drew.alloc (.cells ROW 48) := ⟨_, rfl⟩
  rw [← hW1] at hrz
  have hN : ∀ j, j < (n + m) * 4 → (W1.cell? ⟨w.heap.size, j, none⟩).isSome = true := fun j hj => by
    rw [hW1, World.cell?_alloc_at (w := w.drew) ROW _ w.heap.size j rfl, Array.getElem?_eq_getElem (by omega)]; rfl
  have hNf : ∀ j, W1.frozen? ⟨w.heap.size, j, none⟩ = false := fun j => by rw [hW1]; exact World.frozen?_alloc_at (w := w.drew) ROW _ w.heap.size j rfl
  have hOb : ∀ j v, w.cell? ⟨g, j, none⟩ = some v → W1.cell? ⟨g, j, none⟩ = some v := fun j v h => by rw [hW1, World.cell?_alloc_past (w := w.drew) _ g j hgw]; exact h
  have hOv : ∀ j v, w.cell? ⟨vb, j, none⟩ = some v → W1.cell? ⟨vb, j, none⟩ = some v := fun j v h => by rw [hW1, World.cell?_alloc_past (w := w.drew) _ vb j hvw]; exact h
  have hcpA : ∀ (W : World), (∀ x, W.cell? x = W1.cell? x) → (∀ x, W.frozen? x = W1.frozen? x) → ∀ ty dc, (Builtin.copy_ #[32, 32] ty #[.slice (some ⟨w.heap.size, i * 4, none⟩) (n + m - i) dc, .slice (some ⟨vb, 0, none⟩) m vc]).run Try.prog W = .ok (goInt (m : Int)) (W.setCells w.heap.size (i * 4) vs) := fun W hWc hWf ty dc => by
    have h := run_copyK (P := Try.prog) 4 W 32 32 ty 48 w.heap.size (i * 4) (n + m - i) dc ⟨vb, 0, none⟩ m vc vs hu hsz (by rw [hvl, show Nat.min m (n + m - i) = m from by simp only [Nat.min_def]; split <;> omega])
      (fun j v hj => by rw [Addr.add_lit, Nat.zero_add, hWc]; exact hOv _ v (hvs j v hj))
      (fun j hj => by rw [hWc]; exact hN _ (by rw [hvl] at hj; omega)) (fun j hj => by rw [hWf]; exact hNf _) h1v
    rwa [show Nat.min m (n + m - i) = m from by simp only [Nat.min_def]; split <;> omega] at h
  have hGn : n + m ≤ G := by rw [hG]; exact grownCap_ge w _ _ _
  have hG63 : G ≤ 9223372036854775807 := by
    have := grownCap_le_maxLen w (n + m) c 48 (by unfold maxLen; omega)
    rw [← hG] at this
    unfold maxLen at this
    omega
  have hGi : ¬ (G = i) := by omega
  have hGim : ¬ (G = i + m) := by omega
  have hci : ¬ (c = i) := by omega
  have hgN : g ≠ w.heap.size := by omega
  have hdl : (cs.drop (i * 4)).length = (n - i) * 4 := by rw [List.length_drop, hcl]; omega
  have hcpB : ∀ (W : World), (∀ x, W.cell? x = (W1.setCells w.heap.size (i * 4) vs).cell? x) → (∀ x, W.frozen? x = (W1.setCells w.heap.size (i * 4) vs).frozen? x) → ∀ ty dc sc, (Builtin.copy_ #[32, 32] ty #[.slice (some ⟨w.heap.size, (i + m) * 4, none⟩) (n + m - (i + m)) dc, .slice (some ⟨g, i * 4, none⟩) (n - i) sc]).run Try.prog W = .ok (goInt ((n - i : Nat) : Int)) (W.setCells w.heap.size ((i + m) * 4) (cs.drop (i * 4))) := fun W hWc hWf ty dc sc => by
    have h := run_copyK (P := Try.prog) 4 W 32 32 ty 48 w.heap.size ((i + m) * 4) (n + m - (i + m)) dc ⟨g, i * 4, none⟩ (n - i) sc (cs.drop (i * 4)) hu hsz (by rw [hdl, show Nat.min (n - i) (n + m - (i + m)) = n - i from by simp only [Nat.min_def]; split <;> omega])
      (fun j v hj => by
        rw [Addr.add_lit, hWc, World.cell?_setCells_out _ _ _ _ _ (fun h _ => absurd h hgN)]
        exact hOb _ v (hcs (i * 4 + j) v (by rwa [List.getElem?_drop] at hj)))
      (fun j hj => by rw [hWc]; exact isSome_setCells _ vs (i * 4) W1 (fun q hq => hN _ (by rw [hvl] at hq; omega)) _ (hN _ (by rw [hdl] at hj; omega)))
      (fun j hj => by rw [hWf, World.frozen?_setCells]; exact hNf _) (fun v hv => h1c v (List.mem_of_mem_drop hv))
    rwa [show Nat.min (n - i) (n + m - (i + m)) = n - i from by simp only [Nat.min_def]; split <;> omega] at h
  subst hW1
  have hE1 : ∀ x, ((w.alloc (.cells ROW 48)).drew).cell? x = (w.drew.alloc (.cells ROW 48)).cell? x := fun x => rfl
  have hE2 : ∀ x, ((w.alloc (.cells ROW 48)).drew).frozen? x = (w.drew.alloc (.cells ROW 48)).frozen? x := fun x => rfl
  have hF1 : ∀ x, (((w.alloc (.cells ROW 48)).drew.setCells w.heap.size (i * 4) vs).drew).cell? x = ((w.drew.alloc (.cells ROW 48)).setCells w.heap.size (i * 4) vs).cell? x := fun x => rfl
  have hF2 : ∀ x, (((w.alloc (.cells ROW 48)).drew.setCells w.heap.size (i * 4) vs).drew).frozen? x = ((w.drew.alloc (.cells ROW 48)).setCells w.heap.size (i * 4) vs).frozen? x := fun x => rfl
  have hw1 : IntKind.i64.wrap ((i : Int) + (m : Int)) = (i : Int) + (m : Int) := by rw [IntKind.wrap_i64]; omega
  have hb1 : (0 : Int) ≤ (i : Int) + (m : Int) := by omega
  have hin : i ≤ n := by omega
  have htn : ((i : Int) + (m : Int)).toNat = i + m := by omega
  have hb3 : (i : Int) ≤ (n : Int) := by omega
  clear hkk hik hold hROW hG hRl
  go_enter Try.func82, Try.ntmps82
  go_wp2_with (first
    | (at_builtin; refine Lib.wpList_append_run _ rfl _ _ _ _ rfl _ _ rfl rfl _ _ (hrz _) ?_)
    | (at_builtin; refine wpList_copy_runI _ rfl _ _ 32 32 rfl _ _ rfl rfl (hcpA _ hE1 hE2 _ _) ?_)
    | (at_builtin; refine wpList_copy_runI _ rfl _ _ 32 32 rfl _ _ rfl rfl (hcpB _ (fun _ => rfl) (fun _ => rfl) _ _ _) ?_))
  go_region_law_o (refine step_copy_runI rfl _ _ 32 32 rfl (.slice (some ⟨w.heap.size, (i + m) * 4, none⟩) (n + m - (i + m)) (G - (i + m))) (.slice (some ⟨g, i * 4, none⟩) (n - i) (c - i)) (by simp [Act.eval, Act.put]) (by simp [Act.eval, Act.put]) (hcpB _ hF1 hF2 3 (G - (i + m)) (c - i)) ?_)
  go_wp2
  go_ret
  exact ⟨rfl, rfl⟩
set_option maxHeartbeats 4000000 in
set_option maxRecDepth 100000 in
theorem insert_Entry (A : Option Addr) (n c i vb base : Nat) (xs : List S48) (x : S48) (vs : List Value) (tv : TypeId) (w0 W : World) (hB : Below base w0 W) (hbase : base ≤ W.heap.size) (hr : Kd.R k48 48 W base (fun _ => True) (.slice A n c) xs) (hi : i ≤ n)
    (hx : k48.M W base (fun _ => True) x vs) (hvs : W.heap[vb]? = some (.cells vs.toArray tv (0, 0))) (hne : some vb ≠ (Value.slice A n c).ownBlock) (hl : (n + 1) * 48 ≤ 140737488355328) :
    Calls Try.prog 82 #[.slice A n c, .int .i64 i, .slice (some ⟨vb, 0, none⟩) 1 1] W fun e w' => ∃ v, e = .returned v ∧ Kd.R k48 48 w' base (fun _ => True) v (xs.take i ++ x :: xs.drop i) ∧ Below base w0 w' := by
  have hu := Try.underlying32
  have mixed : Try.prog.follows .mixedOrders = true := by kernel_rfl
  obtain ⟨hn, hnc, hC⟩ := Kd.R_reads' hr
  have hvl : vs.length = 1 * 4 := k48.K_len (k48.K_of_M hx)
  have hcv : ∀ j v, vs[j]? = some v → W.cell? ⟨vb, j, none⟩ = some v := fun j v hj => by rw [cell_of_row W vb _ _ _ (0, 0) hvs]; simpa using hj
  have h1v : ∀ v ∈ vs, v.oneCell' = true := k48.K_one (k48.K_of_M hx)
  have hM : ∀ {W W' : World} {b : Nat} {ok ok' : Nat → Prop} {p : S48} {q : List Value}, k48.M W b ok p q → k48.M W' b ok' p q := fun h => by rw [k48_openM h]; exact k48_mkM _ _ _ _
  rcases Nat.lt_or_ge i n with hlt | hge
  · obtain ⟨g, cap, ef, hbg, hgw, _⟩ := Kd.R_form hr (by omega)
    injection ef with e1 e2 e3
    subst e1; subst e3
    have hne' : vb ≠ g := fun e => hne (by simp [Value.ownBlock, e])
    have hg0 : ∀ q, (some g : Option Nat) = some q → base ≤ q := fun q hq => by injection hq with hq; subst hq; exact hbg
    rcases Nat.lt_or_ge c (n + 1) with hroom | hroom
    · obtain ⟨inner, hown⟩ := Kd.R_own hr
      obtain ⟨hin, hv⟩ := hown
      rw [← hn] at hin
      replace hin : inner.length = n * 4 := hin
      have hcell : ∀ j u, inner[j]? = some u → W.cell? ⟨g, j, none⟩ = some u := by
        rcases hv with ⟨hv, _⟩ | ⟨g', cap', cur, hv, _, hh, _, _, hcs, htk⟩
        · cases hv
        injection hv with ea _ ec
        injection ea with ea
        injection ea with eg
        subst eg; subst ec
        intro j u hj
        rw [cell_of_row W g _ cur 48 (0, 0) hh, ← Array.getElem?_toList]
        rw [← htk, List.getElem?_take] at hj
        split at hj
        · exact hj
        · cases hj
      have hone : ∀ u ∈ inner, u.oneCell' = true := by
        obtain ⟨_, inner2, hown2, hrp⟩ := hr
        have h2 : inner2 = inner := by
          rcases hv with ⟨hv, _⟩ | ⟨g', cap', cur, hv, _, hh, _, _, hcs, htk⟩
          · cases hv
          rcases hown2.2 with ⟨hv2, _⟩ | ⟨g2, cap2, cur2, hv2, _, hh2, _, _, hcs2, htk2⟩
          · cases hv2
          injection hv with ea _ ec
          injection ea with ea
          injection ea with eg
          injection hv2 with ea2 _ ec2
          injection ea2 with ea2
          injection ea2 with eg2
          subst eg; subst eg2
          rw [hh] at hh2
          injection hh2 with hh2
          injection hh2 with hh2
          subst hh2
          rw [← htk, ← htk2]
        subst h2
        intro u hu
        obtain ⟨q, hq, rfl⟩ := List.mem_iff_getElem.1 hu
        have hql : q / 4 < xs.length := by omega
        refine k48.K_one (k48.K_of_M (hrp.2 (q / 4) _ (List.getElem?_eq_getElem hql))) _ ?_
        rw [List.mem_iff_getElem?]
        refine ⟨q % 4, ?_⟩
        rw [show k48.sz = 4 from rfl, List.getElem?_take, if_pos (by omega), List.getElem?_drop, show q / 4 * 4 + q % 4 = q from by omega, List.getElem?_eq_getElem hq]
      refine (insGrow_Entry g n c i vb 1 1 inner vs W hlt (by decide) hnc hroom hl hin hvl hgw (blk_lt hvs) hcell hcv hone h1v).mono ?_
      rintro e w' ⟨rfl, rfl⟩
      have hGn : n + 1 ≤ grownCap W (n + 1) c 48 := grownCap_ge W _ _ _
      have hGm : grownCap W (n + 1) c 48 ≤ maxLen := grownCap_le_maxLen W (n + 1) c 48 (by unfold maxLen; omega)
      generalize grownCap W (n + 1) c 48 = G at hGn hGm
      have hz : ∀ q, (Builtin.zeroCells (.agg #[.string ⟨#[]⟩, .int .i64 0, .int .i64 0, .string ⟨#[]⟩] : Value).cells q).size = q * 4 := fun q => by simp [Builtin.zeroCells, Value.cells]
      have htl : (inner.take (i * 4)).length = i * 4 := by rw [List.length_take]; omega
      refine ⟨_, rfl, R_grow_in (W1 := (W.alloc _).drew) k48 hM hr inner hin hcell i (by omega) hGn hGm x vs hx hvl _ ?_ ?_ hbase (blk_drew (blk_new W _)), ?_⟩
      · rw [Array.size_append, Array.size_append, hz, hz, List.size_toArray, htl, show k48.sz = 4 from rfl]
        omega
      · rw [show k48.sz = 4 from rfl, Array.toList_append, Array.toList_append, List.append_assoc]
        exact List.take_left' htl
      · have far : ∀ (cs : List Value) (o : Nat) (w1 : World), Below base w0 w1 → w1.heap.size = W.heap.size + 1 → Below base w0 (w1.setCells W.heap.size o cs) ∧ (w1.setCells W.heap.size o cs).heap.size = W.heap.size + 1 := fun cs o w1 hb hs => by
          obtain ⟨s1, s2, s3, s4⟩ := setCells_same W.heap.size cs o w1
          exact ⟨hb.trans ⟨s1, s2, s3, by rw [s4]; exact Nat.le_refl _, fun q hq => setCells_far _ _ q (by omega)⟩, by rw [s4, hs]⟩
        have f1 := far vs (i * 4) _ (below_drew (hB.alloc hbase (.cells ((inner.take (i * 4)).toArray ++ Builtin.zeroCells (.agg #[.string ⟨#[]⟩, .int .i64 0, .int .i64 0, .string ⟨#[]⟩] : Value).cells (n + 1 - i) ++ Builtin.zeroCells (.agg #[.string ⟨#[]⟩, .int .i64 0, .int .i64 0, .string ⟨#[]⟩] : Value).cells (G - (n + 1))) 48))) (by simp)
        exact (far _ _ _ (below_drew f1.1) f1.2).1
    · obtain ⟨inner, hin, hcell, hone, hsome, hfz, hsh, hc63, hR, hg⟩ := R_shift_in k48 hM hr i (by omega) hroom x vs hx hvl
      refine (insShift_Entry g n c i vb 1 1 inner vs W hlt (by decide) hroom hc63 hne' hin hvl hcell hsome hfz hcv hone h1v tv 48 vs.toArray.size (c * 4) (by simp [World.shape?, hvs]) hsh (by omega) (blk_frozen hvs _) (blk_frozen hvs _)).mono ?_
      rintro e w' ⟨rfl, rfl⟩
      exact ⟨_, rfl, hR, hB.grown hg hbase hg0⟩
  · obtain rfl : i = n := by omega
    have hA : i = xs.length := hn
    have hee : ((i : Int) == (i : Int)) = true := by simp
    have hC1 : Kd.C k48 W (some ⟨vb, 0, none⟩) [x].length [x] := C_one hvl (k48.K_of_M hx) hcv
    have HC1 := Aside0.mk hC1
    have HR := Aside0.mk hr
    have HB := Aside0.mk hB
    have HL := Aside0.mk hl
    clear hr hB hC1 hx hvs hcv h1v hC hvl hM hne
    rw [List.take_of_length_le (by omega), List.drop_eq_nil_of_le (by omega)]
    go_enter Try.func82, Try.ntmps82
    go_wp2_with (first | ((with_reducible refine gate_builtin (b := .append) (xs := #[.tmp 23, .tmp 24]) rfl ?_); at_builtin; refine Kd.R_append_rows k48 (w0 := w0) base rfl (.tmp 23) (.tmp 24) 32 48 (.agg #[.string ⟨#[]⟩, .int .i64 0, .int .i64 0, .string ⟨#[]⟩]) 48 rfl hu info48 rfl (by decide) (by omega) (.slice A i c) xs [x] (some ⟨vb, 0, none⟩) 1 1 (fun _ => True) (fun _ => False) rfl rfl ?aO ?aR (fun _ _ h => h) (fun _ h => h.elim) ?aF ?aB ?aS ?aL ?_; (case aO => exact HR.out); (case aR => exact HC1.out); (case aF => exact fun _ _ => trivial); (case aB => exact HB.out); (case aS => exact hbase); (case aL => have := HL.out; omega); intro v1 w2 ho hb hg hat))
    all_goals go_ret
    all_goals exact ⟨_, rfl, ho, hb⟩
end Go.Proofs.Ytbojfnijgmppbaa.P
end
