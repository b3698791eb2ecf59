/- Proved: the law FnExactCrash of the given program returns true for every input of its Go types and leaves each argument as it was; no condition. (Part 7 of 12.) -/
import Derived.Test.YtidjdkodgddfcaaCFnExactCrash4
import Derived.Shelf.Spec.SlicesInsert
import Derived.Lib.AppendZerosOnto
import Derived.Test.YtidjdkodgddfcaaCFnExactCrash5
import Derived.Test.YtidjdkodgddfcaaCFnExactCrash0
section
namespace Go.Proofs.Ytidjdkodgddfcaa.P
open Go.RowKit Go.Proofs.YtidjdkodgddfcaaW.PrintWords Go.Proofs.YtidjdkodgddfcaaW.PrintLast Go.Proofs.YtidjdkodgddfcaaW.PrintMore
attribute [local go_sem] str_gtr str_leq str_geq qb1 qz max_two min_two qv qu qa1 qy
set_option linter.unusedVariables false
set_option linter.unusedSimpArgs false
open Go.Shelf Go.Lib
theorem run_copyK {P : Program} (k : Nat) (w : World) (dT sT ty elem : TypeId) (b o dLen dCap : Nat) (a : Addr) (sLen sCap : Nat) (cs : List Value)
  (hu : P.underlying dT = some (.slice elem)) (hs : (P.info? elem).map (·.size) = some k) (hn : cs.length = Nat.min sLen dLen * k)
  (hsrc : ∀ j v, cs[j]? = some v → w.cell? (a.add j) = some v) (hc : ∀ j, j < cs.length → (w.cell? ⟨b, o + j, none⟩).isSome = true) (hf : ∀ j, j < cs.length → w.frozen? ⟨b, o + j, none⟩ = false) (h1 : ∀ v ∈ cs, v.oneCell' = true) :
  (Builtin.copy_ #[dT, sT] ty #[.slice (some ⟨b, o, none⟩) dLen dCap, .slice (some a) sLen sCap]).run P w = .ok (goInt (Nat.min sLen dLen)) (w.setCells b o cs) := by
 have hl := run_loadCells_list (P := P) w a cs hsrc
 have hst := run_storeCells_cells (P := P) b o cs 0 w (by simpa using hc) (by simpa using hf) h1
 cases hq : P.info? elem with
 | none => simp [hq] at hs
 | some i =>
  have hi : i.size = k := by simpa [hq] using hs
  simp [Builtin.copy_, run_underlying hu, Builtin.lenOf, Builtin.firstCells, sizeOf, typeInfo, hq, hi, ← hn, hl, hst]
theorem insTake (d : Nat) {i n m : Nat} {cur inner vs : List Value} (hin : inner.length = n * d) (hi : i ≤ n) (hv : vs.length = m * d) (hc : (n + m) * d ≤ cur.length) (ht : cur.take (i * d) = inner.take (i * d)) (c1 c2 : List Value)
  (h1 : c1 = cur.take ((i + m) * d) ++ inner.drop (i * d) ++ cur.drop ((i + m) * d + (inner.drop (i * d)).length)) (h2 : c2 = c1.take (i * d) ++ vs ++ c1.drop (i * d + vs.length)) : c2.take ((n + m) * d) = inner.take (i * d) ++ (vs ++ inner.drop (i * d)) := by
 have e1 : (i + m) * d = i * d + m * d := Nat.add_mul _ _ _
 have e2 : (n + m) * d = n * d + m * d := Nat.add_mul _ _ _
 have e3 : i * d ≤ n * d := Nat.mul_le_mul_right _ hi
 have l1 : (cur.take ((i + m) * d)).length = i * d + m * d := by rw [List.length_take]; omega
 have l2 : (inner.drop (i * d)).length = n * d - i * d := by rw [List.length_drop, hin]
 have a1 : c1.take (i * d) = inner.take (i * d) := by
  rw [h1, List.append_assoc, List.take_append_of_le_length (by rw [l1]; omega), List.take_take, Nat.min_eq_left (by omega), ht]
 have a2 : c1.drop (i * d + vs.length) = inner.drop (i * d) ++ cur.drop ((i + m) * d + (inner.drop (i * d)).length) := by
  rw [h1, List.append_assoc, hv, ← l1, List.drop_left']
  rfl
 have l3 : (inner.take (i * d)).length = i * d := by rw [List.length_take]; omega
 rw [h2, a1, a2, List.append_assoc, ← List.append_assoc vs, ← List.append_assoc, List.take_left']
 rw [List.length_append, List.length_append, l3, hv, l2]
 omega
section
variable {α : Type}
theorem R_shift_in (d : Kd α) {e : Nat} {W : World} {base : Nat} {ok : Nat → Prop} {g n c : Nat} {xs : List α} (hM : ∀ {W W' : World} {b : Nat} {ok ok' : Nat → Prop} {p : α} {q : List Value}, d.M W b ok p q → d.M W' b ok' p q) (HO : d.R e W base ok (.slice (some ⟨g, 0, none⟩) n c) xs) (i : Nat) (hi : i ≤ n) (hc : n + 1 ≤ c) (x : α) (vs : List Value) (hx : d.M W base ok x vs) (hl : vs.length = 1 * d.sz) :
  ∃ inner : List Value, inner.length = n * d.sz ∧ (∀ j u, inner[j]? = some u → W.cell? ⟨g, j, none⟩ = some u) ∧ (∀ u ∈ inner, u.oneCell' = true) ∧ (∀ j, j < c * d.sz → (W.cell? ⟨g, j, none⟩).isSome = true) ∧ (∀ j, W.frozen? ⟨g, j, none⟩ = false) ∧ W.shape? g = some (e, c * d.sz) ∧ c ≤ 9223372036854775807 ∧
   d.R e ((W.drew.setCells g ((i + 1) * d.sz) (inner.drop (i * d.sz))).setCells g (i * d.sz) vs) base ok (.slice (some ⟨g, 0, none⟩) (n + 1) c) (xs.take i ++ x :: xs.drop i) ∧ W.grownBy ((W.drew.setCells g ((i + 1) * d.sz) (inner.drop (i * d.sz))).setCells g (i * d.sz) vs) (some g) := by
 obtain ⟨hn, hnc, _⟩ := Kd.R_reads' HO
 obtain ⟨hok, inner, hown, hr⟩ := HO
 have hin : inner.length = n * d.sz := by rw [hr.1, hn]
 rcases hown.2 with ⟨hv, _⟩ | ⟨g', cap', cur, hv, hb, hh, _, hcm, hcs, htake⟩
 ·cases hv
 injection hv with ha _ hc'
 injection ha with ha
 injection ha with hg
 subst hg; subst hc'
 rw [← hn] at htake
 have e1 : (i + 1) * d.sz = i * d.sz + 1 * d.sz := Nat.add_mul _ _ _
 have e2 : (n + 1) * d.sz = n * d.sz + 1 * d.sz := Nat.add_mul _ _ _
 have e3 : i * d.sz ≤ n * d.sz := Nat.mul_le_mul_right _ hi
 have e4 : (n + 1) * d.sz ≤ c * d.sz := Nat.mul_le_mul_right _ hc
 have hcl : cur.toList.length = c * d.sz := by rw [Array.length_toList, hcs]
 have hcur : ∀ q, q < n * d.sz → cur.toList[q]? = inner[q]? := by
  intro q hq
  rw [← htake, List.getElem?_take, if_pos hq]
 have hone : ∀ u ∈ inner, u.oneCell' = true := by
  intro u hu
  obtain ⟨q, hq, rfl⟩ := List.mem_iff_getElem.1 hu
  have hs0 : 0 < d.sz := by
   rcases Nat.eq_zero_or_pos d.sz with h | h
   ·rw [h, Nat.mul_zero] at hin; omega
   ·exact h
  have hql : q / d.sz < xs.length := by
   rw [Nat.div_lt_iff_lt_mul hs0, ← hr.1]
   exact hq
  refine d.K_one (d.K_of_M (hr.2 (q / d.sz) _ (List.getElem?_eq_getElem hql))) _ ?_
  rw [List.mem_iff_getElem?]
  refine ⟨q % d.sz, ?_⟩
  rw [List.getElem?_take, if_pos (Nat.mod_lt _ hs0), List.getElem?_drop, Nat.mul_comm, Nat.div_add_mod, List.getElem?_eq_getElem hq]
 have hdl : (inner.drop (i * d.sz)).length = n * d.sz - i * d.sz := by rw [List.length_drop, hin]
 obtain ⟨c1, a1, a2, a3⟩ := setCells_row (inner.drop (i * d.sz)) ((i + 1) * d.sz) W.drew cur hh (by rw [hdl, hcs]; omega)
 obtain ⟨c2, b1, b2, b3⟩ := setCells_row vs (i * d.sz) _ c1 a1 (by rw [hl, a2, hcs]; omega)
 have htk := insTake d.sz hin hi hl (by rw [hcl]; exact e4) (by rw [← htake, List.take_take, Nat.min_eq_left e3]) c1.toList c2.toList a3 b3
 obtain ⟨s1, s2, s3, s4⟩ := setCells_same g (inner.drop (i * d.sz)) ((i + 1) * d.sz) W.drew
 obtain ⟨t1, t2, t3, t4⟩ := setCells_same g vs (i * d.sz) (W.drew.setCells g ((i + 1) * d.sz) (inner.drop (i * d.sz)))
 have hxl : (xs.take i ++ x :: xs.drop i).length = n + 1 := by rw [List.length_append, List.length_take, List.length_cons, List.length_drop]; omega
 refine ⟨inner, hin, ?_, hone, ?_, fun j => qe hh j, ?_, hcm, ⟨hok, inner.take (i * d.sz) ++ (vs ++ inner.drop (i * d.sz)), ⟨?_, .inr ⟨g, c, c2, by rw [hxl], hb, b1, by rw [hxl]; omega, hcm, by rw [b2, a2, hcs], by rw [hxl, htk]⟩⟩, ?_⟩, ⟨t1.trans s1, t2.trans s2, t3.trans s3, by rw [t4, s4]; exact Nat.le_refl _, fun k _ hk => (setCells_far _ _ k (fun he => hk (by rw [he]))).trans (setCells_far _ _ k (fun he => hk (by rw [he])))⟩⟩
 ·intro j u hu
  have hj := (List.getElem?_eq_some_iff.1 hu).1
  rw [cell_of_row W g _ cur e (0, 0) hh, ← Array.getElem?_toList, hcur j (by omega), hu]
 ·intro j hj
  rw [cell_of_row W g _ cur e (0, 0) hh, Array.getElem?_eq_getElem (by omega)]
  rfl
 ·simp [World.shape?, hh, hcs]
 ·rw [List.length_append, List.length_append, List.length_take, hdl, hl, hxl, hin]
  omega
 ·have h0 := Kd.reps_take hr (m := i) (by omega)
  have h1 := Kd.reps_drop hr (m := i)
  have h2 : Reps (d.M W base ok) d.sz [x] vs := by
   refine ⟨by rw [hl]; rfl, fun j p hj => ?_⟩
   cases j with
   | zero =>
    simp at hj
    subst hj
    rw [Nat.zero_mul, List.drop_zero, List.take_of_length_le (by omega)]
    exact hx
   | succ j => simp at hj
  have h3 := Kd.reps_append (Kd.reps_append (h0.imp_ (fun _ _ h => hM (W' := (W.drew.setCells g ((i + 1) * d.sz) (inner.drop (i * d.sz))).setCells g (i * d.sz) vs) (ok' := fun k => ok k ∧ some k ≠ (Value.slice (some ⟨g, 0, none⟩) (xs.take i ++ x :: xs.drop i).length c).ownBlock) h)) (h2.imp_ (fun _ _ h => hM h))) (h1.imp_ (fun _ _ h => hM h))
  rw [List.append_assoc, List.append_assoc] at h3
  exact h3
theorem R_grow_in (d : Kd α) {e : Nat} {W W1 : World} {base : Nat} {g n c G N : Nat} {xs : List α} (hM : ∀ {W W' : World} {b : Nat} {ok ok' : Nat → Prop} {p : α} {q : List Value}, d.M W b ok p q → d.M W' b ok' p q) (HO : d.R e W base (fun _ => True) (.slice (some ⟨g, 0, none⟩) n c) xs) (inner : List Value) (hin : inner.length = n * d.sz) (hcell : ∀ j u, inner[j]? = some u → W.cell? ⟨g, j, none⟩ = some u) (i : Nat) (hi : i ≤ n) (hG : n + 1 ≤ G) (hGm : G ≤ maxLen) (x : α) (vs : List Value) (hx : d.M W base (fun _ => True) x vs) (hl : vs.length = 1 * d.sz)
  (ROW : Array Value) (hsz : ROW.size = G * d.sz) (htk : ROW.toList.take (i * d.sz) = inner.take (i * d.sz)) (hb : base ≤ N) (hh : W1.heap[N]? = some (.cells ROW e (0, 0))) :
  d.R e ((W1.setCells N (i * d.sz) vs).drew.setCells N ((i + 1) * d.sz) (inner.drop (i * d.sz))) base (fun _ => True) (.slice (some ⟨N, 0, none⟩) (n + 1) G) (xs.take i ++ x :: xs.drop i) := by
 obtain ⟨hn, hnc, _⟩ := Kd.R_reads' HO
 obtain ⟨_, inner', hown, hr⟩ := HO
 rcases hown.2 with ⟨hv, _⟩ | ⟨g', cap', cur, hv, hb', hh', _, hcm, hcs, htake⟩
 ·cases hv
 injection hv with ha _ hc'
 injection ha with ha
 injection ha with hg
 subst hg; subst hc'
 have hin' : inner'.length = n * d.sz := by rw [hr.1, hn]
 have hii : inner' = inner := by
  apply List.ext_getElem?
  intro q
  by_cases hq : q < n * d.sz
  ·have h1 := hcell q _ (List.getElem?_eq_getElem (by omega))
   rw [cell_of_row W g _ cur e (0, 0) hh', ← Array.getElem?_toList] at h1
   rw [← htake, List.getElem?_take, if_pos (by rw [← hn]; exact hq), h1, List.getElem?_eq_getElem]
  ·rw [List.getElem?_eq_none (by omega), List.getElem?_eq_none (by omega)]
 subst hii
 have e1 : (i + 1) * d.sz = i * d.sz + 1 * d.sz := Nat.add_mul _ _ _
 have e2 : (n + 1) * d.sz = n * d.sz + 1 * d.sz := Nat.add_mul _ _ _
 have e3 : i * d.sz ≤ n * d.sz := Nat.mul_le_mul_right _ hi
 have e4 : (n + 1) * d.sz ≤ G * d.sz := Nat.mul_le_mul_right _ hG
 have hdl : (inner'.drop (i * d.sz)).length = n * d.sz - i * d.sz := by rw [List.length_drop, hin]
 obtain ⟨c1, a1, a2, a3⟩ := setCells_row vs (i * d.sz) W1 ROW hh (by rw [hl, hsz]; omega)
 obtain ⟨c2, b1, b2, b3⟩ := setCells_row (inner'.drop (i * d.sz)) ((i + 1) * d.sz) ((W1.setCells N (i * d.sz) vs).drew) c1 a1 (by rw [hdl, a2, hsz]; omega)
 have hxl : (xs.take i ++ x :: xs.drop i).length = n + 1 := by rw [List.length_append, List.length_take, List.length_cons, List.length_drop]; omega
 have l3 : (inner'.take (i * d.sz)).length = i * d.sz := by rw [List.length_take]; omega
 have htk2 : c2.toList.take ((n + 1) * d.sz) = inner'.take (i * d.sz) ++ (vs ++ inner'.drop (i * d.sz)) := by
  have h1 : c1.toList.take ((i + 1) * d.sz) = inner'.take (i * d.sz) ++ vs := by
   rw [a3, htk]
   exact List.take_left' (by rw [List.length_append, l3, hl]; omega)
  rw [b3, h1, List.append_assoc, List.append_assoc, ← List.append_assoc vs, ← List.append_assoc]
  exact List.take_left' (by rw [List.length_append, List.length_append, l3, hl, hdl]; omega)
 refine ⟨fun _ _ => trivial, inner'.take (i * d.sz) ++ (vs ++ inner'.drop (i * d.sz)), ⟨?_, .inr ⟨N, G, c2, by rw [hxl], hb, b1, by rw [hxl]; omega, hGm, by rw [b2, a2, hsz], by rw [hxl, htk2]⟩⟩, ?_⟩
 ·rw [List.length_append, List.length_append, List.length_take, hdl, hl, hxl, hin]
  omega
 ·have h0 := Kd.reps_take hr (m := i) (by omega)
  have h1 := Kd.reps_drop hr (m := i)
  have h2 : Reps (d.M W base (fun _ => True)) d.sz [x] vs := by
   refine ⟨by rw [hl]; rfl, fun j p hj => ?_⟩
   cases j with
   | zero =>
    simp at hj
    subst hj
    rw [Nat.zero_mul, List.drop_zero, List.take_of_length_le (by omega)]
    exact hx
   | succ j => simp at hj
  have h3 := Kd.reps_append (Kd.reps_append (h0.imp_ (fun _ _ h => hM (W' := (W1.setCells N (i * d.sz) vs).drew.setCells N ((i + 1) * d.sz) (inner'.drop (i * d.sz))) (ok' := fun k => True ∧ some k ≠ (Value.slice (some ⟨N, 0, none⟩) (xs.take i ++ x :: xs.drop i).length G).ownBlock) h)) (h2.imp_ (fun _ _ h => hM h))) (h1.imp_ (fun _ _ h => hM h))
  rw [List.append_assoc, List.append_assoc] at h3
  exact h3
theorem C_one {d : Kd α} {w : World} {vb : Nat} {x : α} {vs : List Value} (hl : vs.length = 1 * d.sz) (hK : d.K w x vs) (hc : ∀ j u, vs[j]? = some u → w.cell? ⟨vb, j, none⟩ = some u) : d.C w (some ⟨vb, 0, none⟩) [x].length [x] := by
 refine ⟨rfl, by simp, fun _ => ⟨_, rfl, fun j p hj => ?_⟩⟩
 cases j with
 | zero =>
  simp at hj
  subst hj
  exact ⟨vs, by omega, hK, fun i u hu => by rw [Nat.zero_mul, Nat.zero_add, add_at, Nat.zero_add]; exact hc i u hu⟩
 | succ j => simp at hj
end
set_option maxHeartbeats 4000000 in
set_option maxRecDepth 100000 in
theorem insShift_File (g n c i vb m vc : Nat) (cs vs : List Value) (w : World) (hi : i < n) (hm : 0 < m) (hroom : n + m ≤ c) (hc63 : c ≤ 9223372036854775807) (hvb : vb ≠ g)
  (hcl : cs.length = n * 2) (hvl : vs.length = m * 2) (hcs : ∀ j v, cs[j]? = some v → w.cell? ⟨g, j, none⟩ = some v) (hsp : ∀ j, j < c * 2 → (w.cell? ⟨g, j, none⟩).isSome = true) (hfz : ∀ j, w.frozen? ⟨g, j, none⟩ = false)
  (hvs : ∀ j v, vs[j]? = some v → w.cell? ⟨vb, j, none⟩ = some v) (h1c : ∀ v ∈ cs, v.oneCell' = true) (h1v : ∀ v ∈ vs, v.oneCell' = true)
  (tA tB : TypeId) (kA kB : Nat) (hsa : w.shape? vb = some (tA, kA)) (hsb : w.shape? g = some (tB, kB)) (hkB : kB ≠ 0) (hfa : w.frozen? ⟨vb, 0, none⟩ = false) (hfe : w.frozen? ⟨vb, kA, none⟩ = false) :
  Calls Try.prog 184 #[.slice (some ⟨g, 0, none⟩) n c, .int .i64 i, .slice (some ⟨vb, 0, none⟩) m vc] w fun e w' =>
   e = .returned (.slice (some ⟨g, 0, none⟩) (n + m) c) ∧ w' = (w.drew.setCells g ((i + m) * 2) (cs.drop (i * 2))).setCells g (i * 2) vs := by
 have hu := Try.underlying82
 have mixed : Try.prog.follows .mixedOrders = true := by kernel_rfl
 have hz1 : ¬ ((m : Int) = 0) := by omega
 have hz2 : ¬ ((i : Int) = (n : Int)) := by omega
 have hsz : (Try.prog.info? 170).map (·.size) = some 2 := by kernel_rfl
 have hov : ∀ lb cb, (callFunc 195 #[.slice (some ⟨vb, 0, none⟩) m vc, .slice (some ⟨g, (i + m) * 2, none⟩) lb cb]).run Try.prog w = .ok (.value (.bool false)) w := fun lb cb => by
  rw [run_callFunc_extern Try.func195 (by kernel_rfl) (by kernel_rfl) (by kernel_rfl) (e := Extern.SlicesOverlaps.overlaps #[82, 82] #[4]) (by kernel_rfl),
   Lib.run_overlaps_apart w 82 4 170 hu 2 (fun w => by kernel_rfl) ⟨vb, 0, none⟩ ⟨g, (i + m) * 2, none⟩ m vc lb cb hvb tA tB kA kB hsa hsb hkB hfa hfe]
  rfl
 have hdl : (cs.drop (i * 2)).length = (n - i) * 2 := by rw [List.length_drop, hcl]; omega
 have hw1 : IntKind.i64.wrap ((i : Int) + (m : Int)) = (i : Int) + (m : Int) := by rw [IntKind.wrap_i64]; omega
 have hb1 : (0 : Int) ≤ (i : Int) + (m : Int) := by omega
 have hin : i ≤ n := by omega
 have htn : ((i : Int) + (m : Int)).toNat = i + m := by omega
 have hb2 : ¬ (c = i + m) := by omega
 have hb3 : (i : Int) ≤ (n : Int) + (m : Int) := by omega
 have hb4 : ¬ (c = i) := by omega
 have hcp1 : ∀ ty dc sc, (Builtin.copy_ #[82, 82] ty #[.slice (some ⟨g, (i + m) * 2, none⟩) (n + m - (i + m)) dc, .slice (some ⟨g, i * 2, none⟩) (n + m - i) sc]).run Try.prog w.drew = .ok (goInt ((n - i : Nat) : Int)) (w.drew.setCells g ((i + m) * 2) (cs.drop (i * 2))) := fun ty dc sc => by
  have h := run_copyK (P := Try.prog) 2 w.drew 82 82 ty 170 g ((i + m) * 2) (n + m - (i + m)) dc ⟨g, i * 2, none⟩ (n + m - i) sc (cs.drop (i * 2)) hu hsz (by rw [hdl, show Nat.min (n + m - i) (n + m - (i + m)) = n - i from by simp only [Nat.min_def]; split <;> omega])
   (fun j v hj => by rw [Addr.add_lit]; exact hcs (i * 2 + j) v (by rwa [List.getElem?_drop] at hj))
   (fun j hj => hsp _ (by rw [hdl] at hj; omega)) (fun j hj => hfz _) (fun v hv => h1c v (List.mem_of_mem_drop hv))
  rwa [show Nat.min (n + m - i) (n + m - (i + m)) = n - i from by simp only [Nat.min_def]; split <;> omega] at h
 obtain ⟨W1, hW1⟩ : ∃ W1, W1 = w.drew.setCells g ((i + m) * 2) (cs.drop (i * 2)) := ⟨_, rfl⟩
 have hsp1 : ∀ j, j < c * 2 → (W1.cell? ⟨g, j, none⟩).isSome = true := fun j hj => by
  rw [hW1]
  exact isSome_setCells g (cs.drop (i * 2)) ((i + m) * 2) w.drew (fun q hq => hsp _ (by rw [hdl] at hq; omega)) _ (hsp j hj)
 have hcp2 : ∀ (W : World), (∀ x, W.cell? x = W1.cell? x) → (∀ x, W.frozen? x = W1.frozen? x) → ∀ ty dc, (Builtin.copy_ #[82, 82] ty #[.slice (some ⟨g, i * 2, none⟩) (n + m - i) dc, .slice (some ⟨vb, 0, none⟩) m vc]).run Try.prog W = .ok (goInt m) (W.setCells g (i * 2) vs) := fun W hWc hWf ty dc => by
  have h := run_copyK (P := Try.prog) 2 W 82 82 ty 170 g (i * 2) (n + m - i) dc ⟨vb, 0, none⟩ m vc vs hu hsz (by rw [hvl, show Nat.min m (n + m - i) = m from by simp only [Nat.min_def]; split <;> omega])
   (fun j v hj => by
    rw [Addr.add_lit, Nat.zero_add, hWc, hW1, World.cell?_setCells_out g _ _ _ _ (fun h _ => absurd h hvb)]
    exact hvs j v hj)
   (fun j hj => by rw [hWc]; exact hsp1 _ (by rw [hvl] at hj; omega)) (fun j hj => by rw [hWf, hW1, World.frozen?_setCells]; exact hfz _) h1v
  rwa [show Nat.min m (n + m - i) = m from by simp only [Nat.min_def]; split <;> omega] at h
 rw [← hW1] at hcp1
 go_enter Try.func184, Try.ntmps184
 go_wp2_with (simp only [hov])
 go_region_law_o (refine step_copy_runI rfl _ _ 82 82 rfl _ _ (by simp [Act.eval, Act.put]) (by simp [Act.eval, Act.put]) (hcp1 _ _ _) ?_)
 go_wp2_with (at_builtin; refine wpList_copy_runI _ rfl _ _ 82 82 rfl _ _ rfl rfl (hcp2 _ (fun _ => rfl) (fun _ => rfl) _ _) ?_)
 go_ret
 first | exact ⟨rfl, rfl⟩ | exact ⟨rfl, by rw [hW1]⟩
set_option maxHeartbeats 4000000 in
set_option maxRecDepth 100000 in
theorem insGrow_File (g n c i vb m vc : Nat) (cs vs : List Value) (w : World) (hi : i < n) (hm : 0 < m) (hnc : n ≤ c) (hroom : c < n + m) (hbig : (n + m) * 32 ≤ 140737488355328)
  (hcl : cs.length = n * 2) (hvl : vs.length = m * 2) (hgw : g < w.heap.size) (hvw : vb < w.heap.size) (hcs : ∀ j v, cs[j]? = some v → w.cell? ⟨g, j, none⟩ = some v)
  (hvs : ∀ j v, vs[j]? = some v → w.cell? ⟨vb, j, none⟩ = some v) (h1c : ∀ v ∈ cs, v.oneCell' = true) (h1v : ∀ v ∈ vs, v.oneCell' = true) :
  Calls Try.prog 184 #[.slice (some ⟨g, 0, none⟩) n c, .int .i64 i, .slice (some ⟨vb, 0, none⟩) m vc] w fun e w' =>
   e = .returned (.slice (some ⟨w.heap.size, 0, none⟩) (n + m) (grownCap w (n + m) c 170)) ∧
   w' = (((w.alloc (.cells ((cs.take (i * 2)).toArray ++ Builtin.zeroCells (.agg #[.string ⟨#[]⟩, .string ⟨#[]⟩] : Value).cells (n + m - i) ++ Builtin.zeroCells (.agg #[.string ⟨#[]⟩, .string ⟨#[]⟩] : Value).cells (grownCap w (n + m) c 170 - (n + m))) 170)).drew.setCells w.heap.size (i * 2) vs).drew).setCells w.heap.size ((i + m) * 2) (cs.drop (i * 2)) := by
 have hu := Try.underlying82
 have mixed : Try.prog.follows .mixedOrders = true := by kernel_rfl
 obtain ⟨i0, hi0, hzz⟩ := Option.map_eq_some_iff.1 info170
 simp only [Prod.mk.injEq] at hzz
 obtain ⟨hz0, hzs, hzb⟩ := hzz
 have hz1 : ¬ ((m : Int) = 0) := by omega
 have hz2 : ¬ ((i : Int) = (n : Int)) := by omega
 have hz3 : (c : Int) < (n : Int) + (m : Int) := by omega
 have hsz : (Try.prog.info? 170).map (·.size) = some 2 := by kernel_rfl
 have hkk : (n : Int) + (m : Int) - (i : Int) = ((n + m - i : Nat) : Int) := by omega
 have hik : i + (n + m - i) = n + m := by omega
 have hold : (Builtin.firstCells i0.size i (.slice (some ⟨g, 0, none⟩) i c)).run Try.prog w.drew = .ok (cs.take (i * 2)).toArray w.drew := by
  rw [hzs]
  exact run_firstCells_some w.drew 2 i ⟨g, 0, none⟩ i c (cs.take (i * 2)) (by rw [List.length_take]; omega) (fun j v hj => by
   rw [Addr.add_lit, Nat.zero_add]
   rw [List.getElem?_take] at hj
   split at hj
   ·exact hcs j v hj
   ·cases hj)
 have hrz : ∀ ty, (Builtin.append_ #[82, 3] ty #[.slice (some ⟨g, 0, none⟩) i c, .int .i64 ((n : Int) + (m : Int) - (i : Int))]).run Try.prog w =
   .ok (.slice (some ⟨w.heap.size, 0, none⟩) (n + m) (grownCap w (n + m) c 170)) (w.drew.alloc (.cells ((cs.take (i * 2)).toArray ++ Builtin.zeroCells (.agg #[.string ⟨#[]⟩, .string ⟨#[]⟩] : Value).cells (n + m - i) ++ Builtin.zeroCells (.agg #[.string ⟨#[]⟩, .string ⟨#[]⟩] : Value).cells (grownCap w (n + m) c 170 - (n + m))) 170)) := fun ty => by
  have h := Lib.run_append_grow_zeros (P := Try.prog) w 82 3 ty 170 i0 _ .i64 .i64 hu Try.underlying3 hi0 hz0 (some ⟨g, 0, none⟩) i c (cs.take (i * 2)) hold (n + m - i) (by omega) (by rw [hzs]; decide) (by omega) (by omega) (by rw [hzb]; omega) (by rw [hzb, hik]; exact growslice_fits hroom hbig)
  rw [hik] at h
  rw [hkk]
  exact h
 obtain ⟨G, hG⟩ : ∃ G, G = grownCap w (n + m) c 170 := ⟨_, rfl⟩
 obtain ⟨ROW, hROW⟩ : ∃ ROW : Array Value, ROW = (cs.take (i * 2)).toArray ++ Builtin.zeroCells (.agg #[.string ⟨#[]⟩, .string ⟨#[]⟩] : Value).cells (n + m - i) ++ Builtin.zeroCells (.agg #[.string ⟨#[]⟩, .string ⟨#[]⟩] : Value).cells (G - (n + m)) := ⟨_, rfl⟩
 rw [← hG] at hrz ⊢
 rw [← hROW] at hrz ⊢
 have hRl : (n + m) * 2 ≤ ROW.size := by
  rw [hROW]
  have e : ∀ q, (Builtin.zeroCells (.agg #[.string ⟨#[]⟩, .string ⟨#[]⟩] : Value).cells q).size = q * 2 := fun q => by simp [Builtin.zeroCells, Value.cells]
  rw [Array.size_append, Array.size_append, e, List.size_toArray, List.length_take]
  omega
 obtain ⟨W1, hW1⟩ : ∃ W1, W1 = w.drew.alloc (.cells ROW 170) := ⟨_, rfl⟩
 rw [← hW1] at hrz
 have hN : ∀ j, j < (n + m) * 2 → (W1.cell? ⟨w.heap.size, j, none⟩).isSome = true := fun j hj => by
  rw [hW1, World.cell?_alloc_at (w := w.drew) ROW _ w.heap.size j rfl, Array.getElem?_eq_getElem (by omega)]; rfl
 have hNf : ∀ j, W1.frozen? ⟨w.heap.size, j, none⟩ = false := fun j => by rw [hW1]; exact World.frozen?_alloc_at (w := w.drew) ROW _ w.heap.size j rfl
 have hOb : ∀ j v, w.cell? ⟨g, j, none⟩ = some v → W1.cell? ⟨g, j, none⟩ = some v := fun j v h => by rw [hW1, World.cell?_alloc_past (w := w.drew) _ g j hgw]; exact h
 have hOv : ∀ j v, w.cell? ⟨vb, j, none⟩ = some v → W1.cell? ⟨vb, j, none⟩ = some v := fun j v h => by rw [hW1, World.cell?_alloc_past (w := w.drew) _ vb j hvw]; exact h
 have hcpA : ∀ (W : World), (∀ x, W.cell? x = W1.cell? x) → (∀ x, W.frozen? x = W1.frozen? x) → ∀ ty dc, (Builtin.copy_ #[82, 82] ty #[.slice (some ⟨w.heap.size, i * 2, none⟩) (n + m - i) dc, .slice (some ⟨vb, 0, none⟩) m vc]).run Try.prog W = .ok (goInt (m : Int)) (W.setCells w.heap.size (i * 2) vs) := fun W hWc hWf ty dc => by
  have h := run_copyK (P := Try.prog) 2 W 82 82 ty 170 w.heap.size (i * 2) (n + m - i) dc ⟨vb, 0, none⟩ m vc vs hu hsz (by rw [hvl, show Nat.min m (n + m - i) = m from by simp only [Nat.min_def]; split <;> omega])
   (fun j v hj => by rw [Addr.add_lit, Nat.zero_add, hWc]; exact hOv _ v (hvs j v hj))
   (fun j hj => by rw [hWc]; exact hN _ (by rw [hvl] at hj; omega)) (fun j hj => by rw [hWf]; exact hNf _) h1v
  rwa [show Nat.min m (n + m - i) = m from by simp only [Nat.min_def]; split <;> omega] at h
 have hGn : n + m ≤ G := by rw [hG]; exact grownCap_ge w _ _ _
 have hG63 : G ≤ 9223372036854775807 := by
  have := grownCap_le_maxLen w (n + m) c 170 (by unfold maxLen; omega)
  rw [← hG] at this
  unfold maxLen at this
  omega
 have hGi : ¬ (G = i) := by omega
 have hGim : ¬ (G = i + m) := by omega
 have hci : ¬ (c = i) := by omega
 have hgN : g ≠ w.heap.size := by omega
 have hdl : (cs.drop (i * 2)).length = (n - i) * 2 := by rw [List.length_drop, hcl]; omega
 have hcpB : ∀ (W : World), (∀ x, W.cell? x = (W1.setCells w.heap.size (i * 2) vs).cell? x) → (∀ x, W.frozen? x = (W1.setCells w.heap.size (i * 2) vs).frozen? x) → ∀ ty dc sc, (Builtin.copy_ #[82, 82] ty #[.slice (some ⟨w.heap.size, (i + m) * 2, none⟩) (n + m - (i + m)) dc, .slice (some ⟨g, i * 2, none⟩) (n - i) sc]).run Try.prog W = .ok (goInt ((n - i : Nat) : Int)) (W.setCells w.heap.size ((i + m) * 2) (cs.drop (i * 2))) := fun W hWc hWf ty dc sc => by
  have h := run_copyK (P := Try.prog) 2 W 82 82 ty 170 w.heap.size ((i + m) * 2) (n + m - (i + m)) dc ⟨g, i * 2, none⟩ (n - i) sc (cs.drop (i * 2)) hu hsz (by rw [hdl, show Nat.min (n - i) (n + m - (i + m)) = n - i from by simp only [Nat.min_def]; split <;> omega])
   (fun j v hj => by
    rw [Addr.add_lit, hWc, World.cell?_setCells_out _ _ _ _ _ (fun h _ => absurd h hgN)]
    exact hOb _ v (hcs (i * 2 + j) v (by rwa [List.getElem?_drop] at hj)))
   (fun j hj => by rw [hWc]; exact isSome_setCells _ vs (i * 2) W1 (fun q hq => hN _ (by rw [hvl] at hq; omega)) _ (hN _ (by rw [hdl] at hj; omega)))
   (fun j hj => by rw [hWf, World.frozen?_setCells]; exact hNf _) (fun v hv => h1c v (List.mem_of_mem_drop hv))
  rwa [show Nat.min (n - i) (n + m - (i + m)) = n - i from by simp only [Nat.min_def]; split <;> omega] at h
 subst hW1
 have hE1 : ∀ x, ((w.alloc (.cells ROW 170)).drew).cell? x = (w.drew.alloc (.cells ROW 170)).cell? x := fun x => rfl
 have hE2 : ∀ x, ((w.alloc (.cells ROW 170)).drew).frozen? x = (w.drew.alloc (.cells ROW 170)).frozen? x := fun x => rfl
 have hF1 : ∀ x, (((w.alloc (.cells ROW 170)).drew.setCells w.heap.size (i * 2) vs).drew).cell? x = ((w.drew.alloc (.cells ROW 170)).setCells w.heap.size (i * 2) vs).cell? x := fun x => rfl
 have hF2 : ∀ x, (((w.alloc (.cells ROW 170)).drew.setCells w.heap.size (i * 2) vs).drew).frozen? x = ((w.drew.alloc (.cells ROW 170)).setCells w.heap.size (i * 2) vs).frozen? x := fun x => rfl
 have hw1 : IntKind.i64.wrap ((i : Int) + (m : Int)) = (i : Int) + (m : Int) := by rw [IntKind.wrap_i64]; omega
 have hb1 : (0 : Int) ≤ (i : Int) + (m : Int) := by omega
 have hin : i ≤ n := by omega
 have htn : ((i : Int) + (m : Int)).toNat = i + m := by omega
 have hb3 : (i : Int) ≤ (n : Int) := by omega
 clear hkk hik hold hROW hG hRl
 go_enter Try.func184, Try.ntmps184
 go_wp2_with (first
  | (at_builtin; refine Lib.wpList_append_run _ rfl _ _ _ _ rfl _ _ rfl rfl _ _ (hrz _) ?_)
  | (at_builtin; refine wpList_copy_runI _ rfl _ _ 82 82 rfl _ _ rfl rfl (hcpA _ hE1 hE2 _ _) ?_)
  | (at_builtin; refine wpList_copy_runI _ rfl _ _ 82 82 rfl _ _ rfl rfl (hcpB _ (fun _ => rfl) (fun _ => rfl) _ _ _) ?_))
 go_region_law_o (refine step_copy_runI rfl _ _ 82 82 rfl (.slice (some ⟨w.heap.size, (i + m) * 2, none⟩) (n + m - (i + m)) (G - (i + m))) (.slice (some ⟨g, i * 2, none⟩) (n - i) (c - i)) (by simp [Act.eval, Act.put]) (by simp [Act.eval, Act.put]) (hcpB _ hF1 hF2 3 (G - (i + m)) (c - i)) ?_)
 go_wp2
 go_ret
 exact ⟨rfl, rfl⟩
end Go.Proofs.Ytidjdkodgddfcaa.P
end

section
namespace Go.Proofs.Ytidjdkodgddfcaa.P
open Go.RowKit Go.Proofs.YtidjdkodgddfcaaW.PrintWords Go.Proofs.YtidjdkodgddfcaaW.PrintLast Go.Proofs.YtidjdkodgddfcaaW.PrintMore
attribute [local go_sem] str_gtr str_leq str_geq qb1 qz max_two min_two qv qu qa1 qy
set_option linter.unusedVariables false
set_option linter.unusedSimpArgs false
theorem zeroCells_length (cs : Array Value) (n : Nat) : (Builtin.zeroCells cs n).toList.length = n * cs.size := by simp [Builtin.zeroCells]
theorem zeroCells_one (cs : Array Value) (n : Nat) (hp : 0 < cs.size) (h : ∀ v ∈ cs, v.oneCell' = true) : ∀ v ∈ (Builtin.zeroCells cs n).toList, v.oneCell' = true := by
 intro v hv
 simp only [Builtin.zeroCells, Array.toList_map, List.mem_map] at hv
 obtain ⟨i, _, rfl⟩ := hv
 rw [getElem!_pos cs (i % cs.size) (Nat.mod_lt _ hp)]
 exact h _ (Array.getElem_mem _)
def StayBut (W W' : World) (v : Value) : Prop := W.heap.size ≤ W'.heap.size ∧ ∀ k, k < W.heap.size → some k ≠ v.ownBlock → W'.heap[k]? = W.heap[k]?
theorem StayBut.below {W W' : World} (h : Below W.heap.size W W') (v : Value) : StayBut W W' v := ⟨h.size, fun k hk _ => h.block k hk⟩
theorem StayBut.step {W W1 W2 : World} {v : Value} (h : StayBut W W1 v) (hb : Below W1.heap.size W1 W2) : StayBut W W2 v := ⟨Nat.le_trans h.1 hb.size, fun k hk hv => (hb.block k (Nat.lt_of_lt_of_le hk h.1)).trans (h.2 k hk hv)⟩
theorem StayBut.grown {W W1 W2 : World} {v : Value} {g : Nat} (h : StayBut W W1 v) (hg : W1.grownBy W2 (some g)) (hv : v.ownBlock = some g) : StayBut W W2 v := ⟨Nat.le_trans h.1 hg.size, fun k hk hk2 => (hg.block k (Nat.lt_of_lt_of_le hk h.1) (by rw [← hv]; exact hk2)).trans (h.2 k hk hk2)⟩
end Go.Proofs.Ytidjdkodgddfcaa.P
end

section
namespace Go.Proofs.Ytidjdkodgddfcaa.P
open Go.RowKit Go.Proofs.YtidjdkodgddfcaaW.PrintWords Go.Proofs.YtidjdkodgddfcaaW.PrintLast Go.Proofs.YtidjdkodgddfcaaW.PrintMore
attribute [local go_sem] str_gtr str_leq str_geq qb1 qz max_two min_two qv qu qa1 qy
set_option linter.unusedVariables false
set_option linter.unusedSimpArgs false
theorem R_clear_tail {α : Type} (d : Kd α) {P : Program} {e : Nat} {W : World} {base : Nat} {ok : Nat → Prop} {g n cap : Nat} {xs : List α} (HO : d.R e W base ok (.slice (some ⟨g, 0, none⟩) n cap) xs) (q : Nat) (hq : n + (q + 1) ≤ cap) (t : TypeId) (z : Value)
  (ht : P.underlying t = some (.slice e)) (hv : ∀ w, (zeroValue e).run P w = .ok z w) (hz : z.cells.size = d.sz) (h0 : 0 < d.sz) (h1 : ∀ v ∈ z.cells, v.oneCell' = true) (c' : Nat) :
  ∃ W', (∀ ty, (Builtin.clear_ #[t] ty #[.slice (some ⟨g, n * d.sz, none⟩) (q + 1) c']).run P W = .ok (.tuple #[]) W') ∧ d.R e W' base ok (.slice (some ⟨g, 0, none⟩) n cap) xs ∧ W.grownBy W' (some g) := by
 have hn : n = xs.length := (Kd.R_reads' HO).1
 subst hn
 obtain ⟨h2, inner, ho, hr⟩ := HO
 rcases ho.2 with ⟨hv0, _⟩ | ⟨g', cap', cur, hv0, hb, hh, hnc, hcm, hcs, htk⟩
 ·cases hv0
 injection hv0 with ea _ ec
 injection ea with ea
 injection ea with eg
 subst eg; subst ec
 have hlen : (Builtin.zeroCells z.cells (q + 1)).toList.length = (q + 1) * d.sz := by rw [zeroCells_length, hz]
 have hfit : xs.length * d.sz + (q + 1) * d.sz ≤ cur.size := by
  rw [← Nat.add_mul, hcs]
  exact Nat.mul_le_mul_right _ (by omega)
 generalize (q + 1) * d.sz = S at hlen hfit
 have hst := run_storeCells_cells (P := P) g (xs.length * d.sz) (Builtin.zeroCells z.cells (q + 1)).toList 0 W (fun j hj => by rw [cell_of_row W g _ cur e (0, 0) hh]; rw [hlen] at hj; simp; omega) (fun j _ => qe hh _) (zeroCells_one _ _ (by omega) h1)
 simp only [Nat.add_zero] at hst
 refine ⟨W.setCells g (xs.length * d.sz) (Builtin.zeroCells z.cells (q + 1)).toList, fun ty => ?_, ?_, ?_⟩
 ·simp [Builtin.clear_, run_underlying ht, hv, hst]
 ·refine ⟨h2, inner, ?_, hr.imp_ (fun _ _ hp => d.M_move (fun k hk => setCells_far _ _ k (fun he => hk.2 (by rw [he]; simp [Value.ownBlock]))) hp)⟩
  obtain ⟨cur', h3, h4, h5⟩ := setCells_row (Builtin.zeroCells z.cells (q + 1)).toList (xs.length * d.sz) W cur hh (by rw [hlen]; exact hfit)
  refine ⟨ho.1, .inr ⟨g, cap, cur', rfl, hb, h3, hnc, hcm, by rw [h4, hcs], ?_⟩⟩
  rw [h5, ← htk, List.append_assoc, List.take_append_of_le_length (by rw [List.length_take, Array.length_toList (xs := cur)]; omega), List.take_take, Nat.min_self]
 ·obtain ⟨s1, s2, s3, s4⟩ := setCells_same g (Builtin.zeroCells z.cells (q + 1)).toList (xs.length * d.sz) W
  exact ⟨s1, s2, s3, by rw [s4]; exact Nat.le_refl _, fun k _ hk => setCells_far _ _ k (fun he => hk (by rw [he]))⟩
section
attribute [-go_sem] Go.Builtin.append_
end
end Go.Proofs.Ytidjdkodgddfcaa.P
end

section
namespace Go.Proofs.Ytidjdkodgddfcaa.P
open Go.RowKit Go.Proofs.YtidjdkodgddfcaaW.PrintWords Go.Proofs.YtidjdkodgddfcaaW.PrintLast Go.Proofs.YtidjdkodgddfcaaW.PrintMore
attribute [local go_sem] str_gtr str_leq str_geq qb1 qz max_two min_two qv qu qa1 qy
set_option linter.unusedVariables false
set_option linter.unusedSimpArgs false
open Go.Shelf Go.Lib
def impl_File_179.f (l0 : List S170) : Option (List S170) := if l0.length * 32 ≤ 140737488355328 then some l0 else none
theorem impl_File_179.calls (A0 : Option Addr) (c0 : Nat) (l0 : List S170) (r : List S170) (w : World) (hr0 : Kd.C k170 w A0 l0.length l0) (hc0 : l0.length ≤ c0) (h : impl_File_179.f l0 = some r) :
  Calls Try.prog 179 #[.slice A0 l0.length c0] w fun e w' => ∃ v0_ : Value, e = .returned v0_ ∧ Kd.R k170 170 w' w.heap.size (fun _ => True) v0_ r ∧ Below w.heap.size w w' := by
 unfold impl_File_179.f at h
 split at h
 ·rename_i hl
  obtain rfl := Option.some.inj h
  exact clone_File A0 c0 l0 w w (Below.refl _ _) hr0 hl
 ·cases h
theorem R_okF {W : World} {base : Nat} {ok : Nat → Prop} {v : Value} {xs : List S170} (h : Kd.R k170 170 W base (fun _ => True) v xs) (hok : ∀ k, v.ownBlock = some k → ok k) : Kd.R k170 170 W base ok v xs := by
 obtain ⟨_, inner, hown, hreps⟩ := h
 exact ⟨hok, inner, hown, hreps.imp_ (fun _ _ q => by rw [k170_openM q]; exact k170_mkM _ _ _ _)⟩
theorem kept_of_grown {W W' : World} {v : Value} {P : Nat → Prop} (hg : W.grownBy W' v.ownBlock) (hp : ∀ k, v.ownBlock = some k → P k) : Kept W W' P := ⟨hg.size, fun i hi hn => hg.block i hi (fun e => hn (hp i e.symm))⟩
def impl_File_184.f (l0 : List S170) (a1 : Int) (l2 : List S170) : Option (List S170) :=
 match l2 with
 | [x] => if 0 ≤ a1 ∧ a1 ≤ (l0.length : Int) ∧ (l0.length + 1) * 32 ≤ 140737488355328 then some (l0.take a1.toNat ++ x :: l0.drop a1.toNat) else none
 | _ => none
set_option maxHeartbeats 4000000 in
set_option maxRecDepth 100000 in
theorem insertP_File (P0 : Nat → Prop) (A : Option Addr) (n c i vb vc : Nat) (xs : List S170) (x : S170) (vs : List Value) (cur : Array Value) (tv : TypeId) (w0 W : World) (hB : Below w0.heap.size w0 W) (hr : Kd.R k170 170 W w0.heap.size P0 (.slice A n c) xs) (hi : i ≤ n)
  (hx : k170.M W w0.heap.size (fun _ => True) x vs) (hvs : W.heap[vb]? = some (.cells cur tv (0, 0))) (hvt : ∀ (j : Nat) (v : Value), vs[j]? = some v → cur[j]? = some v) (hvc : 1 ≤ vc) (hne : some vb ≠ (Value.slice A n c).ownBlock) (hl : (n + 1) * 32 ≤ 140737488355328) :
  Calls Try.prog 184 #[.slice A n c, .int .i64 i, .slice (some ⟨vb, 0, none⟩) 1 vc] W fun e w' => ∃ v, e = .returned v ∧ Kd.R k170 170 w' w0.heap.size (fun k => P0 k ∨ W.heap.size ≤ k) v (xs.take i ++ x :: xs.drop i) ∧ Below w0.heap.size w0 w' ∧ Kept W w' P0 := by
 have hbase := hB.size
 have hu := Try.underlying82
 have mixed : Try.prog.follows .mixedOrders = true := by kernel_rfl
 obtain ⟨hn, hnc, hC⟩ := Kd.R_reads' hr
 have hvl : vs.length = 1 * 2 := k170.K_len (k170.K_of_M hx)
 have hcv : ∀ j v, vs[j]? = some v → W.cell? ⟨vb, j, none⟩ = some v := fun j v hj => by rw [cell_of_row W vb _ _ _ (0, 0) hvs]; exact hvt j v hj
 have hcz : vs.length ≤ cur.size := by
  rcases Nat.lt_or_ge cur.size vs.length with h | h
  ·have := hvt _ _ (List.getElem?_eq_getElem h)
   rw [Array.getElem?_eq_none (Nat.le_refl _)] at this
   cases this
  ·exact h
 have h1v : ∀ v ∈ vs, v.oneCell' = true := k170.K_one (k170.K_of_M hx)
 have hM : ∀ {W W' : World} {b : Nat} {ok ok' : Nat → Prop} {p : S170} {q : List Value}, k170.M W b ok p q → k170.M W' b ok' p q := fun h => by rw [k170_openM h]; exact k170_mkM _ _ _ _
 have hrT := Kd.R_mono (ok' := fun _ => True) hr (fun _ _ => trivial)
 rcases Nat.lt_or_ge i n with hlt | hge
 ·obtain ⟨g, cap, ef, hbg, hgw, _⟩ := Kd.R_form hr (by omega)
  injection ef with e1 e2 e3
  subst e1; subst e3
  have hne' : vb ≠ g := fun e => hne (by simp [Value.ownBlock, e])
  have hPg : P0 g := hr.1 g rfl
  have hg0 : ∀ q, (some g : Option Nat) = some q → w0.heap.size ≤ q := fun q hq => by injection hq with hq; subst hq; exact hbg
  rcases Nat.lt_or_ge c (n + 1) with hroom | hroom
  ·obtain ⟨_, inner, hown, hrp⟩ := hrT
   obtain ⟨hin, hv⟩ := hown
   rw [← hn] at hin
   replace hin : inner.length = n * 2 := hin
   have hcell : ∀ j u, inner[j]? = some u → W.cell? ⟨g, j, none⟩ = some u := by
    rcases hv with ⟨hv, _⟩ | ⟨g', cap', cur, hv, _, hh, _, _, hcs, htk⟩
    ·cases hv
    injection hv with ea _ ec
    injection ea with ea
    injection ea with eg
    subst eg; subst ec
    intro j u hj
    rw [cell_of_row W g _ cur 170 (0, 0) hh, ← Array.getElem?_toList]
    rw [← htk, List.getElem?_take] at hj
    split at hj
    ·exact hj
    ·cases hj
   have hone : ∀ u ∈ inner, u.oneCell' = true := by
    intro u hu
    obtain ⟨q, hq, rfl⟩ := List.mem_iff_getElem.1 hu
    have hql : q / 2 < xs.length := by omega
    refine k170.K_one (k170.K_of_M (hrp.2 (q / 2) _ (List.getElem?_eq_getElem hql))) _ ?_
    rw [List.mem_iff_getElem?]
    refine ⟨q % 2, ?_⟩
    rw [show k170.sz = 2 from rfl, List.getElem?_take, if_pos (by omega), List.getElem?_drop, show q / 2 * 2 + q % 2 = q from by omega, List.getElem?_eq_getElem hq]
   refine (insGrow_File g n c i vb 1 vc inner vs W hlt (by decide) hnc hroom hl hin hvl hgw (blk_lt hvs) hcell hcv hone h1v).mono ?_
   rintro e w' ⟨rfl, rfl⟩
   have hGn : n + 1 ≤ grownCap W (n + 1) c 170 := grownCap_ge W _ _ _
   have hGm : grownCap W (n + 1) c 170 ≤ maxLen := grownCap_le_maxLen W (n + 1) c 170 (by unfold maxLen; omega)
   generalize grownCap W (n + 1) c 170 = G at hGn hGm
   have hz : ∀ q, (Builtin.zeroCells (.agg #[.string ⟨#[]⟩, .string ⟨#[]⟩] : Value).cells q).size = q * 2 := fun q => by simp [Builtin.zeroCells, Value.cells]
   have htl : (inner.take (i * 2)).length = i * 2 := by rw [List.length_take]; omega
   have far : ∀ (cs : List Value) (o : Nat) (w1 : World), (Below w0.heap.size w0 w1 ∧ Kept W w1 P0) → w1.heap.size = W.heap.size + 1 → (Below w0.heap.size w0 (w1.setCells W.heap.size o cs) ∧ Kept W (w1.setCells W.heap.size o cs) P0) ∧ (w1.setCells W.heap.size o cs).heap.size = W.heap.size + 1 := fun cs o w1 hb hs => by
    obtain ⟨s1, s2, s3, s4⟩ := setCells_same W.heap.size cs o w1
    exact ⟨⟨hb.1.trans ⟨s1, s2, s3, by rw [s4]; exact Nat.le_refl _, fun q hq => setCells_far _ _ q (by omega)⟩, by rw [s4]; exact hb.2.1, fun q hq hn => (setCells_far _ _ q (by omega)).trans (hb.2.2 q hq hn)⟩, by rw [s4, hs]⟩
   have f1 := far vs (i * 2) ((W.alloc (.cells ((inner.take (i * 2)).toArray ++ Builtin.zeroCells (.agg #[.string ⟨#[]⟩, .string ⟨#[]⟩] : Value).cells (n + 1 - i) ++ Builtin.zeroCells (.agg #[.string ⟨#[]⟩, .string ⟨#[]⟩] : Value).cells (G - (n + 1))) 170)).drew) ⟨below_drew (hB.alloc hbase _), (Kept.refl W P0).alloc _⟩ (by simp)
   have f2 := (far (inner.drop (i * 2)) ((i + 1) * 2) _ ⟨below_drew f1.1.1, f1.1.2⟩ f1.2).1
   refine ⟨_, rfl, R_okF (R_grow_in (W1 := (W.alloc _).drew) k170 hM (Kd.R_mono hr (fun _ _ => trivial)) inner hin hcell i (by omega) hGn hGm x vs hx hvl _ ?_ ?_ hbase (qk (blk_new W _))) (fun k hk => .inr (Nat.le_of_eq (by simpa [Value.ownBlock] using hk))), f2⟩
   ·rw [Array.size_append, Array.size_append, hz, hz, List.size_toArray, htl, show k170.sz = 2 from rfl]
    omega
   ·rw [show k170.sz = 2 from rfl, Array.toList_append, Array.toList_append, List.append_assoc]
    exact List.take_left' htl
  ·obtain ⟨inner, hin, hcell, hone, hsome, hfz, hsh, hc63, hR, hg⟩ := R_shift_in k170 hM hrT i (by omega) hroom x vs hx hvl
   refine (insShift_File g n c i vb 1 vc inner vs W hlt (by decide) hroom hc63 hne' hin hvl hcell hsome hfz hcv hone h1v tv 170 cur.size (c * 2) (by simp [World.shape?, hvs]) hsh (by omega) (qe hvs _) (qe hvs _)).mono ?_
   rintro e w' ⟨rfl, rfl⟩
   exact ⟨_, rfl, R_okF hR (fun k hk => .inl (by have hk : g = k := (by simpa [Value.ownBlock] using hk); rw [← hk]; exact hPg)), hB.grown hg hbase hg0, kept_of_grown (v := .slice (some ⟨g, 0, none⟩) n c) hg (fun k hk => hr.1 k hk)⟩
 ·obtain rfl : i = n := by omega
  have hA : i = xs.length := hn
  have hee : ((i : Int) == (i : Int)) = true := by simp
  have hC1 : Kd.C k170 W (some ⟨vb, 0, none⟩) [x].length [x] := C_one hvl (k170.K_of_M hx) hcv
  have HC1 := Qz.mk hC1
  have HR := Qz.mk (Kd.R_mono (ok' := fun k => P0 k ∨ W.heap.size ≤ k) hr (fun k hk => .inl hk))
  have HB := Qz.mk hB
  have HL := Qz.mk hl
  have HP := Qz.mk hr.1
  clear hr hrT hB hC1 hx hvs hcv h1v hC hvl hM hne hvt hcz
  rw [List.take_of_length_le (by omega), List.drop_eq_nil_of_le (by omega)]
  go_enter Try.func184, Try.ntmps184
  go_wp2_with (first | ((with_reducible refine gate_builtin (b := .append) (xs := #[.tmp 23, .tmp 24]) rfl ?_); at_builtin; refine Kd.R_append_rows k170 (w0 := w0) w0.heap.size rfl (.tmp 23) (.tmp 24) 82 170 (.agg #[.string ⟨#[]⟩, .string ⟨#[]⟩]) 32 rfl hu info170 rfl (by decide) (by omega) (.slice A i c) xs [x] (some ⟨vb, 0, none⟩) 1 vc (fun k => P0 k ∨ W.heap.size ≤ k) (fun _ => False) rfl rfl ?aO ?aR (fun _ _ h => h) (fun _ h => h.elim) ?aF ?aB ?aS ?aL ?_; (case aO => exact HR.out); (case aR => exact HC1.out); (case aF => exact fun _ hk => .inr hk); (case aB => exact HB.out); (case aS => exact hbase); (case aL => have := HL.out; omega); intro v1 w2 ho hb hg hat))
  all_goals go_ret
  all_goals exact ⟨_, rfl, ho, hb, kept_of_grown hg (fun k hk => HP.out k hk)⟩
theorem impl_File_184.calls (P0_ : Nat → Prop) (u9000_ : Value) (l0 : List S170) (a1 : Int) (P2_ : Nat → Prop) (u9001_ : Value) (l2 : List S170) (r : List S170) (w0 w : World) (hB : Below w0.heap.size w0 w) (ho0 : Kd.R k170 170 w w0.heap.size P0_ u9000_ l0) (hp0_2 : ∀ k_, P0_ k_ → ¬ P2_ k_) (ho2 : Kd.R k170 170 w w0.heap.size P2_ u9001_ l2) (hp2_0 : ∀ k_, P2_ k_ → ¬ P0_ k_) (h : impl_File_184.f l0 a1 l2 = some r) :
  Calls Try.prog 184 #[u9000_, .int .i64 a1, u9001_] w fun e w' => ∃ v0_ : Value, e = .returned v0_ ∧ Kd.R k170 170 w' w0.heap.size (fun k_ => ((P0_ k_ ∨ P2_ k_) ∨ w.heap.size ≤ k_)) v0_ r ∧ Below w0.heap.size w0 w' ∧ Kept w w' (fun k_ => P0_ k_ ∨ P2_ k_) := by
 unfold impl_File_184.f at h
 split at h
 ·rename_i x
  split at h
  ·rename_i hq
   obtain rfl := Option.some.inj h
   obtain ⟨i, rfl⟩ : ∃ i : Nat, a1 = i := ⟨a1.toNat, by omega⟩
   rw [Int.toNat_natCast]
   obtain ⟨A, c, e0⟩ := Kd.R_slice ho0
   subst e0
   obtain ⟨hok2, inner, hown, hreps⟩ := ho2
   rcases hown.2 with ⟨hv, hz⟩ | ⟨vb, vc, cur, hv, hb, hh, hnc, hcm, hcs, htk⟩
   ·exact absurd hz (by simp)
   subst hv
   have hil : inner.length = 2 := hown.1
   have hx : k170.M w w0.heap.size (fun _ => True) x inner := by
    have := hreps.2 0 x rfl
    rw [Nat.zero_mul, List.drop_zero, List.take_of_length_le (by rw [hil]; exact Nat.le_refl _)] at this
    rw [k170_openM this]; exact k170_mkM _ _ _ _
   refine (insertP_File P0_ A l0.length c i vb vc l0 x inner cur 170 w0 w hB ho0 (by omega) hx hh ?_ (by simpa using hnc) ?_ hq.2.2).mono ?_
   ·intro j v hj
    rw [← htk, List.getElem?_take] at hj
    split at hj
    ·rw [← Array.getElem?_toList]; exact hj
    ·cases hj
   ·exact fun e => hp0_2 vb (ho0.1 vb e.symm) (hok2 vb rfl)
   ·rintro e w' ⟨v, rfl, hR, hB', hK⟩
    exact ⟨v, rfl, Kd.R_mono hR (fun k hk => hk.elim (fun q => .inl (.inl q)) .inr), hB', hK.mono (fun _ q => .inl q)⟩
  ·cases h
 ·cases h
def impl_File_185.f (l0 : List S170) (a1 : Int) (a2 : Int) : Option (List S170) := if 0 ≤ a1 ∧ a1 < (l0.length : Int) ∧ a2 = a1 + 1 then some (l0.eraseIdx a1.toNat) else none
section
attribute [-go_sem] Go.Builtin.append_
set_option maxHeartbeats 4000000 in
set_option maxRecDepth 100000 in
theorem deleteP_File (P0 : Nat → Prop) (i g n c : Nat) (xs : List S170) (w0 W : World) (hB : Below w0.heap.size w0 W) (hr : Kd.R k170 170 W w0.heap.size P0 (.slice (some ⟨g, 0, none⟩) (n + 1) c) xs) (hi : i < n + 1) :
  Calls Try.prog 185 #[.slice (some ⟨g, 0, none⟩) (n + 1) c, .int .i64 i, .int .i64 ((i + 1 : Nat) : Int)] W fun e w' => e = .returned (.slice (some ⟨g, 0, none⟩) n c) ∧ Kd.R k170 170 w' w0.heap.size P0 (.slice (some ⟨g, 0, none⟩) n c) (xs.eraseIdx i) ∧ Below w0.heap.size w0 w' ∧ Kept W w' P0 := by
 have hbase := hB.size
 obtain ⟨hn, hnc, hC⟩ := Kd.R_reads' hr
 have hmax : c ≤ 9223372036854775807 := by
  obtain ⟨inner, ho⟩ := Kd.R_own hr
  rcases ho.2 with ⟨hv0, _⟩ | ⟨g', cap', cur, hv0, hb, hh, h1, h2, _⟩
  ·cases hv0
  ·injection hv0 with _ _ ec
   rw [ec]; exact h2
 clear hC hn
 obtain ⟨i0, hi0, hsz⟩ := Option.map_eq_some_iff.1 (show (Try.prog.info? 170).map (·.size) = some (k170).sz from by kernel_rfl)
 obtain ⟨W1, hap, hR1, hg1⟩ := Kd.R_delete_run (P := Try.prog) k170 w0.heap.size 82 82 170 i0 Try.underlying82 hi0 hsz (Kd.R_drew hr) hi rfl (c - (i + 1))
 obtain ⟨W2, hcl, hR2, hg2⟩ := R_clear_tail (P := Try.prog) k170 hR1 0 (by omega) 82 (.agg #[.string ⟨#[]⟩, .string ⟨#[]⟩]) Try.underlying82 (fun w => by kernel_rfl) rfl (by decide) (by intro q hq; simp [Value.cells] at hq; rcases hq with rfl | rfl <;> rfl) (c - n)
 have hcl0 := hcl 0
 clear hcl
 have hbs : ∀ q, (some g : Option Nat) = some q → w0.heap.size ≤ q := fun q hq => by injection hq with hq; subst hq; exact Kd.R_base hr _ (by simp [Value.ownBlock])
 have HB2 := Qz.mk ((below_drew hB).grown hg1 hbase hbs |>.grown hg2 (Nat.le_trans hbase hg1.size) hbs)
 have hPg : ∀ k, (Value.slice (some ⟨g, 0, none⟩) (n + 1) c).ownBlock = some k → P0 k := fun k hk => hr.1 k hk
 have hk1 : Kept W.drew W1 P0 := kept_of_grown (v := .slice (some ⟨g, 0, none⟩) (n + 1) c) hg1 hPg
 have hk2 : Kept W1 W2 P0 := kept_of_grown (v := .slice (some ⟨g, 0, none⟩) (n + 1) c) hg2 hPg
 have HK2 := Qz.mk (show Kept W W2 P0 from ⟨Nat.le_trans hk1.1 hk2.1, fun k hk hn => (hk2.2 k (Nat.lt_of_lt_of_le hk hk1.1) hn).trans (hk1.2 k hk hn)⟩)
 have HR2 := Qz.mk hR2
 have hz : ((i : Int) == ((i + 1 : Nat) : Int)) = false := beq_eq_false_iff_ne.2 (by omega)
 clear hR1 hR2 hB hg1 hg2 hr hbs hPg hk1 hk2
 have hsl : (k170).sz = 2 := rfl
 rw [hsl] at hap hcl0
 rw [Nat.add_sub_cancel, Nat.zero_add] at hcl0
 rw [Nat.add_sub_cancel] at hap HR2
 by_cases hc : c = i + 1
 ·rw [if_pos hc] at hap
  obtain rfl : n = i := by omega
  subst hc
  simp only [Nat.sub_self] at hap
  rw [show n + 1 - n = 1 from by omega] at hcl0
  go_enter Try.func185, Try.ntmps185
  go_wp2
  go_region
  all_goals go_wp2
  all_goals go_ret
  all_goals exact ⟨rfl, HR2.out, HB2.out, HK2.out⟩
 ·rw [if_neg hc, Option.map_some, add_at, Nat.zero_add, show n + 1 - (i + 1) = n - i from by omega] at hap
  go_enter Try.func185, Try.ntmps185
  go_wp2
  go_region
  all_goals go_wp2
  all_goals go_ret
  all_goals exact ⟨rfl, HR2.out, HB2.out, HK2.out⟩
end
theorem impl_File_185.calls (P0_ : Nat → Prop) (u9000_ : Value) (l0 : List S170) (a1 : Int) (a2 : Int) (r : List S170) (w0 w : World) (hB : Below w0.heap.size w0 w) (ho0 : Kd.R k170 170 w w0.heap.size P0_ u9000_ l0) (h : impl_File_185.f l0 a1 a2 = some r) :
  Calls Try.prog 185 #[u9000_, .int .i64 a1, .int .i64 a2] w fun e w' => ∃ v0_ : Value, e = .returned v0_ ∧ Kd.R k170 170 w' w0.heap.size (fun k_ => (P0_ k_ ∨ w.heap.size ≤ k_)) v0_ r ∧ Below w0.heap.size w0 w' ∧ Kept w w' (fun k_ => P0_ k_) := by
 unfold impl_File_185.f at h
 split at h
 ·rename_i hq
  obtain rfl := Option.some.inj h
  obtain ⟨i, rfl⟩ : ∃ i : Nat, a1 = i := ⟨a1.toNat, by omega⟩
  obtain rfl : a2 = ((i + 1 : Nat) : Int) := by omega
  rw [Int.toNat_natCast]
  obtain ⟨g, c, e0, _⟩ := Kd.R_form ho0 (by omega)
  subst e0
  obtain ⟨n, hn⟩ : ∃ n, l0.length = n + 1 := ⟨l0.length - 1, by omega⟩
  rw [hn] at ho0 ⊢
  refine (deleteP_File P0_ i g n c l0 w0 w hB ho0 (by omega)).mono ?_
  rintro e w' ⟨rfl, hR, hB', hK⟩
  exact ⟨_, rfl, Kd.R_mono hR (fun _ q => .inl q), hB', hK⟩
 ·cases h
def cmp_isNaN_string.f (a0 : ByteArray) : Option (Bool) := some (a0.toList != a0.toList)
set_option maxHeartbeats 8000000 in
set_option maxRecDepth 100000 in
theorem cmp_isNaN_string.calls (a0 : ByteArray) (r : Bool) (w : World) (h : cmp_isNaN_string.f a0 = some r) :
  Calls Try.prog 189 #[.string a0] w fun e w' => e = .returned (.bool r) ∧ Drawn0 w w' := by
 have H : (some (a0.toList != a0.toList)) = some r := h
 clear h
 obtain rfl := Option.some.inj H
 go_enter Try.func189, Try.ntmps189
 go_wp2
 go_ret
 exact ⟨by first | rfl | (simp; done) | (simp [*]; done), by repeat (first | exact Drawn0.refl _ | apply Drawn0.step)⟩
theorem yq24 {P : Prop} (h : P := by (try simp only [List.map_toArray, List.map_cons, List.map_nil]); first | done | rfl) : P := h
def cmp_Compare_string.f (a0 : ByteArray) (a1 : ByteArray) : Option (Int) := (cmp_isNaN_string.f a0).bind fun t101 => ((cmp_isNaN_string.f a1).bind fun t102 => (if t101 = true then (if t102 = true then (some 0) else (some (-1))) else (if t102 = true then (some 1) else (if (Op.bytesLess a0.toList a1.toList) = true then (some (-1)) else (if (Op.bytesLess a1.toList a0.toList) = true then (some 1) else (some 0))))))
set_option maxHeartbeats 8000000 in
set_option maxRecDepth 100000 in
theorem cmp_Compare_string.calls (a0 : ByteArray) (a1 : ByteArray) (r : Int) (w : World) (h : cmp_Compare_string.f a0 a1 = some r) :
  Calls Try.prog 164 #[.string a0, .string a1] w fun e w' => e = .returned (.int .i64 r) ∧ Drawn0 w w' := by
 have H : ((cmp_isNaN_string.f a0).bind fun t101 => ((cmp_isNaN_string.f a1).bind fun t102 => (if t101 = true then (if t102 = true then (some 0) else (some (-1))) else (if t102 = true then (some 1) else (if (Op.bytesLess a0.toList a1.toList) = true then (some (-1)) else (if (Op.bytesLess a1.toList a0.toList) = true then (some 1) else (some 0))))))) = some r := h
 clear h
 replace H := Option.bind_eq_some_iff.mp H
 obtain ⟨t101, A30, H⟩ := H
 replace H : ((cmp_isNaN_string.f a1).bind fun t102 => (if t101 = true then (if t102 = true then (some 0) else (some (-1))) else (if t102 = true then (some 1) else (if (Op.bytesLess a0.toList a1.toList) = true then (some (-1)) else (if (Op.bytesLess a1.toList a0.toList) = true then (some 1) else (some 0)))))) = some r := H
 have A3 := Qz.mk A30
 clear A30
 replace H := Option.bind_eq_some_iff.mp H
 obtain ⟨t102, A40, H⟩ := H
 replace H : (if t101 = true then (if t102 = true then (some 0) else (some (-1))) else (if t102 = true then (some 1) else (if (Op.bytesLess a0.toList a1.toList) = true then (some (-1)) else (if (Op.bytesLess a1.toList a0.toList) = true then (some 1) else (some 0))))) = some r := H
 have A4 := Qz.mk A40
 clear A40
 by_cases c5 : t101 = true
 ·subst c5
  have H1 : (if t102 = true then (some 0) else (some (-1))) = some r := by rw [if_pos rfl] at H; exact H
  clear H
  have H := H1
  clear H1
  by_cases c6 : t102 = true
  ·subst c6
   have H1 : (some 0) = some r := by rw [if_pos rfl] at H; exact H
   clear H
   have H := H1
   clear H1
   obtain rfl := Option.some.inj H
   go_enter Try.func164, Try.ntmps164
   go_wp2_with (first | ((with_reducible refine qp (f := 189) rfl ?_); refine qc1 (some 8) rfl rfl Try.func189 (by kernel_rfl) rfl #[.string a0] rfl yq24 ?_; (with_reducible refine (cmp_isNaN_string.calls a0 true _ A3.out).mono ?_); rintro e w' ⟨rfl, ⟨nd, rfl⟩⟩; refine ⟨_, rfl, ?_⟩) | ((with_reducible refine qp (f := 189) rfl ?_); refine qc1 (some 10) rfl rfl Try.func189 (by kernel_rfl) rfl #[.string a1] rfl yq24 ?_; (with_reducible refine (cmp_isNaN_string.calls a1 true _ A4.out).mono ?_); rintro e w' ⟨rfl, ⟨nd, rfl⟩⟩; refine ⟨_, rfl, ?_⟩))
   go_ret
   exact ⟨by first | rfl | (simp; done) | (simp [*]; done), by repeat (first | exact Drawn0.refl _ | apply Drawn0.step)⟩
  ·replace c6 := Bool.eq_false_iff.mpr c6
   subst c6
   have H1 : (some (-1)) = some r := by rw [if_neg (show ¬ (false = true) by decide)] at H; exact H
   clear H
   have H := H1
   clear H1
   obtain rfl := Option.some.inj H
   go_enter Try.func164, Try.ntmps164
   go_wp2_with (first | ((with_reducible refine qp (f := 189) rfl ?_); refine qc1 (some 8) rfl rfl Try.func189 (by kernel_rfl) rfl #[.string a0] rfl yq24 ?_; (with_reducible refine (cmp_isNaN_string.calls a0 true _ A3.out).mono ?_); rintro e w' ⟨rfl, ⟨nd, rfl⟩⟩; refine ⟨_, rfl, ?_⟩) | ((with_reducible refine qp (f := 189) rfl ?_); refine qc1 (some 10) rfl rfl Try.func189 (by kernel_rfl) rfl #[.string a1] rfl yq24 ?_; (with_reducible refine (cmp_isNaN_string.calls a1 false _ A4.out).mono ?_); rintro e w' ⟨rfl, ⟨nd, rfl⟩⟩; refine ⟨_, rfl, ?_⟩))
   go_ret
   exact ⟨by first | rfl | (simp; done) | (simp [*]; done), by repeat (first | exact Drawn0.refl _ | apply Drawn0.step)⟩
 ·replace c5 := Bool.eq_false_iff.mpr c5
  subst c5
  have H1 : (if t102 = true then (some 1) else (if (Op.bytesLess a0.toList a1.toList) = true then (some (-1)) else (if (Op.bytesLess a1.toList a0.toList) = true then (some 1) else (some 0)))) = some r := by rw [if_neg (show ¬ (false = true) by decide)] at H; exact H
  clear H
  have H := H1
  clear H1
  by_cases c7 : t102 = true
  ·subst c7
   have H1 : (some 1) = some r := by rw [if_pos rfl] at H; exact H
   clear H
   have H := H1
   clear H1
   obtain rfl := Option.some.inj H
   go_enter Try.func164, Try.ntmps164
   go_wp2_with (first | ((with_reducible refine qp (f := 189) rfl ?_); refine qc1 (some 8) rfl rfl Try.func189 (by kernel_rfl) rfl #[.string a0] rfl yq24 ?_; (with_reducible refine (cmp_isNaN_string.calls a0 false _ A3.out).mono ?_); rintro e w' ⟨rfl, ⟨nd, rfl⟩⟩; refine ⟨_, rfl, ?_⟩) | ((with_reducible refine qp (f := 189) rfl ?_); refine qc1 (some 10) rfl rfl Try.func189 (by kernel_rfl) rfl #[.string a1] rfl yq24 ?_; (with_reducible refine (cmp_isNaN_string.calls a1 true _ A4.out).mono ?_); rintro e w' ⟨rfl, ⟨nd, rfl⟩⟩; refine ⟨_, rfl, ?_⟩))
   go_ret
   exact ⟨by first | rfl | (simp; done) | (simp [*]; done), by repeat (first | exact Drawn0.refl _ | apply Drawn0.step)⟩
  ·replace c7 := Bool.eq_false_iff.mpr c7
   subst c7
   have H1 : (if (Op.bytesLess a0.toList a1.toList) = true then (some (-1)) else (if (Op.bytesLess a1.toList a0.toList) = true then (some 1) else (some 0))) = some r := by rw [if_neg (show ¬ (false = true) by decide)] at H; exact H
   clear H
   have H := H1
   clear H1
   by_cases c8 : (Op.bytesLess a0.toList a1.toList) = true
   ·rw [if_pos c8] at H
    have c8b0 : (Op.bytesLess a0.toList a1.toList) = true := c8
    clear c8
    obtain rfl := Option.some.inj H
    go_enter Try.func164, Try.ntmps164
    go_wp2_with (first | ((with_reducible refine qp (f := 189) rfl ?_); refine qc1 (some 8) rfl rfl Try.func189 (by kernel_rfl) rfl #[.string a0] rfl yq24 ?_; (with_reducible refine (cmp_isNaN_string.calls a0 false _ A3.out).mono ?_); rintro e w' ⟨rfl, ⟨nd, rfl⟩⟩; refine ⟨_, rfl, ?_⟩) | ((with_reducible refine qp (f := 189) rfl ?_); refine qc1 (some 10) rfl rfl Try.func189 (by kernel_rfl) rfl #[.string a1] rfl yq24 ?_; (with_reducible refine (cmp_isNaN_string.calls a1 false _ A4.out).mono ?_); rintro e w' ⟨rfl, ⟨nd, rfl⟩⟩; refine ⟨_, rfl, ?_⟩))
    go_ret
    exact ⟨by first | rfl | (simp; done) | (simp [*]; done), by repeat (first | exact Drawn0.refl _ | apply Drawn0.step)⟩
   ·rw [if_neg c8] at H
    have c8b0 : (Op.bytesLess a0.toList a1.toList) = false := by simpa using c8
    clear c8
    by_cases c9 : (Op.bytesLess a1.toList a0.toList) = true
    ·rw [if_pos c9] at H
     have c9b0 : (Op.bytesLess a1.toList a0.toList) = true := c9
     clear c9
     obtain rfl := Option.some.inj H
     go_enter Try.func164, Try.ntmps164
     go_wp2_with (first | ((with_reducible refine qp (f := 189) rfl ?_); refine qc1 (some 8) rfl rfl Try.func189 (by kernel_rfl) rfl #[.string a0] rfl yq24 ?_; (with_reducible refine (cmp_isNaN_string.calls a0 false _ A3.out).mono ?_); rintro e w' ⟨rfl, ⟨nd, rfl⟩⟩; refine ⟨_, rfl, ?_⟩) | ((with_reducible refine qp (f := 189) rfl ?_); refine qc1 (some 10) rfl rfl Try.func189 (by kernel_rfl) rfl #[.string a1] rfl yq24 ?_; (with_reducible refine (cmp_isNaN_string.calls a1 false _ A4.out).mono ?_); rintro e w' ⟨rfl, ⟨nd, rfl⟩⟩; refine ⟨_, rfl, ?_⟩))
     go_ret
     exact ⟨by first | rfl | (simp; done) | (simp [*]; done), by repeat (first | exact Drawn0.refl _ | apply Drawn0.step)⟩
    ·rw [if_neg c9] at H
     have c9b0 : (Op.bytesLess a1.toList a0.toList) = false := by simpa using c9
     clear c9
     obtain rfl := Option.some.inj H
     go_enter Try.func164, Try.ntmps164
     go_wp2_with (first | ((with_reducible refine qp (f := 189) rfl ?_); refine qc1 (some 8) rfl rfl Try.func189 (by kernel_rfl) rfl #[.string a0] rfl yq24 ?_; (with_reducible refine (cmp_isNaN_string.calls a0 false _ A3.out).mono ?_); rintro e w' ⟨rfl, ⟨nd, rfl⟩⟩; refine ⟨_, rfl, ?_⟩) | ((with_reducible refine qp (f := 189) rfl ?_); refine qc1 (some 10) rfl rfl Try.func189 (by kernel_rfl) rfl #[.string a1] rfl yq24 ?_; (with_reducible refine (cmp_isNaN_string.calls a1 false _ A4.out).mono ?_); rintro e w' ⟨rfl, ⟨nd, rfl⟩⟩; refine ⟨_, rfl, ?_⟩))
     go_ret
     exact ⟨by first | rfl | (simp; done) | (simp [*]; done), by repeat (first | exact Drawn0.refl _ | apply Drawn0.step)⟩
def impl_find_1.f (a0_0 : ByteArray) (a0_1 : ByteArray) (a1 : ByteArray) : Option (Int) := (cmp_Compare_string.f a0_0 a1).bind fun t102 => (some t102)
set_option maxHeartbeats 8000000 in
set_option maxRecDepth 100000 in
theorem impl_find_1.calls (a0_0 : ByteArray) (a0_1 : ByteArray) (a1 : ByteArray) (r : Int) (w : World) (h : impl_find_1.f a0_0 a0_1 a1 = some r) :
  Calls Try.prog 194 #[.agg #[.string a0_0, .string a0_1], .string a1] w fun e w' => e = .returned (.int .i64 r) ∧ Below w.heap.size w w' := by
 have hu170 := Try.underlying170
 have HB := Qz.mk (Below.refl w.heap.size w)
 have H : ((cmp_Compare_string.f a0_0 a1).bind fun t102 => (some t102)) = some r := h
 clear h
 replace H := Option.bind_eq_some_iff.mp H
 obtain ⟨t102, A30, H⟩ := H
 replace H : (some t102) = some r := H
 have A3 := Qz.mk A30
 clear A30
 obtain rfl := Option.some.inj H
 go_enter Try.func194, Try.ntmps194
 go_wp2_with (first | ((with_reducible refine qt (N := 2) rfl ?_); refine qr ?hg (N := 2) ?hd (cs := #[.string a0_0, .string a0_1]) (t := 170) ?hr ?_; (case hd => rfl); (case hg => rfl); (case hr => first | (go_simp; done) | (go_simp; rfl)); intro gb101 hg w4 hbox hb; have BK101 := Qz.mk (hbox); have GW101 := Qz.mk ((by rw [hg]; exact (qo (by repeat (first | (with_reducible first | exact HB.out | apply qc | apply qa | apply qb) | exact HB.out))) : w.heap.size ≤ gb101)); have GE101 := GW101; replace HB := Qz.mk (ql (by repeat (first | (with_reducible first | exact HB.out | apply qc | apply qa | apply qb) | exact HB.out)) hb); clear hb hbox hg; have hcz5_0 := (qd BK101.out 0).trans rfl; have hcz5_1 := (qd BK101.out 1).trans rfl; have hfz5_0 := qe BK101.out 0; have hfz5_1 := qe BK101.out 1) | ((with_reducible refine qp (f := 164) rfl ?_); refine qc1 (some 8) rfl rfl Try.func164 (by kernel_rfl) rfl #[.string a0_0, .string a1] rfl (by (try simp only [List.map_toArray, List.map_cons, List.map_nil]); first | done | rfl) ?_; (with_reducible refine (cmp_Compare_string.calls a0_0 a1 t102 _ A3.out).mono ?_); rintro e w' ⟨rfl, ⟨nd, rfl⟩⟩; refine ⟨_, rfl, ?_⟩))
 go_ret
 exact ⟨by first | rfl | (simp [qn, qm] <;> rfl) | (simp [*, qn, qm] <;> rfl), by repeat (first | (with_reducible first | exact HB.out | apply qc | apply qa | apply qb | refine qf ?_ GE101.out) | exact HB.out)⟩
theorem eqA35 (d : Nat) (w : World) (x0 y0 : ByteArray) (x1 y1 : Int) (x2 y2 : Int) :
  (Op.equalIn (d + 2) 35 (.agg #[.string x0, .int .i64 x1, .int .i64 x2]) (.agg #[.string y0, .int .i64 y1, .int .i64 y2])).run Try.prog w = .ok (x0.toList == y0.toList && (x1 == y1 && (x2 == y2))) w := by
 refine eqA_of Try.underlying35 (by kernel_rfl) ?_
 refine eqf_cons (by rfl) (by go_simp; rfl) (by go_simp; rfl) (by go_simp) ?_
 refine eqf_cons (by rfl) (by go_simp; rfl) (by go_simp; rfl) (by go_simp) ?_
 exact eqf_last (by rfl) (by go_simp; rfl) (by go_simp; rfl) (by go_simp)
end Go.Proofs.Ytidjdkodgddfcaa.P
end

section
namespace Go.Proofs.Ytidjdkodgddfcaa.P
open Go.RowKit Go.Proofs.YtidjdkodgddfcaaW.PrintWords Go.Proofs.YtidjdkodgddfcaaW.PrintLast Go.Proofs.YtidjdkodgddfcaaW.PrintMore
attribute [local go_sem] str_gtr str_leq str_geq qb1 qz max_two min_two qv qu qa1 qy
set_option linter.unusedVariables false
set_option linter.unusedSimpArgs false
def isK (u : ByteArray) (seq kind : Int) : Prop := isU u ∧ (0 ≤ seq ∧ seq ≤ 1000000000000) ∧ 0 ≤ kind ∧ kind ≤ 1
instance (u : ByteArray) (seq kind : Int) : Decidable (isK u seq kind) := by unfold isK; infer_instance
def isE (u : ByteArray) (seq kind : Int) (v : ByteArray) : Prop := isK u seq kind ∧ v.size ≤ 200 ∧ (kind = 1 ∨ v.toList = [])
instance (u : ByteArray) (seq kind : Int) (v : ByteArray) : Decidable (isE u seq kind v) := by unfold isE; infer_instance
end Go.Proofs.Ytidjdkodgddfcaa.P
end

section
namespace Go.Proofs.Ytidjdkodgddfcaa.P
open Go.RowKit Go.Proofs.YtidjdkodgddfcaaW.PrintWords Go.Proofs.YtidjdkodgddfcaaW.PrintLast Go.Proofs.YtidjdkodgddfcaaW.PrintMore
attribute [local go_sem] str_gtr str_leq str_geq qb1 qz max_two min_two qv qu qa1 qy
set_option linter.unusedVariables false
set_option linter.unusedSimpArgs false
theorem bl_irrefl : ∀ a : List UInt8, Op.bytesLess a a = false
 | [] => by simp [Op.bytesLess]
 | a :: x => by
  have ih := bl_irrefl x
  have h1 : ¬ a < a := fun h => by have := UInt8.lt_iff_toNat_lt.1 h; omega
  simp [Op.bytesLess, ih, h1]
theorem bl_eq {a b : List UInt8} (h : Op.bytesLess a b = false) (h' : Op.bytesLess b a = false) : a = b := by
 rw [← bytesLess_swap, h] at h'
 simpa using h'
theorem bl_cons (a b : UInt8) (x y : List UInt8) : Op.bytesLess (a :: x) (b :: y) = true ↔ a < b ∨ a = b ∧ Op.bytesLess x y = true := by
 rcases Nat.lt_trichotomy a.toNat b.toNat with h | h | h
 ·have h1 : a < b := UInt8.lt_iff_toNat_lt.2 h
  simp [Op.bytesLess, h1]
 ·have h1 : a = b := UInt8.toNat_inj.1 h
  subst h1
  have h2 : ¬ a < a := fun h => by have := UInt8.lt_iff_toNat_lt.1 h; omega
  simp [Op.bytesLess, h2]
 ·have h1 : ¬ a < b := fun h' => by have := UInt8.lt_iff_toNat_lt.1 h'; omega
  have h2 : ¬ a = b := fun h' => by rw [h'] at h; omega
  simp [Op.bytesLess, h1, h2]
theorem bl_trans : ∀ {a b c : List UInt8}, Op.bytesLess a b = true → Op.bytesLess b c = true → Op.bytesLess a c = true
 | _, [], _, h, _ => by cases ‹List UInt8› <;> simp [Op.bytesLess] at h
 | [], b :: y, [], _, h => by simp [Op.bytesLess] at h
 | [], b :: y, c :: z, _, _ => by simp [Op.bytesLess]
 | a :: x, b :: y, [], _, h => by simp [Op.bytesLess] at h
 | a :: x, b :: y, c :: z, h, h' => by
  rw [bl_cons] at h h' ⊢
  rcases h with h | ⟨rfl, h⟩
  ·rcases h' with h' | ⟨rfl, h'⟩
   ·exact .inl (UInt8.lt_iff_toNat_lt.2 (by have := UInt8.lt_iff_toNat_lt.1 h; have := UInt8.lt_iff_toNat_lt.1 h'; omega))
   ·exact .inl h
  ·rcases h' with h' | ⟨rfl, h'⟩
   ·exact .inl h'
   ·exact .inr ⟨rfl, bl_trans h h'⟩
def tless (a b : ByteArray) : Bool := Op.bytesLess a.toList b.toList
theorem compareS_ev (a b : ByteArray) : cmp_Compare_string.f a b = some (if tless a b = true then -1 else if tless b a = true then 1 else 0) := by
 unfold cmp_Compare_string.f cmp_isNaN_string.f tless
 simp only [bne_self_eq_false, Option.bind_some, Bool.false_eq_true, if_false]
 split
 ·rfl
 ·split <;> rfl
def kcmp (u : ByteArray) (q d : Int) (u' : ByteArray) (q' d' : Int) : Int :=
 if tless u u' = true then -1 else if tless u' u = true then 1 else if q' < q then -1 else if q < q' then 1 else if d' < d then -1 else if d < d' then 1 else 0
def isEx (x : S64) : Prop := isE x.f0.f0 x.f0.f1 x.f0.f2 x.f1
instance (x : S64) : Decidable (isEx x) := by unfold isEx; infer_instance
def ecmp (x y : S64) : Int := kcmp x.f0.f0 x.f0.f1 x.f0.f2 y.f0.f0 y.f0.f1 y.f0.f2
def rowFrom (l : List S64) (i : Nat) : Prop := ∀ j, i ≤ j → ∀ h : j < l.length, isEx l[j] ∧ (0 < j → ecmp (l[j - 1]'(by omega)) l[j] < 0)
noncomputable instance (l : List S64) (i : Nat) : Decidable (rowFrom l i) := Classical.propDecidable _
def isRow (l : List S64) : Prop := l.length ≤ 400 ∧ rowFrom l 0
noncomputable instance (l : List S64) : Decidable (isRow l) := Classical.propDecidable _
end Go.Proofs.Ytidjdkodgddfcaa.P
end
