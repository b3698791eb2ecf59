/- Proved: the law FnReplayed of the given program returns true for every input of its Go types and leaves each argument as it was; no condition. (Part 10 of 17.) -/
import Derived.Test.YtcgejabkjljeeaaCFnReplayed4
import Derived.Maps.OwnSet
import Derived.Carry
section
namespace Go.Proofs.Ytcgejabkjljeeaa.P
open Go.RowKit Go.Proofs.YtcgejabkjljeeaaW.PrintWords Go.Proofs.YtcgejabkjljeeaaW.PrintLast Go.Proofs.YtcgejabkjljeeaaW.PrintMore
attribute [local go_sem] str_gtr str_leq str_geq max2_int min2_int max_two min_two qe1 qd1 max_four min_four
set_option linter.unusedVariables false
set_option linter.unusedSimpArgs false
def Met (w : World) (b : Nat) (K : List Int) : Prop :=
 ∃ es clock, w.heap[b]? = some (.map es clock) ∧ es.toList.map (fun e => (e.key, e.val)) = K.map (fun n => (Value.int .i64 n, Value.bool true)) ∧ ∀ n ∈ K, (Lit.int .i64 n).wf = true
theorem met_keys {es : List MapEntry} {K : List Int} (h : es.map (fun e => (e.key, e.val)) = K.map (fun n => (Value.int .i64 n, Value.bool true))) (n : Int) :
  (∀ e ∈ es, e.val = .bool true ∧ ∃ m, m ∈ K ∧ e.key = .int .i64 m) ∧ (n ∈ K → ∃ e ∈ es, e.key = .int .i64 n) := by
 refine ⟨fun e he => ?_, fun hn => ?_⟩
 ·have h1 : (e.key, e.val) ∈ K.map (fun n => (Value.int .i64 n, Value.bool true)) := by
   rw [← h]
   exact List.mem_map.2 ⟨e, he, rfl⟩
  obtain ⟨m, hm, heq⟩ := List.mem_map.1 h1
  obtain ⟨h1, h2⟩ := Prod.mk.inj heq
  exact ⟨h2.symm, m, hm, h1.symm⟩
 ·have h1 : (Value.int .i64 n, Value.bool true) ∈ es.map (fun e => (e.key, e.val)) := by
   rw [h]
   exact List.mem_map.2 ⟨n, hn, rfl⟩
  obtain ⟨e, he, heq⟩ := List.mem_map.1 h1
  exact ⟨e, he, (Prod.mk.inj heq).1⟩
theorem met_all {P : Program} {k : TypeId} (hk : P.underlying k = some (.int .i64)) {es : List MapEntry} {K : List Int} (h : es.map (fun e => (e.key, e.val)) = K.map (fun n => (Value.int .i64 n, Value.bool true))) (hwf : ∀ n ∈ K, (Lit.int .i64 n).wf = true) :
  ∀ e ∈ es, ∃ l, keyOf P k e.key = some l := fun e he => by
 obtain ⟨_, m, hm, hx⟩ := (met_keys h 0).1 e he
 exact ⟨_, by rw [hx]; exact Maps.keyOf_int_mk hk (hwf m hm)⟩
theorem met_look {P : Program} {w : World} {b : Nat} {K : List Int} (h : Met w b K) {t k e : TypeId} (ht : P.underlying t = some (.map k e)) (hk : P.underlying k = some (.int .i64)) (hz : (zeroValue e).run P w = .ok (.bool false) w) (n : Int) (hn : (Lit.int .i64 n).wf = true) :
  (Instr.lookup t (.map (some b)) (.int .i64 n) false).run P w = .ok (.bool (decide (n ∈ K))) w := by
 obtain ⟨es, clock, hb, hK, hwf⟩ := h
 have KL := Maps.int_keyed hk
 have hkey := Maps.keyOf_int_mk hk hn
 obtain ⟨h1, h2⟩ := met_keys hK n
 rcases KL.find w hkey es.toList (met_all hk hK hwf) with ⟨f1, f2⟩ | ⟨j, e0, f1, f2, f3⟩
 ·have hno : ¬ n ∈ K := fun hm => by
   obtain ⟨e, he, hx⟩ := h2 hm
   exact f2 e he hx
  simp [Instr.lookup, run_underlying ht, MapKept.run_getObj_map hb, KL.check w _ hkey, f1, hz, Result.andThen, hno]
 ·have hmem : e0 ∈ es.toList := List.mem_of_getElem? f2
  have hyes : n ∈ K := by
   obtain ⟨_, m, hm, hx⟩ := h1 e0 hmem
   rw [f3] at hx
   injection hx with _ hx
   rw [hx]
   exact hm
  simp [Instr.lookup, run_underlying ht, MapKept.run_getObj_map hb, KL.check w _ hkey, f1, Result.andThen, hyes, (h1 e0 hmem).1]
theorem met_store {P : Program} {w : World} {b : Nat} {K : List Int} (h : Met w b K) {t k e : TypeId} (ht : P.underlying t = some (.map k e)) (hk : P.underlying k = some (.int .i64)) (n : Int) (hn : (Lit.int .i64 n).wf = true) (hne : ¬ n ∈ K) :
  ∃ w', (Instr.mapUpdate t (.map (some b)) (.int .i64 n) (.bool true)).run P w = .ok () w' ∧ Met w' b (K ++ [n]) ∧ w.grownBy w' (some b) := by
 obtain ⟨es, clock, hb, hK, hwf⟩ := h
 have KL := Maps.int_keyed hk
 have hkey := Maps.keyOf_int_mk hk hn
 obtain ⟨h1, h2⟩ := met_keys hK n
 rcases KL.find w hkey es.toList (met_all hk hK hwf) with ⟨f1, f2⟩ | ⟨j, e0, f1, f2, f3⟩
 ·refine ⟨ChangeMaps.setBlock w b (.map (es.push { key := .int .i64 n, val := .bool true, born := clock }) (clock + 1)), ?_, ⟨_, _, ChangeMaps.heap_setBlock_same hb _, ?_, ?_⟩, World.mapTurned.grown ⟨es, clock, _, _, hb, rfl⟩⟩
  ·simp [Instr.mapUpdate, run_underlying ht, MapKept.run_getObj_map hb, KL.check w _ hkey, f1, MapKept.run_setObj_map _ hb, Result.andThen, ChangeMaps.setBlock]
  ·simp [hK]
  ·intro m hm
   rcases List.mem_append.1 hm with h | h
   ·exact hwf m h
   ·rw [List.mem_singleton.1 h]
    exact hn
 ·exfalso
  have hmem : e0 ∈ es.toList := List.mem_of_getElem? f2
  obtain ⟨_, m, hm, hx⟩ := h1 e0 hmem
  rw [f3] at hx
  injection hx with _ hx
  exact hne (hx ▸ hm)
theorem met_made (w : World) : Met (w.alloc (.map #[] 0)) w.heap.size [] := ⟨#[], 0, (MapKept.heap_alloc w _).1, by simp, by simp⟩
theorem Met.kept {w w' : World} {b : Nat} {K : List Int} {row : Option Nat} (h : Met w b K) (hg : w.grownBy w' row) (hne : some b ≠ row) : Met w' b K := by
 obtain ⟨es, clock, hb, r⟩ := h
 exact ⟨es, clock, (hg.block b (Array.getElem?_eq_some_iff.1 hb).1 hne).trans hb, r⟩
theorem Met.lt {w : World} {b : Nat} {K : List Int} (h : Met w b K) : b < w.heap.size := by
 obtain ⟨es, clock, hb, r⟩ := h
 exact (Array.getElem?_eq_some_iff.1 hb).1
theorem Met.below {w w' : World} {b : Nat} {K : List Int} (h : Met w b K) (hb : Below w.heap.size w w') : Met w' b K := h.kept (grown_of_below hb none) (by simp)
section
variable {P : Program} (w : World) {ops : Array Oper} {rest : List Oper} {o : Oper} {a : Act} {Q : Exit → Act → World → Prop}
theorem wpList_met_store (hg : o.guard = none) (m x v : Operand) (t : TypeId) (hop : o.op = Op.mapUpdate t m x v) (k e : TypeId) (ht : P.underlying t = some (.map k e)) (hk : P.underlying k = some (.int .i64))
  (b : Nat) (K : List Int) (n : Int) (hm : a.eval m = .map (some b)) (hx : a.eval x = .int .i64 n) (hv : a.eval v = .bool true) (hn : (Lit.int .i64 n).wf = true) (hne : ¬ n ∈ K) (hmet : Met w b K)
  (hK : ∀ w', Met w' b (K ++ [n]) → w.grownBy w' (some b) → wpList P ops Q rest (a.put o.dst undef) w') : wpList P ops Q (o :: rest) a w := by
 refine wpList_plain hg fun K' hK' => ?_
 obtain ⟨w', hrun, r1, r2⟩ := met_store hmet ht hk n hn hne
 unfold Oper.wp
 simp [execOp, hop, hm, hx, hv, hrun, Result.andThen]
 exact hK' _ _ (hK w' r1 r2)
end
end Go.Proofs.Ytcgejabkjljeeaa.P
end
