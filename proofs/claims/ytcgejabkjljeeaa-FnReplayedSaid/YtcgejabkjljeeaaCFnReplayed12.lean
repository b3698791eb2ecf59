/- Proved: the law FnReplayed of the given program returns true for every input of its Go types and leaves each argument as it was; no condition. (Part 13 of 17.) -/
import Derived.Test.YtcgejabkjljeeaaCFnReplayed4
import Derived.Test.YtcgejabkjljeeaaCFnReplayed5
import Derived.Test.YtcgejabkjljeeaaCFnReplayed11
import Derived.Shelf.SlSortCmp.KitK
import Derived.Lib.OwnBridge
import Derived.Sort.WalkB2
import Derived.Deep.LoopGhost
section
namespace Go.Proofs.Ytcgejabkjljeeaa.P
open Go.RowKit Go.Proofs.YtcgejabkjljeeaaW.PrintWords Go.Proofs.YtcgejabkjljeeaaW.PrintLast Go.Proofs.YtcgejabkjljeeaaW.PrintMore
attribute [local go_sem] str_gtr str_leq str_geq max2_int min2_int max_two min_two qe1 qd1 max_four min_four
set_option linter.unusedVariables false
set_option linter.unusedSimpArgs false
open Go.Shelf Go.RowKit Go.Lib Go.Sort
instance : Inhabited (S66 × Nat) := ⟨(z66, 0)⟩
def encL (x : S66 × Nat) : List Value := [.int .i64 x.1.f0, .int .i64 x.1.f1, .string x.1.f2, .string x.1.f3, .int .i64 x.1.f4]
def cfL (c : S66 → S66 → Int) (p q : S66 × Nat) : Int := c p.1 q.1
def zipA (l : List S66) : Array (S66 × Nat) := l.zipIdx.toArray
def srt (c : S66 → S66 → Int) (l : List S66) : List S66 := (stab (ltOf (cfL c)) (zipA l)).toList.map (fun p => p.1)
theorem zipA_size (l : List S66) : (zipA l).size = l.length := by simp [zipA]
theorem zipA_at (l : List S66) (j : Nat) (h : j < l.length) : (zipA l)[j]! = (l.getD j z66, j) := by
 unfold zipA
 rw [getElem!_pos _ j (by simpa using h), List.getD_eq_getElem?_getD, List.getElem?_eq_getElem h]
 simp
theorem srt_len (c : S66 → S66 → Int) (l : List S66) : (srt c l).length = l.length := by
 unfold srt
 rw [List.length_map, Array.length_toList, stab_size, zipA_size]
theorem heap_putL (w : World) (g : Nat) (d : Array (S66 × Nat)) (cur : Array Value) (e : TypeId) (hh : w.heap[g]? = some (.cells cur e (0, 0))) :
  (Sort.putRowK encL 5 w g 0 d).heap[g]? = some (.cells (Sort.putCells id 0 (Sort.flatK encL 5 d) cur) e (0, 0)) := by
 simp [Sort.putRowK, Sort.putRow, Sort.mapBlock, Array.getElem?_modify, hh, Sort.onCells]
theorem heap_farL (w : World) (g : Nat) (d : Array (S66 × Nat)) (j : Nat) (hj : j ≠ g) : (Sort.putRowK encL 5 w g 0 d).heap[j]? = w.heap[j]? := by
 simp [Sort.putRowK, Sort.putRow, Sort.mapBlock, Array.getElem?_modify, show g ≠ j from fun h => hj h.symm]
theorem flatL (d : Array (S66 × Nat)) (t : Nat) (h : t < d.size * 5) : (Sort.flatK encL 5 d)[t]! = (encL d[t / 5]!)[t % 5]! := Sort.get_flatK encL 5 d t h
theorem segL (d : Array (S66 × Nat)) (j : Nat) (h : j < d.size) : (((Sort.flatK encL 5 d).toList.drop (j * 5)).take 5) = encL d[j]! := by
 have hs : (Sort.flatK encL 5 d).size = d.size * 5 := Sort.size_flatK encL 5 d
 have hl : (encL d[j]!).length = 5 := rfl
 apply List.ext_getElem?
 intro i
 rw [List.getElem?_take]
 by_cases c : i < 5
 ·have := flatL d (j * 5 + i) (by omega)
  rw [show (j * 5 + i) / 5 = j from by omega, show (j * 5 + i) % 5 = i from by omega, getElem!_pos _ _ (by omega), getElem!_pos _ i (by rw [hl]; exact c)] at this
  rw [if_pos c, List.getElem?_drop, Array.getElem?_toList, Array.getElem?_eq_getElem (by omega), this, List.getElem?_eq_getElem (by rw [hl]; exact c)]
 ·rw [if_neg c, List.getElem?_eq_none (by rw [hl]; omega)]
theorem holdsL {base g cap : Nat} {ok : Nat → Prop} {W : World} {l : List S66} (hr : Kd.R k66 66 W base ok (.slice (some ⟨g, 0, none⟩) l.length cap) l) : Sort.HoldsK encL 5 W g 0 (zipA l) := by
 intro j hj
 have hj2 : j < l.length * 5 := by
  have : (Sort.flatK encL 5 (zipA l)).size = (zipA l).size * 5 := Sort.size_flatK encL 5 _
  rw [zipA_size] at this
  omega
 obtain ⟨cc, hcl, hM, hcc, hfr⟩ := Kd.R_elem hr z66 ((j / 5 : Nat) : Int) (by omega) (by omega)
 obtain rfl := k66_openM hM
 rw [Int.toNat_natCast] at hcc hfr
 rw [flatL _ j (by rw [zipA_size]; exact hj2), zipA_at l (j / 5) (by omega), Nat.zero_add]
 have hm : j % 5 < 5 := Nat.mod_lt _ (by decide)
 have hq : j / 5 * k66.sz + j % 5 = j := by show j / 5 * 5 + j % 5 = j; omega
 refine ⟨?_, ?_⟩
 ·have h1 := hcc (j % 5) _ (List.getElem?_eq_getElem (show j % 5 < (encL (l.getD (j / 5) z66, j / 5)).length from hm))
  rw [hq] at h1
  rw [getElem!_pos (encL (l.getD (j / 5) z66, j / 5)) (j % 5) hm]
  exact h1
 ·have h1 := hfr (j % 5)
  rw [hq] at h1
  exact h1
theorem sortedL {base g cap : Nat} {W w0 w' : World} {l : List S66} {d' : Array (S66 × Nat)} (hr : Kd.R k66 66 W base (fun _ => True) (.slice (some ⟨g, 0, none⟩) l.length cap) l) (hB : Below base w0 W) (hbg : base ≤ g) (hg : g < W.heap.size) (hd : d'.size = l.length) (hS : SWX encL 5 W g 0 d' w') :
  Kd.R k66 66 w' base (fun _ => True) (.slice (some ⟨g, 0, none⟩) l.length cap) (d'.toList.map (fun p => p.1)) ∧ Below base w0 w' := by
 obtain ⟨t, m, os, rfl⟩ := hS
 unfold sortWorldK
 have hold : ∀ j, j < W.heap.size → j ≠ g → (grow (Sort.putRowK encL 5 (Sort.ahead (atD W t) m) g 0 d') os).heap[j]? = W.heap[j]? := fun j hj hne => by
  rw [heap_grow_old _ _ (by rw [size_putRowK]; exact hj), heap_farL _ _ _ _ hne]
  rfl
 obtain ⟨h0, inner, ho, hrr⟩ := hr
 have hfs : (Sort.flatK encL 5 d').size = l.length * 5 := by rw [Sort.size_flatK, hd]
 have hml : (d'.toList.map (fun p => p.1)).length = l.length := by rw [List.length_map, Array.length_toList, hd]
 refine ⟨?_, ⟨hB.os, hB.tape, hB.output, ?_, fun j hj => ?_⟩⟩
 ·rcases ho.2 with ⟨hv, _⟩ | ⟨g', cap', cur, hv, hb, hh, hnc, hcm, hcs, htk⟩
  ·cases hv
  injection hv with ea _ ec
  injection ea with ea
  injection ea with eg
  subst eg; subst ec
  have hsz : l.length * 5 ≤ cur.size := by
   rw [hcs]
   exact Nat.mul_le_mul_right 5 hnc
  refine ⟨fun k_ hk => trivial, (Sort.flatK encL 5 d').toList, ?_, ?_⟩
  ·refine ⟨by rw [Array.length_toList, hfs, hml]; rfl, .inr ⟨g, cap, Sort.putCells id 0 (Sort.flatK encL 5 d') cur, by rw [hml], hbg, ?_, by rw [hml]; exact hnc, hcm, by simpa [Sort.putCells] using hcs, ?_⟩⟩
   ·rw [heap_grow_old _ _ (by rw [size_putRowK]; exact hg)]
    exact heap_putL _ g _ cur 66 hh
   ·apply List.ext_getElem?
    intro j
    rw [hml, show k66.sz = 5 from rfl, List.getElem?_take, Array.getElem?_toList, Array.getElem?_toList]
    by_cases hj : j < l.length * 5
    ·rw [if_pos hj, Array.getElem?_eq_getElem (by simpa [Sort.putCells] using (by omega : j < cur.size)), Array.getElem?_eq_getElem (by omega)]
     simp only [Sort.putCells, Array.getElem_mapIdx]
     rw [if_pos (by omega), Nat.sub_zero, getElem!_pos _ j (by omega)]
     rfl
    ·rw [if_neg hj, Array.getElem?_eq_none (by omega)]
  ·refine ⟨by rw [Array.length_toList, hfs, hml]; rfl, fun j p hj => ?_⟩
   obtain ⟨hjl, hjp⟩ := List.getElem?_eq_some_iff.1 hj
   have hjl' : j < l.length := by rw [← hml]; exact hjl
   rw [show k66.sz = 5 from rfl, segL _ j (by rw [hd]; exact hjl')]
   have hp : (d'[j]!).1 = p := by
    rw [getElem!_pos _ j (by rw [hd]; exact hjl'), ← hjp]
    simp
   show k66.M _ _ _ p (encL d'[j]!)
   unfold encL
   rw [hp]
   exact k66_mkM _ _ _ p
 ·rw [size_grow, size_putRowK]
  exact Nat.le_trans hB.size (Nat.le_add_right _ _)
 ·rw [hold j (by omega) (by omega)]
  exact hB.block j hj
set_option maxHeartbeats 4000000 in
theorem insNone (Ad : Option Addr) (c g : Nat) (W : World) : Calls Try.prog 123 #[.slice Ad 0 c, .int .i64 0, .int .i64 0, .func (.func g) #[] #[]] W fun e w' => e = .returned (.tuple #[]) ∧ w' = W := by
 go_enter Try.func123, Try.ntmps123
 go_wp2
 go_loopg [8] 0 (fun _ s8 wr => s8 = .int .i64 1 ∧ wr = W)
 case atStart => exact ⟨by first | rfl | go_num, rfl⟩
 case round =>
  obtain ⟨rfl, rfl⟩ := hrel
  go_wp2
  go_end0
  exact ⟨rfl, rfl⟩
set_option maxHeartbeats 4000000 in
theorem stabNone (Ad : Option Addr) (c g : Nat) (W : World) : Calls Try.prog 116 #[.slice Ad 0 c, .int .i64 0, .func (.func g) #[] #[]] W fun e w' => e = .returned (.tuple #[]) ∧ w' = W := by
 have q : ∀ args w, (callFunc 123 args).run Try.prog w = .ok (.enter 123 args) w := fun args w => by kernel_rfl
 go_enter Try.func116, Try.ntmps116
 go_wp2
 go_loopg [7, 8] 0 (fun _ s7 s8 wr => s7 = .int .i64 0 ∧ s8 = .int .i64 20 ∧ Hid (wr = W))
 case atStart => exact ⟨rfl, rfl, rfl⟩
 case round =>
  obtain ⟨rfl, rfl, H1⟩ := hrel
  go_wp2_with fail
  refine (insNone _ _ _ _).mono ?_
  rintro e w2 ⟨rfl, h_⟩
  have H2 : Hid (w2 = wr) := h_
  clear h_
  go_wp2
  go_loopg [6] 0 (fun _ s6 wx => s6 = .int .i64 20 ∧ Hid (wx = w2))
  case atStart => exact ⟨rfl, rfl⟩
  case round =>
   obtain ⟨rfl, H3⟩ := hrel
   go_wp2
   (first | go_end0 | refine bodyPost_ret (results_none rfl _ _ _) rfl ?_)
   exact ⟨rfl, H3.out.trans (H2.out.trans H1.out)⟩
set_option maxHeartbeats 4000000 in
theorem sortNone (Ad : Option Addr) (c g : Nat) (W : World) : Calls Try.prog 95 #[.slice Ad 0 c, .func (.func g) #[] #[]] W fun e w' => e = .returned (.tuple #[]) ∧ w' = W := by
 have q : ∀ args w, (callFunc 116 args).run Try.prog w = .ok (.enter 116 args) w := fun args w => by kernel_rfl
 go_enter Try.func95, Try.ntmps95
 go_wp2_with (first | (go_at_call 116; refine (stabNone _ _ _ _).mono ?_; rintro e w2 ⟨rfl, rfl⟩))
 (first | go_end0 | refine bodyPost_ret (results_none rfl _ _ _) rfl ?_)
 exact ⟨rfl, rfl⟩
theorem sort_own (g : Nat) (c : S66 → S66 → Int) (eg : ∀ args w, (callFunc g args).run Try.prog w = .ok (.enter g args) w) (hc : CmpB Try.prog g #[] encL (cfL c)) (base : Nat) (v : Value) (xs : List S66) (w0 W : World)
  (hr : Kd.R k66 66 W base (fun _ => True) v xs) (hB : Below base w0 W) (hl : xs.length < 2305843009213693952) :
  Calls Try.prog 95 #[v, .func (.func g) #[] #[]] W fun e w' => e = .returned (.tuple #[]) ∧ Kd.R k66 66 w' base (fun _ => True) v (srt c xs) ∧ Below base w0 w' := by
 by_cases h0 : xs.length = 0
 ·obtain rfl : xs = [] := List.length_eq_zero_iff.1 h0
  obtain ⟨Ad, cp, rfl, _⟩ := Kd.R_reads hr
  refine (sortNone Ad cp g W).mono ?_
  rintro e w' ⟨rfl, rfl⟩
  refine ⟨rfl, ?_, hB⟩
  have : srt c [] = [] := List.length_eq_zero_iff.1 (srt_len c [])
  rw [this]
  exact hr
 ·obtain ⟨gg, cap, rfl, hgb, hgl, _⟩ := Kd.R_form hr (by omega)
  have hH := holdsL hr
  have hc2 := sortStable_calls (P := Try.prog) sortEnv 5 (fun w => by kernel_rfl) (fun w => by kernel_rfl) encL (cfL c) g #[] gg 0 cap (zipA xs) W eg hc ⟨fun _ => rfl, fun x v hv => by (simp only [encL, List.mem_cons, List.not_mem_nil, or_false] at hv; rcases hv with rfl | rfl | rfl | rfl | rfl <;> rfl), hH, hgl⟩ (zipA xs) W rfl (SWX.start hH) (by rw [zipA_size]; exact hl)
  rw [zipA_size] at hc2
  refine hc2.mono ?_
  rintro e w' ⟨rfl, hS⟩
  exact ⟨rfl, sortedL hr hB hgb hgl (by rw [stab_size, zipA_size]) hS⟩
end Go.Proofs.Ytcgejabkjljeeaa.P
end
