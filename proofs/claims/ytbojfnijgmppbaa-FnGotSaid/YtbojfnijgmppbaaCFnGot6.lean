/- Proved: the law FnGot of the given program returns true for every input of its Go types and leaves each argument as it was; no condition. (Part 7 of 12.) -/
import Derived.Test.YtbojfnijgmppbaaCFnGot4
import Derived.Test.YtbojfnijgmppbaaCFnGot5
import Derived.Ground.NamesProg
import Derived.Shelf.Lay
import Derived.Shelf.Slices.CompactS
import Derived.Lib.OwnBridge
import Derived.Lib.RowBridge
section
namespace Go.Proofs.Ytbojfnijgmppbaa.P
open Go.RowKit Go.Proofs.YtbojfnijgmppbaaW.PrintWords Go.Proofs.YtbojfnijgmppbaaW.PrintLast Go.Proofs.YtbojfnijgmppbaaW.PrintMore
attribute [local go_sem] str_gtr str_leq str_geq max2_int min2_int max_two min_two qw qv max_four min_four
set_option linter.unusedVariables false
set_option linter.unusedSimpArgs false
end Go.Proofs.Ytbojfnijgmppbaa.P
namespace Go.Proofs
open Go.Shelf
shelf_lay Lays.n194 Nm 194 at Try as Try.laysCompact
end Go.Proofs
namespace Go.Proofs.Ytbojfnijgmppbaa.P
open Go.RowKit Go.Proofs.YtbojfnijgmppbaaW.PrintWords Go.Proofs.YtbojfnijgmppbaaW.PrintLast Go.Proofs.YtbojfnijgmppbaaW.PrintMore
def toL (s : ByteArray) : List UInt8 := s.data.toList
def ofL (l : List UInt8) : ByteArray := ⟨l.toArray⟩
theorem ofL_toL (s : ByteArray) : ofL (toL s) = s := by unfold ofL toL; simp
def cptB (xs : List ByteArray) : List ByteArray := (Lib.compact (xs.map toL)).map ofL
def slices_Compact_string_string.f (l0 : List ByteArray) : Option (List ByteArray) := some (cptB l0)
theorem encs_toL (xs : List ByteArray) : encs Value.string xs = (xs.map toL).map encStr := by
  unfold encs
  rw [List.map_map]
  refine List.map_congr_left fun x _ => ?_
  show Value.string x = Value.string (ofL (toL x))
  rw [ofL_toL]
theorem encs_ofL (ls : List (List UInt8)) : encs Value.string (ls.map ofL) = ls.map encStr := by
  unfold encs
  rw [List.map_map]
  rfl
theorem compact_own (base : Nat) (v : Value) (xs r : List ByteArray) (w0 W : World) (hr : Kd.R Kd.string 9 W base (fun _ => True) v xs) (hB : Below base w0 W) (h : slices_Compact_string_string.f xs = some r) :
    Calls Try.prog 103 #[v] W fun e w' => ∃ v1, e = .returned v1 ∧ Kd.R Kd.string 9 w' base (fun _ => True) v1 r ∧ Below base w0 w' := by
  obtain rfl := Option.some.inj h
  have hown := Kd.own_of_R hr
  have hl2 : (xs.map toL).length = xs.length := List.length_map ..
  have hle := Lib.compact_length_le (xs.map toL)
  by_cases hv : v = .slice none 0 0
  · subst hv
    have hx0 : xs = [] := by
      obtain ⟨A, c, he, _⟩ := Kd.R_reads hr
      injection he with _ hn _
      exact List.length_eq_zero_iff.1 hn.symm
    subst hx0
    refine (Any.slices_Compact_string_empty Try.laysCompact none 0 W).mono ?_
    rintro e w' ⟨rfl, rfl⟩
    exact ⟨_, rfl, hr, hB⟩
  · rw [encs_toL] at hown
    obtain ⟨g, cap, rfl, hbg, hgl, hnc, hcm, hlen, hH⟩ := Lib.holds_of_ownsRow hown hv
    have hc := Any.slices_Compact_string Try.laysCompact g 0 cap (xs.map toL) W hH (by have : maxLen = 9223372036854775807 := rfl; omega) (by omega)
    rw [hl2] at hc
    refine hc.mono ?_
    rintro e w' ⟨rfl, q, rfl⟩
    have ho := Lib.ownsRow_putRow (q := q) (k := (Lib.compact (xs.map toL)).length) (ys := Lib.compact (xs.map toL) ++ List.replicate (xs.length - (Lib.compact (xs.map toL)).length) []) hown (by simp; omega) (by omega)
    rw [List.take_left, ← encs_ofL] at ho
    refine ⟨_, rfl, ?_, Lib.below_putRow hB hbg⟩
    exact Kd.R_of_own (h1 := fun _ => rfl) (by unfold cptB; rw [List.length_map]; exact ho) (fun _ _ => trivial)
def impl_users.l0 : Nat → List ByteArray → List (S48) → Int → Int → Option (List ByteArray)
 | 0, _, _, _, _ => none
 | k + 1, x3, x7, x8, x9 => if x9 < x8 then (if 0 ≤ x9 then (if x9 < (x7.length : Int) then (if x3.length < 8796093022208 then (impl_users.l0 k (x3 ++ [(qg x7 x9).f0.f0]) x7 x8 (wrap64 (x9 + 1))) else (none)) else (none)) else (none)) else ((slices_Compact_string_string.f x3).bind fun t109 => (some t109))
def impl_users.f (k : Nat) (l0 : List (S48)) : Option (List ByteArray) := impl_users.l0 k (([] : List ByteArray)) l0 (l0.length : Int) 0
set_option maxHeartbeats 8000000 in
set_option maxRecDepth 100000 in
theorem impl_users.calls (k : Nat) (A0 : Option Addr) (c0 : Nat) (l0 : List (S48)) (r : List ByteArray) (w : World) (hr0 : Kd.C k48 w A0 l0.length l0) (hc0 : l0.length ≤ c0) (h : impl_users.f k l0 = some r) :
  Calls Try.prog 75 #[.slice A0 l0.length c0] w fun e w' => ∃ v0_ : Value, e = .returned (v0_) ∧ Kd.R Kd.string 9 w' w.heap.size (fun _ => True) v0_ r ∧ Below w.heap.size w w' := by
 have hu48 := Try.underlying48
 have HR0 := Qz.mk hr0
 have HC0 := Qz.mk hc0
 clear hr0 hc0
 have HB := Qz.mk (Below.refl w.heap.size w)
 have H : (impl_users.l0 k (([] : List ByteArray)) l0 (l0.length : Int) 0) = some r := h
 clear h
 obtain ⟨y101, hy101⟩ : ∃ y_ : List ByteArray, y_ = (([] : List ByteArray)) := ⟨_, rfl⟩
 replace H : (impl_users.l0 k y101 l0 (l0.length : Int) 0) = some r := by first | (rw [hy101]; with_reducible exact H) | (have H2_ := (Option.bind_some _ _).symm.trans H; rw [hy101]; with_reducible exact H2_) | (have H2_ := (Option.bind_some _ _).symm.trans H; with_reducible exact H2_) | with_reducible exact H | (rw [hy101]; exact H) | exact H
 have Ny101 := Qz.mk hy101
 clear hy101
 have H' := Qz.mk H
 clear H
 go_enter Try.func75, Try.ntmps75
 go_wp2_with (first | ((with_reducible refine gate_dst (N := 6) rfl ?_); refine Kd.R_lit Kd.string _ 9 ?hg (N := 6) ?hd (xs := ([] : List ByteArray)) (inner := []) (ok := fun _ => True) (okp := fun _ => True) ?hr ?hp (fun _ hk => hk) trivial (Below.refl _ _) (Nat.le_refl _) (by simp) ?_; (case hd => rfl); (case hg => rfl); (case hr => first | (go_simp; done) | (go_simp; rfl)); (case hp => exact (Reps.none _ _)); intro v102 w2 ho3 hb hg_ hnew_; clear hg_ hnew_; (first | rw [← Ny101.out] at ho3 | (simp only [Int.reduceToNat] at ho3; rw [← Ny101.out] at ho3)); have HO103 := Qz.mk (Kd.R_lower ho3 (below_size (by repeat (first | (with_reducible first | exact HB.out | apply qc | apply qa | apply qb) | exact HB.out)))); replace HB := Qz.mk (qr (by repeat (first | (with_reducible first | exact HB.out | apply qc | apply qa | apply qb) | exact HB.out)) hb); clear hb ho3))
 go_loopg [3, 9] k (fun kq v3 v9 w' => ∃ (x3_1 : List ByteArray) (x9_1 : Int), v9 = .int .i64 x9_1 ∧ Qz (impl_users.l0 kq x3_1 l0 (l0.length : Int) x9_1 = some r) ∧ Qz (kq ≤ k) ∧ Qz (Kd.R Kd.string 9 w' w.heap.size (fun _ => True) v3 x3_1) ∧ Qz (Below w.heap.size w w'))
 case atStart => exact ⟨(y101), (0), (by first | rfl | (simp; done) | (simp [*]; done)), H', ⟨Nat.le_refl _⟩, ⟨by (with_reducible repeat (first | apply Kd.R_alloc | apply Kd.R_drewN | apply Kd.R_drew)); exact HO103.out⟩, ⟨by repeat (first | (with_reducible first | exact HB.out | apply qc | apply qa | apply qb) | exact HB.out)⟩⟩
 case round =>
  clear H'
  try clear p2
  obtain ⟨x3_1, x9_1, rfl, HA, HK1, HO_3, HB⟩ := hrel
  cases gk with
  | zero => exact absurd HA.out (by simp [impl_users.l0])
  | succ k1 =>
   have H := HA.out
   clear HA
   simp only [impl_users.l0] at H
   by_cases c4 : x9_1 < (l0.length : Int)
   ·rw [if_pos c4] at H
    have c4b0 : decide (x9_1 < (l0.length : Int)) = true := decide_eq_true c4
    clear c4
    by_cases c5 : 0 ≤ x9_1
    ·rw [if_pos c5] at H
     have c5b0 : decide (0 ≤ x9_1) = true := decide_eq_true c5
     clear c5
     by_cases c6 : x9_1 < (l0.length : Int)
     ·rw [if_pos c6] at H
      have c6b0 : decide (x9_1 < (l0.length : Int)) = true := decide_eq_true c6
      clear c6
      by_cases c7 : x3_1.length < 8796093022208
      ·rw [if_pos c7] at H
       have LMc7 := Qz.mk c7
       clear c7
       obtain ⟨y106, hy106⟩ : ∃ y_ : List ByteArray, y_ = (x3_1 ++ [(qg l0 x9_1).f0.f0]) := ⟨_, rfl⟩
       replace H : (impl_users.l0 k1 y106 l0 (l0.length : Int) (wrap64 (x9_1 + 1))) = some r := by first | (rw [hy106]; with_reducible exact H) | (have H2_ := (Option.bind_some _ _).symm.trans H; rw [hy106]; with_reducible exact H2_) | (have H2_ := (Option.bind_some _ _).symm.trans H; with_reducible exact H2_) | with_reducible exact H | (rw [hy106]; exact H) | exact H
       have Ny106 := Qz.mk hy106
       clear hy106
       have H' := Qz.mk H
       clear H
       have p104 : 0 ≤ (x9_1 : Int) := of_decide_eq_true (by first | (with_reducible assumption) | assumption)
       have q104 : x9_1 < (l0.length : Int) := of_decide_eq_true (by first | (with_reducible assumption) | assumption)
       obtain ⟨ad104, e104, hx104_0, hx104_1, hx104_2, hx104_3⟩ := at_T48 HR0.out x9_1 p104 q104
       cases e104
       replace hx104_0 := (HB.out.cell (World.block_lt_of_cell? w _ hx104_0)).trans hx104_0
       replace hx104_1 := (HB.out.cell (World.block_lt_of_cell? w _ hx104_1)).trans hx104_1
       replace hx104_2 := (HB.out.cell (World.block_lt_of_cell? w _ hx104_2)).trans hx104_2
       replace hx104_3 := (HB.out.cell (World.block_lt_of_cell? w _ hx104_3)).trans hx104_3
       replace p104 := eq_true p104
       replace q104 := eq_true q104
       go_wp2_with (first | ((with_reducible refine gate_dst (N := 5) rfl ?_); refine box_event ?hg (N := 5) ?hd (cs := #[.string (⟨#[]⟩ : ByteArray), .int .i64 0, .int .i64 0, .string (⟨#[]⟩ : ByteArray)]) (t := 48) ?hr ?_; (case hd => rfl); (case hg => rfl); (case hr => first | (go_simp; done) | (go_simp; rfl)); intro gb105 hg w8 hbox hb; replace HO_3 := Qz.mk (Kd.R_below (by (with_reducible repeat (first | apply Kd.R_alloc | apply Kd.R_drewN | apply Kd.R_drew)); exact HO_3.out) hb); have BK105 := Qz.mk (hbox); have GW105 := Qz.mk ((by rw [hg]; exact (below_size (by repeat (first | (with_reducible first | exact HB.out | apply qc | apply qa | apply qb) | exact HB.out))) : w.heap.size ≤ gb105)); have GE105 := GW105; replace HB := Qz.mk (qr (by repeat (first | (with_reducible first | exact HB.out | apply qc | apply qa | apply qb) | exact HB.out)) hb); clear hb hbox hg; have hcz9_0 : w8.cell? ⟨gb105, 0, none⟩ = some (.string (⟨#[]⟩ : ByteArray)) := (qe BK105.out 0).trans rfl; have hcz9_1 : w8.cell? ⟨gb105, 1, none⟩ = some (.int .i64 0) := (qe BK105.out 1).trans rfl; have hcz9_2 : w8.cell? ⟨gb105, 2, none⟩ = some (.int .i64 0) := (qe BK105.out 2).trans rfl; have hcz9_3 : w8.cell? ⟨gb105, 3, none⟩ = some (.string (⟨#[]⟩ : ByteArray)) := (qe BK105.out 3).trans rfl; have hfz9_0 := qf BK105.out 0; have hfz9_1 := qf BK105.out 1; have hfz9_2 := qf BK105.out 2; have hfz9_3 := qf BK105.out 3) | ((with_reducible refine gate_builtin (b := .append) (xs := #[.tmp 13, .tmp 17]) rfl ?_); at_builtin; refine Kd.R_append Kd.string (w0 := w) w.heap.size rfl (.tmp 13) (.tmp 17) 49 9 (.string ⟨#[]⟩) 16 rfl Try.underlying49 info9 rfl (by decide) (by omega) u3 x3_1 ((qg l0 x9_1).f0.f0) [.string ((qg l0 x9_1).f0.f0)] (fun _ => True) (fun _ => False) rfl (by first | (go_simp; done) | (go_simp; rfl)) ?aP (fun _ hk => hk.elim) ?aF ?aO ?aB ?aS ?aL ?_; (case aP => exact rfl); (case aB => exact (by repeat (first | (with_reducible first | exact HB.out | apply qc | apply qa | apply qb | refine qd ?_ GE105.out) | exact HB.out))); (case aF => exact (fun _ _ => trivial)); (case aO => exact (by (with_reducible repeat (first | apply Kd.R_alloc | apply Kd.R_drewN | apply Kd.R_drew)); exact Kd.R_mono (Kd.R_far (p := ⟨gb105, 3, none⟩) (Kd.R_far (p := ⟨gb105, 2, none⟩) (Kd.R_far (p := ⟨gb105, 1, none⟩) (Kd.R_far (p := ⟨gb105, 0, none⟩) (Kd.R_types HO_3.out BK105.out (by decide)) (fun _ hk => hk.2) (.string ((qg l0 x9_1).f0.f0))) (fun _ hk => hk.2) (.int .i64 ((qg l0 x9_1).f0.f1))) (fun _ hk => hk.2) (.int .i64 ((qg l0 x9_1).f0.f2))) (fun _ hk => hk.2) (.string ((qg l0 x9_1).f1))) (fun _ hk => trivial))); (case aS => exact (below_size (by repeat (first | (with_reducible first | exact HB.out | apply qc | apply qa | apply qb | refine qd ?_ GE105.out) | exact HB.out)))); (case aL => have := LMc7.out; omega); intro v107 w10 ho hb hg hat; rw [← Ny106.out] at ho; have n0_ := Qz.mk (blk_grown (g := gb105) (o := .cells #[.string ((qg l0 x9_1).f0.f0), .int .i64 ((qg l0 x9_1).f0.f1), .int .i64 ((qg l0 x9_1).f0.f2), .string ((qg l0 x9_1).f1)] 48 (0, 0)) (by (with_reducible repeat (first | refine qh ?_ _ | refine qk ?_ | refine qi ?_ _)); refine blk_put (cs := #[.string ((qg l0 x9_1).f0.f0), .int .i64 ((qg l0 x9_1).f0.f1), .int .i64 ((qg l0 x9_1).f0.f2), .string (⟨#[]⟩ : ByteArray)]) ?_ 3 _ rfl; (with_reducible repeat (first | refine qh ?_ _ | refine qk ?_ | refine qi ?_ _)); refine blk_put (cs := #[.string ((qg l0 x9_1).f0.f0), .int .i64 ((qg l0 x9_1).f0.f1), .int .i64 0, .string (⟨#[]⟩ : ByteArray)]) ?_ 2 _ rfl; (with_reducible repeat (first | refine qh ?_ _ | refine qk ?_ | refine qi ?_ _)); refine blk_put (cs := #[.string ((qg l0 x9_1).f0.f0), .int .i64 0, .int .i64 0, .string (⟨#[]⟩ : ByteArray)]) ?_ 1 _ rfl; (with_reducible repeat (first | refine qh ?_ _ | refine qk ?_ | refine qi ?_ _)); refine blk_put (cs := #[.string (⟨#[]⟩ : ByteArray), .int .i64 0, .int .i64 0, .string (⟨#[]⟩ : ByteArray)]) ?_ 0 _ rfl; (with_reducible repeat (first | refine qh ?_ _ | refine qk ?_ | refine qi ?_ _)); exact BK105.out) hg (Kd.R_ne HO_3.out BK105.out (by decide))); have n1_ := Qz.mk (hb); have n2_ := Qz.mk (ho); clear BK105; clear HB; clear HO_3; have BK105 := n0_; have HB := n1_; have HO108 := n2_; clear n0_ n1_ n2_; clear ho hb hg hat))
       go_roundg k1
       case measure => have := HK1.out; omega
       case rel => exact ⟨(y106), (wrap64 (x9_1 + 1)), (by first | rfl | (simp; done) | (simp [*]; done)), H', ⟨by have := HK1.out; omega⟩, ⟨by (with_reducible repeat (first | apply Kd.R_alloc | apply Kd.R_drewN | apply Kd.R_drew)); exact HO108.out⟩, ⟨by repeat (first | (with_reducible first | exact HB.out | apply qc | apply qa | apply qb | refine qd ?_ GE105.out) | exact HB.out)⟩⟩
      ·rw [if_neg c7] at H
       exact absurd H (by simp)
     ·rw [if_neg c6] at H
      exact absurd H (by simp)
    ·rw [if_neg c5] at H
     exact absurd H (by simp)
   ·rw [if_neg c4] at H
    have c4b0 : decide (x9_1 < (l0.length : Int)) = false := decide_eq_false c4
    clear c4
    replace H := Option.bind_eq_some_iff.mp H
    obtain ⟨t109, A110, H⟩ := H
    replace H : (some t109) = some r := H
    have A11 := Qz.mk A110
    clear A110
    obtain rfl := Option.some.inj H
    obtain ⟨Ao12, co12, eo12⟩ := Kd.R_slice HO_3.out
    subst eo12
    go_wp2_with (first | ((with_reducible refine qq (f := 103) rfl ?_); refine qu (some 21) rfl rfl Try.func103 (by kernel_rfl) rfl #[.slice Ao12 x3_1.length co12] rfl (by (try simp only [List.map_toArray, List.map_cons, List.map_nil]); first | done | rfl | (simp only [List.length_drop, List.length_take]; rfl) | (rw [IntWalk.u64_in _ (by omega)] <;> rfl)) ?_; (with_reducible refine (compact_own w.heap.size _ x3_1 t109 w _ ?side1 ?side2 A11.out).mono ?_); (case side1 => exact (by (with_reducible repeat (first | apply Kd.R_alloc | apply Kd.R_drewN | apply Kd.R_drew)); exact HO_3.out)); (case side2 => exact (by repeat (first | (with_reducible first | exact HB.out | apply qc | apply qa | apply qb) | exact HB.out))); rintro e w13 ⟨v110, rfl, ho0, hb⟩; refine ⟨_, rfl, ?_⟩; have n1_ := Qz.mk ho0; have n2_ := Qz.mk hb; clear HO_3; clear HB; have HO111 := n1_; have HB := n2_; clear n1_ n2_; (try clear hb); (try clear ho0)))
    go_ret
    exact ⟨_, by first | rfl | (simp [qp, qo] <;> rfl) | (simp [*, qp, qo] <;> rfl), by (with_reducible repeat (first | apply Kd.R_alloc | apply Kd.R_drewN | apply Kd.R_drew)); exact Kd.R_mono HO111.out (fun _ hk => trivial), by repeat (first | (with_reducible first | exact HB.out | apply qc | apply qa | apply qb) | exact HB.out)⟩
def impl_MemUsers.f (k : Nat) (l0 : List (S48)) : Option (List ByteArray) := (impl_EntriesOk.f k l0).bind fun t101 => (if t101 = true then ((impl_users.f k l0).bind fun t102 => (some t102)) else (some ([] : List ByteArray)))
set_option maxHeartbeats 8000000 in
set_option maxRecDepth 100000 in
theorem impl_MemUsers.calls (k : Nat) (A0 : Option Addr) (c0 : Nat) (l0 : List (S48)) (r : List ByteArray) (w : World) (hr0 : Kd.C k48 w A0 l0.length l0) (hc0 : l0.length ≤ c0) (h : impl_MemUsers.f k l0 = some r) :
  Calls Try.prog 33 #[.slice A0 l0.length c0] w fun e w' => ∃ v0_ : Value, e = .returned (v0_) ∧ Kd.R Kd.string 9 w' w.heap.size (fun _ => True) v0_ r ∧ Below w.heap.size w w' := by
 have HR0 := Qz.mk hr0
 have HC0 := Qz.mk hc0
 clear hr0 hc0
 have HB := Qz.mk (Below.refl w.heap.size w)
 have H : ((impl_EntriesOk.f k l0).bind fun t101 => (if t101 = true then ((impl_users.f k l0).bind fun t102 => (some t102)) else (some ([] : List ByteArray)))) = some r := h
 clear h
 replace H := Option.bind_eq_some_iff.mp H
 obtain ⟨t101, A20, H⟩ := H
 replace H : (if t101 = true then ((impl_users.f k l0).bind fun t102 => (some t102)) else (some ([] : List ByteArray))) = some r := H
 have A2 := Qz.mk A20
 clear A20
 by_cases c3 : t101 = true
 ·subst c3
  have H1 : ((impl_users.f k l0).bind fun t102 => (some t102)) = some r := by rw [if_pos rfl] at H; exact H
  clear H
  have H := H1
  clear H1
  replace H := Option.bind_eq_some_iff.mp H
  obtain ⟨t102, A40, H⟩ := H
  replace H : (some t102) = some r := H
  have A4 := Qz.mk A40
  clear A40
  obtain rfl := Option.some.inj H
  go_enter Try.func33, Try.ntmps33
  go_wp2_with (first | ((with_reducible refine qq (f := 44) rfl ?_); refine qu (some 4) rfl rfl Try.func44 (by kernel_rfl) rfl #[.slice A0 l0.length c0] rfl (by (try simp only [List.map_toArray, List.map_cons, List.map_nil]); first | done | rfl | (simp only [List.length_drop, List.length_take]; rfl) | (rw [IntWalk.u64_in _ (by omega)] <;> rfl)) ?_; (with_reducible refine (impl_EntriesOk.calls k _ _ l0 true _ ?side1 ?side2 A2.out).mono ?_); (case side1 => repeat (first | exact HR0.out | (with_reducible refine Kd.C_alloc ?_ _) | (with_reducible refine Kd.C_drewN ?_ _) | (with_reducible refine Kd.C_drew ?_))); (case side2 => exact HC0.out); rintro e w5 ⟨rfl, hb⟩; refine ⟨_, rfl, ?_⟩; replace HB := Qz.mk (qr (by repeat (first | (with_reducible first | exact HB.out | apply qc | apply qa | apply qb) | exact HB.out)) hb); (try clear hb)) | ((with_reducible refine qq (f := 75) rfl ?_); refine qu (some 7) rfl rfl Try.func75 (by kernel_rfl) rfl #[.slice A0 l0.length c0] rfl (by (try simp only [List.map_toArray, List.map_cons, List.map_nil]); first | done | rfl | (simp only [List.length_drop, List.length_take]; rfl) | (rw [IntWalk.u64_in _ (by omega)] <;> rfl)) ?_; (with_reducible refine (impl_users.calls k _ _ l0 t102 _ ?side1 ?side2 A4.out).mono ?_); (case side1 => repeat (first | exact (Kd.C_below HR0.out HB.out) | (with_reducible refine Kd.C_alloc ?_ _) | (with_reducible refine Kd.C_drewN ?_ _) | (with_reducible refine Kd.C_drew ?_))); (case side2 => exact HC0.out); rintro e w6 ⟨v103, rfl, ho0, hb⟩; refine ⟨_, rfl, ?_⟩; have HO104 := Qz.mk (Kd.R_lower ho0 (below_size (by repeat (first | (with_reducible first | exact HB.out | apply qc | apply qa | apply qb) | exact HB.out)))); replace HB := Qz.mk (qr (by repeat (first | (with_reducible first | exact HB.out | apply qc | apply qa | apply qb) | exact HB.out)) hb); (try clear hb); (try clear ho0)))
  go_ret
  exact ⟨_, by first | rfl | (simp [qp, qo] <;> rfl) | (simp [*, qp, qo] <;> rfl), by (with_reducible repeat (first | apply Kd.R_alloc | apply Kd.R_drewN | apply Kd.R_drew)); exact HO104.out, by repeat (first | (with_reducible first | exact HB.out | apply qc | apply qa | apply qb) | exact HB.out)⟩
 ·replace c3 := Bool.eq_false_iff.mpr c3
  subst c3
  have H1 : (some ([] : List ByteArray)) = some r := by rw [if_neg (show ¬ (false = true) by decide)] at H; exact H
  clear H
  have H := H1
  clear H1
  obtain rfl := Option.some.inj H
  go_enter Try.func33, Try.ntmps33
  go_wp2_with (first | ((with_reducible refine qq (f := 44) rfl ?_); refine qu (some 4) rfl rfl Try.func44 (by kernel_rfl) rfl #[.slice A0 l0.length c0] rfl (by (try simp only [List.map_toArray, List.map_cons, List.map_nil]); first | done | rfl | (simp only [List.length_drop, List.length_take]; rfl) | (rw [IntWalk.u64_in _ (by omega)] <;> rfl)) ?_; (with_reducible refine (impl_EntriesOk.calls k _ _ l0 false _ ?side1 ?side2 A2.out).mono ?_); (case side1 => repeat (first | exact HR0.out | (with_reducible refine Kd.C_alloc ?_ _) | (with_reducible refine Kd.C_drewN ?_ _) | (with_reducible refine Kd.C_drew ?_))); (case side2 => exact HC0.out); rintro e w7 ⟨rfl, hb⟩; refine ⟨_, rfl, ?_⟩; replace HB := Qz.mk (qr (by repeat (first | (with_reducible first | exact HB.out | apply qc | apply qa | apply qb) | exact HB.out)) hb); (try clear hb)))
  go_ret
  exact ⟨_, by first | rfl | (simp [qp, qo] <;> rfl) | (simp [*, qp, qo] <;> rfl), by first | exact Kd.R_nil _ _ _ _ _ | exact Kd.N_nil _ _ _ _ _ | exact Kd.V_nil _ _ _ _ _ | exact Kd.Q_nil _ _ _ _ _ | exact Kd.S_nil _ _ _ _ _, by repeat (first | (with_reducible first | exact HB.out | apply qc | apply qa | apply qb) | exact HB.out)⟩
end Go.Proofs.Ytbojfnijgmppbaa.P
end

section
namespace Go.Proofs.Ytbojfnijgmppbaa.P
open Go.RowKit Go.Proofs.YtbojfnijgmppbaaW.PrintWords Go.Proofs.YtbojfnijgmppbaaW.PrintLast Go.Proofs.YtbojfnijgmppbaaW.PrintMore
attribute [local go_sem] str_gtr str_leq str_geq max2_int min2_int max_two min_two qw qv max_four min_four
set_option linter.unusedVariables false
set_option linter.unusedSimpArgs false
def idxf {α : Type} (p : α → Bool) : List α → Nat → Int
  | [], _ => -1
  | x :: xs, i => if p x = true then (i : Int) else idxf p xs (i + 1)
theorem idxf_hit {α : Type} (p : α → Bool) (d : α) : ∀ (l : List α) (k i : Nat), k < l.length → p (l.getD k d) = true → (∀ j, j < k → p (l.getD j d) = false) → idxf p l i = ((i + k : Nat) : Int)
  | [], _, _, h, _, _ => absurd h (Nat.not_lt_zero _)
  | x :: xs, 0, i, _, h, _ => by
    have : p x = true := by simpa using h
    simp [idxf, this]
  | x :: xs, k + 1, i, hk, h, hn => by
    have h0 : p x = false := by simpa using hn 0 (Nat.succ_pos _)
    simp only [idxf, h0, Bool.false_eq_true, if_false]
    rw [idxf_hit p d xs k (i + 1) (by simpa using hk) (by simpa using h) (fun j hj => by simpa using hn (j + 1) (by omega))]
    congr 1
    omega
theorem idxf_miss {α : Type} (p : α → Bool) (d : α) : ∀ (l : List α) (i : Nat), (∀ j, j < l.length → p (l.getD j d) = false) → idxf p l i = -1
  | [], _, _ => rfl
  | x :: xs, i, hn => by
    have h0 : p x = false := by simpa using hn 0 (by simp)
    simp only [idxf, h0, Bool.false_eq_true, if_false]
    exact idxf_miss p d xs (i + 1) (fun j hj => by simpa using hn (j + 1) (by simpa using hj))
theorem idxf_any {α : Type} (p : α → Bool) : ∀ (l : List α) (i : Nat), decide (0 ≤ idxf p l i) = l.any p
  | [], _ => rfl
  | x :: xs, i => by
    cases h : p x with
    | true => simp [idxf, h]
    | false =>
      simp only [idxf, h, Bool.false_eq_true, if_false, List.any_cons, Bool.false_or]
      exact idxf_any p xs (i + 1)
set_option maxHeartbeats 2000000 in
theorem indexFunc_Entry.calls (g : Nat) (lb : Array Value) (p : S48 → Bool) (A : Option Addr) (c : Nat) (l : List S48) (w : World) (hr : Kd.C k48 w A l.length l)
    (eg : ∀ args w, (callFunc g args).run Try.prog w = .ok (.enter g args) w)
    (hp : ∀ (x : S48) (W : World), Below w.heap.size w W → Calls Try.prog g (#[.agg #[.string x.f0.f0, .int .i64 x.f0.f1, .int .i64 x.f0.f2, .string x.f1]] ++ lb) W fun e w' => e = .returned (.bool (p x)) ∧ Below w.heap.size w w') :
    Calls Try.prog 122 #[.slice A l.length c, .func (.func g) #[] lb] w fun e w' => e = .returned (.int .i64 (idxf p l 0)) ∧ Below w.heap.size w w' := by
  have hlm := Kd.C_max hr
  have HR := Qz.mk hr
  clear hr
  go_enter Try.func122, Try.ntmps122
  go_wp2
  go_loopg [5, 8] l.length (fun gg _ s8 wr => ∃ i : Int, 0 ≤ i ∧ i ≤ l.length ∧ (l.length : Int) - i ≤ gg ∧ s8 = .int .i64 i ∧ Qz (Below w.heap.size w wr) ∧ Qz (∀ j : Nat, (j : Int) < i → p (l.getD j z48) = false))
  case atStart => exact ⟨0, by omega, by omega, by omega, rfl, ⟨Below.refl _ w⟩, ⟨fun j hj => absurd hj (by omega)⟩⟩
  case round =>
    obtain ⟨i, hi0, hi1, hg, rfl, BW, AN⟩ := hrel
    by_cases hlt : i < (l.length : Int)
    · obtain ⟨k1, rfl⟩ : ∃ m, gk = m + 1 := ⟨gk - 1, by omega⟩
      have hd : decide (i < (l.length : Int)) = true := decide_eq_true hlt
      obtain ⟨ad, e, h0, h1, h2, h3⟩ := at_T48 HR.out i hi0 hlt
      cases e
      replace h0 := (BW.out.cell (World.block_lt_of_cell? w _ h0)).trans h0
      replace h1 := (BW.out.cell (World.block_lt_of_cell? w _ h1)).trans h1
      replace h2 := (BW.out.cell (World.block_lt_of_cell? w _ h2)).trans h2
      replace h3 := (BW.out.cell (World.block_lt_of_cell? w _ h3)).trans h3
      have hcall := hp (qg l i) wr BW.out
      clear hp
      have HX : Qz (qg l i = l.getD i.toNat z48) := ⟨rfl⟩
      generalize qg l i = x at h0 h1 h2 h3 hcall HX
      cases hq : p x with
      | true =>
        rw [hq] at hcall
        have HQ := Qz.mk hq
        clear hq
        go_wp2_with fail
        (with_reducible refine hcall.mono ?_)
        rintro e w' ⟨rfl, hb'⟩
        go_wp2
        go_ret
        refine ⟨?_, hb'⟩
        show Ending.returned (.int .i64 i) = _
        rw [idxf_hit p z48 l i.toNat 0 (by omega) (by rw [← HX.out]; exact HQ.out) (fun j hj => AN.out j (by omega))]
        rw [show (((0 + i.toNat : Nat)) : Int) = i from by omega]
      | false =>
        rw [hq] at hcall
        have HQ := Qz.mk hq
        clear hq
        go_wp2_with fail
        (with_reducible refine hcall.mono ?_)
        rintro e w' ⟨rfl, hb'⟩
        go_wp2
        go_roundg k1
        case measure => omega
        case rel =>
          refine ⟨i + 1, by omega, by omega, by omega, by first | rfl | go_num, ⟨hb'⟩, ⟨fun j hj => ?_⟩⟩
          by_cases e : (j : Int) = i
          · subst e
            rw [← show x = l.getD j z48 from HX.out]
            exact HQ.out
          · exact AN.out j (by omega)
    · have hd : decide (i < (l.length : Int)) = false := decide_eq_false hlt
      go_wp2
      all_goals
        go_ret
        refine ⟨?_, BW.out⟩
        rw [idxf_miss p z48 l 0 (fun j hj => AN.out j (by omega))]
        rfl
set_option maxHeartbeats 2000000 in
theorem indexFunc_Pair.calls (g : Nat) (lb : Array Value) (p : S76 → Bool) (A : Option Addr) (c : Nat) (l : List S76) (w : World) (hr : Kd.C k76 w A l.length l)
    (eg : ∀ args w, (callFunc g args).run Try.prog w = .ok (.enter g args) w)
    (hp : ∀ (x : S76) (W : World), Below w.heap.size w W → Calls Try.prog g (#[.agg #[.string x.f0, .string x.f1]] ++ lb) W fun e w' => e = .returned (.bool (p x)) ∧ Below w.heap.size w w') :
    Calls Try.prog 126 #[.slice A l.length c, .func (.func g) #[] lb] w fun e w' => e = .returned (.int .i64 (idxf p l 0)) ∧ Below w.heap.size w w' := by
  have hlm := Kd.C_max hr
  have HR := Qz.mk hr
  clear hr
  go_enter Try.func126, Try.ntmps126
  go_wp2
  go_loopg [5, 8] l.length (fun gg _ s8 wr => ∃ i : Int, 0 ≤ i ∧ i ≤ l.length ∧ (l.length : Int) - i ≤ gg ∧ s8 = .int .i64 i ∧ Qz (Below w.heap.size w wr) ∧ Qz (∀ j : Nat, (j : Int) < i → p (l.getD j z76) = false))
  case atStart => exact ⟨0, by omega, by omega, by omega, rfl, ⟨Below.refl _ w⟩, ⟨fun j hj => absurd hj (by omega)⟩⟩
  case round =>
    obtain ⟨i, hi0, hi1, hg, rfl, BW, AN⟩ := hrel
    by_cases hlt : i < (l.length : Int)
    · obtain ⟨k1, rfl⟩ : ∃ m, gk = m + 1 := ⟨gk - 1, by omega⟩
      have hd : decide (i < (l.length : Int)) = true := decide_eq_true hlt
      obtain ⟨ad, e, h0, h1⟩ := at_T76 HR.out i hi0 hlt
      cases e
      replace h0 := (BW.out.cell (World.block_lt_of_cell? w _ h0)).trans h0
      replace h1 := (BW.out.cell (World.block_lt_of_cell? w _ h1)).trans h1
      have hcall := hp (rd_T76 l i) wr BW.out
      clear hp
      have HX : Qz (rd_T76 l i = l.getD i.toNat z76) := ⟨rfl⟩
      generalize rd_T76 l i = x at h0 h1 hcall HX
      cases hq : p x with
      | true =>
        rw [hq] at hcall
        have HQ := Qz.mk hq
        clear hq
        go_wp2_with fail
        (with_reducible refine hcall.mono ?_)
        rintro e w' ⟨rfl, hb'⟩
        go_wp2
        go_ret
        refine ⟨?_, hb'⟩
        show Ending.returned (.int .i64 i) = _
        rw [idxf_hit p z76 l i.toNat 0 (by omega) (by rw [← HX.out]; exact HQ.out) (fun j hj => AN.out j (by omega))]
        rw [show (((0 + i.toNat : Nat)) : Int) = i from by omega]
      | false =>
        rw [hq] at hcall
        have HQ := Qz.mk hq
        clear hq
        go_wp2_with fail
        (with_reducible refine hcall.mono ?_)
        rintro e w' ⟨rfl, hb'⟩
        go_wp2
        go_roundg k1
        case measure => omega
        case rel =>
          refine ⟨i + 1, by omega, by omega, by omega, by first | rfl | go_num, ⟨hb'⟩, ⟨fun j hj => ?_⟩⟩
          by_cases e : (j : Int) = i
          · subst e
            rw [← show x = l.getD j z76 from HX.out]
            exact HQ.out
          · exact AN.out j (by omega)
    · have hd : decide (i < (l.length : Int)) = false := decide_eq_false hlt
      go_wp2
      all_goals
        go_ret
        refine ⟨?_, BW.out⟩
        rw [idxf_miss p z76 l 0 (fun j hj => AN.out j (by omega))]
        rfl
end Go.Proofs.Ytbojfnijgmppbaa.P
end

section
namespace Go.Proofs.Ytbojfnijgmppbaa.P
open Go.RowKit Go.Proofs.YtbojfnijgmppbaaW.PrintWords Go.Proofs.YtbojfnijgmppbaaW.PrintLast Go.Proofs.YtbojfnijgmppbaaW.PrintMore
attribute [local go_sem] str_gtr str_leq str_geq max2_int min2_int max_two min_two qw qv max_four min_four
set_option linter.unusedVariables false
set_option linter.unusedSimpArgs false
def lookp (a1 : ByteArray) (a2 : Int) (x : S48) : Bool := x.f0.f0.toList == a1.toList && decide (x.f0.f1 ≤ a2)
def impl_looked.f (l0 : List S48) (a1 : ByteArray) (a2 : Int) : Option (Int) := some (idxf (lookp a1 a2) l0 0)
set_option maxHeartbeats 4000000 in
theorem impl_looked.calls (A0 : Option Addr) (c0 : Nat) (l0 : List (S48)) (a1 : ByteArray) (a2 : Int) (r : Int) (w : World) (hr0 : Kd.C k48 w A0 l0.length l0) (hc0 : l0.length ≤ c0) (h : impl_looked.f l0 a1 a2 = some r) :
    Calls Try.prog 108 #[.slice A0 l0.length c0, .string a1, .int .i64 a2] w fun e w' => e = .returned (.int .i64 r) ∧ Below w.heap.size w w' := by
  obtain rfl := Option.some.inj h
  clear h hc0
  have eg : ∀ args w, (callFunc 123 args).run Try.prog w = .ok (.enter 123 args) w := fun args w => by kernel_rfl
  have hb0 : Below w.heap.size w ((w.alloc (.cells #[.string a1] 9)).alloc (.cells #[.int .i64 a2] 2)) := ((Below.refl _ w).alloc (Nat.le_refl _) _).alloc (by simp) _
  have hcall := indexFunc_Entry.calls 123 #[.pointer (some ⟨w.heap.size, 0, none⟩), .pointer (some ⟨w.heap.size + 1, 0, none⟩)] (lookp a1 a2) A0 c0 l0 _ (Kd.C_below hr0 hb0) eg
    (fun x W hb => by
      have hcell : W.cell? ⟨w.heap.size, 0, none⟩ = some (.string a1) := by
        refine (hb.cell (p := ⟨w.heap.size, 0, none⟩) (by simp; omega)).trans ?_
        simp
      have hcell2 : W.cell? ⟨w.heap.size + 1, 0, none⟩ = some (.int .i64 a2) := by
        refine (hb.cell (p := ⟨w.heap.size + 1, 0, none⟩) (by simp)).trans ?_
        simp
      show Calls Try.prog 123 #[.agg #[.string x.f0.f0, .int .i64 x.f0.f1, .int .i64 x.f0.f2, .string x.f1], .pointer (some ⟨w.heap.size, 0, none⟩), .pointer (some ⟨w.heap.size + 1, 0, none⟩)] W _
      have hW : w.heap.size + 1 < W.heap.size := Nat.lt_of_lt_of_le (by simp) hb.size
      have hca : ∀ o, (W.alloc o).cell? ⟨w.heap.size, 0, none⟩ = some (.string a1) := fun o => (((Below.refl _ W).alloc (Nat.le_refl _) o).cell (p := ⟨w.heap.size, 0, none⟩) (by show w.heap.size < _; omega)).trans hcell
      have hcb : ∀ o, (W.alloc o).cell? ⟨w.heap.size + 1, 0, none⟩ = some (.int .i64 a2) := fun o => (((Below.refl _ W).alloc (Nat.le_refl _) o).cell (p := ⟨w.heap.size + 1, 0, none⟩) (by show w.heap.size + 1 < _; omega)).trans hcell2
      clear hb0 hr0 eg hcell hcell2
      unfold lookp
      cases hq : (x.f0.f0.toList == a1.toList) with
      | true =>
        go_enter Try.func123, Try.ntmps123
        go_wp2
        go_ret
        exact ⟨by simp, hb.alloc hb.size _⟩
      | false =>
        go_enter Try.func123, Try.ntmps123
        go_wp2
        go_ret
        exact ⟨by simp, hb.alloc hb.size _⟩)
  clear hr0 eg
  have HB := Qz.mk hb0
  clear hb0
  generalize idxf (lookp a1 a2) l0 0 = r at hcall ⊢
  go_enter Try.func108, Try.ntmps108
  go_wp2_with fail
  (with_reducible refine hcall.mono ?_)
  rintro e w' ⟨rfl, hb'⟩
  go_wp2
  go_ret
  exact ⟨rfl, HB.out.trans (hb'.mono (by simp; omega))⟩
def impl_get.f (l0 : List (S48)) (a1 : ByteArray) (a2 : Int) : Option (Int × ByteArray) := (impl_looked.f l0 a1 a2).bind fun t101 => (if t101 < 0 then (some (0, (⟨#[]⟩ : ByteArray))) else (if 0 ≤ t101 then (if t101 < (l0.length : Int) then (if ((qg l0 t101).f0.f2) = 0 then (some (2, (⟨#[]⟩ : ByteArray))) else (some (1, (qg l0 t101).f1))) else (none)) else (none)))
set_option maxHeartbeats 8000000 in
set_option maxRecDepth 100000 in
theorem impl_get.calls (A0 : Option Addr) (c0 : Nat) (l0 : List (S48)) (a1 : ByteArray) (a2 : Int) (r1 : Int) (r2 : ByteArray) (w : World) (hr0 : Kd.C k48 w A0 l0.length l0) (hc0 : l0.length ≤ c0) (h : impl_get.f l0 a1 a2 = some (r1, r2)) :
  Calls Try.prog 85 #[.slice A0 l0.length c0, .string a1, .int .i64 a2] w fun e w' => e = .returned (.tuple #[.int .i64 r1, .string r2]) ∧ Below w.heap.size w w' := by
 have HR0 := Qz.mk hr0
 have HC0 := Qz.mk hc0
 clear hr0 hc0
 have HB := Qz.mk (Below.refl w.heap.size w)
 have H : ((impl_looked.f l0 a1 a2).bind fun t101 => (if t101 < 0 then (some (0, (⟨#[]⟩ : ByteArray))) else (if 0 ≤ t101 then (if t101 < (l0.length : Int) then (if ((qg l0 t101).f0.f2) = 0 then (some (2, (⟨#[]⟩ : ByteArray))) else (some (1, (qg l0 t101).f1))) else (none)) else (none)))) = some (r1, r2) := h
 clear h
 replace H := Option.bind_eq_some_iff.mp H
 obtain ⟨t101, A40, H⟩ := H
 replace H : (if t101 < 0 then (some (0, (⟨#[]⟩ : ByteArray))) else (if 0 ≤ t101 then (if t101 < (l0.length : Int) then (if ((qg l0 t101).f0.f2) = 0 then (some (2, (⟨#[]⟩ : ByteArray))) else (some (1, (qg l0 t101).f1))) else (none)) else (none))) = some (r1, r2) := H
 have A4 := Qz.mk A40
 clear A40
 by_cases c5 : t101 < 0
 ·rw [if_pos c5] at H
  have c5b0 : decide (t101 < 0) = true := decide_eq_true c5
  clear c5
  simp only [Option.some.injEq, Prod.mk.injEq] at H
  obtain ⟨rfl, rfl⟩ := H
  go_enter Try.func85, Try.ntmps85
  go_wp2_with (first | (go_at_call 108; (with_reducible refine (impl_looked.calls _ _ l0 a1 a2 t101 _ ?side1 ?side2 A4.out).mono ?_); (case side1 => repeat (first | exact HR0.out | (with_reducible refine Kd.C_alloc ?_ _) | (with_reducible refine Kd.C_drewN ?_ _) | (with_reducible refine Kd.C_drew ?_))); (case side2 => exact HC0.out); rintro e w6 ⟨rfl, hb⟩; replace HB := Qz.mk (qr (by repeat (first | (with_reducible first | exact HB.out | apply qc | apply qa | apply qb) | exact HB.out)) hb); (try clear hb)))
  repeat (go_quiet (first | (go_at_call 108; (with_reducible refine (impl_looked.calls _ _ l0 a1 a2 t101 _ ?side1 ?side2 A4.out).mono ?_); (case side1 => repeat (first | exact HR0.out | (with_reducible refine Kd.C_alloc ?_ _) | (with_reducible refine Kd.C_drewN ?_ _) | (with_reducible refine Kd.C_drew ?_))); (case side2 => exact HC0.out); rintro e w6 ⟨rfl, hb⟩; replace HB := Qz.mk (qr (by repeat (first | (with_reducible first | exact HB.out | apply qc | apply qa | apply qb) | exact HB.out)) hb); (try clear hb))); try go_wp2_with (first | (go_at_call 108; (with_reducible refine (impl_looked.calls _ _ l0 a1 a2 t101 _ ?side1 ?side2 A4.out).mono ?_); (case side1 => repeat (first | exact HR0.out | (with_reducible refine Kd.C_alloc ?_ _) | (with_reducible refine Kd.C_drewN ?_ _) | (with_reducible refine Kd.C_drew ?_))); (case side2 => exact HC0.out); rintro e w6 ⟨rfl, hb⟩; replace HB := Qz.mk (qr (by repeat (first | (with_reducible first | exact HB.out | apply qc | apply qa | apply qb) | exact HB.out)) hb); (try clear hb))))
  go_ret2
  exact ⟨by first | rfl | (simp [qp, qo] <;> rfl) | (simp [*, qp, qo] <;> rfl), by repeat (first | (with_reducible first | exact HB.out | apply qc | apply qa | apply qb) | exact HB.out)⟩
 ·rw [if_neg c5] at H
  have c5b0 : decide (t101 < 0) = false := decide_eq_false c5
  clear c5
  by_cases c7 : 0 ≤ t101
  ·rw [if_pos c7] at H
   have c7b0 : decide (0 ≤ t101) = true := decide_eq_true c7
   clear c7
   by_cases c8 : t101 < (l0.length : Int)
   ·rw [if_pos c8] at H
    have c8b0 : decide (t101 < (l0.length : Int)) = true := decide_eq_true c8
    clear c8
    by_cases c9 : ((qg l0 t101).f0.f2) = 0
    ·rw [if_pos c9] at H
     have c9b0 : (((qg l0 t101).f0.f2) == 0) = true := beq_iff_eq.mpr c9
     have c9b1 : (((qg l0 t101).f0.f2) != 0) = false := bne_eq_false_iff_eq.mpr c9
     clear c9
     simp only [Option.some.injEq, Prod.mk.injEq] at H
     obtain ⟨rfl, rfl⟩ := H
     go_enter Try.func85, Try.ntmps85
     go_wp2_with (first | (go_at_call 108; (with_reducible refine (impl_looked.calls _ _ l0 a1 a2 t101 _ ?side1 ?side2 A4.out).mono ?_); (case side1 => repeat (first | exact HR0.out | (with_reducible refine Kd.C_alloc ?_ _) | (with_reducible refine Kd.C_drewN ?_ _) | (with_reducible refine Kd.C_drew ?_))); (case side2 => exact HC0.out); rintro e w10 ⟨rfl, hb⟩; replace HB := Qz.mk (qr (by repeat (first | (with_reducible first | exact HB.out | apply qc | apply qa | apply qb) | exact HB.out)) hb); (try clear hb); have p102 : 0 ≤ (t101 : Int) := of_decide_eq_true (by first | (with_reducible assumption) | assumption); have q102 : t101 < (l0.length : Int) := of_decide_eq_true (by first | (with_reducible assumption) | assumption); obtain ⟨ad102, e102, hx102_0, hx102_1, hx102_2, hx102_3⟩ := at_T48 HR0.out t101 p102 q102; cases e102; replace hx102_0 := (HB.out.cell (World.block_lt_of_cell? w _ hx102_0)).trans hx102_0; replace hx102_1 := (HB.out.cell (World.block_lt_of_cell? w _ hx102_1)).trans hx102_1; replace hx102_2 := (HB.out.cell (World.block_lt_of_cell? w _ hx102_2)).trans hx102_2; replace hx102_3 := (HB.out.cell (World.block_lt_of_cell? w _ hx102_3)).trans hx102_3; replace p102 := eq_true p102; replace q102 := eq_true q102))
     repeat (go_quiet (first | (go_at_call 108; (with_reducible refine (impl_looked.calls _ _ l0 a1 a2 t101 _ ?side1 ?side2 A4.out).mono ?_); (case side1 => repeat (first | exact HR0.out | (with_reducible refine Kd.C_alloc ?_ _) | (with_reducible refine Kd.C_drewN ?_ _) | (with_reducible refine Kd.C_drew ?_))); (case side2 => exact HC0.out); rintro e w10 ⟨rfl, hb⟩; replace HB := Qz.mk (qr (by repeat (first | (with_reducible first | exact HB.out | apply qc | apply qa | apply qb) | exact HB.out)) hb); (try clear hb); have p102 : 0 ≤ (t101 : Int) := of_decide_eq_true (by first | (with_reducible assumption) | assumption); have q102 : t101 < (l0.length : Int) := of_decide_eq_true (by first | (with_reducible assumption) | assumption); obtain ⟨ad102, e102, hx102_0, hx102_1, hx102_2, hx102_3⟩ := at_T48 HR0.out t101 p102 q102; cases e102; replace hx102_0 := (HB.out.cell (World.block_lt_of_cell? w _ hx102_0)).trans hx102_0; replace hx102_1 := (HB.out.cell (World.block_lt_of_cell? w _ hx102_1)).trans hx102_1; replace hx102_2 := (HB.out.cell (World.block_lt_of_cell? w _ hx102_2)).trans hx102_2; replace hx102_3 := (HB.out.cell (World.block_lt_of_cell? w _ hx102_3)).trans hx102_3; replace p102 := eq_true p102; replace q102 := eq_true q102)); try go_wp2_with (first | (go_at_call 108; (with_reducible refine (impl_looked.calls _ _ l0 a1 a2 t101 _ ?side1 ?side2 A4.out).mono ?_); (case side1 => repeat (first | exact HR0.out | (with_reducible refine Kd.C_alloc ?_ _) | (with_reducible refine Kd.C_drewN ?_ _) | (with_reducible refine Kd.C_drew ?_))); (case side2 => exact HC0.out); rintro e w10 ⟨rfl, hb⟩; replace HB := Qz.mk (qr (by repeat (first | (with_reducible first | exact HB.out | apply qc | apply qa | apply qb) | exact HB.out)) hb); (try clear hb); have p102 : 0 ≤ (t101 : Int) := of_decide_eq_true (by first | (with_reducible assumption) | assumption); have q102 : t101 < (l0.length : Int) := of_decide_eq_true (by first | (with_reducible assumption) | assumption); obtain ⟨ad102, e102, hx102_0, hx102_1, hx102_2, hx102_3⟩ := at_T48 HR0.out t101 p102 q102; cases e102; replace hx102_0 := (HB.out.cell (World.block_lt_of_cell? w _ hx102_0)).trans hx102_0; replace hx102_1 := (HB.out.cell (World.block_lt_of_cell? w _ hx102_1)).trans hx102_1; replace hx102_2 := (HB.out.cell (World.block_lt_of_cell? w _ hx102_2)).trans hx102_2; replace hx102_3 := (HB.out.cell (World.block_lt_of_cell? w _ hx102_3)).trans hx102_3; replace p102 := eq_true p102; replace q102 := eq_true q102)))
     go_ret2
     exact ⟨by first | rfl | (simp [qp, qo] <;> rfl) | (simp [*, qp, qo] <;> rfl), by repeat (first | (with_reducible first | exact HB.out | apply qc | apply qa | apply qb) | exact HB.out)⟩
    ·rw [if_neg c9] at H
     have c9b0 : (((qg l0 t101).f0.f2) == 0) = false := beq_eq_false_iff_ne.mpr c9
     have c9b1 : (((qg l0 t101).f0.f2) != 0) = true := bne_iff_ne.mpr c9
     simp only [Option.some.injEq, Prod.mk.injEq] at H
     obtain ⟨rfl, rfl⟩ := H
     go_enter Try.func85, Try.ntmps85
     go_wp2_with (first | (go_at_call 108; (with_reducible refine (impl_looked.calls _ _ l0 a1 a2 t101 _ ?side1 ?side2 A4.out).mono ?_); (case side1 => repeat (first | exact HR0.out | (with_reducible refine Kd.C_alloc ?_ _) | (with_reducible refine Kd.C_drewN ?_ _) | (with_reducible refine Kd.C_drew ?_))); (case side2 => exact HC0.out); rintro e w11 ⟨rfl, hb⟩; replace HB := Qz.mk (qr (by repeat (first | (with_reducible first | exact HB.out | apply qc | apply qa | apply qb) | exact HB.out)) hb); (try clear hb); have p102 : 0 ≤ (t101 : Int) := of_decide_eq_true (by first | (with_reducible assumption) | assumption); have q102 : t101 < (l0.length : Int) := of_decide_eq_true (by first | (with_reducible assumption) | assumption); obtain ⟨ad102, e102, hx102_0, hx102_1, hx102_2, hx102_3⟩ := at_T48 HR0.out t101 p102 q102; cases e102; replace hx102_0 := (HB.out.cell (World.block_lt_of_cell? w _ hx102_0)).trans hx102_0; replace hx102_1 := (HB.out.cell (World.block_lt_of_cell? w _ hx102_1)).trans hx102_1; replace hx102_2 := (HB.out.cell (World.block_lt_of_cell? w _ hx102_2)).trans hx102_2; replace hx102_3 := (HB.out.cell (World.block_lt_of_cell? w _ hx102_3)).trans hx102_3; replace p102 := eq_true p102; replace q102 := eq_true q102; have p103 : 0 ≤ (t101 : Int) := of_decide_eq_true (by first | (with_reducible assumption) | assumption); have q103 : t101 < (l0.length : Int) := of_decide_eq_true (by first | (with_reducible assumption) | assumption); obtain ⟨ad103, e103, hx103_0, hx103_1, hx103_2, hx103_3⟩ := at_T48 HR0.out t101 p103 q103; obtain rfl : ad102 = ad103 := (by injection e103); replace hx103_0 := (HB.out.cell (World.block_lt_of_cell? w _ hx103_0)).trans hx103_0; replace hx103_1 := (HB.out.cell (World.block_lt_of_cell? w _ hx103_1)).trans hx103_1; replace hx103_2 := (HB.out.cell (World.block_lt_of_cell? w _ hx103_2)).trans hx103_2; replace hx103_3 := (HB.out.cell (World.block_lt_of_cell? w _ hx103_3)).trans hx103_3; replace p103 := eq_true p103; replace q103 := eq_true q103))
     repeat (go_quiet (first | (go_at_call 108; (with_reducible refine (impl_looked.calls _ _ l0 a1 a2 t101 _ ?side1 ?side2 A4.out).mono ?_); (case side1 => repeat (first | exact HR0.out | (with_reducible refine Kd.C_alloc ?_ _) | (with_reducible refine Kd.C_drewN ?_ _) | (with_reducible refine Kd.C_drew ?_))); (case side2 => exact HC0.out); rintro e w11 ⟨rfl, hb⟩; replace HB := Qz.mk (qr (by repeat (first | (with_reducible first | exact HB.out | apply qc | apply qa | apply qb) | exact HB.out)) hb); (try clear hb); have p102 : 0 ≤ (t101 : Int) := of_decide_eq_true (by first | (with_reducible assumption) | assumption); have q102 : t101 < (l0.length : Int) := of_decide_eq_true (by first | (with_reducible assumption) | assumption); obtain ⟨ad102, e102, hx102_0, hx102_1, hx102_2, hx102_3⟩ := at_T48 HR0.out t101 p102 q102; cases e102; replace hx102_0 := (HB.out.cell (World.block_lt_of_cell? w _ hx102_0)).trans hx102_0; replace hx102_1 := (HB.out.cell (World.block_lt_of_cell? w _ hx102_1)).trans hx102_1; replace hx102_2 := (HB.out.cell (World.block_lt_of_cell? w _ hx102_2)).trans hx102_2; replace hx102_3 := (HB.out.cell (World.block_lt_of_cell? w _ hx102_3)).trans hx102_3; replace p102 := eq_true p102; replace q102 := eq_true q102; have p103 : 0 ≤ (t101 : Int) := of_decide_eq_true (by first | (with_reducible assumption) | assumption); have q103 : t101 < (l0.length : Int) := of_decide_eq_true (by first | (with_reducible assumption) | assumption); obtain ⟨ad103, e103, hx103_0, hx103_1, hx103_2, hx103_3⟩ := at_T48 HR0.out t101 p103 q103; obtain rfl : ad102 = ad103 := (by injection e103); replace hx103_0 := (HB.out.cell (World.block_lt_of_cell? w _ hx103_0)).trans hx103_0; replace hx103_1 := (HB.out.cell (World.block_lt_of_cell? w _ hx103_1)).trans hx103_1; replace hx103_2 := (HB.out.cell (World.block_lt_of_cell? w _ hx103_2)).trans hx103_2; replace hx103_3 := (HB.out.cell (World.block_lt_of_cell? w _ hx103_3)).trans hx103_3; replace p103 := eq_true p103; replace q103 := eq_true q103)); try go_wp2_with (first | (go_at_call 108; (with_reducible refine (impl_looked.calls _ _ l0 a1 a2 t101 _ ?side1 ?side2 A4.out).mono ?_); (case side1 => repeat (first | exact HR0.out | (with_reducible refine Kd.C_alloc ?_ _) | (with_reducible refine Kd.C_drewN ?_ _) | (with_reducible refine Kd.C_drew ?_))); (case side2 => exact HC0.out); rintro e w11 ⟨rfl, hb⟩; replace HB := Qz.mk (qr (by repeat (first | (with_reducible first | exact HB.out | apply qc | apply qa | apply qb) | exact HB.out)) hb); (try clear hb); have p102 : 0 ≤ (t101 : Int) := of_decide_eq_true (by first | (with_reducible assumption) | assumption); have q102 : t101 < (l0.length : Int) := of_decide_eq_true (by first | (with_reducible assumption) | assumption); obtain ⟨ad102, e102, hx102_0, hx102_1, hx102_2, hx102_3⟩ := at_T48 HR0.out t101 p102 q102; cases e102; replace hx102_0 := (HB.out.cell (World.block_lt_of_cell? w _ hx102_0)).trans hx102_0; replace hx102_1 := (HB.out.cell (World.block_lt_of_cell? w _ hx102_1)).trans hx102_1; replace hx102_2 := (HB.out.cell (World.block_lt_of_cell? w _ hx102_2)).trans hx102_2; replace hx102_3 := (HB.out.cell (World.block_lt_of_cell? w _ hx102_3)).trans hx102_3; replace p102 := eq_true p102; replace q102 := eq_true q102; have p103 : 0 ≤ (t101 : Int) := of_decide_eq_true (by first | (with_reducible assumption) | assumption); have q103 : t101 < (l0.length : Int) := of_decide_eq_true (by first | (with_reducible assumption) | assumption); obtain ⟨ad103, e103, hx103_0, hx103_1, hx103_2, hx103_3⟩ := at_T48 HR0.out t101 p103 q103; obtain rfl : ad102 = ad103 := (by injection e103); replace hx103_0 := (HB.out.cell (World.block_lt_of_cell? w _ hx103_0)).trans hx103_0; replace hx103_1 := (HB.out.cell (World.block_lt_of_cell? w _ hx103_1)).trans hx103_1; replace hx103_2 := (HB.out.cell (World.block_lt_of_cell? w _ hx103_2)).trans hx103_2; replace hx103_3 := (HB.out.cell (World.block_lt_of_cell? w _ hx103_3)).trans hx103_3; replace p103 := eq_true p103; replace q103 := eq_true q103)))
     go_ret2
     exact ⟨by first | rfl | (simp [qp, qo] <;> rfl) | (simp [*, qp, qo] <;> rfl), by repeat (first | (with_reducible first | exact HB.out | apply qc | apply qa | apply qb) | exact HB.out)⟩
   ·rw [if_neg c8] at H
    exact absurd H (by simp)
  ·rw [if_neg c7] at H
   exact absurd H (by simp)
def impl_MemGet.f (k : Nat) (l0 : List (S48)) (a1 : ByteArray) (a2 : Int) : Option (Int × ByteArray) := (impl_EntriesOk.f k l0).bind fun t101 => (if t101 = true then ((impl_get.f l0 a1 a2).bind fun bt102 => (some (bt102.1, bt102.2))) else (some (0, (⟨#[]⟩ : ByteArray))))
set_option maxHeartbeats 8000000 in
set_option maxRecDepth 100000 in
theorem impl_MemGet.calls (k : Nat) (A0 : Option Addr) (c0 : Nat) (l0 : List (S48)) (a1 : ByteArray) (a2 : Int) (r1 : Int) (r2 : ByteArray) (w : World) (hr0 : Kd.C k48 w A0 l0.length l0) (hc0 : l0.length ≤ c0) (h : impl_MemGet.f k l0 a1 a2 = some (r1, r2)) :
  Calls Try.prog 43 #[.slice A0 l0.length c0, .string a1, .int .i64 a2] w fun e w' => e = .returned (.tuple #[.int .i64 r1, .string r2]) ∧ Below w.heap.size w w' := by
 have HR0 := Qz.mk hr0
 have HC0 := Qz.mk hc0
 clear hr0 hc0
 have HB := Qz.mk (Below.refl w.heap.size w)
 have H : ((impl_EntriesOk.f k l0).bind fun t101 => (if t101 = true then ((impl_get.f l0 a1 a2).bind fun bt102 => (some (bt102.1, bt102.2))) else (some (0, (⟨#[]⟩ : ByteArray))))) = some (r1, r2) := h
 clear h
 replace H := Option.bind_eq_some_iff.mp H
 obtain ⟨t101, A40, H⟩ := H
 replace H : (if t101 = true then ((impl_get.f l0 a1 a2).bind fun bt102 => (some (bt102.1, bt102.2))) else (some (0, (⟨#[]⟩ : ByteArray)))) = some (r1, r2) := H
 have A4 := Qz.mk A40
 clear A40
 by_cases c5 : t101 = true
 ·subst c5
  have H1 : ((impl_get.f l0 a1 a2).bind fun bt102 => (some (bt102.1, bt102.2))) = some (r1, r2) := by rw [if_pos rfl] at H; exact H
  clear H
  have H := H1
  clear H1
  replace H := Option.bind_eq_some_iff.mp H
  obtain ⟨⟨t102, t103⟩, A60, H⟩ := H
  replace H : (some (t102, t103)) = some (r1, r2) := H
  have A6 := Qz.mk A60
  clear A60
  simp only [Option.some.injEq, Prod.mk.injEq] at H
  obtain ⟨rfl, rfl⟩ := H
  go_enter Try.func43, Try.ntmps43
  go_wp2_with (first | ((with_reducible refine qq (f := 44) rfl ?_); refine qu (some 9) rfl rfl Try.func44 (by kernel_rfl) rfl #[.slice A0 l0.length c0] rfl (by (try simp only [List.map_toArray, List.map_cons, List.map_nil]); first | done | rfl | (simp only [List.length_drop, List.length_take]; rfl) | (rw [IntWalk.u64_in _ (by omega)] <;> rfl)) ?_; (with_reducible refine (impl_EntriesOk.calls k _ _ l0 true _ ?side1 ?side2 A4.out).mono ?_); (case side1 => repeat (first | exact HR0.out | (with_reducible refine Kd.C_alloc ?_ _) | (with_reducible refine Kd.C_drewN ?_ _) | (with_reducible refine Kd.C_drew ?_))); (case side2 => exact HC0.out); rintro e w7 ⟨rfl, hb⟩; refine ⟨_, rfl, ?_⟩; replace HB := Qz.mk (qr (by repeat (first | (with_reducible first | exact HB.out | apply qc | apply qa | apply qb) | exact HB.out)) hb); (try clear hb)) | ((with_reducible refine qq (f := 85) rfl ?_); refine qu (some 14) rfl rfl Try.func85 (by kernel_rfl) rfl #[.slice A0 l0.length c0, .string a1, .int .i64 a2] rfl (by (try simp only [List.map_toArray, List.map_cons, List.map_nil]); first | done | rfl | (simp only [List.length_drop, List.length_take]; rfl) | (rw [IntWalk.u64_in _ (by omega)] <;> rfl)) ?_; (with_reducible refine (impl_get.calls _ _ l0 a1 a2 t102 t103 _ ?side1 ?side2 A6.out).mono ?_); (case side1 => repeat (first | exact (Kd.C_below HR0.out HB.out) | (with_reducible refine Kd.C_alloc ?_ _) | (with_reducible refine Kd.C_drewN ?_ _) | (with_reducible refine Kd.C_drew ?_))); (case side2 => exact HC0.out); rintro e w8 ⟨rfl, hb⟩; refine ⟨_, rfl, ?_⟩; replace HB := Qz.mk (qr (by repeat (first | (with_reducible first | exact HB.out | apply qc | apply qa | apply qb) | exact HB.out)) hb); (try clear hb)))
  go_ret2
  exact ⟨by first | rfl | (simp [qp, qo] <;> rfl) | (simp [*, qp, qo] <;> rfl), by repeat (first | (with_reducible first | exact HB.out | apply qc | apply qa | apply qb) | exact HB.out)⟩
 ·replace c5 := Bool.eq_false_iff.mpr c5
  subst c5
  have H1 : (some (0, (⟨#[]⟩ : ByteArray))) = some (r1, r2) := by rw [if_neg (show ¬ (false = true) by decide)] at H; exact H
  clear H
  have H := H1
  clear H1
  simp only [Option.some.injEq, Prod.mk.injEq] at H
  obtain ⟨rfl, rfl⟩ := H
  go_enter Try.func43, Try.ntmps43
  go_wp2_with (first | ((with_reducible refine qq (f := 44) rfl ?_); refine qu (some 9) rfl rfl Try.func44 (by kernel_rfl) rfl #[.slice A0 l0.length c0] rfl (by (try simp only [List.map_toArray, List.map_cons, List.map_nil]); first | done | rfl | (simp only [List.length_drop, List.length_take]; rfl) | (rw [IntWalk.u64_in _ (by omega)] <;> rfl)) ?_; (with_reducible refine (impl_EntriesOk.calls k _ _ l0 false _ ?side1 ?side2 A4.out).mono ?_); (case side1 => repeat (first | exact HR0.out | (with_reducible refine Kd.C_alloc ?_ _) | (with_reducible refine Kd.C_drewN ?_ _) | (with_reducible refine Kd.C_drew ?_))); (case side2 => exact HC0.out); rintro e w9 ⟨rfl, hb⟩; refine ⟨_, rfl, ?_⟩; replace HB := Qz.mk (qr (by repeat (first | (with_reducible first | exact HB.out | apply qc | apply qa | apply qb) | exact HB.out)) hb); (try clear hb)))
  go_ret2
  exact ⟨by first | rfl | (simp [qp, qo] <;> rfl) | (simp [*, qp, qo] <;> rfl), by repeat (first | (with_reducible first | exact HB.out | apply qc | apply qa | apply qb) | exact HB.out)⟩
def IsS116 (w0 W : World) (g : Nat) (f0 : List Int) (f1 : Int) : Prop := ∃ A0 c0, W.heap[g]? = some (.cells #[.slice A0 f0.length c0, .int .i64 f1] 116 (0, 0)) ∧ w0.heap.size ≤ g ∧ Kd.C (Kd.int .u8) w0 A0 f0.length f0
theorem IsS116.grown {w0 W : World} {g : Nat} {f0 : List Int} {f1 : Int} {W1 : World} {row : Option Nat} (h : IsS116 w0 W g f0 f1) (hw : W.grownBy W1 row) (hne : some g ≠ row) : IsS116 w0 W1 g f0 f1 := by
 obtain ⟨A0, c0, hb, hg, hr0⟩ := h
 exact ⟨A0, c0, blk_grown hb hw hne, hg, hr0⟩
theorem IsS116.kept {w0 W : World} {g : Nat} {f0 : List Int} {f1 : Int} {W1 : World} {S : Nat → Prop} (h : IsS116 w0 W g f0 f1) (hk : Kept W W1 S) (hne : ¬ S g) : IsS116 w0 W1 g f0 f1 := by
 obtain ⟨A0, c0, hb, hg, hr0⟩ := h
 exact ⟨A0, c0, blk_kept hb hk hne, hg, hr0⟩
theorem IsS116.below {w0 W : World} {g : Nat} {f0 : List Int} {f1 : Int} {W1 : World} (h : IsS116 w0 W g f0 f1) (hw : Below W.heap.size W W1) : IsS116 w0 W1 g f0 f1 := h.grown (grown_of_below hw none) (by simp)
theorem IsS116.alloc {w0 W : World} {g : Nat} {f0 : List Int} {f1 : Int} (h : IsS116 w0 W g f0 f1) (o : Obj) : IsS116 w0 (W.alloc o) g f0 f1 := h.below (qc (Below.refl _ _) o)
theorem IsS116.drewN {w0 W : World} {g : Nat} {f0 : List Int} {f1 : Int} (h : IsS116 w0 W g f0 f1) (m : Nat) : IsS116 w0 (W.drewN m) g f0 f1 := h
theorem IsS116.drew {w0 W : World} {g : Nat} {f0 : List Int} {f1 : Int} (h : IsS116 w0 W g f0 f1) : IsS116 w0 W.drew g f0 f1 := h
theorem IsS116.at_ {w0 W : World} {g : Nat} {f0 : List Int} {f1 : Int} {w' : World} {m : Nat} (hq : W.drewN m = w') (h : IsS116 w0 W g f0 f1) : IsS116 w0 w' g f0 f1 := by subst hq; exact IsS116.drewN h m
theorem IsS116.apart {w0 W : World} {g : Nat} {f0 : List Int} {f1 : Int} {α : Type} {d : Kd α} {e : Nat} {base : Nat} {ok : Nat → Prop} {v : Value} {xs : List α} (h : IsS116 w0 W g f0 f1) (ho : d.R e W base ok v xs) (ht : ∀ q, q ∈ e :: d.E → q ≠ 116) : d.R e W base (fun k => ok k ∧ k ≠ g) v xs := by
 obtain ⟨A0, c0, hb, hg, hr0⟩ := h
 exact Kd.R_types ho hb ht
theorem IsS116.own_ne {w0 W : World} {g : Nat} {f0 : List Int} {f1 : Int} {α : Type} {d : Kd α} {e : Nat} {base : Nat} {ok : Nat → Prop} {v : Value} {xs : List α} (h : IsS116 w0 W g f0 f1) (ho : d.R e W base ok v xs) (ht : e ≠ 116) : some g ≠ v.ownBlock := by
 obtain ⟨A0, c0, hb, hg, hr0⟩ := h
 exact Kd.R_ne ho hb ht
theorem IsS116.lt {w0 W : World} {g : Nat} {f0 : List Int} {f1 : Int} (h : IsS116 w0 W g f0 f1) : g < W.heap.size := by
 obtain ⟨A0, c0, hb, hg, hr0⟩ := h
 exact blk_lt hb
theorem IsS116.ge {w0 W : World} {g : Nat} {f0 : List Int} {f1 : Int} (h : IsS116 w0 W g f0 f1) : w0.heap.size ≤ g := by
 obtain ⟨A0, c0, hb, hg, hr0⟩ := h
 exact hg
theorem IsS116.far {w0 W : World} {g : Nat} {f0 : List Int} {f1 : Int} {p : Addr} (h : IsS116 w0 W g f0 f1) (hne : g ≠ p.block) (u : Value) : IsS116 w0 (W.setCell p u) g f0 f1 := by
 obtain ⟨A0, c0, hb, hg, hr0⟩ := h
 exact ⟨A0, c0, blk_far hb hne u, hg, hr0⟩
theorem cellS116_0 {W : World} {g : Nat} {A0 : Option Addr} {c0 : Nat} {f0 : List Int} {f1 : Int} (h : W.heap[g]? = some (.cells #[.slice A0 f0.length c0, .int .i64 f1] 116 (0, 0))) : W.cell? ⟨g, 0, none⟩ = some (.slice A0 f0.length c0) := (qe h 0).trans rfl
theorem cellS116_1 {W : World} {g : Nat} {A0 : Option Addr} {c0 : Nat} {f0 : List Int} {f1 : Int} (h : W.heap[g]? = some (.cells #[.slice A0 f0.length c0, .int .i64 f1] 116 (0, 0))) : W.cell? ⟨g, 1, none⟩ = some (.int .i64 f1) := (qe h 1).trans rfl
theorem IsS116.set_1 {w0 W : World} {g : Nat} {f0 : List Int} {f1 : Int} (h : IsS116 w0 W g f0 f1) (x : Int) : IsS116 w0 (W.setCell ⟨g, 1, none⟩ (.int .i64 x)) g f0 x := by
 obtain ⟨A0, c0, hb, hg, hr0⟩ := h
 exact ⟨A0, c0, by simpa using blk_set hb 1 (.int .i64 x), hg, hr0⟩
def spec_l1Open.f (l0 : List Int) : Option (List Int × Int) := some (l0, 0)
set_option maxHeartbeats 8000000 in
set_option maxRecDepth 100000 in
theorem spec_l1Open.calls (A0 : Option Addr) (c0 : Nat) (l0 : List Int) (r1 : List Int) (r2 : Int) (w0 w : World) (hB : Below w0.heap.size w0 w) (hr0 : Kd.C (Kd.int .u8) w0 A0 l0.length l0) (hc0 : l0.length ≤ c0) (h : spec_l1Open.f l0 = some (r1, r2)) :
  Calls Try.prog 70 #[.slice A0 l0.length c0] w fun e w' => ∃ g_ : Nat, e = .returned (.pointer (some ⟨g_, 0, none⟩)) ∧ IsS116 w0 w' g_ r1 r2 ∧ Below w0.heap.size w0 w' ∧ Below w.heap.size w w' := by
 have hu116 := Try.underlying116
 have HR0 := Qz.mk hr0
 have HC0 := Qz.mk hc0
 clear hr0 hc0
 have HBW := Qz.mk (Below.refl w.heap.size w)
 have HW0 := Qz.mk hB.size
 have HB := Qz.mk hB
 clear hB
 have H : (some (l0, 0)) = some (r1, r2) := h
 clear h
 simp only [Option.some.injEq, Prod.mk.injEq] at H
 obtain ⟨rfl, rfl⟩ := H
 go_enter Try.func70, Try.ntmps70
 go_wp2_with (first | ((with_reducible refine gate_dst (N := 5) rfl ?_); refine box_event ?hg (N := 5) ?hd (cs := #[.slice A0 l0.length c0, .int .i64 0]) (t := 116) ?hr ?_; (case hd => rfl); (case hg => rfl); (case hr => first | (go_simp; done) | (go_simp; rfl)); intro gb101 hg w2 hbox hb; replace HB := Qz.mk (qr (by repeat (first | (with_reducible first | exact HB.out | apply qc | apply qa | apply qb) | exact HB.out)) hb); have BK101 := Qz.mk (hbox); have GW101 := Qz.mk ((by rw [hg]; exact (below_size (by repeat (first | (with_reducible first | exact HBW.out | apply qc | apply qa | apply qb) | exact HBW.out))) : w.heap.size ≤ gb101)); have GE101 := Qz.mk ((Nat.le_trans HW0.out (by rw [hg]; exact (below_size (by repeat (first | (with_reducible first | exact HBW.out | apply qc | apply qa | apply qb) | exact HBW.out))) : w.heap.size ≤ gb101) : w0.heap.size ≤ gb101)); replace HBW := Qz.mk (qr HBW.out hb); clear hb hbox hg))
 go_ret
 exact ⟨_, rfl, (show IsS116 w0 _ gb101 l0 0 from ⟨_, _, by (with_reducible repeat (first | refine qh ?_ _ | refine qk ?_ | refine qi ?_ _)); exact BK101.out, GE101.out, HR0.out⟩), by repeat (first | (with_reducible first | exact HB.out | apply qc | apply qa | apply qb | refine qd ?_ GE101.out) | exact HB.out), by repeat (first | (with_reducible first | exact HBW.out | apply qc | apply qa | apply qb | refine qd ?_ GW101.out) | exact HBW.out)⟩
def spec_l1Rd_next.f (s0_0 : List Int) (s0_1 : Int) : Option (Int × Int) := if s0_1 ≥ (s0_0.length : Int) then (some (0, s0_1)) else (if 0 ≤ (wrap64 ((wrap64 (s0_1 + 1)) - 1)) then (if (wrap64 ((wrap64 (s0_1 + 1)) - 1)) < (s0_0.length : Int) then (some (wrap64 (rd s0_0 (wrap64 ((wrap64 (s0_1 + 1)) - 1))), wrap64 (s0_1 + 1))) else (none)) else (none))
set_option maxHeartbeats 8000000 in
set_option maxRecDepth 100000 in
theorem spec_l1Rd_next.calls (g : Nat) (s0_0 : List Int) (s0_1 : Int) (r1 : Int) (r2 : Int) (w0 w : World) (hI : IsS116 w0 w g s0_0 s0_1) (hB : Below w0.heap.size w0 w) (h : spec_l1Rd_next.f s0_0 s0_1 = some (r1, r2)) :
  Calls Try.prog 116 #[.pointer (some ⟨g, 0, none⟩)] w fun e w' => e = .returned (.int .i64 r1) ∧ IsS116 w0 w' g s0_0 r2 ∧ Below w0.heap.size w0 w' ∧ KeepBut w w' g none := by
 have HI0 := Qz.mk hI
 have HK := Qz.mk (KeepBut.refl w g none)
 have HL := Qz.mk hB.size
 clear hI
 have HW0 := Qz.mk hB.size
 have HB := Qz.mk hB
 clear hB
 have H : (if s0_1 ≥ (s0_0.length : Int) then (some (0, s0_1)) else (if 0 ≤ (wrap64 ((wrap64 (s0_1 + 1)) - 1)) then (if (wrap64 ((wrap64 (s0_1 + 1)) - 1)) < (s0_0.length : Int) then (some (wrap64 (rd s0_0 (wrap64 ((wrap64 (s0_1 + 1)) - 1))), wrap64 (s0_1 + 1))) else (none)) else (none))) = some (r1, r2) := h
 clear h
 by_cases c2 : s0_1 ≥ (s0_0.length : Int)
 ·rw [if_pos c2] at H
  have c2b0 : decide ((s0_0.length : Int) ≤ s0_1) = true := decide_eq_true c2
  clear c2
  simp only [Option.some.injEq, Prod.mk.injEq] at H
  obtain ⟨rfl, rfl⟩ := H
  obtain ⟨ASz3_0, cSz3_0, HGz3, hgz3, HSz3_0⟩ := HI0.out
  have hcz3_0 := cellS116_0 HGz3
  have hcz3_1 := cellS116_1 HGz3
  have hfz3_1 := qf HGz3 1
  clear HGz3 hgz3
  go_enter Try.func116, Try.ntmps116
  go_wp2
  repeat (go_quiet (fail); try go_wp2)
  go_ret
  exact ⟨by first | rfl | (simp [qp, qo] <;> rfl) | (simp [*, qp, qo] <;> rfl), by repeat (first | (with_reducible first | exact HI0.out | apply IsS116.alloc | apply IsS116.drewN | apply IsS116.drew | apply IsS116.set_1) | exact HI0.out), by repeat (first | (with_reducible first | exact HB.out | apply qc | apply qa | apply qb | refine qd ?_ (IsS116.ge HI0.out)) | exact HB.out), by repeat (first | (with_reducible first | exact HK.out | apply KeepBut.set_ | apply ql | apply qn | apply qm) | exact HK.out)⟩
 ·rw [if_neg c2] at H
  have c2b0 : decide ((s0_0.length : Int) ≤ s0_1) = false := decide_eq_false c2
  clear c2
  obtain ⟨ji4, hji4⟩ : ∃ j_ : Int, (wrap64 ((wrap64 (s0_1 + 1)) - 1)) = j_ := ⟨_, rfl⟩
  replace H : (if 0 ≤ (ji4) then (if (ji4) < (s0_0.length : Int) then (some (wrap64 (rd s0_0 (ji4)), wrap64 (s0_1 + 1))) else (none)) else (none)) = some (r1, r2) := by first | (rw [hji4] at H; exact H) | (simp only [hji4] at H ⊢; exact H)
  have hji4w : (IntKind.i64.wrap ((wrap64 (s0_1 + 1)) - 1)) = ji4 := (i64_w _).trans hji4
  by_cases c5 : 0 ≤ (ji4)
  ·rw [if_pos c5] at H
   have c5b0 : decide (0 ≤ (ji4)) = true := decide_eq_true c5
   clear c5
   by_cases c6 : (ji4) < (s0_0.length : Int)
   ·rw [if_pos c6] at H
    have c6b0 : decide ((ji4) < (s0_0.length : Int)) = true := decide_eq_true c6
    clear c6
    simp only [Option.some.injEq, Prod.mk.injEq] at H
    obtain ⟨rfl, rfl⟩ := H
    obtain ⟨ASz7_0, cSz7_0, HGz7, hgz7, HSz7_0⟩ := HI0.out
    have hcz7_0 := cellS116_0 HGz7
    have hcz7_1 := cellS116_1 HGz7
    have hfz7_1 := qf HGz7 1
    clear HGz7 hgz7
    have p101 : 0 ≤ ((ji4) : Int) := of_decide_eq_true (by first | (with_reducible assumption) | assumption)
    have q101 : (ji4) < (s0_0.length : Int) := of_decide_eq_true (by first | (with_reducible assumption) | assumption)
    obtain ⟨ad101, e101, hx101_0⟩ := Kd.at_int HSz7_0 (ji4) p101 q101
    cases e101
    have hn101_0 : ad101.block ≠ g := Nat.ne_of_lt (Nat.lt_of_lt_of_le (by have := World.block_lt_of_cell? _ _ hx101_0; first | rwa [add_block] at this | exact this) (IsS116.ge HI0.out))
    replace hx101_0 := pw_cell_below HB.out hx101_0
    replace hx101_0 := (cell_far (p := ⟨g, 1, none⟩) (by first | (rw [add_block]; exact hn101_0) | (show (Addr.add _ _).block ≠ _; rw [add_block]; exact hn101_0) | exact hn101_0) (.int .i64 (wrap64 (s0_1 + 1)))).trans hx101_0
    (try have hy101_0 := fun (n_ : Nat) => (show (((w.drewN n_).setCell ⟨g, 1, none⟩ (.int .i64 (wrap64 (s0_1 + 1))))).cell? _ = some _ from hx101_0))
    clear hn101_0
    replace p101 := eq_true p101
    replace q101 := eq_true q101
    go_enter Try.func116, Try.ntmps116
    go_wp2
    repeat (go_quiet (fail); try go_wp2)
    go_ret
    exact ⟨by first | rfl | (simp [qp, qo] <;> rfl) | (simp only [← hji4]; first | rfl | (simp [qp, qo] <;> rfl)) | (simp [*, qp, qo] <;> rfl), by repeat (first | (with_reducible first | exact HI0.out | apply IsS116.alloc | apply IsS116.drewN | apply IsS116.drew | apply IsS116.set_1) | exact HI0.out), by repeat (first | (with_reducible first | exact HB.out | apply qc | apply qa | apply qb | refine qd ?_ (IsS116.ge HI0.out)) | exact HB.out), by repeat (first | (with_reducible first | exact HK.out | apply KeepBut.set_ | apply ql | apply qn | apply qm) | exact HK.out)⟩
   ·rw [if_neg c6] at H
    exact absurd H (by simp)
  ·rw [if_neg c5] at H
   exact absurd H (by simp)
def spec_l1Rd_word.l0 : Nat → Int → Int → List Int → Int → Option (Int × Int)
 | 0, _, _, _, _ => none
 | k + 1, x3, x4, x1000, x1001 => if x4 < 8 then ((spec_l1Rd_next.f x1000 x1001).bind fun bt101 => (spec_l1Rd_word.l0 k (Go.bits .or .u64 (IntKind.u64.wrap (x3 * 256)) (IntKind.u64.wrap (bt101.1))) (wrap64 (x4 + 1)) x1000 bt101.2)) else (some (x3, x1001))
def spec_l1Rd_word.f (k : Nat) (s0_0 : List Int) (s0_1 : Int) : Option (Int × Int) := spec_l1Rd_word.l0 k 0 0 s0_0 s0_1
set_option maxHeartbeats 8000000 in
set_option maxRecDepth 100000 in
theorem spec_l1Rd_word.calls (k : Nat) (g : Nat) (s0_0 : List Int) (s0_1 : Int) (r1 : Int) (r2 : Int) (w0 w : World) (hI : IsS116 w0 w g s0_0 s0_1) (hB : Below w0.heap.size w0 w) (h : spec_l1Rd_word.f k s0_0 s0_1 = some (r1, r2)) :
  Calls Try.prog 117 #[.pointer (some ⟨g, 0, none⟩)] w fun e w' => e = .returned (.int .u64 r1) ∧ IsS116 w0 w' g s0_0 r2 ∧ Below w0.heap.size w0 w' ∧ KeepBut w w' g none := by
 have HI0 := Qz.mk hI
 have HK := Qz.mk (KeepBut.refl w g none)
 have HL := Qz.mk hB.size
 clear hI
 have HW0 := Qz.mk hB.size
 have HB := Qz.mk hB
 clear hB
 have H : (spec_l1Rd_word.l0 k 0 0 s0_0 s0_1) = some (r1, r2) := h
 clear h
 have H' := Qz.mk H
 clear H
 go_enter Try.func117, Try.ntmps117
 go_wp2
 go_loopg [3, 4] k (fun kq v3 v4 w' => ∃ (x3_1 : Int) (x4_1 : Int) (x1001_1 : Int), v3 = .int .u64 x3_1 ∧ v4 = .int .i64 x4_1 ∧ Qz (spec_l1Rd_word.l0 kq x3_1 x4_1 s0_0 x1001_1 = some (r1, r2)) ∧ Qz (kq ≤ k) ∧ Qz (IsS116 w0 w' g s0_0 x1001_1) ∧ Qz (KeepBut w w' g none) ∧ Qz (Below w0.heap.size w0 w'))
 case atStart => exact ⟨(0), (0), (s0_1), (by first | rfl | (simp; done) | (simp [*]; done)), (by first | rfl | (simp; done) | (simp [*]; done)), H', ⟨Nat.le_refl _⟩, ⟨by repeat (first | (with_reducible first | exact HI0.out | apply IsS116.alloc | apply IsS116.drewN | apply IsS116.drew | apply IsS116.set_1) | exact HI0.out)⟩, ⟨by repeat (first | (with_reducible first | exact HK.out | apply KeepBut.set_ | apply ql | apply qn | apply qm) | exact HK.out)⟩, ⟨by repeat (first | (with_reducible first | exact HB.out | apply qc | apply qa | apply qb | refine qd ?_ (IsS116.ge HI0.out)) | exact HB.out)⟩⟩
 case round =>
  clear H'
  try clear c1
  obtain ⟨x3_1, x4_1, x1001_1, rfl, rfl, HA, HK1, HI0, HK, HB⟩ := hrel
  cases gk with
  | zero => exact absurd HA.out (by simp [spec_l1Rd_word.l0])
  | succ k1 =>
   have H := HA.out
   clear HA
   simp only [spec_l1Rd_word.l0] at H
   by_cases c2 : x4_1 < 8
   ·rw [if_pos c2] at H
    have c2b0 : decide (x4_1 < 8) = true := decide_eq_true c2
    clear c2
    replace H := Option.bind_eq_some_iff.mp H
    obtain ⟨⟨t101, t102⟩, A30, H⟩ := H
    replace H : (spec_l1Rd_word.l0 k1 (Go.bits .or .u64 (IntKind.u64.wrap (x3_1 * 256)) (IntKind.u64.wrap (t101))) (wrap64 (x4_1 + 1)) s0_0 t102) = some (r1, r2) := H
    have A3 := Qz.mk A30
    clear A30
    have H' := Qz.mk H
    clear H
    go_wp2_with (first | ((with_reducible refine qq (f := 116) rfl ?_); refine qu (some 12) rfl rfl Try.func116 (by kernel_rfl) rfl #[.pointer (some ⟨g, 0, none⟩)] rfl (by (try simp only [List.map_toArray, List.map_cons, List.map_nil]); first | done | rfl) ?_; (with_reducible refine (spec_l1Rd_next.calls g s0_0 x1001_1 t101 t102 w0 _ ?side1 ?side2 A3.out).mono ?_); (case side1 => repeat (first | (with_reducible first | exact HI0.out | apply IsS116.alloc | apply IsS116.drewN | apply IsS116.drew | apply IsS116.set_1) | exact HI0.out)); (case side2 => repeat (first | (with_reducible first | exact HB.out | apply qc | apply qa | apply qb | refine qd ?_ (IsS116.ge HI0.out)) | exact HB.out)); rintro e w4 ⟨rfl, hi, hb, hk⟩; refine ⟨_, rfl, ?_⟩; replace HK := Qz.mk (KeepBut.trans (by repeat (first | (with_reducible first | exact HK.out | apply KeepBut.set_ | apply ql | apply qn | apply qm) | exact HK.out)) hk (.inl rfl)); replace HB := Qz.mk (hb); replace HI0 := Qz.mk (hi); (try clear hb); (try clear hk); (try clear hi)))
    go_roundg k1
    case measure => have := HK1.out; omega
    case rel => exact ⟨(Go.bits .or .u64 (IntKind.u64.wrap (x3_1 * 256)) (IntKind.u64.wrap (t101))), (wrap64 (x4_1 + 1)), (t102), (by first | rfl | (simp; done) | (simp [*]; done)), (by first | rfl | (simp; done) | (simp [*]; done)), H', ⟨by have := HK1.out; omega⟩, ⟨by repeat (first | (with_reducible first | exact HI0.out | apply IsS116.alloc | apply IsS116.drewN | apply IsS116.drew | apply IsS116.set_1) | exact HI0.out)⟩, ⟨by repeat (first | (with_reducible first | exact HK.out | apply KeepBut.set_ | apply ql | apply qn | apply qm) | exact HK.out)⟩, ⟨by repeat (first | (with_reducible first | exact HB.out | apply qc | apply qa | apply qb | refine qd ?_ (IsS116.ge HI0.out)) | exact HB.out)⟩⟩
   ·rw [if_neg c2] at H
    have c2b0 : decide (x4_1 < 8) = false := decide_eq_false c2
    clear c2
    simp only [Option.some.injEq, Prod.mk.injEq] at H
    obtain ⟨rfl, rfl⟩ := H
    go_wp2
    go_ret
    exact ⟨by first | rfl | (simp [qp, qo] <;> rfl) | (simp [*, qp, qo] <;> rfl), by repeat (first | (with_reducible first | exact HI0.out | apply IsS116.alloc | apply IsS116.drewN | apply IsS116.drew | apply IsS116.set_1) | exact HI0.out), by repeat (first | (with_reducible first | exact HB.out | apply qc | apply qa | apply qb | refine qd ?_ (IsS116.ge HI0.out)) | exact HB.out), by repeat (first | (with_reducible first | exact HK.out | apply KeepBut.set_ | apply ql | apply qn | apply qm) | exact HK.out)⟩
def spec_l1Rd_below.f (s0_0 : List Int) (s0_1 : Int) (a1 : Int) : Option (Int × Int) := if a1 ≤ 1 then (some (0, s0_1)) else (if a1 ≤ 256 then ((spec_l1Rd_next.f s0_0 s0_1).bind fun bt101 => (if a1 = 0 then (none) else (some (Int.tmod bt101.1 a1, bt101.2)))) else ((spec_l1Rd_next.f s0_0 s0_1).bind fun bt103 => ((spec_l1Rd_next.f s0_0 bt103.2).bind fun bt105 => (if a1 = 0 then (none) else (some (Int.tmod (wrap64 ((wrap64 (bt103.1 * 256)) + bt105.1)) a1, bt105.2))))))
set_option maxHeartbeats 8000000 in
set_option maxRecDepth 100000 in
theorem spec_l1Rd_below.calls (g : Nat) (s0_0 : List Int) (s0_1 : Int) (a1 : Int) (r1 : Int) (r2 : Int) (w0 w : World) (hI : IsS116 w0 w g s0_0 s0_1) (hB : Below w0.heap.size w0 w) (h : spec_l1Rd_below.f s0_0 s0_1 a1 = some (r1, r2)) :
  Calls Try.prog 98 #[.pointer (some ⟨g, 0, none⟩), .int .i64 a1] w fun e w' => e = .returned (.int .i64 r1) ∧ IsS116 w0 w' g s0_0 r2 ∧ Below w0.heap.size w0 w' ∧ KeepBut w w' g none := by
 have HI0 := Qz.mk hI
 have HK := Qz.mk (KeepBut.refl w g none)
 have HL := Qz.mk hB.size
 clear hI
 have HW0 := Qz.mk hB.size
 have HB := Qz.mk hB
 clear hB
 have H : (if a1 ≤ 1 then (some (0, s0_1)) else (if a1 ≤ 256 then ((spec_l1Rd_next.f s0_0 s0_1).bind fun bt101 => (if a1 = 0 then (none) else (some (Int.tmod bt101.1 a1, bt101.2)))) else ((spec_l1Rd_next.f s0_0 s0_1).bind fun bt103 => ((spec_l1Rd_next.f s0_0 bt103.2).bind fun bt105 => (if a1 = 0 then (none) else (some (Int.tmod (wrap64 ((wrap64 (bt103.1 * 256)) + bt105.1)) a1, bt105.2))))))) = some (r1, r2) := h
 clear h
 by_cases c3 : a1 ≤ 1
 ·rw [if_pos c3] at H
  have c3b0 : decide (a1 ≤ 1) = true := decide_eq_true c3
  clear c3
  simp only [Option.some.injEq, Prod.mk.injEq] at H
  obtain ⟨rfl, rfl⟩ := H
  go_enter Try.func98, Try.ntmps98
  go_wp2
  go_ret
  exact ⟨by first | rfl | (simp [qp, qo] <;> rfl) | (simp [*, qp, qo] <;> rfl), by repeat (first | (with_reducible first | exact HI0.out | apply IsS116.alloc | apply IsS116.drewN | apply IsS116.drew | apply IsS116.set_1) | exact HI0.out), by repeat (first | (with_reducible first | exact HB.out | apply qc | apply qa | apply qb | refine qd ?_ (IsS116.ge HI0.out)) | exact HB.out), by repeat (first | (with_reducible first | exact HK.out | apply KeepBut.set_ | apply ql | apply qn | apply qm) | exact HK.out)⟩
 ·rw [if_neg c3] at H
  have c3b0 : decide (a1 ≤ 1) = false := decide_eq_false c3
  clear c3
  by_cases c4 : a1 ≤ 256
  ·rw [if_pos c4] at H
   have c4b0 : decide (a1 ≤ 256) = true := decide_eq_true c4
   clear c4
   replace H := Option.bind_eq_some_iff.mp H
   obtain ⟨⟨t101, t102⟩, A50, H⟩ := H
   replace H : (if a1 = 0 then (none) else (some (Int.tmod t101 a1, t102))) = some (r1, r2) := H
   have A5 := Qz.mk A50
   clear A50
   by_cases c6 : a1 = 0
   ·rw [if_pos c6] at H
    exact absurd H (by simp)
   ·rw [if_neg c6] at H
    have c6b0 : (a1 == 0) = false := beq_eq_false_iff_ne.mpr c6
    have c6b1 : (a1 != 0) = true := bne_iff_ne.mpr c6
    simp only [Option.some.injEq, Prod.mk.injEq] at H
    obtain ⟨rfl, rfl⟩ := H
    go_enter Try.func98, Try.ntmps98
    go_wp2_with (first | ((with_reducible refine qq (f := 116) rfl ?_); refine qu (some 11) rfl rfl Try.func116 (by kernel_rfl) rfl #[.pointer (some ⟨g, 0, none⟩)] rfl (by (try simp only [List.map_toArray, List.map_cons, List.map_nil]); first | done | rfl) ?_; (with_reducible refine (spec_l1Rd_next.calls g s0_0 s0_1 t101 t102 w0 _ ?side1 ?side2 A5.out).mono ?_); (case side1 => repeat (first | (with_reducible first | exact HI0.out | apply IsS116.alloc | apply IsS116.drewN | apply IsS116.drew | apply IsS116.set_1) | exact HI0.out)); (case side2 => repeat (first | (with_reducible first | exact HB.out | apply qc | apply qa | apply qb | refine qd ?_ (IsS116.ge HI0.out)) | exact HB.out)); rintro e w7 ⟨rfl, hi, hb, hk⟩; refine ⟨_, rfl, ?_⟩; replace HK := Qz.mk (KeepBut.trans (by repeat (first | (with_reducible first | exact HK.out | apply KeepBut.set_ | apply ql | apply qn | apply qm) | exact HK.out)) hk (.inl rfl)); replace HB := Qz.mk (hb); replace HI0 := Qz.mk (hi); (try clear hb); (try clear hk); (try clear hi)))
    go_ret
    exact ⟨by first | rfl | (simp [qp, qo] <;> rfl) | (simp [*, qp, qo] <;> rfl), by repeat (first | (with_reducible first | exact HI0.out | apply IsS116.alloc | apply IsS116.drewN | apply IsS116.drew | apply IsS116.set_1) | exact HI0.out), by repeat (first | (with_reducible first | exact HB.out | apply qc | apply qa | apply qb | refine qd ?_ (IsS116.ge HI0.out)) | exact HB.out), by repeat (first | (with_reducible first | exact HK.out | apply KeepBut.set_ | apply ql | apply qn | apply qm) | exact HK.out)⟩
  ·rw [if_neg c4] at H
   have c4b0 : decide (a1 ≤ 256) = false := decide_eq_false c4
   clear c4
   replace H := Option.bind_eq_some_iff.mp H
   obtain ⟨⟨t103, t104⟩, A80, H⟩ := H
   replace H : ((spec_l1Rd_next.f s0_0 t104).bind fun bt105 => (if a1 = 0 then (none) else (some (Int.tmod (wrap64 ((wrap64 (t103 * 256)) + bt105.1)) a1, bt105.2)))) = some (r1, r2) := H
   have A8 := Qz.mk A80
   clear A80
   replace H := Option.bind_eq_some_iff.mp H
   obtain ⟨⟨t105, t106⟩, A90, H⟩ := H
   replace H : (if a1 = 0 then (none) else (some (Int.tmod (wrap64 ((wrap64 (t103 * 256)) + t105)) a1, t106))) = some (r1, r2) := H
   have A9 := Qz.mk A90
   clear A90
   by_cases c10 : a1 = 0
   ·rw [if_pos c10] at H
    exact absurd H (by simp)
   ·rw [if_neg c10] at H
    have c10b0 : (a1 == 0) = false := beq_eq_false_iff_ne.mpr c10
    have c10b1 : (a1 != 0) = true := bne_iff_ne.mpr c10
    simp only [Option.some.injEq, Prod.mk.injEq] at H
    obtain ⟨rfl, rfl⟩ := H
    go_enter Try.func98, Try.ntmps98
    go_wp2_with (first | ((with_reducible refine qq (f := 116) rfl ?_); refine qu (some 15) rfl rfl Try.func116 (by kernel_rfl) rfl #[.pointer (some ⟨g, 0, none⟩)] rfl (by (try simp only [List.map_toArray, List.map_cons, List.map_nil]); first | done | rfl) ?_; (with_reducible refine (spec_l1Rd_next.calls g s0_0 s0_1 t103 t104 w0 _ ?side1 ?side2 A8.out).mono ?_); (case side1 => repeat (first | (with_reducible first | exact HI0.out | apply IsS116.alloc | apply IsS116.drewN | apply IsS116.drew | apply IsS116.set_1) | exact HI0.out)); (case side2 => repeat (first | (with_reducible first | exact HB.out | apply qc | apply qa | apply qb | refine qd ?_ (IsS116.ge HI0.out)) | exact HB.out)); rintro e w11 ⟨rfl, hi, hb, hk⟩; refine ⟨_, rfl, ?_⟩; replace HK := Qz.mk (KeepBut.trans (by repeat (first | (with_reducible first | exact HK.out | apply KeepBut.set_ | apply ql | apply qn | apply qm) | exact HK.out)) hk (.inl rfl)); replace HB := Qz.mk (hb); replace HI0 := Qz.mk (hi); (try clear hb); (try clear hk); (try clear hi)) | ((with_reducible refine qq (f := 116) rfl ?_); refine qu (some 19) rfl rfl Try.func116 (by kernel_rfl) rfl #[.pointer (some ⟨g, 0, none⟩)] rfl (by (try simp only [List.map_toArray, List.map_cons, List.map_nil]); first | done | rfl) ?_; (with_reducible refine (spec_l1Rd_next.calls g s0_0 t104 t105 t106 w0 _ ?side1 ?side2 A9.out).mono ?_); (case side1 => repeat (first | (with_reducible first | exact HI0.out | apply IsS116.alloc | apply IsS116.drewN | apply IsS116.drew | apply IsS116.set_1) | exact HI0.out)); (case side2 => repeat (first | (with_reducible first | exact HB.out | apply qc | apply qa | apply qb | refine qd ?_ (IsS116.ge HI0.out)) | exact HB.out)); rintro e w12 ⟨rfl, hi, hb, hk⟩; refine ⟨_, rfl, ?_⟩; replace HK := Qz.mk (KeepBut.trans (by repeat (first | (with_reducible first | exact HK.out | apply KeepBut.set_ | apply ql | apply qn | apply qm) | exact HK.out)) hk (.inl rfl)); replace HB := Qz.mk (hb); replace HI0 := Qz.mk (hi); (try clear hb); (try clear hk); (try clear hi)))
    go_ret
    exact ⟨by first | rfl | (simp [qp, qo] <;> rfl) | (simp [*, qp, qo] <;> rfl), by repeat (first | (with_reducible first | exact HI0.out | apply IsS116.alloc | apply IsS116.drewN | apply IsS116.drew | apply IsS116.set_1) | exact HI0.out), by repeat (first | (with_reducible first | exact HB.out | apply qc | apply qa | apply qb | refine qd ?_ (IsS116.ge HI0.out)) | exact HB.out), by repeat (first | (with_reducible first | exact HK.out | apply KeepBut.set_ | apply ql | apply qn | apply qm) | exact HK.out)⟩
def spec_l1Rd_near.f (k : Nat) (s0_0 : List Int) (s0_1 : Int) (a1 : Int) (a2 : Int) : Option (Int × Int) := (spec_l1Rd_below.f s0_0 s0_1 8).bind fun bt101 => (if bt101.1 = 0 then (some (a1, bt101.2)) else (if bt101.1 = 1 then (some (a2, bt101.2)) else (if a2 < a1 then (some (a1, bt101.2)) else ((spec_l1Rd_word.f k s0_0 bt101.2).bind fun bt103 => (if (IntKind.u64.wrap (wrap64 ((wrap64 (a2 - a1)) + 1))) = 0 then (none) else (some (wrap64 (a1 + (wrap64 (Int.tmod (bt103.1 / 2) (IntKind.u64.wrap (wrap64 ((wrap64 (a2 - a1)) + 1)))))), bt103.2)))))))
set_option maxHeartbeats 8000000 in
set_option maxRecDepth 100000 in
theorem spec_l1Rd_near.calls (k : Nat) (g : Nat) (s0_0 : List Int) (s0_1 : Int) (a1 : Int) (a2 : Int) (r1 : Int) (r2 : Int) (w0 w : World) (hI : IsS116 w0 w g s0_0 s0_1) (hB : Below w0.heap.size w0 w) (h : spec_l1Rd_near.f k s0_0 s0_1 a1 a2 = some (r1, r2)) :
  Calls Try.prog 101 #[.pointer (some ⟨g, 0, none⟩), .int .i64 a1, .int .i64 a2] w fun e w' => e = .returned (.int .i64 r1) ∧ IsS116 w0 w' g s0_0 r2 ∧ Below w0.heap.size w0 w' ∧ KeepBut w w' g none := by
 have HI0 := Qz.mk hI
 have HK := Qz.mk (KeepBut.refl w g none)
 have HL := Qz.mk hB.size
 clear hI
 have HW0 := Qz.mk hB.size
 have HB := Qz.mk hB
 clear hB
 have H : ((spec_l1Rd_below.f s0_0 s0_1 8).bind fun bt101 => (if bt101.1 = 0 then (some (a1, bt101.2)) else (if bt101.1 = 1 then (some (a2, bt101.2)) else (if a2 < a1 then (some (a1, bt101.2)) else ((spec_l1Rd_word.f k s0_0 bt101.2).bind fun bt103 => (if (IntKind.u64.wrap (wrap64 ((wrap64 (a2 - a1)) + 1))) = 0 then (none) else (some (wrap64 (a1 + (wrap64 (Int.tmod (bt103.1 / 2) (IntKind.u64.wrap (wrap64 ((wrap64 (a2 - a1)) + 1)))))), bt103.2)))))))) = some (r1, r2) := h
 clear h
 replace H := Option.bind_eq_some_iff.mp H
 obtain ⟨⟨t101, t102⟩, A40, H⟩ := H
 replace H : (if t101 = 0 then (some (a1, t102)) else (if t101 = 1 then (some (a2, t102)) else (if a2 < a1 then (some (a1, t102)) else ((spec_l1Rd_word.f k s0_0 t102).bind fun bt103 => (if (IntKind.u64.wrap (wrap64 ((wrap64 (a2 - a1)) + 1))) = 0 then (none) else (some (wrap64 (a1 + (wrap64 (Int.tmod (bt103.1 / 2) (IntKind.u64.wrap (wrap64 ((wrap64 (a2 - a1)) + 1)))))), bt103.2))))))) = some (r1, r2) := H
 have A4 := Qz.mk A40
 clear A40
 by_cases c5 : t101 = 0
 ·rw [if_pos c5] at H
  have c5b0 : (t101 == 0) = true := beq_iff_eq.mpr c5
  have c5b1 : (t101 != 0) = false := bne_eq_false_iff_eq.mpr c5
  clear c5
  simp only [Option.some.injEq, Prod.mk.injEq] at H
  obtain ⟨rfl, rfl⟩ := H
  go_enter Try.func101, Try.ntmps101
  go_wp2_with (first | ((with_reducible refine qq (f := 98) rfl ?_); refine qu (some 8) rfl rfl Try.func98 (by kernel_rfl) rfl #[.pointer (some ⟨g, 0, none⟩), .int .i64 8] rfl (by (try simp only [List.map_toArray, List.map_cons, List.map_nil]); first | done | rfl) ?_; (with_reducible refine (spec_l1Rd_below.calls g s0_0 s0_1 8 t101 t102 w0 _ ?side1 ?side2 A4.out).mono ?_); (case side1 => repeat (first | (with_reducible first | exact HI0.out | apply IsS116.alloc | apply IsS116.drewN | apply IsS116.drew | apply IsS116.set_1) | exact HI0.out)); (case side2 => repeat (first | (with_reducible first | exact HB.out | apply qc | apply qa | apply qb | refine qd ?_ (IsS116.ge HI0.out)) | exact HB.out)); rintro e w6 ⟨rfl, hi, hb, hk⟩; refine ⟨_, rfl, ?_⟩; replace HK := Qz.mk (KeepBut.trans (by repeat (first | (with_reducible first | exact HK.out | apply KeepBut.set_ | apply ql | apply qn | apply qm) | exact HK.out)) hk (.inl rfl)); replace HB := Qz.mk (hb); replace HI0 := Qz.mk (hi); (try clear hb); (try clear hk); (try clear hi)))
  go_ret
  exact ⟨by first | rfl | (simp [qp, qo] <;> rfl) | (simp [*, qp, qo] <;> rfl), by repeat (first | (with_reducible first | exact HI0.out | apply IsS116.alloc | apply IsS116.drewN | apply IsS116.drew | apply IsS116.set_1) | exact HI0.out), by repeat (first | (with_reducible first | exact HB.out | apply qc | apply qa | apply qb | refine qd ?_ (IsS116.ge HI0.out)) | exact HB.out), by repeat (first | (with_reducible first | exact HK.out | apply KeepBut.set_ | apply ql | apply qn | apply qm) | exact HK.out)⟩
 ·rw [if_neg c5] at H
  have c5b0 : (t101 == 0) = false := beq_eq_false_iff_ne.mpr c5
  have c5b1 : (t101 != 0) = true := bne_iff_ne.mpr c5
  by_cases c7 : t101 = 1
  ·rw [if_pos c7] at H
   have c7b0 : (t101 == 1) = true := beq_iff_eq.mpr c7
   have c7b1 : (t101 != 1) = false := bne_eq_false_iff_eq.mpr c7
   clear c7
   simp only [Option.some.injEq, Prod.mk.injEq] at H
   obtain ⟨rfl, rfl⟩ := H
   go_enter Try.func101, Try.ntmps101
   go_wp2_with (first | ((with_reducible refine qq (f := 98) rfl ?_); refine qu (some 8) rfl rfl Try.func98 (by kernel_rfl) rfl #[.pointer (some ⟨g, 0, none⟩), .int .i64 8] rfl (by (try simp only [List.map_toArray, List.map_cons, List.map_nil]); first | done | rfl) ?_; (with_reducible refine (spec_l1Rd_below.calls g s0_0 s0_1 8 t101 t102 w0 _ ?side1 ?side2 A4.out).mono ?_); (case side1 => repeat (first | (with_reducible first | exact HI0.out | apply IsS116.alloc | apply IsS116.drewN | apply IsS116.drew | apply IsS116.set_1) | exact HI0.out)); (case side2 => repeat (first | (with_reducible first | exact HB.out | apply qc | apply qa | apply qb | refine qd ?_ (IsS116.ge HI0.out)) | exact HB.out)); rintro e w8 ⟨rfl, hi, hb, hk⟩; refine ⟨_, rfl, ?_⟩; replace HK := Qz.mk (KeepBut.trans (by repeat (first | (with_reducible first | exact HK.out | apply KeepBut.set_ | apply ql | apply qn | apply qm) | exact HK.out)) hk (.inl rfl)); replace HB := Qz.mk (hb); replace HI0 := Qz.mk (hi); (try clear hb); (try clear hk); (try clear hi)))
   go_ret
   exact ⟨by first | rfl | (simp [qp, qo] <;> rfl) | (simp [*, qp, qo] <;> rfl), by repeat (first | (with_reducible first | exact HI0.out | apply IsS116.alloc | apply IsS116.drewN | apply IsS116.drew | apply IsS116.set_1) | exact HI0.out), by repeat (first | (with_reducible first | exact HB.out | apply qc | apply qa | apply qb | refine qd ?_ (IsS116.ge HI0.out)) | exact HB.out), by repeat (first | (with_reducible first | exact HK.out | apply KeepBut.set_ | apply ql | apply qn | apply qm) | exact HK.out)⟩
  ·rw [if_neg c7] at H
   have c7b0 : (t101 == 1) = false := beq_eq_false_iff_ne.mpr c7
   have c7b1 : (t101 != 1) = true := bne_iff_ne.mpr c7
   by_cases c9 : a2 < a1
   ·rw [if_pos c9] at H
    have c9b0 : decide (a2 < a1) = true := decide_eq_true c9
    clear c9
    simp only [Option.some.injEq, Prod.mk.injEq] at H
    obtain ⟨rfl, rfl⟩ := H
    go_enter Try.func101, Try.ntmps101
    go_wp2_with (first | ((with_reducible refine qq (f := 98) rfl ?_); refine qu (some 8) rfl rfl Try.func98 (by kernel_rfl) rfl #[.pointer (some ⟨g, 0, none⟩), .int .i64 8] rfl (by (try simp only [List.map_toArray, List.map_cons, List.map_nil]); first | done | rfl) ?_; (with_reducible refine (spec_l1Rd_below.calls g s0_0 s0_1 8 t101 t102 w0 _ ?side1 ?side2 A4.out).mono ?_); (case side1 => repeat (first | (with_reducible first | exact HI0.out | apply IsS116.alloc | apply IsS116.drewN | apply IsS116.drew | apply IsS116.set_1) | exact HI0.out)); (case side2 => repeat (first | (with_reducible first | exact HB.out | apply qc | apply qa | apply qb | refine qd ?_ (IsS116.ge HI0.out)) | exact HB.out)); rintro e w10 ⟨rfl, hi, hb, hk⟩; refine ⟨_, rfl, ?_⟩; replace HK := Qz.mk (KeepBut.trans (by repeat (first | (with_reducible first | exact HK.out | apply KeepBut.set_ | apply ql | apply qn | apply qm) | exact HK.out)) hk (.inl rfl)); replace HB := Qz.mk (hb); replace HI0 := Qz.mk (hi); (try clear hb); (try clear hk); (try clear hi)))
    go_ret
    exact ⟨by first | rfl | (simp [qp, qo] <;> rfl) | (simp [*, qp, qo] <;> rfl), by repeat (first | (with_reducible first | exact HI0.out | apply IsS116.alloc | apply IsS116.drewN | apply IsS116.drew | apply IsS116.set_1) | exact HI0.out), by repeat (first | (with_reducible first | exact HB.out | apply qc | apply qa | apply qb | refine qd ?_ (IsS116.ge HI0.out)) | exact HB.out), by repeat (first | (with_reducible first | exact HK.out | apply KeepBut.set_ | apply ql | apply qn | apply qm) | exact HK.out)⟩
   ·rw [if_neg c9] at H
    have c9b0 : decide (a2 < a1) = false := decide_eq_false c9
    clear c9
    replace H := Option.bind_eq_some_iff.mp H
    obtain ⟨⟨t103, t104⟩, A110, H⟩ := H
    replace H : (if (IntKind.u64.wrap (wrap64 ((wrap64 (a2 - a1)) + 1))) = 0 then (none) else (some (wrap64 (a1 + (wrap64 (Int.tmod (t103 / 2) (IntKind.u64.wrap (wrap64 ((wrap64 (a2 - a1)) + 1)))))), t104))) = some (r1, r2) := H
    have A11 := Qz.mk A110
    clear A110
    by_cases c12 : (IntKind.u64.wrap (wrap64 ((wrap64 (a2 - a1)) + 1))) = 0
    ·rw [if_pos c12] at H
     exact absurd H (by simp)
    ·rw [if_neg c12] at H
     have c12b0 : ((IntKind.u64.wrap (wrap64 ((wrap64 (a2 - a1)) + 1))) == 0) = false := beq_eq_false_iff_ne.mpr c12
     have c12b1 : ((IntKind.u64.wrap (wrap64 ((wrap64 (a2 - a1)) + 1))) != 0) = true := bne_iff_ne.mpr c12
     simp only [Option.some.injEq, Prod.mk.injEq] at H
     obtain ⟨rfl, rfl⟩ := H
     go_enter Try.func101, Try.ntmps101
     go_wp2_with (first | ((with_reducible refine qq (f := 98) rfl ?_); refine qu (some 8) rfl rfl Try.func98 (by kernel_rfl) rfl #[.pointer (some ⟨g, 0, none⟩), .int .i64 8] rfl (by (try simp only [List.map_toArray, List.map_cons, List.map_nil]); first | done | rfl) ?_; (with_reducible refine (spec_l1Rd_below.calls g s0_0 s0_1 8 t101 t102 w0 _ ?side1 ?side2 A4.out).mono ?_); (case side1 => repeat (first | (with_reducible first | exact HI0.out | apply IsS116.alloc | apply IsS116.drewN | apply IsS116.drew | apply IsS116.set_1) | exact HI0.out)); (case side2 => repeat (first | (with_reducible first | exact HB.out | apply qc | apply qa | apply qb | refine qd ?_ (IsS116.ge HI0.out)) | exact HB.out)); rintro e w13 ⟨rfl, hi, hb, hk⟩; refine ⟨_, rfl, ?_⟩; replace HK := Qz.mk (KeepBut.trans (by repeat (first | (with_reducible first | exact HK.out | apply KeepBut.set_ | apply ql | apply qn | apply qm) | exact HK.out)) hk (.inl rfl)); replace HB := Qz.mk (hb); replace HI0 := Qz.mk (hi); (try clear hb); (try clear hk); (try clear hi)) | ((with_reducible refine qq (f := 117) rfl ?_); refine qu (some 21) rfl rfl Try.func117 (by kernel_rfl) rfl #[.pointer (some ⟨g, 0, none⟩)] rfl (by (try simp only [List.map_toArray, List.map_cons, List.map_nil]); first | done | rfl) ?_; (with_reducible refine (spec_l1Rd_word.calls k g s0_0 t102 t103 t104 w0 _ ?side1 ?side2 A11.out).mono ?_); (case side1 => repeat (first | (with_reducible first | exact HI0.out | apply IsS116.alloc | apply IsS116.drewN | apply IsS116.drew | apply IsS116.set_1) | exact HI0.out)); (case side2 => repeat (first | (with_reducible first | exact HB.out | apply qc | apply qa | apply qb | refine qd ?_ (IsS116.ge HI0.out)) | exact HB.out)); rintro e w14 ⟨rfl, hi, hb, hk⟩; refine ⟨_, rfl, ?_⟩; replace HK := Qz.mk (KeepBut.trans (by repeat (first | (with_reducible first | exact HK.out | apply KeepBut.set_ | apply ql | apply qn | apply qm) | exact HK.out)) hk (.inl rfl)); replace HB := Qz.mk (hb); replace HI0 := Qz.mk (hi); (try clear hb); (try clear hk); (try clear hi)))
     go_ret
     exact ⟨by first | rfl | (simp [qp, qo] <;> rfl) | (simp [*, qp, qo] <;> rfl), by repeat (first | (with_reducible first | exact HI0.out | apply IsS116.alloc | apply IsS116.drewN | apply IsS116.drew | apply IsS116.set_1) | exact HI0.out), by repeat (first | (with_reducible first | exact HB.out | apply qc | apply qa | apply qb | refine qd ?_ (IsS116.ge HI0.out)) | exact HB.out), by repeat (first | (with_reducible first | exact HK.out | apply KeepBut.set_ | apply ql | apply qn | apply qm) | exact HK.out)⟩
def spec_l1Rd_bytes.l0 : Nat → List Int → Int → List Int → Int → Option (ByteArray × Int)
 | 0, _, _, _, _ => none
 | k + 1, x5, x6, x1000, x1001 => if x6 > 0 then ((spec_l1Rd_below.f x1000 x1001 256).bind fun bt106 => (if x5.length < 140737488355328 then (spec_l1Rd_bytes.l0 k (x5 ++ [(bt106.1) % 256]) (wrap64 (x6 - 1)) x1000 bt106.2) else (none))) else (some (strOfNums x5, x1001))
def spec_l1Rd_bytes.f (k : Nat) (s0_0 : List Int) (s0_1 : Int) (a1 : Int) : Option (ByteArray × Int) := (spec_l1Rd_below.f s0_0 s0_1 (wrap64 (a1 + 1))).bind fun bt104 => (spec_l1Rd_bytes.l0 k (([] : List Int)) bt104.1 s0_0 bt104.2)
set_option maxHeartbeats 8000000 in
set_option maxRecDepth 100000 in
theorem spec_l1Rd_bytes.calls (k : Nat) (g : Nat) (s0_0 : List Int) (s0_1 : Int) (a1 : Int) (r1 : ByteArray) (r2 : Int) (w0 w : World) (hI : IsS116 w0 w g s0_0 s0_1) (hB : Below w0.heap.size w0 w) (h : spec_l1Rd_bytes.f k s0_0 s0_1 a1 = some (r1, r2)) :
  Calls Try.prog 121 #[.pointer (some ⟨g, 0, none⟩), .int .i64 a1] w fun e w' => e = .returned (.string r1) ∧ IsS116 w0 w' g s0_0 r2 ∧ Below w0.heap.size w0 w' ∧ KeepBut w w' g none := by
 have HI0 := Qz.mk hI
 have HK := Qz.mk (KeepBut.refl w g none)
 have HL := Qz.mk hB.size
 clear hI
 have HW0 := Qz.mk hB.size
 have HB := Qz.mk hB
 clear hB
 have H : ((spec_l1Rd_below.f s0_0 s0_1 (wrap64 (a1 + 1))).bind fun bt104 => (spec_l1Rd_bytes.l0 k (([] : List Int)) bt104.1 s0_0 bt104.2)) = some (r1, r2) := h
 clear h
 obtain ⟨y101, hy101⟩ : ∃ y_ : List Int, y_ = (([] : List Int)) := ⟨_, rfl⟩
 replace H : ((spec_l1Rd_below.f s0_0 s0_1 (wrap64 (a1 + 1))).bind fun bt104 => (spec_l1Rd_bytes.l0 k y101 bt104.1 s0_0 bt104.2)) = some (r1, r2) := by first | (rw [hy101]; with_reducible exact H) | (have H2_ := (Option.bind_some _ _).symm.trans H; rw [hy101]; with_reducible exact H2_) | (have H2_ := (Option.bind_some _ _).symm.trans H; with_reducible exact H2_) | with_reducible exact H | (rw [hy101]; exact H) | exact H
 have Ny101 := Qz.mk hy101
 clear hy101
 replace H := Option.bind_eq_some_iff.mp H
 obtain ⟨⟨t104, t105⟩, A30, H⟩ := H
 replace H : (spec_l1Rd_bytes.l0 k y101 t104 s0_0 t105) = some (r1, r2) := H
 have A3 := Qz.mk A30
 clear A30
 have H' := Qz.mk H
 clear H
 go_enter Try.func121, Try.ntmps121
 go_wp2_with (first | ((with_reducible refine gate_dst (N := 7) rfl ?_); refine Kd.R_lit (Kd.int .u8) _ 5 ?hg (N := 7) ?hd (xs := ([] : List Int)) (inner := []) (ok := fun _ => True) (okp := fun _ => True) ?hr ?hp (fun _ hk => hk) trivial (Below.refl _ _) (Nat.le_refl _) (by simp) ?_; (case hd => rfl); (case hg => rfl); (case hr => first | (go_simp; done) | (go_simp; rfl)); (case hp => exact (Reps.none _ _)); intro v102 w4 ho5 hb hg_ hnew_; clear hg_ hnew_; (first | rw [← Ny101.out] at ho5 | (simp only [Int.reduceToNat] at ho5; rw [← Ny101.out] at ho5)); have HO103 := Qz.mk (Kd.R_lower ho5 (keep_size (w := w) (g := g) (row := none) (by repeat (first | (with_reducible first | exact HK.out | apply KeepBut.set_ | apply ql | apply qn | apply qm) | exact HK.out)))); replace HK := Qz.mk (KeepBut.trans (by repeat (first | (with_reducible first | exact HK.out | apply KeepBut.set_ | apply ql | apply qn | apply qm) | exact HK.out)) (KeepBut.of_below hb g none) (.inl rfl)); replace HB := Qz.mk (qr (by repeat (first | (with_reducible first | exact HB.out | apply qc | apply qa | apply qb | refine qd ?_ (IsS116.ge HI0.out)) | exact HB.out)) hb); replace HI0 := Qz.mk (IsS116.below (by repeat (first | (with_reducible first | exact HI0.out | apply IsS116.alloc | apply IsS116.drewN | apply IsS116.drew | apply IsS116.set_1) | exact HI0.out)) hb); clear hb ho5) | ((with_reducible refine qq (f := 98) rfl ?_); refine qu (some 11) rfl rfl Try.func98 (by kernel_rfl) rfl #[.pointer (some ⟨g, 0, none⟩), .int .i64 (wrap64 (a1 + 1))] rfl (by (try simp only [List.map_toArray, List.map_cons, List.map_nil]); first | done | rfl | (simp only [List.length_drop, List.length_take]; rfl) | (rw [IntWalk.u64_in _ (by omega)] <;> rfl)) ?_; (with_reducible refine (spec_l1Rd_below.calls g s0_0 s0_1 (wrap64 (a1 + 1)) t104 t105 w0 _ ?side1 ?side2 A3.out).mono ?_); (case side1 => repeat (first | (with_reducible first | exact HI0.out | apply IsS116.alloc | apply IsS116.drewN | apply IsS116.drew | apply IsS116.set_1) | exact HI0.out)); (case side2 => repeat (first | (with_reducible first | exact HB.out | apply qc | apply qa | apply qb | refine qd ?_ (IsS116.ge HI0.out)) | exact HB.out)); rintro e w6 ⟨rfl, hi, hb, hk⟩; refine ⟨_, rfl, ?_⟩; replace HO103 := Qz.mk (Kd.R_mono (Kd.R_keep (IsS116.apart (show IsS116 w0 _ g s0_0 s0_1 from by repeat (first | (with_reducible first | exact HI0.out | apply IsS116.alloc | apply IsS116.drewN | apply IsS116.drew | apply IsS116.set_1) | exact HI0.out)) (by (with_reducible repeat (first | apply Kd.R_alloc | apply Kd.R_drewN | apply Kd.R_drew)); exact HO103.out) (by decide)) hk (fun _ h => h.2)) (fun _ h => h.1)); replace HK := Qz.mk (KeepBut.trans (by repeat (first | (with_reducible first | exact HK.out | apply KeepBut.set_ | apply ql | apply qn | apply qm) | exact HK.out)) hk (.inl rfl)); replace HB := Qz.mk (hb); replace HI0 := Qz.mk (hi); (try clear hb); (try clear hk); (try clear hi)))
 go_loopg [5, 6] k (fun kq v5 v6 w' => ∃ (x5_1 : List Int) (x6_1 : Int) (x1001_1 : Int), v6 = .int .i64 x6_1 ∧ Qz (spec_l1Rd_bytes.l0 kq x5_1 x6_1 s0_0 x1001_1 = some (r1, r2)) ∧ Qz (kq ≤ k) ∧ Qz (Kd.R (Kd.int .u8) 5 w' w.heap.size (fun _ => True) v5 x5_1) ∧ Qz (IsS116 w0 w' g s0_0 x1001_1) ∧ Qz (KeepBut w w' g none) ∧ Qz (Below w0.heap.size w0 w'))
 case atStart => exact ⟨(y101), (t104), (t105), (by first | rfl | (simp; done) | (simp [*]; done)), H', ⟨Nat.le_refl _⟩, ⟨by (with_reducible repeat (first | apply Kd.R_alloc | apply Kd.R_drewN | apply Kd.R_drew)); exact HO103.out⟩, ⟨by repeat (first | (with_reducible first | exact HI0.out | apply IsS116.alloc | apply IsS116.drewN | apply IsS116.drew | apply IsS116.set_1) | exact HI0.out)⟩, ⟨by repeat (first | (with_reducible first | exact HK.out | apply KeepBut.set_ | apply ql | apply qn | apply qm) | exact HK.out)⟩, ⟨by repeat (first | (with_reducible first | exact HB.out | apply qc | apply qa | apply qb | refine qd ?_ (IsS116.ge HI0.out)) | exact HB.out)⟩⟩
 case round =>
  clear H'
  try clear c1
  try clear p2
  try clear p6
  obtain ⟨x5_1, x6_1, x1001_1, rfl, HA, HK1, HO_5, HI0, HK, HB⟩ := hrel
  cases gk with
  | zero => exact absurd HA.out (by simp [spec_l1Rd_bytes.l0])
  | succ k1 =>
   have H := HA.out
   clear HA
   simp only [spec_l1Rd_bytes.l0] at H
   by_cases c7 : x6_1 > 0
   ·rw [if_pos c7] at H
    have c7b0 : decide (0 < x6_1) = true := decide_eq_true c7
    clear c7
    replace H := Option.bind_eq_some_iff.mp H
    obtain ⟨⟨t106, t107⟩, A80, H⟩ := H
    replace H : (if x5_1.length < 140737488355328 then (spec_l1Rd_bytes.l0 k1 (x5_1 ++ [(t106) % 256]) (wrap64 (x6_1 - 1)) s0_0 t107) else (none)) = some (r1, r2) := H
    have A8 := Qz.mk A80
    clear A80
    by_cases c9 : x5_1.length < 140737488355328
    ·rw [if_pos c9] at H
     have LMc9 := Qz.mk c9
     clear c9
     obtain ⟨y108, hy108⟩ : ∃ y_ : List Int, y_ = (x5_1 ++ [(t106) % 256]) := ⟨_, rfl⟩
     replace H : (spec_l1Rd_bytes.l0 k1 y108 (wrap64 (x6_1 - 1)) s0_0 t107) = some (r1, r2) := by first | (rw [hy108]; with_reducible exact H) | (have H2_ := (Option.bind_some _ _).symm.trans H; rw [hy108]; with_reducible exact H2_) | (have H2_ := (Option.bind_some _ _).symm.trans H; with_reducible exact H2_) | with_reducible exact H | (rw [hy108]; exact H) | exact H
     have Ny108 := Qz.mk hy108
     clear hy108
     have H' := Qz.mk H
     clear H
     go_wp2_with (first | ((with_reducible refine qq (f := 98) rfl ?_); refine qu (some 18) rfl rfl Try.func98 (by kernel_rfl) rfl #[.pointer (some ⟨g, 0, none⟩), .int .i64 256] rfl (by (try simp only [List.map_toArray, List.map_cons, List.map_nil]); first | done | rfl) ?_; (with_reducible refine (spec_l1Rd_below.calls g s0_0 x1001_1 256 t106 t107 w0 _ ?side1 ?side2 A8.out).mono ?_); (case side1 => repeat (first | (with_reducible first | exact HI0.out | apply IsS116.alloc | apply IsS116.drewN | apply IsS116.drew | apply IsS116.set_1) | exact HI0.out)); (case side2 => repeat (first | (with_reducible first | exact HB.out | apply qc | apply qa | apply qb | refine qd ?_ (IsS116.ge HI0.out)) | exact HB.out)); rintro e w10 ⟨rfl, hi, hb, hk⟩; refine ⟨_, rfl, ?_⟩; replace HO_5 := Qz.mk (Kd.R_mono (Kd.R_keep (IsS116.apart (show IsS116 w0 _ g s0_0 x1001_1 from by repeat (first | (with_reducible first | exact HI0.out | apply IsS116.alloc | apply IsS116.drewN | apply IsS116.drew | apply IsS116.set_1) | exact HI0.out)) (by (with_reducible repeat (first | apply Kd.R_alloc | apply Kd.R_drewN | apply Kd.R_drew)); exact HO_5.out) (by decide)) hk (fun _ h => h.2)) (fun _ h => h.1)); replace HK := Qz.mk (KeepBut.trans (by repeat (first | (with_reducible first | exact HK.out | apply KeepBut.set_ | apply ql | apply qn | apply qm) | exact HK.out)) hk (.inl rfl)); replace HB := Qz.mk (hb); replace HI0 := Qz.mk (hi); (try clear hb); (try clear hk); (try clear hi)) | ((with_reducible refine gate_builtin (b := .append) (xs := #[.tmp 16, .tmp 20]) rfl ?_); at_builtin; refine Kd.R_append (Kd.int .u8) w.heap.size rfl (.tmp 16) (.tmp 20) 38 5 (.int .u8 0) 1 rfl Try.underlying38 info5 rfl (by decide) (by omega) u5 x5_1 ((t106) % 256) [.int .u8 ((t106) % 256)] (fun _ => True) (fun _ => False) rfl rfl ?aP (fun _ hk => hk.elim) ?aF ?aO (Below.refl _ _) ?aS ?aL ?_; (case aP => exact rfl); (case aF => exact (fun _ _ => trivial)); (case aO => exact (by (with_reducible repeat (first | apply Kd.R_alloc | apply Kd.R_drewN | apply Kd.R_drew)); exact HO_5.out)); (case aS => exact (keep_size (w := w) (g := g) (row := none) (by repeat (first | (with_reducible first | exact HK.out | apply KeepBut.set_ | apply ql | apply qn | apply qm) | exact HK.out)))); (case aL => have := LMc9.out; omega); intro v109 w11 ho hb hg hat; rw [← Ny108.out] at ho; have n0_ := Qz.mk (IsS116.grown (by repeat (first | (with_reducible first | exact HI0.out | apply IsS116.alloc | apply IsS116.drewN | apply IsS116.drew | apply IsS116.set_1) | exact HI0.out)) hg (IsS116.own_ne HI0.out HO_5.out (by decide))); have n1_ := Qz.mk (below_weaken (by repeat (first | (with_reducible first | exact HB.out | apply qc | apply qa | apply qb | refine qd ?_ (IsS116.ge HI0.out)) | exact HB.out)) HL.out hb); have n2_ := Qz.mk (KeepBut.trans (by repeat (first | (with_reducible first | exact HK.out | apply KeepBut.set_ | apply ql | apply qn | apply qm) | exact HK.out)) (KeepBut.of_grown hg g) (Kd.R_base2 HO_5.out)); have n3_ := Qz.mk (ho); clear HI0; clear HB; clear HK; clear HO_5; have HI0 := n0_; have HB := n1_; have HK := n2_; have HO110 := n3_; clear n0_ n1_ n2_ n3_; clear ho hb hg hat))
     go_roundg k1
     case measure => have := HK1.out; omega
     case rel => exact ⟨(y108), (wrap64 (x6_1 - 1)), (t107), (by first | rfl | (simp; done) | (simp [*]; done)), H', ⟨by have := HK1.out; omega⟩, ⟨by (with_reducible repeat (first | apply Kd.R_alloc | apply Kd.R_drewN | apply Kd.R_drew)); exact HO110.out⟩, ⟨by repeat (first | (with_reducible first | exact HI0.out | apply IsS116.alloc | apply IsS116.drewN | apply IsS116.drew | apply IsS116.set_1) | exact HI0.out)⟩, ⟨by repeat (first | (with_reducible first | exact HK.out | apply KeepBut.set_ | apply ql | apply qn | apply qm) | exact HK.out)⟩, ⟨by repeat (first | (with_reducible first | exact HB.out | apply qc | apply qa | apply qb | refine qd ?_ (IsS116.ge HI0.out)) | exact HB.out)⟩⟩
    ·rw [if_neg c9] at H
     exact absurd H (by simp)
   ·rw [if_neg c7] at H
    have c7b0 : decide (0 < x6_1) = false := decide_eq_false c7
    clear c7
    simp only [Option.some.injEq, Prod.mk.injEq] at H
    obtain ⟨rfl, rfl⟩ := H
    have hcv12 := own_string (P := Try.prog) Try.underlying38 Try.underlying5 Try.underlying9 (Kd.own_of_R HO_5.out)
    go_wp2
    go_ret
    exact ⟨by first | rfl | (simp [qp, qo] <;> rfl) | (simp [*, qp, qo] <;> rfl), by repeat (first | (with_reducible first | exact HI0.out | apply IsS116.alloc | apply IsS116.drewN | apply IsS116.drew | apply IsS116.set_1) | exact HI0.out), by repeat (first | (with_reducible first | exact HB.out | apply qc | apply qa | apply qb | refine qd ?_ (IsS116.ge HI0.out)) | exact HB.out), by repeat (first | (with_reducible first | exact HK.out | apply KeepBut.set_ | apply ql | apply qn | apply qm) | exact HK.out)⟩
def spec_l1Rd_once.f (s0_0 : List Int) (s0_1 : Int) (a1 : Int) : Option (Bool × Int) := (spec_l1Rd_below.f s0_0 s0_1 a1).bind fun bt101 => (some ((bt101.1 == (wrap64 (a1 - 1))), bt101.2))
set_option maxHeartbeats 8000000 in
set_option maxRecDepth 100000 in
theorem spec_l1Rd_once.calls (g : Nat) (s0_0 : List Int) (s0_1 : Int) (a1 : Int) (r1 : Bool) (r2 : Int) (w0 w : World) (hI : IsS116 w0 w g s0_0 s0_1) (hB : Below w0.heap.size w0 w) (h : spec_l1Rd_once.f s0_0 s0_1 a1 = some (r1, r2)) :
  Calls Try.prog 96 #[.pointer (some ⟨g, 0, none⟩), .int .i64 a1] w fun e w' => e = .returned (.bool r1) ∧ IsS116 w0 w' g s0_0 r2 ∧ Below w0.heap.size w0 w' ∧ KeepBut w w' g none := by
 have HI0 := Qz.mk hI
 have HK := Qz.mk (KeepBut.refl w g none)
 have HL := Qz.mk hB.size
 clear hI
 have HW0 := Qz.mk hB.size
 have HB := Qz.mk hB
 clear hB
 have H : ((spec_l1Rd_below.f s0_0 s0_1 a1).bind fun bt101 => (some ((bt101.1 == (wrap64 (a1 - 1))), bt101.2))) = some (r1, r2) := h
 clear h
 replace H := Option.bind_eq_some_iff.mp H
 obtain ⟨⟨t101, t102⟩, A30, H⟩ := H
 replace H : (some ((t101 == (wrap64 (a1 - 1))), t102)) = some (r1, r2) := H
 have A3 := Qz.mk A30
 clear A30
 simp only [Option.some.injEq, Prod.mk.injEq] at H
 obtain ⟨rfl, rfl⟩ := H
 go_enter Try.func96, Try.ntmps96
 go_wp2_with (first | ((with_reducible refine qq (f := 98) rfl ?_); refine qu (some 7) rfl rfl Try.func98 (by kernel_rfl) rfl #[.pointer (some ⟨g, 0, none⟩), .int .i64 a1] rfl (by (try simp only [List.map_toArray, List.map_cons, List.map_nil]); first | done | rfl) ?_; (with_reducible refine (spec_l1Rd_below.calls g s0_0 s0_1 a1 t101 t102 w0 _ ?side1 ?side2 A3.out).mono ?_); (case side1 => repeat (first | (with_reducible first | exact HI0.out | apply IsS116.alloc | apply IsS116.drewN | apply IsS116.drew | apply IsS116.set_1) | exact HI0.out)); (case side2 => repeat (first | (with_reducible first | exact HB.out | apply qc | apply qa | apply qb | refine qd ?_ (IsS116.ge HI0.out)) | exact HB.out)); rintro e w4 ⟨rfl, hi, hb, hk⟩; refine ⟨_, rfl, ?_⟩; replace HK := Qz.mk (KeepBut.trans (by repeat (first | (with_reducible first | exact HK.out | apply KeepBut.set_ | apply ql | apply qn | apply qm) | exact HK.out)) hk (.inl rfl)); replace HB := Qz.mk (hb); replace HI0 := Qz.mk (hi); (try clear hb); (try clear hk); (try clear hi)))
 go_ret
 exact ⟨by first | rfl | (simp [qp, qo] <;> rfl) | (simp [*, qp, qo] <;> rfl), by repeat (first | (with_reducible first | exact HI0.out | apply IsS116.alloc | apply IsS116.drewN | apply IsS116.drew | apply IsS116.set_1) | exact HI0.out), by repeat (first | (with_reducible first | exact HB.out | apply qc | apply qa | apply qb | refine qd ?_ (IsS116.ge HI0.out)) | exact HB.out), by repeat (first | (with_reducible first | exact HK.out | apply KeepBut.set_ | apply ql | apply qn | apply qm) | exact HK.out)⟩
def spec_l1Rd_off.f (k : Nat) (s0_0 : List Int) (s0_1 : Int) (a1 : Int) (a2 : Int) : Option (Int × Int) := (spec_l1Rd_once.f s0_0 s0_1 24).bind fun bt101 => (if bt101.1 = true then ((some (([wrap64 (a1 - 1), wrap64 (a2 + 1), (-9223372036854775808), 9223372036854775807] : List Int) : List Int)).bind fun y103 => ((spec_l1Rd_below.f s0_0 bt101.2 4).bind fun bt106 => (if 0 ≤ bt106.1 then (if bt106.1 < (y103.length : Int) then (some (rd y103 bt106.1, bt106.2)) else (none)) else (none)))) else ((spec_l1Rd_near.f k s0_0 bt101.2 a1 a2).bind fun bt109 => (some (bt109.1, bt109.2))))
set_option maxHeartbeats 8000000 in
set_option maxRecDepth 100000 in
theorem spec_l1Rd_off.calls (k : Nat) (g : Nat) (s0_0 : List Int) (s0_1 : Int) (a1 : Int) (a2 : Int) (r1 : Int) (r2 : Int) (w0 w : World) (hI : IsS116 w0 w g s0_0 s0_1) (hB : Below w0.heap.size w0 w) (h : spec_l1Rd_off.f k s0_0 s0_1 a1 a2 = some (r1, r2)) :
  Calls Try.prog 72 #[.pointer (some ⟨g, 0, none⟩), .int .i64 a1, .int .i64 a2] w fun e w' => e = .returned (.int .i64 r1) ∧ IsS116 w0 w' g s0_0 r2 ∧ Below w0.heap.size w0 w' ∧ KeepBut w w' g none := by
 have HI0 := Qz.mk hI
 have HK := Qz.mk (KeepBut.refl w g none)
 have HL := Qz.mk hB.size
 clear hI
 have HW0 := Qz.mk hB.size
 have HB := Qz.mk hB
 clear hB
 have H : ((spec_l1Rd_once.f s0_0 s0_1 24).bind fun bt101 => (if bt101.1 = true then ((some (([wrap64 (a1 - 1), wrap64 (a2 + 1), (-9223372036854775808), 9223372036854775807] : List Int) : List Int)).bind fun y103 => ((spec_l1Rd_below.f s0_0 bt101.2 4).bind fun bt106 => (if 0 ≤ bt106.1 then (if bt106.1 < (y103.length : Int) then (some (rd y103 bt106.1, bt106.2)) else (none)) else (none)))) else ((spec_l1Rd_near.f k s0_0 bt101.2 a1 a2).bind fun bt109 => (some (bt109.1, bt109.2))))) = some (r1, r2) := h
 clear h
 replace H := Option.bind_eq_some_iff.mp H
 obtain ⟨⟨t101, t102⟩, A40, H⟩ := H
 replace H : (if t101 = true then ((some (([wrap64 (a1 - 1), wrap64 (a2 + 1), (-9223372036854775808), 9223372036854775807] : List Int) : List Int)).bind fun y103 => ((spec_l1Rd_below.f s0_0 t102 4).bind fun bt106 => (if 0 ≤ bt106.1 then (if bt106.1 < (y103.length : Int) then (some (rd y103 bt106.1, bt106.2)) else (none)) else (none)))) else ((spec_l1Rd_near.f k s0_0 t102 a1 a2).bind fun bt109 => (some (bt109.1, bt109.2)))) = some (r1, r2) := H
 have A4 := Qz.mk A40
 clear A40
 by_cases c5 : t101 = true
 ·subst c5
  have H1 : ((some (([wrap64 (a1 - 1), wrap64 (a2 + 1), (-9223372036854775808), 9223372036854775807] : List Int) : List Int)).bind fun y103 => ((spec_l1Rd_below.f s0_0 t102 4).bind fun bt106 => (if 0 ≤ bt106.1 then (if bt106.1 < (y103.length : Int) then (some (rd y103 bt106.1, bt106.2)) else (none)) else (none)))) = some (r1, r2) := by rw [if_pos rfl] at H; exact H
  clear H
  have H := H1
  clear H1
  obtain ⟨y103, hy103⟩ : ∃ y_ : List Int, y_ = (([wrap64 (a1 - 1), wrap64 (a2 + 1), (-9223372036854775808), 9223372036854775807] : List Int)) := ⟨_, rfl⟩
  replace H : ((spec_l1Rd_below.f s0_0 t102 4).bind fun bt106 => (if 0 ≤ bt106.1 then (if bt106.1 < (y103.length : Int) then (some (rd y103 bt106.1, bt106.2)) else (none)) else (none))) = some (r1, r2) := by first | (rw [hy103]; with_reducible exact H) | (have H2_ := (Option.bind_some _ _).symm.trans H; rw [hy103]; with_reducible exact H2_) | (have H2_ := (Option.bind_some _ _).symm.trans H; with_reducible exact H2_) | with_reducible exact H | (rw [hy103]; exact H) | exact H
  have Ny103 := Qz.mk hy103
  clear hy103
  replace H := Option.bind_eq_some_iff.mp H
  obtain ⟨⟨t106, t107⟩, A60, H⟩ := H
  replace H : (if 0 ≤ t106 then (if t106 < (y103.length : Int) then (some (rd y103 t106, t107)) else (none)) else (none)) = some (r1, r2) := H
  have A6 := Qz.mk A60
  clear A60
  by_cases c7 : 0 ≤ t106
  ·rw [if_pos c7] at H
   have c7b0 : decide (0 ≤ t106) = true := decide_eq_true c7
   clear c7
   by_cases c8 : t106 < (y103.length : Int)
   ·rw [if_pos c8] at H
    have c8b0 : decide (t106 < (y103.length : Int)) = true := decide_eq_true c8
    clear c8
    simp only [Option.some.injEq, Prod.mk.injEq] at H
    obtain ⟨rfl, rfl⟩ := H
    go_enter Try.func72, Try.ntmps72
    go_wp2_with (first | ((with_reducible refine qq (f := 96) rfl ?_); refine qu (some 8) rfl rfl Try.func96 (by kernel_rfl) rfl #[.pointer (some ⟨g, 0, none⟩), .int .i64 24] rfl (by (try simp only [List.map_toArray, List.map_cons, List.map_nil]); first | done | rfl) ?_; (with_reducible refine (spec_l1Rd_once.calls g s0_0 s0_1 24 true t102 w0 _ ?side1 ?side2 A4.out).mono ?_); (case side1 => repeat (first | (with_reducible first | exact HI0.out | apply IsS116.alloc | apply IsS116.drewN | apply IsS116.drew | apply IsS116.set_1) | exact HI0.out)); (case side2 => repeat (first | (with_reducible first | exact HB.out | apply qc | apply qa | apply qb | refine qd ?_ (IsS116.ge HI0.out)) | exact HB.out)); rintro e w9 ⟨rfl, hi, hb, hk⟩; refine ⟨_, rfl, ?_⟩; replace HK := Qz.mk (KeepBut.trans (by repeat (first | (with_reducible first | exact HK.out | apply KeepBut.set_ | apply ql | apply qn | apply qm) | exact HK.out)) hk (.inl rfl)); replace HB := Qz.mk (hb); replace HI0 := Qz.mk (hi); (try clear hb); (try clear hk); (try clear hi)) | ((with_reducible refine gate_dst (N := 13) rfl ?_); refine Kd.R_lit (Kd.int .i64) _ 2 ?hg (N := 13) ?hd (xs := ([wrap64 (a1 - 1), wrap64 (a2 + 1), (-9223372036854775808), 9223372036854775807] : List Int)) (inner := [.int .i64 (wrap64 (a1 - 1)), .int .i64 (wrap64 (a2 + 1)), .int .i64 (-9223372036854775808), .int .i64 9223372036854775807]) (ok := fun _ => True) (okp := fun _ => True) ?hr ?hp (fun _ hk => hk) trivial (Below.refl _ _) (Nat.le_refl _) (by simp) ?_; (case hd => rfl); (case hg => rfl); (case hr => first | (go_simp; done) | (go_simp; rfl)); (case hp => exact (Reps.one (show Kd.M (Kd.int .i64) _ _ _ (wrap64 (a1 - 1)) [.int .i64 (wrap64 (a1 - 1))] from rfl) (Reps.one (show Kd.M (Kd.int .i64) _ _ _ (wrap64 (a2 + 1)) [.int .i64 (wrap64 (a2 + 1))] from rfl) (Reps.one (show Kd.M (Kd.int .i64) _ _ _ (-9223372036854775808) [.int .i64 (-9223372036854775808)] from rfl) (Reps.one (show Kd.M (Kd.int .i64) _ _ _ 9223372036854775807 [.int .i64 9223372036854775807] from rfl) (Reps.none _ _)))))); intro v104 w10 ho11 hb hg_ hnew_; clear hg_ hnew_; (first | rw [← Ny103.out] at ho11 | (simp only [Int.reduceToNat] at ho11; rw [← Ny103.out] at ho11)); have HO105 := Qz.mk (Kd.R_lower ho11 (keep_size (w := w) (g := g) (row := none) (by repeat (first | (with_reducible first | exact HK.out | apply KeepBut.set_ | apply ql | apply qn | apply qm) | exact HK.out)))); replace HK := Qz.mk (KeepBut.trans (by repeat (first | (with_reducible first | exact HK.out | apply KeepBut.set_ | apply ql | apply qn | apply qm) | exact HK.out)) (KeepBut.of_below hb g none) (.inl rfl)); replace HB := Qz.mk (qr (by repeat (first | (with_reducible first | exact HB.out | apply qc | apply qa | apply qb | refine qd ?_ (IsS116.ge HI0.out)) | exact HB.out)) hb); replace HI0 := Qz.mk (IsS116.below (by repeat (first | (with_reducible first | exact HI0.out | apply IsS116.alloc | apply IsS116.drewN | apply IsS116.drew | apply IsS116.set_1) | exact HI0.out)) hb); clear hb ho11) | ((with_reducible refine qq (f := 98) rfl ?_); refine qu (some 15) rfl rfl Try.func98 (by kernel_rfl) rfl #[.pointer (some ⟨g, 0, none⟩), .int .i64 4] rfl (by (try simp only [List.map_toArray, List.map_cons, List.map_nil]); first | done | rfl) ?_; (with_reducible refine (spec_l1Rd_below.calls g s0_0 t102 4 t106 t107 w0 _ ?side1 ?side2 A6.out).mono ?_); (case side1 => repeat (first | (with_reducible first | exact HI0.out | apply IsS116.alloc | apply IsS116.drewN | apply IsS116.drew | apply IsS116.set_1) | exact HI0.out)); (case side2 => repeat (first | (with_reducible first | exact HB.out | apply qc | apply qa | apply qb | refine qd ?_ (IsS116.ge HI0.out)) | exact HB.out)); rintro e w12 ⟨rfl, hi, hb, hk⟩; refine ⟨_, rfl, ?_⟩; replace HO105 := Qz.mk (Kd.R_mono (Kd.R_keep (IsS116.apart (show IsS116 w0 _ g s0_0 t102 from by repeat (first | (with_reducible first | exact HI0.out | apply IsS116.alloc | apply IsS116.drewN | apply IsS116.drew | apply IsS116.set_1) | exact HI0.out)) (by (with_reducible repeat (first | apply Kd.R_alloc | apply Kd.R_drewN | apply Kd.R_drew)); exact HO105.out) (by decide)) hk (fun _ h => h.2)) (fun _ h => h.1)); replace HK := Qz.mk (KeepBut.trans (by repeat (first | (with_reducible first | exact HK.out | apply KeepBut.set_ | apply ql | apply qn | apply qm) | exact HK.out)) hk (.inl rfl)); replace HB := Qz.mk (hb); replace HI0 := Qz.mk (hi); (try clear hb); (try clear hk); (try clear hi); obtain ⟨Ao13, co13, eo13⟩ := Kd.R_slice HO105.out; subst eo13; have p108 : 0 ≤ (t106 : Int) := of_decide_eq_true (by first | (with_reducible assumption) | assumption); have q108 : t106 < (y103.length : Int) := of_decide_eq_true (by first | (with_reducible assumption) | assumption); obtain ⟨ad108, e108, hx108_0⟩ := Kd.at_int (Kd.R_reads' HO105.out).2.2 t106 p108 q108; cases e108; replace p108 := eq_true p108; replace q108 := eq_true q108))
    go_ret
    exact ⟨by first | rfl | (simp [qp, qo] <;> rfl) | (simp [*, qp, qo] <;> rfl), by repeat (first | (with_reducible first | exact HI0.out | apply IsS116.alloc | apply IsS116.drewN | apply IsS116.drew | apply IsS116.set_1) | exact HI0.out), by repeat (first | (with_reducible first | exact HB.out | apply qc | apply qa | apply qb | refine qd ?_ (IsS116.ge HI0.out)) | exact HB.out), by repeat (first | (with_reducible first | exact HK.out | apply KeepBut.set_ | apply ql | apply qn | apply qm) | exact HK.out)⟩
   ·rw [if_neg c8] at H
    exact absurd H (by simp)
  ·rw [if_neg c7] at H
   exact absurd H (by simp)
 ·replace c5 := Bool.eq_false_iff.mpr c5
  subst c5
  have H1 : ((spec_l1Rd_near.f k s0_0 t102 a1 a2).bind fun bt109 => (some (bt109.1, bt109.2))) = some (r1, r2) := by rw [if_neg (show ¬ (false = true) by decide)] at H; exact H
  clear H
  have H := H1
  clear H1
  replace H := Option.bind_eq_some_iff.mp H
  obtain ⟨⟨t109, t110⟩, A140, H⟩ := H
  replace H : (some (t109, t110)) = some (r1, r2) := H
  have A14 := Qz.mk A140
  clear A140
  simp only [Option.some.injEq, Prod.mk.injEq] at H
  obtain ⟨rfl, rfl⟩ := H
  go_enter Try.func72, Try.ntmps72
  go_wp2_with (first | ((with_reducible refine qq (f := 96) rfl ?_); refine qu (some 8) rfl rfl Try.func96 (by kernel_rfl) rfl #[.pointer (some ⟨g, 0, none⟩), .int .i64 24] rfl (by (try simp only [List.map_toArray, List.map_cons, List.map_nil]); first | done | rfl) ?_; (with_reducible refine (spec_l1Rd_once.calls g s0_0 s0_1 24 false t102 w0 _ ?side1 ?side2 A4.out).mono ?_); (case side1 => repeat (first | (with_reducible first | exact HI0.out | apply IsS116.alloc | apply IsS116.drewN | apply IsS116.drew | apply IsS116.set_1) | exact HI0.out)); (case side2 => repeat (first | (with_reducible first | exact HB.out | apply qc | apply qa | apply qb | refine qd ?_ (IsS116.ge HI0.out)) | exact HB.out)); rintro e w15 ⟨rfl, hi, hb, hk⟩; refine ⟨_, rfl, ?_⟩; replace HK := Qz.mk (KeepBut.trans (by repeat (first | (with_reducible first | exact HK.out | apply KeepBut.set_ | apply ql | apply qn | apply qm) | exact HK.out)) hk (.inl rfl)); replace HB := Qz.mk (hb); replace HI0 := Qz.mk (hi); (try clear hb); (try clear hk); (try clear hi)) | ((with_reducible refine qq (f := 101) rfl ?_); refine qu (some 21) rfl rfl Try.func101 (by kernel_rfl) rfl #[.pointer (some ⟨g, 0, none⟩), .int .i64 a1, .int .i64 a2] rfl (by (try simp only [List.map_toArray, List.map_cons, List.map_nil]); first | done | rfl) ?_; (with_reducible refine (spec_l1Rd_near.calls k g s0_0 t102 a1 a2 t109 t110 w0 _ ?side1 ?side2 A14.out).mono ?_); (case side1 => repeat (first | (with_reducible first | exact HI0.out | apply IsS116.alloc | apply IsS116.drewN | apply IsS116.drew | apply IsS116.set_1) | exact HI0.out)); (case side2 => repeat (first | (with_reducible first | exact HB.out | apply qc | apply qa | apply qb | refine qd ?_ (IsS116.ge HI0.out)) | exact HB.out)); rintro e w16 ⟨rfl, hi, hb, hk⟩; refine ⟨_, rfl, ?_⟩; replace HK := Qz.mk (KeepBut.trans (by repeat (first | (with_reducible first | exact HK.out | apply KeepBut.set_ | apply ql | apply qn | apply qm) | exact HK.out)) hk (.inl rfl)); replace HB := Qz.mk (hb); replace HI0 := Qz.mk (hi); (try clear hb); (try clear hk); (try clear hi)))
  go_ret
  exact ⟨by first | rfl | (simp [qp, qo] <;> rfl) | (simp [*, qp, qo] <;> rfl), by repeat (first | (with_reducible first | exact HI0.out | apply IsS116.alloc | apply IsS116.drewN | apply IsS116.drew | apply IsS116.set_1) | exact HI0.out), by repeat (first | (with_reducible first | exact HB.out | apply qc | apply qa | apply qb | refine qd ?_ (IsS116.ge HI0.out)) | exact HB.out), by repeat (first | (with_reducible first | exact HK.out | apply KeepBut.set_ | apply ql | apply qn | apply qm) | exact HK.out)⟩
def spec_l1Rd_user.f (s0_0 : List Int) (s0_1 : Int) : Option (ByteArray × Int) := (some (([(⟨#[97]⟩ : ByteArray), (⟨#[98]⟩ : ByteArray), (⟨#[97, 98]⟩ : ByteArray), (⟨#[97, 98, 99]⟩ : ByteArray), (⟨#[97, 98, 100]⟩ : ByteArray), (⟨#[107, 101, 121]⟩ : ByteArray), (⟨#[107, 101, 121, 49]⟩ : ByteArray), (⟨#[107, 101, 121, 50]⟩ : ByteArray), (⟨#[122, 122]⟩ : ByteArray), (⟨#[97, 0]⟩ : ByteArray)] : List ByteArray) : List ByteArray)).bind fun y101 => ((spec_l1Rd_below.f s0_0 s0_1 10).bind fun bt104 => (if 0 ≤ bt104.1 then (if bt104.1 < (y101.length : Int) then (some (rdOf ByteArray.empty y101 bt104.1, bt104.2)) else (none)) else (none)))
set_option maxHeartbeats 8000000 in
set_option maxRecDepth 100000 in
theorem spec_l1Rd_user.calls (g : Nat) (s0_0 : List Int) (s0_1 : Int) (r1 : ByteArray) (r2 : Int) (w0 w : World) (hI : IsS116 w0 w g s0_0 s0_1) (hB : Below w0.heap.size w0 w) (h : spec_l1Rd_user.f s0_0 s0_1 = some (r1, r2)) :
  Calls Try.prog 87 #[.pointer (some ⟨g, 0, none⟩)] w fun e w' => e = .returned (.string r1) ∧ IsS116 w0 w' g s0_0 r2 ∧ Below w0.heap.size w0 w' ∧ KeepBut w w' g none := by
 have HI0 := Qz.mk hI
 have HK := Qz.mk (KeepBut.refl w g none)
 have HL := Qz.mk hB.size
 clear hI
 have HW0 := Qz.mk hB.size
 have HB := Qz.mk hB
 clear hB
 have H : ((some (([(⟨#[97]⟩ : ByteArray), (⟨#[98]⟩ : ByteArray), (⟨#[97, 98]⟩ : ByteArray), (⟨#[97, 98, 99]⟩ : ByteArray), (⟨#[97, 98, 100]⟩ : ByteArray), (⟨#[107, 101, 121]⟩ : ByteArray), (⟨#[107, 101, 121, 49]⟩ : ByteArray), (⟨#[107, 101, 121, 50]⟩ : ByteArray), (⟨#[122, 122]⟩ : ByteArray), (⟨#[97, 0]⟩ : ByteArray)] : List ByteArray) : List ByteArray)).bind fun y101 => ((spec_l1Rd_below.f s0_0 s0_1 10).bind fun bt104 => (if 0 ≤ bt104.1 then (if bt104.1 < (y101.length : Int) then (some (rdOf ByteArray.empty y101 bt104.1, bt104.2)) else (none)) else (none)))) = some (r1, r2) := h
 clear h
 obtain ⟨y101, hy101⟩ : ∃ y_ : List ByteArray, y_ = (([(⟨#[97]⟩ : ByteArray), (⟨#[98]⟩ : ByteArray), (⟨#[97, 98]⟩ : ByteArray), (⟨#[97, 98, 99]⟩ : ByteArray), (⟨#[97, 98, 100]⟩ : ByteArray), (⟨#[107, 101, 121]⟩ : ByteArray), (⟨#[107, 101, 121, 49]⟩ : ByteArray), (⟨#[107, 101, 121, 50]⟩ : ByteArray), (⟨#[122, 122]⟩ : ByteArray), (⟨#[97, 0]⟩ : ByteArray)] : List ByteArray)) := ⟨_, rfl⟩
 replace H : ((spec_l1Rd_below.f s0_0 s0_1 10).bind fun bt104 => (if 0 ≤ bt104.1 then (if bt104.1 < (y101.length : Int) then (some (rdOf ByteArray.empty y101 bt104.1, bt104.2)) else (none)) else (none))) = some (r1, r2) := by first | (rw [hy101]; with_reducible exact H) | (have H2_ := (Option.bind_some _ _).symm.trans H; rw [hy101]; with_reducible exact H2_) | (have H2_ := (Option.bind_some _ _).symm.trans H; with_reducible exact H2_) | with_reducible exact H | (rw [hy101]; exact H) | exact H
 have Ny101 := Qz.mk hy101
 clear hy101
 replace H := Option.bind_eq_some_iff.mp H
 obtain ⟨⟨t104, t105⟩, A20, H⟩ := H
 replace H : (if 0 ≤ t104 then (if t104 < (y101.length : Int) then (some (rdOf ByteArray.empty y101 t104, t105)) else (none)) else (none)) = some (r1, r2) := H
 have A2 := Qz.mk A20
 clear A20
 by_cases c3 : 0 ≤ t104
 ·rw [if_pos c3] at H
  have c3b0 : decide (0 ≤ t104) = true := decide_eq_true c3
  clear c3
  by_cases c4 : t104 < (y101.length : Int)
  ·rw [if_pos c4] at H
   have c4b0 : decide (t104 < (y101.length : Int)) = true := decide_eq_true c4
   clear c4
   simp only [Option.some.injEq, Prod.mk.injEq] at H
   obtain ⟨rfl, rfl⟩ := H
   go_enter Try.func87, Try.ntmps87
   go_wp2_with (first | ((with_reducible refine gate_dst (N := 3) rfl ?_); refine Kd.R_lit Kd.string _ 9 ?hg (N := 3) ?hd (xs := ([(⟨#[97]⟩ : ByteArray), (⟨#[98]⟩ : ByteArray), (⟨#[97, 98]⟩ : ByteArray), (⟨#[97, 98, 99]⟩ : ByteArray), (⟨#[97, 98, 100]⟩ : ByteArray), (⟨#[107, 101, 121]⟩ : ByteArray), (⟨#[107, 101, 121, 49]⟩ : ByteArray), (⟨#[107, 101, 121, 50]⟩ : ByteArray), (⟨#[122, 122]⟩ : ByteArray), (⟨#[97, 0]⟩ : ByteArray)] : List ByteArray)) (inner := [.string (⟨#[97]⟩ : ByteArray), .string (⟨#[98]⟩ : ByteArray), .string (⟨#[97, 98]⟩ : ByteArray), .string (⟨#[97, 98, 99]⟩ : ByteArray), .string (⟨#[97, 98, 100]⟩ : ByteArray), .string (⟨#[107, 101, 121]⟩ : ByteArray), .string (⟨#[107, 101, 121, 49]⟩ : ByteArray), .string (⟨#[107, 101, 121, 50]⟩ : ByteArray), .string (⟨#[122, 122]⟩ : ByteArray), .string (⟨#[97, 0]⟩ : ByteArray)]) (ok := fun _ => True) (okp := fun _ => True) ?hr ?hp (fun _ hk => hk) trivial (Below.refl _ _) (Nat.le_refl _) (by simp) ?_; (case hd => rfl); (case hg => rfl); (case hr => first | (go_simp; done) | (go_simp; rfl)); (case hp => exact (Reps.one (show Kd.M Kd.string _ _ _ (⟨#[97]⟩ : ByteArray) [.string (⟨#[97]⟩ : ByteArray)] from rfl) (Reps.one (show Kd.M Kd.string _ _ _ (⟨#[98]⟩ : ByteArray) [.string (⟨#[98]⟩ : ByteArray)] from rfl) (Reps.one (show Kd.M Kd.string _ _ _ (⟨#[97, 98]⟩ : ByteArray) [.string (⟨#[97, 98]⟩ : ByteArray)] from rfl) (Reps.one (show Kd.M Kd.string _ _ _ (⟨#[97, 98, 99]⟩ : ByteArray) [.string (⟨#[97, 98, 99]⟩ : ByteArray)] from rfl) (Reps.one (show Kd.M Kd.string _ _ _ (⟨#[97, 98, 100]⟩ : ByteArray) [.string (⟨#[97, 98, 100]⟩ : ByteArray)] from rfl) (Reps.one (show Kd.M Kd.string _ _ _ (⟨#[107, 101, 121]⟩ : ByteArray) [.string (⟨#[107, 101, 121]⟩ : ByteArray)] from rfl) (Reps.one (show Kd.M Kd.string _ _ _ (⟨#[107, 101, 121, 49]⟩ : ByteArray) [.string (⟨#[107, 101, 121, 49]⟩ : ByteArray)] from rfl) (Reps.one (show Kd.M Kd.string _ _ _ (⟨#[107, 101, 121, 50]⟩ : ByteArray) [.string (⟨#[107, 101, 121, 50]⟩ : ByteArray)] from rfl) (Reps.one (show Kd.M Kd.string _ _ _ (⟨#[122, 122]⟩ : ByteArray) [.string (⟨#[122, 122]⟩ : ByteArray)] from rfl) (Reps.one (show Kd.M Kd.string _ _ _ (⟨#[97, 0]⟩ : ByteArray) [.string (⟨#[97, 0]⟩ : ByteArray)] from rfl) (Reps.none _ _)))))))))))); intro v102 w5 ho6 hb hg_ hnew_; clear hg_ hnew_; (first | rw [← Ny101.out] at ho6 | (simp only [Int.reduceToNat] at ho6; rw [← Ny101.out] at ho6)); have HO103 := Qz.mk (Kd.R_lower ho6 (keep_size (w := w) (g := g) (row := none) (by repeat (first | (with_reducible first | exact HK.out | apply KeepBut.set_ | apply ql | apply qn | apply qm) | exact HK.out)))); replace HK := Qz.mk (KeepBut.trans (by repeat (first | (with_reducible first | exact HK.out | apply KeepBut.set_ | apply ql | apply qn | apply qm) | exact HK.out)) (KeepBut.of_below hb g none) (.inl rfl)); replace HB := Qz.mk (qr (by repeat (first | (with_reducible first | exact HB.out | apply qc | apply qa | apply qb | refine qd ?_ (IsS116.ge HI0.out)) | exact HB.out)) hb); replace HI0 := Qz.mk (IsS116.below (by repeat (first | (with_reducible first | exact HI0.out | apply IsS116.alloc | apply IsS116.drewN | apply IsS116.drew | apply IsS116.set_1) | exact HI0.out)) hb); clear hb ho6) | ((with_reducible refine qq (f := 98) rfl ?_); refine qu (some 5) rfl rfl Try.func98 (by kernel_rfl) rfl #[.pointer (some ⟨g, 0, none⟩), .int .i64 10] rfl (by (try simp only [List.map_toArray, List.map_cons, List.map_nil]); first | done | rfl) ?_; (with_reducible refine (spec_l1Rd_below.calls g s0_0 s0_1 10 t104 t105 w0 _ ?side1 ?side2 A2.out).mono ?_); (case side1 => repeat (first | (with_reducible first | exact HI0.out | apply IsS116.alloc | apply IsS116.drewN | apply IsS116.drew | apply IsS116.set_1) | exact HI0.out)); (case side2 => repeat (first | (with_reducible first | exact HB.out | apply qc | apply qa | apply qb | refine qd ?_ (IsS116.ge HI0.out)) | exact HB.out)); rintro e w7 ⟨rfl, hi, hb, hk⟩; refine ⟨_, rfl, ?_⟩; replace HO103 := Qz.mk (Kd.R_mono (Kd.R_keep (IsS116.apart (show IsS116 w0 _ g s0_0 s0_1 from by repeat (first | (with_reducible first | exact HI0.out | apply IsS116.alloc | apply IsS116.drewN | apply IsS116.drew | apply IsS116.set_1) | exact HI0.out)) (by (with_reducible repeat (first | apply Kd.R_alloc | apply Kd.R_drewN | apply Kd.R_drew)); exact HO103.out) (by decide)) hk (fun _ h => h.2)) (fun _ h => h.1)); replace HK := Qz.mk (KeepBut.trans (by repeat (first | (with_reducible first | exact HK.out | apply KeepBut.set_ | apply ql | apply qn | apply qm) | exact HK.out)) hk (.inl rfl)); replace HB := Qz.mk (hb); replace HI0 := Qz.mk (hi); (try clear hb); (try clear hk); (try clear hi); obtain ⟨Ao8, co8, eo8⟩ := Kd.R_slice HO103.out; subst eo8; have p106 : 0 ≤ (t104 : Int) := of_decide_eq_true (by first | (with_reducible assumption) | assumption); have q106 : t104 < (y101.length : Int) := of_decide_eq_true (by first | (with_reducible assumption) | assumption); obtain ⟨ad106, e106, hx106_0⟩ := Kd.at_string (Kd.R_reads' HO103.out).2.2 t104 p106 q106; cases e106; replace p106 := eq_true p106; replace q106 := eq_true q106))
   go_ret
   exact ⟨by first | rfl | (simp [qp, qo] <;> rfl) | (simp [*, qp, qo] <;> rfl), by repeat (first | (with_reducible first | exact HI0.out | apply IsS116.alloc | apply IsS116.drewN | apply IsS116.drew | apply IsS116.set_1) | exact HI0.out), by repeat (first | (with_reducible first | exact HB.out | apply qc | apply qa | apply qb | refine qd ?_ (IsS116.ge HI0.out)) | exact HB.out), by repeat (first | (with_reducible first | exact HK.out | apply KeepBut.set_ | apply ql | apply qn | apply qm) | exact HK.out)⟩
  ·rw [if_neg c4] at H
   exact absurd H (by simp)
 ·rw [if_neg c3] at H
  exact absurd H (by simp)
def spec_l1Rd_key.f (k : Nat) (s0_0 : List Int) (s0_1 : Int) : Option (ByteArray × Int × Int × Int) := (spec_l1Rd_user.f s0_0 s0_1).bind fun bt102 => ((spec_l1Rd_near.f k s0_0 bt102.2 0 12).bind fun bt104 => ((spec_l1Rd_below.f s0_0 bt104.2 2).bind fun bt106 => ((spec_l1Rd_below.f s0_0 bt106.2 24).bind fun bt109 => (if bt109.1 = 0 then ((spec_l1Rd_off.f k s0_0 bt109.2 0 1000000000000).bind fun bt111 => (some (bt102.1, bt111.1, bt106.1, bt111.2))) else (if bt109.1 = 1 then ((spec_l1Rd_off.f k s0_0 bt109.2 0 1).bind fun bt113 => (some (bt102.1, bt104.1, bt113.1, bt113.2))) else (if bt109.1 = 2 then ((spec_l1Rd_bytes.f k s0_0 bt109.2 45).bind fun bt115 => (some (bt115.1, bt104.1, bt106.1, bt115.2))) else (some (bt102.1, bt104.1, bt106.1, bt109.2))))))))
set_option maxHeartbeats 8000000 in
set_option maxRecDepth 100000 in
theorem spec_l1Rd_key.calls (k : Nat) (g : Nat) (s0_0 : List Int) (s0_1 : Int) (r1 : ByteArray) (r2 : Int) (r3 : Int) (r4 : Int) (w0 w : World) (hI : IsS116 w0 w g s0_0 s0_1) (hB : Below w0.heap.size w0 w) (h : spec_l1Rd_key.f k s0_0 s0_1 = some (r1, r2, r3, r4)) :
  Calls Try.prog 106 #[.pointer (some ⟨g, 0, none⟩)] w fun e w' => e = .returned (.agg #[.string r1, .int .i64 r2, .int .i64 r3]) ∧ IsS116 w0 w' g s0_0 r4 ∧ Below w0.heap.size w0 w' ∧ KeepBut w w' g none := by
 have hu46 := Try.underlying46
 have HI0 := Qz.mk hI
 have HK := Qz.mk (KeepBut.refl w g none)
 have HL := Qz.mk hB.size
 clear hI
 have HW0 := Qz.mk hB.size
 have HB := Qz.mk hB
 clear hB
 have H : ((spec_l1Rd_user.f s0_0 s0_1).bind fun bt102 => ((spec_l1Rd_near.f k s0_0 bt102.2 0 12).bind fun bt104 => ((spec_l1Rd_below.f s0_0 bt104.2 2).bind fun bt106 => ((spec_l1Rd_below.f s0_0 bt106.2 24).bind fun bt109 => (if bt109.1 = 0 then ((spec_l1Rd_off.f k s0_0 bt109.2 0 1000000000000).bind fun bt111 => (some (bt102.1, bt111.1, bt106.1, bt111.2))) else (if bt109.1 = 1 then ((spec_l1Rd_off.f k s0_0 bt109.2 0 1).bind fun bt113 => (some (bt102.1, bt104.1, bt113.1, bt113.2))) else (if bt109.1 = 2 then ((spec_l1Rd_bytes.f k s0_0 bt109.2 45).bind fun bt115 => (some (bt115.1, bt104.1, bt106.1, bt115.2))) else (some (bt102.1, bt104.1, bt106.1, bt109.2))))))))) = some (r1, r2, r3, r4) := h
 clear h
 replace H := Option.bind_eq_some_iff.mp H
 obtain ⟨⟨t102, t103⟩, A20, H⟩ := H
 replace H : ((spec_l1Rd_near.f k s0_0 t103 0 12).bind fun bt104 => ((spec_l1Rd_below.f s0_0 bt104.2 2).bind fun bt106 => ((spec_l1Rd_below.f s0_0 bt106.2 24).bind fun bt109 => (if bt109.1 = 0 then ((spec_l1Rd_off.f k s0_0 bt109.2 0 1000000000000).bind fun bt111 => (some (t102, bt111.1, bt106.1, bt111.2))) else (if bt109.1 = 1 then ((spec_l1Rd_off.f k s0_0 bt109.2 0 1).bind fun bt113 => (some (t102, bt104.1, bt113.1, bt113.2))) else (if bt109.1 = 2 then ((spec_l1Rd_bytes.f k s0_0 bt109.2 45).bind fun bt115 => (some (bt115.1, bt104.1, bt106.1, bt115.2))) else (some (t102, bt104.1, bt106.1, bt109.2)))))))) = some (r1, r2, r3, r4) := H
 have A2 := Qz.mk A20
 clear A20
 replace H := Option.bind_eq_some_iff.mp H
 obtain ⟨⟨t104, t105⟩, A30, H⟩ := H
 replace H : ((spec_l1Rd_below.f s0_0 t105 2).bind fun bt106 => ((spec_l1Rd_below.f s0_0 bt106.2 24).bind fun bt109 => (if bt109.1 = 0 then ((spec_l1Rd_off.f k s0_0 bt109.2 0 1000000000000).bind fun bt111 => (some (t102, bt111.1, bt106.1, bt111.2))) else (if bt109.1 = 1 then ((spec_l1Rd_off.f k s0_0 bt109.2 0 1).bind fun bt113 => (some (t102, t104, bt113.1, bt113.2))) else (if bt109.1 = 2 then ((spec_l1Rd_bytes.f k s0_0 bt109.2 45).bind fun bt115 => (some (bt115.1, t104, bt106.1, bt115.2))) else (some (t102, t104, bt106.1, bt109.2))))))) = some (r1, r2, r3, r4) := H
 have A3 := Qz.mk A30
 clear A30
 replace H := Option.bind_eq_some_iff.mp H
 obtain ⟨⟨t106, t107⟩, A40, H⟩ := H
 replace H : ((spec_l1Rd_below.f s0_0 t107 24).bind fun bt109 => (if bt109.1 = 0 then ((spec_l1Rd_off.f k s0_0 bt109.2 0 1000000000000).bind fun bt111 => (some (t102, bt111.1, t106, bt111.2))) else (if bt109.1 = 1 then ((spec_l1Rd_off.f k s0_0 bt109.2 0 1).bind fun bt113 => (some (t102, t104, bt113.1, bt113.2))) else (if bt109.1 = 2 then ((spec_l1Rd_bytes.f k s0_0 bt109.2 45).bind fun bt115 => (some (bt115.1, t104, t106, bt115.2))) else (some (t102, t104, t106, bt109.2)))))) = some (r1, r2, r3, r4) := H
 have A4 := Qz.mk A40
 clear A40
 replace H := Option.bind_eq_some_iff.mp H
 obtain ⟨⟨t109, t110⟩, A50, H⟩ := H
 replace H : (if t109 = 0 then ((spec_l1Rd_off.f k s0_0 t110 0 1000000000000).bind fun bt111 => (some (t102, bt111.1, t106, bt111.2))) else (if t109 = 1 then ((spec_l1Rd_off.f k s0_0 t110 0 1).bind fun bt113 => (some (t102, t104, bt113.1, bt113.2))) else (if t109 = 2 then ((spec_l1Rd_bytes.f k s0_0 t110 45).bind fun bt115 => (some (bt115.1, t104, t106, bt115.2))) else (some (t102, t104, t106, t110))))) = some (r1, r2, r3, r4) := H
 have A5 := Qz.mk A50
 clear A50
 by_cases c6 : t109 = 0
 ·rw [if_pos c6] at H
  have c6b0 : (t109 == 0) = true := beq_iff_eq.mpr c6
  have c6b1 : (t109 != 0) = false := bne_eq_false_iff_eq.mpr c6
  clear c6
  replace H := Option.bind_eq_some_iff.mp H
  obtain ⟨⟨t111, t112⟩, A70, H⟩ := H
  replace H : (some (t102, t111, t106, t112)) = some (r1, r2, r3, r4) := H
  have A7 := Qz.mk A70
  clear A70
  simp only [Option.some.injEq, Prod.mk.injEq] at H
  obtain ⟨rfl, rfl, rfl, rfl⟩ := H
  go_enter Try.func106, Try.ntmps106
  go_wp2_with (first | ((with_reducible refine gate_dst (N := 2) rfl ?_); refine box_event ?hg (N := 2) ?hd (cs := #[.string (⟨#[]⟩ : ByteArray), .int .i64 0, .int .i64 0]) (t := 46) ?hr ?_; (case hd => rfl); (case hg => rfl); (case hr => first | (go_simp; done) | (go_simp; rfl)); intro gb101 hg w8 hbox hb; replace HB := Qz.mk (qr (by repeat (first | (with_reducible first | exact HB.out | apply qc | apply qa | apply qb | refine qd ?_ (IsS116.ge HI0.out)) | exact HB.out)) hb); have BK101 := Qz.mk (hbox); have GW101 := Qz.mk ((by rw [hg]; exact (keep_size (w := w) (g := g) (row := none) (by repeat (first | (with_reducible first | exact HK.out | apply KeepBut.set_ | apply ql | apply qn | apply qm) | exact HK.out))) : w.heap.size ≤ gb101)); have GE101 := Qz.mk ((Nat.le_trans HW0.out (by rw [hg]; exact (keep_size (w := w) (g := g) (row := none) (by repeat (first | (with_reducible first | exact HK.out | apply KeepBut.set_ | apply ql | apply qn | apply qm) | exact HK.out))) : w.heap.size ≤ gb101) : w0.heap.size ≤ gb101)); replace HK := Qz.mk (KeepBut.trans (by repeat (first | (with_reducible first | exact HK.out | apply KeepBut.set_ | apply ql | apply qn | apply qm) | exact HK.out)) (KeepBut.of_below hb g none) (.inl rfl)); have NB0_101 := Qz.mk ((by rw [hg]; exact Nat.ne_of_lt (IsS116.lt (show IsS116 w0 _ g s0_0 s0_1 from by repeat (first | (with_reducible first | exact HI0.out | apply IsS116.alloc | apply IsS116.drewN | apply IsS116.drew | apply IsS116.set_1) | exact HI0.out))) : g ≠ gb101)); have NB101_0 := Qz.mk ((by rw [hg]; exact Nat.ne_of_gt (IsS116.lt (show IsS116 w0 _ g s0_0 s0_1 from by repeat (first | (with_reducible first | exact HI0.out | apply IsS116.alloc | apply IsS116.drewN | apply IsS116.drew | apply IsS116.set_1) | exact HI0.out))) : gb101 ≠ g)); replace HI0 := Qz.mk (IsS116.below (by repeat (first | (with_reducible first | exact HI0.out | apply IsS116.alloc | apply IsS116.drewN | apply IsS116.drew | apply IsS116.set_1) | exact HI0.out)) hb); clear hb hbox hg) | ((with_reducible refine qq (f := 87) rfl ?_); refine qu (some 5) rfl rfl Try.func87 (by kernel_rfl) rfl #[.pointer (some ⟨g, 0, none⟩)] rfl (by (try simp only [List.map_toArray, List.map_cons, List.map_nil]); first | done | rfl) ?_; (with_reducible refine (spec_l1Rd_user.calls g s0_0 s0_1 t102 t103 w0 _ ?side1 ?side2 A2.out).mono ?_); (case side1 => repeat (first | (with_reducible first | exact HI0.out | apply IsS116.alloc | apply IsS116.drewN | apply IsS116.drew | apply IsS116.set_1 | apply (fun h_ => IsS116.far h_ NB0_101.out _)) | exact HI0.out)); (case side2 => repeat (first | (with_reducible first | exact HB.out | apply qc | apply qa | apply qb | refine qd ?_ (IsS116.ge HI0.out) | refine qd ?_ GE101.out) | exact HB.out)); rintro e w9 ⟨rfl, hi, hb, hk⟩; refine ⟨_, rfl, ?_⟩; replace BK101 := Qz.mk (KeepBut.blk hk (g' := gb101) (o := .cells #[.string (⟨#[]⟩ : ByteArray), .int .i64 0, .int .i64 0] 46 (0, 0)) (by (with_reducible repeat (first | refine qh ?_ _ | refine qk ?_ | refine qi ?_ _)); exact BK101.out) NB101_0.out (by simp)); replace HK := Qz.mk (KeepBut.trans (by repeat (first | (with_reducible first | exact HK.out | apply KeepBut.set_ | apply ql | apply qn | apply qm | refine qt ?_ GW101.out _) | exact HK.out)) hk (.inl rfl)); replace HB := Qz.mk (hb); replace HI0 := Qz.mk (hi); (try clear hb); (try clear hk); (try clear hi)) | ((with_reducible refine qq (f := 101) rfl ?_); refine qu (some 7) rfl rfl Try.func101 (by kernel_rfl) rfl #[.pointer (some ⟨g, 0, none⟩), .int .i64 0, .int .i64 12] rfl (by (try simp only [List.map_toArray, List.map_cons, List.map_nil]); first | done | rfl) ?_; (with_reducible refine (spec_l1Rd_near.calls k g s0_0 t103 0 12 t104 t105 w0 _ ?side1 ?side2 A3.out).mono ?_); (case side1 => repeat (first | (with_reducible first | exact HI0.out | apply IsS116.alloc | apply IsS116.drewN | apply IsS116.drew | apply IsS116.set_1 | apply (fun h_ => IsS116.far h_ NB0_101.out _)) | exact HI0.out)); (case side2 => repeat (first | (with_reducible first | exact HB.out | apply qc | apply qa | apply qb | refine qd ?_ (IsS116.ge HI0.out) | refine qd ?_ GE101.out) | exact HB.out)); rintro e w10 ⟨rfl, hi, hb, hk⟩; refine ⟨_, rfl, ?_⟩; replace BK101 := Qz.mk (KeepBut.blk hk (g' := gb101) (o := .cells #[.string (⟨#[]⟩ : ByteArray), .int .i64 0, .int .i64 0] 46 (0, 0)) (by (with_reducible repeat (first | refine qh ?_ _ | refine qk ?_ | refine qi ?_ _)); exact BK101.out) NB101_0.out (by simp)); replace HK := Qz.mk (KeepBut.trans (by repeat (first | (with_reducible first | exact HK.out | apply KeepBut.set_ | apply ql | apply qn | apply qm | refine qt ?_ GW101.out _) | exact HK.out)) hk (.inl rfl)); replace HB := Qz.mk (hb); replace HI0 := Qz.mk (hi); (try clear hb); (try clear hk); (try clear hi)) | ((with_reducible refine qq (f := 98) rfl ?_); refine qu (some 9) rfl rfl Try.func98 (by kernel_rfl) rfl #[.pointer (some ⟨g, 0, none⟩), .int .i64 2] rfl (by (try simp only [List.map_toArray, List.map_cons, List.map_nil]); first | done | rfl) ?_; (with_reducible refine (spec_l1Rd_below.calls g s0_0 t105 2 t106 t107 w0 _ ?side1 ?side2 A4.out).mono ?_); (case side1 => repeat (first | (with_reducible first | exact HI0.out | apply IsS116.alloc | apply IsS116.drewN | apply IsS116.drew | apply IsS116.set_1 | apply (fun h_ => IsS116.far h_ NB0_101.out _)) | exact HI0.out)); (case side2 => repeat (first | (with_reducible first | exact HB.out | apply qc | apply qa | apply qb | refine qd ?_ (IsS116.ge HI0.out) | refine qd ?_ GE101.out) | exact HB.out)); rintro e w11 ⟨rfl, hi, hb, hk⟩; refine ⟨_, rfl, ?_⟩; replace BK101 := Qz.mk (KeepBut.blk hk (g' := gb101) (o := .cells #[.string (⟨#[]⟩ : ByteArray), .int .i64 0, .int .i64 0] 46 (0, 0)) (by (with_reducible repeat (first | refine qh ?_ _ | refine qk ?_ | refine qi ?_ _)); exact BK101.out) NB101_0.out (by simp)); replace HK := Qz.mk (KeepBut.trans (by repeat (first | (with_reducible first | exact HK.out | apply KeepBut.set_ | apply ql | apply qn | apply qm | refine qt ?_ GW101.out _) | exact HK.out)) hk (.inl rfl)); replace HB := Qz.mk (hb); replace HI0 := Qz.mk (hi); (try clear hb); (try clear hk); (try clear hi)) | ((with_reducible refine gate_dst (N := 3) rfl ?_); refine box_event ?hg (N := 3) ?hd (cs := #[.string (⟨#[]⟩ : ByteArray), .int .i64 0, .int .i64 0]) (t := 46) ?hr ?_; (case hd => rfl); (case hg => rfl); (case hr => first | (go_simp; done) | (go_simp; rfl)); intro gb108 hg w12 hbox hb; replace HB := Qz.mk (qr (by repeat (first | (with_reducible first | exact HB.out | apply qc | apply qa | apply qb | refine qd ?_ (IsS116.ge HI0.out) | refine qd ?_ GE101.out) | exact HB.out)) hb); have BK108 := Qz.mk (hbox); have GW108 := Qz.mk ((by rw [hg]; exact (keep_size (w := w) (g := g) (row := none) (by repeat (first | (with_reducible first | exact HK.out | apply KeepBut.set_ | apply ql | apply qn | apply qm | refine qt ?_ GW101.out _) | exact HK.out))) : w.heap.size ≤ gb108)); have GE108 := Qz.mk ((Nat.le_trans HW0.out (by rw [hg]; exact (keep_size (w := w) (g := g) (row := none) (by repeat (first | (with_reducible first | exact HK.out | apply KeepBut.set_ | apply ql | apply qn | apply qm | refine qt ?_ GW101.out _) | exact HK.out))) : w.heap.size ≤ gb108) : w0.heap.size ≤ gb108)); replace HK := Qz.mk (KeepBut.trans (by repeat (first | (with_reducible first | exact HK.out | apply KeepBut.set_ | apply ql | apply qn | apply qm | refine qt ?_ GW101.out _) | exact HK.out)) (KeepBut.of_below hb g none) (.inl rfl)); have NB101_108 := Qz.mk ((by rw [hg]; exact Nat.ne_of_lt (blk_lt (g := gb101) (o := .cells #[.string (⟨#[]⟩ : ByteArray), .int .i64 0, .int .i64 0] 46 (0, 0)) (by (with_reducible repeat (first | refine qh ?_ _ | refine qk ?_ | refine qi ?_ _)); exact BK101.out)) : gb101 ≠ gb108)); have NB108_101 := Qz.mk ((by rw [hg]; exact Nat.ne_of_gt (blk_lt (g := gb101) (o := .cells #[.string (⟨#[]⟩ : ByteArray), .int .i64 0, .int .i64 0] 46 (0, 0)) (by (with_reducible repeat (first | refine qh ?_ _ | refine qk ?_ | refine qi ?_ _)); exact BK101.out)) : gb108 ≠ gb101)); replace BK101 := Qz.mk (qx (g := gb101) (o := .cells #[.string (⟨#[]⟩ : ByteArray), .int .i64 0, .int .i64 0] 46 (0, 0)) (by (with_reducible repeat (first | refine qh ?_ _ | refine qk ?_ | refine qi ?_ _)); exact BK101.out) hb); have NB0_108 := Qz.mk ((by rw [hg]; exact Nat.ne_of_lt (IsS116.lt (show IsS116 w0 _ g s0_0 t107 from by repeat (first | (with_reducible first | exact HI0.out | apply IsS116.alloc | apply IsS116.drewN | apply IsS116.drew | apply IsS116.set_1 | apply (fun h_ => IsS116.far h_ NB0_101.out _)) | exact HI0.out))) : g ≠ gb108)); have NB108_0 := Qz.mk ((by rw [hg]; exact Nat.ne_of_gt (IsS116.lt (show IsS116 w0 _ g s0_0 t107 from by repeat (first | (with_reducible first | exact HI0.out | apply IsS116.alloc | apply IsS116.drewN | apply IsS116.drew | apply IsS116.set_1 | apply (fun h_ => IsS116.far h_ NB0_101.out _)) | exact HI0.out))) : gb108 ≠ g)); replace HI0 := Qz.mk (IsS116.below (by repeat (first | (with_reducible first | exact HI0.out | apply IsS116.alloc | apply IsS116.drewN | apply IsS116.drew | apply IsS116.set_1 | apply (fun h_ => IsS116.far h_ NB0_101.out _)) | exact HI0.out)) hb); clear hb hbox hg; have hnb13 := NB108_101.out; have hnc13 := NB101_108.out; have hnb14 := NB108_0.out; have hnc14 := NB0_108.out; have hcz15_0 : w12.cell? ⟨gb108, 0, none⟩ = some (.string (⟨#[]⟩ : ByteArray)) := (qe BK108.out 0).trans rfl; have hcz15_1 : w12.cell? ⟨gb108, 1, none⟩ = some (.int .i64 0) := (qe BK108.out 1).trans rfl; have hcz15_2 : w12.cell? ⟨gb108, 2, none⟩ = some (.int .i64 0) := (qe BK108.out 2).trans rfl; have hfz15_0 := qf BK108.out 0; have hfz15_1 := qf BK108.out 1; have hfz15_2 := qf BK108.out 2) | ((with_reducible refine qq (f := 98) rfl ?_); refine qu (some 12) rfl rfl Try.func98 (by kernel_rfl) rfl #[.pointer (some ⟨g, 0, none⟩), .int .i64 24] rfl (by (try simp only [List.map_toArray, List.map_cons, List.map_nil]); first | done | rfl) ?_; (with_reducible refine (spec_l1Rd_below.calls g s0_0 t107 24 t109 t110 w0 _ ?side1 ?side2 A5.out).mono ?_); (case side1 => repeat (first | (with_reducible first | exact HI0.out | apply IsS116.alloc | apply IsS116.drewN | apply IsS116.drew | apply IsS116.set_1 | apply (fun h_ => IsS116.far h_ NB0_101.out _) | apply (fun h_ => IsS116.far h_ NB0_108.out _)) | exact HI0.out)); (case side2 => repeat (first | (with_reducible first | exact HB.out | apply qc | apply qa | apply qb | refine qd ?_ (IsS116.ge HI0.out) | refine qd ?_ GE101.out | refine qd ?_ GE108.out) | exact HB.out)); rintro e w16 ⟨rfl, hi, hb, hk⟩; refine ⟨_, rfl, ?_⟩; replace BK101 := Qz.mk (KeepBut.blk hk (g' := gb101) (o := .cells #[.string (⟨#[]⟩ : ByteArray), .int .i64 0, .int .i64 0] 46 (0, 0)) (by (with_reducible repeat (first | refine qh ?_ _ | refine qk ?_ | refine qi ?_ _)); refine blk_far ?_ NB101_108.out _; (with_reducible repeat (first | refine qh ?_ _ | refine qk ?_ | refine qi ?_ _)); refine blk_far ?_ NB101_108.out _; (with_reducible repeat (first | refine qh ?_ _ | refine qk ?_ | refine qi ?_ _)); refine blk_far ?_ NB101_108.out _; (with_reducible repeat (first | refine qh ?_ _ | refine qk ?_ | refine qi ?_ _)); exact BK101.out) NB101_0.out (by simp)); replace BK108 := Qz.mk (KeepBut.blk hk (g' := gb108) (o := .cells #[.string t102, .int .i64 t104, .int .i64 t106] 46 (0, 0)) (by (with_reducible repeat (first | refine qh ?_ _ | refine qk ?_ | refine qi ?_ _)); refine blk_put (cs := #[.string t102, .int .i64 t104, .int .i64 0]) ?_ 2 _ rfl; (with_reducible repeat (first | refine qh ?_ _ | refine qk ?_ | refine qi ?_ _)); refine blk_put (cs := #[.string t102, .int .i64 0, .int .i64 0]) ?_ 1 _ rfl; (with_reducible repeat (first | refine qh ?_ _ | refine qk ?_ | refine qi ?_ _)); refine blk_put (cs := #[.string (⟨#[]⟩ : ByteArray), .int .i64 0, .int .i64 0]) ?_ 0 _ rfl; (with_reducible repeat (first | refine qh ?_ _ | refine qk ?_ | refine qi ?_ _)); exact BK108.out) NB108_0.out (by simp)); replace HK := Qz.mk (KeepBut.trans (by repeat (first | (with_reducible first | exact HK.out | apply KeepBut.set_ | apply ql | apply qn | apply qm | refine qt ?_ GW101.out _ | refine qt ?_ GW108.out _) | exact HK.out)) hk (.inl rfl)); replace HB := Qz.mk (hb); replace HI0 := Qz.mk (hi); (try clear hb); (try clear hk); (try clear hi)) | ((with_reducible refine qq (f := 72) rfl ?_); refine qu (some 16) rfl rfl Try.func72 (by kernel_rfl) rfl #[.pointer (some ⟨g, 0, none⟩), .int .i64 0, .int .i64 1000000000000] rfl (by (try simp only [List.map_toArray, List.map_cons, List.map_nil]); first | done | rfl) ?_; (with_reducible refine (spec_l1Rd_off.calls k g s0_0 t110 0 1000000000000 t111 t112 w0 _ ?side1 ?side2 A7.out).mono ?_); (case side1 => repeat (first | (with_reducible first | exact HI0.out | apply IsS116.alloc | apply IsS116.drewN | apply IsS116.drew | apply IsS116.set_1 | apply (fun h_ => IsS116.far h_ NB0_101.out _) | apply (fun h_ => IsS116.far h_ NB0_108.out _)) | exact HI0.out)); (case side2 => repeat (first | (with_reducible first | exact HB.out | apply qc | apply qa | apply qb | refine qd ?_ (IsS116.ge HI0.out) | refine qd ?_ GE101.out | refine qd ?_ GE108.out) | exact HB.out)); rintro e w17 ⟨rfl, hi, hb, hk⟩; refine ⟨_, rfl, ?_⟩; replace BK101 := Qz.mk (KeepBut.blk hk (g' := gb101) (o := .cells #[.string (⟨#[]⟩ : ByteArray), .int .i64 0, .int .i64 0] 46 (0, 0)) (by (with_reducible repeat (first | refine qh ?_ _ | refine qk ?_ | refine qi ?_ _)); exact BK101.out) NB101_0.out (by simp)); replace BK108 := Qz.mk (KeepBut.blk hk (g' := gb108) (o := .cells #[.string t102, .int .i64 t104, .int .i64 t106] 46 (0, 0)) (by (with_reducible repeat (first | refine qh ?_ _ | refine qk ?_ | refine qi ?_ _)); exact BK108.out) NB108_0.out (by simp)); replace HK := Qz.mk (KeepBut.trans (by repeat (first | (with_reducible first | exact HK.out | apply KeepBut.set_ | apply ql | apply qn | apply qm | refine qt ?_ GW101.out _ | refine qt ?_ GW108.out _) | exact HK.out)) hk (.inl rfl)); replace HB := Qz.mk (hb); replace HI0 := Qz.mk (hi); (try clear hb); (try clear hk); (try clear hi); have hcz18_0 : w17.cell? ⟨gb108, 0, none⟩ = some (.string t102) := (qe BK108.out 0).trans rfl; have hcz18_1 : w17.cell? ⟨gb108, 1, none⟩ = some (.int .i64 t104) := (qe BK108.out 1).trans rfl; have hcz18_2 : w17.cell? ⟨gb108, 2, none⟩ = some (.int .i64 t106) := (qe BK108.out 2).trans rfl; have hfz18_0 := qf BK108.out 0; have hfz18_1 := qf BK108.out 1; have hfz18_2 := qf BK108.out 2; have hnb19 := NB101_0.out; have hnc19 := NB0_101.out; have hcz20_0 : w17.cell? ⟨gb101, 0, none⟩ = some (.string (⟨#[]⟩ : ByteArray)) := (qe BK101.out 0).trans rfl; have hcz20_1 : w17.cell? ⟨gb101, 1, none⟩ = some (.int .i64 0) := (qe BK101.out 1).trans rfl; have hcz20_2 : w17.cell? ⟨gb101, 2, none⟩ = some (.int .i64 0) := (qe BK101.out 2).trans rfl; have hfz20_0 := qf BK101.out 0; have hfz20_1 := qf BK101.out 1; have hfz20_2 := qf BK101.out 2))
  refine bodyPost_ret (results_cell_row rfl _ _ gb101 46 #[.string t102, .int .i64 t111, .int .i64 t106] (0, 0) _ rfl (by (with_reducible repeat (first | refine qh ?_ _ | refine qk ?_ | refine qi ?_ _)); refine blk_put (cs := #[.string t102, .int .i64 t111, .int .i64 0]) ?_ 2 _ rfl; (with_reducible repeat (first | refine qh ?_ _ | refine qk ?_ | refine qi ?_ _)); refine blk_put (cs := #[.string t102, .int .i64 0, .int .i64 0]) ?_ 1 _ rfl; (with_reducible repeat (first | refine qh ?_ _ | refine qk ?_ | refine qi ?_ _)); refine blk_put (cs := #[.string (⟨#[]⟩ : ByteArray), .int .i64 0, .int .i64 0]) ?_ 0 _ rfl; (with_reducible repeat (first | refine qh ?_ _ | refine qk ?_ | refine qi ?_ _)); refine blk_far ?_ NB101_108.out _; (with_reducible repeat (first | refine qh ?_ _ | refine qk ?_ | refine qi ?_ _)); exact BK101.out) Try.underlying46 rfl (by kernel_rfl)) rfl ?_
  exact ⟨by first | rfl | (simp [qp, qo] <;> rfl) | (simp [*, qp, qo] <;> rfl), by repeat (first | (with_reducible first | exact HI0.out | apply IsS116.alloc | apply IsS116.drewN | apply IsS116.drew | apply IsS116.set_1 | apply (fun h_ => IsS116.far h_ NB0_101.out _) | apply (fun h_ => IsS116.far h_ NB0_108.out _)) | exact HI0.out), by repeat (first | (with_reducible first | exact HB.out | apply qc | apply qa | apply qb | refine qd ?_ (IsS116.ge HI0.out) | refine qd ?_ GE101.out | refine qd ?_ GE108.out) | exact HB.out), by repeat (first | (with_reducible first | exact HK.out | apply KeepBut.set_ | apply ql | apply qn | apply qm | refine qt ?_ GW101.out _ | refine qt ?_ GW108.out _) | exact HK.out)⟩
 ·rw [if_neg c6] at H
  have c6b0 : (t109 == 0) = false := beq_eq_false_iff_ne.mpr c6
  have c6b1 : (t109 != 0) = true := bne_iff_ne.mpr c6
  by_cases c21 : t109 = 1
  ·rw [if_pos c21] at H
   have c21b0 : (t109 == 1) = true := beq_iff_eq.mpr c21
   have c21b1 : (t109 != 1) = false := bne_eq_false_iff_eq.mpr c21
   clear c21
   replace H := Option.bind_eq_some_iff.mp H
   obtain ⟨⟨t113, t114⟩, A220, H⟩ := H
   replace H : (some (t102, t104, t113, t114)) = some (r1, r2, r3, r4) := H
   have A22 := Qz.mk A220
   clear A220
   simp only [Option.some.injEq, Prod.mk.injEq] at H
   obtain ⟨rfl, rfl, rfl, rfl⟩ := H
   go_enter Try.func106, Try.ntmps106
   go_wp2_with (first | ((with_reducible refine gate_dst (N := 2) rfl ?_); refine box_event ?hg (N := 2) ?hd (cs := #[.string (⟨#[]⟩ : ByteArray), .int .i64 0, .int .i64 0]) (t := 46) ?hr ?_; (case hd => rfl); (case hg => rfl); (case hr => first | (go_simp; done) | (go_simp; rfl)); intro gb101 hg w23 hbox hb; replace HB := Qz.mk (qr (by repeat (first | (with_reducible first | exact HB.out | apply qc | apply qa | apply qb | refine qd ?_ (IsS116.ge HI0.out)) | exact HB.out)) hb); have BK101 := Qz.mk (hbox); have GW101 := Qz.mk ((by rw [hg]; exact (keep_size (w := w) (g := g) (row := none) (by repeat (first | (with_reducible first | exact HK.out | apply KeepBut.set_ | apply ql | apply qn | apply qm) | exact HK.out))) : w.heap.size ≤ gb101)); have GE101 := Qz.mk ((Nat.le_trans HW0.out (by rw [hg]; exact (keep_size (w := w) (g := g) (row := none) (by repeat (first | (with_reducible first | exact HK.out | apply KeepBut.set_ | apply ql | apply qn | apply qm) | exact HK.out))) : w.heap.size ≤ gb101) : w0.heap.size ≤ gb101)); replace HK := Qz.mk (KeepBut.trans (by repeat (first | (with_reducible first | exact HK.out | apply KeepBut.set_ | apply ql | apply qn | apply qm) | exact HK.out)) (KeepBut.of_below hb g none) (.inl rfl)); have NB0_101 := Qz.mk ((by rw [hg]; exact Nat.ne_of_lt (IsS116.lt (show IsS116 w0 _ g s0_0 s0_1 from by repeat (first | (with_reducible first | exact HI0.out | apply IsS116.alloc | apply IsS116.drewN | apply IsS116.drew | apply IsS116.set_1) | exact HI0.out))) : g ≠ gb101)); have NB101_0 := Qz.mk ((by rw [hg]; exact Nat.ne_of_gt (IsS116.lt (show IsS116 w0 _ g s0_0 s0_1 from by repeat (first | (with_reducible first | exact HI0.out | apply IsS116.alloc | apply IsS116.drewN | apply IsS116.drew | apply IsS116.set_1) | exact HI0.out))) : gb101 ≠ g)); replace HI0 := Qz.mk (IsS116.below (by repeat (first | (with_reducible first | exact HI0.out | apply IsS116.alloc | apply IsS116.drewN | apply IsS116.drew | apply IsS116.set_1) | exact HI0.out)) hb); clear hb hbox hg) | ((with_reducible refine qq (f := 87) rfl ?_); refine qu (some 5) rfl rfl Try.func87 (by kernel_rfl) rfl #[.pointer (some ⟨g, 0, none⟩)] rfl (by (try simp only [List.map_toArray, List.map_cons, List.map_nil]); first | done | rfl) ?_; (with_reducible refine (spec_l1Rd_user.calls g s0_0 s0_1 t102 t103 w0 _ ?side1 ?side2 A2.out).mono ?_); (case side1 => repeat (first | (with_reducible first | exact HI0.out | apply IsS116.alloc | apply IsS116.drewN | apply IsS116.drew | apply IsS116.set_1 | apply (fun h_ => IsS116.far h_ NB0_101.out _)) | exact HI0.out)); (case side2 => repeat (first | (with_reducible first | exact HB.out | apply qc | apply qa | apply qb | refine qd ?_ (IsS116.ge HI0.out) | refine qd ?_ GE101.out) | exact HB.out)); rintro e w24 ⟨rfl, hi, hb, hk⟩; refine ⟨_, rfl, ?_⟩; replace BK101 := Qz.mk (KeepBut.blk hk (g' := gb101) (o := .cells #[.string (⟨#[]⟩ : ByteArray), .int .i64 0, .int .i64 0] 46 (0, 0)) (by (with_reducible repeat (first | refine qh ?_ _ | refine qk ?_ | refine qi ?_ _)); exact BK101.out) NB101_0.out (by simp)); replace HK := Qz.mk (KeepBut.trans (by repeat (first | (with_reducible first | exact HK.out | apply KeepBut.set_ | apply ql | apply qn | apply qm | refine qt ?_ GW101.out _) | exact HK.out)) hk (.inl rfl)); replace HB := Qz.mk (hb); replace HI0 := Qz.mk (hi); (try clear hb); (try clear hk); (try clear hi)) | ((with_reducible refine qq (f := 101) rfl ?_); refine qu (some 7) rfl rfl Try.func101 (by kernel_rfl) rfl #[.pointer (some ⟨g, 0, none⟩), .int .i64 0, .int .i64 12] rfl (by (try simp only [List.map_toArray, List.map_cons, List.map_nil]); first | done | rfl) ?_; (with_reducible refine (spec_l1Rd_near.calls k g s0_0 t103 0 12 t104 t105 w0 _ ?side1 ?side2 A3.out).mono ?_); (case side1 => repeat (first | (with_reducible first | exact HI0.out | apply IsS116.alloc | apply IsS116.drewN | apply IsS116.drew | apply IsS116.set_1 | apply (fun h_ => IsS116.far h_ NB0_101.out _)) | exact HI0.out)); (case side2 => repeat (first | (with_reducible first | exact HB.out | apply qc | apply qa | apply qb | refine qd ?_ (IsS116.ge HI0.out) | refine qd ?_ GE101.out) | exact HB.out)); rintro e w25 ⟨rfl, hi, hb, hk⟩; refine ⟨_, rfl, ?_⟩; replace BK101 := Qz.mk (KeepBut.blk hk (g' := gb101) (o := .cells #[.string (⟨#[]⟩ : ByteArray), .int .i64 0, .int .i64 0] 46 (0, 0)) (by (with_reducible repeat (first | refine qh ?_ _ | refine qk ?_ | refine qi ?_ _)); exact BK101.out) NB101_0.out (by simp)); replace HK := Qz.mk (KeepBut.trans (by repeat (first | (with_reducible first | exact HK.out | apply KeepBut.set_ | apply ql | apply qn | apply qm | refine qt ?_ GW101.out _) | exact HK.out)) hk (.inl rfl)); replace HB := Qz.mk (hb); replace HI0 := Qz.mk (hi); (try clear hb); (try clear hk); (try clear hi)) | ((with_reducible refine qq (f := 98) rfl ?_); refine qu (some 9) rfl rfl Try.func98 (by kernel_rfl) rfl #[.pointer (some ⟨g, 0, none⟩), .int .i64 2] rfl (by (try simp only [List.map_toArray, List.map_cons, List.map_nil]); first | done | rfl) ?_; (with_reducible refine (spec_l1Rd_below.calls g s0_0 t105 2 t106 t107 w0 _ ?side1 ?side2 A4.out).mono ?_); (case side1 => repeat (first | (with_reducible first | exact HI0.out | apply IsS116.alloc | apply IsS116.drewN | apply IsS116.drew | apply IsS116.set_1 | apply (fun h_ => IsS116.far h_ NB0_101.out _)) | exact HI0.out)); (case side2 => repeat (first | (with_reducible first | exact HB.out | apply qc | apply qa | apply qb | refine qd ?_ (IsS116.ge HI0.out) | refine qd ?_ GE101.out) | exact HB.out)); rintro e w26 ⟨rfl, hi, hb, hk⟩; refine ⟨_, rfl, ?_⟩; replace BK101 := Qz.mk (KeepBut.blk hk (g' := gb101) (o := .cells #[.string (⟨#[]⟩ : ByteArray), .int .i64 0, .int .i64 0] 46 (0, 0)) (by (with_reducible repeat (first | refine qh ?_ _ | refine qk ?_ | refine qi ?_ _)); exact BK101.out) NB101_0.out (by simp)); replace HK := Qz.mk (KeepBut.trans (by repeat (first | (with_reducible first | exact HK.out | apply KeepBut.set_ | apply ql | apply qn | apply qm | refine qt ?_ GW101.out _) | exact HK.out)) hk (.inl rfl)); replace HB := Qz.mk (hb); replace HI0 := Qz.mk (hi); (try clear hb); (try clear hk); (try clear hi)) | ((with_reducible refine gate_dst (N := 3) rfl ?_); refine box_event ?hg (N := 3) ?hd (cs := #[.string (⟨#[]⟩ : ByteArray), .int .i64 0, .int .i64 0]) (t := 46) ?hr ?_; (case hd => rfl); (case hg => rfl); (case hr => first | (go_simp; done) | (go_simp; rfl)); intro gb108 hg w27 hbox hb; replace HB := Qz.mk (qr (by repeat (first | (with_reducible first | exact HB.out | apply qc | apply qa | apply qb | refine qd ?_ (IsS116.ge HI0.out) | refine qd ?_ GE101.out) | exact HB.out)) hb); have BK108 := Qz.mk (hbox); have GW108 := Qz.mk ((by rw [hg]; exact (keep_size (w := w) (g := g) (row := none) (by repeat (first | (with_reducible first | exact HK.out | apply KeepBut.set_ | apply ql | apply qn | apply qm | refine qt ?_ GW101.out _) | exact HK.out))) : w.heap.size ≤ gb108)); have GE108 := Qz.mk ((Nat.le_trans HW0.out (by rw [hg]; exact (keep_size (w := w) (g := g) (row := none) (by repeat (first | (with_reducible first | exact HK.out | apply KeepBut.set_ | apply ql | apply qn | apply qm | refine qt ?_ GW101.out _) | exact HK.out))) : w.heap.size ≤ gb108) : w0.heap.size ≤ gb108)); replace HK := Qz.mk (KeepBut.trans (by repeat (first | (with_reducible first | exact HK.out | apply KeepBut.set_ | apply ql | apply qn | apply qm | refine qt ?_ GW101.out _) | exact HK.out)) (KeepBut.of_below hb g none) (.inl rfl)); have NB101_108 := Qz.mk ((by rw [hg]; exact Nat.ne_of_lt (blk_lt (g := gb101) (o := .cells #[.string (⟨#[]⟩ : ByteArray), .int .i64 0, .int .i64 0] 46 (0, 0)) (by (with_reducible repeat (first | refine qh ?_ _ | refine qk ?_ | refine qi ?_ _)); exact BK101.out)) : gb101 ≠ gb108)); have NB108_101 := Qz.mk ((by rw [hg]; exact Nat.ne_of_gt (blk_lt (g := gb101) (o := .cells #[.string (⟨#[]⟩ : ByteArray), .int .i64 0, .int .i64 0] 46 (0, 0)) (by (with_reducible repeat (first | refine qh ?_ _ | refine qk ?_ | refine qi ?_ _)); exact BK101.out)) : gb108 ≠ gb101)); replace BK101 := Qz.mk (qx (g := gb101) (o := .cells #[.string (⟨#[]⟩ : ByteArray), .int .i64 0, .int .i64 0] 46 (0, 0)) (by (with_reducible repeat (first | refine qh ?_ _ | refine qk ?_ | refine qi ?_ _)); exact BK101.out) hb); have NB0_108 := Qz.mk ((by rw [hg]; exact Nat.ne_of_lt (IsS116.lt (show IsS116 w0 _ g s0_0 t107 from by repeat (first | (with_reducible first | exact HI0.out | apply IsS116.alloc | apply IsS116.drewN | apply IsS116.drew | apply IsS116.set_1 | apply (fun h_ => IsS116.far h_ NB0_101.out _)) | exact HI0.out))) : g ≠ gb108)); have NB108_0 := Qz.mk ((by rw [hg]; exact Nat.ne_of_gt (IsS116.lt (show IsS116 w0 _ g s0_0 t107 from by repeat (first | (with_reducible first | exact HI0.out | apply IsS116.alloc | apply IsS116.drewN | apply IsS116.drew | apply IsS116.set_1 | apply (fun h_ => IsS116.far h_ NB0_101.out _)) | exact HI0.out))) : gb108 ≠ g)); replace HI0 := Qz.mk (IsS116.below (by repeat (first | (with_reducible first | exact HI0.out | apply IsS116.alloc | apply IsS116.drewN | apply IsS116.drew | apply IsS116.set_1 | apply (fun h_ => IsS116.far h_ NB0_101.out _)) | exact HI0.out)) hb); clear hb hbox hg; have hnb28 := NB108_101.out; have hnc28 := NB101_108.out; have hnb29 := NB108_0.out; have hnc29 := NB0_108.out; have hcz30_0 : w27.cell? ⟨gb108, 0, none⟩ = some (.string (⟨#[]⟩ : ByteArray)) := (qe BK108.out 0).trans rfl; have hcz30_1 : w27.cell? ⟨gb108, 1, none⟩ = some (.int .i64 0) := (qe BK108.out 1).trans rfl; have hcz30_2 : w27.cell? ⟨gb108, 2, none⟩ = some (.int .i64 0) := (qe BK108.out 2).trans rfl; have hfz30_0 := qf BK108.out 0; have hfz30_1 := qf BK108.out 1; have hfz30_2 := qf BK108.out 2) | ((with_reducible refine qq (f := 98) rfl ?_); refine qu (some 12) rfl rfl Try.func98 (by kernel_rfl) rfl #[.pointer (some ⟨g, 0, none⟩), .int .i64 24] rfl (by (try simp only [List.map_toArray, List.map_cons, List.map_nil]); first | done | rfl) ?_; (with_reducible refine (spec_l1Rd_below.calls g s0_0 t107 24 t109 t110 w0 _ ?side1 ?side2 A5.out).mono ?_); (case side1 => repeat (first | (with_reducible first | exact HI0.out | apply IsS116.alloc | apply IsS116.drewN | apply IsS116.drew | apply IsS116.set_1 | apply (fun h_ => IsS116.far h_ NB0_101.out _) | apply (fun h_ => IsS116.far h_ NB0_108.out _)) | exact HI0.out)); (case side2 => repeat (first | (with_reducible first | exact HB.out | apply qc | apply qa | apply qb | refine qd ?_ (IsS116.ge HI0.out) | refine qd ?_ GE101.out | refine qd ?_ GE108.out) | exact HB.out)); rintro e w31 ⟨rfl, hi, hb, hk⟩; refine ⟨_, rfl, ?_⟩; replace BK101 := Qz.mk (KeepBut.blk hk (g' := gb101) (o := .cells #[.string (⟨#[]⟩ : ByteArray), .int .i64 0, .int .i64 0] 46 (0, 0)) (by (with_reducible repeat (first | refine qh ?_ _ | refine qk ?_ | refine qi ?_ _)); refine blk_far ?_ NB101_108.out _; (with_reducible repeat (first | refine qh ?_ _ | refine qk ?_ | refine qi ?_ _)); refine blk_far ?_ NB101_108.out _; (with_reducible repeat (first | refine qh ?_ _ | refine qk ?_ | refine qi ?_ _)); refine blk_far ?_ NB101_108.out _; (with_reducible repeat (first | refine qh ?_ _ | refine qk ?_ | refine qi ?_ _)); exact BK101.out) NB101_0.out (by simp)); replace BK108 := Qz.mk (KeepBut.blk hk (g' := gb108) (o := .cells #[.string t102, .int .i64 t104, .int .i64 t106] 46 (0, 0)) (by (with_reducible repeat (first | refine qh ?_ _ | refine qk ?_ | refine qi ?_ _)); refine blk_put (cs := #[.string t102, .int .i64 t104, .int .i64 0]) ?_ 2 _ rfl; (with_reducible repeat (first | refine qh ?_ _ | refine qk ?_ | refine qi ?_ _)); refine blk_put (cs := #[.string t102, .int .i64 0, .int .i64 0]) ?_ 1 _ rfl; (with_reducible repeat (first | refine qh ?_ _ | refine qk ?_ | refine qi ?_ _)); refine blk_put (cs := #[.string (⟨#[]⟩ : ByteArray), .int .i64 0, .int .i64 0]) ?_ 0 _ rfl; (with_reducible repeat (first | refine qh ?_ _ | refine qk ?_ | refine qi ?_ _)); exact BK108.out) NB108_0.out (by simp)); replace HK := Qz.mk (KeepBut.trans (by repeat (first | (with_reducible first | exact HK.out | apply KeepBut.set_ | apply ql | apply qn | apply qm | refine qt ?_ GW101.out _ | refine qt ?_ GW108.out _) | exact HK.out)) hk (.inl rfl)); replace HB := Qz.mk (hb); replace HI0 := Qz.mk (hi); (try clear hb); (try clear hk); (try clear hi)) | ((with_reducible refine qq (f := 72) rfl ?_); refine qu (some 21) rfl rfl Try.func72 (by kernel_rfl) rfl #[.pointer (some ⟨g, 0, none⟩), .int .i64 0, .int .i64 1] rfl (by (try simp only [List.map_toArray, List.map_cons, List.map_nil]); first | done | rfl) ?_; (with_reducible refine (spec_l1Rd_off.calls k g s0_0 t110 0 1 t113 t114 w0 _ ?side1 ?side2 A22.out).mono ?_); (case side1 => repeat (first | (with_reducible first | exact HI0.out | apply IsS116.alloc | apply IsS116.drewN | apply IsS116.drew | apply IsS116.set_1 | apply (fun h_ => IsS116.far h_ NB0_101.out _) | apply (fun h_ => IsS116.far h_ NB0_108.out _)) | exact HI0.out)); (case side2 => repeat (first | (with_reducible first | exact HB.out | apply qc | apply qa | apply qb | refine qd ?_ (IsS116.ge HI0.out) | refine qd ?_ GE101.out | refine qd ?_ GE108.out) | exact HB.out)); rintro e w32 ⟨rfl, hi, hb, hk⟩; refine ⟨_, rfl, ?_⟩; replace BK101 := Qz.mk (KeepBut.blk hk (g' := gb101) (o := .cells #[.string (⟨#[]⟩ : ByteArray), .int .i64 0, .int .i64 0] 46 (0, 0)) (by (with_reducible repeat (first | refine qh ?_ _ | refine qk ?_ | refine qi ?_ _)); exact BK101.out) NB101_0.out (by simp)); replace BK108 := Qz.mk (KeepBut.blk hk (g' := gb108) (o := .cells #[.string t102, .int .i64 t104, .int .i64 t106] 46 (0, 0)) (by (with_reducible repeat (first | refine qh ?_ _ | refine qk ?_ | refine qi ?_ _)); exact BK108.out) NB108_0.out (by simp)); replace HK := Qz.mk (KeepBut.trans (by repeat (first | (with_reducible first | exact HK.out | apply KeepBut.set_ | apply ql | apply qn | apply qm | refine qt ?_ GW101.out _ | refine qt ?_ GW108.out _) | exact HK.out)) hk (.inl rfl)); replace HB := Qz.mk (hb); replace HI0 := Qz.mk (hi); (try clear hb); (try clear hk); (try clear hi); have hcz33_0 : w32.cell? ⟨gb108, 0, none⟩ = some (.string t102) := (qe BK108.out 0).trans rfl; have hcz33_1 : w32.cell? ⟨gb108, 1, none⟩ = some (.int .i64 t104) := (qe BK108.out 1).trans rfl; have hcz33_2 : w32.cell? ⟨gb108, 2, none⟩ = some (.int .i64 t106) := (qe BK108.out 2).trans rfl; have hfz33_0 := qf BK108.out 0; have hfz33_1 := qf BK108.out 1; have hfz33_2 := qf BK108.out 2; have hnb34 := NB101_0.out; have hnc34 := NB0_101.out; have hcz35_0 : w32.cell? ⟨gb101, 0, none⟩ = some (.string (⟨#[]⟩ : ByteArray)) := (qe BK101.out 0).trans rfl; have hcz35_1 : w32.cell? ⟨gb101, 1, none⟩ = some (.int .i64 0) := (qe BK101.out 1).trans rfl; have hcz35_2 : w32.cell? ⟨gb101, 2, none⟩ = some (.int .i64 0) := (qe BK101.out 2).trans rfl; have hfz35_0 := qf BK101.out 0; have hfz35_1 := qf BK101.out 1; have hfz35_2 := qf BK101.out 2))
   refine bodyPost_ret (results_cell_row rfl _ _ gb101 46 #[.string t102, .int .i64 t104, .int .i64 t113] (0, 0) _ rfl (by (with_reducible repeat (first | refine qh ?_ _ | refine qk ?_ | refine qi ?_ _)); refine blk_put (cs := #[.string t102, .int .i64 t104, .int .i64 0]) ?_ 2 _ rfl; (with_reducible repeat (first | refine qh ?_ _ | refine qk ?_ | refine qi ?_ _)); refine blk_put (cs := #[.string t102, .int .i64 0, .int .i64 0]) ?_ 1 _ rfl; (with_reducible repeat (first | refine qh ?_ _ | refine qk ?_ | refine qi ?_ _)); refine blk_put (cs := #[.string (⟨#[]⟩ : ByteArray), .int .i64 0, .int .i64 0]) ?_ 0 _ rfl; (with_reducible repeat (first | refine qh ?_ _ | refine qk ?_ | refine qi ?_ _)); refine blk_far ?_ NB101_108.out _; (with_reducible repeat (first | refine qh ?_ _ | refine qk ?_ | refine qi ?_ _)); exact BK101.out) Try.underlying46 rfl (by kernel_rfl)) rfl ?_
   exact ⟨by first | rfl | (simp [qp, qo] <;> rfl) | (simp [*, qp, qo] <;> rfl), by repeat (first | (with_reducible first | exact HI0.out | apply IsS116.alloc | apply IsS116.drewN | apply IsS116.drew | apply IsS116.set_1 | apply (fun h_ => IsS116.far h_ NB0_101.out _) | apply (fun h_ => IsS116.far h_ NB0_108.out _)) | exact HI0.out), by repeat (first | (with_reducible first | exact HB.out | apply qc | apply qa | apply qb | refine qd ?_ (IsS116.ge HI0.out) | refine qd ?_ GE101.out | refine qd ?_ GE108.out) | exact HB.out), by repeat (first | (with_reducible first | exact HK.out | apply KeepBut.set_ | apply ql | apply qn | apply qm | refine qt ?_ GW101.out _ | refine qt ?_ GW108.out _) | exact HK.out)⟩
  ·rw [if_neg c21] at H
   have c21b0 : (t109 == 1) = false := beq_eq_false_iff_ne.mpr c21
   have c21b1 : (t109 != 1) = true := bne_iff_ne.mpr c21
   by_cases c36 : t109 = 2
   ·rw [if_pos c36] at H
    have c36b0 : (t109 == 2) = true := beq_iff_eq.mpr c36
    have c36b1 : (t109 != 2) = false := bne_eq_false_iff_eq.mpr c36
    clear c36
    replace H := Option.bind_eq_some_iff.mp H
    obtain ⟨⟨t115, t116⟩, A370, H⟩ := H
    replace H : (some (t115, t104, t106, t116)) = some (r1, r2, r3, r4) := H
    have A37 := Qz.mk A370
    clear A370
    simp only [Option.some.injEq, Prod.mk.injEq] at H
    obtain ⟨rfl, rfl, rfl, rfl⟩ := H
    go_enter Try.func106, Try.ntmps106
    go_wp2_with (first | ((with_reducible refine gate_dst (N := 2) rfl ?_); refine box_event ?hg (N := 2) ?hd (cs := #[.string (⟨#[]⟩ : ByteArray), .int .i64 0, .int .i64 0]) (t := 46) ?hr ?_; (case hd => rfl); (case hg => rfl); (case hr => first | (go_simp; done) | (go_simp; rfl)); intro gb101 hg w38 hbox hb; replace HB := Qz.mk (qr (by repeat (first | (with_reducible first | exact HB.out | apply qc | apply qa | apply qb | refine qd ?_ (IsS116.ge HI0.out)) | exact HB.out)) hb); have BK101 := Qz.mk (hbox); have GW101 := Qz.mk ((by rw [hg]; exact (keep_size (w := w) (g := g) (row := none) (by repeat (first | (with_reducible first | exact HK.out | apply KeepBut.set_ | apply ql | apply qn | apply qm) | exact HK.out))) : w.heap.size ≤ gb101)); have GE101 := Qz.mk ((Nat.le_trans HW0.out (by rw [hg]; exact (keep_size (w := w) (g := g) (row := none) (by repeat (first | (with_reducible first | exact HK.out | apply KeepBut.set_ | apply ql | apply qn | apply qm) | exact HK.out))) : w.heap.size ≤ gb101) : w0.heap.size ≤ gb101)); replace HK := Qz.mk (KeepBut.trans (by repeat (first | (with_reducible first | exact HK.out | apply KeepBut.set_ | apply ql | apply qn | apply qm) | exact HK.out)) (KeepBut.of_below hb g none) (.inl rfl)); have NB0_101 := Qz.mk ((by rw [hg]; exact Nat.ne_of_lt (IsS116.lt (show IsS116 w0 _ g s0_0 s0_1 from by repeat (first | (with_reducible first | exact HI0.out | apply IsS116.alloc | apply IsS116.drewN | apply IsS116.drew | apply IsS116.set_1) | exact HI0.out))) : g ≠ gb101)); have NB101_0 := Qz.mk ((by rw [hg]; exact Nat.ne_of_gt (IsS116.lt (show IsS116 w0 _ g s0_0 s0_1 from by repeat (first | (with_reducible first | exact HI0.out | apply IsS116.alloc | apply IsS116.drewN | apply IsS116.drew | apply IsS116.set_1) | exact HI0.out))) : gb101 ≠ g)); replace HI0 := Qz.mk (IsS116.below (by repeat (first | (with_reducible first | exact HI0.out | apply IsS116.alloc | apply IsS116.drewN | apply IsS116.drew | apply IsS116.set_1) | exact HI0.out)) hb); clear hb hbox hg) | ((with_reducible refine qq (f := 87) rfl ?_); refine qu (some 5) rfl rfl Try.func87 (by kernel_rfl) rfl #[.pointer (some ⟨g, 0, none⟩)] rfl (by (try simp only [List.map_toArray, List.map_cons, List.map_nil]); first | done | rfl) ?_; (with_reducible refine (spec_l1Rd_user.calls g s0_0 s0_1 t102 t103 w0 _ ?side1 ?side2 A2.out).mono ?_); (case side1 => repeat (first | (with_reducible first | exact HI0.out | apply IsS116.alloc | apply IsS116.drewN | apply IsS116.drew | apply IsS116.set_1 | apply (fun h_ => IsS116.far h_ NB0_101.out _)) | exact HI0.out)); (case side2 => repeat (first | (with_reducible first | exact HB.out | apply qc | apply qa | apply qb | refine qd ?_ (IsS116.ge HI0.out) | refine qd ?_ GE101.out) | exact HB.out)); rintro e w39 ⟨rfl, hi, hb, hk⟩; refine ⟨_, rfl, ?_⟩; replace BK101 := Qz.mk (KeepBut.blk hk (g' := gb101) (o := .cells #[.string (⟨#[]⟩ : ByteArray), .int .i64 0, .int .i64 0] 46 (0, 0)) (by (with_reducible repeat (first | refine qh ?_ _ | refine qk ?_ | refine qi ?_ _)); exact BK101.out) NB101_0.out (by simp)); replace HK := Qz.mk (KeepBut.trans (by repeat (first | (with_reducible first | exact HK.out | apply KeepBut.set_ | apply ql | apply qn | apply qm | refine qt ?_ GW101.out _) | exact HK.out)) hk (.inl rfl)); replace HB := Qz.mk (hb); replace HI0 := Qz.mk (hi); (try clear hb); (try clear hk); (try clear hi)) | ((with_reducible refine qq (f := 101) rfl ?_); refine qu (some 7) rfl rfl Try.func101 (by kernel_rfl) rfl #[.pointer (some ⟨g, 0, none⟩), .int .i64 0, .int .i64 12] rfl (by (try simp only [List.map_toArray, List.map_cons, List.map_nil]); first | done | rfl) ?_; (with_reducible refine (spec_l1Rd_near.calls k g s0_0 t103 0 12 t104 t105 w0 _ ?side1 ?side2 A3.out).mono ?_); (case side1 => repeat (first | (with_reducible first | exact HI0.out | apply IsS116.alloc | apply IsS116.drewN | apply IsS116.drew | apply IsS116.set_1 | apply (fun h_ => IsS116.far h_ NB0_101.out _)) | exact HI0.out)); (case side2 => repeat (first | (with_reducible first | exact HB.out | apply qc | apply qa | apply qb | refine qd ?_ (IsS116.ge HI0.out) | refine qd ?_ GE101.out) | exact HB.out)); rintro e w40 ⟨rfl, hi, hb, hk⟩; refine ⟨_, rfl, ?_⟩; replace BK101 := Qz.mk (KeepBut.blk hk (g' := gb101) (o := .cells #[.string (⟨#[]⟩ : ByteArray), .int .i64 0, .int .i64 0] 46 (0, 0)) (by (with_reducible repeat (first | refine qh ?_ _ | refine qk ?_ | refine qi ?_ _)); exact BK101.out) NB101_0.out (by simp)); replace HK := Qz.mk (KeepBut.trans (by repeat (first | (with_reducible first | exact HK.out | apply KeepBut.set_ | apply ql | apply qn | apply qm | refine qt ?_ GW101.out _) | exact HK.out)) hk (.inl rfl)); replace HB := Qz.mk (hb); replace HI0 := Qz.mk (hi); (try clear hb); (try clear hk); (try clear hi)) | ((with_reducible refine qq (f := 98) rfl ?_); refine qu (some 9) rfl rfl Try.func98 (by kernel_rfl) rfl #[.pointer (some ⟨g, 0, none⟩), .int .i64 2] rfl (by (try simp only [List.map_toArray, List.map_cons, List.map_nil]); first | done | rfl) ?_; (with_reducible refine (spec_l1Rd_below.calls g s0_0 t105 2 t106 t107 w0 _ ?side1 ?side2 A4.out).mono ?_); (case side1 => repeat (first | (with_reducible first | exact HI0.out | apply IsS116.alloc | apply IsS116.drewN | apply IsS116.drew | apply IsS116.set_1 | apply (fun h_ => IsS116.far h_ NB0_101.out _)) | exact HI0.out)); (case side2 => repeat (first | (with_reducible first | exact HB.out | apply qc | apply qa | apply qb | refine qd ?_ (IsS116.ge HI0.out) | refine qd ?_ GE101.out) | exact HB.out)); rintro e w41 ⟨rfl, hi, hb, hk⟩; refine ⟨_, rfl, ?_⟩; replace BK101 := Qz.mk (KeepBut.blk hk (g' := gb101) (o := .cells #[.string (⟨#[]⟩ : ByteArray), .int .i64 0, .int .i64 0] 46 (0, 0)) (by (with_reducible repeat (first | refine qh ?_ _ | refine qk ?_ | refine qi ?_ _)); exact BK101.out) NB101_0.out (by simp)); replace HK := Qz.mk (KeepBut.trans (by repeat (first | (with_reducible first | exact HK.out | apply KeepBut.set_ | apply ql | apply qn | apply qm | refine qt ?_ GW101.out _) | exact HK.out)) hk (.inl rfl)); replace HB := Qz.mk (hb); replace HI0 := Qz.mk (hi); (try clear hb); (try clear hk); (try clear hi)) | ((with_reducible refine gate_dst (N := 3) rfl ?_); refine box_event ?hg (N := 3) ?hd (cs := #[.string (⟨#[]⟩ : ByteArray), .int .i64 0, .int .i64 0]) (t := 46) ?hr ?_; (case hd => rfl); (case hg => rfl); (case hr => first | (go_simp; done) | (go_simp; rfl)); intro gb108 hg w42 hbox hb; replace HB := Qz.mk (qr (by repeat (first | (with_reducible first | exact HB.out | apply qc | apply qa | apply qb | refine qd ?_ (IsS116.ge HI0.out) | refine qd ?_ GE101.out) | exact HB.out)) hb); have BK108 := Qz.mk (hbox); have GW108 := Qz.mk ((by rw [hg]; exact (keep_size (w := w) (g := g) (row := none) (by repeat (first | (with_reducible first | exact HK.out | apply KeepBut.set_ | apply ql | apply qn | apply qm | refine qt ?_ GW101.out _) | exact HK.out))) : w.heap.size ≤ gb108)); have GE108 := Qz.mk ((Nat.le_trans HW0.out (by rw [hg]; exact (keep_size (w := w) (g := g) (row := none) (by repeat (first | (with_reducible first | exact HK.out | apply KeepBut.set_ | apply ql | apply qn | apply qm | refine qt ?_ GW101.out _) | exact HK.out))) : w.heap.size ≤ gb108) : w0.heap.size ≤ gb108)); replace HK := Qz.mk (KeepBut.trans (by repeat (first | (with_reducible first | exact HK.out | apply KeepBut.set_ | apply ql | apply qn | apply qm | refine qt ?_ GW101.out _) | exact HK.out)) (KeepBut.of_below hb g none) (.inl rfl)); have NB101_108 := Qz.mk ((by rw [hg]; exact Nat.ne_of_lt (blk_lt (g := gb101) (o := .cells #[.string (⟨#[]⟩ : ByteArray), .int .i64 0, .int .i64 0] 46 (0, 0)) (by (with_reducible repeat (first | refine qh ?_ _ | refine qk ?_ | refine qi ?_ _)); exact BK101.out)) : gb101 ≠ gb108)); have NB108_101 := Qz.mk ((by rw [hg]; exact Nat.ne_of_gt (blk_lt (g := gb101) (o := .cells #[.string (⟨#[]⟩ : ByteArray), .int .i64 0, .int .i64 0] 46 (0, 0)) (by (with_reducible repeat (first | refine qh ?_ _ | refine qk ?_ | refine qi ?_ _)); exact BK101.out)) : gb108 ≠ gb101)); replace BK101 := Qz.mk (qx (g := gb101) (o := .cells #[.string (⟨#[]⟩ : ByteArray), .int .i64 0, .int .i64 0] 46 (0, 0)) (by (with_reducible repeat (first | refine qh ?_ _ | refine qk ?_ | refine qi ?_ _)); exact BK101.out) hb); have NB0_108 := Qz.mk ((by rw [hg]; exact Nat.ne_of_lt (IsS116.lt (show IsS116 w0 _ g s0_0 t107 from by repeat (first | (with_reducible first | exact HI0.out | apply IsS116.alloc | apply IsS116.drewN | apply IsS116.drew | apply IsS116.set_1 | apply (fun h_ => IsS116.far h_ NB0_101.out _)) | exact HI0.out))) : g ≠ gb108)); have NB108_0 := Qz.mk ((by rw [hg]; exact Nat.ne_of_gt (IsS116.lt (show IsS116 w0 _ g s0_0 t107 from by repeat (first | (with_reducible first | exact HI0.out | apply IsS116.alloc | apply IsS116.drewN | apply IsS116.drew | apply IsS116.set_1 | apply (fun h_ => IsS116.far h_ NB0_101.out _)) | exact HI0.out))) : gb108 ≠ g)); replace HI0 := Qz.mk (IsS116.below (by repeat (first | (with_reducible first | exact HI0.out | apply IsS116.alloc | apply IsS116.drewN | apply IsS116.drew | apply IsS116.set_1 | apply (fun h_ => IsS116.far h_ NB0_101.out _)) | exact HI0.out)) hb); clear hb hbox hg; have hnb43 := NB108_101.out; have hnc43 := NB101_108.out; have hnb44 := NB108_0.out; have hnc44 := NB0_108.out; have hcz45_0 : w42.cell? ⟨gb108, 0, none⟩ = some (.string (⟨#[]⟩ : ByteArray)) := (qe BK108.out 0).trans rfl; have hcz45_1 : w42.cell? ⟨gb108, 1, none⟩ = some (.int .i64 0) := (qe BK108.out 1).trans rfl; have hcz45_2 : w42.cell? ⟨gb108, 2, none⟩ = some (.int .i64 0) := (qe BK108.out 2).trans rfl; have hfz45_0 := qf BK108.out 0; have hfz45_1 := qf BK108.out 1; have hfz45_2 := qf BK108.out 2) | ((with_reducible refine qq (f := 98) rfl ?_); refine qu (some 12) rfl rfl Try.func98 (by kernel_rfl) rfl #[.pointer (some ⟨g, 0, none⟩), .int .i64 24] rfl (by (try simp only [List.map_toArray, List.map_cons, List.map_nil]); first | done | rfl) ?_; (with_reducible refine (spec_l1Rd_below.calls g s0_0 t107 24 t109 t110 w0 _ ?side1 ?side2 A5.out).mono ?_); (case side1 => repeat (first | (with_reducible first | exact HI0.out | apply IsS116.alloc | apply IsS116.drewN | apply IsS116.drew | apply IsS116.set_1 | apply (fun h_ => IsS116.far h_ NB0_101.out _) | apply (fun h_ => IsS116.far h_ NB0_108.out _)) | exact HI0.out)); (case side2 => repeat (first | (with_reducible first | exact HB.out | apply qc | apply qa | apply qb | refine qd ?_ (IsS116.ge HI0.out) | refine qd ?_ GE101.out | refine qd ?_ GE108.out) | exact HB.out)); rintro e w46 ⟨rfl, hi, hb, hk⟩; refine ⟨_, rfl, ?_⟩; replace BK101 := Qz.mk (KeepBut.blk hk (g' := gb101) (o := .cells #[.string (⟨#[]⟩ : ByteArray), .int .i64 0, .int .i64 0] 46 (0, 0)) (by (with_reducible repeat (first | refine qh ?_ _ | refine qk ?_ | refine qi ?_ _)); refine blk_far ?_ NB101_108.out _; (with_reducible repeat (first | refine qh ?_ _ | refine qk ?_ | refine qi ?_ _)); refine blk_far ?_ NB101_108.out _; (with_reducible repeat (first | refine qh ?_ _ | refine qk ?_ | refine qi ?_ _)); refine blk_far ?_ NB101_108.out _; (with_reducible repeat (first | refine qh ?_ _ | refine qk ?_ | refine qi ?_ _)); exact BK101.out) NB101_0.out (by simp)); replace BK108 := Qz.mk (KeepBut.blk hk (g' := gb108) (o := .cells #[.string t102, .int .i64 t104, .int .i64 t106] 46 (0, 0)) (by (with_reducible repeat (first | refine qh ?_ _ | refine qk ?_ | refine qi ?_ _)); refine blk_put (cs := #[.string t102, .int .i64 t104, .int .i64 0]) ?_ 2 _ rfl; (with_reducible repeat (first | refine qh ?_ _ | refine qk ?_ | refine qi ?_ _)); refine blk_put (cs := #[.string t102, .int .i64 0, .int .i64 0]) ?_ 1 _ rfl; (with_reducible repeat (first | refine qh ?_ _ | refine qk ?_ | refine qi ?_ _)); refine blk_put (cs := #[.string (⟨#[]⟩ : ByteArray), .int .i64 0, .int .i64 0]) ?_ 0 _ rfl; (with_reducible repeat (first | refine qh ?_ _ | refine qk ?_ | refine qi ?_ _)); exact BK108.out) NB108_0.out (by simp)); replace HK := Qz.mk (KeepBut.trans (by repeat (first | (with_reducible first | exact HK.out | apply KeepBut.set_ | apply ql | apply qn | apply qm | refine qt ?_ GW101.out _ | refine qt ?_ GW108.out _) | exact HK.out)) hk (.inl rfl)); replace HB := Qz.mk (hb); replace HI0 := Qz.mk (hi); (try clear hb); (try clear hk); (try clear hi)) | ((with_reducible refine qq (f := 121) rfl ?_); refine qu (some 26) rfl rfl Try.func121 (by kernel_rfl) rfl #[.pointer (some ⟨g, 0, none⟩), .int .i64 45] rfl (by (try simp only [List.map_toArray, List.map_cons, List.map_nil]); first | done | rfl) ?_; (with_reducible refine (spec_l1Rd_bytes.calls k g s0_0 t110 45 t115 t116 w0 _ ?side1 ?side2 A37.out).mono ?_); (case side1 => repeat (first | (with_reducible first | exact HI0.out | apply IsS116.alloc | apply IsS116.drewN | apply IsS116.drew | apply IsS116.set_1 | apply (fun h_ => IsS116.far h_ NB0_101.out _) | apply (fun h_ => IsS116.far h_ NB0_108.out _)) | exact HI0.out)); (case side2 => repeat (first | (with_reducible first | exact HB.out | apply qc | apply qa | apply qb | refine qd ?_ (IsS116.ge HI0.out) | refine qd ?_ GE101.out | refine qd ?_ GE108.out) | exact HB.out)); rintro e w47 ⟨rfl, hi, hb, hk⟩; refine ⟨_, rfl, ?_⟩; replace BK101 := Qz.mk (KeepBut.blk hk (g' := gb101) (o := .cells #[.string (⟨#[]⟩ : ByteArray), .int .i64 0, .int .i64 0] 46 (0, 0)) (by (with_reducible repeat (first | refine qh ?_ _ | refine qk ?_ | refine qi ?_ _)); exact BK101.out) NB101_0.out (by simp)); replace BK108 := Qz.mk (KeepBut.blk hk (g' := gb108) (o := .cells #[.string t102, .int .i64 t104, .int .i64 t106] 46 (0, 0)) (by (with_reducible repeat (first | refine qh ?_ _ | refine qk ?_ | refine qi ?_ _)); exact BK108.out) NB108_0.out (by simp)); replace HK := Qz.mk (KeepBut.trans (by repeat (first | (with_reducible first | exact HK.out | apply KeepBut.set_ | apply ql | apply qn | apply qm | refine qt ?_ GW101.out _ | refine qt ?_ GW108.out _) | exact HK.out)) hk (.inl rfl)); replace HB := Qz.mk (hb); replace HI0 := Qz.mk (hi); (try clear hb); (try clear hk); (try clear hi); have hcz48_0 : w47.cell? ⟨gb108, 0, none⟩ = some (.string t102) := (qe BK108.out 0).trans rfl; have hcz48_1 : w47.cell? ⟨gb108, 1, none⟩ = some (.int .i64 t104) := (qe BK108.out 1).trans rfl; have hcz48_2 : w47.cell? ⟨gb108, 2, none⟩ = some (.int .i64 t106) := (qe BK108.out 2).trans rfl; have hfz48_0 := qf BK108.out 0; have hfz48_1 := qf BK108.out 1; have hfz48_2 := qf BK108.out 2; have hnb49 := NB101_0.out; have hnc49 := NB0_101.out; have hcz50_0 : w47.cell? ⟨gb101, 0, none⟩ = some (.string (⟨#[]⟩ : ByteArray)) := (qe BK101.out 0).trans rfl; have hcz50_1 : w47.cell? ⟨gb101, 1, none⟩ = some (.int .i64 0) := (qe BK101.out 1).trans rfl; have hcz50_2 : w47.cell? ⟨gb101, 2, none⟩ = some (.int .i64 0) := (qe BK101.out 2).trans rfl; have hfz50_0 := qf BK101.out 0; have hfz50_1 := qf BK101.out 1; have hfz50_2 := qf BK101.out 2))
    refine bodyPost_ret (results_cell_row rfl _ _ gb101 46 #[.string t115, .int .i64 t104, .int .i64 t106] (0, 0) _ rfl (by (with_reducible repeat (first | refine qh ?_ _ | refine qk ?_ | refine qi ?_ _)); refine blk_put (cs := #[.string t115, .int .i64 t104, .int .i64 0]) ?_ 2 _ rfl; (with_reducible repeat (first | refine qh ?_ _ | refine qk ?_ | refine qi ?_ _)); refine blk_put (cs := #[.string t115, .int .i64 0, .int .i64 0]) ?_ 1 _ rfl; (with_reducible repeat (first | refine qh ?_ _ | refine qk ?_ | refine qi ?_ _)); refine blk_put (cs := #[.string (⟨#[]⟩ : ByteArray), .int .i64 0, .int .i64 0]) ?_ 0 _ rfl; (with_reducible repeat (first | refine qh ?_ _ | refine qk ?_ | refine qi ?_ _)); refine blk_far ?_ NB101_108.out _; (with_reducible repeat (first | refine qh ?_ _ | refine qk ?_ | refine qi ?_ _)); exact BK101.out) Try.underlying46 rfl (by kernel_rfl)) rfl ?_
    exact ⟨by first | rfl | (simp [qp, qo] <;> rfl) | (simp [*, qp, qo] <;> rfl), by repeat (first | (with_reducible first | exact HI0.out | apply IsS116.alloc | apply IsS116.drewN | apply IsS116.drew | apply IsS116.set_1 | apply (fun h_ => IsS116.far h_ NB0_101.out _) | apply (fun h_ => IsS116.far h_ NB0_108.out _)) | exact HI0.out), by repeat (first | (with_reducible first | exact HB.out | apply qc | apply qa | apply qb | refine qd ?_ (IsS116.ge HI0.out) | refine qd ?_ GE101.out | refine qd ?_ GE108.out) | exact HB.out), by repeat (first | (with_reducible first | exact HK.out | apply KeepBut.set_ | apply ql | apply qn | apply qm | refine qt ?_ GW101.out _ | refine qt ?_ GW108.out _) | exact HK.out)⟩
   ·rw [if_neg c36] at H
    have c36b0 : (t109 == 2) = false := beq_eq_false_iff_ne.mpr c36
    have c36b1 : (t109 != 2) = true := bne_iff_ne.mpr c36
    simp only [Option.some.injEq, Prod.mk.injEq] at H
    obtain ⟨rfl, rfl, rfl, rfl⟩ := H
    go_enter Try.func106, Try.ntmps106
    go_wp2_with (first | ((with_reducible refine gate_dst (N := 2) rfl ?_); refine box_event ?hg (N := 2) ?hd (cs := #[.string (⟨#[]⟩ : ByteArray), .int .i64 0, .int .i64 0]) (t := 46) ?hr ?_; (case hd => rfl); (case hg => rfl); (case hr => first | (go_simp; done) | (go_simp; rfl)); intro gb101 hg w51 hbox hb; replace HB := Qz.mk (qr (by repeat (first | (with_reducible first | exact HB.out | apply qc | apply qa | apply qb | refine qd ?_ (IsS116.ge HI0.out)) | exact HB.out)) hb); have BK101 := Qz.mk (hbox); have GW101 := Qz.mk ((by rw [hg]; exact (keep_size (w := w) (g := g) (row := none) (by repeat (first | (with_reducible first | exact HK.out | apply KeepBut.set_ | apply ql | apply qn | apply qm) | exact HK.out))) : w.heap.size ≤ gb101)); have GE101 := Qz.mk ((Nat.le_trans HW0.out (by rw [hg]; exact (keep_size (w := w) (g := g) (row := none) (by repeat (first | (with_reducible first | exact HK.out | apply KeepBut.set_ | apply ql | apply qn | apply qm) | exact HK.out))) : w.heap.size ≤ gb101) : w0.heap.size ≤ gb101)); replace HK := Qz.mk (KeepBut.trans (by repeat (first | (with_reducible first | exact HK.out | apply KeepBut.set_ | apply ql | apply qn | apply qm) | exact HK.out)) (KeepBut.of_below hb g none) (.inl rfl)); have NB0_101 := Qz.mk ((by rw [hg]; exact Nat.ne_of_lt (IsS116.lt (show IsS116 w0 _ g s0_0 s0_1 from by repeat (first | (with_reducible first | exact HI0.out | apply IsS116.alloc | apply IsS116.drewN | apply IsS116.drew | apply IsS116.set_1) | exact HI0.out))) : g ≠ gb101)); have NB101_0 := Qz.mk ((by rw [hg]; exact Nat.ne_of_gt (IsS116.lt (show IsS116 w0 _ g s0_0 s0_1 from by repeat (first | (with_reducible first | exact HI0.out | apply IsS116.alloc | apply IsS116.drewN | apply IsS116.drew | apply IsS116.set_1) | exact HI0.out))) : gb101 ≠ g)); replace HI0 := Qz.mk (IsS116.below (by repeat (first | (with_reducible first | exact HI0.out | apply IsS116.alloc | apply IsS116.drewN | apply IsS116.drew | apply IsS116.set_1) | exact HI0.out)) hb); clear hb hbox hg) | ((with_reducible refine qq (f := 87) rfl ?_); refine qu (some 5) rfl rfl Try.func87 (by kernel_rfl) rfl #[.pointer (some ⟨g, 0, none⟩)] rfl (by (try simp only [List.map_toArray, List.map_cons, List.map_nil]); first | done | rfl) ?_; (with_reducible refine (spec_l1Rd_user.calls g s0_0 s0_1 t102 t103 w0 _ ?side1 ?side2 A2.out).mono ?_); (case side1 => repeat (first | (with_reducible first | exact HI0.out | apply IsS116.alloc | apply IsS116.drewN | apply IsS116.drew | apply IsS116.set_1 | apply (fun h_ => IsS116.far h_ NB0_101.out _)) | exact HI0.out)); (case side2 => repeat (first | (with_reducible first | exact HB.out | apply qc | apply qa | apply qb | refine qd ?_ (IsS116.ge HI0.out) | refine qd ?_ GE101.out) | exact HB.out)); rintro e w52 ⟨rfl, hi, hb, hk⟩; refine ⟨_, rfl, ?_⟩; replace BK101 := Qz.mk (KeepBut.blk hk (g' := gb101) (o := .cells #[.string (⟨#[]⟩ : ByteArray), .int .i64 0, .int .i64 0] 46 (0, 0)) (by (with_reducible repeat (first | refine qh ?_ _ | refine qk ?_ | refine qi ?_ _)); exact BK101.out) NB101_0.out (by simp)); replace HK := Qz.mk (KeepBut.trans (by repeat (first | (with_reducible first | exact HK.out | apply KeepBut.set_ | apply ql | apply qn | apply qm | refine qt ?_ GW101.out _) | exact HK.out)) hk (.inl rfl)); replace HB := Qz.mk (hb); replace HI0 := Qz.mk (hi); (try clear hb); (try clear hk); (try clear hi)) | ((with_reducible refine qq (f := 101) rfl ?_); refine qu (some 7) rfl rfl Try.func101 (by kernel_rfl) rfl #[.pointer (some ⟨g, 0, none⟩), .int .i64 0, .int .i64 12] rfl (by (try simp only [List.map_toArray, List.map_cons, List.map_nil]); first | done | rfl) ?_; (with_reducible refine (spec_l1Rd_near.calls k g s0_0 t103 0 12 t104 t105 w0 _ ?side1 ?side2 A3.out).mono ?_); (case side1 => repeat (first | (with_reducible first | exact HI0.out | apply IsS116.alloc | apply IsS116.drewN | apply IsS116.drew | apply IsS116.set_1 | apply (fun h_ => IsS116.far h_ NB0_101.out _)) | exact HI0.out)); (case side2 => repeat (first | (with_reducible first | exact HB.out | apply qc | apply qa | apply qb | refine qd ?_ (IsS116.ge HI0.out) | refine qd ?_ GE101.out) | exact HB.out)); rintro e w53 ⟨rfl, hi, hb, hk⟩; refine ⟨_, rfl, ?_⟩; replace BK101 := Qz.mk (KeepBut.blk hk (g' := gb101) (o := .cells #[.string (⟨#[]⟩ : ByteArray), .int .i64 0, .int .i64 0] 46 (0, 0)) (by (with_reducible repeat (first | refine qh ?_ _ | refine qk ?_ | refine qi ?_ _)); exact BK101.out) NB101_0.out (by simp)); replace HK := Qz.mk (KeepBut.trans (by repeat (first | (with_reducible first | exact HK.out | apply KeepBut.set_ | apply ql | apply qn | apply qm | refine qt ?_ GW101.out _) | exact HK.out)) hk (.inl rfl)); replace HB := Qz.mk (hb); replace HI0 := Qz.mk (hi); (try clear hb); (try clear hk); (try clear hi)) | ((with_reducible refine qq (f := 98) rfl ?_); refine qu (some 9) rfl rfl Try.func98 (by kernel_rfl) rfl #[.pointer (some ⟨g, 0, none⟩), .int .i64 2] rfl (by (try simp only [List.map_toArray, List.map_cons, List.map_nil]); first | done | rfl) ?_; (with_reducible refine (spec_l1Rd_below.calls g s0_0 t105 2 t106 t107 w0 _ ?side1 ?side2 A4.out).mono ?_); (case side1 => repeat (first | (with_reducible first | exact HI0.out | apply IsS116.alloc | apply IsS116.drewN | apply IsS116.drew | apply IsS116.set_1 | apply (fun h_ => IsS116.far h_ NB0_101.out _)) | exact HI0.out)); (case side2 => repeat (first | (with_reducible first | exact HB.out | apply qc | apply qa | apply qb | refine qd ?_ (IsS116.ge HI0.out) | refine qd ?_ GE101.out) | exact HB.out)); rintro e w54 ⟨rfl, hi, hb, hk⟩; refine ⟨_, rfl, ?_⟩; replace BK101 := Qz.mk (KeepBut.blk hk (g' := gb101) (o := .cells #[.string (⟨#[]⟩ : ByteArray), .int .i64 0, .int .i64 0] 46 (0, 0)) (by (with_reducible repeat (first | refine qh ?_ _ | refine qk ?_ | refine qi ?_ _)); exact BK101.out) NB101_0.out (by simp)); replace HK := Qz.mk (KeepBut.trans (by repeat (first | (with_reducible first | exact HK.out | apply KeepBut.set_ | apply ql | apply qn | apply qm | refine qt ?_ GW101.out _) | exact HK.out)) hk (.inl rfl)); replace HB := Qz.mk (hb); replace HI0 := Qz.mk (hi); (try clear hb); (try clear hk); (try clear hi)) | ((with_reducible refine gate_dst (N := 3) rfl ?_); refine box_event ?hg (N := 3) ?hd (cs := #[.string (⟨#[]⟩ : ByteArray), .int .i64 0, .int .i64 0]) (t := 46) ?hr ?_; (case hd => rfl); (case hg => rfl); (case hr => first | (go_simp; done) | (go_simp; rfl)); intro gb108 hg w55 hbox hb; replace HB := Qz.mk (qr (by repeat (first | (with_reducible first | exact HB.out | apply qc | apply qa | apply qb | refine qd ?_ (IsS116.ge HI0.out) | refine qd ?_ GE101.out) | exact HB.out)) hb); have BK108 := Qz.mk (hbox); have GW108 := Qz.mk ((by rw [hg]; exact (keep_size (w := w) (g := g) (row := none) (by repeat (first | (with_reducible first | exact HK.out | apply KeepBut.set_ | apply ql | apply qn | apply qm | refine qt ?_ GW101.out _) | exact HK.out))) : w.heap.size ≤ gb108)); have GE108 := Qz.mk ((Nat.le_trans HW0.out (by rw [hg]; exact (keep_size (w := w) (g := g) (row := none) (by repeat (first | (with_reducible first | exact HK.out | apply KeepBut.set_ | apply ql | apply qn | apply qm | refine qt ?_ GW101.out _) | exact HK.out))) : w.heap.size ≤ gb108) : w0.heap.size ≤ gb108)); replace HK := Qz.mk (KeepBut.trans (by repeat (first | (with_reducible first | exact HK.out | apply KeepBut.set_ | apply ql | apply qn | apply qm | refine qt ?_ GW101.out _) | exact HK.out)) (KeepBut.of_below hb g none) (.inl rfl)); have NB101_108 := Qz.mk ((by rw [hg]; exact Nat.ne_of_lt (blk_lt (g := gb101) (o := .cells #[.string (⟨#[]⟩ : ByteArray), .int .i64 0, .int .i64 0] 46 (0, 0)) (by (with_reducible repeat (first | refine qh ?_ _ | refine qk ?_ | refine qi ?_ _)); exact BK101.out)) : gb101 ≠ gb108)); have NB108_101 := Qz.mk ((by rw [hg]; exact Nat.ne_of_gt (blk_lt (g := gb101) (o := .cells #[.string (⟨#[]⟩ : ByteArray), .int .i64 0, .int .i64 0] 46 (0, 0)) (by (with_reducible repeat (first | refine qh ?_ _ | refine qk ?_ | refine qi ?_ _)); exact BK101.out)) : gb108 ≠ gb101)); replace BK101 := Qz.mk (qx (g := gb101) (o := .cells #[.string (⟨#[]⟩ : ByteArray), .int .i64 0, .int .i64 0] 46 (0, 0)) (by (with_reducible repeat (first | refine qh ?_ _ | refine qk ?_ | refine qi ?_ _)); exact BK101.out) hb); have NB0_108 := Qz.mk ((by rw [hg]; exact Nat.ne_of_lt (IsS116.lt (show IsS116 w0 _ g s0_0 t107 from by repeat (first | (with_reducible first | exact HI0.out | apply IsS116.alloc | apply IsS116.drewN | apply IsS116.drew | apply IsS116.set_1 | apply (fun h_ => IsS116.far h_ NB0_101.out _)) | exact HI0.out))) : g ≠ gb108)); have NB108_0 := Qz.mk ((by rw [hg]; exact Nat.ne_of_gt (IsS116.lt (show IsS116 w0 _ g s0_0 t107 from by repeat (first | (with_reducible first | exact HI0.out | apply IsS116.alloc | apply IsS116.drewN | apply IsS116.drew | apply IsS116.set_1 | apply (fun h_ => IsS116.far h_ NB0_101.out _)) | exact HI0.out))) : gb108 ≠ g)); replace HI0 := Qz.mk (IsS116.below (by repeat (first | (with_reducible first | exact HI0.out | apply IsS116.alloc | apply IsS116.drewN | apply IsS116.drew | apply IsS116.set_1 | apply (fun h_ => IsS116.far h_ NB0_101.out _)) | exact HI0.out)) hb); clear hb hbox hg; have hnb56 := NB108_101.out; have hnc56 := NB101_108.out; have hnb57 := NB108_0.out; have hnc57 := NB0_108.out; have hcz58_0 : w55.cell? ⟨gb108, 0, none⟩ = some (.string (⟨#[]⟩ : ByteArray)) := (qe BK108.out 0).trans rfl; have hcz58_1 : w55.cell? ⟨gb108, 1, none⟩ = some (.int .i64 0) := (qe BK108.out 1).trans rfl; have hcz58_2 : w55.cell? ⟨gb108, 2, none⟩ = some (.int .i64 0) := (qe BK108.out 2).trans rfl; have hfz58_0 := qf BK108.out 0; have hfz58_1 := qf BK108.out 1; have hfz58_2 := qf BK108.out 2) | ((with_reducible refine qq (f := 98) rfl ?_); refine qu (some 12) rfl rfl Try.func98 (by kernel_rfl) rfl #[.pointer (some ⟨g, 0, none⟩), .int .i64 24] rfl (by (try simp only [List.map_toArray, List.map_cons, List.map_nil]); first | done | rfl) ?_; (with_reducible refine (spec_l1Rd_below.calls g s0_0 t107 24 t109 t110 w0 _ ?side1 ?side2 A5.out).mono ?_); (case side1 => repeat (first | (with_reducible first | exact HI0.out | apply IsS116.alloc | apply IsS116.drewN | apply IsS116.drew | apply IsS116.set_1 | apply (fun h_ => IsS116.far h_ NB0_101.out _) | apply (fun h_ => IsS116.far h_ NB0_108.out _)) | exact HI0.out)); (case side2 => repeat (first | (with_reducible first | exact HB.out | apply qc | apply qa | apply qb | refine qd ?_ (IsS116.ge HI0.out) | refine qd ?_ GE101.out | refine qd ?_ GE108.out) | exact HB.out)); rintro e w59 ⟨rfl, hi, hb, hk⟩; refine ⟨_, rfl, ?_⟩; replace BK101 := Qz.mk (KeepBut.blk hk (g' := gb101) (o := .cells #[.string (⟨#[]⟩ : ByteArray), .int .i64 0, .int .i64 0] 46 (0, 0)) (by (with_reducible repeat (first | refine qh ?_ _ | refine qk ?_ | refine qi ?_ _)); refine blk_far ?_ NB101_108.out _; (with_reducible repeat (first | refine qh ?_ _ | refine qk ?_ | refine qi ?_ _)); refine blk_far ?_ NB101_108.out _; (with_reducible repeat (first | refine qh ?_ _ | refine qk ?_ | refine qi ?_ _)); refine blk_far ?_ NB101_108.out _; (with_reducible repeat (first | refine qh ?_ _ | refine qk ?_ | refine qi ?_ _)); exact BK101.out) NB101_0.out (by simp)); replace BK108 := Qz.mk (KeepBut.blk hk (g' := gb108) (o := .cells #[.string t102, .int .i64 t104, .int .i64 t106] 46 (0, 0)) (by (with_reducible repeat (first | refine qh ?_ _ | refine qk ?_ | refine qi ?_ _)); refine blk_put (cs := #[.string t102, .int .i64 t104, .int .i64 0]) ?_ 2 _ rfl; (with_reducible repeat (first | refine qh ?_ _ | refine qk ?_ | refine qi ?_ _)); refine blk_put (cs := #[.string t102, .int .i64 0, .int .i64 0]) ?_ 1 _ rfl; (with_reducible repeat (first | refine qh ?_ _ | refine qk ?_ | refine qi ?_ _)); refine blk_put (cs := #[.string (⟨#[]⟩ : ByteArray), .int .i64 0, .int .i64 0]) ?_ 0 _ rfl; (with_reducible repeat (first | refine qh ?_ _ | refine qk ?_ | refine qi ?_ _)); exact BK108.out) NB108_0.out (by simp)); replace HK := Qz.mk (KeepBut.trans (by repeat (first | (with_reducible first | exact HK.out | apply KeepBut.set_ | apply ql | apply qn | apply qm | refine qt ?_ GW101.out _ | refine qt ?_ GW108.out _) | exact HK.out)) hk (.inl rfl)); replace HB := Qz.mk (hb); replace HI0 := Qz.mk (hi); (try clear hb); (try clear hk); (try clear hi); have hcz60_0 : w59.cell? ⟨gb108, 0, none⟩ = some (.string t102) := (qe BK108.out 0).trans rfl; have hcz60_1 : w59.cell? ⟨gb108, 1, none⟩ = some (.int .i64 t104) := (qe BK108.out 1).trans rfl; have hcz60_2 : w59.cell? ⟨gb108, 2, none⟩ = some (.int .i64 t106) := (qe BK108.out 2).trans rfl; have hfz60_0 := qf BK108.out 0; have hfz60_1 := qf BK108.out 1; have hfz60_2 := qf BK108.out 2; have hnb61 := NB101_0.out; have hnc61 := NB0_101.out; have hcz62_0 : w59.cell? ⟨gb101, 0, none⟩ = some (.string (⟨#[]⟩ : ByteArray)) := (qe BK101.out 0).trans rfl; have hcz62_1 : w59.cell? ⟨gb101, 1, none⟩ = some (.int .i64 0) := (qe BK101.out 1).trans rfl; have hcz62_2 : w59.cell? ⟨gb101, 2, none⟩ = some (.int .i64 0) := (qe BK101.out 2).trans rfl; have hfz62_0 := qf BK101.out 0; have hfz62_1 := qf BK101.out 1; have hfz62_2 := qf BK101.out 2))
    refine bodyPost_ret (results_cell_row rfl _ _ gb101 46 #[.string t102, .int .i64 t104, .int .i64 t106] (0, 0) _ rfl (by (with_reducible repeat (first | refine qh ?_ _ | refine qk ?_ | refine qi ?_ _)); refine blk_put (cs := #[.string t102, .int .i64 t104, .int .i64 0]) ?_ 2 _ rfl; (with_reducible repeat (first | refine qh ?_ _ | refine qk ?_ | refine qi ?_ _)); refine blk_put (cs := #[.string t102, .int .i64 0, .int .i64 0]) ?_ 1 _ rfl; (with_reducible repeat (first | refine qh ?_ _ | refine qk ?_ | refine qi ?_ _)); refine blk_put (cs := #[.string (⟨#[]⟩ : ByteArray), .int .i64 0, .int .i64 0]) ?_ 0 _ rfl; (with_reducible repeat (first | refine qh ?_ _ | refine qk ?_ | refine qi ?_ _)); exact BK101.out) Try.underlying46 rfl (by kernel_rfl)) rfl ?_
    exact ⟨by first | rfl | (simp [qp, qo] <;> rfl) | (simp [*, qp, qo] <;> rfl), by repeat (first | (with_reducible first | exact HI0.out | apply IsS116.alloc | apply IsS116.drewN | apply IsS116.drew | apply IsS116.set_1 | apply (fun h_ => IsS116.far h_ NB0_101.out _) | apply (fun h_ => IsS116.far h_ NB0_108.out _)) | exact HI0.out), by repeat (first | (with_reducible first | exact HB.out | apply qc | apply qa | apply qb | refine qd ?_ (IsS116.ge HI0.out) | refine qd ?_ GE101.out | refine qd ?_ GE108.out) | exact HB.out), by repeat (first | (with_reducible first | exact HK.out | apply KeepBut.set_ | apply ql | apply qn | apply qm | refine qt ?_ GW101.out _ | refine qt ?_ GW108.out _) | exact HK.out)⟩
def spec_l1Rd_value.f (s0_0 : List Int) (s0_1 : Int) : Option (ByteArray × Int) := (some (([(⟨#[]⟩ : ByteArray), (⟨#[49]⟩ : ByteArray), (⟨#[50]⟩ : ByteArray), (⟨#[118, 97, 108, 117, 101]⟩ : ByteArray), (⟨#[118, 118]⟩ : ByteArray)] : List ByteArray) : List ByteArray)).bind fun y101 => ((spec_l1Rd_below.f s0_0 s0_1 5).bind fun bt104 => (if 0 ≤ bt104.1 then (if bt104.1 < (y101.length : Int) then (some (rdOf ByteArray.empty y101 bt104.1, bt104.2)) else (none)) else (none)))
set_option maxHeartbeats 8000000 in
set_option maxRecDepth 100000 in
theorem spec_l1Rd_value.calls (g : Nat) (s0_0 : List Int) (s0_1 : Int) (r1 : ByteArray) (r2 : Int) (w0 w : World) (hI : IsS116 w0 w g s0_0 s0_1) (hB : Below w0.heap.size w0 w) (h : spec_l1Rd_value.f s0_0 s0_1 = some (r1, r2)) :
  Calls Try.prog 107 #[.pointer (some ⟨g, 0, none⟩)] w fun e w' => e = .returned (.string r1) ∧ IsS116 w0 w' g s0_0 r2 ∧ Below w0.heap.size w0 w' ∧ KeepBut w w' g none := by
 have HI0 := Qz.mk hI
 have HK := Qz.mk (KeepBut.refl w g none)
 have HL := Qz.mk hB.size
 clear hI
 have HW0 := Qz.mk hB.size
 have HB := Qz.mk hB
 clear hB
 have H : ((some (([(⟨#[]⟩ : ByteArray), (⟨#[49]⟩ : ByteArray), (⟨#[50]⟩ : ByteArray), (⟨#[118, 97, 108, 117, 101]⟩ : ByteArray), (⟨#[118, 118]⟩ : ByteArray)] : List ByteArray) : List ByteArray)).bind fun y101 => ((spec_l1Rd_below.f s0_0 s0_1 5).bind fun bt104 => (if 0 ≤ bt104.1 then (if bt104.1 < (y101.length : Int) then (some (rdOf ByteArray.empty y101 bt104.1, bt104.2)) else (none)) else (none)))) = some (r1, r2) := h
 clear h
 obtain ⟨y101, hy101⟩ : ∃ y_ : List ByteArray, y_ = (([(⟨#[]⟩ : ByteArray), (⟨#[49]⟩ : ByteArray), (⟨#[50]⟩ : ByteArray), (⟨#[118, 97, 108, 117, 101]⟩ : ByteArray), (⟨#[118, 118]⟩ : ByteArray)] : List ByteArray)) := ⟨_, rfl⟩
 replace H : ((spec_l1Rd_below.f s0_0 s0_1 5).bind fun bt104 => (if 0 ≤ bt104.1 then (if bt104.1 < (y101.length : Int) then (some (rdOf ByteArray.empty y101 bt104.1, bt104.2)) else (none)) else (none))) = some (r1, r2) := by first | (rw [hy101]; with_reducible exact H) | (have H2_ := (Option.bind_some _ _).symm.trans H; rw [hy101]; with_reducible exact H2_) | (have H2_ := (Option.bind_some _ _).symm.trans H; with_reducible exact H2_) | with_reducible exact H | (rw [hy101]; exact H) | exact H
 have Ny101 := Qz.mk hy101
 clear hy101
 replace H := Option.bind_eq_some_iff.mp H
 obtain ⟨⟨t104, t105⟩, A20, H⟩ := H
 replace H : (if 0 ≤ t104 then (if t104 < (y101.length : Int) then (some (rdOf ByteArray.empty y101 t104, t105)) else (none)) else (none)) = some (r1, r2) := H
 have A2 := Qz.mk A20
 clear A20
 by_cases c3 : 0 ≤ t104
 ·rw [if_pos c3] at H
  have c3b0 : decide (0 ≤ t104) = true := decide_eq_true c3
  clear c3
  by_cases c4 : t104 < (y101.length : Int)
  ·rw [if_pos c4] at H
   have c4b0 : decide (t104 < (y101.length : Int)) = true := decide_eq_true c4
   clear c4
   simp only [Option.some.injEq, Prod.mk.injEq] at H
   obtain ⟨rfl, rfl⟩ := H
   go_enter Try.func107, Try.ntmps107
   go_wp2_with (first | ((with_reducible refine gate_dst (N := 3) rfl ?_); refine Kd.R_lit Kd.string _ 9 ?hg (N := 3) ?hd (xs := ([(⟨#[]⟩ : ByteArray), (⟨#[49]⟩ : ByteArray), (⟨#[50]⟩ : ByteArray), (⟨#[118, 97, 108, 117, 101]⟩ : ByteArray), (⟨#[118, 118]⟩ : ByteArray)] : List ByteArray)) (inner := [.string (⟨#[]⟩ : ByteArray), .string (⟨#[49]⟩ : ByteArray), .string (⟨#[50]⟩ : ByteArray), .string (⟨#[118, 97, 108, 117, 101]⟩ : ByteArray), .string (⟨#[118, 118]⟩ : ByteArray)]) (ok := fun _ => True) (okp := fun _ => True) ?hr ?hp (fun _ hk => hk) trivial (Below.refl _ _) (Nat.le_refl _) (by simp) ?_; (case hd => rfl); (case hg => rfl); (case hr => first | (go_simp; done) | (go_simp; rfl)); (case hp => exact (Reps.one (show Kd.M Kd.string _ _ _ (⟨#[]⟩ : ByteArray) [.string (⟨#[]⟩ : ByteArray)] from rfl) (Reps.one (show Kd.M Kd.string _ _ _ (⟨#[49]⟩ : ByteArray) [.string (⟨#[49]⟩ : ByteArray)] from rfl) (Reps.one (show Kd.M Kd.string _ _ _ (⟨#[50]⟩ : ByteArray) [.string (⟨#[50]⟩ : ByteArray)] from rfl) (Reps.one (show Kd.M Kd.string _ _ _ (⟨#[118, 97, 108, 117, 101]⟩ : ByteArray) [.string (⟨#[118, 97, 108, 117, 101]⟩ : ByteArray)] from rfl) (Reps.one (show Kd.M Kd.string _ _ _ (⟨#[118, 118]⟩ : ByteArray) [.string (⟨#[118, 118]⟩ : ByteArray)] from rfl) (Reps.none _ _))))))); intro v102 w5 ho6 hb hg_ hnew_; clear hg_ hnew_; (first | rw [← Ny101.out] at ho6 | (simp only [Int.reduceToNat] at ho6; rw [← Ny101.out] at ho6)); have HO103 := Qz.mk (Kd.R_lower ho6 (keep_size (w := w) (g := g) (row := none) (by repeat (first | (with_reducible first | exact HK.out | apply KeepBut.set_ | apply ql | apply qn | apply qm) | exact HK.out)))); replace HK := Qz.mk (KeepBut.trans (by repeat (first | (with_reducible first | exact HK.out | apply KeepBut.set_ | apply ql | apply qn | apply qm) | exact HK.out)) (KeepBut.of_below hb g none) (.inl rfl)); replace HB := Qz.mk (qr (by repeat (first | (with_reducible first | exact HB.out | apply qc | apply qa | apply qb | refine qd ?_ (IsS116.ge HI0.out)) | exact HB.out)) hb); replace HI0 := Qz.mk (IsS116.below (by repeat (first | (with_reducible first | exact HI0.out | apply IsS116.alloc | apply IsS116.drewN | apply IsS116.drew | apply IsS116.set_1) | exact HI0.out)) hb); clear hb ho6) | ((with_reducible refine qq (f := 98) rfl ?_); refine qu (some 5) rfl rfl Try.func98 (by kernel_rfl) rfl #[.pointer (some ⟨g, 0, none⟩), .int .i64 5] rfl (by (try simp only [List.map_toArray, List.map_cons, List.map_nil]); first | done | rfl) ?_; (with_reducible refine (spec_l1Rd_below.calls g s0_0 s0_1 5 t104 t105 w0 _ ?side1 ?side2 A2.out).mono ?_); (case side1 => repeat (first | (with_reducible first | exact HI0.out | apply IsS116.alloc | apply IsS116.drewN | apply IsS116.drew | apply IsS116.set_1) | exact HI0.out)); (case side2 => repeat (first | (with_reducible first | exact HB.out | apply qc | apply qa | apply qb | refine qd ?_ (IsS116.ge HI0.out)) | exact HB.out)); rintro e w7 ⟨rfl, hi, hb, hk⟩; refine ⟨_, rfl, ?_⟩; replace HO103 := Qz.mk (Kd.R_mono (Kd.R_keep (IsS116.apart (show IsS116 w0 _ g s0_0 s0_1 from by repeat (first | (with_reducible first | exact HI0.out | apply IsS116.alloc | apply IsS116.drewN | apply IsS116.drew | apply IsS116.set_1) | exact HI0.out)) (by (with_reducible repeat (first | apply Kd.R_alloc | apply Kd.R_drewN | apply Kd.R_drew)); exact HO103.out) (by decide)) hk (fun _ h => h.2)) (fun _ h => h.1)); replace HK := Qz.mk (KeepBut.trans (by repeat (first | (with_reducible first | exact HK.out | apply KeepBut.set_ | apply ql | apply qn | apply qm) | exact HK.out)) hk (.inl rfl)); replace HB := Qz.mk (hb); replace HI0 := Qz.mk (hi); (try clear hb); (try clear hk); (try clear hi); obtain ⟨Ao8, co8, eo8⟩ := Kd.R_slice HO103.out; subst eo8; have p106 : 0 ≤ (t104 : Int) := of_decide_eq_true (by first | (with_reducible assumption) | assumption); have q106 : t104 < (y101.length : Int) := of_decide_eq_true (by first | (with_reducible assumption) | assumption); obtain ⟨ad106, e106, hx106_0⟩ := Kd.at_string (Kd.R_reads' HO103.out).2.2 t104 p106 q106; cases e106; replace p106 := eq_true p106; replace q106 := eq_true q106))
   go_ret
   exact ⟨by first | rfl | (simp [qp, qo] <;> rfl) | (simp [*, qp, qo] <;> rfl), by repeat (first | (with_reducible first | exact HI0.out | apply IsS116.alloc | apply IsS116.drewN | apply IsS116.drew | apply IsS116.set_1) | exact HI0.out), by repeat (first | (with_reducible first | exact HB.out | apply qc | apply qa | apply qb | refine qd ?_ (IsS116.ge HI0.out)) | exact HB.out), by repeat (first | (with_reducible first | exact HK.out | apply KeepBut.set_ | apply ql | apply qn | apply qm) | exact HK.out)⟩
  ·rw [if_neg c4] at H
   exact absurd H (by simp)
 ·rw [if_neg c3] at H
  exact absurd H (by simp)
def spec_l1Rd_entry.f (k : Nat) (s0_0 : List Int) (s0_1 : Int) : Option (ByteArray × Int × Int × ByteArray × Int) := (spec_l1Rd_key.f k s0_0 s0_1).bind fun bt102 => ((spec_l1Rd_value.f s0_0 bt102.2.2.2).bind fun bt106 => (if bt102.2.2.1 = 0 then ((spec_l1Rd_once.f s0_0 bt106.2 12).bind fun bt109 => (if bt109.1 = true then (some (bt102.1, bt102.2.1, bt102.2.2.1, bt106.1, bt109.2)) else (some (bt102.1, bt102.2.1, bt102.2.2.1, (⟨#[]⟩ : ByteArray), bt109.2)))) else (some (bt102.1, bt102.2.1, bt102.2.2.1, bt106.1, bt106.2))))
set_option maxHeartbeats 8000000 in
set_option maxRecDepth 100000 in
theorem spec_l1Rd_entry.calls (k : Nat) (g : Nat) (s0_0 : List Int) (s0_1 : Int) (r1 : ByteArray) (r2 : Int) (r3 : Int) (r4 : ByteArray) (r5 : Int) (w0 w : World) (hI : IsS116 w0 w g s0_0 s0_1) (hB : Below w0.heap.size w0 w) (h : spec_l1Rd_entry.f k s0_0 s0_1 = some (r1, r2, r3, r4, r5)) :
  Calls Try.prog 84 #[.pointer (some ⟨g, 0, none⟩)] w fun e w' => e = .returned (.agg #[.string r1, .int .i64 r2, .int .i64 r3, .string r4]) ∧ IsS116 w0 w' g s0_0 r5 ∧ Below w0.heap.size w0 w' ∧ KeepBut w w' g none := by
 have hu48 := Try.underlying48
 have HI0 := Qz.mk hI
 have HK := Qz.mk (KeepBut.refl w g none)
 have HL := Qz.mk hB.size
 clear hI
 have HW0 := Qz.mk hB.size
 have HB := Qz.mk hB
 clear hB
 have H : ((spec_l1Rd_key.f k s0_0 s0_1).bind fun bt102 => ((spec_l1Rd_value.f s0_0 bt102.2.2.2).bind fun bt106 => (if bt102.2.2.1 = 0 then ((spec_l1Rd_once.f s0_0 bt106.2 12).bind fun bt109 => (if bt109.1 = true then (some (bt102.1, bt102.2.1, bt102.2.2.1, bt106.1, bt109.2)) else (some (bt102.1, bt102.2.1, bt102.2.2.1, (⟨#[]⟩ : ByteArray), bt109.2)))) else (some (bt102.1, bt102.2.1, bt102.2.2.1, bt106.1, bt106.2))))) = some (r1, r2, r3, r4, r5) := h
 clear h
 replace H := Option.bind_eq_some_iff.mp H
 obtain ⟨⟨t102, t103, t104, t105⟩, A20, H⟩ := H
 replace H : ((spec_l1Rd_value.f s0_0 t105).bind fun bt106 => (if t104 = 0 then ((spec_l1Rd_once.f s0_0 bt106.2 12).bind fun bt109 => (if bt109.1 = true then (some (t102, t103, t104, bt106.1, bt109.2)) else (some (t102, t103, t104, (⟨#[]⟩ : ByteArray), bt109.2)))) else (some (t102, t103, t104, bt106.1, bt106.2)))) = some (r1, r2, r3, r4, r5) := H
 have A2 := Qz.mk A20
 clear A20
 replace H := Option.bind_eq_some_iff.mp H
 obtain ⟨⟨t106, t107⟩, A30, H⟩ := H
 replace H : (if t104 = 0 then ((spec_l1Rd_once.f s0_0 t107 12).bind fun bt109 => (if bt109.1 = true then (some (t102, t103, t104, t106, bt109.2)) else (some (t102, t103, t104, (⟨#[]⟩ : ByteArray), bt109.2)))) else (some (t102, t103, t104, t106, t107))) = some (r1, r2, r3, r4, r5) := H
 have A3 := Qz.mk A30
 clear A30
 by_cases c4 : t104 = 0
 ·rw [if_pos c4] at H
  have c4b0 : (t104 == 0) = true := beq_iff_eq.mpr c4
  have c4b1 : (t104 != 0) = false := bne_eq_false_iff_eq.mpr c4
  clear c4
  replace H := Option.bind_eq_some_iff.mp H
  obtain ⟨⟨t109, t110⟩, A50, H⟩ := H
  replace H : (if t109 = true then (some (t102, t103, t104, t106, t110)) else (some (t102, t103, t104, (⟨#[]⟩ : ByteArray), t110))) = some (r1, r2, r3, r4, r5) := H
  have A5 := Qz.mk A50
  clear A50
  by_cases c6 : t109 = true
  ·subst c6
   have H1 : (some (t102, t103, t104, t106, t110)) = some (r1, r2, r3, r4, r5) := by rw [if_pos rfl] at H; exact H
   clear H
   have H := H1
   clear H1
   simp only [Option.some.injEq, Prod.mk.injEq] at H
   obtain ⟨rfl, rfl, rfl, rfl, rfl⟩ := H
   go_enter Try.func84, Try.ntmps84
   go_wp2_with (first | ((with_reducible refine gate_dst (N := 2) rfl ?_); refine box_event ?hg (N := 2) ?hd (cs := #[.string (⟨#[]⟩ : ByteArray), .int .i64 0, .int .i64 0, .string (⟨#[]⟩ : ByteArray)]) (t := 48) ?hr ?_; (case hd => rfl); (case hg => rfl); (case hr => first | (go_simp; done) | (go_simp; rfl)); intro gb101 hg w7 hbox hb; replace HB := Qz.mk (qr (by repeat (first | (with_reducible first | exact HB.out | apply qc | apply qa | apply qb | refine qd ?_ (IsS116.ge HI0.out)) | exact HB.out)) hb); have BK101 := Qz.mk (hbox); have GW101 := Qz.mk ((by rw [hg]; exact (keep_size (w := w) (g := g) (row := none) (by repeat (first | (with_reducible first | exact HK.out | apply KeepBut.set_ | apply ql | apply qn | apply qm) | exact HK.out))) : w.heap.size ≤ gb101)); have GE101 := Qz.mk ((Nat.le_trans HW0.out (by rw [hg]; exact (keep_size (w := w) (g := g) (row := none) (by repeat (first | (with_reducible first | exact HK.out | apply KeepBut.set_ | apply ql | apply qn | apply qm) | exact HK.out))) : w.heap.size ≤ gb101) : w0.heap.size ≤ gb101)); replace HK := Qz.mk (KeepBut.trans (by repeat (first | (with_reducible first | exact HK.out | apply KeepBut.set_ | apply ql | apply qn | apply qm) | exact HK.out)) (KeepBut.of_below hb g none) (.inl rfl)); have NB0_101 := Qz.mk ((by rw [hg]; exact Nat.ne_of_lt (IsS116.lt (show IsS116 w0 _ g s0_0 s0_1 from by repeat (first | (with_reducible first | exact HI0.out | apply IsS116.alloc | apply IsS116.drewN | apply IsS116.drew | apply IsS116.set_1) | exact HI0.out))) : g ≠ gb101)); have NB101_0 := Qz.mk ((by rw [hg]; exact Nat.ne_of_gt (IsS116.lt (show IsS116 w0 _ g s0_0 s0_1 from by repeat (first | (with_reducible first | exact HI0.out | apply IsS116.alloc | apply IsS116.drewN | apply IsS116.drew | apply IsS116.set_1) | exact HI0.out))) : gb101 ≠ g)); replace HI0 := Qz.mk (IsS116.below (by repeat (first | (with_reducible first | exact HI0.out | apply IsS116.alloc | apply IsS116.drewN | apply IsS116.drew | apply IsS116.set_1) | exact HI0.out)) hb); clear hb hbox hg) | ((with_reducible refine qq (f := 106) rfl ?_); refine qu (some 5) rfl rfl Try.func106 (by kernel_rfl) rfl #[.pointer (some ⟨g, 0, none⟩)] rfl (by (try simp only [List.map_toArray, List.map_cons, List.map_nil]); first | done | rfl) ?_; (with_reducible refine (spec_l1Rd_key.calls k g s0_0 s0_1 t102 t103 t104 t105 w0 _ ?side1 ?side2 A2.out).mono ?_); (case side1 => repeat (first | (with_reducible first | exact HI0.out | apply IsS116.alloc | apply IsS116.drewN | apply IsS116.drew | apply IsS116.set_1 | apply (fun h_ => IsS116.far h_ NB0_101.out _)) | exact HI0.out)); (case side2 => repeat (first | (with_reducible first | exact HB.out | apply qc | apply qa | apply qb | refine qd ?_ (IsS116.ge HI0.out) | refine qd ?_ GE101.out) | exact HB.out)); rintro e w8 ⟨rfl, hi, hb, hk⟩; refine ⟨_, rfl, ?_⟩; replace BK101 := Qz.mk (KeepBut.blk hk (g' := gb101) (o := .cells #[.string (⟨#[]⟩ : ByteArray), .int .i64 0, .int .i64 0, .string (⟨#[]⟩ : ByteArray)] 48 (0, 0)) (by (with_reducible repeat (first | refine qh ?_ _ | refine qk ?_ | refine qi ?_ _)); exact BK101.out) NB101_0.out (by simp)); replace HK := Qz.mk (KeepBut.trans (by repeat (first | (with_reducible first | exact HK.out | apply KeepBut.set_ | apply ql | apply qn | apply qm | refine qt ?_ GW101.out _) | exact HK.out)) hk (.inl rfl)); replace HB := Qz.mk (hb); replace HI0 := Qz.mk (hi); (try clear hb); (try clear hk); (try clear hi)) | ((with_reducible refine qq (f := 107) rfl ?_); refine qu (some 7) rfl rfl Try.func107 (by kernel_rfl) rfl #[.pointer (some ⟨g, 0, none⟩)] rfl (by (try simp only [List.map_toArray, List.map_cons, List.map_nil]); first | done | rfl) ?_; (with_reducible refine (spec_l1Rd_value.calls g s0_0 t105 t106 t107 w0 _ ?side1 ?side2 A3.out).mono ?_); (case side1 => repeat (first | (with_reducible first | exact HI0.out | apply IsS116.alloc | apply IsS116.drewN | apply IsS116.drew | apply IsS116.set_1 | apply (fun h_ => IsS116.far h_ NB0_101.out _)) | exact HI0.out)); (case side2 => repeat (first | (with_reducible first | exact HB.out | apply qc | apply qa | apply qb | refine qd ?_ (IsS116.ge HI0.out) | refine qd ?_ GE101.out) | exact HB.out)); rintro e w9 ⟨rfl, hi, hb, hk⟩; refine ⟨_, rfl, ?_⟩; replace BK101 := Qz.mk (KeepBut.blk hk (g' := gb101) (o := .cells #[.string (⟨#[]⟩ : ByteArray), .int .i64 0, .int .i64 0, .string (⟨#[]⟩ : ByteArray)] 48 (0, 0)) (by (with_reducible repeat (first | refine qh ?_ _ | refine qk ?_ | refine qi ?_ _)); exact BK101.out) NB101_0.out (by simp)); replace HK := Qz.mk (KeepBut.trans (by repeat (first | (with_reducible first | exact HK.out | apply KeepBut.set_ | apply ql | apply qn | apply qm | refine qt ?_ GW101.out _) | exact HK.out)) hk (.inl rfl)); replace HB := Qz.mk (hb); replace HI0 := Qz.mk (hi); (try clear hb); (try clear hk); (try clear hi)) | ((with_reducible refine gate_dst (N := 3) rfl ?_); refine box_event ?hg (N := 3) ?hd (cs := #[.string (⟨#[]⟩ : ByteArray), .int .i64 0, .int .i64 0, .string (⟨#[]⟩ : ByteArray)]) (t := 48) ?hr ?_; (case hd => rfl); (case hg => rfl); (case hr => first | (go_simp; done) | (go_simp; rfl)); intro gb108 hg w10 hbox hb; replace HB := Qz.mk (qr (by repeat (first | (with_reducible first | exact HB.out | apply qc | apply qa | apply qb | refine qd ?_ (IsS116.ge HI0.out) | refine qd ?_ GE101.out) | exact HB.out)) hb); have BK108 := Qz.mk (hbox); have GW108 := Qz.mk ((by rw [hg]; exact (keep_size (w := w) (g := g) (row := none) (by repeat (first | (with_reducible first | exact HK.out | apply KeepBut.set_ | apply ql | apply qn | apply qm | refine qt ?_ GW101.out _) | exact HK.out))) : w.heap.size ≤ gb108)); have GE108 := Qz.mk ((Nat.le_trans HW0.out (by rw [hg]; exact (keep_size (w := w) (g := g) (row := none) (by repeat (first | (with_reducible first | exact HK.out | apply KeepBut.set_ | apply ql | apply qn | apply qm | refine qt ?_ GW101.out _) | exact HK.out))) : w.heap.size ≤ gb108) : w0.heap.size ≤ gb108)); replace HK := Qz.mk (KeepBut.trans (by repeat (first | (with_reducible first | exact HK.out | apply KeepBut.set_ | apply ql | apply qn | apply qm | refine qt ?_ GW101.out _) | exact HK.out)) (KeepBut.of_below hb g none) (.inl rfl)); have NB101_108 := Qz.mk ((by rw [hg]; exact Nat.ne_of_lt (blk_lt (g := gb101) (o := .cells #[.string (⟨#[]⟩ : ByteArray), .int .i64 0, .int .i64 0, .string (⟨#[]⟩ : ByteArray)] 48 (0, 0)) (by (with_reducible repeat (first | refine qh ?_ _ | refine qk ?_ | refine qi ?_ _)); exact BK101.out)) : gb101 ≠ gb108)); have NB108_101 := Qz.mk ((by rw [hg]; exact Nat.ne_of_gt (blk_lt (g := gb101) (o := .cells #[.string (⟨#[]⟩ : ByteArray), .int .i64 0, .int .i64 0, .string (⟨#[]⟩ : ByteArray)] 48 (0, 0)) (by (with_reducible repeat (first | refine qh ?_ _ | refine qk ?_ | refine qi ?_ _)); exact BK101.out)) : gb108 ≠ gb101)); replace BK101 := Qz.mk (qx (g := gb101) (o := .cells #[.string (⟨#[]⟩ : ByteArray), .int .i64 0, .int .i64 0, .string (⟨#[]⟩ : ByteArray)] 48 (0, 0)) (by (with_reducible repeat (first | refine qh ?_ _ | refine qk ?_ | refine qi ?_ _)); exact BK101.out) hb); have NB0_108 := Qz.mk ((by rw [hg]; exact Nat.ne_of_lt (IsS116.lt (show IsS116 w0 _ g s0_0 t107 from by repeat (first | (with_reducible first | exact HI0.out | apply IsS116.alloc | apply IsS116.drewN | apply IsS116.drew | apply IsS116.set_1 | apply (fun h_ => IsS116.far h_ NB0_101.out _)) | exact HI0.out))) : g ≠ gb108)); have NB108_0 := Qz.mk ((by rw [hg]; exact Nat.ne_of_gt (IsS116.lt (show IsS116 w0 _ g s0_0 t107 from by repeat (first | (with_reducible first | exact HI0.out | apply IsS116.alloc | apply IsS116.drewN | apply IsS116.drew | apply IsS116.set_1 | apply (fun h_ => IsS116.far h_ NB0_101.out _)) | exact HI0.out))) : gb108 ≠ g)); replace HI0 := Qz.mk (IsS116.below (by repeat (first | (with_reducible first | exact HI0.out | apply IsS116.alloc | apply IsS116.drewN | apply IsS116.drew | apply IsS116.set_1 | apply (fun h_ => IsS116.far h_ NB0_101.out _)) | exact HI0.out)) hb); clear hb hbox hg; have hnb11 := NB108_101.out; have hnc11 := NB101_108.out; have hnb12 := NB108_0.out; have hnc12 := NB0_108.out; have hcz13_0 : w10.cell? ⟨gb108, 0, none⟩ = some (.string (⟨#[]⟩ : ByteArray)) := (qe BK108.out 0).trans rfl; have hcz13_1 : w10.cell? ⟨gb108, 1, none⟩ = some (.int .i64 0) := (qe BK108.out 1).trans rfl; have hcz13_2 : w10.cell? ⟨gb108, 2, none⟩ = some (.int .i64 0) := (qe BK108.out 2).trans rfl; have hcz13_3 : w10.cell? ⟨gb108, 3, none⟩ = some (.string (⟨#[]⟩ : ByteArray)) := (qe BK108.out 3).trans rfl; have hfz13_0 := qf BK108.out 0; have hfz13_1 := qf BK108.out 1; have hfz13_2 := qf BK108.out 2; have hfz13_3 := qf BK108.out 3) | (go_at_call 96; (with_reducible refine (spec_l1Rd_once.calls g s0_0 t107 12 true t110 w0 _ ?side1 ?side2 A5.out).mono ?_); (case side1 => repeat (first | (with_reducible first | exact HI0.out | apply IsS116.alloc | apply IsS116.drewN | apply IsS116.drew | apply IsS116.set_1 | apply (fun h_ => IsS116.far h_ NB0_101.out _) | apply (fun h_ => IsS116.far h_ NB0_108.out _)) | exact HI0.out)); (case side2 => repeat (first | (with_reducible first | exact HB.out | apply qc | apply qa | apply qb | refine qd ?_ (IsS116.ge HI0.out) | refine qd ?_ GE101.out | refine qd ?_ GE108.out) | exact HB.out)); rintro e w14 ⟨rfl, hi, hb, hk⟩; replace BK101 := Qz.mk (KeepBut.blk hk (g' := gb101) (o := .cells #[.string (⟨#[]⟩ : ByteArray), .int .i64 0, .int .i64 0, .string (⟨#[]⟩ : ByteArray)] 48 (0, 0)) (by (with_reducible repeat (first | refine qh ?_ _ | refine qk ?_ | refine qi ?_ _)); refine blk_far ?_ NB101_108.out _; (with_reducible repeat (first | refine qh ?_ _ | refine qk ?_ | refine qi ?_ _)); refine blk_far ?_ NB101_108.out _; (with_reducible repeat (first | refine qh ?_ _ | refine qk ?_ | refine qi ?_ _)); refine blk_far ?_ NB101_108.out _; (with_reducible repeat (first | refine qh ?_ _ | refine qk ?_ | refine qi ?_ _)); refine blk_far ?_ NB101_108.out _; (with_reducible repeat (first | refine qh ?_ _ | refine qk ?_ | refine qi ?_ _)); exact BK101.out) NB101_0.out (by simp)); replace BK108 := Qz.mk (KeepBut.blk hk (g' := gb108) (o := .cells #[.string t102, .int .i64 t103, .int .i64 t104, .string t106] 48 (0, 0)) (by (with_reducible repeat (first | refine qh ?_ _ | refine qk ?_ | refine qi ?_ _)); refine blk_put (cs := #[.string t102, .int .i64 t103, .int .i64 t104, .string (⟨#[]⟩ : ByteArray)]) ?_ 3 _ rfl; (with_reducible repeat (first | refine qh ?_ _ | refine qk ?_ | refine qi ?_ _)); refine blk_put (cs := #[.string t102, .int .i64 t103, .int .i64 0, .string (⟨#[]⟩ : ByteArray)]) ?_ 2 _ rfl; (with_reducible repeat (first | refine qh ?_ _ | refine qk ?_ | refine qi ?_ _)); refine blk_put (cs := #[.string t102, .int .i64 0, .int .i64 0, .string (⟨#[]⟩ : ByteArray)]) ?_ 1 _ rfl; (with_reducible repeat (first | refine qh ?_ _ | refine qk ?_ | refine qi ?_ _)); refine blk_put (cs := #[.string (⟨#[]⟩ : ByteArray), .int .i64 0, .int .i64 0, .string (⟨#[]⟩ : ByteArray)]) ?_ 0 _ rfl; (with_reducible repeat (first | refine qh ?_ _ | refine qk ?_ | refine qi ?_ _)); exact BK108.out) NB108_0.out (by simp)); replace HK := Qz.mk (KeepBut.trans (by repeat (first | (with_reducible first | exact HK.out | apply KeepBut.set_ | apply ql | apply qn | apply qm | refine qt ?_ GW101.out _ | refine qt ?_ GW108.out _) | exact HK.out)) hk (.inl rfl)); replace HB := Qz.mk (hb); replace HI0 := Qz.mk (hi); (try clear hb); (try clear hk); (try clear hi); have hcz15_0 : w14.cell? ⟨gb108, 0, none⟩ = some (.string t102) := (qe BK108.out 0).trans rfl; have hcz15_1 : w14.cell? ⟨gb108, 1, none⟩ = some (.int .i64 t103) := (qe BK108.out 1).trans rfl; have hcz15_2 : w14.cell? ⟨gb108, 2, none⟩ = some (.int .i64 t104) := (qe BK108.out 2).trans rfl; have hcz15_3 : w14.cell? ⟨gb108, 3, none⟩ = some (.string t106) := (qe BK108.out 3).trans rfl; have hfz15_0 := qf BK108.out 0; have hfz15_1 := qf BK108.out 1; have hfz15_2 := qf BK108.out 2; have hfz15_3 := qf BK108.out 3; have hnb16 := NB101_0.out; have hnc16 := NB0_101.out; have hcz17_0 : w14.cell? ⟨gb101, 0, none⟩ = some (.string (⟨#[]⟩ : ByteArray)) := (qe BK101.out 0).trans rfl; have hcz17_1 : w14.cell? ⟨gb101, 1, none⟩ = some (.int .i64 0) := (qe BK101.out 1).trans rfl; have hcz17_2 : w14.cell? ⟨gb101, 2, none⟩ = some (.int .i64 0) := (qe BK101.out 2).trans rfl; have hcz17_3 : w14.cell? ⟨gb101, 3, none⟩ = some (.string (⟨#[]⟩ : ByteArray)) := (qe BK101.out 3).trans rfl; have hfz17_0 := qf BK101.out 0; have hfz17_1 := qf BK101.out 1; have hfz17_2 := qf BK101.out 2; have hfz17_3 := qf BK101.out 3))
   refine bodyPost_ret (results_cell_row rfl _ _ gb101 48 #[.string t102, .int .i64 t103, .int .i64 t104, .string t106] (0, 0) _ rfl (by (with_reducible repeat (first | refine qh ?_ _ | refine qk ?_ | refine qi ?_ _)); refine blk_put (cs := #[.string t102, .int .i64 t103, .int .i64 t104, .string (⟨#[]⟩ : ByteArray)]) ?_ 3 _ rfl; (with_reducible repeat (first | refine qh ?_ _ | refine qk ?_ | refine qi ?_ _)); refine blk_put (cs := #[.string t102, .int .i64 t103, .int .i64 0, .string (⟨#[]⟩ : ByteArray)]) ?_ 2 _ rfl; (with_reducible repeat (first | refine qh ?_ _ | refine qk ?_ | refine qi ?_ _)); refine blk_put (cs := #[.string t102, .int .i64 0, .int .i64 0, .string (⟨#[]⟩ : ByteArray)]) ?_ 1 _ rfl; (with_reducible repeat (first | refine qh ?_ _ | refine qk ?_ | refine qi ?_ _)); refine blk_put (cs := #[.string (⟨#[]⟩ : ByteArray), .int .i64 0, .int .i64 0, .string (⟨#[]⟩ : ByteArray)]) ?_ 0 _ rfl; (with_reducible repeat (first | refine qh ?_ _ | refine qk ?_ | refine qi ?_ _)); exact BK101.out) Try.underlying48 rfl (by kernel_rfl)) rfl ?_
   exact ⟨by first | rfl | (simp [qp, qo] <;> rfl) | (simp [*, qp, qo] <;> rfl), by repeat (first | (with_reducible first | exact HI0.out | apply IsS116.alloc | apply IsS116.drewN | apply IsS116.drew | apply IsS116.set_1 | apply (fun h_ => IsS116.far h_ NB0_101.out _) | apply (fun h_ => IsS116.far h_ NB0_108.out _)) | exact HI0.out), by repeat (first | (with_reducible first | exact HB.out | apply qc | apply qa | apply qb | refine qd ?_ (IsS116.ge HI0.out) | refine qd ?_ GE101.out | refine qd ?_ GE108.out) | exact HB.out), by repeat (first | (with_reducible first | exact HK.out | apply KeepBut.set_ | apply ql | apply qn | apply qm | refine qt ?_ GW101.out _ | refine qt ?_ GW108.out _) | exact HK.out)⟩
  ·replace c6 := Bool.eq_false_iff.mpr c6
   subst c6
   have H1 : (some (t102, t103, t104, (⟨#[]⟩ : ByteArray), t110)) = some (r1, r2, r3, r4, r5) := by rw [if_neg (show ¬ (false = true) by decide)] at H; exact H
   clear H
   have H := H1
   clear H1
   simp only [Option.some.injEq, Prod.mk.injEq] at H
   obtain ⟨rfl, rfl, rfl, rfl, rfl⟩ := H
   go_enter Try.func84, Try.ntmps84
   go_wp2_with (first | ((with_reducible refine gate_dst (N := 2) rfl ?_); refine box_event ?hg (N := 2) ?hd (cs := #[.string (⟨#[]⟩ : ByteArray), .int .i64 0, .int .i64 0, .string (⟨#[]⟩ : ByteArray)]) (t := 48) ?hr ?_; (case hd => rfl); (case hg => rfl); (case hr => first | (go_simp; done) | (go_simp; rfl)); intro gb101 hg w18 hbox hb; replace HB := Qz.mk (qr (by repeat (first | (with_reducible first | exact HB.out | apply qc | apply qa | apply qb | refine qd ?_ (IsS116.ge HI0.out)) | exact HB.out)) hb); have BK101 := Qz.mk (hbox); have GW101 := Qz.mk ((by rw [hg]; exact (keep_size (w := w) (g := g) (row := none) (by repeat (first | (with_reducible first | exact HK.out | apply KeepBut.set_ | apply ql | apply qn | apply qm) | exact HK.out))) : w.heap.size ≤ gb101)); have GE101 := Qz.mk ((Nat.le_trans HW0.out (by rw [hg]; exact (keep_size (w := w) (g := g) (row := none) (by repeat (first | (with_reducible first | exact HK.out | apply KeepBut.set_ | apply ql | apply qn | apply qm) | exact HK.out))) : w.heap.size ≤ gb101) : w0.heap.size ≤ gb101)); replace HK := Qz.mk (KeepBut.trans (by repeat (first | (with_reducible first | exact HK.out | apply KeepBut.set_ | apply ql | apply qn | apply qm) | exact HK.out)) (KeepBut.of_below hb g none) (.inl rfl)); have NB0_101 := Qz.mk ((by rw [hg]; exact Nat.ne_of_lt (IsS116.lt (show IsS116 w0 _ g s0_0 s0_1 from by repeat (first | (with_reducible first | exact HI0.out | apply IsS116.alloc | apply IsS116.drewN | apply IsS116.drew | apply IsS116.set_1) | exact HI0.out))) : g ≠ gb101)); have NB101_0 := Qz.mk ((by rw [hg]; exact Nat.ne_of_gt (IsS116.lt (show IsS116 w0 _ g s0_0 s0_1 from by repeat (first | (with_reducible first | exact HI0.out | apply IsS116.alloc | apply IsS116.drewN | apply IsS116.drew | apply IsS116.set_1) | exact HI0.out))) : gb101 ≠ g)); replace HI0 := Qz.mk (IsS116.below (by repeat (first | (with_reducible first | exact HI0.out | apply IsS116.alloc | apply IsS116.drewN | apply IsS116.drew | apply IsS116.set_1) | exact HI0.out)) hb); clear hb hbox hg) | ((with_reducible refine qq (f := 106) rfl ?_); refine qu (some 5) rfl rfl Try.func106 (by kernel_rfl) rfl #[.pointer (some ⟨g, 0, none⟩)] rfl (by (try simp only [List.map_toArray, List.map_cons, List.map_nil]); first | done | rfl) ?_; (with_reducible refine (spec_l1Rd_key.calls k g s0_0 s0_1 t102 t103 t104 t105 w0 _ ?side1 ?side2 A2.out).mono ?_); (case side1 => repeat (first | (with_reducible first | exact HI0.out | apply IsS116.alloc | apply IsS116.drewN | apply IsS116.drew | apply IsS116.set_1 | apply (fun h_ => IsS116.far h_ NB0_101.out _)) | exact HI0.out)); (case side2 => repeat (first | (with_reducible first | exact HB.out | apply qc | apply qa | apply qb | refine qd ?_ (IsS116.ge HI0.out) | refine qd ?_ GE101.out) | exact HB.out)); rintro e w19 ⟨rfl, hi, hb, hk⟩; refine ⟨_, rfl, ?_⟩; replace BK101 := Qz.mk (KeepBut.blk hk (g' := gb101) (o := .cells #[.string (⟨#[]⟩ : ByteArray), .int .i64 0, .int .i64 0, .string (⟨#[]⟩ : ByteArray)] 48 (0, 0)) (by (with_reducible repeat (first | refine qh ?_ _ | refine qk ?_ | refine qi ?_ _)); exact BK101.out) NB101_0.out (by simp)); replace HK := Qz.mk (KeepBut.trans (by repeat (first | (with_reducible first | exact HK.out | apply KeepBut.set_ | apply ql | apply qn | apply qm | refine qt ?_ GW101.out _) | exact HK.out)) hk (.inl rfl)); replace HB := Qz.mk (hb); replace HI0 := Qz.mk (hi); (try clear hb); (try clear hk); (try clear hi)) | ((with_reducible refine qq (f := 107) rfl ?_); refine qu (some 7) rfl rfl Try.func107 (by kernel_rfl) rfl #[.pointer (some ⟨g, 0, none⟩)] rfl (by (try simp only [List.map_toArray, List.map_cons, List.map_nil]); first | done | rfl) ?_; (with_reducible refine (spec_l1Rd_value.calls g s0_0 t105 t106 t107 w0 _ ?side1 ?side2 A3.out).mono ?_); (case side1 => repeat (first | (with_reducible first | exact HI0.out | apply IsS116.alloc | apply IsS116.drewN | apply IsS116.drew | apply IsS116.set_1 | apply (fun h_ => IsS116.far h_ NB0_101.out _)) | exact HI0.out)); (case side2 => repeat (first | (with_reducible first | exact HB.out | apply qc | apply qa | apply qb | refine qd ?_ (IsS116.ge HI0.out) | refine qd ?_ GE101.out) | exact HB.out)); rintro e w20 ⟨rfl, hi, hb, hk⟩; refine ⟨_, rfl, ?_⟩; replace BK101 := Qz.mk (KeepBut.blk hk (g' := gb101) (o := .cells #[.string (⟨#[]⟩ : ByteArray), .int .i64 0, .int .i64 0, .string (⟨#[]⟩ : ByteArray)] 48 (0, 0)) (by (with_reducible repeat (first | refine qh ?_ _ | refine qk ?_ | refine qi ?_ _)); exact BK101.out) NB101_0.out (by simp)); replace HK := Qz.mk (KeepBut.trans (by repeat (first | (with_reducible first | exact HK.out | apply KeepBut.set_ | apply ql | apply qn | apply qm | refine qt ?_ GW101.out _) | exact HK.out)) hk (.inl rfl)); replace HB := Qz.mk (hb); replace HI0 := Qz.mk (hi); (try clear hb); (try clear hk); (try clear hi)) | ((with_reducible refine gate_dst (N := 3) rfl ?_); refine box_event ?hg (N := 3) ?hd (cs := #[.string (⟨#[]⟩ : ByteArray), .int .i64 0, .int .i64 0, .string (⟨#[]⟩ : ByteArray)]) (t := 48) ?hr ?_; (case hd => rfl); (case hg => rfl); (case hr => first | (go_simp; done) | (go_simp; rfl)); intro gb108 hg w21 hbox hb; replace HB := Qz.mk (qr (by repeat (first | (with_reducible first | exact HB.out | apply qc | apply qa | apply qb | refine qd ?_ (IsS116.ge HI0.out) | refine qd ?_ GE101.out) | exact HB.out)) hb); have BK108 := Qz.mk (hbox); have GW108 := Qz.mk ((by rw [hg]; exact (keep_size (w := w) (g := g) (row := none) (by repeat (first | (with_reducible first | exact HK.out | apply KeepBut.set_ | apply ql | apply qn | apply qm | refine qt ?_ GW101.out _) | exact HK.out))) : w.heap.size ≤ gb108)); have GE108 := Qz.mk ((Nat.le_trans HW0.out (by rw [hg]; exact (keep_size (w := w) (g := g) (row := none) (by repeat (first | (with_reducible first | exact HK.out | apply KeepBut.set_ | apply ql | apply qn | apply qm | refine qt ?_ GW101.out _) | exact HK.out))) : w.heap.size ≤ gb108) : w0.heap.size ≤ gb108)); replace HK := Qz.mk (KeepBut.trans (by repeat (first | (with_reducible first | exact HK.out | apply KeepBut.set_ | apply ql | apply qn | apply qm | refine qt ?_ GW101.out _) | exact HK.out)) (KeepBut.of_below hb g none) (.inl rfl)); have NB101_108 := Qz.mk ((by rw [hg]; exact Nat.ne_of_lt (blk_lt (g := gb101) (o := .cells #[.string (⟨#[]⟩ : ByteArray), .int .i64 0, .int .i64 0, .string (⟨#[]⟩ : ByteArray)] 48 (0, 0)) (by (with_reducible repeat (first | refine qh ?_ _ | refine qk ?_ | refine qi ?_ _)); exact BK101.out)) : gb101 ≠ gb108)); have NB108_101 := Qz.mk ((by rw [hg]; exact Nat.ne_of_gt (blk_lt (g := gb101) (o := .cells #[.string (⟨#[]⟩ : ByteArray), .int .i64 0, .int .i64 0, .string (⟨#[]⟩ : ByteArray)] 48 (0, 0)) (by (with_reducible repeat (first | refine qh ?_ _ | refine qk ?_ | refine qi ?_ _)); exact BK101.out)) : gb108 ≠ gb101)); replace BK101 := Qz.mk (qx (g := gb101) (o := .cells #[.string (⟨#[]⟩ : ByteArray), .int .i64 0, .int .i64 0, .string (⟨#[]⟩ : ByteArray)] 48 (0, 0)) (by (with_reducible repeat (first | refine qh ?_ _ | refine qk ?_ | refine qi ?_ _)); exact BK101.out) hb); have NB0_108 := Qz.mk ((by rw [hg]; exact Nat.ne_of_lt (IsS116.lt (show IsS116 w0 _ g s0_0 t107 from by repeat (first | (with_reducible first | exact HI0.out | apply IsS116.alloc | apply IsS116.drewN | apply IsS116.drew | apply IsS116.set_1 | apply (fun h_ => IsS116.far h_ NB0_101.out _)) | exact HI0.out))) : g ≠ gb108)); have NB108_0 := Qz.mk ((by rw [hg]; exact Nat.ne_of_gt (IsS116.lt (show IsS116 w0 _ g s0_0 t107 from by repeat (first | (with_reducible first | exact HI0.out | apply IsS116.alloc | apply IsS116.drewN | apply IsS116.drew | apply IsS116.set_1 | apply (fun h_ => IsS116.far h_ NB0_101.out _)) | exact HI0.out))) : gb108 ≠ g)); replace HI0 := Qz.mk (IsS116.below (by repeat (first | (with_reducible first | exact HI0.out | apply IsS116.alloc | apply IsS116.drewN | apply IsS116.drew | apply IsS116.set_1 | apply (fun h_ => IsS116.far h_ NB0_101.out _)) | exact HI0.out)) hb); clear hb hbox hg; have hnb22 := NB108_101.out; have hnc22 := NB101_108.out; have hnb23 := NB108_0.out; have hnc23 := NB0_108.out; have hcz24_0 : w21.cell? ⟨gb108, 0, none⟩ = some (.string (⟨#[]⟩ : ByteArray)) := (qe BK108.out 0).trans rfl; have hcz24_1 : w21.cell? ⟨gb108, 1, none⟩ = some (.int .i64 0) := (qe BK108.out 1).trans rfl; have hcz24_2 : w21.cell? ⟨gb108, 2, none⟩ = some (.int .i64 0) := (qe BK108.out 2).trans rfl; have hcz24_3 : w21.cell? ⟨gb108, 3, none⟩ = some (.string (⟨#[]⟩ : ByteArray)) := (qe BK108.out 3).trans rfl; have hfz24_0 := qf BK108.out 0; have hfz24_1 := qf BK108.out 1; have hfz24_2 := qf BK108.out 2; have hfz24_3 := qf BK108.out 3) | (go_at_call 96; (with_reducible refine (spec_l1Rd_once.calls g s0_0 t107 12 false t110 w0 _ ?side1 ?side2 A5.out).mono ?_); (case side1 => repeat (first | (with_reducible first | exact HI0.out | apply IsS116.alloc | apply IsS116.drewN | apply IsS116.drew | apply IsS116.set_1 | apply (fun h_ => IsS116.far h_ NB0_101.out _) | apply (fun h_ => IsS116.far h_ NB0_108.out _)) | exact HI0.out)); (case side2 => repeat (first | (with_reducible first | exact HB.out | apply qc | apply qa | apply qb | refine qd ?_ (IsS116.ge HI0.out) | refine qd ?_ GE101.out | refine qd ?_ GE108.out) | exact HB.out)); rintro e w25 ⟨rfl, hi, hb, hk⟩; replace BK101 := Qz.mk (KeepBut.blk hk (g' := gb101) (o := .cells #[.string (⟨#[]⟩ : ByteArray), .int .i64 0, .int .i64 0, .string (⟨#[]⟩ : ByteArray)] 48 (0, 0)) (by (with_reducible repeat (first | refine qh ?_ _ | refine qk ?_ | refine qi ?_ _)); refine blk_far ?_ NB101_108.out _; (with_reducible repeat (first | refine qh ?_ _ | refine qk ?_ | refine qi ?_ _)); refine blk_far ?_ NB101_108.out _; (with_reducible repeat (first | refine qh ?_ _ | refine qk ?_ | refine qi ?_ _)); refine blk_far ?_ NB101_108.out _; (with_reducible repeat (first | refine qh ?_ _ | refine qk ?_ | refine qi ?_ _)); refine blk_far ?_ NB101_108.out _; (with_reducible repeat (first | refine qh ?_ _ | refine qk ?_ | refine qi ?_ _)); exact BK101.out) NB101_0.out (by simp)); replace BK108 := Qz.mk (KeepBut.blk hk (g' := gb108) (o := .cells #[.string t102, .int .i64 t103, .int .i64 t104, .string t106] 48 (0, 0)) (by (with_reducible repeat (first | refine qh ?_ _ | refine qk ?_ | refine qi ?_ _)); refine blk_put (cs := #[.string t102, .int .i64 t103, .int .i64 t104, .string (⟨#[]⟩ : ByteArray)]) ?_ 3 _ rfl; (with_reducible repeat (first | refine qh ?_ _ | refine qk ?_ | refine qi ?_ _)); refine blk_put (cs := #[.string t102, .int .i64 t103, .int .i64 0, .string (⟨#[]⟩ : ByteArray)]) ?_ 2 _ rfl; (with_reducible repeat (first | refine qh ?_ _ | refine qk ?_ | refine qi ?_ _)); refine blk_put (cs := #[.string t102, .int .i64 0, .int .i64 0, .string (⟨#[]⟩ : ByteArray)]) ?_ 1 _ rfl; (with_reducible repeat (first | refine qh ?_ _ | refine qk ?_ | refine qi ?_ _)); refine blk_put (cs := #[.string (⟨#[]⟩ : ByteArray), .int .i64 0, .int .i64 0, .string (⟨#[]⟩ : ByteArray)]) ?_ 0 _ rfl; (with_reducible repeat (first | refine qh ?_ _ | refine qk ?_ | refine qi ?_ _)); exact BK108.out) NB108_0.out (by simp)); replace HK := Qz.mk (KeepBut.trans (by repeat (first | (with_reducible first | exact HK.out | apply KeepBut.set_ | apply ql | apply qn | apply qm | refine qt ?_ GW101.out _ | refine qt ?_ GW108.out _) | exact HK.out)) hk (.inl rfl)); replace HB := Qz.mk (hb); replace HI0 := Qz.mk (hi); (try clear hb); (try clear hk); (try clear hi); have hcz26_0 : w25.cell? ⟨gb108, 0, none⟩ = some (.string t102) := (qe BK108.out 0).trans rfl; have hcz26_1 : w25.cell? ⟨gb108, 1, none⟩ = some (.int .i64 t103) := (qe BK108.out 1).trans rfl; have hcz26_2 : w25.cell? ⟨gb108, 2, none⟩ = some (.int .i64 t104) := (qe BK108.out 2).trans rfl; have hcz26_3 : w25.cell? ⟨gb108, 3, none⟩ = some (.string t106) := (qe BK108.out 3).trans rfl; have hfz26_0 := qf BK108.out 0; have hfz26_1 := qf BK108.out 1; have hfz26_2 := qf BK108.out 2; have hfz26_3 := qf BK108.out 3; have hnb27 := NB101_0.out; have hnc27 := NB0_101.out; have hcz28_0 : w25.cell? ⟨gb101, 0, none⟩ = some (.string (⟨#[]⟩ : ByteArray)) := (qe BK101.out 0).trans rfl; have hcz28_1 : w25.cell? ⟨gb101, 1, none⟩ = some (.int .i64 0) := (qe BK101.out 1).trans rfl; have hcz28_2 : w25.cell? ⟨gb101, 2, none⟩ = some (.int .i64 0) := (qe BK101.out 2).trans rfl; have hcz28_3 : w25.cell? ⟨gb101, 3, none⟩ = some (.string (⟨#[]⟩ : ByteArray)) := (qe BK101.out 3).trans rfl; have hfz28_0 := qf BK101.out 0; have hfz28_1 := qf BK101.out 1; have hfz28_2 := qf BK101.out 2; have hfz28_3 := qf BK101.out 3))
   refine bodyPost_ret (results_cell_row rfl _ _ gb101 48 #[.string t102, .int .i64 t103, .int .i64 t104, .string (⟨#[]⟩ : ByteArray)] (0, 0) _ rfl (by (with_reducible repeat (first | refine qh ?_ _ | refine qk ?_ | refine qi ?_ _)); refine blk_put (cs := #[.string t102, .int .i64 t103, .int .i64 t104, .string (⟨#[]⟩ : ByteArray)]) ?_ 3 _ rfl; (with_reducible repeat (first | refine qh ?_ _ | refine qk ?_ | refine qi ?_ _)); refine blk_put (cs := #[.string t102, .int .i64 t103, .int .i64 0, .string (⟨#[]⟩ : ByteArray)]) ?_ 2 _ rfl; (with_reducible repeat (first | refine qh ?_ _ | refine qk ?_ | refine qi ?_ _)); refine blk_put (cs := #[.string t102, .int .i64 0, .int .i64 0, .string (⟨#[]⟩ : ByteArray)]) ?_ 1 _ rfl; (with_reducible repeat (first | refine qh ?_ _ | refine qk ?_ | refine qi ?_ _)); refine blk_put (cs := #[.string (⟨#[]⟩ : ByteArray), .int .i64 0, .int .i64 0, .string (⟨#[]⟩ : ByteArray)]) ?_ 0 _ rfl; (with_reducible repeat (first | refine qh ?_ _ | refine qk ?_ | refine qi ?_ _)); refine blk_far ?_ NB101_108.out _; (with_reducible repeat (first | refine qh ?_ _ | refine qk ?_ | refine qi ?_ _)); exact BK101.out) Try.underlying48 rfl (by kernel_rfl)) rfl ?_
   exact ⟨by first | rfl | (simp [qp, qo] <;> rfl) | (simp [*, qp, qo] <;> rfl), by repeat (first | (with_reducible first | exact HI0.out | apply IsS116.alloc | apply IsS116.drewN | apply IsS116.drew | apply IsS116.set_1 | apply (fun h_ => IsS116.far h_ NB0_101.out _) | apply (fun h_ => IsS116.far h_ NB0_108.out _)) | exact HI0.out), by repeat (first | (with_reducible first | exact HB.out | apply qc | apply qa | apply qb | refine qd ?_ (IsS116.ge HI0.out) | refine qd ?_ GE101.out | refine qd ?_ GE108.out) | exact HB.out), by repeat (first | (with_reducible first | exact HK.out | apply KeepBut.set_ | apply ql | apply qn | apply qm | refine qt ?_ GW101.out _ | refine qt ?_ GW108.out _) | exact HK.out)⟩
 ·rw [if_neg c4] at H
  have c4b0 : (t104 == 0) = false := beq_eq_false_iff_ne.mpr c4
  have c4b1 : (t104 != 0) = true := bne_iff_ne.mpr c4
  simp only [Option.some.injEq, Prod.mk.injEq] at H
  obtain ⟨rfl, rfl, rfl, rfl, rfl⟩ := H
  go_enter Try.func84, Try.ntmps84
  go_wp2_with (first | ((with_reducible refine gate_dst (N := 2) rfl ?_); refine box_event ?hg (N := 2) ?hd (cs := #[.string (⟨#[]⟩ : ByteArray), .int .i64 0, .int .i64 0, .string (⟨#[]⟩ : ByteArray)]) (t := 48) ?hr ?_; (case hd => rfl); (case hg => rfl); (case hr => first | (go_simp; done) | (go_simp; rfl)); intro gb101 hg w29 hbox hb; replace HB := Qz.mk (qr (by repeat (first | (with_reducible first | exact HB.out | apply qc | apply qa | apply qb | refine qd ?_ (IsS116.ge HI0.out)) | exact HB.out)) hb); have BK101 := Qz.mk (hbox); have GW101 := Qz.mk ((by rw [hg]; exact (keep_size (w := w) (g := g) (row := none) (by repeat (first | (with_reducible first | exact HK.out | apply KeepBut.set_ | apply ql | apply qn | apply qm) | exact HK.out))) : w.heap.size ≤ gb101)); have GE101 := Qz.mk ((Nat.le_trans HW0.out (by rw [hg]; exact (keep_size (w := w) (g := g) (row := none) (by repeat (first | (with_reducible first | exact HK.out | apply KeepBut.set_ | apply ql | apply qn | apply qm) | exact HK.out))) : w.heap.size ≤ gb101) : w0.heap.size ≤ gb101)); replace HK := Qz.mk (KeepBut.trans (by repeat (first | (with_reducible first | exact HK.out | apply KeepBut.set_ | apply ql | apply qn | apply qm) | exact HK.out)) (KeepBut.of_below hb g none) (.inl rfl)); have NB0_101 := Qz.mk ((by rw [hg]; exact Nat.ne_of_lt (IsS116.lt (show IsS116 w0 _ g s0_0 s0_1 from by repeat (first | (with_reducible first | exact HI0.out | apply IsS116.alloc | apply IsS116.drewN | apply IsS116.drew | apply IsS116.set_1) | exact HI0.out))) : g ≠ gb101)); have NB101_0 := Qz.mk ((by rw [hg]; exact Nat.ne_of_gt (IsS116.lt (show IsS116 w0 _ g s0_0 s0_1 from by repeat (first | (with_reducible first | exact HI0.out | apply IsS116.alloc | apply IsS116.drewN | apply IsS116.drew | apply IsS116.set_1) | exact HI0.out))) : gb101 ≠ g)); replace HI0 := Qz.mk (IsS116.below (by repeat (first | (with_reducible first | exact HI0.out | apply IsS116.alloc | apply IsS116.drewN | apply IsS116.drew | apply IsS116.set_1) | exact HI0.out)) hb); clear hb hbox hg) | ((with_reducible refine qq (f := 106) rfl ?_); refine qu (some 5) rfl rfl Try.func106 (by kernel_rfl) rfl #[.pointer (some ⟨g, 0, none⟩)] rfl (by (try simp only [List.map_toArray, List.map_cons, List.map_nil]); first | done | rfl) ?_; (with_reducible refine (spec_l1Rd_key.calls k g s0_0 s0_1 t102 t103 t104 t105 w0 _ ?side1 ?side2 A2.out).mono ?_); (case side1 => repeat (first | (with_reducible first | exact HI0.out | apply IsS116.alloc | apply IsS116.drewN | apply IsS116.drew | apply IsS116.set_1 | apply (fun h_ => IsS116.far h_ NB0_101.out _)) | exact HI0.out)); (case side2 => repeat (first | (with_reducible first | exact HB.out | apply qc | apply qa | apply qb | refine qd ?_ (IsS116.ge HI0.out) | refine qd ?_ GE101.out) | exact HB.out)); rintro e w30 ⟨rfl, hi, hb, hk⟩; refine ⟨_, rfl, ?_⟩; replace BK101 := Qz.mk (KeepBut.blk hk (g' := gb101) (o := .cells #[.string (⟨#[]⟩ : ByteArray), .int .i64 0, .int .i64 0, .string (⟨#[]⟩ : ByteArray)] 48 (0, 0)) (by (with_reducible repeat (first | refine qh ?_ _ | refine qk ?_ | refine qi ?_ _)); exact BK101.out) NB101_0.out (by simp)); replace HK := Qz.mk (KeepBut.trans (by repeat (first | (with_reducible first | exact HK.out | apply KeepBut.set_ | apply ql | apply qn | apply qm | refine qt ?_ GW101.out _) | exact HK.out)) hk (.inl rfl)); replace HB := Qz.mk (hb); replace HI0 := Qz.mk (hi); (try clear hb); (try clear hk); (try clear hi)) | ((with_reducible refine qq (f := 107) rfl ?_); refine qu (some 7) rfl rfl Try.func107 (by kernel_rfl) rfl #[.pointer (some ⟨g, 0, none⟩)] rfl (by (try simp only [List.map_toArray, List.map_cons, List.map_nil]); first | done | rfl) ?_; (with_reducible refine (spec_l1Rd_value.calls g s0_0 t105 t106 t107 w0 _ ?side1 ?side2 A3.out).mono ?_); (case side1 => repeat (first | (with_reducible first | exact HI0.out | apply IsS116.alloc | apply IsS116.drewN | apply IsS116.drew | apply IsS116.set_1 | apply (fun h_ => IsS116.far h_ NB0_101.out _)) | exact HI0.out)); (case side2 => repeat (first | (with_reducible first | exact HB.out | apply qc | apply qa | apply qb | refine qd ?_ (IsS116.ge HI0.out) | refine qd ?_ GE101.out) | exact HB.out)); rintro e w31 ⟨rfl, hi, hb, hk⟩; refine ⟨_, rfl, ?_⟩; replace BK101 := Qz.mk (KeepBut.blk hk (g' := gb101) (o := .cells #[.string (⟨#[]⟩ : ByteArray), .int .i64 0, .int .i64 0, .string (⟨#[]⟩ : ByteArray)] 48 (0, 0)) (by (with_reducible repeat (first | refine qh ?_ _ | refine qk ?_ | refine qi ?_ _)); exact BK101.out) NB101_0.out (by simp)); replace HK := Qz.mk (KeepBut.trans (by repeat (first | (with_reducible first | exact HK.out | apply KeepBut.set_ | apply ql | apply qn | apply qm | refine qt ?_ GW101.out _) | exact HK.out)) hk (.inl rfl)); replace HB := Qz.mk (hb); replace HI0 := Qz.mk (hi); (try clear hb); (try clear hk); (try clear hi)) | ((with_reducible refine gate_dst (N := 3) rfl ?_); refine box_event ?hg (N := 3) ?hd (cs := #[.string (⟨#[]⟩ : ByteArray), .int .i64 0, .int .i64 0, .string (⟨#[]⟩ : ByteArray)]) (t := 48) ?hr ?_; (case hd => rfl); (case hg => rfl); (case hr => first | (go_simp; done) | (go_simp; rfl)); intro gb108 hg w32 hbox hb; replace HB := Qz.mk (qr (by repeat (first | (with_reducible first | exact HB.out | apply qc | apply qa | apply qb | refine qd ?_ (IsS116.ge HI0.out) | refine qd ?_ GE101.out) | exact HB.out)) hb); have BK108 := Qz.mk (hbox); have GW108 := Qz.mk ((by rw [hg]; exact (keep_size (w := w) (g := g) (row := none) (by repeat (first | (with_reducible first | exact HK.out | apply KeepBut.set_ | apply ql | apply qn | apply qm | refine qt ?_ GW101.out _) | exact HK.out))) : w.heap.size ≤ gb108)); have GE108 := Qz.mk ((Nat.le_trans HW0.out (by rw [hg]; exact (keep_size (w := w) (g := g) (row := none) (by repeat (first | (with_reducible first | exact HK.out | apply KeepBut.set_ | apply ql | apply qn | apply qm | refine qt ?_ GW101.out _) | exact HK.out))) : w.heap.size ≤ gb108) : w0.heap.size ≤ gb108)); replace HK := Qz.mk (KeepBut.trans (by repeat (first | (with_reducible first | exact HK.out | apply KeepBut.set_ | apply ql | apply qn | apply qm | refine qt ?_ GW101.out _) | exact HK.out)) (KeepBut.of_below hb g none) (.inl rfl)); have NB101_108 := Qz.mk ((by rw [hg]; exact Nat.ne_of_lt (blk_lt (g := gb101) (o := .cells #[.string (⟨#[]⟩ : ByteArray), .int .i64 0, .int .i64 0, .string (⟨#[]⟩ : ByteArray)] 48 (0, 0)) (by (with_reducible repeat (first | refine qh ?_ _ | refine qk ?_ | refine qi ?_ _)); exact BK101.out)) : gb101 ≠ gb108)); have NB108_101 := Qz.mk ((by rw [hg]; exact Nat.ne_of_gt (blk_lt (g := gb101) (o := .cells #[.string (⟨#[]⟩ : ByteArray), .int .i64 0, .int .i64 0, .string (⟨#[]⟩ : ByteArray)] 48 (0, 0)) (by (with_reducible repeat (first | refine qh ?_ _ | refine qk ?_ | refine qi ?_ _)); exact BK101.out)) : gb108 ≠ gb101)); replace BK101 := Qz.mk (qx (g := gb101) (o := .cells #[.string (⟨#[]⟩ : ByteArray), .int .i64 0, .int .i64 0, .string (⟨#[]⟩ : ByteArray)] 48 (0, 0)) (by (with_reducible repeat (first | refine qh ?_ _ | refine qk ?_ | refine qi ?_ _)); exact BK101.out) hb); have NB0_108 := Qz.mk ((by rw [hg]; exact Nat.ne_of_lt (IsS116.lt (show IsS116 w0 _ g s0_0 t107 from by repeat (first | (with_reducible first | exact HI0.out | apply IsS116.alloc | apply IsS116.drewN | apply IsS116.drew | apply IsS116.set_1 | apply (fun h_ => IsS116.far h_ NB0_101.out _)) | exact HI0.out))) : g ≠ gb108)); have NB108_0 := Qz.mk ((by rw [hg]; exact Nat.ne_of_gt (IsS116.lt (show IsS116 w0 _ g s0_0 t107 from by repeat (first | (with_reducible first | exact HI0.out | apply IsS116.alloc | apply IsS116.drewN | apply IsS116.drew | apply IsS116.set_1 | apply (fun h_ => IsS116.far h_ NB0_101.out _)) | exact HI0.out))) : gb108 ≠ g)); replace HI0 := Qz.mk (IsS116.below (by repeat (first | (with_reducible first | exact HI0.out | apply IsS116.alloc | apply IsS116.drewN | apply IsS116.drew | apply IsS116.set_1 | apply (fun h_ => IsS116.far h_ NB0_101.out _)) | exact HI0.out)) hb); clear hb hbox hg; have hnb33 := NB108_101.out; have hnc33 := NB101_108.out; have hnb34 := NB108_0.out; have hnc34 := NB0_108.out; have hcz35_0 : w32.cell? ⟨gb108, 0, none⟩ = some (.string (⟨#[]⟩ : ByteArray)) := (qe BK108.out 0).trans rfl; have hcz35_1 : w32.cell? ⟨gb108, 1, none⟩ = some (.int .i64 0) := (qe BK108.out 1).trans rfl; have hcz35_2 : w32.cell? ⟨gb108, 2, none⟩ = some (.int .i64 0) := (qe BK108.out 2).trans rfl; have hcz35_3 : w32.cell? ⟨gb108, 3, none⟩ = some (.string (⟨#[]⟩ : ByteArray)) := (qe BK108.out 3).trans rfl; have hfz35_0 := qf BK108.out 0; have hfz35_1 := qf BK108.out 1; have hfz35_2 := qf BK108.out 2; have hfz35_3 := qf BK108.out 3; have hnb36 := NB101_0.out; have hnc36 := NB0_101.out; have hcz37_0 : w32.cell? ⟨gb101, 0, none⟩ = some (.string (⟨#[]⟩ : ByteArray)) := (qe BK101.out 0).trans rfl; have hcz37_1 : w32.cell? ⟨gb101, 1, none⟩ = some (.int .i64 0) := (qe BK101.out 1).trans rfl; have hcz37_2 : w32.cell? ⟨gb101, 2, none⟩ = some (.int .i64 0) := (qe BK101.out 2).trans rfl; have hcz37_3 : w32.cell? ⟨gb101, 3, none⟩ = some (.string (⟨#[]⟩ : ByteArray)) := (qe BK101.out 3).trans rfl; have hfz37_0 := qf BK101.out 0; have hfz37_1 := qf BK101.out 1; have hfz37_2 := qf BK101.out 2; have hfz37_3 := qf BK101.out 3))
  refine bodyPost_ret (results_cell_row rfl _ _ gb101 48 #[.string t102, .int .i64 t103, .int .i64 t104, .string t106] (0, 0) _ rfl (by (with_reducible repeat (first | refine qh ?_ _ | refine qk ?_ | refine qi ?_ _)); refine blk_put (cs := #[.string t102, .int .i64 t103, .int .i64 t104, .string (⟨#[]⟩ : ByteArray)]) ?_ 3 _ rfl; (with_reducible repeat (first | refine qh ?_ _ | refine qk ?_ | refine qi ?_ _)); refine blk_put (cs := #[.string t102, .int .i64 t103, .int .i64 0, .string (⟨#[]⟩ : ByteArray)]) ?_ 2 _ rfl; (with_reducible repeat (first | refine qh ?_ _ | refine qk ?_ | refine qi ?_ _)); refine blk_put (cs := #[.string t102, .int .i64 0, .int .i64 0, .string (⟨#[]⟩ : ByteArray)]) ?_ 1 _ rfl; (with_reducible repeat (first | refine qh ?_ _ | refine qk ?_ | refine qi ?_ _)); refine blk_put (cs := #[.string (⟨#[]⟩ : ByteArray), .int .i64 0, .int .i64 0, .string (⟨#[]⟩ : ByteArray)]) ?_ 0 _ rfl; (with_reducible repeat (first | refine qh ?_ _ | refine qk ?_ | refine qi ?_ _)); refine blk_far ?_ NB101_108.out _; (with_reducible repeat (first | refine qh ?_ _ | refine qk ?_ | refine qi ?_ _)); refine blk_far ?_ NB101_108.out _; (with_reducible repeat (first | refine qh ?_ _ | refine qk ?_ | refine qi ?_ _)); refine blk_far ?_ NB101_108.out _; (with_reducible repeat (first | refine qh ?_ _ | refine qk ?_ | refine qi ?_ _)); refine blk_far ?_ NB101_108.out _; (with_reducible repeat (first | refine qh ?_ _ | refine qk ?_ | refine qi ?_ _)); exact BK101.out) Try.underlying48 rfl (by kernel_rfl)) rfl ?_
  exact ⟨by first | rfl | (simp [qp, qo] <;> rfl) | (simp [*, qp, qo] <;> rfl), by repeat (first | (with_reducible first | exact HI0.out | apply IsS116.alloc | apply IsS116.drewN | apply IsS116.drew | apply IsS116.set_1 | apply (fun h_ => IsS116.far h_ NB0_101.out _) | apply (fun h_ => IsS116.far h_ NB0_108.out _)) | exact HI0.out), by repeat (first | (with_reducible first | exact HB.out | apply qc | apply qa | apply qb | refine qd ?_ (IsS116.ge HI0.out) | refine qd ?_ GE101.out | refine qd ?_ GE108.out) | exact HB.out), by repeat (first | (with_reducible first | exact HK.out | apply KeepBut.set_ | apply ql | apply qn | apply qm | refine qt ?_ GW101.out _ | refine qt ?_ GW108.out _) | exact HK.out)⟩
end Go.Proofs.Ytbojfnijgmppbaa.P
end
