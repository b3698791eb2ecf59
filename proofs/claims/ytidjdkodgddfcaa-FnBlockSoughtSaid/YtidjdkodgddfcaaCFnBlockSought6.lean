/- Proved: the law FnBlockSought of the given program returns true for every input of its Go types and leaves each argument as it was; no condition. (Part 7 of 12.) -/
import Derived.Test.YtidjdkodgddfcaaCFnBlockSought4
import Derived.Test.YtidjdkodgddfcaaCFnBlockSought5
import Derived.Test.YtidjdkodgddfcaaCFnBlockSought0
section
namespace Go.Proofs.Ytidjdkodgddfcaa.P
open Go.RowKit Go.Proofs.YtidjdkodgddfcaaW.PrintWords Go.Proofs.YtidjdkodgddfcaaW.PrintLast Go.Proofs.YtidjdkodgddfcaaW.PrintMore
attribute [local go_sem] qh1 qg1 qi1 qf1 qd1 qk1 qj1 qy qx qe1 qc1
set_option linter.unusedVariables false
set_option linter.unusedSimpArgs false
theorem yq56 {P : Prop} (h : P := by repeat (first | (with_reducible first | exact HB.out | apply qc | apply qa | apply qb) | exact HB.out)) : P := h
def impl_PutVar.l0 : Nat → Int → List Int → Option (ByteArray)
 | 0, _, _ => none
 | k + 1, x0, x3 => if x0 ≥ 128 then (if x3.length < 140737488355328 then (impl_PutVar.l0 k (x0 / 128) (x3 ++ [Go.bits .or .u8 ((x0) % 256) 128])) else (none)) else (if x3.length < 140737488355328 then (some (strOfNums (x3 ++ [(x0) % 256]))) else (none))
def impl_PutVar.f (k : Nat) (a0 : Int) : Option (ByteArray) := impl_PutVar.l0 k a0 (([] : List Int))
set_option maxHeartbeats 8000000 in
set_option maxRecDepth 100000 in
theorem impl_PutVar.calls (k : Nat) (a0 : Int) (r : ByteArray) (w : World) (h : impl_PutVar.f k a0 = some r) :
  Calls Try.prog 186 #[.int .u64 a0] w fun e w' => e = .returned (.string r) ∧ Below w.heap.size w w' := by
 have HB := Qz.mk (Below.refl w.heap.size w)
 have H : (impl_PutVar.l0 k a0 (([] : List Int))) = some r := h
 clear h
 obtain ⟨y101, hy101⟩ : ∃ y_ : List Int, y_ = (([] : List Int)) := ⟨_, rfl⟩
 replace H : (impl_PutVar.l0 k a0 y101) = some r := by first | (rw [hy101]; with_reducible exact H) | (have H2_ := (Option.bind_some _ _).symm.trans H; rw [hy101]; with_reducible exact H2_) | (have H2_ := (Option.bind_some _ _).symm.trans H; with_reducible exact H2_) | with_reducible exact H | (rw [hy101]; exact H) | exact H
 have Ny101 := Qz.mk hy101
 clear hy101
 have H' := Qz.mk H
 clear H
 go_enter Try.func186, Try.ntmps186
 go_wp2_with (first | ((with_reducible refine qb1 (N := 4) rfl ?_); refine Kd.R_lit (Kd.int .u8) _ 5 ?hg (N := 4) ?hd (xs := ([] : List Int)) (inner := []) (ok := fun _ => True) (okp := fun _ => True) ?hr ?hp (fun _ hk => hk) trivial (Below.refl _ _) (Nat.le_refl _) (by simp) ?_; (case hd => rfl); (case hg => rfl); (case hr => first | (go_simp; done) | (go_simp; rfl)); (case hp => exact (Reps.none _ _)); intro v102 w2 ho3 hb hg_ hnew_; clear hg_ hnew_; (first | rw [← Ny101.out] at ho3 | (simp only [Int.reduceToNat] at ho3; rw [← Ny101.out] at ho3)); have HO103 := Qz.mk (Kd.R_lower ho3 (qv yq56)); replace HB := Qz.mk (ql yq56 hb); clear hb ho3))
 go_loopg [0, 3] k (fun kq v0 v3 w' => ∃ (x0_1 : Int) (x3_1 : List Int), v0 = .int .u64 x0_1 ∧ Qz (impl_PutVar.l0 kq x0_1 x3_1 = some r) ∧ Qz (kq ≤ k) ∧ Qz (Kd.R (Kd.int .u8) 5 w' w.heap.size (fun _ => True) v3 x3_1) ∧ Qz (Below w.heap.size w w'))
 case atStart => exact ⟨(a0), (y101), (by first | rfl | (simp; done) | (simp [*]; done)), H', ⟨Nat.le_refl _⟩, ⟨by (with_reducible repeat (first | apply Kd.R_alloc | apply Kd.R_drewN | apply Kd.R_drew)); exact HO103.out⟩, ⟨by repeat (first | (with_reducible first | exact HB.out | apply qc | apply qa | apply qb) | exact HB.out)⟩⟩
 case round =>
  clear H'
  try clear c1
  try clear p2
  obtain ⟨x0_1, x3_1, rfl, HA, HK1, HO_3, HB⟩ := hrel
  cases gk with
  | zero => exact absurd HA.out (by simp [impl_PutVar.l0])
  | succ k1 =>
   have H := HA.out
   clear HA
   simp only [impl_PutVar.l0] at H
   by_cases c4 : x0_1 ≥ 128
   ·rw [if_pos c4] at H
    have c4b0 : decide (128 ≤ x0_1) = true := decide_eq_true c4
    clear c4
    by_cases c5 : x3_1.length < 140737488355328
    ·rw [if_pos c5] at H
     have LMc5 := Qz.mk c5
     clear c5
     obtain ⟨y104, hy104⟩ : ∃ y_ : List Int, y_ = (x3_1 ++ [Go.bits .or .u8 ((x0_1) % 256) 128]) := ⟨_, rfl⟩
     replace H : (impl_PutVar.l0 k1 (x0_1 / 128) y104) = some r := by first | (rw [hy104]; with_reducible exact H) | (have H2_ := (Option.bind_some _ _).symm.trans H; rw [hy104]; with_reducible exact H2_) | (have H2_ := (Option.bind_some _ _).symm.trans H; with_reducible exact H2_) | with_reducible exact H | (rw [hy104]; exact H) | exact H
     have Ny104 := Qz.mk hy104
     clear hy104
     have H' := Qz.mk H
     clear H
     go_wp2_with (first | ((with_reducible refine gate_builtin (b := .append) (xs := #[.tmp 9, .tmp 13]) rfl ?_); at_builtin; refine Kd.R_append (Kd.int .u8) (w0 := w) w.heap.size rfl (.tmp 9) (.tmp 13) 42 5 (.int .u8 0) 1 rfl Try.underlying42 info5 rfl (by decide) (by omega) u3 x3_1 (Go.bits .or .u8 ((x0_1) % 256) 128) [.int .u8 (Go.bits .or .u8 ((x0_1) % 256) 128)] (fun _ => True) (fun _ => False) rfl rfl ?aP (fun _ hk => hk.elim) ?aF ?aO ?aB ?aS ?aL ?_; (case aP => exact rfl); (case aB => exact yq56); (case aF => exact (fun _ _ => trivial)); (case aO => exact (by (with_reducible repeat (first | apply Kd.R_alloc | apply Kd.R_drewN | apply Kd.R_drew)); exact HO_3.out)); (case aS => exact (qv yq56)); (case aL => have := LMc5.out; omega); intro v105 w6 ho hb hg hat; rw [← Ny104.out] at ho; have n0_ := Qz.mk (hb); have n1_ := Qz.mk (ho); clear HB; clear HO_3; have HB := n0_; have HO106 := n1_; clear n0_ n1_; clear ho hb hg hat))
     go_roundg k1
     case measure => have := HK1.out; omega
     case rel => exact ⟨(x0_1 / 128), (y104), (by first | rfl | (simp; done) | (simp [*]; done)), H', ⟨by have := HK1.out; omega⟩, ⟨by (with_reducible repeat (first | apply Kd.R_alloc | apply Kd.R_drewN | apply Kd.R_drew)); exact HO106.out⟩, ⟨by repeat (first | (with_reducible first | exact HB.out | apply qc | apply qa | apply qb) | exact HB.out)⟩⟩
    ·rw [if_neg c5] at H
     exact absurd H (by simp)
   ·rw [if_neg c4] at H
    have c4b0 : decide (128 ≤ x0_1) = false := decide_eq_false c4
    clear c4
    by_cases c7 : x3_1.length < 140737488355328
    ·rw [if_pos c7] at H
     have LMc7 := Qz.mk c7
     clear c7
     obtain ⟨y107, hy107⟩ : ∃ y_ : List Int, y_ = (x3_1 ++ [(x0_1) % 256]) := ⟨_, rfl⟩
     replace H : (some (strOfNums y107)) = some r := by first | (rw [hy107]; with_reducible exact H) | (have H2_ := (Option.bind_some _ _).symm.trans H; rw [hy107]; with_reducible exact H2_) | (have H2_ := (Option.bind_some _ _).symm.trans H; with_reducible exact H2_) | with_reducible exact H | (rw [hy107]; exact H) | exact H
     have Ny107 := Qz.mk hy107
     clear hy107
     obtain rfl := Option.some.inj H
     go_wp2_with (first | ((with_reducible refine gate_builtin (b := .append) (xs := #[.tmp 15, .tmp 18]) rfl ?_); at_builtin; refine Kd.R_append (Kd.int .u8) (w0 := w) w.heap.size rfl (.tmp 15) (.tmp 18) 42 5 (.int .u8 0) 1 rfl Try.underlying42 info5 rfl (by decide) (by omega) u3 x3_1 ((x0_1) % 256) [.int .u8 ((x0_1) % 256)] (fun _ => True) (fun _ => False) rfl rfl ?aP (fun _ hk => hk.elim) ?aF ?aO ?aB ?aS ?aL ?_; (case aP => exact rfl); (case aB => exact yq56); (case aF => exact (fun _ _ => trivial)); (case aO => exact (by (with_reducible repeat (first | apply Kd.R_alloc | apply Kd.R_drewN | apply Kd.R_drew)); exact HO_3.out)); (case aS => exact (qv yq56)); (case aL => have := LMc7.out; omega); intro v108 w8 ho hb hg hat; rw [← Ny107.out] at ho; have n0_ := Qz.mk (hb); have n1_ := Qz.mk (ho); clear HB; clear HO_3; have HB := n0_; have HO109 := n1_; clear n0_ n1_; clear ho hb hg hat; have hcv9 := own_string (P := Try.prog) Try.underlying42 Try.underlying5 Try.underlying9 (Kd.own_of_R HO109.out)))
     go_ret
     exact ⟨by first | rfl | (simp [qn, qm] <;> rfl) | (simp [*, qn, qm] <;> rfl), by repeat (first | (with_reducible first | exact HB.out | apply qc | apply qa | apply qb) | exact HB.out)⟩
    ·rw [if_neg c7] at H
     exact absurd H (by simp)
def impl_putInt.f (k : Nat) (a0 : Int) : Option (ByteArray) := (impl_PutVar.f k (IntKind.u64.wrap (a0))).bind fun t101 => (some t101)
set_option maxHeartbeats 8000000 in
set_option maxRecDepth 100000 in
theorem impl_putInt.calls (k : Nat) (a0 : Int) (r : ByteArray) (w : World) (h : impl_putInt.f k a0 = some r) :
  Calls Try.prog 148 #[.int .i64 a0] w fun e w' => e = .returned (.string r) ∧ Below w.heap.size w w' := by
 have HB := Qz.mk (Below.refl w.heap.size w)
 have H : ((impl_PutVar.f k (IntKind.u64.wrap (a0))).bind fun t101 => (some t101)) = some r := h
 clear h
 replace H := Option.bind_eq_some_iff.mp H
 obtain ⟨t101, A20, H⟩ := H
 replace H : (some t101) = some r := H
 have A2 := Qz.mk A20
 clear A20
 obtain rfl := Option.some.inj H
 go_enter Try.func148, Try.ntmps148
 go_wp2_with (first | ((with_reducible refine qj (f := 186) rfl ?_); refine qt (some 5) rfl rfl Try.func186 (by kernel_rfl) rfl #[.int .u64 (IntKind.u64.wrap (a0))] rfl (by (try simp only [List.map_toArray, List.map_cons, List.map_nil]); first | done | rfl | (simp only [List.length_drop, List.length_take]; rfl) | (rw [IntWalk.u64_in _ (by omega)] <;> rfl)) ?_; (with_reducible refine (impl_PutVar.calls k (IntKind.u64.wrap (a0)) t101 _ A2.out).mono ?_); rintro e w3 ⟨rfl, hb⟩; refine ⟨_, rfl, ?_⟩; replace HB := Qz.mk (ql (by repeat (first | (with_reducible first | exact HB.out | apply qc | apply qa | apply qb) | exact HB.out)) hb); (try clear hb)))
 go_ret
 exact ⟨by first | rfl | (simp [qn, qm] <;> rfl) | (simp [*, qn, qm] <;> rfl), by repeat (first | (with_reducible first | exact HB.out | apply qc | apply qa | apply qb) | exact HB.out)⟩
def impl_PutText.f (k : Nat) (a0 : ByteArray) : Option (ByteArray) := (impl_PutVar.f k (IntKind.u64.wrap ((a0.size : Int)))).bind fun t101 => (if t101.size + a0.size ≤ 9223372036854775807 then (some (t101 ++ a0)) else (none))
set_option maxHeartbeats 8000000 in
set_option maxRecDepth 100000 in
theorem impl_PutText.calls (k : Nat) (a0 : ByteArray) (r : ByteArray) (w : World) (h : impl_PutText.f k a0 = some r) :
  Calls Try.prog 149 #[.string a0] w fun e w' => e = .returned (.string r) ∧ Below w.heap.size w w' := by
 have HB := Qz.mk (Below.refl w.heap.size w)
 have H : ((impl_PutVar.f k (IntKind.u64.wrap ((a0.size : Int)))).bind fun t101 => (if t101.size + a0.size ≤ 9223372036854775807 then (some (t101 ++ a0)) else (none))) = some r := h
 clear h
 replace H := Option.bind_eq_some_iff.mp H
 obtain ⟨t101, A20, H⟩ := H
 replace H : (if t101.size + a0.size ≤ 9223372036854775807 then (some (t101 ++ a0)) else (none)) = some r := H
 have A2 := Qz.mk A20
 clear A20
 by_cases c3 : t101.size + a0.size ≤ 9223372036854775807
 ·rw [if_pos c3] at H
  have c3b0 := eq_true c3
  have c3b1 : decide (t101.size + a0.size ≤ 9223372036854775807) = true := decide_eq_true c3
  try have c3b2 : (9223372036854775807 < t101.size + a0.size) = False := eq_false (Nat.not_lt.2 c3)
  obtain rfl := Option.some.inj H
  go_enter Try.func149, Try.ntmps149
  go_wp2_with (first | ((with_reducible refine qj (f := 186) rfl ?_); refine qt (some 6) rfl rfl Try.func186 (by kernel_rfl) rfl #[.int .u64 (IntKind.u64.wrap ((a0.size : Int)))] rfl (by (try simp only [List.map_toArray, List.map_cons, List.map_nil]); first | done | rfl | (simp only [List.length_drop, List.length_take]; rfl) | (rw [IntWalk.u64_in _ (by omega)] <;> rfl)) ?_; (with_reducible refine (impl_PutVar.calls k (IntKind.u64.wrap ((a0.size : Int))) t101 _ A2.out).mono ?_); rintro e w4 ⟨rfl, hb⟩; refine ⟨_, rfl, ?_⟩; replace HB := Qz.mk (ql (by repeat (first | (with_reducible first | exact HB.out | apply qc | apply qa | apply qb) | exact HB.out)) hb); (try clear hb)))
  go_ret
  exact ⟨by first | rfl | (simp [qn, qm] <;> rfl) | (simp [*, qn, qm] <;> rfl), by repeat (first | (with_reducible first | exact HB.out | apply qc | apply qa | apply qb) | exact HB.out)⟩
 ·rw [if_neg c3] at H
  exact absurd H (by simp)
theorem yq57 {P : Prop} (h : P := by repeat (first | (with_reducible first | exact HB.out | apply qc | apply qa | apply qb | refine qd ?_ GE104.out) | exact HB.out)) : P := h
theorem yq58 {P : Prop} (h : P := by (with_reducible repeat (first | refine qg ?_ _ | refine qi ?_ | refine qh ?_ _)); refine qw (cs := #[.string ((qk l0 x15_1).f0.f0), .int .i64 ((qk l0 x15_1).f0.f1), .int .i64 ((qk l0 x15_1).f0.f2), .string (⟨#[]⟩ : ByteArray)]) ?_ 3 _ rfl; (with_reducible repeat (first | refine qg ?_ _ | refine qi ?_ | refine qh ?_ _)); refine qw (cs := #[.string ((qk l0 x15_1).f0.f0), .int .i64 ((qk l0 x15_1).f0.f1), .int .i64 0, .string (⟨#[]⟩ : ByteArray)]) ?_ 2 _ rfl; (with_reducible repeat (first | refine qg ?_ _ | refine qi ?_ | refine qh ?_ _)); refine qw (cs := #[.string ((qk l0 x15_1).f0.f0), .int .i64 0, .int .i64 0, .string (⟨#[]⟩ : ByteArray)]) ?_ 1 _ rfl; (with_reducible repeat (first | refine qg ?_ _ | refine qi ?_ | refine qh ?_ _)); refine qw (cs := #[.string (⟨#[]⟩ : ByteArray), .int .i64 0, .int .i64 0, .string (⟨#[]⟩ : ByteArray)]) ?_ 0 _ rfl; (with_reducible repeat (first | refine qg ?_ _ | refine qi ?_ | refine qh ?_ _)); exact BK104.out) : P := h
theorem yq59 {P : Prop} (h : P := by (try simp only [List.map_toArray, List.map_cons, List.map_nil]); first | done | rfl) : P := h
theorem yq60 {P : Prop} (h : P := by (with_reducible repeat (first | refine qg ?_ _ | refine qi ?_ | refine qh ?_ _)); exact BK104.out) : P := h
theorem yq61 {P : Prop} (h : P := by first | rfl | (simp; done) | (simp [*]; done)) : P := h
theorem yq62 {P : Prop} (h : P := by repeat (first | (with_reducible first | exact HB.out | apply qc | apply qa | apply qb) | exact HB.out)) : P := h
def impl_block.l0 : Nat → Int → ByteArray → ByteArray → ByteArray → Int → List (S64) → Int → Int → Option (ByteArray)
 | 0, _, _, _, _, _, _, _, _ => none
 | k + 1, x1, x5, x6, x7, x8, x13, x14, x15 => if x15 < x14 then (if 0 ≤ x15 then (if x15 < (x13.length : Int) then ((impl_keyText.f ((qk x13 x15).f0.f0) ((qk x13 x15).f0.f1) ((qk x13 x15).f0.f2)).bind fun t105 => (if x1 = 0 then (none) else (if (Int.tmod x15 x1) = 0 then ((impl_PutFixed.f (((x5.size : Int)) % 4294967296)).bind fun t106 => (if x7.size + t106.size ≤ 9223372036854775807 then ((impl_putInt.f k 0).bind fun t107 => (if 0 ≤ (t105.size : Int) then ((impl_PutText.f k (t105.extract 0 t105.size)).bind fun t108 => (if t107.size + t108.size ≤ 9223372036854775807 then ((impl_PutText.f k ((qk x13 x15).f1)).bind fun t109 => (if t107.size + t108.size + t109.size ≤ 9223372036854775807 then (if x5.size + (t107.size + t108.size + t109.size) ≤ 9223372036854775807 then (impl_block.l0 k x1 (x5 ++ ((t107 ++ t108) ++ t109)) t105 (x7 ++ t106) ((x8 + 1) % 4294967296) x13 x14 (wrap64 (x15 + 1))) else (none)) else (none))) else (none))) else (none))) else (none))) else ((impl_SharedWith.f k x6 t105).bind fun t110 => ((impl_putInt.f k t110).bind fun t111 => (if 0 ≤ t110 then (if t110 ≤ (t105.size : Int) then ((impl_PutText.f k (t105.extract (t110 : Int).toNat t105.size)).bind fun t112 => (if t111.size + t112.size ≤ 9223372036854775807 then ((impl_PutText.f k ((qk x13 x15).f1)).bind fun t113 => (if t111.size + t112.size + t113.size ≤ 9223372036854775807 then (if x5.size + (t111.size + t112.size + t113.size) ≤ 9223372036854775807 then (impl_block.l0 k x1 (x5 ++ ((t111 ++ t112) ++ t113)) t105 x7 x8 x13 x14 (wrap64 (x15 + 1))) else (none)) else (none))) else (none))) else (none)) else (none))))))) else (none)) else (none)) else (if x5.size + x7.size ≤ 9223372036854775807 then ((impl_PutFixed.f x8).bind fun t101 => (if x5.size + x7.size + t101.size ≤ 9223372036854775807 then ((impl_PutFixed.f ((x1) % 4294967296)).bind fun t102 => (if x5.size + x7.size + t101.size + t102.size ≤ 9223372036854775807 then (some (((x5 ++ x7) ++ t101) ++ t102)) else (none))) else (none))) else (none))
def impl_block.f (k : Nat) (l0 : List (S64)) (a1 : Int) : Option (ByteArray) := impl_block.l0 k a1 (⟨#[]⟩ : ByteArray) (⟨#[]⟩ : ByteArray) (⟨#[]⟩ : ByteArray) 0 l0 (l0.length : Int) 0
def impl_block.T10 : Bool × List (List Nat × List Nat) := (true, [([], []), ([], []), ([1], [1]), ([], []), ([], []), ([3, 4], [3, 4]), ([5, 2], [5]), ([2, 6], [2, 6]), ([], []), ([8], [8]), ([9, 6], [9]), ([7, 10], [7, 10]), ([0, 11], [0, 11]), ([12, 10, 0, 1, 2, 3, 4, 5, 6, 7, 8, 9, 10, 11, 12], [0, 12])])
def impl_block.B10 : List Nat := [0, 0, 2, 0, 0, 24, 62, 126, 0, 256, 894, 2046, 4095, 8191]
theorem impl_block.tab10 : rtab .any (opsOf Try.f77 10) = impl_block.T10 := by kernel_rfl
theorem impl_block.bits10 : waitsOk impl_block.T10.2 impl_block.B10 = true := by kernel_rfl
set_option maxHeartbeats 8000000 in
set_option maxRecDepth 100000 in
theorem impl_block.calls (k : Nat) (A0 : Option Addr) (c0 : Nat) (l0 : List (S64)) (a1 : Int) (r : ByteArray) (w : World) (hr0 : Kd.C k64 w A0 l0.length l0) (hc0 : l0.length ≤ c0) (h : impl_block.f k l0 a1 = some r) :
  Calls Try.prog 77 #[.slice A0 l0.length c0, .int .i64 a1] w fun e w' => e = .returned (.string r) ∧ Below w.heap.size w w' := by
 have hu64 := Try.underlying64
 have hu35 := Try.underlying35
 have HR0 := Qz.mk hr0
 have HC0 := Qz.mk hc0
 clear hr0 hc0
 have HB := Qz.mk (Below.refl w.heap.size w)
 have H : (impl_block.l0 k a1 (⟨#[]⟩ : ByteArray) (⟨#[]⟩ : ByteArray) (⟨#[]⟩ : ByteArray) 0 l0 (l0.length : Int) 0) = some r := h
 clear h
 have H' := Qz.mk H
 clear H
 go_enter Try.func77, Try.ntmps77
 go_wp2
 go_loopg [5, 6, 7, 8, 15] k (fun kq v5 v6 v7 v8 v15 w' => ∃ (x5_1 : ByteArray) (x6_1 : ByteArray) (x7_1 : ByteArray) (x8_1 : Int) (x15_1 : Int), v5 = .string x5_1 ∧ v6 = .string x6_1 ∧ v7 = .string x7_1 ∧ v8 = .int .u32 x8_1 ∧ v15 = .int .i64 x15_1 ∧ Qz (impl_block.l0 kq a1 x5_1 x6_1 x7_1 x8_1 l0 (l0.length : Int) x15_1 = some r) ∧ Qz (kq ≤ k) ∧ Qz (Below w.heap.size w w'))
 case atStart => exact ⟨((⟨#[]⟩ : ByteArray)), ((⟨#[]⟩ : ByteArray)), ((⟨#[]⟩ : ByteArray)), (0), (0), yq61, yq61, yq61, yq61, yq61, H', ⟨Nat.le_refl _⟩, ⟨by repeat (first | (with_reducible first | exact HB.out | apply qc | apply qa | apply qb) | exact HB.out)⟩⟩
 case round =>
  clear H'
  try clear p2
  obtain ⟨x5_1, x6_1, x7_1, x8_1, x15_1, rfl, rfl, rfl, rfl, rfl, HA, HK1, HB⟩ := hrel
  cases gk with
  | zero => exact absurd HA.out (by simp [impl_block.l0])
  | succ k1 =>
   have H := HA.out
   clear HA
   simp only [impl_block.l0] at H
   by_cases c3 : x15_1 < (l0.length : Int)
   ·rw [if_pos c3] at H
    have c3b0 : decide (x15_1 < (l0.length : Int)) = true := decide_eq_true c3
    clear c3
    by_cases c4 : 0 ≤ x15_1
    ·rw [if_pos c4] at H
     have c4b0 : decide (0 ≤ x15_1) = true := decide_eq_true c4
     clear c4
     by_cases c5 : x15_1 < (l0.length : Int)
     ·rw [if_pos c5] at H
      have c5b0 : decide (x15_1 < (l0.length : Int)) = true := decide_eq_true c5
      clear c5
      replace H := Option.bind_eq_some_iff.mp H
      obtain ⟨t105, A60, H⟩ := H
      replace H : (if a1 = 0 then (none) else (if (Int.tmod x15_1 a1) = 0 then ((impl_PutFixed.f (((x5_1.size : Int)) % 4294967296)).bind fun t106 => (if x7_1.size + t106.size ≤ 9223372036854775807 then ((impl_putInt.f k1 0).bind fun t107 => (if 0 ≤ (t105.size : Int) then ((impl_PutText.f k1 (t105.extract 0 t105.size)).bind fun t108 => (if t107.size + t108.size ≤ 9223372036854775807 then ((impl_PutText.f k1 ((qk l0 x15_1).f1)).bind fun t109 => (if t107.size + t108.size + t109.size ≤ 9223372036854775807 then (if x5_1.size + (t107.size + t108.size + t109.size) ≤ 9223372036854775807 then (impl_block.l0 k1 a1 (x5_1 ++ ((t107 ++ t108) ++ t109)) t105 (x7_1 ++ t106) ((x8_1 + 1) % 4294967296) l0 (l0.length : Int) (wrap64 (x15_1 + 1))) else (none)) else (none))) else (none))) else (none))) else (none))) else ((impl_SharedWith.f k1 x6_1 t105).bind fun t110 => ((impl_putInt.f k1 t110).bind fun t111 => (if 0 ≤ t110 then (if t110 ≤ (t105.size : Int) then ((impl_PutText.f k1 (t105.extract (t110 : Int).toNat t105.size)).bind fun t112 => (if t111.size + t112.size ≤ 9223372036854775807 then ((impl_PutText.f k1 ((qk l0 x15_1).f1)).bind fun t113 => (if t111.size + t112.size + t113.size ≤ 9223372036854775807 then (if x5_1.size + (t111.size + t112.size + t113.size) ≤ 9223372036854775807 then (impl_block.l0 k1 a1 (x5_1 ++ ((t111 ++ t112) ++ t113)) t105 x7_1 x8_1 l0 (l0.length : Int) (wrap64 (x15_1 + 1))) else (none)) else (none))) else (none))) else (none)) else (none)))))) = some r := H
      have A6 := Qz.mk A60
      clear A60
      by_cases c7 : a1 = 0
      ·rw [if_pos c7] at H
       exact absurd H (by simp)
      ·rw [if_neg c7] at H
       have c7b0 : (a1 == 0) = false := beq_eq_false_iff_ne.mpr c7
       have c7b1 : (a1 != 0) = true := bne_iff_ne.mpr c7
       by_cases c8 : (Int.tmod x15_1 a1) = 0
       ·rw [if_pos c8] at H
        have c8b0 : ((Int.tmod x15_1 a1) == 0) = true := beq_iff_eq.mpr c8
        have c8b1 : ((Int.tmod x15_1 a1) != 0) = false := bne_eq_false_iff_eq.mpr c8
        clear c8
        replace H := Option.bind_eq_some_iff.mp H
        obtain ⟨t106, A90, H⟩ := H
        replace H : (if x7_1.size + t106.size ≤ 9223372036854775807 then ((impl_putInt.f k1 0).bind fun t107 => (if 0 ≤ (t105.size : Int) then ((impl_PutText.f k1 (t105.extract 0 t105.size)).bind fun t108 => (if t107.size + t108.size ≤ 9223372036854775807 then ((impl_PutText.f k1 ((qk l0 x15_1).f1)).bind fun t109 => (if t107.size + t108.size + t109.size ≤ 9223372036854775807 then (if x5_1.size + (t107.size + t108.size + t109.size) ≤ 9223372036854775807 then (impl_block.l0 k1 a1 (x5_1 ++ ((t107 ++ t108) ++ t109)) t105 (x7_1 ++ t106) ((x8_1 + 1) % 4294967296) l0 (l0.length : Int) (wrap64 (x15_1 + 1))) else (none)) else (none))) else (none))) else (none))) else (none)) = some r := H
        have A9 := Qz.mk A90
        clear A90
        by_cases c10 : x7_1.size + t106.size ≤ 9223372036854775807
        ·rw [if_pos c10] at H
         have c10b0 := eq_true c10
         have c10b1 : decide (x7_1.size + t106.size ≤ 9223372036854775807) = true := decide_eq_true c10
         try have c10b2 : (9223372036854775807 < x7_1.size + t106.size) = False := eq_false (Nat.not_lt.2 c10)
         replace H := Option.bind_eq_some_iff.mp H
         obtain ⟨t107, A110, H⟩ := H
         replace H : (if 0 ≤ (t105.size : Int) then ((impl_PutText.f k1 (t105.extract 0 t105.size)).bind fun t108 => (if t107.size + t108.size ≤ 9223372036854775807 then ((impl_PutText.f k1 ((qk l0 x15_1).f1)).bind fun t109 => (if t107.size + t108.size + t109.size ≤ 9223372036854775807 then (if x5_1.size + (t107.size + t108.size + t109.size) ≤ 9223372036854775807 then (impl_block.l0 k1 a1 (x5_1 ++ ((t107 ++ t108) ++ t109)) t105 (x7_1 ++ t106) ((x8_1 + 1) % 4294967296) l0 (l0.length : Int) (wrap64 (x15_1 + 1))) else (none)) else (none))) else (none))) else (none)) = some r := H
         have A11 := Qz.mk A110
         clear A110
         by_cases c12 : 0 ≤ (t105.size : Int)
         ·rw [if_pos c12] at H
          have c12b0 := eq_true c12
          have c12b1 : decide (0 ≤ (t105.size : Int)) = true := decide_eq_true c12
          clear c12
          replace H := Option.bind_eq_some_iff.mp H
          obtain ⟨t108, A130, H⟩ := H
          replace H : (if t107.size + t108.size ≤ 9223372036854775807 then ((impl_PutText.f k1 ((qk l0 x15_1).f1)).bind fun t109 => (if t107.size + t108.size + t109.size ≤ 9223372036854775807 then (if x5_1.size + (t107.size + t108.size + t109.size) ≤ 9223372036854775807 then (impl_block.l0 k1 a1 (x5_1 ++ ((t107 ++ t108) ++ t109)) t105 (x7_1 ++ t106) ((x8_1 + 1) % 4294967296) l0 (l0.length : Int) (wrap64 (x15_1 + 1))) else (none)) else (none))) else (none)) = some r := H
          have A13 := Qz.mk A130
          clear A130
          by_cases c14 : t107.size + t108.size ≤ 9223372036854775807
          ·rw [if_pos c14] at H
           have c14b0 := eq_true c14
           have c14b1 : decide (t107.size + t108.size ≤ 9223372036854775807) = true := decide_eq_true c14
           try have c14b2 : (9223372036854775807 < t107.size + t108.size) = False := eq_false (Nat.not_lt.2 c14)
           replace H := Option.bind_eq_some_iff.mp H
           obtain ⟨t109, A150, H⟩ := H
           replace H : (if t107.size + t108.size + t109.size ≤ 9223372036854775807 then (if x5_1.size + (t107.size + t108.size + t109.size) ≤ 9223372036854775807 then (impl_block.l0 k1 a1 (x5_1 ++ ((t107 ++ t108) ++ t109)) t105 (x7_1 ++ t106) ((x8_1 + 1) % 4294967296) l0 (l0.length : Int) (wrap64 (x15_1 + 1))) else (none)) else (none)) = some r := H
           have A15 := Qz.mk A150
           clear A150
           by_cases c16 : t107.size + t108.size + t109.size ≤ 9223372036854775807
           ·rw [if_pos c16] at H
            have c16b0 := eq_true c16
            have c16b1 : decide (t107.size + t108.size + t109.size ≤ 9223372036854775807) = true := decide_eq_true c16
            try have c16b2 : (9223372036854775807 < t107.size + t108.size + t109.size) = False := eq_false (Nat.not_lt.2 c16)
            by_cases c17 : x5_1.size + (t107.size + t108.size + t109.size) ≤ 9223372036854775807
            ·rw [if_pos c17] at H
             have c17b0 := eq_true c17
             have c17b1 : decide (x5_1.size + (t107.size + t108.size + t109.size) ≤ 9223372036854775807) = true := decide_eq_true c17
             try have c17b2 : (9223372036854775807 < x5_1.size + (t107.size + t108.size + t109.size)) = False := eq_false (Nat.not_lt.2 c17)
             have H' := Qz.mk H
             clear H
             have p103 : 0 ≤ (x15_1 : Int) := of_decide_eq_true (by first | (with_reducible assumption) | assumption)
             have q103 : x15_1 < (l0.length : Int) := of_decide_eq_true (by first | (with_reducible assumption) | assumption)
             obtain ⟨ad103, e103, hx103_0, hx103_1, hx103_2, hx103_3⟩ := at_T64 HR0.out x15_1 p103 q103
             cases e103
             replace hx103_0 := (HB.out.cell (World.block_lt_of_cell? w _ hx103_0)).trans hx103_0
             replace hx103_1 := (HB.out.cell (World.block_lt_of_cell? w _ hx103_1)).trans hx103_1
             replace hx103_2 := (HB.out.cell (World.block_lt_of_cell? w _ hx103_2)).trans hx103_2
             replace hx103_3 := (HB.out.cell (World.block_lt_of_cell? w _ hx103_3)).trans hx103_3
             replace p103 := eq_true p103
             replace q103 := eq_true q103
             try go_wp2_with (first | ((with_reducible refine qb1 (N := 10) rfl ?_); refine qz ?hg (N := 10) ?hd (cs := #[.string (⟨#[]⟩ : ByteArray), .int .i64 0, .int .i64 0, .string (⟨#[]⟩ : ByteArray)]) (t := 64) ?hr ?_; (case hd => rfl); (case hg => rfl); (case hr => first | (go_simp; done) | (go_simp; rfl)); intro gb104 hg w18 hbox hb; have BK104 := Qz.mk (hbox); have GW104 := Qz.mk ((by rw [hg]; exact (qv yq62) : w.heap.size ≤ gb104)); have GE104 := GW104; replace HB := Qz.mk (ql yq62 hb); clear hb hbox hg; have hcz19_0 : w18.cell? ⟨gb104, 0, none⟩ = some (.string (⟨#[]⟩ : ByteArray)) := (qf BK104.out 0).trans rfl; have hcz19_1 : w18.cell? ⟨gb104, 1, none⟩ = some (.int .i64 0) := (qf BK104.out 1).trans rfl; have hcz19_2 : w18.cell? ⟨gb104, 2, none⟩ = some (.int .i64 0) := (qf BK104.out 2).trans rfl; have hcz19_3 : w18.cell? ⟨gb104, 3, none⟩ = some (.string (⟨#[]⟩ : ByteArray)) := (qf BK104.out 3).trans rfl; have hfz19_0 := qe BK104.out 0; have hfz19_1 := qe BK104.out 1; have hfz19_2 := qe BK104.out 2; have hfz19_3 := qe BK104.out 3) | ((with_reducible refine qj (f := 145) rfl ?_); refine qt (some 22) rfl rfl Try.func145 (by kernel_rfl) rfl #[.agg #[.string ((qk l0 x15_1).f0.f0), .int .i64 ((qk l0 x15_1).f0.f1), .int .i64 ((qk l0 x15_1).f0.f2)]] rfl yq59 ?_; (with_reducible refine (impl_keyText.calls ((qk l0 x15_1).f0.f0) ((qk l0 x15_1).f0.f1) ((qk l0 x15_1).f0.f2) t105 _ A6.out).mono ?_); rintro e w20 ⟨rfl, hb⟩; refine ⟨_, rfl, ?_⟩; replace BK104 := Qz.mk (qu (g := gb104) (o := .cells #[.string ((qk l0 x15_1).f0.f0), .int .i64 ((qk l0 x15_1).f0.f1), .int .i64 ((qk l0 x15_1).f0.f2), .string ((qk l0 x15_1).f1)] 64 (0, 0)) yq58 hb); replace HB := Qz.mk (ql yq57 hb); (try clear hb)) | ((with_reducible refine qj (f := 146) rfl ?_); refine qt (some 31) rfl rfl Try.func146 (by kernel_rfl) rfl #[.int .u32 (((x5_1.size : Int)) % 4294967296)] rfl yq59 ?_; (with_reducible refine (impl_PutFixed.calls (((x5_1.size : Int)) % 4294967296) t106 _ A9.out).mono ?_); rintro e w21 ⟨rfl, hb⟩; refine ⟨_, rfl, ?_⟩; replace BK104 := Qz.mk (qu (g := gb104) (o := .cells #[.string ((qk l0 x15_1).f0.f0), .int .i64 ((qk l0 x15_1).f0.f1), .int .i64 ((qk l0 x15_1).f0.f2), .string ((qk l0 x15_1).f1)] 64 (0, 0)) yq60 hb); replace HB := Qz.mk (ql yq57 hb); (try clear hb)))
             replace BK104 := Qz.mk (qi BK104.out)
             replace HB := Qz.mk (qb HB.out)
             refine start_ (n := 14) (S := fun w' => w'.cell? ⟨gb104, 0, none⟩ = some (.string ((qk l0 x15_1).f0.f0)) ∧ w'.cell? ⟨gb104, 1, none⟩ = some (.int .i64 ((qk l0 x15_1).f0.f1)) ∧ w'.cell? ⟨gb104, 2, none⟩ = some (.int .i64 ((qk l0 x15_1).f0.f2)) ∧ w'.cell? ⟨gb104, 3, none⟩ = some (.string ((qk l0 x15_1).f1))) (ds := []) bq4 (by kernel_rfl) rfl rfl ⟨(qf BK104.out 0).trans rfl, (qf BK104.out 1).trans rfl, (qf BK104.out 2).trans rfl, (qf BK104.out 3).trans rfl⟩ (fun hHeld => ?_); refine with_tabW impl_block.tab10 impl_block.bits10 (fun HT_ HW_ => ?_)
             generalize w21.drew = w22 at BK104 HB hHeld ⊢
             refine pure_ (i := 0) (N := some 38) (v := ?_) (a' := ?_) bq10 rfl rfl (qr HT_.out (by kernel_rfl)) (fun _ _ _ h => h) (Or.inl ⟨by rfl, ?_⟩) ?_ ?_
             rotate_left
             ·intro w'
              go_simp
              with_reducible rfl
             rotate_left
             ·simp only [Act.put, sq1, sq2, sq3, i64_w, i32_w]
              rfl
             refine pure_ (i := 1) (N := some 39) (v := ?_) (a' := ?_) bq21 rfl rfl (qr HT_.out (by kernel_rfl)) (fun _ _ _ h => h) (Or.inl ⟨by rfl, ?_⟩) ?_ ?_
             rotate_left
             ·intro w'
              go_simp
              with_reducible rfl
             rotate_left
             ·simp only [Act.put, sq1, sq2, sq3, i64_w, i32_w]
              rfl
             refine pure_ (i := 3) (N := some 41) (v := ?_) (a' := ?_) bq22 rfl rfl (qr HT_.out (by kernel_rfl)) (fun _ _ _ h => h) (Or.inl ⟨by rfl, ?_⟩) ?_ ?_
             rotate_left
             ·intro w'
              go_simp
              with_reducible rfl
             rotate_left
             ·simp only [Act.put, sq1, sq2, sq3, i64_w, i32_w]
              rfl
             refine pure_ (i := 4) (N := some 42) (v := ?_) (a' := ?_) bq23 rfl rfl (qr HT_.out (by kernel_rfl)) (fun _ _ _ h => h) (Or.inl ⟨by rfl, ?_⟩) ?_ ?_
             rotate_left
             ·intro w'
              go_simp
              with_reducible rfl
             rotate_left
             ·simp only [Act.put, sq1, sq2, sq3, i64_w, i32_w]
              rfl
             refine pure_ (i := 5) (N := some 43) (v := ?_) (a' := ?_) bq24 rfl rfl (qr HT_.out (by kernel_rfl)) (fun _ _ _ h => h) (Or.inl ⟨by rfl, ?_⟩) ?_ ?_
             rotate_left
             ·intro w'
              go_simp
              with_reducible rfl
             rotate_left
             ·simp only [Act.put, sq1, sq2, sq3, i64_w, i32_w]
              rfl
             refine pure_ (i := 8) (N := some 46) (v := ?_) (a' := ?_) bq25 rfl rfl (qr HT_.out (by kernel_rfl)) (fun _ _ _ h => h) (Or.inl ⟨by rfl, ?_⟩) ?_ ?_
             rotate_left
             ·intro w'
              go_simp
              with_reducible rfl
             rotate_left
             ·simp only [Act.put, sq1, sq2, sq3, i64_w, i32_w]
              rfl
             refine take_ (i := 9) (N := some 47) (v := ?_) (a' := ?_) bq26 rfl rfl (take_ofW HT_.out HW_.out (by kernel_rfl)) (fun _ _ _ h => h) (Or.inl ⟨by rfl, ?_⟩) hHeld ?_ ?_
             rotate_left
             ·rintro w' ⟨s0, s1, s2, s3⟩
              go_simp
              with_reducible rfl
             rotate_left
             ·simp only [Act.put, sq1, sq2, sq3, i64_w, i32_w]
              rfl
             refine one_ (i := 2) (N := some 40) bq55 rfl rfl (one_of HT_.out (by kernel_rfl)) (by decide) (fun K hK => ?_)
             refine goes_ Try.func148 (by kernel_rfl) rfl #[.int .i64 0] (by rfl) rfl rfl yq59 ?_
             with_reducible refine (impl_putInt.calls k1 0 t107 _ A11.out).mono ?_
             rintro e w23 ⟨rfl, hb⟩
             refine ⟨_, rfl, ?_⟩
             replace BK104 := Qz.mk (qu (g := gb104) (o := .cells #[.string ((qk l0 x15_1).f0.f0), .int .i64 ((qk l0 x15_1).f0.f1), .int .i64 ((qk l0 x15_1).f0.f2), .string ((qk l0 x15_1).f1)] 64 (0, 0)) yq60 hb)
             replace HB := Qz.mk (ql yq57 hb)
             (try clear hb)
             refine hK.out _ _ ⟨(qf BK104.out 0).trans rfl, (qf BK104.out 1).trans rfl, (qf BK104.out 2).trans rfl, (qf BK104.out 3).trans rfl⟩ (fun hHeld => ?_)
             clear hK K
             refine norm_ (a' := ?_) ?_ ?_
             rotate_left
             ·show Act.put _ (some 40) _ = _
              simp only [Act.put, sq1, sq2, sq3, i64_w, i32_w]
              rfl
             refine one_ (i := 6) (N := some 44) bq60 rfl rfl (one_of HT_.out (by kernel_rfl)) (by decide) (fun K hK => ?_)
             refine goes_ Try.func149 (by kernel_rfl) rfl #[.string (t105.extract 0 t105.size)] (by rfl) rfl rfl (by (try simp only [List.map_toArray, List.map_cons, List.map_nil]); first | done | rfl | (rw [ByteArray.extract_zero_size]; rfl) | (simp only [List.length_drop, List.length_take]; rfl) | (rw [IntWalk.u64_in _ (by omega)] <;> rfl)) ?_
             with_reducible refine (impl_PutText.calls k1 (t105.extract 0 t105.size) t108 _ A13.out).mono ?_
             rintro e w24 ⟨rfl, hb⟩
             refine ⟨_, rfl, ?_⟩
             replace BK104 := Qz.mk (qu (g := gb104) (o := .cells #[.string ((qk l0 x15_1).f0.f0), .int .i64 ((qk l0 x15_1).f0.f1), .int .i64 ((qk l0 x15_1).f0.f2), .string ((qk l0 x15_1).f1)] 64 (0, 0)) yq60 hb)
             replace HB := Qz.mk (ql yq57 hb)
             (try clear hb)
             refine hK.out _ _ ⟨(qf BK104.out 0).trans rfl, (qf BK104.out 1).trans rfl, (qf BK104.out 2).trans rfl, (qf BK104.out 3).trans rfl⟩ (fun hHeld => ?_)
             clear hK K
             refine norm_ (a' := ?_) ?_ ?_
             rotate_left
             ·show Act.put _ (some 44) _ = _
              simp only [Act.put, sq1, sq2, sq3, i64_w, i32_w]
              rfl
             refine pure_ (i := 7) (N := some 45) (v := ?_) (a' := ?_) bq76 rfl rfl (qr HT_.out (by kernel_rfl)) (fun _ _ _ h => h) (Or.inl ⟨by rfl, ?_⟩) ?_ ?_
             rotate_left
             ·intro w'
              go_simp
              with_reducible rfl
             rotate_left
             ·simp only [Act.put, sq1, sq2, sq3, i64_w, i32_w]
              rfl
             refine one_ (i := 10) (N := some 48) bq81 rfl rfl (one_of HT_.out (by kernel_rfl)) (by decide) (fun K hK => ?_)
             refine goes_ Try.func149 (by kernel_rfl) rfl #[.string ((qk l0 x15_1).f1)] (by rfl) rfl rfl yq59 ?_
             with_reducible refine (impl_PutText.calls k1 ((qk l0 x15_1).f1) t109 _ A15.out).mono ?_
             rintro e w25 ⟨rfl, hb⟩
             refine ⟨_, rfl, ?_⟩
             replace BK104 := Qz.mk (qu (g := gb104) (o := .cells #[.string ((qk l0 x15_1).f0.f0), .int .i64 ((qk l0 x15_1).f0.f1), .int .i64 ((qk l0 x15_1).f0.f2), .string ((qk l0 x15_1).f1)] 64 (0, 0)) yq60 hb)
             replace HB := Qz.mk (ql yq57 hb)
             (try clear hb)
             refine hK.out _ _ ⟨(qf BK104.out 0).trans rfl, (qf BK104.out 1).trans rfl, (qf BK104.out 2).trans rfl, (qf BK104.out 3).trans rfl⟩ (fun hHeld => ?_)
             clear hK K
             refine norm_ (a' := ?_) ?_ ?_
             rotate_left
             ·show Act.put _ (some 48) _ = _
              simp only [Act.put, sq1, sq2, sq3, i64_w, i32_w]
              rfl
             refine pure_ (i := 11) (N := some 49) (v := ?_) (a' := ?_) bq86 rfl rfl (qr HT_.out (by kernel_rfl)) (fun _ _ _ h => h) (Or.inl ⟨by rfl, ?_⟩) ?_ ?_
             rotate_left
             ·intro w'
              go_simp
              with_reducible rfl
             rotate_left
             ·simp only [Act.put, sq1, sq2, sq3, i64_w, i32_w]
              rfl
             refine pure_ (i := 12) (N := some 50) (v := ?_) (a' := ?_) bq91 rfl rfl (qr HT_.out (by kernel_rfl)) (fun _ _ _ h => h) (Or.inl ⟨by rfl, ?_⟩) ?_ ?_
             rotate_left
             ·intro w'
              go_simp
              with_reducible rfl
             rotate_left
             ·simp only [Act.put, sq1, sq2, sq3, i64_w, i32_w]
              rfl
             refine pure_ (i := 13) (N := some 5) (v := ?_) (a' := ?_) bq120 rfl rfl (qr HT_.out (by kernel_rfl)) (fun _ _ _ h => h) (Or.inl ⟨by rfl, ?_⟩) ?_ ?_
             rotate_left
             ·intro w'
              go_simp
              with_reducible rfl
             rotate_left
             ·simp only [Act.put, sq1, sq2, sq3, i64_w, i32_w]
              rfl
             refine done_ (done_of HT_.out (by kernel_rfl)) ?_
             try go_wp2
             go_roundg k1
             case measure => have := HK1.out; omega
             case rel => exact ⟨(x5_1 ++ ((t107 ++ t108) ++ t109)), (t105), (x7_1 ++ t106), ((x8_1 + 1) % 4294967296), (wrap64 (x15_1 + 1)), yq61, yq61, yq61, yq61, yq61, H', ⟨by have := HK1.out; omega⟩, ⟨by repeat (first | (with_reducible first | exact HB.out | apply qc | apply qa | apply qb | refine qd ?_ GE104.out) | exact HB.out)⟩⟩
            ·rw [if_neg c17] at H
             exact absurd H (by simp)
           ·rw [if_neg c16] at H
            exact absurd H (by simp)
          ·rw [if_neg c14] at H
           exact absurd H (by simp)
         ·rw [if_neg c12] at H
          exact absurd H (by simp)
        ·rw [if_neg c10] at H
         exact absurd H (by simp)
       ·rw [if_neg c8] at H
        have c8b0 : ((Int.tmod x15_1 a1) == 0) = false := beq_eq_false_iff_ne.mpr c8
        have c8b1 : ((Int.tmod x15_1 a1) != 0) = true := bne_iff_ne.mpr c8
        replace H := Option.bind_eq_some_iff.mp H
        obtain ⟨t110, A260, H⟩ := H
        replace H : ((impl_putInt.f k1 t110).bind fun t111 => (if 0 ≤ t110 then (if t110 ≤ (t105.size : Int) then ((impl_PutText.f k1 (t105.extract (t110 : Int).toNat t105.size)).bind fun t112 => (if t111.size + t112.size ≤ 9223372036854775807 then ((impl_PutText.f k1 ((qk l0 x15_1).f1)).bind fun t113 => (if t111.size + t112.size + t113.size ≤ 9223372036854775807 then (if x5_1.size + (t111.size + t112.size + t113.size) ≤ 9223372036854775807 then (impl_block.l0 k1 a1 (x5_1 ++ ((t111 ++ t112) ++ t113)) t105 x7_1 x8_1 l0 (l0.length : Int) (wrap64 (x15_1 + 1))) else (none)) else (none))) else (none))) else (none)) else (none))) = some r := H
        have A26 := Qz.mk A260
        clear A260
        replace H := Option.bind_eq_some_iff.mp H
        obtain ⟨t111, A270, H⟩ := H
        replace H : (if 0 ≤ t110 then (if t110 ≤ (t105.size : Int) then ((impl_PutText.f k1 (t105.extract (t110 : Int).toNat t105.size)).bind fun t112 => (if t111.size + t112.size ≤ 9223372036854775807 then ((impl_PutText.f k1 ((qk l0 x15_1).f1)).bind fun t113 => (if t111.size + t112.size + t113.size ≤ 9223372036854775807 then (if x5_1.size + (t111.size + t112.size + t113.size) ≤ 9223372036854775807 then (impl_block.l0 k1 a1 (x5_1 ++ ((t111 ++ t112) ++ t113)) t105 x7_1 x8_1 l0 (l0.length : Int) (wrap64 (x15_1 + 1))) else (none)) else (none))) else (none))) else (none)) else (none)) = some r := H
        have A27 := Qz.mk A270
        clear A270
        by_cases c28 : 0 ≤ t110
        ·rw [if_pos c28] at H
         have c28b0 := eq_true c28
         have c28b1 : decide (0 ≤ t110) = true := decide_eq_true c28
         clear c28
         by_cases c29 : t110 ≤ (t105.size : Int)
         ·rw [if_pos c29] at H
          have c29b0 := eq_true c29
          have c29b1 : decide (t110 ≤ (t105.size : Int)) = true := decide_eq_true c29
          clear c29
          replace H := Option.bind_eq_some_iff.mp H
          obtain ⟨t112, A300, H⟩ := H
          replace H : (if t111.size + t112.size ≤ 9223372036854775807 then ((impl_PutText.f k1 ((qk l0 x15_1).f1)).bind fun t113 => (if t111.size + t112.size + t113.size ≤ 9223372036854775807 then (if x5_1.size + (t111.size + t112.size + t113.size) ≤ 9223372036854775807 then (impl_block.l0 k1 a1 (x5_1 ++ ((t111 ++ t112) ++ t113)) t105 x7_1 x8_1 l0 (l0.length : Int) (wrap64 (x15_1 + 1))) else (none)) else (none))) else (none)) = some r := H
          have A30 := Qz.mk A300
          clear A300
          by_cases c31 : t111.size + t112.size ≤ 9223372036854775807
          ·rw [if_pos c31] at H
           have c31b0 := eq_true c31
           have c31b1 : decide (t111.size + t112.size ≤ 9223372036854775807) = true := decide_eq_true c31
           try have c31b2 : (9223372036854775807 < t111.size + t112.size) = False := eq_false (Nat.not_lt.2 c31)
           replace H := Option.bind_eq_some_iff.mp H
           obtain ⟨t113, A320, H⟩ := H
           replace H : (if t111.size + t112.size + t113.size ≤ 9223372036854775807 then (if x5_1.size + (t111.size + t112.size + t113.size) ≤ 9223372036854775807 then (impl_block.l0 k1 a1 (x5_1 ++ ((t111 ++ t112) ++ t113)) t105 x7_1 x8_1 l0 (l0.length : Int) (wrap64 (x15_1 + 1))) else (none)) else (none)) = some r := H
           have A32 := Qz.mk A320
           clear A320
           by_cases c33 : t111.size + t112.size + t113.size ≤ 9223372036854775807
           ·rw [if_pos c33] at H
            have c33b0 := eq_true c33
            have c33b1 : decide (t111.size + t112.size + t113.size ≤ 9223372036854775807) = true := decide_eq_true c33
            try have c33b2 : (9223372036854775807 < t111.size + t112.size + t113.size) = False := eq_false (Nat.not_lt.2 c33)
            by_cases c34 : x5_1.size + (t111.size + t112.size + t113.size) ≤ 9223372036854775807
            ·rw [if_pos c34] at H
             have c34b0 := eq_true c34
             have c34b1 : decide (x5_1.size + (t111.size + t112.size + t113.size) ≤ 9223372036854775807) = true := decide_eq_true c34
             try have c34b2 : (9223372036854775807 < x5_1.size + (t111.size + t112.size + t113.size)) = False := eq_false (Nat.not_lt.2 c34)
             have H' := Qz.mk H
             clear H
             have p103 : 0 ≤ (x15_1 : Int) := of_decide_eq_true (by first | (with_reducible assumption) | assumption)
             have q103 : x15_1 < (l0.length : Int) := of_decide_eq_true (by first | (with_reducible assumption) | assumption)
             obtain ⟨ad103, e103, hx103_0, hx103_1, hx103_2, hx103_3⟩ := at_T64 HR0.out x15_1 p103 q103
             cases e103
             replace hx103_0 := (HB.out.cell (World.block_lt_of_cell? w _ hx103_0)).trans hx103_0
             replace hx103_1 := (HB.out.cell (World.block_lt_of_cell? w _ hx103_1)).trans hx103_1
             replace hx103_2 := (HB.out.cell (World.block_lt_of_cell? w _ hx103_2)).trans hx103_2
             replace hx103_3 := (HB.out.cell (World.block_lt_of_cell? w _ hx103_3)).trans hx103_3
             replace p103 := eq_true p103
             replace q103 := eq_true q103
             try go_wp2_with (first | ((with_reducible refine qb1 (N := 10) rfl ?_); refine qz ?hg (N := 10) ?hd (cs := #[.string (⟨#[]⟩ : ByteArray), .int .i64 0, .int .i64 0, .string (⟨#[]⟩ : ByteArray)]) (t := 64) ?hr ?_; (case hd => rfl); (case hg => rfl); (case hr => first | (go_simp; done) | (go_simp; rfl)); intro gb104 hg w35 hbox hb; have BK104 := Qz.mk (hbox); have GW104 := Qz.mk ((by rw [hg]; exact (qv yq62) : w.heap.size ≤ gb104)); have GE104 := GW104; replace HB := Qz.mk (ql yq62 hb); clear hb hbox hg; have hcz36_0 : w35.cell? ⟨gb104, 0, none⟩ = some (.string (⟨#[]⟩ : ByteArray)) := (qf BK104.out 0).trans rfl; have hcz36_1 : w35.cell? ⟨gb104, 1, none⟩ = some (.int .i64 0) := (qf BK104.out 1).trans rfl; have hcz36_2 : w35.cell? ⟨gb104, 2, none⟩ = some (.int .i64 0) := (qf BK104.out 2).trans rfl; have hcz36_3 : w35.cell? ⟨gb104, 3, none⟩ = some (.string (⟨#[]⟩ : ByteArray)) := (qf BK104.out 3).trans rfl; have hfz36_0 := qe BK104.out 0; have hfz36_1 := qe BK104.out 1; have hfz36_2 := qe BK104.out 2; have hfz36_3 := qe BK104.out 3) | ((with_reducible refine qj (f := 145) rfl ?_); refine qt (some 22) rfl rfl Try.func145 (by kernel_rfl) rfl #[.agg #[.string ((qk l0 x15_1).f0.f0), .int .i64 ((qk l0 x15_1).f0.f1), .int .i64 ((qk l0 x15_1).f0.f2)]] rfl yq59 ?_; (with_reducible refine (impl_keyText.calls ((qk l0 x15_1).f0.f0) ((qk l0 x15_1).f0.f1) ((qk l0 x15_1).f0.f2) t105 _ A6.out).mono ?_); rintro e w37 ⟨rfl, hb⟩; refine ⟨_, rfl, ?_⟩; replace BK104 := Qz.mk (qu (g := gb104) (o := .cells #[.string ((qk l0 x15_1).f0.f0), .int .i64 ((qk l0 x15_1).f0.f1), .int .i64 ((qk l0 x15_1).f0.f2), .string ((qk l0 x15_1).f1)] 64 (0, 0)) yq58 hb); replace HB := Qz.mk (ql yq57 hb); (try clear hb)) | ((with_reducible refine qj (f := 147) rfl ?_); refine qt (some 37) rfl rfl Try.func147 (by kernel_rfl) rfl #[.string x6_1, .string t105] rfl yq59 ?_; (with_reducible refine (impl_SharedWith.calls k1 x6_1 t105 t110 _ A26.out).mono ?_); rintro e w' ⟨rfl, ⟨nd, rfl⟩⟩; refine ⟨_, rfl, ?_⟩))
             (try (rw [drewN_self w37]; generalize hq_ : World.drewN w37 _ = w37; have n0_ : Qz (w37.heap[gb104]? = some (.cells #[.string ((qk l0 x15_1).f0.f0), .int .i64 ((qk l0 x15_1).f0.f1), .int .i64 ((qk l0 x15_1).f0.f2), .string ((qk l0 x15_1).f1)] 64 (0, 0))) := ⟨by rw [← hq_]; exact yq60⟩; have n1_ : Qz (Below w.heap.size w w37) := ⟨by rw [← hq_]; exact yq57⟩; clear BK104 HB hq_; have BK104 := n0_; have HB := n1_; clear n0_ n1_))
             replace BK104 := Qz.mk (qi BK104.out)
             replace HB := Qz.mk (qb HB.out)
             refine start_ (n := 14) (S := fun w' => w'.cell? ⟨gb104, 0, none⟩ = some (.string ((qk l0 x15_1).f0.f0)) ∧ w'.cell? ⟨gb104, 1, none⟩ = some (.int .i64 ((qk l0 x15_1).f0.f1)) ∧ w'.cell? ⟨gb104, 2, none⟩ = some (.int .i64 ((qk l0 x15_1).f0.f2)) ∧ w'.cell? ⟨gb104, 3, none⟩ = some (.string ((qk l0 x15_1).f1))) (ds := []) bq4 (by kernel_rfl) rfl rfl ⟨(qf BK104.out 0).trans rfl, (qf BK104.out 1).trans rfl, (qf BK104.out 2).trans rfl, (qf BK104.out 3).trans rfl⟩ (fun hHeld => ?_); refine with_tabW impl_block.tab10 impl_block.bits10 (fun HT_ HW_ => ?_)
             generalize w37.drew = w38 at BK104 HB hHeld ⊢
             refine pure_ (i := 0) (N := some 38) (v := ?_) (a' := ?_) bq10 rfl rfl (qr HT_.out (by kernel_rfl)) (fun _ _ _ h => h) (Or.inl ⟨by rfl, ?_⟩) ?_ ?_
             rotate_left
             ·intro w'
              go_simp
              with_reducible rfl
             rotate_left
             ·simp only [Act.put, sq1, sq2, sq3, i64_w, i32_w]
              rfl
             refine pure_ (i := 1) (N := some 39) (v := ?_) (a' := ?_) bq21 rfl rfl (qr HT_.out (by kernel_rfl)) (fun _ _ _ h => h) (Or.inl ⟨by rfl, ?_⟩) ?_ ?_
             rotate_left
             ·intro w'
              go_simp
              with_reducible rfl
             rotate_left
             ·simp only [Act.put, sq1, sq2, sq3, i64_w, i32_w]
              rfl
             refine pure_ (i := 3) (N := some 41) (v := ?_) (a' := ?_) bq22 rfl rfl (qr HT_.out (by kernel_rfl)) (fun _ _ _ h => h) (Or.inl ⟨by rfl, ?_⟩) ?_ ?_
             rotate_left
             ·intro w'
              go_simp
              with_reducible rfl
             rotate_left
             ·simp only [Act.put, sq1, sq2, sq3, i64_w, i32_w]
              rfl
             refine pure_ (i := 4) (N := some 42) (v := ?_) (a' := ?_) bq23 rfl rfl (qr HT_.out (by kernel_rfl)) (fun _ _ _ h => h) (Or.inl ⟨by rfl, ?_⟩) ?_ ?_
             rotate_left
             ·intro w'
              go_simp
              with_reducible rfl
             rotate_left
             ·simp only [Act.put, sq1, sq2, sq3, i64_w, i32_w]
              rfl
             refine pure_ (i := 5) (N := some 43) (v := ?_) (a' := ?_) bq24 rfl rfl (qr HT_.out (by kernel_rfl)) (fun _ _ _ h => h) (Or.inl ⟨by rfl, ?_⟩) ?_ ?_
             rotate_left
             ·intro w'
              go_simp
              with_reducible rfl
             rotate_left
             ·simp only [Act.put, sq1, sq2, sq3, i64_w, i32_w]
              rfl
             refine pure_ (i := 8) (N := some 46) (v := ?_) (a' := ?_) bq25 rfl rfl (qr HT_.out (by kernel_rfl)) (fun _ _ _ h => h) (Or.inl ⟨by rfl, ?_⟩) ?_ ?_
             rotate_left
             ·intro w'
              go_simp
              with_reducible rfl
             rotate_left
             ·simp only [Act.put, sq1, sq2, sq3, i64_w, i32_w]
              rfl
             refine take_ (i := 9) (N := some 47) (v := ?_) (a' := ?_) bq26 rfl rfl (take_ofW HT_.out HW_.out (by kernel_rfl)) (fun _ _ _ h => h) (Or.inl ⟨by rfl, ?_⟩) hHeld ?_ ?_
             rotate_left
             ·rintro w' ⟨s0, s1, s2, s3⟩
              go_simp
              with_reducible rfl
             rotate_left
             ·simp only [Act.put, sq1, sq2, sq3, i64_w, i32_w]
              rfl
             refine one_ (i := 2) (N := some 40) bq55 rfl rfl (one_of HT_.out (by kernel_rfl)) (by decide) (fun K hK => ?_)
             refine goes_ Try.func148 (by kernel_rfl) rfl #[.int .i64 t110] (by rfl) rfl rfl yq59 ?_
             with_reducible refine (impl_putInt.calls k1 t110 t111 _ A27.out).mono ?_
             rintro e w39 ⟨rfl, hb⟩
             refine ⟨_, rfl, ?_⟩
             replace BK104 := Qz.mk (qu (g := gb104) (o := .cells #[.string ((qk l0 x15_1).f0.f0), .int .i64 ((qk l0 x15_1).f0.f1), .int .i64 ((qk l0 x15_1).f0.f2), .string ((qk l0 x15_1).f1)] 64 (0, 0)) yq60 hb)
             replace HB := Qz.mk (ql yq57 hb)
             (try clear hb)
             refine hK.out _ _ ⟨(qf BK104.out 0).trans rfl, (qf BK104.out 1).trans rfl, (qf BK104.out 2).trans rfl, (qf BK104.out 3).trans rfl⟩ (fun hHeld => ?_)
             clear hK K
             refine norm_ (a' := ?_) ?_ ?_
             rotate_left
             ·show Act.put _ (some 40) _ = _
              simp only [Act.put, sq1, sq2, sq3, i64_w, i32_w]
              rfl
             refine one_ (i := 6) (N := some 44) bq60 rfl rfl (one_of HT_.out (by kernel_rfl)) (by decide) (fun K hK => ?_)
             refine goes_ Try.func149 (by kernel_rfl) rfl #[.string (t105.extract (t110 : Int).toNat t105.size)] (by rfl) rfl rfl yq59 ?_
             with_reducible refine (impl_PutText.calls k1 (t105.extract (t110 : Int).toNat t105.size) t112 _ A30.out).mono ?_
             rintro e w40 ⟨rfl, hb⟩
             refine ⟨_, rfl, ?_⟩
             replace BK104 := Qz.mk (qu (g := gb104) (o := .cells #[.string ((qk l0 x15_1).f0.f0), .int .i64 ((qk l0 x15_1).f0.f1), .int .i64 ((qk l0 x15_1).f0.f2), .string ((qk l0 x15_1).f1)] 64 (0, 0)) yq60 hb)
             replace HB := Qz.mk (ql yq57 hb)
             (try clear hb)
             refine hK.out _ _ ⟨(qf BK104.out 0).trans rfl, (qf BK104.out 1).trans rfl, (qf BK104.out 2).trans rfl, (qf BK104.out 3).trans rfl⟩ (fun hHeld => ?_)
             clear hK K
             refine norm_ (a' := ?_) ?_ ?_
             rotate_left
             ·show Act.put _ (some 44) _ = _
              simp only [Act.put, sq1, sq2, sq3, i64_w, i32_w]
              rfl
             refine pure_ (i := 7) (N := some 45) (v := ?_) (a' := ?_) bq76 rfl rfl (qr HT_.out (by kernel_rfl)) (fun _ _ _ h => h) (Or.inl ⟨by rfl, ?_⟩) ?_ ?_
             rotate_left
             ·intro w'
              go_simp
              with_reducible rfl
             rotate_left
             ·simp only [Act.put, sq1, sq2, sq3, i64_w, i32_w]
              rfl
             refine one_ (i := 10) (N := some 48) bq81 rfl rfl (one_of HT_.out (by kernel_rfl)) (by decide) (fun K hK => ?_)
             refine goes_ Try.func149 (by kernel_rfl) rfl #[.string ((qk l0 x15_1).f1)] (by rfl) rfl rfl yq59 ?_
             with_reducible refine (impl_PutText.calls k1 ((qk l0 x15_1).f1) t113 _ A32.out).mono ?_
             rintro e w41 ⟨rfl, hb⟩
             refine ⟨_, rfl, ?_⟩
             replace BK104 := Qz.mk (qu (g := gb104) (o := .cells #[.string ((qk l0 x15_1).f0.f0), .int .i64 ((qk l0 x15_1).f0.f1), .int .i64 ((qk l0 x15_1).f0.f2), .string ((qk l0 x15_1).f1)] 64 (0, 0)) yq60 hb)
             replace HB := Qz.mk (ql yq57 hb)
             (try clear hb)
             refine hK.out _ _ ⟨(qf BK104.out 0).trans rfl, (qf BK104.out 1).trans rfl, (qf BK104.out 2).trans rfl, (qf BK104.out 3).trans rfl⟩ (fun hHeld => ?_)
             clear hK K
             refine norm_ (a' := ?_) ?_ ?_
             rotate_left
             ·show Act.put _ (some 48) _ = _
              simp only [Act.put, sq1, sq2, sq3, i64_w, i32_w]
              rfl
             refine pure_ (i := 11) (N := some 49) (v := ?_) (a' := ?_) bq86 rfl rfl (qr HT_.out (by kernel_rfl)) (fun _ _ _ h => h) (Or.inl ⟨by rfl, ?_⟩) ?_ ?_
             rotate_left
             ·intro w'
              go_simp
              with_reducible rfl
             rotate_left
             ·simp only [Act.put, sq1, sq2, sq3, i64_w, i32_w]
              rfl
             refine pure_ (i := 12) (N := some 50) (v := ?_) (a' := ?_) bq91 rfl rfl (qr HT_.out (by kernel_rfl)) (fun _ _ _ h => h) (Or.inl ⟨by rfl, ?_⟩) ?_ ?_
             rotate_left
             ·intro w'
              go_simp
              with_reducible rfl
             rotate_left
             ·simp only [Act.put, sq1, sq2, sq3, i64_w, i32_w]
              rfl
             refine pure_ (i := 13) (N := some 5) (v := ?_) (a' := ?_) bq120 rfl rfl (qr HT_.out (by kernel_rfl)) (fun _ _ _ h => h) (Or.inl ⟨by rfl, ?_⟩) ?_ ?_
             rotate_left
             ·intro w'
              go_simp
              with_reducible rfl
             rotate_left
             ·simp only [Act.put, sq1, sq2, sq3, i64_w, i32_w]
              rfl
             refine done_ (done_of HT_.out (by kernel_rfl)) ?_
             try go_wp2
             go_roundg k1
             case measure => have := HK1.out; omega
             case rel => exact ⟨(x5_1 ++ ((t111 ++ t112) ++ t113)), (t105), (x7_1), (x8_1), (wrap64 (x15_1 + 1)), yq61, yq61, yq61, yq61, yq61, H', ⟨by have := HK1.out; omega⟩, ⟨by repeat (first | (with_reducible first | exact HB.out | apply qc | apply qa | apply qb | refine qd ?_ GE104.out) | exact HB.out)⟩⟩
            ·rw [if_neg c34] at H
             exact absurd H (by simp)
           ·rw [if_neg c33] at H
            exact absurd H (by simp)
          ·rw [if_neg c31] at H
           exact absurd H (by simp)
         ·rw [if_neg c29] at H
          exact absurd H (by simp)
        ·rw [if_neg c28] at H
         exact absurd H (by simp)
     ·rw [if_neg c5] at H
      exact absurd H (by simp)
    ·rw [if_neg c4] at H
     exact absurd H (by simp)
   ·rw [if_neg c3] at H
    have c3b0 : decide (x15_1 < (l0.length : Int)) = false := decide_eq_false c3
    clear c3
    by_cases c42 : x5_1.size + x7_1.size ≤ 9223372036854775807
    ·rw [if_pos c42] at H
     have c42b0 := eq_true c42
     have c42b1 : decide (x5_1.size + x7_1.size ≤ 9223372036854775807) = true := decide_eq_true c42
     try have c42b2 : (9223372036854775807 < x5_1.size + x7_1.size) = False := eq_false (Nat.not_lt.2 c42)
     replace H := Option.bind_eq_some_iff.mp H
     obtain ⟨t101, A430, H⟩ := H
     replace H : (if x5_1.size + x7_1.size + t101.size ≤ 9223372036854775807 then ((impl_PutFixed.f ((a1) % 4294967296)).bind fun t102 => (if x5_1.size + x7_1.size + t101.size + t102.size ≤ 9223372036854775807 then (some (((x5_1 ++ x7_1) ++ t101) ++ t102)) else (none))) else (none)) = some r := H
     have A43 := Qz.mk A430
     clear A430
     by_cases c44 : x5_1.size + x7_1.size + t101.size ≤ 9223372036854775807
     ·rw [if_pos c44] at H
      have c44b0 := eq_true c44
      have c44b1 : decide (x5_1.size + x7_1.size + t101.size ≤ 9223372036854775807) = true := decide_eq_true c44
      try have c44b2 : (9223372036854775807 < x5_1.size + x7_1.size + t101.size) = False := eq_false (Nat.not_lt.2 c44)
      replace H := Option.bind_eq_some_iff.mp H
      obtain ⟨t102, A450, H⟩ := H
      replace H : (if x5_1.size + x7_1.size + t101.size + t102.size ≤ 9223372036854775807 then (some (((x5_1 ++ x7_1) ++ t101) ++ t102)) else (none)) = some r := H
      have A45 := Qz.mk A450
      clear A450
      by_cases c46 : x5_1.size + x7_1.size + t101.size + t102.size ≤ 9223372036854775807
      ·rw [if_pos c46] at H
       have c46b0 := eq_true c46
       have c46b1 : decide (x5_1.size + x7_1.size + t101.size + t102.size ≤ 9223372036854775807) = true := decide_eq_true c46
       try have c46b2 : (9223372036854775807 < x5_1.size + x7_1.size + t101.size + t102.size) = False := eq_false (Nat.not_lt.2 c46)
       obtain rfl := Option.some.inj H
       go_wp2_with (first | ((with_reducible refine qj (f := 146) rfl ?_); refine qt (some 57) rfl rfl Try.func146 (by kernel_rfl) rfl #[.int .u32 x8_1] rfl yq59 ?_; (with_reducible refine (impl_PutFixed.calls x8_1 t101 _ A43.out).mono ?_); rintro e w47 ⟨rfl, hb⟩; refine ⟨_, rfl, ?_⟩; replace HB := Qz.mk (ql yq62 hb); (try clear hb)) | ((with_reducible refine qj (f := 146) rfl ?_); refine qt (some 61) rfl rfl Try.func146 (by kernel_rfl) rfl #[.int .u32 ((a1) % 4294967296)] rfl yq59 ?_; (with_reducible refine (impl_PutFixed.calls ((a1) % 4294967296) t102 _ A45.out).mono ?_); rintro e w48 ⟨rfl, hb⟩; refine ⟨_, rfl, ?_⟩; replace HB := Qz.mk (ql yq62 hb); (try clear hb)))
       go_ret
       exact ⟨by first | rfl | (simp [qn, qm] <;> rfl) | (simp [*, qn, qm] <;> rfl), by repeat (first | (with_reducible first | exact HB.out | apply qc | apply qa | apply qb) | exact HB.out)⟩
      ·rw [if_neg c46] at H
       exact absurd H (by simp)
     ·rw [if_neg c44] at H
      exact absurd H (by simp)
    ·rw [if_neg c42] at H
     exact absurd H (by simp)
theorem yq63 {P : Prop} (h : P := by (try simp only [List.map_toArray, List.map_cons, List.map_nil]); first | done | rfl | (simp only [List.length_drop, List.length_take]; rfl) | (rw [IntWalk.u64_in _ (by omega)] <;> rfl)) : P := h
theorem yq64 {P : Prop} (h : P := by repeat (first | exact (Kd.C_below HR0.out HB.out) | (with_reducible refine Kd.C_alloc ?_ _) | (with_reducible refine Kd.C_drewN ?_ _) | (with_reducible refine Kd.C_drew ?_))) : P := h
theorem yq65 {P : Prop} (h : P := by repeat (first | (with_reducible first | exact HB.out | apply qc | apply qa | apply qb) | exact HB.out)) : P := h
def impl_BlockOf.j0 : Nat → List (S64) → Int → Bool → Option (ByteArray × Bool)
 | 0, _, _, _ => none
 | k + 1, x0, x1, x19 => if x19 = true then (some ((⟨#[]⟩ : ByteArray), false)) else ((impl_block.f k x0 x1).bind fun t103 => (if (t103.size : Int) > 60000 then (some ((⟨#[]⟩ : ByteArray), false)) else (some (t103, true))))
def impl_BlockOf.f (k : Nat) (l0 : List (S64)) (a1 : Int) : Option (ByteArray × Bool) := (impl_EntriesOk.f k l0).bind fun t101 => (if t101 = true then (if (l0.length : Int) = 0 then (impl_BlockOf.j0 k l0 a1 true) else ((impl_within.f a1 1 16).bind fun t102 => (impl_BlockOf.j0 k l0 a1 (!t102)))) else (impl_BlockOf.j0 k l0 a1 true))
set_option maxHeartbeats 8000000 in
set_option maxRecDepth 100000 in
theorem impl_BlockOf.calls (k : Nat) (A0 : Option Addr) (c0 : Nat) (l0 : List (S64)) (a1 : Int) (r1 : ByteArray) (r2 : Bool) (w : World) (hr0 : Kd.C k64 w A0 l0.length l0) (hc0 : l0.length ≤ c0) (h : impl_BlockOf.f k l0 a1 = some (r1, r2)) :
  Calls Try.prog 18 #[.slice A0 l0.length c0, .int .i64 a1] w fun e w' => e = .returned (.tuple #[.string r1, .bool r2]) ∧ Below w.heap.size w w' := by
 have HR0 := Qz.mk hr0
 have HC0 := Qz.mk hc0
 clear hr0 hc0
 have HB := Qz.mk (Below.refl w.heap.size w)
 have H : ((impl_EntriesOk.f k l0).bind fun t101 => (if t101 = true then (if (l0.length : Int) = 0 then (impl_BlockOf.j0 k l0 a1 true) else ((impl_within.f a1 1 16).bind fun t102 => (impl_BlockOf.j0 k l0 a1 (!t102)))) else (impl_BlockOf.j0 k l0 a1 true))) = some (r1, r2) := h
 clear h
 have HC3 := Qz.mk H
 clear H
 go_enter Try.func18, Try.ntmps18
 go_upto_region 1 with (fail)
 go_cut [19] (fun v19 wc => ∃ (kq : Nat) (x19_2 : Bool), v19 = .bool x19_2 ∧ Qz (impl_BlockOf.j0 kq l0 a1 x19_2 = some (r1, r2)) ∧ Qz (kq ≤ k) ∧ Qz (Below w.heap.size w wc))
 case first =>
  have H := HC3.out
  clear HC3
  replace H := Option.bind_eq_some_iff.mp H
  obtain ⟨t101, A40, H⟩ := H
  replace H : (if t101 = true then (if (l0.length : Int) = 0 then (impl_BlockOf.j0 k l0 a1 true) else ((impl_within.f a1 1 16).bind fun t102 => (impl_BlockOf.j0 k l0 a1 (!t102)))) else (impl_BlockOf.j0 k l0 a1 true)) = some (r1, r2) := H
  have A4 := Qz.mk A40
  clear A40
  by_cases c5 : t101 = true
  ·subst c5
   have H1 : (if (l0.length : Int) = 0 then (impl_BlockOf.j0 k l0 a1 true) else ((impl_within.f a1 1 16).bind fun t102 => (impl_BlockOf.j0 k l0 a1 (!t102)))) = some (r1, r2) := by rw [if_pos rfl] at H; exact H
   clear H
   have H := H1
   clear H1
   by_cases c6 : (l0.length : Int) = 0
   ·rw [if_pos c6] at H
    have c6b0 : ((l0.length : Int) == 0) = true := beq_iff_eq.mpr c6
    have c6b1 : ((l0.length : Int) != 0) = false := bne_eq_false_iff_eq.mpr c6
    clear c6
    (first | rw [c6b0] | (simp only [i64_w, i32_w]; rw [c6b0]) | skip)
    have H' := Qz.mk H
    clear H
    go_wp2_with (first | ((with_reducible refine qj (f := 43) rfl ?_); refine qt (some 8) rfl rfl Try.func43 (by kernel_rfl) rfl #[.slice A0 l0.length c0] rfl yq63 ?_; (with_reducible refine (impl_EntriesOk.calls k _ _ l0 true _ ?side1 ?side2 A4.out).mono ?_); (case side1 => exact yq64); (case side2 => exact HC0.out); rintro e w7 ⟨rfl, hb⟩; refine ⟨_, rfl, ?_⟩; replace HB := Qz.mk (ql yq65 hb); (try clear hb)))
    go_meet
    case rel => exact ⟨_, (true), (by first | rfl | (simp; done) | (simp [*]; done)), H', ⟨by first | omega | exact Nat.le_refl _⟩, ⟨by repeat (first | (with_reducible first | exact HB.out | apply qc | apply qa | apply qb) | exact HB.out)⟩⟩
   ·rw [if_neg c6] at H
    have c6b0 : ((l0.length : Int) == 0) = false := beq_eq_false_iff_ne.mpr c6
    have c6b1 : ((l0.length : Int) != 0) = true := bne_iff_ne.mpr c6
    have c6b2 : ¬ (l0 = []) := fun h_ => c6 (by rw [h_]; rfl)
    (first | rw [c6b0] | (simp only [i64_w, i32_w]; rw [c6b0]) | skip)
    replace H := Option.bind_eq_some_iff.mp H
    obtain ⟨t102, A80, H⟩ := H
    replace H : (impl_BlockOf.j0 k l0 a1 (!t102)) = some (r1, r2) := H
    have A8 := Qz.mk A80
    clear A80
    have H' := Qz.mk H
    clear H
    go_wp2_with (first | ((with_reducible refine qj (f := 43) rfl ?_); refine qt (some 8) rfl rfl Try.func43 (by kernel_rfl) rfl #[.slice A0 l0.length c0] rfl yq63 ?_; (with_reducible refine (impl_EntriesOk.calls k _ _ l0 true _ ?side1 ?side2 A4.out).mono ?_); (case side1 => exact yq64); (case side2 => exact HC0.out); rintro e w9 ⟨rfl, hb⟩; refine ⟨_, rfl, ?_⟩; replace HB := Qz.mk (ql yq65 hb); (try clear hb)) | (go_at_call 76; (with_reducible refine (impl_within.calls a1 1 16 t102 _ A8.out).mono ?_); rintro e w' ⟨rfl, ⟨nd, rfl⟩⟩))
    go_meet
    case rel => exact ⟨_, (!t102), (by first | rfl | (simp; done) | (simp [*]; done)), H', ⟨by first | omega | exact Nat.le_refl _⟩, ⟨by repeat (first | (with_reducible first | exact HB.out | apply qc | apply qa | apply qb) | exact HB.out)⟩⟩
  ·replace c5 := Bool.eq_false_iff.mpr c5
   subst c5
   have H1 : (impl_BlockOf.j0 k l0 a1 true) = some (r1, r2) := by rw [if_neg (show ¬ (false = true) by decide)] at H; exact H
   clear H
   have H := H1
   clear H1
   have H' := Qz.mk H
   clear H
   go_wp2_with (first | ((with_reducible refine qj (f := 43) rfl ?_); refine qt (some 8) rfl rfl Try.func43 (by kernel_rfl) rfl #[.slice A0 l0.length c0] rfl yq63 ?_; (with_reducible refine (impl_EntriesOk.calls k _ _ l0 false _ ?side1 ?side2 A4.out).mono ?_); (case side1 => exact yq64); (case side2 => exact HC0.out); rintro e w10 ⟨rfl, hb⟩; refine ⟨_, rfl, ?_⟩; replace HB := Qz.mk (ql yq65 hb); (try clear hb)))
   go_meet
   case rel => exact ⟨_, (true), (by first | rfl | (simp; done) | (simp [*]; done)), H', ⟨by first | omega | exact Nat.le_refl _⟩, ⟨by repeat (first | (with_reducible first | exact HB.out | apply qc | apply qa | apply qb) | exact HB.out)⟩⟩
 case rest =>
  clear HC3
  try clear c1
  try clear p2
  try clear c4
  try clear c5
  try clear c6
  try clear c6b0
  try clear c6b1
  try clear c6b2
  obtain ⟨kq, x19_2, rfl, HA, HJ2, HB⟩ := hcut
  cases kq with
  | zero => exact absurd HA.out (by simp [impl_BlockOf.j0])
  | succ kj2 =>
   have H := HA.out
   clear HA
   simp only [impl_BlockOf.j0] at H
   by_cases c11 : x19_2 = true
   ·subst c11
    have H1 : (some ((⟨#[]⟩ : ByteArray), false)) = some (r1, r2) := by rw [if_pos rfl] at H; exact H
    clear H
    have H := H1
    clear H1
    simp only [Option.some.injEq, Prod.mk.injEq] at H
    obtain ⟨rfl, rfl⟩ := H
    go_wp2
    go_ret2
    exact ⟨by first | rfl | (simp [qn, qm] <;> rfl) | (simp [*, qn, qm] <;> rfl), by repeat (first | (with_reducible first | exact HB.out | apply qc | apply qa | apply qb) | exact HB.out)⟩
   ·replace c11 := Bool.eq_false_iff.mpr c11
    subst c11
    have H1 : ((impl_block.f kj2 l0 a1).bind fun t103 => (if (t103.size : Int) > 60000 then (some ((⟨#[]⟩ : ByteArray), false)) else (some (t103, true)))) = some (r1, r2) := by rw [if_neg (show ¬ (false = true) by decide)] at H; exact H
    clear H
    have H := H1
    clear H1
    replace H := Option.bind_eq_some_iff.mp H
    obtain ⟨t103, A120, H⟩ := H
    replace H : (if (t103.size : Int) > 60000 then (some ((⟨#[]⟩ : ByteArray), false)) else (some (t103, true))) = some (r1, r2) := H
    have A12 := Qz.mk A120
    clear A120
    by_cases c13 : (t103.size : Int) > 60000
    ·rw [if_pos c13] at H
     have c13b0 : decide (60000 < (t103.size : Int)) = true := decide_eq_true c13
     have c13b1 : decide (60000 < t103.size) = true := decide_eq_true (by omega)
     clear c13
     simp only [Option.some.injEq, Prod.mk.injEq] at H
     obtain ⟨rfl, rfl⟩ := H
     go_wp2_with (first | ((with_reducible refine qj (f := 77) rfl ?_); refine qt (some 22) rfl rfl Try.func77 (by kernel_rfl) rfl #[.slice A0 l0.length c0, .int .i64 a1] rfl yq63 ?_; (with_reducible refine (impl_block.calls kj2 _ _ l0 a1 t103 _ ?side1 ?side2 A12.out).mono ?_); (case side1 => exact yq64); (case side2 => exact HC0.out); rintro e w14 ⟨rfl, hb⟩; refine ⟨_, rfl, ?_⟩; replace HB := Qz.mk (ql yq65 hb); (try clear hb)))
     go_ret2
     exact ⟨by first | rfl | (simp [qn, qm] <;> rfl) | (simp [*, qn, qm] <;> rfl), by repeat (first | (with_reducible first | exact HB.out | apply qc | apply qa | apply qb) | exact HB.out)⟩
    ·rw [if_neg c13] at H
     have c13b0 : decide (60000 < (t103.size : Int)) = false := decide_eq_false c13
     have c13b1 : decide (60000 < t103.size) = false := decide_eq_false (by omega)
     clear c13
     simp only [Option.some.injEq, Prod.mk.injEq] at H
     obtain ⟨rfl, rfl⟩ := H
     go_wp2_with (first | ((with_reducible refine qj (f := 77) rfl ?_); refine qt (some 22) rfl rfl Try.func77 (by kernel_rfl) rfl #[.slice A0 l0.length c0, .int .i64 a1] rfl yq63 ?_; (with_reducible refine (impl_block.calls kj2 _ _ l0 a1 t103 _ ?side1 ?side2 A12.out).mono ?_); (case side1 => exact yq64); (case side2 => exact HC0.out); rintro e w15 ⟨rfl, hb⟩; refine ⟨_, rfl, ?_⟩; replace HB := Qz.mk (ql yq65 hb); (try clear hb)))
     go_ret2
     exact ⟨by first | rfl | (simp [qn, qm] <;> rfl) | (simp [*, qn, qm] <;> rfl), by repeat (first | (with_reducible first | exact HB.out | apply qc | apply qa | apply qb) | exact HB.out)⟩
theorem yq66 {P : Prop} (h : P := by first | (with_reducible assumption) | assumption) : P := h
def impl_TakeFixed.f (a0 : ByteArray) : Option (Int × ByteArray × Bool) := if (a0.size : Int) < 4 then (some (0, (⟨#[]⟩ : ByteArray), false)) else (if 0 < (a0.size : Int) then (if 1 < (a0.size : Int) then (if 2 < (a0.size : Int) then (if 3 < (a0.size : Int) then (if 4 ≤ (a0.size : Int) then (some (Go.bits .or .u32 (Go.bits .or .u32 (Go.bits .or .u32 ((bt a0 0) % 4294967296) ((((bt a0 1) % 4294967296) * 256) % 4294967296)) ((((bt a0 2) % 4294967296) * 65536) % 4294967296)) ((((bt a0 3) % 4294967296) * 16777216) % 4294967296), a0.extract 4 a0.size, true)) else (none)) else (none)) else (none)) else (none)) else (none))
set_option maxHeartbeats 8000000 in
set_option maxRecDepth 100000 in
theorem impl_TakeFixed.calls (a0 : ByteArray) (r1 : Int) (r2 : ByteArray) (r3 : Bool) (w : World) (h : impl_TakeFixed.f a0 = some (r1, r2, r3)) :
  Calls Try.prog 152 #[.string a0] w fun e w' => e = .returned (.tuple #[.int .u32 r1, .string r2, .bool r3]) ∧ Drawn0 w w' := by
 have H : (if (a0.size : Int) < 4 then (some (0, (⟨#[]⟩ : ByteArray), false)) else (if 0 < (a0.size : Int) then (if 1 < (a0.size : Int) then (if 2 < (a0.size : Int) then (if 3 < (a0.size : Int) then (if 4 ≤ (a0.size : Int) then (some (Go.bits .or .u32 (Go.bits .or .u32 (Go.bits .or .u32 ((bt a0 0) % 4294967296) ((((bt a0 1) % 4294967296) * 256) % 4294967296)) ((((bt a0 2) % 4294967296) * 65536) % 4294967296)) ((((bt a0 3) % 4294967296) * 16777216) % 4294967296), a0.extract 4 a0.size, true)) else (none)) else (none)) else (none)) else (none)) else (none))) = some (r1, r2, r3) := h
 clear h
 by_cases c2 : (a0.size : Int) < 4
 ·rw [if_pos c2] at H
  have c2b0 : decide ((a0.size : Int) < 4) = true := decide_eq_true c2
  have c2b1 : decide (a0.size < 4) = true := decide_eq_true (by omega)
  clear c2
  simp only [Option.some.injEq, Prod.mk.injEq] at H
  obtain ⟨rfl, rfl, rfl⟩ := H
  go_enter Try.func152, Try.ntmps152
  go_wp2
  repeat (go_quiet (fail); try go_wp2)
  go_ret3
  exact ⟨by first | rfl | (simp; done) | (simp [*]; done), by repeat (first | exact Drawn0.refl _ | apply Drawn0.step)⟩
 ·rw [if_neg c2] at H
  have c2b0 : decide ((a0.size : Int) < 4) = false := decide_eq_false c2
  have c2b1 : decide (a0.size < 4) = false := decide_eq_false (by omega)
  clear c2
  by_cases c3 : 0 < (a0.size : Int)
  ·rw [if_pos c3] at H
   have c3b0 : decide (0 < (a0.size : Int)) = true := decide_eq_true c3
   have c3b1 : decide (0 < a0.size) = true := decide_eq_true (by omega)
   clear c3
   by_cases c5 : 1 < (a0.size : Int)
   ·rw [if_pos c5] at H
    have c5b0 : decide (1 < (a0.size : Int)) = true := decide_eq_true c5
    have c5b1 : decide (1 < a0.size) = true := decide_eq_true (by omega)
    clear c5
    by_cases c7 : 2 < (a0.size : Int)
    ·rw [if_pos c7] at H
     have c7b0 : decide (2 < (a0.size : Int)) = true := decide_eq_true c7
     have c7b1 : decide (2 < a0.size) = true := decide_eq_true (by omega)
     clear c7
     by_cases c9 : 3 < (a0.size : Int)
     ·rw [if_pos c9] at H
      have c9b0 : decide (3 < (a0.size : Int)) = true := decide_eq_true c9
      have c9b1 : decide (3 < a0.size) = true := decide_eq_true (by omega)
      clear c9
      by_cases c11 : 4 ≤ (a0.size : Int)
      ·rw [if_pos c11] at H
       have c11b0 := eq_true c11
       have c11b1 : decide (4 ≤ (a0.size : Int)) = true := decide_eq_true c11
       clear c11
       simp only [Option.some.injEq, Prod.mk.injEq] at H
       obtain ⟨rfl, rfl, rfl⟩ := H
       have p4 : 0 ≤ (0 : Int) := (by omega)
       have q4 : 0 < a0.size := (by have : (0 : Int) < (a0.size : Int) := of_decide_eq_true yq66; omega)
       have hx4 : ∀ h : 0 < a0.size, ((a0[0]'h).toNat : Int) = bt a0 0 := bt_at a0 0
       clear p4
       have qi4 : (0 < (a0.size : Int)) = True := eq_true (of_decide_eq_true yq66)
       replace q4 := eq_true q4
       have p6 : 0 ≤ (1 : Int) := (by omega)
       have q6 : 1 < a0.size := (by have : (1 : Int) < (a0.size : Int) := of_decide_eq_true yq66; omega)
       have hx6 : ∀ h : 1 < a0.size, ((a0[1]'h).toNat : Int) = bt a0 1 := bt_at a0 1
       clear p6
       have qi6 : (1 < (a0.size : Int)) = True := eq_true (of_decide_eq_true yq66)
       replace q6 := eq_true q6
       have p8 : 0 ≤ (2 : Int) := (by omega)
       have q8 : 2 < a0.size := (by have : (2 : Int) < (a0.size : Int) := of_decide_eq_true yq66; omega)
       have hx8 : ∀ h : 2 < a0.size, ((a0[2]'h).toNat : Int) = bt a0 2 := bt_at a0 2
       clear p8
       have qi8 : (2 < (a0.size : Int)) = True := eq_true (of_decide_eq_true yq66)
       replace q8 := eq_true q8
       have p10 : 0 ≤ (3 : Int) := (by omega)
       have q10 : 3 < a0.size := (by have : (3 : Int) < (a0.size : Int) := of_decide_eq_true yq66; omega)
       have hx10 : ∀ h : 3 < a0.size, ((a0[3]'h).toNat : Int) = bt a0 3 := bt_at a0 3
       clear p10
       have qi10 : (3 < (a0.size : Int)) = True := eq_true (of_decide_eq_true yq66)
       replace q10 := eq_true q10
       go_enter Try.func152, Try.ntmps152
       go_wp2
       repeat (go_quiet (fail); try go_wp2)
       go_ret3
       exact ⟨by first | rfl | (simp; done) | (simp [*]; done), by repeat (first | exact Drawn0.refl _ | apply Drawn0.step)⟩
      ·rw [if_neg c11] at H
       exact absurd H (by simp)
     ·rw [if_neg c9] at H
      exact absurd H (by simp)
    ·rw [if_neg c7] at H
     exact absurd H (by simp)
   ·rw [if_neg c5] at H
    exact absurd H (by simp)
  ·rw [if_neg c3] at H
   exact absurd H (by simp)
def IsS123 (w0 W : World) (g : Nat) (f0 : ByteArray) (f1 : Bool) : Prop := W.heap[g]? = some (.cells #[.string f0, .bool f1] 123 (0, 0)) ∧ w0.heap.size ≤ g
theorem IsS123.grown {w0 W : World} {g : Nat} {f0 : ByteArray} {f1 : Bool} {W1 : World} {row : Option Nat} (h : IsS123 w0 W g f0 f1) (hw : W.grownBy W1 row) (hne : some g ≠ row) : IsS123 w0 W1 g f0 f1 := by
 obtain ⟨hb, hg⟩ := h
 exact ⟨blk_grown hb hw hne, hg⟩
theorem IsS123.kept {w0 W : World} {g : Nat} {f0 : ByteArray} {f1 : Bool} {W1 : World} {S : Nat → Prop} (h : IsS123 w0 W g f0 f1) (hk : Kept W W1 S) (hne : ¬ S g) : IsS123 w0 W1 g f0 f1 := by
 obtain ⟨hb, hg⟩ := h
 exact ⟨blk_kept hb hk hne, hg⟩
theorem IsS123.below {w0 W : World} {g : Nat} {f0 : ByteArray} {f1 : Bool} {W1 : World} (h : IsS123 w0 W g f0 f1) (hw : Below W.heap.size W W1) : IsS123 w0 W1 g f0 f1 := h.grown (grown_of_below hw none) (by simp)
theorem IsS123.alloc {w0 W : World} {g : Nat} {f0 : ByteArray} {f1 : Bool} (h : IsS123 w0 W g f0 f1) (o : Obj) : IsS123 w0 (W.alloc o) g f0 f1 := h.below (qc (Below.refl _ _) o)
theorem IsS123.drewN {w0 W : World} {g : Nat} {f0 : ByteArray} {f1 : Bool} (h : IsS123 w0 W g f0 f1) (m : Nat) : IsS123 w0 (W.drewN m) g f0 f1 := h
theorem IsS123.drew {w0 W : World} {g : Nat} {f0 : ByteArray} {f1 : Bool} (h : IsS123 w0 W g f0 f1) : IsS123 w0 W.drew g f0 f1 := h
theorem IsS123.at_ {w0 W : World} {g : Nat} {f0 : ByteArray} {f1 : Bool} {w' : World} {m : Nat} (hq : W.drewN m = w') (h : IsS123 w0 W g f0 f1) : IsS123 w0 w' g f0 f1 := by subst hq; exact IsS123.drewN h m
theorem IsS123.apart {w0 W : World} {g : Nat} {f0 : ByteArray} {f1 : Bool} {α : Type} {d : Kd α} {e : Nat} {base : Nat} {ok : Nat → Prop} {v : Value} {xs : List α} (h : IsS123 w0 W g f0 f1) (ho : d.R e W base ok v xs) (ht : ∀ q, q ∈ e :: d.E → q ≠ 123) : d.R e W base (fun k => ok k ∧ k ≠ g) v xs := by
 obtain ⟨hb, hg⟩ := h
 exact Kd.R_types ho hb ht
theorem IsS123.own_ne {w0 W : World} {g : Nat} {f0 : ByteArray} {f1 : Bool} {α : Type} {d : Kd α} {e : Nat} {base : Nat} {ok : Nat → Prop} {v : Value} {xs : List α} (h : IsS123 w0 W g f0 f1) (ho : d.R e W base ok v xs) (ht : e ≠ 123) : some g ≠ v.ownBlock := by
 obtain ⟨hb, hg⟩ := h
 exact Kd.R_ne ho hb ht
theorem IsS123.lt {w0 W : World} {g : Nat} {f0 : ByteArray} {f1 : Bool} (h : IsS123 w0 W g f0 f1) : g < W.heap.size := by
 obtain ⟨hb, hg⟩ := h
 exact blk_lt hb
theorem IsS123.ge {w0 W : World} {g : Nat} {f0 : ByteArray} {f1 : Bool} (h : IsS123 w0 W g f0 f1) : w0.heap.size ≤ g := by
 obtain ⟨hb, hg⟩ := h
 exact hg
theorem IsS123.ne_blk {w0 W : World} {g : Nat} {f0 : ByteArray} {f1 : Bool} {a : Nat} {cs : Array Value} {t : TypeId} {fr : Nat × Nat} (h : IsS123 w0 W g f0 f1) (hb2 : W.heap[a]? = some (.cells cs t fr)) (ht : t ≠ 123) : g ≠ a := by
 obtain ⟨hb, hg⟩ := h
 rintro rfl
 rw [hb] at hb2
 injection hb2 with hb2
 injection hb2 with _ ht2
 exact ht ht2.symm
theorem IsS123.far {w0 W : World} {g : Nat} {f0 : ByteArray} {f1 : Bool} {p : Addr} (h : IsS123 w0 W g f0 f1) (hne : g ≠ p.block) (u : Value) : IsS123 w0 (W.setCell p u) g f0 f1 := by
 obtain ⟨hb, hg⟩ := h
 exact ⟨blk_far hb hne u, hg⟩
theorem cellS123_0 {W : World} {g : Nat} {f0 : ByteArray} {f1 : Bool} (h : W.heap[g]? = some (.cells #[.string f0, .bool f1] 123 (0, 0))) : W.cell? ⟨g, 0, none⟩ = some (.string f0) := (qf h 0).trans rfl
theorem IsS123.set_0 {w0 W : World} {g : Nat} {f0 : ByteArray} {f1 : Bool} (h : IsS123 w0 W g f0 f1) (x : ByteArray) : IsS123 w0 (W.setCell ⟨g, 0, none⟩ (.string x)) g x f1 := by
 obtain ⟨hb, hg⟩ := h
 exact ⟨by simpa using blk_set hb 0 (.string x), hg⟩
theorem cellS123_1 {W : World} {g : Nat} {f0 : ByteArray} {f1 : Bool} (h : W.heap[g]? = some (.cells #[.string f0, .bool f1] 123 (0, 0))) : W.cell? ⟨g, 1, none⟩ = some (.bool f1) := (qf h 1).trans rfl
theorem IsS123.set_1 {w0 W : World} {g : Nat} {f0 : ByteArray} {f1 : Bool} (h : IsS123 w0 W g f0 f1) (x : Bool) : IsS123 w0 (W.setCell ⟨g, 1, none⟩ (.bool x)) g f0 x := by
 obtain ⟨hb, hg⟩ := h
 exact ⟨by simpa using blk_set hb 1 (.bool x), hg⟩
def impl_taker_fixed.f (s0_0 : ByteArray) (s0_1 : Bool) : Option (Int × ByteArray × Bool) := (impl_TakeFixed.f s0_0).bind fun bt101 => (if bt101.2.2 = true then (some (wrap64 (bt101.1), bt101.2.1, s0_1)) else (some (0, s0_0, true)))
set_option maxHeartbeats 8000000 in
set_option maxRecDepth 100000 in
theorem impl_taker_fixed.calls (g : Nat) (s0_0 : ByteArray) (s0_1 : Bool) (r1 : Int) (r2 : ByteArray) (r3 : Bool) (w0 w : World) (hI : IsS123 w0 w g s0_0 s0_1) (hB : Below w0.heap.size w0 w) (h : impl_taker_fixed.f s0_0 s0_1 = some (r1, r2, r3)) :
  Calls Try.prog 85 #[.pointer (some ⟨g, 0, none⟩)] w fun e w' => e = .returned (.int .i64 r1) ∧ IsS123 w0 w' g r2 r3 ∧ Below w0.heap.size w0 w' ∧ KeepBut w w' g none := by
 have HI0 := Qz.mk hI
 have HK := Qz.mk (KeepBut.refl w g none)
 have HL := Qz.mk hB.size
 clear hI
 have HW0 := Qz.mk hB.size
 have HB := Qz.mk hB
 clear hB
 have H : ((impl_TakeFixed.f s0_0).bind fun bt101 => (if bt101.2.2 = true then (some (wrap64 (bt101.1), bt101.2.1, s0_1)) else (some (0, s0_0, true)))) = some (r1, r2, r3) := h
 clear h
 replace H := Option.bind_eq_some_iff.mp H
 obtain ⟨⟨t101, t102, t103⟩, A20, H⟩ := H
 replace H : (if t103 = true then (some (wrap64 (t101), t102, s0_1)) else (some (0, s0_0, true))) = some (r1, r2, r3) := H
 have A2 := Qz.mk A20
 clear A20
 by_cases c3 : t103 = true
 ·subst c3
  have H1 : (some (wrap64 (t101), t102, s0_1)) = some (r1, r2, r3) := by rw [if_pos rfl] at H; exact H
  clear H
  have H := H1
  clear H1
  simp only [Option.some.injEq, Prod.mk.injEq] at H
  obtain ⟨rfl, rfl, rfl⟩ := H
  obtain ⟨HGz4, hgz4⟩ := HI0.out
  have hcz4_0 := cellS123_0 HGz4
  have hcz4_1 := cellS123_1 HGz4
  have hfz4_0 := qe HGz4 0
  have hfz4_1 := qe HGz4 1
  clear HGz4 hgz4
  go_enter Try.func85, Try.ntmps85
  go_wp2_with (first | ((with_reducible refine qj (f := 152) rfl ?_); refine qt (some 11) rfl rfl Try.func152 (by kernel_rfl) rfl #[.string s0_0] rfl (by (try simp only [List.map_toArray, List.map_cons, List.map_nil]); first | done | rfl) ?_; (with_reducible refine (impl_TakeFixed.calls s0_0 t101 t102 true _ A2.out).mono ?_); rintro e w' ⟨rfl, ⟨nd, rfl⟩⟩; refine ⟨_, rfl, ?_⟩))
  go_ret
  exact ⟨by first | rfl | (simp [qn, qm] <;> rfl) | (simp [*, qn, qm] <;> rfl), by repeat (first | (with_reducible first | exact HI0.out | apply IsS123.alloc | apply IsS123.drewN | apply IsS123.drew | apply IsS123.set_0 | apply IsS123.set_1) | exact HI0.out), by repeat (first | (with_reducible first | exact HB.out | apply qc | apply qa | apply qb | refine qd ?_ (IsS123.ge HI0.out)) | exact HB.out), by repeat (first | (with_reducible first | exact HK.out | apply KeepBut.set_ | apply qo | apply qq | apply qp) | exact HK.out)⟩
 ·replace c3 := Bool.eq_false_iff.mpr c3
  subst c3
  have H1 : (some (0, s0_0, true)) = some (r1, r2, r3) := by rw [if_neg (show ¬ (false = true) by decide)] at H; exact H
  clear H
  have H := H1
  clear H1
  simp only [Option.some.injEq, Prod.mk.injEq] at H
  obtain ⟨rfl, rfl, rfl⟩ := H
  obtain ⟨HGz5, hgz5⟩ := HI0.out
  have hcz5_0 := cellS123_0 HGz5
  have hcz5_1 := cellS123_1 HGz5
  have hfz5_0 := qe HGz5 0
  have hfz5_1 := qe HGz5 1
  clear HGz5 hgz5
  go_enter Try.func85, Try.ntmps85
  go_wp2_with (first | ((with_reducible refine qj (f := 152) rfl ?_); refine qt (some 11) rfl rfl Try.func152 (by kernel_rfl) rfl #[.string s0_0] rfl (by (try simp only [List.map_toArray, List.map_cons, List.map_nil]); first | done | rfl) ?_; (with_reducible refine (impl_TakeFixed.calls s0_0 t101 t102 false _ A2.out).mono ?_); rintro e w' ⟨rfl, ⟨nd, rfl⟩⟩; refine ⟨_, rfl, ?_⟩))
  go_ret
  exact ⟨by first | rfl | (simp [qn, qm] <;> rfl) | (simp [*, qn, qm] <;> rfl), by repeat (first | (with_reducible first | exact HI0.out | apply IsS123.alloc | apply IsS123.drewN | apply IsS123.drew | apply IsS123.set_0 | apply IsS123.set_1) | exact HI0.out), by repeat (first | (with_reducible first | exact HB.out | apply qc | apply qa | apply qb | refine qd ?_ (IsS123.ge HI0.out)) | exact HB.out), by repeat (first | (with_reducible first | exact HK.out | apply KeepBut.set_ | apply qo | apply qq | apply qp) | exact HK.out)⟩
theorem yq67 {P : Prop} (h : P := by first | (with_reducible assumption) | assumption) : P := h
theorem yq68 {P : Prop} (h : P := by first | rfl | (simp; done) | (simp [*]; done)) : P := h
mutual
def impl_TakeVar.l0 : Nat → ByteArray → Int → Int → Option (Int × ByteArray × Bool)
 | 0, _, _, _ => none
 | k + 1, x0, x5, x6 => if x6 < (x0.size : Int) then (impl_TakeVar.j1 k x0 x5 x6 (decide (x6 < 10))) else (impl_TakeVar.j1 k x0 x5 x6 false)
def impl_TakeVar.j1 : Nat → ByteArray → Int → Int → Bool → Option (Int × ByteArray × Bool)
 | 0, _, _, _, _ => none
 | k + 1, x0, x5, x6, x15 => if x15 = true then (if 0 ≤ x6 then (if x6 < (x0.size : Int) then (if x6 = 9 then (impl_TakeVar.j2 k x0 x5 x6 (IntKind.u64.wrap (Go.bits .and .u8 (bt x0 x6) 127)) (decide ((IntKind.u64.wrap (Go.bits .and .u8 (bt x0 x6) 127)) > 1))) else (impl_TakeVar.j2 k x0 x5 x6 (IntKind.u64.wrap (Go.bits .and .u8 (bt x0 x6) 127)) false)) else (none)) else (none)) else (some (0, (⟨#[]⟩ : ByteArray), false))
def impl_TakeVar.j2 : Nat → ByteArray → Int → Int → Int → Bool → Option (Int × ByteArray × Bool)
 | 0, _, _, _, _, _ => none
 | k + 1, x0, x5, x6, x7, x28 => if x28 = true then (some (0, (⟨#[]⟩ : ByteArray), false)) else (if 0 ≤ (wrap64 (7 * x6)) then (if 0 ≤ x6 then (if x6 < (x0.size : Int) then (if (bt x0 x6) ≥ 128 then (impl_TakeVar.l0 k x0 (Go.bits .or .u64 x5 (shl .u64 x7 (wrap64 (7 * x6)))) (wrap64 (x6 + 1))) else (if x7 = 0 then (if x6 > 0 then (some (0, (⟨#[]⟩ : ByteArray), false)) else (if 0 ≤ (wrap64 (x6 + 1)) then (if (wrap64 (x6 + 1)) ≤ (x0.size : Int) then (some (Go.bits .or .u64 x5 (shl .u64 x7 (wrap64 (7 * x6))), x0.extract ((wrap64 (x6 + 1)) : Int).toNat x0.size, true)) else (none)) else (none))) else (if 0 ≤ (wrap64 (x6 + 1)) then (if (wrap64 (x6 + 1)) ≤ (x0.size : Int) then (some (Go.bits .or .u64 x5 (shl .u64 x7 (wrap64 (7 * x6))), x0.extract ((wrap64 (x6 + 1)) : Int).toNat x0.size, true)) else (none)) else (none)))) else (none)) else (none)) else (none))
end
def impl_TakeVar.f (k : Nat) (a0 : ByteArray) : Option (Int × ByteArray × Bool) := impl_TakeVar.l0 k a0 0 0
set_option maxHeartbeats 8000000 in
set_option maxRecDepth 100000 in
theorem impl_TakeVar.calls (k : Nat) (a0 : ByteArray) (r1 : Int) (r2 : ByteArray) (r3 : Bool) (w : World) (h : impl_TakeVar.f k a0 = some (r1, r2, r3)) :
  Calls Try.prog 153 #[.string a0] w fun e w' => e = .returned (.tuple #[.int .u64 r1, .string r2, .bool r3]) ∧ Drawn0 w w' := by
 have H : (impl_TakeVar.l0 k a0 0 0) = some (r1, r2, r3) := h
 clear h
 have H' := Qz.mk H
 clear H
 go_enter Try.func153, Try.ntmps153
 go_wp2
 repeat (go_quiet (fail); try go_wp2)
 go_loopg [5, 6] k (fun kq v5 v6 w' => ∃ (x5_1 : Int) (x6_1 : Int), v5 = .int .u64 x5_1 ∧ v6 = .int .i64 x6_1 ∧ Qz (impl_TakeVar.l0 kq a0 x5_1 x6_1 = some (r1, r2, r3)) ∧ Qz (kq ≤ k) ∧ Drawn0 w w')
 case atStart => exact ⟨(0), (0), yq68, yq68, H', ⟨Nat.le_refl _⟩, by repeat (first | exact Drawn0.refl _ | apply Drawn0.step)⟩
 case round =>
  clear H'
  try clear c1
  obtain ⟨x5_1, x6_1, rfl, rfl, HA, HK1, ⟨m1, rfl⟩⟩ := hrel
  cases gk with
  | zero => exact absurd HA.out (by simp [impl_TakeVar.l0])
  | succ k1 =>
   have H := HA.out
   clear HA
   simp only [impl_TakeVar.l0] at H
   have HC2 := Qz.mk H
   clear H
   go_upto_region 3 with (fail)
   repeat (go_quiet (fail); go_upto_region 3 with (fail))
   go_cut [15] (fun v15 wc => ∃ (kq : Nat) (x15_1 : Bool), v15 = .bool x15_1 ∧ Qz (impl_TakeVar.j1 kq a0 x5_1 x6_1 x15_1 = some (r1, r2, r3)) ∧ Qz (kq ≤ k1) ∧ Drawn0 w wc)
   case first =>
    have H := HC2.out
    clear HC2
    by_cases c3 : x6_1 < (a0.size : Int)
    ·rw [if_pos c3] at H
     have c3b0 : decide (x6_1 < (a0.size : Int)) = true := decide_eq_true c3
     clear c3
     (first | rw [c3b0] | (simp only [i64_w, i32_w]; rw [c3b0]) | skip)
     have H' := Qz.mk H
     clear H
     go_wp2
     repeat (go_quiet (fail); try go_wp2)
     go_meet
     case rel => exact ⟨_, (decide (x6_1 < 10)), yq68, H', ⟨by have := HK1.out; first | omega | exact Nat.le_refl _⟩, by repeat (first | exact Drawn0.refl _ | apply Drawn0.step)⟩
    ·rw [if_neg c3] at H
     have c3b0 : decide (x6_1 < (a0.size : Int)) = false := decide_eq_false c3
     clear c3
     (first | rw [c3b0] | (simp only [i64_w, i32_w]; rw [c3b0]) | skip)
     have H' := Qz.mk H
     clear H
     go_wp2
     repeat (go_quiet (fail); try go_wp2)
     go_meet
     case rel => exact ⟨_, (false), yq68, H', ⟨by have := HK1.out; first | omega | exact Nat.le_refl _⟩, by repeat (first | exact Drawn0.refl _ | apply Drawn0.step)⟩
   case rest =>
    clear HC2
    try clear c1
    try clear p2
    try clear c3
    try clear c3b0
    obtain ⟨kq, x15_1, rfl, HA, HJ1, ⟨mc1, rfl⟩⟩ := hcut
    cases kq with
    | zero => exact absurd HA.out (by simp [impl_TakeVar.j1])
    | succ kj1 =>
     have H := HA.out
     clear HA
     simp only [impl_TakeVar.j1] at H
     by_cases c4 : x15_1 = true
     ·subst c4
      have H1 : (if 0 ≤ x6_1 then (if x6_1 < (a0.size : Int) then (if x6_1 = 9 then (impl_TakeVar.j2 kj1 a0 x5_1 x6_1 (IntKind.u64.wrap (Go.bits .and .u8 (bt a0 x6_1) 127)) (decide ((IntKind.u64.wrap (Go.bits .and .u8 (bt a0 x6_1) 127)) > 1))) else (impl_TakeVar.j2 kj1 a0 x5_1 x6_1 (IntKind.u64.wrap (Go.bits .and .u8 (bt a0 x6_1) 127)) false)) else (none)) else (none)) = some (r1, r2, r3) := by rw [if_pos rfl] at H; exact H
      clear H
      have H := H1
      clear H1
      by_cases c5 : 0 ≤ x6_1
      ·rw [if_pos c5] at H
       have c5b0 : decide (0 ≤ x6_1) = true := decide_eq_true c5
       clear c5
       by_cases c6 : x6_1 < (a0.size : Int)
       ·rw [if_pos c6] at H
        have c6b0 : decide (x6_1 < (a0.size : Int)) = true := decide_eq_true c6
        clear c6
        have HC8 := Qz.mk H
        clear H
        have p7 : 0 ≤ (x6_1 : Int) := of_decide_eq_true yq67
        have q7 : x6_1 < (a0.size : Int) := of_decide_eq_true yq67
        have hx7 := bt_at a0 x6_1
        replace p7 := eq_true p7
        replace q7 := eq_true q7
        go_upto_region 6 with (fail)
        repeat (go_quiet (fail); go_upto_region 6 with (fail))
        go_cut [28] (fun v28 wc => ∃ (kq : Nat) (x28_7 : Bool), v28 = .bool x28_7 ∧ Qz (impl_TakeVar.j2 kq a0 x5_1 x6_1 (IntKind.u64.wrap (Go.bits .and .u8 (bt a0 x6_1) 127)) x28_7 = some (r1, r2, r3)) ∧ Qz (kq ≤ kj1) ∧ Drawn0 w wc)
        case first =>
         have H := HC8.out
         clear HC8
         by_cases c9 : x6_1 = 9
         ·rw [if_pos c9] at H
          have c9b0 : (x6_1 == 9) = true := beq_iff_eq.mpr c9
          have c9b1 : (x6_1 != 9) = false := bne_eq_false_iff_eq.mpr c9
          clear c9
          (first | rw [c9b0] | (simp only [i64_w, i32_w]; rw [c9b0]) | skip)
          have H' := Qz.mk H
          clear H
          go_wp2
          repeat (go_quiet (fail); try go_wp2)
          go_meet
          case rel => exact ⟨_, (decide ((IntKind.u64.wrap (Go.bits .and .u8 (bt a0 x6_1) 127)) > 1)), yq68, H', ⟨by have := HK1.out; have := HJ1.out; first | omega | exact Nat.le_refl _⟩, by repeat (first | exact Drawn0.refl _ | apply Drawn0.step)⟩
         ·rw [if_neg c9] at H
          have c9b0 : (x6_1 == 9) = false := beq_eq_false_iff_ne.mpr c9
          have c9b1 : (x6_1 != 9) = true := bne_iff_ne.mpr c9
          (first | rw [c9b0] | (simp only [i64_w, i32_w]; rw [c9b0]) | skip)
          have H' := Qz.mk H
          clear H
          go_wp2
          repeat (go_quiet (fail); try go_wp2)
          go_meet
          case rel => exact ⟨_, (false), yq68, H', ⟨by have := HK1.out; have := HJ1.out; first | omega | exact Nat.le_refl _⟩, by repeat (first | exact Drawn0.refl _ | apply Drawn0.step)⟩
        case rest =>
         clear HC8
         try clear c1
         try clear p2
         try clear c3
         try clear c3b0
         try clear c4
         try clear c5
         try clear c5b0
         try clear c6
         try clear c6b0
         try clear p7
         try clear q7
         try clear hx7
         try clear c9
         try clear c9b0
         try clear c9b1
         try clear p2
         try clear p7
         try clear q7
         obtain ⟨kq, x28_7, rfl, HA, HJ7, ⟨mc7, rfl⟩⟩ := hcut
         cases kq with
         | zero => exact absurd HA.out (by simp [impl_TakeVar.j2])
         | succ kj7 =>
          have H := HA.out
          clear HA
          simp only [impl_TakeVar.j2] at H
          by_cases c10 : x28_7 = true
          ·subst c10
           have H1 : (some (0, (⟨#[]⟩ : ByteArray), false)) = some (r1, r2, r3) := by rw [if_pos rfl] at H; exact H
           clear H
           have H := H1
           clear H1
           simp only [Option.some.injEq, Prod.mk.injEq] at H
           obtain ⟨rfl, rfl, rfl⟩ := H
           go_wp2
           repeat (go_quiet (fail); try go_wp2)
           go_ret3
           exact ⟨by first | rfl | (simp; done) | (simp [*]; done), by repeat (first | exact Drawn0.refl _ | apply Drawn0.step)⟩
          ·replace c10 := Bool.eq_false_iff.mpr c10
           subst c10
           have H1 : (if 0 ≤ (wrap64 (7 * x6_1)) then (if 0 ≤ x6_1 then (if x6_1 < (a0.size : Int) then (if (bt a0 x6_1) ≥ 128 then (impl_TakeVar.l0 kj7 a0 (Go.bits .or .u64 x5_1 (shl .u64 (IntKind.u64.wrap (Go.bits .and .u8 (bt a0 x6_1) 127)) (wrap64 (7 * x6_1)))) (wrap64 (x6_1 + 1))) else (if (IntKind.u64.wrap (Go.bits .and .u8 (bt a0 x6_1) 127)) = 0 then (if x6_1 > 0 then (some (0, (⟨#[]⟩ : ByteArray), false)) else (if 0 ≤ (wrap64 (x6_1 + 1)) then (if (wrap64 (x6_1 + 1)) ≤ (a0.size : Int) then (some (Go.bits .or .u64 x5_1 (shl .u64 (IntKind.u64.wrap (Go.bits .and .u8 (bt a0 x6_1) 127)) (wrap64 (7 * x6_1))), a0.extract ((wrap64 (x6_1 + 1)) : Int).toNat a0.size, true)) else (none)) else (none))) else (if 0 ≤ (wrap64 (x6_1 + 1)) then (if (wrap64 (x6_1 + 1)) ≤ (a0.size : Int) then (some (Go.bits .or .u64 x5_1 (shl .u64 (IntKind.u64.wrap (Go.bits .and .u8 (bt a0 x6_1) 127)) (wrap64 (7 * x6_1))), a0.extract ((wrap64 (x6_1 + 1)) : Int).toNat a0.size, true)) else (none)) else (none)))) else (none)) else (none)) else (none)) = some (r1, r2, r3) := by rw [if_neg (show ¬ (false = true) by decide)] at H; exact H
           clear H
           have H := H1
           clear H1
           obtain ⟨ji11, hji11⟩ : ∃ j_ : Int, (wrap64 (7 * x6_1)) = j_ := ⟨_, rfl⟩
           replace H : (if 0 ≤ (ji11) then (if 0 ≤ x6_1 then (if x6_1 < (a0.size : Int) then (if (bt a0 x6_1) ≥ 128 then (impl_TakeVar.l0 kj7 a0 (Go.bits .or .u64 x5_1 (shl .u64 (IntKind.u64.wrap (Go.bits .and .u8 (bt a0 x6_1) 127)) (ji11))) (wrap64 (x6_1 + 1))) else (if (IntKind.u64.wrap (Go.bits .and .u8 (bt a0 x6_1) 127)) = 0 then (if x6_1 > 0 then (some (0, (⟨#[]⟩ : ByteArray), false)) else (if 0 ≤ (wrap64 (x6_1 + 1)) then (if (wrap64 (x6_1 + 1)) ≤ (a0.size : Int) then (some (Go.bits .or .u64 x5_1 (shl .u64 (IntKind.u64.wrap (Go.bits .and .u8 (bt a0 x6_1) 127)) (ji11)), a0.extract ((wrap64 (x6_1 + 1)) : Int).toNat a0.size, true)) else (none)) else (none))) else (if 0 ≤ (wrap64 (x6_1 + 1)) then (if (wrap64 (x6_1 + 1)) ≤ (a0.size : Int) then (some (Go.bits .or .u64 x5_1 (shl .u64 (IntKind.u64.wrap (Go.bits .and .u8 (bt a0 x6_1) 127)) (ji11)), a0.extract ((wrap64 (x6_1 + 1)) : Int).toNat a0.size, true)) else (none)) else (none)))) else (none)) else (none)) else (none)) = some (r1, r2, r3) := by first | (rw [hji11] at H; exact H) | (simp only [hji11] at H ⊢; exact H)
           have hji11w : (IntKind.i64.wrap (7 * x6_1)) = ji11 := (i64_w _).trans hji11
           by_cases c12 : 0 ≤ (ji11)
           ·rw [if_pos c12] at H
            have c12b0 := eq_true c12
            have c12b1 : decide (0 ≤ (ji11)) = true := decide_eq_true c12
            clear c12
            obtain ⟨ji13, hji13⟩ : ∃ j_ : Int, (shl .u64 (IntKind.u64.wrap (Go.bits .and .u8 (bt a0 x6_1) 127)) (ji11)) = j_ := ⟨_, rfl⟩
            replace H : (if 0 ≤ x6_1 then (if x6_1 < (a0.size : Int) then (if (bt a0 x6_1) ≥ 128 then (impl_TakeVar.l0 kj7 a0 (Go.bits .or .u64 x5_1 (ji13)) (wrap64 (x6_1 + 1))) else (if (IntKind.u64.wrap (Go.bits .and .u8 (bt a0 x6_1) 127)) = 0 then (if x6_1 > 0 then (some (0, (⟨#[]⟩ : ByteArray), false)) else (if 0 ≤ (wrap64 (x6_1 + 1)) then (if (wrap64 (x6_1 + 1)) ≤ (a0.size : Int) then (some (Go.bits .or .u64 x5_1 (ji13), a0.extract ((wrap64 (x6_1 + 1)) : Int).toNat a0.size, true)) else (none)) else (none))) else (if 0 ≤ (wrap64 (x6_1 + 1)) then (if (wrap64 (x6_1 + 1)) ≤ (a0.size : Int) then (some (Go.bits .or .u64 x5_1 (ji13), a0.extract ((wrap64 (x6_1 + 1)) : Int).toNat a0.size, true)) else (none)) else (none)))) else (none)) else (none)) = some (r1, r2, r3) := by first | (rw [hji13] at H; exact H) | (simp only [hji13] at H ⊢; exact H)
            have hji13_ : (IntKind.u64.wrap ((IntKind.u64.wrap (Go.bits .and .u8 (bt a0 x6_1) 127)) * 2 ^ min (ji11).toNat 64)) = ji13 := hji13
            have hji13z : (ji11) ≤ 64 → (IntKind.u64.wrap ((IntKind.u64.wrap (Go.bits .and .u8 (bt a0 x6_1) 127)) * 2 ^ (ji11).toNat)) = ji13 := shl_small hji13
            by_cases c14 : 0 ≤ x6_1
            ·rw [if_pos c14] at H
             have c14b0 : decide (0 ≤ x6_1) = true := decide_eq_true c14
             clear c14
             by_cases c15 : x6_1 < (a0.size : Int)
             ·rw [if_pos c15] at H
              have c15b0 : decide (x6_1 < (a0.size : Int)) = true := decide_eq_true c15
              clear c15
              by_cases c17 : (bt a0 x6_1) ≥ 128
              ·rw [if_pos c17] at H
               have c17b0 : decide (128 ≤ (bt a0 x6_1)) = true := decide_eq_true c17
               clear c17
               have H' := Qz.mk H
               clear H
               have p16 : 0 ≤ (x6_1 : Int) := of_decide_eq_true yq67
               have q16 : x6_1 < (a0.size : Int) := of_decide_eq_true yq67
               have hx16 := bt_at a0 x6_1
               replace p16 := eq_true p16
               replace q16 := eq_true q16
               go_wp2
               repeat (go_quiet (fail); try go_wp2)
               go_roundg kj7
               case measure => have := HK1.out; have := HJ1.out; have := HJ7.out; omega
               case rel => exact ⟨(Go.bits .or .u64 x5_1 (ji13)), (wrap64 (x6_1 + 1)), (by first | rfl | (simp; done) | (simp only [← hji13] <;> (first | rfl | simp)) | (simp [*]; done)), yq68, H', ⟨by have := HK1.out; have := HJ1.out; have := HJ7.out; omega⟩, by repeat (first | exact Drawn0.refl _ | apply Drawn0.step)⟩
              ·rw [if_neg c17] at H
               have c17b0 : decide (128 ≤ (bt a0 x6_1)) = false := decide_eq_false c17
               clear c17
               by_cases c18 : (IntKind.u64.wrap (Go.bits .and .u8 (bt a0 x6_1) 127)) = 0
               ·rw [if_pos c18] at H
                have c18b0 : ((IntKind.u64.wrap (Go.bits .and .u8 (bt a0 x6_1) 127)) == 0) = true := beq_iff_eq.mpr c18
                have c18b1 : ((IntKind.u64.wrap (Go.bits .and .u8 (bt a0 x6_1) 127)) != 0) = false := bne_eq_false_iff_eq.mpr c18
                clear c18
                by_cases c19 : x6_1 > 0
                ·rw [if_pos c19] at H
                 have c19b0 : decide (0 < x6_1) = true := decide_eq_true c19
                 clear c19
                 simp only [Option.some.injEq, Prod.mk.injEq] at H
                 obtain ⟨rfl, rfl, rfl⟩ := H
                 have p16 : 0 ≤ (x6_1 : Int) := of_decide_eq_true yq67
                 have q16 : x6_1 < (a0.size : Int) := of_decide_eq_true yq67
                 have hx16 := bt_at a0 x6_1
                 replace p16 := eq_true p16
                 replace q16 := eq_true q16
                 go_wp2
                 repeat (go_quiet (fail); try go_wp2)
                 go_ret3
                 exact ⟨by first | rfl | (simp; done) | (simp only [← hji11, ← hji13] <;> (first | rfl | simp)) | (simp [*]; done), by repeat (first | exact Drawn0.refl _ | apply Drawn0.step)⟩
                ·rw [if_neg c19] at H
                 have c19b0 : decide (0 < x6_1) = false := decide_eq_false c19
                 clear c19
                 obtain ⟨ji20, hji20⟩ : ∃ j_ : Int, (wrap64 (x6_1 + 1)) = j_ := ⟨_, rfl⟩
                 replace H : (if 0 ≤ (ji20) then (if (ji20) ≤ (a0.size : Int) then (some (Go.bits .or .u64 x5_1 (ji13), a0.extract ((ji20) : Int).toNat a0.size, true)) else (none)) else (none)) = some (r1, r2, r3) := by first | (rw [hji20] at H; exact H) | (simp only [hji20] at H ⊢; exact H)
                 have hji20w : (IntKind.i64.wrap (x6_1 + 1)) = ji20 := (i64_w _).trans hji20
                 by_cases c21 : 0 ≤ (ji20)
                 ·rw [if_pos c21] at H
                  have c21b0 := eq_true c21
                  have c21b1 : decide (0 ≤ (ji20)) = true := decide_eq_true c21
                  clear c21
                  by_cases c22 : (ji20) ≤ (a0.size : Int)
                  ·rw [if_pos c22] at H
                   have c22b0 := eq_true c22
                   have c22b1 : decide ((ji20) ≤ (a0.size : Int)) = true := decide_eq_true c22
                   clear c22
                   simp only [Option.some.injEq, Prod.mk.injEq] at H
                   obtain ⟨rfl, rfl, rfl⟩ := H
                   have p16 : 0 ≤ (x6_1 : Int) := of_decide_eq_true yq67
                   have q16 : x6_1 < (a0.size : Int) := of_decide_eq_true yq67
                   have hx16 := bt_at a0 x6_1
                   replace p16 := eq_true p16
                   replace q16 := eq_true q16
                   go_wp2
                   repeat (go_quiet (fail); try go_wp2)
                   go_ret3
                   exact ⟨by first | rfl | (simp; done) | (simp only [← hji11, ← hji13, ← hji20] <;> (first | rfl | simp)) | (simp [*]; done), by repeat (first | exact Drawn0.refl _ | apply Drawn0.step)⟩
                  ·rw [if_neg c22] at H
                   exact absurd H (by simp)
                 ·rw [if_neg c21] at H
                  exact absurd H (by simp)
               ·rw [if_neg c18] at H
                have c18b0 : ((IntKind.u64.wrap (Go.bits .and .u8 (bt a0 x6_1) 127)) == 0) = false := beq_eq_false_iff_ne.mpr c18
                have c18b1 : ((IntKind.u64.wrap (Go.bits .and .u8 (bt a0 x6_1) 127)) != 0) = true := bne_iff_ne.mpr c18
                obtain ⟨ji23, hji23⟩ : ∃ j_ : Int, (wrap64 (x6_1 + 1)) = j_ := ⟨_, rfl⟩
                replace H : (if 0 ≤ (ji23) then (if (ji23) ≤ (a0.size : Int) then (some (Go.bits .or .u64 x5_1 (ji13), a0.extract ((ji23) : Int).toNat a0.size, true)) else (none)) else (none)) = some (r1, r2, r3) := by first | (rw [hji23] at H; exact H) | (simp only [hji23] at H ⊢; exact H)
                have hji23w : (IntKind.i64.wrap (x6_1 + 1)) = ji23 := (i64_w _).trans hji23
                by_cases c24 : 0 ≤ (ji23)
                ·rw [if_pos c24] at H
                 have c24b0 := eq_true c24
                 have c24b1 : decide (0 ≤ (ji23)) = true := decide_eq_true c24
                 clear c24
                 by_cases c25 : (ji23) ≤ (a0.size : Int)
                 ·rw [if_pos c25] at H
                  have c25b0 := eq_true c25
                  have c25b1 : decide ((ji23) ≤ (a0.size : Int)) = true := decide_eq_true c25
                  clear c25
                  simp only [Option.some.injEq, Prod.mk.injEq] at H
                  obtain ⟨rfl, rfl, rfl⟩ := H
                  have p16 : 0 ≤ (x6_1 : Int) := of_decide_eq_true yq67
                  have q16 : x6_1 < (a0.size : Int) := of_decide_eq_true yq67
                  have hx16 := bt_at a0 x6_1
                  replace p16 := eq_true p16
                  replace q16 := eq_true q16
                  go_wp2
                  repeat (go_quiet (fail); try go_wp2)
                  go_ret3
                  exact ⟨by first | rfl | (simp; done) | (simp only [← hji11, ← hji13, ← hji23] <;> (first | rfl | simp)) | (simp [*]; done), by repeat (first | exact Drawn0.refl _ | apply Drawn0.step)⟩
                 ·rw [if_neg c25] at H
                  exact absurd H (by simp)
                ·rw [if_neg c24] at H
                 exact absurd H (by simp)
             ·rw [if_neg c15] at H
              exact absurd H (by simp)
            ·rw [if_neg c14] at H
             exact absurd H (by simp)
           ·rw [if_neg c12] at H
            exact absurd H (by simp)
       ·rw [if_neg c6] at H
        exact absurd H (by simp)
      ·rw [if_neg c5] at H
       exact absurd H (by simp)
     ·replace c4 := Bool.eq_false_iff.mpr c4
      subst c4
      have H1 : (some (0, (⟨#[]⟩ : ByteArray), false)) = some (r1, r2, r3) := by rw [if_neg (show ¬ (false = true) by decide)] at H; exact H
      clear H
      have H := H1
      clear H1
      simp only [Option.some.injEq, Prod.mk.injEq] at H
      obtain ⟨rfl, rfl, rfl⟩ := H
      go_wp2
      repeat (go_quiet (fail); try go_wp2)
      go_ret3
      exact ⟨by first | rfl | (simp; done) | (simp [*]; done), by repeat (first | exact Drawn0.refl _ | apply Drawn0.step)⟩
def impl_taker_number.f (k : Nat) (s0_0 : ByteArray) (s0_1 : Bool) : Option (Int × ByteArray × Bool) := (impl_TakeVar.f k s0_0).bind fun bt101 => (if bt101.2.2 = true then (if bt101.1 > 4611686018427387904 then (some (0, s0_0, true)) else (some (wrap64 (bt101.1), bt101.2.1, s0_1))) else (some (0, s0_0, true)))
set_option maxHeartbeats 8000000 in
set_option maxRecDepth 100000 in
theorem impl_taker_number.calls (k : Nat) (g : Nat) (s0_0 : ByteArray) (s0_1 : Bool) (r1 : Int) (r2 : ByteArray) (r3 : Bool) (w0 w : World) (hI : IsS123 w0 w g s0_0 s0_1) (hB : Below w0.heap.size w0 w) (h : impl_taker_number.f k s0_0 s0_1 = some (r1, r2, r3)) :
  Calls Try.prog 86 #[.pointer (some ⟨g, 0, none⟩)] w fun e w' => e = .returned (.int .i64 r1) ∧ IsS123 w0 w' g r2 r3 ∧ Below w0.heap.size w0 w' ∧ KeepBut w w' g none := by
 have HI0 := Qz.mk hI
 have HK := Qz.mk (KeepBut.refl w g none)
 have HL := Qz.mk hB.size
 clear hI
 have HW0 := Qz.mk hB.size
 have HB := Qz.mk hB
 clear hB
 have H : ((impl_TakeVar.f k s0_0).bind fun bt101 => (if bt101.2.2 = true then (if bt101.1 > 4611686018427387904 then (some (0, s0_0, true)) else (some (wrap64 (bt101.1), bt101.2.1, s0_1))) else (some (0, s0_0, true)))) = some (r1, r2, r3) := h
 clear h
 replace H := Option.bind_eq_some_iff.mp H
 obtain ⟨⟨t101, t102, t103⟩, A20, H⟩ := H
 replace H : (if t103 = true then (if t101 > 4611686018427387904 then (some (0, s0_0, true)) else (some (wrap64 (t101), t102, s0_1))) else (some (0, s0_0, true))) = some (r1, r2, r3) := H
 have A2 := Qz.mk A20
 clear A20
 by_cases c3 : t103 = true
 ·subst c3
  have H1 : (if t101 > 4611686018427387904 then (some (0, s0_0, true)) else (some (wrap64 (t101), t102, s0_1))) = some (r1, r2, r3) := by rw [if_pos rfl] at H; exact H
  clear H
  have H := H1
  clear H1
  by_cases c4 : t101 > 4611686018427387904
  ·rw [if_pos c4] at H
   have c4b0 : decide (4611686018427387904 < t101) = true := decide_eq_true c4
   clear c4
   simp only [Option.some.injEq, Prod.mk.injEq] at H
   obtain ⟨rfl, rfl, rfl⟩ := H
   obtain ⟨HGz5, hgz5⟩ := HI0.out
   have hcz5_0 := cellS123_0 HGz5
   have hcz5_1 := cellS123_1 HGz5
   have hfz5_0 := qe HGz5 0
   have hfz5_1 := qe HGz5 1
   clear HGz5 hgz5
   go_enter Try.func86, Try.ntmps86
   go_wp2_with (first | ((with_reducible refine qj (f := 153) rfl ?_); refine qt (some 11) rfl rfl Try.func153 (by kernel_rfl) rfl #[.string s0_0] rfl (by (try simp only [List.map_toArray, List.map_cons, List.map_nil]); first | done | rfl) ?_; (with_reducible refine (impl_TakeVar.calls k s0_0 t101 t102 true _ A2.out).mono ?_); rintro e w' ⟨rfl, ⟨nd, rfl⟩⟩; refine ⟨_, rfl, ?_⟩))
   go_ret
   exact ⟨by first | rfl | (simp [qn, qm] <;> rfl) | (simp [*, qn, qm] <;> rfl), by repeat (first | (with_reducible first | exact HI0.out | apply IsS123.alloc | apply IsS123.drewN | apply IsS123.drew | apply IsS123.set_0 | apply IsS123.set_1) | exact HI0.out), by repeat (first | (with_reducible first | exact HB.out | apply qc | apply qa | apply qb | refine qd ?_ (IsS123.ge HI0.out)) | exact HB.out), by repeat (first | (with_reducible first | exact HK.out | apply KeepBut.set_ | apply qo | apply qq | apply qp) | exact HK.out)⟩
  ·rw [if_neg c4] at H
   have c4b0 : decide (4611686018427387904 < t101) = false := decide_eq_false c4
   clear c4
   simp only [Option.some.injEq, Prod.mk.injEq] at H
   obtain ⟨rfl, rfl, rfl⟩ := H
   obtain ⟨HGz6, hgz6⟩ := HI0.out
   have hcz6_0 := cellS123_0 HGz6
   have hcz6_1 := cellS123_1 HGz6
   have hfz6_0 := qe HGz6 0
   have hfz6_1 := qe HGz6 1
   clear HGz6 hgz6
   go_enter Try.func86, Try.ntmps86
   go_wp2_with (first | ((with_reducible refine qj (f := 153) rfl ?_); refine qt (some 11) rfl rfl Try.func153 (by kernel_rfl) rfl #[.string s0_0] rfl (by (try simp only [List.map_toArray, List.map_cons, List.map_nil]); first | done | rfl) ?_; (with_reducible refine (impl_TakeVar.calls k s0_0 t101 t102 true _ A2.out).mono ?_); rintro e w' ⟨rfl, ⟨nd, rfl⟩⟩; refine ⟨_, rfl, ?_⟩))
   go_ret
   exact ⟨by first | rfl | (simp [qn, qm] <;> rfl) | (simp [*, qn, qm] <;> rfl), by repeat (first | (with_reducible first | exact HI0.out | apply IsS123.alloc | apply IsS123.drewN | apply IsS123.drew | apply IsS123.set_0 | apply IsS123.set_1) | exact HI0.out), by repeat (first | (with_reducible first | exact HB.out | apply qc | apply qa | apply qb | refine qd ?_ (IsS123.ge HI0.out)) | exact HB.out), by repeat (first | (with_reducible first | exact HK.out | apply KeepBut.set_ | apply qo | apply qq | apply qp) | exact HK.out)⟩
 ·replace c3 := Bool.eq_false_iff.mpr c3
  subst c3
  have H1 : (some (0, s0_0, true)) = some (r1, r2, r3) := by rw [if_neg (show ¬ (false = true) by decide)] at H; exact H
  clear H
  have H := H1
  clear H1
  simp only [Option.some.injEq, Prod.mk.injEq] at H
  obtain ⟨rfl, rfl, rfl⟩ := H
  obtain ⟨HGz7, hgz7⟩ := HI0.out
  have hcz7_0 := cellS123_0 HGz7
  have hcz7_1 := cellS123_1 HGz7
  have hfz7_0 := qe HGz7 0
  have hfz7_1 := qe HGz7 1
  clear HGz7 hgz7
  go_enter Try.func86, Try.ntmps86
  go_wp2_with (first | ((with_reducible refine qj (f := 153) rfl ?_); refine qt (some 11) rfl rfl Try.func153 (by kernel_rfl) rfl #[.string s0_0] rfl (by (try simp only [List.map_toArray, List.map_cons, List.map_nil]); first | done | rfl) ?_; (with_reducible refine (impl_TakeVar.calls k s0_0 t101 t102 false _ A2.out).mono ?_); rintro e w' ⟨rfl, ⟨nd, rfl⟩⟩; refine ⟨_, rfl, ?_⟩))
  go_ret
  exact ⟨by first | rfl | (simp [qn, qm] <;> rfl) | (simp [*, qn, qm] <;> rfl), by repeat (first | (with_reducible first | exact HI0.out | apply IsS123.alloc | apply IsS123.drewN | apply IsS123.drew | apply IsS123.set_0 | apply IsS123.set_1) | exact HI0.out), by repeat (first | (with_reducible first | exact HB.out | apply qc | apply qa | apply qb | refine qd ?_ (IsS123.ge HI0.out)) | exact HB.out), by repeat (first | (with_reducible first | exact HK.out | apply KeepBut.set_ | apply qo | apply qq | apply qp) | exact HK.out)⟩
def impl_TakeText.f (k : Nat) (a0 : ByteArray) : Option (ByteArray × ByteArray × Bool) := (impl_TakeVar.f k a0).bind fun bt101 => (if bt101.2.2 = true then (if bt101.1 > 60000 then (some ((⟨#[]⟩ : ByteArray), (⟨#[]⟩ : ByteArray), false)) else (if bt101.1 > (IntKind.u64.wrap ((bt101.2.1.size : Int))) then (some ((⟨#[]⟩ : ByteArray), (⟨#[]⟩ : ByteArray), false)) else (if 0 ≤ bt101.1 then (if bt101.1 ≤ (bt101.2.1.size : Int) then (some (bt101.2.1.extract 0 (bt101.1 : Int).toNat, bt101.2.1.extract (bt101.1 : Int).toNat bt101.2.1.size, true)) else (none)) else (none)))) else (some ((⟨#[]⟩ : ByteArray), (⟨#[]⟩ : ByteArray), false)))
set_option maxHeartbeats 8000000 in
set_option maxRecDepth 100000 in
theorem impl_TakeText.calls (k : Nat) (a0 : ByteArray) (r1 : ByteArray) (r2 : ByteArray) (r3 : Bool) (w : World) (h : impl_TakeText.f k a0 = some (r1, r2, r3)) :
  Calls Try.prog 154 #[.string a0] w fun e w' => e = .returned (.tuple #[.string r1, .string r2, .bool r3]) ∧ Drawn0 w w' := by
 have H : ((impl_TakeVar.f k a0).bind fun bt101 => (if bt101.2.2 = true then (if bt101.1 > 60000 then (some ((⟨#[]⟩ : ByteArray), (⟨#[]⟩ : ByteArray), false)) else (if bt101.1 > (IntKind.u64.wrap ((bt101.2.1.size : Int))) then (some ((⟨#[]⟩ : ByteArray), (⟨#[]⟩ : ByteArray), false)) else (if 0 ≤ bt101.1 then (if bt101.1 ≤ (bt101.2.1.size : Int) then (some (bt101.2.1.extract 0 (bt101.1 : Int).toNat, bt101.2.1.extract (bt101.1 : Int).toNat bt101.2.1.size, true)) else (none)) else (none)))) else (some ((⟨#[]⟩ : ByteArray), (⟨#[]⟩ : ByteArray), false)))) = some (r1, r2, r3) := h
 clear h
 replace H := Option.bind_eq_some_iff.mp H
 obtain ⟨⟨t101, t102, t103⟩, A20, H⟩ := H
 replace H : (if t103 = true then (if t101 > 60000 then (some ((⟨#[]⟩ : ByteArray), (⟨#[]⟩ : ByteArray), false)) else (if t101 > (IntKind.u64.wrap ((t102.size : Int))) then (some ((⟨#[]⟩ : ByteArray), (⟨#[]⟩ : ByteArray), false)) else (if 0 ≤ t101 then (if t101 ≤ (t102.size : Int) then (some (t102.extract 0 (t101 : Int).toNat, t102.extract (t101 : Int).toNat t102.size, true)) else (none)) else (none)))) else (some ((⟨#[]⟩ : ByteArray), (⟨#[]⟩ : ByteArray), false))) = some (r1, r2, r3) := H
 have A2 := Qz.mk A20
 clear A20
 by_cases c3 : t103 = true
 ·subst c3
  have H1 : (if t101 > 60000 then (some ((⟨#[]⟩ : ByteArray), (⟨#[]⟩ : ByteArray), false)) else (if t101 > (IntKind.u64.wrap ((t102.size : Int))) then (some ((⟨#[]⟩ : ByteArray), (⟨#[]⟩ : ByteArray), false)) else (if 0 ≤ t101 then (if t101 ≤ (t102.size : Int) then (some (t102.extract 0 (t101 : Int).toNat, t102.extract (t101 : Int).toNat t102.size, true)) else (none)) else (none)))) = some (r1, r2, r3) := by rw [if_pos rfl] at H; exact H
  clear H
  have H := H1
  clear H1
  by_cases c4 : t101 > 60000
  ·rw [if_pos c4] at H
   have c4b0 : decide (60000 < t101) = true := decide_eq_true c4
   clear c4
   simp only [Option.some.injEq, Prod.mk.injEq] at H
   obtain ⟨rfl, rfl, rfl⟩ := H
   go_enter Try.func154, Try.ntmps154
   go_wp2_with (first | (go_at_call 153; (with_reducible refine (impl_TakeVar.calls k a0 t101 t102 true _ A2.out).mono ?_); rintro e w' ⟨rfl, ⟨nd, rfl⟩⟩; (try first | exact ⟨rfl, _, World.drewN_drewN _ _ _⟩ | exact ⟨rfl, _, Eq.trans (World.drewN_drewN _ _ _) (congrArg (World.drewN _) (Nat.add_assoc _ _ _))⟩)))
   repeat (go_quiet (first | (go_at_call 153; (with_reducible refine (impl_TakeVar.calls k a0 t101 t102 true _ A2.out).mono ?_); rintro e w' ⟨rfl, ⟨nd, rfl⟩⟩; (try first | exact ⟨rfl, _, World.drewN_drewN _ _ _⟩ | exact ⟨rfl, _, Eq.trans (World.drewN_drewN _ _ _) (congrArg (World.drewN _) (Nat.add_assoc _ _ _))⟩))); try go_wp2_with (first | (go_at_call 153; (with_reducible refine (impl_TakeVar.calls k a0 t101 t102 true _ A2.out).mono ?_); rintro e w' ⟨rfl, ⟨nd, rfl⟩⟩; (try first | exact ⟨rfl, _, World.drewN_drewN _ _ _⟩ | exact ⟨rfl, _, Eq.trans (World.drewN_drewN _ _ _) (congrArg (World.drewN _) (Nat.add_assoc _ _ _))⟩))))
   go_ret3
   exact ⟨by first | rfl | (simp; done) | (simp [*]; done), by repeat (first | exact Drawn0.refl _ | apply Drawn0.step)⟩
  ·rw [if_neg c4] at H
   have c4b0 : decide (60000 < t101) = false := decide_eq_false c4
   clear c4
   by_cases c5 : t101 > (IntKind.u64.wrap ((t102.size : Int)))
   ·rw [if_pos c5] at H
    have c5b0 : decide ((IntKind.u64.wrap ((t102.size : Int))) < t101) = true := decide_eq_true c5
    clear c5
    simp only [Option.some.injEq, Prod.mk.injEq] at H
    obtain ⟨rfl, rfl, rfl⟩ := H
    go_enter Try.func154, Try.ntmps154
    go_wp2_with (first | (go_at_call 153; (with_reducible refine (impl_TakeVar.calls k a0 t101 t102 true _ A2.out).mono ?_); rintro e w' ⟨rfl, ⟨nd, rfl⟩⟩; (try first | exact ⟨rfl, _, World.drewN_drewN _ _ _⟩ | exact ⟨rfl, _, Eq.trans (World.drewN_drewN _ _ _) (congrArg (World.drewN _) (Nat.add_assoc _ _ _))⟩)))
    repeat (go_quiet (first | (go_at_call 153; (with_reducible refine (impl_TakeVar.calls k a0 t101 t102 true _ A2.out).mono ?_); rintro e w' ⟨rfl, ⟨nd, rfl⟩⟩; (try first | exact ⟨rfl, _, World.drewN_drewN _ _ _⟩ | exact ⟨rfl, _, Eq.trans (World.drewN_drewN _ _ _) (congrArg (World.drewN _) (Nat.add_assoc _ _ _))⟩))); try go_wp2_with (first | (go_at_call 153; (with_reducible refine (impl_TakeVar.calls k a0 t101 t102 true _ A2.out).mono ?_); rintro e w' ⟨rfl, ⟨nd, rfl⟩⟩; (try first | exact ⟨rfl, _, World.drewN_drewN _ _ _⟩ | exact ⟨rfl, _, Eq.trans (World.drewN_drewN _ _ _) (congrArg (World.drewN _) (Nat.add_assoc _ _ _))⟩))))
    go_ret3
    exact ⟨by first | rfl | (simp; done) | (simp [*]; done), by repeat (first | exact Drawn0.refl _ | apply Drawn0.step)⟩
   ·rw [if_neg c5] at H
    have c5b0 : decide ((IntKind.u64.wrap ((t102.size : Int))) < t101) = false := decide_eq_false c5
    clear c5
    by_cases c6 : 0 ≤ t101
    ·rw [if_pos c6] at H
     have c6b0 := eq_true c6
     have c6b1 : decide (0 ≤ t101) = true := decide_eq_true c6
     clear c6
     by_cases c7 : t101 ≤ (t102.size : Int)
     ·rw [if_pos c7] at H
      have c7b0 := eq_true c7
      have c7b1 : decide (t101 ≤ (t102.size : Int)) = true := decide_eq_true c7
      clear c7
      have c8b0 := eq_true (of_decide_eq_true (by first | (with_reducible assumption) | assumption) : 0 ≤ t101)
      have c9b0 := eq_true (of_decide_eq_true (by first | (with_reducible assumption) | assumption) : t101 ≤ (t102.size : Int))
      simp only [Option.some.injEq, Prod.mk.injEq] at H
      obtain ⟨rfl, rfl, rfl⟩ := H
      go_enter Try.func154, Try.ntmps154
      go_wp2_with (first | (go_at_call 153; (with_reducible refine (impl_TakeVar.calls k a0 t101 t102 true _ A2.out).mono ?_); rintro e w' ⟨rfl, ⟨nd, rfl⟩⟩; (try first | exact ⟨rfl, _, World.drewN_drewN _ _ _⟩ | exact ⟨rfl, _, Eq.trans (World.drewN_drewN _ _ _) (congrArg (World.drewN _) (Nat.add_assoc _ _ _))⟩)))
      repeat (go_quiet (first | (go_at_call 153; (with_reducible refine (impl_TakeVar.calls k a0 t101 t102 true _ A2.out).mono ?_); rintro e w' ⟨rfl, ⟨nd, rfl⟩⟩; (try first | exact ⟨rfl, _, World.drewN_drewN _ _ _⟩ | exact ⟨rfl, _, Eq.trans (World.drewN_drewN _ _ _) (congrArg (World.drewN _) (Nat.add_assoc _ _ _))⟩))); try go_wp2_with (first | (go_at_call 153; (with_reducible refine (impl_TakeVar.calls k a0 t101 t102 true _ A2.out).mono ?_); rintro e w' ⟨rfl, ⟨nd, rfl⟩⟩; (try first | exact ⟨rfl, _, World.drewN_drewN _ _ _⟩ | exact ⟨rfl, _, Eq.trans (World.drewN_drewN _ _ _) (congrArg (World.drewN _) (Nat.add_assoc _ _ _))⟩))))
      go_ret3
      exact ⟨by first | rfl | (simp; done) | (simp [*]; done), by repeat (first | exact Drawn0.refl _ | apply Drawn0.step)⟩
     ·rw [if_neg c7] at H
      exact absurd H (by simp)
    ·rw [if_neg c6] at H
     exact absurd H (by simp)
 ·replace c3 := Bool.eq_false_iff.mpr c3
  subst c3
  have H1 : (some ((⟨#[]⟩ : ByteArray), (⟨#[]⟩ : ByteArray), false)) = some (r1, r2, r3) := by rw [if_neg (show ¬ (false = true) by decide)] at H; exact H
  clear H
  have H := H1
  clear H1
  simp only [Option.some.injEq, Prod.mk.injEq] at H
  obtain ⟨rfl, rfl, rfl⟩ := H
  go_enter Try.func154, Try.ntmps154
  go_wp2_with (first | (go_at_call 153; (with_reducible refine (impl_TakeVar.calls k a0 t101 t102 false _ A2.out).mono ?_); rintro e w' ⟨rfl, ⟨nd, rfl⟩⟩; (try first | exact ⟨rfl, _, World.drewN_drewN _ _ _⟩ | exact ⟨rfl, _, Eq.trans (World.drewN_drewN _ _ _) (congrArg (World.drewN _) (Nat.add_assoc _ _ _))⟩)))
  repeat (go_quiet (first | (go_at_call 153; (with_reducible refine (impl_TakeVar.calls k a0 t101 t102 false _ A2.out).mono ?_); rintro e w' ⟨rfl, ⟨nd, rfl⟩⟩; (try first | exact ⟨rfl, _, World.drewN_drewN _ _ _⟩ | exact ⟨rfl, _, Eq.trans (World.drewN_drewN _ _ _) (congrArg (World.drewN _) (Nat.add_assoc _ _ _))⟩))); try go_wp2_with (first | (go_at_call 153; (with_reducible refine (impl_TakeVar.calls k a0 t101 t102 false _ A2.out).mono ?_); rintro e w' ⟨rfl, ⟨nd, rfl⟩⟩; (try first | exact ⟨rfl, _, World.drewN_drewN _ _ _⟩ | exact ⟨rfl, _, Eq.trans (World.drewN_drewN _ _ _) (congrArg (World.drewN _) (Nat.add_assoc _ _ _))⟩))))
  go_ret3
  exact ⟨by first | rfl | (simp; done) | (simp [*]; done), by repeat (first | exact Drawn0.refl _ | apply Drawn0.step)⟩
def impl_taker_text.f (k : Nat) (s0_0 : ByteArray) (s0_1 : Bool) : Option (ByteArray × ByteArray × Bool) := (impl_TakeText.f k s0_0).bind fun bt101 => (if bt101.2.2 = true then (some (bt101.1, bt101.2.1, s0_1)) else (some ((⟨#[]⟩ : ByteArray), s0_0, true)))
set_option maxHeartbeats 8000000 in
set_option maxRecDepth 100000 in
theorem impl_taker_text.calls (k : Nat) (g : Nat) (s0_0 : ByteArray) (s0_1 : Bool) (r1 : ByteArray) (r2 : ByteArray) (r3 : Bool) (w0 w : World) (hI : IsS123 w0 w g s0_0 s0_1) (hB : Below w0.heap.size w0 w) (h : impl_taker_text.f k s0_0 s0_1 = some (r1, r2, r3)) :
  Calls Try.prog 87 #[.pointer (some ⟨g, 0, none⟩)] w fun e w' => e = .returned (.string r1) ∧ IsS123 w0 w' g r2 r3 ∧ Below w0.heap.size w0 w' ∧ KeepBut w w' g none := by
 have HI0 := Qz.mk hI
 have HK := Qz.mk (KeepBut.refl w g none)
 have HL := Qz.mk hB.size
 clear hI
 have HW0 := Qz.mk hB.size
 have HB := Qz.mk hB
 clear hB
 have H : ((impl_TakeText.f k s0_0).bind fun bt101 => (if bt101.2.2 = true then (some (bt101.1, bt101.2.1, s0_1)) else (some ((⟨#[]⟩ : ByteArray), s0_0, true)))) = some (r1, r2, r3) := h
 clear h
 replace H := Option.bind_eq_some_iff.mp H
 obtain ⟨⟨t101, t102, t103⟩, A20, H⟩ := H
 replace H : (if t103 = true then (some (t101, t102, s0_1)) else (some ((⟨#[]⟩ : ByteArray), s0_0, true))) = some (r1, r2, r3) := H
 have A2 := Qz.mk A20
 clear A20
 by_cases c3 : t103 = true
 ·subst c3
  have H1 : (some (t101, t102, s0_1)) = some (r1, r2, r3) := by rw [if_pos rfl] at H; exact H
  clear H
  have H := H1
  clear H1
  simp only [Option.some.injEq, Prod.mk.injEq] at H
  obtain ⟨rfl, rfl, rfl⟩ := H
  obtain ⟨HGz4, hgz4⟩ := HI0.out
  have hcz4_0 := cellS123_0 HGz4
  have hcz4_1 := cellS123_1 HGz4
  have hfz4_0 := qe HGz4 0
  have hfz4_1 := qe HGz4 1
  clear HGz4 hgz4
  go_enter Try.func87, Try.ntmps87
  go_wp2_with (first | ((with_reducible refine qj (f := 154) rfl ?_); refine qt (some 11) rfl rfl Try.func154 (by kernel_rfl) rfl #[.string s0_0] rfl (by (try simp only [List.map_toArray, List.map_cons, List.map_nil]); first | done | rfl) ?_; (with_reducible refine (impl_TakeText.calls k s0_0 t101 t102 true _ A2.out).mono ?_); rintro e w' ⟨rfl, ⟨nd, rfl⟩⟩; refine ⟨_, rfl, ?_⟩))
  go_ret
  exact ⟨by first | rfl | (simp [qn, qm] <;> rfl) | (simp [*, qn, qm] <;> rfl), by repeat (first | (with_reducible first | exact HI0.out | apply IsS123.alloc | apply IsS123.drewN | apply IsS123.drew | apply IsS123.set_0 | apply IsS123.set_1) | exact HI0.out), by repeat (first | (with_reducible first | exact HB.out | apply qc | apply qa | apply qb | refine qd ?_ (IsS123.ge HI0.out)) | exact HB.out), by repeat (first | (with_reducible first | exact HK.out | apply KeepBut.set_ | apply qo | apply qq | apply qp) | exact HK.out)⟩
 ·replace c3 := Bool.eq_false_iff.mpr c3
  subst c3
  have H1 : (some ((⟨#[]⟩ : ByteArray), s0_0, true)) = some (r1, r2, r3) := by rw [if_neg (show ¬ (false = true) by decide)] at H; exact H
  clear H
  have H := H1
  clear H1
  simp only [Option.some.injEq, Prod.mk.injEq] at H
  obtain ⟨rfl, rfl, rfl⟩ := H
  obtain ⟨HGz5, hgz5⟩ := HI0.out
  have hcz5_0 := cellS123_0 HGz5
  have hcz5_1 := cellS123_1 HGz5
  have hfz5_0 := qe HGz5 0
  have hfz5_1 := qe HGz5 1
  clear HGz5 hgz5
  go_enter Try.func87, Try.ntmps87
  go_wp2_with (first | ((with_reducible refine qj (f := 154) rfl ?_); refine qt (some 11) rfl rfl Try.func154 (by kernel_rfl) rfl #[.string s0_0] rfl (by (try simp only [List.map_toArray, List.map_cons, List.map_nil]); first | done | rfl) ?_; (with_reducible refine (impl_TakeText.calls k s0_0 t101 t102 false _ A2.out).mono ?_); rintro e w' ⟨rfl, ⟨nd, rfl⟩⟩; refine ⟨_, rfl, ?_⟩))
  go_ret
  exact ⟨by first | rfl | (simp [qn, qm] <;> rfl) | (simp [*, qn, qm] <;> rfl), by repeat (first | (with_reducible first | exact HI0.out | apply IsS123.alloc | apply IsS123.drewN | apply IsS123.drew | apply IsS123.set_0 | apply IsS123.set_1) | exact HI0.out), by repeat (first | (with_reducible first | exact HB.out | apply qc | apply qa | apply qb | refine qd ?_ (IsS123.ge HI0.out)) | exact HB.out), by repeat (first | (with_reducible first | exact HK.out | apply KeepBut.set_ | apply qo | apply qq | apply qp) | exact HK.out)⟩
theorem yq69 {P : Prop} (h : P := by repeat (first | (with_reducible first | exact HB.out | apply qc | apply qa | apply qb | refine qd ?_ GE101.out) | exact HB.out)) : P := h
theorem yq70 {P : Prop} (h : P := by (with_reducible repeat (first | refine qg ?_ _ | refine qi ?_ | refine qh ?_ _)); exact BK101.out) : P := h
theorem yq71 {P : Prop} (h : P := by (with_reducible repeat (first | refine qg ?_ _ | refine qi ?_ | refine qh ?_ _)); refine qw (cs := #[.string (a0.extract 0 ((ji5) : Int).toNat), .int .i64 (wrap64 (IntKind.u64.wrap (Int.tdiv (Go.bits .or .u64 (IntKind.u64.wrap ((IntKind.u64.wrap (t105)) * 4294967296)) (IntKind.u64.wrap (t102))) 2))), .int .i64 0]) ?_ 2 _ rfl; (with_reducible repeat (first | refine qg ?_ _ | refine qi ?_ | refine qh ?_ _)); refine qw (cs := #[.string (a0.extract 0 ((ji5) : Int).toNat), .int .i64 0, .int .i64 0]) ?_ 1 _ rfl; (with_reducible repeat (first | refine qg ?_ _ | refine qi ?_ | refine qh ?_ _)); refine qw (cs := #[.string (⟨#[]⟩ : ByteArray), .int .i64 0, .int .i64 0]) ?_ 0 _ rfl; (with_reducible repeat (first | refine qg ?_ _ | refine qi ?_ | refine qh ?_ _)); exact BK108.out) : P := h
theorem yq72 {P : Prop} (h : P := by (try simp only [List.map_toArray, List.map_cons, List.map_nil]); first | done | (simp only [hji5]; rfl) | rfl | (simp only [List.length_drop, List.length_take]; rfl) | (rw [IntWalk.u64_in _ (by omega)] <;> rfl)) : P := h
theorem yq73 {P : Prop} (h : P := by (with_reducible repeat (first | refine qg ?_ _ | refine qi ?_ | refine qh ?_ _)); refine qw (cs := #[.string (⟨#[]⟩ : ByteArray), .int .i64 0, .int .i64 0]) ?_ 2 _ rfl; (with_reducible repeat (first | refine qg ?_ _ | refine qi ?_ | refine qh ?_ _)); refine qw (cs := #[.string (⟨#[]⟩ : ByteArray), .int .i64 0, .int .i64 0]) ?_ 1 _ rfl; (with_reducible repeat (first | refine qg ?_ _ | refine qi ?_ | refine qh ?_ _)); refine qw (cs := #[.string (⟨#[]⟩ : ByteArray), .int .i64 0, .int .i64 0]) ?_ 0 _ rfl; (with_reducible repeat (first | refine qg ?_ _ | refine qi ?_ | refine qh ?_ _)); exact BK101.out) : P := h
theorem yq74 {P : Prop} (h : P := by repeat (first | (with_reducible first | exact HB.out | apply qc | apply qa | apply qb) | exact HB.out)) : P := h
theorem yq75 {P : Prop} (h : P := by (with_reducible repeat (first | refine qg ?_ _ | refine qi ?_ | refine qh ?_ _)); refine blk_far ?_ NB101_108.out _; (with_reducible repeat (first | refine qg ?_ _ | refine qi ?_ | refine qh ?_ _)); refine blk_far ?_ NB101_108.out _; (with_reducible repeat (first | refine qg ?_ _ | refine qi ?_ | refine qh ?_ _)); refine blk_far ?_ NB101_108.out _; (with_reducible repeat (first | refine qg ?_ _ | refine qi ?_ | refine qh ?_ _)); exact BK101.out) : P := h
def impl_ReadKey.f (a0 : ByteArray) : Option (ByteArray × Int × Int × Bool) := if (wrap64 ((a0.size : Int) - 8)) < 1 then (some ((⟨#[]⟩ : ByteArray), 0, 0, false)) else (if 0 ≤ (wrap64 ((a0.size : Int) - 8)) then (if (wrap64 ((a0.size : Int) - 8)) ≤ (a0.size : Int) then ((impl_TakeFixed.f (a0.extract ((wrap64 ((a0.size : Int) - 8)) : Int).toNat a0.size)).bind fun bt102 => ((impl_TakeFixed.f bt102.2.1).bind fun bt105 => ((impl_KeyOk.f (a0.extract 0 ((wrap64 ((a0.size : Int) - 8)) : Int).toNat) (wrap64 (IntKind.u64.wrap (Int.tdiv (Go.bits .or .u64 (IntKind.u64.wrap ((IntKind.u64.wrap (bt105.1)) * 4294967296)) (IntKind.u64.wrap (bt102.1))) 2))) (wrap64 (Int.tmod (Go.bits .or .u64 (IntKind.u64.wrap ((IntKind.u64.wrap (bt105.1)) * 4294967296)) (IntKind.u64.wrap (bt102.1))) 2))).bind fun t109 => (if t109 = true then (some (a0.extract 0 ((wrap64 ((a0.size : Int) - 8)) : Int).toNat, wrap64 (IntKind.u64.wrap (Int.tdiv (Go.bits .or .u64 (IntKind.u64.wrap ((IntKind.u64.wrap (bt105.1)) * 4294967296)) (IntKind.u64.wrap (bt102.1))) 2)), wrap64 (Int.tmod (Go.bits .or .u64 (IntKind.u64.wrap ((IntKind.u64.wrap (bt105.1)) * 4294967296)) (IntKind.u64.wrap (bt102.1))) 2), true)) else (some ((⟨#[]⟩ : ByteArray), 0, 0, false)))))) else (none)) else (none))
set_option maxHeartbeats 8000000 in
set_option maxRecDepth 100000 in
theorem impl_ReadKey.calls (a0 : ByteArray) (r1 : ByteArray) (r2 : Int) (r3 : Int) (r4 : Bool) (w : World) (h : impl_ReadKey.f a0 = some (r1, r2, r3, r4)) :
  Calls Try.prog 88 #[.string a0] w fun e w' => e = .returned (.tuple #[.agg #[.string r1, .int .i64 r2, .int .i64 r3], .bool r4]) ∧ Below w.heap.size w w' := by
 have hu35 := Try.underlying35
 have HB := Qz.mk (Below.refl w.heap.size w)
 have H : (if (wrap64 ((a0.size : Int) - 8)) < 1 then (some ((⟨#[]⟩ : ByteArray), 0, 0, false)) else (if 0 ≤ (wrap64 ((a0.size : Int) - 8)) then (if (wrap64 ((a0.size : Int) - 8)) ≤ (a0.size : Int) then ((impl_TakeFixed.f (a0.extract ((wrap64 ((a0.size : Int) - 8)) : Int).toNat a0.size)).bind fun bt102 => ((impl_TakeFixed.f bt102.2.1).bind fun bt105 => ((impl_KeyOk.f (a0.extract 0 ((wrap64 ((a0.size : Int) - 8)) : Int).toNat) (wrap64 (IntKind.u64.wrap (Int.tdiv (Go.bits .or .u64 (IntKind.u64.wrap ((IntKind.u64.wrap (bt105.1)) * 4294967296)) (IntKind.u64.wrap (bt102.1))) 2))) (wrap64 (Int.tmod (Go.bits .or .u64 (IntKind.u64.wrap ((IntKind.u64.wrap (bt105.1)) * 4294967296)) (IntKind.u64.wrap (bt102.1))) 2))).bind fun t109 => (if t109 = true then (some (a0.extract 0 ((wrap64 ((a0.size : Int) - 8)) : Int).toNat, wrap64 (IntKind.u64.wrap (Int.tdiv (Go.bits .or .u64 (IntKind.u64.wrap ((IntKind.u64.wrap (bt105.1)) * 4294967296)) (IntKind.u64.wrap (bt102.1))) 2)), wrap64 (Int.tmod (Go.bits .or .u64 (IntKind.u64.wrap ((IntKind.u64.wrap (bt105.1)) * 4294967296)) (IntKind.u64.wrap (bt102.1))) 2), true)) else (some ((⟨#[]⟩ : ByteArray), 0, 0, false)))))) else (none)) else (none))) = some (r1, r2, r3, r4) := h
 clear h
 by_cases c2 : (wrap64 ((a0.size : Int) - 8)) < 1
 ·rw [if_pos c2] at H
  have c2b0 : decide ((wrap64 ((a0.size : Int) - 8)) < 1) = true := decide_eq_true c2
  clear c2
  simp only [Option.some.injEq, Prod.mk.injEq] at H
  obtain ⟨rfl, rfl, rfl, rfl⟩ := H
  go_enter Try.func88, Try.ntmps88
  go_wp2_with (first | ((with_reducible refine qb1 (N := 2) rfl ?_); refine qz ?hg (N := 2) ?hd (cs := #[.string (⟨#[]⟩ : ByteArray), .int .i64 0, .int .i64 0]) (t := 35) ?hr ?_; (case hd => rfl); (case hg => rfl); (case hr => first | (go_simp; done) | (go_simp; rfl)); intro gb101 hg w3 hbox hb; have BK101 := Qz.mk (hbox); have GW101 := Qz.mk ((by rw [hg]; exact (qv yq74) : w.heap.size ≤ gb101)); have GE101 := GW101; replace HB := Qz.mk (ql yq74 hb); clear hb hbox hg; have hcz4_0 : w3.cell? ⟨gb101, 0, none⟩ = some (.string (⟨#[]⟩ : ByteArray)) := (qf BK101.out 0).trans rfl; have hcz4_1 : w3.cell? ⟨gb101, 1, none⟩ = some (.int .i64 0) := (qf BK101.out 1).trans rfl; have hcz4_2 : w3.cell? ⟨gb101, 2, none⟩ = some (.int .i64 0) := (qf BK101.out 2).trans rfl; have hfz4_0 := qe BK101.out 0; have hfz4_1 := qe BK101.out 1; have hfz4_2 := qe BK101.out 2))
  refine bodyPost_ret (results_ct rfl _ _ gb101 35 #[.string (⟨#[]⟩ : ByteArray), .int .i64 0, .int .i64 0] (0, 0) _ rfl yq73 Try.underlying35 rfl (by kernel_rfl)) rfl ?_
  exact ⟨by first | rfl | (simp [qn, qm] <;> rfl) | (simp [*, qn, qm] <;> rfl), by repeat (first | (with_reducible first | exact HB.out | apply qc | apply qa | apply qb | refine qd ?_ GE101.out) | exact HB.out)⟩
 ·rw [if_neg c2] at H
  have c2b0 : decide ((wrap64 ((a0.size : Int) - 8)) < 1) = false := decide_eq_false c2
  clear c2
  obtain ⟨ji5, hji5⟩ : ∃ j_ : Int, (wrap64 ((a0.size : Int) - 8)) = j_ := ⟨_, rfl⟩
  replace H : (if 0 ≤ (ji5) then (if (ji5) ≤ (a0.size : Int) then ((impl_TakeFixed.f (a0.extract ((ji5) : Int).toNat a0.size)).bind fun bt102 => ((impl_TakeFixed.f bt102.2.1).bind fun bt105 => ((impl_KeyOk.f (a0.extract 0 ((ji5) : Int).toNat) (wrap64 (IntKind.u64.wrap (Int.tdiv (Go.bits .or .u64 (IntKind.u64.wrap ((IntKind.u64.wrap (bt105.1)) * 4294967296)) (IntKind.u64.wrap (bt102.1))) 2))) (wrap64 (Int.tmod (Go.bits .or .u64 (IntKind.u64.wrap ((IntKind.u64.wrap (bt105.1)) * 4294967296)) (IntKind.u64.wrap (bt102.1))) 2))).bind fun t109 => (if t109 = true then (some (a0.extract 0 ((ji5) : Int).toNat, wrap64 (IntKind.u64.wrap (Int.tdiv (Go.bits .or .u64 (IntKind.u64.wrap ((IntKind.u64.wrap (bt105.1)) * 4294967296)) (IntKind.u64.wrap (bt102.1))) 2)), wrap64 (Int.tmod (Go.bits .or .u64 (IntKind.u64.wrap ((IntKind.u64.wrap (bt105.1)) * 4294967296)) (IntKind.u64.wrap (bt102.1))) 2), true)) else (some ((⟨#[]⟩ : ByteArray), 0, 0, false)))))) else (none)) else (none)) = some (r1, r2, r3, r4) := by first | (rw [hji5] at H; exact H) | (simp only [hji5] at H ⊢; exact H)
  (try rw [hji5] at c2b0)
  have hji5w : (IntKind.i64.wrap ((a0.size : Int) - 8)) = ji5 := (i64_w _).trans hji5
  by_cases c6 : 0 ≤ (ji5)
  ·rw [if_pos c6] at H
   have c6b0 := eq_true c6
   have c6b1 : decide (0 ≤ (ji5)) = true := decide_eq_true c6
   clear c6
   by_cases c7 : (ji5) ≤ (a0.size : Int)
   ·rw [if_pos c7] at H
    have c7b0 := eq_true c7
    have c7b1 : decide ((ji5) ≤ (a0.size : Int)) = true := decide_eq_true c7
    clear c7
    replace H := Option.bind_eq_some_iff.mp H
    obtain ⟨⟨t102, t103, t104⟩, A80, H⟩ := H
    replace H : ((impl_TakeFixed.f t103).bind fun bt105 => ((impl_KeyOk.f (a0.extract 0 ((ji5) : Int).toNat) (wrap64 (IntKind.u64.wrap (Int.tdiv (Go.bits .or .u64 (IntKind.u64.wrap ((IntKind.u64.wrap (bt105.1)) * 4294967296)) (IntKind.u64.wrap (t102))) 2))) (wrap64 (Int.tmod (Go.bits .or .u64 (IntKind.u64.wrap ((IntKind.u64.wrap (bt105.1)) * 4294967296)) (IntKind.u64.wrap (t102))) 2))).bind fun t109 => (if t109 = true then (some (a0.extract 0 ((ji5) : Int).toNat, wrap64 (IntKind.u64.wrap (Int.tdiv (Go.bits .or .u64 (IntKind.u64.wrap ((IntKind.u64.wrap (bt105.1)) * 4294967296)) (IntKind.u64.wrap (t102))) 2)), wrap64 (Int.tmod (Go.bits .or .u64 (IntKind.u64.wrap ((IntKind.u64.wrap (bt105.1)) * 4294967296)) (IntKind.u64.wrap (t102))) 2), true)) else (some ((⟨#[]⟩ : ByteArray), 0, 0, false))))) = some (r1, r2, r3, r4) := H
    have A8 := Qz.mk A80
    clear A80
    replace H := Option.bind_eq_some_iff.mp H
    obtain ⟨⟨t105, t106, t107⟩, A90, H⟩ := H
    replace H : ((impl_KeyOk.f (a0.extract 0 ((ji5) : Int).toNat) (wrap64 (IntKind.u64.wrap (Int.tdiv (Go.bits .or .u64 (IntKind.u64.wrap ((IntKind.u64.wrap (t105)) * 4294967296)) (IntKind.u64.wrap (t102))) 2))) (wrap64 (Int.tmod (Go.bits .or .u64 (IntKind.u64.wrap ((IntKind.u64.wrap (t105)) * 4294967296)) (IntKind.u64.wrap (t102))) 2))).bind fun t109 => (if t109 = true then (some (a0.extract 0 ((ji5) : Int).toNat, wrap64 (IntKind.u64.wrap (Int.tdiv (Go.bits .or .u64 (IntKind.u64.wrap ((IntKind.u64.wrap (t105)) * 4294967296)) (IntKind.u64.wrap (t102))) 2)), wrap64 (Int.tmod (Go.bits .or .u64 (IntKind.u64.wrap ((IntKind.u64.wrap (t105)) * 4294967296)) (IntKind.u64.wrap (t102))) 2), true)) else (some ((⟨#[]⟩ : ByteArray), 0, 0, false)))) = some (r1, r2, r3, r4) := H
    have A9 := Qz.mk A90
    clear A90
    have c10b0 := eq_true (of_decide_eq_true (by first | (with_reducible assumption) | assumption) : 0 ≤ (ji5))
    have c11b0 := eq_true (of_decide_eq_true (by first | (with_reducible assumption) | assumption) : (ji5) ≤ (a0.size : Int))
    replace H := Option.bind_eq_some_iff.mp H
    obtain ⟨t109, A120, H⟩ := H
    replace H : (if t109 = true then (some (a0.extract 0 ((ji5) : Int).toNat, wrap64 (IntKind.u64.wrap (Int.tdiv (Go.bits .or .u64 (IntKind.u64.wrap ((IntKind.u64.wrap (t105)) * 4294967296)) (IntKind.u64.wrap (t102))) 2)), wrap64 (Int.tmod (Go.bits .or .u64 (IntKind.u64.wrap ((IntKind.u64.wrap (t105)) * 4294967296)) (IntKind.u64.wrap (t102))) 2), true)) else (some ((⟨#[]⟩ : ByteArray), 0, 0, false))) = some (r1, r2, r3, r4) := H
    have A12 := Qz.mk A120
    clear A120
    by_cases c13 : t109 = true
    ·subst c13
     have H1 : (some (a0.extract 0 ((ji5) : Int).toNat, wrap64 (IntKind.u64.wrap (Int.tdiv (Go.bits .or .u64 (IntKind.u64.wrap ((IntKind.u64.wrap (t105)) * 4294967296)) (IntKind.u64.wrap (t102))) 2)), wrap64 (Int.tmod (Go.bits .or .u64 (IntKind.u64.wrap ((IntKind.u64.wrap (t105)) * 4294967296)) (IntKind.u64.wrap (t102))) 2), true)) = some (r1, r2, r3, r4) := by rw [if_pos rfl] at H; exact H
     clear H
     have H := H1
     clear H1
     simp only [Option.some.injEq, Prod.mk.injEq] at H
     obtain ⟨rfl, rfl, rfl, rfl⟩ := H
     go_enter Try.func88, Try.ntmps88
     go_wp2_with (first | ((with_reducible refine qb1 (N := 2) rfl ?_); refine qz ?hg (N := 2) ?hd (cs := #[.string (⟨#[]⟩ : ByteArray), .int .i64 0, .int .i64 0]) (t := 35) ?hr ?_; (case hd => rfl); (case hg => rfl); (case hr => first | (go_simp; done) | (go_simp; rfl)); intro gb101 hg w14 hbox hb; have BK101 := Qz.mk (hbox); have GW101 := Qz.mk ((by rw [hg]; exact (qv yq74) : w.heap.size ≤ gb101)); have GE101 := GW101; replace HB := Qz.mk (ql yq74 hb); clear hb hbox hg) | ((with_reducible refine qj (f := 152) rfl ?_); refine qt (some 23) rfl rfl Try.func152 (by kernel_rfl) rfl #[.string (a0.extract ((ji5) : Int).toNat a0.size)] rfl yq72 ?_; (with_reducible refine (impl_TakeFixed.calls (a0.extract ((ji5) : Int).toNat a0.size) t102 t103 t104 _ A8.out).mono ?_); rintro e w' ⟨rfl, ⟨nd, rfl⟩⟩; refine ⟨_, rfl, ?_⟩; (try (rw [drewN_self w14]; generalize hq_ : World.drewN w14 _ = w14; have n0_ : Qz (w14.heap[gb101]? = some (.cells #[.string (⟨#[]⟩ : ByteArray), .int .i64 0, .int .i64 0] 35 (0, 0))) := ⟨by rw [← hq_]; exact yq70⟩; have n1_ : Qz (Below w.heap.size w w14) := ⟨by rw [← hq_]; exact yq69⟩; clear BK101 HB hq_; have BK101 := n0_; have HB := n1_; clear n0_ n1_))) | ((with_reducible refine qj (f := 152) rfl ?_); refine qt (some 29) rfl rfl Try.func152 (by kernel_rfl) rfl #[.string t103] rfl (by (try simp only [List.map_toArray, List.map_cons, List.map_nil]); first | done | rfl) ?_; (with_reducible refine (impl_TakeFixed.calls t103 t105 t106 t107 _ A9.out).mono ?_); rintro e w' ⟨rfl, ⟨nd, rfl⟩⟩; refine ⟨_, rfl, ?_⟩; (try (rw [drewN_self w14]; generalize hq_ : World.drewN w14 _ = w14; have n0_ : Qz (w14.heap[gb101]? = some (.cells #[.string (⟨#[]⟩ : ByteArray), .int .i64 0, .int .i64 0] 35 (0, 0))) := ⟨by rw [← hq_]; exact yq70⟩; have n1_ : Qz (Below w.heap.size w w14) := ⟨by rw [← hq_]; exact yq69⟩; clear BK101 HB hq_; have BK101 := n0_; have HB := n1_; clear n0_ n1_))) | ((with_reducible refine qb1 (N := 12) rfl ?_); refine qz ?hg (N := 12) ?hd (cs := #[.string (⟨#[]⟩ : ByteArray), .int .i64 0, .int .i64 0]) (t := 35) ?hr ?_; (case hd => rfl); (case hg => rfl); (case hr => first | (go_simp; done) | (go_simp; rfl)); intro gb108 hg w15 hbox hb; have BK108 := Qz.mk (hbox); have GW108 := Qz.mk ((by rw [hg]; exact (qv yq69) : w.heap.size ≤ gb108)); have GE108 := GW108; replace HB := Qz.mk (ql yq69 hb); have NB101_108 := Qz.mk ((by rw [hg]; exact Nat.ne_of_lt (blk_lt (g := gb101) (o := .cells #[.string (⟨#[]⟩ : ByteArray), .int .i64 0, .int .i64 0] 35 (0, 0)) yq70) : gb101 ≠ gb108)); have NB108_101 := Qz.mk ((by rw [hg]; exact Nat.ne_of_gt (blk_lt (g := gb101) (o := .cells #[.string (⟨#[]⟩ : ByteArray), .int .i64 0, .int .i64 0] 35 (0, 0)) yq70) : gb108 ≠ gb101)); replace BK101 := Qz.mk (qu (g := gb101) (o := .cells #[.string (⟨#[]⟩ : ByteArray), .int .i64 0, .int .i64 0] 35 (0, 0)) yq70 hb); clear hb hbox hg; have hnb16 := NB108_101.out; have hnc16 := NB101_108.out; have hcz17_0 : w15.cell? ⟨gb108, 0, none⟩ = some (.string (⟨#[]⟩ : ByteArray)) := (qf BK108.out 0).trans rfl; have hcz17_1 : w15.cell? ⟨gb108, 1, none⟩ = some (.int .i64 0) := (qf BK108.out 1).trans rfl; have hcz17_2 : w15.cell? ⟨gb108, 2, none⟩ = some (.int .i64 0) := (qf BK108.out 2).trans rfl; have hfz17_0 := qe BK108.out 0; have hfz17_1 := qe BK108.out 1; have hfz17_2 := qe BK108.out 2) | ((with_reducible refine qj (f := 33) rfl ?_); refine qt (some 50) rfl rfl Try.func33 (by kernel_rfl) rfl #[.agg #[.string (a0.extract 0 ((ji5) : Int).toNat), .int .i64 (wrap64 (IntKind.u64.wrap (Int.tdiv (Go.bits .or .u64 (IntKind.u64.wrap ((IntKind.u64.wrap (t105)) * 4294967296)) (IntKind.u64.wrap (t102))) 2))), .int .i64 (wrap64 (Int.tmod (Go.bits .or .u64 (IntKind.u64.wrap ((IntKind.u64.wrap (t105)) * 4294967296)) (IntKind.u64.wrap (t102))) 2))]] rfl yq72 ?_; (with_reducible refine (impl_KeyOk.calls (a0.extract 0 ((ji5) : Int).toNat) (wrap64 (IntKind.u64.wrap (Int.tdiv (Go.bits .or .u64 (IntKind.u64.wrap ((IntKind.u64.wrap (t105)) * 4294967296)) (IntKind.u64.wrap (t102))) 2))) (wrap64 (Int.tmod (Go.bits .or .u64 (IntKind.u64.wrap ((IntKind.u64.wrap (t105)) * 4294967296)) (IntKind.u64.wrap (t102))) 2)) true _ A12.out).mono ?_); rintro e w18 ⟨rfl, hb⟩; refine ⟨_, rfl, ?_⟩; replace BK101 := Qz.mk (qu (g := gb101) (o := .cells #[.string (⟨#[]⟩ : ByteArray), .int .i64 0, .int .i64 0] 35 (0, 0)) yq75 hb); replace BK108 := Qz.mk (qu (g := gb108) (o := .cells #[.string (a0.extract 0 ((ji5) : Int).toNat), .int .i64 (wrap64 (IntKind.u64.wrap (Int.tdiv (Go.bits .or .u64 (IntKind.u64.wrap ((IntKind.u64.wrap (t105)) * 4294967296)) (IntKind.u64.wrap (t102))) 2))), .int .i64 (wrap64 (Int.tmod (Go.bits .or .u64 (IntKind.u64.wrap ((IntKind.u64.wrap (t105)) * 4294967296)) (IntKind.u64.wrap (t102))) 2))] 35 (0, 0)) yq71 hb); replace HB := Qz.mk (ql (by repeat (first | (with_reducible first | exact HB.out | apply qc | apply qa | apply qb | refine qd ?_ GE101.out | refine qd ?_ GE108.out) | exact HB.out)) hb); (try clear hb); have hcz19_0 : w18.cell? ⟨gb108, 0, none⟩ = some (.string (a0.extract 0 ((ji5) : Int).toNat)) := (qf BK108.out 0).trans rfl; have hcz19_1 : w18.cell? ⟨gb108, 1, none⟩ = some (.int .i64 (wrap64 (IntKind.u64.wrap (Int.tdiv (Go.bits .or .u64 (IntKind.u64.wrap ((IntKind.u64.wrap (t105)) * 4294967296)) (IntKind.u64.wrap (t102))) 2)))) := (qf BK108.out 1).trans rfl; have hcz19_2 : w18.cell? ⟨gb108, 2, none⟩ = some (.int .i64 (wrap64 (Int.tmod (Go.bits .or .u64 (IntKind.u64.wrap ((IntKind.u64.wrap (t105)) * 4294967296)) (IntKind.u64.wrap (t102))) 2))) := (qf BK108.out 2).trans rfl; have hfz19_0 := qe BK108.out 0; have hfz19_1 := qe BK108.out 1; have hfz19_2 := qe BK108.out 2; have hcz20_0 : w18.cell? ⟨gb101, 0, none⟩ = some (.string (⟨#[]⟩ : ByteArray)) := (qf BK101.out 0).trans rfl; have hcz20_1 : w18.cell? ⟨gb101, 1, none⟩ = some (.int .i64 0) := (qf BK101.out 1).trans rfl; have hcz20_2 : w18.cell? ⟨gb101, 2, none⟩ = some (.int .i64 0) := (qf BK101.out 2).trans rfl; have hfz20_0 := qe BK101.out 0; have hfz20_1 := qe BK101.out 1; have hfz20_2 := qe BK101.out 2))
     refine bodyPost_ret (results_ct rfl _ _ gb101 35 #[.string (a0.extract 0 ((ji5) : Int).toNat), .int .i64 (wrap64 (IntKind.u64.wrap (Int.tdiv (Go.bits .or .u64 (IntKind.u64.wrap ((IntKind.u64.wrap (t105)) * 4294967296)) (IntKind.u64.wrap (t102))) 2))), .int .i64 (wrap64 (Int.tmod (Go.bits .or .u64 (IntKind.u64.wrap ((IntKind.u64.wrap (t105)) * 4294967296)) (IntKind.u64.wrap (t102))) 2))] (0, 0) _ rfl (by (with_reducible repeat (first | refine qg ?_ _ | refine qi ?_ | refine qh ?_ _)); refine qw (cs := #[.string (a0.extract 0 ((ji5) : Int).toNat), .int .i64 (wrap64 (IntKind.u64.wrap (Int.tdiv (Go.bits .or .u64 (IntKind.u64.wrap ((IntKind.u64.wrap (t105)) * 4294967296)) (IntKind.u64.wrap (t102))) 2))), .int .i64 0]) ?_ 2 _ rfl; (with_reducible repeat (first | refine qg ?_ _ | refine qi ?_ | refine qh ?_ _)); refine qw (cs := #[.string (a0.extract 0 ((ji5) : Int).toNat), .int .i64 0, .int .i64 0]) ?_ 1 _ rfl; (with_reducible repeat (first | refine qg ?_ _ | refine qi ?_ | refine qh ?_ _)); refine qw (cs := #[.string (⟨#[]⟩ : ByteArray), .int .i64 0, .int .i64 0]) ?_ 0 _ rfl; (with_reducible repeat (first | refine qg ?_ _ | refine qi ?_ | refine qh ?_ _)); exact BK101.out) Try.underlying35 rfl (by kernel_rfl)) rfl ?_
     exact ⟨by first | rfl | (simp [qn, qm] <;> rfl) | (simp only [← hji5]; first | rfl | (simp [qn, qm] <;> rfl)) | (simp [*, qn, qm] <;> rfl), by repeat (first | (with_reducible first | exact HB.out | apply qc | apply qa | apply qb | refine qd ?_ GE101.out | refine qd ?_ GE108.out) | exact HB.out)⟩
    ·replace c13 := Bool.eq_false_iff.mpr c13
     subst c13
     have H1 : (some ((⟨#[]⟩ : ByteArray), 0, 0, false)) = some (r1, r2, r3, r4) := by rw [if_neg (show ¬ (false = true) by decide)] at H; exact H
     clear H
     have H := H1
     clear H1
     simp only [Option.some.injEq, Prod.mk.injEq] at H
     obtain ⟨rfl, rfl, rfl, rfl⟩ := H
     go_enter Try.func88, Try.ntmps88
     go_wp2_with (first | ((with_reducible refine qb1 (N := 2) rfl ?_); refine qz ?hg (N := 2) ?hd (cs := #[.string (⟨#[]⟩ : ByteArray), .int .i64 0, .int .i64 0]) (t := 35) ?hr ?_; (case hd => rfl); (case hg => rfl); (case hr => first | (go_simp; done) | (go_simp; rfl)); intro gb101 hg w21 hbox hb; have BK101 := Qz.mk (hbox); have GW101 := Qz.mk ((by rw [hg]; exact (qv yq74) : w.heap.size ≤ gb101)); have GE101 := GW101; replace HB := Qz.mk (ql yq74 hb); clear hb hbox hg) | ((with_reducible refine qj (f := 152) rfl ?_); refine qt (some 23) rfl rfl Try.func152 (by kernel_rfl) rfl #[.string (a0.extract ((ji5) : Int).toNat a0.size)] rfl yq72 ?_; (with_reducible refine (impl_TakeFixed.calls (a0.extract ((ji5) : Int).toNat a0.size) t102 t103 t104 _ A8.out).mono ?_); rintro e w' ⟨rfl, ⟨nd, rfl⟩⟩; refine ⟨_, rfl, ?_⟩; (try (rw [drewN_self w21]; generalize hq_ : World.drewN w21 _ = w21; have n0_ : Qz (w21.heap[gb101]? = some (.cells #[.string (⟨#[]⟩ : ByteArray), .int .i64 0, .int .i64 0] 35 (0, 0))) := ⟨by rw [← hq_]; exact yq70⟩; have n1_ : Qz (Below w.heap.size w w21) := ⟨by rw [← hq_]; exact yq69⟩; clear BK101 HB hq_; have BK101 := n0_; have HB := n1_; clear n0_ n1_))) | ((with_reducible refine qj (f := 152) rfl ?_); refine qt (some 29) rfl rfl Try.func152 (by kernel_rfl) rfl #[.string t103] rfl (by (try simp only [List.map_toArray, List.map_cons, List.map_nil]); first | done | rfl) ?_; (with_reducible refine (impl_TakeFixed.calls t103 t105 t106 t107 _ A9.out).mono ?_); rintro e w' ⟨rfl, ⟨nd, rfl⟩⟩; refine ⟨_, rfl, ?_⟩; (try (rw [drewN_self w21]; generalize hq_ : World.drewN w21 _ = w21; have n0_ : Qz (w21.heap[gb101]? = some (.cells #[.string (⟨#[]⟩ : ByteArray), .int .i64 0, .int .i64 0] 35 (0, 0))) := ⟨by rw [← hq_]; exact yq70⟩; have n1_ : Qz (Below w.heap.size w w21) := ⟨by rw [← hq_]; exact yq69⟩; clear BK101 HB hq_; have BK101 := n0_; have HB := n1_; clear n0_ n1_))) | ((with_reducible refine qb1 (N := 12) rfl ?_); refine qz ?hg (N := 12) ?hd (cs := #[.string (⟨#[]⟩ : ByteArray), .int .i64 0, .int .i64 0]) (t := 35) ?hr ?_; (case hd => rfl); (case hg => rfl); (case hr => first | (go_simp; done) | (go_simp; rfl)); intro gb108 hg w22 hbox hb; have BK108 := Qz.mk (hbox); have GW108 := Qz.mk ((by rw [hg]; exact (qv yq69) : w.heap.size ≤ gb108)); have GE108 := GW108; replace HB := Qz.mk (ql yq69 hb); have NB101_108 := Qz.mk ((by rw [hg]; exact Nat.ne_of_lt (blk_lt (g := gb101) (o := .cells #[.string (⟨#[]⟩ : ByteArray), .int .i64 0, .int .i64 0] 35 (0, 0)) yq70) : gb101 ≠ gb108)); have NB108_101 := Qz.mk ((by rw [hg]; exact Nat.ne_of_gt (blk_lt (g := gb101) (o := .cells #[.string (⟨#[]⟩ : ByteArray), .int .i64 0, .int .i64 0] 35 (0, 0)) yq70) : gb108 ≠ gb101)); replace BK101 := Qz.mk (qu (g := gb101) (o := .cells #[.string (⟨#[]⟩ : ByteArray), .int .i64 0, .int .i64 0] 35 (0, 0)) yq70 hb); clear hb hbox hg; have hnb23 := NB108_101.out; have hnc23 := NB101_108.out; have hcz24_0 : w22.cell? ⟨gb108, 0, none⟩ = some (.string (⟨#[]⟩ : ByteArray)) := (qf BK108.out 0).trans rfl; have hcz24_1 : w22.cell? ⟨gb108, 1, none⟩ = some (.int .i64 0) := (qf BK108.out 1).trans rfl; have hcz24_2 : w22.cell? ⟨gb108, 2, none⟩ = some (.int .i64 0) := (qf BK108.out 2).trans rfl; have hfz24_0 := qe BK108.out 0; have hfz24_1 := qe BK108.out 1; have hfz24_2 := qe BK108.out 2) | ((with_reducible refine qj (f := 33) rfl ?_); refine qt (some 50) rfl rfl Try.func33 (by kernel_rfl) rfl #[.agg #[.string (a0.extract 0 ((ji5) : Int).toNat), .int .i64 (wrap64 (IntKind.u64.wrap (Int.tdiv (Go.bits .or .u64 (IntKind.u64.wrap ((IntKind.u64.wrap (t105)) * 4294967296)) (IntKind.u64.wrap (t102))) 2))), .int .i64 (wrap64 (Int.tmod (Go.bits .or .u64 (IntKind.u64.wrap ((IntKind.u64.wrap (t105)) * 4294967296)) (IntKind.u64.wrap (t102))) 2))]] rfl yq72 ?_; (with_reducible refine (impl_KeyOk.calls (a0.extract 0 ((ji5) : Int).toNat) (wrap64 (IntKind.u64.wrap (Int.tdiv (Go.bits .or .u64 (IntKind.u64.wrap ((IntKind.u64.wrap (t105)) * 4294967296)) (IntKind.u64.wrap (t102))) 2))) (wrap64 (Int.tmod (Go.bits .or .u64 (IntKind.u64.wrap ((IntKind.u64.wrap (t105)) * 4294967296)) (IntKind.u64.wrap (t102))) 2)) false _ A12.out).mono ?_); rintro e w25 ⟨rfl, hb⟩; refine ⟨_, rfl, ?_⟩; replace BK101 := Qz.mk (qu (g := gb101) (o := .cells #[.string (⟨#[]⟩ : ByteArray), .int .i64 0, .int .i64 0] 35 (0, 0)) yq75 hb); replace BK108 := Qz.mk (qu (g := gb108) (o := .cells #[.string (a0.extract 0 ((ji5) : Int).toNat), .int .i64 (wrap64 (IntKind.u64.wrap (Int.tdiv (Go.bits .or .u64 (IntKind.u64.wrap ((IntKind.u64.wrap (t105)) * 4294967296)) (IntKind.u64.wrap (t102))) 2))), .int .i64 (wrap64 (Int.tmod (Go.bits .or .u64 (IntKind.u64.wrap ((IntKind.u64.wrap (t105)) * 4294967296)) (IntKind.u64.wrap (t102))) 2))] 35 (0, 0)) yq71 hb); replace HB := Qz.mk (ql (by repeat (first | (with_reducible first | exact HB.out | apply qc | apply qa | apply qb | refine qd ?_ GE101.out | refine qd ?_ GE108.out) | exact HB.out)) hb); (try clear hb); have hcz26_0 : w25.cell? ⟨gb101, 0, none⟩ = some (.string (⟨#[]⟩ : ByteArray)) := (qf BK101.out 0).trans rfl; have hcz26_1 : w25.cell? ⟨gb101, 1, none⟩ = some (.int .i64 0) := (qf BK101.out 1).trans rfl; have hcz26_2 : w25.cell? ⟨gb101, 2, none⟩ = some (.int .i64 0) := (qf BK101.out 2).trans rfl; have hfz26_0 := qe BK101.out 0; have hfz26_1 := qe BK101.out 1; have hfz26_2 := qe BK101.out 2))
     refine bodyPost_ret (results_ct rfl _ _ gb101 35 #[.string (⟨#[]⟩ : ByteArray), .int .i64 0, .int .i64 0] (0, 0) _ rfl yq73 Try.underlying35 rfl (by kernel_rfl)) rfl ?_
     exact ⟨by first | rfl | (simp [qn, qm] <;> rfl) | (simp only [← hji5]; first | rfl | (simp [qn, qm] <;> rfl)) | (simp [*, qn, qm] <;> rfl), by repeat (first | (with_reducible first | exact HB.out | apply qc | apply qa | apply qb | refine qd ?_ GE101.out | refine qd ?_ GE108.out) | exact HB.out)⟩
   ·rw [if_neg c7] at H
    exact absurd H (by simp)
  ·rw [if_neg c6] at H
   exact absurd H (by simp)
theorem yq76 {P : Prop} (h : P := by repeat (first | (with_reducible first | exact HI111.out | apply IsS123.alloc | apply IsS123.drewN | apply IsS123.drew | apply IsS123.set_0 | apply IsS123.set_1) | exact HI111.out)) : P := h
theorem yq77 {P : Prop} (h : P := by repeat (first | (with_reducible first | exact HB.out | apply qc | apply qa | apply qb | refine qd ?_ (IsS123.ge HI111.out)) | exact HB.out)) : P := h
theorem yq78 {P : Prop} (h : P := by (with_reducible repeat (first | apply Kd.R_alloc | apply Kd.R_drewN | apply Kd.R_drew)); exact HO_8.out) : P := h
theorem yq79 {P : Prop} (h : P := by repeat (first | (with_reducible first | exact HI101.out | apply IsS123.alloc | apply IsS123.drewN | apply IsS123.drew | apply IsS123.set_0 | apply IsS123.set_1) | exact HI101.out)) : P := h
theorem yq80 {P : Prop} (h : P := by repeat (first | (with_reducible first | exact HB.out | apply qc | apply qa | apply qb | refine qd ?_ (IsS123.ge HI101.out)) | exact HB.out)) : P := h
theorem yq81 {P : Prop} (h : P := by (try simp only [List.map_toArray, List.map_cons, List.map_nil]); first | done | rfl) : P := h
theorem yq82 {P : Prop} (h : P := by repeat (first | (with_reducible first | exact HB.out | apply qc | apply qa | apply qb) | exact HB.out)) : P := h
theorem yq83 {P : Prop} (h : P := by (try simp only [List.map_toArray, List.map_cons, List.map_nil]); first | done | rfl | (simp only [List.length_drop, List.length_take]; rfl) | (rw [IntWalk.u64_in _ (by omega)] <;> rfl)) : P := h
theorem yq84 {P : Prop} (h : P := by repeat (first | exact (Kd.R_reads' HO_8.out).2.2 | (with_reducible refine Kd.C_alloc ?_ _) | (with_reducible refine Kd.C_drewN ?_ _) | (with_reducible refine Kd.C_drew ?_))) : P := h
theorem yq85 {P : Prop} (h : P := by first | rfl | (simp; done) | (simp [*]; done)) : P := h
theorem yq86 {P : Prop} (h : P := by first | (go_simp; done) | (go_simp; rfl)) : P := h
mutual
def impl_ReadBlock.j0 : Nat → ByteArray → Bool → Option ((List (S64)) × Bool)
 | 0, _, _ => none
 | k + 1, x0, x24 => if x24 = true then (some (([] : List (S64)), false)) else (if 0 ≤ (wrap64 ((x0.size : Int) - 8)) then (if (wrap64 ((x0.size : Int) - 8)) ≤ (x0.size : Int) then ((impl_taker_fixed.f (x0.extract ((wrap64 ((x0.size : Int) - 8)) : Int).toNat x0.size) false).bind fun bt102 => ((impl_taker_fixed.f bt102.2.1 bt102.2.2).bind fun bt105 => (if (wrap64 ((wrap64 ((x0.size : Int) - 8)) - (wrap64 (4 * bt102.1)))) < 0 then (some (([] : List (S64)), false)) else (if 0 ≤ (wrap64 ((wrap64 ((x0.size : Int) - 8)) - (wrap64 (4 * bt102.1)))) then (if (wrap64 ((wrap64 ((x0.size : Int) - 8)) - (wrap64 (4 * bt102.1)))) ≤ (x0.size : Int) then (impl_ReadBlock.l0 k x0 bt105.1 (([] : List (S64))) (⟨#[]⟩ : ByteArray) (x0.extract 0 ((wrap64 ((wrap64 ((x0.size : Int) - 8)) - (wrap64 (4 * bt102.1)))) : Int).toNat) false) else (none)) else (none))))) else (none)) else (none))
def impl_ReadBlock.l0 : Nat → ByteArray → Int → List (S64) → ByteArray → ByteArray → Bool → Option ((List (S64)) × Bool)
 | 0, _, _, _, _, _, _ => none
 | k + 1, x0, x6, x8, x9, x112000, x112001 => if x112000.toList = ([] : List UInt8) then ((impl_BlockOf.f k x8 x6).bind fun bt112 => (if bt112.2 = true then (if bt112.1.toList = x0.toList then (some (x8, true)) else (some (([] : List (S64)), false))) else (some (([] : List (S64)), false)))) else ((impl_taker_number.f k x112000 x112001).bind fun bt114 => ((impl_taker_text.f k bt114.2.1 bt114.2.2).bind fun bt117 => ((impl_taker_text.f k bt117.2.1 bt117.2.2).bind fun bt120 => (if bt120.2.2 = true then (impl_ReadBlock.j2 k x0 x6 x8 x9 bt114.1 bt117.1 bt120.1 true bt120.2.1 bt120.2.2) else (if bt114.1 > (x9.size : Int) then (impl_ReadBlock.j2 k x0 x6 x8 x9 bt114.1 bt117.1 bt120.1 true bt120.2.1 bt120.2.2) else (impl_ReadBlock.j2 k x0 x6 x8 x9 bt114.1 bt117.1 bt120.1 ((x8.length : Int) == 400) bt120.2.1 bt120.2.2))))))
def impl_ReadBlock.j2 : Nat → ByteArray → Int → List (S64) → ByteArray → Int → ByteArray → ByteArray → Bool → ByteArray → Bool → Option ((List (S64)) × Bool)
 | 0, _, _, _, _, _, _, _, _, _, _ => none
 | k + 1, x0, x6, x8, x9, x10, x11, x12, x75, x112000, x112001 => if x75 = true then (some (([] : List (S64)), false)) else (if 0 ≤ x10 then (if x10 ≤ (x9.size : Int) then (if (x10 : Int).toNat + x11.size ≤ 9223372036854775807 then ((impl_ReadKey.f ((x9.extract 0 (x10 : Int).toNat) ++ x11)).bind fun bt123 => (if bt123.2.2.2 = true then (if x8.length < 2932031007402 then (impl_ReadBlock.l0 k x0 x6 (x8 ++ [(⟨(⟨bt123.1, bt123.2.1, bt123.2.2.1⟩ : S35), x12⟩ : S64)]) ((x9.extract 0 (x10 : Int).toNat) ++ x11) x112000 x112001) else (none)) else (some (([] : List (S64)), false)))) else (none)) else (none)) else (none))
end
def impl_ReadBlock.f (k : Nat) (a0 : ByteArray) : Option ((List (S64)) × Bool) := if (a0.size : Int) < 8 then (impl_ReadBlock.j0 k a0 true) else (impl_ReadBlock.j0 k a0 (decide ((a0.size : Int) > 60000)))
set_option maxHeartbeats 8000000 in
set_option maxRecDepth 100000 in
theorem impl_ReadBlock.calls (k : Nat) (a0 : ByteArray) (r1 : List (S64)) (r2 : Bool) (w : World) (h : impl_ReadBlock.f k a0 = some (r1, r2)) :
  Calls Try.prog 25 #[.string a0] w fun e w' => ∃ v0_ : Value, e = .returned (.tuple #[v0_, .bool r2]) ∧ Kd.R k64 64 w' w.heap.size (fun _ => True) v0_ r1 ∧ Below w.heap.size w w' := by
 have hu123 := Try.underlying123
 have hu35 := Try.underlying35
 have hu64 := Try.underlying64
 have HB := Qz.mk (Below.refl w.heap.size w)
 have H : (if (a0.size : Int) < 8 then (impl_ReadBlock.j0 k a0 true) else (impl_ReadBlock.j0 k a0 (decide ((a0.size : Int) > 60000)))) = some (r1, r2) := h
 clear h
 have HC2 := Qz.mk H
 clear H
 go_enter Try.func25, Try.ntmps25
 go_upto_region 1 with (fail)
 go_cut [24] (fun v24 wc => ∃ (kq : Nat) (x24_1 : Bool), v24 = .bool x24_1 ∧ Qz (impl_ReadBlock.j0 kq a0 x24_1 = some (r1, r2)) ∧ Qz (kq ≤ k) ∧ Qz (Below w.heap.size w wc))
 case first =>
  have H := HC2.out
  clear HC2
  by_cases c3 : (a0.size : Int) < 8
  ·rw [if_pos c3] at H
   have c3b0 : decide ((a0.size : Int) < 8) = true := decide_eq_true c3
   have c3b1 : decide (a0.size < 8) = true := decide_eq_true (by omega)
   clear c3
   (first | rw [c3b0] | (simp only [i64_w, i32_w]; rw [c3b0]) | skip)
   have H' := Qz.mk H
   clear H
   go_wp2
   go_meet
   case rel => exact ⟨_, (true), yq85, H', ⟨by first | omega | exact Nat.le_refl _⟩, ⟨by repeat (first | (with_reducible first | exact HB.out | apply qc | apply qa | apply qb) | exact HB.out)⟩⟩
  ·rw [if_neg c3] at H
   have c3b0 : decide ((a0.size : Int) < 8) = false := decide_eq_false c3
   have c3b1 : decide (a0.size < 8) = false := decide_eq_false (by omega)
   clear c3
   (first | rw [c3b0] | (simp only [i64_w, i32_w]; rw [c3b0]) | skip)
   have H' := Qz.mk H
   clear H
   go_wp2
   go_meet
   case rel => exact ⟨_, (decide ((a0.size : Int) > 60000)), yq85, H', ⟨by first | omega | exact Nat.le_refl _⟩, ⟨by repeat (first | (with_reducible first | exact HB.out | apply qc | apply qa | apply qb) | exact HB.out)⟩⟩
 case rest =>
  clear HC2
  try clear c2
  try clear p2
  try clear c3
  try clear c3b0
  try clear c3b1
  obtain ⟨kq, x24_1, rfl, HA, HJ1, HB⟩ := hcut
  cases kq with
  | zero => exact absurd HA.out (by simp [impl_ReadBlock.j0])
  | succ kj1 =>
   have H := HA.out
   clear HA
   simp only [impl_ReadBlock.j0] at H
   by_cases c4 : x24_1 = true
   ·subst c4
    have H1 : (some (([] : List (S64)), false)) = some (r1, r2) := by rw [if_pos rfl] at H; exact H
    clear H
    have H := H1
    clear H1
    simp only [Option.some.injEq, Prod.mk.injEq] at H
    obtain ⟨rfl, rfl⟩ := H
    go_wp2
    go_ret2
    exact ⟨_, by first | rfl | (simp [qn, qm] <;> rfl) | (simp [*, qn, qm] <;> rfl), by first | exact Kd.R_nil _ _ _ _ _ | exact Kd.N_nil _ _ _ _ _ | exact Kd.V_nil _ _ _ _ _ | exact Kd.Q_nil _ _ _ _ _ | exact Kd.S_nil _ _ _ _ _, by repeat (first | (with_reducible first | exact HB.out | apply qc | apply qa | apply qb) | exact HB.out)⟩
   ·replace c4 := Bool.eq_false_iff.mpr c4
    subst c4
    have H1 : (if 0 ≤ (wrap64 ((a0.size : Int) - 8)) then (if (wrap64 ((a0.size : Int) - 8)) ≤ (a0.size : Int) then ((impl_taker_fixed.f (a0.extract ((wrap64 ((a0.size : Int) - 8)) : Int).toNat a0.size) false).bind fun bt102 => ((impl_taker_fixed.f bt102.2.1 bt102.2.2).bind fun bt105 => (if (wrap64 ((wrap64 ((a0.size : Int) - 8)) - (wrap64 (4 * bt102.1)))) < 0 then (some (([] : List (S64)), false)) else (if 0 ≤ (wrap64 ((wrap64 ((a0.size : Int) - 8)) - (wrap64 (4 * bt102.1)))) then (if (wrap64 ((wrap64 ((a0.size : Int) - 8)) - (wrap64 (4 * bt102.1)))) ≤ (a0.size : Int) then (impl_ReadBlock.l0 kj1 a0 bt105.1 (([] : List (S64))) (⟨#[]⟩ : ByteArray) (a0.extract 0 ((wrap64 ((wrap64 ((a0.size : Int) - 8)) - (wrap64 (4 * bt102.1)))) : Int).toNat) false) else (none)) else (none))))) else (none)) else (none)) = some (r1, r2) := by rw [if_neg (show ¬ (false = true) by decide)] at H; exact H
    clear H
    have H := H1
    clear H1
    obtain ⟨ji5, hji5⟩ : ∃ j_ : Int, (wrap64 ((a0.size : Int) - 8)) = j_ := ⟨_, rfl⟩
    replace H : (if 0 ≤ (ji5) then (if (ji5) ≤ (a0.size : Int) then ((impl_taker_fixed.f (a0.extract ((ji5) : Int).toNat a0.size) false).bind fun bt102 => ((impl_taker_fixed.f bt102.2.1 bt102.2.2).bind fun bt105 => (if (wrap64 ((ji5) - (wrap64 (4 * bt102.1)))) < 0 then (some (([] : List (S64)), false)) else (if 0 ≤ (wrap64 ((ji5) - (wrap64 (4 * bt102.1)))) then (if (wrap64 ((ji5) - (wrap64 (4 * bt102.1)))) ≤ (a0.size : Int) then (impl_ReadBlock.l0 kj1 a0 bt105.1 (([] : List (S64))) (⟨#[]⟩ : ByteArray) (a0.extract 0 ((wrap64 ((ji5) - (wrap64 (4 * bt102.1)))) : Int).toNat) false) else (none)) else (none))))) else (none)) else (none)) = some (r1, r2) := by first | (rw [hji5] at H; exact H) | (simp only [hji5] at H ⊢; exact H)
    have hji5w : (IntKind.i64.wrap ((a0.size : Int) - 8)) = ji5 := (i64_w _).trans hji5
    by_cases c6 : 0 ≤ (ji5)
    ·rw [if_pos c6] at H
     have c6b0 := eq_true c6
     have c6b1 : decide (0 ≤ (ji5)) = true := decide_eq_true c6
     clear c6
     by_cases c7 : (ji5) ≤ (a0.size : Int)
     ·rw [if_pos c7] at H
      have c7b0 := eq_true c7
      have c7b1 : decide ((ji5) ≤ (a0.size : Int)) = true := decide_eq_true c7
      clear c7
      replace H := Option.bind_eq_some_iff.mp H
      obtain ⟨⟨t102, t103, t104⟩, A80, H⟩ := H
      replace H : ((impl_taker_fixed.f t103 t104).bind fun bt105 => (if (wrap64 ((ji5) - (wrap64 (4 * t102)))) < 0 then (some (([] : List (S64)), false)) else (if 0 ≤ (wrap64 ((ji5) - (wrap64 (4 * t102)))) then (if (wrap64 ((ji5) - (wrap64 (4 * t102)))) ≤ (a0.size : Int) then (impl_ReadBlock.l0 kj1 a0 bt105.1 (([] : List (S64))) (⟨#[]⟩ : ByteArray) (a0.extract 0 ((wrap64 ((ji5) - (wrap64 (4 * t102)))) : Int).toNat) false) else (none)) else (none)))) = some (r1, r2) := H
      have A8 := Qz.mk A80
      clear A80
      replace H := Option.bind_eq_some_iff.mp H
      obtain ⟨⟨t105, t106, t107⟩, A90, H⟩ := H
      replace H : (if (wrap64 ((ji5) - (wrap64 (4 * t102)))) < 0 then (some (([] : List (S64)), false)) else (if 0 ≤ (wrap64 ((ji5) - (wrap64 (4 * t102)))) then (if (wrap64 ((ji5) - (wrap64 (4 * t102)))) ≤ (a0.size : Int) then (impl_ReadBlock.l0 kj1 a0 t105 (([] : List (S64))) (⟨#[]⟩ : ByteArray) (a0.extract 0 ((wrap64 ((ji5) - (wrap64 (4 * t102)))) : Int).toNat) false) else (none)) else (none))) = some (r1, r2) := H
      have A9 := Qz.mk A90
      clear A90
      by_cases c10 : (wrap64 ((ji5) - (wrap64 (4 * t102)))) < 0
      ·rw [if_pos c10] at H
       have c10b0 : decide ((wrap64 ((ji5) - (wrap64 (4 * t102)))) < 0) = true := decide_eq_true c10
       clear c10
       simp only [Option.some.injEq, Prod.mk.injEq] at H
       obtain ⟨rfl, rfl⟩ := H
       go_wp2_with (first | ((with_reducible refine qb1 (N := 31) rfl ?_); (try (refine gate_guard (by rfl) ?_; dsimp only)); refine qz ?hg (N := 31) ?hd (cs := #[.string (a0.extract ((ji5) : Int).toNat a0.size), .bool false]) (t := 123) ?hr ?_; (case hd => rfl); (case hg => rfl); (case hr => exact yq86); intro gb101 hg w11 hbox hb; have HI101 := Qz.mk ((⟨hbox, (by rw [hg]; exact (qv yq82) : w.heap.size ≤ gb101)⟩ : IsS123 w w11 gb101 (a0.extract ((ji5) : Int).toNat a0.size) false)); replace HB := Qz.mk (ql yq82 hb); clear hb hbox hg) | ((with_reducible refine qj (f := 85) rfl ?_); refine qt (some 33) rfl rfl Try.func85 (by kernel_rfl) rfl #[.pointer (some ⟨gb101, 0, none⟩)] rfl yq81 ?_; (with_reducible refine (impl_taker_fixed.calls gb101 (a0.extract ((ji5) : Int).toNat a0.size) false t102 t103 t104 w _ ?side1 ?side2 A8.out).mono ?_); (case side1 => exact yq79); (case side2 => exact yq80); rintro e w12 ⟨rfl, hi, hb, hk⟩; refine ⟨_, rfl, ?_⟩; replace HB := Qz.mk (hb); replace HI101 := Qz.mk (hi); (try clear hb); (try clear hk); (try clear hi)) | ((with_reducible refine qj (f := 85) rfl ?_); refine qt (some 35) rfl rfl Try.func85 (by kernel_rfl) rfl #[.pointer (some ⟨gb101, 0, none⟩)] rfl yq81 ?_; (with_reducible refine (impl_taker_fixed.calls gb101 t103 t104 t105 t106 t107 w _ ?side1 ?side2 A9.out).mono ?_); (case side1 => exact yq79); (case side2 => exact yq80); rintro e w13 ⟨rfl, hi, hb, hk⟩; refine ⟨_, rfl, ?_⟩; replace HB := Qz.mk (hb); replace HI101 := Qz.mk (hi); (try clear hb); (try clear hk); (try clear hi)))
       go_ret2
       exact ⟨_, by first | rfl | (simp [qn, qm] <;> rfl) | (simp only [← hji5]; first | rfl | (simp [qn, qm] <;> rfl)) | (simp [*, qn, qm] <;> rfl), by first | exact Kd.R_nil _ _ _ _ _ | exact Kd.N_nil _ _ _ _ _ | exact Kd.V_nil _ _ _ _ _ | exact Kd.Q_nil _ _ _ _ _ | exact Kd.S_nil _ _ _ _ _, by repeat (first | (with_reducible first | exact HB.out | apply qc | apply qa | apply qb | refine qd ?_ (IsS123.ge HI101.out)) | exact HB.out)⟩
      ·rw [if_neg c10] at H
       have c10b0 : decide ((wrap64 ((ji5) - (wrap64 (4 * t102)))) < 0) = false := decide_eq_false c10
       clear c10
       obtain ⟨y108, hy108⟩ : ∃ y_ : List (S64), y_ = (([] : List (S64))) := ⟨_, rfl⟩
       replace H : (if 0 ≤ (wrap64 ((ji5) - (wrap64 (4 * t102)))) then (if (wrap64 ((ji5) - (wrap64 (4 * t102)))) ≤ (a0.size : Int) then (impl_ReadBlock.l0 kj1 a0 t105 y108 (⟨#[]⟩ : ByteArray) (a0.extract 0 ((wrap64 ((ji5) - (wrap64 (4 * t102)))) : Int).toNat) false) else (none)) else (none)) = some (r1, r2) := by first | (rw [hy108]; with_reducible exact H) | (have H2_ := (Option.bind_some _ _).symm.trans H; rw [hy108]; with_reducible exact H2_) | (have H2_ := (Option.bind_some _ _).symm.trans H; with_reducible exact H2_) | with_reducible exact H | (rw [hy108]; exact H) | exact H
       have Ny108 := Qz.mk hy108
       clear hy108
       obtain ⟨ji14, hji14⟩ : ∃ j_ : Int, (wrap64 ((ji5) - (wrap64 (4 * t102)))) = j_ := ⟨_, rfl⟩
       replace H : (if 0 ≤ (ji14) then (if (ji14) ≤ (a0.size : Int) then (impl_ReadBlock.l0 kj1 a0 t105 y108 (⟨#[]⟩ : ByteArray) (a0.extract 0 ((ji14) : Int).toNat) false) else (none)) else (none)) = some (r1, r2) := by first | (rw [hji14] at H; exact H) | (simp only [hji14] at H ⊢; exact H)
       (try rw [hji14] at c10b0)
       (try rw [hji14] at A8)
       (try rw [hji14] at A9)
       have hji14w : (IntKind.i64.wrap ((ji5) - (wrap64 (4 * t102)))) = ji14 := (i64_w _).trans hji14
       by_cases c15 : 0 ≤ (ji14)
       ·rw [if_pos c15] at H
        have c15b0 := eq_true c15
        have c15b1 : decide (0 ≤ (ji14)) = true := decide_eq_true c15
        clear c15
        by_cases c16 : (ji14) ≤ (a0.size : Int)
        ·rw [if_pos c16] at H
         have c16b0 := eq_true c16
         have c16b1 : decide ((ji14) ≤ (a0.size : Int)) = true := decide_eq_true c16
         clear c16
         have H' := Qz.mk H
         clear H
         go_wp2_with (first | ((with_reducible refine qb1 (N := 31) rfl ?_); (try (refine gate_guard (by rfl) ?_; dsimp only)); refine qz ?hg (N := 31) ?hd (cs := #[.string (a0.extract ((ji5) : Int).toNat a0.size), .bool false]) (t := 123) ?hr ?_; (case hd => rfl); (case hg => rfl); (case hr => exact yq86); intro gb101 hg w17 hbox hb; have HI101 := Qz.mk ((⟨hbox, (by rw [hg]; exact (qv yq82) : w.heap.size ≤ gb101)⟩ : IsS123 w w17 gb101 (a0.extract ((ji5) : Int).toNat a0.size) false)); replace HB := Qz.mk (ql yq82 hb); clear hb hbox hg) | ((with_reducible refine qj (f := 85) rfl ?_); refine qt (some 33) rfl rfl Try.func85 (by kernel_rfl) rfl #[.pointer (some ⟨gb101, 0, none⟩)] rfl yq81 ?_; (with_reducible refine (impl_taker_fixed.calls gb101 (a0.extract ((ji5) : Int).toNat a0.size) false t102 t103 t104 w _ ?side1 ?side2 A8.out).mono ?_); (case side1 => exact yq79); (case side2 => exact yq80); rintro e w18 ⟨rfl, hi, hb, hk⟩; refine ⟨_, rfl, ?_⟩; replace HB := Qz.mk (hb); replace HI101 := Qz.mk (hi); (try clear hb); (try clear hk); (try clear hi)) | ((with_reducible refine qj (f := 85) rfl ?_); refine qt (some 35) rfl rfl Try.func85 (by kernel_rfl) rfl #[.pointer (some ⟨gb101, 0, none⟩)] rfl yq81 ?_; (with_reducible refine (impl_taker_fixed.calls gb101 t103 t104 t105 t106 t107 w _ ?side1 ?side2 A9.out).mono ?_); (case side1 => exact yq79); (case side2 => exact yq80); rintro e w19 ⟨rfl, hi, hb, hk⟩; refine ⟨_, rfl, ?_⟩; replace HB := Qz.mk (hb); replace HI101 := Qz.mk (hi); (try clear hb); (try clear hk); (try clear hi)) | ((with_reducible refine qb1 (N := 44) rfl ?_); (try (refine gate_guard (by rfl) ?_; dsimp only)); refine Kd.R_lit k64 _ 64 ?hg (N := 44) ?hd (xs := ([] : List (S64))) (inner := []) (ok := fun _ => True) (okp := fun _ => True) ?hr ?hp (fun _ hk => hk) trivial (Below.refl _ _) (Nat.le_refl _) (by simp) ?_; (case hd => rfl); (case hg => rfl); (case hr => exact yq86); (case hp => exact (Reps.none _ _)); intro v109 w20 ho21 hb hg_ hnew_; clear hg_ hnew_; (first | rw [← Ny108.out] at ho21 | (simp only [Int.reduceToNat] at ho21; rw [← Ny108.out] at ho21)); have HO110 := Qz.mk (Kd.R_lower ho21 (qv yq80)); replace HB := Qz.mk (ql yq80 hb); replace HI101 := Qz.mk (IsS123.below yq79 hb); clear hb ho21) | ((with_reducible refine qb1 (N := 49) rfl ?_); (try (refine gate_guard (by rfl) ?_; dsimp only)); refine qz ?hg (N := 49) ?hd (cs := #[.string (a0.extract 0 ((ji14) : Int).toNat), .bool false]) (t := 123) ?hr ?_; (case hd => rfl); (case hg => rfl); (case hr => exact yq86); intro gb111 hg w22 hbox hb; replace HO110 := Qz.mk (Kd.R_below (by (with_reducible repeat (first | apply Kd.R_alloc | apply Kd.R_drewN | apply Kd.R_drew)); exact HO110.out) hb); have HI111 := Qz.mk ((⟨hbox, (by rw [hg]; exact (qv yq82) : w.heap.size ≤ gb111)⟩ : IsS123 w w22 gb111 (a0.extract 0 ((ji14) : Int).toNat) false)); replace HB := Qz.mk (ql yq82 hb); clear hb hbox hg))
         go_loopg [8, 9] kj1 (fun kq v8 v9 w' => ∃ (x8_2 : List (S64)) (x9_2 : ByteArray) (x112000_2 : ByteArray) (x112001_2 : Bool), v9 = .string x9_2 ∧ Qz (impl_ReadBlock.l0 kq a0 t105 x8_2 x9_2 x112000_2 x112001_2 = some (r1, r2)) ∧ Qz (kq ≤ kj1) ∧ Qz (Kd.R k64 64 w' w.heap.size (fun _ => True) v8 x8_2) ∧ Qz (IsS123 w w' gb111 x112000_2 x112001_2) ∧ Qz (Below w.heap.size w w'))
         case atStart => exact ⟨(y108), ((⟨#[]⟩ : ByteArray)), (a0.extract 0 ((ji14) : Int).toNat), (false), yq85, H', ⟨Nat.le_refl _⟩, ⟨by (with_reducible repeat (first | apply Kd.R_alloc | apply Kd.R_drewN | apply Kd.R_drew)); exact HO110.out⟩, ⟨by repeat (first | (with_reducible first | exact HI111.out | apply IsS123.alloc | apply IsS123.drewN | apply IsS123.drew | apply IsS123.set_0 | apply IsS123.set_1) | exact HI111.out)⟩, ⟨by repeat (first | (with_reducible first | exact HB.out | apply qc | apply qa | apply qb | refine qd ?_ (IsS123.ge HI111.out)) | exact HB.out)⟩⟩
         case round =>
          clear H'
          try clear c1
          try clear c2
          try clear p2
          try clear c3
          try clear c3b0
          try clear c3b1
          try clear c4
          try clear c6
          try clear c6b0
          try clear c6b1
          try clear p6
          try clear c7
          try clear c7b0
          try clear c7b1
          try clear c8
          try clear c10
          try clear c10b0
          try clear c15
          try clear c15b0
          try clear c15b1
          try clear c16
          try clear c16b0
          try clear c16b1
          try clear p2
          obtain ⟨x8_2, x9_2, x112000_2, x112001_2, rfl, HA, HK2, HO_8, HI111, HB⟩ := hrel
          cases gk with
          | zero => exact absurd HA.out (by simp [impl_ReadBlock.l0])
          | succ k2 =>
           have H := HA.out
           clear HA
           simp only [impl_ReadBlock.l0] at H
           by_cases c23 : x112000_2.toList = ([] : List UInt8)
           ·rw [if_pos c23] at H
            have c23b0 : (x112000_2.toList == ([] : List UInt8)) = true := beq_iff_eq.mpr c23
            have c23b1 : (x112000_2.toList != ([] : List UInt8)) = false := bne_eq_false_iff_eq.mpr c23
            clear c23
            replace H := Option.bind_eq_some_iff.mp H
            obtain ⟨⟨t112, t113⟩, A240, H⟩ := H
            replace H : (if t113 = true then (if t112.toList = a0.toList then (some (x8_2, true)) else (some (([] : List (S64)), false))) else (some (([] : List (S64)), false))) = some (r1, r2) := H
            have A24 := Qz.mk A240
            clear A240
            by_cases c25 : t113 = true
            ·subst c25
             have H1 : (if t112.toList = a0.toList then (some (x8_2, true)) else (some (([] : List (S64)), false))) = some (r1, r2) := by rw [if_pos rfl] at H; exact H
             clear H
             have H := H1
             clear H1
             by_cases c26 : t112.toList = a0.toList
             ·rw [if_pos c26] at H
              have c26b0 : (t112.toList == a0.toList) = true := beq_iff_eq.mpr c26
              have c26b1 : (t112.toList != a0.toList) = false := bne_eq_false_iff_eq.mpr c26
              clear c26
              simp only [Option.some.injEq, Prod.mk.injEq] at H
              obtain ⟨rfl, rfl⟩ := H
              obtain ⟨HGz27, hgz27⟩ := HI111.out
              have hcz27_0 := cellS123_0 HGz27
              have hcz27_1 := cellS123_1 HGz27
              have hfz27_0 := qe HGz27 0
              have hfz27_1 := qe HGz27 1
              clear HGz27 hgz27
              obtain ⟨Ao28, co28, eo28⟩ := Kd.R_slice HO_8.out
              subst eo28
              go_wp2_with (first | ((with_reducible refine qj (f := 18) rfl ?_); refine qt (some 97) rfl rfl Try.func18 (by kernel_rfl) rfl #[.slice Ao28 x8_2.length co28, .int .i64 t105] rfl yq83 ?_; (with_reducible refine (impl_BlockOf.calls k2 _ _ x8_2 t105 t112 true _ ?side1 ?side2 A24.out).mono ?_); (case side1 => exact yq84); (case side2 => exact (Kd.R_reads' HO_8.out).2.1); rintro e w29 ⟨rfl, hb⟩; refine ⟨_, rfl, ?_⟩; replace HO_8 := Qz.mk (Kd.R_below yq78 hb); replace HB := Qz.mk (ql yq77 hb); replace HI111 := Qz.mk (IsS123.below yq76 hb); (try clear hb); (try clear hk); (try clear hi)))
              go_ret2
              exact ⟨_, by first | rfl | (simp [qn, qm] <;> rfl) | (simp only [← hji5, ← hji14]; first | rfl | (simp [qn, qm] <;> rfl)) | (simp [*, qn, qm] <;> rfl), by (with_reducible repeat (first | apply Kd.R_alloc | apply Kd.R_drewN | apply Kd.R_drew)); exact HO_8.out, by repeat (first | (with_reducible first | exact HB.out | apply qc | apply qa | apply qb | refine qd ?_ (IsS123.ge HI111.out)) | exact HB.out)⟩
             ·rw [if_neg c26] at H
              have c26b0 : (t112.toList == a0.toList) = false := beq_eq_false_iff_ne.mpr c26
              have c26b1 : (t112.toList != a0.toList) = true := bne_iff_ne.mpr c26
              simp only [Option.some.injEq, Prod.mk.injEq] at H
              obtain ⟨rfl, rfl⟩ := H
              obtain ⟨HGz30, hgz30⟩ := HI111.out
              have hcz30_0 := cellS123_0 HGz30
              have hcz30_1 := cellS123_1 HGz30
              have hfz30_0 := qe HGz30 0
              have hfz30_1 := qe HGz30 1
              clear HGz30 hgz30
              obtain ⟨Ao31, co31, eo31⟩ := Kd.R_slice HO_8.out
              subst eo31
              go_wp2_with (first | ((with_reducible refine qj (f := 18) rfl ?_); refine qt (some 97) rfl rfl Try.func18 (by kernel_rfl) rfl #[.slice Ao31 x8_2.length co31, .int .i64 t105] rfl yq83 ?_; (with_reducible refine (impl_BlockOf.calls k2 _ _ x8_2 t105 t112 true _ ?side1 ?side2 A24.out).mono ?_); (case side1 => exact yq84); (case side2 => exact (Kd.R_reads' HO_8.out).2.1); rintro e w32 ⟨rfl, hb⟩; refine ⟨_, rfl, ?_⟩; replace HO_8 := Qz.mk (Kd.R_below yq78 hb); replace HB := Qz.mk (ql yq77 hb); replace HI111 := Qz.mk (IsS123.below yq76 hb); (try clear hb); (try clear hk); (try clear hi)))
              go_ret2
              exact ⟨_, by first | rfl | (simp [qn, qm] <;> rfl) | (simp only [← hji5, ← hji14]; first | rfl | (simp [qn, qm] <;> rfl)) | (simp [*, qn, qm] <;> rfl), by first | exact Kd.R_nil _ _ _ _ _ | exact Kd.N_nil _ _ _ _ _ | exact Kd.V_nil _ _ _ _ _ | exact Kd.Q_nil _ _ _ _ _ | exact Kd.S_nil _ _ _ _ _, by repeat (first | (with_reducible first | exact HB.out | apply qc | apply qa | apply qb | refine qd ?_ (IsS123.ge HI111.out)) | exact HB.out)⟩
            ·replace c25 := Bool.eq_false_iff.mpr c25
             subst c25
             have H1 : (some (([] : List (S64)), false)) = some (r1, r2) := by rw [if_neg (show ¬ (false = true) by decide)] at H; exact H
             clear H
             have H := H1
             clear H1
             simp only [Option.some.injEq, Prod.mk.injEq] at H
             obtain ⟨rfl, rfl⟩ := H
             obtain ⟨HGz33, hgz33⟩ := HI111.out
             have hcz33_0 := cellS123_0 HGz33
             have hcz33_1 := cellS123_1 HGz33
             have hfz33_0 := qe HGz33 0
             have hfz33_1 := qe HGz33 1
             clear HGz33 hgz33
             obtain ⟨Ao34, co34, eo34⟩ := Kd.R_slice HO_8.out
             subst eo34
             go_wp2_with (first | ((with_reducible refine qj (f := 18) rfl ?_); refine qt (some 97) rfl rfl Try.func18 (by kernel_rfl) rfl #[.slice Ao34 x8_2.length co34, .int .i64 t105] rfl yq83 ?_; (with_reducible refine (impl_BlockOf.calls k2 _ _ x8_2 t105 t112 false _ ?side1 ?side2 A24.out).mono ?_); (case side1 => exact yq84); (case side2 => exact (Kd.R_reads' HO_8.out).2.1); rintro e w35 ⟨rfl, hb⟩; refine ⟨_, rfl, ?_⟩; replace HO_8 := Qz.mk (Kd.R_below yq78 hb); replace HB := Qz.mk (ql yq77 hb); replace HI111 := Qz.mk (IsS123.below yq76 hb); (try clear hb); (try clear hk); (try clear hi)))
             go_ret2
             exact ⟨_, by first | rfl | (simp [qn, qm] <;> rfl) | (simp only [← hji5, ← hji14]; first | rfl | (simp [qn, qm] <;> rfl)) | (simp [*, qn, qm] <;> rfl), by first | exact Kd.R_nil _ _ _ _ _ | exact Kd.N_nil _ _ _ _ _ | exact Kd.V_nil _ _ _ _ _ | exact Kd.Q_nil _ _ _ _ _ | exact Kd.S_nil _ _ _ _ _, by repeat (first | (with_reducible first | exact HB.out | apply qc | apply qa | apply qb | refine qd ?_ (IsS123.ge HI111.out)) | exact HB.out)⟩
           ·rw [if_neg c23] at H
            have c23b0 : (x112000_2.toList == ([] : List UInt8)) = false := beq_eq_false_iff_ne.mpr c23
            have c23b1 : (x112000_2.toList != ([] : List UInt8)) = true := bne_iff_ne.mpr c23
            replace H := Option.bind_eq_some_iff.mp H
            obtain ⟨⟨t114, t115, t116⟩, A360, H⟩ := H
            replace H : ((impl_taker_text.f k2 t115 t116).bind fun bt117 => ((impl_taker_text.f k2 bt117.2.1 bt117.2.2).bind fun bt120 => (if bt120.2.2 = true then (impl_ReadBlock.j2 k2 a0 t105 x8_2 x9_2 t114 bt117.1 bt120.1 true bt120.2.1 bt120.2.2) else (if t114 > (x9_2.size : Int) then (impl_ReadBlock.j2 k2 a0 t105 x8_2 x9_2 t114 bt117.1 bt120.1 true bt120.2.1 bt120.2.2) else (impl_ReadBlock.j2 k2 a0 t105 x8_2 x9_2 t114 bt117.1 bt120.1 ((x8_2.length : Int) == 400) bt120.2.1 bt120.2.2))))) = some (r1, r2) := H
            have A36 := Qz.mk A360
            clear A360
            replace H := Option.bind_eq_some_iff.mp H
            obtain ⟨⟨t117, t118, t119⟩, A370, H⟩ := H
            replace H : ((impl_taker_text.f k2 t118 t119).bind fun bt120 => (if bt120.2.2 = true then (impl_ReadBlock.j2 k2 a0 t105 x8_2 x9_2 t114 t117 bt120.1 true bt120.2.1 bt120.2.2) else (if t114 > (x9_2.size : Int) then (impl_ReadBlock.j2 k2 a0 t105 x8_2 x9_2 t114 t117 bt120.1 true bt120.2.1 bt120.2.2) else (impl_ReadBlock.j2 k2 a0 t105 x8_2 x9_2 t114 t117 bt120.1 ((x8_2.length : Int) == 400) bt120.2.1 bt120.2.2)))) = some (r1, r2) := H
            have A37 := Qz.mk A370
            clear A370
            replace H := Option.bind_eq_some_iff.mp H
            obtain ⟨⟨t120, t121, t122⟩, A380, H⟩ := H
            replace H : (if t122 = true then (impl_ReadBlock.j2 k2 a0 t105 x8_2 x9_2 t114 t117 t120 true t121 t122) else (if t114 > (x9_2.size : Int) then (impl_ReadBlock.j2 k2 a0 t105 x8_2 x9_2 t114 t117 t120 true t121 t122) else (impl_ReadBlock.j2 k2 a0 t105 x8_2 x9_2 t114 t117 t120 ((x8_2.length : Int) == 400) t121 t122))) = some (r1, r2) := H
            have A38 := Qz.mk A380
            clear A380
            have HC39 := Qz.mk H
            clear H
            obtain ⟨HGz40, hgz40⟩ := HI111.out
            have hcz40_0 := cellS123_0 HGz40
            have hcz40_1 := cellS123_1 HGz40
            have hfz40_0 := qe HGz40 0
            have hfz40_1 := qe HGz40 1
            clear HGz40 hgz40
            go_upto_region 12 with (first | ((with_reducible refine qj (f := 86) rfl ?_); refine qt (some 56) rfl rfl Try.func86 (by kernel_rfl) rfl #[.pointer (some ⟨gb111, 0, none⟩)] rfl yq81 ?_; (with_reducible refine (impl_taker_number.calls k2 gb111 x112000_2 x112001_2 t114 t115 t116 w _ ?side1 ?side2 A36.out).mono ?_); (case side1 => exact yq76); (case side2 => exact yq77); rintro e w41 ⟨rfl, hi, hb, hk⟩; refine ⟨_, rfl, ?_⟩; replace HO_8 := Qz.mk (Kd.R_mono (Kd.R_keep (IsS123.apart (show IsS123 w _ gb111 x112000_2 x112001_2 from by repeat (first | (with_reducible first | exact HI111.out | apply IsS123.alloc | apply IsS123.drewN | apply IsS123.drew | apply IsS123.set_0 | apply IsS123.set_1) | exact HI111.out)) yq78 (by decide)) hk (fun _ h => h.2)) (fun _ h => h.1)); replace HB := Qz.mk (hb); replace HI111 := Qz.mk (hi); (try clear hb); (try clear hk); (try clear hi)) | ((with_reducible refine qj (f := 87) rfl ?_); refine qt (some 58) rfl rfl Try.func87 (by kernel_rfl) rfl #[.pointer (some ⟨gb111, 0, none⟩)] rfl yq81 ?_; (with_reducible refine (impl_taker_text.calls k2 gb111 t115 t116 t117 t118 t119 w _ ?side1 ?side2 A37.out).mono ?_); (case side1 => exact yq76); (case side2 => exact yq77); rintro e w42 ⟨rfl, hi, hb, hk⟩; refine ⟨_, rfl, ?_⟩; replace HO_8 := Qz.mk (Kd.R_mono (Kd.R_keep (IsS123.apart (show IsS123 w _ gb111 t115 t116 from by repeat (first | (with_reducible first | exact HI111.out | apply IsS123.alloc | apply IsS123.drewN | apply IsS123.drew | apply IsS123.set_0 | apply IsS123.set_1) | exact HI111.out)) yq78 (by decide)) hk (fun _ h => h.2)) (fun _ h => h.1)); replace HB := Qz.mk (hb); replace HI111 := Qz.mk (hi); (try clear hb); (try clear hk); (try clear hi)) | ((with_reducible refine qj (f := 87) rfl ?_); refine qt (some 60) rfl rfl Try.func87 (by kernel_rfl) rfl #[.pointer (some ⟨gb111, 0, none⟩)] rfl yq81 ?_; (with_reducible refine (impl_taker_text.calls k2 gb111 t118 t119 t120 t121 t122 w _ ?side1 ?side2 A38.out).mono ?_); (case side1 => exact yq76); (case side2 => exact yq77); rintro e w43 ⟨rfl, hi, hb, hk⟩; refine ⟨_, rfl, ?_⟩; replace HO_8 := Qz.mk (Kd.R_mono (Kd.R_keep (IsS123.apart (show IsS123 w _ gb111 t118 t119 from by repeat (first | (with_reducible first | exact HI111.out | apply IsS123.alloc | apply IsS123.drewN | apply IsS123.drew | apply IsS123.set_0 | apply IsS123.set_1) | exact HI111.out)) yq78 (by decide)) hk (fun _ h => h.2)) (fun _ h => h.1)); replace HB := Qz.mk (hb); replace HI111 := Qz.mk (hi); (try clear hb); (try clear hk); (try clear hi)))
            (try simp only [Act.put, sq1, sq2, sq3])
            go_cut [75] (fun v75 wc => ∃ (kq : Nat) (x75_38 : Bool), v75 = .bool x75_38 ∧ Qz (impl_ReadBlock.j2 kq a0 t105 x8_2 x9_2 t114 t117 t120 x75_38 t121 t122 = some (r1, r2)) ∧ Qz (kq ≤ k2) ∧ Qz (Kd.R k64 64 wc w.heap.size (fun _ => True) u8 x8_2) ∧ Qz (IsS123 w wc gb111 t121 t122) ∧ Qz (Below w.heap.size w wc))
            case first =>
             have H := HC39.out
             clear HC39
             by_cases c44 : t122 = true
             ·subst c44
              have H1 : (impl_ReadBlock.j2 k2 a0 t105 x8_2 x9_2 t114 t117 t120 true t121 true) = some (r1, r2) := by rw [if_pos rfl] at H; exact H
              clear H
              have H := H1
              clear H1
              have H' := Qz.mk H
              clear H
              obtain ⟨HGz45, hgz45⟩ := HI111.out
              have hcz45_0 := cellS123_0 HGz45
              have hcz45_1 := cellS123_1 HGz45
              have hfz45_0 := qe HGz45 0
              have hfz45_1 := qe HGz45 1
              clear HGz45 hgz45
              go_wp2
              go_meet
              case rel => exact ⟨_, (true), yq85, H', ⟨by have := HJ1.out; have := HK2.out; first | omega | exact Nat.le_refl _⟩, ⟨by (with_reducible repeat (first | apply Kd.R_alloc | apply Kd.R_drewN | apply Kd.R_drew)); exact HO_8.out⟩, ⟨by repeat (first | (with_reducible first | exact HI111.out | apply IsS123.alloc | apply IsS123.drewN | apply IsS123.drew | apply IsS123.set_0 | apply IsS123.set_1) | exact HI111.out)⟩, ⟨by repeat (first | (with_reducible first | exact HB.out | apply qc | apply qa | apply qb | refine qd ?_ (IsS123.ge HI111.out)) | exact HB.out)⟩⟩
             ·replace c44 := Bool.eq_false_iff.mpr c44
              subst c44
              have H1 : (if t114 > (x9_2.size : Int) then (impl_ReadBlock.j2 k2 a0 t105 x8_2 x9_2 t114 t117 t120 true t121 false) else (impl_ReadBlock.j2 k2 a0 t105 x8_2 x9_2 t114 t117 t120 ((x8_2.length : Int) == 400) t121 false)) = some (r1, r2) := by rw [if_neg (show ¬ (false = true) by decide)] at H; exact H
              clear H
              have H := H1
              clear H1
              by_cases c46 : t114 > (x9_2.size : Int)
              ·rw [if_pos c46] at H
               have c46b0 : decide ((x9_2.size : Int) < t114) = true := decide_eq_true c46
               clear c46
               (first | rw [c46b0] | (simp only [i64_w, i32_w]; rw [c46b0]) | skip)
               have H' := Qz.mk H
               clear H
               obtain ⟨HGz47, hgz47⟩ := HI111.out
               have hcz47_0 := cellS123_0 HGz47
               have hcz47_1 := cellS123_1 HGz47
               have hfz47_0 := qe HGz47 0
               have hfz47_1 := qe HGz47 1
               clear HGz47 hgz47
               go_wp2
               go_meet
               case rel => exact ⟨_, (true), yq85, H', ⟨by have := HJ1.out; have := HK2.out; first | omega | exact Nat.le_refl _⟩, ⟨by (with_reducible repeat (first | apply Kd.R_alloc | apply Kd.R_drewN | apply Kd.R_drew)); exact HO_8.out⟩, ⟨by repeat (first | (with_reducible first | exact HI111.out | apply IsS123.alloc | apply IsS123.drewN | apply IsS123.drew | apply IsS123.set_0 | apply IsS123.set_1) | exact HI111.out)⟩, ⟨by repeat (first | (with_reducible first | exact HB.out | apply qc | apply qa | apply qb | refine qd ?_ (IsS123.ge HI111.out)) | exact HB.out)⟩⟩
              ·rw [if_neg c46] at H
               have c46b0 : decide ((x9_2.size : Int) < t114) = false := decide_eq_false c46
               clear c46
               (first | rw [c46b0] | (simp only [i64_w, i32_w]; rw [c46b0]) | skip)
               have H' := Qz.mk H
               clear H
               obtain ⟨HGz48, hgz48⟩ := HI111.out
               have hcz48_0 := cellS123_0 HGz48
               have hcz48_1 := cellS123_1 HGz48
               have hfz48_0 := qe HGz48 0
               have hfz48_1 := qe HGz48 1
               clear HGz48 hgz48
               obtain ⟨Ao49, co49, eo49⟩ := Kd.R_slice HO_8.out
               subst eo49
               go_wp2
               go_meet
               case rel => exact ⟨_, (((x8_2.length : Int) == 400)), yq85, H', ⟨by have := HJ1.out; have := HK2.out; first | omega | exact Nat.le_refl _⟩, ⟨by (with_reducible repeat (first | apply Kd.R_alloc | apply Kd.R_drewN | apply Kd.R_drew)); exact HO_8.out⟩, ⟨by repeat (first | (with_reducible first | exact HI111.out | apply IsS123.alloc | apply IsS123.drewN | apply IsS123.drew | apply IsS123.set_0 | apply IsS123.set_1) | exact HI111.out)⟩, ⟨by repeat (first | (with_reducible first | exact HB.out | apply qc | apply qa | apply qb | refine qd ?_ (IsS123.ge HI111.out)) | exact HB.out)⟩⟩
            case rest =>
             clear HC39
             try clear c1
             try clear c2
             try clear p2
             try clear c3
             try clear c3b0
             try clear c3b1
             try clear c4
             try clear c6
             try clear c6b0
             try clear c6b1
             try clear p6
             try clear c7
             try clear c7b0
             try clear c7b1
             try clear c8
             try clear c10
             try clear c10b0
             try clear c15
             try clear c15b0
             try clear c15b1
             try clear c16
             try clear c16b0
             try clear c16b1
             try clear c18
             try clear c23
             try clear c23b0
             try clear c23b1
             try clear c25
             try clear c26
             try clear c26b0
             try clear c26b1
             try clear c44
             try clear c46
             try clear c46b0
             try clear hcz27_0
             try clear hcz27_1
             try clear hcz30_0
             try clear hcz30_1
             try clear hcz33_0
             try clear hcz33_1
             try clear hcz40_0
             try clear hcz40_1
             try clear hcz45_0
             try clear hcz45_1
             try clear hcz47_0
             try clear hcz47_1
             try clear hcz48_0
             try clear hcz48_1
             try clear hfz27_0
             try clear hfz27_1
             try clear hfz30_0
             try clear hfz30_1
             try clear hfz33_0
             try clear hfz33_1
             try clear hfz40_0
             try clear hfz40_1
             try clear hfz45_0
             try clear hfz45_1
             try clear hfz47_0
             try clear hfz47_1
             try clear hfz48_0
             try clear hfz48_1
             try clear p2
             try clear p6
             obtain ⟨kq, x75_38, rfl, HA, HJ38, HO_8, HI111, HB⟩ := hcut
             cases kq with
             | zero => exact absurd HA.out (by simp [impl_ReadBlock.j2])
             | succ kj38 =>
              have H := HA.out
              clear HA
              simp only [impl_ReadBlock.j2] at H
              by_cases c50 : x75_38 = true
              ·subst c50
               have H1 : (some (([] : List (S64)), false)) = some (r1, r2) := by rw [if_pos rfl] at H; exact H
               clear H
               have H := H1
               clear H1
               simp only [Option.some.injEq, Prod.mk.injEq] at H
               obtain ⟨rfl, rfl⟩ := H
               go_wp2
               go_ret2
               exact ⟨_, by first | rfl | (simp [qn, qm] <;> rfl) | (simp only [← hji5, ← hji14]; first | rfl | (simp [qn, qm] <;> rfl)) | (simp [*, qn, qm] <;> rfl), by first | exact Kd.R_nil _ _ _ _ _ | exact Kd.N_nil _ _ _ _ _ | exact Kd.V_nil _ _ _ _ _ | exact Kd.Q_nil _ _ _ _ _ | exact Kd.S_nil _ _ _ _ _, by repeat (first | (with_reducible first | exact HB.out | apply qc | apply qa | apply qb | refine qd ?_ (IsS123.ge HI111.out)) | exact HB.out)⟩
              ·replace c50 := Bool.eq_false_iff.mpr c50
               subst c50
               have H1 : (if 0 ≤ t114 then (if t114 ≤ (x9_2.size : Int) then (if (t114 : Int).toNat + t117.size ≤ 9223372036854775807 then ((impl_ReadKey.f ((x9_2.extract 0 (t114 : Int).toNat) ++ t117)).bind fun bt123 => (if bt123.2.2.2 = true then (if x8_2.length < 2932031007402 then (impl_ReadBlock.l0 kj38 a0 t105 (x8_2 ++ [(⟨(⟨bt123.1, bt123.2.1, bt123.2.2.1⟩ : S35), t120⟩ : S64)]) ((x9_2.extract 0 (t114 : Int).toNat) ++ t117) t121 t122) else (none)) else (some (([] : List (S64)), false)))) else (none)) else (none)) else (none)) = some (r1, r2) := by rw [if_neg (show ¬ (false = true) by decide)] at H; exact H
               clear H
               have H := H1
               clear H1
               by_cases c51 : 0 ≤ t114
               ·rw [if_pos c51] at H
                have c51b0 := eq_true c51
                have c51b1 : decide (0 ≤ t114) = true := decide_eq_true c51
                clear c51
                by_cases c52 : t114 ≤ (x9_2.size : Int)
                ·rw [if_pos c52] at H
                 have c52b0 := eq_true c52
                 have c52b1 : decide (t114 ≤ (x9_2.size : Int)) = true := decide_eq_true c52
                 clear c52
                 by_cases c53 : (t114 : Int).toNat + t117.size ≤ 9223372036854775807
                 ·rw [if_pos c53] at H
                  have c53b0 := eq_true c53
                  have c53b1 : decide ((t114 : Int).toNat + t117.size ≤ 9223372036854775807) = true := decide_eq_true c53
                  try have c53b2 : (9223372036854775807 < (t114 : Int).toNat + t117.size) = False := eq_false (Nat.not_lt.2 c53)
                  replace H := Option.bind_eq_some_iff.mp H
                  obtain ⟨⟨t123, t124, t125, t126⟩, A540, H⟩ := H
                  replace H : (if t126 = true then (if x8_2.length < 2932031007402 then (impl_ReadBlock.l0 kj38 a0 t105 (x8_2 ++ [(⟨(⟨t123, t124, t125⟩ : S35), t120⟩ : S64)]) ((x9_2.extract 0 (t114 : Int).toNat) ++ t117) t121 t122) else (none)) else (some (([] : List (S64)), false))) = some (r1, r2) := H
                  have A54 := Qz.mk A540
                  clear A540
                  by_cases c55 : t126 = true
                  ·subst c55
                   have H1 : (if x8_2.length < 2932031007402 then (impl_ReadBlock.l0 kj38 a0 t105 (x8_2 ++ [(⟨(⟨t123, t124, t125⟩ : S35), t120⟩ : S64)]) ((x9_2.extract 0 (t114 : Int).toNat) ++ t117) t121 t122) else (none)) = some (r1, r2) := by rw [if_pos rfl] at H; exact H
                   clear H
                   have H := H1
                   clear H1
                   by_cases c56 : x8_2.length < 2932031007402
                   ·rw [if_pos c56] at H
                    have LMc56 := Qz.mk c56
                    clear c56
                    obtain ⟨y128, hy128⟩ : ∃ y_ : List (S64), y_ = (x8_2 ++ [(⟨(⟨t123, t124, t125⟩ : S35), t120⟩ : S64)]) := ⟨_, rfl⟩
                    replace H : (impl_ReadBlock.l0 kj38 a0 t105 y128 ((x9_2.extract 0 (t114 : Int).toNat) ++ t117) t121 t122) = some (r1, r2) := by first | (rw [hy128]; with_reducible exact H) | (have H2_ := (Option.bind_some _ _).symm.trans H; rw [hy128]; with_reducible exact H2_) | (have H2_ := (Option.bind_some _ _).symm.trans H; with_reducible exact H2_) | with_reducible exact H | (rw [hy128]; exact H) | exact H
                    have Ny128 := Qz.mk hy128
                    clear hy128
                    have H' := Qz.mk H
                    clear H
                    go_wp2_with (first | ((with_reducible refine qj (f := 88) rfl ?_); refine qt (some 83) rfl rfl Try.func88 (by kernel_rfl) rfl #[.string ((x9_2.extract 0 (t114 : Int).toNat) ++ t117)] rfl yq81 ?_; (with_reducible refine (impl_ReadKey.calls ((x9_2.extract 0 (t114 : Int).toNat) ++ t117) t123 t124 t125 true _ A54.out).mono ?_); rintro e w57 ⟨rfl, hb⟩; refine ⟨_, rfl, ?_⟩; replace HO_8 := Qz.mk (Kd.R_below yq78 hb); replace HB := Qz.mk (ql yq77 hb); replace HI111 := Qz.mk (IsS123.below yq76 hb); (try clear hb); (try clear hk); (try clear hi)) | ((with_reducible refine qb1 (N := 13) rfl ?_); (try (refine gate_guard (by rfl) ?_; dsimp only)); refine qz ?hg (N := 13) ?hd (cs := #[.string (⟨#[]⟩ : ByteArray), .int .i64 0, .int .i64 0]) (t := 35) ?hr ?_; (case hd => rfl); (case hg => rfl); (case hr => exact yq86); intro gb127 hg w58 hbox hb; replace HO_8 := Qz.mk (Kd.R_below yq78 hb); have BK127 := Qz.mk (hbox); have GW127 := Qz.mk ((by rw [hg]; exact (qv yq77) : w.heap.size ≤ gb127)); have GE127 := GW127; replace HB := Qz.mk (ql yq77 hb); have NB111_127 := Qz.mk ((by rw [hg]; exact Nat.ne_of_lt (IsS123.lt (show IsS123 w _ gb111 t121 t122 from by repeat (first | (with_reducible first | exact HI111.out | apply IsS123.alloc | apply IsS123.drewN | apply IsS123.drew | apply IsS123.set_0 | apply IsS123.set_1) | exact HI111.out))) : gb111 ≠ gb127)); have NB127_111 := Qz.mk ((by rw [hg]; exact Nat.ne_of_gt (IsS123.lt (show IsS123 w _ gb111 t121 t122 from by repeat (first | (with_reducible first | exact HI111.out | apply IsS123.alloc | apply IsS123.drewN | apply IsS123.drew | apply IsS123.set_0 | apply IsS123.set_1) | exact HI111.out))) : gb127 ≠ gb111)); replace HI111 := Qz.mk (IsS123.below yq76 hb); clear hb hbox hg; have hnb59 := NB127_111.out; have hnc59 := NB111_127.out; have hcz60_0 : w58.cell? ⟨gb127, 0, none⟩ = some (.string (⟨#[]⟩ : ByteArray)) := (qf BK127.out 0).trans rfl; have hcz60_1 : w58.cell? ⟨gb127, 1, none⟩ = some (.int .i64 0) := (qf BK127.out 1).trans rfl; have hcz60_2 : w58.cell? ⟨gb127, 2, none⟩ = some (.int .i64 0) := (qf BK127.out 2).trans rfl; have hfz60_0 := qe BK127.out 0; have hfz60_1 := qe BK127.out 1; have hfz60_2 := qe BK127.out 2) | ((with_reducible refine gate_builtin (b := .append) (xs := #[.tmp 88, .tmp 92]) rfl ?_); (try (refine gate_guard (by rfl) ?_; dsimp only)); at_builtin; refine Kd.R_append k64 (w0 := w) w.heap.size rfl (.tmp 88) (.tmp 92) 26 64 (.agg #[(.string ⟨#[]⟩), (.int .i64 0), (.int .i64 0), (.string ⟨#[]⟩)]) 48 rfl Try.underlying26 info64 rfl (by decide) (by omega) u8 x8_2 (⟨(⟨t123, t124, t125⟩ : S35), t120⟩ : S64) [.string t123, .int .i64 t124, .int .i64 t125, .string t120] (fun _ => True) (fun _ => False) rfl yq86 ?aP (fun _ hk => hk.elim) ?aF ?aO ?aB ?aS ?aL ?_; (case aP => exact k64_mkM _ _ _ (⟨(⟨t123, t124, t125⟩ : S35), t120⟩ : S64)); (case aB => exact (by repeat (first | (with_reducible first | exact HB.out | apply qc | apply qa | apply qb | refine qd ?_ (IsS123.ge HI111.out) | refine qd ?_ GE127.out) | exact HB.out))); (case aF => exact (fun _ _ => trivial)); (case aO => exact (by (with_reducible repeat (first | apply Kd.R_alloc | apply Kd.R_drewN | apply Kd.R_drew)); exact Kd.R_mono (Kd.R_far (p := ⟨gb127, 2, none⟩) (Kd.R_far (p := ⟨gb127, 1, none⟩) (Kd.R_far (p := ⟨gb127, 0, none⟩) (Kd.R_types HO_8.out BK127.out (by decide)) (fun _ hk => hk.2) (.string t123)) (fun _ hk => hk.2) (.int .i64 t124)) (fun _ hk => hk.2) (.int .i64 t125)) (fun _ hk => trivial))); (case aS => exact (qv (by repeat (first | (with_reducible first | exact HB.out | apply qc | apply qa | apply qb | refine qd ?_ (IsS123.ge HI111.out) | refine qd ?_ GE127.out) | exact HB.out)))); (case aL => have := LMc56.out; omega); intro v129 w61 ho hb hg hat; rw [← Ny128.out] at ho; have n0_ := Qz.mk (IsS123.grown (by repeat (first | (with_reducible first | exact HI111.out | apply IsS123.alloc | apply IsS123.drewN | apply IsS123.drew | apply IsS123.set_0 | apply IsS123.set_1 | apply (fun h_ => IsS123.far h_ NB111_127.out _)) | exact HI111.out)) hg (IsS123.own_ne HI111.out HO_8.out (by decide))); have n1_ := Qz.mk (blk_grown (g := gb127) (o := .cells #[.string t123, .int .i64 t124, .int .i64 t125] 35 (0, 0)) (by (with_reducible repeat (first | refine qg ?_ _ | refine qi ?_ | refine qh ?_ _)); refine qw (cs := #[.string t123, .int .i64 t124, .int .i64 0]) ?_ 2 _ rfl; (with_reducible repeat (first | refine qg ?_ _ | refine qi ?_ | refine qh ?_ _)); refine qw (cs := #[.string t123, .int .i64 0, .int .i64 0]) ?_ 1 _ rfl; (with_reducible repeat (first | refine qg ?_ _ | refine qi ?_ | refine qh ?_ _)); refine qw (cs := #[.string (⟨#[]⟩ : ByteArray), .int .i64 0, .int .i64 0]) ?_ 0 _ rfl; (with_reducible repeat (first | refine qg ?_ _ | refine qi ?_ | refine qh ?_ _)); exact BK127.out) hg (Kd.R_ne HO_8.out BK127.out (by decide))); have n2_ := Qz.mk (hb); have n3_ := Qz.mk (ho); clear HI111; clear BK127; clear HB; clear HO_8; have HI111 := n0_; have BK127 := n1_; have HB := n2_; have HO130 := n3_; clear n0_ n1_ n2_ n3_; clear ho hb hg hat))
                    go_roundg kj38
                    case measure => have := HJ1.out; have := HK2.out; have := HJ38.out; omega
                    case rel => exact ⟨(y128), ((x9_2.extract 0 (t114 : Int).toNat) ++ t117), (t121), (t122), yq85, H', ⟨by have := HJ1.out; have := HK2.out; have := HJ38.out; omega⟩, ⟨by (with_reducible repeat (first | apply Kd.R_alloc | apply Kd.R_drewN | apply Kd.R_drew)); exact HO130.out⟩, ⟨by repeat (first | (with_reducible first | exact HI111.out | apply IsS123.alloc | apply IsS123.drewN | apply IsS123.drew | apply IsS123.set_0 | apply IsS123.set_1 | apply (fun h_ => IsS123.far h_ NB111_127.out _)) | exact HI111.out)⟩, ⟨by repeat (first | (with_reducible first | exact HB.out | apply qc | apply qa | apply qb | refine qd ?_ (IsS123.ge HI111.out) | refine qd ?_ GE127.out) | exact HB.out)⟩⟩
                   ·rw [if_neg c56] at H
                    exact absurd H (by simp)
                  ·replace c55 := Bool.eq_false_iff.mpr c55
                   subst c55
                   have H1 : (some (([] : List (S64)), false)) = some (r1, r2) := by rw [if_neg (show ¬ (false = true) by decide)] at H; exact H
                   clear H
                   have H := H1
                   clear H1
                   simp only [Option.some.injEq, Prod.mk.injEq] at H
                   obtain ⟨rfl, rfl⟩ := H
                   go_wp2_with (first | ((with_reducible refine qj (f := 88) rfl ?_); refine qt (some 83) rfl rfl Try.func88 (by kernel_rfl) rfl #[.string ((x9_2.extract 0 (t114 : Int).toNat) ++ t117)] rfl yq81 ?_; (with_reducible refine (impl_ReadKey.calls ((x9_2.extract 0 (t114 : Int).toNat) ++ t117) t123 t124 t125 false _ A54.out).mono ?_); rintro e w62 ⟨rfl, hb⟩; refine ⟨_, rfl, ?_⟩; replace HO_8 := Qz.mk (Kd.R_below yq78 hb); replace HB := Qz.mk (ql yq77 hb); replace HI111 := Qz.mk (IsS123.below yq76 hb); (try clear hb); (try clear hk); (try clear hi)) | ((with_reducible refine qb1 (N := 13) rfl ?_); (try (refine gate_guard (by rfl) ?_; dsimp only)); refine qz ?hg (N := 13) ?hd (cs := #[.string (⟨#[]⟩ : ByteArray), .int .i64 0, .int .i64 0]) (t := 35) ?hr ?_; (case hd => rfl); (case hg => rfl); (case hr => exact yq86); intro gb127 hg w63 hbox hb; replace HO_8 := Qz.mk (Kd.R_below yq78 hb); have BK127 := Qz.mk (hbox); have GW127 := Qz.mk ((by rw [hg]; exact (qv yq77) : w.heap.size ≤ gb127)); have GE127 := GW127; replace HB := Qz.mk (ql yq77 hb); have NB111_127 := Qz.mk ((by rw [hg]; exact Nat.ne_of_lt (IsS123.lt (show IsS123 w _ gb111 t121 t122 from by repeat (first | (with_reducible first | exact HI111.out | apply IsS123.alloc | apply IsS123.drewN | apply IsS123.drew | apply IsS123.set_0 | apply IsS123.set_1) | exact HI111.out))) : gb111 ≠ gb127)); have NB127_111 := Qz.mk ((by rw [hg]; exact Nat.ne_of_gt (IsS123.lt (show IsS123 w _ gb111 t121 t122 from by repeat (first | (with_reducible first | exact HI111.out | apply IsS123.alloc | apply IsS123.drewN | apply IsS123.drew | apply IsS123.set_0 | apply IsS123.set_1) | exact HI111.out))) : gb127 ≠ gb111)); replace HI111 := Qz.mk (IsS123.below yq76 hb); clear hb hbox hg; have hnb64 := NB127_111.out; have hnc64 := NB111_127.out; have hcz65_0 : w63.cell? ⟨gb127, 0, none⟩ = some (.string (⟨#[]⟩ : ByteArray)) := (qf BK127.out 0).trans rfl; have hcz65_1 : w63.cell? ⟨gb127, 1, none⟩ = some (.int .i64 0) := (qf BK127.out 1).trans rfl; have hcz65_2 : w63.cell? ⟨gb127, 2, none⟩ = some (.int .i64 0) := (qf BK127.out 2).trans rfl; have hfz65_0 := qe BK127.out 0; have hfz65_1 := qe BK127.out 1; have hfz65_2 := qe BK127.out 2))
                   go_ret2
                   exact ⟨_, by first | rfl | (simp [qn, qm] <;> rfl) | (simp only [← hji5, ← hji14]; first | rfl | (simp [qn, qm] <;> rfl)) | (simp [*, qn, qm] <;> rfl), by first | exact Kd.R_nil _ _ _ _ _ | exact Kd.N_nil _ _ _ _ _ | exact Kd.V_nil _ _ _ _ _ | exact Kd.Q_nil _ _ _ _ _ | exact Kd.S_nil _ _ _ _ _, by repeat (first | (with_reducible first | exact HB.out | apply qc | apply qa | apply qb | refine qd ?_ (IsS123.ge HI111.out) | refine qd ?_ GE127.out) | exact HB.out)⟩
                 ·rw [if_neg c53] at H
                  exact absurd H (by simp)
                ·rw [if_neg c52] at H
                 exact absurd H (by simp)
               ·rw [if_neg c51] at H
                exact absurd H (by simp)
        ·rw [if_neg c16] at H
         exact absurd H (by simp)
       ·rw [if_neg c15] at H
        exact absurd H (by simp)
     ·rw [if_neg c7] at H
      exact absurd H (by simp)
    ·rw [if_neg c6] at H
     exact absurd H (by simp)
theorem yq87 {P : Prop} (h : P := by (with_reducible repeat (first | refine qg ?_ _ | refine qi ?_ | refine qh ?_ _)); exact BK101.out) : P := h
def impl_cmpEntries.f (k : Nat) (a0_0 : ByteArray) (a0_1 : Int) (a0_2 : Int) (a0_3 : ByteArray) (a1_0 : ByteArray) (a1_1 : Int) (a1_2 : Int) (a1_3 : ByteArray) : Option (Int) := (impl_cmpKeys.f k a0_0 a0_1 a0_2 a1_0 a1_1 a1_2).bind fun t103 => (some t103)
set_option maxHeartbeats 8000000 in
set_option maxRecDepth 100000 in
theorem impl_cmpEntries.calls (k : Nat) (a0_0 : ByteArray) (a0_1 : Int) (a0_2 : Int) (a0_3 : ByteArray) (a1_0 : ByteArray) (a1_1 : Int) (a1_2 : Int) (a1_3 : ByteArray) (r : Int) (w : World) (h : impl_cmpEntries.f k a0_0 a0_1 a0_2 a0_3 a1_0 a1_1 a1_2 a1_3 = some r) :
  Calls Try.prog 97 #[.agg #[.string a0_0, .int .i64 a0_1, .int .i64 a0_2, .string a0_3], .agg #[.string a1_0, .int .i64 a1_1, .int .i64 a1_2, .string a1_3]] w fun e w' => e = .returned (.int .i64 r) ∧ Below w.heap.size w w' := by
 have hu64 := Try.underlying64
 have hu35 := Try.underlying35
 have HB := Qz.mk (Below.refl w.heap.size w)
 have H : ((impl_cmpKeys.f k a0_0 a0_1 a0_2 a1_0 a1_1 a1_2).bind fun t103 => (some t103)) = some r := h
 clear h
 replace H := Option.bind_eq_some_iff.mp H
 obtain ⟨t103, A30, H⟩ := H
 replace H : (some t103) = some r := H
 have A3 := Qz.mk A30
 clear A30
 obtain rfl := Option.some.inj H
 go_enter Try.func97, Try.ntmps97
 go_wp2_with (first | ((with_reducible refine qb1 (N := 2) rfl ?_); refine qz ?hg (N := 2) ?hd (cs := #[.string a0_0, .int .i64 a0_1, .int .i64 a0_2, .string a0_3]) (t := 64) ?hr ?_; (case hd => rfl); (case hg => rfl); (case hr => first | (go_simp; done) | (go_simp; rfl)); intro gb101 hg w4 hbox hb; have BK101 := Qz.mk (hbox); have GW101 := Qz.mk ((by rw [hg]; exact (qv (by repeat (first | (with_reducible first | exact HB.out | apply qc | apply qa | apply qb) | exact HB.out))) : w.heap.size ≤ gb101)); have GE101 := GW101; replace HB := Qz.mk (ql (by repeat (first | (with_reducible first | exact HB.out | apply qc | apply qa | apply qb) | exact HB.out)) hb); clear hb hbox hg) | ((with_reducible refine qb1 (N := 3) rfl ?_); refine qz ?hg (N := 3) ?hd (cs := #[.string a1_0, .int .i64 a1_1, .int .i64 a1_2, .string a1_3]) (t := 64) ?hr ?_; (case hd => rfl); (case hg => rfl); (case hr => first | (go_simp; done) | (go_simp; rfl)); intro gb102 hg w5 hbox hb; have BK102 := Qz.mk (hbox); have GW102 := Qz.mk ((by rw [hg]; exact (qv (by repeat (first | (with_reducible first | exact HB.out | apply qc | apply qa | apply qb | refine qd ?_ GE101.out) | exact HB.out))) : w.heap.size ≤ gb102)); have GE102 := GW102; replace HB := Qz.mk (ql (by repeat (first | (with_reducible first | exact HB.out | apply qc | apply qa | apply qb | refine qd ?_ GE101.out) | exact HB.out)) hb); have NB101_102 := Qz.mk ((by rw [hg]; exact Nat.ne_of_lt (blk_lt (g := gb101) (o := .cells #[.string a0_0, .int .i64 a0_1, .int .i64 a0_2, .string a0_3] 64 (0, 0)) yq87) : gb101 ≠ gb102)); have NB102_101 := Qz.mk ((by rw [hg]; exact Nat.ne_of_gt (blk_lt (g := gb101) (o := .cells #[.string a0_0, .int .i64 a0_1, .int .i64 a0_2, .string a0_3] 64 (0, 0)) yq87) : gb102 ≠ gb101)); replace BK101 := Qz.mk (qu (g := gb101) (o := .cells #[.string a0_0, .int .i64 a0_1, .int .i64 a0_2, .string a0_3] 64 (0, 0)) yq87 hb); clear hb hbox hg; have hnb6 := NB101_102.out; have hnc6 := NB102_101.out; have hcz7_0 : w5.cell? ⟨gb101, 0, none⟩ = some (.string a0_0) := (qf BK101.out 0).trans rfl; have hcz7_1 : w5.cell? ⟨gb101, 1, none⟩ = some (.int .i64 a0_1) := (qf BK101.out 1).trans rfl; have hcz7_2 : w5.cell? ⟨gb101, 2, none⟩ = some (.int .i64 a0_2) := (qf BK101.out 2).trans rfl; have hcz7_3 : w5.cell? ⟨gb101, 3, none⟩ = some (.string a0_3) := (qf BK101.out 3).trans rfl; have hfz7_0 := qe BK101.out 0; have hfz7_1 := qe BK101.out 1; have hfz7_2 := qe BK101.out 2; have hfz7_3 := qe BK101.out 3; have hcz8_0 : w5.cell? ⟨gb102, 0, none⟩ = some (.string a1_0) := (qf BK102.out 0).trans rfl; have hcz8_1 : w5.cell? ⟨gb102, 1, none⟩ = some (.int .i64 a1_1) := (qf BK102.out 1).trans rfl; have hcz8_2 : w5.cell? ⟨gb102, 2, none⟩ = some (.int .i64 a1_2) := (qf BK102.out 2).trans rfl; have hcz8_3 : w5.cell? ⟨gb102, 3, none⟩ = some (.string a1_3) := (qf BK102.out 3).trans rfl; have hfz8_0 := qe BK102.out 0; have hfz8_1 := qe BK102.out 1; have hfz8_2 := qe BK102.out 2; have hfz8_3 := qe BK102.out 3) | ((with_reducible refine qj (f := 109) rfl ?_); refine qt (some 9) rfl rfl Try.func109 (by kernel_rfl) rfl #[.agg #[.string a0_0, .int .i64 a0_1, .int .i64 a0_2], .agg #[.string a1_0, .int .i64 a1_1, .int .i64 a1_2]] rfl (by (try simp only [List.map_toArray, List.map_cons, List.map_nil]); first | done | rfl) ?_; (with_reducible refine (impl_cmpKeys.calls k a0_0 a0_1 a0_2 a1_0 a1_1 a1_2 t103 _ A3.out).mono ?_); rintro e w9 ⟨rfl, hb⟩; refine ⟨_, rfl, ?_⟩; replace BK101 := Qz.mk (qu (g := gb101) (o := .cells #[.string a0_0, .int .i64 a0_1, .int .i64 a0_2, .string a0_3] 64 (0, 0)) yq87 hb); replace BK102 := Qz.mk (qu (g := gb102) (o := .cells #[.string a1_0, .int .i64 a1_1, .int .i64 a1_2, .string a1_3] 64 (0, 0)) (by (with_reducible repeat (first | refine qg ?_ _ | refine qi ?_ | refine qh ?_ _)); exact BK102.out) hb); replace HB := Qz.mk (ql (by repeat (first | (with_reducible first | exact HB.out | apply qc | apply qa | apply qb | refine qd ?_ GE101.out | refine qd ?_ GE102.out) | exact HB.out)) hb); (try clear hb)))
 go_ret
 exact ⟨by first | rfl | (simp [qn, qm] <;> rfl) | (simp [*, qn, qm] <;> rfl), by repeat (first | (with_reducible first | exact HB.out | apply qc | apply qa | apply qb | refine qd ?_ GE101.out | refine qd ?_ GE102.out) | exact HB.out)⟩
end Go.Proofs.Ytidjdkodgddfcaa.P
end

section
namespace Go.Proofs.Ytidjdkodgddfcaa.P
open Go.RowKit Go.Proofs.YtidjdkodgddfcaaW.PrintWords Go.Proofs.YtidjdkodgddfcaaW.PrintLast Go.Proofs.YtidjdkodgddfcaaW.PrintMore
attribute [local go_sem] qh1 qg1 qi1 qf1 qd1 qk1 qj1 qy qx qe1 qc1
set_option linter.unusedVariables false
set_option linter.unusedSimpArgs false
theorem wsucc {i : Nat} (h : i < 4611686018427387904) : wrap64 ((i : Int) + 1) = ((i + 1 : Nat) : Int) := by unfold wrap64; omega
theorem wid {x : Int} (h0 : -9223372036854775808 ≤ x) (h1 : x ≤ 9223372036854775807) : wrap64 x = x := by unfold wrap64; omega
theorem uid {x : Int} (h0 : 0 ≤ x) (h1 : x ≤ 18446744073709551615) : IntKind.u64.wrap x = x := IntWalk.u64_in x ⟨h0, h1⟩
theorem _root_.Go.Proofs.YtidjdkodgddfcaaW.PrintWords.Ev.pos {α : Type} {c : Prop} [Decidable c] {a b : Nat → Option α} {r : α} (hc : c) (h : Ev a r) : Ev (fun k => if c then a k else b k) r := Ev.congr (fun _ => if_pos hc) h
theorem _root_.Go.Proofs.YtidjdkodgddfcaaW.PrintWords.Ev.neg {α : Type} {c : Prop} [Decidable c] {a b : Nat → Option α} {r : α} (hc : ¬ c) (h : Ev b r) : Ev (fun k => if c then a k else b k) r := Ev.congr (fun _ => if_neg hc) h
theorem _root_.Go.Proofs.YtidjdkodgddfcaaW.PrintWords.Ev.bindS {α β : Type} {x : Option α} {a : α} {f : Nat → α → Option β} {r : β} (hx : x = some a) (h : Ev (fun k => f k a) r) : Ev (fun k => x.bind (f k)) r := Ev.congr (fun k => by rw [hx]; rfl) h
theorem _root_.Go.Proofs.YtidjdkodgddfcaaW.PrintWords.Ev.eqr {α : Type} {g : Nat → Option α} {r r' : α} (h : Ev g r) (e : r = r') : Ev g r' := e ▸ h
theorem downTo {P : Nat → Prop} (n : Nat) (hn : P n) (hs : ∀ i, i < n → P (i + 1) → P i) : ∀ i, i ≤ n → P i := by
  intro i hi
  obtain ⟨d, rfl⟩ := Nat.exists_eq_add_of_le hi
  clear hi
  induction d generalizing i with
  | zero => exact hn
  | succ d ih => exact hs i (by omega) (ih (i := i + 1) (by rwa [show i + 1 + d = i + (d + 1) from by omega]) (by rwa [show i + 1 + d = i + (d + 1) from by omega]))
end Go.Proofs.Ytidjdkodgddfcaa.P
end

section
namespace Go.Proofs.Ytidjdkodgddfcaa.P
open Go.RowKit Go.Proofs.YtidjdkodgddfcaaW.PrintWords Go.Proofs.YtidjdkodgddfcaaW.PrintLast Go.Proofs.YtidjdkodgddfcaaW.PrintMore
attribute [local go_sem] qh1 qg1 qi1 qf1 qd1 qk1 qj1 qy qx qe1 qc1
set_option linter.unusedVariables false
set_option linter.unusedSimpArgs false
theorem within_ev (a b c : Int) : impl_within.f a b c = some (decide (b ≤ a ∧ a ≤ c)) := by
  unfold impl_within.f
  by_cases h : b ≤ a <;> simp [h]
theorem in_ev (a b c : Int) : spec_l1In.f a b c = some (decide (b ≤ a ∧ a ≤ c)) := by
  unfold spec_l1In.f
  by_cases h : b ≤ a <;> simp [h]
def isU (s : ByteArray) : Prop := 1 ≤ s.size ∧ s.size ≤ 40
instance (s : ByteArray) : Decidable (isU s) := by unfold isU; infer_instance
theorem isUser_ev (a : ByteArray) : impl_isUser.f a = some (decide (isU a)) := by
  unfold impl_isUser.f isU
  by_cases h : (a.size : Int) ≥ 1
  · rw [if_pos h]
    congr 1
    exact decide_eq_decide.2 (by omega)
  · rw [if_neg h]
    congr 1
    exact (decide_eq_false (by omega)).symm
theorem l2User_ev (a : ByteArray) : spec_l2User.f a = some (decide (isU a)) := by
  unfold spec_l2User.f isU
  by_cases h : (a.size : Int) ≥ 1
  · rw [if_pos h]
    congr 1
    exact decide_eq_decide.2 (by omega)
  · rw [if_neg h]
    congr 1
    exact (decide_eq_false (by omega)).symm
end Go.Proofs.Ytidjdkodgddfcaa.P
end

section
namespace Go.Proofs.Ytidjdkodgddfcaa.P
open Go.RowKit Go.Proofs.YtidjdkodgddfcaaW.PrintWords Go.Proofs.YtidjdkodgddfcaaW.PrintLast Go.Proofs.YtidjdkodgddfcaaW.PrintMore
attribute [local go_sem] qh1 qg1 qi1 qf1 qd1 qk1 qj1 qy qx qe1 qc1
set_option linter.unusedVariables false
set_option linter.unusedSimpArgs false
def isK (u : ByteArray) (seq kind : Int) : Prop := isU u ∧ (0 ≤ seq ∧ seq ≤ 1000000000000) ∧ 0 ≤ kind ∧ kind ≤ 1
instance (u : ByteArray) (seq kind : Int) : Decidable (isK u seq kind) := by unfold isK; infer_instance
def isE (u : ByteArray) (seq kind : Int) (v : ByteArray) : Prop := isK u seq kind ∧ v.size ≤ 200 ∧ (kind = 1 ∨ v.toList = [])
instance (u : ByteArray) (seq kind : Int) (v : ByteArray) : Decidable (isE u seq kind v) := by unfold isE; infer_instance
theorem beq_dec (a b : List UInt8) : (a == b) = decide (a = b) := by
  by_cases h : a = b <;> simp [h]
theorem keyOk_ev (u : ByteArray) (q d : Int) : impl_KeyOk.f u q d = some (decide (isK u q d)) := by
  unfold impl_KeyOk.f isK
  rw [isUser_ev, within_ev, within_ev]
  by_cases h : isU u
  · by_cases h2 : 0 ≤ q ∧ q ≤ 1000000000000
    · simp [h, h2]
    · simp [h, h2]
  · simp [h]
theorem sKeyOk_ev (u : ByteArray) (q d : Int) : spec_KeyOk.f u q d = some (decide (isK u q d)) := by
  unfold spec_KeyOk.f isK
  rw [l2User_ev, in_ev, in_ev]
  by_cases h : isU u
  · by_cases h2 : 0 ≤ q ∧ q ≤ 1000000000000
    · simp [h, h2]
    · simp [h, h2]
  · simp [h]
theorem entryOk_ev (u : ByteArray) (q d : Int) (v : ByteArray) : impl_EntryOk.f u q d v = some (decide (isE u q d v)) := by
  unfold impl_EntryOk.f isE
  rw [keyOk_ev]
  by_cases h : isK u q d
  · by_cases h2 : v.size ≤ 200
    · have h2' : (v.size : Int) ≤ 200 := by omega
      by_cases h3 : d = 1
      · subst h3
        simp [h, h2, h2']
      · simp only [h, h2, h2', h3, decide_true, Option.bind_some, if_true, if_false, true_and, false_or]
        congr 1
        exact beq_dec _ _
    · have h2' : ¬ (v.size : Int) ≤ 200 := by omega
      simp [h, h2, h2']
  · simp [h]
theorem sEntryOk_ev (u : ByteArray) (q d : Int) (v : ByteArray) : spec_EntryOk.f u q d v = some (decide (isE u q d v)) := by
  unfold spec_EntryOk.f isE
  rw [sKeyOk_ev]
  by_cases h : isK u q d
  · by_cases h2 : v.size ≤ 200
    · have h2' : (v.size : Int) ≤ 200 := by omega
      by_cases h3 : d = 1
      · subst h3
        simp [h, h2, h2']
      · simp only [h, h2, h2', h3, decide_true, Option.bind_some, if_true, if_false, true_and, false_or]
        congr 1
        exact beq_dec _ _
    · have h2' : ¬ (v.size : Int) ≤ 200 := by omega
      simp [h, h2, h2']
  · simp [h]
end Go.Proofs.Ytidjdkodgddfcaa.P
end

section
namespace Go.Proofs.Ytidjdkodgddfcaa.P
open Go.RowKit Go.Proofs.YtidjdkodgddfcaaW.PrintWords Go.Proofs.YtidjdkodgddfcaaW.PrintLast Go.Proofs.YtidjdkodgddfcaaW.PrintMore
attribute [local go_sem] qh1 qg1 qi1 qf1 qd1 qk1 qj1 qy qx qe1 qc1
set_option linter.unusedVariables false
set_option linter.unusedSimpArgs false
theorem bl_irrefl : ∀ a : List UInt8, Op.bytesLess a a = false
  | [] => by simp [Op.bytesLess]
  | a :: x => by
    have ih := bl_irrefl x
    have h1 : ¬ a < a := fun h => by have := UInt8.lt_iff_toNat_lt.1 h; omega
    simp [Op.bytesLess, ih, h1]
theorem bl_eq {a b : List UInt8} (h : Op.bytesLess a b = false) (h' : Op.bytesLess b a = false) : a = b := by
  rw [← bytesLess_swap, h] at h'
  simpa using h'
theorem bl_cons (a b : UInt8) (x y : List UInt8) : Op.bytesLess (a :: x) (b :: y) = true ↔ a < b ∨ a = b ∧ Op.bytesLess x y = true := by
  rcases Nat.lt_trichotomy a.toNat b.toNat with h | h | h
  · have h1 : a < b := UInt8.lt_iff_toNat_lt.2 h
    simp [Op.bytesLess, h1]
  · have h1 : a = b := UInt8.toNat_inj.1 h
    subst h1
    have h2 : ¬ a < a := fun h => by have := UInt8.lt_iff_toNat_lt.1 h; omega
    simp [Op.bytesLess, h2]
  · have h1 : ¬ a < b := fun h' => by have := UInt8.lt_iff_toNat_lt.1 h'; omega
    have h2 : ¬ a = b := fun h' => by rw [h'] at h; omega
    simp [Op.bytesLess, h1, h2]
theorem bl_trans : ∀ {a b c : List UInt8}, Op.bytesLess a b = true → Op.bytesLess b c = true → Op.bytesLess a c = true
  | _, [], _, h, _ => by cases ‹List UInt8› <;> simp [Op.bytesLess] at h
  | [], b :: y, [], _, h => by simp [Op.bytesLess] at h
  | [], b :: y, c :: z, _, _ => by simp [Op.bytesLess]
  | a :: x, b :: y, [], _, h => by simp [Op.bytesLess] at h
  | a :: x, b :: y, c :: z, h, h' => by
    rw [bl_cons] at h h' ⊢
    rcases h with h | ⟨rfl, h⟩
    · rcases h' with h' | ⟨rfl, h'⟩
      · exact .inl (UInt8.lt_iff_toNat_lt.2 (by have := UInt8.lt_iff_toNat_lt.1 h; have := UInt8.lt_iff_toNat_lt.1 h'; omega))
      · exact .inl h
    · rcases h' with h' | ⟨rfl, h'⟩
      · exact .inl h'
      · exact .inr ⟨rfl, bl_trans h h'⟩
def tless (a b : ByteArray) : Bool := Op.bytesLess a.toList b.toList
theorem compareS_ev (a b : ByteArray) : cmp_Compare_string.f a b = some (if tless a b = true then -1 else if tless b a = true then 1 else 0) := by
  unfold cmp_Compare_string.f cmp_isNaN_string.f tless
  simp only [bne_self_eq_false, Option.bind_some, Bool.false_eq_true, if_false]
  split
  · rfl
  · split <;> rfl
theorem compareI_ev (a b : Int) : cmp_Compare_int64.f a b = some (if a < b then -1 else if b < a then 1 else 0) := by
  unfold cmp_Compare_int64.f cmp_isNaN_int64.f
  simp only [bne_self_eq_false, Option.bind_some, Bool.false_eq_true, if_false]
  split
  · rfl
  · by_cases h : b < a
    · rw [if_pos h, if_pos h]
    · rw [if_neg h, if_neg h]
theorem orInt_ev : ∀ (n : Nat) (l : List Int), l.length = n → n < 1000 → Ev (fun k => cmp_Or_int.f k l) ((l.find? fun x => x != 0).getD 0) := by
  intro n l hn hb
  have key : ∀ i, i ≤ l.length → Ev (fun k => cmp_Or_int.l0 k 0 l (l.length : Int) (i : Int)) (((l.drop i).find? fun x => x != 0).getD 0) := by
    refine downTo l.length ?_ ?_
    · refine Ev.step (fun k => cmp_Or_int.l0.eq_2 ..) (Ev.neg (by omega) ?_)
      rw [List.drop_length]
      exact Ev.now _
    · intro i hi ih
      have hr : rd l (i : Int) = l[i] := by
        unfold rd
        rw [Int.toNat_natCast, List.getD_eq_getElem?_getD, List.getElem?_eq_getElem hi]
        rfl
      rw [List.drop_eq_getElem_cons hi]
      refine Ev.step (fun k => cmp_Or_int.l0.eq_2 ..) (Ev.pos (by omega) (Ev.pos (by omega) (Ev.pos (by omega) ?_)))
      rw [hr, wsucc (by omega)]
      by_cases c : l[i] = 0
      · refine Ev.pos c ?_
        rw [List.find?_cons_of_neg (by simp [c])]
        exact ih
      · refine Ev.neg c ?_
        rw [List.find?_cons_of_pos (by simp [c])]
        exact Ev.now _
  exact key 0 (Nat.zero_le _)
def kcmp (u : ByteArray) (q d : Int) (u' : ByteArray) (q' d' : Int) : Int :=
  if tless u u' = true then -1 else if tless u' u = true then 1 else if q' < q then -1 else if q < q' then 1 else if d' < d then -1 else if d < d' then 1 else 0
theorem cmpKeys_ev (u : ByteArray) (q d : Int) (u' : ByteArray) (q' d' : Int) : Ev (fun k => impl_cmpKeys.f k u q d u' q' d') (kcmp u q d u' q' d') := by
  have h1 := compareS_ev u u'
  have h2 := compareI_ev q' q
  have h3 := compareI_ev d' d
  unfold impl_cmpKeys.f
  refine Ev.bindS h1 (Ev.bindS h2 (Ev.bindS h3 (Ev.bind (orInt_ev 3 _ rfl (by omega)) ((Ev.now _).eqr ?_))))
  unfold kcmp
  by_cases c1 : tless u u' = true
  · simp [c1]
  · by_cases c2 : tless u' u = true
    · simp [c1, c2]
    · by_cases c3 : q' < q
      · simp [c1, c2, c3]
      · by_cases c4 : q < q'
        · simp [c1, c2, c3, c4]
        · by_cases c5 : d' < d
          · simp [c1, c2, c3, c4, c5]
          · by_cases c6 : d < d'
            · simp [c1, c2, c3, c4, c5, c6]
            · simp [c1, c2, c3, c4, c5, c6]
theorem sKeyCmp_ev (u : ByteArray) (q d : Int) (u' : ByteArray) (q' d' : Int) : Ev (fun k => spec_KeyCmp.f k u q d u' q' d') (if isK u q d ∧ isK u' q' d' then kcmp u q d u' q' d' else 0) := by
  have h1 := sKeyOk_ev u q d
  have h2 := sKeyOk_ev u' q' d'
  have jt : Ev (fun k => spec_KeyCmp.j0 k true u q d u' q' d') 0 := Ev.step (fun k => spec_KeyCmp.j0.eq_2 ..) (Ev.pos rfl (Ev.now _))
  unfold spec_KeyCmp.f
  refine Ev.bindS h1 ?_
  by_cases c1 : isK u q d
  · refine Ev.pos (decide_eq_true c1) (Ev.bindS h2 ?_)
    by_cases c2 : isK u' q' d'
    · rw [decide_eq_true c2]
      refine Ev.eqr ?_ (if_pos ⟨c1, c2⟩).symm
      refine Ev.step (fun k => spec_KeyCmp.j0.eq_2 ..) (Ev.neg (by decide) ?_)
      have e : ∀ a b : ByteArray, Op.bytesLess a.toList b.toList = tless a b := fun _ _ => rfl
      rw [e]
      unfold kcmp
      by_cases k1 : tless u u' = true
      · have hne : u.toList ≠ u'.toList := fun h => by rw [← e, h, bl_irrefl] at k1; cases k1
        exact Ev.neg (by simp [hne]) (Ev.pos k1 ((Ev.now _).eqr (if_pos k1).symm))
      · by_cases k2 : tless u' u = true
        · have hne : u.toList ≠ u'.toList := fun h => by rw [← e, h, bl_irrefl] at k2; cases k2
          exact Ev.neg (by simp [hne]) (Ev.neg k1 (Ev.neg hne ((Ev.now _).eqr (by rw [if_neg k1, if_pos k2]))))
        · have heq : u.toList = u'.toList := bl_eq (by simpa [tless] using k1) (by simpa [tless] using k2)
          refine Ev.eqr ?_ (show (if q' < q then (-1 : Int) else if q < q' then 1 else if d' < d then -1 else if d < d' then 1 else 0) = _ from by rw [if_neg k1, if_neg k2])
          by_cases ce : q = q' ∧ d = d'
          · refine Ev.pos (by simp [heq, ce.1, ce.2]) ((Ev.now _).eqr ?_)
            rw [if_neg (by omega), if_neg (by omega), if_neg (by omega), if_neg (by omega)]
          · refine Ev.neg (by simp [heq]; omega) (Ev.neg k1 (Ev.pos heq ?_))
            by_cases k3 : q > q'
            · exact Ev.pos k3 ((Ev.now _).eqr (by rw [if_pos (by omega)]))
            · refine Ev.neg k3 ?_
              by_cases k4 : q = q'
              · refine Ev.pos k4 ?_
                by_cases k5 : d > d'
                · exact Ev.pos k5 ((Ev.now _).eqr (by rw [if_neg (by omega), if_neg (by omega), if_pos (by omega)]))
                · exact Ev.neg k5 ((Ev.now _).eqr (by rw [if_neg (by omega), if_neg (by omega), if_neg (by omega), if_pos (by omega)]))
              · exact Ev.neg k4 ((Ev.now _).eqr (by rw [if_neg (by omega), if_pos (by omega)]))
    · rw [decide_eq_false c2]
      exact jt.eqr (if_neg fun h => c2 h.2).symm
  · exact Ev.neg (by simpa using c1) (jt.eqr (if_neg fun h => c1 h.1).symm)
theorem kcmp_lt (u : ByteArray) (q d : Int) (u' : ByteArray) (q' d' : Int) : kcmp u q d u' q' d' < 0 ↔ tless u u' = true ∨ u = u' ∧ (q' < q ∨ q = q' ∧ d' < d) := by
  unfold kcmp
  by_cases k1 : tless u u' = true
  · simp [k1]
  · by_cases k2 : tless u' u = true
    · have hne : u ≠ u' := fun h => by rw [h] at k2; rw [tless, bl_irrefl] at k2; cases k2
      simp [k1, k2, hne]
    · have heq : u = u' := by
        have := bl_eq (a := u.toList) (b := u'.toList) (by simpa [tless] using k1) (by simpa [tless] using k2)
        rw [ByteArray.toList_eq, ByteArray.toList_eq] at this
        exact ByteArray.ext (Array.toList_inj.1 this)
      rw [if_neg k1, if_neg k2]
      subst heq
      simp only [k1, true_and, false_or]
      by_cases h1 : q' < q
      · simp [h1]
      · by_cases h2 : q < q'
        · rw [if_neg h1, if_pos h2]; constructor
          · intro h; omega
          · intro h; simp at h; omega
        · by_cases h3 : d' < d
          · rw [if_neg h1, if_neg h2, if_pos h3]; simp; omega
          · rw [if_neg h1, if_neg h2, if_neg h3]
            constructor
            · intro h; split at h <;> omega
            · intro h; simp at h; omega
def isEx (x : S64) : Prop := isE x.f0.f0 x.f0.f1 x.f0.f2 x.f1
instance (x : S64) : Decidable (isEx x) := by unfold isEx; infer_instance
def ecmp (x y : S64) : Int := kcmp x.f0.f0 x.f0.f1 x.f0.f2 y.f0.f0 y.f0.f1 y.f0.f2
theorem rdE (l : List S64) (i : Nat) (h : i < l.length) : qk l (i : Int) = l[i] := by
  unfold qk
  rw [Int.toNat_natCast, List.getD_eq_getElem?_getD, List.getElem?_eq_getElem h]
  rfl
def rowFrom (l : List S64) (i : Nat) : Prop := ∀ j, i ≤ j → ∀ h : j < l.length, isEx l[j] ∧ (0 < j → ecmp (l[j - 1]'(by omega)) l[j] < 0)
noncomputable instance (l : List S64) (i : Nat) : Decidable (rowFrom l i) := Classical.propDecidable _
def isRow (l : List S64) : Prop := l.length ≤ 400 ∧ rowFrom l 0
noncomputable instance (l : List S64) : Decidable (isRow l) := Classical.propDecidable _
theorem rowFrom_step (l : List S64) (i : Nat) (h : i < l.length) : rowFrom l i ↔ (isEx l[i] ∧ (0 < i → ecmp (l[i - 1]'(by omega)) l[i] < 0)) ∧ rowFrom l (i + 1) := by
  constructor
  · exact fun hr => ⟨hr i (Nat.le_refl _) h, fun j hj hl => hr j (by omega) hl⟩
  · rintro ⟨h1, h2⟩ j hj hl
    by_cases e : j = i
    · subst e; exact h1
    · exact h2 j (by omega) hl
theorem entriesOk_ev (l : List S64) (hl : l.length < 2097152) : Ev (fun k => impl_EntriesOk.f k l) (decide (isRow l)) := by
  unfold impl_EntriesOk.f
  by_cases c : (l.length : Int) > 400
  · exact Ev.pos c ((Ev.now _).eqr (decide_eq_false fun h => by have := h.1; omega).symm)
  · have key : ∀ i, i ≤ l.length → (∀ h : 0 < i, isEx (l.getD (i - 1) z64)) → Ev (fun k => impl_EntriesOk.l0 k l l (l.length : Int) (i : Int)) (decide (rowFrom l i)) := by
      refine downTo l.length ?_ ?_
      · intro _
        exact Ev.step (fun k => impl_EntriesOk.l0.eq_2 ..) (Ev.neg (by omega) ((Ev.now _).eqr (decide_eq_true (show rowFrom l l.length from fun j h1 h2 => by omega)).symm))
      · intro i hi ih hp
        have hg : l.getD (i + 1 - 1) z64 = l[i] := by rw [Nat.add_sub_cancel, List.getD_eq_getElem?_getD, List.getElem?_eq_getElem hi]; rfl
        refine Ev.step (fun k => impl_EntriesOk.l0.eq_2 ..) (Ev.pos (by omega) (Ev.pos (by omega) ?_))
        refine Ev.pos (by omega) ?_
        rw [rdE l i hi]
        refine Ev.bindS (entryOk_ev l[i].f0.f0 l[i].f0.f1 l[i].f0.f2 l[i].f1) ?_
        by_cases ce : isE l[i].f0.f0 l[i].f0.f1 l[i].f0.f2 l[i].f1
        · refine Ev.pos (decide_eq_true ce) ?_
          have ih := ih (fun _ => by rw [hg]; exact ce)
          by_cases c0 : (i : Int) > 0
          · have hw : wrap64 ((i : Int) - 1) = ((i - 1 : Nat) : Int) := by rw [wid (by omega) (by omega)]; omega
            rw [hw, rdE l (i - 1) (by omega)]
            have hq := hp (by omega)
            rw [show l.getD (i - 1) z64 = l[i - 1]'(by omega) from by rw [List.getD_eq_getElem?_getD, List.getElem?_eq_getElem (by omega)]; rfl] at hq
            refine Ev.pos c0 (Ev.pos (by omega) (Ev.pos (by omega) (Ev.bind (cmpKeys_ev _ _ _ _ _ _) ?_)))
            skip
            by_cases cc : ecmp (l[i - 1]'(by omega)) l[i] ≥ 0
            · exact Ev.pos cc ((Ev.now _).eqr (decide_eq_false fun h => by have := ((rowFrom_step l i hi).1 h).1.2 (by omega); omega).symm)
            · refine Ev.neg cc ?_
              rw [wsucc (by omega)]
              exact ih.eqr (decide_eq_decide.2 ⟨fun h => (rowFrom_step l i hi).2 ⟨⟨ce, fun _ => by omega⟩, h⟩, fun h => ((rowFrom_step l i hi).1 h).2⟩)
          · refine Ev.neg c0 ?_
            rw [wsucc (by omega)]
            exact ih.eqr (decide_eq_decide.2 ⟨fun h => (rowFrom_step l i hi).2 ⟨⟨ce, fun _ => by omega⟩, h⟩, fun h => ((rowFrom_step l i hi).1 h).2⟩)
        · exact Ev.neg (by simpa using ce) ((Ev.now _).eqr (decide_eq_false fun h => ce ((rowFrom_step l i hi).1 h).1.1).symm)
    exact Ev.neg c ((key 0 (Nat.zero_le _) (fun h => absurd h (by omega))).eqr (decide_eq_decide.2 ⟨fun h => ⟨by omega, h⟩, fun h => h.2⟩))
theorem sEntriesOk_ev (l : List S64) (hl : l.length < 2097152) : Ev (fun k => spec_EntriesOk.f k l) (decide (isRow l)) := by
  unfold spec_EntriesOk.f
  by_cases c : (l.length : Int) > 400
  · exact Ev.pos c ((Ev.now _).eqr (decide_eq_false fun h => by have := h.1; omega).symm)
  · have key : ∀ i, i ≤ l.length → (∀ h : 0 < i, isEx (l.getD (i - 1) z64)) → Ev (fun k => spec_EntriesOk.l0 k l (i : Int)) (decide (rowFrom l i)) := by
      refine downTo l.length ?_ ?_
      · intro _
        exact Ev.step (fun k => spec_EntriesOk.l0.eq_2 ..) (Ev.neg (by omega) ((Ev.now _).eqr (decide_eq_true (show rowFrom l l.length from fun j h1 h2 => by omega)).symm))
      · intro i hi ih hp
        have hg : l.getD (i + 1 - 1) z64 = l[i] := by rw [Nat.add_sub_cancel, List.getD_eq_getElem?_getD, List.getElem?_eq_getElem hi]; rfl
        refine Ev.step (fun k => spec_EntriesOk.l0.eq_2 ..) (Ev.pos (by omega) (Ev.pos (by omega) ?_))
        rw [rdE l i hi]
        refine Ev.bindS (sEntryOk_ev l[i].f0.f0 l[i].f0.f1 l[i].f0.f2 l[i].f1) ?_
        by_cases ce : isE l[i].f0.f0 l[i].f0.f1 l[i].f0.f2 l[i].f1
        · refine Ev.pos (decide_eq_true ce) ?_
          have ih := ih (fun _ => by rw [hg]; exact ce)
          by_cases c0 : (i : Int) > 0
          · have hw : wrap64 ((i : Int) - 1) = ((i - 1 : Nat) : Int) := by rw [wid (by omega) (by omega)]; omega
            rw [hw, rdE l (i - 1) (by omega)]
            have hq := hp (by omega)
            rw [show l.getD (i - 1) z64 = l[i - 1]'(by omega) from by rw [List.getD_eq_getElem?_getD, List.getElem?_eq_getElem (by omega)]; rfl] at hq
            refine Ev.pos c0 (Ev.pos (by omega) (Ev.pos (by omega) (Ev.bind (sKeyCmp_ev _ _ _ _ _ _) ?_)))
            rw [if_pos ⟨hq.1, ce.1⟩]
            by_cases cc : ecmp (l[i - 1]'(by omega)) l[i] ≥ 0
            · exact Ev.pos cc ((Ev.now _).eqr (decide_eq_false fun h => by have := ((rowFrom_step l i hi).1 h).1.2 (by omega); omega).symm)
            · refine Ev.neg cc ?_
              rw [wsucc (by omega)]
              exact ih.eqr (decide_eq_decide.2 ⟨fun h => (rowFrom_step l i hi).2 ⟨⟨ce, fun _ => by omega⟩, h⟩, fun h => ((rowFrom_step l i hi).1 h).2⟩)
          · refine Ev.neg c0 ?_
            rw [wsucc (by omega)]
            exact ih.eqr (decide_eq_decide.2 ⟨fun h => (rowFrom_step l i hi).2 ⟨⟨ce, fun _ => by omega⟩, h⟩, fun h => ((rowFrom_step l i hi).1 h).2⟩)
        · exact Ev.neg (by simpa using ce) ((Ev.now _).eqr (decide_eq_false fun h => ce ((rowFrom_step l i hi).1 h).1.1).symm)
    exact Ev.neg c ((key 0 (Nat.zero_le _) (fun h => absurd h (by omega))).eqr (decide_eq_decide.2 ⟨fun h => ⟨by omega, h⟩, fun h => h.2⟩))
end Go.Proofs.Ytidjdkodgddfcaa.P
end

section
namespace Go.Proofs.Ytidjdkodgddfcaa.P
open Go.RowKit Go.Proofs.YtidjdkodgddfcaaW.PrintWords Go.Proofs.YtidjdkodgddfcaaW.PrintLast Go.Proofs.YtidjdkodgddfcaaW.PrintMore
attribute [local go_sem] qh1 qg1 qi1 qf1 qd1 qk1 qj1 qy qx qe1 qc1
set_option linter.unusedVariables false
set_option linter.unusedSimpArgs false
theorem kcmp_trans {u u' u'' : ByteArray} {q d q' d' q'' d'' : Int} (h1 : kcmp u q d u' q' d' < 0) (h2 : kcmp u' q' d' u'' q'' d'' < 0) : kcmp u q d u'' q'' d'' < 0 := by
  rw [kcmp_lt] at *
  rcases h1 with h1 | ⟨rfl, h1⟩
  · rcases h2 with h2 | ⟨rfl, h2⟩
    · exact .inl (bl_trans h1 h2)
    · exact .inl h1
  · rcases h2 with h2 | ⟨rfl, h2⟩
    · exact .inl h2
    · exact .inr ⟨rfl, by omega⟩
theorem getD_at {α : Type} (l : List α) (i : Nat) (d : α) (h : i < l.length) : l.getD i d = l[i] := by
  rw [List.getD_eq_getElem?_getD, List.getElem?_eq_getElem h]
  rfl
def bsc (l : List S64) (y : S64) : Nat := l.findIdx fun x => decide (0 ≤ ecmp x y)
end Go.Proofs.Ytidjdkodgddfcaa.P
end
