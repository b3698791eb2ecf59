/- Proved: the law FnGot of the given program returns true for every input of its Go types and leaves each argument as it was; no condition. (Part 9 of 12.) -/
import Derived.Test.YtbojfnijgmppbaaCFnGot4
import Derived.Test.YtbojfnijgmppbaaCFnGot6
import Derived.Test.YtbojfnijgmppbaaCFnGot7
import Derived.Test.YtbojfnijgmppbaaCFnGot5
section
namespace Go.Proofs.Ytbojfnijgmppbaa.P
open Go.RowKit Go.Proofs.YtbojfnijgmppbaaW.PrintWords Go.Proofs.YtbojfnijgmppbaaW.PrintLast Go.Proofs.YtbojfnijgmppbaaW.PrintMore
attribute [local go_sem] str_gtr str_leq str_geq max2_int min2_int max_two min_two qw qv max_four min_four
set_option linter.unusedVariables false
set_option linter.unusedSimpArgs false
mutual
def laws_FnGot.j0 : Nat → List (S48) → ByteArray → Int → Int → ByteArray → Int → ByteArray → Bool → Option (Bool)
 | 0, _, _, _, _, _, _, _, _ => none
 | k + 1, x3, x4, x5, x6, x7, x8, x9, x49 => if x49 = true then (if x6 = x8 then (some (x7.toList == x9.toList)) else (some false)) else (laws_FnGot.l0 k x3 x4 x5 x6 x7 (-1) 0)
def laws_FnGot.l0 : Nat → List (S48) → ByteArray → Int → Int → ByteArray → Int → Int → Option (Bool)
 | 0, _, _, _, _, _, _, _ => none
 | k + 1, x3, x4, x5, x6, x7, x10, x11 => if x11 < (x3.length : Int) then (if 0 ≤ x11 then (if ((qg x3 x11).f0.f0).toList = x4.toList then (if ((qg x3 x11).f0.f1) ≤ x5 then (if x10 < 0 then (laws_FnGot.l0 k x3 x4 x5 x6 x7 x11 (wrap64 (x11 + 1))) else (if 0 ≤ x10 then (if x10 < (x3.length : Int) then ((impl_KeyCmp.f k ((qg x3 x11).f0.f0) ((qg x3 x11).f0.f1) ((qg x3 x11).f0.f2) ((qg x3 x10).f0.f0) ((qg x3 x10).f0.f1) ((qg x3 x10).f0.f2)).bind fun t116 => (if t116 < 0 then (laws_FnGot.l0 k x3 x4 x5 x6 x7 x11 (wrap64 (x11 + 1))) else (laws_FnGot.l0 k x3 x4 x5 x6 x7 x10 (wrap64 (x11 + 1))))) else (none)) else (none))) else (laws_FnGot.l0 k x3 x4 x5 x6 x7 x10 (wrap64 (x11 + 1)))) else (laws_FnGot.l0 k x3 x4 x5 x6 x7 x10 (wrap64 (x11 + 1)))) else (none)) else ((impl_MemUsers.f k x3).bind fun t117 => (laws_FnGot.l1 k x3 x6 x7 x10 t117 0))
def laws_FnGot.l1 : Nat → List (S48) → Int → ByteArray → Int → List ByteArray → Int → Option (Bool)
 | 0, _, _, _, _, _, _ => none
 | k + 1, x3, x6, x7, x10, x12, x13 => if x13 < (x3.length : Int) then (if 0 ≤ x13 then ((laws_hasText.f k x12 ((qg x3 x13).f0.f0)).bind fun t121 => (if t121 = true then (laws_FnGot.l1 k x3 x6 x7 x10 x12 (wrap64 (x13 + 1))) else (some false))) else (none)) else (laws_FnGot.l2 k x3 x6 x7 x10 x12 1)
def laws_FnGot.l2 : Nat → List (S48) → Int → ByteArray → Int → List ByteArray → Int → Option (Bool)
 | 0, _, _, _, _, _, _ => none
 | k + 1, x3, x6, x7, x10, x12, x14 => if x14 < (x12.length : Int) then (if 0 ≤ (wrap64 (x14 - 1)) then (if (wrap64 (x14 - 1)) < (x12.length : Int) then (if 0 ≤ x14 then (if ((Op.bytesLess ((rdOf ByteArray.empty x12 (wrap64 (x14 - 1))).toList) ((rdOf ByteArray.empty x12 x14).toList)) = true) then (laws_FnGot.l2 k x3 x6 x7 x10 x12 (wrap64 (x14 + 1))) else (some false)) else (none)) else (none)) else (none)) else (if x10 < 0 then (some (x6 == 0)) else (if 0 ≤ x10 then (if x10 < (x3.length : Int) then (if x7.toList = ((qg x3 x10).f1).toList then (some (x6 == (wrap64 ((wrap64 (1 - (wrap64 (1 - ((qg x3 x10).f0.f2))))) + (wrap64 (2 * (wrap64 (1 - ((qg x3 x10).f0.f2))))))))) else (some false)) else (none)) else (none)))
end
def laws_FnGot.f (k : Nat) (l0 : List Int) : Option (Bool) := (laws_big.f l0).bind fun t101 => (if t101 = true then (some true) else ((spec_DrawMemGet.f k l0).bind fun bt102 => ((impl_MemGet.f k bt102.1 bt102.2.1 bt102.2.2).bind fun bt107 => ((spec_MemGet.f k bt102.1 bt102.2.1 bt102.2.2).bind fun bt109 => (if bt107.1 = bt109.1 then (if bt107.2.toList = bt109.2.toList then ((spec_EntriesOk.f k bt102.1).bind fun t111 => (laws_FnGot.j0 k bt102.1 bt102.2.1 bt102.2.2 bt107.1 bt107.2 bt109.1 bt109.2 (!t111))) else (laws_FnGot.j0 k bt102.1 bt102.2.1 bt102.2.2 bt107.1 bt107.2 bt109.1 bt109.2 true)) else (laws_FnGot.j0 k bt102.1 bt102.2.1 bt102.2.2 bt107.1 bt107.2 bt109.1 bt109.2 true))))))
def laws_FnGot.T12 : Bool × List (List Nat × List Nat) := (true, [([], []), ([], []), ([0, 1], [0, 1]), ([2], [2]), ([3], [3]), ([4], [4]), ([], []), ([5, 6], [5, 6]), ([7], [7]), ([8], [8]), ([8], [8]), ([9, 10, 8], [8, 9, 10]), ([11, 8], [8, 11]), ([12, 8], [8, 12]), ([13, 8], [8, 13]), ([8], [8]), ([14, 15, 8], [8, 14, 15]), ([8, 16], [8, 16]), ([17, 8], [17]), ([18], [18]), ([19, 18], [18, 19]), ([20, 18, 18], [18, 20]), ([21], [21]), ([21], [21]), ([22, 23, 21], [21, 22, 23]), ([24, 21], [21, 24]), ([25, 21], [21, 25]), ([21], [21]), ([21], [21]), ([27, 28, 21], [21, 27, 28]), ([29, 21], [21, 29]), ([30, 21], [21, 30]), ([26, 31, 21, 21], [21, 26, 31]), ([32, 21], [21, 32]), ([21, 33, 18], [18, 21, 33]), ([18, 34], [18, 34])])
def laws_FnGot.B12 : List Nat := [0, 0, 3, 7, 15, 31, 0, 127, 255, 511, 511, 2047, 4095, 8191, 16383, 511, 65535, 131071, 262143, 524287, 1048575, 2097151, 4194303, 4194303, 16777215, 33554431, 67108863, 4194303, 4194303, 406847487, 943718399, 2017460223, 4294967295, 8589934591, 17179869183, 34359738367]
theorem laws_FnGot.tab12 : rtab .any (opsOf Try.f9 12) = laws_FnGot.T12 := by kernel_rfl
theorem laws_FnGot.bits12 : waitsOk laws_FnGot.T12.2 laws_FnGot.B12 = true := by kernel_rfl
def laws_FnGot.T23 : Bool × List (List Nat × List Nat) := (true, [([], []), ([], []), ([1], [1]), ([0, 2], [0, 2]), ([3], [3]), ([], []), ([], []), ([5, 6], [5, 6]), ([7], [7]), ([4, 8], [4, 8])])
def laws_FnGot.B23 : List Nat := [0, 0, 2, 7, 15, 0, 0, 96, 224, 511]
theorem laws_FnGot.tab23 : rtab .any (opsOf Try.f9 23) = laws_FnGot.T23 := by kernel_rfl
theorem laws_FnGot.bits23 : waitsOk laws_FnGot.T23.2 laws_FnGot.B23 = true := by kernel_rfl
def laws_FnGot.T27 : Bool × List (List Nat × List Nat) := (true, [([], []), ([], []), ([], []), ([1, 2], [1, 2]), ([3], [3]), ([4], [4]), ([0, 5], [0, 5]), ([6], [6]), ([7], [7]), ([7], [7]), ([7], [7]), ([9, 10, 7], [7, 9, 10]), ([11, 7], [7, 11]), ([12, 7], [7, 12]), ([13, 7], [7, 13]), ([14, 7], [7, 14]), ([15, 7], [7, 15]), ([7], [7]), ([7], [7]), ([17, 18, 7], [7, 17, 18]), ([19, 7], [7, 19]), ([20, 7], [7, 20]), ([21, 7], [7, 21]), ([22, 7], [7, 22]), ([23, 7], [7, 23]), ([16, 24, 7], [7, 16, 24]), ([8, 25, 7], [7, 8, 25]), ([7, 26], [7, 26]), ([27, 7, 0, 1, 2, 3, 4, 5, 6, 7, 8, 9, 10, 11, 12, 13, 14, 15, 16, 17, 18, 19, 20, 21, 22, 23, 24, 25, 26, 27], [27])])
def laws_FnGot.B27 : List Nat := [0, 0, 0, 6, 14, 30, 63, 127, 255, 255, 255, 1791, 3839, 7935, 16127, 32511, 65279, 255, 255, 393471, 917759, 1966335, 4063487, 8257791, 16646399, 33554175, 67108863, 134217727, 268435455]
theorem laws_FnGot.tab27 : rtab .any (opsOf Try.f9 27) = laws_FnGot.T27 := by kernel_rfl
theorem laws_FnGot.bits27 : waitsOk laws_FnGot.T27.2 laws_FnGot.B27 = true := by kernel_rfl
set_option maxHeartbeats 8000000 in
set_option maxRecDepth 100000 in
theorem laws_FnGot.calls (k : Nat) (A0 : Option Addr) (c0 : Nat) (l0 : List Int) (r : Bool) (w : World) (hr0 : Kd.C (Kd.int .u8) w A0 l0.length l0) (hc0 : l0.length ≤ c0) (h : laws_FnGot.f k l0 = some r) :
  Calls Try.prog 9 #[.slice A0 l0.length c0] w fun e w' => e = .returned (.bool r) ∧ Below w.heap.size w w' := by
 have hu46 := Try.underlying46
 have HR0 := Qz.mk hr0
 have HC0 := Qz.mk hc0
 clear hr0 hc0
 have HB := Qz.mk (Below.refl w.heap.size w)
 have H : ((laws_big.f l0).bind fun t101 => (if t101 = true then (some true) else ((spec_DrawMemGet.f k l0).bind fun bt102 => ((impl_MemGet.f k bt102.1 bt102.2.1 bt102.2.2).bind fun bt107 => ((spec_MemGet.f k bt102.1 bt102.2.1 bt102.2.2).bind fun bt109 => (if bt107.1 = bt109.1 then (if bt107.2.toList = bt109.2.toList then ((spec_EntriesOk.f k bt102.1).bind fun t111 => (laws_FnGot.j0 k bt102.1 bt102.2.1 bt102.2.2 bt107.1 bt107.2 bt109.1 bt109.2 (!t111))) else (laws_FnGot.j0 k bt102.1 bt102.2.1 bt102.2.2 bt107.1 bt107.2 bt109.1 bt109.2 true)) else (laws_FnGot.j0 k bt102.1 bt102.2.1 bt102.2.2 bt107.1 bt107.2 bt109.1 bt109.2 true))))))) = some r := h
 clear h
 replace H := Option.bind_eq_some_iff.mp H
 obtain ⟨t101, A20, H⟩ := H
 replace H : (if t101 = true then (some true) else ((spec_DrawMemGet.f k l0).bind fun bt102 => ((impl_MemGet.f k bt102.1 bt102.2.1 bt102.2.2).bind fun bt107 => ((spec_MemGet.f k bt102.1 bt102.2.1 bt102.2.2).bind fun bt109 => (if bt107.1 = bt109.1 then (if bt107.2.toList = bt109.2.toList then ((spec_EntriesOk.f k bt102.1).bind fun t111 => (laws_FnGot.j0 k bt102.1 bt102.2.1 bt102.2.2 bt107.1 bt107.2 bt109.1 bt109.2 (!t111))) else (laws_FnGot.j0 k bt102.1 bt102.2.1 bt102.2.2 bt107.1 bt107.2 bt109.1 bt109.2 true)) else (laws_FnGot.j0 k bt102.1 bt102.2.1 bt102.2.2 bt107.1 bt107.2 bt109.1 bt109.2 true)))))) = some r := H
 have A2 := Qz.mk A20
 clear A20
 by_cases c3 : t101 = true
 ·subst c3
  have H1 : (some true) = some r := by rw [if_pos rfl] at H; exact H
  clear H
  have H := H1
  clear H1
  obtain rfl := Option.some.inj H
  go_enter Try.func9, Try.ntmps9
  go_wp2_with (first | ((with_reducible refine qq (f := 28) rfl ?_); refine qu (some 16) rfl rfl Try.func28 (by kernel_rfl) rfl #[.slice A0 l0.length c0] rfl (by (try simp only [List.map_toArray, List.map_cons, List.map_nil]); first | done | rfl | (simp only [List.length_drop, List.length_take]; rfl) | (rw [IntWalk.u64_in _ (by omega)] <;> rfl)) ?_; (with_reducible refine (laws_big.calls _ _ l0 true _ ?side1 ?side2 A2.out).mono ?_); (case side1 => repeat (first | exact HR0.out | (with_reducible refine Kd.C_alloc ?_ _) | (with_reducible refine Kd.C_drewN ?_ _) | (with_reducible refine Kd.C_drew ?_))); (case side2 => exact HC0.out); rintro e w' ⟨rfl, ⟨nd, rfl⟩⟩; refine ⟨_, rfl, ?_⟩))
  go_ret
  exact ⟨by first | rfl | (simp [qp, qo] <;> rfl) | (simp [*, qp, qo] <;> rfl), by repeat (first | (with_reducible first | exact HB.out | apply qc | apply qa | apply qb) | exact HB.out)⟩
 ·replace c3 := Bool.eq_false_iff.mpr c3
  subst c3
  have H1 : ((spec_DrawMemGet.f k l0).bind fun bt102 => ((impl_MemGet.f k bt102.1 bt102.2.1 bt102.2.2).bind fun bt107 => ((spec_MemGet.f k bt102.1 bt102.2.1 bt102.2.2).bind fun bt109 => (if bt107.1 = bt109.1 then (if bt107.2.toList = bt109.2.toList then ((spec_EntriesOk.f k bt102.1).bind fun t111 => (laws_FnGot.j0 k bt102.1 bt102.2.1 bt102.2.2 bt107.1 bt107.2 bt109.1 bt109.2 (!t111))) else (laws_FnGot.j0 k bt102.1 bt102.2.1 bt102.2.2 bt107.1 bt107.2 bt109.1 bt109.2 true)) else (laws_FnGot.j0 k bt102.1 bt102.2.1 bt102.2.2 bt107.1 bt107.2 bt109.1 bt109.2 true))))) = some r := by rw [if_neg (show ¬ (false = true) by decide)] at H; exact H
  clear H
  have H := H1
  clear H1
  replace H := Option.bind_eq_some_iff.mp H
  obtain ⟨⟨t102, t103, t104⟩, A40, H⟩ := H
  replace H : ((impl_MemGet.f k t102 t103 t104).bind fun bt107 => ((spec_MemGet.f k t102 t103 t104).bind fun bt109 => (if bt107.1 = bt109.1 then (if bt107.2.toList = bt109.2.toList then ((spec_EntriesOk.f k t102).bind fun t111 => (laws_FnGot.j0 k t102 t103 t104 bt107.1 bt107.2 bt109.1 bt109.2 (!t111))) else (laws_FnGot.j0 k t102 t103 t104 bt107.1 bt107.2 bt109.1 bt109.2 true)) else (laws_FnGot.j0 k t102 t103 t104 bt107.1 bt107.2 bt109.1 bt109.2 true)))) = some r := H
  have A4 := Qz.mk A40
  clear A40
  replace H := Option.bind_eq_some_iff.mp H
  obtain ⟨⟨t107, t108⟩, A50, H⟩ := H
  replace H : ((spec_MemGet.f k t102 t103 t104).bind fun bt109 => (if t107 = bt109.1 then (if t108.toList = bt109.2.toList then ((spec_EntriesOk.f k t102).bind fun t111 => (laws_FnGot.j0 k t102 t103 t104 t107 t108 bt109.1 bt109.2 (!t111))) else (laws_FnGot.j0 k t102 t103 t104 t107 t108 bt109.1 bt109.2 true)) else (laws_FnGot.j0 k t102 t103 t104 t107 t108 bt109.1 bt109.2 true))) = some r := H
  have A5 := Qz.mk A50
  clear A50
  replace H := Option.bind_eq_some_iff.mp H
  obtain ⟨⟨t109, t110⟩, A60, H⟩ := H
  replace H : (if t107 = t109 then (if t108.toList = t110.toList then ((spec_EntriesOk.f k t102).bind fun t111 => (laws_FnGot.j0 k t102 t103 t104 t107 t108 t109 t110 (!t111))) else (laws_FnGot.j0 k t102 t103 t104 t107 t108 t109 t110 true)) else (laws_FnGot.j0 k t102 t103 t104 t107 t108 t109 t110 true)) = some r := H
  have A6 := Qz.mk A60
  clear A60
  have HC7 := Qz.mk H
  clear H
  go_enter Try.func9, Try.ntmps9
  go_upto_region 6 with (first | ((with_reducible refine qq (f := 28) rfl ?_); refine qu (some 16) rfl rfl Try.func28 (by kernel_rfl) rfl #[.slice A0 l0.length c0] rfl (by (try simp only [List.map_toArray, List.map_cons, List.map_nil]); first | done | rfl | (simp only [List.length_drop, List.length_take]; rfl) | (rw [IntWalk.u64_in _ (by omega)] <;> rfl)) ?_; (with_reducible refine (laws_big.calls _ _ l0 false _ ?side1 ?side2 A2.out).mono ?_); (case side1 => repeat (first | exact HR0.out | (with_reducible refine Kd.C_alloc ?_ _) | (with_reducible refine Kd.C_drewN ?_ _) | (with_reducible refine Kd.C_drew ?_))); (case side2 => exact HC0.out); rintro e w' ⟨rfl, ⟨nd, rfl⟩⟩; refine ⟨_, rfl, ?_⟩) | ((with_reducible refine qq (f := 46) rfl ?_); refine qu (some 19) rfl rfl Try.func46 (by kernel_rfl) rfl #[.slice A0 l0.length c0] rfl (by (try simp only [List.map_toArray, List.map_cons, List.map_nil]); first | done | rfl | (simp only [List.length_drop, List.length_take]; rfl) | (rw [IntWalk.u64_in _ (by omega)] <;> rfl)) ?_; (with_reducible refine (spec_DrawMemGet.calls k _ _ l0 t102 t103 t104 _ ?side1 ?side2 A4.out).mono ?_); (case side1 => repeat (first | exact HR0.out | (with_reducible refine Kd.C_alloc ?_ _) | (with_reducible refine Kd.C_drewN ?_ _) | (with_reducible refine Kd.C_drew ?_))); (case side2 => exact HC0.out); rintro e w8 ⟨v105, rfl, ho0, hb⟩; refine ⟨_, rfl, ?_⟩; have HO106 := Qz.mk (Kd.R_lower ho0 (below_size (by repeat (first | (with_reducible first | exact HB.out | apply qc | apply qa | apply qb) | exact HB.out)))); replace HB := Qz.mk (qr (by repeat (first | (with_reducible first | exact HB.out | apply qc | apply qa | apply qb) | exact HB.out)) hb); (try clear hb); (try clear ho0); obtain ⟨Ao9, co9, eo9⟩ := Kd.R_slice HO106.out; subst eo9) | ((with_reducible refine qq (f := 43) rfl ?_); refine qu (some 27) rfl rfl Try.func43 (by kernel_rfl) rfl #[.slice Ao9 t102.length co9, .string t103, .int .i64 t104] rfl (by (try simp only [List.map_toArray, List.map_cons, List.map_nil]); first | done | rfl | (simp only [List.length_drop, List.length_take]; rfl) | (rw [IntWalk.u64_in _ (by omega)] <;> rfl)) ?_; (with_reducible refine (impl_MemGet.calls k _ _ t102 t103 t104 t107 t108 _ ?side1 ?side2 A5.out).mono ?_); (case side1 => repeat (first | exact (Kd.R_reads' HO106.out).2.2 | (with_reducible refine Kd.C_alloc ?_ _) | (with_reducible refine Kd.C_drewN ?_ _) | (with_reducible refine Kd.C_drew ?_))); (case side2 => exact (Kd.R_reads' HO106.out).2.1); rintro e w10 ⟨rfl, hb⟩; refine ⟨_, rfl, ?_⟩; replace HO106 := Qz.mk (Kd.R_below (by (with_reducible repeat (first | apply Kd.R_alloc | apply Kd.R_drewN | apply Kd.R_drew)); exact HO106.out) hb); replace HB := Qz.mk (qr (by repeat (first | (with_reducible first | exact HB.out | apply qc | apply qa | apply qb) | exact HB.out)) hb); (try clear hb)) | ((with_reducible refine qq (f := 47) rfl ?_); refine qu (some 34) rfl rfl Try.func47 (by kernel_rfl) rfl #[.slice Ao9 t102.length co9, .string t103, .int .i64 t104] rfl (by (try simp only [List.map_toArray, List.map_cons, List.map_nil]); first | done | rfl | (simp only [List.length_drop, List.length_take]; rfl) | (rw [IntWalk.u64_in _ (by omega)] <;> rfl)) ?_; (with_reducible refine (spec_MemGet.calls k _ _ t102 t103 t104 t109 t110 _ ?side1 ?side2 A6.out).mono ?_); (case side1 => repeat (first | exact (Kd.R_reads' HO106.out).2.2 | (with_reducible refine Kd.C_alloc ?_ _) | (with_reducible refine Kd.C_drewN ?_ _) | (with_reducible refine Kd.C_drew ?_))); (case side2 => exact (Kd.R_reads' HO106.out).2.1); rintro e w11 ⟨rfl, hb⟩; refine ⟨_, rfl, ?_⟩; replace HO106 := Qz.mk (Kd.R_below (by (with_reducible repeat (first | apply Kd.R_alloc | apply Kd.R_drewN | apply Kd.R_drew)); exact HO106.out) hb); replace HB := Qz.mk (qr (by repeat (first | (with_reducible first | exact HB.out | apply qc | apply qa | apply qb) | exact HB.out)) hb); (try clear hb)))
  (try simp only [Act.put, sq1, sq2, sq3])
  go_cut [49] (fun v49 wc => ∃ (kq : Nat) (x49_6 : Bool), v49 = .bool x49_6 ∧ Qz (laws_FnGot.j0 kq t102 t103 t104 t107 t108 t109 t110 x49_6 = some r) ∧ Qz (kq ≤ k) ∧ Qz (Kd.R k48 48 wc w.heap.size (fun _ => True) (.slice Ao9 t102.length co9) t102) ∧ Qz (Below w.heap.size w wc))
  case first =>
   have H := HC7.out
   clear HC7
   by_cases c12 : t107 = t109
   ·rw [if_pos c12] at H
    have c12b0 : (t107 == t109) = true := beq_iff_eq.mpr c12
    have c12b1 : (t107 != t109) = false := bne_eq_false_iff_eq.mpr c12
    clear c12
    (first | rw [c12b0] | (simp only [i64_w, i32_w]; rw [c12b0]) | skip)
    by_cases c13 : t108.toList = t110.toList
    ·rw [if_pos c13] at H
     have c13b0 : (t108.toList == t110.toList) = true := beq_iff_eq.mpr c13
     have c13b1 : (t108.toList != t110.toList) = false := bne_eq_false_iff_eq.mpr c13
     clear c13
     replace H := Option.bind_eq_some_iff.mp H
     obtain ⟨t111, A140, H⟩ := H
     replace H : (laws_FnGot.j0 k t102 t103 t104 t107 t108 t109 t110 (!t111)) = some r := H
     have A14 := Qz.mk A140
     clear A140
     have H' := Qz.mk H
     clear H
     go_wp2_with (first | (go_at_call 30; (with_reducible refine (spec_EntriesOk.calls k _ _ t102 t111 _ ?side1 ?side2 A14.out).mono ?_); (case side1 => repeat (first | exact (Kd.R_reads' HO106.out).2.2 | (with_reducible refine Kd.C_alloc ?_ _) | (with_reducible refine Kd.C_drewN ?_ _) | (with_reducible refine Kd.C_drew ?_))); (case side2 => exact (Kd.R_reads' HO106.out).2.1); rintro e w15 ⟨rfl, hb⟩; replace HO106 := Qz.mk (Kd.R_below (by (with_reducible repeat (first | apply Kd.R_alloc | apply Kd.R_drewN | apply Kd.R_drew)); exact HO106.out) hb); replace HB := Qz.mk (qr (by repeat (first | (with_reducible first | exact HB.out | apply qc | apply qa | apply qb) | exact HB.out)) hb); (try clear hb)))
     go_meet
     case rel => exact ⟨_, (!t111), (by first | rfl | (simp; done) | (simp [*]; done)), H', ⟨by first | omega | exact Nat.le_refl _⟩, ⟨by (with_reducible repeat (first | apply Kd.R_alloc | apply Kd.R_drewN | apply Kd.R_drew)); exact HO106.out⟩, ⟨by repeat (first | (with_reducible first | exact HB.out | apply qc | apply qa | apply qb) | exact HB.out)⟩⟩
    ·rw [if_neg c13] at H
     have c13b0 : (t108.toList == t110.toList) = false := beq_eq_false_iff_ne.mpr c13
     have c13b1 : (t108.toList != t110.toList) = true := bne_iff_ne.mpr c13
     have H' := Qz.mk H
     clear H
     go_wp2
     go_meet
     case rel => exact ⟨_, (true), (by first | rfl | (simp; done) | (simp [*]; done)), H', ⟨by first | omega | exact Nat.le_refl _⟩, ⟨by (with_reducible repeat (first | apply Kd.R_alloc | apply Kd.R_drewN | apply Kd.R_drew)); exact HO106.out⟩, ⟨by repeat (first | (with_reducible first | exact HB.out | apply qc | apply qa | apply qb) | exact HB.out)⟩⟩
   ·rw [if_neg c12] at H
    have c12b0 : (t107 == t109) = false := beq_eq_false_iff_ne.mpr c12
    have c12b1 : (t107 != t109) = true := bne_iff_ne.mpr c12
    (first | rw [c12b0] | (simp only [i64_w, i32_w]; rw [c12b0]) | skip)
    have H' := Qz.mk H
    clear H
    go_wp2
    go_meet
    case rel => exact ⟨_, (true), (by first | rfl | (simp; done) | (simp [*]; done)), H', ⟨by first | omega | exact Nat.le_refl _⟩, ⟨by (with_reducible repeat (first | apply Kd.R_alloc | apply Kd.R_drewN | apply Kd.R_drew)); exact HO106.out⟩, ⟨by repeat (first | (with_reducible first | exact HB.out | apply qc | apply qa | apply qb) | exact HB.out)⟩⟩
  case rest =>
   clear HC7
   try clear c1
   try clear c2
   try clear p2
   try clear c3
   try clear c4
   try clear c9
   try clear c12
   try clear c12b0
   try clear c12b1
   try clear c13
   try clear c13b0
   try clear c13b1
   obtain ⟨kq, x49_6, rfl, HA, HJ6, HO_3, HB⟩ := hcut
   cases kq with
   | zero => exact absurd HA.out (by simp [laws_FnGot.j0])
   | succ kj6 =>
    have H := HA.out
    clear HA
    simp only [laws_FnGot.j0] at H
    by_cases c16 : x49_6 = true
    ·subst c16
     have H1 : (if t107 = t109 then (some (t108.toList == t110.toList)) else (some false)) = some r := by rw [if_pos rfl] at H; exact H
     clear H
     have H := H1
     clear H1
     by_cases c17 : t107 = t109
     ·rw [if_pos c17] at H
      have c17b0 : (t107 == t109) = true := beq_iff_eq.mpr c17
      have c17b1 : (t107 != t109) = false := bne_eq_false_iff_eq.mpr c17
      clear c17
      obtain rfl := Option.some.inj H
      go_wp2
      go_ret
      exact ⟨by first | rfl | (simp [qp, qo] <;> rfl) | (simp [*, qp, qo] <;> rfl), by repeat (first | (with_reducible first | exact HB.out | apply qc | apply qa | apply qb) | exact HB.out)⟩
     ·rw [if_neg c17] at H
      have c17b0 : (t107 == t109) = false := beq_eq_false_iff_ne.mpr c17
      have c17b1 : (t107 != t109) = true := bne_iff_ne.mpr c17
      obtain rfl := Option.some.inj H
      go_wp2
      go_ret
      exact ⟨by first | rfl | (simp [qp, qo] <;> rfl) | (simp [*, qp, qo] <;> rfl), by repeat (first | (with_reducible first | exact HB.out | apply qc | apply qa | apply qb) | exact HB.out)⟩
    ·replace c16 := Bool.eq_false_iff.mpr c16
     subst c16
     have H1 : (laws_FnGot.l0 kj6 t102 t103 t104 t107 t108 (-1) 0) = some r := by rw [if_neg (show ¬ (false = true) by decide)] at H; exact H
     clear H
     have H := H1
     clear H1
     have H' := Qz.mk H
     clear H
     go_wp2
     go_loopg [10, 11] kj6 (fun kq v10 v11 w' => ∃ (x10_2 : Int) (x11_2 : Int), v10 = .int .i64 x10_2 ∧ v11 = .int .i64 x11_2 ∧ Qz (laws_FnGot.l0 kq t102 t103 t104 t107 t108 x10_2 x11_2 = some r) ∧ Qz (kq ≤ kj6) ∧ Qz (Kd.R k48 48 w' w.heap.size (fun _ => True) (.slice Ao9 t102.length co9) t102) ∧ Qz (Below w.heap.size w w'))
     case atStart => exact ⟨((-1)), (0), (by first | rfl | (simp; done) | (simp [*]; done)), (by first | rfl | (simp; done) | (simp [*]; done)), H', ⟨Nat.le_refl _⟩, ⟨by (with_reducible repeat (first | apply Kd.R_alloc | apply Kd.R_drewN | apply Kd.R_drew)); exact HO_3.out⟩, ⟨by repeat (first | (with_reducible first | exact HB.out | apply qc | apply qa | apply qb) | exact HB.out)⟩⟩
     case round =>
      clear H'
      try clear c1
      try clear c2
      try clear p2
      try clear c3
      try clear c4
      try clear c9
      try clear c12
      try clear c12b0
      try clear c12b1
      try clear c13
      try clear c13b0
      try clear c13b1
      try clear c16
      try clear c17
      try clear c17b0
      try clear c17b1
      try clear p2
      obtain ⟨x10_2, x11_2, rfl, rfl, HA, HK2, HO_3, HB⟩ := hrel
      cases gk with
      | zero => exact absurd HA.out (by simp [laws_FnGot.l0])
      | succ k2 =>
       have H := HA.out
       clear HA
       simp only [laws_FnGot.l0] at H
       by_cases c18 : x11_2 < (t102.length : Int)
       ·rw [if_pos c18] at H
        have c18b0 : decide (x11_2 < (t102.length : Int)) = true := decide_eq_true c18
        clear c18
        by_cases c19 : 0 ≤ x11_2
        ·rw [if_pos c19] at H
         have c19b0 : decide (0 ≤ x11_2) = true := decide_eq_true c19
         clear c19
         by_cases c20 : ((qg t102 x11_2).f0.f0).toList = t103.toList
         ·rw [if_pos c20] at H
          have c20b0 : (((qg t102 x11_2).f0.f0).toList == t103.toList) = true := beq_iff_eq.mpr c20
          have c20b1 : (((qg t102 x11_2).f0.f0).toList != t103.toList) = false := bne_eq_false_iff_eq.mpr c20
          clear c20
          by_cases c21 : ((qg t102 x11_2).f0.f1) ≤ t104
          ·rw [if_pos c21] at H
           have c21b0 : decide (((qg t102 x11_2).f0.f1) ≤ t104) = true := decide_eq_true c21
           clear c21
           by_cases c22 : x10_2 < 0
           ·rw [if_pos c22] at H
            have c22b0 : decide (x10_2 < 0) = true := decide_eq_true c22
            clear c22
            have H' := Qz.mk H
            clear H
            try go_wp2
            replace HO_3 := Qz.mk (Kd.R_drew HO_3.out)
            replace HB := Qz.mk (qb HB.out)
            have p112 : 0 ≤ (x11_2 : Int) := of_decide_eq_true (by first | (with_reducible assumption) | assumption)
            have q112 : x11_2 < (t102.length : Int) := of_decide_eq_true (by first | (with_reducible assumption) | assumption)
            obtain ⟨ad112, e112, hx112_0, hx112_1, hx112_2, hx112_3⟩ := at_T48 (Kd.R_reads' HO_3.out).2.2 x11_2 p112 q112
            cases e112
            replace p112 := eq_true p112
            replace q112 := eq_true q112
            have p113 : 0 ≤ (x11_2 : Int) := of_decide_eq_true (by first | (with_reducible assumption) | assumption)
            have q113 : x11_2 < (t102.length : Int) := of_decide_eq_true (by first | (with_reducible assumption) | assumption)
            obtain ⟨ad113, e113, hx113_0, hx113_1, hx113_2, hx113_3⟩ := at_T48 (Kd.R_reads' HO_3.out).2.2 x11_2 p113 q113
            obtain rfl : ad112 = ad113 := (by injection e113)
            replace p113 := eq_true p113
            replace q113 := eq_true q113
            refine start_ (n := 36) (S := fun w' => w'.cell? (ad112.add ((x11_2).toNat * 4)) = some (.string ((qg t102 x11_2).f0.f0)) ∧ w'.cell? ⟨(ad112.add ((x11_2).toNat * 4)).block, (ad112.add ((x11_2).toNat * 4)).off + 1, none⟩ = some (.int .i64 ((qg t102 x11_2).f0.f1)) ∧ w'.cell? ⟨(ad112.add ((x11_2).toNat * 4)).block, (ad112.add ((x11_2).toNat * 4)).off + 2, none⟩ = some (.int .i64 ((qg t102 x11_2).f0.f2)) ∧ w'.cell? ⟨(ad112.add ((x11_2).toNat * 4)).block, (ad112.add ((x11_2).toNat * 4)).off + 3, none⟩ = some (.string ((qg t102 x11_2).f1)) ∧ w'.cell? (ad112.add ((x11_2).toNat * 4)) = some (.string ((qg t102 x11_2).f0.f0)) ∧ w'.cell? ⟨(ad112.add ((x11_2).toNat * 4)).block, (ad112.add ((x11_2).toNat * 4)).off + 1, none⟩ = some (.int .i64 ((qg t102 x11_2).f0.f1)) ∧ w'.cell? ⟨(ad112.add ((x11_2).toNat * 4)).block, (ad112.add ((x11_2).toNat * 4)).off + 2, none⟩ = some (.int .i64 ((qg t102 x11_2).f0.f2)) ∧ w'.cell? ⟨(ad112.add ((x11_2).toNat * 4)).block, (ad112.add ((x11_2).toNat * 4)).off + 3, none⟩ = some (.string ((qg t102 x11_2).f1))) (ds := []) bq0 (by kernel_rfl) rfl rfl ⟨hx112_0, hx112_1, hx112_2, hx112_3, hx113_0, hx113_1, hx113_2, hx113_3⟩ (fun hHeld => ?_); refine with_tabW laws_FnGot.tab12 laws_FnGot.bits12 (fun HT_ HW_ => ?_)
            generalize wr.drew = w23 at HO_3 HB hx112_0 hx112_1 hx112_2 hx112_3 hx113_0 hx113_1 hx113_2 hx113_3 hHeld ⊢
            refine pure_ (i := 0) (N := some 64) (v := ?_) (a' := ?_) bq7 rfl rfl (qj HT_.out (by kernel_rfl)) (fun _ _ _ h => h) (Or.inl ⟨by rfl, ?_⟩) ?_ ?_
            rotate_left
            ·intro w'
             go_simp
             with_reducible rfl
            rotate_left
            ·simp only [Act.put, sq1, sq2, sq3, i64_w, i32_w]
             rfl
            refine pure_ (i := 1) (N := some 65) (v := ?_) (a' := ?_) bq14 rfl rfl (qj HT_.out (by kernel_rfl)) (fun _ _ _ h => h) (Or.inl ⟨by rfl, ?_⟩) ?_ ?_
            rotate_left
            ·intro w'
             go_simp
             with_reducible rfl
            rotate_left
            ·simp only [Act.put, sq1, sq2, sq3, i64_w, i32_w]
             rfl
            refine pure_ (i := 2) (N := some 66) (v := ?_) (a' := ?_) bq21 rfl rfl (qj HT_.out (by kernel_rfl)) (fun _ _ _ h => h) (Or.inl ⟨by rfl, ?_⟩) ?_ ?_
            rotate_left
            ·intro w'
             go_simp
             with_reducible rfl
            rotate_left
            ·simp only [Act.put, sq1, sq2, sq3, i64_w, i32_w]
             rfl
            refine pure_ (i := 3) (N := some 67) (v := ?_) (a' := ?_) bq28 rfl rfl (qj HT_.out (by kernel_rfl)) (fun _ _ _ h => h) (Or.inl ⟨by rfl, ?_⟩) ?_ ?_
            rotate_left
            ·intro w'
             go_simp
             with_reducible rfl
            rotate_left
            ·simp only [Act.put, sq1, sq2, sq3, i64_w, i32_w]
             rfl
            refine pure_ (i := 4) (N := some 68) (v := ?_) (a' := ?_) bq38 rfl rfl (qj HT_.out (by kernel_rfl)) (fun _ _ _ h => h) (Or.inl ⟨by rfl, ?_⟩) ?_ ?_
            rotate_left
            ·intro w'
             go_simp
             with_reducible rfl
            rotate_left
            ·simp only [Act.put, sq1, sq2, sq3, i64_w, i32_w]
             rfl
            refine pure_ (i := 6) (N := some 70) (v := ?_) (a' := ?_) bq44 rfl rfl (qj HT_.out (by kernel_rfl)) (fun _ _ _ h => h) (Or.inl ⟨by rfl, ?_⟩) ?_ ?_
            rotate_left
            ·intro w'
             go_simp
             with_reducible rfl
            rotate_left
            ·simp only [Act.put, sq1, sq2, sq3, i64_w, i32_w]
             rfl
            refine take_ (i := 5) (N := some 69) (v := ?_) (a' := ?_) bq50 rfl rfl (take_ofW HT_.out HW_.out (by kernel_rfl)) (fun _ _ _ h => h) (Or.inl ⟨by rfl, ?_⟩) hHeld ?_ ?_
            rotate_left
            ·rintro w' ⟨s0, s1, s2, s3, s4, s5, s6, s7⟩
             go_simp
             with_reducible rfl
            rotate_left
            ·simp only [Act.put, sq1, sq2, sq3, i64_w, i32_w]
             rfl
            refine pure_ (i := 7) (N := some 71) (v := ?_) (a' := ?_) bq56 rfl rfl (qj HT_.out (by kernel_rfl)) (fun _ _ _ h => h) (Or.inl ⟨by rfl, ?_⟩) ?_ ?_
            rotate_left
            ·intro w'
             go_simp
             with_reducible rfl
            rotate_left
            ·simp only [Act.put, sq1, sq2, sq3, i64_w, i32_w]
             rfl
            refine pure_ (i := 8) (N := some 72) (v := ?_) (a' := ?_) bq63 rfl rfl (qj HT_.out (by kernel_rfl)) (fun _ _ _ h => h) (Or.inl ⟨by rfl, ?_⟩) ?_ ?_
            rotate_left
            ·intro w'
             go_simp
             with_reducible rfl
            rotate_left
            ·simp only [Act.put, sq1, sq2, sq3, i64_w, i32_w]
             rfl
            refine pure_ (i := 9) (N := some 73) (v := ?_) (a' := ?_) bq72 rfl rfl (qj HT_.out (by kernel_rfl)) (fun _ _ _ h => h) (Or.inl ⟨by rfl, ?_⟩) ?_ ?_
            rotate_left
            ·intro w'
             go_simp
             with_reducible rfl
            rotate_left
            ·simp only [Act.put, sq1, sq2, sq3, i64_w, i32_w]
             rfl
            refine pure_ (i := 10) (N := some 74) (v := ?_) (a' := ?_) bq76 rfl rfl (qj HT_.out (by kernel_rfl)) (fun _ _ _ h => h) (Or.inl ⟨by rfl, ?_⟩) ?_ ?_
            rotate_left
            ·intro w'
             go_simp
             with_reducible rfl
            rotate_left
            ·simp only [Act.put, sq1, sq2, sq3, i64_w, i32_w]
             rfl
            refine pure_ (i := 11) (N := some 75) (v := ?_) (a' := ?_) bq82 rfl rfl (qj HT_.out (by kernel_rfl)) (fun _ _ _ h => h) (Or.inl ⟨by rfl, ?_⟩) ?_ ?_
            rotate_left
            ·intro w'
             go_simp
             with_reducible rfl
            rotate_left
            ·simp only [Act.put, sq1, sq2, sq3, i64_w, i32_w]
             rfl
            refine pure_ (i := 12) (N := some 76) (v := ?_) (a' := ?_) bq89 rfl rfl (qj HT_.out (by kernel_rfl)) (fun _ _ _ h => h) (Or.inl ⟨by rfl, ?_⟩) ?_ ?_
            rotate_left
            ·intro w'
             go_simp
             with_reducible rfl
            rotate_left
            ·simp only [Act.put, sq1, sq2, sq3, i64_w, i32_w]
             rfl
            refine pure_ (i := 13) (N := some 77) (v := ?_) (a' := ?_) bq95 rfl rfl (qj HT_.out (by kernel_rfl)) (fun _ _ _ h => h) (Or.inl ⟨by rfl, ?_⟩) ?_ ?_
            rotate_left
            ·intro w'
             go_simp
             with_reducible rfl
            rotate_left
            ·simp only [Act.put, sq1, sq2, sq3, i64_w, i32_w]
             rfl
            refine pure_ (i := 15) (N := some 79) (v := ?_) (a' := ?_) bq99 rfl rfl (qj HT_.out (by kernel_rfl)) (fun _ _ _ h => h) (Or.inl ⟨by rfl, ?_⟩) ?_ ?_
            rotate_left
            ·intro w'
             go_simp
             with_reducible rfl
            rotate_left
            ·simp only [Act.put, sq1, sq2, sq3, i64_w, i32_w]
             rfl
            refine take_ (i := 14) (N := some 78) (v := ?_) (a' := ?_) bq107 rfl rfl (take_ofW HT_.out HW_.out (by kernel_rfl)) (fun _ _ _ h => h) (Or.inl ⟨by rfl, ?_⟩) hHeld ?_ ?_
            rotate_left
            ·rintro w' ⟨s0, s1, s2, s3, s4, s5, s6, s7⟩
             go_simp
             with_reducible rfl
            rotate_left
            ·simp only [Act.put, sq1, sq2, sq3, i64_w, i32_w]
             rfl
            refine pure_ (i := 16) (N := some 80) (v := ?_) (a' := ?_) bq110 rfl rfl (qj HT_.out (by kernel_rfl)) (fun _ _ _ h => h) (Or.inl ⟨by rfl, ?_⟩) ?_ ?_
            rotate_left
            ·intro w'
             go_simp
             with_reducible rfl
            rotate_left
            ·simp only [Act.put, sq1, sq2, sq3, i64_w, i32_w]
             rfl
            refine pure_ (i := 17) (N := some 81) (v := ?_) (a' := ?_) bq113 rfl rfl (qj HT_.out (by kernel_rfl)) (fun _ _ _ h => h) (Or.inl ⟨by rfl, ?_⟩) ?_ ?_
            rotate_left
            ·intro w'
             go_simp
             with_reducible rfl
            rotate_left
            ·simp only [Act.put, sq1, sq2, sq3, i64_w, i32_w]
             rfl
            refine pure_ (i := 18) (N := some 82) (v := ?_) (a' := ?_) bq116 rfl rfl (qj HT_.out (by kernel_rfl)) (fun _ _ _ h => h) (Or.inl ⟨by rfl, ?_⟩) ?_ ?_
            rotate_left
            ·intro w'
             go_simp
             with_reducible rfl
            rotate_left
            ·simp only [Act.put, sq1, sq2, sq3, i64_w, i32_w]
             rfl
            refine pure_ (i := 19) (N := some 83) (v := ?_) (a' := ?_) bq118 rfl rfl (qj HT_.out (by kernel_rfl)) (fun _ _ _ h => h) (Or.inl ⟨by rfl, ?_⟩) ?_ ?_
            rotate_left
            ·intro w'
             go_simp
             with_reducible rfl
            rotate_left
            ·simp only [Act.put, sq1, sq2, sq3, i64_w, i32_w]
             rfl
            refine pure_ (i := 20) (N := some 84) (v := ?_) (a' := ?_) bq120 rfl rfl (qj HT_.out (by kernel_rfl)) (fun _ _ _ h => h) (Or.inl ⟨by rfl, ?_⟩) ?_ ?_
            rotate_left
            ·intro w'
             go_simp
             with_reducible rfl
            rotate_left
            ·simp only [Act.put, sq1, sq2, sq3, i64_w, i32_w]
             rfl
            refine pure_ (i := 21) (N := some 85) (v := ?_) (a' := ?_) bq122 rfl rfl (qj HT_.out (by kernel_rfl)) (fun _ _ _ h => h) (Or.inl ⟨by rfl, ?_⟩) ?_ ?_
            rotate_left
            ·intro w'
             go_simp
             with_reducible rfl
            rotate_left
            ·simp only [Act.put, sq1, sq2, sq3, i64_w, i32_w]
             rfl
            refine pure_ (i := 22) (N := some 86) (v := undef) (a' := ?_) bq125 rfl rfl (qj HT_.out (by kernel_rfl)) (fun _ _ _ h => h) (Or.inr ⟨by rfl, rfl⟩) ?_ ?_
            rotate_left
            ·simp only [Act.put, sq1, sq2, sq3, i64_w, i32_w]
             rfl
            refine pure_ (i := 23) (N := some 87) (v := undef) (a' := ?_) bq128 rfl rfl (qj HT_.out (by kernel_rfl)) (fun _ _ _ h => h) (Or.inr ⟨by rfl, rfl⟩) ?_ ?_
            rotate_left
            ·simp only [Act.put, sq1, sq2, sq3, i64_w, i32_w]
             rfl
            refine pure_ (i := 24) (N := some 88) (v := undef) (a' := ?_) bq131 rfl rfl (qj HT_.out (by kernel_rfl)) (fun _ _ _ h => h) (Or.inr ⟨by rfl, rfl⟩) ?_ ?_
            rotate_left
            ·simp only [Act.put, sq1, sq2, sq3, i64_w, i32_w]
             rfl
            refine pure_ (i := 25) (N := some 89) (v := undef) (a' := ?_) bq133 rfl rfl (qj HT_.out (by kernel_rfl)) (fun _ _ _ h => h) (Or.inr ⟨by rfl, rfl⟩) ?_ ?_
            rotate_left
            ·simp only [Act.put, sq1, sq2, sq3, i64_w, i32_w]
             rfl
            refine pure_ (i := 26) (N := some 90) (v := undef) (a' := ?_) bq139 rfl rfl (qj HT_.out (by kernel_rfl)) (fun _ _ _ h => h) (Or.inr ⟨by rfl, rfl⟩) ?_ ?_
            rotate_left
            ·simp only [Act.put, sq1, sq2, sq3, i64_w, i32_w]
             rfl
            refine pure_ (i := 27) (N := some 91) (v := undef) (a' := ?_) bq141 rfl rfl (qj HT_.out (by kernel_rfl)) (fun _ _ _ h => h) (Or.inr ⟨by rfl, rfl⟩) ?_ ?_
            rotate_left
            ·simp only [Act.put, sq1, sq2, sq3, i64_w, i32_w]
             rfl
            refine pure_ (i := 28) (N := some 92) (v := undef) (a' := ?_) bq143 rfl rfl (qj HT_.out (by kernel_rfl)) (fun _ _ _ h => h) (Or.inr ⟨by rfl, rfl⟩) ?_ ?_
            rotate_left
            ·simp only [Act.put, sq1, sq2, sq3, i64_w, i32_w]
             rfl
            refine pure_ (i := 29) (N := some 93) (v := undef) (a' := ?_) bq144 rfl rfl (qj HT_.out (by kernel_rfl)) (fun _ _ _ h => h) (Or.inr ⟨by rfl, rfl⟩) ?_ ?_
            rotate_left
            ·simp only [Act.put, sq1, sq2, sq3, i64_w, i32_w]
             rfl
            refine pure_ (i := 30) (N := some 94) (v := undef) (a' := ?_) bq145 rfl rfl (qj HT_.out (by kernel_rfl)) (fun _ _ _ h => h) (Or.inr ⟨by rfl, rfl⟩) ?_ ?_
            rotate_left
            ·simp only [Act.put, sq1, sq2, sq3, i64_w, i32_w]
             rfl
            refine pure_ (i := 31) (N := some 95) (v := undef) (a' := ?_) bq146 rfl rfl (qj HT_.out (by kernel_rfl)) (fun _ _ _ h => h) (Or.inr ⟨by rfl, rfl⟩) ?_ ?_
            rotate_left
            ·simp only [Act.put, sq1, sq2, sq3, i64_w, i32_w]
             rfl
            refine pure_ (i := 32) (N := some 96) (v := undef) (a' := ?_) bq147 rfl rfl (qj HT_.out (by kernel_rfl)) (fun _ _ _ h => h) (Or.inr ⟨by rfl, rfl⟩) ?_ ?_
            rotate_left
            ·simp only [Act.put, sq1, sq2, sq3, i64_w, i32_w]
             rfl
            refine pure_ (i := 33) (N := some 97) (v := undef) (a' := ?_) bq148 rfl rfl (qj HT_.out (by kernel_rfl)) (fun _ _ _ h => h) (Or.inr ⟨by rfl, rfl⟩) ?_ ?_
            rotate_left
            ·simp only [Act.put, sq1, sq2, sq3, i64_w, i32_w]
             rfl
            refine pure_ (i := 34) (N := some 98) (v := ?_) (a' := ?_) bq149 rfl rfl (qj HT_.out (by kernel_rfl)) (fun _ _ _ h => h) (Or.inl ⟨by rfl, ?_⟩) ?_ ?_
            rotate_left
            ·intro w'
             go_simp
             with_reducible rfl
            rotate_left
            ·simp only [Act.put, sq1, sq2, sq3, i64_w, i32_w]
             rfl
            refine pure_ (i := 35) (N := some 99) (v := ?_) (a' := ?_) bq150 rfl rfl (qj HT_.out (by kernel_rfl)) (fun _ _ _ h => h) (Or.inl ⟨by rfl, ?_⟩) ?_ ?_
            rotate_left
            ·intro w'
             go_simp
             with_reducible rfl
            rotate_left
            ·simp only [Act.put, sq1, sq2, sq3, i64_w, i32_w]
             rfl
            refine done_ (done_of HT_.out (by kernel_rfl)) ?_
            try go_wp2
            go_roundg k2
            case measure => have := HJ6.out; have := HK2.out; omega
            case rel => exact ⟨(x11_2), (wrap64 (x11_2 + 1)), (by first | rfl | (simp; done) | (simp [*]; done)), (by first | rfl | (simp; done) | (simp [*]; done)), H', ⟨by have := HJ6.out; have := HK2.out; omega⟩, ⟨by (with_reducible repeat (first | apply Kd.R_alloc | apply Kd.R_drewN | apply Kd.R_drew)); exact HO_3.out⟩, ⟨by repeat (first | (with_reducible first | exact HB.out | apply qc | apply qa | apply qb) | exact HB.out)⟩⟩
           ·rw [if_neg c22] at H
            have c22b0 : decide (x10_2 < 0) = false := decide_eq_false c22
            clear c22
            by_cases c24 : 0 ≤ x10_2
            ·rw [if_pos c24] at H
             have c24b0 : decide (0 ≤ x10_2) = true := decide_eq_true c24
             clear c24
             by_cases c25 : x10_2 < (t102.length : Int)
             ·rw [if_pos c25] at H
              have c25b0 : decide (x10_2 < (t102.length : Int)) = true := decide_eq_true c25
              clear c25
              replace H := Option.bind_eq_some_iff.mp H
              obtain ⟨t116, A260, H⟩ := H
              replace H : (if t116 < 0 then (laws_FnGot.l0 k2 t102 t103 t104 t107 t108 x11_2 (wrap64 (x11_2 + 1))) else (laws_FnGot.l0 k2 t102 t103 t104 t107 t108 x10_2 (wrap64 (x11_2 + 1)))) = some r := H
              have A26 := Qz.mk A260
              clear A260
              by_cases c27 : t116 < 0
              ·rw [if_pos c27] at H
               have c27b0 : decide (t116 < 0) = true := decide_eq_true c27
               clear c27
               have H' := Qz.mk H
               clear H
               try go_wp2
               replace HO_3 := Qz.mk (Kd.R_drew HO_3.out)
               replace HB := Qz.mk (qb HB.out)
               have p112 : 0 ≤ (x11_2 : Int) := of_decide_eq_true (by first | (with_reducible assumption) | assumption)
               have q112 : x11_2 < (t102.length : Int) := of_decide_eq_true (by first | (with_reducible assumption) | assumption)
               obtain ⟨ad112, e112, hx112_0, hx112_1, hx112_2, hx112_3⟩ := at_T48 (Kd.R_reads' HO_3.out).2.2 x11_2 p112 q112
               cases e112
               replace p112 := eq_true p112
               replace q112 := eq_true q112
               have p113 : 0 ≤ (x11_2 : Int) := of_decide_eq_true (by first | (with_reducible assumption) | assumption)
               have q113 : x11_2 < (t102.length : Int) := of_decide_eq_true (by first | (with_reducible assumption) | assumption)
               obtain ⟨ad113, e113, hx113_0, hx113_1, hx113_2, hx113_3⟩ := at_T48 (Kd.R_reads' HO_3.out).2.2 x11_2 p113 q113
               obtain rfl : ad112 = ad113 := (by injection e113)
               replace p113 := eq_true p113
               replace q113 := eq_true q113
               have p114 : 0 ≤ (x11_2 : Int) := of_decide_eq_true (by first | (with_reducible assumption) | assumption)
               have q114 : x11_2 < (t102.length : Int) := of_decide_eq_true (by first | (with_reducible assumption) | assumption)
               obtain ⟨ad114, e114, hx114_0, hx114_1, hx114_2, hx114_3⟩ := at_T48 (Kd.R_reads' HO_3.out).2.2 x11_2 p114 q114
               obtain rfl : ad112 = ad114 := (by injection e114)
               replace p114 := eq_true p114
               replace q114 := eq_true q114
               have p115 : 0 ≤ (x10_2 : Int) := of_decide_eq_true (by first | (with_reducible assumption) | assumption)
               have q115 : x10_2 < (t102.length : Int) := of_decide_eq_true (by first | (with_reducible assumption) | assumption)
               obtain ⟨ad115, e115, hx115_0, hx115_1, hx115_2, hx115_3⟩ := at_T48 (Kd.R_reads' HO_3.out).2.2 x10_2 p115 q115
               obtain rfl : ad112 = ad115 := (by injection e115)
               replace p115 := eq_true p115
               replace q115 := eq_true q115
               refine start_ (n := 36) (S := fun w' => w'.cell? (ad112.add ((x11_2).toNat * 4)) = some (.string ((qg t102 x11_2).f0.f0)) ∧ w'.cell? ⟨(ad112.add ((x11_2).toNat * 4)).block, (ad112.add ((x11_2).toNat * 4)).off + 1, none⟩ = some (.int .i64 ((qg t102 x11_2).f0.f1)) ∧ w'.cell? ⟨(ad112.add ((x11_2).toNat * 4)).block, (ad112.add ((x11_2).toNat * 4)).off + 2, none⟩ = some (.int .i64 ((qg t102 x11_2).f0.f2)) ∧ w'.cell? ⟨(ad112.add ((x11_2).toNat * 4)).block, (ad112.add ((x11_2).toNat * 4)).off + 3, none⟩ = some (.string ((qg t102 x11_2).f1)) ∧ w'.cell? (ad112.add ((x11_2).toNat * 4)) = some (.string ((qg t102 x11_2).f0.f0)) ∧ w'.cell? ⟨(ad112.add ((x11_2).toNat * 4)).block, (ad112.add ((x11_2).toNat * 4)).off + 1, none⟩ = some (.int .i64 ((qg t102 x11_2).f0.f1)) ∧ w'.cell? ⟨(ad112.add ((x11_2).toNat * 4)).block, (ad112.add ((x11_2).toNat * 4)).off + 2, none⟩ = some (.int .i64 ((qg t102 x11_2).f0.f2)) ∧ w'.cell? ⟨(ad112.add ((x11_2).toNat * 4)).block, (ad112.add ((x11_2).toNat * 4)).off + 3, none⟩ = some (.string ((qg t102 x11_2).f1)) ∧ w'.cell? (ad112.add ((x11_2).toNat * 4)) = some (.string ((qg t102 x11_2).f0.f0)) ∧ w'.cell? ⟨(ad112.add ((x11_2).toNat * 4)).block, (ad112.add ((x11_2).toNat * 4)).off + 1, none⟩ = some (.int .i64 ((qg t102 x11_2).f0.f1)) ∧ w'.cell? ⟨(ad112.add ((x11_2).toNat * 4)).block, (ad112.add ((x11_2).toNat * 4)).off + 2, none⟩ = some (.int .i64 ((qg t102 x11_2).f0.f2)) ∧ w'.cell? ⟨(ad112.add ((x11_2).toNat * 4)).block, (ad112.add ((x11_2).toNat * 4)).off + 3, none⟩ = some (.string ((qg t102 x11_2).f1)) ∧ w'.cell? (ad112.add ((x10_2).toNat * 4)) = some (.string ((qg t102 x10_2).f0.f0)) ∧ w'.cell? ⟨(ad112.add ((x10_2).toNat * 4)).block, (ad112.add ((x10_2).toNat * 4)).off + 1, none⟩ = some (.int .i64 ((qg t102 x10_2).f0.f1)) ∧ w'.cell? ⟨(ad112.add ((x10_2).toNat * 4)).block, (ad112.add ((x10_2).toNat * 4)).off + 2, none⟩ = some (.int .i64 ((qg t102 x10_2).f0.f2)) ∧ w'.cell? ⟨(ad112.add ((x10_2).toNat * 4)).block, (ad112.add ((x10_2).toNat * 4)).off + 3, none⟩ = some (.string ((qg t102 x10_2).f1))) (ds := []) bq0 (by kernel_rfl) rfl rfl ⟨hx112_0, hx112_1, hx112_2, hx112_3, hx113_0, hx113_1, hx113_2, hx113_3, hx114_0, hx114_1, hx114_2, hx114_3, hx115_0, hx115_1, hx115_2, hx115_3⟩ (fun hHeld => ?_); refine with_tabW laws_FnGot.tab12 laws_FnGot.bits12 (fun HT_ HW_ => ?_)
               generalize wr.drew = w28 at HO_3 HB hx112_0 hx112_1 hx112_2 hx112_3 hx113_0 hx113_1 hx113_2 hx113_3 hx114_0 hx114_1 hx114_2 hx114_3 hx115_0 hx115_1 hx115_2 hx115_3 hHeld ⊢
               refine pure_ (i := 0) (N := some 64) (v := ?_) (a' := ?_) bq7 rfl rfl (qj HT_.out (by kernel_rfl)) (fun _ _ _ h => h) (Or.inl ⟨by rfl, ?_⟩) ?_ ?_
               rotate_left
               ·intro w'
                go_simp
                with_reducible rfl
               rotate_left
               ·simp only [Act.put, sq1, sq2, sq3, i64_w, i32_w]
                rfl
               refine pure_ (i := 1) (N := some 65) (v := ?_) (a' := ?_) bq14 rfl rfl (qj HT_.out (by kernel_rfl)) (fun _ _ _ h => h) (Or.inl ⟨by rfl, ?_⟩) ?_ ?_
               rotate_left
               ·intro w'
                go_simp
                with_reducible rfl
               rotate_left
               ·simp only [Act.put, sq1, sq2, sq3, i64_w, i32_w]
                rfl
               refine pure_ (i := 2) (N := some 66) (v := ?_) (a' := ?_) bq21 rfl rfl (qj HT_.out (by kernel_rfl)) (fun _ _ _ h => h) (Or.inl ⟨by rfl, ?_⟩) ?_ ?_
               rotate_left
               ·intro w'
                go_simp
                with_reducible rfl
               rotate_left
               ·simp only [Act.put, sq1, sq2, sq3, i64_w, i32_w]
                rfl
               refine pure_ (i := 3) (N := some 67) (v := ?_) (a' := ?_) bq28 rfl rfl (qj HT_.out (by kernel_rfl)) (fun _ _ _ h => h) (Or.inl ⟨by rfl, ?_⟩) ?_ ?_
               rotate_left
               ·intro w'
                go_simp
                with_reducible rfl
               rotate_left
               ·simp only [Act.put, sq1, sq2, sq3, i64_w, i32_w]
                rfl
               refine pure_ (i := 4) (N := some 68) (v := ?_) (a' := ?_) bq38 rfl rfl (qj HT_.out (by kernel_rfl)) (fun _ _ _ h => h) (Or.inl ⟨by rfl, ?_⟩) ?_ ?_
               rotate_left
               ·intro w'
                go_simp
                with_reducible rfl
               rotate_left
               ·simp only [Act.put, sq1, sq2, sq3, i64_w, i32_w]
                rfl
               refine pure_ (i := 6) (N := some 70) (v := ?_) (a' := ?_) bq44 rfl rfl (qj HT_.out (by kernel_rfl)) (fun _ _ _ h => h) (Or.inl ⟨by rfl, ?_⟩) ?_ ?_
               rotate_left
               ·intro w'
                go_simp
                with_reducible rfl
               rotate_left
               ·simp only [Act.put, sq1, sq2, sq3, i64_w, i32_w]
                rfl
               refine take_ (i := 5) (N := some 69) (v := ?_) (a' := ?_) bq50 rfl rfl (take_ofW HT_.out HW_.out (by kernel_rfl)) (fun _ _ _ h => h) (Or.inl ⟨by rfl, ?_⟩) hHeld ?_ ?_
               rotate_left
               ·rintro w' ⟨s0, s1, s2, s3, s4, s5, s6, s7, s8, s9, s10, s11, s12, s13, s14, s15⟩
                go_simp
                with_reducible rfl
               rotate_left
               ·simp only [Act.put, sq1, sq2, sq3, i64_w, i32_w]
                rfl
               refine pure_ (i := 7) (N := some 71) (v := ?_) (a' := ?_) bq56 rfl rfl (qj HT_.out (by kernel_rfl)) (fun _ _ _ h => h) (Or.inl ⟨by rfl, ?_⟩) ?_ ?_
               rotate_left
               ·intro w'
                go_simp
                with_reducible rfl
               rotate_left
               ·simp only [Act.put, sq1, sq2, sq3, i64_w, i32_w]
                rfl
               refine pure_ (i := 8) (N := some 72) (v := ?_) (a' := ?_) bq63 rfl rfl (qj HT_.out (by kernel_rfl)) (fun _ _ _ h => h) (Or.inl ⟨by rfl, ?_⟩) ?_ ?_
               rotate_left
               ·intro w'
                go_simp
                with_reducible rfl
               rotate_left
               ·simp only [Act.put, sq1, sq2, sq3, i64_w, i32_w]
                rfl
               refine pure_ (i := 9) (N := some 73) (v := ?_) (a' := ?_) bq72 rfl rfl (qj HT_.out (by kernel_rfl)) (fun _ _ _ h => h) (Or.inl ⟨by rfl, ?_⟩) ?_ ?_
               rotate_left
               ·intro w'
                go_simp
                with_reducible rfl
               rotate_left
               ·simp only [Act.put, sq1, sq2, sq3, i64_w, i32_w]
                rfl
               refine pure_ (i := 10) (N := some 74) (v := ?_) (a' := ?_) bq76 rfl rfl (qj HT_.out (by kernel_rfl)) (fun _ _ _ h => h) (Or.inl ⟨by rfl, ?_⟩) ?_ ?_
               rotate_left
               ·intro w'
                go_simp
                with_reducible rfl
               rotate_left
               ·simp only [Act.put, sq1, sq2, sq3, i64_w, i32_w]
                rfl
               refine pure_ (i := 11) (N := some 75) (v := ?_) (a' := ?_) bq82 rfl rfl (qj HT_.out (by kernel_rfl)) (fun _ _ _ h => h) (Or.inl ⟨by rfl, ?_⟩) ?_ ?_
               rotate_left
               ·intro w'
                go_simp
                with_reducible rfl
               rotate_left
               ·simp only [Act.put, sq1, sq2, sq3, i64_w, i32_w]
                rfl
               refine pure_ (i := 12) (N := some 76) (v := ?_) (a' := ?_) bq89 rfl rfl (qj HT_.out (by kernel_rfl)) (fun _ _ _ h => h) (Or.inl ⟨by rfl, ?_⟩) ?_ ?_
               rotate_left
               ·intro w'
                go_simp
                with_reducible rfl
               rotate_left
               ·simp only [Act.put, sq1, sq2, sq3, i64_w, i32_w]
                rfl
               refine pure_ (i := 13) (N := some 77) (v := ?_) (a' := ?_) bq95 rfl rfl (qj HT_.out (by kernel_rfl)) (fun _ _ _ h => h) (Or.inl ⟨by rfl, ?_⟩) ?_ ?_
               rotate_left
               ·intro w'
                go_simp
                with_reducible rfl
               rotate_left
               ·simp only [Act.put, sq1, sq2, sq3, i64_w, i32_w]
                rfl
               refine pure_ (i := 15) (N := some 79) (v := ?_) (a' := ?_) bq99 rfl rfl (qj HT_.out (by kernel_rfl)) (fun _ _ _ h => h) (Or.inl ⟨by rfl, ?_⟩) ?_ ?_
               rotate_left
               ·intro w'
                go_simp
                with_reducible rfl
               rotate_left
               ·simp only [Act.put, sq1, sq2, sq3, i64_w, i32_w]
                rfl
               refine take_ (i := 14) (N := some 78) (v := ?_) (a' := ?_) bq107 rfl rfl (take_ofW HT_.out HW_.out (by kernel_rfl)) (fun _ _ _ h => h) (Or.inl ⟨by rfl, ?_⟩) hHeld ?_ ?_
               rotate_left
               ·rintro w' ⟨s0, s1, s2, s3, s4, s5, s6, s7, s8, s9, s10, s11, s12, s13, s14, s15⟩
                go_simp
                with_reducible rfl
               rotate_left
               ·simp only [Act.put, sq1, sq2, sq3, i64_w, i32_w]
                rfl
               refine pure_ (i := 16) (N := some 80) (v := ?_) (a' := ?_) bq110 rfl rfl (qj HT_.out (by kernel_rfl)) (fun _ _ _ h => h) (Or.inl ⟨by rfl, ?_⟩) ?_ ?_
               rotate_left
               ·intro w'
                go_simp
                with_reducible rfl
               rotate_left
               ·simp only [Act.put, sq1, sq2, sq3, i64_w, i32_w]
                rfl
               refine pure_ (i := 17) (N := some 81) (v := ?_) (a' := ?_) bq113 rfl rfl (qj HT_.out (by kernel_rfl)) (fun _ _ _ h => h) (Or.inl ⟨by rfl, ?_⟩) ?_ ?_
               rotate_left
               ·intro w'
                go_simp
                with_reducible rfl
               rotate_left
               ·simp only [Act.put, sq1, sq2, sq3, i64_w, i32_w]
                rfl
               refine pure_ (i := 18) (N := some 82) (v := ?_) (a' := ?_) bq116 rfl rfl (qj HT_.out (by kernel_rfl)) (fun _ _ _ h => h) (Or.inl ⟨by rfl, ?_⟩) ?_ ?_
               rotate_left
               ·intro w'
                go_simp
                with_reducible rfl
               rotate_left
               ·simp only [Act.put, sq1, sq2, sq3, i64_w, i32_w]
                rfl
               refine pure_ (i := 19) (N := some 83) (v := ?_) (a' := ?_) bq118 rfl rfl (qj HT_.out (by kernel_rfl)) (fun _ _ _ h => h) (Or.inl ⟨by rfl, ?_⟩) ?_ ?_
               rotate_left
               ·intro w'
                go_simp
                with_reducible rfl
               rotate_left
               ·simp only [Act.put, sq1, sq2, sq3, i64_w, i32_w]
                rfl
               refine pure_ (i := 20) (N := some 84) (v := ?_) (a' := ?_) bq120 rfl rfl (qj HT_.out (by kernel_rfl)) (fun _ _ _ h => h) (Or.inl ⟨by rfl, ?_⟩) ?_ ?_
               rotate_left
               ·intro w'
                go_simp
                with_reducible rfl
               rotate_left
               ·simp only [Act.put, sq1, sq2, sq3, i64_w, i32_w]
                rfl
               refine pure_ (i := 21) (N := some 85) (v := ?_) (a' := ?_) bq122 rfl rfl (qj HT_.out (by kernel_rfl)) (fun _ _ _ h => h) (Or.inl ⟨by rfl, ?_⟩) ?_ ?_
               rotate_left
               ·intro w'
                go_simp
                with_reducible rfl
               rotate_left
               ·simp only [Act.put, sq1, sq2, sq3, i64_w, i32_w]
                rfl
               refine pure_ (i := 22) (N := some 86) (v := ?_) (a' := ?_) bq125 rfl rfl (qj HT_.out (by kernel_rfl)) (fun _ _ _ h => h) (Or.inl ⟨by rfl, ?_⟩) ?_ ?_
               rotate_left
               ·intro w'
                go_simp
                with_reducible rfl
               rotate_left
               ·simp only [Act.put, sq1, sq2, sq3, i64_w, i32_w]
                rfl
               refine pure_ (i := 23) (N := some 87) (v := ?_) (a' := ?_) bq128 rfl rfl (qj HT_.out (by kernel_rfl)) (fun _ _ _ h => h) (Or.inl ⟨by rfl, ?_⟩) ?_ ?_
               rotate_left
               ·intro w'
                go_simp
                with_reducible rfl
               rotate_left
               ·simp only [Act.put, sq1, sq2, sq3, i64_w, i32_w]
                rfl
               refine pure_ (i := 24) (N := some 88) (v := ?_) (a' := ?_) bq131 rfl rfl (qj HT_.out (by kernel_rfl)) (fun _ _ _ h => h) (Or.inl ⟨by rfl, ?_⟩) ?_ ?_
               rotate_left
               ·intro w'
                go_simp
                with_reducible rfl
               rotate_left
               ·simp only [Act.put, sq1, sq2, sq3, i64_w, i32_w]
                rfl
               refine pure_ (i := 25) (N := some 89) (v := ?_) (a' := ?_) bq133 rfl rfl (qj HT_.out (by kernel_rfl)) (fun _ _ _ h => h) (Or.inl ⟨by rfl, ?_⟩) ?_ ?_
               rotate_left
               ·intro w'
                go_simp
                with_reducible rfl
               rotate_left
               ·simp only [Act.put, sq1, sq2, sq3, i64_w, i32_w]
                rfl
               refine pure_ (i := 27) (N := some 91) (v := ?_) (a' := ?_) bq135 rfl rfl (qj HT_.out (by kernel_rfl)) (fun _ _ _ h => h) (Or.inl ⟨by rfl, ?_⟩) ?_ ?_
               rotate_left
               ·intro w'
                go_simp
                with_reducible rfl
               rotate_left
               ·simp only [Act.put, sq1, sq2, sq3, i64_w, i32_w]
                rfl
               refine pure_ (i := 28) (N := some 92) (v := ?_) (a' := ?_) bq136 rfl rfl (qj HT_.out (by kernel_rfl)) (fun _ _ _ h => h) (Or.inl ⟨by rfl, ?_⟩) ?_ ?_
               rotate_left
               ·intro w'
                go_simp
                with_reducible rfl
               rotate_left
               ·simp only [Act.put, sq1, sq2, sq3, i64_w, i32_w]
                rfl
               refine pure_ (i := 29) (N := some 93) (v := ?_) (a' := ?_) bq137 rfl rfl (qj HT_.out (by kernel_rfl)) (fun _ _ _ h => h) (Or.inl ⟨by rfl, ?_⟩) ?_ ?_
               rotate_left
               ·intro w'
                go_simp
                with_reducible rfl
               rotate_left
               ·simp only [Act.put, sq1, sq2, sq3, i64_w, i32_w]
                rfl
               refine pure_ (i := 30) (N := some 94) (v := ?_) (a' := ?_) bq138 rfl rfl (qj HT_.out (by kernel_rfl)) (fun _ _ _ h => h) (Or.inl ⟨by rfl, ?_⟩) ?_ ?_
               rotate_left
               ·intro w'
                go_simp
                with_reducible rfl
               rotate_left
               ·simp only [Act.put, sq1, sq2, sq3, i64_w, i32_w]
                rfl
               refine take_ (i := 26) (N := some 90) (v := ?_) (a' := ?_) bq145 rfl rfl (take_ofW HT_.out HW_.out (by kernel_rfl)) (fun _ _ _ h => h) (Or.inl ⟨by rfl, ?_⟩) hHeld ?_ ?_
               rotate_left
               ·rintro w' ⟨s0, s1, s2, s3, s4, s5, s6, s7, s8, s9, s10, s11, s12, s13, s14, s15⟩
                go_simp
                with_reducible rfl
               rotate_left
               ·simp only [Act.put, sq1, sq2, sq3, i64_w, i32_w]
                rfl
               refine take_ (i := 31) (N := some 95) (v := ?_) (a' := ?_) bq146 rfl rfl (take_ofW HT_.out HW_.out (by kernel_rfl)) (fun _ _ _ h => h) (Or.inl ⟨by rfl, ?_⟩) hHeld ?_ ?_
               rotate_left
               ·rintro w' ⟨s0, s1, s2, s3, s4, s5, s6, s7, s8, s9, s10, s11, s12, s13, s14, s15⟩
                go_simp
                with_reducible rfl
               rotate_left
               ·simp only [Act.put, sq1, sq2, sq3, i64_w, i32_w]
                rfl
               refine one_ (i := 32) (N := some 96) bq147 rfl rfl (one_of HT_.out (by kernel_rfl)) (by decide) (fun K hK => ?_)
               refine goes_ Try.func48 (by kernel_rfl) rfl #[.agg #[.string ((qg t102 x11_2).f0.f0), .int .i64 ((qg t102 x11_2).f0.f1), .int .i64 ((qg t102 x11_2).f0.f2)], .agg #[.string ((qg t102 x10_2).f0.f0), .int .i64 ((qg t102 x10_2).f0.f1), .int .i64 ((qg t102 x10_2).f0.f2)]] (by rfl) rfl rfl (by (try simp only [List.map_toArray, List.map_cons, List.map_nil]); first | done | rfl) ?_
               with_reducible refine (impl_KeyCmp.calls k2 ((qg t102 x11_2).f0.f0) ((qg t102 x11_2).f0.f1) ((qg t102 x11_2).f0.f2) ((qg t102 x10_2).f0.f0) ((qg t102 x10_2).f0.f1) ((qg t102 x10_2).f0.f2) t116 _ A26.out).mono ?_
               rintro e w29 ⟨rfl, hb⟩
               have HS0_ := (hb.cell (World.block_lt_of_cell? _ _ (hHeld.1))).trans (hHeld.1)
               have HS1_ := (hb.cell (World.block_lt_of_cell? _ _ (hHeld.2.1))).trans (hHeld.2.1)
               have HS2_ := (hb.cell (World.block_lt_of_cell? _ _ (hHeld.2.2.1))).trans (hHeld.2.2.1)
               have HS3_ := (hb.cell (World.block_lt_of_cell? _ _ (hHeld.2.2.2.1))).trans (hHeld.2.2.2.1)
               have HS4_ := (hb.cell (World.block_lt_of_cell? _ _ (hHeld.2.2.2.2.1))).trans (hHeld.2.2.2.2.1)
               have HS5_ := (hb.cell (World.block_lt_of_cell? _ _ (hHeld.2.2.2.2.2.1))).trans (hHeld.2.2.2.2.2.1)
               have HS6_ := (hb.cell (World.block_lt_of_cell? _ _ (hHeld.2.2.2.2.2.2.1))).trans (hHeld.2.2.2.2.2.2.1)
               have HS7_ := (hb.cell (World.block_lt_of_cell? _ _ (hHeld.2.2.2.2.2.2.2.1))).trans (hHeld.2.2.2.2.2.2.2.1)
               have HS8_ := (hb.cell (World.block_lt_of_cell? _ _ (hHeld.2.2.2.2.2.2.2.2.1))).trans (hHeld.2.2.2.2.2.2.2.2.1)
               have HS9_ := (hb.cell (World.block_lt_of_cell? _ _ (hHeld.2.2.2.2.2.2.2.2.2.1))).trans (hHeld.2.2.2.2.2.2.2.2.2.1)
               have HS10_ := (hb.cell (World.block_lt_of_cell? _ _ (hHeld.2.2.2.2.2.2.2.2.2.2.1))).trans (hHeld.2.2.2.2.2.2.2.2.2.2.1)
               have HS11_ := (hb.cell (World.block_lt_of_cell? _ _ (hHeld.2.2.2.2.2.2.2.2.2.2.2.1))).trans (hHeld.2.2.2.2.2.2.2.2.2.2.2.1)
               have HS12_ := (hb.cell (World.block_lt_of_cell? _ _ (hHeld.2.2.2.2.2.2.2.2.2.2.2.2.1))).trans (hHeld.2.2.2.2.2.2.2.2.2.2.2.2.1)
               have HS13_ := (hb.cell (World.block_lt_of_cell? _ _ (hHeld.2.2.2.2.2.2.2.2.2.2.2.2.2.1))).trans (hHeld.2.2.2.2.2.2.2.2.2.2.2.2.2.1)
               have HS14_ := (hb.cell (World.block_lt_of_cell? _ _ (hHeld.2.2.2.2.2.2.2.2.2.2.2.2.2.2.1))).trans (hHeld.2.2.2.2.2.2.2.2.2.2.2.2.2.2.1)
               have HS15_ := (hb.cell (World.block_lt_of_cell? _ _ (hHeld.2.2.2.2.2.2.2.2.2.2.2.2.2.2.2))).trans (hHeld.2.2.2.2.2.2.2.2.2.2.2.2.2.2.2)
               refine ⟨_, rfl, ?_⟩
               replace HO_3 := Qz.mk (Kd.R_below (by (with_reducible repeat (first | apply Kd.R_alloc | apply Kd.R_drewN | apply Kd.R_drew)); exact HO_3.out) hb)
               replace HB := Qz.mk (qr (by repeat (first | (with_reducible first | exact HB.out | apply qc | apply qa | apply qb) | exact HB.out)) hb)
               (try clear hb)
               refine hK.out _ _ ⟨HS0_, HS1_, HS2_, HS3_, HS4_, HS5_, HS6_, HS7_, HS8_, HS9_, HS10_, HS11_, HS12_, HS13_, HS14_, HS15_⟩ (fun hHeld => ?_)
               clear hK K
               refine norm_ (a' := ?_) ?_ ?_
               rotate_left
               ·show Act.put _ (some 96) _ = _
                simp only [Act.put, sq1, sq2, sq3, i64_w, i32_w]
                rfl
               refine pure_ (i := 33) (N := some 97) (v := ?_) (a' := ?_) bq148 rfl rfl (qj HT_.out (by kernel_rfl)) (fun _ _ _ h => h) (Or.inl ⟨by rfl, ?_⟩) ?_ ?_
               rotate_left
               ·intro w'
                go_simp
                with_reducible rfl
               rotate_left
               ·simp only [Act.put, sq1, sq2, sq3, i64_w, i32_w]
                rfl
               refine pure_ (i := 34) (N := some 98) (v := ?_) (a' := ?_) bq149 rfl rfl (qj HT_.out (by kernel_rfl)) (fun _ _ _ h => h) (Or.inl ⟨by rfl, ?_⟩) ?_ ?_
               rotate_left
               ·intro w'
                go_simp
                with_reducible rfl
               rotate_left
               ·simp only [Act.put, sq1, sq2, sq3, i64_w, i32_w]
                rfl
               refine pure_ (i := 35) (N := some 99) (v := ?_) (a' := ?_) bq150 rfl rfl (qj HT_.out (by kernel_rfl)) (fun _ _ _ h => h) (Or.inl ⟨by rfl, ?_⟩) ?_ ?_
               rotate_left
               ·intro w'
                go_simp
                with_reducible rfl
               rotate_left
               ·simp only [Act.put, sq1, sq2, sq3, i64_w, i32_w]
                rfl
               refine done_ (done_of HT_.out (by kernel_rfl)) ?_
               try go_wp2
               go_roundg k2
               case measure => have := HJ6.out; have := HK2.out; omega
               case rel => exact ⟨(x11_2), (wrap64 (x11_2 + 1)), (by first | rfl | (simp; done) | (simp [*]; done)), (by first | rfl | (simp; done) | (simp [*]; done)), H', ⟨by have := HJ6.out; have := HK2.out; omega⟩, ⟨by (with_reducible repeat (first | apply Kd.R_alloc | apply Kd.R_drewN | apply Kd.R_drew)); exact HO_3.out⟩, ⟨by repeat (first | (with_reducible first | exact HB.out | apply qc | apply qa | apply qb) | exact HB.out)⟩⟩
              ·rw [if_neg c27] at H
               have c27b0 : decide (t116 < 0) = false := decide_eq_false c27
               clear c27
               have H' := Qz.mk H
               clear H
               try go_wp2
               replace HO_3 := Qz.mk (Kd.R_drew HO_3.out)
               replace HB := Qz.mk (qb HB.out)
               have p112 : 0 ≤ (x11_2 : Int) := of_decide_eq_true (by first | (with_reducible assumption) | assumption)
               have q112 : x11_2 < (t102.length : Int) := of_decide_eq_true (by first | (with_reducible assumption) | assumption)
               obtain ⟨ad112, e112, hx112_0, hx112_1, hx112_2, hx112_3⟩ := at_T48 (Kd.R_reads' HO_3.out).2.2 x11_2 p112 q112
               cases e112
               replace p112 := eq_true p112
               replace q112 := eq_true q112
               have p113 : 0 ≤ (x11_2 : Int) := of_decide_eq_true (by first | (with_reducible assumption) | assumption)
               have q113 : x11_2 < (t102.length : Int) := of_decide_eq_true (by first | (with_reducible assumption) | assumption)
               obtain ⟨ad113, e113, hx113_0, hx113_1, hx113_2, hx113_3⟩ := at_T48 (Kd.R_reads' HO_3.out).2.2 x11_2 p113 q113
               obtain rfl : ad112 = ad113 := (by injection e113)
               replace p113 := eq_true p113
               replace q113 := eq_true q113
               have p114 : 0 ≤ (x11_2 : Int) := of_decide_eq_true (by first | (with_reducible assumption) | assumption)
               have q114 : x11_2 < (t102.length : Int) := of_decide_eq_true (by first | (with_reducible assumption) | assumption)
               obtain ⟨ad114, e114, hx114_0, hx114_1, hx114_2, hx114_3⟩ := at_T48 (Kd.R_reads' HO_3.out).2.2 x11_2 p114 q114
               obtain rfl : ad112 = ad114 := (by injection e114)
               replace p114 := eq_true p114
               replace q114 := eq_true q114
               have p115 : 0 ≤ (x10_2 : Int) := of_decide_eq_true (by first | (with_reducible assumption) | assumption)
               have q115 : x10_2 < (t102.length : Int) := of_decide_eq_true (by first | (with_reducible assumption) | assumption)
               obtain ⟨ad115, e115, hx115_0, hx115_1, hx115_2, hx115_3⟩ := at_T48 (Kd.R_reads' HO_3.out).2.2 x10_2 p115 q115
               obtain rfl : ad112 = ad115 := (by injection e115)
               replace p115 := eq_true p115
               replace q115 := eq_true q115
               refine start_ (n := 36) (S := fun w' => w'.cell? (ad112.add ((x11_2).toNat * 4)) = some (.string ((qg t102 x11_2).f0.f0)) ∧ w'.cell? ⟨(ad112.add ((x11_2).toNat * 4)).block, (ad112.add ((x11_2).toNat * 4)).off + 1, none⟩ = some (.int .i64 ((qg t102 x11_2).f0.f1)) ∧ w'.cell? ⟨(ad112.add ((x11_2).toNat * 4)).block, (ad112.add ((x11_2).toNat * 4)).off + 2, none⟩ = some (.int .i64 ((qg t102 x11_2).f0.f2)) ∧ w'.cell? ⟨(ad112.add ((x11_2).toNat * 4)).block, (ad112.add ((x11_2).toNat * 4)).off + 3, none⟩ = some (.string ((qg t102 x11_2).f1)) ∧ w'.cell? (ad112.add ((x11_2).toNat * 4)) = some (.string ((qg t102 x11_2).f0.f0)) ∧ w'.cell? ⟨(ad112.add ((x11_2).toNat * 4)).block, (ad112.add ((x11_2).toNat * 4)).off + 1, none⟩ = some (.int .i64 ((qg t102 x11_2).f0.f1)) ∧ w'.cell? ⟨(ad112.add ((x11_2).toNat * 4)).block, (ad112.add ((x11_2).toNat * 4)).off + 2, none⟩ = some (.int .i64 ((qg t102 x11_2).f0.f2)) ∧ w'.cell? ⟨(ad112.add ((x11_2).toNat * 4)).block, (ad112.add ((x11_2).toNat * 4)).off + 3, none⟩ = some (.string ((qg t102 x11_2).f1)) ∧ w'.cell? (ad112.add ((x11_2).toNat * 4)) = some (.string ((qg t102 x11_2).f0.f0)) ∧ w'.cell? ⟨(ad112.add ((x11_2).toNat * 4)).block, (ad112.add ((x11_2).toNat * 4)).off + 1, none⟩ = some (.int .i64 ((qg t102 x11_2).f0.f1)) ∧ w'.cell? ⟨(ad112.add ((x11_2).toNat * 4)).block, (ad112.add ((x11_2).toNat * 4)).off + 2, none⟩ = some (.int .i64 ((qg t102 x11_2).f0.f2)) ∧ w'.cell? ⟨(ad112.add ((x11_2).toNat * 4)).block, (ad112.add ((x11_2).toNat * 4)).off + 3, none⟩ = some (.string ((qg t102 x11_2).f1)) ∧ w'.cell? (ad112.add ((x10_2).toNat * 4)) = some (.string ((qg t102 x10_2).f0.f0)) ∧ w'.cell? ⟨(ad112.add ((x10_2).toNat * 4)).block, (ad112.add ((x10_2).toNat * 4)).off + 1, none⟩ = some (.int .i64 ((qg t102 x10_2).f0.f1)) ∧ w'.cell? ⟨(ad112.add ((x10_2).toNat * 4)).block, (ad112.add ((x10_2).toNat * 4)).off + 2, none⟩ = some (.int .i64 ((qg t102 x10_2).f0.f2)) ∧ w'.cell? ⟨(ad112.add ((x10_2).toNat * 4)).block, (ad112.add ((x10_2).toNat * 4)).off + 3, none⟩ = some (.string ((qg t102 x10_2).f1))) (ds := []) bq0 (by kernel_rfl) rfl rfl ⟨hx112_0, hx112_1, hx112_2, hx112_3, hx113_0, hx113_1, hx113_2, hx113_3, hx114_0, hx114_1, hx114_2, hx114_3, hx115_0, hx115_1, hx115_2, hx115_3⟩ (fun hHeld => ?_); refine with_tabW laws_FnGot.tab12 laws_FnGot.bits12 (fun HT_ HW_ => ?_)
               generalize wr.drew = w30 at HO_3 HB hx112_0 hx112_1 hx112_2 hx112_3 hx113_0 hx113_1 hx113_2 hx113_3 hx114_0 hx114_1 hx114_2 hx114_3 hx115_0 hx115_1 hx115_2 hx115_3 hHeld ⊢
               refine pure_ (i := 0) (N := some 64) (v := ?_) (a' := ?_) bq7 rfl rfl (qj HT_.out (by kernel_rfl)) (fun _ _ _ h => h) (Or.inl ⟨by rfl, ?_⟩) ?_ ?_
               rotate_left
               ·intro w'
                go_simp
                with_reducible rfl
               rotate_left
               ·simp only [Act.put, sq1, sq2, sq3, i64_w, i32_w]
                rfl
               refine pure_ (i := 1) (N := some 65) (v := ?_) (a' := ?_) bq14 rfl rfl (qj HT_.out (by kernel_rfl)) (fun _ _ _ h => h) (Or.inl ⟨by rfl, ?_⟩) ?_ ?_
               rotate_left
               ·intro w'
                go_simp
                with_reducible rfl
               rotate_left
               ·simp only [Act.put, sq1, sq2, sq3, i64_w, i32_w]
                rfl
               refine pure_ (i := 2) (N := some 66) (v := ?_) (a' := ?_) bq21 rfl rfl (qj HT_.out (by kernel_rfl)) (fun _ _ _ h => h) (Or.inl ⟨by rfl, ?_⟩) ?_ ?_
               rotate_left
               ·intro w'
                go_simp
                with_reducible rfl
               rotate_left
               ·simp only [Act.put, sq1, sq2, sq3, i64_w, i32_w]
                rfl
               refine pure_ (i := 3) (N := some 67) (v := ?_) (a' := ?_) bq28 rfl rfl (qj HT_.out (by kernel_rfl)) (fun _ _ _ h => h) (Or.inl ⟨by rfl, ?_⟩) ?_ ?_
               rotate_left
               ·intro w'
                go_simp
                with_reducible rfl
               rotate_left
               ·simp only [Act.put, sq1, sq2, sq3, i64_w, i32_w]
                rfl
               refine pure_ (i := 4) (N := some 68) (v := ?_) (a' := ?_) bq38 rfl rfl (qj HT_.out (by kernel_rfl)) (fun _ _ _ h => h) (Or.inl ⟨by rfl, ?_⟩) ?_ ?_
               rotate_left
               ·intro w'
                go_simp
                with_reducible rfl
               rotate_left
               ·simp only [Act.put, sq1, sq2, sq3, i64_w, i32_w]
                rfl
               refine pure_ (i := 6) (N := some 70) (v := ?_) (a' := ?_) bq44 rfl rfl (qj HT_.out (by kernel_rfl)) (fun _ _ _ h => h) (Or.inl ⟨by rfl, ?_⟩) ?_ ?_
               rotate_left
               ·intro w'
                go_simp
                with_reducible rfl
               rotate_left
               ·simp only [Act.put, sq1, sq2, sq3, i64_w, i32_w]
                rfl
               refine take_ (i := 5) (N := some 69) (v := ?_) (a' := ?_) bq50 rfl rfl (take_ofW HT_.out HW_.out (by kernel_rfl)) (fun _ _ _ h => h) (Or.inl ⟨by rfl, ?_⟩) hHeld ?_ ?_
               rotate_left
               ·rintro w' ⟨s0, s1, s2, s3, s4, s5, s6, s7, s8, s9, s10, s11, s12, s13, s14, s15⟩
                go_simp
                with_reducible rfl
               rotate_left
               ·simp only [Act.put, sq1, sq2, sq3, i64_w, i32_w]
                rfl
               refine pure_ (i := 7) (N := some 71) (v := ?_) (a' := ?_) bq56 rfl rfl (qj HT_.out (by kernel_rfl)) (fun _ _ _ h => h) (Or.inl ⟨by rfl, ?_⟩) ?_ ?_
               rotate_left
               ·intro w'
                go_simp
                with_reducible rfl
               rotate_left
               ·simp only [Act.put, sq1, sq2, sq3, i64_w, i32_w]
                rfl
               refine pure_ (i := 8) (N := some 72) (v := ?_) (a' := ?_) bq63 rfl rfl (qj HT_.out (by kernel_rfl)) (fun _ _ _ h => h) (Or.inl ⟨by rfl, ?_⟩) ?_ ?_
               rotate_left
               ·intro w'
                go_simp
                with_reducible rfl
               rotate_left
               ·simp only [Act.put, sq1, sq2, sq3, i64_w, i32_w]
                rfl
               refine pure_ (i := 9) (N := some 73) (v := ?_) (a' := ?_) bq72 rfl rfl (qj HT_.out (by kernel_rfl)) (fun _ _ _ h => h) (Or.inl ⟨by rfl, ?_⟩) ?_ ?_
               rotate_left
               ·intro w'
                go_simp
                with_reducible rfl
               rotate_left
               ·simp only [Act.put, sq1, sq2, sq3, i64_w, i32_w]
                rfl
               refine pure_ (i := 10) (N := some 74) (v := ?_) (a' := ?_) bq76 rfl rfl (qj HT_.out (by kernel_rfl)) (fun _ _ _ h => h) (Or.inl ⟨by rfl, ?_⟩) ?_ ?_
               rotate_left
               ·intro w'
                go_simp
                with_reducible rfl
               rotate_left
               ·simp only [Act.put, sq1, sq2, sq3, i64_w, i32_w]
                rfl
               refine pure_ (i := 11) (N := some 75) (v := ?_) (a' := ?_) bq82 rfl rfl (qj HT_.out (by kernel_rfl)) (fun _ _ _ h => h) (Or.inl ⟨by rfl, ?_⟩) ?_ ?_
               rotate_left
               ·intro w'
                go_simp
                with_reducible rfl
               rotate_left
               ·simp only [Act.put, sq1, sq2, sq3, i64_w, i32_w]
                rfl
               refine pure_ (i := 12) (N := some 76) (v := ?_) (a' := ?_) bq89 rfl rfl (qj HT_.out (by kernel_rfl)) (fun _ _ _ h => h) (Or.inl ⟨by rfl, ?_⟩) ?_ ?_
               rotate_left
               ·intro w'
                go_simp
                with_reducible rfl
               rotate_left
               ·simp only [Act.put, sq1, sq2, sq3, i64_w, i32_w]
                rfl
               refine pure_ (i := 13) (N := some 77) (v := ?_) (a' := ?_) bq95 rfl rfl (qj HT_.out (by kernel_rfl)) (fun _ _ _ h => h) (Or.inl ⟨by rfl, ?_⟩) ?_ ?_
               rotate_left
               ·intro w'
                go_simp
                with_reducible rfl
               rotate_left
               ·simp only [Act.put, sq1, sq2, sq3, i64_w, i32_w]
                rfl
               refine pure_ (i := 15) (N := some 79) (v := ?_) (a' := ?_) bq99 rfl rfl (qj HT_.out (by kernel_rfl)) (fun _ _ _ h => h) (Or.inl ⟨by rfl, ?_⟩) ?_ ?_
               rotate_left
               ·intro w'
                go_simp
                with_reducible rfl
               rotate_left
               ·simp only [Act.put, sq1, sq2, sq3, i64_w, i32_w]
                rfl
               refine take_ (i := 14) (N := some 78) (v := ?_) (a' := ?_) bq107 rfl rfl (take_ofW HT_.out HW_.out (by kernel_rfl)) (fun _ _ _ h => h) (Or.inl ⟨by rfl, ?_⟩) hHeld ?_ ?_
               rotate_left
               ·rintro w' ⟨s0, s1, s2, s3, s4, s5, s6, s7, s8, s9, s10, s11, s12, s13, s14, s15⟩
                go_simp
                with_reducible rfl
               rotate_left
               ·simp only [Act.put, sq1, sq2, sq3, i64_w, i32_w]
                rfl
               refine pure_ (i := 16) (N := some 80) (v := ?_) (a' := ?_) bq110 rfl rfl (qj HT_.out (by kernel_rfl)) (fun _ _ _ h => h) (Or.inl ⟨by rfl, ?_⟩) ?_ ?_
               rotate_left
               ·intro w'
                go_simp
                with_reducible rfl
               rotate_left
               ·simp only [Act.put, sq1, sq2, sq3, i64_w, i32_w]
                rfl
               refine pure_ (i := 17) (N := some 81) (v := ?_) (a' := ?_) bq113 rfl rfl (qj HT_.out (by kernel_rfl)) (fun _ _ _ h => h) (Or.inl ⟨by rfl, ?_⟩) ?_ ?_
               rotate_left
               ·intro w'
                go_simp
                with_reducible rfl
               rotate_left
               ·simp only [Act.put, sq1, sq2, sq3, i64_w, i32_w]
                rfl
               refine pure_ (i := 18) (N := some 82) (v := ?_) (a' := ?_) bq116 rfl rfl (qj HT_.out (by kernel_rfl)) (fun _ _ _ h => h) (Or.inl ⟨by rfl, ?_⟩) ?_ ?_
               rotate_left
               ·intro w'
                go_simp
                with_reducible rfl
               rotate_left
               ·simp only [Act.put, sq1, sq2, sq3, i64_w, i32_w]
                rfl
               refine pure_ (i := 19) (N := some 83) (v := ?_) (a' := ?_) bq118 rfl rfl (qj HT_.out (by kernel_rfl)) (fun _ _ _ h => h) (Or.inl ⟨by rfl, ?_⟩) ?_ ?_
               rotate_left
               ·intro w'
                go_simp
                with_reducible rfl
               rotate_left
               ·simp only [Act.put, sq1, sq2, sq3, i64_w, i32_w]
                rfl
               refine pure_ (i := 20) (N := some 84) (v := ?_) (a' := ?_) bq120 rfl rfl (qj HT_.out (by kernel_rfl)) (fun _ _ _ h => h) (Or.inl ⟨by rfl, ?_⟩) ?_ ?_
               rotate_left
               ·intro w'
                go_simp
                with_reducible rfl
               rotate_left
               ·simp only [Act.put, sq1, sq2, sq3, i64_w, i32_w]
                rfl
               refine pure_ (i := 21) (N := some 85) (v := ?_) (a' := ?_) bq122 rfl rfl (qj HT_.out (by kernel_rfl)) (fun _ _ _ h => h) (Or.inl ⟨by rfl, ?_⟩) ?_ ?_
               rotate_left
               ·intro w'
                go_simp
                with_reducible rfl
               rotate_left
               ·simp only [Act.put, sq1, sq2, sq3, i64_w, i32_w]
                rfl
               refine pure_ (i := 22) (N := some 86) (v := ?_) (a' := ?_) bq125 rfl rfl (qj HT_.out (by kernel_rfl)) (fun _ _ _ h => h) (Or.inl ⟨by rfl, ?_⟩) ?_ ?_
               rotate_left
               ·intro w'
                go_simp
                with_reducible rfl
               rotate_left
               ·simp only [Act.put, sq1, sq2, sq3, i64_w, i32_w]
                rfl
               refine pure_ (i := 23) (N := some 87) (v := ?_) (a' := ?_) bq128 rfl rfl (qj HT_.out (by kernel_rfl)) (fun _ _ _ h => h) (Or.inl ⟨by rfl, ?_⟩) ?_ ?_
               rotate_left
               ·intro w'
                go_simp
                with_reducible rfl
               rotate_left
               ·simp only [Act.put, sq1, sq2, sq3, i64_w, i32_w]
                rfl
               refine pure_ (i := 24) (N := some 88) (v := ?_) (a' := ?_) bq131 rfl rfl (qj HT_.out (by kernel_rfl)) (fun _ _ _ h => h) (Or.inl ⟨by rfl, ?_⟩) ?_ ?_
               rotate_left
               ·intro w'
                go_simp
                with_reducible rfl
               rotate_left
               ·simp only [Act.put, sq1, sq2, sq3, i64_w, i32_w]
                rfl
               refine pure_ (i := 25) (N := some 89) (v := ?_) (a' := ?_) bq133 rfl rfl (qj HT_.out (by kernel_rfl)) (fun _ _ _ h => h) (Or.inl ⟨by rfl, ?_⟩) ?_ ?_
               rotate_left
               ·intro w'
                go_simp
                with_reducible rfl
               rotate_left
               ·simp only [Act.put, sq1, sq2, sq3, i64_w, i32_w]
                rfl
               refine pure_ (i := 27) (N := some 91) (v := ?_) (a' := ?_) bq135 rfl rfl (qj HT_.out (by kernel_rfl)) (fun _ _ _ h => h) (Or.inl ⟨by rfl, ?_⟩) ?_ ?_
               rotate_left
               ·intro w'
                go_simp
                with_reducible rfl
               rotate_left
               ·simp only [Act.put, sq1, sq2, sq3, i64_w, i32_w]
                rfl
               refine pure_ (i := 28) (N := some 92) (v := ?_) (a' := ?_) bq136 rfl rfl (qj HT_.out (by kernel_rfl)) (fun _ _ _ h => h) (Or.inl ⟨by rfl, ?_⟩) ?_ ?_
               rotate_left
               ·intro w'
                go_simp
                with_reducible rfl
               rotate_left
               ·simp only [Act.put, sq1, sq2, sq3, i64_w, i32_w]
                rfl
               refine pure_ (i := 29) (N := some 93) (v := ?_) (a' := ?_) bq137 rfl rfl (qj HT_.out (by kernel_rfl)) (fun _ _ _ h => h) (Or.inl ⟨by rfl, ?_⟩) ?_ ?_
               rotate_left
               ·intro w'
                go_simp
                with_reducible rfl
               rotate_left
               ·simp only [Act.put, sq1, sq2, sq3, i64_w, i32_w]
                rfl
               refine pure_ (i := 30) (N := some 94) (v := ?_) (a' := ?_) bq138 rfl rfl (qj HT_.out (by kernel_rfl)) (fun _ _ _ h => h) (Or.inl ⟨by rfl, ?_⟩) ?_ ?_
               rotate_left
               ·intro w'
                go_simp
                with_reducible rfl
               rotate_left
               ·simp only [Act.put, sq1, sq2, sq3, i64_w, i32_w]
                rfl
               refine take_ (i := 26) (N := some 90) (v := ?_) (a' := ?_) bq145 rfl rfl (take_ofW HT_.out HW_.out (by kernel_rfl)) (fun _ _ _ h => h) (Or.inl ⟨by rfl, ?_⟩) hHeld ?_ ?_
               rotate_left
               ·rintro w' ⟨s0, s1, s2, s3, s4, s5, s6, s7, s8, s9, s10, s11, s12, s13, s14, s15⟩
                go_simp
                with_reducible rfl
               rotate_left
               ·simp only [Act.put, sq1, sq2, sq3, i64_w, i32_w]
                rfl
               refine take_ (i := 31) (N := some 95) (v := ?_) (a' := ?_) bq146 rfl rfl (take_ofW HT_.out HW_.out (by kernel_rfl)) (fun _ _ _ h => h) (Or.inl ⟨by rfl, ?_⟩) hHeld ?_ ?_
               rotate_left
               ·rintro w' ⟨s0, s1, s2, s3, s4, s5, s6, s7, s8, s9, s10, s11, s12, s13, s14, s15⟩
                go_simp
                with_reducible rfl
               rotate_left
               ·simp only [Act.put, sq1, sq2, sq3, i64_w, i32_w]
                rfl
               refine one_ (i := 32) (N := some 96) bq147 rfl rfl (one_of HT_.out (by kernel_rfl)) (by decide) (fun K hK => ?_)
               refine goes_ Try.func48 (by kernel_rfl) rfl #[.agg #[.string ((qg t102 x11_2).f0.f0), .int .i64 ((qg t102 x11_2).f0.f1), .int .i64 ((qg t102 x11_2).f0.f2)], .agg #[.string ((qg t102 x10_2).f0.f0), .int .i64 ((qg t102 x10_2).f0.f1), .int .i64 ((qg t102 x10_2).f0.f2)]] (by rfl) rfl rfl (by (try simp only [List.map_toArray, List.map_cons, List.map_nil]); first | done | rfl) ?_
               with_reducible refine (impl_KeyCmp.calls k2 ((qg t102 x11_2).f0.f0) ((qg t102 x11_2).f0.f1) ((qg t102 x11_2).f0.f2) ((qg t102 x10_2).f0.f0) ((qg t102 x10_2).f0.f1) ((qg t102 x10_2).f0.f2) t116 _ A26.out).mono ?_
               rintro e w31 ⟨rfl, hb⟩
               have HS0_ := (hb.cell (World.block_lt_of_cell? _ _ (hHeld.1))).trans (hHeld.1)
               have HS1_ := (hb.cell (World.block_lt_of_cell? _ _ (hHeld.2.1))).trans (hHeld.2.1)
               have HS2_ := (hb.cell (World.block_lt_of_cell? _ _ (hHeld.2.2.1))).trans (hHeld.2.2.1)
               have HS3_ := (hb.cell (World.block_lt_of_cell? _ _ (hHeld.2.2.2.1))).trans (hHeld.2.2.2.1)
               have HS4_ := (hb.cell (World.block_lt_of_cell? _ _ (hHeld.2.2.2.2.1))).trans (hHeld.2.2.2.2.1)
               have HS5_ := (hb.cell (World.block_lt_of_cell? _ _ (hHeld.2.2.2.2.2.1))).trans (hHeld.2.2.2.2.2.1)
               have HS6_ := (hb.cell (World.block_lt_of_cell? _ _ (hHeld.2.2.2.2.2.2.1))).trans (hHeld.2.2.2.2.2.2.1)
               have HS7_ := (hb.cell (World.block_lt_of_cell? _ _ (hHeld.2.2.2.2.2.2.2.1))).trans (hHeld.2.2.2.2.2.2.2.1)
               have HS8_ := (hb.cell (World.block_lt_of_cell? _ _ (hHeld.2.2.2.2.2.2.2.2.1))).trans (hHeld.2.2.2.2.2.2.2.2.1)
               have HS9_ := (hb.cell (World.block_lt_of_cell? _ _ (hHeld.2.2.2.2.2.2.2.2.2.1))).trans (hHeld.2.2.2.2.2.2.2.2.2.1)
               have HS10_ := (hb.cell (World.block_lt_of_cell? _ _ (hHeld.2.2.2.2.2.2.2.2.2.2.1))).trans (hHeld.2.2.2.2.2.2.2.2.2.2.1)
               have HS11_ := (hb.cell (World.block_lt_of_cell? _ _ (hHeld.2.2.2.2.2.2.2.2.2.2.2.1))).trans (hHeld.2.2.2.2.2.2.2.2.2.2.2.1)
               have HS12_ := (hb.cell (World.block_lt_of_cell? _ _ (hHeld.2.2.2.2.2.2.2.2.2.2.2.2.1))).trans (hHeld.2.2.2.2.2.2.2.2.2.2.2.2.1)
               have HS13_ := (hb.cell (World.block_lt_of_cell? _ _ (hHeld.2.2.2.2.2.2.2.2.2.2.2.2.2.1))).trans (hHeld.2.2.2.2.2.2.2.2.2.2.2.2.2.1)
               have HS14_ := (hb.cell (World.block_lt_of_cell? _ _ (hHeld.2.2.2.2.2.2.2.2.2.2.2.2.2.2.1))).trans (hHeld.2.2.2.2.2.2.2.2.2.2.2.2.2.2.1)
               have HS15_ := (hb.cell (World.block_lt_of_cell? _ _ (hHeld.2.2.2.2.2.2.2.2.2.2.2.2.2.2.2))).trans (hHeld.2.2.2.2.2.2.2.2.2.2.2.2.2.2.2)
               refine ⟨_, rfl, ?_⟩
               replace HO_3 := Qz.mk (Kd.R_below (by (with_reducible repeat (first | apply Kd.R_alloc | apply Kd.R_drewN | apply Kd.R_drew)); exact HO_3.out) hb)
               replace HB := Qz.mk (qr (by repeat (first | (with_reducible first | exact HB.out | apply qc | apply qa | apply qb) | exact HB.out)) hb)
               (try clear hb)
               refine hK.out _ _ ⟨HS0_, HS1_, HS2_, HS3_, HS4_, HS5_, HS6_, HS7_, HS8_, HS9_, HS10_, HS11_, HS12_, HS13_, HS14_, HS15_⟩ (fun hHeld => ?_)
               clear hK K
               refine norm_ (a' := ?_) ?_ ?_
               rotate_left
               ·show Act.put _ (some 96) _ = _
                simp only [Act.put, sq1, sq2, sq3, i64_w, i32_w]
                rfl
               refine pure_ (i := 33) (N := some 97) (v := ?_) (a' := ?_) bq148 rfl rfl (qj HT_.out (by kernel_rfl)) (fun _ _ _ h => h) (Or.inl ⟨by rfl, ?_⟩) ?_ ?_
               rotate_left
               ·intro w'
                go_simp
                with_reducible rfl
               rotate_left
               ·simp only [Act.put, sq1, sq2, sq3, i64_w, i32_w]
                rfl
               refine pure_ (i := 34) (N := some 98) (v := ?_) (a' := ?_) bq149 rfl rfl (qj HT_.out (by kernel_rfl)) (fun _ _ _ h => h) (Or.inl ⟨by rfl, ?_⟩) ?_ ?_
               rotate_left
               ·intro w'
                go_simp
                with_reducible rfl
               rotate_left
               ·simp only [Act.put, sq1, sq2, sq3, i64_w, i32_w]
                rfl
               refine pure_ (i := 35) (N := some 99) (v := ?_) (a' := ?_) bq150 rfl rfl (qj HT_.out (by kernel_rfl)) (fun _ _ _ h => h) (Or.inl ⟨by rfl, ?_⟩) ?_ ?_
               rotate_left
               ·intro w'
                go_simp
                with_reducible rfl
               rotate_left
               ·simp only [Act.put, sq1, sq2, sq3, i64_w, i32_w]
                rfl
               refine done_ (done_of HT_.out (by kernel_rfl)) ?_
               try go_wp2
               go_roundg k2
               case measure => have := HJ6.out; have := HK2.out; omega
               case rel => exact ⟨(x10_2), (wrap64 (x11_2 + 1)), (by first | rfl | (simp; done) | (simp [*]; done)), (by first | rfl | (simp; done) | (simp [*]; done)), H', ⟨by have := HJ6.out; have := HK2.out; omega⟩, ⟨by (with_reducible repeat (first | apply Kd.R_alloc | apply Kd.R_drewN | apply Kd.R_drew)); exact HO_3.out⟩, ⟨by repeat (first | (with_reducible first | exact HB.out | apply qc | apply qa | apply qb) | exact HB.out)⟩⟩
             ·rw [if_neg c25] at H
              exact absurd H (by simp)
            ·rw [if_neg c24] at H
             exact absurd H (by simp)
          ·rw [if_neg c21] at H
           have c21b0 : decide (((qg t102 x11_2).f0.f1) ≤ t104) = false := decide_eq_false c21
           clear c21
           have H' := Qz.mk H
           clear H
           try go_wp2
           replace HO_3 := Qz.mk (Kd.R_drew HO_3.out)
           replace HB := Qz.mk (qb HB.out)
           have p112 : 0 ≤ (x11_2 : Int) := of_decide_eq_true (by first | (with_reducible assumption) | assumption)
           have q112 : x11_2 < (t102.length : Int) := of_decide_eq_true (by first | (with_reducible assumption) | assumption)
           obtain ⟨ad112, e112, hx112_0, hx112_1, hx112_2, hx112_3⟩ := at_T48 (Kd.R_reads' HO_3.out).2.2 x11_2 p112 q112
           cases e112
           replace p112 := eq_true p112
           replace q112 := eq_true q112
           have p113 : 0 ≤ (x11_2 : Int) := of_decide_eq_true (by first | (with_reducible assumption) | assumption)
           have q113 : x11_2 < (t102.length : Int) := of_decide_eq_true (by first | (with_reducible assumption) | assumption)
           obtain ⟨ad113, e113, hx113_0, hx113_1, hx113_2, hx113_3⟩ := at_T48 (Kd.R_reads' HO_3.out).2.2 x11_2 p113 q113
           obtain rfl : ad112 = ad113 := (by injection e113)
           replace p113 := eq_true p113
           replace q113 := eq_true q113
           refine start_ (n := 36) (S := fun w' => w'.cell? (ad112.add ((x11_2).toNat * 4)) = some (.string ((qg t102 x11_2).f0.f0)) ∧ w'.cell? ⟨(ad112.add ((x11_2).toNat * 4)).block, (ad112.add ((x11_2).toNat * 4)).off + 1, none⟩ = some (.int .i64 ((qg t102 x11_2).f0.f1)) ∧ w'.cell? ⟨(ad112.add ((x11_2).toNat * 4)).block, (ad112.add ((x11_2).toNat * 4)).off + 2, none⟩ = some (.int .i64 ((qg t102 x11_2).f0.f2)) ∧ w'.cell? ⟨(ad112.add ((x11_2).toNat * 4)).block, (ad112.add ((x11_2).toNat * 4)).off + 3, none⟩ = some (.string ((qg t102 x11_2).f1)) ∧ w'.cell? (ad112.add ((x11_2).toNat * 4)) = some (.string ((qg t102 x11_2).f0.f0)) ∧ w'.cell? ⟨(ad112.add ((x11_2).toNat * 4)).block, (ad112.add ((x11_2).toNat * 4)).off + 1, none⟩ = some (.int .i64 ((qg t102 x11_2).f0.f1)) ∧ w'.cell? ⟨(ad112.add ((x11_2).toNat * 4)).block, (ad112.add ((x11_2).toNat * 4)).off + 2, none⟩ = some (.int .i64 ((qg t102 x11_2).f0.f2)) ∧ w'.cell? ⟨(ad112.add ((x11_2).toNat * 4)).block, (ad112.add ((x11_2).toNat * 4)).off + 3, none⟩ = some (.string ((qg t102 x11_2).f1))) (ds := []) bq0 (by kernel_rfl) rfl rfl ⟨hx112_0, hx112_1, hx112_2, hx112_3, hx113_0, hx113_1, hx113_2, hx113_3⟩ (fun hHeld => ?_); refine with_tabW laws_FnGot.tab12 laws_FnGot.bits12 (fun HT_ HW_ => ?_)
           generalize wr.drew = w32 at HO_3 HB hx112_0 hx112_1 hx112_2 hx112_3 hx113_0 hx113_1 hx113_2 hx113_3 hHeld ⊢
           refine pure_ (i := 0) (N := some 64) (v := ?_) (a' := ?_) bq7 rfl rfl (qj HT_.out (by kernel_rfl)) (fun _ _ _ h => h) (Or.inl ⟨by rfl, ?_⟩) ?_ ?_
           rotate_left
           ·intro w'
            go_simp
            with_reducible rfl
           rotate_left
           ·simp only [Act.put, sq1, sq2, sq3, i64_w, i32_w]
            rfl
           refine pure_ (i := 1) (N := some 65) (v := ?_) (a' := ?_) bq14 rfl rfl (qj HT_.out (by kernel_rfl)) (fun _ _ _ h => h) (Or.inl ⟨by rfl, ?_⟩) ?_ ?_
           rotate_left
           ·intro w'
            go_simp
            with_reducible rfl
           rotate_left
           ·simp only [Act.put, sq1, sq2, sq3, i64_w, i32_w]
            rfl
           refine pure_ (i := 2) (N := some 66) (v := ?_) (a' := ?_) bq21 rfl rfl (qj HT_.out (by kernel_rfl)) (fun _ _ _ h => h) (Or.inl ⟨by rfl, ?_⟩) ?_ ?_
           rotate_left
           ·intro w'
            go_simp
            with_reducible rfl
           rotate_left
           ·simp only [Act.put, sq1, sq2, sq3, i64_w, i32_w]
            rfl
           refine pure_ (i := 3) (N := some 67) (v := ?_) (a' := ?_) bq28 rfl rfl (qj HT_.out (by kernel_rfl)) (fun _ _ _ h => h) (Or.inl ⟨by rfl, ?_⟩) ?_ ?_
           rotate_left
           ·intro w'
            go_simp
            with_reducible rfl
           rotate_left
           ·simp only [Act.put, sq1, sq2, sq3, i64_w, i32_w]
            rfl
           refine pure_ (i := 4) (N := some 68) (v := ?_) (a' := ?_) bq38 rfl rfl (qj HT_.out (by kernel_rfl)) (fun _ _ _ h => h) (Or.inl ⟨by rfl, ?_⟩) ?_ ?_
           rotate_left
           ·intro w'
            go_simp
            with_reducible rfl
           rotate_left
           ·simp only [Act.put, sq1, sq2, sq3, i64_w, i32_w]
            rfl
           refine pure_ (i := 6) (N := some 70) (v := ?_) (a' := ?_) bq44 rfl rfl (qj HT_.out (by kernel_rfl)) (fun _ _ _ h => h) (Or.inl ⟨by rfl, ?_⟩) ?_ ?_
           rotate_left
           ·intro w'
            go_simp
            with_reducible rfl
           rotate_left
           ·simp only [Act.put, sq1, sq2, sq3, i64_w, i32_w]
            rfl
           refine take_ (i := 5) (N := some 69) (v := ?_) (a' := ?_) bq50 rfl rfl (take_ofW HT_.out HW_.out (by kernel_rfl)) (fun _ _ _ h => h) (Or.inl ⟨by rfl, ?_⟩) hHeld ?_ ?_
           rotate_left
           ·rintro w' ⟨s0, s1, s2, s3, s4, s5, s6, s7⟩
            go_simp
            with_reducible rfl
           rotate_left
           ·simp only [Act.put, sq1, sq2, sq3, i64_w, i32_w]
            rfl
           refine pure_ (i := 7) (N := some 71) (v := ?_) (a' := ?_) bq56 rfl rfl (qj HT_.out (by kernel_rfl)) (fun _ _ _ h => h) (Or.inl ⟨by rfl, ?_⟩) ?_ ?_
           rotate_left
           ·intro w'
            go_simp
            with_reducible rfl
           rotate_left
           ·simp only [Act.put, sq1, sq2, sq3, i64_w, i32_w]
            rfl
           refine pure_ (i := 8) (N := some 72) (v := ?_) (a' := ?_) bq63 rfl rfl (qj HT_.out (by kernel_rfl)) (fun _ _ _ h => h) (Or.inl ⟨by rfl, ?_⟩) ?_ ?_
           rotate_left
           ·intro w'
            go_simp
            with_reducible rfl
           rotate_left
           ·simp only [Act.put, sq1, sq2, sq3, i64_w, i32_w]
            rfl
           refine pure_ (i := 9) (N := some 73) (v := ?_) (a' := ?_) bq72 rfl rfl (qj HT_.out (by kernel_rfl)) (fun _ _ _ h => h) (Or.inl ⟨by rfl, ?_⟩) ?_ ?_
           rotate_left
           ·intro w'
            go_simp
            with_reducible rfl
           rotate_left
           ·simp only [Act.put, sq1, sq2, sq3, i64_w, i32_w]
            rfl
           refine pure_ (i := 10) (N := some 74) (v := ?_) (a' := ?_) bq76 rfl rfl (qj HT_.out (by kernel_rfl)) (fun _ _ _ h => h) (Or.inl ⟨by rfl, ?_⟩) ?_ ?_
           rotate_left
           ·intro w'
            go_simp
            with_reducible rfl
           rotate_left
           ·simp only [Act.put, sq1, sq2, sq3, i64_w, i32_w]
            rfl
           refine pure_ (i := 11) (N := some 75) (v := ?_) (a' := ?_) bq82 rfl rfl (qj HT_.out (by kernel_rfl)) (fun _ _ _ h => h) (Or.inl ⟨by rfl, ?_⟩) ?_ ?_
           rotate_left
           ·intro w'
            go_simp
            with_reducible rfl
           rotate_left
           ·simp only [Act.put, sq1, sq2, sq3, i64_w, i32_w]
            rfl
           refine pure_ (i := 12) (N := some 76) (v := ?_) (a' := ?_) bq89 rfl rfl (qj HT_.out (by kernel_rfl)) (fun _ _ _ h => h) (Or.inl ⟨by rfl, ?_⟩) ?_ ?_
           rotate_left
           ·intro w'
            go_simp
            with_reducible rfl
           rotate_left
           ·simp only [Act.put, sq1, sq2, sq3, i64_w, i32_w]
            rfl
           refine pure_ (i := 13) (N := some 77) (v := ?_) (a' := ?_) bq95 rfl rfl (qj HT_.out (by kernel_rfl)) (fun _ _ _ h => h) (Or.inl ⟨by rfl, ?_⟩) ?_ ?_
           rotate_left
           ·intro w'
            go_simp
            with_reducible rfl
           rotate_left
           ·simp only [Act.put, sq1, sq2, sq3, i64_w, i32_w]
            rfl
           refine pure_ (i := 15) (N := some 79) (v := ?_) (a' := ?_) bq99 rfl rfl (qj HT_.out (by kernel_rfl)) (fun _ _ _ h => h) (Or.inl ⟨by rfl, ?_⟩) ?_ ?_
           rotate_left
           ·intro w'
            go_simp
            with_reducible rfl
           rotate_left
           ·simp only [Act.put, sq1, sq2, sq3, i64_w, i32_w]
            rfl
           refine take_ (i := 14) (N := some 78) (v := ?_) (a' := ?_) bq107 rfl rfl (take_ofW HT_.out HW_.out (by kernel_rfl)) (fun _ _ _ h => h) (Or.inl ⟨by rfl, ?_⟩) hHeld ?_ ?_
           rotate_left
           ·rintro w' ⟨s0, s1, s2, s3, s4, s5, s6, s7⟩
            go_simp
            with_reducible rfl
           rotate_left
           ·simp only [Act.put, sq1, sq2, sq3, i64_w, i32_w]
            rfl
           refine pure_ (i := 16) (N := some 80) (v := ?_) (a' := ?_) bq110 rfl rfl (qj HT_.out (by kernel_rfl)) (fun _ _ _ h => h) (Or.inl ⟨by rfl, ?_⟩) ?_ ?_
           rotate_left
           ·intro w'
            go_simp
            with_reducible rfl
           rotate_left
           ·simp only [Act.put, sq1, sq2, sq3, i64_w, i32_w]
            rfl
           refine pure_ (i := 17) (N := some 81) (v := ?_) (a' := ?_) bq113 rfl rfl (qj HT_.out (by kernel_rfl)) (fun _ _ _ h => h) (Or.inl ⟨by rfl, ?_⟩) ?_ ?_
           rotate_left
           ·intro w'
            go_simp
            with_reducible rfl
           rotate_left
           ·simp only [Act.put, sq1, sq2, sq3, i64_w, i32_w]
            rfl
           refine pure_ (i := 18) (N := some 82) (v := ?_) (a' := ?_) bq116 rfl rfl (qj HT_.out (by kernel_rfl)) (fun _ _ _ h => h) (Or.inl ⟨by rfl, ?_⟩) ?_ ?_
           rotate_left
           ·intro w'
            go_simp
            with_reducible rfl
           rotate_left
           ·simp only [Act.put, sq1, sq2, sq3, i64_w, i32_w]
            rfl
           refine pure_ (i := 19) (N := some 83) (v := undef) (a' := ?_) bq118 rfl rfl (qj HT_.out (by kernel_rfl)) (fun _ _ _ h => h) (Or.inr ⟨by rfl, rfl⟩) ?_ ?_
           rotate_left
           ·simp only [Act.put, sq1, sq2, sq3, i64_w, i32_w]
            rfl
           refine pure_ (i := 20) (N := some 84) (v := undef) (a' := ?_) bq120 rfl rfl (qj HT_.out (by kernel_rfl)) (fun _ _ _ h => h) (Or.inr ⟨by rfl, rfl⟩) ?_ ?_
           rotate_left
           ·simp only [Act.put, sq1, sq2, sq3, i64_w, i32_w]
            rfl
           refine pure_ (i := 21) (N := some 85) (v := undef) (a' := ?_) bq122 rfl rfl (qj HT_.out (by kernel_rfl)) (fun _ _ _ h => h) (Or.inr ⟨by rfl, rfl⟩) ?_ ?_
           rotate_left
           ·simp only [Act.put, sq1, sq2, sq3, i64_w, i32_w]
            rfl
           refine pure_ (i := 22) (N := some 86) (v := undef) (a' := ?_) bq125 rfl rfl (qj HT_.out (by kernel_rfl)) (fun _ _ _ h => h) (Or.inr ⟨by rfl, rfl⟩) ?_ ?_
           rotate_left
           ·simp only [Act.put, sq1, sq2, sq3, i64_w, i32_w]
            rfl
           refine pure_ (i := 23) (N := some 87) (v := undef) (a' := ?_) bq128 rfl rfl (qj HT_.out (by kernel_rfl)) (fun _ _ _ h => h) (Or.inr ⟨by rfl, rfl⟩) ?_ ?_
           rotate_left
           ·simp only [Act.put, sq1, sq2, sq3, i64_w, i32_w]
            rfl
           refine pure_ (i := 24) (N := some 88) (v := undef) (a' := ?_) bq131 rfl rfl (qj HT_.out (by kernel_rfl)) (fun _ _ _ h => h) (Or.inr ⟨by rfl, rfl⟩) ?_ ?_
           rotate_left
           ·simp only [Act.put, sq1, sq2, sq3, i64_w, i32_w]
            rfl
           refine pure_ (i := 25) (N := some 89) (v := undef) (a' := ?_) bq133 rfl rfl (qj HT_.out (by kernel_rfl)) (fun _ _ _ h => h) (Or.inr ⟨by rfl, rfl⟩) ?_ ?_
           rotate_left
           ·simp only [Act.put, sq1, sq2, sq3, i64_w, i32_w]
            rfl
           refine pure_ (i := 26) (N := some 90) (v := undef) (a' := ?_) bq139 rfl rfl (qj HT_.out (by kernel_rfl)) (fun _ _ _ h => h) (Or.inr ⟨by rfl, rfl⟩) ?_ ?_
           rotate_left
           ·simp only [Act.put, sq1, sq2, sq3, i64_w, i32_w]
            rfl
           refine pure_ (i := 27) (N := some 91) (v := undef) (a' := ?_) bq141 rfl rfl (qj HT_.out (by kernel_rfl)) (fun _ _ _ h => h) (Or.inr ⟨by rfl, rfl⟩) ?_ ?_
           rotate_left
           ·simp only [Act.put, sq1, sq2, sq3, i64_w, i32_w]
            rfl
           refine pure_ (i := 28) (N := some 92) (v := undef) (a' := ?_) bq143 rfl rfl (qj HT_.out (by kernel_rfl)) (fun _ _ _ h => h) (Or.inr ⟨by rfl, rfl⟩) ?_ ?_
           rotate_left
           ·simp only [Act.put, sq1, sq2, sq3, i64_w, i32_w]
            rfl
           refine pure_ (i := 29) (N := some 93) (v := undef) (a' := ?_) bq144 rfl rfl (qj HT_.out (by kernel_rfl)) (fun _ _ _ h => h) (Or.inr ⟨by rfl, rfl⟩) ?_ ?_
           rotate_left
           ·simp only [Act.put, sq1, sq2, sq3, i64_w, i32_w]
            rfl
           refine pure_ (i := 30) (N := some 94) (v := undef) (a' := ?_) bq145 rfl rfl (qj HT_.out (by kernel_rfl)) (fun _ _ _ h => h) (Or.inr ⟨by rfl, rfl⟩) ?_ ?_
           rotate_left
           ·simp only [Act.put, sq1, sq2, sq3, i64_w, i32_w]
            rfl
           refine pure_ (i := 31) (N := some 95) (v := undef) (a' := ?_) bq146 rfl rfl (qj HT_.out (by kernel_rfl)) (fun _ _ _ h => h) (Or.inr ⟨by rfl, rfl⟩) ?_ ?_
           rotate_left
           ·simp only [Act.put, sq1, sq2, sq3, i64_w, i32_w]
            rfl
           refine pure_ (i := 32) (N := some 96) (v := undef) (a' := ?_) bq147 rfl rfl (qj HT_.out (by kernel_rfl)) (fun _ _ _ h => h) (Or.inr ⟨by rfl, rfl⟩) ?_ ?_
           rotate_left
           ·simp only [Act.put, sq1, sq2, sq3, i64_w, i32_w]
            rfl
           refine pure_ (i := 33) (N := some 97) (v := undef) (a' := ?_) bq148 rfl rfl (qj HT_.out (by kernel_rfl)) (fun _ _ _ h => h) (Or.inr ⟨by rfl, rfl⟩) ?_ ?_
           rotate_left
           ·simp only [Act.put, sq1, sq2, sq3, i64_w, i32_w]
            rfl
           refine pure_ (i := 34) (N := some 98) (v := undef) (a' := ?_) bq149 rfl rfl (qj HT_.out (by kernel_rfl)) (fun _ _ _ h => h) (Or.inr ⟨by rfl, rfl⟩) ?_ ?_
           rotate_left
           ·simp only [Act.put, sq1, sq2, sq3, i64_w, i32_w]
            rfl
           refine pure_ (i := 35) (N := some 99) (v := ?_) (a' := ?_) bq150 rfl rfl (qj HT_.out (by kernel_rfl)) (fun _ _ _ h => h) (Or.inl ⟨by rfl, ?_⟩) ?_ ?_
           rotate_left
           ·intro w'
            go_simp
            with_reducible rfl
           rotate_left
           ·simp only [Act.put, sq1, sq2, sq3, i64_w, i32_w]
            rfl
           refine done_ (done_of HT_.out (by kernel_rfl)) ?_
           try go_wp2
           go_roundg k2
           case measure => have := HJ6.out; have := HK2.out; omega
           case rel => exact ⟨(x10_2), (wrap64 (x11_2 + 1)), (by first | rfl | (simp; done) | (simp [*]; done)), (by first | rfl | (simp; done) | (simp [*]; done)), H', ⟨by have := HJ6.out; have := HK2.out; omega⟩, ⟨by (with_reducible repeat (first | apply Kd.R_alloc | apply Kd.R_drewN | apply Kd.R_drew)); exact HO_3.out⟩, ⟨by repeat (first | (with_reducible first | exact HB.out | apply qc | apply qa | apply qb) | exact HB.out)⟩⟩
         ·rw [if_neg c20] at H
          have c20b0 : (((qg t102 x11_2).f0.f0).toList == t103.toList) = false := beq_eq_false_iff_ne.mpr c20
          have c20b1 : (((qg t102 x11_2).f0.f0).toList != t103.toList) = true := bne_iff_ne.mpr c20
          have H' := Qz.mk H
          clear H
          try go_wp2
          replace HO_3 := Qz.mk (Kd.R_drew HO_3.out)
          replace HB := Qz.mk (qb HB.out)
          have p112 : 0 ≤ (x11_2 : Int) := of_decide_eq_true (by first | (with_reducible assumption) | assumption)
          have q112 : x11_2 < (t102.length : Int) := of_decide_eq_true (by first | (with_reducible assumption) | assumption)
          obtain ⟨ad112, e112, hx112_0, hx112_1, hx112_2, hx112_3⟩ := at_T48 (Kd.R_reads' HO_3.out).2.2 x11_2 p112 q112
          cases e112
          replace p112 := eq_true p112
          replace q112 := eq_true q112
          refine start_ (n := 36) (S := fun w' => w'.cell? (ad112.add ((x11_2).toNat * 4)) = some (.string ((qg t102 x11_2).f0.f0)) ∧ w'.cell? ⟨(ad112.add ((x11_2).toNat * 4)).block, (ad112.add ((x11_2).toNat * 4)).off + 1, none⟩ = some (.int .i64 ((qg t102 x11_2).f0.f1)) ∧ w'.cell? ⟨(ad112.add ((x11_2).toNat * 4)).block, (ad112.add ((x11_2).toNat * 4)).off + 2, none⟩ = some (.int .i64 ((qg t102 x11_2).f0.f2)) ∧ w'.cell? ⟨(ad112.add ((x11_2).toNat * 4)).block, (ad112.add ((x11_2).toNat * 4)).off + 3, none⟩ = some (.string ((qg t102 x11_2).f1))) (ds := []) bq0 (by kernel_rfl) rfl rfl ⟨hx112_0, hx112_1, hx112_2, hx112_3⟩ (fun hHeld => ?_); refine with_tabW laws_FnGot.tab12 laws_FnGot.bits12 (fun HT_ HW_ => ?_)
          generalize wr.drew = w33 at HO_3 HB hx112_0 hx112_1 hx112_2 hx112_3 hHeld ⊢
          refine pure_ (i := 0) (N := some 64) (v := ?_) (a' := ?_) bq7 rfl rfl (qj HT_.out (by kernel_rfl)) (fun _ _ _ h => h) (Or.inl ⟨by rfl, ?_⟩) ?_ ?_
          rotate_left
          ·intro w'
           go_simp
           with_reducible rfl
          rotate_left
          ·simp only [Act.put, sq1, sq2, sq3, i64_w, i32_w]
           rfl
          refine pure_ (i := 1) (N := some 65) (v := ?_) (a' := ?_) bq14 rfl rfl (qj HT_.out (by kernel_rfl)) (fun _ _ _ h => h) (Or.inl ⟨by rfl, ?_⟩) ?_ ?_
          rotate_left
          ·intro w'
           go_simp
           with_reducible rfl
          rotate_left
          ·simp only [Act.put, sq1, sq2, sq3, i64_w, i32_w]
           rfl
          refine pure_ (i := 2) (N := some 66) (v := ?_) (a' := ?_) bq21 rfl rfl (qj HT_.out (by kernel_rfl)) (fun _ _ _ h => h) (Or.inl ⟨by rfl, ?_⟩) ?_ ?_
          rotate_left
          ·intro w'
           go_simp
           with_reducible rfl
          rotate_left
          ·simp only [Act.put, sq1, sq2, sq3, i64_w, i32_w]
           rfl
          refine pure_ (i := 3) (N := some 67) (v := ?_) (a' := ?_) bq28 rfl rfl (qj HT_.out (by kernel_rfl)) (fun _ _ _ h => h) (Or.inl ⟨by rfl, ?_⟩) ?_ ?_
          rotate_left
          ·intro w'
           go_simp
           with_reducible rfl
          rotate_left
          ·simp only [Act.put, sq1, sq2, sq3, i64_w, i32_w]
           rfl
          refine pure_ (i := 4) (N := some 68) (v := ?_) (a' := ?_) bq38 rfl rfl (qj HT_.out (by kernel_rfl)) (fun _ _ _ h => h) (Or.inl ⟨by rfl, ?_⟩) ?_ ?_
          rotate_left
          ·intro w'
           go_simp
           with_reducible rfl
          rotate_left
          ·simp only [Act.put, sq1, sq2, sq3, i64_w, i32_w]
           rfl
          refine pure_ (i := 6) (N := some 70) (v := ?_) (a' := ?_) bq44 rfl rfl (qj HT_.out (by kernel_rfl)) (fun _ _ _ h => h) (Or.inl ⟨by rfl, ?_⟩) ?_ ?_
          rotate_left
          ·intro w'
           go_simp
           with_reducible rfl
          rotate_left
          ·simp only [Act.put, sq1, sq2, sq3, i64_w, i32_w]
           rfl
          refine take_ (i := 5) (N := some 69) (v := ?_) (a' := ?_) bq50 rfl rfl (take_ofW HT_.out HW_.out (by kernel_rfl)) (fun _ _ _ h => h) (Or.inl ⟨by rfl, ?_⟩) hHeld ?_ ?_
          rotate_left
          ·rintro w' ⟨s0, s1, s2, s3⟩
           go_simp
           with_reducible rfl
          rotate_left
          ·simp only [Act.put, sq1, sq2, sq3, i64_w, i32_w]
           rfl
          refine pure_ (i := 7) (N := some 71) (v := ?_) (a' := ?_) bq56 rfl rfl (qj HT_.out (by kernel_rfl)) (fun _ _ _ h => h) (Or.inl ⟨by rfl, ?_⟩) ?_ ?_
          rotate_left
          ·intro w'
           go_simp
           with_reducible rfl
          rotate_left
          ·simp only [Act.put, sq1, sq2, sq3, i64_w, i32_w]
           rfl
          refine pure_ (i := 8) (N := some 72) (v := ?_) (a' := ?_) bq63 rfl rfl (qj HT_.out (by kernel_rfl)) (fun _ _ _ h => h) (Or.inl ⟨by rfl, ?_⟩) ?_ ?_
          rotate_left
          ·intro w'
           go_simp
           with_reducible rfl
          rotate_left
          ·simp only [Act.put, sq1, sq2, sq3, i64_w, i32_w]
           rfl
          refine pure_ (i := 9) (N := some 73) (v := undef) (a' := ?_) bq72 rfl rfl (qj HT_.out (by kernel_rfl)) (fun _ _ _ h => h) (Or.inr ⟨by rfl, rfl⟩) ?_ ?_
          rotate_left
          ·simp only [Act.put, sq1, sq2, sq3, i64_w, i32_w]
           rfl
          refine pure_ (i := 10) (N := some 74) (v := undef) (a' := ?_) bq76 rfl rfl (qj HT_.out (by kernel_rfl)) (fun _ _ _ h => h) (Or.inr ⟨by rfl, rfl⟩) ?_ ?_
          rotate_left
          ·simp only [Act.put, sq1, sq2, sq3, i64_w, i32_w]
           rfl
          refine pure_ (i := 11) (N := some 75) (v := undef) (a' := ?_) bq82 rfl rfl (qj HT_.out (by kernel_rfl)) (fun _ _ _ h => h) (Or.inr ⟨by rfl, rfl⟩) ?_ ?_
          rotate_left
          ·simp only [Act.put, sq1, sq2, sq3, i64_w, i32_w]
           rfl
          refine pure_ (i := 12) (N := some 76) (v := undef) (a' := ?_) bq89 rfl rfl (qj HT_.out (by kernel_rfl)) (fun _ _ _ h => h) (Or.inr ⟨by rfl, rfl⟩) ?_ ?_
          rotate_left
          ·simp only [Act.put, sq1, sq2, sq3, i64_w, i32_w]
           rfl
          refine pure_ (i := 13) (N := some 77) (v := undef) (a' := ?_) bq95 rfl rfl (qj HT_.out (by kernel_rfl)) (fun _ _ _ h => h) (Or.inr ⟨by rfl, rfl⟩) ?_ ?_
          rotate_left
          ·simp only [Act.put, sq1, sq2, sq3, i64_w, i32_w]
           rfl
          refine pure_ (i := 14) (N := some 78) (v := undef) (a' := ?_) #[true, true, true, true, true, true, true, true, true, true, true, true, true, true, true, false, false, false, false, false, false, false, false, false, false, false, false, false, false, false, false, false, false, false, false, false] rfl rfl (qj HT_.out (by kernel_rfl)) (fun _ _ _ h => h) (Or.inr ⟨by rfl, rfl⟩) ?_ ?_
          rotate_left
          ·simp only [Act.put, sq1, sq2, sq3, i64_w, i32_w]
           rfl
          refine pure_ (i := 15) (N := some 79) (v := undef) (a' := ?_) bq107 rfl rfl (qj HT_.out (by kernel_rfl)) (fun _ _ _ h => h) (Or.inr ⟨by rfl, rfl⟩) ?_ ?_
          rotate_left
          ·simp only [Act.put, sq1, sq2, sq3, i64_w, i32_w]
           rfl
          refine pure_ (i := 16) (N := some 80) (v := undef) (a' := ?_) bq110 rfl rfl (qj HT_.out (by kernel_rfl)) (fun _ _ _ h => h) (Or.inr ⟨by rfl, rfl⟩) ?_ ?_
          rotate_left
          ·simp only [Act.put, sq1, sq2, sq3, i64_w, i32_w]
           rfl
          refine pure_ (i := 17) (N := some 81) (v := ?_) (a' := ?_) bq113 rfl rfl (qj HT_.out (by kernel_rfl)) (fun _ _ _ h => h) (Or.inl ⟨by rfl, ?_⟩) ?_ ?_
          rotate_left
          ·intro w'
           go_simp
           with_reducible rfl
          rotate_left
          ·simp only [Act.put, sq1, sq2, sq3, i64_w, i32_w]
           rfl
          refine pure_ (i := 18) (N := some 82) (v := ?_) (a' := ?_) bq116 rfl rfl (qj HT_.out (by kernel_rfl)) (fun _ _ _ h => h) (Or.inl ⟨by rfl, ?_⟩) ?_ ?_
          rotate_left
          ·intro w'
           go_simp
           with_reducible rfl
          rotate_left
          ·simp only [Act.put, sq1, sq2, sq3, i64_w, i32_w]
           rfl
          refine pure_ (i := 19) (N := some 83) (v := undef) (a' := ?_) bq118 rfl rfl (qj HT_.out (by kernel_rfl)) (fun _ _ _ h => h) (Or.inr ⟨by rfl, rfl⟩) ?_ ?_
          rotate_left
          ·simp only [Act.put, sq1, sq2, sq3, i64_w, i32_w]
           rfl
          refine pure_ (i := 20) (N := some 84) (v := undef) (a' := ?_) bq120 rfl rfl (qj HT_.out (by kernel_rfl)) (fun _ _ _ h => h) (Or.inr ⟨by rfl, rfl⟩) ?_ ?_
          rotate_left
          ·simp only [Act.put, sq1, sq2, sq3, i64_w, i32_w]
           rfl
          refine pure_ (i := 21) (N := some 85) (v := undef) (a' := ?_) bq122 rfl rfl (qj HT_.out (by kernel_rfl)) (fun _ _ _ h => h) (Or.inr ⟨by rfl, rfl⟩) ?_ ?_
          rotate_left
          ·simp only [Act.put, sq1, sq2, sq3, i64_w, i32_w]
           rfl
          refine pure_ (i := 22) (N := some 86) (v := undef) (a' := ?_) bq125 rfl rfl (qj HT_.out (by kernel_rfl)) (fun _ _ _ h => h) (Or.inr ⟨by rfl, rfl⟩) ?_ ?_
          rotate_left
          ·simp only [Act.put, sq1, sq2, sq3, i64_w, i32_w]
           rfl
          refine pure_ (i := 23) (N := some 87) (v := undef) (a' := ?_) bq128 rfl rfl (qj HT_.out (by kernel_rfl)) (fun _ _ _ h => h) (Or.inr ⟨by rfl, rfl⟩) ?_ ?_
          rotate_left
          ·simp only [Act.put, sq1, sq2, sq3, i64_w, i32_w]
           rfl
          refine pure_ (i := 24) (N := some 88) (v := undef) (a' := ?_) bq131 rfl rfl (qj HT_.out (by kernel_rfl)) (fun _ _ _ h => h) (Or.inr ⟨by rfl, rfl⟩) ?_ ?_
          rotate_left
          ·simp only [Act.put, sq1, sq2, sq3, i64_w, i32_w]
           rfl
          refine pure_ (i := 25) (N := some 89) (v := undef) (a' := ?_) bq133 rfl rfl (qj HT_.out (by kernel_rfl)) (fun _ _ _ h => h) (Or.inr ⟨by rfl, rfl⟩) ?_ ?_
          rotate_left
          ·simp only [Act.put, sq1, sq2, sq3, i64_w, i32_w]
           rfl
          refine pure_ (i := 26) (N := some 90) (v := undef) (a' := ?_) bq139 rfl rfl (qj HT_.out (by kernel_rfl)) (fun _ _ _ h => h) (Or.inr ⟨by rfl, rfl⟩) ?_ ?_
          rotate_left
          ·simp only [Act.put, sq1, sq2, sq3, i64_w, i32_w]
           rfl
          refine pure_ (i := 27) (N := some 91) (v := undef) (a' := ?_) bq141 rfl rfl (qj HT_.out (by kernel_rfl)) (fun _ _ _ h => h) (Or.inr ⟨by rfl, rfl⟩) ?_ ?_
          rotate_left
          ·simp only [Act.put, sq1, sq2, sq3, i64_w, i32_w]
           rfl
          refine pure_ (i := 28) (N := some 92) (v := undef) (a' := ?_) bq143 rfl rfl (qj HT_.out (by kernel_rfl)) (fun _ _ _ h => h) (Or.inr ⟨by rfl, rfl⟩) ?_ ?_
          rotate_left
          ·simp only [Act.put, sq1, sq2, sq3, i64_w, i32_w]
           rfl
          refine pure_ (i := 29) (N := some 93) (v := undef) (a' := ?_) bq144 rfl rfl (qj HT_.out (by kernel_rfl)) (fun _ _ _ h => h) (Or.inr ⟨by rfl, rfl⟩) ?_ ?_
          rotate_left
          ·simp only [Act.put, sq1, sq2, sq3, i64_w, i32_w]
           rfl
          refine pure_ (i := 30) (N := some 94) (v := undef) (a' := ?_) bq145 rfl rfl (qj HT_.out (by kernel_rfl)) (fun _ _ _ h => h) (Or.inr ⟨by rfl, rfl⟩) ?_ ?_
          rotate_left
          ·simp only [Act.put, sq1, sq2, sq3, i64_w, i32_w]
           rfl
          refine pure_ (i := 31) (N := some 95) (v := undef) (a' := ?_) bq146 rfl rfl (qj HT_.out (by kernel_rfl)) (fun _ _ _ h => h) (Or.inr ⟨by rfl, rfl⟩) ?_ ?_
          rotate_left
          ·simp only [Act.put, sq1, sq2, sq3, i64_w, i32_w]
           rfl
          refine pure_ (i := 32) (N := some 96) (v := undef) (a' := ?_) bq147 rfl rfl (qj HT_.out (by kernel_rfl)) (fun _ _ _ h => h) (Or.inr ⟨by rfl, rfl⟩) ?_ ?_
          rotate_left
          ·simp only [Act.put, sq1, sq2, sq3, i64_w, i32_w]
           rfl
          refine pure_ (i := 33) (N := some 97) (v := undef) (a' := ?_) bq148 rfl rfl (qj HT_.out (by kernel_rfl)) (fun _ _ _ h => h) (Or.inr ⟨by rfl, rfl⟩) ?_ ?_
          rotate_left
          ·simp only [Act.put, sq1, sq2, sq3, i64_w, i32_w]
           rfl
          refine pure_ (i := 34) (N := some 98) (v := undef) (a' := ?_) bq149 rfl rfl (qj HT_.out (by kernel_rfl)) (fun _ _ _ h => h) (Or.inr ⟨by rfl, rfl⟩) ?_ ?_
          rotate_left
          ·simp only [Act.put, sq1, sq2, sq3, i64_w, i32_w]
           rfl
          refine pure_ (i := 35) (N := some 99) (v := ?_) (a' := ?_) bq150 rfl rfl (qj HT_.out (by kernel_rfl)) (fun _ _ _ h => h) (Or.inl ⟨by rfl, ?_⟩) ?_ ?_
          rotate_left
          ·intro w'
           go_simp
           with_reducible rfl
          rotate_left
          ·simp only [Act.put, sq1, sq2, sq3, i64_w, i32_w]
           rfl
          refine done_ (done_of HT_.out (by kernel_rfl)) ?_
          try go_wp2
          go_roundg k2
          case measure => have := HJ6.out; have := HK2.out; omega
          case rel => exact ⟨(x10_2), (wrap64 (x11_2 + 1)), (by first | rfl | (simp; done) | (simp [*]; done)), (by first | rfl | (simp; done) | (simp [*]; done)), H', ⟨by have := HJ6.out; have := HK2.out; omega⟩, ⟨by (with_reducible repeat (first | apply Kd.R_alloc | apply Kd.R_drewN | apply Kd.R_drew)); exact HO_3.out⟩, ⟨by repeat (first | (with_reducible first | exact HB.out | apply qc | apply qa | apply qb) | exact HB.out)⟩⟩
        ·rw [if_neg c19] at H
         exact absurd H (by simp)
       ·rw [if_neg c18] at H
        have c18b0 : decide (x11_2 < (t102.length : Int)) = false := decide_eq_false c18
        clear c18
        replace H := Option.bind_eq_some_iff.mp H
        obtain ⟨t117, A340, H⟩ := H
        replace H : (laws_FnGot.l1 k2 t102 t107 t108 x10_2 t117 0) = some r := H
        have A34 := Qz.mk A340
        clear A340
        have H' := Qz.mk H
        clear H
        go_wp2_with (first | ((with_reducible refine qq (f := 33) rfl ?_); refine qu (some 102) rfl rfl Try.func33 (by kernel_rfl) rfl #[.slice Ao9 t102.length co9] rfl (by (try simp only [List.map_toArray, List.map_cons, List.map_nil]); first | done | rfl | (simp only [List.length_drop, List.length_take]; rfl) | (rw [IntWalk.u64_in _ (by omega)] <;> rfl)) ?_; (with_reducible refine (impl_MemUsers.calls k2 _ _ t102 t117 _ ?side1 ?side2 A34.out).mono ?_); (case side1 => repeat (first | exact (Kd.R_reads' HO_3.out).2.2 | (with_reducible refine Kd.C_alloc ?_ _) | (with_reducible refine Kd.C_drewN ?_ _) | (with_reducible refine Kd.C_drew ?_))); (case side2 => exact (Kd.R_reads' HO_3.out).2.1); rintro e w35 ⟨v118, rfl, ho0, hb⟩; refine ⟨_, rfl, ?_⟩; replace HO_3 := Qz.mk (Kd.R_below (by (with_reducible repeat (first | apply Kd.R_alloc | apply Kd.R_drewN | apply Kd.R_drew)); exact HO_3.out) hb); have HO119 := Qz.mk (Kd.R_lower ho0 (below_size (by repeat (first | (with_reducible first | exact HB.out | apply qc | apply qa | apply qb) | exact HB.out)))); replace HB := Qz.mk (qr (by repeat (first | (with_reducible first | exact HB.out | apply qc | apply qa | apply qb) | exact HB.out)) hb); (try clear hb); (try clear ho0)))
        go_loopg [13] k2 (fun kq v13 w' => ∃ (x13_3 : Int), v13 = .int .i64 x13_3 ∧ Qz (laws_FnGot.l1 kq t102 t107 t108 x10_2 t117 x13_3 = some r) ∧ Qz (kq ≤ k2) ∧ Qz (Kd.R k48 48 w' w.heap.size (fun _ => True) (.slice Ao9 t102.length co9) t102) ∧ Qz (Kd.R Kd.string 9 w' w.heap.size (fun _ => True) v118 t117) ∧ Qz (Below w.heap.size w w'))
        case atStart => exact ⟨(0), (by first | rfl | (simp; done) | (simp [*]; done)), H', ⟨Nat.le_refl _⟩, ⟨by (with_reducible repeat (first | apply Kd.R_alloc | apply Kd.R_drewN | apply Kd.R_drew)); exact HO_3.out⟩, ⟨by (with_reducible repeat (first | apply Kd.R_alloc | apply Kd.R_drewN | apply Kd.R_drew)); exact HO119.out⟩, ⟨by repeat (first | (with_reducible first | exact HB.out | apply qc | apply qa | apply qb) | exact HB.out)⟩⟩
        case round =>
         clear H'
         try clear c1
         try clear p1
         try clear q1
         try clear hx1
         try clear c2
         try clear p2
         try clear c3
         try clear c4
         try clear p6
         try clear p11
         try clear q11
         try clear hx11
         try clear c18
         try clear c18b0
         try clear c19
         try clear c20
         try clear c20b0
         try clear c20b1
         try clear c21
         try clear c21b0
         try clear c24
         try clear c25
         try clear c33
         try clear hx112_0
         try clear hx112_1
         try clear hx112_2
         try clear hx112_3
         try clear hx113_0
         try clear hx113_1
         try clear hx113_2
         try clear hx113_3
         try clear p112
         try clear p113
         try clear q112
         try clear q113
         obtain ⟨x13_3, rfl, HA, HK3, HO_3, HO_12, HB⟩ := hrel
         cases gk with
         | zero => exact absurd HA.out (by simp [laws_FnGot.l1])
         | succ k3 =>
          have H := HA.out
          clear HA
          simp only [laws_FnGot.l1] at H
          by_cases c36 : x13_3 < (t102.length : Int)
          ·rw [if_pos c36] at H
           have c36b0 : decide (x13_3 < (t102.length : Int)) = true := decide_eq_true c36
           clear c36
           by_cases c37 : 0 ≤ x13_3
           ·rw [if_pos c37] at H
            have c37b0 : decide (0 ≤ x13_3) = true := decide_eq_true c37
            clear c37
            replace H := Option.bind_eq_some_iff.mp H
            obtain ⟨t121, A380, H⟩ := H
            replace H : (if t121 = true then (laws_FnGot.l1 k3 t102 t107 t108 x10_2 t117 (wrap64 (x13_3 + 1))) else (some false)) = some r := H
            have A38 := Qz.mk A380
            clear A380
            by_cases c39 : t121 = true
            ·subst c39
             have H1 : (laws_FnGot.l1 k3 t102 t107 t108 x10_2 t117 (wrap64 (x13_3 + 1))) = some r := by rw [if_pos rfl] at H; exact H
             clear H
             have H := H1
             clear H1
             have H' := Qz.mk H
             clear H
             have p120 : 0 ≤ (x13_3 : Int) := of_decide_eq_true (by first | (with_reducible assumption) | assumption)
             have q120 : x13_3 < (t102.length : Int) := of_decide_eq_true (by first | (with_reducible assumption) | assumption)
             obtain ⟨ad120, e120, hx120_0, hx120_1, hx120_2, hx120_3⟩ := at_T48 (Kd.R_reads' HO_3.out).2.2 x13_3 p120 q120
             cases e120
             replace p120 := eq_true p120
             replace q120 := eq_true q120
             obtain ⟨Ao40, co40, eo40⟩ := Kd.R_slice HO_12.out
             subst eo40
             go_wp2_with (first | ((with_reducible refine qq (f := 49) rfl ?_); refine qu (some 116) rfl rfl Try.func49 (by kernel_rfl) rfl #[.slice Ao40 t117.length co40, .string ((qg t102 x13_3).f0.f0)] rfl (by (try simp only [List.map_toArray, List.map_cons, List.map_nil]); first | done | rfl | (simp only [List.length_drop, List.length_take]; rfl) | (rw [IntWalk.u64_in _ (by omega)] <;> rfl)) ?_; (with_reducible refine (laws_hasText.calls k3 _ _ t117 ((qg t102 x13_3).f0.f0) true _ ?side1 ?side2 A38.out).mono ?_); (case side1 => repeat (first | exact (Kd.R_reads' HO_12.out).2.2 | (with_reducible refine Kd.C_alloc ?_ _) | (with_reducible refine Kd.C_drewN ?_ _) | (with_reducible refine Kd.C_drew ?_))); (case side2 => exact (Kd.R_reads' HO_12.out).2.1); rintro e w' ⟨rfl, ⟨nd, rfl⟩⟩; refine ⟨_, rfl, ?_⟩))
             go_roundg k3
             case measure => have := HJ6.out; have := HK2.out; have := HK3.out; omega
             case rel => exact ⟨(wrap64 (x13_3 + 1)), (by first | rfl | (simp; done) | (simp [*]; done)), H', ⟨by have := HJ6.out; have := HK2.out; have := HK3.out; omega⟩, ⟨by (with_reducible repeat (first | apply Kd.R_alloc | apply Kd.R_drewN | apply Kd.R_drew)); exact HO_3.out⟩, ⟨by (with_reducible repeat (first | apply Kd.R_alloc | apply Kd.R_drewN | apply Kd.R_drew)); exact HO_12.out⟩, ⟨by repeat (first | (with_reducible first | exact HB.out | apply qc | apply qa | apply qb) | exact HB.out)⟩⟩
            ·replace c39 := Bool.eq_false_iff.mpr c39
             subst c39
             have H1 : (some false) = some r := by rw [if_neg (show ¬ (false = true) by decide)] at H; exact H
             clear H
             have H := H1
             clear H1
             obtain rfl := Option.some.inj H
             have p120 : 0 ≤ (x13_3 : Int) := of_decide_eq_true (by first | (with_reducible assumption) | assumption)
             have q120 : x13_3 < (t102.length : Int) := of_decide_eq_true (by first | (with_reducible assumption) | assumption)
             obtain ⟨ad120, e120, hx120_0, hx120_1, hx120_2, hx120_3⟩ := at_T48 (Kd.R_reads' HO_3.out).2.2 x13_3 p120 q120
             cases e120
             replace p120 := eq_true p120
             replace q120 := eq_true q120
             obtain ⟨Ao41, co41, eo41⟩ := Kd.R_slice HO_12.out
             subst eo41
             go_wp2_with (first | ((with_reducible refine qq (f := 49) rfl ?_); refine qu (some 116) rfl rfl Try.func49 (by kernel_rfl) rfl #[.slice Ao41 t117.length co41, .string ((qg t102 x13_3).f0.f0)] rfl (by (try simp only [List.map_toArray, List.map_cons, List.map_nil]); first | done | rfl | (simp only [List.length_drop, List.length_take]; rfl) | (rw [IntWalk.u64_in _ (by omega)] <;> rfl)) ?_; (with_reducible refine (laws_hasText.calls k3 _ _ t117 ((qg t102 x13_3).f0.f0) false _ ?side1 ?side2 A38.out).mono ?_); (case side1 => repeat (first | exact (Kd.R_reads' HO_12.out).2.2 | (with_reducible refine Kd.C_alloc ?_ _) | (with_reducible refine Kd.C_drewN ?_ _) | (with_reducible refine Kd.C_drew ?_))); (case side2 => exact (Kd.R_reads' HO_12.out).2.1); rintro e w' ⟨rfl, ⟨nd, rfl⟩⟩; refine ⟨_, rfl, ?_⟩))
             go_ret
             exact ⟨by first | rfl | (simp [qp, qo] <;> rfl) | (simp [*, qp, qo] <;> rfl), by repeat (first | (with_reducible first | exact HB.out | apply qc | apply qa | apply qb) | exact HB.out)⟩
           ·rw [if_neg c37] at H
            exact absurd H (by simp)
          ·rw [if_neg c36] at H
           have c36b0 : decide (x13_3 < (t102.length : Int)) = false := decide_eq_false c36
           clear c36
           have H' := Qz.mk H
           clear H
           go_wp2
           go_loopg [14] k3 (fun kq v14 w' => ∃ (x14_4 : Int), v14 = .int .i64 x14_4 ∧ Qz (laws_FnGot.l2 kq t102 t107 t108 x10_2 t117 x14_4 = some r) ∧ Qz (kq ≤ k3) ∧ Qz (Kd.R k48 48 w' w.heap.size (fun _ => True) (.slice Ao9 t102.length co9) t102) ∧ Qz (Kd.R Kd.string 9 w' w.heap.size (fun _ => True) v118 t117) ∧ Qz (Below w.heap.size w w'))
           case atStart => exact ⟨(1), (by first | rfl | (simp; done) | (simp [*]; done)), H', ⟨Nat.le_refl _⟩, ⟨by (with_reducible repeat (first | apply Kd.R_alloc | apply Kd.R_drewN | apply Kd.R_drew)); exact HO_3.out⟩, ⟨by (with_reducible repeat (first | apply Kd.R_alloc | apply Kd.R_drewN | apply Kd.R_drew)); exact HO_12.out⟩, ⟨by repeat (first | (with_reducible first | exact HB.out | apply qc | apply qa | apply qb) | exact HB.out)⟩⟩
           case round =>
            clear H'
            try clear c1
            try clear p1
            try clear q1
            try clear hx1
            try clear c2
            try clear p2
            try clear c3
            try clear c4
            try clear p6
            try clear p11
            try clear q11
            try clear hx11
            try clear p12
            try clear q12
            try clear hx12
            try clear c18
            try clear c18b0
            try clear c19
            try clear c20
            try clear c20b0
            try clear c20b1
            try clear c21
            try clear c21b0
            try clear c24
            try clear c25
            try clear c33
            try clear c36
            try clear c36b0
            try clear c37
            try clear c37b0
            try clear c39
            try clear hx112_0
            try clear hx112_1
            try clear hx112_2
            try clear hx112_3
            try clear hx113_0
            try clear hx113_1
            try clear hx113_2
            try clear hx113_3
            try clear hx120_0
            try clear hx120_1
            try clear hx120_2
            try clear hx120_3
            try clear p1
            try clear p11
            try clear p112
            try clear p113
            try clear p120
            try clear p2
            try clear p6
            try clear q1
            try clear q11
            try clear q112
            try clear q113
            try clear q120
            obtain ⟨x14_4, rfl, HA, HK4, HO_3, HO_12, HB⟩ := hrel
            cases gk with
            | zero => exact absurd HA.out (by simp [laws_FnGot.l2])
            | succ k4 =>
             have H := HA.out
             clear HA
             simp only [laws_FnGot.l2] at H
             by_cases c42 : x14_4 < (t117.length : Int)
             ·rw [if_pos c42] at H
              have c42b0 : decide (x14_4 < (t117.length : Int)) = true := decide_eq_true c42
              clear c42
              obtain ⟨ji43, hji43⟩ : ∃ j_ : Int, (wrap64 (x14_4 - 1)) = j_ := ⟨_, rfl⟩
              replace H : (if 0 ≤ (ji43) then (if (ji43) < (t117.length : Int) then (if 0 ≤ x14_4 then (if ((Op.bytesLess ((rdOf ByteArray.empty t117 (ji43)).toList) ((rdOf ByteArray.empty t117 x14_4).toList)) = true) then (laws_FnGot.l2 k4 t102 t107 t108 x10_2 t117 (wrap64 (x14_4 + 1))) else (some false)) else (none)) else (none)) else (none)) = some r := by first | (rw [hji43] at H; exact H) | (simp only [hji43] at H ⊢; exact H)
              have hji43w : (IntKind.i64.wrap (x14_4 - 1)) = ji43 := (i64_w _).trans hji43
              by_cases c44 : 0 ≤ (ji43)
              ·rw [if_pos c44] at H
               have c44b0 : decide (0 ≤ (ji43)) = true := decide_eq_true c44
               clear c44
               by_cases c45 : (ji43) < (t117.length : Int)
               ·rw [if_pos c45] at H
                have c45b0 : decide ((ji43) < (t117.length : Int)) = true := decide_eq_true c45
                clear c45
                by_cases c46 : 0 ≤ x14_4
                ·rw [if_pos c46] at H
                 have c46b0 : decide (0 ≤ x14_4) = true := decide_eq_true c46
                 clear c46
                 by_cases c47 : ((Op.bytesLess ((rdOf ByteArray.empty t117 (ji43)).toList) ((rdOf ByteArray.empty t117 x14_4).toList)) = true)
                 ·rw [if_pos c47] at H
                  have c47b0 : (Op.bytesLess ((rdOf ByteArray.empty t117 (ji43)).toList) ((rdOf ByteArray.empty t117 x14_4).toList)) = true := c47
                  clear c47
                  have H' := Qz.mk H
                  clear H
                  obtain ⟨Ao48, co48, eo48⟩ := Kd.R_slice HO_12.out
                  subst eo48
                  try go_wp2
                  replace HO_3 := Qz.mk (Kd.R_drew HO_3.out)
                  replace HO_12 := Qz.mk (Kd.R_drew HO_12.out)
                  replace HB := Qz.mk (qb HB.out)
                  have p122 : 0 ≤ ((ji43) : Int) := of_decide_eq_true (by first | (with_reducible assumption) | assumption)
                  have q122 : (ji43) < (t117.length : Int) := of_decide_eq_true (by first | (with_reducible assumption) | assumption)
                  obtain ⟨ad122, e122, hx122_0⟩ := Kd.at_string (Kd.R_reads' HO_12.out).2.2 (ji43) p122 q122
                  cases e122
                  replace p122 := eq_true p122
                  replace q122 := eq_true q122
                  have p123 : 0 ≤ (x14_4 : Int) := of_decide_eq_true (by first | (with_reducible assumption) | assumption)
                  have q123 : x14_4 < (t117.length : Int) := of_decide_eq_true (by first | (with_reducible assumption) | assumption)
                  obtain ⟨ad123, e123, hx123_0⟩ := Kd.at_string (Kd.R_reads' HO_12.out).2.2 x14_4 p123 q123
                  obtain rfl : ad122 = ad123 := (by injection e123)
                  replace p123 := eq_true p123
                  replace q123 := eq_true q123
                  refine start_ (n := 10) (S := fun w' => w'.cell? (ad122.add ((ji43)).toNat) = some (.string (rdOf ByteArray.empty t117 (ji43))) ∧ w'.cell? (ad122.add (x14_4).toNat) = some (.string (rdOf ByteArray.empty t117 x14_4))) (ds := []) bq6 (by kernel_rfl) rfl rfl ⟨hx122_0, hx123_0⟩ (fun hHeld => ?_); refine with_tabW laws_FnGot.tab23 laws_FnGot.bits23 (fun HT_ HW_ => ?_)
                  generalize wr.drew = w49 at HO_3 HO_12 HB hx122_0 hx123_0 hHeld ⊢
                  refine pure_ (i := 0) (N := some 124) (v := ?_) (a' := ?_) bq13 rfl rfl (qj HT_.out (by kernel_rfl)) (fun _ _ _ h => h) (Or.inl ⟨by rfl, ?_⟩) ?_ ?_
                  rotate_left
                  ·intro w'
                   go_simp
                   with_reducible rfl
                  rotate_left
                  ·simp only [Act.put, sq1, sq2, sq3, i64_w, i32_w]
                   rfl
                  refine pure_ (i := 1) (N := some 125) (v := ?_) (a' := ?_) bq20 rfl rfl (qj HT_.out (by kernel_rfl)) (fun _ _ _ h => h) (Or.inl ⟨by rfl, ?_⟩) ?_ ?_
                  rotate_left
                  ·intro w'
                   go_simp
                   with_reducible rfl
                  rotate_left
                  ·simp only [Act.put, sq1, sq2, sq3, i64_w, i32_w]
                   rfl
                  refine pure_ (i := 2) (N := some 126) (v := ?_) (a' := ?_) bq27 rfl rfl (qj HT_.out (by kernel_rfl)) (fun _ _ _ h => h) (Or.inl ⟨by rfl, ?_⟩) ?_ ?_
                  rotate_left
                  ·intro w'
                   go_simp
                   with_reducible rfl
                  rotate_left
                  ·simp only [Act.put, sq1, sq2, sq3, i64_w, i32_w]
                   rfl
                  refine pure_ (i := 3) (N := some 127) (v := ?_) (a' := ?_) bq34 rfl rfl (qj HT_.out (by kernel_rfl)) (fun _ _ _ h => h) (Or.inl ⟨by rfl, ?_⟩) ?_ ?_
                  rotate_left
                  ·intro w'
                   go_simp
                   with_reducible rfl
                  rotate_left
                  ·simp only [Act.put, sq1, sq2, sq3, i64_w, i32_w]
                   rfl
                  refine pure_ (i := 5) (N := some 129) (v := ?_) (a' := ?_) bq35 rfl rfl (qj HT_.out (by kernel_rfl)) (fun _ _ _ h => h) (Or.inl ⟨by rfl, ?_⟩) ?_ ?_
                  rotate_left
                  ·intro w'
                   go_simp
                   with_reducible rfl
                  rotate_left
                  ·simp only [Act.put, sq1, sq2, sq3, i64_w, i32_w]
                   rfl
                  refine pure_ (i := 6) (N := some 130) (v := ?_) (a' := ?_) bq36 rfl rfl (qj HT_.out (by kernel_rfl)) (fun _ _ _ h => h) (Or.inl ⟨by rfl, ?_⟩) ?_ ?_
                  rotate_left
                  ·intro w'
                   go_simp
                   with_reducible rfl
                  rotate_left
                  ·simp only [Act.put, sq1, sq2, sq3, i64_w, i32_w]
                   rfl
                  refine pure_ (i := 7) (N := some 131) (v := ?_) (a' := ?_) bq37 rfl rfl (qj HT_.out (by kernel_rfl)) (fun _ _ _ h => h) (Or.inl ⟨by rfl, ?_⟩) ?_ ?_
                  rotate_left
                  ·intro w'
                   go_simp
                   with_reducible rfl
                  rotate_left
                  ·simp only [Act.put, sq1, sq2, sq3, i64_w, i32_w]
                   rfl
                  refine take_ (i := 4) (N := some 128) (v := ?_) (a' := ?_) bq62 rfl rfl (take_ofW HT_.out HW_.out (by kernel_rfl)) (fun _ _ _ h => h) (Or.inl ⟨by rfl, ?_⟩) hHeld ?_ ?_
                  rotate_left
                  ·rintro w' ⟨s0, s1⟩
                   go_simp
                   with_reducible rfl
                  rotate_left
                  ·simp only [Act.put, sq1, sq2, sq3, i64_w, i32_w]
                   rfl
                  refine take_ (i := 8) (N := some 132) (v := ?_) (a' := ?_) bq71 rfl rfl (take_ofW HT_.out HW_.out (by kernel_rfl)) (fun _ _ _ h => h) (Or.inl ⟨by rfl, ?_⟩) hHeld ?_ ?_
                  rotate_left
                  ·rintro w' ⟨s0, s1⟩
                   go_simp
                   with_reducible rfl
                  rotate_left
                  ·simp only [Act.put, sq1, sq2, sq3, i64_w, i32_w]
                   rfl
                  refine pure_ (i := 9) (N := some 133) (v := ?_) (a' := ?_) bq156 rfl rfl (qj HT_.out (by kernel_rfl)) (fun _ _ _ h => h) (Or.inl ⟨by rfl, ?_⟩) ?_ ?_
                  rotate_left
                  ·intro w'
                   go_simp
                   with_reducible rfl
                  rotate_left
                  ·simp only [Act.put, sq1, sq2, sq3, i64_w, i32_w]
                   rfl
                  refine done_ (done_of HT_.out (by kernel_rfl)) ?_
                  try go_wp2
                  go_roundg k4
                  case measure => have := HJ6.out; have := HK2.out; have := HK3.out; have := HK4.out; omega
                  case rel => exact ⟨(wrap64 (x14_4 + 1)), (by first | rfl | (simp; done) | (simp [*]; done)), H', ⟨by have := HJ6.out; have := HK2.out; have := HK3.out; have := HK4.out; omega⟩, ⟨by (with_reducible repeat (first | apply Kd.R_alloc | apply Kd.R_drewN | apply Kd.R_drew)); exact HO_3.out⟩, ⟨by (with_reducible repeat (first | apply Kd.R_alloc | apply Kd.R_drewN | apply Kd.R_drew)); exact HO_12.out⟩, ⟨by repeat (first | (with_reducible first | exact HB.out | apply qc | apply qa | apply qb) | exact HB.out)⟩⟩
                 ·rw [if_neg c47] at H
                  have c47b0 : (Op.bytesLess ((rdOf ByteArray.empty t117 (ji43)).toList) ((rdOf ByteArray.empty t117 x14_4).toList)) = false := by simpa using c47
                  clear c47
                  obtain rfl := Option.some.inj H
                  obtain ⟨Ao50, co50, eo50⟩ := Kd.R_slice HO_12.out
                  subst eo50
                  try go_wp2
                  replace HO_3 := Qz.mk (Kd.R_drew HO_3.out)
                  replace HO_12 := Qz.mk (Kd.R_drew HO_12.out)
                  replace HB := Qz.mk (qb HB.out)
                  have p122 : 0 ≤ ((ji43) : Int) := of_decide_eq_true (by first | (with_reducible assumption) | assumption)
                  have q122 : (ji43) < (t117.length : Int) := of_decide_eq_true (by first | (with_reducible assumption) | assumption)
                  obtain ⟨ad122, e122, hx122_0⟩ := Kd.at_string (Kd.R_reads' HO_12.out).2.2 (ji43) p122 q122
                  cases e122
                  replace p122 := eq_true p122
                  replace q122 := eq_true q122
                  have p123 : 0 ≤ (x14_4 : Int) := of_decide_eq_true (by first | (with_reducible assumption) | assumption)
                  have q123 : x14_4 < (t117.length : Int) := of_decide_eq_true (by first | (with_reducible assumption) | assumption)
                  obtain ⟨ad123, e123, hx123_0⟩ := Kd.at_string (Kd.R_reads' HO_12.out).2.2 x14_4 p123 q123
                  obtain rfl : ad122 = ad123 := (by injection e123)
                  replace p123 := eq_true p123
                  replace q123 := eq_true q123
                  refine start_ (n := 10) (S := fun w' => w'.cell? (ad122.add ((ji43)).toNat) = some (.string (rdOf ByteArray.empty t117 (ji43))) ∧ w'.cell? (ad122.add (x14_4).toNat) = some (.string (rdOf ByteArray.empty t117 x14_4))) (ds := []) bq6 (by kernel_rfl) rfl rfl ⟨hx122_0, hx123_0⟩ (fun hHeld => ?_); refine with_tabW laws_FnGot.tab23 laws_FnGot.bits23 (fun HT_ HW_ => ?_)
                  generalize wr.drew = w51 at HO_3 HO_12 HB hx122_0 hx123_0 hHeld ⊢
                  refine pure_ (i := 0) (N := some 124) (v := ?_) (a' := ?_) bq13 rfl rfl (qj HT_.out (by kernel_rfl)) (fun _ _ _ h => h) (Or.inl ⟨by rfl, ?_⟩) ?_ ?_
                  rotate_left
                  ·intro w'
                   go_simp
                   with_reducible rfl
                  rotate_left
                  ·simp only [Act.put, sq1, sq2, sq3, i64_w, i32_w]
                   rfl
                  refine pure_ (i := 1) (N := some 125) (v := ?_) (a' := ?_) bq20 rfl rfl (qj HT_.out (by kernel_rfl)) (fun _ _ _ h => h) (Or.inl ⟨by rfl, ?_⟩) ?_ ?_
                  rotate_left
                  ·intro w'
                   go_simp
                   with_reducible rfl
                  rotate_left
                  ·simp only [Act.put, sq1, sq2, sq3, i64_w, i32_w]
                   rfl
                  refine pure_ (i := 2) (N := some 126) (v := ?_) (a' := ?_) bq27 rfl rfl (qj HT_.out (by kernel_rfl)) (fun _ _ _ h => h) (Or.inl ⟨by rfl, ?_⟩) ?_ ?_
                  rotate_left
                  ·intro w'
                   go_simp
                   with_reducible rfl
                  rotate_left
                  ·simp only [Act.put, sq1, sq2, sq3, i64_w, i32_w]
                   rfl
                  refine pure_ (i := 3) (N := some 127) (v := ?_) (a' := ?_) bq34 rfl rfl (qj HT_.out (by kernel_rfl)) (fun _ _ _ h => h) (Or.inl ⟨by rfl, ?_⟩) ?_ ?_
                  rotate_left
                  ·intro w'
                   go_simp
                   with_reducible rfl
                  rotate_left
                  ·simp only [Act.put, sq1, sq2, sq3, i64_w, i32_w]
                   rfl
                  refine pure_ (i := 5) (N := some 129) (v := ?_) (a' := ?_) bq35 rfl rfl (qj HT_.out (by kernel_rfl)) (fun _ _ _ h => h) (Or.inl ⟨by rfl, ?_⟩) ?_ ?_
                  rotate_left
                  ·intro w'
                   go_simp
                   with_reducible rfl
                  rotate_left
                  ·simp only [Act.put, sq1, sq2, sq3, i64_w, i32_w]
                   rfl
                  refine pure_ (i := 6) (N := some 130) (v := ?_) (a' := ?_) bq36 rfl rfl (qj HT_.out (by kernel_rfl)) (fun _ _ _ h => h) (Or.inl ⟨by rfl, ?_⟩) ?_ ?_
                  rotate_left
                  ·intro w'
                   go_simp
                   with_reducible rfl
                  rotate_left
                  ·simp only [Act.put, sq1, sq2, sq3, i64_w, i32_w]
                   rfl
                  refine pure_ (i := 7) (N := some 131) (v := ?_) (a' := ?_) bq37 rfl rfl (qj HT_.out (by kernel_rfl)) (fun _ _ _ h => h) (Or.inl ⟨by rfl, ?_⟩) ?_ ?_
                  rotate_left
                  ·intro w'
                   go_simp
                   with_reducible rfl
                  rotate_left
                  ·simp only [Act.put, sq1, sq2, sq3, i64_w, i32_w]
                   rfl
                  refine take_ (i := 4) (N := some 128) (v := ?_) (a' := ?_) bq62 rfl rfl (take_ofW HT_.out HW_.out (by kernel_rfl)) (fun _ _ _ h => h) (Or.inl ⟨by rfl, ?_⟩) hHeld ?_ ?_
                  rotate_left
                  ·rintro w' ⟨s0, s1⟩
                   go_simp
                   with_reducible rfl
                  rotate_left
                  ·simp only [Act.put, sq1, sq2, sq3, i64_w, i32_w]
                   rfl
                  refine take_ (i := 8) (N := some 132) (v := ?_) (a' := ?_) bq71 rfl rfl (take_ofW HT_.out HW_.out (by kernel_rfl)) (fun _ _ _ h => h) (Or.inl ⟨by rfl, ?_⟩) hHeld ?_ ?_
                  rotate_left
                  ·rintro w' ⟨s0, s1⟩
                   go_simp
                   with_reducible rfl
                  rotate_left
                  ·simp only [Act.put, sq1, sq2, sq3, i64_w, i32_w]
                   rfl
                  refine pure_ (i := 9) (N := some 133) (v := ?_) (a' := ?_) bq156 rfl rfl (qj HT_.out (by kernel_rfl)) (fun _ _ _ h => h) (Or.inl ⟨by rfl, ?_⟩) ?_ ?_
                  rotate_left
                  ·intro w'
                   go_simp
                   with_reducible rfl
                  rotate_left
                  ·simp only [Act.put, sq1, sq2, sq3, i64_w, i32_w]
                   rfl
                  refine done_ (done_of HT_.out (by kernel_rfl)) ?_
                  try go_wp2
                  go_ret
                  exact ⟨by first | rfl | (simp [qp, qo] <;> rfl) | (simp only [← hji43]; first | rfl | (simp [qp, qo] <;> rfl)) | (simp [*, qp, qo] <;> rfl), by repeat (first | (with_reducible first | exact HB.out | apply qc | apply qa | apply qb) | exact HB.out)⟩
                ·rw [if_neg c46] at H
                 exact absurd H (by simp)
               ·rw [if_neg c45] at H
                exact absurd H (by simp)
              ·rw [if_neg c44] at H
               exact absurd H (by simp)
             ·rw [if_neg c42] at H
              have c42b0 : decide (x14_4 < (t117.length : Int)) = false := decide_eq_false c42
              clear c42
              by_cases c52 : x10_2 < 0
              ·rw [if_pos c52] at H
               have c52b0 : decide (x10_2 < 0) = true := decide_eq_true c52
               clear c52
               obtain rfl := Option.some.inj H
               obtain ⟨Ao53, co53, eo53⟩ := Kd.R_slice HO_12.out
               subst eo53
               go_wp2
               go_ret
               exact ⟨by first | rfl | (simp [qp, qo] <;> rfl) | (simp [*, qp, qo] <;> rfl), by repeat (first | (with_reducible first | exact HB.out | apply qc | apply qa | apply qb) | exact HB.out)⟩
              ·rw [if_neg c52] at H
               have c52b0 : decide (x10_2 < 0) = false := decide_eq_false c52
               clear c52
               by_cases c54 : 0 ≤ x10_2
               ·rw [if_pos c54] at H
                have c54b0 : decide (0 ≤ x10_2) = true := decide_eq_true c54
                clear c54
                by_cases c55 : x10_2 < (t102.length : Int)
                ·rw [if_pos c55] at H
                 have c55b0 : decide (x10_2 < (t102.length : Int)) = true := decide_eq_true c55
                 clear c55
                 by_cases c56 : t108.toList = ((qg t102 x10_2).f1).toList
                 ·rw [if_pos c56] at H
                  have c56b0 : (t108.toList == ((qg t102 x10_2).f1).toList) = true := beq_iff_eq.mpr c56
                  have c56b1 : (t108.toList != ((qg t102 x10_2).f1).toList) = false := bne_eq_false_iff_eq.mpr c56
                  clear c56
                  obtain rfl := Option.some.inj H
                  obtain ⟨Ao57, co57, eo57⟩ := Kd.R_slice HO_12.out
                  subst eo57
                  try go_wp2
                  replace HO_3 := Qz.mk (Kd.R_drew HO_3.out)
                  replace HO_12 := Qz.mk (Kd.R_drew HO_12.out)
                  replace HB := Qz.mk (qb HB.out)
                  have p124 : 0 ≤ (x10_2 : Int) := of_decide_eq_true (by first | (with_reducible assumption) | assumption)
                  have q124 : x10_2 < (t102.length : Int) := of_decide_eq_true (by first | (with_reducible assumption) | assumption)
                  obtain ⟨ad124, e124, hx124_0, hx124_1, hx124_2, hx124_3⟩ := at_T48 (Kd.R_reads' HO_3.out).2.2 x10_2 p124 q124
                  cases e124
                  replace p124 := eq_true p124
                  replace q124 := eq_true q124
                  have p125 : 0 ≤ (x10_2 : Int) := of_decide_eq_true (by first | (with_reducible assumption) | assumption)
                  have q125 : x10_2 < (t102.length : Int) := of_decide_eq_true (by first | (with_reducible assumption) | assumption)
                  obtain ⟨ad125, e125, hx125_0, hx125_1, hx125_2, hx125_3⟩ := at_T48 (Kd.R_reads' HO_3.out).2.2 x10_2 p125 q125
                  obtain rfl : ad124 = ad125 := (by injection e125)
                  replace p125 := eq_true p125
                  replace q125 := eq_true q125
                  have p126 : 0 ≤ (x10_2 : Int) := of_decide_eq_true (by first | (with_reducible assumption) | assumption)
                  have q126 : x10_2 < (t102.length : Int) := of_decide_eq_true (by first | (with_reducible assumption) | assumption)
                  obtain ⟨ad126, e126, hx126_0, hx126_1, hx126_2, hx126_3⟩ := at_T48 (Kd.R_reads' HO_3.out).2.2 x10_2 p126 q126
                  obtain rfl : ad124 = ad126 := (by injection e126)
                  replace p126 := eq_true p126
                  replace q126 := eq_true q126
                  refine start_ (n := 29) (S := fun w' => w'.cell? (ad124.add ((x10_2).toNat * 4)) = some (.string ((qg t102 x10_2).f0.f0)) ∧ w'.cell? ⟨(ad124.add ((x10_2).toNat * 4)).block, (ad124.add ((x10_2).toNat * 4)).off + 1, none⟩ = some (.int .i64 ((qg t102 x10_2).f0.f1)) ∧ w'.cell? ⟨(ad124.add ((x10_2).toNat * 4)).block, (ad124.add ((x10_2).toNat * 4)).off + 2, none⟩ = some (.int .i64 ((qg t102 x10_2).f0.f2)) ∧ w'.cell? ⟨(ad124.add ((x10_2).toNat * 4)).block, (ad124.add ((x10_2).toNat * 4)).off + 3, none⟩ = some (.string ((qg t102 x10_2).f1)) ∧ w'.cell? (ad124.add ((x10_2).toNat * 4)) = some (.string ((qg t102 x10_2).f0.f0)) ∧ w'.cell? ⟨(ad124.add ((x10_2).toNat * 4)).block, (ad124.add ((x10_2).toNat * 4)).off + 1, none⟩ = some (.int .i64 ((qg t102 x10_2).f0.f1)) ∧ w'.cell? ⟨(ad124.add ((x10_2).toNat * 4)).block, (ad124.add ((x10_2).toNat * 4)).off + 2, none⟩ = some (.int .i64 ((qg t102 x10_2).f0.f2)) ∧ w'.cell? ⟨(ad124.add ((x10_2).toNat * 4)).block, (ad124.add ((x10_2).toNat * 4)).off + 3, none⟩ = some (.string ((qg t102 x10_2).f1)) ∧ w'.cell? (ad124.add ((x10_2).toNat * 4)) = some (.string ((qg t102 x10_2).f0.f0)) ∧ w'.cell? ⟨(ad124.add ((x10_2).toNat * 4)).block, (ad124.add ((x10_2).toNat * 4)).off + 1, none⟩ = some (.int .i64 ((qg t102 x10_2).f0.f1)) ∧ w'.cell? ⟨(ad124.add ((x10_2).toNat * 4)).block, (ad124.add ((x10_2).toNat * 4)).off + 2, none⟩ = some (.int .i64 ((qg t102 x10_2).f0.f2)) ∧ w'.cell? ⟨(ad124.add ((x10_2).toNat * 4)).block, (ad124.add ((x10_2).toNat * 4)).off + 3, none⟩ = some (.string ((qg t102 x10_2).f1))) (ds := []) bq1 (by kernel_rfl) rfl rfl ⟨hx124_0, hx124_1, hx124_2, hx124_3, hx125_0, hx125_1, hx125_2, hx125_3, hx126_0, hx126_1, hx126_2, hx126_3⟩ (fun hHeld => ?_); refine with_tabW laws_FnGot.tab27 laws_FnGot.bits27 (fun HT_ HW_ => ?_)
                  generalize wr.drew = w58 at HO_3 HO_12 HB hx124_0 hx124_1 hx124_2 hx124_3 hx125_0 hx125_1 hx125_2 hx125_3 hx126_0 hx126_1 hx126_2 hx126_3 hHeld ⊢
                  refine pure_ (i := 0) (N := some 138) (v := ?_) (a' := ?_) bq8 rfl rfl (qj HT_.out (by kernel_rfl)) (fun _ _ _ h => h) (Or.inl ⟨by rfl, ?_⟩) ?_ ?_
                  rotate_left
                  ·intro w'
                   go_simp
                   with_reducible rfl
                  rotate_left
                  ·simp only [Act.put, sq1, sq2, sq3, i64_w, i32_w]
                   rfl
                  refine pure_ (i := 1) (N := some 139) (v := ?_) (a' := ?_) bq15 rfl rfl (qj HT_.out (by kernel_rfl)) (fun _ _ _ h => h) (Or.inl ⟨by rfl, ?_⟩) ?_ ?_
                  rotate_left
                  ·intro w'
                   go_simp
                   with_reducible rfl
                  rotate_left
                  ·simp only [Act.put, sq1, sq2, sq3, i64_w, i32_w]
                   rfl
                  refine pure_ (i := 2) (N := some 140) (v := ?_) (a' := ?_) bq22 rfl rfl (qj HT_.out (by kernel_rfl)) (fun _ _ _ h => h) (Or.inl ⟨by rfl, ?_⟩) ?_ ?_
                  rotate_left
                  ·intro w'
                   go_simp
                   with_reducible rfl
                  rotate_left
                  ·simp only [Act.put, sq1, sq2, sq3, i64_w, i32_w]
                   rfl
                  refine pure_ (i := 3) (N := some 141) (v := ?_) (a' := ?_) bq29 rfl rfl (qj HT_.out (by kernel_rfl)) (fun _ _ _ h => h) (Or.inl ⟨by rfl, ?_⟩) ?_ ?_
                  rotate_left
                  ·intro w'
                   go_simp
                   with_reducible rfl
                  rotate_left
                  ·simp only [Act.put, sq1, sq2, sq3, i64_w, i32_w]
                   rfl
                  refine pure_ (i := 4) (N := some 142) (v := ?_) (a' := ?_) bq39 rfl rfl (qj HT_.out (by kernel_rfl)) (fun _ _ _ h => h) (Or.inl ⟨by rfl, ?_⟩) ?_ ?_
                  rotate_left
                  ·intro w'
                   go_simp
                   with_reducible rfl
                  rotate_left
                  ·simp only [Act.put, sq1, sq2, sq3, i64_w, i32_w]
                   rfl
                  refine take_ (i := 5) (N := some 143) (v := ?_) (a' := ?_) bq45 rfl rfl (take_ofW HT_.out HW_.out (by kernel_rfl)) (fun _ _ _ h => h) (Or.inl ⟨by rfl, ?_⟩) hHeld ?_ ?_
                  rotate_left
                  ·rintro w' ⟨s0, s1, s2, s3, s4, s5, s6, s7, s8, s9, s10, s11⟩
                   go_simp
                   with_reducible rfl
                  rotate_left
                  ·simp only [Act.put, sq1, sq2, sq3, i64_w, i32_w]
                   rfl
                  refine pure_ (i := 6) (N := some 144) (v := ?_) (a' := ?_) bq51 rfl rfl (qj HT_.out (by kernel_rfl)) (fun _ _ _ h => h) (Or.inl ⟨by rfl, ?_⟩) ?_ ?_
                  rotate_left
                  ·intro w'
                   go_simp
                   with_reducible rfl
                  rotate_left
                  ·simp only [Act.put, sq1, sq2, sq3, i64_w, i32_w]
                   rfl
                  refine pure_ (i := 7) (N := some 145) (v := ?_) (a' := ?_) bq57 rfl rfl (qj HT_.out (by kernel_rfl)) (fun _ _ _ h => h) (Or.inl ⟨by rfl, ?_⟩) ?_ ?_
                  rotate_left
                  ·intro w'
                   go_simp
                   with_reducible rfl
                  rotate_left
                  ·simp only [Act.put, sq1, sq2, sq3, i64_w, i32_w]
                   rfl
                  refine pure_ (i := 8) (N := some 146) (v := ?_) (a' := ?_) bq64 rfl rfl (qj HT_.out (by kernel_rfl)) (fun _ _ _ h => h) (Or.inl ⟨by rfl, ?_⟩) ?_ ?_
                  rotate_left
                  ·intro w'
                   go_simp
                   with_reducible rfl
                  rotate_left
                  ·simp only [Act.put, sq1, sq2, sq3, i64_w, i32_w]
                   rfl
                  refine pure_ (i := 9) (N := some 147) (v := ?_) (a' := ?_) bq73 rfl rfl (qj HT_.out (by kernel_rfl)) (fun _ _ _ h => h) (Or.inl ⟨by rfl, ?_⟩) ?_ ?_
                  rotate_left
                  ·intro w'
                   go_simp
                   with_reducible rfl
                  rotate_left
                  ·simp only [Act.put, sq1, sq2, sq3, i64_w, i32_w]
                   rfl
                  refine pure_ (i := 10) (N := some 148) (v := ?_) (a' := ?_) bq77 rfl rfl (qj HT_.out (by kernel_rfl)) (fun _ _ _ h => h) (Or.inl ⟨by rfl, ?_⟩) ?_ ?_
                  rotate_left
                  ·intro w'
                   go_simp
                   with_reducible rfl
                  rotate_left
                  ·simp only [Act.put, sq1, sq2, sq3, i64_w, i32_w]
                   rfl
                  refine pure_ (i := 11) (N := some 149) (v := ?_) (a' := ?_) bq83 rfl rfl (qj HT_.out (by kernel_rfl)) (fun _ _ _ h => h) (Or.inl ⟨by rfl, ?_⟩) ?_ ?_
                  rotate_left
                  ·intro w'
                   go_simp
                   with_reducible rfl
                  rotate_left
                  ·simp only [Act.put, sq1, sq2, sq3, i64_w, i32_w]
                   rfl
                  refine pure_ (i := 12) (N := some 150) (v := ?_) (a' := ?_) bq90 rfl rfl (qj HT_.out (by kernel_rfl)) (fun _ _ _ h => h) (Or.inl ⟨by rfl, ?_⟩) ?_ ?_
                  rotate_left
                  ·intro w'
                   go_simp
                   with_reducible rfl
                  rotate_left
                  ·simp only [Act.put, sq1, sq2, sq3, i64_w, i32_w]
                   rfl
                  refine pure_ (i := 13) (N := some 151) (v := ?_) (a' := ?_) bq96 rfl rfl (qj HT_.out (by kernel_rfl)) (fun _ _ _ h => h) (Or.inl ⟨by rfl, ?_⟩) ?_ ?_
                  rotate_left
                  ·intro w'
                   go_simp
                   with_reducible rfl
                  rotate_left
                  ·simp only [Act.put, sq1, sq2, sq3, i64_w, i32_w]
                   rfl
                  refine pure_ (i := 17) (N := some 155) (v := ?_) (a' := ?_) #[true, true, true, true, true, true, true, true, true, true, true, true, true, true, false, false, false, true, false, false, false, false, false, false, false, false, false, false, false] rfl rfl (qj HT_.out (by kernel_rfl)) (fun _ _ _ h => h) (Or.inl ⟨by rfl, ?_⟩) ?_ ?_
                  rotate_left
                  ·intro w'
                   go_simp
                   with_reducible rfl
                  rotate_left
                  ·simp only [Act.put, sq1, sq2, sq3, i64_w, i32_w]
                   rfl
                  refine pure_ (i := 18) (N := some 156) (v := ?_) (a' := ?_) #[true, true, true, true, true, true, true, true, true, true, true, true, true, true, false, false, false, true, true, false, false, false, false, false, false, false, false, false, false] rfl rfl (qj HT_.out (by kernel_rfl)) (fun _ _ _ h => h) (Or.inl ⟨by rfl, ?_⟩) ?_ ?_
                  rotate_left
                  ·intro w'
                   go_simp
                   with_reducible rfl
                  rotate_left
                  ·simp only [Act.put, sq1, sq2, sq3, i64_w, i32_w]
                   rfl
                  refine pure_ (i := 19) (N := some 157) (v := ?_) (a' := ?_) #[true, true, true, true, true, true, true, true, true, true, true, true, true, true, false, false, false, true, true, true, false, false, false, false, false, false, false, false, false] rfl rfl (qj HT_.out (by kernel_rfl)) (fun _ _ _ h => h) (Or.inl ⟨by rfl, ?_⟩) ?_ ?_
                  rotate_left
                  ·intro w'
                   go_simp
                   with_reducible rfl
                  rotate_left
                  ·simp only [Act.put, sq1, sq2, sq3, i64_w, i32_w]
                   rfl
                  refine pure_ (i := 20) (N := some 158) (v := ?_) (a' := ?_) #[true, true, true, true, true, true, true, true, true, true, true, true, true, true, false, false, false, true, true, true, true, false, false, false, false, false, false, false, false] rfl rfl (qj HT_.out (by kernel_rfl)) (fun _ _ _ h => h) (Or.inl ⟨by rfl, ?_⟩) ?_ ?_
                  rotate_left
                  ·intro w'
                   go_simp
                   with_reducible rfl
                  rotate_left
                  ·simp only [Act.put, sq1, sq2, sq3, i64_w, i32_w]
                   rfl
                  refine pure_ (i := 21) (N := some 159) (v := ?_) (a' := ?_) #[true, true, true, true, true, true, true, true, true, true, true, true, true, true, false, false, false, true, true, true, true, true, false, false, false, false, false, false, false] rfl rfl (qj HT_.out (by kernel_rfl)) (fun _ _ _ h => h) (Or.inl ⟨by rfl, ?_⟩) ?_ ?_
                  rotate_left
                  ·intro w'
                   go_simp
                   with_reducible rfl
                  rotate_left
                  ·simp only [Act.put, sq1, sq2, sq3, i64_w, i32_w]
                   rfl
                  refine take_ (i := 14) (N := some 152) (v := ?_) (a' := ?_) #[true, true, true, true, true, true, true, true, true, true, true, true, true, true, true, false, false, true, true, true, true, true, false, false, false, false, false, false, false] rfl rfl (take_ofW HT_.out HW_.out (by kernel_rfl)) (fun _ _ _ h => h) (Or.inl ⟨by rfl, ?_⟩) hHeld ?_ ?_
                  rotate_left
                  ·rintro w' ⟨s0, s1, s2, s3, s4, s5, s6, s7, s8, s9, s10, s11⟩
                   go_simp
                   with_reducible rfl
                  rotate_left
                  ·simp only [Act.put, sq1, sq2, sq3, i64_w, i32_w]
                   rfl
                  refine pure_ (i := 15) (N := some 153) (v := ?_) (a' := ?_) #[true, true, true, true, true, true, true, true, true, true, true, true, true, true, true, true, false, true, true, true, true, true, false, false, false, false, false, false, false] rfl rfl (qj HT_.out (by kernel_rfl)) (fun _ _ _ h => h) (Or.inl ⟨by rfl, ?_⟩) ?_ ?_
                  rotate_left
                  ·intro w'
                   go_simp
                   with_reducible rfl
                  rotate_left
                  ·simp only [Act.put, sq1, sq2, sq3, i64_w, i32_w]
                   rfl
                  refine pure_ (i := 16) (N := some 154) (v := ?_) (a' := ?_) bq123 rfl rfl (qj HT_.out (by kernel_rfl)) (fun _ _ _ h => h) (Or.inl ⟨by rfl, ?_⟩) ?_ ?_
                  rotate_left
                  ·intro w'
                   go_simp
                   with_reducible rfl
                  rotate_left
                  ·simp only [Act.put, sq1, sq2, sq3, i64_w, i32_w]
                   rfl
                  refine take_ (i := 22) (N := some 160) (v := ?_) (a' := ?_) bq126 rfl rfl (take_ofW HT_.out HW_.out (by kernel_rfl)) (fun _ _ _ h => h) (Or.inl ⟨by rfl, ?_⟩) hHeld ?_ ?_
                  rotate_left
                  ·rintro w' ⟨s0, s1, s2, s3, s4, s5, s6, s7, s8, s9, s10, s11⟩
                   go_simp
                   with_reducible rfl
                  rotate_left
                  ·simp only [Act.put, sq1, sq2, sq3, i64_w, i32_w]
                   rfl
                  refine pure_ (i := 23) (N := some 161) (v := ?_) (a' := ?_) bq129 rfl rfl (qj HT_.out (by kernel_rfl)) (fun _ _ _ h => h) (Or.inl ⟨by rfl, ?_⟩) ?_ ?_
                  rotate_left
                  ·intro w'
                   go_simp
                   with_reducible rfl
                  rotate_left
                  ·simp only [Act.put, sq1, sq2, sq3, i64_w, i32_w]
                   rfl
                  refine pure_ (i := 24) (N := some 162) (v := ?_) (a' := ?_) bq132 rfl rfl (qj HT_.out (by kernel_rfl)) (fun _ _ _ h => h) (Or.inl ⟨by rfl, ?_⟩) ?_ ?_
                  rotate_left
                  ·intro w'
                   go_simp
                   with_reducible rfl
                  rotate_left
                  ·simp only [Act.put, sq1, sq2, sq3, i64_w, i32_w]
                   rfl
                  refine pure_ (i := 25) (N := some 163) (v := ?_) (a' := ?_) bq134 rfl rfl (qj HT_.out (by kernel_rfl)) (fun _ _ _ h => h) (Or.inl ⟨by rfl, ?_⟩) ?_ ?_
                  rotate_left
                  ·intro w'
                   go_simp
                   with_reducible rfl
                  rotate_left
                  ·simp only [Act.put, sq1, sq2, sq3, i64_w, i32_w]
                   rfl
                  refine pure_ (i := 26) (N := some 164) (v := ?_) (a' := ?_) bq140 rfl rfl (qj HT_.out (by kernel_rfl)) (fun _ _ _ h => h) (Or.inl ⟨by rfl, ?_⟩) ?_ ?_
                  rotate_left
                  ·intro w'
                   go_simp
                   with_reducible rfl
                  rotate_left
                  ·simp only [Act.put, sq1, sq2, sq3, i64_w, i32_w]
                   rfl
                  refine pure_ (i := 27) (N := some 165) (v := ?_) (a' := ?_) bq142 rfl rfl (qj HT_.out (by kernel_rfl)) (fun _ _ _ h => h) (Or.inl ⟨by rfl, ?_⟩) ?_ ?_
                  rotate_left
                  ·intro w'
                   go_simp
                   with_reducible rfl
                  rotate_left
                  ·simp only [Act.put, sq1, sq2, sq3, i64_w, i32_w]
                   rfl
                  refine pure_ (i := 28) (N := some 2) (v := ?_) (a' := ?_) bq151 rfl rfl (qj HT_.out (by kernel_rfl)) (fun _ _ _ h => h) (Or.inl ⟨by rfl, ?_⟩) ?_ ?_
                  rotate_left
                  ·intro w'
                   go_simp
                   with_reducible rfl
                  rotate_left
                  ·simp only [Act.put, sq1, sq2, sq3, i64_w, i32_w]
                   rfl
                  refine done_ (done_of HT_.out (by kernel_rfl)) ?_
                  try go_wp2
                  go_ret
                  exact ⟨by first | rfl | (simp [qp, qo] <;> rfl) | (simp [*, qp, qo] <;> rfl), by repeat (first | (with_reducible first | exact HB.out | apply qc | apply qa | apply qb) | exact HB.out)⟩
                 ·rw [if_neg c56] at H
                  have c56b0 : (t108.toList == ((qg t102 x10_2).f1).toList) = false := beq_eq_false_iff_ne.mpr c56
                  have c56b1 : (t108.toList != ((qg t102 x10_2).f1).toList) = true := bne_iff_ne.mpr c56
                  obtain rfl := Option.some.inj H
                  obtain ⟨Ao59, co59, eo59⟩ := Kd.R_slice HO_12.out
                  subst eo59
                  try go_wp2
                  replace HO_3 := Qz.mk (Kd.R_drew HO_3.out)
                  replace HO_12 := Qz.mk (Kd.R_drew HO_12.out)
                  replace HB := Qz.mk (qb HB.out)
                  have p124 : 0 ≤ (x10_2 : Int) := of_decide_eq_true (by first | (with_reducible assumption) | assumption)
                  have q124 : x10_2 < (t102.length : Int) := of_decide_eq_true (by first | (with_reducible assumption) | assumption)
                  obtain ⟨ad124, e124, hx124_0, hx124_1, hx124_2, hx124_3⟩ := at_T48 (Kd.R_reads' HO_3.out).2.2 x10_2 p124 q124
                  cases e124
                  replace p124 := eq_true p124
                  replace q124 := eq_true q124
                  refine start_ (n := 29) (S := fun w' => w'.cell? (ad124.add ((x10_2).toNat * 4)) = some (.string ((qg t102 x10_2).f0.f0)) ∧ w'.cell? ⟨(ad124.add ((x10_2).toNat * 4)).block, (ad124.add ((x10_2).toNat * 4)).off + 1, none⟩ = some (.int .i64 ((qg t102 x10_2).f0.f1)) ∧ w'.cell? ⟨(ad124.add ((x10_2).toNat * 4)).block, (ad124.add ((x10_2).toNat * 4)).off + 2, none⟩ = some (.int .i64 ((qg t102 x10_2).f0.f2)) ∧ w'.cell? ⟨(ad124.add ((x10_2).toNat * 4)).block, (ad124.add ((x10_2).toNat * 4)).off + 3, none⟩ = some (.string ((qg t102 x10_2).f1))) (ds := []) bq1 (by kernel_rfl) rfl rfl ⟨hx124_0, hx124_1, hx124_2, hx124_3⟩ (fun hHeld => ?_); refine with_tabW laws_FnGot.tab27 laws_FnGot.bits27 (fun HT_ HW_ => ?_)
                  generalize wr.drew = w60 at HO_3 HO_12 HB hx124_0 hx124_1 hx124_2 hx124_3 hHeld ⊢
                  refine pure_ (i := 0) (N := some 138) (v := ?_) (a' := ?_) bq8 rfl rfl (qj HT_.out (by kernel_rfl)) (fun _ _ _ h => h) (Or.inl ⟨by rfl, ?_⟩) ?_ ?_
                  rotate_left
                  ·intro w'
                   go_simp
                   with_reducible rfl
                  rotate_left
                  ·simp only [Act.put, sq1, sq2, sq3, i64_w, i32_w]
                   rfl
                  refine pure_ (i := 1) (N := some 139) (v := ?_) (a' := ?_) bq15 rfl rfl (qj HT_.out (by kernel_rfl)) (fun _ _ _ h => h) (Or.inl ⟨by rfl, ?_⟩) ?_ ?_
                  rotate_left
                  ·intro w'
                   go_simp
                   with_reducible rfl
                  rotate_left
                  ·simp only [Act.put, sq1, sq2, sq3, i64_w, i32_w]
                   rfl
                  refine pure_ (i := 2) (N := some 140) (v := ?_) (a' := ?_) bq22 rfl rfl (qj HT_.out (by kernel_rfl)) (fun _ _ _ h => h) (Or.inl ⟨by rfl, ?_⟩) ?_ ?_
                  rotate_left
                  ·intro w'
                   go_simp
                   with_reducible rfl
                  rotate_left
                  ·simp only [Act.put, sq1, sq2, sq3, i64_w, i32_w]
                   rfl
                  refine pure_ (i := 3) (N := some 141) (v := ?_) (a' := ?_) bq29 rfl rfl (qj HT_.out (by kernel_rfl)) (fun _ _ _ h => h) (Or.inl ⟨by rfl, ?_⟩) ?_ ?_
                  rotate_left
                  ·intro w'
                   go_simp
                   with_reducible rfl
                  rotate_left
                  ·simp only [Act.put, sq1, sq2, sq3, i64_w, i32_w]
                   rfl
                  refine pure_ (i := 4) (N := some 142) (v := ?_) (a' := ?_) bq39 rfl rfl (qj HT_.out (by kernel_rfl)) (fun _ _ _ h => h) (Or.inl ⟨by rfl, ?_⟩) ?_ ?_
                  rotate_left
                  ·intro w'
                   go_simp
                   with_reducible rfl
                  rotate_left
                  ·simp only [Act.put, sq1, sq2, sq3, i64_w, i32_w]
                   rfl
                  refine take_ (i := 5) (N := some 143) (v := ?_) (a' := ?_) bq45 rfl rfl (take_ofW HT_.out HW_.out (by kernel_rfl)) (fun _ _ _ h => h) (Or.inl ⟨by rfl, ?_⟩) hHeld ?_ ?_
                  rotate_left
                  ·rintro w' ⟨s0, s1, s2, s3⟩
                   go_simp
                   with_reducible rfl
                  rotate_left
                  ·simp only [Act.put, sq1, sq2, sq3, i64_w, i32_w]
                   rfl
                  refine pure_ (i := 6) (N := some 144) (v := ?_) (a' := ?_) bq51 rfl rfl (qj HT_.out (by kernel_rfl)) (fun _ _ _ h => h) (Or.inl ⟨by rfl, ?_⟩) ?_ ?_
                  rotate_left
                  ·intro w'
                   go_simp
                   with_reducible rfl
                  rotate_left
                  ·simp only [Act.put, sq1, sq2, sq3, i64_w, i32_w]
                   rfl
                  refine pure_ (i := 7) (N := some 145) (v := ?_) (a' := ?_) bq57 rfl rfl (qj HT_.out (by kernel_rfl)) (fun _ _ _ h => h) (Or.inl ⟨by rfl, ?_⟩) ?_ ?_
                  rotate_left
                  ·intro w'
                   go_simp
                   with_reducible rfl
                  rotate_left
                  ·simp only [Act.put, sq1, sq2, sq3, i64_w, i32_w]
                   rfl
                  refine pure_ (i := 8) (N := some 146) (v := undef) (a' := ?_) bq64 rfl rfl (qj HT_.out (by kernel_rfl)) (fun _ _ _ h => h) (Or.inr ⟨by rfl, rfl⟩) ?_ ?_
                  rotate_left
                  ·simp only [Act.put, sq1, sq2, sq3, i64_w, i32_w]
                   rfl
                  refine pure_ (i := 9) (N := some 147) (v := undef) (a' := ?_) bq73 rfl rfl (qj HT_.out (by kernel_rfl)) (fun _ _ _ h => h) (Or.inr ⟨by rfl, rfl⟩) ?_ ?_
                  rotate_left
                  ·simp only [Act.put, sq1, sq2, sq3, i64_w, i32_w]
                   rfl
                  refine pure_ (i := 10) (N := some 148) (v := undef) (a' := ?_) bq77 rfl rfl (qj HT_.out (by kernel_rfl)) (fun _ _ _ h => h) (Or.inr ⟨by rfl, rfl⟩) ?_ ?_
                  rotate_left
                  ·simp only [Act.put, sq1, sq2, sq3, i64_w, i32_w]
                   rfl
                  refine pure_ (i := 11) (N := some 149) (v := undef) (a' := ?_) bq83 rfl rfl (qj HT_.out (by kernel_rfl)) (fun _ _ _ h => h) (Or.inr ⟨by rfl, rfl⟩) ?_ ?_
                  rotate_left
                  ·simp only [Act.put, sq1, sq2, sq3, i64_w, i32_w]
                   rfl
                  refine pure_ (i := 12) (N := some 150) (v := undef) (a' := ?_) bq90 rfl rfl (qj HT_.out (by kernel_rfl)) (fun _ _ _ h => h) (Or.inr ⟨by rfl, rfl⟩) ?_ ?_
                  rotate_left
                  ·simp only [Act.put, sq1, sq2, sq3, i64_w, i32_w]
                   rfl
                  refine pure_ (i := 13) (N := some 151) (v := undef) (a' := ?_) bq96 rfl rfl (qj HT_.out (by kernel_rfl)) (fun _ _ _ h => h) (Or.inr ⟨by rfl, rfl⟩) ?_ ?_
                  rotate_left
                  ·simp only [Act.put, sq1, sq2, sq3, i64_w, i32_w]
                   rfl
                  refine pure_ (i := 14) (N := some 152) (v := undef) (a' := ?_) #[true, true, true, true, true, true, true, true, true, true, true, true, true, true, true, false, false, false, false, false, false, false, false, false, false, false, false, false, false] rfl rfl (qj HT_.out (by kernel_rfl)) (fun _ _ _ h => h) (Or.inr ⟨by rfl, rfl⟩) ?_ ?_
                  rotate_left
                  ·simp only [Act.put, sq1, sq2, sq3, i64_w, i32_w]
                   rfl
                  refine pure_ (i := 15) (N := some 153) (v := undef) (a' := ?_) #[true, true, true, true, true, true, true, true, true, true, true, true, true, true, true, true, false, false, false, false, false, false, false, false, false, false, false, false, false] rfl rfl (qj HT_.out (by kernel_rfl)) (fun _ _ _ h => h) (Or.inr ⟨by rfl, rfl⟩) ?_ ?_
                  rotate_left
                  ·simp only [Act.put, sq1, sq2, sq3, i64_w, i32_w]
                   rfl
                  refine pure_ (i := 16) (N := some 154) (v := undef) (a' := ?_) #[true, true, true, true, true, true, true, true, true, true, true, true, true, true, true, true, true, false, false, false, false, false, false, false, false, false, false, false, false] rfl rfl (qj HT_.out (by kernel_rfl)) (fun _ _ _ h => h) (Or.inr ⟨by rfl, rfl⟩) ?_ ?_
                  rotate_left
                  ·simp only [Act.put, sq1, sq2, sq3, i64_w, i32_w]
                   rfl
                  refine pure_ (i := 17) (N := some 155) (v := undef) (a' := ?_) #[true, true, true, true, true, true, true, true, true, true, true, true, true, true, true, true, true, true, false, false, false, false, false, false, false, false, false, false, false] rfl rfl (qj HT_.out (by kernel_rfl)) (fun _ _ _ h => h) (Or.inr ⟨by rfl, rfl⟩) ?_ ?_
                  rotate_left
                  ·simp only [Act.put, sq1, sq2, sq3, i64_w, i32_w]
                   rfl
                  refine pure_ (i := 18) (N := some 156) (v := undef) (a' := ?_) #[true, true, true, true, true, true, true, true, true, true, true, true, true, true, true, true, true, true, true, false, false, false, false, false, false, false, false, false, false] rfl rfl (qj HT_.out (by kernel_rfl)) (fun _ _ _ h => h) (Or.inr ⟨by rfl, rfl⟩) ?_ ?_
                  rotate_left
                  ·simp only [Act.put, sq1, sq2, sq3, i64_w, i32_w]
                   rfl
                  refine pure_ (i := 19) (N := some 157) (v := undef) (a' := ?_) #[true, true, true, true, true, true, true, true, true, true, true, true, true, true, true, true, true, true, true, true, false, false, false, false, false, false, false, false, false] rfl rfl (qj HT_.out (by kernel_rfl)) (fun _ _ _ h => h) (Or.inr ⟨by rfl, rfl⟩) ?_ ?_
                  rotate_left
                  ·simp only [Act.put, sq1, sq2, sq3, i64_w, i32_w]
                   rfl
                  refine pure_ (i := 20) (N := some 158) (v := undef) (a' := ?_) #[true, true, true, true, true, true, true, true, true, true, true, true, true, true, true, true, true, true, true, true, true, false, false, false, false, false, false, false, false] rfl rfl (qj HT_.out (by kernel_rfl)) (fun _ _ _ h => h) (Or.inr ⟨by rfl, rfl⟩) ?_ ?_
                  rotate_left
                  ·simp only [Act.put, sq1, sq2, sq3, i64_w, i32_w]
                   rfl
                  refine pure_ (i := 21) (N := some 159) (v := undef) (a' := ?_) bq123 rfl rfl (qj HT_.out (by kernel_rfl)) (fun _ _ _ h => h) (Or.inr ⟨by rfl, rfl⟩) ?_ ?_
                  rotate_left
                  ·simp only [Act.put, sq1, sq2, sq3, i64_w, i32_w]
                   rfl
                  refine pure_ (i := 22) (N := some 160) (v := undef) (a' := ?_) bq126 rfl rfl (qj HT_.out (by kernel_rfl)) (fun _ _ _ h => h) (Or.inr ⟨by rfl, rfl⟩) ?_ ?_
                  rotate_left
                  ·simp only [Act.put, sq1, sq2, sq3, i64_w, i32_w]
                   rfl
                  refine pure_ (i := 23) (N := some 161) (v := undef) (a' := ?_) bq129 rfl rfl (qj HT_.out (by kernel_rfl)) (fun _ _ _ h => h) (Or.inr ⟨by rfl, rfl⟩) ?_ ?_
                  rotate_left
                  ·simp only [Act.put, sq1, sq2, sq3, i64_w, i32_w]
                   rfl
                  refine pure_ (i := 24) (N := some 162) (v := undef) (a' := ?_) bq132 rfl rfl (qj HT_.out (by kernel_rfl)) (fun _ _ _ h => h) (Or.inr ⟨by rfl, rfl⟩) ?_ ?_
                  rotate_left
                  ·simp only [Act.put, sq1, sq2, sq3, i64_w, i32_w]
                   rfl
                  refine pure_ (i := 25) (N := some 163) (v := undef) (a' := ?_) bq134 rfl rfl (qj HT_.out (by kernel_rfl)) (fun _ _ _ h => h) (Or.inr ⟨by rfl, rfl⟩) ?_ ?_
                  rotate_left
                  ·simp only [Act.put, sq1, sq2, sq3, i64_w, i32_w]
                   rfl
                  refine pure_ (i := 26) (N := some 164) (v := undef) (a' := ?_) bq140 rfl rfl (qj HT_.out (by kernel_rfl)) (fun _ _ _ h => h) (Or.inr ⟨by rfl, rfl⟩) ?_ ?_
                  rotate_left
                  ·simp only [Act.put, sq1, sq2, sq3, i64_w, i32_w]
                   rfl
                  refine pure_ (i := 27) (N := some 165) (v := ?_) (a' := ?_) bq142 rfl rfl (qj HT_.out (by kernel_rfl)) (fun _ _ _ h => h) (Or.inl ⟨by rfl, ?_⟩) ?_ ?_
                  rotate_left
                  ·intro w'
                   go_simp
                   with_reducible rfl
                  rotate_left
                  ·simp only [Act.put, sq1, sq2, sq3, i64_w, i32_w]
                   rfl
                  refine pure_ (i := 28) (N := some 2) (v := ?_) (a' := ?_) bq151 rfl rfl (qj HT_.out (by kernel_rfl)) (fun _ _ _ h => h) (Or.inl ⟨by rfl, ?_⟩) ?_ ?_
                  rotate_left
                  ·intro w'
                   go_simp
                   with_reducible rfl
                  rotate_left
                  ·simp only [Act.put, sq1, sq2, sq3, i64_w, i32_w]
                   rfl
                  refine done_ (done_of HT_.out (by kernel_rfl)) ?_
                  try go_wp2
                  go_ret
                  exact ⟨by first | rfl | (simp [qp, qo] <;> rfl) | (simp [*, qp, qo] <;> rfl), by repeat (first | (with_reducible first | exact HB.out | apply qc | apply qa | apply qb) | exact HB.out)⟩
                ·rw [if_neg c55] at H
                 exact absurd H (by simp)
               ·rw [if_neg c54] at H
                exact absurd H (by simp)
def laws_FnGot.Pure : Prop := ∀ (l0 : List Int), l0.length ≤ maxLen → l0.length * 1 ≤ 140737488351232 → (∀ x ∈ l0, (Lit.int .u8 x).wf = true) → ∃ k, laws_FnGot.f k l0 = some true
theorem laws_FnGot.walk (P : laws_FnGot.Pure) (a0 : Option Addr) (len0 cap0 : Nat) (z0 : List Int) (w : World) (w0 : (a0 = none ∧ len0 = 0 ∧ cap0 = 0 ∧ z0 = []) ∨ ∃ x, a0 = some x ∧ len0 ≤ cap0 ∧ cap0 ≤ maxLen ∧ z0.length = cap0 ∧ (∀ i, i < z0.length → w.cell? (x.add i) = some (.int .u8 (z0.getD i 0))) ∧ ∀ n ∈ z0, (Lit.int .u8 n).wf = true) (y0 : len0 * 1 ≤ 140737488351232) :
  Calls Try.prog 9 #[.slice a0 len0 cap0] w fun e w' => e = .returned (.bool true) ∧ Below w.heap.size w w' := by
 obtain ⟨l0, rfl, hr0, hm0, hw0, hc0⟩ := ReadsInt.ofRowC w0
 obtain ⟨k, h⟩ := P l0 hm0 y0 hw0
 refine (laws_FnGot.calls k _ _ l0 true w (Kd.C_of_reads (d := (0 : Int)) (h1 := fun _ => rfl) hr0) hc0 h).mono ?_
 rintro e w' ⟨rfl, hd⟩
 exact ⟨rfl, hd⟩
end Go.Proofs.Ytbojfnijgmppbaa.P
end

section
namespace Go.Proofs.Ytbojfnijgmppbaa.P
open Go.RowKit Go.Proofs.YtbojfnijgmppbaaW.PrintWords Go.Proofs.YtbojfnijgmppbaaW.PrintLast Go.Proofs.YtbojfnijgmppbaaW.PrintMore
attribute [local go_sem] str_gtr str_leq str_geq max2_int min2_int max_two min_two qw qv max_four min_four
set_option linter.unusedVariables false
set_option linter.unusedSimpArgs false
theorem within_ev (a b c : Int) : impl_within.f a b c = some (decide (b ≤ a ∧ a ≤ c)) := by
  unfold impl_within.f
  by_cases h : b ≤ a <;> simp [h]
theorem in_ev (a b c : Int) : spec_l1In.f a b c = some (decide (b ≤ a ∧ a ≤ c)) := by
  unfold spec_l1In.f
  by_cases h : b ≤ a <;> simp [h]
def isU (s : ByteArray) : Prop := 1 ≤ s.size ∧ s.size ≤ 40
instance (s : ByteArray) : Decidable (isU s) := by unfold isU; infer_instance
theorem isUser_ev (a : ByteArray) : impl_isUser.f a = some (decide (isU a)) := by
  unfold impl_isUser.f isU
  by_cases h : (a.size : Int) ≥ 1
  · rw [if_pos h]
    congr 1
    exact decide_eq_decide.2 (by omega)
  · rw [if_neg h]
    congr 1
    exact (decide_eq_false (by omega)).symm
theorem l2User_ev (a : ByteArray) : spec_l2User.f a = some (decide (isU a)) := by
  unfold spec_l2User.f isU
  by_cases h : (a.size : Int) ≥ 1
  · rw [if_pos h]
    congr 1
    exact decide_eq_decide.2 (by omega)
  · rw [if_neg h]
    congr 1
    exact (decide_eq_false (by omega)).symm
end Go.Proofs.Ytbojfnijgmppbaa.P
end
