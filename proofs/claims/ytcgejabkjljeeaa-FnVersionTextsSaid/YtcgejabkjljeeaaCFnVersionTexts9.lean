/- Proved: the law FnVersionTexts of the given program returns true for every input of its Go types and leaves each argument as it was; no condition. (Part 10 of 15.) -/
import Derived.Test.YtcgejabkjljeeaaCFnVersionTexts4
import Derived.Test.YtcgejabkjljeeaaCFnVersionTexts8
import Derived.Test.YtcgejabkjljeeaaCFnVersionTexts0
import Derived.Test.YtcgejabkjljeeaaCFnVersionTexts7
import Derived.Test.YtcgejabkjljeeaaCFnVersionTexts6
section
namespace Go.Proofs.Ytcgejabkjljeeaa.P
open Go.RowKit Go.Proofs.YtcgejabkjljeeaaW.PrintWords Go.Proofs.YtcgejabkjljeeaaW.PrintLast Go.Proofs.YtcgejabkjljeeaaW.PrintMore
attribute [local go_sem] qk1 qj1 ql1 qf1 qd1 qn1 qm1 qa1 qz qe1 qc1
set_option linter.unusedVariables false
set_option linter.unusedSimpArgs false
theorem yq75 {P : Prop} (h : P := by repeat (first | (with_reducible first | exact HI0.out | apply IsS123.alloc | apply IsS123.drewN | apply IsS123.drew | apply IsS123.set_1) | exact HI0.out)) : P := h
theorem yq76 {P : Prop} (h : P := by repeat (first | (with_reducible first | exact HK.out | apply KeepBut.set_ | apply qn | apply qp | apply qo) | exact HK.out)) : P := h
theorem yq77 {P : Prop} (h : P := by repeat (first | (with_reducible first | exact HB.out | apply qi | apply qd | apply qh | refine qe ?_ (IsS123.ge HI0.out)) | exact HB.out)) : P := h
theorem yq78 {P : Prop} (h : P := by (try simp only [List.map_toArray, List.map_cons, List.map_nil]); first | done | rfl) : P := h
def spec_l1Rd_off.f (k : Nat) (s0_0 : List Int) (s0_1 : Int) (a1 : Int) (a2 : Int) : Option (Int × Int) := (spec_l1Rd_once.f s0_0 s0_1 24).bind fun bt101 => (if bt101.1 = true then ((some (([wrap64 (a1 - 1), wrap64 (a2 + 1), (-9223372036854775808), 9223372036854775807] : List Int) : List Int)).bind fun y103 => ((spec_l1Rd_below.f s0_0 bt101.2 4).bind fun bt106 => (if 0 ≤ bt106.1 then (if bt106.1 < (y103.length : Int) then (some (rd y103 bt106.1, bt106.2)) else (none)) else (none)))) else ((spec_l1Rd_near.f k s0_0 bt101.2 a1 a2).bind fun bt109 => (some (bt109.1, bt109.2))))
set_option maxHeartbeats 8000000 in
set_option maxRecDepth 100000 in
theorem spec_l1Rd_off.calls (k : Nat) (g : Nat) (s0_0 : List Int) (s0_1 : Int) (a1 : Int) (a2 : Int) (r1 : Int) (r2 : Int) (w0 w : World) (hI : IsS123 w0 w g s0_0 s0_1) (hB : Below w0.heap.size w0 w) (h : spec_l1Rd_off.f k s0_0 s0_1 a1 a2 = some (r1, r2)) :
  Calls Try.prog 72 #[.pointer (some ⟨g, 0, none⟩), .int .i64 a1, .int .i64 a2] w fun e w' => e = .returned (.int .i64 r1) ∧ IsS123 w0 w' g s0_0 r2 ∧ Below w0.heap.size w0 w' ∧ KeepBut w w' g none := by
 have HI0 := Qz.mk hI
 have HK := Qz.mk (KeepBut.refl w g none)
 have HL := Qz.mk hB.size
 clear hI
 have HW0 := Qz.mk hB.size
 have HB := Qz.mk hB
 clear hB
 have H : ((spec_l1Rd_once.f s0_0 s0_1 24).bind fun bt101 => (if bt101.1 = true then ((some (([wrap64 (a1 - 1), wrap64 (a2 + 1), (-9223372036854775808), 9223372036854775807] : List Int) : List Int)).bind fun y103 => ((spec_l1Rd_below.f s0_0 bt101.2 4).bind fun bt106 => (if 0 ≤ bt106.1 then (if bt106.1 < (y103.length : Int) then (some (rd y103 bt106.1, bt106.2)) else (none)) else (none)))) else ((spec_l1Rd_near.f k s0_0 bt101.2 a1 a2).bind fun bt109 => (some (bt109.1, bt109.2))))) = some (r1, r2) := h
 clear h
 replace H := Option.bind_eq_some_iff.mp H
 obtain ⟨⟨t101, t102⟩, A40, H⟩ := H
 replace H : (if t101 = true then ((some (([wrap64 (a1 - 1), wrap64 (a2 + 1), (-9223372036854775808), 9223372036854775807] : List Int) : List Int)).bind fun y103 => ((spec_l1Rd_below.f s0_0 t102 4).bind fun bt106 => (if 0 ≤ bt106.1 then (if bt106.1 < (y103.length : Int) then (some (rd y103 bt106.1, bt106.2)) else (none)) else (none)))) else ((spec_l1Rd_near.f k s0_0 t102 a1 a2).bind fun bt109 => (some (bt109.1, bt109.2)))) = some (r1, r2) := H
 have A4 := Qz.mk A40
 clear A40
 by_cases c5 : t101 = true
 ·subst c5
  have H1 : ((some (([wrap64 (a1 - 1), wrap64 (a2 + 1), (-9223372036854775808), 9223372036854775807] : List Int) : List Int)).bind fun y103 => ((spec_l1Rd_below.f s0_0 t102 4).bind fun bt106 => (if 0 ≤ bt106.1 then (if bt106.1 < (y103.length : Int) then (some (rd y103 bt106.1, bt106.2)) else (none)) else (none)))) = some (r1, r2) := by rw [if_pos rfl] at H; exact H
  clear H
  have H := H1
  clear H1
  obtain ⟨y103, hy103⟩ : ∃ y_ : List Int, y_ = (([wrap64 (a1 - 1), wrap64 (a2 + 1), (-9223372036854775808), 9223372036854775807] : List Int)) := ⟨_, rfl⟩
  replace H : ((spec_l1Rd_below.f s0_0 t102 4).bind fun bt106 => (if 0 ≤ bt106.1 then (if bt106.1 < (y103.length : Int) then (some (rd y103 bt106.1, bt106.2)) else (none)) else (none))) = some (r1, r2) := by first | (rw [hy103]; with_reducible exact H) | (have H2_ := (Option.bind_some _ _).symm.trans H; rw [hy103]; with_reducible exact H2_) | (have H2_ := (Option.bind_some _ _).symm.trans H; with_reducible exact H2_) | with_reducible exact H | (rw [hy103]; exact H) | exact H
  have Ny103 := Qz.mk hy103
  clear hy103
  replace H := Option.bind_eq_some_iff.mp H
  obtain ⟨⟨t106, t107⟩, A60, H⟩ := H
  replace H : (if 0 ≤ t106 then (if t106 < (y103.length : Int) then (some (rd y103 t106, t107)) else (none)) else (none)) = some (r1, r2) := H
  have A6 := Qz.mk A60
  clear A60
  by_cases c7 : 0 ≤ t106
  ·rw [if_pos c7] at H
   have c7b0 : decide (0 ≤ t106) = true := decide_eq_true c7
   clear c7
   by_cases c8 : t106 < (y103.length : Int)
   ·rw [if_pos c8] at H
    have c8b0 : decide (t106 < (y103.length : Int)) = true := decide_eq_true c8
    clear c8
    simp only [Option.some.injEq, Prod.mk.injEq] at H
    obtain ⟨rfl, rfl⟩ := H
    go_enter Try.func72, Try.ntmps72
    go_wp2_with (first | ((with_reducible refine qm (f := 73) rfl ?_); refine qy (some 8) rfl rfl Try.func73 (by kernel_rfl) rfl #[.pointer (some ⟨g, 0, none⟩), .int .i64 24] rfl yq78 ?_; (with_reducible refine (spec_l1Rd_once.calls g s0_0 s0_1 24 true t102 w0 _ ?side1 ?side2 A4.out).mono ?_); (case side1 => exact yq75); (case side2 => exact yq77); rintro e w9 ⟨rfl, hi, hb, hk⟩; refine ⟨_, rfl, ?_⟩; replace HK := Qz.mk (KeepBut.trans yq76 hk (.inl rfl)); replace HB := Qz.mk (hb); replace HI0 := Qz.mk (hi); (try clear hb); (try clear hk); (try clear hi)) | ((with_reducible refine gate_dst (N := 13) rfl ?_); refine Kd.R_lit (Kd.int .i64) _ 2 ?hg (N := 13) ?hd (xs := ([wrap64 (a1 - 1), wrap64 (a2 + 1), (-9223372036854775808), 9223372036854775807] : List Int)) (inner := [.int .i64 (wrap64 (a1 - 1)), .int .i64 (wrap64 (a2 + 1)), .int .i64 (-9223372036854775808), .int .i64 9223372036854775807]) (ok := fun _ => True) (okp := fun _ => True) ?hr ?hp (fun _ hk => hk) trivial (Below.refl _ _) (Nat.le_refl _) (by simp) ?_; (case hd => rfl); (case hg => rfl); (case hr => first | (go_simp; done) | (go_simp; rfl)); (case hp => exact (Reps.one (show Kd.M (Kd.int .i64) _ _ _ (wrap64 (a1 - 1)) [.int .i64 (wrap64 (a1 - 1))] from rfl) (Reps.one (show Kd.M (Kd.int .i64) _ _ _ (wrap64 (a2 + 1)) [.int .i64 (wrap64 (a2 + 1))] from rfl) (Reps.one (show Kd.M (Kd.int .i64) _ _ _ (-9223372036854775808) [.int .i64 (-9223372036854775808)] from rfl) (Reps.one (show Kd.M (Kd.int .i64) _ _ _ 9223372036854775807 [.int .i64 9223372036854775807] from rfl) (Reps.none _ _)))))); intro v104 w10 ho11 hb hg_ hnew_; clear hg_ hnew_; (first | rw [← Ny103.out] at ho11 | (simp only [Int.reduceToNat] at ho11; rw [← Ny103.out] at ho11)); have HO105 := Qz.mk (Kd.R_lower ho11 (qi1 (w := w) (g := g) (row := none) yq76)); replace HK := Qz.mk (KeepBut.trans yq76 (KeepBut.of_below hb g none) (.inl rfl)); replace HB := Qz.mk (qq yq77 hb); replace HI0 := Qz.mk (IsS123.below yq75 hb); clear hb ho11) | ((with_reducible refine qm (f := 80) rfl ?_); refine qy (some 15) rfl rfl Try.func80 (by kernel_rfl) rfl #[.pointer (some ⟨g, 0, none⟩), .int .i64 4] rfl yq78 ?_; (with_reducible refine (spec_l1Rd_below.calls g s0_0 t102 4 t106 t107 w0 _ ?side1 ?side2 A6.out).mono ?_); (case side1 => exact yq75); (case side2 => exact yq77); rintro e w12 ⟨rfl, hi, hb, hk⟩; refine ⟨_, rfl, ?_⟩; replace HO105 := Qz.mk (Kd.R_mono (Kd.R_keep (IsS123.apart (show IsS123 w0 _ g s0_0 t102 from by repeat (first | (with_reducible first | exact HI0.out | apply IsS123.alloc | apply IsS123.drewN | apply IsS123.drew | apply IsS123.set_1) | exact HI0.out)) (by (with_reducible repeat (first | apply Kd.R_alloc | apply Kd.R_drewN | apply Kd.R_drew)); exact HO105.out) (by decide)) hk (fun _ h => h.2)) (fun _ h => h.1)); replace HK := Qz.mk (KeepBut.trans yq76 hk (.inl rfl)); replace HB := Qz.mk (hb); replace HI0 := Qz.mk (hi); (try clear hb); (try clear hk); (try clear hi); obtain ⟨Ao13, co13, eo13⟩ := Kd.R_slice HO105.out; subst eo13; have p108 : 0 ≤ (t106 : Int) := of_decide_eq_true (by first | (with_reducible assumption) | assumption); have q108 : t106 < (y103.length : Int) := of_decide_eq_true (by first | (with_reducible assumption) | assumption); obtain ⟨ad108, e108, hx108_0⟩ := Kd.at_int (Kd.R_reads' HO105.out).2.2 t106 p108 q108; cases e108; replace p108 := eq_true p108; replace q108 := eq_true q108))
    go_ret
    exact ⟨by first | rfl | (simp [qt, qr] <;> rfl) | (simp [*, qt, qr] <;> rfl), by repeat (first | (with_reducible first | exact HI0.out | apply IsS123.alloc | apply IsS123.drewN | apply IsS123.drew | apply IsS123.set_1) | exact HI0.out), by repeat (first | (with_reducible first | exact HB.out | apply qi | apply qd | apply qh | refine qe ?_ (IsS123.ge HI0.out)) | exact HB.out), by repeat (first | (with_reducible first | exact HK.out | apply KeepBut.set_ | apply qn | apply qp | apply qo) | exact HK.out)⟩
   ·rw [if_neg c8] at H
    exact absurd H (by simp)
  ·rw [if_neg c7] at H
   exact absurd H (by simp)
 ·replace c5 := Bool.eq_false_iff.mpr c5
  subst c5
  have H1 : ((spec_l1Rd_near.f k s0_0 t102 a1 a2).bind fun bt109 => (some (bt109.1, bt109.2))) = some (r1, r2) := by rw [if_neg (show ¬ (false = true) by decide)] at H; exact H
  clear H
  have H := H1
  clear H1
  replace H := Option.bind_eq_some_iff.mp H
  obtain ⟨⟨t109, t110⟩, A140, H⟩ := H
  replace H : (some (t109, t110)) = some (r1, r2) := H
  have A14 := Qz.mk A140
  clear A140
  simp only [Option.some.injEq, Prod.mk.injEq] at H
  obtain ⟨rfl, rfl⟩ := H
  go_enter Try.func72, Try.ntmps72
  go_wp2_with (first | ((with_reducible refine qm (f := 73) rfl ?_); refine qy (some 8) rfl rfl Try.func73 (by kernel_rfl) rfl #[.pointer (some ⟨g, 0, none⟩), .int .i64 24] rfl yq78 ?_; (with_reducible refine (spec_l1Rd_once.calls g s0_0 s0_1 24 false t102 w0 _ ?side1 ?side2 A4.out).mono ?_); (case side1 => exact yq75); (case side2 => exact yq77); rintro e w15 ⟨rfl, hi, hb, hk⟩; refine ⟨_, rfl, ?_⟩; replace HK := Qz.mk (KeepBut.trans yq76 hk (.inl rfl)); replace HB := Qz.mk (hb); replace HI0 := Qz.mk (hi); (try clear hb); (try clear hk); (try clear hi)) | ((with_reducible refine qm (f := 102) rfl ?_); refine qy (some 21) rfl rfl Try.func102 (by kernel_rfl) rfl #[.pointer (some ⟨g, 0, none⟩), .int .i64 a1, .int .i64 a2] rfl yq78 ?_; (with_reducible refine (spec_l1Rd_near.calls k g s0_0 t102 a1 a2 t109 t110 w0 _ ?side1 ?side2 A14.out).mono ?_); (case side1 => exact yq75); (case side2 => exact yq77); rintro e w16 ⟨rfl, hi, hb, hk⟩; refine ⟨_, rfl, ?_⟩; replace HK := Qz.mk (KeepBut.trans yq76 hk (.inl rfl)); replace HB := Qz.mk (hb); replace HI0 := Qz.mk (hi); (try clear hb); (try clear hk); (try clear hi)))
  go_ret
  exact ⟨by first | rfl | (simp [qt, qr] <;> rfl) | (simp [*, qt, qr] <;> rfl), by repeat (first | (with_reducible first | exact HI0.out | apply IsS123.alloc | apply IsS123.drewN | apply IsS123.drew | apply IsS123.set_1) | exact HI0.out), by repeat (first | (with_reducible first | exact HB.out | apply qi | apply qd | apply qh | refine qe ?_ (IsS123.ge HI0.out)) | exact HB.out), by repeat (first | (with_reducible first | exact HK.out | apply KeepBut.set_ | apply qn | apply qp | apply qo) | exact HK.out)⟩
theorem yq79 {P : Prop} (h : P := by repeat (first | (with_reducible first | exact HK.out | apply KeepBut.set_ | apply qn | apply qp | apply qo) | exact HK.out)) : P := h
def spec_l1Rd_user.f (s0_0 : List Int) (s0_1 : Int) : Option (ByteArray × Int) := (some (([(⟨#[97]⟩ : ByteArray), (⟨#[98]⟩ : ByteArray), (⟨#[97, 98]⟩ : ByteArray), (⟨#[97, 98, 99]⟩ : ByteArray), (⟨#[97, 98, 100]⟩ : ByteArray), (⟨#[107, 101, 121]⟩ : ByteArray), (⟨#[107, 101, 121, 49]⟩ : ByteArray), (⟨#[107, 101, 121, 50]⟩ : ByteArray), (⟨#[122, 122]⟩ : ByteArray), (⟨#[97, 0]⟩ : ByteArray)] : List ByteArray) : List ByteArray)).bind fun y101 => ((spec_l1Rd_below.f s0_0 s0_1 10).bind fun bt104 => (if 0 ≤ bt104.1 then (if bt104.1 < (y101.length : Int) then (some (rdOf ByteArray.empty y101 bt104.1, bt104.2)) else (none)) else (none)))
set_option maxHeartbeats 8000000 in
set_option maxRecDepth 100000 in
theorem spec_l1Rd_user.calls (g : Nat) (s0_0 : List Int) (s0_1 : Int) (r1 : ByteArray) (r2 : Int) (w0 w : World) (hI : IsS123 w0 w g s0_0 s0_1) (hB : Below w0.heap.size w0 w) (h : spec_l1Rd_user.f s0_0 s0_1 = some (r1, r2)) :
  Calls Try.prog 74 #[.pointer (some ⟨g, 0, none⟩)] w fun e w' => e = .returned (.string r1) ∧ IsS123 w0 w' g s0_0 r2 ∧ Below w0.heap.size w0 w' ∧ KeepBut w w' g none := by
 have HI0 := Qz.mk hI
 have HK := Qz.mk (KeepBut.refl w g none)
 have HL := Qz.mk hB.size
 clear hI
 have HW0 := Qz.mk hB.size
 have HB := Qz.mk hB
 clear hB
 have H : ((some (([(⟨#[97]⟩ : ByteArray), (⟨#[98]⟩ : ByteArray), (⟨#[97, 98]⟩ : ByteArray), (⟨#[97, 98, 99]⟩ : ByteArray), (⟨#[97, 98, 100]⟩ : ByteArray), (⟨#[107, 101, 121]⟩ : ByteArray), (⟨#[107, 101, 121, 49]⟩ : ByteArray), (⟨#[107, 101, 121, 50]⟩ : ByteArray), (⟨#[122, 122]⟩ : ByteArray), (⟨#[97, 0]⟩ : ByteArray)] : List ByteArray) : List ByteArray)).bind fun y101 => ((spec_l1Rd_below.f s0_0 s0_1 10).bind fun bt104 => (if 0 ≤ bt104.1 then (if bt104.1 < (y101.length : Int) then (some (rdOf ByteArray.empty y101 bt104.1, bt104.2)) else (none)) else (none)))) = some (r1, r2) := h
 clear h
 obtain ⟨y101, hy101⟩ : ∃ y_ : List ByteArray, y_ = (([(⟨#[97]⟩ : ByteArray), (⟨#[98]⟩ : ByteArray), (⟨#[97, 98]⟩ : ByteArray), (⟨#[97, 98, 99]⟩ : ByteArray), (⟨#[97, 98, 100]⟩ : ByteArray), (⟨#[107, 101, 121]⟩ : ByteArray), (⟨#[107, 101, 121, 49]⟩ : ByteArray), (⟨#[107, 101, 121, 50]⟩ : ByteArray), (⟨#[122, 122]⟩ : ByteArray), (⟨#[97, 0]⟩ : ByteArray)] : List ByteArray)) := ⟨_, rfl⟩
 replace H : ((spec_l1Rd_below.f s0_0 s0_1 10).bind fun bt104 => (if 0 ≤ bt104.1 then (if bt104.1 < (y101.length : Int) then (some (rdOf ByteArray.empty y101 bt104.1, bt104.2)) else (none)) else (none))) = some (r1, r2) := by first | (rw [hy101]; with_reducible exact H) | (have H2_ := (Option.bind_some _ _).symm.trans H; rw [hy101]; with_reducible exact H2_) | (have H2_ := (Option.bind_some _ _).symm.trans H; with_reducible exact H2_) | with_reducible exact H | (rw [hy101]; exact H) | exact H
 have Ny101 := Qz.mk hy101
 clear hy101
 replace H := Option.bind_eq_some_iff.mp H
 obtain ⟨⟨t104, t105⟩, A20, H⟩ := H
 replace H : (if 0 ≤ t104 then (if t104 < (y101.length : Int) then (some (rdOf ByteArray.empty y101 t104, t105)) else (none)) else (none)) = some (r1, r2) := H
 have A2 := Qz.mk A20
 clear A20
 by_cases c3 : 0 ≤ t104
 ·rw [if_pos c3] at H
  have c3b0 : decide (0 ≤ t104) = true := decide_eq_true c3
  clear c3
  by_cases c4 : t104 < (y101.length : Int)
  ·rw [if_pos c4] at H
   have c4b0 : decide (t104 < (y101.length : Int)) = true := decide_eq_true c4
   clear c4
   simp only [Option.some.injEq, Prod.mk.injEq] at H
   obtain ⟨rfl, rfl⟩ := H
   go_enter Try.func74, Try.ntmps74
   go_wp2_with (first | ((with_reducible refine gate_dst (N := 3) rfl ?_); refine Kd.R_lit Kd.string _ 9 ?hg (N := 3) ?hd (xs := ([(⟨#[97]⟩ : ByteArray), (⟨#[98]⟩ : ByteArray), (⟨#[97, 98]⟩ : ByteArray), (⟨#[97, 98, 99]⟩ : ByteArray), (⟨#[97, 98, 100]⟩ : ByteArray), (⟨#[107, 101, 121]⟩ : ByteArray), (⟨#[107, 101, 121, 49]⟩ : ByteArray), (⟨#[107, 101, 121, 50]⟩ : ByteArray), (⟨#[122, 122]⟩ : ByteArray), (⟨#[97, 0]⟩ : ByteArray)] : List ByteArray)) (inner := [.string (⟨#[97]⟩ : ByteArray), .string (⟨#[98]⟩ : ByteArray), .string (⟨#[97, 98]⟩ : ByteArray), .string (⟨#[97, 98, 99]⟩ : ByteArray), .string (⟨#[97, 98, 100]⟩ : ByteArray), .string (⟨#[107, 101, 121]⟩ : ByteArray), .string (⟨#[107, 101, 121, 49]⟩ : ByteArray), .string (⟨#[107, 101, 121, 50]⟩ : ByteArray), .string (⟨#[122, 122]⟩ : ByteArray), .string (⟨#[97, 0]⟩ : ByteArray)]) (ok := fun _ => True) (okp := fun _ => True) ?hr ?hp (fun _ hk => hk) trivial (Below.refl _ _) (Nat.le_refl _) (by simp) ?_; (case hd => rfl); (case hg => rfl); (case hr => first | (go_simp; done) | (go_simp; rfl)); (case hp => exact (Reps.one (show Kd.M Kd.string _ _ _ (⟨#[97]⟩ : ByteArray) [.string (⟨#[97]⟩ : ByteArray)] from rfl) (Reps.one (show Kd.M Kd.string _ _ _ (⟨#[98]⟩ : ByteArray) [.string (⟨#[98]⟩ : ByteArray)] from rfl) (Reps.one (show Kd.M Kd.string _ _ _ (⟨#[97, 98]⟩ : ByteArray) [.string (⟨#[97, 98]⟩ : ByteArray)] from rfl) (Reps.one (show Kd.M Kd.string _ _ _ (⟨#[97, 98, 99]⟩ : ByteArray) [.string (⟨#[97, 98, 99]⟩ : ByteArray)] from rfl) (Reps.one (show Kd.M Kd.string _ _ _ (⟨#[97, 98, 100]⟩ : ByteArray) [.string (⟨#[97, 98, 100]⟩ : ByteArray)] from rfl) (Reps.one (show Kd.M Kd.string _ _ _ (⟨#[107, 101, 121]⟩ : ByteArray) [.string (⟨#[107, 101, 121]⟩ : ByteArray)] from rfl) (Reps.one (show Kd.M Kd.string _ _ _ (⟨#[107, 101, 121, 49]⟩ : ByteArray) [.string (⟨#[107, 101, 121, 49]⟩ : ByteArray)] from rfl) (Reps.one (show Kd.M Kd.string _ _ _ (⟨#[107, 101, 121, 50]⟩ : ByteArray) [.string (⟨#[107, 101, 121, 50]⟩ : ByteArray)] from rfl) (Reps.one (show Kd.M Kd.string _ _ _ (⟨#[122, 122]⟩ : ByteArray) [.string (⟨#[122, 122]⟩ : ByteArray)] from rfl) (Reps.one (show Kd.M Kd.string _ _ _ (⟨#[97, 0]⟩ : ByteArray) [.string (⟨#[97, 0]⟩ : ByteArray)] from rfl) (Reps.none _ _)))))))))))); intro v102 w5 ho6 hb hg_ hnew_; clear hg_ hnew_; (first | rw [← Ny101.out] at ho6 | (simp only [Int.reduceToNat] at ho6; rw [← Ny101.out] at ho6)); have HO103 := Qz.mk (Kd.R_lower ho6 (qi1 (w := w) (g := g) (row := none) yq79)); replace HK := Qz.mk (KeepBut.trans yq79 (KeepBut.of_below hb g none) (.inl rfl)); replace HB := Qz.mk (qq (by repeat (first | (with_reducible first | exact HB.out | apply qi | apply qd | apply qh | refine qe ?_ (IsS123.ge HI0.out)) | exact HB.out)) hb); replace HI0 := Qz.mk (IsS123.below (by repeat (first | (with_reducible first | exact HI0.out | apply IsS123.alloc | apply IsS123.drewN | apply IsS123.drew | apply IsS123.set_1) | exact HI0.out)) hb); clear hb ho6) | ((with_reducible refine qm (f := 80) rfl ?_); refine qy (some 5) rfl rfl Try.func80 (by kernel_rfl) rfl #[.pointer (some ⟨g, 0, none⟩), .int .i64 10] rfl (by (try simp only [List.map_toArray, List.map_cons, List.map_nil]); first | done | rfl) ?_; (with_reducible refine (spec_l1Rd_below.calls g s0_0 s0_1 10 t104 t105 w0 _ ?side1 ?side2 A2.out).mono ?_); (case side1 => repeat (first | (with_reducible first | exact HI0.out | apply IsS123.alloc | apply IsS123.drewN | apply IsS123.drew | apply IsS123.set_1) | exact HI0.out)); (case side2 => repeat (first | (with_reducible first | exact HB.out | apply qi | apply qd | apply qh | refine qe ?_ (IsS123.ge HI0.out)) | exact HB.out)); rintro e w7 ⟨rfl, hi, hb, hk⟩; refine ⟨_, rfl, ?_⟩; replace HO103 := Qz.mk (Kd.R_mono (Kd.R_keep (IsS123.apart (show IsS123 w0 _ g s0_0 s0_1 from by repeat (first | (with_reducible first | exact HI0.out | apply IsS123.alloc | apply IsS123.drewN | apply IsS123.drew | apply IsS123.set_1) | exact HI0.out)) (by (with_reducible repeat (first | apply Kd.R_alloc | apply Kd.R_drewN | apply Kd.R_drew)); exact HO103.out) (by decide)) hk (fun _ h => h.2)) (fun _ h => h.1)); replace HK := Qz.mk (KeepBut.trans yq79 hk (.inl rfl)); replace HB := Qz.mk (hb); replace HI0 := Qz.mk (hi); (try clear hb); (try clear hk); (try clear hi); obtain ⟨Ao8, co8, eo8⟩ := Kd.R_slice HO103.out; subst eo8; have p106 : 0 ≤ (t104 : Int) := of_decide_eq_true (by first | (with_reducible assumption) | assumption); have q106 : t104 < (y101.length : Int) := of_decide_eq_true (by first | (with_reducible assumption) | assumption); obtain ⟨ad106, e106, hx106_0⟩ := Kd.at_string (Kd.R_reads' HO103.out).2.2 t104 p106 q106; cases e106; replace p106 := eq_true p106; replace q106 := eq_true q106))
   go_ret
   exact ⟨by first | rfl | (simp [qt, qr] <;> rfl) | (simp [*, qt, qr] <;> rfl), by repeat (first | (with_reducible first | exact HI0.out | apply IsS123.alloc | apply IsS123.drewN | apply IsS123.drew | apply IsS123.set_1) | exact HI0.out), by repeat (first | (with_reducible first | exact HB.out | apply qi | apply qd | apply qh | refine qe ?_ (IsS123.ge HI0.out)) | exact HB.out), by repeat (first | (with_reducible first | exact HK.out | apply KeepBut.set_ | apply qn | apply qp | apply qo) | exact HK.out)⟩
  ·rw [if_neg c4] at H
   exact absurd H (by simp)
 ·rw [if_neg c3] at H
  exact absurd H (by simp)
end Go.Proofs.Ytcgejabkjljeeaa.P
end

section
namespace Go.Proofs.Ytcgejabkjljeeaa.P
open Go.RowKit Go.Proofs.YtcgejabkjljeeaaW.PrintWords Go.Proofs.YtcgejabkjljeeaaW.PrintLast Go.Proofs.YtcgejabkjljeeaaW.PrintMore
attribute [local go_sem] qk1 qj1 ql1 qf1 qd1 qn1 qm1 qa1 qz qe1 qc1
set_option linter.unusedVariables false
set_option linter.unusedSimpArgs false
theorem yq80 {P : Prop} (h : P := by repeat (first | (with_reducible first | exact HI0.out | apply IsS123.alloc | apply IsS123.drewN | apply IsS123.drew) | exact HI0.out)) : P := h
theorem yq81 {P : Prop} (h : P := by repeat (first | (with_reducible first | exact HK.out | apply qn | apply qp | apply qo) | exact HK.out)) : P := h
theorem yq82 {P : Prop} (h : P := by repeat (first | (with_reducible first | exact HB.out | apply qi | apply qd | apply qh) | exact HB.out)) : P := h
theorem yq83 {P : Prop} (h : P := by (try simp only [List.map_toArray, List.map_cons, List.map_nil]); first | done | rfl) : P := h
def tmin (a b : ByteArray) : ByteArray := if (!Op.bytesLess b.toList a.toList) = true then a else b
def tmax (a b : ByteArray) : ByteArray := if (!Op.bytesLess a.toList b.toList) = true then a else b
theorem min2_str (x y : ByteArray) : Builtin.min2 (.string x) (.string y) = pure (.string (tmin x y)) := by
 have e := bytesLess_swap x.toList y.toList
 simp only [Builtin.min2, Op.stringOp, tmin, ← e, Bool.not_not]
 simp [asBool]
theorem max2_str (x y : ByteArray) : Builtin.max2 (.string x) (.string y) = pure (.string (tmax x y)) := by
 simp [Builtin.max2, Op.stringOp, asBool, tmax]
attribute [local go_sem] min2_str max2_str
def spec_l1Rd_meta.f (k : Nat) (s0_0 : List Int) (s0_1 : Int) : Option (Int × Int × ByteArray × ByteArray × Int × Int) := (spec_l1Rd_user.f s0_0 s0_1).bind fun a => (spec_l1Rd_user.f s0_0 a.2).bind fun b => (spec_l1Rd_near.f k s0_0 b.2 0 12).bind fun n => (spec_l1Rd_below.f s0_0 n.2 4).bind fun e => (spec_l1Rd_near.f k s0_0 e.2 0 40).bind fun c => (spec_l1Rd_once.f s0_0 c.2 24).bind fun o => if o.1 = true then (spec_l1Rd_off.f k s0_0 o.2 0 3).bind fun v => some (wrap64 (1 + n.1), v.1, tmin a.1 b.1, tmax a.1 b.1, wrap64 (1 + c.1), v.2) else some (wrap64 (1 + n.1), e.1, tmin a.1 b.1, tmax a.1 b.1, wrap64 (1 + c.1), o.2)
set_option maxHeartbeats 8000000 in
set_option maxRecDepth 100000 in
theorem spec_l1Rd_meta.calls (k : Nat) (g : Nat) (s0_0 : List Int) (s0_1 : Int) (r1 r2 : Int) (r3 r4 : ByteArray) (r5 r6 : Int) (w0 w : World) (hI : IsS123 w0 w g s0_0 s0_1) (hB : Below w0.heap.size w0 w) (h : spec_l1Rd_meta.f k s0_0 s0_1 = some (r1, r2, r3, r4, r5, r6)) :
  Calls Try.prog 103 #[.pointer (some ⟨g, 0, none⟩)] w fun e w' => e = .returned (.agg #[.int .i64 r1, .int .i64 r2, .string r3, .string r4, .int .i64 r5]) ∧ IsS123 w0 w' g s0_0 r6 ∧ Below w0.heap.size w0 w' ∧ KeepBut w w' g none := by
 have HI0 := Qz.mk hI
 have HK := Qz.mk (KeepBut.refl w g none)
 have HB := Qz.mk hB
 have hgw := hI.lt
 have hL := Qz.mk hB.size
 clear hI hB
 have HZ := Qz.mk (blk_new w (.cells #[.int .i64 0, .int .i64 0, .string ⟨#[]⟩, .string ⟨#[]⟩, .int .i64 0] 66))
 unfold spec_l1Rd_meta.f at h
 obtain ⟨⟨a1, a2⟩, A1, h⟩ := Option.bind_eq_some_iff.mp h
 obtain ⟨⟨b1, b2⟩, A2, h⟩ := Option.bind_eq_some_iff.mp h
 obtain ⟨⟨n1, n2⟩, A3, h⟩ := Option.bind_eq_some_iff.mp h
 obtain ⟨⟨e1, e2⟩, A4, h⟩ := Option.bind_eq_some_iff.mp h
 obtain ⟨⟨c1, c2⟩, A5, h⟩ := Option.bind_eq_some_iff.mp h
 obtain ⟨⟨o1, o2⟩, A6, h⟩ := Option.bind_eq_some_iff.mp h
 replace A1 := Qz.mk A1
 replace A2 := Qz.mk A2
 replace A3 := Qz.mk A3
 replace A4 := Qz.mk A4
 replace A5 := Qz.mk A5
 replace A6 := Qz.mk A6
 cases o1 with
 | false =>
  simp only [Bool.false_eq_true, if_false, Option.some.injEq, Prod.mk.injEq] at h
  obtain ⟨rfl, rfl, rfl, rfl, rfl, rfl⟩ := h
  go_enter Try.func103, Try.ntmps103
  go_wp2_with (first | ((with_reducible refine qm (f := 74) rfl ?_); refine qy (some 7) rfl rfl Try.func74 (by kernel_rfl) rfl #[.pointer (some ⟨g, 0, none⟩)] rfl yq83 ?_;  (with_reducible refine (spec_l1Rd_user.calls g s0_0 s0_1 a1 a2 w0 _ ?side1 ?side2 A1.out).mono ?_); (case side1 => exact yq80); (case side2 => exact yq82); rintro e w1 ⟨rfl, hi, hb, hk⟩; refine ⟨_, rfl, ?_⟩; clear A1; have n0_ := Qz.mk (KeepBut.trans yq81 hk (.inl rfl)); replace HZ := Qz.mk (KeepBut.blk hk HZ.out (Nat.ne_of_gt hgw) (by simp)); have n1_ := Qz.mk (hb); have n2_ := Qz.mk (hi); clear HK; clear HB; clear HI0; have HK := n0_; have HB := n1_; have HI0 := n2_; clear n0_ n1_ n2_; (try clear hb); (try clear hk); (try clear hi)) | ((with_reducible refine qm (f := 74) rfl ?_); refine qy (some 9) rfl rfl Try.func74 (by kernel_rfl) rfl #[.pointer (some ⟨g, 0, none⟩)] rfl yq83 ?_;  (with_reducible refine (spec_l1Rd_user.calls g s0_0 a2 b1 b2 w0 _ ?side1 ?side2 A2.out).mono ?_); (case side1 => exact yq80); (case side2 => exact yq82); rintro e w2 ⟨rfl, hi, hb, hk⟩; refine ⟨_, rfl, ?_⟩; clear A2; have n0_ := Qz.mk (KeepBut.trans yq81 hk (.inl rfl)); replace HZ := Qz.mk (KeepBut.blk hk HZ.out (Nat.ne_of_gt hgw) (by simp)); have n1_ := Qz.mk (hb); have n2_ := Qz.mk (hi); clear HK; clear HB; clear HI0; have HK := n0_; have HB := n1_; have HI0 := n2_; clear n0_ n1_ n2_; (try clear hb); (try clear hk); (try clear hi)) | ((with_reducible refine qm (f := 102) rfl ?_); refine qy (some 11) rfl rfl Try.func102 (by kernel_rfl) rfl #[.pointer (some ⟨g, 0, none⟩), .int .i64 0, .int .i64 12] rfl yq83 ?_;  (with_reducible refine (spec_l1Rd_near.calls k g s0_0 b2 0 12 n1 n2 w0 _ ?side1 ?side2 A3.out).mono ?_); (case side1 => exact yq80); (case side2 => exact yq82); rintro e w3 ⟨rfl, hi, hb, hk⟩; refine ⟨_, rfl, ?_⟩; clear A3; have n0_ := Qz.mk (KeepBut.trans yq81 hk (.inl rfl)); replace HZ := Qz.mk (KeepBut.blk hk HZ.out (Nat.ne_of_gt hgw) (by simp)); have n1_ := Qz.mk (hb); have n2_ := Qz.mk (hi); clear HK; clear HB; clear HI0; have HK := n0_; have HB := n1_; have HI0 := n2_; clear n0_ n1_ n2_; (try clear hb); (try clear hk); (try clear hi)) | ((with_reducible refine qm (f := 80) rfl ?_); refine qy (some 14) rfl rfl Try.func80 (by kernel_rfl) rfl #[.pointer (some ⟨g, 0, none⟩), .int .i64 4] rfl yq83 ?_;  (with_reducible refine (spec_l1Rd_below.calls g s0_0 n2 4 e1 e2 w0 _ ?side1 ?side2 A4.out).mono ?_); (case side1 => exact yq80); (case side2 => exact yq82); rintro e w4 ⟨rfl, hi, hb, hk⟩; refine ⟨_, rfl, ?_⟩; clear A4; have n0_ := Qz.mk (KeepBut.trans yq81 hk (.inl rfl)); replace HZ := Qz.mk (KeepBut.blk hk HZ.out (Nat.ne_of_gt hgw) (by simp)); have n1_ := Qz.mk (hb); have n2_ := Qz.mk (hi); clear HK; clear HB; clear HI0; have HK := n0_; have HB := n1_; have HI0 := n2_; clear n0_ n1_ n2_; (try clear hb); (try clear hk); (try clear hi)) | ((with_reducible refine qm (f := 102) rfl ?_); refine qy (some 22) rfl rfl Try.func102 (by kernel_rfl) rfl #[.pointer (some ⟨g, 0, none⟩), .int .i64 0, .int .i64 40] rfl yq83 ?_;  (with_reducible refine (spec_l1Rd_near.calls k g s0_0 e2 0 40 c1 c2 w0 _ ?side1 ?side2 A5.out).mono ?_); (case side1 => exact yq80); (case side2 => exact yq82); rintro e w5 ⟨rfl, hi, hb, hk⟩; refine ⟨_, rfl, ?_⟩; clear A5; have n0_ := Qz.mk (KeepBut.trans yq81 hk (.inl rfl)); replace HZ := Qz.mk (KeepBut.blk hk HZ.out (Nat.ne_of_gt hgw) (by simp)); have n1_ := Qz.mk (hb); have n2_ := Qz.mk (hi); clear HK; clear HB; clear HI0; have HK := n0_; have HB := n1_; have HI0 := n2_; clear n0_ n1_ n2_; (try clear hb); (try clear hk); (try clear hi)) | (go_at_call 73; have hg5 := HI0.out.lt; have hs5 := HK.out.1; have hz5 := qh1 HZ.out; (with_reducible refine (spec_l1Rd_once.calls g s0_0 c2 24 false o2 w0 _ ?side1 ?side2 A6.out).mono ?_); (case side1 => exact yq80); (case side2 => exact yq82); rintro e w6 ⟨rfl, hi, hb, hk⟩;  clear A6; have n0_ := Qz.mk (KeepBut.trans yq81 hk (.inl rfl)); replace HZ := Qz.mk (KeepBut.blk hk (qa HZ.out _) (Nat.ne_of_gt hgw) (by simp)); have HM := Qz.mk (KeepBut.blk hk (blk_new _ _) (Nat.ne_of_gt hg5) (by simp)); have hm0 := (qg HM.out 0).trans rfl; have hz0 := (qg HZ.out 0).trans rfl; have hf0 := qj HZ.out 0; have hm1 := (qg HM.out 1).trans rfl; have hz1 := (qg HZ.out 1).trans rfl; have hf1 := qj HZ.out 1; have hm2 := (qg HM.out 2).trans rfl; have hz2 := (qg HZ.out 2).trans rfl; have hf2 := qj HZ.out 2; have hm3 := (qg HM.out 3).trans rfl; have hz3 := (qg HZ.out 3).trans rfl; have hf3 := qj HZ.out 3; have hm4 := (qg HM.out 4).trans rfl; have hz4 := (qg HZ.out 4).trans rfl; have hf4 := qj HZ.out 4; have n1_ := Qz.mk (hb); have n2_ := Qz.mk (hi); clear HK; clear HB; clear HI0; have HK := n0_; have HB := n1_; have HI0 := n2_; clear n0_ n1_ n2_; (try clear hb); (try clear hk); (try clear hi)))
  refine bodyPost_ret (results_cell_row rfl _ _ w.heap.size 66 #[.int .i64 (wrap64 (1 + n1)), .int .i64 e1, .string (tmin a1 b1), .string (tmax a1 b1), .int .i64 (wrap64 (1 + c1))] (0, 0) _ rfl (blk_set (blk_set (blk_set (blk_set (blk_set (HZ.out) 0 (.int .i64 (wrap64 (1 + n1)))) 1 (.int .i64 e1)) 2 (.string (tmin a1 b1))) 3 (.string (tmax a1 b1))) 4 (.int .i64 (wrap64 (1 + c1)))) Try.underlying66 rfl (by kernel_rfl)) rfl ?_
  have hgz : g ≠ w.heap.size := Nat.ne_of_lt hgw
  have hgm : g ≠ w5.heap.size := Nat.ne_of_lt hg5
  have hw5 := Nat.le_trans hL.out hs5
  exact ⟨rfl, by repeat (first | with_reducible exact HI0.out | (refine IsS123.far ?_ (by first | exact hgz | exact hgm) _)), by repeat (first | with_reducible exact HB.out | (refine qe ?_ (by first | exact hL.out | exact hw5))), by repeat (first | with_reducible exact HK.out | (refine qk ?_ (by first | exact Nat.le_refl _ | exact hs5) _))⟩
 | true =>
  simp only [if_true] at h
  obtain ⟨⟨v1, v2⟩, A7, h⟩ := Option.bind_eq_some_iff.mp h
  replace A7 := Qz.mk A7
  simp only [Option.some.injEq, Prod.mk.injEq] at h
  obtain ⟨rfl, rfl, rfl, rfl, rfl, rfl⟩ := h
  go_enter Try.func103, Try.ntmps103
  go_wp2_with (first | ((with_reducible refine qm (f := 74) rfl ?_); refine qy (some 7) rfl rfl Try.func74 (by kernel_rfl) rfl #[.pointer (some ⟨g, 0, none⟩)] rfl yq83 ?_;  (with_reducible refine (spec_l1Rd_user.calls g s0_0 s0_1 a1 a2 w0 _ ?side1 ?side2 A1.out).mono ?_); (case side1 => exact yq80); (case side2 => exact yq82); rintro e w1 ⟨rfl, hi, hb, hk⟩; refine ⟨_, rfl, ?_⟩; clear A1; have n0_ := Qz.mk (KeepBut.trans yq81 hk (.inl rfl)); replace HZ := Qz.mk (KeepBut.blk hk HZ.out (Nat.ne_of_gt hgw) (by simp)); have n1_ := Qz.mk (hb); have n2_ := Qz.mk (hi); clear HK; clear HB; clear HI0; have HK := n0_; have HB := n1_; have HI0 := n2_; clear n0_ n1_ n2_; (try clear hb); (try clear hk); (try clear hi)) | ((with_reducible refine qm (f := 74) rfl ?_); refine qy (some 9) rfl rfl Try.func74 (by kernel_rfl) rfl #[.pointer (some ⟨g, 0, none⟩)] rfl yq83 ?_;  (with_reducible refine (spec_l1Rd_user.calls g s0_0 a2 b1 b2 w0 _ ?side1 ?side2 A2.out).mono ?_); (case side1 => exact yq80); (case side2 => exact yq82); rintro e w2 ⟨rfl, hi, hb, hk⟩; refine ⟨_, rfl, ?_⟩; clear A2; have n0_ := Qz.mk (KeepBut.trans yq81 hk (.inl rfl)); replace HZ := Qz.mk (KeepBut.blk hk HZ.out (Nat.ne_of_gt hgw) (by simp)); have n1_ := Qz.mk (hb); have n2_ := Qz.mk (hi); clear HK; clear HB; clear HI0; have HK := n0_; have HB := n1_; have HI0 := n2_; clear n0_ n1_ n2_; (try clear hb); (try clear hk); (try clear hi)) | ((with_reducible refine qm (f := 102) rfl ?_); refine qy (some 11) rfl rfl Try.func102 (by kernel_rfl) rfl #[.pointer (some ⟨g, 0, none⟩), .int .i64 0, .int .i64 12] rfl yq83 ?_;  (with_reducible refine (spec_l1Rd_near.calls k g s0_0 b2 0 12 n1 n2 w0 _ ?side1 ?side2 A3.out).mono ?_); (case side1 => exact yq80); (case side2 => exact yq82); rintro e w3 ⟨rfl, hi, hb, hk⟩; refine ⟨_, rfl, ?_⟩; clear A3; have n0_ := Qz.mk (KeepBut.trans yq81 hk (.inl rfl)); replace HZ := Qz.mk (KeepBut.blk hk HZ.out (Nat.ne_of_gt hgw) (by simp)); have n1_ := Qz.mk (hb); have n2_ := Qz.mk (hi); clear HK; clear HB; clear HI0; have HK := n0_; have HB := n1_; have HI0 := n2_; clear n0_ n1_ n2_; (try clear hb); (try clear hk); (try clear hi)) | ((with_reducible refine qm (f := 80) rfl ?_); refine qy (some 14) rfl rfl Try.func80 (by kernel_rfl) rfl #[.pointer (some ⟨g, 0, none⟩), .int .i64 4] rfl yq83 ?_;  (with_reducible refine (spec_l1Rd_below.calls g s0_0 n2 4 e1 e2 w0 _ ?side1 ?side2 A4.out).mono ?_); (case side1 => exact yq80); (case side2 => exact yq82); rintro e w4 ⟨rfl, hi, hb, hk⟩; refine ⟨_, rfl, ?_⟩; clear A4; have n0_ := Qz.mk (KeepBut.trans yq81 hk (.inl rfl)); replace HZ := Qz.mk (KeepBut.blk hk HZ.out (Nat.ne_of_gt hgw) (by simp)); have n1_ := Qz.mk (hb); have n2_ := Qz.mk (hi); clear HK; clear HB; clear HI0; have HK := n0_; have HB := n1_; have HI0 := n2_; clear n0_ n1_ n2_; (try clear hb); (try clear hk); (try clear hi)) | ((with_reducible refine qm (f := 102) rfl ?_); refine qy (some 22) rfl rfl Try.func102 (by kernel_rfl) rfl #[.pointer (some ⟨g, 0, none⟩), .int .i64 0, .int .i64 40] rfl yq83 ?_;  (with_reducible refine (spec_l1Rd_near.calls k g s0_0 e2 0 40 c1 c2 w0 _ ?side1 ?side2 A5.out).mono ?_); (case side1 => exact yq80); (case side2 => exact yq82); rintro e w5 ⟨rfl, hi, hb, hk⟩; refine ⟨_, rfl, ?_⟩; clear A5; have n0_ := Qz.mk (KeepBut.trans yq81 hk (.inl rfl)); replace HZ := Qz.mk (KeepBut.blk hk HZ.out (Nat.ne_of_gt hgw) (by simp)); have n1_ := Qz.mk (hb); have n2_ := Qz.mk (hi); clear HK; clear HB; clear HI0; have HK := n0_; have HB := n1_; have HI0 := n2_; clear n0_ n1_ n2_; (try clear hb); (try clear hk); (try clear hi)) | (go_at_call 73; have hg5 := HI0.out.lt; have hs5 := HK.out.1; have hz5 := qh1 HZ.out; (with_reducible refine (spec_l1Rd_once.calls g s0_0 c2 24 true o2 w0 _ ?side1 ?side2 A6.out).mono ?_); (case side1 => exact yq80); (case side2 => exact yq82); rintro e w6 ⟨rfl, hi, hb, hk⟩;  clear A6; have n0_ := Qz.mk (KeepBut.trans yq81 hk (.inl rfl)); replace HZ := Qz.mk (KeepBut.blk hk (qa HZ.out _) (Nat.ne_of_gt hgw) (by simp)); have HM := Qz.mk (KeepBut.blk hk (blk_new _ _) (Nat.ne_of_gt hg5) (by simp)); have hm0 := (qg HM.out 0).trans rfl; have hz0 := (qg HZ.out 0).trans rfl; have hf0 := qj HZ.out 0; have hm1 := (qg HM.out 1).trans rfl; have hz1 := (qg HZ.out 1).trans rfl; have hf1 := qj HZ.out 1; have hm2 := (qg HM.out 2).trans rfl; have hz2 := (qg HZ.out 2).trans rfl; have hf2 := qj HZ.out 2; have hm3 := (qg HM.out 3).trans rfl; have hz3 := (qg HZ.out 3).trans rfl; have hf3 := qj HZ.out 3; have hm4 := (qg HM.out 4).trans rfl; have hz4 := (qg HZ.out 4).trans rfl; have hf4 := qj HZ.out 4; have n1_ := Qz.mk (hb); have n2_ := Qz.mk (hi); clear HK; clear HB; clear HI0; have HK := n0_; have HB := n1_; have HI0 := n2_; clear n0_ n1_ n2_; (try clear hb); (try clear hk); (try clear hi)) | ((with_reducible refine qm (f := 72) rfl ?_); refine qy (some 28) rfl rfl Try.func72 (by kernel_rfl) rfl #[.pointer (some ⟨g, 0, none⟩), .int .i64 0, .int .i64 3] rfl yq83 ?_; clear hm0 hz0 hf0 hm1 hz1 hf1 hm2 hz2 hf2 hm3 hz3 hf3 hm4 hz4 hf4; (with_reducible refine (spec_l1Rd_off.calls k g s0_0 o2 0 3 v1 v2 w0 _ ?side1 ?side2 A7.out).mono ?_); (case side1 => exact yq80); (case side2 => exact yq82); rintro e w7 ⟨rfl, hi, hb, hk⟩; refine ⟨_, rfl, ?_⟩; clear A7; have n0_ := Qz.mk (KeepBut.trans yq81 hk (.inl rfl)); replace HZ := Qz.mk (KeepBut.blk hk HZ.out (Nat.ne_of_gt hgw) (by simp)); replace HM := Qz.mk (KeepBut.blk hk HM.out (Nat.ne_of_gt hg5) (by simp)); have hfm := qj HM.out 1; have hm0 := (qg HM.out 0).trans rfl; have hz0 := (qg HZ.out 0).trans rfl; have hf0 := qj HZ.out 0; have hm1 := (qg HM.out 1).trans rfl; have hz1 := (qg HZ.out 1).trans rfl; have hf1 := qj HZ.out 1; have hm2 := (qg HM.out 2).trans rfl; have hz2 := (qg HZ.out 2).trans rfl; have hf2 := qj HZ.out 2; have hm3 := (qg HM.out 3).trans rfl; have hz3 := (qg HZ.out 3).trans rfl; have hf3 := qj HZ.out 3; have hm4 := (qg HM.out 4).trans rfl; have hz4 := (qg HZ.out 4).trans rfl; have hf4 := qj HZ.out 4; have n1_ := Qz.mk (hb); have n2_ := Qz.mk (hi); clear HK; clear HB; clear HI0; have HK := n0_; have HB := n1_; have HI0 := n2_; clear n0_ n1_ n2_; (try clear hb); (try clear hk); (try clear hi)))
  refine bodyPost_ret (results_cell_row rfl _ _ w.heap.size 66 #[.int .i64 (wrap64 (1 + n1)), .int .i64 v1, .string (tmin a1 b1), .string (tmax a1 b1), .int .i64 (wrap64 (1 + c1))] (0, 0) _ rfl (blk_set (blk_set (blk_set (blk_set (blk_set (qx HZ.out (Nat.ne_of_lt hz5) _) 0 (.int .i64 (wrap64 (1 + n1)))) 1 (.int .i64 v1)) 2 (.string (tmin a1 b1))) 3 (.string (tmax a1 b1))) 4 (.int .i64 (wrap64 (1 + c1)))) Try.underlying66 rfl (by kernel_rfl)) rfl ?_
  have hgz : g ≠ w.heap.size := Nat.ne_of_lt hgw
  have hgm : g ≠ w5.heap.size := Nat.ne_of_lt hg5
  have hw5 := Nat.le_trans hL.out hs5
  exact ⟨rfl, by repeat (first | with_reducible exact HI0.out | (refine IsS123.far ?_ (by first | exact hgz | exact hgm) _)), by repeat (first | with_reducible exact HB.out | (refine qe ?_ (by first | exact hL.out | exact hw5))), by repeat (first | with_reducible exact HK.out | (refine qk ?_ (by first | exact Nat.le_refl _ | exact hs5) _))⟩
end Go.Proofs.Ytcgejabkjljeeaa.P
end

section
namespace Go.Proofs.Ytcgejabkjljeeaa.P
open Go.RowKit Go.Proofs.YtcgejabkjljeeaaW.PrintWords Go.Proofs.YtcgejabkjljeeaaW.PrintLast Go.Proofs.YtcgejabkjljeeaaW.PrintMore
attribute [local go_sem] qk1 qj1 ql1 qf1 qd1 qn1 qm1 qa1 qz qe1 qc1
set_option linter.unusedVariables false
set_option linter.unusedSimpArgs false
mutual
def spec_Apply.j0 : Nat → Bool → List (S66) → Int → Int → Int → List (S66) → List Int → Int → Int → Int → Option ((List (S66)) × Int × Int × Int × Bool)
 | 0, _, _, _, _, _, _, _, _, _, _ => none
 | k + 1, x43, x102000, x102001, x102002, x102003, x103000, x103001, x103002, x103003, x103004 => if x43 = true then (some (([] : List (S66)), 0, 0, 0, false)) else (spec_Apply.l0 k 0 0 x102000 x102001 x102002 x102003 x103000 x103001 x103002 x103003 x103004 (([] : List (S66))) x103002 x103003 x103004)
def spec_Apply.l0 : Nat → Int → Int → List (S66) → Int → Int → Int → List (S66) → List Int → Int → Int → Int → List (S66) → Int → Int → Int → Option ((List (S66)) × Int × Int × Int × Bool)
 | 0, _, _, _, _, _, _, _, _, _, _, _, _, _, _, _ => none
 | k + 1, x7, x8, x102000, x102001, x102002, x102003, x103000, x103001, x103002, x103003, x103004, x109000, x109001, x109002, x109003 => if x8 < (x102000.length : Int) then (spec_Apply.l1 k x7 x8 false 0 x102000 x102001 x102002 x102003 x103000 x103001 x103002 x103003 x103004 x109000 x109001 x109002 x109003) else (if x7 = (x103001.length : Int) then (spec_Apply.l2 k 0 x103000 x103001 x103002 x103003 x103004 x109000 x109001 x109002 x109003) else (some (([] : List (S66)), 0, 0, 0, false)))
def spec_Apply.l1 : Nat → Int → Int → Bool → Int → List (S66) → Int → Int → Int → List (S66) → List Int → Int → Int → Int → List (S66) → Int → Int → Int → Option ((List (S66)) × Int × Int × Int × Bool)
 | 0, _, _, _, _, _, _, _, _, _, _, _, _, _, _, _, _, _ => none
 | k + 1, x7, x8, x9, x10, x102000, x102001, x102002, x102003, x103000, x103001, x103002, x103003, x103004, x109000, x109001, x109002, x109003 => if x10 < (x103001.length : Int) then (if x9 = true then (spec_Apply.l1 k x7 x8 true (wrap64 (x10 + 1)) x102000 x102001 x102002 x102003 x103000 x103001 x103002 x103003 x103004 x109000 x109001 x109002 x109003) else (if 0 ≤ x10 then (if 0 ≤ x8 then (if x8 < (x102000.length : Int) then (spec_Apply.l1 k x7 x8 ((rd x103001 x10) == ((qv x102000 x8).f0)) (wrap64 (x10 + 1)) x102000 x102001 x102002 x102003 x103000 x103001 x103002 x103003 x103004 x109000 x109001 x109002 x109003) else (none)) else (none)) else (none))) else (if x9 = true then (spec_Apply.l0 k (wrap64 (x7 + 1)) (wrap64 (x8 + 1)) x102000 x102001 x102002 x102003 x103000 x103001 x103002 x103003 x103004 x109000 x109001 x109002 x109003) else (if 0 ≤ x8 then (if x8 < (x102000.length : Int) then (if x109000.length < 2513169434916 then (spec_Apply.l0 k x7 (wrap64 (x8 + 1)) x102000 x102001 x102002 x102003 x103000 x103001 x103002 x103003 x103004 (x109000 ++ [(⟨(qv x102000 x8).f0, (qv x102000 x8).f1, (qv x102000 x8).f2, (qv x102000 x8).f3, (qv x102000 x8).f4⟩ : S66)]) x109001 x109002 x109003) else (none)) else (none)) else (none)))
def spec_Apply.l2 : Nat → Int → List (S66) → List Int → Int → Int → Int → List (S66) → Int → Int → Int → Option ((List (S66)) × Int × Int × Int × Bool)
 | 0, _, _, _, _, _, _, _, _, _, _ => none
 | k + 1, x11, x103000, x103001, x103002, x103003, x103004, x109000, x109001, x109002, x109003 => if x11 < (x103000.length : Int) then (spec_Apply.l3 k x11 0 x103000 x103001 x103002 x103003 x103004 x109000 x109001 x109002 x109003) else ((spec_VersionOk.f k x109000 x109001 x109002 x109003).bind fun t115 => (if t115 = true then (some (x109000, x109001, x109002, x109003, true)) else (some (([] : List (S66)), 0, 0, 0, false))))
def spec_Apply.l3 : Nat → Int → Int → List (S66) → List Int → Int → Int → Int → List (S66) → Int → Int → Int → Option ((List (S66)) × Int × Int × Int × Bool)
 | 0, _, _, _, _, _, _, _, _, _, _, _ => none
 | k + 1, x11, x12, x103000, x103001, x103002, x103003, x103004, x109000, x109001, x109002, x109003 => if x12 < (x109000.length : Int) then (if 0 ≤ x12 then (if 0 ≤ x11 then (if x11 < (x103000.length : Int) then ((spec_l12Ahead.f ((qv x109000 x12).f0) ((qv x109000 x12).f1) ((qv x109000 x12).f2) ((qv x109000 x12).f3) ((qv x109000 x12).f4) ((qv x103000 x11).f0) ((qv x103000 x11).f1) ((qv x103000 x11).f2) ((qv x103000 x11).f3) ((qv x103000 x11).f4)).bind fun t118 => (if t118 = true then (spec_Apply.l3 k x11 (wrap64 (x12 + 1)) x103000 x103001 x103002 x103003 x103004 x109000 x109001 x109002 x109003) else ((some (([] : List (S66)) : List (S66))).bind fun y119 => (if x12 ≤ (x109000.length : Int) then ((some (x109000.take (x12 : Int).toNat : List (S66))).bind fun y122 => (if y119.length + y122.length < 2513169434916 then ((some (y119 ++ y122 : List (S66))).bind fun y126 => (if y126.length < 2513169434916 then ((some (y126 ++ [(⟨(qv x103000 x11).f0, (qv x103000 x11).f1, (qv x103000 x11).f2, (qv x103000 x11).f3, (qv x103000 x11).f4⟩ : S66)] : List (S66))).bind fun y130 => ((some (x109000.drop (x12 : Int).toNat : List (S66))).bind fun y133 => (if y130.length + y133.length < 2513169434916 then (spec_Apply.l2 k (wrap64 (x11 + 1)) x103000 x103001 x103002 x103003 x103004 (y130 ++ y133) x109001 x109002 x109003) else (none)))) else (none))) else (none))) else (none))))) else (none)) else (none)) else (none)) else ((some (([] : List (S66)) : List (S66))).bind fun y140 => (if 0 ≤ x12 then (if x12 ≤ (x109000.length : Int) then ((some (x109000.take (x12 : Int).toNat : List (S66))).bind fun y143 => (if y140.length + y143.length < 2513169434916 then ((some (y140 ++ y143 : List (S66))).bind fun y147 => (if 0 ≤ x11 then (if x11 < (x103000.length : Int) then (if y147.length < 2513169434916 then ((some (y147 ++ [(⟨(qv x103000 x11).f0, (qv x103000 x11).f1, (qv x103000 x11).f2, (qv x103000 x11).f3, (qv x103000 x11).f4⟩ : S66)] : List (S66))).bind fun y151 => ((some (x109000.drop (x12 : Int).toNat : List (S66))).bind fun y154 => (if y151.length + y154.length < 2513169434916 then (spec_Apply.l2 k (wrap64 (x11 + 1)) x103000 x103001 x103002 x103003 x103004 (y151 ++ y154) x109001 x109002 x109003) else (none)))) else (none)) else (none)) else (none))) else (none))) else (none)) else (none)))
end
def spec_Apply.f (k : Nat) (l0_0 : List (S66)) (a0_1 : Int) (a0_2 : Int) (a0_3 : Int) (l1_0 : List (S66)) (l1_1 : List Int) (a1_2 : Int) (a1_3 : Int) (a1_4 : Int) : Option ((List (S66)) × Int × Int × Int × Bool) := (spec_VersionOk.f k l0_0 a0_1 a0_2 a0_3).bind fun t104 => (if t104 = true then (if a1_2 < a0_1 then (spec_Apply.j0 k true l0_0 a0_1 a0_2 a0_3 l1_0 l1_1 a1_2 a1_3 a1_4) else (if a1_3 < a0_2 then (spec_Apply.j0 k true l0_0 a0_1 a0_2 a0_3 l1_0 l1_1 a1_2 a1_3 a1_4) else (if a1_4 < a0_3 then (spec_Apply.j0 k true l0_0 a0_1 a0_2 a0_3 l1_0 l1_1 a1_2 a1_3 a1_4) else (spec_Apply.j0 k (decide ((l1_0.length : Int) > 30)) l0_0 a0_1 a0_2 a0_3 l1_0 l1_1 a1_2 a1_3 a1_4)))) else (spec_Apply.j0 k true l0_0 a0_1 a0_2 a0_3 l1_0 l1_1 a1_2 a1_3 a1_4))
open Go.Shelf Go.Lib Go.Sort
theorem apT (k : Nat) (l0_0 : List S66) (a0_1 a0_2 a0_3 : Int) (l1_0 : List S66) (l1_1 : List Int) (a1_2 a1_3 a1_4 : Int) (r : List S66 × Int × Int × Int × Bool) (h : spec_Apply.j0 k true l0_0 a0_1 a0_2 a0_3 l1_0 l1_1 a1_2 a1_3 a1_4 = some r) : r = ([], 0, 0, 0, false) := by
 cases k with
 | zero => cases h
 | succ k => rw [spec_Apply.j0, if_pos rfl] at h; exact (Option.some.inj h).symm
theorem apN (k : Nat) (l0_0 : List S66) (a0_1 a0_2 a0_3 : Int) (l1_0 : List S66) (l1_1 : List Int) (a1_2 a1_3 a1_4 : Int) (r : List S66 × Int × Int × Int × Bool) (h : spec_Apply.j0 k false l0_0 a0_1 a0_2 a0_3 l1_0 l1_1 a1_2 a1_3 a1_4 = some r) : ∃ k2, spec_Apply.l0 k2 0 0 l0_0 a0_1 a0_2 a0_3 l1_0 l1_1 a1_2 a1_3 a1_4 [] a1_2 a1_3 a1_4 = some r := by
 cases k with
 | zero => cases h
 | succ k => rw [spec_Apply.j0, if_neg (by decide)] at h; exact ⟨k, h⟩
theorem threeA (w : World) (X Y Z : Obj) : Below w.heap.size w (((w.alloc X).alloc Y).alloc Z) ∧ (((w.alloc X).alloc Y).alloc Z).heap[w.heap.size]? = some X ∧ (((w.alloc X).alloc Y).alloc Z).heap[w.heap.size + 1]? = some Y ∧ (((w.alloc X).alloc Y).alloc Z).heap[w.heap.size + 1 + 1]? = some Z ∧ (((w.alloc X).alloc Y).alloc Z).heap.size = w.heap.size + 3 := by
 have e1 : (w.alloc X).heap.size = w.heap.size + 1 := by simp
 have e2 : ((w.alloc X).alloc Y).heap.size = w.heap.size + 1 + 1 := by simp
 refine ⟨(((Below.refl _ w).alloc (Nat.le_refl _) _).alloc (by omega) _).alloc (by omega) _, qa (qa (blk_new _ _) _) _, ?_, ?_, by simp⟩
 ·rw [← e1]; exact qa (blk_new _ _) _
 ·rw [← e2]; exact blk_new _ _
theorem putA {w : World} {g t : Nat} {x0 x1 x2 x3 a b c d : Value} (h : w.heap[g]? = some (.cells #[x0, x1, x2, x3] t (0, 0))) : ((((w.setCell ⟨g, 0, none⟩ a).setCell ⟨g, 1, none⟩ b).setCell ⟨g, 2, none⟩ c).setCell ⟨g, 3, none⟩ d).heap[g]? = some (.cells #[a, b, c, d] t (0, 0)) :=
 qw (qw (qw (qw h 0 a rfl) 1 b rfl) 2 c rfl) 3 d rfl
theorem belowA {w W : World} {g : Nat} {a b c d : Value} (h : Below w.heap.size w W) (hg : w.heap.size ≤ g) : Below w.heap.size w ((((W.setCell ⟨g, 0, none⟩ a).setCell ⟨g, 1, none⟩ b).setCell ⟨g, 2, none⟩ c).setCell ⟨g, 3, none⟩ d) :=
 qe (qe (qe (qe h hg) hg) hg) hg
theorem R_setA {α : Type} {dk : Kd α} {e base g t : Nat} {ok : Nat → Prop} {W : World} {v : Value} {xs : List α} {x0 x1 x2 x3 a b c d : Value} (h : dk.R e W base ok v xs) (hb : W.heap[g]? = some (.cells #[x0, x1, x2, x3] t (0, 0))) (ht : ∀ q, q ∈ e :: dk.E → q ≠ t) : dk.R e ((((W.setCell ⟨g, 0, none⟩ a).setCell ⟨g, 1, none⟩ b).setCell ⟨g, 2, none⟩ c).setCell ⟨g, 3, none⟩ d) base ok v xs :=
 Kd.R_set (Kd.R_set (Kd.R_set (Kd.R_set h hb ht 0 a) (qw hb 0 a rfl) ht 1 b) (qw (qw hb 0 a rfl) 1 b rfl) ht 2 c) (qw (qw (qw hb 0 a rfl) 1 b rfl) 2 c rfl) ht 3 d
theorem R_emptyA {α : Type} (d : Kd α) (e : Nat) (w : World) (base : Nat) (hb : base ≤ w.heap.size) : d.R e (w.alloc (.cells #[] e)) base (fun _ => True) (.slice (some ⟨w.heap.size, 0, none⟩) 0 0) [] :=
 ⟨fun _ _ => trivial, [], World.ownsRow_made w #[] 0 hb (Nat.zero_le _) (by simp), Reps.none _ _⟩
theorem ite_some {α : Type} {c : Prop} [Decidable c] {a : Option α} {r : α} (h : (if c then a else none) = some r) : c ∧ a = some r := by
 split at h
 ·rename_i hc; exact ⟨hc, h⟩
 ·cases h
theorem lenA {α : Type} (l : List α) (x : α) (j : Nat) (hj : j ≤ l.length) (q : ([] ++ l.take j ++ [x]).length + (l.drop j).length < 2513169434916) : l.length + 1 < 2513169434916 := by
 simp only [List.nil_append, List.length_append, List.length_take, List.length_drop, List.length_cons, List.length_nil] at q
 omega
structure ApB (w : World) (b : Nat) (cv ce : Array Value) (n s q : Int) (vf : Value) (W : World) : Prop where
 hb : Below w.heap.size w W
 hv : W.heap[w.heap.size]? = some (.cells cv 32 (0, 0))
 he : W.heap[w.heap.size + 1]? = some (.cells ce 37 (0, 0))
 hr : W.heap[w.heap.size + 1 + 1]? = some (.cells #[.slice none 0 0, .int .i64 0, .int .i64 0, .int .i64 0] 32 (0, 0))
 ho : W.heap[b]? = some (.cells #[vf, .int .i64 n, .int .i64 s, .int .i64 q] 32 (0, 0))
 hs : w.heap.size + 1 + 1 < b
theorem ApB.below {w W W' : World} {b : Nat} {cv ce : Array Value} {n s q : Int} {vf : Value} (h : ApB w b cv ce n s q vf W) (hB : Below W.heap.size W W') : ApB w b cv ce n s q vf W' :=
 ⟨h.hb.trans (hB.mono h.hb.size), qu h.hv hB, qu h.he hB, qu h.hr hB, qu h.ho hB, h.hs⟩
theorem ApB.grown {w W W' : World} {b : Nat} {cv ce : Array Value} {n s q : Int} {vf v : Value} (h : ApB w b cv ce n s q vf W) (hB : Below w.heap.size w W') (hg : W.grownBy W' v.ownBlock) {base : Nat} {ok : Nat → Prop} {xs : List S66} (hx : Kd.R k66 66 W base ok v xs) : ApB w b cv ce n s q vf W' :=
 ⟨hB, blk_grown h.hv hg (Kd.R_ne hx h.hv (by decide)), blk_grown h.he hg (Kd.R_ne hx h.he (by decide)), blk_grown h.hr hg (Kd.R_ne hx h.hr (by decide)), blk_grown h.ho hg (Kd.R_ne hx h.ho (by decide)), h.hs⟩
theorem ApB.put {w W : World} {b : Nat} {cv ce : Array Value} {n s q : Int} {vf : Value} (h : ApB w b cv ce n s q vf W) (v : Value) : ApB w b cv ce n s q v (W.setCell ⟨b, 0, none⟩ v) :=
 ⟨qe h.hb (by have := h.hs; omega), qx h.hv (by have := h.hs; show _ ≠ b; omega) _, qx h.he (by have := h.hs; show _ ≠ b; omega) _, qx h.hr (by have := h.hs; show _ ≠ b; omega) _, qw h.ho 0 v rfl, h.hs⟩
theorem ApB.start {w w1 : World} {cv ce : Array Value} {n s q : Int} (hb : Below w.heap.size w w1) (hv : w1.heap[w.heap.size]? = some (.cells cv 32 (0, 0))) (he : w1.heap[w.heap.size + 1]? = some (.cells ce 37 (0, 0))) (hr : w1.heap[w.heap.size + 1 + 1]? = some (.cells #[.slice none 0 0, .int .i64 0, .int .i64 0, .int .i64 0] 32 (0, 0))) :
  ApB w (w1.heap.size + 1) cv ce n s q (.slice (some ⟨w1.heap.size, 0, none⟩) 0 0) ((w1.alloc (.cells #[] 66)).alloc (.cells #[.slice (some ⟨w1.heap.size, 0, none⟩) 0 0, .int .i64 n, .int .i64 s, .int .i64 q] 32)) ∧
  Kd.R k66 66 ((w1.alloc (.cells #[] 66)).alloc (.cells #[.slice (some ⟨w1.heap.size, 0, none⟩) 0 0, .int .i64 n, .int .i64 s, .int .i64 q] 32)) w.heap.size (fun _ => True) (.slice (some ⟨w1.heap.size, 0, none⟩) 0 0) [] := by
 have e1 : (w1.alloc (.cells #[] 66)).heap.size = w1.heap.size + 1 := by simp
 have l1 := qh1 hr
 exact ⟨⟨qi (qi hb _) _, qa (qa hv _) _, qa (qa he _) _, qa (qa hr _) _, by rw [← e1]; exact blk_new _ _, by omega⟩, Kd.R_alloc (R_emptyA _ _ w1 _ hb.size) _⟩
set_option maxHeartbeats 8000000 in
set_option maxRecDepth 100000 in
theorem spec_Apply.calls (k : Nat) (A0_0 : Option Addr) (c0_0 : Nat) (l0_0 : List (S66)) (a0_1 : Int) (a0_2 : Int) (a0_3 : Int) (A1_0 : Option Addr) (c1_0 : Nat) (l1_0 : List (S66)) (A1_1 : Option Addr) (c1_1 : Nat) (l1_1 : List Int) (a1_2 : Int) (a1_3 : Int) (a1_4 : Int) (r1 : List (S66)) (r2 : Int) (r3 : Int) (r4 : Int) (r5 : Bool) (w : World) (hr0_0 : Kd.C k66 w A0_0 l0_0.length l0_0) (hc0_0 : l0_0.length ≤ c0_0) (hr1_0 : Kd.C k66 w A1_0 l1_0.length l1_0) (hc1_0 : l1_0.length ≤ c1_0) (hr1_1 : Kd.C (Kd.int .i64) w A1_1 l1_1.length l1_1) (hc1_1 : l1_1.length ≤ c1_1) (h : spec_Apply.f k l0_0 a0_1 a0_2 a0_3 l1_0 l1_1 a1_2 a1_3 a1_4 = some (r1, r2, r3, r4, r5)) :
  Calls Try.prog 17 #[.agg #[.slice A0_0 l0_0.length c0_0, .int .i64 a0_1, .int .i64 a0_2, .int .i64 a0_3], .agg #[.slice A1_0 l1_0.length c1_0, .slice A1_1 l1_1.length c1_1, .int .i64 a1_2, .int .i64 a1_3, .int .i64 a1_4]] w fun e w' => ∃ v0_ : Value, e = .returned (.tuple #[.agg #[v0_, .int .i64 r2, .int .i64 r3, .int .i64 r4], .bool r5]) ∧ Kd.R k66 66 w' w.heap.size (fun _ => True) v0_ r1 ∧ Below w.heap.size w w' := by
 have hu30 := Try.underlying30
 have hu32 := Try.underlying32
 have hu37 := Try.underlying37
 have hu66 := Try.underlying66
 have mixed : Try.prog.follows .mixedOrders = true := by kernel_rfl
 have H00 := Qz.mk hr0_0
 have H10 := Qz.mk hr1_0
 have H11 := Qz.mk hr1_1
 have C00 := Qz.mk hc0_0
 have hl0 := Kd.C_max hr0_0
 have hl1 := Kd.C_max hr1_0
 have hl2 := Kd.C_max hr1_1
 clear hr0_0 hr1_0 hr1_1 hc0_0 hc1_0 hc1_1
 have hf : ∀ W' : World, W'.heap[w.heap.size + 1 + 1]? = some (.cells #[.slice none 0 0, .int .i64 0, .int .i64 0, .int .i64 0] 32 (0, 0)) → Below w.heap.size w W' → ∀ tmps : Array Value, tmps.getD 4 undef = .pointer (some ⟨w.heap.size + 1 + 1, 0, none⟩) → tmps.getD 5 undef = .bool false → (r1, r2, r3, r4, r5) = (([] : List S66), (0 : Int), (0 : Int), (0 : Int), false) →
   bodyPost Try.prog Try.f17 (fun e w' => ∃ v0_ : Value, e = .returned (.tuple #[.agg #[v0_, .int .i64 r2, .int .i64 r3, .int .i64 r4], .bool r5]) ∧ Kd.R k66 66 w' w.heap.size (fun _ => True) v0_ r1 ∧ Below w.heap.size w w') Exit.ret ⟨tmps, []⟩ W' := by
  intro W' hb hB tmps h4 h5 hr
  simp only [Prod.mk.injEq] at hr
  obtain ⟨rfl, rfl, rfl, rfl, rfl⟩ := hr
  refine bodyPost_ret (results_ct rfl _ _ (w.heap.size + 1 + 1) 32 _ (0, 0) _ h4 hb Try.underlying32 rfl (by kernel_rfl)) rfl ?_
  rw [h5]
  exact ⟨_, rfl, Kd.R_nil _ _ _ _ _, hB⟩
 have HF := Qz.mk hf
 clear hf
 unfold spec_Apply.f at h
 replace h := Option.bind_eq_some_iff.mp h
 obtain ⟨t, A1_, h⟩ := h
 have A1 := Qz.mk A1_
 have HH := Qz.mk h
 clear A1_ h
 go_enter Try.func17, Try.ntmps17
 go_wp2_with fail
 have h3 := threeA w (.cells #[.slice A0_0 l0_0.length c0_0, .int .i64 a0_1, .int .i64 a0_2, .int .i64 a0_3] 32) (.cells #[.slice A1_0 l1_0.length c1_0, .slice A1_1 l1_1.length c1_1, .int .i64 a1_2, .int .i64 a1_3, .int .i64 a1_4] 37) (.cells #[.slice none 0 0, .int .i64 0, .int .i64 0, .int .i64 0] 32)
 generalize ((w.alloc (.cells #[.slice A0_0 l0_0.length c0_0, .int .i64 a0_1, .int .i64 a0_2, .int .i64 a0_3] 32)).alloc (.cells #[.slice A1_0 l1_0.length c1_0, .slice A1_1 l1_1.length c1_1, .int .i64 a1_2, .int .i64 a1_3, .int .i64 a1_4] 37)).alloc (.cells #[.slice none 0 0, .int .i64 0, .int .i64 0, .int .i64 0] 32) = W0 at h3 ⊢
 (with_reducible refine (spec_VersionOk.calls k A0_0 c0_0 l0_0 a0_1 a0_2 a0_3 t W0 (Kd.C_below H00.out h3.1) C00.out A1.out).mono ?_)
 rintro e w1 ⟨rfl, hb1⟩
 have BV := Qz.mk (qu h3.2.1 hb1)
 have BE := Qz.mk (qu h3.2.2.1 hb1)
 have BR := Qz.mk (qu h3.2.2.2.1 hb1)
 have HB := Qz.mk (h3.1.trans (hb1.mono h3.1.size))
 clear h3 hb1 A1
 have hq0 := (qg BR.out 0).trans rfl
 have hq1 := (qg BR.out 1).trans rfl
 have hq2 := (qg BR.out 2).trans rfl
 have hq3 := (qg BR.out 3).trans rfl
 have hf0 := qj BR.out 0
 have hf1 := qj BR.out 1
 have hf2 := qj BR.out 2
 have hf3 := qj BR.out 3
 have hv1 := (qg BV.out 1).trans rfl
 have hv2 := (qg BV.out 2).trans rfl
 have hv3 := (qg BV.out 3).trans rfl
 have he0 := (qg BE.out 0).trans rfl
 have he2 := (qg BE.out 2).trans rfl
 have he3 := (qg BE.out 3).trans rfl
 have he4 := (qg BE.out 4).trans rfl
 cases t with
 | false =>
  have hr := apT _ _ _ _ _ _ _ _ _ _ _ (show spec_Apply.j0 k true l0_0 a0_1 a0_2 a0_3 l1_0 l1_1 a1_2 a1_3 a1_4 = _ from HH.out)
  have HH := Qz.mk hr
  clear hr
  go_wp2
  exact HF.out _ (putA BR.out) (belowA HB.out (by omega)) _ rfl rfl HH.out
 | true =>
 have h := HH.out
 clear HH
 simp only [if_true] at h
 by_cases z1 : a1_2 < a0_1
 ·have z1b : decide (a1_2 < a0_1) = true := decide_eq_true z1
  rw [if_pos z1] at h
  have HH := Qz.mk (apT _ _ _ _ _ _ _ _ _ _ _ h)
  clear h z1
  go_wp2
  exact HF.out _ (putA BR.out) (belowA HB.out (by omega)) _ rfl rfl HH.out
 have z1b : decide (a1_2 < a0_1) = false := decide_eq_false z1
 rw [if_neg z1] at h
 by_cases z2 : a1_3 < a0_2
 ·have z2b : decide (a1_3 < a0_2) = true := decide_eq_true z2
  rw [if_pos z2] at h
  have HH := Qz.mk (apT _ _ _ _ _ _ _ _ _ _ _ h)
  clear h z1 z2
  go_wp2
  exact HF.out _ (putA BR.out) (belowA HB.out (by omega)) _ rfl rfl HH.out
 have z2b : decide (a1_3 < a0_2) = false := decide_eq_false z2
 rw [if_neg z2] at h
 by_cases z3 : a1_4 < a0_3
 ·have z3b : decide (a1_4 < a0_3) = true := decide_eq_true z3
  rw [if_pos z3] at h
  have HH := Qz.mk (apT _ _ _ _ _ _ _ _ _ _ _ h)
  clear h z1 z2 z3
  go_wp2
  exact HF.out _ (putA BR.out) (belowA HB.out (by omega)) _ rfl rfl HH.out
 have z3b : decide (a1_4 < a0_3) = false := decide_eq_false z3
 rw [if_neg z3] at h
 by_cases z4 : (l1_0.length : Int) > 30
 ·have z4b : decide ((30 : Int) < (l1_0.length : Int)) = true := decide_eq_true z4
  rw [decide_eq_true z4] at h
  have HH := Qz.mk (apT _ _ _ _ _ _ _ _ _ _ _ h)
  clear h z1 z2 z3
  go_wp2
  exact HF.out _ (putA BR.out) (belowA HB.out (by omega)) _ rfl rfl HH.out
 have z4b : decide ((30 : Int) < (l1_0.length : Int)) = false := decide_eq_false z4
 rw [decide_eq_false z4] at h
 replace h := apN _ _ _ _ _ _ _ _ _ _ _ h
 obtain ⟨k2, h⟩ := h
 have HH := Qz.mk h
 have hlt1 := Nat.lt_succ_of_lt (qh1 BR.out)
 have HS := Qz.mk (ApB.start (n := a1_2) (s := a1_3) (q := a1_4) HB.out BV.out BE.out BR.out)
 clear h z1 z2 z3
 go_wp2
 have hbb : w.heap.size + 1 + 1 < w1.heap.size + 1 := hlt1
 generalize w1.heap.size + 1 = b at HS hbb ⊢
 go_loopg [7, 8] k2 (fun kq v7 v8 wr => ∃ (x7 : Int) (i : Nat) (m : List S66) (vf : Value), v7 = .int .i64 x7 ∧ v8 = .int .i64 i ∧ Qz (spec_Apply.l0 kq x7 i l0_0 a0_1 a0_2 a0_3 l1_0 l1_1 a1_2 a1_3 a1_4 m a1_2 a1_3 a1_4 = some (r1, r2, r3, r4, r5)) ∧ i ≤ l0_0.length ∧ Qz (kq ≤ k2) ∧ Qz (ApB w b #[.slice A0_0 l0_0.length c0_0, .int .i64 a0_1, .int .i64 a0_2, .int .i64 a0_3] #[.slice A1_0 l1_0.length c1_0, .slice A1_1 l1_1.length c1_1, .int .i64 a1_2, .int .i64 a1_3, .int .i64 a1_4] a1_2 a1_3 a1_4 vf wr) ∧ Qz (Kd.R k66 66 wr w.heap.size (fun _ => True) vf m))
 case atStart => exact ⟨0, 0, [], _, rfl, rfl, HH, Nat.zero_le _, ⟨Nat.le_refl _⟩, ⟨HS.out.1⟩, ⟨HS.out.2⟩⟩
 case round =>
  clear HH HS HB BV BE BR hq0 hq1 hq2 hq3 hf0 hf1 hf2 hf3 hv1 hv2 hv3 he0 he2 he3 he4 z1b z2b z3b z4b
  obtain ⟨x7, i, m, vf, rfl, rfl, HA, hil, HK, HP, HM⟩ := hrel
  cases gk with
  | zero => exact absurd HA.out (by simp [spec_Apply.l0])
  | succ k1 =>
  have H := HA.out
  clear HA
  simp only [spec_Apply.l0] at H
  obtain ⟨Af, cf, ef⟩ := Kd.R_slice HM.out
  subst ef
  have hv0 := (qg HP.out.hv 0).trans rfl
  have he0 := (qg HP.out.he 0).trans rfl
  have he1 := (qg HP.out.he 1).trans rfl
  have ho0 := (qg HP.out.ho 0).trans rfl
  by_cases c : (i : Int) < (l0_0.length : Int)
  ·rw [if_pos c] at H
   have cb : decide ((i : Int) < (l0_0.length : Int)) = true := decide_eq_true c
   have HH := Qz.mk H
   clear H
   go_wp2
   go_loopg [9, 10] k1 (fun kq v9 v10 w2 => ∃ (bb : Bool) (j : Nat), v9 = .bool bb ∧ v10 = .int .i64 j ∧ Qz (spec_Apply.l1 kq x7 i bb j l0_0 a0_1 a0_2 a0_3 l1_0 l1_1 a1_2 a1_3 a1_4 m a1_2 a1_3 a1_4 = some (r1, r2, r3, r4, r5)) ∧ j ≤ l1_1.length ∧ Qz (kq ≤ k1) ∧ Qz (ApB w b #[.slice A0_0 l0_0.length c0_0, .int .i64 a0_1, .int .i64 a0_2, .int .i64 a0_3] #[.slice A1_0 l1_0.length c1_0, .slice A1_1 l1_1.length c1_1, .int .i64 a1_2, .int .i64 a1_3, .int .i64 a1_4] a1_2 a1_3 a1_4 (.slice Af m.length cf) w2) ∧ Qz (Kd.R k66 66 w2 w.heap.size (fun _ => True) (.slice Af m.length cf) m))
   case atStart => exact ⟨false, 0, rfl, rfl, HH, Nat.zero_le _, ⟨Nat.le_refl _⟩, HP, HM⟩
   case round =>
    clear HH HP HM hv0 he0 he1 ho0
    rename World => wr
    obtain ⟨bb, j, rfl, rfl, HA, hjl, HK1, HP, HM⟩ := hrel
    cases gk with
    | zero => exact absurd HA.out (by simp [spec_Apply.l1])
    | succ k3 =>
    have H := HA.out
    clear HA
    simp only [spec_Apply.l1] at H
    have hv0 := (qg HP.out.hv 0).trans rfl
    have he1 := (qg HP.out.he 1).trans rfl
    have ho0 := (qg HP.out.ho 0).trans rfl
    by_cases cj : (j : Int) < (l1_1.length : Int)
    ·rw [if_pos cj] at H
     have cjb : decide ((j : Int) < (l1_1.length : Int)) = true := decide_eq_true cj
     have hw2 : wrap64 ((j : Int) + 1) = ((j + 1 : Nat) : Int) := by unfold wrap64; omega
     cases bb
     case' true =>
      rw [if_pos rfl, hw2] at H
      have HH := Qz.mk H
      clear H
      go_wp2
      refine wp_region_quietX (by assumption) (by kernel_rfl) ?_
      iterate 2 (with_reducible refine wpQuiet_want ?want_ (fun K hK => ?_); (case want_ => kernel_rfl); go_simp; with_reducible refine hK _ ?_; clear hK K)
      iterate 12 (with_reducible refine wpQuiet_skip ?skip_ (fun K hK => ?_); (case skip_ => kernel_rfl); go_simp; with_reducible refine hK _ ?_; clear hK K)
      iterate 2 (with_reducible refine wpQuiet_want ?want_ (fun K hK => ?_); (case want_ => kernel_rfl); go_simp; with_reducible refine hK _ ?_; clear hK K)
     case' false =>
      rw [if_neg (by decide), if_pos (by omega), if_pos (by omega), if_pos c, hw2] at H
      obtain ⟨adx, e, h0, _⟩ := at_T66 H00.out (i : Int) (by omega) c
      cases e
      obtain ⟨adn, cc, ead, _, hKn, hc0⟩ := Kd.C_get H11.out (0 : Int) (j : Int) (by omega) cj
      obtain rfl : cc = [.int .i64 (l1_1.getD (j : Int).toNat 0)] := hKn
      have hxi := hc0 0 _ rfl
      cases ead
      rw [show (Kd.int .i64).sz = 1 from rfl, Nat.mul_one, Nat.add_zero, Int.toNat_natCast] at hxi
      rw [Int.toNat_natCast] at h0
      replace hxi := (HP.out.hb.cell (World.block_lt_of_cell? w _ hxi)).trans hxi
      replace h0 := (HP.out.hb.cell (World.block_lt_of_cell? w _ h0)).trans h0
      have hrd : rd l1_1 (j : Int) = l1_1.getD j 0 := by unfold rd; rw [Int.toNat_natCast]
      rw [hrd] at H
      generalize l1_1.getD j 0 = nn at hxi H
      generalize qv l0_0 (i : Int) = x at h0 H
      obtain ⟨bq, hbq⟩ : ∃ bq, (nn == x.f0) = bq := ⟨_, rfl⟩
      have hbd : decide (nn = x.f0) = bq := by rw [← hbq]; rfl
      rw [hbq] at H
      have HH := Qz.mk H
      clear H hc0 hrd
      have hv0' := cellX hv0
      have he1' := cellX he1
      have hxi' := cellX hxi
      have h0' := cellX h0
      go_wp2
      refine wp_region_quietX (by assumption) (by kernel_rfl) ?_
      iterate 16 (with_reducible refine wpQuiet_want ?want_ (fun K hK => ?_); (case want_ => kernel_rfl); go_simp; with_reducible refine hK _ ?_; clear hK K)
     all_goals
      refine wpQuiet_nil ?_
      intro _ hw_
      obtain ⟨⟨tq, osq⟩, hw_⟩ := hw_
      subst hw_
      have HP2 := Qz.mk (HP.out.below (below_grow wr tq osq))
      have HM2 := Qz.mk (Kd.R_below HM.out (below_grow wr tq osq))
      generalize grow (atD wr tq) osq = W2 at HP2 HM2 ⊢
      go_wp2
      go_roundg k3
      case measure => exact Nat.lt_succ_self _
      case rel => exact ⟨_, j + 1, rfl, congrArg (Value.int .i64) (by first | rfl | exact hw2 | omega), HH, by omega, ⟨by have := HK1.out; omega⟩, HP2, HM2⟩
    ·rw [if_neg cj] at H
     have cjb : decide ((j : Int) < (l1_1.length : Int)) = false := decide_eq_false cj
     have hw2 : wrap64 ((i : Int) + 1) = ((i + 1 : Nat) : Int) := by unfold wrap64; omega
     cases bb with
     | true =>
      rw [if_pos rfl, hw2] at H
      have HH := Qz.mk H
      clear H
      go_wp2
      go_roundg k3
      case measure => have := HK1.out; omega
      case rel => exact ⟨_, i + 1, m, _, rfl, congrArg (Value.int .i64) (by first | rfl | exact hw2 | omega), HH, by omega, ⟨by have := HK.out; have := HK1.out; omega⟩, HP, HM⟩
     | false =>
      rw [if_neg (by decide), if_pos (by omega), if_pos c, hw2] at H
      split at H
      case isFalse => cases H
      rename_i hlm
      obtain ⟨adx, e, h0, h1, h2, h3, h4⟩ := at_T66 H00.out (i : Int) (by omega) c
      cases e
      rw [Int.toNat_natCast] at h0 h1 h2 h3 h4
      replace h0 := (HP.out.hb.cell (World.block_lt_of_cell? w _ h0)).trans h0
      replace h1 := (HP.out.hb.cell (World.block_lt_of_cell? w _ h1)).trans h1
      replace h2 := (HP.out.hb.cell (World.block_lt_of_cell? w _ h2)).trans h2
      replace h3 := (HP.out.hb.cell (World.block_lt_of_cell? w _ h3)).trans h3
      replace h4 := (HP.out.hb.cell (World.block_lt_of_cell? w _ h4)).trans h4
      generalize qv l0_0 (i : Int) = x at h0 h1 h2 h3 h4 H
      have HH := Qz.mk H
      clear H
      have a0' : ∀ o, (wr.alloc o).cell? ⟨b, 0, none⟩ = some (.slice Af m.length cf) := fun o => (qg (qa HP.out.ho o) 0).trans rfl
      go_wp2_with fail
      go_region_law ((rw [show (wr.alloc (.cells #[.int .i64 x.f0, .int .i64 x.f1, .string x.f2, .string x.f3, .int .i64 x.f4] 66)).drew = wr.drew.alloc (.cells #[.int .i64 x.f0, .int .i64 x.f1, .string x.f2, .string x.f3, .int .i64 x.f4] 66) from rfl]); refine Kd.R_append_step k66 (w0 := w) w.heap.size (by rfl) (.tmp 86) (.tmp 92) 30 66 (.agg #[.int .i64 0, .int .i64 0, .string ⟨#[]⟩, .string ⟨#[]⟩, .int .i64 0]) 56 (by rfl) hu30 info66 (by rfl) (by decide) (by omega) (.slice Af m.length cf) m x [.int .i64 x.f0, .int .i64 x.f1, .string x.f2, .string x.f3, .int .i64 x.f4] (fun _ => True) (fun _ => False) (by rfl) (by rfl) ?aP (fun _ hk => hk.elim) ?aF ?aO ?aB ?aS ?aL ?_; (case aP => exact k66_mkM _ _ _ x); (case aF => exact fun _ _ => trivial); (case aO => exact Kd.R_drew HM.out); (case aB => exact below_drew HP.out.hb); (case aS => exact (below_drew HP.out.hb).size); (case aL => omega); intro v1 W1 ho hb hg hat; obtain ⟨Ao, co, eo⟩ := Kd.R_slice ho; subst eo; rw [show (m ++ [x]).length = m.length + 1 from by simp] at ho; have HP1 := Qz.mk (ApB.grown (HP.out.below (below_drew (Below.refl _ wr))) hb hg (Kd.R_drew HM.out)); have HM1 := Qz.mk ho; have hs0 : W1.cell? ⟨b, 0, none⟩ = some (.slice Af m.length cf) := (qg HP1.out.ho 0).trans rfl; have hs1 : W1.frozen? ⟨b, 0, none⟩ = false := qj HP1.out.ho 0; clear ho hb hg hat)
      all_goals go_wp2
      all_goals go_roundg k3
      all_goals first
       | (have := HK1.out; omega)
       | exact ⟨_, i + 1, _, _, rfl, congrArg (Value.int .i64) (by first | rfl | exact hw2 | omega), HH, by omega, ⟨by have := HK.out; have := HK1.out; omega⟩, ⟨HP1.out.put _⟩, ⟨Kd.R_set HM1.out HP1.out.ho (by decide) 0 _⟩⟩
  ·rw [if_neg c] at H
   have cb : decide ((i : Int) < (l0_0.length : Int)) = false := decide_eq_false c
   by_cases ce : x7 = (l1_1.length : Int)
   case neg =>
    rw [if_neg ce] at H
    have ceb : (x7 == (l1_1.length : Int)) = false := beq_eq_false_iff_ne.2 ce
    have ced : decide (x7 = (l1_1.length : Int)) = false := decide_eq_false ce
    have HH := Qz.mk (Option.some.inj H).symm
    clear H
    have hq0 := (qg HP.out.hr 0).trans rfl
    have hq1 := (qg HP.out.hr 1).trans rfl
    have hq2 := (qg HP.out.hr 2).trans rfl
    have hq3 := (qg HP.out.hr 3).trans rfl
    have hf0 := qj HP.out.hr 0
    have hf1 := qj HP.out.hr 1
    have hf2 := qj HP.out.hr 2
    have hf3 := qj HP.out.hr 3
    go_wp2
    exact HF.out _ (putA HP.out.hr) (belowA HP.out.hb (by omega)) _ rfl rfl HH.out
   rw [if_pos ce] at H
   subst ce
   have HH := Qz.mk H
   clear H
   go_wp2
   go_loopg [11] k1 (fun kq v11 wr => ∃ (i : Nat) (m : List S66) (vf : Value), v11 = .int .i64 i ∧ Qz (spec_Apply.l2 kq i l1_0 l1_1 a1_2 a1_3 a1_4 m a1_2 a1_3 a1_4 = some (r1, r2, r3, r4, r5)) ∧ i ≤ l1_0.length ∧ Qz (kq ≤ k1) ∧ Qz (ApB w b #[.slice A0_0 l0_0.length c0_0, .int .i64 a0_1, .int .i64 a0_2, .int .i64 a0_3] #[.slice A1_0 l1_0.length c1_0, .slice A1_1 l1_1.length c1_1, .int .i64 a1_2, .int .i64 a1_3, .int .i64 a1_4] a1_2 a1_3 a1_4 vf wr) ∧ Qz (Kd.R k66 66 wr w.heap.size (fun _ => True) vf m))
   case atStart => exact ⟨0, m, _, rfl, HH, Nat.zero_le _, ⟨Nat.le_refl _⟩, HP, HM⟩
   case round =>
    clear HH HP HM hv0 he0 he1 ho0 cb
    rename World => wr
    obtain ⟨i, m, vf, rfl, HA, hil, HK1, HP, HM⟩ := hrel
    cases gk with
    | zero => exact absurd HA.out (by simp [spec_Apply.l2])
    | succ k3 =>
    have H := HA.out
    clear HA
    simp only [spec_Apply.l2] at H
    obtain ⟨Af, cf, ef⟩ := Kd.R_slice HM.out
    subst ef
    obtain ⟨_, hmc, hC⟩ := Kd.R_reads' HM.out
    have hml := Kd.C_max hC
    have HC := Qz.mk hC
    clear hC
    have he0 := (qg HP.out.he 0).trans rfl
    have ho0 := (qg HP.out.ho 0).trans rfl
    by_cases c : (i : Int) < (l1_0.length : Int)
    ·rw [if_pos c] at H
     have cb : decide ((i : Int) < (l1_0.length : Int)) = true := decide_eq_true c
     have HH := Qz.mk H
     clear H
     go_wp2
     go_loopg [12] k3 (fun kq v12 w2 => ∃ (j : Nat), v12 = .int .i64 j ∧ Qz (spec_Apply.l3 kq i j l1_0 l1_1 a1_2 a1_3 a1_4 m a1_2 a1_3 a1_4 = some (r1, r2, r3, r4, r5)) ∧ j ≤ m.length ∧ Qz (kq ≤ k3) ∧ Qz (ApB w b #[.slice A0_0 l0_0.length c0_0, .int .i64 a0_1, .int .i64 a0_2, .int .i64 a0_3] #[.slice A1_0 l1_0.length c1_0, .slice A1_1 l1_1.length c1_1, .int .i64 a1_2, .int .i64 a1_3, .int .i64 a1_4] a1_2 a1_3 a1_4 (.slice Af m.length cf) w2) ∧ Qz (Kd.R k66 66 w2 w.heap.size (fun _ => True) (.slice Af m.length cf) m))
     case atStart => exact ⟨0, rfl, HH, Nat.zero_le _, ⟨Nat.le_refl _⟩, HP, HM⟩
     case round =>
      clear HH HP HM HC he0 ho0
      rename World => wr
      obtain ⟨j, rfl, HA, hjl, HK2, HP, HM⟩ := hrel
      cases gk with
      | zero => exact absurd HA.out (by simp [spec_Apply.l3])
      | succ k4 =>
      have H := HA.out
      clear HA
      simp only [spec_Apply.l3] at H
      obtain ⟨_, hmc, hC⟩ := Kd.R_reads' HM.out
      have hml := Kd.C_max hC
      have HC := Qz.mk hC
      clear hC
      have he0 := (qg HP.out.he 0).trans rfl
      have ho0 := (qg HP.out.ho 0).trans rfl
      have he0' := cellX he0
      have ho0' := cellX ho0
      obtain ⟨adx, e, h0, h1, h2, h3, h4⟩ := at_T66 H10.out (i : Int) (by omega) c
      cases e
      rw [Int.toNat_natCast] at h0 h1 h2 h3 h4
      generalize qv l1_0 (i : Int) = x at h0 h1 h2 h3 h4 H
      have HXI : Qz (wrap64 ((i : Int) + 1) = ((i + 1 : Nat) : Int)) := ⟨by unfold wrap64; omega⟩
      by_cases cj : (j : Int) < (m.length : Int)
      case' pos =>
       replace H := (if_pos cj).symm.trans H
       replace H := (ite_some H).2
       replace H := (ite_some H).2
       replace H := (ite_some H).2
       have HW : Qz (wrap64 ((j : Int) + 1) = ((j + 1 : Nat) : Int)) := ⟨by clear H; unfold wrap64; omega⟩
       have cjn : decide (j < m.length) = true := decide_eq_true (Int.ofNat_lt.1 cj)
       have hj0 : (0 : Int) ≤ (j : Int) := Int.natCast_nonneg j
       have hi0 : (0 : Int) ≤ (i : Int) := Int.natCast_nonneg i
       have cjb : decide ((j : Int) < (m.length : Int)) = true := decide_eq_true cj
       replace H := Option.bind_eq_some_iff.mp H
       obtain ⟨t118, A5_, H⟩ := H
       have A5 := Qz.mk A5_
       clear A5_
       have g0 := (HP.out.hb.cell (World.block_lt_of_cell? w _ h0)).trans h0
       have g1 := (HP.out.hb.cell (World.block_lt_of_cell? w _ h1)).trans h1
       have g2 := (HP.out.hb.cell (World.block_lt_of_cell? w _ h2)).trans h2
       have g3 := (HP.out.hb.cell (World.block_lt_of_cell? w _ h3)).trans h3
       have g4 := (HP.out.hb.cell (World.block_lt_of_cell? w _ h4)).trans h4
       obtain ⟨ady, e, y0, y1, y2, y3, y4⟩ := at_T66 HC.out (j : Int) (by omega) cj
       subst e
       rw [Int.toNat_natCast] at y0 y1 y2 y3 y4
       generalize qv m (j : Int) = y at y0 y1 y2 y3 y4 A5
       have ha : ∀ t os, Calls Try.prog 56 #[.agg #[.int .i64 y.f0, .int .i64 y.f1, .string y.f2, .string y.f3, .int .i64 y.f4], .agg #[.int .i64 x.f0, .int .i64 x.f1, .string x.f2, .string x.f3, .int .i64 x.f4]] (grow (atD wr t) os) fun e w' => e = .returned (.bool t118) ∧ ∃ t' os', w' = grow (atD (grow (atD wr t) os) t') os' := fun t os => (spec_l12Ahead.calls y.f0 y.f1 y.f2 y.f3 y.f4 x.f0 x.f1 x.f2 x.f3 x.f4 t118 (grow (atD wr t) os) A5.out).mono fun _ _ h => ⟨h.1, grownX_of_below h.2⟩
       have g0' := cellX g0
       have g1' := cellX g1
       have g2' := cellX g2
       have g3' := cellX g3
       have g4' := cellX g4
       have y0' := cellX y0
       have y1' := cellX y1
       have y2' := cellX y2
       have y3' := cellX y3
       have y4' := cellX y4
       cases t118
       case true =>
        replace H := (if_pos (show true = true from rfl)).symm.trans H
        rw [HW.out] at H
        have HH := Qz.mk H
        clear H
        go_wp2
        refine wp_region_quietX (by assumption) (by kernel_rfl) ?_
        iterate 18 (with_reducible refine wpQuiet_want ?want_ (fun K hK => ?_); (case want_ => kernel_rfl); go_simp; (first | (with_reducible refine hK _ ?_; clear hK K) | (apply Exists.intro; refine ⟨fun _ => ?_, hK _ ?_⟩; (go_at_call 56; (with_reducible refine callsX_of (ha _ _))); clear hK K)))
        refine wpQuiet_nil ?_
        intro _ hw_
        obtain ⟨⟨tq, osq⟩, hw_⟩ := hw_
        subst hw_
        have HP2 := Qz.mk (HP.out.below (below_grow wr tq osq))
        have HM2 := Qz.mk (Kd.R_below HM.out (below_grow wr tq osq))
        generalize grow (atD wr tq) osq = W2 at HP2 HM2 ⊢
        clear ha g0 g1 g2 g3 g4 g0' g1' g2' g3' g4' y0 y1 y2 y3 y4 y0' y1' y2' y3' y4' A5 he0 ho0 he0' ho0' h0 h1 h2 h3 h4 HC
        go_wp2
        go_roundg k4
        case measure => exact Nat.lt_succ_self _
        case rel => exact ⟨j + 1, congrArg (Value.int .i64) (by first | rfl | exact HW.out | omega), HH, by omega, ⟨by have := HK2.out; omega⟩, HP2, HM2⟩
       replace H := (if_neg (show ¬ false = true by decide)).symm.trans H
       simp only [Option.bind_some] at H
       replace H := (ite_some H).2
       replace H := (ite_some H).2
       replace H := (ite_some H).2
       have q := (ite_some H).1
       replace H := (ite_some H).2
       have HL : Qz (m.length + 1 < 2513169434916) := ⟨lenA m _ j hjl q⟩
       have H2 : Qz (spec_Apply.l2 k4 ((i + 1 : Nat) : Int) l1_0 l1_1 a1_2 a1_3 a1_4 ([] ++ m.take j ++ [(⟨x.f0, x.f1, x.f2, x.f3, x.f4⟩ : S66)] ++ m.drop j) a1_2 a1_3 a1_4 = some (r1, r2, r3, r4, r5)) := ⟨by rw [← HXI.out]; exact H⟩
       clear H q
       go_wp2
       refine wp_region_quietX (by assumption) (by kernel_rfl) ?_
       iterate 18 (with_reducible refine wpQuiet_want ?want_ (fun K hK => ?_); (case want_ => kernel_rfl); go_simp; (first | (with_reducible refine hK _ ?_; clear hK K) | (apply Exists.intro; refine ⟨fun _ => ?_, hK _ ?_⟩; (go_at_call 56; (with_reducible refine callsX_of (ha _ _))); clear hK K)))
       clear ha g0 g1 g2 g3 g4 g0' g1' g2' g3' g4' y0 y1 y2 y3 y4 y0' y1' y2' y3' y4' A5 he0 ho0 he0' ho0'
      case' neg =>
       replace H := (if_neg cj).symm.trans H
       have cjb : decide ((j : Int) < (m.length : Int)) = false := decide_eq_false cj
       have cjn : decide (j < m.length) = false := decide_eq_false (fun h => cj (Int.ofNat_lt.2 h))
       simp only [Option.bind_some] at H
       replace H := (ite_some H).2
       replace H := (ite_some H).2
       replace H := (ite_some H).2
       replace H := (ite_some H).2
       replace H := (ite_some H).2
       replace H := (ite_some H).2
       have q := (ite_some H).1
       replace H := (ite_some H).2
       have HL : Qz (m.length + 1 < 2513169434916) := ⟨lenA m _ j hjl q⟩
       have H2 : Qz (spec_Apply.l2 k4 ((i + 1 : Nat) : Int) l1_0 l1_1 a1_2 a1_3 a1_4 ([] ++ m.take j ++ [(⟨x.f0, x.f1, x.f2, x.f3, x.f4⟩ : S66)] ++ m.drop j) a1_2 a1_3 a1_4 = some (r1, r2, r3, r4, r5)) := ⟨by rw [← HXI.out]; exact H⟩
       clear H q
       go_wp2
       refine wp_region_quietX (by assumption) (by kernel_rfl) ?_
       iterate 6 (with_reducible refine wpQuiet_want ?want_ (fun K hK => ?_); (case want_ => kernel_rfl); go_simp; with_reducible refine hK _ ?_; clear hK K)
       iterate 11 (with_reducible refine wpQuiet_skip ?skip_ (fun K hK => ?_); (case skip_ => kernel_rfl); go_simp; with_reducible refine hK _ ?_; clear hK K)
       (with_reducible refine wpQuiet_want ?want_ (fun K hK => ?_); (case want_ => kernel_rfl); go_simp; with_reducible refine hK _ ?_; clear hK K)
       clear he0 ho0 he0' ho0'
      all_goals
       refine wpQuiet_nil ?_
       intro _ hw_
       obtain ⟨⟨tq, osq⟩, hw_⟩ := hw_
       subst hw_
       have HP2 := Qz.mk (HP.out.below (below_grow wr tq osq))
       have HM2 := Qz.mk (Kd.R_below HM.out (below_grow wr tq osq))
       have HC2 := Qz.mk (Kd.C_below HC.out (below_grow wr tq osq))
       generalize grow (atD wr tq) osq = W2 at HP2 HM2 HC2 ⊢
       have HT := Qz.mk (show Kd.C k66 W2 _ j (m.take j) from by have hq := Kd.C_take HC2.out hjl; rw [List.length_take, Nat.min_eq_left hjl] at hq; exact hq)
       have hs0 := fun o => (qg (qa HP2.out.ho o) 0).trans rfl
       have hjc : (j : Int) ≤ (cf : Int) := by omega
       have hjm : (j : Int) ≤ (m.length : Int) := by omega
       rcases Classical.em (cf = j) with hcj | hcj
       all_goals (try (exfalso; omega))
       all_goals
        go_wp2_with (first
         | ((with_reducible refine gate_builtin (b := .append) (xs := #[.tmp 128, .tmp 132]) rfl ?_); at_builtin; refine Kd.R_append_rows k66 (w0 := W2) W2.heap.size rfl (.tmp 128) (.tmp 132) 30 66 (.agg #[.int .i64 0, .int .i64 0, .string ⟨#[]⟩, .string ⟨#[]⟩, .int .i64 0]) 56 rfl hu30 info66 rfl (by decide) (by omega) (.slice (some ⟨W2.heap.size, 0, none⟩) 0 0) [] (m.take j) _ _ _ (fun _ => True) (fun _ => False) rfl rfl ?aO ?aR (fun _ _ h => h) (fun _ h => h.elim) ?aF ?aB ?aS ?aL ?_; (case aO => exact R_emptyA _ _ W2 _ (Nat.le_refl _)); (case aR => exact Kd.C_below HT.out ((Below.refl _ W2).alloc (Nat.le_refl _) _)); (case aF => exact fun _ _ => trivial); (case aB => exact (Below.refl _ W2).alloc (Nat.le_refl _) _); (case aS => exact ((Below.refl _ W2).alloc (Nat.le_refl _) _).size); (case aL => have := HL.out; simp only [List.length_nil]; omega); intro v3 W3 ho3 hb3 hg3 hat3; have HR3 := Qz.mk ho3; have HB3 := Qz.mk hb3; have HP3 := Qz.mk (HP2.out.below hb3); clear ho3 hb3 hg3 hat3 hs0; have q0 := (qg HP3.out.he 0).trans rfl; have g0 := (HP3.out.hb.cell (World.block_lt_of_cell? w _ h0)).trans h0; have g1 := (HP3.out.hb.cell (World.block_lt_of_cell? w _ h1)).trans h1; have g2 := (HP3.out.hb.cell (World.block_lt_of_cell? w _ h2)).trans h2; have g3 := (HP3.out.hb.cell (World.block_lt_of_cell? w _ h3)).trans h3; have g4 := (HP3.out.hb.cell (World.block_lt_of_cell? w _ h4)).trans h4)
         | ((with_reducible refine gate_builtin (b := .append) (xs := #[.tmp 134, .tmp 140]) rfl ?_); at_builtin; refine Kd.R_append k66 (w0 := W2) W2.heap.size (by rfl) (.tmp 134) (.tmp 140) 30 66 (.agg #[.int .i64 0, .int .i64 0, .string ⟨#[]⟩, .string ⟨#[]⟩, .int .i64 0]) 56 (by rfl) hu30 info66 (by rfl) (by decide) (by omega) v3 ([] ++ m.take j) (⟨x.f0, x.f1, x.f2, x.f3, x.f4⟩) [.int .i64 x.f0, .int .i64 x.f1, .string x.f2, .string x.f3, .int .i64 x.f4] (fun _ => True) (fun _ => False) (by rfl) (by rfl) ?aP (fun _ hk => hk.elim) ?aF ?aO ?aB ?aS ?aL ?_; (case aP => exact k66_mkM _ _ _ (⟨x.f0, x.f1, x.f2, x.f3, x.f4⟩)); (case aF => exact fun _ _ => trivial); (case aO => exact HR3.out); (case aB => exact HB3.out); (case aS => exact HB3.out.size); (case aL => have := HL.out; simp only [List.nil_append, List.length_take]; omega); intro v4 W4 ho4 hb4 hg4 hat4; have HR4 := Qz.mk ho4; have HB4 := Qz.mk hb4; have HP4 := Qz.mk (HP2.out.below hb4); clear ho4 hb4 hg4 hat4 g0 g1 g2 g3 g4 q0; have hs0 := (qg HP4.out.ho 0).trans rfl)
         | ((with_reducible refine gate_builtin (b := .append) (xs := #[.tmp 142, .tmp 146]) rfl ?_); at_builtin; refine Kd.R_append_rows k66 (w0 := W2) W2.heap.size rfl (.tmp 142) (.tmp 146) 30 66 (.agg #[.int .i64 0, .int .i64 0, .string ⟨#[]⟩, .string ⟨#[]⟩, .int .i64 0]) 56 rfl hu30 info66 rfl (by decide) (by omega) v4 ([] ++ m.take j ++ [(⟨x.f0, x.f1, x.f2, x.f3, x.f4⟩ : S66)]) (m.drop j) _ _ _ (fun _ => True) (fun _ => False) rfl rfl ?aO ?aR (fun _ _ h => h) (fun _ h => h.elim) ?aF ?aB ?aS ?aL ?_; (case aO => exact HR4.out); (case aR => have hd := Kd.C_drop (c := cf) (Kd.C_below HC2.out HB4.out) hjl hmc; rw [List.length_drop] at hd; first | (rw [if_pos hcj] at hd; exact hd) | (rw [if_neg hcj] at hd; exact hd)); (case aF => exact fun _ _ => trivial); (case aB => exact HB4.out); (case aS => exact HB4.out.size); (case aL => have := HL.out; simp only [List.nil_append, List.length_append, List.length_take, List.length_cons, List.length_nil]; omega); intro v5 W5 ho5 hb5 hg5 hat5; obtain ⟨Ao, co, eo⟩ := Kd.R_slice ho5; subst eo; have hl5 : List.length ([] ++ m.take j ++ [(⟨x.f0, x.f1, x.f2, x.f3, x.f4⟩ : S66)] ++ m.drop j) = j + (m.length - j + 1) := (by simp only [List.nil_append, List.length_append, List.length_take, List.length_drop, List.length_cons, List.length_nil]; omega); rw [hl5] at ho5; have HR5 := Qz.mk ho5; have HP5 := Qz.mk (HP2.out.below hb5); have HB5 := Qz.mk hb5; clear ho5 hb5 hg5 hat5 hs0; have hs0 := (qg HP5.out.ho 0).trans rfl; have hs1 := qj HP5.out.ho 0))
        go_roundg k4
        case measure => have := HK2.out; omega
        case rel => exact ⟨i + 1, _, _, congrArg (Value.int .i64) (by first | rfl | exact HXI.out | omega), H2, by omega, ⟨by have := HK1.out; have := HK2.out; omega⟩, ⟨HP5.out.put _⟩, ⟨Kd.R_set (Kd.R_lower HR5.out HP2.out.hb.size) HP5.out.ho (by decide) 0 _⟩⟩
    ·rw [if_neg c] at H
     have cb : decide ((i : Int) < (l1_0.length : Int)) = false := decide_eq_false c
     replace H := Option.bind_eq_some_iff.mp H
     obtain ⟨t, A1_, H⟩ := H
     have A1 := Qz.mk A1_
     have HH := Qz.mk H
     clear A1_ H
     have ho1 := (qg HP.out.ho 1).trans rfl
     have ho2 := (qg HP.out.ho 2).trans rfl
     have ho3 := (qg HP.out.ho 3).trans rfl
     go_wp2_with fail
     (with_reducible refine (spec_VersionOk.calls k3 Af cf m a1_2 a1_3 a1_4 t wr HC.out hmc A1.out).mono ?_)
     rintro e w3 ⟨rfl, hb3⟩
     have HP3 := Qz.mk (HP.out.below hb3)
     have HM3 := Qz.mk (Kd.R_below HM.out hb3)
     clear hb3 HP HM HC he0 ho0 ho1 ho2 ho3 A1
     have ho0 := (qg HP3.out.ho 0).trans rfl
     have ho1 := (qg HP3.out.ho 1).trans rfl
     have ho2 := (qg HP3.out.ho 2).trans rfl
     have ho3 := (qg HP3.out.ho 3).trans rfl
     have hq0 := (qg HP3.out.hr 0).trans rfl
     have hq1 := (qg HP3.out.hr 1).trans rfl
     have hq2 := (qg HP3.out.hr 2).trans rfl
     have hq3 := (qg HP3.out.hr 3).trans rfl
     have hf0 := qj HP3.out.hr 0
     have hf1 := qj HP3.out.hr 1
     have hf2 := qj HP3.out.hr 2
     have hf3 := qj HP3.out.hr 3
     cases t with
     | false =>
      go_wp2
      exact HF.out _ (putA HP3.out.hr) (belowA HP3.out.hb (by omega)) _ rfl rfl (Option.some.inj HH.out).symm
     | true =>
      have hr := Option.some.inj HH.out
      simp only [Prod.mk.injEq] at hr
      obtain ⟨rfl, rfl, rfl, rfl, rfl⟩ := hr
      go_wp2
      refine bodyPost_ret (results_ct rfl _ _ (w.heap.size + 1 + 1) 32 _ (0, 0) _ rfl (putA HP3.out.hr) Try.underlying32 rfl (by kernel_rfl)) rfl ?_
      exact ⟨_, rfl, R_setA HM3.out HP3.out.hr (by decide), belowA HP3.out.hb (by omega)⟩
theorem yq84 {P : Prop} (h : P := by repeat (first | (with_reducible first | exact HI0.out | apply IsS123.alloc | apply IsS123.drewN | apply IsS123.drew | apply IsS123.set_1 | apply (fun h_ => IsS123.far h_ NB0_101.out _) | apply (fun h_ => IsS123.far h_ NB0_102.out _) | apply (fun h_ => IsS123.far h_ NB0_107.out _)) | exact HI0.out)) : P := h
theorem yq85 {P : Prop} (h : P := by repeat (first | (with_reducible first | exact HK.out | apply KeepBut.set_ | apply qn | apply qp | apply qo | refine qk ?_ GW101.out _ | refine qk ?_ GW102.out _ | refine qk ?_ GW107.out _) | exact HK.out)) : P := h
theorem yq86 {P : Prop} (h : P := by repeat (first | (with_reducible first | exact HB.out | apply qi | apply qd | apply qh | refine qe ?_ (IsS123.ge HI0.out) | refine qe ?_ GE101.out | refine qe ?_ GE102.out | refine qe ?_ GE107.out) | exact HB.out)) : P := h
theorem yq87 {P : Prop} (h : P := by (with_reducible repeat (first | refine qc ?_ _ | refine qf ?_ | refine qa ?_ _)); exact BK101.out) : P := h
theorem yq88 {P : Prop} (h : P := by (with_reducible repeat (first | refine qc ?_ _ | refine qf ?_ | refine qa ?_ _)); exact BK102.out) : P := h
theorem yq89 {P : Prop} (h : P := by (with_reducible repeat (first | refine qc ?_ _ | refine qf ?_ | refine qa ?_ _)); refine qw (cs := #[.int .i64 t120, .int .i64 t121, .string t122, .string t123, .int .i64 0]) ?_ 4 _ rfl; (with_reducible repeat (first | refine qc ?_ _ | refine qf ?_ | refine qa ?_ _)); refine qw (cs := #[.int .i64 t120, .int .i64 t121, .string t122, .string (⟨#[]⟩ : ByteArray), .int .i64 0]) ?_ 3 _ rfl; (with_reducible repeat (first | refine qc ?_ _ | refine qf ?_ | refine qa ?_ _)); refine qw (cs := #[.int .i64 t120, .int .i64 t121, .string (⟨#[]⟩ : ByteArray), .string (⟨#[]⟩ : ByteArray), .int .i64 0]) ?_ 2 _ rfl; (with_reducible repeat (first | refine qc ?_ _ | refine qf ?_ | refine qa ?_ _)); refine qw (cs := #[.int .i64 t120, .int .i64 0, .string (⟨#[]⟩ : ByteArray), .string (⟨#[]⟩ : ByteArray), .int .i64 0]) ?_ 1 _ rfl; (with_reducible repeat (first | refine qc ?_ _ | refine qf ?_ | refine qa ?_ _)); refine qw (cs := #[.int .i64 0, .int .i64 0, .string (⟨#[]⟩ : ByteArray), .string (⟨#[]⟩ : ByteArray), .int .i64 0]) ?_ 0 _ rfl; (with_reducible repeat (first | refine qc ?_ _ | refine qf ?_ | refine qa ?_ _)); exact BK126.out) : P := h
theorem yq90 {P : Prop} (h : P := by (with_reducible repeat (first | refine qc ?_ _ | refine qf ?_ | refine qa ?_ _)); exact BK107.out) : P := h
theorem yq91 {P : Prop} (h : P := by repeat (first | (with_reducible first | exact HK.out | apply KeepBut.set_ | apply qn | apply qp | apply qo | refine qk ?_ GW101.out _ | refine qk ?_ GW102.out _) | exact HK.out)) : P := h
theorem yq92 {P : Prop} (h : P := by repeat (first | (with_reducible first | exact HK.out | apply KeepBut.set_ | apply qn | apply qp | apply qo | refine qk ?_ GW101.out _ | refine qk ?_ GW102.out _ | refine qk ?_ GW107.out _ | refine qk ?_ GW126.out _) | exact HK.out)) : P := h
theorem yq93 {P : Prop} (h : P := by repeat (first | (with_reducible first | exact HI0.out | apply IsS123.alloc | apply IsS123.drewN | apply IsS123.drew | apply IsS123.set_1 | apply (fun h_ => IsS123.far h_ NB0_101.out _) | apply (fun h_ => IsS123.far h_ NB0_102.out _) | apply (fun h_ => IsS123.far h_ NB0_107.out _) | apply (fun h_ => IsS123.far h_ NB0_126.out _)) | exact HI0.out)) : P := h
theorem yq94 {P : Prop} (h : P := by (with_reducible repeat (first | refine qc ?_ _ | refine qf ?_ | refine qa ?_ _)); refine qx ?_ NB107_126.out _; (with_reducible repeat (first | refine qc ?_ _ | refine qf ?_ | refine qa ?_ _)); refine qx ?_ NB107_126.out _; (with_reducible repeat (first | refine qc ?_ _ | refine qf ?_ | refine qa ?_ _)); refine qx ?_ NB107_126.out _; (with_reducible repeat (first | refine qc ?_ _ | refine qf ?_ | refine qa ?_ _)); refine qx ?_ NB107_126.out _; (with_reducible repeat (first | refine qc ?_ _ | refine qf ?_ | refine qa ?_ _)); refine qx ?_ NB107_126.out _; (with_reducible repeat (first | refine qc ?_ _ | refine qf ?_ | refine qa ?_ _)); exact BK107.out) : P := h
theorem yq95 {P : Prop} (h : P := by (with_reducible repeat (first | refine qc ?_ _ | refine qf ?_ | refine qa ?_ _)); refine qx ?_ NB102_126.out _; (with_reducible repeat (first | refine qc ?_ _ | refine qf ?_ | refine qa ?_ _)); refine qx ?_ NB102_126.out _; (with_reducible repeat (first | refine qc ?_ _ | refine qf ?_ | refine qa ?_ _)); refine qx ?_ NB102_126.out _; (with_reducible repeat (first | refine qc ?_ _ | refine qf ?_ | refine qa ?_ _)); refine qx ?_ NB102_126.out _; (with_reducible repeat (first | refine qc ?_ _ | refine qf ?_ | refine qa ?_ _)); refine qx ?_ NB102_126.out _; (with_reducible repeat (first | refine qc ?_ _ | refine qf ?_ | refine qa ?_ _)); exact BK102.out) : P := h
theorem yq96 {P : Prop} (h : P := by (with_reducible repeat (first | refine qc ?_ _ | refine qf ?_ | refine qa ?_ _)); refine qx ?_ NB101_126.out _; (with_reducible repeat (first | refine qc ?_ _ | refine qf ?_ | refine qa ?_ _)); refine qx ?_ NB101_126.out _; (with_reducible repeat (first | refine qc ?_ _ | refine qf ?_ | refine qa ?_ _)); refine qx ?_ NB101_126.out _; (with_reducible repeat (first | refine qc ?_ _ | refine qf ?_ | refine qa ?_ _)); refine qx ?_ NB101_126.out _; (with_reducible repeat (first | refine qc ?_ _ | refine qf ?_ | refine qa ?_ _)); refine qx ?_ NB101_126.out _; (with_reducible repeat (first | refine qc ?_ _ | refine qf ?_ | refine qa ?_ _)); exact BK101.out) : P := h
theorem yq97 {P : Prop} (h : P := by (with_reducible repeat (first | apply Kd.R_alloc | apply Kd.R_drewN | apply Kd.R_drew)); exact HO_108001.out) : P := h
theorem yq98 {P : Prop} (h : P := by (with_reducible repeat (first | apply Kd.R_alloc | apply Kd.R_drewN | apply Kd.R_drew)); exact (Kd.R_mono (Kd.R_far (p := ⟨gb126, 4, none⟩) (Kd.R_far (p := ⟨gb126, 3, none⟩) (Kd.R_far (p := ⟨gb126, 2, none⟩) (Kd.R_far (p := ⟨gb126, 1, none⟩) (Kd.R_far (p := ⟨gb126, 0, none⟩) (Kd.R_mono HO_108000.out (fun k_ hk => (⟨hk, hk.2⟩ : _ ∧ k_ ≠ gb126))) (fun _ hk => hk.2) (.int .i64 t120)) (fun _ hk => hk.2) (.int .i64 t121)) (fun _ hk => hk.2) (.string t122)) (fun _ hk => hk.2) (.string t123)) (fun _ hk => hk.2) (.int .i64 t124)) (fun _ h_ => h_.1))) : P := h
theorem yq99 {P : Prop} (h : P := by (with_reducible repeat (first | apply Kd.R_alloc | apply Kd.R_drewN | apply Kd.R_drew)); exact HO_108000.out) : P := h
theorem yq100 {P : Prop} (h : P := by (with_reducible repeat (first | apply Kd.R_alloc | apply Kd.R_drewN | apply Kd.R_drew)); exact (Kd.R_mono (Kd.R_far (p := ⟨gb126, 4, none⟩) (Kd.R_far (p := ⟨gb126, 3, none⟩) (Kd.R_far (p := ⟨gb126, 2, none⟩) (Kd.R_far (p := ⟨gb126, 1, none⟩) (Kd.R_far (p := ⟨gb126, 0, none⟩) (Kd.R_types HO_108001.out BK126.out (by decide)) (fun _ hk => hk.2) (.int .i64 t120)) (fun _ hk => hk.2) (.int .i64 t121)) (fun _ hk => hk.2) (.string t122)) (fun _ hk => hk.2) (.string t123)) (fun _ hk => hk.2) (.int .i64 t124)) (fun _ h_ => h_.1))) : P := h
theorem yq101 {P : Prop} (h : P := by repeat (first | (with_reducible first | exact HI0.out | apply IsS123.alloc | apply IsS123.drewN | apply IsS123.drew | apply IsS123.set_1 | apply (fun h_ => IsS123.far h_ NB0_101.out _) | apply (fun h_ => IsS123.far h_ NB0_102.out _)) | exact HI0.out)) : P := h
theorem yq102 {P : Prop} (h : P := by (try simp only [List.map_toArray, List.map_cons, List.map_nil]); first | done | rfl) : P := h
theorem yq103 {P : Prop} (h : P := by repeat (first | (with_reducible first | exact HB.out | apply qi | apply qd | apply qh | refine qe ?_ (IsS123.ge HI0.out) | refine qe ?_ GE101.out | refine qe ?_ GE102.out | refine qe ?_ GE107.out | refine qe ?_ GE126.out) | exact HB.out)) : P := h
theorem yq104 {P : Prop} (h : P := by rw [hg]; exact Nat.ne_of_lt (qh1 (g := gb101) (o := .cells #[.slice A1_0 l1_0.length c1_0, .int .i64 a1_1, .int .i64 a1_2, .int .i64 a1_3] 32 (0, 0)) yq87)) : P := h
theorem yq105 {P : Prop} (h : P := by rw [hg]; exact Nat.ne_of_gt (qh1 (g := gb101) (o := .cells #[.slice A1_0 l1_0.length c1_0, .int .i64 a1_1, .int .i64 a1_2, .int .i64 a1_3] 32 (0, 0)) yq87)) : P := h
theorem yq106 {P : Prop} (h : P := by repeat (first | (with_reducible first | exact HB.out | apply qi | apply qd | apply qh | refine qe ?_ (IsS123.ge HI0.out) | refine qe ?_ GE101.out | refine qe ?_ GE102.out) | exact HB.out)) : P := h
theorem yq107 {P : Prop} (h : P := by rw [hg]; exact Nat.ne_of_lt (qh1 (g := gb102) (o := .cells #[.slice none 0 0, .slice none 0 0, .int .i64 0, .int .i64 0, .int .i64 0] 37 (0, 0)) yq88)) : P := h
theorem yq108 {P : Prop} (h : P := by rw [hg]; exact Nat.ne_of_gt (qh1 (g := gb102) (o := .cells #[.slice none 0 0, .slice none 0 0, .int .i64 0, .int .i64 0, .int .i64 0] 37 (0, 0)) yq88)) : P := h
theorem yq109 {P : Prop} (h : P := by rw [hg]; exact Nat.ne_of_lt (qh1 (g := gb107) (o := .cells #[u108000, u108001, .int .i64 (wrap64 (a1_1 + t103)), .int .i64 (wrap64 (a1_2 + t105)), .int .i64 x108004_5] 37 (0, 0)) yq90)) : P := h
theorem yq110 {P : Prop} (h : P := by rw [hg]; exact Nat.ne_of_gt (qh1 (g := gb107) (o := .cells #[u108000, u108001, .int .i64 (wrap64 (a1_1 + t103)), .int .i64 (wrap64 (a1_2 + t105)), .int .i64 x108004_5] 37 (0, 0)) yq90)) : P := h
theorem yq111 {P : Prop} (h : P := by first | (go_simp; done) | (go_simp; rfl)) : P := h
theorem yq112 {P : Prop} (h : P := by repeat (first | (with_reducible first | exact HK.out | apply KeepBut.set_ | apply qn | apply qp | apply qo | refine qk ?_ GW101.out _) | exact HK.out)) : P := h
theorem yq113 {P : Prop} (h : P := by (with_reducible repeat (first | refine qc ?_ _ | refine qf ?_ | refine qa ?_ _)); refine qw (cs := #[.int .i64 t120, .int .i64 t121, .string t122, .string t123, .int .i64 t124]) ?_ 0 _ rfl; (with_reducible repeat (first | refine qc ?_ _ | refine qf ?_ | refine qa ?_ _)); exact BK126.out) : P := h
theorem yq114 {P : Prop} (h : P := by rw [hg]; exact (qi1 (w := w) (g := g) (row := none) yq91)) : P := h
theorem yq115 {P : Prop} (h : P := by rw [hg]; exact (qi1 (w := w) (g := g) (row := none) yq85)) : P := h
theorem yq116 {P : Prop} (h : P := by repeat (first | (with_reducible first | exact HK.out | apply KeepBut.set_ | apply qn | apply qp | apply qo) | exact HK.out)) : P := h
theorem yq117 {P : Prop} (h : P := by first | rfl | (simp; done) | (simp [*]; done)) : P := h
mutual
def spec_l1Rd_edit.j0 : Nat → List Int → Int → List (S66) → Int → Int → Int → Int → Int → Int → Option ((List (S66)) × List Int × Int × Int × Int × Int)
 | 0, _, _, _, _, _, _, _, _, _ => none
 | k + 1, x1000, x1001, x102000, x102001, x102002, x102003, x108002, x108003, x108004 => if (x102000.length : Int) > 0 then ((spec_l1Rd_once.f x1000 x1001 2).bind fun bt110 => (spec_l1Rd_edit.j1 k bt110.1 x1000 bt110.2 x102000 x102001 x102002 x102003 x108002 x108003 x108004)) else (spec_l1Rd_edit.j1 k false x1000 x1001 x102000 x102001 x102002 x102003 x108002 x108003 x108004)
def spec_l1Rd_edit.j1 : Nat → Bool → List Int → Int → List (S66) → Int → Int → Int → Int → Int → Int → Option ((List (S66)) × List Int × Int × Int × Int × Int)
 | 0, _, _, _, _, _, _, _, _, _, _ => none
 | k + 1, x34, x1000, x1001, x102000, x102001, x102002, x102003, x108002, x108003, x108004 => if x34 = true then ((spec_l1Rd_below.f x1000 x1001 (x102000.length : Int)).bind fun bt112 => (if 0 ≤ bt112.1 then (if bt112.1 < (x102000.length : Int) then (if ([] : List Int).length < 17592186044416 then (spec_l1Rd_edit.j2 k x1000 bt112.2 (([] : List Int) ++ [(qv x102000 bt112.1).f0]) x108002 x108003 x108004) else (none)) else (none)) else (none))) else (spec_l1Rd_edit.j2 k x1000 x1001 ([] : List Int) x108002 x108003 x108004)
def spec_l1Rd_edit.j2 : Nat → List Int → Int → List Int → Int → Int → Int → Option ((List (S66)) × List Int × Int × Int × Int × Int)
 | 0, _, _, _, _, _, _ => none
 | k + 1, x1000, x1001, x108001, x108002, x108003, x108004 => (spec_l1Rd_below.f x1000 x1001 3).bind fun bt118 => (spec_l1Rd_edit.l0 k bt118.1 x1000 bt118.2 ([] : List (S66)) x108001 x108002 x108003 x108004)
def spec_l1Rd_edit.l0 : Nat → Int → List Int → Int → List (S66) → List Int → Int → Int → Int → Option ((List (S66)) × List Int × Int × Int × Int × Int)
 | 0, _, _, _, _, _, _, _, _ => none
 | k + 1, x6, x1000, x1001, x108000, x108001, x108002, x108003, x108004 => if x6 > 0 then ((spec_l1Rd_meta.f k x1000 x1001).bind fun bt120 => (if x108002 > 1 then ((spec_l1Rd_once.f x1000 bt120.2.2.2.2.2 4).bind fun bt127 => (if bt127.1 = true then (if x108000.length < 2513169434916 then (spec_l1Rd_edit.l0 k (wrap64 (x6 - 1)) x1000 bt127.2 (x108000 ++ [(⟨bt120.1, bt120.2.1, bt120.2.2.1, bt120.2.2.2.1, bt120.2.2.2.2.1⟩ : S66)]) x108001 x108002 x108003 x108004) else (none)) else (if x108000.length < 2513169434916 then (spec_l1Rd_edit.l0 k (wrap64 (x6 - 1)) x1000 bt127.2 (x108000 ++ [(⟨wrap64 (x108002 - x6), bt120.2.1, bt120.2.2.1, bt120.2.2.2.1, bt120.2.2.2.2.1⟩ : S66)]) x108001 x108002 x108003 x108004) else (none)))) else (if x108000.length < 2513169434916 then (spec_l1Rd_edit.l0 k (wrap64 (x6 - 1)) x1000 bt120.2.2.2.2.2 (x108000 ++ [(⟨bt120.1, bt120.2.1, bt120.2.2.1, bt120.2.2.2.1, bt120.2.2.2.2.1⟩ : S66)]) x108001 x108002 x108003 x108004) else (none)))) else ((spec_l1Rd_once.f x1000 x1001 20).bind fun bt138 => (if bt138.1 = true then ((spec_l1Rd_off.f k x1000 bt138.2 1 9).bind fun bt140 => (if x108001.length < 17592186044416 then (some (x108000, (x108001 ++ [bt140.1]), x108002, x108003, x108004, bt140.2)) else (none))) else (some (x108000, x108001, x108002, x108003, x108004, bt138.2))))
end
def spec_l1Rd_edit.f (k : Nat) (s0_0 : List Int) (s0_1 : Int) (l1_0 : List (S66)) (a1_1 : Int) (a1_2 : Int) (a1_3 : Int) : Option ((List (S66)) × List Int × Int × Int × Int × Int) := (spec_l1Rd_below.f s0_0 s0_1 4).bind fun bt103 => ((spec_l1Rd_below.f s0_0 bt103.2 9).bind fun bt105 => ((spec_l1Rd_once.f s0_0 bt105.2 3).bind fun bt108 => (if bt108.1 = true then (spec_l1Rd_edit.j0 k s0_0 bt108.2 l1_0 a1_1 a1_2 a1_3 (wrap64 (a1_1 + bt103.1)) (wrap64 (a1_2 + bt105.1)) (wrap64 ((wrap64 (a1_1 + bt103.1)) - 1))) else (spec_l1Rd_edit.j0 k s0_0 bt108.2 l1_0 a1_1 a1_2 a1_3 (wrap64 (a1_1 + bt103.1)) (wrap64 (a1_2 + bt105.1)) a1_3))))
def spec_l1Rd_edit.T1 : Bool × List (List Nat × List Nat) := (true, [([], []), ([0], [0]), ([], []), ([2], [2]), ([1, 3], [1, 3]), ([], []), ([5], [5]), ([], []), ([7, 3], [7]), ([6, 8], [6, 8]), ([], []), ([10], [10]), ([4, 9, 11], [4, 9, 11]), ([], []), ([13, 12, 8, 0, 1, 2, 3, 4, 5, 6, 7, 8, 9, 10, 11, 12, 13], [12, 13])])
def spec_l1Rd_edit.B1 : List Nat := [0, 1, 0, 4, 15, 0, 32, 0, 140, 492, 0, 1024, 4095, 0, 16383]
theorem spec_l1Rd_edit.tab1 : rtab .any (opsOf Try.f88 1) = spec_l1Rd_edit.T1 := by kernel_rfl
theorem spec_l1Rd_edit.bits1 : waitsOk spec_l1Rd_edit.T1.2 spec_l1Rd_edit.B1 = true := by kernel_rfl
def spec_l1Rd_edit.T5 : Bool × List (List Nat × List Nat) := (true, [([], []), ([0], [0]), ([], []), ([2], [2]), ([], []), ([], []), ([5], [5]), ([6], [6]), ([4, 7], [4, 7]), ([3, 8], [3, 8]), ([9], [9]), ([10], [10]), ([11], [11]), ([1, 12, 8], [1, 12]), ([0, 1, 2, 3, 4, 5, 6, 7, 8, 9, 10, 11, 12, 13], []), ([14, 13, 13, 0, 1, 2, 3, 4, 5, 6, 7, 8, 9, 10, 11, 12, 13], [13, 14])])
def spec_l1Rd_edit.B5 : List Nat := [0, 1, 0, 4, 0, 0, 32, 96, 240, 508, 1020, 2044, 4092, 8191, 16383, 32767]
theorem spec_l1Rd_edit.tab5 : rtab .any (opsOf Try.f88 5) = spec_l1Rd_edit.T5 := by kernel_rfl
theorem spec_l1Rd_edit.bits5 : waitsOk spec_l1Rd_edit.T5.2 spec_l1Rd_edit.B5 = true := by kernel_rfl
def spec_l1Rd_edit.T14 : Bool × List (List Nat × List Nat) := (true, [([], []), ([0], [0]), ([], []), ([2], [2]), ([3], [3]), ([1, 4, 3], [1, 4]), ([0, 1, 2, 3, 4, 5], []), ([6, 5, 5, 0, 1, 2, 3, 4, 5], [5, 6])])
def spec_l1Rd_edit.B14 : List Nat := [0, 1, 0, 4, 12, 31, 63, 127]
theorem spec_l1Rd_edit.tab14 : rtab .any (opsOf Try.f88 14) = spec_l1Rd_edit.T14 := by kernel_rfl
theorem spec_l1Rd_edit.bits14 : waitsOk spec_l1Rd_edit.T14.2 spec_l1Rd_edit.B14 = true := by kernel_rfl
set_option maxHeartbeats 8000000 in
set_option maxRecDepth 100000 in
theorem spec_l1Rd_edit.calls (k : Nat) (g : Nat) (s0_0 : List Int) (s0_1 : Int) (A1_0 : Option Addr) (c1_0 : Nat) (l1_0 : List (S66)) (a1_1 : Int) (a1_2 : Int) (a1_3 : Int) (r1 : List (S66)) (r2 : List Int) (r3 : Int) (r4 : Int) (r5 : Int) (r6 : Int) (w0 w : World) (hI : IsS123 w0 w g s0_0 s0_1) (hB : Below w0.heap.size w0 w) (hr1_0 : ∀ W_, KeepBut w W_ g none → Kd.C k66 W_ A1_0 l1_0.length l1_0) (hc1_0 : l1_0.length ≤ c1_0) (h : spec_l1Rd_edit.f k s0_0 s0_1 l1_0 a1_1 a1_2 a1_3 = some (r1, r2, r3, r4, r5, r6)) :
  Calls Try.prog 88 #[.pointer (some ⟨g, 0, none⟩), .agg #[.slice A1_0 l1_0.length c1_0, .int .i64 a1_1, .int .i64 a1_2, .int .i64 a1_3]] w fun e w' => ∃ v0_ v1_ : Value, e = .returned (.agg #[v0_, v1_, .int .i64 r3, .int .i64 r4, .int .i64 r5]) ∧ Kd.R k66 66 w' w.heap.size (fun _ => True) v0_ r1 ∧ Kd.R (Kd.int .i64) 2 w' w.heap.size (fun _ => True) v1_ r2 ∧ IsS123 w0 w' g s0_0 r6 ∧ Below w0.heap.size w0 w' ∧ KeepBut w w' g none := by
 have hu32 := Try.underlying32
 have hu37 := Try.underlying37
 have hu66 := Try.underlying66
 have HR1_0 := Qz.mk hr1_0
 have HC1_0 := Qz.mk hc1_0
 clear hr1_0 hc1_0
 have HI0 := Qz.mk hI
 have HK := Qz.mk (KeepBut.refl w g none)
 have HL := Qz.mk hB.size
 clear hI
 have HW0 := Qz.mk hB.size
 have HB := Qz.mk hB
 clear hB
 have H : ((spec_l1Rd_below.f s0_0 s0_1 4).bind fun bt103 => ((spec_l1Rd_below.f s0_0 bt103.2 9).bind fun bt105 => ((spec_l1Rd_once.f s0_0 bt105.2 3).bind fun bt108 => (if bt108.1 = true then (spec_l1Rd_edit.j0 k s0_0 bt108.2 l1_0 a1_1 a1_2 a1_3 (wrap64 (a1_1 + bt103.1)) (wrap64 (a1_2 + bt105.1)) (wrap64 ((wrap64 (a1_1 + bt103.1)) - 1))) else (spec_l1Rd_edit.j0 k s0_0 bt108.2 l1_0 a1_1 a1_2 a1_3 (wrap64 (a1_1 + bt103.1)) (wrap64 (a1_2 + bt105.1)) a1_3))))) = some (r1, r2, r3, r4, r5, r6) := h
 clear h
 replace H := Option.bind_eq_some_iff.mp H
 obtain ⟨⟨t103, t104⟩, A30, H⟩ := H
 replace H : ((spec_l1Rd_below.f s0_0 t104 9).bind fun bt105 => ((spec_l1Rd_once.f s0_0 bt105.2 3).bind fun bt108 => (if bt108.1 = true then (spec_l1Rd_edit.j0 k s0_0 bt108.2 l1_0 a1_1 a1_2 a1_3 (wrap64 (a1_1 + t103)) (wrap64 (a1_2 + bt105.1)) (wrap64 ((wrap64 (a1_1 + t103)) - 1))) else (spec_l1Rd_edit.j0 k s0_0 bt108.2 l1_0 a1_1 a1_2 a1_3 (wrap64 (a1_1 + t103)) (wrap64 (a1_2 + bt105.1)) a1_3)))) = some (r1, r2, r3, r4, r5, r6) := H
 have A3 := Qz.mk A30
 clear A30
 replace H := Option.bind_eq_some_iff.mp H
 obtain ⟨⟨t105, t106⟩, A40, H⟩ := H
 replace H : ((spec_l1Rd_once.f s0_0 t106 3).bind fun bt108 => (if bt108.1 = true then (spec_l1Rd_edit.j0 k s0_0 bt108.2 l1_0 a1_1 a1_2 a1_3 (wrap64 (a1_1 + t103)) (wrap64 (a1_2 + t105)) (wrap64 ((wrap64 (a1_1 + t103)) - 1))) else (spec_l1Rd_edit.j0 k s0_0 bt108.2 l1_0 a1_1 a1_2 a1_3 (wrap64 (a1_1 + t103)) (wrap64 (a1_2 + t105)) a1_3))) = some (r1, r2, r3, r4, r5, r6) := H
 have A4 := Qz.mk A40
 clear A40
 replace H := Option.bind_eq_some_iff.mp H
 obtain ⟨⟨t108, t109⟩, A50, H⟩ := H
 replace H : (if t108 = true then (spec_l1Rd_edit.j0 k s0_0 t109 l1_0 a1_1 a1_2 a1_3 (wrap64 (a1_1 + t103)) (wrap64 (a1_2 + t105)) (wrap64 ((wrap64 (a1_1 + t103)) - 1))) else (spec_l1Rd_edit.j0 k s0_0 t109 l1_0 a1_1 a1_2 a1_3 (wrap64 (a1_1 + t103)) (wrap64 (a1_2 + t105)) a1_3)) = some (r1, r2, r3, r4, r5, r6) := H
 have A5 := Qz.mk A50
 clear A50
 have HC6 := Qz.mk H
 clear H
 go_enter Try.func88, Try.ntmps88
 try go_wp2_with (first | ((with_reducible refine gate_dst (N := 3) rfl ?_); refine box_event ?hg (N := 3) ?hd (cs := #[.slice A1_0 l1_0.length c1_0, .int .i64 a1_1, .int .i64 a1_2, .int .i64 a1_3]) (t := 32) ?hr ?_; (case hd => rfl); (case hg => rfl); (case hr => exact yq111); intro gb101 hg w7 hbox hb; replace HB := Qz.mk (qq (by repeat (first | (with_reducible first | exact HB.out | apply qi | apply qd | apply qh | refine qe ?_ (IsS123.ge HI0.out)) | exact HB.out)) hb); have BK101 := Qz.mk (hbox); have GW101 := Qz.mk ((by rw [hg]; exact (qi1 (w := w) (g := g) (row := none) yq116) : w.heap.size ≤ gb101)); have GE101 := Qz.mk ((Nat.le_trans HW0.out (by rw [hg]; exact (qi1 (w := w) (g := g) (row := none) yq116) : w.heap.size ≤ gb101) : w0.heap.size ≤ gb101)); replace HK := Qz.mk (KeepBut.trans yq116 (KeepBut.of_below hb g none) (.inl rfl)); have NB0_101 := Qz.mk ((by rw [hg]; exact Nat.ne_of_lt (IsS123.lt (show IsS123 w0 _ g s0_0 s0_1 from by repeat (first | (with_reducible first | exact HI0.out | apply IsS123.alloc | apply IsS123.drewN | apply IsS123.drew | apply IsS123.set_1) | exact HI0.out))) : g ≠ gb101)); have NB101_0 := Qz.mk ((by rw [hg]; exact Nat.ne_of_gt (IsS123.lt (show IsS123 w0 _ g s0_0 s0_1 from by repeat (first | (with_reducible first | exact HI0.out | apply IsS123.alloc | apply IsS123.drewN | apply IsS123.drew | apply IsS123.set_1) | exact HI0.out))) : gb101 ≠ g)); replace HI0 := Qz.mk (IsS123.below (by repeat (first | (with_reducible first | exact HI0.out | apply IsS123.alloc | apply IsS123.drewN | apply IsS123.drew | apply IsS123.set_1) | exact HI0.out)) hb); clear hb hbox hg) | ((with_reducible refine gate_dst (N := 4) rfl ?_); refine box_event ?hg (N := 4) ?hd (cs := #[.slice none 0 0, .slice none 0 0, .int .i64 0, .int .i64 0, .int .i64 0]) (t := 37) ?hr ?_; (case hd => rfl); (case hg => rfl); (case hr => exact yq111); intro gb102 hg w8 hbox hb; replace HB := Qz.mk (qq (by repeat (first | (with_reducible first | exact HB.out | apply qi | apply qd | apply qh | refine qe ?_ (IsS123.ge HI0.out) | refine qe ?_ GE101.out) | exact HB.out)) hb); have BK102 := Qz.mk (hbox); have GW102 := Qz.mk ((by rw [hg]; exact (qi1 (w := w) (g := g) (row := none) yq112) : w.heap.size ≤ gb102)); have GE102 := Qz.mk ((Nat.le_trans HW0.out (by rw [hg]; exact (qi1 (w := w) (g := g) (row := none) yq112) : w.heap.size ≤ gb102) : w0.heap.size ≤ gb102)); replace HK := Qz.mk (KeepBut.trans yq112 (KeepBut.of_below hb g none) (.inl rfl)); have NB101_102 := Qz.mk ((yq104 : gb101 ≠ gb102)); have NB102_101 := Qz.mk ((yq105 : gb102 ≠ gb101)); replace BK101 := Qz.mk (qu (g := gb101) (o := .cells #[.slice A1_0 l1_0.length c1_0, .int .i64 a1_1, .int .i64 a1_2, .int .i64 a1_3] 32 (0, 0)) yq87 hb); have NB0_102 := Qz.mk ((by rw [hg]; exact Nat.ne_of_lt (IsS123.lt (show IsS123 w0 _ g s0_0 s0_1 from by repeat (first | (with_reducible first | exact HI0.out | apply IsS123.alloc | apply IsS123.drewN | apply IsS123.drew | apply IsS123.set_1 | apply (fun h_ => IsS123.far h_ NB0_101.out _)) | exact HI0.out))) : g ≠ gb102)); have NB102_0 := Qz.mk ((by rw [hg]; exact Nat.ne_of_gt (IsS123.lt (show IsS123 w0 _ g s0_0 s0_1 from by repeat (first | (with_reducible first | exact HI0.out | apply IsS123.alloc | apply IsS123.drewN | apply IsS123.drew | apply IsS123.set_1 | apply (fun h_ => IsS123.far h_ NB0_101.out _)) | exact HI0.out))) : gb102 ≠ g)); replace HI0 := Qz.mk (IsS123.below (by repeat (first | (with_reducible first | exact HI0.out | apply IsS123.alloc | apply IsS123.drewN | apply IsS123.drew | apply IsS123.set_1 | apply (fun h_ => IsS123.far h_ NB0_101.out _)) | exact HI0.out)) hb); clear hb hbox hg))
 replace BK101 := Qz.mk (qf BK101.out)
 replace BK102 := Qz.mk (qf BK102.out)
 replace HI0 := Qz.mk (IsS123.drew HI0.out)
 replace HK := Qz.mk (qp HK.out)
 replace HB := Qz.mk (qh HB.out)
 refine start_ (n := 15) (S := fun w' => w'.cell? ⟨gb101, 0, none⟩ = some (.slice A1_0 l1_0.length c1_0) ∧ w'.cell? ⟨gb101, 1, none⟩ = some (.int .i64 a1_1) ∧ w'.cell? ⟨gb101, 2, none⟩ = some (.int .i64 a1_2) ∧ w'.cell? ⟨gb101, 3, none⟩ = some (.int .i64 a1_3)) (ds := []) #[false, false, false, false, false, false, false, false, false, false, false, false, false, false, false] (by kernel_rfl) rfl rfl ⟨(qg BK101.out 0).trans rfl, (qg BK101.out 1).trans rfl, (qg BK101.out 2).trans rfl, (qg BK101.out 3).trans rfl⟩ (fun hHeld => ?_); refine with_tabW spec_l1Rd_edit.tab1 spec_l1Rd_edit.bits1 (fun HT_ HW_ => ?_)
 generalize w8.drew = w9 at BK101 BK102 HI0 HK HB hHeld ⊢
 refine pure_ (i := 0) (N := some 8) (v := ?_) (a' := ?_) #[true, false, false, false, false, false, false, false, false, false, false, false, false, false, false] rfl rfl (qg1 HT_.out (by kernel_rfl)) (fun _ _ _ h => h) (Or.inl ⟨by rfl, ?_⟩) ?_ ?_
 rotate_left
 ·intro w'
  go_simp
  with_reducible rfl
 rotate_left
 ·simp only [Act.put, sq1, sq2, sq3, i64_w, i32_w]
  rfl
 refine pure_ (i := 2) (N := some 10) (v := ?_) (a' := ?_) #[true, false, true, false, false, false, false, false, false, false, false, false, false, false, false] rfl rfl (qg1 HT_.out (by kernel_rfl)) (fun _ _ _ h => h) (Or.inl ⟨by rfl, ?_⟩) ?_ ?_
 rotate_left
 ·intro w'
  go_simp
  with_reducible rfl
 rotate_left
 ·simp only [Act.put, sq1, sq2, sq3, i64_w, i32_w]
  rfl
 refine pure_ (i := 5) (N := some 13) (v := ?_) (a' := ?_) #[true, false, true, false, false, true, false, false, false, false, false, false, false, false, false] rfl rfl (qg1 HT_.out (by kernel_rfl)) (fun _ _ _ h => h) (Or.inl ⟨by rfl, ?_⟩) ?_ ?_
 rotate_left
 ·intro w'
  go_simp
  with_reducible rfl
 rotate_left
 ·simp only [Act.put, sq1, sq2, sq3, i64_w, i32_w]
  rfl
 refine pure_ (i := 7) (N := some 15) (v := ?_) (a' := ?_) #[true, false, true, false, false, true, false, true, false, false, false, false, false, false, false] rfl rfl (qg1 HT_.out (by kernel_rfl)) (fun _ _ _ h => h) (Or.inl ⟨by rfl, ?_⟩) ?_ ?_
 rotate_left
 ·intro w'
  go_simp
  with_reducible rfl
 rotate_left
 ·simp only [Act.put, sq1, sq2, sq3, i64_w, i32_w]
  rfl
 refine pure_ (i := 10) (N := some 18) (v := ?_) (a' := ?_) #[true, false, true, false, false, true, false, true, false, false, true, false, false, false, false] rfl rfl (qg1 HT_.out (by kernel_rfl)) (fun _ _ _ h => h) (Or.inl ⟨by rfl, ?_⟩) ?_ ?_
 rotate_left
 ·intro w'
  go_simp
  with_reducible rfl
 rotate_left
 ·simp only [Act.put, sq1, sq2, sq3, i64_w, i32_w]
  rfl
 refine take_ (i := 1) (N := some 9) (v := ?_) (a' := ?_) #[true, true, true, false, false, true, false, true, false, false, true, false, false, false, false] rfl rfl (take_ofW HT_.out HW_.out (by kernel_rfl)) (fun _ _ _ h => h) (Or.inl ⟨by rfl, ?_⟩) hHeld ?_ ?_
 rotate_left
 ·rintro w' ⟨s0, s1, s2, s3⟩
  go_simp
  with_reducible rfl
 rotate_left
 ·simp only [Act.put, sq1, sq2, sq3, i64_w, i32_w]
  rfl
 refine take_ (i := 6) (N := some 14) (v := ?_) (a' := ?_) #[true, true, true, false, false, true, true, true, false, false, true, false, false, false, false] rfl rfl (take_ofW HT_.out HW_.out (by kernel_rfl)) (fun _ _ _ h => h) (Or.inl ⟨by rfl, ?_⟩) hHeld ?_ ?_
 rotate_left
 ·rintro w' ⟨s0, s1, s2, s3⟩
  go_simp
  with_reducible rfl
 rotate_left
 ·simp only [Act.put, sq1, sq2, sq3, i64_w, i32_w]
  rfl
 refine take_ (i := 11) (N := some 19) (v := ?_) (a' := ?_) #[true, true, true, false, false, true, true, true, false, false, true, true, false, false, false] rfl rfl (take_ofW HT_.out HW_.out (by kernel_rfl)) (fun _ _ _ h => h) (Or.inl ⟨by rfl, ?_⟩) hHeld ?_ ?_
 rotate_left
 ·rintro w' ⟨s0, s1, s2, s3⟩
  go_simp
  with_reducible rfl
 rotate_left
 ·simp only [Act.put, sq1, sq2, sq3, i64_w, i32_w]
  rfl
 refine join_ (σ := Nat) 1 bq30 (fun s_ => [(11, .int .i64 t103), (16, .int .i64 t105), (5, .pointer (some ⟨s_, 0, none⟩)), (12, .int .i64 (wrap64 (a1_1 + t103))), (17, .int .i64 (wrap64 (a1_2 + t105))), (20, .agg #[.slice none 0 0, .slice none 0 0, .int .i64 (wrap64 (a1_1 + t103)), .int .i64 (wrap64 (a1_2 + t105)), .int .i64 a1_3])]) (fun s_ w' => (w'.cell? ⟨gb101, 0, none⟩ = some (.slice A1_0 l1_0.length c1_0) ∧ w'.cell? ⟨gb101, 1, none⟩ = some (.int .i64 a1_1) ∧ w'.cell? ⟨gb101, 2, none⟩ = some (.int .i64 a1_2) ∧ w'.cell? ⟨gb101, 3, none⟩ = some (.int .i64 a1_3)) ∧ (w'.heap[gb101]? = some (.cells #[.slice A1_0 l1_0.length c1_0, .int .i64 a1_1, .int .i64 a1_2, .int .i64 a1_3] 32 (0, 0))) ∧ (w'.heap[gb102]? = some (.cells #[.slice none 0 0, .slice none 0 0, .int .i64 0, .int .i64 0, .int .i64 0] 37 (0, 0))) ∧ (w'.heap[s_]? = some (.cells #[.slice none 0 0, .slice none 0 0, .int .i64 0, .int .i64 0, .int .i64 0] 37 (0, 0))) ∧ (w.heap.size ≤ s_) ∧ (w0.heap.size ≤ s_) ∧ (g ≠ s_) ∧ (s_ ≠ g) ∧ (gb101 ≠ s_) ∧ (s_ ≠ gb101) ∧ (gb102 ≠ s_) ∧ (s_ ≠ gb102) ∧ (IsS123 w0 w' g s0_0 t106) ∧ (KeepBut w w' g none) ∧ (Below w0.heap.size w0 w')) ?_ ?_
 rotate_left
 ·intro hCont
  refine two_ (i := 3) (j := 13) (Ni := some 11) (Nj := some 5) #[true, true, true, true, false, true, true, true, false, false, true, true, false, false, false] #[true, true, true, false, false, true, true, true, false, false, true, true, false, true, false] rfl rfl rfl rfl (two_of HT_.out (by kernel_rfl)) (by decide) (by decide) (fun K hK => ?_) (fun K hK => ?_)
  ·skip
   refine goes_ Try.func80 (by kernel_rfl) rfl #[.pointer (some ⟨g, 0, none⟩), .int .i64 4] (by rfl) rfl rfl yq102 ?_
   with_reducible refine (spec_l1Rd_below.calls g s0_0 s0_1 4 t103 t104 w0 _ ?side1 ?side2 A3.out).mono ?_
   (case side1 => exact yq101)
   (case side2 => exact yq106)
   rintro e w10 ⟨rfl, hi, hb, hk⟩
   refine ⟨_, rfl, ?_⟩
   replace BK101 := Qz.mk (KeepBut.blk hk (g' := gb101) (o := .cells #[.slice A1_0 l1_0.length c1_0, .int .i64 a1_1, .int .i64 a1_2, .int .i64 a1_3] 32 (0, 0)) yq87 NB101_0.out (by simp))
   replace BK102 := Qz.mk (KeepBut.blk hk (g' := gb102) (o := .cells #[.slice none 0 0, .slice none 0 0, .int .i64 0, .int .i64 0, .int .i64 0] 37 (0, 0)) yq88 NB102_0.out (by simp))
   replace HK := Qz.mk (KeepBut.trans yq91 hk (.inl rfl))
   replace HB := Qz.mk (hb)
   replace HI0 := Qz.mk (hi)
   (try clear hb)
   (try clear hk)
   (try clear hi)
   refine hK.out _ _ ⟨(qg BK101.out 0).trans rfl, (qg BK101.out 1).trans rfl, (qg BK101.out 2).trans rfl, (qg BK101.out 3).trans rfl⟩ (fun hHeld => ?_)
   clear hK K
   refine norm_ (a' := ?_) ?_ ?_
   rotate_left
   ·show Act.put _ (some 11) _ = _
    simp only [Act.put, sq1, sq2, sq3, i64_w, i32_w]
    rfl
   refine pure_ (i := 4) (N := some 12) (v := ?_) (a' := ?_) #[true, true, true, true, true, true, true, true, false, false, true, true, false, false, false] rfl rfl (qg1 HT_.out (by kernel_rfl)) (fun _ _ _ h => h) (Or.inl ⟨by rfl, ?_⟩) ?_ ?_
   rotate_left
   ·intro w'
    go_simp
    with_reducible rfl
   rotate_left
   ·simp only [Act.put, sq1, sq2, sq3, i64_w, i32_w]
    rfl
   refine two_ (i := 8) (j := 13) (Ni := some 16) (Nj := some 5) #[true, true, true, true, true, true, true, true, true, false, true, true, false, false, false] bq24 rfl rfl rfl rfl (two_of HT_.out (by kernel_rfl)) (by decide) (by decide) (fun K hK => ?_) (fun K hK => ?_)
   ·skip
    refine goes_ Try.func80 (by kernel_rfl) rfl #[.pointer (some ⟨g, 0, none⟩), .int .i64 9] (by rfl) rfl rfl yq102 ?_
    with_reducible refine (spec_l1Rd_below.calls g s0_0 t104 9 t105 t106 w0 _ ?side1 ?side2 A4.out).mono ?_
    (case side1 => exact yq101)
    (case side2 => exact yq106)
    rintro e w11 ⟨rfl, hi, hb, hk⟩
    refine ⟨_, rfl, ?_⟩
    replace BK101 := Qz.mk (KeepBut.blk hk (g' := gb101) (o := .cells #[.slice A1_0 l1_0.length c1_0, .int .i64 a1_1, .int .i64 a1_2, .int .i64 a1_3] 32 (0, 0)) yq87 NB101_0.out (by simp))
    replace BK102 := Qz.mk (KeepBut.blk hk (g' := gb102) (o := .cells #[.slice none 0 0, .slice none 0 0, .int .i64 0, .int .i64 0, .int .i64 0] 37 (0, 0)) yq88 NB102_0.out (by simp))
    replace HK := Qz.mk (KeepBut.trans yq91 hk (.inl rfl))
    replace HB := Qz.mk (hb)
    replace HI0 := Qz.mk (hi)
    (try clear hb)
    (try clear hk)
    (try clear hi)
    refine hK.out _ _ ⟨(qg BK101.out 0).trans rfl, (qg BK101.out 1).trans rfl, (qg BK101.out 2).trans rfl, (qg BK101.out 3).trans rfl⟩ (fun hHeld => ?_)
    clear hK K
    refine norm_ (a' := ?_) ?_ ?_
    rotate_left
    ·show Act.put _ (some 16) _ = _
     simp only [Act.put, sq1, sq2, sq3, i64_w, i32_w]
     rfl
    refine pure_ (i := 9) (N := some 17) (v := ?_) (a' := ?_) #[true, true, true, true, true, true, true, true, true, true, true, true, false, false, false] rfl rfl (qg1 HT_.out (by kernel_rfl)) (fun _ _ _ h => h) (Or.inl ⟨by rfl, ?_⟩) ?_ ?_
    rotate_left
    ·intro w'
     go_simp
     with_reducible rfl
    rotate_left
    ·simp only [Act.put, sq1, sq2, sq3, i64_w, i32_w]
     rfl
    refine pure_ (i := 12) (N := some 20) (v := ?_) (a' := ?_) #[true, true, true, true, true, true, true, true, true, true, true, true, true, false, false] rfl rfl (qg1 HT_.out (by kernel_rfl)) (fun _ _ _ h => h) (Or.inl ⟨by rfl, ?_⟩) ?_ ?_
    rotate_left
    ·intro w'
     go_simp
     with_reducible rfl
    rotate_left
    ·simp only [Act.put, sq1, sq2, sq3, i64_w, i32_w]
     rfl
    refine one_ (i := 13) (N := some 5) bq30 rfl rfl (one_of HT_.out (by kernel_rfl)) (by decide) (fun K hK => ?_)
    refine box_step ?hg (N := 5) ?hd (cs := #[.slice none 0 0, .slice none 0 0, .int .i64 0, .int .i64 0, .int .i64 0]) (t := 37) ?hr ?_; (case hd => rfl); (case hg => rfl); (case hr => exact yq111)
    intro gb107 hg w12 hbox hb
    replace HB := Qz.mk (qq yq106 hb)
    have BK107 := Qz.mk (hbox)
    have GW107 := Qz.mk ((yq114 : w.heap.size ≤ gb107))
    have GE107 := Qz.mk ((Nat.le_trans HW0.out (yq114 : w.heap.size ≤ gb107) : w0.heap.size ≤ gb107))
    replace HK := Qz.mk (KeepBut.trans yq91 (KeepBut.of_below hb g none) (.inl rfl))
    have NB101_107 := Qz.mk ((yq104 : gb101 ≠ gb107))
    have NB107_101 := Qz.mk ((yq105 : gb107 ≠ gb101))
    replace BK101 := Qz.mk (qu (g := gb101) (o := .cells #[.slice A1_0 l1_0.length c1_0, .int .i64 a1_1, .int .i64 a1_2, .int .i64 a1_3] 32 (0, 0)) yq87 hb)
    have NB102_107 := Qz.mk ((yq107 : gb102 ≠ gb107))
    have NB107_102 := Qz.mk ((yq108 : gb107 ≠ gb102))
    replace BK102 := Qz.mk (qu (g := gb102) (o := .cells #[.slice none 0 0, .slice none 0 0, .int .i64 0, .int .i64 0, .int .i64 0] 37 (0, 0)) yq88 hb)
    have NB0_107 := Qz.mk ((by rw [hg]; exact Nat.ne_of_lt (IsS123.lt (show IsS123 w0 _ g s0_0 t106 from by repeat (first | (with_reducible first | exact HI0.out | apply IsS123.alloc | apply IsS123.drewN | apply IsS123.drew | apply IsS123.set_1 | apply (fun h_ => IsS123.far h_ NB0_101.out _) | apply (fun h_ => IsS123.far h_ NB0_102.out _)) | exact HI0.out))) : g ≠ gb107))
    have NB107_0 := Qz.mk ((by rw [hg]; exact Nat.ne_of_gt (IsS123.lt (show IsS123 w0 _ g s0_0 t106 from by repeat (first | (with_reducible first | exact HI0.out | apply IsS123.alloc | apply IsS123.drewN | apply IsS123.drew | apply IsS123.set_1 | apply (fun h_ => IsS123.far h_ NB0_101.out _) | apply (fun h_ => IsS123.far h_ NB0_102.out _)) | exact HI0.out))) : gb107 ≠ g))
    replace HI0 := Qz.mk (IsS123.below yq101 hb)
    clear hb hbox hg
    refine hK.out _ _ ⟨(qg BK101.out 0).trans rfl, (qg BK101.out 1).trans rfl, (qg BK101.out 2).trans rfl, (qg BK101.out 3).trans rfl⟩ (fun hHeld => ?_)
    clear hK K
    refine norm_ (a' := ?_) ?_ ?_
    rotate_left
    ·show Act.put _ (some 5) _ = _
     simp only [Act.put, sq1, sq2, sq3, i64_w, i32_w]
     rfl
    exact norm_ (by simp only [putAll, Act.put, sq1, sq2, sq3]) (hCont (gb107) _ ⟨hHeld, yq87, yq88, yq90, GW107.out, GE107.out, NB0_107.out, NB107_0.out, NB101_107.out, NB107_101.out, NB102_107.out, NB107_102.out, yq84, yq85, yq86⟩)
   ·skip
    refine box_step ?hg (N := 5) ?hd (cs := #[.slice none 0 0, .slice none 0 0, .int .i64 0, .int .i64 0, .int .i64 0]) (t := 37) ?hr ?_; (case hd => rfl); (case hg => rfl); (case hr => exact yq111)
    intro gb107 hg w11 hbox hb
    replace HB := Qz.mk (qq yq106 hb)
    have BK107 := Qz.mk (hbox)
    have GW107 := Qz.mk ((yq114 : w.heap.size ≤ gb107))
    have GE107 := Qz.mk ((Nat.le_trans HW0.out (yq114 : w.heap.size ≤ gb107) : w0.heap.size ≤ gb107))
    replace HK := Qz.mk (KeepBut.trans yq91 (KeepBut.of_below hb g none) (.inl rfl))
    have NB101_107 := Qz.mk ((yq104 : gb101 ≠ gb107))
    have NB107_101 := Qz.mk ((yq105 : gb107 ≠ gb101))
    replace BK101 := Qz.mk (qu (g := gb101) (o := .cells #[.slice A1_0 l1_0.length c1_0, .int .i64 a1_1, .int .i64 a1_2, .int .i64 a1_3] 32 (0, 0)) yq87 hb)
    have NB102_107 := Qz.mk ((yq107 : gb102 ≠ gb107))
    have NB107_102 := Qz.mk ((yq108 : gb107 ≠ gb102))
    replace BK102 := Qz.mk (qu (g := gb102) (o := .cells #[.slice none 0 0, .slice none 0 0, .int .i64 0, .int .i64 0, .int .i64 0] 37 (0, 0)) yq88 hb)
    have NB0_107 := Qz.mk ((by rw [hg]; exact Nat.ne_of_lt (IsS123.lt (show IsS123 w0 _ g s0_0 t104 from by repeat (first | (with_reducible first | exact HI0.out | apply IsS123.alloc | apply IsS123.drewN | apply IsS123.drew | apply IsS123.set_1 | apply (fun h_ => IsS123.far h_ NB0_101.out _) | apply (fun h_ => IsS123.far h_ NB0_102.out _)) | exact HI0.out))) : g ≠ gb107))
    have NB107_0 := Qz.mk ((by rw [hg]; exact Nat.ne_of_gt (IsS123.lt (show IsS123 w0 _ g s0_0 t104 from by repeat (first | (with_reducible first | exact HI0.out | apply IsS123.alloc | apply IsS123.drewN | apply IsS123.drew | apply IsS123.set_1 | apply (fun h_ => IsS123.far h_ NB0_101.out _) | apply (fun h_ => IsS123.far h_ NB0_102.out _)) | exact HI0.out))) : gb107 ≠ g))
    replace HI0 := Qz.mk (IsS123.below yq101 hb)
    clear hb hbox hg
    refine hK.out _ _ ⟨(qg BK101.out 0).trans rfl, (qg BK101.out 1).trans rfl, (qg BK101.out 2).trans rfl, (qg BK101.out 3).trans rfl⟩ (fun hHeld => ?_)
    clear hK K
    refine norm_ (a' := ?_) ?_ ?_
    rotate_left
    ·show Act.put _ (some 5) _ = _
     simp only [Act.put, sq1, sq2, sq3, i64_w, i32_w]
     rfl
    refine one_ (i := 8) (N := some 16) bq26 rfl rfl (one_of HT_.out (by kernel_rfl)) (by decide) (fun K hK => ?_)
    refine goes_ Try.func80 (by kernel_rfl) rfl #[.pointer (some ⟨g, 0, none⟩), .int .i64 9] (by rfl) rfl rfl yq102 ?_
    with_reducible refine (spec_l1Rd_below.calls g s0_0 t104 9 t105 t106 w0 _ ?side1 ?side2 A4.out).mono ?_
    (case side1 => exact yq84)
    (case side2 => exact yq86)
    rintro e w12 ⟨rfl, hi, hb, hk⟩
    refine ⟨_, rfl, ?_⟩
    replace BK101 := Qz.mk (KeepBut.blk hk (g' := gb101) (o := .cells #[.slice A1_0 l1_0.length c1_0, .int .i64 a1_1, .int .i64 a1_2, .int .i64 a1_3] 32 (0, 0)) yq87 NB101_0.out (by simp))
    replace BK102 := Qz.mk (KeepBut.blk hk (g' := gb102) (o := .cells #[.slice none 0 0, .slice none 0 0, .int .i64 0, .int .i64 0, .int .i64 0] 37 (0, 0)) yq88 NB102_0.out (by simp))
    replace BK107 := Qz.mk (KeepBut.blk hk (g' := gb107) (o := .cells #[.slice none 0 0, .slice none 0 0, .int .i64 0, .int .i64 0, .int .i64 0] 37 (0, 0)) yq90 NB107_0.out (by simp))
    replace HK := Qz.mk (KeepBut.trans yq85 hk (.inl rfl))
    replace HB := Qz.mk (hb)
    replace HI0 := Qz.mk (hi)
    (try clear hb)
    (try clear hk)
    (try clear hi)
    refine hK.out _ _ ⟨(qg BK101.out 0).trans rfl, (qg BK101.out 1).trans rfl, (qg BK101.out 2).trans rfl, (qg BK101.out 3).trans rfl⟩ (fun hHeld => ?_)
    clear hK K
    refine norm_ (a' := ?_) ?_ ?_
    rotate_left
    ·show Act.put _ (some 16) _ = _
     simp only [Act.put, sq1, sq2, sq3, i64_w, i32_w]
     rfl
    refine pure_ (i := 9) (N := some 17) (v := ?_) (a' := ?_) bq28 rfl rfl (qg1 HT_.out (by kernel_rfl)) (fun _ _ _ h => h) (Or.inl ⟨by rfl, ?_⟩) ?_ ?_
    rotate_left
    ·intro w'
     go_simp
     with_reducible rfl
    rotate_left
    ·simp only [Act.put, sq1, sq2, sq3, i64_w, i32_w]
     rfl
    refine pure_ (i := 12) (N := some 20) (v := ?_) (a' := ?_) bq30 rfl rfl (qg1 HT_.out (by kernel_rfl)) (fun _ _ _ h => h) (Or.inl ⟨by rfl, ?_⟩) ?_ ?_
    rotate_left
    ·intro w'
     go_simp
     with_reducible rfl
    rotate_left
    ·simp only [Act.put, sq1, sq2, sq3, i64_w, i32_w]
     rfl
    exact norm_ (by simp only [putAll, Act.put, sq1, sq2, sq3]) (hCont (gb107) _ ⟨hHeld, yq87, yq88, yq90, GW107.out, GE107.out, NB0_107.out, NB107_0.out, NB101_107.out, NB107_101.out, NB102_107.out, NB107_102.out, yq84, yq85, yq86⟩)
  ·skip
   refine box_step ?hg (N := 5) ?hd (cs := #[.slice none 0 0, .slice none 0 0, .int .i64 0, .int .i64 0, .int .i64 0]) (t := 37) ?hr ?_; (case hd => rfl); (case hg => rfl); (case hr => exact yq111)
   intro gb107 hg w10 hbox hb
   replace HB := Qz.mk (qq yq106 hb)
   have BK107 := Qz.mk (hbox)
   have GW107 := Qz.mk ((yq114 : w.heap.size ≤ gb107))
   have GE107 := Qz.mk ((Nat.le_trans HW0.out (yq114 : w.heap.size ≤ gb107) : w0.heap.size ≤ gb107))
   replace HK := Qz.mk (KeepBut.trans yq91 (KeepBut.of_below hb g none) (.inl rfl))
   have NB101_107 := Qz.mk ((yq104 : gb101 ≠ gb107))
   have NB107_101 := Qz.mk ((yq105 : gb107 ≠ gb101))
   replace BK101 := Qz.mk (qu (g := gb101) (o := .cells #[.slice A1_0 l1_0.length c1_0, .int .i64 a1_1, .int .i64 a1_2, .int .i64 a1_3] 32 (0, 0)) yq87 hb)
   have NB102_107 := Qz.mk ((yq107 : gb102 ≠ gb107))
   have NB107_102 := Qz.mk ((yq108 : gb107 ≠ gb102))
   replace BK102 := Qz.mk (qu (g := gb102) (o := .cells #[.slice none 0 0, .slice none 0 0, .int .i64 0, .int .i64 0, .int .i64 0] 37 (0, 0)) yq88 hb)
   have NB0_107 := Qz.mk ((by rw [hg]; exact Nat.ne_of_lt (IsS123.lt (show IsS123 w0 _ g s0_0 s0_1 from by repeat (first | (with_reducible first | exact HI0.out | apply IsS123.alloc | apply IsS123.drewN | apply IsS123.drew | apply IsS123.set_1 | apply (fun h_ => IsS123.far h_ NB0_101.out _) | apply (fun h_ => IsS123.far h_ NB0_102.out _)) | exact HI0.out))) : g ≠ gb107))
   have NB107_0 := Qz.mk ((by rw [hg]; exact Nat.ne_of_gt (IsS123.lt (show IsS123 w0 _ g s0_0 s0_1 from by repeat (first | (with_reducible first | exact HI0.out | apply IsS123.alloc | apply IsS123.drewN | apply IsS123.drew | apply IsS123.set_1 | apply (fun h_ => IsS123.far h_ NB0_101.out _) | apply (fun h_ => IsS123.far h_ NB0_102.out _)) | exact HI0.out))) : gb107 ≠ g))
   replace HI0 := Qz.mk (IsS123.below yq101 hb)
   clear hb hbox hg
   refine hK.out _ _ ⟨(qg BK101.out 0).trans rfl, (qg BK101.out 1).trans rfl, (qg BK101.out 2).trans rfl, (qg BK101.out 3).trans rfl⟩ (fun hHeld => ?_)
   clear hK K
   refine norm_ (a' := ?_) ?_ ?_
   rotate_left
   ·show Act.put _ (some 5) _ = _
    simp only [Act.put, sq1, sq2, sq3, i64_w, i32_w]
    rfl
   refine one_ (i := 3) (N := some 11) #[true, true, true, true, false, true, true, true, false, false, true, true, false, true, false] rfl rfl (one_of HT_.out (by kernel_rfl)) (by decide) (fun K hK => ?_)
   refine goes_ Try.func80 (by kernel_rfl) rfl #[.pointer (some ⟨g, 0, none⟩), .int .i64 4] (by rfl) rfl rfl yq102 ?_
   with_reducible refine (spec_l1Rd_below.calls g s0_0 s0_1 4 t103 t104 w0 _ ?side1 ?side2 A3.out).mono ?_
   (case side1 => exact yq84)
   (case side2 => exact yq86)
   rintro e w11 ⟨rfl, hi, hb, hk⟩
   refine ⟨_, rfl, ?_⟩
   replace BK101 := Qz.mk (KeepBut.blk hk (g' := gb101) (o := .cells #[.slice A1_0 l1_0.length c1_0, .int .i64 a1_1, .int .i64 a1_2, .int .i64 a1_3] 32 (0, 0)) yq87 NB101_0.out (by simp))
   replace BK102 := Qz.mk (KeepBut.blk hk (g' := gb102) (o := .cells #[.slice none 0 0, .slice none 0 0, .int .i64 0, .int .i64 0, .int .i64 0] 37 (0, 0)) yq88 NB102_0.out (by simp))
   replace BK107 := Qz.mk (KeepBut.blk hk (g' := gb107) (o := .cells #[.slice none 0 0, .slice none 0 0, .int .i64 0, .int .i64 0, .int .i64 0] 37 (0, 0)) yq90 NB107_0.out (by simp))
   replace HK := Qz.mk (KeepBut.trans yq85 hk (.inl rfl))
   replace HB := Qz.mk (hb)
   replace HI0 := Qz.mk (hi)
   (try clear hb)
   (try clear hk)
   (try clear hi)
   refine hK.out _ _ ⟨(qg BK101.out 0).trans rfl, (qg BK101.out 1).trans rfl, (qg BK101.out 2).trans rfl, (qg BK101.out 3).trans rfl⟩ (fun hHeld => ?_)
   clear hK K
   refine norm_ (a' := ?_) ?_ ?_
   rotate_left
   ·show Act.put _ (some 11) _ = _
    simp only [Act.put, sq1, sq2, sq3, i64_w, i32_w]
    rfl
   refine pure_ (i := 4) (N := some 12) (v := ?_) (a' := ?_) bq24 rfl rfl (qg1 HT_.out (by kernel_rfl)) (fun _ _ _ h => h) (Or.inl ⟨by rfl, ?_⟩) ?_ ?_
   rotate_left
   ·intro w'
    go_simp
    with_reducible rfl
   rotate_left
   ·simp only [Act.put, sq1, sq2, sq3, i64_w, i32_w]
    rfl
   refine one_ (i := 8) (N := some 16) bq26 rfl rfl (one_of HT_.out (by kernel_rfl)) (by decide) (fun K hK => ?_)
   refine goes_ Try.func80 (by kernel_rfl) rfl #[.pointer (some ⟨g, 0, none⟩), .int .i64 9] (by rfl) rfl rfl yq102 ?_
   with_reducible refine (spec_l1Rd_below.calls g s0_0 t104 9 t105 t106 w0 _ ?side1 ?side2 A4.out).mono ?_
   (case side1 => exact yq84)
   (case side2 => exact yq86)
   rintro e w12 ⟨rfl, hi, hb, hk⟩
   refine ⟨_, rfl, ?_⟩
   replace BK101 := Qz.mk (KeepBut.blk hk (g' := gb101) (o := .cells #[.slice A1_0 l1_0.length c1_0, .int .i64 a1_1, .int .i64 a1_2, .int .i64 a1_3] 32 (0, 0)) yq87 NB101_0.out (by simp))
   replace BK102 := Qz.mk (KeepBut.blk hk (g' := gb102) (o := .cells #[.slice none 0 0, .slice none 0 0, .int .i64 0, .int .i64 0, .int .i64 0] 37 (0, 0)) yq88 NB102_0.out (by simp))
   replace BK107 := Qz.mk (KeepBut.blk hk (g' := gb107) (o := .cells #[.slice none 0 0, .slice none 0 0, .int .i64 0, .int .i64 0, .int .i64 0] 37 (0, 0)) yq90 NB107_0.out (by simp))
   replace HK := Qz.mk (KeepBut.trans yq85 hk (.inl rfl))
   replace HB := Qz.mk (hb)
   replace HI0 := Qz.mk (hi)
   (try clear hb)
   (try clear hk)
   (try clear hi)
   refine hK.out _ _ ⟨(qg BK101.out 0).trans rfl, (qg BK101.out 1).trans rfl, (qg BK101.out 2).trans rfl, (qg BK101.out 3).trans rfl⟩ (fun hHeld => ?_)
   clear hK K
   refine norm_ (a' := ?_) ?_ ?_
   rotate_left
   ·show Act.put _ (some 16) _ = _
    simp only [Act.put, sq1, sq2, sq3, i64_w, i32_w]
    rfl
   refine pure_ (i := 9) (N := some 17) (v := ?_) (a' := ?_) bq28 rfl rfl (qg1 HT_.out (by kernel_rfl)) (fun _ _ _ h => h) (Or.inl ⟨by rfl, ?_⟩) ?_ ?_
   rotate_left
   ·intro w'
    go_simp
    with_reducible rfl
   rotate_left
   ·simp only [Act.put, sq1, sq2, sq3, i64_w, i32_w]
    rfl
   refine pure_ (i := 12) (N := some 20) (v := ?_) (a' := ?_) bq30 rfl rfl (qg1 HT_.out (by kernel_rfl)) (fun _ _ _ h => h) (Or.inl ⟨by rfl, ?_⟩) ?_ ?_
   rotate_left
   ·intro w'
    go_simp
    with_reducible rfl
   rotate_left
   ·simp only [Act.put, sq1, sq2, sq3, i64_w, i32_w]
    rfl
   exact norm_ (by simp only [putAll, Act.put, sq1, sq2, sq3]) (hCont (gb107) _ ⟨hHeld, yq87, yq88, yq90, GW107.out, GE107.out, NB0_107.out, NB107_0.out, NB101_107.out, NB107_101.out, NB102_107.out, NB107_102.out, yq84, yq85, yq86⟩)
 rintro gb107 w13 ⟨hS_, h0_, h1_, h2_, h3_, h4_, h5_, h6_, h7_, h8_, h9_, h10_, h11_, h12_, h13_⟩
 have n0_ : Qz (w13.heap[gb101]? = some (.cells #[.slice A1_0 l1_0.length c1_0, .int .i64 a1_1, .int .i64 a1_2, .int .i64 a1_3] 32 (0, 0))) := ⟨h0_⟩
 have n1_ : Qz (w13.heap[gb102]? = some (.cells #[.slice none 0 0, .slice none 0 0, .int .i64 0, .int .i64 0, .int .i64 0] 37 (0, 0))) := ⟨h1_⟩
 have n2_ : Qz (w13.heap[gb107]? = some (.cells #[.slice none 0 0, .slice none 0 0, .int .i64 0, .int .i64 0, .int .i64 0] 37 (0, 0))) := ⟨h2_⟩
 have n3_ : Qz (w.heap.size ≤ gb107) := ⟨h3_⟩
 have n4_ : Qz (w0.heap.size ≤ gb107) := ⟨h4_⟩
 have n5_ : Qz (g ≠ gb107) := ⟨h5_⟩
 have n6_ : Qz (gb107 ≠ g) := ⟨h6_⟩
 have n7_ : Qz (gb101 ≠ gb107) := ⟨h7_⟩
 have n8_ : Qz (gb107 ≠ gb101) := ⟨h8_⟩
 have n9_ : Qz (gb102 ≠ gb107) := ⟨h9_⟩
 have n10_ : Qz (gb107 ≠ gb102) := ⟨h10_⟩
 have n11_ : Qz (IsS123 w0 w13 g s0_0 t106) := ⟨h11_⟩
 have n12_ : Qz (KeepBut w w13 g none) := ⟨h12_⟩
 have n13_ : Qz (Below w0.heap.size w0 w13) := ⟨h13_⟩
 clear BK101
 clear BK102
 clear HI0
 clear HK
 clear HB
 clear h0_ h1_ h2_ h3_ h4_ h5_ h6_ h7_ h8_ h9_ h10_ h11_ h12_ h13_
 have BK101 := n0_
 have BK102 := n1_
 have BK107 := n2_
 have GW107 := n3_
 have GE107 := n4_
 have NB0_107 := n5_
 have NB107_0 := n6_
 have NB101_107 := n7_
 have NB107_101 := n8_
 have NB102_107 := n9_
 have NB107_102 := n10_
 have HI0 := n11_
 have HK := n12_
 have HB := n13_
 clear n0_ n1_ n2_ n3_ n4_ n5_ n6_ n7_ n8_ n9_ n10_ n11_ n12_ n13_
 have hHeld : w13.cell? ⟨gb101, 0, none⟩ = some (.slice A1_0 l1_0.length c1_0) ∧ w13.cell? ⟨gb101, 1, none⟩ = some (.int .i64 a1_1) ∧ w13.cell? ⟨gb101, 2, none⟩ = some (.int .i64 a1_2) ∧ w13.cell? ⟨gb101, 3, none⟩ = some (.int .i64 a1_3) := hS_
 refine norm_ (a' := ?_) ?_ ?_
 rotate_left
 ·simp only [putAll, Act.put, sq1, sq2, sq3]
  rfl
 refine one_ (i := 14) (N := none) #[true, true, true, true, true, true, true, true, true, true, true, true, true, true, true] rfl rfl (one_of HT_.out (by kernel_rfl)) (by decide) (fun K hK => ?_)
 have hs14 : w13.cell? ⟨gb107, 0, none⟩ = some (.slice none 0 0) := (qg BK107.out 0).trans rfl
 have hfs14 := qj BK107.out 0
 have hns14_0 := NB101_107.out
 have hns14_1 := NB102_107.out
 have hms14_0 := NB107_101.out
 have hms14_1 := NB107_102.out
 have hs15 : w13.cell? ⟨gb107, 1, none⟩ = some (.slice none 0 0) := (qg BK107.out 1).trans rfl
 have hfs15 := qj BK107.out 1
 have hns15_0 := NB101_107.out
 have hns15_1 := NB102_107.out
 have hms15_0 := NB107_101.out
 have hms15_1 := NB107_102.out
 have hs16 : w13.cell? ⟨gb107, 2, none⟩ = some (.int .i64 0) := (qg BK107.out 2).trans rfl
 have hfs16 := qj BK107.out 2
 have hns16_0 := NB101_107.out
 have hns16_1 := NB102_107.out
 have hms16_0 := NB107_101.out
 have hms16_1 := NB107_102.out
 have hs17 : w13.cell? ⟨gb107, 3, none⟩ = some (.int .i64 0) := (qg BK107.out 3).trans rfl
 have hfs17 := qj BK107.out 3
 have hns17_0 := NB101_107.out
 have hns17_1 := NB102_107.out
 have hms17_0 := NB107_101.out
 have hms17_1 := NB107_102.out
 have hs18 : w13.cell? ⟨gb107, 4, none⟩ = some (.int .i64 0) := (qg BK107.out 4).trans rfl
 have hfs18 := qj BK107.out 4
 have hns18_0 := NB101_107.out
 have hns18_1 := NB102_107.out
 have hms18_0 := NB107_101.out
 have hms18_1 := NB107_102.out
 refine skip_ (w1 := ?_) (by rfl) rfl ?_ ?_
 rotate_left
 ·go_simp
  rfl
 refine hK.out _ _ ⟨((cell_far (p := ⟨gb107, _, none⟩) NB101_107.out _).trans (((cell_far (p := ⟨gb107, _, none⟩) NB101_107.out _).trans (((cell_far (p := ⟨gb107, _, none⟩) NB101_107.out _).trans (((cell_far (p := ⟨gb107, _, none⟩) NB101_107.out _).trans (((cell_far (p := ⟨gb107, _, none⟩) NB101_107.out _).trans (hHeld.1)))))))))), ((cell_far (p := ⟨gb107, _, none⟩) NB101_107.out _).trans (((cell_far (p := ⟨gb107, _, none⟩) NB101_107.out _).trans (((cell_far (p := ⟨gb107, _, none⟩) NB101_107.out _).trans (((cell_far (p := ⟨gb107, _, none⟩) NB101_107.out _).trans (((cell_far (p := ⟨gb107, _, none⟩) NB101_107.out _).trans (hHeld.2.1)))))))))), ((cell_far (p := ⟨gb107, _, none⟩) NB101_107.out _).trans (((cell_far (p := ⟨gb107, _, none⟩) NB101_107.out _).trans (((cell_far (p := ⟨gb107, _, none⟩) NB101_107.out _).trans (((cell_far (p := ⟨gb107, _, none⟩) NB101_107.out _).trans (((cell_far (p := ⟨gb107, _, none⟩) NB101_107.out _).trans (hHeld.2.2.1)))))))))), ((cell_far (p := ⟨gb107, _, none⟩) NB101_107.out _).trans (((cell_far (p := ⟨gb107, _, none⟩) NB101_107.out _).trans (((cell_far (p := ⟨gb107, _, none⟩) NB101_107.out _).trans (((cell_far (p := ⟨gb107, _, none⟩) NB101_107.out _).trans (((cell_far (p := ⟨gb107, _, none⟩) NB101_107.out _).trans (hHeld.2.2.2))))))))))⟩ (fun hHeld => ?_)
 clear hK K
 refine done_ (done_of HT_.out (by kernel_rfl)) ?_
 go_upto_if 22 with (first | ((with_reducible refine qm (f := 73) rfl ?_); refine qy (some 22) rfl rfl Try.func73 (by kernel_rfl) rfl #[.pointer (some ⟨g, 0, none⟩), .int .i64 3] rfl yq102 ?_; (with_reducible refine (spec_l1Rd_once.calls g s0_0 t106 3 t108 t109 w0 _ ?side1 ?side2 A5.out).mono ?_); (case side1 => exact yq84); (case side2 => exact yq86); rintro e w19 ⟨rfl, hi, hb, hk⟩; refine ⟨_, rfl, ?_⟩; replace BK101 := Qz.mk (KeepBut.blk hk (g' := gb101) (o := .cells #[.slice A1_0 l1_0.length c1_0, .int .i64 a1_1, .int .i64 a1_2, .int .i64 a1_3] 32 (0, 0)) (by (with_reducible repeat (first | refine qc ?_ _ | refine qf ?_ | refine qa ?_ _)); refine qx ?_ NB101_107.out _; (with_reducible repeat (first | refine qc ?_ _ | refine qf ?_ | refine qa ?_ _)); refine qx ?_ NB101_107.out _; (with_reducible repeat (first | refine qc ?_ _ | refine qf ?_ | refine qa ?_ _)); refine qx ?_ NB101_107.out _; (with_reducible repeat (first | refine qc ?_ _ | refine qf ?_ | refine qa ?_ _)); refine qx ?_ NB101_107.out _; (with_reducible repeat (first | refine qc ?_ _ | refine qf ?_ | refine qa ?_ _)); refine qx ?_ NB101_107.out _; (with_reducible repeat (first | refine qc ?_ _ | refine qf ?_ | refine qa ?_ _)); exact BK101.out) NB101_0.out (by simp)); replace BK102 := Qz.mk (KeepBut.blk hk (g' := gb102) (o := .cells #[.slice none 0 0, .slice none 0 0, .int .i64 0, .int .i64 0, .int .i64 0] 37 (0, 0)) (by (with_reducible repeat (first | refine qc ?_ _ | refine qf ?_ | refine qa ?_ _)); refine qx ?_ NB102_107.out _; (with_reducible repeat (first | refine qc ?_ _ | refine qf ?_ | refine qa ?_ _)); refine qx ?_ NB102_107.out _; (with_reducible repeat (first | refine qc ?_ _ | refine qf ?_ | refine qa ?_ _)); refine qx ?_ NB102_107.out _; (with_reducible repeat (first | refine qc ?_ _ | refine qf ?_ | refine qa ?_ _)); refine qx ?_ NB102_107.out _; (with_reducible repeat (first | refine qc ?_ _ | refine qf ?_ | refine qa ?_ _)); refine qx ?_ NB102_107.out _; (with_reducible repeat (first | refine qc ?_ _ | refine qf ?_ | refine qa ?_ _)); exact BK102.out) NB102_0.out (by simp)); replace BK107 := Qz.mk (KeepBut.blk hk (g' := gb107) (o := .cells #[.slice none 0 0, .slice none 0 0, .int .i64 (wrap64 (a1_1 + t103)), .int .i64 (wrap64 (a1_2 + t105)), .int .i64 a1_3] 37 (0, 0)) (by (with_reducible repeat (first | refine qc ?_ _ | refine qf ?_ | refine qa ?_ _)); refine qw (cs := #[.slice none 0 0, .slice none 0 0, .int .i64 (wrap64 (a1_1 + t103)), .int .i64 (wrap64 (a1_2 + t105)), .int .i64 0]) ?_ 4 _ rfl; (with_reducible repeat (first | refine qc ?_ _ | refine qf ?_ | refine qa ?_ _)); refine qw (cs := #[.slice none 0 0, .slice none 0 0, .int .i64 (wrap64 (a1_1 + t103)), .int .i64 0, .int .i64 0]) ?_ 3 _ rfl; (with_reducible repeat (first | refine qc ?_ _ | refine qf ?_ | refine qa ?_ _)); refine qw (cs := #[.slice none 0 0, .slice none 0 0, .int .i64 0, .int .i64 0, .int .i64 0]) ?_ 2 _ rfl; (with_reducible repeat (first | refine qc ?_ _ | refine qf ?_ | refine qa ?_ _)); refine qw (cs := #[.slice none 0 0, .slice none 0 0, .int .i64 0, .int .i64 0, .int .i64 0]) ?_ 1 _ rfl; (with_reducible repeat (first | refine qc ?_ _ | refine qf ?_ | refine qa ?_ _)); refine qw (cs := #[.slice none 0 0, .slice none 0 0, .int .i64 0, .int .i64 0, .int .i64 0]) ?_ 0 _ rfl; (with_reducible repeat (first | refine qc ?_ _ | refine qf ?_ | refine qa ?_ _)); exact BK107.out) NB107_0.out (by simp)); replace HK := Qz.mk (KeepBut.trans yq85 hk (.inl rfl)); replace HB := Qz.mk (hb); replace HI0 := Qz.mk (hi); (try clear hb); (try clear hk); (try clear hi)))
 (try simp only [Act.put, sq1, sq2, sq3])
 go_cut [] (fun wc => ∃ (kq : Nat) (x108004_5 : Int), Qz (spec_l1Rd_edit.j0 kq s0_0 t109 l1_0 a1_1 a1_2 a1_3 (wrap64 (a1_1 + t103)) (wrap64 (a1_2 + t105)) x108004_5 = some (r1, r2, r3, r4, r5, r6)) ∧ Qz (kq ≤ k) ∧ Qz (wc.heap[gb101]? = some (.cells #[(.slice A1_0 l1_0.length c1_0), .int .i64 a1_1, .int .i64 a1_2, .int .i64 a1_3] 32 (0, 0))) ∧ Qz (wc.heap[gb102]? = some (.cells #[(.slice none 0 0), (.slice none 0 0), .int .i64 0, .int .i64 0, .int .i64 0] 37 (0, 0))) ∧ Qz (wc.heap[gb107]? = some (.cells #[(.slice none 0 0), (.slice none 0 0), .int .i64 (wrap64 (a1_1 + t103)), .int .i64 (wrap64 (a1_2 + t105)), .int .i64 x108004_5] 37 (0, 0))) ∧ Qz (IsS123 w0 wc g s0_0 t109) ∧ Qz (KeepBut w wc g none) ∧ Qz (Below w0.heap.size w0 wc))
 case first =>
  have H := HC6.out
  clear HC6
  by_cases c20 : t108 = true
  ·subst c20
   have H1 : (spec_l1Rd_edit.j0 k s0_0 t109 l1_0 a1_1 a1_2 a1_3 (wrap64 (a1_1 + t103)) (wrap64 (a1_2 + t105)) (wrap64 ((wrap64 (a1_1 + t103)) - 1))) = some (r1, r2, r3, r4, r5, r6) := by rw [if_pos rfl] at H; exact H
   clear H
   have H := H1
   clear H1
   have H' := Qz.mk H
   clear H
   have hnb21 := NB107_101.out
   have hnc21 := NB101_107.out
   have hnb22 := NB107_102.out
   have hnc22 := NB102_107.out
   have hnb23 := NB107_0.out
   have hnc23 := NB0_107.out
   have hcz24_0 := (qg BK107.out 0).trans rfl
   have hcz24_1 := (qg BK107.out 1).trans rfl
   have hcz24_2 : w19.cell? ⟨gb107, 2, none⟩ = some (.int .i64 (wrap64 (a1_1 + t103))) := (qg BK107.out 2).trans rfl
   have hcz24_3 : w19.cell? ⟨gb107, 3, none⟩ = some (.int .i64 (wrap64 (a1_2 + t105))) := (qg BK107.out 3).trans rfl
   have hcz24_4 := (qg BK107.out 4).trans rfl
   have hfz24_0 := qj BK107.out 0
   have hfz24_1 := qj BK107.out 1
   have hfz24_2 := qj BK107.out 2
   have hfz24_3 := qj BK107.out 3
   have hfz24_4 := qj BK107.out 4
   go_wp2
   go_meet
   case rel => exact ⟨_, (wrap64 ((wrap64 (a1_1 + t103)) - 1)), H', ⟨by first | omega | exact Nat.le_refl _⟩, ⟨by (with_reducible repeat (first | refine qc ?_ _ | refine qf ?_ | refine qa ?_ _)); refine qx ?_ NB101_107.out _; (with_reducible repeat (first | refine qc ?_ _ | refine qf ?_ | refine qa ?_ _)); exact BK101.out⟩, ⟨by (with_reducible repeat (first | refine qc ?_ _ | refine qf ?_ | refine qa ?_ _)); refine qx ?_ NB102_107.out _; (with_reducible repeat (first | refine qc ?_ _ | refine qf ?_ | refine qa ?_ _)); exact BK102.out⟩, ⟨by (with_reducible repeat (first | refine qc ?_ _ | refine qf ?_ | refine qa ?_ _)); refine qw (cs := #[.slice none 0 0, .slice none 0 0, .int .i64 (wrap64 (a1_1 + t103)), .int .i64 (wrap64 (a1_2 + t105)), .int .i64 a1_3]) ?_ 4 _ rfl; (with_reducible repeat (first | refine qc ?_ _ | refine qf ?_ | refine qa ?_ _)); exact BK107.out⟩, ⟨by repeat (first | (with_reducible first | exact HI0.out | apply IsS123.alloc | apply IsS123.drewN | apply IsS123.drew | apply IsS123.set_1 | apply (fun h_ => IsS123.far h_ NB0_101.out _) | apply (fun h_ => IsS123.far h_ NB0_102.out _) | apply (fun h_ => IsS123.far h_ NB0_107.out _)) | exact HI0.out)⟩, ⟨by repeat (first | (with_reducible first | exact HK.out | apply KeepBut.set_ | apply qn | apply qp | apply qo | refine qk ?_ GW101.out _ | refine qk ?_ GW102.out _ | refine qk ?_ GW107.out _) | exact HK.out)⟩, ⟨by repeat (first | (with_reducible first | exact HB.out | apply qi | apply qd | apply qh | refine qe ?_ (IsS123.ge HI0.out) | refine qe ?_ GE101.out | refine qe ?_ GE102.out | refine qe ?_ GE107.out) | exact HB.out)⟩⟩
  ·replace c20 := Bool.eq_false_iff.mpr c20
   subst c20
   have H1 : (spec_l1Rd_edit.j0 k s0_0 t109 l1_0 a1_1 a1_2 a1_3 (wrap64 (a1_1 + t103)) (wrap64 (a1_2 + t105)) a1_3) = some (r1, r2, r3, r4, r5, r6) := by rw [if_neg (show ¬ (false = true) by decide)] at H; exact H
   clear H
   have H := H1
   clear H1
   have H' := Qz.mk H
   clear H
   go_wp2
   go_meet
   case rel => exact ⟨_, (a1_3), H', ⟨by first | omega | exact Nat.le_refl _⟩, ⟨by (with_reducible repeat (first | refine qc ?_ _ | refine qf ?_ | refine qa ?_ _)); exact BK101.out⟩, ⟨by (with_reducible repeat (first | refine qc ?_ _ | refine qf ?_ | refine qa ?_ _)); exact BK102.out⟩, ⟨by (with_reducible repeat (first | refine qc ?_ _ | refine qf ?_ | refine qa ?_ _)); exact BK107.out⟩, ⟨by repeat (first | (with_reducible first | exact HI0.out | apply IsS123.alloc | apply IsS123.drewN | apply IsS123.drew | apply IsS123.set_1 | apply (fun h_ => IsS123.far h_ NB0_101.out _) | apply (fun h_ => IsS123.far h_ NB0_102.out _) | apply (fun h_ => IsS123.far h_ NB0_107.out _)) | exact HI0.out)⟩, ⟨by repeat (first | (with_reducible first | exact HK.out | apply KeepBut.set_ | apply qn | apply qp | apply qo | refine qk ?_ GW101.out _ | refine qk ?_ GW102.out _ | refine qk ?_ GW107.out _) | exact HK.out)⟩, ⟨by repeat (first | (with_reducible first | exact HB.out | apply qi | apply qd | apply qh | refine qe ?_ (IsS123.ge HI0.out) | refine qe ?_ GE101.out | refine qe ?_ GE102.out | refine qe ?_ GE107.out) | exact HB.out)⟩⟩
 case rest =>
  clear HC6
  (try clear c1);(try clear c2);(try clear p2);(try clear p6);(try clear c7);(try clear c8);(try clear c20);(try clear c21);(try clear c22);(try clear c23);(try clear hcz24_0);(try clear hcz24_1);(try clear hcz24_2);(try clear hcz24_3);(try clear hcz24_4);(try clear hfz24_0);(try clear hfz24_1);(try clear hfz24_2);(try clear hfz24_3);(try clear hfz24_4)
  obtain ⟨kq, x108004_5, HA, HJ5, BK101, BK102, BK107, HI0, HK, HB⟩ := hcut
  cases kq with
  | zero => exact absurd HA.out (by simp [spec_l1Rd_edit.j0])
  | succ kj5 =>
   have H := HA.out
   clear HA
   simp only [spec_l1Rd_edit.j0] at H
   have HC25 := Qz.mk H
   clear H
   go_upto_region 4 with (fail)
   go_cut [34] (fun v34 wc => ∃ (kq : Nat) (x34_24 : Bool) (x1001_24 : Int), v34 = .bool x34_24 ∧ Qz (spec_l1Rd_edit.j1 kq x34_24 s0_0 x1001_24 l1_0 a1_1 a1_2 a1_3 (wrap64 (a1_1 + t103)) (wrap64 (a1_2 + t105)) x108004_5 = some (r1, r2, r3, r4, r5, r6)) ∧ Qz (kq ≤ kj5) ∧ Qz (wc.heap[gb101]? = some (.cells #[(.slice A1_0 l1_0.length c1_0), .int .i64 a1_1, .int .i64 a1_2, .int .i64 a1_3] 32 (0, 0))) ∧ Qz (wc.heap[gb102]? = some (.cells #[(.slice none 0 0), (.slice none 0 0), .int .i64 0, .int .i64 0, .int .i64 0] 37 (0, 0))) ∧ Qz (wc.heap[gb107]? = some (.cells #[(.slice none 0 0), (.slice none 0 0), .int .i64 (wrap64 (a1_1 + t103)), .int .i64 (wrap64 (a1_2 + t105)), .int .i64 x108004_5] 37 (0, 0))) ∧ Qz (IsS123 w0 wc g s0_0 x1001_24) ∧ Qz (KeepBut w wc g none) ∧ Qz (Below w0.heap.size w0 wc))
   case first =>
    have H := HC25.out
    clear HC25
    by_cases c26 : (l1_0.length : Int) > 0
    ·rw [if_pos c26] at H
     have c26b0 : decide (0 < (l1_0.length : Int)) = true := decide_eq_true c26
     have c26b1 : decide (0 < l1_0.length) = true := decide_eq_true (by omega)
     clear c26
     (first | rw [c26b0] | (simp only [i64_w, i32_w]; rw [c26b0]) | skip)
     replace H := Option.bind_eq_some_iff.mp H
     obtain ⟨⟨t110, t111⟩, A270, H⟩ := H
     replace H : (spec_l1Rd_edit.j1 kj5 t110 s0_0 t111 l1_0 a1_1 a1_2 a1_3 (wrap64 (a1_1 + t103)) (wrap64 (a1_2 + t105)) x108004_5) = some (r1, r2, r3, r4, r5, r6) := H
     have A27 := Qz.mk A270
     clear A270
     have H' := Qz.mk H
     clear H
     have hnb28 := NB101_102.out
     have hnc28 := NB102_101.out
     have hnb29 := NB101_107.out
     have hnc29 := NB107_101.out
     have hnb30 := NB101_0.out
     have hnc30 := NB0_101.out
     have hcz31_0 := (qg BK101.out 0).trans rfl
     have hcz31_1 := (qg BK101.out 1).trans rfl
     have hcz31_2 := (qg BK101.out 2).trans rfl
     have hcz31_3 := (qg BK101.out 3).trans rfl
     have hfz31_0 := qj BK101.out 0
     have hfz31_1 := qj BK101.out 1
     have hfz31_2 := qj BK101.out 2
     have hfz31_3 := qj BK101.out 3
     go_wp2_with (first | (go_at_call 73; (with_reducible refine (spec_l1Rd_once.calls g s0_0 t109 2 t110 t111 w0 _ ?side1 ?side2 A27.out).mono ?_); (case side1 => exact yq84); (case side2 => exact yq86); rintro e w32 ⟨rfl, hi, hb, hk⟩; replace BK101 := Qz.mk (KeepBut.blk hk (g' := gb101) (o := .cells #[.slice A1_0 l1_0.length c1_0, .int .i64 a1_1, .int .i64 a1_2, .int .i64 a1_3] 32 (0, 0)) yq87 NB101_0.out (by simp)); replace BK102 := Qz.mk (KeepBut.blk hk (g' := gb102) (o := .cells #[.slice none 0 0, .slice none 0 0, .int .i64 0, .int .i64 0, .int .i64 0] 37 (0, 0)) yq88 NB102_0.out (by simp)); replace BK107 := Qz.mk (KeepBut.blk hk (g' := gb107) (o := .cells #[.slice none 0 0, .slice none 0 0, .int .i64 (wrap64 (a1_1 + t103)), .int .i64 (wrap64 (a1_2 + t105)), .int .i64 x108004_5] 37 (0, 0)) yq90 NB107_0.out (by simp)); replace HK := Qz.mk (KeepBut.trans yq85 hk (.inl rfl)); replace HB := Qz.mk (hb); replace HI0 := Qz.mk (hi); (try clear hb); (try clear hk); (try clear hi)))
     go_meet
     case rel => exact ⟨_, (t110), (t111), yq117, H', ⟨by have := HJ5.out; first | omega | exact Nat.le_refl _⟩, ⟨by (with_reducible repeat (first | refine qc ?_ _ | refine qf ?_ | refine qa ?_ _)); exact BK101.out⟩, ⟨by (with_reducible repeat (first | refine qc ?_ _ | refine qf ?_ | refine qa ?_ _)); exact BK102.out⟩, ⟨by (with_reducible repeat (first | refine qc ?_ _ | refine qf ?_ | refine qa ?_ _)); exact BK107.out⟩, ⟨by repeat (first | (with_reducible first | exact HI0.out | apply IsS123.alloc | apply IsS123.drewN | apply IsS123.drew | apply IsS123.set_1 | apply (fun h_ => IsS123.far h_ NB0_101.out _) | apply (fun h_ => IsS123.far h_ NB0_102.out _) | apply (fun h_ => IsS123.far h_ NB0_107.out _)) | exact HI0.out)⟩, ⟨by repeat (first | (with_reducible first | exact HK.out | apply KeepBut.set_ | apply qn | apply qp | apply qo | refine qk ?_ GW101.out _ | refine qk ?_ GW102.out _ | refine qk ?_ GW107.out _) | exact HK.out)⟩, ⟨by repeat (first | (with_reducible first | exact HB.out | apply qi | apply qd | apply qh | refine qe ?_ (IsS123.ge HI0.out) | refine qe ?_ GE101.out | refine qe ?_ GE102.out | refine qe ?_ GE107.out) | exact HB.out)⟩⟩
    ·rw [if_neg c26] at H
     have c26b0 : decide (0 < (l1_0.length : Int)) = false := decide_eq_false c26
     have c26b1 : decide (0 < l1_0.length) = false := decide_eq_false (by omega)
     clear c26
     (first | rw [c26b0] | (simp only [i64_w, i32_w]; rw [c26b0]) | skip)
     have H' := Qz.mk H
     clear H
     have hnb33 := NB101_102.out
     have hnc33 := NB102_101.out
     have hnb34 := NB101_107.out
     have hnc34 := NB107_101.out
     have hnb35 := NB101_0.out
     have hnc35 := NB0_101.out
     have hcz36_0 := (qg BK101.out 0).trans rfl
     have hcz36_1 := (qg BK101.out 1).trans rfl
     have hcz36_2 := (qg BK101.out 2).trans rfl
     have hcz36_3 := (qg BK101.out 3).trans rfl
     have hfz36_0 := qj BK101.out 0
     have hfz36_1 := qj BK101.out 1
     have hfz36_2 := qj BK101.out 2
     have hfz36_3 := qj BK101.out 3
     go_wp2
     go_meet
     case rel => exact ⟨_, (false), (t109), yq117, H', ⟨by have := HJ5.out; first | omega | exact Nat.le_refl _⟩, ⟨by (with_reducible repeat (first | refine qc ?_ _ | refine qf ?_ | refine qa ?_ _)); exact BK101.out⟩, ⟨by (with_reducible repeat (first | refine qc ?_ _ | refine qf ?_ | refine qa ?_ _)); exact BK102.out⟩, ⟨by (with_reducible repeat (first | refine qc ?_ _ | refine qf ?_ | refine qa ?_ _)); exact BK107.out⟩, ⟨by repeat (first | (with_reducible first | exact HI0.out | apply IsS123.alloc | apply IsS123.drewN | apply IsS123.drew | apply IsS123.set_1 | apply (fun h_ => IsS123.far h_ NB0_101.out _) | apply (fun h_ => IsS123.far h_ NB0_102.out _) | apply (fun h_ => IsS123.far h_ NB0_107.out _)) | exact HI0.out)⟩, ⟨by repeat (first | (with_reducible first | exact HK.out | apply KeepBut.set_ | apply qn | apply qp | apply qo | refine qk ?_ GW101.out _ | refine qk ?_ GW102.out _ | refine qk ?_ GW107.out _) | exact HK.out)⟩, ⟨by repeat (first | (with_reducible first | exact HB.out | apply qi | apply qd | apply qh | refine qe ?_ (IsS123.ge HI0.out) | refine qe ?_ GE101.out | refine qe ?_ GE102.out | refine qe ?_ GE107.out) | exact HB.out)⟩⟩
   case rest =>
    clear HC25
    (try clear c1);(try clear c2);(try clear p2);(try clear c3);(try clear p6);(try clear c7);(try clear c8);(try clear c20);(try clear c21);(try clear c22);(try clear c23);(try clear c26);(try clear c26b0);(try clear c26b1);(try clear c28);(try clear c29);(try clear c30);(try clear c33);(try clear c34);(try clear c35);(try clear hcz24_0);(try clear hcz24_1);(try clear hcz24_2);(try clear hcz24_3);(try clear hcz24_4);(try clear hcz31_0);(try clear hcz31_1);(try clear hcz31_2);(try clear hcz31_3);(try clear hcz36_0);(try clear hcz36_1);(try clear hcz36_2);(try clear hcz36_3);(try clear hfz24_0);(try clear hfz24_1);(try clear hfz24_2);(try clear hfz24_3);(try clear hfz24_4);(try clear hfz31_0);(try clear hfz31_1);(try clear hfz31_2);(try clear hfz31_3);(try clear hfz36_0);(try clear hfz36_1);(try clear hfz36_2);(try clear hfz36_3);(try clear p2);(try clear p6)
    obtain ⟨kq, x34_24, x1001_24, rfl, HA, HJ24, BK101, BK102, BK107, HI0, HK, HB⟩ := hcut
    cases kq with
    | zero => exact absurd HA.out (by simp [spec_l1Rd_edit.j1])
    | succ kj24 =>
     have H := HA.out
     clear HA
     simp only [spec_l1Rd_edit.j1] at H
     have HC37 := Qz.mk H
     clear H
     go_upto_if 34 with (fail)
     go_cut [] (fun wc => ∃ (kq : Nat) (x1001_36 : Int) (x108001_36 : List Int) (u108001 : Value), Qz (spec_l1Rd_edit.j2 kq s0_0 x1001_36 x108001_36 (wrap64 (a1_1 + t103)) (wrap64 (a1_2 + t105)) x108004_5 = some (r1, r2, r3, r4, r5, r6)) ∧ Qz (kq ≤ kj24) ∧ Qz (Kd.R (Kd.int .i64) 2 wc w.heap.size (fun _ => True) u108001 x108001_36) ∧ Qz (wc.heap[gb101]? = some (.cells #[(.slice A1_0 l1_0.length c1_0), .int .i64 a1_1, .int .i64 a1_2, .int .i64 a1_3] 32 (0, 0))) ∧ Qz (wc.heap[gb102]? = some (.cells #[(.slice none 0 0), (.slice none 0 0), .int .i64 0, .int .i64 0, .int .i64 0] 37 (0, 0))) ∧ Qz (wc.heap[gb107]? = some (.cells #[(.slice none 0 0), u108001, .int .i64 (wrap64 (a1_1 + t103)), .int .i64 (wrap64 (a1_2 + t105)), .int .i64 x108004_5] 37 (0, 0))) ∧ Qz (IsS123 w0 wc g s0_0 x1001_36) ∧ Qz (KeepBut w wc g none) ∧ Qz (Below w0.heap.size w0 wc))
     case first =>
      have H := HC37.out
      clear HC37
      by_cases c38 : x34_24 = true
      ·subst c38
       have H1 : ((spec_l1Rd_below.f s0_0 x1001_24 (l1_0.length : Int)).bind fun bt112 => (if 0 ≤ bt112.1 then (if bt112.1 < (l1_0.length : Int) then (if ([] : List Int).length < 17592186044416 then (spec_l1Rd_edit.j2 kj24 s0_0 bt112.2 (([] : List Int) ++ [(qv l1_0 bt112.1).f0]) (wrap64 (a1_1 + t103)) (wrap64 (a1_2 + t105)) x108004_5) else (none)) else (none)) else (none))) = some (r1, r2, r3, r4, r5, r6) := by rw [if_pos rfl] at H; exact H
       clear H
       have H := H1
       clear H1
       replace H := Option.bind_eq_some_iff.mp H
       obtain ⟨⟨t112, t113⟩, A390, H⟩ := H
       replace H : (if 0 ≤ t112 then (if t112 < (l1_0.length : Int) then (if ([] : List Int).length < 17592186044416 then (spec_l1Rd_edit.j2 kj24 s0_0 t113 (([] : List Int) ++ [(qv l1_0 t112).f0]) (wrap64 (a1_1 + t103)) (wrap64 (a1_2 + t105)) x108004_5) else (none)) else (none)) else (none)) = some (r1, r2, r3, r4, r5, r6) := H
       have A39 := Qz.mk A390
       clear A390
       by_cases c40 : 0 ≤ t112
       ·rw [if_pos c40] at H
        have c40b0 : decide (0 ≤ t112) = true := decide_eq_true c40
        clear c40
        (first | rw [c40b0] | (simp only [i64_w, i32_w]; rw [c40b0]) | skip)
        by_cases c41 : t112 < (l1_0.length : Int)
        ·rw [if_pos c41] at H
         have c41b0 : decide (t112 < (l1_0.length : Int)) = true := decide_eq_true c41
         clear c41
         by_cases c42 : ([] : List Int).length < 17592186044416
         ·rw [if_pos c42] at H
          have LMc42 := Qz.mk c42
          clear c42
          obtain ⟨y115, hy115⟩ : ∃ y_ : List Int, y_ = (([] : List Int) ++ [(qv l1_0 t112).f0]) := ⟨_, rfl⟩
          replace H : (spec_l1Rd_edit.j2 kj24 s0_0 t113 y115 (wrap64 (a1_1 + t103)) (wrap64 (a1_2 + t105)) x108004_5) = some (r1, r2, r3, r4, r5, r6) := by first | (rw [hy115]; with_reducible exact H) | (have H2_ := (Option.bind_some _ _).symm.trans H; rw [hy115]; with_reducible exact H2_) | (have H2_ := (Option.bind_some _ _).symm.trans H; with_reducible exact H2_) | with_reducible exact H | (rw [hy115]; exact H) | exact H
          have Ny115 := Qz.mk hy115
          clear hy115
          have H' := Qz.mk H
          clear H
          try go_wp2
          replace BK101 := Qz.mk (qf BK101.out)
          replace BK102 := Qz.mk (qf BK102.out)
          replace BK107 := Qz.mk (qf BK107.out)
          replace HI0 := Qz.mk (IsS123.drew HI0.out)
          replace HK := Qz.mk (qp HK.out)
          replace HB := Qz.mk (qh HB.out)
          have p114 : 0 ≤ (t112 : Int) := of_decide_eq_true (by first | (with_reducible assumption) | assumption)
          have q114 : t112 < (l1_0.length : Int) := of_decide_eq_true (by first | (with_reducible assumption) | assumption)
          obtain ⟨ad114, e114, hx114_0, hx114_1, hx114_2, hx114_3, hx114_4⟩ := at_T66 (Kd.C_foot_now HR1_0.out HK.out) t112 p114 q114
          have hw114_4 := hx114_4
          have hw114_3 := hx114_3
          have hw114_2 := hx114_2
          have hw114_1 := hx114_1
          have hw114_0 := hx114_0
          cases e114
          have hne114_4 := (show (⟨(ad114.add ((t112).toNat * 5)).block, (ad114.add ((t112).toNat * 5)).off + 4, none⟩ : Addr).block ≠ g from by first | (rw [add_block]; exact Kd.foot_ne HR1_0.out (by omega) (by decide)) | (show (Addr.add _ _).block ≠ _; rw [add_block]; exact Kd.foot_ne HR1_0.out (by omega) (by decide)) | exact Kd.foot_ne HR1_0.out (by omega) (by decide) | (dsimp only; exact Kd.foot_ne HR1_0.out (by omega) (by decide)))
          have hlt114_4 := (Kd.foot_lt HR1_0.out (by omega) (by decide))
          have hne114_3 := (show (⟨(ad114.add ((t112).toNat * 5)).block, (ad114.add ((t112).toNat * 5)).off + 3, none⟩ : Addr).block ≠ g from by first | (rw [add_block]; exact Kd.foot_ne HR1_0.out (by omega) (by decide)) | (show (Addr.add _ _).block ≠ _; rw [add_block]; exact Kd.foot_ne HR1_0.out (by omega) (by decide)) | exact Kd.foot_ne HR1_0.out (by omega) (by decide) | (dsimp only; exact Kd.foot_ne HR1_0.out (by omega) (by decide)))
          have hlt114_3 := (Kd.foot_lt HR1_0.out (by omega) (by decide))
          have hne114_2 := (show (⟨(ad114.add ((t112).toNat * 5)).block, (ad114.add ((t112).toNat * 5)).off + 2, none⟩ : Addr).block ≠ g from by first | (rw [add_block]; exact Kd.foot_ne HR1_0.out (by omega) (by decide)) | (show (Addr.add _ _).block ≠ _; rw [add_block]; exact Kd.foot_ne HR1_0.out (by omega) (by decide)) | exact Kd.foot_ne HR1_0.out (by omega) (by decide) | (dsimp only; exact Kd.foot_ne HR1_0.out (by omega) (by decide)))
          have hlt114_2 := (Kd.foot_lt HR1_0.out (by omega) (by decide))
          have hne114_1 := (show (⟨(ad114.add ((t112).toNat * 5)).block, (ad114.add ((t112).toNat * 5)).off + 1, none⟩ : Addr).block ≠ g from by first | (rw [add_block]; exact Kd.foot_ne HR1_0.out (by omega) (by decide)) | (show (Addr.add _ _).block ≠ _; rw [add_block]; exact Kd.foot_ne HR1_0.out (by omega) (by decide)) | exact Kd.foot_ne HR1_0.out (by omega) (by decide) | (dsimp only; exact Kd.foot_ne HR1_0.out (by omega) (by decide)))
          have hlt114_1 := (Kd.foot_lt HR1_0.out (by omega) (by decide))
          have hne114_0 := (show ((ad114.add ((t112).toNat * 5)) : Addr).block ≠ g from by first | (rw [add_block]; exact Kd.foot_ne HR1_0.out (by omega) (by decide)) | (show (Addr.add _ _).block ≠ _; rw [add_block]; exact Kd.foot_ne HR1_0.out (by omega) (by decide)) | exact Kd.foot_ne HR1_0.out (by omega) (by decide) | (dsimp only; exact Kd.foot_ne HR1_0.out (by omega) (by decide)))
          have hlt114_0 := (Kd.foot_lt HR1_0.out (by omega) (by decide))
          replace p114 := eq_true p114
          replace q114 := eq_true q114
          refine start_ (n := 16) (S := fun w' => w'.cell? ⟨gb107, 0, none⟩ = some (.slice none 0 0) ∧ w'.cell? ⟨gb107, 1, none⟩ = some (.slice none 0 0) ∧ w'.cell? ⟨gb107, 2, none⟩ = some (.int .i64 (wrap64 (a1_1 + t103))) ∧ w'.cell? ⟨gb107, 3, none⟩ = some (.int .i64 (wrap64 (a1_2 + t105))) ∧ w'.cell? ⟨gb107, 4, none⟩ = some (.int .i64 x108004_5) ∧ w'.cell? ⟨gb101, 0, none⟩ = some (.slice (some ad114) l1_0.length c1_0) ∧ w'.cell? ⟨gb101, 1, none⟩ = some (.int .i64 a1_1) ∧ w'.cell? ⟨gb101, 2, none⟩ = some (.int .i64 a1_2) ∧ w'.cell? ⟨gb101, 3, none⟩ = some (.int .i64 a1_3) ∧ w'.cell? (ad114.add ((t112).toNat * 5)) = some (.int .i64 ((qv l1_0 t112).f0)) ∧ w'.cell? ⟨(ad114.add ((t112).toNat * 5)).block, (ad114.add ((t112).toNat * 5)).off + 1, none⟩ = some (.int .i64 ((qv l1_0 t112).f1)) ∧ w'.cell? ⟨(ad114.add ((t112).toNat * 5)).block, (ad114.add ((t112).toNat * 5)).off + 2, none⟩ = some (.string ((qv l1_0 t112).f2)) ∧ w'.cell? ⟨(ad114.add ((t112).toNat * 5)).block, (ad114.add ((t112).toNat * 5)).off + 3, none⟩ = some (.string ((qv l1_0 t112).f3)) ∧ w'.cell? ⟨(ad114.add ((t112).toNat * 5)).block, (ad114.add ((t112).toNat * 5)).off + 4, none⟩ = some (.int .i64 ((qv l1_0 t112).f4))) (ds := [13, 15]) #[false, false, false, false, false, false, false, false, false, false, false, false, false, false, false, false] (by kernel_rfl) rfl rfl ⟨(qg BK107.out 0).trans rfl, (qg BK107.out 1).trans rfl, (qg BK107.out 2).trans rfl, (qg BK107.out 3).trans rfl, (qg BK107.out 4).trans rfl, (qg BK101.out 0).trans rfl, (qg BK101.out 1).trans rfl, (qg BK101.out 2).trans rfl, (qg BK101.out 3).trans rfl, hx114_0, hx114_1, hx114_2, hx114_3, hx114_4⟩ (fun hHeld => ?_); refine with_tabW spec_l1Rd_edit.tab5 spec_l1Rd_edit.bits5 (fun HT_ HW_ => ?_)
          generalize wc.drew = w43 at BK101 BK102 BK107 HI0 HK HB hx114_0 hx114_1 hx114_2 hx114_3 hx114_4 hHeld ⊢
          refine pure_ (i := 0) (N := some 35) (v := ?_) (a' := ?_) #[true, false, false, false, false, false, false, false, false, false, false, false, false, false, false, false] rfl rfl (qg1 HT_.out (by kernel_rfl)) (fun _ _ _ h => h) (Or.inl ⟨by rfl, ?_⟩) ?_ ?_
          rotate_left
          ·intro w'
           go_simp
           with_reducible rfl
          rotate_left
          ·simp only [Act.put, sq1, sq2, sq3, i64_w, i32_w]
           rfl
          refine pure_ (i := 2) (N := some 37) (v := ?_) (a' := ?_) #[true, false, true, false, false, false, false, false, false, false, false, false, false, false, false, false] rfl rfl (qg1 HT_.out (by kernel_rfl)) (fun _ _ _ h => h) (Or.inl ⟨by rfl, ?_⟩) ?_ ?_
          rotate_left
          ·intro w'
           go_simp
           with_reducible rfl
          rotate_left
          ·simp only [Act.put, sq1, sq2, sq3, i64_w, i32_w]
           rfl
          refine pure_ (i := 4) (N := some 39) (v := ?_) (a' := ?_) #[true, false, true, false, true, false, false, false, false, false, false, false, false, false, false, false] rfl rfl (qg1 HT_.out (by kernel_rfl)) (fun _ _ _ h => h) (Or.inl ⟨by rfl, ?_⟩) ?_ ?_
          rotate_left
          ·intro w'
           go_simp
           with_reducible rfl
          rotate_left
          ·simp only [Act.put, sq1, sq2, sq3, i64_w, i32_w]
           rfl
          refine pure_ (i := 5) (N := some 40) (v := ?_) (a' := ?_) #[true, false, true, false, true, true, false, false, false, false, false, false, false, false, false, false] rfl rfl (qg1 HT_.out (by kernel_rfl)) (fun _ _ _ h => h) (Or.inl ⟨by rfl, ?_⟩) ?_ ?_
          rotate_left
          ·intro w'
           go_simp
           with_reducible rfl
          rotate_left
          ·simp only [Act.put, sq1, sq2, sq3, i64_w, i32_w]
           rfl
          refine take_ (i := 1) (N := some 36) (v := ?_) (a' := ?_) #[true, true, true, false, true, true, false, false, false, false, false, false, false, false, false, false] rfl rfl (take_ofW HT_.out HW_.out (by kernel_rfl)) (fun _ _ _ h => h) (Or.inl ⟨by rfl, ?_⟩) hHeld ?_ ?_
          rotate_left
          ·rintro w' ⟨s0, s1, s2, s3, s4, s5, s6, s7, s8, s9, s10, s11, s12, s13⟩
           go_simp
           with_reducible rfl
          rotate_left
          ·simp only [Act.put, sq1, sq2, sq3, i64_w, i32_w]
           rfl
          refine take_ (i := 3) (N := some 38) (v := ?_) (a' := ?_) #[true, true, true, true, true, true, false, false, false, false, false, false, false, false, false, false] rfl rfl (take_ofW HT_.out HW_.out (by kernel_rfl)) (fun _ _ _ h => h) (Or.inl ⟨by rfl, ?_⟩) hHeld ?_ ?_
          rotate_left
          ·rintro w' ⟨s0, s1, s2, s3, s4, s5, s6, s7, s8, s9, s10, s11, s12, s13⟩
           go_simp
           with_reducible rfl
          rotate_left
          ·simp only [Act.put, sq1, sq2, sq3, i64_w, i32_w]
           rfl
          refine take_ (i := 6) (N := some 41) (v := ?_) (a' := ?_) #[true, true, true, true, true, true, true, false, false, false, false, false, false, false, false, false] rfl rfl (take_ofW HT_.out HW_.out (by kernel_rfl)) (fun _ _ _ h => h) (Or.inl ⟨by rfl, ?_⟩) hHeld ?_ ?_
          rotate_left
          ·rintro w' ⟨s0, s1, s2, s3, s4, s5, s6, s7, s8, s9, s10, s11, s12, s13⟩
           go_simp
           with_reducible rfl
          rotate_left
          ·simp only [Act.put, sq1, sq2, sq3, i64_w, i32_w]
           rfl
          refine pure_ (i := 7) (N := some 42) (v := ?_) (a' := ?_) #[true, true, true, true, true, true, true, true, false, false, false, false, false, false, false, false] rfl rfl (qg1 HT_.out (by kernel_rfl)) (fun _ _ _ h => h) (Or.inl ⟨by rfl, ?_⟩) ?_ ?_
          rotate_left
          ·intro w'
           go_simp
           with_reducible rfl
          rotate_left
          ·simp only [Act.put, sq1, sq2, sq3, i64_w, i32_w]
           rfl
          refine one_ (i := 8) (N := some 43) #[true, true, true, true, true, true, true, true, true, false, false, false, false, false, false, false] rfl rfl (one_of HT_.out (by kernel_rfl)) (by decide) (fun K hK => ?_)
          refine goes_ Try.func80 (by kernel_rfl) rfl #[.pointer (some ⟨g, 0, none⟩), .int .i64 (l1_0.length : Int)] (by rfl) rfl rfl (by (try simp only [List.map_toArray, List.map_cons, List.map_nil]); first | done | rfl | (simp only [List.length_drop, List.length_take]; rfl) | (rw [IntWalk.u64_in _ (by omega)] <;> rfl)) ?_
          with_reducible refine (spec_l1Rd_below.calls g s0_0 x1001_24 (l1_0.length : Int) t112 t113 w0 _ ?side1 ?side2 A39.out).mono ?_
          (case side1 => exact yq84)
          (case side2 => exact yq86)
          rintro e w44 ⟨rfl, hi, hb, hk⟩
          have HS9_ := keep_cell hk (hHeld.2.2.2.2.2.2.2.2.2.1) (by first | (rw [add_block]; exact hne114_0) | (show (Addr.add _ _).block ≠ _; rw [add_block]; exact hne114_0) | exact hne114_0)
          have HS10_ := keep_cell hk (hHeld.2.2.2.2.2.2.2.2.2.2.1) (by first | (rw [add_block]; exact hne114_1) | (show (Addr.add _ _).block ≠ _; rw [add_block]; exact hne114_1) | exact hne114_1)
          have HS11_ := keep_cell hk (hHeld.2.2.2.2.2.2.2.2.2.2.2.1) (by first | (rw [add_block]; exact hne114_2) | (show (Addr.add _ _).block ≠ _; rw [add_block]; exact hne114_2) | exact hne114_2)
          have HS12_ := keep_cell hk (hHeld.2.2.2.2.2.2.2.2.2.2.2.2.1) (by first | (rw [add_block]; exact hne114_3) | (show (Addr.add _ _).block ≠ _; rw [add_block]; exact hne114_3) | exact hne114_3)
          have HS13_ := keep_cell hk (hHeld.2.2.2.2.2.2.2.2.2.2.2.2.2) (by first | (rw [add_block]; exact hne114_4) | (show (Addr.add _ _).block ≠ _; rw [add_block]; exact hne114_4) | exact hne114_4)
          refine ⟨_, rfl, ?_⟩
          replace BK101 := Qz.mk (KeepBut.blk hk (g' := gb101) (o := .cells #[.slice (some ad114) l1_0.length c1_0, .int .i64 a1_1, .int .i64 a1_2, .int .i64 a1_3] 32 (0, 0)) yq87 NB101_0.out (by simp))
          replace BK102 := Qz.mk (KeepBut.blk hk (g' := gb102) (o := .cells #[.slice none 0 0, .slice none 0 0, .int .i64 0, .int .i64 0, .int .i64 0] 37 (0, 0)) yq88 NB102_0.out (by simp))
          replace BK107 := Qz.mk (KeepBut.blk hk (g' := gb107) (o := .cells #[.slice none 0 0, .slice none 0 0, .int .i64 (wrap64 (a1_1 + t103)), .int .i64 (wrap64 (a1_2 + t105)), .int .i64 x108004_5] 37 (0, 0)) yq90 NB107_0.out (by simp))
          replace HK := Qz.mk (KeepBut.trans yq85 hk (.inl rfl))
          replace HB := Qz.mk (hb)
          replace HI0 := Qz.mk (hi)
          (try clear hb)
          (try clear hk)
          (try clear hi)
          refine hK.out _ _ ⟨(qg BK107.out 0).trans rfl, (qg BK107.out 1).trans rfl, (qg BK107.out 2).trans rfl, (qg BK107.out 3).trans rfl, (qg BK107.out 4).trans rfl, (qg BK101.out 0).trans rfl, (qg BK101.out 1).trans rfl, (qg BK101.out 2).trans rfl, (qg BK101.out 3).trans rfl, HS9_, HS10_, HS11_, HS12_, HS13_⟩ (fun hHeld => ?_)
          clear hK K
          refine norm_ (a' := ?_) ?_ ?_
          rotate_left
          ·show Act.put _ (some 43) _ = _
           simp only [Act.put, sq1, sq2, sq3, i64_w, i32_w]
           rfl
          refine pure_ (i := 9) (N := some 44) (v := ?_) (a' := ?_) #[true, true, true, true, true, true, true, true, true, true, false, false, false, false, false, false] rfl rfl (qg1 HT_.out (by kernel_rfl)) (fun _ _ _ h => h) (Or.inl ⟨by rfl, ?_⟩) ?_ ?_
          rotate_left
          ·intro w'
           go_simp
           with_reducible rfl
          rotate_left
          ·simp only [Act.put, sq1, sq2, sq3, i64_w, i32_w]
           rfl
          refine pure_ (i := 10) (N := some 45) (v := ?_) (a' := ?_) #[true, true, true, true, true, true, true, true, true, true, true, false, false, false, false, false] rfl rfl (qg1 HT_.out (by kernel_rfl)) (fun _ _ _ h => h) (Or.inl ⟨by rfl, ?_⟩) ?_ ?_
          rotate_left
          ·intro w'
           go_simp
           with_reducible rfl
          rotate_left
          ·simp only [Act.put, sq1, sq2, sq3, i64_w, i32_w]
           rfl
          refine take_ (i := 11) (N := some 46) (v := ?_) (a' := ?_) #[true, true, true, true, true, true, true, true, true, true, true, true, false, false, false, false] rfl rfl (take_ofW HT_.out HW_.out (by kernel_rfl)) (fun _ _ _ h => h) (Or.inl ⟨by rfl, ?_⟩) hHeld ?_ ?_
          rotate_left
          ·rintro w' ⟨s0, s1, s2, s3, s4, s5, s6, s7, s8, s9, s10, s11, s12, s13⟩
           go_simp
           with_reducible rfl
          rotate_left
          ·simp only [Act.put, sq1, sq2, sq3, i64_w, i32_w]
           rfl
          refine one_ (i := 12) (N := some 47) #[true, true, true, true, true, true, true, true, true, true, true, true, true, false, false, false] rfl rfl (one_of HT_.out (by kernel_rfl)) (by decide) (fun K hK => ?_)
          refine value_ (w1 := ?_) (v := ?_) (by rfl) rfl ?_ ?_
          rotate_left 2
          ·go_simp
           constructor
           ·rfl
           ·rfl
          refine hK.out _ _ ⟨(qg (qa BK107.out _) 0).trans rfl, (qg (qa BK107.out _) 1).trans rfl, (qg (qa BK107.out _) 2).trans rfl, (qg (qa BK107.out _) 3).trans rfl, (qg (qa BK107.out _) 4).trans rfl, (qg (qa BK101.out _) 0).trans rfl, (qg (qa BK101.out _) 1).trans rfl, (qg (qa BK101.out _) 2).trans rfl, (qg (qa BK101.out _) 3).trans rfl, (World.cell?_alloc_lt _ _ _ (World.block_lt_of_cell? _ _ (hHeld.2.2.2.2.2.2.2.2.2.1))).trans (hHeld.2.2.2.2.2.2.2.2.2.1), (World.cell?_alloc_lt _ _ _ (World.block_lt_of_cell? _ _ (hHeld.2.2.2.2.2.2.2.2.2.2.1))).trans (hHeld.2.2.2.2.2.2.2.2.2.2.1), (World.cell?_alloc_lt _ _ _ (World.block_lt_of_cell? _ _ (hHeld.2.2.2.2.2.2.2.2.2.2.2.1))).trans (hHeld.2.2.2.2.2.2.2.2.2.2.2.1), (World.cell?_alloc_lt _ _ _ (World.block_lt_of_cell? _ _ (hHeld.2.2.2.2.2.2.2.2.2.2.2.2.1))).trans (hHeld.2.2.2.2.2.2.2.2.2.2.2.2.1), (World.cell?_alloc_lt _ _ _ (World.block_lt_of_cell? _ _ (hHeld.2.2.2.2.2.2.2.2.2.2.2.2.2))).trans (hHeld.2.2.2.2.2.2.2.2.2.2.2.2.2)⟩ (fun hHeld => ?_)
          clear hK K
          refine norm_ (a' := ?_) ?_ ?_
          rotate_left
          ·show Act.put _ (some 47) _ = _
           simp only [Act.put, sq1, sq2, sq3, i64_w, i32_w]
           rfl
          refine last_ (i := 13) (N := some 48) #[true, true, true, true, true, true, true, true, true, true, true, true, true, true, false, false] rfl rfl (one_of HT_.out (by kernel_rfl)) (by decide) (fun K hK => ?_)
          refine Kd.R_append_step (Kd.int .i64) w.heap.size (by rfl) (.tmp 36) (.tmp 47) 25 2 (.int .i64 0) 8 rfl Try.underlying25 info2 rfl (by decide) (by omega) (.slice none 0 0) ([] : List Int) ((qv l1_0 t112).f0) [.int .i64 ((qv l1_0 t112).f0)] (fun _ => True) (fun _ => False) rfl rfl ?aP (fun _ hk => hk.elim) ?aF ?aO (Below.refl _ _) ?aS ?aL ?_
          (case aP => exact rfl)
          (case aF => exact (fun _ _ => trivial))
          (case aO => exact ((Kd.R_nil _ _ _ _ (fun _ => True))))
          (case aS => exact (qi1 (w := w) (g := g) (row := none) yq85))
          (case aL => have := LMc42.out; omega)
          intro v116 w45 ho hb hg hat
          rw [← Ny115.out] at ho
          replace BK101 := Qz.mk (blk_grown (g := gb101) (o := .cells #[.slice (some ad114) l1_0.length c1_0, .int .i64 a1_1, .int .i64 a1_2, .int .i64 a1_3] 32 (0, 0)) yq87 hg (by simp [Value.ownBlock]))
          replace BK102 := Qz.mk (blk_grown (g := gb102) (o := .cells #[.slice none 0 0, .slice none 0 0, .int .i64 0, .int .i64 0, .int .i64 0] 37 (0, 0)) yq88 hg (by simp [Value.ownBlock]))
          replace BK107 := Qz.mk (blk_grown (g := gb107) (o := .cells #[.slice none 0 0, .slice none 0 0, .int .i64 (wrap64 (a1_1 + t103)), .int .i64 (wrap64 (a1_2 + t105)), .int .i64 x108004_5] 37 (0, 0)) yq90 hg (by simp [Value.ownBlock]))
          replace HB := Qz.mk (below_weaken yq86 HL.out hb)
          replace HI0 := Qz.mk (IsS123.grown yq84 hg (by simp [Value.ownBlock]))
          replace HK := Qz.mk (KeepBut.trans yq85 (KeepBut.of_grown hg g) (.inl (by simp [Value.ownBlock])))
          have HO117 := Qz.mk (ho)
          clear ho hb hg hat
          obtain ⟨Ao46, co46, eo46⟩ := Kd.R_slice HO117.out
          (first | subst eo46 | (injection eo46 with f1_ f2_ f3_; have f4_ := f1_.symm; have f5_ := f3_.symm; clear f1_ f2_ f3_; subst f4_; subst f5_))
          refine hK.out _ _ ?_
          clear hK K
          refine norm_ (a' := ?_) ?_ ?_
          rotate_left
          ·show Act.put _ (some 48) _ = _
           simp only [Act.put, sq1, sq2, sq3, i64_w, i32_w]
           rfl
          refine pure_ (i := 14) (N := some 49) (v := ?_) (a' := ?_) #[true, true, true, true, true, true, true, true, true, true, true, true, true, true, true, false] rfl rfl (qg1 HT_.out (by kernel_rfl)) (fun _ _ _ h => h) (Or.inl ⟨by rfl, ?_⟩) ?_ ?_
          rotate_left
          ·intro w'
           go_simp
           with_reducible rfl
          rotate_left
          ·simp only [Act.put, sq1, sq2, sq3, i64_w, i32_w]
           rfl
          refine last_ (i := 15) (N := none) #[true, true, true, true, true, true, true, true, true, true, true, true, true, true, true, true] rfl rfl (one_of HT_.out (by kernel_rfl)) (by decide) (fun K hK => ?_)
          have hs47 : w45.cell? ⟨gb107, 1, none⟩ = some (.slice none 0 0) := (qg BK107.out 1).trans rfl
          have hfs47 := qj BK107.out 1
          have hns47_0 := NB101_107.out
          have hns47_1 := NB102_107.out
          have hms47_0 := NB107_101.out
          have hms47_1 := NB107_102.out
          refine skip_ (w1 := ?_) (by rfl) rfl ?_ ?_
          rotate_left
          ·go_simp
           rfl
          refine hK.out _ _ ?_
          clear hK K
          refine done_ (done_of HT_.out (by kernel_rfl)) ?_
          try go_wp2
          go_meet
          case rel => exact ⟨_, (t113), (y115), (.slice Ao46 y115.length co46), H', ⟨by have := HJ5.out; have := HJ24.out; first | omega | exact Nat.le_refl _⟩, ⟨by (with_reducible repeat (first | apply Kd.R_alloc | apply Kd.R_drewN | apply Kd.R_drew)); exact Kd.R_mono (Kd.R_far (p := ⟨gb107, 1, none⟩) (Kd.R_types HO117.out BK107.out (by decide)) (fun _ hk => hk.2) (.slice Ao46 y115.length co46)) (fun _ hk => trivial)⟩, ⟨by (with_reducible repeat (first | refine qc ?_ _ | refine qf ?_ | refine qa ?_ _)); refine qx ?_ NB101_107.out _; (with_reducible repeat (first | refine qc ?_ _ | refine qf ?_ | refine qa ?_ _)); exact BK101.out⟩, ⟨by (with_reducible repeat (first | refine qc ?_ _ | refine qf ?_ | refine qa ?_ _)); refine qx ?_ NB102_107.out _; (with_reducible repeat (first | refine qc ?_ _ | refine qf ?_ | refine qa ?_ _)); exact BK102.out⟩, ⟨by (with_reducible repeat (first | refine qc ?_ _ | refine qf ?_ | refine qa ?_ _)); refine qw (cs := #[.slice none 0 0, .slice none 0 0, .int .i64 (wrap64 (a1_1 + t103)), .int .i64 (wrap64 (a1_2 + t105)), .int .i64 x108004_5]) ?_ 1 _ rfl; (with_reducible repeat (first | refine qc ?_ _ | refine qf ?_ | refine qa ?_ _)); exact BK107.out⟩, ⟨by repeat (first | (with_reducible first | exact HI0.out | apply IsS123.alloc | apply IsS123.drewN | apply IsS123.drew | apply IsS123.set_1 | apply (fun h_ => IsS123.far h_ NB0_101.out _) | apply (fun h_ => IsS123.far h_ NB0_102.out _) | apply (fun h_ => IsS123.far h_ NB0_107.out _)) | exact HI0.out)⟩, ⟨by repeat (first | (with_reducible first | exact HK.out | apply KeepBut.set_ | apply qn | apply qp | apply qo | refine qk ?_ GW101.out _ | refine qk ?_ GW102.out _ | refine qk ?_ GW107.out _) | exact HK.out)⟩, ⟨by repeat (first | (with_reducible first | exact HB.out | apply qi | apply qd | apply qh | refine qe ?_ (IsS123.ge HI0.out) | refine qe ?_ GE101.out | refine qe ?_ GE102.out | refine qe ?_ GE107.out) | exact HB.out)⟩⟩
         ·rw [if_neg c42] at H
          exact absurd H (by simp)
        ·rw [if_neg c41] at H
         exact absurd H (by simp)
       ·rw [if_neg c40] at H
        exact absurd H (by simp)
      ·replace c38 := Bool.eq_false_iff.mpr c38
       subst c38
       have H1 : (spec_l1Rd_edit.j2 kj24 s0_0 x1001_24 ([] : List Int) (wrap64 (a1_1 + t103)) (wrap64 (a1_2 + t105)) x108004_5) = some (r1, r2, r3, r4, r5, r6) := by rw [if_neg (show ¬ (false = true) by decide)] at H; exact H
       clear H
       have H := H1
       clear H1
       have H' := Qz.mk H
       clear H
       go_wp2
       go_meet
       case rel => exact ⟨_, (x1001_24), (([] : List Int)), (.slice none 0 0), H', ⟨by have := HJ5.out; have := HJ24.out; first | omega | exact Nat.le_refl _⟩, ⟨by first | exact Kd.R_nil _ _ _ _ _ | exact Kd.N_nil _ _ _ _ _ | exact Kd.V_nil _ _ _ _ _ | exact Kd.Q_nil _ _ _ _ _ | exact Kd.S_nil _ _ _ _ _⟩, ⟨by (with_reducible repeat (first | refine qc ?_ _ | refine qf ?_ | refine qa ?_ _)); exact BK101.out⟩, ⟨by (with_reducible repeat (first | refine qc ?_ _ | refine qf ?_ | refine qa ?_ _)); exact BK102.out⟩, ⟨by (with_reducible repeat (first | refine qc ?_ _ | refine qf ?_ | refine qa ?_ _)); exact BK107.out⟩, ⟨by repeat (first | (with_reducible first | exact HI0.out | apply IsS123.alloc | apply IsS123.drewN | apply IsS123.drew | apply IsS123.set_1 | apply (fun h_ => IsS123.far h_ NB0_101.out _) | apply (fun h_ => IsS123.far h_ NB0_102.out _) | apply (fun h_ => IsS123.far h_ NB0_107.out _)) | exact HI0.out)⟩, ⟨by repeat (first | (with_reducible first | exact HK.out | apply KeepBut.set_ | apply qn | apply qp | apply qo | refine qk ?_ GW101.out _ | refine qk ?_ GW102.out _ | refine qk ?_ GW107.out _) | exact HK.out)⟩, ⟨by repeat (first | (with_reducible first | exact HB.out | apply qi | apply qd | apply qh | refine qe ?_ (IsS123.ge HI0.out) | refine qe ?_ GE101.out | refine qe ?_ GE102.out | refine qe ?_ GE107.out) | exact HB.out)⟩⟩
     case rest =>
      clear HC37
      (try clear c1);(try clear p1);(try clear q1);(try clear hx1);(try clear c2);(try clear p2);(try clear c3);(try clear c4);(try clear p6);(try clear c7);(try clear c8);(try clear p11);(try clear q11);(try clear hx11);(try clear c20);(try clear c21);(try clear c22);(try clear c23);(try clear c26);(try clear c26b0);(try clear c26b1);(try clear c28);(try clear c29);(try clear c30);(try clear c33);(try clear c34);(try clear c35);(try clear c38);(try clear c40);(try clear c40b0);(try clear c41);(try clear c41b0);(try clear c42);(try clear hcz24_0);(try clear hcz24_1);(try clear hcz24_2);(try clear hcz24_3);(try clear hcz24_4);(try clear hcz31_0);(try clear hcz31_1);(try clear hcz31_2);(try clear hcz31_3);(try clear hcz36_0);(try clear hcz36_1);(try clear hcz36_2);(try clear hcz36_3);(try clear hfz24_0);(try clear hfz24_1);(try clear hfz24_2);(try clear hfz24_3);(try clear hfz24_4);(try clear hfz31_0);(try clear hfz31_1);(try clear hfz31_2);(try clear hfz31_3);(try clear hfz36_0);(try clear hfz36_1);(try clear hfz36_2);(try clear hfz36_3);(try clear hx114_0);(try clear hx114_1);(try clear hx114_2);(try clear hx114_3);(try clear hx114_4);(try clear p114);(try clear p2);(try clear p6);(try clear q114)
      obtain ⟨kq, x1001_36, x108001_36, u108001, HA, HJ36, HO_108001, BK101, BK102, BK107, HI0, HK, HB⟩ := hcut
      cases kq with
      | zero => exact absurd HA.out (by simp [spec_l1Rd_edit.j2])
      | succ kj36 =>
       have H := HA.out
       clear HA
       simp only [spec_l1Rd_edit.j2] at H
       replace H := Option.bind_eq_some_iff.mp H
       obtain ⟨⟨t118, t119⟩, A480, H⟩ := H
       replace H : (spec_l1Rd_edit.l0 kj36 t118 s0_0 t119 ([] : List (S66)) x108001_36 (wrap64 (a1_1 + t103)) (wrap64 (a1_2 + t105)) x108004_5) = some (r1, r2, r3, r4, r5, r6) := H
       have A48 := Qz.mk A480
       clear A480
       have H' := Qz.mk H
       clear H
       go_wp2_with (first | ((with_reducible refine qm (f := 80) rfl ?_); refine qy (some 51) rfl rfl Try.func80 (by kernel_rfl) rfl #[.pointer (some ⟨g, 0, none⟩), .int .i64 3] rfl yq102 ?_; (with_reducible refine (spec_l1Rd_below.calls g s0_0 x1001_36 3 t118 t119 w0 _ ?side1 ?side2 A48.out).mono ?_); (case side1 => exact yq84); (case side2 => exact yq86); rintro e w49 ⟨rfl, hi, hb, hk⟩; refine ⟨_, rfl, ?_⟩; replace HO_108001 := Qz.mk (Kd.R_mono (Kd.R_keep (IsS123.apart (show IsS123 w0 _ g s0_0 x1001_36 from by repeat (first | (with_reducible first | exact HI0.out | apply IsS123.alloc | apply IsS123.drewN | apply IsS123.drew | apply IsS123.set_1 | apply (fun h_ => IsS123.far h_ NB0_101.out _) | apply (fun h_ => IsS123.far h_ NB0_102.out _) | apply (fun h_ => IsS123.far h_ NB0_107.out _)) | exact HI0.out)) yq97 (by decide)) hk (fun _ h => h.2)) (fun _ h => h.1)); replace BK101 := Qz.mk (KeepBut.blk hk (g' := gb101) (o := .cells #[.slice A1_0 l1_0.length c1_0, .int .i64 a1_1, .int .i64 a1_2, .int .i64 a1_3] 32 (0, 0)) yq87 NB101_0.out (by simp)); replace BK102 := Qz.mk (KeepBut.blk hk (g' := gb102) (o := .cells #[.slice none 0 0, .slice none 0 0, .int .i64 0, .int .i64 0, .int .i64 0] 37 (0, 0)) yq88 NB102_0.out (by simp)); replace BK107 := Qz.mk (KeepBut.blk hk (g' := gb107) (o := .cells #[.slice none 0 0, u108001, .int .i64 (wrap64 (a1_1 + t103)), .int .i64 (wrap64 (a1_2 + t105)), .int .i64 x108004_5] 37 (0, 0)) yq90 NB107_0.out (by simp)); replace HK := Qz.mk (KeepBut.trans yq85 hk (.inl rfl)); replace HB := Qz.mk (hb); replace HI0 := Qz.mk (hi); (try clear hb); (try clear hk); (try clear hi)))
       go_loopg [6] kj36 (fun kq v6 w' => ∃ (x6_4 : Int) (x1001_4 : Int) (x108000_4 : List (S66)) (u108000 : Value), v6 = .int .i64 x6_4 ∧ Qz (spec_l1Rd_edit.l0 kq x6_4 s0_0 x1001_4 x108000_4 x108001_36 (wrap64 (a1_1 + t103)) (wrap64 (a1_2 + t105)) x108004_5 = some (r1, r2, r3, r4, r5, r6)) ∧ Qz (kq ≤ kj36) ∧ Qz (Kd.R k66 66 w' w.heap.size (fun _ => True) u108000 x108000_4) ∧ Qz (Kd.R (Kd.int .i64) 2 w' w.heap.size (fun _ => True) u108001 x108001_36) ∧ Qz (w'.heap[gb101]? = some (.cells #[(.slice A1_0 l1_0.length c1_0), .int .i64 a1_1, .int .i64 a1_2, .int .i64 a1_3] 32 (0, 0))) ∧ Qz (w'.heap[gb102]? = some (.cells #[(.slice none 0 0), (.slice none 0 0), .int .i64 0, .int .i64 0, .int .i64 0] 37 (0, 0))) ∧ Qz (w'.heap[gb107]? = some (.cells #[u108000, u108001, .int .i64 (wrap64 (a1_1 + t103)), .int .i64 (wrap64 (a1_2 + t105)), .int .i64 x108004_5] 37 (0, 0))) ∧ Qz (IsS123 w0 w' g s0_0 x1001_4) ∧ Qz (KeepBut w w' g none) ∧ Qz (Below w0.heap.size w0 w'))
       case atStart => exact ⟨(t118), (t119), (([] : List (S66))), (.slice none 0 0), yq117, H', ⟨Nat.le_refl _⟩, ⟨by first | exact Kd.R_nil _ _ _ _ _ | exact Kd.N_nil _ _ _ _ _ | exact Kd.V_nil _ _ _ _ _ | exact Kd.Q_nil _ _ _ _ _ | exact Kd.S_nil _ _ _ _ _⟩, ⟨by (with_reducible repeat (first | apply Kd.R_alloc | apply Kd.R_drewN | apply Kd.R_drew)); exact HO_108001.out⟩, ⟨by (with_reducible repeat (first | refine qc ?_ _ | refine qf ?_ | refine qa ?_ _)); exact BK101.out⟩, ⟨by (with_reducible repeat (first | refine qc ?_ _ | refine qf ?_ | refine qa ?_ _)); exact BK102.out⟩, ⟨by (with_reducible repeat (first | refine qc ?_ _ | refine qf ?_ | refine qa ?_ _)); exact BK107.out⟩, ⟨by repeat (first | (with_reducible first | exact HI0.out | apply IsS123.alloc | apply IsS123.drewN | apply IsS123.drew | apply IsS123.set_1 | apply (fun h_ => IsS123.far h_ NB0_101.out _) | apply (fun h_ => IsS123.far h_ NB0_102.out _) | apply (fun h_ => IsS123.far h_ NB0_107.out _)) | exact HI0.out)⟩, ⟨by repeat (first | (with_reducible first | exact HK.out | apply KeepBut.set_ | apply qn | apply qp | apply qo | refine qk ?_ GW101.out _ | refine qk ?_ GW102.out _ | refine qk ?_ GW107.out _) | exact HK.out)⟩, ⟨by repeat (first | (with_reducible first | exact HB.out | apply qi | apply qd | apply qh | refine qe ?_ (IsS123.ge HI0.out) | refine qe ?_ GE101.out | refine qe ?_ GE102.out | refine qe ?_ GE107.out) | exact HB.out)⟩⟩
       case round =>
        clear H'
        (try clear c1);(try clear p1);(try clear q1);(try clear hx1);(try clear c2);(try clear p2);(try clear c3);(try clear c4);(try clear p6);(try clear c7);(try clear c8);(try clear p11);(try clear q11);(try clear hx11);(try clear c20);(try clear c21);(try clear c22);(try clear c23);(try clear c26);(try clear c26b0);(try clear c26b1);(try clear c28);(try clear c29);(try clear c30);(try clear c33);(try clear c34);(try clear c35);(try clear c38);(try clear c40);(try clear c40b0);(try clear c41);(try clear c41b0);(try clear c42);(try clear hcz24_0);(try clear hcz24_1);(try clear hcz24_2);(try clear hcz24_3);(try clear hcz24_4);(try clear hcz31_0);(try clear hcz31_1);(try clear hcz31_2);(try clear hcz31_3);(try clear hcz36_0);(try clear hcz36_1);(try clear hcz36_2);(try clear hcz36_3);(try clear hfz24_0);(try clear hfz24_1);(try clear hfz24_2);(try clear hfz24_3);(try clear hfz24_4);(try clear hfz31_0);(try clear hfz31_1);(try clear hfz31_2);(try clear hfz31_3);(try clear hfz36_0);(try clear hfz36_1);(try clear hfz36_2);(try clear hfz36_3);(try clear hx114_0);(try clear hx114_1);(try clear hx114_2);(try clear hx114_3);(try clear hx114_4);(try clear p1);(try clear p11);(try clear p114);(try clear p2);(try clear p6);(try clear q1);(try clear q11);(try clear q114)
        obtain ⟨x6_4, x1001_4, x108000_4, u108000, rfl, HA, HK4, HO_108000, HO_108001, BK101, BK102, BK107, HI0, HK, HB⟩ := hrel
        cases gk with
        | zero => exact absurd HA.out (by simp [spec_l1Rd_edit.l0])
        | succ k4 =>
         have H := HA.out
         clear HA
         simp only [spec_l1Rd_edit.l0] at H
         by_cases c50 : x6_4 > 0
         ·rw [if_pos c50] at H
          have c50b0 : decide (0 < x6_4) = true := decide_eq_true c50
          clear c50
          replace H := Option.bind_eq_some_iff.mp H
          obtain ⟨⟨t120, t121, t122, t123, t124, t125⟩, A510, H⟩ := H
          replace H : (if (wrap64 (a1_1 + t103)) > 1 then ((spec_l1Rd_once.f s0_0 t125 4).bind fun bt127 => (if bt127.1 = true then (if x108000_4.length < 2513169434916 then (spec_l1Rd_edit.l0 k4 (wrap64 (x6_4 - 1)) s0_0 bt127.2 (x108000_4 ++ [(⟨t120, t121, t122, t123, t124⟩ : S66)]) x108001_36 (wrap64 (a1_1 + t103)) (wrap64 (a1_2 + t105)) x108004_5) else (none)) else (if x108000_4.length < 2513169434916 then (spec_l1Rd_edit.l0 k4 (wrap64 (x6_4 - 1)) s0_0 bt127.2 (x108000_4 ++ [(⟨wrap64 ((wrap64 (a1_1 + t103)) - x6_4), t121, t122, t123, t124⟩ : S66)]) x108001_36 (wrap64 (a1_1 + t103)) (wrap64 (a1_2 + t105)) x108004_5) else (none)))) else (if x108000_4.length < 2513169434916 then (spec_l1Rd_edit.l0 k4 (wrap64 (x6_4 - 1)) s0_0 t125 (x108000_4 ++ [(⟨t120, t121, t122, t123, t124⟩ : S66)]) x108001_36 (wrap64 (a1_1 + t103)) (wrap64 (a1_2 + t105)) x108004_5) else (none))) = some (r1, r2, r3, r4, r5, r6) := H
          have A51 := Qz.mk A510
          clear A510
          by_cases c52 : (wrap64 (a1_1 + t103)) > 1
          ·rw [if_pos c52] at H
           have c52b0 : decide (1 < (wrap64 (a1_1 + t103))) = true := decide_eq_true c52
           clear c52
           replace H := Option.bind_eq_some_iff.mp H
           obtain ⟨⟨t127, t128⟩, A530, H⟩ := H
           replace H : (if t127 = true then (if x108000_4.length < 2513169434916 then (spec_l1Rd_edit.l0 k4 (wrap64 (x6_4 - 1)) s0_0 t128 (x108000_4 ++ [(⟨t120, t121, t122, t123, t124⟩ : S66)]) x108001_36 (wrap64 (a1_1 + t103)) (wrap64 (a1_2 + t105)) x108004_5) else (none)) else (if x108000_4.length < 2513169434916 then (spec_l1Rd_edit.l0 k4 (wrap64 (x6_4 - 1)) s0_0 t128 (x108000_4 ++ [(⟨wrap64 ((wrap64 (a1_1 + t103)) - x6_4), t121, t122, t123, t124⟩ : S66)]) x108001_36 (wrap64 (a1_1 + t103)) (wrap64 (a1_2 + t105)) x108004_5) else (none))) = some (r1, r2, r3, r4, r5, r6) := H
           have A53 := Qz.mk A530
           clear A530
           by_cases c54 : t127 = true
           ·subst c54
            have H1 : (if x108000_4.length < 2513169434916 then (spec_l1Rd_edit.l0 k4 (wrap64 (x6_4 - 1)) s0_0 t128 (x108000_4 ++ [(⟨t120, t121, t122, t123, t124⟩ : S66)]) x108001_36 (wrap64 (a1_1 + t103)) (wrap64 (a1_2 + t105)) x108004_5) else (none)) = some (r1, r2, r3, r4, r5, r6) := by rw [if_pos rfl] at H; exact H
            clear H
            have H := H1
            clear H1
            by_cases c55 : x108000_4.length < 2513169434916
            ·rw [if_pos c55] at H
             have LMc55 := Qz.mk c55
             clear c55
             obtain ⟨y129, hy129⟩ : ∃ y_ : List (S66), y_ = (x108000_4 ++ [(⟨t120, t121, t122, t123, t124⟩ : S66)]) := ⟨_, rfl⟩
             replace H : (spec_l1Rd_edit.l0 k4 (wrap64 (x6_4 - 1)) s0_0 t128 y129 x108001_36 (wrap64 (a1_1 + t103)) (wrap64 (a1_2 + t105)) x108004_5) = some (r1, r2, r3, r4, r5, r6) := by first | (rw [hy129]; with_reducible exact H) | (have H2_ := (Option.bind_some _ _).symm.trans H; rw [hy129]; with_reducible exact H2_) | (have H2_ := (Option.bind_some _ _).symm.trans H; with_reducible exact H2_) | with_reducible exact H | (rw [hy129]; exact H) | exact H
             have Ny129 := Qz.mk hy129
             clear hy129
             have H' := Qz.mk H
             clear H
             go_wp2_with (first | ((with_reducible refine qm (f := 103) rfl ?_); refine qy (some 57) rfl rfl Try.func103 (by kernel_rfl) rfl #[.pointer (some ⟨g, 0, none⟩)] rfl yq102 ?_; (with_reducible refine (spec_l1Rd_meta.calls k4 g s0_0 x1001_4 t120 t121 t122 t123 t124 t125 w0 _ ?side1 ?side2 A51.out).mono ?_); (case side1 => exact yq84); (case side2 => exact yq86); rintro e w56 ⟨rfl, hi, hb, hk⟩; refine ⟨_, rfl, ?_⟩; replace HO_108000 := Qz.mk (Kd.R_mono (Kd.R_keep (IsS123.apart (show IsS123 w0 _ g s0_0 x1001_4 from by repeat (first | (with_reducible first | exact HI0.out | apply IsS123.alloc | apply IsS123.drewN | apply IsS123.drew | apply IsS123.set_1 | apply (fun h_ => IsS123.far h_ NB0_101.out _) | apply (fun h_ => IsS123.far h_ NB0_102.out _) | apply (fun h_ => IsS123.far h_ NB0_107.out _)) | exact HI0.out)) yq99 (by decide)) hk (fun _ h => h.2)) (fun _ h => h.1)); replace HO_108001 := Qz.mk (Kd.R_mono (Kd.R_keep (IsS123.apart (show IsS123 w0 _ g s0_0 x1001_4 from by repeat (first | (with_reducible first | exact HI0.out | apply IsS123.alloc | apply IsS123.drewN | apply IsS123.drew | apply IsS123.set_1 | apply (fun h_ => IsS123.far h_ NB0_101.out _) | apply (fun h_ => IsS123.far h_ NB0_102.out _) | apply (fun h_ => IsS123.far h_ NB0_107.out _)) | exact HI0.out)) yq97 (by decide)) hk (fun _ h => h.2)) (fun _ h => h.1)); replace BK101 := Qz.mk (KeepBut.blk hk (g' := gb101) (o := .cells #[.slice A1_0 l1_0.length c1_0, .int .i64 a1_1, .int .i64 a1_2, .int .i64 a1_3] 32 (0, 0)) yq87 NB101_0.out (by simp)); replace BK102 := Qz.mk (KeepBut.blk hk (g' := gb102) (o := .cells #[.slice none 0 0, .slice none 0 0, .int .i64 0, .int .i64 0, .int .i64 0] 37 (0, 0)) yq88 NB102_0.out (by simp)); replace BK107 := Qz.mk (KeepBut.blk hk (g' := gb107) (o := .cells #[u108000, u108001, .int .i64 (wrap64 (a1_1 + t103)), .int .i64 (wrap64 (a1_2 + t105)), .int .i64 x108004_5] 37 (0, 0)) yq90 NB107_0.out (by simp)); replace HK := Qz.mk (KeepBut.trans yq85 hk (.inl rfl)); replace HB := Qz.mk (hb); replace HI0 := Qz.mk (hi); (try clear hb); (try clear hk); (try clear hi)) | ((with_reducible refine gate_dst (N := 7) rfl ?_); refine box_event ?hg (N := 7) ?hd (cs := #[.int .i64 0, .int .i64 0, .string (⟨#[]⟩ : ByteArray), .string (⟨#[]⟩ : ByteArray), .int .i64 0]) (t := 66) ?hr ?_; (case hd => rfl); (case hg => rfl); (case hr => exact yq111); intro gb126 hg w57 hbox hb; replace HO_108000 := Qz.mk (Kd.R_below (Kd.R_elderB yq99 gb126 (Nat.le_of_eq hg.symm)) hb); replace HO_108001 := Qz.mk (Kd.R_below yq97 hb); replace HB := Qz.mk (qq yq86 hb); have BK126 := Qz.mk (hbox); have GW126 := Qz.mk ((yq115 : w.heap.size ≤ gb126)); have GE126 := Qz.mk ((Nat.le_trans HW0.out (yq115 : w.heap.size ≤ gb126) : w0.heap.size ≤ gb126)); replace HK := Qz.mk (KeepBut.trans yq85 (KeepBut.of_below hb g none) (.inl rfl)); have NB101_126 := Qz.mk ((yq104 : gb101 ≠ gb126)); have NB126_101 := Qz.mk ((yq105 : gb126 ≠ gb101)); replace BK101 := Qz.mk (qu (g := gb101) (o := .cells #[.slice A1_0 l1_0.length c1_0, .int .i64 a1_1, .int .i64 a1_2, .int .i64 a1_3] 32 (0, 0)) yq87 hb); have NB102_126 := Qz.mk ((yq107 : gb102 ≠ gb126)); have NB126_102 := Qz.mk ((yq108 : gb126 ≠ gb102)); replace BK102 := Qz.mk (qu (g := gb102) (o := .cells #[.slice none 0 0, .slice none 0 0, .int .i64 0, .int .i64 0, .int .i64 0] 37 (0, 0)) yq88 hb); have NB107_126 := Qz.mk ((yq109 : gb107 ≠ gb126)); have NB126_107 := Qz.mk ((yq110 : gb126 ≠ gb107)); replace BK107 := Qz.mk (qu (g := gb107) (o := .cells #[u108000, u108001, .int .i64 (wrap64 (a1_1 + t103)), .int .i64 (wrap64 (a1_2 + t105)), .int .i64 x108004_5] 37 (0, 0)) yq90 hb); have NB0_126 := Qz.mk ((by rw [hg]; exact Nat.ne_of_lt (IsS123.lt (show IsS123 w0 _ g s0_0 t125 from by repeat (first | (with_reducible first | exact HI0.out | apply IsS123.alloc | apply IsS123.drewN | apply IsS123.drew | apply IsS123.set_1 | apply (fun h_ => IsS123.far h_ NB0_101.out _) | apply (fun h_ => IsS123.far h_ NB0_102.out _) | apply (fun h_ => IsS123.far h_ NB0_107.out _)) | exact HI0.out))) : g ≠ gb126)); have NB126_0 := Qz.mk ((by rw [hg]; exact Nat.ne_of_gt (IsS123.lt (show IsS123 w0 _ g s0_0 t125 from by repeat (first | (with_reducible first | exact HI0.out | apply IsS123.alloc | apply IsS123.drewN | apply IsS123.drew | apply IsS123.set_1 | apply (fun h_ => IsS123.far h_ NB0_101.out _) | apply (fun h_ => IsS123.far h_ NB0_102.out _) | apply (fun h_ => IsS123.far h_ NB0_107.out _)) | exact HI0.out))) : gb126 ≠ g)); replace HI0 := Qz.mk (IsS123.below yq84 hb); clear hb hbox hg; have hnb58 := NB126_101.out; have hnc58 := NB101_126.out; have hnb59 := NB126_102.out; have hnc59 := NB102_126.out; have hnb60 := NB126_107.out; have hnc60 := NB107_126.out; have hnb61 := NB126_0.out; have hnc61 := NB0_126.out; have hcz62_0 := (qg BK126.out 0).trans rfl; have hcz62_1 := (qg BK126.out 1).trans rfl; have hcz62_2 := (qg BK126.out 2).trans rfl; have hcz62_3 := (qg BK126.out 3).trans rfl; have hcz62_4 := (qg BK126.out 4).trans rfl; have hfz62_0 := qj BK126.out 0; have hfz62_1 := qj BK126.out 1; have hfz62_2 := qj BK126.out 2; have hfz62_3 := qj BK126.out 3; have hfz62_4 := qj BK126.out 4; have hnb63 := NB107_101.out; have hnc63 := NB101_107.out; have hnb64 := NB107_102.out; have hnc64 := NB102_107.out; have hnb65 := NB107_0.out; have hnc65 := NB0_107.out; have hcz66_0 := (qg BK107.out 0).trans rfl; have hcz66_1 := (qg BK107.out 1).trans rfl; have hcz66_2 : w57.cell? ⟨gb107, 2, none⟩ = some (.int .i64 (wrap64 (a1_1 + t103))) := (qg BK107.out 2).trans rfl; have hcz66_3 : w57.cell? ⟨gb107, 3, none⟩ = some (.int .i64 (wrap64 (a1_2 + t105))) := (qg BK107.out 3).trans rfl; have hcz66_4 := (qg BK107.out 4).trans rfl; have hfz66_0 := qj BK107.out 0; have hfz66_1 := qj BK107.out 1; have hfz66_2 := qj BK107.out 2; have hfz66_3 := qj BK107.out 3; have hfz66_4 := qj BK107.out 4) | (go_at_call 73; (with_reducible refine (spec_l1Rd_once.calls g s0_0 t125 4 true t128 w0 _ ?side1 ?side2 A53.out).mono ?_); (case side1 => exact yq93); (case side2 => exact yq103); rintro e w67 ⟨rfl, hi, hb, hk⟩; replace HO_108000 := Qz.mk (Kd.R_mono (Kd.R_keep (IsS123.apart (show IsS123 w0 _ g s0_0 t125 from by repeat (first | (with_reducible first | exact HI0.out | apply IsS123.alloc | apply IsS123.drewN | apply IsS123.drew | apply IsS123.set_1 | apply (fun h_ => IsS123.far h_ NB0_101.out _) | apply (fun h_ => IsS123.far h_ NB0_102.out _) | apply (fun h_ => IsS123.far h_ NB0_107.out _) | apply (fun h_ => IsS123.far h_ NB0_126.out _)) | exact HI0.out)) yq98 (by decide)) hk (fun _ h => h.2)) (fun _ h => h.1)); replace HO_108001 := Qz.mk (Kd.R_mono (Kd.R_keep (IsS123.apart (show IsS123 w0 _ g s0_0 t125 from by repeat (first | (with_reducible first | exact HI0.out | apply IsS123.alloc | apply IsS123.drewN | apply IsS123.drew | apply IsS123.set_1 | apply (fun h_ => IsS123.far h_ NB0_101.out _) | apply (fun h_ => IsS123.far h_ NB0_102.out _) | apply (fun h_ => IsS123.far h_ NB0_107.out _) | apply (fun h_ => IsS123.far h_ NB0_126.out _)) | exact HI0.out)) yq100 (by decide)) hk (fun _ h => h.2)) (fun _ h => h.1)); replace BK101 := Qz.mk (KeepBut.blk hk (g' := gb101) (o := .cells #[.slice A1_0 l1_0.length c1_0, .int .i64 a1_1, .int .i64 a1_2, .int .i64 a1_3] 32 (0, 0)) yq96 NB101_0.out (by simp)); replace BK102 := Qz.mk (KeepBut.blk hk (g' := gb102) (o := .cells #[.slice none 0 0, .slice none 0 0, .int .i64 0, .int .i64 0, .int .i64 0] 37 (0, 0)) yq95 NB102_0.out (by simp)); replace BK107 := Qz.mk (KeepBut.blk hk (g' := gb107) (o := .cells #[u108000, u108001, .int .i64 (wrap64 (a1_1 + t103)), .int .i64 (wrap64 (a1_2 + t105)), .int .i64 x108004_5] 37 (0, 0)) yq94 NB107_0.out (by simp)); replace BK126 := Qz.mk (KeepBut.blk hk (g' := gb126) (o := .cells #[.int .i64 t120, .int .i64 t121, .string t122, .string t123, .int .i64 t124] 66 (0, 0)) yq89 NB126_0.out (by simp)); replace HK := Qz.mk (KeepBut.trans yq92 hk (.inl rfl)); replace HB := Qz.mk (hb); replace HI0 := Qz.mk (hi); (try clear hb); (try clear hk); (try clear hi); have hcz68_0 := (qg BK107.out 0).trans rfl; have hcz68_1 := (qg BK107.out 1).trans rfl; have hcz68_2 : w67.cell? ⟨gb107, 2, none⟩ = some (.int .i64 (wrap64 (a1_1 + t103))) := (qg BK107.out 2).trans rfl; have hcz68_3 : w67.cell? ⟨gb107, 3, none⟩ = some (.int .i64 (wrap64 (a1_2 + t105))) := (qg BK107.out 3).trans rfl; have hcz68_4 := (qg BK107.out 4).trans rfl; have hfz68_0 := qj BK107.out 0; have hfz68_1 := qj BK107.out 1; have hfz68_2 := qj BK107.out 2; have hfz68_3 := qj BK107.out 3; have hfz68_4 := qj BK107.out 4; have hcz69_0 := (qg BK126.out 0).trans rfl; have hcz69_1 := (qg BK126.out 1).trans rfl; have hcz69_2 := (qg BK126.out 2).trans rfl; have hcz69_3 := (qg BK126.out 3).trans rfl; have hcz69_4 := (qg BK126.out 4).trans rfl; have hfz69_0 := qj BK126.out 0; have hfz69_1 := qj BK126.out 1; have hfz69_2 := qj BK126.out 2; have hfz69_3 := qj BK126.out 3; have hfz69_4 := qj BK126.out 4) | ((with_reducible refine gate_builtin (b := .append) (xs := #[.tmp 72, .tmp 74]) rfl ?_); at_builtin; refine Kd.R_append k66 w.heap.size rfl (.tmp 72) (.tmp 74) 30 66 (.agg #[(.int .i64 0), (.int .i64 0), (.string ⟨#[]⟩), (.string ⟨#[]⟩), (.int .i64 0)]) 56 rfl Try.underlying30 info66 rfl (by decide) (by omega) u108000 x108000_4 (⟨t120, t121, t122, t123, t124⟩ : S66) [.int .i64 t120, .int .i64 t121, .string t122, .string t123, .int .i64 t124] (fun k_ => k_ ≠ gb126) (fun _ => False) rfl rfl ?aP (fun _ hk => hk.elim) ?aF ?aO (Below.refl _ _) ?aS ?aL ?_; (case aP => exact k66_mkM _ _ _ (⟨t120, t121, t122, t123, t124⟩ : S66)); (case aF => exact (fun k_ hk => Kd.freshB (g := gb126) (o := .cells #[.int .i64 t120, .int .i64 t121, .string t122, .string t123, .int .i64 t124] 66 (0, 0)) (by (with_reducible repeat (first | refine qc ?_ _ | refine qf ?_ | refine qa ?_ _)); exact BK126.out) k_ hk)); (case aO => exact (by (with_reducible repeat (first | apply Kd.R_alloc | apply Kd.R_drewN | apply Kd.R_drew)); exact Kd.R_mono HO_108000.out (fun _ hk => hk.2))); (case aS => exact (qi1 (w := w) (g := g) (row := none) yq92)); (case aL => have := LMc55.out; omega); intro v130 w70 ho hb hg hat; rw [← Ny129.out] at ho; have n0_ := Qz.mk (Kd.R_over' yq97 (Kd.R_typed yq99) (by decide) hg); have n1_ := Qz.mk (blk_grown (g := gb101) (o := .cells #[.slice A1_0 l1_0.length c1_0, .int .i64 a1_1, .int .i64 a1_2, .int .i64 a1_3] 32 (0, 0)) yq87 hg (Kd.R_ne HO_108000.out BK101.out (by decide))); have n2_ := Qz.mk (blk_grown (g := gb102) (o := .cells #[.slice none 0 0, .slice none 0 0, .int .i64 0, .int .i64 0, .int .i64 0] 37 (0, 0)) yq88 hg (Kd.R_ne HO_108000.out BK102.out (by decide))); have n3_ := Qz.mk (blk_grown (g := gb107) (o := .cells #[u108000, u108001, .int .i64 (wrap64 (a1_1 + t103)), .int .i64 (wrap64 (a1_2 + t105)), .int .i64 x108004_5] 37 (0, 0)) yq90 hg (Kd.R_ne HO_108000.out BK107.out (by decide))); have n4_ := Qz.mk (IsS123.grown yq93 hg (IsS123.own_ne HI0.out HO_108000.out (by decide))); have n5_ := Qz.mk (blk_grown (g := gb126) (o := .cells #[.int .i64 t120, .int .i64 t121, .string t122, .string t123, .int .i64 t124] 66 (0, 0)) (by (with_reducible repeat (first | refine qc ?_ _ | refine qf ?_ | refine qa ?_ _)); exact BK126.out) hg (Kd.R_away HO_108000.out (fun _ hk => hk.2))); have n6_ := Qz.mk (below_weaken yq103 HL.out hb); have n7_ := Qz.mk (KeepBut.trans yq92 (KeepBut.of_grown hg g) (Kd.R_base2 HO_108000.out)); have n8_ := Qz.mk (ho); clear HO_108001; clear BK101; clear BK102; clear BK107; clear HI0; clear BK126; clear HB; clear HK; clear HO_108000; have HO_108001 := n0_; have BK101 := n1_; have BK102 := n2_; have BK107 := n3_; have HI0 := n4_; have BK126 := n5_; have HB := n6_; have HK := n7_; have HO131 := n8_; clear n0_ n1_ n2_ n3_ n4_ n5_ n6_ n7_ n8_; clear ho hb hg hat; obtain ⟨Ao71, co71, eo71⟩ := Kd.R_slice HO131.out; subst eo71; have hcz72_0 := (qg BK107.out 0).trans rfl; have hcz72_1 := (qg BK107.out 1).trans rfl; have hcz72_2 : w70.cell? ⟨gb107, 2, none⟩ = some (.int .i64 (wrap64 (a1_1 + t103))) := (qg BK107.out 2).trans rfl; have hcz72_3 : w70.cell? ⟨gb107, 3, none⟩ = some (.int .i64 (wrap64 (a1_2 + t105))) := (qg BK107.out 3).trans rfl; have hcz72_4 := (qg BK107.out 4).trans rfl; have hfz72_0 := qj BK107.out 0; have hfz72_1 := qj BK107.out 1; have hfz72_2 := qj BK107.out 2; have hfz72_3 := qj BK107.out 3; have hfz72_4 := qj BK107.out 4))
             go_roundg k4
             case measure => have := HJ5.out; have := HJ24.out; have := HJ36.out; have := HK4.out; omega
             case rel => exact ⟨(wrap64 (x6_4 - 1)), (t128), (y129), (.slice Ao71 y129.length co71), yq117, H', ⟨by have := HJ5.out; have := HJ24.out; have := HJ36.out; have := HK4.out; omega⟩, ⟨by (with_reducible repeat (first | apply Kd.R_alloc | apply Kd.R_drewN | apply Kd.R_drew)); exact Kd.R_mono (Kd.R_far (p := ⟨gb107, 0, none⟩) (Kd.R_types HO131.out BK107.out (by decide)) (fun _ hk => hk.2) (.slice Ao71 y129.length co71)) (fun _ hk => trivial)⟩, ⟨by (with_reducible repeat (first | apply Kd.R_alloc | apply Kd.R_drewN | apply Kd.R_drew)); exact Kd.R_mono (Kd.R_far (p := ⟨gb107, 0, none⟩) (Kd.R_types HO_108001.out BK107.out (by decide)) (fun _ hk => hk.2) (.slice Ao71 y129.length co71)) (fun _ hk => trivial)⟩, ⟨by (with_reducible repeat (first | refine qc ?_ _ | refine qf ?_ | refine qa ?_ _)); refine qx ?_ NB101_107.out _; (with_reducible repeat (first | refine qc ?_ _ | refine qf ?_ | refine qa ?_ _)); exact BK101.out⟩, ⟨by (with_reducible repeat (first | refine qc ?_ _ | refine qf ?_ | refine qa ?_ _)); refine qx ?_ NB102_107.out _; (with_reducible repeat (first | refine qc ?_ _ | refine qf ?_ | refine qa ?_ _)); exact BK102.out⟩, ⟨by (with_reducible repeat (first | refine qc ?_ _ | refine qf ?_ | refine qa ?_ _)); refine qw (cs := #[u108000, u108001, .int .i64 (wrap64 (a1_1 + t103)), .int .i64 (wrap64 (a1_2 + t105)), .int .i64 x108004_5]) ?_ 0 _ rfl; (with_reducible repeat (first | refine qc ?_ _ | refine qf ?_ | refine qa ?_ _)); exact BK107.out⟩, ⟨by repeat (first | (with_reducible first | exact HI0.out | apply IsS123.alloc | apply IsS123.drewN | apply IsS123.drew | apply IsS123.set_1 | apply (fun h_ => IsS123.far h_ NB0_101.out _) | apply (fun h_ => IsS123.far h_ NB0_102.out _) | apply (fun h_ => IsS123.far h_ NB0_107.out _) | apply (fun h_ => IsS123.far h_ NB0_126.out _)) | exact HI0.out)⟩, ⟨by repeat (first | (with_reducible first | exact HK.out | apply KeepBut.set_ | apply qn | apply qp | apply qo | refine qk ?_ GW101.out _ | refine qk ?_ GW102.out _ | refine qk ?_ GW107.out _ | refine qk ?_ GW126.out _) | exact HK.out)⟩, ⟨by repeat (first | (with_reducible first | exact HB.out | apply qi | apply qd | apply qh | refine qe ?_ (IsS123.ge HI0.out) | refine qe ?_ GE101.out | refine qe ?_ GE102.out | refine qe ?_ GE107.out | refine qe ?_ GE126.out) | exact HB.out)⟩⟩
            ·rw [if_neg c55] at H
             exact absurd H (by simp)
           ·replace c54 := Bool.eq_false_iff.mpr c54
            subst c54
            have H1 : (if x108000_4.length < 2513169434916 then (spec_l1Rd_edit.l0 k4 (wrap64 (x6_4 - 1)) s0_0 t128 (x108000_4 ++ [(⟨wrap64 ((wrap64 (a1_1 + t103)) - x6_4), t121, t122, t123, t124⟩ : S66)]) x108001_36 (wrap64 (a1_1 + t103)) (wrap64 (a1_2 + t105)) x108004_5) else (none)) = some (r1, r2, r3, r4, r5, r6) := by rw [if_neg (show ¬ (false = true) by decide)] at H; exact H
            clear H
            have H := H1
            clear H1
            by_cases c73 : x108000_4.length < 2513169434916
            ·rw [if_pos c73] at H
             have LMc73 := Qz.mk c73
             clear c73
             obtain ⟨y132, hy132⟩ : ∃ y_ : List (S66), y_ = (x108000_4 ++ [(⟨wrap64 ((wrap64 (a1_1 + t103)) - x6_4), t121, t122, t123, t124⟩ : S66)]) := ⟨_, rfl⟩
             replace H : (spec_l1Rd_edit.l0 k4 (wrap64 (x6_4 - 1)) s0_0 t128 y132 x108001_36 (wrap64 (a1_1 + t103)) (wrap64 (a1_2 + t105)) x108004_5) = some (r1, r2, r3, r4, r5, r6) := by first | (rw [hy132]; with_reducible exact H) | (have H2_ := (Option.bind_some _ _).symm.trans H; rw [hy132]; with_reducible exact H2_) | (have H2_ := (Option.bind_some _ _).symm.trans H; with_reducible exact H2_) | with_reducible exact H | (rw [hy132]; exact H) | exact H
             have Ny132 := Qz.mk hy132
             clear hy132
             have H' := Qz.mk H
             clear H
             go_wp2_with (first | ((with_reducible refine qm (f := 103) rfl ?_); refine qy (some 57) rfl rfl Try.func103 (by kernel_rfl) rfl #[.pointer (some ⟨g, 0, none⟩)] rfl yq102 ?_; (with_reducible refine (spec_l1Rd_meta.calls k4 g s0_0 x1001_4 t120 t121 t122 t123 t124 t125 w0 _ ?side1 ?side2 A51.out).mono ?_); (case side1 => exact yq84); (case side2 => exact yq86); rintro e w74 ⟨rfl, hi, hb, hk⟩; refine ⟨_, rfl, ?_⟩; replace HO_108000 := Qz.mk (Kd.R_mono (Kd.R_keep (IsS123.apart (show IsS123 w0 _ g s0_0 x1001_4 from by repeat (first | (with_reducible first | exact HI0.out | apply IsS123.alloc | apply IsS123.drewN | apply IsS123.drew | apply IsS123.set_1 | apply (fun h_ => IsS123.far h_ NB0_101.out _) | apply (fun h_ => IsS123.far h_ NB0_102.out _) | apply (fun h_ => IsS123.far h_ NB0_107.out _)) | exact HI0.out)) yq99 (by decide)) hk (fun _ h => h.2)) (fun _ h => h.1)); replace HO_108001 := Qz.mk (Kd.R_mono (Kd.R_keep (IsS123.apart (show IsS123 w0 _ g s0_0 x1001_4 from by repeat (first | (with_reducible first | exact HI0.out | apply IsS123.alloc | apply IsS123.drewN | apply IsS123.drew | apply IsS123.set_1 | apply (fun h_ => IsS123.far h_ NB0_101.out _) | apply (fun h_ => IsS123.far h_ NB0_102.out _) | apply (fun h_ => IsS123.far h_ NB0_107.out _)) | exact HI0.out)) yq97 (by decide)) hk (fun _ h => h.2)) (fun _ h => h.1)); replace BK101 := Qz.mk (KeepBut.blk hk (g' := gb101) (o := .cells #[.slice A1_0 l1_0.length c1_0, .int .i64 a1_1, .int .i64 a1_2, .int .i64 a1_3] 32 (0, 0)) yq87 NB101_0.out (by simp)); replace BK102 := Qz.mk (KeepBut.blk hk (g' := gb102) (o := .cells #[.slice none 0 0, .slice none 0 0, .int .i64 0, .int .i64 0, .int .i64 0] 37 (0, 0)) yq88 NB102_0.out (by simp)); replace BK107 := Qz.mk (KeepBut.blk hk (g' := gb107) (o := .cells #[u108000, u108001, .int .i64 (wrap64 (a1_1 + t103)), .int .i64 (wrap64 (a1_2 + t105)), .int .i64 x108004_5] 37 (0, 0)) yq90 NB107_0.out (by simp)); replace HK := Qz.mk (KeepBut.trans yq85 hk (.inl rfl)); replace HB := Qz.mk (hb); replace HI0 := Qz.mk (hi); (try clear hb); (try clear hk); (try clear hi)) | ((with_reducible refine gate_dst (N := 7) rfl ?_); refine box_event ?hg (N := 7) ?hd (cs := #[.int .i64 0, .int .i64 0, .string (⟨#[]⟩ : ByteArray), .string (⟨#[]⟩ : ByteArray), .int .i64 0]) (t := 66) ?hr ?_; (case hd => rfl); (case hg => rfl); (case hr => exact yq111); intro gb126 hg w75 hbox hb; replace HO_108000 := Qz.mk (Kd.R_below (Kd.R_elderB yq99 gb126 (Nat.le_of_eq hg.symm)) hb); replace HO_108001 := Qz.mk (Kd.R_below yq97 hb); replace HB := Qz.mk (qq yq86 hb); have BK126 := Qz.mk (hbox); have GW126 := Qz.mk ((yq115 : w.heap.size ≤ gb126)); have GE126 := Qz.mk ((Nat.le_trans HW0.out (yq115 : w.heap.size ≤ gb126) : w0.heap.size ≤ gb126)); replace HK := Qz.mk (KeepBut.trans yq85 (KeepBut.of_below hb g none) (.inl rfl)); have NB101_126 := Qz.mk ((yq104 : gb101 ≠ gb126)); have NB126_101 := Qz.mk ((yq105 : gb126 ≠ gb101)); replace BK101 := Qz.mk (qu (g := gb101) (o := .cells #[.slice A1_0 l1_0.length c1_0, .int .i64 a1_1, .int .i64 a1_2, .int .i64 a1_3] 32 (0, 0)) yq87 hb); have NB102_126 := Qz.mk ((yq107 : gb102 ≠ gb126)); have NB126_102 := Qz.mk ((yq108 : gb126 ≠ gb102)); replace BK102 := Qz.mk (qu (g := gb102) (o := .cells #[.slice none 0 0, .slice none 0 0, .int .i64 0, .int .i64 0, .int .i64 0] 37 (0, 0)) yq88 hb); have NB107_126 := Qz.mk ((yq109 : gb107 ≠ gb126)); have NB126_107 := Qz.mk ((yq110 : gb126 ≠ gb107)); replace BK107 := Qz.mk (qu (g := gb107) (o := .cells #[u108000, u108001, .int .i64 (wrap64 (a1_1 + t103)), .int .i64 (wrap64 (a1_2 + t105)), .int .i64 x108004_5] 37 (0, 0)) yq90 hb); have NB0_126 := Qz.mk ((by rw [hg]; exact Nat.ne_of_lt (IsS123.lt (show IsS123 w0 _ g s0_0 t125 from by repeat (first | (with_reducible first | exact HI0.out | apply IsS123.alloc | apply IsS123.drewN | apply IsS123.drew | apply IsS123.set_1 | apply (fun h_ => IsS123.far h_ NB0_101.out _) | apply (fun h_ => IsS123.far h_ NB0_102.out _) | apply (fun h_ => IsS123.far h_ NB0_107.out _)) | exact HI0.out))) : g ≠ gb126)); have NB126_0 := Qz.mk ((by rw [hg]; exact Nat.ne_of_gt (IsS123.lt (show IsS123 w0 _ g s0_0 t125 from by repeat (first | (with_reducible first | exact HI0.out | apply IsS123.alloc | apply IsS123.drewN | apply IsS123.drew | apply IsS123.set_1 | apply (fun h_ => IsS123.far h_ NB0_101.out _) | apply (fun h_ => IsS123.far h_ NB0_102.out _) | apply (fun h_ => IsS123.far h_ NB0_107.out _)) | exact HI0.out))) : gb126 ≠ g)); replace HI0 := Qz.mk (IsS123.below yq84 hb); clear hb hbox hg; have hnb76 := NB126_101.out; have hnc76 := NB101_126.out; have hnb77 := NB126_102.out; have hnc77 := NB102_126.out; have hnb78 := NB126_107.out; have hnc78 := NB107_126.out; have hnb79 := NB126_0.out; have hnc79 := NB0_126.out; have hcz80_0 := (qg BK126.out 0).trans rfl; have hcz80_1 := (qg BK126.out 1).trans rfl; have hcz80_2 := (qg BK126.out 2).trans rfl; have hcz80_3 := (qg BK126.out 3).trans rfl; have hcz80_4 := (qg BK126.out 4).trans rfl; have hfz80_0 := qj BK126.out 0; have hfz80_1 := qj BK126.out 1; have hfz80_2 := qj BK126.out 2; have hfz80_3 := qj BK126.out 3; have hfz80_4 := qj BK126.out 4; have hnb81 := NB107_101.out; have hnc81 := NB101_107.out; have hnb82 := NB107_102.out; have hnc82 := NB102_107.out; have hnb83 := NB107_0.out; have hnc83 := NB0_107.out; have hcz84_0 := (qg BK107.out 0).trans rfl; have hcz84_1 := (qg BK107.out 1).trans rfl; have hcz84_2 : w75.cell? ⟨gb107, 2, none⟩ = some (.int .i64 (wrap64 (a1_1 + t103))) := (qg BK107.out 2).trans rfl; have hcz84_3 : w75.cell? ⟨gb107, 3, none⟩ = some (.int .i64 (wrap64 (a1_2 + t105))) := (qg BK107.out 3).trans rfl; have hcz84_4 := (qg BK107.out 4).trans rfl; have hfz84_0 := qj BK107.out 0; have hfz84_1 := qj BK107.out 1; have hfz84_2 := qj BK107.out 2; have hfz84_3 := qj BK107.out 3; have hfz84_4 := qj BK107.out 4) | (go_at_call 73; (with_reducible refine (spec_l1Rd_once.calls g s0_0 t125 4 false t128 w0 _ ?side1 ?side2 A53.out).mono ?_); (case side1 => exact yq93); (case side2 => exact yq103); rintro e w85 ⟨rfl, hi, hb, hk⟩; replace HO_108000 := Qz.mk (Kd.R_mono (Kd.R_keep (IsS123.apart (show IsS123 w0 _ g s0_0 t125 from by repeat (first | (with_reducible first | exact HI0.out | apply IsS123.alloc | apply IsS123.drewN | apply IsS123.drew | apply IsS123.set_1 | apply (fun h_ => IsS123.far h_ NB0_101.out _) | apply (fun h_ => IsS123.far h_ NB0_102.out _) | apply (fun h_ => IsS123.far h_ NB0_107.out _) | apply (fun h_ => IsS123.far h_ NB0_126.out _)) | exact HI0.out)) yq98 (by decide)) hk (fun _ h => h.2)) (fun _ h => h.1)); replace HO_108001 := Qz.mk (Kd.R_mono (Kd.R_keep (IsS123.apart (show IsS123 w0 _ g s0_0 t125 from by repeat (first | (with_reducible first | exact HI0.out | apply IsS123.alloc | apply IsS123.drewN | apply IsS123.drew | apply IsS123.set_1 | apply (fun h_ => IsS123.far h_ NB0_101.out _) | apply (fun h_ => IsS123.far h_ NB0_102.out _) | apply (fun h_ => IsS123.far h_ NB0_107.out _) | apply (fun h_ => IsS123.far h_ NB0_126.out _)) | exact HI0.out)) yq100 (by decide)) hk (fun _ h => h.2)) (fun _ h => h.1)); replace BK101 := Qz.mk (KeepBut.blk hk (g' := gb101) (o := .cells #[.slice A1_0 l1_0.length c1_0, .int .i64 a1_1, .int .i64 a1_2, .int .i64 a1_3] 32 (0, 0)) yq96 NB101_0.out (by simp)); replace BK102 := Qz.mk (KeepBut.blk hk (g' := gb102) (o := .cells #[.slice none 0 0, .slice none 0 0, .int .i64 0, .int .i64 0, .int .i64 0] 37 (0, 0)) yq95 NB102_0.out (by simp)); replace BK107 := Qz.mk (KeepBut.blk hk (g' := gb107) (o := .cells #[u108000, u108001, .int .i64 (wrap64 (a1_1 + t103)), .int .i64 (wrap64 (a1_2 + t105)), .int .i64 x108004_5] 37 (0, 0)) yq94 NB107_0.out (by simp)); replace BK126 := Qz.mk (KeepBut.blk hk (g' := gb126) (o := .cells #[.int .i64 t120, .int .i64 t121, .string t122, .string t123, .int .i64 t124] 66 (0, 0)) yq89 NB126_0.out (by simp)); replace HK := Qz.mk (KeepBut.trans yq92 hk (.inl rfl)); replace HB := Qz.mk (hb); replace HI0 := Qz.mk (hi); (try clear hb); (try clear hk); (try clear hi); have hcz86_0 := (qg BK107.out 0).trans rfl; have hcz86_1 := (qg BK107.out 1).trans rfl; have hcz86_2 : w85.cell? ⟨gb107, 2, none⟩ = some (.int .i64 (wrap64 (a1_1 + t103))) := (qg BK107.out 2).trans rfl; have hcz86_3 : w85.cell? ⟨gb107, 3, none⟩ = some (.int .i64 (wrap64 (a1_2 + t105))) := (qg BK107.out 3).trans rfl; have hcz86_4 := (qg BK107.out 4).trans rfl; have hfz86_0 := qj BK107.out 0; have hfz86_1 := qj BK107.out 1; have hfz86_2 := qj BK107.out 2; have hfz86_3 := qj BK107.out 3; have hfz86_4 := qj BK107.out 4; have hcz87_0 := (qg BK126.out 0).trans rfl; have hcz87_1 := (qg BK126.out 1).trans rfl; have hcz87_2 := (qg BK126.out 2).trans rfl; have hcz87_3 := (qg BK126.out 3).trans rfl; have hcz87_4 := (qg BK126.out 4).trans rfl; have hfz87_0 := qj BK126.out 0; have hfz87_1 := qj BK126.out 1; have hfz87_2 := qj BK126.out 2; have hfz87_3 := qj BK126.out 3; have hfz87_4 := qj BK126.out 4) | ((with_reducible refine gate_builtin (b := .append) (xs := #[.tmp 72, .tmp 74]) rfl ?_); at_builtin; refine Kd.R_append k66 w.heap.size rfl (.tmp 72) (.tmp 74) 30 66 (.agg #[(.int .i64 0), (.int .i64 0), (.string ⟨#[]⟩), (.string ⟨#[]⟩), (.int .i64 0)]) 56 rfl Try.underlying30 info66 rfl (by decide) (by omega) u108000 x108000_4 (⟨wrap64 ((wrap64 (a1_1 + t103)) - x6_4), t121, t122, t123, t124⟩ : S66) [.int .i64 (wrap64 ((wrap64 (a1_1 + t103)) - x6_4)), .int .i64 t121, .string t122, .string t123, .int .i64 t124] (fun k_ => k_ ≠ gb126) (fun _ => False) rfl yq111 ?aP (fun _ hk => hk.elim) ?aF ?aO (Below.refl _ _) ?aS ?aL ?_; (case aP => exact k66_mkM _ _ _ (⟨wrap64 ((wrap64 (a1_1 + t103)) - x6_4), t121, t122, t123, t124⟩ : S66)); (case aF => exact (fun k_ hk => Kd.freshB (g := gb126) (o := .cells #[.int .i64 (wrap64 ((wrap64 (a1_1 + t103)) - x6_4)), .int .i64 t121, .string t122, .string t123, .int .i64 t124] 66 (0, 0)) yq113 k_ hk)); (case aO => exact (by (with_reducible repeat (first | apply Kd.R_alloc | apply Kd.R_drewN | apply Kd.R_drew)); exact Kd.R_mono (Kd.R_far (p := ⟨gb126, 0, none⟩) (Kd.R_mono HO_108000.out (fun k_ hk => (⟨hk, hk.2⟩ : _ ∧ k_ ≠ gb126))) (fun _ hk => hk.2) (.int .i64 (wrap64 ((wrap64 (a1_1 + t103)) - x6_4)))) (fun _ hk => hk.1.2))); (case aS => exact (qi1 (w := w) (g := g) (row := none) yq92)); (case aL => have := LMc73.out; omega); intro v133 w88 ho hb hg hat; rw [← Ny132.out] at ho; have n0_ := Qz.mk (Kd.R_over' (by (with_reducible repeat (first | apply Kd.R_alloc | apply Kd.R_drewN | apply Kd.R_drew)); exact (Kd.R_mono (Kd.R_far (p := ⟨gb126, 0, none⟩) (Kd.R_types HO_108001.out BK126.out (by decide)) (fun _ hk => hk.2) (.int .i64 (wrap64 ((wrap64 (a1_1 + t103)) - x6_4)))) (fun _ h_ => h_.1))) (Kd.R_typed (by (with_reducible repeat (first | apply Kd.R_alloc | apply Kd.R_drewN | apply Kd.R_drew)); exact (Kd.R_mono (Kd.R_far (p := ⟨gb126, 0, none⟩) (Kd.R_mono HO_108000.out (fun k_ hk => (⟨hk, hk.2⟩ : _ ∧ k_ ≠ gb126))) (fun _ hk => hk.2) (.int .i64 (wrap64 ((wrap64 (a1_1 + t103)) - x6_4)))) (fun _ h_ => h_.1)))) (by decide) hg); have n1_ := Qz.mk (blk_grown (g := gb101) (o := .cells #[.slice A1_0 l1_0.length c1_0, .int .i64 a1_1, .int .i64 a1_2, .int .i64 a1_3] 32 (0, 0)) (by (with_reducible repeat (first | refine qc ?_ _ | refine qf ?_ | refine qa ?_ _)); refine qx ?_ NB101_126.out _; (with_reducible repeat (first | refine qc ?_ _ | refine qf ?_ | refine qa ?_ _)); exact BK101.out) hg (Kd.R_ne HO_108000.out BK101.out (by decide))); have n2_ := Qz.mk (blk_grown (g := gb102) (o := .cells #[.slice none 0 0, .slice none 0 0, .int .i64 0, .int .i64 0, .int .i64 0] 37 (0, 0)) (by (with_reducible repeat (first | refine qc ?_ _ | refine qf ?_ | refine qa ?_ _)); refine qx ?_ NB102_126.out _; (with_reducible repeat (first | refine qc ?_ _ | refine qf ?_ | refine qa ?_ _)); exact BK102.out) hg (Kd.R_ne HO_108000.out BK102.out (by decide))); have n3_ := Qz.mk (blk_grown (g := gb107) (o := .cells #[u108000, u108001, .int .i64 (wrap64 (a1_1 + t103)), .int .i64 (wrap64 (a1_2 + t105)), .int .i64 x108004_5] 37 (0, 0)) (by (with_reducible repeat (first | refine qc ?_ _ | refine qf ?_ | refine qa ?_ _)); refine qx ?_ NB107_126.out _; (with_reducible repeat (first | refine qc ?_ _ | refine qf ?_ | refine qa ?_ _)); exact BK107.out) hg (Kd.R_ne HO_108000.out BK107.out (by decide))); have n4_ := Qz.mk (IsS123.grown yq93 hg (IsS123.own_ne HI0.out HO_108000.out (by decide))); have n5_ := Qz.mk (blk_grown (g := gb126) (o := .cells #[.int .i64 (wrap64 ((wrap64 (a1_1 + t103)) - x6_4)), .int .i64 t121, .string t122, .string t123, .int .i64 t124] 66 (0, 0)) yq113 hg (Kd.R_away HO_108000.out (fun _ hk => hk.2))); have n6_ := Qz.mk (below_weaken yq103 HL.out hb); have n7_ := Qz.mk (KeepBut.trans yq92 (KeepBut.of_grown hg g) (Kd.R_base2 HO_108000.out)); have n8_ := Qz.mk (ho); clear HO_108001; clear BK101; clear BK102; clear BK107; clear HI0; clear BK126; clear HB; clear HK; clear HO_108000; have HO_108001 := n0_; have BK101 := n1_; have BK102 := n2_; have BK107 := n3_; have HI0 := n4_; have BK126 := n5_; have HB := n6_; have HK := n7_; have HO134 := n8_; clear n0_ n1_ n2_ n3_ n4_ n5_ n6_ n7_ n8_; clear ho hb hg hat; obtain ⟨Ao89, co89, eo89⟩ := Kd.R_slice HO134.out; subst eo89; have hcz90_0 := (qg BK107.out 0).trans rfl; have hcz90_1 := (qg BK107.out 1).trans rfl; have hcz90_2 : w88.cell? ⟨gb107, 2, none⟩ = some (.int .i64 (wrap64 (a1_1 + t103))) := (qg BK107.out 2).trans rfl; have hcz90_3 : w88.cell? ⟨gb107, 3, none⟩ = some (.int .i64 (wrap64 (a1_2 + t105))) := (qg BK107.out 3).trans rfl; have hcz90_4 := (qg BK107.out 4).trans rfl; have hfz90_0 := qj BK107.out 0; have hfz90_1 := qj BK107.out 1; have hfz90_2 := qj BK107.out 2; have hfz90_3 := qj BK107.out 3; have hfz90_4 := qj BK107.out 4))
             go_roundg k4
             case measure => have := HJ5.out; have := HJ24.out; have := HJ36.out; have := HK4.out; omega
             case rel => exact ⟨(wrap64 (x6_4 - 1)), (t128), (y132), (.slice Ao89 y132.length co89), yq117, H', ⟨by have := HJ5.out; have := HJ24.out; have := HJ36.out; have := HK4.out; omega⟩, ⟨by (with_reducible repeat (first | apply Kd.R_alloc | apply Kd.R_drewN | apply Kd.R_drew)); exact Kd.R_mono (Kd.R_far (p := ⟨gb107, 0, none⟩) (Kd.R_types HO134.out BK107.out (by decide)) (fun _ hk => hk.2) (.slice Ao89 y132.length co89)) (fun _ hk => trivial)⟩, ⟨by (with_reducible repeat (first | apply Kd.R_alloc | apply Kd.R_drewN | apply Kd.R_drew)); exact Kd.R_mono (Kd.R_far (p := ⟨gb107, 0, none⟩) (Kd.R_types HO_108001.out BK107.out (by decide)) (fun _ hk => hk.2) (.slice Ao89 y132.length co89)) (fun _ hk => trivial)⟩, ⟨by (with_reducible repeat (first | refine qc ?_ _ | refine qf ?_ | refine qa ?_ _)); refine qx ?_ NB101_107.out _; (with_reducible repeat (first | refine qc ?_ _ | refine qf ?_ | refine qa ?_ _)); exact BK101.out⟩, ⟨by (with_reducible repeat (first | refine qc ?_ _ | refine qf ?_ | refine qa ?_ _)); refine qx ?_ NB102_107.out _; (with_reducible repeat (first | refine qc ?_ _ | refine qf ?_ | refine qa ?_ _)); exact BK102.out⟩, ⟨by (with_reducible repeat (first | refine qc ?_ _ | refine qf ?_ | refine qa ?_ _)); refine qw (cs := #[u108000, u108001, .int .i64 (wrap64 (a1_1 + t103)), .int .i64 (wrap64 (a1_2 + t105)), .int .i64 x108004_5]) ?_ 0 _ rfl; (with_reducible repeat (first | refine qc ?_ _ | refine qf ?_ | refine qa ?_ _)); exact BK107.out⟩, ⟨by repeat (first | (with_reducible first | exact HI0.out | apply IsS123.alloc | apply IsS123.drewN | apply IsS123.drew | apply IsS123.set_1 | apply (fun h_ => IsS123.far h_ NB0_101.out _) | apply (fun h_ => IsS123.far h_ NB0_102.out _) | apply (fun h_ => IsS123.far h_ NB0_107.out _) | apply (fun h_ => IsS123.far h_ NB0_126.out _)) | exact HI0.out)⟩, ⟨by repeat (first | (with_reducible first | exact HK.out | apply KeepBut.set_ | apply qn | apply qp | apply qo | refine qk ?_ GW101.out _ | refine qk ?_ GW102.out _ | refine qk ?_ GW107.out _ | refine qk ?_ GW126.out _) | exact HK.out)⟩, ⟨by repeat (first | (with_reducible first | exact HB.out | apply qi | apply qd | apply qh | refine qe ?_ (IsS123.ge HI0.out) | refine qe ?_ GE101.out | refine qe ?_ GE102.out | refine qe ?_ GE107.out | refine qe ?_ GE126.out) | exact HB.out)⟩⟩
            ·rw [if_neg c73] at H
             exact absurd H (by simp)
          ·rw [if_neg c52] at H
           have c52b0 : decide (1 < (wrap64 (a1_1 + t103))) = false := decide_eq_false c52
           clear c52
           by_cases c91 : x108000_4.length < 2513169434916
           ·rw [if_pos c91] at H
            have LMc91 := Qz.mk c91
            clear c91
            obtain ⟨y135, hy135⟩ : ∃ y_ : List (S66), y_ = (x108000_4 ++ [(⟨t120, t121, t122, t123, t124⟩ : S66)]) := ⟨_, rfl⟩
            replace H : (spec_l1Rd_edit.l0 k4 (wrap64 (x6_4 - 1)) s0_0 t125 y135 x108001_36 (wrap64 (a1_1 + t103)) (wrap64 (a1_2 + t105)) x108004_5) = some (r1, r2, r3, r4, r5, r6) := by first | (rw [hy135]; with_reducible exact H) | (have H2_ := (Option.bind_some _ _).symm.trans H; rw [hy135]; with_reducible exact H2_) | (have H2_ := (Option.bind_some _ _).symm.trans H; with_reducible exact H2_) | with_reducible exact H | (rw [hy135]; exact H) | exact H
            have Ny135 := Qz.mk hy135
            clear hy135
            have H' := Qz.mk H
            clear H
            go_wp2_with (first | ((with_reducible refine qm (f := 103) rfl ?_); refine qy (some 57) rfl rfl Try.func103 (by kernel_rfl) rfl #[.pointer (some ⟨g, 0, none⟩)] rfl yq102 ?_; (with_reducible refine (spec_l1Rd_meta.calls k4 g s0_0 x1001_4 t120 t121 t122 t123 t124 t125 w0 _ ?side1 ?side2 A51.out).mono ?_); (case side1 => exact yq84); (case side2 => exact yq86); rintro e w92 ⟨rfl, hi, hb, hk⟩; refine ⟨_, rfl, ?_⟩; replace HO_108000 := Qz.mk (Kd.R_mono (Kd.R_keep (IsS123.apart (show IsS123 w0 _ g s0_0 x1001_4 from by repeat (first | (with_reducible first | exact HI0.out | apply IsS123.alloc | apply IsS123.drewN | apply IsS123.drew | apply IsS123.set_1 | apply (fun h_ => IsS123.far h_ NB0_101.out _) | apply (fun h_ => IsS123.far h_ NB0_102.out _) | apply (fun h_ => IsS123.far h_ NB0_107.out _)) | exact HI0.out)) yq99 (by decide)) hk (fun _ h => h.2)) (fun _ h => h.1)); replace HO_108001 := Qz.mk (Kd.R_mono (Kd.R_keep (IsS123.apart (show IsS123 w0 _ g s0_0 x1001_4 from by repeat (first | (with_reducible first | exact HI0.out | apply IsS123.alloc | apply IsS123.drewN | apply IsS123.drew | apply IsS123.set_1 | apply (fun h_ => IsS123.far h_ NB0_101.out _) | apply (fun h_ => IsS123.far h_ NB0_102.out _) | apply (fun h_ => IsS123.far h_ NB0_107.out _)) | exact HI0.out)) yq97 (by decide)) hk (fun _ h => h.2)) (fun _ h => h.1)); replace BK101 := Qz.mk (KeepBut.blk hk (g' := gb101) (o := .cells #[.slice A1_0 l1_0.length c1_0, .int .i64 a1_1, .int .i64 a1_2, .int .i64 a1_3] 32 (0, 0)) yq87 NB101_0.out (by simp)); replace BK102 := Qz.mk (KeepBut.blk hk (g' := gb102) (o := .cells #[.slice none 0 0, .slice none 0 0, .int .i64 0, .int .i64 0, .int .i64 0] 37 (0, 0)) yq88 NB102_0.out (by simp)); replace BK107 := Qz.mk (KeepBut.blk hk (g' := gb107) (o := .cells #[u108000, u108001, .int .i64 (wrap64 (a1_1 + t103)), .int .i64 (wrap64 (a1_2 + t105)), .int .i64 x108004_5] 37 (0, 0)) yq90 NB107_0.out (by simp)); replace HK := Qz.mk (KeepBut.trans yq85 hk (.inl rfl)); replace HB := Qz.mk (hb); replace HI0 := Qz.mk (hi); (try clear hb); (try clear hk); (try clear hi)) | ((with_reducible refine gate_dst (N := 7) rfl ?_); refine box_event ?hg (N := 7) ?hd (cs := #[.int .i64 0, .int .i64 0, .string (⟨#[]⟩ : ByteArray), .string (⟨#[]⟩ : ByteArray), .int .i64 0]) (t := 66) ?hr ?_; (case hd => rfl); (case hg => rfl); (case hr => exact yq111); intro gb126 hg w93 hbox hb; replace HO_108000 := Qz.mk (Kd.R_below (Kd.R_elderB yq99 gb126 (Nat.le_of_eq hg.symm)) hb); replace HO_108001 := Qz.mk (Kd.R_below yq97 hb); replace HB := Qz.mk (qq yq86 hb); have BK126 := Qz.mk (hbox); have GW126 := Qz.mk ((yq115 : w.heap.size ≤ gb126)); have GE126 := Qz.mk ((Nat.le_trans HW0.out (yq115 : w.heap.size ≤ gb126) : w0.heap.size ≤ gb126)); replace HK := Qz.mk (KeepBut.trans yq85 (KeepBut.of_below hb g none) (.inl rfl)); have NB101_126 := Qz.mk ((yq104 : gb101 ≠ gb126)); have NB126_101 := Qz.mk ((yq105 : gb126 ≠ gb101)); replace BK101 := Qz.mk (qu (g := gb101) (o := .cells #[.slice A1_0 l1_0.length c1_0, .int .i64 a1_1, .int .i64 a1_2, .int .i64 a1_3] 32 (0, 0)) yq87 hb); have NB102_126 := Qz.mk ((yq107 : gb102 ≠ gb126)); have NB126_102 := Qz.mk ((yq108 : gb126 ≠ gb102)); replace BK102 := Qz.mk (qu (g := gb102) (o := .cells #[.slice none 0 0, .slice none 0 0, .int .i64 0, .int .i64 0, .int .i64 0] 37 (0, 0)) yq88 hb); have NB107_126 := Qz.mk ((yq109 : gb107 ≠ gb126)); have NB126_107 := Qz.mk ((yq110 : gb126 ≠ gb107)); replace BK107 := Qz.mk (qu (g := gb107) (o := .cells #[u108000, u108001, .int .i64 (wrap64 (a1_1 + t103)), .int .i64 (wrap64 (a1_2 + t105)), .int .i64 x108004_5] 37 (0, 0)) yq90 hb); have NB0_126 := Qz.mk ((by rw [hg]; exact Nat.ne_of_lt (IsS123.lt (show IsS123 w0 _ g s0_0 t125 from by repeat (first | (with_reducible first | exact HI0.out | apply IsS123.alloc | apply IsS123.drewN | apply IsS123.drew | apply IsS123.set_1 | apply (fun h_ => IsS123.far h_ NB0_101.out _) | apply (fun h_ => IsS123.far h_ NB0_102.out _) | apply (fun h_ => IsS123.far h_ NB0_107.out _)) | exact HI0.out))) : g ≠ gb126)); have NB126_0 := Qz.mk ((by rw [hg]; exact Nat.ne_of_gt (IsS123.lt (show IsS123 w0 _ g s0_0 t125 from by repeat (first | (with_reducible first | exact HI0.out | apply IsS123.alloc | apply IsS123.drewN | apply IsS123.drew | apply IsS123.set_1 | apply (fun h_ => IsS123.far h_ NB0_101.out _) | apply (fun h_ => IsS123.far h_ NB0_102.out _) | apply (fun h_ => IsS123.far h_ NB0_107.out _)) | exact HI0.out))) : gb126 ≠ g)); replace HI0 := Qz.mk (IsS123.below yq84 hb); clear hb hbox hg; have hnb94 := NB126_101.out; have hnc94 := NB101_126.out; have hnb95 := NB126_102.out; have hnc95 := NB102_126.out; have hnb96 := NB126_107.out; have hnc96 := NB107_126.out; have hnb97 := NB126_0.out; have hnc97 := NB0_126.out; have hcz98_0 := (qg BK126.out 0).trans rfl; have hcz98_1 := (qg BK126.out 1).trans rfl; have hcz98_2 := (qg BK126.out 2).trans rfl; have hcz98_3 := (qg BK126.out 3).trans rfl; have hcz98_4 := (qg BK126.out 4).trans rfl; have hfz98_0 := qj BK126.out 0; have hfz98_1 := qj BK126.out 1; have hfz98_2 := qj BK126.out 2; have hfz98_3 := qj BK126.out 3; have hfz98_4 := qj BK126.out 4; have hnb99 := NB107_101.out; have hnc99 := NB101_107.out; have hnb100 := NB107_102.out; have hnc100 := NB102_107.out; have hnb101 := NB107_0.out; have hnc101 := NB0_107.out; have hcz102_0 := (qg BK107.out 0).trans rfl; have hcz102_1 := (qg BK107.out 1).trans rfl; have hcz102_2 : w93.cell? ⟨gb107, 2, none⟩ = some (.int .i64 (wrap64 (a1_1 + t103))) := (qg BK107.out 2).trans rfl; have hcz102_3 : w93.cell? ⟨gb107, 3, none⟩ = some (.int .i64 (wrap64 (a1_2 + t105))) := (qg BK107.out 3).trans rfl; have hcz102_4 := (qg BK107.out 4).trans rfl; have hfz102_0 := qj BK107.out 0; have hfz102_1 := qj BK107.out 1; have hfz102_2 := qj BK107.out 2; have hfz102_3 := qj BK107.out 3; have hfz102_4 := qj BK107.out 4) | ((with_reducible refine gate_builtin (b := .append) (xs := #[.tmp 72, .tmp 74]) rfl ?_); at_builtin; refine Kd.R_append k66 w.heap.size rfl (.tmp 72) (.tmp 74) 30 66 (.agg #[(.int .i64 0), (.int .i64 0), (.string ⟨#[]⟩), (.string ⟨#[]⟩), (.int .i64 0)]) 56 rfl Try.underlying30 info66 rfl (by decide) (by omega) u108000 x108000_4 (⟨t120, t121, t122, t123, t124⟩ : S66) [.int .i64 t120, .int .i64 t121, .string t122, .string t123, .int .i64 t124] (fun k_ => k_ ≠ gb126) (fun _ => False) rfl yq111 ?aP (fun _ hk => hk.elim) ?aF ?aO (Below.refl _ _) ?aS ?aL ?_; (case aP => exact k66_mkM _ _ _ (⟨t120, t121, t122, t123, t124⟩ : S66)); (case aF => exact (fun k_ hk => Kd.freshB (g := gb126) (o := .cells #[.int .i64 t120, .int .i64 t121, .string t122, .string t123, .int .i64 t124] 66 (0, 0)) yq89 k_ hk)); (case aO => exact (by (with_reducible repeat (first | apply Kd.R_alloc | apply Kd.R_drewN | apply Kd.R_drew)); exact Kd.R_mono (Kd.R_far (p := ⟨gb126, 4, none⟩) (Kd.R_far (p := ⟨gb126, 3, none⟩) (Kd.R_far (p := ⟨gb126, 2, none⟩) (Kd.R_far (p := ⟨gb126, 1, none⟩) (Kd.R_far (p := ⟨gb126, 0, none⟩) (Kd.R_mono HO_108000.out (fun k_ hk => (⟨hk, hk.2⟩ : _ ∧ k_ ≠ gb126))) (fun _ hk => hk.2) (.int .i64 t120)) (fun _ hk => hk.2) (.int .i64 t121)) (fun _ hk => hk.2) (.string t122)) (fun _ hk => hk.2) (.string t123)) (fun _ hk => hk.2) (.int .i64 t124)) (fun _ hk => hk.1.2))); (case aS => exact (qi1 (w := w) (g := g) (row := none) yq92)); (case aL => have := LMc91.out; omega); intro v136 w103 ho hb hg hat; rw [← Ny135.out] at ho; have n0_ := Qz.mk (Kd.R_over' yq100 (Kd.R_typed yq98) (by decide) hg); have n1_ := Qz.mk (blk_grown (g := gb101) (o := .cells #[.slice A1_0 l1_0.length c1_0, .int .i64 a1_1, .int .i64 a1_2, .int .i64 a1_3] 32 (0, 0)) yq96 hg (Kd.R_ne HO_108000.out BK101.out (by decide))); have n2_ := Qz.mk (blk_grown (g := gb102) (o := .cells #[.slice none 0 0, .slice none 0 0, .int .i64 0, .int .i64 0, .int .i64 0] 37 (0, 0)) yq95 hg (Kd.R_ne HO_108000.out BK102.out (by decide))); have n3_ := Qz.mk (blk_grown (g := gb107) (o := .cells #[u108000, u108001, .int .i64 (wrap64 (a1_1 + t103)), .int .i64 (wrap64 (a1_2 + t105)), .int .i64 x108004_5] 37 (0, 0)) yq94 hg (Kd.R_ne HO_108000.out BK107.out (by decide))); have n4_ := Qz.mk (IsS123.grown yq93 hg (IsS123.own_ne HI0.out HO_108000.out (by decide))); have n5_ := Qz.mk (blk_grown (g := gb126) (o := .cells #[.int .i64 t120, .int .i64 t121, .string t122, .string t123, .int .i64 t124] 66 (0, 0)) yq89 hg (Kd.R_away HO_108000.out (fun _ hk => hk.2))); have n6_ := Qz.mk (below_weaken yq103 HL.out hb); have n7_ := Qz.mk (KeepBut.trans yq92 (KeepBut.of_grown hg g) (Kd.R_base2 HO_108000.out)); have n8_ := Qz.mk (ho); clear HO_108001; clear BK101; clear BK102; clear BK107; clear HI0; clear BK126; clear HB; clear HK; clear HO_108000; have HO_108001 := n0_; have BK101 := n1_; have BK102 := n2_; have BK107 := n3_; have HI0 := n4_; have BK126 := n5_; have HB := n6_; have HK := n7_; have HO137 := n8_; clear n0_ n1_ n2_ n3_ n4_ n5_ n6_ n7_ n8_; clear ho hb hg hat; obtain ⟨Ao104, co104, eo104⟩ := Kd.R_slice HO137.out; subst eo104; have hcz105_0 := (qg BK107.out 0).trans rfl; have hcz105_1 := (qg BK107.out 1).trans rfl; have hcz105_2 : w103.cell? ⟨gb107, 2, none⟩ = some (.int .i64 (wrap64 (a1_1 + t103))) := (qg BK107.out 2).trans rfl; have hcz105_3 : w103.cell? ⟨gb107, 3, none⟩ = some (.int .i64 (wrap64 (a1_2 + t105))) := (qg BK107.out 3).trans rfl; have hcz105_4 := (qg BK107.out 4).trans rfl; have hfz105_0 := qj BK107.out 0; have hfz105_1 := qj BK107.out 1; have hfz105_2 := qj BK107.out 2; have hfz105_3 := qj BK107.out 3; have hfz105_4 := qj BK107.out 4))
            go_roundg k4
            case measure => have := HJ5.out; have := HJ24.out; have := HJ36.out; have := HK4.out; omega
            case rel => exact ⟨(wrap64 (x6_4 - 1)), (t125), (y135), (.slice Ao104 y135.length co104), yq117, H', ⟨by have := HJ5.out; have := HJ24.out; have := HJ36.out; have := HK4.out; omega⟩, ⟨by (with_reducible repeat (first | apply Kd.R_alloc | apply Kd.R_drewN | apply Kd.R_drew)); exact Kd.R_mono (Kd.R_far (p := ⟨gb107, 0, none⟩) (Kd.R_types HO137.out BK107.out (by decide)) (fun _ hk => hk.2) (.slice Ao104 y135.length co104)) (fun _ hk => trivial)⟩, ⟨by (with_reducible repeat (first | apply Kd.R_alloc | apply Kd.R_drewN | apply Kd.R_drew)); exact Kd.R_mono (Kd.R_far (p := ⟨gb107, 0, none⟩) (Kd.R_types HO_108001.out BK107.out (by decide)) (fun _ hk => hk.2) (.slice Ao104 y135.length co104)) (fun _ hk => trivial)⟩, ⟨by (with_reducible repeat (first | refine qc ?_ _ | refine qf ?_ | refine qa ?_ _)); refine qx ?_ NB101_107.out _; (with_reducible repeat (first | refine qc ?_ _ | refine qf ?_ | refine qa ?_ _)); exact BK101.out⟩, ⟨by (with_reducible repeat (first | refine qc ?_ _ | refine qf ?_ | refine qa ?_ _)); refine qx ?_ NB102_107.out _; (with_reducible repeat (first | refine qc ?_ _ | refine qf ?_ | refine qa ?_ _)); exact BK102.out⟩, ⟨by (with_reducible repeat (first | refine qc ?_ _ | refine qf ?_ | refine qa ?_ _)); refine qw (cs := #[u108000, u108001, .int .i64 (wrap64 (a1_1 + t103)), .int .i64 (wrap64 (a1_2 + t105)), .int .i64 x108004_5]) ?_ 0 _ rfl; (with_reducible repeat (first | refine qc ?_ _ | refine qf ?_ | refine qa ?_ _)); exact BK107.out⟩, ⟨by repeat (first | (with_reducible first | exact HI0.out | apply IsS123.alloc | apply IsS123.drewN | apply IsS123.drew | apply IsS123.set_1 | apply (fun h_ => IsS123.far h_ NB0_101.out _) | apply (fun h_ => IsS123.far h_ NB0_102.out _) | apply (fun h_ => IsS123.far h_ NB0_107.out _) | apply (fun h_ => IsS123.far h_ NB0_126.out _)) | exact HI0.out)⟩, ⟨by repeat (first | (with_reducible first | exact HK.out | apply KeepBut.set_ | apply qn | apply qp | apply qo | refine qk ?_ GW101.out _ | refine qk ?_ GW102.out _ | refine qk ?_ GW107.out _ | refine qk ?_ GW126.out _) | exact HK.out)⟩, ⟨by repeat (first | (with_reducible first | exact HB.out | apply qi | apply qd | apply qh | refine qe ?_ (IsS123.ge HI0.out) | refine qe ?_ GE101.out | refine qe ?_ GE102.out | refine qe ?_ GE107.out | refine qe ?_ GE126.out) | exact HB.out)⟩⟩
           ·rw [if_neg c91] at H
            exact absurd H (by simp)
         ·rw [if_neg c50] at H
          have c50b0 : decide (0 < x6_4) = false := decide_eq_false c50
          clear c50
          replace H := Option.bind_eq_some_iff.mp H
          obtain ⟨⟨t138, t139⟩, A1060, H⟩ := H
          replace H : (if t138 = true then ((spec_l1Rd_off.f k4 s0_0 t139 1 9).bind fun bt140 => (if x108001_36.length < 17592186044416 then (some (x108000_4, (x108001_36 ++ [bt140.1]), (wrap64 (a1_1 + t103)), (wrap64 (a1_2 + t105)), x108004_5, bt140.2)) else (none))) else (some (x108000_4, x108001_36, (wrap64 (a1_1 + t103)), (wrap64 (a1_2 + t105)), x108004_5, t139))) = some (r1, r2, r3, r4, r5, r6) := H
          have A106 := Qz.mk A1060
          clear A1060
          by_cases c107 : t138 = true
          ·subst c107
           have H1 : ((spec_l1Rd_off.f k4 s0_0 t139 1 9).bind fun bt140 => (if x108001_36.length < 17592186044416 then (some (x108000_4, (x108001_36 ++ [bt140.1]), (wrap64 (a1_1 + t103)), (wrap64 (a1_2 + t105)), x108004_5, bt140.2)) else (none))) = some (r1, r2, r3, r4, r5, r6) := by rw [if_pos rfl] at H; exact H
           clear H
           have H := H1
           clear H1
           replace H := Option.bind_eq_some_iff.mp H
           obtain ⟨⟨t140, t141⟩, A1080, H⟩ := H
           replace H : (if x108001_36.length < 17592186044416 then (some (x108000_4, (x108001_36 ++ [t140]), (wrap64 (a1_1 + t103)), (wrap64 (a1_2 + t105)), x108004_5, t141)) else (none)) = some (r1, r2, r3, r4, r5, r6) := H
           have A108 := Qz.mk A1080
           clear A1080
           by_cases c109 : x108001_36.length < 17592186044416
           ·rw [if_pos c109] at H
            have LMc109 := Qz.mk c109
            clear c109
            obtain ⟨y142, hy142⟩ : ∃ y_ : List Int, y_ = (x108001_36 ++ [t140]) := ⟨_, rfl⟩
            replace H : (some (x108000_4, y142, (wrap64 (a1_1 + t103)), (wrap64 (a1_2 + t105)), x108004_5, t141)) = some (r1, r2, r3, r4, r5, r6) := by first | (rw [hy142]; with_reducible exact H) | (have H2_ := (Option.bind_some _ _).symm.trans H; rw [hy142]; with_reducible exact H2_) | (have H2_ := (Option.bind_some _ _).symm.trans H; with_reducible exact H2_) | with_reducible exact H | (rw [hy142]; exact H) | exact H
            have Ny142 := Qz.mk hy142
            clear hy142
            simp only [Option.some.injEq, Prod.mk.injEq] at H
            obtain ⟨rfl, rfl, rfl, rfl, rfl, rfl⟩ := H
            try go_wp2_with (first | ((with_reducible refine qm (f := 73) rfl ?_); refine qy (some 78) rfl rfl Try.func73 (by kernel_rfl) rfl #[.pointer (some ⟨g, 0, none⟩), .int .i64 20] rfl yq102 ?_; (with_reducible refine (spec_l1Rd_once.calls g s0_0 x1001_4 20 true t139 w0 _ ?side1 ?side2 A106.out).mono ?_); (case side1 => exact yq84); (case side2 => exact yq86); rintro e w110 ⟨rfl, hi, hb, hk⟩; refine ⟨_, rfl, ?_⟩; replace HO_108000 := Qz.mk (Kd.R_mono (Kd.R_keep (IsS123.apart (show IsS123 w0 _ g s0_0 x1001_4 from by repeat (first | (with_reducible first | exact HI0.out | apply IsS123.alloc | apply IsS123.drewN | apply IsS123.drew | apply IsS123.set_1 | apply (fun h_ => IsS123.far h_ NB0_101.out _) | apply (fun h_ => IsS123.far h_ NB0_102.out _) | apply (fun h_ => IsS123.far h_ NB0_107.out _)) | exact HI0.out)) yq99 (by decide)) hk (fun _ h => h.2)) (fun _ h => h.1)); replace HO_108001 := Qz.mk (Kd.R_mono (Kd.R_keep (IsS123.apart (show IsS123 w0 _ g s0_0 x1001_4 from by repeat (first | (with_reducible first | exact HI0.out | apply IsS123.alloc | apply IsS123.drewN | apply IsS123.drew | apply IsS123.set_1 | apply (fun h_ => IsS123.far h_ NB0_101.out _) | apply (fun h_ => IsS123.far h_ NB0_102.out _) | apply (fun h_ => IsS123.far h_ NB0_107.out _)) | exact HI0.out)) yq97 (by decide)) hk (fun _ h => h.2)) (fun _ h => h.1)); replace BK101 := Qz.mk (KeepBut.blk hk (g' := gb101) (o := .cells #[.slice A1_0 l1_0.length c1_0, .int .i64 a1_1, .int .i64 a1_2, .int .i64 a1_3] 32 (0, 0)) yq87 NB101_0.out (by simp)); replace BK102 := Qz.mk (KeepBut.blk hk (g' := gb102) (o := .cells #[.slice none 0 0, .slice none 0 0, .int .i64 0, .int .i64 0, .int .i64 0] 37 (0, 0)) yq88 NB102_0.out (by simp)); replace BK107 := Qz.mk (KeepBut.blk hk (g' := gb107) (o := .cells #[u108000, u108001, .int .i64 (wrap64 (a1_1 + t103)), .int .i64 (wrap64 (a1_2 + t105)), .int .i64 x108004_5] 37 (0, 0)) yq90 NB107_0.out (by simp)); replace HK := Qz.mk (KeepBut.trans yq85 hk (.inl rfl)); replace HB := Qz.mk (hb); replace HI0 := Qz.mk (hi); (try clear hb); (try clear hk); (try clear hi)))
            replace HO_108000 := Qz.mk (Kd.R_drew HO_108000.out)
            replace HO_108001 := Qz.mk (Kd.R_drew HO_108001.out)
            replace BK101 := Qz.mk (qf BK101.out)
            replace BK102 := Qz.mk (qf BK102.out)
            replace BK107 := Qz.mk (qf BK107.out)
            replace HI0 := Qz.mk (IsS123.drew HI0.out)
            replace HK := Qz.mk (qp HK.out)
            replace HB := Qz.mk (qh HB.out)
            refine start_ (n := 8) (S := fun w' => w'.cell? ⟨gb107, 0, none⟩ = some (u108000) ∧ w'.cell? ⟨gb107, 1, none⟩ = some (u108001) ∧ w'.cell? ⟨gb107, 2, none⟩ = some (.int .i64 (wrap64 (a1_1 + t103))) ∧ w'.cell? ⟨gb107, 3, none⟩ = some (.int .i64 (wrap64 (a1_2 + t105))) ∧ w'.cell? ⟨gb107, 4, none⟩ = some (.int .i64 x108004_5)) (ds := [7]) bq2 (by kernel_rfl) rfl rfl ⟨(qg BK107.out 0).trans rfl, (qg BK107.out 1).trans rfl, (qg BK107.out 2).trans rfl, (qg BK107.out 3).trans rfl, (qg BK107.out 4).trans rfl⟩ (fun hHeld => ?_); refine with_tabW spec_l1Rd_edit.tab14 spec_l1Rd_edit.bits14 (fun HT_ HW_ => ?_)
            generalize w110.drew = w111 at HO_108000 HO_108001 BK101 BK102 BK107 HI0 HK HB hHeld ⊢
            refine pure_ (i := 0) (N := some 79) (v := ?_) (a' := ?_) bq5 rfl rfl (qg1 HT_.out (by kernel_rfl)) (fun _ _ _ h => h) (Or.inl ⟨by rfl, ?_⟩) ?_ ?_
            rotate_left
            ·intro w'
             go_simp
             with_reducible rfl
            rotate_left
            ·simp only [Act.put, sq1, sq2, sq3, i64_w, i32_w]
             rfl
            refine pure_ (i := 2) (N := some 81) (v := ?_) (a' := ?_) bq6 rfl rfl (qg1 HT_.out (by kernel_rfl)) (fun _ _ _ h => h) (Or.inl ⟨by rfl, ?_⟩) ?_ ?_
            rotate_left
            ·intro w'
             go_simp
             with_reducible rfl
            rotate_left
            ·simp only [Act.put, sq1, sq2, sq3, i64_w, i32_w]
             rfl
            refine take_ (i := 1) (N := some 80) (v := ?_) (a' := ?_) bq10 rfl rfl (take_ofW HT_.out HW_.out (by kernel_rfl)) (fun _ _ _ h => h) (Or.inl ⟨by rfl, ?_⟩) hHeld ?_ ?_
            rotate_left
            ·rintro w' ⟨s0, s1, s2, s3, s4⟩
             go_simp
             with_reducible rfl
            rotate_left
            ·simp only [Act.put, sq1, sq2, sq3, i64_w, i32_w]
             rfl
            refine one_ (i := 3) (N := some 82) bq13 rfl rfl (one_of HT_.out (by kernel_rfl)) (by decide) (fun K hK => ?_)
            refine goes_ Try.func72 (by kernel_rfl) rfl #[.pointer (some ⟨g, 0, none⟩), .int .i64 1, .int .i64 9] (by rfl) rfl rfl yq102 ?_
            with_reducible refine (spec_l1Rd_off.calls k4 g s0_0 t139 1 9 t140 t141 w0 _ ?side1 ?side2 A108.out).mono ?_
            (case side1 => exact yq84)
            (case side2 => exact yq86)
            rintro e w112 ⟨rfl, hi, hb, hk⟩
            refine ⟨_, rfl, ?_⟩
            replace HO_108000 := Qz.mk (Kd.R_mono (Kd.R_keep (IsS123.apart (show IsS123 w0 _ g s0_0 t139 from by repeat (first | (with_reducible first | exact HI0.out | apply IsS123.alloc | apply IsS123.drewN | apply IsS123.drew | apply IsS123.set_1 | apply (fun h_ => IsS123.far h_ NB0_101.out _) | apply (fun h_ => IsS123.far h_ NB0_102.out _) | apply (fun h_ => IsS123.far h_ NB0_107.out _)) | exact HI0.out)) yq99 (by decide)) hk (fun _ h => h.2)) (fun _ h => h.1))
            replace HO_108001 := Qz.mk (Kd.R_mono (Kd.R_keep (IsS123.apart (show IsS123 w0 _ g s0_0 t139 from by repeat (first | (with_reducible first | exact HI0.out | apply IsS123.alloc | apply IsS123.drewN | apply IsS123.drew | apply IsS123.set_1 | apply (fun h_ => IsS123.far h_ NB0_101.out _) | apply (fun h_ => IsS123.far h_ NB0_102.out _) | apply (fun h_ => IsS123.far h_ NB0_107.out _)) | exact HI0.out)) yq97 (by decide)) hk (fun _ h => h.2)) (fun _ h => h.1))
            replace BK101 := Qz.mk (KeepBut.blk hk (g' := gb101) (o := .cells #[.slice A1_0 l1_0.length c1_0, .int .i64 a1_1, .int .i64 a1_2, .int .i64 a1_3] 32 (0, 0)) yq87 NB101_0.out (by simp))
            replace BK102 := Qz.mk (KeepBut.blk hk (g' := gb102) (o := .cells #[.slice none 0 0, .slice none 0 0, .int .i64 0, .int .i64 0, .int .i64 0] 37 (0, 0)) yq88 NB102_0.out (by simp))
            replace BK107 := Qz.mk (KeepBut.blk hk (g' := gb107) (o := .cells #[u108000, u108001, .int .i64 (wrap64 (a1_1 + t103)), .int .i64 (wrap64 (a1_2 + t105)), .int .i64 x108004_5] 37 (0, 0)) yq90 NB107_0.out (by simp))
            replace HK := Qz.mk (KeepBut.trans yq85 hk (.inl rfl))
            replace HB := Qz.mk (hb)
            replace HI0 := Qz.mk (hi)
            (try clear hb)
            (try clear hk)
            (try clear hi)
            refine hK.out _ _ ⟨(qg BK107.out 0).trans rfl, (qg BK107.out 1).trans rfl, (qg BK107.out 2).trans rfl, (qg BK107.out 3).trans rfl, (qg BK107.out 4).trans rfl⟩ (fun hHeld => ?_)
            clear hK K
            refine norm_ (a' := ?_) ?_ ?_
            rotate_left
            ·show Act.put _ (some 82) _ = _
             simp only [Act.put, sq1, sq2, sq3, i64_w, i32_w]
             rfl
            refine one_ (i := 4) (N := some 83) bq16 rfl rfl (one_of HT_.out (by kernel_rfl)) (by decide) (fun K hK => ?_)
            refine value_ (w1 := ?_) (v := ?_) (by rfl) rfl ?_ ?_
            rotate_left 2
            ·go_simp
             constructor
             ·rfl
             ·rfl
            refine hK.out _ _ ⟨(qg (qa BK107.out _) 0).trans rfl, (qg (qa BK107.out _) 1).trans rfl, (qg (qa BK107.out _) 2).trans rfl, (qg (qa BK107.out _) 3).trans rfl, (qg (qa BK107.out _) 4).trans rfl⟩ (fun hHeld => ?_)
            clear hK K
            refine norm_ (a' := ?_) ?_ ?_
            rotate_left
            ·show Act.put _ (some 83) _ = _
             simp only [Act.put, sq1, sq2, sq3, i64_w, i32_w]
             rfl
            refine one_ (i := 5) (N := some 84) bq19 rfl rfl (one_of HT_.out (by kernel_rfl)) (by decide) (fun K hK => ?_)
            refine Kd.R_append_step (Kd.int .i64) w.heap.size (by rfl) (.tmp 80) (.tmp 83) 25 2 (.int .i64 0) 8 rfl Try.underlying25 info2 rfl (by decide) (by omega) u108001 x108001_36 t140 [.int .i64 t140] (fun _ => True) (fun _ => False) rfl rfl ?aP (fun _ hk => hk.elim) ?aF ?aO (Below.refl _ _) ?aS ?aL ?_
            (case aP => exact rfl)
            (case aF => exact (fun _ _ => trivial))
            (case aO => exact yq97)
            (case aS => exact (qi1 (w := w) (g := g) (row := none) yq85))
            (case aL => have := LMc109.out; omega)
            intro v143 w113 ho hb hg hat
            rw [← Ny142.out] at ho
            have n0_ := Qz.mk (Kd.R_over' yq99 (Kd.R_typed yq97) (by decide) hg)
            have n1_ := Qz.mk (blk_grown (g := gb101) (o := .cells #[.slice A1_0 l1_0.length c1_0, .int .i64 a1_1, .int .i64 a1_2, .int .i64 a1_3] 32 (0, 0)) yq87 hg (Kd.R_ne HO_108001.out BK101.out (by decide)))
            have n2_ := Qz.mk (blk_grown (g := gb102) (o := .cells #[.slice none 0 0, .slice none 0 0, .int .i64 0, .int .i64 0, .int .i64 0] 37 (0, 0)) yq88 hg (Kd.R_ne HO_108001.out BK102.out (by decide)))
            have n3_ := Qz.mk (blk_grown (g := gb107) (o := .cells #[u108000, u108001, .int .i64 (wrap64 (a1_1 + t103)), .int .i64 (wrap64 (a1_2 + t105)), .int .i64 x108004_5] 37 (0, 0)) yq90 hg (Kd.R_ne HO_108001.out BK107.out (by decide)))
            have n4_ := Qz.mk (IsS123.grown yq84 hg (IsS123.own_ne HI0.out HO_108001.out (by decide)))
            have n5_ := Qz.mk (below_weaken yq86 HL.out hb)
            have n6_ := Qz.mk (KeepBut.trans yq85 (KeepBut.of_grown hg g) (Kd.R_base2 HO_108001.out))
            have n7_ := Qz.mk (ho)
            clear HO_108000
            clear BK101
            clear BK102
            clear BK107
            clear HI0
            clear HB
            clear HK
            clear HO_108001
            have HO_108000 := n0_
            have BK101 := n1_
            have BK102 := n2_
            have BK107 := n3_
            have HI0 := n4_
            have HB := n5_
            have HK := n6_
            have HO144 := n7_
            clear n0_ n1_ n2_ n3_ n4_ n5_ n6_ n7_
            clear ho hb hg hat
            obtain ⟨Ao114, co114, eo114⟩ := Kd.R_slice HO144.out
            (first | subst eo114 | (injection eo114 with f1_ f2_ f3_; have f4_ := f1_.symm; have f5_ := f3_.symm; clear f1_ f2_ f3_; subst f4_; subst f5_))
            refine hK.out _ _ ⟨(qg BK107.out 0).trans rfl, (qg BK107.out 1).trans rfl, (qg BK107.out 2).trans rfl, (qg BK107.out 3).trans rfl, (qg BK107.out 4).trans rfl⟩ (fun hHeld => ?_)
            clear hK K
            refine norm_ (a' := ?_) ?_ ?_
            rotate_left
            ·show Act.put _ (some 84) _ = _
             simp only [Act.put, sq1, sq2, sq3, i64_w, i32_w]
             rfl
            refine pure_ (i := 6) (N := some 85) (v := ?_) (a' := ?_) bq22 rfl rfl (qg1 HT_.out (by kernel_rfl)) (fun _ _ _ h => h) (Or.inl ⟨by rfl, ?_⟩) ?_ ?_
            rotate_left
            ·intro w'
             go_simp
             with_reducible rfl
            rotate_left
            ·simp only [Act.put, sq1, sq2, sq3, i64_w, i32_w]
             rfl
            refine last_ (i := 7) (N := none) bq35 rfl rfl (one_of HT_.out (by kernel_rfl)) (by decide) (fun K hK => ?_)
            have hs115 : w113.cell? ⟨gb107, 1, none⟩ = some (u108001) := (qg BK107.out 1).trans rfl
            have hfs115 := qj BK107.out 1
            have hns115_0 := NB101_107.out
            have hns115_1 := NB102_107.out
            have hms115_0 := NB107_101.out
            have hms115_1 := NB107_102.out
            refine skip_ (w1 := ?_) (by rfl) rfl ?_ ?_
            rotate_left
            ·go_simp
             rfl
            refine hK.out _ _ ?_
            clear hK K
            refine done_ (done_of HT_.out (by kernel_rfl)) ?_
            have hnb116 := NB107_101.out
            have hnc116 := NB101_107.out
            have hnb117 := NB107_102.out
            have hnc117 := NB102_107.out
            have hnb118 := NB107_0.out
            have hnc118 := NB0_107.out
            have hcz119_0 := (qg BK107.out 0).trans rfl
            have hcz119_1 := (qg BK107.out 1).trans rfl
            have hcz119_2 : w113.cell? ⟨gb107, 2, none⟩ = some (.int .i64 (wrap64 (a1_1 + t103))) := (qg BK107.out 2).trans rfl
            have hcz119_3 : w113.cell? ⟨gb107, 3, none⟩ = some (.int .i64 (wrap64 (a1_2 + t105))) := (qg BK107.out 3).trans rfl
            have hcz119_4 := (qg BK107.out 4).trans rfl
            have hfz119_0 := qj BK107.out 0
            have hfz119_1 := qj BK107.out 1
            have hfz119_2 := qj BK107.out 2
            have hfz119_3 := qj BK107.out 3
            have hfz119_4 := qj BK107.out 4
            obtain ⟨Ao120, co120, eo120⟩ := Kd.R_slice HO_108000.out
            subst eo120
            have hnb121 := NB102_101.out
            have hnc121 := NB101_102.out
            have hnb122 := NB102_0.out
            have hnc122 := NB0_102.out
            have hcz123_0 := (qg BK102.out 0).trans rfl
            have hcz123_1 := (qg BK102.out 1).trans rfl
            have hcz123_2 := (qg BK102.out 2).trans rfl
            have hcz123_3 := (qg BK102.out 3).trans rfl
            have hcz123_4 := (qg BK102.out 4).trans rfl
            have hfz123_0 := qj BK102.out 0
            have hfz123_1 := qj BK102.out 1
            have hfz123_2 := qj BK102.out 2
            have hfz123_3 := qj BK102.out 3
            have hfz123_4 := qj BK102.out 4
            try go_wp2
            refine bodyPost_ret (results_cell_row rfl _ _ gb102 37 #[.slice Ao120 x108000_4.length co120, .slice Ao114 y142.length co114, .int .i64 (wrap64 (a1_1 + t103)), .int .i64 (wrap64 (a1_2 + t105)), .int .i64 x108004_5] (0, 0) _ rfl (by (with_reducible repeat (first | refine qc ?_ _ | refine qf ?_ | refine qa ?_ _)); refine qw (cs := #[.slice Ao120 x108000_4.length co120, .slice Ao114 y142.length co114, .int .i64 (wrap64 (a1_1 + t103)), .int .i64 (wrap64 (a1_2 + t105)), .int .i64 0]) ?_ 4 _ rfl; (with_reducible repeat (first | refine qc ?_ _ | refine qf ?_ | refine qa ?_ _)); refine qw (cs := #[.slice Ao120 x108000_4.length co120, .slice Ao114 y142.length co114, .int .i64 (wrap64 (a1_1 + t103)), .int .i64 0, .int .i64 0]) ?_ 3 _ rfl; (with_reducible repeat (first | refine qc ?_ _ | refine qf ?_ | refine qa ?_ _)); refine qw (cs := #[.slice Ao120 x108000_4.length co120, .slice Ao114 y142.length co114, .int .i64 0, .int .i64 0, .int .i64 0]) ?_ 2 _ rfl; (with_reducible repeat (first | refine qc ?_ _ | refine qf ?_ | refine qa ?_ _)); refine qw (cs := #[.slice Ao120 x108000_4.length co120, .slice none 0 0, .int .i64 0, .int .i64 0, .int .i64 0]) ?_ 1 _ rfl; (with_reducible repeat (first | refine qc ?_ _ | refine qf ?_ | refine qa ?_ _)); refine qw (cs := #[.slice none 0 0, .slice none 0 0, .int .i64 0, .int .i64 0, .int .i64 0]) ?_ 0 _ rfl; (with_reducible repeat (first | refine qc ?_ _ | refine qf ?_ | refine qa ?_ _)); refine qx ?_ NB102_107.out _; (with_reducible repeat (first | refine qc ?_ _ | refine qf ?_ | refine qa ?_ _)); exact BK102.out) Try.underlying37 rfl (by kernel_rfl)) rfl ?_
            exact ⟨_, _, by first | rfl | (simp [qt, qr] <;> rfl) | (simp [*, qt, qr] <;> rfl), by (with_reducible repeat (first | apply Kd.R_alloc | apply Kd.R_drewN | apply Kd.R_drew)); exact Kd.R_mono (Kd.R_far (p := ⟨gb102, 4, none⟩) (Kd.R_far (p := ⟨gb102, 3, none⟩) (Kd.R_far (p := ⟨gb102, 2, none⟩) (Kd.R_far (p := ⟨gb102, 1, none⟩) (Kd.R_far (p := ⟨gb102, 0, none⟩) (Kd.R_far (p := ⟨gb107, 1, none⟩) (Kd.R_types (Kd.R_types HO_108000.out BK107.out (by decide)) BK102.out (by decide)) (fun _ hk => hk.1.2) (.slice Ao114 y142.length co114)) (fun _ hk => hk.2) (.slice Ao120 x108000_4.length co120)) (fun _ hk => hk.2) (.slice Ao114 y142.length co114)) (fun _ hk => hk.2) (.int .i64 (wrap64 (a1_1 + t103)))) (fun _ hk => hk.2) (.int .i64 (wrap64 (a1_2 + t105)))) (fun _ hk => hk.2) (.int .i64 x108004_5)) (fun _ hk => trivial), by (with_reducible repeat (first | apply Kd.R_alloc | apply Kd.R_drewN | apply Kd.R_drew)); exact Kd.R_mono (Kd.R_far (p := ⟨gb102, 4, none⟩) (Kd.R_far (p := ⟨gb102, 3, none⟩) (Kd.R_far (p := ⟨gb102, 2, none⟩) (Kd.R_far (p := ⟨gb102, 1, none⟩) (Kd.R_far (p := ⟨gb102, 0, none⟩) (Kd.R_far (p := ⟨gb107, 1, none⟩) (Kd.R_types (Kd.R_types HO144.out BK107.out (by decide)) BK102.out (by decide)) (fun _ hk => hk.1.2) (.slice Ao114 y142.length co114)) (fun _ hk => hk.2) (.slice Ao120 x108000_4.length co120)) (fun _ hk => hk.2) (.slice Ao114 y142.length co114)) (fun _ hk => hk.2) (.int .i64 (wrap64 (a1_1 + t103)))) (fun _ hk => hk.2) (.int .i64 (wrap64 (a1_2 + t105)))) (fun _ hk => hk.2) (.int .i64 x108004_5)) (fun _ hk => trivial), by repeat (first | (with_reducible first | exact HI0.out | apply IsS123.alloc | apply IsS123.drewN | apply IsS123.drew | apply IsS123.set_1 | apply (fun h_ => IsS123.far h_ NB0_101.out _) | apply (fun h_ => IsS123.far h_ NB0_102.out _) | apply (fun h_ => IsS123.far h_ NB0_107.out _)) | exact HI0.out), by repeat (first | (with_reducible first | exact HB.out | apply qi | apply qd | apply qh | refine qe ?_ (IsS123.ge HI0.out) | refine qe ?_ GE101.out | refine qe ?_ GE102.out | refine qe ?_ GE107.out) | exact HB.out), by repeat (first | (with_reducible first | exact HK.out | apply KeepBut.set_ | apply qn | apply qp | apply qo | refine qk ?_ GW101.out _ | refine qk ?_ GW102.out _ | refine qk ?_ GW107.out _) | exact HK.out)⟩
           ·rw [if_neg c109] at H
            exact absurd H (by simp)
          ·replace c107 := Bool.eq_false_iff.mpr c107
           subst c107
           have H1 : (some (x108000_4, x108001_36, (wrap64 (a1_1 + t103)), (wrap64 (a1_2 + t105)), x108004_5, t139)) = some (r1, r2, r3, r4, r5, r6) := by rw [if_neg (show ¬ (false = true) by decide)] at H; exact H
           clear H
           have H := H1
           clear H1
           simp only [Option.some.injEq, Prod.mk.injEq] at H
           obtain ⟨rfl, rfl, rfl, rfl, rfl, rfl⟩ := H
           go_wp2_with (first | ((with_reducible refine qm (f := 73) rfl ?_); refine qy (some 78) rfl rfl Try.func73 (by kernel_rfl) rfl #[.pointer (some ⟨g, 0, none⟩), .int .i64 20] rfl yq102 ?_; (with_reducible refine (spec_l1Rd_once.calls g s0_0 x1001_4 20 false t139 w0 _ ?side1 ?side2 A106.out).mono ?_); (case side1 => exact yq84); (case side2 => exact yq86); rintro e w124 ⟨rfl, hi, hb, hk⟩; refine ⟨_, rfl, ?_⟩; replace HO_108000 := Qz.mk (Kd.R_mono (Kd.R_keep (IsS123.apart (show IsS123 w0 _ g s0_0 x1001_4 from by repeat (first | (with_reducible first | exact HI0.out | apply IsS123.alloc | apply IsS123.drewN | apply IsS123.drew | apply IsS123.set_1 | apply (fun h_ => IsS123.far h_ NB0_101.out _) | apply (fun h_ => IsS123.far h_ NB0_102.out _) | apply (fun h_ => IsS123.far h_ NB0_107.out _)) | exact HI0.out)) yq99 (by decide)) hk (fun _ h => h.2)) (fun _ h => h.1)); replace HO_108001 := Qz.mk (Kd.R_mono (Kd.R_keep (IsS123.apart (show IsS123 w0 _ g s0_0 x1001_4 from by repeat (first | (with_reducible first | exact HI0.out | apply IsS123.alloc | apply IsS123.drewN | apply IsS123.drew | apply IsS123.set_1 | apply (fun h_ => IsS123.far h_ NB0_101.out _) | apply (fun h_ => IsS123.far h_ NB0_102.out _) | apply (fun h_ => IsS123.far h_ NB0_107.out _)) | exact HI0.out)) yq97 (by decide)) hk (fun _ h => h.2)) (fun _ h => h.1)); replace BK101 := Qz.mk (KeepBut.blk hk (g' := gb101) (o := .cells #[.slice A1_0 l1_0.length c1_0, .int .i64 a1_1, .int .i64 a1_2, .int .i64 a1_3] 32 (0, 0)) yq87 NB101_0.out (by simp)); replace BK102 := Qz.mk (KeepBut.blk hk (g' := gb102) (o := .cells #[.slice none 0 0, .slice none 0 0, .int .i64 0, .int .i64 0, .int .i64 0] 37 (0, 0)) yq88 NB102_0.out (by simp)); replace BK107 := Qz.mk (KeepBut.blk hk (g' := gb107) (o := .cells #[u108000, u108001, .int .i64 (wrap64 (a1_1 + t103)), .int .i64 (wrap64 (a1_2 + t105)), .int .i64 x108004_5] 37 (0, 0)) yq90 NB107_0.out (by simp)); replace HK := Qz.mk (KeepBut.trans yq85 hk (.inl rfl)); replace HB := Qz.mk (hb); replace HI0 := Qz.mk (hi); (try clear hb); (try clear hk); (try clear hi); have hnb125 := NB107_101.out; have hnc125 := NB101_107.out; have hnb126 := NB107_102.out; have hnc126 := NB102_107.out; have hnb127 := NB107_0.out; have hnc127 := NB0_107.out; have hcz128_0 := (qg BK107.out 0).trans rfl; have hcz128_1 := (qg BK107.out 1).trans rfl; have hcz128_2 : w124.cell? ⟨gb107, 2, none⟩ = some (.int .i64 (wrap64 (a1_1 + t103))) := (qg BK107.out 2).trans rfl; have hcz128_3 : w124.cell? ⟨gb107, 3, none⟩ = some (.int .i64 (wrap64 (a1_2 + t105))) := (qg BK107.out 3).trans rfl; have hcz128_4 := (qg BK107.out 4).trans rfl; have hfz128_0 := qj BK107.out 0; have hfz128_1 := qj BK107.out 1; have hfz128_2 := qj BK107.out 2; have hfz128_3 := qj BK107.out 3; have hfz128_4 := qj BK107.out 4; obtain ⟨Ao129, co129, eo129⟩ := Kd.R_slice HO_108000.out; subst eo129; have hnb130 := NB102_101.out; have hnc130 := NB101_102.out; have hnb131 := NB102_0.out; have hnc131 := NB0_102.out; have hcz132_0 := (qg BK102.out 0).trans rfl; have hcz132_1 := (qg BK102.out 1).trans rfl; have hcz132_2 := (qg BK102.out 2).trans rfl; have hcz132_3 := (qg BK102.out 3).trans rfl; have hcz132_4 := (qg BK102.out 4).trans rfl; have hfz132_0 := qj BK102.out 0; have hfz132_1 := qj BK102.out 1; have hfz132_2 := qj BK102.out 2; have hfz132_3 := qj BK102.out 3; have hfz132_4 := qj BK102.out 4; obtain ⟨Ao133, co133, eo133⟩ := Kd.R_slice HO_108001.out; subst eo133))
           refine bodyPost_ret (results_cell_row rfl _ _ gb102 37 #[.slice Ao129 x108000_4.length co129, .slice Ao133 x108001_36.length co133, .int .i64 (wrap64 (a1_1 + t103)), .int .i64 (wrap64 (a1_2 + t105)), .int .i64 x108004_5] (0, 0) _ rfl (by (with_reducible repeat (first | refine qc ?_ _ | refine qf ?_ | refine qa ?_ _)); refine qw (cs := #[.slice Ao129 x108000_4.length co129, .slice Ao133 x108001_36.length co133, .int .i64 (wrap64 (a1_1 + t103)), .int .i64 (wrap64 (a1_2 + t105)), .int .i64 0]) ?_ 4 _ rfl; (with_reducible repeat (first | refine qc ?_ _ | refine qf ?_ | refine qa ?_ _)); refine qw (cs := #[.slice Ao129 x108000_4.length co129, .slice Ao133 x108001_36.length co133, .int .i64 (wrap64 (a1_1 + t103)), .int .i64 0, .int .i64 0]) ?_ 3 _ rfl; (with_reducible repeat (first | refine qc ?_ _ | refine qf ?_ | refine qa ?_ _)); refine qw (cs := #[.slice Ao129 x108000_4.length co129, .slice Ao133 x108001_36.length co133, .int .i64 0, .int .i64 0, .int .i64 0]) ?_ 2 _ rfl; (with_reducible repeat (first | refine qc ?_ _ | refine qf ?_ | refine qa ?_ _)); refine qw (cs := #[.slice Ao129 x108000_4.length co129, .slice none 0 0, .int .i64 0, .int .i64 0, .int .i64 0]) ?_ 1 _ rfl; (with_reducible repeat (first | refine qc ?_ _ | refine qf ?_ | refine qa ?_ _)); refine qw (cs := #[.slice none 0 0, .slice none 0 0, .int .i64 0, .int .i64 0, .int .i64 0]) ?_ 0 _ rfl; (with_reducible repeat (first | refine qc ?_ _ | refine qf ?_ | refine qa ?_ _)); exact BK102.out) Try.underlying37 rfl (by kernel_rfl)) rfl ?_
           exact ⟨_, _, by first | rfl | (simp [qt, qr] <;> rfl) | (simp [*, qt, qr] <;> rfl), by (with_reducible repeat (first | apply Kd.R_alloc | apply Kd.R_drewN | apply Kd.R_drew)); exact Kd.R_mono (Kd.R_far (p := ⟨gb102, 4, none⟩) (Kd.R_far (p := ⟨gb102, 3, none⟩) (Kd.R_far (p := ⟨gb102, 2, none⟩) (Kd.R_far (p := ⟨gb102, 1, none⟩) (Kd.R_far (p := ⟨gb102, 0, none⟩) (Kd.R_types HO_108000.out BK102.out (by decide)) (fun _ hk => hk.2) (.slice Ao129 x108000_4.length co129)) (fun _ hk => hk.2) (.slice Ao133 x108001_36.length co133)) (fun _ hk => hk.2) (.int .i64 (wrap64 (a1_1 + t103)))) (fun _ hk => hk.2) (.int .i64 (wrap64 (a1_2 + t105)))) (fun _ hk => hk.2) (.int .i64 x108004_5)) (fun _ hk => trivial), by (with_reducible repeat (first | apply Kd.R_alloc | apply Kd.R_drewN | apply Kd.R_drew)); exact Kd.R_mono (Kd.R_far (p := ⟨gb102, 4, none⟩) (Kd.R_far (p := ⟨gb102, 3, none⟩) (Kd.R_far (p := ⟨gb102, 2, none⟩) (Kd.R_far (p := ⟨gb102, 1, none⟩) (Kd.R_far (p := ⟨gb102, 0, none⟩) (Kd.R_types HO_108001.out BK102.out (by decide)) (fun _ hk => hk.2) (.slice Ao129 x108000_4.length co129)) (fun _ hk => hk.2) (.slice Ao133 x108001_36.length co133)) (fun _ hk => hk.2) (.int .i64 (wrap64 (a1_1 + t103)))) (fun _ hk => hk.2) (.int .i64 (wrap64 (a1_2 + t105)))) (fun _ hk => hk.2) (.int .i64 x108004_5)) (fun _ hk => trivial), by repeat (first | (with_reducible first | exact HI0.out | apply IsS123.alloc | apply IsS123.drewN | apply IsS123.drew | apply IsS123.set_1 | apply (fun h_ => IsS123.far h_ NB0_101.out _) | apply (fun h_ => IsS123.far h_ NB0_102.out _) | apply (fun h_ => IsS123.far h_ NB0_107.out _)) | exact HI0.out), by repeat (first | (with_reducible first | exact HB.out | apply qi | apply qd | apply qh | refine qe ?_ (IsS123.ge HI0.out) | refine qe ?_ GE101.out | refine qe ?_ GE102.out | refine qe ?_ GE107.out) | exact HB.out), by repeat (first | (with_reducible first | exact HK.out | apply KeepBut.set_ | apply qn | apply qp | apply qo | refine qk ?_ GW101.out _ | refine qk ?_ GW102.out _ | refine qk ?_ GW107.out _) | exact HK.out)⟩
end Go.Proofs.Ytcgejabkjljeeaa.P
end
