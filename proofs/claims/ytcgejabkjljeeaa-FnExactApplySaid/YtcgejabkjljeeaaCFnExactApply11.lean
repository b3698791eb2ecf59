/- Proved: the law FnExactApply of the given program returns true for every input of its Go types and leaves each argument as it was; no condition. (Part 12 of 15.) -/
import Derived.Test.YtcgejabkjljeeaaCFnExactApply3
import Derived.Test.YtcgejabkjljeeaaCFnExactApply4
import Derived.Test.YtcgejabkjljeeaaCFnExactApply9
import Derived.Test.YtcgejabkjljeeaaCFnExactApply10
section
namespace Go.Proofs.Ytcgejabkjljeeaa.P
open Go.RowKit Go.Proofs.YtcgejabkjljeeaaW.PrintWords Go.Proofs.YtcgejabkjljeeaaW.PrintLast Go.Proofs.YtcgejabkjljeeaaW.PrintMore
attribute [local go_sem] str_gtr str_leq str_geq qb1 qz max_two min_two qw qv qa1 qy
set_option linter.unusedVariables false
set_option linter.unusedSimpArgs false
theorem yq76 {P : Prop} (h : P := by (with_reducible repeat (first | refine qf ?_ _ | refine qg ?_ | refine qe ?_ _)); exact BK101.out) : P := h
theorem yq77 {P : Prop} (h : P := by (with_reducible repeat (first | refine qf ?_ _ | refine qg ?_ | refine qe ?_ _)); exact BK102.out) : P := h
theorem yq78 {P : Prop} (h : P := by repeat (first | (with_reducible first | exact HB.out | apply qi | apply qb | apply qh | refine qc ?_ GE101.out | refine qc ?_ GE102.out | refine qc ?_ GE127.out | refine qc ?_ GE134.out | refine qc ?_ GE144.out | refine qc ?_ GE152.out) | exact HB.out)) : P := h
theorem yq79 {P : Prop} (h : P := by (try simp only [List.map_toArray, List.map_cons, List.map_nil]); first | done | rfl | (simp only [List.length_drop, List.length_take]; rfl) | (rw [IntWalk.u64_in _ (by omega)] <;> rfl)) : P := h
theorem yq80 {P : Prop} (h : P := by repeat (first | (with_reducible first | exact HB.out | apply qi | apply qb | apply qh | refine qc ?_ GE101.out | refine qc ?_ GE102.out | refine qc ?_ GE127.out | refine qc ?_ GE134.out | refine qc ?_ GE144.out | refine qc ?_ GE152.out | refine qc ?_ GE202.out) | exact HB.out)) : P := h
theorem yq81 {P : Prop} (h : P := by (with_reducible repeat (first | refine qf ?_ _ | refine qg ?_ | refine qe ?_ _)); exact BK127.out) : P := h
theorem yq82 {P : Prop} (h : P := by repeat (first | (with_reducible first | exact HB.out | apply qi | apply qb | apply qh | refine qc ?_ GE101.out | refine qc ?_ GE102.out | refine qc ?_ GE127.out) | exact HB.out)) : P := h
theorem yq83 {P : Prop} (h : P := by (with_reducible repeat (first | refine qf ?_ _ | refine qg ?_ | refine qe ?_ _)); exact BK134.out) : P := h
theorem yq84 {P : Prop} (h : P := by (with_reducible repeat (first | refine qf ?_ _ | refine qg ?_ | refine qe ?_ _)); exact BK144.out) : P := h
theorem yq85 {P : Prop} (h : P := by (with_reducible repeat (first | refine qf ?_ _ | refine qg ?_ | refine qe ?_ _)); exact BK152.out) : P := h
theorem yq86 {P : Prop} (h : P := by (with_reducible repeat (first | apply Kd.R_alloc | apply Kd.R_drewN | apply Kd.R_drew)); exact HO_153000.out) : P := h
theorem yq87 {P : Prop} (h : P := by (with_reducible repeat (first | apply Kd.R_alloc | apply Kd.R_drewN | apply Kd.R_drew)); exact HO_145000.out) : P := h
theorem yq88 {P : Prop} (h : P := by (with_reducible repeat (first | apply Kd.R_alloc | apply Kd.R_drewN | apply Kd.R_drew)); exact HO_135000.out) : P := h
theorem yq89 {P : Prop} (h : P := by (with_reducible repeat (first | apply Kd.R_alloc | apply Kd.R_drewN | apply Kd.R_drew)); exact HO_128000.out) : P := h
theorem yq90 {P : Prop} (h : P := by repeat (first | (with_reducible first | exact HB.out | apply qi | apply qb | apply qh | refine qc ?_ GE101.out | refine qc ?_ GE102.out) | exact HB.out)) : P := h
theorem yq91 {P : Prop} (h : P := by (with_reducible repeat (first | apply Kd.R_alloc | apply Kd.R_drewN | apply Kd.R_drew)); exact HO_145001.out) : P := h
theorem yq92 {P : Prop} (h : P := by rw [hg]; exact Nat.ne_of_lt (qq (g := gb101) (o := .cells #[.slice A0_0 l0_0.length c0_0, .int .i64 a0_1, .int .i64 a0_2, .int .i64 a0_3] 24 (0, 0)) yq76)) : P := h
theorem yq93 {P : Prop} (h : P := by rw [hg]; exact Nat.ne_of_gt (qq (g := gb101) (o := .cells #[.slice A0_0 l0_0.length c0_0, .int .i64 a0_1, .int .i64 a0_2, .int .i64 a0_3] 24 (0, 0)) yq76)) : P := h
theorem yq94 {P : Prop} (h : P := by (with_reducible repeat (first | apply Kd.R_alloc | apply Kd.R_drewN | apply Kd.R_drew)); exact HO107.out) : P := h
theorem yq95 {P : Prop} (h : P := by rw [hg]; exact Nat.ne_of_lt (qq (g := gb102) (o := .cells #[.slice A1_0 l1_0.length c1_0, .slice A1_1 l1_1.length c1_1, .int .i64 a1_2, .int .i64 a1_3, .int .i64 a1_4] 27 (0, 0)) yq77)) : P := h
theorem yq96 {P : Prop} (h : P := by rw [hg]; exact Nat.ne_of_gt (qq (g := gb102) (o := .cells #[.slice A1_0 l1_0.length c1_0, .slice A1_1 l1_1.length c1_1, .int .i64 a1_2, .int .i64 a1_3, .int .i64 a1_4] 27 (0, 0)) yq77)) : P := h
theorem yq97 {P : Prop} (h : P := by (with_reducible repeat (first | apply Kd.R_alloc | apply Kd.R_drewN | apply Kd.R_drew)); exact HO182.out) : P := h
theorem yq98 {P : Prop} (h : P := by repeat (first | exact (Kd.C_below HR1_1.out HB.out) | (with_reducible refine Kd.C_alloc ?_ _) | (with_reducible refine Kd.C_drewN ?_ _) | (with_reducible refine Kd.C_drew ?_))) : P := h
theorem yq99 {P : Prop} (h : P := by repeat (first | exact (Kd.C_below HR1_0.out HB.out) | (with_reducible refine Kd.C_alloc ?_ _) | (with_reducible refine Kd.C_drewN ?_ _) | (with_reducible refine Kd.C_drew ?_))) : P := h
theorem yq100 {P : Prop} (h : P := by (with_reducible repeat (first | apply Kd.R_alloc | apply Kd.R_drewN | apply Kd.R_drew)); exact HO116.out) : P := h
theorem yq101 {P : Prop} (h : P := by (with_reducible repeat (first | apply Kd.R_alloc | apply Kd.R_drewN | apply Kd.R_drew)); exact HO113.out) : P := h
theorem yq102 {P : Prop} (h : P := by repeat (first | exact (Kd.C_below HR0_0.out HB.out) | (with_reducible refine Kd.C_alloc ?_ _) | (with_reducible refine Kd.C_drewN ?_ _) | (with_reducible refine Kd.C_drew ?_))) : P := h
theorem yq103 {P : Prop} (h : P := by repeat (first | (with_reducible first | exact HB.out | apply qi | apply qb | apply qh | refine qc ?_ GE101.out | refine qc ?_ GE102.out | refine qc ?_ GE127.out | refine qc ?_ GE134.out) | exact HB.out)) : P := h
theorem yq104 {P : Prop} (h : P := by (with_reducible repeat (first | apply Kd.R_alloc | apply Kd.R_drewN | apply Kd.R_drew)); exact (Kd.R_mono (Kd.R_far (p := ⟨gb144, 4, none⟩) (Kd.R_far (p := ⟨gb144, 3, none⟩) (Kd.R_far (p := ⟨gb144, 2, none⟩) (Kd.R_far (p := ⟨gb144, 1, none⟩) (Kd.R_far (p := ⟨gb144, 0, none⟩) (Kd.R_types HO137.out BK144.out (by decide)) (fun _ hk => hk.2) (.slice Ao60 t135.length co60)) (fun _ hk => hk.2) (.slice Ao66 t138.length co66)) (fun _ hk => hk.2) (.int .i64 t141)) (fun _ hk => hk.2) (.int .i64 t142)) (fun _ hk => hk.2) (.int .i64 t143)) (fun _ h_ => h_.1))) : P := h
theorem yq105 {P : Prop} (h : P := by (with_reducible repeat (first | apply Kd.R_alloc | apply Kd.R_drewN | apply Kd.R_drew)); exact (Kd.R_mono (Kd.R_far (p := ⟨gb144, 4, none⟩) (Kd.R_far (p := ⟨gb144, 3, none⟩) (Kd.R_far (p := ⟨gb144, 2, none⟩) (Kd.R_far (p := ⟨gb144, 1, none⟩) (Kd.R_far (p := ⟨gb144, 0, none⟩) (Kd.R_types HO130.out BK144.out (by decide)) (fun _ hk => hk.2) (.slice Ao60 t135.length co60)) (fun _ hk => hk.2) (.slice Ao66 t138.length co66)) (fun _ hk => hk.2) (.int .i64 t141)) (fun _ hk => hk.2) (.int .i64 t142)) (fun _ hk => hk.2) (.int .i64 t143)) (fun _ h_ => h_.1))) : P := h
theorem yq106 {P : Prop} (h : P := by (with_reducible repeat (first | refine qf ?_ _ | refine qg ?_ | refine qe ?_ _)); exact BK202.out) : P := h
theorem yq107 {P : Prop} (h : P := by (with_reducible repeat (first | apply Kd.R_alloc | apply Kd.R_drewN | apply Kd.R_drew)); exact HO188.out) : P := h
theorem yq108 {P : Prop} (h : P := by rw [hg]; exact Nat.ne_of_lt (qq (g := gb127) (o := .cells #[.slice Ao42 t120.length co42, .int .i64 t123, .int .i64 t124, .int .i64 t125] 32 (0, 0)) yq81)) : P := h
theorem yq109 {P : Prop} (h : P := by rw [hg]; exact Nat.ne_of_gt (qq (g := gb127) (o := .cells #[.slice Ao42 t120.length co42, .int .i64 t123, .int .i64 t124, .int .i64 t125] 32 (0, 0)) yq81)) : P := h
theorem yq110 {P : Prop} (h : P := by repeat (first | (with_reducible first | exact HB.out | apply qi | apply qb | apply qh | refine qc ?_ GE101.out | refine qc ?_ GE102.out | refine qc ?_ GE127.out | refine qc ?_ GE134.out | refine qc ?_ GE144.out) | exact HB.out)) : P := h
theorem yq111 {P : Prop} (h : P := by repeat (first | (with_reducible first | exact HB.out | apply qi | apply qb | apply qh | refine qc ?_ GE101.out) | exact HB.out)) : P := h
theorem yq112 {P : Prop} (h : P := by (with_reducible repeat (first | apply Kd.R_alloc | apply Kd.R_drewN | apply Kd.R_drew)); exact Kd.R_mono HO_153000.out (fun _ hk => ⟨hk.1.1.2, ⟨hk.1.2, ⟨hk.2, ⟨hk.1.1.1.1, ⟨hk.1.1.1.2.1, hk.1.1.1.2.2⟩⟩⟩⟩⟩)) : P := h
theorem yq113 {P : Prop} (h : P := by (with_reducible repeat (first | apply Kd.R_alloc | apply Kd.R_drewN | apply Kd.R_drew)); exact Kd.R_mono HO_145000.out (fun _ hk => ⟨hk.1.1.2, ⟨hk.1.2, ⟨hk.2, ⟨hk.1.1.1.1, ⟨hk.1.1.1.2.1, hk.1.1.1.2.2⟩⟩⟩⟩⟩)) : P := h
theorem yq114 {P : Prop} (h : P := by (with_reducible repeat (first | apply Kd.R_alloc | apply Kd.R_drewN | apply Kd.R_drew)); exact Kd.R_mono HO_135000.out (fun _ hk => ⟨hk.1.1.2, ⟨hk.1.2, ⟨hk.2, ⟨hk.1.1.1.1, ⟨hk.1.1.1.2.1, hk.1.1.1.2.2⟩⟩⟩⟩⟩)) : P := h
theorem yq115 {P : Prop} (h : P := by (with_reducible repeat (first | apply Kd.R_alloc | apply Kd.R_drewN | apply Kd.R_drew)); exact Kd.R_mono HO_128000.out (fun _ hk => ⟨hk.1.1.2, ⟨hk.1.2, ⟨hk.2, ⟨hk.1.1.1.1, ⟨hk.1.1.1.2.1, hk.1.1.1.2.2⟩⟩⟩⟩⟩)) : P := h
theorem yq116 {P : Prop} (h : P := by (with_reducible repeat (first | apply Kd.R_alloc | apply Kd.R_drewN | apply Kd.R_drew)); exact Kd.R_mono HO197.out (fun _ hk => ⟨hk.1.2, ⟨hk.2, ⟨hk.1.1.1.1.1.2, ⟨hk.1.1.1.1.2, ⟨hk.1.1.1.2, hk.1.1.2⟩⟩⟩⟩⟩)) : P := h
theorem yq117 {P : Prop} (h : P := by (with_reducible repeat (first | apply Kd.R_alloc | apply Kd.R_drewN | apply Kd.R_drew)); exact Kd.R_mono HO188.out (fun _ hk => ⟨hk.1.2, ⟨hk.2, ⟨hk.1.1.1.1.1.2, ⟨hk.1.1.1.1.2, ⟨hk.1.1.1.2, hk.1.1.2⟩⟩⟩⟩⟩)) : P := h
theorem yq118 {P : Prop} (h : P := by (with_reducible repeat (first | apply Kd.R_alloc | apply Kd.R_drewN | apply Kd.R_drew)); exact Kd.R_mono HO182.out (fun _ hk => ⟨hk.1.2, ⟨hk.2, ⟨hk.1.1.1.1.1.2, ⟨hk.1.1.1.1.2, ⟨hk.1.1.1.2, hk.1.1.2⟩⟩⟩⟩⟩)) : P := h
theorem yq119 {P : Prop} (h : P := by first | (go_simp; done) | (go_simp; rfl)) : P := h
theorem yq120 {P : Prop} (h : P := by (with_reducible repeat (first | apply Kd.R_alloc | apply Kd.R_drewN | apply Kd.R_drew)); exact (Kd.R_mono (Kd.R_far (p := ⟨gb144, 4, none⟩) (Kd.R_far (p := ⟨gb144, 3, none⟩) (Kd.R_far (p := ⟨gb144, 2, none⟩) (Kd.R_far (p := ⟨gb144, 1, none⟩) (Kd.R_far (p := ⟨gb144, 0, none⟩) (Kd.R_types HO140.out BK144.out (by decide)) (fun _ hk => hk.2) (.slice Ao60 t135.length co60)) (fun _ hk => hk.2) (.slice Ao66 t138.length co66)) (fun _ hk => hk.2) (.int .i64 t141)) (fun _ hk => hk.2) (.int .i64 t142)) (fun _ hk => hk.2) (.int .i64 t143)) (fun _ h_ => h_.1))) : P := h
theorem yq121 {P : Prop} (h : P := by (with_reducible repeat (first | apply Kd.R_alloc | apply Kd.R_drewN | apply Kd.R_drew)); exact (Kd.R_mono (Kd.R_far (p := ⟨gb144, 4, none⟩) (Kd.R_far (p := ⟨gb144, 3, none⟩) (Kd.R_far (p := ⟨gb144, 2, none⟩) (Kd.R_far (p := ⟨gb144, 1, none⟩) (Kd.R_far (p := ⟨gb144, 0, none⟩) (Kd.R_types HO122.out BK144.out (by decide)) (fun _ hk => hk.2) (.slice Ao60 t135.length co60)) (fun _ hk => hk.2) (.slice Ao66 t138.length co66)) (fun _ hk => hk.2) (.int .i64 t141)) (fun _ hk => hk.2) (.int .i64 t142)) (fun _ hk => hk.2) (.int .i64 t143)) (fun _ h_ => h_.1))) : P := h
theorem yq122 {P : Prop} (h : P := by (with_reducible repeat (first | apply Kd.R_alloc | apply Kd.R_drewN | apply Kd.R_drew)); exact (Kd.R_mono (Kd.R_far (p := ⟨gb144, 4, none⟩) (Kd.R_far (p := ⟨gb144, 3, none⟩) (Kd.R_far (p := ⟨gb144, 2, none⟩) (Kd.R_far (p := ⟨gb144, 1, none⟩) (Kd.R_far (p := ⟨gb144, 0, none⟩) (Kd.R_types HO113.out BK144.out (by decide)) (fun _ hk => hk.2) (.slice Ao60 t135.length co60)) (fun _ hk => hk.2) (.slice Ao66 t138.length co66)) (fun _ hk => hk.2) (.int .i64 t141)) (fun _ hk => hk.2) (.int .i64 t142)) (fun _ hk => hk.2) (.int .i64 t143)) (fun _ h_ => h_.1))) : P := h
theorem yq123 {P : Prop} (h : P := by (with_reducible repeat (first | apply Kd.R_alloc | apply Kd.R_drewN | apply Kd.R_drew)); exact (Kd.R_mono (Kd.R_far (p := ⟨gb144, 4, none⟩) (Kd.R_far (p := ⟨gb144, 3, none⟩) (Kd.R_far (p := ⟨gb144, 2, none⟩) (Kd.R_far (p := ⟨gb144, 1, none⟩) (Kd.R_far (p := ⟨gb144, 0, none⟩) (Kd.R_types HO107.out BK144.out (by decide)) (fun _ hk => hk.2) (.slice Ao60 t135.length co60)) (fun _ hk => hk.2) (.slice Ao66 t138.length co66)) (fun _ hk => hk.2) (.int .i64 t141)) (fun _ hk => hk.2) (.int .i64 t142)) (fun _ hk => hk.2) (.int .i64 t143)) (fun _ h_ => h_.1))) : P := h
theorem yq124 {P : Prop} (h : P := by rw [hg]; exact Nat.ne_of_lt (qq (g := gb144) (o := .cells #[.slice Ao60 t174.length co60, .slice Ao66 t175.length co66, .int .i64 t141, .int .i64 t142, .int .i64 t143] 37 (0, 0)) yq84)) : P := h
theorem yq125 {P : Prop} (h : P := by rw [hg]; exact Nat.ne_of_gt (qq (g := gb144) (o := .cells #[.slice Ao60 t174.length co60, .slice Ao66 t175.length co66, .int .i64 t141, .int .i64 t142, .int .i64 t143] 37 (0, 0)) yq84)) : P := h
theorem yq126 {P : Prop} (h : P := by repeat (first | exact (Kd.R_reads' HO191.out).2.2 | (with_reducible refine Kd.C_alloc ?_ _) | (with_reducible refine Kd.C_drewN ?_ _) | (with_reducible refine Kd.C_drew ?_))) : P := h
theorem yq127 {P : Prop} (h : P := by repeat (first | exact (Kd.R_reads' HO188.out).2.2 | (with_reducible refine Kd.C_alloc ?_ _) | (with_reducible refine Kd.C_drewN ?_ _) | (with_reducible refine Kd.C_drew ?_))) : P := h
theorem yq128 {P : Prop} (h : P := by repeat (first | exact (Kd.R_reads' HO182.out).2.2 | (with_reducible refine Kd.C_alloc ?_ _) | (with_reducible refine Kd.C_drewN ?_ _) | (with_reducible refine Kd.C_drew ?_))) : P := h
theorem yq129 {P : Prop} (h : P := by repeat (first | exact (Kd.R_reads' HO116.out).2.2 | (with_reducible refine Kd.C_alloc ?_ _) | (with_reducible refine Kd.C_drewN ?_ _) | (with_reducible refine Kd.C_drew ?_))) : P := h
theorem yq130 {P : Prop} (h : P := by repeat (first | exact (Kd.R_reads' HO113.out).2.2 | (with_reducible refine Kd.C_alloc ?_ _) | (with_reducible refine Kd.C_drewN ?_ _) | (with_reducible refine Kd.C_drew ?_))) : P := h
theorem yq131 {P : Prop} (h : P := by repeat (first | exact (Kd.R_reads' HO107.out).2.2 | (with_reducible refine Kd.C_alloc ?_ _) | (with_reducible refine Kd.C_drewN ?_ _) | (with_reducible refine Kd.C_drew ?_))) : P := h
theorem yq132 {P : Prop} (h : P := by (with_reducible repeat (first | apply Kd.R_alloc | apply Kd.R_drewN | apply Kd.R_drew)); exact HO191.out) : P := h
theorem yq133 {P : Prop} (h : P := by repeat (first | (with_reducible first | exact HB.out | apply qi | apply qb | apply qh) | exact HB.out)) : P := h
theorem yq134 {P : Prop} (h : P := by (with_reducible repeat (first | apply Kd.R_alloc | apply Kd.R_drewN | apply Kd.R_drew)); exact (Kd.R_mono (Kd.R_far (p := ⟨gb202, 3, none⟩) (Kd.R_far (p := ⟨gb202, 2, none⟩) (Kd.R_far (p := ⟨gb202, 1, none⟩) (Kd.R_far (p := ⟨gb202, 0, none⟩) (Kd.R_types HO_128000.out BK202.out (by decide)) (fun _ hk => hk.2) (.slice Ao165 t195.length co165)) (fun _ hk => hk.2) (.int .i64 t198)) (fun _ hk => hk.2) (.int .i64 t199)) (fun _ hk => hk.2) (.int .i64 t200)) (fun _ h_ => h_.1))) : P := h
theorem yq135 {P : Prop} (h : P := by (with_reducible repeat (first | apply Kd.R_alloc | apply Kd.R_drewN | apply Kd.R_drew)); exact (Kd.R_mono (Kd.R_far (p := ⟨gb202, 3, none⟩) (Kd.R_far (p := ⟨gb202, 2, none⟩) (Kd.R_far (p := ⟨gb202, 1, none⟩) (Kd.R_far (p := ⟨gb202, 0, none⟩) (Kd.R_types HO197.out BK202.out (by decide)) (fun _ hk => hk.2) (.slice Ao165 t195.length co165)) (fun _ hk => hk.2) (.int .i64 t198)) (fun _ hk => hk.2) (.int .i64 t199)) (fun _ hk => hk.2) (.int .i64 t200)) (fun _ h_ => h_.1))) : P := h
theorem bkbf3 {w0 W W2 : World} {g : Nat} {o : Obj} (_ : Qz (w0.heap[g]? = some o)) (h : W.heap[g]? = some o) (hb : Below W.heap.size W W2) : Qz (W2.heap[g]? = some o) := Qz.mk (qp h hb)
mutual
def laws_FnExactApply.j0 : Nat → Bool → Bool → Bool → List (S114) → Int → Int → Int → List (S114) → List Int → Int → Int → Int → List (S66) → Int → Int → Int → List (S66) → Int → Int → Int → List (S66) → List Int → Int → Int → Int → List (S66) → Int → Int → Int → Option (Bool)
 | 0, _, _, _, _, _, _, _, _, _, _, _, _, _, _, _, _, _, _, _, _, _, _, _, _, _, _, _, _, _ => none
 | k + 1, x7, x11, x53, x102000, x102001, x102002, x102003, x103000, x103001, x103002, x103003, x103004, x128000, x128001, x128002, x128003, x135000, x135001, x135002, x135003, x145000, x145001, x145002, x145003, x145004, x153000, x153001, x153002, x153003 => if x53 = true then (none) else ((laws_toVersion.f k x102000 x102001 x102002 x102003).bind fun bt154 => ((laws_eqVersion.f k x135000 x135001 x135002 x135003 bt154.1 bt154.2.1 bt154.2.2.1 bt154.2.2.2).bind fun t160 => (if t160 = true then ((laws_toEdit.f k x103000 x103001 x103002 x103003 x103004).bind fun bt161 => ((laws_eqEdit.f k x145000 x145001 x145002 x145003 x145004 bt161.1 bt161.2.1 bt161.2.2.1 bt161.2.2.2.1 bt161.2.2.2.2).bind fun t170 => (if t170 = true then ((laws_markVersion.f k x135000 x135001 x135002 x135003 1).bind fun bt171 => ((laws_markEdit.f k x145000 x145001 x145002 x145003 x145004 bt171.1).bind fun bt173 => (if bt173.1 < 0 then (none) else ((laws_eqVersion.f k x153000 x153001 x153002 x153003 x128000 x128001 x128002 x128003).bind fun t176 => (if t176 = true then (laws_FnExactApply.j1 k x7 (x11 != x7) x102000 x102001 x102002 x102003 x103000 x103001 x103002 x103003 x103004 x128000 x128001 x128002 x128003 x153000 x153001 x153002 x153003) else (none)))))) else (none)))) else (none))))
def laws_FnExactApply.j1 : Nat → Bool → Bool → List (S114) → Int → Int → Int → List (S114) → List Int → Int → Int → Int → List (S66) → Int → Int → Int → List (S66) → Int → Int → Int → Option (Bool)
 | 0, _, _, _, _, _, _, _, _, _, _, _, _, _, _, _, _, _, _, _ => none
 | k + 1, x7, x82, x102000, x102001, x102002, x102003, x103000, x103001, x103002, x103003, x103004, x128000, x128001, x128002, x128003, x153000, x153001, x153002, x153003 => if x82 = true then (none) else ((laws_markVersion.f k x153000 x153001 x153002 x153003 1).bind fun bt177 => ((laws_heldVersion.f k bt177.2 x153001 x153002 x153003 1).bind fun t179 => (if t179 < 0 then (none) else (if t179 = bt177.1 then ((laws_toVersion.f k x102000 x102001 x102002 x102003).bind fun bt180 => ((laws_toEdit.f k x103000 x103001 x103002 x103003 x103004).bind fun bt186 => ((impl_Apply.f bt180.1 bt180.2.1 bt180.2.2.1 bt180.2.2.2 bt186.1 bt186.2.1 bt186.2.2.1 bt186.2.2.2.1 bt186.2.2.2.2).bind fun bt195 => ((laws_eqVersion.f k bt195.1 bt195.2.1 bt195.2.2.1 bt195.2.2.2.1 x128000 x128001 x128002 x128003).bind fun t203 => (if t203 = true then (laws_FnExactApply.j2 k bt177.1 (bt195.2.2.2.2 != x7) bt177.2 x153001 x153002 x153003) else (none)))))) else (none)))))
def laws_FnExactApply.j2 : Nat → Int → Bool → List (S66) → Int → Int → Int → Option (Bool)
 | 0, _, _, _, _, _, _ => none
 | k + 1, x13, x110, x153000, x153001, x153002, x153003 => if x110 = true then (none) else ((laws_heldVersion.f k x153000 x153001 x153002 x153003 1).bind fun t204 => (if t204 < 0 then (none) else (if t204 = x13 then (some true) else (none))))
end
def laws_FnExactApply.f (k : Nat) (l0_0 : List (S114)) (a0_1 : Int) (a0_2 : Int) (a0_3 : Int) (l1_0 : List (S114)) (l1_1 : List Int) (a1_2 : Int) (a1_3 : Int) (a1_4 : Int) : Option (Bool) := (laws_szVersion.f k l0_0 a0_1 a0_2 a0_3 1048576).bind fun t103 => (if t103 < 0 then (some true) else ((laws_szEdit.f k l1_0 l1_1 a1_2 a1_3 a1_4 t103).bind fun t104 => (if t104 < 0 then (some true) else ((laws_toVersion.f k l0_0 a0_1 a0_2 a0_3).bind fun bt105 => ((laws_toEdit.f k l1_0 l1_1 a1_2 a1_3 a1_4).bind fun bt111 => ((spec_Apply.f k bt105.1 bt105.2.1 bt105.2.2.1 bt105.2.2.2 bt111.1 bt111.2.1 bt111.2.2.1 bt111.2.2.2.1 bt111.2.2.2.2).bind fun bt120 => ((laws_toVersion.f k l0_0 a0_1 a0_2 a0_3).bind fun bt128 => ((laws_toEdit.f k l1_0 l1_1 a1_2 a1_3 a1_4).bind fun bt135 => ((impl_Apply.f bt128.1 bt128.2.1 bt128.2.2.1 bt128.2.2.2 bt135.1 bt135.2.1 bt135.2.2.1 bt135.2.2.2.1 bt135.2.2.2.2).bind fun bt145 => ((laws_eqVersion.f k bt145.1 bt145.2.1 bt145.2.2.1 bt145.2.2.2.1 bt120.1 bt120.2.1 bt120.2.2.1 bt120.2.2.2.1).bind fun t153 => (if t153 = true then (laws_FnExactApply.j0 k bt120.2.2.2.2 bt145.2.2.2.2 (bt145.2.2.2.2 != bt120.2.2.2.2) l0_0 a0_1 a0_2 a0_3 l1_0 l1_1 a1_2 a1_3 a1_4 bt120.1 bt120.2.1 bt120.2.2.1 bt120.2.2.2.1 bt128.1 bt128.2.1 bt128.2.2.1 bt128.2.2.2 bt135.1 bt135.2.1 bt135.2.2.1 bt135.2.2.2.1 bt135.2.2.2.2 bt145.1 bt145.2.1 bt145.2.2.1 bt145.2.2.2.1) else (none))))))))))))
def laws_FnExactApply.T8 : Bool × List (List Nat × List Nat) := (true, [([], []), ([0], [0]), ([], []), ([2, 1], [2]), ([1, 3, 3], [1, 3]), ([4], [4]), ([5], [5]), ([5], [5]), ([], []), ([8, 6, 4, 0, 1, 2, 3, 4, 5, 6, 8], [6, 8]), ([7, 9, 0, 1, 2, 3, 4, 5, 6, 7, 8, 9], [7])])
def laws_FnExactApply.B8 : List Nat := [0, 1, 0, 7, 15, 31, 63, 63, 0, 383, 1023]
theorem laws_FnExactApply.tab8 : rtab .any (opsOf Try.f3 8) = laws_FnExactApply.T8 := by kernel_rfl
theorem laws_FnExactApply.bits8 : waitsOk laws_FnExactApply.T8.2 laws_FnExactApply.B8 = true := by kernel_rfl
def laws_FnExactApply.T31 : Bool × List (List Nat × List Nat) := (true, [([], []), ([0], [0]), ([], []), ([2, 1], [2]), ([1, 3, 3], [1, 3]), ([4], [4]), ([5], [5]), ([5], [5]), ([], []), ([8, 6, 4, 0, 1, 2, 3, 4, 5, 6, 8], [6, 8]), ([7, 9, 0, 1, 2, 3, 4, 5, 6, 7, 8, 9], [7])])
def laws_FnExactApply.B31 : List Nat := [0, 1, 0, 7, 15, 31, 63, 63, 0, 383, 1023]
theorem laws_FnExactApply.tab31 : rtab .any (opsOf Try.f3 31) = laws_FnExactApply.T31 := by kernel_rfl
theorem laws_FnExactApply.bits31 : waitsOk laws_FnExactApply.T31.2 laws_FnExactApply.B31 = true := by kernel_rfl
set_option maxHeartbeats 8000000 in
set_option maxRecDepth 100000 in
theorem laws_FnExactApply.calls (k : Nat) (A0_0 : Option Addr) (c0_0 : Nat) (l0_0 : List (S114)) (a0_1 : Int) (a0_2 : Int) (a0_3 : Int) (A1_0 : Option Addr) (c1_0 : Nat) (l1_0 : List (S114)) (A1_1 : Option Addr) (c1_1 : Nat) (l1_1 : List Int) (a1_2 : Int) (a1_3 : Int) (a1_4 : Int) (r : Bool) (w : World) (hr0_0 : Kd.C k114 w A0_0 l0_0.length l0_0) (hc0_0 : l0_0.length ≤ c0_0) (hr1_0 : Kd.C k114 w A1_0 l1_0.length l1_0) (hc1_0 : l1_0.length ≤ c1_0) (hr1_1 : Kd.C (Kd.int .i64) w A1_1 l1_1.length l1_1) (hc1_1 : l1_1.length ≤ c1_1) (h : laws_FnExactApply.f k l0_0 a0_1 a0_2 a0_3 l1_0 l1_1 a1_2 a1_3 a1_4 = some r) :
  Calls Try.prog 3 #[.agg #[.slice A0_0 l0_0.length c0_0, .int .i64 a0_1, .int .i64 a0_2, .int .i64 a0_3], .agg #[.slice A1_0 l1_0.length c1_0, .slice A1_1 l1_1.length c1_1, .int .i64 a1_2, .int .i64 a1_3, .int .i64 a1_4]] w fun e w' => e = .returned (.bool r) ∧ Below w.heap.size w w' := by
 have hu24 := Try.underlying24
 have hu27 := Try.underlying27
 have hu32 := Try.underlying32
 have hu37 := Try.underlying37
 have HR0_0 := Qz.mk hr0_0
 have HC0_0 := Qz.mk hc0_0
 clear hr0_0 hc0_0
 have HR1_0 := Qz.mk hr1_0
 have HC1_0 := Qz.mk hc1_0
 clear hr1_0 hc1_0
 have HR1_1 := Qz.mk hr1_1
 have HC1_1 := Qz.mk hc1_1
 clear hr1_1 hc1_1
 have HB := Qz.mk (Below.refl w.heap.size w)
 have H : ((laws_szVersion.f k l0_0 a0_1 a0_2 a0_3 1048576).bind fun t103 => (if t103 < 0 then (some true) else ((laws_szEdit.f k l1_0 l1_1 a1_2 a1_3 a1_4 t103).bind fun t104 => (if t104 < 0 then (some true) else ((laws_toVersion.f k l0_0 a0_1 a0_2 a0_3).bind fun bt105 => ((laws_toEdit.f k l1_0 l1_1 a1_2 a1_3 a1_4).bind fun bt111 => ((spec_Apply.f k bt105.1 bt105.2.1 bt105.2.2.1 bt105.2.2.2 bt111.1 bt111.2.1 bt111.2.2.1 bt111.2.2.2.1 bt111.2.2.2.2).bind fun bt120 => ((laws_toVersion.f k l0_0 a0_1 a0_2 a0_3).bind fun bt128 => ((laws_toEdit.f k l1_0 l1_1 a1_2 a1_3 a1_4).bind fun bt135 => ((impl_Apply.f bt128.1 bt128.2.1 bt128.2.2.1 bt128.2.2.2 bt135.1 bt135.2.1 bt135.2.2.1 bt135.2.2.2.1 bt135.2.2.2.2).bind fun bt145 => ((laws_eqVersion.f k bt145.1 bt145.2.1 bt145.2.2.1 bt145.2.2.2.1 bt120.1 bt120.2.1 bt120.2.2.1 bt120.2.2.2.1).bind fun t153 => (if t153 = true then (laws_FnExactApply.j0 k bt120.2.2.2.2 bt145.2.2.2.2 (bt145.2.2.2.2 != bt120.2.2.2.2) l0_0 a0_1 a0_2 a0_3 l1_0 l1_1 a1_2 a1_3 a1_4 bt120.1 bt120.2.1 bt120.2.2.1 bt120.2.2.2.1 bt128.1 bt128.2.1 bt128.2.2.1 bt128.2.2.2 bt135.1 bt135.2.1 bt135.2.2.1 bt135.2.2.2.1 bt135.2.2.2.2 bt145.1 bt145.2.1 bt145.2.2.1 bt145.2.2.2.1) else (none))))))))))))) = some r := h
 clear h
 replace H := Option.bind_eq_some_iff.mp H
 obtain ⟨t103, A30, H⟩ := H
 replace H : (if t103 < 0 then (some true) else ((laws_szEdit.f k l1_0 l1_1 a1_2 a1_3 a1_4 t103).bind fun t104 => (if t104 < 0 then (some true) else ((laws_toVersion.f k l0_0 a0_1 a0_2 a0_3).bind fun bt105 => ((laws_toEdit.f k l1_0 l1_1 a1_2 a1_3 a1_4).bind fun bt111 => ((spec_Apply.f k bt105.1 bt105.2.1 bt105.2.2.1 bt105.2.2.2 bt111.1 bt111.2.1 bt111.2.2.1 bt111.2.2.2.1 bt111.2.2.2.2).bind fun bt120 => ((laws_toVersion.f k l0_0 a0_1 a0_2 a0_3).bind fun bt128 => ((laws_toEdit.f k l1_0 l1_1 a1_2 a1_3 a1_4).bind fun bt135 => ((impl_Apply.f bt128.1 bt128.2.1 bt128.2.2.1 bt128.2.2.2 bt135.1 bt135.2.1 bt135.2.2.1 bt135.2.2.2.1 bt135.2.2.2.2).bind fun bt145 => ((laws_eqVersion.f k bt145.1 bt145.2.1 bt145.2.2.1 bt145.2.2.2.1 bt120.1 bt120.2.1 bt120.2.2.1 bt120.2.2.2.1).bind fun t153 => (if t153 = true then (laws_FnExactApply.j0 k bt120.2.2.2.2 bt145.2.2.2.2 (bt145.2.2.2.2 != bt120.2.2.2.2) l0_0 a0_1 a0_2 a0_3 l1_0 l1_1 a1_2 a1_3 a1_4 bt120.1 bt120.2.1 bt120.2.2.1 bt120.2.2.2.1 bt128.1 bt128.2.1 bt128.2.2.1 bt128.2.2.2 bt135.1 bt135.2.1 bt135.2.2.1 bt135.2.2.2.1 bt135.2.2.2.2 bt145.1 bt145.2.1 bt145.2.2.1 bt145.2.2.2.1) else (none)))))))))))) = some r := H
 have A3 := Qz.mk A30
 clear A30
 by_cases c4 : t103 < 0
 ·rw [if_pos c4] at H
  have c4b0 : decide (t103 < 0) = true := decide_eq_true c4
  clear c4
  obtain rfl := Option.some.inj H
  go_enter Try.func3, Try.ntmps3
  go_wp2_with (first | ((with_reducible refine qt (N := 2) rfl ?_); refine qr ?hg (N := 2) ?hd (cs := #[.slice A0_0 l0_0.length c0_0, .int .i64 a0_1, .int .i64 a0_2, .int .i64 a0_3]) (t := 24) ?hr ?_; (case hd => rfl); (case hg => rfl); (case hr => exact yq119); intro gb101 hg w5 hbox hb; have BK101 := Qz.mk (hbox); have GW101 := Qz.mk ((by rw [hg]; exact (ql yq133) : w.heap.size ≤ gb101)); have GE101 := GW101; replace HB := Qz.mk (qj yq133 hb); clear hb hbox hg) | ((with_reducible refine qt (N := 3) rfl ?_); refine qr ?hg (N := 3) ?hd (cs := #[.slice A1_0 l1_0.length c1_0, .slice A1_1 l1_1.length c1_1, .int .i64 a1_2, .int .i64 a1_3, .int .i64 a1_4]) (t := 27) ?hr ?_; (case hd => rfl); (case hg => rfl); (case hr => exact yq119); intro gb102 hg w6 hbox hb; have BK102 := Qz.mk (hbox); have GW102 := Qz.mk ((by rw [hg]; exact (ql yq111) : w.heap.size ≤ gb102)); have GE102 := GW102; replace HB := Qz.mk (qj yq111 hb); have NB101_102 := Qz.mk ((yq92 : gb101 ≠ gb102)); have NB102_101 := Qz.mk ((yq93 : gb102 ≠ gb101)); replace BK101 := bkbf3 BK101 yq76 hb; clear hb hbox hg; have hnb7 := NB101_102.out; have hnc7 := NB102_101.out; have hcz8_0 := (qa BK101.out 0).trans rfl; have hcz8_1 := (qa BK101.out 1).trans rfl; have hcz8_2 := (qa BK101.out 2).trans rfl; have hcz8_3 := (qa BK101.out 3).trans rfl; have hfz8_0 := qd BK101.out 0; have hfz8_1 := qd BK101.out 1; have hfz8_2 := qd BK101.out 2; have hfz8_3 := qd BK101.out 3) | ((with_reducible refine qo (f := 15) rfl ?_); refine goesL_ (some 19) rfl rfl Try.func15 (by kernel_rfl) rfl #[.agg #[.slice A0_0 l0_0.length c0_0, .int .i64 a0_1, .int .i64 a0_2, .int .i64 a0_3], .int .i64 1048576] rfl yq79 ?_; (with_reducible refine (laws_szVersion.calls k _ _ l0_0 a0_1 a0_2 a0_3 1048576 t103 _ ?side1 ?side2 A3.out).mono ?_); (case side1 => exact yq102); (case side2 => exact HC0_0.out); rintro e w9 ⟨rfl, hb⟩; refine ⟨_, rfl, ?_⟩; replace BK101 := bkbf3 BK101 yq76 hb; replace BK102 := bkbf3 BK102 yq77 hb; replace HB := Qz.mk (qj yq90 hb); (try clear hb); (try clear hk)))
  go_ret
  exact ⟨by first | rfl | (simp [qn, qm] <;> rfl) | (simp [*, qn, qm] <;> rfl), by repeat (first | (with_reducible first | exact HB.out | apply qi | apply qb | apply qh | refine qc ?_ GE101.out | refine qc ?_ GE102.out) | exact HB.out)⟩
 ·rw [if_neg c4] at H
  have c4b0 : decide (t103 < 0) = false := decide_eq_false c4
  clear c4
  replace H := Option.bind_eq_some_iff.mp H
  obtain ⟨t104, A100, H⟩ := H
  replace H : (if t104 < 0 then (some true) else ((laws_toVersion.f k l0_0 a0_1 a0_2 a0_3).bind fun bt105 => ((laws_toEdit.f k l1_0 l1_1 a1_2 a1_3 a1_4).bind fun bt111 => ((spec_Apply.f k bt105.1 bt105.2.1 bt105.2.2.1 bt105.2.2.2 bt111.1 bt111.2.1 bt111.2.2.1 bt111.2.2.2.1 bt111.2.2.2.2).bind fun bt120 => ((laws_toVersion.f k l0_0 a0_1 a0_2 a0_3).bind fun bt128 => ((laws_toEdit.f k l1_0 l1_1 a1_2 a1_3 a1_4).bind fun bt135 => ((impl_Apply.f bt128.1 bt128.2.1 bt128.2.2.1 bt128.2.2.2 bt135.1 bt135.2.1 bt135.2.2.1 bt135.2.2.2.1 bt135.2.2.2.2).bind fun bt145 => ((laws_eqVersion.f k bt145.1 bt145.2.1 bt145.2.2.1 bt145.2.2.2.1 bt120.1 bt120.2.1 bt120.2.2.1 bt120.2.2.2.1).bind fun t153 => (if t153 = true then (laws_FnExactApply.j0 k bt120.2.2.2.2 bt145.2.2.2.2 (bt145.2.2.2.2 != bt120.2.2.2.2) l0_0 a0_1 a0_2 a0_3 l1_0 l1_1 a1_2 a1_3 a1_4 bt120.1 bt120.2.1 bt120.2.2.1 bt120.2.2.2.1 bt128.1 bt128.2.1 bt128.2.2.1 bt128.2.2.2 bt135.1 bt135.2.1 bt135.2.2.1 bt135.2.2.2.1 bt135.2.2.2.2 bt145.1 bt145.2.1 bt145.2.2.1 bt145.2.2.2.1) else (none)))))))))) = some r := H
  have A10 := Qz.mk A100
  clear A100
  by_cases c11 : t104 < 0
  ·rw [if_pos c11] at H
   have c11b0 : decide (t104 < 0) = true := decide_eq_true c11
   clear c11
   obtain rfl := Option.some.inj H
   go_enter Try.func3, Try.ntmps3
   go_wp2_with (first | ((with_reducible refine qt (N := 2) rfl ?_); refine qr ?hg (N := 2) ?hd (cs := #[.slice A0_0 l0_0.length c0_0, .int .i64 a0_1, .int .i64 a0_2, .int .i64 a0_3]) (t := 24) ?hr ?_; (case hd => rfl); (case hg => rfl); (case hr => exact yq119); intro gb101 hg w12 hbox hb; have BK101 := Qz.mk (hbox); have GW101 := Qz.mk ((by rw [hg]; exact (ql yq133) : w.heap.size ≤ gb101)); have GE101 := GW101; replace HB := Qz.mk (qj yq133 hb); clear hb hbox hg) | ((with_reducible refine qt (N := 3) rfl ?_); refine qr ?hg (N := 3) ?hd (cs := #[.slice A1_0 l1_0.length c1_0, .slice A1_1 l1_1.length c1_1, .int .i64 a1_2, .int .i64 a1_3, .int .i64 a1_4]) (t := 27) ?hr ?_; (case hd => rfl); (case hg => rfl); (case hr => exact yq119); intro gb102 hg w13 hbox hb; have BK102 := Qz.mk (hbox); have GW102 := Qz.mk ((by rw [hg]; exact (ql yq111) : w.heap.size ≤ gb102)); have GE102 := GW102; replace HB := Qz.mk (qj yq111 hb); have NB101_102 := Qz.mk ((yq92 : gb101 ≠ gb102)); have NB102_101 := Qz.mk ((yq93 : gb102 ≠ gb101)); replace BK101 := bkbf3 BK101 yq76 hb; clear hb hbox hg; have hnb14 := NB101_102.out; have hnc14 := NB102_101.out; have hcz15_0 := (qa BK101.out 0).trans rfl; have hcz15_1 := (qa BK101.out 1).trans rfl; have hcz15_2 := (qa BK101.out 2).trans rfl; have hcz15_3 := (qa BK101.out 3).trans rfl; have hfz15_0 := qd BK101.out 0; have hfz15_1 := qd BK101.out 1; have hfz15_2 := qd BK101.out 2; have hfz15_3 := qd BK101.out 3) | ((with_reducible refine qo (f := 15) rfl ?_); refine goesL_ (some 19) rfl rfl Try.func15 (by kernel_rfl) rfl #[.agg #[.slice A0_0 l0_0.length c0_0, .int .i64 a0_1, .int .i64 a0_2, .int .i64 a0_3], .int .i64 1048576] rfl yq79 ?_; (with_reducible refine (laws_szVersion.calls k _ _ l0_0 a0_1 a0_2 a0_3 1048576 t103 _ ?side1 ?side2 A3.out).mono ?_); (case side1 => exact yq102); (case side2 => exact HC0_0.out); rintro e w16 ⟨rfl, hb⟩; refine ⟨_, rfl, ?_⟩; replace BK101 := bkbf3 BK101 yq76 hb; replace BK102 := bkbf3 BK102 yq77 hb; replace HB := Qz.mk (qj yq90 hb); (try clear hb); (try clear hk); have hcz17_0 := (qa BK102.out 0).trans rfl; have hcz17_1 := (qa BK102.out 1).trans rfl; have hcz17_2 := (qa BK102.out 2).trans rfl; have hcz17_3 := (qa BK102.out 3).trans rfl; have hcz17_4 := (qa BK102.out 4).trans rfl; have hfz17_0 := qd BK102.out 0; have hfz17_1 := qd BK102.out 1; have hfz17_2 := qd BK102.out 2; have hfz17_3 := qd BK102.out 3; have hfz17_4 := qd BK102.out 4) | ((with_reducible refine qo (f := 16) rfl ?_); refine goesL_ (some 24) rfl rfl Try.func16 (by kernel_rfl) rfl #[.agg #[.slice A1_0 l1_0.length c1_0, .slice A1_1 l1_1.length c1_1, .int .i64 a1_2, .int .i64 a1_3, .int .i64 a1_4], .int .i64 t103] rfl yq79 ?_; (with_reducible refine (laws_szEdit.calls k _ _ l1_0 _ _ l1_1 a1_2 a1_3 a1_4 t103 t104 _ ?side1 ?side2 ?side3 ?side4 A10.out).mono ?_); (case side1 => exact yq99); (case side2 => exact HC1_0.out); (case side3 => exact yq98); (case side4 => exact HC1_1.out); rintro e w18 ⟨rfl, hb⟩; refine ⟨_, rfl, ?_⟩; replace BK101 := bkbf3 BK101 yq76 hb; replace BK102 := bkbf3 BK102 yq77 hb; replace HB := Qz.mk (qj yq90 hb); (try clear hb); (try clear hk)))
   go_ret
   exact ⟨by first | rfl | (simp [qn, qm] <;> rfl) | (simp [*, qn, qm] <;> rfl), by repeat (first | (with_reducible first | exact HB.out | apply qi | apply qb | apply qh | refine qc ?_ GE101.out | refine qc ?_ GE102.out) | exact HB.out)⟩
  ·rw [if_neg c11] at H
   have c11b0 : decide (t104 < 0) = false := decide_eq_false c11
   clear c11
   replace H := Option.bind_eq_some_iff.mp H
   obtain ⟨⟨t105, t108, t109, t110⟩, A190, H⟩ := H
   replace H : ((laws_toEdit.f k l1_0 l1_1 a1_2 a1_3 a1_4).bind fun bt111 => ((spec_Apply.f k t105 t108 t109 t110 bt111.1 bt111.2.1 bt111.2.2.1 bt111.2.2.2.1 bt111.2.2.2.2).bind fun bt120 => ((laws_toVersion.f k l0_0 a0_1 a0_2 a0_3).bind fun bt128 => ((laws_toEdit.f k l1_0 l1_1 a1_2 a1_3 a1_4).bind fun bt135 => ((impl_Apply.f bt128.1 bt128.2.1 bt128.2.2.1 bt128.2.2.2 bt135.1 bt135.2.1 bt135.2.2.1 bt135.2.2.2.1 bt135.2.2.2.2).bind fun bt145 => ((laws_eqVersion.f k bt145.1 bt145.2.1 bt145.2.2.1 bt145.2.2.2.1 bt120.1 bt120.2.1 bt120.2.2.1 bt120.2.2.2.1).bind fun t153 => (if t153 = true then (laws_FnExactApply.j0 k bt120.2.2.2.2 bt145.2.2.2.2 (bt145.2.2.2.2 != bt120.2.2.2.2) l0_0 a0_1 a0_2 a0_3 l1_0 l1_1 a1_2 a1_3 a1_4 bt120.1 bt120.2.1 bt120.2.2.1 bt120.2.2.2.1 bt128.1 bt128.2.1 bt128.2.2.1 bt128.2.2.2 bt135.1 bt135.2.1 bt135.2.2.1 bt135.2.2.2.1 bt135.2.2.2.2 bt145.1 bt145.2.1 bt145.2.2.1 bt145.2.2.2.1) else (none)))))))) = some r := H
   have A19 := Qz.mk A190
   clear A190
   replace H := Option.bind_eq_some_iff.mp H
   obtain ⟨⟨t111, t114, t117, t118, t119⟩, A200, H⟩ := H
   replace H : ((spec_Apply.f k t105 t108 t109 t110 t111 t114 t117 t118 t119).bind fun bt120 => ((laws_toVersion.f k l0_0 a0_1 a0_2 a0_3).bind fun bt128 => ((laws_toEdit.f k l1_0 l1_1 a1_2 a1_3 a1_4).bind fun bt135 => ((impl_Apply.f bt128.1 bt128.2.1 bt128.2.2.1 bt128.2.2.2 bt135.1 bt135.2.1 bt135.2.2.1 bt135.2.2.2.1 bt135.2.2.2.2).bind fun bt145 => ((laws_eqVersion.f k bt145.1 bt145.2.1 bt145.2.2.1 bt145.2.2.2.1 bt120.1 bt120.2.1 bt120.2.2.1 bt120.2.2.2.1).bind fun t153 => (if t153 = true then (laws_FnExactApply.j0 k bt120.2.2.2.2 bt145.2.2.2.2 (bt145.2.2.2.2 != bt120.2.2.2.2) l0_0 a0_1 a0_2 a0_3 l1_0 l1_1 a1_2 a1_3 a1_4 bt120.1 bt120.2.1 bt120.2.2.1 bt120.2.2.2.1 bt128.1 bt128.2.1 bt128.2.2.1 bt128.2.2.2 bt135.1 bt135.2.1 bt135.2.2.1 bt135.2.2.2.1 bt135.2.2.2.2 bt145.1 bt145.2.1 bt145.2.2.1 bt145.2.2.2.1) else (none))))))) = some r := H
   have A20 := Qz.mk A200
   clear A200
   replace H := Option.bind_eq_some_iff.mp H
   obtain ⟨⟨t120, t123, t124, t125, t126⟩, A210, H⟩ := H
   replace H : ((laws_toVersion.f k l0_0 a0_1 a0_2 a0_3).bind fun bt128 => ((laws_toEdit.f k l1_0 l1_1 a1_2 a1_3 a1_4).bind fun bt135 => ((impl_Apply.f bt128.1 bt128.2.1 bt128.2.2.1 bt128.2.2.2 bt135.1 bt135.2.1 bt135.2.2.1 bt135.2.2.2.1 bt135.2.2.2.2).bind fun bt145 => ((laws_eqVersion.f k bt145.1 bt145.2.1 bt145.2.2.1 bt145.2.2.2.1 t120 t123 t124 t125).bind fun t153 => (if t153 = true then (laws_FnExactApply.j0 k t126 bt145.2.2.2.2 (bt145.2.2.2.2 != t126) l0_0 a0_1 a0_2 a0_3 l1_0 l1_1 a1_2 a1_3 a1_4 t120 t123 t124 t125 bt128.1 bt128.2.1 bt128.2.2.1 bt128.2.2.2 bt135.1 bt135.2.1 bt135.2.2.1 bt135.2.2.2.1 bt135.2.2.2.2 bt145.1 bt145.2.1 bt145.2.2.1 bt145.2.2.2.1) else (none)))))) = some r := H
   have A21 := Qz.mk A210
   clear A210
   replace H := Option.bind_eq_some_iff.mp H
   obtain ⟨⟨t128, t131, t132, t133⟩, A220, H⟩ := H
   replace H : ((laws_toEdit.f k l1_0 l1_1 a1_2 a1_3 a1_4).bind fun bt135 => ((impl_Apply.f t128 t131 t132 t133 bt135.1 bt135.2.1 bt135.2.2.1 bt135.2.2.2.1 bt135.2.2.2.2).bind fun bt145 => ((laws_eqVersion.f k bt145.1 bt145.2.1 bt145.2.2.1 bt145.2.2.2.1 t120 t123 t124 t125).bind fun t153 => (if t153 = true then (laws_FnExactApply.j0 k t126 bt145.2.2.2.2 (bt145.2.2.2.2 != t126) l0_0 a0_1 a0_2 a0_3 l1_0 l1_1 a1_2 a1_3 a1_4 t120 t123 t124 t125 t128 t131 t132 t133 bt135.1 bt135.2.1 bt135.2.2.1 bt135.2.2.2.1 bt135.2.2.2.2 bt145.1 bt145.2.1 bt145.2.2.1 bt145.2.2.2.1) else (none))))) = some r := H
   have A22 := Qz.mk A220
   clear A220
   replace H := Option.bind_eq_some_iff.mp H
   obtain ⟨⟨t135, t138, t141, t142, t143⟩, A230, H⟩ := H
   replace H : ((impl_Apply.f t128 t131 t132 t133 t135 t138 t141 t142 t143).bind fun bt145 => ((laws_eqVersion.f k bt145.1 bt145.2.1 bt145.2.2.1 bt145.2.2.2.1 t120 t123 t124 t125).bind fun t153 => (if t153 = true then (laws_FnExactApply.j0 k t126 bt145.2.2.2.2 (bt145.2.2.2.2 != t126) l0_0 a0_1 a0_2 a0_3 l1_0 l1_1 a1_2 a1_3 a1_4 t120 t123 t124 t125 t128 t131 t132 t133 t135 t138 t141 t142 t143 bt145.1 bt145.2.1 bt145.2.2.1 bt145.2.2.2.1) else (none)))) = some r := H
   have A23 := Qz.mk A230
   clear A230
   replace H := Option.bind_eq_some_iff.mp H
   obtain ⟨⟨t145, t148, t149, t150, t151⟩, A240, H⟩ := H
   replace H : ((laws_eqVersion.f k t145 t148 t149 t150 t120 t123 t124 t125).bind fun t153 => (if t153 = true then (laws_FnExactApply.j0 k t126 t151 (t151 != t126) l0_0 a0_1 a0_2 a0_3 l1_0 l1_1 a1_2 a1_3 a1_4 t120 t123 t124 t125 t128 t131 t132 t133 t135 t138 t141 t142 t143 t145 t148 t149 t150) else (none))) = some r := H
   have A24 := Qz.mk A240
   clear A240
   have HC25 := Qz.mk H
   clear H
   go_enter Try.func3, Try.ntmps3
   try go_wp2_with (first | ((with_reducible refine qt (N := 2) rfl ?_); refine qr ?hg (N := 2) ?hd (cs := #[.slice A0_0 l0_0.length c0_0, .int .i64 a0_1, .int .i64 a0_2, .int .i64 a0_3]) (t := 24) ?hr ?_; (case hd => rfl); (case hg => rfl); (case hr => exact yq119); intro gb101 hg w26 hbox hb; have BK101 := Qz.mk (hbox); have GW101 := Qz.mk ((by rw [hg]; exact (ql yq133) : w.heap.size ≤ gb101)); have GE101 := GW101; replace HB := Qz.mk (qj yq133 hb); clear hb hbox hg) | ((with_reducible refine qt (N := 3) rfl ?_); refine qr ?hg (N := 3) ?hd (cs := #[.slice A1_0 l1_0.length c1_0, .slice A1_1 l1_1.length c1_1, .int .i64 a1_2, .int .i64 a1_3, .int .i64 a1_4]) (t := 27) ?hr ?_; (case hd => rfl); (case hg => rfl); (case hr => exact yq119); intro gb102 hg w27 hbox hb; have BK102 := Qz.mk (hbox); have GW102 := Qz.mk ((by rw [hg]; exact (ql yq111) : w.heap.size ≤ gb102)); have GE102 := GW102; replace HB := Qz.mk (qj yq111 hb); have NB101_102 := Qz.mk ((yq92 : gb101 ≠ gb102)); have NB102_101 := Qz.mk ((yq93 : gb102 ≠ gb101)); replace BK101 := bkbf3 BK101 yq76 hb; clear hb hbox hg; have hnb28 := NB101_102.out; have hnc28 := NB102_101.out; have hcz29_0 := (qa BK101.out 0).trans rfl; have hcz29_1 := (qa BK101.out 1).trans rfl; have hcz29_2 := (qa BK101.out 2).trans rfl; have hcz29_3 := (qa BK101.out 3).trans rfl; have hfz29_0 := qd BK101.out 0; have hfz29_1 := qd BK101.out 1; have hfz29_2 := qd BK101.out 2; have hfz29_3 := qd BK101.out 3) | ((with_reducible refine qo (f := 15) rfl ?_); refine goesL_ (some 19) rfl rfl Try.func15 (by kernel_rfl) rfl #[.agg #[.slice A0_0 l0_0.length c0_0, .int .i64 a0_1, .int .i64 a0_2, .int .i64 a0_3], .int .i64 1048576] rfl yq79 ?_; (with_reducible refine (laws_szVersion.calls k _ _ l0_0 a0_1 a0_2 a0_3 1048576 t103 _ ?side1 ?side2 A3.out).mono ?_); (case side1 => exact yq102); (case side2 => exact HC0_0.out); rintro e w30 ⟨rfl, hb⟩; refine ⟨_, rfl, ?_⟩; replace BK101 := bkbf3 BK101 yq76 hb; replace BK102 := bkbf3 BK102 yq77 hb; replace HB := Qz.mk (qj yq90 hb); (try clear hb); (try clear hk); have hcz31_0 := (qa BK102.out 0).trans rfl; have hcz31_1 := (qa BK102.out 1).trans rfl; have hcz31_2 := (qa BK102.out 2).trans rfl; have hcz31_3 := (qa BK102.out 3).trans rfl; have hcz31_4 := (qa BK102.out 4).trans rfl; have hfz31_0 := qd BK102.out 0; have hfz31_1 := qd BK102.out 1; have hfz31_2 := qd BK102.out 2; have hfz31_3 := qd BK102.out 3; have hfz31_4 := qd BK102.out 4) | ((with_reducible refine qo (f := 16) rfl ?_); refine goesL_ (some 24) rfl rfl Try.func16 (by kernel_rfl) rfl #[.agg #[.slice A1_0 l1_0.length c1_0, .slice A1_1 l1_1.length c1_1, .int .i64 a1_2, .int .i64 a1_3, .int .i64 a1_4], .int .i64 t103] rfl yq79 ?_; (with_reducible refine (laws_szEdit.calls k _ _ l1_0 _ _ l1_1 a1_2 a1_3 a1_4 t103 t104 _ ?side1 ?side2 ?side3 ?side4 A10.out).mono ?_); (case side1 => exact yq99); (case side2 => exact HC1_0.out); (case side3 => exact yq98); (case side4 => exact HC1_1.out); rintro e w32 ⟨rfl, hb⟩; refine ⟨_, rfl, ?_⟩; replace BK101 := bkbf3 BK101 yq76 hb; replace BK102 := bkbf3 BK102 yq77 hb; replace HB := Qz.mk (qj yq90 hb); (try clear hb); (try clear hk)))
   replace BK101 := Qz.mk (qg BK101.out)
   replace BK102 := Qz.mk (qg BK102.out)
   replace HB := Qz.mk (qh HB.out)
   refine start_ (n := 11) (S := fun w' => w'.cell? ⟨gb101, 0, none⟩ = some (.slice A0_0 l0_0.length c0_0) ∧ w'.cell? ⟨gb101, 1, none⟩ = some (.int .i64 a0_1) ∧ w'.cell? ⟨gb101, 2, none⟩ = some (.int .i64 a0_2) ∧ w'.cell? ⟨gb101, 3, none⟩ = some (.int .i64 a0_3) ∧ w'.cell? ⟨gb102, 0, none⟩ = some (.slice A1_0 l1_0.length c1_0) ∧ w'.cell? ⟨gb102, 1, none⟩ = some (.slice A1_1 l1_1.length c1_1) ∧ w'.cell? ⟨gb102, 2, none⟩ = some (.int .i64 a1_2) ∧ w'.cell? ⟨gb102, 3, none⟩ = some (.int .i64 a1_3) ∧ w'.cell? ⟨gb102, 4, none⟩ = some (.int .i64 a1_4)) (ds := []) bq0 (by kernel_rfl) rfl rfl ⟨(qa BK101.out 0).trans rfl, (qa BK101.out 1).trans rfl, (qa BK101.out 2).trans rfl, (qa BK101.out 3).trans rfl, (qa BK102.out 0).trans rfl, (qa BK102.out 1).trans rfl, (qa BK102.out 2).trans rfl, (qa BK102.out 3).trans rfl, (qa BK102.out 4).trans rfl⟩ (fun hHeld => ?_); refine with_tabW laws_FnExactApply.tab8 laws_FnExactApply.bits8 (fun HT_ HW_ => ?_)
   generalize w32.drew = w33 at BK101 BK102 HB hHeld ⊢
   refine take_ (i := 0) (N := some 28) (v := ?_) (a' := ?_) bq3 rfl rfl (take_ofW HT_.out HW_.out (by kernel_rfl)) (fun _ _ _ h => h) (Or.inl ⟨by rfl, ?_⟩) hHeld ?_ ?_
   rotate_left
   ·rintro w' ⟨s0, s1, s2, s3, s4, s5, s6, s7, s8⟩
    go_simp
    with_reducible rfl
   rotate_left
   ·simp only [Act.put, sq1, sq2, sq3, i64_w, i32_w]
    rfl
   refine take_ (i := 2) (N := some 30) (v := ?_) (a' := ?_) bq6 rfl rfl (take_ofW HT_.out HW_.out (by kernel_rfl)) (fun _ _ _ h => h) (Or.inl ⟨by rfl, ?_⟩) hHeld ?_ ?_
   rotate_left
   ·rintro w' ⟨s0, s1, s2, s3, s4, s5, s6, s7, s8⟩
    go_simp
    with_reducible rfl
   rotate_left
   ·simp only [Act.put, sq1, sq2, sq3, i64_w, i32_w]
    rfl
   refine join_ (σ := Value × Value × Value × Value × Nat) 2 bq32 (fun s_ => [(29, .agg #[s_.1, .int .i64 t108, .int .i64 t109, .int .i64 t110]), (31, .agg #[s_.2.1, s_.2.2.1, .int .i64 t117, .int .i64 t118, .int .i64 t119]), (32, .tuple #[.agg #[s_.2.2.2.1, .int .i64 t123, .int .i64 t124, .int .i64 t125], .bool t126]), (6, .pointer (some ⟨s_.2.2.2.2, 0, none⟩)), (27, .tuple #[.agg #[s_.2.2.2.1, .int .i64 t123, .int .i64 t124, .int .i64 t125], .bool t126]), (33, .agg #[s_.2.2.2.1, .int .i64 t123, .int .i64 t124, .int .i64 t125]), (34, .bool t126)]) (fun s_ w' => (w'.cell? ⟨gb101, 0, none⟩ = some (.slice A0_0 l0_0.length c0_0) ∧ w'.cell? ⟨gb101, 1, none⟩ = some (.int .i64 a0_1) ∧ w'.cell? ⟨gb101, 2, none⟩ = some (.int .i64 a0_2) ∧ w'.cell? ⟨gb101, 3, none⟩ = some (.int .i64 a0_3) ∧ w'.cell? ⟨gb102, 0, none⟩ = some (.slice A1_0 l1_0.length c1_0) ∧ w'.cell? ⟨gb102, 1, none⟩ = some (.slice A1_1 l1_1.length c1_1) ∧ w'.cell? ⟨gb102, 2, none⟩ = some (.int .i64 a1_2) ∧ w'.cell? ⟨gb102, 3, none⟩ = some (.int .i64 a1_3) ∧ w'.cell? ⟨gb102, 4, none⟩ = some (.int .i64 a1_4)) ∧ (Kd.R k66 66 w' w.heap.size (fun k_ => some k_ ≠ (s_.2.1 : Value).ownBlock ∧ some k_ ≠ (s_.2.2.2.1 : Value).ownBlock) s_.1 t105) ∧ (Kd.R k66 66 w' w.heap.size (fun k_ => some k_ ≠ (s_.1 : Value).ownBlock ∧ some k_ ≠ (s_.2.2.2.1 : Value).ownBlock) s_.2.1 t111) ∧ (Kd.R (Kd.int .i64) 2 w' w.heap.size (fun _ => True) s_.2.2.1 t114) ∧ (Kd.R k66 66 w' w.heap.size (fun k_ => some k_ ≠ (s_.1 : Value).ownBlock ∧ some k_ ≠ (s_.2.1 : Value).ownBlock) s_.2.2.2.1 t120) ∧ (w'.heap[gb101]? = some (.cells #[.slice A0_0 l0_0.length c0_0, .int .i64 a0_1, .int .i64 a0_2, .int .i64 a0_3] 24 (0, 0))) ∧ (w'.heap[gb102]? = some (.cells #[.slice A1_0 l1_0.length c1_0, .slice A1_1 l1_1.length c1_1, .int .i64 a1_2, .int .i64 a1_3, .int .i64 a1_4] 27 (0, 0))) ∧ (w'.heap[s_.2.2.2.2]? = some (.cells #[.slice none 0 0, .int .i64 0, .int .i64 0, .int .i64 0] 32 (0, 0))) ∧ (w.heap.size ≤ s_.2.2.2.2) ∧ (w.heap.size ≤ s_.2.2.2.2) ∧ (gb101 ≠ s_.2.2.2.2) ∧ (s_.2.2.2.2 ≠ gb101) ∧ (gb102 ≠ s_.2.2.2.2) ∧ (s_.2.2.2.2 ≠ gb102) ∧ (Below w.heap.size w w')) ?_ ?_
   rotate_left
   ·intro hCont
    refine two_ (i := 1) (j := 8) (Ni := some 29) (Nj := some 6) bq10 bq7 rfl rfl rfl rfl (two_of HT_.out (by kernel_rfl)) (by decide) (by decide) (fun K hK => ?_) (fun K hK => ?_)
    ·skip
     refine goes_ Try.func18 (by kernel_rfl) rfl #[.agg #[.slice A0_0 l0_0.length c0_0, .int .i64 a0_1, .int .i64 a0_2, .int .i64 a0_3]] (by rfl) rfl rfl yq79 ?_
     with_reducible refine (laws_toVersion.calls k _ _ l0_0 a0_1 a0_2 a0_3 t105 t108 t109 t110 _ ?side1 ?side2 A19.out).mono ?_
     (case side1 => exact yq102)
     (case side2 => exact HC0_0.out)
     rintro e w34 ⟨v106, rfl, ho0, hb⟩
     refine ⟨_, rfl, ?_⟩
     have HO107 := Qz.mk (Kd.R_lower ho0 (ql yq90))
     replace BK101 := bkbf3 BK101 yq76 hb
     replace BK102 := bkbf3 BK102 yq77 hb
     replace HB := Qz.mk (qj yq90 hb)
     (try clear hb)
     (try clear hk)
     (try clear ho0)
     refine hK.out _ _ ⟨(qa BK101.out 0).trans rfl, (qa BK101.out 1).trans rfl, (qa BK101.out 2).trans rfl, (qa BK101.out 3).trans rfl, (qa BK102.out 0).trans rfl, (qa BK102.out 1).trans rfl, (qa BK102.out 2).trans rfl, (qa BK102.out 3).trans rfl, (qa BK102.out 4).trans rfl⟩ (fun hHeld => ?_)
     clear hK K
     refine norm_ (a' := ?_) ?_ ?_
     rotate_left
     ·show Act.put _ (some 29) _ = _
      simp only [Act.put, sq1, sq2, sq3, i64_w, i32_w]
      rfl
     refine two_ (i := 3) (j := 8) (Ni := some 31) (Nj := some 6) bq17 bq12 rfl rfl rfl rfl (two_of HT_.out (by kernel_rfl)) (by decide) (by decide) (fun K hK => ?_) (fun K hK => ?_)
     ·skip
      refine goes_ Try.func19 (by kernel_rfl) rfl #[.agg #[.slice A1_0 l1_0.length c1_0, .slice A1_1 l1_1.length c1_1, .int .i64 a1_2, .int .i64 a1_3, .int .i64 a1_4]] (by rfl) rfl rfl yq79 ?_
      with_reducible refine (laws_toEdit.calls k _ _ l1_0 _ _ l1_1 a1_2 a1_3 a1_4 t111 t114 t117 t118 t119 _ ?side1 ?side2 ?side3 ?side4 A20.out).mono ?_
      (case side1 => exact yq99)
      (case side2 => exact HC1_0.out)
      (case side3 => exact yq98)
      (case side4 => exact HC1_1.out)
      rintro e w35 ⟨v112, v115, rfl, ho0, ho1, hb⟩
      refine ⟨_, rfl, ?_⟩
      have HO113 := Qz.mk (Kd.R_lower (Kd.R_new' ho0 (Kd.R_lt yq94)) (ql yq90))
      replace HO107 := Qz.mk (Kd.R_elder' yq94 (Kd.R_base ho0) hb)
      have HO116 := Qz.mk (Kd.R_lower ho1 (ql yq90))
      replace BK101 := bkbf3 BK101 yq76 hb
      replace BK102 := bkbf3 BK102 yq77 hb
      replace HB := Qz.mk (qj yq90 hb)
      (try clear hb)
      (try clear hk)
      (try clear ho0)
      (try clear ho1)
      obtain ⟨Ao36, co36, eo36⟩ := Kd.R_slice HO107.out
      (first | subst eo36 | (injection eo36 with f1_ f2_ f3_; have f4_ := f1_.symm; have f5_ := f3_.symm; clear f1_ f2_ f3_; subst f4_; subst f5_))
      obtain ⟨Ao37, co37, eo37⟩ := Kd.R_slice HO113.out
      (first | subst eo37 | (injection eo37 with f1_ f2_ f3_; have f4_ := f1_.symm; have f5_ := f3_.symm; clear f1_ f2_ f3_; subst f4_; subst f5_))
      obtain ⟨Ao38, co38, eo38⟩ := Kd.R_slice HO116.out
      (first | subst eo38 | (injection eo38 with f1_ f2_ f3_; have f4_ := f1_.symm; have f5_ := f3_.symm; clear f1_ f2_ f3_; subst f4_; subst f5_))
      refine hK.out _ _ ⟨(qa BK101.out 0).trans rfl, (qa BK101.out 1).trans rfl, (qa BK101.out 2).trans rfl, (qa BK101.out 3).trans rfl, (qa BK102.out 0).trans rfl, (qa BK102.out 1).trans rfl, (qa BK102.out 2).trans rfl, (qa BK102.out 3).trans rfl, (qa BK102.out 4).trans rfl⟩ (fun hHeld => ?_)
      clear hK K
      refine norm_ (a' := ?_) ?_ ?_
      rotate_left
      ·show Act.put _ (some 31) _ = _
       simp only [Act.put, sq1, sq2, sq3, i64_w, i32_w]
       rfl
      refine two_ (i := 4) (j := 8) (Ni := some 32) (Nj := some 6) bq21 bq18 rfl rfl rfl rfl (two_of HT_.out (by kernel_rfl)) (by decide) (by decide) (fun K hK => ?_) (fun K hK => ?_)
      ·skip
       refine goes_ Try.func17 (by kernel_rfl) rfl #[.agg #[.slice Ao36 t105.length co36, .int .i64 t108, .int .i64 t109, .int .i64 t110], .agg #[.slice Ao37 t111.length co37, .slice Ao38 t114.length co38, .int .i64 t117, .int .i64 t118, .int .i64 t119]] (by rfl) rfl rfl yq79 ?_
       with_reducible refine (spec_Apply.calls k _ _ t105 t108 t109 t110 _ _ t111 _ _ t114 t117 t118 t119 t120 t123 t124 t125 t126 _ ?side1 ?side2 ?side3 ?side4 ?side5 ?side6 A21.out).mono ?_
       (case side1 => exact yq131)
       (case side2 => exact (Kd.R_reads' HO107.out).2.1)
       (case side3 => exact yq130)
       (case side4 => exact (Kd.R_reads' HO113.out).2.1)
       (case side5 => exact yq129)
       (case side6 => exact (Kd.R_reads' HO116.out).2.1)
       rintro e w39 ⟨v121, rfl, ho0, hb⟩
       refine ⟨_, rfl, ?_⟩
       replace HO116 := Qz.mk (Kd.R_below yq100 hb)
       have HO122 := Qz.mk (Kd.R_lower (Kd.R_new' (Kd.R_new' ho0 (Kd.R_lt yq94)) (Kd.R_lt yq101)) (ql yq90))
       replace HO107 := Qz.mk (Kd.R_elder' yq94 (Kd.R_base ho0) hb)
       replace HO113 := Qz.mk (Kd.R_elder' yq101 (Kd.R_base ho0) hb)
       replace BK101 := bkbf3 BK101 yq76 hb
       replace BK102 := bkbf3 BK102 yq77 hb
       replace HB := Qz.mk (qj yq90 hb)
       (try clear hb)
       (try clear hk)
       (try clear ho0)
       refine hK.out _ _ ⟨(qa BK101.out 0).trans rfl, (qa BK101.out 1).trans rfl, (qa BK101.out 2).trans rfl, (qa BK101.out 3).trans rfl, (qa BK102.out 0).trans rfl, (qa BK102.out 1).trans rfl, (qa BK102.out 2).trans rfl, (qa BK102.out 3).trans rfl, (qa BK102.out 4).trans rfl⟩ (fun hHeld => ?_)
       clear hK K
       refine norm_ (a' := ?_) ?_ ?_
       rotate_left
       ·show Act.put _ (some 32) _ = _
        simp only [Act.put, sq1, sq2, sq3, i64_w, i32_w]
        rfl
       refine pure_ (i := 5) (N := some 27) (v := ?_) (a' := ?_) bq23 rfl rfl (any_of HT_.out (by kernel_rfl)) (fun _ _ _ h => h) (Or.inl ⟨by rfl, ?_⟩) ?_ ?_
       rotate_left
       ·intro w'
        go_simp
        with_reducible rfl
       rotate_left
       ·simp only [Act.put, sq1, sq2, sq3, i64_w, i32_w]
        rfl
       refine pure_ (i := 6) (N := some 33) (v := ?_) (a' := ?_) bq26 rfl rfl (any_of HT_.out (by kernel_rfl)) (fun _ _ _ h => h) (Or.inl ⟨by rfl, ?_⟩) ?_ ?_
       rotate_left
       ·intro w'
        go_simp
        with_reducible rfl
       rotate_left
       ·simp only [Act.put, sq1, sq2, sq3, i64_w, i32_w]
        rfl
       refine pure_ (i := 7) (N := some 34) (v := ?_) (a' := ?_) bq30 rfl rfl (any_of HT_.out (by kernel_rfl)) (fun _ _ _ h => h) (Or.inl ⟨by rfl, ?_⟩) ?_ ?_
       rotate_left
       ·intro w'
        go_simp
        with_reducible rfl
       rotate_left
       ·simp only [Act.put, sq1, sq2, sq3, i64_w, i32_w]
        rfl
       refine one_ (i := 8) (N := some 6) bq32 rfl rfl (one_of HT_.out (by kernel_rfl)) (by decide) (fun K hK => ?_)
       refine box_step ?hg (N := 6) ?hd (cs := #[.slice none 0 0, .int .i64 0, .int .i64 0, .int .i64 0]) (t := 32) ?hr ?_; (case hd => rfl); (case hg => rfl); (case hr => exact yq119)
       intro gb127 hg w40 hbox hb
       replace HO107 := Qz.mk (Kd.R_below yq94 hb)
       replace HO113 := Qz.mk (Kd.R_below yq101 hb)
       replace HO116 := Qz.mk (Kd.R_below yq100 hb)
       replace HO122 := Qz.mk (Kd.R_below (by (with_reducible repeat (first | apply Kd.R_alloc | apply Kd.R_drewN | apply Kd.R_drew)); exact HO122.out) hb)
       have BK127 := Qz.mk (hbox)
       have GW127 := Qz.mk ((by rw [hg]; exact (ql yq90) : w.heap.size ≤ gb127))
       have GE127 := GW127
       replace HB := Qz.mk (qj yq90 hb)
       have NB101_127 := Qz.mk ((yq92 : gb101 ≠ gb127))
       have NB127_101 := Qz.mk ((yq93 : gb127 ≠ gb101))
       replace BK101 := bkbf3 BK101 yq76 hb
       have NB102_127 := Qz.mk ((yq95 : gb102 ≠ gb127))
       have NB127_102 := Qz.mk ((yq96 : gb127 ≠ gb102))
       replace BK102 := bkbf3 BK102 yq77 hb
       clear hb hbox hg
       refine hK.out _ _ ⟨(qa BK101.out 0).trans rfl, (qa BK101.out 1).trans rfl, (qa BK101.out 2).trans rfl, (qa BK101.out 3).trans rfl, (qa BK102.out 0).trans rfl, (qa BK102.out 1).trans rfl, (qa BK102.out 2).trans rfl, (qa BK102.out 3).trans rfl, (qa BK102.out 4).trans rfl⟩ (fun hHeld => ?_)
       clear hK K
       refine norm_ (a' := ?_) ?_ ?_
       rotate_left
       ·show Act.put _ (some 6) _ = _
        simp only [Act.put, sq1, sq2, sq3, i64_w, i32_w]
        rfl
       exact norm_ (by simp only [putAll, Act.put, sq1, sq2, sq3]) (hCont (.slice Ao36 t105.length co36, .slice Ao37 t111.length co37, .slice Ao38 t114.length co38, v121, gb127) _ ⟨hHeld, (by (with_reducible repeat (first | apply Kd.R_alloc | apply Kd.R_drewN | apply Kd.R_drew)); exact Kd.R_mono HO107.out (fun _ hk => ⟨hk.1.2, hk.2⟩)), (by (with_reducible repeat (first | apply Kd.R_alloc | apply Kd.R_drewN | apply Kd.R_drew)); exact Kd.R_mono HO113.out (fun _ hk => ⟨hk.1.2, hk.2⟩)), yq100, (by (with_reducible repeat (first | apply Kd.R_alloc | apply Kd.R_drewN | apply Kd.R_drew)); exact Kd.R_mono HO122.out (fun _ hk => ⟨hk.1.2, hk.2⟩)), yq76, yq77, yq81, GW127.out, GE127.out, NB101_127.out, NB127_101.out, NB102_127.out, NB127_102.out, yq82⟩)
      ·skip
       refine box_step ?hg (N := 6) ?hd (cs := #[.slice none 0 0, .int .i64 0, .int .i64 0, .int .i64 0]) (t := 32) ?hr ?_; (case hd => rfl); (case hg => rfl); (case hr => exact yq119)
       intro gb127 hg w36 hbox hb
       replace HO107 := Qz.mk (Kd.R_below yq94 hb)
       replace HO113 := Qz.mk (Kd.R_below yq101 hb)
       replace HO116 := Qz.mk (Kd.R_below yq100 hb)
       have BK127 := Qz.mk (hbox)
       have GW127 := Qz.mk ((by rw [hg]; exact (ql yq90) : w.heap.size ≤ gb127))
       have GE127 := GW127
       replace HB := Qz.mk (qj yq90 hb)
       have NB101_127 := Qz.mk ((yq92 : gb101 ≠ gb127))
       have NB127_101 := Qz.mk ((yq93 : gb127 ≠ gb101))
       replace BK101 := bkbf3 BK101 yq76 hb
       have NB102_127 := Qz.mk ((yq95 : gb102 ≠ gb127))
       have NB127_102 := Qz.mk ((yq96 : gb127 ≠ gb102))
       replace BK102 := bkbf3 BK102 yq77 hb
       clear hb hbox hg
       obtain ⟨Ao37, co37, eo37⟩ := Kd.R_slice HO107.out
       (first | subst eo37 | (injection eo37 with f1_ f2_ f3_; have f4_ := f1_.symm; have f5_ := f3_.symm; clear f1_ f2_ f3_; subst f4_; subst f5_))
       obtain ⟨Ao38, co38, eo38⟩ := Kd.R_slice HO113.out
       (first | subst eo38 | (injection eo38 with f1_ f2_ f3_; have f4_ := f1_.symm; have f5_ := f3_.symm; clear f1_ f2_ f3_; subst f4_; subst f5_))
       obtain ⟨Ao39, co39, eo39⟩ := Kd.R_slice HO116.out
       (first | subst eo39 | (injection eo39 with f1_ f2_ f3_; have f4_ := f1_.symm; have f5_ := f3_.symm; clear f1_ f2_ f3_; subst f4_; subst f5_))
       refine hK.out _ _ ⟨(qa BK101.out 0).trans rfl, (qa BK101.out 1).trans rfl, (qa BK101.out 2).trans rfl, (qa BK101.out 3).trans rfl, (qa BK102.out 0).trans rfl, (qa BK102.out 1).trans rfl, (qa BK102.out 2).trans rfl, (qa BK102.out 3).trans rfl, (qa BK102.out 4).trans rfl⟩ (fun hHeld => ?_)
       clear hK K
       refine norm_ (a' := ?_) ?_ ?_
       rotate_left
       ·show Act.put _ (some 6) _ = _
        simp only [Act.put, sq1, sq2, sq3, i64_w, i32_w]
        rfl
       refine one_ (i := 4) (N := some 32) bq22 rfl rfl (one_of HT_.out (by kernel_rfl)) (by decide) (fun K hK => ?_)
       refine goes_ Try.func17 (by kernel_rfl) rfl #[.agg #[.slice Ao37 t105.length co37, .int .i64 t108, .int .i64 t109, .int .i64 t110], .agg #[.slice Ao38 t111.length co38, .slice Ao39 t114.length co39, .int .i64 t117, .int .i64 t118, .int .i64 t119]] (by rfl) rfl rfl yq79 ?_
       with_reducible refine (spec_Apply.calls k _ _ t105 t108 t109 t110 _ _ t111 _ _ t114 t117 t118 t119 t120 t123 t124 t125 t126 _ ?side1 ?side2 ?side3 ?side4 ?side5 ?side6 A21.out).mono ?_
       (case side1 => exact yq131)
       (case side2 => exact (Kd.R_reads' HO107.out).2.1)
       (case side3 => exact yq130)
       (case side4 => exact (Kd.R_reads' HO113.out).2.1)
       (case side5 => exact yq129)
       (case side6 => exact (Kd.R_reads' HO116.out).2.1)
       rintro e w40 ⟨v121, rfl, ho0, hb⟩
       refine ⟨_, rfl, ?_⟩
       replace HO116 := Qz.mk (Kd.R_below yq100 hb)
       have HO122 := Qz.mk (Kd.R_lower (Kd.R_new' (Kd.R_new' ho0 (Kd.R_lt yq94)) (Kd.R_lt yq101)) (ql yq82))
       replace HO107 := Qz.mk (Kd.R_elder' yq94 (Kd.R_base ho0) hb)
       replace HO113 := Qz.mk (Kd.R_elder' yq101 (Kd.R_base ho0) hb)
       replace BK101 := bkbf3 BK101 yq76 hb
       replace BK102 := bkbf3 BK102 yq77 hb
       replace BK127 := bkbf3 BK127 yq81 hb
       replace HB := Qz.mk (qj yq82 hb)
       (try clear hb)
       (try clear hk)
       (try clear ho0)
       refine hK.out _ _ ⟨(qa BK101.out 0).trans rfl, (qa BK101.out 1).trans rfl, (qa BK101.out 2).trans rfl, (qa BK101.out 3).trans rfl, (qa BK102.out 0).trans rfl, (qa BK102.out 1).trans rfl, (qa BK102.out 2).trans rfl, (qa BK102.out 3).trans rfl, (qa BK102.out 4).trans rfl⟩ (fun hHeld => ?_)
       clear hK K
       refine norm_ (a' := ?_) ?_ ?_
       rotate_left
       ·show Act.put _ (some 32) _ = _
        simp only [Act.put, sq1, sq2, sq3, i64_w, i32_w]
        rfl
       refine pure_ (i := 5) (N := some 27) (v := ?_) (a' := ?_) bq24 rfl rfl (any_of HT_.out (by kernel_rfl)) (fun _ _ _ h => h) (Or.inl ⟨by rfl, ?_⟩) ?_ ?_
       rotate_left
       ·intro w'
        go_simp
        with_reducible rfl
       rotate_left
       ·simp only [Act.put, sq1, sq2, sq3, i64_w, i32_w]
        rfl
       refine pure_ (i := 6) (N := some 33) (v := ?_) (a' := ?_) bq28 rfl rfl (any_of HT_.out (by kernel_rfl)) (fun _ _ _ h => h) (Or.inl ⟨by rfl, ?_⟩) ?_ ?_
       rotate_left
       ·intro w'
        go_simp
        with_reducible rfl
       rotate_left
       ·simp only [Act.put, sq1, sq2, sq3, i64_w, i32_w]
        rfl
       refine pure_ (i := 7) (N := some 34) (v := ?_) (a' := ?_) bq32 rfl rfl (any_of HT_.out (by kernel_rfl)) (fun _ _ _ h => h) (Or.inl ⟨by rfl, ?_⟩) ?_ ?_
       rotate_left
       ·intro w'
        go_simp
        with_reducible rfl
       rotate_left
       ·simp only [Act.put, sq1, sq2, sq3, i64_w, i32_w]
        rfl
       exact norm_ (by simp only [putAll, Act.put, sq1, sq2, sq3]) (hCont (.slice Ao37 t105.length co37, .slice Ao38 t111.length co38, .slice Ao39 t114.length co39, v121, gb127) _ ⟨hHeld, (by (with_reducible repeat (first | apply Kd.R_alloc | apply Kd.R_drewN | apply Kd.R_drew)); exact Kd.R_mono HO107.out (fun _ hk => ⟨hk.1.2, hk.2⟩)), (by (with_reducible repeat (first | apply Kd.R_alloc | apply Kd.R_drewN | apply Kd.R_drew)); exact Kd.R_mono HO113.out (fun _ hk => ⟨hk.1.2, hk.2⟩)), yq100, (by (with_reducible repeat (first | apply Kd.R_alloc | apply Kd.R_drewN | apply Kd.R_drew)); exact Kd.R_mono HO122.out (fun _ hk => ⟨hk.1.2, hk.2⟩)), yq76, yq77, yq81, GW127.out, GE127.out, NB101_127.out, NB127_101.out, NB102_127.out, NB127_102.out, yq82⟩)
     ·skip
      refine box_step ?hg (N := 6) ?hd (cs := #[.slice none 0 0, .int .i64 0, .int .i64 0, .int .i64 0]) (t := 32) ?hr ?_; (case hd => rfl); (case hg => rfl); (case hr => exact yq119)
      intro gb127 hg w35 hbox hb
      replace HO107 := Qz.mk (Kd.R_below yq94 hb)
      have BK127 := Qz.mk (hbox)
      have GW127 := Qz.mk ((by rw [hg]; exact (ql yq90) : w.heap.size ≤ gb127))
      have GE127 := GW127
      replace HB := Qz.mk (qj yq90 hb)
      have NB101_127 := Qz.mk ((yq92 : gb101 ≠ gb127))
      have NB127_101 := Qz.mk ((yq93 : gb127 ≠ gb101))
      replace BK101 := bkbf3 BK101 yq76 hb
      have NB102_127 := Qz.mk ((yq95 : gb102 ≠ gb127))
      have NB127_102 := Qz.mk ((yq96 : gb127 ≠ gb102))
      replace BK102 := bkbf3 BK102 yq77 hb
      clear hb hbox hg
      refine hK.out _ _ ⟨(qa BK101.out 0).trans rfl, (qa BK101.out 1).trans rfl, (qa BK101.out 2).trans rfl, (qa BK101.out 3).trans rfl, (qa BK102.out 0).trans rfl, (qa BK102.out 1).trans rfl, (qa BK102.out 2).trans rfl, (qa BK102.out 3).trans rfl, (qa BK102.out 4).trans rfl⟩ (fun hHeld => ?_)
      clear hK K
      refine norm_ (a' := ?_) ?_ ?_
      rotate_left
      ·show Act.put _ (some 6) _ = _
       simp only [Act.put, sq1, sq2, sq3, i64_w, i32_w]
       rfl
      refine one_ (i := 3) (N := some 31) bq18 rfl rfl (one_of HT_.out (by kernel_rfl)) (by decide) (fun K hK => ?_)
      refine goes_ Try.func19 (by kernel_rfl) rfl #[.agg #[.slice A1_0 l1_0.length c1_0, .slice A1_1 l1_1.length c1_1, .int .i64 a1_2, .int .i64 a1_3, .int .i64 a1_4]] (by rfl) rfl rfl yq79 ?_
      with_reducible refine (laws_toEdit.calls k _ _ l1_0 _ _ l1_1 a1_2 a1_3 a1_4 t111 t114 t117 t118 t119 _ ?side1 ?side2 ?side3 ?side4 A20.out).mono ?_
      (case side1 => exact yq99)
      (case side2 => exact HC1_0.out)
      (case side3 => exact yq98)
      (case side4 => exact HC1_1.out)
      rintro e w36 ⟨v112, v115, rfl, ho0, ho1, hb⟩
      refine ⟨_, rfl, ?_⟩
      have HO113 := Qz.mk (Kd.R_lower (Kd.R_new' ho0 (Kd.R_lt yq94)) (ql yq82))
      replace HO107 := Qz.mk (Kd.R_elder' yq94 (Kd.R_base ho0) hb)
      have HO116 := Qz.mk (Kd.R_lower ho1 (ql yq82))
      replace BK101 := bkbf3 BK101 yq76 hb
      replace BK102 := bkbf3 BK102 yq77 hb
      replace BK127 := bkbf3 BK127 yq81 hb
      replace HB := Qz.mk (qj yq82 hb)
      (try clear hb)
      (try clear hk)
      (try clear ho0)
      (try clear ho1)
      obtain ⟨Ao37, co37, eo37⟩ := Kd.R_slice HO107.out
      (first | subst eo37 | (injection eo37 with f1_ f2_ f3_; have f4_ := f1_.symm; have f5_ := f3_.symm; clear f1_ f2_ f3_; subst f4_; subst f5_))
      obtain ⟨Ao38, co38, eo38⟩ := Kd.R_slice HO113.out
      (first | subst eo38 | (injection eo38 with f1_ f2_ f3_; have f4_ := f1_.symm; have f5_ := f3_.symm; clear f1_ f2_ f3_; subst f4_; subst f5_))
      obtain ⟨Ao39, co39, eo39⟩ := Kd.R_slice HO116.out
      (first | subst eo39 | (injection eo39 with f1_ f2_ f3_; have f4_ := f1_.symm; have f5_ := f3_.symm; clear f1_ f2_ f3_; subst f4_; subst f5_))
      refine hK.out _ _ ⟨(qa BK101.out 0).trans rfl, (qa BK101.out 1).trans rfl, (qa BK101.out 2).trans rfl, (qa BK101.out 3).trans rfl, (qa BK102.out 0).trans rfl, (qa BK102.out 1).trans rfl, (qa BK102.out 2).trans rfl, (qa BK102.out 3).trans rfl, (qa BK102.out 4).trans rfl⟩ (fun hHeld => ?_)
      clear hK K
      refine norm_ (a' := ?_) ?_ ?_
      rotate_left
      ·show Act.put _ (some 31) _ = _
       simp only [Act.put, sq1, sq2, sq3, i64_w, i32_w]
       rfl
      refine one_ (i := 4) (N := some 32) bq22 rfl rfl (one_of HT_.out (by kernel_rfl)) (by decide) (fun K hK => ?_)
      refine goes_ Try.func17 (by kernel_rfl) rfl #[.agg #[.slice Ao37 t105.length co37, .int .i64 t108, .int .i64 t109, .int .i64 t110], .agg #[.slice Ao38 t111.length co38, .slice Ao39 t114.length co39, .int .i64 t117, .int .i64 t118, .int .i64 t119]] (by rfl) rfl rfl yq79 ?_
      with_reducible refine (spec_Apply.calls k _ _ t105 t108 t109 t110 _ _ t111 _ _ t114 t117 t118 t119 t120 t123 t124 t125 t126 _ ?side1 ?side2 ?side3 ?side4 ?side5 ?side6 A21.out).mono ?_
      (case side1 => exact yq131)
      (case side2 => exact (Kd.R_reads' HO107.out).2.1)
      (case side3 => exact yq130)
      (case side4 => exact (Kd.R_reads' HO113.out).2.1)
      (case side5 => exact yq129)
      (case side6 => exact (Kd.R_reads' HO116.out).2.1)
      rintro e w40 ⟨v121, rfl, ho0, hb⟩
      refine ⟨_, rfl, ?_⟩
      replace HO116 := Qz.mk (Kd.R_below yq100 hb)
      have HO122 := Qz.mk (Kd.R_lower (Kd.R_new' (Kd.R_new' ho0 (Kd.R_lt yq94)) (Kd.R_lt yq101)) (ql yq82))
      replace HO107 := Qz.mk (Kd.R_elder' yq94 (Kd.R_base ho0) hb)
      replace HO113 := Qz.mk (Kd.R_elder' yq101 (Kd.R_base ho0) hb)
      replace BK101 := bkbf3 BK101 yq76 hb
      replace BK102 := bkbf3 BK102 yq77 hb
      replace BK127 := bkbf3 BK127 yq81 hb
      replace HB := Qz.mk (qj yq82 hb)
      (try clear hb)
      (try clear hk)
      (try clear ho0)
      refine hK.out _ _ ⟨(qa BK101.out 0).trans rfl, (qa BK101.out 1).trans rfl, (qa BK101.out 2).trans rfl, (qa BK101.out 3).trans rfl, (qa BK102.out 0).trans rfl, (qa BK102.out 1).trans rfl, (qa BK102.out 2).trans rfl, (qa BK102.out 3).trans rfl, (qa BK102.out 4).trans rfl⟩ (fun hHeld => ?_)
      clear hK K
      refine norm_ (a' := ?_) ?_ ?_
      rotate_left
      ·show Act.put _ (some 32) _ = _
       simp only [Act.put, sq1, sq2, sq3, i64_w, i32_w]
       rfl
      refine pure_ (i := 5) (N := some 27) (v := ?_) (a' := ?_) bq24 rfl rfl (any_of HT_.out (by kernel_rfl)) (fun _ _ _ h => h) (Or.inl ⟨by rfl, ?_⟩) ?_ ?_
      rotate_left
      ·intro w'
       go_simp
       with_reducible rfl
      rotate_left
      ·simp only [Act.put, sq1, sq2, sq3, i64_w, i32_w]
       rfl
      refine pure_ (i := 6) (N := some 33) (v := ?_) (a' := ?_) bq28 rfl rfl (any_of HT_.out (by kernel_rfl)) (fun _ _ _ h => h) (Or.inl ⟨by rfl, ?_⟩) ?_ ?_
      rotate_left
      ·intro w'
       go_simp
       with_reducible rfl
      rotate_left
      ·simp only [Act.put, sq1, sq2, sq3, i64_w, i32_w]
       rfl
      refine pure_ (i := 7) (N := some 34) (v := ?_) (a' := ?_) bq32 rfl rfl (any_of HT_.out (by kernel_rfl)) (fun _ _ _ h => h) (Or.inl ⟨by rfl, ?_⟩) ?_ ?_
      rotate_left
      ·intro w'
       go_simp
       with_reducible rfl
      rotate_left
      ·simp only [Act.put, sq1, sq2, sq3, i64_w, i32_w]
       rfl
      exact norm_ (by simp only [putAll, Act.put, sq1, sq2, sq3]) (hCont (.slice Ao37 t105.length co37, .slice Ao38 t111.length co38, .slice Ao39 t114.length co39, v121, gb127) _ ⟨hHeld, (by (with_reducible repeat (first | apply Kd.R_alloc | apply Kd.R_drewN | apply Kd.R_drew)); exact Kd.R_mono HO107.out (fun _ hk => ⟨hk.1.2, hk.2⟩)), (by (with_reducible repeat (first | apply Kd.R_alloc | apply Kd.R_drewN | apply Kd.R_drew)); exact Kd.R_mono HO113.out (fun _ hk => ⟨hk.1.2, hk.2⟩)), yq100, (by (with_reducible repeat (first | apply Kd.R_alloc | apply Kd.R_drewN | apply Kd.R_drew)); exact Kd.R_mono HO122.out (fun _ hk => ⟨hk.1.2, hk.2⟩)), yq76, yq77, yq81, GW127.out, GE127.out, NB101_127.out, NB127_101.out, NB102_127.out, NB127_102.out, yq82⟩)
    ·skip
     refine box_step ?hg (N := 6) ?hd (cs := #[.slice none 0 0, .int .i64 0, .int .i64 0, .int .i64 0]) (t := 32) ?hr ?_; (case hd => rfl); (case hg => rfl); (case hr => exact yq119)
     intro gb127 hg w34 hbox hb
     have BK127 := Qz.mk (hbox)
     have GW127 := Qz.mk ((by rw [hg]; exact (ql yq90) : w.heap.size ≤ gb127))
     have GE127 := GW127
     replace HB := Qz.mk (qj yq90 hb)
     have NB101_127 := Qz.mk ((yq92 : gb101 ≠ gb127))
     have NB127_101 := Qz.mk ((yq93 : gb127 ≠ gb101))
     replace BK101 := bkbf3 BK101 yq76 hb
     have NB102_127 := Qz.mk ((yq95 : gb102 ≠ gb127))
     have NB127_102 := Qz.mk ((yq96 : gb127 ≠ gb102))
     replace BK102 := bkbf3 BK102 yq77 hb
     clear hb hbox hg
     refine hK.out _ _ ⟨(qa BK101.out 0).trans rfl, (qa BK101.out 1).trans rfl, (qa BK101.out 2).trans rfl, (qa BK101.out 3).trans rfl, (qa BK102.out 0).trans rfl, (qa BK102.out 1).trans rfl, (qa BK102.out 2).trans rfl, (qa BK102.out 3).trans rfl, (qa BK102.out 4).trans rfl⟩ (fun hHeld => ?_)
     clear hK K
     refine norm_ (a' := ?_) ?_ ?_
     rotate_left
     ·show Act.put _ (some 6) _ = _
      simp only [Act.put, sq1, sq2, sq3, i64_w, i32_w]
      rfl
     refine one_ (i := 1) (N := some 29) bq12 rfl rfl (one_of HT_.out (by kernel_rfl)) (by decide) (fun K hK => ?_)
     refine goes_ Try.func18 (by kernel_rfl) rfl #[.agg #[.slice A0_0 l0_0.length c0_0, .int .i64 a0_1, .int .i64 a0_2, .int .i64 a0_3]] (by rfl) rfl rfl yq79 ?_
     with_reducible refine (laws_toVersion.calls k _ _ l0_0 a0_1 a0_2 a0_3 t105 t108 t109 t110 _ ?side1 ?side2 A19.out).mono ?_
     (case side1 => exact yq102)
     (case side2 => exact HC0_0.out)
     rintro e w35 ⟨v106, rfl, ho0, hb⟩
     refine ⟨_, rfl, ?_⟩
     have HO107 := Qz.mk (Kd.R_lower ho0 (ql yq82))
     replace BK101 := bkbf3 BK101 yq76 hb
     replace BK102 := bkbf3 BK102 yq77 hb
     replace BK127 := bkbf3 BK127 yq81 hb
     replace HB := Qz.mk (qj yq82 hb)
     (try clear hb)
     (try clear hk)
     (try clear ho0)
     refine hK.out _ _ ⟨(qa BK101.out 0).trans rfl, (qa BK101.out 1).trans rfl, (qa BK101.out 2).trans rfl, (qa BK101.out 3).trans rfl, (qa BK102.out 0).trans rfl, (qa BK102.out 1).trans rfl, (qa BK102.out 2).trans rfl, (qa BK102.out 3).trans rfl, (qa BK102.out 4).trans rfl⟩ (fun hHeld => ?_)
     clear hK K
     refine norm_ (a' := ?_) ?_ ?_
     rotate_left
     ·show Act.put _ (some 29) _ = _
      simp only [Act.put, sq1, sq2, sq3, i64_w, i32_w]
      rfl
     refine one_ (i := 3) (N := some 31) bq18 rfl rfl (one_of HT_.out (by kernel_rfl)) (by decide) (fun K hK => ?_)
     refine goes_ Try.func19 (by kernel_rfl) rfl #[.agg #[.slice A1_0 l1_0.length c1_0, .slice A1_1 l1_1.length c1_1, .int .i64 a1_2, .int .i64 a1_3, .int .i64 a1_4]] (by rfl) rfl rfl yq79 ?_
     with_reducible refine (laws_toEdit.calls k _ _ l1_0 _ _ l1_1 a1_2 a1_3 a1_4 t111 t114 t117 t118 t119 _ ?side1 ?side2 ?side3 ?side4 A20.out).mono ?_
     (case side1 => exact yq99)
     (case side2 => exact HC1_0.out)
     (case side3 => exact yq98)
     (case side4 => exact HC1_1.out)
     rintro e w36 ⟨v112, v115, rfl, ho0, ho1, hb⟩
     refine ⟨_, rfl, ?_⟩
     have HO113 := Qz.mk (Kd.R_lower (Kd.R_new' ho0 (Kd.R_lt yq94)) (ql yq82))
     replace HO107 := Qz.mk (Kd.R_elder' yq94 (Kd.R_base ho0) hb)
     have HO116 := Qz.mk (Kd.R_lower ho1 (ql yq82))
     replace BK101 := bkbf3 BK101 yq76 hb
     replace BK102 := bkbf3 BK102 yq77 hb
     replace BK127 := bkbf3 BK127 yq81 hb
     replace HB := Qz.mk (qj yq82 hb)
     (try clear hb)
     (try clear hk)
     (try clear ho0)
     (try clear ho1)
     obtain ⟨Ao37, co37, eo37⟩ := Kd.R_slice HO107.out
     (first | subst eo37 | (injection eo37 with f1_ f2_ f3_; have f4_ := f1_.symm; have f5_ := f3_.symm; clear f1_ f2_ f3_; subst f4_; subst f5_))
     obtain ⟨Ao38, co38, eo38⟩ := Kd.R_slice HO113.out
     (first | subst eo38 | (injection eo38 with f1_ f2_ f3_; have f4_ := f1_.symm; have f5_ := f3_.symm; clear f1_ f2_ f3_; subst f4_; subst f5_))
     obtain ⟨Ao39, co39, eo39⟩ := Kd.R_slice HO116.out
     (first | subst eo39 | (injection eo39 with f1_ f2_ f3_; have f4_ := f1_.symm; have f5_ := f3_.symm; clear f1_ f2_ f3_; subst f4_; subst f5_))
     refine hK.out _ _ ⟨(qa BK101.out 0).trans rfl, (qa BK101.out 1).trans rfl, (qa BK101.out 2).trans rfl, (qa BK101.out 3).trans rfl, (qa BK102.out 0).trans rfl, (qa BK102.out 1).trans rfl, (qa BK102.out 2).trans rfl, (qa BK102.out 3).trans rfl, (qa BK102.out 4).trans rfl⟩ (fun hHeld => ?_)
     clear hK K
     refine norm_ (a' := ?_) ?_ ?_
     rotate_left
     ·show Act.put _ (some 31) _ = _
      simp only [Act.put, sq1, sq2, sq3, i64_w, i32_w]
      rfl
     refine one_ (i := 4) (N := some 32) bq22 rfl rfl (one_of HT_.out (by kernel_rfl)) (by decide) (fun K hK => ?_)
     refine goes_ Try.func17 (by kernel_rfl) rfl #[.agg #[.slice Ao37 t105.length co37, .int .i64 t108, .int .i64 t109, .int .i64 t110], .agg #[.slice Ao38 t111.length co38, .slice Ao39 t114.length co39, .int .i64 t117, .int .i64 t118, .int .i64 t119]] (by rfl) rfl rfl yq79 ?_
     with_reducible refine (spec_Apply.calls k _ _ t105 t108 t109 t110 _ _ t111 _ _ t114 t117 t118 t119 t120 t123 t124 t125 t126 _ ?side1 ?side2 ?side3 ?side4 ?side5 ?side6 A21.out).mono ?_
     (case side1 => exact yq131)
     (case side2 => exact (Kd.R_reads' HO107.out).2.1)
     (case side3 => exact yq130)
     (case side4 => exact (Kd.R_reads' HO113.out).2.1)
     (case side5 => exact yq129)
     (case side6 => exact (Kd.R_reads' HO116.out).2.1)
     rintro e w40 ⟨v121, rfl, ho0, hb⟩
     refine ⟨_, rfl, ?_⟩
     replace HO116 := Qz.mk (Kd.R_below yq100 hb)
     have HO122 := Qz.mk (Kd.R_lower (Kd.R_new' (Kd.R_new' ho0 (Kd.R_lt yq94)) (Kd.R_lt yq101)) (ql yq82))
     replace HO107 := Qz.mk (Kd.R_elder' yq94 (Kd.R_base ho0) hb)
     replace HO113 := Qz.mk (Kd.R_elder' yq101 (Kd.R_base ho0) hb)
     replace BK101 := bkbf3 BK101 yq76 hb
     replace BK102 := bkbf3 BK102 yq77 hb
     replace BK127 := bkbf3 BK127 yq81 hb
     replace HB := Qz.mk (qj yq82 hb)
     (try clear hb)
     (try clear hk)
     (try clear ho0)
     refine hK.out _ _ ⟨(qa BK101.out 0).trans rfl, (qa BK101.out 1).trans rfl, (qa BK101.out 2).trans rfl, (qa BK101.out 3).trans rfl, (qa BK102.out 0).trans rfl, (qa BK102.out 1).trans rfl, (qa BK102.out 2).trans rfl, (qa BK102.out 3).trans rfl, (qa BK102.out 4).trans rfl⟩ (fun hHeld => ?_)
     clear hK K
     refine norm_ (a' := ?_) ?_ ?_
     rotate_left
     ·show Act.put _ (some 32) _ = _
      simp only [Act.put, sq1, sq2, sq3, i64_w, i32_w]
      rfl
     refine pure_ (i := 5) (N := some 27) (v := ?_) (a' := ?_) bq24 rfl rfl (any_of HT_.out (by kernel_rfl)) (fun _ _ _ h => h) (Or.inl ⟨by rfl, ?_⟩) ?_ ?_
     rotate_left
     ·intro w'
      go_simp
      with_reducible rfl
     rotate_left
     ·simp only [Act.put, sq1, sq2, sq3, i64_w, i32_w]
      rfl
     refine pure_ (i := 6) (N := some 33) (v := ?_) (a' := ?_) bq28 rfl rfl (any_of HT_.out (by kernel_rfl)) (fun _ _ _ h => h) (Or.inl ⟨by rfl, ?_⟩) ?_ ?_
     rotate_left
     ·intro w'
      go_simp
      with_reducible rfl
     rotate_left
     ·simp only [Act.put, sq1, sq2, sq3, i64_w, i32_w]
      rfl
     refine pure_ (i := 7) (N := some 34) (v := ?_) (a' := ?_) bq32 rfl rfl (any_of HT_.out (by kernel_rfl)) (fun _ _ _ h => h) (Or.inl ⟨by rfl, ?_⟩) ?_ ?_
     rotate_left
     ·intro w'
      go_simp
      with_reducible rfl
     rotate_left
     ·simp only [Act.put, sq1, sq2, sq3, i64_w, i32_w]
      rfl
     exact norm_ (by simp only [putAll, Act.put, sq1, sq2, sq3]) (hCont (.slice Ao37 t105.length co37, .slice Ao38 t111.length co38, .slice Ao39 t114.length co39, v121, gb127) _ ⟨hHeld, (by (with_reducible repeat (first | apply Kd.R_alloc | apply Kd.R_drewN | apply Kd.R_drew)); exact Kd.R_mono HO107.out (fun _ hk => ⟨hk.1.2, hk.2⟩)), (by (with_reducible repeat (first | apply Kd.R_alloc | apply Kd.R_drewN | apply Kd.R_drew)); exact Kd.R_mono HO113.out (fun _ hk => ⟨hk.1.2, hk.2⟩)), yq100, (by (with_reducible repeat (first | apply Kd.R_alloc | apply Kd.R_drewN | apply Kd.R_drew)); exact Kd.R_mono HO122.out (fun _ hk => ⟨hk.1.2, hk.2⟩)), yq76, yq77, yq81, GW127.out, GE127.out, NB101_127.out, NB127_101.out, NB102_127.out, NB127_102.out, yq82⟩)
   rintro ⟨v106, v112, v115, v121, gb127⟩ w41 ⟨hS_, h0_, h1_, h2_, h3_, h4_, h5_, h6_, h7_, h8_, h9_, h10_, h11_, h12_, h13_⟩
   have n0_ : Qz (Kd.R k66 66 w41 w.heap.size (fun k_ => some k_ ≠ (v112 : Value).ownBlock ∧ some k_ ≠ (v121 : Value).ownBlock) v106 t105) := ⟨h0_⟩
   have n1_ : Qz (Kd.R k66 66 w41 w.heap.size (fun k_ => some k_ ≠ (v106 : Value).ownBlock ∧ some k_ ≠ (v121 : Value).ownBlock) v112 t111) := ⟨h1_⟩
   have n2_ : Qz (Kd.R (Kd.int .i64) 2 w41 w.heap.size (fun _ => True) v115 t114) := ⟨h2_⟩
   have n3_ : Qz (Kd.R k66 66 w41 w.heap.size (fun k_ => some k_ ≠ (v106 : Value).ownBlock ∧ some k_ ≠ (v112 : Value).ownBlock) v121 t120) := ⟨h3_⟩
   have n4_ : Qz (w41.heap[gb101]? = some (.cells #[.slice A0_0 l0_0.length c0_0, .int .i64 a0_1, .int .i64 a0_2, .int .i64 a0_3] 24 (0, 0))) := ⟨h4_⟩
   have n5_ : Qz (w41.heap[gb102]? = some (.cells #[.slice A1_0 l1_0.length c1_0, .slice A1_1 l1_1.length c1_1, .int .i64 a1_2, .int .i64 a1_3, .int .i64 a1_4] 27 (0, 0))) := ⟨h5_⟩
   have n6_ : Qz (w41.heap[gb127]? = some (.cells #[.slice none 0 0, .int .i64 0, .int .i64 0, .int .i64 0] 32 (0, 0))) := ⟨h6_⟩
   have n7_ : Qz (w.heap.size ≤ gb127) := ⟨h7_⟩
   have n8_ : Qz (w.heap.size ≤ gb127) := ⟨h8_⟩
   have n9_ : Qz (gb101 ≠ gb127) := ⟨h9_⟩
   have n10_ : Qz (gb127 ≠ gb101) := ⟨h10_⟩
   have n11_ : Qz (gb102 ≠ gb127) := ⟨h11_⟩
   have n12_ : Qz (gb127 ≠ gb102) := ⟨h12_⟩
   have n13_ : Qz (Below w.heap.size w w41) := ⟨h13_⟩
   clear BK101
   clear BK102
   clear HB
   clear h0_ h1_ h2_ h3_ h4_ h5_ h6_ h7_ h8_ h9_ h10_ h11_ h12_ h13_
   have HO107 := n0_
   have HO113 := n1_
   have HO116 := n2_
   have HO122 := n3_
   have BK101 := n4_
   have BK102 := n5_
   have BK127 := n6_
   have GW127 := n7_
   have GE127 := n8_
   have NB101_127 := n9_
   have NB127_101 := n10_
   have NB102_127 := n11_
   have NB127_102 := n12_
   have HB := n13_
   clear n0_ n1_ n2_ n3_ n4_ n5_ n6_ n7_ n8_ n9_ n10_ n11_ n12_ n13_
   have hHeld : w41.cell? ⟨gb101, 0, none⟩ = some (.slice A0_0 l0_0.length c0_0) ∧ w41.cell? ⟨gb101, 1, none⟩ = some (.int .i64 a0_1) ∧ w41.cell? ⟨gb101, 2, none⟩ = some (.int .i64 a0_2) ∧ w41.cell? ⟨gb101, 3, none⟩ = some (.int .i64 a0_3) ∧ w41.cell? ⟨gb102, 0, none⟩ = some (.slice A1_0 l1_0.length c1_0) ∧ w41.cell? ⟨gb102, 1, none⟩ = some (.slice A1_1 l1_1.length c1_1) ∧ w41.cell? ⟨gb102, 2, none⟩ = some (.int .i64 a1_2) ∧ w41.cell? ⟨gb102, 3, none⟩ = some (.int .i64 a1_3) ∧ w41.cell? ⟨gb102, 4, none⟩ = some (.int .i64 a1_4) := hS_
   obtain ⟨Ao42, co42, eo42⟩ := Kd.R_slice HO122.out
   (first | subst eo42 | (injection eo42 with f1_ f2_ f3_; have f4_ := f1_.symm; have f5_ := f3_.symm; clear f1_ f2_ f3_; subst f4_; subst f5_))
   refine norm_ (a' := ?_) ?_ ?_
   rotate_left
   ·simp only [putAll, Act.put, sq1, sq2, sq3]
    rfl
   refine one_ (i := 9) (N := none) bq34 rfl rfl (one_of HT_.out (by kernel_rfl)) (by decide) (fun K hK => ?_)
   have hs43 : w41.cell? ⟨gb127, 0, none⟩ = some (.slice none 0 0) := (qa BK127.out 0).trans rfl
   have hfs43 := qd BK127.out 0
   have hns43_0 := NB101_127.out
   have hns43_1 := NB102_127.out
   have hms43_0 := NB127_101.out
   have hms43_1 := NB127_102.out
   have hs44 : w41.cell? ⟨gb127, 1, none⟩ = some (.int .i64 0) := (qa BK127.out 1).trans rfl
   have hfs44 := qd BK127.out 1
   have hns44_0 := NB101_127.out
   have hns44_1 := NB102_127.out
   have hms44_0 := NB127_101.out
   have hms44_1 := NB127_102.out
   have hs45 : w41.cell? ⟨gb127, 2, none⟩ = some (.int .i64 0) := (qa BK127.out 2).trans rfl
   have hfs45 := qd BK127.out 2
   have hns45_0 := NB101_127.out
   have hns45_1 := NB102_127.out
   have hms45_0 := NB127_101.out
   have hms45_1 := NB127_102.out
   have hs46 : w41.cell? ⟨gb127, 3, none⟩ = some (.int .i64 0) := (qa BK127.out 3).trans rfl
   have hfs46 := qd BK127.out 3
   have hns46_0 := NB101_127.out
   have hns46_1 := NB102_127.out
   have hms46_0 := NB127_101.out
   have hms46_1 := NB127_102.out
   refine skip_ (w1 := ?_) (by rfl) rfl ?_ ?_
   rotate_left
   ·go_simp
    rfl
   refine hK.out _ _ ⟨((qx (p := ⟨gb127, _, none⟩) NB101_127.out _).trans (((qx (p := ⟨gb127, _, none⟩) NB101_127.out _).trans (((qx (p := ⟨gb127, _, none⟩) NB101_127.out _).trans (((qx (p := ⟨gb127, _, none⟩) NB101_127.out _).trans (hHeld.1)))))))), ((qx (p := ⟨gb127, _, none⟩) NB101_127.out _).trans (((qx (p := ⟨gb127, _, none⟩) NB101_127.out _).trans (((qx (p := ⟨gb127, _, none⟩) NB101_127.out _).trans (((qx (p := ⟨gb127, _, none⟩) NB101_127.out _).trans (hHeld.2.1)))))))), ((qx (p := ⟨gb127, _, none⟩) NB101_127.out _).trans (((qx (p := ⟨gb127, _, none⟩) NB101_127.out _).trans (((qx (p := ⟨gb127, _, none⟩) NB101_127.out _).trans (((qx (p := ⟨gb127, _, none⟩) NB101_127.out _).trans (hHeld.2.2.1)))))))), ((qx (p := ⟨gb127, _, none⟩) NB101_127.out _).trans (((qx (p := ⟨gb127, _, none⟩) NB101_127.out _).trans (((qx (p := ⟨gb127, _, none⟩) NB101_127.out _).trans (((qx (p := ⟨gb127, _, none⟩) NB101_127.out _).trans (hHeld.2.2.2.1)))))))), ((qx (p := ⟨gb127, _, none⟩) NB102_127.out _).trans (((qx (p := ⟨gb127, _, none⟩) NB102_127.out _).trans (((qx (p := ⟨gb127, _, none⟩) NB102_127.out _).trans (((qx (p := ⟨gb127, _, none⟩) NB102_127.out _).trans (hHeld.2.2.2.2.1)))))))), ((qx (p := ⟨gb127, _, none⟩) NB102_127.out _).trans (((qx (p := ⟨gb127, _, none⟩) NB102_127.out _).trans (((qx (p := ⟨gb127, _, none⟩) NB102_127.out _).trans (((qx (p := ⟨gb127, _, none⟩) NB102_127.out _).trans (hHeld.2.2.2.2.2.1)))))))), ((qx (p := ⟨gb127, _, none⟩) NB102_127.out _).trans (((qx (p := ⟨gb127, _, none⟩) NB102_127.out _).trans (((qx (p := ⟨gb127, _, none⟩) NB102_127.out _).trans (((qx (p := ⟨gb127, _, none⟩) NB102_127.out _).trans (hHeld.2.2.2.2.2.2.1)))))))), ((qx (p := ⟨gb127, _, none⟩) NB102_127.out _).trans (((qx (p := ⟨gb127, _, none⟩) NB102_127.out _).trans (((qx (p := ⟨gb127, _, none⟩) NB102_127.out _).trans (((qx (p := ⟨gb127, _, none⟩) NB102_127.out _).trans (hHeld.2.2.2.2.2.2.2.1)))))))), ((qx (p := ⟨gb127, _, none⟩) NB102_127.out _).trans (((qx (p := ⟨gb127, _, none⟩) NB102_127.out _).trans (((qx (p := ⟨gb127, _, none⟩) NB102_127.out _).trans (((qx (p := ⟨gb127, _, none⟩) NB102_127.out _).trans (hHeld.2.2.2.2.2.2.2.2))))))))⟩ (fun hHeld => ?_)
   clear hK K
   refine pure_ (i := 10) (N := some 7) (v := ?_) (a' := ?_) bq35 rfl rfl (any_of HT_.out (by kernel_rfl)) (fun _ _ _ h => h) (Or.inl ⟨by rfl, ?_⟩) ?_ ?_
   rotate_left
   ·intro w'
    go_simp
    with_reducible rfl
   rotate_left
   ·simp only [Act.put, sq1, sq2, sq3, i64_w, i32_w]
    rfl
   refine done_ (done_of HT_.out (by kernel_rfl)) ?_
   have hnb47 := NB101_127.out
   have hnc47 := NB127_101.out
   have hcz48_0 := (qa BK101.out 0).trans rfl
   have hcz48_1 := (qa BK101.out 1).trans rfl
   have hcz48_2 := (qa BK101.out 2).trans rfl
   have hcz48_3 := (qa BK101.out 3).trans rfl
   have hfz48_0 := qd BK101.out 0
   have hfz48_1 := qd BK101.out 1
   have hfz48_2 := qd BK101.out 2
   have hfz48_3 := qd BK101.out 3
   go_upto_region 12 with (first | ((with_reducible refine qo (f := 18) rfl ?_); refine goesL_ (some 36) rfl rfl Try.func18 (by kernel_rfl) rfl #[.agg #[.slice A0_0 l0_0.length c0_0, .int .i64 a0_1, .int .i64 a0_2, .int .i64 a0_3]] rfl yq79 ?_; (with_reducible refine (laws_toVersion.calls k _ _ l0_0 a0_1 a0_2 a0_3 t128 t131 t132 t133 _ ?side1 ?side2 A22.out).mono ?_); (case side1 => exact Kd.C_below HR0_0.out yq82); (case side2 => exact HC0_0.out); rintro e w49 ⟨v129, rfl, ho0, hb⟩; refine ⟨_, rfl, ?_⟩; replace HO116 := Qz.mk (Kd.R_below (by (with_reducible repeat (first | apply Kd.R_alloc | apply Kd.R_drewN | apply Kd.R_drew)); exact (Kd.R_mono (Kd.R_far (p := ⟨gb127, 3, none⟩) (Kd.R_far (p := ⟨gb127, 2, none⟩) (Kd.R_far (p := ⟨gb127, 1, none⟩) (Kd.R_far (p := ⟨gb127, 0, none⟩) (Kd.R_types HO116.out BK127.out (by decide)) (fun _ hk => hk.2) (.slice Ao42 t120.length co42)) (fun _ hk => hk.2) (.int .i64 t123)) (fun _ hk => hk.2) (.int .i64 t124)) (fun _ hk => hk.2) (.int .i64 t125)) (fun _ h_ => h_.1))) hb); have HO130 := Qz.mk (Kd.R_lower (Kd.R_new' (Kd.R_new' (Kd.R_new' ho0 (Kd.R_lt (by (with_reducible repeat (first | apply Kd.R_alloc | apply Kd.R_drewN | apply Kd.R_drew)); exact (Kd.R_mono (Kd.R_far (p := ⟨gb127, 3, none⟩) (Kd.R_far (p := ⟨gb127, 2, none⟩) (Kd.R_far (p := ⟨gb127, 1, none⟩) (Kd.R_far (p := ⟨gb127, 0, none⟩) (Kd.R_types HO107.out BK127.out (by decide)) (fun _ hk => hk.2) (.slice Ao42 t120.length co42)) (fun _ hk => hk.2) (.int .i64 t123)) (fun _ hk => hk.2) (.int .i64 t124)) (fun _ hk => hk.2) (.int .i64 t125)) (fun _ h_ => h_.1))))) (Kd.R_lt (by (with_reducible repeat (first | apply Kd.R_alloc | apply Kd.R_drewN | apply Kd.R_drew)); exact (Kd.R_mono (Kd.R_far (p := ⟨gb127, 3, none⟩) (Kd.R_far (p := ⟨gb127, 2, none⟩) (Kd.R_far (p := ⟨gb127, 1, none⟩) (Kd.R_far (p := ⟨gb127, 0, none⟩) (Kd.R_types HO113.out BK127.out (by decide)) (fun _ hk => hk.2) (.slice Ao42 t120.length co42)) (fun _ hk => hk.2) (.int .i64 t123)) (fun _ hk => hk.2) (.int .i64 t124)) (fun _ hk => hk.2) (.int .i64 t125)) (fun _ h_ => h_.1))))) (Kd.R_lt (by (with_reducible repeat (first | apply Kd.R_alloc | apply Kd.R_drewN | apply Kd.R_drew)); exact (Kd.R_mono (Kd.R_far (p := ⟨gb127, 3, none⟩) (Kd.R_far (p := ⟨gb127, 2, none⟩) (Kd.R_far (p := ⟨gb127, 1, none⟩) (Kd.R_far (p := ⟨gb127, 0, none⟩) (Kd.R_types HO122.out BK127.out (by decide)) (fun _ hk => hk.2) (.slice Ao42 t120.length co42)) (fun _ hk => hk.2) (.int .i64 t123)) (fun _ hk => hk.2) (.int .i64 t124)) (fun _ hk => hk.2) (.int .i64 t125)) (fun _ h_ => h_.1))))) (ql yq82)); replace HO107 := Qz.mk (Kd.R_elder' (by (with_reducible repeat (first | apply Kd.R_alloc | apply Kd.R_drewN | apply Kd.R_drew)); exact (Kd.R_mono (Kd.R_far (p := ⟨gb127, 3, none⟩) (Kd.R_far (p := ⟨gb127, 2, none⟩) (Kd.R_far (p := ⟨gb127, 1, none⟩) (Kd.R_far (p := ⟨gb127, 0, none⟩) (Kd.R_types HO107.out BK127.out (by decide)) (fun _ hk => hk.2) (.slice Ao42 t120.length co42)) (fun _ hk => hk.2) (.int .i64 t123)) (fun _ hk => hk.2) (.int .i64 t124)) (fun _ hk => hk.2) (.int .i64 t125)) (fun _ h_ => h_.1))) (Kd.R_base ho0) hb); replace HO113 := Qz.mk (Kd.R_elder' (by (with_reducible repeat (first | apply Kd.R_alloc | apply Kd.R_drewN | apply Kd.R_drew)); exact (Kd.R_mono (Kd.R_far (p := ⟨gb127, 3, none⟩) (Kd.R_far (p := ⟨gb127, 2, none⟩) (Kd.R_far (p := ⟨gb127, 1, none⟩) (Kd.R_far (p := ⟨gb127, 0, none⟩) (Kd.R_types HO113.out BK127.out (by decide)) (fun _ hk => hk.2) (.slice Ao42 t120.length co42)) (fun _ hk => hk.2) (.int .i64 t123)) (fun _ hk => hk.2) (.int .i64 t124)) (fun _ hk => hk.2) (.int .i64 t125)) (fun _ h_ => h_.1))) (Kd.R_base ho0) hb); replace HO122 := Qz.mk (Kd.R_elder' (by (with_reducible repeat (first | apply Kd.R_alloc | apply Kd.R_drewN | apply Kd.R_drew)); exact (Kd.R_mono (Kd.R_far (p := ⟨gb127, 3, none⟩) (Kd.R_far (p := ⟨gb127, 2, none⟩) (Kd.R_far (p := ⟨gb127, 1, none⟩) (Kd.R_far (p := ⟨gb127, 0, none⟩) (Kd.R_types HO122.out BK127.out (by decide)) (fun _ hk => hk.2) (.slice Ao42 t120.length co42)) (fun _ hk => hk.2) (.int .i64 t123)) (fun _ hk => hk.2) (.int .i64 t124)) (fun _ hk => hk.2) (.int .i64 t125)) (fun _ h_ => h_.1))) (Kd.R_base ho0) hb); replace BK101 := Qz.mk (qp (g := gb101) (o := .cells #[.slice A0_0 l0_0.length c0_0, .int .i64 a0_1, .int .i64 a0_2, .int .i64 a0_3] 24 (0, 0)) (by (with_reducible repeat (first | refine qf ?_ _ | refine qg ?_ | refine qe ?_ _)); refine qu ?_ NB101_127.out _; (with_reducible repeat (first | refine qf ?_ _ | refine qg ?_ | refine qe ?_ _)); refine qu ?_ NB101_127.out _; (with_reducible repeat (first | refine qf ?_ _ | refine qg ?_ | refine qe ?_ _)); refine qu ?_ NB101_127.out _; (with_reducible repeat (first | refine qf ?_ _ | refine qg ?_ | refine qe ?_ _)); refine qu ?_ NB101_127.out _; (with_reducible repeat (first | refine qf ?_ _ | refine qg ?_ | refine qe ?_ _)); exact BK101.out) hb); replace BK102 := Qz.mk (qp (g := gb102) (o := .cells #[.slice A1_0 l1_0.length c1_0, .slice A1_1 l1_1.length c1_1, .int .i64 a1_2, .int .i64 a1_3, .int .i64 a1_4] 27 (0, 0)) (by (with_reducible repeat (first | refine qf ?_ _ | refine qg ?_ | refine qe ?_ _)); refine qu ?_ NB102_127.out _; (with_reducible repeat (first | refine qf ?_ _ | refine qg ?_ | refine qe ?_ _)); refine qu ?_ NB102_127.out _; (with_reducible repeat (first | refine qf ?_ _ | refine qg ?_ | refine qe ?_ _)); refine qu ?_ NB102_127.out _; (with_reducible repeat (first | refine qf ?_ _ | refine qg ?_ | refine qe ?_ _)); refine qu ?_ NB102_127.out _; (with_reducible repeat (first | refine qf ?_ _ | refine qg ?_ | refine qe ?_ _)); exact BK102.out) hb); replace BK127 := Qz.mk (qp (g := gb127) (o := .cells #[.slice Ao42 t120.length co42, .int .i64 t123, .int .i64 t124, .int .i64 t125] 32 (0, 0)) (by (with_reducible repeat (first | refine qf ?_ _ | refine qg ?_ | refine qe ?_ _)); refine blk_put (cs := #[.slice Ao42 t120.length co42, .int .i64 t123, .int .i64 t124, .int .i64 0]) ?_ 3 _ rfl; (with_reducible repeat (first | refine qf ?_ _ | refine qg ?_ | refine qe ?_ _)); refine blk_put (cs := #[.slice Ao42 t120.length co42, .int .i64 t123, .int .i64 0, .int .i64 0]) ?_ 2 _ rfl; (with_reducible repeat (first | refine qf ?_ _ | refine qg ?_ | refine qe ?_ _)); refine blk_put (cs := #[.slice Ao42 t120.length co42, .int .i64 0, .int .i64 0, .int .i64 0]) ?_ 1 _ rfl; (with_reducible repeat (first | refine qf ?_ _ | refine qg ?_ | refine qe ?_ _)); refine blk_put (cs := #[.slice none 0 0, .int .i64 0, .int .i64 0, .int .i64 0]) ?_ 0 _ rfl; (with_reducible repeat (first | refine qf ?_ _ | refine qg ?_ | refine qe ?_ _)); exact BK127.out) hb); replace HB := Qz.mk (qj yq82 hb); (try clear hb); (try clear hk); (try clear ho0)) | ((with_reducible refine qt (N := 8) rfl ?_); refine qr ?hg (N := 8) ?hd (cs := #[.slice none 0 0, .int .i64 0, .int .i64 0, .int .i64 0]) (t := 32) ?hr ?_; (case hd => rfl); (case hg => rfl); (case hr => exact yq119); intro gb134 hg w50 hbox hb; replace HO107 := Qz.mk (Kd.R_below yq94 hb); replace HO113 := Qz.mk (Kd.R_below yq101 hb); replace HO116 := Qz.mk (Kd.R_below yq100 hb); replace HO122 := Qz.mk (Kd.R_below (by (with_reducible repeat (first | apply Kd.R_alloc | apply Kd.R_drewN | apply Kd.R_drew)); exact HO122.out) hb); replace HO130 := Qz.mk (Kd.R_below (by (with_reducible repeat (first | apply Kd.R_alloc | apply Kd.R_drewN | apply Kd.R_drew)); exact HO130.out) hb); have BK134 := Qz.mk (hbox); have GW134 := Qz.mk ((by rw [hg]; exact (ql yq82) : w.heap.size ≤ gb134)); have GE134 := GW134; replace HB := Qz.mk (qj yq82 hb); have NB101_134 := Qz.mk ((yq92 : gb101 ≠ gb134)); have NB134_101 := Qz.mk ((yq93 : gb134 ≠ gb101)); replace BK101 := bkbf3 BK101 yq76 hb; have NB102_134 := Qz.mk ((yq95 : gb102 ≠ gb134)); have NB134_102 := Qz.mk ((yq96 : gb134 ≠ gb102)); replace BK102 := bkbf3 BK102 yq77 hb; have NB127_134 := Qz.mk ((yq108 : gb127 ≠ gb134)); have NB134_127 := Qz.mk ((yq109 : gb134 ≠ gb127)); replace BK127 := bkbf3 BK127 yq81 hb; clear hb hbox hg; obtain ⟨Ao51, co51, eo51⟩ := Kd.R_slice HO130.out; subst eo51; have hnb52 := NB134_101.out; have hnc52 := NB101_134.out; have hnb53 := NB134_102.out; have hnc53 := NB102_134.out; have hnb54 := NB134_127.out; have hnc54 := NB127_134.out; have hcz55_0 := (qa BK134.out 0).trans rfl; have hcz55_1 := (qa BK134.out 1).trans rfl; have hcz55_2 := (qa BK134.out 2).trans rfl; have hcz55_3 := (qa BK134.out 3).trans rfl; have hfz55_0 := qd BK134.out 0; have hfz55_1 := qd BK134.out 1; have hfz55_2 := qd BK134.out 2; have hfz55_3 := qd BK134.out 3; have hnb56 := NB102_127.out; have hnc56 := NB127_102.out; have hcz57_0 := (qa BK102.out 0).trans rfl; have hcz57_1 := (qa BK102.out 1).trans rfl; have hcz57_2 := (qa BK102.out 2).trans rfl; have hcz57_3 := (qa BK102.out 3).trans rfl; have hcz57_4 := (qa BK102.out 4).trans rfl; have hfz57_0 := qd BK102.out 0; have hfz57_1 := qd BK102.out 1; have hfz57_2 := qd BK102.out 2; have hfz57_3 := qd BK102.out 3; have hfz57_4 := qd BK102.out 4) | ((with_reducible refine qo (f := 19) rfl ?_); refine goesL_ (some 38) rfl rfl Try.func19 (by kernel_rfl) rfl #[.agg #[.slice A1_0 l1_0.length c1_0, .slice A1_1 l1_1.length c1_1, .int .i64 a1_2, .int .i64 a1_3, .int .i64 a1_4]] rfl yq79 ?_; (with_reducible refine (laws_toEdit.calls k _ _ l1_0 _ _ l1_1 a1_2 a1_3 a1_4 t135 t138 t141 t142 t143 _ ?side1 ?side2 ?side3 ?side4 A23.out).mono ?_); (case side1 => exact Kd.C_below HR1_0.out yq103); (case side2 => exact HC1_0.out); (case side3 => exact Kd.C_below HR1_1.out yq103); (case side4 => exact HC1_1.out); rintro e w58 ⟨v136, v139, rfl, ho0, ho1, hb⟩; refine ⟨_, rfl, ?_⟩; have HO137 := Qz.mk (Kd.R_lower (Kd.R_new' (Kd.R_new' (Kd.R_new' (Kd.R_new' ho0 (Kd.R_lt (by (with_reducible repeat (first | apply Kd.R_alloc | apply Kd.R_drewN | apply Kd.R_drew)); exact (Kd.R_mono (Kd.R_far (p := ⟨gb134, 3, none⟩) (Kd.R_far (p := ⟨gb134, 2, none⟩) (Kd.R_far (p := ⟨gb134, 1, none⟩) (Kd.R_far (p := ⟨gb134, 0, none⟩) (Kd.R_types HO107.out BK134.out (by decide)) (fun _ hk => hk.2) (.slice Ao51 t128.length co51)) (fun _ hk => hk.2) (.int .i64 t131)) (fun _ hk => hk.2) (.int .i64 t132)) (fun _ hk => hk.2) (.int .i64 t133)) (fun _ h_ => h_.1))))) (Kd.R_lt (by (with_reducible repeat (first | apply Kd.R_alloc | apply Kd.R_drewN | apply Kd.R_drew)); exact (Kd.R_mono (Kd.R_far (p := ⟨gb134, 3, none⟩) (Kd.R_far (p := ⟨gb134, 2, none⟩) (Kd.R_far (p := ⟨gb134, 1, none⟩) (Kd.R_far (p := ⟨gb134, 0, none⟩) (Kd.R_types HO113.out BK134.out (by decide)) (fun _ hk => hk.2) (.slice Ao51 t128.length co51)) (fun _ hk => hk.2) (.int .i64 t131)) (fun _ hk => hk.2) (.int .i64 t132)) (fun _ hk => hk.2) (.int .i64 t133)) (fun _ h_ => h_.1))))) (Kd.R_lt (by (with_reducible repeat (first | apply Kd.R_alloc | apply Kd.R_drewN | apply Kd.R_drew)); exact (Kd.R_mono (Kd.R_far (p := ⟨gb134, 3, none⟩) (Kd.R_far (p := ⟨gb134, 2, none⟩) (Kd.R_far (p := ⟨gb134, 1, none⟩) (Kd.R_far (p := ⟨gb134, 0, none⟩) (Kd.R_types HO122.out BK134.out (by decide)) (fun _ hk => hk.2) (.slice Ao51 t128.length co51)) (fun _ hk => hk.2) (.int .i64 t131)) (fun _ hk => hk.2) (.int .i64 t132)) (fun _ hk => hk.2) (.int .i64 t133)) (fun _ h_ => h_.1))))) (Kd.R_lt (by (with_reducible repeat (first | apply Kd.R_alloc | apply Kd.R_drewN | apply Kd.R_drew)); exact (Kd.R_mono (Kd.R_far (p := ⟨gb134, 3, none⟩) (Kd.R_far (p := ⟨gb134, 2, none⟩) (Kd.R_far (p := ⟨gb134, 1, none⟩) (Kd.R_far (p := ⟨gb134, 0, none⟩) (Kd.R_types HO130.out BK134.out (by decide)) (fun _ hk => hk.2) (.slice Ao51 t128.length co51)) (fun _ hk => hk.2) (.int .i64 t131)) (fun _ hk => hk.2) (.int .i64 t132)) (fun _ hk => hk.2) (.int .i64 t133)) (fun _ h_ => h_.1))))) (ql yq103)); replace HO107 := Qz.mk (Kd.R_elder' (by (with_reducible repeat (first | apply Kd.R_alloc | apply Kd.R_drewN | apply Kd.R_drew)); exact (Kd.R_mono (Kd.R_far (p := ⟨gb134, 3, none⟩) (Kd.R_far (p := ⟨gb134, 2, none⟩) (Kd.R_far (p := ⟨gb134, 1, none⟩) (Kd.R_far (p := ⟨gb134, 0, none⟩) (Kd.R_types HO107.out BK134.out (by decide)) (fun _ hk => hk.2) (.slice Ao51 t128.length co51)) (fun _ hk => hk.2) (.int .i64 t131)) (fun _ hk => hk.2) (.int .i64 t132)) (fun _ hk => hk.2) (.int .i64 t133)) (fun _ h_ => h_.1))) (Kd.R_base ho0) hb); replace HO113 := Qz.mk (Kd.R_elder' (by (with_reducible repeat (first | apply Kd.R_alloc | apply Kd.R_drewN | apply Kd.R_drew)); exact (Kd.R_mono (Kd.R_far (p := ⟨gb134, 3, none⟩) (Kd.R_far (p := ⟨gb134, 2, none⟩) (Kd.R_far (p := ⟨gb134, 1, none⟩) (Kd.R_far (p := ⟨gb134, 0, none⟩) (Kd.R_types HO113.out BK134.out (by decide)) (fun _ hk => hk.2) (.slice Ao51 t128.length co51)) (fun _ hk => hk.2) (.int .i64 t131)) (fun _ hk => hk.2) (.int .i64 t132)) (fun _ hk => hk.2) (.int .i64 t133)) (fun _ h_ => h_.1))) (Kd.R_base ho0) hb); replace HO122 := Qz.mk (Kd.R_elder' (by (with_reducible repeat (first | apply Kd.R_alloc | apply Kd.R_drewN | apply Kd.R_drew)); exact (Kd.R_mono (Kd.R_far (p := ⟨gb134, 3, none⟩) (Kd.R_far (p := ⟨gb134, 2, none⟩) (Kd.R_far (p := ⟨gb134, 1, none⟩) (Kd.R_far (p := ⟨gb134, 0, none⟩) (Kd.R_types HO122.out BK134.out (by decide)) (fun _ hk => hk.2) (.slice Ao51 t128.length co51)) (fun _ hk => hk.2) (.int .i64 t131)) (fun _ hk => hk.2) (.int .i64 t132)) (fun _ hk => hk.2) (.int .i64 t133)) (fun _ h_ => h_.1))) (Kd.R_base ho0) hb); replace HO130 := Qz.mk (Kd.R_elder' (by (with_reducible repeat (first | apply Kd.R_alloc | apply Kd.R_drewN | apply Kd.R_drew)); exact (Kd.R_mono (Kd.R_far (p := ⟨gb134, 3, none⟩) (Kd.R_far (p := ⟨gb134, 2, none⟩) (Kd.R_far (p := ⟨gb134, 1, none⟩) (Kd.R_far (p := ⟨gb134, 0, none⟩) (Kd.R_types HO130.out BK134.out (by decide)) (fun _ hk => hk.2) (.slice Ao51 t128.length co51)) (fun _ hk => hk.2) (.int .i64 t131)) (fun _ hk => hk.2) (.int .i64 t132)) (fun _ hk => hk.2) (.int .i64 t133)) (fun _ h_ => h_.1))) (Kd.R_base ho0) hb); have HO140 := Qz.mk (Kd.R_lower (Kd.R_new' ho1 (Kd.R_lt (by (with_reducible repeat (first | apply Kd.R_alloc | apply Kd.R_drewN | apply Kd.R_drew)); exact (Kd.R_mono (Kd.R_far (p := ⟨gb134, 3, none⟩) (Kd.R_far (p := ⟨gb134, 2, none⟩) (Kd.R_far (p := ⟨gb134, 1, none⟩) (Kd.R_far (p := ⟨gb134, 0, none⟩) (Kd.R_types HO116.out BK134.out (by decide)) (fun _ hk => hk.2) (.slice Ao51 t128.length co51)) (fun _ hk => hk.2) (.int .i64 t131)) (fun _ hk => hk.2) (.int .i64 t132)) (fun _ hk => hk.2) (.int .i64 t133)) (fun _ h_ => h_.1))))) (ql yq103)); replace HO116 := Qz.mk (Kd.R_elder' (by (with_reducible repeat (first | apply Kd.R_alloc | apply Kd.R_drewN | apply Kd.R_drew)); exact (Kd.R_mono (Kd.R_far (p := ⟨gb134, 3, none⟩) (Kd.R_far (p := ⟨gb134, 2, none⟩) (Kd.R_far (p := ⟨gb134, 1, none⟩) (Kd.R_far (p := ⟨gb134, 0, none⟩) (Kd.R_types HO116.out BK134.out (by decide)) (fun _ hk => hk.2) (.slice Ao51 t128.length co51)) (fun _ hk => hk.2) (.int .i64 t131)) (fun _ hk => hk.2) (.int .i64 t132)) (fun _ hk => hk.2) (.int .i64 t133)) (fun _ h_ => h_.1))) (Kd.R_base ho1) hb); replace BK101 := Qz.mk (qp (g := gb101) (o := .cells #[.slice A0_0 l0_0.length c0_0, .int .i64 a0_1, .int .i64 a0_2, .int .i64 a0_3] 24 (0, 0)) (by (with_reducible repeat (first | refine qf ?_ _ | refine qg ?_ | refine qe ?_ _)); refine qu ?_ NB101_134.out _; (with_reducible repeat (first | refine qf ?_ _ | refine qg ?_ | refine qe ?_ _)); refine qu ?_ NB101_134.out _; (with_reducible repeat (first | refine qf ?_ _ | refine qg ?_ | refine qe ?_ _)); refine qu ?_ NB101_134.out _; (with_reducible repeat (first | refine qf ?_ _ | refine qg ?_ | refine qe ?_ _)); refine qu ?_ NB101_134.out _; (with_reducible repeat (first | refine qf ?_ _ | refine qg ?_ | refine qe ?_ _)); exact BK101.out) hb); replace BK102 := Qz.mk (qp (g := gb102) (o := .cells #[.slice A1_0 l1_0.length c1_0, .slice A1_1 l1_1.length c1_1, .int .i64 a1_2, .int .i64 a1_3, .int .i64 a1_4] 27 (0, 0)) (by (with_reducible repeat (first | refine qf ?_ _ | refine qg ?_ | refine qe ?_ _)); refine qu ?_ NB102_134.out _; (with_reducible repeat (first | refine qf ?_ _ | refine qg ?_ | refine qe ?_ _)); refine qu ?_ NB102_134.out _; (with_reducible repeat (first | refine qf ?_ _ | refine qg ?_ | refine qe ?_ _)); refine qu ?_ NB102_134.out _; (with_reducible repeat (first | refine qf ?_ _ | refine qg ?_ | refine qe ?_ _)); refine qu ?_ NB102_134.out _; (with_reducible repeat (first | refine qf ?_ _ | refine qg ?_ | refine qe ?_ _)); exact BK102.out) hb); replace BK127 := Qz.mk (qp (g := gb127) (o := .cells #[.slice Ao42 t120.length co42, .int .i64 t123, .int .i64 t124, .int .i64 t125] 32 (0, 0)) (by (with_reducible repeat (first | refine qf ?_ _ | refine qg ?_ | refine qe ?_ _)); refine qu ?_ NB127_134.out _; (with_reducible repeat (first | refine qf ?_ _ | refine qg ?_ | refine qe ?_ _)); refine qu ?_ NB127_134.out _; (with_reducible repeat (first | refine qf ?_ _ | refine qg ?_ | refine qe ?_ _)); refine qu ?_ NB127_134.out _; (with_reducible repeat (first | refine qf ?_ _ | refine qg ?_ | refine qe ?_ _)); refine qu ?_ NB127_134.out _; (with_reducible repeat (first | refine qf ?_ _ | refine qg ?_ | refine qe ?_ _)); exact BK127.out) hb); replace BK134 := Qz.mk (qp (g := gb134) (o := .cells #[.slice Ao51 t128.length co51, .int .i64 t131, .int .i64 t132, .int .i64 t133] 32 (0, 0)) (by (with_reducible repeat (first | refine qf ?_ _ | refine qg ?_ | refine qe ?_ _)); refine blk_put (cs := #[.slice Ao51 t128.length co51, .int .i64 t131, .int .i64 t132, .int .i64 0]) ?_ 3 _ rfl; (with_reducible repeat (first | refine qf ?_ _ | refine qg ?_ | refine qe ?_ _)); refine blk_put (cs := #[.slice Ao51 t128.length co51, .int .i64 t131, .int .i64 0, .int .i64 0]) ?_ 2 _ rfl; (with_reducible repeat (first | refine qf ?_ _ | refine qg ?_ | refine qe ?_ _)); refine blk_put (cs := #[.slice Ao51 t128.length co51, .int .i64 0, .int .i64 0, .int .i64 0]) ?_ 1 _ rfl; (with_reducible repeat (first | refine qf ?_ _ | refine qg ?_ | refine qe ?_ _)); refine blk_put (cs := #[.slice none 0 0, .int .i64 0, .int .i64 0, .int .i64 0]) ?_ 0 _ rfl; (with_reducible repeat (first | refine qf ?_ _ | refine qg ?_ | refine qe ?_ _)); exact BK134.out) hb); replace HB := Qz.mk (qj yq103 hb); (try clear hb); (try clear hk); (try clear ho0); (try clear ho1)) | ((with_reducible refine qt (N := 9) rfl ?_); refine qr ?hg (N := 9) ?hd (cs := #[.slice none 0 0, .slice none 0 0, .int .i64 0, .int .i64 0, .int .i64 0]) (t := 37) ?hr ?_; (case hd => rfl); (case hg => rfl); (case hr => exact yq119); intro gb144 hg w59 hbox hb; replace HO107 := Qz.mk (Kd.R_below yq94 hb); replace HO113 := Qz.mk (Kd.R_below yq101 hb); replace HO116 := Qz.mk (Kd.R_below yq100 hb); replace HO122 := Qz.mk (Kd.R_below (by (with_reducible repeat (first | apply Kd.R_alloc | apply Kd.R_drewN | apply Kd.R_drew)); exact HO122.out) hb); replace HO130 := Qz.mk (Kd.R_below (by (with_reducible repeat (first | apply Kd.R_alloc | apply Kd.R_drewN | apply Kd.R_drew)); exact HO130.out) hb); replace HO137 := Qz.mk (Kd.R_below (by (with_reducible repeat (first | apply Kd.R_alloc | apply Kd.R_drewN | apply Kd.R_drew)); exact HO137.out) hb); replace HO140 := Qz.mk (Kd.R_below (by (with_reducible repeat (first | apply Kd.R_alloc | apply Kd.R_drewN | apply Kd.R_drew)); exact HO140.out) hb); have BK144 := Qz.mk (hbox); have GW144 := Qz.mk ((by rw [hg]; exact (ql yq103) : w.heap.size ≤ gb144)); have GE144 := GW144; replace HB := Qz.mk (qj yq103 hb); have NB101_144 := Qz.mk ((yq92 : gb101 ≠ gb144)); have NB144_101 := Qz.mk ((yq93 : gb144 ≠ gb101)); replace BK101 := bkbf3 BK101 yq76 hb; have NB102_144 := Qz.mk ((yq95 : gb102 ≠ gb144)); have NB144_102 := Qz.mk ((yq96 : gb144 ≠ gb102)); replace BK102 := bkbf3 BK102 yq77 hb; have NB127_144 := Qz.mk ((yq108 : gb127 ≠ gb144)); have NB144_127 := Qz.mk ((yq109 : gb144 ≠ gb127)); replace BK127 := bkbf3 BK127 yq81 hb; have NB134_144 := Qz.mk ((by rw [hg]; exact Nat.ne_of_lt (qq (g := gb134) (o := .cells #[.slice Ao51 t128.length co51, .int .i64 t131, .int .i64 t132, .int .i64 t133] 32 (0, 0)) yq83) : gb134 ≠ gb144)); have NB144_134 := Qz.mk ((by rw [hg]; exact Nat.ne_of_gt (qq (g := gb134) (o := .cells #[.slice Ao51 t128.length co51, .int .i64 t131, .int .i64 t132, .int .i64 t133] 32 (0, 0)) yq83) : gb144 ≠ gb134)); replace BK134 := bkbf3 BK134 yq83 hb; clear hb hbox hg; obtain ⟨Ao60, co60, eo60⟩ := Kd.R_slice HO137.out; subst eo60; have hnb61 := NB144_101.out; have hnc61 := NB101_144.out; have hnb62 := NB144_102.out; have hnc62 := NB102_144.out; have hnb63 := NB144_127.out; have hnc63 := NB127_144.out; have hnb64 := NB144_134.out; have hnc64 := NB134_144.out; have hcz65_0 := (qa BK144.out 0).trans rfl; have hcz65_1 := (qa BK144.out 1).trans rfl; have hcz65_2 := (qa BK144.out 2).trans rfl; have hcz65_3 := (qa BK144.out 3).trans rfl; have hcz65_4 := (qa BK144.out 4).trans rfl; have hfz65_0 := qd BK144.out 0; have hfz65_1 := qd BK144.out 1; have hfz65_2 := qd BK144.out 2; have hfz65_3 := qd BK144.out 3; have hfz65_4 := qd BK144.out 4; obtain ⟨Ao66, co66, eo66⟩ := Kd.R_slice HO140.out; subst eo66; have hcz67_0 := (qa BK134.out 0).trans rfl; have hcz67_1 := (qa BK134.out 1).trans rfl; have hcz67_2 := (qa BK134.out 2).trans rfl; have hcz67_3 := (qa BK134.out 3).trans rfl; have hfz67_0 := qd BK134.out 0; have hfz67_1 := qd BK134.out 1; have hfz67_2 := qd BK134.out 2; have hfz67_3 := qd BK134.out 3) | ((with_reducible refine qo (f := 20) rfl ?_); refine goesL_ (some 42) rfl rfl Try.func20 (by kernel_rfl) rfl #[.agg #[.slice Ao51 t128.length co51, .int .i64 t131, .int .i64 t132, .int .i64 t133], .agg #[.slice Ao60 t135.length co60, .slice Ao66 t138.length co66, .int .i64 t141, .int .i64 t142, .int .i64 t143]] rfl yq79 ?_; (with_reducible refine (impl_Apply.calls _ _ t128 t131 t132 t133 _ _ t135 _ _ t138 t141 t142 t143 t145 t148 t149 t150 t151 _ ?side1 ?side2 ?side3 ?side4 ?side5 ?side6 A24.out).mono ?_); (case side1 => refine (Kd.R_reads' (e := 66) (base := w.heap.size) (ok := fun k_ => ((((True ∧ some k_ ≠ (v106 : Value).ownBlock) ∧ some k_ ≠ (v112 : Value).ownBlock) ∧ some k_ ≠ (.slice Ao42 t120.length co42 : Value).ownBlock) ∧ some k_ ≠ (.slice Ao60 t135.length co60 : Value).ownBlock)) (n := t128.length) (c := co51) ?_).2.2; exact yq105); (case side2 => exact (Kd.R_reads' HO130.out).2.1); (case side3 => refine (Kd.R_reads' (e := 66) (base := w.heap.size) (ok := fun k_ => ((((True ∧ some k_ ≠ (v106 : Value).ownBlock) ∧ some k_ ≠ (v112 : Value).ownBlock) ∧ some k_ ≠ (.slice Ao42 t120.length co42 : Value).ownBlock) ∧ some k_ ≠ (.slice Ao51 t128.length co51 : Value).ownBlock)) (n := t135.length) (c := co60) ?_).2.2; exact yq104); (case side4 => exact (Kd.R_reads' HO137.out).2.1); (case side5 => refine (Kd.R_reads' (e := 2) (base := w.heap.size) (ok := fun k_ => (True ∧ some k_ ≠ (v115 : Value).ownBlock)) (n := t138.length) (c := co66) ?_).2.2; exact yq120); (case side6 => exact (Kd.R_reads' HO140.out).2.1); rintro e w68 ⟨v146, rfl, ho0, hb⟩; refine ⟨_, rfl, ?_⟩; replace HO116 := Qz.mk (Kd.R_below (by (with_reducible repeat (first | apply Kd.R_alloc | apply Kd.R_drewN | apply Kd.R_drew)); exact (Kd.R_mono (Kd.R_far (p := ⟨gb144, 4, none⟩) (Kd.R_far (p := ⟨gb144, 3, none⟩) (Kd.R_far (p := ⟨gb144, 2, none⟩) (Kd.R_far (p := ⟨gb144, 1, none⟩) (Kd.R_far (p := ⟨gb144, 0, none⟩) (Kd.R_types HO116.out BK144.out (by decide)) (fun _ hk => hk.2) (.slice Ao60 t135.length co60)) (fun _ hk => hk.2) (.slice Ao66 t138.length co66)) (fun _ hk => hk.2) (.int .i64 t141)) (fun _ hk => hk.2) (.int .i64 t142)) (fun _ hk => hk.2) (.int .i64 t143)) (fun _ h_ => h_.1))) hb); replace HO140 := Qz.mk (Kd.R_below yq120 hb); have HO147 := Qz.mk (Kd.R_lower (Kd.R_new' (Kd.R_new' (Kd.R_new' (Kd.R_new' (Kd.R_new' ho0 (Kd.R_lt yq123)) (Kd.R_lt yq122)) (Kd.R_lt yq121)) (Kd.R_lt yq105)) (Kd.R_lt yq104)) (ql yq110)); replace HO107 := Qz.mk (Kd.R_elder' yq123 (Kd.R_base ho0) hb); replace HO113 := Qz.mk (Kd.R_elder' yq122 (Kd.R_base ho0) hb); replace HO122 := Qz.mk (Kd.R_elder' yq121 (Kd.R_base ho0) hb); replace HO130 := Qz.mk (Kd.R_elder' yq105 (Kd.R_base ho0) hb); replace HO137 := Qz.mk (Kd.R_elder' yq104 (Kd.R_base ho0) hb); replace BK101 := Qz.mk (qp (g := gb101) (o := .cells #[.slice A0_0 l0_0.length c0_0, .int .i64 a0_1, .int .i64 a0_2, .int .i64 a0_3] 24 (0, 0)) (by (with_reducible repeat (first | refine qf ?_ _ | refine qg ?_ | refine qe ?_ _)); refine qu ?_ NB101_144.out _; (with_reducible repeat (first | refine qf ?_ _ | refine qg ?_ | refine qe ?_ _)); refine qu ?_ NB101_144.out _; (with_reducible repeat (first | refine qf ?_ _ | refine qg ?_ | refine qe ?_ _)); refine qu ?_ NB101_144.out _; (with_reducible repeat (first | refine qf ?_ _ | refine qg ?_ | refine qe ?_ _)); refine qu ?_ NB101_144.out _; (with_reducible repeat (first | refine qf ?_ _ | refine qg ?_ | refine qe ?_ _)); refine qu ?_ NB101_144.out _; (with_reducible repeat (first | refine qf ?_ _ | refine qg ?_ | refine qe ?_ _)); exact BK101.out) hb); replace BK102 := Qz.mk (qp (g := gb102) (o := .cells #[.slice A1_0 l1_0.length c1_0, .slice A1_1 l1_1.length c1_1, .int .i64 a1_2, .int .i64 a1_3, .int .i64 a1_4] 27 (0, 0)) (by (with_reducible repeat (first | refine qf ?_ _ | refine qg ?_ | refine qe ?_ _)); refine qu ?_ NB102_144.out _; (with_reducible repeat (first | refine qf ?_ _ | refine qg ?_ | refine qe ?_ _)); refine qu ?_ NB102_144.out _; (with_reducible repeat (first | refine qf ?_ _ | refine qg ?_ | refine qe ?_ _)); refine qu ?_ NB102_144.out _; (with_reducible repeat (first | refine qf ?_ _ | refine qg ?_ | refine qe ?_ _)); refine qu ?_ NB102_144.out _; (with_reducible repeat (first | refine qf ?_ _ | refine qg ?_ | refine qe ?_ _)); refine qu ?_ NB102_144.out _; (with_reducible repeat (first | refine qf ?_ _ | refine qg ?_ | refine qe ?_ _)); exact BK102.out) hb); replace BK127 := Qz.mk (qp (g := gb127) (o := .cells #[.slice Ao42 t120.length co42, .int .i64 t123, .int .i64 t124, .int .i64 t125] 32 (0, 0)) (by (with_reducible repeat (first | refine qf ?_ _ | refine qg ?_ | refine qe ?_ _)); refine qu ?_ NB127_144.out _; (with_reducible repeat (first | refine qf ?_ _ | refine qg ?_ | refine qe ?_ _)); refine qu ?_ NB127_144.out _; (with_reducible repeat (first | refine qf ?_ _ | refine qg ?_ | refine qe ?_ _)); refine qu ?_ NB127_144.out _; (with_reducible repeat (first | refine qf ?_ _ | refine qg ?_ | refine qe ?_ _)); refine qu ?_ NB127_144.out _; (with_reducible repeat (first | refine qf ?_ _ | refine qg ?_ | refine qe ?_ _)); refine qu ?_ NB127_144.out _; (with_reducible repeat (first | refine qf ?_ _ | refine qg ?_ | refine qe ?_ _)); exact BK127.out) hb); replace BK134 := Qz.mk (qp (g := gb134) (o := .cells #[.slice Ao51 t128.length co51, .int .i64 t131, .int .i64 t132, .int .i64 t133] 32 (0, 0)) (by (with_reducible repeat (first | refine qf ?_ _ | refine qg ?_ | refine qe ?_ _)); refine qu ?_ NB134_144.out _; (with_reducible repeat (first | refine qf ?_ _ | refine qg ?_ | refine qe ?_ _)); refine qu ?_ NB134_144.out _; (with_reducible repeat (first | refine qf ?_ _ | refine qg ?_ | refine qe ?_ _)); refine qu ?_ NB134_144.out _; (with_reducible repeat (first | refine qf ?_ _ | refine qg ?_ | refine qe ?_ _)); refine qu ?_ NB134_144.out _; (with_reducible repeat (first | refine qf ?_ _ | refine qg ?_ | refine qe ?_ _)); refine qu ?_ NB134_144.out _; (with_reducible repeat (first | refine qf ?_ _ | refine qg ?_ | refine qe ?_ _)); exact BK134.out) hb); replace BK144 := Qz.mk (qp (g := gb144) (o := .cells #[.slice Ao60 t135.length co60, .slice Ao66 t138.length co66, .int .i64 t141, .int .i64 t142, .int .i64 t143] 37 (0, 0)) (by (with_reducible repeat (first | refine qf ?_ _ | refine qg ?_ | refine qe ?_ _)); refine blk_put (cs := #[.slice Ao60 t135.length co60, .slice Ao66 t138.length co66, .int .i64 t141, .int .i64 t142, .int .i64 0]) ?_ 4 _ rfl; (with_reducible repeat (first | refine qf ?_ _ | refine qg ?_ | refine qe ?_ _)); refine blk_put (cs := #[.slice Ao60 t135.length co60, .slice Ao66 t138.length co66, .int .i64 t141, .int .i64 0, .int .i64 0]) ?_ 3 _ rfl; (with_reducible repeat (first | refine qf ?_ _ | refine qg ?_ | refine qe ?_ _)); refine blk_put (cs := #[.slice Ao60 t135.length co60, .slice Ao66 t138.length co66, .int .i64 0, .int .i64 0, .int .i64 0]) ?_ 2 _ rfl; (with_reducible repeat (first | refine qf ?_ _ | refine qg ?_ | refine qe ?_ _)); refine blk_put (cs := #[.slice Ao60 t135.length co60, .slice none 0 0, .int .i64 0, .int .i64 0, .int .i64 0]) ?_ 1 _ rfl; (with_reducible repeat (first | refine qf ?_ _ | refine qg ?_ | refine qe ?_ _)); refine blk_put (cs := #[.slice none 0 0, .slice none 0 0, .int .i64 0, .int .i64 0, .int .i64 0]) ?_ 0 _ rfl; (with_reducible repeat (first | refine qf ?_ _ | refine qg ?_ | refine qe ?_ _)); exact BK144.out) hb); replace HB := Qz.mk (qj yq110 hb); (try clear hb); (try clear hk); (try clear ho0)) | ((with_reducible refine qt (N := 10) rfl ?_); refine qr ?hg (N := 10) ?hd (cs := #[.slice none 0 0, .int .i64 0, .int .i64 0, .int .i64 0]) (t := 32) ?hr ?_; (case hd => rfl); (case hg => rfl); (case hr => exact yq119); intro gb152 hg w69 hbox hb; replace HO107 := Qz.mk (Kd.R_below yq94 hb); replace HO113 := Qz.mk (Kd.R_below yq101 hb); replace HO116 := Qz.mk (Kd.R_below yq100 hb); replace HO122 := Qz.mk (Kd.R_below (by (with_reducible repeat (first | apply Kd.R_alloc | apply Kd.R_drewN | apply Kd.R_drew)); exact HO122.out) hb); replace HO130 := Qz.mk (Kd.R_below (by (with_reducible repeat (first | apply Kd.R_alloc | apply Kd.R_drewN | apply Kd.R_drew)); exact HO130.out) hb); replace HO137 := Qz.mk (Kd.R_below (by (with_reducible repeat (first | apply Kd.R_alloc | apply Kd.R_drewN | apply Kd.R_drew)); exact HO137.out) hb); replace HO140 := Qz.mk (Kd.R_below (by (with_reducible repeat (first | apply Kd.R_alloc | apply Kd.R_drewN | apply Kd.R_drew)); exact HO140.out) hb); replace HO147 := Qz.mk (Kd.R_below (by (with_reducible repeat (first | apply Kd.R_alloc | apply Kd.R_drewN | apply Kd.R_drew)); exact HO147.out) hb); have BK152 := Qz.mk (hbox); have GW152 := Qz.mk ((by rw [hg]; exact (ql yq110) : w.heap.size ≤ gb152)); have GE152 := GW152; replace HB := Qz.mk (qj yq110 hb); have NB101_152 := Qz.mk ((yq92 : gb101 ≠ gb152)); have NB152_101 := Qz.mk ((yq93 : gb152 ≠ gb101)); replace BK101 := bkbf3 BK101 yq76 hb; have NB102_152 := Qz.mk ((yq95 : gb102 ≠ gb152)); have NB152_102 := Qz.mk ((yq96 : gb152 ≠ gb102)); replace BK102 := bkbf3 BK102 yq77 hb; have NB127_152 := Qz.mk ((yq108 : gb127 ≠ gb152)); have NB152_127 := Qz.mk ((yq109 : gb152 ≠ gb127)); replace BK127 := bkbf3 BK127 yq81 hb; have NB134_152 := Qz.mk ((by rw [hg]; exact Nat.ne_of_lt (qq (g := gb134) (o := .cells #[.slice Ao51 t128.length co51, .int .i64 t131, .int .i64 t132, .int .i64 t133] 32 (0, 0)) yq83) : gb134 ≠ gb152)); have NB152_134 := Qz.mk ((by rw [hg]; exact Nat.ne_of_gt (qq (g := gb134) (o := .cells #[.slice Ao51 t128.length co51, .int .i64 t131, .int .i64 t132, .int .i64 t133] 32 (0, 0)) yq83) : gb152 ≠ gb134)); replace BK134 := bkbf3 BK134 yq83 hb; have NB144_152 := Qz.mk ((by rw [hg]; exact Nat.ne_of_lt (qq (g := gb144) (o := .cells #[.slice Ao60 t135.length co60, .slice Ao66 t138.length co66, .int .i64 t141, .int .i64 t142, .int .i64 t143] 37 (0, 0)) yq84) : gb144 ≠ gb152)); have NB152_144 := Qz.mk ((by rw [hg]; exact Nat.ne_of_gt (qq (g := gb144) (o := .cells #[.slice Ao60 t135.length co60, .slice Ao66 t138.length co66, .int .i64 t141, .int .i64 t142, .int .i64 t143] 37 (0, 0)) yq84) : gb152 ≠ gb144)); replace BK144 := bkbf3 BK144 yq84 hb; clear hb hbox hg; obtain ⟨Ao70, co70, eo70⟩ := Kd.R_slice HO147.out; subst eo70; have hnb71 := NB152_101.out; have hnc71 := NB101_152.out; have hnb72 := NB152_102.out; have hnc72 := NB102_152.out; have hnb73 := NB152_127.out; have hnc73 := NB127_152.out; have hnb74 := NB152_134.out; have hnc74 := NB134_152.out; have hnb75 := NB152_144.out; have hnc75 := NB144_152.out; have hcz76_0 := (qa BK152.out 0).trans rfl; have hcz76_1 := (qa BK152.out 1).trans rfl; have hcz76_2 := (qa BK152.out 2).trans rfl; have hcz76_3 := (qa BK152.out 3).trans rfl; have hfz76_0 := qd BK152.out 0; have hfz76_1 := qd BK152.out 1; have hfz76_2 := qd BK152.out 2; have hfz76_3 := qd BK152.out 3))
   (try simp only [Act.put, sq1, sq2, sq3])
   go_cut [53] (fun v53 wc => ∃ (kq : Nat) (x53_24 : Bool), v53 = .bool x53_24 ∧ Qz (laws_FnExactApply.j0 kq t126 t151 x53_24 l0_0 a0_1 a0_2 a0_3 l1_0 l1_1 a1_2 a1_3 a1_4 t120 t123 t124 t125 t128 t131 t132 t133 t135 t138 t141 t142 t143 t145 t148 t149 t150 = some r) ∧ Qz (kq ≤ k) ∧ Qz (Kd.R k66 66 wc w.heap.size (fun k_ => some k_ ≠ ((.slice Ao51 t128.length co51) : Value).ownBlock ∧ some k_ ≠ ((.slice Ao60 t135.length co60) : Value).ownBlock ∧ some k_ ≠ ((.slice Ao70 t145.length co70) : Value).ownBlock) (.slice Ao42 t120.length co42) t120) ∧ Qz (Kd.R k66 66 wc w.heap.size (fun k_ => some k_ ≠ ((.slice Ao42 t120.length co42) : Value).ownBlock ∧ some k_ ≠ ((.slice Ao60 t135.length co60) : Value).ownBlock ∧ some k_ ≠ ((.slice Ao70 t145.length co70) : Value).ownBlock) (.slice Ao51 t128.length co51) t128) ∧ Qz (Kd.R k66 66 wc w.heap.size (fun k_ => some k_ ≠ ((.slice Ao42 t120.length co42) : Value).ownBlock ∧ some k_ ≠ ((.slice Ao51 t128.length co51) : Value).ownBlock ∧ some k_ ≠ ((.slice Ao70 t145.length co70) : Value).ownBlock) (.slice Ao60 t135.length co60) t135) ∧ Qz (Kd.R (Kd.int .i64) 2 wc w.heap.size (fun _ => True) (.slice Ao66 t138.length co66) t138) ∧ Qz (Kd.R k66 66 wc w.heap.size (fun k_ => some k_ ≠ ((.slice Ao42 t120.length co42) : Value).ownBlock ∧ some k_ ≠ ((.slice Ao51 t128.length co51) : Value).ownBlock ∧ some k_ ≠ ((.slice Ao60 t135.length co60) : Value).ownBlock) (.slice Ao70 t145.length co70) t145) ∧ Qz (wc.heap[gb101]? = some (.cells #[(.slice A0_0 l0_0.length c0_0), .int .i64 a0_1, .int .i64 a0_2, .int .i64 a0_3] 24 (0, 0))) ∧ Qz (wc.heap[gb102]? = some (.cells #[(.slice A1_0 l1_0.length c1_0), (.slice A1_1 l1_1.length c1_1), .int .i64 a1_2, .int .i64 a1_3, .int .i64 a1_4] 27 (0, 0))) ∧ Qz (wc.heap[gb127]? = some (.cells #[(.slice Ao42 t120.length co42), .int .i64 t123, .int .i64 t124, .int .i64 t125] 32 (0, 0))) ∧ Qz (wc.heap[gb134]? = some (.cells #[(.slice Ao51 t128.length co51), .int .i64 t131, .int .i64 t132, .int .i64 t133] 32 (0, 0))) ∧ Qz (wc.heap[gb144]? = some (.cells #[(.slice Ao60 t135.length co60), (.slice Ao66 t138.length co66), .int .i64 t141, .int .i64 t142, .int .i64 t143] 37 (0, 0))) ∧ Qz (wc.heap[gb152]? = some (.cells #[(.slice Ao70 t145.length co70), .int .i64 t148, .int .i64 t149, .int .i64 t150] 32 (0, 0))) ∧ Qz (Below w.heap.size w wc))
   case first =>
    have H := HC25.out
    clear HC25
    replace H := Option.bind_eq_some_iff.mp H
    obtain ⟨t153, A770, H⟩ := H
    replace H : (if t153 = true then (laws_FnExactApply.j0 k t126 t151 (t151 != t126) l0_0 a0_1 a0_2 a0_3 l1_0 l1_1 a1_2 a1_3 a1_4 t120 t123 t124 t125 t128 t131 t132 t133 t135 t138 t141 t142 t143 t145 t148 t149 t150) else (none)) = some r := H
    have A77 := Qz.mk A770
    clear A770
    by_cases c78 : t153 = true
    ·subst c78
     have H1 : (laws_FnExactApply.j0 k t126 t151 (t151 != t126) l0_0 a0_1 a0_2 a0_3 l1_0 l1_1 a1_2 a1_3 a1_4 t120 t123 t124 t125 t128 t131 t132 t133 t135 t138 t141 t142 t143 t145 t148 t149 t150) = some r := by rw [if_pos rfl] at H; exact H
     clear H
     have H := H1
     clear H1
     have H' := Qz.mk H
     clear H
     have hnb79 := NB152_101.out
     have hnc79 := NB101_152.out
     have hnb80 := NB152_102.out
     have hnc80 := NB102_152.out
     have hnb81 := NB152_127.out
     have hnc81 := NB127_152.out
     have hnb82 := NB152_134.out
     have hnc82 := NB134_152.out
     have hnb83 := NB152_144.out
     have hnc83 := NB144_152.out
     have hcz84_0 := (qa BK152.out 0).trans rfl
     have hcz84_1 := (qa BK152.out 1).trans rfl
     have hcz84_2 := (qa BK152.out 2).trans rfl
     have hcz84_3 := (qa BK152.out 3).trans rfl
     have hfz84_0 := qd BK152.out 0
     have hfz84_1 := qd BK152.out 1
     have hfz84_2 := qd BK152.out 2
     have hfz84_3 := qd BK152.out 3
     have hnb85 := NB127_101.out
     have hnc85 := NB101_127.out
     have hnb86 := NB127_102.out
     have hnc86 := NB102_127.out
     have hnb87 := NB127_134.out
     have hnc87 := NB134_127.out
     have hnb88 := NB127_144.out
     have hnc88 := NB144_127.out
     have hcz89_0 := (qa BK127.out 0).trans rfl
     have hcz89_1 := (qa BK127.out 1).trans rfl
     have hcz89_2 := (qa BK127.out 2).trans rfl
     have hcz89_3 := (qa BK127.out 3).trans rfl
     have hfz89_0 := qd BK127.out 0
     have hfz89_1 := qd BK127.out 1
     have hfz89_2 := qd BK127.out 2
     have hfz89_3 := qd BK127.out 3
     go_wp2_with (first | ((with_reducible refine qo (f := 21) rfl ?_); refine goesL_ (some 47) rfl rfl Try.func21 (by kernel_rfl) rfl #[.agg #[.slice Ao70 t145.length co70, .int .i64 t148, .int .i64 t149, .int .i64 t150], .agg #[.slice Ao42 t120.length co42, .int .i64 t123, .int .i64 t124, .int .i64 t125]] rfl yq79 ?_; (with_reducible refine (laws_eqVersion.calls k _ _ t145 t148 t149 t150 _ _ t120 t123 t124 t125 true _ ?side1 ?side2 ?side3 ?side4 A77.out).mono ?_); (case side1 => refine (Kd.R_reads' (e := 66) (base := w.heap.size) (ok := fun k_ => (((((True ∧ some k_ ≠ (v106 : Value).ownBlock) ∧ some k_ ≠ (v112 : Value).ownBlock) ∧ some k_ ≠ (.slice Ao42 t120.length co42 : Value).ownBlock) ∧ some k_ ≠ (.slice Ao51 t128.length co51 : Value).ownBlock) ∧ some k_ ≠ (.slice Ao60 t135.length co60 : Value).ownBlock)) (n := t145.length) (c := co70) ?_).2.2; exact (by (with_reducible repeat (first | apply Kd.R_alloc | apply Kd.R_drewN | apply Kd.R_drew)); exact (Kd.R_mono (Kd.R_far (p := ⟨gb152, 3, none⟩) (Kd.R_far (p := ⟨gb152, 2, none⟩) (Kd.R_far (p := ⟨gb152, 1, none⟩) (Kd.R_far (p := ⟨gb152, 0, none⟩) (Kd.R_types HO147.out BK152.out (by decide)) (fun _ hk => hk.2) (.slice Ao70 t145.length co70)) (fun _ hk => hk.2) (.int .i64 t148)) (fun _ hk => hk.2) (.int .i64 t149)) (fun _ hk => hk.2) (.int .i64 t150)) (fun _ h_ => h_.1)))); (case side2 => exact (Kd.R_reads' HO147.out).2.1); (case side3 => refine (Kd.R_reads' (e := 66) (base := w.heap.size) (ok := fun k_ => ((((some k_ ≠ (v106 : Value).ownBlock ∧ some k_ ≠ (v112 : Value).ownBlock) ∧ some k_ ≠ (.slice Ao51 t128.length co51 : Value).ownBlock) ∧ some k_ ≠ (.slice Ao60 t135.length co60 : Value).ownBlock) ∧ some k_ ≠ (.slice Ao70 t145.length co70 : Value).ownBlock)) (n := t120.length) (c := co42) ?_).2.2; exact (by (with_reducible repeat (first | apply Kd.R_alloc | apply Kd.R_drewN | apply Kd.R_drew)); exact (Kd.R_mono (Kd.R_far (p := ⟨gb152, 3, none⟩) (Kd.R_far (p := ⟨gb152, 2, none⟩) (Kd.R_far (p := ⟨gb152, 1, none⟩) (Kd.R_far (p := ⟨gb152, 0, none⟩) (Kd.R_types HO122.out BK152.out (by decide)) (fun _ hk => hk.2) (.slice Ao70 t145.length co70)) (fun _ hk => hk.2) (.int .i64 t148)) (fun _ hk => hk.2) (.int .i64 t149)) (fun _ hk => hk.2) (.int .i64 t150)) (fun _ h_ => h_.1)))); (case side4 => exact (Kd.R_reads' HO122.out).2.1); rintro e w90 ⟨rfl, hb⟩; refine ⟨_, rfl, ?_⟩; replace HO107 := Qz.mk (Kd.R_below (by (with_reducible repeat (first | apply Kd.R_alloc | apply Kd.R_drewN | apply Kd.R_drew)); exact (Kd.R_mono (Kd.R_far (p := ⟨gb152, 3, none⟩) (Kd.R_far (p := ⟨gb152, 2, none⟩) (Kd.R_far (p := ⟨gb152, 1, none⟩) (Kd.R_far (p := ⟨gb152, 0, none⟩) (Kd.R_types HO107.out BK152.out (by decide)) (fun _ hk => hk.2) (.slice Ao70 t145.length co70)) (fun _ hk => hk.2) (.int .i64 t148)) (fun _ hk => hk.2) (.int .i64 t149)) (fun _ hk => hk.2) (.int .i64 t150)) (fun _ h_ => h_.1))) hb); replace HO113 := Qz.mk (Kd.R_below (by (with_reducible repeat (first | apply Kd.R_alloc | apply Kd.R_drewN | apply Kd.R_drew)); exact (Kd.R_mono (Kd.R_far (p := ⟨gb152, 3, none⟩) (Kd.R_far (p := ⟨gb152, 2, none⟩) (Kd.R_far (p := ⟨gb152, 1, none⟩) (Kd.R_far (p := ⟨gb152, 0, none⟩) (Kd.R_types HO113.out BK152.out (by decide)) (fun _ hk => hk.2) (.slice Ao70 t145.length co70)) (fun _ hk => hk.2) (.int .i64 t148)) (fun _ hk => hk.2) (.int .i64 t149)) (fun _ hk => hk.2) (.int .i64 t150)) (fun _ h_ => h_.1))) hb); replace HO116 := Qz.mk (Kd.R_below (by (with_reducible repeat (first | apply Kd.R_alloc | apply Kd.R_drewN | apply Kd.R_drew)); exact (Kd.R_mono (Kd.R_far (p := ⟨gb152, 3, none⟩) (Kd.R_far (p := ⟨gb152, 2, none⟩) (Kd.R_far (p := ⟨gb152, 1, none⟩) (Kd.R_far (p := ⟨gb152, 0, none⟩) (Kd.R_types HO116.out BK152.out (by decide)) (fun _ hk => hk.2) (.slice Ao70 t145.length co70)) (fun _ hk => hk.2) (.int .i64 t148)) (fun _ hk => hk.2) (.int .i64 t149)) (fun _ hk => hk.2) (.int .i64 t150)) (fun _ h_ => h_.1))) hb); replace HO122 := Qz.mk (Kd.R_below (by (with_reducible repeat (first | apply Kd.R_alloc | apply Kd.R_drewN | apply Kd.R_drew)); exact (Kd.R_mono (Kd.R_far (p := ⟨gb152, 3, none⟩) (Kd.R_far (p := ⟨gb152, 2, none⟩) (Kd.R_far (p := ⟨gb152, 1, none⟩) (Kd.R_far (p := ⟨gb152, 0, none⟩) (Kd.R_types HO122.out BK152.out (by decide)) (fun _ hk => hk.2) (.slice Ao70 t145.length co70)) (fun _ hk => hk.2) (.int .i64 t148)) (fun _ hk => hk.2) (.int .i64 t149)) (fun _ hk => hk.2) (.int .i64 t150)) (fun _ h_ => h_.1))) hb); replace HO130 := Qz.mk (Kd.R_below (by (with_reducible repeat (first | apply Kd.R_alloc | apply Kd.R_drewN | apply Kd.R_drew)); exact (Kd.R_mono (Kd.R_far (p := ⟨gb152, 3, none⟩) (Kd.R_far (p := ⟨gb152, 2, none⟩) (Kd.R_far (p := ⟨gb152, 1, none⟩) (Kd.R_far (p := ⟨gb152, 0, none⟩) (Kd.R_types HO130.out BK152.out (by decide)) (fun _ hk => hk.2) (.slice Ao70 t145.length co70)) (fun _ hk => hk.2) (.int .i64 t148)) (fun _ hk => hk.2) (.int .i64 t149)) (fun _ hk => hk.2) (.int .i64 t150)) (fun _ h_ => h_.1))) hb); replace HO137 := Qz.mk (Kd.R_below (by (with_reducible repeat (first | apply Kd.R_alloc | apply Kd.R_drewN | apply Kd.R_drew)); exact (Kd.R_mono (Kd.R_far (p := ⟨gb152, 3, none⟩) (Kd.R_far (p := ⟨gb152, 2, none⟩) (Kd.R_far (p := ⟨gb152, 1, none⟩) (Kd.R_far (p := ⟨gb152, 0, none⟩) (Kd.R_types HO137.out BK152.out (by decide)) (fun _ hk => hk.2) (.slice Ao70 t145.length co70)) (fun _ hk => hk.2) (.int .i64 t148)) (fun _ hk => hk.2) (.int .i64 t149)) (fun _ hk => hk.2) (.int .i64 t150)) (fun _ h_ => h_.1))) hb); replace HO140 := Qz.mk (Kd.R_below (by (with_reducible repeat (first | apply Kd.R_alloc | apply Kd.R_drewN | apply Kd.R_drew)); exact (Kd.R_mono (Kd.R_far (p := ⟨gb152, 3, none⟩) (Kd.R_far (p := ⟨gb152, 2, none⟩) (Kd.R_far (p := ⟨gb152, 1, none⟩) (Kd.R_far (p := ⟨gb152, 0, none⟩) (Kd.R_types HO140.out BK152.out (by decide)) (fun _ hk => hk.2) (.slice Ao70 t145.length co70)) (fun _ hk => hk.2) (.int .i64 t148)) (fun _ hk => hk.2) (.int .i64 t149)) (fun _ hk => hk.2) (.int .i64 t150)) (fun _ h_ => h_.1))) hb); replace HO147 := Qz.mk (Kd.R_below (by (with_reducible repeat (first | apply Kd.R_alloc | apply Kd.R_drewN | apply Kd.R_drew)); exact (Kd.R_mono (Kd.R_far (p := ⟨gb152, 3, none⟩) (Kd.R_far (p := ⟨gb152, 2, none⟩) (Kd.R_far (p := ⟨gb152, 1, none⟩) (Kd.R_far (p := ⟨gb152, 0, none⟩) (Kd.R_types HO147.out BK152.out (by decide)) (fun _ hk => hk.2) (.slice Ao70 t145.length co70)) (fun _ hk => hk.2) (.int .i64 t148)) (fun _ hk => hk.2) (.int .i64 t149)) (fun _ hk => hk.2) (.int .i64 t150)) (fun _ h_ => h_.1))) hb); replace BK101 := Qz.mk (qp (g := gb101) (o := .cells #[.slice A0_0 l0_0.length c0_0, .int .i64 a0_1, .int .i64 a0_2, .int .i64 a0_3] 24 (0, 0)) (by (with_reducible repeat (first | refine qf ?_ _ | refine qg ?_ | refine qe ?_ _)); refine qu ?_ NB101_152.out _; (with_reducible repeat (first | refine qf ?_ _ | refine qg ?_ | refine qe ?_ _)); refine qu ?_ NB101_152.out _; (with_reducible repeat (first | refine qf ?_ _ | refine qg ?_ | refine qe ?_ _)); refine qu ?_ NB101_152.out _; (with_reducible repeat (first | refine qf ?_ _ | refine qg ?_ | refine qe ?_ _)); refine qu ?_ NB101_152.out _; (with_reducible repeat (first | refine qf ?_ _ | refine qg ?_ | refine qe ?_ _)); exact BK101.out) hb); replace BK102 := Qz.mk (qp (g := gb102) (o := .cells #[.slice A1_0 l1_0.length c1_0, .slice A1_1 l1_1.length c1_1, .int .i64 a1_2, .int .i64 a1_3, .int .i64 a1_4] 27 (0, 0)) (by (with_reducible repeat (first | refine qf ?_ _ | refine qg ?_ | refine qe ?_ _)); refine qu ?_ NB102_152.out _; (with_reducible repeat (first | refine qf ?_ _ | refine qg ?_ | refine qe ?_ _)); refine qu ?_ NB102_152.out _; (with_reducible repeat (first | refine qf ?_ _ | refine qg ?_ | refine qe ?_ _)); refine qu ?_ NB102_152.out _; (with_reducible repeat (first | refine qf ?_ _ | refine qg ?_ | refine qe ?_ _)); refine qu ?_ NB102_152.out _; (with_reducible repeat (first | refine qf ?_ _ | refine qg ?_ | refine qe ?_ _)); exact BK102.out) hb); replace BK127 := Qz.mk (qp (g := gb127) (o := .cells #[.slice Ao42 t120.length co42, .int .i64 t123, .int .i64 t124, .int .i64 t125] 32 (0, 0)) (by (with_reducible repeat (first | refine qf ?_ _ | refine qg ?_ | refine qe ?_ _)); refine qu ?_ NB127_152.out _; (with_reducible repeat (first | refine qf ?_ _ | refine qg ?_ | refine qe ?_ _)); refine qu ?_ NB127_152.out _; (with_reducible repeat (first | refine qf ?_ _ | refine qg ?_ | refine qe ?_ _)); refine qu ?_ NB127_152.out _; (with_reducible repeat (first | refine qf ?_ _ | refine qg ?_ | refine qe ?_ _)); refine qu ?_ NB127_152.out _; (with_reducible repeat (first | refine qf ?_ _ | refine qg ?_ | refine qe ?_ _)); exact BK127.out) hb); replace BK134 := Qz.mk (qp (g := gb134) (o := .cells #[.slice Ao51 t128.length co51, .int .i64 t131, .int .i64 t132, .int .i64 t133] 32 (0, 0)) (by (with_reducible repeat (first | refine qf ?_ _ | refine qg ?_ | refine qe ?_ _)); refine qu ?_ NB134_152.out _; (with_reducible repeat (first | refine qf ?_ _ | refine qg ?_ | refine qe ?_ _)); refine qu ?_ NB134_152.out _; (with_reducible repeat (first | refine qf ?_ _ | refine qg ?_ | refine qe ?_ _)); refine qu ?_ NB134_152.out _; (with_reducible repeat (first | refine qf ?_ _ | refine qg ?_ | refine qe ?_ _)); refine qu ?_ NB134_152.out _; (with_reducible repeat (first | refine qf ?_ _ | refine qg ?_ | refine qe ?_ _)); exact BK134.out) hb); replace BK144 := Qz.mk (qp (g := gb144) (o := .cells #[.slice Ao60 t135.length co60, .slice Ao66 t138.length co66, .int .i64 t141, .int .i64 t142, .int .i64 t143] 37 (0, 0)) (by (with_reducible repeat (first | refine qf ?_ _ | refine qg ?_ | refine qe ?_ _)); refine qu ?_ NB144_152.out _; (with_reducible repeat (first | refine qf ?_ _ | refine qg ?_ | refine qe ?_ _)); refine qu ?_ NB144_152.out _; (with_reducible repeat (first | refine qf ?_ _ | refine qg ?_ | refine qe ?_ _)); refine qu ?_ NB144_152.out _; (with_reducible repeat (first | refine qf ?_ _ | refine qg ?_ | refine qe ?_ _)); refine qu ?_ NB144_152.out _; (with_reducible repeat (first | refine qf ?_ _ | refine qg ?_ | refine qe ?_ _)); exact BK144.out) hb); replace BK152 := Qz.mk (qp (g := gb152) (o := .cells #[.slice Ao70 t145.length co70, .int .i64 t148, .int .i64 t149, .int .i64 t150] 32 (0, 0)) (by (with_reducible repeat (first | refine qf ?_ _ | refine qg ?_ | refine qe ?_ _)); refine blk_put (cs := #[.slice Ao70 t145.length co70, .int .i64 t148, .int .i64 t149, .int .i64 0]) ?_ 3 _ rfl; (with_reducible repeat (first | refine qf ?_ _ | refine qg ?_ | refine qe ?_ _)); refine blk_put (cs := #[.slice Ao70 t145.length co70, .int .i64 t148, .int .i64 0, .int .i64 0]) ?_ 2 _ rfl; (with_reducible repeat (first | refine qf ?_ _ | refine qg ?_ | refine qe ?_ _)); refine blk_put (cs := #[.slice Ao70 t145.length co70, .int .i64 0, .int .i64 0, .int .i64 0]) ?_ 1 _ rfl; (with_reducible repeat (first | refine qf ?_ _ | refine qg ?_ | refine qe ?_ _)); refine blk_put (cs := #[.slice none 0 0, .int .i64 0, .int .i64 0, .int .i64 0]) ?_ 0 _ rfl; (with_reducible repeat (first | refine qf ?_ _ | refine qg ?_ | refine qe ?_ _)); exact BK152.out) hb); replace HB := Qz.mk (qj yq78 hb); (try clear hb); (try clear hk)))
     go_meet
     case rel => exact ⟨_, ((t151 != t126)), (by first | rfl | (simp; done) | (simp [*]; done)), H', ⟨by first | omega | exact Nat.le_refl _⟩, ⟨by (with_reducible repeat (first | apply Kd.R_alloc | apply Kd.R_drewN | apply Kd.R_drew)); exact Kd.R_mono HO122.out (fun _ hk => ⟨hk.1.1.2, ⟨hk.1.2, hk.2⟩⟩)⟩, ⟨by (with_reducible repeat (first | apply Kd.R_alloc | apply Kd.R_drewN | apply Kd.R_drew)); exact Kd.R_mono HO130.out (fun _ hk => ⟨hk.1.1.2, ⟨hk.1.2, hk.2⟩⟩)⟩, ⟨by (with_reducible repeat (first | apply Kd.R_alloc | apply Kd.R_drewN | apply Kd.R_drew)); exact Kd.R_mono HO137.out (fun _ hk => ⟨hk.1.1.2, ⟨hk.1.2, hk.2⟩⟩)⟩, ⟨by (with_reducible repeat (first | apply Kd.R_alloc | apply Kd.R_drewN | apply Kd.R_drew)); exact Kd.R_mono HO140.out (fun _ hk => trivial)⟩, ⟨by (with_reducible repeat (first | apply Kd.R_alloc | apply Kd.R_drewN | apply Kd.R_drew)); exact Kd.R_mono HO147.out (fun _ hk => ⟨hk.1.1.2, ⟨hk.1.2, hk.2⟩⟩)⟩, ⟨by (with_reducible repeat (first | refine qf ?_ _ | refine qg ?_ | refine qe ?_ _)); exact BK101.out⟩, ⟨by (with_reducible repeat (first | refine qf ?_ _ | refine qg ?_ | refine qe ?_ _)); exact BK102.out⟩, ⟨by (with_reducible repeat (first | refine qf ?_ _ | refine qg ?_ | refine qe ?_ _)); exact BK127.out⟩, ⟨by (with_reducible repeat (first | refine qf ?_ _ | refine qg ?_ | refine qe ?_ _)); exact BK134.out⟩, ⟨by (with_reducible repeat (first | refine qf ?_ _ | refine qg ?_ | refine qe ?_ _)); exact BK144.out⟩, ⟨by (with_reducible repeat (first | refine qf ?_ _ | refine qg ?_ | refine qe ?_ _)); exact BK152.out⟩, ⟨by repeat (first | (with_reducible first | exact HB.out | apply qi | apply qb | apply qh | refine qc ?_ GE101.out | refine qc ?_ GE102.out | refine qc ?_ GE127.out | refine qc ?_ GE134.out | refine qc ?_ GE144.out | refine qc ?_ GE152.out) | exact HB.out)⟩⟩
    ·replace c78 := Bool.eq_false_iff.mpr c78
     subst c78
     have H1 : (none) = some r := by rw [if_neg (show ¬ (false = true) by decide)] at H; exact H
     clear H
     have H := H1
     clear H1
     exact absurd H (by simp)
   case rest =>
    clear HC25
    (try clear c1);(try clear c2);(try clear p2);(try clear c4);(try clear c5);(try clear c6);(try clear c7);(try clear c8);(try clear c17);(try clear c18);(try clear c19);(try clear c20);(try clear c21);(try clear c47);(try clear c52);(try clear c53);(try clear c54);(try clear c56);(try clear c61);(try clear c62);(try clear c63);(try clear c64);(try clear c71);(try clear c72);(try clear c73);(try clear c74);(try clear c75);(try clear c78);(try clear c79);(try clear c80);(try clear c81);(try clear c82);(try clear c83);(try clear c85);(try clear c86);(try clear c87);(try clear c88);(try clear hcz48_0);(try clear hcz48_1);(try clear hcz48_2);(try clear hcz48_3);(try clear hcz55_0);(try clear hcz55_1);(try clear hcz55_2);(try clear hcz55_3);(try clear hcz57_0);(try clear hcz57_1);(try clear hcz57_2);(try clear hcz57_3);(try clear hcz57_4);(try clear hcz65_0);(try clear hcz65_1);(try clear hcz65_2);(try clear hcz65_3);(try clear hcz65_4);(try clear hcz67_0);(try clear hcz67_1);(try clear hcz67_2);(try clear hcz67_3);(try clear hcz76_0);(try clear hcz76_1);(try clear hcz76_2);(try clear hcz76_3);(try clear hcz84_0);(try clear hcz84_1);(try clear hcz84_2);(try clear hcz84_3);(try clear hcz89_0);(try clear hcz89_1);(try clear hcz89_2);(try clear hcz89_3);(try clear hfz48_0);(try clear hfz48_1);(try clear hfz48_2);(try clear hfz48_3);(try clear hfz55_0);(try clear hfz55_1);(try clear hfz55_2);(try clear hfz55_3);(try clear hfz57_0);(try clear hfz57_1);(try clear hfz57_2);(try clear hfz57_3);(try clear hfz57_4);(try clear hfz65_0);(try clear hfz65_1);(try clear hfz65_2);(try clear hfz65_3);(try clear hfz65_4);(try clear hfz67_0);(try clear hfz67_1);(try clear hfz67_2);(try clear hfz67_3);(try clear hfz76_0);(try clear hfz76_1);(try clear hfz76_2);(try clear hfz76_3);(try clear hfz84_0);(try clear hfz84_1);(try clear hfz84_2);(try clear hfz84_3);(try clear hfz89_0);(try clear hfz89_1);(try clear hfz89_2);(try clear hfz89_3)
    obtain ⟨kq, x53_24, rfl, HA, HJ24, HO_128000, HO_135000, HO_145000, HO_145001, HO_153000, BK101, BK102, BK127, BK134, BK144, BK152, HB⟩ := hcut
    cases kq with
    | zero => exact absurd HA.out (by simp [laws_FnExactApply.j0])
    | succ kj24 =>
     have H := HA.out
     clear HA
     simp only [laws_FnExactApply.j0] at H
     by_cases c91 : x53_24 = true
     ·subst c91
      have H1 : (none) = some r := by rw [if_pos rfl] at H; exact H
      clear H
      have H := H1
      clear H1
      exact absurd H (by simp)
     ·replace c91 := Bool.eq_false_iff.mpr c91
      subst c91
      have H1 : ((laws_toVersion.f kj24 l0_0 a0_1 a0_2 a0_3).bind fun bt154 => ((laws_eqVersion.f kj24 t128 t131 t132 t133 bt154.1 bt154.2.1 bt154.2.2.1 bt154.2.2.2).bind fun t160 => (if t160 = true then ((laws_toEdit.f kj24 l1_0 l1_1 a1_2 a1_3 a1_4).bind fun bt161 => ((laws_eqEdit.f kj24 t135 t138 t141 t142 t143 bt161.1 bt161.2.1 bt161.2.2.1 bt161.2.2.2.1 bt161.2.2.2.2).bind fun t170 => (if t170 = true then ((laws_markVersion.f kj24 t128 t131 t132 t133 1).bind fun bt171 => ((laws_markEdit.f kj24 t135 t138 t141 t142 t143 bt171.1).bind fun bt173 => (if bt173.1 < 0 then (none) else ((laws_eqVersion.f kj24 t145 t148 t149 t150 t120 t123 t124 t125).bind fun t176 => (if t176 = true then (laws_FnExactApply.j1 kj24 t126 (t151 != t126) l0_0 a0_1 a0_2 a0_3 l1_0 l1_1 a1_2 a1_3 a1_4 t120 t123 t124 t125 t145 t148 t149 t150) else (none)))))) else (none)))) else (none)))) = some r := by rw [if_neg (show ¬ (false = true) by decide)] at H; exact H
      clear H
      have H := H1
      clear H1
      replace H := Option.bind_eq_some_iff.mp H
      obtain ⟨⟨t154, t157, t158, t159⟩, A920, H⟩ := H
      replace H : ((laws_eqVersion.f kj24 t128 t131 t132 t133 t154 t157 t158 t159).bind fun t160 => (if t160 = true then ((laws_toEdit.f kj24 l1_0 l1_1 a1_2 a1_3 a1_4).bind fun bt161 => ((laws_eqEdit.f kj24 t135 t138 t141 t142 t143 bt161.1 bt161.2.1 bt161.2.2.1 bt161.2.2.2.1 bt161.2.2.2.2).bind fun t170 => (if t170 = true then ((laws_markVersion.f kj24 t128 t131 t132 t133 1).bind fun bt171 => ((laws_markEdit.f kj24 t135 t138 t141 t142 t143 bt171.1).bind fun bt173 => (if bt173.1 < 0 then (none) else ((laws_eqVersion.f kj24 t145 t148 t149 t150 t120 t123 t124 t125).bind fun t176 => (if t176 = true then (laws_FnExactApply.j1 kj24 t126 (t151 != t126) l0_0 a0_1 a0_2 a0_3 l1_0 l1_1 a1_2 a1_3 a1_4 t120 t123 t124 t125 t145 t148 t149 t150) else (none)))))) else (none)))) else (none))) = some r := H
      have A92 := Qz.mk A920
      clear A920
      replace H := Option.bind_eq_some_iff.mp H
      obtain ⟨t160, A930, H⟩ := H
      replace H : (if t160 = true then ((laws_toEdit.f kj24 l1_0 l1_1 a1_2 a1_3 a1_4).bind fun bt161 => ((laws_eqEdit.f kj24 t135 t138 t141 t142 t143 bt161.1 bt161.2.1 bt161.2.2.1 bt161.2.2.2.1 bt161.2.2.2.2).bind fun t170 => (if t170 = true then ((laws_markVersion.f kj24 t128 t131 t132 t133 1).bind fun bt171 => ((laws_markEdit.f kj24 t135 t138 t141 t142 t143 bt171.1).bind fun bt173 => (if bt173.1 < 0 then (none) else ((laws_eqVersion.f kj24 t145 t148 t149 t150 t120 t123 t124 t125).bind fun t176 => (if t176 = true then (laws_FnExactApply.j1 kj24 t126 (t151 != t126) l0_0 a0_1 a0_2 a0_3 l1_0 l1_1 a1_2 a1_3 a1_4 t120 t123 t124 t125 t145 t148 t149 t150) else (none)))))) else (none)))) else (none)) = some r := H
      have A93 := Qz.mk A930
      clear A930
      by_cases c94 : t160 = true
      ·subst c94
       have H1 : ((laws_toEdit.f kj24 l1_0 l1_1 a1_2 a1_3 a1_4).bind fun bt161 => ((laws_eqEdit.f kj24 t135 t138 t141 t142 t143 bt161.1 bt161.2.1 bt161.2.2.1 bt161.2.2.2.1 bt161.2.2.2.2).bind fun t170 => (if t170 = true then ((laws_markVersion.f kj24 t128 t131 t132 t133 1).bind fun bt171 => ((laws_markEdit.f kj24 t135 t138 t141 t142 t143 bt171.1).bind fun bt173 => (if bt173.1 < 0 then (none) else ((laws_eqVersion.f kj24 t145 t148 t149 t150 t120 t123 t124 t125).bind fun t176 => (if t176 = true then (laws_FnExactApply.j1 kj24 t126 (t151 != t126) l0_0 a0_1 a0_2 a0_3 l1_0 l1_1 a1_2 a1_3 a1_4 t120 t123 t124 t125 t145 t148 t149 t150) else (none)))))) else (none)))) = some r := by rw [if_pos rfl] at H; exact H
       clear H
       have H := H1
       clear H1
       replace H := Option.bind_eq_some_iff.mp H
       obtain ⟨⟨t161, t164, t167, t168, t169⟩, A950, H⟩ := H
       replace H : ((laws_eqEdit.f kj24 t135 t138 t141 t142 t143 t161 t164 t167 t168 t169).bind fun t170 => (if t170 = true then ((laws_markVersion.f kj24 t128 t131 t132 t133 1).bind fun bt171 => ((laws_markEdit.f kj24 t135 t138 t141 t142 t143 bt171.1).bind fun bt173 => (if bt173.1 < 0 then (none) else ((laws_eqVersion.f kj24 t145 t148 t149 t150 t120 t123 t124 t125).bind fun t176 => (if t176 = true then (laws_FnExactApply.j1 kj24 t126 (t151 != t126) l0_0 a0_1 a0_2 a0_3 l1_0 l1_1 a1_2 a1_3 a1_4 t120 t123 t124 t125 t145 t148 t149 t150) else (none)))))) else (none))) = some r := H
       have A95 := Qz.mk A950
       clear A950
       replace H := Option.bind_eq_some_iff.mp H
       obtain ⟨t170, A960, H⟩ := H
       replace H : (if t170 = true then ((laws_markVersion.f kj24 t128 t131 t132 t133 1).bind fun bt171 => ((laws_markEdit.f kj24 t135 t138 t141 t142 t143 bt171.1).bind fun bt173 => (if bt173.1 < 0 then (none) else ((laws_eqVersion.f kj24 t145 t148 t149 t150 t120 t123 t124 t125).bind fun t176 => (if t176 = true then (laws_FnExactApply.j1 kj24 t126 (t151 != t126) l0_0 a0_1 a0_2 a0_3 l1_0 l1_1 a1_2 a1_3 a1_4 t120 t123 t124 t125 t145 t148 t149 t150) else (none)))))) else (none)) = some r := H
       have A96 := Qz.mk A960
       clear A960
       by_cases c97 : t170 = true
       ·subst c97
        have H1 : ((laws_markVersion.f kj24 t128 t131 t132 t133 1).bind fun bt171 => ((laws_markEdit.f kj24 t135 t138 t141 t142 t143 bt171.1).bind fun bt173 => (if bt173.1 < 0 then (none) else ((laws_eqVersion.f kj24 t145 t148 t149 t150 t120 t123 t124 t125).bind fun t176 => (if t176 = true then (laws_FnExactApply.j1 kj24 t126 (t151 != t126) l0_0 a0_1 a0_2 a0_3 l1_0 l1_1 a1_2 a1_3 a1_4 t120 t123 t124 t125 t145 t148 t149 t150) else (none)))))) = some r := by rw [if_pos rfl] at H; exact H
        clear H
        have H := H1
        clear H1
        replace H := Option.bind_eq_some_iff.mp H
        obtain ⟨⟨t171, t172⟩, A980, H⟩ := H
        replace H : ((laws_markEdit.f kj24 t135 t138 t141 t142 t143 t171).bind fun bt173 => (if bt173.1 < 0 then (none) else ((laws_eqVersion.f kj24 t145 t148 t149 t150 t120 t123 t124 t125).bind fun t176 => (if t176 = true then (laws_FnExactApply.j1 kj24 t126 (t151 != t126) l0_0 a0_1 a0_2 a0_3 l1_0 l1_1 a1_2 a1_3 a1_4 t120 t123 t124 t125 t145 t148 t149 t150) else (none))))) = some r := H
        have A98 := Qz.mk A980
        clear A980
        replace H := Option.bind_eq_some_iff.mp H
        obtain ⟨⟨t173, t174, t175⟩, A990, H⟩ := H
        replace H : (if t173 < 0 then (none) else ((laws_eqVersion.f kj24 t145 t148 t149 t150 t120 t123 t124 t125).bind fun t176 => (if t176 = true then (laws_FnExactApply.j1 kj24 t126 (t151 != t126) l0_0 a0_1 a0_2 a0_3 l1_0 l1_1 a1_2 a1_3 a1_4 t120 t123 t124 t125 t145 t148 t149 t150) else (none)))) = some r := H
        have A99 := Qz.mk A990
        clear A990
        have HC100 := Qz.mk H
        clear H
        try go_wp2
        replace HO_128000 := Qz.mk (Kd.R_drew HO_128000.out)
        replace HO_135000 := Qz.mk (Kd.R_drew HO_135000.out)
        replace HO_145000 := Qz.mk (Kd.R_drew HO_145000.out)
        replace HO_145001 := Qz.mk (Kd.R_drew HO_145001.out)
        replace HO_153000 := Qz.mk (Kd.R_drew HO_153000.out)
        replace BK101 := Qz.mk (qg BK101.out)
        replace BK102 := Qz.mk (qg BK102.out)
        replace BK127 := Qz.mk (qg BK127.out)
        replace BK134 := Qz.mk (qg BK134.out)
        replace BK144 := Qz.mk (qg BK144.out)
        replace BK152 := Qz.mk (qg BK152.out)
        replace HB := Qz.mk (qh HB.out)
        refine start_ (n := 5) (S := fun w' => w'.cell? ⟨gb134, 0, none⟩ = some (.slice Ao51 t128.length co51) ∧ w'.cell? ⟨gb134, 1, none⟩ = some (.int .i64 t131) ∧ w'.cell? ⟨gb134, 2, none⟩ = some (.int .i64 t132) ∧ w'.cell? ⟨gb134, 3, none⟩ = some (.int .i64 t133) ∧ w'.cell? ⟨gb101, 0, none⟩ = some (.slice A0_0 l0_0.length c0_0) ∧ w'.cell? ⟨gb101, 1, none⟩ = some (.int .i64 a0_1) ∧ w'.cell? ⟨gb101, 2, none⟩ = some (.int .i64 a0_2) ∧ w'.cell? ⟨gb101, 3, none⟩ = some (.int .i64 a0_3)) (ds := []) #[false, false, false, false, false] (by kernel_rfl) rfl rfl ⟨(qa BK134.out 0).trans rfl, (qa BK134.out 1).trans rfl, (qa BK134.out 2).trans rfl, (qa BK134.out 3).trans rfl, (qa BK101.out 0).trans rfl, (qa BK101.out 1).trans rfl, (qa BK101.out 2).trans rfl, (qa BK101.out 3).trans rfl⟩ (fun hHeld => ?_)
        generalize wc.drew = w101 at HO_128000 HO_135000 HO_145000 HO_145001 HO_153000 BK101 BK102 BK127 BK134 BK144 BK152 HB hHeld ⊢
        refine take_ (i := 0) (N := some 54) (v := ?_) (a' := ?_) #[true, false, false, false, false] rfl rfl (by kernel_rfl) (fun _ _ _ h => h) (Or.inl ⟨by rfl, ?_⟩) hHeld ?_ ?_
        rotate_left
        ·rintro w' ⟨s0, s1, s2, s3, s4, s5, s6, s7⟩
         go_simp
         with_reducible rfl
        rotate_left
        ·simp only [Act.put, sq1, sq2, sq3, i64_w, i32_w]
         rfl
        refine take_ (i := 1) (N := some 55) (v := ?_) (a' := ?_) #[true, true, false, false, false] rfl rfl (by kernel_rfl) (fun _ _ _ h => h) (Or.inl ⟨by rfl, ?_⟩) hHeld ?_ ?_
        rotate_left
        ·rintro w' ⟨s0, s1, s2, s3, s4, s5, s6, s7⟩
         go_simp
         with_reducible rfl
        rotate_left
        ·simp only [Act.put, sq1, sq2, sq3, i64_w, i32_w]
         rfl
        refine one_ (i := 2) (N := some 56) #[true, true, true, false, false] rfl rfl (by kernel_rfl) (by decide) (fun K hK => ?_)
        refine goes_ Try.func18 (by kernel_rfl) rfl #[.agg #[.slice A0_0 l0_0.length c0_0, .int .i64 a0_1, .int .i64 a0_2, .int .i64 a0_3]] (by rfl) rfl rfl yq79 ?_
        with_reducible refine (laws_toVersion.calls kj24 _ _ l0_0 a0_1 a0_2 a0_3 t154 t157 t158 t159 _ ?side1 ?side2 A92.out).mono ?_
        (case side1 => exact yq102)
        (case side2 => exact HC0_0.out)
        rintro e w102 ⟨v155, rfl, ho0, hb⟩
        refine ⟨_, rfl, ?_⟩
        replace HO_145001 := Qz.mk (Kd.R_below yq91 hb)
        have HO156 := Qz.mk (Kd.R_lower (Kd.R_new' (Kd.R_new' (Kd.R_new' (Kd.R_new' ho0 (Kd.R_lt yq89)) (Kd.R_lt yq88)) (Kd.R_lt yq87)) (Kd.R_lt yq86)) (ql yq78))
        replace HO_128000 := Qz.mk (Kd.R_elder' yq89 (Kd.R_base ho0) hb)
        replace HO_135000 := Qz.mk (Kd.R_elder' yq88 (Kd.R_base ho0) hb)
        replace HO_145000 := Qz.mk (Kd.R_elder' yq87 (Kd.R_base ho0) hb)
        replace HO_153000 := Qz.mk (Kd.R_elder' yq86 (Kd.R_base ho0) hb)
        replace BK101 := bkbf3 BK101 yq76 hb
        replace BK102 := bkbf3 BK102 yq77 hb
        replace BK127 := bkbf3 BK127 yq81 hb
        replace BK134 := bkbf3 BK134 yq83 hb
        replace BK144 := bkbf3 BK144 yq84 hb
        replace BK152 := bkbf3 BK152 yq85 hb
        replace HB := Qz.mk (qj yq78 hb)
        (try clear hb)
        (try clear hk)
        (try clear ho0)
        obtain ⟨Ao103, co103, eo103⟩ := Kd.R_slice HO156.out
        (first | subst eo103 | (injection eo103 with f1_ f2_ f3_; have f4_ := f1_.symm; have f5_ := f3_.symm; clear f1_ f2_ f3_; subst f4_; subst f5_))
        refine hK.out _ _ ⟨(qa BK134.out 0).trans rfl, (qa BK134.out 1).trans rfl, (qa BK134.out 2).trans rfl, (qa BK134.out 3).trans rfl, (qa BK101.out 0).trans rfl, (qa BK101.out 1).trans rfl, (qa BK101.out 2).trans rfl, (qa BK101.out 3).trans rfl⟩ (fun hHeld => ?_)
        clear hK K
        refine norm_ (a' := ?_) ?_ ?_
        rotate_left
        ·show Act.put _ (some 56) _ = _
         simp only [Act.put, sq1, sq2, sq3, i64_w, i32_w]
         rfl
        refine one_ (i := 3) (N := some 57) #[true, true, true, true, false] rfl rfl (by kernel_rfl) (by decide) (fun K hK => ?_)
        refine goes_ Try.func21 (by kernel_rfl) rfl #[.agg #[.slice Ao51 t128.length co51, .int .i64 t131, .int .i64 t132, .int .i64 t133], .agg #[.slice Ao103 t154.length co103, .int .i64 t157, .int .i64 t158, .int .i64 t159]] (by rfl) rfl rfl yq79 ?_
        with_reducible refine (laws_eqVersion.calls kj24 _ _ t128 t131 t132 t133 _ _ t154 t157 t158 t159 true _ ?side1 ?side2 ?side3 ?side4 A93.out).mono ?_
        (case side1 => repeat (first | exact (Kd.R_reads' HO_135000.out).2.2 | (with_reducible refine Kd.C_alloc ?_ _) | (with_reducible refine Kd.C_drewN ?_ _) | (with_reducible refine Kd.C_drew ?_)))
        (case side2 => exact (Kd.R_reads' HO_135000.out).2.1)
        (case side3 => repeat (first | exact (Kd.R_reads' HO156.out).2.2 | (with_reducible refine Kd.C_alloc ?_ _) | (with_reducible refine Kd.C_drewN ?_ _) | (with_reducible refine Kd.C_drew ?_)))
        (case side4 => exact (Kd.R_reads' HO156.out).2.1)
        rintro e w104 ⟨rfl, hb⟩
        refine ⟨_, rfl, ?_⟩
        replace HO_128000 := Qz.mk (Kd.R_below yq89 hb)
        replace HO_135000 := Qz.mk (Kd.R_below yq88 hb)
        replace HO_145000 := Qz.mk (Kd.R_below yq87 hb)
        replace HO_145001 := Qz.mk (Kd.R_below yq91 hb)
        replace HO_153000 := Qz.mk (Kd.R_below yq86 hb)
        replace HO156 := Qz.mk (Kd.R_below (by (with_reducible repeat (first | apply Kd.R_alloc | apply Kd.R_drewN | apply Kd.R_drew)); exact HO156.out) hb)
        replace BK101 := bkbf3 BK101 yq76 hb
        replace BK102 := bkbf3 BK102 yq77 hb
        replace BK127 := bkbf3 BK127 yq81 hb
        replace BK134 := bkbf3 BK134 yq83 hb
        replace BK144 := bkbf3 BK144 yq84 hb
        replace BK152 := bkbf3 BK152 yq85 hb
        replace HB := Qz.mk (qj yq78 hb)
        (try clear hb)
        (try clear hk)
        refine hK.out _ _ ⟨(qa BK134.out 0).trans rfl, (qa BK134.out 1).trans rfl, (qa BK134.out 2).trans rfl, (qa BK134.out 3).trans rfl, (qa BK101.out 0).trans rfl, (qa BK101.out 1).trans rfl, (qa BK101.out 2).trans rfl, (qa BK101.out 3).trans rfl⟩ (fun hHeld => ?_)
        clear hK K
        refine norm_ (a' := ?_) ?_ ?_
        rotate_left
        ·show Act.put _ (some 57) _ = _
         simp only [Act.put, sq1, sq2, sq3, i64_w, i32_w]
         rfl
        refine pure_ (i := 4) (N := some 58) (v := ?_) (a' := ?_) #[true, true, true, true, true] rfl rfl (by kernel_rfl) (fun _ _ _ h => h) (Or.inl ⟨by rfl, ?_⟩) ?_ ?_
        rotate_left
        ·intro w'
         go_simp
         with_reducible rfl
        rotate_left
        ·simp only [Act.put, sq1, sq2, sq3, i64_w, i32_w]
         rfl
        refine done_ (by kernel_rfl) ?_
        try go_wp2
        replace HO_128000 := Qz.mk (Kd.R_drew HO_128000.out)
        replace HO_135000 := Qz.mk (Kd.R_drew HO_135000.out)
        replace HO_145000 := Qz.mk (Kd.R_drew HO_145000.out)
        replace HO_145001 := Qz.mk (Kd.R_drew HO_145001.out)
        replace HO_153000 := Qz.mk (Kd.R_drew HO_153000.out)
        replace HO156 := Qz.mk (Kd.R_drew HO156.out)
        replace BK101 := Qz.mk (qg BK101.out)
        replace BK102 := Qz.mk (qg BK102.out)
        replace BK127 := Qz.mk (qg BK127.out)
        replace BK134 := Qz.mk (qg BK134.out)
        replace BK144 := Qz.mk (qg BK144.out)
        replace BK152 := Qz.mk (qg BK152.out)
        replace HB := Qz.mk (qh HB.out)
        refine start_ (n := 5) (S := fun w' => w'.cell? ⟨gb144, 0, none⟩ = some (.slice Ao60 t135.length co60) ∧ w'.cell? ⟨gb144, 1, none⟩ = some (.slice Ao66 t138.length co66) ∧ w'.cell? ⟨gb144, 2, none⟩ = some (.int .i64 t141) ∧ w'.cell? ⟨gb144, 3, none⟩ = some (.int .i64 t142) ∧ w'.cell? ⟨gb144, 4, none⟩ = some (.int .i64 t143) ∧ w'.cell? ⟨gb102, 0, none⟩ = some (.slice A1_0 l1_0.length c1_0) ∧ w'.cell? ⟨gb102, 1, none⟩ = some (.slice A1_1 l1_1.length c1_1) ∧ w'.cell? ⟨gb102, 2, none⟩ = some (.int .i64 a1_2) ∧ w'.cell? ⟨gb102, 3, none⟩ = some (.int .i64 a1_3) ∧ w'.cell? ⟨gb102, 4, none⟩ = some (.int .i64 a1_4)) (ds := []) #[false, false, false, false, false] (by kernel_rfl) rfl rfl ⟨(qa BK144.out 0).trans rfl, (qa BK144.out 1).trans rfl, (qa BK144.out 2).trans rfl, (qa BK144.out 3).trans rfl, (qa BK144.out 4).trans rfl, (qa BK102.out 0).trans rfl, (qa BK102.out 1).trans rfl, (qa BK102.out 2).trans rfl, (qa BK102.out 3).trans rfl, (qa BK102.out 4).trans rfl⟩ (fun hHeld => ?_)
        generalize w104.drew = w105 at HO_128000 HO_135000 HO_145000 HO_145001 HO_153000 HO156 BK101 BK102 BK127 BK134 BK144 BK152 HB hHeld ⊢
        refine take_ (i := 0) (N := some 59) (v := ?_) (a' := ?_) #[true, false, false, false, false] rfl rfl (by kernel_rfl) (fun _ _ _ h => h) (Or.inl ⟨by rfl, ?_⟩) hHeld ?_ ?_
        rotate_left
        ·rintro w' ⟨s0, s1, s2, s3, s4, s5, s6, s7, s8, s9⟩
         go_simp
         with_reducible rfl
        rotate_left
        ·simp only [Act.put, sq1, sq2, sq3, i64_w, i32_w]
         rfl
        refine take_ (i := 1) (N := some 60) (v := ?_) (a' := ?_) #[true, true, false, false, false] rfl rfl (by kernel_rfl) (fun _ _ _ h => h) (Or.inl ⟨by rfl, ?_⟩) hHeld ?_ ?_
        rotate_left
        ·rintro w' ⟨s0, s1, s2, s3, s4, s5, s6, s7, s8, s9⟩
         go_simp
         with_reducible rfl
        rotate_left
        ·simp only [Act.put, sq1, sq2, sq3, i64_w, i32_w]
         rfl
        refine one_ (i := 2) (N := some 61) #[true, true, true, false, false] rfl rfl (by kernel_rfl) (by decide) (fun K hK => ?_)
        refine goes_ Try.func19 (by kernel_rfl) rfl #[.agg #[.slice A1_0 l1_0.length c1_0, .slice A1_1 l1_1.length c1_1, .int .i64 a1_2, .int .i64 a1_3, .int .i64 a1_4]] (by rfl) rfl rfl yq79 ?_
        with_reducible refine (laws_toEdit.calls kj24 _ _ l1_0 _ _ l1_1 a1_2 a1_3 a1_4 t161 t164 t167 t168 t169 _ ?side1 ?side2 ?side3 ?side4 A95.out).mono ?_
        (case side1 => exact yq99)
        (case side2 => exact HC1_0.out)
        (case side3 => exact yq98)
        (case side4 => exact HC1_1.out)
        rintro e w106 ⟨v162, v165, rfl, ho0, ho1, hb⟩
        refine ⟨_, rfl, ?_⟩
        have HO163 := Qz.mk (Kd.R_lower (Kd.R_new' (Kd.R_new' (Kd.R_new' (Kd.R_new' (Kd.R_new' ho0 (Kd.R_lt yq89)) (Kd.R_lt yq88)) (Kd.R_lt yq87)) (Kd.R_lt yq86)) (Kd.R_lt (by (with_reducible repeat (first | apply Kd.R_alloc | apply Kd.R_drewN | apply Kd.R_drew)); exact HO156.out))) (ql yq78))
        replace HO_128000 := Qz.mk (Kd.R_elder' yq89 (Kd.R_base ho0) hb)
        replace HO_135000 := Qz.mk (Kd.R_elder' yq88 (Kd.R_base ho0) hb)
        replace HO_145000 := Qz.mk (Kd.R_elder' yq87 (Kd.R_base ho0) hb)
        replace HO_153000 := Qz.mk (Kd.R_elder' yq86 (Kd.R_base ho0) hb)
        replace HO156 := Qz.mk (Kd.R_elder' (by (with_reducible repeat (first | apply Kd.R_alloc | apply Kd.R_drewN | apply Kd.R_drew)); exact HO156.out) (Kd.R_base ho0) hb)
        have HO166 := Qz.mk (Kd.R_lower (Kd.R_new' ho1 (Kd.R_lt yq91)) (ql yq78))
        replace HO_145001 := Qz.mk (Kd.R_elder' yq91 (Kd.R_base ho1) hb)
        replace BK101 := bkbf3 BK101 yq76 hb
        replace BK102 := bkbf3 BK102 yq77 hb
        replace BK127 := bkbf3 BK127 yq81 hb
        replace BK134 := bkbf3 BK134 yq83 hb
        replace BK144 := bkbf3 BK144 yq84 hb
        replace BK152 := bkbf3 BK152 yq85 hb
        replace HB := Qz.mk (qj yq78 hb)
        (try clear hb)
        (try clear hk)
        (try clear ho0)
        (try clear ho1)
        obtain ⟨Ao107, co107, eo107⟩ := Kd.R_slice HO163.out
        (first | subst eo107 | (injection eo107 with f1_ f2_ f3_; have f4_ := f1_.symm; have f5_ := f3_.symm; clear f1_ f2_ f3_; subst f4_; subst f5_))
        obtain ⟨Ao108, co108, eo108⟩ := Kd.R_slice HO166.out
        (first | subst eo108 | (injection eo108 with f1_ f2_ f3_; have f4_ := f1_.symm; have f5_ := f3_.symm; clear f1_ f2_ f3_; subst f4_; subst f5_))
        refine hK.out _ _ ⟨(qa BK144.out 0).trans rfl, (qa BK144.out 1).trans rfl, (qa BK144.out 2).trans rfl, (qa BK144.out 3).trans rfl, (qa BK144.out 4).trans rfl, (qa BK102.out 0).trans rfl, (qa BK102.out 1).trans rfl, (qa BK102.out 2).trans rfl, (qa BK102.out 3).trans rfl, (qa BK102.out 4).trans rfl⟩ (fun hHeld => ?_)
        clear hK K
        refine norm_ (a' := ?_) ?_ ?_
        rotate_left
        ·show Act.put _ (some 61) _ = _
         simp only [Act.put, sq1, sq2, sq3, i64_w, i32_w]
         rfl
        refine one_ (i := 3) (N := some 62) #[true, true, true, true, false] rfl rfl (by kernel_rfl) (by decide) (fun K hK => ?_)
        refine goes_ Try.func22 (by kernel_rfl) rfl #[.agg #[.slice Ao60 t135.length co60, .slice Ao66 t138.length co66, .int .i64 t141, .int .i64 t142, .int .i64 t143], .agg #[.slice Ao107 t161.length co107, .slice Ao108 t164.length co108, .int .i64 t167, .int .i64 t168, .int .i64 t169]] (by rfl) rfl rfl yq79 ?_
        with_reducible refine (laws_eqEdit.calls kj24 _ _ t135 _ _ t138 t141 t142 t143 _ _ t161 _ _ t164 t167 t168 t169 true _ ?side1 ?side2 ?side3 ?side4 ?side5 ?side6 ?side7 ?side8 A96.out).mono ?_
        (case side1 => repeat (first | exact (Kd.R_reads' HO_145000.out).2.2 | (with_reducible refine Kd.C_alloc ?_ _) | (with_reducible refine Kd.C_drewN ?_ _) | (with_reducible refine Kd.C_drew ?_)))
        (case side2 => exact (Kd.R_reads' HO_145000.out).2.1)
        (case side3 => repeat (first | exact (Kd.R_reads' HO_145001.out).2.2 | (with_reducible refine Kd.C_alloc ?_ _) | (with_reducible refine Kd.C_drewN ?_ _) | (with_reducible refine Kd.C_drew ?_)))
        (case side4 => exact (Kd.R_reads' HO_145001.out).2.1)
        (case side5 => repeat (first | exact (Kd.R_reads' HO163.out).2.2 | (with_reducible refine Kd.C_alloc ?_ _) | (with_reducible refine Kd.C_drewN ?_ _) | (with_reducible refine Kd.C_drew ?_)))
        (case side6 => exact (Kd.R_reads' HO163.out).2.1)
        (case side7 => repeat (first | exact (Kd.R_reads' HO166.out).2.2 | (with_reducible refine Kd.C_alloc ?_ _) | (with_reducible refine Kd.C_drewN ?_ _) | (with_reducible refine Kd.C_drew ?_)))
        (case side8 => exact (Kd.R_reads' HO166.out).2.1)
        rintro e w109 ⟨rfl, hb⟩
        refine ⟨_, rfl, ?_⟩
        replace HO_128000 := Qz.mk (Kd.R_below yq89 hb)
        replace HO_135000 := Qz.mk (Kd.R_below yq88 hb)
        replace HO_145000 := Qz.mk (Kd.R_below yq87 hb)
        replace HO_145001 := Qz.mk (Kd.R_below yq91 hb)
        replace HO_153000 := Qz.mk (Kd.R_below yq86 hb)
        replace HO156 := Qz.mk (Kd.R_below (by (with_reducible repeat (first | apply Kd.R_alloc | apply Kd.R_drewN | apply Kd.R_drew)); exact HO156.out) hb)
        replace HO163 := Qz.mk (Kd.R_below (by (with_reducible repeat (first | apply Kd.R_alloc | apply Kd.R_drewN | apply Kd.R_drew)); exact HO163.out) hb)
        replace HO166 := Qz.mk (Kd.R_below (by (with_reducible repeat (first | apply Kd.R_alloc | apply Kd.R_drewN | apply Kd.R_drew)); exact HO166.out) hb)
        replace BK101 := bkbf3 BK101 yq76 hb
        replace BK102 := bkbf3 BK102 yq77 hb
        replace BK127 := bkbf3 BK127 yq81 hb
        replace BK134 := bkbf3 BK134 yq83 hb
        replace BK144 := bkbf3 BK144 yq84 hb
        replace BK152 := bkbf3 BK152 yq85 hb
        replace HB := Qz.mk (qj yq78 hb)
        (try clear hb)
        (try clear hk)
        refine hK.out _ _ ⟨(qa BK144.out 0).trans rfl, (qa BK144.out 1).trans rfl, (qa BK144.out 2).trans rfl, (qa BK144.out 3).trans rfl, (qa BK144.out 4).trans rfl, (qa BK102.out 0).trans rfl, (qa BK102.out 1).trans rfl, (qa BK102.out 2).trans rfl, (qa BK102.out 3).trans rfl, (qa BK102.out 4).trans rfl⟩ (fun hHeld => ?_)
        clear hK K
        refine norm_ (a' := ?_) ?_ ?_
        rotate_left
        ·show Act.put _ (some 62) _ = _
         simp only [Act.put, sq1, sq2, sq3, i64_w, i32_w]
         rfl
        refine pure_ (i := 4) (N := some 63) (v := ?_) (a' := ?_) #[true, true, true, true, true] rfl rfl (by kernel_rfl) (fun _ _ _ h => h) (Or.inl ⟨by rfl, ?_⟩) ?_ ?_
        rotate_left
        ·intro w'
         go_simp
         with_reducible rfl
        rotate_left
        ·simp only [Act.put, sq1, sq2, sq3, i64_w, i32_w]
         rfl
        refine done_ (by kernel_rfl) ?_
        have hnb110 := NB134_101.out
        have hnc110 := NB101_134.out
        have hnb111 := NB134_102.out
        have hnc111 := NB102_134.out
        have hnb112 := NB134_127.out
        have hnc112 := NB127_134.out
        have hnb113 := NB134_144.out
        have hnc113 := NB144_134.out
        have hnb114 := NB134_152.out
        have hnc114 := NB152_134.out
        have hcz115_0 := (qa BK134.out 0).trans rfl
        have hcz115_1 := (qa BK134.out 1).trans rfl
        have hcz115_2 := (qa BK134.out 2).trans rfl
        have hcz115_3 := (qa BK134.out 3).trans rfl
        have hfz115_0 := qd BK134.out 0
        have hfz115_1 := qd BK134.out 1
        have hfz115_2 := qd BK134.out 2
        have hfz115_3 := qd BK134.out 3
        go_upto_region 21 with (first | ((with_reducible refine qo (f := 23) rfl ?_); refine goesL_ (some 66) rfl rfl Try.func23 (by kernel_rfl) rfl #[.agg #[.slice Ao51 t128.length co51, .int .i64 t131, .int .i64 t132, .int .i64 t133], .int .i64 1] rfl yq79 ?_; (with_reducible refine (laws_markVersion.calls kj24 (fun k_ => some k_ = (.slice Ao51 t128.length co51 : Value).ownBlock) (.slice Ao51 t128.length co51) t128 t131 t132 t133 1 t171 t172 w _ ?side1 ?side2 A98.out).mono ?_); (case side1 => exact yq78); (case side2 => exact Kd.R_tight rfl HO_135000.out); rintro e w116 ⟨rfl, hy0, hb, hkp⟩; refine ⟨_, rfl, ?_⟩; replace HO_128000 := Qz.mk (Kd.R_mono (ok' := fun k_ => some k_ ≠ (.slice Ao51 t128.length co51 : Value).ownBlock ∧ some k_ ≠ (.slice Ao60 t135.length co60 : Value).ownBlock ∧ some k_ ≠ (.slice Ao70 t145.length co70 : Value).ownBlock ∧ some k_ ≠ (.slice Ao103 t154.length co103 : Value).ownBlock ∧ some k_ ≠ (.slice Ao107 t161.length co107 : Value).ownBlock) (Kd.R_keptB (HO_128000.out) hkp (fun k_ hk_ hs_ => (hk_.1.1.1) hs_)) (fun k_ hk_ => ⟨hk_.1.1.1.1, hk_.1.1.1.2.1, hk_.1.1.1.2.2, hk_.1.1.2, hk_.1.2⟩)); replace HO_145000 := Qz.mk (Kd.R_mono (ok' := fun k_ => some k_ ≠ (.slice Ao42 t120.length co42 : Value).ownBlock ∧ some k_ ≠ (.slice Ao51 t128.length co51 : Value).ownBlock ∧ some k_ ≠ (.slice Ao70 t145.length co70 : Value).ownBlock ∧ some k_ ≠ (.slice Ao103 t154.length co103 : Value).ownBlock ∧ some k_ ≠ (.slice Ao107 t161.length co107 : Value).ownBlock) (Kd.R_keptB (HO_145000.out) hkp (fun k_ hk_ hs_ => (hk_.1.1.2.1) hs_)) (fun k_ hk_ => ⟨hk_.1.1.1.1, hk_.1.1.1.2.1, hk_.1.1.1.2.2, hk_.1.1.2, hk_.1.2⟩)); replace HO_145001 := Qz.mk (Kd.R_mono (ok' := fun k_ => some k_ ≠ (.slice Ao108 t164.length co108 : Value).ownBlock) (Kd.R_keptB ((Kd.R_apart' HO_145001.out (Kd.R_typed HO_135000.out) (by decide))) hkp (fun k_ hk_ hs_ => (hk_.2) hs_)) (fun k_ hk_ => hk_.1.1.2)); replace HO_153000 := Qz.mk (Kd.R_mono (ok' := fun k_ => some k_ ≠ (.slice Ao42 t120.length co42 : Value).ownBlock ∧ some k_ ≠ (.slice Ao51 t128.length co51 : Value).ownBlock ∧ some k_ ≠ (.slice Ao60 t135.length co60 : Value).ownBlock ∧ some k_ ≠ (.slice Ao103 t154.length co103 : Value).ownBlock ∧ some k_ ≠ (.slice Ao107 t161.length co107 : Value).ownBlock) (Kd.R_keptB (HO_153000.out) hkp (fun k_ hk_ hs_ => (hk_.1.1.2.1) hs_)) (fun k_ hk_ => ⟨hk_.1.1.1.1, hk_.1.1.1.2.1, hk_.1.1.1.2.2, hk_.1.1.2, hk_.1.2⟩)); replace BK101 := Qz.mk (blk_kept yq76 hkp (fun hs_ => (fun e_ => (Kd.R_ne HO_135000.out BK101.out (by decide)) e_) hs_)); replace BK102 := Qz.mk (blk_kept yq77 hkp (fun hs_ => (fun e_ => (Kd.R_ne HO_135000.out BK102.out (by decide)) e_) hs_)); replace BK127 := Qz.mk (blk_kept yq81 hkp (fun hs_ => (fun e_ => (Kd.R_ne HO_135000.out BK127.out (by decide)) e_) hs_)); replace BK134 := Qz.mk (blk_kept yq83 hkp (fun hs_ => (fun e_ => (Kd.R_ne HO_135000.out BK134.out (by decide)) e_) hs_)); replace BK144 := Qz.mk (blk_kept yq84 hkp (fun hs_ => (fun e_ => (Kd.R_ne HO_135000.out BK144.out (by decide)) e_) hs_)); replace BK152 := Qz.mk (blk_kept yq85 hkp (fun hs_ => (fun e_ => (Kd.R_ne HO_135000.out BK152.out (by decide)) e_) hs_)); replace HO156 := Qz.mk (Kd.R_mono (ok' := fun k_ => some k_ ≠ (.slice Ao42 t120.length co42 : Value).ownBlock ∧ some k_ ≠ (.slice Ao51 t128.length co51 : Value).ownBlock ∧ some k_ ≠ (.slice Ao60 t135.length co60 : Value).ownBlock ∧ some k_ ≠ (.slice Ao70 t145.length co70 : Value).ownBlock ∧ some k_ ≠ (.slice Ao107 t161.length co107 : Value).ownBlock) (Kd.R_keptB (HO156.out) hkp (fun k_ hk_ hs_ => (hk_.1.1.1.2) hs_)) (fun k_ hk_ => ⟨hk_.1.1.1.1.1.2, hk_.1.1.1.1.2, hk_.1.1.1.2, hk_.1.1.2, hk_.1.2⟩)); replace HO163 := Qz.mk (Kd.R_mono (ok' := fun k_ => some k_ ≠ (.slice Ao42 t120.length co42 : Value).ownBlock ∧ some k_ ≠ (.slice Ao51 t128.length co51 : Value).ownBlock ∧ some k_ ≠ (.slice Ao60 t135.length co60 : Value).ownBlock ∧ some k_ ≠ (.slice Ao70 t145.length co70 : Value).ownBlock ∧ some k_ ≠ (.slice Ao103 t154.length co103 : Value).ownBlock) (Kd.R_keptB (HO163.out) hkp (fun k_ hk_ hs_ => (hk_.1.1.1.2) hs_)) (fun k_ hk_ => ⟨hk_.1.1.1.1.1.2, hk_.1.1.1.1.2, hk_.1.1.1.2, hk_.1.1.2, hk_.1.2⟩)); replace HO166 := Qz.mk (Kd.R_mono (ok' := fun k_ => some k_ ≠ (.slice Ao66 t138.length co66 : Value).ownBlock) (Kd.R_keptB ((Kd.R_apart' HO166.out (Kd.R_typed HO_135000.out) (by decide))) hkp (fun k_ hk_ hs_ => (hk_.2) hs_)) (fun k_ hk_ => hk_.1.1.2)); replace HO_135000 := Qz.mk (Kd.R_reok rfl hy0 (fun k_ e_ => HO_135000.out.1 k_ e_)); replace HB := Qz.mk (hb); (try clear hb); (try clear hkp); (try clear hy0); have hnb117 := NB144_101.out; have hnc117 := NB101_144.out; have hnb118 := NB144_102.out; have hnc118 := NB102_144.out; have hnb119 := NB144_127.out; have hnc119 := NB127_144.out; have hnb120 := NB144_152.out; have hnc120 := NB152_144.out; have hcz121_0 := (qa BK144.out 0).trans rfl; have hcz121_1 := (qa BK144.out 1).trans rfl; have hcz121_2 := (qa BK144.out 2).trans rfl; have hcz121_3 := (qa BK144.out 3).trans rfl; have hcz121_4 := (qa BK144.out 4).trans rfl; have hfz121_0 := qd BK144.out 0; have hfz121_1 := qd BK144.out 1; have hfz121_2 := qd BK144.out 2; have hfz121_3 := qd BK144.out 3; have hfz121_4 := qd BK144.out 4) | ((with_reducible refine qo (f := 24) rfl ?_); refine goesL_ (some 69) rfl rfl Try.func24 (by kernel_rfl) rfl #[.agg #[.slice Ao60 t135.length co60, .slice Ao66 t138.length co66, .int .i64 t141, .int .i64 t142, .int .i64 t143], .int .i64 t171] rfl yq79 ?_; (with_reducible refine (laws_markEdit.calls kj24 (fun k_ => some k_ = (.slice Ao60 t135.length co60 : Value).ownBlock) (.slice Ao60 t135.length co60) t135 (fun k_ => some k_ = (.slice Ao66 t138.length co66 : Value).ownBlock) (.slice Ao66 t138.length co66) t138 t141 t142 t143 t171 t173 t174 t175 w _ ?side1 ?side2 ?side3 A99.out).mono ?_); (case side1 => exact yq78); (case side2 => exact Kd.R_tight rfl HO_145000.out); (case side3 => exact Kd.R_tight rfl HO_145001.out); rintro e w122 ⟨rfl, hy0, hy1, hb, hkp⟩; refine ⟨_, rfl, ?_⟩; replace HO_128000 := Qz.mk (Kd.R_mono (ok' := fun k_ => some k_ ≠ (.slice Ao51 t128.length co51 : Value).ownBlock ∧ some k_ ≠ (.slice Ao60 t135.length co60 : Value).ownBlock ∧ some k_ ≠ (.slice Ao70 t145.length co70 : Value).ownBlock ∧ some k_ ≠ (.slice Ao103 t154.length co103 : Value).ownBlock ∧ some k_ ≠ (.slice Ao107 t161.length co107 : Value).ownBlock) (Kd.R_keptB ((Kd.R_apart' HO_128000.out (Kd.R_typed HO_145001.out) (by decide))) hkp (fun k_ hk_ hs_ => Or.elim hs_ (fun e_ => (hk_.1.2.1) e_) (fun e_ => (hk_.2) e_))) (fun k_ hk_ => ⟨hk_.1.1.1, hk_.1.1.2.1, hk_.1.1.2.2.1, hk_.1.1.2.2.2.1, hk_.1.1.2.2.2.2⟩)); replace HO_135000 := Qz.mk (Kd.R_mono (ok' := fun k_ => some k_ ≠ (.slice Ao42 t120.length co42 : Value).ownBlock ∧ some k_ ≠ (.slice Ao60 t135.length co60 : Value).ownBlock ∧ some k_ ≠ (.slice Ao70 t145.length co70 : Value).ownBlock ∧ some k_ ≠ (.slice Ao103 t154.length co103 : Value).ownBlock ∧ some k_ ≠ (.slice Ao107 t161.length co107 : Value).ownBlock) (Kd.R_keptB ((Kd.R_apart' HO_135000.out (Kd.R_typed HO_145001.out) (by decide))) hkp (fun k_ hk_ hs_ => Or.elim hs_ (fun e_ => (hk_.1.1.1.2.1) e_) (fun e_ => (hk_.2) e_))) (fun k_ hk_ => ⟨hk_.1.1.1.1.1, hk_.1.1.1.1.2.1, hk_.1.1.1.1.2.2, hk_.1.1.1.2, hk_.1.1.2⟩)); replace HO_153000 := Qz.mk (Kd.R_mono (ok' := fun k_ => some k_ ≠ (.slice Ao42 t120.length co42 : Value).ownBlock ∧ some k_ ≠ (.slice Ao51 t128.length co51 : Value).ownBlock ∧ some k_ ≠ (.slice Ao60 t135.length co60 : Value).ownBlock ∧ some k_ ≠ (.slice Ao103 t154.length co103 : Value).ownBlock ∧ some k_ ≠ (.slice Ao107 t161.length co107 : Value).ownBlock) (Kd.R_keptB ((Kd.R_apart' HO_153000.out (Kd.R_typed HO_145001.out) (by decide))) hkp (fun k_ hk_ hs_ => Or.elim hs_ (fun e_ => (hk_.1.2.2.1) e_) (fun e_ => (hk_.2) e_))) (fun k_ hk_ => ⟨hk_.1.1.1, hk_.1.1.2.1, hk_.1.1.2.2.1, hk_.1.1.2.2.2.1, hk_.1.1.2.2.2.2⟩)); replace BK101 := Qz.mk (blk_kept yq76 hkp (fun hs_ => Or.elim hs_ (fun e_ => (fun e_ => (Kd.R_ne HO_145000.out BK101.out (by decide)) e_) e_) (fun e_ => (fun e_ => (Kd.R_ne HO_145001.out BK101.out (by decide)) e_) e_))); replace BK102 := Qz.mk (blk_kept yq77 hkp (fun hs_ => Or.elim hs_ (fun e_ => (fun e_ => (Kd.R_ne HO_145000.out BK102.out (by decide)) e_) e_) (fun e_ => (fun e_ => (Kd.R_ne HO_145001.out BK102.out (by decide)) e_) e_))); replace BK127 := Qz.mk (blk_kept yq81 hkp (fun hs_ => Or.elim hs_ (fun e_ => (fun e_ => (Kd.R_ne HO_145000.out BK127.out (by decide)) e_) e_) (fun e_ => (fun e_ => (Kd.R_ne HO_145001.out BK127.out (by decide)) e_) e_))); replace BK134 := Qz.mk (blk_kept yq83 hkp (fun hs_ => Or.elim hs_ (fun e_ => (fun e_ => (Kd.R_ne HO_145000.out BK134.out (by decide)) e_) e_) (fun e_ => (fun e_ => (Kd.R_ne HO_145001.out BK134.out (by decide)) e_) e_))); replace BK144 := Qz.mk (blk_kept yq84 hkp (fun hs_ => Or.elim hs_ (fun e_ => (fun e_ => (Kd.R_ne HO_145000.out BK144.out (by decide)) e_) e_) (fun e_ => (fun e_ => (Kd.R_ne HO_145001.out BK144.out (by decide)) e_) e_))); replace BK152 := Qz.mk (blk_kept yq85 hkp (fun hs_ => Or.elim hs_ (fun e_ => (fun e_ => (Kd.R_ne HO_145000.out BK152.out (by decide)) e_) e_) (fun e_ => (fun e_ => (Kd.R_ne HO_145001.out BK152.out (by decide)) e_) e_))); replace HO156 := Qz.mk (Kd.R_mono (ok' := fun k_ => some k_ ≠ (.slice Ao42 t120.length co42 : Value).ownBlock ∧ some k_ ≠ (.slice Ao51 t128.length co51 : Value).ownBlock ∧ some k_ ≠ (.slice Ao60 t135.length co60 : Value).ownBlock ∧ some k_ ≠ (.slice Ao70 t145.length co70 : Value).ownBlock ∧ some k_ ≠ (.slice Ao107 t161.length co107 : Value).ownBlock) (Kd.R_keptB ((Kd.R_apart' HO156.out (Kd.R_typed HO_145001.out) (by decide))) hkp (fun k_ hk_ hs_ => Or.elim hs_ (fun e_ => (hk_.1.2.2.1) e_) (fun e_ => (hk_.2) e_))) (fun k_ hk_ => ⟨hk_.1.1.1, hk_.1.1.2.1, hk_.1.1.2.2.1, hk_.1.1.2.2.2.1, hk_.1.1.2.2.2.2⟩)); replace HO163 := Qz.mk (Kd.R_mono (ok' := fun k_ => some k_ ≠ (.slice Ao42 t120.length co42 : Value).ownBlock ∧ some k_ ≠ (.slice Ao51 t128.length co51 : Value).ownBlock ∧ some k_ ≠ (.slice Ao60 t135.length co60 : Value).ownBlock ∧ some k_ ≠ (.slice Ao70 t145.length co70 : Value).ownBlock ∧ some k_ ≠ (.slice Ao103 t154.length co103 : Value).ownBlock) (Kd.R_keptB ((Kd.R_apart' HO163.out (Kd.R_typed HO_145001.out) (by decide))) hkp (fun k_ hk_ hs_ => Or.elim hs_ (fun e_ => (hk_.1.2.2.1) e_) (fun e_ => (hk_.2) e_))) (fun k_ hk_ => ⟨hk_.1.1.1, hk_.1.1.2.1, hk_.1.1.2.2.1, hk_.1.1.2.2.2.1, hk_.1.1.2.2.2.2⟩)); replace HO_145001 := Qz.mk (Kd.R_reok rfl hy1 (fun k_ e_ => HO_145001.out.1 k_ e_)); replace HO166 := Qz.mk (Kd.R_mono (ok' := fun k_ => some k_ ≠ (.slice Ao66 t138.length co66 : Value).ownBlock) (Kd.R_keptB ((Kd.R_apart' HO166.out (Kd.R_typed HO_145000.out) (by decide))) hkp (fun k_ hk_ hs_ => Or.elim hs_ (fun e_ => (hk_.2) e_) (fun e_ => (hk_.1) e_))) (fun k_ hk_ => hk_.1.1)); replace HO_145000 := Qz.mk (Kd.R_reok rfl hy0 (fun k_ e_ => HO_145000.out.1 k_ e_)); replace HB := Qz.mk (hb); (try clear hb); (try clear hkp); (try clear hy0); (try clear hy1)))
        (try simp only [Act.put, sq1, sq2, sq3])
        go_cut [82] (fun v82 wc => ∃ (kq : Nat) (x82_99 : Bool), v82 = .bool x82_99 ∧ Qz (laws_FnExactApply.j1 kq t126 x82_99 l0_0 a0_1 a0_2 a0_3 l1_0 l1_1 a1_2 a1_3 a1_4 t120 t123 t124 t125 t145 t148 t149 t150 = some r) ∧ Qz (kq ≤ kj24) ∧ Qz (Kd.R k66 66 wc w.heap.size (fun k_ => some k_ ≠ ((.slice Ao51 t128.length co51) : Value).ownBlock ∧ some k_ ≠ ((.slice Ao60 t135.length co60) : Value).ownBlock ∧ some k_ ≠ ((.slice Ao70 t145.length co70) : Value).ownBlock) (.slice Ao42 t120.length co42) t120) ∧ Qz (Kd.R k66 66 wc w.heap.size (fun k_ => some k_ ≠ ((.slice Ao42 t120.length co42) : Value).ownBlock ∧ some k_ ≠ ((.slice Ao60 t135.length co60) : Value).ownBlock ∧ some k_ ≠ ((.slice Ao70 t145.length co70) : Value).ownBlock) (.slice Ao51 t128.length co51) t172) ∧ Qz (Kd.R k66 66 wc w.heap.size (fun k_ => some k_ ≠ ((.slice Ao42 t120.length co42) : Value).ownBlock ∧ some k_ ≠ ((.slice Ao51 t128.length co51) : Value).ownBlock ∧ some k_ ≠ ((.slice Ao70 t145.length co70) : Value).ownBlock) (.slice Ao60 t135.length co60) t174) ∧ Qz (Kd.R (Kd.int .i64) 2 wc w.heap.size (fun _ => True) (.slice Ao66 t138.length co66) t175) ∧ Qz (Kd.R k66 66 wc w.heap.size (fun k_ => some k_ ≠ ((.slice Ao42 t120.length co42) : Value).ownBlock ∧ some k_ ≠ ((.slice Ao51 t128.length co51) : Value).ownBlock ∧ some k_ ≠ ((.slice Ao60 t135.length co60) : Value).ownBlock) (.slice Ao70 t145.length co70) t145) ∧ Qz (wc.heap[gb101]? = some (.cells #[(.slice A0_0 l0_0.length c0_0), .int .i64 a0_1, .int .i64 a0_2, .int .i64 a0_3] 24 (0, 0))) ∧ Qz (wc.heap[gb102]? = some (.cells #[(.slice A1_0 l1_0.length c1_0), (.slice A1_1 l1_1.length c1_1), .int .i64 a1_2, .int .i64 a1_3, .int .i64 a1_4] 27 (0, 0))) ∧ Qz (wc.heap[gb127]? = some (.cells #[(.slice Ao42 t120.length co42), .int .i64 t123, .int .i64 t124, .int .i64 t125] 32 (0, 0))) ∧ Qz (wc.heap[gb134]? = some (.cells #[(.slice Ao51 t128.length co51), .int .i64 t131, .int .i64 t132, .int .i64 t133] 32 (0, 0))) ∧ Qz (wc.heap[gb144]? = some (.cells #[(.slice Ao60 t135.length co60), (.slice Ao66 t138.length co66), .int .i64 t141, .int .i64 t142, .int .i64 t143] 37 (0, 0))) ∧ Qz (wc.heap[gb152]? = some (.cells #[(.slice Ao70 t145.length co70), .int .i64 t148, .int .i64 t149, .int .i64 t150] 32 (0, 0))) ∧ Qz (Below w.heap.size w wc))
        case first =>
         have H := HC100.out
         clear HC100
         by_cases c123 : t173 < 0
         ·rw [if_pos c123] at H
          exact absurd H (by simp)
         ·rw [if_neg c123] at H
          have c123b0 : decide (t173 < 0) = false := decide_eq_false c123
          clear c123
          (first | rw [c123b0] | (simp only [i64_w, i32_w]; rw [c123b0]) | skip)
          replace H := Option.bind_eq_some_iff.mp H
          obtain ⟨t176, A1240, H⟩ := H
          replace H : (if t176 = true then (laws_FnExactApply.j1 kj24 t126 (t151 != t126) l0_0 a0_1 a0_2 a0_3 l1_0 l1_1 a1_2 a1_3 a1_4 t120 t123 t124 t125 t145 t148 t149 t150) else (none)) = some r := H
          have A124 := Qz.mk A1240
          clear A1240
          by_cases c125 : t176 = true
          ·subst c125
           have H1 : (laws_FnExactApply.j1 kj24 t126 (t151 != t126) l0_0 a0_1 a0_2 a0_3 l1_0 l1_1 a1_2 a1_3 a1_4 t120 t123 t124 t125 t145 t148 t149 t150) = some r := by rw [if_pos rfl] at H; exact H
           clear H
           have H := H1
           clear H1
           have H' := Qz.mk H
           clear H
           have hnb126 := NB152_101.out
           have hnc126 := NB101_152.out
           have hnb127 := NB152_102.out
           have hnc127 := NB102_152.out
           have hnb128 := NB152_127.out
           have hnc128 := NB127_152.out
           have hnb129 := NB152_134.out
           have hnc129 := NB134_152.out
           have hnb130 := NB152_144.out
           have hnc130 := NB144_152.out
           have hcz131_0 := (qa BK152.out 0).trans rfl
           have hcz131_1 := (qa BK152.out 1).trans rfl
           have hcz131_2 := (qa BK152.out 2).trans rfl
           have hcz131_3 := (qa BK152.out 3).trans rfl
           have hfz131_0 := qd BK152.out 0
           have hfz131_1 := qd BK152.out 1
           have hfz131_2 := qd BK152.out 2
           have hfz131_3 := qd BK152.out 3
           have hnb132 := NB127_101.out
           have hnc132 := NB101_127.out
           have hnb133 := NB127_102.out
           have hnc133 := NB102_127.out
           have hnb134 := NB127_134.out
           have hnc134 := NB134_127.out
           have hnb135 := NB127_144.out
           have hnc135 := NB144_127.out
           have hcz136_0 := (qa BK127.out 0).trans rfl
           have hcz136_1 := (qa BK127.out 1).trans rfl
           have hcz136_2 := (qa BK127.out 2).trans rfl
           have hcz136_3 := (qa BK127.out 3).trans rfl
           have hfz136_0 := qd BK127.out 0
           have hfz136_1 := qd BK127.out 1
           have hfz136_2 := qd BK127.out 2
           have hfz136_3 := qd BK127.out 3
           go_wp2_with (first | (go_at_call 21; (with_reducible refine (laws_eqVersion.calls kj24 _ _ t145 t148 t149 t150 _ _ t120 t123 t124 t125 true _ ?side1 ?side2 ?side3 ?side4 A124.out).mono ?_); (case side1 => repeat (first | exact (Kd.R_reads' HO_153000.out).2.2 | (with_reducible refine Kd.C_alloc ?_ _) | (with_reducible refine Kd.C_drewN ?_ _) | (with_reducible refine Kd.C_drew ?_))); (case side2 => exact (Kd.R_reads' HO_153000.out).2.1); (case side3 => repeat (first | exact (Kd.R_reads' HO_128000.out).2.2 | (with_reducible refine Kd.C_alloc ?_ _) | (with_reducible refine Kd.C_drewN ?_ _) | (with_reducible refine Kd.C_drew ?_))); (case side4 => exact (Kd.R_reads' HO_128000.out).2.1); rintro e w137 ⟨rfl, hb⟩; replace HO_128000 := Qz.mk (Kd.R_below yq89 hb); replace HO_135000 := Qz.mk (Kd.R_below yq88 hb); replace HO_145000 := Qz.mk (Kd.R_below yq87 hb); replace HO_145001 := Qz.mk (Kd.R_below yq91 hb); replace HO_153000 := Qz.mk (Kd.R_below yq86 hb); replace HO156 := Qz.mk (Kd.R_below (by (with_reducible repeat (first | apply Kd.R_alloc | apply Kd.R_drewN | apply Kd.R_drew)); exact HO156.out) hb); replace HO163 := Qz.mk (Kd.R_below (by (with_reducible repeat (first | apply Kd.R_alloc | apply Kd.R_drewN | apply Kd.R_drew)); exact HO163.out) hb); replace HO166 := Qz.mk (Kd.R_below (by (with_reducible repeat (first | apply Kd.R_alloc | apply Kd.R_drewN | apply Kd.R_drew)); exact HO166.out) hb); replace BK101 := bkbf3 BK101 yq76 hb; replace BK102 := bkbf3 BK102 yq77 hb; replace BK127 := bkbf3 BK127 yq81 hb; replace BK134 := bkbf3 BK134 yq83 hb; replace BK144 := bkbf3 BK144 yq84 hb; replace BK152 := bkbf3 BK152 yq85 hb; replace HB := Qz.mk (qj yq78 hb); (try clear hb); (try clear hk)))
           go_meet
           case rel => exact ⟨_, ((t151 != t126)), (by first | rfl | (simp; done) | (simp [*]; done)), H', ⟨by have := HJ24.out; first | omega | exact Nat.le_refl _⟩, ⟨by (with_reducible repeat (first | apply Kd.R_alloc | apply Kd.R_drewN | apply Kd.R_drew)); exact Kd.R_mono HO_128000.out (fun _ hk => ⟨hk.1, ⟨hk.2.1, hk.2.2.1⟩⟩)⟩, ⟨by (with_reducible repeat (first | apply Kd.R_alloc | apply Kd.R_drewN | apply Kd.R_drew)); exact Kd.R_mono HO_135000.out (fun _ hk => ⟨hk.1, ⟨hk.2.1, hk.2.2.1⟩⟩)⟩, ⟨by (with_reducible repeat (first | apply Kd.R_alloc | apply Kd.R_drewN | apply Kd.R_drew)); exact Kd.R_mono HO_145000.out (fun _ hk => ⟨hk.1, ⟨hk.2.1, hk.2.2.1⟩⟩)⟩, ⟨by (with_reducible repeat (first | apply Kd.R_alloc | apply Kd.R_drewN | apply Kd.R_drew)); exact Kd.R_mono HO_145001.out (fun _ hk => trivial)⟩, ⟨by (with_reducible repeat (first | apply Kd.R_alloc | apply Kd.R_drewN | apply Kd.R_drew)); exact Kd.R_mono HO_153000.out (fun _ hk => ⟨hk.1, ⟨hk.2.1, hk.2.2.1⟩⟩)⟩, ⟨by (with_reducible repeat (first | refine qf ?_ _ | refine qg ?_ | refine qe ?_ _)); exact BK101.out⟩, ⟨by (with_reducible repeat (first | refine qf ?_ _ | refine qg ?_ | refine qe ?_ _)); exact BK102.out⟩, ⟨by (with_reducible repeat (first | refine qf ?_ _ | refine qg ?_ | refine qe ?_ _)); exact BK127.out⟩, ⟨by (with_reducible repeat (first | refine qf ?_ _ | refine qg ?_ | refine qe ?_ _)); exact BK134.out⟩, ⟨by (with_reducible repeat (first | refine qf ?_ _ | refine qg ?_ | refine qe ?_ _)); exact BK144.out⟩, ⟨by (with_reducible repeat (first | refine qf ?_ _ | refine qg ?_ | refine qe ?_ _)); exact BK152.out⟩, ⟨by repeat (first | (with_reducible first | exact HB.out | apply qi | apply qb | apply qh | refine qc ?_ GE101.out | refine qc ?_ GE102.out | refine qc ?_ GE127.out | refine qc ?_ GE134.out | refine qc ?_ GE144.out | refine qc ?_ GE152.out) | exact HB.out)⟩⟩
          ·replace c125 := Bool.eq_false_iff.mpr c125
           subst c125
           have H1 : (none) = some r := by rw [if_neg (show ¬ (false = true) by decide)] at H; exact H
           clear H
           have H := H1
           clear H1
           exact absurd H (by simp)
        case rest =>
         clear HC100
         (try clear c1);(try clear c2);(try clear p2);(try clear c9);(try clear c11);(try clear c12);(try clear c13);(try clear c18);(try clear c19);(try clear c21);(try clear c22);(try clear c23);(try clear c24);(try clear c91);(try clear c94);(try clear c97);(try clear c110);(try clear c111);(try clear c112);(try clear c113);(try clear c114);(try clear c117);(try clear c118);(try clear c119);(try clear c120);(try clear c123);(try clear c123b0);(try clear c125);(try clear c126);(try clear c127);(try clear c128);(try clear c129);(try clear c130);(try clear c132);(try clear c133);(try clear c134);(try clear c135);(try clear hcz115_0);(try clear hcz115_1);(try clear hcz115_2);(try clear hcz115_3);(try clear hcz121_0);(try clear hcz121_1);(try clear hcz121_2);(try clear hcz121_3);(try clear hcz121_4);(try clear hcz131_0);(try clear hcz131_1);(try clear hcz131_2);(try clear hcz131_3);(try clear hcz136_0);(try clear hcz136_1);(try clear hcz136_2);(try clear hcz136_3);(try clear hcz65_2);(try clear hcz65_3);(try clear hcz65_4);(try clear hcz67_0);(try clear hcz67_1);(try clear hcz67_2);(try clear hcz67_3);(try clear hcz76_0);(try clear hcz76_1);(try clear hcz76_2);(try clear hcz76_3);(try clear hcz84_0);(try clear hcz84_1);(try clear hcz84_2);(try clear hcz84_3);(try clear hcz89_0);(try clear hcz89_1);(try clear hcz89_2);(try clear hcz89_3);(try clear hfz115_0);(try clear hfz115_1);(try clear hfz115_2);(try clear hfz115_3);(try clear hfz121_0);(try clear hfz121_1);(try clear hfz121_2);(try clear hfz121_3);(try clear hfz121_4);(try clear hfz131_0);(try clear hfz131_1);(try clear hfz131_2);(try clear hfz131_3);(try clear hfz136_0);(try clear hfz136_1);(try clear hfz136_2);(try clear hfz136_3);(try clear hfz48_0);(try clear hfz48_1);(try clear hfz48_2);(try clear hfz48_3);(try clear hfz55_0);(try clear hfz55_1);(try clear hfz55_2);(try clear hfz55_3);(try clear hfz57_0);(try clear hfz57_1);(try clear hfz57_2);(try clear hfz57_3);(try clear hfz57_4);(try clear hfz65_0);(try clear hfz65_1);(try clear hfz65_2);(try clear hfz65_3);(try clear hfz65_4);(try clear hfz67_0);(try clear hfz67_1);(try clear hfz67_2);(try clear hfz67_3);(try clear hfz76_0);(try clear hfz76_1);(try clear hfz76_2);(try clear hfz76_3);(try clear hfz84_0);(try clear hfz84_1);(try clear hfz84_2);(try clear hfz84_3);(try clear hfz89_0);(try clear hfz89_1);(try clear hfz89_2);(try clear hfz89_3)
         obtain ⟨kq, x82_99, rfl, HA, HJ99, HO_128000, HO_135000, HO_145000, HO_145001, HO_153000, BK101, BK102, BK127, BK134, BK144, BK152, HB⟩ := hcut
         have hl135000_99 := (Kd.R_reads' HO_135000.out).1
         rw [hl135000_99] at HO_135000
         (try simp only [hl135000_99])
         (try simp only [hl135000_99] at BK101)
         (try simp only [hl135000_99] at BK102)
         (try simp only [hl135000_99] at BK127)
         (try simp only [hl135000_99] at BK134)
         (try simp only [hl135000_99] at BK144)
         (try simp only [hl135000_99] at BK152)
         (try simp only [hl135000_99] at HO_128000)
         (try simp only [hl135000_99] at HO_145000)
         (try simp only [hl135000_99] at HO_145001)
         (try simp only [hl135000_99] at HO_153000)
         have hl145000_99 := (Kd.R_reads' HO_145000.out).1
         rw [hl145000_99] at HO_145000
         (try simp only [hl145000_99])
         (try simp only [hl145000_99] at BK101)
         (try simp only [hl145000_99] at BK102)
         (try simp only [hl145000_99] at BK127)
         (try simp only [hl145000_99] at BK134)
         (try simp only [hl145000_99] at BK144)
         (try simp only [hl145000_99] at BK152)
         (try simp only [hl145000_99] at HO_128000)
         (try simp only [hl145000_99] at HO_135000)
         (try simp only [hl145000_99] at HO_145001)
         (try simp only [hl145000_99] at HO_153000)
         have hl145001_99 := (Kd.R_reads' HO_145001.out).1
         rw [hl145001_99] at HO_145001
         (try simp only [hl145001_99])
         (try simp only [hl145001_99] at BK101)
         (try simp only [hl145001_99] at BK102)
         (try simp only [hl145001_99] at BK127)
         (try simp only [hl145001_99] at BK134)
         (try simp only [hl145001_99] at BK144)
         (try simp only [hl145001_99] at BK152)
         (try simp only [hl145001_99] at HO_128000)
         (try simp only [hl145001_99] at HO_135000)
         (try simp only [hl145001_99] at HO_145000)
         (try simp only [hl145001_99] at HO_153000)
         cases kq with
         | zero => exact absurd HA.out (by simp [laws_FnExactApply.j1])
         | succ kj99 =>
          have H := HA.out
          clear HA
          simp only [laws_FnExactApply.j1] at H
          by_cases c138 : x82_99 = true
          ·subst c138
           have H1 : (none) = some r := by rw [if_pos rfl] at H; exact H
           clear H
           have H := H1
           clear H1
           exact absurd H (by simp)
          ·replace c138 := Bool.eq_false_iff.mpr c138
           subst c138
           have H1 : ((laws_markVersion.f kj99 t145 t148 t149 t150 1).bind fun bt177 => ((laws_heldVersion.f kj99 bt177.2 t148 t149 t150 1).bind fun t179 => (if t179 < 0 then (none) else (if t179 = bt177.1 then ((laws_toVersion.f kj99 l0_0 a0_1 a0_2 a0_3).bind fun bt180 => ((laws_toEdit.f kj99 l1_0 l1_1 a1_2 a1_3 a1_4).bind fun bt186 => ((impl_Apply.f bt180.1 bt180.2.1 bt180.2.2.1 bt180.2.2.2 bt186.1 bt186.2.1 bt186.2.2.1 bt186.2.2.2.1 bt186.2.2.2.2).bind fun bt195 => ((laws_eqVersion.f kj99 bt195.1 bt195.2.1 bt195.2.2.1 bt195.2.2.2.1 t120 t123 t124 t125).bind fun t203 => (if t203 = true then (laws_FnExactApply.j2 kj99 bt177.1 (bt195.2.2.2.2 != t126) bt177.2 t148 t149 t150) else (none)))))) else (none))))) = some r := by rw [if_neg (show ¬ (false = true) by decide)] at H; exact H
           clear H
           have H := H1
           clear H1
           replace H := Option.bind_eq_some_iff.mp H
           obtain ⟨⟨t177, t178⟩, A1390, H⟩ := H
           replace H : ((laws_heldVersion.f kj99 t178 t148 t149 t150 1).bind fun t179 => (if t179 < 0 then (none) else (if t179 = t177 then ((laws_toVersion.f kj99 l0_0 a0_1 a0_2 a0_3).bind fun bt180 => ((laws_toEdit.f kj99 l1_0 l1_1 a1_2 a1_3 a1_4).bind fun bt186 => ((impl_Apply.f bt180.1 bt180.2.1 bt180.2.2.1 bt180.2.2.2 bt186.1 bt186.2.1 bt186.2.2.1 bt186.2.2.2.1 bt186.2.2.2.2).bind fun bt195 => ((laws_eqVersion.f kj99 bt195.1 bt195.2.1 bt195.2.2.1 bt195.2.2.2.1 t120 t123 t124 t125).bind fun t203 => (if t203 = true then (laws_FnExactApply.j2 kj99 t177 (bt195.2.2.2.2 != t126) t178 t148 t149 t150) else (none)))))) else (none)))) = some r := H
           have A139 := Qz.mk A1390
           clear A1390
           replace H := Option.bind_eq_some_iff.mp H
           obtain ⟨t179, A1400, H⟩ := H
           replace H : (if t179 < 0 then (none) else (if t179 = t177 then ((laws_toVersion.f kj99 l0_0 a0_1 a0_2 a0_3).bind fun bt180 => ((laws_toEdit.f kj99 l1_0 l1_1 a1_2 a1_3 a1_4).bind fun bt186 => ((impl_Apply.f bt180.1 bt180.2.1 bt180.2.2.1 bt180.2.2.2 bt186.1 bt186.2.1 bt186.2.2.1 bt186.2.2.2.1 bt186.2.2.2.2).bind fun bt195 => ((laws_eqVersion.f kj99 bt195.1 bt195.2.1 bt195.2.2.1 bt195.2.2.2.1 t120 t123 t124 t125).bind fun t203 => (if t203 = true then (laws_FnExactApply.j2 kj99 t177 (bt195.2.2.2.2 != t126) t178 t148 t149 t150) else (none)))))) else (none))) = some r := H
           have A140 := Qz.mk A1400
           clear A1400
           by_cases c141 : t179 < 0
           ·rw [if_pos c141] at H
            exact absurd H (by simp)
           ·rw [if_neg c141] at H
            have c141b0 : decide (t179 < 0) = false := decide_eq_false c141
            clear c141
            by_cases c142 : t179 = t177
            ·rw [if_pos c142] at H
             have c142b0 : (t179 == t177) = true := beq_iff_eq.mpr c142
             have c142b1 : (t179 != t177) = false := bne_eq_false_iff_eq.mpr c142
             clear c142
             replace H := Option.bind_eq_some_iff.mp H
             obtain ⟨⟨t180, t183, t184, t185⟩, A1430, H⟩ := H
             replace H : ((laws_toEdit.f kj99 l1_0 l1_1 a1_2 a1_3 a1_4).bind fun bt186 => ((impl_Apply.f t180 t183 t184 t185 bt186.1 bt186.2.1 bt186.2.2.1 bt186.2.2.2.1 bt186.2.2.2.2).bind fun bt195 => ((laws_eqVersion.f kj99 bt195.1 bt195.2.1 bt195.2.2.1 bt195.2.2.2.1 t120 t123 t124 t125).bind fun t203 => (if t203 = true then (laws_FnExactApply.j2 kj99 t177 (bt195.2.2.2.2 != t126) t178 t148 t149 t150) else (none))))) = some r := H
             have A143 := Qz.mk A1430
             clear A1430
             replace H := Option.bind_eq_some_iff.mp H
             obtain ⟨⟨t186, t189, t192, t193, t194⟩, A1440, H⟩ := H
             replace H : ((impl_Apply.f t180 t183 t184 t185 t186 t189 t192 t193 t194).bind fun bt195 => ((laws_eqVersion.f kj99 bt195.1 bt195.2.1 bt195.2.2.1 bt195.2.2.2.1 t120 t123 t124 t125).bind fun t203 => (if t203 = true then (laws_FnExactApply.j2 kj99 t177 (bt195.2.2.2.2 != t126) t178 t148 t149 t150) else (none)))) = some r := H
             have A144 := Qz.mk A1440
             clear A1440
             replace H := Option.bind_eq_some_iff.mp H
             obtain ⟨⟨t195, t198, t199, t200, t201⟩, A1450, H⟩ := H
             replace H : ((laws_eqVersion.f kj99 t195 t198 t199 t200 t120 t123 t124 t125).bind fun t203 => (if t203 = true then (laws_FnExactApply.j2 kj99 t177 (t201 != t126) t178 t148 t149 t150) else (none))) = some r := H
             have A145 := Qz.mk A1450
             clear A1450
             have HC146 := Qz.mk H
             clear H
             have hnb147 := NB152_101.out
             have hnc147 := NB101_152.out
             have hnb148 := NB152_102.out
             have hnc148 := NB102_152.out
             have hnb149 := NB152_127.out
             have hnc149 := NB127_152.out
             have hnb150 := NB152_134.out
             have hnc150 := NB134_152.out
             have hnb151 := NB152_144.out
             have hnc151 := NB144_152.out
             have hcz152_0 := (qa BK152.out 0).trans rfl
             have hcz152_1 := (qa BK152.out 1).trans rfl
             have hcz152_2 := (qa BK152.out 2).trans rfl
             have hcz152_3 := (qa BK152.out 3).trans rfl
             have hfz152_0 := qd BK152.out 0
             have hfz152_1 := qd BK152.out 1
             have hfz152_2 := qd BK152.out 2
             have hfz152_3 := qd BK152.out 3
             try go_wp2_with (first | ((with_reducible refine qo (f := 23) rfl ?_); refine goesL_ (some 85) rfl rfl Try.func23 (by kernel_rfl) rfl #[.agg #[.slice Ao70 t145.length co70, .int .i64 t148, .int .i64 t149, .int .i64 t150], .int .i64 1] rfl yq79 ?_; (with_reducible refine (laws_markVersion.calls kj99 (fun k_ => some k_ = (.slice Ao70 t145.length co70 : Value).ownBlock) (.slice Ao70 t145.length co70) t145 t148 t149 t150 1 t177 t178 w _ ?side1 ?side2 A139.out).mono ?_); (case side1 => exact yq78); (case side2 => exact Kd.R_tight rfl HO_153000.out); rintro e w153 ⟨rfl, hy0, hb, hkp⟩; refine ⟨_, rfl, ?_⟩; replace HO_128000 := Qz.mk (Kd.R_mono (ok' := fun k_ => some k_ ≠ (.slice Ao51 t172.length co51 : Value).ownBlock ∧ some k_ ≠ (.slice Ao60 t174.length co60 : Value).ownBlock ∧ some k_ ≠ (.slice Ao70 t145.length co70 : Value).ownBlock) (Kd.R_keptB (HO_128000.out) hkp (fun k_ hk_ hs_ => (hk_.2.2) hs_)) (fun k_ hk_ => ⟨hk_.1.1, hk_.1.2.1, hk_.1.2.2⟩)); replace HO_135000 := Qz.mk (Kd.R_mono (ok' := fun k_ => some k_ ≠ (.slice Ao42 t120.length co42 : Value).ownBlock ∧ some k_ ≠ (.slice Ao60 t174.length co60 : Value).ownBlock ∧ some k_ ≠ (.slice Ao70 t145.length co70 : Value).ownBlock) (Kd.R_keptB (HO_135000.out) hkp (fun k_ hk_ hs_ => (hk_.2.2) hs_)) (fun k_ hk_ => ⟨hk_.1.1, hk_.1.2.1, hk_.1.2.2⟩)); replace HO_145000 := Qz.mk (Kd.R_mono (ok' := fun k_ => some k_ ≠ (.slice Ao42 t120.length co42 : Value).ownBlock ∧ some k_ ≠ (.slice Ao51 t172.length co51 : Value).ownBlock ∧ some k_ ≠ (.slice Ao70 t145.length co70 : Value).ownBlock) (Kd.R_keptB (HO_145000.out) hkp (fun k_ hk_ hs_ => (hk_.2.2) hs_)) (fun k_ hk_ => ⟨hk_.1.1, hk_.1.2.1, hk_.1.2.2⟩)); replace HO_145001 := Qz.mk (Kd.R_mono (ok' := fun k_ => True) (Kd.R_keptB ((Kd.R_apart' HO_145001.out (Kd.R_typed HO_153000.out) (by decide))) hkp (fun k_ hk_ hs_ => (hk_.2) hs_)) (fun k_ hk_ => trivial)); replace BK101 := Qz.mk (blk_kept yq76 hkp (fun hs_ => (fun e_ => (Kd.R_ne HO_153000.out BK101.out (by decide)) e_) hs_)); replace BK102 := Qz.mk (blk_kept yq77 hkp (fun hs_ => (fun e_ => (Kd.R_ne HO_153000.out BK102.out (by decide)) e_) hs_)); replace BK127 := Qz.mk (blk_kept yq81 hkp (fun hs_ => (fun e_ => (Kd.R_ne HO_153000.out BK127.out (by decide)) e_) hs_)); replace BK134 := Qz.mk (blk_kept yq83 hkp (fun hs_ => (fun e_ => (Kd.R_ne HO_153000.out BK134.out (by decide)) e_) hs_)); replace BK144 := Qz.mk (blk_kept yq84 hkp (fun hs_ => (fun e_ => (Kd.R_ne HO_153000.out BK144.out (by decide)) e_) hs_)); replace BK152 := Qz.mk (blk_kept yq85 hkp (fun hs_ => (fun e_ => (Kd.R_ne HO_153000.out BK152.out (by decide)) e_) hs_)); replace HO_153000 := Qz.mk (Kd.R_reok rfl hy0 (fun k_ e_ => HO_153000.out.1 k_ e_)); replace HB := Qz.mk (hb); (try clear hb); (try clear hkp); (try clear hy0); have hcz154_0 := (qa BK152.out 0).trans rfl; have hcz154_1 := (qa BK152.out 1).trans rfl; have hcz154_2 := (qa BK152.out 2).trans rfl; have hcz154_3 := (qa BK152.out 3).trans rfl; have hfz154_0 := qd BK152.out 0; have hfz154_1 := qd BK152.out 1; have hfz154_2 := qd BK152.out 2; have hfz154_3 := qd BK152.out 3) | ((with_reducible refine qo (f := 25) rfl ?_); refine goesL_ (some 88) rfl rfl Try.func25 (by kernel_rfl) rfl #[.agg #[.slice Ao70 t178.length co70, .int .i64 t148, .int .i64 t149, .int .i64 t150], .int .i64 1] rfl (by (try simp only [List.map_toArray, List.map_cons, List.map_nil]); first | done | (rw [show t178.length = t145.length from (Kd.R_reads' HO_153000.out).1.symm] <;> rfl) | rfl | (simp only [List.length_drop, List.length_take]; rfl) | (rw [IntWalk.u64_in _ (by omega)] <;> rfl)) ?_; (with_reducible refine (laws_heldVersion.calls kj99 _ _ t178 t148 t149 t150 1 t179 _ ?side1 ?side2 A140.out).mono ?_); (case side1 => repeat (first | exact (Kd.R_reads' HO_153000.out).2.2 | (with_reducible refine Kd.C_alloc ?_ _) | (with_reducible refine Kd.C_drewN ?_ _) | (with_reducible refine Kd.C_drew ?_))); (case side2 => rw [show t178.length = t145.length from (Kd.R_reads' HO_153000.out).1.symm]; exact (Kd.R_reads' HO_153000.out).2.1); rintro e w155 ⟨rfl, hb⟩; refine ⟨_, rfl, ?_⟩; replace HO_128000 := Qz.mk (Kd.R_below yq89 hb); replace HO_135000 := Qz.mk (Kd.R_below yq88 hb); replace HO_145000 := Qz.mk (Kd.R_below yq87 hb); replace HO_145001 := Qz.mk (Kd.R_below yq91 hb); replace HO_153000 := Qz.mk (Kd.R_below yq86 hb); replace BK101 := bkbf3 BK101 yq76 hb; replace BK102 := bkbf3 BK102 yq77 hb; replace BK127 := bkbf3 BK127 yq81 hb; replace BK134 := bkbf3 BK134 yq83 hb; replace BK144 := bkbf3 BK144 yq84 hb; replace BK152 := bkbf3 BK152 yq85 hb; replace HB := Qz.mk (qj yq78 hb); (try clear hb); (try clear hk)))
             replace HO_128000 := Qz.mk (Kd.R_drew HO_128000.out)
             replace HO_135000 := Qz.mk (Kd.R_drew HO_135000.out)
             replace HO_145000 := Qz.mk (Kd.R_drew HO_145000.out)
             replace HO_145001 := Qz.mk (Kd.R_drew HO_145001.out)
             replace HO_153000 := Qz.mk (Kd.R_drew HO_153000.out)
             replace BK101 := Qz.mk (qg BK101.out)
             replace BK102 := Qz.mk (qg BK102.out)
             replace BK127 := Qz.mk (qg BK127.out)
             replace BK134 := Qz.mk (qg BK134.out)
             replace BK144 := Qz.mk (qg BK144.out)
             replace BK152 := Qz.mk (qg BK152.out)
             replace HB := Qz.mk (qh HB.out)
             refine start_ (n := 11) (S := fun w' => w'.cell? ⟨gb101, 0, none⟩ = some (.slice A0_0 l0_0.length c0_0) ∧ w'.cell? ⟨gb101, 1, none⟩ = some (.int .i64 a0_1) ∧ w'.cell? ⟨gb101, 2, none⟩ = some (.int .i64 a0_2) ∧ w'.cell? ⟨gb101, 3, none⟩ = some (.int .i64 a0_3) ∧ w'.cell? ⟨gb102, 0, none⟩ = some (.slice A1_0 l1_0.length c1_0) ∧ w'.cell? ⟨gb102, 1, none⟩ = some (.slice A1_1 l1_1.length c1_1) ∧ w'.cell? ⟨gb102, 2, none⟩ = some (.int .i64 a1_2) ∧ w'.cell? ⟨gb102, 3, none⟩ = some (.int .i64 a1_3) ∧ w'.cell? ⟨gb102, 4, none⟩ = some (.int .i64 a1_4)) (ds := []) bq0 (by kernel_rfl) rfl rfl ⟨(qa BK101.out 0).trans rfl, (qa BK101.out 1).trans rfl, (qa BK101.out 2).trans rfl, (qa BK101.out 3).trans rfl, (qa BK102.out 0).trans rfl, (qa BK102.out 1).trans rfl, (qa BK102.out 2).trans rfl, (qa BK102.out 3).trans rfl, (qa BK102.out 4).trans rfl⟩ (fun hHeld => ?_); refine with_tabW laws_FnExactApply.tab31 laws_FnExactApply.bits31 (fun HT_ HW_ => ?_)
             generalize w155.drew = w156 at HO_128000 HO_135000 HO_145000 HO_145001 HO_153000 BK101 BK102 BK127 BK134 BK144 BK152 HB hHeld ⊢
             refine take_ (i := 0) (N := some 95) (v := ?_) (a' := ?_) bq3 rfl rfl (take_ofW HT_.out HW_.out (by kernel_rfl)) (fun _ _ _ h => h) (Or.inl ⟨by rfl, ?_⟩) hHeld ?_ ?_
             rotate_left
             ·rintro w' ⟨s0, s1, s2, s3, s4, s5, s6, s7, s8⟩
              go_simp
              with_reducible rfl
             rotate_left
             ·simp only [Act.put, sq1, sq2, sq3, i64_w, i32_w]
              rfl
             refine take_ (i := 2) (N := some 97) (v := ?_) (a' := ?_) bq6 rfl rfl (take_ofW HT_.out HW_.out (by kernel_rfl)) (fun _ _ _ h => h) (Or.inl ⟨by rfl, ?_⟩) hHeld ?_ ?_
             rotate_left
             ·rintro w' ⟨s0, s1, s2, s3, s4, s5, s6, s7, s8⟩
              go_simp
              with_reducible rfl
             rotate_left
             ·simp only [Act.put, sq1, sq2, sq3, i64_w, i32_w]
              rfl
             refine join_ (σ := Value × Value × Value × Value × Nat) 2 bq32 (fun s_ => [(96, .agg #[s_.1, .int .i64 t183, .int .i64 t184, .int .i64 t185]), (98, .agg #[s_.2.1, s_.2.2.1, .int .i64 t192, .int .i64 t193, .int .i64 t194]), (99, .tuple #[.agg #[s_.2.2.2.1, .int .i64 t198, .int .i64 t199, .int .i64 t200], .bool t201]), (15, .pointer (some ⟨s_.2.2.2.2, 0, none⟩)), (94, .tuple #[.agg #[s_.2.2.2.1, .int .i64 t198, .int .i64 t199, .int .i64 t200], .bool t201]), (100, .agg #[s_.2.2.2.1, .int .i64 t198, .int .i64 t199, .int .i64 t200]), (101, .bool t201)]) (fun s_ w' => (w'.cell? ⟨gb101, 0, none⟩ = some (.slice A0_0 l0_0.length c0_0) ∧ w'.cell? ⟨gb101, 1, none⟩ = some (.int .i64 a0_1) ∧ w'.cell? ⟨gb101, 2, none⟩ = some (.int .i64 a0_2) ∧ w'.cell? ⟨gb101, 3, none⟩ = some (.int .i64 a0_3) ∧ w'.cell? ⟨gb102, 0, none⟩ = some (.slice A1_0 l1_0.length c1_0) ∧ w'.cell? ⟨gb102, 1, none⟩ = some (.slice A1_1 l1_1.length c1_1) ∧ w'.cell? ⟨gb102, 2, none⟩ = some (.int .i64 a1_2) ∧ w'.cell? ⟨gb102, 3, none⟩ = some (.int .i64 a1_3) ∧ w'.cell? ⟨gb102, 4, none⟩ = some (.int .i64 a1_4)) ∧ (Kd.R k66 66 w' w.heap.size (fun k_ => some k_ ≠ (s_.2.1 : Value).ownBlock ∧ some k_ ≠ (s_.2.2.2.1 : Value).ownBlock ∧ some k_ ≠ (.slice Ao42 t120.length co42 : Value).ownBlock ∧ some k_ ≠ (.slice Ao51 t172.length co51 : Value).ownBlock ∧ some k_ ≠ (.slice Ao60 t174.length co60 : Value).ownBlock ∧ some k_ ≠ (.slice Ao70 t145.length co70 : Value).ownBlock) s_.1 t180) ∧ (Kd.R k66 66 w' w.heap.size (fun k_ => some k_ ≠ (s_.1 : Value).ownBlock ∧ some k_ ≠ (s_.2.2.2.1 : Value).ownBlock ∧ some k_ ≠ (.slice Ao42 t120.length co42 : Value).ownBlock ∧ some k_ ≠ (.slice Ao51 t172.length co51 : Value).ownBlock ∧ some k_ ≠ (.slice Ao60 t174.length co60 : Value).ownBlock ∧ some k_ ≠ (.slice Ao70 t145.length co70 : Value).ownBlock) s_.2.1 t186) ∧ (Kd.R (Kd.int .i64) 2 w' w.heap.size (fun k_ => some k_ ≠ (.slice Ao66 t175.length co66 : Value).ownBlock) s_.2.2.1 t189) ∧ (Kd.R k66 66 w' w.heap.size (fun k_ => some k_ ≠ (s_.1 : Value).ownBlock ∧ some k_ ≠ (s_.2.1 : Value).ownBlock ∧ some k_ ≠ (.slice Ao42 t120.length co42 : Value).ownBlock ∧ some k_ ≠ (.slice Ao51 t172.length co51 : Value).ownBlock ∧ some k_ ≠ (.slice Ao60 t174.length co60 : Value).ownBlock ∧ some k_ ≠ (.slice Ao70 t145.length co70 : Value).ownBlock) s_.2.2.2.1 t195) ∧ (Kd.R k66 66 w' w.heap.size (fun k_ => some k_ ≠ (s_.1 : Value).ownBlock ∧ some k_ ≠ (s_.2.1 : Value).ownBlock ∧ some k_ ≠ (s_.2.2.2.1 : Value).ownBlock ∧ some k_ ≠ (.slice Ao51 t172.length co51 : Value).ownBlock ∧ some k_ ≠ (.slice Ao60 t174.length co60 : Value).ownBlock ∧ some k_ ≠ (.slice Ao70 t145.length co70 : Value).ownBlock) (.slice Ao42 t120.length co42) t120) ∧ (Kd.R k66 66 w' w.heap.size (fun k_ => some k_ ≠ (s_.1 : Value).ownBlock ∧ some k_ ≠ (s_.2.1 : Value).ownBlock ∧ some k_ ≠ (s_.2.2.2.1 : Value).ownBlock ∧ some k_ ≠ (.slice Ao42 t120.length co42 : Value).ownBlock ∧ some k_ ≠ (.slice Ao60 t174.length co60 : Value).ownBlock ∧ some k_ ≠ (.slice Ao70 t145.length co70 : Value).ownBlock) (.slice Ao51 t172.length co51) t172) ∧ (Kd.R k66 66 w' w.heap.size (fun k_ => some k_ ≠ (s_.1 : Value).ownBlock ∧ some k_ ≠ (s_.2.1 : Value).ownBlock ∧ some k_ ≠ (s_.2.2.2.1 : Value).ownBlock ∧ some k_ ≠ (.slice Ao42 t120.length co42 : Value).ownBlock ∧ some k_ ≠ (.slice Ao51 t172.length co51 : Value).ownBlock ∧ some k_ ≠ (.slice Ao70 t145.length co70 : Value).ownBlock) (.slice Ao60 t174.length co60) t174) ∧ (Kd.R (Kd.int .i64) 2 w' w.heap.size (fun k_ => some k_ ≠ (s_.2.2.1 : Value).ownBlock) (.slice Ao66 t175.length co66) t175) ∧ (Kd.R k66 66 w' w.heap.size (fun k_ => some k_ ≠ (s_.1 : Value).ownBlock ∧ some k_ ≠ (s_.2.1 : Value).ownBlock ∧ some k_ ≠ (s_.2.2.2.1 : Value).ownBlock ∧ some k_ ≠ (.slice Ao42 t120.length co42 : Value).ownBlock ∧ some k_ ≠ (.slice Ao51 t172.length co51 : Value).ownBlock ∧ some k_ ≠ (.slice Ao60 t174.length co60 : Value).ownBlock) (.slice Ao70 t145.length co70) t178) ∧ (w'.heap[gb101]? = some (.cells #[.slice A0_0 l0_0.length c0_0, .int .i64 a0_1, .int .i64 a0_2, .int .i64 a0_3] 24 (0, 0))) ∧ (w'.heap[gb102]? = some (.cells #[.slice A1_0 l1_0.length c1_0, .slice A1_1 l1_1.length c1_1, .int .i64 a1_2, .int .i64 a1_3, .int .i64 a1_4] 27 (0, 0))) ∧ (w'.heap[gb127]? = some (.cells #[.slice Ao42 t120.length co42, .int .i64 t123, .int .i64 t124, .int .i64 t125] 32 (0, 0))) ∧ (w'.heap[gb134]? = some (.cells #[.slice Ao51 t172.length co51, .int .i64 t131, .int .i64 t132, .int .i64 t133] 32 (0, 0))) ∧ (w'.heap[gb144]? = some (.cells #[.slice Ao60 t174.length co60, .slice Ao66 t175.length co66, .int .i64 t141, .int .i64 t142, .int .i64 t143] 37 (0, 0))) ∧ (w'.heap[gb152]? = some (.cells #[.slice Ao70 t145.length co70, .int .i64 t148, .int .i64 t149, .int .i64 t150] 32 (0, 0))) ∧ (w'.heap[s_.2.2.2.2]? = some (.cells #[.slice none 0 0, .int .i64 0, .int .i64 0, .int .i64 0] 32 (0, 0))) ∧ (w.heap.size ≤ s_.2.2.2.2) ∧ (w.heap.size ≤ s_.2.2.2.2) ∧ (gb101 ≠ s_.2.2.2.2) ∧ (s_.2.2.2.2 ≠ gb101) ∧ (gb102 ≠ s_.2.2.2.2) ∧ (s_.2.2.2.2 ≠ gb102) ∧ (gb127 ≠ s_.2.2.2.2) ∧ (s_.2.2.2.2 ≠ gb127) ∧ (gb134 ≠ s_.2.2.2.2) ∧ (s_.2.2.2.2 ≠ gb134) ∧ (gb144 ≠ s_.2.2.2.2) ∧ (s_.2.2.2.2 ≠ gb144) ∧ (gb152 ≠ s_.2.2.2.2) ∧ (s_.2.2.2.2 ≠ gb152) ∧ (Below w.heap.size w w')) ?_ ?_
             rotate_left
             ·intro hCont
              refine two_ (i := 1) (j := 8) (Ni := some 96) (Nj := some 15) bq10 bq7 rfl rfl rfl rfl (two_of HT_.out (by kernel_rfl)) (by decide) (by decide) (fun K hK => ?_) (fun K hK => ?_)
              ·skip
               refine goes_ Try.func18 (by kernel_rfl) rfl #[.agg #[.slice A0_0 l0_0.length c0_0, .int .i64 a0_1, .int .i64 a0_2, .int .i64 a0_3]] (by rfl) rfl rfl yq79 ?_
               with_reducible refine (laws_toVersion.calls kj99 _ _ l0_0 a0_1 a0_2 a0_3 t180 t183 t184 t185 _ ?side1 ?side2 A143.out).mono ?_
               (case side1 => exact yq102)
               (case side2 => exact HC0_0.out)
               rintro e w157 ⟨v181, rfl, ho0, hb⟩
               refine ⟨_, rfl, ?_⟩
               replace HO_145001 := Qz.mk (Kd.R_below yq91 hb)
               have HO182 := Qz.mk (Kd.R_lower (Kd.R_new' (Kd.R_new' (Kd.R_new' (Kd.R_new' ho0 (Kd.R_lt yq89)) (Kd.R_lt yq88)) (Kd.R_lt yq87)) (Kd.R_lt yq86)) (ql yq78))
               replace HO_128000 := Qz.mk (Kd.R_elder' yq89 (Kd.R_base ho0) hb)
               replace HO_135000 := Qz.mk (Kd.R_elder' yq88 (Kd.R_base ho0) hb)
               replace HO_145000 := Qz.mk (Kd.R_elder' yq87 (Kd.R_base ho0) hb)
               replace HO_153000 := Qz.mk (Kd.R_elder' yq86 (Kd.R_base ho0) hb)
               replace BK101 := bkbf3 BK101 yq76 hb
               replace BK102 := bkbf3 BK102 yq77 hb
               replace BK127 := bkbf3 BK127 yq81 hb
               replace BK134 := bkbf3 BK134 yq83 hb
               replace BK144 := bkbf3 BK144 yq84 hb
               replace BK152 := bkbf3 BK152 yq85 hb
               replace HB := Qz.mk (qj yq78 hb)
               (try clear hb)
               (try clear hk)
               (try clear ho0)
               refine hK.out _ _ ⟨(qa BK101.out 0).trans rfl, (qa BK101.out 1).trans rfl, (qa BK101.out 2).trans rfl, (qa BK101.out 3).trans rfl, (qa BK102.out 0).trans rfl, (qa BK102.out 1).trans rfl, (qa BK102.out 2).trans rfl, (qa BK102.out 3).trans rfl, (qa BK102.out 4).trans rfl⟩ (fun hHeld => ?_)
               clear hK K
               refine norm_ (a' := ?_) ?_ ?_
               rotate_left
               ·show Act.put _ (some 96) _ = _
                simp only [Act.put, sq1, sq2, sq3, i64_w, i32_w]
                rfl
               refine two_ (i := 3) (j := 8) (Ni := some 98) (Nj := some 15) bq17 bq12 rfl rfl rfl rfl (two_of HT_.out (by kernel_rfl)) (by decide) (by decide) (fun K hK => ?_) (fun K hK => ?_)
               ·skip
                refine goes_ Try.func19 (by kernel_rfl) rfl #[.agg #[.slice A1_0 l1_0.length c1_0, .slice A1_1 l1_1.length c1_1, .int .i64 a1_2, .int .i64 a1_3, .int .i64 a1_4]] (by rfl) rfl rfl yq79 ?_
                with_reducible refine (laws_toEdit.calls kj99 _ _ l1_0 _ _ l1_1 a1_2 a1_3 a1_4 t186 t189 t192 t193 t194 _ ?side1 ?side2 ?side3 ?side4 A144.out).mono ?_
                (case side1 => exact yq99)
                (case side2 => exact HC1_0.out)
                (case side3 => exact yq98)
                (case side4 => exact HC1_1.out)
                rintro e w158 ⟨v187, v190, rfl, ho0, ho1, hb⟩
                refine ⟨_, rfl, ?_⟩
                have HO188 := Qz.mk (Kd.R_lower (Kd.R_new' (Kd.R_new' (Kd.R_new' (Kd.R_new' (Kd.R_new' ho0 (Kd.R_lt yq89)) (Kd.R_lt yq88)) (Kd.R_lt yq87)) (Kd.R_lt yq86)) (Kd.R_lt yq97)) (ql yq78))
                replace HO_128000 := Qz.mk (Kd.R_elder' yq89 (Kd.R_base ho0) hb)
                replace HO_135000 := Qz.mk (Kd.R_elder' yq88 (Kd.R_base ho0) hb)
                replace HO_145000 := Qz.mk (Kd.R_elder' yq87 (Kd.R_base ho0) hb)
                replace HO_153000 := Qz.mk (Kd.R_elder' yq86 (Kd.R_base ho0) hb)
                replace HO182 := Qz.mk (Kd.R_elder' yq97 (Kd.R_base ho0) hb)
                have HO191 := Qz.mk (Kd.R_lower (Kd.R_new' ho1 (Kd.R_lt yq91)) (ql yq78))
                replace HO_145001 := Qz.mk (Kd.R_elder' yq91 (Kd.R_base ho1) hb)
                replace BK101 := bkbf3 BK101 yq76 hb
                replace BK102 := bkbf3 BK102 yq77 hb
                replace BK127 := bkbf3 BK127 yq81 hb
                replace BK134 := bkbf3 BK134 yq83 hb
                replace BK144 := bkbf3 BK144 yq84 hb
                replace BK152 := bkbf3 BK152 yq85 hb
                replace HB := Qz.mk (qj yq78 hb)
                (try clear hb)
                (try clear hk)
                (try clear ho0)
                (try clear ho1)
                obtain ⟨Ao159, co159, eo159⟩ := Kd.R_slice HO182.out
                (first | subst eo159 | (injection eo159 with f1_ f2_ f3_; have f4_ := f1_.symm; have f5_ := f3_.symm; clear f1_ f2_ f3_; subst f4_; subst f5_))
                obtain ⟨Ao160, co160, eo160⟩ := Kd.R_slice HO188.out
                (first | subst eo160 | (injection eo160 with f1_ f2_ f3_; have f4_ := f1_.symm; have f5_ := f3_.symm; clear f1_ f2_ f3_; subst f4_; subst f5_))
                obtain ⟨Ao161, co161, eo161⟩ := Kd.R_slice HO191.out
                (first | subst eo161 | (injection eo161 with f1_ f2_ f3_; have f4_ := f1_.symm; have f5_ := f3_.symm; clear f1_ f2_ f3_; subst f4_; subst f5_))
                refine hK.out _ _ ⟨(qa BK101.out 0).trans rfl, (qa BK101.out 1).trans rfl, (qa BK101.out 2).trans rfl, (qa BK101.out 3).trans rfl, (qa BK102.out 0).trans rfl, (qa BK102.out 1).trans rfl, (qa BK102.out 2).trans rfl, (qa BK102.out 3).trans rfl, (qa BK102.out 4).trans rfl⟩ (fun hHeld => ?_)
                clear hK K
                refine norm_ (a' := ?_) ?_ ?_
                rotate_left
                ·show Act.put _ (some 98) _ = _
                 simp only [Act.put, sq1, sq2, sq3, i64_w, i32_w]
                 rfl
                refine two_ (i := 4) (j := 8) (Ni := some 99) (Nj := some 15) bq21 bq18 rfl rfl rfl rfl (two_of HT_.out (by kernel_rfl)) (by decide) (by decide) (fun K hK => ?_) (fun K hK => ?_)
                ·skip
                 refine goes_ Try.func20 (by kernel_rfl) rfl #[.agg #[.slice Ao159 t180.length co159, .int .i64 t183, .int .i64 t184, .int .i64 t185], .agg #[.slice Ao160 t186.length co160, .slice Ao161 t189.length co161, .int .i64 t192, .int .i64 t193, .int .i64 t194]] (by rfl) rfl rfl yq79 ?_
                 with_reducible refine (impl_Apply.calls _ _ t180 t183 t184 t185 _ _ t186 _ _ t189 t192 t193 t194 t195 t198 t199 t200 t201 _ ?side1 ?side2 ?side3 ?side4 ?side5 ?side6 A145.out).mono ?_
                 (case side1 => exact yq128)
                 (case side2 => exact (Kd.R_reads' HO182.out).2.1)
                 (case side3 => exact yq127)
                 (case side4 => exact (Kd.R_reads' HO188.out).2.1)
                 (case side5 => exact yq126)
                 (case side6 => exact (Kd.R_reads' HO191.out).2.1)
                 rintro e w162 ⟨v196, rfl, ho0, hb⟩
                 refine ⟨_, rfl, ?_⟩
                 replace HO_145001 := Qz.mk (Kd.R_below yq91 hb)
                 replace HO191 := Qz.mk (Kd.R_below yq132 hb)
                 have HO197 := Qz.mk (Kd.R_lower (Kd.R_new' (Kd.R_new' (Kd.R_new' (Kd.R_new' (Kd.R_new' (Kd.R_new' ho0 (Kd.R_lt yq89)) (Kd.R_lt yq88)) (Kd.R_lt yq87)) (Kd.R_lt yq86)) (Kd.R_lt yq97)) (Kd.R_lt yq107)) (ql yq78))
                 replace HO_128000 := Qz.mk (Kd.R_elder' yq89 (Kd.R_base ho0) hb)
                 replace HO_135000 := Qz.mk (Kd.R_elder' yq88 (Kd.R_base ho0) hb)
                 replace HO_145000 := Qz.mk (Kd.R_elder' yq87 (Kd.R_base ho0) hb)
                 replace HO_153000 := Qz.mk (Kd.R_elder' yq86 (Kd.R_base ho0) hb)
                 replace HO182 := Qz.mk (Kd.R_elder' yq97 (Kd.R_base ho0) hb)
                 replace HO188 := Qz.mk (Kd.R_elder' yq107 (Kd.R_base ho0) hb)
                 replace BK101 := bkbf3 BK101 yq76 hb
                 replace BK102 := bkbf3 BK102 yq77 hb
                 replace BK127 := bkbf3 BK127 yq81 hb
                 replace BK134 := bkbf3 BK134 yq83 hb
                 replace BK144 := bkbf3 BK144 yq84 hb
                 replace BK152 := bkbf3 BK152 yq85 hb
                 replace HB := Qz.mk (qj yq78 hb)
                 (try clear hb)
                 (try clear hk)
                 (try clear ho0)
                 refine hK.out _ _ ⟨(qa BK101.out 0).trans rfl, (qa BK101.out 1).trans rfl, (qa BK101.out 2).trans rfl, (qa BK101.out 3).trans rfl, (qa BK102.out 0).trans rfl, (qa BK102.out 1).trans rfl, (qa BK102.out 2).trans rfl, (qa BK102.out 3).trans rfl, (qa BK102.out 4).trans rfl⟩ (fun hHeld => ?_)
                 clear hK K
                 refine norm_ (a' := ?_) ?_ ?_
                 rotate_left
                 ·show Act.put _ (some 99) _ = _
                  simp only [Act.put, sq1, sq2, sq3, i64_w, i32_w]
                  rfl
                 refine pure_ (i := 5) (N := some 94) (v := ?_) (a' := ?_) bq23 rfl rfl (any_of HT_.out (by kernel_rfl)) (fun _ _ _ h => h) (Or.inl ⟨by rfl, ?_⟩) ?_ ?_
                 rotate_left
                 ·intro w'
                  go_simp
                  with_reducible rfl
                 rotate_left
                 ·simp only [Act.put, sq1, sq2, sq3, i64_w, i32_w]
                  rfl
                 refine pure_ (i := 6) (N := some 100) (v := ?_) (a' := ?_) bq26 rfl rfl (any_of HT_.out (by kernel_rfl)) (fun _ _ _ h => h) (Or.inl ⟨by rfl, ?_⟩) ?_ ?_
                 rotate_left
                 ·intro w'
                  go_simp
                  with_reducible rfl
                 rotate_left
                 ·simp only [Act.put, sq1, sq2, sq3, i64_w, i32_w]
                  rfl
                 refine pure_ (i := 7) (N := some 101) (v := ?_) (a' := ?_) bq30 rfl rfl (any_of HT_.out (by kernel_rfl)) (fun _ _ _ h => h) (Or.inl ⟨by rfl, ?_⟩) ?_ ?_
                 rotate_left
                 ·intro w'
                  go_simp
                  with_reducible rfl
                 rotate_left
                 ·simp only [Act.put, sq1, sq2, sq3, i64_w, i32_w]
                  rfl
                 refine one_ (i := 8) (N := some 15) bq32 rfl rfl (one_of HT_.out (by kernel_rfl)) (by decide) (fun K hK => ?_)
                 refine box_step ?hg (N := 15) ?hd (cs := #[.slice none 0 0, .int .i64 0, .int .i64 0, .int .i64 0]) (t := 32) ?hr ?_; (case hd => rfl); (case hg => rfl); (case hr => exact yq119)
                 intro gb202 hg w163 hbox hb
                 replace HO_128000 := Qz.mk (Kd.R_below yq89 hb)
                 replace HO_135000 := Qz.mk (Kd.R_below yq88 hb)
                 replace HO_145000 := Qz.mk (Kd.R_below yq87 hb)
                 replace HO_145001 := Qz.mk (Kd.R_below yq91 hb)
                 replace HO_153000 := Qz.mk (Kd.R_below yq86 hb)
                 replace HO182 := Qz.mk (Kd.R_below yq97 hb)
                 replace HO188 := Qz.mk (Kd.R_below yq107 hb)
                 replace HO191 := Qz.mk (Kd.R_below yq132 hb)
                 replace HO197 := Qz.mk (Kd.R_below (by (with_reducible repeat (first | apply Kd.R_alloc | apply Kd.R_drewN | apply Kd.R_drew)); exact HO197.out) hb)
                 have BK202 := Qz.mk (hbox)
                 have GW202 := Qz.mk ((by rw [hg]; exact (ql yq78) : w.heap.size ≤ gb202))
                 have GE202 := GW202
                 replace HB := Qz.mk (qj yq78 hb)
                 have NB101_202 := Qz.mk ((yq92 : gb101 ≠ gb202))
                 have NB202_101 := Qz.mk ((yq93 : gb202 ≠ gb101))
                 replace BK101 := bkbf3 BK101 yq76 hb
                 have NB102_202 := Qz.mk ((yq95 : gb102 ≠ gb202))
                 have NB202_102 := Qz.mk ((yq96 : gb202 ≠ gb102))
                 replace BK102 := bkbf3 BK102 yq77 hb
                 have NB127_202 := Qz.mk ((yq108 : gb127 ≠ gb202))
                 have NB202_127 := Qz.mk ((yq109 : gb202 ≠ gb127))
                 replace BK127 := bkbf3 BK127 yq81 hb
                 have NB134_202 := Qz.mk ((by rw [hg]; exact Nat.ne_of_lt (qq (g := gb134) (o := .cells #[.slice Ao51 t172.length co51, .int .i64 t131, .int .i64 t132, .int .i64 t133] 32 (0, 0)) yq83) : gb134 ≠ gb202))
                 have NB202_134 := Qz.mk ((by rw [hg]; exact Nat.ne_of_gt (qq (g := gb134) (o := .cells #[.slice Ao51 t172.length co51, .int .i64 t131, .int .i64 t132, .int .i64 t133] 32 (0, 0)) yq83) : gb202 ≠ gb134))
                 replace BK134 := bkbf3 BK134 yq83 hb
                 have NB144_202 := Qz.mk ((yq124 : gb144 ≠ gb202))
                 have NB202_144 := Qz.mk ((yq125 : gb202 ≠ gb144))
                 replace BK144 := bkbf3 BK144 yq84 hb
                 have NB152_202 := Qz.mk ((by rw [hg]; exact Nat.ne_of_lt (qq (g := gb152) (o := .cells #[.slice Ao70 t145.length co70, .int .i64 t148, .int .i64 t149, .int .i64 t150] 32 (0, 0)) yq85) : gb152 ≠ gb202))
                 have NB202_152 := Qz.mk ((by rw [hg]; exact Nat.ne_of_gt (qq (g := gb152) (o := .cells #[.slice Ao70 t145.length co70, .int .i64 t148, .int .i64 t149, .int .i64 t150] 32 (0, 0)) yq85) : gb202 ≠ gb152))
                 replace BK152 := bkbf3 BK152 yq85 hb
                 clear hb hbox hg
                 refine hK.out _ _ ⟨(qa BK101.out 0).trans rfl, (qa BK101.out 1).trans rfl, (qa BK101.out 2).trans rfl, (qa BK101.out 3).trans rfl, (qa BK102.out 0).trans rfl, (qa BK102.out 1).trans rfl, (qa BK102.out 2).trans rfl, (qa BK102.out 3).trans rfl, (qa BK102.out 4).trans rfl⟩ (fun hHeld => ?_)
                 clear hK K
                 refine norm_ (a' := ?_) ?_ ?_
                 rotate_left
                 ·show Act.put _ (some 15) _ = _
                  simp only [Act.put, sq1, sq2, sq3, i64_w, i32_w]
                  rfl
                 exact norm_ (by simp only [putAll, Act.put, sq1, sq2, sq3]) (hCont (.slice Ao159 t180.length co159, .slice Ao160 t186.length co160, .slice Ao161 t189.length co161, v196, gb202) _ ⟨hHeld, yq118, yq117, (by (with_reducible repeat (first | apply Kd.R_alloc | apply Kd.R_drewN | apply Kd.R_drew)); exact Kd.R_mono HO191.out (fun _ hk => hk.2)), yq116, yq115, yq114, yq113, (by (with_reducible repeat (first | apply Kd.R_alloc | apply Kd.R_drewN | apply Kd.R_drew)); exact Kd.R_mono HO_145001.out (fun _ hk => hk.2)), yq112, yq76, yq77, yq81, yq83, yq84, yq85, yq106, GW202.out, GE202.out, NB101_202.out, NB202_101.out, NB102_202.out, NB202_102.out, NB127_202.out, NB202_127.out, NB134_202.out, NB202_134.out, NB144_202.out, NB202_144.out, NB152_202.out, NB202_152.out, yq80⟩)
                ·skip
                 refine box_step ?hg (N := 15) ?hd (cs := #[.slice none 0 0, .int .i64 0, .int .i64 0, .int .i64 0]) (t := 32) ?hr ?_; (case hd => rfl); (case hg => rfl); (case hr => exact yq119)
                 intro gb202 hg w159 hbox hb
                 replace HO_128000 := Qz.mk (Kd.R_below yq89 hb)
                 replace HO_135000 := Qz.mk (Kd.R_below yq88 hb)
                 replace HO_145000 := Qz.mk (Kd.R_below yq87 hb)
                 replace HO_145001 := Qz.mk (Kd.R_below yq91 hb)
                 replace HO_153000 := Qz.mk (Kd.R_below yq86 hb)
                 replace HO182 := Qz.mk (Kd.R_below yq97 hb)
                 replace HO188 := Qz.mk (Kd.R_below yq107 hb)
                 replace HO191 := Qz.mk (Kd.R_below yq132 hb)
                 have BK202 := Qz.mk (hbox)
                 have GW202 := Qz.mk ((by rw [hg]; exact (ql yq78) : w.heap.size ≤ gb202))
                 have GE202 := GW202
                 replace HB := Qz.mk (qj yq78 hb)
                 have NB101_202 := Qz.mk ((yq92 : gb101 ≠ gb202))
                 have NB202_101 := Qz.mk ((yq93 : gb202 ≠ gb101))
                 replace BK101 := bkbf3 BK101 yq76 hb
                 have NB102_202 := Qz.mk ((yq95 : gb102 ≠ gb202))
                 have NB202_102 := Qz.mk ((yq96 : gb202 ≠ gb102))
                 replace BK102 := bkbf3 BK102 yq77 hb
                 have NB127_202 := Qz.mk ((yq108 : gb127 ≠ gb202))
                 have NB202_127 := Qz.mk ((yq109 : gb202 ≠ gb127))
                 replace BK127 := bkbf3 BK127 yq81 hb
                 have NB134_202 := Qz.mk ((by rw [hg]; exact Nat.ne_of_lt (qq (g := gb134) (o := .cells #[.slice Ao51 t172.length co51, .int .i64 t131, .int .i64 t132, .int .i64 t133] 32 (0, 0)) yq83) : gb134 ≠ gb202))
                 have NB202_134 := Qz.mk ((by rw [hg]; exact Nat.ne_of_gt (qq (g := gb134) (o := .cells #[.slice Ao51 t172.length co51, .int .i64 t131, .int .i64 t132, .int .i64 t133] 32 (0, 0)) yq83) : gb202 ≠ gb134))
                 replace BK134 := bkbf3 BK134 yq83 hb
                 have NB144_202 := Qz.mk ((yq124 : gb144 ≠ gb202))
                 have NB202_144 := Qz.mk ((yq125 : gb202 ≠ gb144))
                 replace BK144 := bkbf3 BK144 yq84 hb
                 have NB152_202 := Qz.mk ((by rw [hg]; exact Nat.ne_of_lt (qq (g := gb152) (o := .cells #[.slice Ao70 t145.length co70, .int .i64 t148, .int .i64 t149, .int .i64 t150] 32 (0, 0)) yq85) : gb152 ≠ gb202))
                 have NB202_152 := Qz.mk ((by rw [hg]; exact Nat.ne_of_gt (qq (g := gb152) (o := .cells #[.slice Ao70 t145.length co70, .int .i64 t148, .int .i64 t149, .int .i64 t150] 32 (0, 0)) yq85) : gb202 ≠ gb152))
                 replace BK152 := bkbf3 BK152 yq85 hb
                 clear hb hbox hg
                 obtain ⟨Ao160, co160, eo160⟩ := Kd.R_slice HO182.out
                 (first | subst eo160 | (injection eo160 with f1_ f2_ f3_; have f4_ := f1_.symm; have f5_ := f3_.symm; clear f1_ f2_ f3_; subst f4_; subst f5_))
                 obtain ⟨Ao161, co161, eo161⟩ := Kd.R_slice HO188.out
                 (first | subst eo161 | (injection eo161 with f1_ f2_ f3_; have f4_ := f1_.symm; have f5_ := f3_.symm; clear f1_ f2_ f3_; subst f4_; subst f5_))
                 obtain ⟨Ao162, co162, eo162⟩ := Kd.R_slice HO191.out
                 (first | subst eo162 | (injection eo162 with f1_ f2_ f3_; have f4_ := f1_.symm; have f5_ := f3_.symm; clear f1_ f2_ f3_; subst f4_; subst f5_))
                 refine hK.out _ _ ⟨(qa BK101.out 0).trans rfl, (qa BK101.out 1).trans rfl, (qa BK101.out 2).trans rfl, (qa BK101.out 3).trans rfl, (qa BK102.out 0).trans rfl, (qa BK102.out 1).trans rfl, (qa BK102.out 2).trans rfl, (qa BK102.out 3).trans rfl, (qa BK102.out 4).trans rfl⟩ (fun hHeld => ?_)
                 clear hK K
                 refine norm_ (a' := ?_) ?_ ?_
                 rotate_left
                 ·show Act.put _ (some 15) _ = _
                  simp only [Act.put, sq1, sq2, sq3, i64_w, i32_w]
                  rfl
                 refine one_ (i := 4) (N := some 99) bq22 rfl rfl (one_of HT_.out (by kernel_rfl)) (by decide) (fun K hK => ?_)
                 refine goes_ Try.func20 (by kernel_rfl) rfl #[.agg #[.slice Ao160 t180.length co160, .int .i64 t183, .int .i64 t184, .int .i64 t185], .agg #[.slice Ao161 t186.length co161, .slice Ao162 t189.length co162, .int .i64 t192, .int .i64 t193, .int .i64 t194]] (by rfl) rfl rfl yq79 ?_
                 with_reducible refine (impl_Apply.calls _ _ t180 t183 t184 t185 _ _ t186 _ _ t189 t192 t193 t194 t195 t198 t199 t200 t201 _ ?side1 ?side2 ?side3 ?side4 ?side5 ?side6 A145.out).mono ?_
                 (case side1 => exact yq128)
                 (case side2 => exact (Kd.R_reads' HO182.out).2.1)
                 (case side3 => exact yq127)
                 (case side4 => exact (Kd.R_reads' HO188.out).2.1)
                 (case side5 => exact yq126)
                 (case side6 => exact (Kd.R_reads' HO191.out).2.1)
                 rintro e w163 ⟨v196, rfl, ho0, hb⟩
                 refine ⟨_, rfl, ?_⟩
                 replace HO_145001 := Qz.mk (Kd.R_below yq91 hb)
                 replace HO191 := Qz.mk (Kd.R_below yq132 hb)
                 have HO197 := Qz.mk (Kd.R_lower (Kd.R_new' (Kd.R_new' (Kd.R_new' (Kd.R_new' (Kd.R_new' (Kd.R_new' ho0 (Kd.R_lt yq89)) (Kd.R_lt yq88)) (Kd.R_lt yq87)) (Kd.R_lt yq86)) (Kd.R_lt yq97)) (Kd.R_lt yq107)) (ql yq80))
                 replace HO_128000 := Qz.mk (Kd.R_elder' yq89 (Kd.R_base ho0) hb)
                 replace HO_135000 := Qz.mk (Kd.R_elder' yq88 (Kd.R_base ho0) hb)
                 replace HO_145000 := Qz.mk (Kd.R_elder' yq87 (Kd.R_base ho0) hb)
                 replace HO_153000 := Qz.mk (Kd.R_elder' yq86 (Kd.R_base ho0) hb)
                 replace HO182 := Qz.mk (Kd.R_elder' yq97 (Kd.R_base ho0) hb)
                 replace HO188 := Qz.mk (Kd.R_elder' yq107 (Kd.R_base ho0) hb)
                 replace BK101 := bkbf3 BK101 yq76 hb
                 replace BK102 := bkbf3 BK102 yq77 hb
                 replace BK127 := bkbf3 BK127 yq81 hb
                 replace BK134 := bkbf3 BK134 yq83 hb
                 replace BK144 := bkbf3 BK144 yq84 hb
                 replace BK152 := bkbf3 BK152 yq85 hb
                 replace BK202 := bkbf3 BK202 yq106 hb
                 replace HB := Qz.mk (qj yq80 hb)
                 (try clear hb)
                 (try clear hk)
                 (try clear ho0)
                 refine hK.out _ _ ⟨(qa BK101.out 0).trans rfl, (qa BK101.out 1).trans rfl, (qa BK101.out 2).trans rfl, (qa BK101.out 3).trans rfl, (qa BK102.out 0).trans rfl, (qa BK102.out 1).trans rfl, (qa BK102.out 2).trans rfl, (qa BK102.out 3).trans rfl, (qa BK102.out 4).trans rfl⟩ (fun hHeld => ?_)
                 clear hK K
                 refine norm_ (a' := ?_) ?_ ?_
                 rotate_left
                 ·show Act.put _ (some 99) _ = _
                  simp only [Act.put, sq1, sq2, sq3, i64_w, i32_w]
                  rfl
                 refine pure_ (i := 5) (N := some 94) (v := ?_) (a' := ?_) bq24 rfl rfl (any_of HT_.out (by kernel_rfl)) (fun _ _ _ h => h) (Or.inl ⟨by rfl, ?_⟩) ?_ ?_
                 rotate_left
                 ·intro w'
                  go_simp
                  with_reducible rfl
                 rotate_left
                 ·simp only [Act.put, sq1, sq2, sq3, i64_w, i32_w]
                  rfl
                 refine pure_ (i := 6) (N := some 100) (v := ?_) (a' := ?_) bq28 rfl rfl (any_of HT_.out (by kernel_rfl)) (fun _ _ _ h => h) (Or.inl ⟨by rfl, ?_⟩) ?_ ?_
                 rotate_left
                 ·intro w'
                  go_simp
                  with_reducible rfl
                 rotate_left
                 ·simp only [Act.put, sq1, sq2, sq3, i64_w, i32_w]
                  rfl
                 refine pure_ (i := 7) (N := some 101) (v := ?_) (a' := ?_) bq32 rfl rfl (any_of HT_.out (by kernel_rfl)) (fun _ _ _ h => h) (Or.inl ⟨by rfl, ?_⟩) ?_ ?_
                 rotate_left
                 ·intro w'
                  go_simp
                  with_reducible rfl
                 rotate_left
                 ·simp only [Act.put, sq1, sq2, sq3, i64_w, i32_w]
                  rfl
                 exact norm_ (by simp only [putAll, Act.put, sq1, sq2, sq3]) (hCont (.slice Ao160 t180.length co160, .slice Ao161 t186.length co161, .slice Ao162 t189.length co162, v196, gb202) _ ⟨hHeld, yq118, yq117, (by (with_reducible repeat (first | apply Kd.R_alloc | apply Kd.R_drewN | apply Kd.R_drew)); exact Kd.R_mono HO191.out (fun _ hk => hk.2)), yq116, yq115, yq114, yq113, (by (with_reducible repeat (first | apply Kd.R_alloc | apply Kd.R_drewN | apply Kd.R_drew)); exact Kd.R_mono HO_145001.out (fun _ hk => hk.2)), yq112, yq76, yq77, yq81, yq83, yq84, yq85, yq106, GW202.out, GE202.out, NB101_202.out, NB202_101.out, NB102_202.out, NB202_102.out, NB127_202.out, NB202_127.out, NB134_202.out, NB202_134.out, NB144_202.out, NB202_144.out, NB152_202.out, NB202_152.out, yq80⟩)
               ·skip
                refine box_step ?hg (N := 15) ?hd (cs := #[.slice none 0 0, .int .i64 0, .int .i64 0, .int .i64 0]) (t := 32) ?hr ?_; (case hd => rfl); (case hg => rfl); (case hr => exact yq119)
                intro gb202 hg w158 hbox hb
                replace HO_128000 := Qz.mk (Kd.R_below yq89 hb)
                replace HO_135000 := Qz.mk (Kd.R_below yq88 hb)
                replace HO_145000 := Qz.mk (Kd.R_below yq87 hb)
                replace HO_145001 := Qz.mk (Kd.R_below yq91 hb)
                replace HO_153000 := Qz.mk (Kd.R_below yq86 hb)
                replace HO182 := Qz.mk (Kd.R_below yq97 hb)
                have BK202 := Qz.mk (hbox)
                have GW202 := Qz.mk ((by rw [hg]; exact (ql yq78) : w.heap.size ≤ gb202))
                have GE202 := GW202
                replace HB := Qz.mk (qj yq78 hb)
                have NB101_202 := Qz.mk ((yq92 : gb101 ≠ gb202))
                have NB202_101 := Qz.mk ((yq93 : gb202 ≠ gb101))
                replace BK101 := bkbf3 BK101 yq76 hb
                have NB102_202 := Qz.mk ((yq95 : gb102 ≠ gb202))
                have NB202_102 := Qz.mk ((yq96 : gb202 ≠ gb102))
                replace BK102 := bkbf3 BK102 yq77 hb
                have NB127_202 := Qz.mk ((yq108 : gb127 ≠ gb202))
                have NB202_127 := Qz.mk ((yq109 : gb202 ≠ gb127))
                replace BK127 := bkbf3 BK127 yq81 hb
                have NB134_202 := Qz.mk ((by rw [hg]; exact Nat.ne_of_lt (qq (g := gb134) (o := .cells #[.slice Ao51 t172.length co51, .int .i64 t131, .int .i64 t132, .int .i64 t133] 32 (0, 0)) yq83) : gb134 ≠ gb202))
                have NB202_134 := Qz.mk ((by rw [hg]; exact Nat.ne_of_gt (qq (g := gb134) (o := .cells #[.slice Ao51 t172.length co51, .int .i64 t131, .int .i64 t132, .int .i64 t133] 32 (0, 0)) yq83) : gb202 ≠ gb134))
                replace BK134 := bkbf3 BK134 yq83 hb
                have NB144_202 := Qz.mk ((yq124 : gb144 ≠ gb202))
                have NB202_144 := Qz.mk ((yq125 : gb202 ≠ gb144))
                replace BK144 := bkbf3 BK144 yq84 hb
                have NB152_202 := Qz.mk ((by rw [hg]; exact Nat.ne_of_lt (qq (g := gb152) (o := .cells #[.slice Ao70 t145.length co70, .int .i64 t148, .int .i64 t149, .int .i64 t150] 32 (0, 0)) yq85) : gb152 ≠ gb202))
                have NB202_152 := Qz.mk ((by rw [hg]; exact Nat.ne_of_gt (qq (g := gb152) (o := .cells #[.slice Ao70 t145.length co70, .int .i64 t148, .int .i64 t149, .int .i64 t150] 32 (0, 0)) yq85) : gb202 ≠ gb152))
                replace BK152 := bkbf3 BK152 yq85 hb
                clear hb hbox hg
                refine hK.out _ _ ⟨(qa BK101.out 0).trans rfl, (qa BK101.out 1).trans rfl, (qa BK101.out 2).trans rfl, (qa BK101.out 3).trans rfl, (qa BK102.out 0).trans rfl, (qa BK102.out 1).trans rfl, (qa BK102.out 2).trans rfl, (qa BK102.out 3).trans rfl, (qa BK102.out 4).trans rfl⟩ (fun hHeld => ?_)
                clear hK K
                refine norm_ (a' := ?_) ?_ ?_
                rotate_left
                ·show Act.put _ (some 15) _ = _
                 simp only [Act.put, sq1, sq2, sq3, i64_w, i32_w]
                 rfl
                refine one_ (i := 3) (N := some 98) bq18 rfl rfl (one_of HT_.out (by kernel_rfl)) (by decide) (fun K hK => ?_)
                refine goes_ Try.func19 (by kernel_rfl) rfl #[.agg #[.slice A1_0 l1_0.length c1_0, .slice A1_1 l1_1.length c1_1, .int .i64 a1_2, .int .i64 a1_3, .int .i64 a1_4]] (by rfl) rfl rfl yq79 ?_
                with_reducible refine (laws_toEdit.calls kj99 _ _ l1_0 _ _ l1_1 a1_2 a1_3 a1_4 t186 t189 t192 t193 t194 _ ?side1 ?side2 ?side3 ?side4 A144.out).mono ?_
                (case side1 => exact yq99)
                (case side2 => exact HC1_0.out)
                (case side3 => exact yq98)
                (case side4 => exact HC1_1.out)
                rintro e w159 ⟨v187, v190, rfl, ho0, ho1, hb⟩
                refine ⟨_, rfl, ?_⟩
                have HO188 := Qz.mk (Kd.R_lower (Kd.R_new' (Kd.R_new' (Kd.R_new' (Kd.R_new' (Kd.R_new' ho0 (Kd.R_lt yq89)) (Kd.R_lt yq88)) (Kd.R_lt yq87)) (Kd.R_lt yq86)) (Kd.R_lt yq97)) (ql yq80))
                replace HO_128000 := Qz.mk (Kd.R_elder' yq89 (Kd.R_base ho0) hb)
                replace HO_135000 := Qz.mk (Kd.R_elder' yq88 (Kd.R_base ho0) hb)
                replace HO_145000 := Qz.mk (Kd.R_elder' yq87 (Kd.R_base ho0) hb)
                replace HO_153000 := Qz.mk (Kd.R_elder' yq86 (Kd.R_base ho0) hb)
                replace HO182 := Qz.mk (Kd.R_elder' yq97 (Kd.R_base ho0) hb)
                have HO191 := Qz.mk (Kd.R_lower (Kd.R_new' ho1 (Kd.R_lt yq91)) (ql yq80))
                replace HO_145001 := Qz.mk (Kd.R_elder' yq91 (Kd.R_base ho1) hb)
                replace BK101 := bkbf3 BK101 yq76 hb
                replace BK102 := bkbf3 BK102 yq77 hb
                replace BK127 := bkbf3 BK127 yq81 hb
                replace BK134 := bkbf3 BK134 yq83 hb
                replace BK144 := bkbf3 BK144 yq84 hb
                replace BK152 := bkbf3 BK152 yq85 hb
                replace BK202 := bkbf3 BK202 yq106 hb
                replace HB := Qz.mk (qj yq80 hb)
                (try clear hb)
                (try clear hk)
                (try clear ho0)
                (try clear ho1)
                obtain ⟨Ao160, co160, eo160⟩ := Kd.R_slice HO182.out
                (first | subst eo160 | (injection eo160 with f1_ f2_ f3_; have f4_ := f1_.symm; have f5_ := f3_.symm; clear f1_ f2_ f3_; subst f4_; subst f5_))
                obtain ⟨Ao161, co161, eo161⟩ := Kd.R_slice HO188.out
                (first | subst eo161 | (injection eo161 with f1_ f2_ f3_; have f4_ := f1_.symm; have f5_ := f3_.symm; clear f1_ f2_ f3_; subst f4_; subst f5_))
                obtain ⟨Ao162, co162, eo162⟩ := Kd.R_slice HO191.out
                (first | subst eo162 | (injection eo162 with f1_ f2_ f3_; have f4_ := f1_.symm; have f5_ := f3_.symm; clear f1_ f2_ f3_; subst f4_; subst f5_))
                refine hK.out _ _ ⟨(qa BK101.out 0).trans rfl, (qa BK101.out 1).trans rfl, (qa BK101.out 2).trans rfl, (qa BK101.out 3).trans rfl, (qa BK102.out 0).trans rfl, (qa BK102.out 1).trans rfl, (qa BK102.out 2).trans rfl, (qa BK102.out 3).trans rfl, (qa BK102.out 4).trans rfl⟩ (fun hHeld => ?_)
                clear hK K
                refine norm_ (a' := ?_) ?_ ?_
                rotate_left
                ·show Act.put _ (some 98) _ = _
                 simp only [Act.put, sq1, sq2, sq3, i64_w, i32_w]
                 rfl
                refine one_ (i := 4) (N := some 99) bq22 rfl rfl (one_of HT_.out (by kernel_rfl)) (by decide) (fun K hK => ?_)
                refine goes_ Try.func20 (by kernel_rfl) rfl #[.agg #[.slice Ao160 t180.length co160, .int .i64 t183, .int .i64 t184, .int .i64 t185], .agg #[.slice Ao161 t186.length co161, .slice Ao162 t189.length co162, .int .i64 t192, .int .i64 t193, .int .i64 t194]] (by rfl) rfl rfl yq79 ?_
                with_reducible refine (impl_Apply.calls _ _ t180 t183 t184 t185 _ _ t186 _ _ t189 t192 t193 t194 t195 t198 t199 t200 t201 _ ?side1 ?side2 ?side3 ?side4 ?side5 ?side6 A145.out).mono ?_
                (case side1 => exact yq128)
                (case side2 => exact (Kd.R_reads' HO182.out).2.1)
                (case side3 => exact yq127)
                (case side4 => exact (Kd.R_reads' HO188.out).2.1)
                (case side5 => exact yq126)
                (case side6 => exact (Kd.R_reads' HO191.out).2.1)
                rintro e w163 ⟨v196, rfl, ho0, hb⟩
                refine ⟨_, rfl, ?_⟩
                replace HO_145001 := Qz.mk (Kd.R_below yq91 hb)
                replace HO191 := Qz.mk (Kd.R_below yq132 hb)
                have HO197 := Qz.mk (Kd.R_lower (Kd.R_new' (Kd.R_new' (Kd.R_new' (Kd.R_new' (Kd.R_new' (Kd.R_new' ho0 (Kd.R_lt yq89)) (Kd.R_lt yq88)) (Kd.R_lt yq87)) (Kd.R_lt yq86)) (Kd.R_lt yq97)) (Kd.R_lt yq107)) (ql yq80))
                replace HO_128000 := Qz.mk (Kd.R_elder' yq89 (Kd.R_base ho0) hb)
                replace HO_135000 := Qz.mk (Kd.R_elder' yq88 (Kd.R_base ho0) hb)
                replace HO_145000 := Qz.mk (Kd.R_elder' yq87 (Kd.R_base ho0) hb)
                replace HO_153000 := Qz.mk (Kd.R_elder' yq86 (Kd.R_base ho0) hb)
                replace HO182 := Qz.mk (Kd.R_elder' yq97 (Kd.R_base ho0) hb)
                replace HO188 := Qz.mk (Kd.R_elder' yq107 (Kd.R_base ho0) hb)
                replace BK101 := bkbf3 BK101 yq76 hb
                replace BK102 := bkbf3 BK102 yq77 hb
                replace BK127 := bkbf3 BK127 yq81 hb
                replace BK134 := bkbf3 BK134 yq83 hb
                replace BK144 := bkbf3 BK144 yq84 hb
                replace BK152 := bkbf3 BK152 yq85 hb
                replace BK202 := bkbf3 BK202 yq106 hb
                replace HB := Qz.mk (qj yq80 hb)
                (try clear hb)
                (try clear hk)
                (try clear ho0)
                refine hK.out _ _ ⟨(qa BK101.out 0).trans rfl, (qa BK101.out 1).trans rfl, (qa BK101.out 2).trans rfl, (qa BK101.out 3).trans rfl, (qa BK102.out 0).trans rfl, (qa BK102.out 1).trans rfl, (qa BK102.out 2).trans rfl, (qa BK102.out 3).trans rfl, (qa BK102.out 4).trans rfl⟩ (fun hHeld => ?_)
                clear hK K
                refine norm_ (a' := ?_) ?_ ?_
                rotate_left
                ·show Act.put _ (some 99) _ = _
                 simp only [Act.put, sq1, sq2, sq3, i64_w, i32_w]
                 rfl
                refine pure_ (i := 5) (N := some 94) (v := ?_) (a' := ?_) bq24 rfl rfl (any_of HT_.out (by kernel_rfl)) (fun _ _ _ h => h) (Or.inl ⟨by rfl, ?_⟩) ?_ ?_
                rotate_left
                ·intro w'
                 go_simp
                 with_reducible rfl
                rotate_left
                ·simp only [Act.put, sq1, sq2, sq3, i64_w, i32_w]
                 rfl
                refine pure_ (i := 6) (N := some 100) (v := ?_) (a' := ?_) bq28 rfl rfl (any_of HT_.out (by kernel_rfl)) (fun _ _ _ h => h) (Or.inl ⟨by rfl, ?_⟩) ?_ ?_
                rotate_left
                ·intro w'
                 go_simp
                 with_reducible rfl
                rotate_left
                ·simp only [Act.put, sq1, sq2, sq3, i64_w, i32_w]
                 rfl
                refine pure_ (i := 7) (N := some 101) (v := ?_) (a' := ?_) bq32 rfl rfl (any_of HT_.out (by kernel_rfl)) (fun _ _ _ h => h) (Or.inl ⟨by rfl, ?_⟩) ?_ ?_
                rotate_left
                ·intro w'
                 go_simp
                 with_reducible rfl
                rotate_left
                ·simp only [Act.put, sq1, sq2, sq3, i64_w, i32_w]
                 rfl
                exact norm_ (by simp only [putAll, Act.put, sq1, sq2, sq3]) (hCont (.slice Ao160 t180.length co160, .slice Ao161 t186.length co161, .slice Ao162 t189.length co162, v196, gb202) _ ⟨hHeld, yq118, yq117, (by (with_reducible repeat (first | apply Kd.R_alloc | apply Kd.R_drewN | apply Kd.R_drew)); exact Kd.R_mono HO191.out (fun _ hk => hk.2)), yq116, yq115, yq114, yq113, (by (with_reducible repeat (first | apply Kd.R_alloc | apply Kd.R_drewN | apply Kd.R_drew)); exact Kd.R_mono HO_145001.out (fun _ hk => hk.2)), yq112, yq76, yq77, yq81, yq83, yq84, yq85, yq106, GW202.out, GE202.out, NB101_202.out, NB202_101.out, NB102_202.out, NB202_102.out, NB127_202.out, NB202_127.out, NB134_202.out, NB202_134.out, NB144_202.out, NB202_144.out, NB152_202.out, NB202_152.out, yq80⟩)
              ·skip
               refine box_step ?hg (N := 15) ?hd (cs := #[.slice none 0 0, .int .i64 0, .int .i64 0, .int .i64 0]) (t := 32) ?hr ?_; (case hd => rfl); (case hg => rfl); (case hr => exact yq119)
               intro gb202 hg w157 hbox hb
               replace HO_128000 := Qz.mk (Kd.R_below yq89 hb)
               replace HO_135000 := Qz.mk (Kd.R_below yq88 hb)
               replace HO_145000 := Qz.mk (Kd.R_below yq87 hb)
               replace HO_145001 := Qz.mk (Kd.R_below yq91 hb)
               replace HO_153000 := Qz.mk (Kd.R_below yq86 hb)
               have BK202 := Qz.mk (hbox)
               have GW202 := Qz.mk ((by rw [hg]; exact (ql yq78) : w.heap.size ≤ gb202))
               have GE202 := GW202
               replace HB := Qz.mk (qj yq78 hb)
               have NB101_202 := Qz.mk ((yq92 : gb101 ≠ gb202))
               have NB202_101 := Qz.mk ((yq93 : gb202 ≠ gb101))
               replace BK101 := bkbf3 BK101 yq76 hb
               have NB102_202 := Qz.mk ((yq95 : gb102 ≠ gb202))
               have NB202_102 := Qz.mk ((yq96 : gb202 ≠ gb102))
               replace BK102 := bkbf3 BK102 yq77 hb
               have NB127_202 := Qz.mk ((yq108 : gb127 ≠ gb202))
               have NB202_127 := Qz.mk ((yq109 : gb202 ≠ gb127))
               replace BK127 := bkbf3 BK127 yq81 hb
               have NB134_202 := Qz.mk ((by rw [hg]; exact Nat.ne_of_lt (qq (g := gb134) (o := .cells #[.slice Ao51 t172.length co51, .int .i64 t131, .int .i64 t132, .int .i64 t133] 32 (0, 0)) yq83) : gb134 ≠ gb202))
               have NB202_134 := Qz.mk ((by rw [hg]; exact Nat.ne_of_gt (qq (g := gb134) (o := .cells #[.slice Ao51 t172.length co51, .int .i64 t131, .int .i64 t132, .int .i64 t133] 32 (0, 0)) yq83) : gb202 ≠ gb134))
               replace BK134 := bkbf3 BK134 yq83 hb
               have NB144_202 := Qz.mk ((yq124 : gb144 ≠ gb202))
               have NB202_144 := Qz.mk ((yq125 : gb202 ≠ gb144))
               replace BK144 := bkbf3 BK144 yq84 hb
               have NB152_202 := Qz.mk ((by rw [hg]; exact Nat.ne_of_lt (qq (g := gb152) (o := .cells #[.slice Ao70 t145.length co70, .int .i64 t148, .int .i64 t149, .int .i64 t150] 32 (0, 0)) yq85) : gb152 ≠ gb202))
               have NB202_152 := Qz.mk ((by rw [hg]; exact Nat.ne_of_gt (qq (g := gb152) (o := .cells #[.slice Ao70 t145.length co70, .int .i64 t148, .int .i64 t149, .int .i64 t150] 32 (0, 0)) yq85) : gb202 ≠ gb152))
               replace BK152 := bkbf3 BK152 yq85 hb
               clear hb hbox hg
               refine hK.out _ _ ⟨(qa BK101.out 0).trans rfl, (qa BK101.out 1).trans rfl, (qa BK101.out 2).trans rfl, (qa BK101.out 3).trans rfl, (qa BK102.out 0).trans rfl, (qa BK102.out 1).trans rfl, (qa BK102.out 2).trans rfl, (qa BK102.out 3).trans rfl, (qa BK102.out 4).trans rfl⟩ (fun hHeld => ?_)
               clear hK K
               refine norm_ (a' := ?_) ?_ ?_
               rotate_left
               ·show Act.put _ (some 15) _ = _
                simp only [Act.put, sq1, sq2, sq3, i64_w, i32_w]
                rfl
               refine one_ (i := 1) (N := some 96) bq12 rfl rfl (one_of HT_.out (by kernel_rfl)) (by decide) (fun K hK => ?_)
               refine goes_ Try.func18 (by kernel_rfl) rfl #[.agg #[.slice A0_0 l0_0.length c0_0, .int .i64 a0_1, .int .i64 a0_2, .int .i64 a0_3]] (by rfl) rfl rfl yq79 ?_
               with_reducible refine (laws_toVersion.calls kj99 _ _ l0_0 a0_1 a0_2 a0_3 t180 t183 t184 t185 _ ?side1 ?side2 A143.out).mono ?_
               (case side1 => exact yq102)
               (case side2 => exact HC0_0.out)
               rintro e w158 ⟨v181, rfl, ho0, hb⟩
               refine ⟨_, rfl, ?_⟩
               replace HO_145001 := Qz.mk (Kd.R_below yq91 hb)
               have HO182 := Qz.mk (Kd.R_lower (Kd.R_new' (Kd.R_new' (Kd.R_new' (Kd.R_new' ho0 (Kd.R_lt yq89)) (Kd.R_lt yq88)) (Kd.R_lt yq87)) (Kd.R_lt yq86)) (ql yq80))
               replace HO_128000 := Qz.mk (Kd.R_elder' yq89 (Kd.R_base ho0) hb)
               replace HO_135000 := Qz.mk (Kd.R_elder' yq88 (Kd.R_base ho0) hb)
               replace HO_145000 := Qz.mk (Kd.R_elder' yq87 (Kd.R_base ho0) hb)
               replace HO_153000 := Qz.mk (Kd.R_elder' yq86 (Kd.R_base ho0) hb)
               replace BK101 := bkbf3 BK101 yq76 hb
               replace BK102 := bkbf3 BK102 yq77 hb
               replace BK127 := bkbf3 BK127 yq81 hb
               replace BK134 := bkbf3 BK134 yq83 hb
               replace BK144 := bkbf3 BK144 yq84 hb
               replace BK152 := bkbf3 BK152 yq85 hb
               replace BK202 := bkbf3 BK202 yq106 hb
               replace HB := Qz.mk (qj yq80 hb)
               (try clear hb)
               (try clear hk)
               (try clear ho0)
               refine hK.out _ _ ⟨(qa BK101.out 0).trans rfl, (qa BK101.out 1).trans rfl, (qa BK101.out 2).trans rfl, (qa BK101.out 3).trans rfl, (qa BK102.out 0).trans rfl, (qa BK102.out 1).trans rfl, (qa BK102.out 2).trans rfl, (qa BK102.out 3).trans rfl, (qa BK102.out 4).trans rfl⟩ (fun hHeld => ?_)
               clear hK K
               refine norm_ (a' := ?_) ?_ ?_
               rotate_left
               ·show Act.put _ (some 96) _ = _
                simp only [Act.put, sq1, sq2, sq3, i64_w, i32_w]
                rfl
               refine one_ (i := 3) (N := some 98) bq18 rfl rfl (one_of HT_.out (by kernel_rfl)) (by decide) (fun K hK => ?_)
               refine goes_ Try.func19 (by kernel_rfl) rfl #[.agg #[.slice A1_0 l1_0.length c1_0, .slice A1_1 l1_1.length c1_1, .int .i64 a1_2, .int .i64 a1_3, .int .i64 a1_4]] (by rfl) rfl rfl yq79 ?_
               with_reducible refine (laws_toEdit.calls kj99 _ _ l1_0 _ _ l1_1 a1_2 a1_3 a1_4 t186 t189 t192 t193 t194 _ ?side1 ?side2 ?side3 ?side4 A144.out).mono ?_
               (case side1 => exact yq99)
               (case side2 => exact HC1_0.out)
               (case side3 => exact yq98)
               (case side4 => exact HC1_1.out)
               rintro e w159 ⟨v187, v190, rfl, ho0, ho1, hb⟩
               refine ⟨_, rfl, ?_⟩
               have HO188 := Qz.mk (Kd.R_lower (Kd.R_new' (Kd.R_new' (Kd.R_new' (Kd.R_new' (Kd.R_new' ho0 (Kd.R_lt yq89)) (Kd.R_lt yq88)) (Kd.R_lt yq87)) (Kd.R_lt yq86)) (Kd.R_lt yq97)) (ql yq80))
               replace HO_128000 := Qz.mk (Kd.R_elder' yq89 (Kd.R_base ho0) hb)
               replace HO_135000 := Qz.mk (Kd.R_elder' yq88 (Kd.R_base ho0) hb)
               replace HO_145000 := Qz.mk (Kd.R_elder' yq87 (Kd.R_base ho0) hb)
               replace HO_153000 := Qz.mk (Kd.R_elder' yq86 (Kd.R_base ho0) hb)
               replace HO182 := Qz.mk (Kd.R_elder' yq97 (Kd.R_base ho0) hb)
               have HO191 := Qz.mk (Kd.R_lower (Kd.R_new' ho1 (Kd.R_lt yq91)) (ql yq80))
               replace HO_145001 := Qz.mk (Kd.R_elder' yq91 (Kd.R_base ho1) hb)
               replace BK101 := bkbf3 BK101 yq76 hb
               replace BK102 := bkbf3 BK102 yq77 hb
               replace BK127 := bkbf3 BK127 yq81 hb
               replace BK134 := bkbf3 BK134 yq83 hb
               replace BK144 := bkbf3 BK144 yq84 hb
               replace BK152 := bkbf3 BK152 yq85 hb
               replace BK202 := bkbf3 BK202 yq106 hb
               replace HB := Qz.mk (qj yq80 hb)
               (try clear hb)
               (try clear hk)
               (try clear ho0)
               (try clear ho1)
               obtain ⟨Ao160, co160, eo160⟩ := Kd.R_slice HO182.out
               (first | subst eo160 | (injection eo160 with f1_ f2_ f3_; have f4_ := f1_.symm; have f5_ := f3_.symm; clear f1_ f2_ f3_; subst f4_; subst f5_))
               obtain ⟨Ao161, co161, eo161⟩ := Kd.R_slice HO188.out
               (first | subst eo161 | (injection eo161 with f1_ f2_ f3_; have f4_ := f1_.symm; have f5_ := f3_.symm; clear f1_ f2_ f3_; subst f4_; subst f5_))
               obtain ⟨Ao162, co162, eo162⟩ := Kd.R_slice HO191.out
               (first | subst eo162 | (injection eo162 with f1_ f2_ f3_; have f4_ := f1_.symm; have f5_ := f3_.symm; clear f1_ f2_ f3_; subst f4_; subst f5_))
               refine hK.out _ _ ⟨(qa BK101.out 0).trans rfl, (qa BK101.out 1).trans rfl, (qa BK101.out 2).trans rfl, (qa BK101.out 3).trans rfl, (qa BK102.out 0).trans rfl, (qa BK102.out 1).trans rfl, (qa BK102.out 2).trans rfl, (qa BK102.out 3).trans rfl, (qa BK102.out 4).trans rfl⟩ (fun hHeld => ?_)
               clear hK K
               refine norm_ (a' := ?_) ?_ ?_
               rotate_left
               ·show Act.put _ (some 98) _ = _
                simp only [Act.put, sq1, sq2, sq3, i64_w, i32_w]
                rfl
               refine one_ (i := 4) (N := some 99) bq22 rfl rfl (one_of HT_.out (by kernel_rfl)) (by decide) (fun K hK => ?_)
               refine goes_ Try.func20 (by kernel_rfl) rfl #[.agg #[.slice Ao160 t180.length co160, .int .i64 t183, .int .i64 t184, .int .i64 t185], .agg #[.slice Ao161 t186.length co161, .slice Ao162 t189.length co162, .int .i64 t192, .int .i64 t193, .int .i64 t194]] (by rfl) rfl rfl yq79 ?_
               with_reducible refine (impl_Apply.calls _ _ t180 t183 t184 t185 _ _ t186 _ _ t189 t192 t193 t194 t195 t198 t199 t200 t201 _ ?side1 ?side2 ?side3 ?side4 ?side5 ?side6 A145.out).mono ?_
               (case side1 => exact yq128)
               (case side2 => exact (Kd.R_reads' HO182.out).2.1)
               (case side3 => exact yq127)
               (case side4 => exact (Kd.R_reads' HO188.out).2.1)
               (case side5 => exact yq126)
               (case side6 => exact (Kd.R_reads' HO191.out).2.1)
               rintro e w163 ⟨v196, rfl, ho0, hb⟩
               refine ⟨_, rfl, ?_⟩
               replace HO_145001 := Qz.mk (Kd.R_below yq91 hb)
               replace HO191 := Qz.mk (Kd.R_below yq132 hb)
               have HO197 := Qz.mk (Kd.R_lower (Kd.R_new' (Kd.R_new' (Kd.R_new' (Kd.R_new' (Kd.R_new' (Kd.R_new' ho0 (Kd.R_lt yq89)) (Kd.R_lt yq88)) (Kd.R_lt yq87)) (Kd.R_lt yq86)) (Kd.R_lt yq97)) (Kd.R_lt yq107)) (ql yq80))
               replace HO_128000 := Qz.mk (Kd.R_elder' yq89 (Kd.R_base ho0) hb)
               replace HO_135000 := Qz.mk (Kd.R_elder' yq88 (Kd.R_base ho0) hb)
               replace HO_145000 := Qz.mk (Kd.R_elder' yq87 (Kd.R_base ho0) hb)
               replace HO_153000 := Qz.mk (Kd.R_elder' yq86 (Kd.R_base ho0) hb)
               replace HO182 := Qz.mk (Kd.R_elder' yq97 (Kd.R_base ho0) hb)
               replace HO188 := Qz.mk (Kd.R_elder' yq107 (Kd.R_base ho0) hb)
               replace BK101 := bkbf3 BK101 yq76 hb
               replace BK102 := bkbf3 BK102 yq77 hb
               replace BK127 := bkbf3 BK127 yq81 hb
               replace BK134 := bkbf3 BK134 yq83 hb
               replace BK144 := bkbf3 BK144 yq84 hb
               replace BK152 := bkbf3 BK152 yq85 hb
               replace BK202 := bkbf3 BK202 yq106 hb
               replace HB := Qz.mk (qj yq80 hb)
               (try clear hb)
               (try clear hk)
               (try clear ho0)
               refine hK.out _ _ ⟨(qa BK101.out 0).trans rfl, (qa BK101.out 1).trans rfl, (qa BK101.out 2).trans rfl, (qa BK101.out 3).trans rfl, (qa BK102.out 0).trans rfl, (qa BK102.out 1).trans rfl, (qa BK102.out 2).trans rfl, (qa BK102.out 3).trans rfl, (qa BK102.out 4).trans rfl⟩ (fun hHeld => ?_)
               clear hK K
               refine norm_ (a' := ?_) ?_ ?_
               rotate_left
               ·show Act.put _ (some 99) _ = _
                simp only [Act.put, sq1, sq2, sq3, i64_w, i32_w]
                rfl
               refine pure_ (i := 5) (N := some 94) (v := ?_) (a' := ?_) bq24 rfl rfl (any_of HT_.out (by kernel_rfl)) (fun _ _ _ h => h) (Or.inl ⟨by rfl, ?_⟩) ?_ ?_
               rotate_left
               ·intro w'
                go_simp
                with_reducible rfl
               rotate_left
               ·simp only [Act.put, sq1, sq2, sq3, i64_w, i32_w]
                rfl
               refine pure_ (i := 6) (N := some 100) (v := ?_) (a' := ?_) bq28 rfl rfl (any_of HT_.out (by kernel_rfl)) (fun _ _ _ h => h) (Or.inl ⟨by rfl, ?_⟩) ?_ ?_
               rotate_left
               ·intro w'
                go_simp
                with_reducible rfl
               rotate_left
               ·simp only [Act.put, sq1, sq2, sq3, i64_w, i32_w]
                rfl
               refine pure_ (i := 7) (N := some 101) (v := ?_) (a' := ?_) bq32 rfl rfl (any_of HT_.out (by kernel_rfl)) (fun _ _ _ h => h) (Or.inl ⟨by rfl, ?_⟩) ?_ ?_
               rotate_left
               ·intro w'
                go_simp
                with_reducible rfl
               rotate_left
               ·simp only [Act.put, sq1, sq2, sq3, i64_w, i32_w]
                rfl
               exact norm_ (by simp only [putAll, Act.put, sq1, sq2, sq3]) (hCont (.slice Ao160 t180.length co160, .slice Ao161 t186.length co161, .slice Ao162 t189.length co162, v196, gb202) _ ⟨hHeld, yq118, yq117, (by (with_reducible repeat (first | apply Kd.R_alloc | apply Kd.R_drewN | apply Kd.R_drew)); exact Kd.R_mono HO191.out (fun _ hk => hk.2)), yq116, yq115, yq114, yq113, (by (with_reducible repeat (first | apply Kd.R_alloc | apply Kd.R_drewN | apply Kd.R_drew)); exact Kd.R_mono HO_145001.out (fun _ hk => hk.2)), yq112, yq76, yq77, yq81, yq83, yq84, yq85, yq106, GW202.out, GE202.out, NB101_202.out, NB202_101.out, NB102_202.out, NB202_102.out, NB127_202.out, NB202_127.out, NB134_202.out, NB202_134.out, NB144_202.out, NB202_144.out, NB152_202.out, NB202_152.out, yq80⟩)
             rintro ⟨v181, v187, v190, v196, gb202⟩ w164 ⟨hS_, h0_, h1_, h2_, h3_, h4_, h5_, h6_, h7_, h8_, h9_, h10_, h11_, h12_, h13_, h14_, h15_, h16_, h17_, h18_, h19_, h20_, h21_, h22_, h23_, h24_, h25_, h26_, h27_, h28_, h29_, h30_⟩
             have n0_ : Qz (Kd.R k66 66 w164 w.heap.size (fun k_ => some k_ ≠ (v187 : Value).ownBlock ∧ some k_ ≠ (v196 : Value).ownBlock ∧ some k_ ≠ (.slice Ao42 t120.length co42 : Value).ownBlock ∧ some k_ ≠ (.slice Ao51 t172.length co51 : Value).ownBlock ∧ some k_ ≠ (.slice Ao60 t174.length co60 : Value).ownBlock ∧ some k_ ≠ (.slice Ao70 t145.length co70 : Value).ownBlock) v181 t180) := ⟨h0_⟩
             have n1_ : Qz (Kd.R k66 66 w164 w.heap.size (fun k_ => some k_ ≠ (v181 : Value).ownBlock ∧ some k_ ≠ (v196 : Value).ownBlock ∧ some k_ ≠ (.slice Ao42 t120.length co42 : Value).ownBlock ∧ some k_ ≠ (.slice Ao51 t172.length co51 : Value).ownBlock ∧ some k_ ≠ (.slice Ao60 t174.length co60 : Value).ownBlock ∧ some k_ ≠ (.slice Ao70 t145.length co70 : Value).ownBlock) v187 t186) := ⟨h1_⟩
             have n2_ : Qz (Kd.R (Kd.int .i64) 2 w164 w.heap.size (fun k_ => some k_ ≠ (.slice Ao66 t175.length co66 : Value).ownBlock) v190 t189) := ⟨h2_⟩
             have n3_ : Qz (Kd.R k66 66 w164 w.heap.size (fun k_ => some k_ ≠ (v181 : Value).ownBlock ∧ some k_ ≠ (v187 : Value).ownBlock ∧ some k_ ≠ (.slice Ao42 t120.length co42 : Value).ownBlock ∧ some k_ ≠ (.slice Ao51 t172.length co51 : Value).ownBlock ∧ some k_ ≠ (.slice Ao60 t174.length co60 : Value).ownBlock ∧ some k_ ≠ (.slice Ao70 t145.length co70 : Value).ownBlock) v196 t195) := ⟨h3_⟩
             have n4_ : Qz (Kd.R k66 66 w164 w.heap.size (fun k_ => some k_ ≠ (v181 : Value).ownBlock ∧ some k_ ≠ (v187 : Value).ownBlock ∧ some k_ ≠ (v196 : Value).ownBlock ∧ some k_ ≠ (.slice Ao51 t172.length co51 : Value).ownBlock ∧ some k_ ≠ (.slice Ao60 t174.length co60 : Value).ownBlock ∧ some k_ ≠ (.slice Ao70 t145.length co70 : Value).ownBlock) (.slice Ao42 t120.length co42) t120) := ⟨h4_⟩
             have n5_ : Qz (Kd.R k66 66 w164 w.heap.size (fun k_ => some k_ ≠ (v181 : Value).ownBlock ∧ some k_ ≠ (v187 : Value).ownBlock ∧ some k_ ≠ (v196 : Value).ownBlock ∧ some k_ ≠ (.slice Ao42 t120.length co42 : Value).ownBlock ∧ some k_ ≠ (.slice Ao60 t174.length co60 : Value).ownBlock ∧ some k_ ≠ (.slice Ao70 t145.length co70 : Value).ownBlock) (.slice Ao51 t172.length co51) t172) := ⟨h5_⟩
             have n6_ : Qz (Kd.R k66 66 w164 w.heap.size (fun k_ => some k_ ≠ (v181 : Value).ownBlock ∧ some k_ ≠ (v187 : Value).ownBlock ∧ some k_ ≠ (v196 : Value).ownBlock ∧ some k_ ≠ (.slice Ao42 t120.length co42 : Value).ownBlock ∧ some k_ ≠ (.slice Ao51 t172.length co51 : Value).ownBlock ∧ some k_ ≠ (.slice Ao70 t145.length co70 : Value).ownBlock) (.slice Ao60 t174.length co60) t174) := ⟨h6_⟩
             have n7_ : Qz (Kd.R (Kd.int .i64) 2 w164 w.heap.size (fun k_ => some k_ ≠ (v190 : Value).ownBlock) (.slice Ao66 t175.length co66) t175) := ⟨h7_⟩
             have n8_ : Qz (Kd.R k66 66 w164 w.heap.size (fun k_ => some k_ ≠ (v181 : Value).ownBlock ∧ some k_ ≠ (v187 : Value).ownBlock ∧ some k_ ≠ (v196 : Value).ownBlock ∧ some k_ ≠ (.slice Ao42 t120.length co42 : Value).ownBlock ∧ some k_ ≠ (.slice Ao51 t172.length co51 : Value).ownBlock ∧ some k_ ≠ (.slice Ao60 t174.length co60 : Value).ownBlock) (.slice Ao70 t145.length co70) t178) := ⟨h8_⟩
             have n9_ : Qz (w164.heap[gb101]? = some (.cells #[.slice A0_0 l0_0.length c0_0, .int .i64 a0_1, .int .i64 a0_2, .int .i64 a0_3] 24 (0, 0))) := ⟨h9_⟩
             have n10_ : Qz (w164.heap[gb102]? = some (.cells #[.slice A1_0 l1_0.length c1_0, .slice A1_1 l1_1.length c1_1, .int .i64 a1_2, .int .i64 a1_3, .int .i64 a1_4] 27 (0, 0))) := ⟨h10_⟩
             have n11_ : Qz (w164.heap[gb127]? = some (.cells #[.slice Ao42 t120.length co42, .int .i64 t123, .int .i64 t124, .int .i64 t125] 32 (0, 0))) := ⟨h11_⟩
             have n12_ : Qz (w164.heap[gb134]? = some (.cells #[.slice Ao51 t172.length co51, .int .i64 t131, .int .i64 t132, .int .i64 t133] 32 (0, 0))) := ⟨h12_⟩
             have n13_ : Qz (w164.heap[gb144]? = some (.cells #[.slice Ao60 t174.length co60, .slice Ao66 t175.length co66, .int .i64 t141, .int .i64 t142, .int .i64 t143] 37 (0, 0))) := ⟨h13_⟩
             have n14_ : Qz (w164.heap[gb152]? = some (.cells #[.slice Ao70 t145.length co70, .int .i64 t148, .int .i64 t149, .int .i64 t150] 32 (0, 0))) := ⟨h14_⟩
             have n15_ : Qz (w164.heap[gb202]? = some (.cells #[.slice none 0 0, .int .i64 0, .int .i64 0, .int .i64 0] 32 (0, 0))) := ⟨h15_⟩
             have n16_ : Qz (w.heap.size ≤ gb202) := ⟨h16_⟩
             have n17_ : Qz (w.heap.size ≤ gb202) := ⟨h17_⟩
             have n18_ : Qz (gb101 ≠ gb202) := ⟨h18_⟩
             have n19_ : Qz (gb202 ≠ gb101) := ⟨h19_⟩
             have n20_ : Qz (gb102 ≠ gb202) := ⟨h20_⟩
             have n21_ : Qz (gb202 ≠ gb102) := ⟨h21_⟩
             have n22_ : Qz (gb127 ≠ gb202) := ⟨h22_⟩
             have n23_ : Qz (gb202 ≠ gb127) := ⟨h23_⟩
             have n24_ : Qz (gb134 ≠ gb202) := ⟨h24_⟩
             have n25_ : Qz (gb202 ≠ gb134) := ⟨h25_⟩
             have n26_ : Qz (gb144 ≠ gb202) := ⟨h26_⟩
             have n27_ : Qz (gb202 ≠ gb144) := ⟨h27_⟩
             have n28_ : Qz (gb152 ≠ gb202) := ⟨h28_⟩
             have n29_ : Qz (gb202 ≠ gb152) := ⟨h29_⟩
             have n30_ : Qz (Below w.heap.size w w164) := ⟨h30_⟩
             clear HO_128000
             clear HO_135000
             clear HO_145000
             clear HO_145001
             clear HO_153000
             clear BK101
             clear BK102
             clear BK127
             clear BK134
             clear BK144
             clear BK152
             clear HB
             clear h0_ h1_ h2_ h3_ h4_ h5_ h6_ h7_ h8_ h9_ h10_ h11_ h12_ h13_ h14_ h15_ h16_ h17_ h18_ h19_ h20_ h21_ h22_ h23_ h24_ h25_ h26_ h27_ h28_ h29_ h30_
             have HO182 := n0_
             have HO188 := n1_
             have HO191 := n2_
             have HO197 := n3_
             have HO_128000 := n4_
             have HO_135000 := n5_
             have HO_145000 := n6_
             have HO_145001 := n7_
             have HO_153000 := n8_
             have BK101 := n9_
             have BK102 := n10_
             have BK127 := n11_
             have BK134 := n12_
             have BK144 := n13_
             have BK152 := n14_
             have BK202 := n15_
             have GW202 := n16_
             have GE202 := n17_
             have NB101_202 := n18_
             have NB202_101 := n19_
             have NB102_202 := n20_
             have NB202_102 := n21_
             have NB127_202 := n22_
             have NB202_127 := n23_
             have NB134_202 := n24_
             have NB202_134 := n25_
             have NB144_202 := n26_
             have NB202_144 := n27_
             have NB152_202 := n28_
             have NB202_152 := n29_
             have HB := n30_
             clear n0_ n1_ n2_ n3_ n4_ n5_ n6_ n7_ n8_ n9_ n10_ n11_ n12_ n13_ n14_ n15_ n16_ n17_ n18_ n19_ n20_ n21_ n22_ n23_ n24_ n25_ n26_ n27_ n28_ n29_ n30_
             have hHeld : w164.cell? ⟨gb101, 0, none⟩ = some (.slice A0_0 l0_0.length c0_0) ∧ w164.cell? ⟨gb101, 1, none⟩ = some (.int .i64 a0_1) ∧ w164.cell? ⟨gb101, 2, none⟩ = some (.int .i64 a0_2) ∧ w164.cell? ⟨gb101, 3, none⟩ = some (.int .i64 a0_3) ∧ w164.cell? ⟨gb102, 0, none⟩ = some (.slice A1_0 l1_0.length c1_0) ∧ w164.cell? ⟨gb102, 1, none⟩ = some (.slice A1_1 l1_1.length c1_1) ∧ w164.cell? ⟨gb102, 2, none⟩ = some (.int .i64 a1_2) ∧ w164.cell? ⟨gb102, 3, none⟩ = some (.int .i64 a1_3) ∧ w164.cell? ⟨gb102, 4, none⟩ = some (.int .i64 a1_4) := hS_
             obtain ⟨Ao165, co165, eo165⟩ := Kd.R_slice HO197.out
             (first | subst eo165 | (injection eo165 with f1_ f2_ f3_; have f4_ := f1_.symm; have f5_ := f3_.symm; clear f1_ f2_ f3_; subst f4_; subst f5_))
             refine norm_ (a' := ?_) ?_ ?_
             rotate_left
             ·simp only [putAll, Act.put, sq1, sq2, sq3]
              rfl
             refine one_ (i := 9) (N := none) bq34 rfl rfl (one_of HT_.out (by kernel_rfl)) (by decide) (fun K hK => ?_)
             have hs166 : w164.cell? ⟨gb202, 0, none⟩ = some (.slice none 0 0) := (qa BK202.out 0).trans rfl
             have hfs166 := qd BK202.out 0
             have hns166_0 := NB101_202.out
             have hns166_1 := NB102_202.out
             have hns166_2 := NB127_202.out
             have hns166_3 := NB134_202.out
             have hns166_4 := NB144_202.out
             have hns166_5 := NB152_202.out
             have hms166_0 := NB202_101.out
             have hms166_1 := NB202_102.out
             have hms166_2 := NB202_127.out
             have hms166_3 := NB202_134.out
             have hms166_4 := NB202_144.out
             have hms166_5 := NB202_152.out
             have hs167 : w164.cell? ⟨gb202, 1, none⟩ = some (.int .i64 0) := (qa BK202.out 1).trans rfl
             have hfs167 := qd BK202.out 1
             have hns167_0 := NB101_202.out
             have hns167_1 := NB102_202.out
             have hns167_2 := NB127_202.out
             have hns167_3 := NB134_202.out
             have hns167_4 := NB144_202.out
             have hns167_5 := NB152_202.out
             have hms167_0 := NB202_101.out
             have hms167_1 := NB202_102.out
             have hms167_2 := NB202_127.out
             have hms167_3 := NB202_134.out
             have hms167_4 := NB202_144.out
             have hms167_5 := NB202_152.out
             have hs168 : w164.cell? ⟨gb202, 2, none⟩ = some (.int .i64 0) := (qa BK202.out 2).trans rfl
             have hfs168 := qd BK202.out 2
             have hns168_0 := NB101_202.out
             have hns168_1 := NB102_202.out
             have hns168_2 := NB127_202.out
             have hns168_3 := NB134_202.out
             have hns168_4 := NB144_202.out
             have hns168_5 := NB152_202.out
             have hms168_0 := NB202_101.out
             have hms168_1 := NB202_102.out
             have hms168_2 := NB202_127.out
             have hms168_3 := NB202_134.out
             have hms168_4 := NB202_144.out
             have hms168_5 := NB202_152.out
             have hs169 : w164.cell? ⟨gb202, 3, none⟩ = some (.int .i64 0) := (qa BK202.out 3).trans rfl
             have hfs169 := qd BK202.out 3
             have hns169_0 := NB101_202.out
             have hns169_1 := NB102_202.out
             have hns169_2 := NB127_202.out
             have hns169_3 := NB134_202.out
             have hns169_4 := NB144_202.out
             have hns169_5 := NB152_202.out
             have hms169_0 := NB202_101.out
             have hms169_1 := NB202_102.out
             have hms169_2 := NB202_127.out
             have hms169_3 := NB202_134.out
             have hms169_4 := NB202_144.out
             have hms169_5 := NB202_152.out
             refine skip_ (w1 := ?_) (by rfl) rfl ?_ ?_
             rotate_left
             ·go_simp
              rfl
             refine hK.out _ _ ⟨((qx (p := ⟨gb202, _, none⟩) NB101_202.out _).trans (((qx (p := ⟨gb202, _, none⟩) NB101_202.out _).trans (((qx (p := ⟨gb202, _, none⟩) NB101_202.out _).trans (((qx (p := ⟨gb202, _, none⟩) NB101_202.out _).trans (hHeld.1)))))))), ((qx (p := ⟨gb202, _, none⟩) NB101_202.out _).trans (((qx (p := ⟨gb202, _, none⟩) NB101_202.out _).trans (((qx (p := ⟨gb202, _, none⟩) NB101_202.out _).trans (((qx (p := ⟨gb202, _, none⟩) NB101_202.out _).trans (hHeld.2.1)))))))), ((qx (p := ⟨gb202, _, none⟩) NB101_202.out _).trans (((qx (p := ⟨gb202, _, none⟩) NB101_202.out _).trans (((qx (p := ⟨gb202, _, none⟩) NB101_202.out _).trans (((qx (p := ⟨gb202, _, none⟩) NB101_202.out _).trans (hHeld.2.2.1)))))))), ((qx (p := ⟨gb202, _, none⟩) NB101_202.out _).trans (((qx (p := ⟨gb202, _, none⟩) NB101_202.out _).trans (((qx (p := ⟨gb202, _, none⟩) NB101_202.out _).trans (((qx (p := ⟨gb202, _, none⟩) NB101_202.out _).trans (hHeld.2.2.2.1)))))))), ((qx (p := ⟨gb202, _, none⟩) NB102_202.out _).trans (((qx (p := ⟨gb202, _, none⟩) NB102_202.out _).trans (((qx (p := ⟨gb202, _, none⟩) NB102_202.out _).trans (((qx (p := ⟨gb202, _, none⟩) NB102_202.out _).trans (hHeld.2.2.2.2.1)))))))), ((qx (p := ⟨gb202, _, none⟩) NB102_202.out _).trans (((qx (p := ⟨gb202, _, none⟩) NB102_202.out _).trans (((qx (p := ⟨gb202, _, none⟩) NB102_202.out _).trans (((qx (p := ⟨gb202, _, none⟩) NB102_202.out _).trans (hHeld.2.2.2.2.2.1)))))))), ((qx (p := ⟨gb202, _, none⟩) NB102_202.out _).trans (((qx (p := ⟨gb202, _, none⟩) NB102_202.out _).trans (((qx (p := ⟨gb202, _, none⟩) NB102_202.out _).trans (((qx (p := ⟨gb202, _, none⟩) NB102_202.out _).trans (hHeld.2.2.2.2.2.2.1)))))))), ((qx (p := ⟨gb202, _, none⟩) NB102_202.out _).trans (((qx (p := ⟨gb202, _, none⟩) NB102_202.out _).trans (((qx (p := ⟨gb202, _, none⟩) NB102_202.out _).trans (((qx (p := ⟨gb202, _, none⟩) NB102_202.out _).trans (hHeld.2.2.2.2.2.2.2.1)))))))), ((qx (p := ⟨gb202, _, none⟩) NB102_202.out _).trans (((qx (p := ⟨gb202, _, none⟩) NB102_202.out _).trans (((qx (p := ⟨gb202, _, none⟩) NB102_202.out _).trans (((qx (p := ⟨gb202, _, none⟩) NB102_202.out _).trans (hHeld.2.2.2.2.2.2.2.2))))))))⟩ (fun hHeld => ?_)
             clear hK K
             refine pure_ (i := 10) (N := some 16) (v := ?_) (a' := ?_) bq35 rfl rfl (any_of HT_.out (by kernel_rfl)) (fun _ _ _ h => h) (Or.inl ⟨by rfl, ?_⟩) ?_ ?_
             rotate_left
             ·intro w'
              go_simp
              with_reducible rfl
             rotate_left
             ·simp only [Act.put, sq1, sq2, sq3, i64_w, i32_w]
              rfl
             refine done_ (done_of HT_.out (by kernel_rfl)) ?_
             go_upto_region 32 with (fail)
             go_cut [110] (fun v110 wc => ∃ (kq : Nat) (x110_145 : Bool), v110 = .bool x110_145 ∧ Qz (laws_FnExactApply.j2 kq t177 x110_145 t178 t148 t149 t150 = some r) ∧ Qz (kq ≤ kj99) ∧ Qz (Kd.R k66 66 wc w.heap.size (fun k_ => some k_ ≠ ((.slice Ao51 t172.length co51) : Value).ownBlock ∧ some k_ ≠ ((.slice Ao60 t174.length co60) : Value).ownBlock ∧ some k_ ≠ ((.slice Ao70 t145.length co70) : Value).ownBlock ∧ some k_ ≠ ((.slice Ao165 t195.length co165) : Value).ownBlock) (.slice Ao42 t120.length co42) t120) ∧ Qz (Kd.R k66 66 wc w.heap.size (fun k_ => some k_ ≠ ((.slice Ao42 t120.length co42) : Value).ownBlock ∧ some k_ ≠ ((.slice Ao60 t174.length co60) : Value).ownBlock ∧ some k_ ≠ ((.slice Ao70 t145.length co70) : Value).ownBlock ∧ some k_ ≠ ((.slice Ao165 t195.length co165) : Value).ownBlock) (.slice Ao51 t172.length co51) t172) ∧ Qz (Kd.R k66 66 wc w.heap.size (fun k_ => some k_ ≠ ((.slice Ao42 t120.length co42) : Value).ownBlock ∧ some k_ ≠ ((.slice Ao51 t172.length co51) : Value).ownBlock ∧ some k_ ≠ ((.slice Ao70 t145.length co70) : Value).ownBlock ∧ some k_ ≠ ((.slice Ao165 t195.length co165) : Value).ownBlock) (.slice Ao60 t174.length co60) t174) ∧ Qz (Kd.R (Kd.int .i64) 2 wc w.heap.size (fun _ => True) (.slice Ao66 t175.length co66) t175) ∧ Qz (Kd.R k66 66 wc w.heap.size (fun k_ => some k_ ≠ ((.slice Ao42 t120.length co42) : Value).ownBlock ∧ some k_ ≠ ((.slice Ao51 t172.length co51) : Value).ownBlock ∧ some k_ ≠ ((.slice Ao60 t174.length co60) : Value).ownBlock ∧ some k_ ≠ ((.slice Ao165 t195.length co165) : Value).ownBlock) (.slice Ao70 t145.length co70) t178) ∧ Qz (Kd.R k66 66 wc w.heap.size (fun k_ => some k_ ≠ ((.slice Ao42 t120.length co42) : Value).ownBlock ∧ some k_ ≠ ((.slice Ao51 t172.length co51) : Value).ownBlock ∧ some k_ ≠ ((.slice Ao60 t174.length co60) : Value).ownBlock ∧ some k_ ≠ ((.slice Ao70 t145.length co70) : Value).ownBlock) (.slice Ao165 t195.length co165) t195) ∧ Qz (wc.heap[gb101]? = some (.cells #[(.slice A0_0 l0_0.length c0_0), .int .i64 a0_1, .int .i64 a0_2, .int .i64 a0_3] 24 (0, 0))) ∧ Qz (wc.heap[gb102]? = some (.cells #[(.slice A1_0 l1_0.length c1_0), (.slice A1_1 l1_1.length c1_1), .int .i64 a1_2, .int .i64 a1_3, .int .i64 a1_4] 27 (0, 0))) ∧ Qz (wc.heap[gb127]? = some (.cells #[(.slice Ao42 t120.length co42), .int .i64 t123, .int .i64 t124, .int .i64 t125] 32 (0, 0))) ∧ Qz (wc.heap[gb134]? = some (.cells #[(.slice Ao51 t172.length co51), .int .i64 t131, .int .i64 t132, .int .i64 t133] 32 (0, 0))) ∧ Qz (wc.heap[gb144]? = some (.cells #[(.slice Ao60 t174.length co60), (.slice Ao66 t175.length co66), .int .i64 t141, .int .i64 t142, .int .i64 t143] 37 (0, 0))) ∧ Qz (wc.heap[gb152]? = some (.cells #[(.slice Ao70 t145.length co70), .int .i64 t148, .int .i64 t149, .int .i64 t150] 32 (0, 0))) ∧ Qz (wc.heap[gb202]? = some (.cells #[(.slice Ao165 t195.length co165), .int .i64 t198, .int .i64 t199, .int .i64 t200] 32 (0, 0))) ∧ Qz (Below w.heap.size w wc))
             case first =>
              have H := HC146.out
              clear HC146
              replace H := Option.bind_eq_some_iff.mp H
              obtain ⟨t203, A1700, H⟩ := H
              replace H : (if t203 = true then (laws_FnExactApply.j2 kj99 t177 (t201 != t126) t178 t148 t149 t150) else (none)) = some r := H
              have A170 := Qz.mk A1700
              clear A1700
              by_cases c171 : t203 = true
              ·subst c171
               have H1 : (laws_FnExactApply.j2 kj99 t177 (t201 != t126) t178 t148 t149 t150) = some r := by rw [if_pos rfl] at H; exact H
               clear H
               have H := H1
               clear H1
               have H' := Qz.mk H
               clear H
               have hnb172 := NB202_101.out
               have hnc172 := NB101_202.out
               have hnb173 := NB202_102.out
               have hnc173 := NB102_202.out
               have hnb174 := NB202_127.out
               have hnc174 := NB127_202.out
               have hnb175 := NB202_134.out
               have hnc175 := NB134_202.out
               have hnb176 := NB202_144.out
               have hnc176 := NB144_202.out
               have hnb177 := NB202_152.out
               have hnc177 := NB152_202.out
               have hcz178_0 := (qa BK202.out 0).trans rfl
               have hcz178_1 := (qa BK202.out 1).trans rfl
               have hcz178_2 := (qa BK202.out 2).trans rfl
               have hcz178_3 := (qa BK202.out 3).trans rfl
               have hfz178_0 := qd BK202.out 0
               have hfz178_1 := qd BK202.out 1
               have hfz178_2 := qd BK202.out 2
               have hfz178_3 := qd BK202.out 3
               have hnb179 := NB127_101.out
               have hnc179 := NB101_127.out
               have hnb180 := NB127_102.out
               have hnc180 := NB102_127.out
               have hnb181 := NB127_134.out
               have hnc181 := NB134_127.out
               have hnb182 := NB127_144.out
               have hnc182 := NB144_127.out
               have hnb183 := NB127_152.out
               have hnc183 := NB152_127.out
               have hcz184_0 := (qa BK127.out 0).trans rfl
               have hcz184_1 := (qa BK127.out 1).trans rfl
               have hcz184_2 := (qa BK127.out 2).trans rfl
               have hcz184_3 := (qa BK127.out 3).trans rfl
               have hfz184_0 := qd BK127.out 0
               have hfz184_1 := qd BK127.out 1
               have hfz184_2 := qd BK127.out 2
               have hfz184_3 := qd BK127.out 3
               go_wp2_with (first | ((with_reducible refine qo (f := 21) rfl ?_); refine goesL_ (some 104) rfl rfl Try.func21 (by kernel_rfl) rfl #[.agg #[.slice Ao165 t195.length co165, .int .i64 t198, .int .i64 t199, .int .i64 t200], .agg #[.slice Ao42 t120.length co42, .int .i64 t123, .int .i64 t124, .int .i64 t125]] rfl yq79 ?_; (with_reducible refine (laws_eqVersion.calls kj99 _ _ t195 t198 t199 t200 _ _ t120 t123 t124 t125 true _ ?side1 ?side2 ?side3 ?side4 A170.out).mono ?_); (case side1 => refine (Kd.R_reads' (e := 66) (base := w.heap.size) (ok := fun k_ => (some k_ ≠ (v181 : Value).ownBlock ∧ (some k_ ≠ (v187 : Value).ownBlock ∧ (some k_ ≠ (.slice Ao42 t120.length co42 : Value).ownBlock ∧ (some k_ ≠ (.slice Ao51 t172.length co51 : Value).ownBlock ∧ (some k_ ≠ (.slice Ao60 t174.length co60 : Value).ownBlock ∧ some k_ ≠ (.slice Ao70 t145.length co70 : Value).ownBlock)))))) (n := t195.length) (c := co165) ?_).2.2; exact yq135); (case side2 => exact (Kd.R_reads' HO197.out).2.1); (case side3 => refine (Kd.R_reads' (e := 66) (base := w.heap.size) (ok := fun k_ => (some k_ ≠ (v181 : Value).ownBlock ∧ (some k_ ≠ (v187 : Value).ownBlock ∧ (some k_ ≠ (.slice Ao165 t195.length co165 : Value).ownBlock ∧ (some k_ ≠ (.slice Ao51 t172.length co51 : Value).ownBlock ∧ (some k_ ≠ (.slice Ao60 t174.length co60 : Value).ownBlock ∧ some k_ ≠ (.slice Ao70 t145.length co70 : Value).ownBlock)))))) (n := t120.length) (c := co42) ?_).2.2; exact yq134); (case side4 => exact (Kd.R_reads' HO_128000.out).2.1); rintro e w185 ⟨rfl, hb⟩; refine ⟨_, rfl, ?_⟩; replace HO_128000 := Qz.mk (Kd.R_below yq134 hb); replace HO_135000 := Qz.mk (Kd.R_below (by (with_reducible repeat (first | apply Kd.R_alloc | apply Kd.R_drewN | apply Kd.R_drew)); exact (Kd.R_mono (Kd.R_far (p := ⟨gb202, 3, none⟩) (Kd.R_far (p := ⟨gb202, 2, none⟩) (Kd.R_far (p := ⟨gb202, 1, none⟩) (Kd.R_far (p := ⟨gb202, 0, none⟩) (Kd.R_types HO_135000.out BK202.out (by decide)) (fun _ hk => hk.2) (.slice Ao165 t195.length co165)) (fun _ hk => hk.2) (.int .i64 t198)) (fun _ hk => hk.2) (.int .i64 t199)) (fun _ hk => hk.2) (.int .i64 t200)) (fun _ h_ => h_.1))) hb); replace HO_145000 := Qz.mk (Kd.R_below (by (with_reducible repeat (first | apply Kd.R_alloc | apply Kd.R_drewN | apply Kd.R_drew)); exact (Kd.R_mono (Kd.R_far (p := ⟨gb202, 3, none⟩) (Kd.R_far (p := ⟨gb202, 2, none⟩) (Kd.R_far (p := ⟨gb202, 1, none⟩) (Kd.R_far (p := ⟨gb202, 0, none⟩) (Kd.R_types HO_145000.out BK202.out (by decide)) (fun _ hk => hk.2) (.slice Ao165 t195.length co165)) (fun _ hk => hk.2) (.int .i64 t198)) (fun _ hk => hk.2) (.int .i64 t199)) (fun _ hk => hk.2) (.int .i64 t200)) (fun _ h_ => h_.1))) hb); replace HO_145001 := Qz.mk (Kd.R_below (by (with_reducible repeat (first | apply Kd.R_alloc | apply Kd.R_drewN | apply Kd.R_drew)); exact (Kd.R_mono (Kd.R_far (p := ⟨gb202, 3, none⟩) (Kd.R_far (p := ⟨gb202, 2, none⟩) (Kd.R_far (p := ⟨gb202, 1, none⟩) (Kd.R_far (p := ⟨gb202, 0, none⟩) (Kd.R_types HO_145001.out BK202.out (by decide)) (fun _ hk => hk.2) (.slice Ao165 t195.length co165)) (fun _ hk => hk.2) (.int .i64 t198)) (fun _ hk => hk.2) (.int .i64 t199)) (fun _ hk => hk.2) (.int .i64 t200)) (fun _ h_ => h_.1))) hb); replace HO_153000 := Qz.mk (Kd.R_below (by (with_reducible repeat (first | apply Kd.R_alloc | apply Kd.R_drewN | apply Kd.R_drew)); exact (Kd.R_mono (Kd.R_far (p := ⟨gb202, 3, none⟩) (Kd.R_far (p := ⟨gb202, 2, none⟩) (Kd.R_far (p := ⟨gb202, 1, none⟩) (Kd.R_far (p := ⟨gb202, 0, none⟩) (Kd.R_types HO_153000.out BK202.out (by decide)) (fun _ hk => hk.2) (.slice Ao165 t195.length co165)) (fun _ hk => hk.2) (.int .i64 t198)) (fun _ hk => hk.2) (.int .i64 t199)) (fun _ hk => hk.2) (.int .i64 t200)) (fun _ h_ => h_.1))) hb); replace HO182 := Qz.mk (Kd.R_below (by (with_reducible repeat (first | apply Kd.R_alloc | apply Kd.R_drewN | apply Kd.R_drew)); exact (Kd.R_mono (Kd.R_far (p := ⟨gb202, 3, none⟩) (Kd.R_far (p := ⟨gb202, 2, none⟩) (Kd.R_far (p := ⟨gb202, 1, none⟩) (Kd.R_far (p := ⟨gb202, 0, none⟩) (Kd.R_types HO182.out BK202.out (by decide)) (fun _ hk => hk.2) (.slice Ao165 t195.length co165)) (fun _ hk => hk.2) (.int .i64 t198)) (fun _ hk => hk.2) (.int .i64 t199)) (fun _ hk => hk.2) (.int .i64 t200)) (fun _ h_ => h_.1))) hb); replace HO188 := Qz.mk (Kd.R_below (by (with_reducible repeat (first | apply Kd.R_alloc | apply Kd.R_drewN | apply Kd.R_drew)); exact (Kd.R_mono (Kd.R_far (p := ⟨gb202, 3, none⟩) (Kd.R_far (p := ⟨gb202, 2, none⟩) (Kd.R_far (p := ⟨gb202, 1, none⟩) (Kd.R_far (p := ⟨gb202, 0, none⟩) (Kd.R_types HO188.out BK202.out (by decide)) (fun _ hk => hk.2) (.slice Ao165 t195.length co165)) (fun _ hk => hk.2) (.int .i64 t198)) (fun _ hk => hk.2) (.int .i64 t199)) (fun _ hk => hk.2) (.int .i64 t200)) (fun _ h_ => h_.1))) hb); replace HO191 := Qz.mk (Kd.R_below (by (with_reducible repeat (first | apply Kd.R_alloc | apply Kd.R_drewN | apply Kd.R_drew)); exact (Kd.R_mono (Kd.R_far (p := ⟨gb202, 3, none⟩) (Kd.R_far (p := ⟨gb202, 2, none⟩) (Kd.R_far (p := ⟨gb202, 1, none⟩) (Kd.R_far (p := ⟨gb202, 0, none⟩) (Kd.R_types HO191.out BK202.out (by decide)) (fun _ hk => hk.2) (.slice Ao165 t195.length co165)) (fun _ hk => hk.2) (.int .i64 t198)) (fun _ hk => hk.2) (.int .i64 t199)) (fun _ hk => hk.2) (.int .i64 t200)) (fun _ h_ => h_.1))) hb); replace HO197 := Qz.mk (Kd.R_below yq135 hb); replace BK101 := Qz.mk (qp (g := gb101) (o := .cells #[.slice A0_0 l0_0.length c0_0, .int .i64 a0_1, .int .i64 a0_2, .int .i64 a0_3] 24 (0, 0)) (by (with_reducible repeat (first | refine qf ?_ _ | refine qg ?_ | refine qe ?_ _)); refine qu ?_ NB101_202.out _; (with_reducible repeat (first | refine qf ?_ _ | refine qg ?_ | refine qe ?_ _)); refine qu ?_ NB101_202.out _; (with_reducible repeat (first | refine qf ?_ _ | refine qg ?_ | refine qe ?_ _)); refine qu ?_ NB101_202.out _; (with_reducible repeat (first | refine qf ?_ _ | refine qg ?_ | refine qe ?_ _)); refine qu ?_ NB101_202.out _; (with_reducible repeat (first | refine qf ?_ _ | refine qg ?_ | refine qe ?_ _)); exact BK101.out) hb); replace BK102 := Qz.mk (qp (g := gb102) (o := .cells #[.slice A1_0 l1_0.length c1_0, .slice A1_1 l1_1.length c1_1, .int .i64 a1_2, .int .i64 a1_3, .int .i64 a1_4] 27 (0, 0)) (by (with_reducible repeat (first | refine qf ?_ _ | refine qg ?_ | refine qe ?_ _)); refine qu ?_ NB102_202.out _; (with_reducible repeat (first | refine qf ?_ _ | refine qg ?_ | refine qe ?_ _)); refine qu ?_ NB102_202.out _; (with_reducible repeat (first | refine qf ?_ _ | refine qg ?_ | refine qe ?_ _)); refine qu ?_ NB102_202.out _; (with_reducible repeat (first | refine qf ?_ _ | refine qg ?_ | refine qe ?_ _)); refine qu ?_ NB102_202.out _; (with_reducible repeat (first | refine qf ?_ _ | refine qg ?_ | refine qe ?_ _)); exact BK102.out) hb); replace BK127 := Qz.mk (qp (g := gb127) (o := .cells #[.slice Ao42 t120.length co42, .int .i64 t123, .int .i64 t124, .int .i64 t125] 32 (0, 0)) (by (with_reducible repeat (first | refine qf ?_ _ | refine qg ?_ | refine qe ?_ _)); refine qu ?_ NB127_202.out _; (with_reducible repeat (first | refine qf ?_ _ | refine qg ?_ | refine qe ?_ _)); refine qu ?_ NB127_202.out _; (with_reducible repeat (first | refine qf ?_ _ | refine qg ?_ | refine qe ?_ _)); refine qu ?_ NB127_202.out _; (with_reducible repeat (first | refine qf ?_ _ | refine qg ?_ | refine qe ?_ _)); refine qu ?_ NB127_202.out _; (with_reducible repeat (first | refine qf ?_ _ | refine qg ?_ | refine qe ?_ _)); exact BK127.out) hb); replace BK134 := Qz.mk (qp (g := gb134) (o := .cells #[.slice Ao51 t172.length co51, .int .i64 t131, .int .i64 t132, .int .i64 t133] 32 (0, 0)) (by (with_reducible repeat (first | refine qf ?_ _ | refine qg ?_ | refine qe ?_ _)); refine qu ?_ NB134_202.out _; (with_reducible repeat (first | refine qf ?_ _ | refine qg ?_ | refine qe ?_ _)); refine qu ?_ NB134_202.out _; (with_reducible repeat (first | refine qf ?_ _ | refine qg ?_ | refine qe ?_ _)); refine qu ?_ NB134_202.out _; (with_reducible repeat (first | refine qf ?_ _ | refine qg ?_ | refine qe ?_ _)); refine qu ?_ NB134_202.out _; (with_reducible repeat (first | refine qf ?_ _ | refine qg ?_ | refine qe ?_ _)); exact BK134.out) hb); replace BK144 := Qz.mk (qp (g := gb144) (o := .cells #[.slice Ao60 t174.length co60, .slice Ao66 t175.length co66, .int .i64 t141, .int .i64 t142, .int .i64 t143] 37 (0, 0)) (by (with_reducible repeat (first | refine qf ?_ _ | refine qg ?_ | refine qe ?_ _)); refine qu ?_ NB144_202.out _; (with_reducible repeat (first | refine qf ?_ _ | refine qg ?_ | refine qe ?_ _)); refine qu ?_ NB144_202.out _; (with_reducible repeat (first | refine qf ?_ _ | refine qg ?_ | refine qe ?_ _)); refine qu ?_ NB144_202.out _; (with_reducible repeat (first | refine qf ?_ _ | refine qg ?_ | refine qe ?_ _)); refine qu ?_ NB144_202.out _; (with_reducible repeat (first | refine qf ?_ _ | refine qg ?_ | refine qe ?_ _)); exact BK144.out) hb); replace BK152 := Qz.mk (qp (g := gb152) (o := .cells #[.slice Ao70 t145.length co70, .int .i64 t148, .int .i64 t149, .int .i64 t150] 32 (0, 0)) (by (with_reducible repeat (first | refine qf ?_ _ | refine qg ?_ | refine qe ?_ _)); refine qu ?_ NB152_202.out _; (with_reducible repeat (first | refine qf ?_ _ | refine qg ?_ | refine qe ?_ _)); refine qu ?_ NB152_202.out _; (with_reducible repeat (first | refine qf ?_ _ | refine qg ?_ | refine qe ?_ _)); refine qu ?_ NB152_202.out _; (with_reducible repeat (first | refine qf ?_ _ | refine qg ?_ | refine qe ?_ _)); refine qu ?_ NB152_202.out _; (with_reducible repeat (first | refine qf ?_ _ | refine qg ?_ | refine qe ?_ _)); exact BK152.out) hb); replace BK202 := Qz.mk (qp (g := gb202) (o := .cells #[.slice Ao165 t195.length co165, .int .i64 t198, .int .i64 t199, .int .i64 t200] 32 (0, 0)) (by (with_reducible repeat (first | refine qf ?_ _ | refine qg ?_ | refine qe ?_ _)); refine blk_put (cs := #[.slice Ao165 t195.length co165, .int .i64 t198, .int .i64 t199, .int .i64 0]) ?_ 3 _ rfl; (with_reducible repeat (first | refine qf ?_ _ | refine qg ?_ | refine qe ?_ _)); refine blk_put (cs := #[.slice Ao165 t195.length co165, .int .i64 t198, .int .i64 0, .int .i64 0]) ?_ 2 _ rfl; (with_reducible repeat (first | refine qf ?_ _ | refine qg ?_ | refine qe ?_ _)); refine blk_put (cs := #[.slice Ao165 t195.length co165, .int .i64 0, .int .i64 0, .int .i64 0]) ?_ 1 _ rfl; (with_reducible repeat (first | refine qf ?_ _ | refine qg ?_ | refine qe ?_ _)); refine blk_put (cs := #[.slice none 0 0, .int .i64 0, .int .i64 0, .int .i64 0]) ?_ 0 _ rfl; (with_reducible repeat (first | refine qf ?_ _ | refine qg ?_ | refine qe ?_ _)); exact BK202.out) hb); replace HB := Qz.mk (qj yq80 hb); (try clear hb); (try clear hk)))
               go_meet
               case rel => exact ⟨_, ((t201 != t126)), (by first | rfl | (simp; done) | (simp [*]; done)), H', ⟨by have := HJ24.out; have := HJ99.out; first | omega | exact Nat.le_refl _⟩, ⟨by (try simp only [hl135000_99]); (try simp only [hl145000_99]); (try simp only [hl145001_99]); (with_reducible repeat (first | apply Kd.R_alloc | apply Kd.R_drewN | apply Kd.R_drew)); exact Kd.R_mono HO_128000.out (fun _ hk => ⟨hk.2.2.2.1, ⟨hk.2.2.2.2.1, ⟨hk.2.2.2.2.2, hk.2.2.1⟩⟩⟩)⟩, ⟨by (try simp only [hl135000_99]); (try simp only [hl145000_99]); (try simp only [hl145001_99]); (with_reducible repeat (first | apply Kd.R_alloc | apply Kd.R_drewN | apply Kd.R_drew)); exact Kd.R_mono HO_135000.out (fun _ hk => ⟨hk.2.2.2.1, ⟨hk.2.2.2.2.1, ⟨hk.2.2.2.2.2, hk.2.2.1⟩⟩⟩)⟩, ⟨by (try simp only [hl135000_99]); (try simp only [hl145000_99]); (try simp only [hl145001_99]); (with_reducible repeat (first | apply Kd.R_alloc | apply Kd.R_drewN | apply Kd.R_drew)); exact Kd.R_mono HO_145000.out (fun _ hk => ⟨hk.2.2.2.1, ⟨hk.2.2.2.2.1, ⟨hk.2.2.2.2.2, hk.2.2.1⟩⟩⟩)⟩, ⟨by (try simp only [hl135000_99]); (try simp only [hl145000_99]); (try simp only [hl145001_99]); (with_reducible repeat (first | apply Kd.R_alloc | apply Kd.R_drewN | apply Kd.R_drew)); exact Kd.R_mono HO_145001.out (fun _ hk => trivial)⟩, ⟨by (try simp only [hl135000_99]); (try simp only [hl145000_99]); (try simp only [hl145001_99]); (with_reducible repeat (first | apply Kd.R_alloc | apply Kd.R_drewN | apply Kd.R_drew)); exact Kd.R_mono HO_153000.out (fun _ hk => ⟨hk.2.2.2.1, ⟨hk.2.2.2.2.1, ⟨hk.2.2.2.2.2, hk.2.2.1⟩⟩⟩)⟩, ⟨by (try simp only [hl135000_99]); (try simp only [hl145000_99]); (try simp only [hl145001_99]); (with_reducible repeat (first | apply Kd.R_alloc | apply Kd.R_drewN | apply Kd.R_drew)); exact Kd.R_mono HO197.out (fun _ hk => ⟨hk.2.2.1, ⟨hk.2.2.2.1, ⟨hk.2.2.2.2.1, hk.2.2.2.2.2⟩⟩⟩)⟩, ⟨by (try simp only [hl135000_99]); (try simp only [hl145000_99]); (try simp only [hl145001_99]); (with_reducible repeat (first | refine qf ?_ _ | refine qg ?_ | refine qe ?_ _)); exact BK101.out⟩, ⟨by (try simp only [hl135000_99]); (try simp only [hl145000_99]); (try simp only [hl145001_99]); (with_reducible repeat (first | refine qf ?_ _ | refine qg ?_ | refine qe ?_ _)); exact BK102.out⟩, ⟨by (try simp only [hl135000_99]); (try simp only [hl145000_99]); (try simp only [hl145001_99]); (with_reducible repeat (first | refine qf ?_ _ | refine qg ?_ | refine qe ?_ _)); exact BK127.out⟩, ⟨by (try simp only [hl135000_99]); (try simp only [hl145000_99]); (try simp only [hl145001_99]); (with_reducible repeat (first | refine qf ?_ _ | refine qg ?_ | refine qe ?_ _)); exact BK134.out⟩, ⟨by (try simp only [hl135000_99]); (try simp only [hl145000_99]); (try simp only [hl145001_99]); (with_reducible repeat (first | refine qf ?_ _ | refine qg ?_ | refine qe ?_ _)); exact BK144.out⟩, ⟨by (try simp only [hl135000_99]); (try simp only [hl145000_99]); (try simp only [hl145001_99]); (with_reducible repeat (first | refine qf ?_ _ | refine qg ?_ | refine qe ?_ _)); exact BK152.out⟩, ⟨by (try simp only [hl135000_99]); (try simp only [hl145000_99]); (try simp only [hl145001_99]); (with_reducible repeat (first | refine qf ?_ _ | refine qg ?_ | refine qe ?_ _)); exact BK202.out⟩, ⟨by repeat (first | (with_reducible first | exact HB.out | apply qi | apply qb | apply qh | refine qc ?_ GE101.out | refine qc ?_ GE102.out | refine qc ?_ GE127.out | refine qc ?_ GE134.out | refine qc ?_ GE144.out | refine qc ?_ GE152.out | refine qc ?_ GE202.out) | exact HB.out)⟩⟩
              ·replace c171 := Bool.eq_false_iff.mpr c171
               subst c171
               have H1 : (none) = some r := by rw [if_neg (show ¬ (false = true) by decide)] at H; exact H
               clear H
               have H := H1
               clear H1
               exact absurd H (by simp)
             case rest =>
              clear HC146
              (try clear c1);(try clear c2);(try clear p2);(try clear c17);(try clear c18);(try clear c19);(try clear c20);(try clear c21);(try clear c171);(try clear c172);(try clear c173);(try clear c174);(try clear c175);(try clear c176);(try clear c177);(try clear c179);(try clear c180);(try clear c181);(try clear c182);(try clear c183);(try clear hcz178_0);(try clear hcz178_1);(try clear hcz178_2);(try clear hcz178_3);(try clear hcz184_0);(try clear hcz184_1);(try clear hcz184_2);(try clear hcz184_3);(try clear hfz178_0);(try clear hfz178_1);(try clear hfz178_2);(try clear hfz178_3);(try clear hfz184_0);(try clear hfz184_1);(try clear hfz184_2);(try clear hfz184_3)
              obtain ⟨kq, x110_145, rfl, HA, HJ145, HO_128000, HO_135000, HO_145000, HO_145001, HO_153000, HO_203000, BK101, BK102, BK127, BK134, BK144, BK152, BK202, HB⟩ := hcut
              have hl153000_145 := (Kd.R_reads' HO_153000.out).1
              rw [hl153000_145] at HO_153000
              (try simp only [hl153000_145])
              (try simp only [hl153000_145] at BK101)
              (try simp only [hl153000_145] at BK102)
              (try simp only [hl153000_145] at BK127)
              (try simp only [hl153000_145] at BK134)
              (try simp only [hl153000_145] at BK144)
              (try simp only [hl153000_145] at BK152)
              (try simp only [hl153000_145] at BK202)
              (try simp only [hl153000_145] at HO_128000)
              (try simp only [hl153000_145] at HO_135000)
              (try simp only [hl153000_145] at HO_145000)
              (try simp only [hl153000_145] at HO_145001)
              (try simp only [hl153000_145] at HO_203000)
              cases kq with
              | zero => exact absurd HA.out (by simp [laws_FnExactApply.j2])
              | succ kj145 =>
               have H := HA.out
               clear HA
               simp only [laws_FnExactApply.j2] at H
               by_cases c186 : x110_145 = true
               ·subst c186
                have H1 : (none) = some r := by rw [if_pos rfl] at H; exact H
                clear H
                have H := H1
                clear H1
                exact absurd H (by simp)
               ·replace c186 := Bool.eq_false_iff.mpr c186
                subst c186
                have H1 : ((laws_heldVersion.f kj145 t178 t148 t149 t150 1).bind fun t204 => (if t204 < 0 then (none) else (if t204 = t177 then (some true) else (none)))) = some r := by rw [if_neg (show ¬ (false = true) by decide)] at H; exact H
                clear H
                have H := H1
                clear H1
                replace H := Option.bind_eq_some_iff.mp H
                obtain ⟨t204, A1870, H⟩ := H
                replace H : (if t204 < 0 then (none) else (if t204 = t177 then (some true) else (none))) = some r := H
                have A187 := Qz.mk A1870
                clear A1870
                by_cases c188 : t204 < 0
                ·rw [if_pos c188] at H
                 exact absurd H (by simp)
                ·rw [if_neg c188] at H
                 have c188b0 : decide (t204 < 0) = false := decide_eq_false c188
                 clear c188
                 by_cases c189 : t204 = t177
                 ·rw [if_pos c189] at H
                  have c189b0 : (t204 == t177) = true := beq_iff_eq.mpr c189
                  have c189b1 : (t204 != t177) = false := bne_eq_false_iff_eq.mpr c189
                  clear c189
                  obtain rfl := Option.some.inj H
                  have hnb190 := NB152_101.out
                  have hnc190 := NB101_152.out
                  have hnb191 := NB152_102.out
                  have hnc191 := NB102_152.out
                  have hnb192 := NB152_127.out
                  have hnc192 := NB127_152.out
                  have hnb193 := NB152_134.out
                  have hnc193 := NB134_152.out
                  have hnb194 := NB152_144.out
                  have hnc194 := NB144_152.out
                  have hnb195 := NB152_202.out
                  have hnc195 := NB202_152.out
                  have hcz196_0 := (qa BK152.out 0).trans rfl
                  have hcz196_1 := (qa BK152.out 1).trans rfl
                  have hcz196_2 := (qa BK152.out 2).trans rfl
                  have hcz196_3 := (qa BK152.out 3).trans rfl
                  have hfz196_0 := qd BK152.out 0
                  have hfz196_1 := qd BK152.out 1
                  have hfz196_2 := qd BK152.out 2
                  have hfz196_3 := qd BK152.out 3
                  go_wp2_with (first | ((with_reducible refine qo (f := 25) rfl ?_); refine goesL_ (some 113) rfl rfl Try.func25 (by kernel_rfl) rfl #[.agg #[.slice Ao70 t178.length co70, .int .i64 t148, .int .i64 t149, .int .i64 t150], .int .i64 1] rfl yq79 ?_; (with_reducible refine (laws_heldVersion.calls kj145 _ _ t178 t148 t149 t150 1 t204 _ ?side1 ?side2 A187.out).mono ?_); (case side1 => repeat (first | exact (Kd.R_reads' HO_153000.out).2.2 | (with_reducible refine Kd.C_alloc ?_ _) | (with_reducible refine Kd.C_drewN ?_ _) | (with_reducible refine Kd.C_drew ?_))); (case side2 => exact (Kd.R_reads' HO_153000.out).2.1); rintro e w197 ⟨rfl, hb⟩; refine ⟨_, rfl, ?_⟩; replace HO_128000 := Qz.mk (Kd.R_below yq89 hb); replace HO_135000 := Qz.mk (Kd.R_below yq88 hb); replace HO_145000 := Qz.mk (Kd.R_below yq87 hb); replace HO_145001 := Qz.mk (Kd.R_below yq91 hb); replace HO_153000 := Qz.mk (Kd.R_below yq86 hb); replace HO_203000 := Qz.mk (Kd.R_below (by (with_reducible repeat (first | apply Kd.R_alloc | apply Kd.R_drewN | apply Kd.R_drew)); exact HO_203000.out) hb); replace BK101 := bkbf3 BK101 yq76 hb; replace BK102 := bkbf3 BK102 yq77 hb; replace BK127 := bkbf3 BK127 yq81 hb; replace BK134 := bkbf3 BK134 yq83 hb; replace BK144 := bkbf3 BK144 yq84 hb; replace BK152 := bkbf3 BK152 yq85 hb; replace BK202 := bkbf3 BK202 yq106 hb; replace HB := Qz.mk (qj yq80 hb); (try clear hb); (try clear hk)))
                  go_ret
                  exact ⟨by first | rfl | (simp [qn, qm] <;> rfl) | (simp [*, qn, qm] <;> rfl), by repeat (first | (with_reducible first | exact HB.out | apply qi | apply qb | apply qh | refine qc ?_ GE101.out | refine qc ?_ GE102.out | refine qc ?_ GE127.out | refine qc ?_ GE134.out | refine qc ?_ GE144.out | refine qc ?_ GE152.out | refine qc ?_ GE202.out) | exact HB.out)⟩
                 ·rw [if_neg c189] at H
                  exact absurd H (by simp)
            ·rw [if_neg c142] at H
             exact absurd H (by simp)
       ·replace c97 := Bool.eq_false_iff.mpr c97
        subst c97
        have H1 : (none) = some r := by rw [if_neg (show ¬ (false = true) by decide)] at H; exact H
        clear H
        have H := H1
        clear H1
        exact absurd H (by simp)
      ·replace c94 := Bool.eq_false_iff.mpr c94
       subst c94
       have H1 : (none) = some r := by rw [if_neg (show ¬ (false = true) by decide)] at H; exact H
       clear H
       have H := H1
       clear H1
       exact absurd H (by simp)
end Go.Proofs.Ytcgejabkjljeeaa.P
end
