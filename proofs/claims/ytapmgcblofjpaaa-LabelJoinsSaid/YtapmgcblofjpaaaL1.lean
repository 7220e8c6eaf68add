/- Of the seat Ytapmgcblofjpaaa, proved whatever the input: LabelChecks, LabelTells, LabelNumbers, LabelMeets, LabelUnders, LabelJoins: the law returns true and each argument reads behind the call as it read before. -/
import Derived.Test.YtapmgcblofjpaaaM1
import Derived.Test.YtapmgcblofjpaaaRows
namespace Go.Proofs.Ytapmgcblofjpaaa
open Go.ChangeShapes Go.WideShapes Go.ChangeAt Go.RowKit Sy

theorem Try.own : ownKnob Try.prog.godebug = none := by kernel_rfl
theorem Try.laidOut : laidOutB Try.prog = true := by kernel_rfl

theorem labelChecks_lifted (os : Os) (started : os.Started) (H : Type) (enc : TypeId × Value → H) :
    ReturnsInHanded {} Try.checked os 3 .any (Rows.labelChecksSpec.pre6 enc Try.prog Try.f3 Rows.labelChecksRow.domain false) (Rows.labelChecksSpec.post enc Try.prog Try.f3 false true false false) := by
  refine returnsInHanded_of_change (C := Try.checked) Try.own started (by kernel_rfl) Try.func3
    (ChangeSpec.witness6 (enc := enc) (C := Try.checked) false ⟨#[], #[.agg #[.int .i64 0, .int .u32 0]], []⟩ 8 (by kernel_rfl) (by kernel_rfl) (by kernel_rfl) (by kernel_rfl)) ?_
  intro W base args ds gs before hval0 hW hcnd _
  have hval : ∀ (j : Nat) t v, Try.f3.params[j]? = some t → args[j]? = some v → Value.okWide Try.prog W .any base t v := hval0
  have hW' := hW
  obtain ⟨p, q, hA0, hV, rfl, hfz, hnd⟩ := hW
  have hA : DataW.TrodAll enc Try.prog W 0 (fun _ => true) true [24] args.toList ds p := hA0
  obtain ⟨rfl, rfl⟩ := trodVars_none hV
  obtain ⟨v0, l0, d0, ds0, p0, q0, ev0, rfl, h0, hA1⟩ := trodAllC hA
  obtain ⟨rfl, rfl⟩ := trodAllN hA1
  obtain rfl : args = #[v0] := by rw [← Array.toList_inj, ev0]
  obtain ⟨c0, a0, rfl, rfl, g0⟩ := arg_agg (R := rLabel) Try.underlying24 opnLabel (hval 0 _ _ rfl rfl) h0
  refine (syllogistlaw_LabelChecks_ok W (snapW W) [] a0 true (labelChecks_true _) W (cX_start W)).mono fun e W' ⟨he, hc⟩ => ⟨_, he, ?_⟩
  exact post_law hW' rfl rfl Try.laidOut (by kernel_rfl) rfl Try.underlying4 hc

theorem labelChecks_holds : Rows.LabelChecksSaid :=
  OpenClaim.holds_of_wide 3 Try.f3 rfl rfl rfl rfl rfl rfl rfl ⟨rfl, rfl, rfl, rfl, rfl⟩ rfl rfl rfl rfl rfl (by kernel_rfl) Try.func3 (by kernel_rfl)
    (of_decide_eq_true (by kernel_rfl)) (by unfold Func.isWrapper; first | (rw [if_pos (by decide +kernel)]; kernel_rfl) | (rw [if_neg (by decide +kernel)]; exact ⟨rfl, rfl⟩))
    (fun os started H enc _ => labelChecks_lifted os started H enc)

theorem labelTells_lifted (os : Os) (started : os.Started) (H : Type) (enc : TypeId × Value → H) :
    ReturnsInHanded {} Try.checked os 4 .any (Rows.labelTellsSpec.pre6 enc Try.prog Try.f4 Rows.labelTellsRow.domain false) (Rows.labelTellsSpec.post enc Try.prog Try.f4 false true false false) := by
  refine returnsInHanded_of_change (C := Try.checked) Try.own started (by kernel_rfl) Try.func4
    (ChangeSpec.witness6 (enc := enc) (C := Try.checked) false ⟨#[], #[.int .i64 0], []⟩ 8 (by kernel_rfl) (by kernel_rfl) (by kernel_rfl) (by kernel_rfl)) ?_
  intro W base args ds gs before hval0 hW hcnd _
  have hval : ∀ (j : Nat) t v, Try.f4.params[j]? = some t → args[j]? = some v → Value.okWide Try.prog W .any base t v := hval0
  have hW' := hW
  obtain ⟨p, q, hA0, hV, rfl, hfz, hnd⟩ := hW
  have hA : DataW.TrodAll enc Try.prog W 0 (fun _ => true) true [3] args.toList ds p := hA0
  obtain ⟨rfl, rfl⟩ := trodVars_none hV
  obtain ⟨v0, l0, d0, ds0, p0, q0, ev0, rfl, h0, hA1⟩ := trodAllC hA
  obtain ⟨rfl, rfl⟩ := trodAllN hA1
  obtain rfl : args = #[v0] := by rw [← Array.toList_inj, ev0]
  obtain ⟨a0, rfl, g0⟩ := arg_int Try.underlying3 (hval 0 _ _ rfl rfl) h0
  refine (syllogistlaw_LabelTells_ok W (snapW W) [] _ true (labelTells_true _) W (cX_start W)).mono fun e W' ⟨he, hc⟩ => ⟨_, he, ?_⟩
  exact post_law hW' rfl rfl Try.laidOut (by kernel_rfl) rfl Try.underlying4 hc

theorem labelTells_holds : Rows.LabelTellsSaid :=
  OpenClaim.holds_of_wide 4 Try.f4 rfl rfl rfl rfl rfl rfl rfl ⟨rfl, rfl, rfl, rfl, rfl⟩ rfl rfl rfl rfl rfl (by kernel_rfl) Try.func4 (by kernel_rfl)
    (of_decide_eq_true (by kernel_rfl)) (by unfold Func.isWrapper; first | (rw [if_pos (by decide +kernel)]; kernel_rfl) | (rw [if_neg (by decide +kernel)]; exact ⟨rfl, rfl⟩))
    (fun os started H enc _ => labelTells_lifted os started H enc)

theorem labelNumbers_lifted (os : Os) (started : os.Started) (H : Type) (enc : TypeId × Value → H) :
    ReturnsInHanded {} Try.checked os 5 .any (Rows.labelNumbersSpec.pre6 enc Try.prog Try.f5 Rows.labelNumbersRow.domain false) (Rows.labelNumbersSpec.post enc Try.prog Try.f5 false true false false) := by
  refine returnsInHanded_of_change (C := Try.checked) Try.own started (by kernel_rfl) Try.func5
    (ChangeSpec.witness6 (enc := enc) (C := Try.checked) false ⟨#[], #[.agg #[.int .i64 0, .int .u32 0]], []⟩ 8 (by kernel_rfl) (by kernel_rfl) (by kernel_rfl) (by kernel_rfl)) ?_
  intro W base args ds gs before hval0 hW hcnd _
  have hval : ∀ (j : Nat) t v, Try.f5.params[j]? = some t → args[j]? = some v → Value.okWide Try.prog W .any base t v := hval0
  have hW' := hW
  obtain ⟨p, q, hA0, hV, rfl, hfz, hnd⟩ := hW
  have hA : DataW.TrodAll enc Try.prog W 0 (fun _ => true) true [24] args.toList ds p := hA0
  obtain ⟨rfl, rfl⟩ := trodVars_none hV
  obtain ⟨v0, l0, d0, ds0, p0, q0, ev0, rfl, h0, hA1⟩ := trodAllC hA
  obtain ⟨rfl, rfl⟩ := trodAllN hA1
  obtain rfl : args = #[v0] := by rw [← Array.toList_inj, ev0]
  obtain ⟨c0, a0, rfl, rfl, g0⟩ := arg_agg (R := rLabel) Try.underlying24 opnLabel (hval 0 _ _ rfl rfl) h0
  refine (syllogistlaw_LabelNumbers_ok W (snapW W) [] a0 true (labelNumbers_true _) W (cX_start W)).mono fun e W' ⟨he, hc⟩ => ⟨_, he, ?_⟩
  exact post_law hW' rfl rfl Try.laidOut (by kernel_rfl) rfl Try.underlying4 hc

theorem labelNumbers_holds : Rows.LabelNumbersSaid :=
  OpenClaim.holds_of_wide 5 Try.f5 rfl rfl rfl rfl rfl rfl rfl ⟨rfl, rfl, rfl, rfl, rfl⟩ rfl rfl rfl rfl rfl (by kernel_rfl) Try.func5 (by kernel_rfl)
    (of_decide_eq_true (by kernel_rfl)) (by unfold Func.isWrapper; first | (rw [if_pos (by decide +kernel)]; kernel_rfl) | (rw [if_neg (by decide +kernel)]; exact ⟨rfl, rfl⟩))
    (fun os started H enc _ => labelNumbers_lifted os started H enc)

theorem labelMeets_lifted (os : Os) (started : os.Started) (H : Type) (enc : TypeId × Value → H) :
    ReturnsInHanded {} Try.checked os 6 .any (Rows.labelMeetsSpec.pre6 enc Try.prog Try.f6 Rows.labelMeetsRow.domain false) (Rows.labelMeetsSpec.post enc Try.prog Try.f6 false true false false) := by
  refine returnsInHanded_of_change (C := Try.checked) Try.own started (by kernel_rfl) Try.func6
    (ChangeSpec.witness6 (enc := enc) (C := Try.checked) false ⟨#[], #[.agg #[.int .i64 0, .int .u32 0], .agg #[.int .i64 0, .int .u32 0]], []⟩ 8 (by kernel_rfl) (by kernel_rfl) (by kernel_rfl) (by kernel_rfl)) ?_
  intro W base args ds gs before hval0 hW hcnd _
  have hval : ∀ (j : Nat) t v, Try.f6.params[j]? = some t → args[j]? = some v → Value.okWide Try.prog W .any base t v := hval0
  have hW' := hW
  obtain ⟨p, q, hA0, hV, rfl, hfz, hnd⟩ := hW
  have hA : DataW.TrodAll enc Try.prog W 0 (fun _ => true) true [24, 24] args.toList ds p := hA0
  obtain ⟨rfl, rfl⟩ := trodVars_none hV
  obtain ⟨v0, l0, d0, ds0, p0, q0, ev0, rfl, h0, hA1⟩ := trodAllC hA
  obtain ⟨v1, l1, d1, ds1, p1, q1, rfl, rfl, h1, hA2⟩ := trodAllC hA1
  obtain ⟨rfl, rfl⟩ := trodAllN hA2
  obtain rfl : args = #[v0, v1] := by rw [← Array.toList_inj, ev0]
  obtain ⟨c0, a0, rfl, rfl, g0⟩ := arg_agg (R := rLabel) Try.underlying24 opnLabel (hval 0 _ _ rfl rfl) h0
  obtain ⟨c1, a1, rfl, rfl, g1⟩ := arg_agg (R := rLabel) Try.underlying24 opnLabel (hval 1 _ _ rfl rfl) h1
  refine (syllogistlaw_LabelMeets_ok W (snapW W) [] a0 a1 true (labelMeets_true _ _) W (cX_start W)).mono fun e W' ⟨he, hc⟩ => ⟨_, he, ?_⟩
  exact post_law hW' rfl rfl Try.laidOut (by kernel_rfl) rfl Try.underlying4 hc

theorem labelMeets_holds : Rows.LabelMeetsSaid :=
  OpenClaim.holds_of_wide 6 Try.f6 rfl rfl rfl rfl rfl rfl rfl ⟨rfl, rfl, rfl, rfl, rfl⟩ rfl rfl rfl rfl rfl (by kernel_rfl) Try.func6 (by kernel_rfl)
    (of_decide_eq_true (by kernel_rfl)) (by unfold Func.isWrapper; first | (rw [if_pos (by decide +kernel)]; kernel_rfl) | (rw [if_neg (by decide +kernel)]; exact ⟨rfl, rfl⟩))
    (fun os started H enc _ => labelMeets_lifted os started H enc)

theorem labelUnders_lifted (os : Os) (started : os.Started) (H : Type) (enc : TypeId × Value → H) :
    ReturnsInHanded {} Try.checked os 7 .any (Rows.labelUndersSpec.pre6 enc Try.prog Try.f7 Rows.labelUndersRow.domain false) (Rows.labelUndersSpec.post enc Try.prog Try.f7 false true false false) := by
  refine returnsInHanded_of_change (C := Try.checked) Try.own started (by kernel_rfl) Try.func7
    (ChangeSpec.witness6 (enc := enc) (C := Try.checked) false ⟨#[], #[.agg #[.int .i64 0, .int .u32 0], .agg #[.int .i64 0, .int .u32 0]], []⟩ 8 (by kernel_rfl) (by kernel_rfl) (by kernel_rfl) (by kernel_rfl)) ?_
  intro W base args ds gs before hval0 hW hcnd _
  have hval : ∀ (j : Nat) t v, Try.f7.params[j]? = some t → args[j]? = some v → Value.okWide Try.prog W .any base t v := hval0
  have hW' := hW
  obtain ⟨p, q, hA0, hV, rfl, hfz, hnd⟩ := hW
  have hA : DataW.TrodAll enc Try.prog W 0 (fun _ => true) true [24, 24] args.toList ds p := hA0
  obtain ⟨rfl, rfl⟩ := trodVars_none hV
  obtain ⟨v0, l0, d0, ds0, p0, q0, ev0, rfl, h0, hA1⟩ := trodAllC hA
  obtain ⟨v1, l1, d1, ds1, p1, q1, rfl, rfl, h1, hA2⟩ := trodAllC hA1
  obtain ⟨rfl, rfl⟩ := trodAllN hA2
  obtain rfl : args = #[v0, v1] := by rw [← Array.toList_inj, ev0]
  obtain ⟨c0, a0, rfl, rfl, g0⟩ := arg_agg (R := rLabel) Try.underlying24 opnLabel (hval 0 _ _ rfl rfl) h0
  obtain ⟨c1, a1, rfl, rfl, g1⟩ := arg_agg (R := rLabel) Try.underlying24 opnLabel (hval 1 _ _ rfl rfl) h1
  refine (syllogistlaw_LabelUnders_ok W (snapW W) [] a0 a1 true (labelUnders_true _ _) W (cX_start W)).mono fun e W' ⟨he, hc⟩ => ⟨_, he, ?_⟩
  exact post_law hW' rfl rfl Try.laidOut (by kernel_rfl) rfl Try.underlying4 hc

theorem labelUnders_holds : Rows.LabelUndersSaid :=
  OpenClaim.holds_of_wide 7 Try.f7 rfl rfl rfl rfl rfl rfl rfl ⟨rfl, rfl, rfl, rfl, rfl⟩ rfl rfl rfl rfl rfl (by kernel_rfl) Try.func7 (by kernel_rfl)
    (of_decide_eq_true (by kernel_rfl)) (by unfold Func.isWrapper; first | (rw [if_pos (by decide +kernel)]; kernel_rfl) | (rw [if_neg (by decide +kernel)]; exact ⟨rfl, rfl⟩))
    (fun os started H enc _ => labelUnders_lifted os started H enc)

theorem labelJoins_lifted (os : Os) (started : os.Started) (H : Type) (enc : TypeId × Value → H) :
    ReturnsInHanded {} Try.checked os 8 .any (Rows.labelJoinsSpec.pre6 enc Try.prog Try.f8 Rows.labelJoinsRow.domain false) (Rows.labelJoinsSpec.post enc Try.prog Try.f8 false true false false) := by
  refine returnsInHanded_of_change (C := Try.checked) Try.own started (by kernel_rfl) Try.func8
    (ChangeSpec.witness6 (enc := enc) (C := Try.checked) false ⟨#[], #[.agg #[.int .i64 0, .int .u32 0], .agg #[.int .i64 0, .int .u32 0]], []⟩ 8 (by kernel_rfl) (by kernel_rfl) (by kernel_rfl) (by kernel_rfl)) ?_
  intro W base args ds gs before hval0 hW hcnd _
  have hval : ∀ (j : Nat) t v, Try.f8.params[j]? = some t → args[j]? = some v → Value.okWide Try.prog W .any base t v := hval0
  have hW' := hW
  obtain ⟨p, q, hA0, hV, rfl, hfz, hnd⟩ := hW
  have hA : DataW.TrodAll enc Try.prog W 0 (fun _ => true) true [24, 24] args.toList ds p := hA0
  obtain ⟨rfl, rfl⟩ := trodVars_none hV
  obtain ⟨v0, l0, d0, ds0, p0, q0, ev0, rfl, h0, hA1⟩ := trodAllC hA
  obtain ⟨v1, l1, d1, ds1, p1, q1, rfl, rfl, h1, hA2⟩ := trodAllC hA1
  obtain ⟨rfl, rfl⟩ := trodAllN hA2
  obtain rfl : args = #[v0, v1] := by rw [← Array.toList_inj, ev0]
  obtain ⟨c0, a0, rfl, rfl, g0⟩ := arg_agg (R := rLabel) Try.underlying24 opnLabel (hval 0 _ _ rfl rfl) h0
  obtain ⟨c1, a1, rfl, rfl, g1⟩ := arg_agg (R := rLabel) Try.underlying24 opnLabel (hval 1 _ _ rfl rfl) h1
  refine (syllogistlaw_LabelJoins_ok W (snapW W) [] a0 a1 true (labelJoins_true _ _) W (cX_start W)).mono fun e W' ⟨he, hc⟩ => ⟨_, he, ?_⟩
  exact post_law hW' rfl rfl Try.laidOut (by kernel_rfl) rfl Try.underlying4 hc

theorem labelJoins_holds : Rows.LabelJoinsSaid :=
  OpenClaim.holds_of_wide 8 Try.f8 rfl rfl rfl rfl rfl rfl rfl ⟨rfl, rfl, rfl, rfl, rfl⟩ rfl rfl rfl rfl rfl (by kernel_rfl) Try.func8 (by kernel_rfl)
    (of_decide_eq_true (by kernel_rfl)) (by unfold Func.isWrapper; first | (rw [if_pos (by decide +kernel)]; kernel_rfl) | (rw [if_neg (by decide +kernel)]; exact ⟨rfl, rfl⟩))
    (fun os started H enc _ => labelJoins_lifted os started H enc)
end Go.Proofs.Ytapmgcblofjpaaa
