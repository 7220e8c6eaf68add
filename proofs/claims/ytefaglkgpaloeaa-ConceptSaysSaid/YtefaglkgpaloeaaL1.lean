/- Of the seat Ytefaglkgpaloeaa, proved whatever the input: ConceptUps, ConceptDowns, ConceptNexts, ConceptSays: the law returns true and each argument reads behind the call as it read before. -/
import Derived.Test.YtefaglkgpaloeaaM2
import Derived.Test.YtefaglkgpaloeaaRows
namespace Go.Proofs.Ytefaglkgpaloeaa
open Go.ChangeShapes Go.WideShapes Go.ChangeAt Go.RowKit Sy

theorem Try.own : ownKnob Try.prog.godebug = none := by kernel_rfl
theorem Try.laidOut : laidOutB Try.prog = true := by kernel_rfl

theorem conceptUps_lifted (os : Os) (started : os.Started) (H : Type) (enc : TypeId × Value → H) :
    ReturnsInHanded {} Try.checked os 3 .any (Rows.conceptUpsSpec.pre6 enc Try.prog Try.f3 Rows.conceptUpsRow.domain false) (Rows.conceptUpsSpec.post enc Try.prog Try.f3 false true false false) := by
  refine returnsInHanded_of_change (C := Try.checked) Try.own started (by kernel_rfl) Try.func3
    (ChangeSpec.witness6 (enc := enc) (C := Try.checked) false ⟨#[], #[.int .i64 0, .slice none 0 0, .int .u32 0], []⟩ 8 (by kernel_rfl) (by kernel_rfl) (by kernel_rfl) (by kernel_rfl)) ?_
  intro W base args ds gs before hval0 hW hcnd _
  have hval : ∀ (j : Nat) t v, Try.f3.params[j]? = some t → args[j]? = some v → Value.okWide Try.prog W .any base t v := hval0
  have hW' := hW
  obtain ⟨p, q, hA0, hV, rfl, hfz, hnd⟩ := hW
  have hA : DataW.TrodAll enc Try.prog W 0 (fun _ => true) true [3, 22, 23] args.toList ds p := hA0
  obtain ⟨rfl, rfl⟩ := trodVars_none hV
  obtain ⟨v0, l0, d0, ds0, p0, q0, ev0, rfl, h0, hA1⟩ := trodAllC hA
  obtain ⟨v1, l1, d1, ds1, p1, q1, rfl, rfl, h1, hA2⟩ := trodAllC hA1
  obtain ⟨v2, l2, d2, ds2, p2, q2, rfl, rfl, h2, hA3⟩ := trodAllC hA2
  obtain ⟨rfl, rfl⟩ := trodAllN hA3
  obtain rfl : args = #[v0, v1, v2] := by rw [← Array.toList_inj, ev0]
  obtain ⟨a0, rfl, g0⟩ := arg_int Try.underlying3 (hval 0 _ _ rfl rfl) h0
  obtain ⟨a1, r1, g1⟩ := arg_slice (R := rU) Try.underlying22 (opn_slice (R := rU) Try.underlying22 (by kernel_rfl) (by decide) (opn_u32 Try.underlying23)) (hval 1 _ _ rfl rfl) h1
  obtain ⟨a2, rfl⟩ := arg_u32 Try.underlying23 (hval 2 _ _ rfl rfl) h2
  refine (syllogistlaw_ConceptUps_ok W (snapW W) [] _ _ _ r1 _ true (conceptUps_true _ _ _) W (cX_start W)).mono fun e W' ⟨he, hc⟩ => ⟨_, he, ?_⟩
  exact post_law hW' rfl rfl Try.laidOut (by kernel_rfl) rfl Try.underlying4 hc

theorem conceptUps_holds : Rows.ConceptUpsSaid :=
  OpenClaim.holds_of_wide 3 Try.f3 rfl rfl rfl rfl rfl rfl rfl ⟨rfl, rfl, rfl, rfl, rfl⟩ rfl rfl rfl rfl rfl (by kernel_rfl) Try.func3 (by kernel_rfl)
    (of_decide_eq_true (by kernel_rfl)) (by unfold Func.isWrapper; first | (rw [if_pos (by decide +kernel)]; kernel_rfl) | (rw [if_neg (by decide +kernel)]; exact ⟨rfl, rfl⟩))
    (fun os started H enc _ => conceptUps_lifted os started H enc)

theorem conceptDowns_lifted (os : Os) (started : os.Started) (H : Type) (enc : TypeId × Value → H) :
    ReturnsInHanded {} Try.checked os 4 .any (Rows.conceptDownsSpec.pre6 enc Try.prog Try.f4 Rows.conceptDownsRow.domain false) (Rows.conceptDownsSpec.post enc Try.prog Try.f4 false true false false) := by
  refine returnsInHanded_of_change (C := Try.checked) Try.own started (by kernel_rfl) Try.func4
    (ChangeSpec.witness6 (enc := enc) (C := Try.checked) false ⟨#[], #[.int .i64 0, .slice none 0 0, .int .u32 0], []⟩ 8 (by kernel_rfl) (by kernel_rfl) (by kernel_rfl) (by kernel_rfl)) ?_
  intro W base args ds gs before hval0 hW hcnd _
  have hval : ∀ (j : Nat) t v, Try.f4.params[j]? = some t → args[j]? = some v → Value.okWide Try.prog W .any base t v := hval0
  have hW' := hW
  obtain ⟨p, q, hA0, hV, rfl, hfz, hnd⟩ := hW
  have hA : DataW.TrodAll enc Try.prog W 0 (fun _ => true) true [3, 22, 23] args.toList ds p := hA0
  obtain ⟨rfl, rfl⟩ := trodVars_none hV
  obtain ⟨v0, l0, d0, ds0, p0, q0, ev0, rfl, h0, hA1⟩ := trodAllC hA
  obtain ⟨v1, l1, d1, ds1, p1, q1, rfl, rfl, h1, hA2⟩ := trodAllC hA1
  obtain ⟨v2, l2, d2, ds2, p2, q2, rfl, rfl, h2, hA3⟩ := trodAllC hA2
  obtain ⟨rfl, rfl⟩ := trodAllN hA3
  obtain rfl : args = #[v0, v1, v2] := by rw [← Array.toList_inj, ev0]
  obtain ⟨a0, rfl, g0⟩ := arg_int Try.underlying3 (hval 0 _ _ rfl rfl) h0
  obtain ⟨a1, r1, g1⟩ := arg_slice (R := rU) Try.underlying22 (opn_slice (R := rU) Try.underlying22 (by kernel_rfl) (by decide) (opn_u32 Try.underlying23)) (hval 1 _ _ rfl rfl) h1
  obtain ⟨a2, rfl⟩ := arg_u32 Try.underlying23 (hval 2 _ _ rfl rfl) h2
  refine (syllogistlaw_ConceptDowns_ok W (snapW W) [] _ _ _ r1 _ true (conceptDowns_true _ _ _) W (cX_start W)).mono fun e W' ⟨he, hc⟩ => ⟨_, he, ?_⟩
  exact post_law hW' rfl rfl Try.laidOut (by kernel_rfl) rfl Try.underlying4 hc

theorem conceptDowns_holds : Rows.ConceptDownsSaid :=
  OpenClaim.holds_of_wide 4 Try.f4 rfl rfl rfl rfl rfl rfl rfl ⟨rfl, rfl, rfl, rfl, rfl⟩ rfl rfl rfl rfl rfl (by kernel_rfl) Try.func4 (by kernel_rfl)
    (of_decide_eq_true (by kernel_rfl)) (by unfold Func.isWrapper; first | (rw [if_pos (by decide +kernel)]; kernel_rfl) | (rw [if_neg (by decide +kernel)]; exact ⟨rfl, rfl⟩))
    (fun os started H enc _ => conceptDowns_lifted os started H enc)

theorem conceptNexts_lifted (os : Os) (started : os.Started) (H : Type) (enc : TypeId × Value → H) :
    ReturnsInHanded {} Try.checked os 6 .any (Rows.conceptNextsSpec.pre6 enc Try.prog Try.f6 Rows.conceptNextsRow.domain false) (Rows.conceptNextsSpec.post enc Try.prog Try.f6 false true false false) := by
  refine returnsInHanded_of_change (C := Try.checked) Try.own started (by kernel_rfl) Try.func6
    (ChangeSpec.witness6 (enc := enc) (C := Try.checked) false ⟨#[], #[.int .i64 0, .slice none 0 0, .int .u32 0], []⟩ 8 (by kernel_rfl) (by kernel_rfl) (by kernel_rfl) (by kernel_rfl)) ?_
  intro W base args ds gs before hval0 hW hcnd _
  have hval : ∀ (j : Nat) t v, Try.f6.params[j]? = some t → args[j]? = some v → Value.okWide Try.prog W .any base t v := hval0
  have hW' := hW
  obtain ⟨p, q, hA0, hV, rfl, hfz, hnd⟩ := hW
  have hA : DataW.TrodAll enc Try.prog W 0 (fun _ => true) true [3, 22, 23] args.toList ds p := hA0
  obtain ⟨rfl, rfl⟩ := trodVars_none hV
  obtain ⟨v0, l0, d0, ds0, p0, q0, ev0, rfl, h0, hA1⟩ := trodAllC hA
  obtain ⟨v1, l1, d1, ds1, p1, q1, rfl, rfl, h1, hA2⟩ := trodAllC hA1
  obtain ⟨v2, l2, d2, ds2, p2, q2, rfl, rfl, h2, hA3⟩ := trodAllC hA2
  obtain ⟨rfl, rfl⟩ := trodAllN hA3
  obtain rfl : args = #[v0, v1, v2] := by rw [← Array.toList_inj, ev0]
  obtain ⟨a0, rfl, g0⟩ := arg_int Try.underlying3 (hval 0 _ _ rfl rfl) h0
  obtain ⟨a1, r1, g1⟩ := arg_slice (R := rU) Try.underlying22 (opn_slice (R := rU) Try.underlying22 (by kernel_rfl) (by decide) (opn_u32 Try.underlying23)) (hval 1 _ _ rfl rfl) h1
  obtain ⟨a2, rfl⟩ := arg_u32 Try.underlying23 (hval 2 _ _ rfl rfl) h2
  refine (syllogistlaw_ConceptNexts_ok W (snapW W) [] 20 _ _ _ r1 _ true (conceptNexts_true 20 _ _ _) W (cX_start W)).mono fun e W' ⟨he, hc⟩ => ⟨_, he, ?_⟩
  exact post_law hW' rfl rfl Try.laidOut (by kernel_rfl) rfl Try.underlying4 hc

theorem conceptNexts_holds : Rows.ConceptNextsSaid :=
  OpenClaim.holds_of_wide 6 Try.f6 rfl rfl rfl rfl rfl rfl rfl ⟨rfl, rfl, rfl, rfl, rfl⟩ rfl rfl rfl rfl rfl (by kernel_rfl) Try.func6 (by kernel_rfl)
    (of_decide_eq_true (by kernel_rfl)) (by unfold Func.isWrapper; first | (rw [if_pos (by decide +kernel)]; kernel_rfl) | (rw [if_neg (by decide +kernel)]; exact ⟨rfl, rfl⟩))
    (fun os started H enc _ => conceptNexts_lifted os started H enc)

theorem conceptSays_lifted (os : Os) (started : os.Started) (H : Type) (enc : TypeId × Value → H) :
    ReturnsInHanded {} Try.checked os 5 .any (Rows.conceptSaysSpec.pre6 enc Try.prog Try.f5 Rows.conceptSaysRow.domain false) (Rows.conceptSaysSpec.post enc Try.prog Try.f5 false true false false) := by
  refine returnsInHanded_of_change (C := Try.checked) Try.own started (by kernel_rfl) Try.func5
    (ChangeSpec.witness6 (enc := enc) (C := Try.checked) false ⟨#[], #[.int .i64 0, .slice none 0 0, .agg #[.int .u32 0, .int .u32 0]], []⟩ 8 (by kernel_rfl) (by kernel_rfl) (by kernel_rfl) (by kernel_rfl)) ?_
  intro W base args ds gs before hval0 hW hcnd _
  have hval : ∀ (j : Nat) t v, Try.f5.params[j]? = some t → args[j]? = some v → Value.okWide Try.prog W .any base t v := hval0
  have hW' := hW
  obtain ⟨p, q, hA0, hV, rfl, hfz, hnd⟩ := hW
  have hA : DataW.TrodAll enc Try.prog W 0 (fun _ => true) true [3, 22, 32] args.toList ds p := hA0
  obtain ⟨rfl, rfl⟩ := trodVars_none hV
  obtain ⟨v0, l0, d0, ds0, p0, q0, ev0, rfl, h0, hA1⟩ := trodAllC hA
  obtain ⟨v1, l1, d1, ds1, p1, q1, rfl, rfl, h1, hA2⟩ := trodAllC hA1
  obtain ⟨v2, l2, d2, ds2, p2, q2, rfl, rfl, h2, hA3⟩ := trodAllC hA2
  obtain ⟨rfl, rfl⟩ := trodAllN hA3
  obtain rfl : args = #[v0, v1, v2] := by rw [← Array.toList_inj, ev0]
  obtain ⟨a0, rfl, g0⟩ := arg_int Try.underlying3 (hval 0 _ _ rfl rfl) h0
  obtain ⟨a1, r1, g1⟩ := arg_slice (R := rU) Try.underlying22 (opn_slice (R := rU) Try.underlying22 (by kernel_rfl) (by decide) (opn_u32 Try.underlying23)) (hval 1 _ _ rfl rfl) h1
  obtain ⟨c2, a2, rfl, rfl, g2⟩ := arg_agg (R := rRule) Try.underlying32 opnRule (hval 2 _ _ rfl rfl) h2
  refine (syllogistlaw_ConceptSays_ok W (snapW W) [] _ _ _ r1 a2 true (conceptSays_true _ _ _) W (cX_start W)).mono fun e W' ⟨he, hc⟩ => ⟨_, he, ?_⟩
  exact post_law hW' rfl rfl Try.laidOut (by kernel_rfl) rfl Try.underlying4 hc

theorem conceptSays_holds : Rows.ConceptSaysSaid :=
  OpenClaim.holds_of_wide 5 Try.f5 rfl rfl rfl rfl rfl rfl rfl ⟨rfl, rfl, rfl, rfl, rfl⟩ rfl rfl rfl rfl rfl (by kernel_rfl) Try.func5 (by kernel_rfl)
    (of_decide_eq_true (by kernel_rfl)) (by unfold Func.isWrapper; first | (rw [if_pos (by decide +kernel)]; kernel_rfl) | (rw [if_neg (by decide +kernel)]; exact ⟨rfl, rfl⟩))
    (fun os started H enc _ => conceptSays_lifted os started H enc)
end Go.Proofs.Ytefaglkgpaloeaa
