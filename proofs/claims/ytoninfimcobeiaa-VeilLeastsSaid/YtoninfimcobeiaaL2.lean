/- Of the seat Ytoninfimcobeiaa, proved whatever the input: KnowMeets, VeilPicks, VeilCrowds, VeilLeasts: the law returns true and each argument reads behind the call as it read before. -/
import Derived.Test.YtoninfimcobeiaaM3
import Derived.Test.YtoninfimcobeiaaRows
namespace Go.Proofs.Ytoninfimcobeiaa
open Go.ChangeShapes Go.WideShapes Go.ChangeAt Go.RowKit Sy

theorem Try.own : ownKnob Try.prog.godebug = none := by kernel_rfl
theorem Try.laidOut : laidOutB Try.prog = true := by kernel_rfl

theorem knowMeets_lifted (os : Os) (started : os.Started) (H : Type) (enc : TypeId × Value → H) :
    ReturnsInHanded {} Try.checked os 4 .any (Rows.knowMeetsSpec.pre6 enc Try.prog Try.f4 Rows.knowMeetsRow.domain false) (Rows.knowMeetsSpec.post enc Try.prog Try.f4 false true false false) := by
  refine returnsInHanded_of_change (C := Try.checked) Try.own started (by kernel_rfl) Try.func4
    (ChangeSpec.witness6 (enc := enc) (C := Try.checked) false ⟨#[], #[.int .i64 0, .slice none 0 0], []⟩ 8 (by kernel_rfl) (by kernel_rfl) (by kernel_rfl) (by kernel_rfl)) ?_
  intro W base args ds gs before hval0 hW hcnd _
  have hval : ∀ (j : Nat) t v, Try.f4.params[j]? = some t → args[j]? = some v → Value.okWide Try.prog W .any base t v := hval0
  have hW' := hW
  obtain ⟨p, q, hA0, hV, rfl, hfz, hnd⟩ := hW
  have hA : DataW.TrodAll enc Try.prog W 0 (fun _ => true) true [3, 22] args.toList ds p := hA0
  obtain ⟨rfl, rfl⟩ := trodVars_none hV
  obtain ⟨v0, l0, d0, ds0, p0, q0, ev0, rfl, h0, hA1⟩ := trodAllC hA
  obtain ⟨v1, l1, d1, ds1, p1, q1, rfl, rfl, h1, hA2⟩ := trodAllC hA1
  obtain ⟨rfl, rfl⟩ := trodAllN hA2
  obtain rfl : args = #[v0, v1] := by rw [← Array.toList_inj, ev0]
  obtain ⟨a0, rfl, g0⟩ := arg_int Try.underlying3 (hval 0 _ _ rfl rfl) h0
  obtain ⟨a1, r1, g1⟩ := arg_slice (R := (Rp.slice rI)) Try.underlying22 (opn_slice (R := (Rp.slice rI)) Try.underlying22 (by kernel_rfl) (by decide) (opn_slice (R := rI) Try.underlying28 (by kernel_rfl) (by decide) (opn_int Try.underlying3))) (hval 1 _ _ rfl rfl) h1
  refine (syllogistlaw_KnowMeets_ok W (snapW W) [] 200 _ _ _ r1 true (knowMeets_true 200 _ _) W (cX_start W)).mono fun e W' ⟨he, hc⟩ => ⟨_, he, ?_⟩
  exact post_law hW' rfl rfl Try.laidOut (by kernel_rfl) rfl Try.underlying4 hc

theorem knowMeets_holds : Rows.KnowMeetsSaid :=
  OpenClaim.holds_of_wide 4 Try.f4 rfl rfl rfl rfl rfl rfl rfl ⟨rfl, rfl, rfl, rfl, rfl⟩ rfl rfl rfl rfl rfl (by kernel_rfl) Try.func4 (by kernel_rfl)
    (of_decide_eq_true (by kernel_rfl)) (by unfold Func.isWrapper; first | (rw [if_pos (by decide +kernel)]; kernel_rfl) | (rw [if_neg (by decide +kernel)]; exact ⟨rfl, rfl⟩))
    (fun os started H enc _ => knowMeets_lifted os started H enc)

theorem veilPicks_lifted (os : Os) (started : os.Started) (H : Type) (enc : TypeId × Value → H) :
    ReturnsInHanded {} Try.checked os 12 .any (Rows.veilPicksSpec.pre6 enc Try.prog Try.f12 Rows.veilPicksRow.domain false) (Rows.veilPicksSpec.post enc Try.prog Try.f12 false true false false) := by
  refine returnsInHanded_of_change (C := Try.checked) Try.own started (by kernel_rfl) Try.func12
    (ChangeSpec.witness6 (enc := enc) (C := Try.checked) false ⟨#[], #[.slice none 0 0, .int .u32 0, .slice none 0 0], []⟩ 8 (by kernel_rfl) (by kernel_rfl) (by kernel_rfl) (by kernel_rfl)) ?_
  intro W base args ds gs before hval0 hW hcnd _
  have hval : ∀ (j : Nat) t v, Try.f12.params[j]? = some t → args[j]? = some v → Value.okWide Try.prog W .any base t v := hval0
  have hW' := hW
  obtain ⟨p, q, hA0, hV, rfl, hfz, hnd⟩ := hW
  have hA : DataW.TrodAll enc Try.prog W 0 (fun _ => true) true [22, 23, 28] args.toList ds p := hA0
  obtain ⟨rfl, rfl⟩ := trodVars_none hV
  obtain ⟨v0, l0, d0, ds0, p0, q0, ev0, rfl, h0, hA1⟩ := trodAllC hA
  obtain ⟨v1, l1, d1, ds1, p1, q1, rfl, rfl, h1, hA2⟩ := trodAllC hA1
  obtain ⟨v2, l2, d2, ds2, p2, q2, rfl, rfl, h2, hA3⟩ := trodAllC hA2
  obtain ⟨rfl, rfl⟩ := trodAllN hA3
  obtain rfl : args = #[v0, v1, v2] := by rw [← Array.toList_inj, ev0]
  obtain ⟨a0, r0, g0⟩ := arg_slice (R := (Rp.slice rI)) Try.underlying22 (opn_slice (R := (Rp.slice rI)) Try.underlying22 (by kernel_rfl) (by decide) (opn_slice (R := rI) Try.underlying28 (by kernel_rfl) (by decide) (opn_int Try.underlying3))) (hval 0 _ _ rfl rfl) h0
  obtain ⟨a1, rfl⟩ := arg_u32 Try.underlying23 (hval 1 _ _ rfl rfl) h1
  obtain ⟨a2, r2, g2⟩ := arg_slice (R := rI) Try.underlying28 (opn_slice (R := rI) Try.underlying28 (by kernel_rfl) (by decide) (opn_int Try.underlying3)) (hval 2 _ _ rfl rfl) h2
  refine (syllogistlaw_VeilPicks_ok W (snapW W) [] _ _ r0 _ _ _ r2 true (veilPicks_true _ _ _) W (cX_start W)).mono fun e W' ⟨he, hc⟩ => ⟨_, he, ?_⟩
  exact post_law hW' rfl rfl Try.laidOut (by kernel_rfl) rfl Try.underlying4 hc

theorem veilPicks_holds : Rows.VeilPicksSaid :=
  OpenClaim.holds_of_wide 12 Try.f12 rfl rfl rfl rfl rfl rfl rfl ⟨rfl, rfl, rfl, rfl, rfl⟩ rfl rfl rfl rfl rfl (by kernel_rfl) Try.func12 (by kernel_rfl)
    (of_decide_eq_true (by kernel_rfl)) (by unfold Func.isWrapper; first | (rw [if_pos (by decide +kernel)]; kernel_rfl) | (rw [if_neg (by decide +kernel)]; exact ⟨rfl, rfl⟩))
    (fun os started H enc _ => veilPicks_lifted os started H enc)

theorem veilCrowds_lifted (os : Os) (started : os.Started) (H : Type) (enc : TypeId × Value → H) :
    ReturnsInHanded {} Try.checked os 13 .any (Rows.veilCrowdsSpec.pre6 enc Try.prog Try.f13 Rows.veilCrowdsRow.domain false) (Rows.veilCrowdsSpec.post enc Try.prog Try.f13 false true false false) := by
  refine returnsInHanded_of_change (C := Try.checked) Try.own started (by kernel_rfl) Try.func13
    (ChangeSpec.witness6 (enc := enc) (C := Try.checked) false ⟨#[], #[.slice none 0 0, .int .u32 0], []⟩ 8 (by kernel_rfl) (by kernel_rfl) (by kernel_rfl) (by kernel_rfl)) ?_
  intro W base args ds gs before hval0 hW hcnd _
  have hval : ∀ (j : Nat) t v, Try.f13.params[j]? = some t → args[j]? = some v → Value.okWide Try.prog W .any base t v := hval0
  have hW' := hW
  obtain ⟨p, q, hA0, hV, rfl, hfz, hnd⟩ := hW
  have hA : DataW.TrodAll enc Try.prog W 0 (fun _ => true) true [22, 23] args.toList ds p := hA0
  obtain ⟨rfl, rfl⟩ := trodVars_none hV
  obtain ⟨v0, l0, d0, ds0, p0, q0, ev0, rfl, h0, hA1⟩ := trodAllC hA
  obtain ⟨v1, l1, d1, ds1, p1, q1, rfl, rfl, h1, hA2⟩ := trodAllC hA1
  obtain ⟨rfl, rfl⟩ := trodAllN hA2
  obtain rfl : args = #[v0, v1] := by rw [← Array.toList_inj, ev0]
  obtain ⟨a0, r0, g0⟩ := arg_slice (R := (Rp.slice rI)) Try.underlying22 (opn_slice (R := (Rp.slice rI)) Try.underlying22 (by kernel_rfl) (by decide) (opn_slice (R := rI) Try.underlying28 (by kernel_rfl) (by decide) (opn_int Try.underlying3))) (hval 0 _ _ rfl rfl) h0
  obtain ⟨a1, rfl⟩ := arg_u32 Try.underlying23 (hval 1 _ _ rfl rfl) h1
  refine (syllogistlaw_VeilCrowds_ok W (snapW W) [] _ _ r0 _ true (veilCrowds_true _ _) W (cX_start W)).mono fun e W' ⟨he, hc⟩ => ⟨_, he, ?_⟩
  exact post_law hW' rfl rfl Try.laidOut (by kernel_rfl) rfl Try.underlying4 hc

theorem veilCrowds_holds : Rows.VeilCrowdsSaid :=
  OpenClaim.holds_of_wide 13 Try.f13 rfl rfl rfl rfl rfl rfl rfl ⟨rfl, rfl, rfl, rfl, rfl⟩ rfl rfl rfl rfl rfl (by kernel_rfl) Try.func13 (by kernel_rfl)
    (of_decide_eq_true (by kernel_rfl)) (by unfold Func.isWrapper; first | (rw [if_pos (by decide +kernel)]; kernel_rfl) | (rw [if_neg (by decide +kernel)]; exact ⟨rfl, rfl⟩))
    (fun os started H enc _ => veilCrowds_lifted os started H enc)

theorem veilLeasts_lifted (os : Os) (started : os.Started) (H : Type) (enc : TypeId × Value → H) :
    ReturnsInHanded {} Try.checked os 14 .any (Rows.veilLeastsSpec.pre6 enc Try.prog Try.f14 Rows.veilLeastsRow.domain false) (Rows.veilLeastsSpec.post enc Try.prog Try.f14 false true false false) := by
  refine returnsInHanded_of_change (C := Try.checked) Try.own started (by kernel_rfl) Try.func14
    (ChangeSpec.witness6 (enc := enc) (C := Try.checked) false ⟨#[], #[.slice none 0 0, .int .i64 0], []⟩ 8 (by kernel_rfl) (by kernel_rfl) (by kernel_rfl) (by kernel_rfl)) ?_
  intro W base args ds gs before hval0 hW hcnd _
  have hval : ∀ (j : Nat) t v, Try.f14.params[j]? = some t → args[j]? = some v → Value.okWide Try.prog W .any base t v := hval0
  have hW' := hW
  obtain ⟨p, q, hA0, hV, rfl, hfz, hnd⟩ := hW
  have hA : DataW.TrodAll enc Try.prog W 0 (fun _ => true) true [22, 3] args.toList ds p := hA0
  obtain ⟨rfl, rfl⟩ := trodVars_none hV
  obtain ⟨v0, l0, d0, ds0, p0, q0, ev0, rfl, h0, hA1⟩ := trodAllC hA
  obtain ⟨v1, l1, d1, ds1, p1, q1, rfl, rfl, h1, hA2⟩ := trodAllC hA1
  obtain ⟨rfl, rfl⟩ := trodAllN hA2
  obtain rfl : args = #[v0, v1] := by rw [← Array.toList_inj, ev0]
  obtain ⟨a0, r0, g0⟩ := arg_slice (R := (Rp.slice rI)) Try.underlying22 (opn_slice (R := (Rp.slice rI)) Try.underlying22 (by kernel_rfl) (by decide) (opn_slice (R := rI) Try.underlying28 (by kernel_rfl) (by decide) (opn_int Try.underlying3))) (hval 0 _ _ rfl rfl) h0
  obtain ⟨a1, rfl, g1⟩ := arg_int Try.underlying3 (hval 1 _ _ rfl rfl) h1
  refine (syllogistlaw_VeilLeasts_ok W (snapW W) [] 200 _ _ r0 _ true (veilLeasts_true 200 _ _) W (cX_start W)).mono fun e W' ⟨he, hc⟩ => ⟨_, he, ?_⟩
  exact post_law hW' rfl rfl Try.laidOut (by kernel_rfl) rfl Try.underlying4 hc

theorem veilLeasts_holds : Rows.VeilLeastsSaid :=
  OpenClaim.holds_of_wide 14 Try.f14 rfl rfl rfl rfl rfl rfl rfl ⟨rfl, rfl, rfl, rfl, rfl⟩ rfl rfl rfl rfl rfl (by kernel_rfl) Try.func14 (by kernel_rfl)
    (of_decide_eq_true (by kernel_rfl)) (by unfold Func.isWrapper; first | (rw [if_pos (by decide +kernel)]; kernel_rfl) | (rw [if_neg (by decide +kernel)]; exact ⟨rfl, rfl⟩))
    (fun os started H enc _ => veilLeasts_lifted os started H enc)
end Go.Proofs.Ytoninfimcobeiaa
