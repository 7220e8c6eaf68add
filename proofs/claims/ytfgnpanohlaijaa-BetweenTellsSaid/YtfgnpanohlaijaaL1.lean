/- Of the seat Ytfgnpanohlaijaa, proved whatever the input: TruthDuals, TruthSums, TruthClasses, TruthWholes, BetweenLeasts, BetweenMosts, BetweenTells: the law returns true and each argument reads behind the call as it read before. -/
import Derived.Test.YtfgnpanohlaijaaM4
import Derived.Test.YtfgnpanohlaijaaRows
namespace Go.Proofs.Ytfgnpanohlaijaa
open Go.ChangeShapes Go.WideShapes Go.ChangeAt Go.RowKit Sy

theorem Try.own : ownKnob Try.prog.godebug = none := by kernel_rfl
theorem Try.laidOut : laidOutB Try.prog = true := by kernel_rfl

theorem truthDuals_lifted (os : Os) (started : os.Started) (H : Type) (enc : TypeId × Value → H) :
    ReturnsInHanded {} Try.checked os 3 .any (Rows.truthDualsSpec.pre6 enc Try.prog Try.f3 Rows.truthDualsRow.domain false) (Rows.truthDualsSpec.post enc Try.prog Try.f3 false true false false) := by
  refine returnsInHanded_of_change (C := Try.checked) Try.own started (by kernel_rfl) Try.func3
    (ChangeSpec.witness6 (enc := enc) (C := Try.checked) false ⟨#[], #[.int .i64 0, .slice none 0 0], []⟩ 8 (by kernel_rfl) (by kernel_rfl) (by kernel_rfl) (by kernel_rfl)) ?_
  intro W base args ds gs before hval0 hW hcnd _
  have hval : ∀ (j : Nat) t v, Try.f3.params[j]? = some t → args[j]? = some v → Value.okWide Try.prog W .any base t v := hval0
  have hW' := hW
  obtain ⟨p, q, hA0, hV, rfl, hfz, hnd⟩ := hW
  have hA : DataW.TrodAll enc Try.prog W 0 (fun _ => true) true [3, 22] args.toList ds p := hA0
  obtain ⟨rfl, rfl⟩ := trodVars_none hV
  obtain ⟨v0, l0, d0, ds0, p0, q0, ev0, rfl, h0, hA1⟩ := trodAllC hA
  obtain ⟨v1, l1, d1, ds1, p1, q1, rfl, rfl, h1, hA2⟩ := trodAllC hA1
  obtain ⟨rfl, rfl⟩ := trodAllN hA2
  obtain rfl : args = #[v0, v1] := by rw [← Array.toList_inj, ev0]
  obtain ⟨a0, rfl, g0⟩ := arg_int Try.underlying3 (hval 0 _ _ rfl rfl) h0
  obtain ⟨a1, r1, g1⟩ := arg_slice (R := rB) Try.underlying22 (opn_slice (R := rB) Try.underlying22 (by kernel_rfl) (by decide) (opn_bool Try.underlying4)) (hval 1 _ _ rfl rfl) h1
  refine (syllogistlaw_TruthDuals_ok W (snapW W) [] _ _ _ r1 true (truthDuals_true _ _) W (cX_start W)).mono fun e W' ⟨he, hc⟩ => ⟨_, he, ?_⟩
  exact post_law hW' rfl rfl Try.laidOut (by kernel_rfl) rfl Try.underlying4 hc

theorem truthDuals_holds : Rows.TruthDualsSaid :=
  OpenClaim.holds_of_wide 3 Try.f3 rfl rfl rfl rfl rfl rfl rfl ⟨rfl, rfl, rfl, rfl, rfl⟩ rfl rfl rfl rfl rfl (by kernel_rfl) Try.func3 (by kernel_rfl)
    (of_decide_eq_true (by kernel_rfl)) (by unfold Func.isWrapper; first | (rw [if_pos (by decide +kernel)]; kernel_rfl) | (rw [if_neg (by decide +kernel)]; exact ⟨rfl, rfl⟩))
    (fun os started H enc _ => truthDuals_lifted os started H enc)

theorem truthSums_lifted (os : Os) (started : os.Started) (H : Type) (enc : TypeId × Value → H) :
    ReturnsInHanded {} Try.checked os 4 .any (Rows.truthSumsSpec.pre6 enc Try.prog Try.f4 Rows.truthSumsRow.domain false) (Rows.truthSumsSpec.post enc Try.prog Try.f4 false true false false) := by
  refine returnsInHanded_of_change (C := Try.checked) Try.own started (by kernel_rfl) Try.func4
    (ChangeSpec.witness6 (enc := enc) (C := Try.checked) false ⟨#[], #[.int .i64 0, .slice none 0 0], []⟩ 8 (by kernel_rfl) (by kernel_rfl) (by kernel_rfl) (by kernel_rfl)) ?_
  intro W base args ds gs before hval0 hW hcnd _
  have hval : ∀ (j : Nat) t v, Try.f4.params[j]? = some t → args[j]? = some v → Value.okWide Try.prog W .any base t v := hval0
  have hW' := hW
  obtain ⟨p, q, hA0, hV, rfl, hfz, hnd⟩ := hW
  have hA : DataW.TrodAll enc Try.prog W 0 (fun _ => true) true [3, 22] args.toList ds p := hA0
  obtain ⟨rfl, rfl⟩ := trodVars_none hV
  obtain ⟨v0, l0, d0, ds0, p0, q0, ev0, rfl, h0, hA1⟩ := trodAllC hA
  obtain ⟨v1, l1, d1, ds1, p1, q1, rfl, rfl, h1, hA2⟩ := trodAllC hA1
  obtain ⟨rfl, rfl⟩ := trodAllN hA2
  obtain rfl : args = #[v0, v1] := by rw [← Array.toList_inj, ev0]
  obtain ⟨a0, rfl, g0⟩ := arg_int Try.underlying3 (hval 0 _ _ rfl rfl) h0
  obtain ⟨a1, r1, g1⟩ := arg_slice (R := rB) Try.underlying22 (opn_slice (R := rB) Try.underlying22 (by kernel_rfl) (by decide) (opn_bool Try.underlying4)) (hval 1 _ _ rfl rfl) h1
  refine (syllogistlaw_TruthSums_ok W (snapW W) [] _ _ _ r1 true (truthSums_true _ _) W (cX_start W)).mono fun e W' ⟨he, hc⟩ => ⟨_, he, ?_⟩
  exact post_law hW' rfl rfl Try.laidOut (by kernel_rfl) rfl Try.underlying4 hc

theorem truthSums_holds : Rows.TruthSumsSaid :=
  OpenClaim.holds_of_wide 4 Try.f4 rfl rfl rfl rfl rfl rfl rfl ⟨rfl, rfl, rfl, rfl, rfl⟩ rfl rfl rfl rfl rfl (by kernel_rfl) Try.func4 (by kernel_rfl)
    (of_decide_eq_true (by kernel_rfl)) (by unfold Func.isWrapper; first | (rw [if_pos (by decide +kernel)]; kernel_rfl) | (rw [if_neg (by decide +kernel)]; exact ⟨rfl, rfl⟩))
    (fun os started H enc _ => truthSums_lifted os started H enc)

theorem truthClasses_lifted (os : Os) (started : os.Started) (H : Type) (enc : TypeId × Value → H) :
    ReturnsInHanded {} Try.checked os 5 .any (Rows.truthClassesSpec.pre6 enc Try.prog Try.f5 Rows.truthClassesRow.domain false) (Rows.truthClassesSpec.post enc Try.prog Try.f5 false true false false) := by
  refine returnsInHanded_of_change (C := Try.checked) Try.own started (by kernel_rfl) Try.func5
    (ChangeSpec.witness6 (enc := enc) (C := Try.checked) false ⟨#[], #[.int .i64 0, .slice none 0 0], []⟩ 8 (by kernel_rfl) (by kernel_rfl) (by kernel_rfl) (by kernel_rfl)) ?_
  intro W base args ds gs before hval0 hW hcnd _
  have hval : ∀ (j : Nat) t v, Try.f5.params[j]? = some t → args[j]? = some v → Value.okWide Try.prog W .any base t v := hval0
  have hW' := hW
  obtain ⟨p, q, hA0, hV, rfl, hfz, hnd⟩ := hW
  have hA : DataW.TrodAll enc Try.prog W 0 (fun _ => true) true [3, 22] args.toList ds p := hA0
  obtain ⟨rfl, rfl⟩ := trodVars_none hV
  obtain ⟨v0, l0, d0, ds0, p0, q0, ev0, rfl, h0, hA1⟩ := trodAllC hA
  obtain ⟨v1, l1, d1, ds1, p1, q1, rfl, rfl, h1, hA2⟩ := trodAllC hA1
  obtain ⟨rfl, rfl⟩ := trodAllN hA2
  obtain rfl : args = #[v0, v1] := by rw [← Array.toList_inj, ev0]
  obtain ⟨a0, rfl, g0⟩ := arg_int Try.underlying3 (hval 0 _ _ rfl rfl) h0
  obtain ⟨a1, r1, g1⟩ := arg_slice (R := rB) Try.underlying22 (opn_slice (R := rB) Try.underlying22 (by kernel_rfl) (by decide) (opn_bool Try.underlying4)) (hval 1 _ _ rfl rfl) h1
  refine (syllogistlaw_TruthClasses_ok W (snapW W) [] _ _ _ r1 true (truthClasses_true _ _) W (cX_start W)).mono fun e W' ⟨he, hc⟩ => ⟨_, he, ?_⟩
  exact post_law hW' rfl rfl Try.laidOut (by kernel_rfl) rfl Try.underlying4 hc

theorem truthClasses_holds : Rows.TruthClassesSaid :=
  OpenClaim.holds_of_wide 5 Try.f5 rfl rfl rfl rfl rfl rfl rfl ⟨rfl, rfl, rfl, rfl, rfl⟩ rfl rfl rfl rfl rfl (by kernel_rfl) Try.func5 (by kernel_rfl)
    (of_decide_eq_true (by kernel_rfl)) (by unfold Func.isWrapper; first | (rw [if_pos (by decide +kernel)]; kernel_rfl) | (rw [if_neg (by decide +kernel)]; exact ⟨rfl, rfl⟩))
    (fun os started H enc _ => truthClasses_lifted os started H enc)

theorem truthWholes_lifted (os : Os) (started : os.Started) (H : Type) (enc : TypeId × Value → H) :
    ReturnsInHanded {} Try.checked os 6 .any (Rows.truthWholesSpec.pre6 enc Try.prog Try.f6 Rows.truthWholesRow.domain false) (Rows.truthWholesSpec.post enc Try.prog Try.f6 false true false false) := by
  refine returnsInHanded_of_change (C := Try.checked) Try.own started (by kernel_rfl) Try.func6
    (ChangeSpec.witness6 (enc := enc) (C := Try.checked) false ⟨#[], #[.int .i64 0, .slice none 0 0], []⟩ 8 (by kernel_rfl) (by kernel_rfl) (by kernel_rfl) (by kernel_rfl)) ?_
  intro W base args ds gs before hval0 hW hcnd _
  have hval : ∀ (j : Nat) t v, Try.f6.params[j]? = some t → args[j]? = some v → Value.okWide Try.prog W .any base t v := hval0
  have hW' := hW
  obtain ⟨p, q, hA0, hV, rfl, hfz, hnd⟩ := hW
  have hA : DataW.TrodAll enc Try.prog W 0 (fun _ => true) true [3, 35] args.toList ds p := hA0
  obtain ⟨rfl, rfl⟩ := trodVars_none hV
  obtain ⟨v0, l0, d0, ds0, p0, q0, ev0, rfl, h0, hA1⟩ := trodAllC hA
  obtain ⟨v1, l1, d1, ds1, p1, q1, rfl, rfl, h1, hA2⟩ := trodAllC hA1
  obtain ⟨rfl, rfl⟩ := trodAllN hA2
  obtain rfl : args = #[v0, v1] := by rw [← Array.toList_inj, ev0]
  obtain ⟨a0, rfl, g0⟩ := arg_int Try.underlying3 (hval 0 _ _ rfl rfl) h0
  obtain ⟨a1, r1, g1⟩ := arg_slice (R := (Rp.slice rB)) Try.underlying35 (opn_slice (R := (Rp.slice rB)) Try.underlying35 (by kernel_rfl) (by decide) (opn_slice (R := rB) Try.underlying22 (by kernel_rfl) (by decide) (opn_bool Try.underlying4))) (hval 1 _ _ rfl rfl) h1
  refine (syllogistlaw_TruthWholes_ok W (snapW W) [] _ _ _ r1 true (truthWholes_true _ _) W (cX_start W)).mono fun e W' ⟨he, hc⟩ => ⟨_, he, ?_⟩
  exact post_law hW' rfl rfl Try.laidOut (by kernel_rfl) rfl Try.underlying4 hc

theorem truthWholes_holds : Rows.TruthWholesSaid :=
  OpenClaim.holds_of_wide 6 Try.f6 rfl rfl rfl rfl rfl rfl rfl ⟨rfl, rfl, rfl, rfl, rfl⟩ rfl rfl rfl rfl rfl (by kernel_rfl) Try.func6 (by kernel_rfl)
    (of_decide_eq_true (by kernel_rfl)) (by unfold Func.isWrapper; first | (rw [if_pos (by decide +kernel)]; kernel_rfl) | (rw [if_neg (by decide +kernel)]; exact ⟨rfl, rfl⟩))
    (fun os started H enc _ => truthWholes_lifted os started H enc)

theorem betweenLeasts_lifted (os : Os) (started : os.Started) (H : Type) (enc : TypeId × Value → H) :
    ReturnsInHanded {} Try.checked os 8 .any (Rows.betweenLeastsSpec.pre6 enc Try.prog Try.f8 Rows.betweenLeastsRow.domain false) (Rows.betweenLeastsSpec.post enc Try.prog Try.f8 false true false false) := by
  refine returnsInHanded_of_change (C := Try.checked) Try.own started (by kernel_rfl) Try.func8
    (ChangeSpec.witness6 (enc := enc) (C := Try.checked) false ⟨#[], #[.int .i64 0, .slice none 0 0, .int .u32 0], []⟩ 8 (by kernel_rfl) (by kernel_rfl) (by kernel_rfl) (by kernel_rfl)) ?_
  intro W base args ds gs before hval0 hW hcnd _
  have hval : ∀ (j : Nat) t v, Try.f8.params[j]? = some t → args[j]? = some v → Value.okWide Try.prog W .any base t v := hval0
  have hW' := hW
  obtain ⟨p, q, hA0, hV, rfl, hfz, hnd⟩ := hW
  have hA : DataW.TrodAll enc Try.prog W 0 (fun _ => true) true [3, 22, 31] args.toList ds p := hA0
  obtain ⟨rfl, rfl⟩ := trodVars_none hV
  obtain ⟨v0, l0, d0, ds0, p0, q0, ev0, rfl, h0, hA1⟩ := trodAllC hA
  obtain ⟨v1, l1, d1, ds1, p1, q1, rfl, rfl, h1, hA2⟩ := trodAllC hA1
  obtain ⟨v2, l2, d2, ds2, p2, q2, rfl, rfl, h2, hA3⟩ := trodAllC hA2
  obtain ⟨rfl, rfl⟩ := trodAllN hA3
  obtain rfl : args = #[v0, v1, v2] := by rw [← Array.toList_inj, ev0]
  obtain ⟨a0, rfl, g0⟩ := arg_int Try.underlying3 (hval 0 _ _ rfl rfl) h0
  obtain ⟨a1, r1, g1⟩ := arg_slice (R := rB) Try.underlying22 (opn_slice (R := rB) Try.underlying22 (by kernel_rfl) (by decide) (opn_bool Try.underlying4)) (hval 1 _ _ rfl rfl) h1
  obtain ⟨a2, rfl⟩ := arg_u32 Try.underlying31 (hval 2 _ _ rfl rfl) h2
  refine (syllogistlaw_BetweenLeasts_ok W (snapW W) [] _ _ _ r1 _ true (betweenLeasts_true _ _ _) W (cX_start W)).mono fun e W' ⟨he, hc⟩ => ⟨_, he, ?_⟩
  exact post_law hW' rfl rfl Try.laidOut (by kernel_rfl) rfl Try.underlying4 hc

theorem betweenLeasts_holds : Rows.BetweenLeastsSaid :=
  OpenClaim.holds_of_wide 8 Try.f8 rfl rfl rfl rfl rfl rfl rfl ⟨rfl, rfl, rfl, rfl, rfl⟩ rfl rfl rfl rfl rfl (by kernel_rfl) Try.func8 (by kernel_rfl)
    (of_decide_eq_true (by kernel_rfl)) (by unfold Func.isWrapper; first | (rw [if_pos (by decide +kernel)]; kernel_rfl) | (rw [if_neg (by decide +kernel)]; exact ⟨rfl, rfl⟩))
    (fun os started H enc _ => betweenLeasts_lifted os started H enc)

theorem betweenMosts_lifted (os : Os) (started : os.Started) (H : Type) (enc : TypeId × Value → H) :
    ReturnsInHanded {} Try.checked os 9 .any (Rows.betweenMostsSpec.pre6 enc Try.prog Try.f9 Rows.betweenMostsRow.domain false) (Rows.betweenMostsSpec.post enc Try.prog Try.f9 false true false false) := by
  refine returnsInHanded_of_change (C := Try.checked) Try.own started (by kernel_rfl) Try.func9
    (ChangeSpec.witness6 (enc := enc) (C := Try.checked) false ⟨#[], #[.int .i64 0, .slice none 0 0, .int .u32 0], []⟩ 8 (by kernel_rfl) (by kernel_rfl) (by kernel_rfl) (by kernel_rfl)) ?_
  intro W base args ds gs before hval0 hW hcnd _
  have hval : ∀ (j : Nat) t v, Try.f9.params[j]? = some t → args[j]? = some v → Value.okWide Try.prog W .any base t v := hval0
  have hW' := hW
  obtain ⟨p, q, hA0, hV, rfl, hfz, hnd⟩ := hW
  have hA : DataW.TrodAll enc Try.prog W 0 (fun _ => true) true [3, 22, 31] args.toList ds p := hA0
  obtain ⟨rfl, rfl⟩ := trodVars_none hV
  obtain ⟨v0, l0, d0, ds0, p0, q0, ev0, rfl, h0, hA1⟩ := trodAllC hA
  obtain ⟨v1, l1, d1, ds1, p1, q1, rfl, rfl, h1, hA2⟩ := trodAllC hA1
  obtain ⟨v2, l2, d2, ds2, p2, q2, rfl, rfl, h2, hA3⟩ := trodAllC hA2
  obtain ⟨rfl, rfl⟩ := trodAllN hA3
  obtain rfl : args = #[v0, v1, v2] := by rw [← Array.toList_inj, ev0]
  obtain ⟨a0, rfl, g0⟩ := arg_int Try.underlying3 (hval 0 _ _ rfl rfl) h0
  obtain ⟨a1, r1, g1⟩ := arg_slice (R := rB) Try.underlying22 (opn_slice (R := rB) Try.underlying22 (by kernel_rfl) (by decide) (opn_bool Try.underlying4)) (hval 1 _ _ rfl rfl) h1
  obtain ⟨a2, rfl⟩ := arg_u32 Try.underlying31 (hval 2 _ _ rfl rfl) h2
  refine (syllogistlaw_BetweenMosts_ok W (snapW W) [] _ _ _ r1 _ true (betweenMosts_true _ _ _) W (cX_start W)).mono fun e W' ⟨he, hc⟩ => ⟨_, he, ?_⟩
  exact post_law hW' rfl rfl Try.laidOut (by kernel_rfl) rfl Try.underlying4 hc

theorem betweenMosts_holds : Rows.BetweenMostsSaid :=
  OpenClaim.holds_of_wide 9 Try.f9 rfl rfl rfl rfl rfl rfl rfl ⟨rfl, rfl, rfl, rfl, rfl⟩ rfl rfl rfl rfl rfl (by kernel_rfl) Try.func9 (by kernel_rfl)
    (of_decide_eq_true (by kernel_rfl)) (by unfold Func.isWrapper; first | (rw [if_pos (by decide +kernel)]; kernel_rfl) | (rw [if_neg (by decide +kernel)]; exact ⟨rfl, rfl⟩))
    (fun os started H enc _ => betweenMosts_lifted os started H enc)

theorem betweenTells_lifted (os : Os) (started : os.Started) (H : Type) (enc : TypeId × Value → H) :
    ReturnsInHanded {} Try.checked os 10 .any (Rows.betweenTellsSpec.pre6 enc Try.prog Try.f10 Rows.betweenTellsRow.domain false) (Rows.betweenTellsSpec.post enc Try.prog Try.f10 false true false false) := by
  refine returnsInHanded_of_change (C := Try.checked) Try.own started (by kernel_rfl) Try.func10
    (ChangeSpec.witness6 (enc := enc) (C := Try.checked) false ⟨#[], #[.int .i64 0, .slice none 0 0, .slice none 0 0, .int .u32 0], []⟩ 8 (by kernel_rfl) (by kernel_rfl) (by kernel_rfl) (by kernel_rfl)) ?_
  intro W base args ds gs before hval0 hW hcnd _
  have hval : ∀ (j : Nat) t v, Try.f10.params[j]? = some t → args[j]? = some v → Value.okWide Try.prog W .any base t v := hval0
  have hW' := hW
  obtain ⟨p, q, hA0, hV, rfl, hfz, hnd⟩ := hW
  have hA : DataW.TrodAll enc Try.prog W 0 (fun _ => true) true [3, 22, 22, 31] args.toList ds p := hA0
  obtain ⟨rfl, rfl⟩ := trodVars_none hV
  obtain ⟨v0, l0, d0, ds0, p0, q0, ev0, rfl, h0, hA1⟩ := trodAllC hA
  obtain ⟨v1, l1, d1, ds1, p1, q1, rfl, rfl, h1, hA2⟩ := trodAllC hA1
  obtain ⟨v2, l2, d2, ds2, p2, q2, rfl, rfl, h2, hA3⟩ := trodAllC hA2
  obtain ⟨v3, l3, d3, ds3, p3, q3, rfl, rfl, h3, hA4⟩ := trodAllC hA3
  obtain ⟨rfl, rfl⟩ := trodAllN hA4
  obtain rfl : args = #[v0, v1, v2, v3] := by rw [← Array.toList_inj, ev0]
  obtain ⟨a0, rfl, g0⟩ := arg_int Try.underlying3 (hval 0 _ _ rfl rfl) h0
  obtain ⟨a1, r1, g1⟩ := arg_slice (R := rB) Try.underlying22 (opn_slice (R := rB) Try.underlying22 (by kernel_rfl) (by decide) (opn_bool Try.underlying4)) (hval 1 _ _ rfl rfl) h1
  obtain ⟨a2, r2, g2⟩ := arg_slice (R := rB) Try.underlying22 (opn_slice (R := rB) Try.underlying22 (by kernel_rfl) (by decide) (opn_bool Try.underlying4)) (hval 2 _ _ rfl rfl) h2
  obtain ⟨a3, rfl⟩ := arg_u32 Try.underlying31 (hval 3 _ _ rfl rfl) h3
  refine (syllogistlaw_BetweenTells_ok W (snapW W) [] _ _ _ r1 _ _ r2 _ true (betweenTells_true _ _ _ _) W (cX_start W)).mono fun e W' ⟨he, hc⟩ => ⟨_, he, ?_⟩
  exact post_law hW' rfl rfl Try.laidOut (by kernel_rfl) rfl Try.underlying4 hc

theorem betweenTells_holds : Rows.BetweenTellsSaid :=
  OpenClaim.holds_of_wide 10 Try.f10 rfl rfl rfl rfl rfl rfl rfl ⟨rfl, rfl, rfl, rfl, rfl⟩ rfl rfl rfl rfl rfl (by kernel_rfl) Try.func10 (by kernel_rfl)
    (of_decide_eq_true (by kernel_rfl)) (by unfold Func.isWrapper; first | (rw [if_pos (by decide +kernel)]; kernel_rfl) | (rw [if_neg (by decide +kernel)]; exact ⟨rfl, rfl⟩))
    (fun os started H enc _ => betweenTells_lifted os started H enc)
end Go.Proofs.Ytfgnpanohlaijaa
