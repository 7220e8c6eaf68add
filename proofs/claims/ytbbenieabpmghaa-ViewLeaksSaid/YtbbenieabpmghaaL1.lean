/- Of the seat Ytbbenieabpmghaa, proved whatever the input: ViewLeaks: the law returns true and each argument reads behind the call as it read before. -/
import Derived.Test.YtbbenieabpmghaaM13
import Derived.Test.YtbbenieabpmghaaRows
namespace Go.Proofs.Ytbbenieabpmghaa
open Go.ChangeShapes Go.WideShapes Go.ChangeAt Go.RowKit Sy
set_option maxRecDepth 100000

theorem Try.own : ownKnob Try.prog.godebug = none := by kernel_rfl
theorem Try.laidOut : laidOutB Try.prog = true := by kernel_rfl

theorem viewLeaks_lifted (os : Os) (started : os.Started) (H : Type) (enc : TypeId × Value → H) :
    ReturnsInHanded {} Try.checked os 3 .any (Rows.viewLeaksSpec.pre6 enc Try.prog Try.f3 Rows.viewLeaksRow.domain false) (Rows.viewLeaksSpec.post enc Try.prog Try.f3 false true false false) := by
  refine returnsInHanded_of_change (C := Try.checked) Try.own started (by kernel_rfl) Try.func3
    (ChangeSpec.witness6 (enc := enc) (C := Try.checked) false ⟨#[], #[.agg #[.int .i64 0, .int .i64 0, .int .i64 0, .slice none 0 0, .slice none 0 0], .int .u32 0], []⟩ 8 (by kernel_rfl) (by kernel_rfl) (by kernel_rfl) (by kernel_rfl)) ?_
  intro W base args ds gs before hval0 hW hcnd _
  have hval : ∀ (j : Nat) t v, Try.f3.params[j]? = some t → args[j]? = some v → Value.okWide Try.prog W .any base t v := hval0
  have hW' := hW
  obtain ⟨p, q, hA0, hV, rfl, hfz, hnd⟩ := hW
  have hA : DataW.TrodAll enc Try.prog W 0 (fun _ => true) true [25, 26] args.toList ds p := hA0
  obtain ⟨rfl, rfl⟩ := trodVars_none hV
  obtain ⟨v0, l0, d0, ds0, p0, q0, ev0, rfl, h0, hA1⟩ := trodAllC hA
  obtain ⟨v1, l1, d1, ds1, p1, q1, rfl, rfl, h1, hA2⟩ := trodAllC hA1
  obtain ⟨rfl, rfl⟩ := trodAllN hA2
  obtain rfl : args = #[v0, v1] := by rw [← Array.toList_inj, ev0]
  obtain ⟨c0, a0, rfl, ⟨u0_3, u0_4, rfl, r0_3, r0_4⟩, g0⟩ := arg_agg (R := rMachine) Try.underlying25 opnMachine (hval 0 _ _ rfl rfl) h0
  obtain ⟨a1, rfl⟩ := arg_u32 Try.underlying26 (hval 1 _ _ rfl rfl) h1
  refine (syllogistlaw_ViewLeaks_ok W (snapW W) [] 200 a0 _ r0_3 _ r0_4 _ true (viewLeaks_true 200 _ _) W (cX_start W)).mono fun e W' ⟨he, hc⟩ => ⟨_, he, ?_⟩
  exact post_law hW' rfl rfl Try.laidOut (by kernel_rfl) rfl Try.underlying4 hc

theorem viewLeaks_holds : Rows.ViewLeaksSaid :=
  OpenClaim.holds_of_wide 3 Try.f3 rfl rfl rfl rfl rfl rfl rfl ⟨rfl, rfl, rfl, rfl, rfl⟩ rfl rfl rfl rfl rfl (by kernel_rfl) Try.func3 (by kernel_rfl)
    (of_decide_eq_true (by kernel_rfl)) (by unfold Func.isWrapper; first | (rw [if_pos (by decide +kernel)]; kernel_rfl) | (rw [if_neg (by decide +kernel)]; exact ⟨rfl, rfl⟩))
    (fun os started H enc _ => viewLeaks_lifted os started H enc)
end Go.Proofs.Ytbbenieabpmghaa
