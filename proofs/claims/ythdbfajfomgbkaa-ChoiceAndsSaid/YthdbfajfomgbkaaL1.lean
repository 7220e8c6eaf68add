/- Of the seat Ythdbfajfomgbkaa, proved whatever the input: ChoiceAnds: the law returns true and each argument reads behind the call as it read before. -/
import Derived.Test.YthdbfajfomgbkaaM10
import Derived.Test.YthdbfajfomgbkaaRows
namespace Go.Proofs.Ythdbfajfomgbkaa
open Go.ChangeShapes Go.WideShapes Go.ChangeAt Go.RowKit Sy
set_option maxRecDepth 100000

theorem Try.own : ownKnob Try.prog.godebug = none := by kernel_rfl
theorem Try.laidOut : laidOutB Try.prog = true := by kernel_rfl

theorem choiceAnds_lifted (os : Os) (started : os.Started) (H : Type) (enc : TypeId × Value → H) :
    ReturnsInHanded {} Try.checked os 3 .any (Rows.choiceAndsSpec.pre6 enc Try.prog Try.f3 Rows.choiceAndsRow.domain false) (Rows.choiceAndsSpec.post enc Try.prog Try.f3 false true false false) := by
  refine returnsInHanded_of_change (C := Try.checked) Try.own started (by kernel_rfl) Try.func3
    (ChangeSpec.witness6 (enc := enc) (C := Try.checked) false ⟨#[], #[.int .i64 0, .slice none 0 0, .int .i64 0, .slice none 0 0, .int .i64 0], []⟩ 8 (by kernel_rfl) (by kernel_rfl) (by kernel_rfl) (by kernel_rfl)) ?_
  intro W base args ds gs before hval0 hW hcnd _
  have hval : ∀ (j : Nat) t v, Try.f3.params[j]? = some t → args[j]? = some v → Value.okWide Try.prog W .any base t v := hval0
  have hW' := hW
  obtain ⟨p, q, hA0, hV, rfl, hfz, hnd⟩ := hW
  have hA : DataW.TrodAll enc Try.prog W 0 (fun _ => true) true [3, 22, 3, 22, 3] args.toList ds p := hA0
  obtain ⟨rfl, rfl⟩ := trodVars_none hV
  obtain ⟨v0, l0, d0, ds0, p0, q0, ev0, rfl, h0, hA1⟩ := trodAllC hA
  obtain ⟨v1, l1, d1, ds1, p1, q1, rfl, rfl, h1, hA2⟩ := trodAllC hA1
  obtain ⟨v2, l2, d2, ds2, p2, q2, rfl, rfl, h2, hA3⟩ := trodAllC hA2
  obtain ⟨v3, l3, d3, ds3, p3, q3, rfl, rfl, h3, hA4⟩ := trodAllC hA3
  obtain ⟨v4, l4, d4, ds4, p4, q4, rfl, rfl, h4, hA5⟩ := trodAllC hA4
  obtain ⟨rfl, rfl⟩ := trodAllN hA5
  obtain rfl : args = #[v0, v1, v2, v3, v4] := by rw [← Array.toList_inj, ev0]
  obtain ⟨a0, rfl, g0⟩ := arg_int Try.underlying3 (hval 0 _ _ rfl rfl) h0
  obtain ⟨a1, r1, g1⟩ := arg_slice (R := rBranch) Try.underlying22 (opn_slice (R := rBranch) Try.underlying22 (by kernel_rfl) (by decide) opnBranch) (hval 1 _ _ rfl rfl) h1
  obtain ⟨a2, rfl, g2⟩ := arg_int Try.underlying3 (hval 2 _ _ rfl rfl) h2
  obtain ⟨a3, r3, g3⟩ := arg_slice (R := rBranch) Try.underlying22 (opn_slice (R := rBranch) Try.underlying22 (by kernel_rfl) (by decide) opnBranch) (hval 3 _ _ rfl rfl) h3
  obtain ⟨a4, rfl, g4⟩ := arg_int Try.underlying3 (hval 4 _ _ rfl rfl) h4
  refine (syllogistlaw_ChoiceAnds_ok W (snapW W) [] 200 _ _ _ r1 _ _ _ r3 _ true (choiceAnds_true 200 _ _ _ _ _) W (cX_start W)).mono fun e W' ⟨he, hc⟩ => ⟨_, he, ?_⟩
  exact post_law hW' rfl rfl Try.laidOut (by kernel_rfl) rfl Try.underlying4 hc

theorem choiceAnds_holds : Rows.ChoiceAndsSaid :=
  OpenClaim.holds_of_wide 3 Try.f3 rfl rfl rfl rfl rfl rfl rfl ⟨rfl, rfl, rfl, rfl, rfl⟩ rfl rfl rfl rfl rfl (by kernel_rfl) Try.func3 (by kernel_rfl)
    (of_decide_eq_true (by kernel_rfl)) (by unfold Func.isWrapper; first | (rw [if_pos (by decide +kernel)]; kernel_rfl) | (rw [if_neg (by decide +kernel)]; exact ⟨rfl, rfl⟩))
    (fun os started H enc _ => choiceAnds_lifted os started H enc)
end Go.Proofs.Ythdbfajfomgbkaa
