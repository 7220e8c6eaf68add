/- Of the seat Ytkdhckiljfjanaa, proved whatever the input: TruthPrimes: the law returns true and each argument reads behind the call as it read before. -/
import Derived.Test.YtkdhckiljfjanaaM7
import Derived.Test.YtkdhckiljfjanaaRows
namespace Go.Proofs.Ytkdhckiljfjanaa
open Go.ChangeShapes Go.WideShapes Go.ChangeAt Go.RowKit Sy
set_option maxRecDepth 100000

theorem Try.own : ownKnob Try.prog.godebug = none := by kernel_rfl
theorem Try.laidOut : laidOutB Try.prog = true := by kernel_rfl

theorem truthPrimes_lifted (os : Os) (started : os.Started) (H : Type) (enc : TypeId × Value → H) :
    ReturnsInHanded {} Try.checked os 3 .any (Rows.truthPrimesSpec.pre6 enc Try.prog Try.f3 Rows.truthPrimesRow.domain false) (Rows.truthPrimesSpec.post enc Try.prog Try.f3 false true false false) := by
  refine returnsInHanded_of_change (C := Try.checked) Try.own started (by kernel_rfl) Try.func3
    (ChangeSpec.witness6 (enc := enc) (C := Try.checked) false ⟨#[], #[.int .i64 0, .slice none 0 0], []⟩ 8 (by kernel_rfl) (by kernel_rfl) (by kernel_rfl) (by kernel_rfl)) ?_
  intro W base args ds gs before hval0 hW hcnd _
  have hval : ∀ (j : Nat) t v, Try.f3.params[j]? = some t → args[j]? = some v → Value.okWide Try.prog W .any base t v := hval0
  have hW' := hW
  obtain ⟨p, q, hA0, hV, rfl, hfz, hnd⟩ := hW
  have hA : DataW.TrodAll enc Try.prog W 0 (fun _ => true) true [3, 22] args.toList ds p := hA0
  obtain ⟨rfl, rfl⟩ := trodVars_none hV
  obtain ⟨v0, l0, d0, ds0, p0, q0, ev0, rfl, h0, hA1⟩ := trodAllC hA
  obtain ⟨v1, l1, d1, ds1, p1, q1, rfl, rfl, h1, hA2⟩ := trodAllC hA1
  obtain ⟨rfl, rfl⟩ := trodAllN hA2
  obtain rfl : args = #[v0, v1] := by rw [← Array.toList_inj, ev0]
  obtain ⟨a0, rfl, g0⟩ := arg_int Try.underlying3 (hval 0 _ _ rfl rfl) h0
  obtain ⟨a1, r1, g1⟩ := arg_slice (R := rB) Try.underlying22 (opn_slice (R := rB) Try.underlying22 (by kernel_rfl) (by decide) (opn_bool Try.underlying4)) (hval 1 _ _ rfl rfl) h1
  refine (syllogistlaw_TruthPrimes_ok W (snapW W) [] 1000 _ _ _ r1 true (truthPrimes_true 1000 _ _) W (cX_start W)).mono fun e W' ⟨he, hc⟩ => ⟨_, he, ?_⟩
  exact post_law hW' rfl rfl Try.laidOut (by kernel_rfl) rfl Try.underlying4 hc

theorem truthPrimes_holds : Rows.TruthPrimesSaid :=
  OpenClaim.holds_of_wide 3 Try.f3 rfl rfl rfl rfl rfl rfl rfl ⟨rfl, rfl, rfl, rfl, rfl⟩ rfl rfl rfl rfl rfl (by kernel_rfl) Try.func3 (by kernel_rfl)
    (of_decide_eq_true (by kernel_rfl)) (by unfold Func.isWrapper; first | (rw [if_pos (by decide +kernel)]; kernel_rfl) | (rw [if_neg (by decide +kernel)]; exact ⟨rfl, rfl⟩))
    (fun os started H enc _ => truthPrimes_lifted os started H enc)
end Go.Proofs.Ytkdhckiljfjanaa
