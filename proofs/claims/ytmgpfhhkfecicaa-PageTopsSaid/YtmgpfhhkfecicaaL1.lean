/- Of the seat Ytmgpfhhkfecicaa, proved whatever the input: PageChecks, PageTops: the law returns true and each argument reads behind the call as it read before. -/
import Derived.Test.YtmgpfhhkfecicaaM1
import Derived.Test.YtmgpfhhkfecicaaRows
namespace Go.Proofs.Ytmgpfhhkfecicaa
open Go.ChangeShapes Go.WideShapes Go.ChangeAt Go.RowKit Sy

theorem Try.own : ownKnob Try.prog.godebug = none := by kernel_rfl
theorem Try.laidOut : laidOutB Try.prog = true := by kernel_rfl

theorem pageChecks_lifted (os : Os) (started : os.Started) (H : Type) (enc : TypeId × Value → H) :
    ReturnsInHanded {} Try.checked os 3 .any (Rows.pageChecksSpec.pre6 enc Try.prog Try.f3 Rows.pageChecksRow.domain false) (Rows.pageChecksSpec.post enc Try.prog Try.f3 false true false false) := by
  refine returnsInHanded_of_change (C := Try.checked) Try.own started (by kernel_rfl) Try.func3
    (ChangeSpec.witness6 (enc := enc) (C := Try.checked) false ⟨#[], #[.slice none 0 0], []⟩ 8 (by kernel_rfl) (by kernel_rfl) (by kernel_rfl) (by kernel_rfl)) ?_
  intro W base args ds gs before hval0 hW hcnd _
  have hval : ∀ (j : Nat) t v, Try.f3.params[j]? = some t → args[j]? = some v → Value.okWide Try.prog W .any base t v := hval0
  have hW' := hW
  obtain ⟨p, q, hA0, hV, rfl, hfz, hnd⟩ := hW
  have hA : DataW.TrodAll enc Try.prog W 0 (fun _ => true) true [22] args.toList ds p := hA0
  obtain ⟨rfl, rfl⟩ := trodVars_none hV
  obtain ⟨v0, l0, d0, ds0, p0, q0, ev0, rfl, h0, hA1⟩ := trodAllC hA
  obtain ⟨rfl, rfl⟩ := trodAllN hA1
  obtain rfl : args = #[v0] := by rw [← Array.toList_inj, ev0]
  obtain ⟨a0, r0, g0⟩ := arg_slice (R := rLeaf) Try.underlying22 (opn_slice (R := rLeaf) Try.underlying22 (by kernel_rfl) (by decide) opnLeaf) (hval 0 _ _ rfl rfl) h0
  refine (syllogistlaw_PageChecks_ok W (snapW W) [] _ _ r0 true (pageChecks_true _) W (cX_start W)).mono fun e W' ⟨he, hc⟩ => ⟨_, he, ?_⟩
  exact post_law hW' rfl rfl Try.laidOut (by kernel_rfl) rfl Try.underlying4 hc

theorem pageChecks_holds : Rows.PageChecksSaid :=
  OpenClaim.holds_of_wide 3 Try.f3 rfl rfl rfl rfl rfl rfl rfl ⟨rfl, rfl, rfl, rfl, rfl⟩ rfl rfl rfl rfl rfl (by kernel_rfl) Try.func3 (by kernel_rfl)
    (of_decide_eq_true (by kernel_rfl)) (by unfold Func.isWrapper; first | (rw [if_pos (by decide +kernel)]; kernel_rfl) | (rw [if_neg (by decide +kernel)]; exact ⟨rfl, rfl⟩))
    (fun os started H enc _ => pageChecks_lifted os started H enc)

theorem pageTops_lifted (os : Os) (started : os.Started) (H : Type) (enc : TypeId × Value → H) :
    ReturnsInHanded {} Try.checked os 4 .any (Rows.pageTopsSpec.pre6 enc Try.prog Try.f4 Rows.pageTopsRow.domain false) (Rows.pageTopsSpec.post enc Try.prog Try.f4 false true false false) := by
  refine returnsInHanded_of_change (C := Try.checked) Try.own started (by kernel_rfl) Try.func4
    (ChangeSpec.witness6 (enc := enc) (C := Try.checked) false ⟨#[], #[.slice none 0 0], []⟩ 8 (by kernel_rfl) (by kernel_rfl) (by kernel_rfl) (by kernel_rfl)) ?_
  intro W base args ds gs before hval0 hW hcnd _
  have hval : ∀ (j : Nat) t v, Try.f4.params[j]? = some t → args[j]? = some v → Value.okWide Try.prog W .any base t v := hval0
  have hW' := hW
  obtain ⟨p, q, hA0, hV, rfl, hfz, hnd⟩ := hW
  have hA : DataW.TrodAll enc Try.prog W 0 (fun _ => true) true [22] args.toList ds p := hA0
  obtain ⟨rfl, rfl⟩ := trodVars_none hV
  obtain ⟨v0, l0, d0, ds0, p0, q0, ev0, rfl, h0, hA1⟩ := trodAllC hA
  obtain ⟨rfl, rfl⟩ := trodAllN hA1
  obtain rfl : args = #[v0] := by rw [← Array.toList_inj, ev0]
  obtain ⟨a0, r0, g0⟩ := arg_slice (R := rLeaf) Try.underlying22 (opn_slice (R := rLeaf) Try.underlying22 (by kernel_rfl) (by decide) opnLeaf) (hval 0 _ _ rfl rfl) h0
  refine (syllogistlaw_PageTops_ok W (snapW W) [] 101 _ _ r0 true (pageTops_true 101 _) W (cX_start W)).mono fun e W' ⟨he, hc⟩ => ⟨_, he, ?_⟩
  exact post_law hW' rfl rfl Try.laidOut (by kernel_rfl) rfl Try.underlying4 hc

theorem pageTops_holds : Rows.PageTopsSaid :=
  OpenClaim.holds_of_wide 4 Try.f4 rfl rfl rfl rfl rfl rfl rfl ⟨rfl, rfl, rfl, rfl, rfl⟩ rfl rfl rfl rfl rfl (by kernel_rfl) Try.func4 (by kernel_rfl)
    (of_decide_eq_true (by kernel_rfl)) (by unfold Func.isWrapper; first | (rw [if_pos (by decide +kernel)]; kernel_rfl) | (rw [if_neg (by decide +kernel)]; exact ⟨rfl, rfl⟩))
    (fun os started H enc _ => pageTops_lifted os started H enc)
end Go.Proofs.Ytmgpfhhkfecicaa
