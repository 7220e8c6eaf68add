/- Of the seat Ythndckcjjhdbmaa, proved whatever the input: HandsPlays, HandsSees, TopUnder, TopApart: the law returns true and each argument reads behind the call as it read before. -/
import Derived.Test.YthndckcjjhdbmaaM11
import Derived.Test.YthndckcjjhdbmaaRows
import Derived.SizedLaws
import Derived.Test.YthndckcjjhdbmaaSyW
namespace Go.Proofs.Ythndckcjjhdbmaa
open Go.ChangeShapes Go.WideShapes Go.ChangeAt Go.RowKit Sy
set_option maxRecDepth 100000

theorem Try.own : ownKnob Try.prog.godebug = none := by kernel_rfl
theorem Try.laidOut : laidOutB Try.prog = true := by kernel_rfl

theorem handsPlays_lifted (os : Os) (started : os.Started) (H : Type) (enc : TypeId × Value → H) :
    ReturnsInHanded {} Try.checked os 7 .any (Rows.handsPlaysSpec.pre6 enc Try.prog Try.f7 Rows.handsPlaysRow.domain false) (Rows.handsPlaysSpec.post enc Try.prog Try.f7 false true false false) := by
  refine returnsInHanded_of_change (C := Try.checked) Try.own started (by kernel_rfl) Try.func7
    (ChangeSpec.witness6 (enc := enc) (C := Try.checked) false ⟨#[], #[.slice none 0 0], []⟩ 8 (by kernel_rfl) (by kernel_rfl) (by kernel_rfl) (by kernel_rfl)) ?_
  intro W base args ds gs before hval0 hW hcnd _
  have hval : ∀ (j : Nat) t v, Try.f7.params[j]? = some t → args[j]? = some v → Value.okWide Try.prog W .any base t v := hval0
  have hW' := hW
  obtain ⟨p, q, hA0, hV, rfl, hfz, hnd⟩ := hW
  have hA : DataW.TrodAll enc Try.prog W 0 (fun _ => true) true [50] args.toList ds p := hA0
  obtain ⟨rfl, rfl⟩ := trodVars_none hV
  obtain ⟨v0, l0, d0, ds0, p0, q0, ev0, rfl, h0, hA1⟩ := trodAllC hA
  obtain ⟨rfl, rfl⟩ := trodAllN hA1
  obtain rfl : args = #[v0] := by rw [← Array.toList_inj, ev0]
  obtain ⟨a0, r0, g0⟩ := arg_slice (R := rStroke) Try.underlying50 (opn_slice (R := rStroke) Try.underlying50 (by kernel_rfl) (by decide) opnStroke) (hval 0 _ _ rfl rfl) h0
  refine (syllogistlaw_HandsPlays_ok W (snapW W) [] 200 _ _ r0 true (handsPlays_true 200 _ (lensStroke r0)) W (cX_start W)).mono fun e W' ⟨he, hc⟩ => ⟨_, he, ?_⟩
  exact post_law hW' rfl rfl Try.laidOut (by kernel_rfl) rfl Try.underlying4 hc

theorem handsPlays_holds : Rows.HandsPlaysSaid :=
  OpenClaim.holds_of_wide 7 Try.f7 rfl rfl rfl rfl rfl rfl rfl ⟨rfl, rfl, rfl, rfl, rfl⟩ rfl rfl rfl rfl rfl (by kernel_rfl) Try.func7 (by kernel_rfl)
    (of_decide_eq_true (by kernel_rfl)) (by unfold Func.isWrapper; first | (rw [if_pos (by decide +kernel)]; kernel_rfl) | (rw [if_neg (by decide +kernel)]; exact ⟨rfl, rfl⟩))
    (fun os started H enc _ => handsPlays_lifted os started H enc)

theorem handsSees_lifted (os : Os) (started : os.Started) (H : Type) (enc : TypeId × Value → H) :
    ReturnsInHanded {} Try.checked os 8 .any (Rows.handsSeesSpec.pre6 enc Try.prog Try.f8 Rows.handsSeesRow.domain false) (Rows.handsSeesSpec.post enc Try.prog Try.f8 false true false false) := by
  refine returnsInHanded_of_change (C := Try.checked) Try.own started (by kernel_rfl) Try.func8
    (ChangeSpec.witness6 (enc := enc) (C := Try.checked) false ⟨#[], #[.slice none 0 0, .agg #[.int .i64 0, .int .u32 0]], []⟩ 8 (by kernel_rfl) (by kernel_rfl) (by kernel_rfl) (by kernel_rfl)) ?_
  intro W base args ds gs before hval0 hW hcnd _
  have hval : ∀ (j : Nat) t v, Try.f8.params[j]? = some t → args[j]? = some v → Value.okWide Try.prog W .any base t v := hval0
  have hW' := hW
  obtain ⟨p, q, hA0, hV, rfl, hfz, hnd⟩ := hW
  have hA : DataW.TrodAll enc Try.prog W 0 (fun _ => true) true [50, 25] args.toList ds p := hA0
  obtain ⟨rfl, rfl⟩ := trodVars_none hV
  obtain ⟨v0, l0, d0, ds0, p0, q0, ev0, rfl, h0, hA1⟩ := trodAllC hA
  obtain ⟨v1, l1, d1, ds1, p1, q1, rfl, rfl, h1, hA2⟩ := trodAllC hA1
  obtain ⟨rfl, rfl⟩ := trodAllN hA2
  obtain rfl : args = #[v0, v1] := by rw [← Array.toList_inj, ev0]
  obtain ⟨a0, r0, g0⟩ := arg_slice (R := rStroke) Try.underlying50 (opn_slice (R := rStroke) Try.underlying50 (by kernel_rfl) (by decide) opnStroke) (hval 0 _ _ rfl rfl) h0
  obtain ⟨c1, a1, rfl, rfl, g1⟩ := arg_agg (R := rLabel) Try.underlying25 opnLabel (hval 1 _ _ rfl rfl) h1
  refine (syllogistlaw_HandsSees_ok W (snapW W) [] 200 _ _ r0 a1 true (handsSees_true 200 _ _ (lensStroke r0)) W (cX_start W)).mono fun e W' ⟨he, hc⟩ => ⟨_, he, ?_⟩
  exact post_law hW' rfl rfl Try.laidOut (by kernel_rfl) rfl Try.underlying4 hc

theorem handsSees_holds : Rows.HandsSeesSaid :=
  OpenClaim.holds_of_wide 8 Try.f8 rfl rfl rfl rfl rfl rfl rfl ⟨rfl, rfl, rfl, rfl, rfl⟩ rfl rfl rfl rfl rfl (by kernel_rfl) Try.func8 (by kernel_rfl)
    (of_decide_eq_true (by kernel_rfl)) (by unfold Func.isWrapper; first | (rw [if_pos (by decide +kernel)]; kernel_rfl) | (rw [if_neg (by decide +kernel)]; exact ⟨rfl, rfl⟩))
    (fun os started H enc _ => handsSees_lifted os started H enc)

theorem topUnder_lifted (os : Os) (started : os.Started) (H : Type) (enc : TypeId × Value → H) :
    ReturnsInHanded {} Try.checked os 11 .any (Rows.topUnderSpec.pre6 enc Try.prog Try.f11 Rows.topUnderRow.domain false) (Rows.topUnderSpec.post enc Try.prog Try.f11 false true false false) := by
  refine returnsInHanded_of_change (C := Try.checked) Try.own started (by kernel_rfl) Try.func11
    (ChangeSpec.witness6 (enc := enc) (C := Try.checked) false ⟨#[], #[.slice none 0 0, .agg #[.int .i64 0, .int .u32 0], .agg #[.int .i64 0, .int .u32 0]], []⟩ 8 (by kernel_rfl) (by kernel_rfl) (by kernel_rfl) (by kernel_rfl)) ?_
  intro W base args ds gs before hval0 hW hcnd _
  have hval : ∀ (j : Nat) t v, Try.f11.params[j]? = some t → args[j]? = some v → Value.okWide Try.prog W .any base t v := hval0
  have hW' := hW
  obtain ⟨p, q, hA0, hV, rfl, hfz, hnd⟩ := hW
  have hA : DataW.TrodAll enc Try.prog W 0 (fun _ => true) true [50, 25, 25] args.toList ds p := hA0
  obtain ⟨rfl, rfl⟩ := trodVars_none hV
  obtain ⟨v0, l0, d0, ds0, p0, q0, ev0, rfl, h0, hA1⟩ := trodAllC hA
  obtain ⟨v1, l1, d1, ds1, p1, q1, rfl, rfl, h1, hA2⟩ := trodAllC hA1
  obtain ⟨v2, l2, d2, ds2, p2, q2, rfl, rfl, h2, hA3⟩ := trodAllC hA2
  obtain ⟨rfl, rfl⟩ := trodAllN hA3
  obtain rfl : args = #[v0, v1, v2] := by rw [← Array.toList_inj, ev0]
  obtain ⟨a0, r0, g0⟩ := arg_slice (R := rStroke) Try.underlying50 (opn_slice (R := rStroke) Try.underlying50 (by kernel_rfl) (by decide) opnStroke) (hval 0 _ _ rfl rfl) h0
  obtain ⟨c1, a1, rfl, rfl, g1⟩ := arg_agg (R := rLabel) Try.underlying25 opnLabel (hval 1 _ _ rfl rfl) h1
  obtain ⟨c2, a2, rfl, rfl, g2⟩ := arg_agg (R := rLabel) Try.underlying25 opnLabel (hval 2 _ _ rfl rfl) h2
  refine (syllogisttop_TopUnder_ok W (snapW W) [] 200 _ _ r0 a1 a2 true (topUnder_true 200 _ _ _ (lensStroke r0)) W (cX_start W)).mono fun e W' ⟨he, hc⟩ => ⟨_, he, ?_⟩
  exact post_law hW' rfl rfl Try.laidOut (by kernel_rfl) rfl Try.underlying4 hc

theorem topUnder_holds : Rows.TopUnderSaid :=
  OpenClaim.holds_of_wide 11 Try.f11 rfl rfl rfl rfl rfl rfl rfl ⟨rfl, rfl, rfl, rfl, rfl⟩ rfl rfl rfl rfl rfl (by kernel_rfl) Try.func11 (by kernel_rfl)
    (of_decide_eq_true (by kernel_rfl)) (by unfold Func.isWrapper; first | (rw [if_pos (by decide +kernel)]; kernel_rfl) | (rw [if_neg (by decide +kernel)]; exact ⟨rfl, rfl⟩))
    (fun os started H enc _ => topUnder_lifted os started H enc)
theorem opnZ50 : ∀ N, OpnS Try.prog N (Rp.slice rStroke) (fun xs => xs.length * Try.prog.bytesOf 47 ≤ reachBytes ∧ ∀ x ∈ xs, True) 50
  | 0 => fun H enc W fuel cs y hlt h hw => absurd hlt (by omega)
  | N + 1 => opnS_slice (R := rStroke) Try.underlying50 (by kernel_rfl) (by decide) (fun H enc W fuel cs y _ h _ => let ⟨x, hx, _⟩ := opnStroke H enc W fuel cs y h; ⟨x, hx, trivial⟩)
theorem lim50 {n : Nat} (h : n * Try.prog.bytesOf 47 ≤ reachBytes) : n ≤ 2513169434843 := by
  rw [show Try.prog.bytesOf 47 = 56 by kernel_rfl] at h; unfold reachBytes at h; omega

theorem topApart_lifted (os : Os) (started : os.Started) (H : Type) (enc : TypeId × Value → H) :
    ReturnsInHanded {} Try.checked os 9 .any (Rows.topApartSpec.pre6 enc Try.prog Try.f9 Rows.topApartRow.domain false) (Rows.topApartSpec.post enc Try.prog Try.f9 false true false false) := by
  refine returnsInHanded_of_change_sized (C := Try.checked) Try.own started (by kernel_rfl) Try.func9
    (ChangeSpec.witness6 (enc := enc) (C := Try.checked) false ⟨#[], #[.slice none 0 0, .agg #[.int .i64 0, .int .u32 0]], []⟩ 8 (by kernel_rfl) (by kernel_rfl) (by kernel_rfl) (by kernel_rfl)) ?_
  intro W base args ds gs before hval0 hW hcnd hsz0 _
  have hval : ∀ (j : Nat) t v, Try.f9.params[j]? = some t → args[j]? = some v → Value.okWide Try.prog W .any base t v := hval0
  have hW' := hW
  obtain ⟨p, q, hA0, hV, rfl, hfz, hnd⟩ := hW
  have hA : DataW.TrodAll enc Try.prog W 0 (fun _ => true) true [50, 25] args.toList ds p := hA0
  obtain ⟨rfl, rfl⟩ := trodVars_none hV
  have hsz : (DataW.weightsEach Try.prog ([50, 25] ++ []) (ds ++ [])).all (fun n => decide (n ≤ reachBytes)) = true := hsz0
  obtain ⟨v0, l0, d0, ds0, p0, q0, ev0, rfl, h0, hA1⟩ := trodAllC hA
  obtain ⟨v1, l1, d1, ds1, p1, q1, rfl, rfl, h1, hA2⟩ := trodAllC hA1
  obtain ⟨rfl, rfl⟩ := trodAllN hA2
  obtain rfl : args = #[v0, v1] := by rw [← Array.toList_inj, ev0]
  obtain ⟨a0, r0, g0⟩ := arg_sliceS (R := rStroke) Try.underlying50 opnZ50 (hval 0 _ _ rfl rfl) h0 (okW_arg (i := 0) hsz rfl rfl)
  obtain ⟨c1, a1, rfl, rfl, g1⟩ := arg_agg (R := rLabel) Try.underlying25 opnLabel (hval 1 _ _ rfl rfl) h1
  refine (syllogisttop_TopApart_ok W (snapW W) [] 200 _ _ r0 a1 true (topApart_true 200 _ _ (lensStroke r0) (Nat.le_trans (lim50 g0.1) (by decide))) W (cX_start W)).mono fun e W' ⟨he, hc⟩ => ⟨_, he, ?_⟩
  exact post_law hW' rfl rfl Try.laidOut (by kernel_rfl) rfl Try.underlying4 hc

theorem topApart_holds : Rows.TopApartSaid :=
  OpenClaim.holds_of_wide 9 Try.f9 rfl rfl rfl rfl rfl rfl rfl ⟨rfl, rfl, rfl, rfl, rfl⟩ rfl rfl rfl rfl rfl (by kernel_rfl) Try.func9 (by kernel_rfl)
    (of_decide_eq_true (by kernel_rfl)) (by unfold Func.isWrapper; first | (rw [if_pos (by decide +kernel)]; kernel_rfl) | (rw [if_neg (by decide +kernel)]; exact ⟨rfl, rfl⟩))
    (fun os started H enc _ => topApart_lifted os started H enc)
end Go.Proofs.Ythndckcjjhdbmaa
