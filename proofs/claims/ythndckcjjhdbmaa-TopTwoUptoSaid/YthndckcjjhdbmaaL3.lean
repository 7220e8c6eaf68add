/- Of the seat Ythndckcjjhdbmaa, proved whatever the input: TopTwo: the law returns true and each argument reads behind the call as it read before. -/
import Derived.Test.YthndckcjjhdbmaaM12
import Derived.Test.YthndckcjjhdbmaaRows
import Derived.JoinedCond
namespace Go.Proofs.Ythndckcjjhdbmaa
open Go.ChangeShapes Go.WideShapes Go.ChangeAt Go.RowKit Sy
set_option maxRecDepth 100000

theorem Try.own : ownKnob Try.prog.godebug = none := by kernel_rfl
theorem Try.laidOut : laidOutB Try.prog = true := by kernel_rfl
theorem bulk_pos {H : Type} (d : DataW H) : 1 ≤ Rows.uptoBulk d := by
  cases d with
  | lit l => cases l <;> simp [Rows.uptoBulk]
  | nil => simp [Rows.uptoBulk]
  | ptr d => simp [Rows.uptoBulk]
  | slice elems spare => simp [Rows.uptoBulk]
  | agg parts => simp [Rows.uptoBulk]
  | iface t d => simp [Rows.uptoBulk]
  | map entries => simp [Rows.uptoBulk]
  | held h => simp [Rows.uptoBulk]
theorem bulk_len {H : Type} : ∀ l : List (DataW H), l.length ≤ Rows.uptoBulkAll l
  | [] => Nat.zero_le _
  | d :: l => by have h1 := bulk_pos d; have h2 := bulk_len l; simp only [Rows.uptoBulkAll, List.length_cons]; omega
theorem bulk_slice {α H : Type} {enc : TypeId × Value → H} {P : Program} {W : World} {t e : TypeId} {v : Value} {d : DataW H} {p : List MemPlace} {R : Rp α} {m : Snap} {xs : List α} (ht : P.underlying t = some (.slice e)) (hr : RS R m v xs) (hd : DataW.Trod enc P W 0 (fun _ => true) true t v d p) : xs.length ≤ Rows.uptoBulk d := by
  obtain ⟨⟨a, cap, rfl, _⟩, _⟩ := hr
  obtain ⟨fuel, hf⟩ := hd
  rcases DataW.trod_slice ht hf with ⟨hv, _⟩ | ⟨a2, len, cap2, elems, rest, n, _, hv, hy, _, _, _, hel, _⟩
  · have hv0 : [Value.slice a xs.length cap] = [.slice none 0 0] := hv
    injection hv0 with hv1 _; injection hv1 with _ hv2 _; omega
  · have hv0 : [Value.slice a xs.length cap] = [.slice (some a2) len cap2] := hv
    injection hv0 with hv1 _; injection hv1 with _ hv2 _
    have hle : (elems.map fun x => x.1).length = xs.length := by rw [List.length_map]; omega
    obtain ⟨hd1, _⟩ := Prod.mk.inj hy
    rw [hd1]
    have h2 := bulk_len (elems.map fun x => x.1)
    simp only [Rows.uptoBulk]; omega

theorem topTwo_lifted (os : Os) (started : os.Started) (H : Type) (enc : TypeId × Value → H) (F : Stop.Interp) :
    ReturnsInHanded {} Try.checked os 10 .any ((Rows.OpenSpec.upto Rows.topTwoSpec).pre6 enc Try.prog Try.f10 Rows.topTwoUptoRow.domain false) (((Rows.OpenSpec.upto Rows.topTwoSpec).at F).post enc Try.prog Try.f10 false true false false) := by
  refine returnsInHanded_of_cond (C := Try.checked) (s := Rows.OpenSpec.upto Rows.topTwoSpec) (k := Rows.uptoSmall) rfl Try.own started (by kernel_rfl) Try.func10
    (OpenSpec.witness (enc := enc) (C := Try.checked) (s := Rows.OpenSpec.upto Rows.topTwoSpec) (k := Rows.uptoSmall) rfl false ⟨#[], #[.slice none 0 0, .slice none 0 0, .agg #[.int .i64 0, .int .u32 0], .slice none 0 0], []⟩ 8 (by kernel_rfl) (by kernel_rfl) (by kernel_rfl)
      (x := ([.nil, .nil, .agg [.lit (.int .i64 0), .lit (.int .u32 0)], .nil], [], [])) (by kernel_rfl) rfl (by kernel_rfl)) ?_
  intro W base args ds gs before hval0 hW hcnd hk _
  have hval : ∀ (j : Nat) t v, Try.f10.params[j]? = some t → args[j]? = some v → Value.okWide Try.prog W .any base t v := hval0
  have hW' := hW
  obtain ⟨p, q, hA0, hV, rfl, hfz, hnd⟩ := hW
  have hA : DataW.TrodAll enc Try.prog W 0 (fun _ => true) true [50, 50, 25, 62] args.toList ds p := hA0
  obtain ⟨rfl, rfl⟩ := trodVars_none hV
  obtain ⟨v0, l0, d0, ds0, p0, q0, ev0, rfl, h0, hA1⟩ := trodAllC hA
  obtain ⟨v1, l1, d1, ds1, p1, q1, rfl, rfl, h1, hA2⟩ := trodAllC hA1
  obtain ⟨v2, l2, d2, ds2, p2, q2, rfl, rfl, h2, hA3⟩ := trodAllC hA2
  obtain ⟨v3, l3, d3, ds3, p3, q3, rfl, rfl, h3, hA4⟩ := trodAllC hA3
  obtain ⟨rfl, rfl⟩ := trodAllN hA4
  obtain rfl : args = #[v0, v1, v2, v3] := by rw [← Array.toList_inj, ev0]
  obtain ⟨a0, r0, g0⟩ := arg_slice (R := rStroke) Try.underlying50 (opn_slice (R := rStroke) Try.underlying50 (by kernel_rfl) (by decide) opnStroke) (hval 0 _ _ rfl rfl) h0
  obtain ⟨a1, r1, g1⟩ := arg_slice (R := rStroke) Try.underlying50 (opn_slice (R := rStroke) Try.underlying50 (by kernel_rfl) (by decide) opnStroke) (hval 1 _ _ rfl rfl) h1
  obtain ⟨c2, a2, rfl, rfl, g2⟩ := arg_agg (R := rLabel) Try.underlying25 opnLabel (hval 2 _ _ rfl rfl) h2
  obtain ⟨a3, r3, g3⟩ := arg_slice (R := rY) Try.underlying62 (opn_slice (R := rY) Try.underlying62 (by kernel_rfl) (by decide) (opn_u8 Try.underlying5)) (hval 3 _ _ rfl rfl) h3
  have hb : Rows.uptoBulkAll [d0, d1, d2, d3] ≤ 1048576 := of_decide_eq_true hk
  simp only [Rows.uptoBulkAll] at hb
  have hl0 := bulk_slice Try.underlying50 r0 h0
  have hl1 := bulk_slice Try.underlying50 r1 h1
  have hl3 := bulk_slice Try.underlying62 r3 h3
  refine (syllogisttop_TopTwo_ok W (snapW W) [] 200 _ _ r0 _ _ r1 a2 _ _ r3 true (topTwo_true 200 _ _ _ _ (lensStroke r0) (lensStroke r1) (by omega)) W (cX_start W)).mono fun e W' ⟨he, hc⟩ => ⟨_, he, ?_⟩
  exact post_law hW' rfl rfl Try.laidOut (by kernel_rfl) rfl Try.underlying4 hc

theorem topTwoUpto_holds : Rows.TopTwoUptoSaid :=
  OpenClaim.holds_of_cond 10 Try.f10 rfl rfl rfl rfl rfl rfl rfl ⟨rfl, rfl, rfl, rfl, rfl⟩ rfl rfl rfl rfl rfl (by kernel_rfl) Try.func10 (by kernel_rfl)
    (of_decide_eq_true (by kernel_rfl)) (by unfold Func.isWrapper; first | (rw [if_pos (by decide +kernel)]; kernel_rfl) | (rw [if_neg (by decide +kernel)]; exact ⟨rfl, rfl⟩))
    (fun os started H enc _ F => topTwo_lifted os started H enc F)
end Go.Proofs.Ythndckcjjhdbmaa
