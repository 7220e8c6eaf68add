/- What a program of lines makes of its variables: the plain law; no program in sight. -/
import Derived.Test.YtcihfhfolofomaaMf
namespace Go.Proofs.Ytcihfhfolofomaa.Sy
set_option linter.unusedVariables false

theorem iand7 (x : Int) : iand x 7 = x % 8 := by
  unfold iand
  have h7 : (BitVec.ofInt 64 7).toNat = 2 ^ 3 - 1 := by decide
  rw [BitVec.toNat_and, h7, Nat.and_two_pow_sub_one_eq_mod, BitVec.toNat_ofInt]
  rw [w64_id (by omega) (by omega)]
  omega
theorem at_in {α : Type} {xs : List α} {i : Int} (d : α) (h0 : 0 ≤ i) (h : i < xs.length) : geti xs i = some (xs[i.toNat]?.getD d) := by
  rw [geti_int h0 h, getd_at d (by omega)]
theorem tmod8 (v : Int) : ∃ q, v = 8 * q + v.tmod 8 ∧ -8 < v.tmod 8 ∧ v.tmod 8 < 8 := by
  refine ⟨v.tdiv 8, ?_, ?_, ?_⟩
  · have := Int.mul_tdiv_add_tmod v 8; omega
  · by_cases h : 0 ≤ v
    · have := Int.tmod_nonneg 8 h; omega
    · have h1 : v.tmod 8 = -((-v).tmod 8) := by rw [Int.neg_tmod, Int.neg_neg]
      have := Int.tmod_lt_of_pos (-v) (show (0 : Int) < 8 by omega)
      omega
  · exact Int.tmod_lt_of_pos v (by omega)
theorem sum_eq (v a b : Int) (a0 : 0 ≤ a) (a7 : a ≤ 7) (b0 : 0 ≤ b) (b7 : b ≤ 7) : iand (w64 (w64 (a + b) + iand v 7)) 7 = (w64 (w64 (w64 (v.tmod 8 + a) + b) + 8)).tmod 8 := by
  obtain ⟨q, e, l1, l2⟩ := tmod8 v
  rw [iand7, iand7, w64_id (n := a + b) (by omega) (by omega), w64_id (by omega) (by omega), w64_id (n := v.tmod 8 + a) (by omega) (by omega), w64_id (n := v.tmod 8 + a + b) (by omega) (by omega), w64_id (by omega) (by omega), Int.tmod_eq_emod_of_nonneg (by omega)]
  omega

/-- The variables. -/
def VV (n : Int) (vs : List Int) : Prop := (vs.length : Int) = n ∧ ∀ v ∈ vs, 0 ≤ v ∧ v ≤ 7
def vl (vs : List Int) (i : Int) : Int := if i < 0 then 0 else vs[i.toNat]?.getD 0
theorem VV.at {n : Int} {vs : List Int} (h : VV n vs) {i : Int} (h0 : 0 ≤ i) (h1 : i < n) : geti vs i = some (vl vs i) := by
  unfold vl
  rw [if_neg (by omega)]
  exact at_in 0 h0 (by rw [h.1]; exact h1)
theorem VV.vl {n : Int} {vs : List Int} (h : VV n vs) (i : Int) : 0 ≤ vl vs i ∧ vl vs i ≤ 7 := by
  unfold Sy.vl
  by_cases hi : i < 0
  · rw [if_pos hi]; omega
  · rw [if_neg hi]
    cases e : vs[i.toNat]? with
    | none => simp
    | some v => exact h.2 v (get_mem e)
theorem VV.set {n : Int} {vs : List Int} (h : VV n vs) (i : Nat) {v : Int} (h0 : 0 ≤ v) (h7 : v ≤ 7) : VV n (vs.set i v) := by
  refine ⟨by rw [List.length_set]; exact h.1, fun w hw => ?_⟩
  rcases List.mem_or_eq_of_mem_set hw with hw | rfl
  · exact h.2 w hw
  · exact ⟨h0, h7⟩
theorem val_eq {n : Int} {vs : List Int} (h : VV n vs) {i : Int} (h1 : i < n) : flow_val vs i = some (vl vs i) := by
  unfold flow_val
  by_cases hi : i < 0
  · rw [decide_eq_true hi, cond_true]; unfold vl; rw [if_pos hi]
  · rw [decide_eq_false hi, cond_false, h.at (by omega) h1]; rfl
def QQ (n : Int) (a b : Option (List Int)) : Prop := ∃ r, a = some r ∧ b = some r ∧ VV n r

theorem times_eq {n : Int} {s1 s2 : List Line → List Int → Option (List Int)} {y : Line} (hs : ∀ vs, VV n vs → ∃ r, s1 y.body vs = some r ∧ s2 y.body vs = some r ∧ VV n r) {n1 n2 : List Int → Option (List Int)} (hn : ∀ vs, VV n vs → QQ n (n1 vs) (n2 vs)) :
    ∀ (c g : Nat), c < g → c ≤ 100 → ∀ (i : Int) (vs : List Int), VV n vs → QQ n (forK (fun i s nx => flow_run_b45 s1 y i s nx) (fun s => flow_run_k41 n1 s) c i vs) (whileK (fun s nx => syllogistref_Run_b79 s2 n2 y s.1 s.2 nx) g (vs, (c : Int)))
  | 0, g + 1, _, _, i, vs, hv => by
    unfold whileK forK flow_run_k41 syllogistref_Run_b79 syllogistref_Run_k77
    rw [decide_eq_false (by omega), cond_false]
    exact hn vs hv
  | c + 1, g + 1, hg, hc, i, vs, hv => by
    unfold whileK forK
    obtain ⟨r, e1, e2, hr⟩ := hs vs hv
    show QQ n (flow_run_b45 s1 y i vs _) (syllogistref_Run_b79 s2 n2 y vs ((c + 1 : Nat) : Int) _)
    unfold flow_run_b45 syllogistref_Run_b79
    rw [decide_eq_true (by omega), cond_true, e1, e2, Option.bind_some, Option.bind_some, w64_id (by omega) (by omega), show ((c + 1 : Nat) : Int) - 1 = (c : Int) by omega]
    exact times_eq hs hn c g (by omega) (by omega) _ r hr

theorem run_eq (n : Int) (n6 : n ≤ 6) : ∀ (d f : Nat), d + 10 < f → ∀ l, OkL n d l → ∀ vs, VV n vs → ∃ r, flow_run f l vs = some r ∧ syllogistref_Run f l vs = some r ∧ VV n r
  | 0, f + 1, _, l, h, vs, hv => by
    have h : l = [] := h
    subst h
    exact ⟨vs, rfl, rfl, hv⟩
  | d + 1, f + 1, hf, l, h, vs, hv => by
    obtain ⟨hl, h⟩ := h
    unfold flow_run syllogistref_Run flow_run_s syllogistref_Run_s
    show QQ n _ _
    refine for0_two (Q := QQ n) (n := l.length) (fun _ s => VV n s) rfl vs hv (fun t s n1 n2 ht hs hn => ?_) (fun s hs => ⟨s, rfl, rfl, hs⟩)
    unfold flow_run_b10 syllogistref_Run_b19
    rw [geti_at ht, Option.bind_some, Option.bind_some]
    obtain ⟨k0, a0, h5, h6⟩ := h l[t] (List.getElem_mem ht)
    generalize l[t] = x at k0 a0 h5 h6
    have hn : ∀ vs, VV n vs → QQ n (n1 vs) (n2 vs) := hn
    have q5 := fun vs hv => run_eq n n6 d f (by omega) _ h5 vs hv
    have q6 := fun vs hv => run_eq n n6 d f (by omega) _ h6 vs hv
    unfold kbad at k0
    unfold abad at a0
    simp only [Bool.or_eq_false_iff, decide_eq_false_iff_not] at k0
    have hlen : s.length ≤ 1000 ∨ True := .inr trivial
    cases h1 : x.kind == 1 with
    | true =>
      rw [h1, cond_true] at a0
      simp only [Bool.or_eq_false_iff, decide_eq_false_iff_not] at a0
      simp only [cond_true]
      rw [val_eq hs (by omega), val_eq hs (by omega), Option.bind_some, Option.bind_some, hs.at (by omega) (by omega), Option.bind_some]
      obtain ⟨va0, va7⟩ := hs.vl x.a
      obtain ⟨vb0, vb7⟩ := hs.vl x.b
      obtain ⟨q, e, l1, l2⟩ := tmod8 x.val
      have eA : ∀ K : Int → Option (List Int), (bif decide (x.a ≥ (0 : Int)) then (geti s x.a).bind fun y => K (w64 (x.val.tmod 8 + y)) else K (x.val.tmod 8)) = K (w64 (x.val.tmod 8 + vl s x.a)) := fun K => by
        by_cases ha : x.a < 0
        · rw [decide_eq_false (by omega), cond_false]
          have : vl s x.a = 0 := by unfold vl; rw [if_pos ha]
          rw [this, Int.add_zero, w64_id (by omega) (by omega)]
        · rw [decide_eq_true (by omega), cond_true, hs.at (by omega) (by omega), Option.bind_some]
      rw [eA (fun z => syllogistref_Run_k32 s n2 x z)]
      unfold syllogistref_Run_k32
      have ew : -10 ≤ w64 (x.val.tmod 8 + vl s x.a) ∧ w64 (x.val.tmod 8 + vl s x.a) ≤ 20 := by rw [w64_id (by omega) (by omega)]; omega
      have eB : (bif decide (x.b ≥ (0 : Int)) then (geti s x.b).bind fun y => syllogistref_Run_k35 s n2 x (w64 (w64 (x.val.tmod 8 + vl s x.a) + y)) else syllogistref_Run_k35 s n2 x (w64 (x.val.tmod 8 + vl s x.a))) = syllogistref_Run_k35 s n2 x (w64 (w64 (x.val.tmod 8 + vl s x.a) + vl s x.b)) := by
        by_cases hb : x.b < 0
        · rw [decide_eq_false (by omega), cond_false]
          have : vl s x.b = 0 := by unfold vl; rw [if_pos hb]
          rw [this, Int.add_zero, w64_id (n := w64 (x.val.tmod 8 + vl s x.a)) (by omega) (by omega)]
        · rw [decide_eq_true (by omega), cond_true, hs.at (by omega) (by omega), Option.bind_some]
      rw [eB]
      unfold syllogistref_Run_k35
      have hsl := hs.1
      rw [decide_eq_true (by simp only [List.length_nil]; omega), cond_true, List.nil_append, hs.at (by omega) (by omega), Option.bind_some, ← sum_eq x.val _ _ va0 va7 vb0 vb7]
      refine hn _ (hs.set _ ?_ ?_)
      · rw [iand7]; omega
      · rw [iand7]; omega
    | false =>
      rw [h1, cond_false] at a0
      simp only [Bool.or_eq_false_iff, decide_eq_false_iff_not] at a0
      simp only [cond_false]
      rw [hs.at (by omega) (by omega)]
      simp only [Option.bind_some]
      cases h2 : x.kind == 2 with
      | true =>
        simp only [cond_true]
        cases hz : vl s x.a != 0 with
        | true =>
          obtain ⟨r, e1, e2, hr⟩ := q5 s hs
          simp only [cond_true, e1, e2, Option.bind_some]
          exact hn r hr
        | false =>
          obtain ⟨r, e1, e2, hr⟩ := q6 s hs
          simp only [cond_false, e1, e2, Option.bind_some]
          exact hn r hr
      | false =>
        have h3 : (x.kind == 3) = true := by
          have a1 : x.kind ≠ 1 := by simpa using h1
          have a2 : x.kind ≠ 2 := by simpa using h2
          rw [beq_iff_eq]; omega
        obtain ⟨v0, v7⟩ := hs.vl x.a
        simp only [h3, cond_true, cond_false]
        rw [decide_eq_true (by omega), cond_true, Int.sub_zero]
        have := times_eq (n := n) (s1 := flow_run f) (s2 := syllogistref_Run f) (y := x) q5 hn (vl s x.a).toNat f (by omega) (by omega) 0 s hs
        rwa [Int.toNat_of_nonneg v0] at this
termination_by d => d

theorem any_at {α : Type} (s : List α) (p : α → Bool) (d : α) : anyN s.length (fun j => p (s[j]?.getD d)) = s.any p := by
  rw [any_len]
  exact anyN_congr fun j hj => by rw [List.getElem?_eq_getElem hj]; rfl
def vbad (v : Int) : Bool := decide (v < 0) || decide (v > 7)
theorem ints_rf (a : List Int) : syllogistref_Ints a a = some true := by
  unfold syllogistref_Ints syllogistref_Ints_b7 syllogistref_Ints_k3
  rw [lists_eq a a, decide_eq_true rfl]
theorem k8_eq (l : List Line) (vs : List Int) (f : Nat) (r1 : List Int × Int) (x : Int) : syllogistlaw_FlowRuns_k8 l vs f r1 x = syllogistlaw_FlowRuns_k15 l vs f r1 (bif (x == 0) && vs.any vbad then 4 else x) := by
  unfold syllogistlaw_FlowRuns_k8
  rw [for_rec (s := x) (n := vs.length) (fun t => bif (x == 0) && anyN t (fun j => vbad (vs[j]?.getD 0)) then 4 else x) rfl (by cases (x == 0) <;> rfl) (fun t nx ht => by
    unfold syllogistlaw_FlowRuns_b27
    rw [geti_d 0 ht, Option.bind_some, anyN]
    cases hx : x == 0 with
    | false =>
      simp only [Bool.false_and, cond_false, hx]
    | true =>
      have hx' : x = 0 := by simpa using hx
      subst hx'
      simp only [Bool.true_and]
      cases anyN t (fun j => vbad (vs[j]?.getD 0)) <;> cases hv : vbad (vs[t]?.getD 0) <;> (unfold vbad at hv; simp [hv])), any_at]
theorem k15_nz (l : List Line) (vs : List Int) (f : Nat) {x : Int} (hx : x ≠ 0) : syllogistlaw_FlowRuns_k15 l vs f ([], x) x = some true := by
  unfold syllogistlaw_FlowRuns_k15
  have : (x != 0) = true := by simpa using hx
  rw [this]
  simp

theorem flowRuns_true (fuel : Nat) (n : Int) (l : List Line) (vs : List Int) (hs : smLine l) (hf : 30 < fuel := by decide) : syllogistlaw_FlowRuns fuel n l vs = some true := by
  unfold syllogistlaw_FlowRuns flow_Run
  obtain ⟨c, e1, e2, hc⟩ := wrong_eq fuel (by omega) n l hs
  rw [e1, e2, Option.bind_some]
  by_cases h0 : c = 0
  · subst h0
    obtain ⟨n1, n6, hok⟩ := hc rfl
    simp only [bne_self_eq_false, cond_false, beq_self_eq_true, Bool.true_and]
    cases hn : (vs.length : Int) != n with
    | true =>
      simp only [cond_true, Option.bind_some, beq_self_eq_true, Bool.true_and]
      rw [k8_eq]
      exact k15_nz l vs fuel (x := 3) (by decide)
    | false =>
      have hn' : (vs.length : Int) = n := by simpa using hn
      have hcf : slices_ContainsFunc_Sintint vs (fun a => flow_Run_c1 a) = some (vs.any vbad) := by
        unfold slices_ContainsFunc_Sintint slices_IndexFunc_Sintint slices_IndexFunc_Sintint_b7 slices_IndexFunc_Sintint_k3
        exact any_shape vs _ vbad fun a _ => rfl
      simp only [cond_false, hcf, Option.bind_some]
      cases hv : vs.any vbad with
      | true =>
        simp only [cond_true, cond_false, Option.bind_some, beq_self_eq_true, Bool.true_and]
        rw [k8_eq, hv]
        exact k15_nz l vs fuel (x := 4) (by decide)
      | false =>
        have hV : VV n vs := ⟨hn', fun v hv' => by
          have := List.any_eq_false.1 hv v hv'
          unfold vbad at this
          rw [Bool.not_eq_true, Bool.or_eq_false_iff, decide_eq_false_iff_not, decide_eq_false_iff_not] at this
          omega⟩
        obtain ⟨r, r1, r2, hr⟩ := run_eq n n6 4 fuel (by omega) l hok vs hV
        have hcl : slices_Clone_Sintint vs = some vs := by
          unfold slices_Clone_Sintint
          rw [decide_eq_true (by simp only [List.length_nil]; omega), cond_true, List.nil_append]
        simp only [cond_false, hcl, r1, Option.bind_some, beq_self_eq_true, Bool.true_and]
        rw [k8_eq, hv]
        unfold syllogistlaw_FlowRuns_k15
        rw [r2]
        simp [ints_rf]
  · have h3 : (c != 0) = true := by simpa using h0
    have h4 : (c == 0) = false := by simpa using h0
    simp only [h3, h4, cond_true, Bool.false_and, cond_false, Option.bind_some]
    rw [k8_eq, h4, Bool.false_and, cond_false]
    exact k15_nz l vs fuel h0
end Go.Proofs.Ytcihfhfolofomaa.Sy
