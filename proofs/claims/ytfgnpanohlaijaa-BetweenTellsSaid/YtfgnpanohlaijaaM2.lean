/- What tables of truth compute: the plain laws; no program in sight. -/
import Derived.Test.YtfgnpanohlaijaaSyQ
import Derived.Test.YtfgnpanohlaijaaG1
namespace Go.Proofs.Ytfgnpanohlaijaa.Sy
set_option linter.unusedVariables false

theorem ishl_eq {n : Nat} (h : n ≤ 4) : ishl 1 n = ((2 ^ n : Nat) : Int) := by
  have : ∀ n, n ≤ 4 → ishl 1 n = ((2 ^ n : Nat) : Int) := by decide
  exact this n h
theorem pow_small {k : Nat} (h : k ≤ 4) : 2 ^ k ≤ 16 := by
  have : ∀ k, k ≤ 4 → 2 ^ k ≤ 16 := by decide
  exact this k h

structure TOk (n : Int) (f : List Bool) (k : Nat) : Prop where
  n : n = k
  k4 : k ≤ 4
  len : f.length = 2 ^ k

theorem tcheck (n : Int) (f : List Bool) : ∃ r, truth_Check n f = some r ∧ syllogistref_TruthCheck n f = some r ∧ (r = 0 → ∃ k, TOk n f k) := by
  unfold truth_Check syllogistref_TruthCheck
  cases hb : ((decide (n < (0 : Int))) || (decide (n > (4 : Int)))) with
  | true => exact ⟨1, rfl, rfl, by simp⟩
  | false =>
    simp only [Bool.or_eq_false_iff, decide_eq_false_iff_not] at hb
    obtain ⟨k, rfl⟩ : ∃ k : Nat, n = k := ⟨n.toNat, by omega⟩
    rw [cond_false, cond_false, decide_eq_true (by omega), cond_true, Int.toNat_natCast, ofInt64 (by omega), ishl_eq (by omega)]
    cases hl : ((f.length : Int) != ((2 ^ k : Nat) : Int)) with
    | true => exact ⟨3, rfl, rfl, by simp⟩
    | false =>
      refine ⟨0, rfl, rfl, fun _ => ⟨k, rfl, by omega, ?_⟩⟩
      rw [bne_eq_false_iff_eq] at hl
      omega

theorem bit_eq (w : BitVec 32) (j : Nat) (hj : j < 32) : syllogistref_Bit w j = some (w.getLsbD j) := congrArg some (bit_shape w j hj)
theorem fits_eq {n : Nat} (hn : n < 32) (s : BitVec 32) : syllogistref_Fits n s = some (decide (s < 1#32 <<< n)) := congrArg some (fits_shape hn s)
theorem bools_eq (a b : List Bool) : syllogistref_Bools a b = some (decide (a = b)) := lists_eq a b
theorem equal_eq (a b : List Bool) : slices_Equal_Sboolbool a b = some (decide (a = b)) := lists_eq a b
theorem clone_eq {f : List Bool} (h : f.length ≤ 16) : slices_Clone_Sboolbool f = some f := by
  unfold slices_Clone_Sboolbool
  rw [decide_eq_true (by simp; omega), cond_true, List.nil_append]

/-! ### Numbers below sixteen -/
theorem bit_small (t v : Nat) (ht : t < 16) : (BitVec.ofInt 32 (t : Int)).getLsbD v = t.testBit v := by
  have : (BitVec.ofInt 32 (t : Int)).toNat = t := by simp; omega
  show (BitVec.ofInt 32 (t : Int)).toNat.testBit v = _
  rw [this]
theorem is1_small : ∀ t : Nat, t < 16 → ∀ v : Nat, v < 4 → (iand (ishr (t : Int) v) 1 == 1) = t.testBit v := by decide
theorem is0_small : ∀ t : Nat, t < 16 → ∀ v : Nat, v < 4 → (iand (ishr (t : Int) v) 1 == 0) = !t.testBit v := by decide
theorem ixor_small : ∀ t : Nat, t < 16 → ∀ v : Nat, v < 4 → ixor (t : Int) (ishl 1 v) = ((t ^^^ 2 ^ v : Nat) : Int) := by decide
theorem ior_bit : ∀ t : Nat, t < 16 → ∀ v : Nat, v < 4 → ior (t : Int) (ishl 1 v) = ((t ||| 2 ^ v : Nat) : Int) := by decide
theorem ior_small : ∀ t : Nat, t < 16 → ∀ s : Nat, s < 16 → ior (t : Int) (s : Int) = ((t ||| s : Nat) : Int) := by decide
theorem xor_lt {k t v : Nat} (ht : t < 2 ^ k) (hv : v < k) : t ^^^ 2 ^ v < 2 ^ k := Nat.xor_lt_two_pow ht (Nat.pow_lt_pow_right (by omega) hv)
theorem or_lt {k t v : Nat} (ht : t < 2 ^ k) (hv : v < k) : t ||| 2 ^ v < 2 ^ k := Nat.or_lt_two_pow ht (Nat.pow_lt_pow_right (by omega) hv)

abbrev at_ (f : List Bool) (j : Nat) : Bool := f[j]?.getD false

/-! ### The dual -/
theorem dual_eq {k : Nat} {f : List Bool} (hk : k ≤ 4) (hf : f.length = 2 ^ k) : truth_dual f = some (tab (2 ^ k) fun s => !at_ f (2 ^ k - 1 - s)) := by
  have h16 := pow_small hk
  unfold truth_dual
  rw [decide_eq_true (by omega), cond_true, Int.toNat_natCast, hf]
  refine (for_tab (n := 2 ^ k) (fun s => !at_ f (2 ^ k - 1 - s)) rfl (fun j s nx hj hs => ?_)).trans rfl
  unfold truth_dual_b16
  rw [hf, w64_id (n := ((2 ^ k : Nat) : Int) - 1) (by omega) (by omega), w64_id (by omega) (by omega)]
  rw [show (((2 ^ k : Nat) : Int) - 1 - (j : Int)) = ((2 ^ k - 1 - j : Nat) : Int) by omega, geti_d false (by omega), Option.bind_some, geti_d false (by omega), Option.bind_some, Int.toNat_natCast]

def compl (s : Nat) : Nat → Nat
  | 0 => 0
  | v + 1 => bif s.testBit v then compl s v else compl s v + 2 ^ v
theorem compl_eq : ∀ k, k ≤ 4 → ∀ s, s < 2 ^ k → compl s k = 2 ^ k - 1 - s := by decide
theorem compl_le : ∀ s, s < 16 → ∀ v, v ≤ 4 → compl s v ≤ 16 := by decide

theorem rdual_eq {k : Nat} {f : List Bool} (hk : k ≤ 4) (hf : f.length = 2 ^ k) : syllogistref_Dual k f = some (tab (2 ^ k) fun s => !at_ f (2 ^ k - 1 - s)) := by
  have h16 := pow_small hk
  unfold syllogistref_Dual
  rw [decide_eq_true (by omega), cond_true, Int.toNat_natCast, hf]
  refine (for_tab (n := 2 ^ k) (fun s => !at_ f (2 ^ k - 1 - s)) rfl (fun j s nx hj hs => ?_)).trans rfl
  unfold syllogistref_Dual_b16
  rw [decide_eq_true (by omega), cond_true]
  refine (for_rec (n := k) (fun v => (compl j v : Int)) rfl rfl (fun v nx' hv => ?_)).trans ?_
  · unfold syllogistref_Dual_b32
    rw [bit_eq _ _ (by omega), Option.bind_some, bit_small _ _ (by omega), ofInt64 (by omega), ishl_eq (by omega), compl]
    have h1 := compl_le j (by omega) v (by omega)
    have h2 := pow_small (show v ≤ 4 by omega)
    generalize 2 ^ v = g at h2
    cases j.testBit v
    · rw [Bool.not_false, cond_true, cond_false, w64_id (by omega) (by omega)]; rfl
    · rfl
  · unfold syllogistref_Dual_k24
    rw [compl_eq k hk j hj, geti_d false (by omega), Option.bind_some, geti_d false (by omega), Option.bind_some, Int.toNat_natCast]

theorem truthDuals_true (n : Int) (f : List Bool) : syllogistlaw_TruthDuals n f = some true := by
  unfold syllogistlaw_TruthDuals truth_Dual
  obtain ⟨r, e1, e2, h⟩ := tcheck n f
  rw [e1, e2]
  by_cases hr : r = 0
  · subst hr
    obtain ⟨k, rfl, hk, hf⟩ := h rfl
    simp [dual_eq hk hf, rdual_eq hk hf, bools_eq]
  · have : (r != 0) = true := by simpa using hr
    simp [this]

/-! ### Sums -/
def sm (f : Nat → Bool) : Nat → Nat → Bool
  | 0, s => f s
  | i + 1, s => bif s.testBit i then (sm f i s != sm f i (s ^^^ 2 ^ i)) else sm f i s
def pm (i t s : Nat) : Bool := decide (t ||| s = s) && decide (t >>> i = s >>> i)
theorem pm_step : ∀ i, i < 4 → ∀ t, t < 16 → ∀ s, s < 16 → (bif s.testBit i then (pm i t s != pm i t (s ^^^ 2 ^ i)) else pm i t s) = pm (i + 1) t s := by decide
theorem pm_zero : ∀ t, t < 16 → ∀ s, s < 16 → pm 0 t s = (t == s) := by decide
theorem pm_end : ∀ k, k ≤ 4 → ∀ t, t < 2 ^ k → ∀ s, s < 2 ^ k → pm k t s = decide (t ||| s = s) := by decide
theorem bit_off : ∀ s, s < 16 → ∀ i, i < 4 → s.testBit i = true → (s ^^^ 2 ^ i).testBit i = false := by decide

theorem sm_eq {k : Nat} (hk : k ≤ 4) (f : Nat → Bool) : ∀ (i s : Nat), i ≤ k → s < 2 ^ k → sm f i s = xorN (2 ^ k) fun t => pm i t s && f t
  | 0, s, _, hs => by
    have h16 := pow_small hk
    rw [sm, xorN_congr (q := fun t => (t == s) && f t) fun t ht => by rw [pm_zero t (by omega) s (by omega)], xorN_one hs]
  | i + 1, s, hi, hs => by
    have h16 := pow_small hk
    have e1 := sm_eq hk f i s (by omega) hs
    have e2 := sm_eq hk f i (s ^^^ 2 ^ i) (by omega) (xor_lt hs (by omega))
    rw [sm, e1, e2, ← xorN_ne, cond_nx (α := Nat → Bool) (fun p => xorN (2 ^ k) p)]
    refine xorN_congr fun t ht => ?_
    rw [← pm_step i (by omega) t (by omega) s (by omega)]
    cases s.testBit i
    · rfl
    · simp only [cond_true]
      generalize pm i t s = a
      generalize pm i t (s ^^^ 2 ^ i) = b
      generalize f t = c
      cases a <;> cases b <;> cases c <;> rfl

theorem sums_eq {k : Nat} {f : List Bool} (hk : k ≤ 4) (hf : f.length = 2 ^ k) : truth_sums k f = some (tab (2 ^ k) (sm (at_ f) k)) := by
  have h16 := pow_small hk
  unfold truth_sums
  rw [clone_eq (by omega), Option.bind_some, decide_eq_true (by omega), cond_true]
  refine (for_rec (n := k) (fun i => tab (2 ^ k) (sm (at_ f) i)) rfl ?_ (fun i nx hi => ?_)).trans rfl
  · exact tab_of false hf
  · unfold truth_sums_b17
    refine (for_rec (n := 2 ^ k) (fun t => tab (2 ^ k) fun s => if s < t then sm (at_ f) (i + 1) s else sm (at_ f) i s) (by rw [tab_len]) ?_ (fun t nx' ht => ?_)).trans ?_
    · exact tab_congr fun j _ => by rw [if_neg (by omega)]
    · unfold truth_sums_b32
      rw [Int.toNat_natCast, is1_small t (by omega) i (by omega)]
      cases hb : t.testBit i with
      | true =>
        have hlt := xor_lt ht hi
        rw [cond_true, ixor_small t (by omega) i (by omega), tab_geti ht, Option.bind_some, tab_geti hlt, Option.bind_some, Int.toNat_natCast, tab_set ht]
        congr 1
        refine tab_congr fun j hj => ?_
        by_cases e : j = t
        · subst e
          have hoff := bit_off j (by omega) i (by omega) hb
          have : sm (at_ f) (i + 1) (j ^^^ 2 ^ i) = sm (at_ f) i (j ^^^ 2 ^ i) := by rw [sm, hoff, cond_false]
          have hx : (if (j ^^^ 2 ^ i) < j then sm (at_ f) (i + 1) (j ^^^ 2 ^ i) else sm (at_ f) i (j ^^^ 2 ^ i)) = sm (at_ f) i (j ^^^ 2 ^ i) := by rw [this]; split <;> rfl
          rw [if_pos rfl, if_neg (Nat.lt_irrefl j), hx, if_pos (Nat.lt_succ_self j), sm, hb, cond_true]
        · rw [if_neg e]
          by_cases h : j < t
          · rw [if_pos h, if_pos (by omega)]
          · rw [if_neg h, if_neg (by omega)]
      | false =>
        rw [cond_false]
        congr 1
        refine tab_congr fun j hj => ?_
        by_cases e : j = t
        · subst e
          rw [if_neg (by omega), if_pos (by omega), sm, hb, cond_false]
        · by_cases h : j < t
          · rw [if_pos h, if_pos (by omega)]
          · rw [if_neg h, if_neg (by omega)]
    · unfold truth_sums_k28
      congr 1
      exact tab_congr fun j hj => by rw [if_pos hj]

theorem rsums_eq {k : Nat} {f : List Bool} (hk : k ≤ 4) (hf : f.length = 2 ^ k) : syllogistref_Sums f = some (tab (2 ^ k) (sm (at_ f) k)) := by
  have h16 := pow_small hk
  unfold syllogistref_Sums
  rw [decide_eq_true (by omega), cond_true, Int.toNat_natCast, hf]
  refine (for_rec (n := 2 ^ k) (fun t => tab (2 ^ k) fun s => if s < t then sm (at_ f) k s else false) rfl ?_ (fun s nx hs => ?_)).trans ?_
  · rw [tab_rep]; exact tab_congr fun j _ => by rw [if_neg (by omega)]
  · unfold syllogistref_Sums_b16
    refine (for_rec (n := 2 ^ k) (fun m => tab (2 ^ k) fun j => if j < s then sm (at_ f) k j else if j = s then xorN m (fun t => decide (t ||| s = s) && at_ f t) else false) (by rw [hf]) ?_ (fun t nx' ht => ?_)).trans ?_
    · refine tab_congr fun j _ => ?_
      by_cases h : j < s
      · rw [if_pos h, if_pos h]
      · rw [if_neg h, if_neg h]; simp [xorN]
    · unfold syllogistref_Sums_b31
      rw [ior_small t (by omega) s (by omega), geti_d false (by omega)]
      simp only [Option.isSome_some, Bool.or_true, cond_true, Option.getD_some]
      have hd : ((((t ||| s : Nat) : Int)) == (s : Int)) = decide (t ||| s = s) := by
        rw [Bool.eq_iff_iff, beq_iff_eq, decide_eq_true_eq]; omega
      rw [hd, tab_geti hs]
      cases hc : (decide (t ||| s = s) && at_ f t) with
      | true =>
        rw [cond_true, Option.bind_some, Int.toNat_natCast, tab_set hs]
        congr 1
        refine tab_congr fun j _ => ?_
        by_cases e : j = s
        · subst e
          rw [if_pos rfl, if_neg (by omega), if_pos rfl, if_neg (by omega), if_pos rfl, xorN, hc]
          simp
        · rw [if_neg e, if_neg e, if_neg e]
      | false =>
        rw [cond_false]
        congr 1
        refine tab_congr fun j _ => ?_
        by_cases e : j = s
        · subst e
          rw [if_neg (by omega), if_pos rfl, if_neg (by omega), if_pos rfl, xorN, hc]
          simp
        · rw [if_neg e, if_neg e]
    · unfold syllogistref_Sums_k27
      congr 1
      refine tab_congr fun j _ => ?_
      by_cases e : j = s
      · subst e
        rw [if_neg (by omega), if_pos rfl, if_pos (by omega), sm_eq hk _ k j (by omega) hs]
        exact xorN_congr fun t ht => by rw [pm_end k hk t ht j hs]
      · rw [if_neg e]
        by_cases h : j < s
        · rw [if_pos h, if_pos (by omega)]
        · rw [if_neg h, if_neg (by omega)]
  · unfold syllogistref_Sums_k12
    congr 1
    exact tab_congr fun j hj => by rw [if_pos hj]

theorem truthSums_true (n : Int) (f : List Bool) : syllogistlaw_TruthSums n f = some true := by
  unfold syllogistlaw_TruthSums truth_Sums
  obtain ⟨r, e1, e2, h⟩ := tcheck n f
  rw [e1, e2]
  by_cases hr : r = 0
  · subst hr
    obtain ⟨k, rfl, hk, hf⟩ := h rfl
    simp [sums_eq hk hf, rsums_eq hk hf, bools_eq]
  · have : (r != 0) = true := by simpa using hr
    simp [this]
end Go.Proofs.Ytfgnpanohlaijaa.Sy
