/- Plain lemmas on loops as functions, lists and bits (own lemmas); no program in sight. -/
import Derived.Test.YtkdhckiljfjanaaSyJ
namespace Go.Proofs.Ytkdhckiljfjanaa.Sy

theorem forK_q {σ R : Type} {body : Int → σ → (σ → Option R) → Option R} {k : σ → Option R} {Q : Option R → Prop} (I : Int → σ → Prop) : ∀ (n : Nat) (i : Int) (s : σ), I i s →
    (∀ j s nx, i ≤ j → j < i + n → I j s → (∀ s', I (j + 1) s' → Q (nx s')) → Q (body j s nx)) → (∀ s, I (i + n) s → Q (k s)) → Q (forK body k n i s)
  | 0, i, s, h, _, e => e s (by simpa using h)
  | n + 1, i, s, h, st, e => st i s _ (by omega) (by omega) h fun s' h' =>
      forK_q I n (i + 1) s' h' (fun j s nx h1 h2 => st j s nx (by omega) (by omega)) (fun s hs => e s (by rw [show i + ((n + 1 : Nat) : Int) = i + 1 + n by omega]; exact hs))

/-- From 0 to a bound. -/
theorem for0_q {σ R : Type} {body : Int → σ → (σ → Option R) → Option R} {k : σ → Option R} {Q : Option R → Prop} (I : Nat → σ → Prop) {b : Int} {n : Nat} (hb : b = n) (s : σ) (h0 : I 0 s)
    (st : ∀ (j : Nat) s nx, j < n → I j s → (∀ s', I (j + 1) s' → Q (nx s')) → Q (body (j : Int) s nx)) (e : ∀ s, I n s → Q (k s)) : Q (forK body k (b - 0).toNat 0 s) := by
  subst hb
  have : ((n : Int) - 0).toNat = n := by omega
  rw [this]
  refine forK_q (fun j s => I j.toNat s) n 0 s h0 (fun j s nx h1 h2 h3 h4 => ?_) (fun s hs => e s (by simpa using hs))
  have hj : j = (j.toNat : Int) := by omega
  have := st j.toNat s nx (by omega) h3 (fun s' hs' => h4 s' (by rw [show (j + 1).toNat = j.toNat + 1 by omega]; exact hs'))
  rwa [← hj] at this

theorem for0_eq {σ R : Type} {body : Int → σ → (σ → Option R) → Option R} {k : σ → Option R} {r : Option R} (I : Nat → σ → Prop) {b : Int} {n : Nat} (hb : b = n) (s : σ) (h0 : I 0 s)
    (st : ∀ (j : Nat) s nx, j < n → I j s → (∀ s', I (j + 1) s' → nx s' = r) → body (j : Int) s nx = r) (e : ∀ s, I n s → k s = r) : forK body k (b - 0).toNat 0 s = r :=
  for0_q (Q := fun o => o = r) I hb s h0 st e

theorem whileK_q {σ R : Type} {body : σ → (σ → Option R) → Option R} {Q : Option R → Prop} (I : σ → Prop) (μ : σ → Nat)
    (st : ∀ s nx, I s → (∀ s', I s' → μ s' < μ s → Q (nx s')) → Q (body s nx)) : ∀ (fuel : Nat) (s : σ), I s → μ s < fuel → Q (whileK body fuel s)
  | 0, s, _, h => absurd h (by omega)
  | n + 1, s, hi, h => st s _ hi fun s' hi' hlt => whileK_q I μ st n s' hi' (by omega)

theorem geti_at {α : Type} {xs : List α} {j : Nat} (h : j < xs.length) : geti xs (j : Int) = some xs[j] := by
  unfold geti; rw [if_pos (by omega)]; simp [h]
theorem geti_nat? {α : Type} {xs : List α} {j : Nat} : geti xs (j : Int) = xs[j]? := by
  unfold geti; rw [if_pos (by omega)]; simp
theorem geti_int {α : Type} {xs : List α} {i : Int} (h0 : 0 ≤ i) (h : i < xs.length) : geti xs i = some (xs[i.toNat]'(by omega)) := by
  unfold geti; rw [if_pos h0]; simp

theorem w64_id' {n : Int} (h : -9223372036854775808 ≤ n) (h' : n ≤ 9223372036854775807) : w64 n = n := w64_id h h'

theorem bit_shr (y : BitVec 32) (k : Nat) : (((y >>> k) &&& 1#32) == 1#32) = y.getLsbD k := by
  rw [Bool.eq_iff_iff, beq_iff_eq]
  constructor
  · intro h
    have := congrArg (fun z : BitVec 32 => z.getLsbD 0) h
    simpa using this
  · intro h
    ext i hi
    by_cases h0 : i = 0
    · subst h0; simp [h]
    · simp [h0]

theorem bit_and (w : BitVec 32) (k : Nat) (hk : k < 32) : ((w &&& (1#32 <<< k)) != 0#32) = w.getLsbD k := by
  rw [Bool.eq_iff_iff, bne_iff_ne]
  constructor
  · intro h
    cases hb : w.getLsbD k with
    | true => rfl
    | false =>
      refine absurd ?_ h
      ext i hi
      by_cases h0 : i = k
      · subst h0; rw [BitVec.getLsbD_eq_getElem hk] at hb; simp [hb]
      · simp; intro _ _; omega
  · intro h e
    have := congrArg (fun z : BitVec 32 => z.getLsbD k) e
    rw [BitVec.getLsbD_eq_getElem hk] at h
    simp [h, hk] at this

theorem one_shl (i j : Nat) : (1#32 <<< i).getLsbD j = true ↔ j = i ∧ j < 32 := by
  simp only [BitVec.getLsbD_shiftLeft, BitVec.getLsbD_one, Bool.and_eq_true, decide_eq_true_eq, Bool.not_eq_true', decide_eq_false_iff_not]
  omega

theorem lt_shl (s : BitVec 32) (n : Nat) (hn : n < 32) (h : ∀ j, n ≤ j → s.getLsbD j = false) : s < 1#32 <<< n := by
  have h1 : (1#32 <<< n).toNat = 2 ^ n := by
    rw [BitVec.toNat_shiftLeft]
    simp [Nat.shiftLeft_eq]
    exact Nat.pow_lt_pow_right (by omega) hn
  rw [BitVec.lt_def, h1]
  refine Nat.lt_pow_two_of_testBit _ fun i hi => ?_
  exact h i hi

end Go.Proofs.Ytkdhckiljfjanaa.Sy
