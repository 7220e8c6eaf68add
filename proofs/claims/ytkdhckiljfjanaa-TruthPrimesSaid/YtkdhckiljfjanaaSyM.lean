/- Words as sets of small numbers: plain lemmas (own lemmas); no program in sight. -/
import Derived.Test.YtkdhckiljfjanaaSyK
namespace Go.Proofs.Ytkdhckiljfjanaa.Sy

def sb (a b : BitVec 32) : Prop := ∀ i, a.getLsbD i = true → b.getLsbD i = true

theorem sb_refl (a : BitVec 32) : sb a a := fun _ h => h
theorem sb.trans {a b c : BitVec 32} (h : sb a b) (k : sb b c) : sb a c := fun i e => k i (h i e)
theorem bits_ext {a b : BitVec 32} (h : ∀ i, a.getLsbD i = true ↔ b.getLsbD i = true) : a = b :=
  BitVec.eq_of_getLsbD_eq fun i _ => by rw [Bool.eq_iff_iff]; exact h i
theorem sb.antisymm {a b : BitVec 32} (h : sb a b) (k : sb b a) : a = b := bits_ext fun i => ⟨h i, k i⟩
theorem sb_zero (a : BitVec 32) : sb 0#32 a := fun i h => by simp at h
theorem sb_or {a b c : BitVec 32} : sb (a ||| b) c ↔ sb a c ∧ sb b c := by
  constructor
  · exact fun h => ⟨fun i e => h i (by simp [e]), fun i e => h i (by simp [e])⟩
  · rintro ⟨h, k⟩ i e
    rw [BitVec.getLsbD_or, Bool.or_eq_true] at e
    exact e.elim (h i) (k i)
theorem sb_orl (a b : BitVec 32) : sb a (a ||| b) := fun i e => by simp [e]
theorem sb_orr (a b : BitVec 32) : sb b (a ||| b) := fun i e => by simp [e]
theorem sb_and {a b c : BitVec 32} : sb c (a &&& b) ↔ sb c a ∧ sb c b := by
  constructor
  · intro h
    refine ⟨fun i e => ?_, fun i e => ?_⟩ <;> have := h i e <;> rw [BitVec.getLsbD_and, Bool.and_eq_true] at this
    · exact this.1
    · exact this.2
  · rintro ⟨h, k⟩ i e
    rw [BitVec.getLsbD_and, h i e, k i e]; rfl
theorem sb_andl (a b : BitVec 32) : sb (a &&& b) a := (sb_and.1 (sb_refl _)).1
theorem sb_andr (a b : BitVec 32) : sb (a &&& b) b := (sb_and.1 (sb_refl _)).2

theorem andn_iff {a b : BitVec 32} : ((a &&& ~~~b) == 0#32) = true ↔ sb a b := by
  rw [beq_iff_eq]
  constructor
  · intro h i e
    have := congrArg (fun z : BitVec 32 => z.getLsbD i) h
    cases hb : b.getLsbD i with
    | true => rfl
    | false =>
      have hi : i < 32 := by
        by_cases h : i < 32
        · exact h
        · rw [BitVec.getLsbD_of_ge _ _ (by omega)] at e; cases e
      simp only [BitVec.getLsbD_and, BitVec.getLsbD_not, e, hb, hi] at this
      simp at this
  · intro h
    refine bits_ext fun i => ?_
    simp only [BitVec.getLsbD_and, BitVec.getLsbD_not, Bool.and_eq_true, BitVec.getLsbD_zero, Bool.not_eq_true', Bool.false_eq_true, iff_false]
    rintro ⟨e, _, k⟩
    rw [h i e] at k; cases k
theorem or_iff {a b : BitVec 32} : ((a ||| b) == b) = true ↔ sb a b := by
  rw [beq_iff_eq]
  constructor
  · intro h i e
    rw [← h]; simp [e]
  · intro h
    exact (sb_or.2 ⟨h, sb_refl b⟩).antisymm (sb_orr a b)
theorem andn_or (a b : BitVec 32) : ((a &&& ~~~b) == 0#32) = ((a ||| b) == b) := by
  rw [Bool.eq_iff_iff, andn_iff, or_iff]

theorem sb.le {a b : BitVec 32} (h : sb a b) : a.toNat ≤ b.toNat := by
  have e : a ||| b = b := by simpa using or_iff.2 h
  rw [← e, BitVec.toNat_or]
  exact Nat.left_le_or
theorem sb.lt {a b : BitVec 32} (h : sb a b) (hn : a ≠ b) : a.toNat < b.toNat := by
  have := h.le
  have hne : a.toNat ≠ b.toNat := fun e => hn (BitVec.eq_of_toNat_eq e)
  omega

/-! ### Below n -/
def bel (n : Nat) (s : BitVec 32) : Prop := ∀ j, s.getLsbD j = true → j < n

theorem one_shl_toNat {n : Nat} (hn : n < 32) : (1#32 <<< n).toNat = 2 ^ n := by
  rw [BitVec.toNat_shiftLeft]
  simp [Nat.shiftLeft_eq]
  exact Nat.pow_lt_pow_right (by omega) hn
theorem bel_toNat {n : Nat} {s : BitVec 32} : bel n s ↔ s.toNat < 2 ^ n := by
  constructor
  · intro h
    refine Nat.lt_pow_two_of_testBit _ fun i hi => ?_
    cases e : s.toNat.testBit i with
    | false => rfl
    | true => have := h i e; omega
  · intro h j e
    have h' : s.toNat.testBit j = true := e
    by_cases hj : j < n
    · exact hj
    · rw [Nat.testBit_lt_two_pow (Nat.lt_of_lt_of_le h (Nat.pow_le_pow_right (by omega) (by omega)))] at h'; cases h'
theorem bel_lt {n : Nat} (hn : n < 32) {s : BitVec 32} : s < 1#32 <<< n ↔ bel n s := by
  rw [BitVec.lt_def, one_shl_toNat hn, bel_toNat]
theorem bel_shr {n : Nat} {s : BitVec 32} : (s >>> n) = 0#32 ↔ bel n s := by
  constructor
  · intro h j e
    by_cases hj : j < n
    · exact hj
    · have := congrArg (fun z : BitVec 32 => z.getLsbD (j - n)) h
      simp only [BitVec.getLsbD_ushiftRight, BitVec.getLsbD_zero] at this
      rw [show n + (j - n) = j by omega, e] at this; cases this
  · intro h
    refine bits_ext fun i => ?_
    simp only [BitVec.getLsbD_ushiftRight, BitVec.getLsbD_zero, Bool.false_eq_true, iff_false]
    intro e
    have := h _ e; omega
theorem bel_or {n : Nat} {a b : BitVec 32} : bel n (a ||| b) ↔ bel n a ∧ bel n b := by
  constructor
  · exact fun h => ⟨fun j e => h j (by simp [e]), fun j e => h j (by simp [e])⟩
  · rintro ⟨h, k⟩ j e
    rw [BitVec.getLsbD_or, Bool.or_eq_true] at e
    exact e.elim (h j) (k j)
theorem bel.sb {n : Nat} {a b : BitVec 32} (h : bel n b) (k : sb a b) : bel n a := fun j e => h j (k j e)

def full (n : Nat) : BitVec 32 := 1#32 <<< n - 1#32
theorem full_toNat {n : Nat} (hn : n < 32) : (full n).toNat = 2 ^ n - 1 := by
  unfold full
  have h := one_shl_toNat hn
  have hp : 0 < 2 ^ n := Nat.pow_pos (by omega)
  have hlt : 2 ^ n < 2 ^ 32 := Nat.pow_lt_pow_right (by omega) hn
  rw [BitVec.toNat_sub, h]
  simp
  omega
theorem full_bit {n : Nat} (hn : n < 32) (j : Nat) : (full n).getLsbD j = true ↔ j < n := by
  show (full n).toNat.testBit j = true ↔ j < n
  rw [full_toNat hn, Nat.testBit_two_pow_sub_one]; simp
theorem bel_full {n : Nat} (hn : n < 32) {s : BitVec 32} : bel n s ↔ sb s (full n) :=
  ⟨fun h j e => (full_bit hn j).2 (h j e), fun h j e => (full_bit hn j).1 (h j e)⟩

theorem ofInt64 {n : Nat} (h : n < 4294967296) : (BitVec.ofInt 64 (n : Int)).toNat = n := by
  simp; omega

/-- From 0 to a bound, the counter a word. -/
theorem forU_q {σ R : Type} {body : BitVec 32 → σ → (σ → Option R) → Option R} {k : σ → Option R} {Q : Option R → Prop} (I : Nat → σ → Prop) {B : BitVec 32} (s : σ) (h0 : I 0 s)
    (st : ∀ (c : BitVec 32) s nx, c.toNat < B.toNat → I c.toNat s → (∀ s', I (c.toNat + 1) s' → Q (nx s')) → Q (body c s nx)) (e : ∀ s, I B.toNat s → Q (k s)) : Q (forK body k (B.toNat - (0#32).toNat) 0#32 s) := by
  have key : ∀ (n : Nat) (i : BitVec 32) (s : σ), n + i.toNat = B.toNat → I i.toNat s → Q (forK body k n i s) := by
    intro n
    induction n with
    | zero => intro i s hn hI; exact e s (by rw [← hn, Nat.zero_add]; exact hI)
    | succ n ih =>
      intro i s hn hI
      have hB := B.isLt
      have hi : (i + 1).toNat = i.toNat + 1 := by rw [BitVec.toNat_add]; simp; omega
      exact st i s _ (by omega) hI fun s' hs' => ih (i + 1) s' (by omega) (by rw [hi]; exact hs')
  exact key _ _ _ (by simp) h0

end Go.Proofs.Ytkdhckiljfjanaa.Sy
