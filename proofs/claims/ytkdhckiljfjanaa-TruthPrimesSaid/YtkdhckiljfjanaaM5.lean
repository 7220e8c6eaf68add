/- Products that grow out of greater ones, in whatever order: the plain law of truth.Primes; no program in sight. -/
import Derived.Test.YtkdhckiljfjanaaT
import Derived.Test.YtkdhckiljfjanaaSyMi
import Derived.Test.YtkdhckiljfjanaaSyR
namespace Go.Proofs.Ytkdhckiljfjanaa.Sy
set_option linter.unusedVariables false

/-! ### Bits -/
theorem one_bit {i : Nat} (hi : i < 32) (j : Nat) : (1#32 <<< i).getLsbD j = true ↔ j = i := by
  have := without_bit (1#32 <<< i) i j
  constructor
  · intro h
    apply Classical.byContradiction
    intro hne
    have h2 := this.2 ⟨h, hne⟩
    unfold without at h2
    simp [h] at h2
  · rintro rfl
    simp [hi]
theorem xor_bit {i : Nat} (hi : i < 32) (a : BitVec 32) (j : Nat) : (a ^^^ (1#32 <<< i)).getLsbD j = (if j = i then !a.getLsbD j else a.getLsbD j) := by
  rw [BitVec.getLsbD_xor]
  by_cases e : j = i
  · rw [if_pos e, (one_bit hi j).2 e]; simp
  · rw [if_neg e]
    have : (1#32 <<< i).getLsbD j = false := by
      rw [← Bool.not_eq_true, one_bit hi]; exact e
    rw [this]; simp
theorem and0 {a b : BitVec 32} : ((a &&& b) == 0#32) = true ↔ ∀ i, a.getLsbD i = true → b.getLsbD i = false := by
  rw [beq_iff_eq]
  constructor
  · intro h i ha
    have := congrArg (fun z : BitVec 32 => z.getLsbD i) h
    simpa [ha] using this
  · intro h
    refine bits_ext fun i => ?_
    rw [BitVec.getLsbD_and, Bool.and_eq_true]
    simp only [BitVec.getLsbD_zero, Bool.false_eq_true, iff_false]
    rintro ⟨ha, hb⟩
    rw [h i ha] at hb; cases hb

/-! ### Products -/
def has (c : Clause) (i : Nat) : Bool := c.yes.getLsbD i || c.no.getLsbD i
def drp (c : Clause) (i : Nat) : Clause := { yes := without c.yes i, no := without c.no i }
def flp (c : Clause) (i : Nat) : Clause := { yes := c.yes ^^^ (1#32 <<< i), no := c.no ^^^ (1#32 <<< i) }
def adp (c : Clause) (i : Nat) : Clause := { yes := c.yes ||| (1#32 <<< i), no := c.no }
structure Okc (k : Nat) (c : Clause) : Prop where
  y : bel k c.yes
  z : bel k c.no
  d : ∀ i, c.yes.getLsbD i = true → c.no.getLsbD i = false
def sat (c : Clause) (s : BitVec 32) : Prop := sb c.yes s ∧ ∀ i, c.no.getLsbD i = true → s.getLsbD i = false
def Imp (k : Nat) (F : BitVec 32 → Bool) (c : Clause) : Prop := ∀ s, bel k s → sat c s → F s = true
def sz (k : Nat) (c : Clause) : Nat := cntN k (has c)
theorem clause_ext {a b : Clause} (h1 : ∀ i, a.yes.getLsbD i = true ↔ b.yes.getLsbD i = true) (h2 : ∀ i, a.no.getLsbD i = true ↔ b.no.getLsbD i = true) : a = b := by
  have e1 := bits_ext h1
  have e2 := bits_ext h2
  cases a; cases b
  simp only at e1 e2
  rw [e1, e2]
theorem drp_has (c : Clause) (i j : Nat) : has (drp c i) j = (has c j && !(j == i)) := by
  unfold has drp
  rw [Bool.eq_iff_iff]
  simp only [Bool.or_eq_true, without_bit, Bool.and_eq_true, Bool.not_eq_true', beq_eq_false_iff_ne]
  constructor
  · rintro (⟨a, b⟩ | ⟨a, b⟩)
    · exact ⟨.inl a, b⟩
    · exact ⟨.inr a, b⟩
  · rintro ⟨a | a, b⟩
    · exact .inl ⟨a, b⟩
    · exact .inr ⟨a, b⟩
theorem has_lt {k : Nat} {c : Clause} (h : Okc k c) {i : Nat} (hi : has c i = true) : i < k := by
  unfold has at hi
  rw [Bool.or_eq_true] at hi
  rcases hi with hi | hi
  · exact h.y i hi
  · exact h.z i hi
theorem flp_has {k : Nat} {c : Clause} (h : Okc k c) {i : Nat} (hk : k ≤ 4) (hi : has c i = true) (j : Nat) : has (flp c i) j = has c j := by
  have hik := has_lt h hi
  unfold has flp
  simp only [xor_bit (show i < 32 by omega)]
  by_cases e : j = i
  · subst e
    simp only [if_true]
    unfold has at hi
    have := h.d j
    cases hy : c.yes.getLsbD j with
    | true => rw [this hy]; rfl
    | false => rw [hy] at hi; simp at hi; rw [hi]; rfl
  · simp only [if_neg e]
theorem Okc.drp {k : Nat} {c : Clause} (h : Okc k c) (i : Nat) : Okc k (drp c i) where
  y j hj := h.y j ((without_bit _ _ _).1 hj).1
  z j hj := h.z j ((without_bit _ _ _).1 hj).1
  d j hj := by
    have := h.d j ((without_bit _ _ _).1 hj).1
    rw [← Bool.not_eq_true]
    intro hn
    have := ((without_bit _ _ _).1 hn).1
    simp_all
theorem Okc.flp {k : Nat} {c : Clause} (h : Okc k c) {i : Nat} (hk : k ≤ 4) (hi : has c i = true) : Okc k (flp c i) := by
  have hik := has_lt h hi
  have hd := h.d
  refine ⟨fun j hj => ?_, fun j hj => ?_, fun j hj => ?_⟩
  · unfold Sy.flp at hj
    simp only [xor_bit (show i < 32 by omega)] at hj
    by_cases e : j = i
    · omega
    · rw [if_neg e] at hj; exact h.y j hj
  · unfold Sy.flp at hj
    simp only [xor_bit (show i < 32 by omega)] at hj
    by_cases e : j = i
    · omega
    · rw [if_neg e] at hj; exact h.z j hj
  · unfold Sy.flp at hj ⊢
    simp only [xor_bit (show i < 32 by omega)] at hj ⊢
    by_cases e : j = i
    · subst e
      rw [if_pos rfl] at hj ⊢
      unfold has at hi
      cases hy : c.yes.getLsbD j with
      | true => rw [hy] at hj; cases hj
      | false => rw [hy, Bool.false_or] at hi; rw [hi]; rfl
    · rw [if_neg e] at hj ⊢; exact hd j hj
theorem flp_drp {k : Nat} {c : Clause} (h : Okc k c) {i : Nat} (hk : k ≤ 4) (hi : has c i = true) : drp (flp c i) i = drp c i := by
  have hik := has_lt h hi
  refine clause_ext (fun j => ?_) (fun j => ?_)
  · show (without (c.yes ^^^ (1#32 <<< i)) i).getLsbD j = true ↔ (without c.yes i).getLsbD j = true
    rw [without_bit, without_bit, xor_bit (show i < 32 by omega)]
    by_cases e : j = i
    · simp [e]
    · rw [if_neg e]
  · show (without (c.no ^^^ (1#32 <<< i)) i).getLsbD j = true ↔ (without c.no i).getLsbD j = true
    rw [without_bit, without_bit, xor_bit (show i < 32 by omega)]
    by_cases e : j = i
    · simp [e]
    · rw [if_neg e]
theorem Imp.mono {k : Nat} {F : BitVec 32 → Bool} {c d : Clause} (h : Imp k F d) (hs : ∀ s, sat c s → sat d s) : Imp k F c := fun s hb h2 => h s hb (hs s h2)
theorem sat_drp {c : Clause} {s : BitVec 32} (i : Nat) (h : sat c s) : sat (drp c i) s :=
  ⟨fun j hj => h.1 j ((without_bit _ _ _).1 hj).1, fun j hj => h.2 j ((without_bit _ _ _).1 hj).1⟩
/-- Without a variable: with it, and with it turned. -/
theorem imp_drp {k : Nat} {F : BitVec 32 → Bool} {c : Clause} (h : Okc k c) {i : Nat} (hk : k ≤ 4) (hi : has c i = true) : Imp k F (drp c i) ↔ Imp k F c ∧ Imp k F (flp c i) := by
  have hik := has_lt h hi
  constructor
  · intro hI
    exact ⟨hI.mono fun s => sat_drp i, hI.mono fun s hs => by rw [← flp_drp h hk hi]; exact sat_drp i hs⟩
  · rintro ⟨h1, h2⟩ s hb hs
    by_cases e : s.getLsbD i = c.yes.getLsbD i
    · refine h1 s hb ⟨fun j hj => ?_, fun j hj => ?_⟩
      · by_cases ej : j = i
        · subst ej; rw [e]; exact hj
        · exact hs.1 j ((without_bit _ _ _).2 ⟨hj, ej⟩)
      · by_cases ej : j = i
        · subst ej
          rw [e]
          cases hy : c.yes.getLsbD j with
          | false => rfl
          | true => rw [h.d j hy] at hj; cases hj
        · exact hs.2 j ((without_bit _ _ _).2 ⟨hj, ej⟩)
    · refine h2 s hb ⟨fun j hj => ?_, fun j hj => ?_⟩
      · have hj' : (c.yes ^^^ (1#32 <<< i)).getLsbD j = true := hj
        rw [xor_bit (show i < 32 by omega)] at hj'
        by_cases ej : j = i
        · subst ej
          rw [if_pos rfl] at hj'
          cases hs' : s.getLsbD j with
          | true => rfl
          | false => rw [hs'] at e; cases hy : c.yes.getLsbD j with
            | false => rw [hy] at e; exact absurd rfl e
            | true => rw [hy] at hj'; cases hj'
        · rw [if_neg ej] at hj'
          exact hs.1 j ((without_bit _ _ _).2 ⟨hj', ej⟩)
      · have hj' : (c.no ^^^ (1#32 <<< i)).getLsbD j = true := hj
        rw [xor_bit (show i < 32 by omega)] at hj'
        by_cases ej : j = i
        · subst ej
          rw [if_pos rfl] at hj'
          unfold has at hi
          cases hn : c.no.getLsbD j with
          | true => rw [hn] at hj'; cases hj'
          | false =>
            rw [hn, Bool.or_false] at hi
            rw [hi] at e
            simpa using e
        · rw [if_neg ej] at hj'
          exact hs.2 j ((without_bit _ _ _).2 ⟨hj', ej⟩)
theorem cnt_split {n : Nat} {p : Nat → Bool} {i : Nat} (hi : i < n) (hp : p i = true) : cntN n (fun j => p j && !(j == i)) + 1 = cntN n p := by
  induction n with
  | zero => omega
  | succ n ih =>
    rw [cntN, cntN]
    by_cases e : i = n
    · subst e
      have : cntN i (fun j => p j && !(j == i)) = cntN i p := cntN_congr fun j hj => by
        rw [show (j == i) = false by simp; omega]; simp
      rw [hp, this]
      simp
    · have := ih (by omega)
      rw [show (n == i) = false by simp; omega]
      cases p n with
      | true => simp only [Bool.not_false, Bool.and_self, cond_true]; omega
      | false => simp only [Bool.false_and, cond_false]; omega
theorem sz_drp {k : Nat} {c : Clause} (h : Okc k c) {i : Nat} (hi : has c i = true) : sz k (drp c i) + 1 = sz k c := by
  unfold sz
  rw [cntN_congr fun j _ => drp_has c i j]
  exact cnt_split (has_lt h hi) hi
theorem sz_flp {k : Nat} {c : Clause} (h : Okc k c) {i : Nat} (hk : k ≤ 4) (hi : has c i = true) : sz k (flp c i) = sz k c := cntN_congr fun j _ => flp_has h hk hi j
theorem adp_ok {k : Nat} {c : Clause} (h : Okc k c) {i : Nat} (hk : k ≤ 4) (hik : i < k) (hi : has c i = false) : Okc k (adp c i) ∧ has (adp c i) i = true ∧ drp (adp c i) i = c ∧ ∀ s, sat (adp c i) s → sat c s := by
  have h1 := one_bit (show i < 32 by omega)
  unfold has at hi
  rw [Bool.or_eq_false_iff] at hi
  have hy : ∀ j, (c.yes ||| (1#32 <<< i)).getLsbD j = true ↔ c.yes.getLsbD j = true ∨ j = i := fun j => by
    rw [BitVec.getLsbD_or, Bool.or_eq_true, h1]
  refine ⟨⟨fun j hj => ?_, h.z, fun j hj => ?_⟩, ?_, clause_ext (fun j => ?_) (fun j => ?_), fun s hs => ⟨fun j hj => hs.1 j ((hy j).2 (.inl hj)), hs.2⟩⟩
  · rcases (hy j).1 hj with hj | rfl
    · exact h.y j hj
    · exact hik
  · rcases (hy j).1 hj with hj | rfl
    · exact h.d j hj
    · exact hi.2
  · unfold has adp
    rw [Bool.or_eq_true]
    exact .inl ((hy i).2 (.inr rfl))
  · show (without (c.yes ||| (1#32 <<< i)) i).getLsbD j = true ↔ _
    rw [without_bit, hy]
    constructor
    · rintro ⟨a | a, b⟩
      · exact a
      · exact absurd a b
    · intro a
      exact ⟨.inl a, fun e => by subst e; rw [hi.1] at a; cases a⟩
  · show (without c.no i).getLsbD j = true ↔ _
    rw [without_bit]
    exact ⟨fun a => a.1, fun a => ⟨a, fun e => by subst e; rw [hi.2] at a; cases a⟩⟩
end Go.Proofs.Ytkdhckiljfjanaa.Sy
