/- Words with some property, and the least ones within: plain lemmas (own lemmas); no program in sight. -/
import Derived.Test.YtkdhckiljfjanaaSyQ
namespace Go.Proofs.Ytkdhckiljfjanaa.Sy

theorem bit32 {c : BitVec 32} {i : Nat} (h : c.getLsbD i = true) : i < 32 := by
  refine Classical.byContradiction fun hn => ?_
  rw [BitVec.getLsbD_of_ge _ _ (by omega)] at h; cases h

/-! ### One thing less -/
def without (c : BitVec 32) (i : Nat) : BitVec 32 := c &&& ~~~(1#32 <<< i)
theorem without_bit (c : BitVec 32) (i j : Nat) : (without c i).getLsbD j = true ↔ c.getLsbD j = true ∧ j ≠ i := by
  unfold without
  rw [BitVec.getLsbD_and, Bool.and_eq_true]
  refine and_congr_right fun h => ?_
  have hj := bit32 h
  rw [BitVec.getLsbD_not]
  have := one_shl i j
  cases hb : (1#32 <<< i).getLsbD j with
  | true => simp [(this.1 hb).1]
  | false =>
    simp [hj]
    intro e
    rw [this.2 ⟨e, hj⟩] at hb; cases hb
theorem without_sub (c : BitVec 32) (i : Nat) : sb (without c i) c := fun j h => ((without_bit c i j).1 h).1
theorem without_ne {c : BitVec 32} {i : Nat} (h : c.getLsbD i = true) : without c i ≠ c := fun e => by
  have := (without_bit c i i).1 (by rw [e]; exact h)
  exact this.2 rfl
theorem without_add {c : BitVec 32} {i : Nat} (h : c.getLsbD i = true) : without c i + (1#32 <<< i) = c := by
  have h0 : without c i &&& (1#32 <<< i) = 0#32 := bits_ext fun j => by
    rw [BitVec.getLsbD_and, Bool.and_eq_true, without_bit, one_shl]
    simp only [BitVec.getLsbD_zero, Bool.false_eq_true, iff_false]
    rintro ⟨⟨_, h2⟩, h3, _⟩
    exact h2 h3
  rw [BitVec.add_eq_or_of_and_eq_zero _ _ h0]
  refine bits_ext fun j => ?_
  rw [BitVec.getLsbD_or, Bool.or_eq_true, without_bit, one_shl]
  constructor
  · rintro (h1 | h1)
    · exact h1.1
    · rw [h1.1]; exact h
  · intro h1
    by_cases e : j = i
    · exact .inr ⟨e, bit32 h1⟩
    · exact .inl ⟨h1, e⟩
theorem sub_bit {c : BitVec 32} {i : Nat} (h : c.getLsbD i = true) : c - (1#32 <<< i) = without c i := by
  have := without_add h
  calc c - (1#32 <<< i) = without c i + (1#32 <<< i) - (1#32 <<< i) := by rw [this]
    _ = without c i := by rw [BitVec.add_sub_cancel]

/-! ### The least ones within -/
def Mn (n : Nat) (U : BitVec 32 → Prop) (c : BitVec 32) : Prop := U c ∧ ∀ i, i < n → c.getLsbD i = true → ¬U (without c i)
theorem mn_below {n : Nat} {U : BitVec 32 → Prop} : ∀ (q : Nat) (c : BitVec 32), c.toNat < q → bel n c → U c → ∃ k, Mn n U k ∧ sb k c := by
  intro q
  induction q with
  | zero => intro c h; omega
  | succ q ih =>
    intro c hcq hc hS
    by_cases hK : Mn n U c
    · exact ⟨c, hK, sb_refl c⟩
    · have : ∃ i, i < n ∧ c.getLsbD i = true ∧ U (without c i) := by
        apply Classical.byContradiction
        intro hno
        exact hK ⟨hS, fun i hi hb hs => hno ⟨i, hi, hb, hs⟩⟩
      obtain ⟨i, hi, hb, hs⟩ := this
      have hlt := (without_sub c i).lt (without_ne hb)
      obtain ⟨k, hk, hkc⟩ := ih _ (by omega) (hc.sb (without_sub c i)) hs
      exact ⟨k, hk, hkc.trans (without_sub c i)⟩
theorem mn_iff {n : Nat} {U : BitVec 32 → Prop} (hU : ∀ a b, U a → sb a b → bel n b → U b) {c : BitVec 32} (hc : bel n c) : Mn n U c ↔ U c ∧ ¬ ∃ k, k.toNat < c.toNat ∧ Mn n U k ∧ sb k c := by
  constructor
  · rintro ⟨hS, hm⟩
    refine ⟨hS, fun ⟨k, hlt, hk, hkc⟩ => ?_⟩
    have : ∃ i, i < n ∧ c.getLsbD i = true ∧ k.getLsbD i ≠ true := by
      apply Classical.byContradiction
      intro hno
      have : sb c k := fun i e => Classical.byContradiction fun hn' => hno ⟨i, hc i e, e, hn'⟩
      have := this.le
      omega
    obtain ⟨i, hi, hb, hkb⟩ := this
    refine hm i hi hb (hU _ _ hk.1 (fun j hj => (without_bit c i j).2 ⟨hkc j hj, fun e => ?_⟩) (hc.sb (without_sub c i)))
    subst e; exact hkb hj
  · rintro ⟨hS, hno⟩
    refine ⟨hS, fun i hi hb hs => ?_⟩
    obtain ⟨k, hk, hkc⟩ := mn_below _ _ (Nat.lt_succ_self _) (hc.sb (without_sub c i)) hs
    have h1 := hkc.le
    have h2 := (without_sub c i).lt (without_ne hb)
    exact hno ⟨k, by omega, hk, hkc.trans (without_sub c i)⟩

/-! ### All words of which it is so, rising -/
noncomputable def flt (P : BitVec 32 → Prop) (m : Nat) : List (BitVec 32) := apps m fun j => bif tru (P (BitVec.ofNat 32 j)) then [BitVec.ofNat 32 j] else []
theorem flt_mem {P : BitVec 32 → Prop} {m : Nat} (hm : m ≤ 4294967296) {y : BitVec 32} : y ∈ flt P m ↔ y.toNat < m ∧ P y := by
  unfold flt
  rw [apps_mem]
  constructor
  · rintro ⟨j, hj, h⟩
    cases ht : tru (P (BitVec.ofNat 32 j)) with
    | true =>
      rw [ht, cond_true, List.mem_singleton] at h
      subst h
      exact ⟨by simp; omega, tru_iff.1 ht⟩
    | false => rw [ht, cond_false] at h; simp at h
  · rintro ⟨h1, h2⟩
    have : BitVec.ofNat 32 y.toNat = y := by simp
    exact ⟨y.toNat, h1, by rw [this, tru_iff.2 h2, cond_true]; simp⟩
theorem flt_len {P : BitVec 32 → Prop} {m : Nat} : (flt P m).length ≤ m := by
  have := apps_len (n := m) (c := 1) (f := fun j => bif tru (P (BitVec.ofNat 32 j)) then [BitVec.ofNat 32 j] else []) fun j _ => by cases tru (P (BitVec.ofNat 32 j)) <;> simp
  unfold flt
  omega
theorem flt_congr {P Q : BitVec 32 → Prop} {m : Nat} (hm : m ≤ 4294967296) (h : ∀ c : BitVec 32, c.toNat < m → (P c ↔ Q c)) : flt P m = flt Q m := by
  unfold flt
  refine apps_congr fun j hj => ?_
  rw [tru_congr (h (BitVec.ofNat 32 j) (by simp; omega))]
theorem flt_next {P : BitVec 32 → Prop} (c : BitVec 32) : flt P (c.toNat + 1) = flt P c.toNat ++ (bif tru (P c) then [c] else []) := by
  unfold flt
  rw [apps]
  have : BitVec.ofNat 32 c.toNat = c := by simp
  rw [this]
/-- A loop over words that keeps some. -/
theorem forU_flt {R : Type} {body : BitVec 32 → List (BitVec 32) → (List (BitVec 32) → Option R) → Option R} {k : List (BitVec 32) → Option R} (P : BitVec 32 → Prop) {B : BitVec 32}
    (st : ∀ (c : BitVec 32) s nx, c.toNat < B.toNat → s = flt P c.toNat → body c s nx = nx (s ++ bif tru (P c) then [c] else [])) :
    forK body k (B.toNat - (0#32).toNat) 0#32 [] = k (flt P B.toNat) :=
  forU_rec (fun j => flt P j) rfl fun c nx hc => by rw [st c _ nx hc rfl, flt_next]
theorem w_succ {c : BitVec 32} {n : Nat} (h : c.toNat < n) (hn : n < 4294967296) : (c + 1#32).toNat = c.toNat + 1 := by rw [BitVec.toNat_add]; simp; omega

/-! ### Loops without a counter over states that are known ahead -/
theorem while_rec {σ R : Type} {body : σ → (σ → Option R) → Option R} (S : Nat → σ) (n : Nat) (r : Option R) (st : ∀ (j : Nat) nx, j < n → body (S j) nx = nx (S (j + 1))) (en : ∀ nx, body (S n) nx = r) {fuel : Nat} (hf : n < fuel) {s : σ} (h0 : s = S 0) : whileK body fuel s = r := by
  subst h0
  have key : ∀ (f j : Nat), j ≤ n → n - j < f → whileK body f (S j) = r := by
    intro f
    induction f with
    | zero => intro j _ h; omega
    | succ f ih =>
      intro j hj h
      rw [whileK]
      by_cases e : j = n
      · subst e; exact en _
      · rw [st j _ (by omega)]; exact ih (j + 1) (by omega) (by omega)
  exact key fuel 0 (by omega) (by omega)
theorem cntN_mono {n : Nat} {p q : Nat → Bool} (h : ∀ j, j < n → p j = true → q j = true) : cntN n p ≤ cntN n q := by
  induction n with
  | zero => simp [cntN]
  | succ n ih =>
    have := ih fun j hj => h j (by omega)
    have hn := h n (by omega)
    rw [cntN, cntN]
    cases hp : p n with
    | true => rw [hn hp]; simp only [cond_true]; omega
    | false => cases q n <;> simp only [cond_true, cond_false] <;> omega
theorem cntN_lt {n : Nat} {p q : Nat → Bool} (h : ∀ j, j < n → p j = true → q j = true) {i : Nat} (hi : i < n) (h1 : p i = false) (h2 : q i = true) : cntN n p < cntN n q := by
  induction n with
  | zero => omega
  | succ n ih =>
    rw [cntN, cntN]
    by_cases e : i = n
    · subst e
      have := cntN_mono (n := i) (p := p) (q := q) fun j hj => h j (by omega)
      rw [h1, h2]; simp only [cond_true, cond_false]; omega
    · have := ih (fun j hj => h j (by omega)) (by omega)
      have hn := h n (by omega)
      cases hp : p n with
      | true => rw [hn hp]; simp only [cond_true]; omega
      | false => cases q n <;> simp only [cond_true, cond_false] <;> omega
theorem least_nat {P : Nat → Prop} {n : Nat} (h : P n) : ∃ m, P m ∧ ∀ i, P i → m ≤ i := by
  induction n using Nat.strongRecOn with
  | _ n ih =>
    by_cases hx : ∃ i, i < n ∧ P i
    · obtain ⟨i, hi, hp⟩ := hx
      exact ih i hi hp
    · exact ⟨n, h, fun i hp => Classical.byContradiction fun hlt => hx ⟨i, by omega, hp⟩⟩
/-- Where a way leaves a set. -/
theorem Rc.leaves {α : Type} {st : α → α → Prop} {a b : α} (P : α → Prop) (h : Rc st a b) (ha : P a) (hb : ¬P b) : ∃ x y, Rc st a x ∧ st x y ∧ P x ∧ ¬P y := by
  induction h with
  | refl => exact absurd ha hb
  | @tail c d hc e ih =>
    by_cases hp : P c
    · exact ⟨c, d, hc, e, hp, hb⟩
    · exact ih hp
end Go.Proofs.Ytkdhckiljfjanaa.Sy
