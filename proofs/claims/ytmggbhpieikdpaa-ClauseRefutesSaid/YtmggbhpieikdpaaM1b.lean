/- Clauses: what must be true, and the first word: the plain laws; no program in sight. -/
import Derived.Test.YtmggbhpieikdpaaG1
import Derived.Test.YtmggbhpieikdpaaSyR
namespace Go.Proofs.Ytmggbhpieikdpaa.Sy
set_option linter.unusedVariables false

theorem contC (s : List Clause) (f : Clause → Option Bool) (p : Clause → Bool) (hf : ∀ a ∈ s, f a = some (p a)) : slices_ContainsFunc_SapiClauseapiClause s f = some (s.any p) := any_shape s f p hf
theorem bit_eq (w : BitVec 32) (j : Nat) (hj : j < 32) : syllogistref_Bit w j = some (w.getLsbD j) := congrArg some (bit_shape w j hj)
theorem fits_eq {n : Nat} (hn : n < 32) (s : BitVec 32) : syllogistref_Fits n s = some (decide (s < 1#32 <<< n)) := congrArg some (fits_shape hn s)
theorem and0 {a b : BitVec 32} : ((a &&& b) == 0#32) = true ↔ ∀ i, a.getLsbD i = true → b.getLsbD i = false := by
  rw [beq_iff_eq]
  constructor
  · intro h i ha
    have := congrArg (fun z : BitVec 32 => z.getLsbD i) h
    simpa [ha] using this
  · intro h
    refine bits_ext fun i => ?_
    rw [BitVec.getLsbD_and, Bool.and_eq_true]
    simp only [BitVec.getLsbD_zero, Bool.false_eq_true, iff_false]
    rintro ⟨ha, hb⟩
    rw [h i ha] at hb; cases hb
theorem and1 {a b : BitVec 32} : ((a &&& b) != 0#32) = true ↔ ∃ i, a.getLsbD i = true ∧ b.getLsbD i = true := by
  rw [show ((a &&& b) != 0#32) = !((a &&& b) == 0#32) from rfl, Bool.not_eq_true', ← Bool.not_eq_true, and0]
  simp only [Classical.not_forall, Bool.not_eq_false, exists_prop]
theorem cnt_zero {n : Nat} {p : Nat → Bool} : cntN n p = 0 ↔ ∀ j, j < n → p j = false := by
  induction n with
  | zero => simp [cntN]
  | succ n ih =>
    rw [cntN]
    cases hp : p n with
    | true =>
      rw [cond_true]
      constructor
      · intro h; omega
      · intro h; have := h n (by omega); rw [hp] at this; cases this
    | false =>
      rw [cond_false, ih]
      exact ⟨fun h j hj => if e : j = n then e ▸ hp else h j (by omega), fun h j hj => h j (by omega)⟩
theorem cnt_one {n : Nat} {p : Nat → Bool} (h : cntN n p = 1) : ∃ i, i < n ∧ p i = true ∧ ∀ j, j < n → p j = true → j = i := by
  induction n with
  | zero => simp [cntN] at h
  | succ n ih =>
    rw [cntN] at h
    cases hp : p n with
    | true =>
      rw [hp, cond_true] at h
      have h0 : cntN n p = 0 := by omega
      rw [cnt_zero] at h0
      refine ⟨n, by omega, hp, fun j hj hpj => ?_⟩
      by_cases e : j = n
      · exact e
      · rw [h0 j (by omega)] at hpj; cases hpj
    | false =>
      rw [hp, cond_false] at h
      obtain ⟨i, hi, h1, h2⟩ := ih h
      refine ⟨i, by omega, h1, fun j hj hpj => ?_⟩
      by_cases e : j = n
      · subst e; rw [hp] at hpj; cases hpj
      · exact h2 j (by omega) hpj

abbrev cl (l : List Clause) (i : Nat) : Clause := l[i]?.getD { yes := 0#32, no := 0#32 }
theorem geti_cl {l : List Clause} {i : Nat} (h : i < l.length) : geti l (i : Int) = some (cl l i) := geti_d _ h
structure SOk (n : Int) (l : List Clause) (k : Nat) : Prop where
  n : n = k
  k1 : 1 ≤ k
  k6 : k ≤ 6
  len : l.length ≤ 16
  yes : ∀ i, i < l.length → bel k (cl l i).yes
  no : ∀ i, i < l.length → bel k (cl l i).no

theorem scheck (n : Int) (l : List Clause) : ∃ r, clause_wrong n l = some r ∧ syllogistref_SatCheck n l = some r ∧ (r = 0 → ∃ k, SOk n l k) := by
  unfold clause_wrong syllogistref_SatCheck
  cases hb : (((decide (n < (1 : Int))) || (decide (n > (6 : Int)))) || (decide ((l.length : Int) > (16 : Int)))) with
  | true => exact ⟨1, rfl, rfl, by simp⟩
  | false =>
    simp only [Bool.or_eq_false_iff, decide_eq_false_iff_not] at hb
    obtain ⟨⟨h1, h2⟩, h3⟩ := hb
    obtain ⟨k, rfl⟩ : ∃ k : Nat, n = k := ⟨n.toNat, by omega⟩
    have hshr : ∀ c : Clause, (((c.yes ||| c.no) >>> k) != 0#32) = (!decide (c.yes < 1#32 <<< k) || !decide (c.no < 1#32 <<< k)) := fun c => by
      rw [shr_ne (by omega), Bool.eq_iff_iff]
      simp only [Bool.not_eq_true', Bool.or_eq_true, decide_eq_false_iff_not, bel_lt (show k < 32 by omega), bel_or]
      exact Classical.not_and_iff_not_or_not
    simp only [cond_false]
    rw [contC l (fun a => clause_wrong_c1 a k) (fun c => !decide (c.yes < 1#32 <<< k) || !decide (c.no < 1#32 <<< k)) (fun a _ => by
      unfold clause_wrong_c1
      rw [decide_eq_true (by omega), cond_true, Int.toNat_natCast, hshr]), Option.bind_some, any_len]
    rw [for_out (n := l.length) (fun j => (l[j]?.map fun c => !decide (c.yes < 1#32 <<< k) || !decide (c.no < 1#32 <<< k)).getD false) (some 4) rfl (fun j nx hj => by
      unfold syllogistref_SatCheck_b7
      rw [geti_at hj, Option.bind_some, fits_eq (by omega), Option.bind_some, fits_eq (by omega), List.getElem?_eq_getElem hj]
      simp only [Option.isSome_some, Bool.or_true, cond_true, Option.getD_some, Option.map_some])]
    unfold syllogistref_SatCheck_k3
    cases ha : anyN l.length (fun j => (l[j]?.map fun c => !decide (c.yes < 1#32 <<< k) || !decide (c.no < 1#32 <<< k)).getD false) with
    | true => exact ⟨4, rfl, rfl, by simp⟩
    | false =>
      have hall : ∀ i, i < l.length → bel k (cl l i).yes ∧ bel k (cl l i).no := fun i hi => by
        have := anyN_false.1 ha i hi
        rw [List.getElem?_eq_getElem hi] at this
        simp only [Option.map_some, Option.getD_some, Bool.or_eq_false_iff, Bool.not_eq_false', decide_eq_true_eq] at this
        rw [show cl l i = l[i] from getd_at _ hi]
        exact ⟨(bel_lt (by omega)).1 this.1, (bel_lt (by omega)).1 this.2⟩
      exact ⟨0, rfl, rfl, fun _ => ⟨k, rfl, by omega, by omega, by omega, fun i hi => (hall i hi).1, fun i hi => (hall i hi).2⟩⟩

/-- Is a clause true of a word? -/
def CS (c : Clause) (t : BitVec 32) : Prop := (∃ b, c.yes.getLsbD b = true ∧ t.getLsbD b = true) ∨ ∃ b, c.no.getLsbD b = true ∧ t.getLsbD b = false
noncomputable def tr (l : List Clause) (t : BitVec 32) : Bool := tru (∀ i, i < l.length → CS (cl l i) t)
theorem cs_iff (c : Clause) (t : BitVec 32) : (((c.yes &&& t) == 0#32) && ((c.no ||| t) == t)) = tru (¬CS c t) := by
  refine tru_of ?_
  rw [Bool.and_eq_true, and0, or_iff]
  unfold CS sb
  constructor
  · rintro ⟨h1, h2⟩ (⟨b, hb, ht⟩ | ⟨b, hb, ht⟩)
    · rw [h1 b hb] at ht; cases ht
    · rw [h2 b hb] at ht; cases ht
  · intro h
    refine ⟨fun b hb => ?_, fun b hb => ?_⟩
    · cases ht : t.getLsbD b with
      | false => rfl
      | true => exact absurd (.inl ⟨b, hb, ht⟩) h
    · cases ht : t.getLsbD b with
      | true => rfl
      | false => exact absurd (.inr ⟨b, hb, ht⟩) h
theorem true_eq (l : List Clause) (t : BitVec 32) : syllogistref_True l t = some (tr l t) := by
  unfold syllogistref_True
  rw [for_out (n := l.length) (fun i => tru (¬CS (cl l i) t)) (some false) rfl (fun i nx hi => by
    unfold syllogistref_True_b7
    rw [geti_cl hi, Option.bind_some]
    unfold syllogistref_In
    simp only [Option.isSome_some, Bool.or_true, cond_true, Option.getD_some]
    rw [cs_iff])]
  unfold syllogistref_True_k3 tr
  cases ha : anyN l.length (fun i => tru (¬CS (cl l i) t)) with
  | true =>
    obtain ⟨i, hi, h⟩ := anyN_iff.1 ha
    rw [cond_true, tru_false.2 fun hall => tru_iff.1 h (hall i hi)]
  | false =>
    rw [cond_false, tru_iff.2 fun i hi => Classical.not_not.1 (tru_false.1 (anyN_false.1 ha i hi))]
theorem pow64 {k : Nat} (h : k ≤ 6) : 2 ^ k ≤ 64 := Nat.pow_le_pow_right (n := 2) (by omega) h
theorem bel64 {k : Nat} (h : k ≤ 6) {s : BitVec 32} (hs : bel k s) : s.toNat < 64 := by
  have := bel_toNat.1 hs
  have := pow64 h
  omega

/-! ### At most one Yes -/
def FirstQ (k : Nat) (l : List Clause) (r : BitVec 32 × Bool) : Prop :=
  (r.2 = true ∧ (bel k r.1 ∧ tr l r.1 = true) ∧ ∀ t, bel k t → tr l t = true → r.1.toNat ≤ t.toNat) ∨ (r = (0#32, false) ∧ ∀ t, bel k t → tr l t = false)
theorem first_eq {n : Int} {l : List Clause} {k : Nat} (h : SOk n l k) : ∃ r, syllogistref_First k l = some r ∧ FirstQ k l r := by
  have k6 := h.k6
  have hB : (1#32 <<< k).toNat = 2 ^ k := one_shl_toNat (by omega)
  unfold syllogistref_First
  rw [ofInt64 (by omega)]
  refine forU_q (Q := fun o => ∃ r, o = some r ∧ FirstQ k l r) (fun j _ => ∀ t : BitVec 32, t.toNat < j → tr l t = false) () (fun t ht => by omega) (fun c z nx hc hI hnx => ?_) (fun z hI => ?_)
  · unfold syllogistref_First_b6
    rw [true_eq, Option.bind_some]
    rw [hB] at hc
    cases htr : tr l c with
    | true =>
      rw [cond_true]
      refine ⟨_, rfl, .inl ⟨rfl, ⟨bel_toNat.2 hc, htr⟩, fun t ht htt => ?_⟩⟩
      apply Classical.byContradiction
      intro hn
      rw [hI t (by simp only at hn; omega)] at htt; cases htt
    | false =>
      rw [cond_false]
      refine hnx () fun t ht => ?_
      by_cases e : t.toNat = c.toNat
      · rw [BitVec.eq_of_toNat_eq e]; exact htr
      · exact hI t (by omega)
  · exact ⟨_, rfl, .inr ⟨rfl, fun t ht => hI t (by rw [hB]; exact bel_toNat.1 ht)⟩⟩

end Go.Proofs.Ytmggbhpieikdpaa.Sy
