/- Fixed points of maps on sets: the plain laws; no program in sight. -/
import Derived.Test.YtohfiinnkoinlaaM2
namespace Go.Proofs.Ytohfiinnkoinlaa.Sy
set_option linter.unusedVariables false

theorem ishl_eq {n : Nat} (h : n ≤ 6) : ishl 1 n = ((2 ^ n : Nat) : Int) := by
  have : ∀ n, n ≤ 6 → ishl 1 n = ((2 ^ n : Nat) : Int) := by decide
  exact this n h
theorem ior_nat {a b : Nat} (ha : a < 2 ^ 32) (hb : b < 2 ^ 32) : ior (a : Int) (b : Int) = ((a ||| b : Nat) : Int) := by
  have h := Nat.or_lt_two_pow ha hb
  unfold ior
  rw [BitVec.toNat_or, ofInt64 (by omega), ofInt64 (by omega)]
  exact w64_id (by omega) (by omega)

theorem contains_eq (s : List (BitVec 32)) (f : BitVec 32 → Option Bool) (g : BitVec 32 → Bool) (h : ∀ a, f a = some (g a)) : slices_ContainsFunc_Suint32uint32 s f = some (s.any g) := by
  unfold slices_ContainsFunc_Suint32uint32 slices_IndexFunc_Suint32uint32
  have : ∃ r, forK (σ := Unit) (fun i s_ nx_ => slices_IndexFunc_Suint32uint32_b7 s f i nx_) (fun _ => slices_IndexFunc_Suint32uint32_k3) ((s.length : Int) - (0 : Int)).toNat (0 : Int) () = some r ∧ (decide (r ≥ 0) = s.any g) := by
    refine for0_q (Q := fun o => ∃ r, o = some r ∧ (decide (r ≥ 0) = s.any g)) (fun t _ => ∀ i (h : i < s.length), i < t → g s[i] = false) rfl () (fun i h hi => by omega) (fun t u nx ht hI hnx => ?_) (fun u hI => ?_)
    · unfold slices_IndexFunc_Suint32uint32_b7
      rw [geti_at ht, Option.bind_some, h, Option.bind_some]
      cases hg : g s[t] with
      | true =>
        refine ⟨t, rfl, ?_⟩
        rw [decide_eq_true (by omega)]
        symm
        rw [List.any_eq_true]
        exact ⟨s[t], List.getElem_mem ht, hg⟩
      | false =>
        rw [cond_false]
        refine hnx () fun i hi hit => ?_
        by_cases e : i = t
        · subst e; exact hg
        · exact hI i hi (by omega)
    · refine ⟨-1, rfl, ?_⟩
      rw [decide_eq_false (by omega)]
      symm
      rw [List.any_eq_false]
      intro x hx
      obtain ⟨i, hi, rfl⟩ := List.getElem_of_mem hx
      rw [hI i hi hi]; simp
  obtain ⟨r, e1, e2⟩ := this
  rw [e1, Option.bind_some, e2]

def fin (n : Nat) (f : List (BitVec 32)) : Prop := ∀ i (h : i < f.length), bel n f[i]
open Classical in
noncomputable def fcode (n : Int) (f : List (BitVec 32)) : Int := if n < 1 ∨ n > 5 then 1 else if f.length = 2 ^ n.toNat then (if fin n.toNat f then 0 else 4) else 3

theorem wrong_eq (n : Int) (f : List (BitVec 32)) : fix_wrong n f = some (fcode n f) := by
  unfold fix_wrong fcode
  by_cases h : n < 1 ∨ n > 5
  · have : ((decide (n < (1 : Int))) || (decide (n > (5 : Int)))) = true := by simpa using h
    rw [this, if_pos h]; rfl
  · have : ((decide (n < (1 : Int))) || (decide (n > (5 : Int)))) = false := by simp; omega
    obtain ⟨k, rfl⟩ : ∃ k : Nat, n = k := ⟨n.toNat, by omega⟩
    rw [this, if_neg h, cond_false, decide_eq_true (by omega), cond_true]
    simp only [Int.toNat_natCast]
    rw [ishl_eq (by omega)]
    by_cases hl : f.length = 2 ^ k
    · rw [if_pos hl, hl]
      simp only [bne_self_eq_false, cond_false]
      rw [contains_eq f _ (fun a => (a >>> k) != 0#32) (fun a => by unfold fix_wrong_c1; rw [decide_eq_true (by omega)]; simp), Option.bind_some]
      by_cases hb : fin k f
      · rw [if_pos hb]
        have : f.any (fun a => (a >>> k) != 0#32) = false := by
          rw [List.any_eq_false]
          intro x hx
          obtain ⟨i, hi, rfl⟩ := List.getElem_of_mem hx
          rw [bel_shr.2 (hb i hi)]; simp
        rw [this]; rfl
      · rw [if_neg hb]
        have : f.any (fun a => (a >>> k) != 0#32) = true := by
          rw [List.any_eq_true]
          apply Classical.byContradiction
          intro hn
          refine hb fun i hi => ?_
          apply Classical.byContradiction
          intro hnb
          exact hn ⟨f[i], List.getElem_mem hi, by rw [bne_iff_ne]; exact fun e => hnb (bel_shr.1 e)⟩
        rw [this]; rfl
    · rw [if_neg hl]
      have : ((f.length : Int) != ((2 ^ k : Nat) : Int)) = true := by
        rw [bne_iff_ne]; intro e; exact hl (by omega)
      rw [this]; rfl

theorem mapCheck_eq (n : Int) (f : List (BitVec 32)) : syllogistref_MapCheck n f = some (fcode n f) := by
  unfold syllogistref_MapCheck fcode
  by_cases h : n < 1 ∨ n > 5
  · have : ((decide (n < (1 : Int))) || (decide (n > (5 : Int)))) = true := by simpa using h
    rw [this, if_pos h]; rfl
  · have : ((decide (n < (1 : Int))) || (decide (n > (5 : Int)))) = false := by simp; omega
    obtain ⟨k, rfl⟩ : ∃ k : Nat, n = k := ⟨n.toNat, by omega⟩
    rw [this, if_neg h, cond_false, ofInt64 (by omega)]
    simp only [Int.toNat_natCast]
    rw [ishl_eq (by omega)]
    by_cases hl : f.length = 2 ^ k
    · rw [if_pos hl]
      have : ((f.length : Int) != ((2 ^ k : Nat) : Int)) = false := by rw [hl]; simp
      rw [this, cond_false]
      refine for0_eq (fun t _ => ∀ i (h : i < f.length), i < t → bel k f[i]) rfl () (fun i h hi => by omega) (fun t s nx ht hI hnx => ?_) (fun s hI => ?_)
      · unfold syllogistref_MapCheck_b7
        rw [geti_at ht, Option.bind_some]
        obtain ⟨r, e, g⟩ := fits_eq (n := k) (by omega) f[t]
        rw [e, Option.bind_some]
        cases hr : r with
        | true =>
          refine hnx () fun i hi hit => ?_
          by_cases e : i = t
          · subst e; exact g.1 hr
          · exact hI i hi (by omega)
        | false =>
          rw [if_neg]
          · rfl
          · intro hf; rw [g.2 (hf t ht)] at hr; cases hr
      · have hfin : fin k f := fun i hi => hI i hi hi
        rw [if_pos hfin]; rfl
    · rw [if_neg hl]
      have : ((f.length : Int) != ((2 ^ k : Nat) : Int)) = true := by
        rw [bne_iff_ne]; intro e; exact hl (by omega)
      rw [this]; rfl

theorem fcode_ok {n : Int} {f : List (BitVec 32)} (h : fcode n f = 0) : ∃ k : Nat, n = k ∧ 1 ≤ k ∧ k ≤ 5 ∧ f.length = 2 ^ k ∧ fin k f := by
  unfold fcode at h
  split at h
  · cases h
  · split at h
    · split at h
      · exact ⟨n.toNat, by omega, by omega, by omega, by assumption, by assumption⟩
      · cases h
    · cases h

/-! ### Rising -/
def Mono (f : List (BitVec 32)) : Prop := ∀ a b (ha : a < f.length) (hb : b < f.length), a ||| b = b → sb f[a] f[b]

theorem refRises_eq (f : List (BitVec 32)) (hf : f.length ≤ 32) : ∃ r, syllogistref_Rises f = some r ∧ (r = true ↔ Mono f) := by
  unfold syllogistref_Rises
  refine for0_q (Q := fun o => ∃ r, o = some r ∧ (r = true ↔ Mono f)) (fun t _ => ∀ a b (ha : a < f.length) (hb : b < f.length), a < t → a ||| b = b → sb f[a] f[b]) rfl () (fun a b _ _ h => by omega) (fun t u nx ht hI hnx => ?_) (fun u hI => ⟨true, rfl, ⟨fun _ a b ha hb => hI a b ha hb ha, fun _ => rfl⟩⟩)
  unfold syllogistref_Rises_b7
  refine for0_q (Q := fun o => ∃ r, o = some r ∧ (r = true ↔ Mono f)) (fun s _ => ∀ b (hb : b < f.length), b < s → t ||| b = b → sb f[t] f[b]) rfl () (fun b _ h => by omega) (fun s u' nx' hs hJ hnx' => ?_) (fun u' hJ => ?_)
  · unfold syllogistref_Rises_b16
    rw [ior_nat (by omega) (by omega), geti_at ht, geti_at hs]
    simp only [Option.isSome_some, Bool.or_true, cond_true, Option.getD_some, in_eq]
    by_cases hb : (t ||| s = s) ∧ ¬ sb f[t] f[s]
    · have h1 : (((t ||| s : Nat) : Int) == (s : Int)) = true := by rw [hb.1]; simp
      have h2 : ((f[t] ||| f[s]) == f[s]) = false := by
        rw [← Bool.not_eq_true]; exact fun h => hb.2 (or_iff.1 h)
      rw [h1, h2]
      refine ⟨false, rfl, ?_⟩
      simp only [Bool.false_eq_true, false_iff]
      exact fun h => hb.2 (h t s ht hs hb.1)
    · have : ((((t ||| s : Nat) : Int) == (s : Int)) && !((f[t] ||| f[s]) == f[s])) = false := by
        rw [Bool.and_eq_false_iff]
        by_cases h1 : t ||| s = s
        · right
          have : sb f[t] f[s] := Classical.byContradiction fun h => hb ⟨h1, h⟩
          rw [or_iff.2 this]; rfl
        · left
          rw [beq_eq_false_iff_ne]; intro e; exact h1 (by omega)
      rw [this, cond_false]
      refine hnx' () fun b hbl hbs he => ?_
      by_cases e : b = s
      · subst e; exact Classical.byContradiction fun h => hb ⟨he, h⟩
      · exact hJ b hbl (by omega) he
  · unfold syllogistref_Rises_k12
    refine hnx () fun a b ha hb hat he => ?_
    by_cases e : a = t
    · subst e; exact hJ b hb hb he
    · exact hI a b ha hb (by omega) he

theorem mono_of_steps {k : Nat} {f : List (BitVec 32)} (hl : f.length = 2 ^ k) (h : ∀ t i (ht : t < f.length), i < k → ∀ (hi : t ||| 2 ^ i < f.length), sb f[t] f[t ||| 2 ^ i]) : Mono f := by
  have key : ∀ q a b (ha : a < f.length) (hb : b < f.length), a ||| b = b → (∀ j, q ≤ j → a.testBit j = b.testBit j) → sb f[a] f[b] := by
    intro q
    induction q with
    | zero =>
      intro a b ha hb _ hj
      have : a = b := Nat.eq_of_testBit_eq fun j => hj j (by omega)
      subst this; exact sb_refl _
    | succ q ih =>
      intro a b ha hb hab hj
      by_cases hq : a.testBit q = b.testBit q
      · refine ih a b ha hb hab fun j hqj => ?_
        by_cases e : j = q
        · subst e; exact hq
        · exact hj j (by omega)
      · have hsub : ∀ j, a.testBit j = true → b.testBit j = true := fun j hj' => by
          rw [← hab, Nat.testBit_or, hj']; rfl
        have hbq : b.testBit q = true := by
          cases h1 : b.testBit q with
          | true => rfl
          | false =>
            cases h2 : a.testBit q with
            | true => rw [hsub q h2] at h1; cases h1
            | false => rw [h1, h2] at hq; exact absurd rfl hq
        have hqk : q < k := by
          apply Classical.byContradiction
          intro hn
          have : b < 2 ^ q := Nat.lt_of_lt_of_le (hl ▸ hb) (Nat.pow_le_pow_right (by omega) (by omega))
          rw [Nat.testBit_lt_two_pow this] at hbq; cases hbq
        have ha' : a ||| 2 ^ q < f.length := by
          rw [hl]
          exact Nat.or_lt_two_pow (hl ▸ ha) (Nat.pow_lt_pow_right (by omega) hqk)
        have hbit : ∀ j, (a ||| 2 ^ q).testBit j = (a.testBit j || decide (q = j)) := fun j => by rw [Nat.testBit_or, Nat.testBit_two_pow]
        refine (h a q ha hqk ha').trans (ih _ b ha' hb ?_ fun j hqj => ?_)
        · refine Nat.eq_of_testBit_eq fun j => ?_
          rw [Nat.testBit_or, hbit]
          by_cases e : q = j
          · subst e; simp [hbq]
          · simp only [e, decide_false, Bool.or_false]
            cases h1 : a.testBit j with
            | true => rw [hsub j h1]; rfl
            | false => simp
        · rw [hbit]
          by_cases e : q = j
          · subst e; simp [hbq]
          · simp only [e, decide_false, Bool.or_false]
            exact hj j (by omega)
  intro a b ha hb hab
  refine key k a b ha hb hab fun j hj => ?_
  rw [Nat.testBit_lt_two_pow (Nat.lt_of_lt_of_le (hl ▸ ha) (Nat.pow_le_pow_right (by omega) hj)), Nat.testBit_lt_two_pow (Nat.lt_of_lt_of_le (hl ▸ hb) (Nat.pow_le_pow_right (by omega) hj))]

theorem pow32 {k : Nat} (h : k ≤ 5) : 2 ^ k ≤ 32 := by
  have : ∀ k, k ≤ 5 → 2 ^ k ≤ 32 := by decide
  exact this k h

theorem rises_eq {k : Nat} (hk : k ≤ 5) (f : List (BitVec 32)) (hl : f.length = 2 ^ k) : ∃ r, fix_rises k f = some r ∧ (r = true ↔ Mono f) := by
  unfold fix_rises
  have h32 := pow32 hk
  refine for0_q (Q := fun o => ∃ r, o = some r ∧ (r = true ↔ Mono f)) (fun t _ => ∀ a i (ha : a < f.length), a < t → i < k → ∀ (hi : a ||| 2 ^ i < f.length), sb f[a] f[a ||| 2 ^ i]) rfl () (fun a i _ h => by omega) (fun t u nx ht hI hnx => ?_) (fun u hI => ?_)
  rotate_left
  · exact ⟨true, rfl, ⟨fun _ => mono_of_steps hl fun t i ht hi => hI t i ht ht hi, fun _ => rfl⟩⟩
  unfold fix_rises_b7
  rw [geti_at ht, Option.bind_some, decide_eq_true (by omega), cond_true]
  refine for0_q (Q := fun o => ∃ r, o = some r ∧ (r = true ↔ Mono f)) (fun s _ => ∀ i, i < s → i < k → ∀ (hi : t ||| 2 ^ i < f.length), sb f[t] f[t ||| 2 ^ i]) rfl () (fun i h => by omega) (fun s u' nx' hs hJ hnx' => ?_) (fun u' hJ => ?_)
  · unfold fix_rises_b18
    have hts : t ||| 2 ^ s < f.length := by
      rw [hl]
      exact Nat.or_lt_two_pow (hl ▸ ht) (Nat.pow_lt_pow_right (by omega) hs)
    have hp := pow32 (by omega : s ≤ 5)
    simp only [Int.toNat_natCast]
    rw [ishl_eq (by omega), ior_nat (by omega) (by omega), geti_at hts, Option.bind_some]
    by_cases hg : sb f[t] f[t ||| 2 ^ s]
    · have : ((f[t] &&& ~~~f[t ||| 2 ^ s]) != 0#32) = false := by
        have := andn_iff.2 hg
        simp only [bne, this, Bool.not_true]
      rw [this, cond_false]
      refine hnx' () fun i his hik hi => ?_
      by_cases e : i = s
      · subst e; exact hg
      · exact hJ i (by omega) hik hi
    · have : ((f[t] &&& ~~~f[t ||| 2 ^ s]) != 0#32) = true := by
        have : ((f[t] &&& ~~~f[t ||| 2 ^ s]) == 0#32) = false := by
          rw [← Bool.not_eq_true]; exact fun h => hg (andn_iff.1 h)
        simp only [bne, this, Bool.not_false]
      rw [this]
      refine ⟨false, rfl, ?_⟩
      simp only [Bool.false_eq_true, false_iff]
      refine fun hM => hg (hM t _ ht hts ?_)
      rw [← Nat.or_assoc, Nat.or_self]
  · unfold fix_rises_k14
    refine hnx () fun a i ha hat hik hi => ?_
    by_cases e : a = t
    · subst e; exact hJ i hik hik hi
    · exact hI a i ha (by omega) hik hi

theorem fixRises_true (n : Int) (f : List (BitVec 32)) : syllogistlaw_FixRises n f = some true := by
  unfold syllogistlaw_FixRises fix_Rises
  rw [wrong_eq, mapCheck_eq]
  by_cases hc : fcode n f = 0
  · obtain ⟨k, rfl, hk1, hk, hl, hfin⟩ := fcode_ok hc
    have h32 := pow32 hk
    obtain ⟨r1, e1, g1⟩ := rises_eq hk f hl
    obtain ⟨r2, e2, g2⟩ := refRises_eq f (by omega)
    have : r1 = r2 := by rw [Bool.eq_iff_iff, g1, g2]
    rw [hc, e1, e2, this]
    simp
  · have : (fcode n f != 0) = true := by simpa using hc
    simp [this]
end Go.Proofs.Ytohfiinnkoinlaa.Sy
