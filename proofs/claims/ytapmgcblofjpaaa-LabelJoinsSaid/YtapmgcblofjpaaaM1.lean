/- What the labels' functions compute: the plain laws; no program in sight. -/
import Derived.Test.YtapmgcblofjpaaaG1
namespace Go.Proofs.Ytapmgcblofjpaaa.Sy
set_option linter.unusedVariables false

open Classical in
noncomputable def lcode (a : Label) : Int := if 0 ≤ a.level ∧ a.level ≤ 3 ∧ a.parts < 32#32 then 0 else 4

theorem fits5 (s : BitVec 32) : syllogistref_Fits 5 s = some (decide (s < 32#32)) := by
  unfold syllogistref_Fits
  have h : (1#32 <<< ((BitVec.ofInt 64 5)).toNat) = 32#32 := by decide
  rw [h]
  simp

theorem check_eq (a : Label) : label_Check a = some (lcode a) := by
  unfold label_Check lcode
  by_cases h : 0 ≤ a.level ∧ a.level ≤ 3 ∧ a.parts < 32#32
  · rw [if_pos h]
    have : (((decide (a.level < (0 : Int))) || (decide (a.level > (3 : Int)))) || (decide (a.parts ≥ 32#32))) = false := by
      obtain ⟨h1, h2, h3⟩ := h
      simp only [Bool.or_eq_false_iff, decide_eq_false_iff_not]
      refine ⟨⟨by omega, by omega⟩, ?_⟩
      simp only [ge_iff_le, BitVec.not_le]; exact h3
    rw [this]; rfl
  · rw [if_neg h]
    have : (((decide (a.level < (0 : Int))) || (decide (a.level > (3 : Int)))) || (decide (a.parts ≥ 32#32))) = true := by
      simp only [Bool.or_eq_true, decide_eq_true_eq]
      by_cases h3 : a.parts < 32#32
      · left
        by_cases h1 : a.level < 0
        · exact .inl h1
        · refine .inr ?_
          by_cases h2 : a.level > 3
          · exact h2
          · exact absurd ⟨by omega, by omega, h3⟩ h
      · exact .inr (by simpa using h3)
    rw [this]; rfl

theorem lcheck_eq (a : Label) : syllogistref_LabelCheck a = some (lcode a) := by
  rw [← check_eq]
  unfold label_Check syllogistref_LabelCheck
  rw [fits5]
  have : (decide (a.parts ≥ 32#32)) = !(decide (a.parts < 32#32)) := by
    rw [← decide_not]; congr 1; simp
  rw [this]
  simp

theorem labelChecks_true (a : Label) : syllogistlaw_LabelChecks a = some true := by
  unfold syllogistlaw_LabelChecks
  rw [check_eq, Option.bind_some, lcheck_eq, Option.bind_some, check_eq]
  have : lcode { level := 4, parts := 0#32 } = 4 := by unfold lcode; simp
  simp [this]

theorem lcode_of (a : Label) (h : lcode a = 0) : 0 ≤ a.level ∧ a.level ≤ 3 ∧ a.parts < 32#32 := by
  unfold lcode at h
  split at h
  · assumption
  · cases h

theorem labelTells_true (k : Int) : syllogistlaw_LabelTells k = some true := by
  unfold syllogistlaw_LabelTells label_Label
  by_cases h : k < 0 ∨ k ≥ 128
  · have hb : ((decide (k < (0 : Int))) || (decide (k ≥ (128 : Int)))) = true := by simpa using h
    simp [hb]
  · have hb : ((decide (k < (0 : Int))) || (decide (k ≥ (128 : Int)))) = false := by simp; omega
    simp only [hb, cond_false, Option.bind_some]
    have h1 : k.tdiv 32 = k / 32 := Int.tdiv_eq_ediv_of_nonneg (by omega)
    have h2 : k.tmod 32 = k % 32 := Int.tmod_eq_emod_of_nonneg (by omega)
    have h3 : w64 (k / 32) = k / 32 := w64_id (by omega) (by omega)
    have h4 : (BitVec.ofInt 32 (k % 32)).toNat = (k % 32).toNat := by simp; omega
    have hc : lcode { level := k / 32, parts := BitVec.ofInt 32 (k % 32) } = 0 := by
      unfold lcode
      rw [if_pos]
      refine ⟨by simp only; omega, by simp only; omega, ?_⟩
      rw [BitVec.lt_def, h4]; simp; omega
    rw [h1, h2, h3, lcheck_eq, hc]
    have h5 : w64 (32 * (k / 32)) = 32 * (k / 32) := w64_id (by omega) (by omega)
    rw [h5, h4]
    have h6 : 32 * (k / 32) + ((k % 32).toNat : Int) = k := by omega
    rw [h6, w64_id (by omega) (by omega)]
    simp

theorem labelNumbers_true (a : Label) : syllogistlaw_LabelNumbers a = some true := by
  unfold syllogistlaw_LabelNumbers label_Number
  rw [check_eq, Option.bind_some, lcheck_eq]
  by_cases h : lcode a = 0
  · simp [h, Int.mul_comm]
  · have : (lcode a != 0) = true := by simpa using h
    simp [this]

theorem codes_eq (a b : Label) : syllogistlaw_labelsCode a b = some (if lcode a = 0 then lcode b else lcode a) := by
  unfold syllogistlaw_labelsCode
  rw [lcheck_eq, Option.bind_some, lcheck_eq, Option.bind_some]
  by_cases h : lcode a = 0
  · simp [h]
  · have : (lcode a == 0) = false := by simpa using h
    simp [h, this]

theorem both_eq (a b : Label) : label_both a b = some (if lcode a = 0 then lcode b else lcode a) := by
  unfold label_both
  rw [check_eq, Option.bind_some, check_eq, Option.bind_some]
  by_cases h : lcode a = 0
  · simp [h]
  · have : (lcode a != 0) = true := by simpa using h
    simp [h, this]

theorem labelMeets_true (a b : Label) : syllogistlaw_LabelMeets a b = some true := by
  unfold syllogistlaw_LabelMeets label_Meet
  rw [both_eq, Option.bind_some, codes_eq]
  generalize (if lcode a = 0 then lcode b else lcode a) = c
  by_cases h : c = 0
  · subst h
    unfold syllogistref_Common
    by_cases hl : a.level > b.level
    · have : b.level < a.level := hl
      simp [hl, syllogistref_Common_k8]
    · have : ¬ b.level < a.level := hl
      simp [this, syllogistref_Common_k8]
  · have : (c != 0) = true := by simpa using h
    simp [this]

theorem labelJoins_true (a b : Label) : syllogistlaw_LabelJoins a b = some true := by
  unfold syllogistlaw_LabelJoins label_Join
  rw [both_eq, Option.bind_some, codes_eq]
  generalize (if lcode a = 0 then lcode b else lcode a) = c
  by_cases h : c = 0
  · subst h
    unfold syllogistref_Both label_All
    by_cases hl : a.level < b.level
    · have : b.level > a.level := hl
      simp [hl, syllogistref_Both_k8]
    · have : ¬ b.level > a.level := hl
      simp [hl, syllogistref_Both_k8]
  · have : (c != 0) = true := by simpa using h
    simp [this]

theorem in_eq (a b : BitVec 32) : ((a &&& ~~~b) == 0#32) = ((a ||| b) == b) := by
  rw [Bool.eq_iff_iff, beq_iff_eq, beq_iff_eq]
  constructor
  · intro h
    ext i hi
    have := congrArg (fun z : BitVec 32 => z[i]) h
    simp at this
    simp
    exact fun ha => by simpa [ha] using this
  · intro h
    ext i hi
    have := congrArg (fun z : BitVec 32 => z[i]) h
    simp at this
    simp
    exact this

theorem labelUnders_true (a b : Label) : syllogistlaw_LabelUnders a b = some true := by
  unfold syllogistlaw_LabelUnders label_Under
  rw [both_eq, Option.bind_some, codes_eq]
  generalize (if lcode a = 0 then lcode b else lcode a) = c
  by_cases h : c = 0
  · subst h
    unfold syllogistref_Below syllogistref_In label_Least
    simp [in_eq]
  · have : (c != 0) = true := by simpa using h
    simp [this]
end Go.Proofs.Ytapmgcblofjpaaa.Sy
