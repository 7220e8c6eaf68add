/- What a table's two ways compute: the plain laws; no program in sight. -/
import Derived.Test.YtefaglkgpaloeaaSyM
import Derived.Test.YtefaglkgpaloeaaG1
namespace Go.Proofs.Ytefaglkgpaloeaa.Sy
set_option linter.unusedVariables false

theorem fits_eq {n : Nat} (hn : n < 32) (s : BitVec 32) : ∃ r, syllogistref_Fits n s = some r ∧ (r = true ↔ bel n s) := by
  unfold syllogistref_Fits
  refine ⟨_, rfl, ?_⟩
  rw [ofInt64 (by omega), ← bel_lt hn]
  simp
  omega
theorem in_eq (a b : BitVec 32) : syllogistref_In a b = some ((a ||| b) == b) := rfl
theorem bit_eq (w : BitVec 32) (j : Nat) (hj : j < 32) : syllogistref_Bit w j = some (w.getLsbD j) := by
  unfold syllogistref_Bit
  have h : (BitVec.ofInt 64 (j : Int)).toNat = j := by simp; omega
  rw [h, bit_and w j hj, decide_eq_true (by omega), decide_eq_true (by omega)]; rfl
theorem add_bit {m : Nat} (hm : m < 32) {s : BitVec 32} (hs : bel m s) : s + (1#32 <<< m) = s ||| (1#32 <<< m) := by
  refine BitVec.add_eq_or_of_and_eq_zero _ _ (bits_ext fun i => ?_)
  rw [BitVec.getLsbD_and, Bool.and_eq_true, one_shl]
  simp only [BitVec.getLsbD_zero, Bool.false_eq_true, iff_false]
  rintro ⟨h, e, _⟩
  have := hs i h
  omega
theorem or_bit {m : Nat} {s : BitVec 32} (hm : m < 32) (j : Nat) : (s ||| (1#32 <<< m)).getLsbD j = true ↔ s.getLsbD j = true ∨ j = m := by
  rw [BitVec.getLsbD_or, Bool.or_eq_true, one_shl]
  constructor
  · rintro (h | h)
    · exact .inl h
    · exact .inr h.1
  · rintro (h | h)
    · exact .inl h
    · exact .inr ⟨h, by omega⟩

def tbad (n : Int) (rows : List (BitVec 32)) : Prop := n < 1 ∨ n > 6 ∨ rows.length > 8
def tin (n : Nat) (rows : List (BitVec 32)) : Prop := ∀ i (h : i < rows.length), bel n rows[i]
open Classical in
noncomputable def tcode (n : Int) (rows : List (BitVec 32)) (obj marks : BitVec 32) : Int :=
  if tbad n rows then 1 else if tin n.toNat rows ∧ bel n.toNat marks ∧ bel rows.length obj then 0 else 4

theorem tcheck_eq (n : Int) (rows : List (BitVec 32)) (obj marks : BitVec 32) : syllogistref_TableCheck n rows obj marks = some (tcode n rows obj marks) := by
  unfold syllogistref_TableCheck tcode
  by_cases h1 : tbad n rows
  · rw [if_pos h1]
    have : (((decide (n < (1 : Int))) || (decide (n > (6 : Int)))) || (decide ((rows.length : Int) > (8 : Int)))) = true := by
      unfold tbad at h1
      simp only [Bool.or_eq_true, decide_eq_true_eq]; omega
    rw [this]; rfl
  rw [if_neg h1]
  have hb : (((decide (n < (1 : Int))) || (decide (n > (6 : Int)))) || (decide ((rows.length : Int) > (8 : Int)))) = false := by
    unfold tbad at h1
    simp only [Bool.or_eq_false_iff, decide_eq_false_iff_not]; omega
  rw [hb, cond_false]
  have hn : 1 ≤ n ∧ n ≤ 6 ∧ rows.length ≤ 8 := by unfold tbad at h1; omega
  obtain ⟨k, rfl⟩ : ∃ k : Nat, n = k := ⟨n.toNat, by omega⟩
  simp only [Int.toNat_natCast]
  refine for0_eq (fun t _ => ∀ i (h : i < rows.length), i < t → bel k rows[i]) rfl () (fun i h hi => by omega) (fun t s nx ht hI hnx => ?_) (fun s hI => ?_)
  · unfold syllogistref_TableCheck_b10
    obtain ⟨r, e, g⟩ := fits_eq (n := k) (by omega) rows[t]
    rw [geti_at ht, Option.bind_some, e, Option.bind_some]
    cases hr : r with
    | true =>
      refine hnx () fun i h hi => ?_
      by_cases e : i = t
      · subst e; exact g.1 hr
      · exact hI i h (by omega)
    | false =>
      rw [if_neg]
      · rfl
      · rintro ⟨h, _⟩; rw [g.2 (h t ht)] at hr; cases hr
  · unfold syllogistref_TableCheck_k3
    obtain ⟨r1, e1, g1⟩ := fits_eq (n := k) (by omega) marks
    obtain ⟨r2, e2, g2⟩ := fits_eq (n := rows.length) (by omega) obj
    rw [e1, Option.bind_some, e2]
    simp only [Option.isSome_some, Bool.or_true, cond_true, Option.getD_some]
    have ht : tin k rows := fun i h => hI i h h
    by_cases hg : bel k marks ∧ bel rows.length obj
    · rw [g1.2 hg.1, g2.2 hg.2, if_pos ⟨ht, hg⟩]; rfl
    · rw [if_neg fun h => hg h.2]
      have : (!r1 || !r2) = true := by
        cases h1 : r1 with
        | false => rfl
        | true =>
          cases h2 : r2 with
          | false => rfl
          | true => exact absurd ⟨g1.1 h1, g2.1 h2⟩ hg
      rw [this]; rfl

theorem wrong_eq (n : Int) (rows : List (BitVec 32)) (obj : BitVec 32) (ms : List (BitVec 32)) (marks : BitVec 32) (hms : ms.length ≤ 5) (hm : ∀ k, bel k marks ↔ ∀ i (h : i < ms.length), bel k ms[i]) : concept_wrong n rows obj ms = some (tcode n rows obj marks) := by
  unfold concept_wrong tcode
  by_cases h1 : tbad n rows
  · rw [if_pos h1]
    have : (((decide (n < (1 : Int))) || (decide (n > (6 : Int)))) || (decide ((rows.length : Int) > (8 : Int)))) = true := by
      unfold tbad at h1
      simp only [Bool.or_eq_true, decide_eq_true_eq]; omega
    rw [this]; rfl
  rw [if_neg h1]
  have hb : (((decide (n < (1 : Int))) || (decide (n > (6 : Int)))) || (decide ((rows.length : Int) > (8 : Int)))) = false := by
    unfold tbad at h1
    simp only [Bool.or_eq_false_iff, decide_eq_false_iff_not]; omega
  rw [hb, cond_false]
  have hn : 1 ≤ n ∧ n ≤ 6 ∧ rows.length ≤ 8 := by unfold tbad at h1; omega
  obtain ⟨k, rfl⟩ : ∃ k : Nat, n = k := ⟨n.toNat, by omega⟩
  simp only [Int.toNat_natCast]
  unfold slices_Clone_Suint32uint32
  rw [decide_eq_true (by simp; omega), cond_true, Option.bind_some, List.nil_append, decide_eq_true (by omega), cond_true]
  have hall : (∀ i (h : i < (rows ++ ms).length), bel k (rows ++ ms)[i]) ↔ tin k rows ∧ bel k marks := by
    rw [hm k]
    constructor
    · intro h
      refine ⟨fun i hi => ?_, fun i hi => ?_⟩
      · have := h i (by simp; omega)
        rwa [List.getElem_append_left hi] at this
      · have := h (rows.length + i) (by simp; omega)
        rw [List.getElem_append_right (by omega)] at this
        simpa using this
    · rintro ⟨h1, h2⟩ i hi
      by_cases e : i < rows.length
      · rw [List.getElem_append_left e]; exact h1 i e
      · rw [List.getElem_append_right (by omega)]
        exact h2 _ _
  refine for0_eq (fun t _ => ∀ i (h : i < (rows ++ ms).length), i < t → bel k (rows ++ ms)[i]) rfl () (fun i h hi => by omega) (fun t s nx ht hI hnx => ?_) (fun s hI => ?_)
  · unfold concept_wrong_b14
    rw [geti_at ht, Option.bind_some, decide_eq_true (by omega), cond_true]
    simp only [Int.toNat_natCast]
    by_cases hg : bel k (rows ++ ms)[t]
    · rw [bel_shr.2 hg]
      simp only [bne_self_eq_false, cond_false]
      refine hnx () fun i h hi => ?_
      by_cases e : i = t
      · subst e; exact hg
      · exact hI i h (by omega)
    · have : (((rows ++ ms)[t] >>> k) != 0#32) = true := by
        rw [bne_iff_ne]; exact fun e => hg (bel_shr.1 e)
      rw [this, if_neg]
      · rfl
      · rintro ⟨h1, h2, _⟩
        exact hg (hall.2 ⟨h1, h2⟩ t ht)
  · unfold concept_wrong_k9
    have ht := hall.1 fun i h => hI i h h
    rw [decide_eq_true (by omega), cond_true]
    simp only [Int.toNat_natCast]
    by_cases hg : bel rows.length obj
    · rw [bel_shr.2 hg, if_pos ⟨ht.1, ht.2, hg⟩]; rfl
    · have : ((obj >>> rows.length) != 0#32) = true := by
        rw [bne_iff_ne]; exact fun e => hg (bel_shr.1 e)
      rw [this, if_neg fun h => hg h.2.2]; rfl

theorem tcode_ok {n : Int} {rows : List (BitVec 32)} {obj marks : BitVec 32} (h : tcode n rows obj marks = 0) : ∃ k : Nat, n = k ∧ 1 ≤ k ∧ k ≤ 6 ∧ rows.length ≤ 8 ∧ tin k rows ∧ bel k marks ∧ bel rows.length obj := by
  unfold tcode at h
  split at h
  · cases h
  · rename_i h1
    split at h
    · rename_i h2
      unfold tbad at h1
      exact ⟨n.toNat, by omega, by omega, by omega, by omega, h2⟩
    · cases h

/-- What all the objects have. -/
def UpP (k : Nat) (rows : List (BitVec 32)) (obj r : BitVec 32) : Prop := ∀ j, r.getLsbD j = true ↔ j < k ∧ ∀ i (h : i < rows.length), obj.getLsbD i = true → rows[i].getLsbD j = true
/-- What has all the marks. -/
def DnP (rows : List (BitVec 32)) (marks r : BitVec 32) : Prop := ∀ i, r.getLsbD i = true ↔ ∃ h : i < rows.length, sb marks rows[i]
theorem UpP.uniq {k : Nat} {rows : List (BitVec 32)} {obj r r' : BitVec 32} (h : UpP k rows obj r) (h' : UpP k rows obj r') : r = r' := bits_ext fun j => by rw [h j, h' j]
theorem DnP.uniq {rows : List (BitVec 32)} {marks r r' : BitVec 32} (h : DnP rows marks r) (h' : DnP rows marks r') : r = r' := bits_ext fun j => by rw [h j, h' j]

theorem up_eq {k : Nat} (hk : k ≤ 6) (rows : List (BitVec 32)) (hr : rows.length ≤ 8) (obj : BitVec 32) : ∃ r, concept_up k rows obj = some r ∧ UpP k rows obj r := by
  unfold concept_up
  rw [decide_eq_true (by omega), cond_true]
  simp only [Int.toNat_natCast]
  refine for0_q (Q := fun o => ∃ r, o = some r ∧ UpP k rows obj r) (fun t (out : BitVec 32) => ∀ j, out.getLsbD j = true ↔ j < k ∧ ∀ i (h : i < rows.length), i < t → obj.getLsbD i = true → rows[i].getLsbD j = true) rfl (full k) (fun j => ?_) (fun t out nx ht hI hnx => ?_) (fun out hI => ?_)
  rotate_right
  · exact ⟨out, rfl, fun j => (hI j).trans (and_congr_right fun _ => ⟨fun h i hi => h i hi hi, fun h i hi _ => h i hi⟩)⟩
  · rw [full_bit (by omega)]
    exact ⟨fun h => ⟨h, fun i hi h0 => by omega⟩, fun h => h.1⟩
  · unfold concept_up_b11
    rw [geti_at ht, Option.bind_some]
    simp only [Int.toNat_natCast, bit_shr]
    cases hb : obj.getLsbD t with
    | true =>
      rw [cond_true]
      refine hnx _ fun j => ?_
      rw [BitVec.getLsbD_and, Bool.and_eq_true, hI j]
      constructor
      · rintro ⟨⟨h1, h2⟩, h3⟩
        refine ⟨h1, fun i hi hit hob => ?_⟩
        by_cases e : i = t
        · subst e; exact h3
        · exact h2 i hi (by omega) hob
      · exact fun h => ⟨⟨h.1, fun i hi hit => h.2 i hi (by omega)⟩, h.2 t ht (by omega) hb⟩
    | false =>
      rw [cond_false]
      refine hnx _ fun j => ?_
      rw [hI j]
      refine and_congr_right fun _ => ⟨fun h i hi hit hob => ?_, fun h i hi hit => h i hi (by omega)⟩
      by_cases e : i = t
      · subst e; rw [hb] at hob; cases hob
      · exact h i hi (by omega) hob

theorem refUp_eq {k : Nat} (hk : k ≤ 6) (rows : List (BitVec 32)) (hr : rows.length ≤ 8) (obj : BitVec 32) : ∃ r, syllogistref_Up k rows obj = some r ∧ UpP k rows obj r := by
  unfold syllogistref_Up
  rw [decide_eq_true (by omega), cond_true]
  refine for0_q (Q := fun o => ∃ r, o = some r ∧ UpP k rows obj r) (fun m (out : BitVec 32) => ∀ j, out.getLsbD j = true ↔ j < m ∧ ∀ i (h : i < rows.length), obj.getLsbD i = true → rows[i].getLsbD j = true) rfl (0#32) (fun j => by simp) (fun m out nx hm hI hnx => ?_) (fun out hI => ⟨out, rfl, hI⟩)
  unfold syllogistref_Up_b10
  refine for0_q (Q := fun o => ∃ r, o = some r ∧ UpP k rows obj r) (fun t (ok : Bool) => ok = true ↔ ∀ i (h : i < rows.length), i < t → obj.getLsbD i = true → rows[i].getLsbD m = true) rfl true ⟨fun _ i h hi => by omega, fun _ => rfl⟩ (fun t ok nx' ht hJ hnx' => ?_) (fun ok hJ => ?_)
  · unfold syllogistref_Up_b22
    rw [bit_eq _ _ (by omega), geti_at ht]
    simp only [Option.isSome_some, Bool.or_true, cond_true, Option.getD_some]
    rw [bit_eq _ _ (by omega)]
    simp only [Option.isSome_some, Bool.or_true, cond_true, Option.getD_some]
    refine hnx' _ ?_
    rw [Bool.and_eq_true, hJ]
    constructor
    · rintro ⟨h1, h2⟩ i hi hit hob
      by_cases e : i = t
      · subst e; rw [hob] at h2; simpa using h2
      · exact h1 i hi (by omega) hob
    · intro h
      refine ⟨fun i hi hit => h i hi (by omega), ?_⟩
      cases hb : obj.getLsbD t with
      | false => rfl
      | true => rw [h t ht (by omega) hb]; rfl
  · unfold syllogistref_Up_k18
    have hbel : bel m out := fun j h => ((hI j).1 h).1
    cases hok : ok with
    | true =>
      rw [cond_true, ofInt64 (by omega), add_bit (by omega) hbel]
      refine hnx _ fun j => ?_
      rw [or_bit (by omega), hI j]
      have hall := hJ.1 hok
      constructor
      · rintro (⟨h1, h2⟩ | h)
        · exact ⟨by omega, h2⟩
        · subst h; exact ⟨by omega, fun i hi => hall i hi hi⟩
      · rintro ⟨h1, h2⟩
        by_cases e : j = m
        · exact .inr e
        · exact .inl ⟨by omega, h2⟩
    | false =>
      rw [cond_false]
      refine hnx _ fun j => ?_
      rw [hI j]
      constructor
      · rintro ⟨h1, h2⟩
        exact ⟨by omega, h2⟩
      · rintro ⟨h1, h2⟩
        by_cases e : j = m
        · subst e
          rw [hJ.2 fun i hi _ => h2 i hi] at hok; cases hok
        · exact ⟨by omega, h2⟩

theorem down_eq (rows : List (BitVec 32)) (hr : rows.length ≤ 8) (marks : BitVec 32) : ∃ r, concept_down rows marks = some r ∧ DnP rows marks r := by
  unfold concept_down
  refine for0_q (Q := fun o => ∃ r, o = some r ∧ DnP rows marks r) (fun t (out : BitVec 32) => ∀ i, out.getLsbD i = true ↔ ∃ h : i < rows.length, i < t ∧ sb marks rows[i]) rfl (0#32) (fun i => by simp) (fun t out nx ht hI hnx => ?_) (fun out hI => ?_)
  rotate_left
  · exact ⟨out, rfl, fun i => (hI i).trans ⟨fun ⟨h, _, h2⟩ => ⟨h, h2⟩, fun ⟨h, h2⟩ => ⟨h, h, h2⟩⟩⟩
  unfold concept_down_b10
  rw [geti_at ht, Option.bind_some]
  by_cases hg : sb marks rows[t]
  · rw [andn_iff.2 hg, cond_true]
    refine hnx _ fun i => ?_
    rw [Int.toNat_natCast, or_bit (by omega), hI i]
    constructor
    · rintro (⟨h, h1, h2⟩ | h)
      · exact ⟨h, by omega, h2⟩
      · subst h; exact ⟨ht, by omega, hg⟩
    · rintro ⟨h, h1, h2⟩
      by_cases e : i = t
      · exact .inr e
      · exact .inl ⟨h, by omega, h2⟩
  · have : ((marks &&& ~~~rows[t]) == 0#32) = false := by
      rw [← Bool.not_eq_true]; exact fun h => hg (andn_iff.1 h)
    rw [this, cond_false]
    refine hnx _ fun i => ?_
    rw [hI i]
    constructor
    · rintro ⟨h, h1, h2⟩
      exact ⟨h, by omega, h2⟩
    · rintro ⟨h, h1, h2⟩
      by_cases e : i = t
      · subst e; exact absurd h2 hg
      · exact ⟨h, by omega, h2⟩

theorem owners_eq (rows : List (BitVec 32)) (hr : rows.length ≤ 8) (marks : BitVec 32) : ∃ r, syllogistref_Owners rows marks = some r ∧ DnP rows marks r := by
  unfold syllogistref_Owners
  refine for0_q (Q := fun o => ∃ r, o = some r ∧ DnP rows marks r) (fun t (out : BitVec 32) => ∀ i, out.getLsbD i = true ↔ ∃ h : i < rows.length, i < t ∧ sb marks rows[i]) rfl (0#32) (fun i => by simp) (fun t out nx ht hI hnx => ?_) (fun out hI => ?_)
  rotate_left
  · exact ⟨out, rfl, fun i => (hI i).trans ⟨fun ⟨h, _, h2⟩ => ⟨h, h2⟩, fun ⟨h, h2⟩ => ⟨h, h, h2⟩⟩⟩
  unfold syllogistref_Owners_b10
  have hbel : bel t out := fun i h => ((hI i).1 h).2.1
  rw [geti_at ht, Option.bind_some, in_eq, Option.bind_some, ofInt64 (by omega)]
  by_cases hg : sb marks rows[t]
  · rw [or_iff.2 hg, cond_true, add_bit (by omega) hbel]
    refine hnx _ fun i => ?_
    rw [or_bit (by omega), hI i]
    constructor
    · rintro (⟨h, h1, h2⟩ | h)
      · exact ⟨h, by omega, h2⟩
      · subst h; exact ⟨ht, by omega, hg⟩
    · rintro ⟨h, h1, h2⟩
      by_cases e : i = t
      · exact .inr e
      · exact .inl ⟨h, by omega, h2⟩
  · have : ((marks ||| rows[t]) == rows[t]) = false := by
      rw [← Bool.not_eq_true]; exact fun h => hg (or_iff.1 h)
    rw [this, cond_false]
    refine hnx _ fun i => ?_
    rw [hI i]
    constructor
    · rintro ⟨h, h1, h2⟩
      exact ⟨h, by omega, h2⟩
    · rintro ⟨h, h1, h2⟩
      by_cases e : i = t
      · subst e; exact absurd h2 hg
      · exact ⟨h, by omega, h2⟩

theorem none_hm : ∀ k, bel k 0#32 ↔ ∀ i (h : i < ([] : List (BitVec 32)).length), bel k ([] : List (BitVec 32))[i] := fun k => ⟨fun _ i hi => absurd hi (by simp), fun _ j e => by simp at e⟩
theorem one_hm (m : BitVec 32) : ∀ k, bel k m ↔ ∀ i (h : i < [m].length), bel k [m][i] := fun k => ⟨fun h i hi => by simp at hi; subst hi; exact h, fun h => h 0 (by simp)⟩

end Go.Proofs.Ytefaglkgpaloeaa.Sy
