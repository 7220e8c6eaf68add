/- What the page's check and its depths compute: the plain laws; no program in sight. -/
import Derived.Test.YtmgpfhhkfecicaaSyM
import Derived.Test.YtmgpfhhkfecicaaG1
namespace Go.Proofs.Ytmgpfhhkfecicaa.Sy
set_option linter.unusedVariables false

open Classical in
noncomputable def lcode (a : Label) : Int := if 0 ≤ a.level ∧ a.level ≤ 3 ∧ a.parts < 32#32 then 0 else 4

theorem fits5 (s : BitVec 32) : syllogistref_Fits 5 s = some (decide (s < 32#32)) := by
  unfold syllogistref_Fits
  have h : (1#32 <<< ((BitVec.ofInt 64 5)).toNat) = 32#32 := by decide
  rw [h]
  simp

theorem lcheck_eq (a : Label) : label_Check a = some (lcode a) := by
  unfold label_Check lcode
  by_cases h : 0 ≤ a.level ∧ a.level ≤ 3 ∧ a.parts < 32#32
  · rw [if_pos h]
    have : (((decide (a.level < (0 : Int))) || (decide (a.level > (3 : Int)))) || (decide (a.parts ≥ 32#32))) = false := by
      obtain ⟨h1, h2, h3⟩ := h
      simp only [Bool.or_eq_false_iff, decide_eq_false_iff_not]
      refine ⟨⟨by omega, by omega⟩, ?_⟩
      simp only [ge_iff_le, BitVec.not_le]; exact h3
    rw [this]; rfl
  · rw [if_neg h]
    have : (((decide (a.level < (0 : Int))) || (decide (a.level > (3 : Int)))) || (decide (a.parts ≥ 32#32))) = true := by
      simp only [Bool.or_eq_true, decide_eq_true_eq]
      by_cases h3 : a.parts < 32#32
      · left
        by_cases h1 : a.level < 0
        · exact .inl h1
        · refine .inr ?_
          by_cases h2 : a.level > 3
          · exact h2
          · exact absurd ⟨by omega, by omega, h3⟩ h
      · exact .inr (by simpa using h3)
    rw [this]; rfl

theorem rcheck_eq (a : Label) : syllogistref_LabelCheck a = some (lcode a) := by
  rw [← lcheck_eq]
  unfold label_Check syllogistref_LabelCheck
  rw [fits5]
  have : (decide (a.parts ≥ 32#32)) = !(decide (a.parts < 32#32)) := by
    rw [← decide_not]; congr 1; simp
  rw [this]
  simp

theorem lcode_ne {a : Label} (h : lcode a ≠ 0) : lcode a = 4 := by
  unfold lcode at h ⊢
  split at h
  · exact absurd rfl h
  · rename_i hh
    exact if_neg hh

def lund (a b : Label) : Bool := (decide (a.level ≤ b.level)) && ((a.parts &&& ~~~b.parts) == 0#32)
theorem least_eq (a b : Label) : label_Least a b = some (lund a b) := rfl
theorem below_eq (a b : Label) : syllogistref_Below a b = some (lund a b) := by
  unfold syllogistref_Below syllogistref_In lund
  simp [andn_or]

theorem pbody_eq (l : List Leaf) (i : Int) (nx : Unit → Option Int) : page_Check_b7 l i nx = syllogistref_PageCheck_b7 l i nx := by
  unfold page_Check_b7 syllogistref_PageCheck_b7
  congr 1
  funext y
  simp only [lcheck_eq, rcheck_eq, Option.bind_some, least_eq, below_eq]
  by_cases h : lcode { level := y.label.level, parts := y.label.parts } = 0
  · simp [h]
  · have h4 := lcode_ne h
    simp [h4]

theorem page_eq (l : List Leaf) : page_Check l = syllogistref_PageCheck l := by
  unfold page_Check syllogistref_PageCheck
  have : (fun i (s : Unit) nx_ => page_Check_b7 l i nx_) = (fun i s nx_ => syllogistref_PageCheck_b7 l i nx_) := by
    funext i s nx; exact pbody_eq l i nx
  rw [this]
  rfl

/-- What a page that passes has. -/
def pok (l : List Leaf) : Prop := l.length ≤ 40 ∧ ∀ i (h : i < l.length), -1 ≤ l[i].up ∧ l[i].up < i

theorem pcheck_some (l : List Leaf) : ∃ r, syllogistref_PageCheck l = some r ∧ (r = 0 → pok l) := by
  unfold syllogistref_PageCheck
  by_cases h40 : (l.length : Int) > 40
  · rw [decide_eq_true h40]; exact ⟨1, rfl, fun h => by cases h⟩
  rw [decide_eq_false h40, cond_false]
  refine for0_q (Q := fun o => ∃ r, o = some r ∧ (r = 0 → pok l)) (fun t _ => ∀ i (h : i < l.length), i < t → -1 ≤ l[i].up ∧ l[i].up < i) rfl () (fun i h hi => by omega) (fun t s nx ht hI hnx => ?_) (fun s hI => ?_)
  · unfold syllogistref_PageCheck_b7
    rw [geti_at ht, Option.bind_some, rcheck_eq, Option.bind_some]
    by_cases hc : lcode { level := l[t].label.level, parts := l[t].label.parts } = 0
    · rw [hc]
      simp only [bne_self_eq_false, cond_false]
      by_cases hu : l[t].up < -1 ∨ l[t].up ≥ t
      · have : ((decide (l[t].up < (-1 : Int))) || (decide (l[t].up ≥ (t : Int)))) = true := by simpa using hu
        rw [this]; exact ⟨2, rfl, fun h => by cases h⟩
      · have : ((decide (l[t].up < (-1 : Int))) || (decide (l[t].up ≥ (t : Int)))) = false := by
          simp only [Bool.or_eq_false_iff, decide_eq_false_iff_not]; omega
        rw [this, cond_false, below_eq]
        have hg : (!((decide (l[t].up ≥ (0 : Int))) == true) || (geti l l[t].up).isSome) = true := by
          by_cases h0 : l[t].up ≥ 0
          · rw [geti_int h0 (by omega)]; simp
          · simp [h0]
        rw [hg]
        simp only [cond_true, Option.isSome_some, Bool.or_true, Option.getD_some]
        cases ((decide (l[t].up ≥ (0 : Int))) && !(lund (((geti l l[t].up).getD { up := 0, text := 0, label := { level := 0, parts := 0#32 } }).label) { level := l[t].label.level, parts := l[t].label.parts })) with
        | true => exact ⟨3, rfl, fun h => by cases h⟩
        | false =>
          rw [cond_false]
          refine hnx () fun i h hi => ?_
          by_cases e : i = t
          · subst e; omega
          · exact hI i h (by omega)
    · have : (lcode { level := l[t].label.level, parts := l[t].label.parts } != 0) = true := by simpa using hc
      rw [this]; exact ⟨4, rfl, fun h => by cases h⟩
  · exact ⟨0, rfl, fun _ => ⟨by omega, fun i h => hI i h h⟩⟩

theorem pageChecks_true (l : List Leaf) : syllogistlaw_PageChecks l = some true := by
  unfold syllogistlaw_PageChecks
  obtain ⟨r, e, _⟩ := pcheck_some l
  rw [page_eq, e]
  simp

/-- Depths. -/
def dup (T : List Int) (u : Int) : Int := if u ≥ 0 then (T[u.toNat]?.getD 0) + 1 else 0
def Dep (l : List Leaf) (T : List Int) : Prop := ∀ i (h : i < T.length) (h' : i < l.length), T[i] = dup T l[i].up ∧ 0 ≤ T[i] ∧ T[i] ≤ i

theorem dup_app {T : List Int} {u x : Int} (h : u < T.length) : dup (T ++ [x]) u = dup T u := by
  unfold dup
  split
  · rw [List.getElem?_append_left (by omega)]
  · rfl

theorem tops_eq (l : List Leaf) (hl : pok l) (hc : page_Check l = some 0) : ∃ T, page_Tops l = some (T, 0) ∧ T.length = l.length ∧ Dep l T := by
  unfold page_Tops
  rw [hc, Option.bind_some]
  simp only [bne_self_eq_false, cond_false]
  refine for0_q (Q := fun o => ∃ T, o = some (T, (0 : Int)) ∧ T.length = l.length ∧ Dep l T) (fun t (T : List Int) => T.length = t ∧ Dep l T) rfl [] ⟨rfl, fun i h => absurd h (by simp)⟩ (fun t T nx ht hI hnx => ?_) (fun T hI => ?_)
  rotate_left
  · exact ⟨T, rfl, hI.1, hI.2⟩
  obtain ⟨hT, hD⟩ := hI
  obtain ⟨u1, u2⟩ := hl.2 t ht
  have hl40 := hl.1
  unfold page_Tops_b16
  rw [geti_at ht, Option.bind_some]
  have step : ∀ x : Int, x = dup T l[t].up → 0 ≤ x → x ≤ t → (T ++ [x]).length = t + 1 ∧ Dep l (T ++ [x]) := by
    intro x hx h0 hxt
    refine ⟨by simp [hT], fun i h h' => ?_⟩
    by_cases e : i < T.length
    · rw [List.getElem_append_left e]
      obtain ⟨a, b, c⟩ := hD i e h'
      obtain ⟨v1, v2⟩ := hl.2 i h'
      exact ⟨by rw [dup_app (by omega)]; exact a, b, c⟩
    · have : i = t := by simp at h; omega
      subst this
      have : (T ++ [x])[i] = x := by
        rw [List.getElem_append_right (by omega)]; simp [hT]
      rw [this, dup_app (by omega)]
      exact ⟨hx, h0, by omega⟩
  by_cases h0 : l[t].up ≥ 0
  · rw [decide_eq_true h0, cond_true, geti_int h0 (by omega), Option.bind_some]
    obtain ⟨a, b, c⟩ := hD l[t].up.toNat (by omega) (by omega)
    have hw : w64 (T[l[t].up.toNat]'(by omega) + 1) = T[l[t].up.toNat]'(by omega) + 1 := w64_id (by omega) (by omega)
    rw [hw, decide_eq_true (by simp; omega), cond_true]
    refine hnx _ (step _ ?_ (by omega) (by omega))
    unfold dup
    rw [if_pos h0, List.getElem?_eq_getElem (by omega)]; rfl
  · rw [decide_eq_false h0, cond_false, decide_eq_true (by simp; omega), cond_true]
    refine hnx _ (step _ ?_ (by omega) (by omega))
    unfold dup
    rw [if_neg h0]

theorem pageTops_true (fuel : Nat) (l : List Leaf) (hf : 100 < fuel := by decide) : syllogistlaw_PageTops fuel l = some true := by
  unfold syllogistlaw_PageTops
  obtain ⟨r, e, hr⟩ := pcheck_some l
  have ec := page_eq l
  by_cases h : r = 0
  · subst h
    have hl := hr rfl
    obtain ⟨T, eT, hT, hD⟩ := tops_eq l hl (ec.trans e)
    rw [eT, Option.bind_some, e, Option.bind_some]
    simp only [bne_self_eq_false, cond_false]
    have hl40 := hl.1
    refine whileK_q (Q := fun o => o = some true) (fun (i : Int) => 0 ≤ i ∧ i ≤ l.length) (fun i => (l.length - i).toNat) (fun i nx hI hnx => ?_) fuel _ ⟨by omega, by omega⟩ (by omega)
    unfold syllogistlaw_PageTops_b11
    by_cases hi : i < l.length
    · have hb : ((decide (i < (l.length : Int))) && (decide (i < (T.length : Int)))) = true := by simp; omega
      rw [hb, cond_true, geti_int hI.1 hi, Option.bind_some]
      obtain ⟨j, rfl⟩ : ∃ j : Nat, i = j := ⟨i.toNat, by omega⟩
      simp only [Int.toNat_natCast]
      obtain ⟨u1, u2⟩ := hl.2 j (by omega)
      obtain ⟨a, b, c⟩ := hD j (by omega) (by omega)
      refine whileK_q (Q := fun o => o = some true) (fun (z : Int × Int) => 0 ≤ z.1 ∧ z.1 + dup T z.2 = T[j]'(by omega) ∧ -1 ≤ z.2 ∧ z.2 < j) (fun z => (z.2 + 1).toNat) (fun z nx' hJ hnx' => ?_) fuel _ ⟨by simp, by simpa using a.symm, u1, u2⟩ (by simp; omega)
      obtain ⟨k, u⟩ := z
      obtain ⟨k0, kd, ku1, ku2⟩ := hJ
      simp only at k0 kd ku1 ku2 ⊢
      unfold syllogistlaw_PageTops_b25
      by_cases hu : u ≥ 0
      · obtain ⟨a', b', c'⟩ := hD u.toNat (by omega) (by omega)
        obtain ⟨v1, v2⟩ := hl.2 u.toNat (by omega)
        rw [decide_eq_true hu, cond_true, geti_int hu (by omega), Option.bind_some]
        have hd : dup T u = T[u.toNat]'(by omega) + 1 := by
          unfold dup; rw [if_pos hu, List.getElem?_eq_getElem (by omega)]; rfl
        have hw : w64 (k + 1) = k + 1 := w64_id (by omega) (by omega)
        rw [hw]
        refine hnx' _ ⟨by simp only; omega, by simp only; omega, by simp only; omega, by simp only; omega⟩ (by simp only; omega)
      · have hd : dup T u = 0 := by unfold dup; rw [if_neg hu]
        rw [decide_eq_false hu, cond_false]
        unfold syllogistlaw_PageTops_k21
        rw [geti_at (by simp only; omega), Option.bind_some]
        have hk : T[j]'(by omega) = k := by omega
        have hw : w64 ((j : Int) + 1) = (j : Int) + 1 := w64_id (by omega) (by omega)
        simp only [hk, bne_self_eq_false, cond_false, hw]
        exact hnx _ ⟨by omega, by omega⟩ (by omega)
    · have hb : ((decide (i < (l.length : Int))) && (decide (i < (T.length : Int)))) = false := by simp; omega
      rw [hb, cond_false]
      unfold syllogistlaw_PageTops_k9
      simp [hT]
  · have hn : (r != 0) = true := by simpa using h
    unfold page_Tops
    rw [ec, e]
    simp [hn]
end Go.Proofs.Ytmgpfhhkfecicaa.Sy
