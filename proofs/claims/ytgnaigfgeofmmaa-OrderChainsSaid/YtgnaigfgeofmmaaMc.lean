/- What the order's table and its document compute: the plain law; no program in sight. -/
import Derived.Test.YtgnaigfgeofmmaaSyM
import Derived.Test.YtgnaigfgeofmmaaG1
namespace Go.Proofs.Ytgnaigfgeofmmaa.Sy
set_option linter.unusedVariables false

inductive Rch (ps : List (Int × Int)) (a : Int) : Int → Prop
  | refl : Rch ps a a
  | tail {b c : Int} : Rch ps a b → (b, c) ∈ ps → Rch ps a c

theorem Rch.trans {ps : List (Int × Int)} {a b c : Int} (h : Rch ps a b) (k : Rch ps b c) : Rch ps a c := by
  induction k with
  | refl => exact h
  | tail _ e ih => exact ih.tail e

/-! ### The document's words -/
theorem has_eq (l : List Int) (x : Int) : syllogistref_Has l x = some (decide (x ∈ l)) := by
  unfold syllogistref_Has
  refine for0_q (Q := fun o => o = some (decide (x ∈ l))) (fun j _ => ∀ i (h : i < l.length), i < j → l[i] ≠ x) rfl () (fun i h hi => by omega) (fun j s nx hj hI hn => ?_) (fun s hI => ?_)
  · unfold syllogistref_Has_b7
    rw [geti_at hj]
    simp only [Option.bind_some]
    by_cases hx : x = l[j]
    · have : x ∈ l := hx ▸ List.getElem_mem hj
      simp [← hx, this]
    · simp only [beq_eq_false_iff_ne.2 hx, cond_false]
      refine hn () fun i h hi => ?_
      by_cases e : i = j
      · subst e; exact fun h' => hx h'.symm
      · exact hI i h (by omega)
  · unfold syllogistref_Has_k3
    congr 1
    symm
    rw [decide_eq_false_iff_not]
    intro hm
    obtain ⟨i, h, e⟩ := List.getElem_of_mem hm
    exact hI i h (by omega) e

theorem nodup_len : ∀ {l t : List Int}, l.Nodup → (∀ x ∈ l, x ∈ t) → l.length ≤ t.length
  | [], t, _, _ => by simp
  | a :: l, t, hd, hs => by
    rw [List.nodup_cons] at hd
    have ha : a ∈ t := hs a (by simp)
    have := nodup_len (t := t.erase a) hd.2 fun x hx => by
      have hne : x ≠ a := fun e => hd.1 (e ▸ hx)
      exact (List.mem_erase_of_ne hne).2 (hs x (by simp [hx]))
    rw [List.length_erase_of_mem ha] at this
    have hp := List.length_pos_of_mem ha
    simp; omega

structure UI (ps : List (Int × Int)) (a : Int) (k : Nat) (l : List Int) : Prop where
  head : a ∈ l
  nd : l.Nodup
  rch : ∀ x ∈ l, Rch ps a x
  sub : ∀ x ∈ l, x ∈ a :: ps.map Prod.snd
  done : ∀ i (h : i < l.length), i < k → ∀ c, (l[i], c) ∈ ps → c ∈ l

theorem UI.len {ps : List (Int × Int)} {a : Int} {k : Nat} {l : List Int} (h : UI ps a k l) : l.length ≤ ps.length + 1 := by
  have := nodup_len h.nd h.sub
  simpa using this

theorem under_eq (fuel : Nat) (n : Int) (ps : List (Int × Int)) (a b : Int) (hps : ps.length ≤ 1000000) (hf : ps.length + 2 < fuel) : ∃ r, syllogistref_Under fuel n ps a b = some r ∧ (r = true ↔ Rch ps a b) := by
  unfold syllogistref_Under
  refine whileK_q (Q := fun o => ∃ r, o = some r ∧ (r = true ↔ Rch ps a b)) (fun (s : Int × List Int) => ∃ k : Nat, s.1 = k ∧ k ≤ s.2.length ∧ UI ps a k s.2) (fun s => ps.length + 1 - s.1.toNat) (fun s nx hI hn => ?_) fuel _ ⟨0, rfl, by simp, ?_⟩ (by simp; omega)
  · obtain ⟨k0, l⟩ := s
    obtain ⟨k, hk, hkl, hU⟩ := hI
    simp only at hk hkl hU ⊢
    subst hk
    have hlen := hU.len
    unfold syllogistref_Under_b15
    by_cases hlt : k < l.length
    · rw [decide_eq_true (by omega : (k : Int) < (l.length : Int)), cond_true]
      refine for0_q (Q := fun o => ∃ r, o = some r ∧ (r = true ↔ Rch ps a b)) (fun t l' => l'[k]? = l[k]? ∧ UI ps a k l' ∧ ∀ i (h : i < ps.length), i < t → ps[i].1 = l[k] → ps[i].2 ∈ l') rfl l ⟨rfl, hU, fun i h hi => by omega⟩ (fun t l' nx' ht hI' hn' => ?_) (fun l' hI' => ?_)
      · obtain ⟨h1, h2, h3⟩ := hI'
        unfold syllogistref_Under_b30
        have hlen' := h2.len
        have hk' : k < l'.length := by
          rw [List.getElem?_eq_getElem hlt] at h1
          exact (List.getElem?_eq_some_iff.1 h1).1
        have hkk : l'[k] = l[k] := by
          rw [List.getElem?_eq_getElem hlt, List.getElem?_eq_getElem hk'] at h1
          exact Option.some.inj h1
        rw [geti_at ht, Option.bind_some, geti_at hk', Option.bind_some, has_eq]
        simp only [Option.isSome_some, Bool.or_true, cond_true, Option.getD_some, hkk]
        by_cases hc : ps[t].1 = l[k] ∧ ps[t].2 ∉ l'
        · have hb : ((ps[t].1 == l[k]) && !decide (ps[t].2 ∈ l')) = true := by simp [hc.1, hc.2]
          rw [hb, cond_true, decide_eq_true (by simp; omega), cond_true]
          have hmem : (l[k], ps[t].2) ∈ ps := by rw [← hc.1]; exact List.getElem_mem ht
          refine hn' _ ⟨?_, ⟨by simp [h2.head], ?_, ?_, ?_, ?_⟩, ?_⟩
          · rw [List.getElem?_append_left hk']; exact h1
          · rw [List.nodup_append]
            exact ⟨h2.nd, by simp, fun x hx y hy e => by simp at hy; subst hy; subst e; exact hc.2 hx⟩
          · intro x hx
            rcases List.mem_append.1 hx with hx | hx
            · exact h2.rch x hx
            · simp at hx; subst hx
              exact (h2.rch l[k] (hkk ▸ List.getElem_mem hk')).tail hmem
          · intro x hx
            rcases List.mem_append.1 hx with hx | hx
            · exact h2.sub x hx
            · simp at hx; subst hx
              exact List.mem_cons_of_mem _ (List.mem_map.2 ⟨_, List.getElem_mem ht, rfl⟩)
          · intro i hi hik c hcm
            have hil : i < l'.length := by omega
            rw [List.getElem_append_left hil] at hcm
            exact List.mem_append_left _ (h2.done i hil hik c hcm)
          · intro i hi hit he
            by_cases e : i = t
            · subst e; simp
            · exact List.mem_append_left _ (h3 i hi (by omega) he)
        · have hb : ((ps[t].1 == l[k]) && !decide (ps[t].2 ∈ l')) = false := by
            by_cases e : ps[t].1 = l[k]
            · have : ps[t].2 ∈ l' := Classical.byContradiction fun h => hc ⟨e, h⟩
              simp [this]
            · simp [e]
          rw [hb, cond_false]
          refine hn' _ ⟨h1, h2, fun i hi hit he => ?_⟩
          by_cases e : i = t
          · subst e; exact Classical.byContradiction fun h => hc ⟨he, h⟩
          · exact h3 i hi (by omega) he
      · obtain ⟨h1, h2, h3⟩ := hI'
        unfold syllogistref_Under_k26
        have hk' : k < l'.length := by
          rw [List.getElem?_eq_getElem hlt] at h1
          exact (List.getElem?_eq_some_iff.1 h1).1
        have hkk : l'[k] = l[k] := by
          rw [List.getElem?_eq_getElem hlt, List.getElem?_eq_getElem hk'] at h1
          exact Option.some.inj h1
        have hlen' := h2.len
        have hw : w64 ((k : Int) + 1) = ((k + 1 : Nat) : Int) := by rw [w64_id (by omega) (by omega)]; rfl
        rw [hw]
        refine hn _ ⟨k + 1, rfl, by simp; omega, ⟨h2.head, h2.nd, h2.rch, h2.sub, fun i hi hik c hcm => ?_⟩⟩ (by simp; omega)
        by_cases e : i = k
        · subst e
          obtain ⟨j, hj, e⟩ := List.getElem_of_mem hcm
          have := h3 j hj hj (by rw [e, hkk])
          rwa [e] at this
        · exact h2.done i hi (by omega) c hcm
    · rw [decide_eq_false (by omega : ¬ (k : Int) < (l.length : Int)), cond_false]
      unfold syllogistref_Under_k11
      rw [has_eq, Option.bind_some]
      refine ⟨_, rfl, ?_⟩
      rw [decide_eq_true_eq]
      refine ⟨hU.rch b, fun hr => ?_⟩
      clear hn
      induction hr with
      | refl => exact hU.head
      | tail _ e ih =>
        obtain ⟨i, hi, e'⟩ := List.getElem_of_mem ih
        exact hU.done i hi (by omega) _ (by rw [e']; exact e)
  · exact ⟨by simp, by simp, fun x hx => by simp at hx; subst hx; exact .refl, fun x hx => by simp at hx; subst hx; simp, fun i h hi => by omega⟩

/-! ### The order's check -/
def bad1 (n : Int) (ps : List (Int × Int)) : Prop := n < 1 ∨ n > 6 ∨ ps.length > 20
def bad2 (n : Int) (ps : List (Int × Int)) : Prop := ∃ p ∈ ps, p.1 < 0 ∨ p.1 ≥ n ∨ p.2 < 0 ∨ p.2 ≥ n
def cyc (n : Int) (ps : List (Int × Int)) : Prop := ∃ i j : Nat, j < i ∧ (i : Int) < n ∧ Rch ps i j ∧ Rch ps j i
open Classical in
noncomputable def chk (n : Int) (ps : List (Int × Int)) : Int := if bad1 n ps then 1 else if bad2 n ps then 2 else if cyc n ps then 3 else 0

theorem check_eq (fuel : Nat) (n : Int) (ps : List (Int × Int)) (hf : 30 < fuel) : syllogistref_OrderCheck fuel n ps = some (chk n ps) := by
  unfold syllogistref_OrderCheck chk
  by_cases h1 : bad1 n ps
  · rw [if_pos h1]
    have : (((decide (n < (1 : Int))) || (decide (n > (6 : Int)))) || (decide ((ps.length : Int) > (20 : Int)))) = true := by
      unfold bad1 at h1
      simp only [Bool.or_eq_true, decide_eq_true_eq]; omega
    rw [this, cond_true]
  · rw [if_neg h1]
    have hb : (((decide (n < (1 : Int))) || (decide (n > (6 : Int)))) || (decide ((ps.length : Int) > (20 : Int)))) = false := by
      unfold bad1 at h1
      simp only [Bool.or_eq_false_iff, decide_eq_false_iff_not]; omega
    rw [hb, cond_false]
    have hn : 1 ≤ n ∧ n ≤ 6 ∧ ps.length ≤ 20 := by unfold bad1 at h1; omega
    refine for0_eq (fun t _ => ∀ i (h : i < ps.length), i < t → ¬ (ps[i].1 < 0 ∨ ps[i].1 ≥ n ∨ ps[i].2 < 0 ∨ ps[i].2 ≥ n)) rfl () (fun i h hi => by omega) (fun t s nx ht hI hnx => ?_) (fun s hI => ?_)
    · unfold syllogistref_OrderCheck_b28
      rw [geti_at ht, Option.bind_some]
      by_cases hbad : ps[t].1 < 0 ∨ ps[t].1 ≥ n ∨ ps[t].2 < 0 ∨ ps[t].2 ≥ n
      · have : ((((decide (ps[t].1 < (0 : Int))) || (decide (ps[t].1 ≥ n))) || (decide (ps[t].2 < (0 : Int)))) || (decide (ps[t].2 ≥ n))) = true := by
          simp only [Bool.or_eq_true, decide_eq_true_eq]; omega
        rw [this, cond_true, if_pos ⟨_, List.getElem_mem ht, hbad⟩]
      · have : ((((decide (ps[t].1 < (0 : Int))) || (decide (ps[t].1 ≥ n))) || (decide (ps[t].2 < (0 : Int)))) || (decide (ps[t].2 ≥ n))) = false := by
          simp only [Bool.or_eq_false_iff, decide_eq_false_iff_not]; omega
        rw [this, cond_false]
        refine hnx () fun i h hi => ?_
        by_cases e : i = t
        · subst e; exact hbad
        · exact hI i h (by omega)
    · have h2 : ¬ bad2 n ps := by
        rintro ⟨p, hp, h⟩
        obtain ⟨i, hi, rfl⟩ := List.getElem_of_mem hp
        exact hI i hi hi h
      rw [if_neg h2]
      unfold syllogistref_OrderCheck_k3
      rw [decide_eq_true (by omega), cond_true]
      have hnn : n = (n.toNat : Int) := by omega
      refine for0_eq (fun i _ => ∀ i' j' : Nat, j' < i' → i' < i → ¬ (Rch ps i' j' ∧ Rch ps j' i')) hnn () (fun i j h hi => by omega) (fun i s nx hi hI hnx => ?_) (fun s hI => ?_)
      · unfold syllogistref_OrderCheck_b11
        rw [decide_eq_true (by omega), cond_true]
        refine for0_eq (fun j _ => ∀ j' : Nat, j' < j → ¬ (Rch ps i j' ∧ Rch ps j' i)) rfl () (fun j hj => by omega) (fun j s' nx' hj hI' hnx' => ?_) (fun s' hI' => ?_)
        · unfold syllogistref_OrderCheck_b20
          obtain ⟨r1, e1, g1⟩ := under_eq fuel n ps i j (by omega) (by omega)
          obtain ⟨r2, e2, g2⟩ := under_eq fuel n ps j i (by omega) (by omega)
          rw [e1, Option.bind_some, e2]
          simp only [Option.isSome_some, Bool.or_true, cond_true, Option.getD_some]
          by_cases hb2 : Rch ps i j ∧ Rch ps j i
          · rw [g1.2 hb2.1, g2.2 hb2.2, if_pos ⟨i, j, hj, by omega, hb2⟩]; rfl
          · have : (r1 && r2) = false := by
              rw [Bool.and_eq_false_iff]
              cases h1 : r1 with
              | false => simp
              | true =>
                cases h2' : r2 with
                | false => simp
                | true => exact absurd ⟨g1.1 h1, g2.1 h2'⟩ hb2
            rw [this, cond_false]
            refine hnx' () fun j' hj' => ?_
            by_cases e : j' = j
            · subst e; exact hb2
            · exact hI' j' (by omega)
        · unfold syllogistref_OrderCheck_k16
          refine hnx () fun i' j' h1 h2 => ?_
          by_cases e : i' = i
          · subst e; exact hI' j' h1
          · exact hI i' j' h1 (by omega)
      · unfold syllogistref_OrderCheck_k7
        rw [if_neg]
        rintro ⟨i, j, hji, hin, hr⟩
        exact hI i j hji (by omega) hr

/-! ### The closure, row by row -/
def WK (ps : List (Int × Int)) : Nat → Nat → Nat → Prop
  | 0, i, j => i = j ∨ ((i : Int), (j : Int)) ∈ ps
  | k + 1, i, j => WK ps k i j ∨ (WK ps k i k ∧ WK ps k k j)

theorem WK.self (ps : List (Int × Int)) (k i : Nat) : WK ps k i i := by
  induction k with
  | zero => exact .inl rfl
  | succ k ih => exact .inl ih

theorem WK.mono (ps : List (Int × Int)) {k i j : Nat} (h : WK ps 0 i j) : WK ps k i j := by
  induction k with
  | zero => exact h
  | succ k ih => exact .inl ih

theorem WK.trans (ps : List (Int × Int)) : ∀ {K m i j : Nat}, m < K → WK ps K i m → WK ps K m j → WK ps K i j
  | K + 1, m, i, j, hm, h1, h2 => by
    by_cases e : m = K
    · subst e
      have a : WK ps m i m := h1.elim id (fun h => h.1)
      have b : WK ps m m j := h2.elim id (fun h => h.2)
      exact .inr ⟨a, b⟩
    · have hm' : m < K := by omega
      rcases h1 with h1 | ⟨h1, h1'⟩ <;> rcases h2 with h2 | ⟨h2, h2'⟩
      · exact .inl (WK.trans ps hm' h1 h2)
      · exact .inr ⟨WK.trans ps hm' h1 h2, h2'⟩
      · exact .inr ⟨h1, WK.trans ps hm' h1' h2⟩
      · exact .inr ⟨h1, h2'⟩

theorem WK.rch (ps : List (Int × Int)) : ∀ {K i j : Nat}, WK ps K i j → Rch ps i j
  | 0, i, j, h => by
    rcases h with rfl | h
    · exact .refl
    · exact .tail .refl h
  | K + 1, i, j, h => by
    rcases h with h | ⟨h, h'⟩
    · exact WK.rch ps h
    · exact (WK.rch ps h).trans (WK.rch ps h')

theorem WK.of_rch (ps : List (Int × Int)) {n : Nat} (hb : ∀ p ∈ ps, 0 ≤ p.1 ∧ p.1 < (n : Int) ∧ 0 ≤ p.2 ∧ p.2 < (n : Int)) {i : Nat} {x : Int} (h : Rch ps i x) : ∃ j : Nat, x = j ∧ WK ps n i j := by
  induction h with
  | refl => exact ⟨i, rfl, WK.self ps n i⟩
  | @tail b c _ e ih =>
    obtain ⟨j, rfl, hj⟩ := ih
    obtain ⟨h1, h2, h3, h4⟩ := hb _ e
    refine ⟨c.toNat, by omega, ?_⟩
    refine WK.trans ps (m := j) (by simpa using h2) hj (WK.mono ps (.inr ?_))
    rw [show ((c.toNat : Nat) : Int) = c by omega]; exact e

def Rel (l : List (BitVec 32)) (n : Nat) (R : Nat → Nat → Prop) : Prop := l.length = n ∧ ∀ i (h : i < l.length) j, l[i].getLsbD j = true ↔ R i j

theorem set_at {l : List (BitVec 32)} {i k : Nat} {y : BitVec 32} (h : i < (l.set k y).length) : (l.set k y)[i] = if k = i then y else l[i]'(by simpa using h) := by
  rw [List.getElem_set]

def TQ (n : Int) (ps : List (Int × Int)) (o : Option (List (BitVec 32) × Int)) : Prop :=
  ∃ l, o = some (l, chk n ps) ∧ (chk n ps ≠ 0 → l = []) ∧ (chk n ps = 0 → ∃ m : Nat, n = m ∧ m ≤ 6 ∧ 1 ≤ m ∧ ps.length ≤ 20 ∧ Rel l m fun i j => j < m ∧ Rch ps i j)

theorem table_eq (n : Int) (ps : List (Int × Int)) : TQ n ps (order_Table n ps) := by
  unfold order_Table
  by_cases h1 : bad1 n ps
  · have : (((decide (n < (1 : Int))) || (decide (n > (6 : Int)))) || (decide ((ps.length : Int) > (20 : Int)))) = true := by
      unfold bad1 at h1
      simp only [Bool.or_eq_true, decide_eq_true_eq]; omega
    rw [this, cond_true]
    have hc : chk n ps = 1 := by unfold chk; rw [if_pos h1]
    exact ⟨[], by rw [hc], fun _ => rfl, fun h => by rw [hc] at h; cases h⟩
  have hb : (((decide (n < (1 : Int))) || (decide (n > (6 : Int)))) || (decide ((ps.length : Int) > (20 : Int)))) = false := by
    unfold bad1 at h1
    simp only [Bool.or_eq_false_iff, decide_eq_false_iff_not]; omega
  rw [hb, cond_false]
  have hn : 1 ≤ n ∧ n ≤ 6 ∧ ps.length ≤ 20 := by unfold bad1 at h1; omega
  obtain ⟨m, rfl⟩ : ∃ m : Nat, n = m := ⟨n.toNat, by omega⟩
  rw [decide_eq_true (by omega), cond_true]
  have hch : chk m ps = (open Classical in if bad2 m ps then 2 else if cyc m ps then 3 else 0) := by unfold chk; rw [if_neg h1]
  refine for0_q (fun t (l : List (BitVec 32)) => l.length = m ∧ ∀ i (h : i < l.length), i < t → l[i] = 1#32 <<< i) rfl _ ⟨by simp, fun i h hi => by omega⟩ (fun t l nx ht hI hnx => ?_) (fun l hI => ?_)
  · simp at ht
    unfold order_Table_b95
    rw [geti_at (by omega), Option.bind_some]
    refine hnx _ ⟨by simp [hI.1], fun i h hi => ?_⟩
    rw [set_at h]
    split
    · rename_i e; subst e; rfl
    · exact hI.2 i (by simpa using h) (by rename_i e; simp at e; omega)
  · unfold order_Table_k12
    have hI0 : ∀ i (h : i < l.length), l[i] = 1#32 <<< i := fun i h => hI.2 i h (by simpa [hI.1] using h)
    refine for0_q (fun t (l : List (BitVec 32)) => Rel l m (fun i j => (i = j ∧ j < m) ∨ ∃ k, k < t ∧ ps[k]? = some ((i : Int), (j : Int))) ∧ ∀ i (h : i < ps.length), i < t → 0 ≤ ps[i].1 ∧ ps[i].1 < m ∧ 0 ≤ ps[i].2 ∧ ps[i].2 < m) rfl _ ⟨⟨hI.1, fun i h j => ?_⟩, fun i h hi => by omega⟩ (fun t l nx ht hI hnx => ?_) (fun l hI => ?_)
    · rw [hI0 i h, one_shl]
      have := hI.1
      constructor
      · rintro ⟨h1, h2⟩; exact .inl ⟨h1.symm, by omega⟩
      · rintro (⟨h3, h2⟩ | ⟨k, hk, _⟩)
        · exact ⟨h3.symm, by omega⟩
        · omega
    · obtain ⟨hI, hP⟩ := hI
      unfold order_Table_b83
      rw [geti_at ht, Option.bind_some]
      by_cases hbad : ps[t].1 < 0 ∨ ps[t].1 ≥ (m : Int) ∨ ps[t].2 < 0 ∨ ps[t].2 ≥ (m : Int)
      · have : ((decide ((if ps[t].2 < ps[t].1 then ps[t].2 else ps[t].1) < (0 : Int))) || (decide ((if ps[t].2 > ps[t].1 then ps[t].2 else ps[t].1) ≥ (m : Int)))) = true := by
          simp only [Bool.or_eq_true, decide_eq_true_eq]
          split <;> split <;> omega
        rw [this, cond_true]
        have hc : chk m ps = 2 := by rw [hch, if_pos ⟨_, List.getElem_mem ht, hbad⟩]
        exact ⟨[], by rw [hc], fun _ => rfl, fun h => by rw [hc] at h; cases h⟩
      · have : ((decide ((if ps[t].2 < ps[t].1 then ps[t].2 else ps[t].1) < (0 : Int))) || (decide ((if ps[t].2 > ps[t].1 then ps[t].2 else ps[t].1) ≥ (m : Int)))) = false := by
          simp only [Bool.or_eq_false_iff, decide_eq_false_iff_not]
          split <;> split <;> omega
        rw [this, cond_false]
        have hl := hI.1
        rw [geti_int (by omega) (by omega), Option.bind_some, decide_eq_true (by omega), cond_true]
        refine hnx _ ⟨⟨by simp [hl], fun i h j => ?_⟩, fun i h hi => ?_⟩
        · have hi : i < l.length := by simpa using h
          rw [set_at h]
          have hstep : (∃ k, k < t + 1 ∧ ps[k]? = some ((i : Int), (j : Int))) ↔ (∃ k, k < t ∧ ps[k]? = some ((i : Int), (j : Int))) ∨ ps[t] = ((i : Int), (j : Int)) := by
            constructor
            · rintro ⟨k, hk, e⟩
              by_cases ek : k = t
              · subst ek; rw [List.getElem?_eq_getElem ht] at e; exact .inr (Option.some.inj e)
              · exact .inl ⟨k, by omega, e⟩
            · rintro (⟨k, hk, e⟩ | e)
              · exact ⟨k, by omega, e⟩
              · exact ⟨t, by omega, by rw [List.getElem?_eq_getElem ht, e]⟩
          dsimp only
          rw [hstep]
          split
          · rename_i e
            subst e
            rw [BitVec.getLsbD_or, Bool.or_eq_true, hI.2 _ hi j]
            have : (1#32 <<< ps[t].2.toNat).getLsbD j = true ↔ ps[t] = (((ps[t].1.toNat : Nat) : Int), (j : Int)) := by
              have hb3 : ¬ ps[t].1 < 0 ∧ ¬ ps[t].2 < 0 ∧ ps[t].2 < m := by omega
              have hm6 := hn.2.1
              rw [one_shl, Prod.ext_iff]
              simp only
              clear hstep this hI hP hI0 hnx hch hb h hi
              generalize ps[t].1 = A at hb3 ⊢
              generalize ps[t].2 = B at hb3 ⊢
              clear hbad
              omega
            rw [this]
            exact or_assoc
          · rename_i e
            rw [hI.2 i hi j]
            have : ¬ ps[t] = ((i : Int), (j : Int)) := fun e' => e (by rw [e']; simp)
            simp [this]
        · by_cases e : i = t
          · subst e; omega
          · exact hP i h (by omega)
    · obtain ⟨hI, hP⟩ := hI
      have hnb : ¬ bad2 m ps := by
        rintro ⟨p, hp, h⟩
        obtain ⟨i, hi, rfl⟩ := List.getElem_of_mem hp
        have := hP i hi hi
        omega
      have hps : ∀ p ∈ ps, 0 ≤ p.1 ∧ p.1 < (m : Int) ∧ 0 ≤ p.2 ∧ p.2 < (m : Int) := fun p hp => by
        obtain ⟨i, hi, rfl⟩ := List.getElem_of_mem hp
        exact hP i hi hi
      rw [if_neg hnb] at hch
      unfold order_Table_k22
      have hR0 : Rel l m (fun i j => j < m ∧ WK ps 0 i j) := ⟨hI.1, fun i h j => by
        rw [hI.2 i h j]
        have hl := hI.1
        constructor
        · rintro (⟨rfl, h2⟩ | ⟨k, hk, e⟩)
          · exact ⟨h2, .inl rfl⟩
          · have hm := List.mem_of_getElem? e
            have := hps _ hm
            exact ⟨by simp at this; omega, .inr hm⟩
        · rintro ⟨h1, rfl | h2⟩
          · exact .inl ⟨rfl, h1⟩
          · obtain ⟨k, hk, e⟩ := List.getElem_of_mem h2
            exact .inr ⟨k, hk, by rw [List.getElem?_eq_getElem hk, e]⟩⟩
      refine for0_q (fun t (l : List (BitVec 32)) => Rel l m (fun i j => j < m ∧ WK ps t i j)) rfl _ hR0 (fun t l' nx ht hI' hnx => ?_) (fun l' hI' => ?_)
      · have htm : t < m := by have := hI.1; omega
        unfold order_Table_b57
        have hl' := hI'.1
        refine for0_q (fun s (l2 : List (BitVec 32)) => Rel l2 m (fun i j => j < m ∧ if i < s then WK ps (t + 1) i j else WK ps t i j)) (n := m) (by omega) _ ⟨hI'.1, fun i h j => by simpa using hI'.2 i h j⟩ (fun s l2 nx' hs hI2 hnx' => ?_) (fun l2 hI2 => ?_)
        · have hl2 := hI2.1
          unfold order_Table_b72
          have hs2 : s < l2.length := by omega
          have ht2 : t < l2.length := by omega
          rw [geti_at hs2, Option.bind_some]
          simp only [Int.toNat_natCast]
          rw [bit_shr]
          have hst : l2[s].getLsbD t = true ↔ WK ps t s t := by
            rw [hI2.2 s hs2 t]; simp [htm]
          have hrow : ∀ j, l2[t].getLsbD j = true ↔ j < m ∧ WK ps t t j := by
            intro j
            rw [hI2.2 t ht2 j]
            dsimp only
            split
            · have : WK ps (t + 1) t j ↔ WK ps t t j := ⟨fun h => h.elim id (fun h => h.2), .inl⟩
              rw [this]
            · rfl
          cases hbt : l2[s].getLsbD t with
          | true =>
            rw [cond_true, geti_at ht2, Option.bind_some]
            simp only [Option.bind_some]
            refine hnx' _ ⟨by simp [hl2], fun i h j => ?_⟩
            have hi : i < l2.length := by simpa using h
            rw [set_at h]
            have hw := hst.1 hbt
            split
            · rename_i e
              subst e
              rw [BitVec.getLsbD_or, Bool.or_eq_true, hI2.2 _ hs2 j, hrow j]
              simp
              constructor
              · rintro (⟨a, b⟩ | ⟨a, b⟩)
                · exact ⟨a, .inl b⟩
                · exact ⟨a, .inr ⟨hw, b⟩⟩
              · rintro ⟨a, b | b⟩
                · exact .inl ⟨a, b⟩
                · exact .inr ⟨a, b.2⟩
            · rename_i e
              rw [hI2.2 i hi j]
              dsimp only
              by_cases hlt : i < s
              · rw [if_pos hlt, if_pos (by omega)]
              · rw [if_neg hlt, if_neg (by omega)]
          | false =>
            rw [cond_false]
            refine hnx' _ ⟨hl2, fun i hi j => ?_⟩
            rw [hI2.2 i hi j]
            dsimp only
            by_cases e : i = s
            · subst e
              simp
              intro _
              have hw : ¬ WK ps t i t := fun h => by rw [hst.2 h] at hbt; cases hbt
              exact ⟨.inl, fun h => h.elim id fun h => absurd h.1 hw⟩
            · by_cases hlt : i < s
              · rw [if_pos hlt, if_pos (by omega)]
              · rw [if_neg hlt, if_neg (by omega)]
        · unfold order_Table_k68
          refine hnx _ ⟨hI2.1, fun i hi j => ?_⟩
          rw [hI2.2 i hi j]
          dsimp only
          rw [if_pos (by have := hI2.1; omega)]
      · unfold order_Table_k32
        have hl' := hI'.1
        have hR : Rel l' m (fun i j => j < m ∧ Rch ps i j) := ⟨hl', fun i h j => by
          rw [hI'.2 i h j, hI.1]
          refine and_congr_right fun hj => ⟨WK.rch ps, fun hr => ?_⟩
          obtain ⟨j', e, hw⟩ := WK.of_rch ps hps hr
          have : j = j' := by omega
          subst this; exact hw⟩
        refine for0_q (fun i _ => ∀ i' j' : Nat, j' < i' → i' < i → ¬ (Rch ps i' j' ∧ Rch ps j' i')) (n := m) (by omega) () (fun i j h hi => by omega) (fun i s nx hi hJ hnx => ?_) (fun s hJ => ?_)
        · unfold order_Table_b40
          rw [decide_eq_true (by omega), cond_true]
          refine for0_q (fun j _ => ∀ j' : Nat, j' < j → ¬ (Rch ps i j' ∧ Rch ps j' i)) rfl () (fun j hj => by omega) (fun j s' nx' hj hJ' hnx' => ?_) (fun s' hJ' => ?_)
          · unfold order_Table_b49
            have hi2 : i < l'.length := by omega
            have hj2 : j < l'.length := by omega
            rw [geti_at hi2, Option.bind_some, geti_at hj2]
            simp only [Option.isSome_some, Bool.or_true, cond_true, Option.getD_some, Int.toNat_natCast, bit_shr]
            by_cases hb2 : Rch ps i j ∧ Rch ps j i
            · rw [(hR.2 i hi2 j).2 ⟨by omega, hb2.1⟩, (hR.2 j hj2 i).2 ⟨hi, hb2.2⟩]
              have hc : chk m ps = 3 := by rw [hch, if_pos ⟨i, j, hj, by omega, hb2⟩]
              exact ⟨[], by rw [hc]; rfl, fun _ => rfl, fun h => by rw [hc] at h; cases h⟩
            · have : (l'[i].getLsbD j && l'[j].getLsbD i) = false := by
                rw [Bool.and_eq_false_iff]
                cases h1 : l'[i].getLsbD j with
                | false => simp
                | true =>
                  cases h2' : l'[j].getLsbD i with
                  | false => simp
                  | true => exact absurd ⟨((hR.2 i hi2 j).1 h1).2, ((hR.2 j hj2 i).1 h2').2⟩ hb2
              rw [this, cond_false]
              refine hnx' () fun j' hj' => ?_
              by_cases e : j' = j
              · subst e; exact hb2
              · exact hJ' j' (by omega)
          · unfold order_Table_k45
            refine hnx () fun i' j' h1 h2 => ?_
            by_cases e : i' = i
            · subst e; exact hJ' j' h1
            · exact hJ i' j' h1 (by omega)
        · unfold order_Table_k36
          have hnc : ¬ cyc m ps := by
            rintro ⟨i, j, hji, hin, hr⟩
            exact hJ i j hji (by omega) hr
          rw [if_neg hnc] at hch
          exact ⟨l', by rw [hch], fun h => absurd hch h, fun _ => ⟨m, rfl, by omega, by omega, hn.2.2, hR⟩⟩

end Go.Proofs.Ytgnaigfgeofmmaa.Sy
