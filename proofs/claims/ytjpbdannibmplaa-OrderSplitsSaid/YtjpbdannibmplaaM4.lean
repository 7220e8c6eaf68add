/- Dilworth: as many lists as the greatest set apart has things; the plain law; no program in sight. -/
import Derived.Test.YtjpbdannibmplaaM2
import Derived.Test.YtjpbdannibmplaaSyR
namespace Go.Proofs.Ytjpbdannibmplaa.Sy
set_option linter.unusedVariables false

theorem nodup_len' {α : Type} [DecidableEq α] : ∀ {l t : List α}, l.Nodup → (∀ x ∈ l, x ∈ t) → l.length ≤ t.length
  | [], t, _, _ => by simp
  | a :: l, t, hd, hs => by
    rw [List.nodup_cons] at hd
    have ha : a ∈ t := hs a (by simp)
    have := nodup_len' (t := t.erase a) hd.2 fun x hx => by
      have hne : x ≠ a := fun e => hd.1 (e ▸ hx)
      exact (List.mem_erase_of_ne hne).2 (hs x (by simp [hx]))
    rw [List.length_erase_of_mem ha] at this
    have hp := List.length_pos_of_mem ha
    simp; omega
theorem cnt_range (n : Nat) (p : Nat → Bool) : ((List.range n).filter p).length = cntN n p := by
  induction n with
  | zero => rfl
  | succ n ih =>
    rw [List.range_succ, List.filter_append, List.length_append, ih, cntN]
    cases h : p n <;> simp [h]
theorem cnt_not (n : Nat) (p : Nat → Bool) : cntN n p + cntN n (fun j => !p j) = n := by
  induction n with
  | zero => rfl
  | succ n ih =>
    rw [cntN, cntN]
    cases h : p n <;> simp only [cond_true, cond_false, Bool.not_true, Bool.not_false] <;> omega
theorem cnt_none {n : Nat} {p : Nat → Bool} (h : ∀ j, j < n → p j = false) : cntN n p = 0 := by
  induction n with
  | zero => rfl
  | succ n ih => rw [cntN, h n (by omega), cond_false, ih fun j hj => h j (by omega)]
theorem cnt32 {m : Nat} (hm : m ≤ 32) {p : Nat → Bool} (h : ∀ j, p j = true → j < m) : cntN 32 p = cntN m p := by
  have := cntN_add (a := m) (p := p) (32 - m)
  rw [show m + (32 - m) = 32 by omega] at this
  have h0 : cntN (32 - m) (fun j => p (m + j)) = 0 := cnt_none fun j _ => by
    cases e : p (m + j) with
    | true => have := h _ e; omega
    | false => rfl
  omega

/-! ### Who goes on to whom -/
noncomputable def EE (m : Nat) (ps : List (Int × Int)) (i j : Nat) : Bool := (decide (j < m) && !(j == i)) && rr ps i j
theorem EE_iff {m : Nat} {ps : List (Int × Int)} {i j : Nat} : EE m ps i j = true ↔ (j < m ∧ j ≠ i) ∧ rr ps i j = true := by
  unfold EE; simp
abbrev la (l : List Int) (j : Nat) : Int := l[j]?.getD (-1)
theorem la_set {l : List Int} {j : Nat} {x : Int} (hj : j < l.length) (k : Nat) : la (l.set j x) k = if k = j then x else la l k := by
  unfold la
  rw [List.getElem?_set]
  by_cases e : k = j
  · subst e; simp [hj]
  · rw [if_neg (fun h => e h.symm), if_neg e]
structure MI (m : Nat) (E : Nat → Nat → Bool) (l : List Int) : Prop where
  len : l.length = m
  ed : ∀ j, j < m → la l j = -1 ∨ ∃ i : Nat, i < m ∧ la l j = i ∧ E i j = true
def Inj1 (m : Nat) (S : Nat → Bool) (l : List Int) : Prop := ∀ j k, j < m → k < m → S j = false → S k = false → la l j = la l k → 0 ≤ la l j → j = k
def DeadS (m : Nat) (E : Nat → Nat → Bool) (l : List Int) (Z : Nat → Bool) : Prop := ∀ j, Z j = true → j < m ∧ 0 ≤ la l j ∧ ∀ k, E (la l j).toNat k = true → Z k = true
structure PT (m : Nat) (E : Nat → Nat → Bool) (S : Nat → Bool) (l : List Int) (i : Nat) (l' : List Int) : Prop where
  mi : MI m E l'
  keep : ∀ k, k < m → S k = true → la l' k = la l k
  c : ∀ k, k < m → S k = false → 0 ≤ la l' k → la l' k = i ∨ ∃ k2, k2 < m ∧ S k2 = false ∧ la l k2 = la l' k
  d : ∀ k2, k2 < m → S k2 = false → 0 ≤ la l k2 → ∃ k, k < m ∧ S k = false ∧ la l' k = la l k2
  e : ∃ k, k < m ∧ S k = false ∧ la l' k = i
  f : Inj1 m S l'
  g : ∀ Z, DeadS m E l Z → (∀ j, Z j = true → la l' j = la l j) ∧ ∃ j, E i j = true ∧ Z j = false
structure PF (m : Nat) (E : Nat → Nat → Bool) (S : Nat → Bool) (l : List Int) (i : Nat) (C : Nat → Bool) : Prop where
  sub : ∀ k, S k = true → C k = true
  dead : ∀ j, j < m → C j = true → S j = false → 0 ≤ la l j ∧ ∀ k, E (la l j).toNat k = true → C k = true
  nb : ∀ k, E i k = true → C k = true

theorem PT.weak {m : Nat} {E : Nat → Nat → Bool} {S C : Nat → Bool} {l l' : List Int} {i : Nat} (h : PT m E C l i l') (hs : ∀ k, S k = true → C k = true) (hI : Inj1 m S l) (hn : ∀ k, k < m → S k = false → la l k ≠ i) : PT m E S l i l' where
  mi := h.mi
  keep k hk hS := h.keep k hk (hs k hS)
  c k hk hS h0 := by
    cases hC : C k with
    | true => exact .inr ⟨k, hk, hS, (h.keep k hk hC).symm⟩
    | false =>
      rcases h.c k hk hC h0 with e | ⟨k2, h1, h2, h3⟩
      · exact .inl e
      · refine .inr ⟨k2, h1, ?_, h3⟩
        cases e : S k2 with
        | true => rw [hs k2 e] at h2; cases h2
        | false => rfl
  d k2 hk hS h0 := by
    cases hC : C k2 with
    | true => exact ⟨k2, hk, hS, h.keep k2 hk hC⟩
    | false =>
      obtain ⟨k, h1, h2, h3⟩ := h.d k2 hk hC h0
      refine ⟨k, h1, ?_, h3⟩
      cases e : S k with
      | true => rw [hs k e] at h2; cases h2
      | false => rfl
  e := by
    obtain ⟨k, h1, h2, h3⟩ := h.e
    refine ⟨k, h1, ?_, h3⟩
    cases e : S k with
    | true => rw [hs k e] at h2; cases h2
    | false => rfl
  f := by
    have key : ∀ a b, a < m → b < m → S a = false → S b = false → C a = true → C b = false → la l' a = la l' b → 0 ≤ la l' a → False := by
      intro a b ha hb hSa hSb hCa hCb he h0
      have ka := h.keep a ha hCa
      rcases h.c b hb hCb (he ▸ h0) with e | ⟨k2, h1, h2, h3⟩
      · exact hn a ha hSa (by rw [← ka, he, e])
      · have hS2 : S k2 = false := by
          cases e : S k2 with
          | true => rw [hs k2 e] at h2; cases h2
          | false => rfl
        have := hI a k2 ha h1 hSa hS2 (by rw [← ka, he, h3]) (by rw [← ka]; exact h0)
        subst this
        rw [hCa] at h2; cases h2
    intro a b ha hb hSa hSb he h0
    cases hCa : C a with
    | true =>
      cases hCb : C b with
      | true => exact hI a b ha hb hSa hSb (by rw [← h.keep a ha hCa, ← h.keep b hb hCb, he]) (by rw [← h.keep a ha hCa]; exact h0)
      | false => exact (key a b ha hb hSa hSb hCa hCb he h0).elim
    | false =>
      cases hCb : C b with
      | true => exact (key b a hb ha hSb hSa hCb hCa he.symm (he ▸ h0)).elim
      | false => exact h.f a b ha hb hCa hCb he h0
  g := h.g

theorem step_free {m : Nat} {E : Nat → Nat → Bool} {C : Nat → Bool} {l : List Int} {i j : Nat} (hM : MI m E l) (hi : i < m) (hj : j < m) (hE : E i j = true) (hC : C j = false) (hl : la l j < 0) (hI : Inj1 m C l) (hn : ∀ k, k < m → C k = false → la l k ≠ i) : PT m E C l i (l.set j i) := by
  have hs := la_set (l := l) (j := j) (x := (i : Int)) (by rw [hM.len]; exact hj)
  constructor
  · refine ⟨by rw [List.length_set, hM.len], fun k hk => ?_⟩
    rw [hs k]
    by_cases e : k = j
    · rw [if_pos e]; exact .inr ⟨i, hi, rfl, e ▸ hE⟩
    · rw [if_neg e]; exact hM.ed k hk
  · intro k hk hS
    rw [hs k, if_neg]
    intro e; subst e; rw [hS] at hC; cases hC
  · intro k hk hS h0
    rw [hs k]
    by_cases e : k = j
    · rw [if_pos e]; exact .inl rfl
    · rw [if_neg e]; exact .inr ⟨k, hk, hS, rfl⟩
  · intro k hk hS h0
    refine ⟨k, hk, hS, ?_⟩
    rw [hs k, if_neg]
    intro e; subst e; omega
  · exact ⟨j, hj, hC, by rw [hs j, if_pos rfl]⟩
  · intro a b ha hb hSa hSb he h0
    rw [hs a, hs b] at he
    rw [hs a] at h0
    by_cases ea : a = j
    · by_cases eb : b = j
      · rw [ea, eb]
      · rw [if_pos ea, if_neg eb] at he
        exact absurd he.symm (hn b hb hSb)
    · by_cases eb : b = j
      · rw [if_neg ea, if_pos eb] at he
        exact absurd he (hn a ha hSa)
      · rw [if_neg ea, if_neg eb] at he
        rw [if_neg ea] at h0
        exact hI a b ha hb hSa hSb he h0
  · intro Z hZ
    have hZj : Z j = false := by
      cases e : Z j with
      | true => have := (hZ j e).2.1; omega
      | false => rfl
    refine ⟨fun k hk => ?_, j, hE, hZj⟩
    rw [hs k, if_neg]
    intro e; subst e; rw [hk] at hZj; cases hZj

theorem step_rec {m : Nat} {E : Nat → Nat → Bool} {C : Nat → Bool} {l l' : List Int} {i i' j : Nat} (h : PT m E (fun k => C k || (k == j)) l i' l') (hl : la l j = i') (hi : i < m) (hj : j < m) (hE : E i j = true) (hC : C j = false) (hI : Inj1 m C l) (hn : ∀ k, k < m → C k = false → la l k ≠ i) : PT m E C l i (l'.set j i) := by
  have hs := la_set (l := l') (j := j) (x := (i : Int)) (by rw [h.mi.len]; exact hj)
  have hS1 : ∀ {k}, C k = false → k ≠ j → (C k || (k == j)) = false := fun {k} h1 h2 => by simp [h1, h2]
  have hS2 : ∀ {k}, (C k || (k == j)) = false → C k = false ∧ k ≠ j := fun {k} h1 => by simpa using h1
  constructor
  · refine ⟨by rw [List.length_set, h.mi.len], fun k hk => ?_⟩
    rw [hs k]
    by_cases e : k = j
    · rw [if_pos e]; exact .inr ⟨i, hi, rfl, e ▸ hE⟩
    · rw [if_neg e]; exact h.mi.ed k hk
  · intro k hk hS
    rw [hs k, if_neg]
    · exact h.keep k hk (by simp [hS])
    · intro e; subst e; rw [hS] at hC; cases hC
  · intro k hk hS h0
    rw [hs k] at h0 ⊢
    by_cases e : k = j
    · rw [if_pos e]; exact .inl rfl
    · rw [if_neg e] at h0 ⊢
      rcases h.c k hk (hS1 hS e) h0 with h1 | ⟨k2, h1, h2, h3⟩
      · exact .inr ⟨j, hj, hC, by rw [hl, h1]⟩
      · exact .inr ⟨k2, h1, (hS2 h2).1, h3⟩
  · intro k2 hk hS h0
    by_cases e : k2 = j
    · obtain ⟨k, h1, h2, h3⟩ := h.e
      refine ⟨k, h1, (hS2 h2).1, ?_⟩
      rw [hs k, if_neg (hS2 h2).2, h3, e, hl]
    · obtain ⟨k, h1, h2, h3⟩ := h.d k2 hk (hS1 hS e) h0
      exact ⟨k, h1, (hS2 h2).1, by rw [hs k, if_neg (hS2 h2).2, h3]⟩
  · exact ⟨j, hj, hC, by rw [hs j, if_pos rfl]⟩
  · have key : ∀ b, b < m → C b = false → b ≠ j → la l' b = i → False := by
      intro b hb hSb e he
      rcases h.c b hb (hS1 hSb e) (by rw [he]; omega) with h1 | ⟨k2, h1, h2, h3⟩
      · exact hn j hj hC (by rw [hl, ← h1, he])
      · exact hn k2 h1 (hS2 h2).1 (by rw [h3, he])
    intro a b ha hb hSa hSb he h0
    rw [hs a, hs b] at he
    rw [hs a] at h0
    by_cases ea : a = j
    · by_cases eb : b = j
      · rw [ea, eb]
      · rw [if_pos ea, if_neg eb] at he
        exact (key b hb hSb eb he.symm).elim
    · by_cases eb : b = j
      · rw [if_neg ea, if_pos eb] at he
        exact (key a ha hSa ea he).elim
      · rw [if_neg ea, if_neg eb] at he
        rw [if_neg ea] at h0
        exact h.f a b ha hb (hS1 hSa ea) (hS1 hSb eb) he h0
  · intro Z hZ
    obtain ⟨h1, j0, h2, h3⟩ := h.g Z hZ
    have hZj : Z j = false := by
      cases e : Z j with
      | true =>
        have := (hZ j e).2.2 j0 (by rw [hl]; exact h2)
        rw [h3] at this; cases this
      | false => rfl
    refine ⟨fun k hk => ?_, j, hE, hZj⟩
    rw [hs k, if_neg]
    · exact h1 k hk
    · intro e; subst e; rw [hk] at hZj; cases hZj

theorem orb {C : BitVec 32} {t : Nat} (ht : t < 32) (k : Nat) : (C ||| 1#32 <<< t).getLsbD k = (C.getLsbD k || (k == t)) := by
  rw [BitVec.getLsbD_or]
  congr 1
  rw [Bool.eq_iff_iff, one_shl, beq_iff_eq]
  exact ⟨fun h => h.1, fun h => ⟨h, by omega⟩⟩

theorem find_ok {n : Int} {ps : List (Int × Int)} {up : List (BitVec 32)} {m : Nat} (h : OO n ps up m) : ∀ (fuel : Nat) (l : List Int) (c : BitVec 32) (i : Nat), i < m → cntN m (fun j => !c.getLsbD j) < fuel → MI m (EE m ps) l → Inj1 m c.getLsbD l → (∀ k, k < m → c.getLsbD k = false → la l k ≠ i) →
    ∃ r l' c', order_match_find fuel ({ up := up, last := l, seen := c } : T64) i = some (r, ({ up := up, last := l', seen := c' } : T64)) ∧ (r = true → PT m (EE m ps) c.getLsbD l i l') ∧ (r = false → l' = l ∧ PF m (EE m ps) c.getLsbD l i c'.getLsbD) := by
  have m6 := h.m6
  intro fuel
  induction fuel with
  | zero => intro l c i hi hlt; omega
  | succ fuel ih =>
  intro l c i hi hlt hM hI hni
  show ∃ r l' c', order_match_find_s (order_match_find fuel) ({ up := up, last := l, seen := c } : T64) i = some (r, ({ up := up, last := l', seen := c' } : T64)) ∧ (r = true → PT m (EE m ps) c.getLsbD l i l') ∧ (r = false → l' = l ∧ PF m (EE m ps) c.getLsbD l i c'.getLsbD)
  unfold order_match_find_s
  refine for0_q (n := m) (Q := fun o => ∃ r l' c', o = some (r, ({ up := up, last := l', seen := c' } : T64)) ∧ (r = true → PT m (EE m ps) c.getLsbD l i l') ∧ (r = false → l' = l ∧ PF m (EE m ps) c.getLsbD l i c'.getLsbD))
    (fun t (s : BitVec 32 × List (BitVec 32) × List Int) => s.2.1 = up ∧ s.2.2 = l ∧ (∀ k, c.getLsbD k = true → s.1.getLsbD k = true) ∧ (∀ j, j < m → s.1.getLsbD j = true → c.getLsbD j = false → 0 ≤ la l j ∧ ∀ k, EE m ps (la l j).toNat k = true → s.1.getLsbD k = true) ∧ ∀ k, k < t → EE m ps i k = true → s.1.getLsbD k = true)
    (by rw [h.len]) (c, up, l) ⟨rfl, rfl, fun _ h => h, fun j _ h1 h2 => absurd (h1.symm.trans h2) (by decide), fun k hk => by omega⟩ (fun t s nx ht hI' hn => ?_) (fun s hI' => ?_)
  · obtain ⟨C, u, l1⟩ := s
    obtain ⟨e1, e2, hsub, hdead, hnb⟩ := hI'
    simp only at e1 e2 hsub hdead hnb ⊢
    subst e1; subst e2
    unfold order_match_find_b22
    have hg : geti u (i : Int) = some (ub u i) := geti_d _ (by rw [h.len]; exact hi)
    rw [hg]
    simp only [Option.isSome_some, Bool.or_true, cond_true, Option.getD_some, Int.toNat_natCast, bit_shr, bit_shr1]
    have hbit := h.bit i t hi
    by_cases hc : ((((t : Int) == (i : Int)) || !(ub u i).getLsbD t) || C.getLsbD t) = true
    · rw [hc, cond_true]
      refine hn _ ⟨rfl, rfl, hsub, hdead, fun k hk hE => ?_⟩
      by_cases e : k = t
      · subst e
        have hE' := EE_iff.1 hE
        rw [hbit, decide_eq_true ht, hE'.2, eq_cast, beq_eq_false_iff_ne.2 hE'.1.2] at hc
        simpa using hc
      · exact hnb k (by omega) hE
    · rw [Bool.not_eq_true] at hc
      rw [hc, cond_false]
      rw [Bool.or_eq_false_iff, Bool.or_eq_false_iff, eq_cast, beq_eq_false_iff_ne, hbit, decide_eq_true ht, Bool.true_and, Bool.not_eq_false'] at hc
      obtain ⟨⟨hne, hr⟩, hCt⟩ := hc
      have hE : EE m ps i t = true := EE_iff.2 ⟨⟨ht, hne⟩, hr⟩
      have hct : c.getLsbD t = false := by
        cases e : c.getLsbD t with
        | true => rw [hsub t e] at hCt; cases hCt
        | false => rfl
      have hsub' : ∀ {k}, C.getLsbD k = false → c.getLsbD k = false := fun {k} hk => by
        cases e : c.getLsbD k with
        | true => rw [hsub k e] at hk; cases hk
        | false => rfl
      have hIC : Inj1 m C.getLsbD l1 := fun a b ha hb h1 h2 => hI a b ha hb (hsub' h1) (hsub' h2)
      have hnC : ∀ k, k < m → C.getLsbD k = false → la l1 k ≠ i := fun k hk h1 => hni k hk (hsub' h1)
      have hgl : geti l1 (t : Int) = some (la l1 t) := geti_d (-1) (by rw [hM.len]; exact ht)
      rw [hgl, Option.bind_some]
      by_cases h0 : la l1 t < 0
      · simp only [decide_eq_true h0, Bool.true_or, cond_true, Option.bind_some]
        exact ⟨true, _, _, rfl, fun _ => (step_free hM hi ht hE hCt h0 hIC hnC).weak hsub hI hni, fun h => absurd h (by decide)⟩
      · rcases hM.ed t ht with e | ⟨i', hi', e, hE'⟩
        · omega
        have hbits : (C ||| 1#32 <<< t).getLsbD = fun k => C.getLsbD k || (k == t) := funext fun k => orb (by omega) k
        have hcn : cntN m (fun j => !(C ||| 1#32 <<< t).getLsbD j) < cntN m (fun j => !c.getLsbD j) := by
          refine cntN_lt (i := t) (fun j hj hp => ?_) ht ?_ ?_
          · rw [hbits] at hp
            simp only [Bool.not_eq_true', Bool.or_eq_false_iff] at hp ⊢
            exact hsub' hp.1
          · rw [hbits]; simp
          · simp [hct]
        obtain ⟨r, l2, c2, er, hT, hF⟩ := ih l1 (C ||| 1#32 <<< t) i' hi' (by omega) hM
          (fun a b ha hb h1 h2 => by
            rw [hbits] at h1 h2
            simp only [Bool.or_eq_false_iff] at h1 h2
            exact hIC a b ha hb h1.1 h2.1)
          (fun k hk h1 h2 => by
            rw [hbits] at h1
            simp only [Bool.or_eq_false_iff, beq_eq_false_iff_ne] at h1
            exact h1.2 (hIC k t hk ht h1.1 hCt (by rw [h2, e]) (by rw [h2]; omega)))
        rw [hbits] at hT hF
        simp only [decide_eq_false h0, Bool.false_or, beq_self_eq_true, cond_true]
        rw [e, er, Option.bind_some]
        cases r with
        | false =>
          obtain ⟨rfl, hP⟩ := hF rfl
          simp only [cond_false]
          refine hn _ ⟨rfl, rfl, fun k hk => hP.sub k (by simp [hsub k hk]), fun j hj h1 h2 => ?_, fun k hk hk' => ?_⟩
          · cases hCj : C.getLsbD j with
            | true =>
              obtain ⟨q1, q2⟩ := hdead j hj hCj h2
              exact ⟨q1, fun k hk => hP.sub k (by simp [q2 k hk])⟩
            | false =>
              by_cases ej : j = t
              · subst ej
                refine ⟨by omega, fun k hk => hP.nb k ?_⟩
                rw [e] at hk; exact hk
              · exact hP.dead j hj h1 (by simp [hCj, ej])
          · by_cases ek : k = t
            · exact hP.sub k (by simp [ek])
            · exact hP.sub k (by simp [hnb k (by omega) hk'])
        | true =>
          have hP := hT rfl
          simp only [cond_true]
          have hgl2 : geti l2 (t : Int) = some (la l2 t) := geti_d (-1) (by rw [hP.mi.len]; exact ht)
          rw [hgl2, Option.bind_some]
          exact ⟨true, _, _, rfl, fun _ => (step_rec hP e hi ht hE hCt hIC hnC).weak hsub hI hni, fun h => absurd h (by decide)⟩
  · obtain ⟨C, u, l1⟩ := s
    obtain ⟨e1, e2, hsub, hdead, hnb⟩ := hI'
    simp only at e1 e2 hsub hdead hnb ⊢
    subst e1; subst e2
    unfold order_match_find_k18
    exact ⟨false, _, _, rfl, fun h => absurd h (by decide), fun _ => ⟨rfl, hsub, hdead, fun k hk => hnb k (EE_iff.1 hk).1.1 hk⟩⟩

/-! ### As many as can be go on -/
structure TI (m : Nat) (E : Nat → Nat → Bool) (t : Nat) (l : List Int) : Prop where
  mi : MI m E l
  inj : ∀ j k, j < m → k < m → la l j = la l k → 0 ≤ la l j → j = k
  low : ∀ k, k < m → la l k < t
  z : ∃ Z, DeadS m E l Z ∧ ∀ i : Nat, i < t → (∃ k, k < m ∧ la l k = i) ∨ ∀ j, E i j = true → Z j = true

theorem TI.step {n : Int} {ps : List (Int × Int)} {up : List (BitVec 32)} {m : Nat} (h : OO n ps up m) {t fuel : Nat} {l : List Int} (ht : t < m) (hf : 10 < fuel) (hT : TI m (EE m ps) t l) :
    ∃ r l' c', order_match_find fuel ({ up := up, last := l, seen := 0#32 } : T64) t = some (r, ({ up := up, last := l', seen := c' } : T64)) ∧ TI m (EE m ps) (t + 1) l' := by
  have m6 := h.m6
  have hz : (0#32 : BitVec 32).getLsbD = fun _ => false := funext fun k => by simp
  obtain ⟨r, l', c', e, h1, h2⟩ := find_ok h fuel l 0#32 t ht (by have := cntN_le (n := m) (p := fun j => !(0#32 : BitVec 32).getLsbD j); omega) hT.mi (fun a b ha hb _ _ => hT.inj a b ha hb) (fun k hk _ e => by have := hT.low k hk; omega)
  refine ⟨r, l', c', e, ?_⟩
  rw [hz] at h1 h2
  obtain ⟨Z, hZ, hZ'⟩ := hT.z
  cases r with
  | true =>
    have hP := h1 rfl
    obtain ⟨g1, g2⟩ := hP.g Z hZ
    refine ⟨hP.mi, fun j k hj hk e h0 => hP.f j k hj hk rfl rfl e h0, fun k hk => ?_, Z, fun j hj => ?_, fun i hi => ?_⟩
    · by_cases h0 : 0 ≤ la l' k
      · rcases hP.c k hk rfl h0 with e | ⟨k2, q1, _, q2⟩
        · omega
        · have := hT.low k2 q1; omega
      · omega
    · obtain ⟨q1, q2, q3⟩ := hZ j hj
      rw [g1 j hj]
      exact ⟨q1, q2, q3⟩
    · by_cases ei : i = t
      · subst ei
        obtain ⟨k, q1, _, q2⟩ := hP.e
        exact .inl ⟨k, q1, q2⟩
      · rcases hZ' i (by omega) with ⟨k, q1, q2⟩ | q
        · obtain ⟨k', q3, _, q4⟩ := hP.d k q1 rfl (by omega)
          exact .inl ⟨k', q3, by rw [q4, q2]⟩
        · exact .inr q
  | false =>
    obtain ⟨rfl, hP⟩ := h2 rfl
    refine ⟨hT.mi, hT.inj, fun k hk => by have := hT.low k hk; omega, fun j => Z j || (decide (j < m) && c'.getLsbD j), fun j hj => ?_, fun i hi => ?_⟩
    · simp only [Bool.or_eq_true, Bool.and_eq_true, decide_eq_true_eq] at hj ⊢
      rcases hj with hj | ⟨q1, q2⟩
      · obtain ⟨q1, q2, q3⟩ := hZ j hj
        exact ⟨q1, q2, fun k hk => .inl (q3 k hk)⟩
      · obtain ⟨q3, q4⟩ := hP.dead j q1 q2 rfl
        exact ⟨q1, q3, fun k hk => .inr ⟨(EE_iff.1 hk).1.1, q4 k hk⟩⟩
    · by_cases ei : i = t
      · subst ei
        refine .inr fun j hj => ?_
        simp [hP.nb j hj, (EE_iff.1 hj).1.1]
      · rcases hZ' i (by omega) with q | q
        · exact .inl q
        · exact .inr fun j hj => by simp [q j hj]

/-- A set apart that is large enough. -/
theorem TI.apart {m : Nat} {ps : List (Int × Int)} {l : List Int} (hT : TI m (EE m ps) m l) : ∃ A : Nat → Bool, (∀ a b, a < m → b < m → A a = true → A b = true → rr ps a b = true → a = b) ∧ cntN m (fun j => decide (la l j < 0)) ≤ cntN m A := by
  obtain ⟨Z, hZ, hZ'⟩ := hT.z
  refine ⟨fun i => tru (Z i = false ∧ ((∀ k, k < m → la l k ≠ i) ∨ ∃ j, Z j = true ∧ la l j = i)), fun a b ha hb hA hB hr => ?_, ?_⟩
  · have hA := tru_iff.1 hA
    have hB := tru_iff.1 hB
    apply Classical.byContradiction
    intro hne
    have hE : EE m ps a b = true := EE_iff.2 ⟨⟨hb, fun e => hne e.symm⟩, hr⟩
    have : Z b = true := by
      rcases hA.2 with h1 | ⟨j, h1, h2⟩
      · rcases hZ' a ha with ⟨k, q1, q2⟩ | q
        · exact absurd q2 (h1 k q1)
        · exact q b hE
      · have := (hZ j h1).2.2 b
        rw [h2] at this
        exact this hE
    rw [hB.1] at this; cases this
  · have hl := nodup_len' (l := List.range m) (t := (List.range m).filter (fun i => tru (Z i = false ∧ ((∀ k, k < m → la l k ≠ i) ∨ ∃ j, Z j = true ∧ la l j = i))) ++ ((List.range m).filter (fun j => !decide (la l j < 0))).map (fun j => if Z j = true then j else (la l j).toNat)) List.nodup_range (fun i hi => by
      have him : i < m := List.mem_range.1 hi
      rw [List.mem_append]
      by_cases hA : Z i = false ∧ ((∀ k, k < m → la l k ≠ i) ∨ ∃ j, Z j = true ∧ la l j = i)
      · exact .inl (List.mem_filter.2 ⟨hi, tru_iff.2 hA⟩)
      · refine .inr (List.mem_map.2 ?_)
        cases hZi : Z i with
        | true =>
          refine ⟨i, List.mem_filter.2 ⟨hi, ?_⟩, by rw [if_pos hZi]⟩
          have := (hZ i hZi).2.1
          simp; omega
        | false =>
          have h2 : ∃ k, k < m ∧ la l k = i := by
            apply Classical.byContradiction
            intro hno
            exact hA ⟨hZi, .inl fun k hk e => hno ⟨k, hk, e⟩⟩
          obtain ⟨k, hk, e⟩ := h2
          refine ⟨k, List.mem_filter.2 ⟨List.mem_range.2 hk, by simp; omega⟩, ?_⟩
          rw [if_neg, e]
          · simp
          · intro hZk
            exact hA ⟨hZi, .inr ⟨k, hZk, e⟩⟩)
    rw [List.length_range, List.length_append, List.length_map, cnt_range, cnt_range] at hl
    have := cnt_not m (fun j => decide (la l j < 0))
    omega

/-! ### The lists -/
def IX (m : Nat) (l : List Int) (z : Nat) (k : Int) : Prop := (k = -1 ∧ ∀ b, b < m → la l b ≠ z) ∨ ∃ y : Nat, y < m ∧ k = y ∧ la l y = z
theorem index_ok {m : Nat} {l : List Int} (hl : l.length = m) (z : Nat) : ∃ k, slices_Index_Sintint l (z : Int) = some k ∧ IX m l z k := by
  unfold slices_Index_Sintint
  refine for0_q (n := m) (Q := fun o => ∃ k, o = some k ∧ IX m l z k) (fun t _ => ∀ b, b < t → la l b ≠ z) (by rw [hl]) () (fun b hb => by omega) (fun t s nx ht hI hn => ?_) (fun s hI => ?_)
  · unfold slices_Index_Sintint_b7
    have hgl : geti l (t : Int) = some (la l t) := geti_d (-1) (by rw [hl]; exact ht)
    rw [hgl, Option.bind_some]
    by_cases e : (z : Int) = la l t
    · rw [beq_iff_eq.2 e, cond_true]
      exact ⟨_, rfl, .inr ⟨t, ht, rfl, e.symm⟩⟩
    · rw [beq_eq_false_iff_ne.2 e, cond_false]
      refine hn () fun b hb => ?_
      by_cases eb : b = t
      · subst eb; exact fun h => e h.symm
      · exact hI b (by omega)
  · exact ⟨-1, rfl, .inl ⟨rfl, hI⟩⟩

structure WI (m : Nat) (ps : List (Int × Int)) (l F : List Int) (t : Nat) (ch : List Int) (z : Nat) : Prop where
  zin : (z : Int) ∈ ch
  tin : (t : Int) ∈ ch
  nat : ∀ x ∈ ch, ∃ a : Nat, a < m ∧ x = a
  nd : ch.Nodup
  pw : ch.Pairwise fun x y => rr ps x.toNat y.toNat = true
  top : ∀ a : Nat, (a : Int) ∈ ch → rr ps a z = true
  pred : ∀ a : Nat, (a : Int) ∈ ch → a = t ∨ ∃ b : Nat, (b : Int) ∈ ch ∧ la l a = b
  succ : ∀ a b : Nat, (a : Int) ∈ ch → a ≠ z → b < m → la l b = a → (b : Int) ∈ ch
  dis : ∀ x ∈ ch, x ∉ F
structure OI (m : Nat) (ps : List (Int × Int)) (l : List Int) (t : Nat) (L : List (List Int)) : Prop where
  len : L.length = cntN t fun j => decide (la l j < 0)
  ch : ∀ c ∈ L, c ≠ [] ∧ c.Pairwise fun x y => rr ps x.toNat y.toNat = true
  nat : ∀ x ∈ L.flatten, ∃ a : Nat, a < m ∧ x = a
  nd : L.flatten.Nodup
  pred : ∀ a : Nat, (a : Int) ∈ L.flatten → (la l a < 0 ∧ a < t) ∨ ∃ b : Nat, (b : Int) ∈ L.flatten ∧ la l a = b
  succ : ∀ a b : Nat, (a : Int) ∈ L.flatten → b < m → la l b = a → (b : Int) ∈ L.flatten
  root : ∀ a, a < t → la l a < 0 → (a : Int) ∈ L.flatten

theorem nat_len {m : Nat} {c : List Int} (hn : ∀ x ∈ c, ∃ a : Nat, a < m ∧ x = a) (hd : c.Nodup) : c.length ≤ m := by
  have := nodup_len' (t := (List.range m).map fun (a : Nat) => (a : Int)) hd fun x hx => by
    obtain ⟨a, ha, rfl⟩ := hn x hx
    exact List.mem_map.2 ⟨a, List.mem_range.2 ha, rfl⟩
  simpa using this

theorem WI.grow {n : Int} {ps : List (Int × Int)} {up : List (BitVec 32)} {m : Nat} (h : OO n ps up m) {l : List Int} (hT : TI m (EE m ps) m l) {t z y : Nat} {L : List (List Int)} {ch : List Int} (hO : OI m ps l t L) (hr : la l t < 0) (hW : WI m ps l L.flatten t ch z) (hy : y < m) (hz : la l y = z) : WI m ps l L.flatten t (ch ++ [(y : Int)]) y := by
  obtain ⟨zz, hzm, ez⟩ := hW.nat _ hW.zin
  have hzm : z < m := by omega
  have hE : EE m ps z y = true := by
    rcases hT.mi.ed y hy with e | ⟨i, _, e, hE⟩
    · omega
    · have : i = z := by omega
      exact this ▸ hE
  obtain ⟨⟨_, hne⟩, hrr⟩ := EE_iff.1 hE
  have hyc : (y : Int) ∉ ch := fun hm => hne (h.anti y z hy hzm (hW.top y hm) hrr)
  constructor
  · simp
  · simp [hW.tin]
  · intro x hx
    rcases List.mem_append.1 hx with hx | hx
    · exact hW.nat x hx
    · exact ⟨y, hy, by simpa using hx⟩
  · rw [List.nodup_append]
    exact ⟨hW.nd, by simp, fun a ha b hb e => by simp at hb; subst hb; subst e; exact hyc ha⟩
  · rw [List.pairwise_append]
    refine ⟨hW.pw, by simp, fun a ha b hb => ?_⟩
    simp at hb; subst hb
    obtain ⟨a', _, rfl⟩ := hW.nat a ha
    simp only [Int.toNat_natCast]
    exact rr_trans (hW.top a' ha) hrr
  · intro a ha
    rcases List.mem_append.1 ha with ha | ha
    · exact rr_trans (hW.top a ha) hrr
    · have : a = y := by simp at ha; omega
      subst this; exact rr_refl ps _
  · intro a ha
    rcases List.mem_append.1 ha with ha | ha
    · rcases hW.pred a ha with e | ⟨b, h1, h2⟩
      · exact .inl e
      · exact .inr ⟨b, List.mem_append_left _ h1, h2⟩
    · have : a = y := by simp at ha; omega
      subst this
      exact .inr ⟨z, List.mem_append_left _ hW.zin, hz⟩
  · intro a b ha hne' hb e
    rcases List.mem_append.1 ha with ha | ha
    · by_cases ea : a = z
      · subst ea
        have := hT.inj b y hb hy (by rw [e, hz]) (by rw [e]; omega)
        subst this; simp
      · exact List.mem_append_left _ (hW.succ a b ha ea hb e)
    · have : a = y := by simp at ha; omega
      exact absurd this hne'
  · intro x hx hF
    rcases List.mem_append.1 hx with hx | hx
    · exact hW.dis x hx hF
    · have : x = y := by simpa using hx
      subst this
      rcases hO.pred y hF with ⟨q, _⟩ | ⟨b, q1, q2⟩
      · omega
      · have : b = z := by omega
        subst this
        exact hW.dis _ hW.zin q1

theorem OI.grow {n : Int} {ps : List (Int × Int)} {up : List (BitVec 32)} {m : Nat} (h : OO n ps up m) {l : List Int} (hT : TI m (EE m ps) m l) {t z : Nat} {L : List (List Int)} {ch : List Int} (hO : OI m ps l t L) (hr : la l t < 0) (hW : WI m ps l L.flatten t ch z) (hz : ∀ b, b < m → la l b ≠ z) : OI m ps l (t + 1) (L ++ [ch]) := by
  have hfl : (L ++ [ch]).flatten = L.flatten ++ ch := by simp
  constructor
  · rw [List.length_append, hO.len, cntN, decide_eq_true hr]; rfl
  · intro c hc
    rcases List.mem_append.1 hc with hc | hc
    · exact hO.ch c hc
    · have : c = ch := by simpa using hc
      subst this
      exact ⟨List.ne_nil_of_mem hW.tin, hW.pw⟩
  · intro x hx
    rw [hfl] at hx
    rcases List.mem_append.1 hx with hx | hx
    · exact hO.nat x hx
    · exact hW.nat x hx
  · rw [hfl, List.nodup_append]
    exact ⟨hO.nd, hW.nd, fun a ha b hb e => hW.dis b hb (e ▸ ha)⟩
  · intro a ha
    rw [hfl] at ha ⊢
    rcases List.mem_append.1 ha with ha | ha
    · rcases hO.pred a ha with ⟨q1, q2⟩ | ⟨b, q1, q2⟩
      · exact .inl ⟨q1, by omega⟩
      · exact .inr ⟨b, List.mem_append_left _ q1, q2⟩
    · rcases hW.pred a ha with e | ⟨b, q1, q2⟩
      · subst e; exact .inl ⟨hr, by omega⟩
      · exact .inr ⟨b, List.mem_append_right _ q1, q2⟩
  · intro a b ha hb e
    rw [hfl] at ha ⊢
    rcases List.mem_append.1 ha with ha | ha
    · exact List.mem_append_left _ (hO.succ a b ha hb e)
    · by_cases ea : a = z
      · subst ea; exact absurd e (hz b hb)
      · exact List.mem_append_right _ (hW.succ a b ha ea hb e)
  · intro a ha h0
    rw [hfl]
    by_cases ea : a = t
    · subst ea; exact List.mem_append_right _ hW.tin
    · exact List.mem_append_left _ (hO.root a (by omega) h0)

theorem OI.all {n : Int} {ps : List (Int × Int)} {up : List (BitVec 32)} {m : Nat} (h : OO n ps up m) {l : List Int} (hT : TI m (EE m ps) m l) {L : List (List Int)} (hO : OI m ps l m L) : ∀ (k a : Nat), cntN m (fun z => rr ps z a) < k → a < m → (a : Int) ∈ L.flatten := by
  intro k
  induction k with
  | zero => intro a hk; omega
  | succ k ih =>
    intro a hk ha
    rcases hT.mi.ed a ha with e | ⟨b, hb, e, hE⟩
    · exact hO.root a ha (by omega)
    · obtain ⟨⟨_, hne⟩, hr⟩ := EE_iff.1 hE
      refine hO.succ b a (ih b ?_ hb) ha e
      have : cntN m (fun z => rr ps z b) < cntN m (fun z => rr ps z a) := by
        refine cntN_lt (i := a) (fun j _ hj => rr_trans hj hr) ha ?_ (rr_refl ps a)
        cases e' : rr ps a b with
        | true => exact absurd (h.anti a b ha hb e' hr) hne
        | false => rfl
      omega

structure SP (m : Nat) (ps : List (Int × Int)) (L : List (List Int)) : Prop where
  ch : ∀ c ∈ L, c ≠ [] ∧ c.Pairwise fun x y => rr ps x.toNat y.toNat = true
  nat : ∀ x ∈ L.flatten, ∃ a : Nat, a < m ∧ x = a
  nd : L.flatten.Nodup
  all : ∀ a, a < m → (a : Int) ∈ L.flatten
  wide : ∃ A : Nat → Bool, (∀ a b, a < m → b < m → A a = true → A b = true → rr ps a b = true → a = b) ∧ L.length ≤ cntN m A

theorem repeat_eq {m : Nat} (h1 : 1 ≤ m) (h6 : m ≤ 6) : slices_Repeat_Sintint 200 ([(-1 : Int)] : List Int) (m : Int) = some (List.replicate m (-1)) := by
  have : m = 1 ∨ m = 2 ∨ m = 3 ∨ m = 4 ∨ m = 5 ∨ m = 6 := by omega
  rcases this with rfl | rfl | rfl | rfl | rfl | rfl <;> decide +kernel

theorem split_ok {n : Int} {ps : List (Int × Int)} {up : List (BitVec 32)} {m : Nat} (h : OO n ps up m) (ht : order_Table n ps = some (up, 0)) : ∃ L, order_Split 200 n ps = some (L, 0) ∧ SP m ps L := by
  have m6 := h.m6
  unfold order_Split
  rw [ht, Option.bind_some]
  simp only [bne_self_eq_false, cond_false]
  rw [h.n, repeat_eq h.m1 m6, Option.bind_some]
  refine for0_q (n := m) (Q := fun o => ∃ L, o = some (L, 0) ∧ SP m ps L) (fun t (s : BitVec 32 × List Int × List (BitVec 32)) => s.2.2 = up ∧ TI m (EE m ps) t s.2.1) (by rw [h.len]) (0#32, List.replicate m (-1), up) ⟨rfl, ?_⟩ (fun t s nx ht' hI hn => ?_) (fun s hI => ?_)
  · have hla : ∀ j, la (List.replicate m (-1)) j = -1 := fun j => by
      unfold la
      rw [List.getElem?_replicate]
      split <;> rfl
    refine ⟨⟨by simp, fun j _ => .inl (hla j)⟩, fun j k _ _ _ h0 => ?_, fun k _ => ?_, fun _ => false, fun j hj => ?_, fun i hi => ?_⟩
    · simp only at h0; rw [hla] at h0; omega
    · simp only; rw [hla]; omega
    · cases hj
    · omega
  · obtain ⟨c0, l, u⟩ := s
    obtain ⟨e, hT⟩ := hI
    simp only at e hT ⊢
    subst e
    unfold order_Split_b92
    obtain ⟨r, l', c', er, hT'⟩ := hT.step (fuel := 200) h ht' (by omega)
    rw [er, Option.bind_some]
    exact hn _ ⟨rfl, hT'⟩
  · obtain ⟨c0, l, u⟩ := s
    obtain ⟨e, hT⟩ := hI
    simp only at e hT ⊢
    subst e
    unfold order_Split_k30
    refine for0_q (n := m) (Q := fun o => ∃ L, o = some (L, 0) ∧ SP m ps L) (fun t L => OI m ps l t L) (by rw [hT.mi.len]) [] ?_ (fun t L nx ht' hO hn => ?_) (fun L hO => ?_)
    · exact ⟨rfl, by simp, by simp, by simp, by simp, by simp, fun a ha => by omega⟩
    · unfold order_Split_b56
      have hgl : geti l (t : Int) = some (la l t) := geti_d (-1) (by rw [hT.mi.len]; exact ht')
      rw [hgl, Option.bind_some]
      by_cases h0 : la l t ≥ 0
      · rw [decide_eq_true h0, cond_true]
        refine hn _ ⟨?_, hO.ch, hO.nat, hO.nd, fun a ha => ?_, hO.succ, fun a ha h1 => ?_⟩
        · rw [cntN, decide_eq_false (by omega), cond_false, hO.len]
        · rcases hO.pred a ha with ⟨q1, q2⟩ | q
          · exact .inl ⟨q1, by omega⟩
          · exact .inr q
        · by_cases ea : a = t
          · subst ea; omega
          · exact hO.root a (by omega) h1
      · rw [decide_eq_false h0, cond_false]
        obtain ⟨k0, ek, hk⟩ := index_ok hT.mi.len t
        rw [ek, Option.bind_some]
        have hLl : L.length ≤ m := by
          rw [hO.len]
          exact Nat.le_trans cntN_le (by omega)
        refine whileK_q (Q := fun o => ∃ L, o = some (L, 0) ∧ SP m ps L) (fun (s : Int × List Int) => ∃ z, IX m l z s.1 ∧ WI m ps l L.flatten t s.2 z) (fun s => m - s.2.length) (fun s nx' hI' hn' => ?_) 200 _ ⟨t, hk, ?_⟩ (by simp only; omega)
        · obtain ⟨k, ch⟩ := s
          obtain ⟨z, hx, hW⟩ := hI'
          simp only at hx hW hn' ⊢
          unfold order_Split_b81
          have hlen := nat_len hW.nat hW.nd
          rcases hx with ⟨rfl, hno⟩ | ⟨y, hy, rfl, ey⟩
          · rw [decide_eq_false (by omega), cond_false]
            unfold order_Split_k73
            rw [decide_eq_true (by omega), cond_true]
            exact hn _ (hO.grow h hT (by omega) hW hno)
          · rw [decide_eq_true (by omega), cond_true]
            rw [decide_eq_true (by simp; omega), cond_true]
            obtain ⟨k1, ek1, hk1⟩ := index_ok hT.mi.len y
            rw [ek1, Option.bind_some]
            have hW' := hW.grow h hT hO (by omega) hy ey
            have hlen' := nat_len hW'.nat hW'.nd
            refine hn' _ ⟨y, hk1, hW'⟩ ?_
            simp only [List.length_append, List.length_cons, List.length_nil] at hlen' ⊢
            omega
        · refine ⟨by simp, by simp, fun x hx => ⟨t, ht', by simpa using hx⟩, by simp, by simp, fun a ha => ?_, fun a ha => .inl (by simp at ha; omega), fun a b ha hne => ?_, fun x hx hF => ?_⟩
          · have : a = t := by simp at ha; omega
            subst this; exact rr_refl ps _
          · exact absurd (by simp at ha; omega) hne
          · have : x = t := by simpa using hx
            subst this
            rcases hO.pred t hF with ⟨_, q⟩ | ⟨b, _, q⟩
            · omega
            · omega
    · unfold order_Split_k50
      obtain ⟨A, hA, hA'⟩ := hT.apart
      exact ⟨L, rfl, hO.ch, hO.nat, hO.nd, fun a ha => hO.all h hT _ a (Nat.lt_succ_self _) ha, A, hA, by rw [hO.len]; exact hA'⟩

theorem SP.len {m : Nat} {ps : List (Int × Int)} {L : List (List Int)} (h : SP m ps L) : L.flatten.length = m := by
  have h1 := nat_len h.nat h.nd
  have h2 := nodup_len' (l := (List.range m).map fun (a : Nat) => (a : Int)) (t := L.flatten) (by
    exact List.Pairwise.map _ (fun a b (hab : a ≠ b) e => hab (by omega)) List.nodup_range) (fun x hx => by
    obtain ⟨a, ha, rfl⟩ := List.mem_map.1 hx
    exact h.all a (List.mem_range.1 ha))
  rw [List.length_map, List.length_range] at h2
  omega

/-- No set apart has more things than there are lists. -/
theorem SP.most {m : Nat} {ps : List (Int × Int)} {L : List (List Int)} (h : SP m ps L) {A : Nat → Bool} (hA : ∀ a b, a < m → b < m → A a = true → A b = true → rr ps a b = true → a = b) : cntN m A ≤ L.length := by
  have := nodup_len' (l := (List.range m).filter A) (t := L.map fun c => ((c.find? fun x => A x.toNat).getD 0).toNat) (List.Pairwise.filter _ List.nodup_range) (fun a ha => by
    obtain ⟨h1, h2⟩ := List.mem_filter.1 ha
    have h1 := List.mem_range.1 h1
    obtain ⟨c, hc, hac⟩ := List.mem_flatten.1 (h.all a h1)
    refine List.mem_map.2 ⟨c, hc, ?_⟩
    cases hf : c.find? fun x => A x.toNat with
    | none => exact absurd h2 (by simpa using List.find?_eq_none.1 hf _ hac)
    | some x =>
      have hx := List.mem_of_find?_eq_some hf
      have hAx : A x.toNat = true := List.find?_some (p := fun x : Int => A x.toNat) hf
      obtain ⟨b, hb, rfl⟩ := h.nat x (List.mem_flatten.2 ⟨c, hc, hx⟩)
      simp only [Int.toNat_natCast, Option.getD_some] at hAx ⊢
      obtain ⟨i, hi, ei⟩ := List.getElem_of_mem hac
      obtain ⟨j, hj, ej⟩ := List.getElem_of_mem hx
      have hp := List.pairwise_iff_getElem.1 (h.ch c hc).2
      rcases Nat.lt_trichotomy i j with hij | hij | hij
      · have := hp i j hi hj hij
        rw [ei, ej] at this
        exact (hA a b h1 hb h2 hAx (by simpa using this)).symm
      · subst hij; rw [ei] at ej; omega
      · have := hp j i hj hi hij
        rw [ei, ej] at this
        exact hA b a hb h1 hAx h2 (by simpa using this))
  rw [cnt_range, List.length_map] at this
  exact this

theorem fr_iff {m : Nat} {ps : List (Int × Int)} {s : BitVec 32} : fr m ps s = true ↔ ∀ a b, a < m → b < m → s.getLsbD a = true → s.getLsbD b = true → rr ps a b = true → a = b := by
  unfold fr
  rw [allN_iff]
  constructor
  · intro h a b ha hb h1 h2 h3
    have := allN_iff.1 (h a ha) b hb
    rw [h1, h2, h3] at this
    simpa using this
  · intro h a ha
    rw [allN_iff]
    intro b hb
    cases h1 : s.getLsbD a with
    | false => simp
    | true => cases h2 : s.getLsbD b with
      | false => simp
      | true => cases h3 : rr ps a b with
        | false => simp
        | true => simp [h a b ha hb h1 h2 h3]
theorem bst_fr (m : Nat) (ps : List (Int × Int)) : ∀ t, t ≤ 2 ^ m → bel m (bst m ps t) ∧ fr m ps (bst m ps t) = true
  | 0, _ => ⟨fun j h => by simp [bst] at h, fr_iff.2 fun a b _ _ h => by simp [bst] at h⟩
  | t + 1, ht => by
    obtain ⟨h1, h2⟩ := bst_fr m ps t (by omega)
    rw [bst]
    cases hc : fr m ps (BitVec.ofNat 32 t) && decide (cntN 32 (BitVec.ofNat 32 t).getLsbD > cntN 32 (bst m ps t).getLsbD) with
    | false => exact ⟨h1, h2⟩
    | true =>
      rw [Bool.and_eq_true] at hc
      rw [cond_true]
      refine ⟨bel_toNat.2 ?_, hc.1⟩
      rw [BitVec.toNat_ofNat]
      exact Nat.lt_of_le_of_lt (Nat.mod_le _ _) (by omega)
theorem bst_max (m : Nat) (ps : List (Int × Int)) (u : Nat) (hu : fr m ps (BitVec.ofNat 32 u) = true) : ∀ t, u < t → cntN 32 (BitVec.ofNat 32 u).getLsbD ≤ cntN 32 (bst m ps t).getLsbD
  | 0, h => by omega
  | t + 1, h => by
    rw [bst]
    by_cases e : u = t
    · subst e
      rw [hu, Bool.true_and]
      by_cases hc : cntN 32 (BitVec.ofNat 32 u).getLsbD > cntN 32 (bst m ps u).getLsbD
      · rw [decide_eq_true hc, cond_true]; exact Nat.le_refl _
      · rw [decide_eq_false hc, cond_false]; omega
    · have ih := bst_max m ps u hu t (by omega)
      cases hc : fr m ps (BitVec.ofNat 32 t) && decide (cntN 32 (BitVec.ofNat 32 t).getLsbD > cntN 32 (bst m ps t).getLsbD) with
      | false => exact ih
      | true =>
        rw [Bool.and_eq_true, decide_eq_true_eq] at hc
        rw [cond_true]; omega
theorem widest_eq {n : Int} {ps : List (Int × Int)} {up : List (BitVec 32)} {m : Nat} (h : OO n ps up m) (fuel : Nat) (hf : 30 < fuel) : syllogistref_Widest fuel m ps = some (bst m ps (2 ^ m)) := by
  have m6 := h.m6
  have hB : (1#32 <<< m).toNat = 2 ^ m := one_shl_toNat (by omega)
  have hgt : ∀ a b : Nat, decide ((a : Int) > (b : Int)) = decide (a > b) := fun a b => by
    rw [Bool.eq_iff_iff, decide_eq_true_eq, decide_eq_true_eq]; omega
  unfold syllogistref_Widest
  rw [ofInt64 (by omega)]
  refine (forU_rec (bst m ps) rfl (fun c nx hc => ?_)).trans (by rw [hB]; rfl)
  unfold syllogistref_Widest_b9
  have hcc : BitVec.ofNat 32 c.toNat = c := by simp
  rw [size_eq, Option.bind_some, size_eq, Option.bind_some, rfree_eq h fuel (by omega)]
  simp only [Option.isSome_some, Bool.or_true, cond_true, Option.getD_some, hgt]
  rw [bst, hcc, Bool.and_comm, cond_nx]
theorem SP.size {n : Int} {ps : List (Int × Int)} {up : List (BitVec 32)} {m : Nat} (h : OO n ps up m) {L : List (List Int)} (hL : SP m ps L) : cntN 32 (bst m ps (2 ^ m)).getLsbD = L.length := by
  have m6 := h.m6
  obtain ⟨hb, hf⟩ := bst_fr m ps (2 ^ m) (Nat.le_refl _)
  refine Nat.le_antisymm ?_ ?_
  · rw [cnt32 (m := m) (by omega) hb]
    exact hL.most (fr_iff.1 hf)
  · obtain ⟨A, hA, hA'⟩ := hL.wide
    have hbit : ∀ j, j < m → (bset m A).getLsbD j = A j := fun j hj => by rw [bset_bit (by omega), decide_eq_true hj, Bool.true_and]
    have hbel : bel m (bset m A) := bset_bel (by omega)
    have hofn : BitVec.ofNat 32 (bset m A).toNat = bset m A := by simp
    have := bst_max m ps (bset m A).toNat (by
      rw [hofn]
      exact fr_iff.2 fun a b ha hb' h1 h2 => hA a b ha hb' (by rw [← hbit a ha]; exact h1) (by rw [← hbit b hb']; exact h2)) (2 ^ m) (bel_toNat.1 hbel)
    rw [hofn, cnt32 (m := m) (by omega) hbel, cntN_congr hbit] at this
    omega

theorem nodup_mid {α : Type} {A B C D : List α} {x : α} (h : (A ++ ((B ++ x :: C) ++ D)).Nodup) : x ∉ A ++ B := by
  have e : A ++ ((B ++ x :: C) ++ D) = (A ++ B) ++ x :: (C ++ D) := by simp
  rw [e, List.nodup_append] at h
  exact fun hm => h.2.2 x hm x (by simp) rfl

theorem orderSplits_true (fuel : Nat) (n : Int) (ps : List (Int × Int)) (hf : fuel = 200 := by rfl) : syllogistlaw_OrderSplits fuel n ps = some true := by
  subst hf
  unfold syllogistlaw_OrderSplits
  obtain ⟨up, c, e1, e2, h1, h2⟩ := table2 n ps
  by_cases hc : c = 0
  · subst hc
    obtain ⟨m, h⟩ := h2 rfl
    have m6 := h.m6
    have hn := h.n
    subst hn
    obtain ⟨L, eL, hL⟩ := split_ok h e1
    rw [eL, Option.bind_some, e2 200 (by omega), Option.bind_some]
    simp only [bne_self_eq_false, cond_false]
    have hlen := hL.len
    refine for0_q (n := L.length) (Q := fun o => o = some true) (fun t (s : Int × List Int) => s.2 = (L.take t).flatten ∧ s.1 = (s.2.length : Int)) rfl (0, []) ⟨by simp, by simp⟩ (fun t s nx ht hI hn => ?_) (fun s hI => ?_)
    · obtain ⟨many, seen⟩ := s
      obtain ⟨hs, hm⟩ := hI
      simp only at hs hm ⊢
      unfold syllogistlaw_OrderSplits_b26
      simp only
      rw [geti_at ht, Option.bind_some]
      obtain ⟨c, ec⟩ : ∃ c, c = L[t] := ⟨_, rfl⟩
      have hcL : c ∈ L := ec ▸ List.getElem_mem ht
      obtain ⟨hc0, hcp⟩ := hL.ch c hcL
      have hLe : L = L.take t ++ c :: L.drop (t + 1) := by
        rw [ec, List.getElem_cons_drop, List.take_append_drop]
      have hFe : L.flatten = (L.take t).flatten ++ (c ++ (L.drop (t + 1)).flatten) := by
        conv => lhs; rw [hLe]
        simp
      rw [← ec]
      have hcl : (((c.length : Int)) == (0 : Int)) = false := by
        rw [beq_eq_false_iff_ne]
        intro e
        exact hc0 (List.length_eq_zero_iff.1 (by omega))
      rw [hcl, cond_false]
      have hlens : (L.take t).flatten.length + c.length ≤ m := by
        have := congrArg List.length hFe
        rw [List.length_append, List.length_append, hlen] at this
        omega
      refine for0_q (n := c.length) (Q := fun o => o = some true) (fun i (s : Int × List Int) => s.2 = (L.take t).flatten ++ c.take i ∧ s.1 = (s.2.length : Int)) rfl (many, seen) ⟨by simp [hs], hm⟩ (fun i s nx' hi hI' hn' => ?_) (fun s hI' => ?_)
      · obtain ⟨many', seen'⟩ := s
        obtain ⟨hs', hm'⟩ := hI'
        simp only at hs' hm' ⊢
        subst hm'
        unfold syllogistlaw_OrderSplits_b49
        rw [geti_at hi, Option.bind_some]
        obtain ⟨a, ham, ea⟩ := hL.nat c[i] (List.mem_flatten.2 ⟨c, hcL, List.getElem_mem hi⟩)
        have hnot : c[i] ∉ seen' := by
          rw [hs']
          refine nodup_mid (C := c.drop (i + 1)) (D := (L.drop (t + 1)).flatten) ?_
          rw [List.getElem_cons_drop, List.take_append_drop, ← hFe]
          exact hL.nd
        have hsl : seen'.length ≤ m := by
          rw [hs', List.length_append, List.length_take]; omega
        have d1 : decide ((a : Int) < (0 : Int)) = false := decide_eq_false (by omega)
        have d2 : decide ((a : Int) ≥ (m : Int)) = false := decide_eq_false (by omega)
        have d3 : decide ((a : Int) ∈ seen') = false := decide_eq_false (ea ▸ hnot)
        rw [ea, has_eq]
        have hun : 0 < i → ∃ b : Nat, geti c (w64 ((i : Int) - 1)) = some (b : Int) ∧ rr ps b a = true := by
          intro h0
          obtain ⟨k, rfl⟩ : ∃ k, i = k + 1 := ⟨i - 1, by omega⟩
          obtain ⟨b, hb, eb⟩ := hL.nat c[k] (List.mem_flatten.2 ⟨c, hcL, List.getElem_mem (by omega)⟩)
          have hck : c.length ≤ m := by omega
          refine ⟨b, ?_, ?_⟩
          · rw [w64_id (by omega) (by omega), show ((k + 1 : Nat) : Int) - 1 = (k : Int) by omega, geti_at (by omega), eb]
          · have := List.pairwise_iff_getElem.1 hcp k (k + 1) (by omega) hi (by omega)
            rw [ea, eb] at this
            simpa using this
        by_cases h0 : 0 < i
        · obtain ⟨b, eb, hr⟩ := hun h0
          have d4 : decide ((i : Int) > (0 : Int)) = true := decide_eq_true (by omega)
          simp only [d1, d2, d3, d4, eb, under2 h 200 (by omega), hr, Option.isSome_some, Option.getD_some, Bool.or_false, Bool.or_true, Bool.true_and, Bool.not_true, cond_true]
          rw [cond_false, decide_eq_true (by simp; omega), cond_true]
          refine hn' _ ⟨?_, ?_⟩
          · simp only [hs', ← ea]
            rw [List.append_assoc, List.take_append_getElem]
          · simp only [List.length_append, List.length_cons, List.length_nil]
            rw [w64_id (by omega) (by omega)]; omega
        · have d4 : decide ((i : Int) > (0 : Int)) = false := decide_eq_false (by omega)
          have e4 : (false == true) = false := rfl
          simp only [d1, d2, d3, d4, e4, Option.isSome_some, Option.getD_some, Bool.or_false, Bool.or_true, Bool.and_false, Bool.false_and, Bool.not_false, Bool.true_or, cond_true]
          rw [cond_false, decide_eq_true (by simp; omega), cond_true]
          refine hn' _ ⟨?_, ?_⟩
          · simp only [hs', ← ea]
            rw [List.append_assoc, List.take_append_getElem]
          · simp only [List.length_append, List.length_cons, List.length_nil]
            rw [w64_id (by omega) (by omega)]; omega
      · unfold syllogistlaw_OrderSplits_k45
        refine hn _ ⟨?_, hI'.2⟩
        rw [hI'.1, List.take_length]
        rw [← List.take_append_getElem ht, ← ec]
        simp
    · unfold syllogistlaw_OrderSplits_k20
      obtain ⟨hs, hm⟩ := hI
      rw [List.take_length] at hs
      rw [hm, hs, hlen, widest_eq h 200 (by omega)]
      simp only [Option.isSome_some, Option.getD_some, Bool.or_true, cond_true, size_eq, hL.size h, beq_self_eq_true, Bool.and_self]
  · rw [order_Split, e1, Option.bind_some]
    have hcb : (c != 0) = true := by simpa using hc
    simp only [hcb, cond_true, Option.bind_some]
    rw [e2 200 (by omega)]
    simp [hcb]
end Go.Proofs.Ytjpbdannibmplaa.Sy
