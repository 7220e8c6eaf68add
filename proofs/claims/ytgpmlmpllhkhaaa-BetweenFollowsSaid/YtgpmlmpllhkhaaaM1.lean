/- What is told between truths: the plain laws; no program in sight. -/
import Derived.Test.YtgpmlmpllhkhaaaSyM
import Derived.Test.YtgpmlmpllhkhaaaG1
namespace Go.Proofs.Ytgpmlmpllhkhaaa.Sy
set_option linter.unusedVariables false

theorem ishl_eq {n : Nat} (h : n ≤ 4) : ishl 1 n = ((2 ^ n : Nat) : Int) := by
  have : ∀ n, n ≤ 4 → ishl 1 n = ((2 ^ n : Nat) : Int) := by decide
  exact this n h

open Classical in
noncomputable def tcode (n : Int) (f : List Bool) : Int := if n < 0 ∨ n > 4 then 1 else if f.length = 2 ^ n.toNat then 0 else 3

theorem tcheck_eq (n : Int) (f : List Bool) : truth_Check n f = some (tcode n f) := by
  unfold truth_Check tcode
  by_cases h : n < 0 ∨ n > 4
  · have : ((decide (n < (0 : Int))) || (decide (n > (4 : Int)))) = true := by simpa using h
    rw [this, if_pos h]; rfl
  · have : ((decide (n < (0 : Int))) || (decide (n > (4 : Int)))) = false := by simp; omega
    rw [this, if_neg h, cond_false, decide_eq_true (by omega), cond_true, ishl_eq (by omega)]
    by_cases hl : f.length = 2 ^ n.toNat
    · rw [if_pos hl, hl]; simp
    · rw [if_neg hl]
      have : ((f.length : Int) != ((2 ^ n.toNat : Nat) : Int)) = true := by
        rw [bne_iff_ne]; intro e; exact hl (by omega)
      rw [this]; rfl
theorem rcheck_eq (n : Int) (f : List Bool) : syllogistref_TruthCheck n f = some (tcode n f) := by
  unfold syllogistref_TruthCheck tcode
  by_cases h : n < 0 ∨ n > 4
  · have : ((decide (n < (0 : Int))) || (decide (n > (4 : Int)))) = true := by simpa using h
    rw [this, if_pos h]; rfl
  · have : ((decide (n < (0 : Int))) || (decide (n > (4 : Int)))) = false := by simp; omega
    obtain ⟨k, rfl⟩ : ∃ k : Nat, n = k := ⟨n.toNat, by omega⟩
    rw [this, if_neg h, cond_false, ofInt64 (by omega), ishl_eq (by omega)]
    simp only [Int.toNat_natCast]
    by_cases hl : f.length = 2 ^ k
    · rw [if_pos hl, hl]; simp
    · rw [if_neg hl]
      have : ((f.length : Int) != ((2 ^ k : Nat) : Int)) = true := by
        rw [bne_iff_ne]; intro e; exact hl (by omega)
      rw [this]; rfl
theorem tcode_ok {n : Int} {f : List Bool} (h : tcode n f = 0) : ∃ k : Nat, n = k ∧ k ≤ 4 ∧ f.length = 2 ^ k := by
  unfold tcode at h
  split at h
  · cases h
  · split at h
    · exact ⟨n.toNat, by omega, by omega, by assumption⟩
    · cases h

theorem bit_eq (w : BitVec 32) (j : Nat) (hj : j < 32) : syllogistref_Bit w j = some (w.getLsbD j) := by
  unfold syllogistref_Bit
  have h : (BitVec.ofInt 64 (j : Int)).toNat = j := by simp; omega
  rw [h, bit_and w j hj, decide_eq_true (by omega), decide_eq_true (by omega)]; rfl

/-! ### The numbers below sixteen -/
theorem ixor_small : ∀ t : Nat, t < 16 → ∀ v : Nat, v < 4 → ixor (t : Int) (ishl 1 v) = ((t ^^^ 2 ^ v : Nat) : Int) := by decide
theorem xor_all : ∀ k : Nat, k ≤ 4 → ∀ t : Nat, t < 2 ^ k → ∀ v : Nat, v < k → (decide (t ^^^ 2 ^ v < 2 ^ k) && (bif t.testBit v then (!(t ^^^ 2 ^ v).testBit v && ((t ^^^ 2 ^ v) + 2 ^ v == t)) else (t ^^^ 2 ^ v == t + 2 ^ v))) = true := by decide
theorem xor_small (k : Nat) (hk : k ≤ 4) (t : Nat) (ht : t < 2 ^ k) (v : Nat) (hv : v < k) : t ^^^ 2 ^ v < 2 ^ k ∧ (t.testBit v = false → t ^^^ 2 ^ v = t + 2 ^ v) ∧ (t.testBit v = true → (t ^^^ 2 ^ v).testBit v = false ∧ (t ^^^ 2 ^ v) + 2 ^ v = t) := by
  have h := xor_all k hk t ht v hv
  rw [Bool.and_eq_true, decide_eq_true_eq] at h
  refine ⟨h.1, fun e => ?_, fun e => ?_⟩
  · have := h.2
    rw [e, cond_false] at this
    simpa using this
  · have := h.2
    rw [e, cond_true, Bool.and_eq_true] at this
    simpa using this
theorem w64_small (t g : Nat) (ht : t < 16) (hg : g ≤ 16) : w64 ((t : Int) + (g : Int)) = ((t + g : Nat) : Int) := by
  rw [w64_id (by omega) (by omega)]; omega
theorem pow_small {k : Nat} (h : k ≤ 4) : 2 ^ k ≤ 16 := by
  have : ∀ k, k ≤ 4 → 2 ^ k ≤ 16 := by decide
  exact this k h
theorem bit_small (t v : Nat) (ht : t < 16) : (BitVec.ofInt 32 (t : Int)).getLsbD v = t.testBit v := by
  have : (BitVec.ofInt 32 (t : Int)).toNat = t := by simp; omega
  show (BitVec.ofInt 32 (t : Int)).toNat.testBit v = _
  rw [this]

def toldP (f : List Bool) (v : Nat) : Prop := ∀ t, f[t]? = some true → f[t ^^^ 2 ^ v]? ≠ some true

theorem between_eq {k : Nat} (hk : k ≤ 4) {f : List Bool} (hf : f.length = 2 ^ k) {v : Nat} (hv : v < k) :
    ∃ r, forK (σ := Unit) (fun i s nx_ => between_Told_b9 f v i nx_) (fun _ => between_Told_k5) ((f.length : Int) - (0 : Int)).toNat (0 : Int) () = some (r, 0) ∧ (r = true ↔ toldP f v) := by
  have h16 := pow_small hk
  refine for0_q (Q := fun o => ∃ r, o = some (r, (0 : Int)) ∧ (r = true ↔ toldP f v)) (fun j _ => ∀ t, t < j → f[t]? = some true → f[t ^^^ 2 ^ v]? ≠ some true) rfl () (fun t h => by omega) (fun t s nx ht hI hnx => ?_) (fun s hI => ?_)
  · unfold between_Told_b9
    obtain ⟨x1, x2, x3⟩ := xor_small k hk t (by omega) v hv
    rw [geti_at ht, Option.bind_some, decide_eq_true (by omega)]
    simp only [Bool.or_true, cond_true, Int.toNat_natCast]
    rw [ixor_small t (by omega) v (by omega), geti_at (by omega : t ^^^ 2 ^ v < f.length)]
    simp only [Option.isSome_some, Bool.or_true, cond_true, Option.getD_some]
    cases h1 : f[t] with
    | false =>
      rw [Bool.false_and, cond_false]
      refine hnx () fun u hu he => ?_
      by_cases e : u = t
      · subst e; rw [List.getElem?_eq_getElem ht, h1] at he; cases he
      · exact hI u (by omega) he
    | true =>
      rw [Bool.true_and]
      cases h2 : f[t ^^^ 2 ^ v]'(by omega) with
      | true =>
        refine ⟨false, rfl, ?_⟩
        simp only [Bool.false_eq_true, false_iff]
        intro h
        exact h t (by rw [List.getElem?_eq_getElem ht, h1]) (by rw [List.getElem?_eq_getElem (by omega), h2])
      | false =>
        rw [cond_false]
        refine hnx () fun u hu he => ?_
        by_cases e : u = t
        · subst e; rw [List.getElem?_eq_getElem (by omega), h2]; simp
        · exact hI u (by omega) he
  · refine ⟨true, rfl, ⟨fun _ t he => ?_, fun _ => rfl⟩⟩
    exact hI t (List.getElem?_eq_some_iff.1 he).1 he

theorem want_eq {k : Nat} (hk : k ≤ 4) {f : List Bool} (hf : f.length = 2 ^ k) {v : Nat} (hv : v < k) (r1 : Bool × Int) {r : Bool} (hr : r = true ↔ toldP f v) :
    forK (σ := Bool) (fun i s nx_ => syllogistlaw_BetweenTolds_b17 f v i s nx_) (fun s => syllogistlaw_BetweenTolds_k13 r1 s) ((f.length : Int) - (0 : Int)).toNat (0 : Int) true = some ((r1.2 == (0 : Int)) && (r1.1 == r)) := by
  have h16 := pow_small hk
  refine for0_eq (fun j (want : Bool) => want = true ↔ ∀ t, t < j → t.testBit v = false → f[t]? = some true → f[t + 2 ^ v]? ≠ some true) rfl _ ⟨fun _ t h => by omega, fun _ => rfl⟩ (fun t want nx ht hI hnx => ?_) (fun want hI => ?_)
  · unfold syllogistlaw_BetweenTolds_b17
    obtain ⟨x1, x2, x3⟩ := xor_small k hk t (by omega) v hv
    rw [bit_eq _ _ (by omega), Option.bind_some, bit_small _ _ (by omega), geti_at ht, ofInt64 (by omega), ishl_eq (by omega)]
    simp only [Option.isSome_some, Bool.or_true, cond_true, Option.getD_some]
    have hp : 2 ^ v ≤ 16 := pow_small (by omega)
    have hw : w64 ((t : Int) + ((2 ^ v : Nat) : Int)) = ((t + 2 ^ v : Nat) : Int) := w64_small t _ (by omega) hp
    rw [hw]
    have hcongr : ∀ (w' : Bool), (w' = true ↔ want = true ∧ ¬ (t.testBit v = false ∧ f[t]? = some true ∧ f[t + 2 ^ v]? = some true)) → (w' = true ↔ ∀ u, u < t + 1 → u.testBit v = false → f[u]? = some true → f[u + 2 ^ v]? ≠ some true) := by
      intro w' hw'
      rw [hw', hI]
      constructor
      · rintro ⟨h1, h2⟩ u hu hb he hx
        by_cases e : u = t
        · subst e; exact h2 ⟨hb, he, hx⟩
        · exact h1 u (by omega) hb he hx
      · exact fun h => ⟨fun u hu => h u (by omega), fun ⟨a, b, c⟩ => h t (by omega) a b c⟩
    cases hb : t.testBit v with
    | true =>
      simp only [Bool.not_true, Bool.false_and, Bool.false_beq, Bool.not_false, Bool.true_or, cond_true, cond_false]
      refine hnx _ (hcongr _ ?_)
      simp [hb]
    | false =>
      have hlt : t + 2 ^ v < f.length := by rw [← x2 hb, hf]; exact x1
      rw [geti_at hlt]
      simp only [Bool.not_false, Bool.true_and, Option.isSome_some, Bool.or_true, cond_true, Option.getD_some]
      cases h1 : (f[t] && f[t + 2 ^ v]) with
      | true =>
        rw [cond_true]
        rw [Bool.and_eq_true] at h1
        refine hnx _ (hcongr _ ?_)
        simp [hb, List.getElem?_eq_getElem ht, List.getElem?_eq_getElem hlt, h1.1, h1.2]
      | false =>
        rw [cond_false]
        refine hnx _ (hcongr _ ?_)
        rw [List.getElem?_eq_getElem ht, List.getElem?_eq_getElem hlt]
        constructor
        · refine fun h => ⟨h, fun ⟨_, a, b⟩ => ?_⟩
          rw [Option.some.inj a, Option.some.inj b] at h1
          cases h1
        · exact fun h => h.1
  · unfold syllogistlaw_BetweenTolds_k13
    have : want = r := by
      rw [Bool.eq_iff_iff, hI, hr]
      constructor
      · intro h t he hx
        have ht := (List.getElem?_eq_some_iff.1 he).1
        obtain ⟨x1, x2, x3⟩ := xor_small k hk t (by omega) v hv
        cases hb : t.testBit v with
        | false => exact h t ht hb he (x2 hb ▸ hx)
        | true =>
          obtain ⟨y1, y2⟩ := x3 hb
          exact h _ (List.getElem?_eq_some_iff.1 hx).1 y1 hx (y2.symm ▸ he)
      · intro h t ht hb he hx
        obtain ⟨x1, x2, x3⟩ := xor_small k hk t (by omega) v hv
        exact h t he (by rw [x2 hb]; exact hx)
    rw [this]

theorem betweenTolds_true (n : Int) (f : List Bool) (v : Int) : syllogistlaw_BetweenTolds n f v = some true := by
  unfold syllogistlaw_BetweenTolds between_Told
  rw [tcheck_eq, rcheck_eq]
  by_cases hc : tcode n f = 0
  · obtain ⟨k, rfl, hk, hf⟩ := tcode_ok hc
    rw [hc]
    by_cases hv : v < 0 ∨ v ≥ (k : Int)
    · have : ((decide (v < (0 : Int))) || (decide (v ≥ (k : Int)))) = true := by simpa using hv
      simp [this, syllogistlaw_BetweenTolds_k6]
    · have : ((decide (v < (0 : Int))) || (decide (v ≥ (k : Int)))) = false := by
        simp only [Bool.or_eq_false_iff, decide_eq_false_iff_not]; omega
      obtain ⟨u, rfl⟩ : ∃ u : Nat, v = u := ⟨v.toNat, by omega⟩
      simp only [Option.bind_some, bne_self_eq_false, cond_false, this, Bool.and_false]
      obtain ⟨r, e, hr⟩ := between_eq hk hf (v := u) (by omega)
      rw [e, Option.bind_some]
      unfold syllogistlaw_BetweenTolds_k6
      simp only [bne_self_eq_false, cond_false]
      rw [want_eq hk hf (v := u) (by omega) (r, 0) hr]
      simp
  · have h1 : (tcode n f != 0) = true := by simpa using hc
    have h2 : (tcode n f == 0) = false := by simpa using hc
    simp [h1, h2, syllogistlaw_BetweenTolds_k6]

theorem fol_eq {f g : List Bool} (h : f.length = g.length) : ∃ r, syllogistref_Follows f g = some r ∧ between_follows f g = some r := by
  have e : between_follows f g = syllogistref_Follows f g := rfl
  rw [e]
  have : ∃ r, syllogistref_Follows f g = some r := by
    unfold syllogistref_Follows
    refine for0_q (Q := fun o => ∃ r, o = some r) (fun _ _ => True) rfl () trivial (fun t s nx ht _ hnx => ?_) (fun s _ => ⟨true, rfl⟩)
    unfold syllogistref_Follows_b7
    rw [geti_at ht, Option.bind_some, geti_at (by omega)]
    simp only [Option.isSome_some, Bool.or_true, cond_true, Option.getD_some]
    cases (f[t] && !(g[t]'(by omega))) with
    | true => exact ⟨false, rfl⟩
    | false => exact hnx () trivial
  obtain ⟨r, hr⟩ := this
  exact ⟨r, hr, hr⟩

theorem fits0 {k : Nat} (hk : k ≤ 4) : syllogistref_Fits k 0#32 = some true := by
  have : ∀ k : Nat, k ≤ 4 → syllogistref_Fits k 0#32 = some true := by decide
  exact this k hk

theorem tcode01 (n : Int) (f : List Bool) : tcode n f = 0 ∨ tcode n f ≠ 0 := by
  by_cases h : tcode n f = 0
  · exact .inl h
  · exact .inr h

theorem betweenFollows_true (n : Int) (f g : List Bool) : syllogistlaw_BetweenFollows n f g = some true := by
  unfold syllogistlaw_BetweenFollows between_Follows syllogistlaw_tablesCode
  rw [tcheck_eq, tcheck_eq, rcheck_eq, rcheck_eq]
  by_cases hc : tcode n f = 0
  · obtain ⟨k, rfl, hk, hf⟩ := tcode_ok hc
    rw [hc]
    by_cases hd : tcode k g = 0
    · obtain ⟨k', e', hk', hg⟩ := tcode_ok hd
      have : k' = k := by omega
      subst this
      obtain ⟨r, e1, e2⟩ := fol_eq (hf.trans hg.symm)
      rw [hd, e1, e2]
      simp [syllogistlaw_tablesCode_k4, fits0 hk]
    · have h1 : (tcode k g != 0) = true := by simpa using hd
      have h2 : (tcode k g == 0) = false := by simpa using hd
      simp [h1, h2, syllogistlaw_tablesCode_k4]
  · have h1 : (tcode n f != 0) = true := by simpa using hc
    have h2 : (tcode n f == 0) = false := by simpa using hc
    simp [h1, h2, syllogistlaw_tablesCode_k4]
end Go.Proofs.Ytgpmlmpllhkhaaa.Sy
