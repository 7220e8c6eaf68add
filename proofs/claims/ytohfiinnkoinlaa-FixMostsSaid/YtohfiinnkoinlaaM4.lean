/- The least and the greatest fixed point: the plain laws; no program in sight. -/
import Derived.Test.YtohfiinnkoinlaaM3
namespace Go.Proofs.Ytohfiinnkoinlaa.Sy
set_option linter.unusedVariables false

/-- The map at a word. -/
def at_ (f : List (BitVec 32)) (s : BitVec 32) : BitVec 32 := f[s.toNat]?.getD 0#32
theorem geti_w {f : List (BitVec 32)} {s : BitVec 32} (h : s.toNat < f.length) : geti f (s.toNat : Int) = some (at_ f s) := by
  rw [geti_at h]; unfold at_; rw [List.getElem?_eq_getElem h]; rfl
theorem mono_at {f : List (BitVec 32)} (hM : Mono f) {a b : BitVec 32} (ha : a.toNat < f.length) (hb : b.toNat < f.length) (h : sb a b) : sb (at_ f a) (at_ f b) := by
  have e : a ||| b = b := by simpa using or_iff.2 h
  have := hM a.toNat b.toNat ha hb (by rw [← BitVec.toNat_or, e])
  unfold at_
  rw [List.getElem?_eq_getElem ha, List.getElem?_eq_getElem hb]
  exact this
theorem fin_at {k : Nat} {f : List (BitVec 32)} (hl : f.length = 2 ^ k) (hf : fin k f) {s : BitVec 32} (hs : s.toNat < f.length) : (at_ f s).toNat < f.length := by
  unfold at_
  rw [List.getElem?_eq_getElem hs, hl]
  exact bel_toNat.1 (hf _ hs)

theorem from_low {k : Nat} {f : List (BitVec 32)} (hl : f.length = 2 ^ k) (hf : fin k f) (hM : Mono f) (fuel : Nat) (hfu : f.length < fuel) : ∃ s, whileK (σ := (BitVec 32)) (fun s nx_ => fix_from_b10 f s nx_) fuel (0#32) = some (s, (0 : Int)) ∧ s.toNat < f.length ∧ at_ f s = s ∧ ∀ c : BitVec 32, c.toNat < f.length → at_ f c = c → sb s c := by
  have hp : 0 < f.length := by rw [hl]; exact Nat.pow_pos (by omega)
  refine whileK_q (Q := fun o => ∃ s, o = some (s, (0 : Int)) ∧ s.toNat < f.length ∧ at_ f s = s ∧ ∀ c : BitVec 32, c.toNat < f.length → at_ f c = c → sb s c) (fun (s : BitVec 32) => s.toNat < f.length ∧ sb s (at_ f s) ∧ ∀ c : BitVec 32, c.toNat < f.length → at_ f c = c → sb s c) (fun s => f.length - s.toNat) (fun s nx hI hnx => ?_) fuel _ ⟨by simpa using hp, sb_zero _, fun c _ _ => sb_zero _⟩ (by simp; omega)
  obtain ⟨h1, h2, h3⟩ := hI
  unfold fix_from_b10
  rw [geti_w h1, Option.bind_some, Option.bind_some]
  by_cases he : at_ f s = s
  · have : (at_ f s != s) = false := by rw [he]; simp
    rw [this, cond_false]
    exact ⟨s, rfl, h1, he, h3⟩
  · have : (at_ f s != s) = true := by simpa using he
    rw [this, cond_true]
    have hlt := fin_at hl hf h1
    have := h2.lt (fun e => he e.symm)
    refine hnx _ ⟨hlt, mono_at hM h1 hlt h2, fun c hc hcc => ?_⟩ (by omega)
    have := mono_at hM h1 hc (h3 c hc hcc)
    rwa [hcc] at this

theorem from_high {k : Nat} {f : List (BitVec 32)} (hl : f.length = 2 ^ k) (hk : k ≤ 5) (hf : fin k f) (hM : Mono f) (fuel : Nat) (hfu : 100 < fuel) : ∃ s, whileK (σ := (BitVec 32)) (fun s nx_ => fix_from_b10 f s nx_) fuel (full k) = some (s, (0 : Int)) ∧ s.toNat < f.length ∧ at_ f s = s ∧ ∀ c : BitVec 32, c.toNat < f.length → at_ f c = c → sb c s := by
  have hp : 0 < f.length := by rw [hl]; exact Nat.pow_pos (by omega)
  have h32 := pow32 hk
  have hfl : (full k).toNat < f.length := by rw [full_toNat (by omega), ← hl]; omega
  refine whileK_q (Q := fun o => ∃ s, o = some (s, (0 : Int)) ∧ s.toNat < f.length ∧ at_ f s = s ∧ ∀ c : BitVec 32, c.toNat < f.length → at_ f c = c → sb c s) (fun (s : BitVec 32) => s.toNat < f.length ∧ sb (at_ f s) s ∧ ∀ c : BitVec 32, c.toNat < f.length → at_ f c = c → sb c s) (fun s => s.toNat) (fun s nx hI hnx => ?_) fuel _
    ⟨hfl, (bel_full (by omega)).1 (bel_toNat.2 (hl ▸ fin_at hl hf hfl)), fun c hc _ => (bel_full (by omega)).1 (bel_toNat.2 (hl ▸ hc))⟩ (by omega)
  obtain ⟨h1, h2, h3⟩ := hI
  unfold fix_from_b10
  rw [geti_w h1, Option.bind_some, Option.bind_some]
  by_cases he : at_ f s = s
  · have : (at_ f s != s) = false := by rw [he]; simp
    rw [this, cond_false]
    exact ⟨s, rfl, h1, he, h3⟩
  · have : (at_ f s != s) = true := by simpa using he
    rw [this, cond_true]
    have hlt := fin_at hl hf h1
    have := h2.lt he
    refine hnx _ ⟨hlt, mono_at hM hlt h1 h2, fun c hc hcc => ?_⟩ (by omega)
    have := mono_at hM hc h1 (h3 c hc hcc)
    rwa [hcc] at this

theorem fixed_eq (f : List (BitVec 32)) (hf : f.length ≤ 32) : ∃ l, syllogistref_Fixed f = some l ∧ ∀ y, y ∈ l ↔ y.toNat < f.length ∧ at_ f y = y := by
  unfold syllogistref_Fixed
  refine for0_q (Q := fun o => ∃ l, o = some l ∧ ∀ y, y ∈ l ↔ y.toNat < f.length ∧ at_ f y = y) (fun t (l : List (BitVec 32)) => l.length ≤ t ∧ ∀ y, y ∈ l ↔ y.toNat < t ∧ at_ f y = y) rfl [] ⟨by simp, fun y => by simp⟩ (fun t l nx ht hI hnx => ?_) (fun l hI => ⟨l, rfl, hI.2⟩)
  obtain ⟨hle, hm⟩ := hI
  unfold syllogistref_Fixed_b14
  have hw : (BitVec.ofInt 32 (t : Int)).toNat = t := by simp; omega
  have hat : at_ f (BitVec.ofInt 32 (t : Int)) = f[t] := by
    unfold at_; rw [hw, List.getElem?_eq_getElem ht]; rfl
  rw [geti_at ht, Option.bind_some, Option.bind_some]
  by_cases he : f[t] = BitVec.ofInt 32 (t : Int)
  · have : (f[t] == BitVec.ofInt 32 (t : Int)) = true := by simpa using he
    rw [this, cond_true, decide_eq_true (by simp; omega), cond_true]
    refine hnx _ ⟨by simp; omega, fun y => ?_⟩
    rw [List.mem_append, hm y, List.mem_singleton]
    constructor
    · rintro (⟨h1, h2⟩ | h)
      · exact ⟨by omega, h2⟩
      · subst h
        refine ⟨by rw [he, hw]; omega, ?_⟩
        rw [he, hat, he]
    · rintro ⟨h1, h2⟩
      by_cases e : y.toNat = t
      · right
        rw [he]
        exact BitVec.eq_of_toNat_eq (by rw [hw, e])
      · exact .inl ⟨by omega, h2⟩
  · have : (f[t] == BitVec.ofInt 32 (t : Int)) = false := by simpa using he
    rw [this, cond_false]
    refine hnx _ ⟨by omega, fun y => ?_⟩
    rw [hm y]
    constructor
    · rintro ⟨h1, h2⟩
      exact ⟨by omega, h2⟩
    · rintro ⟨h1, h2⟩
      refine ⟨?_, h2⟩
      apply Classical.byContradiction
      intro hn
      have e : y.toNat = t := by omega
      have ey : y = BitVec.ofInt 32 (t : Int) := BitVec.eq_of_toNat_eq (by rw [hw, e])
      rw [ey, hat] at h2
      exact he h2

theorem fixLeasts_true (fuel : Nat) (n : Int) (f : List (BitVec 32)) (hfu : 100 < fuel := by decide) : syllogistlaw_FixLeasts fuel n f = some true := by
  unfold syllogistlaw_FixLeasts fix_Least fix_from
  rw [wrong_eq, mapCheck_eq]
  by_cases hc : fcode n f = 0
  · obtain ⟨k, rfl, hk1, hk, hl, hfin⟩ := fcode_ok hc
    have h32 := pow32 hk
    obtain ⟨r1, e1, g1⟩ := rises_eq hk f hl
    obtain ⟨r2, e2, g2⟩ := refRises_eq f (by omega)
    have h12 : r1 = r2 := by rw [Bool.eq_iff_iff, g1, g2]
    subst h12
    rw [hc, e1, e2]
    simp only [Option.bind_some, bne_self_eq_false, cond_false, Option.isSome_some, Bool.or_true, cond_true, Option.getD_some, beq_self_eq_true, Bool.true_and]
    cases hr : r1 with
    | false => simp [syllogistlaw_FixLeasts_k7]
    | true =>
      simp only [Bool.not_true, cond_false]
      obtain ⟨s, es, h1, h2, h3⟩ := from_low hl hfin (g1.1 hr) fuel (by omega)
      rw [es, Option.bind_some, Option.bind_some]
      unfold syllogistlaw_FixLeasts_k7
      simp only [bne_self_eq_false, cond_false]
      obtain ⟨l, el, hm⟩ := fixed_eq f (by omega)
      rw [el, Option.bind_some]
      refine for0_eq (fun t (b : Bool) => b = true ↔ ∃ i, ∃ h : i < l.length, i < t ∧ l[i] = s) rfl _ ⟨fun h => absurd h (by simp), fun ⟨i, _, h, _⟩ => absurd h (by omega)⟩ (fun t b nx ht hI hnx => ?_) (fun b hI => ?_)
      · unfold syllogistlaw_FixLeasts_b22
        rw [geti_at ht, Option.bind_some, in_eq, Option.bind_some]
        have hmem := (hm l[t]).1 (List.getElem_mem ht)
        simp only [or_iff.2 (h3 l[t] hmem.1 hmem.2), Bool.not_true, cond_false]
        refine hnx _ ?_
        rw [Bool.or_eq_true, hI, beq_iff_eq]
        constructor
        · rintro (⟨i, h, hit, e⟩ | e)
          · exact ⟨i, h, by omega, e⟩
          · exact ⟨t, ht, by omega, e⟩
        · rintro ⟨i, h, hit, e⟩
          by_cases ei : i = t
          · subst ei; exact .inr e
          · exact .inl ⟨i, h, by omega, e⟩
      · unfold syllogistlaw_FixLeasts_k18
        have : b = true := by
          rw [hI]
          obtain ⟨i, hi, e⟩ := List.getElem_of_mem ((hm s).2 ⟨h1, h2⟩)
          exact ⟨i, hi, hi, e⟩
        simp [this]
  · have h1 : (fcode n f != 0) = true := by simpa using hc
    have h2 : (fcode n f == 0) = false := by simpa using hc
    simp [h1, h2, syllogistlaw_FixLeasts_k7]

theorem start_eq {k : Nat} (hk : k ≤ 5) {f : List (BitVec 32)} (hl : f.length = 2 ^ k) : BitVec.ofInt 32 (w64 ((if (1 : Int) > (f.length : Int) then (1 : Int) else (f.length : Int)) - (1 : Int))) = full k := by
  have h32 := pow32 hk
  have hp : 0 < 2 ^ k := Nat.pow_pos (by omega)
  rw [if_neg (by omega), hl]
  have : w64 (((2 ^ k : Nat) : Int) - 1) = ((2 ^ k - 1 : Nat) : Int) := by
    generalize 2 ^ k = g at h32 hp
    rw [w64_id (by omega) (by omega)]; omega
  rw [this]
  refine BitVec.eq_of_toNat_eq ?_
  rw [full_toNat (by omega)]
  generalize 2 ^ k = g at h32 hp
  simp; omega

theorem fixMosts_true (fuel : Nat) (n : Int) (f : List (BitVec 32)) (hfu : 100 < fuel := by decide) : syllogistlaw_FixMosts fuel n f = some true := by
  unfold syllogistlaw_FixMosts fix_Most fix_from
  rw [wrong_eq, mapCheck_eq]
  by_cases hc : fcode n f = 0
  · obtain ⟨k, rfl, hk1, hk, hl, hfin⟩ := fcode_ok hc
    have h32 := pow32 hk
    obtain ⟨r1, e1, g1⟩ := rises_eq hk f hl
    obtain ⟨r2, e2, g2⟩ := refRises_eq f (by omega)
    have h12 : r1 = r2 := by rw [Bool.eq_iff_iff, g1, g2]
    subst h12
    rw [hc, e1, e2, start_eq hk hl]
    simp only [Option.bind_some, bne_self_eq_false, cond_false, Option.isSome_some, Bool.or_true, cond_true, Option.getD_some, beq_self_eq_true, Bool.true_and]
    cases hr : r1 with
    | false => simp [syllogistlaw_FixMosts_k7]
    | true =>
      simp only [Bool.not_true, cond_false]
      obtain ⟨s, es, h1, h2, h3⟩ := from_high hl hk hfin (g1.1 hr) fuel (by omega)
      rw [es, Option.bind_some, Option.bind_some]
      unfold syllogistlaw_FixMosts_k7
      simp only [bne_self_eq_false, cond_false]
      obtain ⟨l, el, hm⟩ := fixed_eq f (by omega)
      rw [el, Option.bind_some]
      refine for0_eq (fun t (b : Bool) => b = true ↔ ∃ i, ∃ h : i < l.length, i < t ∧ l[i] = s) rfl _ ⟨fun h => absurd h (by simp), fun ⟨i, _, h, _⟩ => absurd h (by omega)⟩ (fun t b nx ht hI hnx => ?_) (fun b hI => ?_)
      · unfold syllogistlaw_FixMosts_b22
        rw [geti_at ht, Option.bind_some, in_eq, Option.bind_some]
        have hmem := (hm l[t]).1 (List.getElem_mem ht)
        simp only [or_iff.2 (h3 l[t] hmem.1 hmem.2), Bool.not_true, cond_false]
        refine hnx _ ?_
        rw [Bool.or_eq_true, hI, beq_iff_eq]
        constructor
        · rintro (⟨i, h, hit, e⟩ | e)
          · exact ⟨i, h, by omega, e⟩
          · exact ⟨t, ht, by omega, e⟩
        · rintro ⟨i, h, hit, e⟩
          by_cases ei : i = t
          · subst ei; exact .inr e
          · exact .inl ⟨i, h, by omega, e⟩
      · unfold syllogistlaw_FixMosts_k18
        have : b = true := by
          rw [hI]
          obtain ⟨i, hi, e⟩ := List.getElem_of_mem ((hm s).2 ⟨h1, h2⟩)
          exact ⟨i, hi, hi, e⟩
        simp [this]
  · have h1 : (fcode n f != 0) = true := by simpa using hc
    have h2 : (fcode n f == 0) = false := by simpa using hc
    simp [h1, h2, syllogistlaw_FixMosts_k7]
end Go.Proofs.Ytohfiinnkoinlaa.Sy
