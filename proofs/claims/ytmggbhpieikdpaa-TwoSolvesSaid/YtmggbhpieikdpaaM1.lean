/- Clauses: what must be true, and the first word: the plain laws; no program in sight. -/
import Derived.Test.YtmggbhpieikdpaaMb
namespace Go.Proofs.Ytmggbhpieikdpaa.Sy
set_option linter.unusedVariables false

theorem contC (s : List Clause) (f : Clause → Option Bool) (p : Clause → Bool) (hf : ∀ a ∈ s, f a = some (p a)) : slices_ContainsFunc_SapiClauseapiClause s f = some (s.any p) := any_shape s f p hf
theorem bit_eq (w : BitVec 32) (j : Nat) (hj : j < 32) : syllogistref_Bit w j = some (w.getLsbD j) := congrArg some (bit_shape w j hj)
theorem fits_eq {n : Nat} (hn : n < 32) (s : BitVec 32) : syllogistref_Fits n s = some (decide (s < 1#32 <<< n)) := congrArg some (fits_shape hn s)
theorem size_eq (w : BitVec 32) : syllogistref_Size w = some (cntN 32 w.getLsbD : Int) := by
  unfold syllogistref_Size
  refine (for_cnt (n := 32) w.getLsbD rfl (by omega) (fun j s nx hj => ?_)).trans rfl
  unfold syllogistref_Size_b9
  rw [bit_eq _ _ hj, Option.bind_some, cond_nx]
theorem and0 {a b : BitVec 32} : ((a &&& b) == 0#32) = true ↔ ∀ i, a.getLsbD i = true → b.getLsbD i = false := by
  rw [beq_iff_eq]
  constructor
  · intro h i ha
    have := congrArg (fun z : BitVec 32 => z.getLsbD i) h
    simpa [ha] using this
  · intro h
    refine bits_ext fun i => ?_
    rw [BitVec.getLsbD_and, Bool.and_eq_true]
    simp only [BitVec.getLsbD_zero, Bool.false_eq_true, iff_false]
    rintro ⟨ha, hb⟩
    rw [h i ha] at hb; cases hb
theorem and1 {a b : BitVec 32} : ((a &&& b) != 0#32) = true ↔ ∃ i, a.getLsbD i = true ∧ b.getLsbD i = true := by
  rw [show ((a &&& b) != 0#32) = !((a &&& b) == 0#32) from rfl, Bool.not_eq_true', ← Bool.not_eq_true, and0]
  simp only [Classical.not_forall, Bool.not_eq_false, exists_prop]
theorem cnt_zero {n : Nat} {p : Nat → Bool} : cntN n p = 0 ↔ ∀ j, j < n → p j = false := by
  induction n with
  | zero => simp [cntN]
  | succ n ih =>
    rw [cntN]
    cases hp : p n with
    | true =>
      rw [cond_true]
      constructor
      · intro h; omega
      · intro h; have := h n (by omega); rw [hp] at this; cases this
    | false =>
      rw [cond_false, ih]
      exact ⟨fun h j hj => if e : j = n then e ▸ hp else h j (by omega), fun h j hj => h j (by omega)⟩
theorem cnt_one {n : Nat} {p : Nat → Bool} (h : cntN n p = 1) : ∃ i, i < n ∧ p i = true ∧ ∀ j, j < n → p j = true → j = i := by
  induction n with
  | zero => simp [cntN] at h
  | succ n ih =>
    rw [cntN] at h
    cases hp : p n with
    | true =>
      rw [hp, cond_true] at h
      have h0 : cntN n p = 0 := by omega
      rw [cnt_zero] at h0
      refine ⟨n, by omega, hp, fun j hj hpj => ?_⟩
      by_cases e : j = n
      · exact e
      · rw [h0 j (by omega)] at hpj; cases hpj
    | false =>
      rw [hp, cond_false] at h
      obtain ⟨i, hi, h1, h2⟩ := ih h
      refine ⟨i, by omega, h1, fun j hj hpj => ?_⟩
      by_cases e : j = n
      · subst e; rw [hp] at hpj; cases hpj
      · exact h2 j (by omega) hpj

abbrev cl (l : List Clause) (i : Nat) : Clause := l[i]?.getD { yes := 0#32, no := 0#32 }
theorem geti_cl {l : List Clause} {i : Nat} (h : i < l.length) : geti l (i : Int) = some (cl l i) := geti_d _ h
structure SOk (n : Int) (l : List Clause) (k : Nat) : Prop where
  n : n = k
  k1 : 1 ≤ k
  k6 : k ≤ 6
  len : l.length ≤ 16
  yes : ∀ i, i < l.length → bel k (cl l i).yes
  no : ∀ i, i < l.length → bel k (cl l i).no

theorem scheck (n : Int) (l : List Clause) : ∃ r, clause_wrong n l = some r ∧ syllogistref_SatCheck n l = some r ∧ (r = 0 → ∃ k, SOk n l k) := by
  unfold clause_wrong syllogistref_SatCheck
  cases hb : (((decide (n < (1 : Int))) || (decide (n > (6 : Int)))) || (decide ((l.length : Int) > (16 : Int)))) with
  | true => exact ⟨1, rfl, rfl, by simp⟩
  | false =>
    simp only [Bool.or_eq_false_iff, decide_eq_false_iff_not] at hb
    obtain ⟨⟨h1, h2⟩, h3⟩ := hb
    obtain ⟨k, rfl⟩ : ∃ k : Nat, n = k := ⟨n.toNat, by omega⟩
    have hshr : ∀ c : Clause, (((c.yes ||| c.no) >>> k) != 0#32) = (!decide (c.yes < 1#32 <<< k) || !decide (c.no < 1#32 <<< k)) := fun c => by
      rw [shr_ne (by omega), Bool.eq_iff_iff]
      simp only [Bool.not_eq_true', Bool.or_eq_true, decide_eq_false_iff_not, bel_lt (show k < 32 by omega), bel_or]
      exact Classical.not_and_iff_not_or_not
    simp only [cond_false]
    rw [contC l (fun a => clause_wrong_c1 a k) (fun c => !decide (c.yes < 1#32 <<< k) || !decide (c.no < 1#32 <<< k)) (fun a _ => by
      unfold clause_wrong_c1
      rw [decide_eq_true (by omega), cond_true, Int.toNat_natCast, hshr]), Option.bind_some, any_len]
    rw [for_out (n := l.length) (fun j => (l[j]?.map fun c => !decide (c.yes < 1#32 <<< k) || !decide (c.no < 1#32 <<< k)).getD false) (some 4) rfl (fun j nx hj => by
      unfold syllogistref_SatCheck_b7
      rw [geti_at hj, Option.bind_some, fits_eq (by omega), Option.bind_some, fits_eq (by omega), List.getElem?_eq_getElem hj]
      simp only [Option.isSome_some, Bool.or_true, cond_true, Option.getD_some, Option.map_some])]
    unfold syllogistref_SatCheck_k3
    cases ha : anyN l.length (fun j => (l[j]?.map fun c => !decide (c.yes < 1#32 <<< k) || !decide (c.no < 1#32 <<< k)).getD false) with
    | true => exact ⟨4, rfl, rfl, by simp⟩
    | false =>
      have hall : ∀ i, i < l.length → bel k (cl l i).yes ∧ bel k (cl l i).no := fun i hi => by
        have := anyN_false.1 ha i hi
        rw [List.getElem?_eq_getElem hi] at this
        simp only [Option.map_some, Option.getD_some, Bool.or_eq_false_iff, Bool.not_eq_false', decide_eq_true_eq] at this
        rw [show cl l i = l[i] from getd_at _ hi]
        exact ⟨(bel_lt (by omega)).1 this.1, (bel_lt (by omega)).1 this.2⟩
      exact ⟨0, rfl, rfl, fun _ => ⟨k, rfl, by omega, by omega, by omega, fun i hi => (hall i hi).1, fun i hi => (hall i hi).2⟩⟩

/-- Is a clause true of a word? -/
def CS (c : Clause) (t : BitVec 32) : Prop := (∃ b, c.yes.getLsbD b = true ∧ t.getLsbD b = true) ∨ ∃ b, c.no.getLsbD b = true ∧ t.getLsbD b = false
noncomputable def tr (l : List Clause) (t : BitVec 32) : Bool := tru (∀ i, i < l.length → CS (cl l i) t)
theorem cs_iff (c : Clause) (t : BitVec 32) : (((c.yes &&& t) == 0#32) && ((c.no ||| t) == t)) = tru (¬CS c t) := by
  refine tru_of ?_
  rw [Bool.and_eq_true, and0, or_iff]
  unfold CS sb
  constructor
  · rintro ⟨h1, h2⟩ (⟨b, hb, ht⟩ | ⟨b, hb, ht⟩)
    · rw [h1 b hb] at ht; cases ht
    · rw [h2 b hb] at ht; cases ht
  · intro h
    refine ⟨fun b hb => ?_, fun b hb => ?_⟩
    · cases ht : t.getLsbD b with
      | false => rfl
      | true => exact absurd (.inl ⟨b, hb, ht⟩) h
    · cases ht : t.getLsbD b with
      | true => rfl
      | false => exact absurd (.inr ⟨b, hb, ht⟩) h
theorem true_eq (l : List Clause) (t : BitVec 32) : syllogistref_True l t = some (tr l t) := by
  unfold syllogistref_True
  rw [for_out (n := l.length) (fun i => tru (¬CS (cl l i) t)) (some false) rfl (fun i nx hi => by
    unfold syllogistref_True_b7
    rw [geti_cl hi, Option.bind_some]
    unfold syllogistref_In
    simp only [Option.isSome_some, Bool.or_true, cond_true, Option.getD_some]
    rw [cs_iff])]
  unfold syllogistref_True_k3 tr
  cases ha : anyN l.length (fun i => tru (¬CS (cl l i) t)) with
  | true =>
    obtain ⟨i, hi, h⟩ := anyN_iff.1 ha
    rw [cond_true, tru_false.2 fun hall => tru_iff.1 h (hall i hi)]
  | false =>
    rw [cond_false, tru_iff.2 fun i hi => Classical.not_not.1 (tru_false.1 (anyN_false.1 ha i hi))]
theorem pow64 {k : Nat} (h : k ≤ 6) : 2 ^ k ≤ 64 := Nat.pow_le_pow_right (n := 2) (by omega) h
theorem bel64 {k : Nat} (h : k ≤ 6) {s : BitVec 32} (hs : bel k s) : s.toNat < 64 := by
  have := bel_toNat.1 hs
  have := pow64 h
  omega

/-! ### At most one Yes -/
theorem one_small : ∀ y : Nat, y < 64 → (decide (y &&& (y - 1) ≠ 0)) = decide (1 < cntN 32 (BitVec.ofNat 32 y).getLsbD) := by decide +kernel
theorem minus1 {y : BitVec 32} (h : y.toNat < 64) : ((y &&& (y - 1#32)) != 0#32) = decide (1 < cntN 32 y.getLsbD) := by
  have h1 := one_small y.toNat h
  have hy : BitVec.ofNat 32 y.toNat = y := by simp
  rw [hy] at h1
  rw [← h1, Bool.eq_iff_iff, bne_iff_ne, decide_eq_true_eq]
  have e : (y &&& (y - 1#32)).toNat = y.toNat &&& (y.toNat - 1) := by
    rw [BitVec.toNat_and]
    by_cases h0 : y.toNat = 0
    · rw [h0]; simp
    · congr 1
      rw [BitVec.toNat_sub]
      simp; omega
  rw [← e]
  constructor
  · intro h h'; exact h (BitVec.eq_of_toNat_eq (by simpa using h'))
  · intro h h'; exact h (by rw [h']; rfl)

def fires (c : Clause) (s : BitVec 32) : Bool := ((c.no &&& ~~~s) == 0#32) && ((c.yes &&& s) == 0#32)
theorem fires_iff (c : Clause) (s : BitVec 32) : fires c s = true ↔ ¬CS c s := by
  have := cs_iff c s
  rw [show fires c s = (((c.yes &&& s) == 0#32) && ((c.no ||| s) == s)) by unfold fires; rw [andn_or, Bool.and_comm], this, tru_iff]
def HornQ (k : Nat) (l : List Clause) (o : Option (BitVec 32 × Int)) : Prop :=
  (∃ s, o = some (s, 0) ∧ bel k s ∧ tr l s = true ∧ ∀ t, bel k t → tr l t = true → sb s t) ∨ (o = some (0#32, 5) ∧ ∀ t, bel k t → tr l t = false)

theorem horn_loop {n : Int} {l : List Clause} {k : Nat} (h : SOk n l k) (hone : ∀ i, i < l.length → ¬1 < cntN 32 (cl l i).yes.getLsbD) (fuel : Nat) (hf : 200 < fuel) : HornQ k l (whileK (σ := (BitVec 32) × Bool) (fun s nx_ => clause_Horn_b12 l s.1 s.2 nx_) fuel ((0#32), true)) := by
  have k6 := h.k6
  refine whileK_q (Q := HornQ k l) (fun (z : BitVec 32 × Bool) => bel k z.1 ∧ (∀ t, bel k t → tr l t = true → sb z.1 t) ∧ (z.2 = false → ∀ i, i < l.length → fires (cl l i) z.1 = false)) (fun z => 2 * (64 - z.1.toNat) + (if z.2 = true then 1 else 0)) (fun z nx hI hnx => ?_) fuel _ ⟨fun j hj => by simp at hj, fun t _ _ => sb_zero t, fun h => by cases h⟩ (by simp; omega)
  obtain ⟨s, more⟩ := z
  obtain ⟨g1, g2, g3⟩ := hI
  simp only at g1 g2 g3 ⊢
  unfold clause_Horn_b12
  cases more with
  | false =>
    rw [cond_false]
    unfold clause_Horn_k10
    refine .inl ⟨s, rfl, g1, tru_iff.2 fun i hi => Classical.not_not.1 fun hn => ?_, g2⟩
    have := g3 rfl i hi
    rw [(fires_iff _ _).2 hn] at this; cases this
  | true =>
    rw [cond_true]
    have hs64 := bel64 k6 g1
    refine for0_q (Q := HornQ k l) (fun t s' => bel k s' ∧ sb s s' ∧ (∀ u, bel k u → tr l u = true → sb s' u) ∧ (s' = s → ∀ i, i < t → fires (cl l i) s = false)) rfl s ⟨g1, sb_refl s, g2, fun _ i hi => by omega⟩ (fun t s' nx' ht hJ hnx' => ?_) (fun s' hJ => ?_)
    · obtain ⟨j1, j2, j3, j4⟩ := hJ
      unfold clause_Horn_b24
      rw [geti_cl ht, Option.bind_some]
      show HornQ k l (bif fires (cl l t) s' then _ else _)
      cases hfr : fires (cl l t) s' with
      | false =>
        rw [cond_false]
        refine hnx' _ ⟨j1, j2, j3, fun e i hi => ?_⟩
        by_cases hit : i = t
        · subst hit; subst e; exact hfr
        · exact j4 e i (by omega)
      | true =>
        rw [cond_true]
        have hcs := (fires_iff _ _).1 hfr
        have hno : ∀ b, (cl l t).no.getLsbD b = true → s'.getLsbD b = true := fun b hb => by
          cases hsb : s'.getLsbD b with
          | true => rfl
          | false => exact absurd (.inr ⟨b, hb, hsb⟩) hcs
        have hyes : ∀ b, (cl l t).yes.getLsbD b = true → s'.getLsbD b = false := fun b hb => by
          cases hsb : s'.getLsbD b with
          | false => rfl
          | true => exact absurd (.inl ⟨b, hb, hsb⟩) hcs
        have hneed : ∀ u, bel k u → tr l u = true → ∃ b, (cl l t).yes.getLsbD b = true ∧ u.getLsbD b = true := fun u hu htr => by
          rcases tru_iff.1 htr t ht with h | ⟨b, hb, hub⟩
          · exact h
          · have := j3 u hu htr b (hno b hb)
            rw [this] at hub; cases hub
        cases hz : ((cl l t).yes == 0#32) with
        | true =>
          rw [cond_true]
          refine .inr ⟨rfl, fun u hu => ?_⟩
          cases htr : tr l u with
          | false => rfl
          | true =>
            obtain ⟨b, hb, _⟩ := hneed u hu htr
            rw [beq_iff_eq.1 hz] at hb
            simp at hb
        | false =>
          rw [cond_false]
          have hc1 : cntN 32 (cl l t).yes.getLsbD = 1 := by
            have := hone t ht
            have hne : cntN 32 (cl l t).yes.getLsbD ≠ 0 := fun e => by
              rw [cnt_zero] at e
              have : (cl l t).yes = 0#32 := bits_ext fun i => by
                by_cases hi : i < 32
                · rw [e i hi]; simp
                · rw [BitVec.getLsbD_of_ge _ _ (by omega), BitVec.getLsbD_of_ge _ _ (by omega)]
              rw [this] at hz; cases hz
            omega
          obtain ⟨b, hb32, hb, huniq⟩ := cnt_one hc1
          refine hnx' _ ⟨bel_or.2 ⟨j1, h.yes t ht⟩, j2.trans (sb_orl _ _), fun u hu htr => sb_or.2 ⟨j3 u hu htr, fun i hi => ?_⟩, fun e i hi => ?_⟩
          · obtain ⟨b', hb', hub⟩ := hneed u hu htr
            rw [huniq i (bit32 hi) hi, ← huniq b' (bit32 hb') hb']; exact hub
          · exfalso
            have : (s' ||| (cl l t).yes).getLsbD b = true := sb_orr _ _ b hb
            rw [e] at this
            have := j2 b this
            rw [hyes b hb] at this; cases this
    · obtain ⟨j1, j2, j3, j4⟩ := hJ
      unfold clause_Horn_k20
      by_cases e : s' = s
      · subst e
        rw [show (s' != s') = false by simp]
        exact hnx _ ⟨j1, j3, fun _ i hi => j4 rfl i hi⟩ (by simp)
      · rw [show (s' != s) = true by simpa using e]
        have hlt := j2.lt (fun h => e h.symm)
        have := bel64 k6 j1
        exact hnx _ ⟨j1, j3, fun h => by cases h⟩ (by simp only [if_true]; omega)

theorem clauseHorns_true (fuel : Nat) (n : Int) (l : List Clause) (hf : 200 < fuel := by decide) : syllogistlaw_ClauseHorns fuel n l = some true := by
  unfold syllogistlaw_ClauseHorns clause_Horn
  obtain ⟨r, e1, e2, h⟩ := scheck n l
  rw [e1, e2]
  simp only [Option.bind_some]
  have hloop : ∀ r1 : BitVec 32 × Int, forK (σ := Int) (fun i s nx_ => syllogistlaw_ClauseHorns_b30 l i s nx_) (fun s => syllogistlaw_ClauseHorns_k10 n l r1 s) ((l.length : Int) - (0 : Int)).toNat (0 : Int) r = syllogistlaw_ClauseHorns_k10 n l r1 (bif (r == 0) && anyN l.length (fun i => decide (1 < cntN 32 (cl l i).yes.getLsbD)) then 3 else r) := fun r1 => by
    refine for_rec (n := l.length) (fun t => bif (r == 0) && anyN t (fun i => decide (1 < cntN 32 (cl l i).yes.getLsbD)) then (3 : Int) else r) rfl (by simp [anyN]) (fun t nx ht => ?_)
    unfold syllogistlaw_ClauseHorns_b30
    rw [geti_cl ht, Option.bind_some, size_eq]
    simp only [Option.isSome_some, Bool.or_true, cond_true, Option.getD_some, anyN]
    have hd : decide (((cntN 32 (cl l t).yes.getLsbD : Nat) : Int) > 1) = decide (1 < cntN 32 (cl l t).yes.getLsbD) := by
      rw [Bool.eq_iff_iff, decide_eq_true_eq, decide_eq_true_eq]; omega
    rw [hd]
    by_cases hr : r = 0
    · subst hr
      cases anyN t (fun i => decide (1 < cntN 32 (cl l i).yes.getLsbD)) <;> cases decide (1 < cntN 32 (cl l t).yes.getLsbD) <;> rfl
    · have : (r == 0) = false := by simpa using hr
      simp [this]
  by_cases hr : r = 0
  · subst hr
    obtain ⟨k, h⟩ := h rfl
    have k6 := h.k6
    simp only [bne_self_eq_false, cond_false]
    rw [contC l (fun a => clause_Horn_c1 a) (fun c => ((c.yes &&& (c.yes - 1#32)) != 0#32)) (fun a _ => rfl), Option.bind_some]
    simp only [hloop]
    have hany : l.any (fun c => ((c.yes &&& (c.yes - 1#32)) != 0#32)) = anyN l.length (fun i => decide (1 < cntN 32 (cl l i).yes.getLsbD)) := by
      rw [any_len]
      refine anyN_congr fun j hj => ?_
      rw [List.getElem?_eq_getElem hj, Option.map_some, Option.getD_some, show cl l j = l[j] from getd_at _ hj]
      exact minus1 (bel64 k6 (by have := h.yes j hj; rwa [show cl l j = l[j] from getd_at _ hj] at this))
    rw [hany]
    cases ha : anyN l.length (fun i => decide (1 < cntN 32 (cl l i).yes.getLsbD)) with
    | true =>
      simp only [beq_self_eq_true, Bool.and_self, cond_true, Option.bind_some]
      unfold syllogistlaw_ClauseHorns_k10
      rfl
    | false =>
      have hone : ∀ i, i < l.length → ¬1 < cntN 32 (cl l i).yes.getLsbD := fun i hi => by
        have := anyN_false.1 ha i hi
        simpa using this
      have hL := horn_loop h hone fuel hf
      have hn := h.n
      subst hn
      have hB : (1#32 <<< k).toNat = 2 ^ k := one_shl_toNat (by omega)
      have hk10 : ∀ r1 : BitVec 32 × Int, (∀ want sm, (sm = true ↔ ∃ t, bel k t ∧ tr l t = true) → (∀ b, want.getLsbD b = true ↔ b < k ∧ ∀ t, bel k t → tr l t = true → t.getLsbD b = true) → syllogistlaw_ClauseHorns_k20 r1 want sm = some true) → syllogistlaw_ClauseHorns_k10 k l r1 0 = some true := fun r1 hfin => by
        unfold syllogistlaw_ClauseHorns_k10
        rw [show ((0 : Int) != 0) = false from rfl, cond_false, ofInt64 (by omega)]
        refine forU_q (Q := fun o => o = some true) (fun j (z : BitVec 32 × Bool) => (z.2 = true ↔ ∃ t : BitVec 32, t.toNat < j ∧ tr l t = true) ∧ ∀ b, z.1.getLsbD b = true ↔ b < k ∧ ∀ t : BitVec 32, t.toNat < j → tr l t = true → t.getLsbD b = true) _ ⟨⟨fun h => (by cases h), fun ⟨t, ht, _⟩ => by omega⟩, fun b => ?_⟩ (fun c z nx hc hI hnx => ?_) (fun z hI => ?_)
        · have := full_bit (n := k) (by omega) b
          unfold full at this
          rw [this]
          exact ⟨fun hb => ⟨hb, fun t ht => by omega⟩, fun hb => hb.1⟩
        · obtain ⟨want, sm⟩ := z
          obtain ⟨g1, g2⟩ := hI
          simp only at g1 g2 ⊢
          unfold syllogistlaw_ClauseHorns_b23
          rw [true_eq, Option.bind_some]
          have hsplit : ∀ t : BitVec 32, t.toNat < c.toNat + 1 ↔ t.toNat < c.toNat ∨ t = c := fun t => by
            constructor
            · intro h
              by_cases e : t.toNat = c.toNat
              · exact .inr (BitVec.eq_of_toNat_eq e)
              · exact .inl (by omega)
            · rintro (h | h)
              · omega
              · subst h; omega
          cases htr : tr l c with
          | true =>
            rw [cond_true]
            refine hnx _ ⟨⟨fun _ => ⟨c, by omega, htr⟩, fun _ => rfl⟩, fun b => ?_⟩
            simp only
            rw [BitVec.getLsbD_and, Bool.and_eq_true, g2]
            constructor
            · rintro ⟨⟨h1, h2⟩, h3⟩
              refine ⟨h1, fun t ht htt => ?_⟩
              rcases (hsplit t).1 ht with h | h
              · exact h2 t h htt
              · subst h; exact h3
            · rintro ⟨h1, h2⟩
              exact ⟨⟨h1, fun t ht => h2 t (by omega)⟩, h2 c (by omega) htr⟩
          | false =>
            rw [cond_false]
            refine hnx _ ⟨g1.trans ⟨fun ⟨t, ht, h⟩ => ⟨t, by omega, h⟩, fun ⟨t, ht, h⟩ => ?_⟩, fun b => (g2 b).trans (and_congr_right fun _ => ⟨fun h t ht htt => ?_, fun h t ht => h t (by omega)⟩)⟩
            · rcases (hsplit t).1 ht with h' | h'
              · exact ⟨t, h', h⟩
              · subst h'; rw [htr] at h; cases h
            · rcases (hsplit t).1 ht with h' | h'
              · exact h t h' htt
              · subst h'; rw [htr] at htt; cases htt
        · obtain ⟨want, sm⟩ := z
          obtain ⟨g1, g2⟩ := hI
          simp only at g1 g2 ⊢
          refine hfin want sm (g1.trans (exists_congr fun t => and_congr_left fun _ => ?_)) fun b => (g2 b).trans (and_congr_right fun _ => forall_congr' fun t => imp_congr_left ?_)
          · rw [hB, bel_toNat]
          · rw [hB, bel_toNat]
      simp only [cond_false, Bool.and_false]
      rcases hL with ⟨s, e, hs, hst, hleast⟩ | ⟨e, hno⟩
      · rw [e, Option.bind_some]
        refine hk10 _ fun want sm h1 h2 => ?_
        unfold syllogistlaw_ClauseHorns_k20
        rw [h1.2 ⟨s, hs, hst⟩]
        have : s = want := bits_ext fun b => by
          rw [h2 b]
          exact ⟨fun hb => ⟨hs b hb, fun t ht htt => hleast t ht htt b hb⟩, fun hb => hb.2 s hs hst⟩
        simp [this]
      · rw [e, Option.bind_some]
        refine hk10 _ fun want sm h1 h2 => ?_
        unfold syllogistlaw_ClauseHorns_k20
        cases sm with
        | false => rfl
        | true =>
          obtain ⟨t, ht, htt⟩ := h1.1 rfl
          rw [hno t ht] at htt; cases htt
  · have hb : (r != 0) = true := by simpa using hr
    have h0 : (r == 0) = false := by simpa using hr
    simp only [hb, cond_true, Option.bind_some]
    simp only [hloop, h0, Bool.false_and, cond_false]
    unfold syllogistlaw_ClauseHorns_k10
    simp [hb]
end Go.Proofs.Ytmggbhpieikdpaa.Sy
