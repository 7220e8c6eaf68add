/- Shares put together: the plain law; no program in sight. -/
import Derived.Test.YtjpoedjmoobapaaM1
namespace Go.Proofs.Ytjpoedjmoobapaa.Sy
set_option linter.unusedVariables false

theorem contR (s : List (List Int)) (f : List Int → Option Bool) (p : List Int → Bool) (hf : ∀ a ∈ s, f a = some (p a)) : slices_ContainsFunc_SSintSint s f = some (s.any p) := any_shape s f p hf
theorem contI (s : List Int) (f : Int → Option Bool) (p : Int → Bool) (hf : ∀ a ∈ s, f a = some (p a)) : slices_ContainsFunc_Sintint s f = some (s.any p) := any_shape s f p hf
theorem bit_eq (w : BitVec 32) (j : Nat) (hj : j < 32) : syllogistref_Bit w j = some (w.getLsbD j) := congrArg some (bit_shape w j hj)

theorem mostlost_eq {n : Int} {l : List (BitVec 32)} {k : Nat} (h : DOk n l k) : syllogistref_MostLost k l = some (flt (MostL k l) (1#32 <<< k).toNat) := by
  have k6 := h.k6
  have hB : (1#32 <<< k).toNat = 2 ^ k := one_shl_toNat (by omega)
  have hp := pow64 k6
  unfold syllogistref_MostLost
  rw [ofInt64 (by omega)]
  rw [forU_flt (MostL k l) (fun t s nx ht hs => by
    have hlen : s.length < 64 := by have := flt_len (P := MostL k l) (m := t.toNat); subst hs; omega
    unfold syllogistref_MostLost_b13
    rw [rlost_eq, Option.bind_some, ofInt64 (by omega)]
    rw [forU_rec (fun j => tru (Lst l t ∧ ∀ m : BitVec 32, m.toNat < j → sb t m → m ≠ t → ¬Lst l m)) (tru_congr ⟨fun h => ⟨h, fun i hi => by omega⟩, fun h => h.1⟩) (fun c nx hc => by
      unfold syllogistref_MostLost_b30
      rw [in_eq, rlost_eq]
      simp only [Option.isSome_some, Bool.or_true, cond_true, Option.getD_some]
      rw [cond_nx]
      refine congrArg nx (tru_of ?_)
      cases hx : (((c != t) && tru (sb t c)) && tru (Lst l c)) with
      | true =>
        rw [cond_true]
        rw [Bool.and_eq_true, Bool.and_eq_true, bne_iff_ne, tru_iff, tru_iff] at hx
        simp only [Bool.false_eq_true, false_iff]
        rintro ⟨_, h2⟩
        exact h2 c (by omega) hx.1.2 hx.1.1 hx.2
      | false =>
        rw [cond_false, tru_iff]
        refine and_congr_right fun hl => ⟨fun h m hm hs hne hlm => ?_, fun h m hm => h m (by omega)⟩
        by_cases e : m.toNat = c.toNat
        · have := BitVec.eq_of_toNat_eq e
          subst this
          rw [tru_iff.2 hs, tru_iff.2 hlm, bne_iff_ne.2 hne] at hx
          cases hx
        · exact h m (by omega) hs hne hlm)]
    unfold syllogistref_MostLost_k23
    rw [decide_eq_true (by simp only [List.length_cons, List.length_nil]; omega), cond_true]
    have : tru (Lst l t ∧ ∀ m : BitVec 32, m.toNat < (1#32 <<< k).toNat → sb t m → m ≠ t → ¬Lst l m) = tru (MostL k l t) := tru_congr (and_congr_right fun _ => forall_congr' fun m => by
      rw [hB, ← bel_toNat])
    rw [this]
    cases tru (MostL k l t) with
    | true => rw [cond_true, cond_true]
    | false => rw [cond_false, cond_false, List.append_nil])]
  rfl
theorem lostl_eq {n : Int} {l : List (BitVec 32)} {k : Nat} (h : DOk n l k) : share_lost k l = some (flt (MostL k l) (1#32 <<< k).toNat, 0) := by
  have k6 := h.k6
  have hn := h.n
  subst hn
  have hB : (1#32 <<< k).toNat = 2 ^ k := one_shl_toNat (by omega)
  have hp := pow64 k6
  have e1 : share_lost k l = bif decide (0 ≤ (k : Int)) then forK (σ := (List (BitVec 32))) (fun i s nx_ => share_lost_b22 k l i s nx_) (fun s => share_lost_k17 s) (((1#32 <<< (k : Int).toNat)).toNat - (0#32).toNat) 0#32 (([] : List (BitVec 32))) else none := by
    rcases dcheck (k : Int) l with ⟨r, hr, _, e2⟩ | ⟨_, _, e⟩
    · exfalso
      unfold syllogistref_SetsCheck at e2
      have hb : (((decide ((k : Int) < (1 : Int))) || (decide ((k : Int) > (6 : Int)))) || (decide ((l.length : Int) > (10 : Int)))) = false := by
        have := h.k1; have := h.len
        simp only [Bool.or_eq_false_iff, decide_eq_false_iff_not]; omega
      rw [hb, cond_false, for_out (n := l.length) (fun _ => false) (some 4) rfl (fun j nx hj => by
        unfold syllogistref_SetsCheck_b7
        rw [geti_wd hj, Option.bind_some, fits_eq (by omega), Option.bind_some, decide_eq_true ((bel_lt (by omega)).2 (h.bel j hj))]; rfl), anyN_false.2 fun _ _ => rfl, cond_false] at e2
      exact hr (Option.some.inj e2).symm
    · exact e
  rw [e1, decide_eq_true (by omega), cond_true, Int.toNat_natCast]
  rw [forU_flt (MostL k l) (fun t s nx ht hs => by
    have hlen : s.length < 64 := by have := flt_len (P := MostL k l) (m := t.toNat); subst hs; omega
    unfold share_lost_b22
    rw [lost_eq, Option.bind_some, decide_eq_true (by omega), cond_true]
    have hbt : bel k t := bel_toNat.2 (by omega)
    rw [for_rec (n := k) (fun j => tru (Lst l t ∧ ∀ i, i < j → t.getLsbD i = true ∨ ¬Lst l (t ||| 1#32 <<< i))) rfl (tru_congr ⟨fun h => ⟨h, fun i hi => by omega⟩, fun h => h.1⟩) (fun j nx hj => by
      unfold share_lost_b40
      rw [lost_eq]
      simp only [Option.isSome_some, Bool.or_true, cond_true, Option.getD_some, Int.toNat_natCast]
      refine congrArg nx (tru_of ?_)
      rw [Bool.and_eq_true, tru_iff, Bool.or_eq_true, Bool.not_eq_true', tru_false, show ((t >>> j &&& 1#32) == 1#32) = t.getLsbD j from bit_shr _ _]
      constructor
      · rintro ⟨⟨h1, h2⟩, h3⟩
        refine ⟨h1, fun i hi => ?_⟩
        by_cases e : i = j
        · subst e; exact h3
        · exact h2 i (by omega)
      · rintro ⟨h1, h2⟩
        exact ⟨⟨h1, fun i hi => h2 i (by omega)⟩, h2 j (by omega)⟩)]
    unfold share_lost_k32
    rw [decide_eq_true (by simp only [List.length_cons, List.length_nil]; omega), cond_true, tru_congr (most_bits (by omega) hbt).symm]
    cases tru (MostL k l t) with
    | true => rw [cond_true, cond_true]
    | false => rw [cond_false, cond_false, List.append_nil])]
  rfl

/-! ### Is there something to deal? -/
noncomputable def none_ (k : Nat) (l : List (BitVec 32)) : Bool := ((flt (MostL k l) (1#32 <<< k).toNat).length == 0) || tru (Lst l (full k))
theorem most_full {k : Nat} (hk : k < 32) {l : List (BitVec 32)} : MostL k l (full k) ↔ Lst l (full k) := by
  refine ⟨fun h => h.1, fun h => ⟨h, fun m hm hs hne => ?_⟩⟩
  refine absurd (bits_ext fun i => ⟨fun hi => (full_bit hk i).2 (hm i hi), hs i⟩) hne
theorem flt_split {k : Nat} (hk : k < 32) (P : BitVec 32 → Prop) : flt P (1#32 <<< k).toNat = flt P (full k).toNat ++ (bif tru (P (full k)) then [full k] else []) := by
  rw [← flt_next, full_toNat hk, one_shl_toNat hk]
  congr 1
  have : 0 < 2 ^ k := Nat.two_pow_pos k
  omega
theorem none_eq {k : Nat} (k6 : k ≤ 6) (l : List (BitVec 32)) : share_none k (flt (MostL k l) (1#32 <<< k).toNat) = some (none_ k l) := by
  have hB : (1#32 <<< k).toNat = 2 ^ k := one_shl_toNat (by omega)
  have hp := pow64 k6
  have hlen : (flt (MostL k l) (1#32 <<< k).toNat).length ≤ 64 := by have := flt_len (P := MostL k l) (m := (1#32 <<< k).toNat); omega
  unfold share_none none_
  cases hf : (flt (MostL k l) (1#32 <<< k).toNat) with
  | nil => rfl
  | cons a r =>
    rw [hf] at hlen
    have hw : w64 (((a :: r).length : Int) - 1) = (r.length : Int) := by rw [w64_id (by simp only [List.length_cons] at *; omega) (by simp only [List.length_cons] at *; omega)]; simp
    have hlast : geti (a :: r) (r.length : Int) = some ((a :: r)[r.length]'(by simp)) := geti_at (by simp)
    have h0 : (((a :: r).length : Int) == 0) = false := by rw [beq_eq_false_iff_ne]; simp; omega
    have h0' : ((a :: r).length == 0) = false := rfl
    rw [hw, hlast, h0, h0']
    simp only [Option.isSome_some, Bool.or_true, cond_true, Option.getD_some, Bool.false_or, Int.toNat_natCast]
    rw [decide_eq_true (by omega), Bool.or_true, cond_true]
    refine congrArg some (tru_of ?_)
    rw [beq_iff_eq]
    show _ = full k ↔ _
    have hsp := flt_split (k := k) (by omega) (MostL k l)
    rw [hf] at hsp
    constructor
    · intro e
      have hm : full k ∈ flt (MostL k l) (1#32 <<< k).toNat := by rw [hf, ← e]; exact List.getElem_mem _
      exact ((flt_mem (by omega)).1 hm).2.1
    · intro h
      rw [tru_iff.2 ((most_full (by omega)).2 h), cond_true] at hsp
      have h1 : (a :: r)[r.length]? = some (full k) := by
        have hl : (flt (MostL k l) (full k).toNat).length = r.length := by
          have := congrArg List.length hsp
          simp at this; omega
        rw [hsp, List.getElem?_append_right (by omega), hl]; simp
      rw [List.getElem?_eq_getElem (by simp)] at h1
      exact Option.some.inj h1
theorem deals_eq {n : Int} {l : List (BitVec 32)} {k : Nat} (h : DOk n l k) : syllogistref_Deals k l = some (!none_ k l) := by
  have k6 := h.k6
  unfold syllogistref_Deals none_
  rw [mostlost_eq h, Option.bind_some, ofInt64 (by omega), rlost_eq]
  simp only [Option.isSome_some, Bool.or_true, cond_true, Option.getD_some]
  refine congrArg some ?_
  rw [Bool.not_or]
  show (_ && !tru (Lst l (full k))) = _
  congr 1
  cases hf : (flt (MostL k l) (1#32 <<< k).toNat) with
  | nil => rfl
  | cons a r => simp

/-! ### The parts -/
def sh (s : List (List Int)) (i j : Nat) : Int := ((s[i]?.getD [])[j]?).getD 0
def gd (s : List (List Int)) (who : BitVec 32) (j i : Nat) : Prop := who.getLsbD i = true ∧ 0 ≤ sh s i j
def asc (s : List (List Int)) (who : BitVec 32) (j : Nat) : Nat → Int
  | 0 => -1
  | i + 1 => bif who.getLsbD i && decide (asc s who j i < 0) then sh s i j else asc s who j i
def dsc (s : List (List Int)) (who : BitVec 32) (n j : Nat) : Nat → Int
  | 0 => -1
  | t + 1 => bif who.getLsbD (n - 1 - t) && decide (sh s (n - 1 - t) j ≥ 0) then sh s (n - 1 - t) j else dsc s who n j t
theorem asc_spec (s : List (List Int)) (who : BitVec 32) (j : Nat) : ∀ m, (0 ≤ asc s who j m → ∃ i, i < m ∧ gd s who j i ∧ asc s who j m = sh s i j ∧ ∀ i', i' < i → ¬gd s who j i') ∧ (asc s who j m < 0 → ∀ i, i < m → ¬gd s who j i)
  | 0 => ⟨fun h => by simp [asc] at h, fun _ i hi => by omega⟩
  | m + 1 => by
    obtain ⟨h1, h2⟩ := asc_spec s who j m
    rw [asc]
    by_cases hneg : asc s who j m < 0
    · have h2 := h2 hneg
      rw [decide_eq_true hneg, Bool.and_true]
      cases hw : who.getLsbD m with
      | true =>
        rw [cond_true]
        refine ⟨fun h => ⟨m, by omega, ⟨hw, h⟩, rfl, h2⟩, fun h i hi hg => ?_⟩
        by_cases e : i = m
        · subst e; have := hg.2; omega
        · exact h2 i (by omega) hg
      | false =>
        rw [cond_false]
        refine ⟨fun h => by omega, fun _ i hi hg => ?_⟩
        by_cases e : i = m
        · subst e; rw [hg.1] at hw; cases hw
        · exact h2 i (by omega) hg
    · rw [decide_eq_false hneg, Bool.and_false, cond_false]
      refine ⟨fun h => ?_, fun h => absurd h hneg⟩
      obtain ⟨i, hi, g⟩ := h1 h
      exact ⟨i, by omega, g⟩
theorem dsc_spec (s : List (List Int)) (who : BitVec 32) (n j : Nat) : ∀ t, t ≤ n → (0 ≤ dsc s who n j t → ∃ i, n - t ≤ i ∧ i < n ∧ gd s who j i ∧ dsc s who n j t = sh s i j ∧ ∀ i', n - t ≤ i' → i' < i → ¬gd s who j i') ∧ (dsc s who n j t < 0 → ∀ i, n - t ≤ i → i < n → ¬gd s who j i)
  | 0, _ => ⟨fun h => by simp [dsc] at h, fun _ i h1 h2 => by omega⟩
  | t + 1, ht => by
    obtain ⟨h1, h2⟩ := dsc_spec s who n j t (by omega)
    rw [dsc]
    cases hg : (who.getLsbD (n - 1 - t) && decide (sh s (n - 1 - t) j ≥ 0)) with
    | true =>
      rw [cond_true]
      rw [Bool.and_eq_true, decide_eq_true_eq] at hg
      refine ⟨fun _ => ⟨n - 1 - t, by omega, by omega, hg, rfl, fun i' _ _ => by omega⟩, fun h => by omega⟩
    | false =>
      rw [cond_false]
      have hng : ¬gd s who j (n - 1 - t) := fun h => by
        have := h.2
        rw [h.1, Bool.true_and, decide_eq_false_iff_not] at hg
        omega
      refine ⟨fun h => ?_, fun h i hi1 hi2 hgi => ?_⟩
      · obtain ⟨i, a, b, c, d, e⟩ := h1 h
        refine ⟨i, by omega, b, c, d, fun i' g1 g2 => ?_⟩
        by_cases e' : i' = n - 1 - t
        · subst e'; exact hng
        · exact e i' (by omega) g2
      · by_cases e : i = n - 1 - t
        · subst e; exact hng hgi
        · exact h2 h i (by omega) hi2 hgi
theorem asc_dsc (s : List (List Int)) (who : BitVec 32) (n j : Nat) : (asc s who j n < 0 ↔ dsc s who n j n < 0) ∧ (0 ≤ asc s who j n → asc s who j n = dsc s who n j n) := by
  obtain ⟨a1, a2⟩ := asc_spec s who j n
  obtain ⟨d1, d2⟩ := dsc_spec s who n j n (Nat.le_refl _)
  have key : 0 ≤ asc s who j n → 0 ≤ dsc s who n j n → asc s who j n = dsc s who n j n := fun ha hd => by
    obtain ⟨i, hi, hg, e, hno⟩ := a1 ha
    obtain ⟨i2, _, hi2, hg2, e2, hno2⟩ := d1 hd
    rw [e, e2]
    have : i = i2 := by
      by_cases h : i < i2
      · exact absurd hg (hno2 i (by omega) h)
      · by_cases h' : i2 < i
        · exact absurd hg2 (hno i2 h')
        · omega
    rw [this]
  have i1 : asc s who j n < 0 → dsc s who n j n < 0 := fun h => by
    apply Classical.byContradiction
    intro hn
    obtain ⟨i2, _, hi2, hg2, _⟩ := d1 (by omega)
    exact a2 h i2 hi2 hg2
  have i2 : dsc s who n j n < 0 → asc s who j n < 0 := fun h => by
    apply Classical.byContradiction
    intro hn
    obtain ⟨i, hi, hg, _⟩ := a1 (by omega)
    exact d2 h i (by omega) hi hg
  refine ⟨⟨i1, i2⟩, fun h => key h ?_⟩
  apply Classical.byContradiction
  intro hn
  have := i2 (by omega)
  omega

def xo (s : List (List Int)) (who : BitVec 32) (n : Nat) : Nat → Int
  | 0 => 0
  | t + 1 => ixor (xo s who n t) (asc s who t n)
theorem ixor_nat {a b : Nat} (ha : a < 256) (hb : b < 256) : ixor (a : Int) (b : Int) = ((a ^^^ b : Nat) : Int) := by
  unfold ixor
  rw [BitVec.toNat_xor]
  have e : ∀ x : Nat, x < 256 → (BitVec.ofInt 64 (x : Int)).toNat = x := fun x hx => ofInt64 (by omega)
  rw [e a ha, e b hb]
  have : a ^^^ b < 2 ^ 8 := Nat.xor_lt_two_pow (by omega) (by omega)
  exact w64_id (by omega) (by omega)
theorem xo_small {s : List (List Int)} {who : BitVec 32} {n : Nat} : ∀ {t : Nat}, (∀ j, j < t → 0 ≤ asc s who j n ∧ asc s who j n ≤ 255) → ∃ a : Nat, a < 256 ∧ xo s who n t = a
  | 0, _ => ⟨0, by omega, rfl⟩
  | t + 1, h => by
    obtain ⟨a, ha, e⟩ := xo_small (t := t) fun j hj => h j (by omega)
    obtain ⟨h1, h2⟩ := h t (by omega)
    obtain ⟨b, hb⟩ : ∃ b : Nat, asc s who t n = b := ⟨(asc s who t n).toNat, by omega⟩
    have hb2 : b < 256 := by omega
    refine ⟨a ^^^ b, Nat.xor_lt_two_pow (n := 8) (by omega) (by omega), ?_⟩
    rw [xo, e, hb, ixor_nat ha hb2]

structure HOk (s : List (List Int)) (n m : Nat) : Prop where
  len : s.length = n
  row : ∀ i, i < n → (s[i]?.getD []).length = m
  ent : ∀ i j, i < n → j < m → -1 ≤ sh s i j ∧ sh s i j ≤ 255
theorem HOk.g1 {s : List (List Int)} {n m : Nat} (h : HOk s n m) {i : Nat} (hi : i < n) : geti s (i : Int) = some (s[i]?.getD []) := geti_d _ (by rw [h.len]; exact hi)
theorem HOk.g2 {s : List (List Int)} {n m : Nat} (h : HOk s n m) {i j : Nat} (hi : i < n) (hj : j < m) : geti (s[i]?.getD []) (j : Int) = some (sh s i j) := geti_d _ (by rw [h.row i hi]; exact hj)
theorem HOk.asc {s : List (List Int)} {n m : Nat} (h : HOk s n m) (who : BitVec 32) {j : Nat} (hj : j < m) : -1 ≤ asc s who j n ∧ asc s who j n ≤ 255 := by
  have key : ∀ i, i ≤ n → -1 ≤ Sy.asc s who j i ∧ Sy.asc s who j i ≤ 255 := by
    intro i
    induction i with
    | zero => intro _; show -1 ≤ (-1 : Int) ∧ (-1 : Int) ≤ 255; omega
    | succ i ih =>
      intro hi
      rw [Sy.asc]
      cases (who.getLsbD i && decide (Sy.asc s who j i < 0)) with
      | true => exact h.ent i j (by omega) hj
      | false => exact ih (by omega)
  exact key n (Nat.le_refl _)

theorem pjoin_eq {s : List (List Int)} {n m : Nat} (h : HOk s n m) (who : BitVec 32) (hm : m ≤ 64) : forK (σ := Int) (fun i z nx_ => share_Join_b21 s who i z nx_) (fun z => share_Join_k17 z) ((m : Int) - (0 : Int)).toNat (0 : Int) ((0 : Int)) = some (bif anyN m (fun j => decide (asc s who j n < 0)) then (0, 7) else (xo s who n m, 0)) := by
  have step : ∀ (j : Nat) nx, j < m → share_Join_b21 s who j (xo s who n j) nx = bif decide (asc s who j n < 0) then some (0, 7) else nx (xo s who n (j + 1)) := fun j nx hj => by
    unfold share_Join_b21
    rw [for_rec (n := n) (fun i => asc s who j i) (b := (s.length : Int)) (by rw [h.len]) (s := (-1 : Int)) rfl (fun i nx' hi => by
      unfold share_Join_b33
      rw [h.g1 hi, Option.bind_some, h.g2 hi hj, Int.toNat_natCast, bit_shr]
      conv => rhs; unfold asc
      cases (who.getLsbD i && decide (asc s who j i < 0)) <;> rfl)]
    unfold share_Join_k29
    rfl
  rcases for_find (R := Int × Int) (body := fun i z nx_ => share_Join_b21 s who i z nx_) (k := fun z => share_Join_k17 z) (xo s who n) (fun j => decide (asc s who j n < 0)) (fun _ => some (0, 7)) (b := (m : Int)) (n := m) rfl (s := (0 : Int)) rfl step with ⟨j, hj, he, _, hr⟩ | ⟨hn, hr⟩
  · rw [hr, anyN_iff.2 ⟨j, hj, he⟩, cond_true]
  · rw [hr, anyN_false.2 hn, cond_false]; rfl

theorem rjoin_eq {n : Int} {l : List (BitVec 32)} {k : Nat} (hD : DOk n l k) {s : List (List Int)} {m : Nat} (hm : m = (flt (MostL k l) (1#32 <<< k).toNat).length) (h : HOk s k m) (hm64 : m ≤ 64) (who : BitVec 32) {fuel : Nat} (hf : 100 < fuel) :
    syllogistref_Join fuel k l s who = some (bif anyN m (fun j => decide (asc s who j k < 0)) then (0#8, false) else (BitVec.ofInt 8 (xo s who k m), true)) := by
  have k6 := hD.k6
  unfold syllogistref_Join
  refine whileK_q (Q := fun o => o = some (bif anyN m (fun j => decide (asc s who j k < 0)) then (0#8, false) else (BitVec.ofInt 8 (xo s who k m), true))) (fun (z : Int × Int) => ∃ t : Nat, z = (xo s who k t, (t : Int)) ∧ t ≤ m ∧ ∀ j, j < t → ¬asc s who j k < 0) (fun z => m - z.2.toNat) (fun z nx hI hnx => ?_) fuel _ ⟨0, rfl, by omega, fun j hj => by omega⟩ (by simp; omega)
  obtain ⟨t, rfl, htm, hok⟩ := hI
  simp only at hnx ⊢
  unfold syllogistref_Join_b8
  rw [mostlost_eq hD, Option.bind_some, ← hm]
  by_cases ht : t < m
  · rw [decide_eq_true (by omega), cond_true]
    have hin : whileK (σ := Int × Int) (fun z nx_ => syllogistref_Join_b22 s who (xo s who k t) t nx z.1 z.2 nx_) fuel ((-1 : Int), w64 ((k : Int) - 1)) = syllogistref_Join_k20 (xo s who k t) t nx (dsc s who k t k) := by
      refine while_rec (fun u => (dsc s who k t u, (k : Int) - 1 - u)) k _ (fun u nx' hu => ?_) (fun nx' => ?_) (by omega) (by rw [w64_id (by omega) (by omega)]; simp [dsc])
      · simp only
        unfold syllogistref_Join_b22
        rw [decide_eq_true (by omega), cond_true, show (k : Int) - 1 - u = ((k - 1 - u : Nat) : Int) by omega, bit_eq _ _ (by omega), Option.bind_some, h.g1 (by omega)]
        simp only [Option.isSome_some, Bool.or_true, cond_true, Option.getD_some, Option.bind_some]
        have hg2 := h.g2 (show k - 1 - u < k by omega) ht
        simp only [hg2, Option.isSome_some, Bool.or_true, cond_true, Option.getD_some, Option.bind_some]
        rw [w64_id (by omega) (by omega), show ((k - 1 - u : Nat) : Int) - 1 = (k : Int) - 1 - ((u + 1 : Nat) : Int) by omega]
        conv => rhs; unfold dsc
        cases (who.getLsbD (k - 1 - u) && decide (sh s (k - 1 - u) t ≥ 0)) <;> rfl
      · simp only
        unfold syllogistref_Join_b22
        rw [decide_eq_false (by omega), cond_false]
    rw [hin]
    unfold syllogistref_Join_k20
    obtain ⟨i1, i2⟩ := asc_dsc s who k t
    by_cases hneg : asc s who t k < 0
    · rw [decide_eq_true (i1.1 hneg), cond_true, anyN_iff.2 ⟨t, ht, decide_eq_true hneg⟩, cond_true]
    · rw [decide_eq_false (fun h => hneg (i1.2 h)), cond_false, w64_succ (by omega), ← i2 (by omega)]
      refine hnx _ ⟨t + 1, rfl, ht, fun j hj => ?_⟩ (by simp only; omega)
      by_cases e : j = t
      · subst e; exact hneg
      · exact hok j (by omega)
  · have : t = m := by omega
    subst this
    rw [decide_eq_false (by omega), cond_false, anyN_false.2 fun j hj => decide_eq_false (hok j hj), cond_false]
    rfl

def badrow (m : Nat) (own : List Int) : Bool := ((own.length : Int) != (m : Int)) || own.any fun x => decide (x < -1) || decide (x > 255)
theorem c1_eq (own : List Int) (L : List (BitVec 32)) : share_Join_c1 own L = some (badrow L.length own) := by
  unfold share_Join_c1 badrow
  rw [contI own (fun a => share_Join_c1_c1 a) (fun x => decide (x < -1) || decide (x > 255)) (fun a _ => rfl)]
  simp only [Option.isSome_some, Bool.or_true, cond_true, Option.getD_some]
theorem rows_body {n : Int} {l : List (BitVec 32)} {k : Nat} (hD : DOk n l k) {s : List (List Int)} {t : Nat} (ht : t < s.length) (nx : Int → Option Bool) :
    syllogistlaw_ShareJoins_b27 k l s t 0 nx = nx (bif badrow (flt (MostL k l) (1#32 <<< k).toNat).length (s[t]?.getD []) then 3 else 0) := by
  unfold syllogistlaw_ShareJoins_b27
  have hg : geti s (t : Int) = some (s[t]?.getD []) := geti_d _ ht
  rw [hg, Option.bind_some]
  simp only [beq_self_eq_true, cond_true, Bool.true_and]
  rw [mostlost_eq hD, Option.bind_some]
  generalize s[t]?.getD [] = own
  have h3 : syllogistlaw_ShareJoins_k41 nx own 3 = nx 3 := by
    unfold syllogistlaw_ShareJoins_k41
    exact (for_rec (n := own.length) (fun _ => (3 : Int)) rfl rfl (fun j nx' hj => by
      unfold syllogistlaw_ShareJoins_b52
      rw [geti_d 0 hj]; rfl)).trans rfl
  have h0 : syllogistlaw_ShareJoins_k41 nx own 0 = nx (bif own.any (fun x => decide (x < -1) || decide (x > 255)) then 3 else 0) := by
    unfold syllogistlaw_ShareJoins_k41
    rw [any_len]
    refine (for_rec (n := own.length) (fun u => bif anyN u (fun j => (own[j]?.map fun x => decide (x < -1) || decide (x > 255)).getD false) then (3 : Int) else 0) rfl rfl (fun j nx' hj => ?_)).trans rfl
    unfold syllogistlaw_ShareJoins_b52
    rw [geti_at hj, Option.bind_some]
    rw [show anyN (j + 1) (fun j => (own[j]?.map fun x => decide (x < -1) || decide (x > 255)).getD false) = (anyN j (fun j => (own[j]?.map fun x => decide (x < -1) || decide (x > 255)).getD false) || (own[j]?.map fun x => decide (x < -1) || decide (x > 255)).getD false) from rfl, List.getElem?_eq_getElem hj, Option.map_some, Option.getD_some, cond_nx]
    congr 1
    cases anyN j (fun j => (own[j]?.map fun x => decide (x < -1) || decide (x > 255)).getD false) <;> cases (decide (own[j] < -1) || decide (own[j] > 255)) <;> rfl
  unfold badrow
  cases ((own.length : Int) != ((flt (MostL k l) (1#32 <<< k).toNat).length : Int)) with
  | true => rw [cond_true, h3, Bool.true_or, cond_true]
  | false => rw [cond_false, h0, Bool.false_or]
theorem rows_skip {n : Int} {l : List (BitVec 32)} {s : List (List Int)} {t : Nat} (ht : t < s.length) {x : Int} (hx : x ≠ 0) (nx : Int → Option Bool) : syllogistlaw_ShareJoins_b27 n l s t x nx = nx x := by
  unfold syllogistlaw_ShareJoins_b27
  have hg : geti s (t : Int) = some (s[t]?.getD []) := geti_d _ ht
  rw [hg, Option.bind_some, show (x == 0) = false by simpa using hx]
  show syllogistlaw_ShareJoins_k58 nx (s[t]?.getD []) x = nx x
  unfold syllogistlaw_ShareJoins_k58
  exact (for_rec (n := (s[t]?.getD []).length) (fun _ => x) rfl rfl (fun j nx' hj => by
    unfold syllogistlaw_ShareJoins_b69
    rw [geti_d 0 hj, show (x == 0) = false by simpa using hx]; rfl)).trans rfl

theorem shareJoins_true (fuel : Nat) (n : Int) (l : List (BitVec 32)) (s : List (List Int)) (who : BitVec 32) (hf : 100 < fuel := by decide) : syllogistlaw_ShareJoins fuel n l s who = some true := by
  unfold syllogistlaw_ShareJoins share_Join
  -- a code that is there already goes through
  have pass : ∀ (r1 : Int × Int) (x : Int), x ≠ 0 → syllogistlaw_ShareJoins_k10 n l s who fuel r1 x = some ((r1.2 == x) && (r1.1 == 0)) := fun r1 x hx => by
    unfold syllogistlaw_ShareJoins_k10
    rw [for_rec (n := s.length) (fun _ => x) rfl rfl (fun t nx ht => rows_skip ht hx nx)]
    unfold syllogistlaw_ShareJoins_k17 syllogistlaw_ShareJoins_k21
    have h1 : (x == 0) = false := by simpa using hx
    have h2 : (x != 0) = true := by simpa using hx
    rw [h1, h2]
    simp
  have pass7 : ∀ (r1 : Int × Int) (x : Int), x ≠ 0 → syllogistlaw_ShareJoins_k7 n l s who fuel r1 x = some ((r1.2 == x) && (r1.1 == 0)) := fun r1 x hx => by
    unfold syllogistlaw_ShareJoins_k7
    rw [show (x == 0) = false by simpa using hx, Bool.false_and, cond_false, pass r1 x hx]
  rcases dcheck n l with ⟨r, hr, e1, e2⟩ | ⟨⟨k, h⟩, e2, _⟩
  · rw [e1, e2]
    have hb : (r != 0) = true := by simpa using hr
    have hb' : (r == 0) = false := by simpa using hr
    simp only [Option.bind_some, hb, hb', cond_true, Bool.false_and, cond_false]
    rw [pass7 _ _ hr]
    simp
  · have hn := h.n
    subst hn
    have k6 := h.k6
    have hB : (1#32 <<< k).toNat = 2 ^ k := one_shl_toNat (by omega)
    have hp := pow64 k6
    rw [lostl_eq h, e2]
    simp only [Option.bind_some, bne_self_eq_false, cond_false, beq_self_eq_true, Bool.true_and]
    rw [none_eq k6, Option.bind_some, deals_eq h]
    simp only [Option.isSome_some, Bool.or_true, cond_true, Option.getD_some, Bool.not_not]
    cases none_ k l with
    | true =>
      simp only [cond_true, Option.bind_some]
      rw [pass7 _ 5 (by decide)]; rfl
    | false =>
      simp only [cond_false]
      obtain ⟨m, hm⟩ : ∃ m, m = (flt (MostL k l) (1#32 <<< k).toNat).length := ⟨_, rfl⟩
      have hm64 : m ≤ 64 := by have := flt_len (P := MostL k l) (m := (1#32 <<< k).toNat); omega
      rw [contR s (fun a => share_Join_c1 a (flt (MostL k l) (1#32 <<< k).toNat)) (badrow m) (fun a _ => by rw [c1_eq, hm])]
      simp only [Option.isSome_some, Bool.or_true, cond_true, Option.getD_some]
      unfold syllogistlaw_ShareJoins_k7
      simp only [beq_self_eq_true, Bool.true_and]
      cases hlen : ((s.length : Int) != (k : Int)) with
      | true =>
        simp only [Bool.true_or, cond_true, Option.bind_some]
        rw [pass _ 3 (by decide)]; rfl
      | false =>
        have hsl : s.length = k := by rw [bne_eq_false_iff_eq] at hlen; omega
        simp only [Bool.false_or, cond_false]
        unfold syllogistlaw_ShareJoins_k10
        have hloop : ∀ r1, forK (σ := Int) (fun i s_1 nx_ => syllogistlaw_ShareJoins_b27 k l s i s_1 nx_) (fun s_1 => syllogistlaw_ShareJoins_k17 k l s who fuel r1 s_1) ((s.length : Int) - (0 : Int)).toNat (0 : Int) 0 = syllogistlaw_ShareJoins_k17 k l s who fuel r1 (bif s.any (badrow m) then 3 else 0) := fun r1 => by
          rw [any_len]
          refine (for_rec (n := s.length) (fun t => bif anyN t (fun j => (s[j]?.map (badrow m)).getD false) then (3 : Int) else 0) rfl rfl (fun t nx ht => ?_)).trans rfl
          rw [show anyN (t + 1) (fun j => (s[j]?.map (badrow m)).getD false) = (anyN t (fun j => (s[j]?.map (badrow m)).getD false) || (s[t]?.map (badrow m)).getD false) from rfl]
          cases anyN t (fun j => (s[j]?.map (badrow m)).getD false) with
          | true => rw [cond_true, Bool.true_or, cond_true]; exact rows_skip ht (by decide) nx
          | false =>
            rw [cond_false, Bool.false_or, rows_body h ht, ← hm, List.getElem?_eq_getElem ht]
            rfl
        cases hbad : s.any (badrow m) with
        | true =>
          simp only [cond_true, Option.bind_some]
          rw [hloop, hbad, cond_true]
          unfold syllogistlaw_ShareJoins_k17 syllogistlaw_ShareJoins_k21
          simp
        | false =>
          have hH : HOk s k m := by
            have hall : ∀ i (hi : i < s.length), badrow m s[i] = false := fun i hi => by
              have := List.any_eq_false.1 hbad s[i] (List.getElem_mem hi)
              simpa using this
            have hrow : ∀ i, i < k → (s[i]?.getD []).length = m := fun i hi => by
              have := hall i (by omega)
              unfold badrow at this
              rw [Bool.or_eq_false_iff, bne_eq_false_iff_eq] at this
              rw [List.getElem?_eq_getElem (by omega), Option.getD_some]
              have := this.1
              omega
            refine ⟨hsl, hrow, fun i j hi hj => ?_⟩
            have hrl := hrow i hi
            have := hall i (by omega)
            unfold badrow at this
            rw [Bool.or_eq_false_iff] at this
            unfold sh
            rw [List.getElem?_eq_getElem (show i < s.length by omega), Option.getD_some] at hrl ⊢
            rw [List.getElem?_eq_getElem (show j < s[i].length by omega), Option.getD_some]
            have h2 := List.any_eq_false.1 this.2 (s[i][j]'(by omega)) (List.getElem_mem _)
            simp only [Bool.or_eq_true, decide_eq_true_eq] at h2
            omega
          simp only [cond_false, Int.toNat_natCast]
          rw [decide_eq_true (show (0 : Int) ≤ (k : Int) by omega), cond_true, shr_ne (by omega)]
          cases hfit : decide (who < 1#32 <<< k) with
          | false =>
            simp only [Bool.not_false, cond_true, Option.bind_some]
            rw [hloop, hbad, cond_false]
            unfold syllogistlaw_ShareJoins_k17
            rw [fits_eq (by omega), hfit]
            unfold syllogistlaw_ShareJoins_k21
            simp
          | true =>
            simp only [Bool.not_true, cond_false]
            rw [← hm, decide_eq_true (by omega), cond_true, pjoin_eq hH who hm64, Option.bind_some, hloop, hbad, cond_false]
            unfold syllogistlaw_ShareJoins_k17
            rw [fits_eq (by omega), hfit]
            unfold syllogistlaw_ShareJoins_k21
            rw [rjoin_eq h hm hH hm64 who hf]
            simp only [Option.isSome_some, Bool.or_true, cond_true, Option.getD_some, Bool.not_true, Bool.and_false, cond_false, bne_self_eq_false, Option.bind_some]
            cases hany : anyN m (fun j => decide (asc s who j k < 0)) with
            | true => rfl
            | false =>
              simp only [cond_false, Bool.not_true]
              obtain ⟨a, ha, e⟩ := xo_small (s := s) (who := who) (n := k) (t := m) fun j hj => by
                have h1 := of_decide_eq_false (anyN_false.1 hany j hj)
                have h2 := hH.asc who hj
                omega
              rw [e]
              have : (BitVec.ofInt 8 (a : Int)).toNat = a := by simp; omega
              rw [this]
              simp
end Go.Proofs.Ytjpoedjmoobapaa.Sy
