/- The keys: the plain law; no program in sight. -/
import Derived.Test.YtohfiinnkoinlaaM3
namespace Go.Proofs.Ytohfiinnkoinlaa.Sy
set_option linter.unusedVariables false

/-- c's closure is everything below n. -/
def Sp (n : Nat) (l : List Rule) (c : BitVec 32) : Prop := Lst l c (full n)
def without (c : BitVec 32) (i : Nat) : BitVec 32 := c &&& ~~~(1#32 <<< i)
def Key (n : Nat) (l : List Rule) (c : BitVec 32) : Prop := Sp n l c ∧ ∀ i, i < n → c.getLsbD i = true → ¬ Sp n l (without c i)

theorem Lst.uniq {l : List Rule} {s r r' : BitVec 32} (h : Lst l s r) (h' : Lst l s r') : r = r' := (h.least r' h'.sup h'.cl).antisymm (h'.least r h.sup h.cl)
theorem without_bit (c : BitVec 32) (i j : Nat) : (without c i).getLsbD j = true ↔ c.getLsbD j = true ∧ j ≠ i := by
  unfold without
  rw [BitVec.getLsbD_and, Bool.and_eq_true]
  refine and_congr_right fun h => ?_
  have hj : j < 32 := by
    by_cases h' : j < 32
    · exact h'
    · rw [BitVec.getLsbD_of_ge _ _ (by omega)] at h; cases h
  rw [BitVec.getLsbD_not]
  have := one_shl i j
  cases hb : (1#32 <<< i).getLsbD j with
  | true => simp [(this.1 hb).1]
  | false =>
    simp [hj]
    intro e
    rw [this.2 ⟨e, hj⟩] at hb; cases hb
theorem without_sub (c : BitVec 32) (i : Nat) : sb (without c i) c := fun j h => ((without_bit c i j).1 h).1

theorem sub_small : ∀ s : Nat, s < 64 → ∀ i : Nat, i < 6 → s.testBit i = true → s - 2 ^ i = s &&& (63 - 2 ^ i) := by decide +kernel
theorem sub_eq {n : Nat} (hn : n ≤ 6) {c : BitVec 32} (hc : bel n c) {i : Nat} (hi : i < n) (hb : c.getLsbD i = true) : c - (1#32 <<< i) = without c i := by
  have h64 : c.toNat < 64 := by
    have := bel_toNat.1 hc
    have h : 2 ^ n ≤ 2 ^ 6 := Nat.pow_le_pow_right (by omega) hn
    omega
  have hs := sub_small c.toNat h64 i (by omega) hb
  have h2 : (1#32 <<< i).toNat = 2 ^ i := one_shl_toNat (by omega)
  have hle : 2 ^ i ≤ c.toNat := Nat.ge_two_pow_of_testBit hb
  refine bits_ext fun j => ?_
  rw [without_bit]
  have e1 : (c - (1#32 <<< i)).toNat = c.toNat - 2 ^ i := by
    rw [BitVec.toNat_sub, h2]
    have := c.isLt
    omega
  show (c - (1#32 <<< i)).toNat.testBit j = true ↔ _
  rw [e1, hs, Nat.testBit_and, Bool.and_eq_true]
  refine and_congr_right fun hj => ?_
  have hj6 : j < 6 := by
    have := hc j hj; omega
  have : ∀ i, i < 6 → ∀ j, j < 6 → (Nat.testBit (63 - 2 ^ i) j = true ↔ j ≠ i) := by decide
  exact this i (by omega) j hj6

theorem Sp.mono {n : Nat} (hn : n ≤ 6) {l : List Rule} (hl : rin n l) {a b : BitVec 32} (h : Sp n l a) (hab : sb a b) (hb : bel n b) : Sp n l b :=
  ⟨(bel_full (by omega)).1 hb, h.cl, fun c hc hcl => h.least c (hab.trans hc) hcl⟩

/-- Every spanning set has a key below it. -/
theorem key_below {n : Nat} (hn : n ≤ 6) {l : List Rule} (hl : rin n l) : ∀ (q : Nat) (c : BitVec 32), c.toNat < q → bel n c → Sp n l c → ∃ k, Key n l k ∧ sb k c := by
  intro q
  induction q with
  | zero => intro c h; omega
  | succ q ih =>
    intro c hcq hc hS
    by_cases hK : Key n l c
    · exact ⟨c, hK, sb_refl c⟩
    · have : ∃ i, i < n ∧ c.getLsbD i = true ∧ Sp n l (without c i) := by
        apply Classical.byContradiction
        intro hno
        exact hK ⟨hS, fun i hi hb hs => hno ⟨i, hi, hb, hs⟩⟩
      obtain ⟨i, hi, hb, hs⟩ := this
      have hne : without c i ≠ c := fun e => by
        have := (without_bit c i i).1 (by rw [e]; exact hb)
        exact this.2 rfl
      have hlt := (without_sub c i).lt hne
      obtain ⟨k, hk, hkc⟩ := ih _ (by omega) (hc.sb (without_sub c i)) hs
      exact ⟨k, hk, hkc.trans (without_sub c i)⟩

theorem key_iff {n : Nat} (hn : n ≤ 6) {l : List Rule} (hl : rin n l) (c : BitVec 32) (hc : bel n c) : Key n l c ↔ Sp n l c ∧ ¬ ∃ k, k.toNat < c.toNat ∧ Key n l k ∧ sb k c := by
  constructor
  · rintro ⟨hS, hm⟩
    refine ⟨hS, fun ⟨k, hlt, hk, hkc⟩ => ?_⟩
    have : ∃ i, i < n ∧ c.getLsbD i = true ∧ k.getLsbD i ≠ true := by
      apply Classical.byContradiction
      intro hno
      have : sb c k := fun i e => Classical.byContradiction fun hn' => hno ⟨i, hc i e, e, hn'⟩
      have := this.le
      omega
    obtain ⟨i, hi, hb, hkb⟩ := this
    refine hm i hi hb (Sp.mono hn hl hk.1 (fun j hj => (without_bit c i j).2 ⟨hkc j hj, fun e => ?_⟩) (hc.sb (without_sub c i)))
    subst e; exact hkb hj
  · rintro ⟨hS, hno⟩
    refine ⟨hS, fun i hi hb hs => ?_⟩
    obtain ⟨k, hk, hkc⟩ := key_below hn hl _ _ (Nat.lt_succ_self _) (hc.sb (without_sub c i)) hs
    have hne : without c i ≠ c := fun e => by
      have := (without_bit c i i).1 (by rw [e]; exact hb)
      exact this.2 rfl
    have h1 := hkc.le
    have h2 := (without_sub c i).lt hne
    exact hno ⟨k, by omega, hk, hkc.trans (without_sub c i)⟩

theorem flt_mem (P : BitVec 32 → Prop) : ∀ (j : Nat), j ≤ 4294967296 → ∀ y, y ∈ flt P j ↔ y.toNat < j ∧ P y
  | 0, _, y => by simp [flt]
  | j + 1, hj, y => by
    unfold flt
    rw [List.mem_append, flt_mem P j (by omega) y]
    have hw : (BitVec.ofNat 32 j).toNat = j := by simp; omega
    constructor
    · rintro (⟨h1, h2⟩ | h)
      · exact ⟨by omega, h2⟩
      · split at h
        · rename_i hp
          simp only [List.mem_singleton] at h
          subst h
          exact ⟨by omega, hp⟩
        · simp at h
    · rintro ⟨h1, h2⟩
      by_cases e : y.toNat = j
      · right
        have : y = BitVec.ofNat 32 j := BitVec.eq_of_toNat_eq (by rw [hw, e])
        rw [if_pos (this ▸ h2), this]; simp
      · exact .inl ⟨by omega, h2⟩

theorem bit_eq (w : BitVec 32) (j : Nat) (hj : j < 32) : syllogistref_Bit w j = some (w.getLsbD j) := by
  unfold syllogistref_Bit
  have h : (BitVec.ofInt 64 (j : Int)).toNat = j := by simp; omega
  rw [h, bit_and w j hj, decide_eq_true (by omega), decide_eq_true (by omega)]; rfl

theorem sp_close {n : Nat} (hn : n ≤ 6) {l : List Rule} (hl : rin n l) (fuel : Nat) (hf : 8589934600 < fuel) {c : BitVec 32} (hc : bel n c) : ∃ r, follow_closed fuel l c = some r ∧ syllogistref_Close n l c = some r ∧ (r = full n ↔ Sp n l c) := by
  obtain ⟨r, e, hL⟩ := fclosed_eq fuel l c hf
  exact ⟨r, e, refClose_eq hn l c r hL hl hc, fun h => by subst h; exact hL, fun h => hL.uniq h⟩

theorem followKeys_true (fuel : Nat) (n : Int) (l : List Rule) (hf : 8589934600 < fuel := by decide) : syllogistlaw_FollowKeys fuel n l = some true := by
  unfold syllogistlaw_FollowKeys follow_Keys
  rw [check_eq n l [] 0#32 (fun k => ⟨fun _ i hi => absurd hi (by simp), fun _ j e => by simp at e⟩), Option.bind_some, rulesCheck_eq]
  by_cases hc : rcode n l 0#32 = 0
  · obtain ⟨m, rfl, hm, hl, _⟩ := rcode_ok hc
    rw [hc]
    simp only [bne_self_eq_false, cond_false, Int.toNat_natCast]
    rw [decide_eq_true (by omega), cond_true]
    have hpow : (1#32 <<< m).toNat = 2 ^ m := one_shl_toNat (by omega)
    have h64 : 2 ^ m ≤ 64 := by
      have : ∀ m, m ≤ 6 → 2 ^ m ≤ 64 := by decide
      exact this m hm
    have hp0 : 0 < 2 ^ m := Nat.pow_pos (by omega)
    have hkey : forK (fun i s nx_ => follow_Keys_b16 m l fuel i s nx_) (fun s => follow_Keys_k13 s) ((1#32 <<< m).toNat - (0#32).toNat) 0#32 [] = some (flt (Key m l) (2 ^ m), (0 : Int)) := by
      refine forU_q (Q := fun o => o = some (flt (Key m l) (2 ^ m), (0 : Int))) (fun j (w : List (BitVec 32)) => w = flt (Key m l) j) [] rfl (fun c w nx hlt hI hnx => ?_) (fun w hI => by rw [hI, hpow]; rfl)
      subst hI
      have hcb : bel m c := bel_toNat.2 (by omega)
      unfold follow_Keys_b16
      obtain ⟨r, er, _, hr⟩ := sp_close hm hl fuel hf hcb
      have hle := flt_le (Key m l) c.toNat
      rw [er, Option.bind_some, decide_eq_true (by omega), cond_true]
      rw [contains_eq _ (fun a => follow_Keys_c1 a c) (fun k => (k &&& ~~~c) == 0#32) (fun a => rfl)]
      simp only [Option.isSome_some, Bool.or_true, cond_true, Option.getD_some, Int.toNat_natCast]
      have hany : (flt (Key m l) c.toNat).any (fun k => (k &&& ~~~c) == 0#32) = true ↔ ∃ k, k.toNat < c.toNat ∧ Key m l k ∧ sb k c := by
        rw [List.any_eq_true]
        constructor
        · rintro ⟨k, hk, h⟩
          have := (flt_mem _ _ (by omega) k).1 hk
          exact ⟨k, this.1, this.2, andn_iff.1 h⟩
        · rintro ⟨k, h1, h2, h3⟩
          exact ⟨k, (flt_mem _ _ (by omega) k).2 ⟨h1, h2⟩, andn_iff.2 h3⟩
      have hfull : (r == (1#32 <<< m) - 1#32) = true ↔ Sp m l c := by
        rw [beq_iff_eq]; exact hr
      by_cases hK : Key m l c
      · have h1 := (key_iff hm hl c hcb).1 hK
        have h2 : (flt (Key m l) c.toNat).any (fun k => (k &&& ~~~c) == 0#32) = false := by
          rw [← Bool.not_eq_true]; exact fun h => h1.2 (hany.1 h)
        rw [hfull.2 h1.1, h2]
        simp only [Bool.not_false, Bool.and_self, cond_true]
        rw [decide_eq_true (by simp; omega), cond_true]
        refine hnx _ ?_
        rw [(flt_step _ c).1 hK]
      · have : ((r == (1#32 <<< m) - 1#32) && !(flt (Key m l) c.toNat).any (fun k => (k &&& ~~~c) == 0#32)) = false := by
          rw [Bool.and_eq_false_iff]
          by_cases hS : Sp m l c
          · right
            have : ∃ k, k.toNat < c.toNat ∧ Key m l k ∧ sb k c := by
              apply Classical.byContradiction
              exact fun h => hK ((key_iff hm hl c hcb).2 ⟨hS, h⟩)
            rw [hany.2 this]; rfl
          · left
            rw [← Bool.not_eq_true]; exact fun h => hS (hfull.1 h)
        rw [this, cond_false]
        refine hnx _ ?_
        rw [(flt_step _ c).2 hK]
    rw [hkey, Option.bind_some, Option.bind_some]
    simp only [bne_self_eq_false, cond_false]
    have hft : (full m).toNat = 2 ^ m - 1 := full_toNat (by omega)
    refine whileK_q (Q := fun o => o = some true) (fun (z : BitVec 32 × List (BitVec 32)) => z.1.toNat ≤ 2 ^ m ∧ z.2 = flt (Key m l) z.1.toNat) (fun z => 2 ^ m - z.1.toNat) (fun z nx hI hnx => ?_) fuel _ ⟨by simp, rfl⟩ (by simp; omega)
    obtain ⟨c, w⟩ := z
    obtain ⟨h1, h2⟩ := hI
    simp only at h1 h2 ⊢
    subst h2
    unfold syllogistlaw_FollowKeys_b19
    rw [ofInt64 (by omega)]
    have hle := flt_le (Key m l) c.toNat
    by_cases hlt : c.toNat < 2 ^ m
    · have : decide (c ≤ (1#32 <<< m) - 1#32) = true := by
        rw [decide_eq_true_eq, BitVec.le_def]
        show c.toNat ≤ (full m).toNat
        omega
      rw [this, cond_true]
      have hcb : bel m c := bel_toNat.2 hlt
      obtain ⟨r, _, er, hr⟩ := sp_close hm hl fuel hf hcb
      rw [er, Option.bind_some, decide_eq_true (by omega), cond_true]
      refine for0_eq (fun t (b : Bool) => b = true ↔ Sp m l c ∧ ∀ i, i < t → c.getLsbD i = true → ¬ Sp m l (without c i)) rfl _ ⟨fun h => ⟨hr.1 (beq_iff_eq.1 h), fun i hi => absurd hi (by omega)⟩, fun h => beq_iff_eq.2 (hr.2 h.1)⟩ (fun t b nx' ht hJ hnx' => ?_) (fun b hJ => ?_)
      · unfold syllogistlaw_FollowKeys_b37
        rw [bit_eq _ _ (by omega), Option.bind_some, ofInt64 (by omega), ofInt64 (by omega)]
        cases hb : c.getLsbD t with
        | false =>
          simp only [Bool.false_and, cond_false, Bool.not_false, beq_true, Bool.true_or, cond_true]
          refine hnx' _ ?_
          rw [hJ]
          refine and_congr_right fun _ => ⟨fun h i hi hbi => ?_, fun h i hi => h i (by omega)⟩
          by_cases e : i = t
          · subst e; rw [hb] at hbi; cases hbi
          · exact h i (by omega) hbi
        | true =>
          rw [sub_eq hm hcb ht hb]
          obtain ⟨r', _, er', hr'⟩ := sp_close hm hl fuel hf (hcb.sb (without_sub c t))
          rw [er']
          simp only [Option.isSome_some, Bool.or_true, cond_true, Option.getD_some, Bool.true_and]
          cases hq : (r' == (1#32 <<< m) - 1#32) with
          | true =>
            rw [cond_true]
            refine hnx' _ ?_
            simp only [Bool.false_eq_true, false_iff]
            rintro ⟨_, h⟩
            exact h t (by omega) hb (hr'.1 (beq_iff_eq.1 hq))
          | false =>
            rw [cond_false]
            refine hnx' _ ?_
            rw [hJ]
            refine and_congr_right fun _ => ⟨fun h i hi hbi => ?_, fun h i hi => h i (by omega)⟩
            by_cases e : i = t
            · subst e
              intro hs
              have : (r' == (1#32 <<< m) - 1#32) = true := by rw [beq_iff_eq]; exact hr'.2 hs
              rw [hq] at this; cases this
            · exact h i (by omega) hbi
      · unfold syllogistlaw_FollowKeys_k29
        have hc1 : (c + 1#32).toNat = c.toNat + 1 := by rw [BitVec.toNat_add]; simp; omega
        have hK : b = true ↔ Key m l c := hJ
        cases hb : b with
        | true =>
          rw [cond_true, decide_eq_true (by simp; omega), cond_true]
          refine hnx _ ⟨by simp only; omega, ?_⟩ (by simp only; omega)
          simp only
          rw [hc1, (flt_step _ c).1 (hK.1 hb)]
        | false =>
          rw [cond_false]
          refine hnx _ ⟨by simp only; omega, ?_⟩ (by simp only; omega)
          simp only
          rw [hc1, (flt_step _ c).2 (fun h => by rw [hK.2 h] at hb; cases hb)]
    · have : decide (c ≤ (1#32 <<< m) - 1#32) = false := by
        rw [decide_eq_false_iff_not, BitVec.le_def]
        show ¬ c.toNat ≤ (full m).toNat
        omega
      rw [this, cond_false]
      unfold syllogistlaw_FollowKeys_k16
      have : c.toNat = 2 ^ m := by omega
      rw [this, words_self]
      simp
  · have : (rcode n l 0#32 != 0) = true := by simpa using hc
    simp [this]
end Go.Proofs.Ytohfiinnkoinlaa.Sy
