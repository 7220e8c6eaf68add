/- What the closures of rules compute: the plain laws; no program in sight. -/
import Derived.Test.YtcojgaednjkbiaaSyM
import Derived.Test.YtcojgaednjkbiaaG1
namespace Go.Proofs.Ytcojgaednjkbiaa.Sy
set_option linter.unusedVariables false

theorem fits_eq {n : Nat} (hn : n < 32) (s : BitVec 32) : ∃ r, syllogistref_Fits n s = some r ∧ (r = true ↔ bel n s) := by
  unfold syllogistref_Fits
  refine ⟨_, rfl, ?_⟩
  rw [ofInt64 (by omega), ← bel_lt hn]
  simp
  omega
theorem in_eq (a b : BitVec 32) : syllogistref_In a b = some ((a ||| b) == b) := rfl

def rbad1 (n : Int) (l : List Rule) : Prop := n < 1 ∨ n > 6 ∨ l.length > 10
def rin (n : Nat) (l : List Rule) : Prop := ∀ i (h : i < l.length), bel n l[i].cond ∧ bel n l[i].thn
open Classical in
noncomputable def rcode (n : Int) (l : List Rule) (more : BitVec 32) : Int := if rbad1 n l then 1 else if rin n.toNat l ∧ bel n.toNat more then 0 else 4

theorem rulesCheck_eq (n : Int) (l : List Rule) (more : BitVec 32) : syllogistref_RulesCheck n l more = some (rcode n l more) := by
  unfold syllogistref_RulesCheck rcode
  by_cases h1 : rbad1 n l
  · rw [if_pos h1]
    have : (((decide (n < (1 : Int))) || (decide (n > (6 : Int)))) || (decide ((l.length : Int) > (10 : Int)))) = true := by
      unfold rbad1 at h1
      simp only [Bool.or_eq_true, decide_eq_true_eq]; omega
    rw [this]; rfl
  rw [if_neg h1]
  have hb : (((decide (n < (1 : Int))) || (decide (n > (6 : Int)))) || (decide ((l.length : Int) > (10 : Int)))) = false := by
    unfold rbad1 at h1
    simp only [Bool.or_eq_false_iff, decide_eq_false_iff_not]; omega
  rw [hb, cond_false]
  have hn : 1 ≤ n ∧ n ≤ 6 ∧ l.length ≤ 10 := by unfold rbad1 at h1; omega
  obtain ⟨k, rfl⟩ : ∃ k : Nat, n = k := ⟨n.toNat, by omega⟩
  simp only [Int.toNat_natCast]
  refine for0_eq (fun t _ => ∀ i (h : i < l.length), i < t → bel k l[i].cond ∧ bel k l[i].thn) rfl () (fun i h hi => by omega) (fun t s nx ht hI hnx => ?_) (fun s hI => ?_)
  · unfold syllogistref_RulesCheck_b9
    rw [geti_at ht, Option.bind_some]
    obtain ⟨r1, e1, g1⟩ := fits_eq (n := k) (by omega) l[t].cond
    obtain ⟨r2, e2, g2⟩ := fits_eq (n := k) (by omega) l[t].thn
    rw [e1, Option.bind_some, e2]
    simp only [Option.isSome_some, Bool.or_true, cond_true, Option.getD_some]
    by_cases hg : bel k l[t].cond ∧ bel k l[t].thn
    · rw [g1.2 hg.1, g2.2 hg.2]
      refine hnx () fun i h hi => ?_
      by_cases e : i = t
      · subst e; exact hg
      · exact hI i h (by omega)
    · have : (!r1 || !r2) = true := by
        cases h1 : r1 with
        | false => rfl
        | true =>
          cases h2 : r2 with
          | false => rfl
          | true => exact absurd ⟨g1.1 h1, g2.1 h2⟩ hg
      rw [this, cond_true, if_neg]
      rintro ⟨h, _⟩
      exact hg (h t ht)
  · unfold syllogistref_RulesCheck_k3
    obtain ⟨r1, e1, g1⟩ := fits_eq (n := k) (by omega) more
    rw [e1, Option.bind_some]
    have hrin : rin k l := fun i h => hI i h h
    cases hr : r1 with
    | true => rw [if_pos ⟨hrin, g1.1 hr⟩]; rfl
    | false =>
      rw [if_neg]
      · rfl
      · rintro ⟨_, h⟩; rw [g1.2 h] at hr; cases hr

theorem check_eq (n : Int) (l : List Rule) (ms : List (BitVec 32)) (more : BitVec 32) (hm : ∀ k, bel k more ↔ ∀ i (h : i < ms.length), bel k ms[i]) : follow_Check n l ms = some (rcode n l more) := by
  unfold follow_Check rcode
  by_cases h1 : rbad1 n l
  · rw [if_pos h1]
    have : (((decide (n < (1 : Int))) || (decide (n > (6 : Int)))) || (decide ((l.length : Int) > (10 : Int)))) = true := by
      unfold rbad1 at h1
      simp only [Bool.or_eq_true, decide_eq_true_eq]; omega
    rw [this]; rfl
  rw [if_neg h1]
  have hb : (((decide (n < (1 : Int))) || (decide (n > (6 : Int)))) || (decide ((l.length : Int) > (10 : Int)))) = false := by
    unfold rbad1 at h1
    simp only [Bool.or_eq_false_iff, decide_eq_false_iff_not]; omega
  rw [hb, cond_false]
  have hn : 1 ≤ n ∧ n ≤ 6 ∧ l.length ≤ 10 := by unfold rbad1 at h1; omega
  obtain ⟨k, rfl⟩ : ∃ k : Nat, n = k := ⟨n.toNat, by omega⟩
  simp only [Int.toNat_natCast]
  refine for0_eq (fun t (a : BitVec 32) => bel k a ↔ ∀ i (h : i < l.length), i < t → bel k l[i].cond ∧ bel k l[i].thn) rfl _ ⟨fun _ i h hi => by omega, fun _ j e => by simp at e⟩ (fun t a nx ht hI hnx => ?_) (fun a hI => ?_)
  · unfold follow_Check_b25
    rw [geti_at ht, Option.bind_some]
    refine hnx _ ?_
    rw [bel_or, bel_or, hI]
    constructor
    · rintro ⟨h, h2⟩ i hi hit
      by_cases e : i = t
      · subst e; exact h2
      · exact h i hi (by omega)
    · exact fun h => ⟨fun i hi hit => h i hi (by omega), h t ht (by omega)⟩
  · unfold follow_Check_k6
    have hrin : bel k a ↔ rin k l := hI.trans ⟨fun h i hi => h i hi hi, fun h i hi _ => h i hi⟩
    refine for0_eq (fun t (b : BitVec 32) => bel k b ↔ rin k l ∧ ∀ i (h : i < ms.length), i < t → bel k ms[i]) rfl _ ⟨fun h => ⟨hrin.1 h, fun i h hi => by omega⟩, fun h => hrin.2 h.1⟩ (fun t b nx ht hJ hnx => ?_) (fun b hJ => ?_)
    · unfold follow_Check_b18
      rw [geti_at ht, Option.bind_some]
      refine hnx _ ?_
      rw [bel_or, hJ]
      constructor
      · rintro ⟨⟨h, h3⟩, h2⟩
        refine ⟨h, fun i hi hit => ?_⟩
        by_cases e : i = t
        · subst e; exact h2
        · exact h3 i hi (by omega)
      · exact fun h => ⟨⟨h.1, fun i hi hit => h.2 i hi (by omega)⟩, h.2 t ht (by omega)⟩
    · unfold follow_Check_k13
      rw [decide_eq_true (by omega), cond_true]
      have hJ' : bel k b ↔ rin k l ∧ bel k more := hJ.trans (and_congr_right fun _ => ((hm k).trans ⟨fun h i hi _ => h i hi, fun h i hi => h i hi hi⟩).symm)
      simp only [Int.toNat_natCast]
      by_cases hg : rin k l ∧ bel k more
      · rw [if_pos hg]
        have := bel_shr.2 (hJ'.2 hg)
        rw [this]; rfl
      · rw [if_neg hg]
        have : ((b >>> k) != 0#32) = true := by
          rw [bne_iff_ne]
          exact fun e => hg (hJ'.1 (bel_shr.1 e))
        rw [this]; rfl

def Cl (l : List Rule) (c : BitVec 32) : Prop := ∀ i (h : i < l.length), sb l[i].cond c → sb l[i].thn c

theorem closed_eq (l : List Rule) (c : BitVec 32) : ∃ r, syllogistref_Closed l c = some r ∧ (r = true ↔ Cl l c) := by
  unfold syllogistref_Closed
  refine for0_q (Q := fun o => ∃ r, o = some r ∧ (r = true ↔ Cl l c)) (fun t _ => ∀ i (h : i < l.length), i < t → sb l[i].cond c → sb l[i].thn c) rfl () (fun i h hi => by omega) (fun t s nx ht hI hnx => ?_) (fun s hI => ?_)
  · unfold syllogistref_Closed_b7
    rw [geti_at ht, Option.bind_some, in_eq, Option.bind_some, in_eq]
    simp only [Option.isSome_some, Bool.or_true, cond_true, Option.getD_some]
    by_cases hg : sb l[t].cond c ∧ ¬ sb l[t].thn c
    · have h1 := or_iff.2 hg.1
      have h2 : ((l[t].thn ||| c) == c) = false := by
        rw [← Bool.not_eq_true]; exact fun h => hg.2 (or_iff.1 h)
      rw [h1, h2]
      refine ⟨false, rfl, ?_⟩
      simp only [Bool.false_eq_true, false_iff]
      exact fun h => hg.2 (h t ht hg.1)
    · have : (((l[t].cond ||| c) == c) && !((l[t].thn ||| c) == c)) = false := by
        rw [Bool.and_eq_false_iff]
        by_cases h1 : sb l[t].cond c
        · right
          have : sb l[t].thn c := Classical.byContradiction fun h => hg ⟨h1, h⟩
          rw [or_iff.2 this]; rfl
        · left
          rw [← Bool.not_eq_true]; exact fun h => h1 (or_iff.1 h)
      rw [this, cond_false]
      refine hnx () fun i h hi hc => ?_
      by_cases e : i = t
      · subst e; exact Classical.byContradiction fun h => hg ⟨hc, h⟩
      · exact hI i h (by omega) hc
  · exact ⟨true, rfl, ⟨fun _ i h => hI i h h, fun _ => rfl⟩⟩

structure Lst (l : List Rule) (s r : BitVec 32) : Prop where
  sup : sb s r
  cl : Cl l r
  least : ∀ c, sb s c → Cl l c → sb r c

theorem fclosed_eq (fuel : Nat) (l : List Rule) (s : BitVec 32) (hf : 8589934600 < fuel) : ∃ r, follow_closed fuel l s = some r ∧ Lst l s r := by
  unfold follow_closed
  refine whileK_q (Q := fun o => ∃ r, o = some r ∧ Lst l s r) (fun (z : BitVec 32 × Bool) => sb s z.1 ∧ (∀ c, sb s c → Cl l c → sb z.1 c) ∧ (z.2 = false → Cl l z.1)) (fun z => 2 * (4294967296 - z.1.toNat) + (if z.2 then 1 else 0)) (fun z nx hI hnx => ?_) fuel _ ⟨sb_refl s, fun c h _ => h, fun h => by cases h⟩ (by simp; omega)
  obtain ⟨a, more⟩ := z
  obtain ⟨h1, h2, h3⟩ := hI
  simp only at h1 h2 h3 ⊢
  unfold follow_closed_b8
  cases more with
  | false => exact ⟨a, rfl, h1, h3 rfl, h2⟩
  | true =>
    rw [cond_true]
    refine for0_q (Q := fun o => ∃ r, o = some r ∧ Lst l s r) (fun t (b : BitVec 32) => sb a b ∧ (∀ c, sb s c → Cl l c → sb b c) ∧ (b = a → ∀ i (h : i < l.length), i < t → sb l[i].cond a → sb l[i].thn a)) rfl a ⟨sb_refl a, h2, fun _ i h hi => by omega⟩ (fun t b nx' ht hJ hnx' => ?_) (fun b hJ => ?_)
    · obtain ⟨j1, j2, j3⟩ := hJ
      unfold follow_closed_b20
      rw [geti_at ht, Option.bind_some]
      by_cases hg : sb l[t].cond b
      · rw [andn_iff.2 hg, cond_true]
        refine hnx' _ ⟨j1.trans (sb_orl _ _), fun c hc hcl => sb_or.2 ⟨j2 c hc hcl, hcl t ht (hg.trans (j2 c hc hcl))⟩, fun e i hi hit hci => ?_⟩
        have hba : b = a := (sb.antisymm j1 (e ▸ sb_orl b l[t].thn)).symm
        by_cases ei : i = t
        · subst ei
          rw [← e]; exact sb_orr _ _
        · exact j3 hba i hi (by omega) hci
      · have : ((l[t].cond &&& ~~~b) == 0#32) = false := by
          rw [← Bool.not_eq_true]; exact fun h => hg (andn_iff.1 h)
        rw [this, cond_false]
        refine hnx' _ ⟨j1, j2, fun e i hi hit hci => ?_⟩
        by_cases ei : i = t
        · subst ei; subst e; exact absurd hci hg
        · exact j3 e i hi (by omega) hci
    · obtain ⟨j1, j2, j3⟩ := hJ
      unfold follow_closed_k16
      refine hnx _ ⟨h1.trans j1, j2, fun e i hi hci => ?_⟩ ?_
      · have hba : b = a := by simpa using e
        simp only at hci ⊢
        subst hba
        exact j3 rfl i hi hi hci
      · simp only
        by_cases e : b = a
        · subst e; simp
        · have := j1.lt (fun h => e h.symm)
          have hb := b.isLt
          simp only [if_true]
          split <;> omega

theorem refClose_eq {n : Nat} (hn : n ≤ 6) (l : List Rule) (s r : BitVec 32) (hL : Lst l s r) (hl : rin n l) (hs : bel n s) : syllogistref_Close n l s = some r := by
  have hfull : Cl l (full n) := fun i h _ => (bel_full (by omega)).1 (hl i h).2
  have hrf : sb r (full n) := hL.least _ ((bel_full (by omega)).1 hs) hfull
  unfold syllogistref_Close
  rw [ofInt64 (by omega)]
  refine forU_q (Q := fun o => o = some r) (fun j (out : BitVec 32) => sb r out ∧ sb out (full n) ∧ ∀ c : BitVec 32, c.toNat < j → sb s c → Cl l c → sb out c) _ ⟨hrf, sb_refl _, fun c h => by omega⟩ (fun c out nx hc hI hnx => ?_) (fun out hI => ?_)
  · obtain ⟨i1, i2, i3⟩ := hI
    unfold syllogistref_Close_b9
    obtain ⟨q, e, g⟩ := closed_eq l c
    rw [in_eq, Option.bind_some, e]
    simp only [Option.isSome_some, Bool.or_true, cond_true, Option.getD_some]
    by_cases hg : sb s c ∧ Cl l c
    · rw [or_iff.2 hg.1, g.2 hg.2]
      refine hnx _ ⟨sb_and.2 ⟨i1, hL.least c hg.1 hg.2⟩, (sb_andl _ _).trans i2, fun d hd h1 h2 => ?_⟩
      by_cases ed : d = c
      · subst ed; exact sb_andr _ _
      · have hne : d.toNat ≠ c.toNat := fun h => ed (BitVec.eq_of_toNat_eq h)
        exact (sb_andl _ _).trans (i3 d (by omega) h1 h2)
    · have : (((s ||| c) == c) && q) = false := by
        rw [Bool.and_eq_false_iff]
        by_cases h1 : sb s c
        · right
          rw [← Bool.not_eq_true]; exact fun h => hg ⟨h1, g.1 h⟩
        · left
          rw [← Bool.not_eq_true]; exact fun h => h1 (or_iff.1 h)
      rw [this, cond_false]
      refine hnx _ ⟨i1, i2, fun d hd h1 h2 => ?_⟩
      by_cases ed : d = c
      · subst ed; exact absurd ⟨h1, h2⟩ hg
      · have hne : d.toNat ≠ c.toNat := fun h => ed (BitVec.eq_of_toNat_eq h)
        exact i3 d (by omega) h1 h2
  · obtain ⟨i1, i2, i3⟩ := hI
    unfold syllogistref_Close_k6
    congr 1
    refine sb.antisymm (i3 r ?_ hL.sup hL.cl) i1
    have h1 := hrf.le
    rw [full_toNat (by omega)] at h1
    rw [one_shl_toNat (by omega)]
    have hp : 0 < 2 ^ n := Nat.pow_pos (by omega)
    omega

theorem rcode_ok {n : Int} {l : List Rule} {more : BitVec 32} (h : rcode n l more = 0) : ∃ k : Nat, n = k ∧ k ≤ 6 ∧ rin k l ∧ bel k more := by
  unfold rcode at h
  split at h
  · cases h
  · rename_i h1
    split at h
    · rename_i h2
      unfold rbad1 at h1
      exact ⟨n.toNat, by omega, by omega, h2.1, h2.2⟩
    · cases h

end Go.Proofs.Ytcojgaednjkbiaa.Sy
