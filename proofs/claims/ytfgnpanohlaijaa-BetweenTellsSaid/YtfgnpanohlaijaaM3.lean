/- What the classes of tables compute: the plain laws; no program in sight. -/
import Derived.Test.YtfgnpanohlaijaaM2
namespace Go.Proofs.Ytfgnpanohlaijaa.Sy
set_option linter.unusedVariables false

theorem andm_small : ∀ t : Nat, t < 16 → (iand (t : Int) (w64 ((t : Int) - 1)) == 0) = decide (t &&& (t - 1) = 0) := by decide
theorem size_eq (w : BitVec 32) : syllogistref_Size w = some (cntN 32 w.getLsbD : Int) := by
  unfold syllogistref_Size
  refine (for_cnt (n := 32) w.getLsbD rfl (by omega) (fun j s nx hj => ?_)).trans rfl
  unfold syllogistref_Size_b9
  rw [bit_eq _ _ hj, Option.bind_some, cond_nx]
theorem size_small : ∀ t : Nat, t < 16 → decide (((cntN 32 (BitVec.ofInt 32 (t : Int)).getLsbD : Nat) : Int) > 1) = !decide (t &&& (t - 1) = 0) := by decide

def mono (k : Nat) (f : List Bool) : Bool := allN (2 ^ k) fun s => allN k fun i => !at_ f s || at_ f (s ||| 2 ^ i)
def lin (k : Nat) (f : List Bool) : Bool := allN (2 ^ k) fun s => !sm (at_ f) k s || decide (s &&& (s - 1) = 0)
def selfdual (k : Nat) (f : List Bool) : Bool := decide (f = tab (2 ^ k) fun s => !at_ f (2 ^ k - 1 - s))
def cls (k : Nat) (f : List Bool) : BitVec 32 := bset 5 fun j => [!at_ f 0, at_ f (2 ^ k - 1), selfdual k f, mono k f, lin k f][j]?.getD false

theorem class_eq {k : Nat} {f : List Bool} (hk : k ≤ 4) (hf : f.length = 2 ^ k) : truth_class k f = some (cls k f) := by
  have h16 := pow_small hk
  have hp : 0 < 2 ^ k := Nat.pow_pos (by omega)
  unfold truth_class
  have e0 : geti f 0 = some (at_ f 0) := geti_d (j := 0) false (by omega)
  have e1 : geti f (w64 ((f.length : Int) - 1)) = some (at_ f (2 ^ k - 1)) := by
    rw [w64_id (by omega) (by omega), show (f.length : Int) - 1 = ((2 ^ k - 1 : Nat) : Int) by omega]
    exact geti_d false (by omega)
  rw [e0, Option.bind_some, e1, Option.bind_some, dual_eq hk hf, Option.bind_some, equal_eq, Option.bind_some]
  refine (for_rec (n := 2 ^ k) (fun t => [!at_ f 0, at_ f (2 ^ k - 1), selfdual k f, allN t (fun s => allN k fun i => !at_ f s || at_ f (s ||| 2 ^ i)), true]) (by rw [hf]) rfl (fun t nx ht => ?_)).trans ?_
  · unfold truth_class_b62
    rw [geti_d false (by omega), Option.bind_some, decide_eq_true (by omega), cond_true]
    refine (for_rec (n := k) (fun i => [!at_ f 0, at_ f (2 ^ k - 1), selfdual k f, allN t (fun s => allN k fun i => !at_ f s || at_ f (s ||| 2 ^ i)) && allN i (fun i => !at_ f t || at_ f (t ||| 2 ^ i)), true]) rfl ?_ (fun i nx' hi => ?_)).trans ?_
    · simp [allN]
    · unfold truth_class_b79
      have e3 : ∀ (a b c d e : Bool), geti [a, b, c, d, e] 3 = some d := fun _ _ _ _ _ => rfl
      have hlt := or_lt ht hi
      rw [e3, Option.bind_some, Int.toNat_natCast, ior_bit t (by omega) i (by omega), geti_d false (by omega)]
      simp only [Option.isSome_some, Bool.or_true, cond_true, Option.getD_some]
      rw [allN, ← Bool.and_assoc]
      rfl
    · unfold truth_class_k75
      rfl
  · unfold truth_class_k21
    rw [sums_eq hk hf, Option.bind_some]
    refine (for_rec (n := 2 ^ k) (fun t => [!at_ f 0, at_ f (2 ^ k - 1), selfdual k f, mono k f, allN t fun s => !sm (at_ f) k s || decide (s &&& (s - 1) = 0)]) (by rw [tab_len]) rfl (fun t nx ht => ?_)).trans ?_
    · unfold truth_class_b53
      have e4 : ∀ (a b c d e : Bool), geti [a, b, c, d, e] 4 = some e := fun _ _ _ _ _ => rfl
      rw [tab_geti ht, Option.bind_some, e4, Option.bind_some, andm_small t (by omega), allN]
      rfl
    · unfold truth_class_k35
      refine (for_bset (n := 5) (fun j => [!at_ f 0, at_ f (2 ^ k - 1), selfdual k f, mono k f, lin k f][j]?.getD false) rfl (fun j s nx hj => ?_)).trans rfl
      unfold truth_class_b46
      have e5 : geti [!at_ f 0, at_ f (2 ^ k - 1), selfdual k f, mono k f, lin k f] (j : Int) = some ([!at_ f 0, at_ f (2 ^ k - 1), selfdual k f, mono k f, lin k f][j]?.getD false) := geti_d false hj
      have e6 : geti [!at_ f 0, at_ f (2 ^ k - 1), selfdual k f, mono k f, allN (2 ^ k) fun s => !sm (at_ f) k s || decide (s &&& (s - 1) = 0)] (j : Int) = some ([!at_ f 0, at_ f (2 ^ k - 1), selfdual k f, mono k f, lin k f][j]?.getD false) := e5
      rw [e6, Option.bind_some, Int.toNat_natCast, cond_nx]

/-! ### One step more, or any two -/
def ups (a b : Nat) : Nat → Nat
  | 0 => a
  | i + 1 => bif b.testBit i then ups a b i ||| 2 ^ i else ups a b i
theorem ups_end : ∀ k, k ≤ 4 → ∀ a, a < 2 ^ k → ∀ b, b < 2 ^ k → a ||| b = b → ups a b k = b := by decide
theorem ups_lt {k a b : Nat} (ha : a < 2 ^ k) : ∀ i, i ≤ k → ups a b i < 2 ^ k
  | 0, _ => ha
  | i + 1, hi => by
    rw [ups]
    cases b.testBit i
    · exact ups_lt ha i (by omega)
    · exact or_lt (ups_lt ha i (by omega)) (by omega)
theorem mono_eq {k : Nat} {f : List Bool} (hk : k ≤ 4) : mono k f = allN (2 ^ k) fun a => allN (2 ^ k) fun b => !(decide (a ||| b = b) && at_ f a && !at_ f b) := by
  rw [Bool.eq_iff_iff]
  unfold mono
  simp only [allN_iff, Bool.or_eq_true, Bool.not_eq_true', Bool.and_eq_false_iff, decide_eq_false_iff_not, Bool.not_eq_false']
  constructor
  · intro h a ha b hb
    by_cases hab : a ||| b = b
    · cases hfa : at_ f a with
      | false => exact .inl (.inr rfl)
      | true =>
        refine .inr ?_
        have key : ∀ i, i ≤ k → at_ f (ups a b i) = true := by
          intro i
          induction i with
          | zero => exact fun _ => hfa
          | succ i ih =>
            intro hi
            have := ih (by omega)
            rw [ups]
            cases b.testBit i
            · exact this
            · rcases h _ (ups_lt (b := b) ha i (by omega)) i (by omega) with h | h
              · rw [this] at h; cases h
              · exact h
        have := key k (Nat.le_refl _)
        rwa [ups_end k hk a ha b hb hab] at this
    · exact .inl (.inl hab)
  · intro h s hs i hi
    rcases h s hs (s ||| 2 ^ i) (or_lt hs hi) with (h | h) | h
    · exact absurd (by rw [← Nat.or_assoc, Nat.or_self]) h
    · exact .inl h
    · exact .inr h

theorem rclass_eq {k : Nat} {f : List Bool} (hk : k ≤ 4) (hf : f.length = 2 ^ k) : syllogistref_Class k f = some (cls k f) := by
  have h16 := pow_small hk
  have hp : 0 < 2 ^ k := Nat.pow_pos (by omega)
  have e0 : geti f 0 = some (at_ f 0) := geti_d (j := 0) false (by omega)
  have e1 : geti f (w64 ((f.length : Int) - 1)) = some (at_ f (2 ^ k - 1)) := by
    rw [w64_id (by omega) (by omega), show (f.length : Int) - 1 = ((2 ^ k - 1 : Nat) : Int) by omega]
    exact geti_d false (by omega)
  have h4 : ∀ out, syllogistref_Class_k28 f out = some (bif lin k f then out + 16#32 else out) := by
    intro out
    unfold syllogistref_Class_k28
    rw [rsums_eq hk hf, Option.bind_some]
    rw [for_all (n := 2 ^ k) (fun s => !sm (at_ f) k s || decide (s &&& (s - 1) = 0)) (by rw [hf]) (fun s b nx hs => by
      unfold syllogistref_Class_b43
      rw [size_eq, Option.bind_some, tab_geti hs, size_small s (by omega)]
      simp only [Option.isSome_some, Bool.or_true, cond_true, Option.getD_some]
      cases decide (s &&& (s - 1) = 0) <;> cases sm (at_ f) k s <;> cases b <;> rfl)]
    rw [Bool.true_and]
    unfold syllogistref_Class_k39 lin
    cases (allN (2 ^ k) fun s => !sm (at_ f) k s || decide (s &&& (s - 1) = 0)) <;> rfl
  have h3 : ∀ out, syllogistref_Class_k18 f out = some (bif lin k f then (bif mono k f then out + 8#32 else out) + 16#32 else (bif mono k f then out + 8#32 else out)) := by
    intro out
    unfold syllogistref_Class_k18
    rw [for_all (n := 2 ^ k) (fun a => allN (2 ^ k) fun b => !(decide (a ||| b = b) && at_ f a && !at_ f b)) (by rw [hf]) (fun a r nx ha => by
      unfold syllogistref_Class_b51
      rw [for_all (n := 2 ^ k) (fun b => !(decide (a ||| b = b) && at_ f a && !at_ f b)) (by rw [hf]) (fun b r' nx' hb => by
        unfold syllogistref_Class_b63
        rw [ior_small a (by omega) b (by omega), geti_d false (by omega), geti_d false (by omega)]
        simp only [Option.isSome_some, Bool.or_true, cond_true, Option.getD_some]
        have hd : ((((a ||| b : Nat) : Int)) == (b : Int)) = decide (a ||| b = b) := by
          rw [Bool.eq_iff_iff, beq_iff_eq, decide_eq_true_eq]; omega
        rw [hd]
        show (bif (decide (a ||| b = b) && at_ f a) && !at_ f b then nx' false else nx' r') = _
        cases ((decide (a ||| b = b) && at_ f a) && !at_ f b) <;> cases r' <;> rfl)]
      rfl)]
    rw [Bool.true_and, ← mono_eq hk]
    unfold syllogistref_Class_k25
    rw [h4, h4]
    cases mono k f <;> rfl
  unfold syllogistref_Class
  rw [e0, Option.bind_some]
  unfold syllogistref_Class_k4
  rw [e1]
  simp only [Option.bind_some]
  unfold syllogistref_Class_k9
  rw [rdual_eq hk hf]
  simp only [Option.bind_some, bools_eq, h3]
  unfold cls
  show _ = some (bset 5 fun j => [!at_ f 0, at_ f (2 ^ k - 1), selfdual k f, mono k f, lin k f][j]?.getD false)
  rw [show decide (f = tab (2 ^ k) fun s => !at_ f (2 ^ k - 1 - s)) = selfdual k f from rfl]
  generalize at_ f 0 = a
  generalize at_ f (2 ^ k - 1) = b
  generalize selfdual k f = c
  generalize mono k f = d
  generalize lin k f = e
  cases a <;> cases b <;> cases c <;> cases d <;> cases e <;> rfl

theorem truthClasses_true (n : Int) (f : List Bool) : syllogistlaw_TruthClasses n f = some true := by
  unfold syllogistlaw_TruthClasses truth_Class
  obtain ⟨r, e1, e2, h⟩ := tcheck n f
  rw [e1, e2]
  by_cases hr : r = 0
  · subst hr
    obtain ⟨k, rfl, hk, hf⟩ := h rfl
    simp [class_eq hk hf, rclass_eq hk hf]
  · have : (r != 0) = true := by simpa using hr
    simp [this]

/-! ### Several tables -/
def tco (n : Int) (f : List Bool) : Int := (truth_Check n f).getD 0
theorem tco_eq (n : Int) (f : List Bool) : truth_Check n f = some (tco n f) ∧ syllogistref_TruthCheck n f = some (tco n f) ∧ (tco n f = 0 → ∃ k, TOk n f k) := by
  obtain ⟨r, e1, e2, h⟩ := tcheck n f
  have : tco n f = r := by unfold tco; rw [e1]; rfl
  rw [this]
  exact ⟨e1, e2, h⟩
def xs (n : Int) (fs : List (List Bool)) (x0 : Int) : Nat → Int
  | 0 => x0
  | j + 1 => if xs n fs x0 j = 0 then tco n (fs[j]?.getD []) else xs n fs x0 j
def als (n : Int) (fs : List (List Bool)) (x0 : Int) : Nat → BitVec 32
  | 0 => 31#32
  | j + 1 => if xs n fs x0 (j + 1) = 0 then als n fs x0 j &&& cls n.toNat (fs[j]?.getD []) else als n fs x0 j
theorem xs_stay {n : Int} {fs : List (List Bool)} {x0 c : Int} (hc : c ≠ 0) {j : Nat} (h : xs n fs x0 j = c) : ∀ m, j ≤ m → xs n fs x0 m = c := by
  intro m hm
  induction m with
  | zero => have : j = 0 := by omega
            subst this; exact h
  | succ m ih =>
    by_cases e : j = m + 1
    · subst e; exact h
    · have := ih (by omega)
      rw [xs, if_neg (by rw [this]; exact hc)]; exact this
theorem xs_zero {n : Int} {fs : List (List Bool)} : ∀ m, (∀ i, i < m → tco n (fs[i]?.getD []) = 0) → xs n fs 0 m = 0
  | 0, _ => rfl
  | m + 1, h => by rw [xs, if_pos (xs_zero m fun i hi => h i (by omega))]; exact h m (by omega)

def alp (n : Int) (fs : List (List Bool)) : Nat → BitVec 32
  | 0 => 31#32
  | j + 1 => alp n fs j &&& cls n.toNat (fs[j]?.getD [])
theorem als_alp {n : Int} {fs : List (List Bool)} : ∀ m, (∀ i, i < m → tco n (fs[i]?.getD []) = 0) → als n fs 0 m = alp n fs m
  | 0, _ => rfl
  | m + 1, h => by rw [als, if_pos (xs_zero (m + 1) h), als_alp m fun i hi => h i (by omega)]; rfl

theorem wlaw_eq {n : Int} {fs : List (List Bool)} (r1 : Bool × Int) (x0 : Int) : syllogistlaw_TruthWholes_k4 n fs r1 x0 = syllogistlaw_TruthWholes_k14 r1 (xs n fs x0 fs.length) (als n fs x0 fs.length) := by
  unfold syllogistlaw_TruthWholes_k4
  refine for_rec (n := fs.length) (fun j => (xs n fs x0 j, als n fs x0 j)) rfl rfl (fun j nx hj => ?_)
  unfold syllogistlaw_TruthWholes_b18
  rw [geti_d [] hj, Option.bind_some]
  obtain ⟨_, t2, t3⟩ := tco_eq n (fs[j]?.getD [])
  simp only
  by_cases hx : xs n fs x0 j = 0
  · rw [hx]
    simp only [beq_self_eq_true, cond_true, t2, Option.bind_some]
    unfold syllogistlaw_TruthWholes_k27
    have hs : xs n fs x0 (j + 1) = tco n (fs[j]?.getD []) := by rw [xs, if_pos hx]
    by_cases hc : tco n (fs[j]?.getD []) = 0
    · obtain ⟨k, rfl, hk, hf⟩ := t3 hc
      rw [als, hs, hc]
      simp only [beq_self_eq_true, cond_true, rclass_eq hk hf, Option.bind_some, if_true, Int.toNat_natCast]
    · have : (tco n (fs[j]?.getD []) == 0) = false := by simpa using hc
      rw [als, hs, if_neg hc, this, cond_false]
  · have : (xs n fs x0 j == 0) = false := by simpa using hx
    have hs : xs n fs x0 (j + 1) = xs n fs x0 j := by rw [xs, if_neg hx]
    rw [this, cond_false]
    unfold syllogistlaw_TruthWholes_k27
    rw [this, cond_false, als, hs, if_neg hx]

theorem truthWholes_true (n : Int) (fs : List (List Bool)) : syllogistlaw_TruthWholes n fs = some true := by
  unfold syllogistlaw_TruthWholes truth_Whole
  cases hb : (((decide (n < (0 : Int))) || (decide (n > (4 : Int)))) || (decide ((fs.length : Int) > (10 : Int)))) with
  | true =>
    simp only [cond_true, Option.bind_some]
    rw [wlaw_eq, xs_stay (c := 1) (by decide) (j := 0) rfl _ (by omega)]
    unfold syllogistlaw_TruthWholes_k14
    rfl
  | false =>
    simp only [cond_false]
    rcases for_find (n := fs.length) (k := fun s => truth_Whole_k6 s) (body := fun i s nx_ => truth_Whole_b10 n fs i s nx_) (alp n fs) (fun j => tco n (fs[j]?.getD []) != 0) (fun j => some (false, tco n (fs[j]?.getD []))) (b := (fs.length : Int)) rfl (s := 31#32) rfl (fun j nx hj => by
      unfold truth_Whole_b10
      obtain ⟨t1, _, t3⟩ := tco_eq n (fs[j]?.getD [])
      rw [geti_d [] hj, Option.bind_some, t1, Option.bind_some]
      cases hc : (tco n (fs[j]?.getD []) != 0) with
      | true => rfl
      | false =>
        obtain ⟨k, rfl, hk, hf⟩ := t3 (by simpa using hc)
        rw [cond_false, cond_false, class_eq hk hf, Option.bind_some, alp, Int.toNat_natCast]) with ⟨j, hj, he, hbef, h⟩ | ⟨h1, h2⟩
    · have hz : ∀ i, i < j → tco n (fs[i]?.getD []) = 0 := fun i hi => by simpa using hbef i hi
      have hc : tco n (fs[j]?.getD []) ≠ 0 := by simpa using he
      have hx : xs n fs 0 (j + 1) = tco n (fs[j]?.getD []) := by rw [xs, if_pos (xs_zero j hz)]
      rw [h, Option.bind_some, wlaw_eq, xs_stay hc hx _ (by omega)]
      unfold syllogistlaw_TruthWholes_k14
      have : (tco n (fs[j]?.getD []) != 0) = true := he
      rw [this]
      simp
    · have hz : ∀ i, i < fs.length → tco n (fs[i]?.getD []) = 0 := fun i hi => by simpa using h1 i hi
      rw [h2]
      unfold truth_Whole_k6
      rw [Option.bind_some, wlaw_eq, xs_zero _ hz, als_alp _ hz]
      unfold syllogistlaw_TruthWholes_k14
      simp
end Go.Proofs.Ytfgnpanohlaijaa.Sy
