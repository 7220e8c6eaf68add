/- What the down sets of an order and the roles compute: the plain laws; no program in sight. -/
import Derived.Test.YtnalbbmiakbpgaaM0
namespace Go.Proofs.Ytnalbbmiakbpgaa.Sy
set_option linter.unusedVariables false

theorem fits_eq {n : Nat} (hn : n < 32) (s : BitVec 32) : ∃ r, syllogistref_Fits n s = some r ∧ (r = true ↔ bel n s) := by
  unfold syllogistref_Fits
  refine ⟨_, rfl, ?_⟩
  rw [ofInt64 (by omega), ← bel_lt hn]
  simp
  omega
theorem in_eq (a b : BitVec 32) : syllogistref_In a b = some ((a ||| b) == b) := rfl

/-- Down to what s holds. -/
def DnP (ps : List (Int × Int)) (m : Nat) (s : BitVec 32) : Prop := ∀ i j : Nat, i < m → j < m → s.getLsbD j = true → Rch ps i j → s.getLsbD i = true

theorem down_eq (fuel : Nat) (m : Nat) (ps : List (Int × Int)) (s : BitVec 32) (hm : m ≤ 6) (hps : ps.length ≤ 20) (hf : 30 < fuel) : ∃ r, syllogistref_Down fuel m ps s = some r ∧ (r = true ↔ DnP ps m s) := by
  unfold syllogistref_Down
  rw [decide_eq_true (by omega), cond_true]
  refine for0_q (Q := fun o => ∃ r, o = some r ∧ (r = true ↔ DnP ps m s)) (fun t _ => ∀ i j : Nat, i < t → j < m → s.getLsbD j = true → Rch ps i j → s.getLsbD i = true) rfl () (fun i j h => by omega) (fun t u nx ht hI hnx => ?_) (fun u hI => ⟨true, rfl, ⟨fun _ i j hi hj => hI i j hi hj, fun _ => rfl⟩⟩)
  unfold syllogistref_Down_b7
  rw [decide_eq_true (by omega), cond_true]
  refine for0_q (Q := fun o => ∃ r, o = some r ∧ (r = true ↔ DnP ps m s)) (fun k _ => ∀ j : Nat, j < k → s.getLsbD j = true → Rch ps t j → s.getLsbD t = true) rfl () (fun j h => by omega) (fun k u' nx' hk hJ hnx' => ?_) (fun u' hJ => ?_)
  · unfold syllogistref_Down_b16
    rw [bit_eq _ _ (by omega), Option.bind_some, bit_eq _ _ (by omega)]
    obtain ⟨r, e, g⟩ := under_eq fuel m ps t k (by omega) (by omega)
    rw [e]
    simp only [Option.isSome_some, Bool.or_true, cond_true, Option.getD_some]
    by_cases hb : s.getLsbD k = true ∧ s.getLsbD t = false ∧ Rch ps t k
    · rw [hb.1, hb.2.1, g.2 hb.2.2]
      refine ⟨false, rfl, ?_⟩
      simp only [Bool.false_eq_true, false_iff]
      intro h
      have := h t k ht hk hb.1 hb.2.2
      rw [hb.2.1] at this; cases this
    · have : ((s.getLsbD k && !s.getLsbD t) && r) = false := by
        cases h1 : s.getLsbD k with
        | false => rfl
        | true =>
          cases h2 : s.getLsbD t with
          | true => rfl
          | false =>
            cases h3 : r with
            | false => rfl
            | true => exact absurd ⟨h1, h2, g.1 h3⟩ hb
      rw [this, cond_false]
      refine hnx' () fun j hj h1 h2 => ?_
      by_cases e : j = k
      · subst e
        cases h3 : s.getLsbD t with
        | true => rfl
        | false => exact absurd ⟨h1, h3, h2⟩ hb
      · exact hJ j (by omega) h1 h2
  · unfold syllogistref_Down_k12
    refine hnx () fun i j hi hj h1 h2 => ?_
    by_cases e : i = t
    · subst e; exact hJ j hj h1 h2
    · exact hI i j (by omega) hj h1 h2

theorem and_ne {a b : BitVec 32} : ((a &&& b) != 0#32) = true ↔ ∃ j, a.getLsbD j = true ∧ b.getLsbD j = true := by
  rw [bne_iff_ne]
  constructor
  · intro h
    apply Classical.byContradiction
    intro hn
    refine h (bits_ext fun i => ?_)
    simp only [BitVec.getLsbD_and, Bool.and_eq_true, BitVec.getLsbD_zero, Bool.false_eq_true, iff_false]
    exact fun hh => hn ⟨i, hh⟩
  · rintro ⟨j, h1, h2⟩ e
    have := congrArg (fun z : BitVec 32 => z.getLsbD j) e
    simp [h1, h2] at this

/-- s and all below it. -/
def FlP (ps : List (Int × Int)) (m : Nat) (s r : BitVec 32) : Prop := ∀ i, r.getLsbD i = true ↔ s.getLsbD i = true ∨ (i < m ∧ ∃ j, j < m ∧ Rch ps i j ∧ s.getLsbD j = true)

theorem fill_loop {ps : List (Int × Int)} {m : Nat} {T : List (BitVec 32)} (hm : m ≤ 6) (hR : Rel T m fun i j => j < m ∧ Rch ps i j) (s : BitVec 32) : ∃ r, downs_fill T s = some r ∧ FlP ps m s r := by
  unfold downs_fill
  have hl := hR.1
  refine for0_q (Q := fun o => ∃ r, o = some r ∧ FlP ps m s r) (fun t (out : BitVec 32) => ∀ i, out.getLsbD i = true ↔ s.getLsbD i = true ∨ (i < t ∧ ∃ j, j < m ∧ Rch ps i j ∧ s.getLsbD j = true)) rfl s (fun i => by simp) (fun t out nx ht hI hnx => ?_) (fun out hI => ⟨out, rfl, fun i => by rw [hI i, hl]⟩)
  unfold downs_fill_b10
  rw [geti_at ht, Option.bind_some]
  have hiff : ((T[t] &&& s) != 0#32) = true ↔ ∃ j, j < m ∧ Rch ps t j ∧ s.getLsbD j = true := by
    rw [and_ne]
    constructor
    · rintro ⟨j, h1, h2⟩
      have := (hR.2 t ht j).1 h1
      exact ⟨j, this.1, this.2, h2⟩
    · rintro ⟨j, h1, h2, h3⟩
      exact ⟨j, (hR.2 t ht j).2 ⟨h1, h2⟩, h3⟩
  cases hb : ((T[t] &&& s) != 0#32) with
  | true =>
    rw [cond_true]
    have hx := hiff.1 hb
    refine hnx _ fun i => ?_
    rw [BitVec.getLsbD_or, Bool.or_eq_true, hI i, Int.toNat_natCast, one_shl]
    constructor
    · rintro ((h | ⟨h1, h2⟩) | ⟨h, _⟩)
      · exact .inl h
      · exact .inr ⟨by omega, h2⟩
      · subst h; exact .inr ⟨by omega, hx⟩
    · rintro (h | ⟨h1, h2⟩)
      · exact .inl (.inl h)
      · by_cases e : i = t
        · exact .inr ⟨e, by omega⟩
        · exact .inl (.inr ⟨by omega, h2⟩)
  | false =>
    rw [cond_false]
    refine hnx _ fun i => ?_
    rw [hI i]
    constructor
    · rintro (h | ⟨h1, h2⟩)
      · exact .inl h
      · exact .inr ⟨by omega, h2⟩
    · rintro (h | ⟨h1, h2⟩)
      · exact .inl h
      · by_cases e : i = t
        · subst e; rw [hiff.2 h2] at hb; cases hb
        · exact .inr ⟨by omega, h2⟩

theorem FlP.sup {ps : List (Int × Int)} {m : Nat} {s r : BitVec 32} (h : FlP ps m s r) : sb s r := fun i e => (h i).2 (.inl e)
theorem FlP.bel {ps : List (Int × Int)} {m : Nat} {s r : BitVec 32} (h : FlP ps m s r) (hs : bel m s) : bel m r := fun i e => by
  rcases (h i).1 e with h | h
  · exact hs i h
  · exact h.1
theorem FlP.down {ps : List (Int × Int)} {m : Nat} {s r : BitVec 32} (h : FlP ps m s r) : DnP ps m r := by
  intro i j hi hj hb hr
  rcases (h j).1 hb with h' | ⟨_, k, hk, hjk, hs⟩
  · exact (h i).2 (.inr ⟨hi, j, hj, hr, h'⟩)
  · exact (h i).2 (.inr ⟨hi, k, hk, hr.trans hjk, hs⟩)
theorem FlP.least {ps : List (Int × Int)} {m : Nat} {s r t : BitVec 32} (h : FlP ps m s r) (hs : sb s t) (ht : DnP ps m t) : sb r t := fun i e => by
  rcases (h i).1 e with h' | ⟨hi, j, hj, hr, hsj⟩
  · exact hs i h'
  · exact ht i j hi hj (hs j hsj) hr
theorem FlP.same {ps : List (Int × Int)} {m : Nat} {s r : BitVec 32} (h : FlP ps m s r) : r = s ↔ DnP ps m s :=
  ⟨fun e => e ▸ h.down, fun hd => (h.least (sb_refl s) hd).antisymm h.sup⟩

open Classical in
noncomputable def scode (n : Int) (ps : List (Int × Int)) (s : BitVec 32) : Int := if chk n ps = 0 then (if bel n.toNat s then 0 else 4) else chk n ps

theorem chk_nat {n : Int} {ps : List (Int × Int)} (h : chk n ps = 0) : ∃ m : Nat, n = m ∧ m ≤ 6 ∧ 1 ≤ m ∧ ps.length ≤ 20 := by
  unfold chk at h
  split at h
  · cases h
  · rename_i h1
    unfold bad1 at h1
    exact ⟨n.toNat, by omega, by omega, by omega, by omega⟩

theorem setCode_eq (fuel : Nat) (n : Int) (ps : List (Int × Int)) (s : BitVec 32) (hf : 30 < fuel) : syllogistlaw_setCode fuel n ps s = some (scode n ps s) := by
  unfold syllogistlaw_setCode scode
  rw [check_eq fuel n ps hf, Option.bind_some]
  by_cases hc : chk n ps = 0
  · obtain ⟨m, rfl, hm, _, _⟩ := chk_nat hc
    obtain ⟨r, e, g⟩ := fits_eq (n := m) (by omega) s
    rw [hc, e]
    simp only [Option.isSome_some, Bool.or_true, cond_true, Option.getD_some, Int.toNat_natCast, if_true]
    cases hr : r with
    | true => rw [if_pos (g.1 hr)]; rfl
    | false =>
      rw [if_neg (fun h => by rw [g.2 h] at hr; cases hr)]; rfl
  · have : (chk n ps == 0) = false := by simpa using hc
    rw [if_neg hc, this]
    simp

theorem Fill_eq (n : Int) (ps : List (Int × Int)) (s : BitVec 32) : ∃ r, downs_Fill n ps s = some (r, scode n ps s) ∧ (scode n ps s ≠ 0 → r = 0#32) ∧ (scode n ps s = 0 → ∃ m : Nat, n = m ∧ m ≤ 6 ∧ ps.length ≤ 20 ∧ bel m s ∧ FlP ps m s r) := by
  unfold downs_Fill scode
  obtain ⟨l, e, h1, h2⟩ := table_eq n ps
  rw [e, Option.bind_some]
  by_cases hc : chk n ps = 0
  · obtain ⟨m, rfl, hm, hm1, hps, hR⟩ := h2 hc
    rw [hc]
    simp only [bne_self_eq_false, cond_false, if_true, Int.toNat_natCast]
    rw [decide_eq_true (by omega), cond_true]
    by_cases hb : bel m s
    · rw [if_pos hb, bel_shr.2 hb]
      obtain ⟨r, er, hF⟩ := fill_loop hm hR s
      simp only [bne_self_eq_false, cond_false, er, Option.bind_some]
      exact ⟨r, rfl, fun h => absurd rfl h, fun _ => ⟨m, rfl, hm, hps, hb, hF⟩⟩
    · rw [if_neg hb]
      have : ((s >>> m) != 0#32) = true := by
        rw [bne_iff_ne]; exact fun h => hb (bel_shr.1 h)
      rw [this]
      exact ⟨0#32, rfl, fun _ => rfl, fun h => by cases h⟩
  · have : (chk n ps != 0) = true := by simpa using hc
    rw [this, if_neg hc]
    exact ⟨0#32, rfl, fun _ => rfl, fun h => absurd h hc⟩

theorem downsFills_true (fuel : Nat) (n : Int) (ps : List (Int × Int)) (s : BitVec 32) (hf : 30 < fuel := by decide) : syllogistlaw_DownsFills fuel n ps s = some true := by
  unfold syllogistlaw_DownsFills
  obtain ⟨r, e, h1, h2⟩ := Fill_eq n ps s
  rw [e, Option.bind_some, setCode_eq fuel n ps s hf, Option.bind_some]
  by_cases hc : scode n ps s = 0
  · obtain ⟨m, rfl, hm, hps, hb, hF⟩ := h2 hc
    rw [hc]
    simp only [bne_self_eq_false, cond_false]
    refine forU_q (Q := fun o => o = some true) (fun _ _ => True) () trivial (fun c u nx hlt _ hnx => ?_) (fun u _ => ?_)
    · unfold syllogistlaw_DownsFills_b13
      obtain ⟨q, eq, gq⟩ := down_eq fuel m ps c hm hps hf
      rw [in_eq, Option.bind_some, eq, in_eq]
      simp only [Option.isSome_some, Bool.or_true, cond_true, Option.getD_some]
      have : ((((s ||| c) == c) && q) && !((r ||| c) == c)) = false := by
        cases h3 : ((s ||| c) == c) with
        | false => rfl
        | true =>
          cases h4 : q with
          | false => rfl
          | true => rw [or_iff.2 (hF.least (or_iff.1 h3) (gq.1 h4))]; rfl
      rw [this, cond_false]
      exact hnx () trivial
    · unfold syllogistlaw_DownsFills_k7
      obtain ⟨q, eq, gq⟩ := down_eq fuel m ps r hm hps hf
      obtain ⟨p, ep, gp⟩ := fits_eq (n := m) (by omega) r
      rw [in_eq, eq, ep, gq.2 hF.down, gp.2 (hF.bel hb), or_iff.2 hF.sup]
      simp
  · have : (scode n ps s != 0) = true := by simpa using hc
    rw [this, cond_true, h1 hc]
    simp

/-! ### How many -/
open Classical in
noncomputable def cnt (P : BitVec 32 → Prop) : Nat → Nat
  | 0 => 0
  | j + 1 => cnt P j + (if P (BitVec.ofNat 32 j) then 1 else 0)

theorem cnt_le (P : BitVec 32 → Prop) : ∀ j, cnt P j ≤ j
  | 0 => Nat.le_refl _
  | j + 1 => by
    have := cnt_le P j
    unfold cnt
    split <;> omega

theorem cnt_step (P : BitVec 32 → Prop) (c : BitVec 32) : (P c → cnt P (c.toNat + 1) = cnt P c.toNat + 1) ∧ (¬ P c → cnt P (c.toNat + 1) = cnt P c.toNat) := by
  have hc : BitVec.ofNat 32 c.toNat = c := by simp
  constructor <;> intro h <;> rw [cnt, hc]
  · rw [if_pos h]
  · rw [if_neg h]; rfl

theorem all_eq (n : Int) (ps : List (Int × Int)) : ∃ l, downs_All n ps = some (l, chk n ps) ∧ (chk n ps ≠ 0 → l = []) ∧ (chk n ps = 0 → ∃ m : Nat, n = m ∧ m ≤ 6 ∧ ps.length ≤ 20 ∧ l.length = cnt (DnP ps m) (2 ^ m)) := by
  unfold downs_All
  obtain ⟨T, e, h1, h2⟩ := table_eq n ps
  rw [e, Option.bind_some]
  by_cases hc : chk n ps = 0
  · obtain ⟨m, rfl, hm, hm1, hps, hR⟩ := h2 hc
    rw [hc]
    simp only [bne_self_eq_false, cond_false, Int.toNat_natCast]
    rw [decide_eq_true (by omega), cond_true]
    have hpow : (1#32 <<< m).toNat = 2 ^ m := one_shl_toNat (by omega)
    have h64 : 2 ^ m ≤ 64 := by
      have : ∀ m, m ≤ 6 → 2 ^ m ≤ 64 := by decide
      exact this m hm
    suffices hkey : ∃ l, forK (fun i s nx_ => downs_All_b18 (T, 0) i s nx_) (fun s => downs_All_k15 s) ((1#32 <<< m).toNat - (0#32).toNat) 0#32 [] = some (l, (0 : Int)) ∧ l.length = cnt (DnP ps m) (2 ^ m) by
      obtain ⟨l, hk1, hk2⟩ := hkey
      exact ⟨l, hk1, fun h => absurd rfl h, fun _ => ⟨m, rfl, hm, hps, hk2⟩⟩
    refine forU_q (Q := fun o => ∃ l, o = some (l, (0 : Int)) ∧ l.length = cnt (DnP ps m) (2 ^ m)) (fun j (l : List (BitVec 32)) => l.length = cnt (DnP ps m) j) [] rfl (fun c l nx hlt hI hnx => ?_) (fun l hI => ⟨l, rfl, by rw [hI, hpow]⟩)
    unfold downs_All_b18
    obtain ⟨r, er, hF⟩ := fill_loop hm hR c
    rw [er, Option.bind_some]
    have hle := cnt_le (DnP ps m) c.toNat
    by_cases hd : DnP ps m c
    · rw [hF.same.2 hd]
      simp only [beq_self_eq_true, cond_true]
      rw [decide_eq_true (by simp; omega), cond_true]
      refine hnx _ ?_
      rw [(cnt_step _ c).1 hd, ← hI]; simp
    · have : (r == c) = false := by
        rw [beq_eq_false_iff_ne]; exact fun h => hd (hF.same.1 h)
      rw [this, cond_false]
      refine hnx _ ?_
      rw [(cnt_step _ c).2 hd, hI]
  · have : (chk n ps != 0) = true := by simpa using hc
    rw [this]
    exact ⟨[], rfl, fun _ => rfl, fun h => absurd h hc⟩

theorem downsManies_true (fuel : Nat) (n : Int) (ps : List (Int × Int)) (hf : 30 < fuel := by decide) : syllogistlaw_DownsManies fuel n ps = some true := by
  unfold syllogistlaw_DownsManies downs_Many
  obtain ⟨l, e, h1, h2⟩ := all_eq n ps
  rw [e, Option.bind_some, Option.bind_some, check_eq fuel n ps hf, Option.bind_some]
  by_cases hc : chk n ps = 0
  · obtain ⟨m, rfl, hm, hps, hl⟩ := h2 hc
    rw [hc]
    simp only [bne_self_eq_false, cond_false]
    rw [ofInt64 (by omega)]
    have hpow : (1#32 <<< m).toNat = 2 ^ m := one_shl_toNat (by omega)
    have h64 : 2 ^ m ≤ 64 := by
      have : ∀ m, m ≤ 6 → 2 ^ m ≤ 64 := by decide
      exact this m hm
    refine forU_q (Q := fun o => o = some true) (fun j (w : Int) => w = cnt (DnP ps m) j) _ rfl (fun c w nx hlt hI hnx => ?_) (fun w hI => ?_)
    · unfold syllogistlaw_DownsManies_b13
      obtain ⟨q, eq, gq⟩ := down_eq fuel m ps c hm hps hf
      have hle := cnt_le (DnP ps m) c.toNat
      rw [eq, Option.bind_some]
      cases hq : q with
      | true =>
        rw [cond_true]
        refine hnx _ ?_
        rw [(cnt_step _ c).1 (gq.1 hq), hI, w64_id (by omega) (by omega)]; omega
      | false =>
        rw [cond_false]
        refine hnx _ ?_
        rw [(cnt_step _ c).2 (fun h => by rw [gq.2 h] at hq; cases hq), hI]
    · unfold syllogistlaw_DownsManies_k10
      rw [hI, hl, hpow]; simp
  · have : (chk n ps != 0) = true := by simpa using hc
    rw [this, cond_true, h1 hc]
    simp

/-! ### The edge -/
theorem edge_loop {ps : List (Int × Int)} {m : Nat} {T : List (BitVec 32)} (hm : m ≤ 6) (hR : Rel T m fun i j => j < m ∧ Rch ps i j) (s : BitVec 32) (hs : bel m s) (c : Int) :
    ∃ r, forK (σ := (BitVec 32)) (fun i s' nx_ => downs_Edge_b17 s (T, c) i s' nx_) (fun s' => downs_Edge_k13 s') ((T.length : Int) - (0 : Int)).toNat (0 : Int) (0#32) = some (r, 0) ∧
      ∀ i, r.getLsbD i = true ↔ i < m ∧ s.getLsbD i = true ∧ ∀ j, j < m → j ≠ i → s.getLsbD j = true → ¬ Rch ps i j := by
  have hl := hR.1
  refine for0_q (Q := fun o => ∃ r, o = some (r, (0 : Int)) ∧ ∀ i, r.getLsbD i = true ↔ i < m ∧ s.getLsbD i = true ∧ ∀ j, j < m → j ≠ i → s.getLsbD j = true → ¬ Rch ps i j)
    (fun t (out : BitVec 32) => ∀ i, out.getLsbD i = true ↔ i < t ∧ s.getLsbD i = true ∧ ∀ j, j < m → j ≠ i → s.getLsbD j = true → ¬ Rch ps i j) (n := T.length) rfl (0#32) (fun i => by simp) (fun t out nx ht hI hnx => ?_) (fun out hI => ⟨out, rfl, fun i => by rw [hI i, hl]⟩)
  unfold downs_Edge_b17
  simp only
  rw [geti_at ht, Option.bind_some]
  simp only [Int.toNat_natCast, bit_shr]
  have hiff : (s.getLsbD t && ((T[t] &&& s) == (1#32 <<< t))) = true ↔ s.getLsbD t = true ∧ ∀ j, j < m → j ≠ t → s.getLsbD j = true → ¬ Rch ps t j := by
    rw [Bool.and_eq_true, beq_iff_eq]
    refine and_congr_right fun hst => ?_
    constructor
    · intro h j hj hne hsj hr
      have := congrArg (fun z : BitVec 32 => z.getLsbD j) h
      simp only [BitVec.getLsbD_and, (hR.2 t ht j).2 ⟨hj, hr⟩, hsj] at this
      have := (one_shl t j).1 (by simpa using this.symm)
      omega
    · intro h
      refine bits_ext fun j => ?_
      rw [one_shl, BitVec.getLsbD_and, Bool.and_eq_true, hR.2 t ht j]
      constructor
      · rintro ⟨⟨h1, h2⟩, h3⟩
        refine ⟨Classical.byContradiction fun hne => h j h1 hne h3 h2, by omega⟩
      · rintro ⟨rfl, _⟩
        exact ⟨⟨by omega, .refl⟩, hst⟩
  cases hb : (s.getLsbD t && ((T[t] &&& s) == (1#32 <<< t))) with
  | true =>
    rw [cond_true]
    have hx := hiff.1 hb
    refine hnx _ fun i => ?_
    rw [BitVec.getLsbD_or, Bool.or_eq_true, hI i, one_shl]
    constructor
    · rintro (⟨h1, h2⟩ | ⟨h, _⟩)
      · exact ⟨by omega, h2⟩
      · subst h; exact ⟨by omega, hx⟩
    · rintro ⟨h1, h2⟩
      by_cases e : i = t
      · exact .inr ⟨e, by omega⟩
      · exact .inl ⟨by omega, h2⟩
  | false =>
    rw [cond_false]
    refine hnx _ fun i => ?_
    rw [hI i]
    constructor
    · rintro ⟨h1, h2⟩
      exact ⟨by omega, h2⟩
    · rintro ⟨h1, h2⟩
      by_cases e : i = t
      · subst e; rw [hiff.2 h2] at hb; cases hb
      · exact ⟨by omega, h2⟩

theorem downsEdges_true (fuel : Nat) (n : Int) (ps : List (Int × Int)) (s : BitVec 32) (hf : 30 < fuel := by decide) : syllogistlaw_DownsEdges fuel n ps s = some true := by
  unfold syllogistlaw_DownsEdges downs_Edge
  obtain ⟨T, e, h1, h2⟩ := table_eq n ps
  rw [e, Option.bind_some, setCode_eq fuel n ps s hf]
  by_cases hc : chk n ps = 0
  · obtain ⟨m, rfl, hm, hm1, hps, hR⟩ := h2 hc
    have hsc : scode m ps s = (open Classical in if bel m s then 0 else 4) := by unfold scode; rw [if_pos hc]; simp
    obtain ⟨q, eq, gq⟩ := down_eq fuel m ps s hm hps hf
    rw [hc]
    simp only [bne_self_eq_false, cond_false, Int.toNat_natCast]
    rw [decide_eq_true (by omega), cond_true]
    by_cases hb : bel m s
    · rw [if_pos hb] at hsc
      rw [hsc, bel_shr.2 hb]
      obtain ⟨r, er, hF⟩ := fill_loop hm hR s
      simp only [bne_self_eq_false, cond_false, er, Option.bind_some, eq]
      simp only [Option.isSome_some, Bool.or_true, cond_true, Option.getD_some, beq_self_eq_true, Bool.true_and]
      by_cases hd : DnP ps m s
      · rw [gq.2 hd, hF.same.2 hd]
        simp only [bne_self_eq_false, cond_false, Bool.not_true]
        obtain ⟨x, ex, hx⟩ := edge_loop hm hR s hb 0
        rw [ex, Option.bind_some]
        unfold syllogistlaw_DownsEdges_k7
        simp only [bne_self_eq_false, cond_false]
        rw [decide_eq_true (by omega), cond_true]
        refine for0_eq (fun _ _ => True) rfl () trivial (fun i u nx hi _ hnx => ?_) (fun u _ => ?_)
        · unfold syllogistlaw_DownsEdges_b16
          rw [bit_eq _ _ (by omega), Option.bind_some, decide_eq_true (by omega), cond_true]
          refine for0_eq (fun k (top : Bool) => top = true ↔ s.getLsbD i = true ∧ ∀ j, j < k → j ≠ i → s.getLsbD j = true → ¬ Rch ps i j) rfl _ ⟨fun h => ⟨h, fun j hj => by omega⟩, fun h => h.1⟩ (fun j top nx' hj hJ hnx' => ?_) (fun top hJ => ?_)
          · unfold syllogistlaw_DownsEdges_b32
            rw [bit_eq _ _ (by omega)]
            obtain ⟨p, ep, gp⟩ := under_eq fuel m ps i j (by omega) (by omega)
            rw [ep]
            simp only [Option.isSome_some, Bool.or_true, cond_true, Option.getD_some]
            refine hnx' _ ?_
            have hji : ((j : Int) == (i : Int)) = decide (j = i) := by
              rw [Bool.eq_iff_iff]; simp; omega
            rw [hji, Bool.and_eq_true, hJ]
            constructor
            · rintro ⟨⟨a, b⟩, c⟩
              refine ⟨a, fun k hk hne hsk hr => ?_⟩
              by_cases ek : k = j
              · subst ek
                rw [gp.2 hr, hsk] at c
                simp [hne] at c
              · exact b k (by omega) hne hsk hr
            · rintro ⟨a, b⟩
              refine ⟨⟨a, fun k hk => b k (by omega)⟩, ?_⟩
              by_cases ek : j = i
              · simp [ek]
              · cases hsj : s.getLsbD j with
                | false => simp
                | true =>
                  cases hp : p with
                  | false => simp
                  | true => exact absurd (gp.1 hp) (b j (by omega) ek hsj)
          · unfold syllogistlaw_DownsEdges_k26
            simp only
            rw [bit_eq _ _ (by omega), Option.bind_some]
            have : top = x.getLsbD i := by
              rw [Bool.eq_iff_iff, hJ, hx]
              exact ⟨fun h => ⟨hi, h⟩, fun h => h.2⟩
            rw [this]
            simp only [bne_self_eq_false, cond_false]
            exact hnx () trivial
        · unfold syllogistlaw_DownsEdges_k11
          simp only
          obtain ⟨p, ep, gp⟩ := fits_eq (n := m) (by omega) x
          rw [ep, gp.2 (fun i h => ((hx i).1 h).1)]
          simp
      · have hq : q = false := by
          rw [← Bool.not_eq_true]; exact fun h => hd (gq.1 h)
        have hne : (r != s) = true := by
          rw [bne_iff_ne]; exact fun h => hd (hF.same.1 h)
        rw [hq, hne]
        simp [syllogistlaw_DownsEdges_k7]
    · rw [if_neg hb] at hsc
      have : ((s >>> m) != 0#32) = true := by
        rw [bne_iff_ne]; exact fun h => hb (bel_shr.1 h)
      rw [this, hsc, eq]
      simp [syllogistlaw_DownsEdges_k7]
  · have hn : (chk n ps != 0) = true := by simpa using hc
    have hsc : scode n ps s = chk n ps := by unfold scode; rw [if_neg hc]
    have hn2 : (chk n ps == 0) = false := by simpa using hc
    rw [hn, hsc]
    simp [hn2, hn, syllogistlaw_DownsEdges_k7]

/-! ### What a role may -/
theorem below_loop {ps : List (Int × Int)} {m : Nat} {T : List (BitVec 32)} (hm : m ≤ 6) (hR : Rel T m fun i j => j < m ∧ Rch ps i j) (s : BitVec 32) : ∃ r, roles_below T s = some r ∧ ∀ i, r.getLsbD i = true ↔ (i < m ∧ ∃ j, j < m ∧ Rch ps i j ∧ s.getLsbD j = true) := by
  unfold roles_below
  have hl := hR.1
  refine for0_q (Q := fun o => ∃ r : BitVec 32, o = some r ∧ ∀ i, r.getLsbD i = true ↔ (i < m ∧ ∃ j, j < m ∧ Rch ps i j ∧ s.getLsbD j = true)) (fun t (out : BitVec 32) => ∀ i, out.getLsbD i = true ↔ (i < t ∧ ∃ j, j < m ∧ Rch ps i j ∧ s.getLsbD j = true)) (n := T.length) rfl (0#32) (fun i => by simp) (fun t out nx ht hI hnx => ?_) (fun out hI => ⟨out, rfl, fun i => by rw [hI i, hl]⟩)
  unfold roles_below_b10
  rw [geti_at ht, Option.bind_some]
  have hiff : ((T[t] &&& s) != 0#32) = true ↔ ∃ j, j < m ∧ Rch ps t j ∧ s.getLsbD j = true := by
    rw [and_ne]
    constructor
    · rintro ⟨j, h1, h2⟩
      have := (hR.2 t ht j).1 h1
      exact ⟨j, this.1, this.2, h2⟩
    · rintro ⟨j, h1, h2, h3⟩
      exact ⟨j, (hR.2 t ht j).2 ⟨h1, h2⟩, h3⟩
  cases hb : ((T[t] &&& s) != 0#32) with
  | true =>
    rw [cond_true]
    have hx := hiff.1 hb
    refine hnx _ fun i => ?_
    rw [BitVec.getLsbD_or, Bool.or_eq_true, hI i, Int.toNat_natCast, one_shl]
    constructor
    · rintro (⟨h1, h2⟩ | ⟨h, _⟩)
      · exact ⟨by omega, h2⟩
      · subst h; exact ⟨by omega, hx⟩
    · rintro ⟨h1, h2⟩
      by_cases e : i = t
      · exact .inr ⟨e, by omega⟩
      · exact .inl ⟨by omega, h2⟩
  | false =>
    rw [cond_false]
    refine hnx _ fun i => ?_
    rw [hI i]
    constructor
    · rintro ⟨h1, h2⟩
      exact ⟨by omega, h2⟩
    · rintro ⟨h1, h2⟩
      by_cases e : i = t
      · subst e; rw [hiff.2 h2] at hb; cases hb
      · exact ⟨by omega, h2⟩

theorem with_eq (fuel : Nat) (m : Nat) (ps : List (Int × Int)) (s : BitVec 32) (hm : m ≤ 6) (hps : ps.length ≤ 20) (hf : 30 < fuel) : ∃ r, syllogistref_With fuel m ps s = some r ∧ ∀ i, r.getLsbD i = true ↔ (i < m ∧ ∃ j, j < m ∧ Rch ps i j ∧ s.getLsbD j = true) := by
  unfold syllogistref_With
  rw [decide_eq_true (by omega), cond_true]
  refine for0_q (Q := fun o => ∃ r : BitVec 32, o = some r ∧ ∀ i, r.getLsbD i = true ↔ (i < m ∧ ∃ j, j < m ∧ Rch ps i j ∧ s.getLsbD j = true)) (fun t (out : BitVec 32) => ∀ i, out.getLsbD i = true ↔ (i < t ∧ ∃ j, j < m ∧ Rch ps i j ∧ s.getLsbD j = true)) rfl (0#32) (fun i => by simp) (fun t out nx ht hI hnx => ?_) (fun out hI => ⟨out, rfl, hI⟩)
  unfold syllogistref_With_b10
  rw [decide_eq_true (by omega), cond_true]
  refine for0_q (Q := fun o => ∃ r : BitVec 32, o = some r ∧ ∀ i, r.getLsbD i = true ↔ (i < m ∧ ∃ j, j < m ∧ Rch ps i j ∧ s.getLsbD j = true)) (fun k (out : BitVec 32) => ∀ i, out.getLsbD i = true ↔ (i < t ∧ ∃ j, j < m ∧ Rch ps i j ∧ s.getLsbD j = true) ∨ (i = t ∧ ∃ j, j < k ∧ Rch ps i j ∧ s.getLsbD j = true)) rfl _ (fun i => by rw [hI i]; simp) (fun k out' nx' hk hJ hnx' => ?_) (fun out' hJ => ?_)
  · unfold syllogistref_With_b22
    rw [bit_eq _ _ (by omega), Option.bind_some]
    obtain ⟨p, ep, gp⟩ := under_eq fuel m ps t k (by omega) (by omega)
    rw [ep]
    simp only [Option.isSome_some, Bool.or_true, cond_true, Option.getD_some]
    cases hb : (s.getLsbD k && p) with
    | true =>
      rw [cond_true, ofInt64 (by omega)]
      rw [Bool.and_eq_true] at hb
      refine hnx' _ fun i => ?_
      rw [BitVec.getLsbD_or, Bool.or_eq_true, hJ i, one_shl]
      constructor
      · rintro ((h | ⟨h, j, h1, h2⟩) | ⟨h, _⟩)
        · exact .inl h
        · exact .inr ⟨h, j, by omega, h2⟩
        · subst h; exact .inr ⟨rfl, k, by omega, gp.1 hb.2, hb.1⟩
      · rintro (h | ⟨h, j, h1, h2⟩)
        · exact .inl (.inl h)
        · exact .inr ⟨h, by omega⟩
    | false =>
      rw [cond_false]
      refine hnx' _ fun i => ?_
      rw [hJ i]
      constructor
      · rintro (h | ⟨h, j, h1, h2⟩)
        · exact .inl h
        · exact .inr ⟨h, j, by omega, h2⟩
      · rintro (h | ⟨h, j, h1, h2, h3⟩)
        · exact .inl h
        · by_cases e : j = k
          · subst e; subst h
            rw [h3, gp.2 h2] at hb; cases hb
          · exact .inr ⟨h, j, by omega, h2, h3⟩
  · unfold syllogistref_With_k18
    refine hnx _ fun i => ?_
    rw [hJ i]
    constructor
    · rintro (⟨h, h'⟩ | ⟨h, h'⟩)
      · exact ⟨by omega, h'⟩
      · exact ⟨by omega, h'⟩
    · rintro ⟨h, h'⟩
      by_cases e : i = t
      · exact .inr ⟨e, h'⟩
      · exact .inl ⟨by omega, h'⟩

theorem mays_loop {m : Nat} (hm : m ≤ 6) (may : List (BitVec 32)) (hl : may.length = m) (s : BitVec 32) : ∃ r, forK (σ := (BitVec 32)) (fun i s' nx_ => roles_May_b17 may s i s' nx_) (fun s' => roles_May_k13 s') ((may.length : Int) - (0 : Int)).toNat (0 : Int) (0#32) = some (r, 0) ∧ ∀ x, r.getLsbD x = true ↔ ∃ i, ∃ h : i < may.length, s.getLsbD i = true ∧ may[i].getLsbD x = true := by
  refine for0_q (Q := fun o => ∃ r, o = some (r, (0 : Int)) ∧ ∀ x, r.getLsbD x = true ↔ ∃ i, ∃ h : i < may.length, s.getLsbD i = true ∧ may[i].getLsbD x = true) (fun t (out : BitVec 32) => ∀ x, out.getLsbD x = true ↔ ∃ i, ∃ h : i < may.length, i < t ∧ s.getLsbD i = true ∧ may[i].getLsbD x = true) rfl (0#32) (fun x => by simp) (fun t out nx ht hI hnx => ?_) (fun out hI => ⟨out, rfl, fun x => by
    rw [hI x]
    exact ⟨fun ⟨i, h, _, h2⟩ => ⟨i, h, h2⟩, fun ⟨i, h, h2⟩ => ⟨i, h, h, h2⟩⟩⟩)
  unfold roles_May_b17
  rw [geti_at ht, Option.bind_some]
  simp only [Int.toNat_natCast, bit_shr]
  cases hb : s.getLsbD t with
  | true =>
    rw [cond_true]
    refine hnx _ fun x => ?_
    rw [BitVec.getLsbD_or, Bool.or_eq_true, hI x]
    constructor
    · rintro (⟨i, h, h1, h2⟩ | h)
      · exact ⟨i, h, by omega, h2⟩
      · exact ⟨t, ht, by omega, hb, h⟩
    · rintro ⟨i, h, h1, h2, h3⟩
      by_cases e : i = t
      · subst e; exact .inr h3
      · exact .inl ⟨i, h, by omega, h2, h3⟩
  | false =>
    rw [cond_false]
    refine hnx _ fun x => ?_
    rw [hI x]
    constructor
    · rintro ⟨i, h, h1, h2⟩
      exact ⟨i, h, by omega, h2⟩
    · rintro ⟨i, h, h1, h2, h3⟩
      by_cases e : i = t
      · subst e; rw [h2] at hb; cases hb
      · exact ⟨i, h, by omega, h2, h3⟩

theorem rolesMay_true (fuel : Nat) (n : Int) (ps : List (Int × Int)) (may : List (BitVec 32)) (s : BitVec 32) (hf : 30 < fuel := by decide) : syllogistlaw_RolesMay fuel n ps may s = some true := by
  unfold syllogistlaw_RolesMay roles_May syllogistlaw_mayCode
  obtain ⟨T, e, h1, h2⟩ := table_eq n ps
  rw [e, Option.bind_some, check_eq fuel n ps hf, Option.bind_some]
  by_cases hc : chk n ps = 0
  · obtain ⟨m, rfl, hm, hm1, hps, hR⟩ := h2 hc
    rw [hc]
    simp only [bne_self_eq_false, cond_false, Int.toNat_natCast, beq_self_eq_true, Bool.true_and]
    by_cases hl : may.length = m
    · have : ((may.length : Int) != (m : Int)) = false := by rw [hl]; simp
      rw [this]
      simp only [cond_false]
      rw [decide_eq_true (by omega), cond_true]
      unfold syllogistlaw_mayCode_k4
      obtain ⟨p, ep, gp⟩ := fits_eq (n := m) (by omega) s
      rw [ep]
      simp only [Option.isSome_some, Bool.or_true, cond_true, Option.getD_some, beq_self_eq_true, Bool.true_and]
      by_cases hb : bel m s
      · rw [gp.2 hb, bel_shr.2 hb]
        simp only [bne_self_eq_false, cond_false, Bool.not_true]
        obtain ⟨r, er, hr⟩ := below_loop hm hR s
        rw [er, Option.bind_some]
        obtain ⟨x, ex, hx⟩ := mays_loop hm may hl r
        rw [ex, Option.bind_some, Option.bind_some]
        simp only [bne_self_eq_false, cond_false]
        rw [decide_eq_true (by omega), cond_true]
        refine for0_eq (fun t (out : BitVec 32) => ∀ y, out.getLsbD y = true ↔ ∃ i, ∃ h : i < may.length, i < t ∧ r.getLsbD i = true ∧ may[i].getLsbD y = true) rfl (0#32) (fun y => by simp) (fun t out nx ht hI hnx => ?_) (fun out hI => ?_)
        · unfold syllogistlaw_RolesMay_b14
          obtain ⟨q, eq, gq⟩ := with_eq fuel m ps s hm hps hf
          have hqr : q = r := bits_ext fun i => by rw [gq i, hr i]
          subst hqr
          rw [eq, Option.bind_some, bit_eq _ _ (by omega), Option.bind_some]
          cases hbt : q.getLsbD t with
          | true =>
            rw [cond_true, geti_at (by omega), Option.bind_some]
            refine hnx _ fun y => ?_
            rw [BitVec.getLsbD_or, Bool.or_eq_true, hI y]
            constructor
            · rintro (⟨i, h, h1, h2⟩ | h)
              · exact ⟨i, h, by omega, h2⟩
              · exact ⟨t, by omega, by omega, hbt, h⟩
            · rintro ⟨i, h, h1, h2, h3⟩
              by_cases e : i = t
              · subst e; exact .inr h3
              · exact .inl ⟨i, h, by omega, h2, h3⟩
          | false =>
            rw [cond_false]
            refine hnx _ fun y => ?_
            rw [hI y]
            constructor
            · rintro ⟨i, h, h1, h2⟩
              exact ⟨i, h, by omega, h2⟩
            · rintro ⟨i, h, h1, h2, h3⟩
              by_cases e : i = t
              · subst e; rw [h2] at hbt; cases hbt
              · exact ⟨i, h, by omega, h2, h3⟩
        · unfold syllogistlaw_RolesMay_k10
          have : out = x := bits_ext fun y => by
            rw [hI y, hx y]
            exact ⟨fun ⟨i, h, _, h2⟩ => ⟨i, h, h2⟩, fun ⟨i, h, h2⟩ => ⟨i, h, by omega, h2⟩⟩
          rw [this]; simp
      · have hp : p = false := by
          rw [← Bool.not_eq_true]; exact fun h => hb (gp.1 h)
        have : ((s >>> m) != 0#32) = true := by
          rw [bne_iff_ne]; exact fun h => hb (bel_shr.1 h)
        rw [this, hp]
        simp
    · have : ((may.length : Int) != (m : Int)) = true := by
        rw [bne_iff_ne]; intro e; exact hl (by omega)
      rw [this]
      simp only [cond_true, Option.bind_some]
      unfold syllogistlaw_mayCode_k4
      simp
  · have hn : (chk n ps != 0) = true := by simpa using hc
    have hn2 : (chk n ps == 0) = false := by simpa using hc
    rw [hn, hn2]
    simp only [Bool.false_and, cond_false, cond_true, Option.bind_some]
    unfold syllogistlaw_mayCode_k4
    simp [hn2, hn]
end Go.Proofs.Ytnalbbmiakbpgaa.Sy
