/- What stands between tables: the plain laws; no program in sight. -/
import Derived.Test.YtfgnpanohlaijaaM3
namespace Go.Proofs.Ytfgnpanohlaijaa.Sy
set_option linter.unusedVariables false

theorem at_tab {n j : Nat} {g : Nat → Bool} (h : j < n) : at_ (tab n g) j = g j := tab_getD false h

/-- s, its bit v cleared. -/
def c0 (s v : Nat) : Nat := bif s.testBit v then s ^^^ 2 ^ v else s
theorem c0_bit : ∀ v, v < 4 → ∀ s, s < 16 → ∀ b, b < 4 → (c0 s v).testBit b = (!(b == v) && s.testBit b) := by decide
theorem c1_bit : ∀ v, v < 4 → ∀ s, s < 16 → ∀ b, b < 4 → (c0 s v ||| 2 ^ v).testBit b = ((b == v) || s.testBit b) := by decide
theorem c0_eq : ∀ v, v < 4 → ∀ t, t < 16 → ∀ s, s < 16 → decide (c0 s v = t) = (!t.testBit v && (decide (s = t) || decide (s = t ||| 2 ^ v))) := by decide
theorem c0_lt {k s v : Nat} (hs : s < 2 ^ k) (hv : v < k) : c0 s v < 2 ^ k := by
  unfold c0
  cases s.testBit v
  · exact hs
  · exact xor_lt hs hv

/-- Is it so of one that is alike, where M says so? -/
def ag (k : Nat) (M : Nat → Prop) (t s : Nat) : Prop := ∀ b, b < k → M b → t.testBit b = s.testBit b
noncomputable def ex (k : Nat) (f : Nat → Bool) (M : Nat → Prop) (s : Nat) : Bool := tru (∃ t, t < 2 ^ k ∧ f t = true ∧ ag k M t s)
theorem ex_congr {k : Nat} {f : Nat → Bool} {M M' : Nat → Prop} {s : Nat} (h : ∀ b, b < k → (M b ↔ M' b)) : ex k f M s = ex k f M' s :=
  tru_congr (exists_congr fun t => and_congr_right fun _ => and_congr_right fun _ => forall_congr' fun b => forall_congr' fun hb => by rw [h b hb])
theorem bits_eq {k t s : Nat} (ht : t < 2 ^ k) (hs : s < 2 ^ k) (h : ∀ b, b < k → t.testBit b = s.testBit b) : t = s :=
  Nat.eq_of_testBit_eq fun b => by
    by_cases hb : b < k
    · exact h b hb
    · have hle := Nat.pow_le_pow_right (n := 2) (by omega) (show k ≤ b by omega)
      rw [Nat.testBit_lt_two_pow (by omega), Nat.testBit_lt_two_pow (by omega)]
theorem ex_all {k : Nat} {f : Nat → Bool} {M : Nat → Prop} {s : Nat} (hs : s < 2 ^ k) (hM : ∀ b, b < k → M b) : ex k f M s = f s := by
  unfold ex
  symm
  refine tru_of ⟨fun h => ⟨s, hs, h, fun _ _ _ => rfl⟩, ?_⟩
  rintro ⟨t, ht, hf, ha⟩
  rwa [← bits_eq ht hs fun b hb => ha b hb (hM b hb)]
theorem ex_step {k : Nat} (hk : k ≤ 4) {f : Nat → Bool} {M M' : Nat → Prop} {s v : Nat} (hs : s < 2 ^ k) (hv : v < k) (hM : ∀ b, b < k → (M' b ↔ M b ∨ b = v)) (hMv : ¬M v) : ex k f M s = (ex k f M' (c0 s v) || ex k f M' (c0 s v ||| 2 ^ v)) := by
  have h16 := pow_small hk
  rw [Bool.eq_iff_iff, Bool.or_eq_true]
  unfold ex
  rw [tru_iff, tru_iff, tru_iff]
  constructor
  · rintro ⟨t, ht, hf, ha⟩
    cases hb : t.testBit v with
    | true =>
      refine .inr ⟨t, ht, hf, fun b hbk hm => ?_⟩
      rw [c1_bit v (by omega) s (by omega) b (by omega)]
      by_cases e : b = v
      · subst e; simp [hb]
      · rw [ha b hbk (((hM b hbk).1 hm).resolve_right e)]; simp [e]
    | false =>
      refine .inl ⟨t, ht, hf, fun b hbk hm => ?_⟩
      rw [c0_bit v (by omega) s (by omega) b (by omega)]
      by_cases e : b = v
      · subst e; simp [hb]
      · rw [ha b hbk (((hM b hbk).1 hm).resolve_right e)]; simp [e]
  · rintro (⟨t, ht, hf, ha⟩ | ⟨t, ht, hf, ha⟩)
    · refine ⟨t, ht, hf, fun b hbk hm => ?_⟩
      have e : b ≠ v := fun e => hMv (e ▸ hm)
      rw [ha b hbk ((hM b hbk).2 (.inl hm)), c0_bit v (by omega) s (by omega) b (by omega)]; simp [e]
    · refine ⟨t, ht, hf, fun b hbk hm => ?_⟩
      have e : b ≠ v := fun e => hMv (e ▸ hm)
      rw [ha b hbk ((hM b hbk).2 (.inl hm)), c1_bit v (by omega) s (by omega) b (by omega)]; simp [e]

abbrev kp (keep : BitVec 32) (i : Nat) (b : Nat) : Prop := keep.getLsbD b = true ∨ i ≤ b
noncomputable def lst (k : Nat) (f : Nat → Bool) (keep : BitVec 32) : Nat → Bool := ex k f fun b => keep.getLsbD b = true

theorem least_tab {k : Nat} {f : List Bool} (hk : k ≤ 4) (hf : f.length = 2 ^ k) (keep : BitVec 32) : between_least k f keep = some (tab (2 ^ k) (lst k (at_ f) keep)) := by
  have h16 := pow_small hk
  unfold between_least
  rw [clone_eq (by omega), Option.bind_some, decide_eq_true (by omega), cond_true]
  refine (for_rec (n := k) (fun i => tab (2 ^ k) (ex k (at_ f) (kp keep i))) rfl ?_ (fun v nx hv => ?_)).trans ?_
  · refine (tab_of false hf).trans (tab_congr fun j hj => ?_)
    rw [ex_all hj fun b _ => .inr (by omega)]
  · unfold between_least_b17
    rw [Int.toNat_natCast, bit_shr]
    cases hkv : keep.getLsbD v with
    | true =>
      rw [cond_true]
      congr 1
      refine tab_congr fun j _ => ex_congr fun b _ => ?_
      unfold kp
      by_cases e : b = v
      · subst e; simp [hkv]
      · constructor
        · rintro (h | h)
          · exact .inl h
          · exact .inr (by omega)
        · rintro (h | h)
          · exact .inl h
          · exact .inr (by omega)
    | false =>
      rw [cond_false]
      have hstep : ∀ s, s < 2 ^ k → ex k (at_ f) (kp keep (v + 1)) s = (ex k (at_ f) (kp keep v) (c0 s v) || ex k (at_ f) (kp keep v) (c0 s v ||| 2 ^ v)) := fun s hs => by
        refine ex_step hk hs hv (fun b _ => ?_) (fun h => ?_)
        · unfold kp
          constructor
          · rintro (h | h)
            · exact .inl (.inl h)
            · by_cases e : b = v
              · exact .inr e
              · exact .inl (.inr (by omega))
          · rintro ((h | h) | h)
            · exact .inl h
            · exact .inr (by omega)
            · exact .inr (by omega)
        · rcases h with h | h
          · rw [hkv] at h; cases h
          · omega
      refine (for_rec (n := 2 ^ k) (fun t => tab (2 ^ k) fun s => if c0 s v < t then ex k (at_ f) (kp keep (v + 1)) s else ex k (at_ f) (kp keep v) s) (by rw [tab_len]) ?_ (fun t nx' ht => ?_)).trans ?_
      · exact tab_congr fun j _ => by rw [if_neg (by omega)]
      · unfold between_least_b32
        rw [Int.toNat_natCast, is0_small t (by omega) v (by omega)]
        have hc := fun s (hs : s < 2 ^ k) => c0_eq v (by omega) t (by omega) s (by omega)
        cases hb : t.testBit v with
        | true =>
          rw [Bool.not_true, cond_false]
          congr 1
          refine tab_congr fun s hs => ?_
          have h1 := hc s hs
          rw [hb, Bool.not_true, Bool.false_and, decide_eq_false_iff_not] at h1
          by_cases h : c0 s v < t
          · rw [if_pos h, if_pos (by omega)]
          · rw [if_neg h, if_neg (by omega)]
        | false =>
          have hlt := or_lt ht hv
          have ht0 : c0 t v = t := by unfold c0; rw [hb, cond_false]
          have ht1 : c0 (t ||| 2 ^ v) v = t := by
            have := hc _ hlt
            rw [hb] at this
            simpa using this
          rw [Bool.not_false, cond_true, ior_bit t (by omega) v (by omega), tab_geti ht, Option.bind_some, tab_geti hlt]
          simp only [Option.isSome_some, Bool.or_true, cond_true, Option.getD_some, Int.toNat_natCast, Option.bind_some]
          rw [tab_set ht, tab_geti hlt, Option.bind_some, tab_set hlt]
          congr 1
          refine tab_congr fun s hs => ?_
          have h1 := hc s hs
          rw [hb, Bool.not_false, Bool.true_and, Bool.eq_iff_iff, decide_eq_true_eq, Bool.or_eq_true, decide_eq_true_eq, decide_eq_true_eq] at h1
          rw [ht0, ht1, if_neg (Nat.lt_irrefl t), if_neg (Nat.lt_irrefl t)]
          by_cases e1 : s = t ||| 2 ^ v
          · have := h1.2 (.inr e1)
            rw [if_pos e1, if_pos (by omega), hstep s hs, this]
          · rw [if_neg e1]
            by_cases e0 : s = t
            · have := h1.2 (.inl e0)
              rw [if_pos e0, if_pos (by omega), hstep s hs, this]
            · rw [if_neg e0]
              have : c0 s v ≠ t := fun e => (h1.1 e).elim e0 e1
              by_cases h : c0 s v < t
              · rw [if_pos h, if_pos (by omega)]
              · rw [if_neg h, if_neg (by omega)]
      · unfold between_least_k28
        congr 1
        refine tab_congr fun s hs => ?_
        rw [if_pos (c0_lt hs hv)]
  · unfold between_least_k13
    congr 1
    refine tab_congr fun s hs => ex_congr fun b hb => ?_
    exact ⟨fun h => h.resolve_right (by omega), .inl⟩

/-! ### The document's words -/
theorem keep_eq {k : Nat} (hk : k ≤ 4) {keep : BitVec 32} (hb : bel k keep) {t s : Nat} (ht : t < 2 ^ k) (hs : s < 2 ^ k) : ((BitVec.ofInt 32 (t : Int) &&& keep) == (BitVec.ofInt 32 (s : Int) &&& keep)) = true ↔ ag k (fun b => keep.getLsbD b = true) t s := by
  have h16 := pow_small hk
  rw [beq_iff_eq]
  constructor
  · intro h b hbk hm
    have := congrArg (fun z : BitVec 32 => z.getLsbD b) h
    simp only [BitVec.getLsbD_and, hm, Bool.and_true, bit_small t b (by omega), bit_small s b (by omega)] at this
    exact this
  · intro h
    refine bits_ext fun b => ?_
    rw [BitVec.getLsbD_and, BitVec.getLsbD_and, bit_small t b (by omega), bit_small s b (by omega)]
    cases hm : keep.getLsbD b with
    | false => simp
    | true => rw [h b (hb b hm) hm]

theorem some_eq {k : Nat} {f : List Bool} (hk : k ≤ 4) (hf : f.length = 2 ^ k) {keep : BitVec 32} (hb : bel k keep) {s : Nat} (hs : s < 2 ^ k) : syllogistref_Some f keep (BitVec.ofInt 32 (s : Int)) = some (lst k (at_ f) keep s, !lst k (fun t => !at_ f t) keep s) := by
  have h16 := pow_small hk
  unfold syllogistref_Some
  let E : Nat → Bool := fun t => ((BitVec.ofInt 32 (t : Int) &&& keep) == (BitVec.ofInt 32 (s : Int) &&& keep))
  refine (for_rec (n := 2 ^ k) (fun t => (anyN t (fun t => E t && at_ f t), allN t (fun t => !E t || at_ f t))) (by rw [hf]) rfl (fun t nx ht => ?_)).trans ?_
  · unfold syllogistref_Some_b13
    rw [geti_d false (by omega)]
    simp only [Option.isSome_some, Bool.or_true, cond_true, Option.getD_some]
    show (bif E t then _ else _) = nx (anyN t (fun t => E t && at_ f t) || (E t && at_ f t), allN t (fun t => !E t || at_ f t) && (!E t || at_ f t))
    cases E t
    · simp
    · simp
  · unfold syllogistref_Some_k9
    congr 2
    · rw [Bool.eq_iff_iff, anyN_iff]
      unfold lst ex
      rw [tru_iff]
      refine exists_congr fun t => ?_
      constructor
      · rintro ⟨ht, h⟩
        rw [Bool.and_eq_true] at h
        exact ⟨ht, h.2, (keep_eq hk hb ht hs).1 h.1⟩
      · rintro ⟨ht, h1, h2⟩
        exact ⟨ht, by rw [Bool.and_eq_true]; exact ⟨(keep_eq hk hb ht hs).2 h2, h1⟩⟩
    · rw [Bool.eq_iff_iff, allN_iff, Bool.not_eq_true']
      unfold lst ex
      rw [tru_false]
      constructor
      · rintro h ⟨t, ht, h1, h2⟩
        have := h t ht
        have hE : E t = true := (keep_eq hk hb ht hs).2 h2
        rw [hE] at this
        simp only [Bool.not_true, Bool.false_or] at this
        have h1' : (!at_ f t) = true := h1
        rw [this] at h1'; cases h1'
      · intro h t ht
        by_cases hE : E t = true
        · rw [hE, Bool.not_true, Bool.false_or]
          refine Classical.byContradiction fun hn => h ⟨t, ht, by simpa using hn, (keep_eq hk hb ht hs).1 hE⟩
        · have : E t = false := by simpa using hE
          rw [this]; rfl

theorem not_eq {f : List Bool} (hf : f.length ≤ 16) : between_not f = some (tab f.length fun s => !at_ f s) := by
  unfold between_not
  rw [decide_eq_true (by omega), cond_true, Int.toNat_natCast]
  refine (for_tab (n := f.length) (fun s => !at_ f s) rfl (fun j s nx hj hs => ?_)).trans rfl
  unfold between_not_b16
  rw [geti_d false hj, Option.bind_some, geti_d false (by omega), Option.bind_some, Int.toNat_natCast]

theorem follows_same (f g : List Bool) : between_follows f g = syllogistref_Follows f g := rfl

structure TC (n : Int) (f g : List Bool) (keep : BitVec 32) (k : Nat) : Prop where
  f : TOk n f k
  g : TOk n g k
  b : bel k keep

theorem tables (n : Int) (f g : List Bool) (keep : BitVec 32) : ∃ r, syllogistlaw_tablesCode n f g keep = some r ∧
    (r = 0 → ∃ k, TC n f g keep k) ∧ (truth_Check n f = some 0 → truth_Check n g = some 0 → ∃ k : Nat, k ≤ 4 ∧ n = k ∧ ((keep >>> k) != 0#32) = (r != 0) ∧ (r ≠ 0 → r = 4)) ∧
    (∀ c, truth_Check n f = some c → c ≠ 0 → r = c) ∧ (truth_Check n f = some 0 → ∀ c, truth_Check n g = some c → c ≠ 0 → r = c) := by
  unfold syllogistlaw_tablesCode
  obtain ⟨r1, e1, e2, h⟩ := tcheck n f
  obtain ⟨r2, e3, e4, h'⟩ := tcheck n g
  rw [e1, e2, e3, e4, Option.bind_some]
  by_cases hr : r1 = 0
  · subst hr
    obtain ⟨k, hk⟩ := h rfl
    obtain ⟨rfl, k4, _⟩ := id hk
    rw [show ((0 : Int) == 0) = true from rfl, cond_true, Option.bind_some]
    unfold syllogistlaw_tablesCode_k4
    rw [fits_eq (by omega)]
    simp only [Option.isSome_some, Bool.or_true, cond_true, Option.getD_some]
    by_cases hr2 : r2 = 0
    · subst hr2
      obtain ⟨k', hk'⟩ := h' rfl
      obtain ⟨hkk, _, _⟩ := id hk'
      have : k = k' := by omega
      subst this
      rw [show ((0 : Int) == 0) = true from rfl, Bool.true_and]
      cases hf : decide (keep < 1#32 <<< k) with
      | true =>
        refine ⟨0, rfl, fun _ => ⟨k, hk, hk', (bel_lt (by omega)).1 (of_decide_eq_true hf)⟩, fun _ _ => ⟨k, k4, rfl, ?_, by simp⟩, ?_, ?_⟩
        · rw [shr_ne (by omega), hf]; rfl
        · rintro c ⟨rfl⟩ hc; exact absurd rfl hc
        · rintro _ c ⟨rfl⟩ hc; exact absurd rfl hc
      | false =>
        refine ⟨4, rfl, by simp, fun _ _ => ⟨k, k4, rfl, ?_, by simp⟩, ?_, ?_⟩
        · rw [shr_ne (by omega), hf]; rfl
        · rintro c ⟨rfl⟩ hc; exact absurd rfl hc
        · rintro _ c ⟨rfl⟩ hc; exact absurd rfl hc
    · have : (r2 == 0) = false := by simpa using hr2
      rw [this]
      refine ⟨r2, rfl, fun h => absurd h hr2, fun _ h => absurd (Option.some.inj h) hr2, ?_, ?_⟩
      · rintro c ⟨rfl⟩ hc; exact absurd rfl hc
      · rintro _ c ⟨rfl⟩ hc; rfl
  · have : (r1 == 0) = false := by simpa using hr
    rw [this, cond_false]
    unfold syllogistlaw_tablesCode_k4
    rw [this]
    refine ⟨r1, rfl, fun h => absurd h hr, fun h => absurd (Option.some.inj h) hr, ?_, fun h => absurd (Option.some.inj h) hr⟩
    rintro c ⟨rfl⟩ _; rfl

theorem betweenLeasts_true (n : Int) (f : List Bool) (keep : BitVec 32) : syllogistlaw_BetweenLeasts n f keep = some true := by
  unfold syllogistlaw_BetweenLeasts between_Least
  obtain ⟨c, e1, _, _⟩ := tcheck n f
  obtain ⟨r, e, h1, h2, h3, _⟩ := tables n f f keep
  rw [e1, e]
  by_cases hc : c = 0
  · subst hc
    obtain ⟨k, k4, rfl, hs, h4⟩ := h2 e1 e1
    rw [Option.bind_some, show ((0 : Int) != 0) = false from rfl, cond_false, decide_eq_true (by omega), cond_true, Int.toNat_natCast, hs]
    by_cases hr : r = 0
    · subst hr
      obtain ⟨k', ⟨hkk, _, hf⟩, _, hb⟩ := h1 rfl
      have : k = k' := by omega
      subst this
      rw [show ((0 : Int) != 0) = false from rfl, cond_false, least_tab k4 hf]
      simp only [Option.bind_some, bne_self_eq_false, cond_false]
      have : (((tab (2 ^ k) (lst k (at_ f) keep)).length : Int) != (f.length : Int)) = false := by rw [tab_len, hf]; simp
      rw [this, cond_false]
      refine (for_out (n := f.length) (fun _ => false) none rfl (fun s nx hs' => ?_)).trans ?_
      · unfold syllogistlaw_BetweenLeasts_b13
        rw [some_eq k4 hf hb (by omega), Option.bind_some, tab_geti (by omega), Option.bind_some]
        simp
      · rw [anyN_false.2 fun _ _ => rfl]
        rfl
    · have : (r != 0) = true := by simpa using hr
      rw [this, h4 hr]
      rfl
  · have : (c != 0) = true := by simpa using hc
    rw [h3 c e1 hc]
    simp [this]

theorem betweenMosts_true (n : Int) (f : List Bool) (keep : BitVec 32) : syllogistlaw_BetweenMosts n f keep = some true := by
  unfold syllogistlaw_BetweenMosts between_Most
  obtain ⟨c, e1, _, _⟩ := tcheck n f
  obtain ⟨r, e, h1, h2, h3, _⟩ := tables n f f keep
  rw [e1, e]
  by_cases hc : c = 0
  · subst hc
    obtain ⟨k, k4, rfl, hs, h4⟩ := h2 e1 e1
    have h16 := pow_small k4
    rw [Option.bind_some, show ((0 : Int) != 0) = false from rfl, cond_false, decide_eq_true (by omega), cond_true, Int.toNat_natCast, hs]
    by_cases hr : r = 0
    · subst hr
      obtain ⟨k', ⟨hkk, _, hf⟩, _, hb⟩ := h1 rfl
      have : k = k' := by omega
      subst this
      rw [show ((0 : Int) != 0) = false from rfl, cond_false, not_eq (by omega), Option.bind_some, least_tab k4 (by rw [tab_len, hf]), Option.bind_some, not_eq (by rw [tab_len]; omega)]
      simp only [Option.bind_some, bne_self_eq_false, cond_false, tab_len, hf]
      refine (for_out (n := 2 ^ k) (fun _ => false) none rfl (fun s nx hs' => ?_)).trans ?_
      · unfold syllogistlaw_BetweenMosts_b13
        rw [some_eq k4 hf hb (by omega), Option.bind_some, tab_geti (by omega), Option.bind_some]
        simp only
        rw [at_tab hs']
        have : lst k (at_ (tab (2 ^ k) fun s => !at_ f s)) keep s = lst k (fun t => !at_ f t) keep s := by
          unfold lst ex
          refine tru_congr (exists_congr fun t => and_congr_right fun ht => ?_)
          rw [at_tab ht]
        rw [this]
        simp
      · rw [anyN_false.2 fun _ _ => rfl]
        rfl
    · have : (r != 0) = true := by simpa using hr
      rw [this, h4 hr]
      rfl
  · have : (c != 0) = true := by simpa using hc
    rw [h3 c e1 hc]
    simp [this]

theorem follows_some {f g : List Bool} (h : f.length = g.length) : ∃ r, syllogistref_Follows f g = some r := by
  unfold syllogistref_Follows
  refine ⟨_, (for_out (n := f.length) (fun j => at_ f j && !at_ g j) (some false) rfl (fun j nx hj => ?_)).trans (?_ : _ = some (bif anyN f.length (fun j => at_ f j && !at_ g j) then false else true))⟩
  · unfold syllogistref_Follows_b7
    rw [geti_d false hj, Option.bind_some, geti_d false (by omega)]
    simp only [Option.isSome_some, Bool.or_true, cond_true, Option.getD_some]
  · cases anyN f.length (fun j => at_ f j && !at_ g j) <;> rfl

theorem betweenTells_true (n : Int) (f g : List Bool) (keep : BitVec 32) : syllogistlaw_BetweenTells n f g keep = some true := by
  unfold syllogistlaw_BetweenTells between_Between
  obtain ⟨c, e1, _, _⟩ := tcheck n f
  obtain ⟨d, e2, _, _⟩ := tcheck n g
  obtain ⟨r, e, h1, h2, h3, h5⟩ := tables n f g keep
  rw [e1, e2, e]
  by_cases hc : c = 0
  · subst hc
    rw [Option.bind_some, show ((0 : Int) != 0) = false from rfl, cond_false, Option.bind_some]
    by_cases hd : d = 0
    · subst hd
      obtain ⟨k, k4, rfl, hs, h4⟩ := h2 e1 e2
      have h16 := pow_small k4
      rw [show ((0 : Int) != 0) = false from rfl, cond_false, decide_eq_true (by omega), cond_true, Int.toNat_natCast, hs]
      by_cases hr : r = 0
      · subst hr
        obtain ⟨k', ⟨hkk, _, hf⟩, ⟨_, _, hg⟩, hb⟩ := h1 rfl
        have : k = k' := by omega
        subst this
        rw [show ((0 : Int) != 0) = false from rfl, cond_false, least_tab k4 hf, Option.bind_some, follows_same]
        obtain ⟨x, hx⟩ := follows_some (f := tab (2 ^ k) (lst k (at_ f) keep)) (g := g) (by rw [tab_len, hg])
        rw [hx]
        have hw : ∀ r1, forK (σ := (List Bool)) (fun i s nx_ => syllogistlaw_BetweenTells_b23 f keep i s nx_) (fun s => syllogistlaw_BetweenTells_k16 g r1 s) ((f.length : Int) - (0 : Int)).toNat (0 : Int) [] = syllogistlaw_BetweenTells_k16 g r1 (tab (2 ^ k) (lst k (at_ f) keep)) := fun r1 =>
          for_apps (n := 2 ^ k) (fun s => [lst k (at_ f) keep s]) (by rw [hf]) (fun s l nx hs' hl => by
            unfold syllogistlaw_BetweenTells_b23
            rw [some_eq k4 hf hb hs', Option.bind_some, decide_eq_true (by rw [hl, show (apps s fun s => [lst k (at_ f) keep s]).length = s from apps_one_len]; simp; omega)]
            rfl)
        simp only [Option.bind_some, bne_self_eq_false, cond_false]
        cases x with
        | false =>
          simp only [Bool.not_false, cond_true, Option.bind_some]
          rw [hw]
          unfold syllogistlaw_BetweenTells_k16
          rw [hx]
          simp
        | true =>
          simp only [Bool.not_true, cond_false, Option.bind_some]
          rw [hw]
          unfold syllogistlaw_BetweenTells_k16
          rw [hx]
          simp [bools_eq]
      · have : (r != 0) = true := by simpa using hr
        rw [this, h4 hr]
        rfl
    · have : (d != 0) = true := by simpa using hd
      rw [h5 e1 d e2 hd]
      simp [this]
  · have : (c != 0) = true := by simpa using hc
    rw [h3 c e1 hc]
    simp [this]
end Go.Proofs.Ytfgnpanohlaijaa.Sy
