/- Clauses of two: what is reached: the plain laws; no program in sight. -/
import Derived.Test.YtmggbhpieikdpaaM1
namespace Go.Proofs.Ytmggbhpieikdpaa.Sy
set_option linter.unusedVariables false

/-! ### The closure, row by row -/
def nwk (R : Nat → Nat → Bool) : Nat → Nat → Nat → Bool
  | 0, i, j => R i j
  | t + 1, i, j => nwk R t i j || (nwk R t i t && nwk R t t j)
section
variable {R : Nat → Nat → Bool} {m : Nat} {St : Int → Int → Prop}
theorem nwk_mono {K i j : Nat} (h : R i j = true) : nwk R K i j = true := by
  induction K with
  | zero => exact h
  | succ K ih => unfold nwk; rw [ih]; rfl
theorem nwk_succ {K i j : Nat} : nwk R (K + 1) i j = true ↔ nwk R K i j = true ∨ (nwk R K i K = true ∧ nwk R K K j = true) := by
  conv => lhs; unfold nwk
  rw [Bool.or_eq_true, Bool.and_eq_true]
theorem nwk_row {K j : Nat} : nwk R (K + 1) K j = nwk R K K j := by
  rw [Bool.eq_iff_iff, nwk_succ]
  exact ⟨fun h => h.elim id fun h => h.2, .inl⟩
theorem nwk_trans : ∀ {K c i j : Nat}, c < K → nwk R K i c = true → nwk R K c j = true → nwk R K i j = true
  | K + 1, c, i, j, hm, h1, h2 => by
    rw [nwk_succ] at h1 h2 ⊢
    by_cases e : c = K
    · subst e
      exact .inr ⟨h1.elim id fun h => h.1, h2.elim id fun h => h.2⟩
    · have hm' : c < K := by omega
      rcases h1 with h1 | ⟨h1, h1'⟩ <;> rcases h2 with h2 | ⟨h2, h2'⟩
      · exact .inl (nwk_trans hm' h1 h2)
      · exact .inr ⟨nwk_trans hm' h1 h2, h2'⟩
      · exact .inr ⟨h1, nwk_trans hm' h1' h2⟩
      · exact .inr ⟨h1, h2'⟩
theorem nwk_rc (hR : ∀ i j : Nat, i < m → j < m → (R i j = true ↔ i = j ∨ St i j)) (hb : ∀ x y : Int, St x y → (0 ≤ x ∧ x < m) ∧ 0 ≤ y ∧ y < m) {i j : Nat} (hi : i < m) (hj : j < m) : nwk R m i j = true ↔ Rc St i j := by
  constructor
  · have key : ∀ K, K ≤ m → ∀ i j : Nat, i < m → j < m → nwk R K i j = true → Rc St i j := by
      intro K
      induction K with
      | zero =>
        intro _ i j hi hj h
        rcases (hR i j hi hj).1 h with rfl | h
        · exact .refl
        · exact .one h
      | succ K ih =>
        intro hK i j hi hj h
        rcases nwk_succ.1 h with h | ⟨h, h'⟩
        · exact ih (by omega) i j hi hj h
        · exact (ih (by omega) i K hi (by omega) h).trans (ih (by omega) K j (by omega) hj h')
    exact key m (Nat.le_refl _) i j hi hj
  · intro h
    have key : ∀ x, Rc St i x → ∃ j : Nat, j < m ∧ x = j ∧ nwk R m i j = true := by
      intro x hx
      induction hx with
      | refl => exact ⟨i, hi, rfl, nwk_mono ((hR i i hi hi).2 (.inl rfl))⟩
      | @tail b c _ e ih =>
        obtain ⟨b', hb', rfl, hw⟩ := ih
        obtain ⟨_, h3, h4⟩ := hb _ _ e
        refine ⟨c.toNat, by omega, by omega, nwk_trans hb' hw (nwk_mono ((hR b' c.toNat hb' (by omega)).2 (.inr ?_)))⟩
        rw [show ((c.toNat : Nat) : Int) = c by omega]; exact e
    obtain ⟨j', _, e, hw⟩ := key j h
    have : j = j' := by omega
    subst this; exact hw
end
theorem bset_or {m : Nat} (hm : m ≤ 32) {p q : Nat → Bool} : bset m p ||| bset m q = bset m fun j => p j || q j := bits_ext fun j => by
  rw [BitVec.getLsbD_or, bset_bit hm, bset_bit hm, bset_bit hm]
  cases decide (j < m) <;> simp

/-- The rows once over. -/
theorem close_eq {R : Nat → Nat → Bool} {m : Nat} (hm : m ≤ 32) : two_reach_k26 (tab m fun i => bset m (R i)) = some (tab m (fun i => bset m (nwk R m i)), 0) := by
  unfold two_reach_k26
  refine (for_rec (n := m) (fun t => tab m fun i => bset m (nwk R t i)) (by rw [tab_len]) rfl (fun t nx ht => ?_)).trans rfl
  unfold two_reach_b40
  refine (for_rec (n := m) (fun s => tab m fun i => bset m (if i < s then nwk R (t + 1) i else nwk R t i)) (by rw [tab_len]) ?_ (fun s nx' hs => ?_)).trans ?_
  · exact tab_congr fun i hi => by rw [if_neg (by omega)]
  · unfold two_reach_b55
    rw [tab_geti hs, Option.bind_some, if_neg (by omega), Int.toNat_natCast, bit_shr, bset_bit hm, decide_eq_true ht, Bool.true_and]
    cases hst : nwk R t s t with
    | true =>
      rw [cond_true, Option.bind_some, tab_geti ht, Option.bind_some, Int.toNat_natCast]
      congr 1
      rw [tab_set hs]
      refine tab_congr fun i hi => ?_
      by_cases e : i = s
      · subst e
        rw [if_pos rfl, if_pos (show i < i + 1 by omega)]
        have : (if t < i then nwk R (t + 1) t else nwk R t t) = nwk R t t := by
          split
          · funext j; exact nwk_row
          · rfl
        rw [this, bset_or hm]
        refine bset_congr fun j hj => ?_
        conv => rhs; unfold nwk
        rw [hst, Bool.true_and]
      · rw [if_neg e]
        by_cases h : i < s
        · rw [if_pos h, if_pos (by omega)]
        · rw [if_neg h, if_neg (by omega)]
    | false =>
      rw [cond_false]
      congr 1
      refine tab_congr fun i hi => ?_
      by_cases e : i = s
      · subst e
        rw [if_neg (by omega), if_pos (by omega)]
        refine bset_congr fun j hj => ?_
        conv => rhs; unfold nwk
        rw [hst, Bool.false_and, Bool.or_false]
      · by_cases h : i < s
        · rw [if_pos h, if_pos (by omega)]
        · rw [if_neg h, if_neg (by omega)]
  · unfold two_reach_k51
    congr 1
    exact tab_congr fun i hi => by rw [if_pos hi]

/-! ### Literals -/
def ng (k i : Nat) : Nat := if i < k then i + k else i - k
theorem ng_lt {k i : Nat} (h : i < 2 * k) : ng k i < 2 * k := by unfold ng; split <;> omega
theorem ng_ng {k i : Nat} (h : i < 2 * k) : ng k (ng k i) = i := by
  unfold ng
  by_cases h1 : i < k
  · rw [if_pos h1, if_neg (by omega)]; omega
  · rw [if_neg h1, if_pos (by omega)]; omega
theorem ng_mod : ∀ k : Nat, k < 7 → ∀ t : Nat, t < 12 → t < 2 * k → ((t : Int) + k).tmod (2 * k) = (ng k t : Int) := by decide +kernel
def lw (k : Nat) (c : Clause) : BitVec 32 := c.yes ||| (c.no <<< k)
theorem lw_bit {k : Nat} (hk : k ≤ 6) {c : Clause} (hn : bel k c.no) (j : Nat) : (lw k c).getLsbD j = true ↔ c.yes.getLsbD j = true ∨ (k ≤ j ∧ c.no.getLsbD (j - k) = true) := by
  unfold lw
  rw [BitVec.getLsbD_or, Bool.or_eq_true, BitVec.getLsbD_shiftLeft]
  refine or_congr_right ?_
  rw [Bool.and_eq_true, Bool.and_eq_true, Bool.not_eq_true', decide_eq_true_eq, decide_eq_false_iff_not]
  constructor
  · rintro ⟨⟨h1, h2⟩, h3⟩; exact ⟨by omega, h3⟩
  · rintro ⟨h1, h3⟩
    have := hn _ h3
    exact ⟨⟨by omega, by omega⟩, h3⟩
theorem lw_bel {k : Nat} (hk : k ≤ 6) {c : Clause} (hy : bel k c.yes) (hn : bel k c.no) : bel (2 * k) (lw k c) := fun j hj => by
  rcases (lw_bit hk hn j).1 hj with h | ⟨h, h'⟩
  · have := hy j h; omega
  · have := hn _ h'; omega
theorem cnt_bel {k n : Nat} {w : BitVec 32} (h : bel k w) (hk : k ≤ n) : cntN n w.getLsbD = cntN k w.getLsbD := by
  obtain ⟨b, rfl⟩ : ∃ b, n = k + b := ⟨n - k, by omega⟩
  rw [cntN_add, (cnt_zero (p := fun j => w.getLsbD (k + j))).2 fun j _ => by
    cases e : w.getLsbD (k + j) with
    | false => rfl
    | true => have := h _ e; omega]
  rfl
theorem lw_card {k : Nat} (hk : k ≤ 6) {c : Clause} (hy : bel k c.yes) (hn : bel k c.no) : cntN 32 (lw k c).getLsbD = cntN 32 c.yes.getLsbD + cntN 32 c.no.getLsbD := by
  rw [cnt_bel (lw_bel hk hy hn) (by omega), cnt_bel hy (show k ≤ 32 by omega), cnt_bel hn (show k ≤ 32 by omega), show 2 * k = k + k by omega, cntN_add]
  congr 1
  · refine cntN_congr fun j hj => ?_
    rw [Bool.eq_iff_iff, lw_bit hk hn]
    exact ⟨fun h => h.elim id fun h => by omega, .inl⟩
  · refine cntN_congr fun j hj => ?_
    rw [Bool.eq_iff_iff, lw_bit hk hn]
    constructor
    · rintro (h | ⟨_, h⟩)
      · have := hy _ h; omega
      · rwa [show k + j - k = j by omega] at h
    · intro h
      exact .inr ⟨by omega, by rwa [show k + j - k = j by omega]⟩
theorem cnt_le_one : ∀ {n : Nat} {p : Nat → Bool}, (∀ a b, a < n → b < n → p a = true → p b = true → a = b) → cntN n p ≤ 1
  | 0, p, h => by simp [cntN]
  | n + 1, p, h => by
    rw [cntN]
    cases hp : p n with
    | true =>
      rw [cond_true, cnt_zero.2 fun j hj => by
        cases e : p j with
        | false => rfl
        | true => have := h j n (by omega) (by omega) e hp; omega]
      exact Nat.le_refl _
    | false => exact cnt_le_one fun a b ha hb => h a b (by omega) (by omega)

/-- What one clause says: from the first to the second. -/
def Sd (k : Nat) (c : Clause) (i j : Nat) : Prop := (lw k c).getLsbD (ng k i) = true ∧ (lw k c).getLsbD j = true ∧ (j ≠ ng k i ∨ ∀ m, (lw k c).getLsbD m = true → m = j)
def StN (k : Nat) (l : List Clause) (i j : Nat) : Prop := ∃ q, q < l.length ∧ Sd k (cl l q) i j
noncomputable def E0 (k : Nat) (l : List Clause) (t : Nat) (i j : Nat) : Bool := tru (i = j ∨ ∃ q, q < t ∧ Sd k (cl l q) i j)
structure TOk (n : Int) (l : List Clause) (k : Nat) : Prop extends SOk n l k where
  card : ∀ i, i < l.length → cntN 32 (lw k (cl l i)).getLsbD = 1 ∨ cntN 32 (lw k (cl l i)).getLsbD = 2
def St (k : Nat) (l : List Clause) (x y : Int) : Prop := ∃ a b : Nat, x = a ∧ y = b ∧ a < 2 * k ∧ b < 2 * k ∧ StN k l a b
theorem St_nat {k : Nat} {l : List Clause} {i j : Nat} (hi : i < 2 * k) (hj : j < 2 * k) : St k l i j ↔ StN k l i j := by
  constructor
  · rintro ⟨a, b, e1, e2, _, _, h⟩
    have e1 : i = a := by omega
    have e2 : j = b := by omega
    subst e1; subst e2; exact h
  · exact fun h => ⟨i, j, rfl, rfl, hi, hj, h⟩
noncomputable def Rw (k : Nat) (l : List Clause) (i : Nat) : BitVec 32 := bset (2 * k) fun j => tru (Rc (St k l) i j)
theorem Rw_bit {k : Nat} (hk : k ≤ 6) {l : List Clause} {i j : Nat} : (Rw k l i).getLsbD j = true ↔ j < 2 * k ∧ Rc (St k l) i j := by
  unfold Rw
  rw [bset_bit (by omega), Bool.and_eq_true, decide_eq_true_eq, tru_iff]
theorem rows_eq {k : Nat} (hk : k ≤ 6) (l : List Clause) : two_reach_k26 (tab (2 * k) fun i => bset (2 * k) (E0 k l l.length i)) = some (tab (2 * k) (Rw k l), 0) := by
  rw [close_eq (by omega)]
  congr 2
  refine tab_congr fun i hi => bset_congr fun j hj => ?_
  rw [Bool.eq_iff_iff, tru_iff, nwk_rc (St := St k l) (fun i j hi hj => ?_) (fun x y h => ?_) hi hj]
  · unfold E0
    rw [tru_iff, St_nat hi hj]
    exact Iff.rfl
  · obtain ⟨a, b, rfl, rfl, h1, h2, _⟩ := h
    exact ⟨⟨by omega, by omega⟩, by omega, by omega⟩

/-- A clause put in. -/
theorem clause_in {n : Int} {l : List Clause} {k : Nat} (h : SOk n l k) {q : Nat} (hq : q < l.length) (nx : List (BitVec 32) → Option (List (BitVec 32) × Int)) :
    two_reach_b66 k l q (tab (2 * k) fun i => bset (2 * k) (E0 k l q i)) nx = bif !(decide (cntN 32 (lw k (cl l q)).getLsbD = 1) || decide (cntN 32 (lw k (cl l q)).getLsbD = 2)) then some ([], 3) else nx (tab (2 * k) fun i => bset (2 * k) (E0 k l (q + 1) i)) := by
  have k6 := h.k6
  have k1 := h.k1
  unfold two_reach_b66
  have hlit : two_literals k { yes := (cl l q).yes, no := (cl l q).no } = some (lw k (cl l q)) := by
    unfold two_literals
    rw [decide_eq_true (by omega), cond_true, Int.toNat_natCast]; rfl
  rw [geti_cl hq, Option.bind_some, hlit, Option.bind_some, onesCount_eq, Option.bind_some]
  generalize hw : lw k (cl l q) = w
  have hwb : bel (2 * k) w := by rw [← hw]; exact lw_bel k6 (h.yes q hq) (h.no q hq)
  by_cases hc : cntN 32 w.getLsbD = 1 ∨ cntN 32 w.getLsbD = 2
  · have e1 : (((cntN 32 w.getLsbD : Int) == 0) || decide ((cntN 32 w.getLsbD : Int) > 2)) = false := by
      rw [Bool.or_eq_false_iff, beq_eq_false_iff_ne, decide_eq_false_iff_not]; omega
    have e2 : (!(decide (cntN 32 w.getLsbD = 1) || decide (cntN 32 w.getLsbD = 2))) = false := by
      rw [Bool.not_eq_false', Bool.or_eq_true, decide_eq_true_eq, decide_eq_true_eq]
      exact hc
    rw [e1, e2, cond_false, cond_false]
    refine (for_rec (n := 2 * k) (fun s => tab (2 * k) fun i => bset (2 * k) fun j => tru ((i = j ∨ ∃ p, p < q ∧ Sd k (cl l p) i j) ∨ (ng k i < s ∧ Sd k (cl l q) i j))) (by rw [tab_len]) ?_ (fun s nx' hs => ?_)).trans ?_
    · exact tab_congr fun i hi => bset_congr fun j hj => tru_congr ⟨.inl, fun h => h.elim id fun h => by omega⟩
    · unfold two_reach_b89
      rw [Int.toNat_natCast, bit_shr1]
      have hother : ∀ i, i < 2 * k → i ≠ ng k s → ng k i ≠ s := fun i hi hne e => hne (by rw [← e, ng_ng hi])
      cases hws : w.getLsbD s with
      | false =>
        rw [Bool.not_false, cond_true]
        congr 1
        refine tab_congr fun i hi => bset_congr fun j hj => tru_congr (or_congr_right ⟨fun h => ⟨by omega, h.2⟩, fun h => ⟨?_, h.2⟩⟩)
        by_cases e : ng k i = s
        · have := h.2.1
          rw [e, hw, hws] at this; cases this
        · omega
      | true =>
        rw [Bool.not_true, cond_false]
        have key : ∀ other : BitVec 32, (∀ j, other.getLsbD j = true ↔ Sd k (cl l q) (ng k s) j) → two_reach_k93 k s (tab (2 * k) fun i => bset (2 * k) fun j => tru ((i = j ∨ ∃ p, p < q ∧ Sd k (cl l p) i j) ∨ (ng k i < s ∧ Sd k (cl l q) i j))) nx' other = nx' (tab (2 * k) fun i => bset (2 * k) fun j => tru ((i = j ∨ ∃ p, p < q ∧ Sd k (cl l p) i j) ∨ (ng k i < s + 1 ∧ Sd k (cl l q) i j))) := fun other ho => by
          unfold two_reach_k93
          have hidx : (w64 ((s : Int) + k)).tmod (w64 (2 * (k : Int))) = (ng k s : Int) := by
            rw [w64_id (by omega) (by omega), w64_id (by omega) (by omega)]
            exact ng_mod k (by omega) s (by omega) hs
          have hne : w64 (2 * (k : Int)) ≠ 0 := by rw [w64_id (by omega) (by omega)]; omega
          rw [decide_eq_true hne, cond_true, hidx, tab_geti (ng_lt hs), Option.bind_some, Int.toNat_natCast, tab_set (ng_lt hs)]
          congr 1
          refine tab_congr fun i hi => ?_
          by_cases e : i = ng k s
          · subst e
            rw [if_pos rfl]
            refine bits_ext fun j => ?_
            rw [BitVec.getLsbD_or, Bool.or_eq_true, bset_bit (by omega), bset_bit (by omega), Bool.and_eq_true, Bool.and_eq_true, tru_iff, tru_iff, ho, decide_eq_true_eq, ng_ng hs]
            constructor
            · rintro (⟨h1, h2 | h2⟩ | h1)
              · exact ⟨h1, .inl h2⟩
              · omega
              · exact ⟨hwb j (by rw [← hw]; exact h1.2.1), .inr ⟨by omega, h1⟩⟩
            · rintro ⟨h1, h2 | h2⟩
              · exact .inl ⟨h1, .inl h2⟩
              · exact .inr h2.2
          · rw [if_neg e]
            have := hother i hi e
            exact bset_congr fun j hj => tru_congr (or_congr_right ⟨fun h => ⟨by omega, h.2⟩, fun h => ⟨by omega, h.2⟩⟩)
        have hsd : ∀ j, Sd k (cl l q) (ng k s) j ↔ w.getLsbD j = true ∧ (j ≠ s ∨ ∀ m, w.getLsbD m = true → m = j) := fun j => by
          unfold Sd
          rw [hw, ng_ng hs]
          exact ⟨fun h => h.2, fun h => ⟨hws, h⟩⟩
        by_cases h1 : cntN 32 w.getLsbD = 1
        · rw [show (((cntN 32 w.getLsbD : Int)) == 1) = true by rw [beq_iff_eq]; omega, cond_true]
          refine key _ fun j => ?_
          rw [hsd]
          obtain ⟨b, _, _, hu⟩ := cnt_one h1
          refine ⟨fun hj => ⟨hj, .inr fun m hm => ?_⟩, fun h => h.1⟩
          rw [hu m (bit32 hm) hm, hu j (bit32 hj) hj]
        · rw [show (((cntN 32 w.getLsbD : Int)) == 1) = false by rw [beq_eq_false_iff_ne]; omega, cond_false]
          refine key _ fun j => ?_
          rw [hsd]
          have : (w &&& ~~~(1#32 <<< s)).getLsbD j = true ↔ w.getLsbD j = true ∧ j ≠ s := without_bit w s j
          rw [this]
          refine and_congr_right fun hj => ⟨.inl, fun h => h.elim id fun h => ?_⟩
          exact absurd (cnt_le_one (n := 32) (p := w.getLsbD) fun a b _ _ ha hb => (h a ha).trans (h b hb).symm) (by omega)
    · unfold two_reach_k85
      congr 1
      refine tab_congr fun i hi => bset_congr fun j hj => ?_
      unfold E0
      refine tru_congr ?_
      have := ng_lt hi
      constructor
      · rintro ((h | ⟨p, hp, h⟩) | ⟨_, h⟩)
        · exact .inl h
        · exact .inr ⟨p, by omega, h⟩
        · exact .inr ⟨q, by omega, h⟩
      · rintro (h | ⟨p, hp, h⟩)
        · exact .inl (.inl h)
        · by_cases e : p = q
          · subst e; exact .inr ⟨this, h⟩
          · exact .inl (.inr ⟨p, by omega, h⟩)
  · have e1 : (((cntN 32 w.getLsbD : Int) == 0) || decide ((cntN 32 w.getLsbD : Int) > 2)) = true := by
      rw [Bool.or_eq_true, beq_iff_eq, decide_eq_true_eq]; omega
    have e2 : (!(decide (cntN 32 w.getLsbD = 1) || decide (cntN 32 w.getLsbD = 2))) = true := by
      rw [Bool.not_eq_true', Bool.or_eq_false_iff, decide_eq_false_iff_not, decide_eq_false_iff_not]
      exact ⟨fun h => hc (.inl h), fun h => hc (.inr h)⟩
    rw [e1, e2, cond_true, cond_true]

theorem tcheck (n : Int) (l : List Clause) : ∃ r, syllogistref_TwoCheck n l = some r ∧ (r ≠ 0 → two_reach n l = some ([], r)) ∧ (r = 0 → ∃ k, TOk n l k ∧ two_reach n l = some (tab (2 * k) (Rw k l), 0)) := by
  unfold syllogistref_TwoCheck
  obtain ⟨r0, _, e0, h0⟩ := scheck n l
  rw [e0, Option.bind_some]
  have two0 : (r0 ≠ 0 → two_reach n l = some ([], r0)) ∧ (r0 = 0 → two_reach n l = two_reach_k3 n l) := by
    revert e0
    unfold two_reach syllogistref_SatCheck
    cases hb : (((decide (n < (1 : Int))) || (decide (n > (6 : Int)))) || (decide ((l.length : Int) > (16 : Int)))) with
    | true => intro e; rw [cond_true] at e; obtain rfl := Option.some.inj e; exact ⟨fun _ => rfl, fun h => by cases h⟩
    | false =>
      simp only [Bool.or_eq_false_iff, decide_eq_false_iff_not] at hb
      obtain ⟨⟨h1, h2⟩, h3⟩ := hb
      obtain ⟨k, rfl⟩ : ∃ k : Nat, n = k := ⟨n.toNat, by omega⟩
      have hshr : ∀ c : Clause, (((c.yes ||| c.no) >>> k) != 0#32) = (!decide (c.yes < 1#32 <<< k) || !decide (c.no < 1#32 <<< k)) := fun c => by
        rw [shr_ne (by omega), Bool.eq_iff_iff]
        simp only [Bool.not_eq_true', Bool.or_eq_true, decide_eq_false_iff_not, bel_lt (show k < 32 by omega), bel_or]
        exact Classical.not_and_iff_not_or_not
      simp only [cond_false]
      rw [for_out (n := l.length) (fun j => !decide ((cl l j).yes < 1#32 <<< k) || !decide ((cl l j).no < 1#32 <<< k)) (some 4) rfl (fun j nx hj => by
        unfold syllogistref_SatCheck_b7
        rw [geti_cl hj, Option.bind_some, fits_eq (by omega), Option.bind_some, fits_eq (by omega)]
        simp only [Option.isSome_some, Bool.or_true, cond_true, Option.getD_some])]
      rw [for_out (n := l.length) (fun j => !decide ((cl l j).yes < 1#32 <<< k) || !decide ((cl l j).no < 1#32 <<< k)) (some ([], 4)) rfl (fun j nx hj => by
        unfold two_reach_b107
        rw [geti_cl hj, Option.bind_some, decide_eq_true (by omega), cond_true, Int.toNat_natCast, hshr])]
      unfold syllogistref_SatCheck_k3
      cases anyN l.length (fun j => !decide ((cl l j).yes < 1#32 <<< k) || !decide ((cl l j).no < 1#32 <<< k)) with
      | true => intro e; obtain rfl := Option.some.inj e; exact ⟨fun _ => rfl, fun h => by cases h⟩
      | false => intro e; obtain rfl := Option.some.inj e; exact ⟨fun h => absurd rfl h, fun _ => rfl⟩
  by_cases hr : r0 = 0
  · subst hr
    obtain ⟨k, h⟩ := h0 rfl
    have hn := h.n
    subst hn
    have k6 := h.k6
    have hl := h.len
    have hcr : ∀ i, i < l.length → cntN 32 (cl l i).yes.getLsbD + cntN 32 (cl l i).no.getLsbD = cntN 32 (lw k (cl l i)).getLsbD := fun i hi => (lw_card k6 (h.yes i hi) (h.no i hi)).symm
    rw [for_rec (n := l.length) (fun t => if anyN t (fun i => !(decide (cntN 32 (lw k (cl l i)).getLsbD = 1) || decide (cntN 32 (lw k (cl l i)).getLsbD = 2))) = true then 3 else 0) (b := (l.length : Int)) rfl (s := (0 : Int)) rfl (fun t nx ht => by
      unfold syllogistref_TwoCheck_b12
      have l1 := cntN_le (n := 32) (p := (cl l t).yes.getLsbD)
      have l2 := cntN_le (n := 32) (p := (cl l t).no.getLsbD)
      have := hcr t ht
      rw [geti_cl ht, Option.bind_some, size_eq, Option.bind_some, size_eq, Option.bind_some, w64_id (by omega) (by omega), show ((cntN 32 (cl l t).yes.getLsbD : Int) + (cntN 32 (cl l t).no.getLsbD : Int)) = (cntN 32 (lw k (cl l t)).getLsbD : Int) by omega, cond_nx]
      congr 1
      rw [show anyN (t + 1) (fun i => !(decide (cntN 32 (lw k (cl l i)).getLsbD = 1) || decide (cntN 32 (lw k (cl l i)).getLsbD = 2))) = (anyN t (fun i => !(decide (cntN 32 (lw k (cl l i)).getLsbD = 1) || decide (cntN 32 (lw k (cl l i)).getLsbD = 2))) || !(decide (cntN 32 (lw k (cl l t)).getLsbD = 1) || decide (cntN 32 (lw k (cl l t)).getLsbD = 2))) from rfl]
      have hd : ((decide ((cntN 32 (lw k (cl l t)).getLsbD : Int) < 1)) || (decide ((cntN 32 (lw k (cl l t)).getLsbD : Int) > 2))) = !(decide (cntN 32 (lw k (cl l t)).getLsbD = 1) || decide (cntN 32 (lw k (cl l t)).getLsbD = 2)) := by
        rw [Bool.eq_iff_iff]
        simp only [Bool.or_eq_true, decide_eq_true_eq, Bool.not_eq_true', Bool.or_eq_false_iff, decide_eq_false_iff_not]
        omega
      rw [hd]
      cases anyN t (fun i => !(decide (cntN 32 (lw k (cl l i)).getLsbD = 1) || decide (cntN 32 (lw k (cl l i)).getLsbD = 2))) <;> cases (!(decide (cntN 32 (lw k (cl l t)).getLsbD = 1) || decide (cntN 32 (lw k (cl l t)).getLsbD = 2))) <;> rfl)]
    have hrun : two_reach k l = bif anyN l.length (fun i => !(decide (cntN 32 (lw k (cl l i)).getLsbD = 1) || decide (cntN 32 (lw k (cl l i)).getLsbD = 2))) then some ([], 3) else two_reach_k26 (tab (2 * k) fun i => bset (2 * k) (E0 k l l.length i)) := by
      rw [two0.2 rfl]
      unfold two_reach_k3
      rw [w64_id (by omega) (by omega), decide_eq_true (by omega), cond_true, show ((2 : Int) * k).toNat = 2 * k by omega, tab_rep]
      rw [for_rec (n := 2 * k) (fun s => tab (2 * k) fun i => if i < s then 1#32 <<< i else 0#32) (by rw [tab_len]) (tab_congr fun i hi => by rw [if_neg (by omega)]) (fun s nx hs => by
        unfold two_reach_b100
        rw [tab_geti hs, Option.bind_some, Int.toNat_natCast, tab_set hs]
        congr 1
        refine tab_congr fun i hi => ?_
        by_cases e : i = s
        · subst e; rw [if_pos rfl, if_pos (by omega)]
        · rw [if_neg e]
          by_cases h : i < s
          · rw [if_pos h, if_pos (by omega)]
          · rw [if_neg h, if_neg (by omega)])]
      unfold two_reach_k16
      have hstart : (tab (2 * k) fun i => if i < 2 * k then 1#32 <<< i else 0#32) = tab (2 * k) fun i => bset (2 * k) (E0 k l 0 i) := tab_congr fun i hi => by
        rw [if_pos hi]
        refine bits_ext fun j => ?_
        rw [one_shl, bset_bit (by omega), Bool.and_eq_true, decide_eq_true_eq]
        unfold E0
        rw [tru_iff]
        constructor
        · rintro ⟨rfl, _⟩; exact ⟨hi, .inl rfl⟩
        · rintro ⟨_, rfl | ⟨q, hq, _⟩⟩
          · exact ⟨rfl, by omega⟩
          · omega
      rw [hstart]
      rcases for_find (R := List (BitVec 32) × Int) (body := fun i s nx_ => two_reach_b66 k l i s nx_) (k := fun s => two_reach_k26 s) (fun q => tab (2 * k) fun i => bset (2 * k) (E0 k l q i)) (fun i => !(decide (cntN 32 (lw k (cl l i)).getLsbD = 1) || decide (cntN 32 (lw k (cl l i)).getLsbD = 2))) (fun _ => some ([], 3)) (b := (l.length : Int)) (n := l.length) rfl rfl (fun q nx hq => clause_in h hq nx) with ⟨j, hj, he, _, hr⟩ | ⟨hno, hr⟩
      · rw [anyN_iff.2 ⟨j, hj, he⟩, cond_true]; exact hr
      · rw [anyN_false.2 hno, cond_false]; exact hr
    cases ha : anyN l.length (fun i => !(decide (cntN 32 (lw k (cl l i)).getLsbD = 1) || decide (cntN 32 (lw k (cl l i)).getLsbD = 2))) with
    | true => exact ⟨3, rfl, fun _ => by rw [hrun, ha]; rfl, fun h => by cases h⟩
    | false =>
      refine ⟨0, rfl, fun h => absurd rfl h, fun _ => ⟨k, ⟨h, fun i hi => ?_⟩, by rw [hrun, ha, cond_false, rows_eq k6]⟩⟩
      have := anyN_false.1 ha i hi
      rw [Bool.not_eq_false', Bool.or_eq_true, decide_eq_true_eq, decide_eq_true_eq] at this
      exact this
  · rw [for_rec (n := l.length) (fun _ => r0) rfl rfl (fun t nx ht => by
      unfold syllogistref_TwoCheck_b12
      rw [geti_cl ht, Option.bind_some, size_eq, Option.bind_some, size_eq, Option.bind_some, show (r0 == 0) = false by simpa using hr]
      rfl)]
    exact ⟨r0, rfl, two0.1, fun h => absurd h hr⟩

/-! ### What the other one says -/
theorem len2 {α : Type} : ∀ {l : List α}, l.length = 2 → ∃ a b, l = [a, b]
  | [a, b], _ => ⟨a, b, rfl⟩
def lits (k : Nat) (c : Clause) : List Int := apps k fun v => (bif c.yes.getLsbD v then [(v : Int)] else []) ++ (bif c.no.getLsbD v then [((v + k : Nat) : Int)] else [])
theorem lits_mem {k : Nat} (hk : k ≤ 6) {c : Clause} (hy : bel k c.yes) (hn : bel k c.no) {x : Int} : x ∈ lits k c ↔ ∃ j : Nat, x = j ∧ (lw k c).getLsbD j = true := by
  unfold lits
  rw [apps_mem]
  constructor
  · rintro ⟨v, hv, h⟩
    rcases List.mem_append.1 h with h | h
    · cases e : c.yes.getLsbD v with
      | false => rw [e] at h; cases h
      | true =>
        rw [e, cond_true, List.mem_singleton] at h
        exact ⟨v, h, (lw_bit hk hn v).2 (.inl e)⟩
    · cases e : c.no.getLsbD v with
      | false => rw [e] at h; cases h
      | true =>
        rw [e, cond_true, List.mem_singleton] at h
        exact ⟨v + k, h, (lw_bit hk hn _).2 (.inr ⟨by omega, by rwa [show v + k - k = v by omega]⟩)⟩
  · rintro ⟨j, rfl, h⟩
    rcases (lw_bit hk hn j).1 h with h | ⟨h1, h⟩
    · exact ⟨j, hy j h, by rw [h]; simp⟩
    · refine ⟨j - k, hn _ h, ?_⟩
      rw [h, cond_true, show j - k + k = j by omega]; simp
theorem lits_len {k : Nat} {c : Clause} : ∀ {v : Nat}, (apps v fun v => (bif c.yes.getLsbD v then [(v : Int)] else []) ++ (bif c.no.getLsbD v then [((v + k : Nat) : Int)] else [])).length = cntN v c.yes.getLsbD + cntN v c.no.getLsbD
  | 0 => rfl
  | v + 1 => by
    rw [apps, List.length_append, List.length_append, lits_len, cntN, cntN]
    cases c.yes.getLsbD v <;> cases c.no.getLsbD v <;> simp <;> omega
theorem lits_card {k : Nat} (hk : k ≤ 6) {c : Clause} (hy : bel k c.yes) (hn : bel k c.no) : (lits k c).length = cntN 32 (lw k c).getLsbD := by
  unfold lits
  rw [lits_len, lw_card hk hy hn, cnt_bel hy (show k ≤ 32 by omega), cnt_bel hn (show k ≤ 32 by omega)]

theorem said_eq {k : Nat} (hk : k ≤ 6) {c : Clause} (hy : bel k c.yes) (hn : bel k c.no) (hc : cntN 32 (lw k c).getLsbD = 1 ∨ cntN 32 (lw k c).getLsbD = 2) {i j : Nat} (hi : i < 2 * k) (hj : j < 2 * k) : syllogistref_Said k c i j = some (tru (Sd k c i j)) := by
  have hm := fun x => lits_mem hk hy hn (x := x)
  have hlen := lits_card hk hy hn
  unfold syllogistref_Said
  rw [decide_eq_true (by omega), cond_true]
  rw [for_apps (n := k) (fun v => (bif c.yes.getLsbD v then [(v : Int)] else []) ++ (bif c.no.getLsbD v then [((v + k : Nat) : Int)] else [])) rfl (fun v s nx hv hs => by
    have hsl : s.length ≤ 64 := by
      rw [hs, lits_len]
      have h1 := cntN_le (n := v) (p := c.yes.getLsbD)
      have h2 := cntN_le (n := v) (p := c.no.getLsbD)
      omega
    unfold syllogistref_Said_b25
    rw [bit_eq _ _ (by omega), Option.bind_some]
    have hk32 : ∀ s' : List Int, s'.length ≤ 100 → syllogistref_Said_k32 k c v nx s' = nx (s' ++ (bif c.no.getLsbD v then [((v + k : Nat) : Int)] else [])) := fun s' hs' => by
      unfold syllogistref_Said_k32
      rw [bit_eq _ _ (by omega), Option.bind_some, w64_id (by omega) (by omega)]
      rw [decide_eq_true (by simp only [List.length_cons, List.length_nil]; omega), cond_true]
      cases c.no.getLsbD v with
      | true => rw [cond_true, cond_true]; congr 3
      | false => rw [cond_false, cond_false, List.append_nil]
    cases c.yes.getLsbD v with
    | true =>
      rw [cond_true, cond_true, decide_eq_true (by simp only [List.length_cons, List.length_nil]; omega), cond_true, hk32 _ (by simp; omega), List.append_assoc]
    | false => rw [cond_false, cond_false, hk32 _ (by omega), List.nil_append])]
  unfold syllogistref_Said_k12
  have hng : (bif (decide ((i : Int) ≥ (k : Int))) then w64 ((i : Int) - k) else w64 ((i : Int) + k)) = (ng k i : Int) := by
    unfold ng
    by_cases h : i < k
    · rw [decide_eq_false (by omega), cond_false, if_pos h, w64_id (by omega) (by omega)]; omega
    · rw [decide_eq_true (by omega), cond_true, if_neg h, w64_id (by omega) (by omega)]; omega
  rw [cond_nx, hng]
  show syllogistref_Said_k15 j (lits k c) (ng k i) = _
  unfold syllogistref_Said_k15
  rcases hc with hc | hc
  · obtain ⟨a, ha⟩ := List.length_eq_one_iff.1 (hlen.trans hc)
    rw [ha] at hm ⊢
    obtain ⟨b, rfl, hb⟩ := (hm a).1 (by simp)
    have hu : ∀ m, (lw k c).getLsbD m = true ↔ m = b := fun m => by
      refine ⟨fun h => ?_, fun e => e ▸ hb⟩
      have := (hm m).2 ⟨m, rfl, h⟩
      simp at this; omega
    rw [show (((([(b : Int)] : List Int).length : Int)) == 1) = true from rfl, cond_true]
    show some _ = _
    refine congrArg some (tru_of ?_)
    rw [Bool.and_eq_true, beq_iff_eq, beq_iff_eq]
    unfold Sd
    rw [hu, hu]
    constructor
    · rintro ⟨h1, h2⟩
      exact ⟨by omega, by omega, .inr fun m hm => by rw [(hu m).1 hm]; omega⟩
    · rintro ⟨h1, h2, _⟩; exact ⟨by omega, by omega⟩
  · obtain ⟨a, b, hab⟩ := len2 (hlen.trans hc)
    rw [hab] at hm ⊢
    obtain ⟨a', rfl, ha⟩ := (hm a).1 (by simp)
    obtain ⟨b', rfl, hb⟩ := (hm b).1 (by simp)
    have hu : ∀ m, (lw k c).getLsbD m = true ↔ m = a' ∨ m = b' := fun m => by
      constructor
      · intro h
        have := (hm m).2 ⟨m, rfl, h⟩
        simp at this; omega
      · rintro (rfl | rfl) <;> assumption
    have hne : a' ≠ b' := fun e => by
      subst e
      exact absurd (cnt_le_one (n := 32) (p := (lw k c).getLsbD) fun x y _ _ hx hy => by
        have := (hu x).1 hx
        have := (hu y).1 hy
        omega) (by omega)
    rw [show (((([(a' : Int), (b' : Int)] : List Int).length : Int)) == 1) = false from rfl, cond_false, show geti [(a' : Int), (b' : Int)] 0 = some (a' : Int) from rfl, show geti [(a' : Int), (b' : Int)] 1 = some (b' : Int) from rfl]
    simp only [Option.bind_some, Option.isSome_some, Bool.or_true, cond_true, Option.getD_some]
    refine congrArg some (tru_of ?_)
    rw [Bool.or_eq_true, Bool.and_eq_true, Bool.and_eq_true, beq_iff_eq, beq_iff_eq, beq_iff_eq, beq_iff_eq]
    unfold Sd
    rw [hu, hu]
    constructor
    · intro h; exact ⟨by omega, by omega, .inl (by omega)⟩
    · rintro ⟨h1, h2, h3 | h3⟩
      · omega
      · have h4 := h3 _ ha
        have h5 := h3 _ hb
        omega

theorem has_eq (l : List Int) (x : Int) : syllogistref_Has l x = some (decide (x ∈ l)) := has_shape l x
/-- What the other one finds. -/
theorem reach_eq {n : Int} {l : List Clause} {k : Nat} (h : TOk n l k) {i : Nat} (hi : i < 2 * k) {fuel : Nat} (hf : 100 < fuel) : syllogistref_Reach fuel k l i = some (Rw k l i) := by
  have k6 := h.k6
  unfold syllogistref_Reach
  have hU : ∀ x, x ∈ natsI (2 * k) ↔ 0 ≤ x ∧ x < ((2 * k : Nat) : Int) := fun x => natsI_mem
  refine whileK_q (Q := fun o => o = some (Rw k l i)) (fun (z : BitVec 32 × Int × List Int) => ∃ t : Nat, z.2.1 = t ∧ t ≤ z.2.2.length ∧ BI (St k l) i (natsI (2 * k)) t z.2.2 ∧ ∀ j, z.1.getLsbD j = true ↔ ∃ s, s < t ∧ z.2.2[s]? = some (j : Int)) (fun z => 2 * k - z.2.1.toNat) (fun z nx hI hnx => ?_) fuel _ ⟨0, rfl, by simp, BI.start ((hU _).2 ⟨by omega, by omega⟩), fun j => by simp⟩ (by simp; omega)
  obtain ⟨set, kk, lst⟩ := z
  obtain ⟨t, rfl, htl, hB, hset⟩ := hI
  simp only at htl hB hset hnx ⊢
  have hlen := hB.len
  rw [natsI_len] at hlen
  unfold syllogistref_Reach_b16
  by_cases ht : t < lst.length
  · rw [decide_eq_true (by omega), cond_true, geti_at ht, Option.bind_some, w64_id (by omega) (by omega), decide_eq_true (by omega), cond_true]
    have hy := (hU _).1 (hB.sub _ (List.getElem_mem ht))
    obtain ⟨y, hye⟩ : ∃ y : Nat, lst[t] = y := ⟨lst[t].toNat, by omega⟩
    rw [hye] at hy ⊢
    have hyl : lst[t]? = some (y : Int) := by rw [List.getElem?_eq_getElem ht, hye]
    have hy2 : y < 2 * k := by omega
    refine for0_q (Q := fun o => o = some (Rw k l i)) (n := 2 * k) (fun j (l' : List Int) => BI (St k l) i (natsI (2 * k)) t l' ∧ (∀ (s : Nat) (x : Int), lst[s]? = some x → l'[s]? = some x) ∧ ∀ j' : Nat, j' < j → StN k l y j' → (j' : Int) ∈ l') (by omega) lst ⟨hB, fun s x hx => hx, fun j' hj' => by omega⟩ (fun j l' nx' hj hJ hnx' => ?_) (fun l' hJ => ?_)
    · obtain ⟨hB', hpre, hdone⟩ := hJ
      unfold syllogistref_Reach_b33
      refine for0_q (Q := fun o => o = some (Rw k l i)) (n := l.length) (fun q (l2 : List Int) => BI (St k l) i (natsI (2 * k)) t l2 ∧ (∀ (s : Nat) (x : Int), lst[s]? = some x → l2[s]? = some x) ∧ (∀ j' : Nat, j' < j → StN k l y j' → (j' : Int) ∈ l2) ∧ ∀ q', q' < q → Sd k (cl l q') y j → (j : Int) ∈ l2) rfl l' ⟨hB', hpre, hdone, fun q' hq' => by omega⟩ (fun q l2 nx2 hq hJ2 hnx2 => ?_) (fun l2 hJ2 => ?_)
      · obtain ⟨hB2, hpre2, hdone2, hcl⟩ := hJ2
        have hlen2 := hB2.len
        rw [natsI_len] at hlen2
        unfold syllogistref_Reach_b48
        have hsaid : syllogistref_Said k { yes := (cl l q).yes, no := (cl l q).no } y j = some (tru (Sd k (cl l q) y j)) := said_eq k6 (h.yes q hq) (h.no q hq) (h.card q hq) hy2 hj
        rw [geti_cl hq, Option.bind_some, geti_of (hpre2 t y hyl), Option.bind_some, hsaid, Option.bind_some, has_eq]
        simp only [Option.isSome_some, Bool.or_true, cond_true, Option.getD_some]
        rw [decide_eq_true (show l2.length + ([(j : Int)] : List Int).length ≤ 17592186044416 by simp only [List.length_cons, List.length_nil]; omega), cond_true]
        by_cases hs : Sd k (cl l q) y j ∧ (j : Int) ∉ l2
        · rw [tru_iff.2 hs.1, decide_eq_false hs.2, Bool.not_false, Bool.and_true, cond_true]
          have htl2 : t < l2.length := (List.getElem?_eq_some_iff.1 (hpre2 t y hyl)).1
          have hyt : (y : Int) ∈ l2 := get_mem (hpre2 t y hyl)
          refine hnx2 _ ⟨hB2.add hyt ((St_nat hy2 hj).2 ⟨q, hq, hs.1⟩) hs.2 ((hU _).2 ⟨by omega, by omega⟩) (by omega), fun s x hx => app_get (hpre2 s x hx), fun j' hj' hst => List.mem_append_left _ (hdone2 j' hj' hst), fun q' _ _ => by simp⟩
        · have : (tru (Sd k (cl l q) y j) && !decide ((j : Int) ∈ l2)) = false := by
            rw [Bool.and_eq_false_iff]
            by_cases h1 : Sd k (cl l q) y j
            · right
              by_cases h2 : (j : Int) ∈ l2
              · simp [h2]
              · exact absurd ⟨h1, h2⟩ hs
            · exact .inl (tru_false.2 h1)
          rw [this, cond_false]
          refine hnx2 _ ⟨hB2, hpre2, hdone2, fun q' hq' hst => ?_⟩
          by_cases e : q' = q
          · subst e
            by_cases h2 : (j : Int) ∈ l2
            · exact h2
            · exact absurd ⟨hst, h2⟩ hs
          · exact hcl q' (by omega) hst
      · obtain ⟨hB2, hpre2, hdone2, hcl⟩ := hJ2
        unfold syllogistref_Reach_k44
        refine hnx' _ ⟨hB2, hpre2, fun j' hj' hst => ?_⟩
        by_cases e : j' = j
        · subst e
          obtain ⟨q, hq, hst⟩ := hst
          exact hcl q hq hst
        · exact hdone2 j' (by omega) hst
    · obtain ⟨hB', hpre, hdone⟩ := hJ
      unfold syllogistref_Reach_k29
      have hyl' := hpre t y hyl
      have htl' : t < l'.length := (List.getElem?_eq_some_iff.1 hyl').1
      have hlen' := hB'.len
      rw [natsI_len] at hlen'
      rw [w64_succ (by omega), ofInt64 (by omega)]
      refine hnx _ ⟨t + 1, rfl, htl', hB'.next htl' (fun c hc => ?_), fun j => ?_⟩ (by simp only; omega)
      · obtain ⟨a, b, e1, rfl, _, hb, hst⟩ := hc
        rw [(List.getElem?_eq_some_iff.1 hyl').2] at e1
        have : y = a := by omega
        subst this
        exact hdone b hb hst
      · simp only
        rw [BitVec.getLsbD_or, Bool.or_eq_true, hset, one_shl]
        constructor
        · rintro (⟨s, hs, e⟩ | ⟨rfl, _⟩)
          · exact ⟨s, by omega, hpre s _ e⟩
          · exact ⟨t, by omega, hyl'⟩
        · rintro ⟨s, hs, e⟩
          by_cases est : s = t
          · subst est
            rw [hyl'] at e
            have : y = j := by have := Option.some.inj e; omega
            exact .inr ⟨this.symm, by omega⟩
          · left
            refine ⟨s, by omega, ?_⟩
            have hsl : s < lst.length := by omega
            have h1 : lst[s]? = some lst[s] := List.getElem?_eq_getElem hsl
            rw [hpre s _ h1] at e
            rw [h1, e]
  · rw [decide_eq_false (by omega), cond_false]
    unfold syllogistref_Reach_k14
    congr 1
    refine bits_ext fun j => ?_
    rw [hset, Rw_bit k6, ← hB.fin (by omega)]
    constructor
    · rintro ⟨s, hs, e⟩
      have hm := get_mem e
      have := (hU _).1 (hB.sub _ hm)
      exact ⟨by omega, hm⟩
    · rintro ⟨_, hm⟩
      obtain ⟨s, hs, e⟩ := List.getElem_of_mem hm
      exact ⟨s, by omega, by rw [List.getElem?_eq_getElem hs, e]⟩

theorem twoReaches_true (fuel : Nat) (n : Int) (l : List Clause) (hf : 100 < fuel := by decide) : syllogistlaw_TwoReaches fuel n l = some true := by
  unfold syllogistlaw_TwoReaches two_Reach
  obtain ⟨r, er, h1, h0⟩ := tcheck n l
  rw [er]
  by_cases hr : r = 0
  · subst hr
    obtain ⟨k, h, e⟩ := h0 rfl
    have hn := h.n
    subst hn
    have k6 := h.k6
    rw [e]
    simp only [Option.bind_some, bne_self_eq_false, cond_false, tab_len]
    rw [w64_id (by omega) (by omega), show (((2 * k : Nat) : Int) != (k : Int) + k) = false by rw [bne_eq_false_iff_eq]; omega, cond_false, decide_eq_true (by omega), cond_true]
    rw [for_out (n := 2 * k) (fun _ => false) (some false) (by omega) (fun i nx hi => by
      unfold syllogistlaw_TwoReaches_b13
      rw [tab_geti hi, Option.bind_some, reach_eq h hi hf, Option.bind_some, bne_self_eq_false])]
    rw [anyN_false.2 fun _ _ => rfl, cond_false]
    rfl
  · rw [h1 hr]
    have hb : (r != 0) = true := by simpa using hr
    simp [hb]
end Go.Proofs.Ytmggbhpieikdpaa.Sy
