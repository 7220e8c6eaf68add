/- The first word of which all clauses are true: the plain law; no program in sight. -/
import Derived.Test.YtmggbhpieikdpaaM1
namespace Go.Proofs.Ytmggbhpieikdpaa.Sy
set_option linter.unusedVariables false

theorem len_small : ∀ x : Nat, x < 64 → x ≠ 0 → math_bits_Len32 (BitVec.ofNat 32 x) = some ((Nat.log2 x : Int) + 1) := by decide +kernel
theorem log_bit : ∀ x : Nat, x < 64 → x ≠ 0 → x.testBit (Nat.log2 x) = true := by decide +kernel
theorem log_top : ∀ x : Nat, x < 64 → ∀ j, j < 32 → Nat.log2 x < j → x.testBit j = false := by decide +kernel
theorem len_eq {x : BitVec 32} (h : x.toNat < 64) (h0 : x ≠ 0#32) : ∃ b : Nat, b < 32 ∧ math_bits_Len32 x = some ((b : Int) + 1) ∧ x.getLsbD b = true ∧ ∀ j, b < j → x.getLsbD j = false := by
  have hne : x.toNat ≠ 0 := fun e => h0 (BitVec.eq_of_toNat_eq (by simpa using e))
  have hx : BitVec.ofNat 32 x.toNat = x := by simp
  have h1 := len_small _ h hne
  rw [hx] at h1
  have h2 : x.getLsbD (Nat.log2 x.toNat) = true := log_bit _ h hne
  refine ⟨Nat.log2 x.toNat, bit32 h2, h1, h2, fun j hj => ?_⟩
  by_cases hj32 : j < 32
  · exact log_top _ h j hj32 hj
  · exact BitVec.getLsbD_of_ge _ _ (by omega)

/-- A word that fits what is known. -/
def MD (k : Nat) (l : List Clause) (y q t : BitVec 32) : Prop := bel k t ∧ tr l t = true ∧ sb y t ∧ ∀ i, q.getLsbD i = true → t.getLsbD i = false
def dsj (y q : BitVec 32) : Prop := ∀ i, y.getLsbD i = true → q.getLsbD i = false
def SR (k : Nat) (l : List Clause) (y q : BitVec 32) (r : BitVec 32 × Bool) : Prop :=
  (r.2 = true ∧ MD k l y q r.1 ∧ ∀ t, MD k l y q t → r.1.toNat ≤ t.toNat) ∨ (r = (0#32, false) ∧ ∀ t, ¬MD k l y q t)
/-- A clause that is settled, or leaves two or more open. -/
def gd (c : Clause) (y q : BitVec 32) : Prop := ((c.yes &&& y) != 0#32) = true ∨ ((c.no &&& q) != 0#32) = true ∨ 2 ≤ cntN 32 (c.yes &&& ~~~q).getLsbD + cntN 32 (c.no &&& ~~~y).getLsbD
theorem andn_bit (a b : BitVec 32) (i : Nat) : (a &&& ~~~b).getLsbD i = true ↔ a.getLsbD i = true ∧ b.getLsbD i = false := by
  rw [BitVec.getLsbD_and, Bool.and_eq_true, BitVec.getLsbD_not]
  refine and_congr_right fun h => ?_
  have := bit32 h
  cases b.getLsbD i <;> simp [this]
theorem lt_of_tb : ∀ (i : Nat) {x y : Nat}, x.testBit i = false → y.testBit i = true → (∀ j, i < j → x.testBit j = y.testBit j) → x < y
  | 0, x, y, hx, hy, h => by
    have e : x / 2 = y / 2 := Nat.eq_of_testBit_eq fun j => by rw [← Nat.testBit_succ, ← Nat.testBit_succ]; exact h (j + 1) (by omega)
    rw [Nat.testBit_zero] at hx hy
    have := of_decide_eq_false hx
    have := of_decide_eq_true hy
    omega
  | i + 1, x, y, hx, hy, h => by
    have : x / 2 < y / 2 := lt_of_tb i (by rw [← Nat.testBit_succ]; exact hx) (by rw [← Nat.testBit_succ]; exact hy) fun j hj => by rw [← Nat.testBit_succ, ← Nat.testBit_succ]; exact h (j + 1) (by omega)
    omega
theorem lt_of_top {a b : BitVec 32} {i : Nat} (ha : a.getLsbD i = false) (hb : b.getLsbD i = true) (h : ∀ j, i < j → a.getLsbD j = b.getLsbD j) : a.toNat < b.toNat :=
  lt_of_tb i ha hb h

def fre (k : Nat) (y q : BitVec 32) : Nat := cntN k fun j => !y.getLsbD j && !q.getLsbD j
theorem fre_mono {k : Nat} {y q y' q' : BitVec 32} (h : sb y y') (h' : sb q q') : fre k y' q' ≤ fre k y q := cntN_mono fun j _ hj => by
  rw [Bool.and_eq_true, Bool.not_eq_true', Bool.not_eq_true'] at *
  refine ⟨?_, ?_⟩
  · cases e : y.getLsbD j with
    | false => rfl
    | true => rw [h j e] at hj; cases hj.1
  · cases e : q.getLsbD j with
    | false => rfl
    | true => rw [h' j e] at hj; cases hj.2
theorem MD.weak {k : Nat} {l : List Clause} {y q y' q' t : BitVec 32} (h : MD k l y' q' t) (h1 : sb y y') (h2 : sb q q') : MD k l y q t := ⟨h.1, h.2.1, h1.trans h.2.2.1, fun i hi => h.2.2.2 i (h2 i hi)⟩
theorem cnt_pos {x : BitVec 32} {b : Nat} (h : x.getLsbD b = true) : cntN 32 x.getLsbD ≠ 0 := fun e => by
  rw [cnt_zero.1 e b (bit32 h)] at h; cases h

theorem search_eq {n : Int} {l : List Clause} {k : Nat} (h : SOk n l k) : ∀ (d : Nat) (y q : BitVec 32) (f : Nat), bel k y → bel k q → dsj y q → fre k y q < d → 300 + d < f → ∃ r, clause_search f k l y q = some r ∧ SR k l y q r := by
  have k6 := h.k6
  intro d
  induction d with
  | zero => intro y q f hy hq hd hfr hf; omega
  | succ d ih =>
    intro y q f hy hq hd hfr hf
    obtain ⟨f, rfl⟩ : ∃ f', f = f' + 1 := ⟨f - 1, by omega⟩
    show ∃ r, clause_search_s (clause_search f) f k l y q = some r ∧ SR k l y q r
    unfold clause_search_s
    rw [decide_eq_true (by omega), cond_true]
    refine whileK_q (Q := fun o => ∃ r, o = some r ∧ SR k l y q r) (fun (z : BitVec 32 × BitVec 32 × Bool) => bel k z.1 ∧ bel k z.2.1 ∧ dsj z.1 z.2.1 ∧ sb y z.1 ∧ sb q z.2.1 ∧ (∀ t, MD k l y q t → MD k l z.1 z.2.1 t) ∧ (z.2.2 = false → ∀ i, i < l.length → gd (cl l i) z.1 z.2.1)) (fun z => 2 * (64 - (z.1 ||| z.2.1).toNat) + (if z.2.2 = true then 1 else 0)) (fun z nx hI hnx => ?_) f _ ⟨hy, hq, hd, sb_refl y, sb_refl q, fun t ht => ht, fun h => (by cases h)⟩ (by simp; omega)
    obtain ⟨y1, q1, more⟩ := z
    obtain ⟨g1, g2, g3, g4, g5, g6, g7⟩ := hI
    simp only at g1 g2 g3 g4 g5 g6 g7 ⊢
    unfold clause_search_b19
    cases more with
    | true =>
      rw [cond_true]
      have h64 := bel64 k6 (bel_or.2 ⟨g1, g2⟩)
      refine for0_q (Q := fun o => ∃ r, o = some r ∧ SR k l y q r) (fun t (z : BitVec 32 × BitVec 32 × Bool) => bel k z.1 ∧ bel k z.2.1 ∧ dsj z.1 z.2.1 ∧ sb y1 z.1 ∧ sb q1 z.2.1 ∧ (∀ u, MD k l y1 q1 u → MD k l z.1 z.2.1 u) ∧ (z.2.2 = false → z.1 = y1 ∧ z.2.1 = q1 ∧ ∀ i, i < t → gd (cl l i) y1 q1) ∧ (z.2.2 = true → (y1 ||| q1).toNat < (z.1 ||| z.2.1).toNat)) rfl _ ⟨g1, g2, g3, sb_refl _, sb_refl _, fun u hu => hu, fun _ => ⟨rfl, rfl, fun i hi => by omega⟩, fun h => (by cases h)⟩ (fun t z nx' ht hJ hnx' => ?_) (fun z hJ => ?_)
      · obtain ⟨y2, q2, m2⟩ := z
        obtain ⟨j1, j2, j3, j4, j5, j6, j7, j8⟩ := hJ
        simp only at j1 j2 j3 j4 j5 j6 j7 j8 ⊢
        unfold clause_search_b37
        rw [geti_cl ht, Option.bind_some]
        have keepgd : gd (cl l t) y2 q2 → (m2 = false → y2 = y1 ∧ q2 = q1 ∧ ∀ i, i < t + 1 → gd (cl l i) y1 q1) := fun hgd hm => by
          obtain ⟨e1, e2, hg⟩ := j7 hm
          refine ⟨e1, e2, fun i hi => ?_⟩
          by_cases e : i = t
          · subst e; rw [← e1, ← e2]; exact hgd
          · exact hg i (by omega)
        cases hs : (((cl l t).yes &&& y2) != 0#32 || ((cl l t).no &&& q2) != 0#32) with
        | true =>
          rw [cond_true]
          rw [Bool.or_eq_true] at hs
          exact hnx' _ ⟨j1, j2, j3, j4, j5, j6, keepgd (hs.elim .inl fun h => .inr (.inl h)), j8⟩
        | false =>
          rw [cond_false, onesCount_eq, Option.bind_some, onesCount_eq, Option.bind_some]
          rw [Bool.or_eq_false_iff] at hs
          have hyy : ∀ b, (cl l t).yes.getLsbD b = true → y2.getLsbD b = false := fun b hb => by
            cases e : y2.getLsbD b with
            | false => rfl
            | true => rw [and1.2 ⟨b, hb, e⟩] at hs; cases hs.1
          have hnn : ∀ b, (cl l t).no.getLsbD b = true → q2.getLsbD b = false := fun b hb => by
            cases e : q2.getLsbD b with
            | false => rfl
            | true => rw [and1.2 ⟨b, hb, e⟩] at hs; cases hs.2
          -- a word that fits has one of the open ones
          have hopen : ∀ u, MD k l y2 q2 u → (∃ b, ((cl l t).yes &&& ~~~q2).getLsbD b = true ∧ u.getLsbD b = true) ∨ ∃ b, ((cl l t).no &&& ~~~y2).getLsbD b = true ∧ u.getLsbD b = false := fun u hu => by
            rcases tru_iff.1 hu.2.1 t ht with ⟨b, hb, hub⟩ | ⟨b, hb, hub⟩
            · refine .inl ⟨b, (andn_bit _ _ b).2 ⟨hb, ?_⟩, hub⟩
              cases e : q2.getLsbD b with
              | false => rfl
              | true => rw [hu.2.2.2 b e] at hub; cases hub
            · refine .inr ⟨b, (andn_bit _ _ b).2 ⟨hb, ?_⟩, hub⟩
              cases e : y2.getLsbD b with
              | false => rfl
              | true => rw [hu.2.2.1 b e] at hub; cases hub
          have l1 := cntN_le (n := 32) (p := ((cl l t).yes &&& ~~~q2).getLsbD)
          have l2 := cntN_le (n := 32) (p := ((cl l t).no &&& ~~~y2).getLsbD)
          rw [w64_id (by omega) (by omega)]
          by_cases c0 : cntN 32 ((cl l t).yes &&& ~~~q2).getLsbD + cntN 32 ((cl l t).no &&& ~~~y2).getLsbD = 0
          · rw [show ((((cntN 32 ((cl l t).yes &&& ~~~q2).getLsbD : Nat) : Int) + ((cntN 32 ((cl l t).no &&& ~~~y2).getLsbD : Nat) : Int)) == 0) = true by rw [beq_iff_eq]; omega, cond_true]
            refine ⟨_, rfl, .inr ⟨rfl, fun u hu => ?_⟩⟩
            rcases hopen u (j6 u (g6 u hu)) with ⟨b, hb, _⟩ | ⟨b, hb, _⟩
            · exact cnt_pos hb (by omega)
            · exact cnt_pos hb (by omega)
          · rw [show ((((cntN 32 ((cl l t).yes &&& ~~~q2).getLsbD : Nat) : Int) + ((cntN 32 ((cl l t).no &&& ~~~y2).getLsbD : Nat) : Int)) == 0) = false by rw [beq_eq_false_iff_ne]; omega, cond_false]
            by_cases c1 : cntN 32 ((cl l t).yes &&& ~~~q2).getLsbD + cntN 32 ((cl l t).no &&& ~~~y2).getLsbD = 1
            · rw [show ((((cntN 32 ((cl l t).yes &&& ~~~q2).getLsbD : Nat) : Int) + ((cntN 32 ((cl l t).no &&& ~~~y2).getLsbD : Nat) : Int)) == 1) = true by rw [beq_iff_eq]; omega, cond_true]
              -- which one is open
              have hone : (∃ b, ((cl l t).yes &&& ~~~q2).getLsbD b = true ∧ (∀ i, ((cl l t).yes &&& ~~~q2).getLsbD i = true → i = b) ∧ ∀ i, ((cl l t).no &&& ~~~y2).getLsbD i = false) ∨
                  (∃ b, ((cl l t).no &&& ~~~y2).getLsbD b = true ∧ (∀ i, ((cl l t).no &&& ~~~y2).getLsbD i = true → i = b) ∧ ∀ i, ((cl l t).yes &&& ~~~q2).getLsbD i = false) := by
                have zer : ∀ x : BitVec 32, cntN 32 x.getLsbD = 0 → ∀ i, x.getLsbD i = false := fun x hx i => by
                  cases e : x.getLsbD i with
                  | false => rfl
                  | true => exact absurd hx (cnt_pos e)
                by_cases hz : cntN 32 ((cl l t).no &&& ~~~y2).getLsbD = 0
                · obtain ⟨b, _, hb, hu⟩ := cnt_one (show cntN 32 ((cl l t).yes &&& ~~~q2).getLsbD = 1 by omega)
                  exact .inl ⟨b, hb, fun i hi => hu i (bit32 hi) hi, zer _ hz⟩
                · obtain ⟨b, _, hb, hu⟩ := cnt_one (show cntN 32 ((cl l t).no &&& ~~~y2).getLsbD = 1 by omega)
                  exact .inr ⟨b, hb, fun i hi => hu i (bit32 hi) hi, zer _ (by omega)⟩
              refine hnx' _ ⟨bel_or.2 ⟨j1, (h.yes t ht).sb (sb_andl _ _)⟩, bel_or.2 ⟨j2, (h.no t ht).sb (sb_andl _ _)⟩, fun i hi => ?_, j4.trans (sb_orl _ _), j5.trans (sb_orl _ _), fun u hu => ?_, fun hh => (by cases hh), fun _ => ?_⟩
              · simp only at hi ⊢
                rw [BitVec.getLsbD_or, Bool.or_eq_true] at hi
                rw [BitVec.getLsbD_or, Bool.or_eq_false_iff]
                rcases hi with hi | hi
                · refine ⟨j3 i hi, ?_⟩
                  cases e : ((cl l t).no &&& ~~~y2).getLsbD i with
                  | false => rfl
                  | true => rw [((andn_bit _ _ i).1 e).2] at hi; cases hi
                · refine ⟨((andn_bit _ _ i).1 hi).2, ?_⟩
                  rcases hone with ⟨b, _, _, hz⟩ | ⟨b, _, _, hz⟩
                  · exact hz i
                  · rw [hz i] at hi; cases hi
              · have hu2 := j6 u hu
                refine ⟨hu2.1, hu2.2.1, sb_or.2 ⟨hu2.2.2.1, fun i hi => ?_⟩, fun i hi => ?_⟩
                · rcases hone with ⟨b, hb, hb1, hz⟩ | ⟨b, _, _, hz⟩
                  · rcases hopen u hu2 with ⟨b', hb', hub⟩ | ⟨b', hb', _⟩
                    · rw [hb1 i hi, ← hb1 b' hb']; exact hub
                    · rw [hz b'] at hb'; cases hb'
                  · rw [hz i] at hi; cases hi
                · simp only at hi
                  rw [BitVec.getLsbD_or, Bool.or_eq_true] at hi
                  rcases hi with hi | hi
                  · exact hu2.2.2.2 i hi
                  · rcases hone with ⟨b, _, _, hz⟩ | ⟨b, hb, hb1, hz⟩
                    · rw [hz i] at hi; cases hi
                    · rcases hopen u hu2 with ⟨b', hb', _⟩ | ⟨b', hb', hub⟩
                      · rw [hz b'] at hb'; cases hb'
                      · rw [hb1 i hi, ← hb1 b' hb']; exact hub
              · simp only
                have hsub : sb (y2 ||| q2) ((y2 ||| ((cl l t).yes &&& ~~~q2)) ||| (q2 ||| ((cl l t).no &&& ~~~y2))) := sb_or.2 ⟨(sb_orl _ _).trans (sb_orl _ _), (sb_orl _ _).trans (sb_orr _ _)⟩
                have hlt : (y2 ||| q2).toNat < ((y2 ||| ((cl l t).yes &&& ~~~q2)) ||| (q2 ||| ((cl l t).no &&& ~~~y2))).toNat := hsub.lt fun e => by
                  rcases hone with ⟨b, hb, _, _⟩ | ⟨b, hb, _, _⟩
                  · have : ((y2 ||| ((cl l t).yes &&& ~~~q2)) ||| (q2 ||| ((cl l t).no &&& ~~~y2))).getLsbD b = true := by simp only [BitVec.getLsbD_or, hb]; simp
                    rw [← e, BitVec.getLsbD_or, hyy b ((andn_bit _ _ b).1 hb).1, ((andn_bit _ _ b).1 hb).2] at this; cases this
                  · have : ((y2 ||| ((cl l t).yes &&& ~~~q2)) ||| (q2 ||| ((cl l t).no &&& ~~~y2))).getLsbD b = true := by simp only [BitVec.getLsbD_or, hb]; simp
                    rw [← e, BitVec.getLsbD_or, hnn b ((andn_bit _ _ b).1 hb).1, ((andn_bit _ _ b).1 hb).2] at this; cases this
                have hle : (y1 ||| q1).toNat ≤ (y2 ||| q2).toNat := (sb_or.2 ⟨j4.trans (sb_orl _ _), j5.trans (sb_orr _ _)⟩ : sb (y1 ||| q1) (y2 ||| q2)).le
                omega
            · rw [show ((((cntN 32 ((cl l t).yes &&& ~~~q2).getLsbD : Nat) : Int) + ((cntN 32 ((cl l t).no &&& ~~~y2).getLsbD : Nat) : Int)) == 1) = false by rw [beq_eq_false_iff_ne]; omega, cond_false]
              exact hnx' _ ⟨j1, j2, j3, j4, j5, j6, keepgd (.inr (.inr (by omega))), j8⟩
      · obtain ⟨y2, q2, m2⟩ := z
        obtain ⟨j1, j2, j3, j4, j5, j6, j7, j8⟩ := hJ
        simp only at j1 j2 j3 j4 j5 j6 j7 j8 ⊢
        unfold clause_search_k33
        have h64' := bel64 k6 (bel_or.2 ⟨j1, j2⟩)
        refine hnx _ ⟨j1, j2, j3, g4.trans j4, g5.trans j5, fun t ht => j6 t (g6 t ht), fun hm i hi => ?_⟩ ?_
        · obtain ⟨e1, e2, hg⟩ := j7 hm
          simp only
          rw [e1, e2]
          exact hg i hi
        · cases m2 with
          | false =>
            obtain ⟨e1, e2, _⟩ := j7 rfl
            rw [e1, e2]; simp
          | true =>
            have := j8 rfl
            simp only [if_true]
            omega
    | false =>
      rw [cond_false]
      unfold clause_search_k10
      rw [Int.toNat_natCast]
      have hlbit : ∀ i, (((1#32 <<< k) - 1#32) &&& ~~~(y1 ||| q1)).getLsbD i = true ↔ i < k ∧ y1.getLsbD i = false ∧ q1.getLsbD i = false := fun i => by
        have hfb := full_bit (n := k) (by omega) i
        unfold full at hfb
        rw [andn_bit, hfb, BitVec.getLsbD_or, Bool.or_eq_false_iff]
      cases hz : ((((1#32 <<< k) - 1#32) &&& ~~~(y1 ||| q1)) == 0#32) with
      | true =>
        rw [cond_true]
        refine ⟨_, rfl, .inl ⟨rfl, ⟨g1, tru_iff.2 fun i hi => ?_, g4, fun i hi => ?_⟩, fun t ht => (g6 t ht).2.2.1.le⟩⟩
        · rcases g7 rfl i hi with hg | hg | hg
          · obtain ⟨b, h1, h2⟩ := and1.1 hg
            exact .inl ⟨b, h1, h2⟩
          · obtain ⟨b, h1, h2⟩ := and1.1 hg
            refine .inr ⟨b, h1, ?_⟩
            simp only
            cases e : y1.getLsbD b with
            | false => rfl
            | true => rw [g3 b e] at h2; cases h2
          · by_cases hy0 : cntN 32 ((cl l i).no &&& ~~~y1).getLsbD = 0
            · have hyp : cntN 32 ((cl l i).yes &&& ~~~q1).getLsbD ≠ 0 := by omega
              have : ∃ b, ((cl l i).yes &&& ~~~q1).getLsbD b = true := by
                apply Classical.byContradiction
                intro hno
                exact hyp (cnt_zero.2 fun j _ => by
                  cases e : ((cl l i).yes &&& ~~~q1).getLsbD j with
                  | false => rfl
                  | true => exact absurd ⟨j, e⟩ hno)
              obtain ⟨b, hb⟩ := this
              obtain ⟨b1, b2⟩ := (andn_bit _ _ b).1 hb
              refine .inl ⟨b, b1, ?_⟩
              simp only
              cases e : y1.getLsbD b with
              | true => rfl
              | false =>
                have := (hlbit b).2 ⟨h.yes i hi b b1, e, b2⟩
                rw [beq_iff_eq.1 hz] at this
                simp at this
            · have : ∃ b, ((cl l i).no &&& ~~~y1).getLsbD b = true := by
                apply Classical.byContradiction
                intro hno
                exact hy0 (cnt_zero.2 fun j _ => by
                  cases e : ((cl l i).no &&& ~~~y1).getLsbD j with
                  | false => rfl
                  | true => exact absurd ⟨j, e⟩ hno)
              obtain ⟨b, hb⟩ := this
              obtain ⟨b1, b2⟩ := (andn_bit _ _ b).1 hb
              exact .inr ⟨b, b1, b2⟩
        · simp only
          cases e : y1.getLsbD i with
          | false => rfl
          | true => have h3 := g3 i e; rw [g5 i hi] at h3; cases h3
      | false =>
        rw [cond_false]
        have hleft : (((1#32 <<< k) - 1#32) &&& ~~~(y1 ||| q1)) ≠ 0#32 := by simpa using hz
        have hlb : bel k (((1#32 <<< k) - 1#32) &&& ~~~(y1 ||| q1)) := fun j hj => ((hlbit j).1 hj).1
        obtain ⟨b, hb32, hlen, hbb, htop⟩ := len_eq (bel64 k6 hlb) hleft
        obtain ⟨hbk, hby, hbq⟩ := (hlbit b).1 hbb
        rw [hlen, Option.bind_some, show ((b : Int) + 1 - 1) = (b : Int) by omega, w64_id (by omega) (by omega), decide_eq_true (by omega), cond_true, Int.toNat_natCast]
        have hfre1 := fre_mono (k := k) g4 g5
        have hdrop1 : fre k y1 (q1 ||| (1#32 <<< b)) < fre k y1 q1 := cntN_lt (fun j _ hj => by
          rw [Bool.and_eq_true, Bool.not_eq_true', Bool.not_eq_true', BitVec.getLsbD_or, Bool.or_eq_false_iff] at hj
          rw [hj.1, hj.2.1]; rfl) hbk (by
          have : (q1 ||| (1#32 <<< b)).getLsbD b = true := by rw [BitVec.getLsbD_or, (one_shl b b).2 ⟨rfl, hb32⟩]; simp
          rw [this]; simp) (by rw [hby, hbq]; rfl)
        have hdrop2 : fre k (y1 ||| (1#32 <<< b)) q1 < fre k y1 q1 := cntN_lt (fun j _ hj => by
          rw [Bool.and_eq_true, Bool.not_eq_true', Bool.not_eq_true', BitVec.getLsbD_or, Bool.or_eq_false_iff] at hj
          rw [hj.1.1, hj.2]; rfl) hbk (by
          have : (y1 ||| (1#32 <<< b)).getLsbD b = true := by rw [BitVec.getLsbD_or, (one_shl b b).2 ⟨rfl, hb32⟩]; simp
          rw [this]; simp) (by rw [hby, hbq]; rfl)
        have hbb1 : bel k (1#32 <<< b) := fun j hj => by have := ((one_shl b j).1 hj).1; omega
        have hqb : ∀ i, (q1 ||| (1#32 <<< b)).getLsbD i = true ↔ q1.getLsbD i = true ∨ i = b := fun i => by
          rw [BitVec.getLsbD_or, Bool.or_eq_true, one_shl]
          exact or_congr_right ⟨fun h => h.1, fun h => ⟨h, by omega⟩⟩
        have hyb : ∀ i, (y1 ||| (1#32 <<< b)).getLsbD i = true ↔ y1.getLsbD i = true ∨ i = b := fun i => by
          rw [BitVec.getLsbD_or, Bool.or_eq_true, one_shl]
          exact or_congr_right ⟨fun h => h.1, fun h => ⟨h, by omega⟩⟩
        obtain ⟨r, er, hr⟩ := ih y1 (q1 ||| (1#32 <<< b)) f g1 (bel_or.2 ⟨g2, hbb1⟩) (fun i hi => by
          cases e : (q1 ||| (1#32 <<< b)).getLsbD i with
          | false => rfl
          | true =>
            rcases (hqb i).1 e with h | h
            · rw [g3 i hi] at h; cases h
            · subst h; rw [hby] at hi; cases hi) (by omega) (by omega)
        rw [er, Option.bind_some]
        have above : ∀ t, MD k l y1 q1 t → ∀ j, b < j → t.getLsbD j = y1.getLsbD j := fun t ht j hj => by
          by_cases hjk : j < k
          · cases e : y1.getLsbD j with
            | true => exact ht.2.2.1 j e
            | false =>
              cases e2 : q1.getLsbD j with
              | true => exact ht.2.2.2 j e2
              | false =>
                have := (hlbit j).2 ⟨hjk, e, e2⟩
                rw [htop j hj] at this; cases this
          · have e1 : t.getLsbD j = false := by
              cases e : t.getLsbD j with
              | false => rfl
              | true => exact absurd (ht.1 j e) hjk
            have e2 : y1.getLsbD j = false := by
              cases e : y1.getLsbD j with
              | false => rfl
              | true => exact absurd (g1 j e) hjk
            rw [e1, e2]
        rcases hr with ⟨r2, rM, rmin⟩ | ⟨rfl, rno⟩
        · rw [r2, cond_true]
          have rM1 : MD k l y1 q1 r.1 := rM.weak (sb_refl _) (sb_orl _ _)
          refine ⟨_, rfl, .inl ⟨rfl, rM1.weak g4 g5, fun t ht => ?_⟩⟩
          have ht1 := g6 t ht
          cases e : t.getLsbD b with
          | false =>
            exact rmin t ⟨ht1.1, ht1.2.1, ht1.2.2.1, fun i hi => by
              rcases (hqb i).1 hi with h | h
              · exact ht1.2.2.2 i h
              · subst h; exact e⟩
          | true =>
            have hrb : r.1.getLsbD b = false := rM.2.2.2 b ((hqb b).2 (.inr rfl))
            exact Nat.le_of_lt (lt_of_top hrb e fun j hj => (above _ rM1 j hj).trans (above t ht1 j hj).symm)
        · rw [cond_false]
          obtain ⟨s, es, hs⟩ := ih (y1 ||| (1#32 <<< b)) q1 f (bel_or.2 ⟨g1, hbb1⟩) g2 (fun i hi => by
            rcases (hyb i).1 hi with h | h
            · exact g3 i h
            · subst h; exact hbq) (by omega) (by omega)
          rw [es, Option.bind_some]
          have tob : ∀ t, MD k l y q t → MD k l (y1 ||| (1#32 <<< b)) q1 t := fun t ht => by
            have ht1 := g6 t ht
            have htb : t.getLsbD b = true := by
              cases e : t.getLsbD b with
              | true => rfl
              | false =>
                refine absurd ⟨ht1.1, ht1.2.1, ht1.2.2.1, fun i hi => ?_⟩ (rno t)
                rcases (hqb i).1 hi with h | h
                · exact ht1.2.2.2 i h
                · subst h; exact e
            exact ⟨ht1.1, ht1.2.1, fun i hi => by
              rcases (hyb i).1 hi with h | h
              · exact ht1.2.2.1 i h
              · subst h; exact htb, ht1.2.2.2⟩
          refine ⟨_, rfl, ?_⟩
          rcases hs with ⟨s2, sM, smin⟩ | ⟨rfl, sno⟩
          · exact .inl ⟨s2, sM.weak (g4.trans (sb_orl _ _)) g5, fun t ht => smin t (tob t ht)⟩
          · exact .inr ⟨rfl, fun t ht => sno t (tob t ht)⟩

def FirstQ (k : Nat) (l : List Clause) (r : BitVec 32 × Bool) : Prop :=
  (r.2 = true ∧ (bel k r.1 ∧ tr l r.1 = true) ∧ ∀ t, bel k t → tr l t = true → r.1.toNat ≤ t.toNat) ∨ (r = (0#32, false) ∧ ∀ t, bel k t → tr l t = false)
theorem first_eq {n : Int} {l : List Clause} {k : Nat} (h : SOk n l k) : ∃ r, syllogistref_First k l = some r ∧ FirstQ k l r := by
  have k6 := h.k6
  have hB : (1#32 <<< k).toNat = 2 ^ k := one_shl_toNat (by omega)
  unfold syllogistref_First
  rw [ofInt64 (by omega)]
  refine forU_q (Q := fun o => ∃ r, o = some r ∧ FirstQ k l r) (fun j _ => ∀ t : BitVec 32, t.toNat < j → tr l t = false) () (fun t ht => by omega) (fun c z nx hc hI hnx => ?_) (fun z hI => ?_)
  · unfold syllogistref_First_b6
    rw [true_eq, Option.bind_some]
    rw [hB] at hc
    cases htr : tr l c with
    | true =>
      rw [cond_true]
      refine ⟨_, rfl, .inl ⟨rfl, ⟨bel_toNat.2 hc, htr⟩, fun t ht htt => ?_⟩⟩
      apply Classical.byContradiction
      intro hn
      rw [hI t (by simp only at hn; omega)] at htt; cases htt
    | false =>
      rw [cond_false]
      refine hnx () fun t ht => ?_
      by_cases e : t.toNat = c.toNat
      · rw [BitVec.eq_of_toNat_eq e]; exact htr
      · exact hI t (by omega)
  · exact ⟨_, rfl, .inr ⟨rfl, fun t ht => hI t (by rw [hB]; exact bel_toNat.1 ht)⟩⟩

theorem clauseSolves_true (fuel : Nat) (n : Int) (l : List Clause) (hf : 1000 < fuel := by decide) : syllogistlaw_ClauseSolves fuel n l = some true := by
  unfold syllogistlaw_ClauseSolves clause_Solve
  obtain ⟨r, e1, e2, h⟩ := scheck n l
  rw [e1, e2]
  by_cases hr : r = 0
  · subst hr
    obtain ⟨k, h⟩ := h rfl
    have hn := h.n
    subst hn
    simp only [Option.bind_some, bne_self_eq_false, cond_false]
    obtain ⟨a, ea, ha⟩ := search_eq h (fre k 0#32 0#32 + 1) 0#32 0#32 fuel (fun j hj => by simp at hj) (fun j hj => by simp at hj) (fun i hi => by simp at hi) (by omega) (by have := cntN_le (n := k) (p := fun j => !(0#32).getLsbD j && !(0#32).getLsbD j); have := h.k6; unfold fre; omega)
    obtain ⟨b, eb, hb⟩ := first_eq h
    rw [ea, eb]
    simp only [Option.bind_some]
    have md : ∀ t, MD k l 0#32 0#32 t ↔ bel k t ∧ tr l t = true := fun t => ⟨fun h => ⟨h.1, h.2.1⟩, fun h => ⟨h.1, h.2, sb_zero t, fun i hi => by simp at hi⟩⟩
    rcases ha with ⟨a2, aM, amin⟩ | ⟨rfl, ano⟩
    · rcases hb with ⟨b2, bM, bmin⟩ | ⟨rfl, bno⟩
      · have h1 := amin b.1 ((md _).2 bM)
        have h2 := bmin a.1 aM.1 aM.2.1
        have : a.1 = b.1 := BitVec.eq_of_toNat_eq (by omega)
        simp [a2, b2, this]
      · have := aM.2.1
        rw [bno a.1 aM.1] at this; cases this
    · rcases hb with ⟨b2, bM, bmin⟩ | ⟨rfl, bno⟩
      · exact absurd ((md _).2 bM) (ano b.1)
      · simp
  · have hb : (r != 0) = true := by simpa using hr
    simp [hb]
end Go.Proofs.Ytmggbhpieikdpaa.Sy
