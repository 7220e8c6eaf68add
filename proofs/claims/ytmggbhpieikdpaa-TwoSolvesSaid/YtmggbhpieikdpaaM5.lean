/- Clauses of two: those stuck, and the first word: the plain laws; no program in sight. -/
import Derived.Test.YtmggbhpieikdpaaM2
import Derived.Test.YtmggbhpieikdpaaM4
namespace Go.Proofs.Ytmggbhpieikdpaa.Sy
set_option linter.unusedVariables false

theorem one_bit (a b : BitVec 32) (x y : Nat) : (((a >>> x) &&& (b >>> y)) &&& 1#32) = bif a.getLsbD x && b.getLsbD y then 1#32 else 0#32 := by
  refine bits_ext fun i => ?_
  have h1 : (1#32).getLsbD i = true ↔ i = 0 := by
    have := one_shl 0 i
    rw [show (1#32 <<< 0) = 1#32 from rfl] at this
    rw [this]; exact ⟨fun h => h.1, fun h => ⟨h, by omega⟩⟩
  rw [BitVec.getLsbD_and, BitVec.getLsbD_and, Bool.and_eq_true, h1, BitVec.getLsbD_ushiftRight, BitVec.getLsbD_ushiftRight]
  constructor
  · rintro ⟨h, rfl⟩
    rw [Nat.add_zero, Nat.add_zero] at h
    rw [h, cond_true]; exact h1.2 rfl
  · intro h
    cases e : (a.getLsbD x && b.getLsbD y) with
    | true =>
      rw [e, cond_true] at h
      obtain rfl := h1.1 h
      exact ⟨e, rfl⟩
    | false => rw [e, cond_false] at h; simp at h
noncomputable def sk (k : Nat) (l : List Clause) (v : Nat) : Bool := (Rw k l v).getLsbD (v + k) && (Rw k l (v + k)).getLsbD v
theorem stuck_eq {k : Nat} (k6 : k ≤ 6) (l : List Clause) : two_stuck k (tab (2 * k) (Rw k l)) = some (bset k (sk k l)) := by
  unfold two_stuck
  rw [decide_eq_true (by omega), cond_true]
  refine (for_bset (n := k) (sk k l) rfl (fun v s nx hv => ?_)).trans rfl
  unfold two_stuck_b10
  have hw : w64 ((v : Int) + k) = ((v + k : Nat) : Int) := by rw [w64_id (by omega) (by omega)]; omega
  rw [tab_geti (by omega), Option.bind_some, hw, decide_eq_true (by omega), cond_true, tab_geti (by omega), Option.bind_some, Int.toNat_natCast, Int.toNat_natCast, one_bit]
  show _ = nx (bif sk k l v then _ else _)
  unfold sk
  cases ((Rw k l v).getLsbD (v + k) && (Rw k l (v + k)).getLsbD v) with
  | true => rfl
  | false =>
    rw [cond_false, cond_false]
    congr 1
    simp
theorem stuckL_eq {n : Int} {l : List Clause} : ∃ r, syllogistref_TwoCheck n l = some r ∧ (r ≠ 0 → two_Stuck n l = some (0#32, r)) ∧ (r = 0 → ∃ k, TOk n l k ∧ two_Stuck n l = some (bset k (sk k l), 0)) := by
  obtain ⟨r, er, h1, h0⟩ := tcheck n l
  refine ⟨r, er, fun hr => ?_, fun hr => ?_⟩
  · unfold two_Stuck
    have hb : (r != 0) = true := by simpa using hr
    rw [h1 hr, Option.bind_some, hb, cond_true]
  · obtain ⟨k, h, e⟩ := h0 hr
    refine ⟨k, h, ?_⟩
    unfold two_Stuck
    rw [e]
    simp only [Option.bind_some, bne_self_eq_false, cond_false]
    have hn := h.n
    subst hn
    rw [stuck_eq h.k6]; rfl
theorem twoStucks_true (fuel : Nat) (n : Int) (l : List Clause) (hf : 100 < fuel := by decide) : syllogistlaw_TwoStucks fuel n l = some true := by
  unfold syllogistlaw_TwoStucks
  obtain ⟨r, er, h1, h0⟩ := stuckL_eq (n := n) (l := l)
  rw [er]
  by_cases hr : r = 0
  · obtain ⟨k, h, e⟩ := h0 hr
    subst hr
    have hn := h.n
    subst hn
    have k6 := h.k6
    rw [e]
    simp only [Option.bind_some, bne_self_eq_false, cond_false]
    rw [decide_eq_true (by omega), cond_true]
    rw [for_bset_add (n := k) (sk k l) rfl (by omega) (fun v s nx hv => by
      unfold syllogistlaw_TwoStucks_b14
      have hw : w64 ((v : Int) + k) = ((v + k : Nat) : Int) := by rw [w64_id (by omega) (by omega)]; omega
      rw [reach_eq h (by omega) hf, Option.bind_some, hw, bit_eq _ _ (by omega), Option.bind_some, reach_eq h (by omega) hf]
      simp only [Option.getD_some, Option.isSome_some, Bool.or_true, cond_true]
      rw [bit_eq _ _ (by omega)]
      simp only [Option.getD_some, Option.isSome_some, Bool.or_true, cond_true]
      rw [ofInt64 (by omega), cond_nx]
      rfl)]
    unfold syllogistlaw_TwoStucks_k10
    simp
  · rw [h1 hr]
    have hb : (r != 0) = true := by simpa using hr
    simp [hb]

/-! ### The first word -/
def Lt (k : Nat) (t : BitVec 32) (a : Nat) : Prop := if a < k then t.getLsbD a = true else t.getLsbD (a - k) = false
theorem Lt_lo {k : Nat} {t : BitVec 32} {a : Nat} (h : a < k) : Lt k t a ↔ t.getLsbD a = true := by unfold Lt; rw [if_pos h]
theorem Lt_hi {k : Nat} {t : BitVec 32} {a : Nat} : Lt k t (a + k) ↔ t.getLsbD a = false := by unfold Lt; rw [if_neg (by omega), show a + k - k = a by omega]
theorem Lt_ng {k : Nat} {t : BitVec 32} {a : Nat} (h : a < 2 * k) : Lt k t (ng k a) ↔ ¬Lt k t a := by
  unfold ng
  by_cases h1 : a < k
  · rw [if_pos h1, Lt_hi, Lt_lo h1]; simp
  · rw [if_neg h1, Lt_lo (by omega)]
    unfold Lt
    rw [if_neg h1]; simp
theorem cs_lit {k : Nat} (hk : k ≤ 6) {c : Clause} (hy : bel k c.yes) (hn : bel k c.no) {t : BitVec 32} : CS c t ↔ ∃ m, (lw k c).getLsbD m = true ∧ Lt k t m := by
  unfold CS
  constructor
  · rintro (⟨b, h1, h2⟩ | ⟨b, h1, h2⟩)
    · exact ⟨b, (lw_bit hk hn b).2 (.inl h1), (Lt_lo (hy b h1)).2 h2⟩
    · exact ⟨b + k, (lw_bit hk hn _).2 (.inr ⟨by omega, by rwa [show b + k - k = b by omega]⟩), Lt_hi.2 h2⟩
  · rintro ⟨m, h1, h2⟩
    rcases (lw_bit hk hn m).1 h1 with h | ⟨h, h'⟩
    · exact .inl ⟨m, h, (Lt_lo (hy m h)).1 h2⟩
    · refine .inr ⟨m - k, h', ?_⟩
      unfold Lt at h2
      rwa [if_neg (by omega)] at h2
theorem cnt_three {n : Nat} {p : Nat → Bool} {a b c : Nat} (ha : a < n) (hb : b < n) (hc : c < n) (pa : p a = true) (pb : p b = true) (pc : p c = true) (h1 : a ≠ b) (h2 : a ≠ c) (h3 : b ≠ c) : 3 ≤ cntN n p := by
  have e1 : cntN n (fun j => p j && !decide (j = c)) < cntN n p := cntN_lt (fun j _ hj => by rw [Bool.and_eq_true] at hj; exact hj.1) hc (by simp) pc
  have e2 : cntN n (fun j => (p j && !decide (j = c)) && !decide (j = b)) < cntN n (fun j => p j && !decide (j = c)) := cntN_lt (fun j _ hj => by rw [Bool.and_eq_true] at hj; exact hj.1) hb (by simp) (by simp [pb, h3])
  have e3 : cntN n (fun j => (p j && !decide (j = c)) && !decide (j = b)) ≠ 0 := fun e => by
    have := cnt_zero.1 e a ha
    simp [pa, h1, h2] at this
  omega

theorem lit_step {n : Int} {l : List Clause} {k : Nat} (h : TOk n l k) {t : BitVec 32} (ht : tr l t = true) {a b : Nat} (ha : a < 2 * k) (hs : StN k l a b) (hl : Lt k t a) : Lt k t b := by
  have k6 := h.k6
  obtain ⟨q, hq, s1, s2, s3⟩ := hs
  obtain ⟨m, hm, hlm⟩ := (cs_lit k6 (h.yes q hq) (h.no q hq)).1 (tru_iff.1 ht q hq)
  have hna : ¬Lt k t (ng k a) := fun hh => ((Lt_ng ha).1 hh) hl
  have hmne : m ≠ ng k a := fun e => hna (e ▸ hlm)
  rcases s3 with s3 | s3
  · by_cases e : m = b
    · exact e ▸ hlm
    · have := cnt_three (n := 32) (p := (lw k (cl l q)).getLsbD) (bit32 s1) (bit32 s2) (bit32 hm) s1 s2 hm (fun e => s3 e.symm) (fun e => hmne e.symm) (fun e' => e e'.symm)
      have := h.card q hq
      omega
  · exact s3 m hm ▸ hlm
theorem lit_rc {n : Int} {l : List Clause} {k : Nat} (h : TOk n l k) {t : BitVec 32} (ht : tr l t = true) {a b : Nat} (ha : a < 2 * k) (hr : Rc (St k l) a b) (hl : Lt k t a) : Lt k t b := by
  have key := hr.inv (fun (x : Int) => ∃ b : Nat, x = b ∧ b < 2 * k ∧ Lt k t b) ⟨a, rfl, ha, hl⟩ (fun x y ⟨b, e, hb, hlb⟩ hst => by
    obtain ⟨a', b', e1, e2, h1, h2, hs⟩ := hst
    have : b = a' := by omega
    subst this
    exact ⟨b', e2, h2, lit_step h ht h1 hs hlb⟩)
  obtain ⟨b', e, _, hlb⟩ := key
  have : b = b' := by omega
  subst this; exact hlb
theorem Sd_ng {k : Nat} {c : Clause} {i j : Nat} (hi : i < 2 * k) (hj : j < 2 * k) (h : Sd k c i j) : Sd k c (ng k j) (ng k i) := by
  obtain ⟨h1, h2, h3⟩ := h
  refine ⟨by rw [ng_ng hj]; exact h2, h1, ?_⟩
  rw [ng_ng hj]
  rcases h3 with h3 | h3
  · exact .inl fun e => h3 e.symm
  · have := h3 _ h1
    rw [this]; exact .inr h3
theorem rc_ng {k : Nat} {l : List Clause} {a b : Nat} (ha : a < 2 * k) (hr : Rc (St k l) a b) : Rc (St k l) (ng k b) (ng k a) := by
  have key : ∀ x, Rc (St k l) a x → ∃ b : Nat, x = b ∧ b < 2 * k ∧ Rc (St k l) (ng k b) (ng k a) := fun x hx => by
    induction hx with
    | refl => exact ⟨a, rfl, ha, .refl⟩
    | tail _ e ih =>
      obtain ⟨b, eb, hb, hr⟩ := ih
      obtain ⟨a', b', e1, e2, h1, h2, q, hq, hs⟩ := e
      have : b = a' := by omega
      subst this
      refine ⟨b', e2, h2, (Rc.one ⟨ng k b', ng k b, rfl, rfl, ng_lt h2, ng_lt h1, q, hq, Sd_ng h1 h2 hs⟩).trans hr⟩
  obtain ⟨b', e, _, hr⟩ := key b hr
  have : b = b' := by omega
  subst this; exact hr

def Cl2 (k : Nat) (l : List Clause) (so : BitVec 32) : Prop := ∀ a b : Nat, a < 2 * k → b < 2 * k → so.getLsbD a = true → Rc (St k l) a b → so.getLsbD b = true
def Cons (k : Nat) (so : BitVec 32) : Prop := ∀ j, j < k → ¬(so.getLsbD j = true ∧ so.getLsbD (j + k) = true)
theorem cons_eq {k : Nat} (k6 : k ≤ 6) (x : BitVec 32) : (((x &&& ((1#32 <<< k) - 1#32)) &&& (x >>> k)) == 0#32) = tru (Cons k x) := by
  refine tru_of ?_
  rw [and0]
  have hfb := full_bit (n := k) (by omega)
  unfold full at hfb
  constructor
  · intro h j hj hh
    have := h j (by rw [BitVec.getLsbD_and, Bool.and_eq_true]; exact ⟨hh.1, (hfb j).2 hj⟩)
    rw [BitVec.getLsbD_ushiftRight, Nat.add_comm, hh.2] at this; cases this
  · intro h j hj
    rw [BitVec.getLsbD_and, Bool.and_eq_true, hfb] at hj
    rw [BitVec.getLsbD_ushiftRight, Nat.add_comm]
    cases e : x.getLsbD (j + k) with
    | false => rfl
    | true => exact absurd ⟨hj.1, e⟩ (h j hj.2)
theorem cl_or {k : Nat} (k6 : k ≤ 6) {l : List Clause} {so : BitVec 32} (h : Cl2 k l so) (i : Nat) : Cl2 k l (so ||| Rw k l i) := fun a b ha hb hab hr => by
  rw [BitVec.getLsbD_or, Bool.or_eq_true] at hab ⊢
  rcases hab with hab | hab
  · exact .inl (h a b ha hb hab hr)
  · exact .inr ((Rw_bit k6).2 ⟨hb, ((Rw_bit k6).1 hab).2.trans hr⟩)
/-- Why a row cannot be put in. -/
theorem why_not {k : Nat} (k6 : k ≤ 6) {l : List Clause} {so : BitVec 32} (hc : Cl2 k l so) (ho : Cons k so) {i : Nat} (hi : i < 2 * k) (hn : ¬Cons k (so ||| Rw k l i)) : so.getLsbD i = false ∧ (so.getLsbD (ng k i) = true ∨ Rc (St k l) i (ng k i)) := by
  have hb : ∀ j, (so ||| Rw k l i).getLsbD j = true ↔ so.getLsbD j = true ∨ (j < 2 * k ∧ Rc (St k l) i j) := fun j => by rw [BitVec.getLsbD_or, Bool.or_eq_true, Rw_bit k6]
  constructor
  · cases e : so.getLsbD i with
    | false => rfl
    | true =>
      refine absurd (fun j hj hh => ho j hj ⟨?_, ?_⟩) hn
      · exact ((hb j).1 hh.1).elim id fun h => hc i j hi h.1 e h.2
      · exact ((hb _).1 hh.2).elim id fun h => hc i _ hi h.1 e h.2
  · have : ∃ j, j < k ∧ (so ||| Rw k l i).getLsbD j = true ∧ (so ||| Rw k l i).getLsbD (j + k) = true := by
      apply Classical.byContradiction
      intro hno
      exact hn fun j hj hh => hno ⟨j, hj, hh⟩
    obtain ⟨j, hj, h1, h2⟩ := this
    have g1 : ng k (j + k) = j := by unfold ng; rw [if_neg (by omega)]; omega
    have g2 : ng k j = j + k := by unfold ng; rw [if_pos hj]
    rcases (hb _).1 h1 with h1 | ⟨_, h1⟩ <;> rcases (hb _).1 h2 with h2 | ⟨_, h2⟩
    · exact absurd ⟨h1, h2⟩ (ho j hj)
    · have := rc_ng hi h2
      rw [g1] at this
      exact .inl (hc j _ (by omega) (ng_lt hi) h1 this)
    · have := rc_ng hi h1
      rw [g2] at this
      exact .inl (hc _ _ (by omega) (ng_lt hi) h2 this)
    · have := rc_ng hi h2
      rw [g1] at this
      exact .inr (h1.trans this)

structure SI (k : Nat) (l : List Clause) (w : Nat) (so : BitVec 32) : Prop where
  b : bel (2 * k) so
  clo : Cl2 k l so
  co : Cons k so
  dec : ∀ j, w ≤ j → j < k → so.getLsbD j = true ∨ so.getLsbD (j + k) = true
  lead : ∀ t, bel k t → tr l t = true → (∃ b, w ≤ b ∧ b < k ∧ so.getLsbD b = false ∧ t.getLsbD b = true ∧ ∀ j, b < j → j < k → so.getLsbD j = t.getLsbD j) ∨ ∀ a, a < 2 * k → so.getLsbD a = true → Lt k t a
theorem SI.keeps {k : Nat} {l : List Clause} {w : Nat} {so so' : BitVec 32} (h : SI k l w so) (hs : sb so so') (ho : Cons k so') {j : Nat} (hw : w ≤ j) (hj : j < k) : so'.getLsbD j = so.getLsbD j := by
  cases e : so.getLsbD j with
  | true => exact hs j e
  | false =>
    rcases h.dec j hw hj with h' | h'
    · rw [e] at h'; cases h'
    · cases e2 : so'.getLsbD j with
      | false => rfl
      | true => exact absurd ⟨e2, hs _ h'⟩ (ho j hj)
theorem SI.agree {k : Nat} {l : List Clause} {w : Nat} {so t : BitVec 32} (h : SI k l w so) (hl : ∀ a, a < 2 * k → so.getLsbD a = true → Lt k t a) {j : Nat} (hw : w ≤ j) (hj : j < k) : so.getLsbD j = t.getLsbD j := by
  cases e : so.getLsbD j with
  | true => exact ((Lt_lo hj).1 (hl j (by omega) e)).symm
  | false =>
    rcases h.dec j hw hj with h' | h'
    · rw [e] at h'; cases h'
    · exact (Lt_hi.1 (hl _ (by omega) h')).symm
theorem SI.old {k : Nat} {l : List Clause} {u : Nat} {so so' t : BitVec 32} (h : SI k l (u + 1) so) (hs : sb so so') (ho : Cons k so')
    (hc : ∃ b, u + 1 ≤ b ∧ b < k ∧ so.getLsbD b = false ∧ t.getLsbD b = true ∧ ∀ j, b < j → j < k → so.getLsbD j = t.getLsbD j) :
    ∃ b, u ≤ b ∧ b < k ∧ so'.getLsbD b = false ∧ t.getLsbD b = true ∧ ∀ j, b < j → j < k → so'.getLsbD j = t.getLsbD j := by
  obtain ⟨b, h1, h2, h3, h4, h5⟩ := hc
  exact ⟨b, by omega, h2, (h.keeps hs ho h1 h2).trans h3, h4, fun j hj hjk => (h.keeps hs ho (by omega) hjk).trans (h5 j hj hjk)⟩

theorem SI.not {n : Int} {l : List Clause} {k : Nat} (hT : TOk n l k) {u : Nat} (hu : u < k) {so : BitVec 32} (h : SI k l (u + 1) so) (hco : Cons k (so ||| Rw k l (u + k))) : SI k l u (so ||| Rw k l (u + k)) := by
  have k6 := hT.k6
  have hself : (so ||| Rw k l (u + k)).getLsbD (u + k) = true := by
    rw [BitVec.getLsbD_or, (Rw_bit k6).2 ⟨by omega, .refl⟩, Bool.or_true]
  refine ⟨bel_or.2 ⟨h.b, fun j hj => ((Rw_bit k6).1 hj).1⟩, cl_or k6 h.clo _, hco, fun j h1 h2 => ?_, fun t hb ht => ?_⟩
  · by_cases e : j = u
    · subst e; exact .inr hself
    · exact (h.dec j (by omega) h2).imp (sb_orl _ _ j) (sb_orl _ _ _)
  · rcases h.lead t hb ht with hc | hl
    · exact .inl (h.old (sb_orl _ _) hco hc)
    · cases e : t.getLsbD u with
      | true =>
        refine .inl ⟨u, Nat.le_refl _, hu, ?_, e, fun j hj hjk => ?_⟩
        · cases e2 : (so ||| Rw k l (u + k)).getLsbD u with
          | false => rfl
          | true => exact absurd ⟨e2, hself⟩ (hco u hu)
        · rw [h.keeps (sb_orl _ _) hco (show u + 1 ≤ j by omega) hjk]; exact h.agree hl (by omega) hjk
      | false =>
        refine .inr fun a ha hsa => ?_
        rw [BitVec.getLsbD_or, Bool.or_eq_true] at hsa
        rcases hsa with hsa | hsa
        · exact hl a ha hsa
        · exact lit_rc hT ht (show u + k < 2 * k by omega) ((Rw_bit k6).1 hsa).2 (Lt_hi.2 e)
theorem SI.yes {n : Int} {l : List Clause} {k : Nat} (hT : TOk n l k) {u : Nat} (hu : u < k) {so : BitVec 32} (h : SI k l (u + 1) so) (hno : ¬Cons k (so ||| Rw k l (u + k))) (hco : Cons k (so ||| Rw k l u)) : SI k l u (so ||| Rw k l u) := by
  have k6 := hT.k6
  have hself : (so ||| Rw k l u).getLsbD u = true := by
    rw [BitVec.getLsbD_or, (Rw_bit k6).2 ⟨by omega, .refl⟩, Bool.or_true]
  refine ⟨bel_or.2 ⟨h.b, fun j hj => ((Rw_bit k6).1 hj).1⟩, cl_or k6 h.clo _, hco, fun j h1 h2 => ?_, fun t hb ht => ?_⟩
  · by_cases e : j = u
    · subst e; exact .inl hself
    · exact (h.dec j (by omega) h2).imp (sb_orl _ _ j) (sb_orl _ _ _)
  · rcases h.lead t hb ht with hc | hl
    · exact .inl (h.old (sb_orl _ _) hco hc)
    · have htu : t.getLsbD u = true := by
        cases e : t.getLsbD u with
        | true => rfl
        | false =>
          refine absurd (fun j hj hh => ?_) hno
          have hall : ∀ a, a < 2 * k → (so ||| Rw k l (u + k)).getLsbD a = true → Lt k t a := fun a ha hsa => by
            rw [BitVec.getLsbD_or, Bool.or_eq_true] at hsa
            rcases hsa with hsa | hsa
            · exact hl a ha hsa
            · exact lit_rc hT ht (show u + k < 2 * k by omega) ((Rw_bit k6).1 hsa).2 (Lt_hi.2 e)
          have h1 := (Lt_lo hj).1 (hall j (by omega) hh.1)
          have h2 := Lt_hi.1 (hall _ (by omega) hh.2)
          rw [h1] at h2; cases h2
      refine .inr fun a ha hsa => ?_
      rw [BitVec.getLsbD_or, Bool.or_eq_true] at hsa
      rcases hsa with hsa | hsa
      · exact hl a ha hsa
      · exact lit_rc hT ht (show u < 2 * k by omega) ((Rw_bit k6).1 hsa).2 ((Lt_lo hu).2 htu)

theorem SI.fin {n : Int} {l : List Clause} {k : Nat} (hT : TOk n l k) {so : BitVec 32} (h : SI k l 0 so) : bel k (so &&& ((1#32 <<< k) - 1#32)) ∧ tr l (so &&& ((1#32 <<< k) - 1#32)) = true ∧ ∀ t, bel k t → tr l t = true → (so &&& ((1#32 <<< k) - 1#32)).toNat ≤ t.toNat := by
  have k6 := hT.k6
  have hfb := full_bit (n := k) (by omega)
  unfold full at hfb
  have hb : ∀ j, (so &&& ((1#32 <<< k) - 1#32)).getLsbD j = true ↔ so.getLsbD j = true ∧ j < k := fun j => by rw [BitVec.getLsbD_and, Bool.and_eq_true, hfb]
  have hbk : ∀ j, j < k → (so &&& ((1#32 <<< k) - 1#32)).getLsbD j = so.getLsbD j := fun j hj => by
    rw [Bool.eq_iff_iff, hb]; exact ⟨fun h => h.1, fun h => ⟨h, hj⟩⟩
  have hL : ∀ a, a < 2 * k → so.getLsbD a = true → Lt k (so &&& ((1#32 <<< k) - 1#32)) a := fun a ha hs => by
    by_cases e : a < k
    · exact (Lt_lo e).2 ((hb a).2 ⟨hs, e⟩)
    · unfold Lt
      rw [if_neg e, hbk _ (by omega)]
      cases e2 : so.getLsbD (a - k) with
      | false => rfl
      | true => exact absurd ⟨e2, by rwa [show a - k + k = a by omega]⟩ (h.co (a - k) (by omega))
  have htot : ∀ a, a < 2 * k → so.getLsbD a = true ∨ so.getLsbD (ng k a) = true := fun a ha => by
    unfold ng
    by_cases e : a < k
    · rw [if_pos e]; exact h.dec a (by omega) e
    · rw [if_neg e]
      have := h.dec (a - k) (by omega) (by omega)
      rw [show a - k + k = a by omega] at this
      exact this.symm
  refine ⟨fun j hj => ((hb j).1 hj).2, tru_iff.2 fun q hq => ?_, fun t htb ht => ?_⟩
  · refine (cs_lit k6 (hT.yes q hq) (hT.no q hq)).2 ?_
    have hlb := lw_bel k6 (hT.yes q hq) (hT.no q hq)
    have hne : cntN 32 (lw k (cl l q)).getLsbD ≠ 0 := by have := hT.card q hq; omega
    have : ∃ a, (lw k (cl l q)).getLsbD a = true := by
      apply Classical.byContradiction
      intro hno
      exact hne (cnt_zero.2 fun j _ => by
        cases e : (lw k (cl l q)).getLsbD j with
        | false => rfl
        | true => exact absurd ⟨j, e⟩ hno)
    obtain ⟨a, ha⟩ := this
    have ha2 := hlb a ha
    rcases htot a ha2 with hs | hs
    · exact ⟨a, ha, hL a ha2 hs⟩
    · have go : ∀ b, (lw k (cl l q)).getLsbD b = true → (b ≠ a ∨ ∀ m, (lw k (cl l q)).getLsbD m = true → m = b) → ∃ m, (lw k (cl l q)).getLsbD m = true ∧ Lt k (so &&& ((1#32 <<< k) - 1#32)) m := fun b hb hbb => by
        have hb2 := hlb b hb
        refine ⟨b, hb, hL b hb2 (h.clo _ b (ng_lt ha2) hb2 hs (.one ((St_nat (ng_lt ha2) hb2).2 ⟨q, hq, ?_, hb, ?_⟩)))⟩
        · rw [ng_ng ha2]; exact ha
        · rw [ng_ng ha2]; exact hbb
      by_cases hone : ∀ m, (lw k (cl l q)).getLsbD m = true → m = a
      · exact go a ha (.inr hone)
      · have : ∃ b, (lw k (cl l q)).getLsbD b = true ∧ b ≠ a := by
          apply Classical.byContradiction
          intro hno
          refine hone fun m hm => ?_
          by_cases e : m = a
          · exact e
          · exact absurd ⟨m, hm, e⟩ hno
        obtain ⟨b, hb, hne⟩ := this
        exact go b hb (.inl hne)
  · have above : ∀ j, k ≤ j → (so &&& ((1#32 <<< k) - 1#32)).getLsbD j = t.getLsbD j := fun j hj => by
      have e1 : (so &&& ((1#32 <<< k) - 1#32)).getLsbD j = false := by
        cases e : (so &&& ((1#32 <<< k) - 1#32)).getLsbD j with
        | false => rfl
        | true => have := ((hb j).1 e).2; omega
      have e2 : t.getLsbD j = false := by
        cases e : t.getLsbD j with
        | false => rfl
        | true => have := htb j e; omega
      rw [e1, e2]
    rcases h.lead t htb ht with ⟨b, _, h2, h3, h4, h5⟩ | hl
    · refine Nat.le_of_lt (lt_of_top (i := b) ((hbk b h2).trans h3) h4 fun j hj => ?_)
      by_cases e : j < k
      · exact (hbk j e).trans (h5 j hj e)
      · exact above j (by omega)
    · have : so &&& ((1#32 <<< k) - 1#32) = t := bits_ext fun j => by
        by_cases e : j < k
        · rw [hbk j e, h.agree hl (by omega) e]
        · rw [above j (by omega)]
      rw [this]; exact Nat.le_refl _

theorem solve_loop {n : Int} {l : List Clause} {k : Nat} (hT : TOk n l k) (hns : ∀ v, v < k → sk k l v = false) (r1 : List (BitVec 32) × Int) (hr1 : r1.1 = tab (2 * k) (Rw k l)) {fuel : Nat} (hf : 100 < fuel) :
    ∃ r, whileK (σ := (BitVec 32) × Int) (fun s nx_ => two_Solve_b15 k r1 s.1 s.2 nx_) fuel ((0#32), ((k : Int) - 1)) = some (r, 0) ∧ bel k r ∧ tr l r = true ∧ ∀ t, bel k t → tr l t = true → r.toNat ≤ t.toNat := by
  have k6 := hT.k6
  have k1 := hT.k1
  refine whileK_q (Q := fun o => ∃ r, o = some (r, 0) ∧ bel k r ∧ tr l r = true ∧ ∀ t, bel k t → tr l t = true → r.toNat ≤ t.toNat) (fun (z : BitVec 32 × Int) => ∃ w : Nat, z.2 = (w : Int) - 1 ∧ w ≤ k ∧ SI k l w z.1) (fun z => (z.2 + 1).toNat) (fun z nx hI hnx => ?_) fuel _ ⟨k, rfl, Nat.le_refl _, fun j hj => by simp at hj, fun a b _ _ h => by simp at h, fun j _ h => by simp at h, fun j h1 h2 => by omega, fun t _ _ => .inr fun a _ h => by simp at h⟩ (by simp; omega)
  obtain ⟨so, v⟩ := z
  obtain ⟨w, hv, hwk, hS⟩ := hI
  simp only at hv hS hnx ⊢
  unfold two_Solve_b15
  cases w with
  | zero =>
    rw [decide_eq_false (by omega), cond_false]
    unfold two_Solve_k13
    rw [Int.toNat_natCast]
    obtain ⟨h1, h2, h3⟩ := hS.fin hT
    exact ⟨_, rfl, h1, h2, h3⟩
  | succ u =>
    have hv' : v = (u : Int) := by omega
    subst hv'
    have hu : u < k := by omega
    rw [decide_eq_true (by omega), cond_true]
    have hw : w64 ((u : Int) + k) = ((u + k : Nat) : Int) := by rw [w64_id (by omega) (by omega)]; omega
    rw [hw]
    show ∃ r, two_Solve_b29 k r1 u nx 0 so (fun s' => two_Solve_b29 k r1 u nx 1 s' (fun s'' => two_Solve_k25 u nx s'')) = _ ∧ _
    have step : ∀ (j : Int) (i : Nat) (nx30 : BitVec 32 → Option (BitVec 32 × Int)), i < 2 * k → geti [((u + k : Nat) : Int), (u : Int)] j = some (i : Int) → two_Solve_b29 k r1 u nx j so nx30 = bif tru (Cons k (so ||| Rw k l i)) then two_Solve_k25 u nx (so ||| Rw k l i) else nx30 so := fun j i nx30 hi hg => by
      unfold two_Solve_b29
      rw [hw, hg, Option.bind_some, hr1, tab_geti hi, Option.bind_some, decide_eq_true (by omega), cond_true, Int.toNat_natCast, cons_eq k6]
    have go : ∀ so', SI k l u so' → ∃ r, two_Solve_k25 u nx so' = some (r, 0) ∧ bel k r ∧ tr l r = true ∧ ∀ t, bel k t → tr l t = true → r.toNat ≤ t.toNat := fun so' hS' => by
      unfold two_Solve_k25
      rw [w64_id (by omega) (by omega)]
      exact hnx (so', (u : Int) - 1) ⟨u, rfl, by omega, hS'⟩ (by simp only; omega)
    rw [step 0 (u + k) _ (by omega) rfl]
    by_cases c1 : Cons k (so ||| Rw k l (u + k))
    · rw [tru_iff.2 c1, cond_true]
      exact go _ (hS.not hT hu c1)
    · rw [tru_false.2 c1, cond_false, step 1 u _ (by omega) rfl]
      by_cases c2 : Cons k (so ||| Rw k l u)
      · rw [tru_iff.2 c2, cond_true]
        exact go _ (hS.yes hT hu c1 c2)
      · exfalso
        have g1 : ng k (u + k) = u := by unfold ng; rw [if_neg (by omega)]; omega
        have g2 : ng k u = u + k := by unfold ng; rw [if_pos hu]
        obtain ⟨a1, b1⟩ := why_not k6 hS.clo hS.co (show u + k < 2 * k by omega) c1
        obtain ⟨a2, b2⟩ := why_not k6 hS.clo hS.co (show u < 2 * k by omega) c2
        rw [g1, a2] at b1
        rw [g2, a1] at b2
        have := hns u hu
        unfold sk at this
        rw [(Rw_bit k6).2 ⟨by omega, b2.resolve_left (by simp)⟩, (Rw_bit k6).2 ⟨by omega, b1.resolve_left (by simp)⟩] at this
        cases this

theorem twoSolves_true (fuel : Nat) (n : Int) (l : List Clause) (hf : 100 < fuel := by decide) : syllogistlaw_TwoSolves fuel n l = some true := by
  unfold syllogistlaw_TwoSolves two_Solve
  obtain ⟨r, er, h1, h0⟩ := tcheck n l
  rw [er]
  by_cases hr : r = 0
  · obtain ⟨k, h, e⟩ := h0 hr
    subst hr
    have hn := h.n
    subst hn
    have k6 := h.k6
    have k1 := h.k1
    rw [e]
    simp only [Option.bind_some, bne_self_eq_false, cond_false]
    rw [stuck_eq k6, Option.bind_some]
    obtain ⟨b, eb, hb⟩ := first_eq h.toSOk
    rw [eb]
    by_cases hz : bset k (sk k l) = 0#32
    · have hns : ∀ v, v < k → sk k l v = false := fun v hv => by
        have := bset_bit (n := k) (p := sk k l) (by omega) v
        rw [hz, decide_eq_true hv, Bool.true_and] at this
        rw [← this]; simp
      rw [hz]
      simp only [bne_self_eq_false, cond_false]
      rw [decide_eq_true (by omega), cond_true, w64_id (by omega) (by omega)]
      obtain ⟨s, es, s1, s2, s3⟩ := solve_loop h hns (tab (2 * k) (Rw k l), 0) rfl hf
      rw [es]
      simp only [Option.bind_some]
      rcases hb with ⟨b2, ⟨b3, b4⟩, bmin⟩ | ⟨rfl, bno⟩
      · have : s = b.1 := BitVec.eq_of_toNat_eq (by have := s3 _ b3 b4; have := bmin _ s1 s2; omega)
        simp [b2, this]
      · rw [bno s s1] at s2; cases s2
    · have hv : ∃ v, v < k ∧ sk k l v = true := by
        apply Classical.byContradiction
        intro hno
        refine hz (bits_ext fun j => ?_)
        rw [bset_bit (by omega), Bool.and_eq_true, decide_eq_true_eq]
        constructor
        · intro h; exact absurd ⟨j, h⟩ hno
        · intro h; simp at h
      obtain ⟨v, hvk, hv⟩ := hv
      have hbz : (bset k (sk k l) != 0#32) = true := by simpa using hz
      rw [hbz]
      simp only [cond_true, Option.bind_some]
      unfold sk at hv
      rw [Bool.and_eq_true, Rw_bit k6, Rw_bit k6] at hv
      rcases hb with ⟨b2, ⟨b3, b4⟩, bmin⟩ | ⟨rfl, bno⟩
      · exfalso
        cases e : b.1.getLsbD v with
        | true =>
          have := Lt_hi.1 (lit_rc h b4 (show v < 2 * k by omega) hv.1.2 ((Lt_lo hvk).2 e))
          rw [e] at this; cases this
        | false =>
          have := (Lt_lo hvk).1 (lit_rc h b4 (show v + k < 2 * k by omega) hv.2.2 (Lt_hi.2 e))
          rw [e] at this; cases this
      · rfl
  · rw [h1 hr]
    have hb : (r != 0) = true := by simpa using hr
    simp [hb]
end Go.Proofs.Ytmggbhpieikdpaa.Sy
