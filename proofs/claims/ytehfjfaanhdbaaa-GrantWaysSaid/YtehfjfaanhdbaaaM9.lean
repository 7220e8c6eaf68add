/- Taking and granting along a path: the whole script and the law: the plain law; no program in sight. -/
import Derived.Test.YtehfjfaanhdbaaaM8
namespace Go.Proofs.Ytehfjfaanhdbaaa.Sy
set_option linter.unusedVariables false

def WQ (es : List Edge) (m x y : Nat) (w : BitVec 32) (one : Prop) (o : Option (List Deed × Int)) : Prop :=
  ∃ l s, o = some (l, (0 : Int)) ∧ Run (es, m) l s ∧ s.2 ≤ 14 ∧ l.length ≤ 100 ∧ HB s.1 x y w ∧ (one → l = [])

theorem geti_map {w : List Nat} {k a : Nat} (h : w[k]? = some a) : geti (w.map fun z : Nat => (z : Int)) (k : Int) = some (a : Int) := by
  rw [geti_nat?, List.getElem?_map, h]; rfl

theorem way_ok {m : Nat} {g : List (List (BitVec 32))} {es : List Edge} (hG : GM m g es) (h6 : m ≤ 6) {x y v : Nat} (hy : y < m) (hxy : x ≠ y) {w : List Nat} (hp : PC m (JJ m es) v w x) (hvy : v ≠ y) {right : BitVec 32} (hv : HB es v y right) (c0 : Int) :
    WQ es m x y right (w.length = 1) (whileK (σ := Int × Int × (List Deed)) (fun s nx_ => grant_Way_b27 (y : Int) right (g, c0) (w.map fun z : Nat => (z : Int)) s.1 s.2.1 s.2.2 nx_) 200 (((0 : Int)), (m : Int), (([] : List Deed)))) := by
  obtain ⟨p0, p1, p2, p3⟩ := hp.at
  have hwl := hp.len
  have hnd := hp.nd
  have hne : ∀ i j a, w[i]? = some a → w[j]? = some a → i = j := fun i j a h1 h2 => by
    obtain ⟨h1', e1⟩ := List.getElem?_eq_some_iff.1 h1
    obtain ⟨h2', e2⟩ := List.getElem?_eq_some_iff.1 h2
    rcases Nat.lt_trichotomy i j with h | h | h
    · exact absurd (e1.trans e2.symm) (List.pairwise_iff_getElem.1 hnd i j h1' h2' h)
    · exact h
    · exact absurd (e2.trans e1.symm) (List.pairwise_iff_getElem.1 hnd j i h2' h1' h)
  have hlt : ∀ i a, w[i]? = some a → a < m := fun i a h => hp.lt a (List.mem_of_getElem? h)
  refine whileK_q (Q := WQ es m x y right (w.length = 1)) (fun (st : Int × Int × List Deed) => ∃ (k u : Nat) (s : GS), st.1 = k ∧ st.2.1 = (s.2 : Int) ∧ w[k]? = some u ∧ u ≠ y ∧ Run (es, m) st.2.2 s ∧ HB s.1 u y right ∧ 2 * s.2 ≤ 2 * m + 3 * k ∧ st.2.2.length ≤ 14 * k) (fun st => w.length - st.1.toNat) (fun st nx hI hn => ?_) 200 _ ⟨0, v, (es, m), rfl, rfl, p1, hvy, .nil, hv, by simp, by simp⟩ (by simp only; omega)
  obtain ⟨k', c', l⟩ := st
  obtain ⟨k, u, s, e1, e2, hk, huy, hR, hu, hb1, hb2⟩ := hI
  simp only at e1 e2 hR hb2 hn ⊢
  subst e1 e2
  have hkl : k < w.length := (List.getElem?_eq_some_iff.1 hk).1
  have hms := hR.le.1
  simp only at hms
  have hum := hlt k u hk
  unfold grant_Way_b27
  have hw1 : w64 ((k : Int) + 1) = ((k + 1 : Nat) : Int) := w64_succ (by omega)
  rw [hw1, List.length_map]
  by_cases hend : k + 1 < w.length
  · rw [decide_eq_true (by omega), cond_true, geti_map hk, Option.bind_some]
    obtain ⟨b, hb⟩ : ∃ b, w[k + 1]? = some b := ⟨_, List.getElem?_eq_getElem hend⟩
    rw [geti_map hb, Option.bind_some]
    have hbm := hlt _ b hb
    have hJ := p3 k u b hk hb
    have hub : u ≠ b := fun e => by subst e; have := hne _ _ _ hk hb; omega
    by_cases hby : b = y
    · subst hby
      rw [bne_self_eq_false, cond_false]
      have hend2 : k + 2 < w.length := by
        apply Classical.byContradiction
        intro h
        rw [show w.length - 1 = k + 1 by omega, hb] at p2
        cases p2; exact hxy rfl
      obtain ⟨c, hc⟩ : ∃ c, w[k + 2]? = some c := ⟨_, List.getElem?_eq_getElem hend2⟩
      have hw2 : w64 ((k : Int) + 2) = ((k + 2 : Nat) : Int) := by
        rw [w64_id (by omega) (by omega)]; omega
      have hw3 : w64 (((k + 1 : Nat) : Int) + 1) = ((k + 2 : Nat) : Int) := w64_succ (by omega)
      rw [hw2, hw3, geti_map hc, Option.bind_some]
      have hcm := hlt _ c hc
      have hJ2 := p3 (k + 1) b c hb hc
      have hbc : b ≠ c := fun e => by subst e; have := hne _ _ _ hb hc; omega
      show WQ es m x b right (w.length = 1) ((grant_maker_fresh (mk g s l) (u : Int)).bind _)
      rw [freshM (by omega) (by omega), Option.bind_some]
      have hst1 : Stp s (dM u) _ := .make (by omega) (by omega)
      have hR1 := hR.snoc hst1
      obtain ⟨s2, l2, q1, q2, q3, q4, q5, q6, q7⟩ := hop_ok hG h6 hR1 (by simp; omega) (show s.2 + 1 < 14 by omega) hum hbm hub (o := s.2) (show s.2 < s.2 + 1 by omega) (by omega) (w := 1#32) (.one (PE.last (by decide))) hJ
      simp only at q3 q4 q6
      show WQ es m x b right (w.length = 1) ((grant_maker_hop (mk g (s.1 ++ [ed u s.2 3#32], s.2 + 1) (l ++ [dM u])) (u : Int) (b : Int) (s.2 : Int) (1#32)).bind _)
      rw [q1, Option.bind_some]
      have q5' : l2.length ≤ l.length + 5 := by simp at q5; omega
      obtain ⟨s3, l3, r1, r2, r3, r4, r5, r6, r7⟩ := hop_ok hG h6 q2 (by omega) (by omega) hbm hcm hbc (o := s.2) (by omega) (by omega) q7 hJ2
      show WQ es m x b right (w.length = 1) ((grant_maker_hop (mk g s2 l2) (b : Int) (c : Int) (s.2 : Int) (1#32)).bind _)
      rw [r1, Option.bind_some]
      have hm3 : ∀ a o d, PE s.1 a o d → PE s3.1 a o d := fun a o d h => r6 _ _ _ (q6 _ _ _ h.left)
      show WQ es m x b right (w.length = 1) ((grant_maker_put (mk g s3 l3) (2 : Int) (u : Int) (s.2 : Int) (b : Int) right).bind _)
      rw [putG (by omega), Option.bind_some]
      have hst4 : Stp s3 (dG u s.2 b right) _ := .grant (by omega) (by omega) (by omega) (by omega) (by omega) (r6 _ _ _ (q6 _ _ _ (PE.last (by decide)))) (HB.mono hm3 hu)
      show WQ es m x b right (w.length = 1) ((grant_maker_put (mk g s3 (l3 ++ [dG u s.2 b right])) (1 : Int) (c : Int) (s.2 : Int) (b : Int) right).bind _)
      rw [putT (by simp; omega), Option.bind_some]
      have hst5 : Stp (s3.1 ++ [ed s.2 b right], s3.2) (dT c s.2 b right) _ := .take (by simp only; omega) (by simp only; omega) (by simp only; omega) (by omega) hbc (PE.left (r7 0 (by decide))) (fun d hd => PE.last hd)
      refine hn _ ⟨k + 2, c, (s3.1 ++ [ed s.2 b right] ++ [ed c b right], s3.2), rfl, rfl, hc, Ne.symm hbc, (r2.snoc hst4).snoc hst5, fun d hd => PE.last hd, by simp only; omega, by simp; omega⟩ (by simp only [Int.toNat_natCast]; omega)
    · have hby' : ((b : Int) != (y : Int)) = true := by rw [bne_iff_ne]; omega
      rw [hby', cond_true]
      obtain ⟨s2, l2, q1, q2, q3, q4, q5, q6, q7⟩ := hop_ok hG h6 hR (by omega) (by omega) hum hbm hub (o := y) (by omega) (Ne.symm hby) hu hJ
      show WQ es m x y right (w.length = 1) ((grant_maker_hop (mk g s l) (u : Int) (b : Int) (y : Int) right).bind _)
      rw [q1, Option.bind_some]
      refine hn _ ⟨k + 1, b, s2, rfl, rfl, hb, hby, q2, q7, by omega, by simp only; omega⟩ (by simp only [Int.toNat_natCast]; omega)
  · rw [decide_eq_false (by omega), cond_false]
    have : w.length - 1 = k := by omega
    rw [this, hk] at p2
    cases p2
    unfold grant_Way_k25
    exact ⟨l, s, rfl, hR, by omega, by omega, hu, fun h1 => List.eq_nil_of_length_eq_zero (by omega)⟩

theorem k9_bad (n : Int) (es : List Edge) (x y : Int) (right : BitVec 32) (c : Int) (hc : c ≠ 0) : syllogistlaw_GrantWays_k9 n es x y right 200 ([], c) c = some true := by
  unfold syllogistlaw_GrantWays_k9
  have : (c != (0 : Int)) = true := bne_iff_ne.2 hc
  rw [this, cond_true]
  simp

theorem k9_ok {es : List Edge} {m x y : Nat} {right : BitVec 32} {one : Prop} (he : es.length ≤ 100) (hx : x < m) (hy : y < m) (h1 : HB es x y right → one) {l : List Deed} {s : GS} (hR : Run (es, m) l s) (hs : s.2 ≤ 14) (hl : l.length ≤ 100) (hb : HB s.1 x y right) (ho : one → l = []) :
    syllogistlaw_GrantWays_k9 (m : Int) es (x : Int) (y : Int) right 200 (l, (0 : Int)) (0 : Int) = some true := by
  unfold syllogistlaw_GrantWays_k9
  rw [bne_self_eq_false, cond_false]
  refine for0_q (n := l.length) (Q := fun o => o = some true) (fun t (_ : Unit) => True) rfl () trivial (fun t _ nx ht _ hn => ?_) (fun _ _ => ?_)
  · unfold syllogistlaw_GrantWays_b36
    rw [geti_at ht, Option.bind_some]
    have : (l[t].kind == (4 : Int)) = false := beq_eq_false_iff_ne.2 (hR.nodrop _ (List.getElem_mem ht))
    rw [this, cond_false]
    exact hn () trivial
  · unfold syllogistlaw_GrantWays_k13
    obtain ⟨r, e, hr⟩ := over_eq es x y
    rw [e, Option.bind_some]
    unfold syllogistref_In
    rw [Option.bind_some]
    cases hq : ((right ||| r) == r) with
    | true =>
      rw [cond_true]
      have : HB es x y right := fun c hc => (hr c).1 (or_iff.1 hq c hc)
      have hl0 := ho (h1 this)
      subst hl0; rfl
    | false =>
      rw [cond_false]
      obtain ⟨g, eg, hg⟩ := replay hR hs hl he
      rw [eg, Option.bind_some]
      have hms := hR.le.1
      simp only at hms
      obtain ⟨r', e', hr'⟩ := over_eq g.edges x y
      have : ((right ||| r') == r') = true := or_iff.2 fun c hc => (hr' c).2 (hg x y c (by omega) (by omega) (hb c hc))
      rw [e']
      simp only [Option.isSome_some, Bool.or_true, cond_true, Option.getD_some, this, beq_self_eq_true, Bool.and_self]

theorem grantWays_true (fuel : Nat) (n : Int) (es : List Edge) (x y : Int) (right : BitVec 32) (hf : fuel = 200 := by rfl) : syllogistlaw_GrantWays fuel n es x y right = some true := by
  subst hf
  unfold syllogistlaw_GrantWays grant_Way grant_wrong syllogistlaw_grantCode
  obtain ⟨g, c, e1, e2, h0⟩ := build_ok n es
  rw [e1, e2]
  simp only [Option.bind_some]
  by_cases hc : c = 0
  · subst hc
    obtain ⟨m, hE, hG⟩ := h0 rfl
    have hm := hE.m6
    have hn := hE.n
    subst hn
    simp only [bne_self_eq_false, cond_false, beq_self_eq_true, Bool.true_and]
    have hcond : (((decide ((if y < x then y else x) < (0 : Int))) || (decide ((if y > x then y else x) ≥ (m : Int)))) || (x == y)) = (((((decide (x < (0 : Int))) || (decide (x ≥ (m : Int)))) || (decide (y < (0 : Int)))) || (decide (y ≥ (m : Int)))) || (x == y)) := by
      rw [Bool.eq_iff_iff]
      simp only [Bool.or_eq_true, decide_eq_true_eq, beq_iff_eq]
      by_cases h : y < x
      · rw [if_pos h, if_neg (by omega)]; omega
      · rw [if_neg h]
        by_cases h' : y > x
        · rw [if_pos h']; omega
        · rw [if_neg h']; omega
    rw [hcond]
    cases hb : (((((decide (x < (0 : Int))) || (decide (x ≥ (m : Int)))) || (decide (y < (0 : Int)))) || (decide (y ≥ (m : Int)))) || (x == y)) with
    | true =>
      simp only [cond_true, Option.bind_some]
      rw [code4 right 2 (by decide)]
      exact k9_bad (m : Int) es x y right 2 (by decide)
    | false =>
      simp only [cond_false, Option.bind_some]
      simp only [Bool.or_eq_false_iff, decide_eq_false_iff_not, beq_eq_false_iff_ne] at hb
      obtain ⟨⟨⟨⟨b1, b2⟩, b3⟩, b4⟩, b5⟩ := hb
      obtain ⟨x, rfl⟩ : ∃ a : Nat, x = a := ⟨x.toNat, by omega⟩
      obtain ⟨y, rfl⟩ : ∃ a : Nat, y = a := ⟨y.toNat, by omega⟩
      have hxm : x < m := by omega
      have hym : y < m := by omega
      have hxy : x ≠ y := by omega
      rw [onesCount_eq, Option.bind_some]
      unfold syllogistlaw_grantCode_k4
      rw [size_eq]
      simp only [Option.isSome_some, Bool.or_true, cond_true, Option.getD_some, beq_self_eq_true, Bool.true_and]
      cases hq : (((cntN 32 right.getLsbD : Nat) : Int) != (1 : Int)) with
      | true =>
        simp only [cond_true]
        exact k9_bad (m : Int) es (x : Int) (y : Int) right 4 (by decide)
      | false =>
        have h1 : cntN 32 right.getLsbD = 1 := by
          have : ((cntN 32 right.getLsbD : Nat) : Int) = 1 := by simpa using hq
          omega
        obtain ⟨b, hb32, hbr, hbo⟩ := cnt_one h1
        have honly : ∀ j, right.getLsbD j = true → j = b := fun j hj => by
          by_cases h : j < 32
          · exact hbo j h hj
          · rw [BitVec.getLsbD_of_ge _ _ (by omega)] at hj; cases hj
        have hr1 : ∀ w : BitVec 32, ((w &&& right) != 0#32) = w.getLsbD b := fun w => by
          rw [Bool.eq_iff_iff, and1]
          exact ⟨fun ⟨i, h1, h2⟩ => honly i h2 ▸ h1, fun h => ⟨b, h, hbr⟩⟩
        have hr2 : ∀ w : BitVec 32, ((right ||| w) == w) = w.getLsbD b := fun w => by
          rw [Bool.eq_iff_iff, or_iff]
          exact ⟨fun h => h b hbr, fun h j hj => honly j hj ▸ h⟩
        obtain ⟨p, ep, hp⟩ := path_ok hE.m1 hm hG (x := x) (y := y) (b := b) (by omega) (by omega) hr1
        obtain ⟨q, eq, hqq⟩ := can_ok hm hE.ok (x := x) (y := y) (b := b) (by omega) hr2
        simp only [cond_false, Option.bind_some, bne_self_eq_false]
        rw [ep, Option.bind_some, eq]
        have hpq : (!p.isEmpty) = q := by
          rw [Bool.eq_iff_iff, Bool.not_eq_true', hp.1, hqq]
        cases hpe : p.isEmpty with
        | true =>
          rw [hpe] at hpq
          subst hpq
          simp only [cond_true, Option.bind_some, Option.isSome_some, Bool.or_true, Option.getD_some, Bool.not_true, Bool.not_false, beq_self_eq_true, Bool.and_self]
          exact k9_bad (m : Int) es (x : Int) (y : Int) right 5 (by decide)
        | false =>
          rw [hpe] at hpq
          subst hpq
          obtain ⟨⟨v, w, rfl, hpc, hvg⟩, hone⟩ := hp.2 hpe
          rw [List.length_map] at hone
          obtain ⟨l, s, el, hR, hs, hl, hHB, ho⟩ := way_ok hG hm (x := x) (y := y) hym hxy hpc hvg.1 (right := right) (fun c hc => honly c hc ▸ hvg.2) 0
          rw [cond_false, el, Option.bind_some]
          simp only [Option.isSome_some, Bool.or_true, cond_true, Option.getD_some, Bool.not_true, Bool.not_false, Bool.and_false, cond_false]
          exact k9_ok (one := w.length = 1) (Nat.le_trans hE.el (by decide)) hxm hym (fun h => hone ⟨hxy, h b hbr⟩) hR hs hl hHB ho
  · have hcb : (c != 0) = true := by simpa using hc
    have hcf : (c == (0 : Int)) = false := beq_eq_false_iff_ne.2 hc
    simp only [hcb, cond_true, Option.bind_some, hcf, Bool.false_and, cond_false]
    rw [code4 right c hc, Option.bind_some]
    have hcf' : (c == (0 : Int)) = false := hcf
    simp only [hcf', Bool.false_and, cond_false, Bool.not_false, Bool.true_or, cond_true, Bool.false_eq_true]
    exact k9_bad n es x y right c hc
end Go.Proofs.Ytehfjfaanhdbaaa.Sy
