/- Taking and granting along a path: the maker's deeds, each allowed: the plain law; no program in sight. -/
import Derived.Test.YtehfjfaanhdbaaaM7
namespace Go.Proofs.Ytehfjfaanhdbaaa.Sy
set_option linter.unusedVariables false

theorem Run.le {s0 s : GS} {l : List Deed} (h : Run s0 l s) : s0.2 ≤ s.2 ∧ ∀ a o c, PE s0.1 a o c → PE s.1 a o c := by
  induction h with
  | nil => exact ⟨Nat.le_refl _, fun _ _ _ h => h⟩
  | snoc _ h2 ih => exact ⟨Nat.le_trans ih.1 h2.le.1, fun a o c h => h2.le.2 a o c (ih.2 a o c h)⟩
theorem HB.mono {es es' : List Edge} (h : ∀ a o c, PE es a o c → PE es' a o c) {a o : Nat} {w : BitVec 32} (hb : HB es a o w) : HB es' a o w := fun c hc => h a o c (hb c hc)

theorem has1 {m : Nat} {g : List (List (BitVec 32))} {es : List Edge} (hG : GM m g es) (h6 : m ≤ 6) {i j : Nat} (hi : i < m) (hj : j < m) : grant_graph_has g (i : Int) (j : Int) (1#32) = some (tru (PE es i j 0)) := by
  unfold grant_graph_has
  have hl := hG.len
  have hrow := hG.row i hi
  rw [geti_d [] (by omega), Option.bind_some]
  have hgy : geti (g[i]?.getD []) (j : Int) = some (ge g i j) := geti_d 0#32 (by rw [show g[i]?.getD [] = rwg g i from rfl, hrow]; omega)
  rw [hgy, Option.bind_some]
  refine congrArg some (tru_of ?_)
  rw [and1]
  exact ⟨fun ⟨k, h1, h2⟩ => (hG.bit i j 0 hi hj).1 ((one_bit k).1 h2 ▸ h1), fun h => ⟨0, (hG.bit i j 0 hi hj).2 h, rfl⟩⟩
theorem has2 {m : Nat} {g : List (List (BitVec 32))} {es : List Edge} (hG : GM m g es) (h6 : m ≤ 6) {i j : Nat} (hi : i < m) (hj : j < m) : grant_graph_has g (i : Int) (j : Int) (2#32) = some (tru (PE es i j 1)) := by
  unfold grant_graph_has
  have hl := hG.len
  have hrow := hG.row i hi
  rw [geti_d [] (by omega), Option.bind_some]
  have hgy : geti (g[i]?.getD []) (j : Int) = some (ge g i j) := geti_d 0#32 (by rw [show g[i]?.getD [] = rwg g i from rfl, hrow]; omega)
  rw [hgy, Option.bind_some]
  refine congrArg some (tru_of ?_)
  rw [and1]
  exact ⟨fun ⟨k, h1, h2⟩ => (hG.bit i j 1 hi hj).1 ((two_bit k).1 h2 ▸ h1), fun h => ⟨1, (hG.bit i j 1 hi hj).2 h, rfl⟩⟩

abbrev mk (g : List (List (BitVec 32))) (s : GS) (l : List Deed) : T108 := { graph := g, n := (s.2 : Int), l := l }

theorem putT {g : List (List (BitVec 32))} {s : GS} {l : List Deed} (hl : l.length ≤ 1000) (b a o : Nat) (w : BitVec 32) : grant_maker_put (mk g s l) (1 : Int) (b : Int) (a : Int) (o : Int) w = some (mk g s (l ++ [dT b a o w])) := by
  unfold grant_maker_put
  rw [decide_eq_true (by simp; omega), cond_true]; rfl
theorem putG {g : List (List (BitVec 32))} {s : GS} {l : List Deed} (hl : l.length ≤ 1000) (b a o : Nat) (w : BitVec 32) : grant_maker_put (mk g s l) (2 : Int) (b : Int) (a : Int) (o : Int) w = some (mk g s (l ++ [dG b a o w])) := by
  unfold grant_maker_put
  rw [decide_eq_true (by simp; omega), cond_true]; rfl
theorem freshM {g : List (List (BitVec 32))} {s : GS} {l : List Deed} (hl : l.length ≤ 1000) (hs : s.2 ≤ 14) (b : Nat) : grant_maker_fresh (mk g s l) (b : Int) = some ((s.2 : Int), mk g (s.1 ++ [ed b s.2 3#32], s.2 + 1) (l ++ [dM b])) := by
  unfold grant_maker_fresh
  have q4 : w64 ((s.2 : Int) + 1) = ((s.2 + 1 : Nat) : Int) := w64_succ (by omega)
  have q5 : w64 (((s.2 + 1 : Nat) : Int) - 1) = (s.2 : Int) := by
    rw [show ((s.2 + 1 : Nat) : Int) - 1 = (s.2 : Int) by omega]
    exact w64_id (by omega) (by omega)
  rw [decide_eq_true (by simp; omega), cond_true]
  simp only [q4, q5]; rfl

/-- What comes of a hop. -/
def HQ (g : List (List (BitVec 32))) (s0 s : GS) (l : List Deed) (b o : Nat) (w : BitVec 32) (r : Option T108) : Prop :=
  ∃ s' l', r = some (mk g s' l') ∧ Run s0 l' s' ∧ s.2 ≤ s'.2 ∧ s'.2 ≤ s.2 + 1 ∧ l'.length ≤ l.length + 4 ∧ (∀ a o c, PE s.1 a o c → PE s'.1 a o c) ∧ HB s'.1 b o w

theorem hop_ok {m : Nat} {g : List (List (BitVec 32))} {es : List Edge} (hG : GM m g es) (h6 : m ≤ 6) {s : GS} {l : List Deed} (hR : Run (es, m) l s) (hl : l.length ≤ 500) (hs : s.2 < 14) {a b o : Nat} (ha : a < m) (hb : b < m) (hab : a ≠ b) (ho : o < s.2) (hob : o ≠ b) {w : BitVec 32} (hw : HB s.1 a o w) (hJ : JJ m es b a) :
    HQ g (es, m) s l b o w (grant_maker_hop (mk g s l) (a : Int) (b : Int) (o : Int) w) := by
  obtain ⟨hm, hmono⟩ := hR.le
  simp only at hm hmono
  unfold grant_maker_hop
  show HQ g (es, m) s l b o w ((grant_graph_has g (b : Int) (a : Int) (1#32)).bind _)
  rw [has1 hG h6 hb ha, Option.bind_some]
  cases h1 : tru (PE es b a 0) with
  | true =>
    rw [cond_true]
    have hst : Stp s (dT b a o w) _ := .take (by omega) (by omega) ho hab hob (hmono _ _ _ (tru_iff.1 h1)) hw
    have := putT (g := g) (s := s) (l := l) (by omega) b a o w
    refine ⟨_, _, ?_, hR.snoc hst, Nat.le_refl _, Nat.le_succ _, by simp, hst.le.2, fun c hc => PE.last hc⟩
    rw [this]; rfl
  | false =>
    rw [cond_false]
    show HQ g (es, m) s l b o w ((grant_graph_has g (a : Int) (b : Int) (2#32)).bind _)
    rw [has2 hG h6 ha hb, Option.bind_some]
    cases h2 : tru (PE es a b 1) with
    | true =>
      rw [cond_true]
      have hst : Stp s (dG a b o w) _ := .grant (by omega) (by omega) ho (Ne.symm hab) hob (hmono _ _ _ (tru_iff.1 h2)) hw
      have := putG (g := g) (s := s) (l := l) (by omega) a b o w
      refine ⟨_, _, ?_, hR.snoc hst, Nat.le_refl _, Nat.le_succ _, by simp, hst.le.2, fun c hc => PE.last hc⟩
      rw [this]; rfl
    | false =>
      rw [cond_false]
      have hf := freshM (g := g) (s := s) (l := l) (by omega) (by omega) b
      have hst1 : Stp s (dM b) _ := .make (by omega) hs
      have hR1 := hR.snoc hst1
      show HQ g (es, m) s l b o w ((grant_maker_fresh (mk g s l) (b : Int)).bind _)
      rw [hf, Option.bind_some]
      show HQ g (es, m) s l b o w ((grant_graph_has g (b : Int) (a : Int) (2#32)).bind _)
      rw [has2 hG h6 hb ha, Option.bind_some]
      generalize hs1 : ((s.1 ++ [ed b s.2 3#32], s.2 + 1) : GS) = s1 at *
      have hs12 : s1.2 = s.2 + 1 := by rw [← hs1]
      have hbv0 : PE s1.1 b s.2 0 := by rw [← hs1]; exact PE.last (by decide)
      have hbv1 : PE s1.1 b s.2 1 := by rw [← hs1]; exact PE.last (by decide)
      -- the tail, alike for both
      have tail : ∀ (s2 : GS) (l2 : List Deed), Run (es, m) l2 s2 → s2.2 = s1.2 → l2.length = l.length + 2 → (∀ a o c, PE s1.1 a o c → PE s2.1 a o c) → PE s2.1 a s.2 1 →
          HQ g (es, m) s l b o w (grant_maker_hop_k19 (mk g s l) (a : Int) (b : Int) (o : Int) w ((s.2 : Int), mk g s1 (l ++ [dM b])) (s2.2 : Int) l2) := fun s2 l2 hR2 e2 hl2 hm2 hav => by
        unfold grant_maker_hop_k19
        show HQ g (es, m) s l b o w ((grant_maker_put (mk g s2 l2) (2 : Int) (a : Int) (s.2 : Int) (o : Int) w).bind _)
        rw [putG (by omega), Option.bind_some]
        have hst3 : Stp s2 (dG a s.2 o w) _ := .grant (by omega) (by omega) (by omega) (by omega) (by omega) hav (HB.mono (fun _ _ _ h => hm2 _ _ _ (hst1.le.2 _ _ _ h)) hw)
        have hR3 := hR2.snoc hst3
        show HQ g (es, m) s l b o w ((grant_maker_put (mk g s2 (l2 ++ [dG a s.2 o w])) (1 : Int) (b : Int) (s.2 : Int) (o : Int) w).bind _)
        rw [putT (by simp; omega), Option.bind_some]
        have hst4 : Stp (s2.1 ++ [ed s.2 o w], s2.2) (dT b s.2 o w) _ := .take (by simp only; omega) (by simp only; omega) (by simp only; omega) (by omega) hob (PE.left (hm2 _ _ _ hbv0)) (fun c hc => PE.last hc)
        exact ⟨(s2.1 ++ [ed s.2 o w] ++ [ed b o w], s2.2), _, rfl, hR3.snoc hst4, by simp only; omega, by simp only; omega, by simp; omega, fun a o c h => PE.left (PE.left (hm2 _ _ _ (hst1.le.2 _ _ _ h))), fun c hc => PE.last hc⟩
      cases h3 : tru (PE es b a 1) with
      | true =>
        rw [cond_true]
        show HQ g (es, m) s l b o w ((grant_maker_put (mk g s1 (l ++ [dM b])) (2 : Int) (b : Int) (a : Int) (s.2 : Int) (2#32)).bind _)
        rw [putG (by simp; omega), Option.bind_some]
        have hst2 : Stp s1 (dG b a s.2 2#32) _ := .grant (by omega) (by omega) (by omega) hab (by omega) (hst1.le.2 _ _ _ (hmono _ _ _ (tru_iff.1 h3))) (.two hbv1)
        exact tail (s1.1 ++ [ed a s.2 2#32], s1.2) _ (hR1.snoc hst2) rfl (by simp) hst2.le.2 (PE.last (by decide))
      | false =>
        rw [cond_false]
        show HQ g (es, m) s l b o w ((grant_maker_put (mk g s1 (l ++ [dM b])) (1 : Int) (a : Int) (b : Int) (s.2 : Int) (2#32)).bind _)
        rw [putT (by simp; omega), Option.bind_some]
        have h4 : PE es a b 0 := by
          obtain ⟨_, e, he, hr, hd⟩ := hJ
          rcases hd with ⟨d1, d2⟩ | ⟨d1, d2⟩ <;> rcases hr with hr | hr
          · exact absurd ⟨e, he, d1, d2, hr⟩ (tru_false.1 h1)
          · exact absurd ⟨e, he, d1, d2, hr⟩ (tru_false.1 h3)
          · exact ⟨e, he, d1, d2, hr⟩
          · exact absurd ⟨e, he, d1, d2, hr⟩ (tru_false.1 h2)
        have hst2 : Stp s1 (dT a b s.2 2#32) _ := .take (by omega) (by omega) (by omega) (Ne.symm hab) (by omega) (hst1.le.2 _ _ _ (hmono _ _ _ h4)) (.two hbv1)
        exact tail (s1.1 ++ [ed a s.2 2#32], s1.2) _ (hR1.snoc hst2) rfl (by simp) hst2.le.2 (PE.last (by decide))
end Go.Proofs.Ytehfjfaanhdbaaa.Sy
