/- How few are needed to read all: the plain law; no program in sight. -/
import Derived.Test.YtcihfhfolofomaaG1
import Derived.Test.YtcihfhfolofomaaSyR
namespace Go.Proofs.Ytcihfhfolofomaa.Sy
set_option linter.unusedVariables false

theorem contZ (s : List Int) (f : Int → Option Bool) (p : Int → Bool) (hf : ∀ a ∈ s, f a = some (p a)) : slices_ContainsFunc_Sintint s f = some (s.any p) := any_shape s f p hf
theorem hasZ (l : List Int) (x : Int) : syllogistref_Has l x = some (decide (x ∈ l)) := by
  unfold syllogistref_Has
  refine for0_q (n := l.length) (Q := fun o => o = some (decide (x ∈ l))) (fun j _ => x ∉ l.take j) rfl () (by simp) (fun j _ nx hj hI hn => ?_) (fun _ hI => ?_)
  · unfold syllogistref_Has_b7
    rw [geti_at hj, Option.bind_some]
    by_cases e : x = l[j]
    · have : x ∈ l := e ▸ List.getElem_mem hj
      rw [beq_iff_eq.2 e, cond_true, decide_eq_true this]
    · rw [beq_eq_false_iff_ne.2 e, cond_false]
      refine hn () fun h => ?_
      rw [← List.take_append_getElem hj] at h
      rcases List.mem_append.1 h with h | h
      · exact hI h
      · exact e (by simpa using h)
  · unfold syllogistref_Has_k3
    rw [List.take_length] at hI
    rw [decide_eq_false hI]

structure FO (firm cls : List Int) : Prop where
  fl : firm.length ≤ 8
  cl : cls.length ≤ 8
  ok : ∀ i (h : i < firm.length), -1 ≤ firm[i] ∧ firm[i] < cls.length
theorem fcheck (firm cls : List Int) : ∃ r, wall_wrong firm cls = some r ∧ syllogistref_FirmsCheck firm cls = some r ∧ (r = 0 → FO firm cls) := by
  unfold wall_wrong syllogistref_FirmsCheck
  cases hb : ((decide ((firm.length : Int) > (8 : Int))) || (decide ((cls.length : Int) > (8 : Int)))) with
  | true => exact ⟨1, rfl, rfl, by simp⟩
  | false =>
    simp only [Bool.or_eq_false_iff, decide_eq_false_iff_not] at hb
    simp only [cond_false]
    rw [contZ firm (fun a => wall_wrong_c1 a cls) (fun f => (decide (f < (-1 : Int))) || (decide (f ≥ (cls.length : Int)))) (fun a _ => rfl), Option.bind_some, any_len]
    rw [for_out (n := firm.length) (fun j => (firm[j]?.map fun f => (decide (f < (-1 : Int))) || (decide (f ≥ (cls.length : Int)))).getD false) (some 2) rfl (fun j nx hj => by
      unfold syllogistref_FirmsCheck_b7
      rw [geti_at hj, Option.bind_some, List.getElem?_eq_getElem hj]
      simp only [Option.getD_some, Option.map_some])]
    unfold syllogistref_FirmsCheck_k3
    cases ha : anyN firm.length (fun j => (firm[j]?.map fun f => (decide (f < (-1 : Int))) || (decide (f ≥ (cls.length : Int)))).getD false) with
    | true => exact ⟨2, rfl, rfl, by simp⟩
    | false =>
      refine ⟨0, rfl, rfl, fun _ => ⟨by omega, by omega, fun i hi => ?_⟩⟩
      have := anyN_false.1 ha i hi
      rw [List.getElem?_eq_getElem hi] at this
      simp only [Option.map_some, Option.getD_some, Bool.or_eq_false_iff, decide_eq_false_iff_not] at this
      omega

/-! ### How many firms of a class have things -/
abbrev cz (cls : List Int) (b : Nat) : Int := cls[b]?.getD 0
def CC (cls s : List Int) (k : Int) : Nat := cntN cls.length fun b => decide (cz cls b = k) && decide ((b : Int) ∈ s)
theorem cnt_more {n : Nat} {p q : Nat → Bool} {i : Nat} (hi : i < n) (h1 : p i = false) (h2 : q i = true) (h : ∀ j, j < n → j ≠ i → q j = p j) : cntN n q = cntN n p + 1 := by
  induction n with
  | zero => omega
  | succ n ih =>
    rw [cntN, cntN]
    by_cases e : i = n
    · subst e
      rw [h1, h2, cond_true, cond_false, cntN_congr fun j hj => h j (by omega) (by omega)]
    · rw [ih (by omega) fun j hj => h j (by omega), h n (by omega) (by omega)]
      cases p n <;> rfl
theorem cc_app (cls s : List Int) (k : Int) (b0 : Nat) (hb : b0 < cls.length) : CC cls (s ++ [(b0 : Int)]) k = if k = cz cls b0 ∧ (b0 : Int) ∉ s then CC cls s k + 1 else CC cls s k := by
  unfold CC
  by_cases h : k = cz cls b0 ∧ (b0 : Int) ∉ s
  · rw [if_pos h]
    refine cnt_more hb ?_ ?_ fun j hj hne => ?_
    · simp [h.2]
    · simp [h.1]
    · have : ((j : Int) = (b0 : Int)) ↔ False := ⟨fun e => hne (by omega), False.elim⟩
      simp [this]
  · rw [if_neg h]
    refine cntN_congr fun j hj => ?_
    by_cases e : j = b0
    · subst e
      by_cases hk : cz cls j = k
      · have : (j : Int) ∈ s := Classical.byContradiction fun hn => h ⟨hk.symm, hn⟩
        simp [this]
      · simp [hk]
    · have : ((j : Int) = (b0 : Int)) ↔ False := ⟨fun e' => e (by omega), False.elim⟩
      simp [this]
theorem cc_neg (cls s : List Int) (k : Int) (x : Int) (hx : x < 0) : CC cls (s ++ [x]) k = CC cls s k := by
  unfold CC
  refine cntN_congr fun j hj => ?_
  have : ((j : Int) = x) ↔ False := ⟨fun e => by omega, False.elim⟩
  simp [this]

structure MX (cls s : List Int) (v : Nat) : Prop where
  le : ∀ a, a < cls.length → (a : Int) ∈ s → CC cls s (cz cls a) ≤ v
  at_ : v = 0 ∨ ∃ a, a < cls.length ∧ (a : Int) ∈ s ∧ v = CC cls s (cz cls a)
theorem MX.uniq {cls s : List Int} {v u : Nat} (h : MX cls s v) (h' : MX cls s u) : v = u := by
  have key : ∀ {v u}, MX cls s v → MX cls s u → v ≤ u := fun {v u} h h' => by
    rcases h.at_ with e | ⟨a, h1, h2, e⟩
    · omega
    · have := h'.le a h1 h2; omega
  have := key h h'; have := key h' h; omega

structure ES (cls s : List Int) (es : List (Int × List (Int × Bool))) : Prop where
  none : ∀ k, mget es k = none → ∀ b, b < cls.length → (b : Int) ∈ s → cz cls b ≠ k
  len : ∀ k ts, mget es k = some ts → ts.length = CC cls s k
  key : ∀ k ts, mget es k = some ts → ∀ b, b < cls.length → cz cls b = k → ((mget ts (b : Int)).isSome = true ↔ (b : Int) ∈ s)

theorem fewest_ok {firm cls : List Int} (h : FO firm cls) (hw : wall_wrong firm cls = some 0) : ∃ v : Nat, wall_Fewest firm cls = some ((v : Int), 0) ∧ MX cls firm v := by
  have h1 := h.fl
  have h2 := h.cl
  unfold wall_Fewest
  rw [hw, Option.bind_some]
  simp only [bne_self_eq_false, cond_false]
  refine for0_q (n := firm.length) (Q := fun o => ∃ v : Nat, o = some ((v : Int), 0) ∧ MX cls firm v) (fun t (s : Int × List (Int × List (Int × Bool))) => ∃ v : Nat, s.1 = v ∧ MX cls (firm.take t) v ∧ ES cls (firm.take t) s.2) rfl (0, []) ⟨0, rfl, ⟨fun a _ ha => by simp at ha, .inl rfl⟩, ⟨fun k _ b _ hb => by simp at hb, fun k ts hk => by simp [mget] at hk, fun k ts hk => by simp [mget] at hk⟩⟩ (fun t s nx ht hI hn => ?_) (fun s hI => ?_)
  · obtain ⟨most, es⟩ := s
    obtain ⟨v, rfl, hM, hE⟩ := hI
    simp only at hM hE ⊢
    obtain ⟨f1, f2⟩ := h.ok t ht
    unfold wall_Fewest_b20
    rw [geti_at ht, Option.bind_some]
    have htk : firm.take (t + 1) = firm.take t ++ [firm[t]] := by rw [List.take_append_getElem]
    by_cases hneg : firm[t] < 0
    · rw [decide_eq_true hneg, cond_true]
      refine hn _ ⟨v, rfl, ?_, ?_⟩
      · rw [htk]
        have hmem : ∀ a : Nat, (a : Int) ∈ firm.take t ++ [firm[t]] ↔ (a : Int) ∈ firm.take t := fun a => by
          rw [List.mem_append, List.mem_singleton]
          exact ⟨fun h => h.resolve_right (by omega), .inl⟩
        refine ⟨fun a ha hm => ?_, ?_⟩
        · rw [cc_neg _ _ _ _ hneg]; exact hM.le a ha ((hmem a).1 hm)
        · rcases hM.at_ with e | ⟨a, a1, a2, a3⟩
          · exact .inl e
          · exact .inr ⟨a, a1, (hmem a).2 a2, by rw [cc_neg _ _ _ _ hneg]; exact a3⟩
      · rw [htk]
        have hmem : ∀ a : Nat, (a : Int) ∈ firm.take t ++ [firm[t]] ↔ (a : Int) ∈ firm.take t := fun a => by
          rw [List.mem_append, List.mem_singleton]
          exact ⟨fun h => h.resolve_right (by omega), .inl⟩
        exact ⟨fun k hk b hb hm => hE.none k hk b hb ((hmem b).1 hm), fun k ts hk => by rw [cc_neg _ _ _ _ hneg]; exact hE.len k ts hk, fun k ts hk b hb hc => (hE.key k ts hk b hb hc).trans (hmem b).symm⟩
    · rw [decide_eq_false hneg, cond_false]
      obtain ⟨b0, hb0⟩ : ∃ b0 : Nat, firm[t] = (b0 : Int) := ⟨firm[t].toNat, by omega⟩
      have hbl : b0 < cls.length := by omega
      rw [hb0] at htk ⊢
      have hgc : geti cls (b0 : Int) = some (cz cls b0) := geti_d 0 hbl
      rw [hgc, Option.bind_some]
      have main : ∀ (es1 : List (Int × List (Int × Bool))) (ts : List (Int × Bool)), mget es1 (cz cls b0) = some ts → (∀ k, k ≠ cz cls b0 → mget es1 k = mget es k) → ts.length = CC cls (firm.take t) (cz cls b0) → (∀ b, b < cls.length → cz cls b = cz cls b0 → ((mget ts (b : Int)).isSome = true ↔ (b : Int) ∈ firm.take t)) →
          ∃ u : Nat, wall_Fewest_k29 cls (v : Int) nx (b0 : Int) es1 = some ((u : Int), 0) ∧ MX cls firm u := by
        intro es1 ts g1 g2 g3 g4
        unfold wall_Fewest_k29
        rw [hgc, Option.bind_some, g1, Option.bind_some, Option.bind_some, mget_put, if_pos rfl, Option.bind_some]
        have hlen : (mput ts (b0 : Int) true).length = CC cls (firm.take t ++ [(b0 : Int)]) (cz cls b0) := by
          rw [mput_len, cc_app cls _ _ b0 hbl, g3]
          have := g4 b0 hbl rfl
          by_cases hm : (b0 : Int) ∈ firm.take t
          · rw [if_pos (this.2 hm), if_neg (fun h => h.2 hm)]
          · rw [if_neg (fun h => hm (this.1 h)), if_pos ⟨rfl, hm⟩]
        have hmem : ∀ a : Nat, (a : Int) ∈ firm.take t ++ [(b0 : Int)] ↔ (a : Int) ∈ firm.take t ∨ a = b0 := fun a => by
          rw [List.mem_append, List.mem_singleton]
          exact ⟨fun h => h.imp id fun e => by omega, fun h => h.imp id fun e => by omega⟩
        have hcc : ∀ k, k ≠ cz cls b0 → CC cls (firm.take t ++ [(b0 : Int)]) k = CC cls (firm.take t) k := fun k hk => by
          rw [cc_app cls _ _ b0 hbl, if_neg (fun h => hk h.1)]
        have hmono : CC cls (firm.take t) (cz cls b0) ≤ CC cls (firm.take t ++ [(b0 : Int)]) (cz cls b0) := by
          rw [cc_app cls _ _ b0 hbl]; split <;> omega
        have hes : ES cls (firm.take (t + 1)) (mput es1 (cz cls b0) (mput ts (b0 : Int) true)) := by
          rw [htk]
          refine ⟨fun k hk b hb hm => ?_, fun k ts' hk => ?_, fun k ts' hk b hb hc => ?_⟩
          · rw [mget_put] at hk
            by_cases e : k = cz cls b0
            · rw [if_pos e] at hk; cases hk
            · rw [if_neg e, g2 k e] at hk
              rcases (hmem b).1 hm with h' | h'
              · exact hE.none k hk b hb h'
              · subst h'; exact fun e' => e e'.symm
          · rw [mget_put] at hk
            by_cases e : k = cz cls b0
            · rw [if_pos e] at hk
              cases hk
              rw [e]; exact hlen
            · rw [if_neg e, g2 k e] at hk
              rw [hcc k e]; exact hE.len k ts' hk
          · rw [mget_put] at hk
            by_cases e : k = cz cls b0
            · rw [if_pos e] at hk
              cases hk
              rw [mget_put, hmem]
              by_cases eb : b = b0
              · subst eb; simp
              · rw [if_neg (by omega), g4 b hb (hc.trans e)]
                exact ⟨.inl, fun h => h.resolve_right eb⟩
            · rw [if_neg e, g2 k e] at hk
              rw [hE.key k ts' hk b hb hc, hmem]
              refine ⟨.inl, fun h => h.resolve_right fun eb => ?_⟩
              subst eb; exact e hc.symm
        rw [hlen]
        by_cases hgt : ((CC cls (firm.take t ++ [(b0 : Int)]) (cz cls b0) : Nat) : Int) > (v : Int)
        · rw [if_pos hgt]
          refine hn _ ⟨_, rfl, ?_, hes⟩
          rw [htk]
          refine ⟨fun a ha hm => ?_, .inr ⟨b0, hbl, (hmem b0).2 (.inr rfl), rfl⟩⟩
          by_cases e : cz cls a = cz cls b0
          · rw [e]; exact Nat.le_refl _
          · rw [hcc _ e]
            have := hM.le a ha (((hmem a).1 hm).resolve_right fun e' => e (by rw [e']))
            omega
        · rw [if_neg hgt]
          refine hn _ ⟨v, rfl, ?_, hes⟩
          rw [htk]
          refine ⟨fun a ha hm => ?_, ?_⟩
          · by_cases e : cz cls a = cz cls b0
            · rw [e]; omega
            · rw [hcc _ e]
              exact hM.le a ha (((hmem a).1 hm).resolve_right fun e' => e (by rw [e']))
          · rcases hM.at_ with e | ⟨a, a1, a2, a3⟩
            · exact .inl e
            · refine .inr ⟨a, a1, (hmem a).2 (.inl a2), ?_⟩
              by_cases e : cz cls a = cz cls b0
              · rw [e] at a3 ⊢; omega
              · rw [hcc _ e]; exact a3
      cases hg : mget es (cz cls b0) with
      | none =>
        simp only [Option.isNone_none, cond_true, hgc, Option.bind_some, hg, decide_true]
        have hz : ∀ b, b < cls.length → cz cls b = cz cls b0 → (b : Int) ∉ firm.take t := fun b hb hc hm => hE.none _ hg b hb hm hc
        refine main (mput es (cz cls b0) ([] : List (Int × Bool))) [] (by rw [mget_put, if_pos rfl]) (fun k hk => by rw [mget_put, if_neg hk]) ?_ fun b hb hc => ?_
        · unfold CC
          symm
          have : ∀ n p, (∀ j, j < n → p j = false) → cntN n p = 0 := fun n p hp => by
            induction n with
            | zero => rfl
            | succ n ih => rw [cntN, hp n (by omega), cond_false]; exact ih fun j hj => hp j (by omega)
          refine this _ _ fun j hj => ?_
          by_cases hc : cz cls j = cz cls b0
          · simp [hz j hj hc]
          · simp [hc]
        · constructor
          · intro h'; simp [mget] at h'
          · intro h'; exact absurd h' (hz b hb hc)
      | some ts =>
        simp only [Option.isNone_some, cond_false]
        exact main es ts hg (fun _ _ => rfl) (hE.len _ _ hg) fun b hb hc => hE.key _ _ hg b hb hc
  · obtain ⟨v, hv, hM, _⟩ := hI
    unfold wall_Fewest_k16
    rw [List.take_length] at hM
    exact ⟨v, by rw [hv], hM⟩

theorem refFewest_ok {firm cls : List Int} (h : FO firm cls) : ∃ v : Nat, syllogistref_Fewest firm cls = some (v : Int) ∧ MX cls firm v := by
  have h2 := h.cl
  unfold syllogistref_Fewest
  refine for0_q (n := cls.length) (Q := fun o => ∃ v : Nat, o = some (v : Int) ∧ MX cls firm v) (fun t (s : Int) => ∃ v : Nat, s = v ∧ (∀ a, a < t → (a : Int) ∈ firm → CC cls firm (cz cls a) ≤ v) ∧ (v = 0 ∨ ∃ a, a < t ∧ (a : Int) ∈ firm ∧ v = CC cls firm (cz cls a))) rfl 0 ⟨0, rfl, fun a ha => by omega, .inl rfl⟩ (fun t s nx ht hI hn => ?_) (fun s hI => ?_)
  · obtain ⟨v, rfl, h3, h4⟩ := hI
    unfold syllogistref_Fewest_b10
    rw [for_cnt (n := cls.length) (fun b => decide (cz cls b = cz cls t) && decide ((b : Int) ∈ firm)) rfl (by omega) (fun j s nx' hj => by
      unfold syllogistref_Fewest_b23
      rw [show geti cls (j : Int) = some (cz cls j) from geti_d 0 hj, Option.bind_some, show geti cls (t : Int) = some (cz cls t) from geti_d 0 ht, Option.bind_some, hasZ]
      simp only [Option.isSome_some, Bool.or_true, cond_true, Option.getD_some]
      rw [show (cz cls j == cz cls t) = decide (cz cls j = cz cls t) from rfl]
      cases (decide (cz cls j = cz cls t) && decide ((j : Int) ∈ firm)) <;> rfl)]
    unfold syllogistref_Fewest_k18
    rw [hasZ]
    simp only [Option.isSome_some, Bool.or_true, cond_true, Option.getD_some]
    have hc : cntN cls.length (fun b => decide (cz cls b = cz cls t) && decide ((b : Int) ∈ firm)) = CC cls firm (cz cls t) := rfl
    rw [hc]
    by_cases hg : ((CC cls firm (cz cls t) : Nat) : Int) > (v : Int) ∧ (t : Int) ∈ firm
    · rw [decide_eq_true hg.1, decide_eq_true hg.2, Bool.and_self, cond_true]
      refine hn _ ⟨_, rfl, fun a ha hm => ?_, .inr ⟨t, by omega, hg.2, rfl⟩⟩
      by_cases e : a = t
      · subst e; exact Nat.le_refl _
      · have := h3 a (by omega) hm; omega
    · have hgf : (decide (((CC cls firm (cz cls t) : Nat) : Int) > (v : Int)) && decide ((t : Int) ∈ firm)) = false := by
        rw [← Bool.not_eq_true, Bool.and_eq_true, decide_eq_true_eq, decide_eq_true_eq]; exact hg
      rw [hgf, cond_false]
      refine hn _ ⟨v, rfl, fun a ha hm => ?_, ?_⟩
      · by_cases e : a = t
        · subst e
          apply Classical.byContradiction
          intro hlt
          exact hg ⟨by omega, hm⟩
        · exact h3 a (by omega) hm
      · rcases h4 with e | ⟨a, a1, a2, a3⟩
        · exact .inl e
        · exact .inr ⟨a, by omega, a2, a3⟩
  · obtain ⟨v, hv, h3, h4⟩ := hI
    unfold syllogistref_Fewest_k6
    exact ⟨v, by rw [hv], h3, h4⟩

theorem wallFewest_true (firm cls : List Int) : syllogistlaw_WallFewest firm cls = some true := by
  unfold syllogistlaw_WallFewest
  obtain ⟨r, e1, e2, h0⟩ := fcheck firm cls
  by_cases hr : r = 0
  · subst hr
    have h := h0 rfl
    obtain ⟨v, ev, hv⟩ := fewest_ok h e1
    obtain ⟨u, eu, hu⟩ := refFewest_ok h
    have := hv.uniq hu
    subst this
    rw [ev, Option.bind_some, e2, Option.bind_some, eu]
    simp
  · have hb : (r != 0) = true := by simpa using hr
    have : wall_Fewest firm cls = some (0, r) := by
      unfold wall_Fewest
      rw [e1, Option.bind_some, hb, cond_true]
    rw [this, Option.bind_some, e2, Option.bind_some, hb, cond_true]
    simp
end Go.Proofs.Ytcihfhfolofomaa.Sy
