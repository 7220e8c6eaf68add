/- All concepts, sorted: the plain law; no program in sight. -/
import Derived.Test.YtefaglkgpaloeaaM2b
import Derived.Test.YtefaglkgpaloeaaSyR
namespace Go.Proofs.Ytefaglkgpaloeaa.Sy
set_option linter.unusedVariables false

theorem nodup_len' {α : Type} [DecidableEq α] : ∀ {l t : List α}, l.Nodup → (∀ x ∈ l, x ∈ t) → l.length ≤ t.length
  | [], t, _, _ => by simp
  | a :: l, t, hd, hs => by
    rw [List.nodup_cons] at hd
    have ha : a ∈ t := hs a (by simp)
    have := nodup_len' (t := t.erase a) hd.2 fun x hx => by
      have hne : x ≠ a := fun e => hd.1 (e ▸ hx)
      exact (List.mem_erase_of_ne hne).2 (hs x (by simp [hx]))
    rw [List.length_erase_of_mem ha] at this
    have hp := List.length_pos_of_mem ha
    simp; omega

/-- Two rising lists with the same words are one. -/
theorem asc_eq : ∀ {a b : List (BitVec 32)}, a.Pairwise (fun x y => x.toNat < y.toNat) → b.Pairwise (fun x y => x.toNat < y.toNat) → (∀ x, x ∈ a ↔ x ∈ b) → a = b
  | [], [], _, _, _ => rfl
  | [], y :: b, _, _, h => by have := (h y).2 (by simp); simp at this
  | x :: a, [], _, _, h => by have := (h x).1 (by simp); simp at this
  | x :: a, y :: b, ha, hb, h => by
    rw [List.pairwise_cons] at ha hb
    have hxy : x = y := by
      rcases List.mem_cons.1 ((h x).1 (by simp)) with e | e
      · exact e
      · rcases List.mem_cons.1 ((h y).2 (by simp)) with e' | e'
        · exact e'.symm
        · have := hb.1 x e
          have := ha.1 y e'
          omega
    subst hxy
    congr 1
    refine asc_eq ha.2 hb.2 fun z => ?_
    constructor
    · intro hz
      rcases List.mem_cons.1 ((h z).1 (List.mem_cons_of_mem _ hz)) with e | e
      · subst e; have := ha.1 z hz; omega
      · exact e
    · intro hz
      rcases List.mem_cons.1 ((h z).2 (List.mem_cons_of_mem _ hz)) with e | e
      · subst e; have := hb.1 z hz; omega
      · exact e

theorem apps_asc (p : Nat → Bool) : ∀ t, t ≤ 64 → (apps t (fun j => if p j then [BitVec.ofNat 32 j] else [])).Pairwise (fun x y => x.toNat < y.toNat) ∧ ∀ x ∈ apps t (fun j => if p j then [BitVec.ofNat 32 j] else []), x.toNat < t
  | 0, _ => ⟨by simp [apps], fun x hx => by simp [apps] at hx⟩
  | t + 1, ht => by
    obtain ⟨h1, h2⟩ := apps_asc p t (by omega)
    rw [apps]
    have hw : (BitVec.ofNat 32 t).toNat = t := by rw [BitVec.toNat_ofNat]; exact Nat.mod_eq_of_lt (by omega)
    refine ⟨?_, ?_⟩
    · rw [List.pairwise_append]
      refine ⟨h1, by split <;> simp, fun x hx y hy => ?_⟩
      split at hy
      · simp at hy
        have := h2 x hx
        rw [hy, hw]; exact this
      · simp at hy
    · intro x hx
      rcases List.mem_append.1 hx with hx | hx
      · have := h2 x hx; omega
      · split at hx
        · simp at hx; rw [hx, hw]; omega
        · simp at hx

theorem concepts_asc {k : Nat} (hk : k ≤ 6) (rows : List (BitVec 32)) (hr : rows.length ≤ 8) : ∃ l, syllogistref_Concepts k rows = some l ∧ l.length ≤ 64 ∧ (∀ c, c ∈ l ↔ CL k rows c c) ∧ l.Pairwise (fun x y => x.toNat < y.toNat) := by
  have h64 : 2 ^ k ≤ 2 ^ 6 := Nat.pow_le_pow_right (by omega) hk
  have hB : (1#32 <<< ((BitVec.ofInt 64 (k : Int))).toNat).toNat = 2 ^ k := by rw [ofInt64 (by omega), one_shl_toNat (by omega)]
  have hmem : ∀ c : BitVec 32, c ∈ apps (2 ^ k) (fun j => if tru (CL k rows (BitVec.ofNat 32 j) (BitVec.ofNat 32 j)) then [BitVec.ofNat 32 j] else []) ↔ CL k rows c c := by
    intro c
    rw [apps_mem]
    constructor
    · rintro ⟨j, hj, h⟩
      split at h
      · rename_i ht
        simp at h
        subst h
        exact tru_iff.1 ht
      · simp at h
    · intro h
      have hb := bel_toNat.1 h.bel
      refine ⟨c.toNat, hb, ?_⟩
      have : BitVec.ofNat 32 c.toNat = c := by simp
      rw [this, if_pos (tru_iff.2 h)]; simp
  have hlen : ∀ t, t ≤ 2 ^ k → (apps t (fun j => if tru (CL k rows (BitVec.ofNat 32 j) (BitVec.ofNat 32 j)) then [BitVec.ofNat 32 j] else [])).length ≤ t := fun t _ => by
    have := apps_len (n := t) (c := 1) (f := fun j => if tru (CL k rows (BitVec.ofNat 32 j) (BitVec.ofNat 32 j)) then [BitVec.ofNat 32 j] else []) fun j _ => by split <;> simp
    omega
  refine ⟨_, ?_, ?_, hmem, (apps_asc (fun j => tru (CL k rows (BitVec.ofNat 32 j) (BitVec.ofNat 32 j))) (2 ^ k) (by omega)).1⟩
  · unfold syllogistref_Concepts
    refine (forU_apps (fun j => if tru (CL k rows (BitVec.ofNat 32 j) (BitVec.ofNat 32 j)) then [BitVec.ofNat 32 j] else []) (fun c s nx hc hs => ?_)).trans (by rw [hB]; rfl)
    rw [hB] at hc
    unfold syllogistref_Concepts_b13
    obtain ⟨o, d, e1, e2, hC⟩ := rcl_eq hk rows hr c
    have hcc : BitVec.ofNat 32 c.toNat = c := by simp
    rw [e1, Option.bind_some, e2, Option.bind_some, hcc]
    by_cases h : d = c
    · subst h
      have hl := hlen d.toNat (by omega)
      rw [beq_self_eq_true, cond_true, if_pos (tru_iff.2 hC), decide_eq_true (by rw [hs]; simp only [List.length_cons, List.length_nil]; omega), cond_true]
    · have : ¬CL k rows c c := fun hx => h (hC.uniq hx)
      rw [show (d == c) = false by simpa using h, cond_false, if_neg (by rw [tru_iff]; exact this), List.append_nil]
  · have := hlen (2 ^ k) (Nat.le_refl _); omega

/-- What the loop holds. -/
structure AI (k : Nat) (rows : List (BitVec 32)) (l : List Concept) (P : BitVec 32 → Prop) : Prop where
  mem : ∀ c, c ∈ l.map Concept.marks ↔ CL k rows c c ∧ P c
  nd : (l.map Concept.marks).Nodup
  dn : ∀ x ∈ l, DnP rows x.marks x.objects

theorem AI.add {k : Nat} {rows : List (BitVec 32)} {l : List Concept} {P Q : BitVec 32 → Prop} (h : AI k rows l P) {o c : BitVec 32} (hc : CL k rows c c) (hn : ¬P c) (hd : DnP rows c o) (hQ : ∀ d, CL k rows d d → (Q d ↔ P d ∨ d = c)) : AI k rows (l ++ [({ objects := o, marks := c } : Concept)]) Q := by
  refine ⟨fun d => ?_, ?_, fun x hx => ?_⟩
  · rw [List.map_append, List.mem_append, h.mem]
    simp only [List.map_cons, List.map_nil, List.mem_singleton]
    constructor
    · rintro (⟨h1, h2⟩ | rfl)
      · exact ⟨h1, (hQ d h1).2 (.inl h2)⟩
      · exact ⟨hc, (hQ d hc).2 (.inr rfl)⟩
    · rintro ⟨h1, h2⟩
      rcases (hQ d h1).1 h2 with e | e
      · exact .inl ⟨h1, e⟩
      · exact .inr e
  · rw [List.map_append, List.nodup_append]
    refine ⟨h.nd, by simp, fun a ha b hb e => ?_⟩
    simp only [List.map_cons, List.map_nil, List.mem_singleton] at hb
    subst hb; subst e
    exact hn ((h.mem a).1 ha).2
  · rcases List.mem_append.1 hx with hx | hx
    · exact h.dn x hx
    · have : x = ({ objects := o, marks := c } : Concept) := by simpa using hx
      subst this; exact hd

theorem all_ok {k : Nat} (hk : k ≤ 6) (rows : List (BitVec 32)) (hr : rows.length ≤ 8) (hck : concept_wrong (k : Int) rows 0#32 [] = some 0) (fuel : Nat) (hf : 100 < fuel) : ∃ l, concept_All fuel k rows = some (l, 0) ∧ AI k rows l (fun _ => True) ∧ l.Pairwise fun a b => a.marks.toNat ≤ b.marks.toNat := by
  obtain ⟨lr, _, hlr, hmr, _⟩ := concepts_asc hk rows hr
  have hlen : ∀ {l : List Concept} {P : BitVec 32 → Prop}, AI k rows l P → l.length ≤ 64 := fun {l P} h => by
    have := nodup_len' h.nd fun x hx => (hmr x).2 ((h.mem x).1 hx).1
    rw [List.length_map] at this; omega
  unfold concept_All
  rw [hck, Option.bind_some]
  simp only [bne_self_eq_false, cond_false]
  obtain ⟨o0, c0, e1, e2, hC0⟩ := cl_eq hk rows hr 0#32
  rw [e1, Option.bind_some, e2, Option.bind_some]
  have hb0 : bel k 0#32 := fun j hj => by simp at hj
  have hc0 := hC0.idem hb0
  refine whileK_q (Q := fun o => ∃ l, o = some (l, 0) ∧ AI k rows l (fun _ => True) ∧ l.Pairwise fun a b => a.marks.toNat ≤ b.marks.toNat)
    (fun (s : BitVec 32 × Bool × List Concept) => (s.2.1 = true ∧ CL k rows s.1 s.1 ∧ AI k rows s.2.2 (fun d => Bh s.1 d)) ∨ (s.2.1 = false ∧ AI k rows s.2.2 (fun _ => True)))
    (fun s => 65 - s.2.2.length) (fun s nx hI hn => ?_) fuel _ (.inl ⟨rfl, hc0, ⟨fun c => ?_, by simp, by simp⟩⟩) (by simp only [List.length_nil]; omega)
  · obtain ⟨marks, ok, l⟩ := s
    simp only at hI hn ⊢
    unfold concept_All_b22
    rcases hI with ⟨rfl, hcm, hA⟩ | ⟨rfl, hA⟩
    · rw [cond_true]
      have hl := hlen hA
      obtain ⟨o, c', d1, d2, _⟩ := cl_eq hk rows hr marks
      obtain ⟨o', d1', hD⟩ := down_eq rows hr marks
      rw [d1] at d1'
      cases d1'
      rw [d1, Option.bind_some, decide_eq_true (by simp only [List.length_cons, List.length_nil]; omega), cond_true]
      rcases next_eq hk rows hr marks hcm.bel fuel (by omega) with ⟨i, c, hi, en, hN, hno⟩ | ⟨en, hno⟩
      · rw [en, Option.bind_some]
        obtain ⟨n1, n2, n3⟩ := Nx.least hk hr hcm.bel hi hN hno
        refine hn _ (.inl ⟨rfl, n1, hA.add hcm Bh.irr hD fun d hd => ?_⟩) (by simp only [List.length_append, List.length_cons, List.length_nil]; omega)
        constructor
        · intro h
          rcases Bh.total d marks with e | e | e
          · exact .inr e
          · rcases n3 d hd e with e' | e'
            · subst e'; exact absurd h Bh.irr
            · exact absurd (h.trans e') Bh.irr
          · exact .inl e
        · rintro (h | rfl)
          · exact n2.trans h
          · exact n2
      · rw [en, Option.bind_some]
        refine hn _ (.inr ⟨rfl, hA.add hcm Bh.irr hD fun d hd => ⟨fun _ => ?_, fun _ => trivial⟩⟩) (by simp only [List.length_append, List.length_cons, List.length_nil]; omega)
        rcases Bh.total d marks with e | ⟨m, g1, g2, g3⟩ | e
        · exact .inr e
        · obtain ⟨o2, c2, f1, f2, hC2⟩ := cl_eq hk rows hr ((marks &&& full m) ||| (1#32 <<< m))
          exact absurd (Nx.of hk hd g1 g2 g3 hC2 hcm.bel).1 (hno m c2 (hd.bel m g1))
        · exact .inl e
    · rw [cond_false]
      unfold concept_All_k18 slices_SortFunc_SapiConceptapiConcept_f29
      have hl := hlen hA
      have hpos : 0 < l.length := by
        have := (hA.mem c0).2 ⟨hc0, trivial⟩
        have := List.length_pos_of_mem this
        rwa [List.length_map] at this
      rw [decide_eq_true ⟨hpos, by omega⟩, cond_true, Option.bind_some]
      obtain ⟨hp, hsrt⟩ := sortC_all l
      have hpm := hp.map Concept.marks
      exact ⟨_, rfl, ⟨fun c => (hpm.mem_iff).trans (hA.mem c), hpm.nodup_iff.2 hA.nd, fun x hx => hA.dn x (hp.mem_iff.1 hx)⟩, hsrt⟩
  · constructor
    · intro h; simp at h
    · rintro ⟨h1, h2⟩
      obtain ⟨i, g1, g2, _⟩ := h2
      have := hC0.min h1 (sb_zero _) i g1
      rw [g2] at this; cases this

theorem conceptAlls_true (fuel : Nat) (n : Int) (rows : List (BitVec 32)) (hf : 100 < fuel := by decide) : syllogistlaw_ConceptAlls fuel n rows = some true := by
  unfold syllogistlaw_ConceptAlls
  have hw := wrong_eq n rows 0#32 [] 0#32 (by simp) none_hm
  by_cases hc : tcode n rows 0#32 0#32 = 0
  · obtain ⟨k, rfl, h1, hk, hr, hrin, _, _⟩ := tcode_ok hc
    rw [hc] at hw
    obtain ⟨l, el, hA, hS⟩ := all_ok hk rows hr hw fuel hf
    obtain ⟨lr, er, hlr, hmr, hpr⟩ := concepts_asc hk rows hr
    rw [el, Option.bind_some, tcheck_eq, Option.bind_some, hc]
    simp only [bne_self_eq_false, cond_false]
    rw [er, Option.bind_some]
    have hsame : l.map Concept.marks = lr := by
      refine asc_eq ?_ hpr fun x => (hA.mem x).trans ⟨fun h => (hmr x).2 h.1, fun h => ⟨(hmr x).1 h, trivial⟩⟩
      have h2 : (l.map Concept.marks).Pairwise fun a b => a.toNat ≤ b.toNat := List.pairwise_map.2 hS
      have h3 := hA.nd
      refine (h2.and h3).imp fun {a b} ⟨p, q⟩ => ?_
      have : a.toNat ≠ b.toNat := fun e => q (BitVec.eq_of_toNat_eq e)
      omega
    have hll : l.length = lr.length := by rw [← hsame, List.length_map]
    have hne : ((l.length : Int) != (lr.length : Int)) = false := by rw [hll]; simp
    rw [hne, cond_false]
    refine for0_q (n := l.length) (Q := fun o => o = some true) (fun _ _ => True) rfl () trivial (fun t _ nx ht _ hn => ?_) (fun _ _ => rfl)
    unfold syllogistlaw_ConceptAlls_b17
    simp only
    have htr : t < lr.length := by omega
    rw [geti_at ht, Option.bind_some, geti_at htr, Option.bind_some]
    have em : l[t].marks = lr[t] := by
      have : (l.map Concept.marks)[t]'(by rw [List.length_map]; exact ht) = lr[t] := by simp only [hsame]
      rwa [List.getElem_map] at this
    obtain ⟨o, eo, hD⟩ := owners_eq rows hr lr[t]
    have ho : l[t].objects = o := (hA.dn l[t] (List.getElem_mem ht)).uniq (em ▸ hD)
    rw [eo]
    simp only [Option.isSome_some, Bool.or_true, cond_true, Option.getD_some, em, ho, bne_self_eq_false, Bool.or_self, cond_false]
    exact hn _ trivial
  · have hcb : (tcode n rows 0#32 0#32 != 0) = true := by simpa using hc
    have : concept_All fuel n rows = some ([], tcode n rows 0#32 0#32) := by
      unfold concept_All
      rw [hw, Option.bind_some, hcb, cond_true]
    rw [this, Option.bind_some, tcheck_eq, Option.bind_some, hcb, cond_true]
    simp
end Go.Proofs.Ytefaglkgpaloeaa.Sy
