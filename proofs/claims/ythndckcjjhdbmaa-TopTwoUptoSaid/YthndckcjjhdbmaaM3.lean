/- Where a page's leaf is found: the plain laws; no program in sight. -/
import Derived.Test.YthndckcjjhdbmaaM2
namespace Go.Proofs.Ythndckcjjhdbmaa.Sy
set_option linter.unusedVariables false

/-! ### Those that are kept, in order -/
def pick (n : Nat) (p : Nat → Bool) : List Int := apps n fun i => bif p i then [(i : Int)] else []
theorem pick_len {n : Nat} {p : Nat → Bool} : (pick n p).length = cntN n p := by
  induction n with
  | zero => rfl
  | succ n ih =>
    show (apps n _ ++ _).length = _
    rw [List.length_append, show (apps n fun i => bif p i then [(i : Int)] else []).length = cntN n p from ih, cntN]
    show cntN n p + (bif p n then [(n : Int)] else []).length = _
    cases p n <;> rfl
theorem cnt_step {p : Nat → Bool} : ∀ {n j : Nat}, j < n → p j = true → cntN j p < cntN n p
  | n + 1, j, hj, hp => by
    rw [cntN]
    by_cases e : j = n
    · subst e; rw [hp, cond_true]; omega
    · have := cnt_step (n := n) (by omega) hp
      cases p n
      · exact this
      · rw [cond_true]; omega
theorem pick_get {p : Nat → Bool} : ∀ {n y : Nat} {c : Int}, (pick n p)[y]? = some c ↔ ∃ j, j < n ∧ c = (j : Int) ∧ p j = true ∧ cntN j p = y
  | 0, y, c => by
    constructor
    · intro h; cases h
    · rintro ⟨j, hj, _⟩; omega
  | n + 1, y, c => by
    have hl := pick_len (n := n) (p := p)
    have e : pick (n + 1) p = pick n p ++ (bif p n then [(n : Int)] else []) := rfl
    rw [e]
    by_cases hy : y < cntN n p
    · rw [List.getElem?_append_left (by omega), pick_get]
      constructor
      · rintro ⟨j, h1, h2⟩; exact ⟨j, by omega, h2⟩
      · rintro ⟨j, h1, h2, h3, h4⟩
        refine ⟨j, ?_, h2, h3, h4⟩
        by_cases e : j = n
        · subst e; omega
        · omega
    · rw [List.getElem?_append_right (by omega), hl]
      constructor
      · intro h
        cases hp : p n with
        | false => rw [hp] at h; simp at h
        | true =>
          rw [hp, cond_true] at h
          by_cases e0 : y - cntN n p = 0
          · rw [e0] at h
            refine ⟨n, by omega, ?_, hp, by omega⟩
            simpa using h.symm
          · rw [List.getElem?_eq_none (by simp only [List.length_cons, List.length_nil]; omega)] at h; cases h
      · rintro ⟨j, h1, h2, h3, h4⟩
        by_cases e : j = n
        · subst e
          rw [h3, h4, Nat.sub_self, h2]; rfl
        · have := cnt_step (n := n) (by omega) h3
          omega

/-! ### Ways down -/
def sib (l : List Leaf) (who : Label) (u : Int) (i : Nat) : Bool := ((lf l i).up == u) && so l who i
def Kid (l : List Leaf) (who : Label) (u y c : Int) : Prop := ∃ j, j < l.length ∧ c = (j : Int) ∧ sib l who u j = true ∧ y = (cntN j (sib l who u) : Int)
def Way (l : List Leaf) (who : Label) : Int → List Int → Int → Prop
  | u, [], k => u = k
  | u, y :: p, k => ∃ c, Kid l who u y c ∧ Way l who c p k
theorem way_snoc {l : List Leaf} {who : Label} {y : Int} : ∀ {p : List Int} {u k : Int}, Way l who u (p ++ [y]) k ↔ ∃ c, Way l who u p c ∧ Kid l who c y k
  | [], u, k => by
    show (∃ c, Kid l who u y c ∧ c = k) ↔ ∃ c, u = c ∧ Kid l who c y k
    constructor
    · rintro ⟨c, h, rfl⟩; exact ⟨u, rfl, h⟩
    · rintro ⟨c, rfl, h⟩; exact ⟨k, h, rfl⟩
  | z :: p, u, k => by
    show (∃ c, Kid l who u z c ∧ Way l who c (p ++ [y]) k) ↔ ∃ c, (∃ d, Kid l who u z d ∧ Way l who d p c) ∧ Kid l who c y k
    constructor
    · rintro ⟨c, h, hw⟩
      obtain ⟨d, h1, h2⟩ := way_snoc.1 hw
      exact ⟨d, ⟨c, h, h1⟩, h2⟩
    · rintro ⟨d, ⟨c, h, h1⟩, h2⟩
      exact ⟨c, h, way_snoc.2 ⟨d, h1, h2⟩⟩
theorem way_kid {l : List Leaf} {who : Label} {p : List Int} {u k : Int} (hp : p ≠ []) (h : Way l who u p k) : ∃ j, j < l.length ∧ k = (j : Int) ∧ so l who j = true := by
  obtain ⟨q, y, rfl⟩ : ∃ q y, p = q ++ [y] := ⟨p.dropLast, p.getLast hp, (List.dropLast_concat_getLast hp).symm⟩
  obtain ⟨c, _, j, hj, e, hs, _⟩ := way_snoc.1 h
  unfold sib at hs
  rw [Bool.and_eq_true] at hs
  exact ⟨j, hj, e, hs.2⟩

theorem pathOf_eq {l : List Leaf} (h : POk l) (who : Label) : ∀ (m k : Nat), k < m → k < l.length → ∀ fuel, k + 2 ≤ fuel → ∃ q, syllogistref_PathOf fuel l who (k : Int) = some q ∧ q.length ≤ k + 1 ∧ (so l who k = true → ∀ path, Way l who (-1) path k ↔ q = path) := by
  have h40 := h.len
  intro m
  induction m with
  | zero => intro k hk; omega
  | succ m ih =>
    intro k hkm hk fuel hf
    obtain ⟨fuel, rfl⟩ : ∃ f, fuel = f + 1 := ⟨fuel - 1, by omega⟩
    show ∃ q, syllogistref_PathOf_s (syllogistref_PathOf fuel) l who (k : Int) = some q ∧ _
    unfold syllogistref_PathOf_s
    rw [decide_eq_false (by omega), cond_false, decide_eq_true (by omega), cond_true]
    have hd : geti l (k : Int) = some (lf l k) := geti_d _ hk
    rw [for_cnt (n := k) (sib l who (lf l k).up) rfl (by omega) (fun i s nx hi => by
      unfold syllogistref_PathOf_b562
      rw [show geti l (i : Int) = some (lf l i) from geti_d _ (by omega), Option.bind_some, hd, Option.bind_some]
      have hb : syllogistref_Below (lf l i).label { level := who.level, parts := who.parts } = some (so l who i) := below_eq _ _
      rw [hb]
      simp only [Option.isSome_some, Bool.or_true, cond_true, Option.getD_some]
      rw [cond_nx]
      rfl)]
    unfold syllogistref_PathOf_k8
    rw [hd, Option.bind_some]
    obtain ⟨u1, u2⟩ := h.up0 k hk
    rw [← show lf l k = l[k] from getd_at _ hk] at u1 u2
    -- the way to the one above
    have hup : ∃ q, syllogistref_PathOf fuel l who (lf l k).up = some q ∧ q.length ≤ k ∧ (so l who k = true → ∀ path, Way l who (-1) path (lf l k).up ↔ q = path) := by
      by_cases hu : (lf l k).up = -1
      · obtain ⟨f', rfl⟩ : ∃ f, fuel = f + 1 := ⟨fuel - 1, by omega⟩
        refine ⟨[], ?_, by simp, fun hs path => ?_⟩
        · show syllogistref_PathOf_s (syllogistref_PathOf f') l who (lf l k).up = _
          unfold syllogistref_PathOf_s
          rw [decide_eq_true (by omega), cond_true]
        · rw [hu]
          constructor
          · intro hw
            by_cases hp : path = []
            · exact hp.symm
            · obtain ⟨j, _, e, _⟩ := way_kid hp hw
              omega
          · rintro rfl; exact rfl
      · obtain ⟨j, hj⟩ : ∃ j : Nat, (lf l k).up = j := ⟨(lf l k).up.toNat, by omega⟩
        obtain ⟨q, e1, e2, e3⟩ := ih j (by omega) (by omega) fuel (by omega)
        rw [hj]
        exact ⟨q, e1, by omega, fun hs => e3 (so_up h hk hj hs).1⟩
    obtain ⟨q, e1, e2, e3⟩ := hup
    have e1' : syllogistref_PathOf fuel l { level := who.level, parts := who.parts } (lf l k).up = some q := e1
    have hck := cntN_le (n := k) (p := sib l who (lf l k).up)
    rw [e1', Option.bind_some, decide_eq_true (by simp only [List.length_cons, List.length_nil]; omega), cond_true]
    refine ⟨_, rfl, by simp; omega, fun hs path => ?_⟩
    by_cases hp : path = []
    · subst hp
      constructor
      · intro hw; exact absurd (show (-1 : Int) = k from hw) (by omega)
      · intro hw; simp at hw
    · obtain ⟨r, y, rfl⟩ : ∃ r y, path = r ++ [y] := ⟨path.dropLast, path.getLast hp, (List.dropLast_concat_getLast hp).symm⟩
      rw [way_snoc]
      constructor
      · rintro ⟨c, hw, j, hj, ej, hsib, ey⟩
        have ejk : j = k := by omega
        subst ejk
        have hc : (lf l j).up = c := by
          unfold sib at hsib
          rw [Bool.and_eq_true, beq_iff_eq] at hsib
          exact hsib.1
        subst hc
        rw [(e3 hs r).1 hw, ey]
      · intro hq
        obtain ⟨h1, h2⟩ := List.append_inj' hq rfl
        refine ⟨(lf l k).up, (e3 hs r).2 h1, k, hk, rfl, ?_, ?_⟩
        · unfold sib; rw [hs]; simp
        · simpa using h2.symm

theorem belowl_eq {l : List Leaf} (h : POk l) (who : Label) (u : Int) : place_Below l who u = some (pick l.length (sib l who u)) := by
  have h40 := h.len
  unfold place_Below
  refine (for_apps (n := l.length) (fun i => bif sib l who u i then [(i : Int)] else []) rfl (fun i s nx hi hs => ?_)).trans rfl
  unfold place_Below_b16
  have hd : geti l (i : Int) = some (lf l i) := geti_d _ hi
  have hb : label_Least { level := (lf l i).label.level, parts := (lf l i).label.parts } { level := who.level, parts := who.parts } = some (so l who i) := least_eq _ _
  have hlen : s.length = cntN i (sib l who u) := by subst hs; exact pick_len
  have hc := cntN_le (n := i) (p := sib l who u)
  rw [hd, Option.bind_some, hb]
  simp only [Option.isSome_some, Bool.or_true, cond_true, Option.getD_some]
  rw [decide_eq_true (by simp only [List.length_cons, List.length_nil]; omega), cond_true]
  unfold sib
  cases ((lf l i).up == u && so l who i) with
  | true => rfl
  | false => rw [cond_false, cond_false, List.append_nil]

def GoQ (l : List Leaf) (who : Label) (path : List Int) (r : Int × Bool) : Prop :=
  (r.2 = true ∧ ∀ k, Way l who (-1) path k ↔ r.1 = k) ∨ (r = (0, false) ∧ ∀ k, ¬Way l who (-1) path k)
theorem go_eq {l : List Leaf} (h : POk l) (who : Label) (path : List Int) : ∃ r, place_Go l who path = some r ∧ GoQ l who path r := by
  unfold place_Go
  refine for0_q (Q := fun o => ∃ r, o = some r ∧ GoQ l who path r) (fun t a => ∀ k, Way l who (-1) path k ↔ Way l who a (path.drop t) k) rfl (-1) (fun k => Iff.rfl) (fun t a nx ht hI hnx => ?_) (fun a hI => ?_)
  · unfold place_Go_b12
    have hb : place_Below l { level := who.level, parts := who.parts } a = _ := belowl_eq h who a
    rw [geti_at ht, Option.bind_some, hb, Option.bind_some]
    have hdrop : path.drop t = path[t] :: path.drop (t + 1) := List.drop_eq_getElem_cons ht
    have hW : ∀ k, Way l who (-1) path k ↔ ∃ c, Kid l who a path[t] c ∧ Way l who c (path.drop (t + 1)) k := fun k => by
      rw [hI k, hdrop]; exact Iff.rfl
    have hkid : ∀ c, Kid l who a path[t] c → 0 ≤ path[t] ∧ (pick l.length (sib l who a))[path[t].toNat]? = some c := fun c hc => by
      obtain ⟨j, h1, h2, h3, h4⟩ := hc
      refine ⟨by omega, pick_get.2 ⟨j, h1, h2, h3, by omega⟩⟩
    by_cases hr : path[t] < 0 ∨ path[t] ≥ ((pick l.length (sib l who a)).length : Int)
    · have : ((decide (path[t] < (0 : Int))) || (decide (path[t] ≥ ((pick l.length (sib l who a)).length : Int)))) = true := by
        rw [Bool.or_eq_true, decide_eq_true_eq, decide_eq_true_eq]; exact hr
      rw [this, cond_true]
      refine ⟨_, rfl, .inr ⟨rfl, fun k hw => ?_⟩⟩
      obtain ⟨c, hc, _⟩ := (hW k).1 hw
      obtain ⟨h1, h2⟩ := hkid c hc
      rw [List.getElem?_eq_none (by omega)] at h2; cases h2
    · have : ((decide (path[t] < (0 : Int))) || (decide (path[t] ≥ ((pick l.length (sib l who a)).length : Int)))) = false := by
        rw [Bool.or_eq_false_iff, decide_eq_false_iff_not, decide_eq_false_iff_not]; exact ⟨fun h => hr (.inl h), fun h => hr (.inr h)⟩
      have hlt : path[t].toNat < (pick l.length (sib l who a)).length := by omega
      have hg : geti (pick l.length (sib l who a)) path[t] = some ((pick l.length (sib l who a))[path[t].toNat]) := by
        have := geti_at hlt
        rwa [show ((path[t].toNat : Nat) : Int) = path[t] by omega] at this
      rw [this, cond_false, hg, Option.bind_some]
      refine hnx _ fun k => ?_
      rw [hW k]
      constructor
      · rintro ⟨c, hc, hw⟩
        have := (hkid c hc).2
        rw [List.getElem?_eq_getElem hlt] at this
        rw [Option.some.inj this]; exact hw
      · intro hw
        refine ⟨_, ?_, hw⟩
        obtain ⟨j, h1, h2, h3, h4⟩ := pick_get.1 (List.getElem?_eq_getElem hlt)
        exact ⟨j, h1, h2, h3, by omega⟩
  · refine ⟨_, rfl, .inl ⟨rfl, fun k => ?_⟩⟩
    rw [hI k, List.drop_of_length_le (Nat.le_refl _)]
    exact Iff.rfl

theorem ints_eq (a b : List Int) : syllogistref_Ints a b = some (decide (a = b)) := lists_eq a b
theorem found_eq {l : List Leaf} (h : POk l) (who : Label) (path : List Int) (fuel : Nat) (hf : 100 < fuel) :
    (∃ j, j < l.length ∧ so l who j = true ∧ Way l who (-1) path (j : Int) ∧ syllogistref_Found fuel l who path = some (j : Int)) ∨ ((∀ j, j < l.length → so l who j = true → ¬Way l who (-1) path (j : Int)) ∧ syllogistref_Found fuel l who path = some (-1)) := by
  have h40 := h.len
  unfold syllogistref_Found
  rcases for_find (R := Int) (σ := Unit) (body := fun i s nx_ => syllogistref_Found_b9 l who path fuel i nx_) (k := fun _ => syllogistref_Found_k5) (fun _ => ()) (fun j => so l who j && tru (Way l who (-1) path (j : Int))) (fun j => some (j : Int)) (b := (l.length : Int)) (n := l.length) rfl (s := ()) rfl (fun j nx hj => by
    unfold syllogistref_Found_b9
    have hd : geti l (j : Int) = some (lf l j) := geti_d _ hj
    have hb : syllogistref_Below (lf l j).label { level := who.level, parts := who.parts } = some (so l who j) := below_eq _ _
    rw [hd, Option.bind_some, hb, Option.bind_some]
    cases hs : so l who j with
    | false => simp
    | true =>
      obtain ⟨q, e1, _, e3⟩ := pathOf_eq h who (j + 1) j (by omega) hj fuel (by omega)
      have e1' : syllogistref_PathOf fuel l { level := who.level, parts := who.parts } (j : Int) = some q := e1
      simp only [beq_self_eq_true, cond_true, Bool.true_and]
      rw [e1', Option.bind_some, ints_eq, Option.bind_some, tru_congr (e3 hs path), tru_dec]) with ⟨j, hj, he, _, hr⟩ | ⟨hn, hr⟩
  · rw [Bool.and_eq_true, tru_iff] at he
    exact .inl ⟨j, hj, he.1, he.2, hr⟩
  · refine .inr ⟨fun j hj hs hw => ?_, hr⟩
    have := hn j hj
    rw [hs, tru_iff.2 hw] at this; cases this

theorem placeFinds_true (fuel : Nat) (l : List Leaf) (who : Label) (path : List Int) (hf : 100 < fuel := by decide) : syllogistlaw_PlaceFinds fuel l who path = some true := by
  unfold syllogistlaw_PlaceFinds
  obtain ⟨r, e1, e2, h⟩ := pcheck l
  have hpc : syllogistlaw_pageCode l { level := who.level, parts := who.parts } = _ := pcode_eq who e2
  rw [hpc]
  have hwr : place_wrong l { level := who.level, parts := who.parts } = some (if r = 0 then lcode who else r) := by
    unfold place_wrong
    rw [e1, Option.bind_some]
    by_cases hr : r = 0
    · subst hr
      have : label_Check { level := who.level, parts := who.parts } = some (lcode who) := lcheck_eq who
      rw [if_pos rfl]
      simp only [bne_self_eq_false, cond_false]
      rw [this, Option.bind_some]
    · have : (r != 0) = true := by simpa using hr
      rw [if_neg hr, this, cond_true]
  unfold place_Find
  have hwr' : place_wrong l { level := ({ level := who.level, parts := who.parts } : Label).level, parts := ({ level := who.level, parts := who.parts } : Label).parts } = _ := hwr
  rw [hwr']
  by_cases hc : (if r = 0 then lcode who else r) = 0
  · have hr : r = 0 := by
      by_cases hr : r = 0
      · exact hr
      · rw [if_neg hr] at hc; exact absurd hc hr
    rw [hc]
    have hP := h hr
    obtain ⟨g, eg, hg⟩ := go_eq hP who path
    have eg' : place_Go l { level := ({ level := who.level, parts := who.parts } : Label).level, parts := ({ level := who.level, parts := who.parts } : Label).parts } path = _ := eg
    simp only [Option.bind_some, bne_self_eq_false, cond_false, beq_self_eq_true, Bool.true_and, Bool.not_true, Bool.false_or]
    rw [eg, Option.bind_some]
    by_cases hp : path = []
    · subst hp
      have hF : syllogistref_Found fuel l who [] = some (-1) := by
        rcases found_eq hP who [] fuel hf with ⟨j, _, _, hw, _⟩ | ⟨_, hr⟩
        · exact absurd (show (-1 : Int) = j from hw) (by omega)
        · exact hr
      have hF' : syllogistref_Found fuel l { level := who.level, parts := who.parts } [] = _ := hF
      rw [hF']
      simp [syllogistlaw_PlaceFinds_k9]
    · have hpl : ((path.length : Int) == (0 : Int)) = false := by
        have := List.length_pos_iff.2 hp
        rw [beq_eq_false_iff_ne]; omega
      rw [hpl, Bool.or_false]
      rcases hg with ⟨g2, gw⟩ | ⟨rfl, gno⟩
      · obtain ⟨j, hj, ej, sj⟩ := way_kid hp ((gw _).2 rfl)
        have hF : syllogistref_Found fuel l who path = some g.1 := by
          rcases found_eq hP who path fuel hf with ⟨j', _, _, hw, hr⟩ | ⟨hno, _⟩
          · rw [hr, (gw _).1 hw]
          · exact absurd ((gw _).2 ej) (hno j hj sj)
        have hF' : syllogistref_Found fuel l { level := who.level, parts := who.parts } path = _ := hF
        rw [g2, hF']
        unfold syllogistlaw_PlaceFinds_k9
        rw [hF']
        have hlt : decide (g.1 < 0) = false := decide_eq_false (by omega)
        simp [hlt]
      · have hF : syllogistref_Found fuel l who path = some (-1) := by
          rcases found_eq hP who path fuel hf with ⟨j', _, _, hw, hr⟩ | ⟨_, hr⟩
          · exact absurd hw (gno _)
          · exact hr
        have hF' : syllogistref_Found fuel l { level := who.level, parts := who.parts } path = _ := hF
        rw [hF']
        simp [syllogistlaw_PlaceFinds_k9]
  · have hb : ((if r = 0 then lcode who else r) != 0) = true := by simpa using hc
    have hb' : ((if r = 0 then lcode who else r) == 0) = false := by simpa using hc
    simp only [Option.bind_some, hb, hb', cond_true, Bool.false_and, cond_false]
    unfold syllogistlaw_PlaceFinds_k9
    simp [hb]
end Go.Proofs.Ythndckcjjhdbmaa.Sy
