/- Lines that are clean: the plain law; no program in sight. -/
import Derived.Test.YtcihfhfolofomaaMf
namespace Go.Proofs.Ytcihfhfolofomaa.Sy
set_option linter.unusedVariables false

/-! ### Labels -/
def zL : Label := { level := 0, parts := 0#32 }
def le (a b : Label) : Prop := a.level ≤ b.level ∧ sb a.parts b.parts
def leB (a b : Label) : Bool := decide (a.level ≤ b.level) && ((a.parts &&& ~~~b.parts) == 0#32)
theorem leB_iff {a b : Label} : leB a b = true ↔ le a b := by unfold leB le; rw [Bool.and_eq_true, decide_eq_true_eq, andn_iff]
theorem leB_no {a b : Label} : leB a b = false ↔ ¬le a b := by rw [← leB_iff, Bool.not_eq_true]
def both (a b : Label) : Label := { level := if b.level > a.level then b.level else a.level, parts := a.parts ||| b.parts }
theorem le_rf (a : Label) : le a a := ⟨Int.le_refl _, sb_refl _⟩
theorem le_tr {a b c : Label} (h : le a b) (k : le b c) : le a c := ⟨Int.le_trans h.1 k.1, h.2.trans k.2⟩
theorem le_as {a b : Label} (h : le a b) (k : le b a) : a = b := by
  cases a; cases b
  have e1 := Int.le_antisymm h.1 k.1
  have e2 := h.2.antisymm k.2
  simp only at e1 e2
  rw [e1, e2]
theorem both_le {a b c : Label} : le (both a b) c ↔ le a c ∧ le b c := by
  unfold le both
  rw [sb_or]
  dsimp only
  constructor
  · rintro ⟨h1, h2, h3⟩
    refine ⟨⟨?_, h2⟩, ?_, h3⟩ <;> (split at h1 <;> omega)
  · rintro ⟨⟨h1, h2⟩, h3, h4⟩
    exact ⟨by split <;> omega, h2, h4⟩
theorem le_l (a b : Label) : le a (both a b) := (both_le.1 (le_rf _)).1
theorem le_r (a b : Label) : le b (both a b) := (both_le.1 (le_rf _)).2
theorem both_mono {a b c d : Label} (h : le a c) (k : le b d) : le (both a b) (both c d) := both_le.2 ⟨le_tr h (le_l _ _), le_tr k (le_r _ _)⟩
theorem both_abs {a b : Label} (h : le b a) : both a b = a := le_as (both_le.2 ⟨le_rf _, h⟩) (le_l _ _)
theorem both_abs2 {a b c : Label} (h : le c a) : both a (both c b) = both a b :=
  le_as (both_le.2 ⟨le_l _ _, both_le.2 ⟨le_tr h (le_l _ _), le_r _ _⟩⟩) (both_mono (le_rf _) (le_r _ _))
theorem all_eq (a b : Label) : label_All a b = some (both a b) := rfl
theorem least_eq (a b : Label) : label_Least a b = some (leB a b) := rfl
theorem rboth_eq (a b : Label) : syllogistref_Both a b = some (both a b) := by
  unfold syllogistref_Both syllogistref_Both_k8 both
  cases h : decide (a.level < b.level) with
  | true => rw [cond_true, if_pos (by have := of_decide_eq_true h; omega)]
  | false => rw [cond_false, if_neg (by have := of_decide_eq_false h; omega)]
theorem below_eq (a b : Label) : syllogistref_Below a b = some (leB a b) := by
  unfold syllogistref_Below syllogistref_In leB
  simp only [Option.isSome_some, Bool.or_true, cond_true, Option.getD_some]
  rw [← andn_or]
def okl (a : Label) : Prop := 0 ≤ a.level ∧ a.level ≤ 3 ∧ bel 5 a.parts
theorem okl_both {a b : Label} (h : okl a) (k : okl b) : okl (both a b) := by
  obtain ⟨h1, h2, h3⟩ := h
  obtain ⟨k1, k2, k3⟩ := k
  unfold okl both
  dsimp only
  refine ⟨by split <;> omega, by split <;> omega, fun i hi => ?_⟩
  rw [BitVec.getLsbD_or, Bool.or_eq_true] at hi
  exact hi.elim (h3 i) (k3 i)
theorem okl_z : okl zL := ⟨by decide, by decide, fun i hi => by simp [zL] at hi⟩
def at_ (ls : List Label) (i : Nat) : Label := ls[i]?.getD zL
def VL (n : Int) (ls : List Label) : Prop := (ls.length : Int) = n ∧ ∀ a ∈ ls, okl a
def LE (ls S : List Label) : Prop := ∀ i, le (at_ ls i) (at_ S i)
theorem LE.rf (ls : List Label) : LE ls ls := fun _ => le_rf _
theorem LE.tr {a b c : List Label} (h : LE a b) (k : LE b c) : LE a c := fun i => le_tr (h i) (k i)
theorem VL.ok {n : Int} {ls : List Label} (h : VL n ls) (i : Nat) : okl (at_ ls i) := by
  unfold at_
  cases e : ls[i]? with
  | none => exact okl_z
  | some v => exact h.2 v (get_mem e)
theorem VL.geti {n : Int} {ls : List Label} (h : VL n ls) {i : Int} (h0 : 0 ≤ i) (h1 : i < n) : geti ls i = some (at_ ls i.toNat) := by
  unfold at_
  rw [geti_int h0 (by rw [h.1]; exact h1), getd_at zL (by have := h.1; omega)]
theorem VL.set {n : Int} {ls : List Label} (h : VL n ls) (i : Nat) {a : Label} (ha : okl a) : VL n (ls.set i a) := by
  refine ⟨by rw [List.length_set]; exact h.1, fun w hw => ?_⟩
  rcases List.mem_or_eq_of_mem_set hw with hw | rfl
  · exact h.2 w hw
  · exact ha
theorem at_set {ls : List Label} {i j : Nat} {a : Label} (hi : i < ls.length) : at_ (ls.set i a) j = if i = j then a else at_ ls j := by
  unfold at_
  rw [List.getElem?_set]
  by_cases e : i = j
  · rw [if_pos e, if_pos e, if_pos hi]; rfl
  · rw [if_neg e, if_neg e]
def ofL (i : Int) (c : Label) (ls : List Label) : Label := if i < 0 then c else both c (at_ ls i.toNat)
theorem ofL_ge (i : Int) (c : Label) (ls : List Label) : le c (ofL i c ls) := by
  unfold ofL
  split
  · exact le_rf _
  · exact le_l _ _
theorem ofL_ok {n i : Int} {c : Label} {ls : List Label} (hc : okl c) (h : VL n ls) : okl (ofL i c ls) := by
  unfold ofL
  split
  · exact hc
  · exact okl_both hc (h.ok _)
theorem ofL_mono {i : Int} {c c' : Label} {ls S : List Label} (hc : le c c') (h : LE ls S) : le (ofL i c ls) (ofL i c' S) := by
  unfold ofL
  split
  · exact hc
  · exact both_mono hc (h _)
theorem c1_eq {n i : Int} {c : Label} {ls : List Label} (h : VL n ls) (hi : i < n) : flow_raise_c1 i c ls = some (ofL i c ls) := by
  unfold flow_raise_c1 ofL
  by_cases h0 : i < 0
  · rw [decide_eq_true h0, cond_true, if_pos h0]
  · rw [decide_eq_false h0, cond_false, if_neg h0, h.geti (by omega) hi]
    rfl

/-! ### What each line needs -/
def mkD (t : Int) (a : Label) : Deed := { kind := 0, by_ := 0, to := t, label := a, val := 0 }
def nd : Nat → List Line → List Label → Label → List Deed
  | 0, _, _, _ => []
  | d + 1, l, ls, c => l.flatMap fun x => bif x.kind == 1 then [mkD x.to (both (ofL x.a c ls) (ofL x.b c ls))] else bif x.kind == 2 then nd d x.body ls (ofL x.a c ls) ++ nd d x.els ls (ofL x.a c ls) else nd d x.body ls (ofL x.a c ls)
def ndx (d : Nat) (ls : List Label) (c : Label) (x : Line) : List Deed := bif x.kind == 1 then [mkD x.to (both (ofL x.a c ls) (ofL x.b c ls))] else bif x.kind == 2 then nd d x.body ls (ofL x.a c ls) ++ nd d x.els ls (ofL x.a c ls) else nd d x.body ls (ofL x.a c ls)
theorem nd_succ (d : Nat) (l : List Line) (ls : List Label) (c : Label) : nd (d + 1) l ls c = l.flatMap (ndx d ls c) := rfl
theorem flat_len {α β : Type} {f : α → List β} {k : Nat} : ∀ {l : List α}, (∀ x ∈ l, (f x).length ≤ k) → (l.flatMap f).length ≤ l.length * k
  | [], _ => by simp
  | a :: l, h => by
    have h1 := h a (by simp)
    have h2 := flat_len (l := l) fun x hx => h x (by simp [hx])
    rw [List.flatMap_cons, List.length_append, List.length_cons, Nat.add_mul]; omega
theorem ndx_len {n : Int} {d : Nat} {ls : List Label} {c : Label} {x : Line} (ih : ∀ p, OkL n d p → ∀ c, (nd d p ls c).length ≤ 25 ^ d) (h5 : OkL n d x.body) (h6 : OkL n d x.els) : (ndx d ls c x).length ≤ 2 * 25 ^ d := by
  have hp : 1 ≤ 25 ^ d := Nat.pos_of_ne_zero (by simp)
  have a5 := ih _ h5 (ofL x.a c ls)
  have a6 := ih _ h6 (ofL x.a c ls)
  unfold ndx
  cases x.kind == 1
  · cases x.kind == 2
    · simp only [cond_false]; omega
    · simp only [cond_true, cond_false, List.length_append]; omega
  · simp only [cond_true, List.length_cons, List.length_nil]; omega
theorem nd_len (n : Int) (ls : List Label) : ∀ (d : Nat) (l : List Line), OkL n d l → ∀ c, (nd d l ls c).length ≤ 25 ^ d
  | 0, l, _, c => by simp [nd]
  | d + 1, l, h, c => by
    obtain ⟨hl, h⟩ := h
    rw [nd_succ, Nat.pow_succ]
    have h1 := flat_len (f := ndx d ls c) (l := l) (k := 2 * 25 ^ d) fun x hx => ndx_len (nd_len n ls d) (h x hx).2.2.1 (h x hx).2.2.2
    have h2 : l.length * (2 * 25 ^ d) ≤ 12 * (2 * 25 ^ d) := Nat.mul_le_mul_right _ hl
    omega
theorem kinds {x : Line} (hk : kbad x = false) : x.kind = 1 ∨ x.kind = 2 ∨ x.kind = 3 := by
  unfold kbad at hk
  rw [Bool.or_eq_false_iff, decide_eq_false_iff_not, decide_eq_false_iff_not] at hk
  omega
theorem args {n : Int} {x : Line} (ha : abad n x = false) : x.a < n ∧ (x.kind = 1 → 0 ≤ x.to ∧ x.to < n ∧ x.b < n) := by
  unfold abad at ha
  by_cases h1 : x.kind = 1
  · rw [h1] at ha
    simp only [beq_self_eq_true, cond_true, Bool.or_eq_false_iff, decide_eq_false_iff_not] at ha
    exact ⟨by omega, fun _ => by omega⟩
  · have h1' : (x.kind == 1) = false := by simpa using h1
    rw [h1', cond_false, Bool.or_eq_false_iff, decide_eq_false_iff_not, decide_eq_false_iff_not] at ha
    exact ⟨by omega, fun h => absurd h h1⟩
theorem needs_eq {n : Int} {ls : List Label} (hv : VL n ls) : ∀ (d f : Nat), d ≤ 4 → d < f → ∀ l, OkL n d l → ∀ c, syllogistref_Needs f l ls c = some (nd d l ls c)
  | 0, f + 1, _, _, l, h, c => by
    have h : l = [] := h
    subst h
    rfl
  | d + 1, f + 1, hd, hf, l, h, c => by
    have hok := h
    obtain ⟨hl, h⟩ := h
    have h25 : 25 ^ d ≤ 25 ^ 3 := Nat.pow_le_pow_right (by omega) (by omega)
    unfold syllogistref_Needs syllogistref_Needs_s
    rw [for_rec (s := ([] : List Deed)) (n := l.length) (fun t => (l.take t).flatMap (ndx d ls c)) rfl rfl (fun t nx ht => by
      obtain ⟨k0, a0, h5, h6⟩ := h l[t] (List.getElem_mem ht)
      have hS : ((l.take t).flatMap (ndx d ls c)).length ≤ 12 * (2 * 25 ^ d) := by
        have h1 := flat_len (f := ndx d ls c) (l := l.take t) (k := 2 * 25 ^ d) fun x hx => ndx_len (nd_len n ls d) (h x (List.mem_of_mem_take hx)).2.2.1 (h x (List.mem_of_mem_take hx)).2.2.2
        have h2 : (l.take t).length * (2 * 25 ^ d) ≤ 12 * (2 * 25 ^ d) := Nat.mul_le_mul_right _ (by rw [List.length_take]; omega)
        omega
      have hx := List.take_succ_eq_append_getElem ht
      rw [hx, List.flatMap_append]
      unfold syllogistref_Needs_b16
      rw [geti_at ht, Option.bind_some]
      generalize l[t] = x at k0 a0 h5 h6
      generalize (l.take t).flatMap (ndx d ls c) = acc at hS
      obtain ⟨ha, h1⟩ := args a0
      have eA : (bif decide (x.a ≥ (0 : Int)) then (geti ls x.a).bind fun y70 => (syllogistref_Both ({ level := c.level, parts := c.parts } : Label) y70).bind fun r72 => syllogistref_Needs_k32 ls (syllogistref_Needs f) acc nx x r72.level r72.parts else syllogistref_Needs_k32 ls (syllogistref_Needs f) acc nx x c.level c.parts) = syllogistref_Needs_k32 ls (syllogistref_Needs f) acc nx x (ofL x.a c ls).level (ofL x.a c ls).parts := by
        unfold ofL
        by_cases hz : x.a < 0
        · rw [decide_eq_false (by omega), cond_false, if_pos hz]
        · rw [decide_eq_true (by omega), cond_true, if_neg hz, hv.geti (by omega) ha, Option.bind_some, rboth_eq, Option.bind_some]
      rw [eA]
      have e5 := needs_eq hv d f (by omega) (by omega) _ h5 (ofL x.a c ls)
      have e6 := needs_eq hv d f (by omega) (by omega) _ h6 (ofL x.a c ls)
      have l5 := nd_len n ls d _ h5 (ofL x.a c ls)
      have l6 := nd_len n ls d _ h6 (ofL x.a c ls)
      have hge := ofL_ge x.a c ls
      have hfl : [x].flatMap (ndx d ls c) = ndx d ls c x := by simp
      rw [hfl]
      unfold syllogistref_Needs_k32 ndx
      have eta : ∀ a : Label, ({ level := a.level, parts := a.parts } : Label) = a := fun _ => rfl
      rcases kinds k0 with hk | hk | hk
      · obtain ⟨t0, tn, bn⟩ := h1 hk
        have ek : (x.kind == 1) = true := by rw [hk]; rfl
        simp only [ek, cond_true]
        have fin : ∀ a : Label, syllogistref_Needs_k36 acc nx x a.level a.parts = nx (acc ++ [mkD x.to a]) := fun a => by
          unfold syllogistref_Needs_k36
          rw [decide_eq_true (by simp only [List.length_cons, List.length_nil]; omega), cond_true]
          rfl
        by_cases hb : x.b < 0
        · rw [decide_eq_false (by omega), cond_false, fin]
          have : ofL x.b c ls = c := by unfold ofL; rw [if_pos hb]
          rw [this, both_abs hge]
        · rw [decide_eq_true (by omega), cond_true, hv.geti (by omega) bn, Option.bind_some, rboth_eq, Option.bind_some, fin]
          have : ofL x.b c ls = both c (at_ ls x.b.toNat) := by unfold ofL; rw [if_neg hb]
          rw [this, both_abs2 hge]
      · have ek : (x.kind == 1) = false := by rw [hk]; rfl
        have ek2 : (x.kind == 2) = true := by rw [hk]; rfl
        simp only [ek, ek2, cond_true, cond_false, e5, e6, Option.bind_some]
        rw [decide_eq_true (by omega), cond_true, decide_eq_true (by rw [List.length_append]; omega), cond_true, List.append_assoc]
      · have ek : (x.kind == 1) = false := by rw [hk]; rfl
        have ek2 : (x.kind == 2) = false := by rw [hk]; rfl
        have ek3 : (x.kind == 3) = true := by rw [hk]; rfl
        simp only [ek, ek2, ek3, cond_true, cond_false, e5, Option.bind_some]
        rw [decide_eq_true (by omega), cond_true])]
    unfold syllogistref_Needs_k12
    rw [List.take_length, nd_succ]
theorem nd_in {n : Int} {ls : List Label} : ∀ (d : Nat) (l : List Line), OkL n d l → ∀ c, ∀ D ∈ nd d l ls c, 0 ≤ D.to ∧ D.to < n
  | 0, l, _, c, D, hD => by simp [nd] at hD
  | d + 1, l, h, c, D, hD => by
    obtain ⟨hl, h⟩ := h
    rw [nd_succ, List.mem_flatMap] at hD
    obtain ⟨x, hx, hD⟩ := hD
    obtain ⟨k0, a0, h5, h6⟩ := h x hx
    unfold ndx at hD
    rcases kinds k0 with hk | hk | hk
    · have ek : (x.kind == 1) = true := by rw [hk]; rfl
      rw [ek, cond_true, List.mem_singleton] at hD
      subst hD
      have := (args a0).2 hk
      exact ⟨this.1, this.2.1⟩
    · have ek : (x.kind == 1) = false := by rw [hk]; rfl
      have ek2 : (x.kind == 2) = true := by rw [hk]; rfl
      rw [ek, ek2, cond_false, cond_true, List.mem_append] at hD
      exact hD.elim (nd_in d _ h5 _ D) (nd_in d _ h6 _ D)
    · have ek : (x.kind == 1) = false := by rw [hk]; rfl
      have ek2 : (x.kind == 2) = false := by rw [hk]; rfl
      rw [ek, ek2, cond_false, cond_false] at hD
      exact nd_in d _ h5 _ D hD

/-! ### What the program does to the labels -/
def met (D : Deed) (ls : List Label) : Prop := le D.label (at_ ls D.to.toNat)
structure Rz (n : Int) (d : Nat) (l : List Line) (ls : List Label) (c : Label) (b : Bool) (ls' : List Label) : Prop where
  v : VL n ls'
  up : LE ls ls'
  yes : b = true → ls' = ls ∧ ∀ D ∈ nd d l ls c, met D ls
  no : b = false → (∃ D ∈ nd d l ls c, ¬met D ls) ∧ ∃ i, ¬le (at_ ls' i) (at_ ls i)
  mn : ∀ S c', VL n S → LE ls S → le c c' → (∀ D ∈ nd d l S c', met D S) → LE ls' S
def zLine : Line := ⟨0, 0, 0, 0, 0, [], []⟩
structure Jz (n : Int) (d : Nat) (l : List Line) (ls : List Label) (c : Label) (t : Nat) (s : Bool × List Label) : Prop where
  v : VL n s.2
  up : LE ls s.2
  yes : s.1 = true → s.2 = ls ∧ ∀ t', t' < t → ∀ D ∈ ndx d ls c (l[t']?.getD zLine), met D ls
  no : s.1 = false → (∃ t', t' < t ∧ ∃ D ∈ ndx d ls c (l[t']?.getD zLine), ¬met D ls) ∧ ∃ i, ¬le (at_ s.2 i) (at_ ls i)
  mn : ∀ S c', VL n S → LE ls S → le c c' → (∀ D ∈ nd (d + 1) l S c', met D S) → LE s.2 S
theorem nle_tr {a b c : Label} (h : ¬le a b) (k : le a c) : ¬le c b := fun h' => h (le_tr k h')
theorem raise_eq (n : Int) : ∀ (d f : Nat), d < f → ∀ l, OkL n d l → ∀ ls c, VL n ls → okl c → ∃ b ls', flow_raise f l ls c = some (b, ls') ∧ Rz n d l ls c b ls'
  | 0, f + 1, _, l, h, ls, c, hv, hc => by
    have h : l = [] := h
    subst h
    exact ⟨true, ls, rfl, hv, LE.rf _, fun _ => ⟨rfl, fun D hD => by simp [nd] at hD⟩, (fun h => by cases h), fun S c' _ hS _ _ => hS⟩
  | d + 1, f + 1, hf, l, h, ls, c, hv, hc => by
    obtain ⟨hl, h⟩ := h
    unfold flow_raise flow_raise_s
    refine for0_q (n := l.length) (Q := fun o => ∃ b ls', o = some (b, ls') ∧ Rz n (d + 1) l ls c b ls') (fun t s => Jz n d l ls c t s) rfl (true, ls) ⟨hv, LE.rf _, fun _ => ⟨rfl, fun t' h' => by omega⟩, (fun h => by cases h), fun S c' _ hS _ _ => hS⟩ (fun t s nx ht hJ hnx => ?_) (fun s hJ => ?_)
    · obtain ⟨clean, cur⟩ := s
      have hgl : l[t]?.getD zLine = l[t] := getd_at _ ht
      have hmem := List.getElem_mem ht
      obtain ⟨k0, a0, h5, h6⟩ := h l[t] hmem
      unfold flow_raise_b17
      rw [geti_at ht, Option.bind_some]
      generalize hx : l[t] = x at k0 a0 h5 h6 hgl hmem
      obtain ⟨ha, h1⟩ := args a0
      obtain ⟨v, up, yes, no, mn⟩ := hJ
      dsimp only at v up yes no mn
      have eta : ∀ a : Label, ({ level := a.level, parts := a.parts } : Label) = a := fun _ => rfl
      have hU := ofL_ok (i := x.a) hc v
      have old : ∀ {t'}, t' < t + 1 → t' = t ∨ t' < t := fun h => by omega
      rcases kinds k0 with hk | hk | hk
      · obtain ⟨t0, tn, bn⟩ := h1 hk
        have ek : (x.kind != 1) = false := by rw [hk]; rfl
        have ek1 : (x.kind == 1) = true := by rw [hk]; rfl
        have hlt : x.to.toNat < cur.length := by have := v.1; omega
        simp only [ek, cond_false, c1_eq v ha, c1_eq v bn, Option.bind_some, all_eq, v.geti t0 tn, least_eq]
        have hN : okl (both (ofL x.a c cur) (ofL x.b c cur)) := okl_both hU (ofL_ok hc v)
        have hnd : ndx d ls c x = [mkD x.to (both (ofL x.a c ls) (ofL x.b c ls))] := by unfold ndx; rw [ek1, cond_true]
        cases hle : leB (both (ofL x.a c cur) (ofL x.b c cur)) (at_ cur x.to.toNat) with
        | true =>
          simp only [Bool.not_true, cond_false]
          refine hnx _ ⟨v, up, fun hb => ?_, fun hb => ?_, mn⟩
          · obtain ⟨e, hy⟩ := yes hb
            have e : cur = ls := e
            refine ⟨e, fun t' h' D hD => ?_⟩
            rcases old h' with rfl | h'
            · rw [hgl, hnd, List.mem_singleton] at hD
              subst hD
              rw [e] at hle
              exact leB_iff.1 hle
            · exact hy t' h' D hD
          · obtain ⟨⟨t', h', hD⟩, hi⟩ := no hb
            exact ⟨⟨t', by omega, hD⟩, hi⟩
        | false =>
          simp only [Bool.not_false, cond_true]
          have hle' := leB_no.1 hle
          have hup : LE cur (cur.set x.to.toNat (both (at_ cur x.to.toNat) (both (ofL x.a c cur) (ofL x.b c cur)))) := fun i => by
            rw [at_set hlt]
            by_cases e : x.to.toNat = i
            · subst e; rw [if_pos rfl]; exact le_l _ _
            · rw [if_neg e]; exact le_rf _
          refine hnx _ ⟨v.set _ (okl_both (v.ok _) hN), up.tr hup, (fun hb => by cases hb), fun _ => ?_, fun S c' hS hLS hcc hall => ?_⟩
          · cases clean with
            | true =>
              obtain ⟨e, hy⟩ := yes rfl
              have e : cur = ls := e
              subst e
              refine ⟨⟨t, by omega, mkD x.to (both (ofL x.a c cur) (ofL x.b c cur)), by rw [hgl, hnd]; simp, hle'⟩, x.to.toNat, ?_⟩
              dsimp only
              rw [at_set hlt, if_pos rfl]
              exact fun hh => hle' (both_le.1 hh).2
            | false =>
              obtain ⟨⟨t', h', hD⟩, i, hi⟩ := no rfl
              exact ⟨⟨t', by omega, hD⟩, i, nle_tr hi (hup i)⟩
          · have hc2 := mn S c' hS hLS hcc hall
            intro i
            dsimp only
            rw [at_set hlt]
            by_cases e : x.to.toNat = i
            · subst e
              rw [if_pos rfl]
              refine both_le.2 ⟨hc2 _, ?_⟩
              have hm := hall (mkD x.to (both (ofL x.a c' S) (ofL x.b c' S))) (by
                rw [nd_succ, List.mem_flatMap]
                refine ⟨x, hmem, ?_⟩
                unfold ndx; rw [ek1, cond_true]; simp)
              exact le_tr (both_mono (ofL_mono hcc hc2) (ofL_mono hcc hc2)) hm
            · rw [if_neg e]; exact hc2 i
      · have ek : (x.kind != 1) = true := by rw [hk]; rfl
        have ek1 : (x.kind == 1) = false := by rw [hk]; rfl
        have ek2 : (x.kind == 2) = true := by rw [hk]; rfl
        obtain ⟨b1, ls1, e1, r1⟩ := raise_eq n d f (by omega) _ h5 cur (ofL x.a c cur) v hU
        obtain ⟨b2, ls2, e2, r2⟩ := raise_eq n d f (by omega) _ h6 ls1 (ofL x.a c cur) r1.v hU
        simp only [ek, ek2, cond_true, c1_eq v ha, Option.bind_some, e1, e2]
        unfold flow_raise_k37
        have hnd : ∀ ls c, ndx d ls c x = nd d x.body ls (ofL x.a c ls) ++ nd d x.els ls (ofL x.a c ls) := fun ls c => by unfold ndx; rw [ek1, ek2, cond_false, cond_true]
        refine hnx _ ⟨r2.v, (up.tr r1.up).tr r2.up, fun hb => ?_, fun hb => ?_, fun S c' hS hLS hcc hall => ?_⟩
        · simp only [Bool.and_eq_true] at hb
          obtain ⟨hb2, hb1, hb0⟩ := hb
          obtain ⟨q0, y0⟩ := yes hb0
          obtain ⟨q1, y1⟩ := r1.yes hb1
          obtain ⟨q2, y2⟩ := r2.yes hb2
          subst q1; subst q2; subst q0
          refine ⟨rfl, fun t' h' D hD => ?_⟩
          rcases old h' with rfl | h'
          · rw [hgl, hnd, List.mem_append] at hD
            exact hD.elim (y1 D) (y2 D)
          · exact y0 t' h' D hD
        · cases clean with
          | false =>
            obtain ⟨⟨t', h', hD⟩, i, hi⟩ := no rfl
            exact ⟨⟨t', by omega, hD⟩, i, nle_tr hi ((r1.up.tr r2.up) i)⟩
          | true =>
            obtain ⟨q0, y0⟩ := yes rfl
            have q0 : cur = ls := q0
            subst q0
            cases b1 with
            | false =>
              obtain ⟨⟨D, hD, hm⟩, i, hi⟩ := r1.no rfl
              exact ⟨⟨t, by omega, D, by rw [hgl, hnd]; exact List.mem_append_left _ hD, hm⟩, i, nle_tr hi (r2.up i)⟩
            | true =>
              obtain ⟨q1, y1⟩ := r1.yes rfl
              subst q1
              cases b2 with
              | true => simp at hb
              | false =>
                obtain ⟨⟨D, hD, hm⟩, i, hi⟩ := r2.no rfl
                exact ⟨⟨t, by omega, D, by rw [hgl, hnd]; exact List.mem_append_right _ hD, hm⟩, i, hi⟩
        · have hc2 := mn S c' hS hLS hcc hall
          have hin : ∀ D ∈ ndx d S c' x, met D S := fun D hD => hall D (by rw [nd_succ, List.mem_flatMap]; exact ⟨x, hmem, hD⟩)
          rw [hnd] at hin
          have hU2 := ofL_mono (i := x.a) hcc hc2
          have hc3 := r1.mn S _ hS hc2 hU2 fun D hD => hin D (List.mem_append_left _ hD)
          exact r2.mn S _ hS hc3 hU2 fun D hD => hin D (List.mem_append_right _ hD)
      · have ek : (x.kind != 1) = true := by rw [hk]; rfl
        have ek1 : (x.kind == 1) = false := by rw [hk]; rfl
        have ek2 : (x.kind == 2) = false := by rw [hk]; rfl
        obtain ⟨b1, ls1, e1, r1⟩ := raise_eq n d f (by omega) _ h5 cur (ofL x.a c cur) v hU
        simp only [ek, ek2, cond_true, cond_false, c1_eq v ha, Option.bind_some, e1]
        unfold flow_raise_k37
        have hnd : ∀ ls c, ndx d ls c x = nd d x.body ls (ofL x.a c ls) := fun ls c => by unfold ndx; rw [ek1, ek2, cond_false, cond_false]
        refine hnx _ ⟨r1.v, up.tr r1.up, fun hb => ?_, fun hb => ?_, fun S c' hS hLS hcc hall => ?_⟩
        · simp only [Bool.and_eq_true] at hb
          obtain ⟨hb1, hb0⟩ := hb
          obtain ⟨q0, y0⟩ := yes hb0
          obtain ⟨q1, y1⟩ := r1.yes hb1
          subst q1; subst q0
          refine ⟨rfl, fun t' h' D hD => ?_⟩
          rcases old h' with rfl | h'
          · rw [hgl, hnd] at hD
            exact y1 D hD
          · exact y0 t' h' D hD
        · cases clean with
          | false =>
            obtain ⟨⟨t', h', hD⟩, i, hi⟩ := no rfl
            exact ⟨⟨t', by omega, hD⟩, i, nle_tr hi (r1.up i)⟩
          | true =>
            obtain ⟨q0, y0⟩ := yes rfl
            have q0 : cur = ls := q0
            subst q0
            cases b1 with
            | true => simp at hb
            | false =>
              obtain ⟨⟨D, hD, hm⟩, i, hi⟩ := r1.no rfl
              exact ⟨⟨t, by omega, D, by rw [hgl, hnd]; exact hD, hm⟩, i, hi⟩
        · have hc2 := mn S c' hS hLS hcc hall
          exact r1.mn S _ hS hc2 (ofL_mono hcc hc2) fun D hD => hall D (by rw [nd_succ, List.mem_flatMap]; exact ⟨x, hmem, by rw [hnd]; exact hD⟩)
    · obtain ⟨clean, cur⟩ := s
      obtain ⟨v, up, yes, no, mn⟩ := hJ
      refine ⟨clean, cur, rfl, v, up, fun hb => ?_, fun hb => ?_, mn⟩
      · obtain ⟨e, hy⟩ := yes hb
        refine ⟨e, fun D hD => ?_⟩
        rw [nd_succ, List.mem_flatMap] at hD
        obtain ⟨x, hx, hD⟩ := hD
        obtain ⟨t, ht, rfl⟩ := List.getElem_of_mem hx
        exact hy t ht D (by rw [getd_at _ ht]; exact hD)
      · obtain ⟨⟨t, ht, D, hD, hm⟩, hi⟩ := no hb
        rw [getd_at _ ht] at hD
        exact ⟨⟨D, by rw [nd_succ, List.mem_flatMap]; exact ⟨_, List.getElem_mem ht, hD⟩, hm⟩, hi⟩

/-! ### The codes -/
def badL (a : Label) : Bool := ((decide (a.level < (0 : Int))) || (decide (a.level > (3 : Int)))) || (decide (a.parts ≥ 32#32))
theorem check_eq (a : Label) : label_Check a = some (bif badL a then 4 else 0) := by
  unfold label_Check
  cases h : badL a <;> (unfold badL at h; rw [h]; rfl)
theorem check2_eq (a : Label) : syllogistref_LabelCheck a = some (bif badL a then 4 else 0) := by
  have h : syllogistref_Fits (5 : Int) a.parts = some (!decide (a.parts ≥ 32#32)) := by
    unfold syllogistref_Fits
    have := fits_shape (n := 5) (by omega) a.parts
    rw [show ((5 : Nat) : Int) = (5 : Int) from rfl] at this
    rw [this]
    congr 1
    rw [Bool.eq_iff_iff, Bool.not_eq_true', decide_eq_true_eq, decide_eq_false_iff_not, show (1#32 <<< 5) = 32#32 from rfl]
    simp [BitVec.lt_def, BitVec.le_def]
  unfold syllogistref_LabelCheck
  rw [h]
  simp only [Option.isSome_some, Bool.or_true, cond_true, Option.getD_some, Bool.not_not]
  cases h : badL a <;> (unfold badL at h; rw [h]; rfl)
theorem okl_of {a : Label} (h : badL a = false) : okl a := by
  unfold badL at h
  simp only [Bool.or_eq_false_iff, decide_eq_false_iff_not] at h
  refine ⟨by omega, by omega, ?_⟩
  have h2 := h.2
  rw [ge_iff_le, BitVec.le_def, Nat.not_le] at h2
  intro i hi
  have : 2 ^ i ≤ a.parts.toNat := by
    rw [BitVec.getLsbD, Nat.testBit] at hi
    apply Classical.byContradiction
    intro hn
    have : a.parts.toNat >>> i = 0 := by rw [Nat.shiftRight_eq_div_pow]; exact Nat.div_eq_of_lt (by omega)
    rw [this] at hi
    simp at hi
  apply Classical.byContradiction
  intro hn
  have h32 : 2 ^ 5 ≤ 2 ^ i := Nat.pow_le_pow_right (by omega) (by omega)
  have e32 : (32#32).toNat = 32 := rfl
  omega
theorem any_atL (s : List Label) : anyN s.length (fun j => badL (s[j]?.getD zL)) = s.any badL := by
  rw [any_len]
  exact anyN_congr fun j hj => by rw [List.getElem?_eq_getElem hj]; rfl
def code (c n : Int) (ls : List Label) : Int := bif c != 0 then c else bif (ls.length : Int) != n then 3 else bif ls.any badL then 4 else 0
theorem labeled_eq {f : Nat} {n c : Int} {l : List Line} (ls : List Label) (h : flow_wrong f n l = some c) : flow_labeled f n ls l = some (code c n ls) := by
  unfold flow_labeled code
  rw [h, Option.bind_some]
  cases c != 0 with
  | true => rfl
  | false =>
    cases (ls.length : Int) != n with
    | true => rfl
    | false =>
      simp only [cond_false]
      rw [for_out (n := ls.length) (fun j => badL (ls[j]?.getD zL)) (some 4) rfl (fun j nx hj => by
        unfold flow_labeled_b9
        rw [geti_d zL hj, Option.bind_some, show ∀ y : Label, label_Check { level := y.level, parts := y.parts } = label_Check y from fun _ => rfl, check_eq, Option.bind_some]
        cases badL (ls[j]?.getD zL) <;> rfl), any_atL]
      unfold flow_labeled_k5
      cases ls.any badL <;> rfl
theorem k4_eq (ls : List Label) (x : Int) : syllogistlaw_flowCode_k4 ls x = some (bif (x == 0) && ls.any badL then 4 else x) := by
  unfold syllogistlaw_flowCode_k4
  rw [for_rec (s := x) (n := ls.length) (fun t => bif (x == 0) && anyN t (fun j => badL (ls[j]?.getD zL)) then 4 else x) rfl (by cases (x == 0) <;> rfl) (fun t nx ht => by
    unfold syllogistlaw_flowCode_b15
    rw [geti_d zL ht, Option.bind_some, anyN, show ∀ y : Label, syllogistref_LabelCheck { level := y.level, parts := y.parts } = syllogistref_LabelCheck y from fun _ => rfl, check2_eq]
    cases hx : x == 0 with
    | false => simp only [Bool.false_and, cond_false, hx]
    | true =>
      have hx' : x = 0 := by simpa using hx
      subst hx'
      simp only [Bool.true_and]
      cases anyN t (fun j => badL (ls[j]?.getD zL)) <;> cases badL (ls[t]?.getD zL) <;> rfl), any_atL]
  rfl
theorem code_eq {f : Nat} {n c : Int} {l : List Line} (ls : List Label) (h : syllogistref_ProgCheck f n l = some c) : syllogistlaw_flowCode f n ls l = some (code c n ls) := by
  unfold syllogistlaw_flowCode code
  rw [h, Option.bind_some]
  by_cases h0 : c = 0
  · subst h0
    simp only [beq_self_eq_true, Bool.true_and, bne_self_eq_false, cond_false]
    cases (ls.length : Int) != n with
    | true => rw [cond_true, k4_eq]; rfl
    | false => rw [cond_false, k4_eq]; rfl
  · have h3 : (c != 0) = true := by simpa using h0
    have h4 : (c == 0) = false := by simpa using h0
    rw [h3, h4, Bool.false_and, cond_false, cond_true, k4_eq, h4]; rfl
theorem code_ok {c n : Int} {ls : List Label} (h : code c n ls = 0) : c = 0 ∧ VL n ls := by
  unfold code at h
  by_cases h0 : c = 0
  · subst h0
    simp only [bne_self_eq_false, cond_false] at h
    cases hl : (ls.length : Int) != n with
    | true => rw [hl] at h; cases h
    | false =>
      cases hb : ls.any badL with
      | true => rw [hl, hb] at h; cases h
      | false =>
        refine ⟨rfl, by simpa using hl, fun a ha => okl_of ?_⟩
        have := List.any_eq_false.1 hb a ha
        rwa [Bool.not_eq_true] at this
  · have h3 : (c != 0) = true := by simpa using h0
    rw [h3, cond_true] at h
    exact absurd h h0
def dD : Deed := mkD 0 zL
theorem clean_eq {n : Int} {f : Nat} (hf : 4 < f) {l : List Line} (h : OkL n 4 l) {ls : List Label} (hv : VL n ls) : ∃ b, syllogistref_Clean f l ls = some b ∧ (b = true ↔ ∀ D ∈ nd 4 l ls zL, met D ls) := by
  unfold syllogistref_Clean
  rw [show ({ level := (0 : Int), parts := (0#32) } : Label) = zL from rfl, needs_eq hv 4 f (by omega) hf l h zL, Option.bind_some]
  generalize hw : nd 4 l ls zL = w
  have hin : ∀ D ∈ w, 0 ≤ D.to ∧ D.to < n := by rw [← hw]; exact nd_in 4 l h zL
  rw [for_out (n := w.length) (fun j => !leB (w[j]?.getD dD).label (at_ ls (w[j]?.getD dD).to.toNat)) (some false) rfl (fun j nx hj => by
    unfold syllogistref_Clean_b11
    obtain ⟨i0, i1⟩ := hin w[j] (List.getElem_mem hj)
    rw [geti_at hj, Option.bind_some, getd_at _ hj, hv.geti i0 i1, Option.bind_some, below_eq, Option.bind_some])]
  unfold syllogistref_Clean_k7
  refine ⟨!anyN w.length (fun j => !leB (w[j]?.getD dD).label (at_ ls (w[j]?.getD dD).to.toNat)), by cases anyN w.length (fun j => !leB (w[j]?.getD dD).label (at_ ls (w[j]?.getD dD).to.toNat)) <;> rfl, ?_⟩
  rw [Bool.not_eq_true', anyN_false]
  constructor
  · intro hh D hD
    obtain ⟨j, hj, rfl⟩ := List.getElem_of_mem hD
    have := hh j hj
    rw [getd_at _ hj, Bool.not_eq_false'] at this
    exact leB_iff.1 this
  · intro hh j hj
    rw [getd_at _ hj, Bool.not_eq_false']
    exact leB_iff.2 (hh _ (List.getElem_mem hj))
theorem clone_eq {n : Int} (n6 : n ≤ 6) {ls : List Label} (hv : VL n ls) : slices_Clone_SapiLabelapiLabel ls = some ls := by
  unfold slices_Clone_SapiLabelapiLabel
  have := hv.1
  rw [decide_eq_true (by simp only [List.length_nil]; omega), cond_true, List.nil_append]

theorem flowCleans_true (fuel : Nat) (n : Int) (ls : List Label) (l : List Line) (hs : smLine l) (hf : 30 < fuel := by decide) : syllogistlaw_FlowCleans fuel n ls l = some true := by
  unfold syllogistlaw_FlowCleans flow_Clean
  obtain ⟨c, e1, e2, hc⟩ := wrong_eq fuel (by omega) n l hs
  rw [labeled_eq ls e1, code_eq ls e2]
  simp only [Option.bind_some]
  by_cases h0 : code c n ls = 0
  · obtain ⟨c0, hv⟩ := code_ok h0
    obtain ⟨n1, n6, hok⟩ := hc c0
    rw [h0]
    simp only [bne_self_eq_false, cond_false, clone_eq n6 hv, Option.bind_some]
    obtain ⟨b, ls', er, hr⟩ := raise_eq n 4 fuel (by omega) l hok ls zL hv okl_z
    obtain ⟨b2, ec, hb2⟩ := clean_eq (f := fuel) (by omega) hok hv
    rw [show ({ level := (0 : Int), parts := (0#32) } : Label) = zL from rfl, er, ec]
    simp only [Option.bind_some, Option.isSome_some, Bool.or_true, cond_true, Option.getD_some, beq_self_eq_true, Bool.true_and]
    have : b = b2 := by
      rw [Bool.eq_iff_iff, hb2]
      constructor
      · exact fun hb => (hr.yes hb).2
      · intro hall
        cases hb : b with
        | true => rfl
        | false =>
          obtain ⟨⟨D, hD, hm⟩, _⟩ := hr.no hb
          exact absurd (hall D hD) hm
    rw [this]
    simp
  · have h3 : (code c n ls != 0) = true := by simpa using h0
    simp only [h3, cond_true, Option.bind_some]
    simp
end Go.Proofs.Ytcihfhfolofomaa.Sy
