/- Roles: deed by deed: the plain law; no program in sight. -/
import Derived.Test.YtjpoedjmoobapaaM0
import Derived.Test.YtjpoedjmoobapaaMb
import Derived.Test.YtjpoedjmoobapaaSyQ
namespace Go.Proofs.Ytjpoedjmoobapaa.Sy
set_option linter.unusedVariables false

theorem and_ne {a b : BitVec 32} : ((a &&& b) != 0#32) = true ↔ ∃ j, a.getLsbD j = true ∧ b.getLsbD j = true := by
  rw [bne_iff_ne]
  constructor
  · intro h
    apply Classical.byContradiction
    intro hn
    refine h (bits_ext fun i => ?_)
    simp only [BitVec.getLsbD_and, Bool.and_eq_true, BitVec.getLsbD_zero, Bool.false_eq_true, iff_false]
    exact fun hh => hn ⟨i, hh⟩
  · rintro ⟨j, h1, h2⟩ e
    have := congrArg (fun z : BitVec 32 => z.getLsbD j) e
    simp [h1, h2] at this

/-- s and all below it. -/
def FlP (ps : List (Int × Int)) (m : Nat) (s r : BitVec 32) : Prop := ∀ i, r.getLsbD i = true ↔ s.getLsbD i = true ∨ (i < m ∧ ∃ j, j < m ∧ Rch ps i j ∧ s.getLsbD j = true)

theorem below_loop {ps : List (Int × Int)} {m : Nat} {T : List (BitVec 32)} (hm : m ≤ 6) (hR : Rel T m fun i j => j < m ∧ Rch ps i j) (s : BitVec 32) : ∃ r, roles_below T s = some r ∧ ∀ i, r.getLsbD i = true ↔ (i < m ∧ ∃ j, j < m ∧ Rch ps i j ∧ s.getLsbD j = true) := by
  unfold roles_below
  have hl := hR.1
  refine for0_q (Q := fun o => ∃ r : BitVec 32, o = some r ∧ ∀ i, r.getLsbD i = true ↔ (i < m ∧ ∃ j, j < m ∧ Rch ps i j ∧ s.getLsbD j = true)) (fun t (out : BitVec 32) => ∀ i, out.getLsbD i = true ↔ (i < t ∧ ∃ j, j < m ∧ Rch ps i j ∧ s.getLsbD j = true)) (n := T.length) rfl (0#32) (fun i => by simp) (fun t out nx ht hI hnx => ?_) (fun out hI => ⟨out, rfl, fun i => by rw [hI i, hl]⟩)
  unfold roles_below_b10
  rw [geti_at ht, Option.bind_some]
  have hiff : ((T[t] &&& s) != 0#32) = true ↔ ∃ j, j < m ∧ Rch ps t j ∧ s.getLsbD j = true := by
    rw [and_ne]
    constructor
    · rintro ⟨j, h1, h2⟩
      have := (hR.2 t ht j).1 h1
      exact ⟨j, this.1, this.2, h2⟩
    · rintro ⟨j, h1, h2, h3⟩
      exact ⟨j, (hR.2 t ht j).2 ⟨h1, h2⟩, h3⟩
  cases hb : ((T[t] &&& s) != 0#32) with
  | true =>
    rw [cond_true]
    have hx := hiff.1 hb
    refine hnx _ fun i => ?_
    rw [BitVec.getLsbD_or, Bool.or_eq_true, hI i, Int.toNat_natCast, one_shl]
    constructor
    · rintro (⟨h1, h2⟩ | ⟨h, _⟩)
      · exact ⟨by omega, h2⟩
      · subst h; exact ⟨by omega, hx⟩
    · rintro ⟨h1, h2⟩
      by_cases e : i = t
      · exact .inr ⟨e, by omega⟩
      · exact .inl ⟨by omega, h2⟩
  | false =>
    rw [cond_false]
    refine hnx _ fun i => ?_
    rw [hI i]
    constructor
    · rintro ⟨h1, h2⟩
      exact ⟨by omega, h2⟩
    · rintro ⟨h1, h2⟩
      by_cases e : i = t
      · subst e; rw [hiff.2 h2] at hb; cases hb
      · exact ⟨by omega, h2⟩

theorem with_eq (fuel : Nat) (m : Nat) (ps : List (Int × Int)) (s : BitVec 32) (hm : m ≤ 6) (hps : ps.length ≤ 20) (hf : 30 < fuel) : ∃ r, syllogistref_With fuel m ps s = some r ∧ ∀ i, r.getLsbD i = true ↔ (i < m ∧ ∃ j, j < m ∧ Rch ps i j ∧ s.getLsbD j = true) := by
  unfold syllogistref_With
  rw [decide_eq_true (by omega), cond_true]
  refine for0_q (Q := fun o => ∃ r : BitVec 32, o = some r ∧ ∀ i, r.getLsbD i = true ↔ (i < m ∧ ∃ j, j < m ∧ Rch ps i j ∧ s.getLsbD j = true)) (fun t (out : BitVec 32) => ∀ i, out.getLsbD i = true ↔ (i < t ∧ ∃ j, j < m ∧ Rch ps i j ∧ s.getLsbD j = true)) rfl (0#32) (fun i => by simp) (fun t out nx ht hI hnx => ?_) (fun out hI => ⟨out, rfl, hI⟩)
  unfold syllogistref_With_b10
  rw [decide_eq_true (by omega), cond_true]
  refine for0_q (Q := fun o => ∃ r : BitVec 32, o = some r ∧ ∀ i, r.getLsbD i = true ↔ (i < m ∧ ∃ j, j < m ∧ Rch ps i j ∧ s.getLsbD j = true)) (fun k (out : BitVec 32) => ∀ i, out.getLsbD i = true ↔ (i < t ∧ ∃ j, j < m ∧ Rch ps i j ∧ s.getLsbD j = true) ∨ (i = t ∧ ∃ j, j < k ∧ Rch ps i j ∧ s.getLsbD j = true)) rfl _ (fun i => by rw [hI i]; simp) (fun k out' nx' hk hJ hnx' => ?_) (fun out' hJ => ?_)
  · unfold syllogistref_With_b22
    rw [bit_eq _ _ (by omega), Option.bind_some]
    obtain ⟨p, ep, gp⟩ := under_eq fuel m ps t k (by omega) (by omega)
    rw [ep]
    simp only [Option.isSome_some, Bool.or_true, cond_true, Option.getD_some]
    cases hb : (s.getLsbD k && p) with
    | true =>
      rw [cond_true, ofInt64 (by omega)]
      rw [Bool.and_eq_true] at hb
      refine hnx' _ fun i => ?_
      rw [BitVec.getLsbD_or, Bool.or_eq_true, hJ i, one_shl]
      constructor
      · rintro ((h | ⟨h, j, h1, h2⟩) | ⟨h, _⟩)
        · exact .inl h
        · exact .inr ⟨h, j, by omega, h2⟩
        · subst h; exact .inr ⟨rfl, k, by omega, gp.1 hb.2, hb.1⟩
      · rintro (h | ⟨h, j, h1, h2⟩)
        · exact .inl (.inl h)
        · exact .inr ⟨h, by omega⟩
    | false =>
      rw [cond_false]
      refine hnx' _ fun i => ?_
      rw [hJ i]
      constructor
      · rintro (h | ⟨h, j, h1, h2⟩)
        · exact .inl h
        · exact .inr ⟨h, j, by omega, h2⟩
      · rintro (h | ⟨h, j, h1, h2, h3⟩)
        · exact .inl h
        · by_cases e : j = k
          · subst e; subst h
            rw [h3, gp.2 h2] at hb; cases hb
          · exact .inr ⟨h, j, by omega, h2, h3⟩
  · unfold syllogistref_With_k18
    refine hnx _ fun i => ?_
    rw [hJ i]
    constructor
    · rintro (⟨h, h'⟩ | ⟨h, h'⟩)
      · exact ⟨by omega, h'⟩
      · exact ⟨by omega, h'⟩
    · rintro ⟨h, h'⟩
      by_cases e : i = t
      · exact .inr ⟨e, h'⟩
      · exact .inl ⟨by omega, h'⟩


theorem size_eq (w : BitVec 32) : syllogistref_Size w = some (cntN 32 w.getLsbD : Int) := by
  unfold syllogistref_Size
  refine (for_cnt (n := 32) w.getLsbD rfl (by omega) (fun j s nx hj => ?_)).trans rfl
  unfold syllogistref_Size_b9
  rw [bit_eq _ _ hj, Option.bind_some, cond_nx]

abbrev Wd := BitVec 32
/-- All that is under one of a set. -/
noncomputable def WB (m : Nat) (ps : List (Int × Int)) (s : Wd) : Wd := bset m fun i => tru (∃ j, j < m ∧ Rch ps i j ∧ s.getLsbD j = true)
theorem WB_of {m : Nat} {ps : List (Int × Int)} {s r : Wd} (hm : m ≤ 6) (h : ∀ i, r.getLsbD i = true ↔ (i < m ∧ ∃ j, j < m ∧ Rch ps i j ∧ s.getLsbD j = true)) : r = WB m ps s := bits_ext fun i => by
  unfold WB
  rw [h i, bset_bit (by omega), Bool.and_eq_true, decide_eq_true_eq, tru_iff]
theorem belowW {ps : List (Int × Int)} {m : Nat} {T : List Wd} (hm : m ≤ 6) (hR : Rel T m fun i j => j < m ∧ Rch ps i j) (s : Wd) : roles_below T s = some (WB m ps s) := by
  obtain ⟨r, e, h⟩ := below_loop hm hR s
  rw [e, WB_of hm h]
theorem withW {fuel : Nat} {m : Nat} {ps : List (Int × Int)} (hm : m ≤ 6) (hps : ps.length ≤ 20) (hf : 30 < fuel) (s : Wd) : syllogistref_With fuel m ps s = some (WB m ps s) := by
  obtain ⟨r, e, h⟩ := with_eq fuel m ps s hm hps hf
  rw [e, WB_of hm h]

/-! ### A bit put in, and taken out -/
theorem in_bit (y : Wd) {k : Nat} (hk : k < 32) : (((1#32 <<< k) ||| y) == y) = y.getLsbD k := by
  rw [Bool.eq_iff_iff, or_iff]
  constructor
  · intro h; exact h k ((one_shl k k).2 ⟨rfl, hk⟩)
  · intro h i hi
    rw [one_shl] at hi
    rw [hi.1]; exact h
theorem and_bit0 (y : Wd) {k : Nat} (hk : k < 32) : ((y &&& (1#32 <<< k)) == 0#32) = !y.getLsbD k := by
  have := bit_and y k hk
  rw [← this, bne, Bool.not_not]
theorem add_bit {y : Wd} {k : Nat} (h : y.getLsbD k = false) : y + (1#32 <<< k) = y ||| (1#32 <<< k) := by
  refine BitVec.add_eq_or_of_and_eq_zero _ _ (bits_ext fun i => ?_)
  rw [BitVec.getLsbD_and, Bool.and_eq_true, one_shl]
  simp only [BitVec.getLsbD_zero, Bool.false_eq_true, iff_false]
  rintro ⟨h1, e, _⟩
  rw [e, h] at h1; cases h1
theorem subB {y : Wd} {k : Nat} (hk : k < 32) (h : y.getLsbD k = true) : y - (1#32 <<< k) = y &&& ~~~(1#32 <<< k) := by
  have e1 : (y &&& ~~~(1#32 <<< k)) + (1#32 <<< k) = y := by
    rw [BitVec.add_eq_or_of_and_eq_zero]
    · refine bits_ext fun i => ?_
      rw [BitVec.getLsbD_or, BitVec.getLsbD_and, Bool.or_eq_true, Bool.and_eq_true, one_shl]
      constructor
      · rintro (h1 | ⟨rfl, _⟩)
        · exact h1.1
        · exact h
      · intro h1
        by_cases e : i = k
        · exact .inr ⟨e, by omega⟩
        · left
          refine ⟨h1, ?_⟩
          have hi : i < 32 := Classical.byContradiction fun hn => by rw [BitVec.getLsbD_of_ge _ _ (by omega)] at h1; cases h1
          rw [BitVec.getLsbD_not, decide_eq_true hi, Bool.true_and, Bool.not_eq_true']
          cases hx : (1#32 <<< k).getLsbD i with
          | false => rfl
          | true => exact absurd ((one_shl k i).1 hx).1 e
    · refine bits_ext fun i => ?_
      rw [BitVec.getLsbD_and, BitVec.getLsbD_and]
      simp only [BitVec.getLsbD_zero, Bool.false_eq_true, iff_false, Bool.and_eq_true, not_and]
      rintro ⟨_, h2⟩ h3
      rw [BitVec.getLsbD_not, h3] at h2
      simp at h2
  conv => lhs; rw [← e1]
  exact BitVec.add_sub_cancel _ _

/-! ### Deed by deed -/
def dLb : Label := { level := 0, parts := 0#32 }
def dDeed : Deed := { kind := 0, by_ := 0, to := 0, label := dLb, val := 0 }
structure RS3 where
  cs : List Int
  gv : List Wd
  pl : List Wd
def kbad (d : Deed) : Bool := (decide (d.kind < (1 : Int))) || (decide (d.kind > (4 : Int)))
def abad (m : Nat) (us : Int) (d : Deed) : Bool := ((((decide (d.by_ < (0 : Int))) || (decide (d.by_ ≥ us))) || (decide (d.to < (0 : Int)))) || (decide (d.to ≥ (m : Int))))
def say (s : RS3) (k : Int) : RS3 := { s with cs := s.cs ++ [k] }
noncomputable def two (m : Nat) (ps : List (Int × Int)) (g : Wd) (o : Wd) : Bool := decide ((cntN 32 (o &&& WB m ps g).getLsbD : Int) > 1)
noncomputable def step (m : Nat) (ps : List (Int × Int)) (odds : List Wd) (us : Int) (d : Deed) (s : RS3) : RS3 :=
  bif kbad d then say s 6 else bif abad m us d then say s 2 else
  bif d.kind == 1 then (bif odds.any (two m ps (s.gv[d.by_.toNat]?.getD 0#32 ||| (1#32 <<< d.to.toNat))) then say s 7 else bif (s.gv[d.by_.toNat]?.getD 0#32).getLsbD d.to.toNat then say s 5 else
    { cs := s.cs ++ [0], gv := s.gv.set d.by_.toNat (s.gv[d.by_.toNat]?.getD 0#32 ||| (1#32 <<< d.to.toNat)), pl := s.pl }) else
  bif d.kind == 2 then (bif (s.gv[d.by_.toNat]?.getD 0#32).getLsbD d.to.toNat then
    { cs := s.cs ++ [0], gv := s.gv.set d.by_.toNat (s.gv[d.by_.toNat]?.getD 0#32 &&& ~~~(1#32 <<< d.to.toNat)), pl := s.pl.set d.by_.toNat (s.pl[d.by_.toNat]?.getD 0#32 &&& WB m ps (s.gv[d.by_.toNat]?.getD 0#32 &&& ~~~(1#32 <<< d.to.toNat))) } else say s 5) else
  bif d.kind == 3 then (bif (WB m ps (s.gv[d.by_.toNat]?.getD 0#32)).getLsbD d.to.toNat then (bif (s.pl[d.by_.toNat]?.getD 0#32).getLsbD d.to.toNat then say s 5 else
    { cs := s.cs ++ [0], gv := s.gv, pl := s.pl.set d.by_.toNat (s.pl[d.by_.toNat]?.getD 0#32 ||| (1#32 <<< d.to.toNat)) }) else say s 7) else
  (bif (s.pl[d.by_.toNat]?.getD 0#32).getLsbD d.to.toNat then { cs := s.cs ++ [0], gv := s.gv, pl := s.pl.set d.by_.toNat (s.pl[d.by_.toNat]?.getD 0#32 &&& ~~~(1#32 <<< d.to.toNat)) } else say s 5)
noncomputable def run (m : Nat) (ps : List (Int × Int)) (odds : List Wd) (us : Int) (w : List Deed) : Nat → RS3
  | 0 => { cs := [], gv := List.replicate us.toNat 0#32, pl := List.replicate us.toNat 0#32 }
  | j + 1 => step m ps odds us (w[j]?.getD dDeed) (run m ps odds us w j)
structure Ok (us : Int) (s : RS3) (j : Nat) : Prop where
  gv : (s.gv.length : Int) = us
  pl : (s.pl.length : Int) = us
  cs : s.cs.length = j
theorem Ok.ite {us : Int} {a b : RS3} {j : Nat} (c : Bool) (h1 : Ok us a j) (h2 : Ok us b j) : Ok us (bif c then a else b) j := by cases c; exact h2; exact h1
theorem step_ok {m : Nat} {ps : List (Int × Int)} {odds : List Wd} {us : Int} {s : RS3} {j : Nat} (d : Deed) (h : Ok us s j) : Ok us (step m ps odds us d s) (j + 1) := by
  obtain ⟨h1, h2, h3⟩ := h
  have hs : ∀ k, Ok us (say s k) (j + 1) := fun k => ⟨h1, h2, by simp [say, h3]⟩
  unfold step
  refine .ite _ (hs _) (.ite _ (hs _) (.ite _ (.ite _ (hs _) (.ite _ (hs _) ⟨?_, h2, ?_⟩)) (.ite _ (.ite _ ⟨?_, ?_, ?_⟩ (hs _)) (.ite _ (.ite _ (.ite _ (hs _) ⟨h1, ?_, ?_⟩) (hs _)) (.ite _ ⟨h1, ?_, ?_⟩ (hs _))))))
  all_goals first | (rw [List.length_set]; assumption) | (rw [List.length_append, h3]; rfl)
theorem run_ok {m : Nat} {ps : List (Int × Int)} {odds : List Wd} {us : Int} (h0 : 0 ≤ us) (w : List Deed) (j : Nat) : Ok us (run m ps odds us w j) j := by
  induction j with
  | zero => exact ⟨by simp [run]; omega, by simp [run]; omega, rfl⟩
  | succ j ih => exact step_ok _ ih
theorem at_in {α : Type} {xs : List α} {i : Int} (d : α) (h0 : 0 ≤ i) (h : i < xs.length) : geti xs i = some (xs[i.toNat]?.getD d) := by
  rw [geti_int h0 h, getd_at d (by omega)]
theorem set_in {xs : List Wd} {i : Int} {y : Wd} (h0 : 0 ≤ i) (h : i < xs.length) : geti (xs.set i.toNat y) i = some y := by
  rw [geti_int h0 (by rw [List.length_set]; exact h)]
  simp
theorem cont_eq (s : List Wd) (f : Wd → Option Bool) (p : Wd → Bool) (hf : ∀ a ∈ s, f a = some (p a)) : slices_ContainsFunc_Suint32uint32 s f = some (s.any p) := by
  unfold slices_ContainsFunc_Suint32uint32 slices_IndexFunc_Suint32uint32 slices_IndexFunc_Suint32uint32_b7 slices_IndexFunc_Suint32uint32_k3
  exact any_shape s f p hf

theorem do_eq {m : Nat} {ps : List (Int × Int)} {odds : List Wd} {us : Int} {s : RS3} {j : Nat} {T : List Wd} (hm : m ≤ 6) (hR : Rel T m fun i j => j < m ∧ Rch ps i j) (d : Deed) (h : Ok us s j) :
    roles_office_do { up := T, odds := odds, roles := { codes := s.cs, given := s.gv, play := s.pl } } d = some ((step m ps odds us d s).cs[j]?.getD 0, { up := T, odds := odds, roles := { codes := s.cs, given := (step m ps odds us d s).gv, play := (step m ps odds us d s).pl } }) ∧ (step m ps odds us d s).cs = s.cs ++ [(step m ps odds us d s).cs[j]?.getD 0] := by
  obtain ⟨h1, h2, h4⟩ := h
  have hT := hR.1
  have hc : ∀ k : Int, (s.cs ++ [k])[j]?.getD 0 = k := fun k => by rw [List.getElem?_append_right (by omega), h4, Nat.sub_self]; rfl
  unfold roles_office_do step say
  cases hk : kbad d with
  | true =>
    unfold kbad at hk
    rw [hk, cond_true, cond_true]
    simp only [hc]; exact ⟨by first | rfl | trivial, by first | rfl | trivial⟩
  | false =>
    have hk' := hk
    unfold kbad at hk'
    rw [hk', cond_false, cond_false]
    have ea : ((((decide (d.by_ < (0 : Int))) || (decide (d.by_ ≥ (s.gv.length : Int)))) || (decide (d.to < (0 : Int)))) || (decide (d.to ≥ (T.length : Int)))) = abad m us d := by unfold abad; rw [h1, hT]
    simp only [ea]
    cases ha : abad m us d with
    | true => simp only [cond_true, hc]; exact ⟨by first | rfl | trivial, by first | rfl | trivial⟩
    | false =>
      unfold abad at ha
      simp only [Bool.or_eq_false_iff, decide_eq_false_iff_not] at ha hk'
      have hi0 : 0 ≤ d.by_ := by omega
      have eg := at_in (xs := s.gv) 0#32 hi0 (by omega)
      have ep := at_in (xs := s.pl) 0#32 hi0 (by omega)
      have hk32 : d.to.toNat < 32 := by omega
      have hset : ∀ y : Wd, geti (s.gv.set d.by_.toNat y) d.by_ = some y := fun y => set_in hi0 (by omega)
      simp only [cond_false, eg, ep, Option.bind_some, decide_eq_true (show 0 ≤ d.to by omega), cond_true, belowW hm hR, bit_and _ _ hk32, and_bit0 _ hk32, hset]
      rw [cont_eq odds (fun a => roles_office_do_c1 a (WB m ps (s.gv[d.by_.toNat]?.getD 0#32 ||| (1#32 <<< d.to.toNat)))) (two m ps (s.gv[d.by_.toNat]?.getD 0#32 ||| (1#32 <<< d.to.toNat))) (fun a _ => by
        unfold roles_office_do_c1
        rw [onesCount_eq, Option.bind_some]; rfl)]
      cases e1 : d.kind == 1 with
      | true =>
        simp only [cond_true, Option.bind_some]
        cases odds.any (two m ps (s.gv[d.by_.toNat]?.getD 0#32 ||| (1#32 <<< d.to.toNat))) <;> cases (s.gv[d.by_.toNat]?.getD 0#32).getLsbD d.to.toNat <;> simp [hc]
      | false =>
        cases e2 : d.kind == 2 with
        | true =>
          simp only [cond_true, cond_false]
          cases (s.gv[d.by_.toNat]?.getD 0#32).getLsbD d.to.toNat <;> simp [hc]
        | false =>
          cases e3 : d.kind == 3 with
          | true =>
            simp only [cond_true, cond_false]
            cases (WB m ps (s.gv[d.by_.toNat]?.getD 0#32)).getLsbD d.to.toNat <;> cases (s.pl[d.by_.toNat]?.getD 0#32).getLsbD d.to.toNat <;> simp [hc]
          | false =>
            have e4 : (d.kind == 4) = true := by
              rw [beq_iff_eq]
              have h1' : d.kind ≠ 1 := by simpa using e1
              have h2' : d.kind ≠ 2 := by simpa using e2
              have h3' : d.kind ≠ 3 := by simpa using e3
              omega
            simp only [e4, cond_true, cond_false]
            cases (s.pl[d.by_.toNat]?.getD 0#32).getLsbD d.to.toNat <;> simp [hc]

theorem ref_step {m fuel : Nat} {ps : List (Int × Int)} {odds : List Wd} {us : Int} {s : RS3} {j : Nat} (hm : m ≤ 6) (hps : ps.length ≤ 20) (hf : 30 < fuel) (d : Deed) (h : Ok us s j) (hj : j ≤ 1000) (w : List Deed) (i : Int) (hw : geti w i = some d) (nx : (List Wd × List Wd × List Int) → Option Roles) :
    syllogistref_Roles_b389 m ps odds us w fuel i s.pl s.gv s.cs nx = nx ((step m ps odds us d s).pl, (step m ps odds us d s).gv, (step m ps odds us d s).cs) := by
  obtain ⟨h1, h2, h4⟩ := h
  have hr : ∀ k : Int, decide (s.cs.length + ([k] : List Int).length ≤ 17592186044416) = true := fun k => decide_eq_true (by simp only [List.length_cons, List.length_nil]; omega)
  have h401 : ∀ e p g, syllogistref_Roles_k401 s.cs nx e p g = nx (p, g, s.cs ++ [e]) := fun e p g => by unfold syllogistref_Roles_k401; rw [hr, cond_true]
  unfold syllogistref_Roles_b389 step say
  rw [hw, Option.bind_some]
  cases hk : kbad d with
  | true =>
    unfold kbad at hk
    rw [hk, cond_true, cond_true, h401]
  | false =>
    have hk' := hk
    unfold kbad at hk'
    rw [hk', cond_false, cond_false]
    cases ha : abad m us d with
    | true => unfold abad at ha; rw [ha, cond_true, cond_true, h401]
    | false =>
      have ha' := ha
      unfold abad at ha'
      rw [ha', cond_false, cond_false]
      simp only [Bool.or_eq_false_iff, decide_eq_false_iff_not] at ha' hk'
      have hi0 : 0 ≤ d.by_ := by omega
      have eg := at_in (xs := s.gv) 0#32 hi0 (by omega)
      have ep := at_in (xs := s.pl) 0#32 hi0 (by omega)
      have hk32 : d.to.toNat < 32 := by omega
      have hset : ∀ y : Wd, geti (s.gv.set d.by_.toNat y) d.by_ = some y := fun y => set_in hi0 (by omega)
      have et : (BitVec.ofInt 64 d.to).toNat = d.to.toNat := by
        obtain ⟨k, hk⟩ : ∃ k : Nat, d.to = k := ⟨d.to.toNat, by omega⟩
        rw [hk, ofInt64 (by omega), Int.toNat_natCast]
      have hIn : ∀ y : Wd, syllogistref_In (1#32 <<< d.to.toNat) y = some (y.getLsbD d.to.toNat) := fun y => by unfold syllogistref_In; rw [in_bit y hk32]
      simp only [et, eg, ep, Option.bind_some, hIn, withW hm hps hf, hset, h401]
      cases e1 : d.kind == 1 with
      | true =>
        simp only [cond_true]
        rw [for_rec (s := (0 : Int)) (n := odds.length) (fun t => bif anyN t (fun q => two m ps (s.gv[d.by_.toNat]?.getD 0#32 ||| (1#32 <<< d.to.toNat)) (odds[q]?.getD 0#32)) then (7 : Int) else 0) rfl rfl (fun t nx' ht => by
          unfold syllogistref_Roles_b423
          rw [geti_d 0#32 ht, Option.bind_some, eg, Option.bind_some, et, withW hm hps hf, Option.bind_some, size_eq, Option.bind_some, anyN]
          change (bif two m ps (s.gv[d.by_.toNat]?.getD 0#32 ||| (1#32 <<< d.to.toNat)) (odds[t]?.getD 0#32) then _ else _) = _
          cases two m ps (s.gv[d.by_.toNat]?.getD 0#32 ||| (1#32 <<< d.to.toNat)) (odds[t]?.getD 0#32) <;> cases anyN t (fun q => two m ps (s.gv[d.by_.toNat]?.getD 0#32 ||| (1#32 <<< d.to.toNat)) (odds[q]?.getD 0#32)) <;> rfl)]
        have hany : anyN odds.length (fun q => two m ps (s.gv[d.by_.toNat]?.getD 0#32 ||| (1#32 <<< d.to.toNat)) (odds[q]?.getD 0#32)) = odds.any (two m ps (s.gv[d.by_.toNat]?.getD 0#32 ||| (1#32 <<< d.to.toNat))) := by
          rw [any_len]
          exact anyN_congr fun q hq => by rw [List.getElem?_eq_getElem hq]; rfl
        rw [hany]
        unfold syllogistref_Roles_k412 syllogistref_Roles_k417
        rw [eg, et]
        simp only [Option.isSome_some, Bool.or_true, cond_true, Option.getD_some, hIn, Option.bind_some, h401]
        cases odds.any (two m ps (s.gv[d.by_.toNat]?.getD 0#32 ||| (1#32 <<< d.to.toNat))) with
        | true => rfl
        | false =>
          cases hb : (s.gv[d.by_.toNat]?.getD 0#32).getLsbD d.to.toNat with
          | true => rfl
          | false => rw [add_bit hb]; rfl
      | false =>
        cases e2 : d.kind == 2 with
        | true =>
          simp only [cond_true, cond_false]
          cases hb : (s.gv[d.by_.toNat]?.getD 0#32).getLsbD d.to.toNat with
          | true => rw [subB hk32 hb]; rfl
          | false => rfl
        | false =>
          cases e3 : d.kind == 3 with
          | true =>
            simp only [cond_true, cond_false]
            cases (WB m ps (s.gv[d.by_.toNat]?.getD 0#32)).getLsbD d.to.toNat with
            | false => rfl
            | true =>
              cases hb : (s.pl[d.by_.toNat]?.getD 0#32).getLsbD d.to.toNat with
              | true => rfl
              | false => rw [add_bit hb]; rfl
          | false =>
            have e4 : (d.kind == 4) = true := by
              rw [beq_iff_eq]
              have h1' : d.kind ≠ 1 := by simpa using e1
              have h2' : d.kind ≠ 2 := by simpa using e2
              have h3' : d.kind ≠ 3 := by simpa using e3
              omega
            simp only [e4, cond_true, cond_false]
            cases hb : (s.pl[d.by_.toNat]?.getD 0#32).getLsbD d.to.toNat with
            | true => rw [subB hk32 hb]; rfl
            | false => rfl

theorem codes_rf (a : List Int) : syllogistref_Codes a a = some true := by
  unfold syllogistref_Codes syllogistref_Codes_b7 syllogistref_Codes_k3
  rw [lists_eq a a, decide_eq_true rfl]
theorem words_rf (a : List Wd) : syllogistref_Words a a = some true := by
  unfold syllogistref_Words syllogistref_Words_b7 syllogistref_Words_k3
  rw [lists_eq a a, decide_eq_true rfl]
theorem k42_rf (a : Roles) (x : Int) : syllogistlaw_RolesPlays_k42 (a, x) x a.codes a.given a.play = some true := by
  unfold syllogistlaw_RolesPlays_k42
  simp [codes_rf, words_rf]

def wide (m : Nat) (s : Wd) : Bool := !decide (s < 1#32 <<< m)
theorem k18_eq {fuel : Nat} (n : Int) (ps : List (Int × Int)) (odds : List Wd) (us : Int) (w : List Deed) (r4 : Roles × Int) (x : Int) (hx : x ≠ 0) : syllogistlaw_RolesPlays_k18 n ps odds us w fuel r4 x = syllogistlaw_RolesPlays_k25 n ps odds us w fuel r4 x := by
  have h4 : (x == 0) = false := by simpa using hx
  unfold syllogistlaw_RolesPlays_k18
  rw [for_rec (s := x) (n := odds.length) (fun _ => x) rfl rfl (fun j nx hj => by
    unfold syllogistlaw_RolesPlays_b64
    rw [geti_at hj, Option.bind_some, h4]; rfl)]
theorem k18_zero {fuel m : Nat} (hm : m ≤ 6) (ps : List (Int × Int)) (odds : List Wd) (us : Int) (w : List Deed) (r4 : Roles × Int) : syllogistlaw_RolesPlays_k18 m ps odds us w fuel r4 0 = syllogistlaw_RolesPlays_k25 m ps odds us w fuel r4 (bif odds.any (wide m) then 4 else 0) := by
  unfold syllogistlaw_RolesPlays_k18
  rw [for_rec (s := (0 : Int)) (n := odds.length) (fun t => bif anyN t (fun q => wide m (odds[q]?.getD 0#32)) then (4 : Int) else 0) rfl rfl (fun j nx hj => by
    unfold syllogistlaw_RolesPlays_b64
    have hF : ∀ y : Wd, syllogistref_Fits m y = some (!wide m y) := fun y => by
      unfold syllogistref_Fits wide
      rw [fits_shape (by omega), Bool.not_not]
    rw [geti_d 0#32 hj, Option.bind_some, hF, anyN]
    simp only [Option.isSome_some, Bool.or_true, cond_true, Option.getD_some, Bool.not_not]
    cases anyN j (fun q => wide m (odds[q]?.getD 0#32)) <;> cases wide m (odds[j]?.getD 0#32) <;> rfl)]
  have hany : anyN odds.length (fun q => wide m (odds[q]?.getD 0#32)) = odds.any (wide m) := by
    rw [any_len]
    exact anyN_congr fun q hq => by rw [List.getElem?_eq_getElem hq]; rfl
  rw [hany]

theorem k25_nz {fuel : Nat} (n : Int) (ps : List (Int × Int)) (odds : List Wd) (us : Int) (w : List Deed) (x : Int) (hx : x ≠ 0) : syllogistlaw_RolesPlays_k25 n ps odds us w fuel ({ codes := [], given := [], play := [] }, x) x = some true := by
  have h4 : (x == 0) = false := by simpa using hx
  unfold syllogistlaw_RolesPlays_k25
  rw [h4]
  exact k42_rf { codes := [], given := [], play := [] } x
theorem rolesPlays_true (fuel : Nat) (n : Int) (ps : List (Int × Int)) (odds : List Wd) (us : Int) (w : List Deed) (hf : 30 < fuel := by decide) : syllogistlaw_RolesPlays fuel n ps odds us w = some true := by
  unfold syllogistlaw_RolesPlays roles_Play
  obtain ⟨T, e, h1, h2⟩ := table_eq n ps
  rw [e, check_eq fuel n ps hf]
  simp only [Option.bind_some]
  by_cases hc : chk n ps = 0
  · obtain ⟨m, rfl, m6, m1, hps, hR⟩ := h2 hc
    rw [hc]
    simp only [bne_self_eq_false, cond_false, beq_self_eq_true, Bool.true_and]
    cases hb : ((((decide (us < (1 : Int))) || (decide (us > (5 : Int)))) || (decide ((w.length : Int) > (30 : Int)))) || (decide ((odds.length : Int) > (10 : Int)))) with
    | true =>
      simp only [cond_true, Option.bind_some]
      rw [k18_eq _ _ _ _ _ _ _ (by decide)]
      exact k25_nz _ _ _ _ _ _ (by decide)
    | false =>
      simp only [Bool.or_eq_false_iff, decide_eq_false_iff_not] at hb
      have hcf : slices_ContainsFunc_Suint32uint32 odds (fun a => roles_Play_c1 a m) = some (odds.any (wide m)) := cont_eq _ _ _ fun a _ => by
        unfold roles_Play_c1 wide
        rw [decide_eq_true (by omega), cond_true, Int.toNat_natCast, shr_ne (by omega)]
      simp only [cond_false, hcf, Option.bind_some]
      cases ho : odds.any (wide m) with
      | true =>
        simp only [cond_true, Option.bind_some]
        rw [k18_zero m6, ho]
        exact k25_nz _ _ _ _ _ _ (by decide)
      | false =>
        simp only [cond_false]
        rw [decide_eq_true (by omega), cond_true]
        rw [for_rec (s := ((List.replicate us.toNat (0#32)), (List.replicate us.toNat (0#32)), ([] : List Int), T)) (n := w.length) (fun j => ((run m ps odds us w j).pl, (run m ps odds us w j).gv, (run m ps odds us w j).cs, T)) rfl rfl (fun j nx hj => by
          unfold roles_Play_b539
          dsimp only
          rw [geti_d dDeed hj, Option.bind_some]
          have hok := run_ok (m := m) (ps := ps) (odds := odds) (us := us) (by omega) w j
          obtain ⟨e1, e2⟩ := do_eq m6 hR (w[j]?.getD dDeed) hok
          change (roles_office_do _ (w[j]?.getD dDeed)).bind _ = _
          rw [e1, Option.bind_some]
          dsimp only
          rw [decide_eq_true (by have := hok.cs; simp only [List.length_cons, List.length_nil]; omega), cond_true, ← e2]
          rfl)]
        have hRf : syllogistref_Roles fuel m ps odds us w = some { codes := (run m ps odds us w w.length).cs, given := (run m ps odds us w w.length).gv, play := (run m ps odds us w w.length).pl } := by
          unfold syllogistref_Roles
          rw [decide_eq_true (by omega), cond_true]
          rw [for_rec (s := ((List.replicate us.toNat (0#32)), (List.replicate us.toNat (0#32)), ([] : List Int))) (n := w.length) (fun j => ((run m ps odds us w j).pl, (run m ps odds us w j).gv, (run m ps odds us w j).cs)) rfl rfl (fun j nx hj => by
            dsimp only
            rw [ref_step m6 hps hf (w[j]?.getD dDeed) (run_ok (by omega) w j) (by omega) w j (geti_d dDeed hj)]
            rfl)]
          rfl
        unfold roles_Play_k529
        rw [Option.bind_some, k18_zero m6, ho]
        unfold syllogistlaw_RolesPlays_k25
        rw [hRf]
        exact k42_rf { codes := _, given := _, play := _ } _
  · have h3 : (chk n ps != 0) = true := by simpa using hc
    have h4 : (chk n ps == 0) = false := by simpa using hc
    rw [h3, h4]
    simp only [cond_true, Bool.false_and, cond_false, Option.bind_some]
    rw [k18_eq _ _ _ _ _ _ _ hc]
    exact k25_nz _ _ _ _ _ _ hc
end Go.Proofs.Ytjpoedjmoobapaa.Sy
