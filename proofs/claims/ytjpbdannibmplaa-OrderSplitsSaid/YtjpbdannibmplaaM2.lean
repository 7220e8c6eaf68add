/- Covers, lines and what stands apart: the plain laws; no program in sight. -/
import Derived.Test.YtjpbdannibmplaaM0
import Derived.Test.YtjpbdannibmplaaMb
namespace Go.Proofs.Ytjpbdannibmplaa.Sy
set_option linter.unusedVariables false

noncomputable def rr (ps : List (Int × Int)) (i j : Nat) : Bool := tru (Rch ps i j)
theorem rr_refl (ps : List (Int × Int)) (i : Nat) : rr ps i i = true := tru_iff.2 .refl
theorem rr_trans {ps : List (Int × Int)} {i j k : Nat} (h : rr ps i j = true) (h' : rr ps j k = true) : rr ps i k = true := tru_iff.2 ((tru_iff.1 h).trans (tru_iff.1 h'))
abbrev ub (up : List (BitVec 32)) (i : Nat) : BitVec 32 := up[i]?.getD 0#32
structure OO (n : Int) (ps : List (Int × Int)) (up : List (BitVec 32)) (m : Nat) : Prop where
  n : n = m
  m1 : 1 ≤ m
  m6 : m ≤ 6
  pl : ps.length ≤ 20
  len : up.length = m
  bit : ∀ i j, i < m → (ub up i).getLsbD j = (decide (j < m) && rr ps i j)
  anti : ∀ i j, i < m → j < m → rr ps i j = true → rr ps j i = true → i = j

theorem table2 (n : Int) (ps : List (Int × Int)) : ∃ up c, order_Table n ps = some (up, c) ∧ (∀ fuel, 30 < fuel → syllogistref_OrderCheck fuel n ps = some c) ∧ (c ≠ 0 → up = []) ∧ (c = 0 → ∃ m, OO n ps up m) := by
  obtain ⟨l, e, h1, h2⟩ := table_eq n ps
  refine ⟨l, chk n ps, e, fun fuel hf => check_eq fuel n ps hf, h1, fun h0 => ?_⟩
  obtain ⟨m, rfl, m6, m1, hps, hl, hR⟩ := h2 h0
  refine ⟨m, rfl, m1, m6, hps, hl, fun i j hi => ?_, fun i j hi hj hij hji => ?_⟩
  · rw [show ub l i = l[i] from getd_at _ (by omega), Bool.eq_iff_iff, hR i (by omega) j, Bool.and_eq_true, decide_eq_true_eq]
    exact and_congr_right fun _ => tru_iff.symm
  · have hnc : ¬cyc m ps := by
      intro hc
      unfold chk at h0
      split at h0
      · cases h0
      · split at h0
        · cases h0
        · first | cases h0 | (rw [if_pos hc] at h0; cases h0)
    rcases Nat.lt_trichotomy i j with h | h | h
    · exact absurd ⟨j, i, h, by omega, tru_iff.1 hji, tru_iff.1 hij⟩ hnc
    · exact h
    · exact absurd ⟨i, j, h, by omega, tru_iff.1 hij, tru_iff.1 hji⟩ hnc

theorem under2 {n : Int} {ps : List (Int × Int)} {up : List (BitVec 32)} {m : Nat} (h : OO n ps up m) (fuel : Nat) (hf : 30 < fuel) (k : Int) (i j : Nat) : syllogistref_Under fuel k ps i j = some (rr ps i j) := by
  have := h.pl
  obtain ⟨r, e, hr⟩ := under_eq fuel k ps i j (by omega) (by omega)
  rw [e, tru_of hr]; rfl

/-! ### Lists put together -/
theorem apps_pre {α : Type} {n i : Nat} {f : Nat → List α} (h : i ≤ n) : ∃ r, apps n f = apps i f ++ r := by
  induction n with
  | zero => have : i = 0 := by omega
            subst this; exact ⟨[], rfl⟩
  | succ n ih =>
    by_cases e : i = n + 1
    · subst e; exact ⟨[], by simp⟩
    · obtain ⟨r, hr⟩ := ih (by omega)
      exact ⟨r ++ f n, by rw [apps, hr, List.append_assoc]⟩
theorem apps_at {α : Type} {n i : Nat} {f : Nat → List α} (h : i < n) : ∃ r, apps n f = apps i f ++ (f i ++ r) := by
  obtain ⟨r, hr⟩ := apps_pre (f := f) (show i + 1 ≤ n by omega)
  exact ⟨r, by rw [hr, apps, List.append_assoc]⟩

/-! ### Covers -/
noncomputable def cv (m : Nat) (ps : List (Int × Int)) (i j : Nat) : Bool := (!(j == i) && rr ps i j) && !anyN m (fun k => (!(k == j) && (!(k == i) && rr ps i k)) && rr ps k j)
noncomputable def cvs (m : Nat) (ps : List (Int × Int)) (i : Nat) (j : Nat) : List (Int × Int) := bif cv m ps i j then [((i : Int), (j : Int))] else []
noncomputable def cvl (m : Nat) (ps : List (Int × Int)) (i : Nat) : List (Int × Int) := apps m (cvs m ps i)

theorem above_bit {n : Int} {ps : List (Int × Int)} {up : List (BitVec 32)} {m : Nat} (h : OO n ps up m) {i k : Nat} (hi : i < m) (hk : k < m) : (ub up i &&& ~~~(1#32 <<< i)).getLsbD k = (!(k == i) && rr ps i k) := by
  have m6 := h.m6
  have e := without_bit (ub up i) i k
  unfold without at e
  rw [Bool.eq_iff_iff, e, h.bit i k hi, decide_eq_true hk, Bool.true_and, Bool.and_eq_true, Bool.not_eq_true', beq_eq_false_iff_ne]
  exact and_comm
theorem ne_cast (a b : Nat) : ((a : Int) != (b : Int)) = !(a == b) := by
  rw [Bool.eq_iff_iff, bne_iff_ne, Bool.not_eq_true', beq_eq_false_iff_ne]; omega
theorem eq_cast (a b : Nat) : ((a : Int) == (b : Int)) = (a == b) := by
  rw [Bool.eq_iff_iff, beq_iff_eq, beq_iff_eq]; omega

theorem cvs_len {m : Nat} {ps : List (Int × Int)} {i t : Nat} : (apps t (cvs m ps i)).length ≤ t := by
  have := apps_len (n := t) (c := 1) (f := cvs m ps i) fun j _ => by
    unfold cvs
    cases cv m ps i j <;> simp
  omega
theorem cvl_len {m : Nat} {ps : List (Int × Int)} {t : Nat} : (apps t (cvl m ps)).length ≤ t * m := apps_len fun i _ => cvs_len

theorem covers_eq {n : Int} {ps : List (Int × Int)} {up : List (BitVec 32)} {m : Nat} (h : OO n ps up m) (ht : order_Table n ps = some (up, 0)) : order_Covers n ps = some (apps m (cvl m ps), 0) := by
  have m6 := h.m6
  have hlen := h.len
  unfold order_Covers
  rw [ht, Option.bind_some]
  simp only [bne_self_eq_false, cond_false]
  refine (for_apps (n := m) (cvl m ps) (by rw [hlen]) (fun i s nx hi hs => ?_)).trans rfl
  unfold order_Covers_b18
  have hsl := cvl_len (m := m) (ps := ps) (t := i)
  have him : i * m ≤ 6 * 6 := Nat.mul_le_mul (by omega) m6
  refine (for_rec (n := m) (fun j => s ++ apps j (cvs m ps i)) (by rw [hlen]) (by simp [apps]) (fun j nx' hj => ?_)).trans rfl
  unfold order_Covers_b33
  have hg : geti up (i : Int) = some (ub up i) := geti_d _ (by omega)
  have hjl := cvs_len (m := m) (ps := ps) (i := i) (t := j)
  simp only
  rw [hg, Option.bind_some]
  simp only [Int.toNat_natCast, bit_shr1, above_bit h hi hj]
  have ha : s ++ apps (j + 1) (cvs m ps i) = (s ++ apps j (cvs m ps i)) ++ cvs m ps i j := by rw [apps, List.append_assoc]
  rw [ha]
  cases hq : (!(j == i) && rr ps i j) with
  | false =>
    unfold cvs cv
    rw [hq]
    simp
  | true =>
    rw [Bool.not_true, cond_false]
    refine (for_any (n := m) (fun k => (!(k == j) && (!(k == i) && rr ps i k)) && rr ps k j) (by rw [hlen]) (fun k b nx2 hk => ?_)).trans ?_
    · unfold order_Covers_b51
      have hgk : geti up (k : Int) = some (ub up k) := geti_d _ (by omega)
      rw [hgk]
      simp only [Option.isSome_some, Bool.or_true, cond_true, Option.getD_some, Int.toNat_natCast, bit_shr, above_bit h hi hk, ne_cast, h.bit k j hk, decide_eq_true hj, Bool.true_and]
    · unfold order_Covers_k43
      rw [Bool.false_or, decide_eq_true (by rw [List.length_append, hs]; simp only [List.length_cons, List.length_nil]; omega), cond_true]
      unfold cvs cv
      rw [hq, Bool.true_and]
      cases anyN m (fun k => (!(k == j) && (!(k == i) && rr ps i k)) && rr ps k j)
      · rfl
      · simp

theorem cover_eq {n : Int} {ps : List (Int × Int)} {up : List (BitVec 32)} {m : Nat} (h : OO n ps up m) (fuel : Nat) (hf : 30 < fuel) {i j : Nat} (hi : i < m) (hj : j < m) : syllogistref_Cover fuel m ps i j = some (cv m ps i j) := by
  have m6 := h.m6
  unfold syllogistref_Cover
  rw [under2 h fuel hf]
  simp only [Option.isSome_some, Bool.or_true, cond_true, Option.getD_some, eq_cast]
  have hq : ((i == j) || !rr ps i j) = !(!(j == i) && rr ps i j) := by
    rw [show (j == i) = (i == j) from BEq.comm]
    cases (i == j) <;> cases rr ps i j <;> rfl
  rw [hq]
  unfold cv
  cases (!(j == i) && rr ps i j) with
  | false => rfl
  | true =>
    rw [Bool.not_true, cond_false, decide_eq_true (by omega), cond_true]
    rw [for_out (n := m) (fun k => (!(k == j) && (!(k == i) && rr ps i k)) && rr ps k j) (some false) rfl (fun k nx hk => by
      unfold syllogistref_Cover_b8
      rw [under2 h fuel hf, under2 h fuel hf]
      simp only [Option.isSome_some, Bool.or_true, cond_true, Option.getD_some, ne_cast]
      have : (((!(k == i) && !(k == j)) && rr ps i k) && rr ps k j) = ((!(k == j) && (!(k == i) && rr ps i k)) && rr ps k j) := by
        cases (k == i) <;> cases (k == j) <;> simp
      rw [this])]
    unfold syllogistref_Cover_k4
    cases anyN m (fun k => (!(k == j) && (!(k == i) && rr ps i k)) && rr ps k j) <;> rfl

theorem orderCovers_true (fuel : Nat) (n : Int) (ps : List (Int × Int)) (hf : 100 < fuel := by decide) : syllogistlaw_OrderCovers fuel n ps = some true := by
  unfold syllogistlaw_OrderCovers
  obtain ⟨up, c, e1, e2, h1, h2⟩ := table2 n ps
  rw [e2 fuel (by omega)]
  by_cases hc : c = 0
  · subst hc
    obtain ⟨m, h⟩ := h2 rfl
    have m6 := h.m6
    rw [covers_eq h e1]
    have hn := h.n
    subst hn
    simp only [Option.bind_some, bne_self_eq_false, cond_false]
    rw [decide_eq_true (by omega), cond_true]
    have hL := cvl_len (m := m) (ps := ps) (t := m)
    have hmm : m * m ≤ 6 * 6 := Nat.mul_le_mul m6 m6
    refine (for_rec (n := m) (fun i => ((apps i (cvl m ps)).length : Int)) rfl rfl (fun i nx hi => ?_)).trans ?_
    · unfold syllogistlaw_OrderCovers_b16
      rw [decide_eq_true (by omega), cond_true]
      obtain ⟨r, hr⟩ := apps_at (f := cvl m ps) hi
      refine (for_rec (n := m) (fun j => ((apps i (cvl m ps) ++ apps j (cvs m ps i)).length : Int)) rfl (by simp [apps]) (fun j nx' hj => ?_)).trans ?_
      · unfold syllogistlaw_OrderCovers_b28
        rw [cover_eq h fuel (by omega) hi hj, Option.bind_some]
        have ha : apps i (cvl m ps) ++ apps (j + 1) (cvs m ps i) = (apps i (cvl m ps) ++ apps j (cvs m ps i)) ++ cvs m ps i j := by rw [apps, List.append_assoc]
        rw [ha]
        cases hv : cv m ps i j with
        | false =>
          have : cvs m ps i j = [] := by unfold cvs; rw [hv]; rfl
          rw [this, List.append_nil]; rfl
        | true =>
          have hcv : cvs m ps i j = [((i : Int), (j : Int))] := by unfold cvs; rw [hv]; rfl
          obtain ⟨r', hr'⟩ := apps_at (f := cvs m ps i) hj
          have hall : apps m (cvl m ps) = (apps i (cvl m ps) ++ apps j (cvs m ps i)) ++ (((i : Int), (j : Int)) :: (r' ++ r)) := by
            rw [hr, show cvl m ps i = apps m (cvs m ps i) from rfl, hr', hcv]; simp
          have hlt : (apps i (cvl m ps) ++ apps j (cvs m ps i)).length < (apps m (cvl m ps)).length := by rw [hall, List.length_append]; simp
          have hg : geti (apps m (cvl m ps)) ((apps i (cvl m ps) ++ apps j (cvs m ps i)).length : Int) = some ((i : Int), (j : Int)) := by
            rw [geti_nat?, hall, List.getElem?_append_right (Nat.le_refl _)]; simp
          have hdf : decide (((apps i (cvl m ps) ++ apps j (cvs m ps i)).length : Int) ≥ ((apps m (cvl m ps)).length : Int)) = false := decide_eq_false (by omega)
          simp only [hdf, hg, Option.isSome_some, Bool.or_true, cond_true, Option.getD_some, beq_self_eq_true, Bool.and_self, Bool.not_true, Bool.or_self, cond_false]
          rw [w64_succ (by omega), hcv]
          congr 1
          simp only [List.length_append, List.length_cons, List.length_nil]
      · unfold syllogistlaw_OrderCovers_k24
        rfl
    · unfold syllogistlaw_OrderCovers_k12
      simp
  · have hcb : (c != 0) = true := by simpa using hc
    unfold order_Covers
    rw [e1]
    simp [hcb]

/-! ### What stands apart -/
theorem size_eq (w : BitVec 32) : syllogistref_Size w = some (cntN 32 w.getLsbD : Int) := by
  unfold syllogistref_Size
  refine (for_cnt (n := 32) w.getLsbD rfl (by omega) (fun j s nx hj => ?_)).trans rfl
  unfold syllogistref_Size_b9
  rw [bit_eq _ _ hj, Option.bind_some, cond_nx]
noncomputable def fr (m : Nat) (ps : List (Int × Int)) (s : BitVec 32) : Bool := allN m fun i => allN m fun j => !((!(i == j) && s.getLsbD i && s.getLsbD j) && rr ps i j)

theorem free_eq {n : Int} {ps : List (Int × Int)} {up : List (BitVec 32)} {m : Nat} (h : OO n ps up m) {s : BitVec 32} (hs : bel m s) : order_Free up s = some (fr m ps s) := by
  have m6 := h.m6
  unfold order_Free
  rw [for_out (n := m) (fun i => !allN m fun j => !((!(i == j) && s.getLsbD i && s.getLsbD j) && rr ps i j)) (some false) (by rw [h.len]) (fun i nx hi => by
    unfold order_Free_b7
    have hg : geti up (i : Int) = some (ub up i) := geti_d _ (by rw [h.len]; exact hi)
    rw [hg, Option.bind_some, Int.toNat_natCast, bit_shr]
    congr 1
    rw [Bool.eq_iff_iff, Bool.and_eq_true, bne_iff_ne, Bool.not_eq_true', allN_false]
    constructor
    · rintro ⟨hsi, hne⟩
      apply Classical.byContradiction
      intro hno
      apply hne
      refine bits_ext fun j => ?_
      rw [BitVec.getLsbD_and, Bool.and_eq_true, one_shl, h.bit i j hi, Bool.and_eq_true, decide_eq_true_eq]
      constructor
      · rintro ⟨⟨hj, hr⟩, hsj⟩
        refine ⟨?_, by omega⟩
        apply Classical.byContradiction
        intro hne'
        refine hno ⟨j, hj, ?_⟩
        have hij : (i == j) = false := by rw [beq_eq_false_iff_ne]; exact fun e => hne' e.symm
        rw [hij, hsi, hsj, hr]; rfl
      · rintro ⟨rfl, _⟩
        exact ⟨⟨hi, rr_refl ps _⟩, hsi⟩
    · rintro ⟨j, hj, hb⟩
      rw [Bool.not_eq_false'] at hb
      simp only [Bool.and_eq_true, Bool.not_eq_true', beq_eq_false_iff_ne] at hb
      obtain ⟨⟨⟨h1, h2⟩, h3⟩, h4⟩ := hb
      refine ⟨h2, fun e => ?_⟩
      have := congrArg (fun z : BitVec 32 => z.getLsbD j) e
      simp only [BitVec.getLsbD_and, h.bit i j hi, decide_eq_true hj, h3, h4, Bool.and_self] at this
      exact h1 ((one_shl i j).1 this.symm).1.symm)]
  unfold order_Free_k3 fr
  cases hA : allN m fun i => allN m fun j => !((!(i == j) && s.getLsbD i && s.getLsbD j) && rr ps i j) with
  | true => rw [anyN_false.2 fun i hi => by rw [allN_iff.1 hA i hi]; rfl]; rfl
  | false =>
    obtain ⟨i, hi, e⟩ := allN_false.1 hA
    rw [anyN_iff.2 ⟨i, hi, by rw [e]; rfl⟩]; rfl

theorem rfree_eq {n : Int} {ps : List (Int × Int)} {up : List (BitVec 32)} {m : Nat} (h : OO n ps up m) (fuel : Nat) (hf : 30 < fuel) (s : BitVec 32) : syllogistref_Free fuel m ps s = some (fr m ps s) := by
  have m6 := h.m6
  unfold syllogistref_Free
  rw [decide_eq_true (by omega), cond_true]
  rw [for_out (n := m) (fun i => !allN m fun j => !((!(i == j) && s.getLsbD i && s.getLsbD j) && rr ps i j)) (some false) rfl (fun i nx hi => by
    unfold syllogistref_Free_b7
    rw [decide_eq_true (by omega), cond_true]
    rw [for_out (n := m) (fun j => (!(i == j) && s.getLsbD i && s.getLsbD j) && rr ps i j) (some false) rfl (fun j nx' hj => by
      unfold syllogistref_Free_b16
      rw [bit_eq _ _ (by omega), bit_eq _ _ (by omega), under2 h fuel hf]
      simp only [Option.isSome_some, Bool.or_true, cond_true, Option.getD_some, ne_cast])]
    unfold syllogistref_Free_k12
    cases hA : allN m fun j => !((!(i == j) && s.getLsbD i && s.getLsbD j) && rr ps i j) with
    | true => rw [anyN_false.2 fun j hj => by have := allN_iff.1 hA j hj; rwa [Bool.not_eq_true'] at this]; rfl
    | false =>
      obtain ⟨j, hj, e⟩ := allN_false.1 hA
      rw [anyN_iff.2 ⟨j, hj, by simpa using e⟩]; rfl)]
  unfold syllogistref_Free_k3 fr
  cases hA : allN m fun i => allN m fun j => !((!(i == j) && s.getLsbD i && s.getLsbD j) && rr ps i j) with
  | true => rw [anyN_false.2 fun i hi => by rw [allN_iff.1 hA i hi]; rfl]; rfl
  | false =>
    obtain ⟨i, hi, e⟩ := allN_false.1 hA
    rw [anyN_iff.2 ⟨i, hi, by rw [e]; rfl⟩]; rfl

noncomputable def bst (m : Nat) (ps : List (Int × Int)) : Nat → BitVec 32
  | 0 => 0#32
  | t + 1 => bif fr m ps (BitVec.ofNat 32 t) && decide (cntN 32 (BitVec.ofNat 32 t).getLsbD > cntN 32 (bst m ps t).getLsbD) then BitVec.ofNat 32 t else bst m ps t

theorem orderAparts_true (fuel : Nat) (n : Int) (ps : List (Int × Int)) (hf : 100 < fuel := by decide) : syllogistlaw_OrderAparts fuel n ps = some true := by
  unfold syllogistlaw_OrderAparts order_Apart
  obtain ⟨up, c, e1, e2, h1, h2⟩ := table2 n ps
  rw [e1, e2 fuel (by omega)]
  simp only [Option.bind_some]
  by_cases hc : c = 0
  · subst hc
    obtain ⟨m, h⟩ := h2 rfl
    have m6 := h.m6
    have hn := h.n
    subst hn
    have hB : (1#32 <<< m).toNat = 2 ^ m := one_shl_toNat (by omega)
    simp only [bne_self_eq_false, cond_false]
    rw [decide_eq_true (by omega), cond_true, Int.toNat_natCast]
    have hgt : ∀ a b : Nat, decide ((a : Int) > (b : Int)) = decide (a > b) := fun a b => by
      rw [Bool.eq_iff_iff, decide_eq_true_eq, decide_eq_true_eq]; omega
    have a1 : forK (σ := (BitVec 32)) (fun i s nx_ => order_Apart_b14 (up, 0) i s nx_) (fun s => order_Apart_k11 s) (((1#32 <<< m)).toNat - (0#32).toNat) 0#32 (0#32) = some (bst m ps (2 ^ m), 0) := by
      refine (forU_rec (bst m ps) rfl (fun c nx hc => ?_)).trans (by rw [hB]; rfl)
      rw [hB] at hc
      unfold order_Apart_b14
      have hcc : BitVec.ofNat 32 c.toNat = c := by simp
      simp only
      rw [free_eq h (bel_toNat.2 hc), Option.bind_some, onesCount_eq, onesCount_eq]
      simp only [Option.isSome_some, Bool.or_true, cond_true, Option.getD_some, hgt]
      rw [bst, hcc, cond_nx]
    have a2 : syllogistref_Widest fuel m ps = some (bst m ps (2 ^ m)) := by
      unfold syllogistref_Widest
      rw [ofInt64 (by omega)]
      refine (forU_rec (bst m ps) rfl (fun c nx hc => ?_)).trans (by rw [hB]; rfl)
      unfold syllogistref_Widest_b9
      have hcc : BitVec.ofNat 32 c.toNat = c := by simp
      rw [size_eq, Option.bind_some, size_eq, Option.bind_some, rfree_eq h fuel (by omega)]
      simp only [Option.isSome_some, Bool.or_true, cond_true, Option.getD_some, hgt]
      rw [bst, hcc, Bool.and_comm, cond_nx]
    rw [a1, a2]
    simp
  · have hcb : (c != 0) = true := by simpa using hc
    simp [hcb]

/-! ### Lines -/
theorem ints_eq (a b : List Int) : syllogistref_Ints a b = some (decide (a = b)) := lists_eq a b
noncomputable def ok1 (m : Nat) (ps : List (Int × Int)) (l : List Int) (i : Nat) : Bool := !decide ((i : Int) ∈ l) && allN m fun j => ((j == i) || !rr ps j i) || decide ((j : Int) ∈ l)
/-- What is left: all that is not in l. -/
def lft (m : Nat) (l : List Int) : BitVec 32 := bset m fun i => !decide ((i : Int) ∈ l)
theorem lft_bit {m : Nat} (hm : m ≤ 6) {l : List Int} {j : Nat} (hj : j < m) : (lft m l).getLsbD j = !decide ((j : Int) ∈ l) := by
  unfold lft
  rw [bset_bit (by omega), decide_eq_true hj, Bool.true_and]
theorem lft_zero {m : Nat} (hm : m ≤ 6) {l : List Int} : (lft m l = 0#32) ↔ ∀ j, j < m → (j : Int) ∈ l := by
  constructor
  · intro h j hj
    have := lft_bit hm (l := l) hj
    rw [h] at this
    simpa using this
  · intro h
    refine bits_ext fun j => ?_
    unfold lft
    rw [bset_bit (by omega), Bool.and_eq_true, decide_eq_true_eq]
    simp only [BitVec.getLsbD_zero, Bool.false_eq_true, iff_false]
    rintro ⟨hj, h'⟩
    have := h j hj
    simp [this] at h'

theorem ok_exists {n : Int} {ps : List (Int × Int)} {up : List (BitVec 32)} {m : Nat} (h : OO n ps up m) {l : List Int} (hl : ∃ j, j < m ∧ (j : Int) ∉ l) : ∃ i, i < m ∧ ok1 m ps l i = true ∧ ∀ i', i' < i → ok1 m ps l i' = false := by
  have hex : ∃ i, i < m ∧ ok1 m ps l i = true := by
    obtain ⟨j0, hj0, hjl⟩ := hl
    let P : Nat → Prop := fun c => ∃ i, i < m ∧ (i : Int) ∉ l ∧ cntN m (fun j => !decide ((j : Int) ∈ l) && rr ps j i) = c
    obtain ⟨c, ⟨i, hi, hil, hc⟩, hmin⟩ := least_nat (P := P) ⟨j0, hj0, hjl, rfl⟩
    refine ⟨i, hi, ?_⟩
    unfold ok1
    rw [Bool.and_eq_true, decide_eq_false hil]
    refine ⟨rfl, allN_iff.2 fun j hj => ?_⟩
    cases hm : decide ((j : Int) ∈ l) with
    | true => simp
    | false =>
      cases hr : rr ps j i with
      | false => simp
      | true =>
        by_cases e : j = i
        · subst e; simp
        · exfalso
          have hjl := of_decide_eq_false hm
          have := hmin _ ⟨j, hj, hjl, rfl⟩
          have hlt := cntN_lt (n := m) (p := fun k => !decide ((k : Int) ∈ l) && rr ps k j) (q := fun k => !decide ((k : Int) ∈ l) && rr ps k i) (fun k _ hk => by
            rw [Bool.and_eq_true] at hk ⊢
            exact ⟨hk.1, rr_trans hk.2 hr⟩) hi (by
            rw [Bool.and_eq_false_iff]
            refine .inr ?_
            cases hij : rr ps i j with
            | false => rfl
            | true => exact absurd (h.anti j i hj hi hr hij) e) (by rw [decide_eq_false hil, rr_refl]; rfl)
          omega
  obtain ⟨i, hi, ho⟩ := hex
  obtain ⟨k, ⟨hk, hok⟩, hmin⟩ := least_nat (P := fun k => k < m ∧ ok1 m ps l k = true) ⟨hi, ho⟩
  refine ⟨k, hk, hok, fun i' hi' => ?_⟩
  cases ho' : ok1 m ps l i' with
  | false => rfl
  | true => have := hmin i' ⟨by omega, ho'⟩; omega

structure LI (m : Nat) (l : List Int) : Prop where
  nd : l.Nodup
  sub : ∀ x ∈ l, x ∈ natsI m
theorem LI.len {m : Nat} {l : List Int} (h : LI m l) : l.length ≤ m := by
  have := nodup_lenG h.nd h.sub
  rwa [natsI_len] at this
theorem LI.full {m : Nat} {l : List Int} (h : LI m l) : (∀ j, j < m → (j : Int) ∈ l) ↔ l.length = m := by
  constructor
  · intro hall
    have hnd : (natsI m).Nodup := by
      unfold natsI
      exact List.Pairwise.map Int.ofNat (fun a b (h : a ≠ b) e => h (Int.ofNat.inj e)) List.nodup_range
    have := nodup_lenG hnd (fun x hx => by
      have hx' := natsI_mem.1 hx
      have := hall x.toNat (by omega)
      rwa [Int.toNat_of_nonneg hx'.1] at this)
    rw [natsI_len] at this
    have := h.len
    omega
  · intro hl j hj
    apply Classical.byContradiction
    intro hn
    have : ((j : Int) :: l).length ≤ (natsI m).length := nodup_lenG (List.nodup_cons.2 ⟨hn, h.nd⟩) fun x hx => by
      rcases List.mem_cons.1 hx with rfl | hx
      · exact natsI_mem.2 (by omega)
      · exact h.sub x hx
    rw [natsI_len, List.length_cons] at this
    omega

theorem line_step {n : Int} {ps : List (Int × Int)} {up : List (BitVec 32)} {m : Nat} (h : OO n ps up m) {l : List Int} (hl : LI m l) (hlt : l.length < m) :
    ∃ i, i < m ∧ LI m (l ++ [(i : Int)]) ∧
      (∀ nx, order_Line_b17 (up, 0) (lft m l) l nx = nx (lft m (l ++ [(i : Int)]), l ++ [(i : Int)])) ∧
      (∀ fuel slf, 30 < fuel → syllogistref_Lined_s slf fuel m ps l = slf m ps (l ++ [(i : Int)])) := by
  have m6 := h.m6
  have hup := h.len
  have hnf : ∃ j, j < m ∧ (j : Int) ∉ l := by
    apply Classical.byContradiction
    intro hno
    have := hl.full.1 fun j hj => Classical.byContradiction fun hn => hno ⟨j, hj, hn⟩
    omega
  obtain ⟨i, hi, hok, hbef⟩ := ok_exists h hnf
  have hil : (i : Int) ∉ l := by
    unfold ok1 at hok
    rw [Bool.and_eq_true] at hok
    simpa using hok.1
  have hLI : LI m (l ++ [(i : Int)]) := ⟨by
    rw [List.nodup_append]
    exact ⟨hl.nd, by simp, fun x hx y hy e => by simp at hy; subst hy; subst e; exact hil hx⟩, fun x hx => by
    rcases List.mem_append.1 hx with hx | hx
    · exact hl.sub x hx
    · simp at hx; subst hx; exact natsI_mem.2 (by omega)⟩
  refine ⟨i, hi, hLI, fun nx => ?_, fun fuel slf hf => ?_⟩
  · unfold order_Line_b17
    have hne : (lft m l != 0#32) = true := by
      rw [bne_iff_ne, ne_eq, lft_zero m6]
      obtain ⟨j, hj, hn⟩ := hnf
      exact fun hall => hn (hall j hj)
    rw [hne, cond_true]
    have hfree : ∀ t, t < m → ∀ nx', order_Line_b35 (up, 0) nx t (lft m l) l nx' = order_Line_k43 nx t (lft m l) l nx' (ok1 m ps l t) := fun t ht nx' => by
      unfold order_Line_b35
      refine (for_all (n := m) (fun j => ((j == t) || !rr ps j t) || decide ((j : Int) ∈ l)) (by rw [hup]) (fun j b nx2 hj => ?_)).trans ?_
      · unfold order_Line_b51
        have hg : geti up (j : Int) = some (ub up j) := geti_d _ (by omega)
        rw [hg]
        simp only [Option.isSome_some, Bool.or_true, cond_true, Option.getD_some, Int.toNat_natCast, bit_shr1, lft_bit m6 hj, eq_cast, h.bit j t hj, decide_eq_true ht, Bool.true_and, Bool.not_not]
        congr 1
        cases (j == t) <;> cases decide ((j : Int) ∈ l) <;> cases rr ps j t <;> rfl
      · rw [Int.toNat_natCast, bit_shr, lft_bit m6 ht]
        rfl
    rcases for_find (σ := BitVec 32 × List Int) (k := fun s => order_Line_k31 nx s.1 s.2) (body := fun i s nx_ => order_Line_b35 (up, 0) nx i s.1 s.2 nx_) (fun _ => (lft m l, l)) (ok1 m ps l) (fun t => order_Line_k31 nx (lft m l &&& ~~~(1#32 <<< t)) (l ++ [(t : Int)])) (b := (up.length : Int)) (n := m) (by rw [hup]) (s := (lft m l, l)) rfl (fun t nx' ht => by
      simp only
      rw [hfree t ht]
      unfold order_Line_k43
      have := hl.len
      rw [decide_eq_true (by simp only [List.length_cons, List.length_nil]; omega), cond_true, Int.toNat_natCast]) with ⟨t, ht, he, hb, e⟩ | ⟨h1, _⟩
    · have hti : t = i := by
        rcases Nat.lt_trichotomy t i with hh | hh | hh
        · rw [hbef t hh] at he; cases he
        · exact hh
        · rw [hb i hh] at hok; cases hok
      subst hti
      refine e.trans ?_
      unfold order_Line_k31
      congr 2
      refine bits_ext fun j => ?_
      have := without_bit (lft m l) t j
      unfold without at this
      rw [this]
      unfold lft
      rw [bset_bit (by omega), bset_bit (by omega)]
      simp only [Bool.and_eq_true, decide_eq_true_eq, Bool.not_eq_true', decide_eq_false_iff_not, List.mem_append, List.mem_singleton, not_or]
      constructor
      · rintro ⟨⟨a, b⟩, c⟩; exact ⟨a, b, by omega⟩
      · rintro ⟨a, b, c⟩; exact ⟨⟨a, b⟩, by omega⟩
    · rw [h1 i hi] at hok; cases hok
  · unfold syllogistref_Lined_s
    rw [show ((l.length : Int) == (m : Int)) = false by rw [beq_eq_false_iff_ne]; omega, cond_false, decide_eq_true (by omega), cond_true]
    rcases for_find (σ := Unit) (k := fun _ => syllogistref_Lined_k3) (body := fun i s nx_ => syllogistref_Lined_b7 m ps l slf fuel i nx_) (fun _ => ()) (ok1 m ps l) (fun t => slf m ps (l ++ [(t : Int)])) (b := (m : Int)) (n := m) rfl (s := ()) rfl (fun t nx' ht => by
      unfold syllogistref_Lined_b7
      rw [has_eq, Option.bind_some, decide_eq_true (by omega), cond_true]
      refine (for_all (n := m) (fun j => ((j == t) || !rr ps j t) || decide ((j : Int) ∈ l)) rfl (fun j b nx2 hj => ?_)).trans ?_
      · unfold syllogistref_Lined_b35
        rw [under2 h fuel hf, has_eq]
        simp only [Option.isSome_some, Bool.or_true, cond_true, Option.getD_some, eq_cast]
      · unfold syllogistref_Lined_k17
        have := hl.len
        have d1 : decide ((([] : List Int)).length + l.length ≤ 17592186044416) = true := decide_eq_true (by simp; omega)
        have d2 : decide (((([] : List Int) ++ l)).length + (([(t : Int)] : List Int)).length ≤ 17592186044416) = true := decide_eq_true (by simp; omega)
        rw [d1, cond_true, d2, cond_true]
        show (bif ok1 m ps l t then _ else _) = _
        cases ok1 m ps l t
        · rfl
        · simp only [cond_true, List.nil_append]
          cases slf (m : Int) ps (l ++ [(t : Int)]) <;> rfl) with ⟨t, ht, he, hb, e⟩ | ⟨h1, _⟩
    · have hti : t = i := by
        rcases Nat.lt_trichotomy t i with hh | hh | hh
        · rw [hbef t hh] at he; cases he
        · exact hh
        · rw [hb i hh] at hok; cases hok
      subst hti
      exact e
    · rw [h1 i hi] at hok; cases hok

theorem line_eq {n : Int} {ps : List (Int × Int)} {up : List (BitVec 32)} {m : Nat} (h : OO n ps up m) : ∀ (d : Nat) (l : List Int), LI m l → l.length + d = m →
    ∃ r, (∀ f, d < f → whileK (σ := (BitVec 32) × (List Int)) (fun s nx_ => order_Line_b17 (up, 0) s.1 s.2 nx_) f (lft m l, l) = some (r, 0)) ∧ ∀ f, 40 + d < f → syllogistref_Lined f m ps l = some r := by
  have m6 := h.m6
  intro d
  induction d with
  | zero =>
    intro l hl hd
    refine ⟨l, fun f hf => ?_, fun f hf => ?_⟩
    · obtain ⟨f, rfl⟩ : ∃ f', f = f' + 1 := ⟨f - 1, by omega⟩
      rw [whileK]
      simp only
      unfold order_Line_b17
      have : (lft m l != 0#32) = false := by
        rw [bne_eq_false_iff_eq]
        exact (lft_zero m6).2 (hl.full.2 (by omega))
      rw [this]; rfl
    · obtain ⟨f, rfl⟩ : ∃ f', f = f' + 1 := ⟨f - 1, by omega⟩
      show syllogistref_Lined_s (syllogistref_Lined f) f m ps l = some l
      unfold syllogistref_Lined_s
      rw [show ((l.length : Int) == (m : Int)) = true by rw [beq_iff_eq]; omega]; rfl
  | succ d ih =>
    intro l hl hd
    obtain ⟨i, hi, hLI, hp, hr⟩ := line_step h hl (by omega)
    obtain ⟨r, e1, e2⟩ := ih _ hLI (by rw [List.length_append]; simp; omega)
    refine ⟨r, fun f hf => ?_, fun f hf => ?_⟩
    · obtain ⟨f, rfl⟩ : ∃ f', f = f' + 1 := ⟨f - 1, by omega⟩
      rw [whileK]
      exact (hp _).trans (e1 f (by omega))
    · obtain ⟨f, rfl⟩ : ∃ f', f = f' + 1 := ⟨f - 1, by omega⟩
      exact (hr f (syllogistref_Lined f) (by omega)).trans (e2 f (by omega))

theorem orderLines_true (fuel : Nat) (n : Int) (ps : List (Int × Int)) (hf : 100 < fuel := by decide) : syllogistlaw_OrderLines fuel n ps = some true := by
  unfold syllogistlaw_OrderLines order_Line
  obtain ⟨up, c, e1, e2, h1, h2⟩ := table2 n ps
  rw [e1, e2 fuel (by omega)]
  simp only [Option.bind_some]
  by_cases hc : c = 0
  · subst hc
    obtain ⟨m, h⟩ := h2 rfl
    have m6 := h.m6
    have hn := h.n
    subst hn
    simp only [bne_self_eq_false, cond_false]
    rw [decide_eq_true (by omega), cond_true, Int.toNat_natCast]
    obtain ⟨r, a1, a2⟩ := line_eq h m [] ⟨by simp, by simp⟩ (by simp)
    have hfull : (1#32 <<< m) - 1#32 = lft m [] := by
      refine bits_ext fun j => ?_
      have := full_bit (n := m) (by omega) j
      unfold full at this
      rw [this]
      unfold lft
      rw [bset_bit (by omega)]
      simp
    rw [hfull, a1 fuel (by omega), a2 fuel (by omega)]
    simp [ints_eq]
  · have hcb : (c != 0) = true := by simpa using hc
    simp [hcb]
end Go.Proofs.Ytjpbdannibmplaa.Sy
