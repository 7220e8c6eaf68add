/- What the knowing compute: the plain laws; no program in sight. -/
import Derived.Test.YtoninfimcobeiaaSyQ
import Derived.Test.YtoninfimcobeiaaG1
namespace Go.Proofs.Ytoninfimcobeiaa.Sy
set_option linter.unusedVariables false

theorem contSS (s : List (List Int)) (f : List Int → Option Bool) (p : List Int → Bool) (hf : ∀ a ∈ s, f a = some (p a)) : slices_ContainsFunc_SSintSint s f = some (s.any p) := any_shape s f p hf
theorem bit_eq (w : BitVec 32) (j : Nat) (hj : j < 32) : syllogistref_Bit w j = some (w.getLsbD j) := congrArg some (bit_shape w j hj)
theorem fits_eq {n : Nat} (hn : n < 32) (s : BitVec 32) : syllogistref_Fits n s = some (decide (s < 1#32 <<< n)) := congrArg some (fits_shape hn s)
theorem has_eq (l : List Int) (x : Int) : syllogistref_Has l x = some (decide (x ∈ l)) := has_shape l x
theorem ints_eq (a b : List Int) : syllogistref_Ints a b = some (decide (a = b)) := lists_eq a b

structure KOk (n : Int) (cells : List (List Int)) (ev : BitVec 32) (k : Nat) : Prop where
  n : n = k
  k1 : 1 ≤ k
  k6 : k ≤ 6
  c1 : 1 ≤ cells.length
  c5 : cells.length ≤ 5
  len : ∀ i (h : i < cells.length), cells[i].length = k
  bel : bel k ev

theorem kcheck (n : Int) (cells : List (List Int)) (ev : BitVec 32) : ∃ r, know_wrong n cells ev = some r ∧ syllogistref_KnowCheck n cells ev = some r ∧ (r = 0 → ∃ k : Nat, KOk n cells ev k) := by
  unfold know_wrong syllogistref_KnowCheck
  cases hb : ((((decide (n < (1 : Int))) || (decide (n > (6 : Int)))) || (decide ((cells.length : Int) < (1 : Int)))) || (decide ((cells.length : Int) > (5 : Int)))) with
  | true => exact ⟨1, rfl, rfl, by simp⟩
  | false =>
    simp only [Bool.or_eq_false_iff, decide_eq_false_iff_not] at hb
    obtain ⟨⟨⟨h1, h2⟩, h3⟩, h4⟩ := hb
    obtain ⟨k, rfl⟩ : ∃ k : Nat, n = k := ⟨n.toNat, by omega⟩
    simp only [cond_false]
    rw [contSS cells (fun a => know_wrong_c1 a k) (fun c => (c.length : Int) != (k : Int)) (fun a _ => rfl), Option.bind_some, any_len]
    rw [for_out (n := cells.length) (fun j => (cells[j]?.map fun c => (c.length : Int) != (k : Int)).getD false) (some 3) rfl (fun j nx hj => by
      unfold syllogistref_KnowCheck_b9
      rw [geti_at hj, Option.bind_some, List.getElem?_eq_getElem hj]; rfl)]
    cases ha : anyN cells.length (fun j => (cells[j]?.map fun c => (c.length : Int) != (k : Int)).getD false) with
    | true => exact ⟨3, rfl, rfl, by simp⟩
    | false =>
      simp only [cond_false]
      unfold syllogistref_KnowCheck_k3
      rw [fits_eq (by omega), Option.bind_some, decide_eq_true (show (0 : Int) ≤ k by omega), cond_true, Int.toNat_natCast, shr_ne (by omega)]
      cases hf : decide (ev < 1#32 <<< k) with
      | false => exact ⟨4, rfl, rfl, by simp⟩
      | true =>
        refine ⟨0, rfl, rfl, fun _ => ⟨k, rfl, by omega, by omega, by omega, by omega, fun i hi => ?_, (bel_lt (by omega)).1 (of_decide_eq_true hf)⟩⟩
        have := anyN_false.1 ha i hi
        rw [List.getElem?_eq_getElem hi] at this
        simp only [Option.map_some, Option.getD_some, bne_eq_false_iff_eq] at this
        omega

def kset (c : List Int) (ev : BitVec 32) : BitVec 32 := bset c.length fun w => allN c.length fun v => (c[w]?.getD 0 != c[v]?.getD 0) || ev.getLsbD v

theorem knows_eq (c : List Int) (ev : BitVec 32) : know_knows c ev = some (kset c ev) := by
  unfold know_knows
  refine (for_bset (n := c.length) (fun w => allN c.length fun v => (c[w]?.getD 0 != c[v]?.getD 0) || ev.getLsbD v) rfl (fun w s nx hw => ?_)).trans rfl
  unfold know_knows_b10
  rw [geti_d 0 hw, Option.bind_some, for_all (n := c.length) (fun v => (c[w]?.getD 0 != c[v]?.getD 0) || ev.getLsbD v) rfl (fun v ok nx hv => by
    unfold know_knows_b24
    rw [geti_d 0 hv, Option.bind_some, Int.toNat_natCast, bit_shr])]
  unfold know_knows_k20
  rw [Bool.true_and, Int.toNat_natCast, cond_nx]

theorem rknows_eq {k : Nat} (hk : k ≤ 6) (c : List Int) (hc : c.length = k) (ev : BitVec 32) : syllogistref_Knows k c ev = some (kset c ev) := by
  unfold syllogistref_Knows
  rw [decide_eq_true (by omega), cond_true]
  unfold kset
  rw [hc]
  refine (for_bset_add (n := k) (fun w => allN k fun v => (c[w]?.getD 0 != c[v]?.getD 0) || ev.getLsbD v) rfl (by omega) (fun w s nx hw => ?_)).trans rfl
  unfold syllogistref_Knows_b10
  rw [decide_eq_true (by omega), cond_true, for_all (n := k) (fun v => (c[w]?.getD 0 != c[v]?.getD 0) || ev.getLsbD v) rfl (fun v ok nx hv => by
    unfold syllogistref_Knows_b22
    rw [geti_d 0 (by omega), Option.bind_some, geti_d 0 (by omega), Option.bind_some, bit_eq _ _ (by omega)]
    simp only [Option.isSome_some, Bool.or_true, cond_true, Option.getD_some]
    have : (c[w]?.getD 0 != c[v]?.getD 0) = !(c[v]?.getD 0 == c[w]?.getD 0) := by rw [bne, BEq.comm]
    rw [this]
    cases (c[v]?.getD 0 == c[w]?.getD 0) <;> cases ev.getLsbD v <;> cases ok <;> rfl)]
  unfold syllogistref_Knows_k18
  rw [Bool.true_and, ofInt64 (by omega), cond_nx]

theorem knowTells_true (n : Int) (cells : List (List Int)) (i : Int) (ev : BitVec 32) : syllogistlaw_KnowTells n cells i ev = some true := by
  unfold syllogistlaw_KnowTells know_Knows
  obtain ⟨r, e1, e2, h⟩ := kcheck n cells ev
  rw [e1, e2]
  simp only [Option.bind_some]
  by_cases hr : r = 0
  · subst hr
    obtain ⟨k, rfl, k1, k6, c1, c5, hl, hb⟩ := h rfl
    simp only [bne_self_eq_false, cond_false]
    by_cases hi : 0 ≤ i ∧ i < cells.length
    · have hib : ((decide (i < (0 : Int))) || (decide (i ≥ (cells.length : Int)))) = false := by simp; omega
      rw [hib, cond_false, geti_int hi.1 hi.2, Option.bind_some, knows_eq, Option.bind_some]
      unfold syllogistlaw_KnowTells_k6
      rw [geti_int hi.1 hi.2]
      simp only [Option.getD_some, Option.isSome_some, Bool.or_true, cond_true]
      rw [rknows_eq k6 _ (hl _ _)]
      simp
    · have hib : ((decide (i < (0 : Int))) || (decide (i ≥ (cells.length : Int)))) = true := by simp; omega
      rw [hib]
      unfold syllogistlaw_KnowTells_k6
      simp
  · have : (r != 0) = true := by simpa using hr
    have h0 : (r == 0) = false := by simpa using hr
    simp only [this, h0, cond_true, Bool.false_and, cond_false, Option.bind_some]
    unfold syllogistlaw_KnowTells_k6
    rw [this]
    simp

/-! ### All of them -/
def eachN (cells : List (List Int)) (ev : BitVec 32) : Nat → BitVec 32
  | 0 => ev
  | j + 1 => eachN cells ev j &&& kset (cells[j]?.getD []) ev
abbrev eachS (cells : List (List Int)) (ev : BitVec 32) : BitVec 32 := eachN cells ev cells.length

theorem each_eq (cells : List (List Int)) (ev : BitVec 32) : know_each cells ev = some (eachS cells ev) := by
  unfold know_each
  refine (for_rec (n := cells.length) (eachN cells ev) rfl rfl (fun j nx hj => ?_)).trans rfl
  unfold know_each_b10
  rw [geti_d [] hj, Option.bind_some, knows_eq, Option.bind_some]
  rfl

theorem knowEach_true (n : Int) (cells : List (List Int)) (ev : BitVec 32) : syllogistlaw_KnowEach n cells ev = some true := by
  unfold syllogistlaw_KnowEach know_Each
  obtain ⟨r, e1, e2, h⟩ := kcheck n cells ev
  rw [e1, e2]
  simp only [Option.bind_some]
  by_cases hr : r = 0
  · subst hr
    obtain ⟨k, rfl, k1, k6, c1, c5, hl, hb⟩ := h rfl
    simp only [bne_self_eq_false, cond_false, each_eq, Option.bind_some]
    refine (for_rec (n := cells.length) (eachN cells ev) rfl rfl (fun j nx hj => ?_)).trans ?_
    · unfold syllogistlaw_KnowEach_b14
      rw [geti_at hj, Option.bind_some, rknows_eq k6 _ (hl j hj), Option.bind_some, eachN, getd_at _ hj]
    · unfold syllogistlaw_KnowEach_k10
      simp
  · have : (r != 0) = true := by simpa using hr
    simp [this]

/-! ### Where one comes to -/
def kst (cells : List (List Int)) (k : Nat) (a b : Int) : Prop := 0 ≤ b ∧ b < k ∧ ∃ i, i < cells.length ∧ (cells[i]?.getD [])[b.toNat]?.getD 0 = (cells[i]?.getD [])[a.toNat]?.getD 0

theorem comes_eq {n : Int} {cells : List (List Int)} {ev : BitVec 32} {k : Nat} (h : KOk n cells ev k) (w : Nat) (hw : w < k) (fuel : Nat) (hf : 10 < fuel) : ∃ l, syllogistref_Comes fuel k cells w = some l ∧ ∀ x, x ∈ l ↔ Rc (kst cells k) w x := by
  have k6 := h.k6
  unfold syllogistref_Comes
  refine whileK_q (Q := fun o => ∃ l, o = some l ∧ ∀ x, x ∈ l ↔ Rc (kst cells k) w x) (fun (s : Int × List Int) => ∃ j : Nat, s.1 = j ∧ j ≤ s.2.length ∧ BI (kst cells k) (w : Int) (natsI k) j s.2) (fun s => k + 1 - s.1.toNat) (fun s nx hI hnx => ?_) fuel _ ⟨0, rfl, by simp, BI.start (natsI_mem.2 (by omega))⟩ (by simp; omega)
  obtain ⟨j0, l⟩ := s
  obtain ⟨j, hj, hjl, hB⟩ := hI
  simp only at hj hjl hB ⊢
  subst hj
  have hlen := hB.len
  rw [natsI_len] at hlen
  unfold syllogistref_Comes_b13
  by_cases hlt : j < l.length
  · rw [decide_eq_true (by omega : (j : Int) < (l.length : Int)), cond_true, decide_eq_true (by omega), cond_true]
    obtain ⟨a, ha⟩ : ∃ a, l[j]? = some a := ⟨_, List.getElem?_eq_getElem hlt⟩
    have ha0 := natsI_mem.1 (hB.sub a (get_mem ha))
    refine for0_q (Q := fun o => ∃ l, o = some l ∧ ∀ x, x ∈ l ↔ Rc (kst cells k) w x) (fun t l' => l'[j]? = some a ∧ j < l'.length ∧ BI (kst cells k) (w : Int) (natsI k) j l' ∧ ∀ v : Nat, v < t → kst cells k a v → (v : Int) ∈ l') rfl l ⟨ha, hlt, hB, fun v hv => by omega⟩ (fun t l' nx' ht hI' hn' => ?_) (fun l' hI' => ?_)
    · unfold syllogistref_Comes_b28
      obtain ⟨g1, g2, g3, g4⟩ := hI'
      refine for0_q (Q := fun o => ∃ l, o = some l ∧ ∀ x, x ∈ l ↔ Rc (kst cells k) w x) (fun i l2 => l2[j]? = some a ∧ j < l2.length ∧ BI (kst cells k) (w : Int) (natsI k) j l2 ∧ (∀ v : Nat, v < t → kst cells k a v → (v : Int) ∈ l2) ∧ ∀ i', i' < i → (cells[i']?.getD [])[t]?.getD 0 = (cells[i']?.getD [])[a.toNat]?.getD 0 → (t : Int) ∈ l2) rfl l' ⟨g1, g2, g3, g4, fun i hi => by omega⟩ (fun i l2 nx2 hi hI2 hn2 => ?_) (fun l2 hI2 => ?_)
      · obtain ⟨f1, f2, f3, f4, f5⟩ := hI2
        unfold syllogistref_Comes_b43
        have hci : (cells[i]?.getD []).length = k := by rw [getd_at _ hi]; exact h.len i hi
        rw [geti_d [] hi, Option.bind_some, geti_d 0 (by omega), Option.bind_some, geti_of f1, Option.bind_some]
        have hga : geti (cells[i]?.getD []) a = some ((cells[i]?.getD [])[a.toNat]?.getD 0) := by
          have := geti_d (xs := cells[i]?.getD []) (j := a.toNat) 0 (by omega)
          rwa [Int.toNat_of_nonneg ha0.1] at this
        rw [hga, Option.bind_some, has_eq]
        simp only [Option.isSome_some, Bool.or_true, cond_true, Option.getD_some]
        have hl2 := f3.len
        rw [natsI_len] at hl2
        by_cases hc : (cells[i]?.getD [])[t]?.getD 0 = (cells[i]?.getD [])[a.toNat]?.getD 0
        · have hst : kst cells k a t := ⟨by omega, by omega, i, hi, by simpa using hc⟩
          rw [beq_iff_eq.2 hc, Bool.true_and]
          by_cases hm : (t : Int) ∈ l2
          · rw [decide_eq_true hm]
            exact hn2 _ ⟨f1, f2, f3, f4, fun _ _ _ => hm⟩
          · rw [decide_eq_false hm, Bool.not_false, cond_true, decide_eq_true (by simp; omega), cond_true]
            exact hn2 _ ⟨app_get f1, by simp; omega, f3.add (get_mem f1) hst hm (natsI_mem.2 (by omega)) (by omega), fun v hv hs => List.mem_append_left _ (f4 v hv hs), fun _ _ _ => by simp⟩
        · rw [beq_eq_false_iff_ne.2 hc, Bool.false_and, cond_false]
          refine hn2 _ ⟨f1, f2, f3, f4, fun i' hi' he => ?_⟩
          by_cases e : i' = i
          · subst e; exact absurd he hc
          · exact f5 i' (by omega) he
      · obtain ⟨f1, f2, f3, f4, f5⟩ := hI2
        unfold syllogistref_Comes_k39
        refine hn' _ ⟨f1, f2, f3, fun v hv hs => ?_⟩
        by_cases e : v = t
        · subst e
          obtain ⟨_, _, i, hi, he⟩ := hs
          exact f5 i hi (by simpa using he)
        · exact f4 v (by omega) hs
    · obtain ⟨g1, g2, g3, g4⟩ := hI'
      have hlen' := g3.len
      rw [natsI_len] at hlen'
      unfold syllogistref_Comes_k24
      rw [w64_succ (by omega)]
      refine hnx _ ⟨j + 1, rfl, by simp only; omega, ?_⟩ (by simp only; omega)
      refine g3.next g2 fun c hc => ?_
      have hca : l'[j] = a := by rw [List.getElem?_eq_getElem g2] at g1; exact Option.some.inj g1
      rw [hca] at hc
      obtain ⟨h0, h1, _⟩ := id hc
      have := g4 c.toNat (by omega) (by rwa [Int.toNat_of_nonneg h0])
      rwa [Int.toNat_of_nonneg h0] at this
  · rw [decide_eq_false (by omega), cond_false]
    exact ⟨l, rfl, hB.fin (by omega)⟩

/-! ### What is common -/
noncomputable def gset (cells : List (List Int)) (k : Nat) (ev : BitVec 32) : BitVec 32 := bset k fun w => tru (∀ x, Rc (kst cells k) (w : Int) x → ev.getLsbD x.toNat = true)

theorem shared_eq {n : Int} {cells : List (List Int)} {ev : BitVec 32} {k : Nat} (h : KOk n cells ev k) (fuel : Nat) (hf : 10 < fuel) : syllogistref_Shared fuel k cells ev = some (gset cells k ev) := by
  have k6 := h.k6
  unfold syllogistref_Shared
  rw [decide_eq_true (by omega), cond_true]
  refine (for_bset_add (n := k) _ rfl (by omega) (fun w s nx hw => ?_)).trans rfl
  unfold syllogistref_Shared_b10
  obtain ⟨l, e, hl⟩ := comes_eq h w hw fuel hf
  rw [e, Option.bind_some, for_all (n := l.length) (fun j => ev.getLsbD (l[j]?.getD 0).toNat) rfl (fun j ok nx hj => by
    unfold syllogistref_Shared_b26
    have hx : 0 ≤ l[j]?.getD 0 ∧ l[j]?.getD 0 < k := by
      have hm := (hl (l[j]?.getD 0)).1 (by rw [getd_at _ hj]; exact List.getElem_mem hj)
      exact Rc.inv (st := kst cells k) (fun x : Int => 0 ≤ x ∧ x < k) hm ⟨by omega, by omega⟩ fun x y _ hs => ⟨hs.1, hs.2.1⟩
    rw [geti_d 0 hj, Option.bind_some]
    obtain ⟨y, hy⟩ : ∃ y : Nat, l[j]?.getD 0 = y := ⟨(l[j]?.getD 0).toNat, by omega⟩
    rw [hy, bit_eq _ _ (by omega)]
    simp only [Option.isSome_some, Bool.or_true, cond_true, Option.getD_some, Int.toNat_natCast])]
  unfold syllogistref_Shared_k22
  rw [Bool.true_and, ofInt64 (by omega), cond_nx]
  congr 2
  rw [Bool.eq_iff_iff, allN_iff, tru_iff]
  constructor
  · intro hA x hx
    obtain ⟨j, hj, e⟩ := List.getElem_of_mem ((hl x).2 hx)
    have := hA j hj
    rwa [getd_at _ hj, e] at this
  · intro hA j hj
    exact hA _ ((hl _).1 (by rw [getd_at _ hj]; exact List.getElem_mem hj))

theorem eachN_sub (cells : List (List Int)) (ev : BitVec 32) (j : Nat) : sb (eachN cells ev j) ev := by
  induction j with
  | zero => exact sb_refl _
  | succ j ih => exact (sb_andl _ _).trans ih
theorem eachN_bit {cells : List (List Int)} {ev : BitVec 32} {j w : Nat} : (eachN cells ev j).getLsbD w = true ↔ ev.getLsbD w = true ∧ ∀ i, i < j → (kset (cells[i]?.getD []) ev).getLsbD w = true := by
  induction j with
  | zero => exact ⟨fun h => ⟨h, fun i hi => by omega⟩, fun h => h.1⟩
  | succ j ih =>
    rw [eachN, BitVec.getLsbD_and, Bool.and_eq_true, ih]
    exact ⟨fun ⟨⟨h1, h2⟩, h3⟩ => ⟨h1, fun i hi => if e : i = j then e ▸ h3 else h2 i (by omega)⟩, fun ⟨h1, h2⟩ => ⟨⟨h1, fun i hi => h2 i (by omega)⟩, h2 j (by omega)⟩⟩
theorem kset_bit {c : List Int} {ev : BitVec 32} {k w : Nat} (hc : c.length = k) (hk : k ≤ 6) : (kset c ev).getLsbD w = true ↔ w < k ∧ ∀ v, v < k → c[w]?.getD 0 = c[v]?.getD 0 → ev.getLsbD v = true := by
  unfold kset
  rw [bset_bit (by omega), Bool.and_eq_true, decide_eq_true_eq, allN_iff, hc]
  refine and_congr_right fun _ => forall_congr' fun v => forall_congr' fun hv => ?_
  rw [Bool.or_eq_true, bne_iff_ne]
  exact ⟨fun h e => h.resolve_left (fun h' => h' e), fun h => if e : c[w]?.getD 0 = c[v]?.getD 0 then .inr (h e) else .inl e⟩

theorem gset_bit {cells : List (List Int)} {k : Nat} {ev : BitVec 32} (hk : k ≤ 6) {w : Nat} : (gset cells k ev).getLsbD w = true ↔ w < k ∧ ∀ x, Rc (kst cells k) (w : Int) x → ev.getLsbD x.toNat = true := by
  unfold gset
  rw [bset_bit (by omega), Bool.and_eq_true, decide_eq_true_eq, tru_iff]

theorem gset_each {n : Int} {cells : List (List Int)} {ev ev' : BitVec 32} {k : Nat} (h : KOk n cells ev k) (hs : sb (gset cells k ev) ev') : sb (gset cells k ev) (eachS cells ev') := by
  have k6 := h.k6
  intro w hw
  refine eachN_bit.2 ⟨hs w hw, fun i hi => ?_⟩
  obtain ⟨h1, h2⟩ := (gset_bit k6).1 hw
  refine (kset_bit (by rw [getd_at _ hi]; exact h.len i hi) k6).2 ⟨h1, fun v hv he => hs v ((gset_bit k6).2 ⟨hv, fun x hx => ?_⟩)⟩
  refine h2 x ((Rc.one ?_).trans hx)
  exact ⟨by omega, by omega, i, hi, by simpa using he.symm⟩

theorem fix_gset {n : Int} {cells : List (List Int)} {ev F : BitVec 32} {k : Nat} (h : KOk n cells ev k) (h1 : sb F ev) (h2 : eachS cells F = F) (h3 : sb (gset cells k ev) F) : F = gset cells k ev := by
  have k6 := h.k6
  have hbl : bel k F := h.bel.sb h1
  refine sb.antisymm (fun w hw => (gset_bit k6).2 ⟨hbl w hw, fun x hx => ?_⟩) h3
  have : 0 ≤ x ∧ x < k ∧ F.getLsbD x.toNat = true := by
    refine Rc.inv (st := kst cells k) (fun x : Int => 0 ≤ x ∧ x < k ∧ F.getLsbD x.toNat = true) hx ⟨by omega, by have := hbl w hw; omega, by simpa using hw⟩ ?_
    rintro x y ⟨x0, x1, hF⟩ ⟨y0, y1, i, hi, he⟩
    refine ⟨y0, y1, ?_⟩
    rw [← h2] at hF
    exact ((kset_bit (by rw [getd_at _ hi]; exact h.len i hi) k6).1 ((eachN_bit.1 hF).2 i hi)).2 _ (by omega) he.symm
  exact h1 _ this.2.2

theorem common_eq {n : Int} {cells : List (List Int)} {ev : BitVec 32} {k : Nat} (h : KOk n cells ev k) (hw : know_wrong n cells ev = some 0) (fuel : Nat) (hf : 100 < fuel) : know_Common fuel n cells ev = some (gset cells k ev, 0) := by
  have k6 := h.k6
  unfold know_Common
  rw [hw, Option.bind_some, each_eq]
  simp only [bne_self_eq_false, cond_false, Option.bind_some]
  have hlt : ev.toNat < 64 := by
    have := bel_toNat.1 h.bel
    have := Nat.pow_le_pow_right (n := 2) (by omega) k6
    omega
  have hg0 : sb (gset cells k ev) ev := fun w hw => by
    obtain ⟨h1, h2⟩ := (gset_bit k6).1 hw
    simpa using h2 w .refl
  refine whileK_q (Q := fun o => o = some (gset cells k ev, (0 : Int))) (fun (s : BitVec 32 × BitVec 32) => s.2 = eachS cells s.1 ∧ sb (gset cells k ev) s.1 ∧ sb s.1 ev) (fun s => s.1.toNat) (fun s nx hI hnx => ?_) fuel _ ⟨rfl, hg0, sb_refl _⟩ (by simp only; omega)
  obtain ⟨e, x⟩ := s
  obtain ⟨g1, g2, g3⟩ := hI
  simp only at g1 g2 g3 ⊢
  subst g1
  unfold know_Common_b12
  by_cases hx : eachS cells e = e
  · rw [show (eachS cells e != e) = false by simpa using hx, cond_false]
    unfold know_Common_k10
    rw [fix_gset h g3 hx g2]
  · rw [show (eachS cells e != e) = true by simpa using hx, cond_true, each_eq, Option.bind_some]
    exact hnx _ ⟨rfl, gset_each h g2, (eachN_sub _ _ _).trans g3⟩ ((eachN_sub _ _ _).lt hx)

theorem knowCommons_true (fuel : Nat) (n : Int) (cells : List (List Int)) (ev : BitVec 32) (hf : 100 < fuel := by decide) : syllogistlaw_KnowCommons fuel n cells ev = some true := by
  unfold syllogistlaw_KnowCommons
  obtain ⟨r, e1, e2, h⟩ := kcheck n cells ev
  by_cases hr : r = 0
  · subst hr
    obtain ⟨k, h⟩ := h rfl
    rw [common_eq h e1 fuel hf, e2]
    have := h.n
    subst this
    rw [shared_eq h fuel (by omega)]
    simp
  · have : (r != 0) = true := by simpa using hr
    unfold know_Common
    rw [e1, e2]
    simp [this]
end Go.Proofs.Ytoninfimcobeiaa.Sy
