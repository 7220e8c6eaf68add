/- Sums: rows with a bit of their own: the plain laws; no program in sight. -/
import Derived.Test.YtoninfimcobeiaaSyR
import Derived.Test.YtoninfimcobeiaaG2
namespace Go.Proofs.Ytoninfimcobeiaa.Sy
set_option linter.unusedVariables false

theorem contW (s : List (BitVec 32)) (f : BitVec 32 → Option Bool) (p : BitVec 32 → Bool) (hf : ∀ a ∈ s, f a = some (p a)) : slices_ContainsFunc_Suint32uint32 s f = some (s.any p) := any_shape s f p hf
theorem bit_eq (w : BitVec 32) (j : Nat) (hj : j < 32) : syllogistref_Bit w j = some (w.getLsbD j) := congrArg some (bit_shape w j hj)
theorem fits_eq {n : Nat} (hn : n < 32) (s : BitVec 32) : syllogistref_Fits n s = some (decide (s < 1#32 <<< n)) := congrArg some (fits_shape hn s)
abbrev wd (l : List (BitVec 32)) (i : Nat) : BitVec 32 := l[i]?.getD 0#32
theorem geti_wd {l : List (BitVec 32)} {i : Nat} (h : i < l.length) : geti l (i : Int) = some (wd l i) := geti_d _ h
structure AOk (n : Int) (l : List (BitVec 32)) (s : BitVec 32) (k : Nat) : Prop where
  n : n = k
  k1 : 1 ≤ k
  k8 : k ≤ 8
  len : l.length ≤ 12
  q : ∀ i, i < l.length → bel k (wd l i)
  s : bel k s
theorem acheck (n : Int) (l : List (BitVec 32)) (s : BitVec 32) : ∃ r, sums_wrong n l s = some r ∧ syllogistref_AskedCheck n l s = some r ∧ (r = 0 → ∃ k, AOk n l s k) := by
  unfold sums_wrong syllogistref_AskedCheck
  cases hb : (((decide (n < (1 : Int))) || (decide (n > (8 : Int)))) || (decide ((l.length : Int) > (12 : Int)))) with
  | true => exact ⟨1, rfl, rfl, by simp⟩
  | false =>
    simp only [Bool.or_eq_false_iff, decide_eq_false_iff_not] at hb
    obtain ⟨⟨h1, h2⟩, h3⟩ := hb
    obtain ⟨k, rfl⟩ : ∃ k : Nat, n = k := ⟨n.toNat, by omega⟩
    simp only [cond_false]
    rw [contW l (fun a => sums_wrong_c1 a k) (fun c => !decide (c < 1#32 <<< k)) (fun a _ => by
      unfold sums_wrong_c1
      rw [decide_eq_true (by omega), cond_true, Int.toNat_natCast, shr_ne (by omega)]), Option.bind_some, any_len, decide_eq_true (show (0 : Int) ≤ (k : Int) by omega), Bool.or_true, cond_true, Int.toNat_natCast, shr_ne (by omega)]
    rw [for_out (n := l.length) (fun j => (l[j]?.map fun c => !decide (c < 1#32 <<< k)).getD false) (some 4) rfl (fun j nx hj => by
      unfold syllogistref_AskedCheck_b9
      rw [geti_at hj, Option.bind_some, fits_eq (by omega), Option.bind_some, List.getElem?_eq_getElem hj]
      rfl)]
    unfold syllogistref_AskedCheck_k3
    rw [fits_eq (by omega)]
    cases ha : anyN l.length (fun j => (l[j]?.map fun c => !decide (c < 1#32 <<< k)).getD false) with
    | true => exact ⟨4, rfl, rfl, by simp⟩
    | false =>
      cases hs : decide (s < 1#32 <<< k) with
      | false => exact ⟨4, rfl, rfl, by simp⟩
      | true =>
        refine ⟨0, rfl, rfl, fun _ => ⟨k, rfl, by omega, by omega, by omega, fun i hi => ?_, (bel_lt (by omega)).1 (of_decide_eq_true hs)⟩⟩
        have := anyN_false.1 ha i hi
        rw [List.getElem?_eq_getElem hi] at this
        simp only [Option.map_some, Option.getD_some, Bool.not_eq_false', decide_eq_true_eq] at this
        rw [show wd l i = l[i] from getd_at _ hi]
        exact (bel_lt (by omega)).1 this

/-! ### Sums of some -/
theorem xor_bit (a b : BitVec 32) (i : Nat) : (a ^^^ b).getLsbD i = (a.getLsbD i != b.getLsbD i) := by simp
theorem xor4 (x y q : BitVec 32) : (x ^^^ q) ^^^ (y ^^^ q) = x ^^^ y := by
  refine bits_ext fun i => ?_
  simp only [xor_bit]
  cases x.getLsbD i <;> cases y.getLsbD i <;> cases q.getLsbD i <;> simp
theorem xor_r (x y q : BitVec 32) : (x ^^^ q) ^^^ y = (x ^^^ y) ^^^ q := by
  rw [BitVec.xor_assoc, BitVec.xor_comm q y, BitVec.xor_assoc]
/-- The sum of those that are picked. -/
def pks (p : Nat → Bool) (f : Nat → BitVec 32) : Nat → BitVec 32
  | 0 => 0#32
  | t + 1 => bif p t then pks p f t ^^^ f t else pks p f t
theorem pks_xor {p q : Nat → Bool} {f : Nat → BitVec 32} : ∀ {t : Nat}, pks (fun i => p i != q i) f t = pks p f t ^^^ pks q f t
  | 0 => by simp [pks]
  | t + 1 => by
    simp only [pks]
    rw [pks_xor]
    cases p t <;> cases q t
    · rfl
    · exact BitVec.xor_assoc _ _ _
    · exact (xor_r _ _ _).symm
    · exact (xor4 _ _ _).symm
theorem pks_congr {p q : Nat → Bool} {f : Nat → BitVec 32} : ∀ {t : Nat}, (∀ i, i < t → p i = q i) → pks p f t = pks q f t
  | 0, _ => rfl
  | t + 1, h => by simp only [pks]; rw [h t (by omega), pks_congr fun i hi => h i (by omega)]
theorem pks_none {p : Nat → Bool} {f : Nat → BitVec 32} : ∀ {t : Nat}, (∀ i, i < t → p i = false) → pks p f t = 0#32
  | 0, _ => rfl
  | t + 1, h => by simp only [pks]; rw [h t (by omega), pks_none fun i hi => h i (by omega)]; rfl
theorem pks_one {p : Nat → Bool} {f : Nat → BitVec 32} {j : Nat} : ∀ {t : Nat}, j < t → (∀ i, i < t → p i = decide (i = j)) → pks p f t = f j
  | t + 1, hj, h => by
    simp only [pks]
    by_cases e : t = j
    · subst e
      rw [h t (by omega), decide_eq_true rfl, cond_true, pks_none fun i hi => by rw [h i (by omega), decide_eq_false (by omega)]]
      simp
    · rw [h t (by omega), decide_eq_false e, cond_false, pks_one (by omega) fun i hi => h i (by omega)]
theorem pks_bel {p : Nat → Bool} {f : Nat → BitVec 32} {k : Nat} : ∀ {t : Nat}, (∀ i, i < t → bel k (f i)) → bel k (pks p f t)
  | 0, _ => fun j hj => by simp [pks] at hj
  | t + 1, h => by
    simp only [pks]
    have ih := pks_bel (p := p) (f := f) (k := k) (t := t) fun i hi => h i (by omega)
    cases p t with
    | false => exact ih
    | true =>
      intro j hj
      rw [cond_true, xor_bit] at hj
      cases e : (pks p f t).getLsbD j with
      | true => exact ih j e
      | false => rw [e] at hj; exact h t (by omega) j (by simpa using hj)
abbrev sm (l : List (BitVec 32)) (by_ : BitVec 32) : BitVec 32 := pks by_.getLsbD (wd l) l.length
theorem sm_xor (l : List (BitVec 32)) (a b : BitVec 32) : sm l (a ^^^ b) = sm l a ^^^ sm l b := by
  unfold sm
  rw [← pks_xor]
  exact pks_congr fun i _ => xor_bit a b i
theorem sm_one {l : List (BitVec 32)} {t : Nat} (ht : t < l.length) (h32 : l.length ≤ 32) : sm l (1#32 <<< t) = wd l t := pks_one ht fun i hi => by
  rw [Bool.eq_iff_iff, one_shl, decide_eq_true_eq]
  exact ⟨fun h => h.1, fun h => ⟨h, by omega⟩⟩
theorem sum_eq {l : List (BitVec 32)} (hl : l.length ≤ 12) (by_ : BitVec 32) : syllogistref_Sum l by_ = some (sm l by_) := by
  unfold syllogistref_Sum
  refine (for_rec (n := l.length) (fun t => pks by_.getLsbD (wd l) t) rfl rfl (fun t nx ht => ?_)).trans rfl
  unfold syllogistref_Sum_b10
  rw [geti_wd ht, Option.bind_some, bit_eq _ _ (by omega), Option.bind_some, cond_nx]
  rfl

/-! ### Rows -/
abbrev rw_ (rs : List SumsRow) (i : Nat) : SumsRow := rs[i]?.getD { set_ := 0#32, by_ := 0#32 }
theorem geti_rw {l : List SumsRow} {i : Nat} (h : i < l.length) : geti l (i : Int) = some (rw_ l i) := geti_d _ h
abbrev st (rs : List SumsRow) (i : Nat) : BitVec 32 := (rw_ rs i).set_
/-- Put together of rows, by their own bits. -/
def cmb (rs : List SumsRow) (tp : Nat → Nat) (x : BitVec 32) : BitVec 32 := pks (fun i => x.getLsbD (tp i)) (st rs) rs.length
def V (rs : List SumsRow) (tp : Nat → Nat) (x : BitVec 32) : Prop := cmb rs tp x = x
theorem V.xor {rs : List SumsRow} {tp : Nat → Nat} {x y : BitVec 32} (hx : V rs tp x) (hy : V rs tp y) : V rs tp (x ^^^ y) := by
  unfold V cmb at *
  rw [show (fun i => (x ^^^ y).getLsbD (tp i)) = fun i => (x.getLsbD (tp i) != y.getLsbD (tp i)) from funext fun i => xor_bit x y _, pks_xor, hx, hy]
theorem V.zero (rs : List SumsRow) (tp : Nat → Nat) : V rs tp 0#32 := pks_none fun i _ => by simp
theorem V.pks {rs : List SumsRow} {tp : Nat → Nat} {p : Nat → Bool} {f : Nat → BitVec 32} : ∀ {t : Nat}, (∀ i, i < t → V rs tp (f i)) → V rs tp (pks p f t)
  | 0, _ => V.zero rs tp
  | t + 1, h => by
    simp only [Sy.pks]
    have ih := V.pks (p := p) (f := f) (t := t) fun i hi => h i (by omega)
    cases p t with
    | false => exact ih
    | true => exact ih.xor (h t (by omega))
structure RI (k : Nat) (l : List (BitVec 32)) (t : Nat) (rs : List SumsRow) (tp : Nat → Nat) : Prop where
  len : rs.length ≤ t
  b : ∀ i, i < rs.length → bel t (rw_ rs i).by_ ∧ sm l (rw_ rs i).by_ = st rs i
  top : ∀ i, i < rs.length → (st rs i).getLsbD (tp i) = true ∧ ∀ j, tp i < j → (st rs i).getLsbD j = false
  own : ∀ i j, i < rs.length → j < rs.length → i ≠ j → (st rs i).getLsbD (tp j) = false
  bl : ∀ i, i < rs.length → bel k (st rs i)
  spn : ∀ q, q < t → V rs tp (wd l q)
theorem RI.V {k : Nat} {l : List (BitVec 32)} {t : Nat} {rs : List SumsRow} {tp : Nat → Nat} (h : RI k l t rs tp) {j : Nat} (hj : j < rs.length) : V rs tp (st rs j) := pks_one hj fun i hi => by
  by_cases e : i = j
  · subst e; rw [(h.top i hi).1, decide_eq_true rfl]
  · rw [h.own j i hj hi (fun e' => e e'.symm), decide_eq_false e]

theorem len_small : ∀ x : Nat, x < 256 → x ≠ 0 → math_bits_Len32 (BitVec.ofNat 32 x) = some ((Nat.log2 x : Int) + 1) := by decide +kernel
theorem log_bit : ∀ x : Nat, x < 256 → x ≠ 0 → x.testBit (Nat.log2 x) = true := by decide +kernel
theorem log_top : ∀ x : Nat, x < 256 → ∀ j, j < 32 → Nat.log2 x < j → x.testBit j = false := by decide +kernel
theorem len_eq {x : BitVec 32} (h : x.toNat < 256) (h0 : x ≠ 0#32) : ∃ b : Nat, b < 32 ∧ math_bits_Len32 x = some ((b : Int) + 1) ∧ x.getLsbD b = true ∧ ∀ j, b < j → x.getLsbD j = false := by
  have hne : x.toNat ≠ 0 := fun e => h0 (BitVec.eq_of_toNat_eq (by simpa using e))
  have hx : BitVec.ofNat 32 x.toNat = x := by simp
  have h1 := len_small _ h hne
  rw [hx] at h1
  have h2 : x.getLsbD (Nat.log2 x.toNat) = true := log_bit _ h hne
  refine ⟨Nat.log2 x.toNat, bit32 h2, h1, h2, fun j hj => ?_⟩
  by_cases hj32 : j < 32
  · exact log_top _ h j hj32 hj
  · exact BitVec.getLsbD_of_ge _ _ (by omega)
theorem bel256 {k : Nat} (h : k ≤ 8) {s : BitVec 32} (hs : bel k s) : s.toNat < 256 := by
  have := bel_toNat.1 hs
  have h2 : 2 ^ k ≤ 2 ^ 8 := Nat.pow_le_pow_right (n := 2) (by omega) h
  omega
/-- The length of a row's set. -/
theorem RI.tl {k : Nat} {l : List (BitVec 32)} {t : Nat} {rs : List SumsRow} {tp : Nat → Nat} (h : RI k l t rs tp) (k8 : k ≤ 8) {j : Nat} (hj : j < rs.length) : math_bits_Len32 (st rs j) = some ((tp j : Int) + 1) ∧ tp j < 32 := by
  obtain ⟨t1, t2⟩ := h.top j hj
  have hne : st rs j ≠ 0#32 := fun e => by rw [e] at t1; simp at t1
  obtain ⟨b, hb, e, b1, b2⟩ := len_eq (bel256 k8 (h.bl j hj)) hne
  have : b = tp j := by
    by_cases h1 : b < tp j
    · rw [b2 _ h1] at t1; cases t1
    · by_cases h2 : tp j < b
      · rw [t2 _ h2] at b1; cases b1
      · omega
  subst this
  exact ⟨e, hb⟩

theorem less_eq {k : Nat} {l : List (BitVec 32)} {t : Nat} {rs : List SumsRow} {tp : Nat → Nat} (h : RI k l t rs tp) (k8 : k ≤ 8) (ht12 : t ≤ 12) (z : List (BitVec 32)) (r : SumsRow) (hs : bel k r.set_) :
    ∃ r' : SumsRow, sums_base_less (some { l := rs, zero := z }) r = some r' ∧ bel k r'.set_ ∧ (∀ i, i < rs.length → r'.set_.getLsbD (tp i) = false) ∧ (∃ y, V rs tp y ∧ r'.set_ = r.set_ ^^^ y) ∧
      (sm l r.by_ = r.set_ → sm l r'.by_ = r'.set_) ∧ (∀ T, t ≤ T → bel T r.by_ → bel T r'.by_) ∧ ∃ y, r'.set_ = r.set_ ^^^ sm l y ∧ r'.by_ = r.by_ ^^^ y ∧ bel t y := by
  have hlen := h.len
  unfold sums_base_less
  rw [Option.bind_some]
  refine for0_q (Q := fun o => ∃ r' : SumsRow, o = some r' ∧ bel k r'.set_ ∧ (∀ i, i < rs.length → r'.set_.getLsbD (tp i) = false) ∧ (∃ y, V rs tp y ∧ r'.set_ = r.set_ ^^^ y) ∧ (sm l r.by_ = r.set_ → sm l r'.by_ = r'.set_) ∧ (∀ T, t ≤ T → bel T r.by_ → bel T r'.by_) ∧ ∃ y, r'.set_ = r.set_ ^^^ sm l y ∧ r'.by_ = r.by_ ^^^ y ∧ bel t y)
    (fun u (c : BitVec 32 × BitVec 32) => bel k c.1 ∧ (∀ i, i < u → c.1.getLsbD (tp i) = false) ∧ (∃ y, V rs tp y ∧ c.1 = r.set_ ^^^ y) ∧ ∃ y, c.1 = r.set_ ^^^ sm l y ∧ c.2 = r.by_ ^^^ y ∧ bel t y) rfl _ ⟨hs, fun i hi => by omega, ⟨0#32, V.zero rs tp, by simp⟩, 0#32, by rw [show sm l 0#32 = 0#32 from pks_none fun i _ => by simp]; simp, by simp, fun j hj => by simp at hj⟩ (fun u c nx hu hI hnx => ?_) (fun c hI => ?_)
  · obtain ⟨c1, c2⟩ := c
    obtain ⟨i1, i2, ⟨y, hy, ey⟩, y2, e1, e2, e3⟩ := hI
    simp only at i1 i2 ey e1 e2 ⊢
    have hu : u < rs.length := hu
    obtain ⟨hl, h32⟩ := h.tl k8 hu
    unfold sums_base_less_b27
    rw [geti_rw hu, Option.bind_some, hl, Option.bind_some, show ((tp u : Int) + 1 - 1) = (tp u : Int) by omega, w64_id (by omega) (by omega), decide_eq_true (by omega), cond_true, Int.toNat_natCast, bit_shr]
    cases hb : c1.getLsbD (tp u) with
    | true =>
      rw [cond_true]
      refine hnx _ ⟨fun j hj => ?_, fun i hi => ?_, ⟨y ^^^ st rs u, hy.xor (h.V hu), by simp only; rw [ey, BitVec.xor_assoc]⟩, y2 ^^^ (rw_ rs u).by_, ?_, ?_, fun j hj => ?_⟩
      · simp only at hj
        rw [xor_bit] at hj
        cases e : c1.getLsbD j with
        | true => exact i1 j e
        | false => rw [e] at hj; exact h.bl u hu j (by simpa using hj)
      · simp only
        rw [xor_bit]
        by_cases e : i = u
        · subst e; rw [hb, (h.top i hu).1]; rfl
        · rw [i2 i (by omega), h.own u i hu (by omega) (fun e' => e e'.symm)]; rfl
      · simp only
        rw [sm_xor, (h.b u hu).2, e1, BitVec.xor_assoc]
      · simp only
        rw [e2, BitVec.xor_assoc]
      · rw [xor_bit] at hj
        cases e : y2.getLsbD j with
        | true => exact e3 j e
        | false => rw [e] at hj; exact (h.b u hu).1 j (by simpa using hj)
    | false =>
      rw [cond_false]
      refine hnx _ ⟨i1, fun i hi => ?_, ⟨y, hy, ey⟩, y2, e1, e2, e3⟩
      by_cases e : i = u
      · subst e; exact hb
      · exact i2 i (by omega)
  · obtain ⟨c1, c2⟩ := c
    obtain ⟨i1, i2, hy, y2, e1, e2, e3⟩ := hI
    refine ⟨⟨c1, c2⟩, rfl, i1, i2, hy, fun he => ?_, fun T hT hb j hj => ?_, y2, e1, e2, e3⟩
    · simp only at e1 e2 ⊢
      rw [e2, sm_xor, he, e1]
    · simp only at e2 hj
      rw [e2, xor_bit] at hj
      cases e : r.by_.getLsbD j with
      | true => exact hb j e
      | false => rw [e] at hj; have := e3 j (by simpa using hj); omega
end Go.Proofs.Ytoninfimcobeiaa.Sy
