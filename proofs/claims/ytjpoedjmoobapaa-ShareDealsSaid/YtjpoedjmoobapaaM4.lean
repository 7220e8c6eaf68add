/- Shares dealt: the plain law; no program in sight. -/
import Derived.Test.YtjpoedjmoobapaaSyR
import Derived.Test.YtjpoedjmoobapaaG2
namespace Go.Proofs.Ytjpoedjmoobapaa.Sy
set_option linter.unusedVariables false

theorem contW (s : List (BitVec 32)) (f : BitVec 32 → Option Bool) (p : BitVec 32 → Bool) (hf : ∀ a ∈ s, f a = some (p a)) : slices_ContainsFunc_Suint32uint32 s f = some (s.any p) := any_shape s f p hf
theorem fits_eq {n : Nat} (hn : n < 32) (s : BitVec 32) : syllogistref_Fits n s = some (decide (s < 1#32 <<< n)) := congrArg some (fits_shape hn s)
theorem in_eq (a b : BitVec 32) : syllogistref_In a b = some (tru (sb a b)) := congrArg some (tru_of (by rw [or_iff]))
theorem andn_sb (a b : BitVec 32) : ((a &&& ~~~b) == 0#32) = tru (sb a b) := by rw [andn_or]; exact tru_of or_iff

abbrev wd (l : List (BitVec 32)) (i : Nat) : BitVec 32 := l[i]?.getD 0#32
theorem geti_wd {l : List (BitVec 32)} {i : Nat} (h : i < l.length) : geti l (i : Int) = some (wd l i) := geti_d _ h
structure DOk (n : Int) (l : List (BitVec 32)) (k : Nat) : Prop where
  n : n = k
  k1 : 1 ≤ k
  k6 : k ≤ 6
  len : l.length ≤ 10
  bel : ∀ i, i < l.length → bel k (wd l i)

/-- No set lies within. -/
def Lst (l : List (BitVec 32)) (w : BitVec 32) : Prop := ∀ i, i < l.length → ¬sb (wd l i) w
def MostL (n : Nat) (l : List (BitVec 32)) (w : BitVec 32) : Prop := Lst l w ∧ ∀ m, bel n m → sb w m → m ≠ w → ¬Lst l m
theorem Lst.sb {l : List (BitVec 32)} {a b : BitVec 32} (h : Lst l b) (hs : sb a b) : Lst l a := fun i hi hh => h i hi (hh.trans hs)

theorem lost_eq (l : List (BitVec 32)) (w : BitVec 32) : share_lost_c2 w l = some (tru (Lst l w)) := by
  unfold share_lost_c2
  rw [contW l (fun a => share_lost_c2_c1 a w) (fun s => tru (sb s w)) (fun a _ => by unfold share_lost_c2_c1; rw [andn_sb]), Option.bind_some, any_len]
  refine congrArg some (tru_of ?_)
  rw [Bool.not_eq_true', anyN_false]
  refine forall_congr' fun i => forall_congr' fun hi => ?_
  rw [List.getElem?_eq_getElem hi, Option.map_some, Option.getD_some, tru_false, show wd l i = l[i] from getd_at _ hi]
theorem rlost_eq (l : List (BitVec 32)) (w : BitVec 32) : syllogistref_Lost l w = some (tru (Lst l w)) := by
  unfold syllogistref_Lost
  rw [for_out (n := l.length) (fun i => tru (sb (wd l i) w)) (some false) rfl (fun i nx hi => by
    unfold syllogistref_Lost_b7
    rw [geti_wd hi, Option.bind_some, in_eq, Option.bind_some])]
  unfold syllogistref_Lost_k3
  cases ha : anyN l.length (fun i => tru (sb (wd l i) w)) with
  | true =>
    obtain ⟨i, hi, h⟩ := anyN_iff.1 ha
    rw [cond_true, (tru_false (p := Lst l w)).2 fun hall => hall i hi (tru_iff.1 h)]
  | false =>
    rw [cond_false, (tru_iff (p := Lst l w)).2 fun i hi => tru_false.1 (anyN_false.1 ha i hi)]

theorem dcheck (n : Int) (l : List (BitVec 32)) : (∃ r, r ≠ 0 ∧ share_lost n l = some ([], r) ∧ syllogistref_SetsCheck n l = some r) ∨ ((∃ k, DOk n l k) ∧ syllogistref_SetsCheck n l = some 0 ∧
    share_lost n l = bif decide (0 ≤ n) then forK (σ := (List (BitVec 32))) (fun i s nx_ => share_lost_b22 n l i s nx_) (fun s => share_lost_k17 s) (((1#32 <<< n.toNat)).toNat - (0#32).toNat) 0#32 (([] : List (BitVec 32))) else none) := by
  unfold share_lost syllogistref_SetsCheck
  cases hb : (((decide (n < (1 : Int))) || (decide (n > (6 : Int)))) || (decide ((l.length : Int) > (10 : Int)))) with
  | true => exact .inl ⟨1, by decide, rfl, rfl⟩
  | false =>
    simp only [Bool.or_eq_false_iff, decide_eq_false_iff_not] at hb
    obtain ⟨⟨h1, h2⟩, h3⟩ := hb
    obtain ⟨k, rfl⟩ : ∃ k : Nat, n = k := ⟨n.toNat, by omega⟩
    simp only [cond_false]
    rw [contW l (fun a => share_lost_c1 a k) (fun c => !decide (c < 1#32 <<< k)) (fun a _ => by
      unfold share_lost_c1
      rw [decide_eq_true (by omega), cond_true, Int.toNat_natCast, shr_ne (by omega)]), Option.bind_some, any_len]
    rw [for_out (n := l.length) (fun j => (l[j]?.map fun c => !decide (c < 1#32 <<< k)).getD false) (some 4) rfl (fun j nx hj => by
      unfold syllogistref_SetsCheck_b7
      rw [geti_at hj, Option.bind_some, fits_eq (by omega), Option.bind_some, List.getElem?_eq_getElem hj]
      rfl)]
    unfold syllogistref_SetsCheck_k3
    cases ha : anyN l.length (fun j => (l[j]?.map fun c => !decide (c < 1#32 <<< k)).getD false) with
    | true => exact .inl ⟨4, by decide, rfl, rfl⟩
    | false =>
      refine .inr ⟨⟨k, rfl, by omega, by omega, by omega, fun i hi => ?_⟩, rfl, rfl⟩
      have := anyN_false.1 ha i hi
      rw [List.getElem?_eq_getElem hi] at this
      simp only [Option.map_some, Option.getD_some, Bool.not_eq_false', decide_eq_true_eq] at this
      rw [show wd l i = l[i] from getd_at _ hi]
      exact (bel_lt (by omega)).1 this

theorem pow64 {k : Nat} (h : k ≤ 6) : 2 ^ k ≤ 64 := Nat.pow_le_pow_right (n := 2) (by omega) h
/-- Most lost: bit by bit. -/
theorem most_bits {k : Nat} (hk : k ≤ 32) {l : List (BitVec 32)} {w : BitVec 32} (hw : bel k w) : MostL k l w ↔ Lst l w ∧ ∀ i, i < k → w.getLsbD i = true ∨ ¬Lst l (w ||| 1#32 <<< i) := by
  have bitb : ∀ i, i < k → ∀ j, (w ||| 1#32 <<< i).getLsbD j = true ↔ w.getLsbD j = true ∨ j = i := fun i hi j => by
    rw [BitVec.getLsbD_or, Bool.or_eq_true, one_shl]
    exact or_congr_right ⟨fun h => h.1, fun h => ⟨h, by omega⟩⟩
  refine and_congr_right fun hl => ⟨fun h i hi => ?_, fun h m hm hs hne hlm => ?_⟩
  · cases e : w.getLsbD i with
    | true => exact .inl rfl
    | false =>
      refine .inr (h _ (fun j hj => ?_) (sb_orl _ _) fun ee => ?_)
      · rcases (bitb i hi j).1 hj with h | h
        · exact hw j h
        · omega
      · have := (bitb i hi i).2 (.inr rfl)
        rw [ee, e] at this; cases this
  · have : ∃ i, m.getLsbD i = true ∧ w.getLsbD i = false := by
      apply Classical.byContradiction
      intro hno
      refine hne (bits_ext fun i => ⟨fun hi => ?_, hs i⟩)
      cases e : w.getLsbD i with
      | true => rfl
      | false => exact absurd ⟨i, hi, e⟩ hno
    obtain ⟨i, hi, e⟩ := this
    rcases h i (hm i hi) with h | h
    · rw [e] at h; cases h
    · refine h (hlm.sb fun j hj => ?_)
      rcases (bitb i (hm i hi) j).1 hj with h | h
      · exact hs j h
      · subst h; exact hi

theorem bit_eq (w : BitVec 32) (j : Nat) (hj : j < 32) : syllogistref_Bit w j = some (w.getLsbD j) := congrArg some (bit_shape w j hj)

theorem mostlost_eq {n : Int} {l : List (BitVec 32)} {k : Nat} (h : DOk n l k) : syllogistref_MostLost k l = some (flt (MostL k l) (1#32 <<< k).toNat) := by
  have k6 := h.k6
  have hB : (1#32 <<< k).toNat = 2 ^ k := one_shl_toNat (by omega)
  have hp := pow64 k6
  unfold syllogistref_MostLost
  rw [ofInt64 (by omega)]
  rw [forU_flt (MostL k l) (fun t s nx ht hs => by
    have hlen : s.length < 64 := by have := flt_len (P := MostL k l) (m := t.toNat); subst hs; omega
    unfold syllogistref_MostLost_b13
    rw [rlost_eq, Option.bind_some, ofInt64 (by omega)]
    rw [forU_rec (fun j => tru (Lst l t ∧ ∀ m : BitVec 32, m.toNat < j → sb t m → m ≠ t → ¬Lst l m)) (tru_congr ⟨fun h => ⟨h, fun i hi => by omega⟩, fun h => h.1⟩) (fun c nx hc => by
      unfold syllogistref_MostLost_b30
      rw [in_eq, rlost_eq]
      simp only [Option.isSome_some, Bool.or_true, cond_true, Option.getD_some]
      rw [cond_nx]
      refine congrArg nx (tru_of ?_)
      cases hx : (((c != t) && tru (sb t c)) && tru (Lst l c)) with
      | true =>
        rw [cond_true]
        rw [Bool.and_eq_true, Bool.and_eq_true, bne_iff_ne, tru_iff, tru_iff] at hx
        simp only [Bool.false_eq_true, false_iff]
        rintro ⟨_, h2⟩
        exact h2 c (by omega) hx.1.2 hx.1.1 hx.2
      | false =>
        rw [cond_false, tru_iff]
        refine and_congr_right fun hl => ⟨fun h m hm hs hne hlm => ?_, fun h m hm => h m (by omega)⟩
        by_cases e : m.toNat = c.toNat
        · have := BitVec.eq_of_toNat_eq e
          subst this
          rw [tru_iff.2 hs, tru_iff.2 hlm, bne_iff_ne.2 hne] at hx
          cases hx
        · exact h m (by omega) hs hne hlm)]
    unfold syllogistref_MostLost_k23
    rw [decide_eq_true (by simp only [List.length_cons, List.length_nil]; omega), cond_true]
    have : tru (Lst l t ∧ ∀ m : BitVec 32, m.toNat < (1#32 <<< k).toNat → sb t m → m ≠ t → ¬Lst l m) = tru (MostL k l t) := tru_congr (and_congr_right fun _ => forall_congr' fun m => by
      rw [hB, ← bel_toNat])
    rw [this]
    cases tru (MostL k l t) with
    | true => rw [cond_true, cond_true]
    | false => rw [cond_false, cond_false, List.append_nil])]
  rfl
theorem lostl_eq {n : Int} {l : List (BitVec 32)} {k : Nat} (h : DOk n l k) : share_lost k l = some (flt (MostL k l) (1#32 <<< k).toNat, 0) := by
  have k6 := h.k6
  have hn := h.n
  subst hn
  have hB : (1#32 <<< k).toNat = 2 ^ k := one_shl_toNat (by omega)
  have hp := pow64 k6
  have e1 : share_lost k l = bif decide (0 ≤ (k : Int)) then forK (σ := (List (BitVec 32))) (fun i s nx_ => share_lost_b22 k l i s nx_) (fun s => share_lost_k17 s) (((1#32 <<< (k : Int).toNat)).toNat - (0#32).toNat) 0#32 (([] : List (BitVec 32))) else none := by
    rcases dcheck (k : Int) l with ⟨r, hr, _, e2⟩ | ⟨_, _, e⟩
    · exfalso
      unfold syllogistref_SetsCheck at e2
      have hb : (((decide ((k : Int) < (1 : Int))) || (decide ((k : Int) > (6 : Int)))) || (decide ((l.length : Int) > (10 : Int)))) = false := by
        have := h.k1; have := h.len
        simp only [Bool.or_eq_false_iff, decide_eq_false_iff_not]; omega
      rw [hb, cond_false, for_out (n := l.length) (fun _ => false) (some 4) rfl (fun j nx hj => by
        unfold syllogistref_SetsCheck_b7
        rw [geti_wd hj, Option.bind_some, fits_eq (by omega), Option.bind_some, decide_eq_true ((bel_lt (by omega)).2 (h.bel j hj))]; rfl), anyN_false.2 fun _ _ => rfl, cond_false] at e2
      exact hr (Option.some.inj e2).symm
    · exact e
  rw [e1, decide_eq_true (by omega), cond_true, Int.toNat_natCast]
  rw [forU_flt (MostL k l) (fun t s nx ht hs => by
    have hlen : s.length < 64 := by have := flt_len (P := MostL k l) (m := t.toNat); subst hs; omega
    unfold share_lost_b22
    rw [lost_eq, Option.bind_some, decide_eq_true (by omega), cond_true]
    have hbt : bel k t := bel_toNat.2 (by omega)
    rw [for_rec (n := k) (fun j => tru (Lst l t ∧ ∀ i, i < j → t.getLsbD i = true ∨ ¬Lst l (t ||| 1#32 <<< i))) rfl (tru_congr ⟨fun h => ⟨h, fun i hi => by omega⟩, fun h => h.1⟩) (fun j nx hj => by
      unfold share_lost_b40
      rw [lost_eq]
      simp only [Option.isSome_some, Bool.or_true, cond_true, Option.getD_some, Int.toNat_natCast]
      refine congrArg nx (tru_of ?_)
      rw [Bool.and_eq_true, tru_iff, Bool.or_eq_true, Bool.not_eq_true', tru_false, show ((t >>> j &&& 1#32) == 1#32) = t.getLsbD j from bit_shr _ _]
      constructor
      · rintro ⟨⟨h1, h2⟩, h3⟩
        refine ⟨h1, fun i hi => ?_⟩
        by_cases e : i = j
        · subst e; exact h3
        · exact h2 i (by omega)
      · rintro ⟨h1, h2⟩
        exact ⟨⟨h1, fun i hi => h2 i (by omega)⟩, h2 j (by omega)⟩)]
    unfold share_lost_k32
    rw [decide_eq_true (by simp only [List.length_cons, List.length_nil]; omega), cond_true, tru_congr (most_bits (by omega) hbt).symm]
    cases tru (MostL k l t) with
    | true => rw [cond_true, cond_true]
    | false => rw [cond_false, cond_false, List.append_nil])]
  rfl

/-! ### Is there something to deal? -/
noncomputable def none_ (k : Nat) (l : List (BitVec 32)) : Bool := ((flt (MostL k l) (1#32 <<< k).toNat).length == 0) || tru (Lst l (full k))
theorem most_full {k : Nat} (hk : k < 32) {l : List (BitVec 32)} : MostL k l (full k) ↔ Lst l (full k) := by
  refine ⟨fun h => h.1, fun h => ⟨h, fun m hm hs hne => ?_⟩⟩
  refine absurd (bits_ext fun i => ⟨fun hi => (full_bit hk i).2 (hm i hi), hs i⟩) hne
theorem flt_split {k : Nat} (hk : k < 32) (P : BitVec 32 → Prop) : flt P (1#32 <<< k).toNat = flt P (full k).toNat ++ (bif tru (P (full k)) then [full k] else []) := by
  rw [← flt_next, full_toNat hk, one_shl_toNat hk]
  congr 1
  have : 0 < 2 ^ k := Nat.two_pow_pos k
  omega
theorem none_eq {k : Nat} (k6 : k ≤ 6) (l : List (BitVec 32)) : share_none k (flt (MostL k l) (1#32 <<< k).toNat) = some (none_ k l) := by
  have hB : (1#32 <<< k).toNat = 2 ^ k := one_shl_toNat (by omega)
  have hp := pow64 k6
  have hlen : (flt (MostL k l) (1#32 <<< k).toNat).length ≤ 64 := by have := flt_len (P := MostL k l) (m := (1#32 <<< k).toNat); omega
  unfold share_none none_
  cases hf : (flt (MostL k l) (1#32 <<< k).toNat) with
  | nil => rfl
  | cons a r =>
    rw [hf] at hlen
    have hw : w64 (((a :: r).length : Int) - 1) = (r.length : Int) := by rw [w64_id (by simp only [List.length_cons] at *; omega) (by simp only [List.length_cons] at *; omega)]; simp
    have hlast : geti (a :: r) (r.length : Int) = some ((a :: r)[r.length]'(by simp)) := geti_at (by simp)
    have h0 : (((a :: r).length : Int) == 0) = false := by rw [beq_eq_false_iff_ne]; simp; omega
    have h0' : ((a :: r).length == 0) = false := rfl
    rw [hw, hlast, h0, h0']
    simp only [Option.isSome_some, Bool.or_true, cond_true, Option.getD_some, Bool.false_or, Int.toNat_natCast]
    rw [decide_eq_true (by omega), Bool.or_true, cond_true]
    refine congrArg some (tru_of ?_)
    rw [beq_iff_eq]
    show _ = full k ↔ _
    have hsp := flt_split (k := k) (by omega) (MostL k l)
    rw [hf] at hsp
    constructor
    · intro e
      have hm : full k ∈ flt (MostL k l) (1#32 <<< k).toNat := by rw [hf, ← e]; exact List.getElem_mem _
      exact ((flt_mem (by omega)).1 hm).2.1
    · intro h
      rw [tru_iff.2 ((most_full (by omega)).2 h), cond_true] at hsp
      have h1 : (a :: r)[r.length]? = some (full k) := by
        have hl : (flt (MostL k l) (full k).toNat).length = r.length := by
          have := congrArg List.length hsp
          simp at this; omega
        rw [hsp, List.getElem?_append_right (by omega), hl]; simp
      rw [List.getElem?_eq_getElem (by simp)] at h1
      exact Option.some.inj h1
theorem deals_eq {n : Int} {l : List (BitVec 32)} {k : Nat} (h : DOk n l k) : syllogistref_Deals k l = some (!none_ k l) := by
  have k6 := h.k6
  unfold syllogistref_Deals none_
  rw [mostlost_eq h, Option.bind_some, ofInt64 (by omega), rlost_eq]
  simp only [Option.isSome_some, Bool.or_true, cond_true, Option.getD_some]
  refine congrArg some ?_
  rw [Bool.not_or]
  show (_ && !tru (Lst l (full k))) = _
  congr 1
  cases hf : (flt (MostL k l) (1#32 <<< k).toNat) with
  | nil => rfl
  | cons a r => simp

/-! ### Shares dealt -/
theorem mul_eq : ∀ m : Nat, m < 65 → math_bits_Mul (BitVec.ofInt 64 1) (BitVec.ofInt 64 (m : Int)) = some (0#64, BitVec.ofNat 64 m) := by decide +kernel
theorem repeat_eq {m : Nat} (h1 : 1 ≤ m) (hm : m < 65) {fuel : Nat} (hf : 100 < fuel) : slices_Repeat_Sintint fuel [-1] (m : Int) = some (List.replicate m (-1)) := by
  unfold slices_Repeat_Sintint
  have e1 : ((([(-1 : Int)] : List Int).length : Nat) : Int) = 1 := rfl
  rw [decide_eq_false (by omega), cond_false, e1, mul_eq m hm, Option.bind_some]
  have ew : w64 (((BitVec.ofNat 64 m).toNat : Nat) : Int) = (m : Int) := by
    rw [BitVec.toNat_ofNat, Nat.mod_eq_of_lt (by omega), w64_id (by omega) (by omega)]
  have eg : decide ((BitVec.ofNat 64 m) > 9223372036854775807#64) = false := by
    rw [decide_eq_false_iff_not]
    intro h
    rw [gt_iff_lt, BitVec.lt_def, BitVec.toNat_ofNat, BitVec.toNat_ofNat] at h
    omega
  have e0 : decide ((0#64 : BitVec 64) > 0#64) = false := rfl
  dsimp only
  rw [eg, e0, Bool.or_self, cond_false, ew, decide_eq_true (by omega), cond_true, Int.toNat_natCast]
  refine whileK_q (Q := fun o => o = some (List.replicate m (-1))) (fun s : Int × List Int => ∃ n : Nat, s.1 = n ∧ 1 ≤ n ∧ n ≤ m ∧ s.2 = List.replicate n (-1) ++ List.replicate (m - n) 0) (fun s => m - s.1.toNat) (fun s nx hI hnx => ?_) fuel _ ?_ ?_
  · obtain ⟨n, e, n1, nm, hl⟩ := hI
    obtain ⟨z, l⟩ := s
    dsimp only at e hl
    subst e hl
    have hlen : (List.replicate n (-1 : Int) ++ List.replicate (m - n) 0).length = m := by simp; omega
    unfold slices_Repeat_Sintint_b16
    dsimp only
    rw [hlen]
    by_cases hlt : n < m
    · rw [decide_eq_true (by omega), cond_true, decide_eq_true (by omega), cond_true, Int.toNat_natCast]
      have htk : (List.replicate n (-1 : Int) ++ List.replicate (m - n) 0).take n = List.replicate n (-1) := by
        rw [List.take_append_of_le_length (by simp)]; simp
      rw [htk, List.length_replicate]
      have hmin : Nat.min n (m - n) ≤ n ∧ Nat.min n (m - n) ≤ m - n := ⟨Nat.min_le_left _ _, Nat.min_le_right _ _⟩
      have hpos : 1 ≤ Nat.min n (m - n) := by
        rcases Nat.le_total n (m - n) with h | h
        · rw [show Nat.min n (m - n) = n from Nat.min_eq_left h]; omega
        · rw [show Nat.min n (m - n) = m - n from Nat.min_eq_right h]; omega
      have hcp : cpl n (List.replicate n (-1 : Int) ++ List.replicate (m - n) 0) (List.replicate n (-1)) = List.replicate (n + Nat.min n (m - n)) (-1) ++ List.replicate (m - (n + Nat.min n (m - n))) 0 := by
        unfold cpl
        rw [htk, hlen, List.length_replicate]
        generalize Nat.min n (m - n) = k at hmin hpos
        rw [List.take_replicate, Nat.min_eq_left hmin.1, List.replicate_append_replicate, List.drop_append, List.drop_eq_nil_of_le (by simp), List.nil_append, List.length_replicate, List.drop_replicate]
        congr 2
        omega
      rw [hcp]
      generalize Nat.min n (m - n) = k at hmin hpos
      rw [w64_id (by omega) (by omega)]
      refine hnx _ ⟨n + k, by dsimp only; omega, by omega, by omega, rfl⟩ ?_
      dsimp only
      omega
    · have e : n = m := by omega
      subst e
      rw [decide_eq_false (by omega), cond_false]
      unfold slices_Repeat_Sintint_k14
      simp
  · refine ⟨1, ?_, Nat.le_refl _, h1, ?_⟩
    · dsimp only
      rw [List.length_replicate, Nat.sub_zero]
      have : Nat.min ([(-1 : Int)] : List Int).length m = 1 := Nat.min_eq_left h1
      rw [this]
    · dsimp only
      unfold cpl
      rw [List.length_replicate, Nat.sub_zero]
      have : Nat.min ([(-1 : Int)] : List Int).length m = 1 := Nat.min_eq_left h1
      rw [this, List.drop_replicate]
      rfl
  · dsimp only
    omega
def xs8 (s : BitVec 8) (dice : List (BitVec 8)) : Nat → BitVec 8
  | 0 => s
  | t + 1 => xs8 s dice t ^^^ (dice[t]?.getD 0#8)
def val8 (F : List (BitVec 32)) (parts : List (BitVec 8)) (i q : Nat) : Int := bif (F[q]?.getD 0#32).getLsbD i then -1 else (((parts[q]?.getD 0#8).toNat : Nat) : Int)
theorem ints_rf (a : List Int) : syllogistref_Ints a a = some true := by
  unfold syllogistref_Ints syllogistref_Ints_b7 syllogistref_Ints_k3
  rw [lists_eq a a, decide_eq_true rfl]
theorem deal_eq {n : Int} {l : List (BitVec 32)} {k : Nat} (h : DOk n l k) (s : BitVec 8) (dice : List (BitVec 8)) (hn : none_ k l = false) (hd : (dice.length : Int) = ((flt (MostL k l) (1#32 <<< k).toNat).length : Int) - 1) {fuel : Nat} (hf : 100 < fuel) :
    share_Deal fuel k l s dice = some (tab k fun i => tab (flt (MostL k l) (1#32 <<< k).toNat).length (val8 (flt (MostL k l) (1#32 <<< k).toNat) (dice ++ [xs8 s dice dice.length]) i), 0) := by
  have k6 := h.k6
  have hB : (1#32 <<< k).toNat = 2 ^ k := one_shl_toNat (by omega)
  have hp := pow64 k6
  have hlen : (flt (MostL k l) (1#32 <<< k).toNat).length ≤ 64 := by have := flt_len (P := MostL k l) (m := (1#32 <<< k).toNat); omega
  unfold share_Deal
  rw [lostl_eq h, Option.bind_some]
  simp only [bne_self_eq_false, cond_false]
  rw [none_eq k6, Option.bind_some, hn, cond_false]
  generalize flt (MostL k l) (1#32 <<< k).toNat = F at hd hlen ⊢
  have hdn : ((dice.length : Int) != w64 ((F.length : Int) - 1)) = false := by
    rw [w64_id (by omega) (by omega), hd]; simp
  rw [hdn, cond_false]
  have hcl : slices_Clone_Sbytebyte dice = some dice := by
    unfold slices_Clone_Sbytebyte
    rw [decide_eq_true (by simp only [List.length_nil]; omega), cond_true, List.nil_append]
  rw [hcl, Option.bind_some]
  rw [for_rec (s := s) (n := dice.length) (fun t => xs8 s dice t) rfl rfl (fun t nx ht => by
    unfold share_Deal_b85
    rw [geti_d 0#8 ht, Option.bind_some]; rfl)]
  unfold share_Deal_k17
  rw [decide_eq_true (by simp only [List.length_cons, List.length_nil]; omega), cond_true, decide_eq_true (by omega), cond_true]
  generalize xs8 s dice dice.length = S
  have hpl : (dice ++ [S]).length = F.length := by rw [List.length_append]; simp; omega
  rw [for_apps (n := k) (fun i => [tab F.length (val8 F (dice ++ [S]) i)]) rfl (fun i out nx hi ho => by
    unfold share_Deal_b47
    dsimp only
    rw [repeat_eq (by omega) (by omega) hf, Option.bind_some]
    rw [for_rec (s := List.replicate F.length (-1 : Int)) (n := F.length) (fun t => tab F.length fun q => if q < t then val8 F (dice ++ [S]) i q else -1) rfl (by
      rw [tab_rep]; exact tab_congr fun q _ => by rw [if_neg (by omega)]) (fun t nx' ht => by
      unfold share_Deal_b74
      dsimp only
      rw [geti_d 0#32 ht, Option.bind_some, Int.toNat_natCast, bit_shr1]
      have hst : ∀ v : Int, (val8 F (dice ++ [S]) i t = v) → (tab F.length fun q => if q < t then val8 F (dice ++ [S]) i q else -1).set t v = tab F.length fun q => if q < t + 1 then val8 F (dice ++ [S]) i q else -1 := fun v hv => by
        rw [tab_set ht]
        refine tab_congr fun q _ => ?_
        by_cases e : q = t
        · subst e; rw [if_pos rfl, if_pos (by omega), hv]
        · rw [if_neg e]
          by_cases e2 : q < t
          · rw [if_pos e2, if_pos (by omega)]
          · rw [if_neg e2, if_neg (by omega)]
      cases hb : (F[t]?.getD 0#32).getLsbD i with
      | false =>
        rw [Bool.not_false, cond_true, geti_d 0#8 (by omega), Option.bind_some, tab_geti ht, Option.bind_some, Int.toNat_natCast, hst _ (by unfold val8; rw [hb]; rfl)]
      | true =>
        rw [Bool.not_true, cond_false]
        congr 1
        refine tab_congr fun q _ => ?_
        by_cases e : q = t
        · subst e; rw [if_neg (by omega), if_pos (by omega)]; unfold val8; rw [hb]; rfl
        · by_cases e2 : q < t
          · rw [if_pos e2, if_pos (by omega)]
          · rw [if_neg e2, if_neg (by omega)])]
    unfold share_Deal_k64
    have hol : out.length = i := by rw [ho]; exact apps_one_len
    rw [decide_eq_true (by omega), cond_true]
    congr 3
    exact tab_congr fun q hq => if_pos hq)]
  rfl
theorem k18_nz (n : Int) (l : List (BitVec 32)) (s : BitVec 8) (dice : List (BitVec 8)) {x : Int} (hx : x ≠ 0) : syllogistlaw_ShareDeals_k18 n l s dice ([], x) x = some true := by
  unfold syllogistlaw_ShareDeals_k18
  have : (x != 0) = true := by simpa using hx
  rw [this]
  simp
theorem k88_nz (n : Int) (l : List (BitVec 32)) (s : BitVec 8) (dice : List (BitVec 8)) {x : Int} (hx : x ≠ 0) : syllogistlaw_ShareDeals_k88 n l s dice ([], x) x = some true := by
  unfold syllogistlaw_ShareDeals_k88
  have : (x != 0) = true := by simpa using hx
  rw [this]
  simp
theorem k10_nz (n : Int) (l : List (BitVec 32)) (s : BitVec 8) (dice : List (BitVec 8)) {x : Int} (hx : x ≠ 0) : syllogistlaw_ShareDeals_k10 n l s dice ([], x) x = some true := by
  unfold syllogistlaw_ShareDeals_k10
  have : (x == 0) = false := by simpa using hx
  rw [this]
  simp only [Bool.false_and, cond_false]
  exact k88_nz n l s dice hx
theorem shareDeals_true (fuel : Nat) (n : Int) (l : List (BitVec 32)) (s : BitVec 8) (dice : List (BitVec 8)) (hf : 100 < fuel := by decide) : syllogistlaw_ShareDeals fuel n l s dice = some true := by
  unfold syllogistlaw_ShareDeals
  rcases dcheck n l with ⟨r, h0, e1, e2⟩ | ⟨⟨k, h⟩, e2, e1⟩
  · have hd : share_Deal fuel n l s dice = some ([], r) := by
      unfold share_Deal
      rw [e1, Option.bind_some]
      have : (r != 0) = true := by simpa using h0
      rw [this]; rfl
    have h4 : (r == 0) = false := by simpa using h0
    rw [hd, e2]
    simp only [Option.bind_some, h4, Bool.false_and, cond_false]
    exact k10_nz n l s dice h0
  · have hn := h.n
    subst hn
    have k6 := h.k6
    have hp := pow64 k6
    have hB : (1#32 <<< k).toNat = 2 ^ k := one_shl_toNat (by omega)
    have hlen : (flt (MostL k l) (1#32 <<< k).toNat).length ≤ 64 := by have := flt_len (P := MostL k l) (m := (1#32 <<< k).toNat); omega
    rw [e2, deals_eq h]
    simp only [Option.bind_some, beq_self_eq_true, Bool.true_and, Option.isSome_some, Bool.or_true, cond_true, Option.getD_some, Bool.not_not]
    cases hno : none_ k l with
    | true =>
      have hd : share_Deal fuel k l s dice = some ([], 5) := by
        unfold share_Deal
        rw [lostl_eq h, Option.bind_some]
        simp only [bne_self_eq_false, cond_false]
        rw [none_eq k6, Option.bind_some, hno]; rfl
      rw [hd]
      simp only [Option.bind_some, cond_true]
      exact k10_nz k l s dice (x := 5) (by decide)
    | false =>
      simp only [cond_false]
      have hm0 : 0 < (flt (MostL k l) (1#32 <<< k).toNat).length := by
        unfold none_ at hno
        rw [Bool.or_eq_false_iff, beq_eq_false_iff_ne] at hno
        omega
      unfold syllogistlaw_ShareDeals_k10
      rw [mostlost_eq h]
      simp only [beq_self_eq_true, cond_true, Option.bind_some, Bool.true_and]
      by_cases hd : (dice.length : Int) = ((flt (MostL k l) (1#32 <<< k).toNat).length : Int) - 1
      · have hdn : ((dice.length : Int) != w64 (((flt (MostL k l) (1#32 <<< k).toNat).length : Int) - 1)) = false := by
          rw [w64_id (by omega) (by omega), hd]; simp
        rw [deal_eq h s dice hno hd hf]
        simp only [Option.bind_some, hdn, cond_false]
        unfold syllogistlaw_ShareDeals_k18
        have htl : ∀ g : Nat → List Int, (tab k g).length = k := fun g => tab_len
        simp only [bne_self_eq_false, cond_false, htl, Bool.or_self]
        rw [for_rec (s := s) (n := dice.length) (fun t => xs8 s dice t) rfl rfl (fun t nx ht => by
          unfold syllogistlaw_ShareDeals_b82
          rw [geti_d 0#8 ht, Option.bind_some]; rfl)]
        unfold syllogistlaw_ShareDeals_k25
        rw [decide_eq_true (by omega), cond_true]
        rw [for_out (n := k) (fun _ => false) (some false) rfl (fun i nx hi => by
          unfold syllogistlaw_ShareDeals_b33
          rw [mostlost_eq h, Option.bind_some]
          generalize flt (MostL k l) (1#32 <<< k).toNat = F at hd hlen
          rw [for_apps (n := F.length) (fun t => [val8 F (dice ++ [xs8 s dice dice.length]) i t]) rfl (fun t w nx' ht hw => by
            have hwl : w.length = t := by rw [hw]; exact apps_one_len
            unfold syllogistlaw_ShareDeals_b60
            rw [geti_d 0#32 ht, Option.bind_some]
            have hk : ∀ p : Int, (p = (((((dice ++ [xs8 s dice dice.length])[t]?.getD 0#8).toNat : Nat)) : Int)) → syllogistlaw_ShareDeals_k66 i w nx' (F[t]?.getD 0#32) p = nx' (w ++ [val8 F (dice ++ [xs8 s dice dice.length]) i t]) := fun p hp' => by
              unfold syllogistlaw_ShareDeals_k66 val8
              rw [bit_eq _ _ (by omega), Option.bind_some, decide_eq_true (by simp only [List.length_cons, List.length_nil]; omega), decide_eq_true (by simp only [List.length_cons, List.length_nil]; omega), cond_true, cond_true, hp']
              cases (F[t]?.getD 0#32).getLsbD i <;> rfl
            by_cases hlt : t < dice.length
            · rw [decide_eq_true (by omega), cond_true, geti_d 0#8 hlt, Option.bind_some]
              exact hk _ (by rw [List.getElem?_append_left hlt])
            · rw [decide_eq_false (by omega), cond_false]
              exact hk _ (by
                have e : t = dice.length := by omega
                rw [e, List.getElem?_append_right (Nat.le_refl _), Nat.sub_self]; rfl))]
          unfold syllogistlaw_ShareDeals_k49
          dsimp only
          rw [tab_geti hi, Option.bind_some]
          have : (apps F.length fun t => [val8 F (dice ++ [xs8 s dice dice.length]) i t]) = tab F.length (val8 F (dice ++ [xs8 s dice dice.length]) i) := rfl
          rw [this, ints_rf, Option.bind_some]
          rfl), anyN_false.2 fun _ _ => rfl, cond_false]
        rfl
      · have hdn : ((dice.length : Int) != w64 (((flt (MostL k l) (1#32 <<< k).toNat).length : Int) - 1)) = true := by
          rw [w64_id (by omega) (by omega), bne_iff_ne]; exact hd
        have hD : share_Deal fuel k l s dice = some ([], 3) := by
          unfold share_Deal
          rw [lostl_eq h, Option.bind_some]
          simp only [bne_self_eq_false, cond_false]
          rw [none_eq k6, Option.bind_some, hno, cond_false, hdn]; rfl
        rw [hD]
        simp only [Option.bind_some, hdn, cond_true]
        exact k18_nz k l s dice (x := 3) (by decide)
end Go.Proofs.Ytjpoedjmoobapaa.Sy
