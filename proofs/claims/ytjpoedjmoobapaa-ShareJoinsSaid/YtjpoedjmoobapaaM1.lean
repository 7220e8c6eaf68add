/- The most crowds that are lost: the plain laws; no program in sight. -/
import Derived.Test.YtjpoedjmoobapaaSyR
import Derived.Test.YtjpoedjmoobapaaG1
namespace Go.Proofs.Ytjpoedjmoobapaa.Sy
set_option linter.unusedVariables false

theorem contW (s : List (BitVec 32)) (f : BitVec 32 → Option Bool) (p : BitVec 32 → Bool) (hf : ∀ a ∈ s, f a = some (p a)) : slices_ContainsFunc_Suint32uint32 s f = some (s.any p) := any_shape s f p hf
theorem fits_eq {n : Nat} (hn : n < 32) (s : BitVec 32) : syllogistref_Fits n s = some (decide (s < 1#32 <<< n)) := congrArg some (fits_shape hn s)
theorem in_eq (a b : BitVec 32) : syllogistref_In a b = some (tru (sb a b)) := congrArg some (tru_of (by rw [or_iff]))
theorem andn_sb (a b : BitVec 32) : ((a &&& ~~~b) == 0#32) = tru (sb a b) := by rw [andn_or]; exact tru_of or_iff

abbrev wd (l : List (BitVec 32)) (i : Nat) : BitVec 32 := l[i]?.getD 0#32
theorem geti_wd {l : List (BitVec 32)} {i : Nat} (h : i < l.length) : geti l (i : Int) = some (wd l i) := geti_d _ h
structure DOk (n : Int) (l : List (BitVec 32)) (k : Nat) : Prop where
  n : n = k
  k1 : 1 ≤ k
  k6 : k ≤ 6
  len : l.length ≤ 10
  bel : ∀ i, i < l.length → bel k (wd l i)

/-- No set lies within. -/
def Lst (l : List (BitVec 32)) (w : BitVec 32) : Prop := ∀ i, i < l.length → ¬sb (wd l i) w
def MostL (n : Nat) (l : List (BitVec 32)) (w : BitVec 32) : Prop := Lst l w ∧ ∀ m, bel n m → sb w m → m ≠ w → ¬Lst l m
theorem Lst.sb {l : List (BitVec 32)} {a b : BitVec 32} (h : Lst l b) (hs : sb a b) : Lst l a := fun i hi hh => h i hi (hh.trans hs)

theorem lost_eq (l : List (BitVec 32)) (w : BitVec 32) : share_lost_c2 w l = some (tru (Lst l w)) := by
  unfold share_lost_c2
  rw [contW l (fun a => share_lost_c2_c1 a w) (fun s => tru (sb s w)) (fun a _ => by unfold share_lost_c2_c1; rw [andn_sb]), Option.bind_some, any_len]
  refine congrArg some (tru_of ?_)
  rw [Bool.not_eq_true', anyN_false]
  refine forall_congr' fun i => forall_congr' fun hi => ?_
  rw [List.getElem?_eq_getElem hi, Option.map_some, Option.getD_some, tru_false, show wd l i = l[i] from getd_at _ hi]
theorem rlost_eq (l : List (BitVec 32)) (w : BitVec 32) : syllogistref_Lost l w = some (tru (Lst l w)) := by
  unfold syllogistref_Lost
  rw [for_out (n := l.length) (fun i => tru (sb (wd l i) w)) (some false) rfl (fun i nx hi => by
    unfold syllogistref_Lost_b7
    rw [geti_wd hi, Option.bind_some, in_eq, Option.bind_some])]
  unfold syllogistref_Lost_k3
  cases ha : anyN l.length (fun i => tru (sb (wd l i) w)) with
  | true =>
    obtain ⟨i, hi, h⟩ := anyN_iff.1 ha
    rw [cond_true, (tru_false (p := Lst l w)).2 fun hall => hall i hi (tru_iff.1 h)]
  | false =>
    rw [cond_false, (tru_iff (p := Lst l w)).2 fun i hi => tru_false.1 (anyN_false.1 ha i hi)]

theorem dcheck (n : Int) (l : List (BitVec 32)) : (∃ r, r ≠ 0 ∧ share_lost n l = some ([], r) ∧ syllogistref_SetsCheck n l = some r) ∨ ((∃ k, DOk n l k) ∧ syllogistref_SetsCheck n l = some 0 ∧
    share_lost n l = bif decide (0 ≤ n) then forK (σ := (List (BitVec 32))) (fun i s nx_ => share_lost_b22 n l i s nx_) (fun s => share_lost_k17 s) (((1#32 <<< n.toNat)).toNat - (0#32).toNat) 0#32 (([] : List (BitVec 32))) else none) := by
  unfold share_lost syllogistref_SetsCheck
  cases hb : (((decide (n < (1 : Int))) || (decide (n > (6 : Int)))) || (decide ((l.length : Int) > (10 : Int)))) with
  | true => exact .inl ⟨1, by decide, rfl, rfl⟩
  | false =>
    simp only [Bool.or_eq_false_iff, decide_eq_false_iff_not] at hb
    obtain ⟨⟨h1, h2⟩, h3⟩ := hb
    obtain ⟨k, rfl⟩ : ∃ k : Nat, n = k := ⟨n.toNat, by omega⟩
    simp only [cond_false]
    rw [contW l (fun a => share_lost_c1 a k) (fun c => !decide (c < 1#32 <<< k)) (fun a _ => by
      unfold share_lost_c1
      rw [decide_eq_true (by omega), cond_true, Int.toNat_natCast, shr_ne (by omega)]), Option.bind_some, any_len]
    rw [for_out (n := l.length) (fun j => (l[j]?.map fun c => !decide (c < 1#32 <<< k)).getD false) (some 4) rfl (fun j nx hj => by
      unfold syllogistref_SetsCheck_b7
      rw [geti_at hj, Option.bind_some, fits_eq (by omega), Option.bind_some, List.getElem?_eq_getElem hj]
      rfl)]
    unfold syllogistref_SetsCheck_k3
    cases ha : anyN l.length (fun j => (l[j]?.map fun c => !decide (c < 1#32 <<< k)).getD false) with
    | true => exact .inl ⟨4, by decide, rfl, rfl⟩
    | false =>
      refine .inr ⟨⟨k, rfl, by omega, by omega, by omega, fun i hi => ?_⟩, rfl, rfl⟩
      have := anyN_false.1 ha i hi
      rw [List.getElem?_eq_getElem hi] at this
      simp only [Option.map_some, Option.getD_some, Bool.not_eq_false', decide_eq_true_eq] at this
      rw [show wd l i = l[i] from getd_at _ hi]
      exact (bel_lt (by omega)).1 this

theorem pow64 {k : Nat} (h : k ≤ 6) : 2 ^ k ≤ 64 := Nat.pow_le_pow_right (n := 2) (by omega) h
/-- Most lost: bit by bit. -/
theorem most_bits {k : Nat} (hk : k ≤ 32) {l : List (BitVec 32)} {w : BitVec 32} (hw : bel k w) : MostL k l w ↔ Lst l w ∧ ∀ i, i < k → w.getLsbD i = true ∨ ¬Lst l (w ||| 1#32 <<< i) := by
  have bitb : ∀ i, i < k → ∀ j, (w ||| 1#32 <<< i).getLsbD j = true ↔ w.getLsbD j = true ∨ j = i := fun i hi j => by
    rw [BitVec.getLsbD_or, Bool.or_eq_true, one_shl]
    exact or_congr_right ⟨fun h => h.1, fun h => ⟨h, by omega⟩⟩
  refine and_congr_right fun hl => ⟨fun h i hi => ?_, fun h m hm hs hne hlm => ?_⟩
  · cases e : w.getLsbD i with
    | true => exact .inl rfl
    | false =>
      refine .inr (h _ (fun j hj => ?_) (sb_orl _ _) fun ee => ?_)
      · rcases (bitb i hi j).1 hj with h | h
        · exact hw j h
        · omega
      · have := (bitb i hi i).2 (.inr rfl)
        rw [ee, e] at this; cases this
  · have : ∃ i, m.getLsbD i = true ∧ w.getLsbD i = false := by
      apply Classical.byContradiction
      intro hno
      refine hne (bits_ext fun i => ⟨fun hi => ?_, hs i⟩)
      cases e : w.getLsbD i with
      | true => rfl
      | false => exact absurd ⟨i, hi, e⟩ hno
    obtain ⟨i, hi, e⟩ := this
    rcases h i (hm i hi) with h | h
    · rw [e] at h; cases h
    · refine h (hlm.sb fun j hj => ?_)
      rcases (bitb i (hm i hi) j).1 hj with h | h
      · exact hs j h
      · subst h; exact hi

theorem shareLost_true (n : Int) (l : List (BitVec 32)) : syllogistlaw_ShareLost n l = some true := by
  unfold syllogistlaw_ShareLost share_Lost
  rcases dcheck n l with ⟨r, hr, e1, e2⟩ | ⟨⟨k, h⟩, e2, e1⟩
  · rw [e1, e2]
    have hb : (r != 0) = true := by simpa using hr
    simp [hb]
  · rw [e1, e2]
    have hn := h.n
    subst hn
    have k6 := h.k6
    have hB : (1#32 <<< k).toNat = 2 ^ k := one_shl_toNat (by omega)
    have hp := pow64 k6
    rw [decide_eq_true (by omega), cond_true, Int.toNat_natCast]
    rw [forU_flt (MostL k l) (fun t s nx ht hs => by
      have hlen : s.length < 64 := by have := flt_len (P := MostL k l) (m := t.toNat); subst hs; omega
      unfold share_lost_b22
      rw [lost_eq, Option.bind_some, decide_eq_true (by omega), cond_true]
      have hbt : bel k t := bel_toNat.2 (by omega)
      rw [for_rec (n := k) (fun j => tru (Lst l t ∧ ∀ i, i < j → t.getLsbD i = true ∨ ¬Lst l (t ||| 1#32 <<< i))) rfl (tru_congr ⟨fun h => ⟨h, fun i hi => by omega⟩, fun h => h.1⟩) (fun j nx hj => by
        unfold share_lost_b40
        rw [lost_eq]
        simp only [Option.isSome_some, Bool.or_true, cond_true, Option.getD_some, Int.toNat_natCast]
        refine congrArg nx (tru_of ?_)
        rw [Bool.and_eq_true, tru_iff, Bool.or_eq_true, Bool.not_eq_true', tru_false, show ((t >>> j &&& 1#32) == 1#32) = t.getLsbD j from bit_shr _ _]
        constructor
        · rintro ⟨⟨h1, h2⟩, h3⟩
          refine ⟨h1, fun i hi => ?_⟩
          by_cases e : i = j
          · subst e; exact h3
          · exact h2 i (by omega)
        · rintro ⟨h1, h2⟩
          exact ⟨⟨h1, fun i hi => h2 i (by omega)⟩, h2 j (by omega)⟩)]
      unfold share_lost_k32
      rw [decide_eq_true (by simp only [List.length_cons, List.length_nil]; omega), cond_true, tru_congr (most_bits (by omega) hbt).symm]
      cases tru (MostL k l t) with
      | true => rw [cond_true, cond_true]
      | false => rw [cond_false, cond_false, List.append_nil])]
    unfold share_lost_k17
    simp only [Option.bind_some, bne_self_eq_false, cond_false]
    have hmost : syllogistref_MostLost k l = some (flt (MostL k l) (1#32 <<< k).toNat) := by
      unfold syllogistref_MostLost
      rw [ofInt64 (by omega)]
      rw [forU_flt (MostL k l) (fun t s nx ht hs => by
        have hlen : s.length < 64 := by have := flt_len (P := MostL k l) (m := t.toNat); subst hs; omega
        unfold syllogistref_MostLost_b13
        rw [rlost_eq, Option.bind_some, ofInt64 (by omega)]
        rw [forU_rec (fun j => tru (Lst l t ∧ ∀ m : BitVec 32, m.toNat < j → sb t m → m ≠ t → ¬Lst l m)) (tru_congr ⟨fun h => ⟨h, fun i hi => by omega⟩, fun h => h.1⟩) (fun c nx hc => by
          unfold syllogistref_MostLost_b30
          rw [in_eq, rlost_eq]
          simp only [Option.isSome_some, Bool.or_true, cond_true, Option.getD_some]
          rw [cond_nx]
          refine congrArg nx (tru_of ?_)
          cases hx : (((c != t) && tru (sb t c)) && tru (Lst l c)) with
          | true =>
            rw [cond_true]
            rw [Bool.and_eq_true, Bool.and_eq_true, bne_iff_ne, tru_iff, tru_iff] at hx
            simp only [Bool.false_eq_true, false_iff]
            rintro ⟨_, h2⟩
            exact h2 c (by omega) hx.1.2 hx.1.1 hx.2
          | false =>
            rw [cond_false, tru_iff]
            refine and_congr_right fun hl => ⟨fun h m hm hs hne hlm => ?_, fun h m hm => h m (by omega)⟩
            by_cases e : m.toNat = c.toNat
            · have := BitVec.eq_of_toNat_eq e
              subst this
              rw [tru_iff.2 hs, tru_iff.2 hlm, bne_iff_ne.2 hne] at hx
              cases hx
            · exact h m (by omega) hs hne hlm)]
        unfold syllogistref_MostLost_k23
        rw [decide_eq_true (by simp only [List.length_cons, List.length_nil]; omega), cond_true]
        have : tru (Lst l t ∧ ∀ m : BitVec 32, m.toNat < (1#32 <<< k).toNat → sb t m → m ≠ t → ¬Lst l m) = tru (MostL k l t) := tru_congr (and_congr_right fun _ => forall_congr' fun m => by
          rw [hB, ← bel_toNat])
        rw [this]
        cases tru (MostL k l t) with
        | true => rw [cond_true, cond_true]
        | false => rw [cond_false, cond_false, List.append_nil])]
      rfl
    rw [hmost]
    simp only [beq_self_eq_true, cond_true, Option.bind_some]
    have hw : syllogistref_Words (flt (MostL k l) (1#32 <<< k).toNat) (flt (MostL k l) (1#32 <<< k).toNat) = some (decide (flt (MostL k l) (1#32 <<< k).toNat = flt (MostL k l) (1#32 <<< k).toNat)) := lists_eq _ _
    rw [hw]
    simp
end Go.Proofs.Ytjpoedjmoobapaa.Sy
