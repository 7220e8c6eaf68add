/- One among many: the plain laws; no program in sight. -/
import Derived.Test.YtoninfimcobeiaaM1
namespace Go.Proofs.Ytoninfimcobeiaa.Sy
set_option linter.unusedVariables false

theorem words_eq (a b : List (BitVec 32)) : syllogistref_Words a b = some (decide (a = b)) := lists_eq a b
theorem contU (s : List (BitVec 32)) (f : BitVec 32 → Option Bool) (p : BitVec 32 → Bool) (hf : ∀ a ∈ s, f a = some (p a)) : slices_ContainsFunc_Suint32uint32 s f = some (s.any p) := any_shape s f p hf

structure ROk (rows : List (List Int)) (hid : BitVec 32) (k : Nat) : Prop where
  r1 : 1 ≤ rows.length
  r8 : rows.length ≤ 8
  k6 : k ≤ 6
  len : ∀ i (h : i < rows.length), rows[i].length = k
  bel : bel k hid

theorem rcheck (rows : List (List Int)) (hid : BitVec 32) : ∃ r, veil_wrong rows hid = some r ∧ syllogistref_RowsCheck rows hid = some r ∧ (r = 0 → ∃ k : Nat, ROk rows hid k) := by
  unfold veil_wrong syllogistref_RowsCheck
  by_cases h1 : 1 ≤ rows.length ∧ rows.length ≤ 8
  · have hb : ((decide ((rows.length : Int) < (1 : Int))) || (decide ((rows.length : Int) > (8 : Int)))) = false := by
      simp only [Bool.or_eq_false_iff, decide_eq_false_iff_not]; omega
    have e0 : geti rows 0 = some (rows[0]?.getD []) := geti_d (j := 0) [] (by omega)
    rw [hb, e0]
    obtain ⟨k, hk⟩ : ∃ k, (rows[0]?.getD []).length = k := ⟨_, rfl⟩
    cases hd : (decide (((((some (rows[0]?.getD [])).getD []).length : Nat) : Int) > (6 : Int))) with
    | true => exact ⟨1, rfl, rfl, by simp⟩
    | false =>
      have h6 : ¬((rows[0]?.getD []).length : Int) > 6 := of_decide_eq_false hd
      simp only [Option.isSome_some, Bool.or_true, cond_true, Bool.false_or, cond_false]
      rw [contSS rows (fun a => veil_wrong_c1 a rows) (fun c => (c.length : Int) != (k : Int)) (fun a _ => by
        unfold veil_wrong_c1
        rw [e0, Option.bind_some, hk]), Option.bind_some, any_len]
      rw [for_out (n := rows.length) (fun j => (rows[j]?.map fun c => (c.length : Int) != (k : Int)).getD false) (some 3) rfl (fun j nx hj => by
        unfold syllogistref_RowsCheck_b18
        rw [geti_at hj, Option.bind_some, e0, Option.bind_some, hk, List.getElem?_eq_getElem hj]; rfl)]
      cases ha : anyN rows.length (fun j => (rows[j]?.map fun c => (c.length : Int) != (k : Int)).getD false) with
      | true => exact ⟨3, rfl, rfl, by simp⟩
      | false =>
        simp only [cond_false]
        unfold syllogistref_RowsCheck_k7
        rw [e0, Option.bind_some, Option.bind_some, hk, fits_eq (by omega), Option.bind_some, decide_eq_true (show (0 : Int) ≤ k by omega), cond_true, Int.toNat_natCast, shr_ne (by omega)]
        cases hf : decide (hid < 1#32 <<< k) with
        | false => exact ⟨4, rfl, rfl, by simp⟩
        | true =>
          refine ⟨0, rfl, rfl, fun _ => ⟨k, h1.1, h1.2, by omega, fun i hi => ?_, (bel_lt (by omega)).1 (of_decide_eq_true hf)⟩⟩
          have := anyN_false.1 ha i hi
          rw [List.getElem?_eq_getElem hi] at this
          simp only [Option.map_some, Option.getD_some, bne_eq_false_iff_eq] at this
          omega
  · have hb : ((decide ((rows.length : Int) < (1 : Int))) || (decide ((rows.length : Int) > (8 : Int)))) = true := by
      simp only [Bool.or_eq_true, decide_eq_true_eq]; omega
    rw [hb]
    exact ⟨1, rfl, rfl, by simp⟩

/-! ### Alike -/
def alk (k : Nat) (hid : BitVec 32) (a b : List Int) : Bool := allN k fun i => hid.getLsbD i || (a[i]?.getD 0 == b[i]?.getD 0)
theorem alk_symm {k : Nat} {hid : BitVec 32} {a b : List Int} : alk k hid a b = alk k hid b a := allN_congr fun i _ => by rw [BEq.comm]

theorem alike_eq {k : Nat} (hk : k ≤ 6) {a b : List Int} (ha : a.length = k) (hb : b.length = k) (hid : BitVec 32) : veil_alike a b hid = some (alk k hid a b) := by
  unfold veil_alike
  rw [for_out (n := k) (fun i => !(hid.getLsbD i || (a[i]?.getD 0 == b[i]?.getD 0))) (some false) (by rw [ha]) (fun i nx hi => by
    unfold veil_alike_b7
    rw [geti_d 0 (by omega), Option.bind_some, geti_d 0 (by omega), Int.toNat_natCast, bit_shr1]
    simp only [Option.isSome_some, Bool.or_true, cond_true, Option.getD_some, Bool.not_or]
    rfl)]
  unfold veil_alike_k3 alk
  cases h : allN k fun i => hid.getLsbD i || (a[i]?.getD 0 == b[i]?.getD 0) with
  | true => rw [anyN_false.2 fun j hj => by rw [allN_iff.1 h j hj]; rfl]; rfl
  | false =>
    obtain ⟨j, hj, e⟩ := allN_false.1 h
    rw [anyN_iff.2 ⟨j, hj, by rw [e]; rfl⟩]; rfl
theorem looks_eq {k : Nat} (hk : k ≤ 6) {a b : List Int} (ha : a.length = k) (hb : b.length = k) (hid : BitVec 32) : syllogistref_Looks a b hid = some (alk k hid a b) := by
  unfold syllogistref_Looks
  rw [for_out (n := k) (fun i => !(hid.getLsbD i || (a[i]?.getD 0 == b[i]?.getD 0))) (some false) (by rw [ha]) (fun i nx hi => by
    unfold syllogistref_Looks_b7
    rw [bit_eq _ _ (by omega), Option.bind_some, geti_d 0 (by omega), geti_d 0 (by omega)]
    simp only [Option.isSome_some, Bool.or_true, cond_true, Option.getD_some, Bool.not_or]
    rfl)]
  unfold syllogistref_Looks_k3 alk
  cases h : allN k fun i => hid.getLsbD i || (a[i]?.getD 0 == b[i]?.getD 0) with
  | true => rw [anyN_false.2 fun j hj => by rw [allN_iff.1 h j hj]; rfl]; rfl
  | false =>
    obtain ⟨j, hj, e⟩ := allN_false.1 h
    rw [anyN_iff.2 ⟨j, hj, by rw [e]; rfl⟩]; rfl

def pks (rows : List (List Int)) (p : Nat → Bool) : List Int := apps rows.length fun j => bif p j then [(j : Int)] else []
theorem pks_len {p : Nat → Bool} {t : Nat} : (apps t fun j => bif p j then [(j : Int)] else []).length = cntN t p := by
  induction t with
  | zero => rfl
  | succ t ih =>
    rw [apps, List.length_append, ih, cntN]
    cases p t <;> simp

theorem pick_eq {rows : List (List Int)} {hid : BitVec 32} {k : Nat} (h : ROk rows hid k) {one : List Int} (ho : one.length = k) : veil_pick rows hid one = some (pks rows fun j => alk k hid (rows[j]?.getD []) one) := by
  have r8 := h.r8
  unfold veil_pick
  refine (for_apps (n := rows.length) (fun j => bif alk k hid (rows[j]?.getD []) one then [(j : Int)] else []) rfl (fun j s nx hj hs => ?_)).trans rfl
  unfold veil_pick_b14
  have hl := pks_len (p := fun j => alk k hid (rows[j]?.getD []) one) (t := j)
  have hc := cntN_le (n := j) (p := fun j => alk k hid (rows[j]?.getD []) one)
  rw [geti_d [] hj, Option.bind_some, alike_eq h.k6 (by rw [getd_at _ hj]; exact h.len j hj) ho, Option.bind_some, decide_eq_true (by rw [hs, hl]; simp only [List.length_cons, List.length_nil]; omega), cond_true]
  cases alk k hid (rows[j]?.getD []) one
  · simp
  · rfl

theorem veilPicks_true (rows : List (List Int)) (hid : BitVec 32) (known : List Int) : syllogistlaw_VeilPicks rows hid known = some true := by
  unfold syllogistlaw_VeilPicks veil_Pick
  obtain ⟨r, e1, e2, h⟩ := rcheck rows 0#32
  obtain ⟨r', e3, e4, h'⟩ := rcheck rows hid
  rw [e1, e2]
  by_cases hr : r = 0
  · subst hr
    obtain ⟨k, hk⟩ := h rfl
    have r1 := hk.r1
    have hl0 : (rows[0]?.getD []).length = k := by rw [getd_at _ (by omega)]; exact hk.len 0 (by omega)
    have e0 : geti rows 0 = some (rows[0]?.getD []) := geti_d (j := 0) [] (by omega)
    rw [e0, e3]
    simp only [Option.bind_some, bne_self_eq_false, cond_false, Option.isSome_some, Bool.or_true, cond_true, Option.getD_some, hl0, beq_self_eq_true, Bool.true_and]
    by_cases hkn : known.length = k
    · have : ((known.length : Int) != (k : Int)) = false := by rw [hkn]; simp
      rw [this, cond_false]
      unfold syllogistlaw_VeilPicks_k12
      simp only [cond_false, beq_self_eq_true, cond_true, e4, Option.bind_some]
      unfold syllogistlaw_VeilPicks_k15
      by_cases hr' : r' = 0
      · subst hr'
        obtain ⟨k', hk'⟩ := h' rfl
        have : k' = k := by rw [← hk'.len 0 (by omega), hk.len 0 (by omega)]
        subst this
        simp only [bne_self_eq_false, cond_false, pick_eq hk' hkn, Option.bind_some]
        rw [for_apps (n := rows.length) (fun j => bif alk k' hid (rows[j]?.getD []) known then [(j : Int)] else []) rfl (fun j s nx hj hs => by
          unfold syllogistlaw_VeilPicks_b31
          have hl := pks_len (p := fun j => alk k' hid (rows[j]?.getD []) known) (t := j)
          have hc := cntN_le (n := j) (p := fun j => alk k' hid (rows[j]?.getD []) known)
          have r8 := hk.r8
          rw [geti_d [] hj, Option.bind_some, looks_eq hk.k6 (by rw [getd_at _ hj]; exact hk.len j hj) hkn, Option.bind_some, decide_eq_true (by rw [hs, hl]; simp only [List.length_cons, List.length_nil]; omega), cond_true]
          cases alk k' hid (rows[j]?.getD []) known
          · simp
          · rfl)]
        unfold syllogistlaw_VeilPicks_k26
        rw [ints_eq]
        simp [pks]
      · have : (r' != 0) = true := by simpa using hr'
        simp [this]
    · have : ((known.length : Int) != (k : Int)) = true := by
        rw [bne_iff_ne]; omega
      rw [this, cond_true]
      unfold syllogistlaw_VeilPicks_k12 syllogistlaw_VeilPicks_k15
      simp
  · have : (r != 0) = true := by simpa using hr
    have h0 : (r == 0) = false := by simpa using hr
    simp only [Option.bind_some, this, h0, cond_true, Bool.false_and, cond_false]
    have hg : ((!(false == true)) || (geti rows 0).isSome) = true := rfl
    rw [hg, cond_true]
    unfold syllogistlaw_VeilPicks_k12 syllogistlaw_VeilPicks_k15
    simp [this, h0]

/-! ### The crowd -/
def few (rows : List (List Int)) (k : Nat) (hid : BitVec 32) : Nat → Nat
  | 0 => rows.length
  | j + 1 => min (few rows k hid j) (cntN rows.length fun i => alk k hid (rows[i]?.getD []) (rows[j]?.getD []))
abbrev crowdN (rows : List (List Int)) (k : Nat) (hid : BitVec 32) : Nat := few rows k hid rows.length

theorem crowd_eq {rows : List (List Int)} {hid : BitVec 32} {k : Nat} (h : ROk rows hid k) : veil_crowd rows hid = some (crowdN rows k hid : Int) := by
  unfold veil_crowd
  refine (for_rec (n := rows.length) (fun j => (few rows k hid j : Int)) rfl rfl (fun j nx hj => ?_)).trans rfl
  unfold veil_crowd_b10
  rw [geti_d [] hj, Option.bind_some, pick_eq h (by rw [getd_at _ hj]; exact h.len j hj), Option.bind_some]
  unfold pks
  rw [pks_len, few]
  congr 1
  split <;> omega

theorem rcrowd_eq {rows : List (List Int)} {hid : BitVec 32} {k : Nat} (h : ROk rows hid k) : syllogistref_Crowd rows hid = some (crowdN rows k hid : Int) := by
  have r8 := h.r8
  unfold syllogistref_Crowd
  refine (for_rec (n := rows.length) (fun j => (few rows k hid j : Int)) rfl rfl (fun j nx hj => ?_)).trans rfl
  unfold syllogistref_Crowd_b10
  rw [geti_d [] hj, Option.bind_some, for_cnt (n := rows.length) (fun i => alk k hid (rows[j]?.getD []) (rows[i]?.getD [])) rfl (by omega) (fun i s nx' hi => by
    unfold syllogistref_Crowd_b27
    rw [geti_d [] hi, Option.bind_some, looks_eq h.k6 (by rw [getd_at _ hj]; exact h.len j hj) (by rw [getd_at _ hi]; exact h.len i hi), Option.bind_some, cond_nx])]
  unfold syllogistref_Crowd_k23
  rw [cntN_congr (q := fun i => alk k hid (rows[i]?.getD []) (rows[j]?.getD [])) fun i _ => alk_symm, few]
  by_cases hlt : ((cntN rows.length fun i => alk k hid (rows[i]?.getD []) (rows[j]?.getD []) : Nat) : Int) < (few rows k hid j : Int)
  · rw [decide_eq_true hlt, cond_true, Nat.min_eq_right (by omega)]
  · rw [decide_eq_false hlt, cond_false, Nat.min_eq_left (by omega)]

theorem veilCrowds_true (rows : List (List Int)) (hid : BitVec 32) : syllogistlaw_VeilCrowds rows hid = some true := by
  unfold syllogistlaw_VeilCrowds veil_Crowd
  obtain ⟨r, e1, e2, h⟩ := rcheck rows hid
  rw [e1, e2]
  by_cases hr : r = 0
  · subst hr
    obtain ⟨k, hk⟩ := h rfl
    simp [crowd_eq hk, rcrowd_eq hk]
  · have : (r != 0) = true := by simpa using hr
    simp [this]
end Go.Proofs.Ytoninfimcobeiaa.Sy
