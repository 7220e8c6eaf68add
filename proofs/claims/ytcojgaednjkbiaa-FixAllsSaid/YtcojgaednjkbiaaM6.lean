/- What a map leaves as it is: the plain law; no program in sight. -/
import Derived.Test.YtcojgaednjkbiaaSyQ
import Derived.Test.YtcojgaednjkbiaaG1
namespace Go.Proofs.Ytcojgaednjkbiaa.Sy
set_option linter.unusedVariables false

theorem contU (s : List (BitVec 32)) (f : BitVec 32 → Option Bool) (p : BitVec 32 → Bool) (hf : ∀ a ∈ s, f a = some (p a)) : slices_ContainsFunc_Suint32uint32 s f = some (s.any p) := any_shape s f p hf
theorem fits_eq {n : Nat} (hn : n < 32) (s : BitVec 32) : syllogistref_Fits n s = some (decide (s < 1#32 <<< n)) := congrArg some (fits_shape hn s)
theorem words_eq (a b : List (BitVec 32)) : syllogistref_Words a b = some (decide (a = b)) := lists_eq a b
theorem ishl_eq {n : Nat} (h : n ≤ 5) : ishl 1 n = ((2 ^ n : Nat) : Int) := by
  have : ∀ n, n ≤ 5 → ishl 1 n = ((2 ^ n : Nat) : Int) := by decide
  exact this n h

theorem fcheck (n : Int) (f : List (BitVec 32)) : ∃ r, fix_wrong n f = some r ∧ syllogistref_MapCheck n f = some r ∧ (r = 0 → f.length ≤ 32) := by
  unfold fix_wrong syllogistref_MapCheck
  cases hb : ((decide (n < (1 : Int))) || (decide (n > (5 : Int)))) with
  | true => exact ⟨1, rfl, rfl, by simp⟩
  | false =>
    simp only [Bool.or_eq_false_iff, decide_eq_false_iff_not] at hb
    obtain ⟨k, rfl⟩ : ∃ k : Nat, n = k := ⟨n.toNat, by omega⟩
    rw [cond_false, cond_false, decide_eq_true (by omega), cond_true, Int.toNat_natCast, ofInt64 (by omega), ishl_eq (by omega)]
    cases hl : ((f.length : Int) != ((2 ^ k : Nat) : Int)) with
    | true => exact ⟨3, rfl, rfl, by simp⟩
    | false =>
      have h32 : f.length ≤ 32 := by
        have hk : 2 ^ k ≤ 2 ^ 5 := Nat.pow_le_pow_right (by omega) (by omega)
        rw [bne_eq_false_iff_eq] at hl
        omega
      rw [cond_false, cond_false, contU f (fun a => fix_wrong_c1 a k) (fun s => !decide (s < 1#32 <<< k)) (fun a _ => by
        unfold fix_wrong_c1
        rw [decide_eq_true (by omega), cond_true, Int.toNat_natCast, shr_ne (by omega)]), Option.bind_some, any_len]
      rw [for_out (n := f.length) (fun j => (f[j]?.map fun s => !decide (s < 1#32 <<< k)).getD false) (some 4) rfl (fun j nx hj => by
        unfold syllogistref_MapCheck_b7
        rw [geti_at hj, Option.bind_some, fits_eq (by omega), Option.bind_some, List.getElem?_eq_getElem hj]; rfl)]
      unfold syllogistref_MapCheck_k3
      cases (anyN f.length fun j => (f[j]?.map fun s => !decide (s < 1#32 <<< k)).getD false)
      · exact ⟨0, rfl, rfl, fun _ => h32⟩
      · exact ⟨4, rfl, rfl, fun _ => h32⟩

def fxs (f : List (BitVec 32)) (j : Nat) : List (BitVec 32) := bif ((f[j]?.getD 0#32).toNat == j) then [f[j]?.getD 0#32] else []
theorem fxs_len {f : List (BitVec 32)} {t : Nat} : (apps t (fxs f)).length ≤ t := by
  have := apps_len (n := t) (c := 1) (f := fxs f) fun j _ => by
    unfold fxs
    cases ((f[j]?.getD 0#32).toNat == j) <;> simp
  omega

theorem fixAlls_true (n : Int) (f : List (BitVec 32)) : syllogistlaw_FixAlls n f = some true := by
  unfold syllogistlaw_FixAlls fix_All
  obtain ⟨r, e1, e2, h⟩ := fcheck n f
  rw [e1, e2]
  by_cases hr : r = 0
  · subst hr
    have hf := h rfl
    have a1 : forK (σ := (List (BitVec 32))) (fun i s nx_ => fix_All_b16 f i s nx_) (fun s => fix_All_k12 s) ((f.length : Int) - (0 : Int)).toNat (0 : Int) (([] : List (BitVec 32))) = some (apps f.length (fxs f), 0) := by
      refine (for_apps (n := f.length) (fxs f) rfl (fun j s nx hj hs => ?_)).trans rfl
      unfold fix_All_b16
      have := fxs_len (f := f) (t := j)
      have hd : (((f[j]?.getD 0#32).toNat : Int) == (j : Int)) = ((f[j]?.getD 0#32).toNat == j) := by
        rw [Bool.eq_iff_iff, beq_iff_eq, beq_iff_eq]; omega
      rw [geti_d 0#32 hj, Option.bind_some, hd, decide_eq_true (by rw [hs]; simp only [List.length_cons, List.length_nil]; omega), cond_true]
      unfold fxs
      cases ((f[j]?.getD 0#32).toNat == j)
      · simp
      · rfl
    have a2 : syllogistref_Fixed f = some (apps f.length (fxs f)) := by
      unfold syllogistref_Fixed
      refine (for_apps (n := f.length) (fxs f) rfl (fun j s nx hj hs => ?_)).trans rfl
      unfold syllogistref_Fixed_b14
      have := fxs_len (f := f) (t := j)
      have hd : (f[j]?.getD 0#32 == BitVec.ofInt 32 (j : Int)) = ((f[j]?.getD 0#32).toNat == j) := by
        rw [Bool.eq_iff_iff, beq_iff_eq, beq_iff_eq]
        constructor
        · intro e; rw [e]; simp; omega
        · intro e
          apply BitVec.eq_of_toNat_eq
          rw [e]; simp; omega
      rw [geti_d 0#32 hj, Option.bind_some, hd, Option.bind_some, decide_eq_true (by rw [hs]; simp only [List.length_cons, List.length_nil]; omega), cond_true]
      unfold fxs
      cases ((f[j]?.getD 0#32).toNat == j)
      · simp
      · rfl
    simp only [Option.bind_some, bne_self_eq_false, cond_false, a1, a2, words_eq, beq_self_eq_true, cond_true, decide_true, Bool.and_self]
  · have : (r != 0) = true := by simpa using hr
    simp [this]
end Go.Proofs.Ytcojgaednjkbiaa.Sy
