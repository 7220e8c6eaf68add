/- Branches read: the plain law; no program in sight. -/
import Derived.Test.YtmggbhpieikdpaaM1
namespace Go.Proofs.Ytmggbhpieikdpaa.Sy
set_option linter.unusedVariables false

theorem forI_congr {σ R : Type} {b1 b2 : Int → σ → (σ → Option R) → Option R} {k1 k2 : σ → Option R} : ∀ (n : Nat) (i : Int) (s : σ), (∀ j s nx, i ≤ j → j < i + n → b1 j s nx = b2 j s nx) → (∀ s, k1 s = k2 s) → forK b1 k1 n i s = forK b2 k2 n i s
  | 0, i, s, h, hk => hk s
  | n + 1, i, s, h, hk => by
    show b1 i s (fun s' => forK b1 k1 n (i + 1) s') = b2 i s (fun s' => forK b2 k2 n (i + 1) s')
    rw [h i s _ (by omega) (by omega)]
    congr 1
    funext s'
    exact forI_congr n (i + 1) s' (fun j s nx h1 h2 => h j s nx (by omega) (by omega)) hk

abbrev br (l : List Branch) (i : Nat) : Branch := l[i]?.getD { var := 0, low := 0, high := 0 }
theorem geti_br {l : List Branch} {i : Nat} (h : i < l.length) : geti l (i : Int) = some (br l i) := geti_d _ h
theorem wrong_eq {n : Int} {l : List Branch} {root : Int} (hl : l.length ≤ 20) : choice_wrong n l root = syllogistref_BranchCheck n l root := by
  unfold choice_wrong syllogistref_BranchCheck
  refine forI_congr _ _ _ (fun t s nx h0 h1 => ?_) (fun s => ?_)
  · have e1 : w64 (t + 1) = t + 1 := w64_id (by omega) (by omega)
    have e2 : w64 (t + 2) = t + 2 := w64_id (by omega) (by omega)
    unfold choice_wrong_b7 syllogistref_BranchCheck_b7
    congr 1
    funext y
    congr 1
    refine forI_congr _ _ _ (fun i s nx h0 h1 => ?_) (fun s => rfl)
    unfold choice_wrong_b22 syllogistref_BranchCheck_b22
    congr 1
    funext x
    have d1 : decide (x > w64 (t + 1)) = decide (x ≥ w64 (t + 2)) := by rw [e1, e2]; exact decide_eq_decide.2 ⟨fun h => by omega, fun h => by omega⟩
    have d2 : decide (x > 1) = decide (x ≥ 2) := decide_eq_decide.2 ⟨fun h => by omega, fun h => by omega⟩
    rw [d1, d2]
  · unfold choice_wrong_k3 syllogistref_BranchCheck_k3
    have e1 : w64 ((l.length : Int) + 1) = (l.length : Int) + 1 := w64_id (by omega) (by omega)
    have e2 : w64 ((l.length : Int) + 2) = (l.length : Int) + 2 := w64_id (by omega) (by omega)
    have d1 : decide (root > w64 ((l.length : Int) + 1)) = decide (root ≥ w64 ((l.length : Int) + 2)) := by rw [e1, e2]; exact decide_eq_decide.2 ⟨fun h => by omega, fun h => by omega⟩
    rw [d1]

/-- Branches that pass. -/
structure BOk (n : Int) (l : List Branch) : Prop where
  v : ∀ t, t < l.length → 0 ≤ (br l t).var ∧ (br l t).var < n
  low : ∀ t, t < l.length → 0 ≤ (br l t).low ∧ (br l t).low < t + 2
  high : ∀ t, t < l.length → 0 ≤ (br l t).high ∧ (br l t).high < t + 2
def bad (l : List Branch) (t : Nat) (y : Branch) (x : Int) : Bool := ((decide (x < (0 : Int))) || (decide (x ≥ (w64 (t + (2 : Int)))))) || ((decide (x ≥ (2 : Int))) && (decide ((((geti l ((w64 (x - (2 : Int))))).getD ({ var := (0 : Int), low := (0 : Int), high := (0 : Int) } : Branch))).var ≤ y.var)))
theorem bcheck (n : Int) {l : List Branch} (root : Int) (hl : l.length ≤ 20) : ∃ r, syllogistref_BranchCheck n l root = some r ∧ (r = 0 → BOk n l ∧ 0 ≤ root ∧ root < l.length + 2) := by
  unfold syllogistref_BranchCheck
  refine for0_q (Q := fun o => ∃ r, o = some r ∧ (r = 0 → BOk n l ∧ 0 ≤ root ∧ root < l.length + 2)) (fun m _ => ∀ t, t < m → (0 ≤ (br l t).var ∧ (br l t).var < n) ∧ (0 ≤ (br l t).low ∧ (br l t).low < t + 2) ∧ (0 ≤ (br l t).high ∧ (br l t).high < t + 2)) rfl () (fun t ht => by omega) (fun t s nx ht hI hnx => ?_) (fun s hI => ?_)
  · unfold syllogistref_BranchCheck_b7
    rw [geti_br ht, Option.bind_some]
    cases hv : (decide ((br l t).var < (0 : Int))) || (decide ((br l t).var ≥ n)) with
    | true => exact ⟨4, rfl, fun h => by cases h⟩
    | false =>
      rw [cond_false]
      rw [Bool.or_eq_false_iff, decide_eq_false_iff_not, decide_eq_false_iff_not] at hv
      have hg : ∀ x : Int, (!((((decide (x < (0 : Int))) || (decide (x ≥ (w64 ((t : Int) + (2 : Int)))))) == false) && ((decide (x ≥ (2 : Int))) == true)) || (geti l ((w64 (x - (2 : Int))))).isSome) = true := fun x => by
        rw [w64_id (show -9223372036854775808 ≤ (t : Int) + 2 by omega) (by omega)]
        by_cases h1 : x < 0
        · simp [h1]
        · by_cases h2 : x ≥ t + 2
          · simp [h2]
          · by_cases h3 : x ≥ 2
            · rw [w64_id (by omega) (by omega), show x - 2 = (((x - 2).toNat : Nat) : Int) by omega, geti_br (by omega)]; simp
            · simp [h3]
      have hb : ∀ x : Int, bad l t (br l t) x = false → 0 ≤ x ∧ x < t + 2 := fun x hx => by
        unfold bad at hx
        rw [w64_id (show -9223372036854775808 ≤ (t : Int) + 2 by omega) (by omega), Bool.or_eq_false_iff, Bool.or_eq_false_iff, decide_eq_false_iff_not, decide_eq_false_iff_not] at hx
        omega
      rw [for_out (n := 2) (fun j => bad l t (br l t) (if j = 0 then (br l t).low else (br l t).high)) (some 3) (b := ((([(br l t).low, (br l t).high] : List Int)).length : Int)) rfl (fun j nx' hj => by
        unfold syllogistref_BranchCheck_b22
        have : geti [(br l t).low, (br l t).high] (j : Int) = some (if j = 0 then (br l t).low else (br l t).high) := by
          have : j = 0 ∨ j = 1 := by omega
          rcases this with rfl | rfl <;> rfl
        rw [this, Option.bind_some, hg, cond_true]
        rfl)]
      unfold syllogistref_BranchCheck_k18
      cases ha : anyN 2 (fun j => bad l t (br l t) (if j = 0 then (br l t).low else (br l t).high)) with
      | true => exact ⟨3, rfl, fun h => by cases h⟩
      | false =>
        rw [cond_false]
        have h0 := hb _ (anyN_false.1 ha 0 (by omega))
        have h1 := hb _ (anyN_false.1 ha 1 (by omega))
        refine hnx () fun i hi => ?_
        by_cases e : i = t
        · subst e; exact ⟨by omega, h0, h1⟩
        · exact hI i (by omega)
  · unfold syllogistref_BranchCheck_k3
    cases hv : (decide (root < (0 : Int))) || (decide (root ≥ (w64 ((l.length : Int) + (2 : Int))))) with
    | true => exact ⟨2, rfl, fun h => by cases h⟩
    | false =>
      rw [w64_id (by omega) (by omega), Bool.or_eq_false_iff, decide_eq_false_iff_not, decide_eq_false_iff_not] at hv
      exact ⟨0, rfl, fun _ => ⟨⟨fun t ht => (hI t ht).1, fun t ht => (hI t ht).2.1, fun t ht => (hI t ht).2.2⟩, by omega, by omega⟩⟩

theorem shr_small : ∀ s : Nat, s < 16 → ∀ v : Nat, v < 4 → (iand (ishr (s : Int) v) 1 == 1) = (BitVec.ofNat 32 s).getLsbD v := by decide +kernel
theorem tells_eq {n : Int} {l : List Branch} (h : BOk n l) (hl : l.length ≤ 20) (hn : n ≤ 4) {s : Nat} (hs : s < 16) : ∀ (m : Nat) (k : Nat), k < m → k < l.length + 2 → ∃ b, (∀ fuel, k + 1 ≤ fuel → choice_tell fuel l k s = some b) ∧ ∀ fuel, k + 1 ≤ fuel → syllogistref_Tells fuel l k (BitVec.ofNat 32 s) = some b := by
  intro m
  induction m with
  | zero => intro k hk; omega
  | succ m ih =>
    intro k hk hkl
    by_cases h2 : k < 2
    · refine ⟨((k : Int) == 1), fun fuel hf => ?_, fun fuel hf => ?_⟩
      all_goals obtain ⟨fuel, rfl⟩ : ∃ f, fuel = f + 1 := ⟨fuel - 1, by omega⟩
      · unfold choice_tell
        show choice_tell_b6 l s k _ = _
        unfold choice_tell_b6
        rw [decide_eq_false (by omega), cond_false]; rfl
      · show syllogistref_Tells_s (syllogistref_Tells fuel) l k _ = _
        unfold syllogistref_Tells_s
        rw [decide_eq_true (by omega), cond_true]
    · have hk2 : k - 2 < l.length := by omega
      have hg : geti l (w64 ((k : Int) - 2)) = some (br l (k - 2)) := by
        rw [w64_id (by omega) (by omega), show (k : Int) - 2 = ((k - 2 : Nat) : Int) by omega, geti_br hk2]
      obtain ⟨v0, v1⟩ := h.v _ hk2
      have hlo := h.low _ hk2
      have hhi := h.high _ hk2
      have hbit : syllogistref_Bit (BitVec.ofNat 32 s) (br l (k - 2)).var = some ((BitVec.ofNat 32 s).getLsbD (br l (k - 2)).var.toNat) := by
        have := bit_eq (BitVec.ofNat 32 s) (br l (k - 2)).var.toNat (by omega)
        rwa [show (((br l (k - 2)).var.toNat : Nat) : Int) = (br l (k - 2)).var by omega] at this
      have hsh := shr_small s hs (br l (k - 2)).var.toNat (by omega)
      cases hbb : (BitVec.ofNat 32 s).getLsbD (br l (k - 2)).var.toNat with
      | true =>
        obtain ⟨b, hb1, hb2⟩ := ih (br l (k - 2)).high.toNat (by omega) (by omega)
        rw [show (((br l (k - 2)).high.toNat : Nat) : Int) = (br l (k - 2)).high by omega] at hb1 hb2
        refine ⟨b, fun fuel hf => ?_, fun fuel hf => ?_⟩
        all_goals obtain ⟨fuel, rfl⟩ : ∃ f, fuel = f + 1 := ⟨fuel - 1, by omega⟩
        · have hb1' := hb1 fuel (by omega)
          unfold choice_tell at hb1' ⊢
          show choice_tell_b6 l s k _ = _
          unfold choice_tell_b6
          rw [decide_eq_true (by omega), cond_true, hg, Option.bind_some, decide_eq_true v0, cond_true, hsh, hbb, cond_true]
          exact hb1'
        · show syllogistref_Tells_s (syllogistref_Tells fuel) l k _ = _
          unfold syllogistref_Tells_s
          rw [decide_eq_false (by omega), cond_false, hg, Option.bind_some, hbit, Option.bind_some, hbb, cond_true, Option.bind_some, hb2 fuel (by omega)]
          rfl
      | false =>
        obtain ⟨b, hb1, hb2⟩ := ih (br l (k - 2)).low.toNat (by omega) (by omega)
        rw [show (((br l (k - 2)).low.toNat : Nat) : Int) = (br l (k - 2)).low by omega] at hb1 hb2
        refine ⟨b, fun fuel hf => ?_, fun fuel hf => ?_⟩
        all_goals obtain ⟨fuel, rfl⟩ : ∃ f, fuel = f + 1 := ⟨fuel - 1, by omega⟩
        · have hb1' := hb1 fuel (by omega)
          unfold choice_tell at hb1' ⊢
          show choice_tell_b6 l s k _ = _
          unfold choice_tell_b6
          rw [decide_eq_true (by omega), cond_true, hg, Option.bind_some, decide_eq_true v0, cond_true, hsh, hbb, cond_false]
          exact hb1'
        · show syllogistref_Tells_s (syllogistref_Tells fuel) l k _ = _
          unfold syllogistref_Tells_s
          rw [decide_eq_false (by omega), cond_false, hg, Option.bind_some, hbit, Option.bind_some, hbb, cond_false, Option.bind_some, hb2 fuel (by omega)]
          rfl

theorem shl_small : ∀ n : Nat, n < 5 → ishl 1 n = ((2 ^ n : Nat) : Int) := by decide +kernel
def val (l : List Branch) (k : Nat) (s : Nat) : Bool := (syllogistref_Tells 100 l k (BitVec.ofNat 32 s)).getD false
theorem choiceReads_true (fuel : Nat) (n : Int) (l : List Branch) (root : Int) (hf : 100 < fuel := by decide) : syllogistlaw_ChoiceReads fuel n l root = some true := by
  unfold syllogistlaw_ChoiceReads choice_Read syllogistlaw_treeCode
  cases hb : (((decide (n < (0 : Int))) || (decide (n > (4 : Int)))) || (decide ((l.length : Int) > (20 : Int)))) with
  | true => rfl
  | false =>
    simp only [Bool.or_eq_false_iff, decide_eq_false_iff_not] at hb
    obtain ⟨⟨n0, n4⟩, hl⟩ := hb
    have hl : l.length ≤ 20 := by omega
    simp only [cond_false]
    rw [wrong_eq hl]
    obtain ⟨r, er, hr⟩ := bcheck n root hl
    rw [er]
    by_cases h0 : r = 0
    · obtain ⟨hB, r0, r1⟩ := hr h0
      subst h0
      obtain ⟨k, rfl⟩ : ∃ k : Nat, n = k := ⟨n.toNat, by omega⟩
      obtain ⟨ro, rfl⟩ : ∃ k : Nat, root = k := ⟨root.toNat, by omega⟩
      have hk := shl_small k (by omega)
      have hp : 2 ^ k ≤ 16 := Nat.pow_le_pow_right (n := 2) (by omega) (show k ≤ 4 by omega)
      simp only [Option.bind_some, bne_self_eq_false, cond_false, Int.toNat_natCast]
      rw [decide_eq_true (by omega), cond_true, decide_eq_true (show ishl 1 k ≤ 9223372036854775807 by omega), cond_true, hk]
      have hv : ∀ s : Nat, s < 16 → (∀ fuel, 100 ≤ fuel → choice_tell fuel l ro s = some (val l ro s)) ∧ ∀ fuel, 100 ≤ fuel → syllogistref_Tells fuel l ro (BitVec.ofNat 32 s) = some (val l ro s) := fun s hs => by
        obtain ⟨b, h1, h2⟩ := tells_eq hB hl (by omega) hs (ro + 1) ro (by omega) (by omega)
        have : val l ro s = b := by unfold val; rw [h2 100 (by omega)]; rfl
        rw [this]
        exact ⟨fun f hf => h1 f (by omega), fun f hf => h2 f (by omega)⟩
      rw [for_apps (n := 2 ^ k) (fun j => [val l ro j]) rfl (fun t s nx ht hs => by
        unfold choice_Read_b17
        rw [(hv t (by omega)).1 fuel (by omega), Option.bind_some]
        have : s.length = t := by subst hs; exact apps_one_len
        rw [decide_eq_true (by simp only [List.length_cons, List.length_nil]; omega), cond_true])]
      have hR : syllogistref_Read fuel k l ro = some (apps (2 ^ k) fun j => [val l ro j]) := by
        have hB : (1#32 <<< k).toNat = 2 ^ k := one_shl_toNat (by omega)
        unfold syllogistref_Read
        rw [ofInt64 (by omega), forU_apps (fun j => [val l ro j]) (fun c s nx hc hs => by
          unfold syllogistref_Read_b13
          have := (hv c.toNat (by omega)).2 fuel (by omega)
          rw [show BitVec.ofNat 32 c.toNat = c by simp] at this
          rw [this, Option.bind_some]
          have : s.length = c.toNat := by subst hs; exact apps_one_len
          rw [decide_eq_true (by simp only [List.length_cons, List.length_nil]; omega), cond_true]), hB]
        rfl
      unfold choice_Read_k13
      simp only [Option.bind_some, beq_self_eq_true, cond_true, hR]
      rw [show syllogistref_Bools (apps (2 ^ k) fun j => [val l ro j]) (apps (2 ^ k) fun j => [val l ro j]) = some (decide ((apps (2 ^ k) fun j => [val l ro j]) = (apps (2 ^ k) fun j => [val l ro j]))) from lists_eq _ _]
      simp
    · have hb : (r != 0) = true := by simpa using h0
      simp [hb]
end Go.Proofs.Ytmggbhpieikdpaa.Sy
