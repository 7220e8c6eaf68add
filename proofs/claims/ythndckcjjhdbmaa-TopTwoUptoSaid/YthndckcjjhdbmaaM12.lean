/- What others do, however it is mixed in, is not told: the plain law; no program in sight. -/
import Derived.Test.YthndckcjjhdbmaaM11
namespace Go.Proofs.Ythndckcjjhdbmaa.Sy
set_option linter.unusedVariables false

theorem fits0 : lcode { level := 0, parts := 0#32 } = 0 := by unfold lcode; rw [if_pos ⟨by decide, by decide, by decide⟩]
/-- One leaf put on an empty page. -/
theorem first_eq {fuel : Nat} (hf : 100 < fuel) : ∃ c p, hands_Seen fuel [({ kind := 1, who := { level := 0, parts := 0#32 }, path := [0], text := 0 } : Stroke)] { level := 0, parts := 0#32 } = some (c, p, 0) ∧ c.length = 1 ∧ p.length = 1 := by
  have hp : ∀ s ∈ [({ kind := 1, who := { level := 0, parts := 0#32 }, path := [0], text := 0 } : Stroke)], s.path.length ≤ 9223372036854775807 := fun s hs => by
    rw [List.mem_singleton] at hs; subst hs; decide
  refine ⟨_, _, seen_eq hp (by decide) fits0 hf, ?_, ?_⟩
  · have hv : vis { level := 0, parts := 0#32 } ({ kind := 1, who := { level := 0, parts := 0#32 }, path := [0], text := 0 } : Stroke) = true := by
      unfold vis
      rw [Bool.and_eq_true, beq_iff_eq]
      exact ⟨fits0, lund_refl _⟩
    show (if vis _ _ = true then _ :: fcs _ [] [] else fcs _ [] []).length = 1
    rw [if_pos hv]; rfl
  · have hs : strokeF [] ({ kind := 1, who := { level := 0, parts := 0#32 }, path := [0], text := 0 } : Stroke) = ([{ up := -1, text := 0, label := { level := 0, parts := 0#32 } }], 0) := by
      unfold strokeF putF
      rw [if_pos rfl, if_neg (by decide)]
      show putH [] _ (fnd [] _ []) = _
      rw [fnd_nil pok_nil]
      rfl
    have hn : nxt [] ({ kind := 1, who := { level := 0, parts := 0#32 }, path := [0], text := 0 } : Stroke) = [{ up := -1, text := 0, label := { level := 0, parts := 0#32 } }] := by
      unfold nxt
      rw [hs, if_pos ⟨fits0, rfl⟩]
    show (vw (nxt [] _) _).length = 1
    rw [hn]
    rfl

/-- What comes of the others' strokes, mixed in. -/
theorem mix_filter {who : Label} {s : Stroke} (hs : lund s.who who = false) (a b : List Stroke) : (a ++ [s] ++ b).filter (vis who) = (a ++ b).filter (vis who) := by
  have hv : vis who s = false := by unfold vis; rw [hs, Bool.and_false]
  rw [List.filter_append, List.filter_append, List.filter_append, List.filter_cons_of_neg (by rw [hv]; simp), List.filter_nil, List.append_nil]

theorem topTwo_true (fuel : Nat) (script others : List Stroke) (who : Label) (at_ : List (BitVec 8)) (hp : ∀ s ∈ script, s.path.length ≤ 9223372036854775807) (hp2 : ∀ s ∈ others, s.path.length ≤ 9223372036854775807) (hlen : script.length + others.length ≤ 2513169434915) (hf : 100 < fuel := by decide) : syllogisttop_TopTwo fuel script others who at_ = some true := by
  unfold syllogisttop_TopTwo
  obtain ⟨c, p, e1, e2, e3⟩ := first_eq hf
  rw [e1, Option.bind_some]
  simp only [e2, e3]
  rw [show ((((0 : Int) != 0) || (((1 : Nat) : Int) != 1)) || (((1 : Nat) : Int) != 1)) = false from rfl, cond_false, show ({ level := who.level, parts := who.parts } : Label) = who from rfl, purge_eq (by omega), Option.bind_some]
  have hfl := List.length_filter_le (vis who) script
  refine for0_q (Q := fun o => o = some true) (fun t (mixed : List Stroke) => mixed.length ≤ script.length + t ∧ (∀ s ∈ mixed, s.path.length ≤ 9223372036854775807) ∧ mixed.filter (vis who) = script.filter (vis who)) rfl _ ⟨by omega, fun s hs => hp s (List.mem_filter.1 hs).1, filter_vis⟩ (fun t mixed nx ht hI hnx => ?_) (fun mixed hI => ?_)
  · obtain ⟨i1, i2, i3⟩ := hI
    unfold syllogisttop_TopTwo_b54
    rw [geti_at ht, Option.bind_some, below_eq', Option.bind_some]
    cases hs : lund others[t].who who with
    | true => rw [cond_true]; exact hnx _ ⟨by omega, i2, i3⟩
    | false =>
      rw [cond_false]
      have k68 : ∀ k : Int, 0 ≤ k → k ≤ mixed.length → syllogisttop_TopTwo_k68 mixed nx others[t] k = some true := fun k k0 k1 => by
        unfold syllogisttop_TopTwo_k68
        have hl1 : (mixed.take k.toNat).length = k.toNat := by rw [List.length_take]; omega
        have hl2 : (mixed.drop k.toNat).length = mixed.length - k.toNat := by rw [List.length_drop]
        rw [decide_eq_true ⟨k0, k1⟩, cond_true, List.nil_append, decide_eq_true (by rw [List.length_nil]; omega), cond_true, decide_eq_true (by simp only [List.length_cons, List.length_nil]; omega), cond_true, decide_eq_true (by simp only [List.length_append, List.length_cons, List.length_nil]; omega), cond_true]
        refine hnx _ ⟨?_, fun s hs' => ?_, ?_⟩
        · simp only [List.length_append, List.length_cons, List.length_nil]; omega
        · rcases List.mem_append.1 hs' with h | h
          · rcases List.mem_append.1 h with h | h
            · exact i2 s (List.mem_of_mem_take h)
            · rw [List.mem_singleton] at h
              subst h
              exact hp2 _ (List.getElem_mem _)
          · exact i2 s (List.mem_of_mem_drop h)
        · refine (mix_filter hs _ _).trans ?_
          rw [List.take_append_drop]; exact i3
      by_cases hat : (t : Int) < (at_.length : Int)
      · rw [decide_eq_true hat, cond_true, geti_at (by omega), Option.bind_some, w64_id (by omega) (by omega), decide_eq_true (by omega), cond_true]
        have h0 : 0 ≤ ((at_[t]'(by omega)).toNat : Int) := by omega
        have h1 := Int.tmod_nonneg (((mixed.length : Int)) + 1) h0
        have h2 := Int.tmod_lt_of_pos ((at_[t]'(by omega)).toNat : Int) (show 0 < (mixed.length : Int) + 1 by omega)
        exact k68 _ h1 (by omega)
      · rw [decide_eq_false hat, cond_false]
        exact k68 0 (by omega) (by omega)
  · obtain ⟨i1, i2, i3⟩ := hI
    unfold syllogisttop_TopTwo_k34
    rw [show ({ level := who.level, parts := who.parts } : Label) = who from rfl, may_eq]
    simp only [Option.bind_some]
    by_cases hok : script.length ≤ 30 ∧ lcode who = 0
    · obtain ⟨h30, hw⟩ := hok
      rw [seen_eq hp h30 hw hf, Option.bind_some, decide_eq_true h30, hw]
      by_cases hm : mixed.length ≤ 30
      · obtain ⟨a1, a2⟩ := seen_codes (who := who) h30
        obtain ⟨b1, b2⟩ := seen_codes (who := who) hm
        rw [i3] at b1 b2
        rw [seen_eq i2 hm hw hf, Option.bind_some, ← b1, ← b2, ← a1, ← a2, decide_eq_false (show ¬ (mixed.length : Int) > 30 by omega)]
        simp [codes_eq, leaves_eq, tru_iff.2]
      · rw [seen_bad i2 (fun h => hm h.1) hf, Option.bind_some, if_neg hm, decide_eq_true (show (mixed.length : Int) > 30 by omega)]
        simp
    · rw [seen_bad hp hok hf, Option.bind_some]
      have hmay : (decide (script.length ≤ 30) && (lcode who == 0)) = false := by
        rw [← Bool.not_eq_true, Bool.and_eq_true, decide_eq_true_eq, beq_iff_eq]; exact hok
      have hne := bad_ne hok
      have hs2 : ∃ r, hands_Seen fuel mixed who = some r := by
        by_cases hok2 : mixed.length ≤ 30 ∧ lcode who = 0
        · exact ⟨_, seen_eq i2 hok2.1 hok2.2 hf⟩
        · exact ⟨_, seen_bad i2 hok2 hf⟩
      obtain ⟨r, hr⟩ := hs2
      rw [hr, Option.bind_some, hmay, Bool.not_false, Bool.true_or, cond_true]
      simp only
      rw [show ((if script.length ≤ 30 then lcode who else 1) != 0) = true by simpa using hne, Bool.true_or]
end Go.Proofs.Ythndckcjjhdbmaa.Sy
