/- Whom each can tell apart when all have heard: the plain law; no program in sight. -/
import Derived.Test.YtoninfimcobeiaaSyR
import Derived.Test.YtoninfimcobeiaaG1
namespace Go.Proofs.Ytoninfimcobeiaa.Sy
set_option linter.unusedVariables false

theorem contSS (s : List (List Int)) (f : List Int → Option Bool) (p : List Int → Bool) (hf : ∀ a ∈ s, f a = some (p a)) : slices_ContainsFunc_SSintSint s f = some (s.any p) := any_shape s f p hf
theorem bit_eq (w : BitVec 32) (j : Nat) (hj : j < 32) : syllogistref_Bit w j = some (w.getLsbD j) := congrArg some (bit_shape w j hj)
theorem fits_eq {n : Nat} (hn : n < 32) (s : BitVec 32) : syllogistref_Fits n s = some (decide (s < 1#32 <<< n)) := congrArg some (fits_shape hn s)
theorem ints_eq (a b : List Int) : syllogistref_Ints a b = some (decide (a = b)) := lists_eq a b

structure KOk (n : Int) (cells : List (List Int)) (ev : BitVec 32) (k : Nat) : Prop where
  n : n = k
  k1 : 1 ≤ k
  k6 : k ≤ 6
  c1 : 1 ≤ cells.length
  c5 : cells.length ≤ 5
  len : ∀ i (h : i < cells.length), cells[i].length = k
  bel : bel k ev

theorem kcheck (n : Int) (cells : List (List Int)) (ev : BitVec 32) : ∃ r, know_wrong n cells ev = some r ∧ syllogistref_KnowCheck n cells ev = some r ∧ (r = 0 → ∃ k : Nat, KOk n cells ev k) := by
  unfold know_wrong syllogistref_KnowCheck
  cases hb : ((((decide (n < (1 : Int))) || (decide (n > (6 : Int)))) || (decide ((cells.length : Int) < (1 : Int)))) || (decide ((cells.length : Int) > (5 : Int)))) with
  | true => exact ⟨1, rfl, rfl, by simp⟩
  | false =>
    simp only [Bool.or_eq_false_iff, decide_eq_false_iff_not] at hb
    obtain ⟨⟨⟨h1, h2⟩, h3⟩, h4⟩ := hb
    obtain ⟨k, rfl⟩ : ∃ k : Nat, n = k := ⟨n.toNat, by omega⟩
    simp only [cond_false]
    rw [contSS cells (fun a => know_wrong_c1 a k) (fun c => (c.length : Int) != (k : Int)) (fun a _ => rfl), Option.bind_some, any_len]
    rw [for_out (n := cells.length) (fun j => (cells[j]?.map fun c => (c.length : Int) != (k : Int)).getD false) (some 3) rfl (fun j nx hj => by
      unfold syllogistref_KnowCheck_b9
      rw [geti_at hj, Option.bind_some, List.getElem?_eq_getElem hj]; rfl)]
    cases ha : anyN cells.length (fun j => (cells[j]?.map fun c => (c.length : Int) != (k : Int)).getD false) with
    | true => exact ⟨3, rfl, rfl, by simp⟩
    | false =>
      simp only [cond_false]
      unfold syllogistref_KnowCheck_k3
      rw [fits_eq (by omega), Option.bind_some, decide_eq_true (show (0 : Int) ≤ k by omega), cond_true, Int.toNat_natCast, shr_ne (by omega)]
      cases hf : decide (ev < 1#32 <<< k) with
      | false => exact ⟨4, rfl, rfl, by simp⟩
      | true =>
        refine ⟨0, rfl, rfl, fun _ => ⟨k, rfl, by omega, by omega, by omega, by omega, fun i hi => ?_, (bel_lt (by omega)).1 (of_decide_eq_true hf)⟩⟩
        have := anyN_false.1 ha i hi
        rw [List.getElem?_eq_getElem hi] at this
        simp only [Option.map_some, Option.getD_some, bne_eq_false_iff_eq] at this
        omega

theorem lists2_eq (a b : List (List Int)) : syllogistref_Lists a b = some (decide (a = b)) := by
  unfold syllogistref_Lists
  have : (fun i (s : Unit) nx_ => syllogistref_Lists_b7 a b i nx_) = (fun i (_ : Unit) nx => (geti a i).bind fun y => (geti b i).bind fun z => (bif (y != z) then some false else nx ())) := by
    funext i s nx
    unfold syllogistref_Lists_b7
    congr 1
    funext y
    congr 1
    funext z
    rw [ints_eq, Option.bind_some]
    have : (!decide (y = z)) = (y != z) := by
      rw [Bool.eq_iff_iff, Bool.not_eq_true', decide_eq_false_iff_not, bne_iff_ne]
    rw [this]
  rw [this]
  exact lists_eq a b

def same (c : List Int) (ev : BitVec 32) (v w : Nat) : Bool := (c[v]?.getD 0 == c[w]?.getD 0) && (ev.getLsbD v == ev.getLsbD w)
theorem same_self (c : List Int) (ev : BitVec 32) (w : Nat) : same c ev w w = true := by simp [same]
noncomputable def hv (c : List Int) (ev : BitVec 32) (w : Nat) : Nat := Classical.choose (least_nat (P := fun v => same c ev v w = true) (same_self c ev w))
theorem hv_spec (c : List Int) (ev : BitVec 32) (w : Nat) : same c ev (hv c ev w) w = true ∧ ∀ i, same c ev i w = true → hv c ev w ≤ i := Classical.choose_spec (least_nat (P := fun v => same c ev v w = true) (same_self c ev w))
theorem hv_le (c : List Int) (ev : BitVec 32) (w : Nat) : hv c ev w ≤ w := (hv_spec c ev w).2 w (same_self c ev w)
noncomputable def hrd (k : Nat) (cells : List (List Int)) (ev : BitVec 32) (t : Nat) : List (List Int) := apps t fun i => [apps k fun w => [((hv (cells[i]?.getD []) ev w : Nat) : Int)]]
theorem hrd_len {k : Nat} {cells : List (List Int)} {ev : BitVec 32} {t : Nat} : (hrd k cells ev t).length = t := apps_one_len
theorem bit1 (y : BitVec 32) (a b : Nat) : (((y >>> a) &&& 1#32) != ((y >>> b) &&& 1#32)) = !(y.getLsbD a == y.getLsbD b) := by
  have h : ∀ k, (y >>> k) &&& 1#32 = if y.getLsbD k = true then 1#32 else 0#32 := fun k => by
    have := bit_shr y k
    cases hb : y.getLsbD k with
    | true => rw [hb, beq_iff_eq] at this; rw [this]; rfl
    | false =>
      have h2 := bit_shr1 y k
      rw [hb, Bool.not_false, beq_iff_eq] at h2
      rw [h2]; rfl
  rw [h a, h b]
  cases y.getLsbD a <;> cases y.getLsbD b <;> rfl

theorem hear_eq {n : Int} {cells : List (List Int)} {ev : BitVec 32} {k : Nat} (h : KOk n cells ev k) (hw : know_wrong n cells ev = some 0) (fuel : Nat) (hf : 10 < fuel) : know_Hear fuel n cells ev = some (hrd k cells ev cells.length, 0) := by
  have k6 := h.k6
  have c5 := h.c5
  have hn := h.n
  subst hn
  unfold know_Hear
  rw [hw, Option.bind_some, show ((0 : Int) != 0) = false from rfl, cond_false]
  refine (for_apps (n := cells.length) (fun i => [apps k fun w => [((hv (cells[i]?.getD []) ev w : Nat) : Int)]]) rfl (fun i s nx hi hs => ?_)).trans rfl
  unfold know_Hear_b27
  have hci : (cells[i]?.getD []).length = k := by rw [getd_at _ hi]; exact h.len i hi
  rw [geti_d [] hi, Option.bind_some, decide_eq_true (by omega), cond_true]
  refine (for_apps (n := k) (fun w => [((hv (cells[i]?.getD []) ev w : Nat) : Int)]) rfl (fun w l nx' hwk hl => ?_)).trans ?_
  · unfold know_Hear_b54
    have hle := hv_le (cells[i]?.getD []) ev w
    have hspec := hv_spec (cells[i]?.getD []) ev w
    have body : ∀ (v : Nat) nx2, v < k → know_Hear_b66 ev (cells[i]?.getD []) w l nx' v nx2 = bif same (cells[i]?.getD []) ev v w then know_Hear_k60 l nx' v else nx2 ((v + 1 : Nat) : Int) := fun v nx2 hv => by
      unfold know_Hear_b66
      rw [geti_d 0 (by omega), Option.bind_some, geti_d 0 (by omega), Option.bind_some, decide_eq_true (by omega), Bool.or_true, cond_true, Int.toNat_natCast, Int.toNat_natCast, bit1, w64_succ (by omega)]
      unfold same
      rw [show ((cells[i]?.getD [])[w]?.getD 0 != (cells[i]?.getD [])[v]?.getD 0) = !((cells[i]?.getD [])[v]?.getD 0 == (cells[i]?.getD [])[w]?.getD 0) by rw [bne, BEq.comm], show (ev.getLsbD w == ev.getLsbD v) = (ev.getLsbD v == ev.getLsbD w) from BEq.comm]
      cases ((cells[i]?.getD [])[v]?.getD 0 == (cells[i]?.getD [])[w]?.getD 0) <;> cases (ev.getLsbD v == ev.getLsbD w) <;> rfl
    refine while_rec (fun j => (j : Int)) (hv (cells[i]?.getD []) ev w) _ (fun j nx2 hj => ?_) (fun nx2 => ?_) (by omega) rfl
    · rw [body j nx2 (by omega)]
      have : same (cells[i]?.getD []) ev j w = false := by
        cases hs : same (cells[i]?.getD []) ev j w with
        | false => rfl
        | true => have := hspec.2 j hs; omega
      rw [this]; rfl
    · rw [body _ nx2 (by omega), hspec.1, cond_true]
      unfold know_Hear_k60
      rw [decide_eq_true (by rw [hl, show (apps w fun w => [((hv (cells[i]?.getD []) ev w : Nat) : Int)]).length = w from apps_one_len]; simp only [List.length_cons, List.length_nil]; omega), cond_true]
  · unfold know_Hear_k44
    rw [decide_eq_true (by rw [hs, show (apps i fun i => [apps k fun w => [((hv (cells[i]?.getD []) ev w : Nat) : Int)]]).length = i from apps_one_len]; omega), cond_true]

theorem knowHears_true (fuel : Nat) (n : Int) (cells : List (List Int)) (ev : BitVec 32) (hf : 100 < fuel := by decide) : syllogistlaw_KnowHears fuel n cells ev = some true := by
  unfold syllogistlaw_KnowHears
  obtain ⟨r, e1, e2, h⟩ := kcheck n cells ev
  by_cases hr : r = 0
  · subst hr
    obtain ⟨k, h⟩ := h rfl
    rw [hear_eq h e1 fuel (by omega), e2]
    have k6 := h.k6
    have c5 := h.c5
    have hn := h.n
    subst hn
    simp only [Option.bind_some, bne_self_eq_false, cond_false]
    refine (for_apps (n := cells.length) (fun i => [apps k fun w => [((hv (cells[i]?.getD []) ev w : Nat) : Int)]]) rfl (fun i s nx hi hs => ?_)).trans ?_
    · unfold syllogistlaw_KnowHears_b31
      have hci : (cells[i]?.getD []).length = k := by rw [getd_at _ hi]; exact h.len i hi
      rw [geti_d [] hi, Option.bind_some, decide_eq_true (by omega), cond_true]
      refine (for_apps (n := k) (fun w => [((hv (cells[i]?.getD []) ev w : Nat) : Int)]) rfl (fun w l nx' hwk hl => ?_)).trans ?_
      · unfold syllogistlaw_KnowHears_b58
        have hle := hv_le (cells[i]?.getD []) ev w
        have hspec := hv_spec (cells[i]?.getD []) ev w
        have body : ∀ (v : Nat) nx2, v < k → syllogistlaw_KnowHears_b70 ev (cells[i]?.getD []) w l nx' v nx2 = bif same (cells[i]?.getD []) ev v w then syllogistlaw_KnowHears_k64 l nx' v else nx2 ((v + 1 : Nat) : Int) := fun v nx2 hv => by
          unfold syllogistlaw_KnowHears_b70
          rw [geti_d 0 (by omega), Option.bind_some, geti_d 0 (by omega), Option.bind_some, bit_eq _ _ (by omega), bit_eq _ _ (by omega), w64_succ (by omega)]
          simp only [Option.isSome_some, Bool.or_true, cond_true, Option.getD_some]
          unfold same
          show (bif (!((cells[i]?.getD [])[v]?.getD 0 == (cells[i]?.getD [])[w]?.getD 0) || (!(ev.getLsbD v == ev.getLsbD w))) then _ else _) = _
          cases ((cells[i]?.getD [])[v]?.getD 0 == (cells[i]?.getD [])[w]?.getD 0) <;> cases (ev.getLsbD v == ev.getLsbD w) <;> rfl
        refine while_rec (fun j => (j : Int)) (hv (cells[i]?.getD []) ev w) _ (fun j nx2 hj => ?_) (fun nx2 => ?_) (by omega) rfl
        · rw [body j nx2 (by omega)]
          have : same (cells[i]?.getD []) ev j w = false := by
            cases hs : same (cells[i]?.getD []) ev j w with
            | false => rfl
            | true => have := hspec.2 j hs; omega
          rw [this]; rfl
        · rw [body _ nx2 (by omega), hspec.1, cond_true]
          unfold syllogistlaw_KnowHears_k64
          rw [decide_eq_true (by rw [hl, show (apps w fun w => [((hv (cells[i]?.getD []) ev w : Nat) : Int)]).length = w from apps_one_len]; simp only [List.length_cons, List.length_nil]; omega), cond_true]
      · unfold syllogistlaw_KnowHears_k48
        rw [decide_eq_true (by rw [hs, show (apps i fun i => [apps k fun w => [((hv (cells[i]?.getD []) ev w : Nat) : Int)]]).length = i from apps_one_len]; omega), cond_true]
    · unfold syllogistlaw_KnowHears_k26
      rw [lists2_eq]
      simp [hrd]
  · have : (r != 0) = true := by simpa using hr
    unfold know_Hear
    rw [e1, e2]
    simp [this]
end Go.Proofs.Ytoninfimcobeiaa.Sy
