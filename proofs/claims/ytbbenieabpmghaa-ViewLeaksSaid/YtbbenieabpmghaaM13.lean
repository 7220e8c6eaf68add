/- How near a pair is to one that leaks, and the first word: the document's side of view.Leak; no program in sight. -/
import Derived.Test.YtbbenieabpmghaaM12
namespace Go.Proofs.Ytbbenieabpmghaa.Sy
set_option linter.unusedVariables false
section
variable {m : Machine} {n U A : Nat} {hd : BitVec 32}

/-! ### Numbers of words, again -/
theorem code_app (x : Wo) : ∀ y : Wo, code U A (x ++ y) = code U A x * (U * A + 1) ^ y.length + code U A y := by
  intro y
  refine snoc_ind (P := fun y => code U A (x ++ y) = code U A x * (U * A + 1) ^ y.length + code U A y) ?_ (fun y l ih => ?_) y
  · have e0 : code U A [] = 0 := rfl
    rw [List.append_nil, List.length_nil, Nat.pow_zero, e0, Nat.mul_one, Nat.add_zero]
  · rw [← List.append_assoc, code_snoc, ih, code_snoc, List.length_append, List.length_singleton, Nat.pow_succ, Nat.add_mul, ← Nat.mul_assoc, Nat.add_assoc]
theorem code_lt : ∀ w : Wo, okL U A w → code U A w < (U * A + 1) ^ w.length := by
  intro w
  refine snoc_ind (P := fun w => okL U A w → code U A w < (U * A + 1) ^ w.length) (fun _ => ?_) (fun w l ih h => ?_) w
  · exact (Nat.zero_lt_one : 0 < 1)
  · rw [okL_snoc] at h
    have h1 := Nat.mul_le_mul_right (U * A + 1) (ih h.1)
    have h2 := ix_lt h.2
    rw [code_snoc, List.length_append, List.length_singleton, Nat.pow_succ]
    rw [Nat.succ_mul] at h1
    omega
theorem code_ge : ∀ (k : Nat) (w : Wo), w.length = k + 1 → (U * A + 1) ^ k ≤ code U A w := by
  intro k
  induction k with
  | zero =>
    intro w hw
    have := code_pos (U := U) (A := A) (w := w) (by intro h; rw [h] at hw; simp at hw)
    rw [Nat.pow_zero]; omega
  | succ k ih =>
    intro w hw
    rcases snoc_cases w with rfl | ⟨x, l, rfl⟩
    · simp at hw
    · rw [List.length_append, List.length_singleton] at hw
      have := Nat.mul_le_mul_right (U * A + 1) (ih x (by omega))
      rw [code_snoc, Nat.pow_succ]
      omega
theorem code_len {w w' : Wo} (h : okL U A w) (hl : w.length < w'.length) : code U A w < code U A w' := by
  have h1 := code_lt w h
  have h2 := code_ge (U := U) (A := A) (w'.length - 1) w' (by omega)
  have h3 : (U * A + 1) ^ w.length ≤ (U * A + 1) ^ (w'.length - 1) := Nat.pow_le_pow_right (by omega) (by omega)
  omega
theorem code_first {P w v : Wo} {l c : Nat × Nat} (hw : okL U A w) (hl : w.length = v.length) (hlt : ix A l < ix A c) : code U A (P ++ l :: w) < code U A (P ++ c :: v) := by
  have e1 : P ++ l :: w = (P ++ [l]) ++ w := by simp
  have e2 : P ++ c :: v = (P ++ [c]) ++ v := by simp
  rw [e1, e2, code_app (P ++ [l]) w, code_app (P ++ [c]) v, code_snoc, code_snoc, hl]
  have h1 := code_lt w hw
  rw [hl] at h1
  have h2 : (code U A P * (U * A + 1) + (ix A l + 1) + 1) * (U * A + 1) ^ v.length ≤ (code U A P * (U * A + 1) + (ix A c + 1)) * (U * A + 1) ^ v.length := Nat.mul_le_mul_right _ (by omega)
  rw [Nat.succ_mul] at h2
  omega

/-! ### How near -/
def TT (m : Machine) (hd : BitVec 32) (U A : Nat) : Nat → Nat → Nat → Int
  | 0, s, p => bif samN m hd U s p then -1 else 0
  | k + 1, s, p => bif decide (TT m hd U A k s p < 0) && anyN U (fun u => anyN A fun a => decide (TT m hd U A k (dl m hd (s, p) (u, a)).1 (dl m hd (s, p) (u, a)).2 ≥ 0)) then ((k + 1 : Nat) : Int) else TT m hd U A k s p
def Gk (m : Machine) (hd : BitVec 32) (U A k : Nat) (q : Pr) : Prop := ∃ w, okL U A w ∧ w.length ≤ k ∧ leak m hd U (en m hd q w) = true
theorem Gk.mono {j k : Nat} {q : Pr} (h : Gk m hd U A j q) (hjk : j ≤ k) : Gk m hd U A k q := by
  obtain ⟨w, h1, h2, h3⟩ := h
  exact ⟨w, h1, by omega, h3⟩
theorem Gk.cons {k : Nat} {q : Pr} {l : Nat × Nat} (hl : l.1 < U ∧ l.2 < A) (h : Gk m hd U A k (dl m hd q l)) : Gk m hd U A (k + 1) q := by
  obtain ⟨w, h1, h2, h3⟩ := h
  refine ⟨l :: w, fun x hx => ?_, by simp; omega, h3⟩
  rcases List.mem_cons.1 hx with rfl | hx
  · exact hl
  · exact h1 x hx
theorem Gk.zero {q : Pr} : Gk m hd U A 0 q ↔ leak m hd U q = true := by
  constructor
  · rintro ⟨w, h1, h2, h3⟩
    have : w = [] := List.length_eq_zero_iff.1 (by omega)
    subst this; exact h3
  · exact fun h => ⟨[], fun l hl => by simp at hl, Nat.le_refl _, h⟩
theorem Gk.succ {k : Nat} {q : Pr} (h : Gk m hd U A (k + 1) q) : leak m hd U q = true ∨ ∃ l : Nat × Nat, (l.1 < U ∧ l.2 < A) ∧ Gk m hd U A k (dl m hd q l) := by
  obtain ⟨w, h1, h2, h3⟩ := h
  cases w with
  | nil => exact .inl h3
  | cons l w => exact .inr ⟨l, h1 l (by simp), w, fun x hx => h1 x (by simp [hx]), by simp at h2; omega, h3⟩
theorem TT_spec (h : OkV m n U A) : ∀ (k : Nat) (q : Pr), inn n q → (TT m hd U A k q.1 q.2 = -1 ∧ ¬Gk m hd U A k q) ∨ ∃ d : Nat, d ≤ k ∧ TT m hd U A k q.1 q.2 = d ∧ Gk m hd U A d q ∧ ∀ j, j < d → ¬Gk m hd U A j q := by
  intro k
  induction k with
  | zero =>
    intro q hq
    unfold TT
    cases hs : samN m hd U q.1 q.2 with
    | true => exact .inl ⟨rfl, fun hg => by rw [Gk.zero] at hg; unfold leak at hg; rw [hs] at hg; cases hg⟩
    | false => exact .inr ⟨0, Nat.le_refl _, rfl, Gk.zero.2 (by unfold leak; rw [hs]; rfl), fun j hj => by omega⟩
  | succ k ih =>
    intro q hq
    rcases ih q hq with ⟨h1, h2⟩ | ⟨d, h1, h2, h3, h4⟩
    · cases hany : anyN U (fun u => anyN A fun a => decide (TT m hd U A k (dl m hd (q.1, q.2) (u, a)).1 (dl m hd (q.1, q.2) (u, a)).2 ≥ 0)) with
      | true =>
        obtain ⟨u, hu, ha'⟩ := anyN_iff.1 hany
        obtain ⟨a, ha, hge⟩ := anyN_iff.1 ha'
        rw [decide_eq_true_eq] at hge
        have hg : Gk m hd U A k (dl m hd q (u, a)) := by
          rcases ih (dl m hd q (u, a)) (dl_in h hq _) with ⟨h5, _⟩ | ⟨d, h5, _, h6, _⟩
          · change TT m hd U A k (dl m hd q (u, a)).1 (dl m hd q (u, a)).2 ≥ 0 at hge
            omega
          · exact h6.mono h5
        refine .inr ⟨k + 1, Nat.le_refl _, ?_, hg.cons ⟨hu, ha⟩, fun j hj hg' => h2 (hg'.mono (by omega))⟩
        rw [TT, hany, h1]; rfl
      | false =>
        refine .inl ⟨?_, fun hg => ?_⟩
        · rw [TT, hany, Bool.and_false, cond_false, h1]
        · rcases hg.succ with hg | ⟨l, hl, hg⟩
          · exact h2 ((Gk.zero.2 hg).mono (by omega))
          · have h5 := anyN_false.1 (anyN_false.1 hany l.1 hl.1) l.2 hl.2
            rw [decide_eq_false_iff_not] at h5
            rcases ih (dl m hd q l) (dl_in h hq _) with ⟨_, h6⟩ | ⟨d, _, h6, _⟩
            · exact h6 hg
            · exact h5 (by change TT m hd U A k (dl m hd q l).1 (dl m hd q l).2 ≥ 0; omega)
    · refine .inr ⟨d, by omega, ?_, h3, h4⟩
      rw [TT, h2, decide_eq_false (by omega), Bool.false_and, cond_false]
theorem TT_bnd (h : OkV m n U A) (k : Nat) (q : Pr) (hq : inn n q) : -1 ≤ TT m hd U A k q.1 q.2 ∧ TT m hd U A k q.1 q.2 ≤ k := by
  rcases TT_spec (hd := hd) h k q hq with ⟨h1, _⟩ | ⟨d, h1, h2, _⟩ <;> omega

/-! ### The document's tables -/
def matI (n : Nat) (T : Nat → Nat → Int) : List (List Int) := tab n fun s => tab n fun p => T s p
theorem matI_row {T : Nat → Nat → Int} {s : Nat} (hs : s < n) : geti (matI n T) (s : Int) = some (tab n fun p => T s p) := tab_geti hs
theorem row_at {l : List (List Int)} {R : List Int} {s : Nat} (hs : s < l.length) : geti (l.set s R) (s : Int) = some R := by
  rw [geti_nat?, List.getElem?_set, if_pos rfl, if_pos hs]

theorem b198_eq (h : OkV m n U A) {s : Nat} (hs : s < n) (l : List (List Int)) (hl : l.length = n) (nx : List (List Int) → Option (List (List Int))) :
    syllogistref_LeakIn_b198 m hd s l nx = nx (l.set s (tab n fun p => TT m hd U A 0 s p)) := by
  have hn := h.en
  have h6 := h.n6
  unfold syllogistref_LeakIn_b198
  rw [decide_eq_true (by omega), cond_true, geti_d [] (by omega), Option.bind_some, decide_eq_true (by omega), cond_true, hn, Int.toNat_natCast, Int.toNat_natCast]
  rw [for_rec (n := n) (fun p => l.set s (tab n fun p' => if p' < p then TT m hd U A 0 s p' else 0)) rfl (by rw [tab_rep]; congr 1) (fun p nx' hp => by
    unfold syllogistref_LeakIn_b224
    have hg : ∀ x : Int, (tab n fun p' => if p' < p then TT m hd U A 0 s p' else 0).set p x = tab n fun p' => if p' = p then x else if p' < p then TT m hd U A 0 s p' else 0 := fun x => tab_set hp
    have hfin : (tab n fun p' => if p' = p then TT m hd U A 0 s p else if p' < p then TT m hd U A 0 s p' else 0) = tab n fun p' => if p' < p + 1 then TT m hd U A 0 s p' else 0 := tab_congr fun p' _ => by
      by_cases e : p' = p
      · subst e; rw [if_pos rfl, if_pos (by omega)]
      · rw [if_neg e]
        by_cases e2 : p' < p
        · rw [if_pos e2, if_pos (by omega)]
        · rw [if_neg e2, if_neg (by omega)]
    rw [row_at (by omega), Option.bind_some, tab_geti hp, Option.bind_some, Int.toNat_natCast, Int.toNat_natCast, List.set_set, hg]
    change (syllogistref_Sees m hd (s : Int) (p : Int)).bind _ = _
    rw [sees_eq h hs hp, Option.bind_some]
    rw [← hfin]
    unfold TT
    cases hsm : samN m hd U s p with
    | true => rfl
    | false =>
      rw [Bool.not_false, cond_true, row_at (by omega), Option.bind_some, tab_geti hp, Option.bind_some, List.set_set, tab_set hp]
      congr 2
      exact tab_congr fun p' _ => by
        by_cases e : p' = p
        · rw [if_pos e, if_pos e]; rfl
        · rw [if_neg e, if_neg e, if_neg e])]
  unfold syllogistref_LeakIn_k220
  congr 2
  exact tab_congr fun p hp => if_pos hp

theorem b150_eq (h : OkV m n U A) (k : Nat) {s p u a : Nat} (hs : s < n) (hp : p < n) (hu : u < U) (ha : a < A) (l : List (List Int)) (hl : l.length = n) (R : Int → List Int) (hR : ∀ x, geti (R x) (p : Int) = some x) (hRs : ∀ x y, (R x).set p y = R y) (x : Int) (nx : List (List Int) → Option (List (List Int))) :
    syllogistref_LeakIn_b150 m hd (matI n (TT m hd U A k)) ((k + 1 : Nat) : Int) s p u a (l.set s (R x)) nx = nx (l.set s (R (bif decide (x < 0) && decide (TT m hd U A k (dl m hd (s, p) (u, a)).1 (dl m hd (s, p) (u, a)).2 ≥ 0) then ((k + 1 : Nat) : Int) else x))) := by
  have hu3 := h.u3
  have hin := dl_in (hd := hd) h (q := (s, p)) ⟨hs, hp⟩ (u, a)
  have key : syllogistref_LeakIn_k156 m (matI n (TT m hd U A k)) ((k + 1 : Nat) : Int) s p u a (l.set s (R x)) nx (((dl m hd (s, p) (u, a)).2 : Nat) : Int) = nx (l.set s (R (bif decide (x < 0) && decide (TT m hd U A k (dl m hd (s, p) (u, a)).1 (dl m hd (s, p) (u, a)).2 ≥ 0) then ((k + 1 : Nat) : Int) else x))) := by
    unfold syllogistref_LeakIn_k156
    have e1 : geti (matI n (TT m hd U A k)) ((nxN m s u a : Nat) : Int) = some (tab n fun p => TT m hd U A k (nxN m s u a) p) := matI_row hin.1
    have e2 : geti (tab n fun p => TT m hd U A k (nxN m s u a) p) (((dl m hd (s, p) (u, a)).2 : Nat) : Int) = some (TT m hd U A k (nxN m s u a) (dl m hd (s, p) (u, a)).2) := tab_geti hin.2
    rw [row_at (by omega), Option.bind_some, hR, Option.bind_some]
    simp only [h.nx1 hs, h.nx2 hs hu, h.nx3 hs hu ha, e1, e2, Option.getD_some, Option.isSome_some, Bool.or_true, cond_true]
    have e3 : TT m hd U A k (dl m hd (s, p) (u, a)).1 (dl m hd (s, p) (u, a)).2 = TT m hd U A k (nxN m s u a) (dl m hd (s, p) (u, a)).2 := rfl
    rw [e3]
    cases decide (x < 0) && decide (TT m hd U A k (nxN m s u a) (dl m hd (s, p) (u, a)).2 ≥ 0) with
    | true => simp only [cond_true, hR, Option.bind_some, Int.toNat_natCast, List.set_set, hRs]
    | false => rfl
  unfold syllogistref_LeakIn_b150
  rw [bit_eq hd (by omega), Option.bind_some]
  cases hb : hd.getLsbD u with
  | true =>
    have : (dl m hd (s, p) (u, a)).2 = p := by unfold dl; rw [hb]; rfl
    rw [this] at key ⊢
    exact key
  | false =>
    have : (dl m hd (s, p) (u, a)).2 = nxN m p u a := by unfold dl; rw [hb]; rfl
    rw [this] at key ⊢
    rw [Bool.not_false, cond_true, h.nx1 hp, Option.bind_some, h.nx2 hp hu, Option.bind_some, h.nx3 hp hu ha, Option.bind_some]
    exact key

theorem xcell (T K1 : Int) (hK : 0 ≤ K1) (b c : Bool) : (bif decide ((bif decide (T < 0) && b then K1 else T) < 0) && c then K1 else (bif decide (T < 0) && b then K1 else T)) = bif decide (T < 0) && (b || c) then K1 else T := by
  have hK' : ¬ K1 < 0 := by omega
  by_cases h : T < 0 <;> cases b <;> cases c <;> simp [h, hK']
theorem b76_eq (h : OkV m n U A) (k : Nat) {s : Nat} (hs : s < n) (l : List (List Int)) (hl : l.length = n) (nx : List (List Int) → Option (List (List Int))) :
    syllogistref_LeakIn_b76 m hd (matI n (TT m hd U A k)) ((k + 1 : Nat) : Int) s l nx = nx (l.set s (tab n fun p => TT m hd U A (k + 1) s p)) := by
  have hn := h.en
  have h6 := h.n6
  have hu3 := h.u3
  have ha2 := h.a2
  have heu := h.eu
  have hea := h.ea
  unfold syllogistref_LeakIn_b76
  rw [matI_row hs, Option.bind_some, tab_len, decide_eq_true (by simp only [List.length_nil]; omega), cond_true, geti_d [] (by omega), Option.bind_some, decide_eq_true (by omega), cond_true, Int.toNat_natCast, List.nil_append]
  rw [for_rec (n := n) (fun p => l.set s (tab n fun p' => if p' < p then TT m hd U A (k + 1) s p' else TT m hd U A k s p')) hn (by congr 1) (fun p nx' hp => by
    unfold syllogistref_LeakIn_b108
    rw [decide_eq_true (by omega), cond_true]
    let R : Int → List Int := fun x => tab n fun p' => if p' = p then x else if p' < p then TT m hd U A (k + 1) s p' else TT m hd U A k s p'
    have hR : ∀ x, geti (R x) (p : Int) = some x := fun x => by
      have : geti (R x) (p : Int) = some (if p = p then x else if p < p then TT m hd U A (k + 1) s p else TT m hd U A k s p) := tab_geti hp
      rw [this, if_pos rfl]
    have hRs : ∀ x y, (R x).set p y = R y := fun x y => by
      have : (R x).set p y = tab n fun p' => if p' = p then y else (if p' = p then x else if p' < p then TT m hd U A (k + 1) s p' else TT m hd U A k s p') := tab_set hp
      rw [this]
      exact tab_congr fun p' _ => by
        by_cases e : p' = p
        · rw [if_pos e, if_pos e]
        · rw [if_neg e, if_neg e, if_neg e]
    have e0 : (tab n fun p' => if p' < p then TT m hd U A (k + 1) s p' else TT m hd U A k s p') = R (TT m hd U A k s p) := tab_congr fun p' _ => by
      by_cases e : p' = p
      · subst e; rw [if_pos rfl, if_neg (by omega)]
      · rw [if_neg e]
    have e9 : (tab n fun p' => if p' < p + 1 then TT m hd U A (k + 1) s p' else TT m hd U A k s p') = R (TT m hd U A (k + 1) s p) := tab_congr fun p' _ => by
      by_cases e : p' = p
      · subst e; rw [if_pos rfl, if_pos (by omega)]
      · rw [if_neg e]
        by_cases e2 : p' < p
        · rw [if_pos e2, if_pos (by omega)]
        · rw [if_neg e2, if_neg (by omega)]
    rw [e0, e9]
    let hit : Nat → Nat → Bool := fun u a => decide (TT m hd U A k (dl m hd (s, p) (u, a)).1 (dl m hd (s, p) (u, a)).2 ≥ 0)
    let X : Bool → Int := fun b => bif decide (TT m hd U A k s p < 0) && b then ((k + 1 : Nat) : Int) else TT m hd U A k s p
    have hX : ∀ b c, (bif decide (X b < 0) && c then ((k + 1 : Nat) : Int) else X b) = X (b || c) := fun b c => xcell _ _ (by omega) b c
    have x0 : TT m hd U A k s p = X (anyN 0 fun u => anyN A (hit u)) := by simp only [X, anyN, Bool.and_false, cond_false]
    rw [x0]
    rw [for_rec (n := U) (fun u => l.set s (R (X (anyN u fun u => anyN A (hit u))))) heu rfl (fun u nx2 hu => by
      unfold syllogistref_LeakIn_b129
      rw [decide_eq_true (by omega), cond_true]
      rw [for_rec (n := A) (fun a => l.set s (R (X ((anyN u fun u => anyN A (hit u)) || anyN a (hit u))))) hea (by rw [show anyN 0 (hit u) = false from rfl, Bool.or_false]) (fun a nx3 ha => by
        rw [b150_eq h k hs hp hu ha l hl R hR hRs, hX, Bool.or_assoc]
        rfl)]
      rfl)]
    rfl)]
  unfold syllogistref_LeakIn_k104
  congr 2
  exact tab_congr fun p hp => if_pos hp

theorem leakIn_eq (h : OkV m n U A) {fuel : Nat} (hf : 100 < fuel) : syllogistref_LeakIn fuel m hd ((n * n : Nat) : Int) = some (matI n (TT m hd U A (n * n))) := by
  have hn := h.en
  have h6 := h.n6
  have hnn : n * n ≤ 6 * 6 := Nat.mul_le_mul h6 h6
  unfold syllogistref_LeakIn
  rw [decide_eq_true (by omega), cond_true, decide_eq_true (by omega), cond_true, hn, Int.toNat_natCast]
  rw [for_tab (n := n) (fun s => tab n fun p => TT m hd U A 0 s p) rfl (fun s l nx hs hl => b198_eq h hs l hl nx)]
  unfold syllogistref_LeakIn_k20
  refine while_rec (fun j => (matI n (TT m hd U A j), ((j + 1 : Nat) : Int))) (n * n) _ (fun j nx hj => ?_) (fun nx => ?_) (by omega) rfl
  · unfold syllogistref_LeakIn_b50
    dsimp only
    rw [decide_eq_true (by omega), cond_true, decide_eq_true (by omega), cond_true, decide_eq_true (by omega), cond_true, hn, Int.toNat_natCast]
    rw [for_tab (n := n) (fun s => tab n fun p => TT m hd U A (j + 1) s p) rfl (fun s l nx hs hl => b76_eq h j hs l hl nx)]
    unfold syllogistref_LeakIn_k70
    rw [w64_succ (by omega)]
    rfl
  · unfold syllogistref_LeakIn_b50 syllogistref_LeakIn_k48
    dsimp only
    rw [decide_eq_false (by omega), cond_false]

/-! ### The first act by which it is one nearer -/
theorem for_hit {σ R : Type} {body : Int → σ → (σ → Option R) → Option R} {k : σ → Option R} {r : Option R} {b : Int} {n j0 : Nat} (hb : b = n) (hj0 : j0 < n) {s : σ} (hno : ∀ (j : Nat) nx, j < j0 → body (j : Int) s nx = nx s) (hr : ∀ nx, body (j0 : Int) s nx = r) : forK body k (b - 0).toNat 0 s = r :=
  for0_eq (fun j s' => s' = s ∧ j ≤ j0) hb s ⟨rfl, Nat.zero_le _⟩ (fun j s' nx hj hI hn => by
    obtain ⟨rfl, hle⟩ := hI
    by_cases e : j = j0
    · subst e; exact hr nx
    · rw [hno j nx (by omega)]; exact hn _ ⟨rfl, by omega⟩) (fun s' hI => by have := hI.2; omega)
theorem step_eq (h : OkV m n U A) {K : Nat} (hK : K ≤ 100) {q : Pr} (hq : inn n q) {c : Nat × Nat} (hc : c.1 < U ∧ c.2 < A) (hit : TT m hd U A K (dl m hd q c).1 (dl m hd q c).2 = TT m hd U A K q.1 q.2 - 1)
    (hno : ∀ l : Nat × Nat, l.1 < U → l.2 < A → ix A l < ix A c → TT m hd U A K (dl m hd q l).1 (dl m hd q l).2 ≠ TT m hd U A K q.1 q.2 - 1) (w : List Act) (hw : w.length ≤ 1000) :
    syllogistref_step m hd (matI n (TT m hd U A K)) (q.1 : Int) (q.2 : Int) w = some ((((dl m hd q c).1 : Nat) : Int), (((dl m hd q c).2 : Nat) : Int), w ++ [{ user := (c.1 : Int), act := (c.2 : Int) }]) := by
  have hu3 := h.u3
  have ha2 := h.a2
  have heu := h.eu
  have hea := h.ea
  have hb := TT_bnd (hd := hd) h K q hq
  have key : ∀ (u a : Nat) (nx : List Act → Option (Int × Int × List Act)), u < U → a < A → syllogistref_step_b30 m hd (matI n (TT m hd U A K)) (q.1 : Int) (q.2 : Int) u a w nx =
      bif (TT m hd U A K (dl m hd q (u, a)).1 (dl m hd q (u, a)).2 == TT m hd U A K q.1 q.2 - 1) then some ((((dl m hd q (u, a)).1 : Nat) : Int), (((dl m hd q (u, a)).2 : Nat) : Int), w ++ [{ user := (u : Int), act := (a : Int) }]) else nx w := by
    intro u a nx hu ha
    have hin := dl_in (hd := hd) h hq (u, a)
    have key : syllogistref_step_k36 m (matI n (TT m hd U A K)) (q.1 : Int) (q.2 : Int) u a w nx (((dl m hd q (u, a)).2 : Nat) : Int) =
      bif (TT m hd U A K (dl m hd q (u, a)).1 (dl m hd q (u, a)).2 == TT m hd U A K q.1 q.2 - 1) then some ((((dl m hd q (u, a)).1 : Nat) : Int), (((dl m hd q (u, a)).2 : Nat) : Int), w ++ [{ user := (u : Int), act := (a : Int) }]) else nx w := by
      unfold syllogistref_step_k36
      have e1 : geti (matI n (TT m hd U A K)) ((nxN m q.1 u a : Nat) : Int) = some (tab n fun p => TT m hd U A K (nxN m q.1 u a) p) := matI_row hin.1
      have e2 : geti (tab n fun p => TT m hd U A K (nxN m q.1 u a) p) (((dl m hd q (u, a)).2 : Nat) : Int) = some (TT m hd U A K (nxN m q.1 u a) (dl m hd q (u, a)).2) := tab_geti hin.2
      have e3 : geti (matI n (TT m hd U A K)) ((q.1 : Nat) : Int) = some (tab n fun p => TT m hd U A K q.1 p) := matI_row hq.1
      have e4 : geti (tab n fun p => TT m hd U A K q.1 p) ((q.2 : Nat) : Int) = some (TT m hd U A K q.1 q.2) := tab_geti hq.2
      simp only [h.nx1 hq.1, h.nx2 hq.1 hu, h.nx3 hq.1 hu ha, e1, e2, e3, e4, Option.bind_some]
      rw [w64_id (n := TT m hd U A K q.1 q.2 - 1) (by omega) (by omega), decide_eq_true (by simp only [List.length_cons, List.length_nil]; omega), cond_true]
      rfl
    unfold syllogistref_step_b30
    rw [bit_eq hd (by omega), Option.bind_some]
    cases hb : hd.getLsbD u with
    | true =>
      have : (dl m hd q (u, a)).2 = q.2 := by unfold dl; rw [hb]; rfl
      rw [this] at key ⊢
      exact key
    | false =>
      have : (dl m hd q (u, a)).2 = nxN m q.2 u a := by unfold dl; rw [hb]; rfl
      rw [this] at key ⊢
      rw [Bool.not_false, cond_true, h.nx1 hq.2, Option.bind_some, h.nx2 hq.2 hu, Option.bind_some, h.nx3 hq.2 hu ha, Option.bind_some]
      exact key
  have miss : ∀ (u a : Nat) (nx : List Act → Option (Int × Int × List Act)), u < U → a < A → ix A (u, a) < ix A c → syllogistref_step_b30 m hd (matI n (TT m hd U A K)) (q.1 : Int) (q.2 : Int) u a w nx = nx w := by
    intro u a nx hu ha hlt
    rw [key u a nx hu ha, beq_eq_false_iff_ne.2 (hno (u, a) hu ha hlt), cond_false]
  obtain ⟨cu, ca⟩ := c
  obtain ⟨hcu, hca⟩ := hc
  simp only at hcu hca
  unfold syllogistref_step
  rw [decide_eq_true (by omega), cond_true]
  refine for_hit (n := U) (j0 := cu) heu hcu (fun u nx hu => ?_) (fun nx => ?_)
  · unfold syllogistref_step_b15
    rw [decide_eq_true (by omega), cond_true]
    rw [for_rec (s := w) (n := A) (fun _ => w) hea rfl (fun a nx' ha => miss u a nx' (by omega) ha (by
      unfold ix
      have : (u + 1) * A ≤ cu * A := Nat.mul_le_mul_right A hu
      rw [Nat.add_mul] at this
      simp only; omega))]
    rfl
  · unfold syllogistref_step_b15
    rw [decide_eq_true (by omega), cond_true]
    refine for_hit (n := A) (j0 := ca) hea hca (fun a nx' ha => miss cu a nx' hcu (by omega) (by unfold ix; simp only; omega)) (fun nx' => ?_)
    rw [key cu ca nx' hcu hca, hit, beq_self_eq_true, cond_true]

theorem near_eq (h : OkV m n U A) {K : Nat} {V : Wo} (hV : okL U A V) (hg : leak m hd U (en m hd (0, 0) V) = true) (hVK : V.length ≤ K) (hmin : ∀ w, okL U A w → leak m hd U (en m hd (0, 0) w) = true → code U A V ≤ code U A w) (j : Nat) (hj : j ≤ V.length) :
    TT m hd U A K (en m hd (0, 0) (V.take j)).1 (en m hd (0, 0) (V.take j)).2 = ((V.length - j : Nat) : Int) := by
  have h0 : inn n ((0, 0) : Pr) := ⟨by have := h.n1; simp only; omega, by have := h.n1; simp only; omega⟩
  have hok1 : okL U A (V.take j) := fun l hl => hV l (List.mem_of_mem_take hl)
  have hok2 : okL U A (V.drop j) := fun l hl => hV l (List.mem_of_mem_drop hl)
  have hG : Gk m hd U A (V.length - j) (en m hd (0, 0) (V.take j)) := ⟨V.drop j, hok2, by rw [List.length_drop]; exact Nat.le_refl _, by rw [← en_app, List.take_append_drop]; exact hg⟩
  have hN : ∀ i, i < V.length - j → ¬Gk m hd U A i (en m hd (0, 0) (V.take j)) := by
    rintro i hi ⟨w, h1, h2, h3⟩
    have hokz : okL U A (V.take j ++ w) := fun l hl => by
      rcases List.mem_append.1 hl with hl | hl
      · exact hok1 l hl
      · exact h1 l hl
    have := hmin (V.take j ++ w) hokz (by rw [en_app]; exact h3)
    have := code_len (w' := V) hokz (by rw [List.length_append, List.length_take]; omega)
    omega
  rcases TT_spec (hd := hd) h K _ (en_in (hd := hd) h h0 (V.take j)) with ⟨_, h2⟩ | ⟨d, h1, h2, h3, h4⟩
  · exact absurd (hG.mono (by omega)) h2
  · rw [h2]
    have h5 : ¬ d < V.length - j := fun hlt => hN d hlt h3
    have h6 : ¬ V.length - j < d := fun hlt => h4 _ hlt hG
    omega

theorem ref_run (h : OkV m n U A) {K : Nat} (hK : K ≤ 100) {V : Wo} (hV : okL U A V) (hg : leak m hd U (en m hd (0, 0) V) = true) (hVK : V.length ≤ K) (hmin : ∀ w, okL U A w → leak m hd U (en m hd (0, 0) w) = true → code U A V ≤ code U A w) {fuel : Nat} (hf : 100 < fuel) :
    whileK (σ := Int × Int × (List Act)) (fun s nx_ => syllogistref_Leak_b28 m hd (matI n (TT m hd U A K)) s.1 s.2.1 s.2.2 nx_) fuel (((0 : Int)), ((0 : Int)), (([] : List Act))) = some (cW V, true) := by
  have h0 : inn n ((0, 0) : Pr) := ⟨by have := h.n1; simp only; omega, by have := h.n1; simp only; omega⟩
  have hgeti : ∀ j, geti (matI n (TT m hd U A K)) (((en m hd (0, 0) (V.take j)).1 : Nat) : Int) = some (tab n fun p => TT m hd U A K (en m hd (0, 0) (V.take j)).1 p) := fun j => matI_row (en_in (hd := hd) h h0 _).1
  have hgeti2 : ∀ j, geti (tab n fun p => TT m hd U A K (en m hd (0, 0) (V.take j)).1 p) (((en m hd (0, 0) (V.take j)).2 : Nat) : Int) = some (TT m hd U A K (en m hd (0, 0) (V.take j)).1 (en m hd (0, 0) (V.take j)).2) := fun j => tab_geti (en_in (hd := hd) h h0 _).2
  refine while_rec (fun j => ((((en m hd (0, 0) (V.take j)).1 : Nat) : Int), (((en m hd (0, 0) (V.take j)).2 : Nat) : Int), cW (V.take j))) V.length _ (fun j nx hj => ?_) (fun nx => ?_) (by omega) rfl
  · unfold syllogistref_Leak_b28
    dsimp only
    rw [hgeti, Option.bind_some, hgeti2, Option.bind_some, near_eq h hV hg hVK hmin j (by omega), decide_eq_true (by omega), cond_true]
    have hq := en_in (hd := hd) h h0 (V.take j)
    have hc := hV V[j] (List.getElem_mem hj)
    have hnext : en m hd (0, 0) (V.take (j + 1)) = dl m hd (en m hd (0, 0) (V.take j)) V[j] := by
      rw [← List.take_append_getElem hj, en_snoc]
    have hn0 := near_eq h hV hg hVK hmin j (by omega)
    have hn1 := near_eq h hV hg hVK hmin (j + 1) (by omega)
    rw [hnext] at hn1
    have hst := step_eq (hd := hd) h hK hq hc (by rw [hn1, hn0]; omega) (fun l hl1 hl2 hlt heq => by
      rw [hn0] at heq
      rcases TT_spec (hd := hd) h K _ (dl_in (hd := hd) h hq l) with ⟨h1, _⟩ | ⟨d, h1, h2, h3, _⟩
      · omega
      · obtain ⟨w, w1, w2, w3⟩ := h3
        have hd' : d = V.length - j - 1 := by omega
        have hokz : okL U A (V.take j ++ l :: w) := fun x hx => by
          rcases List.mem_append.1 hx with hx | hx
          · exact hV x (List.mem_of_mem_take hx)
          · rcases List.mem_cons.1 hx with rfl | hx
            · exact ⟨hl1, hl2⟩
            · exact w1 x hx
        have hgz : leak m hd U (en m hd (0, 0) (V.take j ++ l :: w)) = true := by rw [en_app]; exact w3
        have hmz := hmin _ hokz hgz
        have hlz : (V.take j ++ l :: w).length = j + 1 + w.length := by
          rw [List.length_append, List.length_take, List.length_cons]; omega
        by_cases e : w.length = V.length - j - 1
        · have hVs : V = V.take j ++ V[j] :: V.drop (j + 1) := by
            rw [← List.drop_eq_getElem_cons hj, List.take_append_drop]
          have := code_first (U := U) (A := A) (P := V.take j) (w := w) (v := V.drop (j + 1)) (l := l) (c := V[j]) w1 (by rw [List.length_drop]; omega) hlt
          rw [← hVs] at this
          omega
        · have := code_len (w' := V) hokz (by omega)
          omega) (cW (V.take j)) (by rw [cW_len, List.length_take]; omega)
    change (syllogistref_step m hd _ _ _ _).bind _ = _
    have ecw : cW (V.take (j + 1)) = cW (V.take j) ++ [{ user := (V[j].1 : Int), act := (V[j].2 : Int) }] := by
      rw [← List.take_append_getElem hj]
      unfold cW
      rw [List.map_append]; rfl
    rw [hst, Option.bind_some, hnext, ecw]
  · unfold syllogistref_Leak_b28 syllogistref_Leak_k26
    dsimp only
    rw [hgeti, Option.bind_some, hgeti2, Option.bind_some, near_eq h hV hg hVK hmin V.length (Nat.le_refl _), decide_eq_false (by omega), cond_false, List.take_length]

theorem acts_rf (a : List Act) : syllogistref_Acts a a = some true := by
  unfold syllogistref_Acts
  rw [show ((a.length : Int) != (a.length : Int)) = false from bne_self_eq_false _, cond_false]
  rw [for_rec (s := ()) (n := a.length) (fun _ => ()) rfl rfl (fun j nx hj => by
    unfold syllogistref_Acts_b7
    rw [geti_at hj, Option.bind_some, Option.bind_some]
    simp)]
  rfl
end

theorem viewLeaks_true (fuel : Nat) (m : Machine) (hd : BitVec 32) (hf : 100 < fuel := by decide) : syllogistlaw_ViewLeaks fuel m hd = some true := by
  unfold syllogistlaw_ViewLeaks
  obtain ⟨e1, e2⟩ := wrong_eq m hd
  have e2' : syllogistlaw_hiddenCode { n := m.n, users := m.users, acts := m.acts, next := m.next, sees := m.sees } hd = _ := e2
  rw [e2']
  generalize hcode : (bif vchk m != 0 then vchk m else bif decide (hd < 1#32 <<< m.users.toNat) then 0 else 4) = cd at e1
  change (view_Leak fuel m hd).bind _ = _
  have e1' : view_wrong { n := m.n, users := m.users, acts := m.acts, next := m.next, sees := m.sees } hd = some cd := e1
  by_cases hz : cd = 0
  · subst hz
    have hc : vchk m = 0 := by
      apply Classical.byContradiction
      intro hne
      have h3 : (vchk m != 0) = true := by simpa using hne
      rw [h3] at hcode; exact hne hcode
    obtain ⟨n, U, A, h⟩ := vchk_okV hc
    have hnn : n * n ≤ 6 * 6 := Nat.mul_le_mul h.n6 h.n6
    have hn := h.en
    have hl : Res m hd n U A (view_Leak fuel m hd) := by
      unfold view_Leak
      rw [e1', Option.bind_some]
      simp only [bne_self_eq_false, cond_false]
      exact leak_run h hf
    have hT : syllogistref_LeakIn fuel { n := m.n, users := m.users, acts := m.acts, next := m.next, sees := m.sees } hd (w64 (m.n * m.n)) = some (matI n (TT m hd U A (n * n))) := by
      have : w64 (m.n * m.n) = ((n * n : Nat) : Int) := by
        rw [hn, ← Int.natCast_mul]
        exact w64_id (by omega) (by omega)
      rw [this]
      exact leakIn_eq h hf
    have h0 : inn n ((0, 0) : Pr) := ⟨by have := h.n1; simp only; omega, by have := h.n1; simp only; omega⟩
    have g1 : geti (matI n (TT m hd U A (n * n))) (0 : Int) = some (tab n fun p => TT m hd U A (n * n) 0 p) := matI_row (s := 0) h0.1
    have g2 : geti (tab n fun p => TT m hd U A (n * n) 0 p) (0 : Int) = some (TT m hd U A (n * n) 0 0) := tab_geti (j := 0) h0.2
    have hr : ∀ o, syllogistref_Leak fuel m hd = o → syllogistref_Leak fuel { n := m.n, users := m.users, acts := m.acts, next := m.next, sees := m.sees } hd = o := fun _ h => h
    rcases hl with ⟨V, hV, hg, hVK, hmin, he⟩ | ⟨hno, he⟩
    · have href : syllogistref_Leak fuel m hd = some (cW V, true) := by
        unfold syllogistref_Leak
        rw [hT, Option.bind_some, g1, Option.bind_some, g2, Option.bind_some]
        have hn0 := near_eq h hV hg hVK hmin 0 (by omega)
        have : TT m hd U A (n * n) 0 0 = ((V.length - 0 : Nat) : Int) := hn0
        rw [this, decide_eq_false (by omega), cond_false]
        exact ref_run h (by omega) hV hg hVK hmin hf
      rw [he, Option.bind_some, Option.bind_some, hr _ href]
      simp [acts_rf]
    · have href : syllogistref_Leak fuel m hd = some ([], false) := by
        unfold syllogistref_Leak
        rw [hT, Option.bind_some, g1, Option.bind_some, g2, Option.bind_some]
        rcases TT_spec (hd := hd) h (n * n) (0, 0) h0 with ⟨h1, _⟩ | ⟨d, _, _, ⟨w, w1, _, w3⟩, _⟩
        · have h1' : TT m hd U A (n * n) 0 0 = -1 := h1
          rw [h1', decide_eq_true (by omega), cond_true]
        · rw [hno w w1] at w3; cases w3
      rw [he, Option.bind_some, Option.bind_some, hr _ href]
      rfl
  · have h3 : (cd != 0) = true := by simpa using hz
    have hp : view_Leak fuel m hd = some ([], cd) := by
      unfold view_Leak
      rw [e1', Option.bind_some, h3]
      rfl
    rw [hp, Option.bind_some, Option.bind_some, h3]
    simp
end Go.Proofs.Ytbbenieabpmghaa.Sy
