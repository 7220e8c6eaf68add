/- States that are alike: the plain law; no program in sight. -/
import Derived.Test.YtehfjfaanhdbaaaSyQ
import Derived.Test.YtehfjfaanhdbaaaSyR
import Derived.Test.YtehfjfaanhdbaaaG3
namespace Go.Proofs.Ytehfjfaanhdbaaa.Sy
set_option linter.unusedVariables false

theorem flatten_le {α : Type} {xs : List (List α)} {c : Nat} (h : ∀ x ∈ xs, x.length ≤ c) : xs.flatten.length ≤ xs.length * c := by
  induction xs with
  | nil => simp
  | cons a xs ih =>
    have h1 := h a (by simp)
    have h2 := ih fun x hx => h x (by simp [hx])
    rw [List.flatten_cons, List.length_append, List.length_cons, Nat.add_mul]; omega
theorem flatten_take {α : Type} {xs : List (List α)} {j : Nat} (hj : j < xs.length) : (xs.take (j + 1)).flatten = (xs.take j).flatten ++ xs[j] := by
  rw [List.take_succ_eq_append_getElem hj, List.flatten_append]; simp
theorem flatten_take_le {α : Type} {xs : List (List α)} (j : Nat) : (xs.take j).flatten.length ≤ xs.flatten.length := by
  conv => rhs; rw [← List.take_append_drop j xs]
  rw [List.flatten_append, List.length_append]; omega

theorem concat2 {xs : List (List (List Int))} (h : xs.flatten.length ≤ 1000) : slices_Concat_SSintSint xs = some xs.flatten := by
  unfold slices_Concat_SSintSint
  rw [for_rec (n := xs.length) (fun j => (((xs.take j).flatten.length : Nat) : Int)) rfl (by simp) (fun j nx hj => by
    unfold slices_Concat_SSintSint_b47
    have h1 := flatten_take_le (xs := xs) (j + 1)
    rw [flatten_take hj, List.length_append] at h1
    rw [geti_at hj, Option.bind_some, w64_id (by omega) (by omega), decide_eq_false (by omega), cond_false, flatten_take hj, List.length_append]
    rfl)]
  unfold slices_Concat_SSintSint_k6
  rw [List.take_length]
  have hg : slices_Grow_SSintSint_fnil (xs.flatten.length : Int) = some () := by
    unfold slices_Grow_SSintSint_fnil
    rw [decide_eq_false (by omega), cond_false]
    have e : w64 ((0 : Int) - ((([] : List (List Int))).length : Int)) = 0 := rfl
    rw [e, Int.sub_zero, w64_id (by omega) (by omega)]
    cases hd : decide ((xs.flatten.length : Int) > 0) with
    | false => rfl
    | true =>
      have := of_decide_eq_true hd
      rw [cond_true, decide_eq_true (by omega), cond_true]
  rw [hg, Option.bind_some]
  rw [for_rec (s := ([] : List (List Int))) (n := xs.length) (fun j => (xs.take j).flatten) rfl (by simp) (fun j nx hj => by
    unfold slices_Concat_SSintSint_b32
    have h1 := flatten_take_le (xs := xs) (j + 1)
    rw [flatten_take hj, List.length_append] at h1
    rw [geti_at hj, Option.bind_some, decide_eq_true (by omega), cond_true, flatten_take hj])]
  unfold slices_Concat_SSintSint_k26
  rw [List.take_length]
theorem concat1 {xs : List (List Int)} (h : xs.flatten.length ≤ 1000) : slices_Concat_Sintint xs = some xs.flatten := by
  unfold slices_Concat_Sintint
  rw [for_rec (n := xs.length) (fun j => (((xs.take j).flatten.length : Nat) : Int)) rfl (by simp) (fun j nx hj => by
    unfold slices_Concat_Sintint_b36
    have h1 := flatten_take_le (xs := xs) (j + 1)
    rw [flatten_take hj, List.length_append] at h1
    rw [geti_at hj, Option.bind_some, w64_id (by omega) (by omega), decide_eq_false (by omega), cond_false, flatten_take hj, List.length_append]
    rfl)]
  unfold slices_Concat_Sintint_k6
  rw [List.take_length]
  have hg : slices_Grow_Sintint_fnil (xs.flatten.length : Int) = some () := by
    unfold slices_Grow_Sintint_fnil
    rw [decide_eq_false (by omega), cond_false]
    have e : w64 ((0 : Int) - ((([] : List Int)).length : Int)) = 0 := rfl
    rw [e, Int.sub_zero, w64_id (by omega) (by omega)]
    cases hd : decide ((xs.flatten.length : Int) > 0) with
    | false => rfl
    | true =>
      have := of_decide_eq_true hd
      rw [cond_true, decide_eq_true (by omega), cond_true]
  rw [hg, Option.bind_some]
  rw [for_rec (s := ([] : List Int)) (n := xs.length) (fun j => (xs.take j).flatten) rfl (by simp) (fun j nx hj => by
    unfold slices_Concat_Sintint_b24
    have h1 := flatten_take_le (xs := xs) (j + 1)
    rw [flatten_take hj, List.length_append] at h1
    rw [geti_at hj, Option.bind_some, decide_eq_true (by omega), cond_true, flatten_take hj])]
  unfold slices_Concat_Sintint_k20
  rw [List.take_length]

/-! ### What is wrong with a machine -/
def bigM (m : Machine) : Bool := ((((((decide (m.n < (1 : Int))) || (decide (m.n > (6 : Int)))) || (decide (m.users < (1 : Int)))) || (decide (m.users > (3 : Int)))) || (decide (m.acts < (1 : Int)))) || (decide (m.acts > (2 : Int))))
def lenB (m : Machine) (l : List Int) : Bool := (l.length : Int) != m.acts
def rowB (m : Machine) (s : Nat) : Bool := ((((m.next[s]?.getD []).length : Int) != m.users) || (((m.sees[s]?.getD []).length : Int) != m.users)) || (m.next[s]?.getD []).any (lenB m)
def ofs (m : Machine) (y : Int) : Bool := decide (y < 0) || decide (y ≥ m.n)
def anyO (m : Machine) (l : List Int) : Bool := l.any (ofs m)
def rowO (m : Machine) (r : List (List Int)) : Bool := r.any (anyO m)
def vchk (m : Machine) : Int := bif bigM m then 1 else bif ((m.next.length : Int) != m.n) || ((m.sees.length : Int) != m.n) then 3 else bif anyN m.n.toNat (rowB m) then 3 else bif m.next.any (rowO m) then 2 else 0

theorem cont2 {s : List (List Int)} {f : List Int → Option Bool} {p : List Int → Bool} (h : ∀ a ∈ s, f a = some (p a)) : slices_ContainsFunc_SSintSint s f = some (s.any p) := by
  unfold slices_ContainsFunc_SSintSint slices_IndexFunc_SSintSint slices_IndexFunc_SSintSint_b7 slices_IndexFunc_SSintSint_k3
  exact any_shape s f p h
theorem cont1 {s : List Int} {f : Int → Option Bool} {p : Int → Bool} (h : ∀ a ∈ s, f a = some (p a)) : slices_ContainsFunc_Sintint s f = some (s.any p) := by
  unfold slices_ContainsFunc_Sintint slices_IndexFunc_Sintint slices_IndexFunc_Sintint_b7 slices_IndexFunc_Sintint_k3
  exact any_shape s f p h

theorem shaped_eq {m : Machine} (hb : bigM m = false) (hl : (((m.next.length : Int) != m.n) || ((m.sees.length : Int) != m.n)) = false) : view_shaped m = some (!anyN m.n.toNat (rowB m)) := by
  unfold bigM at hb
  simp only [Bool.or_eq_false_iff, decide_eq_false_iff_not, bne_eq_false_iff_eq] at hb hl
  unfold view_shaped
  rw [show (((m.next.length : Int) != m.n) || ((m.sees.length : Int) != m.n)) = false by simp [hl.1, hl.2], cond_false, decide_eq_true (by omega), cond_true]
  rw [for_out (n := m.n.toNat) (rowB m) (some false) (by omega) (fun s nx hs => by
    unfold view_shaped_b9 rowB
    rw [geti_d [] (by omega), Option.bind_some, geti_d [] (show s < m.sees.length by omega), cont2 (f := fun a => view_shaped_c1 a m) (p := lenB m) (fun a _ => rfl)]
    simp only [Option.isSome_some, Bool.or_true, cond_true, Option.getD_some])]
  unfold view_shaped_k5
  cases anyN m.n.toNat (rowB m) <;> rfl

theorem rowB_spec {m : Machine} (hl : (m.next.length : Int) = m.n) (h : anyN m.n.toNat (rowB m) = false) : ∀ r ∈ m.next, (r.length : Int) = m.users ∧ ∀ l ∈ r, (l.length : Int) = m.acts := by
  intro r hr
  obtain ⟨j, hj, rfl⟩ := List.getElem_of_mem hr
  have := anyN_false.1 h j (by omega)
  unfold rowB at this
  rw [getd_at _ hj] at this
  simp only [Bool.or_eq_false_iff, bne_eq_false_iff_eq, List.any_eq_false, lenB, bne_iff_ne, ne_eq, Decidable.not_not] at this
  exact ⟨this.1.1, this.2⟩

theorem check_prog (m : Machine) : view_Check m = some (vchk m) := by
  unfold view_Check vchk
  rw [show ({ n := m.n, users := m.users, acts := m.acts, next := m.next, sees := m.sees } : Machine) = m from rfl]
  cases hb : bigM m with
  | true => unfold bigM at hb; rw [hb]; rfl
  | false =>
    have hb' := hb
    unfold bigM at hb'
    rw [hb', cond_false, cond_false]
    cases hl : ((m.next.length : Int) != m.n) || ((m.sees.length : Int) != m.n) with
    | true =>
      have : view_shaped m = some false := by unfold view_shaped; rw [hl]; rfl
      rw [this]; rfl
    | false =>
      rw [shaped_eq hb hl, Option.bind_some, cond_false]
      cases hr : anyN m.n.toNat (rowB m) with
      | true => rfl
      | false =>
        simp only [Bool.or_eq_false_iff, decide_eq_false_iff_not, bne_eq_false_iff_eq] at hb' hl
        have hs := rowB_spec hl.1 hr
        have h1 : m.next.flatten.length ≤ 18 := by
          have := flatten_le (xs := m.next) (c := 3) fun x hx => by have := (hs x hx).1; omega
          have : m.next.length ≤ 6 := by omega
          omega
        have h2 : m.next.flatten.flatten.length ≤ 36 := by
          have := flatten_le (xs := m.next.flatten) (c := 2) fun x hx => by
            obtain ⟨r, hr, hx⟩ := List.mem_flatten.1 hx
            have := (hs r hr).2 x hx; omega
          omega
        rw [Bool.not_false, Bool.not_true, cond_false, cond_false, concat2 (by omega), Option.bind_some, concat1 (by omega), Option.bind_some, cont1 (f := fun a => view_Check_c1 a m) (p := ofs m) (fun a _ => rfl), Option.bind_some]
        rw [List.any_flatten, List.any_flatten]
        have e : (m.next.any fun r => r.any fun l => l.any (ofs m)) = m.next.any (rowO m) := rfl
        rw [e]
        cases m.next.any (rowO m) <;> rfl

theorem any_at {α : Type} (s : List α) (p : α → Bool) (d : α) : anyN s.length (fun j => p (s[j]?.getD d)) = s.any p := by
  rw [any_len]
  exact anyN_congr fun j hj => by rw [List.getElem?_eq_getElem hj]; rfl

theorem check_ref (m : Machine) : syllogistref_ViewCheck m = some (vchk m) := by
  unfold syllogistref_ViewCheck vchk
  cases hb : bigM m with
  | true => unfold bigM at hb; rw [hb]; rfl
  | false =>
    have hb' := hb
    unfold bigM at hb'
    rw [hb', cond_false, cond_false]
    cases hl : ((m.next.length : Int) != m.n) || ((m.sees.length : Int) != m.n) with
    | true => rfl
    | false =>
      simp only [Bool.or_eq_false_iff, decide_eq_false_iff_not, bne_eq_false_iff_eq] at hb' hl
      rw [cond_false, cond_false, decide_eq_true (by omega), cond_true]
      rw [for_out (n := m.n.toNat) (rowB m) (some 3) (by omega) (fun s nx hs => by
        unfold syllogistref_ViewCheck_b48
        rw [geti_d [] (by omega), Option.bind_some, geti_d [] (show s < m.sees.length by omega)]
        simp only [Option.isSome_some, Bool.or_true, cond_true, Option.getD_some, Option.bind_some]
        rw [for_out (n := (m.next[s]?.getD []).length) (fun j => lenB m ((m.next[s]?.getD [])[j]?.getD [])) (some 3) rfl (fun j nx' hj => by
          unfold syllogistref_ViewCheck_b71
          rw [geti_d [] hj, Option.bind_some]; rfl), any_at]
        unfold syllogistref_ViewCheck_k67 rowB
        cases (((m.next[s]?.getD []).length : Int) != m.users) || (((m.sees[s]?.getD []).length : Int) != m.users) <;> cases (m.next[s]?.getD []).any (lenB m) <;> rfl)]
      cases hr : anyN m.n.toNat (rowB m) with
      | true => rfl
      | false =>
        rw [cond_false, cond_false]
        unfold syllogistref_ViewCheck_k5
        rw [decide_eq_true (by omega), cond_true]
        rw [for_out (n := m.next.length) (fun s => rowO m (m.next[s]?.getD [])) (some 2) hl.1.symm (fun s nx hs => by
          unfold syllogistref_ViewCheck_b13
          rw [geti_d [] hs, Option.bind_some]
          rw [for_out (n := (m.next[s]?.getD []).length) (fun j => anyO m ((m.next[s]?.getD [])[j]?.getD [])) (some 2) rfl (fun j nx' hj => by
            unfold syllogistref_ViewCheck_b27
            rw [geti_d [] hj, Option.bind_some]
            rw [for_out (n := ((m.next[s]?.getD [])[j]?.getD []).length) (fun i => ofs m (((m.next[s]?.getD [])[j]?.getD [])[i]?.getD 0)) (some 2) rfl (fun i nx'' hi => by
              unfold syllogistref_ViewCheck_b41
              rw [geti_d 0 hi, Option.bind_some]; rfl), any_at]
            rfl), any_at]
          rfl), any_at]
        unfold syllogistref_ViewCheck_k9
        cases m.next.any (rowO m) <;> rfl

/-! ### Where a word leads -/
def badA (m : Machine) (a : Act) : Bool := ((((decide (a.user < (0 : Int))) || (decide (a.user ≥ m.users))) || (decide (a.act < (0 : Int)))) || (decide (a.act ≥ m.acts)))
def dAct : Act := { user := 0, act := 0 }
def to_ (m : Machine) (s : Int) (a : Act) : Int := (((m.next[s.toNat]?.getD [])[a.user.toNat]?.getD [])[a.act.toNat]?.getD 0)
def led (m : Machine) (w : List Act) : Nat → Int
  | 0 => 0
  | j + 1 => to_ m (led m w j) (w[j]?.getD dAct)
structure OkM (m : Machine) : Prop where
  n1 : 1 ≤ m.n
  n6 : m.n ≤ 6
  len : (m.next.length : Int) = m.n
  row : ∀ r ∈ m.next, (r.length : Int) = m.users ∧ ∀ l ∈ r, (l.length : Int) = m.acts
  inr : ∀ r ∈ m.next, ∀ l ∈ r, ∀ y ∈ l, 0 ≤ y ∧ y < m.n
theorem vchk_ok {m : Machine} (h : vchk m = 0) : OkM m := by
  unfold vchk at h
  cases hb : bigM m with
  | true => rw [hb] at h; cases h
  | false =>
    cases hl : ((m.next.length : Int) != m.n) || ((m.sees.length : Int) != m.n) with
    | true => rw [hb, hl] at h; cases h
    | false =>
      cases hr : anyN m.n.toNat (rowB m) with
      | true => rw [hb, hl, hr] at h; cases h
      | false =>
        cases ho : m.next.any (rowO m) with
        | true => rw [hb, hl, hr, ho] at h; cases h
        | false =>
          unfold bigM at hb
          simp only [Bool.or_eq_false_iff, decide_eq_false_iff_not, bne_eq_false_iff_eq] at hb hl
          refine ⟨by omega, by omega, hl.1, rowB_spec hl.1 hr, fun r hr l hl' y hy => ?_⟩
          have h1 := List.any_eq_false.1 ho r hr
          unfold rowO at h1
          rw [Bool.not_eq_true] at h1
          have h2 := List.any_eq_false.1 h1 l hl'
          unfold anyO at h2
          rw [Bool.not_eq_true] at h2
          have h3 := List.any_eq_false.1 h2 y hy
          unfold ofs at h3
          rw [Bool.not_eq_true, Bool.or_eq_false_iff, decide_eq_false_iff_not, decide_eq_false_iff_not] at h3
          omega
theorem getD_in {α : Type} {l : List α} {i : Nat} {d : α} : l[i]?.getD d = d ∨ l[i]?.getD d ∈ l := by
  cases h : l[i]? with
  | none => exact .inl rfl
  | some y => exact .inr (get_mem h)
theorem to_in {m : Machine} (h : OkM m) (s : Int) (a : Act) : 0 ≤ to_ m s a ∧ to_ m s a < m.n := by
  have h1 := h.n1
  have h0 : (0 : Int) ≤ 0 ∧ (0 : Int) < m.n := ⟨by omega, by omega⟩
  unfold to_
  rcases getD_in (l := (m.next[s.toNat]?.getD [])[a.user.toNat]?.getD []) (i := a.act.toNat) (d := (0 : Int)) with e | hy
  · rw [e]; exact h0
  · rcases getD_in (l := m.next[s.toNat]?.getD []) (i := a.user.toNat) (d := ([] : List Int)) with e | hl
    · rw [e] at hy; simp at hy
    · rcases getD_in (l := m.next) (i := s.toNat) (d := ([] : List (List Int))) with e | hr
      · rw [e] at hl; simp at hl
      · exact h.inr _ hr _ hl _ hy

/-! ### States that are alike -/
structure OkV (m : Machine) (n U A : Nat) : Prop where
  en : m.n = n
  eu : m.users = U
  ea : m.acts = A
  n1 : 1 ≤ n
  n6 : n ≤ 6
  u3 : U ≤ 3
  a2 : A ≤ 2
  ok : OkM m
  sl : m.sees.length = n
  sr : ∀ r ∈ m.sees, r.length = U
theorem vchk_okV {m : Machine} (h : vchk m = 0) : ∃ n U A, OkV m n U A := by
  have ok := vchk_ok h
  unfold vchk at h
  cases hb : bigM m with
  | true => rw [hb] at h; cases h
  | false =>
    cases hl : ((m.next.length : Int) != m.n) || ((m.sees.length : Int) != m.n) with
    | true => rw [hb, hl] at h; cases h
    | false =>
      cases hr : anyN m.n.toNat (rowB m) with
      | true => rw [hb, hl, hr] at h; cases h
      | false =>
        unfold bigM at hb
        simp only [Bool.or_eq_false_iff, decide_eq_false_iff_not, bne_eq_false_iff_eq] at hb hl
        refine ⟨m.n.toNat, m.users.toNat, m.acts.toNat, by omega, by omega, by omega, by omega, by omega, by omega, by omega, ok, by omega, fun r hr' => ?_⟩
        obtain ⟨i, hi, rfl⟩ := List.getElem_of_mem hr'
        have := anyN_false.1 hr i (by omega)
        unfold rowB at this
        simp only [Bool.or_eq_false_iff, bne_eq_false_iff_eq] at this
        rw [getd_at [] hi] at this
        omega
def nxN (m : Machine) (s u a : Nat) : Nat := (to_ m s { user := u, act := a }).toNat
def svN (m : Machine) (s u : Nat) : Int := (m.sees[s]?.getD [])[u]?.getD 0
def samN (m : Machine) (hd : BitVec 32) (U s t : Nat) : Bool := allN U fun u => hd.getLsbD u || svN m s u == svN m t u
def stp (m : Machine) (hd : BitVec 32) (U A : Nat) (R : Nat → Nat → Bool) (s t : Nat) : Bool := allN U fun u => allN A fun a => hd.getLsbD u || R (nxN m s u a) (nxN m t u a)
def Rk (m : Machine) (hd : BitVec 32) (U A : Nat) : Nat → Nat → Nat → Bool
  | 0, _, _ => true
  | k + 1, s, t => (Rk m hd U A k s t && samN m hd U s t) && stp m hd U A (Rk m hd U A k) s t
section
variable {m : Machine} {n U A : Nat} {hd : BitVec 32}
theorem OkV.see1 (h : OkV m n U A) {s : Nat} (hs : s < n) : geti m.sees (s : Int) = some (m.sees[s]?.getD []) := geti_d [] (by have := h.sl; omega)
theorem OkV.see2 (h : OkV m n U A) {s u : Nat} (hs : s < n) (hu : u < U) : geti (m.sees[s]?.getD []) (u : Int) = some (svN m s u) := by
  have hl : s < m.sees.length := by have := h.sl; omega
  unfold svN
  rw [getd_at [] hl]
  exact geti_d 0 (by rw [h.sr _ (List.getElem_mem hl)]; exact hu)
theorem OkV.nx1 (h : OkV m n U A) {s : Nat} (hs : s < n) : geti m.next (s : Int) = some (m.next[s]?.getD []) := geti_d [] (by have := h.ok.len; have := h.en; omega)
theorem OkV.nx2 (h : OkV m n U A) {s u : Nat} (hs : s < n) (hu : u < U) : geti (m.next[s]?.getD []) (u : Int) = some ((m.next[s]?.getD [])[u]?.getD []) := by
  have hl : s < m.next.length := by have := h.ok.len; have := h.en; omega
  refine geti_d [] ?_
  rw [getd_at [] hl]
  have := (h.ok.row _ (List.getElem_mem hl)).1
  have := h.eu
  omega
theorem OkV.nxlt (h : OkV m n U A) (s u a : Nat) : nxN m s u a < n := by
  have := to_in h.ok (s : Int) { user := u, act := a }
  have := h.en
  unfold nxN; omega
theorem OkV.nx3 (h : OkV m n U A) {s u a : Nat} (hs : s < n) (hu : u < U) (ha : a < A) : geti ((m.next[s]?.getD [])[u]?.getD []) (a : Int) = some ((nxN m s u a : Nat) : Int) := by
  have hl : s < m.next.length := by have := h.ok.len; have := h.en; omega
  have hr := h.ok.row _ (List.getElem_mem hl)
  have hu' : u < m.next[s].length := by have := h.eu; omega
  have hla := hr.2 _ (List.getElem_mem hu')
  have e : ((nxN m s u a : Nat) : Int) = to_ m s { user := u, act := a } := by
    have := to_in h.ok (s : Int) { user := u, act := a }
    unfold nxN; omega
  rw [e]
  have : ((m.next[s]?.getD [])[u]?.getD []).length = A := by
    rw [getd_at [] hl, getd_at [] hu']
    have := h.ea; omega
  exact geti_d 0 (by omega)
theorem allN_any {n : Nat} {p : Nat → Bool} : allN n p = !anyN n (fun j => !p j) := by
  rw [Bool.eq_iff_iff, allN_iff, Bool.not_eq_true', anyN_false]
  simp

theorem same_eq (h : OkV m n U A) {s t : Nat} (hs : s < n) (ht : t < n) : view_same m hd s t = some (samN m hd U s t) := by
  unfold view_same
  rw [decide_eq_true (by have := h.eu; have := h.u3; omega), cond_true]
  rw [for_out (n := U) (fun u => !(hd.getLsbD u || svN m s u == svN m t u)) (some false) h.eu (fun u nx hu => by
    unfold view_same_b9
    simp only [h.see1 hs, h.see1 ht, h.see2 hs hu, h.see2 ht hu, Option.getD_some, Option.isSome_some, Bool.or_true, cond_true, Int.toNat_natCast, bit_shr1]
    rw [bne, Bool.not_or])]
  unfold samN view_same_k5
  rw [allN_any]
  cases anyN U (fun j => !(hd.getLsbD j || svN m s j == svN m t j)) <;> rfl
theorem bit_eq (w : BitVec 32) {j : Nat} (hj : j < 32) : syllogistref_Bit w j = some (w.getLsbD j) := by
  unfold syllogistref_Bit
  rw [bit_shape w j hj]
theorem sees_eq (h : OkV m n U A) {s t : Nat} (hs : s < n) (ht : t < n) : syllogistref_Sees m hd s t = some (samN m hd U s t) := by
  unfold syllogistref_Sees
  have := h.u3
  rw [decide_eq_true (by have := h.eu; omega), cond_true]
  rw [for_out (n := U) (fun u => !(hd.getLsbD u || svN m s u == svN m t u)) (some false) h.eu (fun u nx hu => by
    unfold syllogistref_Sees_b9
    rw [bit_eq hd (by omega), Option.bind_some]
    simp only [h.see1 hs, h.see1 ht, h.see2 hs hu, h.see2 ht hu, Option.getD_some, Option.isSome_some, Bool.or_true, cond_true]
    rw [bne, Bool.not_or])]
  unfold samN syllogistref_Sees_k5
  rw [allN_any]
  cases anyN U (fun j => !(hd.getLsbD j || svN m s j == svN m t j)) <;> rfl

/-! ### The least one that is alike -/
structure Eqv (R : Nat → Nat → Bool) : Prop where
  rf : ∀ s, R s s = true
  sy : ∀ s t, R s t = true → R t s = true
  tr : ∀ s t v, R s t = true → R t v = true → R s v = true
theorem sam_eqv : Eqv (samN m hd U) := by
  constructor
  · intro s; unfold samN; rw [allN_iff]; intro u _; simp
  · intro s t; unfold samN; rw [allN_iff, allN_iff]; intro h u hu
    have := h u hu
    rw [Bool.or_eq_true, beq_iff_eq] at this ⊢
    rcases this with e | e
    · exact .inl e
    · exact .inr e.symm
  · intro s t v; unfold samN; rw [allN_iff, allN_iff, allN_iff]; intro h k u hu
    have h1 := h u hu
    have h2 := k u hu
    rw [Bool.or_eq_true, beq_iff_eq] at h1 h2 ⊢
    rcases h1 with e | e
    · exact .inl e
    · rcases h2 with e2 | e2
      · exact .inl e2
      · exact .inr (e.trans e2)
theorem stp_iff {R : Nat → Nat → Bool} {s t : Nat} : stp m hd U A R s t = true ↔ ∀ u, u < U → ∀ a, a < A → hd.getLsbD u = true ∨ R (nxN m s u a) (nxN m t u a) = true := by
  unfold stp
  rw [allN_iff]
  constructor
  · intro h u hu a ha
    have := allN_iff.1 (h u hu) a ha
    rwa [Bool.or_eq_true] at this
  · intro h u hu
    exact allN_iff.2 fun a ha => by rw [Bool.or_eq_true]; exact h u hu a ha
theorem stp_eqv {R : Nat → Nat → Bool} (h : Eqv R) : Eqv (stp m hd U A R) := by
  refine ⟨fun s => ?_, fun s t => ?_, fun s t v => ?_⟩
  · rw [stp_iff]; exact fun u _ a _ => .inr (h.rf _)
  · rw [stp_iff, stp_iff]; exact fun k u hu a ha => (k u hu a ha).imp id (h.sy _ _)
  · rw [stp_iff, stp_iff, stp_iff]
    intro k l u hu a ha
    rcases k u hu a ha with e | e
    · exact .inl e
    · rcases l u hu a ha with e2 | e2
      · exact .inl e2
      · exact .inr (h.tr _ _ _ e e2)
theorem Eqv.and {R S : Nat → Nat → Bool} (h : Eqv R) (k : Eqv S) : Eqv fun s t => R s t && S s t := by
  refine ⟨fun s => ?_, fun s t => ?_, fun s t v => ?_⟩
  · rw [h.rf, k.rf]; rfl
  · rw [Bool.and_eq_true, Bool.and_eq_true]; exact fun ⟨a, b⟩ => ⟨h.sy _ _ a, k.sy _ _ b⟩
  · rw [Bool.and_eq_true, Bool.and_eq_true, Bool.and_eq_true]; exact fun ⟨a, b⟩ ⟨c, d⟩ => ⟨h.tr _ _ _ a c, k.tr _ _ _ b d⟩
theorem rk_eqv (k : Nat) : Eqv (Rk m hd U A k) := by
  induction k with
  | zero => exact ⟨fun _ => rfl, fun _ _ _ => rfl, fun _ _ _ _ _ => rfl⟩
  | succ k ih => exact (ih.and sam_eqv).and (stp_eqv ih)
def lowN (R : Nat → Nat → Bool) (s : Nat) : Nat → Nat
  | 0 => s
  | j + 1 => bif R s (s - 1 - j) then s - 1 - j else lowN R s j
def rep (R : Nat → Nat → Bool) (s : Nat) : Nat := lowN R s s
theorem low_spec {R : Nat → Nat → Bool} {s : Nat} (hr : R s s = true) : ∀ j, j ≤ s → s - j ≤ lowN R s j ∧ lowN R s j ≤ s ∧ R s (lowN R s j) = true ∧ ∀ t, s - j ≤ t → t < lowN R s j → R s t = false := by
  intro j
  induction j with
  | zero => exact fun _ => ⟨Nat.le_refl _, Nat.le_refl _, hr, fun t h1 h2 => by simp only [lowN] at h2; omega⟩
  | succ j ih =>
    intro hj
    obtain ⟨h1, h2, h3, h4⟩ := ih (by omega)
    unfold lowN
    cases hb : R s (s - 1 - j) with
    | true => simp only [cond_true]; exact ⟨by omega, by omega, hb, fun t h5 h6 => by omega⟩
    | false =>
      simp only [cond_false]
      refine ⟨by omega, h2, h3, fun t h5 h6 => ?_⟩
      by_cases e : t = s - 1 - j
      · rw [e]; exact hb
      · exact h4 t (by omega) h6
theorem rep_spec {R : Nat → Nat → Bool} (h : Eqv R) (s : Nat) : rep R s ≤ s ∧ R s (rep R s) = true ∧ ∀ t, t < rep R s → R s t = false := by
  obtain ⟨_, h2, h3, h4⟩ := low_spec (h.rf s) s (Nat.le_refl _)
  exact ⟨h2, h3, fun t ht => h4 t (by omega) ht⟩
theorem rep_eq {R : Nat → Nat → Bool} (h : Eqv R) (s t : Nat) : (((rep R s : Nat) : Int) == ((rep R t : Nat) : Int)) = R s t := by
  obtain ⟨_, a2, a3⟩ := rep_spec h s
  obtain ⟨_, b2, b3⟩ := rep_spec h t
  rw [Bool.eq_iff_iff, beq_iff_eq]
  constructor
  · intro e
    have e' : rep R s = rep R t := by omega
    rw [e'] at a2
    exact h.tr _ _ _ a2 (h.sy _ _ b2)
  · intro e
    have h1 : ¬ rep R s < rep R t := fun hlt => by
      have := b3 _ hlt
      rw [h.tr _ _ _ (h.sy _ _ e) a2] at this; cases this
    have h2 : ¬ rep R t < rep R s := fun hlt => by
      have := a3 _ hlt
      rw [h.tr _ _ _ e b2] at this; cases this
    omega
def prt (n : Nat) (R : Nat → Nat → Bool) : List Int := tab n fun s => ((rep R s : Nat) : Int)
theorem prt_eq {n : Nat} {R S : Nat → Nat → Bool} (h : Eqv R) (k : Eqv S) : prt n R = prt n S ↔ ∀ s t, s < n → t < n → R s t = S s t := by
  constructor
  · intro e s t hs ht
    have e1 := congrArg (fun l : List Int => l[s]?) e
    have e2 := congrArg (fun l : List Int => l[t]?) e
    simp only [prt] at e1 e2
    rw [tab_get hs, tab_get hs] at e1
    rw [tab_get ht, tab_get ht] at e2
    rw [← rep_eq h, ← rep_eq k, Option.some.inj e1, Option.some.inj e2]
  · intro e
    refine tab_congr fun s hs => ?_
    obtain ⟨a1, a2, a3⟩ := rep_spec h s
    obtain ⟨b1, b2, b3⟩ := rep_spec k s
    have h1 : ¬ rep R s < rep S s := fun hlt => by
      have := b3 _ hlt
      rw [← e s _ hs (by omega), a2] at this; cases this
    have h2 : ¬ rep S s < rep R s := fun hlt => by
      have := a3 _ hlt
      rw [e s _ hs (by omega), b2] at this; cases this
    omega

/-! ### The program's rounds -/
theorem b94_eq (h : OkV m n U A) {R : Nat → Nat → Bool} (hR : Eqv R) {s t u a : Nat} (hs : s < n) (ht : t < n) (hu : u < U) (ha : a < A) (al : Bool) (nx : Bool → Option (List Int × Int)) :
    view_Parts_b94 m hd (prt n R) s t u a al nx = nx (al && (hd.getLsbD u || R (nxN m s u a) (nxN m t u a))) := by
  unfold view_Parts_b94 prt
  simp only [h.nx1 hs, h.nx1 ht, h.nx2 hs hu, h.nx2 ht hu, h.nx3 hs hu ha, h.nx3 ht hu ha, tab_geti (h.nxlt s u a), tab_geti (h.nxlt t u a), Option.getD_some, Option.isSome_some, Bool.or_true, cond_true, Int.toNat_natCast, bit_shr, rep_eq hR]
theorem b82_eq (h : OkV m n U A) {R : Nat → Nat → Bool} (hR : Eqv R) {s t u : Nat} (hs : s < n) (ht : t < n) (hu : u < U) (al : Bool) (nx : Bool → Option (List Int × Int)) :
    view_Parts_b82 m hd (prt n R) s t u al nx = nx (al && allN A fun a => hd.getLsbD u || R (nxN m s u a) (nxN m t u a)) := by
  unfold view_Parts_b82
  have := h.a2
  rw [decide_eq_true (by have := h.ea; omega), cond_true, for_all (n := A) (fun a => hd.getLsbD u || R (nxN m s u a) (nxN m t u a)) h.ea (fun a b nx' ha => b94_eq h hR hs ht hu ha b nx')]
  rfl
theorem b63_eq (h : OkV m n U A) {R : Nat → Nat → Bool} (hR : Eqv R) {s t : Nat} (hs : s < n) (ht : t < s) (nx0 : List Int → Option (List Int × Int)) (l : List Int) (hl : l.length = n) (nx : Int × List Int → Option (List Int × Int)) :
    view_Parts_b63 m hd (prt n R) s nx0 t l nx = nx ((t : Int) - 1, bif (R s t && samN m hd U s t) && stp m hd U A R s t then l.set s (t : Int) else l) := by
  unfold view_Parts_b63
  have ht' : t < n := by omega
  have h6 := h.n6
  have e1 : geti (prt n R) (s : Int) = some ((rep R s : Nat) : Int) := tab_geti hs
  have e2 : geti (prt n R) (t : Int) = some ((rep R t : Nat) : Int) := tab_geti ht'
  have hsm : view_same { n := m.n, users := m.users, acts := m.acts, next := m.next, sees := m.sees } hd s t = some (samN m hd U s t) := same_eq h hs ht'
  rw [decide_eq_true (by omega), cond_true, e1, e2, hsm]
  simp only [Option.bind_some, Option.isSome_some, Bool.or_true, cond_true, Option.getD_some, rep_eq hR]
  have := h.u3
  rw [decide_eq_true (by have := h.eu; omega), cond_true, for_all (n := U) (fun u => allN A fun a => hd.getLsbD u || R (nxN m s u a) (nxN m t u a)) h.eu (fun u b nx' hu => b82_eq h hR hs ht' hu b nx')]
  unfold view_Parts_k76
  rw [w64_id (by omega) (by omega), geti_at (by omega), Option.bind_some, Int.toNat_natCast]
  change (bif (R s t && samN m hd U s t) && stp m hd U A R s t then _ else _) = _
  cases (R s t && samN m hd U s t) && stp m hd U A R s t <;> rfl
def nxR (m : Machine) (hd : BitVec 32) (U A : Nat) (R : Nat → Nat → Bool) (s t : Nat) : Bool := (R s t && samN m hd U s t) && stp m hd U A R s t
theorem b48_eq (h : OkV m n U A) {R : Nat → Nat → Bool} (hR : Eqv R) {fuel : Nat} (hf : 10 < fuel) {s : Nat} (hs : s < n) (l : List Int) (hl : l.length = n) (nx : List Int → Option (List Int × Int)) :
    view_Parts_b48 m hd fuel (prt n R) s l nx = nx (l.set s ((rep (nxR m hd U A R) s : Nat) : Int)) := by
  unfold view_Parts_b48
  have h6 := h.n6
  rw [geti_at (by omega), Option.bind_some]
  refine while_rec (fun j => ((s : Int) - 1 - j, l.set s ((lowN (nxR m hd U A R) s j : Nat) : Int))) s _ (fun j nx' hj => ?_) (fun nx' => ?_) (by omega) ?_
  · dsimp only
    have e : (s : Int) - 1 - j = ((s - 1 - j : Nat) : Int) := by omega
    rw [e, b63_eq h hR hs (by omega) nx _ (by rw [List.length_set]; exact hl) nx', List.set_set]
    have e2 : ((s - 1 - j : Nat) : Int) - 1 = (s : Int) - 1 - ((j + 1 : Nat) : Int) := by omega
    rw [e2]
    have e3 : lowN (nxR m hd U A R) s (j + 1) = bif nxR m hd U A R s (s - 1 - j) then s - 1 - j else lowN (nxR m hd U A R) s j := rfl
    rw [e3]
    change nx' (_, bif nxR m hd U A R s (s - 1 - j) then _ else _) = _
    cases nxR m hd U A R s (s - 1 - j) <;> rfl
  · dsimp only
    unfold view_Parts_b63 view_Parts_k61
    rw [decide_eq_false (by omega), cond_false]
    rfl
  · rw [w64_id (by omega) (by omega), Int.toNat_natCast]
    simp [lowN]
theorem equal_eq (a b : List Int) : slices_Equal_Sintint a b = some (decide (a = b)) := by
  unfold slices_Equal_Sintint slices_Equal_Sintint_b7 slices_Equal_Sintint_k3
  exact lists_eq a b
theorem b26_eq (h : OkV m n U A) {R : Nat → Nat → Bool} (hR : Eqv R) {fuel : Nat} (hf : 10 < fuel) (nx : List Int → Option (List Int × Int)) :
    view_Parts_b26 m hd fuel (prt n R) nx = bif decide (prt n (nxR m hd U A R) = prt n R) then some (prt n R, 0) else nx (prt n (nxR m hd U A R)) := by
  unfold view_Parts_b26
  have h6 := h.n6
  have hn := h.en
  rw [decide_eq_true (by omega), cond_true, decide_eq_true (by omega), cond_true]
  have e : m.n.toNat = n := by omega
  rw [e, for_tab (n := n) (fun s => ((rep (nxR m hd U A R) s : Nat) : Int)) h.en (fun s l nx' hs hl => b48_eq h hR hf hs l hl nx')]
  unfold view_Parts_k40
  change (slices_Equal_Sintint (prt n (nxR m hd U A R)) (prt n R)).bind _ = _
  rw [equal_eq, Option.bind_some]
  rfl

/-! ### How many pairs -/
def cM (n : Nat) (M : Nat → Nat → Bool) : Nat := cntN (n * n) fun i => M (i / n) (i % n)
theorem cM_le (M : Nat → Nat → Bool) : cM n M ≤ n * n := cntN_le
theorem pr_lt {s p : Nat} (hs : s < n) (hp : p < n) : s * n + p < n * n ∧ (s * n + p) / n = s ∧ (s * n + p) % n = p := by
  have h1 : (s + 1) * n ≤ n * n := Nat.mul_le_mul_right n hs
  rw [Nat.add_mul, Nat.one_mul] at h1
  refine ⟨by omega, ?_, ?_⟩
  · rw [Nat.add_comm, Nat.add_mul_div_right _ _ (by omega), Nat.div_eq_of_lt hp, Nat.zero_add]
  · rw [Nat.add_comm, Nat.add_mul_mod_self_right, Nat.mod_eq_of_lt hp]
theorem cM_lt {M M' : Nat → Nat → Bool} (h : ∀ s p, s < n → p < n → M' s p = true → M s p = true) {s p : Nat} (hs : s < n) (hp : p < n) (h1 : M s p = true) (h2 : M' s p = false) : cM n M' < cM n M := by
  obtain ⟨e1, e2, e3⟩ := pr_lt hs hp
  refine cntN_lt (i := s * n + p) (fun j hj hm => h _ _ ?_ ?_ hm) e1 ?_ ?_
  · exact Nat.div_lt_of_lt_mul hj
  · exact Nat.mod_lt _ (by omega)
  · rw [e2, e3]; exact h2
  · rw [e2, e3]; exact h1
theorem rk_le (k s t : Nat) (h : Rk m hd U A (k + 1) s t = true) : Rk m hd U A k s t = true := by
  unfold Rk at h
  rw [Bool.and_eq_true, Bool.and_eq_true] at h
  exact h.1.1
theorem fix_ex : ∃ k, k ≤ n * n ∧ ∀ s t, s < n → t < n → Rk m hd U A (k + 1) s t = Rk m hd U A k s t := by
  apply Classical.byContradiction
  intro hn
  have hlt : ∀ k, k ≤ n * n → cM n (Rk m hd U A (k + 1)) < cM n (Rk m hd U A k) := fun k hk => by
    apply Classical.byContradiction
    intro hc
    refine hn ⟨k, hk, fun s t hs ht => ?_⟩
    cases h1 : Rk m hd U A k s t with
    | false =>
      cases h2 : Rk m hd U A (k + 1) s t with
      | false => rfl
      | true => rw [rk_le k s t h2] at h1; cases h1
    | true =>
      cases h2 : Rk m hd U A (k + 1) s t with
      | true => rfl
      | false => exact absurd (cM_lt (fun s p _ _ => rk_le k s p) hs ht h1 h2) hc
  have key : ∀ k, k ≤ n * n + 1 → cM n (Rk m hd U A k) + k ≤ n * n := by
    intro k
    induction k with
    | zero => exact fun _ => cM_le _
    | succ k ih => intro hk; have := ih (by omega); have := hlt k (by omega); omega
  have := key (n * n + 1) (Nat.le_refl _)
  omega
theorem parts_eq (h : OkV m n U A) {fuel : Nat} (hf : 100 < fuel) (hw : view_wrong m hd = some 0) : ∃ K, (∀ s t, s < n → t < n → Rk m hd U A (K + 1) s t = Rk m hd U A K s t) ∧ view_Parts fuel m hd = some (prt n (Rk m hd U A K), 0) := by
  obtain ⟨k0, hk0, hfix⟩ := fix_ex (m := m) (hd := hd) (U := U) (A := A) (n := n)
  obtain ⟨K, hK, hmin⟩ := least_nat (P := fun k => ∀ s t, s < n → t < n → Rk m hd U A (k + 1) s t = Rk m hd U A k s t) hfix
  refine ⟨K, hK, ?_⟩
  have h6 := h.n6
  have hnn : n * n ≤ 36 := Nat.mul_le_mul h6 h6
  have hKle := hmin k0 hfix
  unfold view_Parts
  have hw' : view_wrong { n := m.n, users := m.users, acts := m.acts, next := m.next, sees := m.sees } hd = some 0 := hw
  rw [hw', Option.bind_some]
  simp only [bne_self_eq_false, cond_false]
  have hn := h.en
  rw [decide_eq_true (by omega), cond_true]
  have e : m.n.toNat = n := by omega
  rw [e]
  refine while_rec (fun k => prt n (Rk m hd U A k)) K _ (fun k nx hk => ?_) (fun nx => ?_) (by omega) ?_
  · rw [b26_eq h (rk_eqv k) (by omega), decide_eq_false, cond_false]
    · rfl
    · intro e
      have := (prt_eq (rk_eqv (k + 1)) (rk_eqv k)).1 e
      have := hmin k this
      omega
  · rw [b26_eq h (rk_eqv K) (by omega), decide_eq_true, cond_true]
    exact (prt_eq (rk_eqv (K + 1)) (rk_eqv K)).2 hK
  · rw [tab_rep]
    refine tab_congr fun s _ => ?_
    have := (rep_spec (rk_eqv (m := m) (hd := hd) (U := U) (A := A) 0) s).2.2 0
    by_cases h0 : 0 < rep (Rk m hd U A 0) s
    · exact absurd (this h0) (by simp [Rk])
    · omega

/-! ### The reference's rounds -/
def mat (n : Nat) (M : Nat → Nat → Bool) : List (List Bool) := tab n fun s => tab n fun p => M s p
theorem mat_congr {M M' : Nat → Nat → Bool} (h : ∀ s p, s < n → p < n → M s p = M' s p) : mat n M = mat n M' := tab_congr fun s hs => tab_congr fun p hp => h s p hs hp
def upd (M : Nat → Nat → Bool) (s p : Nat) (v : Bool) (i j : Nat) : Bool := if i = s ∧ j = p then v else M i j
theorem mat_set {M : Nat → Nat → Bool} {s p : Nat} {v : Bool} (hs : s < n) (hp : p < n) : (mat n M).set s ((tab n (M s)).set p v) = mat n (upd M s p v) := by
  unfold mat
  rw [tab_set hs]
  refine tab_congr fun i hi => ?_
  by_cases e : i = s
  · subst e
    rw [if_pos rfl, tab_set hp]
    refine tab_congr fun j hj => ?_
    unfold upd
    by_cases e2 : j = p
    · rw [if_pos e2, if_pos ⟨rfl, e2⟩]
    · rw [if_neg e2, if_neg (fun hh => e2 hh.2)]
  · rw [if_neg e]
    refine tab_congr fun j hj => ?_
    unfold upd
    rw [if_neg (fun hh => e hh.1)]
def CC (m : Machine) (hd : BitVec 32) (M : Nat → Nat → Bool) (s p u a : Nat) : Prop := M s p = true → hd.getLsbD u = true ∨ M (nxN m s u a) (nxN m p u a) = true
def Stb (m : Machine) (hd : BitVec 32) (n U A : Nat) (M : Nat → Nat → Bool) : Prop := ∀ s p u a, s < n → p < n → u < U → a < A → CC m hd M s p u a
structure Inv (m : Machine) (hd : BitVec 32) (n U A : Nat) (B M : Nat → Nat → Bool) : Prop where
  lo : ∀ s p, s < n → p < n → B s p = true → M s p = true
  hi : ∀ s p, s < n → p < n → M s p = true → samN m hd U s p = true
def lex (s p u a s' p' u' a' : Nat) : Prop := s' < s ∨ s' = s ∧ (p' < p ∨ p' = p ∧ (u' < u ∨ u' = u ∧ a' < a))
def JJ (m : Machine) (hd : BitVec 32) (n U A : Nat) (B : Nat → Nat → Bool) (k s p u a : Nat) (l : List (List Bool)) : Prop :=
  ∃ M, l = mat n M ∧ Inv m hd n U A B M ∧ (cM n M + (k + 1) ≤ n * n ∨ (cM n M + k ≤ n * n ∧ ∀ s' p' u' a', s' < n → p' < n → u' < U → a' < A → lex s p u a s' p' u' a' → CC m hd M s' p' u' a') ∨ Stb m hd n U A M)
theorem JJ.next {B : Nat → Nat → Bool} {k s p u a s2 p2 u2 a2 : Nat} {l : List (List Bool)} (h : JJ m hd n U A B k s p u a l) (hx : ∀ s' p' u' a', s' < n → p' < n → u' < U → a' < A → lex s2 p2 u2 a2 s' p' u' a' → lex s p u a s' p' u' a') : JJ m hd n U A B k s2 p2 u2 a2 l := by
  obtain ⟨M, e, hi, hc⟩ := h
  refine ⟨M, e, hi, ?_⟩
  rcases hc with hc | ⟨hc, hd'⟩ | hc
  · exact .inl hc
  · exact .inr (.inl ⟨hc, fun s' p' u' a' h1 h2 h3 h4 h5 => hd' s' p' u' a' h1 h2 h3 h4 (hx s' p' u' a' h1 h2 h3 h4 h5)⟩)
  · exact .inr (.inr hc)
theorem b126_q (h : OkV m n U A) {B : Nat → Nat → Bool} (hB : ∀ s p, s < n → p < n → B s p = true → ∀ u, u < U → ∀ a, a < A → hd.getLsbD u = true ∨ B (nxN m s u a) (nxN m p u a) = true) {k s p u a : Nat} (hs : s < n) (hp : p < n) (hu : u < U) (ha : a < A) {Q : Option (List (List Bool)) → Prop} {l : List (List Bool)} (hj : JJ m hd n U A B k s p u a l) (nx : List (List Bool) → Option (List (List Bool)))
    (hn : ∀ l', JJ m hd n U A B k s p u (a + 1) l' → Q (nx l')) : Q (syllogistref_AlikeStates_b126 m hd s p u a l nx) := by
  obtain ⟨M, rfl, hi, hc⟩ := hj
  have hu3 := h.u3
  have g1 : geti (mat n M) ((nxN m s u a : Nat) : Int) = some (tab n (M (nxN m s u a))) := tab_geti (h.nxlt s u a)
  have g2 : geti (tab n (M (nxN m s u a))) ((nxN m p u a : Nat) : Int) = some (M (nxN m s u a) (nxN m p u a)) := tab_geti (h.nxlt p u a)
  have g3 : geti (mat n M) (s : Int) = some (tab n (M s)) := tab_geti hs
  have g4 : geti (tab n (M s)) (p : Int) = some (M s p) := tab_geti hp
  unfold syllogistref_AlikeStates_b126
  rw [bit_eq hd (by omega), Option.bind_some]
  simp only [h.nx1 hs, h.nx1 hp, h.nx2 hs hu, h.nx2 hp hu, h.nx3 hs hu ha, h.nx3 hp hu ha, g1, g2, g3, g4, Option.getD_some, Option.isSome_some, Bool.or_true, cond_true, Option.bind_some, Int.toNat_natCast]
  have same : CC m hd M s p u a → JJ m hd n U A B k s p u (a + 1) (mat n M) := fun hcc => by
    refine ⟨M, rfl, hi, ?_⟩
    rcases hc with hc | ⟨hc, hd'⟩ | hc
    · exact .inl hc
    · refine .inr (.inl ⟨hc, fun s' p' u' a' h1 h2 h3 h4 h5 => ?_⟩)
      by_cases e : s' = s ∧ p' = p ∧ u' = u ∧ a' = a
      · obtain ⟨rfl, rfl, rfl, rfl⟩ := e; exact hcc
      · refine hd' s' p' u' a' h1 h2 h3 h4 ?_
        unfold lex at h5 ⊢
        omega
    · exact .inr (.inr hc)
  cases h1 : hd.getLsbD u with
  | true => simp only [Bool.not_true, Bool.false_and, cond_false]; exact hn _ (same fun _ => .inl h1)
  | false =>
    cases h2 : M (nxN m s u a) (nxN m p u a) with
    | true => simp only [Bool.not_true, Bool.and_false, cond_false]; exact hn _ (same fun _ => .inr h2)
    | false =>
      simp only [Bool.not_false, Bool.and_self, cond_true]
      rw [mat_set hs hp]
      cases h3 : M s p with
      | false =>
        have : mat n (upd M s p false) = mat n M := mat_congr fun i j _ _ => by
          unfold upd
          by_cases e : i = s ∧ j = p
          · rw [if_pos e, e.1, e.2, h3]
          · rw [if_neg e]
        rw [this]
        exact hn _ (same fun hh => by rw [h3] at hh; cases hh)
      | true =>
        have hle : ∀ i j, upd M s p false i j = true → M i j = true := fun i j hh => by
          unfold upd at hh
          by_cases e : i = s ∧ j = p
          · rw [if_pos e] at hh; cases hh
          · rwa [if_neg e] at hh
        have hlt : cM n (upd M s p false) < cM n M := cM_lt (fun i j _ _ => hle i j) hs hp h3 (by unfold upd; rw [if_pos ⟨rfl, rfl⟩])
        refine hn _ ⟨_, rfl, ⟨fun i j hi' hj' hb => ?_, fun i j hi' hj' hm => hi.hi i j hi' hj' (hle i j hm)⟩, ?_⟩
        · unfold upd
          by_cases e : i = s ∧ j = p
          · obtain ⟨rfl, rfl⟩ := e
            rcases hB i j hi' hj' hb u hu a ha with e1 | e1
            · rw [h1] at e1; cases e1
            · rw [hi.lo _ _ (h.nxlt _ _ _) (h.nxlt _ _ _) e1] at h2; cases h2
          · rw [if_neg e]; exact hi.lo i j hi' hj' hb
        · rcases hc with hc | ⟨hc, _⟩ | hc
          · exact .inl (by omega)
          · exact .inl (by omega)
          · rcases hc s p u a hs hp hu ha h3 with e1 | e1
            · rw [h1] at e1; cases e1
            · rw [h2] at e1; cases e1
theorem alike_eq (h : OkV m n U A) {B : Nat → Nat → Bool} (hB : ∀ s p, s < n → p < n → B s p = true → ∀ u, u < U → ∀ a, a < A → hd.getLsbD u = true ∨ B (nxN m s u a) (nxN m p u a) = true)
    (hS : ∀ s p, s < n → p < n → B s p = true → samN m hd U s p = true)
    (hmax : ∀ M, Stb m hd n U A M → (∀ s p, s < n → p < n → M s p = true → samN m hd U s p = true) → ∀ s p, s < n → p < n → M s p = true → B s p = true) :
    syllogistref_AlikeStates m hd = some (mat n B) := by
  have h6 := h.n6
  have hn := h.en
  have hu := h.eu
  have ha := h.ea
  have hu3 := h.u3
  have ha2 := h.a2
  have hnn : n * n ≤ 36 := Nat.mul_le_mul h6 h6
  unfold syllogistref_AlikeStates
  rw [decide_eq_true (by omega), cond_true, decide_eq_true (by omega), cond_true]
  have e : m.n.toNat = n := by omega
  rw [e, for_tab (n := n) (fun s => tab n (samN m hd U s)) h.en (fun s l nx hs hl => by
    unfold syllogistref_AlikeStates_b161
    rw [decide_eq_true (by omega), cond_true, geti_at (by omega), Option.bind_some, decide_eq_true (by omega), cond_true, e, Int.toNat_natCast]
    rw [for_rec (n := n) (fun p => l.set s (tab n fun q => if q < p then samN m hd U s q else false)) h.en (by rw [tab_rep]; congr 1) (fun p nx' hp => by
      unfold syllogistref_AlikeStates_b187
      have hse : syllogistref_Sees { n := m.n, users := m.users, acts := m.acts, next := m.next, sees := m.sees } hd s p = some (samN m hd U s p) := sees_eq h hs hp
      have hg : geti (l.set s (tab n fun q => if q < p then samN m hd U s q else false)) (s : Int) = some (tab n fun q => if q < p then samN m hd U s q else false) := by
        rw [geti_nat?, List.getElem?_set, if_pos rfl, if_pos (by omega)]
      rw [hg, Option.bind_some, hse, Option.bind_some, tab_geti hp, Option.bind_some, Int.toNat_natCast, Int.toNat_natCast, List.set_set, tab_set hp]
      congr 2
      refine tab_congr fun i _ => ?_
      by_cases e1 : i = p
      · subst e1; rw [if_pos rfl, if_pos (by omega)]
      · rw [if_neg e1]
        by_cases e2 : i < p
        · rw [if_pos e2, if_pos (by omega)]
        · rw [if_neg e2, if_neg (by omega)])]
    unfold syllogistref_AlikeStates_k183
    congr 2
    exact tab_congr fun i hi => if_pos hi)]
  unfold syllogistref_AlikeStates_k20
  have ew : w64 (m.n * m.n) = ((n * n : Nat) : Int) := by
    rw [hn, ← Int.natCast_mul, w64_id (by omega) (by omega)]
  rw [ew, decide_eq_true (by omega), cond_true]
  refine for0_q (n := n * n) (Q := fun o => o = some (mat n B)) (fun k l => ∃ M, l = mat n M ∧ Inv m hd n U A B M ∧ (cM n M + k ≤ n * n ∨ Stb m hd n U A M)) rfl _ ⟨samN m hd U, rfl, ⟨fun s p => hS s p, fun _ _ _ _ hh => hh⟩, .inl (by have := cM_le (n := n) (samN m hd U); omega)⟩ (fun k l nx hk hI hnx => ?_) (fun l hI => ?_)
  · unfold syllogistref_AlikeStates_b42
    rw [decide_eq_true (by omega), cond_true]
    refine for0_q (n := n) (Q := fun o => o = some (mat n B)) (fun s l => JJ m hd n U A B k s 0 0 0 l) h.en _ ?_ (fun s l nx1 hs hJ hnx1 => ?_) (fun l hJ => ?_)
    · obtain ⟨M, e, hi, hc⟩ := hI
      refine ⟨M, e, hi, ?_⟩
      rcases hc with hc | hc
      · exact .inr (.inl ⟨hc, fun s' p' u' a' _ _ _ _ hl => by unfold lex at hl; omega⟩)
      · exact .inr (.inr hc)
    · unfold syllogistref_AlikeStates_b63
      rw [decide_eq_true (by omega), cond_true]
      refine for0_q (n := n) (Q := fun o => o = some (mat n B)) (fun p l => JJ m hd n U A B k s p 0 0 l) h.en _ hJ (fun p l nx2 hp hJ hnx2 => ?_) (fun l hJ => ?_)
      · unfold syllogistref_AlikeStates_b84
        rw [decide_eq_true (by omega), cond_true]
        refine for0_q (n := U) (Q := fun o => o = some (mat n B)) (fun u l => JJ m hd n U A B k s p u 0 l) h.eu _ hJ (fun u l nx3 hu' hJ hnx3 => ?_) (fun l hJ => ?_)
        · unfold syllogistref_AlikeStates_b105
          rw [decide_eq_true (by omega), cond_true]
          refine for0_q (n := A) (Q := fun o => o = some (mat n B)) (fun a l => JJ m hd n U A B k s p u a l) h.ea _ hJ (fun a l nx4 ha' hJ hnx4 => b126_q (Q := fun o => o = some (mat n B)) h hB hs hp hu' ha' hJ nx4 hnx4) (fun l hJ => ?_)
          exact hnx3 l (hJ.next fun s' p' u' a' _ _ _ _ hl => by unfold lex at hl ⊢; omega)
        · exact hnx2 l (hJ.next fun s' p' u' a' _ _ _ _ hl => by unfold lex at hl ⊢; omega)
      · exact hnx1 l (hJ.next fun s' p' u' a' _ _ _ _ hl => by unfold lex at hl ⊢; omega)
    · obtain ⟨M, e, hi, hc⟩ := hJ
      refine hnx l ⟨M, e, hi, ?_⟩
      rcases hc with hc | ⟨_, hc⟩ | hc
      · exact .inl hc
      · exact .inr fun s p u a h1 h2 h3 h4 => hc s p u a h1 h2 h3 h4 (.inl h1)
      · exact .inr hc
  · obtain ⟨M, rfl, hi, hc⟩ := hI
    have hst : Stb m hd n U A M := by
      rcases hc with hc | hc
      · intro s p u a hs hp _ _ hm
        have : cM n (fun _ _ => false) < cM n M := cM_lt (fun _ _ _ _ hh => by cases hh) hs hp hm rfl
        omega
      · exact hc
    show some (mat n M) = some (mat n B)
    congr 1
    refine mat_congr fun s p hs hp => ?_
    cases hb : B s p with
    | true => exact hi.lo s p hs hp hb
    | false =>
      cases hm : M s p with
      | false => rfl
      | true => rw [hmax M hst hi.hi s p hs hp hm] at hb; cases hb
end

theorem wrong_eq (m : Machine) (hd : BitVec 32) : view_wrong m hd = some (bif vchk m != 0 then vchk m else bif decide (hd < 1#32 <<< m.users.toNat) then 0 else 4) ∧ syllogistlaw_hiddenCode m hd = some (bif vchk m != 0 then vchk m else bif decide (hd < 1#32 <<< m.users.toNat) then 0 else 4) := by
  unfold view_wrong syllogistlaw_hiddenCode
  have e1 : view_Check { n := m.n, users := m.users, acts := m.acts, next := m.next, sees := m.sees } = some (vchk m) := check_prog m
  have e2 : syllogistref_ViewCheck { n := m.n, users := m.users, acts := m.acts, next := m.next, sees := m.sees } = some (vchk m) := check_ref m
  rw [e1, e2, Option.bind_some, Option.bind_some]
  by_cases hc : vchk m = 0
  · obtain ⟨n, U, A, h⟩ := vchk_okV hc
    have hu := h.eu
    have hu3 := h.u3
    have hF : syllogistref_Fits m.users hd = some (decide (hd < 1#32 <<< m.users.toNat)) := by
      unfold syllogistref_Fits
      rw [hu, fits_shape (by omega), Int.toNat_natCast]
    rw [hc, hF]
    simp only [bne_self_eq_false, cond_false, beq_self_eq_true, Bool.true_and, Option.isSome_some, Bool.or_true, cond_true, Option.getD_some]
    rw [decide_eq_true (by omega), cond_true, shr_ne (by omega)]
    cases decide (hd < 1#32 <<< m.users.toNat) <;> exact ⟨rfl, rfl⟩
  · have h3 : (vchk m != 0) = true := by simpa using hc
    have h4 : (vchk m == 0) = false := by simpa using hc
    rw [h3, h4]
    exact ⟨rfl, rfl⟩

theorem viewParts_true (fuel : Nat) (m : Machine) (hd : BitVec 32) (hf : 100 < fuel := by decide) : syllogistlaw_ViewParts fuel m hd = some true := by
  unfold syllogistlaw_ViewParts
  obtain ⟨e1, e2⟩ := wrong_eq m hd
  have e2' : syllogistlaw_hiddenCode { n := m.n, users := m.users, acts := m.acts, next := m.next, sees := m.sees } hd = _ := e2
  rw [e2']
  generalize hcode : (bif vchk m != 0 then vchk m else bif decide (hd < 1#32 <<< m.users.toNat) then 0 else 4) = cd at e1
  by_cases hz : cd = 0
  · subst hz
    have hc : vchk m = 0 := by
      apply Classical.byContradiction
      intro hne
      have h3 : (vchk m != 0) = true := by simpa using hne
      rw [h3] at hcode; exact hne hcode
    obtain ⟨n, U, A, h⟩ := vchk_okV hc
    obtain ⟨K, hK, hp⟩ := parts_eq h hf e1
    have hp' : view_Parts fuel { n := m.n, users := m.users, acts := m.acts, next := m.next, sees := m.sees } hd = some (prt n (Rk m hd U A K), 0) := hp
    have hcl : ∀ s p, s < n → p < n → Rk m hd U A K s p = true → Rk m hd U A (K + 1) s p = true := fun s p hs hp' hb => by rw [hK s p hs hp']; exact hb
    have ha : syllogistref_AlikeStates m hd = some (mat n (Rk m hd U A K)) := by
      refine alike_eq h (fun s p hs hp' hb u hu a ha => ?_) (fun s p hs hp' hb => ?_) (fun M hst hsm s p hs hp' hm => ?_)
      · have := hcl s p hs hp' hb
        unfold Rk at this
        rw [Bool.and_eq_true] at this
        exact stp_iff.1 this.2 u hu a ha
      · have := hcl s p hs hp' hb
        unfold Rk at this
        rw [Bool.and_eq_true, Bool.and_eq_true] at this
        exact this.1.2
      · have key : ∀ k s p, s < n → p < n → M s p = true → Rk m hd U A k s p = true := by
          intro k
          induction k with
          | zero => exact fun _ _ _ _ _ => rfl
          | succ k ih =>
            intro s p hs hp' hm
            unfold Rk
            rw [Bool.and_eq_true, Bool.and_eq_true]
            exact ⟨⟨ih s p hs hp' hm, hsm s p hs hp' hm⟩, stp_iff.2 fun u hu a ha => (hst s p u a hs hp' hu ha hm).imp id fun e => ih _ _ (h.nxlt _ _ _) (h.nxlt _ _ _) e⟩
        exact key K s p hs hp' hm
    have ha' : syllogistref_AlikeStates { n := m.n, users := m.users, acts := m.acts, next := m.next, sees := m.sees } hd = some (mat n (Rk m hd U A K)) := ha
    rw [hp', Option.bind_some, Option.bind_some, ha']
    simp only [bne_self_eq_false, cond_false, Option.bind_some]
    have h6 := h.n6
    have hn := h.en
    have hlen : (prt n (Rk m hd U A K)).length = n := tab_len
    refine while_rec (fun s => ((s : Nat) : Int)) n _ (fun s nx hs => ?_) (fun nx => ?_) (by omega) rfl
    · unfold syllogistlaw_ViewParts_b19
      dsimp only
      rw [hlen, decide_eq_true (by omega), decide_eq_true (by omega), Bool.and_self, cond_true]
      obtain ⟨r1, r2, r3⟩ := rep_spec (rk_eqv (m := m) (hd := hd) (U := U) (A := A) K) s
      have g1 : geti (mat n (Rk m hd U A K)) (s : Int) = some (tab n (Rk m hd U A K s)) := tab_geti hs
      refine while_rec (fun p => ((p : Nat) : Int)) (rep (Rk m hd U A K) s) _ (fun p nx' hp' => ?_) (fun nx' => ?_) (by omega) rfl
      · unfold syllogistlaw_ViewParts_b29
        rw [g1, Option.bind_some, tab_geti (by omega), Option.bind_some, r3 p hp', w64_succ (by omega)]
        rfl
      · unfold syllogistlaw_ViewParts_b29 syllogistlaw_ViewParts_k25
        have g2 : geti (prt n (Rk m hd U A K)) (s : Int) = some ((rep (Rk m hd U A K) s : Nat) : Int) := tab_geti hs
        dsimp only
        rw [g1, Option.bind_some, tab_geti (by omega), Option.bind_some, r2, g2, Option.bind_some]
        simp only [Bool.not_true, cond_false, bne_self_eq_false]
        rw [w64_succ (by omega)]
    · unfold syllogistlaw_ViewParts_b19 syllogistlaw_ViewParts_k17
      dsimp only
      rw [decide_eq_false (by omega), Bool.false_and, cond_false, hlen, hn]
      simp
  · have h3 : (cd != 0) = true := by simpa using hz
    have hp : view_Parts fuel { n := m.n, users := m.users, acts := m.acts, next := m.next, sees := m.sees } hd = some ([], cd) := by
      unfold view_Parts
      have e1' : view_wrong { n := m.n, users := m.users, acts := m.acts, next := m.next, sees := m.sees } hd = some cd := e1
      show (view_wrong { n := m.n, users := m.users, acts := m.acts, next := m.next, sees := m.sees } hd).bind _ = _
      rw [e1', Option.bind_some, h3]
      rfl
    rw [hp, Option.bind_some, Option.bind_some, h3]
    simp
end Go.Proofs.Ytehfjfaanhdbaaa.Sy
