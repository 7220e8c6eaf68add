/- Machines and their states: what is wrong, what is seen; plain laws; no program in sight. -/
import Derived.Test.YtbbenieabpmghaaSyQ
import Derived.Test.YtbbenieabpmghaaSyR
import Derived.Test.YtbbenieabpmghaaG5
namespace Go.Proofs.Ytbbenieabpmghaa.Sy
set_option linter.unusedVariables false

theorem flatten_le {α : Type} {xs : List (List α)} {c : Nat} (h : ∀ x ∈ xs, x.length ≤ c) : xs.flatten.length ≤ xs.length * c := by
  induction xs with
  | nil => simp
  | cons a xs ih =>
    have h1 := h a (by simp)
    have h2 := ih fun x hx => h x (by simp [hx])
    rw [List.flatten_cons, List.length_append, List.length_cons, Nat.add_mul]; omega
theorem flatten_take {α : Type} {xs : List (List α)} {j : Nat} (hj : j < xs.length) : (xs.take (j + 1)).flatten = (xs.take j).flatten ++ xs[j] := by
  rw [List.take_succ_eq_append_getElem hj, List.flatten_append]; simp
theorem flatten_take_le {α : Type} {xs : List (List α)} (j : Nat) : (xs.take j).flatten.length ≤ xs.flatten.length := by
  conv => rhs; rw [← List.take_append_drop j xs]
  rw [List.flatten_append, List.length_append]; omega

theorem concat2 {xs : List (List (List Int))} (h : xs.flatten.length ≤ 1000) : slices_Concat_SSintSint xs = some xs.flatten := by
  unfold slices_Concat_SSintSint
  rw [for_rec (n := xs.length) (fun j => (((xs.take j).flatten.length : Nat) : Int)) rfl (by simp) (fun j nx hj => by
    unfold slices_Concat_SSintSint_b47
    have h1 := flatten_take_le (xs := xs) (j + 1)
    rw [flatten_take hj, List.length_append] at h1
    rw [geti_at hj, Option.bind_some, w64_id (by omega) (by omega), decide_eq_false (by omega), cond_false, flatten_take hj, List.length_append]
    rfl)]
  unfold slices_Concat_SSintSint_k6
  rw [List.take_length]
  have hg : slices_Grow_SSintSint_fnil (xs.flatten.length : Int) = some () := by
    unfold slices_Grow_SSintSint_fnil
    rw [decide_eq_false (by omega), cond_false]
    have e : w64 ((0 : Int) - ((([] : List (List Int))).length : Int)) = 0 := rfl
    rw [e, Int.sub_zero, w64_id (by omega) (by omega)]
    cases hd : decide ((xs.flatten.length : Int) > 0) with
    | false => rfl
    | true =>
      have := of_decide_eq_true hd
      rw [cond_true, decide_eq_true (by omega), cond_true]
  rw [hg, Option.bind_some]
  rw [for_rec (s := ([] : List (List Int))) (n := xs.length) (fun j => (xs.take j).flatten) rfl (by simp) (fun j nx hj => by
    unfold slices_Concat_SSintSint_b32
    have h1 := flatten_take_le (xs := xs) (j + 1)
    rw [flatten_take hj, List.length_append] at h1
    rw [geti_at hj, Option.bind_some, decide_eq_true (by omega), cond_true, flatten_take hj])]
  unfold slices_Concat_SSintSint_k26
  rw [List.take_length]
theorem concat1 {xs : List (List Int)} (h : xs.flatten.length ≤ 1000) : slices_Concat_Sintint xs = some xs.flatten := by
  unfold slices_Concat_Sintint
  rw [for_rec (n := xs.length) (fun j => (((xs.take j).flatten.length : Nat) : Int)) rfl (by simp) (fun j nx hj => by
    unfold slices_Concat_Sintint_b36
    have h1 := flatten_take_le (xs := xs) (j + 1)
    rw [flatten_take hj, List.length_append] at h1
    rw [geti_at hj, Option.bind_some, w64_id (by omega) (by omega), decide_eq_false (by omega), cond_false, flatten_take hj, List.length_append]
    rfl)]
  unfold slices_Concat_Sintint_k6
  rw [List.take_length]
  have hg : slices_Grow_Sintint_fnil (xs.flatten.length : Int) = some () := by
    unfold slices_Grow_Sintint_fnil
    rw [decide_eq_false (by omega), cond_false]
    have e : w64 ((0 : Int) - ((([] : List Int)).length : Int)) = 0 := rfl
    rw [e, Int.sub_zero, w64_id (by omega) (by omega)]
    cases hd : decide ((xs.flatten.length : Int) > 0) with
    | false => rfl
    | true =>
      have := of_decide_eq_true hd
      rw [cond_true, decide_eq_true (by omega), cond_true]
  rw [hg, Option.bind_some]
  rw [for_rec (s := ([] : List Int)) (n := xs.length) (fun j => (xs.take j).flatten) rfl (by simp) (fun j nx hj => by
    unfold slices_Concat_Sintint_b24
    have h1 := flatten_take_le (xs := xs) (j + 1)
    rw [flatten_take hj, List.length_append] at h1
    rw [geti_at hj, Option.bind_some, decide_eq_true (by omega), cond_true, flatten_take hj])]
  unfold slices_Concat_Sintint_k20
  rw [List.take_length]

/-! ### What is wrong with a machine -/
def bigM (m : Machine) : Bool := ((((((decide (m.n < (1 : Int))) || (decide (m.n > (6 : Int)))) || (decide (m.users < (1 : Int)))) || (decide (m.users > (3 : Int)))) || (decide (m.acts < (1 : Int)))) || (decide (m.acts > (2 : Int))))
def lenB (m : Machine) (l : List Int) : Bool := (l.length : Int) != m.acts
def rowB (m : Machine) (s : Nat) : Bool := ((((m.next[s]?.getD []).length : Int) != m.users) || (((m.sees[s]?.getD []).length : Int) != m.users)) || (m.next[s]?.getD []).any (lenB m)
def ofs (m : Machine) (y : Int) : Bool := decide (y < 0) || decide (y ≥ m.n)
def anyO (m : Machine) (l : List Int) : Bool := l.any (ofs m)
def rowO (m : Machine) (r : List (List Int)) : Bool := r.any (anyO m)
def vchk (m : Machine) : Int := bif bigM m then 1 else bif ((m.next.length : Int) != m.n) || ((m.sees.length : Int) != m.n) then 3 else bif anyN m.n.toNat (rowB m) then 3 else bif m.next.any (rowO m) then 2 else 0

theorem cont2 {s : List (List Int)} {f : List Int → Option Bool} {p : List Int → Bool} (h : ∀ a ∈ s, f a = some (p a)) : slices_ContainsFunc_SSintSint s f = some (s.any p) := by
  unfold slices_ContainsFunc_SSintSint slices_IndexFunc_SSintSint slices_IndexFunc_SSintSint_b7 slices_IndexFunc_SSintSint_k3
  exact any_shape s f p h
theorem cont1 {s : List Int} {f : Int → Option Bool} {p : Int → Bool} (h : ∀ a ∈ s, f a = some (p a)) : slices_ContainsFunc_Sintint s f = some (s.any p) := by
  unfold slices_ContainsFunc_Sintint slices_IndexFunc_Sintint slices_IndexFunc_Sintint_b7 slices_IndexFunc_Sintint_k3
  exact any_shape s f p h

theorem shaped_eq {m : Machine} (hb : bigM m = false) (hl : (((m.next.length : Int) != m.n) || ((m.sees.length : Int) != m.n)) = false) : view_shaped m = some (!anyN m.n.toNat (rowB m)) := by
  unfold bigM at hb
  simp only [Bool.or_eq_false_iff, decide_eq_false_iff_not, bne_eq_false_iff_eq] at hb hl
  unfold view_shaped
  rw [show (((m.next.length : Int) != m.n) || ((m.sees.length : Int) != m.n)) = false by simp [hl.1, hl.2], cond_false, decide_eq_true (by omega), cond_true]
  rw [for_out (n := m.n.toNat) (rowB m) (some false) (by omega) (fun s nx hs => by
    unfold view_shaped_b9 rowB
    rw [geti_d [] (by omega), Option.bind_some, geti_d [] (show s < m.sees.length by omega), cont2 (f := fun a => view_shaped_c1 a m) (p := lenB m) (fun a _ => rfl)]
    simp only [Option.isSome_some, Bool.or_true, cond_true, Option.getD_some])]
  unfold view_shaped_k5
  cases anyN m.n.toNat (rowB m) <;> rfl

theorem rowB_spec {m : Machine} (hl : (m.next.length : Int) = m.n) (h : anyN m.n.toNat (rowB m) = false) : ∀ r ∈ m.next, (r.length : Int) = m.users ∧ ∀ l ∈ r, (l.length : Int) = m.acts := by
  intro r hr
  obtain ⟨j, hj, rfl⟩ := List.getElem_of_mem hr
  have := anyN_false.1 h j (by omega)
  unfold rowB at this
  rw [getd_at _ hj] at this
  simp only [Bool.or_eq_false_iff, bne_eq_false_iff_eq, List.any_eq_false, lenB, bne_iff_ne, ne_eq, Decidable.not_not] at this
  exact ⟨this.1.1, this.2⟩

theorem check_prog (m : Machine) : view_Check m = some (vchk m) := by
  unfold view_Check vchk
  rw [show ({ n := m.n, users := m.users, acts := m.acts, next := m.next, sees := m.sees } : Machine) = m from rfl]
  cases hb : bigM m with
  | true => unfold bigM at hb; rw [hb]; rfl
  | false =>
    have hb' := hb
    unfold bigM at hb'
    rw [hb', cond_false, cond_false]
    cases hl : ((m.next.length : Int) != m.n) || ((m.sees.length : Int) != m.n) with
    | true =>
      have : view_shaped m = some false := by unfold view_shaped; rw [hl]; rfl
      rw [this]; rfl
    | false =>
      rw [shaped_eq hb hl, Option.bind_some, cond_false]
      cases hr : anyN m.n.toNat (rowB m) with
      | true => rfl
      | false =>
        simp only [Bool.or_eq_false_iff, decide_eq_false_iff_not, bne_eq_false_iff_eq] at hb' hl
        have hs := rowB_spec hl.1 hr
        have h1 : m.next.flatten.length ≤ 18 := by
          have := flatten_le (xs := m.next) (c := 3) fun x hx => by have := (hs x hx).1; omega
          have : m.next.length ≤ 6 := by omega
          omega
        have h2 : m.next.flatten.flatten.length ≤ 36 := by
          have := flatten_le (xs := m.next.flatten) (c := 2) fun x hx => by
            obtain ⟨r, hr, hx⟩ := List.mem_flatten.1 hx
            have := (hs r hr).2 x hx; omega
          omega
        rw [Bool.not_false, Bool.not_true, cond_false, cond_false, concat2 (by omega), Option.bind_some, concat1 (by omega), Option.bind_some, cont1 (f := fun a => view_Check_c1 a m) (p := ofs m) (fun a _ => rfl), Option.bind_some]
        rw [List.any_flatten, List.any_flatten]
        have e : (m.next.any fun r => r.any fun l => l.any (ofs m)) = m.next.any (rowO m) := rfl
        rw [e]
        cases m.next.any (rowO m) <;> rfl

theorem any_at {α : Type} (s : List α) (p : α → Bool) (d : α) : anyN s.length (fun j => p (s[j]?.getD d)) = s.any p := by
  rw [any_len]
  exact anyN_congr fun j hj => by rw [List.getElem?_eq_getElem hj]; rfl

theorem check_ref (m : Machine) : syllogistref_ViewCheck m = some (vchk m) := by
  unfold syllogistref_ViewCheck vchk
  cases hb : bigM m with
  | true => unfold bigM at hb; rw [hb]; rfl
  | false =>
    have hb' := hb
    unfold bigM at hb'
    rw [hb', cond_false, cond_false]
    cases hl : ((m.next.length : Int) != m.n) || ((m.sees.length : Int) != m.n) with
    | true => rfl
    | false =>
      simp only [Bool.or_eq_false_iff, decide_eq_false_iff_not, bne_eq_false_iff_eq] at hb' hl
      rw [cond_false, cond_false, decide_eq_true (by omega), cond_true]
      rw [for_out (n := m.n.toNat) (rowB m) (some 3) (by omega) (fun s nx hs => by
        unfold syllogistref_ViewCheck_b48
        rw [geti_d [] (by omega), Option.bind_some, geti_d [] (show s < m.sees.length by omega)]
        simp only [Option.isSome_some, Bool.or_true, cond_true, Option.getD_some, Option.bind_some]
        rw [for_out (n := (m.next[s]?.getD []).length) (fun j => lenB m ((m.next[s]?.getD [])[j]?.getD [])) (some 3) rfl (fun j nx' hj => by
          unfold syllogistref_ViewCheck_b71
          rw [geti_d [] hj, Option.bind_some]; rfl), any_at]
        unfold syllogistref_ViewCheck_k67 rowB
        cases (((m.next[s]?.getD []).length : Int) != m.users) || (((m.sees[s]?.getD []).length : Int) != m.users) <;> cases (m.next[s]?.getD []).any (lenB m) <;> rfl)]
      cases hr : anyN m.n.toNat (rowB m) with
      | true => rfl
      | false =>
        rw [cond_false, cond_false]
        unfold syllogistref_ViewCheck_k5
        rw [decide_eq_true (by omega), cond_true]
        rw [for_out (n := m.next.length) (fun s => rowO m (m.next[s]?.getD [])) (some 2) hl.1.symm (fun s nx hs => by
          unfold syllogistref_ViewCheck_b13
          rw [geti_d [] hs, Option.bind_some]
          rw [for_out (n := (m.next[s]?.getD []).length) (fun j => anyO m ((m.next[s]?.getD [])[j]?.getD [])) (some 2) rfl (fun j nx' hj => by
            unfold syllogistref_ViewCheck_b27
            rw [geti_d [] hj, Option.bind_some]
            rw [for_out (n := ((m.next[s]?.getD [])[j]?.getD []).length) (fun i => ofs m (((m.next[s]?.getD [])[j]?.getD [])[i]?.getD 0)) (some 2) rfl (fun i nx'' hi => by
              unfold syllogistref_ViewCheck_b41
              rw [geti_d 0 hi, Option.bind_some]; rfl), any_at]
            rfl), any_at]
          rfl), any_at]
        unfold syllogistref_ViewCheck_k9
        cases m.next.any (rowO m) <;> rfl

/-! ### Where a word leads -/
def badA (m : Machine) (a : Act) : Bool := ((((decide (a.user < (0 : Int))) || (decide (a.user ≥ m.users))) || (decide (a.act < (0 : Int)))) || (decide (a.act ≥ m.acts)))
def dAct : Act := { user := 0, act := 0 }
def to_ (m : Machine) (s : Int) (a : Act) : Int := (((m.next[s.toNat]?.getD [])[a.user.toNat]?.getD [])[a.act.toNat]?.getD 0)
def led (m : Machine) (w : List Act) : Nat → Int
  | 0 => 0
  | j + 1 => to_ m (led m w j) (w[j]?.getD dAct)
structure OkM (m : Machine) : Prop where
  n1 : 1 ≤ m.n
  n6 : m.n ≤ 6
  len : (m.next.length : Int) = m.n
  row : ∀ r ∈ m.next, (r.length : Int) = m.users ∧ ∀ l ∈ r, (l.length : Int) = m.acts
  inr : ∀ r ∈ m.next, ∀ l ∈ r, ∀ y ∈ l, 0 ≤ y ∧ y < m.n
theorem vchk_ok {m : Machine} (h : vchk m = 0) : OkM m := by
  unfold vchk at h
  cases hb : bigM m with
  | true => rw [hb] at h; cases h
  | false =>
    cases hl : ((m.next.length : Int) != m.n) || ((m.sees.length : Int) != m.n) with
    | true => rw [hb, hl] at h; cases h
    | false =>
      cases hr : anyN m.n.toNat (rowB m) with
      | true => rw [hb, hl, hr] at h; cases h
      | false =>
        cases ho : m.next.any (rowO m) with
        | true => rw [hb, hl, hr, ho] at h; cases h
        | false =>
          unfold bigM at hb
          simp only [Bool.or_eq_false_iff, decide_eq_false_iff_not, bne_eq_false_iff_eq] at hb hl
          refine ⟨by omega, by omega, hl.1, rowB_spec hl.1 hr, fun r hr l hl' y hy => ?_⟩
          have h1 := List.any_eq_false.1 ho r hr
          unfold rowO at h1
          rw [Bool.not_eq_true] at h1
          have h2 := List.any_eq_false.1 h1 l hl'
          unfold anyO at h2
          rw [Bool.not_eq_true] at h2
          have h3 := List.any_eq_false.1 h2 y hy
          unfold ofs at h3
          rw [Bool.not_eq_true, Bool.or_eq_false_iff, decide_eq_false_iff_not, decide_eq_false_iff_not] at h3
          omega
theorem getD_in {α : Type} {l : List α} {i : Nat} {d : α} : l[i]?.getD d = d ∨ l[i]?.getD d ∈ l := by
  cases h : l[i]? with
  | none => exact .inl rfl
  | some y => exact .inr (get_mem h)
theorem to_in {m : Machine} (h : OkM m) (s : Int) (a : Act) : 0 ≤ to_ m s a ∧ to_ m s a < m.n := by
  have h1 := h.n1
  have h0 : (0 : Int) ≤ 0 ∧ (0 : Int) < m.n := ⟨by omega, by omega⟩
  unfold to_
  rcases getD_in (l := (m.next[s.toNat]?.getD [])[a.user.toNat]?.getD []) (i := a.act.toNat) (d := (0 : Int)) with e | hy
  · rw [e]; exact h0
  · rcases getD_in (l := m.next[s.toNat]?.getD []) (i := a.user.toNat) (d := ([] : List Int)) with e | hl
    · rw [e] at hy; simp at hy
    · rcases getD_in (l := m.next) (i := s.toNat) (d := ([] : List (List Int))) with e | hr
      · rw [e] at hl; simp at hl
      · exact h.inr _ hr _ hl _ hy

/-! ### States that are alike -/
structure OkV (m : Machine) (n U A : Nat) : Prop where
  en : m.n = n
  eu : m.users = U
  ea : m.acts = A
  n1 : 1 ≤ n
  n6 : n ≤ 6
  u3 : U ≤ 3
  a2 : A ≤ 2
  ok : OkM m
  sl : m.sees.length = n
  sr : ∀ r ∈ m.sees, r.length = U
theorem vchk_okV {m : Machine} (h : vchk m = 0) : ∃ n U A, OkV m n U A := by
  have ok := vchk_ok h
  unfold vchk at h
  cases hb : bigM m with
  | true => rw [hb] at h; cases h
  | false =>
    cases hl : ((m.next.length : Int) != m.n) || ((m.sees.length : Int) != m.n) with
    | true => rw [hb, hl] at h; cases h
    | false =>
      cases hr : anyN m.n.toNat (rowB m) with
      | true => rw [hb, hl, hr] at h; cases h
      | false =>
        unfold bigM at hb
        simp only [Bool.or_eq_false_iff, decide_eq_false_iff_not, bne_eq_false_iff_eq] at hb hl
        refine ⟨m.n.toNat, m.users.toNat, m.acts.toNat, by omega, by omega, by omega, by omega, by omega, by omega, by omega, ok, by omega, fun r hr' => ?_⟩
        obtain ⟨i, hi, rfl⟩ := List.getElem_of_mem hr'
        have := anyN_false.1 hr i (by omega)
        unfold rowB at this
        simp only [Bool.or_eq_false_iff, bne_eq_false_iff_eq] at this
        rw [getd_at [] hi] at this
        omega
def nxN (m : Machine) (s u a : Nat) : Nat := (to_ m s { user := u, act := a }).toNat
def svN (m : Machine) (s u : Nat) : Int := (m.sees[s]?.getD [])[u]?.getD 0
def samN (m : Machine) (hd : BitVec 32) (U s t : Nat) : Bool := allN U fun u => hd.getLsbD u || svN m s u == svN m t u
def stp (m : Machine) (hd : BitVec 32) (U A : Nat) (R : Nat → Nat → Bool) (s t : Nat) : Bool := allN U fun u => allN A fun a => hd.getLsbD u || R (nxN m s u a) (nxN m t u a)
def Rk (m : Machine) (hd : BitVec 32) (U A : Nat) : Nat → Nat → Nat → Bool
  | 0, _, _ => true
  | k + 1, s, t => (Rk m hd U A k s t && samN m hd U s t) && stp m hd U A (Rk m hd U A k) s t
section
variable {m : Machine} {n U A : Nat} {hd : BitVec 32}
theorem OkV.see1 (h : OkV m n U A) {s : Nat} (hs : s < n) : geti m.sees (s : Int) = some (m.sees[s]?.getD []) := geti_d [] (by have := h.sl; omega)
theorem OkV.see2 (h : OkV m n U A) {s u : Nat} (hs : s < n) (hu : u < U) : geti (m.sees[s]?.getD []) (u : Int) = some (svN m s u) := by
  have hl : s < m.sees.length := by have := h.sl; omega
  unfold svN
  rw [getd_at [] hl]
  exact geti_d 0 (by rw [h.sr _ (List.getElem_mem hl)]; exact hu)
theorem OkV.nx1 (h : OkV m n U A) {s : Nat} (hs : s < n) : geti m.next (s : Int) = some (m.next[s]?.getD []) := geti_d [] (by have := h.ok.len; have := h.en; omega)
theorem OkV.nx2 (h : OkV m n U A) {s u : Nat} (hs : s < n) (hu : u < U) : geti (m.next[s]?.getD []) (u : Int) = some ((m.next[s]?.getD [])[u]?.getD []) := by
  have hl : s < m.next.length := by have := h.ok.len; have := h.en; omega
  refine geti_d [] ?_
  rw [getd_at [] hl]
  have := (h.ok.row _ (List.getElem_mem hl)).1
  have := h.eu
  omega
theorem OkV.nxlt (h : OkV m n U A) (s u a : Nat) : nxN m s u a < n := by
  have := to_in h.ok (s : Int) { user := u, act := a }
  have := h.en
  unfold nxN; omega
theorem OkV.nx3 (h : OkV m n U A) {s u a : Nat} (hs : s < n) (hu : u < U) (ha : a < A) : geti ((m.next[s]?.getD [])[u]?.getD []) (a : Int) = some ((nxN m s u a : Nat) : Int) := by
  have hl : s < m.next.length := by have := h.ok.len; have := h.en; omega
  have hr := h.ok.row _ (List.getElem_mem hl)
  have hu' : u < m.next[s].length := by have := h.eu; omega
  have hla := hr.2 _ (List.getElem_mem hu')
  have e : ((nxN m s u a : Nat) : Int) = to_ m s { user := u, act := a } := by
    have := to_in h.ok (s : Int) { user := u, act := a }
    unfold nxN; omega
  rw [e]
  have : ((m.next[s]?.getD [])[u]?.getD []).length = A := by
    rw [getd_at [] hl, getd_at [] hu']
    have := h.ea; omega
  exact geti_d 0 (by omega)
theorem allN_any {n : Nat} {p : Nat → Bool} : allN n p = !anyN n (fun j => !p j) := by
  rw [Bool.eq_iff_iff, allN_iff, Bool.not_eq_true', anyN_false]
  simp

theorem same_eq (h : OkV m n U A) {s t : Nat} (hs : s < n) (ht : t < n) : view_same m hd s t = some (samN m hd U s t) := by
  unfold view_same
  rw [decide_eq_true (by have := h.eu; have := h.u3; omega), cond_true]
  rw [for_out (n := U) (fun u => !(hd.getLsbD u || svN m s u == svN m t u)) (some false) h.eu (fun u nx hu => by
    unfold view_same_b9
    simp only [h.see1 hs, h.see1 ht, h.see2 hs hu, h.see2 ht hu, Option.getD_some, Option.isSome_some, Bool.or_true, cond_true, Int.toNat_natCast, bit_shr1]
    rw [bne, Bool.not_or])]
  unfold samN view_same_k5
  rw [allN_any]
  cases anyN U (fun j => !(hd.getLsbD j || svN m s j == svN m t j)) <;> rfl
theorem bit_eq (w : BitVec 32) {j : Nat} (hj : j < 32) : syllogistref_Bit w j = some (w.getLsbD j) := by
  unfold syllogistref_Bit
  rw [bit_shape w j hj]
theorem sees_eq (h : OkV m n U A) {s t : Nat} (hs : s < n) (ht : t < n) : syllogistref_Sees m hd s t = some (samN m hd U s t) := by
  unfold syllogistref_Sees
  have := h.u3
  rw [decide_eq_true (by have := h.eu; omega), cond_true]
  rw [for_out (n := U) (fun u => !(hd.getLsbD u || svN m s u == svN m t u)) (some false) h.eu (fun u nx hu => by
    unfold syllogistref_Sees_b9
    rw [bit_eq hd (by omega), Option.bind_some]
    simp only [h.see1 hs, h.see1 ht, h.see2 hs hu, h.see2 ht hu, Option.getD_some, Option.isSome_some, Bool.or_true, cond_true]
    rw [bne, Bool.not_or])]
  unfold samN syllogistref_Sees_k5
  rw [allN_any]
  cases anyN U (fun j => !(hd.getLsbD j || svN m s j == svN m t j)) <;> rfl

end

theorem wrong_eq (m : Machine) (hd : BitVec 32) : view_wrong m hd = some (bif vchk m != 0 then vchk m else bif decide (hd < 1#32 <<< m.users.toNat) then 0 else 4) ∧ syllogistlaw_hiddenCode m hd = some (bif vchk m != 0 then vchk m else bif decide (hd < 1#32 <<< m.users.toNat) then 0 else 4) := by
  unfold view_wrong syllogistlaw_hiddenCode
  have e1 : view_Check { n := m.n, users := m.users, acts := m.acts, next := m.next, sees := m.sees } = some (vchk m) := check_prog m
  have e2 : syllogistref_ViewCheck { n := m.n, users := m.users, acts := m.acts, next := m.next, sees := m.sees } = some (vchk m) := check_ref m
  rw [e1, e2, Option.bind_some, Option.bind_some]
  by_cases hc : vchk m = 0
  · obtain ⟨n, U, A, h⟩ := vchk_okV hc
    have hu := h.eu
    have hu3 := h.u3
    have hF : syllogistref_Fits m.users hd = some (decide (hd < 1#32 <<< m.users.toNat)) := by
      unfold syllogistref_Fits
      rw [hu, fits_shape (by omega), Int.toNat_natCast]
    rw [hc, hF]
    simp only [bne_self_eq_false, cond_false, beq_self_eq_true, Bool.true_and, Option.isSome_some, Bool.or_true, cond_true, Option.getD_some]
    rw [decide_eq_true (by omega), cond_true, shr_ne (by omega)]
    cases decide (hd < 1#32 <<< m.users.toNat) <;> exact ⟨rfl, rfl⟩
  · have h3 : (vchk m != 0) = true := by simpa using hc
    have h4 : (vchk m == 0) = false := by simpa using hc
    rw [h3, h4]
    exact ⟨rfl, rfl⟩

end Go.Proofs.Ytbbenieabpmghaa.Sy
