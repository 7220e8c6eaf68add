/- Lists that grow till nothing is new: plain lemmas (own lemmas); no program in sight. -/
import Derived.Test.YtkdhckiljfjanaaSyP
namespace Go.Proofs.Ytkdhckiljfjanaa.Sy

/-- Is it so? -/
noncomputable def tru (p : Prop) : Bool := @decide p (Classical.propDecidable p)
theorem tru_iff {p : Prop} : tru p = true ↔ p := by unfold tru; exact @decide_eq_true_iff p (Classical.propDecidable p)
theorem tru_false {p : Prop} : tru p = false ↔ ¬p := by rw [← Bool.not_eq_true, tru_iff]
theorem tru_of {p : Prop} {b : Bool} (h : b = true ↔ p) : b = tru p := by rw [Bool.eq_iff_iff, h, tru_iff]
theorem tru_congr {p q : Prop} (h : p ↔ q) : tru p = tru q := by rw [Bool.eq_iff_iff, tru_iff, tru_iff, h]
theorem tru_dec {p : Prop} [Decidable p] : decide p = tru p := tru_of decide_eq_true_iff
theorem cond_nx {α β : Type} (f : α → β) (b : Bool) (x y : α) : (bif b then f x else f y) = f (bif b then x else y) := by cases b <;> rfl
theorem geti_d {α : Type} {xs : List α} {j : Nat} (d : α) (h : j < xs.length) : geti xs (j : Int) = some (xs[j]?.getD d) := by
  rw [geti_at h, List.getElem?_eq_getElem h]; rfl
theorem getd_at {α : Type} {xs : List α} {j : Nat} (d : α) (h : j < xs.length) : xs[j]?.getD d = xs[j] := by
  rw [List.getElem?_eq_getElem h]; rfl
theorem w64_succ {j : Nat} (h : j < 9223372036854775807) : w64 ((j : Int) + 1) = ((j + 1 : Nat) : Int) := by
  rw [w64_id (by omega) (by omega)]; omega

inductive Rc {α : Type} (st : α → α → Prop) (a : α) : α → Prop
  | refl : Rc st a a
  | tail {b c : α} : Rc st a b → st b c → Rc st a c
theorem Rc.one {α : Type} {st : α → α → Prop} {a b : α} (h : st a b) : Rc st a b := .tail .refl h
theorem Rc.trans {α : Type} {st : α → α → Prop} {a b c : α} (h : Rc st a b) (k : Rc st b c) : Rc st a c := by
  induction k with
  | refl => exact h
  | tail _ e ih => exact ih.tail e
theorem Rc.symm {α : Type} {st : α → α → Prop} (hs : ∀ a b, st a b → st b a) {a b : α} (h : Rc st a b) : Rc st b a := by
  induction h with
  | refl => exact .refl
  | tail _ e ih => exact (Rc.one (hs _ _ e)).trans ih
theorem Rc.inv {α : Type} {st : α → α → Prop} {a b : α} (P : α → Prop) (h : Rc st a b) (ha : P a) (hs : ∀ x y, P x → st x y → P y) : P b := by
  induction h with
  | refl => exact ha
  | tail _ e ih => exact hs _ _ ih e
theorem Rc.mono {α : Type} {st st' : α → α → Prop} {a b : α} (h : Rc st a b) (hs : ∀ x y, st x y → st' x y) : Rc st' a b := by
  induction h with
  | refl => exact .refl
  | tail _ e ih => exact ih.tail (hs _ _ e)

theorem nodup_lenG {α : Type} [DecidableEq α] : ∀ {l t : List α}, l.Nodup → (∀ x ∈ l, x ∈ t) → l.length ≤ t.length
  | [], t, _, _ => by simp
  | a :: l, t, hd, hs => by
    rw [List.nodup_cons] at hd
    have ha : a ∈ t := hs a (by simp)
    have := nodup_lenG (t := t.erase a) hd.2 fun x hx => by
      have hne : x ≠ a := fun e => hd.1 (e ▸ hx)
      exact (List.mem_erase_of_ne hne).2 (hs x (by simp [hx]))
    rw [List.length_erase_of_mem ha] at this
    have hp := List.length_pos_of_mem ha
    simp; omega

structure BI {α : Type} (st : α → α → Prop) (a : α) (U : List α) (k : Nat) (l : List α) : Prop where
  head : a ∈ l
  nd : l.Nodup
  rch : ∀ x ∈ l, Rc st a x
  sub : ∀ x ∈ l, x ∈ U
  done : ∀ i (h : i < l.length), i < k → ∀ c, st l[i] c → c ∈ l

section
variable {α : Type} {st : α → α → Prop} {a : α} {U : List α} {k : Nat} {l : List α}
theorem BI.start (ha : a ∈ U) : BI st a U 0 [a] :=
  ⟨by simp, by simp, fun x hx => by simp at hx; subst hx; exact .refl, fun x hx => by simp at hx; subst hx; exact ha, fun i _ hi => by omega⟩
theorem BI.len [DecidableEq α] (h : BI st a U k l) : l.length ≤ U.length := nodup_lenG h.nd h.sub
theorem BI.add (h : BI st a U k l) {b c : α} (hb : b ∈ l) (hst : st b c) (hc : c ∉ l) (hU : c ∈ U) (hk : k ≤ l.length) : BI st a U k (l ++ [c]) := by
  refine ⟨by simp [h.head], ?_, ?_, ?_, ?_⟩
  · rw [List.nodup_append]
    exact ⟨h.nd, by simp, fun x hx y hy e => by simp at hy; subst hy; subst e; exact hc hx⟩
  · intro x hx
    rcases List.mem_append.1 hx with hx | hx
    · exact h.rch x hx
    · simp at hx; subst hx; exact (h.rch b hb).tail hst
  · intro x hx
    rcases List.mem_append.1 hx with hx | hx
    · exact h.sub x hx
    · simp at hx; subst hx; exact hU
  · intro i hi hik d hd
    have hil : i < l.length := by omega
    rw [List.getElem_append_left hil] at hd
    exact List.mem_append_left _ (h.done i hil hik d hd)
theorem BI.next (h : BI st a U k l) (hk : k < l.length) (hd : ∀ c, st l[k] c → c ∈ l) : BI st a U (k + 1) l :=
  ⟨h.head, h.nd, h.rch, h.sub, fun i hi hik c hc => by
    by_cases e : i = k
    · subst e; exact hd c hc
    · exact h.done i hi (by omega) c hc⟩
theorem BI.fin (h : BI st a U k l) (hk : l.length ≤ k) (x : α) : x ∈ l ↔ Rc st a x := by
  refine ⟨h.rch x, fun hx => ?_⟩
  induction hx with
  | refl => exact h.head
  | tail _ e ih =>
    obtain ⟨i, hi, rfl⟩ := List.getElem_of_mem ih
    exact h.done i hi (by omega) _ e
end

/-- The same element stays where it stands. -/
theorem app_get {α : Type} {l : List α} {k : Nat} {x y : α} (h : l[k]? = some y) : (l ++ [x])[k]? = some y := by
  rw [List.getElem?_append_left ((List.getElem?_eq_some_iff.1 h).1)]; exact h
theorem get_mem {α : Type} {l : List α} {k : Nat} {y : α} (h : l[k]? = some y) : y ∈ l := by
  obtain ⟨hk, rfl⟩ := List.getElem?_eq_some_iff.1 h
  exact List.getElem_mem hk
theorem geti_of {α : Type} {l : List α} {k : Nat} {y : α} (h : l[k]? = some y) : geti l (k : Int) = some y := by rw [geti_nat?]; exact h
def natsI (n : Nat) : List Int := (List.range n).map Int.ofNat
theorem natsI_len (n : Nat) : (natsI n).length = n := by simp [natsI]
theorem natsI_mem {n : Nat} {x : Int} : x ∈ natsI n ↔ 0 ≤ x ∧ x < n := by
  simp only [natsI, List.mem_map, List.mem_range]
  constructor
  · rintro ⟨j, hj, rfl⟩
    have : Int.ofNat j = (j : Int) := rfl
    omega
  · rintro ⟨h0, h1⟩
    exact ⟨x.toNat, by omega, by have : Int.ofNat x.toNat = (x.toNat : Int) := rfl; omega⟩

/-! ### Lists that are made, and then filled -/
def tab {α : Type} (n : Nat) (g : Nat → α) : List α := apps n fun j => [g j]
theorem tab_len {α : Type} {n : Nat} {g : Nat → α} : (tab n g).length = n := apps_one_len
theorem tab_get {α : Type} {n : Nat} {g : Nat → α} {j : Nat} (h : j < n) : (tab n g)[j]? = some (g j) := apps_one_get h
theorem tab_getD {α : Type} {n : Nat} {g : Nat → α} {j : Nat} (d : α) (h : j < n) : (tab n g)[j]?.getD d = g j := by rw [tab_get h]; rfl
theorem tab_at {α : Type} {n : Nat} {g : Nat → α} {j : Nat} (h : j < (tab n g).length) : (tab n g)[j] = g j := by
  have h' := tab_get (g := g) (show j < n by rwa [tab_len] at h)
  rw [List.getElem?_eq_getElem h] at h'
  exact Option.some.inj h'
theorem tab_geti {α : Type} {n : Nat} {g : Nat → α} {j : Nat} (h : j < n) : geti (tab n g) (j : Int) = some (g j) := by rw [geti_nat?, tab_get h]
theorem tab_congr {α : Type} {n : Nat} {f g : Nat → α} (h : ∀ j, j < n → f j = g j) : tab n f = tab n g := apps_congr fun j hj => by rw [h j hj]
theorem tab_of {α : Type} (d : α) {n : Nat} {l : List α} (hl : l.length = n) : l = tab n fun j => l[j]?.getD d :=
  apps_eq_of_get hl fun j hj => by rw [List.getElem?_eq_getElem hj]; rfl
theorem tab_succ {α : Type} {n : Nat} {g : Nat → α} : tab (n + 1) g = tab n g ++ [g n] := rfl
theorem tab_set {α : Type} {n j : Nat} {g : Nat → α} {x : α} (h : j < n) : (tab n g).set j x = tab n fun i => if i = j then x else g i := by
  apply List.ext_getElem?
  intro i
  by_cases hi : i < n
  · rw [tab_get hi]
    by_cases e : j = i
    · subst e
      rw [List.getElem?_set_self (by rw [tab_len]; exact h), if_pos rfl]
    · rw [List.getElem?_set_ne e, tab_get hi, if_neg (fun h => e h.symm)]
  · rw [List.getElem?_eq_none (by rw [List.length_set, tab_len]; omega), List.getElem?_eq_none (by rw [tab_len]; omega)]
theorem tab_rep {α : Type} {n : Nat} {d : α} : List.replicate n d = tab n fun _ => d := by
  induction n with
  | zero => rfl
  | succ n ih => rw [List.replicate_succ', ih, tab_succ]
theorem for_tab {α R : Type} {body : Int → List α → (List α → Option R) → Option R} {k : List α → Option R} (g : Nat → α) {d : α} {b : Int} {n : Nat} (hb : b = n)
    (st : ∀ (j : Nat) s nx, j < n → s.length = n → body (j : Int) s nx = nx (s.set j (g j))) : forK body k (b - 0).toNat 0 (List.replicate n d) = k (tab n g) := by
  refine (for_rec (fun t => tab n fun i => if i < t then g i else d) hb ?_ (fun j nx hj => ?_)).trans ?_
  · rw [tab_rep]; exact tab_congr fun j _ => by rw [if_neg (by omega)]
  · rw [st j _ nx hj tab_len, tab_set hj]
    congr 1
    refine tab_congr fun i _ => ?_
    by_cases e : i = j
    · subst e; rw [if_pos rfl, if_pos (by omega)]
    · rw [if_neg e]
      by_cases h : i < j
      · rw [if_pos h, if_pos (by omega)]
      · rw [if_neg h, if_neg (by omega)]
  · congr 1
    exact tab_congr fun j hj => by rw [if_pos hj]

/-- Odd: of how many is it so? -/
def xorN : Nat → (Nat → Bool) → Bool
  | 0, _ => false
  | n + 1, p => xorN n p != p n
theorem xorN_congr {n : Nat} {p q : Nat → Bool} (h : ∀ j, j < n → p j = q j) : xorN n p = xorN n q := by
  induction n with
  | zero => rfl
  | succ n ih => rw [xorN, xorN, ih fun j hj => h j (by omega), h n (by omega)]
theorem xorN_ne {n : Nat} {p q : Nat → Bool} : xorN n (fun j => p j != q j) = (xorN n p != xorN n q) := by
  induction n with
  | zero => rfl
  | succ n ih =>
    rw [xorN, xorN, xorN, ih]
    generalize xorN n p = a
    generalize xorN n q = b
    generalize p n = c
    generalize q n = d
    cases a <;> cases b <;> cases c <;> cases d <;> rfl
theorem xorN_one {n : Nat} {s : Nat} {f : Nat → Bool} (hs : s < n) : xorN n (fun t => (t == s) && f t) = f s := by
  have key : ∀ m, xorN m (fun t => (t == s) && f t) = (decide (s < m) && f s) := by
    intro m
    induction m with
    | zero => simp [xorN]
    | succ m ih =>
      rw [xorN, ih]
      by_cases e : m = s
      · subst e
        rw [decide_eq_false (by omega), decide_eq_true (by omega)]
        simp
      · have : (m == s) = false := by simpa using e
        rw [this]
        by_cases h : s < m
        · rw [decide_eq_true h, decide_eq_true (by omega)]; simp
        · rw [decide_eq_false h, decide_eq_false (by omega)]; simp
  rw [key, decide_eq_true hs, Bool.true_and]
end Go.Proofs.Ytkdhckiljfjanaa.Sy
