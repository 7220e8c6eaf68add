/- Lists that grow till nothing is new: plain lemmas (own lemmas); no program in sight. -/
import Derived.Test.YtefaglkgpaloeaaSyP
namespace Go.Proofs.Ytefaglkgpaloeaa.Sy

/-- Is it so? -/
noncomputable def tru (p : Prop) : Bool := @decide p (Classical.propDecidable p)
theorem tru_iff {p : Prop} : tru p = true ↔ p := by unfold tru; exact @decide_eq_true_iff p (Classical.propDecidable p)
theorem tru_false {p : Prop} : tru p = false ↔ ¬p := by rw [← Bool.not_eq_true, tru_iff]
theorem tru_of {p : Prop} {b : Bool} (h : b = true ↔ p) : b = tru p := by rw [Bool.eq_iff_iff, h, tru_iff]
theorem tru_congr {p q : Prop} (h : p ↔ q) : tru p = tru q := by rw [Bool.eq_iff_iff, tru_iff, tru_iff, h]
theorem tru_dec {p : Prop} [Decidable p] : decide p = tru p := tru_of decide_eq_true_iff
theorem cond_nx {α β : Type} (f : α → β) (b : Bool) (x y : α) : (bif b then f x else f y) = f (bif b then x else y) := by cases b <;> rfl
theorem geti_d {α : Type} {xs : List α} {j : Nat} (d : α) (h : j < xs.length) : geti xs (j : Int) = some (xs[j]?.getD d) := by
  rw [geti_at h, List.getElem?_eq_getElem h]; rfl
theorem getd_at {α : Type} {xs : List α} {j : Nat} (d : α) (h : j < xs.length) : xs[j]?.getD d = xs[j] := by
  rw [List.getElem?_eq_getElem h]; rfl
theorem w64_succ {j : Nat} (h : j < 9223372036854775807) : w64 ((j : Int) + 1) = ((j + 1 : Nat) : Int) := by
  rw [w64_id (by omega) (by omega)]; omega

inductive Rc {α : Type} (st : α → α → Prop) (a : α) : α → Prop
  | refl : Rc st a a
  | tail {b c : α} : Rc st a b → st b c → Rc st a c
theorem Rc.one {α : Type} {st : α → α → Prop} {a b : α} (h : st a b) : Rc st a b := .tail .refl h
theorem Rc.trans {α : Type} {st : α → α → Prop} {a b c : α} (h : Rc st a b) (k : Rc st b c) : Rc st a c := by
  induction k with
  | refl => exact h
  | tail _ e ih => exact ih.tail e
theorem Rc.symm {α : Type} {st : α → α → Prop} (hs : ∀ a b, st a b → st b a) {a b : α} (h : Rc st a b) : Rc st b a := by
  induction h with
  | refl => exact .refl
  | tail _ e ih => exact (Rc.one (hs _ _ e)).trans ih
theorem Rc.inv {α : Type} {st : α → α → Prop} {a b : α} (P : α → Prop) (h : Rc st a b) (ha : P a) (hs : ∀ x y, P x → st x y → P y) : P b := by
  induction h with
  | refl => exact ha
  | tail _ e ih => exact hs _ _ ih e
theorem Rc.mono {α : Type} {st st' : α → α → Prop} {a b : α} (h : Rc st a b) (hs : ∀ x y, st x y → st' x y) : Rc st' a b := by
  induction h with
  | refl => exact .refl
  | tail _ e ih => exact ih.tail (hs _ _ e)

theorem nodup_lenG {α : Type} [DecidableEq α] : ∀ {l t : List α}, l.Nodup → (∀ x ∈ l, x ∈ t) → l.length ≤ t.length
  | [], t, _, _ => by simp
  | a :: l, t, hd, hs => by
    rw [List.nodup_cons] at hd
    have ha : a ∈ t := hs a (by simp)
    have := nodup_lenG (t := t.erase a) hd.2 fun x hx => by
      have hne : x ≠ a := fun e => hd.1 (e ▸ hx)
      exact (List.mem_erase_of_ne hne).2 (hs x (by simp [hx]))
    rw [List.length_erase_of_mem ha] at this
    have hp := List.length_pos_of_mem ha
    simp; omega

structure BI {α : Type} (st : α → α → Prop) (a : α) (U : List α) (k : Nat) (l : List α) : Prop where
  head : a ∈ l
  nd : l.Nodup
  rch : ∀ x ∈ l, Rc st a x
  sub : ∀ x ∈ l, x ∈ U
  done : ∀ i (h : i < l.length), i < k → ∀ c, st l[i] c → c ∈ l

section
variable {α : Type} {st : α → α → Prop} {a : α} {U : List α} {k : Nat} {l : List α}
theorem BI.start (ha : a ∈ U) : BI st a U 0 [a] :=
  ⟨by simp, by simp, fun x hx => by simp at hx; subst hx; exact .refl, fun x hx => by simp at hx; subst hx; exact ha, fun i _ hi => by omega⟩
theorem BI.len [DecidableEq α] (h : BI st a U k l) : l.length ≤ U.length := nodup_lenG h.nd h.sub
theorem BI.add (h : BI st a U k l) {b c : α} (hb : b ∈ l) (hst : st b c) (hc : c ∉ l) (hU : c ∈ U) (hk : k ≤ l.length) : BI st a U k (l ++ [c]) := by
  refine ⟨by simp [h.head], ?_, ?_, ?_, ?_⟩
  · rw [List.nodup_append]
    exact ⟨h.nd, by simp, fun x hx y hy e => by simp at hy; subst hy; subst e; exact hc hx⟩
  · intro x hx
    rcases List.mem_append.1 hx with hx | hx
    · exact h.rch x hx
    · simp at hx; subst hx; exact (h.rch b hb).tail hst
  · intro x hx
    rcases List.mem_append.1 hx with hx | hx
    · exact h.sub x hx
    · simp at hx; subst hx; exact hU
  · intro i hi hik d hd
    have hil : i < l.length := by omega
    rw [List.getElem_append_left hil] at hd
    exact List.mem_append_left _ (h.done i hil hik d hd)
theorem BI.next (h : BI st a U k l) (hk : k < l.length) (hd : ∀ c, st l[k] c → c ∈ l) : BI st a U (k + 1) l :=
  ⟨h.head, h.nd, h.rch, h.sub, fun i hi hik c hc => by
    by_cases e : i = k
    · subst e; exact hd c hc
    · exact h.done i hi (by omega) c hc⟩
theorem BI.fin (h : BI st a U k l) (hk : l.length ≤ k) (x : α) : x ∈ l ↔ Rc st a x := by
  refine ⟨h.rch x, fun hx => ?_⟩
  induction hx with
  | refl => exact h.head
  | tail _ e ih =>
    obtain ⟨i, hi, rfl⟩ := List.getElem_of_mem ih
    exact h.done i hi (by omega) _ e
end

/-- The same element stays where it stands. -/
theorem app_get {α : Type} {l : List α} {k : Nat} {x y : α} (h : l[k]? = some y) : (l ++ [x])[k]? = some y := by
  rw [List.getElem?_append_left ((List.getElem?_eq_some_iff.1 h).1)]; exact h
theorem get_mem {α : Type} {l : List α} {k : Nat} {y : α} (h : l[k]? = some y) : y ∈ l := by
  obtain ⟨hk, rfl⟩ := List.getElem?_eq_some_iff.1 h
  exact List.getElem_mem hk
theorem geti_of {α : Type} {l : List α} {k : Nat} {y : α} (h : l[k]? = some y) : geti l (k : Int) = some y := by rw [geti_nat?]; exact h
def natsI (n : Nat) : List Int := (List.range n).map Int.ofNat
theorem natsI_len (n : Nat) : (natsI n).length = n := by simp [natsI]
theorem natsI_mem {n : Nat} {x : Int} : x ∈ natsI n ↔ 0 ≤ x ∧ x < n := by
  simp only [natsI, List.mem_map, List.mem_range]
  constructor
  · rintro ⟨j, hj, rfl⟩
    have : Int.ofNat j = (j : Int) := rfl
    omega
  · rintro ⟨h0, h1⟩
    exact ⟨x.toNat, by omega, by have : Int.ofNat x.toNat = (x.toNat : Int) := rfl; omega⟩
end Go.Proofs.Ytefaglkgpaloeaa.Sy
