/- Loops as closed forms: plain lemmas (own lemmas); no program in sight. -/
import Derived.Test.YtkdhckiljfjanaaSyM
namespace Go.Proofs.Ytkdhckiljfjanaa.Sy

/-! ### Loops over states that are known ahead -/
theorem for_rec {σ R : Type} {body : Int → σ → (σ → Option R) → Option R} {k : σ → Option R} (S : Nat → σ) {b : Int} {n : Nat} (hb : b = n) {s : σ} (h0 : s = S 0)
    (st : ∀ (j : Nat) nx, j < n → body (j : Int) (S j) nx = nx (S (j + 1))) : forK body k (b - 0).toNat 0 s = k (S n) := by
  subst h0
  exact for0_eq (fun j s => s = S j) hb _ rfl (fun j s nx hj hs hn => by subst hs; rw [st j nx hj]; exact hn _ rfl) (fun s hs => by subst hs; rfl)

/-- With a way out. -/
theorem for_find {σ R : Type} {body : Int → σ → (σ → Option R) → Option R} {k : σ → Option R} (S : Nat → σ) (e : Nat → Bool) (r : Nat → Option R) {b : Int} {n : Nat} (hb : b = n) {s : σ} (h0 : s = S 0)
    (st : ∀ (j : Nat) nx, j < n → body (j : Int) (S j) nx = bif e j then r j else nx (S (j + 1))) :
    (∃ j, j < n ∧ e j = true ∧ (∀ i, i < j → e i = false) ∧ forK body k (b - 0).toNat 0 s = r j) ∨ ((∀ j, j < n → e j = false) ∧ forK body k (b - 0).toNat 0 s = k (S n)) := by
  subst h0
  refine for0_q (Q := fun o => (∃ j, j < n ∧ e j = true ∧ (∀ i, i < j → e i = false) ∧ o = r j) ∨ ((∀ j, j < n → e j = false) ∧ o = k (S n))) (fun j s => s = S j ∧ ∀ i, i < j → e i = false) hb _ ⟨rfl, fun i hi => by omega⟩ (fun j s nx hj hs hn => ?_) (fun s hs => ?_)
  · obtain ⟨rfl, he⟩ := hs
    rw [st j nx hj]
    cases h : e j with
    | true => exact .inl ⟨j, hj, h, he, rfl⟩
    | false =>
      refine hn _ ⟨rfl, fun i hi => ?_⟩
      by_cases hij : i = j
      · subst hij; exact h
      · exact he i (by omega)
  · obtain ⟨rfl, he⟩ := hs
    exact .inr ⟨he, rfl⟩

/-- The counter a word. -/
theorem forU_rec {σ R : Type} {body : BitVec 32 → σ → (σ → Option R) → Option R} {k : σ → Option R} (S : Nat → σ) {B : BitVec 32} {s : σ} (h0 : s = S 0)
    (st : ∀ (c : BitVec 32) nx, c.toNat < B.toNat → body c (S c.toNat) nx = nx (S (c.toNat + 1))) : forK body k (B.toNat - (0#32).toNat) 0#32 s = k (S B.toNat) := by
  subst h0
  exact forU_q (Q := fun o => o = k (S B.toNat)) (fun j s => s = S j) _ rfl (fun c s nx hc hs hn => by subst hs; rw [st c nx hc]; exact hn _ rfl) (fun s hs => by subst hs; rfl)

/-! ### All, any, how many, which ones -/
def allN : Nat → (Nat → Bool) → Bool
  | 0, _ => true
  | n + 1, p => allN n p && p n
def anyN : Nat → (Nat → Bool) → Bool
  | 0, _ => false
  | n + 1, p => anyN n p || p n
def bset : Nat → (Nat → Bool) → BitVec 32
  | 0, _ => 0#32
  | n + 1, p => bif p n then bset n p ||| (1#32 <<< n) else bset n p
def apps {α : Type} : Nat → (Nat → List α) → List α
  | 0, _ => []
  | n + 1, f => apps n f ++ f n
def cntN : Nat → (Nat → Bool) → Nat
  | 0, _ => 0
  | n + 1, p => bif p n then cntN n p + 1 else cntN n p

theorem allN_iff {n : Nat} {p : Nat → Bool} : allN n p = true ↔ ∀ j, j < n → p j = true := by
  induction n with
  | zero => simp [allN]
  | succ n ih =>
    rw [allN, Bool.and_eq_true, ih]
    exact ⟨fun h j hj => if e : j = n then e ▸ h.2 else h.1 j (by omega), fun h => ⟨fun j hj => h j (by omega), h n (by omega)⟩⟩
theorem anyN_iff {n : Nat} {p : Nat → Bool} : anyN n p = true ↔ ∃ j, j < n ∧ p j = true := by
  induction n with
  | zero => simp [anyN]
  | succ n ih =>
    rw [anyN, Bool.or_eq_true, ih]
    exact ⟨fun h => h.elim (fun ⟨j, hj, e⟩ => ⟨j, by omega, e⟩) (fun e => ⟨n, by omega, e⟩), fun ⟨j, hj, e⟩ => if h : j = n then .inr (h ▸ e) else .inl ⟨j, by omega, e⟩⟩
theorem allN_false {n : Nat} {p : Nat → Bool} : allN n p = false ↔ ∃ j, j < n ∧ p j = false := by
  rw [← Bool.not_eq_true, allN_iff]
  simp only [Classical.not_forall, Bool.not_eq_true, exists_prop]
theorem anyN_false {n : Nat} {p : Nat → Bool} : anyN n p = false ↔ ∀ j, j < n → p j = false := by
  rw [← Bool.not_eq_true, anyN_iff]
  simp only [not_exists, not_and, Bool.not_eq_true]
theorem allN_congr {n : Nat} {p q : Nat → Bool} (h : ∀ j, j < n → p j = q j) : allN n p = allN n q := by
  induction n with
  | zero => rfl
  | succ n ih => rw [allN, allN, ih fun j hj => h j (by omega), h n (by omega)]
theorem anyN_congr {n : Nat} {p q : Nat → Bool} (h : ∀ j, j < n → p j = q j) : anyN n p = anyN n q := by
  induction n with
  | zero => rfl
  | succ n ih => rw [anyN, anyN, ih fun j hj => h j (by omega), h n (by omega)]
theorem bset_congr {n : Nat} {p q : Nat → Bool} (h : ∀ j, j < n → p j = q j) : bset n p = bset n q := by
  induction n with
  | zero => rfl
  | succ n ih => rw [bset, bset, ih fun j hj => h j (by omega), h n (by omega)]
theorem apps_congr {α : Type} {n : Nat} {f g : Nat → List α} (h : ∀ j, j < n → f j = g j) : apps n f = apps n g := by
  induction n with
  | zero => rfl
  | succ n ih => rw [apps, apps, ih fun j hj => h j (by omega), h n (by omega)]
theorem cntN_congr {n : Nat} {p q : Nat → Bool} (h : ∀ j, j < n → p j = q j) : cntN n p = cntN n q := by
  induction n with
  | zero => rfl
  | succ n ih => rw [cntN, cntN, ih fun j hj => h j (by omega), h n (by omega)]
theorem cntN_le {n : Nat} {p : Nat → Bool} : cntN n p ≤ n := by
  induction n with
  | zero => simp [cntN]
  | succ n ih =>
    rw [cntN]
    cases p n
    · rw [cond_false]; omega
    · rw [cond_true]; omega
theorem apps_mem {α : Type} {n : Nat} {f : Nat → List α} {x : α} : x ∈ apps n f ↔ ∃ j, j < n ∧ x ∈ f j := by
  induction n with
  | zero => simp [apps]
  | succ n ih =>
    rw [apps, List.mem_append, ih]
    exact ⟨fun h => h.elim (fun ⟨j, hj, e⟩ => ⟨j, by omega, e⟩) (fun e => ⟨n, by omega, e⟩), fun ⟨j, hj, e⟩ => if h : j = n then .inr (h ▸ e) else .inl ⟨j, by omega, e⟩⟩
theorem apps_len {α : Type} {n c : Nat} {f : Nat → List α} (h : ∀ j, j < n → (f j).length ≤ c) : (apps n f).length ≤ n * c := by
  induction n with
  | zero => simp [apps]
  | succ n ih =>
    rw [apps, List.length_append]
    have := ih fun j hj => h j (by omega)
    have := h n (by omega)
    rw [Nat.add_mul]; omega
theorem apps_one_len {α : Type} {n : Nat} {f : Nat → α} : (apps n fun j => [f j]).length = n := by
  induction n with
  | zero => rfl
  | succ n ih => rw [apps, List.length_append, ih]; rfl
theorem apps_one_get {α : Type} {n : Nat} {f : Nat → α} {j : Nat} (h : j < n) : (apps n fun j => [f j])[j]? = some (f j) := by
  induction n with
  | zero => omega
  | succ n ih =>
    rw [apps]
    by_cases e : j = n
    · subst e
      rw [List.getElem?_append_right (by rw [apps_one_len]; exact Nat.le_refl _), apps_one_len]; simp
    · rw [List.getElem?_append_left (by rw [apps_one_len]; omega)]
      exact ih (by omega)
theorem apps_eq_of_get {α : Type} {n : Nat} {f : Nat → α} {l : List α} (hl : l.length = n) (h : ∀ j (hj : j < l.length), l[j] = f j) : l = apps n fun j => [f j] := by
  apply List.ext_getElem?
  intro i
  by_cases hi : i < n
  · rw [apps_one_get hi, List.getElem?_eq_getElem (by omega), h i (by omega)]
  · rw [List.getElem?_eq_none (by omega), List.getElem?_eq_none (by rw [apps_one_len]; omega)]
theorem bset_bit {n : Nat} {p : Nat → Bool} (hn : n ≤ 32) (j : Nat) : (bset n p).getLsbD j = (decide (j < n) && p j) := by
  induction n with
  | zero => simp [bset]
  | succ n ih =>
    have ih := ih (by omega)
    rw [bset]
    cases hp : p n with
    | true =>
      rw [cond_true, BitVec.getLsbD_or, ih, Bool.eq_iff_iff]
      simp only [Bool.or_eq_true, Bool.and_eq_true, decide_eq_true_eq, one_shl]
      constructor
      · rintro (⟨h1, h2⟩ | ⟨h1, h2⟩)
        · exact ⟨by omega, h2⟩
        · subst h1; exact ⟨by omega, hp⟩
      · rintro ⟨h1, h2⟩
        by_cases e : j = n
        · exact .inr ⟨e, by omega⟩
        · exact .inl ⟨by omega, h2⟩
    | false =>
      rw [cond_false, ih, Bool.eq_iff_iff]
      simp only [Bool.and_eq_true, decide_eq_true_eq]
      constructor
      · rintro ⟨h1, h2⟩; exact ⟨by omega, h2⟩
      · rintro ⟨h1, h2⟩
        refine ⟨?_, h2⟩
        by_cases e : j = n
        · subst e; rw [hp] at h2; cases h2
        · omega
theorem bset_bel {n : Nat} {p : Nat → Bool} (hn : n ≤ 32) : bel n (bset n p) := fun j h => by
  rw [bset_bit hn, Bool.and_eq_true, decide_eq_true_eq] at h; exact h.1
theorem bset_of {n : Nat} {s : BitVec 32} (hn : n ≤ 32) (hs : bel n s) : s = bset n s.getLsbD := bits_ext fun i => by
  rw [bset_bit hn, Bool.and_eq_true, decide_eq_true_eq]
  exact ⟨fun h => ⟨hs i h, h⟩, fun h => h.2⟩
theorem bset_add {n : Nat} {p : Nat → Bool} (hn : n < 32) : bset n p + (1#32 <<< n) = bset n p ||| (1#32 <<< n) := by
  refine BitVec.add_eq_or_of_and_eq_zero _ _ (bits_ext fun i => ?_)
  rw [BitVec.getLsbD_and, Bool.and_eq_true, one_shl]
  simp only [BitVec.getLsbD_zero, Bool.false_eq_true, iff_false]
  rintro ⟨h, e, _⟩
  have := bset_bel (by omega) i h
  omega

section
variable {σ R : Type}
theorem for_all {body : Int → Bool → (Bool → Option R) → Option R} {k : Bool → Option R} (p : Nat → Bool) {b : Int} {n : Nat} (hb : b = n) {s : Bool} (st : ∀ (j : Nat) s nx, j < n → body (j : Int) s nx = nx (s && p j)) :
    forK body k (b - 0).toNat 0 s = k (s && allN n p) :=
  for_rec (fun j => s && allN j p) hb (by simp [allN]) fun j nx hj => by rw [st j _ nx hj, allN, Bool.and_assoc]
theorem for_any {body : Int → Bool → (Bool → Option R) → Option R} {k : Bool → Option R} (p : Nat → Bool) {b : Int} {n : Nat} (hb : b = n) {s : Bool} (st : ∀ (j : Nat) s nx, j < n → body (j : Int) s nx = nx (s || p j)) :
    forK body k (b - 0).toNat 0 s = k (s || anyN n p) :=
  for_rec (fun j => s || anyN j p) hb (by simp [anyN]) fun j nx hj => by rw [st j _ nx hj, anyN, Bool.or_assoc]
theorem for_bset {body : Int → BitVec 32 → (BitVec 32 → Option R) → Option R} {k : BitVec 32 → Option R} (p : Nat → Bool) {b : Int} {n : Nat} (hb : b = n) (st : ∀ (j : Nat) s nx, j < n → body (j : Int) s nx = nx (bif p j then s ||| (1#32 <<< j) else s)) :
    forK body k (b - 0).toNat 0 0#32 = k (bset n p) :=
  for_rec (fun j => bset j p) hb rfl fun j nx hj => by rw [st j _ nx hj]; rfl
theorem for_bset_add {body : Int → BitVec 32 → (BitVec 32 → Option R) → Option R} {k : BitVec 32 → Option R} (p : Nat → Bool) {b : Int} {n : Nat} (hb : b = n) (hn : n ≤ 32) (st : ∀ (j : Nat) s nx, j < n → body (j : Int) s nx = nx (bif p j then s + (1#32 <<< j) else s)) :
    forK body k (b - 0).toNat 0 0#32 = k (bset n p) :=
  for_rec (fun j => bset j p) hb rfl fun j nx hj => by rw [st j _ nx hj, bset_add (by omega)]; rfl
theorem for_apps {α : Type} {body : Int → List α → (List α → Option R) → Option R} {k : List α → Option R} (f : Nat → List α) {b : Int} {n : Nat} (hb : b = n) (st : ∀ (j : Nat) s nx, j < n → s = apps j f → body (j : Int) s nx = nx (s ++ f j)) :
    forK body k (b - 0).toNat 0 [] = k (apps n f) :=
  for_rec (fun j => apps j f) hb rfl fun j nx hj => by rw [st j _ nx hj rfl]; rfl
theorem forU_apps {α : Type} {body : BitVec 32 → List α → (List α → Option R) → Option R} {k : List α → Option R} (f : Nat → List α) {B : BitVec 32} (st : ∀ (c : BitVec 32) s nx, c.toNat < B.toNat → s = apps c.toNat f → body c s nx = nx (s ++ f c.toNat)) :
    forK body k (B.toNat - (0#32).toNat) 0#32 [] = k (apps B.toNat f) :=
  forU_rec (fun j => apps j f) rfl fun c nx hc => by rw [st c _ nx hc rfl]; rfl
theorem for_cnt {body : Int → Int → (Int → Option R) → Option R} {k : Int → Option R} (p : Nat → Bool) {b : Int} {n : Nat} (hb : b = n) (hn : n ≤ 1000000) (st : ∀ (j : Nat) s nx, j < n → body (j : Int) s nx = nx (bif p j then w64 (s + 1) else s)) :
    forK body k (b - 0).toNat 0 (0 : Int) = k (cntN n p : Int) :=
  for_rec (fun j => (cntN j p : Int)) hb rfl fun j nx hj => by
    rw [st j _ nx hj]
    have := cntN_le (n := j) (p := p)
    have e : w64 ((cntN j p : Int) + 1) = (cntN j p : Int) + 1 := w64_id (by omega) (by omega)
    rw [e, cntN]
    cases p j
    · rfl
    · rw [cond_true, cond_true]; rfl
/-- A way out to one place. -/
theorem for_out {body : Int → σ → (σ → Option R) → Option R} {k : σ → Option R} (e : Nat → Bool) (r : Option R) {b : Int} {n : Nat} (hb : b = n) {s : σ} (st : ∀ (j : Nat) nx, j < n → body (j : Int) s nx = bif e j then r else nx s) :
    forK body k (b - 0).toNat 0 s = bif anyN n e then r else k s := by
  rcases for_find (k := k) (fun _ => s) e (fun _ => r) hb rfl st with ⟨j, hj, he, _, h⟩ | ⟨h1, h2⟩
  · rw [h, anyN_iff.2 ⟨j, hj, he⟩, cond_true]
  · rw [h2, anyN_false.2 h1, cond_false]
end

/-! ### Shapes that recur -/
theorem lists_eq {α : Type} [BEq α] [LawfulBEq α] [DecidableEq α] (a b : List α) : (bif ((a.length : Int) != (b.length : Int)) then some false else
    forK (σ := Unit) (fun i _ nx => (geti a i).bind fun y => (geti b i).bind fun z => (bif (y != z) then some false else nx ())) (fun _ => some true) ((a.length : Int) - (0 : Int)).toNat (0 : Int) ()) = some (decide (a = b)) := by
  by_cases hl : a.length = b.length
  · have : ((a.length : Int) != (b.length : Int)) = false := by rw [hl]; simp
    rw [this, cond_false]
    rw [for_out (n := a.length) (fun j => decide (a[j]? ≠ b[j]?)) (some false) rfl (fun j nx hj => by
      rw [geti_at hj, Option.bind_some, geti_at (by omega), Option.bind_some]
      congr 1
      rw [List.getElem?_eq_getElem hj, List.getElem?_eq_getElem (show j < b.length by omega), Bool.eq_iff_iff]
      simp only [bne_iff_ne, decide_eq_true_eq, ne_eq, Option.some.injEq])]
    by_cases h : a = b
    · subst h
      have : anyN a.length (fun j => decide (a[j]? ≠ a[j]?)) = false := anyN_false.2 fun j _ => by simp
      rw [this]; simp
    · have : anyN a.length (fun j => decide (a[j]? ≠ b[j]?)) = true := by
        refine Classical.byContradiction fun hn => h (List.ext_getElem? fun i => ?_)
        rw [Bool.not_eq_true, anyN_false] at hn
        by_cases hi : i < a.length
        · have := hn i hi
          rw [decide_eq_false_iff_not] at this
          exact Classical.not_not.1 this
        · rw [List.getElem?_eq_none (by omega), List.getElem?_eq_none (by omega)]
      rw [this]; simp [h]
  · have : ((a.length : Int) != (b.length : Int)) = true := by
      rw [bne_iff_ne]; omega
    rw [this, cond_true, decide_eq_false]
    exact fun h => hl (by rw [h])

theorem has_shape (l : List Int) (x : Int) : forK (σ := Unit) (fun i _ nx => (geti l i).bind fun y => (bif (x == y) then some true else nx ())) (fun _ => some false) ((l.length : Int) - (0 : Int)).toNat (0 : Int) () = some (decide (x ∈ l)) := by
  rw [for_out (n := l.length) (fun j => decide (l[j]? = some x)) (some true) rfl (fun j nx hj => by
      rw [geti_at hj, Option.bind_some]
      congr 1
      rw [List.getElem?_eq_getElem hj, Bool.eq_iff_iff]
      simp only [beq_iff_eq, decide_eq_true_eq, Option.some.injEq]
      exact eq_comm)]
  by_cases h : x ∈ l
  · have : anyN l.length (fun j => decide (l[j]? = some x)) = true := by
      obtain ⟨i, hi, e⟩ := List.getElem_of_mem h
      exact anyN_iff.2 ⟨i, hi, by rw [List.getElem?_eq_getElem hi, e]; simp⟩
    rw [this]; simp [h]
  · have : anyN l.length (fun j => decide (l[j]? = some x)) = false := anyN_false.2 fun j hj => by
      rw [decide_eq_false_iff_not, List.getElem?_eq_getElem hj]
      intro e
      exact h (Option.some.inj e ▸ List.getElem_mem hj)
    rw [this]; simp [h]

/-- Does a list have one of which it is so? (as the library asks it) -/
theorem any_shape {α : Type} (s : List α) (f : α → Option Bool) (p : α → Bool) (hf : ∀ a ∈ s, f a = some (p a)) :
    ((forK (σ := Unit) (fun i _ nx => (geti s i).bind fun y => (f y).bind fun r => (bif r then some i else nx ())) (fun _ => some (-1 : Int)) ((s.length : Int) - (0 : Int)).toNat (0 : Int) ()).bind fun r => some (decide (r ≥ (0 : Int)))) = some (s.any p) := by
  rcases for_find (σ := Unit) (k := fun _ => some (-1 : Int)) (fun _ => ()) (fun j => (s[j]?.map p).getD false) (fun j => some (j : Int)) (b := (s.length : Int)) (n := s.length) rfl rfl (body := fun i _ nx => (geti s i).bind fun y => (f y).bind fun r => (bif r then some i else nx ())) (fun j nx hj => by
    rw [geti_at hj, Option.bind_some, hf _ (List.getElem_mem hj), Option.bind_some, List.getElem?_eq_getElem hj]; rfl) with ⟨j, hj, he, _, h⟩ | ⟨h1, h2⟩
  · rw [h]
    rw [List.getElem?_eq_getElem hj] at he
    have : s.any p = true := List.any_eq_true.2 ⟨s[j], List.getElem_mem hj, he⟩
    rw [this]; simp
  · rw [h2]
    have : s.any p = false := by
      rw [List.any_eq_false]
      intro x hx
      obtain ⟨i, hi, rfl⟩ := List.getElem_of_mem hx
      have := h1 i hi
      rw [List.getElem?_eq_getElem hi] at this
      simpa using this
    rw [this]; simp
theorem any_len {α : Type} {s : List α} {p : α → Bool} : s.any p = anyN s.length (fun j => (s[j]?.map p).getD false) := by
  rw [Bool.eq_iff_iff, anyN_iff, List.any_eq_true]
  constructor
  · rintro ⟨x, hx, hp⟩
    obtain ⟨i, hi, rfl⟩ := List.getElem_of_mem hx
    exact ⟨i, hi, by rw [List.getElem?_eq_getElem hi]; exact hp⟩
  · rintro ⟨j, hj, h⟩
    rw [List.getElem?_eq_getElem hj] at h
    exact ⟨s[j], List.getElem_mem hj, h⟩

/-! ### Bits, as the document asks for them -/
theorem bit_shape (w : BitVec 32) (j : Nat) (hj : j < 32) : ((((decide ((j : Int) ≥ (0 : Int))) && (decide ((j : Int) < (32 : Int)))) && ((w &&& (1#32 <<< ((BitVec.ofInt 64 (j : Int))).toNat)) != 0#32))) = w.getLsbD j := by
  rw [ofInt64 (by omega), bit_and w j hj, decide_eq_true (by omega), decide_eq_true (by omega)]; rfl
theorem bit_shape_out (w : BitVec 32) (i : Int) (h : i < 0 ∨ 32 ≤ i) : ((((decide (i ≥ (0 : Int))) && (decide (i < (32 : Int)))) && ((w &&& (1#32 <<< ((BitVec.ofInt 64 i)).toNat)) != 0#32))) = false := by
  rcases h with h | h
  · rw [decide_eq_false (by omega)]; rfl
  · rw [decide_eq_false (p := i < 32) (by omega)]; simp
theorem fits_shape {n : Nat} (hn : n < 32) (s : BitVec 32) : (((decide ((n : Int) ≥ (32 : Int))) || ((decide ((n : Int) ≥ (0 : Int))) && (decide (s < (1#32 <<< ((BitVec.ofInt 64 (n : Int))).toNat)))))) = decide (s < 1#32 <<< n) := by
  rw [ofInt64 (by omega), decide_eq_false (p := (n : Int) ≥ 32) (by omega), decide_eq_true (p := (n : Int) ≥ 0) (by omega)]; rfl
theorem shr_ne {n : Nat} (hn : n < 32) (s : BitVec 32) : ((s >>> n) != 0#32) = !decide (s < 1#32 <<< n) := by
  rw [Bool.eq_iff_iff, bne_iff_ne, Bool.not_eq_true', decide_eq_false_iff_not, bel_lt hn, ← bel_shr]
theorem bit_shr1 (y : BitVec 32) (k : Nat) : (((y >>> k) &&& 1#32) == 0#32) = !y.getLsbD k := by
  rw [← bit_shr, Bool.eq_iff_iff, beq_iff_eq, Bool.not_eq_true', beq_eq_false_iff_ne]
  constructor
  · intro h e; rw [h] at e; cases e
  · intro h
    refine bits_ext fun i => ?_
    simp only [BitVec.getLsbD_and, BitVec.getLsbD_one, BitVec.getLsbD_zero, Bool.and_eq_true, decide_eq_true_eq, Bool.false_eq_true, iff_false]
    rintro ⟨h1, h2⟩
    apply h
    refine bits_ext fun i' => ?_
    have e0 : i = 0 := by simpa using h2
    subst e0
    simp only [BitVec.getLsbD_and, BitVec.getLsbD_one, Bool.and_eq_true, decide_eq_true_eq]
    constructor
    · rintro ⟨_, b⟩; exact b
    · intro b
      have : i' = 0 := by simpa using b
      subst this
      exact ⟨h1, b⟩
end Go.Proofs.Ytkdhckiljfjanaa.Sy
