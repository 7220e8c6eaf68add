/- How long a list is that begins with each thing, and the first of the longest lists: the plain law of order.Chain; no program in sight. -/
import Derived.Test.YtgnaigfgeofmmaaMc
import Derived.Test.YtgnaigfgeofmmaaSyQ
import Derived.Test.YtgnaigfgeofmmaaSyR
namespace Go.Proofs.Ytgnaigfgeofmmaa.Sy
set_option linter.unusedVariables false

noncomputable def rr (ps : List (Int × Int)) (i j : Nat) : Bool := tru (Rch ps i j)
theorem rr_refl (ps : List (Int × Int)) (i : Nat) : rr ps i i = true := tru_iff.2 .refl
theorem rr_trans {ps : List (Int × Int)} {i j k : Nat} (h : rr ps i j = true) (h' : rr ps j k = true) : rr ps i k = true := tru_iff.2 ((tru_iff.1 h).trans (tru_iff.1 h'))
abbrev ub (up : List (BitVec 32)) (i : Nat) : BitVec 32 := up[i]?.getD 0#32
structure OO (n : Int) (ps : List (Int × Int)) (up : List (BitVec 32)) (m : Nat) : Prop where
  n : n = m
  m1 : 1 ≤ m
  m6 : m ≤ 6
  pl : ps.length ≤ 20
  len : up.length = m
  bit : ∀ i j, i < m → (ub up i).getLsbD j = (decide (j < m) && rr ps i j)
  anti : ∀ i j, i < m → j < m → rr ps i j = true → rr ps j i = true → i = j

theorem table2 (n : Int) (ps : List (Int × Int)) : ∃ up c, order_Table n ps = some (up, c) ∧ (∀ fuel, 30 < fuel → syllogistref_OrderCheck fuel n ps = some c) ∧ (c ≠ 0 → up = []) ∧ (c = 0 → ∃ m, OO n ps up m) := by
  obtain ⟨l, e, h1, h2⟩ := table_eq n ps
  refine ⟨l, chk n ps, e, fun fuel hf => check_eq fuel n ps hf, h1, fun h0 => ?_⟩
  obtain ⟨m, rfl, m6, m1, hps, hl, hR⟩ := h2 h0
  refine ⟨m, rfl, m1, m6, hps, hl, fun i j hi => ?_, fun i j hi hj hij hji => ?_⟩
  · rw [show ub l i = l[i] from getd_at _ (by omega), Bool.eq_iff_iff, hR i (by omega) j, Bool.and_eq_true, decide_eq_true_eq]
    exact and_congr_right fun _ => tru_iff.symm
  · have hnc : ¬cyc m ps := by
      intro hc
      unfold chk at h0
      split at h0
      · cases h0
      · split at h0
        · cases h0
        · first | cases h0 | (rw [if_pos hc] at h0; cases h0)
    rcases Nat.lt_trichotomy i j with h | h | h
    · exact absurd ⟨j, i, h, by omega, tru_iff.1 hji, tru_iff.1 hij⟩ hnc
    · exact h
    · exact absurd ⟨i, j, h, by omega, tru_iff.1 hij, tru_iff.1 hji⟩ hnc

theorem under2 {n : Int} {ps : List (Int × Int)} {up : List (BitVec 32)} {m : Nat} (h : OO n ps up m) (fuel : Nat) (hf : 30 < fuel) (k : Int) (i j : Nat) : syllogistref_Under fuel k ps i j = some (rr ps i j) := by
  have := h.pl
  obtain ⟨r, e, hr⟩ := under_eq fuel k ps i j (by omega) (by omega)
  rw [e, tru_of hr]; rfl

theorem ne_cast (a b : Nat) : ((a : Int) != (b : Int)) = !(a == b) := by
  rw [Bool.eq_iff_iff, bne_iff_ne, Bool.not_eq_true', beq_eq_false_iff_ne]; omega
theorem eq_cast (a b : Nat) : ((a : Int) == (b : Int)) = (a == b) := by
  rw [Bool.eq_iff_iff, beq_iff_eq, beq_iff_eq]; omega

theorem ints_eq (a b : List Int) : syllogistref_Ints a b = some (decide (a = b)) := lists_eq a b
noncomputable def ok1 (m : Nat) (ps : List (Int × Int)) (l : List Int) (i : Nat) : Bool := !decide ((i : Int) ∈ l) && allN m fun j => ((j == i) || !rr ps j i) || decide ((j : Int) ∈ l)
/-- What is left: all that is not in l. -/
def lft (m : Nat) (l : List Int) : BitVec 32 := bset m fun i => !decide ((i : Int) ∈ l)
theorem lft_bit {m : Nat} (hm : m ≤ 6) {l : List Int} {j : Nat} (hj : j < m) : (lft m l).getLsbD j = !decide ((j : Int) ∈ l) := by
  unfold lft
  rw [bset_bit (by omega), decide_eq_true hj, Bool.true_and]
theorem lft_zero {m : Nat} (hm : m ≤ 6) {l : List Int} : (lft m l = 0#32) ↔ ∀ j, j < m → (j : Int) ∈ l := by
  constructor
  · intro h j hj
    have := lft_bit hm (l := l) hj
    rw [h] at this
    simpa using this
  · intro h
    refine bits_ext fun j => ?_
    unfold lft
    rw [bset_bit (by omega), Bool.and_eq_true, decide_eq_true_eq]
    simp only [BitVec.getLsbD_zero, Bool.false_eq_true, iff_false]
    rintro ⟨hj, h'⟩
    have := h j hj
    simp [this] at h'

theorem ok_exists {n : Int} {ps : List (Int × Int)} {up : List (BitVec 32)} {m : Nat} (h : OO n ps up m) {l : List Int} (hl : ∃ j, j < m ∧ (j : Int) ∉ l) : ∃ i, i < m ∧ ok1 m ps l i = true ∧ ∀ i', i' < i → ok1 m ps l i' = false := by
  have hex : ∃ i, i < m ∧ ok1 m ps l i = true := by
    obtain ⟨j0, hj0, hjl⟩ := hl
    let P : Nat → Prop := fun c => ∃ i, i < m ∧ (i : Int) ∉ l ∧ cntN m (fun j => !decide ((j : Int) ∈ l) && rr ps j i) = c
    obtain ⟨c, ⟨i, hi, hil, hc⟩, hmin⟩ := least_nat (P := P) ⟨j0, hj0, hjl, rfl⟩
    refine ⟨i, hi, ?_⟩
    unfold ok1
    rw [Bool.and_eq_true, decide_eq_false hil]
    refine ⟨rfl, allN_iff.2 fun j hj => ?_⟩
    cases hm : decide ((j : Int) ∈ l) with
    | true => simp
    | false =>
      cases hr : rr ps j i with
      | false => simp
      | true =>
        by_cases e : j = i
        · subst e; simp
        · exfalso
          have hjl := of_decide_eq_false hm
          have := hmin _ ⟨j, hj, hjl, rfl⟩
          have hlt := cntN_lt (n := m) (p := fun k => !decide ((k : Int) ∈ l) && rr ps k j) (q := fun k => !decide ((k : Int) ∈ l) && rr ps k i) (fun k _ hk => by
            rw [Bool.and_eq_true] at hk ⊢
            exact ⟨hk.1, rr_trans hk.2 hr⟩) hi (by
            rw [Bool.and_eq_false_iff]
            refine .inr ?_
            cases hij : rr ps i j with
            | false => rfl
            | true => exact absurd (h.anti j i hj hi hr hij) e) (by rw [decide_eq_false hil, rr_refl]; rfl)
          omega
  obtain ⟨i, hi, ho⟩ := hex
  obtain ⟨k, ⟨hk, hok⟩, hmin⟩ := least_nat (P := fun k => k < m ∧ ok1 m ps l k = true) ⟨hi, ho⟩
  refine ⟨k, hk, hok, fun i' hi' => ?_⟩
  cases ho' : ok1 m ps l i' with
  | false => rfl
  | true => have := hmin i' ⟨by omega, ho'⟩; omega

structure LI (m : Nat) (l : List Int) : Prop where
  nd : l.Nodup
  sub : ∀ x ∈ l, x ∈ natsI m
theorem LI.len {m : Nat} {l : List Int} (h : LI m l) : l.length ≤ m := by
  have := nodup_lenG h.nd h.sub
  rwa [natsI_len] at this
theorem LI.full {m : Nat} {l : List Int} (h : LI m l) : (∀ j, j < m → (j : Int) ∈ l) ↔ l.length = m := by
  constructor
  · intro hall
    have hnd : (natsI m).Nodup := by
      unfold natsI
      exact List.Pairwise.map Int.ofNat (fun a b (h : a ≠ b) e => h (Int.ofNat.inj e)) List.nodup_range
    have := nodup_lenG hnd (fun x hx => by
      have hx' := natsI_mem.1 hx
      have := hall x.toNat (by omega)
      rwa [Int.toNat_of_nonneg hx'.1] at this)
    rw [natsI_len] at this
    have := h.len
    omega
  · intro hl j hj
    apply Classical.byContradiction
    intro hn
    have : ((j : Int) :: l).length ≤ (natsI m).length := nodup_lenG (List.nodup_cons.2 ⟨hn, h.nd⟩) fun x hx => by
      rcases List.mem_cons.1 hx with rfl | hx
      · exact natsI_mem.2 (by omega)
      · exact h.sub x hx
    rw [natsI_len, List.length_cons] at this
    omega

theorem line_step {n : Int} {ps : List (Int × Int)} {up : List (BitVec 32)} {m : Nat} (h : OO n ps up m) {l : List Int} (hl : LI m l) (hlt : l.length < m) :
    ∃ i, i < m ∧ LI m (l ++ [(i : Int)]) ∧
      (∀ nx, order_Line_b17 (up, 0) (lft m l) l nx = nx (lft m (l ++ [(i : Int)]), l ++ [(i : Int)])) ∧
      (∀ j, j < m → rr ps j i = true → j ≠ i → (j : Int) ∈ l) := by
  have m6 := h.m6
  have hup := h.len
  have hnf : ∃ j, j < m ∧ (j : Int) ∉ l := by
    apply Classical.byContradiction
    intro hno
    have := hl.full.1 fun j hj => Classical.byContradiction fun hn => hno ⟨j, hj, hn⟩
    omega
  obtain ⟨i, hi, hok, hbef⟩ := ok_exists h hnf
  have hil : (i : Int) ∉ l := by
    unfold ok1 at hok
    rw [Bool.and_eq_true] at hok
    simpa using hok.1
  have hLI : LI m (l ++ [(i : Int)]) := ⟨by
    rw [List.nodup_append]
    exact ⟨hl.nd, by simp, fun x hx y hy e => by simp at hy; subst hy; subst e; exact hil hx⟩, fun x hx => by
    rcases List.mem_append.1 hx with hx | hx
    · exact hl.sub x hx
    · simp at hx; subst hx; exact natsI_mem.2 (by omega)⟩
  refine ⟨i, hi, hLI, fun nx => ?_, fun j hj hr hne => ?_⟩
  · unfold order_Line_b17
    have hne : (lft m l != 0#32) = true := by
      rw [bne_iff_ne, ne_eq, lft_zero m6]
      obtain ⟨j, hj, hn⟩ := hnf
      exact fun hall => hn (hall j hj)
    rw [hne, cond_true]
    have hfree : ∀ t, t < m → ∀ nx', order_Line_b35 (up, 0) nx t (lft m l) l nx' = order_Line_k43 nx t (lft m l) l nx' (ok1 m ps l t) := fun t ht nx' => by
      unfold order_Line_b35
      refine (for_all (n := m) (fun j => ((j == t) || !rr ps j t) || decide ((j : Int) ∈ l)) (by rw [hup]) (fun j b nx2 hj => ?_)).trans ?_
      · unfold order_Line_b51
        have hg : geti up (j : Int) = some (ub up j) := geti_d _ (by omega)
        rw [hg]
        simp only [Option.isSome_some, Bool.or_true, cond_true, Option.getD_some, Int.toNat_natCast, bit_shr1, lft_bit m6 hj, eq_cast, h.bit j t hj, decide_eq_true ht, Bool.true_and, Bool.not_not]
        congr 1
        cases (j == t) <;> cases decide ((j : Int) ∈ l) <;> cases rr ps j t <;> rfl
      · rw [Int.toNat_natCast, bit_shr, lft_bit m6 ht]
        rfl
    rcases for_find (σ := BitVec 32 × List Int) (k := fun s => order_Line_k31 nx s.1 s.2) (body := fun i s nx_ => order_Line_b35 (up, 0) nx i s.1 s.2 nx_) (fun _ => (lft m l, l)) (ok1 m ps l) (fun t => order_Line_k31 nx (lft m l &&& ~~~(1#32 <<< t)) (l ++ [(t : Int)])) (b := (up.length : Int)) (n := m) (by rw [hup]) (s := (lft m l, l)) rfl (fun t nx' ht => by
      simp only
      rw [hfree t ht]
      unfold order_Line_k43
      have := hl.len
      rw [decide_eq_true (by simp only [List.length_cons, List.length_nil]; omega), cond_true, Int.toNat_natCast]) with ⟨t, ht, he, hb, e⟩ | ⟨h1, _⟩
    · have hti : t = i := by
        rcases Nat.lt_trichotomy t i with hh | hh | hh
        · rw [hbef t hh] at he; cases he
        · exact hh
        · rw [hb i hh] at hok; cases hok
      subst hti
      refine e.trans ?_
      unfold order_Line_k31
      congr 2
      refine bits_ext fun j => ?_
      have := without_bit (lft m l) t j
      unfold without at this
      rw [this]
      unfold lft
      rw [bset_bit (by omega), bset_bit (by omega)]
      simp only [Bool.and_eq_true, decide_eq_true_eq, Bool.not_eq_true', decide_eq_false_iff_not, List.mem_append, List.mem_singleton, not_or]
      constructor
      · rintro ⟨⟨a, b⟩, c⟩; exact ⟨a, b, by omega⟩
      · rintro ⟨a, b, c⟩; exact ⟨⟨a, b⟩, by omega⟩
    · rw [h1 i hi] at hok; cases hok
  · unfold ok1 at hok
    rw [Bool.and_eq_true] at hok
    have := allN_iff.1 hok.2 j hj
    rw [hr, show (j == i) = false by simpa using hne] at this
    simpa using this


/-- No thing stands ahead of one that is under it. -/
def DC (m : Nat) (ps : List (Int × Int)) (l : List Int) : Prop := ∀ (A : List Int) (x : Nat) (B : List Int), l = A ++ (x : Int) :: B → ∀ j, j < m → rr ps j x = true → j ≠ x → (j : Int) ∈ A
theorem DC.snoc {m : Nat} {ps : List (Int × Int)} {l : List Int} {i : Nat} (h : DC m ps l) (hi : ∀ j, j < m → rr ps j i = true → j ≠ i → (j : Int) ∈ l) : DC m ps (l ++ [(i : Int)]) := by
  intro A x B e j hj hr hne
  rcases List.eq_nil_or_concat B with rfl | ⟨B', b, rfl⟩
  · have h2 := List.append_inj' e rfl
    have hx : (i : Int) = (x : Int) := by simpa using h2.2
    obtain rfl : i = x := by omega
    rw [← h2.1]
    exact hi j hj hr hne
  · rw [List.concat_eq_append, ← List.cons_append, ← List.append_assoc] at e
    have h2 := List.append_inj' e rfl
    exact h A x B' h2.1 j hj hr hne
theorem line_eq {n : Int} {ps : List (Int × Int)} {up : List (BitVec 32)} {m : Nat} (h : OO n ps up m) : ∀ (d : Nat) (l : List Int), LI m l → DC m ps l → l.length + d = m →
    ∃ r, (∀ f, d < f → whileK (σ := (BitVec 32) × (List Int)) (fun s nx_ => order_Line_b17 (up, 0) s.1 s.2 nx_) f (lft m l, l) = some (r, 0)) ∧ LI m r ∧ DC m ps r ∧ r.length = m := by
  have m6 := h.m6
  intro d
  induction d with
  | zero =>
    intro l hl hD hd
    refine ⟨l, fun f hf => ?_, hl, hD, by omega⟩
    obtain ⟨f, rfl⟩ : ∃ f', f = f' + 1 := ⟨f - 1, by omega⟩
    rw [whileK]
    simp only
    unfold order_Line_b17
    have : (lft m l != 0#32) = false := by
      rw [bne_eq_false_iff_eq]
      exact (lft_zero m6).2 (hl.full.2 (by omega))
    rw [this]; rfl
  | succ d ih =>
    intro l hl hD hd
    obtain ⟨i, hi, hLI, hp, hr⟩ := line_step h hl (by omega)
    obtain ⟨r, e1, e2⟩ := ih _ hLI (hD.snoc hr) (by rw [List.length_append]; simp; omega)
    refine ⟨r, fun f hf => ?_, e2⟩
    obtain ⟨f, rfl⟩ : ∃ f', f = f' + 1 := ⟨f - 1, by omega⟩
    rw [whileK]
    exact (hp _).trans (e1 f (by omega))
theorem line_ok {n : Int} {ps : List (Int × Int)} {up : List (BitVec 32)} {m : Nat} (h : OO n ps up m) (ht : order_Table n ps = some (up, 0)) {fuel : Nat} (hf : 100 < fuel) : ∃ r, order_Line fuel n ps = some (r, 0) ∧ LI m r ∧ DC m ps r ∧ r.length = m := by
  have m6 := h.m6
  have hn := h.n
  subst hn
  unfold order_Line
  rw [ht, Option.bind_some]
  simp only [bne_self_eq_false, cond_false]
  rw [decide_eq_true (by omega), cond_true, Int.toNat_natCast]
  obtain ⟨r, a1, a2⟩ := line_eq h m [] ⟨by simp, by simp⟩ (fun A x B e => by simp at e) (by simp)
  have hfull : (1#32 <<< m) - 1#32 = lft m [] := by
    refine bits_ext fun j => ?_
    have := full_bit (n := m) (by omega) j
    unfold full at this
    rw [this]
    unfold lft
    rw [bset_bit (by omega)]
    simp
  rw [hfull, a1 fuel (by omega)]
  exact ⟨r, rfl, a2⟩

/-! ### The greatest of some numbers, the first number -/
def mx : Nat → (Nat → Nat) → Nat
  | 0, _ => 0
  | n + 1, f => max (mx n f) (f n)
theorem le_mx {n i : Nat} {f : Nat → Nat} (h : i < n) : f i ≤ mx n f := by
  induction n with
  | zero => omega
  | succ n ih =>
    rw [mx]
    by_cases e : i = n
    · subst e; omega
    · have := ih (by omega); omega
theorem mx_le {n c : Nat} {f : Nat → Nat} (h : ∀ i, i < n → f i ≤ c) : mx n f ≤ c := by
  induction n with
  | zero => exact Nat.zero_le _
  | succ n ih =>
    rw [mx]
    have := ih fun i hi => h i (by omega)
    have := h n (by omega)
    omega
theorem mx_at {n : Nat} {f : Nat → Nat} (h : mx n f ≠ 0) : ∃ i, i < n ∧ f i = mx n f := by
  induction n with
  | zero => exact absurd rfl h
  | succ n ih =>
    rw [mx] at h ⊢
    by_cases e : mx n f ≤ f n
    · exact ⟨n, by omega, by omega⟩
    · obtain ⟨i, hi, he⟩ := ih (by omega)
      exact ⟨i, by omega, by omega⟩
theorem mx_congr {n : Nat} {f g : Nat → Nat} (h : ∀ i, i < n → f i = g i) : mx n f = mx n g := by
  induction n with
  | zero => rfl
  | succ n ih => rw [mx, mx, ih fun i hi => h i (by omega), h n (by omega)]
def fN : Nat → (Nat → Bool) → Nat
  | 0, _ => 0
  | n + 1, p => bif anyN n p then fN n p else n
theorem fN_spec {n : Nat} {p : Nat → Bool} (h : ∃ i, i < n ∧ p i = true) : fN n p < n ∧ p (fN n p) = true ∧ ∀ i, i < fN n p → p i = false := by
  induction n with
  | zero => obtain ⟨i, hi, _⟩ := h; omega
  | succ n ih =>
    rw [fN]
    cases ha : anyN n p with
    | true =>
      rw [cond_true]
      obtain ⟨h1, h2, h3⟩ := ih (anyN_iff.1 ha)
      exact ⟨by omega, h2, h3⟩
    | false =>
      rw [cond_false]
      have hn := anyN_false.1 ha
      obtain ⟨i, hi, hp⟩ := h
      have : i = n := by
        by_cases e : i = n
        · exact e
        · rw [hn i (by omega)] at hp; cases hp
      subst this
      exact ⟨by omega, hp, hn⟩
theorem fN_eq {n i : Nat} {p : Nat → Bool} (hi : i < n) (hp : p i = true) (h : ∀ j, j < i → p j = false) : fN n p = i := by
  obtain ⟨h1, h2, h3⟩ := fN_spec ⟨i, hi, hp⟩
  rcases Nat.lt_trichotomy (fN n p) i with hh | hh | hh
  · rw [h _ hh] at h2; cases h2
  · exact hh
  · rw [h3 _ hh] at hp; cases hp

/-! ### Heights -/
/-- One more than the greatest above it. -/
def HT (m : Nat) (ps : List (Int × Int)) (g : Nat → Nat) : Prop := ∀ i, i < m → g i = mx m (fun j => bif !(j == i) && rr ps i j then g j else 0) + 1
theorem HT.pos {m : Nat} {ps : List (Int × Int)} {g : Nat → Nat} (h : HT m ps g) {i : Nat} (hi : i < m) : 1 ≤ g i := by rw [h i hi]; omega
theorem HT.lt {m : Nat} {ps : List (Int × Int)} {g : Nat → Nat} (h : HT m ps g) {i j : Nat} (hi : i < m) (hj : j < m) (hne : j ≠ i) (hr : rr ps i j = true) : g j < g i := by
  have := le_mx (n := m) (f := fun j => bif !(j == i) && rr ps i j then g j else 0) hj
  simp only [hr, show (j == i) = false by simpa using hne, Bool.not_false, Bool.and_self, cond_true] at this
  rw [h i hi]; omega
theorem HT.next {m : Nat} {ps : List (Int × Int)} {g : Nat → Nat} (h : HT m ps g) {i k : Nat} (hi : i < m) (hk : g i = k + 2) : ∃ j, j < m ∧ rr ps i j = true ∧ g j = k + 1 := by
  have e := h i hi
  obtain ⟨j, hj, hjm⟩ := mx_at (n := m) (f := fun j => bif !(j == i) && rr ps i j then g j else 0) (by omega)
  cases hb : (!(j == i) && rr ps i j) with
  | false => simp only [hb, cond_false] at hjm; omega
  | true =>
    simp only [hb, cond_true] at hjm
    rw [Bool.and_eq_true] at hb
    exact ⟨j, hj, hb.2, by omega⟩
/-- From a thing on: each time the first one that is one less high. -/
noncomputable def path (m : Nat) (ps : List (Int × Int)) (g : Nat → Nat) : Nat → Nat → List Int
  | 0, _ => []
  | k + 1, a => ((fN m fun i => rr ps a i && (g i == k + 1) : Nat) : Int) :: path m ps g k (fN m fun i => rr ps a i && (g i == k + 1))

/-! ### The program's heights -/
theorem tab_int_at {m i : Nat} {g : Nat → Nat} (h : i < m) : geti (tab m fun k => (g k : Int)) (i : Int) = some (g i : Int) := tab_geti h
theorem heights_ok {n : Int} {ps : List (Int × Int)} {up : List (BitVec 32)} {m : Nat} (h : OO n ps up m) {r : List Int} (hL : LI m r) (hD : DC m ps r) (hr : r.length = m) (fuel : Nat) :
    ∃ g, HT m ps g ∧ (∀ i, i < m → g i ≤ m) ∧ forK (σ := Int × (List Int)) (fun i s nx_ => order_Chain_b29 (r, 0) (up, 0) i s.1 s.2 nx_) (fun s => order_Chain_k58 fuel (up, 0) s.1 s.2) r.length (0 : Int) (((0 : Int)), ((List.replicate m (0 : Int)))) = order_Chain_k58 fuel (up, 0) (mx m g : Nat) (tab m fun i => (g i : Int)) := by
  have m6 := h.m6
  have hup := h.len
  have hall := hL.full.2 hr
  have key : ∀ o, (∃ g, HT m ps g ∧ (∀ i, i < m → g i ≤ m) ∧ o = order_Chain_k58 fuel (up, 0) (mx m g : Nat) (tab m fun i => (g i : Int))) → ∃ g, HT m ps g ∧ (∀ i, i < m → g i ≤ m) ∧ o = order_Chain_k58 fuel (up, 0) (mx m g : Nat) (tab m fun i => (g i : Int)) := fun _ h => h
  have e0 : r.length = ((r.length : Int) - (0 : Int)).toNat := by omega
  rw [e0]
  refine for0_q (n := r.length) (Q := fun o => ∃ g, HT m ps g ∧ (∀ i, i < m → g i ≤ m) ∧ o = order_Chain_k58 fuel (up, 0) (mx m g : Nat) (tab m fun i => (g i : Int)))
    (fun t (s : Int × List Int) => ∃ g : Nat → Nat, s.1 = (mx m g : Nat) ∧ s.2 = (tab m fun i => (g i : Int)) ∧ (∀ i, i < m → g i ≤ t) ∧
      (∀ i : Nat, i < m → (i : Int) ∈ r.drop (r.length - t) → g i = mx m (fun j => bif !(j == i) && rr ps i j then g j else 0) + 1) ∧ (∀ i : Nat, i < m → (i : Int) ∉ r.drop (r.length - t) → g i = 0)) rfl _
    ⟨fun _ => 0, ?_, ?_, fun i _ => Nat.le_refl 0, fun i _ hi => ?_, fun i _ _ => rfl⟩ (fun t s nx ht hI hn => ?_) (fun s hI => ?_)
  · have : mx m (fun _ => 0) = 0 := Nat.le_zero.1 (mx_le fun i _ => Nat.le_refl 0)
    rw [this]; rfl
  · exact tab_rep
  · rw [Nat.sub_zero, List.drop_length] at hi; simp at hi
  · obtain ⟨c, l⟩ := s
    obtain ⟨g, h1, h2, h3, h4, h5⟩ := hI
    simp only at h1 h2
    subst h1 h2
    obtain ⟨p, hp⟩ : ∃ p, p = r.length - 1 - t := ⟨_, rfl⟩
    have hplt : p < r.length := by omega
    have hge : geti r.reverse (t : Int) = some r[p] := by
      rw [geti_nat?, List.getElem?_reverse ht, List.getElem?_eq_getElem (by omega)]
      congr 1
      simp only [hp]
    obtain ⟨i0, hi0, hri⟩ : ∃ i0 : Nat, i0 < m ∧ r[p] = i0 := by
      have := natsI_mem.1 (hL.sub r[p] (List.getElem_mem _))
      exact ⟨r[p].toNat, by omega, by omega⟩
    have hsplit : r = r.take p ++ (i0 : Int) :: r.drop (p + 1) := by
      conv => lhs; rw [← List.take_append_drop p r]
      rw [← hri, ← List.drop_eq_getElem_cons hplt]
    have ed : r.length - t = p + 1 := by omega
    have ed1 : r.length - (t + 1) = p := by omega
    have hdr : r.drop p = (i0 : Int) :: r.drop (p + 1) := by rw [List.drop_eq_getElem_cons hplt, hri]
    rw [ed] at h4 h5
    have hnd := hL.nd
    rw [hsplit] at hnd
    have hnd1 := (List.nodup_append.1 hnd)
    have hA : (i0 : Int) ∉ r.take p := fun hh => hnd1.2.2 _ hh _ (by simp) rfl
    have hB : (i0 : Int) ∉ r.drop (p + 1) := (List.nodup_cons.1 hnd1.2.1).1
    have hAB : ∀ x, x ∈ r.take p → x ∈ r.drop (p + 1) → False := fun x hx hy => hnd1.2.2 x hx x (List.mem_cons_of_mem _ hy) rfl
    have habove : ∀ j, j < m → j ≠ i0 → rr ps i0 j = true → (j : Int) ∈ r.drop (p + 1) := fun j hj hne hrr => by
      have hm := hall j hj
      rw [hsplit, List.mem_append, List.mem_cons] at hm
      rcases hm with hm | hm | hm
      · exfalso
        obtain ⟨C, E, hCE⟩ := List.append_of_mem hm
        have := hD C j (E ++ (i0 : Int) :: r.drop (p + 1)) (by rw [← List.cons_append, ← List.append_assoc, ← hCE]; exact hsplit) i0 hi0 hrr (fun e => hne e.symm)
        exact hA (by rw [hCE]; exact List.mem_append_left _ this)
      · exact absurd (by omega) hne
      · exact hm
    have hbelow : ∀ k : Nat, k < m → (k : Int) ∈ r.drop (p + 1) → rr ps k i0 = true → False := fun k hk hm hrr => by
      by_cases e : k = i0
      · subst e; exact hB hm
      · exact hAB _ (hD _ i0 _ hsplit k hk hrr e) hm
    have hg0 : g i0 = 0 := h5 i0 hi0 hB
    obtain ⟨M, hM⟩ : ∃ M, M = mx m (fun j => bif !(j == i0) && rr ps i0 j then g j else 0) := ⟨_, rfl⟩
    have hMt : M ≤ t := by
      rw [hM]
      refine mx_le fun j hj => ?_
      cases (!(j == i0) && rr ps i0 j) with
      | true => exact h3 j hj
      | false => exact Nat.zero_le _
    simp only
    unfold order_Chain_b29
    rw [hge, Option.bind_some, hri]
    have hQ : ∀ o, o = order_Chain_k42 (mx m g : Nat) nx i0 (tab m fun k => (((if k = i0 then M else g k) : Nat) : Int)) → (∃ g, HT m ps g ∧ (∀ i, i < m → g i ≤ m) ∧ o = order_Chain_k58 fuel (up, 0) (mx m g : Nat) (tab m fun i => (g i : Int))) := by
      rintro o rfl
      unfold order_Chain_k42
      have e1 : geti (tab m fun k => (((if k = i0 then M else g k) : Nat) : Int)) (i0 : Int) = some (M : Int) := by rw [tab_geti hi0, if_pos rfl]
      obtain ⟨g', hg'⟩ : ∃ g' : Nat → Nat, g' = fun k => if k = i0 then M + 1 else g k := ⟨_, rfl⟩
      have e2 : (tab m fun k => (((if k = i0 then M else g k) : Nat) : Int)).set i0 (w64 ((M : Int) + 1)) = tab m fun k => (g' k : Int) := by
        rw [tab_set hi0, w64_id (by omega) (by omega)]
        refine tab_congr fun k hk => ?_
        rw [hg']
        simp only
        by_cases e : k = i0
        · rw [if_pos e, if_pos e]; omega
        · rw [if_neg e, if_neg e, if_neg e]
      rw [e1, Option.bind_some, Int.toNat_natCast, e2, tab_geti hi0, Option.bind_some]
      have hgi : g' i0 = M + 1 := by rw [hg']; simp
      have hgo : ∀ k, k ≠ i0 → g' k = g k := fun k hk => by rw [hg']; simp [hk]
      have hmx : mx m g' = max (mx m g) (M + 1) := by
        refine Nat.le_antisymm (mx_le fun i hi => ?_) ?_
        · by_cases e : i = i0
          · subst e; rw [hgi]; omega
          · rw [hgo i e]; have := le_mx (f := g) hi; omega
        · refine Nat.max_le.2 ⟨mx_le fun i hi => ?_, ?_⟩
          · by_cases e : i = i0
            · subst e; rw [hg0]; exact Nat.zero_le _
            · rw [← hgo i e]; exact le_mx hi
          · rw [← hgi]; exact le_mx hi0
      have e3 : (if ((g' i0 : Nat) : Int) > ((mx m g : Nat) : Int) then ((g' i0 : Nat) : Int) else ((mx m g : Nat) : Int)) = ((mx m g' : Nat) : Int) := by
        rw [hmx, hgi]
        split <;> omega
      rw [e3]
      refine hn _ ⟨g', rfl, rfl, fun i hi => ?_, fun i hi hm => ?_, fun i hi hm => ?_⟩
      · by_cases e : i = i0
        · subst e; rw [hgi]; omega
        · rw [hgo i e]; have := h3 i hi; omega
      · rw [ed1, hdr] at hm
        by_cases e : i = i0
        · subst e
          rw [hgi, hM]
          congr 1
          refine mx_congr fun j hj => ?_
          by_cases e : j = i
          · subst e; simp
          · rw [hgo j e]
        · have hm' : (i : Int) ∈ r.drop (p + 1) := by
            rcases List.mem_cons.1 hm with hm | hm
            · exact absurd (by omega) e
            · exact hm
          rw [hgo i e, h4 i hi hm']
          congr 1
          refine mx_congr fun j hj => ?_
          by_cases e2 : j = i0
          · subst e2
            cases hrr : rr ps i j with
            | true => exact (hbelow i hi hm' hrr).elim
            | false => simp
          · rw [hgo j e2]
      · rw [ed1, hdr] at hm
        have hne : i ≠ i0 := fun e => hm (by subst e; simp)
        rw [hgo i hne]
        exact h5 i hi fun hh => hm (List.mem_cons_of_mem _ hh)
    apply hQ
    refine for0_q (n := m) (Q := fun o => o = order_Chain_k42 (mx m g : Nat) nx i0 (tab m fun k => (((if k = i0 then M else g k) : Nat) : Int))) (fun j s => s = tab m fun k => (((if k = i0 then mx j (fun j => bif !(j == i0) && rr ps i0 j then g j else 0) else g k) : Nat) : Int)) (by rw [hup]) _ ?_ (fun j s nx2 hj hs hn2 => ?_) (fun s hs => ?_)
    · refine tab_congr fun k hk => ?_
      by_cases e : k = i0
      · rw [if_pos e, e, hg0]; rfl
      · rw [if_neg e]
    · subst hs
      unfold order_Chain_b50
      have hgu : geti up (i0 : Int) = some (ub up i0) := geti_d _ (by omega)
      rw [hgu, ne_cast]
      simp only [Option.isSome_some, Bool.or_true, cond_true, Option.getD_some, Int.toNat_natCast, bit_shr, h.bit i0 j hi0, decide_eq_true hj, Bool.true_and]
      have hstep : mx (j + 1) (fun j => bif !(j == i0) && rr ps i0 j then g j else 0) = max (mx j (fun j => bif !(j == i0) && rr ps i0 j then g j else 0)) (bif !(j == i0) && rr ps i0 j then g j else 0) := rfl
      cases hb : (!(j == i0) && rr ps i0 j) with
      | false =>
        rw [cond_false]
        refine hn2 _ ?_
        rw [hstep, hb, cond_false, Nat.max_eq_left (Nat.zero_le _)]
      | true =>
        have hne : j ≠ i0 := by
          rw [Bool.and_eq_true] at hb
          simpa using hb.1
        rw [cond_true, tab_geti hi0, Option.bind_some, tab_geti hj, Option.bind_some, if_pos rfl, if_neg hne]
        refine hn2 _ ?_
        rw [tab_set hi0, hstep, hb, cond_true]
        refine tab_congr fun k hk => ?_
        by_cases e : k = i0
        · rw [if_pos e, if_pos e]
          split <;> omega
        · rw [if_neg e, if_neg e, if_neg e]
    · subst hs
      rw [← hM]
  · obtain ⟨c, l⟩ := s
    obtain ⟨g, h1, h2, h3, h4, h5⟩ := hI
    simp only at h1 h2
    subst h1 h2
    rw [Nat.sub_self, List.drop_zero] at h4
    exact ⟨g, fun i hi => h4 i hi (hall i hi), fun i hi => by have := h3 i hi; omega, rfl⟩

/-! ### The program's list -/
theorem last_at {l : List Int} {a : Nat} (h : l.getLast? = some (a : Int)) (hl : l.length ≤ 100) : geti l (w64 ((l.length : Int) - 1)) = some (a : Int) := by
  have hne : l ≠ [] := fun e => by subst e; simp at h
  have hpos : 0 < l.length := List.length_pos_iff.2 hne
  rw [w64_id (by omega) (by omega), show (l.length : Int) - 1 = ((l.length - 1 : Nat) : Int) by omega, geti_nat?, ← List.getLast?_eq_getElem?]
  exact h
theorem len_zero (l : List Int) : ((l.length : Int) == (0 : Int)) = decide (l = []) := by
  rw [Bool.eq_iff_iff, beq_iff_eq, decide_eq_true_eq, ← List.length_eq_zero_iff]; omega
theorem step_eq {n : Int} {ps : List (Int × Int)} {up : List (BitVec 32)} {m : Nat} (h : OO n ps up m) {g : Nat → Nat} {c t a : Nat} {l : List Int} (hl : l = [] ∨ (l.getLast? = some (a : Int) ∧ a < m)) (hlen : l.length ≤ 100) (ht : t < m) (nx : ((List Int) × Int) → Option ((List Int) × Int)) (nx' : List Int → Option ((List Int) × Int)) :
    order_Chain_b86 (up, 0) (tab m fun i => (g i : Int)) (c : Int) nx t l nx' = bif (decide (l = []) || rr ps a t) && (g t == c) then order_Chain_k82 (c : Int) nx (l ++ [(t : Int)]) else nx' l := by
  have m6 := h.m6
  have hup := h.len
  unfold order_Chain_b86
  rw [tab_geti ht, Option.bind_some, len_zero, eq_cast]
  rcases hl with rfl | ⟨hla, ham⟩
  · simp only [decide_true, Bool.true_or, Bool.and_true]
    rw [show ((true == false) : Bool) = false from rfl, Bool.and_false, Bool.not_false, Bool.true_or, cond_true, Bool.true_or, cond_true, Bool.true_and]
    cases (g t == c) with
    | true => rw [cond_true, cond_true, decide_eq_true (by simp), cond_true]
    | false => rfl
  · have hne : l ≠ [] := fun e => by subst e; simp at hla
    have hgu : geti up (a : Int) = some (ub up a) := geti_d _ (by omega)
    rw [last_at hla hlen, decide_eq_false hne]
    simp only [Option.getD_some, hgu, Option.isSome_some, Bool.or_true, cond_true, Bool.false_or, Int.toNat_natCast, bit_shr, h.bit a t ham, decide_eq_true ht, Bool.true_and]
    rw [Bool.and_comm]
    cases (rr ps a t && (g t == c)) with
    | true => rw [cond_true, cond_true, decide_eq_true (by simp; omega), cond_true]
    | false => rfl
noncomputable def sel (m : Nat) (ps : List (Int × Int)) (g : Nat → Nat) (l : List Int) (a c : Nat) : Nat := fN m fun i => (decide (l = []) || rr ps a i) && (g i == c)
theorem path_sel {m : Nat} {ps : List (Int × Int)} {g : Nat → Nat} {l : List Int} (h : l ≠ []) (a k : Nat) : path m ps g (k + 1) a = (sel m ps g l a (k + 1) : Int) :: path m ps g k (sel m ps g l a (k + 1)) := by
  have : (sel m ps g l a (k + 1)) = fN m fun i => rr ps a i && (g i == k + 1) := by
    unfold sel
    rw [decide_eq_false h]
    simp only [Bool.false_or]
  rw [this]; rfl
theorem list_ok {n : Int} {ps : List (Int × Int)} {up : List (BitVec 32)} {m : Nat} (h : OO n ps up m) {g : Nat → Nat} (hH : HT m ps g) : ∀ (c : Nat) (l : List Int) (a : Nat) (f : Nat), (l = [] ∨ (l.getLast? = some (a : Int) ∧ a < m)) → (∃ i, i < m ∧ (decide (l = []) || rr ps a i) = true ∧ g i = c + 1) → l.length + c ≤ 20 → c + 1 < f →
    whileK (σ := (List Int) × Int) (fun s nx_ => order_Chain_b71 (up, 0) (tab m fun i => (g i : Int)) s.1 s.2 nx_) f (l, ((c + 1 : Nat) : Int)) = some (l ++ (sel m ps g l a (c + 1) : Int) :: path m ps g c (sel m ps g l a (c + 1)), 0) := by
  have m6 := h.m6
  have hup := h.len
  intro c
  induction c with
  | zero =>
    intro l a f hl hex hlen hf
    obtain ⟨f, rfl⟩ : ∃ f', f = f' + 2 := ⟨f - 2, by omega⟩
    rw [whileK]
    unfold order_Chain_b71
    simp only
    rw [decide_eq_true (show ((0 + 1 : Nat) : Int) > 0 by omega), cond_true]
    obtain ⟨i, hi, hv, hgi⟩ := hex
    obtain ⟨z1, z2, z3⟩ := fN_spec (n := m) (p := fun i => (decide (l = []) || rr ps a i) && (g i == 0 + 1)) ⟨i, hi, by rw [hv, hgi]; simp⟩
    rcases for_find (σ := List Int) (k := fun s => order_Chain_k82 ((0 + 1 : Nat) : Int) (fun s' => whileK (σ := (List Int) × Int) (fun s nx_ => order_Chain_b71 (up, 0) (tab m fun i => (g i : Int)) s.1 s.2 nx_) (f + 1) s') s)
      (body := fun i s nx_ => order_Chain_b86 (up, 0) (tab m fun i => (g i : Int)) ((0 + 1 : Nat) : Int) (fun s' => whileK (σ := (List Int) × Int) (fun s nx_ => order_Chain_b71 (up, 0) (tab m fun i => (g i : Int)) s.1 s.2 nx_) (f + 1) s') i s nx_)
      (fun _ => l) (fun i => (decide (l = []) || rr ps a i) && (g i == 0 + 1)) _ (b := (up.length : Int)) (n := m) (by rw [hup]) (s := l) rfl (fun t nx' ht => step_eq h hl (by omega) ht _ nx') with ⟨t, ht, he, hb, e⟩ | ⟨h1, _⟩
    · have ht' : sel m ps g l a (0 + 1) = t := fN_eq ht he hb
      refine e.trans ?_
      rw [ht']
      unfold order_Chain_k82
      rw [w64_id (by omega) (by omega), show (((0 + 1 : Nat) : Int) - 1) = 0 from rfl]
      show order_Chain_b71 (up, 0) (tab m fun i => (g i : Int)) (l ++ [(t : Int)]) 0 _ = _
      unfold order_Chain_b71
      rw [decide_eq_false (by decide), cond_false]
      rfl
    · rw [h1 _ z1] at z2; cases z2
  | succ c ih =>
    intro l a f hl hex hlen hf
    obtain ⟨f, rfl⟩ : ∃ f', f = f' + 1 := ⟨f - 1, by omega⟩
    rw [whileK]
    unfold order_Chain_b71
    simp only
    rw [decide_eq_true (show ((c + 1 + 1 : Nat) : Int) > 0 by omega), cond_true]
    obtain ⟨i, hi, hv, hgi⟩ := hex
    obtain ⟨z1, z2, z3⟩ := fN_spec (n := m) (p := fun i => (decide (l = []) || rr ps a i) && (g i == c + 1 + 1)) ⟨i, hi, by rw [hv, hgi]; simp⟩
    rcases for_find (σ := List Int) (k := fun s => order_Chain_k82 ((c + 1 + 1 : Nat) : Int) (fun s' => whileK (σ := (List Int) × Int) (fun s nx_ => order_Chain_b71 (up, 0) (tab m fun i => (g i : Int)) s.1 s.2 nx_) f s') s)
      (body := fun i s nx_ => order_Chain_b86 (up, 0) (tab m fun i => (g i : Int)) ((c + 1 + 1 : Nat) : Int) (fun s' => whileK (σ := (List Int) × Int) (fun s nx_ => order_Chain_b71 (up, 0) (tab m fun i => (g i : Int)) s.1 s.2 nx_) f s') i s nx_)
      (fun _ => l) (fun i => (decide (l = []) || rr ps a i) && (g i == c + 1 + 1)) _ (b := (up.length : Int)) (n := m) (by rw [hup]) (s := l) rfl (fun t nx' ht => step_eq h hl (by omega) ht _ nx') with ⟨t, ht, he, hb, e⟩ | ⟨h1, _⟩
    · have ht' : sel m ps g l a (c + 1 + 1) = t := fN_eq ht he hb
      refine e.trans ?_
      rw [ht']
      unfold order_Chain_k82
      rw [w64_id (by omega) (by omega), show ((c + 1 + 1 : Nat) : Int) - 1 = ((c + 1 : Nat) : Int) by omega]
      rw [Bool.and_eq_true, beq_iff_eq] at he
      obtain ⟨j, hj, hrj, hgj⟩ := hH.next ht he.2
      have hne : l ++ [(t : Int)] ≠ [] := by simp
      have := ih (l ++ [(t : Int)]) t f (.inr ⟨by simp, ht⟩) ⟨j, hj, by rw [hrj, Bool.or_true], hgj⟩ (by rw [List.length_append, List.length_singleton]; omega) (by omega)
      refine this.trans ?_
      rw [path_sel hne]
      simp
    · rw [h1 _ z1] at z2; cases z2

/-! ### The document's list -/
theorem path_len {m : Nat} {ps : List (Int × Int)} {g : Nat → Nat} : ∀ (k a : Nat), (path m ps g k a).length = k
  | 0, _ => rfl
  | k + 1, a => by rw [path, List.length_cons, path_len k]
noncomputable def WW (m : Nat) (ps : List (Int × Int)) (g : Nat → Nat) (i : Nat) : List Int := (i : Int) :: path m ps g (g i - 1) i
theorem WW_len {m : Nat} {ps : List (Int × Int)} {g : Nat → Nat} {i : Nat} (h : 1 ≤ g i) : (WW m ps g i).length = g i := by
  unfold WW
  rw [List.length_cons, path_len]; omega
/-- The best one so far. -/
noncomputable def BB (m : Nat) (ps : List (Int × Int)) (g : Nat → Nat) (v : Nat → Bool) (l : List Int) (j : Nat) : List Int :=
  if mx j (fun i => bif v i then g i else 0) = 0 then l else l ++ WW m ps g (fN j fun i => v i && (g i == mx j (fun i => bif v i then g i else 0)))
theorem mx_has {g : Nat → Nat} {v : Nat → Bool} {j : Nat} (h : mx j (fun i => bif v i then g i else 0) ≠ 0) : ∃ i, i < j ∧ (v i && (g i == mx j (fun i => bif v i then g i else 0))) = true := by
  obtain ⟨i, hi, he⟩ := mx_at h
  refine ⟨i, hi, ?_⟩
  cases hv : v i with
  | false => simp only [hv, cond_false] at he; omega
  | true => simp only [hv, cond_true] at he; rw [← he]; simp
theorem BB_len {m : Nat} {ps : List (Int × Int)} {g : Nat → Nat} {v : Nat → Bool} {l : List Int} {j : Nat} (hg : ∀ i, i < m → 1 ≤ g i) (hj : j ≤ m) : (BB m ps g v l j).length = l.length + mx j (fun i => bif v i then g i else 0) := by
  unfold BB
  by_cases h : mx j (fun i => bif v i then g i else 0) = 0
  · rw [if_pos h, h]; rfl
  · rw [if_neg h]
    obtain ⟨h1, h2, _⟩ := fN_spec (mx_has h)
    rw [Bool.and_eq_true, beq_iff_eq] at h2
    rw [List.length_append, WW_len (hg _ (by omega)), h2.2]
theorem BB_new {m : Nat} {ps : List (Int × Int)} {g : Nat → Nat} {v : Nat → Bool} {l : List Int} {j : Nat} (hv : v j = true) (hgt : g j > mx j (fun i => bif v i then g i else 0)) : BB m ps g v l (j + 1) = l ++ WW m ps g j := by
  have e : mx (j + 1) (fun i => bif v i then g i else 0) = g j := by
    rw [mx]; simp only [hv, cond_true]; omega
  unfold BB
  rw [e, if_neg (by omega)]
  congr 2
  refine fN_eq (by omega) (by rw [hv]; simp) fun i hi => ?_
  cases hvi : v i with
  | false => rfl
  | true =>
    have := le_mx (f := fun i => bif v i then g i else 0) hi
    simp only [hvi, cond_true] at this
    rw [Bool.true_and, beq_eq_false_iff_ne]; omega
theorem BB_old {m : Nat} {ps : List (Int × Int)} {g : Nat → Nat} {v : Nat → Bool} {l : List Int} {j : Nat} (h : (bif v j then g j else 0) ≤ mx j (fun i => bif v i then g i else 0)) : BB m ps g v l (j + 1) = BB m ps g v l j := by
  have e : mx (j + 1) (fun i => bif v i then g i else 0) = mx j (fun i => bif v i then g i else 0) := by
    rw [mx]; omega
  unfold BB
  rw [e]
  by_cases h0 : mx j (fun i => bif v i then g i else 0) = 0
  · rw [if_pos h0, if_pos h0]
  · rw [if_neg h0, if_neg h0]
    congr 2
    rw [fN, anyN_iff.2 (mx_has h0), cond_true]
theorem best_loop {n : Int} {ps : List (Int × Int)} {up : List (BitVec 32)} {m : Nat} (h : OO n ps up m) {g : Nat → Nat} (hH : HT m ps g) (hg : ∀ i, i < m → g i ≤ m) {a : Nat} {l : List Int} {fuel : Nat} (hf : 30 < fuel) (hl : l = [] ∨ (l.getLast? = some (a : Int) ∧ a < m)) (hlen : l.length ≤ 20) (v : Nat → Bool) (hv : ∀ i, v i = (decide (l = []) || (!(a == i) && rr ps a i)))
    (slf : Int → List (Int × Int) → List Int → Option (List Int)) (hs : ∀ i, i < m → v i = true → slf m ps (l ++ [(i : Int)]) = some (l ++ WW m ps g i)) :
    syllogistref_Longest_s slf fuel m ps l = some (BB m ps g v l m) := by
  have m6 := h.m6
  unfold syllogistref_Longest_s
  rw [decide_eq_true (by omega), cond_true]
  refine for0_q (n := m) (Q := fun o => o = some (BB m ps g v l m)) (fun j s => s = BB m ps g v l j) rfl l (by unfold BB; rw [if_pos (show mx 0 (fun i => bif v i then g i else 0) = 0 from rfl)]) (fun j s nx hj hI hn => ?_) (fun s hI => by rw [hI]; rfl)
  subst hI
  unfold syllogistref_Longest_b19
  have hnew : (((l.length : Int) == (0 : Int)) || ((((geti l ((w64 ((l.length : Int) - (1 : Int))))).getD (0 : Int)) != (j : Int)) && (((syllogistref_Under fuel (m : Int) ps (((geti l ((w64 ((l.length : Int) - (1 : Int))))).getD (0 : Int))) (j : Int)).getD false)))) = v j ∧
      (!(((l.length : Int) == (0 : Int)) == false) || (geti l ((w64 ((l.length : Int) - (1 : Int))))).isSome) = true ∧
      (!((((l.length : Int) == (0 : Int)) == false) && ((((geti l ((w64 ((l.length : Int) - (1 : Int))))).getD (0 : Int)) != (j : Int)) == true)) || (geti l ((w64 ((l.length : Int) - (1 : Int))))).isSome) = true ∧
      (!((((l.length : Int) == (0 : Int)) == false) && ((((geti l ((w64 ((l.length : Int) - (1 : Int))))).getD (0 : Int)) != (j : Int)) == true)) || (syllogistref_Under fuel (m : Int) ps (((geti l ((w64 ((l.length : Int) - (1 : Int))))).getD (0 : Int))) (j : Int)).isSome) = true := by
    rw [len_zero, hv]
    rcases hl with rfl | ⟨hla, ham⟩
    · simp
    · have hne : l ≠ [] := fun e => by subst e; simp at hla
      rw [last_at hla (by omega), decide_eq_false hne]
      simp only [Option.getD_some, under2 h fuel hf, Option.isSome_some, Bool.or_true, ne_cast, Bool.false_or, and_self]
  obtain ⟨e1, e2, e3, e4⟩ := hnew
  rw [e2, cond_true, e3, cond_true, e4, cond_true, e1]
  cases hvj : v j with
  | false =>
    rw [cond_false]
    refine hn _ ?_
    rw [BB_old (by rw [hvj]; exact Nat.zero_le _)]
  | true =>
    rw [cond_true, List.nil_append, decide_eq_true (by simp; omega), cond_true, decide_eq_true (by simp; omega), cond_true, hs j hj hvj, Option.bind_some]
    have hgj := hH.pos hj
    have hL : (l ++ WW m ps g j).length = l.length + g j := by rw [List.length_append, WW_len hgj]
    have hB := BB_len (ps := ps) (v := v) (l := l) (fun i hi => hH.pos hi) (show j ≤ m by omega)
    by_cases hgt : g j > mx j (fun i => bif v i then g i else 0)
    · rw [decide_eq_true (by rw [hL, hB]; omega), cond_true]
      exact hn _ (BB_new hvj hgt).symm
    · rw [decide_eq_false (by rw [hL, hB]; omega), cond_false]
      refine hn _ ?_
      rw [BB_old (by rw [hvj, cond_true]; omega)]
theorem longest_at {n : Int} {ps : List (Int × Int)} {up : List (BitVec 32)} {m : Nat} (h : OO n ps up m) {g : Nat → Nat} (hH : HT m ps g) (hg : ∀ i, i < m → g i ≤ m) : ∀ (K k a : Nat) (l : List Int) (fuel : Nat), k < K → a < m → g a = k + 1 → l.getLast? = some (a : Int) → l.length + k ≤ 20 → 31 + k < fuel →
    syllogistref_Longest fuel m ps l = some (l ++ path m ps g k a) := by
  intro K
  induction K with
  | zero => intro k a l fuel hk; omega
  | succ K ih =>
    intro k a l fuel hk ha hga hla hlen hf
    obtain ⟨fuel, rfl⟩ : ∃ f, fuel = f + 1 := ⟨fuel - 1, by omega⟩
    have hne : l ≠ [] := fun e => by subst e; simp at hla
    show syllogistref_Longest_s (syllogistref_Longest fuel) fuel m ps l = _
    rw [best_loop h hH hg (a := a) (by omega) (.inr ⟨hla, ha⟩) (by omega) (fun i => !(a == i) && rr ps a i) (fun i => by rw [decide_eq_false hne, Bool.false_or]) _ (fun i hi hvi => by
      rw [Bool.and_eq_true] at hvi
      have hne' : i ≠ a := by have := hvi.1; simp at this; omega
      have hlt := hH.lt ha hi hne' hvi.2
      have hp := hH.pos hi
      have := ih (g i - 1) i (l ++ [(i : Int)]) fuel (by omega) hi (by omega) (by simp) (by rw [List.length_append, List.length_singleton]; omega) (by omega)
      rw [this]
      unfold WW
      simp)]
    have hmk : mx m (fun i => bif (!(a == i) && rr ps a i) then g i else 0) = k := by
      have := hH a ha
      have e : mx m (fun i => bif (!(a == i) && rr ps a i) then g i else 0) = mx m (fun j => bif !(j == a) && rr ps a j then g j else 0) := mx_congr fun i _ => by rw [show (a == i) = (i == a) from Bool.beq_comm]
      omega
    congr 1
    unfold BB
    rw [hmk]
    by_cases h0 : k = 0
    · subst h0; rw [if_pos rfl]; simp [path]
    · rw [if_neg h0]
      obtain ⟨k, rfl⟩ : ∃ k', k = k' + 1 := ⟨k - 1, by omega⟩
      have hfun : (fun i => !(a == i) && rr ps a i && (g i == k + 1)) = fun i => rr ps a i && (g i == k + 1) := by
        funext i
        by_cases e : a = i
        · subst e
          rw [hga, show (k + 1 + 1 == k + 1) = false by simp]
          simp
        · rw [show (a == i) = false by simpa using e]
          simp
      rw [hfun]
      have hex : ∃ i, i < m ∧ (rr ps a i && (g i == k + 1)) = true := by
        obtain ⟨j, hj, h1, h2⟩ := hH.next ha hga
        exact ⟨j, hj, by rw [h1, h2]; simp⟩
      obtain ⟨z1, z2, _⟩ := fN_spec hex
      rw [Bool.and_eq_true, beq_iff_eq] at z2
      unfold WW
      rw [z2.2]
      rfl
theorem longest_root {n : Int} {ps : List (Int × Int)} {up : List (BitVec 32)} {m : Nat} (h : OO n ps up m) {g : Nat → Nat} (hH : HT m ps g) (hg : ∀ i, i < m → g i ≤ m) {fuel : Nat} (hf : 100 < fuel) : ∃ c, mx m g = c + 1 ∧ (∃ i, i < m ∧ g i = c + 1) ∧
    syllogistref_Longest fuel m ps [] = some ((sel m ps g [] 0 (c + 1) : Int) :: path m ps g c (sel m ps g [] 0 (c + 1))) := by
  have m1 := h.m1
  have m6 := h.m6
  have h0 := hH.pos (show 0 < m by omega)
  have hle := le_mx (f := g) (show 0 < m by omega)
  obtain ⟨c, hc⟩ : ∃ c, mx m g = c + 1 := ⟨mx m g - 1, by omega⟩
  obtain ⟨i, hi, hgi⟩ := mx_at (n := m) (f := g) (by omega)
  refine ⟨c, hc, ⟨i, hi, by omega⟩, ?_⟩
  obtain ⟨fuel, rfl⟩ : ∃ f, fuel = f + 1 := ⟨fuel - 1, by omega⟩
  show syllogistref_Longest_s (syllogistref_Longest fuel) fuel m ps [] = _
  rw [best_loop h hH hg (a := 0) (by omega) (.inl rfl) (by simp) (fun i => true) (fun i => by simp) _ (fun i hi _ => by
    have hp := hH.pos hi
    have := hg i hi
    have := longest_at h hH hg 100 (g i - 1) i ([] ++ [(i : Int)]) fuel (by omega) hi (by omega) (by simp) (by simp; omega) (by omega)
    rw [this]
    unfold WW
    simp)]
  congr 1
  unfold BB
  simp only [cond_true, Bool.true_and]
  rw [hc, if_neg (by omega)]
  have : sel m ps g [] 0 (c + 1) = fN m fun i => g i == c + 1 := by unfold sel; simp
  rw [this]
  obtain ⟨z1, z2, _⟩ := fN_spec (n := m) (p := fun i => g i == c + 1) ⟨i, hi, by rw [hgi, hc]; simp⟩
  rw [beq_iff_eq] at z2
  unfold WW
  rw [z2]
  rfl

theorem orderChains_true (fuel : Nat) (n : Int) (ps : List (Int × Int)) (hf : 200 < fuel := by decide) : syllogistlaw_OrderChains fuel n ps = some true := by
  unfold syllogistlaw_OrderChains order_Chain
  obtain ⟨up, c, e1, e2, h1, h2⟩ := table2 n ps
  rw [e1, e2 fuel (by omega)]
  by_cases hc : c = 0
  · subst hc
    obtain ⟨m, h⟩ := h2 rfl
    have m6 := h.m6
    have hn := h.n
    subst hn
    obtain ⟨r, l1, l2, l3, l4⟩ := line_ok h e1 (fuel := fuel) (by omega)
    obtain ⟨g, hH, hg, hk⟩ := heights_ok h l2 l3 l4 fuel
    rw [l1]
    simp only [Option.bind_some, bne_self_eq_false, cond_false]
    rw [decide_eq_true (by omega), cond_true, Int.toNat_natCast, hk]
    obtain ⟨c, hc, ⟨i, hi, hgi⟩, hlr⟩ := longest_root h hH hg (fuel := fuel) (by omega)
    unfold order_Chain_k58
    rw [hc]
    have hmc : c + 1 ≤ m := by rw [← hgi]; exact hg i hi
    have := list_ok h hH c [] 0 fuel (.inl rfl) ⟨i, hi, by simp, hgi⟩ (by simp; omega) (by omega)
    rw [this, Option.bind_some]
    simp only [List.nil_append]
    rw [show (((0 : Int) == 0) == true) = true from rfl, cond_true, hlr, Option.bind_some, ints_eq, Option.bind_some]
    simp
  · have hb : (c != 0) = true := by simpa using hc
    have hline : order_Line fuel n ps = some ([], c) := by
      unfold order_Line
      rw [e1, Option.bind_some]
      simp only [hb, cond_true]
    rw [hline]
    simp [hb]
end Go.Proofs.Ytgnaigfgeofmmaa.Sy
