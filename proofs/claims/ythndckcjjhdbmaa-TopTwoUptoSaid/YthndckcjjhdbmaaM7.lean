/- What strokes make of a page, and what is seen of it: plain laws; no program in sight. -/
import Derived.Test.YthndckcjjhdbmaaM3
namespace Go.Proofs.Ythndckcjjhdbmaa.Sy
set_option linter.unusedVariables false

/-! ### Counting -/
theorem cnt_succ {n : Nat} {p : Nat → Bool} : cntN (n + 1) p = if p n = true then cntN n p + 1 else cntN n p := by
  rw [cntN]; cases p n <;> rfl
theorem cnt_mono {p : Nat → Bool} {i : Nat} : ∀ {j : Nat}, i ≤ j → cntN i p ≤ cntN j p
  | 0, h => by obtain rfl : i = 0 := by omega
               exact Nat.le_refl _
  | j + 1, h => by
    by_cases e : i = j + 1
    · subst e; exact Nat.le_refl _
    · have := cnt_mono (p := p) (show i ≤ j by omega)
      rw [cnt_succ]; split <;> omega
theorem cnt_ex {p : Nat → Bool} : ∀ {n y : Nat}, y < cntN n p → ∃ j, j < n ∧ p j = true ∧ cntN j p = y
  | 0, y, h => by exact absurd h (by simp [cntN])
  | n + 1, y, h => by
    rw [cnt_succ] at h
    by_cases e : y < cntN n p
    · obtain ⟨j, h1, h2, h3⟩ := cnt_ex e
      exact ⟨j, by omega, h2, h3⟩
    · split at h
      · rename_i hp
        exact ⟨n, by omega, hp, by omega⟩
      · omega
theorem cnt_lt {p : Nat → Bool} {i j : Nat} (hp : p i = true) : cntN i p < cntN j p ↔ i < j := by
  constructor
  · intro h
    refine Classical.byContradiction fun hn => ?_
    have := cnt_mono (p := p) (show j ≤ i by omega)
    omega
  · intro h; exact cnt_step h hp
theorem cnt_inj {p : Nat → Bool} {i j : Nat} (hi : p i = true) (hj : p j = true) (h : cntN i p = cntN j p) : i = j := by
  have h1 := cnt_lt (j := j) hi
  have h2 := cnt_lt (j := i) hj
  omega
theorem cnt_comp {q p r : Nat → Bool} : ∀ {n : Nat}, (∀ j, j < n → q j = true → r (cntN j q) = p j) → cntN (cntN n q) r = cntN n (fun j => q j && p j)
  | 0, _ => rfl
  | n + 1, h => by
    have ih := cnt_comp (n := n) fun j hj => h j (by omega)
    rw [cnt_succ, cnt_succ]
    cases hq : q n with
    | false => simpa using ih
    | true =>
      rw [if_pos rfl, cnt_succ, h n (by omega) hq, ih]
      simp

/-! ### What is kept -/
theorem keep_len {l : List Leaf} {p : Nat → Bool} : (keep l p).length = cntN l.length p := kept_len
theorem kept_get {l : List Leaf} {p : Nat → Bool} {j : Nat} (hp : p j = true) : ∀ {n : Nat}, j < n → (apps n (kept l p))[cntN j p]? = some { up := nup p (lf l j).up, text := (lf l j).text, label := (lf l j).label }
  | n + 1, h => by
    have hl := kept_len (l := l) (p := p) (t := n)
    rw [apps]
    by_cases e : j = n
    · subst e
      rw [List.getElem?_append_right (by omega), hl, Nat.sub_self]
      unfold kept
      rw [hp]; rfl
    · have := cnt_step (n := n) (by omega) hp
      rw [List.getElem?_append_left (by omega)]
      exact kept_get hp (by omega)
theorem keep_lf {l : List Leaf} {p : Nat → Bool} {j : Nat} (hj : j < l.length) (hp : p j = true) : lf (keep l p) (cntN j p) = { up := nup p (lf l j).up, text := (lf l j).text, label := (lf l j).label } := by
  have := kept_get (l := l) hp hj
  show ((keep l p)[cntN j p]?).getD _ = _
  rw [show (keep l p)[cntN j p]? = _ from this]; rfl
theorem leaf_ext {a b : List Leaf} (hl : a.length = b.length) (h : ∀ i, i < a.length → lf a i = lf b i) : a = b := by
  refine List.ext_getElem? fun i => ?_
  by_cases hi : i < a.length
  · have := h i hi
    rw [show lf a i = a[i] from getd_at _ hi, show lf b i = b[i] from getd_at _ (by omega)] at this
    rw [List.getElem?_eq_getElem hi, List.getElem?_eq_getElem (by omega), this]
  · rw [List.getElem?_eq_none (by omega), List.getElem?_eq_none (by omega)]
theorem nup_congr {p q : Nat → Bool} {u : Int} {n : Nat} (hu : u < n) (h : ∀ j, j < n → p j = q j) : nup p u = nup q u := by
  unfold nup
  split
  · rfl
  · rw [cntN_congr fun j hj => h j (by omega)]
theorem keep_congr {l : List Leaf} {p q : Nat → Bool} (hu : ∀ i, i < l.length → (lf l i).up < l.length) (h : ∀ j, j < l.length → p j = q j) : keep l p = keep l q := by
  unfold keep
  refine apps_congr fun j hj => ?_
  unfold kept
  rw [h j hj, nup_congr (hu j hj) h]
theorem nup_comp {q p r : Nat → Bool} {u : Int} {n : Nat} (hu : u < n) (h : ∀ j, j < n → q j = true → r (cntN j q) = p j) : nup r (nup q u) = nup (fun j => q j && p j) u := by
  unfold nup
  by_cases h0 : u < 0
  · rw [if_pos h0, if_pos h0, if_pos (by omega)]
  · rw [if_neg h0, if_neg h0]
    have hc := cnt_comp (n := u.toNat + 1) fun j hj => h j (by omega)
    by_cases h1 : (cntN (u.toNat + 1) q : Int) - 1 < 0
    · rw [if_pos h1]
      have : cntN (u.toNat + 1) q = 0 := by omega
      rw [this] at hc
      have h2 : cntN 0 r = 0 := rfl
      omega
    · rw [if_neg h1, show ((cntN (u.toNat + 1) q : Int) - 1).toNat + 1 = cntN (u.toNat + 1) q by omega, hc]
theorem keep_keep {l : List Leaf} {q p r : Nat → Bool} (hu : ∀ i, i < l.length → (lf l i).up < l.length) (h : ∀ j, j < l.length → q j = true → r (cntN j q) = p j) : keep (keep l q) r = keep l (fun j => q j && p j) := by
  have hc := cnt_comp (n := l.length) h
  refine leaf_ext (by rw [keep_len, keep_len, keep_len, hc]) fun y hy => ?_
  rw [keep_len, keep_len] at hy
  obtain ⟨j', h1, h2, h3⟩ := cnt_ex hy
  obtain ⟨j, h4, h5, h6⟩ := cnt_ex h1
  subst h6 h3
  rw [keep_lf (l := keep l q) (by rw [keep_len]; exact h1) h2, keep_lf h4 h5]
  have hpj : (fun j => q j && p j) j = true := by
    show (q j && p j) = true
    rw [h5, ← h j h4 h5, h2]; rfl
  have hcj := cnt_comp (n := j) fun i hi => h i (by omega)
  rw [hcj, keep_lf h4 hpj]
  simp only
  rw [nup_comp (hu j h4) h]

/-! ### A leaf put in -/
def sh (a : Nat) (x : Leaf) : Leaf := if x.up ≥ a then { x with up := x.up + 1 } else x
def ins (l : List Leaf) (a : Nat) (x : Leaf) : List Leaf := (l.take a).map (sh a) ++ x :: (l.drop a).map (sh a)
theorem ins_len {l : List Leaf} {a : Nat} {x : Leaf} (h : a ≤ l.length) : (ins l a x).length = l.length + 1 := by
  unfold ins
  rw [List.length_append, List.length_cons, List.length_map, List.length_map, List.length_take, List.length_drop]; omega
theorem lf_some {l : List Leaf} {i : Nat} {x : Leaf} (h : l[i]? = some x) : lf l i = x := by show (l[i]?).getD _ = _; rw [h]; rfl
theorem lf_get {l : List Leaf} {i : Nat} (h : i < l.length) : l[i]? = some (lf l i) := by rw [show lf l i = l[i] from getd_at _ h, List.getElem?_eq_getElem h]
theorem ins_lf {l : List Leaf} {a : Nat} {x : Leaf} (ha : a ≤ l.length) {i : Nat} (hi : i ≤ l.length) : lf (ins l a x) i = if i < a then sh a (lf l i) else if i = a then x else sh a (lf l (i - 1)) := by
  refine lf_some ?_
  unfold ins
  have h1 : ((l.take a).map (sh a)).length = a := by rw [List.length_map, List.length_take]; omega
  by_cases h : i < a
  · rw [if_pos h, List.getElem?_append_left (by omega), List.getElem?_map, List.getElem?_take, if_pos h, lf_get (by omega)]; rfl
  · rw [if_neg h, List.getElem?_append_right (by omega), h1]
    by_cases e : i = a
    · subst e; rw [if_pos rfl, Nat.sub_self]; rfl
    · rw [if_neg e, show i - a = (i - 1 - a) + 1 by omega, List.getElem?_cons_succ, List.getElem?_map, List.getElem?_drop, show a + (i - 1 - a) = i - 1 by omega, lf_get (by omega)]; rfl
def insP (a : Nat) (v : Bool) (p : Nat → Bool) : Nat → Bool := fun i => if i < a then p i else if i = a then v else p (i - 1)
theorem insP_lt {a : Nat} {v : Bool} {p : Nat → Bool} {i : Nat} (h : i < a) : insP a v p i = p i := by unfold insP; rw [if_pos h]
theorem insP_eq {a : Nat} {v : Bool} {p : Nat → Bool} : insP a v p a = v := by unfold insP; rw [if_neg (Nat.lt_irrefl _), if_pos rfl]
theorem insP_gt {a : Nat} {v : Bool} {p : Nat → Bool} {i : Nat} (h : a ≤ i) : insP a v p (i + 1) = p i := by
  unfold insP; rw [if_neg (show ¬ i + 1 < a by omega), if_neg (show ¬ i + 1 = a by omega), Nat.add_sub_cancel]
theorem cnt_insP {a : Nat} {v : Bool} {p : Nat → Bool} : ∀ i, cntN i (insP a v p) = if i ≤ a then cntN i p else cntN (i - 1) p + (if v = true then 1 else 0)
  | 0 => by rw [if_pos (Nat.zero_le _)]; rfl
  | i + 1 => by
    rw [cnt_succ, cnt_insP i]
    by_cases h1 : i < a
    · rw [insP_lt h1, if_pos (show i ≤ a by omega), if_pos (show i + 1 ≤ a by omega), cnt_succ]
    · rw [if_neg (show ¬ i + 1 ≤ a by omega), Nat.add_sub_cancel]
      by_cases e : i = a
      · subst e
        rw [insP_eq, if_pos (Nat.le_refl _)]
        cases v <;> rfl
      · obtain ⟨k, rfl⟩ : ∃ k, i = k + 1 := ⟨i - 1, by omega⟩
        rw [insP_gt (by omega), if_neg (show ¬ k + 1 ≤ a by omega), Nat.add_sub_cancel, cnt_succ]
        cases p k with
        | true => rw [if_pos rfl, if_pos rfl]; omega
        | false => rfl
theorem cnt_insP_le {a : Nat} {v : Bool} {p : Nat → Bool} {i : Nat} (h : i ≤ a) : cntN i (insP a v p) = cntN i p := by rw [cnt_insP, if_pos h]
theorem cnt_insP_gt {a : Nat} {v : Bool} {p : Nat → Bool} {i : Nat} (h : a ≤ i) : cntN (i + 1) (insP a v p) = cntN i p + (if v = true then 1 else 0) := by rw [cnt_insP, if_neg (show ¬ i + 1 ≤ a by omega), Nat.add_sub_cancel]
theorem nup_nat {p : Nat → Bool} {u : Nat} (h : p u = true) : nup p (u : Int) = (cntN u p : Int) := by
  unfold nup
  rw [if_neg (by omega), Int.toNat_natCast, cnt_succ, if_pos h]; omega
theorem nup_neg {p : Nat → Bool} {u : Int} (h : u < 0) : nup p u = -1 := by unfold nup; rw [if_pos h]
theorem nup_lt {p : Nat → Bool} {u : Int} {a : Nat} (h : u < a) : nup p u < cntN a p := by
  unfold nup
  split
  · omega
  · have := cnt_mono (p := p) (show u.toNat + 1 ≤ a by omega)
    omega
theorem nup_insP_lt {p : Nat → Bool} {v : Bool} {u : Int} {a : Nat} (h : u < a) : nup (insP a v p) u = nup p u := by
  unfold nup
  split
  · rfl
  · rw [cnt_insP_le (by omega)]
theorem nup_insP_ge {p : Nat → Bool} {v : Bool} {u : Int} {a : Nat} (h : (a : Int) ≤ u) : nup (insP a v p) (u + 1) = nup p u + (if v = true then 1 else 0) := by
  unfold nup
  rw [if_neg (show ¬ u + 1 < 0 by omega), if_neg (show ¬ u < 0 by omega), show (u + 1).toNat + 1 = (u.toNat + 1) + 1 by omega, cnt_insP_gt (by omega)]
  cases v <;> simp <;> omega
theorem sh_lt {a : Nat} {x : Leaf} (h : x.up < a) : sh a x = x := by unfold sh; rw [if_neg (by omega)]
theorem sh_ge {a : Nat} {x : Leaf} (h : (a : Int) ≤ x.up) : sh a x = { x with up := x.up + 1 } := by unfold sh; rw [if_pos (by omega)]
theorem sh_label {a : Nat} {x : Leaf} : (sh a x).label = x.label := by unfold sh; split <;> rfl

/-- What a page has whose leaves stand below earlier ones. -/
def Ups (l : List Leaf) : Prop := ∀ i, i < l.length → -1 ≤ (lf l i).up ∧ (lf l i).up < i
/-- With a leaf, the one above it. -/
def Upw (l : List Leaf) (p : Nat → Bool) : Prop := ∀ i, i < l.length → p i = true → ∀ j : Nat, (lf l i).up = j → p j = true
theorem Ups.lt {l : List Leaf} (h : Ups l) (i : Nat) (hi : i < l.length) : (lf l i).up < l.length := by have := (h i hi).2; omega

theorem keep_ins {l : List Leaf} {a : Nat} {x : Leaf} {p : Nat → Bool} {v : Bool} (ha : a ≤ l.length) (hu : Ups l) (hp : Upw l p) (hx : x.up < a) :
    keep (ins l a x) (insP a v p) = if v = true then ins (keep l p) (cntN a p) { x with up := nup p x.up } else keep l p := by
  have hca := cnt_mono (p := p) ha
  have hlen : cntN (l.length + 1) (insP a v p) = cntN l.length p + (if v = true then 1 else 0) := cnt_insP_gt ha
  have hkl := keep_len (l := l) (p := p)
  refine leaf_ext ?_ fun y hy => ?_
  · rw [keep_len, ins_len ha, hlen]
    split
    · rw [ins_len (by rw [keep_len]; exact hca), keep_len]
    · rw [keep_len]; rfl
  rw [keep_len, ins_len ha] at hy
  obtain ⟨j, h1, h2, h3⟩ := cnt_ex hy
  subst h3
  rw [keep_lf (by rw [ins_len ha]; exact h1) h2, ins_lf ha (show j ≤ l.length by omega)]
  by_cases hja : j < a
  · have hpj : p j = true := by rwa [insP_lt hja] at h2
    obtain ⟨u1, u2⟩ := hu j (by omega)
    rw [if_pos hja, cnt_insP_le (by omega), sh_lt (by omega), nup_insP_lt (by omega)]
    have hk := keep_lf (p := p) (show j < l.length by omega) hpj
    have hlt : cntN j p < cntN a p := (cnt_lt hpj).2 hja
    cases v with
    | true => rw [if_pos rfl, ins_lf (by omega) (by omega), if_pos hlt, hk, sh_lt (by simp only; exact nup_lt (by omega))]
    | false => rw [if_neg (by simp), hk]
  · rw [if_neg hja]
    by_cases e : j = a
    · subst e
      have hv : v = true := by rwa [insP_eq] at h2
      subst hv
      rw [if_pos rfl, cnt_insP_le (Nat.le_refl _), if_pos rfl, ins_lf (by omega) (by omega), if_neg (Nat.lt_irrefl _), if_pos rfl, nup_insP_lt hx]
    · obtain ⟨i, rfl⟩ : ∃ i, j = i + 1 := ⟨j - 1, by omega⟩
      have hai : a ≤ i := by omega
      have hpi : p i = true := by rwa [insP_gt hai] at h2
      have hil : i < l.length := by omega
      obtain ⟨u1, u2⟩ := hu i hil
      have hk := keep_lf (p := p) hil hpi
      have hge : cntN a p ≤ cntN i p := cnt_mono hai
      have hltl := (cnt_lt (j := l.length) hpi).2 hil
      rw [if_neg e, cnt_insP_gt hai, Nat.add_sub_cancel]
      by_cases hua : (lf l i).up < a
      · rw [sh_lt hua, nup_insP_lt hua]
        cases v with
        | true => rw [if_pos rfl, if_pos rfl, ins_lf (by omega) (by omega), if_neg (show ¬ cntN i p + 1 < cntN a p by omega), if_neg (show ¬ cntN i p + 1 = cntN a p by omega), Nat.add_sub_cancel, hk, sh_lt (by simp only; exact nup_lt hua)]
        | false => rw [if_neg (by simp), if_neg (by simp), Nat.add_zero, hk]
      · rw [sh_ge (by omega)]
        simp only
        rw [nup_insP_ge (by omega)]
        cases v with
        | true =>
          obtain ⟨u, hu'⟩ : ∃ u : Nat, (lf l i).up = u := ⟨(lf l i).up.toNat, by omega⟩
          have hpu := hp i hil hpi u hu'
          have h5 : cntN a p ≤ cntN u p := cnt_mono (by omega)
          rw [if_pos rfl, if_pos rfl, if_pos rfl, ins_lf (by omega) (by omega), if_neg (show ¬ cntN i p + 1 < cntN a p by omega), if_neg (show ¬ cntN i p + 1 = cntN a p by omega), Nat.add_sub_cancel, hk, sh_ge (by simp only; rw [hu', nup_nat hpu]; omega)]
        | false => rw [if_neg (by simp), if_neg (by simp), if_neg (by simp), Nat.add_zero, hk, Int.add_zero]

/-! ### Pages that pass -/
theorem POk.ups {l : List Leaf} (h : POk l) : Ups l := fun i hi => by
  have := h.up0 i hi
  rwa [← show lf l i = l[i] from getd_at _ hi] at this
theorem POk.of {l : List Leaf} (h40 : l.length ≤ 40) (hl : ∀ i, i < l.length → lcode (lf l i).label = 0) (hu : Ups l) (hn : ∀ i, i < l.length → ∀ j : Nat, (lf l i).up = j → lund (lf l j).label (lf l i).label = true) : POk l := by
  refine ⟨h40, fun i hi => ?_, fun i hi => ?_, fun i hi j hj e => ?_⟩
  · have := hl i hi; rwa [show lf l i = l[i] from getd_at _ hi] at this
  · have := hu i hi; rwa [show lf l i = l[i] from getd_at _ hi] at this
  · have := hn i hi j (by rw [show lf l i = l[i] from getd_at _ hi]; exact e)
    rwa [show lf l i = l[i] from getd_at _ hi, show lf l j = l[j] from getd_at _ hj] at this
theorem POk.lab' {l : List Leaf} (h : POk l) {i : Nat} (hi : i < l.length) : lcode (lf l i).label = 0 := by
  rw [show lf l i = l[i] from getd_at _ hi]; exact h.lab i hi
theorem POk.und' {l : List Leaf} (h : POk l) {i j : Nat} (hi : i < l.length) (e : (lf l i).up = j) : lund (lf l j).label (lf l i).label = true := by
  have hj : j < l.length := by have := (h.ups i hi).2; omega
  rw [show lf l i = l[i] from getd_at _ hi, show lf l j = l[j] from getd_at _ hj]
  exact h.und i hi j hj (by rw [← show lf l i = l[i] from getd_at _ hi]; exact e)
theorem POk.keep {l : List Leaf} (h : POk l) {p : Nat → Bool} (hp : Upw l p) : POk (keep l p) := by
  have hu := h.ups
  have key : ∀ y, y < (Sy.keep l p).length → ∃ j, j < l.length ∧ p j = true ∧ cntN j p = y ∧ lf (Sy.keep l p) y = { up := nup p (lf l j).up, text := (lf l j).text, label := (lf l j).label } := fun y hy => by
    rw [keep_len] at hy
    obtain ⟨j, h1, h2, h3⟩ := cnt_ex hy
    exact ⟨j, h1, h2, h3, by rw [← h3]; exact keep_lf h1 h2⟩
  refine .of ?_ (fun y hy => ?_) (fun y hy => ?_) (fun y hy z e => ?_)
  · rw [keep_len]; exact Nat.le_trans cntN_le h.len
  · obtain ⟨j, h1, h2, h3, h4⟩ := key y hy
    rw [h4]; exact h.lab' h1
  · obtain ⟨j, h1, h2, h3, h4⟩ := key y hy
    rw [h4]
    obtain ⟨u1, u2⟩ := hu j h1
    simp only
    by_cases h0 : (lf l j).up < 0
    · rw [nup_neg h0]; omega
    · obtain ⟨u, e⟩ : ∃ u : Nat, (lf l j).up = u := ⟨(lf l j).up.toNat, by omega⟩
      have hpu := hp j h1 h2 u e
      have := (cnt_lt (j := j) hpu).2 (by omega)
      rw [e, nup_nat hpu]; omega
  · obtain ⟨j, h1, h2, h3, h4⟩ := key y hy
    rw [h4] at e ⊢
    simp only at e ⊢
    obtain ⟨u1, u2⟩ := hu j h1
    by_cases h0 : (lf l j).up < 0
    · rw [nup_neg h0] at e; omega
    · obtain ⟨u, e'⟩ : ∃ u : Nat, (lf l j).up = u := ⟨(lf l j).up.toNat, by omega⟩
      have hpu := hp j h1 h2 u e'
      rw [e', nup_nat hpu] at e
      have : z = cntN u p := by omega
      rw [this, keep_lf (by omega) hpu]
      exact h.und' h1 e'
theorem POk.ins {l : List Leaf} (h : POk l) {a : Nat} {x : Leaf} (ha : a ≤ l.length) (h40 : l.length < 40) (hl : lcode x.label = 0) (h1 : -1 ≤ x.up) (h2 : x.up < a) (hn : ∀ j : Nat, x.up = j → lund (lf l j).label x.label = true) : POk (ins l a x) := by
  have hu := h.ups
  have hup : ∀ i, i < l.length → ∀ j : Nat, (sh a (lf l i)).up = j → lund (lf (Sy.ins l a x) j).label (lf l i).label = true := fun i hi j e => by
    obtain ⟨u1, u2⟩ := hu i hi
    by_cases hlt : (lf l i).up < a
    · rw [sh_lt hlt] at e
      rw [ins_lf ha (by omega), if_pos (by omega), sh_label]
      exact h.und' hi e
    · rw [sh_ge (by omega)] at e
      simp only at e
      rw [ins_lf ha (by omega), if_neg (by omega), if_neg (by omega), sh_label]
      exact h.und' hi (by omega)
  refine .of ?_ (fun i hi => ?_) (fun i hi => ?_) (fun i hi j e => ?_)
  · rw [ins_len ha]; omega
  · rw [ins_len ha] at hi
    rw [ins_lf ha (by omega)]
    split
    · rw [sh_label]; exact h.lab' (by omega)
    · split
      · exact hl
      · rw [sh_label]; exact h.lab' (by omega)
  · rw [ins_len ha] at hi
    rw [ins_lf ha (by omega)]
    by_cases hia : i < a
    · rw [if_pos hia]
      obtain ⟨u1, u2⟩ := hu i (by omega)
      rw [sh_lt (by omega)]; exact ⟨u1, u2⟩
    · rw [if_neg hia]
      by_cases e : i = a
      · subst e; rw [if_pos rfl]; exact ⟨h1, h2⟩
      · rw [if_neg e]
        obtain ⟨u1, u2⟩ := hu (i - 1) (by omega)
        unfold sh
        split
        · simp only; omega
        · omega
  · rw [ins_len ha] at hi
    rw [ins_lf ha (show i ≤ l.length by omega)] at e ⊢
    by_cases hia : i < a
    · rw [if_pos hia] at e ⊢
      rw [sh_label]; exact hup i (by omega) j e
    · rw [if_neg hia] at e ⊢
      by_cases ei : i = a
      · subst ei
        rw [if_pos rfl] at e ⊢
        rw [ins_lf ha (by omega), if_pos (by omega), sh_label]
        exact hn j e
      · rw [if_neg ei] at e ⊢
        rw [sh_label]; exact hup (i - 1) (by omega) j e
def setT (l : List Leaf) (k : Nat) (t : Int) : List Leaf := l.set k { lf l k with text := t }
theorem setT_lf {l : List Leaf} {k : Nat} {t : Int} (hk : k < l.length) (i : Nat) (hi : i < l.length) : lf (setT l k t) i = if i = k then { lf l k with text := t } else lf l i := by
  refine lf_some ?_
  unfold setT
  rw [List.getElem?_set]
  by_cases e : k = i
  · subst e; rw [if_pos rfl, if_pos hk, if_pos rfl]
  · rw [if_neg e, if_neg (fun h => e h.symm), lf_get hi]
theorem setT_len {l : List Leaf} {k : Nat} {t : Int} : (setT l k t).length = l.length := by unfold setT; rw [List.length_set]
theorem setT_up {l : List Leaf} {k : Nat} {t : Int} (hk : k < l.length) (i : Nat) : (lf (setT l k t) i).up = (lf l i).up ∧ (lf (setT l k t) i).label = (lf l i).label := by
  by_cases hi : i < l.length
  · rw [setT_lf hk i hi]
    by_cases e : i = k
    · subst e; rw [if_pos rfl]; exact ⟨rfl, rfl⟩
    · rw [if_neg e]; exact ⟨rfl, rfl⟩
  · have h1 : (setT l k t)[i]? = none := List.getElem?_eq_none (by rw [setT_len]; omega)
    have h2 : l[i]? = none := List.getElem?_eq_none (by omega)
    show ((setT l k t)[i]?.getD _).up = (l[i]?.getD _).up ∧ ((setT l k t)[i]?.getD _).label = (l[i]?.getD _).label
    rw [h1, h2]; exact ⟨rfl, rfl⟩
theorem POk.setT {l : List Leaf} (h : POk l) {k : Nat} {t : Int} (hk : k < l.length) : POk (setT l k t) := by
  have hs := fun i => setT_up (t := t) hk i
  refine .of (by rw [setT_len]; exact h.len) (fun i hi => ?_) (fun i hi => ?_) (fun i hi j e => ?_)
  · rw [(hs i).2]; exact h.lab' (by rwa [setT_len] at hi)
  · rw [(hs i).1]; exact h.ups i (by rwa [setT_len] at hi)
  · rw [(hs i).1] at e; rw [(hs i).2, (hs j).2]; exact h.und' (by rwa [setT_len] at hi) e
theorem keep_setT {l : List Leaf} {k : Nat} {t : Int} (hk : k < l.length) {p : Nat → Bool} : keep (setT l k t) p = if p k = true then setT (keep l p) (cntN k p) t else keep l p := by
  have hs := fun i => setT_up (t := t) hk i
  refine leaf_ext ?_ fun y hy => ?_
  · rw [keep_len, setT_len]; split
    · rw [setT_len, keep_len]
    · rw [keep_len]
  · rw [keep_len, setT_len] at hy
    obtain ⟨j, h1, h2, h3⟩ := cnt_ex hy
    subst h3
    rw [keep_lf (by rw [setT_len]; exact h1) h2, (hs j).1, (hs j).2]
    have hk' := keep_lf (p := p) h1 h2
    by_cases e : j = k
    · subst e
      rw [setT_lf hk _ hk, if_pos rfl, if_pos h2, setT_lf (by rw [keep_len]; exact hy) _ (by rw [keep_len]; exact hy), if_pos rfl, hk']
    · rw [setT_lf hk j h1, if_neg e]
      split
      · rename_i hpk
        rw [setT_lf (by rw [keep_len]; exact (cnt_lt hpk).2 hk) _ (by rw [keep_len]; exact hy), if_neg (fun h => e (cnt_inj h2 hpk h)), hk']
      · rw [hk']
theorem so_keep {l : List Leaf} {p : Nat → Bool} {who : Label} {j : Nat} (hj : j < l.length) (hp : p j = true) : so (keep l p) who (cntN j p) = so l who j := by
  unfold so
  rw [keep_lf hj hp]
theorem so_upw {l : List Leaf} (h : POk l) (who : Label) : Upw l (so l who) := fun i hi hs j e => (so_up h hi e hs).1
end Go.Proofs.Ythndckcjjhdbmaa.Sy
