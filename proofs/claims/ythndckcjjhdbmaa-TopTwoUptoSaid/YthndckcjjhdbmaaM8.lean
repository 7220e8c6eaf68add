/- A stroke, in closed form: the program's and the document's; plain laws; no program in sight. -/
import Derived.Test.YthndckcjjhdbmaaM7
namespace Go.Proofs.Ythndckcjjhdbmaa.Sy
set_option linter.unusedVariables false

/-! ### Where a path leads -/
theorem way_fun {l : List Leaf} (h : POk l) {w : Label} {path : List Int} {k k' : Int} (h1 : Way l w (-1) path k) (h2 : Way l w (-1) path k') : k = k' := by
  obtain ⟨r, _, hg⟩ := go_eq h w path
  rcases hg with ⟨_, hk⟩ | ⟨_, hn⟩
  · rw [← (hk k).1 h1, ← (hk k').1 h2]
  · exact absurd h1 (hn k)
open Classical in
noncomputable def fnd (l : List Leaf) (w : Label) (path : List Int) : Option Int := if h : ∃ k, Way l w (-1) path k then some h.choose else none
theorem fnd_some {l : List Leaf} (h : POk l) {w : Label} {path : List Int} {k : Int} : fnd l w path = some k ↔ Way l w (-1) path k := by
  unfold fnd
  constructor
  · intro hk
    split at hk
    · rename_i he
      cases hk
      exact he.choose_spec
    · cases hk
  · intro hw
    have he : ∃ k, Way l w (-1) path k := ⟨k, hw⟩
    rw [dif_pos he, way_fun h he.choose_spec hw]
theorem fnd_none {l : List Leaf} {w : Label} {path : List Int} : fnd l w path = none ↔ ∀ k, ¬Way l w (-1) path k := by
  unfold fnd
  constructor
  · intro hk k hw
    rw [dif_pos ⟨k, hw⟩] at hk; cases hk
  · intro hn
    rw [dif_neg (fun ⟨k, hw⟩ => hn k hw)]
def goR : Option Int → Int × Bool
  | some k => (k, true)
  | none => (0, false)
theorem go_fnd {l : List Leaf} (h : POk l) (w : Label) (path : List Int) : place_Go l w path = some (goR (fnd l w path)) := by
  obtain ⟨r, e, hg⟩ := go_eq h w path
  rw [e]
  rcases hg with ⟨h2, hk⟩ | ⟨rfl, hn⟩
  · rw [(fnd_some h).2 ((hk r.1).2 rfl)]
    obtain ⟨a, b⟩ := r
    simp only at h2
    subst h2; rfl
  · rw [fnd_none.2 hn]; rfl
theorem found_fnd {l : List Leaf} (h : POk l) (w : Label) {path : List Int} (hp : path ≠ []) {fuel : Nat} (hf : 100 < fuel) : syllogistref_Found fuel l w path = some ((fnd l w path).getD (-1)) := by
  rcases found_eq h w path fuel hf with ⟨j, _, _, hw, hr⟩ | ⟨hn, hr⟩
  · rw [hr, (fnd_some h).2 hw]; rfl
  · rw [hr, fnd_none.2 fun k hw => ?_]
    · rfl
    · obtain ⟨j, hj, rfl, hs⟩ := way_kid hp hw
      exact hn j hj hs hw
theorem fnd_nil {l : List Leaf} (h : POk l) (w : Label) : fnd l w [] = some (-1) := (fnd_some h).2 rfl
theorem fnd_nat {l : List Leaf} (h : POk l) {w : Label} {path : List Int} {k : Int} (hp : path ≠ []) (hk : fnd l w path = some k) : ∃ j, j < l.length ∧ k = (j : Int) ∧ so l w j = true := way_kid hp ((fnd_some h).1 hk)

/-! ### Those below a leaf -/
def anc (l : List Leaf) (k : Nat) : Nat → Nat → Bool
  | 0, _ => false
  | f + 1, i => (i == k) || (decide (0 ≤ (lf l i).up) && anc l k f (lf l i).up.toNat)
def gone (l : List Leaf) (k i : Nat) : Bool := anc l k (i + 1) i
theorem anc_more {l : List Leaf} (hu : Ups l) {k : Nat} : ∀ (m i : Nat), i < m → i < l.length → ∀ f, i < f → anc l k f i = anc l k (i + 1) i
  | 0, i, h, _, _, _ => by omega
  | m + 1, i, him, hi, f, hf => by
    obtain ⟨f, rfl⟩ : ∃ g, f = g + 1 := ⟨f - 1, by omega⟩
    show ((i == k) || (decide (0 ≤ (lf l i).up) && anc l k f (lf l i).up.toNat)) = ((i == k) || (decide (0 ≤ (lf l i).up) && anc l k i (lf l i).up.toNat))
    obtain ⟨u1, u2⟩ := hu i hi
    by_cases h0 : 0 ≤ (lf l i).up
    · rw [anc_more hu m (lf l i).up.toNat (by omega) (by omega) f (by omega), anc_more hu m (lf l i).up.toNat (by omega) (by omega) i (by omega)]
    · rw [decide_eq_false h0]; rfl
theorem gone_eq {l : List Leaf} (hu : Ups l) {k i : Nat} (hi : i < l.length) : gone l k i = ((i == k) || (decide (0 ≤ (lf l i).up) && gone l k (lf l i).up.toNat)) := by
  unfold gone
  show ((i == k) || (decide (0 ≤ (lf l i).up) && anc l k i (lf l i).up.toNat)) = _
  obtain ⟨u1, u2⟩ := hu i hi
  by_cases h0 : 0 ≤ (lf l i).up
  · rw [anc_more hu i (lf l i).up.toNat (by omega) (by omega) i (by omega)]
  · rw [decide_eq_false h0]; rfl
theorem gone_nat {l : List Leaf} (hu : Ups l) {k i j : Nat} (hi : i < l.length) (hj : (lf l i).up = j) : gone l k i = ((i == k) || gone l k j) := by
  rw [gone_eq hu hi, hj, decide_eq_true (by omega), Int.toNat_natCast, Bool.true_and]
theorem gone_neg {l : List Leaf} (hu : Ups l) {k i : Nat} (hi : i < l.length) (hj : (lf l i).up < 0) : gone l k i = (i == k) := by
  rw [gone_eq hu hi, decide_eq_false (by omega), Bool.false_and, Bool.or_false]
theorem gone_le {l : List Leaf} (hu : Ups l) {k : Nat} : ∀ (m i : Nat), i < m → i < l.length → gone l k i = true → k ≤ i
  | 0, i, h, _, _ => by omega
  | m + 1, i, him, hi, hg => by
    obtain ⟨u1, u2⟩ := hu i hi
    by_cases e : i = k
    · omega
    · by_cases h0 : (lf l i).up < 0
      · rw [gone_neg hu hi h0] at hg; simp at hg; omega
      · obtain ⟨j, hj⟩ : ∃ j : Nat, (lf l i).up = j := ⟨(lf l i).up.toNat, by omega⟩
        rw [gone_nat hu hi hj] at hg
        have : gone l k j = true := by
          rcases Bool.or_eq_true _ _ ▸ hg with h | h
          · exact absurd (by simpa using h) e
          · exact h
        have := gone_le hu m j (by omega) (by omega) this
        omega
theorem gone_upw {l : List Leaf} (hu : Ups l) (k : Nat) : Upw l (fun i => !gone l k i) := fun i hi hs j hj => by
  simp only at hs ⊢
  rw [gone_nat hu hi hj] at hs
  rw [Bool.not_eq_true', Bool.or_eq_false_iff] at hs
  rw [hs.2]; rfl
theorem kept_t {l : List Leaf} {p : Nat → Bool} {i : Nat} (h : p i = true) : kept l p i = [{ up := nup p (lf l i).up, text := (lf l i).text, label := (lf l i).label }] := by unfold kept; rw [h]; rfl
theorem kept_f {l : List Leaf} {p : Nat → Bool} {i : Nat} (h : p i = false) : kept l p i = [] := by unfold kept; rw [h]; rfl
def dropF (l : List Leaf) (k : Nat) : List Leaf := keep l (fun i => !gone l k i)

theorem cast_beq (i k : Nat) : ((i : Int) == (k : Int)) = (i == k) := by
  rw [Bool.eq_iff_iff, beq_iff_eq, beq_iff_eq]; omega

theorem drop_eq {l : List Leaf} (h : POk l) (k : Nat) : pen_drop l (k : Int) = some (dropF l k) := by
  have hlen := h.len
  have hu := h.ups
  unfold pen_drop
  rw [decide_eq_true (by omega), cond_true, cond_true, Int.toNat_natCast]
  refine (for_rec (n := l.length) (fun i => (apps i (kept l fun i => !gone l k i), tab l.length (fun j => decide (j < i) && gone l k j), tab l.length fun j => if j < i ∧ gone l k j = false then (cntN j (fun i => !gone l k i) : Int) else 0)) rfl ?_ (fun i nx hi => ?_)).trans rfl
  · refine congrArg (Prod.mk _) ?_
    rw [tab_rep, tab_rep]
    refine Prod.ext (tab_congr fun j _ => by simp) (tab_congr fun j _ => by rw [if_neg (by omega)])
  · unfold pen_drop_b32
    have hcl := cntN_le (n := i) (p := fun i => !gone l k i)
    have hd : geti l (i : Int) = some (lf l i) := geti_d _ hi
    obtain ⟨u1, u2⟩ := hu i hi
    simp only
    rw [hd, Option.bind_some, cast_beq]
    have hval : ((i == k) || ((decide ((lf l i).up ≥ 0)) && ((geti (tab l.length (fun j => decide (j < i) && gone l k j)) (lf l i).up).getD false))) = gone l k i := by
      by_cases h0 : (lf l i).up < 0
      · rw [gone_neg hu hi h0, decide_eq_false (by omega), Bool.false_and, Bool.or_false]
      · obtain ⟨j, hj⟩ : ∃ j : Nat, (lf l i).up = j := ⟨(lf l i).up.toNat, by omega⟩
        rw [gone_nat hu hi hj, hj, decide_eq_true (by omega), tab_geti (by omega), Option.getD_some, decide_eq_true (by omega), Bool.true_and, Bool.true_and]
    have hsome : (!(((i == k) == false) && ((decide ((lf l i).up ≥ (0 : Int))) == true)) || (geti (tab l.length (fun j => decide (j < i) && gone l k j)) (lf l i).up).isSome) = true := by
      by_cases h0 : (lf l i).up < 0
      · rw [decide_eq_false (show ¬ (lf l i).up ≥ 0 by omega)]; simp
      · obtain ⟨j, hj⟩ : ∃ j : Nat, (lf l i).up = j := ⟨(lf l i).up.toNat, by omega⟩
        rw [hj, tab_geti (by omega)]; simp
    rw [hsome, cond_true, hval, tab_geti hi, Option.bind_some, Int.toNat_natCast]
    have hset : (tab l.length (fun j => decide (j < i) && gone l k j)).set i (gone l k i) = tab l.length (fun j => decide (j < i + 1) && gone l k j) := by
      rw [tab_set hi]
      refine tab_congr fun j _ => ?_
      by_cases e : j = i
      · subst e; rw [if_pos rfl, decide_eq_true (by omega), Bool.true_and]
      · rw [if_neg e]
        congr 1
        rw [Bool.eq_iff_iff, decide_eq_true_eq, decide_eq_true_eq]; omega
    rw [hset, tab_geti hi, Option.bind_some, decide_eq_true (by omega), Bool.true_and]
    have hk : apps (i + 1) (kept l fun i => !gone l k i) = apps i (kept l fun i => !gone l k i) ++ kept l (fun i => !gone l k i) i := rfl
    cases hs : gone l k i with
    | true =>
      rw [cond_true, hk, kept_f (p := fun i => !gone l k i) (i := i) (by simp only [hs]; rfl), List.append_nil]
      congr 3
      refine tab_congr fun j _ => ?_
      by_cases e : j = i
      · subst e
        rw [if_neg (by omega), if_neg (by rw [hs]; simp)]
      · by_cases hj : j < i ∧ gone l k j = false
        · rw [if_pos hj, if_pos ⟨by omega, hj.2⟩]
        · rw [if_neg hj, if_neg (fun hx => hj ⟨by omega, hx.2⟩)]
    | false =>
      have hset2 : (tab l.length fun j => if j < i ∧ gone l k j = false then (cntN j (fun i => !gone l k i) : Int) else 0).set i (cntN i (fun i => !gone l k i) : Int) = tab l.length fun j => if j < i + 1 ∧ gone l k j = false then (cntN j (fun i => !gone l k i) : Int) else 0 := by
        rw [tab_set hi]
        refine tab_congr fun j _ => ?_
        by_cases e : j = i
        · subst e
          rw [if_pos rfl, if_pos ⟨by omega, hs⟩]
        · rw [if_neg e]
          by_cases hj : j < i ∧ gone l k j = false
          · rw [if_pos hj, if_pos ⟨by omega, hj.2⟩]
          · rw [if_neg hj, if_neg (fun hx => hj ⟨by omega, hx.2⟩)]
      rw [cond_false, tab_geti hi, Option.bind_some, kept_len, hset2, hk]
      have hkp : kept l (fun i => !gone l k i) i = [{ up := nup (fun i => !gone l k i) (lf l i).up, text := (lf l i).text, label := (lf l i).label }] := kept_t (p := fun i => !gone l k i) (by simp only [hs]; rfl)
      by_cases h0 : (lf l i).up ≥ 0
      · obtain ⟨j, hj⟩ : ∃ j : Nat, (lf l i).up = j := ⟨(lf l i).up.toNat, by omega⟩
        have hgj : gone l k j = false := by
          rw [gone_nat hu hi hj, Bool.or_eq_false_iff] at hs
          exact hs.2
        rw [decide_eq_true h0, cond_true, hj, tab_geti (by omega), Option.bind_some, if_pos ⟨by omega, hgj⟩, decide_eq_true (by simp only [List.length_cons, List.length_nil]; omega), cond_true, hkp, hj, nup_nat (p := fun i => !gone l k i) (by show (!gone l k j) = true; rw [hgj]; rfl)]
      · rw [decide_eq_false h0, cond_false, decide_eq_true (by simp only [List.length_cons, List.length_nil]; omega), cond_true, hkp, nup_neg (by omega)]
        rw [show ({ up := (lf l i).up, text := (lf l i).text, label := { level := (lf l i).label.level, parts := (lf l i).label.parts } } : Leaf) = { up := -1, text := (lf l i).text, label := (lf l i).label } by rw [← show (lf l i).up = -1 by omega]]

/-- The document's: up from each, as long as one is behind. -/
theorem rdrop_eq {l : List Leaf} (h : POk l) {k : Nat} (hk : k < l.length) {fuel : Nat} (hf : 100 < fuel) :
    forK (σ := (List Bool)) (fun i s nx_ => syllogistref_Stroke_b36 l fuel (k : Int) i s nx_) (fun s => syllogistref_Stroke_k28 l fuel s) ((l.length : Int) - (0 : Int)).toNat (0 : Int) ((List.replicate ((l.length : Int)).toNat false)) = some (dropF l k, 0) := by
  have hlen := h.len
  have hu := h.ups
  have wh : ∀ (m : Nat) (L : List Bool) (i : Int) (nx : List Bool → Option (List Leaf × Int)) (u : Nat), u < m → u < l.length → ∀ f, u + 2 ≤ f →
      ∃ e : Int, whileK (σ := Int) (fun s nx_ => syllogistref_Stroke_b46 l (k : Int) i L nx s nx_) f (u : Int) = syllogistref_Stroke_k42 (k : Int) i L nx e ∧ (e != (k : Int)) = !gone l k u := by
    intro m
    induction m with
    | zero => intro L i nx u hum; omega
    | succ m ih =>
      intro L i nx u hum hul f hf
      obtain ⟨f, rfl⟩ : ∃ g, f = g + 1 := ⟨f - 1, by omega⟩
      obtain ⟨u1, u2⟩ := hu u hul
      show ∃ e : Int, syllogistref_Stroke_b46 l (k : Int) i L nx (u : Int) (fun s => whileK (σ := Int) (fun s nx_ => syllogistref_Stroke_b46 l (k : Int) i L nx s nx_) f s) = _ ∧ _
      unfold syllogistref_Stroke_b46
      by_cases hgt : (u : Int) > k
      · have hne : (u == k) = false := by rw [beq_eq_false_iff_ne]; omega
        rw [decide_eq_true hgt, cond_true, show geti l (u : Int) = some (lf l u) from geti_d _ hul, Option.bind_some]
        by_cases h0 : (lf l u).up < 0
        · obtain ⟨f, rfl⟩ : ∃ g, f = g + 1 := ⟨f - 1, by omega⟩
          refine ⟨(lf l u).up, ?_, ?_⟩
          · show syllogistref_Stroke_b46 l (k : Int) i L nx (lf l u).up _ = _
            unfold syllogistref_Stroke_b46
            rw [decide_eq_false (by omega), cond_false]
          · rw [gone_neg hu hul h0, hne, Bool.not_false, bne_iff_ne]; omega
        · obtain ⟨j, hj⟩ : ∃ j : Nat, (lf l u).up = j := ⟨(lf l u).up.toNat, by omega⟩
          rw [hj, gone_nat hu hul hj, hne, Bool.false_or]
          exact ih L i nx j (by omega) (by omega) f (by omega)
      · rw [decide_eq_false hgt, cond_false]
        refine ⟨_, rfl, ?_⟩
        by_cases e : u = k
        · subst e
          have : gone l u u = true := by rw [gone_eq hu hul]; simp
          rw [this]; simp
        · have : gone l k u = false := by
            cases hg : gone l k u with
            | false => rfl
            | true => have := gone_le hu (u + 1) u (by omega) hul hg; omega
          rw [this, Bool.not_false, bne_iff_ne]; omega
  refine (for_tab (n := l.length) (fun i => !gone l k i) rfl (fun i s nx hi hs => ?_)).trans ?_
  · unfold syllogistref_Stroke_b36
    obtain ⟨e, h1, h2⟩ := wh (i + 1) s (i : Int) nx i (by omega) hi fuel (by omega)
    rw [h1]
    unfold syllogistref_Stroke_k42
    rw [geti_d false (by omega), Option.bind_some, Int.toNat_natCast, h2]
  · unfold syllogistref_Stroke_k28
    rw [rkeep_eq hlen h.up0 _ fuel hf]; rfl
end Go.Proofs.Ythndckcjjhdbmaa.Sy
