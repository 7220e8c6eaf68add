/- A stroke that puts a leaf, and any stroke, in closed form: the program's and the document's; plain laws; no program in sight. -/
import Derived.Test.YthndckcjjhdbmaaM8
namespace Go.Proofs.Ythndckcjjhdbmaa.Sy
set_option linter.unusedVariables false

def own (l : List Leaf) (w : Label) (i : Nat) : Bool := ((lf l i).label.level == w.level) && (((lf l i).label.parts == w.parts) && true)
def atF (l : List Leaf) (w : Label) (up y : Int) : Nat := if 0 < y then (((pick l.length (sib l w up))[(y - 1).toNat]?.getD 0) + 1).toNat else (up + 1).toNat
def putG (l : List Leaf) (s : Stroke) (up y : Int) : List Leaf × Int :=
  if y < 0 ∨ (cntN l.length (sib l s.who up) : Int) < y then ([], 5) else
  if 4 ≤ cntN l.length (own l s.who) ∨ 40 ≤ l.length then ([], 1) else
  (ins l (atF l s.who up y) { up := up, text := s.text, label := s.who }, 0)
def lastI (p : List Int) : Int := p[p.length - 1]?.getD 0
def putH (l : List Leaf) (s : Stroke) : Option Int → List Leaf × Int
  | none => ([], 5)
  | some up => putG l s up (lastI s.path)
noncomputable def putF (l : List Leaf) (s : Stroke) : List Leaf × Int := if s.path.length = 0 then ([], 5) else putH l s (fnd l s.who (s.path.take (s.path.length - 1)))

/-- The one above a leaf that is put. -/
def UpOk (l : List Leaf) (w : Label) (up : Int) : Prop := up = -1 ∨ ∃ j, j < l.length ∧ up = (j : Int) ∧ so l w j = true
theorem fnd_up {l : List Leaf} (h : POk l) {w : Label} {p : List Int} {up : Int} (hk : fnd l w p = some up) : UpOk l w up := by
  by_cases hp : p = []
  · subst hp
    rw [fnd_nil h] at hk
    exact .inl (Option.some.inj hk).symm
  · exact .inr (fnd_nat h hp hk)
theorem sib_up {l : List Leaf} {w : Label} {up : Int} {j : Nat} (h : sib l w up j = true) : (lf l j).up = up ∧ so l w j = true := by
  unfold sib at h
  rw [Bool.and_eq_true, beq_iff_eq] at h
  exact h
theorem at_spec {l : List Leaf} (hu : Ups l) {w : Label} {up y : Int} (hup : UpOk l w up) (h0 : 0 ≤ y) (h1 : y ≤ cntN l.length (sib l w up)) :
    (atF l w up y ≤ l.length ∧ -1 ≤ up ∧ up < atF l w up y) ∧ ((y = 0 ∧ (atF l w up y : Int) = up + 1) ∨ (0 < y ∧ ∃ j, j < l.length ∧ sib l w up j = true ∧ (cntN j (sib l w up) : Int) = y - 1 ∧ atF l w up y = j + 1 ∧ (pick l.length (sib l w up))[(y - 1).toNat]? = some (j : Int))) := by
  have hb : -1 ≤ up ∧ up < l.length := by
    rcases hup with rfl | ⟨j, hj, rfl, _⟩ <;> omega
  unfold atF
  by_cases hy : 0 < y
  · rw [if_pos hy]
    obtain ⟨j, h2, h3, h4⟩ := cnt_ex (p := sib l w up) (n := l.length) (y := (y - 1).toNat) (by omega)
    have hg : (pick l.length (sib l w up))[(y - 1).toNat]? = some (j : Int) := pick_get.2 ⟨j, h2, rfl, h3, h4⟩
    have hju := (sib_up h3).1
    obtain ⟨u1, u2⟩ := hu j h2
    rw [hg, Option.getD_some, show ((j : Int) + 1).toNat = j + 1 by omega]
    exact ⟨⟨by omega, by omega, by omega⟩, .inr ⟨hy, j, h2, h3, by omega, rfl, rfl⟩⟩
  · rw [if_neg hy]
    exact ⟨⟨by omega, by omega, by omega⟩, .inl ⟨by omega, by omega⟩⟩

/-! ### The program's -/
theorem raw_lf {l : List Leaf} {a : Nat} {x : Leaf} (ha : a ≤ l.length) {i : Nat} (hi : i ≤ l.length) : (l.take a ++ [x] ++ l.drop a)[i]? = some (if i < a then lf l i else if i = a then x else lf l (i - 1)) := by
  have h1 : (l.take a).length = a := by rw [List.length_take]; omega
  rw [List.append_assoc]
  by_cases h : i < a
  · rw [if_pos h, List.getElem?_append_left (by omega), List.getElem?_take, if_pos h, lf_get (by omega)]
  · rw [if_neg h, List.getElem?_append_right (by omega), h1]
    by_cases e : i = a
    · subst e; rw [if_pos rfl, Nat.sub_self]; rfl
    · rw [if_neg e, show i - a = (i - 1 - a) + 1 by omega]
      show ((x :: l.drop a))[i - 1 - a + 1]? = _
      rw [List.getElem?_cons_succ, List.getElem?_drop, show a + (i - 1 - a) = i - 1 by omega, lf_get (by omega)]
theorem list_tab {l : List Leaf} {n : Nat} {g : Nat → Leaf} (hl : l.length = n) (h : ∀ i, i < n → l[i]? = some (g i)) : l = tab n g := by
  refine List.ext_getElem? fun i => ?_
  by_cases hi : i < n
  · rw [h i hi, tab_get hi]
  · rw [List.getElem?_eq_none (by omega), List.getElem?_eq_none (by rw [tab_len]; omega)]

theorem k21_eq {l : List Leaf} (h : POk l) (s : Stroke) {fuel : Nat} (hf : 100 < fuel) {up : Int} {b : Bool} {a : Nat} (ha : a ≤ l.length) (h40 : l.length < 40) :
    pen_put_k21 l s fuel (up, b) (a : Int) = some (ins l a { up := up, text := s.text, label := s.who }, 0) := by
  have hu := h.ups
  unfold pen_put_k21 slices_Clone_SapiLeafapiLeaf slices_Insert_SapiLeafapiLeaf
  rw [decide_eq_true (by simp only [List.length_nil]; omega), cond_true, Option.bind_some, List.nil_append, decide_eq_true (by simp only [List.length_cons, List.length_nil]; omega), cond_true, Option.bind_some, Int.toNat_natCast, w64_succ (by omega)]
  generalize hx : ({ up := (up, b).1, text := s.text, label := ({ level := s.who.level, parts := s.who.parts } : Label) } : Leaf) = x
  have hrl : (l.take a ++ [x] ++ l.drop a).length = l.length + 1 := by rw [List.length_append, List.length_append, List.length_take, List.length_drop]; simp only [List.length_cons, List.length_nil]; omega
  have hraw := list_tab hrl (fun i hi => raw_lf (x := x) ha (show i ≤ l.length by omega))
  have hins := list_tab (ins_len (x := x) ha) (fun i hi => lf_get (l := ins l a x) (by rw [ins_len ha]; exact hi))
  refine while_rec (fun t => (((a + 1 + t : Nat) : Int), tab (l.length + 1) fun j => if j < a + 1 + t then lf (ins l a x) j else if j < a then lf l j else if j = a then x else lf l (j - 1))) (l.length - a) _ (fun t nx ht => ?_) (fun nx => ?_) (by omega) ?_
  · simp only
    unfold pen_put_b583
    rw [tab_len, decide_eq_true (by omega), cond_true, tab_geti (by omega), Option.bind_some, if_neg (show ¬ a + 1 + t < a + 1 + t by omega), if_neg (show ¬ a + 1 + t < a by omega), if_neg (show ¬ a + 1 + t = a by omega), show a + 1 + t - 1 = a + t by omega]
    have hil := ins_lf (x := x) ha (show a + 1 + t ≤ l.length by omega)
    rw [if_neg (show ¬ a + 1 + t < a by omega), if_neg (show ¬ a + 1 + t = a by omega), show a + 1 + t - 1 = a + t by omega] at hil
    obtain ⟨u1, u2⟩ := hu (a + t) (by omega)
    have hw1 : w64 (((a + 1 + t : Nat) : Int) + 1) = ((a + 1 + (t + 1) : Nat) : Int) := by rw [w64_succ (by omega)]; rfl
    rw [hw1]
    by_cases hge : (lf l (a + t)).up ≥ (a : Int)
    · rw [decide_eq_true hge, cond_true, Option.bind_some, Int.toNat_natCast, tab_set (by omega), w64_id (by omega) (by omega)]
      refine congrArg nx (congrArg (Prod.mk _) (tab_congr fun j hj => ?_))
      by_cases e : j = a + 1 + t
      · subst e
        rw [if_pos rfl, if_pos (by omega), hil, sh_ge hge]
      · rw [if_neg e]
        by_cases h2 : j < a + 1 + t
        · rw [if_pos h2, if_pos (by omega)]
        · rw [if_neg h2, if_neg (show ¬ j < a + 1 + (t + 1) by omega)]
    · rw [decide_eq_false hge, cond_false]
      refine congrArg nx (congrArg (Prod.mk _) (tab_congr fun j hj => ?_))
      by_cases e : j = a + 1 + t
      · subst e
        rw [if_neg (show ¬ a + 1 + t < a + 1 + t by omega), if_neg (show ¬ a + 1 + t < a by omega), if_neg (show ¬ a + 1 + t = a by omega), if_pos (by omega), hil, sh_lt (by omega), show a + 1 + t - 1 = a + t by omega]
      · by_cases h2 : j < a + 1 + t
        · rw [if_pos h2, if_pos (by omega)]
        · rw [if_neg h2, if_neg (show ¬ j < a + 1 + (t + 1) by omega)]
  · simp only
    unfold pen_put_b583
    rw [tab_len, decide_eq_false (by omega), cond_false]
    unfold pen_put_k581
    exact congrArg some (congrArg (·, (0 : Int)) ((tab_congr fun j hj => by rw [if_pos (show j < a + 1 + (l.length - a) by omega)]).trans hins.symm))
  · rw [hraw]
    refine congrArg (Prod.mk _) (tab_congr fun j hj => ?_)
    by_cases h2 : j < a + 1
    · rw [if_pos (show j < a + 1 + 0 by omega), ins_lf ha (by omega)]
      by_cases h3 : j < a
      · rw [if_pos h3, if_pos h3, sh_lt (by have := (hu j (by omega)).2; omega)]
      · rw [if_neg h3, if_neg h3, if_pos (show j = a by omega), if_pos (show j = a by omega)]
    · rw [if_neg (show ¬ j < a + 1 + 0 by omega)]

theorem last_geti {p : List Int} (h0 : 0 < p.length) : geti p ((p.length - 1 : Nat) : Int) = some (lastI p) := geti_d 0 (by omega)

theorem put_eq {l : List Leaf} (h : POk l) (s : Stroke) (hp : s.path.length ≤ 9223372036854775807) {fuel : Nat} (hf : 100 < fuel) : pen_put fuel l s = some (putF l s) := by
  have h40 := h.len
  unfold pen_put putF
  by_cases hpl : s.path.length = 0
  · rw [if_pos hpl, hpl]; rfl
  have hw : w64 ((s.path.length : Int) - 1) = ((s.path.length - 1 : Nat) : Int) := by rw [w64_id (by omega) (by omega)]; omega
  rw [if_neg hpl, show ((s.path.length : Int) == (0 : Int)) = false by rw [beq_eq_false_iff_ne]; omega, cond_false, hw, decide_eq_true (by omega), cond_true, Int.toNat_natCast]
  have hgo : place_Go l { level := s.who.level, parts := s.who.parts } (s.path.take (s.path.length - 1)) = _ := go_fnd h s.who _
  rw [hgo]
  cases hfn : fnd l s.who (s.path.take (s.path.length - 1)) with
  | none => rfl
  | some up =>
    have hup := fnd_up h hfn
    have hb : place_Below l { level := s.who.level, parts := s.who.parts } up = _ := belowl_eq h s.who up
    simp only [goR, Option.bind_some, Bool.not_true, cond_false]
    rw [last_geti (by omega), Option.bind_some, hb, Option.bind_some, pick_len]
    show _ = some (putG l s up (lastI s.path))
    unfold putG
    generalize lastI s.path = y
    by_cases hy : y < 0 ∨ (cntN l.length (sib l s.who up) : Int) < y
    · rw [if_pos hy]
      have : ((decide (y < 0)) || (decide (y > (cntN l.length (sib l s.who up) : Int)))) = true := by simpa using hy
      rw [this]; rfl
    · rw [if_neg hy]
      have : ((decide (y < 0)) || (decide (y > (cntN l.length (sib l s.who up) : Int)))) = false := by
        rw [Bool.or_eq_false_iff, decide_eq_false_iff_not, decide_eq_false_iff_not]; omega
      rw [this, cond_false, for_cnt (own l s.who) rfl (by omega) (fun j z nx hj => by
        unfold pen_put_b577
        rw [show geti l (j : Int) = some (lf l j) from geti_d _ hj, Option.bind_some, cond_nx]
        rfl)]
      unfold pen_put_k18
      have hcl := cntN_le (n := l.length) (p := own l s.who)
      by_cases ho : 4 ≤ cntN l.length (own l s.who) ∨ 40 ≤ l.length
      · rw [if_pos ho]
        have : ((decide ((cntN l.length (own l s.who) : Int) ≥ 4)) || (decide ((l.length : Int) ≥ 40))) = true := by
          rw [Bool.or_eq_true, decide_eq_true_eq, decide_eq_true_eq]; omega
        rw [this]; rfl
      · rw [if_neg ho]
        have : ((decide ((cntN l.length (own l s.who) : Int) ≥ 4)) || (decide ((l.length : Int) ≥ 40))) = false := by
          rw [Bool.or_eq_false_iff, decide_eq_false_iff_not, decide_eq_false_iff_not]; omega
        rw [this, cond_false]
        have hcs := cntN_le (n := l.length) (p := sib l s.who up)
        obtain ⟨⟨a1, a2, a3⟩, ha⟩ := at_spec h.ups hup (show 0 ≤ y by omega) (by omega)
        rcases ha with ⟨hy0, he⟩ | ⟨hy0, j, hj, hs, hc, he, hg⟩
        · rw [decide_eq_false (by omega), cond_false, w64_id (by omega) (by omega), ← he]
          exact k21_eq h s hf a1 (by omega)
        · rw [decide_eq_true hy0, cond_true, w64_id (show -9223372036854775808 ≤ y - 1 by omega) (by omega)]
          have hgi : geti (pick l.length (sib l s.who up)) (y - 1) = some (j : Int) := by
            unfold geti; rw [if_pos (by omega)]; exact hg
          rw [hgi, Option.bind_some, w64_succ (by omega), ← he]
          exact k21_eq h s hf a1 (by omega)

/-! ### The document's -/
def atR (l : List Leaf) (w : Label) (up y : Int) (i : Nat) : Int := if 0 < y then (((pick i (sib l w up))[(y - 1).toNat]?).map (· + 1)).getD (-1) else -1
theorem pick_succ {p : Nat → Bool} {i : Nat} : pick (i + 1) p = pick i p ++ (bif p i then [(i : Int)] else []) := rfl
theorem atR_succ {l : List Leaf} {w : Label} {up y : Int} {i : Nat} : atR l w up y (i + 1) = if sib l w up i = true ∧ (cntN i (sib l w up) : Int) + 1 = y then (i : Int) + 1 else atR l w up y i := by
  have hpl := pick_len (n := i) (p := sib l w up)
  unfold atR
  rw [pick_succ]
  by_cases hy : 0 < y
  · rw [if_pos hy, if_pos hy]
    cases hs : sib l w up i with
    | false => rw [cond_false, List.append_nil, if_neg (by simp)]
    | true =>
      rw [cond_true]
      by_cases e : (cntN i (sib l w up) : Int) + 1 = y
      · rw [if_pos ⟨rfl, e⟩, List.getElem?_append_right (by omega), show (y - 1).toNat - (pick i (sib l w up)).length = 0 by omega]; rfl
      · rw [if_neg (fun h => e h.2)]
        by_cases hlt : (y - 1).toNat < cntN i (sib l w up)
        · rw [List.getElem?_append_left (by omega)]
        · rw [List.getElem?_eq_none (by rw [List.length_append]; simp only [List.length_cons, List.length_nil]; omega), List.getElem?_eq_none (by omega)]
  · rw [if_neg hy, if_neg hy, if_neg (by omega)]

theorem rwhile_eq {l : List Leaf} (h : POk l) (s : Stroke) {fuel : Nat} (hf : 100 < fuel) {up : Int} {a : Nat} (ha : a ≤ l.length) :
    whileK (σ := Int × (List Leaf)) (fun z nx_ => syllogistref_Put_b34 l s up (a : Int) z.1 z.2 nx_) fuel (((0 : Int)), (([] : List Leaf))) = some (ins l a { up := up, text := s.text, label := s.who }, 0) := by
  have hu := h.ups
  have h40 := h.len
  generalize hx : ({ up := up, text := s.text, label := s.who } : Leaf) = x
  have hins := list_tab (ins_len (x := x) ha) (fun i hi => lf_get (l := ins l a x) (by rw [ins_len ha]; exact hi))
  refine while_rec (fun t => ((t : Int), tab (if t ≤ a then t else if t ≤ l.length then t + 1 else l.length + 1) (lf (ins l a x)))) (l.length + 1) _ (fun t nx ht => ?_) (fun nx => ?_) (by omega) rfl
  · simp only
    unfold syllogistref_Put_b34
    rw [decide_eq_true (by omega), cond_true]
    have k39 : ∀ (m : Nat) (hm : m = if t < a then t else t + 1), syllogistref_Put_k39 l (a : Int) (t : Int) nx (tab m (lf (ins l a x))) = nx (((t + 1 : Nat) : Int), tab (if t + 1 ≤ a then t + 1 else if t + 1 ≤ l.length then t + 1 + 1 else l.length + 1) (lf (ins l a x))) := fun m hm => by
      have hml : m ≤ l.length + 1 := by subst hm; split <;> omega
      unfold syllogistref_Put_k39
      by_cases hlt : t < l.length
      · have hval : lf (ins l a x) m = sh a (lf l t) := by
          rw [ins_lf ha (by subst hm; split <;> omega)]
          subst hm
          by_cases h1 : t < a
          · rw [if_pos h1, if_pos h1]
          · rw [if_neg h1, if_neg (show ¬ t + 1 < a by omega), if_neg (show ¬ t + 1 = a by omega), Nat.add_sub_cancel]
        have hm1 : m + 1 = if t + 1 ≤ a then t + 1 else if t + 1 ≤ l.length then t + 1 + 1 else l.length + 1 := by
          subst hm
          by_cases h1 : t < a
          · rw [if_pos h1, if_pos (by omega)]
          · rw [if_neg h1, if_neg (by omega), if_pos (by omega)]
        obtain ⟨u1, u2⟩ := hu t hlt
        rw [decide_eq_true (by omega), cond_true, show geti l (t : Int) = some (lf l t) from geti_d _ hlt, Option.bind_some, tab_len, w64_succ (by omega), ← hm1, tab_succ, hval]
        by_cases hge : (lf l t).up ≥ (a : Int)
        · rw [decide_eq_true hge, cond_true, decide_eq_true (by simp only [List.length_cons, List.length_nil]; omega), cond_true, w64_id (by omega) (by omega), sh_ge hge]
        · rw [decide_eq_false hge, cond_false, decide_eq_true (by simp only [List.length_cons, List.length_nil]; omega), cond_true, sh_lt (by omega)]
      · rw [decide_eq_false (by omega), cond_false, w64_succ (by omega)]
        have : m = if t + 1 ≤ a then t + 1 else if t + 1 ≤ l.length then t + 1 + 1 else l.length + 1 := by
          subst hm
          rw [if_neg (show ¬ t < a by omega), if_neg (by omega), if_neg (by omega)]; omega
        rw [← this]
    by_cases e : t = a
    · subst e
      rw [show ((t : Int) == (t : Int)) = true by simp, cond_true, if_pos (Nat.le_refl _), tab_len, decide_eq_true (by simp only [List.length_cons, List.length_nil]; omega), cond_true]
      have hxt : lf (ins l t x) t = x := by rw [ins_lf ha ha, if_neg (Nat.lt_irrefl _), if_pos rfl]
      rw [show ({ up := up, text := s.text, label := ({ level := s.who.level, parts := s.who.parts } : Label) } : Leaf) = lf (ins l t x) t from hx.trans hxt.symm, ← tab_succ]
      exact k39 (t + 1) (by rw [if_neg (Nat.lt_irrefl _)])
    · rw [show ((t : Int) == (a : Int)) = false by rw [beq_eq_false_iff_ne]; omega, cond_false]
      refine k39 _ ?_
      by_cases h1 : t < a
      · rw [if_pos h1, if_pos (by omega)]
      · rw [if_neg h1, if_neg (by omega), if_pos (by omega)]
  · simp only
    unfold syllogistref_Put_b34
    rw [decide_eq_false (by omega), cond_false]
    unfold syllogistref_Put_k32
    rw [if_neg (by omega), if_neg (by omega), ← hins]

theorem rput6_eq {l : List Leaf} (h : POk l) (s : Stroke) {fuel : Nat} (hf : 100 < fuel) {up y : Int} (hup : UpOk l s.who up) : syllogistref_Put_k6 l s fuel y up = some (putG l s up y) := by
  have h40 := h.len
  unfold syllogistref_Put_k6
  refine (for_rec (n := l.length) (fun i => (atR l s.who up y i, (cntN i (sib l s.who up) : Int), (cntN i (own l s.who) : Int))) rfl ?_ (fun i nx hi => ?_)).trans ?_
  · refine Prod.ext ?_ rfl
    show (-1 : Int) = atR l s.who up y 0
    unfold atR
    split <;> rfl
  · simp only
    unfold syllogistref_Put_b59
    have hc1 := cntN_le (n := i) (p := own l s.who)
    have hc2 := cntN_le (n := i) (p := sib l s.who up)
    rw [show geti l (i : Int) = some (lf l i) from geti_d _ hi, Option.bind_some]
    have hb : syllogistref_Below { level := (lf l i).label.level, parts := (lf l i).label.parts } { level := s.who.level, parts := s.who.parts } = some (so l s.who i) := below_eq _ _
    have k67 : ∀ o : Int, syllogistref_Put_k67 s y up (i : Int) (atR l s.who up y i) (cntN i (sib l s.who up) : Int) nx (lf l i) o = nx (atR l s.who up y (i + 1), (cntN (i + 1) (sib l s.who up) : Int), o) := fun o => by
      unfold syllogistref_Put_k67
      rw [hb]
      simp only [Option.isSome_some, Bool.or_true, cond_true, Option.getD_some]
      rw [show ((lf l i).up == up && so l s.who i) = sib l s.who up i from rfl, atR_succ, cnt_succ, w64_id (show -9223372036854775808 ≤ (cntN i (sib l s.who up) : Int) + 1 by omega) (by omega)]
      cases hs : sib l s.who up i with
      | false => rw [cond_false, if_neg (by simp), if_neg (by simp)]
      | true =>
        rw [cond_true, if_pos rfl]
        by_cases e : (cntN i (sib l s.who up) : Int) + 1 = y
        · rw [show (((cntN i (sib l s.who up) : Int) + 1) == y) = true by simpa using e, cond_true, if_pos ⟨rfl, e⟩, w64_id (by omega) (by omega)]
          rfl
        · rw [show (((cntN i (sib l s.who up) : Int) + 1) == y) = false by simpa using e, cond_false, if_neg (fun h => e h.2)]
          rfl
    rw [k67, k67, w64_id (show -9223372036854775808 ≤ (cntN i (own l s.who) : Int) + 1 by omega) (by omega), cnt_succ (p := own l s.who)]
    rw [show (((lf l i).label.level == s.who.level) && (((lf l i).label.parts == s.who.parts) && true)) = own l s.who i from rfl]
    cases own l s.who i with
    | true => rw [cond_true, if_pos rfl]; rfl
    | false => rw [cond_false, if_neg (by simp)]
  · unfold syllogistref_Put_k18
    have hc2 := cntN_le (n := l.length) (p := sib l s.who up)
    have hpl := pick_len (n := l.length) (p := sib l s.who up)
    have hb : -1 ≤ up ∧ up < l.length := by
      rcases hup with rfl | ⟨j, hj, rfl, _⟩ <;> omega
    unfold putG
    have fin : ∀ a : Nat, a = atF l s.who up y → a ≤ l.length → syllogistref_Put_k21 l s fuel up (cntN l.length (own l s.who) : Int) (a : Int) = some (if 4 ≤ cntN l.length (own l s.who) ∨ 40 ≤ l.length then ([], 1) else (ins l (atF l s.who up y) { up := up, text := s.text, label := s.who }, 0)) := fun a e ha => by
      unfold syllogistref_Put_k21
      rw [decide_eq_false (by omega), cond_false]
      by_cases ho : 4 ≤ cntN l.length (own l s.who) ∨ 40 ≤ l.length
      · rw [if_pos ho]
        have : ((decide ((cntN l.length (own l s.who) : Int) ≥ 4)) || (decide ((l.length : Int) ≥ 40))) = true := by
          rw [Bool.or_eq_true, decide_eq_true_eq, decide_eq_true_eq]; omega
        rw [this]; rfl
      · rw [if_neg ho]
        have : ((decide ((cntN l.length (own l s.who) : Int) ≥ 4)) || (decide ((l.length : Int) ≥ 40))) = false := by
          rw [Bool.or_eq_false_iff, decide_eq_false_iff_not, decide_eq_false_iff_not]; omega
        rw [this, cond_false, ← e]
        exact rwhile_eq h s hf ha
    have out : syllogistref_Put_k21 l s fuel up (cntN l.length (own l s.who) : Int) (-1) = some ([], 5) := by
      unfold syllogistref_Put_k21
      rfl
    by_cases hy0 : y = 0
    · subst hy0
      obtain ⟨⟨a1, a2, a3⟩, ha⟩ := at_spec h.ups hup (Int.le_refl 0) (by omega)
      have he : (atF l s.who up 0 : Int) = up + 1 := by
        rcases ha with ⟨_, he⟩ | ⟨h, _⟩
        · exact he
        · omega
      rw [show ((0 : Int) == 0) = true from rfl, cond_true, if_neg (by omega), w64_id (by omega) (by omega), ← he]
      exact fin _ rfl a1
    · rw [show (y == (0 : Int)) = false by simpa using hy0, cond_false]
      by_cases hy : y < 0 ∨ (cntN l.length (sib l s.who up) : Int) < y
      · rw [if_pos hy]
        have : atR l s.who up y l.length = -1 := by
          unfold atR
          split
          · rw [List.getElem?_eq_none (by omega)]; rfl
          · rfl
        rw [this]; exact out
      · rw [if_neg hy]
        obtain ⟨⟨a1, a2, a3⟩, ha⟩ := at_spec h.ups hup (show 0 ≤ y by omega) (by omega)
        rcases ha with ⟨h0, _⟩ | ⟨hpos, j, hj, hs, hc, he, hg⟩
        · omega
        · have : atR l s.who up y l.length = (atF l s.who up y : Int) := by
            unfold atR
            rw [if_pos hpos, hg, he]; rfl
          rw [this]; exact fin _ rfl a1

theorem rput_eq {l : List Leaf} (h : POk l) (s : Stroke) (hp : s.path.length ≤ 9223372036854775807) {fuel : Nat} (hf : 100 < fuel) : syllogistref_Put fuel l s = some (putF l s) := by
  unfold syllogistref_Put putF
  by_cases hpl : s.path.length = 0
  · rw [if_pos hpl, hpl]; rfl
  have hw : w64 ((s.path.length : Int) - 1) = ((s.path.length - 1 : Nat) : Int) := by rw [w64_id (by omega) (by omega)]; omega
  rw [if_neg hpl, show ((s.path.length : Int) == (0 : Int)) = false by rw [beq_eq_false_iff_ne]; omega, cond_false, hw, last_geti (by omega), Option.bind_some]
  by_cases h1 : s.path.length = 1
  · rw [h1, show decide (((1 : Nat) : Int) > 1) = false by decide, cond_false, Nat.sub_self, List.take_zero, fnd_nil h]
    exact rput6_eq h s hf (.inl rfl)
  · rw [decide_eq_true (show (s.path.length : Int) > 1 by omega), cond_true, decide_eq_true (by omega), cond_true, Int.toNat_natCast]
    have hne : s.path.take (s.path.length - 1) ≠ [] := fun e => by
      have := congrArg List.length e
      rw [List.length_take, List.length_nil] at this; omega
    have hfo : syllogistref_Found fuel l { level := s.who.level, parts := s.who.parts } (s.path.take (s.path.length - 1)) = _ := found_fnd h s.who hne hf
    rw [hfo, Option.bind_some]
    cases hfn : fnd l s.who (s.path.take (s.path.length - 1)) with
    | none => rfl
    | some up =>
      obtain ⟨j, hj, rfl, hs⟩ := fnd_nat h hne hfn
      rw [Option.getD_some, decide_eq_false (by omega), cond_false]
      exact rput6_eq h s hf (.inr ⟨j, hj, rfl, hs⟩)

/-! ### Any stroke -/
def findH (l : List Leaf) (s : Stroke) : Option Int → List Leaf × Int
  | none => ([], 5)
  | some k => if own l s.who k.toNat = false then ([], 7) else if s.kind = 3 then (dropF l k.toNat, 0) else (setT l k.toNat s.text, 0)
theorem findH_nat {l : List Leaf} {s : Stroke} {j : Nat} : findH l s (some (j : Int)) = if own l s.who j = false then ([], 7) else if s.kind = 3 then (dropF l j, 0) else (setT l j s.text, 0) := rfl
noncomputable def strokeF (l : List Leaf) (s : Stroke) : List Leaf × Int :=
  if s.kind = 1 then putF l s else
  if s.kind = 2 ∨ s.kind = 3 then (if s.path.length = 0 then ([], 5) else findH l s (fnd l s.who s.path)) else ([], 6)

theorem pen_eq {l : List Leaf} (h : POk l) (hc : page_Check l = some 0) (s : Stroke) (hl : lcode s.who = 0) (hp : s.path.length ≤ 9223372036854775807) {fuel : Nat} (hf : 100 < fuel) : pen_Do fuel l s = some (strokeF l s) := by
  have h40 := h.len
  unfold pen_Do strokeF
  have hlc : label_Check { level := s.who.level, parts := s.who.parts } = some 0 := (lcheck_eq s.who).trans (by rw [hl])
  rw [hc, Option.bind_some, show ((0 : Int) != 0) = false from rfl, cond_false, hlc, Option.bind_some, show ((0 : Int) != 0) = false from rfl, cond_false]
  by_cases h1 : s.kind = 1
  · rw [if_pos h1, show (s.kind == (1 : Int)) = true by simpa using h1, cond_true]
    have := put_eq h s hp hf
    rw [show ({ kind := s.kind, who := { level := s.who.level, parts := s.who.parts }, path := s.path, text := s.text } : Stroke) = s from rfl, this]; rfl
  · rw [if_neg h1, show (s.kind == (1 : Int)) = false by simpa using h1, cond_false]
    have k12 : (s.kind = 2 ∨ s.kind = 3) → pen_Do_k12 l s true = some (if s.path.length = 0 then ([], 5) else findH l s (fnd l s.who s.path)) := fun hk => by
      unfold pen_Do_k12
      rw [cond_true]
      have hwr : place_wrong l { level := ({ level := s.who.level, parts := s.who.parts } : Label).level, parts := ({ level := s.who.level, parts := s.who.parts } : Label).parts } = some 0 := by
        unfold place_wrong
        rw [hc, Option.bind_some, show ((0 : Int) != 0) = false from rfl, cond_false]
        have : label_Check { level := s.who.level, parts := s.who.parts } = some 0 := hlc
        rw [this]; rfl
      have hgo : place_Go l { level := ({ level := s.who.level, parts := s.who.parts } : Label).level, parts := ({ level := s.who.level, parts := s.who.parts } : Label).parts } s.path = _ := go_fnd h s.who _
      unfold place_Find
      rw [hwr, Option.bind_some, show ((0 : Int) != 0) = false from rfl, cond_false, hgo, Option.bind_some]
      by_cases hpl : s.path.length = 0
      · rw [if_pos hpl, hpl, show (((0 : Nat) : Int) == (0 : Int)) = true from rfl, Bool.or_true]; rfl
      · rw [if_neg hpl, show ((s.path.length : Int) == (0 : Int)) = false by rw [beq_eq_false_iff_ne]; omega, Bool.or_false]
        have hne : s.path ≠ [] := fun e => hpl (by rw [e]; rfl)
        cases hfn : fnd l s.who s.path with
        | none => rfl
        | some k =>
          obtain ⟨j, hj, rfl, hs⟩ := fnd_nat h hne hfn
          simp only [goR, Bool.not_true, cond_false, Option.bind_some]
          rw [show ((0 : Int) != 0) = false from rfl, cond_false, show geti l (j : Int) = some (lf l j) from geti_d _ hj, Option.bind_some]
          rw [findH_nat, show (((lf l j).label.level == s.who.level) && (((lf l j).label.parts == s.who.parts) && true)) = own l s.who j from rfl]
          cases own l s.who j with
          | false => rw [if_pos rfl]; rfl
          | true =>
            rw [if_neg (by simp), Bool.not_true, cond_false]
            by_cases h3 : s.kind = 3
            · rw [if_pos h3, show (s.kind == (3 : Int)) = true by simpa using h3, cond_true, drop_eq h]; rfl
            · rw [if_neg h3, show (s.kind == (3 : Int)) = false by simpa using h3, cond_false]
              unfold slices_Clone_SapiLeafapiLeaf
              rw [decide_eq_true (by simp only [List.length_nil]; omega), cond_true, Option.bind_some, List.nil_append, show geti l (j : Int) = some (lf l j) from geti_d _ hj, Option.bind_some]
              rfl
    by_cases h2 : s.kind = 2
    · rw [if_pos (.inl h2), show (s.kind == (2 : Int)) = true by simpa using h2, cond_true]
      exact k12 (.inl h2)
    · rw [show (s.kind == (2 : Int)) = false by simpa using h2, cond_false]
      by_cases h3 : s.kind = 3
      · rw [if_pos (.inr h3), show (s.kind == (3 : Int)) = true by simpa using h3]
        exact k12 (.inr h3)
      · rw [if_neg (by omega), show (s.kind == (3 : Int)) = false by simpa using h3]; rfl

theorem rstroke_eq {l : List Leaf} (h : POk l) (s : Stroke) (hp : s.path.length ≤ 9223372036854775807) {fuel : Nat} (hf : 100 < fuel) : syllogistref_Stroke fuel l s = some (strokeF l s) := by
  have h40 := h.len
  unfold syllogistref_Stroke strokeF
  by_cases h1 : s.kind = 1
  · have e1 : (((s.kind != (1 : Int)) && (s.kind != (2 : Int))) && (s.kind != (3 : Int))) = false := by rw [h1]; rfl
    rw [e1, cond_false, if_pos h1, show (s.kind == (1 : Int)) = true by simpa using h1, cond_true]
    rw [show ({ kind := s.kind, who := { level := s.who.level, parts := s.who.parts }, path := s.path, text := s.text } : Stroke) = s from rfl, rput_eq h s hp hf]; rfl
  · rw [if_neg h1]
    by_cases hk : s.kind = 2 ∨ s.kind = 3
    · have e1 : (((s.kind != (1 : Int)) && (s.kind != (2 : Int))) && (s.kind != (3 : Int))) = false := by
        rcases hk with hk | hk <;> rw [hk] <;> rfl
      rw [e1, cond_false, show (s.kind == (1 : Int)) = false by simpa using h1, cond_false, if_pos hk]
      by_cases hpl : s.path.length = 0
      · have hp0 : s.path = [] := List.eq_nil_of_length_eq_zero hpl
        have hF : syllogistref_Found fuel l { level := s.who.level, parts := s.who.parts } s.path = some (-1) := by
          rw [hp0]
          rcases found_eq h s.who [] fuel hf with ⟨j, _, _, hw, _⟩ | ⟨_, hr⟩
          · exact absurd (show (-1 : Int) = j from hw) (by omega)
          · exact hr
        rw [if_pos hpl, hF]; rfl
      · rw [if_neg hpl]
        have hne : s.path ≠ [] := fun e => hpl (by rw [e]; rfl)
        have hfo : syllogistref_Found fuel l { level := s.who.level, parts := s.who.parts } s.path = _ := found_fnd h s.who hne hf
        rw [hfo, Option.bind_some]
        cases hfn : fnd l s.who s.path with
        | none => rfl
        | some k =>
          obtain ⟨j, hj, rfl, hs⟩ := fnd_nat h hne hfn
          rw [Option.getD_some, decide_eq_false (by omega), cond_false, show geti l (j : Int) = some (lf l j) from geti_d _ hj, Option.bind_some]
          rw [findH_nat, Int.toNat_natCast, show (((lf l j).label.level == s.who.level) && (((lf l j).label.parts == s.who.parts) && true)) = own l s.who j from rfl]
          cases own l s.who j with
          | false => rw [if_pos rfl]; rfl
          | true =>
            rw [if_neg (by simp), Bool.not_true, cond_false, decide_eq_true (by simp only [List.length_nil]; omega), cond_true, List.nil_append]
            by_cases h3 : s.kind = 3
            · rw [if_pos h3, show (s.kind == (2 : Int)) = false by rw [h3]; rfl, cond_false, decide_eq_true (by omega), cond_true]
              exact rdrop_eq h hj hf
            · have h2 : s.kind = 2 := by omega
              rw [if_neg h3, show (s.kind == (2 : Int)) = true by simpa using h2, cond_true, show geti l (j : Int) = some (lf l j) from geti_d _ hj, Option.bind_some]
              rfl
    · have e1 : (((s.kind != (1 : Int)) && (s.kind != (2 : Int))) && (s.kind != (3 : Int))) = true := by
        simp only [Bool.and_eq_true, bne_iff_ne]; omega
      rw [e1, if_neg hk]; rfl

theorem penDoes_true (fuel : Nat) (l : List Leaf) (s : Stroke) (hp : s.path.length ≤ 9223372036854775807) (hf : 100 < fuel := by decide) : syllogistlaw_PenDoes fuel l s = some true := by
  unfold syllogistlaw_PenDoes
  rw [show ({ kind := s.kind, who := { level := s.who.level, parts := s.who.parts }, path := s.path, text := s.text } : Stroke) = s from rfl]
  obtain ⟨r, e1, e2, h⟩ := pcheck l
  have hpc : syllogistlaw_pageCode l { level := s.who.level, parts := s.who.parts } = _ := pcode_eq s.who e2
  have k14 : ∀ (p : List Leaf) (x : Int), syllogistlaw_PenDoes_k14 (p, x) x p = some true := fun p x => by
    unfold syllogistlaw_PenDoes_k14
    simp [leaves_eq, tru_iff.2]
  by_cases hr : r = 0
  · subst hr
    have hP := h rfl
    rw [hpc, if_pos rfl]
    by_cases hl : lcode s.who = 0
    · rw [pen_eq hP e1 s hl hp hf, Option.bind_some, hl, Option.bind_some, show ((0 : Int) == 0) = true from rfl, cond_true, rstroke_eq hP s hp hf, Option.bind_some]
      exact k14 _ _
    · have hpd : pen_Do fuel l s = some ([], lcode s.who) := by
        unfold pen_Do
        have hlc : label_Check { level := s.who.level, parts := s.who.parts } = some (lcode s.who) := lcheck_eq s.who
        rw [e1, Option.bind_some, show ((0 : Int) != 0) = false from rfl, cond_false, hlc, Option.bind_some, show (lcode s.who != 0) = true by simpa using hl]; rfl
      rw [hpd, Option.bind_some, Option.bind_some, show (lcode s.who == 0) = false by simpa using hl, cond_false]
      exact k14 _ _
  · have hpd : pen_Do fuel l s = some ([], r) := by
      unfold pen_Do
      rw [e1, Option.bind_some, show (r != 0) = true by simpa using hr]; rfl
    rw [hpc, if_neg hr, hpd, Option.bind_some, Option.bind_some, show (r == 0) = false by simpa using hr, cond_false]
    exact k14 _ _
end Go.Proofs.Ythndckcjjhdbmaa.Sy
