/- What is seen of a page: the plain laws; no program in sight. -/
import Derived.Test.YthndckcjjhdbmaaSyR
import Derived.Test.YthndckcjjhdbmaaG1
namespace Go.Proofs.Ythndckcjjhdbmaa.Sy
set_option linter.unusedVariables false

open Classical in
noncomputable def lcode (a : Label) : Int := if 0 ≤ a.level ∧ a.level ≤ 3 ∧ a.parts < 32#32 then 0 else 4

theorem fits5 (s : BitVec 32) : syllogistref_Fits 5 s = some (decide (s < 32#32)) := by
  unfold syllogistref_Fits
  have h : (1#32 <<< ((BitVec.ofInt 64 5)).toNat) = 32#32 := by decide
  rw [h]
  simp

theorem lcheck_eq (a : Label) : label_Check a = some (lcode a) := by
  unfold label_Check lcode
  by_cases h : 0 ≤ a.level ∧ a.level ≤ 3 ∧ a.parts < 32#32
  · rw [if_pos h]
    have : (((decide (a.level < (0 : Int))) || (decide (a.level > (3 : Int)))) || (decide (a.parts ≥ 32#32))) = false := by
      obtain ⟨h1, h2, h3⟩ := h
      simp only [Bool.or_eq_false_iff, decide_eq_false_iff_not]
      refine ⟨⟨by omega, by omega⟩, ?_⟩
      simp only [ge_iff_le, BitVec.not_le]; exact h3
    rw [this]; rfl
  · rw [if_neg h]
    have : (((decide (a.level < (0 : Int))) || (decide (a.level > (3 : Int)))) || (decide (a.parts ≥ 32#32))) = true := by
      simp only [Bool.or_eq_true, decide_eq_true_eq]
      by_cases h3 : a.parts < 32#32
      · left
        by_cases h1 : a.level < 0
        · exact .inl h1
        · refine .inr ?_
          by_cases h2 : a.level > 3
          · exact h2
          · exact absurd ⟨by omega, by omega, h3⟩ h
      · exact .inr (by simpa using h3)
    rw [this]; rfl

theorem rcheck_eq (a : Label) : syllogistref_LabelCheck a = some (lcode a) := by
  rw [← lcheck_eq]
  unfold label_Check syllogistref_LabelCheck
  rw [fits5]
  have : (decide (a.parts ≥ 32#32)) = !(decide (a.parts < 32#32)) := by
    rw [← decide_not]; congr 1; simp
  rw [this]
  simp

theorem lcode_ne {a : Label} (h : lcode a ≠ 0) : lcode a = 4 := by
  unfold lcode at h ⊢
  split at h
  · exact absurd rfl h
  · rename_i hh
    exact if_neg hh

def lund (a b : Label) : Bool := (decide (a.level ≤ b.level)) && ((a.parts &&& ~~~b.parts) == 0#32)
theorem least_eq (a b : Label) : label_Least a b = some (lund a b) := rfl
theorem below_eq (a b : Label) : syllogistref_Below a b = some (lund a b) := by
  unfold syllogistref_Below syllogistref_In lund
  simp [andn_or]

theorem pbody_eq (l : List Leaf) (i : Int) (nx : Unit → Option Int) : page_Check_b7 l i nx = syllogistref_PageCheck_b7 l i nx := by
  unfold page_Check_b7 syllogistref_PageCheck_b7
  congr 1
  funext y
  simp only [lcheck_eq, rcheck_eq, Option.bind_some, least_eq, below_eq]
  by_cases h : lcode { level := y.label.level, parts := y.label.parts } = 0
  · simp [h]
  · have h4 := lcode_ne h
    simp [h4]

theorem page_eq (l : List Leaf) : page_Check l = syllogistref_PageCheck l := by
  unfold page_Check syllogistref_PageCheck
  have : (fun i (s : Unit) nx_ => page_Check_b7 l i nx_) = (fun i s nx_ => syllogistref_PageCheck_b7 l i nx_) := by
    funext i s nx; exact pbody_eq l i nx
  rw [this]
  rfl

/-- What a page that passes has. -/
structure POk (l : List Leaf) : Prop where
  len : l.length ≤ 40
  lab : ∀ i (h : i < l.length), lcode l[i].label = 0
  up0 : ∀ i (h : i < l.length), -1 ≤ l[i].up ∧ l[i].up < i
  und : ∀ i (h : i < l.length) j (hj : j < l.length), l[i].up = (j : Int) → lund l[j].label l[i].label = true

theorem pcheck (l : List Leaf) : ∃ r, page_Check l = some r ∧ syllogistref_PageCheck l = some r ∧ (r = 0 → POk l) := by
  rw [page_eq]
  suffices h : ∃ r, syllogistref_PageCheck l = some r ∧ (r = 0 → POk l) by
    obtain ⟨r, e, h⟩ := h
    exact ⟨r, e, e, h⟩
  unfold syllogistref_PageCheck
  by_cases h40 : (l.length : Int) > 40
  · rw [decide_eq_true h40]; exact ⟨1, rfl, fun h => by cases h⟩
  rw [decide_eq_false h40, cond_false]
  refine for0_q (Q := fun o => ∃ r, o = some r ∧ (r = 0 → POk l)) (fun t _ => ∀ i (h : i < l.length), i < t → lcode l[i].label = 0 ∧ (-1 ≤ l[i].up ∧ l[i].up < i) ∧ ∀ j (hj : j < l.length), l[i].up = (j : Int) → lund l[j].label l[i].label = true) rfl () (fun i h hi => by omega) (fun t s nx ht hI hnx => ?_) (fun s hI => ?_)
  · unfold syllogistref_PageCheck_b7
    rw [geti_at ht, Option.bind_some, rcheck_eq, Option.bind_some]
    by_cases hc : lcode { level := l[t].label.level, parts := l[t].label.parts } = 0
    · rw [hc]
      simp only [bne_self_eq_false, cond_false]
      by_cases hu : l[t].up < -1 ∨ l[t].up ≥ t
      · have : ((decide (l[t].up < (-1 : Int))) || (decide (l[t].up ≥ (t : Int)))) = true := by simpa using hu
        rw [this]; exact ⟨2, rfl, fun h => by cases h⟩
      · have : ((decide (l[t].up < (-1 : Int))) || (decide (l[t].up ≥ (t : Int)))) = false := by
          simp only [Bool.or_eq_false_iff, decide_eq_false_iff_not]; omega
        rw [this, cond_false, below_eq]
        have hg : (!((decide (l[t].up ≥ (0 : Int))) == true) || (geti l l[t].up).isSome) = true := by
          by_cases h0 : l[t].up ≥ 0
          · rw [geti_int h0 (by omega)]; simp
          · simp [h0]
        rw [hg]
        simp only [cond_true, Option.isSome_some, Bool.or_true, Option.getD_some]
        cases hb : ((decide (l[t].up ≥ (0 : Int))) && !(lund (((geti l l[t].up).getD { up := 0, text := 0, label := { level := 0, parts := 0#32 } }).label) { level := l[t].label.level, parts := l[t].label.parts })) with
        | true => exact ⟨3, rfl, fun h => by cases h⟩
        | false =>
          rw [cond_false]
          refine hnx () fun i h hi => ?_
          by_cases e : i = t
          · subst e
            refine ⟨hc, by omega, fun j hj hu' => ?_⟩
            rw [hu', decide_eq_true (by omega), geti_at hj] at hb
            simpa using hb
          · exact hI i h (by omega)
    · have : (lcode { level := l[t].label.level, parts := l[t].label.parts } != 0) = true := by simpa using hc
      rw [this]; exact ⟨4, rfl, fun h => by cases h⟩
  · exact ⟨0, rfl, fun _ => ⟨by omega, fun i h => (hI i h h).1, fun i h => (hI i h h).2.1, fun i h => (hI i h h).2.2⟩⟩

theorem lund_trans {a b c : Label} (h : lund a b = true) (k : lund b c = true) : lund a c = true := by
  unfold lund at *
  rw [Bool.and_eq_true, decide_eq_true_eq] at *
  refine ⟨by omega, ?_⟩
  rw [andn_iff]
  exact (andn_iff.1 h.2).trans (andn_iff.1 k.2)

/-! ### What is seen -/
abbrev lf (l : List Leaf) (i : Nat) : Leaf := l[i]?.getD { up := 0, text := 0, label := { level := 0, parts := 0#32 } }
def so (l : List Leaf) (who : Label) (i : Nat) : Bool := lund (lf l i).label who
def nup (p : Nat → Bool) (u : Int) : Int := if u < 0 then -1 else (cntN (u.toNat + 1) p : Int) - 1
def kept (l : List Leaf) (p : Nat → Bool) (i : Nat) : List Leaf := bif p i then [{ up := nup p (lf l i).up, text := (lf l i).text, label := (lf l i).label }] else []
def keep (l : List Leaf) (p : Nat → Bool) : List Leaf := apps l.length (kept l p)
theorem kept_len {l : List Leaf} {p : Nat → Bool} {t : Nat} : (apps t (kept l p)).length = cntN t p := by
  induction t with
  | zero => rfl
  | succ t ih =>
    rw [apps, List.length_append, ih, cntN]
    unfold kept
    cases p t <;> rfl

theorem so_up {l : List Leaf} (h : POk l) {who : Label} {i j : Nat} (hi : i < l.length) (hj : (lf l i).up = (j : Int)) (hs : so l who i = true) : so l who j = true ∧ j < i := by
  have e : lf l i = l[i] := getd_at _ hi
  obtain ⟨u1, u2⟩ := h.up0 i hi
  rw [e] at hj
  have hji : j < i := by omega
  refine ⟨?_, hji⟩
  have := h.und i hi j (by omega) hj
  unfold so at *
  rw [e] at hs
  rw [show lf l j = l[j] from getd_at _ (by omega)]
  exact lund_trans this hs

theorem view_eq {l : List Leaf} (h : POk l) {who : Label} (hw : lcode who = 0) (hc : page_Check l = some 0) : page_View l who = some (keep l (so l who), 0) := by
  have hlen := h.len
  unfold page_View
  have hw' : label_Check { level := who.level, parts := who.parts } = some 0 := (lcheck_eq who).trans (by rw [hw])
  rw [hc, Option.bind_some, hw', Option.bind_some]
  simp only [bne_self_eq_false, cond_false]
  rw [decide_eq_true (by omega), cond_true, Int.toNat_natCast]
  refine (for_rec (n := l.length) (fun i => (apps i (kept l (so l who)), tab l.length fun j => if j < i ∧ so l who j = true then (cntN j (so l who) : Int) else 0)) rfl ?_ (fun i nx hi => ?_)).trans rfl
  · exact congrArg (Prod.mk _) (tab_rep.trans (tab_congr fun j _ => by rw [if_neg (by omega)]))
  · unfold page_View_b29
    have hcl := cntN_le (n := i) (p := so l who)
    have hd : geti l (i : Int) = some (lf l i) := geti_d _ hi
    simp only
    rw [hd, Option.bind_some, least_eq, Option.bind_some]
    have hso : lund { level := (lf l i).label.level, parts := (lf l i).label.parts } { level := who.level, parts := who.parts } = so l who i := rfl
    rw [hso]
    have hk : apps (i + 1) (kept l (so l who)) = apps i (kept l (so l who)) ++ kept l (so l who) i := rfl
    cases hs : so l who i with
    | false =>
      rw [Bool.not_false, cond_true, hk]
      unfold kept
      rw [hs, cond_false, List.append_nil]
      congr 2
      refine tab_congr fun j _ => ?_
      by_cases e : j = i
      · subst e
        rw [if_neg (by omega), if_neg (by rw [hs]; simp)]
      · by_cases hj : j < i ∧ so l who j = true
        · rw [if_pos hj, if_pos ⟨by omega, hj.2⟩]
        · rw [if_neg hj, if_neg (fun hx => hj ⟨by omega, hx.2⟩)]
    | true =>
      have hset : (tab l.length fun j => if j < i ∧ so l who j = true then (cntN j (so l who) : Int) else 0).set i (cntN i (so l who) : Int) = tab l.length fun j => if j < i + 1 ∧ so l who j = true then (cntN j (so l who) : Int) else 0 := by
        rw [tab_set hi]
        refine tab_congr fun j _ => ?_
        by_cases e : j = i
        · subst e
          rw [if_pos rfl, if_pos ⟨by omega, hs⟩]
        · rw [if_neg e]
          by_cases hj : j < i ∧ so l who j = true
          · rw [if_pos hj, if_pos ⟨by omega, hj.2⟩]
          · rw [if_neg hj, if_neg (fun hx => hj ⟨by omega, hx.2⟩)]
      rw [Bool.not_true, cond_false, tab_geti hi, Option.bind_some, Int.toNat_natCast, kept_len, hset, hk]
      have hkp : kept l (so l who) i = [{ up := nup (so l who) (lf l i).up, text := (lf l i).text, label := (lf l i).label }] := by unfold kept; rw [hs, cond_true]
      obtain ⟨u1, u2⟩ := h.up0 i hi
      rw [← show lf l i = l[i] from getd_at _ hi] at u1 u2
      by_cases hu : (lf l i).up ≥ 0
      · obtain ⟨j, hj⟩ : ∃ j : Nat, (lf l i).up = j := ⟨(lf l i).up.toNat, by omega⟩
        obtain ⟨sj, hji⟩ := so_up h hi hj hs
        rw [decide_eq_true hu, cond_true, hj, tab_geti (by omega), Option.bind_some, if_pos ⟨by omega, sj⟩, decide_eq_true (by simp only [List.length_cons, List.length_nil]; omega), cond_true, hkp]
        have hn : nup (so l who) (lf l i).up = (cntN j (so l who) : Int) := by
          unfold nup
          rw [hj, if_neg (by omega), Int.toNat_natCast, cntN, sj, cond_true]; omega
        rw [hn]
      · rw [decide_eq_false hu, cond_false, decide_eq_true (by simp only [List.length_cons, List.length_nil]; omega), cond_true, hkp]
        have hn : nup (so l who) (lf l i).up = (lf l i).up := by
          unfold nup
          rw [if_pos (by omega)]; omega
        rw [hn]

theorem rkeep_eq {l : List Leaf} (h : l.length ≤ 40) (hu : ∀ i (h : i < l.length), -1 ≤ l[i].up ∧ l[i].up < i) (p : Nat → Bool) (fuel : Nat) (hf : 100 < fuel) : syllogistref_Keep fuel l (tab l.length p) = some (keep l p) := by
  unfold syllogistref_Keep
  refine (for_apps (n := l.length) (kept l p) rfl (fun i s nx hi hs => ?_)).trans rfl
  unfold syllogistref_Keep_b14
  have hcl := cntN_le (n := i) (p := p)
  have hd : geti l (i : Int) = some (lf l i) := geti_d _ hi
  obtain ⟨u1, u2⟩ := hu i hi
  rw [← show lf l i = l[i] from getd_at _ hi] at u1 u2
  rw [hd, Option.bind_some, tab_geti hi, Option.bind_some]
  unfold kept
  cases hp : p i with
  | false => simp
  | true =>
    rw [Bool.not_true, cond_false, cond_true]
    refine while_rec (fun j => ((cntN j p : Int) - 1, (j : Int))) ((lf l i).up + 1).toNat _ (fun j nx' hj => ?_) (fun nx' => ?_) (by omega) rfl
    · simp only
      unfold syllogistref_Keep_b37
      have hcj := cntN_le (n := j) (p := p)
      rw [decide_eq_true (by omega), cond_true, tab_geti (by omega), Option.bind_some, w64_succ (by omega), cntN]
      cases p j with
      | false => rfl
      | true =>
        rw [cond_true, cond_true, w64_id (by omega) (by omega)]
        congr 2
        omega
    · simp only
      unfold syllogistref_Keep_b37
      rw [decide_eq_false (by omega), cond_false]
      unfold syllogistref_Keep_k28 syllogistref_Keep_k31
      rw [hs, kept_len]
      by_cases h0 : (lf l i).up < 0
      · rw [decide_eq_true h0, cond_true, decide_eq_true (by simp only [List.length_cons, List.length_nil]; omega), cond_true]
        unfold nup
        rw [if_pos h0]
      · rw [decide_eq_false h0, cond_false, decide_eq_true (by simp only [List.length_cons, List.length_nil]; omega), cond_true]
        unfold nup
        rw [if_neg h0, show ((lf l i).up + 1).toNat = (lf l i).up.toNat + 1 by omega]

theorem rview_eq {l : List Leaf} (h : POk l) (who : Label) (fuel : Nat) (hf : 100 < fuel) : syllogistref_View fuel l who = some (keep l (so l who)) := by
  have hlen := h.len
  unfold syllogistref_View
  rw [decide_eq_true (by omega), cond_true, Int.toNat_natCast]
  refine (for_tab (n := l.length) (so l who) rfl (fun i s nx hi hs => ?_)).trans ?_
  · unfold syllogistref_View_b22
    have hd : geti l (i : Int) = some (lf l i) := geti_d _ hi
    rw [hd, Option.bind_some, below_eq, Option.bind_some, geti_d false (by omega), Option.bind_some, Int.toNat_natCast]
    rfl
  · unfold syllogistref_View_k14
    rw [rkeep_eq hlen h.up0 _ fuel hf]; rfl

theorem leaf_ne (a b : Leaf) : (!((a.up == b.up) && ((a.text == b.text) && (((a.label.level == b.label.level) && ((a.label.parts == b.label.parts) && true)) && true)))) = tru (a ≠ b) := by
  obtain ⟨au, at', ⟨al, ap⟩⟩ := a
  obtain ⟨bu, bt, ⟨bl, bp⟩⟩ := b
  rw [Bool.eq_iff_iff, tru_iff, Bool.not_eq_true', ← Bool.not_eq_true]
  simp
theorem leaves_eq (a b : List Leaf) : syllogistref_Leaves a b = some (tru (a = b)) := by
  unfold syllogistref_Leaves
  by_cases hl : a.length = b.length
  · have : ((a.length : Int) != (b.length : Int)) = false := by rw [hl]; simp
    rw [this, cond_false, for_out (n := a.length) (fun j => tru (a[j]? ≠ b[j]?)) (some false) rfl (fun j nx hj => by
      unfold syllogistref_Leaves_b7
      rw [geti_at hj, Option.bind_some, geti_at (by omega), Option.bind_some, leaf_ne]
      congr 1
      rw [List.getElem?_eq_getElem hj, List.getElem?_eq_getElem (show j < b.length by omega)]
      exact tru_congr (by simp))]
    unfold syllogistref_Leaves_k3
    by_cases h : a = b
    · subst h
      rw [anyN_false.2 fun j _ => tru_false.2 (by simp), cond_false, tru_iff.2 rfl]
    · have : anyN a.length (fun j => tru (a[j]? ≠ b[j]?)) = true := by
        refine Classical.byContradiction fun hn => h (List.ext_getElem? fun i => ?_)
        rw [Bool.not_eq_true, anyN_false] at hn
        by_cases hi : i < a.length
        · exact Classical.not_not.1 (tru_false.1 (hn i hi))
        · rw [List.getElem?_eq_none (by omega), List.getElem?_eq_none (by omega)]
      rw [this, cond_true, tru_false.2 h]
  · have : ((a.length : Int) != (b.length : Int)) = true := by
      rw [bne_iff_ne]; omega
    rw [this, cond_true, tru_false.2 fun h => hl (by rw [h])]

theorem pcode_eq {l : List Leaf} (who : Label) {r : Int} (h : syllogistref_PageCheck l = some r) : syllogistlaw_pageCode l who = some (if r = 0 then lcode who else r) := by
  unfold syllogistlaw_pageCode
  rw [h, Option.bind_some]
  by_cases hr : r = 0
  · subst hr
    have : syllogistref_LabelCheck { level := who.level, parts := who.parts } = some (lcode who) := rcheck_eq who
    rw [if_pos rfl, this]; rfl
  · rw [if_neg hr, show (r == 0) = false by simpa using hr]; rfl

theorem pageViews_true (fuel : Nat) (l : List Leaf) (who : Label) (hf : 100 < fuel := by decide) : syllogistlaw_PageViews fuel l who = some true := by
  unfold syllogistlaw_PageViews
  obtain ⟨r, e1, e2, h⟩ := pcheck l
  have hpc : syllogistlaw_pageCode l { level := who.level, parts := who.parts } = _ := pcode_eq who e2
  rw [hpc]
  by_cases hr : r = 0
  · subst hr
    have hP := h rfl
    rw [if_pos rfl]
    by_cases hw : lcode who = 0
    · have hv : page_View l { level := who.level, parts := who.parts } = _ := view_eq hP hw e1
      have hrv : syllogistref_View fuel l { level := who.level, parts := who.parts } = _ := rview_eq hP who fuel hf
      rw [hv, hw]
      simp only [Option.bind_some, bne_self_eq_false, cond_false, beq_self_eq_true, cond_true, hrv, leaves_eq, tru_iff.2, Bool.and_self]
    · have : (lcode who != 0) = true := by simpa using hw
      have hv : page_View l { level := who.level, parts := who.parts } = some ([], lcode who) := by
        unfold page_View
        have hw' : label_Check { level := who.level, parts := who.parts } = some (lcode who) := lcheck_eq who
        rw [e1, Option.bind_some]
        simp only [bne_self_eq_false, cond_false]
        rw [hw', Option.bind_some, this, cond_true]
      rw [hv]
      simp [this]
  · have : (r != 0) = true := by simpa using hr
    rw [if_neg hr]
    unfold page_View
    rw [e1]
    simp [this]
end Go.Proofs.Ythndckcjjhdbmaa.Sy
