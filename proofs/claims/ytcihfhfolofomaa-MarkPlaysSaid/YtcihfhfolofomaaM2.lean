/- Marks that rise: the plain law; no program in sight. -/
import Derived.Test.YtcihfhfolofomaaSyQ
import Derived.Test.YtcihfhfolofomaaG2
namespace Go.Proofs.Ytcihfhfolofomaa.Sy
set_option linter.unusedVariables false

theorem flatten_take {α : Type} {xs : List (List α)} {j : Nat} (hj : j < xs.length) : (xs.take (j + 1)).flatten = (xs.take j).flatten ++ xs[j] := by
  rw [List.take_succ_eq_append_getElem hj, List.flatten_append]; simp
theorem flatten_take_le {α : Type} {xs : List (List α)} (j : Nat) : (xs.take j).flatten.length ≤ xs.flatten.length := by
  conv => rhs; rw [← List.take_append_drop j xs]
  rw [List.flatten_append, List.length_append]; omega
theorem concatL {xs : List (List Label)} (h : xs.flatten.length ≤ 1000) : slices_Concat_SapiLabelapiLabel xs = some xs.flatten := by
  unfold slices_Concat_SapiLabelapiLabel
  rw [for_rec (n := xs.length) (fun j => (((xs.take j).flatten.length : Nat) : Int)) rfl (by simp) (fun j nx hj => by
    unfold slices_Concat_SapiLabelapiLabel_b36
    have h1 := flatten_take_le (xs := xs) (j + 1)
    rw [flatten_take hj, List.length_append] at h1
    rw [geti_at hj, Option.bind_some, w64_id (by omega) (by omega), decide_eq_false (by omega), cond_false, flatten_take hj, List.length_append]
    rfl)]
  unfold slices_Concat_SapiLabelapiLabel_k6
  rw [List.take_length]
  have hg : slices_Grow_SapiLabelapiLabel_fnil (xs.flatten.length : Int) = some () := by
    unfold slices_Grow_SapiLabelapiLabel_fnil
    rw [decide_eq_false (by omega), cond_false]
    have e : w64 ((0 : Int) - ((([] : List Label)).length : Int)) = 0 := rfl
    rw [e, Int.sub_zero, w64_id (by omega) (by omega)]
    cases hd : decide ((xs.flatten.length : Int) > 0) with
    | false => rfl
    | true =>
      have := of_decide_eq_true hd
      rw [cond_true, decide_eq_true (by omega), cond_true]
  rw [hg, Option.bind_some]
  rw [for_rec (s := ([] : List Label)) (n := xs.length) (fun j => (xs.take j).flatten) rfl (by simp) (fun j nx hj => by
    unfold slices_Concat_SapiLabelapiLabel_b24
    have h1 := flatten_take_le (xs := xs) (j + 1)
    rw [flatten_take hj, List.length_append] at h1
    rw [geti_at hj, Option.bind_some, decide_eq_true (by omega), cond_true, flatten_take hj])]
  unfold slices_Concat_SapiLabelapiLabel_k20
  rw [List.take_length]
theorem any_at {α : Type} (s : List α) (p : α → Bool) (d : α) : anyN s.length (fun j => p (s[j]?.getD d)) = s.any p := by
  rw [any_len]
  exact anyN_congr fun j hj => by rw [List.getElem?_eq_getElem hj]; rfl

/-! ### What is wrong -/
def dL : Label := { level := 0, parts := 0#32 }
def badL (a : Label) : Bool := ((decide (a.level < (0 : Int))) || (decide (a.level > (3 : Int)))) || (decide (a.parts ≥ 32#32))
theorem check_eq (a : Label) : label_Check a = some (bif badL a then 4 else 0) := by
  unfold label_Check
  cases h : badL a <;> (unfold badL at h; rw [h]; rfl)
theorem check2_eq (a : Label) : syllogistref_LabelCheck a = some (bif badL a then 4 else 0) := by
  have h : syllogistref_Fits (5 : Int) a.parts = some (!decide (a.parts ≥ 32#32)) := by
    unfold syllogistref_Fits
    have := fits_shape (n := 5) (by omega) a.parts
    rw [show ((5 : Nat) : Int) = (5 : Int) from rfl] at this
    rw [this]
    congr 1
    rw [Bool.eq_iff_iff, Bool.not_eq_true', decide_eq_true_eq, decide_eq_false_iff_not, show (1#32 <<< 5) = 32#32 from rfl]
    simp [BitVec.lt_def, BitVec.le_def]
  unfold syllogistref_LabelCheck
  rw [h]
  simp only [Option.isSome_some, Bool.or_true, cond_true, Option.getD_some, Bool.not_not]
  cases h : badL a <;> (unfold badL at h; rw [h]; rfl)
def big (c t : List Label) (d : Int) : Bool := ((((decide ((c.length : Int) < (1 : Int))) || (decide ((c.length : Int) > (5 : Int)))) || (decide ((t.length : Int) > (8 : Int)))) || (decide (d > (30 : Int))))
def mchk (c t : List Label) (d : Int) : Int := bif big c t d then 1 else bif c.any badL || t.any badL then 4 else 0
theorem wrong_eq (c t : List Label) (d : Int) : mark_Wrong c t d = some (mchk c t d) := by
  unfold mark_Wrong mchk
  cases hb : big c t d with
  | true => unfold big at hb; rw [hb]; rfl
  | false =>
    have hb' := hb
    unfold big at hb'
    rw [hb', cond_false, cond_false]
    simp only [Bool.or_eq_false_iff, decide_eq_false_iff_not] at hb'
    have hf : [c, t].flatten = c ++ t := by simp
    rw [concatL (by rw [hf, List.length_append]; omega), Option.bind_some, hf]
    rw [for_out (n := (c ++ t).length) (fun j => badL ((c ++ t)[j]?.getD dL)) (some 4) rfl (fun j nx hj => by
      unfold mark_Wrong_b13
      rw [geti_d dL hj, Option.bind_some, show ∀ y : Label, label_Check { level := y.level, parts := y.parts } = label_Check y from fun _ => rfl, check_eq, Option.bind_some]
      cases badL ((c ++ t)[j]?.getD dL) <;> rfl), any_at, List.any_append]
    unfold mark_Wrong_k9
    cases c.any badL || t.any badL <;> rfl
def anyB (l : List Label) : Bool := l.any badL
theorem mcheck_eq (c t : List Label) (d : Int) : syllogistref_MarkCheck c t d = some (mchk c t d) := by
  unfold syllogistref_MarkCheck mchk
  cases hb : big c t d with
  | true => unfold big at hb; rw [hb]; rfl
  | false =>
    have hb' := hb
    unfold big at hb'
    rw [hb', cond_false, cond_false]
    rw [for_out (n := [c, t].length) (fun j => anyB ([c, t][j]?.getD [])) (some 4) rfl (fun j nx hj => by
      unfold syllogistref_MarkCheck_b9
      rw [geti_d [] hj, Option.bind_some]
      rw [for_out (n := ([c, t][j]?.getD []).length) (fun i => badL (([c, t][j]?.getD [])[i]?.getD dL)) (some 4) rfl (fun i nx' hi => by
        unfold syllogistref_MarkCheck_b23
        rw [geti_d dL hi, Option.bind_some, show ∀ y : Label, syllogistref_LabelCheck { level := y.level, parts := y.parts } = syllogistref_LabelCheck y from fun _ => rfl, check2_eq, Option.bind_some]
        cases badL (([c, t][j]?.getD [])[i]?.getD dL) <;> rfl), any_at]
      rfl), any_at]
    unfold syllogistref_MarkCheck_k5
    have : [c, t].any anyB = (c.any badL || t.any badL) := by simp [anyB]
    rw [this]
    cases c.any badL || t.any badL <;> rfl

/-! ### Deed by deed -/
abbrev Wd := BitVec 32
structure LS where
  cs : List Int
  kn : List Wd
  ms : List Label
  fr : List Wd
def kbad (d : Deed) : Bool := (decide (d.kind < (1 : Int))) || (decide (d.kind > (3 : Int)))
def abad (c t : List Label) (d : Deed) : Bool := (((decide (d.by_ < (0 : Int))) || (decide (d.by_ ≥ (c.length : Int)))) || ((d.kind != (3 : Int)) && ((decide (d.to < (0 : Int))) || (decide (d.to ≥ (t.length : Int))))))
def both (a b : Label) : Label := { level := if b.level > a.level then b.level else a.level, parts := a.parts ||| b.parts }
def under (a b : Label) : Bool := decide (a.level ≤ b.level) && ((a.parts &&& ~~~b.parts) == 0#32)
def say (s : LS) (k : Int) : LS := { s with cs := s.cs ++ [k] }
def step (c t : List Label) (d : Deed) (s : LS) : LS :=
  bif kbad d then say s 6 else bif abad c t d then say s 2 else
    bif d.kind == 3 then { cs := s.cs ++ [0], kn := s.kn.set d.by_.toNat 0#32, ms := s.ms.set d.by_.toNat dL, fr := s.fr } else
    bif d.kind == 1 then (bif under (both (s.ms[d.by_.toNat]?.getD dL) (t[d.to.toNat]?.getD dL)) (c[d.by_.toNat]?.getD dL) then
      { cs := s.cs ++ [0], kn := s.kn.set d.by_.toNat (s.kn[d.by_.toNat]?.getD 0#32 ||| s.fr[d.to.toNat]?.getD 0#32), ms := s.ms.set d.by_.toNat (both (s.ms[d.by_.toNat]?.getD dL) (t[d.to.toNat]?.getD dL)), fr := s.fr } else say s 7) else
    bif under (s.ms[d.by_.toNat]?.getD dL) (t[d.to.toNat]?.getD dL) then { cs := s.cs ++ [0], kn := s.kn, ms := s.ms, fr := s.fr.set d.to.toNat (s.fr[d.to.toNat]?.getD 0#32 ||| s.kn[d.by_.toNat]?.getD 0#32) } else say s 7
def dDeed : Deed := { kind := 0, by_ := 0, to := 0, label := dL, val := 0 }
def run (c t : List Label) (w : List Deed) : Nat → LS
  | 0 => { cs := [], kn := List.replicate c.length 0#32, ms := List.replicate c.length dL, fr := tab t.length fun j => 1#32 <<< j }
  | j + 1 => step c t (w[j]?.getD dDeed) (run c t w j)
structure Ok (c t : List Label) (s : LS) (j : Nat) : Prop where
  kn : s.kn.length = c.length
  ms : s.ms.length = c.length
  fr : s.fr.length = t.length
  cs : s.cs.length = j
theorem Ok.ite {c t : List Label} {a b : LS} {j : Nat} (z : Bool) (h1 : Ok c t a j) (h2 : Ok c t b j) : Ok c t (bif z then a else b) j := by cases z; exact h2; exact h1
theorem step_ok {c t : List Label} {s : LS} {j : Nat} (d : Deed) (h : Ok c t s j) : Ok c t (step c t d s) (j + 1) := by
  obtain ⟨h1, h2, h3, h4⟩ := h
  have hs : ∀ k, Ok c t (say s k) (j + 1) := fun k => ⟨h1, h2, h3, by simp [say, h4]⟩
  unfold step
  refine .ite _ (hs _) (.ite _ (hs _) (.ite _ ⟨?_, ?_, ?_, ?_⟩ (.ite _ (.ite _ ⟨?_, ?_, ?_, ?_⟩ (hs _)) (.ite _ ⟨?_, ?_, ?_, ?_⟩ (hs _)))))
  all_goals simp [h1, h2, h3, h4]
theorem run_ok (c t : List Label) (w : List Deed) (j : Nat) : Ok c t (run c t w j) j := by
  induction j with
  | zero => exact ⟨by simp [run], by simp [run], tab_len, rfl⟩
  | succ j ih => exact step_ok _ ih

theorem at_in {α : Type} {xs : List α} {i : Int} (d : α) (h0 : 0 ≤ i) (h : i < xs.length) : geti xs i = some (xs[i.toNat]?.getD d) := by
  rw [geti_int h0 h, getd_at d (by omega)]
theorem least_eq (a b : Label) : label_Least a b = some (under a b) := rfl
theorem all_eq (a b : Label) : label_All a b = some (both a b) := rfl
theorem lb_eta (a : Label) : ({ level := a.level, parts := a.parts } : Label) = a := rfl

theorem do_eq {c t : List Label} {s : LS} {j : Nat} (d : Deed) (h : Ok c t s j) :
    mark_Play_c1 d c t { codes := s.cs, marks := s.ms, src := s.fr } s.kn = some (((step c t d s).cs[j]?.getD 0), { codes := s.cs, marks := (step c t d s).ms, src := (step c t d s).fr }, (step c t d s).kn) ∧ (step c t d s).cs = s.cs ++ [(step c t d s).cs[j]?.getD 0] := by
  obtain ⟨h1, h2, h3, h4⟩ := h
  have hc : ∀ k : Int, (s.cs ++ [k])[j]?.getD 0 = k := fun k => by rw [List.getElem?_append_right (by omega), h4, Nat.sub_self]; rfl
  unfold mark_Play_c1 step say
  cases hk : kbad d with
  | true =>
    unfold kbad at hk
    rw [hk, cond_true, cond_true]
    simp only [hc]; exact ⟨by first | rfl | trivial, by first | rfl | trivial⟩
  | false =>
    have hk' := hk
    unfold kbad at hk'
    rw [hk', cond_false, cond_false]
    cases ha : abad c t d with
    | true =>
      unfold abad at ha
      simp only [ha, cond_true, hc]; exact ⟨by first | rfl | trivial, by first | rfl | trivial⟩
    | false =>
      have ha' := ha
      unfold abad at ha'
      simp only [ha', cond_false]
      simp only [Bool.or_eq_false_iff, decide_eq_false_iff_not] at ha' hk'
      have hi0 : 0 ≤ d.by_ := by omega
      have hi1 : d.by_ < c.length := by omega
      have ec := at_in dL hi0 hi1
      have em := at_in (xs := s.ms) dL hi0 (by omega)
      have ek := at_in (xs := s.kn) 0#32 hi0 (by omega)
      cases e3 : d.kind == 3 with
      | true =>
        simp only [cond_true, ec, em, ek, Option.bind_some, hc]
        exact ⟨by first | rfl | trivial, by first | rfl | trivial⟩
      | false =>
        have e3' : d.kind ≠ 3 := by simpa using e3
        have hne : (d.kind != 3) = true := by simpa using e3'
        rw [hne, Bool.true_and, Bool.or_eq_false_iff, decide_eq_false_iff_not, decide_eq_false_iff_not] at ha'
        have ht := at_in (xs := t) dL (i := d.to) (by omega) (by omega)
        have hfr := at_in (xs := s.fr) 0#32 (i := d.to) (by omega) (by omega)
        cases e1 : d.kind == 1 with
        | true =>
          have e1' : d.kind = 1 := by simpa using e1
          have e2 : (d.kind == 2) = false := by rw [e1']; rfl
          simp only [e2, cond_true, cond_false, ec, em, ek, ht, hfr, Option.bind_some, least_eq, all_eq]
          cases hu : under (both (s.ms[d.by_.toNat]?.getD dL) (t[d.to.toNat]?.getD dL)) (c[d.by_.toNat]?.getD dL) with
          | true => simp only [Bool.not_true, cond_false, cond_true, hc]; exact ⟨by first | rfl | trivial, by first | rfl | trivial⟩
          | false => simp only [Bool.not_false, cond_false, cond_true, hc]; exact ⟨by first | rfl | trivial, by first | rfl | trivial⟩
        | false =>
          have e1' : d.kind ≠ 1 := by simpa using e1
          have e2 : (d.kind == 2) = true := by
            rw [beq_iff_eq]; omega
          simp only [e2, cond_true, cond_false, ec, em, ek, ht, hfr, Option.bind_some, least_eq]
          cases hu : under (s.ms[d.by_.toNat]?.getD dL) (t[d.to.toNat]?.getD dL) with
          | true => simp only [Bool.not_true, cond_false, cond_true, hc]; exact ⟨by first | rfl | trivial, by first | rfl | trivial⟩
          | false => simp only [Bool.not_false, cond_false, cond_true, hc]; exact ⟨by first | rfl | trivial, by first | rfl | trivial⟩

theorem play_eq (c t : List Label) (w : List Deed) (hm : mchk c t w.length = 0) : mark_Play c t w = some ({ codes := (run c t w w.length).cs, marks := (run c t w w.length).ms, src := (run c t w w.length).fr }, 0) := by
  unfold mark_Play
  rw [wrong_eq, Option.bind_some, hm]
  have hb : big c t w.length = false := by
    cases h : big c t w.length with
    | false => rfl
    | true => unfold mchk at hm; rw [h] at hm; cases hm
  unfold big at hb
  simp only [Bool.or_eq_false_iff, decide_eq_false_iff_not] at hb
  simp only [bne_self_eq_false, cond_false]
  rw [decide_eq_true (by omega), cond_true, decide_eq_true (by omega), cond_true, decide_eq_true (by omega), cond_true, Int.toNat_natCast]
  rw [for_tab (n := t.length) (fun j => 1#32 <<< j) rfl (fun j s nx hj hs => by
    unfold mark_Play_b520
    rw [geti_at (by omega), Option.bind_some, Int.toNat_natCast])]
  unfold mark_Play_k459
  rw [decide_eq_true (by omega), cond_true]
  rw [for_rec (s := ((List.replicate ((c.length : Int)).toNat (0#32)), (tab t.length fun j => 1#32 <<< j), (List.replicate ((c.length : Int)).toNat ({ level := (0 : Int), parts := (0#32) } : Label)), ([] : List Int))) (n := w.length) (fun j => ((run c t w j).kn, (run c t w j).fr, (run c t w j).ms, (run c t w j).cs)) rfl rfl (fun j nx hj => by
    unfold mark_Play_b502
    dsimp only
    rw [geti_d dDeed hj, Option.bind_some]
    have ho := run_ok c t w j
    obtain ⟨e1, e2⟩ := do_eq (w[j]?.getD dDeed) ho
    change (mark_Play_c1 (w[j]?.getD dDeed) _ _ _ _).bind _ = _
    rw [e1, Option.bind_some]
    dsimp only
    rw [decide_eq_true (by have := ho.cs; simp only [List.length_cons, List.length_nil]; omega), cond_true]
    rw [← e2]
    rfl)]
  rfl

theorem below_eq (a b : Label) : syllogistref_Below a b = some (under a b) := by
  unfold syllogistref_Below syllogistref_In under
  simp only [Option.isSome_some, Bool.or_true, cond_true, Option.getD_some]
  rw [← andn_or]
theorem both_eq (a b : Label) : syllogistref_Both a b = some (both a b) := by
  unfold syllogistref_Both syllogistref_Both_k8 both
  cases h : decide (a.level < b.level) with
  | true => rw [cond_true, if_pos (by have := of_decide_eq_true h; omega)]
  | false => rw [cond_false, if_neg (by have := of_decide_eq_false h; omega)]
theorem common_some (a b : Label) : ∃ r, syllogistref_Common a b = some r := by
  unfold syllogistref_Common syllogistref_Common_k8
  cases decide (a.level > b.level) <;> exact ⟨_, rfl⟩
theorem set_in {α : Type} {xs : List α} {i : Int} {y : α} (h0 : 0 ≤ i) (h : i < xs.length) : geti (xs.set i.toNat y) i = some y := by
  rw [geti_int h0 (by rw [List.length_set]; exact h)]
  simp

theorem ref_step {c t : List Label} {s : LS} {j : Nat} (d : Deed) (h : Ok c t s j) (hj : j ≤ 1000) (w : List Deed) (i : Int) (hw : geti w i = some d) (nx : (List Wd × List Wd × List Label × List Int) → Option Marked) :
    syllogistref_Mark_b70 c t w true i s.kn s.fr s.ms s.cs nx = nx ((step c t d s).kn, (step c t d s).fr, (step c t d s).ms, (step c t d s).cs) := by
  obtain ⟨h1, h2, h3, h4⟩ := h
  have hr : ∀ k : Int, decide (s.cs.length + ([k] : List Int).length ≤ 17592186044416) = true := fun k => decide_eq_true (by simp only [List.length_cons, List.length_nil]; omega)
  have h84 : ∀ e a b z, syllogistref_Mark_k84 s.cs nx e a b z = nx (a, b, z, s.cs ++ [e]) := fun e a b z => by unfold syllogistref_Mark_k84; rw [hr, cond_true]
  unfold syllogistref_Mark_b70 step say
  rw [hw, Option.bind_some]
  cases hk : kbad d with
  | true =>
    unfold kbad at hk
    rw [hk, cond_true, cond_true, h84]
  | false =>
    have hk' := hk
    unfold kbad at hk'
    rw [hk', cond_false, cond_false]
    cases ha : abad c t d with
    | true =>
      unfold abad at ha
      simp only [ha, cond_true, h84]
    | false =>
      have ha' := ha
      unfold abad at ha'
      simp only [ha', cond_false]
      simp only [Bool.or_eq_false_iff, decide_eq_false_iff_not] at ha' hk'
      have hi0 : 0 ≤ d.by_ := by omega
      have hi1 : d.by_ < c.length := by omega
      have ec := at_in dL hi0 hi1
      have em := at_in (xs := s.ms) dL hi0 (by omega)
      have ek := at_in (xs := s.kn) 0#32 hi0 (by omega)
      cases e3 : d.kind == 3 with
      | true =>
        have es := set_in (xs := s.ms) (y := c[d.by_.toNat]?.getD dL) hi0 (by omega)
        simp only [cond_true, ec, em, ek, es, Option.bind_some, h84, List.set_set]
        rfl
      | false =>
        have e3' : d.kind ≠ 3 := by simpa using e3
        have hne : (d.kind != 3) = true := by simpa using e3'
        rw [hne, Bool.true_and, Bool.or_eq_false_iff, decide_eq_false_iff_not, decide_eq_false_iff_not] at ha'
        have ht := at_in (xs := t) dL (i := d.to) (by omega) (by omega)
        have hfr := at_in (xs := s.fr) 0#32 (i := d.to) (by omega) (by omega)
        cases e1 : d.kind == 1 with
        | true =>
          unfold syllogistref_Mark_k110
          obtain ⟨r, er⟩ := common_some (s.ms[d.by_.toNat]?.getD dL) (t[d.to.toNat]?.getD dL)
          simp only [cond_true, cond_false, ec, em, ek, ht, hfr, er, Option.bind_some, both_eq, below_eq, Option.isSome_some, Bool.or_true, Option.getD_some, Bool.true_and, h84]
          cases under (both (s.ms[d.by_.toNat]?.getD dL) (t[d.to.toNat]?.getD dL)) (c[d.by_.toNat]?.getD dL) <;> rfl
        | false =>
          unfold syllogistref_Mark_k133
          simp only [cond_true, cond_false, ec, em, ek, ht, hfr, Option.bind_some, below_eq, h84]
          cases under (s.ms[d.by_.toNat]?.getD dL) (t[d.to.toNat]?.getD dL) <;> rfl

theorem mark_eq (c t : List Label) (w : List Deed) (hm : mchk c t w.length = 0) : syllogistref_Mark c t w true = some { codes := (run c t w w.length).cs, marks := (run c t w w.length).ms, src := (run c t w w.length).fr } := by
  have hb : big c t w.length = false := by
    cases h : big c t w.length with
    | false => rfl
    | true => unfold mchk at hm; rw [h] at hm; cases hm
  unfold big at hb
  simp only [Bool.or_eq_false_iff, decide_eq_false_iff_not] at hb
  unfold syllogistref_Mark
  rw [for_apps (n := c.length) (fun j => [dL]) rfl (fun j s nx hj hs => by
    unfold syllogistref_Mark_b156 syllogistref_Mark_k165
    have : s.length = j := by rw [hs]; exact apps_one_len
    rw [geti_at hj, Option.bind_some, cond_true, decide_eq_true (by simp only [List.length_cons, List.length_nil]; omega), cond_true]; rfl)]
  unfold syllogistref_Mark_k19
  rw [for_apps (n := t.length) (fun j => [1#32 <<< j]) rfl (fun j s nx hj hs => by
    unfold syllogistref_Mark_b147
    have : s.length = j := by rw [hs]; exact apps_one_len
    rw [decide_eq_true (by simp only [List.length_cons, List.length_nil]; omega), cond_true, ofInt64 (by omega)])]
  unfold syllogistref_Mark_k29
  rw [decide_eq_true (by omega), cond_true]
  have e0 : (apps c.length fun _ => [dL]) = List.replicate c.length dL := (tab_rep (d := dL)).symm
  rw [e0]
  rw [for_rec (s := (((List.replicate ((c.length : Int)).toNat (0#32))), (apps t.length fun j => [1#32 <<< j]), List.replicate c.length dL, ([] : List Int))) (n := w.length) (fun j => ((run c t w j).kn, (run c t w j).fr, (run c t w j).ms, (run c t w j).cs)) rfl rfl (fun j nx hj => by
    dsimp only
    rw [ref_step (w[j]?.getD dDeed) (run_ok c t w j) (by omega) w j (geti_d dDeed hj)]
    rfl)]
  rfl

theorem codes_rf (a : List Int) : syllogistref_Codes a a = some true := by
  unfold syllogistref_Codes syllogistref_Codes_b7 syllogistref_Codes_k3
  rw [lists_eq a a, decide_eq_true rfl]
theorem words_rf (a : List Wd) : syllogistref_Words a a = some true := by
  unfold syllogistref_Words syllogistref_Words_b7 syllogistref_Words_k3
  rw [lists_eq a a, decide_eq_true rfl]
theorem labels_rf (a : List Label) : syllogistref_Labels a a = some true := by
  unfold syllogistref_Labels
  rw [bne_self_eq_false, cond_false, for_out (n := a.length) (fun _ => false) (some false) rfl (fun j nx hj => by
    unfold syllogistref_Labels_b7
    rw [geti_at hj, Option.bind_some, Option.bind_some]
    simp), anyN_false.2 fun _ _ => rfl, cond_false]
  rfl

theorem markPlays_true (c t : List Label) (w : List Deed) : syllogistlaw_MarkPlays c t w = some true := by
  unfold syllogistlaw_MarkPlays syllogistlaw_MarkPlays_k32
  rw [mcheck_eq]
  by_cases hm : mchk c t w.length = 0
  · rw [play_eq c t w hm, mark_eq c t w hm, hm]
    simp [codes_rf, words_rf, labels_rf]
  · have h3 : (mchk c t w.length != 0) = true := by simpa using hm
    have h4 : (mchk c t w.length == 0) = false := by simpa using hm
    have hp : mark_Play c t w = some ({ codes := [], marks := [], src := [] }, mchk c t w.length) := by
      unfold mark_Play
      rw [wrong_eq, Option.bind_some, h3]; rfl
    rw [hp]
    simp [h4, codes_rf, words_rf, labels_rf]
end Go.Proofs.Ytcihfhfolofomaa.Sy
