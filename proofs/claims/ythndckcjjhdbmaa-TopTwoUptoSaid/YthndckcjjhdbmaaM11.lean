/- A page of many: the plain laws of hands and of the tops; no program in sight. -/
import Derived.Test.YthndckcjjhdbmaaM10
namespace Go.Proofs.Ythndckcjjhdbmaa.Sy
set_option linter.unusedVariables false

theorem pcheck_ok {l : List Leaf} (h : POk l) : page_Check l = some 0 := by
  rw [page_eq]
  have h40 := h.len
  unfold syllogistref_PageCheck
  rw [decide_eq_false (by omega), cond_false, for_out (n := l.length) (fun _ => false) none rfl (fun j nx hj => by
    unfold syllogistref_PageCheck_b7
    obtain ⟨u1, u2⟩ := h.ups j hj
    have hl := h.lab' hj
    rw [show geti l (j : Int) = some (lf l j) from geti_d _ hj, Option.bind_some, rcheck_eq, Option.bind_some]
    have hl' : lcode { level := (lf l j).label.level, parts := (lf l j).label.parts } = 0 := hl
    rw [hl', show ((0 : Int) != 0) = false from rfl, cond_false]
    have e1 : ((decide ((lf l j).up < (-1 : Int))) || (decide ((lf l j).up ≥ (j : Int)))) = false := by
      rw [Bool.or_eq_false_iff, decide_eq_false_iff_not, decide_eq_false_iff_not]; omega
    rw [e1, cond_false, below_eq]
    by_cases h0 : (lf l j).up ≥ 0
    · obtain ⟨u, e⟩ : ∃ u : Nat, (lf l j).up = u := ⟨(lf l j).up.toNat, by omega⟩
      have hu := h.und' hj e
      rw [e, decide_eq_true (show ((u : Nat) : Int) ≥ 0 by omega), show geti l (u : Int) = some (lf l u) from geti_d _ (by omega)]
      have hu' : lund (lf l u).label { level := (lf l j).label.level, parts := (lf l j).label.parts } = true := hu
      simp only [Option.getD_some, hu']
      rfl
    · rw [decide_eq_false h0]
      rfl)]
  have : anyN l.length (fun _ => false) = false := anyN_false.2 fun _ _ => rfl
  rw [this, cond_false]; rfl

/-! ### Stroke by stroke -/
noncomputable def nxt (l : List Leaf) (s : Stroke) : List Leaf := if lcode s.who = 0 ∧ (strokeF l s).2 = 0 then (strokeF l s).1 else l
noncomputable def cde (l : List Leaf) (s : Stroke) : Int := if lcode s.who = 0 then (strokeF l s).2 else lcode s.who
noncomputable def pgs (l : List Leaf) : List Stroke → List Leaf
  | [] => l
  | s :: r => pgs (nxt l s) r
noncomputable def cds (l : List Leaf) : List Stroke → List Int
  | [] => []
  | s :: r => cde l s :: cds (nxt l s) r
theorem pgs_snoc {l : List Leaf} {s : Stroke} : ∀ {r : List Stroke}, pgs l (r ++ [s]) = nxt (pgs l r) s
  | [] => rfl
  | t :: r => pgs_snoc (l := nxt l t) (r := r)
theorem cds_snoc {l : List Leaf} {s : Stroke} : ∀ {r : List Stroke}, cds l (r ++ [s]) = cds l r ++ [cde (pgs l r) s]
  | [] => rfl
  | t :: r => congrArg (cde l t :: ·) (cds_snoc (l := nxt l t) (r := r))
theorem cds_len {l : List Leaf} : ∀ {r : List Stroke}, (cds l r).length = r.length
  | [] => rfl
  | t :: r => congrArg (· + 1) (cds_len (l := nxt l t) (r := r))
theorem nxt_ok {l : List Leaf} (h : POk l) (s : Stroke) : POk (nxt l s) ∧ (nxt l s).length ≤ l.length + 1 := by
  unfold nxt
  by_cases hc : lcode s.who = 0 ∧ (strokeF l s).2 = 0
  · rw [if_pos hc]; exact stroke_ok h hc.1 hc.2
  · rw [if_neg hc]; exact ⟨h, Nat.le_succ _⟩
theorem pgs_ok {l : List Leaf} (h : POk l) : ∀ (r : List Stroke), POk (pgs l r) ∧ (pgs l r).length ≤ l.length + r.length
  | [] => ⟨h, Nat.le_refl _⟩
  | s :: r => by
    obtain ⟨h1, h2⟩ := nxt_ok h s
    obtain ⟨h3, h4⟩ := pgs_ok h1 r
    exact ⟨h3, by show (pgs (nxt l s) r).length ≤ _; rw [List.length_cons]; omega⟩
theorem pok_nil : POk [] := .of (by simp) (fun i hi => by simp at hi) (fun i hi => by simp at hi) (fun i hi => by simp at hi)

theorem take_succ' {α : Type} {xs : List α} {i : Nat} (h : i < xs.length) : xs.take (i + 1) = xs.take i ++ [xs[i]] := by
  rw [List.take_add_one, List.getElem?_eq_getElem h]; rfl

theorem play_eq {script : List Stroke} (hp : ∀ s ∈ script, s.path.length ≤ 9223372036854775807) (h30 : script.length ≤ 30) {fuel : Nat} (hf : 100 < fuel) : hands_Play fuel script = some (cds [] script, pgs [] script, 0) := by
  unfold hands_Play
  rw [decide_eq_false (by omega), cond_false]
  refine (for_rec (n := script.length) (fun i => (pgs [] (script.take i), cds [] (script.take i))) rfl (by rw [List.take_zero]; rfl) (fun i nx hi => ?_)).trans ?_
  · unfold hands_Play_b45
    have hP := (pgs_ok pok_nil (script.take i)).1
    have hc := pcheck_ok hP
    have hpl := hp script[i] (List.getElem_mem _)
    have hcl := cds_len (l := []) (r := script.take i)
    rw [List.length_take] at hcl
    simp only
    rw [geti_at hi, Option.bind_some, take_succ' hi, pgs_snoc, cds_snoc]
    unfold nxt cde
    by_cases hl : lcode script[i].who = 0
    · rw [pen_eq hP hc script[i] hl hpl hf, Option.bind_some, if_pos hl]
      by_cases h0 : (strokeF (pgs [] (script.take i)) script[i]).2 = 0
      · rw [if_pos ⟨hl, h0⟩, show ((strokeF (pgs [] (script.take i)) script[i]).2 == (0 : Int)) = true by simpa using h0, cond_true, decide_eq_true (by simp only [List.length_cons, List.length_nil]; omega), cond_true]
      · rw [if_neg (fun h => h0 h.2), show ((strokeF (pgs [] (script.take i)) script[i]).2 == (0 : Int)) = false by simpa using h0, cond_false, decide_eq_true (by simp only [List.length_cons, List.length_nil]; omega), cond_true]
    · have hpd : pen_Do fuel (pgs [] (script.take i)) script[i] = some ([], lcode script[i].who) := by
        unfold pen_Do
        have hlc : label_Check { level := script[i].who.level, parts := script[i].who.parts } = some (lcode script[i].who) := lcheck_eq script[i].who
        rw [hc, Option.bind_some, show ((0 : Int) != 0) = false from rfl, cond_false, hlc, Option.bind_some, show (lcode script[i].who != 0) = true by simpa using hl]; rfl
      rw [hpd, Option.bind_some, if_neg hl, if_neg (fun h => hl h.1), show (lcode script[i].who == (0 : Int)) = false by simpa using hl, cond_false, decide_eq_true (by simp only [List.length_cons, List.length_nil]; omega), cond_true]
  · rw [List.take_length]; rfl
theorem rstrokes_eq {script : List Stroke} (hp : ∀ s ∈ script, s.path.length ≤ 9223372036854775807) (h30 : script.length ≤ 30) {fuel : Nat} (hf : 100 < fuel) : syllogistref_Strokes fuel script = some (cds [] script, pgs [] script) := by
  unfold syllogistref_Strokes
  refine (for_rec (n := script.length) (fun i => (pgs [] (script.take i), cds [] (script.take i))) rfl (by rw [List.take_zero]; rfl) (fun i nx hi => ?_)).trans ?_
  · unfold syllogistref_Strokes_b45
    have hP := (pgs_ok pok_nil (script.take i)).1
    have hpl := hp script[i] (List.getElem_mem _)
    have hcl := cds_len (l := []) (r := script.take i)
    rw [List.length_take] at hcl
    have hlc : syllogistref_LabelCheck { level := script[i].who.level, parts := script[i].who.parts } = some (lcode script[i].who) := rcheck_eq script[i].who
    simp only
    rw [geti_at hi, Option.bind_some, hlc, Option.bind_some, take_succ' hi, pgs_snoc, cds_snoc]
    unfold nxt cde
    by_cases hl : lcode script[i].who = 0
    · rw [show (lcode script[i].who == (0 : Int)) = true by simpa using hl, cond_true, rstroke_eq hP script[i] hpl hf, Option.bind_some, if_pos hl]
      by_cases h0 : (strokeF (pgs [] (script.take i)) script[i]).2 = 0
      · rw [if_pos ⟨hl, h0⟩, show ((strokeF (pgs [] (script.take i)) script[i]).2 == (0 : Int)) = true by simpa using h0, cond_true, decide_eq_true (by simp only [List.length_cons, List.length_nil]; omega), cond_true]
      · rw [if_neg (fun h => h0 h.2), show ((strokeF (pgs [] (script.take i)) script[i]).2 == (0 : Int)) = false by simpa using h0, cond_false, decide_eq_true (by simp only [List.length_cons, List.length_nil]; omega), cond_true]
    · rw [if_neg hl, if_neg (fun h => hl h.1), show (lcode script[i].who == (0 : Int)) = false by simpa using hl, cond_false, decide_eq_true (by simp only [List.length_cons, List.length_nil]; omega), cond_true]
  · rw [List.take_length]; rfl
theorem codes_eq (a b : List Int) : syllogistref_Codes a b = some (decide (a = b)) := lists_eq a b

theorem handsPlays_true (fuel : Nat) (script : List Stroke) (hp : ∀ s ∈ script, s.path.length ≤ 9223372036854775807) (hf : 100 < fuel := by decide) : syllogistlaw_HandsPlays fuel script = some true := by
  unfold syllogistlaw_HandsPlays
  by_cases h30 : script.length ≤ 30
  · rw [play_eq hp h30 hf, Option.bind_some, decide_eq_false (by omega), cond_false, rstrokes_eq hp h30 hf, Option.bind_some]
    simp [codes_eq, leaves_eq, tru_iff.2]
  · unfold hands_Play
    rw [decide_eq_true (show (script.length : Int) > 30 by omega)]
    rfl

/-! ### What one sees -/
noncomputable def vis (who : Label) (s : Stroke) : Bool := (lcode s.who == 0) && lund s.who who
noncomputable def fcs (who : Label) : List Stroke → List Int → List Int
  | s :: r, c :: cs => if vis who s = true then c :: fcs who r cs else fcs who r cs
  | _, _ => []
theorem fcs_snoc {who : Label} {s : Stroke} {c : Int} : ∀ {r : List Stroke} {cs : List Int}, r.length = cs.length → fcs who (r ++ [s]) (cs ++ [c]) = fcs who r cs ++ (if vis who s = true then [c] else [])
  | [], [], _ => by show (if vis who s = true then c :: [] else []) = _; rfl
  | t :: r, d :: cs, h => by
    have ih := fcs_snoc (who := who) (s := s) (c := c) (r := r) (cs := cs) (by simpa using h)
    show (if vis who t = true then d :: fcs who (r ++ [s]) (cs ++ [c]) else fcs who (r ++ [s]) (cs ++ [c])) = (if vis who t = true then d :: fcs who r cs else fcs who r cs) ++ _
    rw [ih]
    by_cases hv : vis who t = true
    · rw [if_pos hv, if_pos hv]; rfl
    · rw [if_neg hv, if_neg hv]
theorem fcs_len {who : Label} : ∀ {r : List Stroke} {cs : List Int}, (fcs who r cs).length ≤ r.length
  | [], cs => by cases cs <;> exact Nat.le_refl _
  | t :: r, [] => Nat.zero_le _
  | t :: r, d :: cs => by
    have ih := fcs_len (who := who) (r := r) (cs := cs)
    show (if vis who t = true then d :: fcs who r cs else fcs who r cs).length ≤ _
    split
    · simp; omega
    · simp; omega
theorem fcs_all {who : Label} : ∀ {r : List Stroke} {cs : List Int}, r.length = cs.length → (∀ s ∈ r, vis who s = true) → fcs who r cs = cs
  | [], [], _, _ => rfl
  | t :: r, d :: cs, h, hv => by
    show (if vis who t = true then d :: fcs who r cs else fcs who r cs) = _
    rw [if_pos (hv t (by simp)), fcs_all (by simpa using h) fun s hs => hv s (by simp [hs])]

/-- The heart: what is seen goes as if those alone had been done that may be seen. -/
theorem apart {who : Label} : ∀ {script : List Stroke} {l : List Leaf}, POk l → l.length + script.length ≤ 39 → pgs (vw l who) (script.filter (vis who)) = vw (pgs l script) who ∧ cds (vw l who) (script.filter (vis who)) = fcs who script (cds l script)
  | [], l, _, _ => ⟨rfl, rfl⟩
  | s :: r, l, h, hlen => by
    rw [List.length_cons] at hlen
    obtain ⟨h1, h2⟩ := nxt_ok h s
    have ih := apart (who := who) (script := r) h1 (by omega)
    show _ = vw (pgs (nxt l s) r) who ∧ _ = (if vis who s = true then cde l s :: fcs who r (cds (nxt l s) r) else fcs who r (cds (nxt l s) r))
    by_cases hv : vis who s = true
    · rw [List.filter_cons_of_pos hv, if_pos hv]
      have hv' := hv
      unfold vis at hv'
      rw [Bool.and_eq_true, beq_iff_eq] at hv'
      obtain ⟨hl, hn⟩ := hv'
      obtain ⟨e1, e2⟩ := stroke_high h (by omega) hn
      have hc : cde (vw l who) s = cde l s := by unfold cde; rw [if_pos hl, if_pos hl, e1]
      have hx : nxt (vw l who) s = vw (nxt l s) who := by
        unfold nxt
        by_cases h0 : (strokeF l s).2 = 0
        · rw [if_pos ⟨hl, e1.trans h0⟩, if_pos ⟨hl, h0⟩, e2 h0]
        · rw [if_neg (fun h => h0 (e1.symm.trans h.2)), if_neg (fun h => h0 h.2)]
      show pgs (nxt (vw l who) s) _ = _ ∧ cde (vw l who) s :: cds (nxt (vw l who) s) _ = _
      rw [hc, hx, ih.1, ih.2]
      exact ⟨rfl, rfl⟩
    · rw [List.filter_cons_of_neg hv, if_neg hv]
      have hx : vw (nxt l s) who = vw l who := by
        unfold nxt
        by_cases h0 : lcode s.who = 0 ∧ (strokeF l s).2 = 0
        · rw [if_pos h0]
          refine stroke_low h ?_ h0.2
          unfold vis at hv
          rw [h0.1] at hv
          simpa using hv
        · rw [if_neg h0]
      rw [← hx]; exact ih

theorem vw_nil {who : Label} : vw [] who = [] := rfl
theorem least_eq' (a b : Label) : label_Least { level := a.level, parts := a.parts } { level := b.level, parts := b.parts } = some (lund a b) := rfl

theorem seen_eq {script : List Stroke} (hp : ∀ s ∈ script, s.path.length ≤ 9223372036854775807) (h30 : script.length ≤ 30) {who : Label} (hw : lcode who = 0) {fuel : Nat} (hf : 100 < fuel) :
    hands_Seen fuel script who = some (fcs who script (cds [] script), vw (pgs [] script) who, 0) := by
  have hP := (pgs_ok pok_nil script).1
  unfold hands_Seen
  have hlc : label_Check { level := who.level, parts := who.parts } = some 0 := (lcheck_eq who).trans (by rw [hw])
  rw [play_eq hp h30 hf, Option.bind_some, show ((0 : Int) != 0) = false from rfl, cond_false, hlc, Option.bind_some, show ((0 : Int) != 0) = false from rfl, cond_false]
  refine (for_rec (n := script.length) (fun i => fcs who (script.take i) ((cds [] script).take i)) rfl (by rw [List.take_zero]; rfl) (fun i nx hi => ?_)).trans ?_
  · unfold hands_Seen_b29
    have hcl := cds_len (l := []) (r := script)
    have hfl := fcs_len (who := who) (r := script.take i) (cs := (cds [] script).take i)
    rw [List.length_take] at hfl
    have hsc : label_Check { level := script[i].who.level, parts := script[i].who.parts } = some (lcode script[i].who) := lcheck_eq script[i].who
    rw [geti_at hi, Option.bind_some, hsc, Option.bind_some, least_eq']
    simp only [Option.isSome_some, Bool.or_true, cond_true, Option.getD_some]
    rw [take_succ' hi, take_succ' (show i < (cds [] script).length by omega), fcs_snoc (by rw [List.length_take, List.length_take, hcl])]
    rw [show ((lcode script[i].who == (0 : Int)) && lund script[i].who who) = vis who script[i] from rfl]
    cases vis who script[i] with
    | true => rw [cond_true, if_pos rfl, geti_at (show i < (cds [] script).length by omega), Option.bind_some, decide_eq_true (by simp only [List.length_cons, List.length_nil]; omega), cond_true]
    | false => rw [cond_false, if_neg (by simp), List.append_nil]
  · unfold hands_Seen_k21
    have hv : page_View (pgs [] script) { level := who.level, parts := who.parts } = _ := view_eq hP hw (pcheck_ok hP)
    rw [List.take_length, show script.length = (cds [] script).length from cds_len.symm, List.take_length]
    show (page_View (pgs [] script) { level := who.level, parts := who.parts }).bind _ = _
    rw [hv]; rfl
/-- Where it is not told. -/
theorem seen_bad {script : List Stroke} (hp : ∀ s ∈ script, s.path.length ≤ 9223372036854775807) {who : Label} (hb : ¬ (script.length ≤ 30 ∧ lcode who = 0)) {fuel : Nat} (hf : 100 < fuel) : hands_Seen fuel script who = some ([], [], if script.length ≤ 30 then lcode who else 1) := by
  unfold hands_Seen
  by_cases h30 : script.length ≤ 30
  · have hw : lcode who ≠ 0 := fun h => hb ⟨h30, h⟩
    have hlc : label_Check { level := who.level, parts := who.parts } = some (lcode who) := lcheck_eq who
    rw [play_eq hp h30 hf, Option.bind_some, show ((0 : Int) != 0) = false from rfl, cond_false, hlc, Option.bind_some, show (lcode who != 0) = true by simpa using hw, if_pos h30]; rfl
  · have : hands_Play fuel script = some ([], [], 1) := by
      unfold hands_Play
      rw [decide_eq_true (show (script.length : Int) > 30 by omega)]; rfl
    rw [this, if_neg h30]; rfl
theorem seen_codes {who : Label} {script : List Stroke} (h30 : script.length ≤ 30) : pgs [] (script.filter (vis who)) = vw (pgs [] script) who ∧ cds [] (script.filter (vis who)) = fcs who script (cds [] script) := by
  have := apart (who := who) (script := script) pok_nil (by simp; omega)
  rwa [vw_nil] at this
theorem vw_same {l : List Leaf} (h : POk l) {who : Label} : vw (vw l who) who = vw l who := vw_vw h (lund_refl who)
theorem bad_ne {n : Nat} {who : Label} (hb : ¬ (n ≤ 30 ∧ lcode who = 0)) : (if n ≤ 30 then lcode who else 1) ≠ 0 := by
  split
  · rename_i h; exact fun e => hb ⟨h, e⟩
  · decide
theorem own_loop {who : Label} {script : List Stroke} (h : script.length ≤ 2513169434916) {R : Type} {body : Int → List Stroke → (List Stroke → Option R) → Option R} {k : List Stroke → Option R} {b : Int} (hb : b = script.length)
    (st : ∀ (i : Nat) (hi : i < script.length) (x : List Stroke) nx, x.length ≤ i → body (i : Int) x nx = nx (x ++ (if vis who script[i] = true then [script[i]] else []))) :
    forK (σ := List Stroke) body k (b - 0).toNat 0 [] = k (script.filter (vis who)) := by
  refine (for_rec (n := script.length) (fun i => (script.take i).filter (vis who)) hb (by rw [List.take_zero]; rfl) (fun i nx hi => ?_)).trans ?_
  · have hl : ((script.take i).filter (vis who)).length ≤ i := Nat.le_trans (List.length_filter_le _ _) (by rw [List.length_take]; omega)
    rw [st i hi _ nx hl, take_succ' hi, List.filter_append]
    congr 1
    rw [List.filter_cons, List.filter_nil]
  · rw [List.take_length]
theorem below_eq' (a b : Label) : syllogistref_Below { level := a.level, parts := a.parts } { level := b.level, parts := b.parts } = some (lund a b) := below_eq a b

theorem handsSees_true (fuel : Nat) (script : List Stroke) (who : Label) (hp : ∀ s ∈ script, s.path.length ≤ 9223372036854775807) (hf : 100 < fuel := by decide) : syllogistlaw_HandsSees fuel script who = some true := by
  unfold syllogistlaw_HandsSees
  have hlc : syllogistref_LabelCheck { level := who.level, parts := who.parts } = some (lcode who) := rcheck_eq who
  rw [show ({ level := who.level, parts := who.parts } : Label) = who from rfl] at hlc ⊢
  by_cases hok : script.length ≤ 30 ∧ lcode who = 0
  · obtain ⟨h30, hw⟩ := hok
    have hP := (pgs_ok pok_nil script).1
    rw [seen_eq hp h30 hw hf, Option.bind_some, hlc, Option.bind_some, decide_eq_false (by omega), cond_false, hw]
    unfold syllogistlaw_HandsSees_k12
    rw [show ((0 : Int) != 0) = false from rfl, cond_false]
    rw [own_loop (who := who) (script := script) (by omega) rfl (fun i hi x nx hx => by
      unfold syllogistlaw_HandsSees_b50
      have hsc : syllogistref_LabelCheck { level := script[i].who.level, parts := script[i].who.parts } = some (lcode script[i].who) := rcheck_eq script[i].who
      rw [geti_at hi, Option.bind_some, hsc, Option.bind_some, below_eq']
      simp only [Option.isSome_some, Bool.or_true, cond_true, Option.getD_some]
      rw [show ((lcode script[i].who == (0 : Int)) && lund script[i].who who) = vis who script[i] from rfl]
      cases vis who script[i] with
      | true => rw [cond_true, if_pos rfl, decide_eq_true (by simp only [List.length_cons, List.length_nil]; omega), cond_true]
      | false => rw [cond_false, if_neg (by simp), List.append_nil])]
    unfold syllogistlaw_HandsSees_k29
    obtain ⟨e1, e2⟩ := seen_codes (who := who) h30
    have hfl : (script.filter (vis who)).length ≤ 30 := Nat.le_trans (List.length_filter_le _ _) h30
    rw [rstrokes_eq (fun s hs => hp s (List.mem_filter.1 hs).1) hfl hf, Option.bind_some, e1, e2]
    have hrv : syllogistref_View fuel (vw (pgs [] script) who) { level := who.level, parts := who.parts } = some (vw (vw (pgs [] script) who) who) := rview_eq (vw_ok hP who) who fuel hf
    rw [codes_eq]
    simp only [decide_true, Option.isSome_some, Bool.or_true, cond_true, Option.getD_some, beq_self_eq_true, Bool.and_self]
    rw [hrv, Option.bind_some, vw_same hP, leaves_eq, tru_iff.2 rfl]; rfl
  · rw [seen_bad hp hok hf, Option.bind_some, hlc, Option.bind_some]
    have hne := bad_ne hok
    have e : (bif decide ((script.length : Int) > 30) then syllogistlaw_HandsSees_k12 script who fuel ([], [], if script.length ≤ 30 then lcode who else 1) 1 else syllogistlaw_HandsSees_k12 script who fuel ([], [], if script.length ≤ 30 then lcode who else 1) (lcode who)) = syllogistlaw_HandsSees_k12 script who fuel ([], [], if script.length ≤ 30 then lcode who else 1) (if script.length ≤ 30 then lcode who else 1) := by
      by_cases h30 : script.length ≤ 30
      · rw [decide_eq_false (by omega), cond_false, if_pos h30]
      · rw [decide_eq_true (by omega), cond_true, if_neg h30]
    rw [e]
    unfold syllogistlaw_HandsSees_k12
    rw [show ((if script.length ≤ 30 then lcode who else 1) != 0) = true by simpa using hne, cond_true]
    simp

theorem purge_eq {who : Label} {script : List Stroke} (h : script.length ≤ 2513169434915) : syllogisttop_purge script who = some (script.filter (vis who)) := by
  unfold syllogisttop_purge
  rw [own_loop (who := who) (script := script) (by omega) rfl (fun i hi x nx hx => by
    unfold syllogisttop_purge_b24
    have hsc : syllogistref_LabelCheck { level := script[i].who.level, parts := script[i].who.parts } = some (lcode script[i].who) := rcheck_eq script[i].who
    rw [geti_at hi, Option.bind_some, hsc, Option.bind_some, below_eq']
    simp only [Option.isSome_some, Bool.or_true, cond_true, Option.getD_some]
    rw [show ((lcode script[i].who == (0 : Int)) && lund script[i].who who) = vis who script[i] from rfl]
    cases vis who script[i] with
    | true => rw [cond_true, if_pos rfl, decide_eq_true (by simp only [List.length_cons, List.length_nil]; omega), cond_true]
    | false => rw [cond_false, if_neg (by simp), List.append_nil])]
  rfl
theorem may_eq {who : Label} {script : List Stroke} : syllogisttop_may script who = some (decide (script.length ≤ 30) && (lcode who == 0)) := by
  unfold syllogisttop_may
  have hlc : syllogistref_LabelCheck { level := who.level, parts := who.parts } = some (lcode who) := rcheck_eq who
  rw [hlc]
  simp only [Option.isSome_some, Bool.or_true, cond_true, Option.getD_some]
  congr 2
  rw [Bool.eq_iff_iff, decide_eq_true_eq, decide_eq_true_eq]; omega
theorem filter_vis {who : Label} {script : List Stroke} : (script.filter (vis who)).filter (vis who) = script.filter (vis who) := by
  rw [List.filter_filter]; congr 1; funext x; exact Bool.and_self _

theorem topApart_true (fuel : Nat) (script : List Stroke) (who : Label) (hp : ∀ s ∈ script, s.path.length ≤ 9223372036854775807) (hlen : script.length ≤ 2513169434915) (hf : 100 < fuel := by decide) : syllogisttop_TopApart fuel script who = some true := by
  unfold syllogisttop_TopApart
  rw [show ({ level := who.level, parts := who.parts } : Label) = who from rfl]
  have hp' : ∀ s ∈ script.filter (vis who), s.path.length ≤ 9223372036854775807 := fun s hs => hp s (List.mem_filter.1 hs).1
  rw [purge_eq hlen, may_eq]
  simp only [Option.bind_some]
  by_cases hok : script.length ≤ 30 ∧ lcode who = 0
  · obtain ⟨h30, hw⟩ := hok
    have hP := (pgs_ok pok_nil script).1
    have hfl : (script.filter (vis who)).length ≤ 30 := Nat.le_trans (List.length_filter_le _ _) h30
    obtain ⟨e1, e2⟩ := seen_codes (who := who) h30
    have hfc : fcs who (script.filter (vis who)) (cds [] (script.filter (vis who))) = fcs who script (cds [] script) := by
      rw [fcs_all cds_len.symm fun s hs => (List.mem_filter.1 hs).2, e2]
    have hlen2 : (fcs who script (cds [] script)).length = (script.filter (vis who)).length := by rw [← e2, cds_len]
    rw [seen_eq hp h30 hw hf, Option.bind_some, seen_eq hp' hfl hw hf, Option.bind_some, hfc, e1, vw_same hP, hw, decide_eq_true h30]
    simp [codes_eq, leaves_eq, tru_iff.2, hlen2]
  · rw [seen_bad hp hok hf, Option.bind_some]
    have hmay : (decide (script.length ≤ 30) && (lcode who == 0)) = false := by
      rw [← Bool.not_eq_true, Bool.and_eq_true, decide_eq_true_eq, beq_iff_eq]; exact hok
    have hne := bad_ne hok
    have hs2 : ∃ r, hands_Seen fuel (script.filter (vis who)) who = some r := by
      by_cases hok2 : (script.filter (vis who)).length ≤ 30 ∧ lcode who = 0
      · exact ⟨_, seen_eq hp' hok2.1 hok2.2 hf⟩
      · exact ⟨_, seen_bad hp' hok2 hf⟩
    obtain ⟨r, hr⟩ := hs2
    rw [hr, Option.bind_some, hmay, Bool.not_false, cond_true]
    simp only
    rw [show ((if script.length ≤ 30 then lcode who else 1) != 0) = true by simpa using hne]

theorem topUnder_true (fuel : Nat) (script : List Stroke) (a b : Label) (hp : ∀ s ∈ script, s.path.length ≤ 9223372036854775807) (hf : 100 < fuel := by decide) : syllogisttop_TopUnder fuel script a b = some true := by
  unfold syllogisttop_TopUnder
  rw [show ({ level := a.level, parts := a.parts } : Label) = a from rfl, show ({ level := b.level, parts := b.parts } : Label) = b from rfl, may_eq, may_eq]
  simp only [Option.bind_some, Option.isSome_some, Bool.or_true, cond_true, Option.getD_some]
  by_cases hoka : script.length ≤ 30 ∧ lcode a = 0
  · by_cases hokb : script.length ≤ 30 ∧ lcode b = 0
    · obtain ⟨h30, ha⟩ := hoka
      have hb := hokb.2
      have hP := (pgs_ok pok_nil script).1
      rw [seen_eq hp h30 ha hf, seen_eq hp h30 hb hf]
      simp only [Option.bind_some, decide_eq_true h30, ha, hb, beq_self_eq_true, Bool.and_self, Bool.not_true, Bool.or_self, cond_false, bne_self_eq_false, below_eq]
      cases hab : lund a b with
      | false => simp
      | true =>
        have hv : page_View (vw (pgs [] script) b) a = some (vw (vw (pgs [] script) b) a, 0) := view_eq (vw_ok hP b) ha (pcheck_ok (vw_ok hP b))
        simp only [Bool.not_true, cond_false]
        rw [hv, Option.bind_some, vw_vw hP hab, leaves_eq]
        simp [tru_iff.2]
    · rw [seen_bad hp hokb hf]
      have hmay : (decide (script.length ≤ 30) && (lcode b == 0)) = false := by
        rw [← Bool.not_eq_true, Bool.and_eq_true, decide_eq_true_eq, beq_iff_eq]; exact hokb
      have hne := bad_ne hokb
      rw [seen_eq hp hoka.1 hoka.2 hf, hmay]
      simp only [Option.bind_some, Bool.not_false, Bool.or_true, cond_true]
      rw [show ((if script.length ≤ 30 then lcode b else 1) != 0) = true by simpa using hne, Bool.or_true]
  · rw [seen_bad hp hoka hf]
    have hmay : (decide (script.length ≤ 30) && (lcode a == 0)) = false := by
      rw [← Bool.not_eq_true, Bool.and_eq_true, decide_eq_true_eq, beq_iff_eq]; exact hoka
    have hne := bad_ne hoka
    have hs2 : ∃ r, hands_Seen fuel script b = some r := by
      by_cases hok2 : script.length ≤ 30 ∧ lcode b = 0
      · exact ⟨_, seen_eq hp hok2.1 hok2.2 hf⟩
      · exact ⟨_, seen_bad hp hok2 hf⟩
    obtain ⟨r, hr⟩ := hs2
    rw [hr, hmay]
    simp only [Option.bind_some, Bool.not_false, Bool.true_or, cond_true]
    rw [show ((if script.length ≤ 30 then lcode a else 1) != 0) = true by simpa using hne, Bool.true_or]
end Go.Proofs.Ythndckcjjhdbmaa.Sy
