/- The path of a leaf: the plain law; no program in sight. -/
import Derived.Test.YthndckcjjhdbmaaM3
namespace Go.Proofs.Ythndckcjjhdbmaa.Sy
set_option linter.unusedVariables false

theorem rev_eq (s : List Int) (hs : s.length ≤ 100000) {fuel : Nat} (hf : s.length < fuel) : slices_Reverse_Sintint fuel s = some s.reverse := by
  unfold slices_Reverse_Sintint
  refine whileK_q (Q := fun o => o = some s.reverse) (fun (z : Int × Int × List Int) => ∃ t : Nat, z.1 = t ∧ z.2.1 = (s.length : Int) - 1 - t ∧ 2 * t ≤ s.length ∧ z.2.2.length = s.length ∧ ∀ q : Nat, q < s.length → z.2.2[q]? = if q < t ∨ s.length ≤ q + t then s[s.length - 1 - q]? else s[q]?) (fun z => (z.2.1 + 1).toNat) (fun z nx hI hnx => ?_) fuel _ ⟨0, rfl, by simp only; rw [w64_id (by omega) (by omega)]; omega, by omega, rfl, fun q hq => by simp only; rw [if_neg (by omega)]⟩ (by simp only; rw [w64_id (by omega) (by omega)]; omega)
  obtain ⟨i, j, l⟩ := z
  obtain ⟨t, rfl, hj, ht, hl, hq⟩ := hI
  simp only at hj hl hq hnx ⊢
  unfold slices_Reverse_Sintint_b10
  by_cases hlt : (t : Int) < j
  · obtain ⟨jn, rfl⟩ : ∃ n : Nat, j = n := ⟨j.toNat, by omega⟩
    have h1 : t < l.length := by omega
    have h2 : jn < l.length := by omega
    rw [decide_eq_true hlt, cond_true, geti_at h2, Option.bind_some, geti_at h1, Option.bind_some, Int.toNat_natCast, Int.toNat_natCast, geti_at (by rw [List.length_set]; exact h2), Option.bind_some, w64_id (by omega) (by omega), w64_id (by omega) (by omega)]
    refine hnx _ ⟨t + 1, by simp, by simp only; omega, by omega, by simp [hl], fun q hqs => ?_⟩ (by simp only; omega)
    simp only
    have e1 := hq t (by omega)
    have e2 := hq jn (by omega)
    rw [if_neg (by omega), List.getElem?_eq_getElem h1] at e1
    rw [if_neg (by omega), List.getElem?_eq_getElem h2] at e2
    rw [List.getElem?_set]
    by_cases ej : jn = q
    · subst ej
      rw [if_pos rfl, if_pos (by rw [List.length_set]; exact h2), if_pos (by omega), e1]
      congr 1; omega
    · rw [if_neg ej, List.getElem?_set]
      by_cases et : t = q
      · subst et
        rw [if_pos rfl, if_pos h1, if_pos (by omega), e2]
        congr 1; omega
      · rw [if_neg et, hq q hqs]
        by_cases hc : q < t ∨ s.length ≤ q + t
        · rw [if_pos hc, if_pos (by omega)]
        · rw [if_neg hc, if_neg (by omega)]
  · rw [decide_eq_false hlt, cond_false]
    unfold slices_Reverse_Sintint_k8
    congr 1
    refine List.ext_getElem? fun q => ?_
    by_cases hqs : q < s.length
    · rw [hq q hqs, List.getElem?_reverse hqs]
      by_cases hc : q < t ∨ s.length ≤ q + t
      · rw [if_pos hc]
      · rw [if_neg hc]; congr 1; omega
    · rw [List.getElem?_eq_none (by omega), List.getElem?_eq_none (by simp; omega)]

theorem index_eq (l : List Int) (x : Int) (p : Nat) (hp : l[p]? = some x) (hu : ∀ q, l[q]? = some x → q = p) : slices_Index_Sintint l x = some (p : Int) := by
  unfold slices_Index_Sintint
  have hpl : p < l.length := (List.getElem?_eq_some_iff.1 hp).1
  rcases for_find (R := Int) (σ := Unit) (body := fun i s nx_ => slices_Index_Sintint_b7 l x i nx_) (k := fun _ => slices_Index_Sintint_k3) (fun _ => ()) (fun j => x == l[j]?.getD 0) (fun j => some (j : Int)) (b := (l.length : Int)) (n := l.length) rfl (s := ()) rfl (fun j nx hj => by
    unfold slices_Index_Sintint_b7
    rw [geti_d 0 hj, Option.bind_some]) with ⟨j, hj, he, _, hr⟩ | ⟨hn, hr⟩
  · rw [hr]
    have : j = p := hu j (by rw [List.getElem?_eq_getElem hj] at he ⊢; rw [beq_iff_eq] at he; simpa using he.symm)
    rw [this]
  · have := hn p hpl
    rw [hp] at this
    simp at this

theorem path_eq {l : List Leaf} (h : POk l) (who : Label) {F : Nat} (hF : 100 < F) : ∀ (m k : Nat), k < m → k < l.length → so l who k = true → ∃ q : List Int, (∀ fuel, k + 2 ≤ fuel → syllogistref_PathOf fuel l who (k : Int) = some q) ∧ q.length ≤ k + 1 ∧
    ∀ f (path : List Int), k + 2 ≤ f → path.length + k ≤ 60 → whileK (σ := Int × (List Int)) (fun s nx_ => place_Path_b22 l who F s.1 s.2 nx_) f ((k : Int), path) = some ((path ++ q.reverse).reverse, 0) := by
  have h40 := h.len
  intro m
  induction m with
  | zero => intro k hk; omega
  | succ m ih =>
    intro k hkm hk hs
    have hd : geti l (k : Int) = some (lf l k) := geti_d _ hk
    obtain ⟨u1, u2⟩ := h.up0 k hk
    rw [← show lf l k = l[k] from getd_at _ hk] at u1 u2
    have hup : ∃ q : List Int, (∀ fuel, k + 1 ≤ fuel → syllogistref_PathOf fuel l who (lf l k).up = some q) ∧ q.length ≤ k ∧
        ∀ f (path : List Int), k + 1 ≤ f → path.length ≤ 61 - k → whileK (σ := Int × (List Int)) (fun s nx_ => place_Path_b22 l who F s.1 s.2 nx_) f ((lf l k).up, path) = some ((path ++ q.reverse).reverse, 0) := by
      by_cases hu : (lf l k).up = -1
      · refine ⟨[], fun fuel hf => ?_, by simp, fun f path hf hp => ?_⟩
        · obtain ⟨f', rfl⟩ : ∃ f, fuel = f + 1 := ⟨fuel - 1, by omega⟩
          show syllogistref_PathOf_s (syllogistref_PathOf f') l who (lf l k).up = _
          unfold syllogistref_PathOf_s
          rw [decide_eq_true (by omega), cond_true]
        · obtain ⟨f', rfl⟩ : ∃ f', f = f' + 1 := ⟨f - 1, by omega⟩
          show place_Path_b22 l who F (lf l k).up path _ = _
          unfold place_Path_b22
          rw [decide_eq_false (by omega), cond_false]
          unfold place_Path_k18
          rw [rev_eq _ (by omega) (by omega), Option.bind_some, List.reverse_nil, List.append_nil]
      · obtain ⟨j, hj⟩ : ∃ j : Nat, (lf l k).up = j := ⟨(lf l k).up.toNat, by omega⟩
        obtain ⟨sj, hjk⟩ := so_up h hk hj hs
        obtain ⟨q, e1, e2, e3⟩ := ih j (by omega) (by omega) sj
        rw [hj]
        exact ⟨q, fun fuel hf => e1 fuel (by omega), by omega, fun f path hf hp => e3 f path (by omega) (by omega)⟩
    obtain ⟨q, e1, e2, e3⟩ := hup
    have hsib : sib l who (lf l k).up k = true := by unfold sib; rw [hs]; simp
    have hck := cntN_le (n := k) (p := sib l who (lf l k).up)
    refine ⟨q ++ [(cntN k (sib l who (lf l k).up) : Int)], fun fuel hf => ?_, by simp; omega, fun f path hf hp => ?_⟩
    · obtain ⟨fuel, rfl⟩ : ∃ f, fuel = f + 1 := ⟨fuel - 1, by omega⟩
      show syllogistref_PathOf_s (syllogistref_PathOf fuel) l who (k : Int) = _
      unfold syllogistref_PathOf_s
      rw [decide_eq_false (by omega), cond_false, decide_eq_true (by omega), cond_true]
      rw [for_cnt (n := k) (sib l who (lf l k).up) rfl (by omega) (fun i s nx hi => by
        unfold syllogistref_PathOf_b26
        rw [show geti l (i : Int) = some (lf l i) from geti_d _ (by omega), Option.bind_some, hd, Option.bind_some]
        have hb : syllogistref_Below (lf l i).label { level := who.level, parts := who.parts } = some (so l who i) := below_eq _ _
        rw [hb]
        simp only [Option.isSome_some, Bool.or_true, cond_true, Option.getD_some]
        rw [cond_nx]
        rfl)]
      unfold syllogistref_PathOf_k8
      have e1' : syllogistref_PathOf fuel l { level := who.level, parts := who.parts } (lf l k).up = some q := e1 fuel (by omega)
      rw [hd, Option.bind_some, e1', Option.bind_some, decide_eq_true (by simp only [List.length_cons, List.length_nil]; omega), cond_true]
    · obtain ⟨f', rfl⟩ : ∃ f', f = f' + 1 := ⟨f - 1, by omega⟩
      have hb : place_Below l { level := who.level, parts := who.parts } (lf l k).up = _ := belowl_eq h who (lf l k).up
      have hix : slices_Index_Sintint (pick l.length (sib l who (lf l k).up)) (k : Int) = some (cntN k (sib l who (lf l k).up) : Int) := index_eq _ _ _ (pick_get.2 ⟨k, hk, rfl, hsib, rfl⟩) fun y hy => by
        obtain ⟨j, _, ej, _, hc⟩ := pick_get.1 hy
        have : k = j := by omega
        subst this; exact hc.symm
      have step : ∀ nx, place_Path_b22 l who F (k : Int) path nx = nx ((lf l k).up, path ++ [(cntN k (sib l who (lf l k).up) : Int)]) := fun nx => by
        unfold place_Path_b22
        rw [decide_eq_true (by omega), cond_true, hd, Option.bind_some, hb, Option.bind_some, hix, Option.bind_some, decide_eq_true (by simp only [List.length_cons, List.length_nil]; omega), cond_true, Option.bind_some]
      refine (step _).trans ((e3 f' (path ++ [(cntN k (sib l who (lf l k).up) : Int)]) (by omega) (by simp; omega)).trans ?_)
      simp

theorem placePaths_true (fuel : Nat) (l : List Leaf) (who : Label) (k : Int) (hf : 100 < fuel := by decide) : syllogistlaw_PlacePaths fuel l who k = some true := by
  unfold syllogistlaw_PlacePaths
  obtain ⟨r, e1, e2, h⟩ := pcheck l
  have hpc : syllogistlaw_pageCode l { level := who.level, parts := who.parts } = _ := pcode_eq who e2
  rw [hpc]
  have hwr : place_wrong l { level := who.level, parts := who.parts } = some (if r = 0 then lcode who else r) := by
    unfold place_wrong
    rw [e1, Option.bind_some]
    by_cases hr : r = 0
    · subst hr
      have : label_Check { level := who.level, parts := who.parts } = some (lcode who) := lcheck_eq who
      rw [if_pos rfl]
      simp only [bne_self_eq_false, cond_false]
      rw [this, Option.bind_some]
    · have : (r != 0) = true := by simpa using hr
      rw [if_neg hr, this, cond_true]
  unfold place_Path
  have hwr' : place_wrong l { level := ({ level := who.level, parts := who.parts } : Label).level, parts := ({ level := who.level, parts := who.parts } : Label).parts } = _ := hwr
  rw [hwr']
  simp only [Option.bind_some]
  generalize hc : (if r = 0 then lcode who else r) = c
  by_cases h0 : c = 0
  · subst h0
    have hr : r = 0 := by
      by_cases hr : r = 0
      · exact hr
      · rw [if_neg hr] at hc; exact absurd hc hr
    have hP := h hr
    have h40 := hP.len
    simp only [bne_self_eq_false, cond_false, beq_self_eq_true, Bool.true_and]
    cases hk : ((decide (k < (0 : Int))) || (decide (k ≥ (l.length : Int)))) with
    | true =>
      simp only [cond_true, Option.bind_some]
      unfold syllogistlaw_PlacePaths_k10 syllogistlaw_PlacePaths_k15
      simp
    | false =>
      rw [Bool.or_eq_false_iff, decide_eq_false_iff_not, decide_eq_false_iff_not] at hk
      obtain ⟨j, rfl⟩ : ∃ j : Nat, k = j := ⟨k.toNat, by omega⟩
      have hj : j < l.length := by omega
      have hd : geti l (j : Int) = some (lf l j) := geti_d _ hj
      have hl : ∀ w : Label, label_Least (lf l j).label w = some (lund (lf l j).label w) := fun w => least_eq _ _
      have hb : syllogistref_Below (lf l j).label { level := who.level, parts := who.parts } = some (so l who j) := below_eq _ _
      simp only [cond_false]
      rw [hd, Option.bind_some, hl, Option.bind_some, show lund (lf l j).label ({ level := ({ level := who.level, parts := who.parts } : Label).level, parts := ({ level := who.level, parts := who.parts } : Label).parts } : Label) = so l who j from rfl]
      cases hs : so l who j with
      | false =>
        simp only [Bool.not_false, cond_true, Option.bind_some]
        unfold syllogistlaw_PlacePaths_k10
        rw [hd]
        simp only [Option.getD_some]
        rw [hb, hs]
        unfold syllogistlaw_PlacePaths_k15
        simp
      | true =>
        obtain ⟨q, p1, p2, p3⟩ := path_eq hP who hf (j + 1) j (by omega) hj hs
        have hrun : whileK (σ := Int × (List Int)) (fun s nx_ => place_Path_b22 l { level := who.level, parts := who.parts } fuel s.1 s.2 nx_) fuel ((j : Int), []) = _ := p3 fuel [] (by omega) (by simp; omega)
        have hpo : syllogistref_PathOf fuel l { level := who.level, parts := who.parts } (j : Int) = some q := p1 fuel (by omega)
        simp only [Bool.not_true, cond_false]
        rw [hrun, Option.bind_some, List.nil_append, List.reverse_reverse]
        unfold syllogistlaw_PlacePaths_k10
        rw [hd]
        simp only [Option.getD_some]
        rw [hb, hs]
        unfold syllogistlaw_PlacePaths_k15
        rw [hpo]
        simp only [Option.bind_some, ints_eq]
        simp
  · have hb : (c != 0) = true := by simpa using h0
    have hb' : (c == 0) = false := by simpa using h0
    simp only [hb, hb', cond_true, Bool.false_and, cond_false, Option.bind_some]
    unfold syllogistlaw_PlacePaths_k10 syllogistlaw_PlacePaths_k15
    simp [hb, hb']
end Go.Proofs.Ythndckcjjhdbmaa.Sy
