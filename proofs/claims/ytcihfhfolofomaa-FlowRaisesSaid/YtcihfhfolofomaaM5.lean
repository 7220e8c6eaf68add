/- The lowest labels by which all lines are clean: the plain law; no program in sight. -/
import Derived.Test.YtcihfhfolofomaaM4
namespace Go.Proofs.Ytcihfhfolofomaa.Sy
set_option linter.unusedVariables false

/-! ### How far labels may rise -/
def bitL (a : Label) (k : Nat) : Bool := if k < 3 then decide (a.level > (k : Int)) else a.parts.getLsbD (k - 3)
def rk (ls : List Label) : Nat := cntN (8 * 6) fun i => bitL (at_ ls (i / 8)) (i % 8)
theorem bit_mono {a b : Label} (h : le a b) (k : Nat) (hb : bitL a k = true) : bitL b k = true := by
  unfold bitL at hb ⊢
  by_cases hk : k < 3
  · rw [if_pos hk, decide_eq_true_eq] at hb ⊢
    have := h.1
    omega
  · rw [if_neg hk] at hb ⊢
    exact h.2 _ hb
theorem bit_ne {a b : Label} (ha : okl a) (hb : okl b) (h : ¬le a b) : ∃ k, k < 8 ∧ bitL a k = true ∧ bitL b k = false := by
  apply Classical.byContradiction
  intro hn
  have key : ∀ k, k < 8 → bitL a k = true → bitL b k = true := fun k hk hak => by
    cases hbk : bitL b k with
    | true => rfl
    | false => exact absurd ⟨k, hk, hak, hbk⟩ hn
  refine h ⟨?_, fun i hi => ?_⟩
  · apply Classical.byContradiction
    intro hl
    obtain ⟨b0, b3, _⟩ := hb
    obtain ⟨a0, a3, _⟩ := ha
    have := key b.level.toNat (by omega) (by
      unfold bitL
      rw [if_pos (by omega), decide_eq_true_eq]; omega)
    unfold bitL at this
    rw [if_pos (by omega), decide_eq_true_eq] at this
    omega
  · have h5 := ha.2.2 i hi
    have := key (i + 3) (by omega) (by
      unfold bitL
      rw [if_neg (by omega), Nat.add_sub_cancel]; exact hi)
    unfold bitL at this
    rwa [if_neg (by omega), Nat.add_sub_cancel] at this
theorem rk_le (ls : List Label) : rk ls ≤ 48 := cntN_le
theorem rk_lt {n : Int} (n6 : n ≤ 6) {a b : List Label} (ha : VL n a) (hb : VL n b) (h : LE a b) {i : Nat} (hi : ¬le (at_ b i) (at_ a i)) : rk a < rk b := by
  obtain ⟨k, hk, h1, h2⟩ := bit_ne (hb.ok i) (ha.ok i) hi
  have hlt : i < 6 := by
    apply Classical.byContradiction
    intro hn
    have : at_ b i = zL := by
      unfold at_
      rw [List.getElem?_eq_none (by have := hb.1; omega)]; rfl
    rw [this] at hi
    have := ha.ok i
    exact hi ⟨this.1, sb_zero _⟩
  unfold rk
  have e1 : (i * 8 + k) / 8 = i := by omega
  have e2 : (i * 8 + k) % 8 = k := by omega
  refine cntN_lt (i := i * 8 + k) (fun j _ hj => bit_mono (h _) _ hj) (by omega) ?_ ?_
  · rw [e1, e2]; exact h2
  · rw [e1, e2]; exact h1

/-! ### What is least -/
def Sol (n : Int) (l : List Line) (ls S : List Label) : Prop := VL n S ∧ LE ls S ∧ ∀ D ∈ nd 4 l S zL, met D S
def Lst (n : Int) (l : List Line) (ls S : List Label) : Prop := Sol n l ls S ∧ ∀ T, Sol n l ls T → LE S T
theorem LE.as {n : Int} {a b : List Label} (ha : VL n a) (hb : VL n b) (h : LE a b) (k : LE b a) : a = b := by
  have hl : a.length = b.length := by have := ha.1; have := hb.1; omega
  refine List.ext_getElem hl fun i h1 h2 => ?_
  have e := le_as (h i) (k i)
  unfold at_ at e
  rwa [getd_at _ h1, getd_at _ h2] at e
theorem Lst.eq {n : Int} {l : List Line} {ls S T : List Label} (h : Lst n l ls S) (k : Lst n l ls T) : S = T := LE.as h.1.1 k.1.1 (h.2 _ k.1) (k.2 _ h.1)
/-- On the way. -/
def Way (n : Int) (l : List Line) (ls cur : List Label) : Prop := VL n cur ∧ LE ls cur ∧ ∀ T, Sol n l ls T → LE cur T
theorem raise_lst {n : Int} (n6 : n ≤ 6) {l : List Line} (hok : OkL n 4 l) {ls : List Label} (hv : VL n ls) {f : Nat} (hf : 100 < f) : ∃ S, Lst n l ls S ∧ whileK (fun s nx_ => flow_Raise_b15 l f s nx_) f ls = some (S, 0) := by
  refine whileK_q (Q := fun o => ∃ S, Lst n l ls S ∧ o = some (S, 0)) (fun cur => Way n l ls cur) (fun cur => 48 - rk cur) (fun cur nx hw hnx => ?_) f ls ⟨hv, LE.rf _, fun T hT => hT.2.1⟩ (by omega)
  obtain ⟨v, up, mn⟩ := hw
  obtain ⟨b, ls', er, hr⟩ := raise_eq n 4 f (by omega) l hok cur zL v okl_z
  unfold flow_Raise_b15
  rw [show ({ level := (0 : Int), parts := (0#32) } : Label) = zL from rfl, er, Option.bind_some]
  cases b with
  | true =>
    obtain ⟨e, hall⟩ := hr.yes rfl
    have e : ls' = cur := e
    subst e
    exact ⟨ls', ⟨⟨v, up, hall⟩, mn⟩, rfl⟩
  | false =>
    obtain ⟨_, i, hi⟩ := hr.no rfl
    refine hnx _ ⟨hr.v, up.tr hr.up, fun T hT => hr.mn T zL hT.1 (mn T hT) (le_rf _) hT.2.2⟩ ?_
    have h1 := rk_lt n6 v hr.v hr.up hi
    have h2 := rk_le ls'
    dsimp only at h1 h2 ⊢
    omega

theorem ofs_mono {d : Nat} {n : Int} {l : List Line} {a S : List Label} (h : LE a S) : ∀ {c c' : Label}, le c c' → ∀ D ∈ nd d l a c, ∃ D' ∈ nd d l S c', D'.to = D.to ∧ le D.label D'.label := by
  induction d generalizing l with
  | zero => intro c c' _ D hD; simp [nd] at hD
  | succ d ih =>
    intro c c' hc D hD
    rw [nd_succ, List.mem_flatMap] at hD
    obtain ⟨x, hx, hD⟩ := hD
    have hU := ofL_mono (i := x.a) hc h
    have lift : ∀ D', D' ∈ ndx d S c' x → D' ∈ nd (d + 1) l S c' := fun D' hD' => by rw [nd_succ, List.mem_flatMap]; exact ⟨x, hx, hD'⟩
    unfold ndx at hD lift
    cases h1 : x.kind == 1 with
    | true =>
      rw [h1, cond_true, List.mem_singleton] at hD
      subst hD
      rw [h1] at lift
      exact ⟨_, lift (mkD x.to (both (ofL x.a c' S) (ofL x.b c' S))) (by simp), rfl, both_mono hU (ofL_mono hc h)⟩
    | false =>
      cases h2 : x.kind == 2 with
      | true =>
        rw [h1, h2, cond_false, cond_true, List.mem_append] at hD
        rw [h1, h2] at lift
        rcases hD with hD | hD
        · obtain ⟨D', hD', e⟩ := ih hU D hD
          exact ⟨D', lift D' (List.mem_append_left _ hD'), e⟩
        · obtain ⟨D', hD', e⟩ := ih hU D hD
          exact ⟨D', lift D' (List.mem_append_right _ hD'), e⟩
      | false =>
        rw [h1, h2, cond_false, cond_false] at hD
        rw [h1, h2] at lift
        obtain ⟨D', hD', e⟩ := ih hU D hD
        exact ⟨D', lift D' hD', e⟩

/-- All needs of a list, one by one. -/
theorem raised_lst {n : Int} (n6 : n ≤ 6) {l : List Line} (hok : OkL n 4 l) {ls : List Label} (hv : VL n ls) {f : Nat} (hf : 100 < f) : ∃ S, Lst n l ls S ∧ syllogistref_Raised f l ls = some S := by
  unfold syllogistref_Raised
  refine whileK_q (Q := fun o => ∃ S, Lst n l ls S ∧ o = some S) (fun cur => Way n l ls cur) (fun cur => 48 - rk cur) (fun cur nx hw hnx => ?_) f ls ⟨hv, LE.rf _, fun T hT => hT.2.1⟩ (by omega)
  obtain ⟨v, up, mn⟩ := hw
  obtain ⟨b, eb, hb⟩ := clean_eq (f := f) (by omega) hok v
  unfold syllogistref_Raised_b15
  rw [eb, Option.bind_some]
  cases b with
  | true =>
    exact ⟨cur, ⟨⟨v, up, hb.1 rfl⟩, mn⟩, rfl⟩
  | false =>
    have hlen := v.1
    rw [Bool.not_false, cond_true, decide_eq_true (by simp only [List.length_nil]; omega), cond_true, List.nil_append]
    rw [show ({ level := (0 : Int), parts := (0#32) } : Label) = zL from rfl, needs_eq v 4 f (by omega) (by omega) l hok zL, Option.bind_some]
    have hin := nd_in (ls := cur) 4 l hok zL
    have hex : ∃ D ∈ nd 4 l cur zL, ¬met D cur := by
      apply Classical.byContradiction
      intro hn
      have := hb.2 fun D hD => by
        apply Classical.byContradiction
        intro hm
        exact hn ⟨D, hD, hm⟩
      cases this
    have hokD : ∀ T, VL n T → ∀ (d : Nat) (l : List Line) (c : Label), okl c → ∀ D ∈ nd d l T c, okl D.label := fun T hT d => by
      induction d with
      | zero => intro l c _ D hD; simp [nd] at hD
      | succ d ih =>
        intro l c hc D hD
        rw [nd_succ, List.mem_flatMap] at hD
        obtain ⟨x, hx, hD⟩ := hD
        have hU := ofL_ok (i := x.a) hc hT
        unfold ndx at hD
        cases h1 : x.kind == 1 with
        | true =>
          rw [h1, cond_true, List.mem_singleton] at hD
          subst hD
          exact okl_both hU (ofL_ok hc hT)
        | false =>
          cases h2 : x.kind == 2 with
          | true =>
            rw [h1, h2, cond_false, cond_true, List.mem_append] at hD
            exact hD.elim (ih _ _ hU D) (ih _ _ hU D)
          | false =>
            rw [h1, h2, cond_false, cond_false] at hD
            exact ih _ _ hU D hD
    have hokw := hokD cur v 4 l zL okl_z
    have hmin : ∀ T, Sol n l ls T → ∀ D ∈ nd 4 l cur zL, met D T := fun T hT D hD => by
      obtain ⟨D', hD', e, hle⟩ := ofs_mono (n := n) (mn T hT) (le_rf zL) D hD
      have := hT.2.2 D' hD'
      unfold met at this ⊢
      rw [e] at this
      exact le_tr hle this
    generalize hw : nd 4 l cur zL = w at hin hex hokw hmin
    refine for0_q (n := w.length) (Q := fun o => ∃ S, Lst n l ls S ∧ o = some S) (fun t s => VL n s ∧ LE cur s ∧ (∀ T, Sol n l ls T → LE s T) ∧ ∀ t', t' < t → met (w[t']?.getD dD) s) rfl cur ⟨v, LE.rf _, mn, fun t' h' => by omega⟩ (fun t s nx' ht hI hnx' => ?_) (fun s hI => ?_)
    · obtain ⟨v', up', mn', hm'⟩ := hI
      have hgl : w[t]?.getD dD = w[t] := getd_at _ ht
      have hmem := List.getElem_mem ht
      unfold syllogistref_Raised_b42
      rw [geti_at ht, Option.bind_some]
      generalize w[t] = D at hgl hmem
      obtain ⟨i0, i1⟩ := hin D hmem
      have hlt : D.to.toNat < s.length := by have := v'.1; omega
      rw [v'.geti i0 i1, Option.bind_some, rboth_eq, Option.bind_some]
      have hup : LE s (s.set D.to.toNat (both (at_ s D.to.toNat) D.label)) := fun i => by
        rw [at_set hlt]
        by_cases e : D.to.toNat = i
        · subst e; rw [if_pos rfl]; exact le_l _ _
        · rw [if_neg e]; exact le_rf _
      refine hnx' _ ⟨v'.set _ (okl_both (v'.ok _) (hokw D hmem)), up'.tr hup, fun T hT i => ?_, fun t' h' => ?_⟩
      · rw [at_set hlt]
        by_cases e : D.to.toNat = i
        · subst e; rw [if_pos rfl]; exact both_le.2 ⟨mn' T hT _, hmin T hT D hmem⟩
        · rw [if_neg e]; exact mn' T hT i
      · by_cases e : t' = t
        · subst e
          rw [hgl]
          unfold met
          rw [at_set hlt, if_pos rfl]
          exact le_r _ _
        · exact le_tr (hm' t' (by omega)) (hup _)
    · obtain ⟨v', up', mn', hm'⟩ := hI
      unfold syllogistref_Raised_k36
      refine hnx s ⟨v', up.tr up', mn'⟩ ?_
      obtain ⟨D, hD, hm⟩ := hex
      obtain ⟨t, ht, rfl⟩ := List.getElem_of_mem hD
      have := hm' t ht
      rw [getd_at _ ht] at this
      have hi : ¬le (at_ s w[t].to.toNat) (at_ cur w[t].to.toNat) := fun hh => hm (le_tr this hh)
      have h1 := rk_lt n6 v v' up' hi
      have h2 := rk_le s
      omega
theorem labels_rf (a : List Label) : syllogistref_Labels a a = some true := by
  unfold syllogistref_Labels
  rw [bne_self_eq_false, cond_false, for_out (n := a.length) (fun _ => false) (some false) rfl (fun j nx hj => by
    unfold syllogistref_Labels_b7
    rw [geti_at hj, Option.bind_some, Option.bind_some]
    simp), anyN_false.2 fun _ _ => rfl, cond_false]
  rfl

theorem flowRaises_true (fuel : Nat) (n : Int) (ls : List Label) (l : List Line) (hs : smLine l) (hf : 100 < fuel := by decide) : syllogistlaw_FlowRaises fuel n ls l = some true := by
  unfold syllogistlaw_FlowRaises flow_Raise
  obtain ⟨c, e1, e2, hc⟩ := wrong_eq fuel (by omega) n l hs
  rw [labeled_eq ls e1, code_eq ls e2]
  simp only [Option.bind_some]
  by_cases h0 : code c n ls = 0
  · obtain ⟨c0, hv⟩ := code_ok h0
    obtain ⟨n1, n6, hok⟩ := hc c0
    rw [h0]
    simp only [bne_self_eq_false, cond_false, clone_eq n6 hv, Option.bind_some]
    obtain ⟨S, hS, eS⟩ := raise_lst n6 hok hv hf
    obtain ⟨T, hT, eT⟩ := raised_lst n6 hok hv hf
    have : S = T := hS.eq hT
    subst this
    rw [eS, eT]
    simp [labels_rf]
  · have h3 : (code c n ls != 0) = true := by simpa using h0
    simp only [h3, cond_true, Option.bind_some]
    simp
end Go.Proofs.Ytcihfhfolofomaa.Sy
