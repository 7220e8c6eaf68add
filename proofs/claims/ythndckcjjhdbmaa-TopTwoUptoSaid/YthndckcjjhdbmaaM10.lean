/- What a label sees of a page does not hang on what others do: plain laws; no program in sight. -/
import Derived.Test.YthndckcjjhdbmaaM9
namespace Go.Proofs.Ythndckcjjhdbmaa.Sy
set_option linter.unusedVariables false

theorem lensStroke {m : Snap} {v : Value} {xs : List Stroke} (h : RS rStroke m v xs) : ∀ s ∈ xs, s.path.length ≤ 9223372036854775807 := fun s hs => by
  obtain ⟨i, hi, rfl⟩ := List.getElem_of_mem hs
  obtain ⟨cs, ⟨u, _, h3⟩, _⟩ := h.2.2 i hi
  exact h3.2.1

theorem lund_refl (a : Label) : lund a a = true := by
  unfold lund
  rw [Bool.and_eq_true, decide_eq_true_eq]
  exact ⟨Int.le_refl _, by rw [BitVec.and_not_self]; rfl⟩
theorem keep_all {l : List Leaf} (hu : Ups l) {p : Nat → Bool} (h : ∀ j, j < l.length → p j = true) : keep l p = l := by
  have hc : ∀ j, j ≤ l.length → cntN j p = j := fun j hj => by
    induction j with
    | zero => rfl
    | succ j ih => rw [cnt_succ, if_pos (h j (by omega)), ih (by omega)]
  refine leaf_ext (by rw [keep_len, hc _ (Nat.le_refl _)]) fun y hy => ?_
  rw [keep_len, hc _ (Nat.le_refl _)] at hy
  have hk := keep_lf (p := p) hy (h y hy)
  rw [hc y (by omega)] at hk
  rw [hk]
  have : nup p (lf l y).up = (lf l y).up := by
    obtain ⟨u1, u2⟩ := hu y hy
    by_cases h0 : (lf l y).up < 0
    · rw [nup_neg h0]; omega
    · obtain ⟨u, e⟩ : ∃ u : Nat, (lf l y).up = u := ⟨(lf l y).up.toNat, by omega⟩
      rw [e, nup_nat (h u (by omega)), hc u (by omega)]
  rw [this]

/-- What is seen. -/
def vw (l : List Leaf) (who : Label) : List Leaf := keep l (so l who)
theorem vw_ok {l : List Leaf} (h : POk l) (who : Label) : POk (vw l who) := h.keep (so_upw h who)
theorem vw_len {l : List Leaf} {who : Label} : (vw l who).length = cntN l.length (so l who) := keep_len
theorem vw_lf {l : List Leaf} {who : Label} {j : Nat} (hj : j < l.length) (hq : so l who j = true) : lf (vw l who) (cntN j (so l who)) = { up := nup (so l who) (lf l j).up, text := (lf l j).text, label := (lf l j).label } := keep_lf hj hq
theorem vw_vw {l : List Leaf} (h : POk l) {a b : Label} (hab : lund a b = true) : vw (vw l b) a = vw l a := by
  unfold vw
  rw [keep_keep h.ups.lt (p := so l a) (fun j hj hq => so_keep hj hq)]
  refine keep_congr h.ups.lt fun j hj => ?_
  cases hs : so l a j with
  | false => rw [Bool.and_false]
  | true => rw [show so l b j = true from lund_trans hs hab]; rfl

section
variable {l : List Leaf} {who w : Label}
theorem so_le (hw : lund w who = true) {j : Nat} (h : so l w j = true) : so l who j = true := lund_trans h hw
theorem upok_le (hw : lund w who = true) {u : Int} (h : UpOk l w u) : UpOk l who u := by
  rcases h with h | ⟨j, h1, h2, h3⟩
  · exact .inl h
  · exact .inr ⟨j, h1, h2, so_le hw h3⟩
theorem nup_inj {a b : Int} (ha : UpOk l who a) (hb : UpOk l who b) : (nup (so l who) a == nup (so l who) b) = (a == b) := by
  rw [Bool.eq_iff_iff, beq_iff_eq, beq_iff_eq]
  rcases ha with rfl | ⟨i, h1, rfl, h3⟩ <;> rcases hb with rfl | ⟨j, k1, rfl, k3⟩
  · exact ⟨fun _ => rfl, fun _ => rfl⟩
  · rw [nup_neg (by omega), nup_nat k3]; omega
  · rw [nup_neg (show (-1 : Int) < 0 by omega), nup_nat h3]; omega
  · rw [nup_nat h3, nup_nat k3]
    constructor
    · intro e
      rw [cnt_inj h3 k3 (by omega)]
    · intro e
      rw [show i = j by omega]
theorem up_ok (h : POk l) {j : Nat} (hj : j < l.length) (hq : so l who j = true) : UpOk l who (lf l j).up := by
  obtain ⟨u1, u2⟩ := h.ups j hj
  by_cases h0 : (lf l j).up < 0
  · exact .inl (by omega)
  · refine .inr ⟨(lf l j).up.toNat, by omega, by omega, ?_⟩
    exact so_upw h who j hj hq _ (by omega)
theorem sib_vw (h : POk l) (hw : lund w who = true) {u : Int} (hu : UpOk l who u) {j : Nat} (hj : j < l.length) (hq : so l who j = true) : sib (vw l who) w (nup (so l who) u) (cntN j (so l who)) = sib l w u j := by
  unfold sib
  rw [vw_lf hj hq, show so (vw l who) w (cntN j (so l who)) = so l w j from so_keep hj hq]
  simp only
  rw [nup_inj (up_ok h hj hq) hu]
theorem cntsib_vw (h : POk l) (hw : lund w who = true) {u : Int} (hu : UpOk l who u) {j : Nat} (hj : j ≤ l.length) : cntN (cntN j (so l who)) (sib (vw l who) w (nup (so l who) u)) = cntN j (sib l w u) := by
  rw [cnt_comp (p := sib l w u) fun i hi hq => sib_vw h hw hu (by omega) hq]
  refine cntN_congr fun i hi => ?_
  cases hs : sib l w u i with
  | false => rw [Bool.and_false]
  | true => rw [show so l who i = true from so_le hw (sib_up hs).2]; rfl
theorem kid_vw (h : POk l) (hw : lund w who = true) {u y c' : Int} (hu : UpOk l who u) : Kid (vw l who) w (nup (so l who) u) y c' ↔ ∃ c, c' = nup (so l who) c ∧ Kid l w u y c ∧ UpOk l who c := by
  constructor
  · rintro ⟨j', h1, rfl, h3, h4⟩
    rw [vw_len] at h1
    obtain ⟨j, k1, k2, rfl⟩ := cnt_ex h1
    rw [sib_vw h hw hu k1 k2] at h3
    rw [cntsib_vw h hw hu (by omega)] at h4
    exact ⟨(j : Int), (nup_nat k2).symm, ⟨j, k1, rfl, h3, h4⟩, .inr ⟨j, k1, rfl, k2⟩⟩
  · rintro ⟨c, rfl, ⟨j, h1, rfl, h3, h4⟩, _⟩
    have hq : so l who j = true := so_le hw (sib_up h3).2
    refine ⟨cntN j (so l who), by rw [vw_len]; exact (cnt_lt hq).2 h1, nup_nat hq, ?_, ?_⟩
    · rw [sib_vw h hw hu h1 hq]; exact h3
    · rw [cntsib_vw h hw hu (by omega)]; exact h4
theorem way_vw (h : POk l) (hw : lund w who = true) : ∀ {path : List Int} {u k' : Int}, UpOk l who u → (Way (vw l who) w (nup (so l who) u) path k' ↔ ∃ k, k' = nup (so l who) k ∧ Way l w u path k)
  | [], u, k', hu => by
    constructor
    · intro e; exact ⟨u, (show nup (so l who) u = k' from e).symm, rfl⟩
    · rintro ⟨k, rfl, e⟩
      rw [show u = k from e]; exact rfl
  | y :: p, u, k', hu => by
    constructor
    · rintro ⟨c', hk, hw'⟩
      obtain ⟨c, rfl, hk, hc⟩ := (kid_vw h hw hu).1 hk
      obtain ⟨k, e, hk'⟩ := (way_vw h hw hc).1 hw'
      exact ⟨k, e, c, hk, hk'⟩
    · rintro ⟨k, e, c, hk, hw'⟩
      have hc : UpOk l who c := by
        obtain ⟨j, h1, h2, h3, _⟩ := hk
        exact .inr ⟨j, h1, h2, so_le hw (sib_up h3).2⟩
      exact ⟨_, (kid_vw h hw hu).2 ⟨c, rfl, hk, hc⟩, (way_vw h hw hc).2 ⟨k, e, hw'⟩⟩
theorem fnd_vw (h : POk l) (hw : lund w who = true) (path : List Int) : fnd (vw l who) w path = (fnd l w path).map (nup (so l who)) := by
  have hv := vw_ok h who
  have hwv := fun k' => way_vw (path := path) (k' := k') h hw (.inl rfl)
  rw [nup_neg (by omega)] at hwv
  cases hf : fnd l w path with
  | none =>
    rw [fnd_none] at hf
    show _ = none
    rw [fnd_none]
    intro k' hk
    obtain ⟨k, _, hk⟩ := (hwv k').1 hk
    exact hf k hk
  | some k =>
    show _ = some (nup (so l who) k)
    rw [fnd_some hv, hwv]
    exact ⟨k, rfl, (fnd_some h).1 hf⟩
theorem own_iff {j : Nat} : own l w j = true ↔ (lf l j).label = w := by
  unfold own
  rw [Bool.and_true, Bool.and_eq_true, beq_iff_eq, beq_iff_eq]
  constructor
  · rintro ⟨h1, h2⟩
    generalize (lf l j).label = x at *
    obtain ⟨a, b⟩ := x
    obtain ⟨c, d⟩ := w
    simp only at h1 h2
    rw [h1, h2]
  · intro e; rw [e]; exact ⟨rfl, rfl⟩
theorem own_so {j : Nat} (h : own l w j = true) : so l who j = lund w who := by unfold so; rw [own_iff.1 h]
theorem own_vw {j : Nat} (hj : j < l.length) (hq : so l who j = true) : own (vw l who) w (cntN j (so l who)) = own l w j := by
  unfold own
  rw [vw_lf hj hq]
theorem cntown_vw (hw : lund w who = true) : cntN (cntN l.length (so l who)) (own (vw l who) w) = cntN l.length (own l w) := by
  rw [cnt_comp (p := own l w) fun i hi hq => own_vw hi hq]
  refine cntN_congr fun i hi => ?_
  cases hs : own l w i with
  | false => rw [Bool.and_false]
  | true => rw [own_so hs, hw]; rfl
theorem at_vw (h : POk l) (hw : lund w who = true) {u y : Int} (hu : UpOk l w u) (h0 : 0 ≤ y) (h1 : y ≤ cntN l.length (sib l w u)) : atF (vw l who) w (nup (so l who) u) y = cntN (atF l w u y) (so l who) := by
  have hv := vw_ok h who
  have huw := upok_le hw hu
  have hcs := cntsib_vw (j := l.length) h hw huw (Nat.le_refl _)
  have huv : UpOk (vw l who) w (nup (so l who) u) := by
    rcases hu with rfl | ⟨j, k1, rfl, k3⟩
    · exact .inl (nup_neg (by omega))
    · have hq := so_le hw k3
      refine .inr ⟨cntN j (so l who), by rw [vw_len]; exact (cnt_lt hq).2 k1, nup_nat hq, ?_⟩
      rw [show so (vw l who) w (cntN j (so l who)) = so l w j from so_keep k1 hq]; exact k3
  obtain ⟨_, ha⟩ := at_spec h.ups hu h0 h1
  obtain ⟨_, hb⟩ := at_spec hv.ups huv h0 (by rw [vw_len, hcs]; exact h1)
  rcases ha with ⟨hy, he⟩ | ⟨hy, j, hj, hs, hc, he, _⟩
  · rcases hb with ⟨_, he'⟩ | ⟨hy', _⟩
    · rcases hu with rfl | ⟨j, k1, rfl, k3⟩
      · rw [nup_neg (by omega)] at he' ⊢
        have e1 : atF l w (-1) y = 0 := by omega
        rw [e1]
        have : cntN 0 (so l who) = 0 := rfl
        omega
      · have hq := so_le hw k3
        rw [nup_nat hq] at he' ⊢
        have e1 : atF l w (j : Int) y = j + 1 := by omega
        rw [e1, cnt_succ, if_pos hq]; omega
    · omega
  · rcases hb with ⟨hy', _⟩ | ⟨_, j', hj', hs', hc', he', _⟩
    · omega
    · have hq := so_le hw (sib_up hs).2
      have h2 := sib_vw h hw huw hj hq
      have h3 := cntsib_vw (j := j) h hw huw (by omega)
      have : j' = cntN j (so l who) := cnt_inj hs' (by rw [h2]; exact hs) (by omega)
      rw [he, he', this, cnt_succ, if_pos hq]
theorem gone_vw (h : POk l) {k : Nat} (hqk : so l who k = true) : ∀ (m i : Nat), i < m → i < l.length → so l who i = true → gone (vw l who) (cntN k (so l who)) (cntN i (so l who)) = gone l k i
  | 0, i, hm, _, _ => by omega
  | m + 1, i, hm, hi, hq => by
    have hv := vw_ok h who
    have hlf := vw_lf hi hq
    have hci : cntN i (so l who) < (vw l who).length := by rw [vw_len]; exact (cnt_lt hq).2 hi
    have hbeq : (cntN i (so l who) == cntN k (so l who)) = (i == k) := by
      rw [Bool.eq_iff_iff, beq_iff_eq, beq_iff_eq]
      exact ⟨fun e => cnt_inj hq hqk e, fun e => by rw [e]⟩
    obtain ⟨u1, u2⟩ := h.ups i hi
    by_cases h0 : (lf l i).up < 0
    · rw [gone_neg h.ups hi h0, gone_neg hv.ups hci (by rw [hlf]; simp only; rw [nup_neg h0]; omega), hbeq]
    · obtain ⟨u, e⟩ : ∃ u : Nat, (lf l i).up = u := ⟨(lf l i).up.toNat, by omega⟩
      have hqu := so_upw h who i hi hq u e
      rw [gone_nat h.ups hi e, gone_nat hv.ups hci (j := cntN u (so l who)) (by rw [hlf]; simp only; rw [e, nup_nat hqu]), hbeq, gone_vw h hqk m u (by omega) (by omega) hqu]
theorem gone_und (h : POk l) {k : Nat} : ∀ (m i : Nat), i < m → i < l.length → gone l k i = true → lund (lf l k).label (lf l i).label = true
  | 0, i, hm, _, _ => by omega
  | m + 1, i, hm, hi, hg => by
    obtain ⟨u1, u2⟩ := h.ups i hi
    by_cases e : i = k
    · subst e; exact lund_refl _
    · have hne : (i == k) = false := by simpa using e
      by_cases h0 : (lf l i).up < 0
      · rw [gone_neg h.ups hi h0, hne] at hg; cases hg
      · obtain ⟨u, e⟩ : ∃ u : Nat, (lf l i).up = u := ⟨(lf l i).up.toNat, by omega⟩
        rw [gone_nat h.ups hi e, hne, Bool.false_or] at hg
        exact lund_trans (gone_und h m u (by omega) (by omega) hg) (h.und' hi e)
theorem so_ins {a : Nat} {x : Leaf} (ha : a ≤ l.length) {i : Nat} (hi : i ≤ l.length) : so (ins l a x) who i = insP a (lund x.label who) (so l who) i := by
  unfold so insP
  rw [ins_lf ha hi]
  by_cases h1 : i < a
  · rw [if_pos h1, if_pos h1, sh_label]
  · rw [if_neg h1, if_neg h1]
    by_cases e : i = a
    · rw [if_pos e, if_pos e]
    · rw [if_neg e, if_neg e, sh_label]
theorem vw_ins (h : POk l) {a : Nat} {x : Leaf} (ha : a ≤ l.length) (h1 : -1 ≤ x.up) (h2 : x.up < a) : vw (ins l a x) who = if lund x.label who = true then ins (vw l who) (cntN a (so l who)) { x with up := nup (so l who) x.up } else vw l who := by
  unfold vw
  rw [← keep_ins ha h.ups (so_upw h who) h2]
  refine keep_congr (fun i hi => ?_) fun j hj => ?_
  · rw [ins_len ha] at hi ⊢
    rw [ins_lf ha (by omega)]
    by_cases h1 : i < a
    · rw [if_pos h1, sh_lt (by have := (h.ups i (by omega)).2; omega)]
      have := (h.ups i (by omega)).2; omega
    · rw [if_neg h1]
      by_cases e : i = a
      · rw [if_pos e]; omega
      · rw [if_neg e]
        have := (h.ups (i - 1) (by omega)).2
        unfold sh
        split
        · simp only; omega
        · omega
  · rw [ins_len ha] at hj
    exact so_ins ha (by omega)
theorem vw_drop (h : POk l) (k : Nat) : vw (dropF l k) who = keep l (fun j => !gone l k j && so l who j) := by
  unfold vw dropF
  rw [keep_keep h.ups.lt (p := so l who) fun j hj hq => so_keep hj hq]
theorem vw_set {k : Nat} {t : Int} (hk : k < l.length) : vw (setT l k t) who = if so l who k = true then setT (vw l who) (cntN k (so l who)) t else vw l who := by
  unfold vw
  rw [← keep_setT hk]
  have : so (setT l k t) who = so l who := by
    funext i
    unfold so
    rw [(setT_up hk i).2]
  rw [this]
end

theorem put_up {l : List Leaf} (h : POk l) {s : Stroke} {up y : Int} (hup : UpOk l s.who up) (hc : (putG l s up y).2 = 0) :
    0 ≤ y ∧ y ≤ cntN l.length (sib l s.who up) ∧ l.length < 40 ∧ (putG l s up y).1 = ins l (atF l s.who up y) { up := up, text := s.text, label := s.who } := by
  unfold putG at *
  by_cases hy : y < 0 ∨ (cntN l.length (sib l s.who up) : Int) < y
  · rw [if_pos hy] at hc; cases hc
  · rw [if_neg hy] at hc ⊢
    by_cases ho : 4 ≤ cntN l.length (own l s.who) ∨ 40 ≤ l.length
    · rw [if_pos ho] at hc; cases hc
    · rw [if_neg ho]
      exact ⟨by omega, by omega, by omega, rfl⟩

/-- A stroke that is done leaves a page. -/
theorem stroke_ok {l : List Leaf} (h : POk l) {s : Stroke} (hl : lcode s.who = 0) (hc : (strokeF l s).2 = 0) : POk (strokeF l s).1 ∧ (strokeF l s).1.length ≤ l.length + 1 := by
  unfold strokeF at *
  by_cases h1 : s.kind = 1
  · rw [if_pos h1] at hc ⊢
    unfold putF at *
    by_cases hp : s.path.length = 0
    · rw [if_pos hp] at hc; cases hc
    rw [if_neg hp] at hc ⊢
    cases hf : fnd l s.who (s.path.take (s.path.length - 1)) with
    | none => rw [hf] at hc; cases hc
    | some up =>
      rw [hf] at hc
      have hup := fnd_up h hf
      obtain ⟨y0, y1, h40, e⟩ := put_up h hup hc
      obtain ⟨⟨a1, a2, a3⟩, _⟩ := at_spec h.ups hup y0 y1
      show POk (putG l s up (lastI s.path)).1 ∧ (putG l s up (lastI s.path)).1.length ≤ l.length + 1
      rw [e]
      refine ⟨h.ins a1 h40 hl a2 a3 fun j hj => ?_, by rw [ins_len a1]; exact Nat.le_refl _⟩
      simp only at hj
      rcases hup with h' | ⟨i, i1, i2, i3⟩
      · omega
      · rw [show j = i by omega]; exact i3
  · rw [if_neg h1] at hc ⊢
    by_cases h2 : s.kind = 2 ∨ s.kind = 3
    · rw [if_pos h2] at hc ⊢
      by_cases hp : s.path.length = 0
      · rw [if_pos hp] at hc; cases hc
      rw [if_neg hp] at hc ⊢
      have hne : s.path ≠ [] := fun e => hp (by rw [e]; rfl)
      cases hf : fnd l s.who s.path with
      | none => rw [hf] at hc; cases hc
      | some k =>
        rw [hf] at hc
        obtain ⟨j, hj, rfl, hs⟩ := fnd_nat h hne hf
        rw [findH_nat] at hc ⊢
        by_cases ho : own l s.who j = false
        · rw [if_pos ho] at hc; cases hc
        · rw [if_neg ho]
          by_cases h3 : s.kind = 3
          · rw [if_pos h3]
            exact ⟨h.keep (gone_upw h.ups j), by show (keep _ _).length ≤ _; rw [keep_len]; have := cntN_le (n := l.length) (p := fun i => !gone l j i); omega⟩
          · rw [if_neg h3]
            exact ⟨h.setT hj, by show (setT _ _ _).length ≤ _; rw [setT_len]; omega⟩
    · rw [if_neg h2] at hc; cases hc

/-- One that is not under who: nothing is seen. -/
theorem stroke_low {l : List Leaf} (h : POk l) {s : Stroke} {who : Label} (hn : lund s.who who = false) (hc : (strokeF l s).2 = 0) : vw (strokeF l s).1 who = vw l who := by
  unfold strokeF at *
  by_cases h1 : s.kind = 1
  · rw [if_pos h1] at hc ⊢
    unfold putF at *
    by_cases hp : s.path.length = 0
    · rw [if_pos hp] at hc; cases hc
    rw [if_neg hp] at hc ⊢
    cases hf : fnd l s.who (s.path.take (s.path.length - 1)) with
    | none => rw [hf] at hc; cases hc
    | some up =>
      rw [hf] at hc
      have hup := fnd_up h hf
      obtain ⟨y0, y1, h40, e⟩ := put_up h hup hc
      obtain ⟨⟨a1, a2, a3⟩, _⟩ := at_spec h.ups hup y0 y1
      show vw (putG l s up (lastI s.path)).1 who = _
      rw [e, vw_ins h a1 a2 a3]
      simp only
      rw [hn, if_neg (by simp)]
  · rw [if_neg h1] at hc ⊢
    by_cases h2 : s.kind = 2 ∨ s.kind = 3
    · rw [if_pos h2] at hc ⊢
      by_cases hp : s.path.length = 0
      · rw [if_pos hp] at hc; cases hc
      rw [if_neg hp] at hc ⊢
      have hne : s.path ≠ [] := fun e => hp (by rw [e]; rfl)
      cases hf : fnd l s.who s.path with
      | none => rw [hf] at hc; cases hc
      | some k =>
        rw [hf] at hc
        obtain ⟨j, hj, rfl, hs⟩ := fnd_nat h hne hf
        rw [findH_nat] at hc ⊢
        by_cases ho : own l s.who j = false
        · rw [if_pos ho] at hc; cases hc
        · rw [if_neg ho]
          have ho' : own l s.who j = true := by simpa using ho
          by_cases h3 : s.kind = 3
          · rw [if_pos h3, vw_drop h]
            refine keep_congr h.ups.lt fun i hi => ?_
            cases hq : so l who i with
            | false => rw [Bool.and_false]
            | true =>
              cases hg : gone l j i with
              | false => rfl
              | true =>
                have := gone_und h (i + 1) i (by omega) hi hg
                rw [own_iff.1 ho'] at this
                rw [lund_trans this hq] at hn; cases hn
          · rw [if_neg h3, vw_set hj, own_so ho', hn, if_neg (by simp)]
    · rw [if_neg h2] at hc; cases hc

/-- One that is under who does to what is seen what it does to the page. -/
theorem stroke_high {l : List Leaf} (h : POk l) (h40 : l.length < 40) {s : Stroke} {who : Label} (hn : lund s.who who = true) : (strokeF (vw l who) s).2 = (strokeF l s).2 ∧ ((strokeF l s).2 = 0 → (strokeF (vw l who) s).1 = vw (strokeF l s).1 who) := by
  have hv := vw_ok h who
  have hvl : (vw l who).length ≤ l.length := by rw [vw_len]; exact cntN_le
  unfold strokeF
  by_cases h1 : s.kind = 1
  · rw [if_pos h1, if_pos h1]
    unfold putF
    by_cases hp : s.path.length = 0
    · rw [if_pos hp, if_pos hp]; exact ⟨rfl, fun e => by cases e⟩
    rw [if_neg hp, if_neg hp, fnd_vw h hn]
    cases hf : fnd l s.who (s.path.take (s.path.length - 1)) with
    | none => exact ⟨rfl, fun e => by cases e⟩
    | some up =>
      have hup := fnd_up h hf
      show (putG (vw l who) s (nup (so l who) up) (lastI s.path)).2 = (putG l s up (lastI s.path)).2 ∧ ((putG l s up (lastI s.path)).2 = 0 → (putG (vw l who) s (nup (so l who) up) (lastI s.path)).1 = vw (putG l s up (lastI s.path)).1 who)
      generalize lastI s.path = y
      have hcs := cntsib_vw (j := l.length) h hn (upok_le hn hup) (Nat.le_refl _)
      have hco := cntown_vw (l := l) hn
      unfold putG
      rw [vw_len, hcs, hco, ← vw_len (l := l) (who := who)]
      by_cases hy : y < 0 ∨ (cntN l.length (sib l s.who up) : Int) < y
      · rw [if_pos hy, if_pos hy]; exact ⟨rfl, fun e => by cases e⟩
      · rw [if_neg hy, if_neg hy]
        by_cases ho : 4 ≤ cntN l.length (own l s.who)
        · rw [if_pos (.inl ho), if_pos (.inl ho)]; exact ⟨rfl, fun e => by cases e⟩
        · rw [if_neg (by omega), if_neg (by omega)]
          refine ⟨rfl, fun _ => ?_⟩
          obtain ⟨⟨a1, a2, a3⟩, _⟩ := at_spec h.ups hup (show 0 ≤ y by omega) (by omega)
          simp only
          rw [vw_ins h a1 a2 a3, if_pos hn, at_vw h hn hup (by omega) (by omega)]
  · rw [if_neg h1, if_neg h1]
    by_cases h2 : s.kind = 2 ∨ s.kind = 3
    · rw [if_pos h2, if_pos h2]
      by_cases hp : s.path.length = 0
      · rw [if_pos hp, if_pos hp]; exact ⟨rfl, fun e => by cases e⟩
      rw [if_neg hp, if_neg hp, fnd_vw h hn]
      have hne : s.path ≠ [] := fun e => hp (by rw [e]; rfl)
      cases hf : fnd l s.who s.path with
      | none => exact ⟨rfl, fun e => by cases e⟩
      | some k =>
        obtain ⟨j, hj, rfl, hs⟩ := fnd_nat h hne hf
        have hq := so_le hn hs
        show (findH (vw l who) s (some (nup (so l who) (j : Int)))).2 = _ ∧ (_ → (findH (vw l who) s (some (nup (so l who) (j : Int)))).1 = _)
        rw [nup_nat hq, findH_nat, findH_nat, own_vw hj hq]
        by_cases ho : own l s.who j = false
        · rw [if_pos ho, if_pos ho]; exact ⟨rfl, fun e => by cases e⟩
        · rw [if_neg ho, if_neg ho]
          by_cases h3 : s.kind = 3
          · rw [if_pos h3, if_pos h3]
            refine ⟨rfl, fun _ => ?_⟩
            simp only
            rw [vw_drop h]
            show keep (keep l (so l who)) _ = _
            rw [keep_keep h.ups.lt (p := fun i => !gone l j i) fun i hi hqi => by show (!gone (vw l who) (cntN j (so l who)) (cntN i (so l who))) = _; rw [gone_vw h hq (i + 1) i (by omega) hi hqi]]
            exact keep_congr h.ups.lt fun i hi => Bool.and_comm _ _
          · rw [if_neg h3, if_neg h3]
            refine ⟨rfl, fun _ => ?_⟩
            simp only
            rw [vw_set hj, if_pos hq]
    · rw [if_neg h2, if_neg h2]; exact ⟨rfl, fun e => by cases e⟩
end Go.Proofs.Ythndckcjjhdbmaa.Sy
