/- What can be had by taking and granting: the plain law; no program in sight. -/
import Derived.Test.YtehfjfaanhdbaaaMb
import Derived.Test.YtehfjfaanhdbaaaSyR
namespace Go.Proofs.Ytehfjfaanhdbaaa.Sy
set_option linter.unusedVariables false

theorem and0 {a b : BitVec 32} : ((a &&& b) == 0#32) = true ↔ ∀ i, a.getLsbD i = true → b.getLsbD i = false := by
  rw [beq_iff_eq]
  constructor
  · intro h i ha
    have := congrArg (fun z : BitVec 32 => z.getLsbD i) h
    simpa [ha] using this
  · intro h
    refine bits_ext fun i => ?_
    rw [BitVec.getLsbD_and, Bool.and_eq_true]
    simp only [BitVec.getLsbD_zero, Bool.false_eq_true, iff_false]
    rintro ⟨ha, hb⟩
    rw [h i ha] at hb; cases hb
theorem and1 {a b : BitVec 32} : ((a &&& b) != 0#32) = true ↔ ∃ i, a.getLsbD i = true ∧ b.getLsbD i = true := by
  rw [show ((a &&& b) != 0#32) = !((a &&& b) == 0#32) from rfl, Bool.not_eq_true', ← Bool.not_eq_true, and0]
  simp only [Classical.not_forall, Bool.not_eq_false, exists_prop]
theorem cnt_zero {n : Nat} {p : Nat → Bool} : cntN n p = 0 ↔ ∀ j, j < n → p j = false := by
  induction n with
  | zero => simp [cntN]
  | succ n ih =>
    rw [cntN]
    cases hp : p n with
    | true =>
      rw [cond_true]
      constructor
      · intro h; omega
      · intro h; have := h n (by omega); rw [hp] at this; cases this
    | false =>
      rw [cond_false, ih]
      exact ⟨fun h j hj => if e : j = n then e ▸ hp else h j (by omega), fun h j hj => h j (by omega)⟩
theorem cnt_one {n : Nat} {p : Nat → Bool} (h : cntN n p = 1) : ∃ i, i < n ∧ p i = true ∧ ∀ j, j < n → p j = true → j = i := by
  induction n with
  | zero => simp [cntN] at h
  | succ n ih =>
    rw [cntN] at h
    cases hp : p n with
    | true =>
      rw [hp, cond_true] at h
      have h0 : cntN n p = 0 := by omega
      rw [cnt_zero] at h0
      refine ⟨n, by omega, hp, fun j hj hpj => ?_⟩
      by_cases e : j = n
      · exact e
      · rw [h0 j (by omega)] at hpj; cases hpj
    | false =>
      rw [hp, cond_false] at h
      obtain ⟨i, hi, h1, h2⟩ := ih h
      refine ⟨i, by omega, h1, fun j hj hpj => ?_⟩
      by_cases e : j = n
      · subst e; rw [hp] at hpj; cases hpj
      · exact h2 j (by omega) hpj
theorem cnt_more {n : Nat} {p q : Nat → Bool} {i : Nat} (hi : i < n) (h1 : p i = false) (h2 : q i = true) (h : ∀ j, j < n → j ≠ i → q j = p j) : cntN n q = cntN n p + 1 := by
  induction n with
  | zero => omega
  | succ n ih =>
    rw [cntN, cntN]
    by_cases e : i = n
    · subst e
      rw [h1, h2, cond_true, cond_false, cntN_congr fun j hj => h j (by omega) (by omega)]
    · rw [ih (by omega) fun j hj => h j (by omega), h n (by omega) (by omega)]
      cases p n <;> rfl
theorem nodup_len' {α : Type} [DecidableEq α] : ∀ {l t : List α}, l.Nodup → (∀ x ∈ l, x ∈ t) → l.length ≤ t.length
  | [], t, _, _ => by simp
  | a :: l, t, hd, hs => by
    rw [List.nodup_cons] at hd
    have ha : a ∈ t := hs a (by simp)
    have := nodup_len' (t := t.erase a) hd.2 fun x hx => by
      have hne : x ≠ a := fun e => hd.1 (e ▸ hx)
      exact (List.mem_erase_of_ne hne).2 (hs x (by simp [hx]))
    rw [List.length_erase_of_mem ha] at this
    have hp := List.length_pos_of_mem ha
    simp; omega
theorem hasZ (l : List Int) (x : Int) : syllogistref_Has l x = some (decide (x ∈ l)) := by
  unfold syllogistref_Has
  refine for0_q (n := l.length) (Q := fun o => o = some (decide (x ∈ l))) (fun j _ => x ∉ l.take j) rfl () (by simp) (fun j _ nx hj hI hn => ?_) (fun _ hI => ?_)
  · unfold syllogistref_Has_b7
    rw [geti_at hj, Option.bind_some]
    by_cases e : x = l[j]
    · have : x ∈ l := e ▸ List.getElem_mem hj
      rw [beq_iff_eq.2 e, cond_true, decide_eq_true this]
    · rw [beq_eq_false_iff_ne.2 e, cond_false]
      refine hn () fun h => ?_
      rw [← List.take_append_getElem hj] at h
      rcases List.mem_append.1 h with h | h
      · exact hI h
      · exact e (by simpa using h)
  · unfold syllogistref_Has_k3
    rw [List.take_length] at hI
    rw [decide_eq_false hI]
theorem size_eq (w : BitVec 32) : syllogistref_Size w = some (cntN 32 w.getLsbD : Int) := by
  unfold syllogistref_Size
  refine (for_cnt (n := 32) w.getLsbD rfl (by omega) (fun j s nx hj => ?_)).trans rfl
  unfold syllogistref_Size_b9 syllogistref_Bit
  rw [bit_shape _ _ hj, Option.bind_some, cond_nx]

/-! ### The matrix of edges -/
def gd (n : Nat) (e : Edge) : Prop := 0 ≤ e.src ∧ e.src < n ∧ 0 ≤ e.to ∧ e.to < n ∧ e.src ≠ e.to
abbrev rwg (g : List (List (BitVec 32))) (i : Nat) : List (BitVec 32) := g[i]?.getD []
abbrev ge (g : List (List (BitVec 32))) (i j : Nat) : BitVec 32 := (rwg g i)[j]?.getD 0#32
def PE (es : List Edge) (i j b : Nat) : Prop := ∃ e ∈ es, e.src = (i : Int) ∧ e.to = (j : Int) ∧ e.rights.getLsbD b = true
structure GM (n : Nat) (g : List (List (BitVec 32))) (es : List Edge) : Prop where
  len : g.length = n
  row : ∀ i, i < n → (rwg g i).length = 14
  bit : ∀ i j b, i < n → j < n → ((ge g i j).getLsbD b = true ↔ PE es i j b)
theorem rwg_set {g : List (List (BitVec 32))} {a : Nat} {r : List (BitVec 32)} (ha : a < g.length) (i : Nat) : rwg (g.set a r) i = if i = a then r else rwg g i := by
  unfold rwg
  rw [List.getElem?_set]
  by_cases e : i = a
  · subst e; simp [ha]
  · rw [if_neg (fun h => e h.symm), if_neg e]
theorem wd_set {g : List (BitVec 32)} {a : Nat} {r : BitVec 32} (ha : a < g.length) (i : Nat) : (g.set a r)[i]?.getD 0#32 = if i = a then r else g[i]?.getD 0#32 := by
  rw [List.getElem?_set]
  by_cases e : i = a
  · subst e; simp [ha]
  · rw [if_neg (fun h => e h.symm), if_neg e]
theorem GM.step {n : Nat} (hn : n ≤ 6) {g : List (List (BitVec 32))} {es : List Edge} (h : GM n g es) {e : Edge} {a b : Nat} (ha : a < n) (hb : b < n) (ea : e.src = (a : Int)) (eb : e.to = (b : Int)) : GM n (g.set a ((rwg g a).set b (ge g a b ||| e.rights))) (es ++ [e]) := by
  have hl := h.len
  have hr := h.row
  refine ⟨by simp [hl], fun i hi => ?_, fun i j c hi hj => ?_⟩
  · rw [rwg_set (by omega)]
    split
    · rw [List.length_set]; exact hr a ha
    · exact hr i hi
  · have hg : ge (g.set a ((rwg g a).set b (ge g a b ||| e.rights))) i j = if i = a ∧ j = b then ge g a b ||| e.rights else ge g i j := by
      unfold ge
      rw [rwg_set (by omega)]
      by_cases h1 : i = a
      · subst h1
        rw [if_pos rfl, wd_set (by rw [hr i hi]; omega)]
        by_cases h2 : j = b
        · rw [if_pos h2, if_pos ⟨rfl, h2⟩]
        · rw [if_neg h2, if_neg (fun h => h2 h.2)]
      · rw [if_neg h1, if_neg (fun h => h1 h.1)]
    rw [hg]
    by_cases hc : i = a ∧ j = b
    · obtain ⟨rfl, rfl⟩ := hc
      rw [if_pos ⟨rfl, rfl⟩, BitVec.getLsbD_or, Bool.or_eq_true, h.bit i j c hi hj]
      constructor
      · rintro (⟨e', h1, h2⟩ | h1)
        · exact ⟨e', List.mem_append_left _ h1, h2⟩
        · exact ⟨e, by simp, ea, eb, h1⟩
      · rintro ⟨e', h1, h2, h3, h4⟩
        rcases List.mem_append.1 h1 with h1 | h1
        · exact .inl ⟨e', h1, h2, h3, h4⟩
        · have : e' = e := by simpa using h1
          subst this; exact .inr h4
    · rw [if_neg hc, h.bit i j c hi hj]
      constructor
      · rintro ⟨e', h1, h2⟩; exact ⟨e', List.mem_append_left _ h1, h2⟩
      · rintro ⟨e', h1, h2, h3, h4⟩
        rcases List.mem_append.1 h1 with h1 | h1
        · exact ⟨e', h1, h2, h3, h4⟩
        · have : e' = e := by simpa using h1
          subst this
          exact absurd ⟨by omega, by omega⟩ hc

structure EO (n : Int) (es : List Edge) (m : Nat) : Prop where
  n : n = m
  m1 : 1 ≤ m
  m6 : m ≤ 6
  el : es.length ≤ 20
  ok : ∀ e ∈ es, gd m e
theorem build_ok (n : Int) (es : List Edge) : ∃ g c, grant_build n es = some (g, c) ∧ syllogistref_EdgesCheck n es = some c ∧ (c = 0 → ∃ m, EO n es m ∧ GM m g es) := by
  unfold grant_build syllogistref_EdgesCheck
  cases hb : (((decide (n < (1 : Int))) || (decide (n > (6 : Int)))) || (decide ((es.length : Int) > (20 : Int)))) with
  | true => exact ⟨[], 1, rfl, rfl, by simp⟩
  | false =>
    simp only [Bool.or_eq_false_iff, decide_eq_false_iff_not] at hb
    obtain ⟨m, rfl⟩ : ∃ m : Nat, n = m := ⟨n.toNat, by omega⟩
    have hm : m ≤ 6 := by omega
    simp only [cond_false]
    rw [decide_eq_true (by omega), cond_true, Int.toNat_natCast]
    rw [for_out (n := es.length) (fun j => (es[j]?.map fun e => ((((decide (e.src < (0 : Int))) || (decide (e.src ≥ (m : Int)))) || (decide (e.to < (0 : Int)))) || (decide (e.to ≥ (m : Int)))) || (e.src == e.to)).getD false) (some 2) rfl (fun j nx hj => by
      unfold syllogistref_EdgesCheck_b7
      rw [geti_at hj, Option.bind_some, List.getElem?_eq_getElem hj]
      simp only [Option.getD_some, Option.map_some])]
    unfold syllogistref_EdgesCheck_k3
    have hbad : ∀ e : Edge, (((((decide (e.src < (0 : Int))) || (decide (e.src ≥ (m : Int)))) || (decide (e.to < (0 : Int)))) || (decide (e.to ≥ (m : Int)))) || (e.src == e.to)) = true ↔ ¬gd m e := fun e => by
      unfold gd
      simp only [Bool.or_eq_true, decide_eq_true_eq, beq_iff_eq]
      omega
    have hbad2 : ∀ e : Edge, (((decide ((if e.to < e.src then e.to else e.src) < (0 : Int))) || (decide ((if e.to > e.src then e.to else e.src) ≥ (m : Int)))) || (e.src == e.to)) = true ↔ ¬gd m e := fun e => by
      unfold gd
      simp only [Bool.or_eq_true, decide_eq_true_eq, beq_iff_eq]
      by_cases h : e.to < e.src
      · rw [if_pos h, if_neg (by omega)]; omega
      · rw [if_neg h]
        by_cases h' : e.to > e.src
        · rw [if_pos h']; omega
        · rw [if_neg h']; omega
    cases ha : anyN es.length (fun j => (es[j]?.map fun e => ((((decide (e.src < (0 : Int))) || (decide (e.src ≥ (m : Int)))) || (decide (e.to < (0 : Int)))) || (decide (e.to ≥ (m : Int)))) || (e.src == e.to)).getD false) with
    | true =>
      obtain ⟨j0, hj0, hj1⟩ := anyN_iff.1 ha
      rw [List.getElem?_eq_getElem hj0] at hj1
      have hj2 := (hbad es[j0]).1 hj1
      refine ⟨[], 2, ?_, rfl, by simp⟩
      refine for0_q (n := m) (Q := fun o => o = some (([] : List (List (BitVec 32))), (2 : Int))) (fun t (g : List (List (BitVec 32))) => g.length = m ∧ ∀ i, i < t → (rwg g i).length = 14 ∧ ∀ j, ge g i j = 0#32) (by simp) _ ⟨by simp, fun i hi => by omega⟩ (fun t g nx ht hI hn => ?_) (fun g hI => ?_)
      · unfold grant_build_b55
        rw [decide_eq_true (by omega), cond_true, geti_d [] (by omega), Option.bind_some]
        refine hn _ ⟨by simp [hI.1], fun i hi => ?_⟩
        rw [Int.toNat_natCast]
        have hset := rwg_set (g := g) (a := t) (r := List.replicate ((14 : Int)).toNat (0#32)) (by omega) i
        by_cases e : i = t
        · rw [if_pos e] at hset
          refine ⟨by rw [hset]; rfl, fun j => ?_⟩
          unfold ge
          rw [hset, List.getElem?_replicate]
          split <;> rfl
        · rw [if_neg e] at hset
          unfold ge
          rw [hset]; exact hI.2 i (by omega)
      · unfold grant_build_k18
        refine for0_q (n := es.length) (Q := fun o => o = some (([] : List (List (BitVec 32))), (2 : Int))) (fun t (g : List (List (BitVec 32))) => GM m g (es.take t) ∧ ∀ k (h : k < es.length), k < t → gd m es[k]) rfl g ⟨⟨hI.1, fun i hi => (hI.2 i hi).1, fun i j b hi hj => by rw [(hI.2 i hi).2 j]; simp [PE]⟩, fun k _ h => by omega⟩ (fun t g nx ht hG hn => ?_) (fun g hG => absurd (hG.2 j0 hj0 hj0) hj2)
        unfold grant_build_b40
        rw [geti_at ht, Option.bind_some]
        by_cases hgd : gd m es[t]
        · have hf : (((decide ((if es[t].to < es[t].src then es[t].to else es[t].src) < (0 : Int))) || (decide ((if es[t].to > es[t].src then es[t].to else es[t].src) ≥ (m : Int)))) || (es[t].src == es[t].to)) = false := by
            rw [← Bool.not_eq_true, hbad2]; exact fun h => h hgd
          rw [hf, cond_false]
          obtain ⟨g1, g2, g3, g4, _⟩ := hgd
          obtain ⟨a, ea⟩ : ∃ a : Nat, es[t].src = (a : Int) := ⟨es[t].src.toNat, by omega⟩
          obtain ⟨b, eb⟩ : ∃ b : Nat, es[t].to = (b : Int) := ⟨es[t].to.toNat, by omega⟩
          have hrow := hG.1.row a (by omega)
          rw [ea, eb, geti_d [] (by rw [hG.1.len]; omega), Option.bind_some, geti_d 0#32 (by rw [hrow]; omega), Option.bind_some, Int.toNat_natCast, Int.toNat_natCast]
          refine hn _ ⟨?_, fun k hk hkt => ?_⟩
          · rw [← List.take_append_getElem ht]
            exact hG.1.step hm (by omega) (by omega) ea eb
          · by_cases e : k = t
            · subst e; exact ⟨g1, g2, g3, g4, by assumption⟩
            · exact hG.2 k hk (by omega)
        · rw [(hbad2 es[t]).2 hgd, cond_true]
    | false =>
      have hall : ∀ e ∈ es, gd m e := fun e he => by
        obtain ⟨k, hk, rfl⟩ := List.getElem_of_mem he
        have := anyN_false.1 ha k hk
        rw [List.getElem?_eq_getElem hk] at this
        apply Classical.byContradiction
        intro hc
        have h2 := (hbad es[k]).2 hc
        simp only [Option.map_some, Option.getD_some] at this
        rw [h2] at this; cases this
      have key : ∃ g, forK (σ := (List (List (BitVec 32)))) (fun i s nx_ => grant_build_b55 i s nx_) (fun s => grant_build_k18 (m : Int) es s) ((((List.replicate m ([] : List (BitVec 32))).length : Int) - (0 : Int)).toNat) (0 : Int) (List.replicate m ([] : List (BitVec 32))) = some (g, 0) ∧ GM m g es := by
        refine for0_q (n := m) (Q := fun o => ∃ g, o = some (g, 0) ∧ GM m g es) (fun t (g : List (List (BitVec 32))) => g.length = m ∧ ∀ i, i < t → (rwg g i).length = 14 ∧ ∀ j, ge g i j = 0#32) (by simp) _ ⟨by simp, fun i hi => by omega⟩ (fun t g nx ht hI hn => ?_) (fun g hI => ?_)
        · unfold grant_build_b55
          rw [decide_eq_true (by omega), cond_true, geti_d [] (by omega), Option.bind_some]
          refine hn _ ⟨by simp [hI.1], fun i hi => ?_⟩
          rw [Int.toNat_natCast]
          have hset := rwg_set (g := g) (a := t) (r := List.replicate ((14 : Int)).toNat (0#32)) (by omega) i
          by_cases e : i = t
          · rw [if_pos e] at hset
            refine ⟨by rw [hset]; rfl, fun j => ?_⟩
            unfold ge
            rw [hset, List.getElem?_replicate]
            split <;> rfl
          · rw [if_neg e] at hset
            unfold ge
            rw [hset]; exact hI.2 i (by omega)
        · unfold grant_build_k18
          refine for0_q (n := es.length) (Q := fun o => ∃ g, o = some (g, 0) ∧ GM m g es) (fun t (g : List (List (BitVec 32))) => GM m g (es.take t)) rfl g ⟨hI.1, fun i hi => (hI.2 i hi).1, fun i j b hi hj => by rw [(hI.2 i hi).2 j]; simp [PE]⟩ (fun t g nx ht hG hn => ?_) (fun g hG => ?_)
          · unfold grant_build_b40
            rw [geti_at ht, Option.bind_some]
            have hgd := hall es[t] (List.getElem_mem ht)
            have hf : (((decide ((if es[t].to < es[t].src then es[t].to else es[t].src) < (0 : Int))) || (decide ((if es[t].to > es[t].src then es[t].to else es[t].src) ≥ (m : Int)))) || (es[t].src == es[t].to)) = false := by
              rw [← Bool.not_eq_true, hbad2]; exact fun h => h hgd
            rw [hf, cond_false]
            obtain ⟨g1, g2, g3, g4, _⟩ := hgd
            obtain ⟨a, ea⟩ : ∃ a : Nat, es[t].src = (a : Int) := ⟨es[t].src.toNat, by omega⟩
            obtain ⟨b, eb⟩ : ∃ b : Nat, es[t].to = (b : Int) := ⟨es[t].to.toNat, by omega⟩
            have hrow := hG.row a (by omega)
            rw [ea, eb, geti_d [] (by rw [hG.len]; omega), Option.bind_some, geti_d 0#32 (by rw [hrow]; omega), Option.bind_some, Int.toNat_natCast, Int.toNat_natCast]
            refine hn _ ?_
            rw [← List.take_append_getElem ht]
            exact hG.step hm (by omega) (by omega) ea eb
          · unfold grant_build_k34
            rw [List.take_length] at hG
            exact ⟨g, rfl, hG⟩
      obtain ⟨g, eg, hG⟩ := key
      exact ⟨g, 0, eg, rfl, fun _ => ⟨m, ⟨rfl, by omega, hm, by omega, hall⟩, hG⟩⟩
end Go.Proofs.Ytehfjfaanhdbaaa.Sy
