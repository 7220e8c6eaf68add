/- What can be had by taking and granting, the two searches and the law: the plain law; no program in sight. -/
import Derived.Test.YtehfjfaanhdbaaaM4
namespace Go.Proofs.Ytehfjfaanhdbaaa.Sy
set_option linter.unusedVariables false

/-- Joined by an edge that takes or grants. -/
def JJ (n : Nat) (es : List Edge) (i j : Nat) : Prop := (i < n ∧ j < n) ∧ ∃ e ∈ es, (e.rights.getLsbD 0 = true ∨ e.rights.getLsbD 1 = true) ∧ ((e.src = (i : Int) ∧ e.to = (j : Int)) ∨ (e.src = (j : Int) ∧ e.to = (i : Int)))
/-- One that has the right over y. -/
def GL (es : List Edge) (y b : Nat) (v : Nat) : Prop := v ≠ y ∧ PE es v y b
theorem three_bit (i : Nat) : (3#32).getLsbD i = true ↔ i = 0 ∨ i = 1 := by
  by_cases h : i < 32
  · have : ∀ i, i < 32 → ((3#32).getLsbD i = true ↔ i = 0 ∨ i = 1) := by decide
    exact this i h
  · rw [BitVec.getLsbD_of_ge _ _ (by omega)]
    simp; omega
theorem and3 (x : BitVec 32) : ((x &&& 3#32) != 0#32) = true ↔ x.getLsbD 0 = true ∨ x.getLsbD 1 = true := by
  rw [and1]
  constructor
  · rintro ⟨i, h1, h2⟩
    rcases (three_bit i).1 h2 with rfl | rfl
    · exact .inl h1
    · exact .inr h1
  · rintro (h | h)
    · exact ⟨0, h, by decide⟩
    · exact ⟨1, h, by decide⟩

theorem joined_eq {m : Nat} (hm : m ≤ 6) {g : List (List (BitVec 32))} {es : List Edge} (hG : GM m g es) {i j : Nat} (hi : i < m) (hj : j < m) : grant_graph_joined g (i : Int) (j : Int) = some (tru (JJ m es i j)) := by
  have hl := hG.len
  have h1 := hG.row i hi
  have h2 := hG.row j hj
  unfold grant_graph_joined
  rw [geti_d [] (by omega), Option.bind_some, geti_d 0#32 (by rw [h1]; omega), Option.bind_some, geti_d [] (by omega), Option.bind_some, geti_d 0#32 (by rw [h2]; omega), Option.bind_some]
  congr 1
  refine tru_of ?_
  rw [and3]
  show ((ge g i j ||| ge g j i).getLsbD 0 = true ∨ (ge g i j ||| ge g j i).getLsbD 1 = true) ↔ _
  rw [BitVec.getLsbD_or, BitVec.getLsbD_or, Bool.or_eq_true, Bool.or_eq_true, hG.bit i j 0 hi hj, hG.bit j i 0 hj hi, hG.bit i j 1 hi hj, hG.bit j i 1 hj hi]
  unfold JJ PE
  constructor
  · rintro ((⟨e, h1, h2, h3, h4⟩ | ⟨e, h1, h2, h3, h4⟩) | (⟨e, h1, h2, h3, h4⟩ | ⟨e, h1, h2, h3, h4⟩))
    · exact ⟨⟨hi, hj⟩, e, h1, .inl h4, .inl ⟨h2, h3⟩⟩
    · exact ⟨⟨hi, hj⟩, e, h1, .inl h4, .inr ⟨h2, h3⟩⟩
    · exact ⟨⟨hi, hj⟩, e, h1, .inr h4, .inl ⟨h2, h3⟩⟩
    · exact ⟨⟨hi, hj⟩, e, h1, .inr h4, .inr ⟨h2, h3⟩⟩
  · rintro ⟨_, e, h1, h4 | h4, ⟨h2, h3⟩ | ⟨h2, h3⟩⟩
    · exact .inl (.inl ⟨e, h1, h2, h3, h4⟩)
    · exact .inl (.inr ⟨e, h1, h2, h3, h4⟩)
    · exact .inr (.inl ⟨e, h1, h2, h3, h4⟩)
    · exact .inr (.inr ⟨e, h1, h2, h3, h4⟩)

abbrev nbz (l : List Int) (i : Nat) : Int := l[i]?.getD (-1)
theorem nbz_set {l : List Int} {j : Nat} {x : Int} (hj : j < l.length) (k : Nat) : nbz (l.set j x) k = if k = j then x else nbz l k := by
  unfold nbz
  rw [List.getElem?_set]
  by_cases e : k = j
  · subst e; simp [hj]
  · rw [if_neg (fun h => e h.symm), if_neg e]
def vc (n : Nat) (nx : List Int) : Nat := cntN n fun v => decide (0 ≤ nbz nx v)
structure BQ (n x : Nat) (J : Nat → Nat → Prop) (G : Nat → Prop) (q nx : List Int) (d : Nat → Nat) : Prop where
  len : nx.length = n
  qn : ∀ z ∈ q, ∃ v : Nat, v < n ∧ z = v ∧ 0 ≤ nbz nx v
  rch : ∀ v, v < n → 0 ≤ nbz nx v → Rc J x v ∧ d v < vc n nx
  up : ∀ v, v < n → 0 ≤ nbz nx v → v ≠ x → ∃ u : Nat, u < n ∧ nbz nx v = u ∧ 0 ≤ nbz nx u ∧ d u < d v ∧ J u v
  xin : 0 ≤ nbz nx x
  done : ∀ v, v < n → 0 ≤ nbz nx v → (v : Int) ∉ q → ¬G v ∧ ∀ j, j < n → J v j → 0 ≤ nbz nx j
theorem BQ.add {n x : Nat} {J : Nat → Nat → Prop} {G : Nat → Prop} {q nx : List Int} {d : Nat → Nat} (h : BQ n x J G q nx d) {v j : Nat} (hv : v < n) (hvis : 0 ≤ nbz nx v) (hj : j < n) (hnew : nbz nx j < 0) (hJ : J v j) :
    BQ n x J G (q ++ [(j : Int)]) (nx.set j (v : Int)) (fun w => if w = j then vc n nx else d w) ∧ vc n (nx.set j (v : Int)) = vc n nx + 1 := by
  have hs := nbz_set (l := nx) (j := j) (x := (v : Int)) (by rw [h.len]; exact hj)
  have hcnt : vc n (nx.set j (v : Int)) = vc n nx + 1 := by
    refine cnt_more hj ?_ ?_ fun w hw hne => ?_
    · simp; omega
    · simp only [decide_eq_true_eq]; rw [hs, if_pos rfl]; omega
    · rw [hs, if_neg hne]
  have hvj : v ≠ j := fun e => by subst e; omega
  refine ⟨⟨by simp [h.len], fun z hz => ?_, fun w hw h0 => ?_, fun w hw h0 hne => ?_, ?_, fun w hw h0 hnq => ?_⟩, hcnt⟩
  · rcases List.mem_append.1 hz with hz | hz
    · obtain ⟨w, h1, h2, h3⟩ := h.qn z hz
      refine ⟨w, h1, h2, ?_⟩
      rw [hs]; split <;> omega
    · refine ⟨j, hj, by simpa using hz, ?_⟩
      rw [hs, if_pos rfl]; omega
  · rw [hcnt]
    by_cases e : w = j
    · subst e
      simp only [if_pos]
      exact ⟨(h.rch v hv hvis).1.tail hJ, by omega⟩
    · rw [hs, if_neg e] at h0
      simp only [if_neg e]
      have := h.rch w hw h0
      exact ⟨this.1, by omega⟩
  · by_cases e : w = j
    · subst e
      refine ⟨v, hv, by rw [hs, if_pos rfl], by rw [hs, if_neg hvj]; exact hvis, ?_⟩
      simp only [if_pos, if_neg hvj]
      exact ⟨(h.rch v hv hvis).2, hJ⟩
    · rw [hs, if_neg e] at h0
      obtain ⟨u, h1, h2, h3, h4, h5⟩ := h.up w hw h0 hne
      have huj : u ≠ j := fun e' => by subst e'; omega
      exact ⟨u, h1, by rw [hs, if_neg e]; exact h2, by rw [hs, if_neg huj]; exact h3, by simp only [if_neg e, if_neg huj]; exact ⟨h4, h5⟩⟩
  · rw [hs]; split
    · omega
    · exact h.xin
  · have hwj : w ≠ j := fun e => hnq (by subst e; simp)
    rw [hs, if_neg hwj] at h0
    obtain ⟨g1, g2⟩ := h.done w hw h0 fun hm => hnq (List.mem_append_left _ hm)
    refine ⟨g1, fun u hu hJu => ?_⟩
    rw [hs]; split
    · omega
    · exact g2 u hu hJu

theorem repeat6 {m : Nat} (h1 : 1 ≤ m) (h6 : m ≤ 6) : slices_Repeat_Sintint 200 ([(-1 : Int)] : List Int) (m : Int) = some (List.replicate m (-1)) := by
  have : m = 1 ∨ m = 2 ∨ m = 3 ∨ m = 4 ∨ m = 5 ∨ m = 6 := by omega
  rcases this with rfl | rfl | rfl | rfl | rfl | rfl <;> decide +kernel

/-- A chain of nodes, each joined with the next one, none of them twice: the first is v, the last stands behind the list. -/
inductive PC (n : Nat) (J : Nat → Nat → Prop) (v : Nat) : List Nat → Nat → Prop
  | one : v < n → PC n J v [v] v
  | snoc {w : List Nat} {u u' : Nat} : PC n J v w u → u' < n → J u' u → u' ∉ w → PC n J v (w ++ [u']) u'

theorem PC.lt {n : Nat} {J : Nat → Nat → Prop} {v : Nat} {w : List Nat} {u : Nat} (h : PC n J v w u) : ∀ z ∈ w, z < n := by
  induction h with
  | one h => intro z hz; rw [List.mem_singleton.1 hz]; exact h
  | snoc _ h2 _ _ ih =>
    intro z hz
    rcases List.mem_append.1 hz with hz | hz
    · exact ih z hz
    · rw [List.mem_singleton.1 hz]; exact h2

theorem PC.nd {n : Nat} {J : Nat → Nat → Prop} {v : Nat} {w : List Nat} {u : Nat} (h : PC n J v w u) : w.Nodup := by
  induction h with
  | one h => simp
  | snoc _ _ _ h3 ih =>
    rw [List.nodup_append]
    refine ⟨ih, by simp, fun a ha b hb => ?_⟩
    rw [List.mem_singleton.1 hb]
    exact fun e => h3 (e ▸ ha)

theorem PC.len {n : Nat} {J : Nat → Nat → Prop} {v : Nat} {w : List Nat} {u : Nat} (h : PC n J v w u) : w.length ≤ n := by
  have := nodup_len' h.nd (t := List.range n) fun z hz => List.mem_range.2 (h.lt z hz)
  rwa [List.length_range] at this

/-- By places: the first, the last, each joined with the next. -/
theorem PC.at {n : Nat} {J : Nat → Nat → Prop} {v : Nat} {w : List Nat} {u : Nat} (h : PC n J v w u) : 0 < w.length ∧ w[0]? = some v ∧ w[w.length - 1]? = some u ∧ ∀ k a b, w[k]? = some a → w[k + 1]? = some b → J b a := by
  induction h with
  | one h =>
    refine ⟨by simp, rfl, rfl, fun k a b _ h2 => ?_⟩
    simp at h2
  | snoc h1 h2 h3 h4 ih =>
    rename_i w u u'
    obtain ⟨i1, i2, i3, i4⟩ := ih
    refine ⟨by simp, ?_, by simp, fun k a b ha hb => ?_⟩
    · rw [List.getElem?_append_left i1]; exact i2
    · by_cases hk : k + 1 < w.length
      · rw [List.getElem?_append_left (by omega)] at ha hb
        exact i4 k a b ha hb
      · by_cases hk' : k + 1 = w.length
        · rw [hk', List.getElem?_concat_length] at hb
          rw [List.getElem?_append_left (by omega), show k = w.length - 1 by omega, i3] at ha
          cases ha; cases hb; exact h3
        · rw [List.getElem?_eq_none (by simp; omega)] at hb
          cases hb

def PA (n x : Nat) (J : Nat → Nat → Prop) (G : Nat → Prop) (r : List Int) : Prop := (∃ v w, r = w.map (fun z : Nat => (z : Int)) ∧ PC n J v w x ∧ G v) ∧ (G x → r.length = 1)

def GQ (n x : Nat) (J : Nat → Nat → Prop) (G : Nat → Prop) (o : Option (List Int)) : Prop := ∃ r, o = some r ∧ (r.isEmpty = false ↔ ∃ v, v < n ∧ Rc J x v ∧ G v) ∧ (r.isEmpty = false → PA n x J G r)

theorem path_ok {m : Nat} (m1 : 1 ≤ m) (hm : m ≤ 6) {g : List (List (BitVec 32))} {es : List Edge} (hG : GM m g es) {x y b : Nat} (hx : x < m) (hy : y < m) {right : BitVec 32} (hr : ∀ w : BitVec 32, ((w &&& right) != 0#32) = w.getLsbD b) :
    GQ m x (JJ m es) (GL es y b) (grant_graph_path 200 g (x : Int) (y : Int) right) := by
  have hl := hG.len
  unfold grant_graph_path
  rw [hl, repeat6 m1 hm, Option.bind_some, geti_d (-1) (by simp; exact hx), Option.bind_some, Int.toNat_natCast]
  have hrep : ∀ j, nbz (List.replicate m (-1)) j = -1 := fun j => by
    unfold nbz; rw [List.getElem?_replicate]; split <;> rfl
  have hs0 := nbz_set (l := List.replicate m (-1)) (j := x) (x := (x : Int)) (by simpa using hx)
  have hvc : ∀ nx, vc m nx ≤ m := fun nx => cntN_le
  refine whileK_q (Q := GQ m x (JJ m es) (GL es y b)) (fun (s : List Int × List Int) => 2 * (m - vc m s.2) + s.1.length ≤ 13 ∧ (GL es y b x → s.1.head? = some (x : Int)) ∧ ∃ d, BQ m x (JJ m es) (GL es y b) s.1 s.2 d) (fun s => 2 * (m - vc m s.2) + s.1.length) (fun s nx hI hn => ?_) 200 _ ⟨by simp only [List.length_singleton]; omega, fun _ => rfl, fun _ => 0, ⟨by simp, fun z hz => ⟨x, hx, by simpa using hz, by rw [hs0, if_pos rfl]; omega⟩, fun v hv h0 => ?_, fun v hv h0 hne => ?_, by rw [hs0, if_pos rfl]; omega, fun v hv h0 hnq => ?_⟩⟩ (by simp only [List.length_singleton]; omega)
  · obtain ⟨q, nxt⟩ := s
    obtain ⟨hq13, hhd, d, hB⟩ := hI
    simp only at hB hn hq13 hhd ⊢
    unfold grant_graph_path_b25
    match q, hB, hq13, hhd with
    | [], hB, _, _ =>
      rw [decide_eq_false (by simp), cond_false]
      unfold grant_graph_path_k23
      refine ⟨[], rfl, ?_, fun h => by simp at h⟩
      simp only [List.isEmpty_nil, Bool.true_eq_false, false_iff]
      rintro ⟨v, hv, hR, hg⟩
      have : ∀ v, Rc (JJ m es) x v → 0 ≤ nbz nxt v := fun v hR => by
        induction hR with
        | refl => exact hB.xin
        | tail h1 h2 ih => exact (hB.done _ h2.1.1 ih (by simp)).2 _ h2.1.2 h2
      exact (hB.done v hv (this v hR) (by simp)).1 hg
    | z :: q, hB, hq13, hhd =>
      rw [List.length_cons] at hq13
      obtain ⟨v, hv, rfl, hvis⟩ := hB.qn z (by simp)
      have hvx : GL es y b x → v = x := fun h => by have := hhd h; simp only [List.head?_cons, Option.some.injEq] at this; omega
      rw [decide_eq_true (by simp only [List.length_cons]; omega), cond_true]
      have hg0 : geti ((v : Int) :: q) (0 : Int) = some (v : Int) := rfl
      rw [hg0, Option.bind_some]
      have hrow := hG.row v hv
      rw [geti_d [] (by omega)]
      simp only [Option.isSome_some, Bool.or_true, cond_true, Option.getD_some]
      have hgy : geti (rwg g v) (y : Int) = some (ge g v y) := geti_d 0#32 (by rw [hrow]; omega)
      have hgy' : geti (g[v]?.getD []) (y : Int) = some (ge g v y) := hgy
      rw [hgy']
      simp only [Option.isSome_some, Bool.or_true, cond_true, Option.getD_some]
      have hcond : (((v : Int) != (y : Int)) && ((ge g v y &&& right) != 0#32)) = tru (GL es y b v) := by
        refine tru_of ?_
        rw [Bool.and_eq_true, bne_iff_ne, hr, hG.bit v y b hv hy]
        unfold GL
        exact and_congr_left fun _ => ⟨fun h e => h (by omega), fun h e => h (by omega)⟩
      rw [hcond]
      cases hgl : tru (GL es y b v) with
      | true =>
        rw [cond_true]
        have hgl' := tru_iff.1 hgl
        obtain ⟨hR, _⟩ := hB.rch v hv hvis
        have hgoal : ∀ o : Option (List Int), (∃ r : List Int, o = some r ∧ r.isEmpty = false ∧ PA m x (JJ m es) (GL es y b) r) → GQ m x (JJ m es) (GL es y b) o := fun o ⟨r, e1, e2, e3⟩ => ⟨r, e1, ⟨fun _ => ⟨v, hv, hR, hgl'⟩, fun _ => e2⟩, fun _ => e3⟩
        apply hgoal
        have hd6 : ∀ u, u < m → 0 ≤ nbz nxt u → d u < 6 := fun u hu h0 => by
          have := (hB.rch u hu h0).2; have := hvc nxt; omega
        refine whileK_q (Q := fun o => ∃ r : List Int, o = some r ∧ r.isEmpty = false ∧ PA m x (JJ m es) (GL es y b) r) (fun (s : Int × List Int) => ∃ u : Nat, s.1 = u ∧ u < m ∧ 0 ≤ nbz nxt u ∧ 0 < s.2.length ∧ s.2.length + d u ≤ 10 ∧ (GL es y b x → s.2.length = 1 ∧ u = x) ∧ ∃ w, s.2 = w.map (fun z : Nat => (z : Int)) ∧ PC m (JJ m es) v w u ∧ ∀ z ∈ w, d u ≤ d z) (fun s => d s.1.toNat) (fun s nx' hI' hn' => ?_) 200 _ ⟨v, rfl, hv, hvis, by simp, by have := hd6 v hv hvis; simp only [List.length_singleton]; omega, fun h => ⟨rfl, hvx h⟩, [v], rfl, .one hv, fun z hz => by rw [List.mem_singleton.1 hz]; exact Nat.le_refl _⟩ (by have := hd6 v hv hvis; simp only [Int.toNat_natCast]; omega)
        obtain ⟨i, l⟩ := s
        obtain ⟨u, rfl, hu, huv, hlp, hld, hone, w0, hw0, hpc, hdz⟩ := hI'
        simp only at hlp hld hw0 hone hn' ⊢
        unfold grant_graph_path_b47
        by_cases hux : u = x
        · subst hux
          rw [bne_self_eq_false, cond_false]
          unfold grant_graph_path_k45
          rw [decide_eq_true hlp, cond_true]
          exact ⟨l, rfl, by cases l with | nil => simp at hlp | cons _ _ => rfl, ⟨v, w0, hw0, hpc, hgl'⟩, fun h => (hone h).1⟩
        · have hne : ((u : Int) != (x : Int)) = true := by rw [bne_iff_ne]; omega
          obtain ⟨w, w1, w2, w3, w4, w5⟩ := hB.up u hu huv hux
          have hgu : geti nxt (u : Int) = some (nbz nxt u) := geti_d (-1) (by rw [hB.len]; exact hu)
          rw [hne, cond_true, hgu, Option.bind_some, decide_eq_true (by simp; omega), cond_true, Option.bind_some, w2]
          refine hn' _ ⟨w, rfl, w1, w3, by simp, by simp only [List.length_append, List.length_singleton]; omega, fun h => absurd (hone h).2 hux, w0 ++ [w], by simp only [hw0, List.map_append, List.map_cons, List.map_nil], .snoc hpc w1 w5 fun hm' => ?_, fun z hz => ?_⟩ ?_
          · have := hdz w hm'; omega
          · rcases List.mem_append.1 hz with hz | hz
            · have := hdz z hz; omega
            · rw [List.mem_singleton.1 hz]; exact Nat.le_refl _
          simp only [Int.toNat_natCast]; exact w4
      | false =>
        rw [cond_false]
        have hngl : ¬GL es y b v := fun h => by rw [tru_iff.2 h] at hgl; cases hgl
        refine for0_q (n := m) (Q := GQ m x (JJ m es) (GL es y b)) (fun t (s : List Int × List Int) => (∃ d, BQ m x (JJ m es) (GL es y b) s.1 s.2 d) ∧ (∃ r, s.1 = (v : Int) :: r) ∧ 0 ≤ nbz s.2 v ∧ (∀ j, j < t → JJ m es v j → 0 ≤ nbz s.2 j) ∧ 2 * (m - vc m s.2) + s.1.length ≤ 2 * (m - vc m nxt) + (q.length + 1)) (by rw [hl]) ((v : Int) :: q, nxt) ⟨⟨d, hB⟩, ⟨q, rfl⟩, hvis, fun j h => by omega, by simp⟩ (fun t s nx' ht hI' hn' => ?_) (fun s hI' => ?_)
        · obtain ⟨q', n'⟩ := s
          obtain ⟨⟨d', hB'⟩, ⟨r, hr'⟩, hv', hJ', hmu⟩ := hI'
          simp only at hB' hr' hv' hJ' hmu ⊢
          unfold grant_graph_path_b77
          have hgt : geti n' (t : Int) = some (nbz n' t) := geti_d (-1) (by rw [hB'.len]; exact ht)
          rw [hgt, Option.bind_some, joined_eq hm hG hv ht]
          simp only [Option.isSome_some, Bool.or_true, cond_true, Option.getD_some]
          by_cases hc : nbz n' t < 0 ∧ JJ m es v t
          · rw [decide_eq_true hc.1, tru_iff.2 hc.2, Bool.and_self, cond_true, Option.bind_some, Int.toNat_natCast]
            obtain ⟨hB2, hc2⟩ := hB'.add hv hv' ht hc.1 hc.2
            have hvc2 := hvc (n'.set t (v : Int))
            have hq' : q'.length ≤ 100 := by have := hvc n'; omega
            rw [decide_eq_true (by simp; omega), cond_true]
            have hs := nbz_set (l := n') (j := t) (x := (v : Int)) (by rw [hB'.len]; exact ht)
            refine hn' _ ⟨⟨_, hB2⟩, ⟨r ++ [(t : Int)], by simp [hr']⟩, ?_, fun j hj hJ => ?_, ?_⟩
            · simp only; rw [hs]; split <;> omega
            · simp only
              rw [hs]
              by_cases e : j = t
              · rw [if_pos e]; omega
              · rw [if_neg e]; exact hJ' j (by omega) hJ
            · simp only [List.length_append, List.length_singleton]
              omega
          · have hcf : (decide (nbz n' t < 0) && tru (JJ m es v t)) = false := by
              rw [← Bool.not_eq_true, Bool.and_eq_true, decide_eq_true_eq, tru_iff]; exact hc
            rw [hcf, cond_false]
            refine hn' _ ⟨⟨d', hB'⟩, ⟨r, hr'⟩, hv', fun j hj hJ => ?_, hmu⟩
            by_cases e : j = t
            · subst e
              apply Classical.byContradiction
              intro h0
              have h0' : ¬0 ≤ nbz n' j := h0
              exact hc ⟨by omega, hJ⟩
            · exact hJ' j (by omega) hJ
        · obtain ⟨q', n'⟩ := s
          obtain ⟨⟨d', hB'⟩, ⟨r, hr'⟩, hv', hJ', hmu⟩ := hI'
          simp only at hB' hr' hv' hJ' hmu ⊢
          subst hr'
          unfold grant_graph_path_k72
          rw [decide_eq_true (by simp; omega), cond_true]
          refine hn _ ⟨?_, fun h => absurd (by rw [hvx h]; exact h) hngl, d', hB'.len, fun z hz => hB'.qn z (List.mem_of_mem_drop hz), hB'.rch, hB'.up, hB'.xin, fun w hw h0 hnq => ?_⟩ ?_
          · have hdr : (((v : Int) :: r).drop ((1 : Int)).toNat) = r := rfl
            simp only [hdr, List.length_cons] at hmu ⊢
            omega
          · have hdr : (((v : Int) :: r).drop ((1 : Int)).toNat) = r := rfl
            simp only at hnq
            rw [hdr] at hnq
            by_cases e : w = v
            · subst e; exact ⟨hngl, fun j hj hJ => hJ' j hj hJ⟩
            · refine hB'.done w hw h0 fun hm' => ?_
              rcases List.mem_cons.1 hm' with h' | h'
              · exact e (by omega)
              · exact hnq h'
          · have hdr : (((v : Int) :: r).drop ((1 : Int)).toNat) = r := rfl
            simp only [hdr, List.length_cons] at hmu ⊢
            omega
  · by_cases e : v = x
    · subst e
      refine ⟨.refl, ?_⟩
      have : vc m ((List.replicate m (-1)).set v (v : Int)) ≠ 0 := fun h0 => by
        have := cnt_zero.1 h0 v hx
        simp only [decide_eq_false_iff_not] at this
        rw [hs0, if_pos rfl] at this; omega
      exact Nat.pos_of_ne_zero this
    · simp only at h0
      rw [hs0, if_neg e, hrep] at h0; omega
  · simp only at h0
    rw [hs0, if_neg hne, hrep] at h0; omega
  · simp only at h0 hnq
    by_cases e : v = x
    · subst e; simp at hnq
    · rw [hs0, if_neg e, hrep] at h0; omega
end Go.Proofs.Ytehfjfaanhdbaaa.Sy
