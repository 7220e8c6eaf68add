/- Refutation: the plain law; no program in sight. -/
import Derived.Test.YtmggbhpieikdpaaM1b
namespace Go.Proofs.Ytmggbhpieikdpaa.Sy
set_option linter.unusedVariables false

theorem nodup_len' {α : Type} [DecidableEq α] : ∀ {l t : List α}, l.Nodup → (∀ x ∈ l, x ∈ t) → l.length ≤ t.length
  | [], t, _, _ => by simp
  | a :: l, t, hd, hs => by
    rw [List.nodup_cons] at hd
    have ha : a ∈ t := hs a (by simp)
    have := nodup_len' (t := t.erase a) hd.2 fun x hx => by
      have hne : x ≠ a := fun e => hd.1 (e ▸ hx)
      exact (List.mem_erase_of_ne hne).2 (hs x (by simp [hx]))
    rw [List.length_erase_of_mem ha] at this
    have hp := List.length_pos_of_mem ha
    simp; omega

/-! ### One step -/
theorem low_small : ∀ y : Nat, y < 64 → y ≠ 0 → ∃ v, v < 6 ∧ y.testBit v = true ∧ (∀ u, u < v → y.testBit u = false) ∧ (BitVec.ofNat 32 y &&& (0 - BitVec.ofNat 32 y)) = 1#32 <<< v := by decide +kernel
theorem low_bit {x : BitVec 32} (hx : x.toNat < 64) (h0 : x ≠ 0#32) : ∃ v, v < 6 ∧ x.getLsbD v = true ∧ (∀ u, u < v → x.getLsbD u = false) ∧ (x &&& (0 - x)) = 1#32 <<< v := by
  have hy : x.toNat ≠ 0 := fun e => h0 (BitVec.eq_of_toNat_eq (by rw [e]; rfl))
  obtain ⟨v, h1, h2, h3, h4⟩ := low_small x.toNat hx hy
  have hx' : BitVec.ofNat 32 x.toNat = x := by simp
  rw [hx'] at h4
  exact ⟨v, h1, h2, h3, h4⟩
abbrev emp : Clause := { yes := 0#32, no := 0#32 }
def rs (a b : Clause) : Clause × Bool :=
  bif ((a.yes &&& b.no) == 0#32) then (emp, false) else
    (({ yes := ((a.yes &&& ~~~((a.yes &&& b.no) &&& (0 - (a.yes &&& b.no)))) ||| b.yes), no := (a.no ||| (b.no &&& ~~~((a.yes &&& b.no) &&& (0 - (a.yes &&& b.no))))) } : Clause), true)
theorem res_eq (a b : Clause) : clause_Resolve a b = some (rs a b) := by
  unfold clause_Resolve rs
  cases ((a.yes &&& b.no) == 0#32) <;> rfl
theorem rs_ok {a b : Clause} (ha : bel 6 a.yes) (h : (rs a b).2 = true) : ∃ v, v < 6 ∧ a.yes.getLsbD v = true ∧ b.no.getLsbD v = true ∧ (∀ u, u < v → ¬(a.yes.getLsbD u = true ∧ b.no.getLsbD u = true)) ∧ (rs a b).1 = ({ yes := without a.yes v ||| b.yes, no := a.no ||| without b.no v } : Clause) := by
  unfold rs at h ⊢
  cases hc : ((a.yes &&& b.no) == 0#32) with
  | true => rw [hc] at h; cases h
  | false =>
    rw [beq_eq_false_iff_ne] at hc
    have hb : bel 6 (a.yes &&& b.no) := fun j hj => by
      rw [BitVec.getLsbD_and, Bool.and_eq_true] at hj
      exact ha j hj.1
    obtain ⟨v, h1, h2, h3, h4⟩ := low_bit (bel_toNat.1 hb) hc
    rw [BitVec.getLsbD_and, Bool.and_eq_true] at h2
    refine ⟨v, h1, h2.1, h2.2, fun u hu h => ?_, ?_⟩
    · have := h3 u hu
      rw [BitVec.getLsbD_and, h.1, h.2] at this; cases this
    · rw [cond_false, h4]; rfl
theorem rs_yes {a b : Clause} {v : Nat} (h1 : a.yes.getLsbD v = true) (h2 : b.no.getLsbD v = true) : (rs a b).2 = true := by
  unfold rs
  have : ((a.yes &&& b.no) == 0#32) = false := by
    rw [← Bool.not_eq_true]
    intro h
    have := and0.1 h v h1
    rw [h2] at this; cases this
  rw [this]; rfl
theorem rs_no {a b : Clause} (h : (rs a b).2 = false) : rs a b = (emp, false) ∧ ∀ i, a.yes.getLsbD i = true → b.no.getLsbD i = false := by
  unfold rs at h ⊢
  cases hc : ((a.yes &&& b.no) == 0#32) with
  | true => exact ⟨rfl, and0.1 hc⟩
  | false => rw [hc] at h; cases h
theorem or_b (a b : BitVec 32) (i : Nat) : (a ||| b).getLsbD i = true ↔ a.getLsbD i = true ∨ b.getLsbD i = true := by
  rw [BitVec.getLsbD_or, Bool.or_eq_true]
theorem rs_sound {a b : Clause} (ha : bel 6 a.yes) (h : (rs a b).2 = true) {t : BitVec 32} (h1 : CS a t) (h2 : CS b t) : CS (rs a b).1 t := by
  obtain ⟨v, _, _, _, _, e⟩ := rs_ok ha h
  rw [e]
  unfold CS
  simp only [or_b, without_bit]
  cases ht : t.getLsbD v with
  | true =>
    rcases h2 with ⟨i, i1, i2⟩ | ⟨i, i1, i2⟩
    · exact .inl ⟨i, .inr i1, i2⟩
    · exact .inr ⟨i, .inr ⟨i1, fun e => by subst e; rw [ht] at i2; cases i2⟩, i2⟩
  | false =>
    rcases h1 with ⟨i, i1, i2⟩ | ⟨i, i1, i2⟩
    · exact .inl ⟨i, .inl ⟨i1, fun e => by subst e; rw [ht] at i2; cases i2⟩, i2⟩
    · exact .inr ⟨i, .inl i1, i2⟩
theorem rs_bel {k : Nat} (hk : k ≤ 6) {a b : Clause} (ha : bel k a.yes) (ha' : bel k a.no) (hb : bel k b.yes) (hb' : bel k b.no) (h : (rs a b).2 = true) : bel k (rs a b).1.yes ∧ bel k (rs a b).1.no := by
  obtain ⟨v, _, _, _, _, e⟩ := rs_ok (fun j hj => by have := ha j hj; omega) h
  rw [e]
  refine ⟨fun j hj => ?_, fun j hj => ?_⟩
  · rcases (or_b _ _ _).1 hj with h | h
    · exact ha j ((without_bit _ _ _).1 h).1
    · exact hb j h
  · rcases (or_b _ _ _).1 hj with h | h
    · exact ha' j h
    · exact hb' j ((without_bit _ _ _).1 h).1
theorem refRes_eq {a b : Clause} (ha : bel 6 a.yes) : syllogistref_Resolve a b = some (rs a b) := by
  unfold syllogistref_Resolve
  refine for0_q (n := 32) (Q := fun o => o = some (rs a b)) (fun j _ => ∀ u, u < j → ¬(a.yes.getLsbD u = true ∧ b.no.getLsbD u = true)) rfl () (fun u hu => by omega) (fun j _ nx hj hI hn => ?_) (fun _ hI => ?_)
  · unfold syllogistref_Resolve_b12
    rw [bit_eq _ _ hj, Option.bind_some, bit_eq _ _ hj]
    simp only [Option.isSome_some, Bool.or_true, cond_true, Option.getD_some]
    cases h : a.yes.getLsbD j && b.no.getLsbD j with
    | true =>
      rw [cond_true, ofInt64 (by omega)]
      rw [Bool.and_eq_true] at h
      have h2 := rs_yes h.1 h.2
      obtain ⟨v, v1, v2, v3, v4, e⟩ := rs_ok ha h2
      have hv : v = j := by
        rcases Nat.lt_trichotomy v j with h' | h' | h'
        · exact absurd ⟨v2, v3⟩ (hI v h')
        · exact h'
        · exact absurd h (v4 j h')
      subst hv
      congr 1
      exact (Prod.ext e h2).symm
    | false =>
      rw [cond_false]
      refine hn () fun u hu => ?_
      by_cases e : u = j
      · subst e
        intro h'
        rw [h'.1, h'.2] at h; cases h
      · exact hI u (by omega)
  · unfold syllogistref_Resolve_k9
    cases h : (rs a b).2 with
    | false => rw [(rs_no h).1]
    | true =>
      obtain ⟨v, v1, v2, v3, _, _⟩ := rs_ok ha h
      exact absurd ⟨v2, v3⟩ (hI v (by omega))

/-! ### What is closed and has no empty clause is true of some word -/
theorem sat_of {k : Nat} (hk : k ≤ 6) {S : Clause → Prop} (hb : ∀ c, S c → bel k c.yes ∧ bel k c.no) (hne : ¬S emp)
    (hs : ∀ a b, S a → S b → (rs a b).2 = true → ((rs a b).1.yes &&& (rs a b).1.no) = 0#32 → S (rs a b).1) : ∃ t, bel k t ∧ ∀ c, S c → CS c t := by
  have key : ∀ j, j ≤ k → ∃ t, bel j t ∧ ∀ c, S c → bel j c.yes → bel j c.no → CS c t := by
    intro j
    induction j with
    | zero =>
      intro _
      refine ⟨0#32, fun i hi => by simp at hi, fun c hc h1 h2 => ?_⟩
      have e : c = emp := by
        have e1 : c.yes = 0#32 := bits_ext fun i => ⟨fun h => absurd (h1 i h) (by omega), fun h => by simp at h⟩
        have e2 : c.no = 0#32 := bits_ext fun i => ⟨fun h => absurd (h2 i h) (by omega), fun h => by simp at h⟩
        cases c; simp only at e1 e2; rw [e1, e2]
      exact absurd (e ▸ hc) hne
    | succ j ih =>
      intro hj
      obtain ⟨t, ht, hT⟩ := ih (by omega)
      by_cases hA : ∀ c, S c → bel (j + 1) c.yes → bel (j + 1) c.no → CS c t
      · exact ⟨t, fun i hi => by have := ht i hi; omega, hA⟩
      by_cases hB : ∀ c, S c → bel (j + 1) c.yes → bel (j + 1) c.no → CS c (t ||| 1#32 <<< j)
      · refine ⟨_, fun i hi => ?_, hB⟩
        rcases (or_b _ _ _).1 hi with h | h
        · have := ht i h; omega
        · have := (one_shl j i).1 h; omega
      exfalso
      simp only [Classical.not_forall] at hA hB
      obtain ⟨a, hSa, ay, an, hca⟩ := hA
      obtain ⟨b, hSb, by', bn, hcb⟩ := hB
      have htj : t.getLsbD j = false := by
        cases h : t.getLsbD j with
        | true => have := ht j h; omega
        | false => rfl
      have ht' : ∀ i, (t ||| 1#32 <<< j).getLsbD i = true ↔ t.getLsbD i = true ∨ i = j := fun i => by
        rw [or_b, one_shl]
        exact ⟨fun h => h.imp id And.left, fun h => h.imp id fun e => ⟨e, by omega⟩⟩
      have a1 : ∀ i, a.yes.getLsbD i = true → t.getLsbD i = false := fun i hi => by
        cases h : t.getLsbD i with
        | true => exact absurd (.inl ⟨i, hi, h⟩) hca
        | false => rfl
      have a2 : ∀ i, a.no.getLsbD i = true → t.getLsbD i = true := fun i hi => by
        cases h : t.getLsbD i with
        | true => rfl
        | false => exact absurd (.inr ⟨i, hi, h⟩) hca
      have b1 : ∀ i, b.yes.getLsbD i = true → ¬(t.getLsbD i = true ∨ i = j) := fun i hi h => hcb (.inl ⟨i, hi, (ht' i).2 h⟩)
      have b2 : ∀ i, b.no.getLsbD i = true → t.getLsbD i = true ∨ i = j := fun i hi => by
        cases h : (t ||| 1#32 <<< j).getLsbD i with
        | true => exact (ht' i).1 h
        | false => exact absurd (.inr ⟨i, hi, h⟩) hcb
      have haj : a.yes.getLsbD j = true := by
        apply Classical.byContradiction
        intro hn
        refine hca (hT a hSa (fun i hi => ?_) fun i hi => ht i (a2 i hi))
        have := ay i hi
        have : i ≠ j := fun e => hn (e ▸ hi)
        omega
      have hbj : b.no.getLsbD j = true := by
        apply Classical.byContradiction
        intro hn
        have hb' := hT b hSb (fun i hi => by
          have := by' i hi
          have : i ≠ j := fun e => b1 i hi (.inr e)
          omega) (fun i hi => by
          have := bn i hi
          have : i ≠ j := fun e => hn (e ▸ hi)
          omega)
        rcases hb' with ⟨i, h1, h2⟩ | ⟨i, h1, h2⟩
        · exact b1 i h1 (.inl h2)
        · rcases b2 i h1 with h | h
          · rw [h2] at h; cases h
          · subst h; exact hn h1
      have hr := rs_yes haj hbj
      obtain ⟨v, v1, v2, v3, _, e⟩ := rs_ok (fun i hi => by have := (hb a hSa).1 i hi; omega) hr
      have hv : v = j := by
        rcases b2 v v3 with h | h
        · rw [a1 v v2] at h; cases h
        · exact h
      subst hv
      have ry : ∀ i, (rs a b).1.yes.getLsbD i = true → t.getLsbD i = false := fun i hi => by
        rw [e] at hi
        rcases (or_b _ _ _).1 hi with h | h
        · exact a1 i ((without_bit _ _ _).1 h).1
        · cases h' : t.getLsbD i with
          | true => exact absurd (.inl h') (b1 i h)
          | false => rfl
      have rn : ∀ i, (rs a b).1.no.getLsbD i = true → t.getLsbD i = true := fun i hi => by
        rw [e] at hi
        rcases (or_b _ _ _).1 hi with h | h
        · exact a2 i h
        · obtain ⟨h1, h2⟩ := (without_bit _ _ _).1 h
          exact (b2 i h1).resolve_right h2
      have htaut : ((rs a b).1.yes &&& (rs a b).1.no) = 0#32 := bits_ext fun i => by
        rw [BitVec.getLsbD_and, Bool.and_eq_true]
        refine ⟨fun h => ?_, fun h => by simp at h⟩
        have := ry i h.1
        rw [rn i h.2] at this; cases this
      have hS := hs a b hSa hSb hr htaut
      have hc := hT _ hS (fun i hi => by
        rw [e] at hi
        rcases (or_b _ _ _).1 hi with h | h
        · obtain ⟨h1, h2⟩ := (without_bit _ _ _).1 h
          have := ay i h1; omega
        · have := by' i h
          have : i ≠ v := fun e => b1 i h (.inr e)
          omega) (fun i hi => ht i (rn i hi))
      rcases hc with ⟨i, h1, h2⟩ | ⟨i, h1, h2⟩
      · rw [ry i h1] at h2; cases h2
      · rw [rn i h1] at h2; cases h2
  obtain ⟨t, h1, h2⟩ := key k (Nat.le_refl _)
  exact ⟨t, h1, fun c hc => h2 c hc (hb c hc).1 (hb c hc).2⟩

/-! ### What has been made, and by which -/
theorem cl_app {l r : List Clause} {i : Nat} (h : i < l.length) : cl (l ++ r) i = cl l i := by
  unfold cl; rw [List.getElem?_append_left h]
theorem cl_last (l : List Clause) (c : Clause) : cl (l ++ [c]) l.length = c := by
  unfold cl; simp
structure PJ (l : List Clause) (k : Nat) (bys : List (Int × Int)) (all : List Clause) : Prop where
  len : bys.length = all.length
  le : l.length ≤ all.length
  pre : ∀ i, i < l.length → cl all i = cl l i
  der : ∀ i, l.length ≤ i → i < all.length → ∃ a b : Nat, a < i ∧ b < i ∧ bys[i]? = some ((a : Int), (b : Int)) ∧ rs (cl all a) (cl all b) = (cl all i, true)
  bel : ∀ i, i < all.length → bel k (cl all i).yes ∧ bel k (cl all i).no
theorem PJ.add {l : List Clause} {k : Nat} (hk : k ≤ 6) {bys : List (Int × Int)} {all : List Clause} (h : PJ l k bys all) {a b : Nat} (ha : a < all.length) (hb : b < all.length) {c : Clause} (hr : rs (cl all a) (cl all b) = (c, true)) : PJ l k (bys ++ [((a : Int), (b : Int))]) (all ++ [c]) := by
  constructor
  · simp [h.len]
  · have := h.le; simp; omega
  · intro i hi
    rw [cl_app (by have := h.le; omega)]; exact h.pre i hi
  · intro i h1 h2
    rw [List.length_append, List.length_singleton] at h2
    by_cases e : i < all.length
    · obtain ⟨x, y, q1, q2, q3, q4⟩ := h.der i h1 e
      refine ⟨x, y, q1, q2, ?_, ?_⟩
      · rw [List.getElem?_append_left (by rw [h.len]; exact e)]; exact q3
      · rw [cl_app (by omega), cl_app (by omega), cl_app e]; exact q4
    · have : i = all.length := by omega
      subst this
      refine ⟨a, b, ha, hb, ?_, ?_⟩
      · rw [← h.len]; simp
      · rw [cl_app ha, cl_app hb, cl_last]; exact hr
  · intro i hi
    rw [List.length_append, List.length_singleton] at hi
    by_cases e : i < all.length
    · rw [cl_app e]; exact h.bel i e
    · have : i = all.length := by omega
      subst this
      rw [cl_last]
      have := rs_bel hk (h.bel a ha).1 (h.bel a ha).2 (h.bel b hb).1 (h.bel b hb).2 (by rw [hr])
      rw [hr] at this; exact this
theorem PJ.sound {l : List Clause} {k : Nat} (hk : k ≤ 6) {bys : List (Int × Int)} {all : List Clause} (h : PJ l k bys all) {t : BitVec 32} (ht : ∀ i, i < l.length → CS (cl l i) t) : ∀ i, i < all.length → CS (cl all i) t := by
  intro i
  induction i using Nat.strongRecOn with
  | _ i ih =>
    intro hi
    by_cases e : i < l.length
    · rw [h.pre i e]; exact ht i e
    · obtain ⟨a, b, q1, q2, _, q4⟩ := h.der i (by omega) hi
      have := rs_sound (a := cl all a) (b := cl all b) (t := t) (fun j hj => by have := (h.bel a (by omega)).1 j hj; omega) (by rw [q4]) (ih a q1 (by omega)) (ih b q2 (by omega))
      rw [q4] at this; exact this

/-! ### Those that are needed -/
abbrev bt (l : List Bool) (i : Nat) : Bool := l[i]?.getD false
theorem bt_set {l : List Bool} {j : Nat} (hj : j < l.length) (k : Nat) : bt (l.set j true) k = if k = j then true else bt l k := by
  unfold bt
  rw [List.getElem?_set]
  by_cases e : k = j
  · subst e; simp [hj]
  · rw [if_neg (fun h => e h.symm), if_neg e]
abbrev nb (l : List Int) (i : Nat) : Int := l[i]?.getD 0
theorem nb_set {l : List Int} {j : Nat} {x : Int} (hj : j < l.length) (k : Nat) : nb (l.set j x) k = if k = j then x else nb l k := by
  unfold nb
  rw [List.getElem?_set]
  by_cases e : k = j
  · subst e; simp [hj]
  · rw [if_neg (fun h => e h.symm), if_neg e]

/-- Pairs that make L of l, one behind the other. -/
structure RP (l : List Clause) (out : List (Int × Int)) (L : List Clause) : Prop where
  len : L.length = l.length + out.length
  pre : ∀ i, i < l.length → cl L i = cl l i
  st : ∀ t, t < out.length → ∃ x y : Nat, x < l.length + t ∧ y < l.length + t ∧ out[t]? = some ((x : Int), (y : Int)) ∧ rs (cl L x) (cl L y) = (cl L (l.length + t), true)
  bel : ∀ i, i < L.length → bel 6 (cl L i).yes

theorem RP.refutes {l : List Clause} {out : List (Int × Int)} {L : List Clause} (h : RP l out L) (hl : l.length ≤ 16) (ho : out.length ≤ 5000) (h0 : 0 < out.length) (he : cl L (L.length - 1) = emp) : syllogistref_Refutes l out = some true := by
  have hL := h.len
  unfold syllogistref_Refutes
  rw [decide_eq_true (by simp; omega), cond_true]
  have hz : ((out.length : Int) == (0 : Int)) = false := by rw [beq_eq_false_iff_ne]; omega
  rw [hz, cond_false, List.nil_append]
  refine for0_q (n := out.length) (Q := fun o => o = some true) (fun t (s : List Clause) => s = L.take (l.length + t)) rfl l ?_ (fun t s nx ht hI hn => ?_) (fun s hI => ?_)
  · apply List.ext_getElem?
    intro i
    rw [List.getElem?_take]
    by_cases hi : i < l.length
    · rw [if_pos (by omega)]
      have := h.pre i hi
      unfold cl at this
      rw [List.getElem?_eq_getElem hi, List.getElem?_eq_getElem (by omega)] at this ⊢
      simp only [Option.getD_some] at this
      rw [this]
    · rw [if_neg (by omega), List.getElem?_eq_none (by omega)]
  · subst hI
    obtain ⟨x, y, q1, q2, q3, q4⟩ := h.st t ht
    unfold syllogistref_Refutes_b32
    have hg : geti out (t : Int) = some ((x : Int), (y : Int)) := by rw [geti_nat?, q3]
    rw [hg, Option.bind_some]
    simp only
    have hlen : (L.take (l.length + t)).length = l.length + t := by rw [List.length_take]; omega
    have hcl : ∀ i, i < l.length + t → cl (L.take (l.length + t)) i = cl L i := fun i hi => by
      unfold cl; rw [List.getElem?_take, if_pos hi]
    have hb : ((((decide ((x : Int) < (0 : Int))) || (decide ((y : Int) < (0 : Int)))) || (decide ((x : Int) ≥ ((L.take (l.length + t)).length : Int)))) || (decide ((y : Int) ≥ ((L.take (l.length + t)).length : Int)))) = false := by
      rw [hlen]
      simp only [Bool.or_eq_false_iff, decide_eq_false_iff_not]
      omega
    rw [hb, cond_false, geti_cl (by omega), Option.bind_some, geti_cl (by omega), Option.bind_some, hcl x q1, hcl y q2, refRes_eq (h.bel x (by omega)), Option.bind_some, q4]
    simp only [Bool.not_true, cond_false]
    rw [decide_eq_true (by simp; omega), cond_true]
    refine hn _ ?_
    have hlt : l.length + t < L.length := by omega
    rw [show l.length + (t + 1) = l.length + t + 1 by omega, ← List.take_append_getElem hlt]
    congr 1
    show [cl L (l.length + t)] = _
    unfold cl
    rw [List.getElem?_eq_getElem hlt]; rfl
  · subst hI
    unfold syllogistref_Refutes_k26
    rw [← hL, List.take_length, w64_id (by omega) (by omega)]
    have e : (L.length : Int) - 1 = ((L.length - 1 : Nat) : Int) := by omega
    rw [e, geti_cl (by omega), Option.bind_some, he]
    rfl

theorem needed_ok {l : List Clause} {k : Nat} (hk : k ≤ 6) (hl : l.length ≤ 16) {bys : List (Int × Int)} {all : List Clause} (h : PJ l k bys all) (hlt : l.length < all.length) (hmax : all.length ≤ 5000) (he : cl all (all.length - 1) = emp) (fuel : Nat) (hf : 6000 < fuel) : ∃ out, clause_needed fuel (l.length : Int) bys = some out ∧ syllogistref_Refutes l out = some true := by
  have hlen := h.len
  unfold clause_needed
  have hby : bys.length ≤ 5000 := by omega
  rw [decide_eq_true (by omega), cond_true, w64_id (by omega) (by omega), Int.toNat_natCast]
  have e1 : (bys.length : Int) - 1 = ((bys.length - 1 : Nat) : Int) := by omega
  rw [e1, geti_d false (by simp; omega), Option.bind_some, Int.toNat_natCast]
  refine whileK_q (Q := fun o => ∃ out, o = some out ∧ syllogistref_Refutes l out = some true)
    (fun (s : Int × List Bool) => s.2.length = bys.length ∧ bt s.2 (bys.length - 1) = true ∧ (l.length : Int) - 1 ≤ s.1 ∧ s.1 < bys.length ∧ ∀ i : Nat, s.1 < i → l.length ≤ i → i < bys.length → bt s.2 i = true → ∀ a b : Nat, bys[i]? = some ((a : Int), (b : Int)) → bt s.2 a = true ∧ bt s.2 b = true)
    (fun s => (s.1 + 1).toNat) (fun s nx hI hn => ?_) fuel _ ⟨by simp, ?_, by simp only; omega, by simp only; omega, fun i h1 h2 h3 => by simp only at h1; omega⟩ (by simp only; omega)
  · obtain ⟨i, need⟩ := s
    obtain ⟨j1, j2, j3, j4, j5⟩ := hI
    simp only at j1 j2 j3 j4 j5 hn ⊢
    unfold clause_needed_b58
    by_cases hi : i ≥ (l.length : Int)
    · rw [decide_eq_true hi, cond_true]
      obtain ⟨m, rfl⟩ : ∃ m : Nat, i = m := ⟨i.toNat, by omega⟩
      rw [geti_d false (by omega), Option.bind_some, w64_id (by omega) (by omega)]
      obtain ⟨a, b, q1, q2, q3, _⟩ := h.der m (by omega) (by omega)
      cases hb : bt need m with
      | true =>
        have hb' : need[m]?.getD false = true := hb
        rw [hb', cond_true, geti_nat?, q3, Option.bind_some]
        simp only [Int.toNat_natCast]
        rw [geti_d false (by omega), Option.bind_some, geti_d false (by rw [List.length_set]; omega), Option.bind_some]
        have hs1 := bt_set (l := need) (j := a) (by omega)
        have hs2 := bt_set (l := need.set a true) (j := b) (by rw [List.length_set]; omega)
        have mono : ∀ t, bt need t = true → bt ((need.set a true).set b true) t = true := fun t ht => by
          rw [hs2, hs1]; split
          · rfl
          · split
            · rfl
            · exact ht
        have ha : bt ((need.set a true).set b true) a = true := by rw [hs2, hs1]; split <;> simp
        have hbb : bt ((need.set a true).set b true) b = true := by rw [hs2, if_pos rfl]
        refine hn _ ⟨by simp only [List.length_set]; exact j1, mono _ j2, by simp only; omega, by simp only; omega, fun t h1 h2 h3 h4 x y hxy => ?_⟩ (by simp only; omega)
        simp only at h1 h4 ⊢
        by_cases et : t = m
        · subst et
          rw [q3] at hxy
          have e := Option.some.inj hxy
          have ex : a = x := by have := congrArg Prod.fst e; simp only at this; omega
          have ey : b = y := by have := congrArg Prod.snd e; simp only at this; omega
          subst ex; subst ey
          exact ⟨ha, hbb⟩
        · have h4' : bt need t = true := by
            rw [hs2, hs1] at h4
            rw [if_neg (by omega), if_neg (by omega)] at h4
            exact h4
          obtain ⟨u1, u2⟩ := j5 t (by omega) h2 h3 h4' x y hxy
          exact ⟨mono _ u1, mono _ u2⟩
      | false =>
        have hb' : need[m]?.getD false = false := hb
        rw [hb', cond_false]
        refine hn _ ⟨j1, j2, by simp only; omega, by simp only; omega, fun t h1 h2 h3 h4 x y hxy => ?_⟩ (by simp only; omega)
        simp only at h1 h4 ⊢
        by_cases et : t = m
        · subst et; rw [hb] at h4; cases h4
        · exact j5 t (by omega) h2 h3 h4 x y hxy
    · rw [decide_eq_false hi, cond_false]
      have hcl : ∀ i : Nat, l.length ≤ i → i < bys.length → bt need i = true → ∀ a b : Nat, bys[i]? = some ((a : Int), (b : Int)) → bt need a = true ∧ bt need b = true := fun t h2 h3 h4 => j5 t (by omega) h2 h3 h4
      unfold clause_needed_k14
      rw [decide_eq_true (by omega), cond_true, Int.toNat_natCast]
      refine for0_q (n := bys.length) (Q := fun o => ∃ out, o = some out ∧ syllogistref_Refutes l out = some true)
        (fun t (s : List (Int × Int) × List Int) => s.2.length = bys.length ∧ s.1.length ≤ t ∧ (l.length < t → bt need (t - 1) = true → 0 < s.1.length) ∧ ∃ L, RP l s.1 L ∧ (∀ i, i < t → (i < l.length ∨ bt need i = true) → ∃ x : Nat, nb s.2 i = x ∧ x < L.length ∧ cl L x = cl all i) ∧ (l.length < t → bt need (t - 1) = true → cl L (L.length - 1) = cl all (t - 1)))
        rfl ([], List.replicate bys.length 0) ⟨by simp, by simp, fun h => by omega, l, ⟨by simp, fun i _ => rfl, fun t ht => by simp at ht, fun i hi => ?_⟩, fun i hi => by omega, fun h => by omega⟩ (fun t s nx' ht hI' hn' => ?_) (fun s hI' => ?_)
      · have := (h.bel i (by omega)).1
        rw [h.pre i hi] at this
        exact fun j hj => by have := this j hj; omega
      · obtain ⟨out, num⟩ := s
        obtain ⟨n1, n2, n3, L, hR, n4, n5⟩ := hI'
        simp only at n1 n2 n3 hR n4 n5 ⊢
        have hRl := hR.len
        unfold clause_needed_b38
        have htb : t < bys.length := ht
        obtain ⟨p, hp⟩ : ∃ p, bys[t]? = some p := ⟨_, List.getElem?_eq_getElem htb⟩
        rw [geti_nat?, hp, Option.bind_some, geti_d 0 (by omega), Option.bind_some, geti_d false (by omega)]
        simp only [Option.isSome_some, Bool.or_true, cond_true, Option.getD_some, Int.toNat_natCast]
        have hs1 := nb_set (l := num) (j := t) (x := (t : Int)) (by omega)
        by_cases hc : (decide ((t : Int) ≥ (l.length : Int)) && need[t]?.getD false) = true
        · rw [hc, cond_true]
          rw [Bool.and_eq_true, decide_eq_true_eq] at hc
          obtain ⟨hge, hnd⟩ := hc
          obtain ⟨a, b, q1, q2, q3, q4⟩ := h.der t (by omega) (by omega)
          rw [hp] at q3
          cases q3
          obtain ⟨m1, m2⟩ := hcl t (by omega) htb hnd a b hp
          obtain ⟨x, x1, x2, x3⟩ := n4 a (by omega) (.inr m1)
          obtain ⟨y, y1, y2, y3⟩ := n4 b (by omega) (.inr m2)
          have hol : out.length ≤ 5000 := by omega
          rw [geti_d 0 (by rw [List.length_set]; omega), Option.bind_some, w64_id (by omega) (by omega)]
          have hs2 := nb_set (l := num.set t (t : Int)) (j := t) (x := (l.length : Int) + (out.length : Int)) (by rw [List.length_set]; omega)
          rw [geti_d 0 (by rw [List.length_set, List.length_set]; omega), Option.bind_some, geti_d 0 (by rw [List.length_set, List.length_set]; omega), Option.bind_some]
          have ea : ((num.set t (t : Int)).set t ((l.length : Int) + (out.length : Int)))[a]?.getD 0 = (x : Int) := by
            have := hs2 a
            rw [if_neg (by omega), hs1 a, if_neg (by omega), x1] at this
            exact this
          have eb : ((num.set t (t : Int)).set t ((l.length : Int) + (out.length : Int)))[b]?.getD 0 = (y : Int) := by
            have := hs2 b
            rw [if_neg (by omega), hs1 b, if_neg (by omega), y1] at this
            exact this
          rw [ea, eb, decide_eq_true (by simp; omega), cond_true]
          have hLl : (L ++ [cl all t]).length = L.length + 1 := by simp
          refine hn' _ ⟨by simp only [List.length_set]; exact n1, by simp; omega, fun _ _ => by simp, L ++ [cl all t], ⟨?_, fun i hi => ?_, fun u hu => ?_, fun i hi => ?_⟩, fun i hi hor => ?_, fun _ _ => ?_⟩
          · rw [hLl, hRl]; simp; omega
          · rw [cl_app (by omega)]; exact hR.pre i hi
          · simp only [List.length_append, List.length_singleton] at hu
            by_cases eu : u < out.length
            · obtain ⟨x', y', p1, p2, p3, p4⟩ := hR.st u eu
              refine ⟨x', y', p1, p2, by rw [List.getElem?_append_left eu]; exact p3, ?_⟩
              rw [cl_app (by omega), cl_app (by omega), cl_app (by omega)]; exact p4
            · have : u = out.length := by omega
              subst this
              refine ⟨x, y, by omega, by omega, by simp, ?_⟩
              rw [cl_app x2, cl_app y2, x3, y3, ← hRl, cl_last]; exact q4
          · rw [hLl] at hi
            by_cases ei : i < L.length
            · rw [cl_app ei]; exact hR.bel i ei
            · have : i = L.length := by omega
              subst this
              rw [cl_last]
              exact fun j hj => by have := (h.bel t (by omega)).1 j hj; omega
          · simp only
            by_cases ei : i = t
            · subst ei
              refine ⟨L.length, ?_, by omega, cl_last _ _⟩
              rw [hs2, if_pos rfl]; omega
            · obtain ⟨z, z1, z2, z3⟩ := n4 i (by omega) hor
              refine ⟨z, ?_, by omega, by rw [cl_app z2]; exact z3⟩
              rw [hs2, if_neg ei, hs1, if_neg ei]; exact z1
          · rw [hLl, Nat.add_sub_cancel, cl_last, Nat.add_sub_cancel]
        · rw [Bool.not_eq_true] at hc
          rw [hc, cond_false]
          rw [Bool.and_eq_false_iff, decide_eq_false_iff_not] at hc
          have hno : l.length ≤ t → bt need t = false := fun hge => hc.resolve_left (by omega)
          refine hn' _ ⟨by simp only [List.length_set]; exact n1, by simp only; omega, fun h1 h2 => ?_, L, hR, fun i hi hor => ?_, fun h1 h2 => ?_⟩
          · rw [Nat.add_sub_cancel] at h2
            rw [hno (by omega)] at h2; cases h2
          · simp only
            by_cases ei : i = t
            · subst ei
              have hil : i < l.length := by
                rcases hor with h' | h'
                · exact h'
                · apply Classical.byContradiction
                  intro hge
                  rw [hno (by omega)] at h'; cases h'
              refine ⟨i, ?_, by omega, ?_⟩
              · rw [hs1, if_pos rfl]
              · rw [hR.pre i hil, h.pre i hil]
            · obtain ⟨z, z1, z2, z3⟩ := n4 i (by omega) hor
              refine ⟨z, ?_, z2, z3⟩
              rw [hs1, if_neg ei]; exact z1
          · rw [Nat.add_sub_cancel] at h2
            rw [hno (by omega)] at h2; cases h2
      · obtain ⟨out, num⟩ := s
        obtain ⟨n1, n2, n3, L, hR, n4, n5⟩ := hI'
        simp only at n1 n2 n3 hR n4 n5 ⊢
        unfold clause_needed_k34
        refine ⟨out, rfl, hR.refutes hl (by omega) (n3 (by omega) j2) ?_⟩
        rw [n5 (by omega) j2, hlen, he]
  · have := bt_set (l := List.replicate bys.length false) (j := bys.length - 1) (by simp; omega) (bys.length - 1)
    rw [if_pos rfl] at this
    exact this
end Go.Proofs.Ytmggbhpieikdpaa.Sy
