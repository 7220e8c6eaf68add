/- Refutation, the loop and the law: the plain law; no program in sight. -/
import Derived.Test.YtmggbhpieikdpaaM7
namespace Go.Proofs.Ytmggbhpieikdpaa.Sy
set_option linter.unusedVariables false

theorem mem_cl {l : List Clause} {c : Clause} : c ∈ l ↔ ∃ i, i < l.length ∧ cl l i = c := by
  constructor
  · intro h
    obtain ⟨i, hi, e⟩ := List.getElem_of_mem h
    exact ⟨i, hi, by unfold cl; rw [List.getElem?_eq_getElem hi]; exact e⟩
  · rintro ⟨i, hi, rfl⟩
    rw [show cl l i = l[i] from getd_at _ hi]
    exact List.getElem_mem hi
structure DI (l : List Clause) (k : Nat) (S : List (Clause × Bool)) (bys : List (Int × Int)) (all : List Clause) : Prop where
  pj : PJ l k bys all
  mp : ∀ c, (mget S c).getD false = true ↔ c ∈ all
  ne : emp ∉ all
  nd : (all.drop l.length).Nodup
theorem DI.bound {l : List Clause} {k : Nat} (hk : k ≤ 6) (hl : l.length ≤ 16) {S : List (Clause × Bool)} {bys : List (Int × Int)} {all : List Clause} (h : DI l k S bys all) : all.length ≤ 4112 := by
  have hb : ∀ c ∈ all, c.yes.toNat < 64 ∧ c.no.toNat < 64 := fun c hc => by
    obtain ⟨i, hi, rfl⟩ := mem_cl.1 hc
    obtain ⟨h1, h2⟩ := h.pj.bel i hi
    exact ⟨bel64 hk h1, bel64 hk h2⟩
  have := nodup_len' (l := (all.drop l.length).map fun c => c.yes.toNat * 64 + c.no.toNat) (t := List.range 4096) (by
    unfold List.Nodup
    rw [List.pairwise_map]
    refine List.Pairwise.imp_of_mem (fun {a b} ha hb' hab e => hab ?_) h.nd
    obtain ⟨a1, a2⟩ := hb a (List.mem_of_mem_drop ha)
    obtain ⟨b1, b2⟩ := hb b (List.mem_of_mem_drop hb')
    have e1 : a.yes = b.yes := BitVec.eq_of_toNat_eq (by omega)
    have e2 : a.no = b.no := BitVec.eq_of_toNat_eq (by omega)
    cases a; cases b; simp only at e1 e2; rw [e1, e2]) (fun x hx => by
    obtain ⟨c, hc, rfl⟩ := List.mem_map.1 hx
    obtain ⟨c1, c2⟩ := hb c (List.mem_of_mem_drop hc)
    exact List.mem_range.2 (by omega))
  rw [List.length_map, List.length_range, List.length_drop] at this
  omega

def Dn (all : List Clause) (a b : Nat) : Prop := (rs (cl all a) (cl all b)).2 = true → ((rs (cl all a) (cl all b)).1.yes &&& (rs (cl all a) (cl all b)).1.no) = 0#32 → (rs (cl all a) (cl all b)).1 ∈ all
theorem Dn.mono {all r : List Clause} {a b : Nat} (ha : a < all.length) (hb : b < all.length) (h : Dn all a b) : Dn (all ++ r) a b := by
  unfold Dn
  rw [cl_app ha, cl_app hb]
  exact fun h1 h2 => List.mem_append_left _ (h h1 h2)

def RQ (l : List Clause) (k : Nat) (o : Option (List (Int × Int) × Int)) : Prop := ∃ r, o = some r ∧ ((r = ([], 5) ∧ ∃ t, bel k t ∧ tr l t = true) ∨ (r.2 = 0 ∧ (∀ t, tr l t = false) ∧ syllogistref_Refutes l r.1 = some true))
theorem not_emp {t : BitVec 32} : ¬CS emp t := by
  rintro (⟨i, h, _⟩ | ⟨i, h, _⟩) <;> simp at h
theorem unsat_of {l : List Clause} {k : Nat} (hk : k ≤ 6) {bys : List (Int × Int)} {all : List Clause} (h : PJ l k bys all) {i : Nat} (hi : i < all.length) (he : cl all i = emp) (t : BitVec 32) : tr l t = false := by
  cases ht : tr l t with
  | false => rfl
  | true => exact absurd (he ▸ h.sound hk (tru_iff.1 ht) i hi) not_emp

theorem pair_step {l : List Clause} {k : Nat} (hk : k ≤ 6) (hl : l.length ≤ 16) {S : List (Clause × Bool)} {bys : List (Int × Int)} {all : List Clause} (hD : DI l k S bys all) {p q : Nat} (hp : p < all.length) (hq : q < all.length) (fuel : Nat) (hf : 6000 < fuel) {m j s : Nat} (hg : geti (([((m : Int), (j : Int)), ((j : Int), (m : Int))] : List (Int × Int))) (s : Int) = some ((p : Int), (q : Int)))
    (nx : (List (Clause × Bool) × List (Int × Int) × List Clause) → Option (List (Int × Int) × Int)) (hn : ∀ S' bys' r, DI l k S' bys' (all ++ r) → Dn (all ++ r) p q → RQ l k (nx (S', bys', all ++ r))) : RQ l k (clause_Refute_b90 l fuel m j s S bys all nx) := by
  have hbd := hD.bound hk hl
  have hlen := hD.pj.len
  unfold clause_Refute_b90
  rw [hg, Option.bind_some]
  simp only
  rw [geti_cl hp, Option.bind_some, geti_cl hq, Option.bind_some, res_eq, Option.bind_some]
  obtain ⟨r, hr⟩ : ∃ r, rs (cl all p) (cl all q) = r := ⟨_, rfl⟩
  rw [hr]
  obtain ⟨⟨cy, cn⟩, ok⟩ := r
  simp only
  have stay : Dn all p q → RQ l k (nx (S, bys, all)) := fun h => by
    have := hn S bys [] (by rw [List.append_nil]; exact hD) (by rw [List.append_nil]; exact h)
    rwa [List.append_nil] at this
  cases ok with
  | false =>
    simp only [Bool.not_false, Bool.true_or, cond_true]
    refine stay fun h => ?_
    rw [hr] at h; cases h
  | true =>
    simp only [Bool.not_true, Bool.false_or]
    by_cases hm : ({ yes := cy, no := cn } : Clause) ∈ all
    · rw [(hD.mp _).2 hm, Bool.true_or, cond_true]
      refine stay fun _ _ => ?_
      rw [hr]; exact hm
    · have hmf : (mget S ({ yes := cy, no := cn } : Clause)).getD false = false := by
        rw [← Bool.not_eq_true]; exact fun h => hm ((hD.mp _).1 h)
      rw [hmf, Bool.false_or]
      by_cases ht : cy &&& cn = 0#32
      · have htb : ((cy &&& cn) != 0#32) = false := by rw [ht]; rfl
        rw [htb, cond_false, decide_eq_true (by simp; omega), cond_true, decide_eq_true (by simp; omega), cond_true]
        have hP := hD.pj.add hk hp hq hr
        by_cases he : cy = 0#32 ∧ cn = 0#32
        · obtain ⟨rfl, rfl⟩ := he
          have hc : (((0#32 : BitVec 32) == (0#32)) && (((0#32 : BitVec 32) == (0#32)) && true)) = true := rfl
          rw [hc, cond_true]
          have hle := hD.pj.le
          obtain ⟨out, eo, ho⟩ := needed_ok hk hl hP (by simp; omega) (by simp; omega) (by rw [List.length_append, List.length_singleton, Nat.add_sub_cancel, cl_last]) fuel hf
          rw [eo, Option.bind_some]
          exact ⟨_, rfl, .inr ⟨rfl, unsat_of hk hP (i := all.length) (by simp) (cl_last _ _), ho⟩⟩
        · have hc : ((cy == (0#32)) && ((cn == (0#32)) && true)) = false := by
            rw [← Bool.not_eq_true]
            intro h
            simp only [Bool.and_true, Bool.and_eq_true, beq_iff_eq] at h
            exact he h
          rw [hc, cond_false]
          refine hn _ _ [({ yes := cy, no := cn } : Clause)] ⟨hP, fun c => ?_, fun h => ?_, ?_⟩ fun _ _ => ?_
          · rw [mget_put]
            by_cases e : c = ({ yes := cy, no := cn } : Clause)
            · rw [if_pos e]; simp [e]
            · rw [if_neg e, hD.mp c]; simp [e]
          · rcases List.mem_append.1 h with h | h
            · exact hD.ne h
            · have : emp = ({ yes := cy, no := cn } : Clause) := by simpa using h
              exact he ⟨(congrArg Clause.yes this).symm, (congrArg Clause.no this).symm⟩
          · rw [List.drop_append_of_le_length hD.pj.le, List.nodup_append]
            refine ⟨hD.nd, by simp, fun a ha b hb e => ?_⟩
            have : b = ({ yes := cy, no := cn } : Clause) := by simpa using hb
            subst this; subst e
            exact hm (List.mem_of_mem_drop ha)
          · rw [cl_app hp, cl_app hq, hr]; simp
      · have htb : ((cy &&& cn) != 0#32) = true := by simpa using ht
        rw [htb, cond_true]
        refine stay fun _ h => ?_
        rw [hr] at h; exact absurd h ht

theorem sat_loop {l : List Clause} {k : Nat} (hk : k ≤ 6) (hl : l.length ≤ 16) {S : List (Clause × Bool)} (hD : DI l k S (List.replicate l.length ((0 : Int), (0 : Int))) l) (fuel : Nat) (hf : 6000 < fuel) : RQ l k (clause_Refute_k19 l fuel l S) := by
  unfold clause_Refute_k19
  refine whileK_q (Q := RQ l k) (fun (s : Int × List (Clause × Bool) × List (Int × Int) × List Clause) => ∃ m : Nat, s.1 = m ∧ m ≤ s.2.2.2.length ∧ DI l k s.2.1 s.2.2.1 s.2.2.2 ∧ ∀ a b, a < m → b < m → Dn s.2.2.2 a b)
    (fun s => 4200 - s.1.toNat) (fun s nx hI hn => ?_) fuel _ ⟨0, rfl, by simp, by simpa using hD, fun a b h => by omega⟩ (by simp only; omega)
  obtain ⟨i, S, bys, all⟩ := s
  obtain ⟨m, rfl, hm, hD, hS⟩ := hI
  simp only at hm hD hS hn ⊢
  have hbd := hD.bound hk hl
  unfold clause_Refute_b40
  by_cases hlt : m < all.length
  · rw [decide_eq_true (by omega), cond_true, w64_id (by omega) (by omega), decide_eq_true (by omega), cond_true]
    have e1 : ((m : Int) + 1) = ((m + 1 : Nat) : Int) := by omega
    rw [e1]
    refine for0_q (n := m + 1) (Q := RQ l k) (fun j (s : List (Clause × Bool) × List (Int × Int) × List Clause) => DI l k s.1 s.2.1 s.2.2 ∧ m < s.2.2.length ∧ (∀ a b, a < m → b < m → Dn s.2.2 a b) ∧ ∀ j', j' < j → Dn s.2.2 m j' ∧ Dn s.2.2 j' m) rfl (S, bys, all) ⟨hD, hlt, hS, fun j' h => by omega⟩ (fun j s nx' hj hI' hn' => ?_) (fun s hI' => ?_)
    · obtain ⟨S, bys, all⟩ := s
      obtain ⟨d1, d2, d3, d4⟩ := hI'
      simp only at d1 d2 d3 d4 ⊢
      unfold clause_Refute_b64
      refine for0_q (n := 2) (Q := RQ l k) (fun t (s : List (Clause × Bool) × List (Int × Int) × List Clause) => DI l k s.1 s.2.1 s.2.2 ∧ m < s.2.2.length ∧ (∀ a b, a < m → b < m → Dn s.2.2 a b) ∧ (∀ j', j' < j → Dn s.2.2 m j' ∧ Dn s.2.2 j' m) ∧ (0 < t → Dn s.2.2 m j) ∧ (1 < t → Dn s.2.2 j m)) rfl (S, bys, all) ⟨d1, d2, d3, d4, fun h => by omega, fun h => by omega⟩ (fun t s nx2 ht hI2 hn2 => ?_) (fun s hI2 => ?_)
      · obtain ⟨S, bys, all⟩ := s
        obtain ⟨f1, f2, f3, f4, f5, f6⟩ := hI2
        simp only at f1 f2 f3 f4 f5 f6 ⊢
        have keep : ∀ r : List Clause, m < (all ++ r).length ∧ (∀ a b, a < m → b < m → Dn (all ++ r) a b) ∧ (∀ j', j' < j → Dn (all ++ r) m j' ∧ Dn (all ++ r) j' m) := fun r =>
          ⟨by rw [List.length_append]; omega, fun a b ha hb => (f3 a b ha hb).mono (by omega) (by omega), fun j' hj' => ⟨(f4 j' hj').1.mono (by omega) (by omega), (f4 j' hj').2.mono (by omega) (by omega)⟩⟩
        have h2 : t = 0 ∨ t = 1 := by omega
        rcases h2 with rfl | rfl
        · refine pair_step hk hl f1 (p := m) (q := j) (by omega) (by omega) fuel hf rfl nx2 fun S' bys' r g1 g2 => ?_
          obtain ⟨k1, k2, k3⟩ := keep r
          exact hn2 _ ⟨g1, k1, k2, k3, fun _ => g2, fun h => by omega⟩
        · refine pair_step hk hl f1 (p := j) (q := m) (by omega) (by omega) fuel hf rfl nx2 fun S' bys' r g1 g2 => ?_
          obtain ⟨k1, k2, k3⟩ := keep r
          exact hn2 _ ⟨g1, k1, k2, k3, fun _ => (f5 (by omega)).mono (by omega) (by omega), fun _ => g2⟩
      · obtain ⟨S, bys, all⟩ := s
        obtain ⟨f1, f2, f3, f4, f5, f6⟩ := hI2
        simp only at f1 f2 f3 f4 f5 f6 ⊢
        unfold clause_Refute_k86
        refine hn' _ ⟨f1, f2, f3, fun j' hj' => ?_⟩
        by_cases e : j' = j
        · subst e; exact ⟨f5 (by omega), f6 (by omega)⟩
        · exact f4 j' (by omega)
    · obtain ⟨S, bys, all⟩ := s
      obtain ⟨d1, d2, d3, d4⟩ := hI'
      simp only at d1 d2 d3 d4 ⊢
      unfold clause_Refute_k60
      refine hn _ ⟨m + 1, ?_, by simp only; omega, d1, fun a b ha hb => ?_⟩ ?_
      · simp only; rw [w64_id (by omega) (by omega)]; omega
      · simp only
        by_cases ea : a = m
        · subst ea; exact (d4 b hb).1
        · by_cases eb : b = m
          · subst eb; exact (d4 a ha).2
          · exact d3 a b (by omega) (by omega)
      · simp only; rw [w64_id (by omega) (by omega)]; omega
  · rw [decide_eq_false (by omega), cond_false]
    unfold clause_Refute_k38
    have hmm : m = all.length := by omega
    subst hmm
    obtain ⟨t, t1, t2⟩ := sat_of hk (S := fun c => c ∈ all) (fun c hc => by
      obtain ⟨i, hi, rfl⟩ := mem_cl.1 hc
      exact hD.pj.bel i hi) hD.ne (fun a b ha hb h1 h2 => by
      obtain ⟨i, hi, rfl⟩ := mem_cl.1 ha
      obtain ⟨j, hj, rfl⟩ := mem_cl.1 hb
      exact hS i j hi hj h1 h2)
    refine ⟨_, rfl, .inl ⟨rfl, t, t1, tru_iff.2 fun i hi => ?_⟩⟩
    rw [← hD.pj.pre i hi]
    exact t2 _ (mem_cl.2 ⟨i, by have := hD.pj.le; omega, rfl⟩)

theorem contains_eq (l : List Clause) : ∃ b, slices_Contains_SapiClauseapiClause l emp = some b ∧ (b = true ↔ emp ∈ l) := by
  unfold slices_Contains_SapiClauseapiClause
  have key : ∃ r : Int, slices_Index_SapiClauseapiClause l emp = some r ∧ (0 ≤ r ↔ emp ∈ l) := by
    unfold slices_Index_SapiClauseapiClause
    refine for0_q (n := l.length) (Q := fun o => ∃ r : Int, o = some r ∧ (0 ≤ r ↔ emp ∈ l)) (fun j _ => ∀ i, i < j → cl l i ≠ emp) rfl () (fun i h => by omega) (fun j _ nx hj hI hn => ?_) (fun _ hI => ?_)
    · unfold slices_Index_SapiClauseapiClause_b9
      rw [geti_cl hj, Option.bind_some]
      cases hc : ((emp.yes == (cl l j).yes) && ((emp.no == (cl l j).no) && true)) with
      | true =>
        rw [cond_true]
        simp only [Bool.and_true, Bool.and_eq_true, beq_iff_eq] at hc
        refine ⟨_, rfl, fun _ => mem_cl.2 ⟨j, hj, ?_⟩, fun _ => by omega⟩
        cases h : cl l j
        rw [h] at hc
        simp only at hc
        rw [← hc.1, ← hc.2]
      | false =>
        rw [cond_false]
        refine hn () fun i hi => ?_
        by_cases e : i = j
        · subst e
          intro h
          rw [h] at hc
          simp at hc
        · exact hI i (by omega)
    · refine ⟨-1, rfl, fun h => by omega, fun h => ?_⟩
      obtain ⟨i, hi, e⟩ := mem_cl.1 h
      exact absurd e (hI i hi)
  obtain ⟨r, er, hr⟩ := key
  have er' : slices_Index_SapiClauseapiClause l ({ yes := emp.yes, no := emp.no } : Clause) = some r := er
  rw [er', Option.bind_some]
  exact ⟨_, rfl, by rw [decide_eq_true_eq]; exact hr⟩

theorem refute_ok {n : Int} {l : List Clause} {k : Nat} (h : SOk n l k) (hw : clause_wrong n l = some 0) (fuel : Nat) (hf : 6000 < fuel) : RQ l k (clause_Refute fuel n l) := by
  have k6 := h.k6
  have hl := h.len
  unfold clause_Refute
  rw [hw, Option.bind_some]
  simp only [bne_self_eq_false, cond_false]
  obtain ⟨b, eb, hb⟩ := contains_eq l
  have eb' : slices_Contains_SapiClauseapiClause l (({ yes := (0#32), no := (0#32) } : Clause)) = some b := eb
  rw [eb', Option.bind_some]
  cases b with
  | true =>
    rw [cond_true]
    have hm := hb.1 rfl
    obtain ⟨i, hi, e⟩ := mem_cl.1 hm
    refine ⟨_, rfl, .inr ⟨rfl, fun t => ?_, ?_⟩⟩
    · cases ht : tr l t with
      | false => rfl
      | true => exact absurd (e ▸ tru_iff.1 ht i hi) not_emp
    · unfold syllogistref_Refutes
      rw [decide_eq_true (by simp; omega), cond_true]
      have hz : ((([] : List (Int × Int)).length : Int) == (0 : Int)) = true := rfl
      rw [hz, cond_true]
      refine for0_q (n := l.length) (Q := fun o => o = some true) (fun j _ => ∀ u, u < j → cl l u ≠ emp) rfl () (fun u h => by omega) (fun j _ nx hj hI hn => ?_) (fun _ hI => absurd e (hI i hi))
      unfold syllogistref_Refutes_b11
      rw [geti_cl hj, Option.bind_some]
      cases hc : (((cl l j).yes == (0#32)) && (((cl l j).no == (0#32)) && true)) with
      | true => rfl
      | false =>
        rw [cond_false]
        refine hn () fun u hu => ?_
        by_cases eu : u = j
        · subst eu
          intro h'
          rw [h'] at hc
          simp at hc
        · exact hI u (by omega)
  | false =>
    rw [cond_false]
    unfold slices_Clone_SapiClauseapiClause
    rw [decide_eq_true (by simp; omega), cond_true, Option.bind_some, List.nil_append, decide_eq_true (by omega), cond_true]
    refine for0_q (n := l.length) (Q := RQ l k) (fun t (S : List (Clause × Bool)) => ∀ c, (mget S c).getD false = true ↔ ∃ i, i < t ∧ cl l i = c) rfl [] (fun c => ?_) (fun t S nx ht hI hn => ?_) (fun S hI => ?_)
    · constructor
      · intro h'; simp [mget] at h'
      · rintro ⟨i, hi, _⟩; omega
    · unfold clause_Refute_b579
      rw [geti_cl ht, Option.bind_some]
      refine hn _ fun c => ?_
      rw [mget_put]
      have eta : ({ yes := (cl l t).yes, no := (cl l t).no } : Clause) = cl l t := rfl
      rw [eta]
      by_cases e : c = cl l t
      · rw [if_pos e]
        exact ⟨fun _ => ⟨t, by omega, e.symm⟩, fun _ => rfl⟩
      · rw [if_neg e, hI c]
        constructor
        · rintro ⟨i, hi, e'⟩; exact ⟨i, by omega, e'⟩
        · rintro ⟨i, hi, e'⟩
          refine ⟨i, ?_, e'⟩
          have : i ≠ t := fun e2 => e (by rw [← e', e2])
          omega
    · refine sat_loop k6 hl ⟨⟨by simp, Nat.le_refl _, fun i _ => rfl, fun i h1 h2 => by omega, fun i hi => ⟨h.yes i hi, h.no i hi⟩⟩, fun c => (hI c).trans mem_cl.symm, fun he => ?_, by simp⟩ fuel hf
      exact absurd (hb.2 he) (by decide)

theorem clauseRefutes_true (fuel : Nat) (n : Int) (l : List Clause) (hf : 6000 < fuel := by decide) : syllogistlaw_ClauseRefutes fuel n l = some true := by
  unfold syllogistlaw_ClauseRefutes
  obtain ⟨r, e1, e2, h0⟩ := scheck n l
  by_cases hr : r = 0
  · subst hr
    obtain ⟨k, h⟩ := h0 rfl
    obtain ⟨q, eq, hq⟩ := refute_ok h e1 fuel hf
    obtain ⟨f, ef, hF⟩ := first_eq h
    have ef' : syllogistref_First n l = some f := by rw [h.n]; exact ef
    rw [eq, Option.bind_some, e2, Option.bind_some]
    simp only [bne_self_eq_false, cond_false]
    rw [ef', Option.bind_some]
    rcases hF with ⟨f1, ⟨f2, f3⟩, _⟩ | ⟨rfl, f1⟩
    · rw [f1, cond_true]
      rcases hq with ⟨rfl, _⟩ | ⟨_, q2, _⟩
      · rfl
      · rw [q2] at f3; cases f3
    · rcases hq with ⟨_, t, t1, t2⟩ | ⟨q1, _, q3⟩
      · rw [f1 t t1] at t2; cases t2
      · simp only [cond_false, q1, q3, Option.isSome_some, Bool.or_true, cond_true, Option.getD_some, beq_self_eq_true, Bool.and_self]
  · have hb : (r != 0) = true := by simpa using hr
    have : clause_Refute fuel n l = some ([], r) := by
      unfold clause_Refute
      rw [e1, Option.bind_some, hb, cond_true]
    rw [this, Option.bind_some, e2, Option.bind_some, hb, cond_true]
    simp
end Go.Proofs.Ytmggbhpieikdpaa.Sy
