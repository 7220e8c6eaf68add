/- Lattices: the plain laws; no program in sight. -/
import Derived.Test.YtjpbdannibmplaaMa
import Derived.Test.YtjpbdannibmplaaSyQ
namespace Go.Proofs.Ytjpbdannibmplaa.Sy
set_option linter.unusedVariables false

noncomputable def rr (ps : List (Int × Int)) (i j : Nat) : Bool := tru (Rch ps i j)
/-- First of which it is so; below 0: none. -/
def frst : Nat → (Nat → Bool) → Int
  | 0, _ => -1
  | n + 1, p => bif decide (0 ≤ frst n p) then frst n p else bif p n then (n : Int) else -1
theorem frst_none {n : Nat} {p : Nat → Bool} (h : ∀ j, j < n → p j = false) : frst n p = -1 := by
  induction n with
  | zero => rfl
  | succ n ih => rw [frst, ih fun j hj => h j (by omega), h n (by omega)]; rfl
theorem frst_at {n j : Nat} {p : Nat → Bool} (hj : j < n) (hp : p j = true) (h : ∀ i, i < j → p i = false) : frst n p = j := by
  induction n with
  | zero => omega
  | succ n ih =>
    by_cases e : j = n
    · subst e; rw [frst, frst_none h, hp]; rfl
    · rw [frst, ih (by omega), decide_eq_true (by omega), cond_true]
theorem frst_or {n : Nat} {p : Nat → Bool} : frst n p = -1 ∨ ∃ j : Nat, j < n ∧ frst n p = j := by
  induction n with
  | zero => exact .inl rfl
  | succ n ih =>
    rcases ih with e | ⟨j, hj, e⟩
    · rw [frst, e]
      cases p n
      · exact .inl rfl
      · exact .inr ⟨n, by omega, rfl⟩
    · exact .inr ⟨j, by omega, by rw [frst, e, decide_eq_true (by omega), cond_true]⟩
theorem frst_congr {n : Nat} {p q : Nat → Bool} (h : ∀ j, j < n → p j = q j) : frst n p = frst n q := by
  induction n with
  | zero => rfl
  | succ n ih => rw [frst, frst, ih fun j hj => h j (by omega), h n (by omega)]
theorem for_frst {σ : Type} {body : Int → σ → (σ → Option Int) → Option Int} (p : Nat → Bool) {b : Int} {n : Nat} (hb : b = n) {s : σ}
    (st : ∀ (j : Nat) nx, j < n → body (j : Int) s nx = bif p j then some (j : Int) else nx s) : forK body (fun _ => some (-1 : Int)) (b - 0).toNat 0 s = some (frst n p) := by
  rcases for_find (k := fun _ => some (-1 : Int)) (fun _ => s) p (fun j => some (j : Int)) hb rfl st with ⟨j, hj, he, h1, h⟩ | ⟨h1, h2⟩
  · rw [h, frst_at hj he h1]
  · rw [h2, frst_none h1]

def jn (m : Nat) (U : Nat → Nat → Bool) (a b : Nat) : Int := frst m fun c => (U a c && U b c) && allN m fun d => (!U a d || !U b d) || U c d
def fl (U : Nat → Nat → Bool) (i j : Nat) : Bool := U j i
def TB (m : Nat) (U : Nat → Nat → Bool) : List (BitVec 32) := tab m fun i => bset m (U i)

theorem joined_eq {m fuel : Nat} {ps : List (Int × Int)} {U : Nat → Nat → Bool} (hm : m ≤ 6) (hU : ∀ i j : Nat, syllogistref_Under fuel m ps i j = some (U i j)) (a b : Nat) : syllogistref_Joined fuel m ps a b = some (jn m U a b) := by
  unfold syllogistref_Joined
  rw [decide_eq_true (by omega), cond_true]
  refine for_frst _ rfl fun c nx hc => ?_
  unfold syllogistref_Joined_b7
  rw [hU, Option.bind_some, hU, decide_eq_true (by omega), cond_true]
  simp only [Option.isSome_some, Bool.or_true, cond_true, Option.getD_some]
  rw [for_all (n := m) (fun d => (!U a d || !U b d) || U c d) rfl (fun d s nx' hd => by
    unfold syllogistref_Joined_b22
    simp only [hU, Option.isSome_some, Bool.or_true, cond_true, Option.getD_some])]
  rfl

theorem Rch.swap {ps : List (Int × Int)} {a b : Int} (h : Rch ps a b) : Rch (ps.map Prod.swap) b a := by
  induction h with
  | refl => exact .refl
  | tail _ e ih => exact Rch.trans (.tail .refl (List.mem_map.2 ⟨_, e, rfl⟩)) ih
theorem rr_swap (ps : List (Int × Int)) (i j : Nat) : rr (ps.map Prod.swap) i j = rr ps j i := by
  refine tru_congr ⟨fun h => ?_, fun h => h.swap⟩
  have := h.swap
  rw [List.map_map] at this
  simpa using this

structure O3 (n : Int) (ps : List (Int × Int)) (m : Nat) : Prop where
  n : n = m
  m1 : 1 ≤ m
  m6 : m ≤ 6
  pl : ps.length ≤ 20
theorem O3.under {n : Int} {ps : List (Int × Int)} {m : Nat} (h : O3 n ps m) {fuel : Nat} (hf : 30 < fuel) (k : Int) (i j : Nat) : syllogistref_Under fuel k ps i j = some (rr ps i j) := by
  have := h.pl
  obtain ⟨r, e, hr⟩ := under_eq fuel k ps i j (by omega) (by omega)
  rw [e, tru_of hr]; rfl
theorem O3.joined {n : Int} {ps : List (Int × Int)} {m : Nat} (h : O3 n ps m) {fuel : Nat} (hf : 30 < fuel) (a b : Nat) : syllogistref_Joined fuel n ps a b = some (jn m (rr ps) a b) := by
  rw [h.n]; exact joined_eq h.m6 (fun i j => h.under hf _ i j) a b
theorem O3.met {n : Int} {ps : List (Int × Int)} {m : Nat} (h : O3 n ps m) {fuel : Nat} (hf : 30 < fuel) (a b : Nat) : syllogistref_Met fuel n ps a b = some (jn m (fl (rr ps)) a b) := by
  have hp := h.pl
  have ht : syllogistref_Turned ps = some (ps.map Prod.swap) := by
    unfold syllogistref_Turned
    rw [for_rec (n := ps.length) (fun k => (ps.take k).map Prod.swap) rfl (by simp) (fun j nx hj => by
      unfold syllogistref_Turned_b14
      rw [geti_at hj, Option.bind_some, decide_eq_true (by simp; omega), cond_true, List.take_succ_eq_append_getElem hj, List.map_append]
      rfl)]
    unfold syllogistref_Turned_k10
    rw [List.take_length]
  unfold syllogistref_Met
  rw [ht, Option.bind_some, h.n, joined_eq (U := fl (rr ps)) h.m6 (fun i j => ?_) a b, Option.bind_some]
  have h' : O3 n (ps.map Prod.swap) m := ⟨h.n, h.m1, h.m6, by simpa using h.pl⟩
  rw [h'.under hf, rr_swap]; rfl

/-! ### The table -/
theorem table3 (n : Int) (ps : List (Int × Int)) : ∃ c, (∀ fuel, 30 < fuel → syllogistref_OrderCheck fuel n ps = some c) ∧ (c ≠ 0 → order_Table n ps = some ([], c)) ∧ (c = 0 → ∃ m, O3 n ps m ∧ order_Table n ps = some (TB m (rr ps), 0)) := by
  obtain ⟨l, e, h1, h2⟩ := table_eq n ps
  refine ⟨chk n ps, fun fuel hf => check_eq fuel n ps hf, fun h => by rw [e, h1 h], fun h0 => ?_⟩
  obtain ⟨m, rfl, m6, m1, hps, hl, hR⟩ := h2 h0
  refine ⟨m, ⟨rfl, m1, m6, hps⟩, ?_⟩
  rw [e, h0]
  congr 2
  refine apps_eq_of_get hl fun j hj => bits_ext fun i => ?_
  rw [hR j hj, bset_bit (by omega), Bool.and_eq_true, decide_eq_true_eq]
  exact and_congr_right fun _ => tru_iff.symm

theorem TB_len {m : Nat} {U : Nat → Nat → Bool} : (TB m U).length = m := tab_len
theorem TB_at {m i : Nat} {U : Nat → Nat → Bool} (h : i < m) : geti (TB m U) (i : Int) = some (bset m (U i)) := tab_geti h

theorem least_eq {m : Nat} {U : Nat → Nat → Bool} (hm : m ≤ 6) {a b : Nat} (ha : a < m) (hb : b < m) : lattice_least (TB m U) (bset m (U a) &&& bset m (U b)) = some (jn m U a b) := by
  unfold lattice_least
  refine for_frst _ (by rw [TB_len]) fun c nx hc => ?_
  unfold lattice_least_b7
  rw [TB_at hc, Option.bind_some, Int.toNat_natCast, bit_shr]
  congr 1
  rw [Bool.eq_iff_iff, Bool.and_eq_true, Bool.and_eq_true, andn_iff, allN_iff, BitVec.getLsbD_and, bset_bit (by omega), bset_bit (by omega), decide_eq_true hc, Bool.true_and, Bool.true_and]
  refine and_congr_right fun _ => ⟨fun h d hd => ?_, fun h i hi => ?_⟩
  · have := h d
    rw [BitVec.getLsbD_and, bset_bit (by omega), bset_bit (by omega), bset_bit (by omega), decide_eq_true hd] at this
    simp only [Bool.true_and] at this
    revert this
    cases U a d <;> cases U b d <;> cases U c d <;> simp
  · rw [BitVec.getLsbD_and, bset_bit (by omega), bset_bit (by omega)] at hi
    rw [bset_bit (by omega)]
    simp only [Bool.and_eq_true, decide_eq_true_eq] at hi ⊢
    have := h i hi.1.1
    rw [hi.1.2, hi.2.2] at this
    exact ⟨hi.1.1, by simpa using this⟩

theorem shr_one (y : BitVec 32) (k : Nat) : (y >>> k) &&& 1#32 = bif y.getLsbD k then 1#32 else 0#32 := by
  cases h : y.getLsbD k with
  | true => rw [cond_true]; have := bit_shr y k; rw [h] at this; exact eq_of_beq this
  | false => rw [cond_false]; have := bit_shr1 y k; rw [h] at this; exact eq_of_beq this

noncomputable def MT (m : Nat) (U : Nat → Nat → Bool) : List (List Int) := tab m fun a => tab m fun b => jn m U a b
noncomputable def LA (m : Nat) (U : Nat → Nat → Bool) : Bool := allN m fun a => allN m fun b => decide (jn m U a b ≥ 0) && decide (jn m (fl U) a b ≥ 0)

theorem build_eq (n : Int) (ps : List (Int × Int)) : ∃ c, (∀ fuel, 30 < fuel → syllogistref_OrderCheck fuel n ps = some c) ∧ (c ≠ 0 → lattice_build n ps = some (none, c)) ∧
    (c = 0 → ∃ m, O3 n ps m ∧ lattice_build n ps = some (some { up := TB m (rr ps), down := TB m (fl (rr ps)), join := MT m (rr ps), meet := MT m (fl (rr ps)), is_ := LA m (rr ps) }, 0)) := by
  obtain ⟨c, hc, h1, h2⟩ := table3 n ps
  refine ⟨c, hc, fun h => ?_, fun h => ?_⟩
  · unfold lattice_build
    rw [h1 h, Option.bind_some, show (c != 0) = true by simpa using h, cond_true]
  obtain ⟨m, ho, ht⟩ := h2 h
  refine ⟨m, ho, ?_⟩
  have hm := ho.m6
  have hn := ho.n
  subst hn
  unfold lattice_build
  rw [ht, Option.bind_some, show ((0 : Int) != 0) = false from rfl, cond_false, decide_eq_true (by omega), cond_true]
  rw [for_rec (n := m) (fun i => tab m fun j => bset i fun k => rr ps k j) (by rw [TB_len]) (by rw [Int.toNat_natCast, tab_rep]; rfl) (fun i nx hi => by
    unfold lattice_build_b132
    rw [TB_at hi, Option.bind_some, decide_eq_true (by omega), cond_true]
    rw [for_rec (n := m) (fun t => tab m fun j => bif decide (j < t) then bset (i + 1) (fun k => rr ps k j) else bset i fun k => rr ps k j) rfl (tab_congr fun j hj => by rw [decide_eq_false (by omega), cond_false]) (fun j nx' hj => by
      unfold lattice_build_b149
      rw [tab_geti hj, Option.bind_some, Int.toNat_natCast, Int.toNat_natCast, tab_set hj, shr_one, bset_bit (by omega), decide_eq_true hj, Bool.true_and]
      congr 1
      refine tab_congr fun q hq => ?_
      by_cases e : q = j
      · subst e
        rw [if_pos rfl, decide_eq_false (show ¬ q < q by omega), cond_false, decide_eq_true (show q < q + 1 by omega), cond_true, bset]
        cases rr ps i q
        · simp
        · rfl
      · rw [if_neg e]
        congr 1
        rw [Bool.eq_iff_iff, decide_eq_true_eq, decide_eq_true_eq]; omega)]
    unfold lattice_build_k145
    congr 1
    exact tab_congr fun j hj => by rw [decide_eq_true hj, cond_true])]
  unfold lattice_build_k20
  rw [decide_eq_true (by omega), cond_true]
  have hd : (tab m fun j => bset m fun k => rr ps k j) = TB m (fl (rr ps)) := rfl
  rw [hd]
  rw [for_rec (s := ((true : Bool), ([] : List (List Int)), ([] : List (List Int)))) (n := m) (fun a => (allN a fun a => allN m fun b => decide (jn m (rr ps) a b ≥ 0) && decide (jn m (fl (rr ps)) a b ≥ 0), (tab a fun a => tab m fun b => jn m (fl (rr ps)) a b), tab a fun a => tab m fun b => jn m (rr ps) a b)) rfl rfl (fun a nx ha => by
    unfold lattice_build_b59
    rw [decide_eq_true (by omega), cond_true]
    dsimp only
    rw [for_rec (s := (([] : List Int), ([] : List Int), (allN a fun a => allN m fun b => decide (jn m (rr ps) a b ≥ 0) && decide (jn m (fl (rr ps)) a b ≥ 0)))) (n := m) (fun t => ((tab t fun b => jn m (fl (rr ps)) a b), (tab t fun b => jn m (rr ps) a b), (allN a fun a => allN m fun b => decide (jn m (rr ps) a b ≥ 0) && decide (jn m (fl (rr ps)) a b ≥ 0)) && allN t fun b => decide (jn m (rr ps) a b ≥ 0) && decide (jn m (fl (rr ps)) a b ≥ 0))) rfl (by rw [allN, Bool.and_true]; rfl) (fun b nx' hb => by
      unfold lattice_build_b107
      dsimp only
      rw [TB_at ha, Option.bind_some, TB_at hb, Option.bind_some, least_eq hm ha hb, Option.bind_some, TB_at ha, Option.bind_some, TB_at hb, Option.bind_some, least_eq hm ha hb, Option.bind_some]
      rw [decide_eq_true (by rw [tab_len]; simp only [List.length_cons, List.length_nil]; omega), cond_true, decide_eq_true (by rw [tab_len]; simp only [List.length_cons, List.length_nil]; omega), cond_true]
      rw [tab_succ, tab_succ, allN, Bool.and_assoc, Bool.and_assoc])]
    unfold lattice_build_k81
    rw [decide_eq_true (by rw [tab_len]; omega), cond_true, decide_eq_true (by rw [tab_len]; omega), cond_true]
    rfl)]
  rfl

/-! ### The rows' answers -/
theorem is_true (fuel : Nat) (n : Int) (ps : List (Int × Int)) (hf : 100 < fuel) (m : Nat) (h : O3 n ps m) : syllogistref_Lattice fuel n ps = some (LA m (rr ps)) := by
  have hm := h.m6
  have hJ := fun a b => h.joined (fuel := fuel) (by omega) a b
  have hM := fun a b => h.met (fuel := fuel) (by omega) a b
  unfold syllogistref_Lattice
  rw [h.n] at hJ hM ⊢
  rw [decide_eq_true (by omega), cond_true]
  rw [for_out (n := m) (fun a => anyN m fun b => decide (jn m (rr ps) a b < 0) || decide (jn m (fl (rr ps)) a b < 0)) (some false) rfl (fun a nx ha => by
    unfold syllogistref_Lattice_b7
    rw [decide_eq_true (by omega), cond_true]
    rw [for_out (n := m) (fun b => decide (jn m (rr ps) a b < 0) || decide (jn m (fl (rr ps)) a b < 0)) (some false) rfl (fun b nx' hb => by
      unfold syllogistref_Lattice_b16
      rw [hJ, Option.bind_some, hM]
      simp only [Option.isSome_some, Bool.or_true, cond_true, Option.getD_some])]
    rfl)]
  have key : LA m (rr ps) = !anyN m fun a => anyN m fun b => decide (jn m (rr ps) a b < 0) || decide (jn m (fl (rr ps)) a b < 0) := by
    rw [Bool.eq_iff_iff, Bool.not_eq_true', anyN_false]
    unfold LA
    rw [allN_iff]
    refine forall_congr' fun a => forall_congr' fun ha => ?_
    rw [allN_iff, anyN_false]
    refine forall_congr' fun b => forall_congr' fun hb => ?_
    simp only [Bool.and_eq_true, Bool.or_eq_false_iff, decide_eq_true_eq, decide_eq_false_iff_not]
    omega
  rw [key]
  unfold syllogistref_Lattice_k3
  cases anyN m fun a => anyN m fun b => decide (jn m (rr ps) a b < 0) || decide (jn m (fl (rr ps)) a b < 0) <;> rfl

theorem latticeIs_true (fuel : Nat) (n : Int) (ps : List (Int × Int)) (hf : 100 < fuel := by decide) : syllogistlaw_LatticeIs fuel n ps = some true := by
  obtain ⟨c, hc, h1, h2⟩ := build_eq n ps
  unfold syllogistlaw_LatticeIs lattice_Is
  rw [hc fuel (by omega)]
  by_cases h : c = 0
  · obtain ⟨m, ho, hb⟩ := h2 h
    subst h
    rw [hb, is_true fuel n ps hf m ho]
    simp
  · rw [h1 h]
    have : (c != 0) = true := by simpa using h
    simp [this]

/-- In a lattice each two have both. -/
theorem LA_jn {m : Nat} {U : Nat → Nat → Bool} (h : LA m U = true) {a b : Nat} (ha : a < m) (hb : b < m) : ∃ k : Nat, k < m ∧ jn m U a b = k := by
  have := allN_iff.1 (allN_iff.1 h a ha) b hb
  rw [Bool.and_eq_true, decide_eq_true_eq, decide_eq_true_eq] at this
  rcases frst_or (n := m) (p := fun c => (U a c && U b c) && allN m fun d => (!U a d || !U b d) || U c d) with e | ⟨j, hj, e⟩
  · have e' : jn m U a b = -1 := e
    omega
  · exact ⟨j, hj, e⟩
theorem LA_fl {m : Nat} {U : Nat → Nat → Bool} : LA m (fl U) = LA m U := by
  unfold LA
  refine allN_congr fun a _ => allN_congr fun b _ => ?_
  rw [Bool.and_comm]; rfl
theorem MT_at {m a : Nat} {U : Nat → Nat → Bool} (h : a < m) : geti (MT m U) (a : Int) = some (tab m fun b => jn m U a b) := tab_geti h

theorem out_int {n : Nat} {a b : Int} (h : ¬(((decide (a < (0 : Int)) || decide (a ≥ (n : Int))) || decide (b < (0 : Int))) || decide (b ≥ (n : Int))) = true) : ∃ i j : Nat, i < n ∧ j < n ∧ a = i ∧ b = j := by
  simp only [Bool.or_eq_true, decide_eq_true_eq, not_or] at h
  exact ⟨a.toNat, b.toNat, by omega, by omega, by omega, by omega⟩
theorem out_eq (n : Nat) (a b : Int) : ((decide ((if b < a then b else a) < (0 : Int))) || (decide ((if b > a then b else a) ≥ (n : Int)))) = (((decide (a < (0 : Int)) || decide (a ≥ (n : Int))) || decide (b < (0 : Int))) || decide (b ≥ (n : Int))) := by
  rw [Bool.eq_iff_iff]
  simp only [Bool.or_eq_true, decide_eq_true_eq]
  split <;> split <;> omega

theorem latticeJoins_true (fuel : Nat) (n : Int) (ps : List (Int × Int)) (a b : Int) (hf : 100 < fuel := by decide) : syllogistlaw_LatticeJoins fuel n ps a b = some true := by
  obtain ⟨c, hc, h1, h2⟩ := build_eq n ps
  unfold syllogistlaw_LatticeJoins lattice_Join lattice_of_f53
  rw [hc fuel (by omega)]
  by_cases h : c = 0
  · obtain ⟨m, ho, hb⟩ := h2 h
    subst h
    have hn := ho.n
    subst hn
    rw [hb]
    simp only [Option.bind_some, bne_self_eq_false, cond_false, lattice_Join_c1, out_eq, beq_self_eq_true, Bool.true_and]
    by_cases hout : (((decide (a < (0 : Int)) || decide (a ≥ (m : Int))) || decide (b < (0 : Int))) || decide (b ≥ (m : Int))) = true
    · rw [hout]
      simp [syllogistlaw_LatticeJoins_k6, syllogistlaw_LatticeJoins_k10]
    · obtain ⟨i, j, hi, hj, rfl, rfl⟩ := out_int hout
      rw [Bool.eq_false_iff.2 hout]
      simp only [cond_false, MT_at hi, Option.bind_some, tab_geti hj]
      unfold syllogistlaw_LatticeJoins_k6 syllogistlaw_LatticeJoins_k10
      rw [ho.joined (by omega)]
      rcases frst_or (n := m) (p := fun c => (rr ps i c && rr ps j c) && allN m fun d => (!rr ps i d || !rr ps j d) || rr ps c d) with e | ⟨k, hk, e⟩
      · have e' : jn m (rr ps) i j = -1 := e
        simp [e']
      · have e' : jn m (rr ps) i j = k := e
        have : ¬ ((k : Int) < 0) := by omega
        simp [e', this]
  · rw [h1 h]
    have h3 : (c != 0) = true := by simpa using h
    have h4 : (c == 0) = false := by simpa using h
    simp [h3, h4, syllogistlaw_LatticeJoins_k6, syllogistlaw_LatticeJoins_k10]

theorem latticeMeets_true (fuel : Nat) (n : Int) (ps : List (Int × Int)) (a b : Int) (hf : 100 < fuel := by decide) : syllogistlaw_LatticeMeets fuel n ps a b = some true := by
  obtain ⟨c, hc, h1, h2⟩ := build_eq n ps
  unfold syllogistlaw_LatticeMeets lattice_Meet lattice_of_f54
  rw [hc fuel (by omega)]
  by_cases h : c = 0
  · obtain ⟨m, ho, hb⟩ := h2 h
    subst h
    have hn := ho.n
    subst hn
    rw [hb]
    simp only [Option.bind_some, bne_self_eq_false, cond_false, lattice_Meet_c1, out_eq, beq_self_eq_true, Bool.true_and]
    by_cases hout : (((decide (a < (0 : Int)) || decide (a ≥ (m : Int))) || decide (b < (0 : Int))) || decide (b ≥ (m : Int))) = true
    · rw [hout]
      simp [syllogistlaw_LatticeMeets_k6, syllogistlaw_LatticeMeets_k10]
    · obtain ⟨i, j, hi, hj, rfl, rfl⟩ := out_int hout
      rw [Bool.eq_false_iff.2 hout]
      simp only [cond_false, MT_at hi, Option.bind_some, tab_geti hj]
      unfold syllogistlaw_LatticeMeets_k6 syllogistlaw_LatticeMeets_k10
      rw [ho.met (by omega)]
      rcases frst_or (n := m) (p := fun c => (fl (rr ps) i c && fl (rr ps) j c) && allN m fun d => (!fl (rr ps) i d || !fl (rr ps) j d) || fl (rr ps) c d) with e | ⟨k, hk, e⟩
      · have e' : jn m (fl (rr ps)) i j = -1 := e
        simp [e']
      · have e' : jn m (fl (rr ps)) i j = k := e
        have : ¬ ((k : Int) < 0) := by omega
        simp [e', this]
  · rw [h1 h]
    have h3 : (c != 0) = true := by simpa using h
    have h4 : (c == 0) = false := by simpa using h
    simp [h3, h4, syllogistlaw_LatticeMeets_k6, syllogistlaw_LatticeMeets_k10]

/-! ### Any three -/
noncomputable def e3 (m : Nat) (U : Nat → Nat → Bool) (al : Bool) (a b c : Nat) : Bool :=
  (al || U c a) && (jn m (fl U) a (jn m U b c).toNat != jn m U (jn m (fl U) a b).toNat (jn m (fl U) a c).toNat)
noncomputable def E3 (m : Nat) (U : Nat → Nat → Bool) (al : Bool) : Bool := anyN m fun a => anyN m fun b => anyN m fun c => e3 m U al a b c

theorem bit_at {m : Nat} {U : Nat → Nat → Bool} (hm : m ≤ 6) {a c : Nat} (ha : a < m) (hc : c < m) : (((bset m (U c) >>> a) &&& 1#32) == 1#32) = U c a := by
  rw [bit_shr, bset_bit (by omega), decide_eq_true ha, Bool.true_and]

theorem all_eq (n : Int) (ps : List (Int × Int)) (al : Bool) {m : Nat} (ho : O3 n ps m) (hl : LA m (rr ps) = true)
    (hb : lattice_build n ps = some (some { up := TB m (rr ps), down := TB m (fl (rr ps)), join := MT m (rr ps), meet := MT m (fl (rr ps)), is_ := LA m (rr ps) }, 0)) :
    lattice_all n ps al = some (!E3 m (rr ps) al, 0) := by
  have hm := ho.m6
  have hn := ho.n
  subst hn
  have hl' : LA m (fl (rr ps)) = true := by rw [LA_fl]; exact hl
  unfold lattice_all
  rw [hb, hl]
  simp only [Option.bind_some, bne_self_eq_false, cond_false, Bool.not_true]
  rw [decide_eq_true (by omega), cond_true]
  rw [for_out (n := m) (fun a => anyN m fun b => anyN m fun c => e3 m (rr ps) al a b c) (some (false, 0)) rfl (fun a nx ha => by
    unfold lattice_all_b26
    rw [decide_eq_true (by omega), cond_true]
    rw [for_out (n := m) (fun b => anyN m fun c => e3 m (rr ps) al a b c) (some (false, 0)) rfl (fun b nx' hb => by
      unfold lattice_all_b35
      rw [decide_eq_true (by omega), cond_true]
      rw [for_out (n := m) (fun c => e3 m (rr ps) al a b c) (some (false, 0)) rfl (fun c nx'' hc => by
        unfold lattice_all_b44 e3
        obtain ⟨k, hk, ek⟩ := LA_jn hl hb hc
        obtain ⟨p, hp, ep⟩ := LA_jn hl' ha hb
        obtain ⟨q, hq, eq⟩ := LA_jn hl' ha hc
        simp only [TB_at hc, MT_at ha, MT_at hb, tab_geti hc, tab_geti hb, ek, ep, eq, tab_geti hk, MT_at hp, tab_geti hq, Option.isSome_some, Bool.or_true, cond_true, Option.getD_some, Int.toNat_natCast, bit_at hm ha hc])]
      rfl)]
    rfl)]
  unfold lattice_all_k22 E3
  cases anyN m fun a => anyN m fun b => anyN m fun c => e3 m (rr ps) al a b c <;> rfl

theorem shares_eq (fuel : Nat) (n : Int) (ps : List (Int × Int)) (al : Bool) (hf : 100 < fuel) {m : Nat} (ho : O3 n ps m) (hl : LA m (rr ps) = true) :
    syllogistref_Shares fuel n ps al = some (!E3 m (rr ps) al) := by
  have hm := ho.m6
  have hJ := fun a b => ho.joined (fuel := fuel) (by omega) a b
  have hM := fun a b => ho.met (fuel := fuel) (by omega) a b
  have hU := fun k i j => ho.under (fuel := fuel) (by omega) k i j
  have hn := ho.n
  subst hn
  have hl' : LA m (fl (rr ps)) = true := by rw [LA_fl]; exact hl
  unfold syllogistref_Shares
  rw [decide_eq_true (by omega), cond_true]
  rw [for_out (n := m) (fun a => anyN m fun b => anyN m fun c => e3 m (rr ps) al a b c) (some false) rfl (fun a nx ha => by
    unfold syllogistref_Shares_b7
    rw [decide_eq_true (by omega), cond_true]
    rw [for_out (n := m) (fun b => anyN m fun c => e3 m (rr ps) al a b c) (some false) rfl (fun b nx' hb => by
      unfold syllogistref_Shares_b16
      rw [decide_eq_true (by omega), cond_true]
      rw [for_out (n := m) (fun c => e3 m (rr ps) al a b c) (some false) rfl (fun c nx'' hc => by
        unfold syllogistref_Shares_b25 e3
        obtain ⟨k, hk, ek⟩ := LA_jn hl hb hc
        obtain ⟨p, hp, ep⟩ := LA_jn hl' ha hb
        obtain ⟨q, hq, eq⟩ := LA_jn hl' ha hc
        simp only [hU, hJ, hM, ek, ep, eq, Option.isSome_some, Bool.or_true, cond_true, Option.getD_some, Int.toNat_natCast, Option.bind_some]
        cases al <;> cases rr ps c a <;> simp)]
      rfl)]
    rfl)]
  unfold syllogistref_Shares_k3 E3
  cases anyN m fun a => anyN m fun b => anyN m fun c => e3 m (rr ps) al a b c <;> rfl

theorem code_eq (fuel : Nat) (n : Int) (ps : List (Int × Int)) (hf : 100 < fuel) {c : Int} (hc : ∀ fuel, 30 < fuel → syllogistref_OrderCheck fuel n ps = some c) (h : c ≠ 0) : syllogistlaw_latticeCode fuel n ps = some c := by
  unfold syllogistlaw_latticeCode
  have h4 : (c == 0) = false := by simpa using h
  rw [hc fuel (by omega), Option.bind_some, h4]; rfl
theorem code_ok (fuel : Nat) (n : Int) (ps : List (Int × Int)) (hf : 100 < fuel) (hc : ∀ fuel, 30 < fuel → syllogistref_OrderCheck fuel n ps = some 0) {m : Nat} (ho : O3 n ps m) : syllogistlaw_latticeCode fuel n ps = some (bif LA m (rr ps) then 0 else 3) := by
  unfold syllogistlaw_latticeCode
  rw [hc fuel (by omega), is_true fuel n ps hf m ho]
  cases LA m (rr ps) <;> rfl

theorem all_no (n : Int) (ps : List (Int × Int)) (al : Bool) {m : Nat} (hl : LA m (rr ps) = false)
    (hb : lattice_build n ps = some (some { up := TB m (rr ps), down := TB m (fl (rr ps)), join := MT m (rr ps), meet := MT m (fl (rr ps)), is_ := LA m (rr ps) }, 0)) :
    lattice_all n ps al = some (false, 3) := by
  unfold lattice_all
  rw [hb, hl]; rfl
theorem all_err (n : Int) (ps : List (Int × Int)) (al : Bool) {c : Int} (h : c ≠ 0) (hb : lattice_build n ps = some (none, c)) : lattice_all n ps al = some (false, c) := by
  unfold lattice_all
  have h3 : (c != 0) = true := by simpa using h
  rw [hb, Option.bind_some, h3]; rfl

theorem latticeShares_true (fuel : Nat) (n : Int) (ps : List (Int × Int)) (hf : 100 < fuel := by decide) : syllogistlaw_LatticeShares fuel n ps = some true := by
  obtain ⟨c, hc, h1, h2⟩ := build_eq n ps
  unfold syllogistlaw_LatticeShares lattice_Shared
  by_cases h : c = 0
  · obtain ⟨m, ho, hb⟩ := h2 h
    subst h
    rw [code_ok fuel n ps hf hc ho]
    cases hl : LA m (rr ps) with
    | true => rw [all_eq n ps true ho hl hb, shares_eq fuel n ps true hf ho hl]; simp
    | false => rw [all_no n ps true hl hb]; rfl
  · rw [all_err n ps true h (h1 h), code_eq fuel n ps hf hc h]
    have h3 : (c != 0) = true := by simpa using h
    simp [h3]
theorem latticeModulars_true (fuel : Nat) (n : Int) (ps : List (Int × Int)) (hf : 100 < fuel := by decide) : syllogistlaw_LatticeModulars fuel n ps = some true := by
  obtain ⟨c, hc, h1, h2⟩ := build_eq n ps
  unfold syllogistlaw_LatticeModulars lattice_Modular
  by_cases h : c = 0
  · obtain ⟨m, ho, hb⟩ := h2 h
    subst h
    rw [code_ok fuel n ps hf hc ho]
    cases hl : LA m (rr ps) with
    | true => rw [all_eq n ps false ho hl hb, shares_eq fuel n ps false hf ho hl]; simp
    | false => rw [all_no n ps false hl hb]; rfl
  · rw [all_err n ps false h (h1 h), code_eq fuel n ps hf hc h]
    have h3 : (c != 0) = true := by simpa using h
    simp [h3]

/-! ### No join of two others -/
noncomputable def irr (m : Nat) (U : Nat → Nat → Bool) (i : Nat) : Bool := !allN m (U i) && allN m fun a => allN m fun b => (jn m U a b != (i : Int) || a == i) || b == i
theorem eq_cast' (i j : Nat) : ((i : Int) == (j : Int)) = (i == j) := by rw [Bool.eq_iff_iff, beq_iff_eq, beq_iff_eq]; omega
theorem ne_cast' (i j : Nat) : ((i : Int) != (j : Int)) = (i != j) := by rw [Bool.eq_iff_iff, bne_iff_ne, bne_iff_ne]; omega
theorem bset_full {m : Nat} (hm : m ≤ 6) (p : Nat → Bool) : (bset m p != (1#32 <<< m - 1#32)) = !allN m p := by
  rw [Bool.eq_iff_iff, bne_iff_ne, Bool.not_eq_true', ← Bool.not_eq_true, allN_iff]
  refine not_congr ⟨fun h j hj => ?_, fun h => bits_ext fun j => ?_⟩
  · have := (full_bit (n := m) (by omega) j).2 hj
    unfold full at this
    rw [← h, bset_bit (by omega), decide_eq_true hj, Bool.true_and] at this
    exact this
  · have h1 := full_bit (n := m) (by omega) j
    unfold full at h1
    rw [h1, bset_bit (by omega), Bool.and_eq_true, decide_eq_true_eq]
    exact ⟨fun e => e.1, fun e => ⟨e, h j e⟩⟩

theorem irr_eq (n : Int) (ps : List (Int × Int)) {m : Nat} (ho : O3 n ps m) (hl : LA m (rr ps) = true)
    (hb : lattice_build n ps = some (some { up := TB m (rr ps), down := TB m (fl (rr ps)), join := MT m (rr ps), meet := MT m (fl (rr ps)), is_ := LA m (rr ps) }, 0)) :
    lattice_Irreducible n ps = some (bset m (irr m (rr ps)), 0) := by
  have hm := ho.m6
  have hn := ho.n
  subst hn
  unfold lattice_Irreducible
  rw [hb, hl]
  simp only [Option.bind_some, bne_self_eq_false, cond_false, Bool.not_true]
  rw [decide_eq_true (by omega), cond_true]
  rw [for_bset (n := m) (irr m (rr ps)) rfl (fun i s nx hi => by
    unfold lattice_Irreducible_b29
    rw [TB_at hi, Option.bind_some, decide_eq_true (by omega), cond_true, decide_eq_true (by omega), cond_true, Int.toNat_natCast, bset_full hm]
    rw [for_all (n := m) (fun a => allN m fun b => (jn m (rr ps) a b != (i : Int) || a == i) || b == i) rfl (fun a s' nx' ha => by
      unfold lattice_Irreducible_b44
      rw [decide_eq_true (by omega), cond_true]
      rw [for_all (n := m) (fun b => (jn m (rr ps) a b != (i : Int) || a == i) || b == i) rfl (fun b s'' nx'' hb => by
        unfold lattice_Irreducible_b56
        simp only [MT_at ha, tab_geti hb, Option.isSome_some, Bool.or_true, cond_true, Option.getD_some, eq_cast'])]
      rfl)]
    unfold lattice_Irreducible_k40
    rw [Int.toNat_natCast]
    exact cond_nx nx _ _ _)]
  rfl
theorem irr_no (n : Int) (ps : List (Int × Int)) {m : Nat} (hl : LA m (rr ps) = false)
    (hb : lattice_build n ps = some (some { up := TB m (rr ps), down := TB m (fl (rr ps)), join := MT m (rr ps), meet := MT m (fl (rr ps)), is_ := LA m (rr ps) }, 0)) :
    lattice_Irreducible n ps = some (0#32, 3) := by
  unfold lattice_Irreducible
  rw [hb, hl]; rfl
theorem irr_err (n : Int) (ps : List (Int × Int)) {c : Int} (h : c ≠ 0) (hb : lattice_build n ps = some (none, c)) : lattice_Irreducible n ps = some (0#32, c) := by
  unfold lattice_Irreducible
  have h3 : (c != 0) = true := by simpa using h
  rw [hb, Option.bind_some, h3]; rfl

theorem irrRef_eq (fuel : Nat) (n : Int) (ps : List (Int × Int)) (hf : 100 < fuel) {m : Nat} (ho : O3 n ps m) :
    syllogistref_Irreducible fuel n ps = some (bset m (irr m (rr ps))) := by
  have hm := ho.m6
  have hJ := fun a b => ho.joined (fuel := fuel) (by omega) a b
  have hU := fun k i j => ho.under (fuel := fuel) (by omega) k i j
  have hn := ho.n
  subst hn
  unfold syllogistref_Irreducible
  rw [decide_eq_true (by omega), cond_true]
  rw [for_bset_add (n := m) (irr m (rr ps)) rfl (by omega) (fun i s nx hi => by
    unfold syllogistref_Irreducible_b10
    rw [decide_eq_true (by omega), cond_true]
    rw [for_rec (s := ((true : Bool), (true : Bool))) (n := m) (fun t => (allN t (rr ps i), allN t fun a => allN m fun b => (jn m (rr ps) a b != (i : Int) || a == i) || b == i)) rfl rfl (fun a nx' ha => by
      unfold syllogistref_Irreducible_b25
      simp only [hU, Option.isSome_some, Bool.or_true, cond_true]
      rw [decide_eq_true (by omega), cond_true]
      rw [for_all (n := m) (fun b => (jn m (rr ps) a b != (i : Int) || a == i) || b == i) rfl (fun b s'' nx'' hb => by
        unfold syllogistref_Irreducible_b38
        rw [hJ, Option.bind_some, ne_cast', ne_cast', cond_nx nx'']
        congr 1
        rw [bne, bne, bne]
        cases jn m (rr ps) a b == (i : Int) <;> cases a == i <;> cases b == i <;> cases s'' <;> rfl)]
      unfold syllogistref_Irreducible_k34
      rw [hU]
      rfl)]
    unfold syllogistref_Irreducible_k21
    rw [ofInt64 (by omega), Bool.and_comm]
    exact cond_nx nx _ _ _)]
  rfl

theorem latticeIrreducibles_true (fuel : Nat) (n : Int) (ps : List (Int × Int)) (hf : 100 < fuel := by decide) : syllogistlaw_LatticeIrreducibles fuel n ps = some true := by
  obtain ⟨c, hc, h1, h2⟩ := build_eq n ps
  unfold syllogistlaw_LatticeIrreducibles
  by_cases h : c = 0
  · obtain ⟨m, ho, hb⟩ := h2 h
    subst h
    rw [code_ok fuel n ps hf hc ho]
    cases hl : LA m (rr ps) with
    | true => rw [irr_eq n ps ho hl hb, irrRef_eq fuel n ps hf ho]; simp
    | false => rw [irr_no n ps hl hb]; rfl
  · rw [irr_err n ps h (h1 h), code_eq fuel n ps hf hc h]
    have h3 : (c != 0) = true := by simpa using h
    simp [h3]
end Go.Proofs.Ytjpbdannibmplaa.Sy
