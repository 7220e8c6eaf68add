/- The small tree of a table: the plain law; no program in sight. -/
import Derived.Test.YtmggbhpieikdpaaG2
import Derived.Test.YtmggbhpieikdpaaSyR
namespace Go.Proofs.Ytmggbhpieikdpaa.Sy
set_option linter.unusedVariables false

def fidx : List Branch → Branch → Option Nat
  | [], _ => none
  | x :: xs, b => if x = b then some 0 else (fidx xs b).map (· + 1)
theorem fidx_some : ∀ {l : List Branch} {b : Branch} {t : Nat}, l[t]? = some b → (∀ i, i < t → l[i]? ≠ some b) → fidx l b = some t
  | [], b, t, h, _ => by simp at h
  | x :: xs, b, 0, h, _ => by
    have : x = b := by simpa using h
    rw [fidx, if_pos this]
  | x :: xs, b, t + 1, h, hn => by
    have hx : x ≠ b := fun e => hn 0 (by omega) (by simp [e])
    rw [fidx, if_neg hx, fidx_some (t := t) (by simpa using h) (fun i hi => by simpa using hn (i + 1) (by omega))]
    rfl
theorem fidx_none : ∀ {l : List Branch} {b : Branch}, (∀ i, i < l.length → l[i]? ≠ some b) → fidx l b = none
  | [], _, _ => rfl
  | x :: xs, b, h => by
    have hx : x ≠ b := fun e => h 0 (by simp) (by simp [e])
    rw [fidx, if_neg hx, fidx_none fun i hi => by simpa using h (i + 1) (by simpa using hi)]
    rfl
theorem fidx_app : ∀ (l : List Branch) (c b : Branch), fidx (l ++ [c]) b = match fidx l b with | some i => some i | none => if c = b then some l.length else none
  | [], c, b => by simp [fidx]
  | x :: xs, c, b => by
    rw [List.cons_append, fidx, fidx]
    by_cases h : x = b
    · rw [if_pos h, if_pos h]
    · rw [if_neg h, if_neg h, fidx_app xs c b]
      cases fidx xs b with
      | some i => rfl
      | none =>
        by_cases hc : c = b
        · simp [hc]
        · simp [hc]

/-- What is known of the branches is where they stand. -/
def MS (l : List Branch) (kn : List (Branch × Int)) : Prop := ∀ b, mget kn b = (fidx l b).map fun i => ((i + 2 : Nat) : Int)
theorem MS.add {l : List Branch} {kn : List (Branch × Int)} (h : MS l kn) {b : Branch} (hb : fidx l b = none) {i : Int} (hi : i = ((l.length + 2 : Nat) : Int)) : MS (l ++ [b]) (mput kn b i) := by
  intro c
  rw [mget_put, fidx_app]
  by_cases e : c = b
  · subst e
    rw [if_pos rfl, hb]
    simp [hi]
  · rw [if_neg e, h c]
    cases fidx l c with
    | some j => rfl
    | none => rw [if_neg (fun e' => e e'.symm)]

theorem or_small : ∀ v, v < 4 → ∀ x, x < 16 → x < 2 ^ v → (BitVec.ofNat 32 x ||| (1#32 <<< v)) = BitVec.ofNat 32 (x + 2 ^ v) := by decide +kernel

theorem put_ok {l : List Branch} {kn : List (Branch × Int)} (h : MS l kn) (hl : l.length ≤ 1000) (v lo hi : Int) :
    ∃ r l' kn', choice_maker_put ({ l := l, known := kn } : T67) ({ var := v, low := lo, high := hi } : Branch) = some (r, ({ l := l', known := kn' } : T67)) ∧ MS l' kn' ∧ l'.length ≤ l.length + 1 ∧
      (bif (lo == hi) then some (l, lo) else forK (σ := Unit) (fun i s nx_ => syllogistref_grow_b531 v (([] : List Branch), lo) (l, hi) i nx_) (fun _ => syllogistref_grow_k17 v (([] : List Branch), lo) (l, hi)) ((l.length : Int) - (0 : Int)).toNat (0 : Int) ()) = some (l', r) := by
  unfold choice_maker_put
  simp only
  cases he : (lo == hi) with
  | true => exact ⟨lo, l, kn, rfl, h, by omega, rfl⟩
  | false =>
    simp only [cond_false]
    have hb := h ({ var := v, low := lo, high := hi } : Branch)
    cases hf : fidx l ({ var := v, low := lo, high := hi } : Branch) with
    | some i =>
      rw [hf] at hb
      simp only [Option.map_some] at hb
      simp only [hb, Option.isSome_some, Bool.not_true, cond_false, Option.getD_some]
      refine ⟨_, l, kn, rfl, h, by omega, ?_⟩
      refine for0_q (n := l.length) (Q := fun o => o = some (l, ((i + 2 : Nat) : Int))) (fun j _ => ∀ u, u < j → l[u]? ≠ some ({ var := v, low := lo, high := hi } : Branch)) rfl () (fun u hu => by omega) (fun j _ nx hj hI hn => ?_) (fun _ hI => ?_)
      · unfold syllogistref_grow_b531
        simp only
        rw [geti_at hj, Option.bind_some]
        cases hc : ((l[j].var == v) && ((l[j].low == lo) && ((l[j].high == hi) && true))) with
        | true =>
          rw [cond_true]
          simp only [Bool.and_true, Bool.and_eq_true, beq_iff_eq] at hc
          have hx : l[j] = ({ var := v, low := lo, high := hi } : Branch) := by
            cases hl : l[j]
            rw [hl] at hc
            simp only at hc
            rw [hc.1, hc.2.1, hc.2.2]
          have := fidx_some (l := l) (t := j) (by rw [List.getElem?_eq_getElem hj, hx]) hI
          rw [hf] at this
          have e := Option.some.inj this
          subst e
          rw [w64_id (by omega) (by omega)]
          congr 2
        | false =>
          rw [cond_false]
          refine hn () fun u hu => ?_
          by_cases e : u = j
          · subst e
            rw [List.getElem?_eq_getElem hj]
            intro h'
            rw [Option.some.inj h'] at hc
            simp at hc
          · exact hI u (by omega)
      · rw [fidx_none hI] at hf; cases hf
    | none =>
      rw [hf] at hb
      simp only [Option.map_none] at hb
      simp only [hb, Option.isSome_none, Bool.not_false, cond_true]
      rw [decide_eq_true (by simp; omega), cond_true]
      have hlen : w64 (((l ++ [({ var := v, low := lo, high := hi } : Branch)]).length : Int) + 1) = ((l.length + 2 : Nat) : Int) := by
        rw [List.length_append, List.length_singleton, w64_id (by omega) (by omega)]; omega
      refine ⟨_, _, _, rfl, h.add hf hlen, by simp, ?_⟩
      refine for0_q (n := l.length) (Q := fun o => o = some (l ++ [({ var := v, low := lo, high := hi } : Branch)], w64 (((l ++ [({ var := v, low := lo, high := hi } : Branch)]).length : Int) + 1))) (fun j _ => True) rfl () trivial (fun j _ nx hj _ hn => ?_) (fun _ _ => ?_)
      · unfold syllogistref_grow_b531
        simp only
        rw [geti_at hj, Option.bind_some]
        cases hc : ((l[j].var == v) && ((l[j].low == lo) && ((l[j].high == hi) && true))) with
        | true =>
          simp only [Bool.and_true, Bool.and_eq_true, beq_iff_eq] at hc
          have hx : l[j] = ({ var := v, low := lo, high := hi } : Branch) := by
            cases hl : l[j]
            rw [hl] at hc
            simp only at hc
            rw [hc.1, hc.2.1, hc.2.2]
          obtain ⟨t, ht, hmin⟩ := least_nat (P := fun t => l[t]? = some ({ var := v, low := lo, high := hi } : Branch)) (n := j) (by rw [List.getElem?_eq_getElem hj, hx])
          have := fidx_some (l := l) (t := t) ht (fun i hi h' => by have := hmin i h'; omega)
          rw [hf] at this; cases this
        | false => rw [cond_false]; exact hn () trivial
      · unfold syllogistref_grow_k17
        simp only [List.nil_append]
        rw [decide_eq_true (by simp; omega), cond_true, decide_eq_true (by simp; omega), cond_true, hlen, w64_id (by omega) (by omega)]
        rfl

theorem both_ok {n : Nat} (hn : n ≤ 4) {f : List Bool} (hf : f.length = 2 ^ n) : ∀ (d v fx : Nat) (g : List Bool) (l : List Branch) (kn : List (Branch × Int)) (fuel : Nat), v + d = n → fx < 2 ^ v → g.length = 2 ^ d → (∀ t, t < 2 ^ d → g[t]? = f[t * 2 ^ v + fx]?) → MS l kn → l.length + 2 ^ d ≤ 900 → d < fuel →
    ∃ r l' kn', choice_maker_table fuel ({ l := l, known := kn } : T67) (v : Int) (n : Int) g = some (r, ({ l := l', known := kn' } : T67)) ∧ syllogistref_grow fuel n f v (BitVec.ofNat 32 fx) l = some (l', r) ∧ MS l' kn' ∧ l'.length + 1 ≤ l.length + 2 ^ d := by
  intro d
  induction d with
  | zero =>
    intro v fx g l kn fuel hv hfx hg hgf hM hl hfu
    obtain ⟨fuel, rfl⟩ : ∃ k, fuel = k + 1 := ⟨fuel - 1, by omega⟩
    have hvn : v = n := by omega
    subst hvn
    have h16 : 2 ^ v ≤ 16 := Nat.pow_le_pow_right (n := 2) (j := 4) (by omega) hn
    show ∃ r l' kn', choice_maker_table_s (choice_maker_table fuel) ({ l := l, known := kn } : T67) (v : Int) (v : Int) g = some (r, ({ l := l', known := kn' } : T67)) ∧ syllogistref_grow_s (syllogistref_grow fuel) (v : Int) f (v : Int) (BitVec.ofNat 32 fx) l = some (l', r) ∧ MS l' kn' ∧ l'.length + 1 ≤ l.length + 2 ^ 0
    unfold choice_maker_table_s syllogistref_grow_s
    have h0 := hgf 0 (by simp)
    rw [Nat.zero_mul, Nat.zero_add] at h0
    have hw : ((BitVec.ofNat 32 fx).toNat : Int) = (fx : Int) := by rw [BitVec.toNat_ofNat, Nat.mod_eq_of_lt (by omega)]
    have e0 : geti g (0 : Int) = f[fx]? := by rw [← h0]; exact geti_nat? (j := 0)
    have hfl : fx < f.length := by omega
    rw [beq_self_eq_true, cond_true, cond_true, hw, geti_nat?, e0, List.getElem?_eq_getElem hfl, Option.bind_some, Option.bind_some]
    cases f[fx] with
    | true => exact ⟨1, l, kn, rfl, rfl, hM, by simp⟩
    | false => exact ⟨0, l, kn, rfl, rfl, hM, by simp⟩
  | succ d ih =>
    intro v fx g l kn fuel hv hfx hg hgf hM hl hfu
    obtain ⟨fuel, rfl⟩ : ∃ k, fuel = k + 1 := ⟨fuel - 1, by omega⟩
    have h16 : 2 ^ v ≤ 16 := Nat.pow_le_pow_right (n := 2) (j := 4) (by omega) (by omega)
    have hd2 : 2 ^ (d + 1) = 2 ^ d + 2 ^ d := by rw [Nat.pow_succ]; omega
    have hv2 : 2 ^ (v + 1) = 2 ^ v + 2 ^ v := by rw [Nat.pow_succ]; omega
    have hd16 : 2 ^ (d + 1) ≤ 16 := Nat.pow_le_pow_right (n := 2) (j := 4) (by omega) (by omega)
    show ∃ r l' kn', choice_maker_table_s (choice_maker_table fuel) ({ l := l, known := kn } : T67) (v : Int) (n : Int) g = some (r, ({ l := l', known := kn' } : T67)) ∧ syllogistref_grow_s (syllogistref_grow fuel) (n : Int) f (v : Int) (BitVec.ofNat 32 fx) l = some (l', r) ∧ MS l' kn' ∧ l'.length + 1 ≤ l.length + 2 ^ (d + 1)
    unfold choice_maker_table_s syllogistref_grow_s
    have hne : ((v : Int) == (n : Int)) = false := by rw [beq_eq_false_iff_ne]; omega
    rw [hne, cond_false, cond_false, w64_id (by omega) (by omega), ofInt64 (by omega), or_small v (by omega) fx (by omega) hfx]
    have hv1 : (v : Int) + 1 = ((v + 1 : Nat) : Int) := by omega
    rw [hv1]
    have key : ∀ (low high : List Bool), low.length = 2 ^ d → high.length = 2 ^ d → (∀ i, i < 2 ^ d → low[i]? = g[2 * i]?) → (∀ i, i < 2 ^ d → high[i]? = g[2 * i + 1]?) →
        ∃ r l' kn', choice_maker_table_k19 ({ l := l, known := kn } : T67) (v : Int) (n : Int) (choice_maker_table fuel) high low = some (r, ({ l := l', known := kn' } : T67)) ∧
          ((syllogistref_grow fuel (n : Int) f ((v + 1 : Nat) : Int) (BitVec.ofNat 32 fx) l).bind fun r3 => (syllogistref_grow fuel (n : Int) f ((v + 1 : Nat) : Int) (BitVec.ofNat 32 (fx + 2 ^ v)) r3.1).bind fun r8 =>
            bif (r3.2 == r8.2) then some ((r8.1, r3.2)) else
              forK (σ := Unit) (fun i s nx_ => syllogistref_grow_b531 (v : Int) r3 r8 i nx_) (fun _ => syllogistref_grow_k17 (v : Int) r3 r8) ((r8.1.length : Int) - (0 : Int)).toNat (0 : Int) ()) = some (l', r) ∧ MS l' kn' ∧ l'.length + 1 ≤ l.length + 2 ^ (d + 1) := by
      intro low high hl1 hl2 hlo hhi
      obtain ⟨r1, l1, k1, a1, a2, a3, a4⟩ := ih (v + 1) fx low l kn fuel (by omega) (by omega) hl1 (fun t ht => by
        rw [hlo t ht, hgf (2 * t) (by omega), hv2]
        congr 1
        rw [Nat.mul_add, Nat.mul_assoc]; omega) hM (by omega) (by omega)
      obtain ⟨r2, l2, k2, b1, b2, b3, b4⟩ := ih (v + 1) (fx + 2 ^ v) high l1 k1 fuel (by omega) (by omega) hl2 (fun t ht => by
        rw [hhi t ht, hgf (2 * t + 1) (by omega), hv2]
        congr 1
        rw [Nat.mul_add, Nat.add_mul, Nat.mul_assoc]; omega) a3 (by omega) (by omega)
      obtain ⟨r, l', kn', c1, c2, c3, c4⟩ := put_ok b3 (by omega) (v : Int) r1 r2
      refine ⟨r, l', kn', ?_, ?_, c2, by omega⟩
      · unfold choice_maker_table_k19
        rw [w64_id (by omega) (by omega), hv1, a1, Option.bind_some]
        simp only
        rw [b1, Option.bind_some]
        simp only
        rw [c1, Option.bind_some]
      · rw [a2, Option.bind_some]
        simp only
        rw [b2, Option.bind_some]
        exact c4
    have hQ : ∀ o : Option (Int × T67), (∃ low high : List Bool, (low.length = 2 ^ d ∧ high.length = 2 ^ d ∧ (∀ i, i < 2 ^ d → low[i]? = g[2 * i]?) ∧ ∀ i, i < 2 ^ d → high[i]? = g[2 * i + 1]?) ∧ o = choice_maker_table_k19 ({ l := l, known := kn } : T67) (v : Int) (n : Int) (choice_maker_table fuel) high low) → ∃ r l' kn', o = some (r, ({ l := l', known := kn' } : T67)) ∧
          ((syllogistref_grow fuel (n : Int) f ((v + 1 : Nat) : Int) (BitVec.ofNat 32 fx) l).bind fun r3 => (syllogistref_grow fuel (n : Int) f ((v + 1 : Nat) : Int) (BitVec.ofNat 32 (fx + 2 ^ v)) r3.1).bind fun r8 =>
            bif (r3.2 == r8.2) then some ((r8.1, r3.2)) else
              forK (σ := Unit) (fun i s nx_ => syllogistref_grow_b531 (v : Int) r3 r8 i nx_) (fun _ => syllogistref_grow_k17 (v : Int) r3 r8) ((r8.1.length : Int) - (0 : Int)).toNat (0 : Int) ()) = some (l', r) ∧ MS l' kn' ∧ l'.length + 1 ≤ l.length + 2 ^ (d + 1) := by
      rintro o ⟨low, high, ⟨h1, h2, h3, h4⟩, rfl⟩
      exact key low high h1 h2 h3 h4
    apply hQ
    refine for0_q (n := g.length) (Q := fun o => ∃ low high : List Bool, (low.length = 2 ^ d ∧ high.length = 2 ^ d ∧ (∀ i, i < 2 ^ d → low[i]? = g[2 * i]?) ∧ ∀ i, i < 2 ^ d → high[i]? = g[2 * i + 1]?) ∧ o = choice_maker_table_k19 ({ l := l, known := kn } : T67) (v : Int) (n : Int) (choice_maker_table fuel) high low)
      (fun t (s : List Bool × List Bool) => s.2.length = (t + 1) / 2 ∧ s.1.length = t / 2 ∧ (∀ i, i < (t + 1) / 2 → s.2[i]? = g[2 * i]?) ∧ ∀ i, i < t / 2 → s.1[i]? = g[2 * i + 1]?) rfl ([], []) ⟨by simp, by simp, fun i hi => by omega, fun i hi => by omega⟩ (fun t s nx ht hI hn' => ?_) (fun s hI => ?_)
    · obtain ⟨hi', lo'⟩ := s
      obtain ⟨i1, i2, i3, i4⟩ := hI
      simp only at i1 i2 i3 i4 ⊢
      unfold choice_maker_table_b36
      rw [geti_at ht, Option.bind_some]
      have hand : ((iand (t : Int) (1 : Int)) == (0 : Int)) = decide (t % 2 = 0) := by
        have : ∀ t : Nat, t < 16 → ((iand (t : Int) (1 : Int)) == (0 : Int)) = decide (t % 2 = 0) := by decide +kernel
        exact this t (by omega)
      rw [hand]
      by_cases hp : t % 2 = 0
      · rw [decide_eq_true hp, cond_true, decide_eq_true (by simp; omega), cond_true]
        refine hn' _ ⟨by simp only [List.length_append, List.length_singleton]; omega, by simp only; omega, fun i hi => ?_, fun i hi => i4 i (by omega)⟩
        simp only
        by_cases e : i < lo'.length
        · rw [List.getElem?_append_left e]; exact i3 i (by omega)
        · have : i = lo'.length := by omega
          subst this
          have : 2 * lo'.length = t := by omega
          rw [this, List.getElem?_eq_getElem ht]; simp
      · rw [decide_eq_false hp, cond_false, decide_eq_true (by simp; omega), cond_true]
        refine hn' _ ⟨by simp only; omega, by simp only [List.length_append, List.length_singleton]; omega, fun i hi => i3 i (by omega), fun i hi => ?_⟩
        simp only
        by_cases e : i < hi'.length
        · rw [List.getElem?_append_left e]; exact i4 i (by omega)
        · have : i = hi'.length := by omega
          subst this
          have : 2 * hi'.length + 1 = t := by omega
          rw [this, List.getElem?_eq_getElem ht]; simp
    · obtain ⟨hi', lo'⟩ := s
      obtain ⟨i1, i2, i3, i4⟩ := hI
      simp only at i1 i2 i3 i4 ⊢
      exact ⟨lo', hi', ⟨by omega, by omega, fun i hi => i3 i (by omega), fun i hi => i4 i (by omega)⟩, rfl⟩

theorem branches_self (l : List Branch) : syllogistref_Branches l l = some true := by
  unfold syllogistref_Branches
  rw [bne_self_eq_false, cond_false]
  refine for0_q (n := l.length) (Q := fun o => o = some true) (fun _ _ => True) rfl () trivial (fun j _ nx hj _ hn => ?_) (fun _ _ => rfl)
  unfold syllogistref_Branches_b7
  rw [geti_at hj, Option.bind_some, Option.bind_some]
  simp only [beq_self_eq_true, Bool.and_self, Bool.not_true, cond_false]
  exact hn () trivial

theorem ishl_small : ∀ n, n ≤ 4 → ishl (1 : Int) n = ((2 ^ n : Nat) : Int) := by decide
theorem choiceBuilds_true (fuel : Nat) (n : Int) (f : List Bool) (hf : 100 < fuel := by decide) : syllogistlaw_ChoiceBuilds fuel n f = some true := by
  unfold syllogistlaw_ChoiceBuilds choice_Build truth_Check syllogistref_TruthCheck
  cases hb : ((decide (n < (0 : Int))) || (decide (n > (4 : Int)))) with
  | true => rfl
  | false =>
    simp only [Bool.or_eq_false_iff, decide_eq_false_iff_not] at hb
    obtain ⟨k, rfl⟩ : ∃ k : Nat, n = k := ⟨n.toNat, by omega⟩
    have hk : k ≤ 4 := by omega
    simp only [cond_false]
    rw [decide_eq_true (by omega), cond_true, Int.toNat_natCast, ofInt64 (by omega), ishl_small k hk]
    cases hl : ((f.length : Int) != ((2 ^ k : Nat) : Int)) with
    | true => rfl
    | false =>
      have hlen : f.length = 2 ^ k := by
        have : (f.length : Int) = ((2 ^ k : Nat) : Int) := by simpa using hl
        omega
      have h16 : 2 ^ k ≤ 16 := Nat.pow_le_pow_right (n := 2) (j := 4) (by omega) hk
      obtain ⟨r, l', kn', a1, a2, _, _⟩ := both_ok hk hlen k 0 0 f [] [] fuel (by omega) (by simp) hlen (fun t _ => by simp) (fun b => rfl) (by simp; omega) (by omega)
      have a1' : choice_maker_table fuel (({ l := ([] : List Branch), known := ([] : List (Branch × Int)) } : T67)) ((0 : Int)) (k : Int) f = some (r, ({ l := l', known := kn' } : T67)) := a1
      have a2' : syllogistref_grow fuel (k : Int) f ((0 : Int)) (0#32) [] = some (l', r) := a2
      simp only [cond_false, Option.bind_some, bne_self_eq_false]
      unfold syllogistref_Grow
      rw [a1', Option.bind_some, Option.bind_some, a2', Option.bind_some]
      simp only [Option.bind_some, branches_self, beq_self_eq_true, Bool.and_self, Option.isSome_some, Bool.or_true, cond_true, Option.getD_some]
end Go.Proofs.Ytmggbhpieikdpaa.Sy
