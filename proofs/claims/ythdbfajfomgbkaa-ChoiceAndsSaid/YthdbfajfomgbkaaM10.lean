/- Two trees side by side, and the small tree of what comes of it, are the small tree of both tables: the plain law of choice.And; no program in sight. -/
import Derived.Test.YthdbfajfomgbkaaG1
import Derived.Test.YthdbfajfomgbkaaSyR
namespace Go.Proofs.Ythdbfajfomgbkaa.Sy
set_option linter.unusedVariables false
theorem bit_eq (w : BitVec 32) (j : Nat) (hj : j < 32) : syllogistref_Bit w j = some (w.getLsbD j) := congrArg some (bit_shape w j hj)

def fidx : List Branch → Branch → Option Nat
  | [], _ => none
  | x :: xs, b => if x = b then some 0 else (fidx xs b).map (· + 1)
theorem fidx_some : ∀ {l : List Branch} {b : Branch} {t : Nat}, l[t]? = some b → (∀ i, i < t → l[i]? ≠ some b) → fidx l b = some t
  | [], b, t, h, _ => by simp at h
  | x :: xs, b, 0, h, _ => by
    have : x = b := by simpa using h
    rw [fidx, if_pos this]
  | x :: xs, b, t + 1, h, hn => by
    have hx : x ≠ b := fun e => hn 0 (by omega) (by simp [e])
    rw [fidx, if_neg hx, fidx_some (t := t) (by simpa using h) (fun i hi => by simpa using hn (i + 1) (by omega))]
    rfl
theorem fidx_none : ∀ {l : List Branch} {b : Branch}, (∀ i, i < l.length → l[i]? ≠ some b) → fidx l b = none
  | [], _, _ => rfl
  | x :: xs, b, h => by
    have hx : x ≠ b := fun e => h 0 (by simp) (by simp [e])
    rw [fidx, if_neg hx, fidx_none fun i hi => by simpa using h (i + 1) (by simpa using hi)]
    rfl
theorem fidx_app : ∀ (l : List Branch) (c b : Branch), fidx (l ++ [c]) b = match fidx l b with | some i => some i | none => if c = b then some l.length else none
  | [], c, b => by simp [fidx]
  | x :: xs, c, b => by
    rw [List.cons_append, fidx, fidx]
    by_cases h : x = b
    · rw [if_pos h, if_pos h]
    · rw [if_neg h, if_neg h, fidx_app xs c b]
      cases fidx xs b with
      | some i => rfl
      | none =>
        by_cases hc : c = b
        · simp [hc]
        · simp [hc]

/-- What is known of the branches is where they stand. -/
def MS (l : List Branch) (kn : List (Branch × Int)) : Prop := ∀ b, mget kn b = (fidx l b).map fun i => ((i + 2 : Nat) : Int)
theorem MS.add {l : List Branch} {kn : List (Branch × Int)} (h : MS l kn) {b : Branch} (hb : fidx l b = none) {i : Int} (hi : i = ((l.length + 2 : Nat) : Int)) : MS (l ++ [b]) (mput kn b i) := by
  intro c
  rw [mget_put, fidx_app]
  by_cases e : c = b
  · subst e
    rw [if_pos rfl, hb]
    simp [hi]
  · rw [if_neg e, h c]
    cases fidx l c with
    | some j => rfl
    | none => rw [if_neg (fun e' => e e'.symm)]

theorem or_small : ∀ v, v < 4 → ∀ x, x < 16 → x < 2 ^ v → (BitVec.ofNat 32 x ||| (1#32 <<< v)) = BitVec.ofNat 32 (x + 2 ^ v) := by decide +kernel


/-! ### Branches put: plainly -/
def putL (l : List Branch) (b : Branch) : Int × List Branch :=
  if b.low = b.high then (b.low, l) else match fidx l b with
    | some i => (((i + 2 : Nat) : Int), l)
    | none => (((l.length + 2 : Nat) : Int), l ++ [b])
theorem fidx_pre {l l' : List Branch} {b : Branch} {i : Nat} (h : fidx l b = some i) (hp : l <+: l') : fidx l' b = some i := by
  obtain ⟨t, rfl⟩ := hp
  revert l
  induction t with
  | nil => intro l h; simpa using h
  | cons c t ih =>
    intro l h
    have : fidx (l ++ [c]) b = some i := by rw [fidx_app, h]
    have := ih this
    simpa using this
theorem fidx_at : ∀ {l : List Branch} {b : Branch} {i : Nat}, fidx l b = some i → l[i]? = some b
  | [], b, i, h => by simp [fidx] at h
  | x :: xs, b, i, h => by
    rw [fidx] at h
    by_cases e : x = b
    · rw [if_pos e] at h
      cases h
      simp [e]
    · rw [if_neg e] at h
      cases hf : fidx xs b with
      | none => rw [hf] at h; simp at h
      | some j =>
        rw [hf] at h
        simp only [Option.map_some, Option.some.injEq] at h
        subst h
        simpa using fidx_at hf
theorem putL_pre (l : List Branch) (b : Branch) : l <+: (putL l b).2 := by
  unfold putL
  split
  · exact List.prefix_refl _
  · cases fidx l b with
    | some i => exact List.prefix_refl _
    | none => exact List.prefix_append _ _
theorem putL_len (l : List Branch) (b : Branch) : (putL l b).2.length ≤ l.length + 1 := by
  unfold putL
  split
  · exact Nat.le_succ _
  · cases fidx l b with
    | some i => exact Nat.le_succ _
    | none => simp
theorem putL_idem {l l' : List Branch} {b : Branch} (h : (putL l b).2 <+: l') : putL l' b = ((putL l b).1, l') := by
  unfold putL at h ⊢
  by_cases e : b.low = b.high
  · rw [if_pos e] at h ⊢
    rw [if_pos e]
  · rw [if_neg e] at h ⊢
    rw [if_neg e]
    cases hf : fidx l b with
    | some i =>
      rw [hf] at h
      rw [fidx_pre hf h]
    | none =>
      rw [hf] at h
      have : fidx (l ++ [b]) b = some l.length := by rw [fidx_app, hf]; simp
      rw [fidx_pre this h]

theorem put_eq {l : List Branch} {kn : List (Branch × Int)} (h : MS l kn) (hl : l.length ≤ 1000) (b : Branch) :
    ∃ kn', choice_maker_put ({ l := l, known := kn } : T36) b = some ((putL l b).1, ({ l := (putL l b).2, known := kn' } : T36)) ∧ MS (putL l b).2 kn' := by
  obtain ⟨v, lo, hi⟩ := b
  unfold choice_maker_put putL
  simp only
  by_cases e : lo = hi
  · rw [if_pos e, show (lo == hi) = true by simpa using e]
    exact ⟨kn, rfl, h⟩
  · rw [if_neg e, show (lo == hi) = false by simpa using e]
    simp only [cond_false]
    have hb := h ({ var := v, low := lo, high := hi } : Branch)
    cases hf : fidx l ({ var := v, low := lo, high := hi } : Branch) with
    | some i =>
      rw [hf] at hb
      simp only [Option.map_some] at hb
      simp only [hb, Option.isSome_some, Bool.not_true, cond_false, Option.getD_some]
      exact ⟨kn, rfl, h⟩
    | none =>
      rw [hf] at hb
      simp only [Option.map_none] at hb
      simp only [hb, Option.isSome_none, Bool.not_false, cond_true]
      rw [decide_eq_true (by simp; omega), cond_true]
      have hlen : w64 (((l ++ [({ var := v, low := lo, high := hi } : Branch)]).length : Int) + 1) = ((l.length + 2 : Nat) : Int) := by
        rw [List.length_append, List.length_singleton, w64_id (by omega) (by omega)]; omega
      rw [hlen]
      exact ⟨_, rfl, h.add hf rfl⟩
theorem loop_eq {l : List Branch} (hl : l.length ≤ 1000) (v lo hi : Int) (r3 : List Branch × Int) (h3 : r3.2 = lo) :
    (bif (lo == hi) then some (l, lo) else forK (σ := Unit) (fun i s nx_ => syllogistref_grow_b531 v r3 (l, hi) i nx_) (fun _ => syllogistref_grow_k17 v r3 (l, hi)) ((l.length : Int) - (0 : Int)).toNat (0 : Int) ()) = some ((putL l { var := v, low := lo, high := hi }).2, (putL l { var := v, low := lo, high := hi }).1) := by
  subst h3
  unfold putL
  simp only
  by_cases e : r3.2 = hi
  · rw [if_pos e, show (r3.2 == hi) = true by simpa using e]
    rfl
  · rw [if_neg e, show (r3.2 == hi) = false by simpa using e]
    simp only [cond_false]
    have eqb : ∀ y : Branch, ((y.var == v) && ((y.low == r3.2) && ((y.high == hi) && true))) = decide (y = ({ var := v, low := r3.2, high := hi } : Branch)) := fun y => by
      cases y; rw [Bool.eq_iff_iff]; simp
    cases hf : fidx l ({ var := v, low := r3.2, high := hi } : Branch) with
    | some i =>
      have hi' := fidx_at hf
      have hlt : i < l.length := (List.getElem?_eq_some_iff.1 hi').1
      refine for0_q (n := l.length) (Q := fun o => o = some (l, ((i + 2 : Nat) : Int))) (fun j _ => ∀ u, u < j → l[u]? ≠ some ({ var := v, low := r3.2, high := hi } : Branch)) rfl () (fun u hu => by omega) (fun j _ nx hj hI hn => ?_) (fun _ hI => absurd hi' (hI i hlt))
      unfold syllogistref_grow_b531
      simp only
      rw [geti_at hj, Option.bind_some, eqb]
      by_cases hc : l[j] = ({ var := v, low := r3.2, high := hi } : Branch)
      · rw [decide_eq_true hc, cond_true]
        have := fidx_some (l := l) (t := j) (by rw [List.getElem?_eq_getElem hj, hc]) hI
        rw [hf] at this
        have e := Option.some.inj this
        subst e
        rw [w64_id (by omega) (by omega)]
        congr 2
      · rw [decide_eq_false hc, cond_false]
        refine hn () fun u hu => ?_
        by_cases e : u = j
        · subst e
          rw [List.getElem?_eq_getElem hj]
          intro h'
          exact hc (Option.some.inj h')
        · exact hI u (by omega)
    | none =>
      refine for0_q (n := l.length) (Q := fun o => o = some (l ++ [({ var := v, low := r3.2, high := hi } : Branch)], ((l.length + 2 : Nat) : Int))) (fun j _ => True) rfl () trivial (fun j _ nx hj _ hn => ?_) (fun _ _ => ?_)
      · unfold syllogistref_grow_b531
        simp only
        rw [geti_at hj, Option.bind_some, eqb]
        by_cases hc : l[j] = ({ var := v, low := r3.2, high := hi } : Branch)
        · obtain ⟨t, ht, hmin⟩ := least_nat (P := fun t => l[t]? = some ({ var := v, low := r3.2, high := hi } : Branch)) (n := j) (by rw [List.getElem?_eq_getElem hj, hc])
          have := fidx_some (l := l) (t := t) ht (fun i hi h' => by have := hmin i h'; omega)
          rw [hf] at this; cases this
        · rw [decide_eq_false hc, cond_false]; exact hn () trivial
      · unfold syllogistref_grow_k17
        simp only [List.nil_append]
        rw [decide_eq_true (by simp; omega), cond_true, decide_eq_true (by simp; omega), cond_true, w64_id (by omega) (by omega)]
        rfl
theorem forI_congr {σ R : Type} {b1 b2 : Int → σ → (σ → Option R) → Option R} {k1 k2 : σ → Option R} : ∀ (n : Nat) (i : Int) (s : σ), (∀ j s nx, i ≤ j → j < i + n → b1 j s nx = b2 j s nx) → (∀ s, k1 s = k2 s) → forK b1 k1 n i s = forK b2 k2 n i s
  | 0, i, s, h, hk => hk s
  | n + 1, i, s, h, hk => by
    show b1 i s (fun s' => forK b1 k1 n (i + 1) s') = b2 i s (fun s' => forK b2 k2 n (i + 1) s')
    rw [h i s _ (by omega) (by omega)]
    congr 1
    funext s'
    exact forI_congr n (i + 1) s' (fun j s nx h1 h2 => h j s nx (by omega) (by omega)) hk

abbrev br (l : List Branch) (i : Nat) : Branch := l[i]?.getD { var := 0, low := 0, high := 0 }
theorem geti_br {l : List Branch} {i : Nat} (h : i < l.length) : geti l (i : Int) = some (br l i) := geti_d _ h
theorem wrong_eq {n : Int} {l : List Branch} {root : Int} (hl : l.length ≤ 20) : choice_wrong n l root = syllogistref_BranchCheck n l root := by
  unfold choice_wrong syllogistref_BranchCheck
  refine forI_congr _ _ _ (fun t s nx h0 h1 => ?_) (fun s => ?_)
  · have e1 : w64 (t + 1) = t + 1 := w64_id (by omega) (by omega)
    have e2 : w64 (t + 2) = t + 2 := w64_id (by omega) (by omega)
    unfold choice_wrong_b7 syllogistref_BranchCheck_b7
    congr 1
    funext y
    congr 1
    refine forI_congr _ _ _ (fun i s nx h0 h1 => ?_) (fun s => rfl)
    unfold choice_wrong_b22 syllogistref_BranchCheck_b22
    congr 1
    funext x
    have d1 : decide (x > w64 (t + 1)) = decide (x ≥ w64 (t + 2)) := by rw [e1, e2]; exact decide_eq_decide.2 ⟨fun h => by omega, fun h => by omega⟩
    have d2 : decide (x > 1) = decide (x ≥ 2) := decide_eq_decide.2 ⟨fun h => by omega, fun h => by omega⟩
    rw [d1, d2]
  · unfold choice_wrong_k3 syllogistref_BranchCheck_k3
    have e1 : w64 ((l.length : Int) + 1) = (l.length : Int) + 1 := w64_id (by omega) (by omega)
    have e2 : w64 ((l.length : Int) + 2) = (l.length : Int) + 2 := w64_id (by omega) (by omega)
    have d1 : decide (root > w64 ((l.length : Int) + 1)) = decide (root ≥ w64 ((l.length : Int) + 2)) := by rw [e1, e2]; exact decide_eq_decide.2 ⟨fun h => by omega, fun h => by omega⟩
    rw [d1]

theorem branches_self (l : List Branch) : syllogistref_Branches l l = some true := by
  unfold syllogistref_Branches
  rw [bne_self_eq_false, cond_false]
  refine for0_q (n := l.length) (Q := fun o => o = some true) (fun _ _ => True) rfl () trivial (fun j _ nx hj _ hn => ?_) (fun _ _ => rfl)
  unfold syllogistref_Branches_b7
  rw [geti_at hj, Option.bind_some, Option.bind_some]
  simp only [beq_self_eq_true, Bool.and_self, Bool.not_true, cond_false]
  exact hn () trivial


/-! ### Trees: what they tell -/
def dn (l : List Branch) (k : Nat) (s : Nat) : Bool :=
  if k < 2 then decide (k = 1) else
    if h : (if s.testBit (br l (k - 2)).var.toNat then (br l (k - 2)).high else (br l (k - 2)).low).toNat < k then dn l (if s.testBit (br l (k - 2)).var.toNat then (br l (k - 2)).high else (br l (k - 2)).low).toNat s else false
termination_by k
def tp (n : Nat) (l : List Branch) (k : Nat) : Nat := if k < 2 then n else (br l (k - 2)).var.toNat
/-- Branches that pass. -/
def WF (n : Nat) (l : List Branch) : Prop :=
  ∀ t, t < l.length → ∃ v lo hi : Nat, br l t = { var := v, low := lo, high := hi } ∧ v < n ∧ lo < t + 2 ∧ hi < t + 2 ∧ v < tp n l lo ∧ v < tp n l hi
theorem dn_small {l : List Branch} {k : Nat} (h : k < 2) (s : Nat) : dn l k s = decide (k = 1) := by rw [dn, if_pos h]
theorem dn_node {l : List Branch} {k v lo hi : Nat} (h : ¬k < 2) (hb : br l (k - 2) = { var := v, low := lo, high := hi }) (h1 : lo < k) (h2 : hi < k) (s : Nat) : dn l k s = dn l (if s.testBit v then hi else lo) s := by
  rw [dn, if_neg h, hb]
  simp only [Int.toNat_natCast]
  by_cases e : s.testBit v = true
  · simp only [e, if_true, Int.toNat_natCast]
    rw [dif_pos h2]
  · simp only [e, Bool.false_eq_true, if_false, Int.toNat_natCast]
    rw [dif_pos h1]
theorem br_pre {l l' : List Branch} (hp : l <+: l') {t : Nat} (ht : t < l.length) : br l' t = br l t := by
  obtain ⟨r, rfl⟩ := hp
  unfold br
  rw [List.getElem?_append_left ht]
theorem tp_pre {n : Nat} {l l' : List Branch} (hp : l <+: l') {k : Nat} (hk : k < l.length + 2) : tp n l' k = tp n l k := by
  unfold tp
  by_cases h : k < 2
  · rw [if_pos h, if_pos h]
  · rw [if_neg h, if_neg h, br_pre hp (by omega)]
theorem dn_pre {n : Nat} {l l' : List Branch} (hW : WF n l) (hp : l <+: l') (s : Nat) : ∀ (m k : Nat), k < m → k < l.length + 2 → dn l' k s = dn l k s
  | 0, k, hm, _ => by omega
  | m + 1, k, hm, hk => by
    by_cases h : k < 2
    · rw [dn_small h, dn_small h]
    · obtain ⟨v, lo, hi, hb, h1, h2, h3, h4, h5⟩ := hW (k - 2) (by omega)
      have hb' := hb
      rw [← br_pre hp (by omega)] at hb'
      rw [dn_node h hb (by omega) (by omega), dn_node h hb' (by omega) (by omega)]
      split
      · exact dn_pre hW hp s m hi (by omega) (by omega)
      · exact dn_pre hW hp s m lo (by omega) (by omega)
theorem tp_le {n : Nat} {l : List Branch} (hW : WF n l) {k : Nat} (hk : k < l.length + 2) : tp n l k ≤ n := by
  unfold tp
  by_cases h : k < 2
  · rw [if_pos h]; exact Nat.le_refl _
  · rw [if_neg h]
    obtain ⟨v, lo, hi, hb, h1, _⟩ := hW (k - 2) (by omega)
    rw [hb]; simp only [Int.toNat_natCast]; omega

/-- The codes. -/
theorem bcheck (n : Nat) {l : List Branch} (root : Int) (hl : l.length ≤ 20) : ∃ r, syllogistref_BranchCheck n l root = some r ∧ r ≠ 1 ∧ (r = 0 → WF n l ∧ 0 ≤ root ∧ root < l.length + 2) := by
  unfold syllogistref_BranchCheck
  refine for0_q (Q := fun o => ∃ r, o = some r ∧ r ≠ 1 ∧ (r = 0 → WF n l ∧ 0 ≤ root ∧ root < l.length + 2)) (fun m _ => ∀ t, t < m → ∃ v lo hi : Nat, br l t = { var := v, low := lo, high := hi } ∧ v < n ∧ lo < t + 2 ∧ hi < t + 2 ∧ v < tp n l lo ∧ v < tp n l hi) rfl () (fun t ht => by omega) (fun t s nx ht hI hnx => ?_) (fun s hI => ?_)
  · unfold syllogistref_BranchCheck_b7
    rw [geti_br ht, Option.bind_some]
    cases hv : (decide ((br l t).var < (0 : Int))) || (decide ((br l t).var ≥ (n : Int))) with
    | true => exact ⟨4, rfl, by decide, fun h => by cases h⟩
    | false =>
      rw [cond_false]
      rw [Bool.or_eq_false_iff, decide_eq_false_iff_not, decide_eq_false_iff_not] at hv
      have hg : ∀ x : Int, (!((((decide (x < (0 : Int))) || (decide (x ≥ (w64 ((t : Int) + (2 : Int)))))) == false) && ((decide (x ≥ (2 : Int))) == true)) || (geti l ((w64 (x - (2 : Int))))).isSome) = true := fun x => by
        rw [w64_id (show -9223372036854775808 ≤ (t : Int) + 2 by omega) (by omega)]
        by_cases h1 : x < 0
        · simp [h1]
        · by_cases h2 : x ≥ t + 2
          · simp [h2]
          · by_cases h3 : x ≥ 2
            · rw [w64_id (by omega) (by omega), show x - 2 = (((x - 2).toNat : Nat) : Int) by omega, geti_br (by omega)]; simp
            · simp [h3]
      have hb : ∀ x : Int, (((decide (x < (0 : Int))) || (decide (x ≥ (w64 ((t : Int) + (2 : Int)))))) || ((decide (x ≥ (2 : Int))) && (decide ((((geti l ((w64 (x - (2 : Int))))).getD ({ var := (0 : Int), low := (0 : Int), high := (0 : Int) } : Branch))).var ≤ (br l t).var)))) = false → 0 ≤ x ∧ x < t + 2 ∧ (br l t).var.toNat < tp n l x.toNat := fun x hx => by
        rw [w64_id (show -9223372036854775808 ≤ (t : Int) + 2 by omega) (by omega), Bool.or_eq_false_iff, Bool.or_eq_false_iff, decide_eq_false_iff_not, decide_eq_false_iff_not] at hx
        obtain ⟨⟨h1, h2⟩, h3⟩ := hx
        refine ⟨by omega, by omega, ?_⟩
        unfold tp
        by_cases h : x.toNat < 2
        · rw [if_pos h]; omega
        · rw [if_neg h]
          rw [decide_eq_true (show x ≥ 2 by omega), Bool.true_and, w64_id (by omega) (by omega), show x - 2 = ((x.toNat - 2 : Nat) : Int) by omega, geti_br (by omega), Option.getD_some, decide_eq_false_iff_not] at h3
          omega
      rw [for_out (n := 2) (fun j => (((decide ((if j = 0 then (br l t).low else (br l t).high) < (0 : Int))) || (decide ((if j = 0 then (br l t).low else (br l t).high) ≥ (w64 ((t : Int) + (2 : Int)))))) || ((decide ((if j = 0 then (br l t).low else (br l t).high) ≥ (2 : Int))) && (decide ((((geti l ((w64 ((if j = 0 then (br l t).low else (br l t).high) - (2 : Int))))).getD ({ var := (0 : Int), low := (0 : Int), high := (0 : Int) } : Branch))).var ≤ (br l t).var))))) (some 3) (b := ((([(br l t).low, (br l t).high] : List Int)).length : Int)) rfl (fun j nx' hj => by
        unfold syllogistref_BranchCheck_b22
        have : geti [(br l t).low, (br l t).high] (j : Int) = some (if j = 0 then (br l t).low else (br l t).high) := by
          have : j = 0 ∨ j = 1 := by omega
          rcases this with rfl | rfl <;> rfl
        rw [this, Option.bind_some, hg, cond_true])]
      unfold syllogistref_BranchCheck_k18
      cases ha : anyN 2 (fun j => (((decide ((if j = 0 then (br l t).low else (br l t).high) < (0 : Int))) || (decide ((if j = 0 then (br l t).low else (br l t).high) ≥ (w64 ((t : Int) + (2 : Int)))))) || ((decide ((if j = 0 then (br l t).low else (br l t).high) ≥ (2 : Int))) && (decide ((((geti l ((w64 ((if j = 0 then (br l t).low else (br l t).high) - (2 : Int))))).getD ({ var := (0 : Int), low := (0 : Int), high := (0 : Int) } : Branch))).var ≤ (br l t).var))))) with
      | true => exact ⟨3, rfl, by decide, fun h => by cases h⟩
      | false =>
        rw [cond_false]
        have h0 := hb _ (anyN_false.1 ha 0 (by omega))
        have h1 := hb _ (anyN_false.1 ha 1 (by omega))
        simp only [if_true, Nat.one_ne_zero, if_false] at h0 h1
        refine hnx () fun i hi => ?_
        by_cases e : i = t
        · subst e
          refine ⟨(br l i).var.toNat, (br l i).low.toNat, (br l i).high.toNat, ?_, by omega, by omega, by omega, h0.2.2, h1.2.2⟩
          cases hy : br l i
          rw [hy] at h0 h1 hv
          simp only at h0 h1 hv
          simp only [Branch.mk.injEq]
          exact ⟨by omega, by omega, by omega⟩
        · exact hI i (by omega)
  · unfold syllogistref_BranchCheck_k3
    cases hv : (decide (root < (0 : Int))) || (decide (root ≥ (w64 ((l.length : Int) + (2 : Int))))) with
    | true => exact ⟨2, rfl, by decide, fun h => by cases h⟩
    | false =>
      rw [w64_id (by omega) (by omega), Bool.or_eq_false_iff, decide_eq_false_iff_not, decide_eq_false_iff_not] at hv
      exact ⟨0, rfl, by decide, fun _ => ⟨fun t ht => hI t ht, by omega, by omega⟩⟩

theorem tells_eq {n : Nat} {l : List Branch} (h : WF n l) (hl : l.length ≤ 20) (hn : n ≤ 4) {s : Nat} (hs : s < 16) : ∀ (m k : Nat), k < m → k < l.length + 2 → ∀ fuel, k + 1 ≤ fuel → syllogistref_Tells fuel l k (BitVec.ofNat 32 s) = some (dn l k s) := by
  intro m
  induction m with
  | zero => intro k hk; omega
  | succ m ih =>
    intro k hk hkl fuel hf
    obtain ⟨fuel, rfl⟩ : ∃ f, fuel = f + 1 := ⟨fuel - 1, by omega⟩
    show syllogistref_Tells_s (syllogistref_Tells fuel) l k _ = _
    unfold syllogistref_Tells_s
    by_cases h2 : k < 2
    · rw [decide_eq_true (by omega), cond_true, dn_small h2]
      congr 1
      rw [Bool.eq_iff_iff]; simp; omega
    · obtain ⟨v, lo, hi, hb, h1, h2', h3, h4, h5⟩ := h (k - 2) (by omega)
      have hg : geti l (w64 ((k : Int) - 2)) = some (br l (k - 2)) := by
        rw [w64_id (by omega) (by omega), show (k : Int) - 2 = ((k - 2 : Nat) : Int) by omega, geti_br (by omega)]
      have hbit : (BitVec.ofNat 32 s).getLsbD v = s.testBit v := by
        rw [BitVec.getLsbD_ofNat, decide_eq_true (show v < 32 by omega), Bool.true_and]
      rw [decide_eq_false (by omega), cond_false, hg, Option.bind_some, hb]
      simp only
      rw [bit_eq _ v (by omega), Option.bind_some, hbit, dn_node h2 hb (by omega) (by omega)]
      cases s.testBit v with
      | true =>
        rw [cond_true, Option.bind_some]
        simp only [if_true]
        rw [ih hi (by omega) (by omega) fuel (by omega), Option.bind_some]
      | false =>
        rw [cond_false, Option.bind_some]
        simp only [Bool.false_eq_true, if_false]
        rw [ih lo (by omega) (by omega) fuel (by omega), Option.bind_some]
theorem read_eq {n : Nat} {l : List Branch} (h : WF n l) (hl : l.length ≤ 20) (hn : n ≤ 4) {k : Nat} (hk : k < l.length + 2) {fuel : Nat} (hf : 100 < fuel) : syllogistref_Read fuel n l k = some (tab (2 ^ n) (dn l k)) := by
  have hp : 2 ^ n ≤ 16 := Nat.pow_le_pow_right (n := 2) (j := 4) (by omega) hn
  have hB : (1#32 <<< n).toNat = 2 ^ n := one_shl_toNat (by omega)
  unfold syllogistref_Read
  rw [ofInt64 (by omega), forU_apps (fun j => [dn l k j]) (fun c s nx hc hs => by
    unfold syllogistref_Read_b13
    have := tells_eq h hl hn (s := c.toNat) (by omega) (k + 1) k (by omega) hk fuel (by omega)
    rw [show BitVec.ofNat 32 c.toNat = c by simp] at this
    rw [this, Option.bind_some]
    have : s.length = c.toNat := by subst hs; exact apps_one_len
    rw [decide_eq_true (by simp only [List.length_cons, List.length_nil]; omega), cond_true]), hB]
  rfl

/-! ### The walk of the small tree, and the tree that grows -/
def walkL (l1 : List Branch) : Nat → Int → List Branch → Int × List Branch
  | 0, k, l => (k, l)
  | m + 1, k, l => if k < 2 then (k, l) else
      putL (walkL l1 m (br l1 (k.toNat - 2)).high (walkL l1 m (br l1 (k.toNat - 2)).low l).2).2
        { var := (br l1 (k.toNat - 2)).var, low := (walkL l1 m (br l1 (k.toNat - 2)).low l).1, high := (walkL l1 m (br l1 (k.toNat - 2)).high (walkL l1 m (br l1 (k.toNat - 2)).low l).2).1 }
theorem walkL_pre (l1 : List Branch) : ∀ (m : Nat) (k : Int) (l : List Branch), l <+: (walkL l1 m k l).2
  | 0, k, l => List.prefix_refl _
  | m + 1, k, l => by
    unfold walkL
    split
    · exact List.prefix_refl _
    · exact (walkL_pre l1 m _ l).trans ((walkL_pre l1 m _ _).trans (putL_pre _ _))
theorem walkL_idem (l1 : List Branch) : ∀ (m : Nat) (k : Int) (l l' : List Branch), (walkL l1 m k l).2 <+: l' → walkL l1 m k l' = ((walkL l1 m k l).1, l')
  | 0, k, l, l', h => rfl
  | m + 1, k, l, l', h => by
    unfold walkL at h ⊢
    by_cases h2 : k < 2
    · rw [if_pos h2]; rw [if_pos h2]
    · rw [if_neg h2] at h ⊢
      rw [if_neg h2]
      have p2 := (putL_pre _ _).trans h
      have p1 := (walkL_pre l1 m _ _).trans p2
      rw [walkL_idem l1 m _ l l' p1]
      simp only
      rw [walkL_idem l1 m _ _ l' p2]
      simp only
      rw [putL_idem h]
/-- The tree of a table. -/
def growL (F : Nat → Bool) : Nat → Nat → Nat → List Branch → Int × List Branch
  | 0, v, fx, l => (if F fx then 1 else 0, l)
  | d + 1, v, fx, l => putL (growL F d (v + 1) (fx + 2 ^ v) (growL F d (v + 1) fx l).2).2
      { var := v, low := (growL F d (v + 1) fx l).1, high := (growL F d (v + 1) (fx + 2 ^ v) (growL F d (v + 1) fx l).2).1 }
theorem mod_two_pow {s v fx : Nat} (h : fx < 2 ^ v) : (s % 2 ^ (v + 1) = fx ↔ s % 2 ^ v = fx ∧ s.testBit v = false) ∧ (s % 2 ^ (v + 1) = fx + 2 ^ v ↔ s % 2 ^ v = fx ∧ s.testBit v = true) := by
  have h0 : 0 < 2 ^ v := Nat.two_pow_pos v
  have e : s.testBit v = decide (s / 2 ^ v % 2 = 1) := by rw [Nat.testBit_eq_decide_div_mod_eq]
  have em : s % 2 ^ (v + 1) = s % 2 ^ v + 2 ^ v * (s / 2 ^ v % 2) := by rw [Nat.pow_succ, Nat.mod_mul]
  have hlt : s % 2 ^ v < 2 ^ v := Nat.mod_lt _ h0
  have hb : s / 2 ^ v % 2 = 0 ∨ s / 2 ^ v % 2 = 1 := by omega
  rw [em, e]
  rcases hb with hb | hb
  · rw [hb]; simp; omega
  · rw [hb]; simp; omega
theorem walk_grow {n : Nat} {l1 : List Branch} (hW : WF n l1) (F : Nat → Bool) : ∀ (d v fx k : Nat) (l : List Branch) (m : Nat), v + d = n → fx < 2 ^ v → k < l1.length + 2 → v ≤ tp n l1 k → (∀ s, s < 2 ^ n → s % 2 ^ v = fx → F s = dn l1 k s) → d < m →
    walkL l1 m k l = growL F d v fx l
  | 0, v, fx, k, l, m, hv, hfx, hk, ht, hF, hm => by
    obtain ⟨m, rfl⟩ : ∃ j, m = j + 1 := ⟨m - 1, by omega⟩
    have hvn : v = n := by omega
    subst hvn
    have h2 : k < 2 := by
      by_cases h2 : k < 2
      · exact h2
      · obtain ⟨u, lo, hi, hb, h1, _⟩ := hW (k - 2) (by omega)
        unfold tp at ht
        rw [if_neg h2, hb] at ht
        simp only [Int.toNat_natCast] at ht
        omega
    unfold walkL growL
    rw [if_pos (by omega), hF fx hfx (Nat.mod_eq_of_lt hfx), dn_small h2]
    congr 1
    by_cases e : k = 1
    · subst e; simp
    · have : k = 0 := by omega
      subst this; simp
  | d + 1, v, fx, k, l, m, hv, hfx, hk, ht, hF, hm => by
    have hvlt : v < n := by omega
    have hpv : 2 ^ (v + 1) = 2 ^ v + 2 ^ v := by rw [Nat.pow_succ]; omega
    by_cases htp : v + 1 ≤ tp n l1 k
    · have e1 := walk_grow hW F d (v + 1) fx k l m (by omega) (by omega) hk htp (fun s hs hm' => hF s hs ((mod_two_pow hfx).1.1 hm').1) (by omega)
      have e2 := walk_grow hW F d (v + 1) (fx + 2 ^ v) k (growL F d (v + 1) fx l).2 m (by omega) (by omega) hk htp (fun s hs hm' => hF s hs ((mod_two_pow hfx).2.1 hm').1) (by omega)
      have e3 := walkL_idem l1 m k l (walkL l1 m k l).2 (List.prefix_refl _)
      rw [growL, ← e2, ← e1, e3]
      unfold putL
      rw [if_pos rfl]
    · have h2 : ¬k < 2 := fun h2 => by unfold tp at htp; rw [if_pos h2] at htp; omega
      obtain ⟨u, lo, hi, hb, h1, h3, h4, h5, h6⟩ := hW (k - 2) (by omega)
      have hu : u = v := by
        unfold tp at htp ht
        rw [if_neg h2, hb] at htp ht
        simp only [Int.toNat_natCast] at htp ht
        omega
      subst hu
      obtain ⟨m, rfl⟩ : ∃ j, m = j + 1 := ⟨m - 1, by omega⟩
      have hd := dn_node h2 hb (by omega) (by omega)
      have e1 := walk_grow hW F d (u + 1) fx lo l m (by omega) (by omega) (by omega) (by omega) (fun s hs hm' => by
        have := (mod_two_pow hfx).1.1 hm'
        rw [hF s hs this.1, hd, this.2]; rfl) (by omega)
      have e2 := walk_grow hW F d (u + 1) (fx + 2 ^ u) hi (growL F d (u + 1) fx l).2 m (by omega) (by omega) (by omega) (by omega) (fun s hs hm' => by
        have := (mod_two_pow hfx).2.1 hm'
        rw [hF s hs this.1, hd, this.2]; rfl) (by omega)
      rw [walkL, if_neg (by omega), Int.toNat_natCast, hb]
      simp only
      rw [e1, e2, growL]
theorem walk_run {n : Nat} {l1 : List Branch} (hW : WF n l1) (hl1 : l1.length ≤ 1000) : ∀ (d : Nat) (k : Nat) (l : List Branch) (kn : List (Branch × Int)) (fuel : Nat), k < l1.length + 2 → n ≤ tp n l1 k + d → MS l kn → l.length + 2 ^ d ≤ 900 → d < fuel →
    ∃ kn', choice_small_c1 fuel k l1 ({ l := l, known := kn } : T36) = some ((walkL l1 (d + 1) k l).1, ({ l := (walkL l1 (d + 1) k l).2, known := kn' } : T36)) ∧ MS (walkL l1 (d + 1) k l).2 kn' ∧ (walkL l1 (d + 1) k l).2.length + 1 ≤ l.length + 2 ^ d
  | d, k, l, kn, fuel, hk, ht, hM, hl, hf => by
    obtain ⟨fuel, rfl⟩ : ∃ f, fuel = f + 1 := ⟨fuel - 1, by omega⟩
    have hpos : 0 < 2 ^ d := Nat.two_pow_pos d
    show ∃ kn', choice_small_c1_s (choice_small_c1 fuel) k l1 ({ l := l, known := kn } : T36) = _ ∧ _
    unfold choice_small_c1_s walkL
    by_cases h2 : k < 2
    · rw [decide_eq_true (by omega), cond_true, if_pos (by omega)]
      exact ⟨kn, rfl, hM, by show l.length + 1 ≤ _; omega⟩
    · obtain ⟨u, lo, hi, hb, h1, h3, h4, h5, h6⟩ := hW (k - 2) (by omega)
      have htu : tp n l1 k = u := by unfold tp; rw [if_neg h2, hb]; rfl
      obtain ⟨d, rfl⟩ : ∃ j, d = j + 1 := ⟨d - 1, by omega⟩
      have hpd : 2 ^ (d + 1) = 2 ^ d + 2 ^ d := by rw [Nat.pow_succ]; omega
      have hg : geti l1 (w64 ((k : Int) - 2)) = some (br l1 (k - 2)) := by
        rw [w64_id (by omega) (by omega), show (k : Int) - 2 = ((k - 2 : Nat) : Int) by omega, geti_br (by omega)]
      obtain ⟨k1, a1, a2, a3⟩ := walk_run hW hl1 d lo l kn fuel (by omega) (by omega) hM (by omega) (by omega)
      obtain ⟨k2, b1, b2, b3⟩ := walk_run hW hl1 d hi (walkL l1 (d + 1) lo l).2 k1 fuel (by omega) (by omega) a2 (by omega) (by omega)
      obtain ⟨k3, c1, c2⟩ := put_eq b2 (by omega) { var := (u : Int), low := (walkL l1 (d + 1) lo l).1, high := (walkL l1 (d + 1) hi (walkL l1 (d + 1) lo l).2).1 }
      rw [decide_eq_false (by omega), cond_false, if_neg (by omega), hg, Option.bind_some, Int.toNat_natCast, hb]
      simp only
      rw [a1, Option.bind_some]
      simp only
      rw [b1, Option.bind_some]
      simp only
      rw [c1, Option.bind_some]
      refine ⟨k3, rfl, c2, ?_⟩
      have := putL_len (walkL l1 (d + 1) hi (walkL l1 (d + 1) lo l).2).2 { var := (u : Int), low := (walkL l1 (d + 1) lo l).1, high := (walkL l1 (d + 1) hi (walkL l1 (d + 1) lo l).2).1 }
      omega
theorem grow_run {n : Nat} (hn : n ≤ 4) {F : Nat → Bool} {f : List Bool} (hf : ∀ s, s < 2 ^ n → f[s]? = some (F s)) : ∀ (d v fx : Nat) (l : List Branch) (fuel : Nat), v + d = n → fx < 2 ^ v → l.length + 2 ^ d ≤ 900 → d < fuel →
    syllogistref_grow fuel n f v (BitVec.ofNat 32 fx) l = some ((growL F d v fx l).2, (growL F d v fx l).1) ∧ (growL F d v fx l).2.length + 1 ≤ l.length + 2 ^ d
  | 0, v, fx, l, fuel, hv, hfx, hl, hfu => by
    obtain ⟨fuel, rfl⟩ : ∃ k, fuel = k + 1 := ⟨fuel - 1, by omega⟩
    have hvn : v = n := by omega
    subst hvn
    have h16 : 2 ^ v ≤ 16 := Nat.pow_le_pow_right (n := 2) (j := 4) (by omega) hn
    refine ⟨?_, by simp [growL]⟩
    show syllogistref_grow_s (syllogistref_grow fuel) (v : Int) f (v : Int) (BitVec.ofNat 32 fx) l = _
    unfold syllogistref_grow_s growL
    have hw : ((BitVec.ofNat 32 fx).toNat : Int) = (fx : Int) := by rw [BitVec.toNat_ofNat, Nat.mod_eq_of_lt (by omega)]
    rw [beq_self_eq_true, cond_true, hw, geti_nat?, hf fx hfx, Option.bind_some]
    cases F fx with
    | true => rfl
    | false => rfl
  | d + 1, v, fx, l, fuel, hv, hfx, hl, hfu => by
    obtain ⟨fuel, rfl⟩ : ∃ k, fuel = k + 1 := ⟨fuel - 1, by omega⟩
    have h16 : 2 ^ v ≤ 16 := Nat.pow_le_pow_right (n := 2) (j := 4) (by omega) (by omega)
    have hd2 : 2 ^ (d + 1) = 2 ^ d + 2 ^ d := by rw [Nat.pow_succ]; omega
    have hv2 : 2 ^ (v + 1) = 2 ^ v + 2 ^ v := by rw [Nat.pow_succ]; omega
    have hpos : 0 < 2 ^ d := Nat.two_pow_pos d
    obtain ⟨a1, a2⟩ := grow_run hn hf d (v + 1) fx l fuel (by omega) (by omega) (by omega) (by omega)
    obtain ⟨b1, b2⟩ := grow_run hn hf d (v + 1) (fx + 2 ^ v) (growL F d (v + 1) fx l).2 fuel (by omega) (by omega) (by omega) (by omega)
    have hp := putL_len (growL F d (v + 1) (fx + 2 ^ v) (growL F d (v + 1) fx l).2).2 { var := v, low := (growL F d (v + 1) fx l).1, high := (growL F d (v + 1) (fx + 2 ^ v) (growL F d (v + 1) fx l).2).1 }
    refine ⟨?_, by rw [growL]; omega⟩
    show syllogistref_grow_s (syllogistref_grow fuel) (n : Int) f (v : Int) (BitVec.ofNat 32 fx) l = _
    unfold syllogistref_grow_s
    have hne : ((v : Int) == (n : Int)) = false := by rw [beq_eq_false_iff_ne]; omega
    rw [hne, cond_false, w64_id (by omega) (by omega), ofInt64 (by omega), or_small v (by omega) fx (by omega) hfx]
    have hv1 : (v : Int) + 1 = ((v + 1 : Nat) : Int) := by omega
    rw [hv1, a1, Option.bind_some]
    simp only
    rw [b1, Option.bind_some]
    simp only
    rw [growL]
    exact loop_eq (by omega) (v : Int) _ _ ((growL F d (v + 1) fx l).2, (growL F d (v + 1) fx l).1) rfl

/-! ### Two trees side by side -/
theorem put_node {n : Nat} {l : List Branch} (hW : WF n l) {v r1 r2 : Nat} (hv : v < n) (h1 : r1 < l.length + 2) (h2 : r2 < l.length + 2) (t1 : v < tp n l r1) (t2 : v < tp n l r2) :
    ∃ r : Nat, (putL l { var := v, low := r1, high := r2 }).1 = r ∧ WF n (putL l { var := v, low := r1, high := r2 }).2 ∧ r < (putL l { var := v, low := r1, high := r2 }).2.length + 2 ∧ v ≤ tp n (putL l { var := v, low := r1, high := r2 }).2 r ∧
      ∀ s, dn (putL l { var := v, low := r1, high := r2 }).2 r s = dn l (if s.testBit v then r2 else r1) s := by
  unfold putL
  simp only
  by_cases e : (r1 : Int) = (r2 : Int)
  · rw [if_pos e]
    have e' : r1 = r2 := by omega
    subst e'
    exact ⟨r1, rfl, hW, h1, by simp only; omega, fun s => by simp⟩
  · rw [if_neg e]
    cases hf : fidx l ({ var := (v : Int), low := (r1 : Int), high := (r2 : Int) } : Branch) with
    | some i =>
      have hi := fidx_at hf
      have hlt : i < l.length := (List.getElem?_eq_some_iff.1 hi).1
      have hb : br l (i + 2 - 2) = { var := (v : Int), low := (r1 : Int), high := (r2 : Int) } := by unfold br; rw [Nat.add_sub_cancel, hi]; rfl
      obtain ⟨u, lo, hi', hb', _, q1, q2, _, _⟩ := hW i hlt
      rw [Nat.add_sub_cancel] at hb
      rw [hb] at hb'
      simp only [Branch.mk.injEq] at hb'
      refine ⟨i + 2, rfl, hW, by simp only; omega, ?_, fun s => ?_⟩
      · unfold tp
        rw [if_neg (by omega), Nat.add_sub_cancel, hb]
        exact Nat.le_refl v
      · exact dn_node (k := i + 2) (by omega) (by rw [Nat.add_sub_cancel]; exact hb) (by omega) (by omega) s
    | none =>
      have hp : l <+: l ++ [({ var := (v : Int), low := (r1 : Int), high := (r2 : Int) } : Branch)] := List.prefix_append _ _
      have hb : br (l ++ [({ var := (v : Int), low := (r1 : Int), high := (r2 : Int) } : Branch)]) l.length = { var := (v : Int), low := (r1 : Int), high := (r2 : Int) } := by unfold br; simp
      refine ⟨l.length + 2, rfl, fun t ht => ?_, by simp, ?_, fun s => ?_⟩
      · by_cases et : t < l.length
        · obtain ⟨u, lo, hi', hb', q0, q1, q2, q3, q4⟩ := hW t et
          exact ⟨u, lo, hi', by rw [br_pre hp et]; exact hb', q0, q1, q2, by rw [tp_pre hp (by omega)]; exact q3, by rw [tp_pre hp (by omega)]; exact q4⟩
        · have : t = l.length := by simp at ht; omega
          subst this
          exact ⟨v, r1, r2, hb, hv, h1, h2, by rw [tp_pre hp h1]; exact t1, by rw [tp_pre hp h2]; exact t2⟩
      · unfold tp
        simp only
        rw [if_neg (by omega), Nat.add_sub_cancel, hb]
        exact Nat.le_refl v
      · have hd := dn_node (l := l ++ [({ var := (v : Int), low := (r1 : Int), high := (r2 : Int) } : Branch)]) (k := l.length + 2) (by omega) (by rw [Nat.add_sub_cancel]; exact hb) h1 h2 s
        simp only
        rw [hd]
        split
        · exact dn_pre hW hp s (r2 + 1) r2 (by omega) h2
        · exact dn_pre hW hp s (r1 + 1) r1 (by omega) h1
/-- What is known of pairs is so. -/
def DN (n : Nat) (a b l : List Branch) (dm : List ((Int × Int) × Int)) : Prop :=
  ∀ p k, mget dm p = some k → ∃ x y r : Nat, p = ((x : Int), (y : Int)) ∧ k = r ∧ r < l.length + 2 ∧ (tp n a x ≤ tp n l r ∨ tp n b y ≤ tp n l r) ∧ ∀ s, dn l r s = (dn a x s && dn b y s)
theorem DN.pre {n : Nat} {a b l l' : List Branch} {dm : List ((Int × Int) × Int)} (h : DN n a b l dm) (hW : WF n l) (hp : l <+: l') : DN n a b l' dm := fun p k hk => by
  obtain ⟨x, y, r, h1, h2, h3, h4, h5⟩ := h p k hk
  exact ⟨x, y, r, h1, h2, by have := hp.length_le; omega, by rw [tp_pre hp h3]; exact h4, fun s => by rw [dn_pre hW hp s (r + 1) r (by omega) h3]; exact h5 s⟩
theorem DN.put {n : Nat} {a b l : List Branch} {dm : List ((Int × Int) × Int)} (h : DN n a b l dm) {x y r : Nat} (hr : r < l.length + 2) (ht : tp n a x ≤ tp n l r ∨ tp n b y ≤ tp n l r) (hd : ∀ s, dn l r s = (dn a x s && dn b y s)) : DN n a b l (mput dm ((x : Int), (y : Int)) (r : Int)) := fun p k hk => by
  rw [mget_put] at hk
  by_cases e : p = ((x : Int), (y : Int))
  · rw [if_pos e] at hk
    exact ⟨x, y, r, e, (Option.some.inj hk).symm, hr, ht, hd⟩
  · rw [if_neg e] at hk
    exact h p k hk
theorem top_eq {n : Nat} {l : List Branch} (hW : WF n l) (hl : l.length ≤ 1000) {k : Nat} (hk : k < l.length + 2) : choice_top l k n = some (tp n l k : Int) := by
  unfold choice_top tp
  by_cases h : k < 2
  · rw [decide_eq_true (by omega), cond_true, if_pos h]
  · obtain ⟨v, lo, hi, hb, _⟩ := hW (k - 2) (by omega)
    rw [decide_eq_false (by omega), cond_false, if_neg h, w64_id (by omega) (by omega), show (k : Int) - 2 = ((k - 2 : Nat) : Int) by omega, geti_br (by omega), Option.bind_some, hb]
    rfl
theorem down_eq {n : Nat} {l : List Branch} (hW : WF n l) (hl : l.length ≤ 1000) {k w : Nat} (hk : k < l.length + 2) (hw : w ≤ tp n l k) (hwn : w < n) :
    ∃ x0 x1 : Nat, choice_down l k w = some ((x0 : Int), (x1 : Int)) ∧ x0 < l.length + 2 ∧ x1 < l.length + 2 ∧ w < tp n l x0 ∧ w < tp n l x1 ∧ ∀ s, dn l k s = dn l (if s.testBit w then x1 else x0) s := by
  unfold choice_down
  by_cases h : k < 2
  · rw [decide_eq_true (show (k : Int) < 2 by omega)]
    have : tp n l k = n := by unfold tp; rw [if_pos h]
    exact ⟨k, k, rfl, hk, hk, by omega, by omega, fun s => by simp⟩
  · obtain ⟨v, lo, hi, hb, q0, q1, q2, q3, q4⟩ := hW (k - 2) (by omega)
    have hg : geti l (w64 ((k : Int) - 2)) = some (br l (k - 2)) := by
      rw [w64_id (by omega) (by omega), show (k : Int) - 2 = ((k - 2 : Nat) : Int) by omega, geti_br (by omega)]
    have ht : tp n l k = v := by unfold tp; rw [if_neg h, hb]; rfl
    rw [decide_eq_false (show ¬(k : Int) < 2 by omega), hg, hb]
    simp only [Option.isSome_some, Bool.or_true, cond_true, Option.getD_some, Bool.false_or, Option.bind_some]
    by_cases e : v = w
    · subst e
      rw [bne_self_eq_false, cond_false]
      exact ⟨lo, hi, rfl, by omega, by omega, q3, q4, fun s => dn_node h hb (by omega) (by omega) s⟩
    · rw [show ((v : Int) != (w : Int)) = true by rw [bne_iff_ne]; omega, cond_true]
      exact ⟨k, k, rfl, hk, hk, by omega, by omega, fun s => by simp⟩
theorem and_run {n : Nat} {a b : List Branch} (ha : WF n a) (hb : WF n b) (hla : a.length ≤ 1000) (hlb : b.length ≤ 1000) (hn : n ≤ 1000) : ∀ (D d x y : Nat) (l : List Branch) (kn : List (Branch × Int)) (dm : List ((Int × Int) × Int)) (fuel : Nat), d ≤ D → x < a.length + 2 → y < b.length + 2 → n ≤ tp n a x + d → n ≤ tp n b y + d → MS l kn → WF n l → DN n a b l dm → l.length + 2 ^ d ≤ 900 → d < fuel →
    ∃ (r : Nat) (l' : List Branch) (kn' : List (Branch × Int)) (dm' : List ((Int × Int) × Int)), choice_both_and fuel ({ maker := { l := l, known := kn }, a := a, b := b, done := dm } : T39) x y n = some ((r : Int), ({ maker := { l := l', known := kn' }, a := a, b := b, done := dm' } : T39)) ∧
      MS l' kn' ∧ WF n l' ∧ DN n a b l' dm' ∧ l <+: l' ∧ r < l'.length + 2 ∧ n ≤ tp n l' r + d ∧ (tp n a x ≤ tp n l' r ∨ tp n b y ≤ tp n l' r) ∧ (∀ s, dn l' r s = (dn a x s && dn b y s)) ∧ l'.length + 1 ≤ l.length + 2 ^ d := by
  intro D
  induction D with
  | zero =>
    intro d x y l kn dm fuel hd hx hy tx ty hM hW hD hl hf
    obtain rfl : d = 0 := by omega
    obtain ⟨fuel, rfl⟩ : ∃ k, fuel = k + 1 := ⟨fuel - 1, by omega⟩
    rw [show ∀ (t : T39) (x y n : Int), choice_both_and (fuel + 1) t x y n = choice_both_and_s (choice_both_and fuel) t x y n from fun _ _ _ _ => rfl]
    have hpos : 0 < 2 ^ 0 := by decide
    have h1 : ∀ {m : List Branch} {k : Nat}, WF n m → k < m.length + 2 → n ≤ tp n m k + 0 → k < 2 := fun {m k} hm hk ht => by
      by_cases h2 : k < 2
      · exact h2
      · obtain ⟨u, lo, hi, hb, q, _⟩ := hm (k - 2) (by omega)
        unfold tp at ht
        rw [if_neg h2, hb] at ht
        simp only [Int.toNat_natCast] at ht
        omega
    have hx2 := h1 ha hx tx
    have hy2 := h1 hb hy ty
    unfold choice_both_and_s
    by_cases h0 : x = 0 ∨ y = 0
    · have : (((x : Int) == 0) || ((y : Int) == 0)) = true := by rcases h0 with rfl | rfl <;> simp
      rw [this, cond_true]
      refine ⟨0, l, kn, dm, rfl, hM, hW, hD, List.prefix_refl _, by omega, by unfold tp; simp, .inl ?_, fun s => ?_, by omega⟩
      · have := tp_le ha hx
        rw [show tp n l 0 = n from rfl]; exact this
      · rw [dn_small (by omega)]
        rcases h0 with rfl | rfl
        · rw [dn_small (l := a) (by omega)]; simp
        · rw [dn_small (l := b) (by omega)]; simp
    · have hx1 : x = 1 := by omega
      have hy1 : y = 1 := by omega
      subst hx1 hy1
      rw [show ((((1 : Nat) : Int) == 0) || (((1 : Nat) : Int) == 0)) = false from rfl, cond_false, top_eq ha hla hx, Option.bind_some, top_eq hb hlb hy, Option.bind_some]
      rw [show tp n a 1 = n from rfl, show tp n b 1 = n from rfl, if_neg (by omega), beq_self_eq_true, cond_true]
      exact ⟨1, l, kn, dm, rfl, hM, hW, hD, List.prefix_refl _, by omega, by show n ≤ n + 0; omega, .inl (Nat.le_refl n), fun s => by rw [dn_small (by omega), dn_small (by omega), dn_small (by omega)]; rfl, by omega⟩
  | succ D ih =>
    intro d x y l kn dm fuel hd hx hy tx ty hM hW hD hl hf
    obtain ⟨fuel, rfl⟩ : ∃ k, fuel = k + 1 := ⟨fuel - 1, by omega⟩
    have hpos : 0 < 2 ^ d := Nat.two_pow_pos d
    rw [show ∀ (t : T39) (x y n : Int), choice_both_and (fuel + 1) t x y n = choice_both_and_s (choice_both_and fuel) t x y n from fun _ _ _ _ => rfl]
    unfold choice_both_and_s
    by_cases h0 : x = 0 ∨ y = 0
    · have : (((x : Int) == 0) || ((y : Int) == 0)) = true := by rcases h0 with rfl | rfl <;> simp
      rw [this, cond_true]
      refine ⟨0, l, kn, dm, rfl, hM, hW, hD, List.prefix_refl _, by omega, by rw [show tp n l 0 = n from rfl]; omega, .inl ?_, fun s => ?_, by omega⟩
      · have := tp_le ha hx
        rw [show tp n l 0 = n from rfl]; exact this
      · rw [dn_small (by omega)]
        rcases h0 with rfl | rfl
        · rw [dn_small (l := a) (by omega)]; simp
        · rw [dn_small (l := b) (by omega)]; simp
    · have hz : (((x : Int) == 0) || ((y : Int) == 0)) = false := by
        rw [Bool.or_eq_false_iff, beq_eq_false_iff_ne, beq_eq_false_iff_ne]; omega
      rw [hz, cond_false, top_eq ha hla hx, Option.bind_some, top_eq hb hlb hy, Option.bind_some]
      obtain ⟨w, hwe, hwx, hwy, hwor⟩ : ∃ w : Nat, (if (tp n b y : Int) < (tp n a x : Int) then (tp n b y : Int) else (tp n a x : Int)) = w ∧ w ≤ tp n a x ∧ w ≤ tp n b y ∧ (w = tp n a x ∨ w = tp n b y) := by
        by_cases h : tp n b y < tp n a x
        · exact ⟨tp n b y, by rw [if_pos (by omega)], by omega, by omega, .inr rfl⟩
        · exact ⟨tp n a x, by rw [if_neg (by omega)], by omega, by omega, .inl rfl⟩
      rw [hwe]
      have tax := tp_le ha hx
      have tby := tp_le hb hy
      by_cases hwn : w = n
      · subst hwn
        have h1 : ∀ {m : List Branch} {k : Nat}, WF w m → k < m.length + 2 → w ≤ tp w m k → k < 2 := fun {m k} hm hk ht => by
          by_cases h2 : k < 2
          · exact h2
          · obtain ⟨u, lo, hi, hb, q, _⟩ := hm (k - 2) (by omega)
            unfold tp at ht
            rw [if_neg h2, hb] at ht
            simp only [Int.toNat_natCast] at ht
            omega
        have hx1 : x = 1 := by have := h1 ha hx hwx; omega
        have hy1 : y = 1 := by have := h1 hb hy hwy; omega
        subst hx1 hy1
        rw [beq_self_eq_true, cond_true]
        exact ⟨1, l, kn, dm, rfl, hM, hW, hD, List.prefix_refl _, by omega, by show w ≤ w + _; omega, .inl (Nat.le_refl w), fun s => by rw [dn_small (by omega), dn_small (by omega), dn_small (by omega)]; rfl, by omega⟩
      · rw [show ((w : Int) == (n : Int)) = false by rw [beq_eq_false_iff_ne]; omega, cond_false]
        have hwlt : w < n := by omega
        cases hm : mget dm ((x : Int), (y : Int)) with
        | some k =>
          obtain ⟨x', y', r, e1, e2, e3, e4, e5⟩ := hD _ _ hm
          simp only [Prod.mk.injEq] at e1
          obtain rfl : x = x' := by omega
          obtain rfl : y = y' := by omega
          subst e2
          rw [Option.isSome_some, cond_true, Option.getD_some]
          exact ⟨r, l, kn, dm, rfl, hM, hW, hD, List.prefix_refl _, e3, by omega, e4, e5, by omega⟩
        | none =>
          rw [Option.isSome_none, cond_false]
          obtain ⟨xl, xh, dx, x1, x2, x3, x4, x5⟩ := down_eq ha hla hx hwx hwlt
          obtain ⟨yl, yh, dy, y1, y2, y3, y4, y5⟩ := down_eq hb hlb hy hwy hwlt
          have hd' : n - (w + 1) + 1 ≤ d := by omega
          have hp2 : 2 ^ (n - (w + 1)) + 2 ^ (n - (w + 1)) ≤ 2 ^ d := by
            have : 2 ^ (n - (w + 1) + 1) ≤ 2 ^ d := Nat.pow_le_pow_right (by omega) hd'
            rw [Nat.pow_succ] at this; omega
          have hpp : 0 < 2 ^ (n - (w + 1)) := Nat.two_pow_pos _
          rw [dx, Option.bind_some, dy, Option.bind_some]
          simp only
          obtain ⟨r1, l1, k1, m1, a1, a2, a3, a4, a5, a6, a7, a8, a9, a10⟩ := ih (n - (w + 1)) xl yl l kn dm fuel (by omega) x1 y1 (by omega) (by omega) hM hW hD (by omega) (by omega)
          rw [a1, Option.bind_some]
          simp only
          obtain ⟨r2, l2, k2, m2, b1, b2, b3, b4, b5, b6, b7, b8, b9, b10⟩ := ih (n - (w + 1)) xh yh l1 k1 m1 fuel (by omega) x2 y2 (by omega) (by omega) a2 a3 a4 (by omega) (by omega)
          rw [b1, Option.bind_some]
          simp only
          obtain ⟨k3, c1, c2⟩ := put_eq b2 (by omega) { var := (w : Int), low := (r1 : Int), high := (r2 : Int) }
          rw [c1, Option.bind_some]
          have hr1 : r1 < l2.length + 2 := by have := b5.length_le; omega
          have ht1 : tp n l2 r1 = tp n l1 r1 := tp_pre b5 a6
          obtain ⟨r, p1, p2, p3, p4, p5⟩ := put_node b3 hwlt hr1 b6 (by omega) (by omega)
          have hpl := putL_len l2 { var := (w : Int), low := (r1 : Int), high := (r2 : Int) }
          have hpp2 := putL_pre l2 { var := (w : Int), low := (r1 : Int), high := (r2 : Int) }
          have hor : tp n a x ≤ tp n (putL l2 { var := (w : Int), low := (r1 : Int), high := (r2 : Int) }).2 r ∨ tp n b y ≤ tp n (putL l2 { var := (w : Int), low := (r1 : Int), high := (r2 : Int) }).2 r := by omega
          have hden : ∀ s, dn (putL l2 { var := (w : Int), low := (r1 : Int), high := (r2 : Int) }).2 r s = (dn a x s && dn b y s) := fun s => by
            rw [p5 s, x5 s, y5 s]
            cases s.testBit w with
            | true => simp only [if_true]; rw [b9 s]
            | false =>
              simp only [Bool.false_eq_true, if_false]
              rw [dn_pre a3 b5 s (r1 + 1) r1 (by omega) a6, a9 s]
          refine ⟨r, _, k3, _, by rw [p1], c2, p2, (b4.pre b3 hpp2).put p3 hor hden, a5.trans (b5.trans hpp2), p3, by omega, hor, hden, by omega⟩

theorem choiceAnds_true (fuel : Nat) (n : Int) (a : List Branch) (y : Int) (b : List Branch) (z : Int) (hf : 100 < fuel := by decide) : syllogistlaw_ChoiceAnds fuel n a y b z = some true := by
  unfold syllogistlaw_ChoiceAnds choice_And syllogistlaw_treeCode
  have hk8 : ∀ r : Int, r ≠ 0 → syllogistlaw_ChoiceAnds_k8 n a y b z fuel (([] : List Branch), (0 : Int), r) r = some true := fun r hr => by
    have h1 : (r == 0) = false := by simpa using hr
    have h2 : (r != 0) = true := by simpa using hr
    unfold syllogistlaw_ChoiceAnds_k8 syllogistlaw_ChoiceAnds_k11
    rw [h1, cond_false, h2, cond_true]
    simp
  cases hA : (((decide (n < (0 : Int))) || (decide (n > (4 : Int)))) || (decide ((a.length : Int) > (20 : Int)))) with
  | true =>
    rw [Bool.true_or, cond_true, cond_true, Option.bind_some, Option.bind_some, show ((1 : Int) != 1) = false from rfl, Bool.false_and, cond_false]
    exact hk8 1 (by decide)
  | false =>
    simp only [Bool.or_eq_false_iff, decide_eq_false_iff_not] at hA
    obtain ⟨⟨n0, n4⟩, hla⟩ := hA
    obtain ⟨k, rfl⟩ : ∃ k : Nat, n = k := ⟨n.toNat, by omega⟩
    have hk : k ≤ 4 := by omega
    have hla : a.length ≤ 20 := by omega
    obtain ⟨ra, ea, na, za⟩ := bcheck k y hla
    rw [Bool.false_or, cond_false, ea]
    simp only [Option.bind_some]
    by_cases hlb : b.length ≤ 20
    · rw [decide_eq_false (by omega), cond_false, wrong_eq hla, ea, Option.bind_some, Bool.and_false]
      simp only [cond_false]
      by_cases hra : ra = 0
      · subst hra
        obtain ⟨hWa, y0, y1⟩ := za rfl
        obtain ⟨x, rfl⟩ : ∃ x : Nat, y = x := ⟨y.toNat, by omega⟩
        have hx : x < a.length + 2 := by omega
        obtain ⟨rb, eb, nb, zb⟩ := bcheck k z hlb
        rw [bne_self_eq_false, cond_false, wrong_eq hlb, eb, Option.bind_some]
        by_cases hrb : rb = 0
        · subst hrb
          obtain ⟨hWb, z0, z1⟩ := zb rfl
          obtain ⟨w, rfl⟩ : ∃ w : Nat, z = w := ⟨z.toNat, by omega⟩
          have hw : w < b.length + 2 := by omega
          have h16 : 2 ^ k ≤ 16 := Nat.pow_le_pow_right (n := 2) (j := 4) (by omega) hk
          rw [bne_self_eq_false, cond_false]
          obtain ⟨r, l1, k1, m1, a1, a2, a3, a4, a5, a6, a7, a8, a9, a10⟩ := and_run hWa hWb (by omega) (by omega) (by omega) k k x w [] [] [] fuel (Nat.le_refl _) hx hw (by omega) (by omega) (fun b => rfl) (fun t ht => by simp at ht) (fun p k hk => by simp [mget] at hk) (by simp; omega) (by omega)
          simp only [List.length_nil] at a10
          rw [a1, Option.bind_some]
          simp only
          obtain ⟨k2, b1, b2, b3⟩ := walk_run a3 (by omega) k r [] [] fuel a6 (by omega) (fun b => rfl) (by simp; omega) (by omega)
          unfold choice_small
          rw [b1, Option.bind_some, Option.bind_some, Option.bind_some]
          simp only
          unfold syllogistlaw_ChoiceAnds_k8 syllogistlaw_treeCode
          rw [show ((0 : Int) == 0) = true from rfl, cond_true, show (((decide ((k : Int) < (0 : Int))) || (decide ((k : Int) > (4 : Int)))) || (decide ((b.length : Int) > (20 : Int)))) = false by
            rw [decide_eq_false (by omega), decide_eq_false (by omega), decide_eq_false (by omega)]; rfl, cond_false, eb, Option.bind_some, Option.bind_some]
          unfold syllogistlaw_ChoiceAnds_k11
          rw [bne_self_eq_false, cond_false, read_eq hWa hla hk hx hf, Option.bind_some, read_eq hWb hlb hk hw hf, Option.bind_some]
          refine for0_q (n := 2 ^ k) (Q := fun o => o = some true) (fun i s => s = tab (2 ^ k) fun j => if j < i then (dn a x j && dn b w j) else dn a x j) (by rw [tab_len]) _ (tab_congr fun j hj => by rw [if_neg (by omega)]) (fun i s nx hi hs hn => ?_) (fun s hs => ?_)
          · subst hs
            unfold syllogistlaw_ChoiceAnds_b41
            rw [tab_geti hi, Option.bind_some, tab_geti hi, Option.bind_some, Int.toNat_natCast, if_neg (by omega)]
            refine hn _ ?_
            rw [tab_set hi]
            refine tab_congr fun j hj => ?_
            by_cases e : j = i
            · subst e; rw [if_pos rfl, if_pos (by omega)]
            · rw [if_neg e]
              by_cases h : j < i
              · rw [if_pos h, if_pos (by omega)]
              · rw [if_neg h, if_neg (by omega)]
          · subst hs
            unfold syllogistlaw_ChoiceAnds_k29 syllogistref_Grow
            obtain ⟨g1, g2⟩ := grow_run (n := k) hk (F := fun j => dn a x j && dn b w j) (f := tab (2 ^ k) fun j => if j < 2 ^ k then (dn a x j && dn b w j) else dn a x j) (fun s hs => by rw [tab_get hs, if_pos hs]) k 0 0 [] fuel (by omega) (by simp) (by simp; omega) (by omega)
            have g1' : syllogistref_grow fuel (k : Int) (tab (2 ^ k) fun j => if j < 2 ^ k then (dn a x j && dn b w j) else dn a x j) 0 0#32 [] = _ := g1
            rw [g1', Option.bind_some, Option.bind_some]
            have hwg := walk_grow a3 (fun j => dn a x j && dn b w j) k 0 0 r [] (k + 1) (by omega) (by simp) a6 (by omega) (fun s _ _ => (a9 s).symm) (by omega)
            simp only
            rw [hwg]
            simp [branches_self]
        · have h1 : (rb != 0) = true := by simpa using hrb
          rw [h1, cond_true, Option.bind_some]
          unfold syllogistlaw_ChoiceAnds_k8 syllogistlaw_treeCode
          rw [show ((0 : Int) == 0) = true from rfl, cond_true, show (((decide ((k : Int) < (0 : Int))) || (decide ((k : Int) > (4 : Int)))) || (decide ((b.length : Int) > (20 : Int)))) = false by
            rw [decide_eq_false (by omega), decide_eq_false (by omega), decide_eq_false (by omega)]; rfl, cond_false, eb, Option.bind_some, Option.bind_some]
          unfold syllogistlaw_ChoiceAnds_k11
          rw [h1, cond_true]
          simp
      · have h1 : (ra != 0) = true := by simpa using hra
        rw [h1, cond_true, Option.bind_some]
        exact hk8 ra hra
    · rw [decide_eq_true (by omega), cond_true, Option.bind_some, Bool.and_true, show (ra != 1) = true by simpa using na, cond_true]
      exact hk8 1 (by decide)
end Go.Proofs.Ythdbfajfomgbkaa.Sy
