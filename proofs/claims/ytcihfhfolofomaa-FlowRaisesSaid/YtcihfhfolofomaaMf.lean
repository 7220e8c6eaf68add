/- Programs of lines: how many there are, how deep they lie, what is wrong: plain laws; no program in sight. -/
import Derived.Test.YtcihfhfolofomaaSyQ
import Derived.Test.YtcihfhfolofomaaSyR
import Derived.Test.YtcihfhfolofomaaG3
namespace Go.Proofs.Ytcihfhfolofomaa.Sy
set_option linter.unusedVariables false

/-! ### Two loops side by side -/
theorem forK_two {σ R R' : Type} {b1 : Int → σ → (σ → Option R) → Option R} {b2 : Int → σ → (σ → Option R') → Option R'} {k1 : σ → Option R} {k2 : σ → Option R'} {Q : Option R → Option R' → Prop} (I : Int → σ → Prop) : ∀ (n : Nat) (i : Int) (s : σ), I i s →
    (∀ j s n1 n2, i ≤ j → j < i + n → I j s → (∀ s', I (j + 1) s' → Q (n1 s') (n2 s')) → Q (b1 j s n1) (b2 j s n2)) → (∀ s, I (i + n) s → Q (k1 s) (k2 s)) → Q (forK b1 k1 n i s) (forK b2 k2 n i s)
  | 0, i, s, h, _, e => e s (by simpa using h)
  | n + 1, i, s, h, st, e => st i s _ _ (by omega) (by omega) h fun s' h' =>
      forK_two I n (i + 1) s' h' (fun j s n1 n2 h1 h2 => st j s n1 n2 (by omega) (by omega)) (fun s hs => e s (by rw [show i + ((n + 1 : Nat) : Int) = i + 1 + n by omega]; exact hs))
theorem for0_two {σ R R' : Type} {b1 : Int → σ → (σ → Option R) → Option R} {b2 : Int → σ → (σ → Option R') → Option R'} {k1 : σ → Option R} {k2 : σ → Option R'} {Q : Option R → Option R' → Prop} (I : Nat → σ → Prop) {b : Int} {n : Nat} (hb : b = n) (s : σ) (h0 : I 0 s)
    (st : ∀ (j : Nat) s n1 n2, j < n → I j s → (∀ s', I (j + 1) s' → Q (n1 s') (n2 s')) → Q (b1 (j : Int) s n1) (b2 (j : Int) s n2)) (e : ∀ s, I n s → Q (k1 s) (k2 s)) : Q (forK b1 k1 (b - 0).toNat 0 s) (forK b2 k2 (b - 0).toNat 0 s) := by
  subst hb
  have : ((n : Int) - 0).toNat = n := by omega
  rw [this]
  refine forK_two (fun j s => I j.toNat s) n 0 s h0 (fun j s n1 n2 h1 h2 h3 h4 => ?_) (fun s hs => e s (by simpa using hs))
  have hj : j = (j.toNat : Int) := by omega
  have := st j.toNat s n1 n2 (by omega) h3 (fun s' hs' => h4 s' (by rw [show (j + 1).toNat = j.toNat + 1 by omega]; exact hs'))
  rwa [← hj] at this

/-! ### How many there are, and how deep -/
abbrev NN := Nat × Nat
def ad (r : NN) (p : List Line) (s : NN) : NN := if p = [] then s else (s.1 + r.1, if r.2 > s.2 then r.2 else s.2)
def SZ : Nat → List Line → NN
  | 0, l => (l.length, 5)
  | j + 1, l => if l.length > 12 then (l.length, 4 - j) else l.foldl (fun s x => ad (SZ j x.els) x.els (ad (SZ j x.body) x.body s)) (l.length, 4 - j)
def sst (j : Nat) (s : NN) (x : Line) : NN := ad (SZ j x.els) x.els (ad (SZ j x.body) x.body s)
def ST (j : Nat) (l : List Line) (t : Nat) : NN := (l.take t).foldl (sst j) (l.length, 4 - j)
theorem ST_succ {j : Nat} {l : List Line} {t : Nat} (ht : t < l.length) : ST j l (t + 1) = sst j (ST j l t) l[t] := by
  unfold ST
  rw [List.take_succ_eq_append_getElem ht, List.foldl_append]; rfl
theorem SZ_succ {j : Nat} {l : List Line} (h : l.length ≤ 12) : SZ (j + 1) l = ST j l l.length := by
  unfold ST
  rw [List.take_length, SZ, if_neg (by omega)]; rfl
theorem ad_le (r : NN) (p : List Line) (s : NN) : s.1 ≤ (ad r p s).1 ∧ s.2 ≤ (ad r p s).2 ∧ (p ≠ [] → r.1 ≤ (ad r p s).1 ∧ r.2 ≤ (ad r p s).2) := by
  unfold ad
  by_cases h : p = []
  · rw [if_pos h]; exact ⟨Nat.le_refl _, Nat.le_refl _, fun h' => absurd h h'⟩
  · rw [if_neg h]
    dsimp only
    refine ⟨by omega, ?_, fun _ => ⟨by omega, ?_⟩⟩ <;> (split <;> omega)
theorem sst_le (j : Nat) (s : NN) (x : Line) : s.1 ≤ (sst j s x).1 ∧ s.2 ≤ (sst j s x).2 ∧ (x.body ≠ [] → (SZ j x.body).1 ≤ (sst j s x).1 ∧ (SZ j x.body).2 ≤ (sst j s x).2) ∧ (x.els ≠ [] → (SZ j x.els).1 ≤ (sst j s x).1 ∧ (SZ j x.els).2 ≤ (sst j s x).2) := by
  unfold sst
  obtain ⟨a1, a2, a3⟩ := ad_le (SZ j x.body) x.body s
  obtain ⟨b1, b2, b3⟩ := ad_le (SZ j x.els) x.els (ad (SZ j x.body) x.body s)
  refine ⟨by omega, by omega, fun h => ?_, b3⟩
  have := a3 h
  omega
theorem ST_mono {j : Nat} {l : List Line} {t : Nat} : ∀ k, t + k ≤ l.length → (ST j l t).1 ≤ (ST j l (t + k)).1 ∧ (ST j l t).2 ≤ (ST j l (t + k)).2
  | 0, _ => ⟨Nat.le_refl _, Nat.le_refl _⟩
  | k + 1, h => by
    have ih := ST_mono (j := j) (l := l) (t := t) k (by omega)
    have h2 := sst_le j (ST j l (t + k)) l[t + k]
    rw [← ST_succ (by omega)] at h2
    show (ST j l t).1 ≤ (ST j l (t + k + 1)).1 ∧ (ST j l t).2 ≤ (ST j l (t + k + 1)).2
    exact ⟨by omega, by omega⟩
/-- No longer than twelve, nor deeper than so. -/
def Fit : Nat → List Line → Prop
  | 0, l => l = []
  | d + 1, l => l.length ≤ 12 ∧ ∀ x ∈ l, Fit d x.body ∧ Fit d x.els
theorem Fit.nil : ∀ d, Fit d []
  | 0 => rfl
  | d + 1 => ⟨by simp, by simp⟩
theorem SZ_len (j : Nat) (l : List Line) : l.length ≤ (SZ j l).1 := by
  cases j with
  | zero => exact Nat.le_refl _
  | succ j =>
    by_cases h : l.length > 12
    · rw [SZ, if_pos h]; exact Nat.le_refl _
    · rw [SZ_succ (by omega)]
      have := (ST_mono (j := j) (l := l) (t := 0) l.length (by omega)).1
      rw [Nat.zero_add] at this
      exact this
theorem fit_of : ∀ (j : Nat) (l : List Line), l ≠ [] → (SZ j l).1 ≤ 12 → (SZ j l).2 ≤ 4 → Fit j l
  | 0, l, _, _, h => by simp [SZ] at h
  | j + 1, l, hne, h1, h2 => by
    have hl : l.length ≤ 12 := by have := SZ_len (j + 1) l; omega
    rw [SZ_succ hl] at h1 h2
    refine ⟨hl, fun x hx => ?_⟩
    obtain ⟨t, ht, rfl⟩ := List.getElem_of_mem hx
    have hs := sst_le j (ST j l t) l[t]
    rw [← ST_succ ht] at hs
    have hm := ST_mono (j := j) (l := l) (t := t + 1) (l.length - (t + 1)) (by omega)
    rw [show t + 1 + (l.length - (t + 1)) = l.length by omega] at hm
    refine ⟨?_, ?_⟩
    · by_cases e : l[t].body = []
      · rw [e]; exact Fit.nil _
      · have := hs.2.2.1 e
        exact fit_of j _ e (by omega) (by omega)
    · by_cases e : l[t].els = []
      · rw [e]; exact Fit.nil _
      · have := hs.2.2.2 e
        exact fit_of j _ e (by omega) (by omega)
theorem sm_inv {l : List Line} (h : smLine l) : l.length ≤ 1600000000000 ∧ ∀ x ∈ l, smLine x.body ∧ smLine x.els := by
  cases h with
  | mk h h5 h6 => exact ⟨by unfold reachBytes at h; omega, fun x hx => ⟨h5 x hx, h6 x hx⟩⟩
theorem SZ_bd : ∀ (j : Nat) (l : List Line), smLine l → (SZ j l).1 ≤ 25 ^ j * 1600000000000 ∧ (SZ j l).2 ≤ 5
  | 0, l, h => ⟨by have := (sm_inv h).1; simp only [SZ, Nat.pow_zero]; omega, Nat.le_refl _⟩
  | j + 1, l, h => by
    obtain ⟨hL, hs⟩ := sm_inv h
    have hp : 1 ≤ 25 ^ j := Nat.pos_of_ne_zero (by simp)
    rw [Nat.pow_succ]
    by_cases hl : l.length > 12
    · rw [SZ, if_pos hl]; exact ⟨by dsimp only; omega, by dsimp only; omega⟩
    · rw [SZ_succ (by omega)]
      have key : ∀ t, t ≤ l.length → (ST j l t).1 ≤ l.length + t * (2 * (25 ^ j * 1600000000000)) ∧ (ST j l t).2 ≤ 5 := by
        intro t
        induction t with
        | zero => exact fun _ => ⟨by simp [ST], by simp only [ST, List.take_zero, List.foldl_nil]; omega⟩
        | succ t ih =>
          intro ht
          have ih := ih (by omega)
          obtain ⟨h5, h6⟩ := hs l[t] (List.getElem_mem (by omega))
          have i5 := SZ_bd j _ h5
          have i6 := SZ_bd j _ h6
          rw [ST_succ (by omega), sst, Nat.add_mul, Nat.one_mul]
          generalize t * (2 * (25 ^ j * 1600000000000)) = T at ih ⊢
          generalize 25 ^ j * 1600000000000 = W at i5 i6 ⊢
          unfold ad
          split
          · split
            · exact ⟨by omega, ih.2⟩
            · dsimp only
              exact ⟨by omega, by split <;> omega⟩
          · dsimp only
            split
            · exact ⟨by omega, by split <;> omega⟩
            · refine ⟨by omega, ?_⟩
              split <;> (split <;> omega)
      have := key l.length (Nat.le_refl _)
      have h12 : l.length * (2 * (25 ^ j * 1600000000000)) ≤ 12 * (2 * (25 ^ j * 1600000000000)) := Nat.mul_le_mul_right _ (by omega)
      exact ⟨by omega, this.2⟩
theorem SZ_bd4 {j : Nat} (hj : j ≤ 4) {l : List Line} (h : smLine l) : (SZ j l).1 ≤ 700000000000000000 := by
  have := (SZ_bd j l h).1
  have h4 : 25 ^ j ≤ 25 ^ 4 := Nat.pow_le_pow_right (by omega) hj
  have : 25 ^ j * 1600000000000 ≤ 25 ^ 4 * 1600000000000 := Nat.mul_le_mul_right _ h4
  omega
def ci (s : NN) : Int × Int := ((s.1 : Int), (s.2 : Int))
theorem ad_cast {many most : Nat} {r : NN} {p : List Line} (h : p ≠ []) (hb : many + r.1 ≤ 9000000000000000000) : ((w64 ((many : Int) + (r.1 : Int))), (if (r.2 : Int) > (most : Int) then (r.2 : Int) else (most : Int))) = ci (ad r p (many, most)) := by
  unfold ad ci
  rw [if_neg h, w64_id (by omega) (by omega)]
  dsimp only
  congr 1
  split <;> (split <;> omega)
theorem for2 {σ R : Type} {α : Type} (a b : α) (body : Int → σ → (σ → Option R) → Option R) (k : σ → Option R) (s : σ) : forK body k (((([a, b] : List α).length : Nat) : Int) - (0 : Int)).toNat (0 : Int) s = body 0 s (fun s' => body 1 s' k) := rfl
theorem b39_eq {deep : Int} {slf : List Line → Int → Option (Int × Int)} {y : Line} {i : Int} {p : List Line} (hi : geti [y.body, y.els] i = some p) (r : NN) (hr : p ≠ [] → slf p (w64 (deep + 1)) = some (ci r)) (s : NN) (hb : s.1 + r.1 ≤ 9000000000000000000) (nx : Int × Int → Option (Int × Int)) :
    flow_size_b39 deep slf y i s.1 s.2 nx = nx (ci (ad r p s)) := by
  unfold flow_size_b39
  rw [hi, Option.bind_some]
  by_cases h : p = []
  · subst h
    rw [decide_eq_false (by simp), cond_false]
    unfold ad; rw [if_pos rfl]; rfl
  · have hl : 0 < p.length := List.length_pos_iff.2 h
    rw [decide_eq_true (by omega), cond_true, hr h, Option.bind_some]
    unfold ci
    dsimp only
    rw [ad_cast h hb]
    rfl
theorem ST_bd {j : Nat} (hj : j ≤ 3) {l : List Line} (h : smLine l) (hl : l.length ≤ 12) {t : Nat} (ht : t ≤ l.length) : (ST j l t).1 ≤ 700000000000000000 := by
  have h1 := SZ_bd4 (j := j + 1) (by omega) h
  rw [SZ_succ hl] at h1
  have := (ST_mono (j := j) (l := l) (t := t) (l.length - t) (by omega)).1
  rw [show t + (l.length - t) = l.length by omega] at this
  omega
theorem size_eq : ∀ (j : Nat), j ≤ 4 → ∀ (f : Nat), j < f → ∀ l, smLine l → flow_size f l (5 - (j : Int)) = some (ci (SZ j l))
  | 0, _, f + 1, _, l, h => by
    unfold flow_size flow_size_s
    rw [decide_eq_true (p := (5 - ((0 : Nat) : Int)) > 4) (by omega), Bool.or_true, cond_true]
    rfl
  | j + 1, hj, f + 1, hf, l, h => by
    unfold flow_size flow_size_s
    have ed : (5 - ((j + 1 : Nat) : Int)) = ((4 - j : Nat) : Int) := by omega
    rw [ed]
    by_cases hl : l.length > 12
    · rw [decide_eq_true (by omega), Bool.true_or, cond_true, SZ, if_pos hl]; rfl
    · rw [decide_eq_false (by omega), decide_eq_false (by omega), Bool.or_self, cond_false, SZ_succ (by omega)]
      rw [for_rec (s := ((l.length : Int), ((4 - j : Nat) : Int))) (n := l.length) (fun t => ci (ST j l t)) rfl rfl (fun t nx ht => by
        unfold flow_size_b13
        obtain ⟨h5, h6⟩ := (sm_inv h).2 l[t] (List.getElem_mem ht)
        rw [geti_at ht, Option.bind_some, for2, ST_succ ht]
        have hb := ST_bd (j := j) (by omega) h (by omega) (t := t + 1) ht
        rw [ST_succ ht] at hb
        unfold sst at hb ⊢
        have b5 := SZ_bd4 (j := j) (by omega) h5
        have b6 := SZ_bd4 (j := j) (by omega) h6
        have hbt := ST_bd (j := j) (by omega) h (by omega) (t := t) (by omega)
        have hle := (ad_le (SZ j l[t].els) l[t].els (ad (SZ j l[t].body) l[t].body (ST j l t))).1
        have ew : w64 (((4 - j : Nat) : Int) + 1) = 5 - (j : Int) := by rw [w64_id (by omega) (by omega)]; omega
        have e5 := b39_eq (deep := ((4 - j : Nat) : Int)) (slf := flow_size f) (y := l[t]) (i := 0) (p := l[t].body) rfl (SZ j l[t].body) (fun _ => by rw [ew]; exact size_eq j (by omega) f (by omega) _ h5) (ST j l t) (by omega)
        have e6 := b39_eq (deep := ((4 - j : Nat) : Int)) (slf := flow_size f) (y := l[t]) (i := 1) (p := l[t].els) rfl (SZ j l[t].els) (fun _ => by rw [ew]; exact size_eq j (by omega) f (by omega) _ h6) (ad (SZ j l[t].body) l[t].body (ST j l t)) (by omega)
        refine (e5 _).trans ?_
        refine (e6 _).trans ?_
        rfl)]
      rfl
theorem lines_eq : ∀ (j : Nat), j ≤ 4 → ∀ (f : Nat), j < f → ∀ l, l ≠ [] → smLine l → syllogistref_Lines f l (5 - (j : Int)) = some (ci (SZ j l))
  | 0, _, f + 1, _, l, hne, h => by
    unfold syllogistref_Lines syllogistref_Lines_s
    have hl : 0 < l.length := List.length_pos_iff.2 hne
    have e0 : ((l.length : Int) == 0) = false := by rw [beq_eq_false_iff_ne]; omega
    rw [e0, cond_false, decide_eq_true (p := (5 - ((0 : Nat) : Int)) > 4) (by omega), Bool.true_or, cond_true]
    rfl
  | j + 1, hj, f + 1, hf, l, hne, h => by
    unfold syllogistref_Lines syllogistref_Lines_s
    have hl0 : 0 < l.length := List.length_pos_iff.2 hne
    have e0 : ((l.length : Int) == 0) = false := by rw [beq_eq_false_iff_ne]; omega
    have ed : (5 - ((j + 1 : Nat) : Int)) = ((4 - j : Nat) : Int) := by omega
    rw [ed, e0, cond_false]
    by_cases hl : l.length > 12
    · rw [decide_eq_true (p := ((l.length : Nat) : Int) > 12) (by omega), Bool.or_true, cond_true, SZ, if_pos hl]; rfl
    · rw [decide_eq_false (by omega), decide_eq_false (by omega), Bool.or_self, cond_false, SZ_succ (by omega)]
      rw [for_rec (s := ((l.length : Int), ((4 - j : Nat) : Int))) (n := l.length) (fun t => ci (ST j l t)) rfl rfl (fun t nx ht => by
        unfold syllogistref_Lines_b13
        obtain ⟨h5, h6⟩ := (sm_inv h).2 l[t] (List.getElem_mem ht)
        rw [geti_at ht, Option.bind_some, ST_succ ht]
        have b5 := SZ_bd4 (j := j) (by omega) h5
        have b6 := SZ_bd4 (j := j) (by omega) h6
        have hbt := ST_bd (j := j) (by omega) h (by omega) (t := t) (by omega)
        have ew : w64 (((4 - j : Nat) : Int) + 1) = 5 - (j : Int) := by rw [w64_id (by omega) (by omega)]; omega
        have h2 : 4 - j ≤ (ST j l t).2 := by
          have := (ST_mono (j := j) (l := l) (t := 0) t (by omega)).2
          rw [Nat.zero_add] at this
          exact this
        have nilL : syllogistref_Lines f [] (5 - (j : Int)) = some (0, ((4 - j : Nat) : Int)) := by
          cases f with
          | zero => omega
          | succ f =>
            unfold syllogistref_Lines syllogistref_Lines_s
            rw [show (((([] : List Line).length : Nat) : Int) == 0) = true from rfl, cond_true, w64_id (by omega) (by omega)]
            congr 2; omega
        have val : ∀ p, smLine p → ∃ r : NN, syllogistref_Lines f p (5 - (j : Int)) = some (ci r) ∧ r.1 ≤ 700000000000000000 ∧ (p = [] → r = (0, 4 - j)) ∧ (p ≠ [] → r = SZ j p) := fun p hp => by
          by_cases e : p = []
          · subst e; exact ⟨(0, 4 - j), nilL, by dsimp only; omega, fun _ => rfl, fun h => absurd rfl h⟩
          · exact ⟨SZ j p, lines_eq j (by omega) f (by omega) p e hp, SZ_bd4 (by omega) hp, fun h => absurd h e, fun _ => rfl⟩
        obtain ⟨r5, q5, m5, n5, o5⟩ := val _ h5
        obtain ⟨r6, q6, m6, n6, o6⟩ := val _ h6
        rw [ew, q5, Option.bind_some, q6, Option.bind_some]
        have hx : ∀ (p : List Line) (r : NN) (s : NN), 4 - j ≤ s.2 → (p = [] → r = (0, 4 - j)) → (p ≠ [] → r = SZ j p) → ad (SZ j p) p s = (s.1 + r.1, if r.2 > s.2 then r.2 else s.2) := fun p r s hs hn ho => by
          unfold ad
          by_cases e : p = []
          · rw [if_pos e, hn e]; dsimp only; rw [if_neg (by omega)]; rfl
          · rw [if_neg e, ho e]
        unfold sst
        rw [hx l[t].els r6 _ (by have := (ad_le (SZ j l[t].body) l[t].body (ST j l t)).2.1; omega) n6 o6, hx l[t].body r5 _ h2 n5 o5]
        unfold ci
        dsimp only
        rw [w64_id (n := ((ST j l t).1 : Int) + r5.1) (by omega) (by omega), w64_id (by omega) (by omega)]
        have ecast : ((ST j l t).1 : Int) + (r5.1 : Int) + (r6.1 : Int) = (((ST j l t).1 + r5.1 + r6.1 : Nat) : Int) := by omega
        rw [ecast]
        by_cases c1 : r5.2 > (ST j l t).2
        · simp only [if_pos c1]
          rw [decide_eq_true (by omega), cond_true]
          by_cases c2 : r6.2 > r5.2
          · rw [if_pos c2, decide_eq_true (by omega), cond_true]
          · rw [if_neg c2, decide_eq_false (by omega), cond_false]
        · simp only [if_neg c1]
          rw [decide_eq_false (by omega), cond_false]
          by_cases c2 : r6.2 > (ST j l t).2
          · rw [if_pos c2, decide_eq_true (by omega), cond_true]
          · rw [if_neg c2, decide_eq_false (by omega), cond_false])]
      rfl

/-! ### What is wrong with the lines -/
def kbad (x : Line) : Bool := (decide (x.kind < (1 : Int))) || (decide (x.kind > (3 : Int)))
def abad (n : Int) (x : Line) : Bool := bif x.kind == 1 then (((((decide (x.to < (0 : Int))) || (decide (x.to ≥ n))) || (decide (x.a < (-1 : Int)))) || (decide (x.a ≥ n))) || (decide (x.b < (-1 : Int)))) || (decide (x.b ≥ n)) else (decide (x.a < (0 : Int))) || (decide (x.a ≥ n))
/-- All lines are right, and no deeper than so. -/
def OkL (n : Int) : Nat → List Line → Prop
  | 0, l => l = []
  | d + 1, l => l.length ≤ 12 ∧ ∀ x ∈ l, kbad x = false ∧ abad n x = false ∧ OkL n d x.body ∧ OkL n d x.els
theorem OkL.nil (n : Int) : ∀ d, OkL n d []
  | 0 => rfl
  | d + 1 => ⟨by simp, by simp⟩
def cx (n : Int) (s : List Line → Option Int) (x : Line) : Int := bif kbad x then 6 else bif abad n x then 2 else bif ((s x.body).getD 0) != 0 then (s x.body).getD 0 else (s x.els).getD 0
theorem check_ex (n : Int) : ∀ (d : Nat) (f : Nat), d < f → ∀ l, Fit d l → ∃ c, syllogistref_LinesCheck f n l = some c ∧ (c = 0 → OkL n d l)
  | 0, f + 1, _, l, h => by
    have h : l = [] := h
    subst h
    exact ⟨0, rfl, fun _ => rfl⟩
  | d + 1, f + 1, hf, l, h => by
    obtain ⟨hl, h⟩ := h
    have hk : ∀ x ∈ l, ∀ (nx : Unit → Option Int), (bif ((x.kind != (1 : Int)) && (x.kind != (2 : Int))) && (x.kind != (3 : Int)) then some 6 else
        bif x.kind == (1 : Int) then syllogistref_LinesCheck_k20 n (syllogistref_LinesCheck f) nx x (((((((decide (x.to < (0 : Int))) || (decide (x.to ≥ n))) || (decide (x.a < (-1 : Int)))) || (decide (x.a ≥ n))) || (decide (x.b < (-1 : Int)))) || (decide (x.b ≥ n))))
        else syllogistref_LinesCheck_k20 n (syllogistref_LinesCheck f) nx x (((decide (x.a < (0 : Int))) || (decide (x.a ≥ n))))) = bif cx n (syllogistref_LinesCheck f n) x != 0 then some (cx n (syllogistref_LinesCheck f n) x) else nx () := fun x hx nx => by
      have ek : (((x.kind != (1 : Int)) && (x.kind != (2 : Int))) && (x.kind != (3 : Int))) = kbad x := by
        unfold kbad
        rw [Bool.eq_iff_iff]
        simp only [Bool.and_eq_true, bne_iff_ne, Bool.or_eq_true, decide_eq_true_eq]
        omega
      rw [ek]
      unfold cx
      cases hk : kbad x with
      | true => rfl
      | false =>
        rw [cond_false, cond_false]
        have ea : (bif x.kind == (1 : Int) then syllogistref_LinesCheck_k20 n (syllogistref_LinesCheck f) nx x (((((((decide (x.to < (0 : Int))) || (decide (x.to ≥ n))) || (decide (x.a < (-1 : Int)))) || (decide (x.a ≥ n))) || (decide (x.b < (-1 : Int)))) || (decide (x.b ≥ n)))) else syllogistref_LinesCheck_k20 n (syllogistref_LinesCheck f) nx x (((decide (x.a < (0 : Int))) || (decide (x.a ≥ n))))) = syllogistref_LinesCheck_k20 n (syllogistref_LinesCheck f) nx x (abad n x) := by
          unfold abad
          cases x.kind == 1 <;> rfl
        rw [ea]
        unfold syllogistref_LinesCheck_k20
        obtain ⟨c5, e5, _⟩ := check_ex n d f (by omega) _ (h x hx).1
        obtain ⟨c6, e6, _⟩ := check_ex n d f (by omega) _ (h x hx).2
        rw [e5, e6]
        simp only [Option.bind_some, Option.getD_some]
        cases ha : abad n x with
        | true => rfl
        | false =>
          simp only [cond_false]
          by_cases h5 : c5 = 0
          · subst h5
            simp only [beq_self_eq_true, cond_true, bne_self_eq_false, cond_false]
          · have a1 : (c5 == 0) = false := by simpa using h5
            have a2 : (c5 != 0) = true := by simpa using h5
            simp only [a1, a2, cond_true, cond_false]
    unfold syllogistref_LinesCheck syllogistref_LinesCheck_s
    rcases for_find (k := fun _ => syllogistref_LinesCheck_k3) (body := fun i s nx_ => syllogistref_LinesCheck_b7 n l (syllogistref_LinesCheck f) i nx_) (fun _ => ()) (fun t => cx n (syllogistref_LinesCheck f n) (l[t]?.getD ⟨0, 0, 0, 0, 0, [], []⟩) != 0) (fun t => some (cx n (syllogistref_LinesCheck f n) (l[t]?.getD ⟨0, 0, 0, 0, 0, [], []⟩))) (rfl : ((l.length : Nat) : Int) = (l.length : Int)) rfl (fun t nx ht => by
      unfold syllogistref_LinesCheck_b7
      rw [geti_at ht, Option.bind_some, getd_at _ ht]
      exact hk l[t] (List.getElem_mem ht) nx) with ⟨t, ht, he, _, e⟩ | ⟨ha, e⟩
    · refine ⟨_, e, fun h0 => ?_⟩
      rw [h0] at he; simp at he
    · refine ⟨0, e, fun _ => ⟨hl, fun x hx => ?_⟩⟩
      obtain ⟨t, ht, rfl⟩ := List.getElem_of_mem hx
      have := ha t ht
      rw [getd_at _ ht] at this
      have h0 : cx n (syllogistref_LinesCheck f n) l[t] = 0 := by simpa using this
      obtain ⟨c5, e5, g5⟩ := check_ex n d f (by omega) _ (h _ hx).1
      obtain ⟨c6, e6, g6⟩ := check_ex n d f (by omega) _ (h _ hx).2
      unfold cx at h0
      rw [e5, e6] at h0
      simp only [Option.getD_some] at h0
      cases hk1 : kbad l[t] with
      | true => rw [hk1] at h0; simp at h0
      | false =>
        cases ha1 : abad n l[t] with
        | true => rw [hk1, ha1] at h0; simp at h0
        | false =>
          rw [hk1, ha1] at h0
          simp only [cond_false] at h0
          by_cases hz : c5 = 0
          · subst hz
            simp only [bne_self_eq_false, cond_false] at h0
            exact ⟨rfl, rfl, g5 rfl, g6 h0⟩
          · have a2 : (c5 != 0) = true := by simpa using hz
            rw [a2, cond_true] at h0
            exact absurd h0 hz
theorem v_eq (n i : Int) : flow_lines_c1 i n = some (decide (i ≥ 0) && decide (i < n)) := rfl
theorem lines2_eq (n : Int) (hn : 1 ≤ n) : ∀ (d : Nat) (f : Nat), d < f → ∀ l, Fit d l → flow_lines f n l = syllogistref_LinesCheck f n l
  | 0, f + 1, _, l, h => by
    have h : l = [] := h
    subst h
    rfl
  | d + 1, f + 1, hf, l, h => by
    obtain ⟨hl, h⟩ := h
    unfold flow_lines syllogistref_LinesCheck flow_lines_s syllogistref_LinesCheck_s
    refine for0_two (Q := fun a b => a = b) (n := l.length) (fun _ _ => True) rfl () trivial (fun t s n1 n2 ht _ hn12 => ?_) (fun s _ => rfl)
    have hnx : n1 () = n2 () := hn12 () trivial
    unfold flow_lines_b9 syllogistref_LinesCheck_b7
    rw [geti_at ht, Option.bind_some, Option.bind_some]
    have hx := h l[t] (List.getElem_mem ht)
    generalize l[t] = x at hx
    obtain ⟨c5, e5, _⟩ := check_ex n d f (by omega) _ hx.1
    obtain ⟨c6, e6, _⟩ := check_ex n d f (by omega) _ hx.2
    have q5 := lines2_eq n hn d f (by omega) _ hx.1
    have q6 := lines2_eq n hn d f (by omega) _ hx.2
    have ek : (((x.kind != (1 : Int)) && (x.kind != (2 : Int))) && (x.kind != (3 : Int))) = ((decide (x.kind < (1 : Int))) || (decide (x.kind > (3 : Int)))) := by
      rw [Bool.eq_iff_iff]
      simp only [Bool.and_eq_true, bne_iff_ne, Bool.or_eq_true, decide_eq_true_eq]
      omega
    rw [ek]
    cases hk : (decide (x.kind < (1 : Int))) || (decide (x.kind > (3 : Int))) with
    | true => rfl
    | false =>
      have k25 : ∀ b, flow_lines_k25 n (flow_lines f) n1 x b = syllogistref_LinesCheck_k20 n (syllogistref_LinesCheck f) n2 x b := fun b => by
        unfold flow_lines_k25 syllogistref_LinesCheck_k20
        cases b with
        | true => rfl
        | false =>
          rw [cond_false, cond_false, for2]
          unfold flow_lines_b35 flow_lines_k31
          have g0 : geti ([x.body, x.els] : List (List Line)) 0 = some x.body := rfl
          have g1 : geti ([x.body, x.els] : List (List Line)) 1 = some x.els := rfl
          rw [g0, g1]
          simp only [Option.bind_some, q5, q6, e5, e6]
          by_cases h5 : c5 = 0
          · subst h5
            simp only [beq_self_eq_true, cond_true, bne_self_eq_false, cond_false, hnx]
          · have a1 : (c5 == 0) = false := by simpa using h5
            have a2 : (c5 != 0) = true := by simpa using h5
            simp only [a1, a2, cond_true, cond_false]
      rw [cond_false, cond_false]
      simp only [v_eq, Option.isSome_some, Bool.or_true, cond_true, Option.getD_some, k25]
      cases h1 : x.kind == 1 with
      | true =>
        have h1' : (x.kind != 1) = false := by rw [bne, h1]; rfl
        rw [cond_true, h1']
        have eb : (true && ((!(decide (x.to ≥ 0) && decide (x.to < n)) || (x.a != -1) && !(decide (x.a ≥ 0) && decide (x.a < n))) || (x.b != -1) && !(decide (x.b ≥ 0) && decide (x.b < n)))) = ((((((decide (x.to < (0 : Int))) || (decide (x.to ≥ n))) || (decide (x.a < (-1 : Int)))) || (decide (x.a ≥ n))) || (decide (x.b < (-1 : Int)))) || (decide (x.b ≥ n))) := by
          rw [Bool.eq_iff_iff]
          simp only [Bool.true_and, Bool.or_eq_true, Bool.and_eq_true, Bool.not_eq_true', Bool.and_eq_false_iff, decide_eq_false_iff_not, decide_eq_true_eq, bne_iff_ne]
          omega
        rw [eb]
        cases (((((decide (x.to < (0 : Int))) || (decide (x.to ≥ n))) || (decide (x.a < (-1 : Int)))) || (decide (x.a ≥ n))) || (decide (x.b < (-1 : Int)))) || (decide (x.b ≥ n)) <;> rfl
      | false =>
        have h1' : (x.kind != 1) = true := by rw [bne, h1]; rfl
        rw [cond_false, h1', Bool.false_and, cond_false, Bool.true_and]
        have eb : (!(decide (x.a ≥ 0) && decide (x.a < n))) = ((decide (x.a < (0 : Int))) || (decide (x.a ≥ n))) := by
          rw [Bool.eq_iff_iff]
          simp only [Bool.or_eq_true, Bool.not_eq_true', Bool.and_eq_false_iff, decide_eq_false_iff_not, decide_eq_true_eq]
          omega
        rw [eb]
/-- The code of a program; and what it says where it is 0. -/
theorem wrong_eq (f : Nat) (hf : 10 < f) (n : Int) (l : List Line) (h : smLine l) : ∃ c, flow_wrong f n l = some c ∧ syllogistref_ProgCheck f n l = some c ∧ (c = 0 → 1 ≤ n ∧ n ≤ 6 ∧ OkL n 4 l) := by
  have hs : flow_size f l 1 = some (ci (SZ 4 l)) := size_eq 4 (by omega) f (by omega) l h
  have hr : ∃ r : Int × Int, syllogistref_Lines f l 1 = some r ∧ (decide (r.1 > 12) = decide ((ci (SZ 4 l)).1 > 12)) ∧ (decide (r.2 > 4) = decide ((ci (SZ 4 l)).2 > 4)) := by
    by_cases e : l = []
    · subst e
      cases f with
      | zero => omega
      | succ f => exact ⟨(0, w64 (1 - 1)), rfl, rfl, rfl⟩
    · exact ⟨_, lines_eq 4 (by omega) f (by omega) l e h, rfl, rfl⟩
  obtain ⟨r, er, r1, r2⟩ := hr
  unfold flow_wrong syllogistref_ProgCheck
  rw [hs, er, Option.bind_some, Option.bind_some, r1, r2]
  cases hb : ((((decide (n < (1 : Int))) || (decide (n > (6 : Int)))) || (decide ((ci (SZ 4 l)).1 > (12 : Int)))) || (decide ((ci (SZ 4 l)).2 > (4 : Int)))) with
  | true => exact ⟨1, rfl, rfl, fun h => by cases h⟩
  | false =>
    have c1 : (ci (SZ 4 l)).1 = ((SZ 4 l).1 : Int) := rfl
    have c2 : (ci (SZ 4 l)).2 = ((SZ 4 l).2 : Int) := rfl
    rw [c1, c2] at hb
    simp only [Bool.or_eq_false_iff, decide_eq_false_iff_not] at hb
    have hfit : Fit 4 l := by
      by_cases e : l = []
      · subst e; exact Fit.nil _
      · exact fit_of 4 l e (by omega) (by omega)
    obtain ⟨c, ec, hc⟩ := check_ex n 4 f (by omega) l hfit
    rw [cond_false, cond_false, lines2_eq n (by omega) 4 f (by omega) l hfit, ec]
    exact ⟨c, rfl, rfl, fun h0 => ⟨by omega, by omega, hc h0⟩⟩
end Go.Proofs.Ytcihfhfolofomaa.Sy
