/- Taking, granting, making, dropping, deed by deed: the plain law of grant.Play; no program in sight. -/
import Derived.Test.YtafaimklnnpkiaaG4
import Derived.Test.YtafaimklnnpkiaaSyR
namespace Go.Proofs.Ytafaimklnnpkiaa.Sy
set_option linter.unusedVariables false

/-! ### Bits -/
theorem and0 {a b : BitVec 32} : ((a &&& b) == 0#32) = true ↔ ∀ i, a.getLsbD i = true → b.getLsbD i = false := by
  rw [beq_iff_eq]
  constructor
  · intro h i ha
    have := congrArg (fun z : BitVec 32 => z.getLsbD i) h
    simpa [ha] using this
  · intro h
    refine bits_ext fun i => ?_
    rw [BitVec.getLsbD_and, Bool.and_eq_true]
    simp only [BitVec.getLsbD_zero, Bool.false_eq_true, iff_false]
    rintro ⟨ha, hb⟩
    rw [h i ha] at hb; cases hb
theorem one_bit (i : Nat) : (1#32).getLsbD i = true ↔ i = 0 := by
  by_cases h : i < 32
  · have : ∀ i, i < 32 → ((1#32).getLsbD i = true ↔ i = 0) := by decide
    exact this i h
  · rw [BitVec.getLsbD_of_ge _ _ (by omega)]
    simp; omega
theorem two_bit (i : Nat) : (2#32).getLsbD i = true ↔ i = 1 := by
  by_cases h : i < 32
  · have : ∀ i, i < 32 → ((2#32).getLsbD i = true ↔ i = 1) := by decide
    exact this i h
  · rw [BitVec.getLsbD_of_ge _ _ (by omega)]
    simp; omega
theorem in_bit {c : BitVec 32} {k : Nat} (hc : ∀ i, c.getLsbD i = true ↔ i = k) (r : BitVec 32) : ((c ||| r) == r) = !((r &&& c) == 0#32) := by
  rw [Bool.eq_iff_iff, or_iff, Bool.not_eq_true', ← Bool.not_eq_true, and0]
  constructor
  · intro h h'
    have h2 := h' k (h k ((hc k).2 rfl))
    rw [(hc k).2 rfl] at h2; cases h2
  · intro h i hi
    obtain rfl := (hc i).1 hi
    cases e : r.getLsbD i with
    | true => rfl
    | false =>
      refine absurd (fun j hj => ?_) h
      cases e2 : c.getLsbD j with
      | false => rfl
      | true => rw [(hc j).1 e2, e] at hj; cases hj

/-! ### Edges as they are told -/
abbrev GMx := List (List (BitVec 32))
abbrev rwg (g : GMx) (i : Nat) : List (BitVec 32) := g[i]?.getD []
abbrev ge (g : GMx) (i j : Nat) : BitVec 32 := (rwg g i)[j]?.getD 0#32
def hit (e : Edge) (a b : Int) : Bool := (e.src == a) && (e.to == b)
theorem hit_iff {e : Edge} {a b : Int} : hit e a b = true ↔ e.src = a ∧ e.to = b := by unfold hit; rw [Bool.and_eq_true, beq_iff_eq, beq_iff_eq]
def ov : List Edge → Int → Int → BitVec 32
  | [], _, _ => 0#32
  | e :: es, a, b => (bif hit e a b then e.rights else 0#32) ||| ov es a b
theorem ov_app (l r : List Edge) (a b : Int) : ov (l ++ r) a b = ov l a b ||| ov r a b := by
  induction l with
  | nil => simp [ov]
  | cons e l ih => simp only [List.cons_append, ov, ih, BitVec.or_assoc]
theorem ov_one (e : Edge) (a b : Int) : ov [e] a b = bif hit e a b then e.rights else 0#32 := by simp [ov]
theorem ov_zero {es : List Edge} {a b : Int} (h : ∀ e ∈ es, hit e a b = false) : ov es a b = 0#32 := by
  induction es with
  | nil => rfl
  | cons e es ih => rw [ov, h e (by simp), ih fun x hx => h x (by simp [hx])]; simp
theorem over_eq (es : List Edge) (a b : Int) : syllogistref_Over es a b = some (ov es a b) := by
  unfold syllogistref_Over
  rw [for_rec (s := 0#32) (n := es.length) (fun j => ov (es.take j) a b) rfl rfl (fun j nx hj => by
    unfold syllogistref_Over_b10
    rw [geti_at hj, Option.bind_some, ← List.take_append_getElem hj, ov_app, ov_one]
    change (bif hit es[j] a b then _ else _) = _
    cases hit es[j] a b <;> simp), List.take_length]
  rfl
def drp (a b : Int) (w : BitVec 32) (e : Edge) : Edge := bif hit e a b then { src := e.src, to := e.to, rights := e.rights &&& ~~~w } else e
theorem drp_hit {a b : Int} {w : BitVec 32} {e : Edge} {c d : Int} : hit (drp a b w e) c d = hit e c d := by
  unfold drp
  cases hit e a b <;> rfl
theorem ov_drp (es : List Edge) (a b : Int) (w : BitVec 32) (c d : Int) : ov (es.map (drp a b w)) c d = bif (c == a) && (d == b) then ov es c d &&& ~~~w else ov es c d := by
  induction es with
  | nil => cases (c == a) && (d == b) <;> simp [ov]
  | cons e es ih =>
    rw [List.map_cons, ov, ih, drp_hit, ov]
    cases h : hit e c d with
    | false => simp only [cond_false, BitVec.zero_or]
    | true =>
      obtain ⟨h1, h2⟩ := hit_iff.1 h
      have e1 : hit e a b = ((c == a) && (d == b)) := by unfold hit; rw [h1, h2]
      unfold drp
      rw [e1]
      cases (c == a) && (d == b) with
      | false => rfl
      | true =>
        simp only [cond_true]
        refine bits_ext fun i => ?_
        simp only [BitVec.getLsbD_or, BitVec.getLsbD_and, Bool.and_or_distrib_right]

/-! ### The matrix of them -/
structure GR (n : Nat) (g : GMx) (es : List Edge) : Prop where
  len : g.length = n
  row : ∀ i, i < n → (rwg g i).length = 14
  n14 : n ≤ 14
  val : ∀ a b : Nat, a < n → b < 14 → ge g a b = ov es a b
  ends : ∀ e ∈ es, 0 ≤ e.src ∧ e.src < n ∧ 0 ≤ e.to ∧ e.to < n
theorem rwg_set {g : GMx} {a : Nat} {r : List (BitVec 32)} (ha : a < g.length) (i : Nat) : rwg (g.set a r) i = if i = a then r else rwg g i := by
  unfold rwg
  rw [List.getElem?_set]
  by_cases e : i = a
  · subst e; simp [ha]
  · rw [if_neg (fun h => e h.symm), if_neg e]
theorem wd_set {g : List (BitVec 32)} {a : Nat} {r : BitVec 32} (ha : a < g.length) (i : Nat) : (g.set a r)[i]?.getD 0#32 = if i = a then r else g[i]?.getD 0#32 := by
  rw [List.getElem?_set]
  by_cases e : i = a
  · subst e; simp [ha]
  · rw [if_neg (fun h => e h.symm), if_neg e]
def upd (g : GMx) (a b : Nat) (w : BitVec 32) : GMx := g.set a ((rwg g a).set b w)
theorem upd_len {g : GMx} {a b : Nat} {w : BitVec 32} : (upd g a b w).length = g.length := List.length_set
theorem upd_row {g : GMx} {a b : Nat} {w : BitVec 32} (ha : a < g.length) (i : Nat) : (rwg (upd g a b w) i).length = (rwg g i).length := by
  unfold upd
  rw [rwg_set ha]
  by_cases h : i = a
  · subst h; rw [if_pos rfl, List.length_set]
  · rw [if_neg h]
theorem upd_ge {g : GMx} {a b : Nat} {w : BitVec 32} (ha : a < g.length) (hb : b < (rwg g a).length) (i j : Nat) : ge (upd g a b w) i j = if i = a ∧ j = b then w else ge g i j := by
  unfold ge upd
  rw [rwg_set ha]
  by_cases h1 : i = a
  · subst h1
    rw [if_pos rfl, wd_set hb]
    by_cases h2 : j = b
    · rw [if_pos h2, if_pos ⟨rfl, h2⟩]
    · rw [if_neg h2, if_neg (fun h => h2 h.2)]
  · rw [if_neg h1, if_neg (fun h => h1 h.1)]
theorem GR.or {n : Nat} {g : GMx} {es : List Edge} (h : GR n g es) {a b : Nat} (w : BitVec 32) (ha : a < n) (hb : b < n) : GR n (upd g a b (ge g a b ||| w)) (es ++ [{ src := (a : Int), to := (b : Int), rights := w }]) := by
  obtain ⟨h1, h2, h3, h4, h5⟩ := h
  refine ⟨by rw [upd_len, h1], fun i hi => by rw [upd_row (by omega)]; exact h2 i hi, h3, fun i j hi hj => ?_, fun e he => ?_⟩
  · rw [upd_ge (by omega) (by rw [h2 a ha]; omega), ov_app, ov_one, h4 i j hi hj]
    by_cases hc : i = a ∧ j = b
    · obtain ⟨rfl, rfl⟩ := hc
      rw [if_pos ⟨rfl, rfl⟩, h4 i j hi hj, hit_iff.2 ⟨rfl, rfl⟩]; rfl
    · rw [if_neg hc]
      have : hit { src := (a : Int), to := (b : Int), rights := w } i j = false := by
        rw [← Bool.not_eq_true, hit_iff]
        simp only
        omega
      rw [this]; simp
  · rcases List.mem_append.1 he with he | he
    · exact h5 e he
    · rw [List.mem_singleton] at he
      subst he
      simp only
      omega
theorem GR.make {n : Nat} {g : GMx} {es : List Edge} (h : GR n g es) {a : Nat} (ha : a < n) (hn : n < 14) : GR (n + 1) (upd g a n 3#32 ++ [List.replicate 14 0#32]) (es ++ [{ src := (a : Int), to := (n : Int), rights := 3#32 }]) := by
  obtain ⟨h1, h2, h3, h4, h5⟩ := h
  have hr1 : ∀ i, i < n → rwg (upd g a n 3#32 ++ [List.replicate 14 0#32]) i = rwg (upd g a n 3#32) i := fun i hi => by
    unfold rwg
    rw [List.getElem?_append_left (by rw [upd_len]; omega)]
  have hr2 : rwg (upd g a n 3#32 ++ [List.replicate 14 0#32]) n = List.replicate 14 0#32 := by
    unfold rwg
    rw [List.getElem?_append_right (by rw [upd_len]; omega), upd_len, h1, Nat.sub_self]; rfl
  refine ⟨by rw [List.length_append, upd_len, h1]; rfl, fun i hi => ?_, by omega, fun i j hi hj => ?_, fun e he => ?_⟩
  · by_cases e : i = n
    · subst e; rw [hr2]; rfl
    · rw [hr1 i (by omega), upd_row (by omega)]; exact h2 i (by omega)
  · rw [ov_app, ov_one]
    by_cases e : i = n
    · subst e
      have e1 : hit { src := (a : Int), to := (i : Int), rights := 3#32 } i j = false := by
        rw [← Bool.not_eq_true, hit_iff]
        simp only
        omega
      rw [e1, ov_zero fun e he => by
        rw [← Bool.not_eq_true, hit_iff]
        have := h5 e he
        omega]
      unfold ge
      rw [hr2, List.getElem?_replicate]
      split <;> simp
    · have e2 : ge (upd g a n 3#32 ++ [List.replicate 14 0#32]) i j = ge (upd g a n 3#32) i j := by
        unfold ge
        rw [hr1 i (by omega)]
      rw [e2, upd_ge (by omega) (by rw [h2 a ha]; omega)]
      by_cases hc : i = a ∧ j = n
      · obtain ⟨rfl, rfl⟩ := hc
        rw [if_pos ⟨rfl, rfl⟩, hit_iff.2 ⟨rfl, rfl⟩, ov_zero fun e he => by
          rw [← Bool.not_eq_true, hit_iff]
          have := h5 e he
          omega]
        simp
      · rw [if_neg hc, h4 i j (by omega) hj]
        have : hit { src := (a : Int), to := (n : Int), rights := 3#32 } i j = false := by
          rw [← Bool.not_eq_true, hit_iff]
          simp only
          omega
        rw [this]; simp
  · rcases List.mem_append.1 he with he | he
    · have := h5 e he; omega
    · rw [List.mem_singleton] at he
      subst he
      simp only
      omega
theorem GR.drop {n : Nat} {g : GMx} {es : List Edge} (h : GR n g es) {a b : Nat} (w : BitVec 32) (ha : a < n) (hb : b < n) : GR n (upd g a b (ge g a b &&& ~~~w)) (es.map (drp a b w)) := by
  obtain ⟨h1, h2, h3, h4, h5⟩ := h
  refine ⟨by rw [upd_len, h1], fun i hi => by rw [upd_row (by omega)]; exact h2 i hi, h3, fun i j hi hj => ?_, fun e he => ?_⟩
  · rw [upd_ge (by omega) (by rw [h2 a ha]; omega), ov_drp]
    by_cases hc : i = a ∧ j = b
    · obtain ⟨rfl, rfl⟩ := hc
      rw [if_pos ⟨rfl, rfl⟩, h4 i j hi hj, beq_self_eq_true, beq_self_eq_true]; rfl
    · rw [if_neg hc, h4 i j hi hj]
      have : (((i : Int) == (a : Int)) && ((j : Int) == (b : Int))) = false := by
        rw [← Bool.not_eq_true, Bool.and_eq_true, beq_iff_eq, beq_iff_eq]
        omega
      rw [this]; rfl
  · obtain ⟨e', he', rfl⟩ := List.mem_map.1 he
    have := h5 e' he'
    unfold drp
    cases hit e' a b <;> exact this

/-! ### Deed by deed -/
structure LS where
  cs : List Int
  g : GMx
  es : List Edge
  n : Nat
def here (n : Nat) (i : Int) : Bool := (decide (i ≥ (0 : Int))) && (decide (i < (n : Int)))
theorem here_iff {n : Nat} {i : Int} : here n i = true ↔ 0 ≤ i ∧ i < n := by unfold here; rw [Bool.and_eq_true, decide_eq_true_eq, decide_eq_true_eq]
def kbad (d : Deed) : Bool := (decide (d.kind < (1 : Int))) || (decide (d.kind > (4 : Int)))
def pas (d : Deed) : Bool := (d.kind == (1 : Int)) || (d.kind == (2 : Int))
def gets (d : Deed) : Int := bif d.kind == (2 : Int) then d.to else d.by_
def abad (n : Nat) (d : Deed) : Bool := ((!here n d.by_) || ((d.kind != (3 : Int)) && ((!here n d.to) || (d.by_ == d.to)))) || (pas d && ((!here n d.label.level) || (d.label.level == gets d)))
def deny (es : List Edge) (d : Deed) : Bool := bif d.kind == 1 then ((ov es d.by_ d.to &&& 1#32) == 0#32) || ((d.label.parts &&& ~~~ov es d.to d.label.level) != 0#32) else ((ov es d.by_ d.to &&& 2#32) == 0#32) || ((d.label.parts &&& ~~~ov es d.by_ d.label.level) != 0#32)
def say (s : LS) (k : Int) : LS := { s with cs := s.cs ++ [k] }
def step (d : Deed) (s : LS) : LS :=
  bif kbad d then say s 6 else bif abad s.n d then say s 2 else
  bif pas d then (bif deny s.es d then say s 7 else
    { cs := s.cs ++ [0], g := upd s.g (gets d).toNat d.label.level.toNat (ge s.g (gets d).toNat d.label.level.toNat ||| d.label.parts), es := s.es ++ [{ src := gets d, to := d.label.level, rights := d.label.parts }], n := s.n }) else
  bif d.kind == 3 then (bif s.n == 14 then say s 1 else
    { cs := s.cs ++ [0], g := upd s.g d.by_.toNat s.n 3#32 ++ [List.replicate 14 0#32], es := s.es ++ [{ src := d.by_, to := (s.n : Int), rights := 3#32 }], n := s.n + 1 }) else
  { cs := s.cs ++ [0], g := upd s.g d.by_.toNat d.to.toNat (ge s.g d.by_.toNat d.to.toNat &&& ~~~d.label.parts), es := s.es.map (drp d.by_ d.to d.label.parts), n := s.n }
structure Ok (s : LS) (j : Nat) : Prop where
  gr : GR s.n s.g s.es
  cs : s.cs.length = j
  es : s.es.length ≤ 20 + j
theorem Ok.ite {a b : LS} {j : Nat} (z : Bool) (h1 : z = true → Ok a j) (h2 : z = false → Ok b j) : Ok (bif z then a else b) j := by cases z; exact h2 rfl; exact h1 rfl
/-- What a deed that may be asks. -/
theorem may {n : Nat} {d : Deed} (hk : kbad d = false) (ha : abad n d = false) : (d.kind = 1 ∨ d.kind = 2 ∨ d.kind = 3 ∨ d.kind = 4) ∧ (0 ≤ d.by_ ∧ d.by_ < n) ∧ (d.kind ≠ 3 → (0 ≤ d.to ∧ d.to < n) ∧ d.by_ ≠ d.to) ∧ (d.kind = 1 ∨ d.kind = 2 → 0 ≤ d.label.level ∧ d.label.level < n) := by
  unfold kbad at hk
  simp only [Bool.or_eq_false_iff, decide_eq_false_iff_not] at hk
  unfold abad pas at ha
  simp only [Bool.or_eq_false_iff, Bool.and_eq_false_iff, Bool.not_eq_false', here_iff, bne_eq_false_iff_eq, beq_eq_false_iff_ne, ne_eq] at ha
  obtain ⟨⟨h1, h2⟩, h3⟩ := ha
  refine ⟨by omega, h1, fun h => ?_, fun h => ?_⟩
  · rcases h2 with h2 | h2
    · exact absurd h2 h
    · exact h2
  · rcases h3 with h3 | h3
    · rcases h with h | h
      · exact absurd h h3.1
      · exact absurd h h3.2
    · exact h3.1
theorem gets_in {n : Nat} {d : Deed} (hk : kbad d = false) (ha : abad n d = false) (hp : pas d = true) : 0 ≤ gets d ∧ gets d < n := by
  obtain ⟨_, h2, h3, _⟩ := may hk ha
  unfold pas at hp
  rw [Bool.or_eq_true, beq_iff_eq, beq_iff_eq] at hp
  unfold gets
  rcases hp with hp | hp
  · rw [hp]; exact h2
  · rw [hp]; exact (h3 (by omega)).1
theorem nat_of {i : Int} (h : 0 ≤ i) : ∃ k : Nat, i = (k : Int) := ⟨i.toNat, by omega⟩
theorem step_ok {s : LS} {j : Nat} (d : Deed) (h : Ok s j) : Ok (step d s) (j + 1) := by
  have hs : ∀ k, Ok (say s k) (j + 1) := fun k => ⟨h.gr, by simp [say, h.cs], by have := h.es; simp only [say]; omega⟩
  have hes := h.es
  unfold step
  refine .ite _ (fun _ => hs _) fun hk => .ite _ (fun _ => hs _) fun ha => .ite _ (fun hp => .ite _ (fun _ => hs _) fun _ => ⟨?_, by simp [h.cs], by simp; omega⟩) fun hp => .ite _ (fun h3 => .ite _ (fun _ => hs _) fun hn => ⟨?_, by simp [h.cs], by simp; omega⟩) (fun h3 => ⟨?_, by simp [h.cs], by simp; omega⟩)
  · obtain ⟨_, _, _, h4⟩ := may hk ha
    have h5 := gets_in hk ha hp
    unfold pas at hp
    rw [Bool.or_eq_true, beq_iff_eq, beq_iff_eq] at hp
    have h4 := h4 hp
    obtain ⟨a, ea⟩ := nat_of h5.1
    obtain ⟨b, eb⟩ := nat_of h4.1
    rw [ea, eb, Int.toNat_natCast, Int.toNat_natCast]
    exact h.gr.or _ (by omega) (by omega)
  · obtain ⟨_, h2, _, _⟩ := may hk ha
    obtain ⟨a, ea⟩ := nat_of h2.1
    rw [ea, Int.toNat_natCast]
    have hn' : s.n ≠ 14 := by simpa using hn
    have := h.gr.n14
    exact h.gr.make (by omega) (by omega)
  · obtain ⟨_, h2, h4, _⟩ := may hk ha
    obtain ⟨h5, _⟩ := h4 (by simpa using h3)
    obtain ⟨a, ea⟩ := nat_of h2.1
    obtain ⟨b, eb⟩ := nat_of h5.1
    rw [ea, eb, Int.toNat_natCast, Int.toNat_natCast]
    exact h.gr.drop _ (by omega) (by omega)
theorem at_in {α : Type} {xs : List α} {i : Int} (d : α) (h0 : 0 ≤ i) (h : i < xs.length) : geti xs i = some (xs[i.toNat]?.getD d) := by
  rw [geti_int h0 h, getd_at d (by omega)]
theorem c1_eq (i : Int) (g : GMx) {n : Nat} (h : g.length = n) : grant_graph_do_c1 i g = some (here n i) := by
  subst h; rfl
theorem c2_eq (i : Int) (n : Nat) : syllogistref_Grant_c1 i (n : Int) = some (here n i) := rfl
theorem GR.rowAt {n : Nat} {g : GMx} {es : List Edge} (h : GR n g es) {a : Int} (h0 : 0 ≤ a) (h1 : a < n) : geti g a = some (rwg g a.toNat) := at_in [] h0 (by rw [h.len]; exact h1)
theorem GR.cell {n : Nat} {g : GMx} {es : List Edge} (h : GR n g es) {a b : Int} (h0 : 0 ≤ a) (h1 : a < n) (h2 : 0 ≤ b) (h3 : b < 14) : geti (rwg g a.toNat) b = some (ge g a.toNat b.toNat) := at_in 0#32 h2 (by rw [h.row _ (by omega)]; exact h3)
theorem GR.at {n : Nat} {g : GMx} {es : List Edge} (h : GR n g es) {a b : Int} (h0 : 0 ≤ a) (h1 : a < n) (h2 : 0 ≤ b) (h3 : b < 14) : ge g a.toNat b.toNat = ov es a b := by
  have := h.val a.toNat b.toNat (by omega) (by omega)
  rwa [Int.toNat_of_nonneg h0, Int.toNat_of_nonneg h2] at this

theorem do_eq {s : LS} {j : Nat} (d : Deed) (h : Ok s j) : grant_graph_do s.g d = some (((step d s).cs[j]?.getD 0), (step d s).g) ∧ (step d s).cs = s.cs ++ [(step d s).cs[j]?.getD 0] := by
  have hc : ∀ k : Int, (s.cs ++ [k])[j]?.getD 0 = k := fun k => by rw [List.getElem?_append_right (by have := h.cs; omega), h.cs, Nat.sub_self]; rfl
  have e0 : grant_graph_do s.g d = grant_graph_do_k6 s.g d (gets d) := by
    unfold grant_graph_do gets
    cases d.kind == 2 <;> rfl
  have hG := h.gr
  have hlen := hG.len
  have h14 := hG.n14
  rw [e0]
  unfold grant_graph_do_k6 step say
  simp only [c1_eq _ _ hlen, Option.bind_some, Option.isSome_some, Bool.or_true, cond_true, Option.getD_some]
  cases hk : kbad d with
  | true =>
    unfold kbad at hk
    rw [hk, cond_true, cond_true]
    simp only [hc]; exact ⟨by first | rfl | trivial, by first | rfl | trivial⟩
  | false =>
    have hk' := hk
    unfold kbad at hk'
    rw [hk', cond_false, cond_false]
    cases ha : abad s.n d with
    | true =>
      unfold abad pas at ha
      simp only [ha, cond_true, hc]; exact ⟨by first | rfl | trivial, by first | rfl | trivial⟩
    | false =>
      have ha' := ha
      unfold abad pas at ha'
      simp only [ha', cond_false]
      obtain ⟨h1, h2, h3, h4⟩ := may hk ha
      have er := hG.rowAt h2.1 h2.2
      rcases h1 with h1 | h1 | h1 | h1
      · obtain ⟨h5, h6⟩ := h3 (by omega)
        have h7 := h4 (.inl h1)
        have ep : pas d = true := by unfold pas; rw [h1]; rfl
        have eg : gets d = d.by_ := by unfold gets; rw [h1]; rfl
        have e1 := hG.cell h2.1 h2.2 h5.1 (show d.to < 14 by omega)
        have e2 := hG.rowAt h5.1 h5.2
        have e3 := hG.cell h5.1 h5.2 h7.1 (show d.label.level < 14 by omega)
        have e4 := hG.cell h2.1 h2.2 h7.1 (show d.label.level < 14 by omega)
        have e5 := hG.at h2.1 h2.2 h5.1 (show d.to < 14 by omega)
        have e6 := hG.at h5.1 h5.2 h7.1 (show d.label.level < 14 by omega)
        have ek : (d.kind == 1) = true := by rw [h1]; rfl
        simp only [ep, eg, ek, cond_true, er, e1, e2, e3, e4, Option.bind_some, Option.isSome_some, Bool.or_true, Option.getD_some]
        rw [e5, e6]
        have ed : deny s.es d = (((ov s.es d.by_ d.to &&& 1#32) == 0#32) || ((d.label.parts &&& ~~~ov s.es d.to d.label.level) != 0#32)) := by unfold deny; rw [ek]; rfl
        rw [← ed]
        cases deny s.es d with
        | true => simp only [cond_true, hc]; exact ⟨by first | rfl | trivial, by first | rfl | trivial⟩
        | false => simp only [cond_false, hc]; exact ⟨by first | rfl | trivial, by first | rfl | trivial⟩
      · obtain ⟨h5, h6⟩ := h3 (by omega)
        have h7 := h4 (.inr h1)
        have ep : pas d = true := by unfold pas; rw [h1]; rfl
        have eg : gets d = d.to := by unfold gets; rw [h1]; rfl
        have e1 := hG.cell h2.1 h2.2 h5.1 (show d.to < 14 by omega)
        have e2 := hG.rowAt h5.1 h5.2
        have e3 := hG.cell h5.1 h5.2 h7.1 (show d.label.level < 14 by omega)
        have e4 := hG.cell h2.1 h2.2 h7.1 (show d.label.level < 14 by omega)
        have e5 := hG.at h2.1 h2.2 h5.1 (show d.to < 14 by omega)
        have e6 := hG.at h2.1 h2.2 h7.1 (show d.label.level < 14 by omega)
        have ek : (d.kind == 1) = false := by rw [h1]; rfl
        have ek2 : (d.kind == 2) = true := by rw [h1]; rfl
        simp only [ep, eg, ek, ek2, cond_true, cond_false, er, e1, e2, e3, e4, Option.bind_some, Option.isSome_some, Bool.or_true, Option.getD_some]
        rw [e5, e6]
        have ed : deny s.es d = (((ov s.es d.by_ d.to &&& 2#32) == 0#32) || ((d.label.parts &&& ~~~ov s.es d.by_ d.label.level) != 0#32)) := by unfold deny; rw [ek]; rfl
        rw [← ed]
        cases deny s.es d with
        | true => simp only [cond_true, hc]; exact ⟨by first | rfl | trivial, by first | rfl | trivial⟩
        | false => simp only [cond_false, hc]; exact ⟨by first | rfl | trivial, by first | rfl | trivial⟩
      · have ep : pas d = false := by unfold pas; rw [h1]; rfl
        have ek : (d.kind == 1) = false := by rw [h1]; rfl
        have ek2 : (d.kind == 2) = false := by rw [h1]; rfl
        have ek3 : (d.kind == 3) = true := by rw [h1]; rfl
        simp only [ep, ek, ek2, ek3, cond_true, cond_false, hlen]
        cases hn : s.n == 14 with
        | true =>
          have hn' : s.n = 14 := by simpa using hn
          have : (((s.n : Nat) : Int) == 14) = true := by rw [beq_iff_eq]; omega
          simp only [this, cond_true, hc]; exact ⟨by first | rfl | trivial, by first | rfl | trivial⟩
        | false =>
          have hn' : s.n ≠ 14 := by simpa using hn
          have : (((s.n : Nat) : Int) == 14) = false := by rw [beq_eq_false_iff_ne]; omega
          have e1 := hG.cell h2.1 h2.2 (show 0 ≤ ((s.n : Nat) : Int) by omega) (by omega)
          have e2 : decide ((0 : Int) ≤ (14 : Int) ∧ (14 : Int) ≤ 1048576) = true := by decide
          simp only [this, cond_false, er, e1, e2, Option.bind_some, cond_true, List.length_set, hlen, Int.toNat_natCast]
          rw [decide_eq_true (by omega), cond_true, hc]
          exact ⟨by first | rfl | trivial, by first | rfl | trivial⟩
      · obtain ⟨h5, h6⟩ := h3 (by omega)
        have ep : pas d = false := by unfold pas; rw [h1]; rfl
        have e1 := hG.cell h2.1 h2.2 h5.1 (show d.to < 14 by omega)
        have ek : (d.kind == 1) = false := by rw [h1]; rfl
        have ek2 : (d.kind == 2) = false := by rw [h1]; rfl
        have ek3 : (d.kind == 3) = false := by rw [h1]; rfl
        have ek4 : (d.kind == 4) = true := by rw [h1]; rfl
        simp only [ep, ek, ek2, ek3, ek4, cond_true, cond_false, er, e1, Option.bind_some, hc]
        exact ⟨by first | rfl | trivial, by first | rfl | trivial⟩

theorem abad_ref (n : Nat) (d : Deed) : abad n d = (((!here n d.by_) || ((d.kind != (3 : Int)) && ((!here n d.to) || (d.to == d.by_)))) || (((((d.kind == (1 : Int)) || (d.kind == (2 : Int))) && (!here n d.label.level)) || ((d.kind == (1 : Int)) && (d.label.level == d.by_))) || ((d.kind == (2 : Int)) && (d.label.level == d.to)))) := by
  unfold abad pas gets
  have e1 : (d.by_ == d.to) = (d.to == d.by_) := by rw [Bool.eq_iff_iff, beq_iff_eq, beq_iff_eq]; omega
  rw [e1]
  congr 1
  by_cases h1 : d.kind = 1
  · rw [h1]
    have q1 : ((1 : Int) == 1) = true := rfl
    have q2 : ((1 : Int) == 2) = false := rfl
    simp only [q1, q2, cond_false, Bool.true_or, Bool.true_and, Bool.false_and, Bool.or_false]
  · by_cases h2 : d.kind = 2
    · rw [h2]
      have q1 : ((2 : Int) == 1) = false := rfl
      have q2 : ((2 : Int) == 2) = true := rfl
      simp only [q1, q2, cond_true, Bool.false_or, Bool.true_and, Bool.false_and, Bool.or_false]
    · rw [beq_eq_false_iff_ne.2 h1, beq_eq_false_iff_ne.2 h2]
      simp
theorem drops {es : List Edge} (a b : Int) (w : BitVec 32) {j : Nat} (hj : j < es.length) : ((es.take j).map (drp a b w) ++ es.drop j)[j]? = some es[j] ∧ ((es.take j).map (drp a b w) ++ es.drop j).set j (drp a b w es[j]) = (es.take (j + 1)).map (drp a b w) ++ es.drop (j + 1) := by
  have hl : ((es.take j).map (drp a b w)).length = j := by rw [List.length_map, List.length_take]; omega
  rw [List.drop_eq_getElem_cons hj]
  refine ⟨by rw [List.getElem?_append_right (by omega), hl, Nat.sub_self]; rfl, ?_⟩
  rw [List.set_append_right _ _ (by omega), hl, Nat.sub_self, List.set_cons_zero, ← List.take_append_getElem hj, List.map_append, List.append_assoc]
  rfl

theorem ref_step {s : LS} {j : Nat} (d : Deed) (h : Ok s j) (hj : j ≤ 30) (w : List Deed) (i : Int) (hwi : geti w i = some d) (nx : (List Edge × List Int × Int) → Option Graph) :
    syllogistref_Grant_b78 w 200 i s.es s.cs (s.n : Int) nx = nx ((step d s).es, (step d s).cs, ((step d s).n : Int)) := by
  have hcs := h.cs
  have hes := h.es
  have h84 : ∀ e l c, syllogistref_Grant_k89 s.cs nx e l c = nx (l, s.cs ++ [e], c) := fun e l c => by
    unfold syllogistref_Grant_k89
    rw [decide_eq_true (by simp only [List.length_cons, List.length_nil]; omega), cond_true]
  have hG := h.gr
  have h14 := hG.n14
  have hin : ∀ a b, syllogistref_In a b = some ((a ||| b) == b) := fun _ _ => rfl
  have hcap : ∀ e : Edge, decide (s.es.length + ([e] : List Edge).length ≤ 5864062014805) = true := fun e => decide_eq_true (by simp only [List.length_cons, List.length_nil]; omega)
  unfold syllogistref_Grant_b78 step say
  rw [hwi, Option.bind_some]
  simp only [c2_eq, over_eq, hin, Option.bind_some, Option.isSome_some, Bool.or_true, cond_true, Option.getD_some, hcap, h84]
  cases hk : kbad d with
  | true =>
    unfold kbad at hk
    rw [hk, cond_true, cond_true]
  | false =>
    have hk' := hk
    unfold kbad at hk'
    rw [hk', cond_false, cond_false]
    cases ha : abad s.n d with
    | true =>
      rw [cond_true]
      rw [abad_ref, Bool.or_eq_true] at ha
      cases hA : ((!here s.n d.by_) || ((d.kind != (3 : Int)) && ((!here s.n d.to) || (d.to == d.by_)))) with
      | true => rw [cond_true]
      | false =>
        rw [hA] at ha
        rw [cond_false, ha.resolve_left (by simp), cond_true]
    | false =>
      have ha' := ha
      rw [abad_ref, Bool.or_eq_false_iff] at ha'
      rw [ha'.1, ha'.2]
      simp only [cond_false]
      obtain ⟨h1, h2, h3, h4⟩ := may hk ha
      rcases h1 with h1 | h1 | h1 | h1
      · have ep : pas d = true := by unfold pas; rw [h1]; rfl
        have eg : gets d = d.by_ := by unfold gets; rw [h1]; rfl
        have ek : (d.kind == 1) = true := by rw [h1]; rfl
        have ed : deny s.es d = (((ov s.es d.by_ d.to &&& 1#32) == 0#32) || ((d.label.parts &&& ~~~ov s.es d.to d.label.level) != 0#32)) := by unfold deny; rw [ek]; rfl
        simp only [ep, eg, ek, cond_true, in_bit one_bit, Bool.not_not, ← andn_or]
        change (bif ((ov s.es d.by_ d.to &&& 1#32) == 0#32) || ((d.label.parts &&& ~~~ov s.es d.to d.label.level) != 0#32) then _ else _) = _
        rw [← ed]
        cases deny s.es d <;> rfl
      · have ep : pas d = true := by unfold pas; rw [h1]; rfl
        have eg : gets d = d.to := by unfold gets; rw [h1]; rfl
        have ek : (d.kind == 1) = false := by rw [h1]; rfl
        have ek2 : (d.kind == 2) = true := by rw [h1]; rfl
        have ed : deny s.es d = (((ov s.es d.by_ d.to &&& 2#32) == 0#32) || ((d.label.parts &&& ~~~ov s.es d.by_ d.label.level) != 0#32)) := by unfold deny; rw [ek]; rfl
        simp only [ep, eg, ek, ek2, cond_true, cond_false, in_bit two_bit, Bool.not_not, ← andn_or]
        change (bif ((ov s.es d.by_ d.to &&& 2#32) == 0#32) || ((d.label.parts &&& ~~~ov s.es d.by_ d.label.level) != 0#32) then _ else _) = _
        rw [← ed]
        cases deny s.es d <;> rfl
      · have ep : pas d = false := by unfold pas; rw [h1]; rfl
        have ek : (d.kind == 1) = false := by rw [h1]; rfl
        have ek2 : (d.kind == 2) = false := by rw [h1]; rfl
        have ek3 : (d.kind == 3) = true := by rw [h1]; rfl
        simp only [ep, ek, ek2, ek3, cond_true, cond_false]
        cases hn : s.n == 14 with
        | true =>
          have hn' : s.n = 14 := by simpa using hn
          rw [decide_eq_true (by omega), cond_true, cond_true]
        | false =>
          have hn' : s.n ≠ 14 := by simpa using hn
          rw [decide_eq_false (by omega), cond_false, cond_false, w64_succ (by omega)]
      · have ep : pas d = false := by unfold pas; rw [h1]; rfl
        have ek : (d.kind == 1) = false := by rw [h1]; rfl
        have ek2 : (d.kind == 2) = false := by rw [h1]; rfl
        have ek3 : (d.kind == 3) = false := by rw [h1]; rfl
        simp only [ep, ek, ek2, ek3, cond_false]
        refine while_rec (fun t => (((t : Nat) : Int), (s.es.take t).map (drp d.by_ d.to d.label.parts) ++ s.es.drop t)) s.es.length _ (fun t nx' ht => ?_) (fun nx' => ?_) (by omega) (by simp)
        · unfold syllogistref_Grant_b133
          dsimp only
          obtain ⟨q1, q2⟩ := drops d.by_ d.to d.label.parts ht
          have q3 : ((s.es.take t).map (drp d.by_ d.to d.label.parts) ++ s.es.drop t).length = s.es.length := by
            rw [List.length_append, List.length_map, List.length_take, List.length_drop]; omega
          rw [q3, decide_eq_true (by omega), cond_true, geti_of q1, Option.bind_some, w64_succ (by omega), ← q2, Int.toNat_natCast]
          change (bif hit s.es[t] d.by_ d.to then _ else _) = _
          unfold drp
          cases hh : hit s.es[t] d.by_ d.to with
          | true => rfl
          | false =>
            rw [cond_false, cond_false]
            congr 2
            have q4 := List.getElem?_eq_some_iff.1 q1
            obtain ⟨q5, q6⟩ := q4
            unfold drp at q5 q6
            conv => rhs; rw [← q6]
            rw [List.set_getElem_self]
        · unfold syllogistref_Grant_b133
          dsimp only
          rw [List.take_length, List.drop_length, List.append_nil, List.length_map, decide_eq_false (by omega), cond_false]
          unfold syllogistref_Grant_k131
          rw [h84]

/-! ### The program's and the document's -/
def dDeed : Deed := { kind := 0, by_ := 0, to := 0, label := { level := 0, parts := 0#32 }, val := 0 }
def run (g : GMx) (es : List Edge) (n : Nat) (w : List Deed) : Nat → LS
  | 0 => { cs := [], g := g, es := es, n := n }
  | j + 1 => step (w[j]?.getD dDeed) (run g es n w j)
theorem run_ok {g : GMx} {es : List Edge} {n : Nat} (h : GR n g es) (he : es.length ≤ 20) (w : List Deed) (j : Nat) : Ok (run g es n w j) j := by
  induction j with
  | zero => exact ⟨h, rfl, he⟩
  | succ j ih => exact step_ok _ ih
def outE (es : List Edge) (i j : Nat) : List Edge := bif ov es i j != 0#32 then [{ src := (i : Int), to := (j : Int), rights := ov es i j }] else []
def out (es : List Edge) (n : Nat) : List Edge := apps n fun i => apps n fun j => outE es i j
theorem outE_len (es : List Edge) (i j : Nat) : (outE es i j).length ≤ 1 := by
  unfold outE
  cases ov es i j != 0#32 <;> simp
theorem apps_cut {α : Type} {f : Nat → List α} {n m : Nat} (h : n ≤ m) (h0 : ∀ j, n ≤ j → j < m → f j = []) : apps m f = apps n f := by
  induction m with
  | zero => obtain rfl : n = 0 := by omega
            rfl
  | succ m ih =>
    by_cases e : n = m + 1
    · subst e; rfl
    · rw [apps, h0 m (by omega) (by omega), List.append_nil]
      exact ih (by omega) fun j h1 h2 => h0 j h1 (by omega)
theorem play_eq {g : GMx} {es : List Edge} {n : Nat} {m : Int} (hb : grant_build m es = some (g, 0)) (h : GR n g es) (he : es.length ≤ 20) (w : List Deed) (hw : w.length ≤ 30) :
    grant_Play m es w = some ({ codes := (run g es n w w.length).cs, n := ((run g es n w w.length).n : Int), edges := out (run g es n w w.length).es (run g es n w w.length).n }, 0) := by
  unfold grant_Play
  rw [decide_eq_false (by omega), cond_false, hb, Option.bind_some]
  simp only [bne_self_eq_false, cond_false]
  rw [for_rec (s := (([] : List Int), g)) (n := w.length) (fun j => ((run g es n w j).cs, (run g es n w j).g)) rfl rfl (fun j nx hj => by
    unfold grant_Play_b93
    dsimp only
    rw [geti_d dDeed hj, Option.bind_some]
    have ho := run_ok h he w j
    obtain ⟨e1, e2⟩ := do_eq (w[j]?.getD dDeed) ho
    change (grant_graph_do _ (w[j]?.getD dDeed)).bind _ = _
    rw [e1, Option.bind_some]
    dsimp only
    rw [decide_eq_true (by have := ho.cs; simp only [List.length_cons, List.length_nil]; omega), cond_true]
    rw [← e2]
    rfl)]
  have ho := run_ok h he w w.length
  generalize run g es n w w.length = s at *
  dsimp only
  unfold grant_Play_k45
  have hG := ho.gr
  have h14 := hG.n14
  rw [hG.len]
  rw [for_apps (n := s.n) (fun i => apps 14 fun j => outE s.es i j) rfl (fun i l nx hi hl => by
    unfold grant_Play_b63
    have hrow := hG.row i hi
    have hll : l.length ≤ i * 14 := by
      rw [hl]
      refine apps_len fun a _ => ?_
      have := apps_len (n := 14) (c := 1) (f := fun j => outE s.es a j) (fun j _ => outE_len _ _ _)
      omega
    have hi14 : i * 14 ≤ 14 * 14 := by omega
    rw [hG.rowAt (by omega) (by omega), Option.bind_some, Int.toNat_natCast, hrow]
    rw [decide_eq_true (by omega), cond_true]
    rw [for_rec (n := 14) (fun j => l ++ apps j fun j => outE s.es i j) rfl (by simp [apps]) (fun j nx' hj => by
      unfold grant_Play_b82
      have e1 := hG.cell (a := (i : Int)) (b := (j : Int)) (by omega) (by omega) (by omega) (by omega)
      have e2 := hG.val i j hi hj
      rw [Int.toNat_natCast, Int.toNat_natCast] at e1
      have hll2 : (apps j fun j => outE s.es i j).length ≤ j * 1 := apps_len fun j _ => outE_len _ _ _
      rw [e1, Option.bind_some, e2, apps]
      conv => rhs; rw [outE]
      cases hz : ov s.es i j != 0#32 with
      | true => rw [cond_true, cond_true, decide_eq_true (by simp only [List.length_append, List.length_cons, List.length_nil]; omega), cond_true, List.append_assoc]
      | false => rw [cond_false, cond_false, List.append_nil])]
    rfl)]
  unfold grant_Play_k55
  rw [hG.len]
  have : (apps s.n fun i => apps 14 fun j => outE s.es i j) = out s.es s.n := by
    unfold out
    refine apps_congr fun i hi => apps_cut h14 fun j h1 h2 => ?_
    unfold outE
    rw [ov_zero fun e he => by
      rw [← Bool.not_eq_true, hit_iff]
      have := hG.ends e he
      omega]
    rfl
  rw [this]
theorem grant_eq {g : GMx} {es : List Edge} {n : Nat} (h : GR n g es) (he : es.length ≤ 20) (w : List Deed) (hw : w.length ≤ 30) :
    syllogistref_Grant 200 (n : Int) es w = some { codes := (run g es n w w.length).cs, n := ((run g es n w w.length).n : Int), edges := out (run g es n w w.length).es (run g es n w w.length).n } := by
  unfold syllogistref_Grant
  rw [decide_eq_true (by simp only [List.length_nil]; omega), cond_true, List.nil_append]
  rw [for_rec (s := (es, ([] : List Int), (n : Int))) (n := w.length) (fun j => ((run g es n w j).es, (run g es n w j).cs, ((run g es n w j).n : Int))) rfl rfl (fun j nx hj => by
    dsimp only
    rw [ref_step (w[j]?.getD dDeed) (run_ok h he w j) (by omega) w j (geti_d dDeed hj)]
    rfl)]
  have ho := run_ok h he w w.length
  generalize run g es n w w.length = s at *
  dsimp only
  have hG := ho.gr
  have h14 := hG.n14
  unfold syllogistref_Grant_k32
  rw [decide_eq_true (by omega), cond_true]
  rw [for_apps (n := s.n) (fun i => apps s.n fun j => outE s.es i j) rfl (fun i l nx hi hl => by
    unfold syllogistref_Grant_b50
    have hll : l.length ≤ i * 14 := by
      rw [hl]
      refine apps_len fun a _ => ?_
      have := apps_len (n := s.n) (c := 1) (f := fun j => outE s.es a j) (fun j _ => outE_len _ _ _)
      omega
    have hi14 : i * 14 ≤ 14 * 14 := by omega
    rw [decide_eq_true (by omega), cond_true]
    rw [for_rec (n := s.n) (fun j => l ++ apps j fun j => outE s.es i j) rfl (by simp [apps]) (fun j nx' hj => by
      unfold syllogistref_Grant_b65
      have hll2 : (apps j fun j => outE s.es i j).length ≤ j * 1 := apps_len fun j _ => outE_len _ _ _
      rw [over_eq, Option.bind_some, Option.bind_some, apps]
      conv => rhs; rw [outE]
      cases hz : ov s.es i j != 0#32 with
      | true => rw [cond_true, cond_true, decide_eq_true (by simp only [List.length_append, List.length_cons, List.length_nil]; omega), cond_true, List.append_assoc]
      | false => rw [cond_false, cond_false, List.append_nil])]
    rfl)]
  rfl

/-! ### The first matrix -/
def gd (n : Nat) (e : Edge) : Prop := 0 ≤ e.src ∧ e.src < n ∧ 0 ≤ e.to ∧ e.to < n ∧ e.src ≠ e.to
def gr (m : Nat) (es : List Edge) : Nat → GMx
  | 0 => tab m fun _ => List.replicate 14 0#32
  | t + 1 => match es[t]? with
    | some e => upd (gr m es t) e.src.toNat e.to.toNat (ge (gr m es t) e.src.toNat e.to.toNat ||| e.rights)
    | none => gr m es t
theorem gr_len (m : Nat) (es : List Edge) (t : Nat) : (gr m es t).length = m := by
  induction t with
  | zero => exact tab_len
  | succ t ih =>
    rw [gr]
    split
    · rw [upd_len, ih]
    · exact ih
theorem gr_row (m : Nat) (es : List Edge) (hall : ∀ e ∈ es, gd m e) (t : Nat) (i : Nat) (hi : i < m) : (rwg (gr m es t) i).length = 14 := by
  induction t with
  | zero => unfold gr rwg; rw [tab_getD [] hi]; rfl
  | succ t ih =>
    rw [gr]
    split
    · rename_i e he
      obtain ⟨g1, g2, _⟩ := hall e (List.mem_of_getElem? he)
      rw [upd_row (by rw [gr_len]; omega), ih]
    · exact ih
theorem gr_ok (m : Nat) (hm : m ≤ 6) (es : List Edge) (hall : ∀ e ∈ es, gd m e) (t : Nat) (ht : t ≤ es.length) : GR m (gr m es t) (es.take t) := by
  induction t with
  | zero =>
    refine ⟨tab_len, fun i hi => gr_row m es hall 0 i hi, by omega, fun a b ha hb => ?_, fun e he => by simp at he⟩
    unfold gr ge rwg
    rw [tab_getD [] ha, List.take_zero, ov, List.getElem?_replicate]
    split <;> rfl
  | succ t ih =>
    have hlt : t < es.length := by omega
    have hg := hall es[t] (List.getElem_mem hlt)
    obtain ⟨g1, g2, g3, g4, _⟩ := hg
    rw [gr, List.getElem?_eq_getElem hlt, ← List.take_append_getElem hlt]
    simp only
    obtain ⟨a, ea⟩ := nat_of g1
    obtain ⟨b, eb⟩ := nat_of g3
    have e1 : es[t] = { src := (a : Int), to := (b : Int), rights := es[t].rights } := by rw [← ea, ← eb]
    rw [ea, eb, Int.toNat_natCast, Int.toNat_natCast]
    have := (ih (by omega)).or (a := a) (b := b) es[t].rights (by omega) (by omega)
    rw [← e1] at this
    exact this
theorem build_ok (n : Int) (es : List Edge) : ∃ c, syllogistref_EdgesCheck n es = some c ∧ (c ≠ 0 → grant_build n es = some ([], c)) ∧ (c = 0 → ∃ m : Nat, ∃ g, n = m ∧ es.length ≤ 20 ∧ grant_build n es = some (g, 0) ∧ GR m g es) := by
  unfold grant_build syllogistref_EdgesCheck
  cases hb : (((decide (n < (1 : Int))) || (decide (n > (6 : Int)))) || (decide ((es.length : Int) > (20 : Int)))) with
  | true => exact ⟨1, rfl, fun _ => rfl, by simp⟩
  | false =>
    simp only [Bool.or_eq_false_iff, decide_eq_false_iff_not] at hb
    obtain ⟨m, rfl⟩ : ∃ m : Nat, n = m := ⟨n.toNat, by omega⟩
    have hm : m ≤ 6 := by omega
    simp only [cond_false]
    rw [decide_eq_true (by omega), cond_true, Int.toNat_natCast]
    have hbad : ∀ e : Edge, (((((decide (e.src < (0 : Int))) || (decide (e.src ≥ (m : Int)))) || (decide (e.to < (0 : Int)))) || (decide (e.to ≥ (m : Int)))) || (e.src == e.to)) = true ↔ ¬gd m e := fun e => by
      unfold gd
      simp only [Bool.or_eq_true, decide_eq_true_eq, beq_iff_eq]
      omega
    have hbad2 : ∀ e : Edge, (((decide ((if e.to < e.src then e.to else e.src) < (0 : Int))) || (decide ((if e.to > e.src then e.to else e.src) ≥ (m : Int)))) || (e.src == e.to)) = true ↔ ¬gd m e := fun e => by
      unfold gd
      simp only [Bool.or_eq_true, decide_eq_true_eq, beq_iff_eq]
      by_cases h : e.to < e.src
      · rw [if_pos h, if_neg (by omega)]; omega
      · rw [if_neg h]
        by_cases h' : e.to > e.src
        · rw [if_pos h']; omega
        · rw [if_neg h']; omega
    have hrow0 : forK (σ := (List (List (BitVec 32)))) (fun i s nx_ => grant_build_b53 i s nx_) (fun s => grant_build_k18 (m : Int) es s) ((((List.replicate m ([] : List (BitVec 32))).length : Int) - (0 : Int)).toNat) (0 : Int) (List.replicate m ([] : List (BitVec 32))) = grant_build_k18 (m : Int) es (gr m es 0) :=
      for_tab (n := m) (fun _ => List.replicate 14 0#32) (by simp) (fun j s nx hj hs => by
        unfold grant_build_b53
        have e2 : decide ((0 : Int) ≤ (14 : Int) ∧ (14 : Int) ≤ 1048576) = true := by decide
        rw [e2, cond_true, geti_at (by omega), Option.bind_some, Int.toNat_natCast]
        rfl)
    rw [hrow0]
    unfold grant_build_k18
    rw [for_out (n := es.length) (fun j => (es[j]?.map fun e => ((((decide (e.src < (0 : Int))) || (decide (e.src ≥ (m : Int)))) || (decide (e.to < (0 : Int)))) || (decide (e.to ≥ (m : Int)))) || (e.src == e.to)).getD false) (some 2) rfl (fun j nx hj => by
      unfold syllogistref_EdgesCheck_b7
      rw [geti_at hj, Option.bind_some, List.getElem?_eq_getElem hj]
      simp only [Option.getD_some, Option.map_some])]
    unfold syllogistref_EdgesCheck_k3
    by_cases hall : ∀ e ∈ es, gd m e
    · have h0 : anyN es.length (fun j => (es[j]?.map fun e => ((((decide (e.src < (0 : Int))) || (decide (e.src ≥ (m : Int)))) || (decide (e.to < (0 : Int)))) || (decide (e.to ≥ (m : Int)))) || (e.src == e.to)).getD false) = false := anyN_false.2 fun j hj => by
        rw [List.getElem?_eq_getElem hj]
        simp only [Option.map_some, Option.getD_some]
        rw [← Bool.not_eq_true, hbad]
        exact fun h => h (hall _ (List.getElem_mem hj))
      rw [h0, cond_false]
      refine ⟨0, rfl, fun h => absurd rfl h, fun _ => ⟨m, gr m es es.length, rfl, by omega, ?_, ?_⟩⟩
      · rw [for_rec (n := es.length) (fun t => gr m es t) rfl rfl (fun t nx ht => by
          unfold grant_build_b38
          have hgd := hall es[t] (List.getElem_mem ht)
          have hf : (((decide ((if es[t].to < es[t].src then es[t].to else es[t].src) < (0 : Int))) || (decide ((if es[t].to > es[t].src then es[t].to else es[t].src) ≥ (m : Int)))) || (es[t].src == es[t].to)) = false := by
            rw [← Bool.not_eq_true, hbad2]; exact fun h => h hgd
          obtain ⟨g1, g2, g3, g4, _⟩ := hgd
          have hG := gr_ok m hm es hall t (by omega)
          rw [geti_at ht, Option.bind_some, hf, cond_false, hG.rowAt g1 g2, Option.bind_some, hG.cell g1 g2 g3 (by omega), Option.bind_some]
          conv => rhs; rw [gr, List.getElem?_eq_getElem ht]
          rfl)]
        rfl
      · have := gr_ok m hm es hall es.length (Nat.le_refl _)
        rwa [List.take_length] at this
    · have hex : ∃ k, k < es.length ∧ (∃ hk : k < es.length, ¬ gd m es[k]) ∧ ∀ i, i < k → ∀ hi : i < es.length, gd m es[i] := by
        have h1 : ∃ k, ∃ hk : k < es.length, ¬ gd m es[k] := by
          apply Classical.byContradiction
          intro hno
          refine hall fun e he => ?_
          obtain ⟨k, hk, rfl⟩ := List.getElem_of_mem he
          exact Classical.byContradiction fun h => hno ⟨k, hk, h⟩
        obtain ⟨k0, hk0⟩ := h1
        obtain ⟨k, ⟨hk, hkb⟩, hmin⟩ := least_nat (P := fun k => ∃ hk : k < es.length, ¬ gd m es[k]) hk0
        exact ⟨k, hk, ⟨hk, hkb⟩, fun i hi hil => Classical.byContradiction fun h => absurd (hmin i ⟨hil, h⟩) (by omega)⟩
      obtain ⟨k, hk, ⟨_, hkb⟩, hlt⟩ := hex
      have h0 : anyN es.length (fun j => (es[j]?.map fun e => ((((decide (e.src < (0 : Int))) || (decide (e.src ≥ (m : Int)))) || (decide (e.to < (0 : Int)))) || (decide (e.to ≥ (m : Int)))) || (e.src == e.to)).getD false) = true := anyN_iff.2 ⟨k, hk, by
        rw [List.getElem?_eq_getElem hk]
        simp only [Option.map_some, Option.getD_some]
        rw [hbad]; exact hkb⟩
      rw [h0, cond_true]
      refine ⟨2, rfl, fun _ => ?_, by simp⟩
      refine for0_q (n := es.length) (Q := fun o => o = some (([] : List (List (BitVec 32))), (2 : Int))) (fun t (g : List (List (BitVec 32))) => t ≤ k ∧ GR m g (es.take t)) rfl (gr m es 0) ⟨by omega, ?_⟩ (fun t g nx ht hI hn => ?_) (fun g hI => by omega)
      · have := gr_ok m hm [] (fun e he => by simp at he) 0 (Nat.le_refl _)
        simpa [gr] using this
      · unfold grant_build_b38
        rw [geti_at ht, Option.bind_some]
        by_cases e : t = k
        · subst e
          rw [(hbad2 es[t]).2 hkb, cond_true]
        · have hgd := hlt t (by omega) ht
          have hf : (((decide ((if es[t].to < es[t].src then es[t].to else es[t].src) < (0 : Int))) || (decide ((if es[t].to > es[t].src then es[t].to else es[t].src) ≥ (m : Int)))) || (es[t].src == es[t].to)) = false := by
            rw [← Bool.not_eq_true, hbad2]; exact fun h => h hgd
          obtain ⟨g1, g2, g3, g4, _⟩ := hgd
          have hG := hI.2
          rw [hf, cond_false, hG.rowAt g1 g2, Option.bind_some, hG.cell g1 g2 g3 (by omega), Option.bind_some]
          refine hn _ ⟨by omega, ?_⟩
          obtain ⟨a, ea⟩ := nat_of g1
          obtain ⟨b, eb⟩ := nat_of g3
          have e1 : es[t] = { src := (a : Int), to := (b : Int), rights := es[t].rights } := by rw [← ea, ← eb]
          rw [← List.take_append_getElem ht, ea, eb, Int.toNat_natCast, Int.toNat_natCast]
          have := hG.or (a := a) (b := b) es[t].rights (by omega) (by omega)
          rw [← e1] at this
          exact this

theorem codes_rf (a : List Int) : syllogistref_Codes a a = some true := by
  unfold syllogistref_Codes syllogistref_Codes_b7 syllogistref_Codes_k3
  rw [lists_eq a a, decide_eq_true rfl]
theorem edges_rf (a : List Edge) : syllogistref_Edges a a = some true := by
  unfold syllogistref_Edges
  rw [show ((a.length : Int) != (a.length : Int)) = false from bne_self_eq_false _, cond_false]
  rw [for_rec (s := ()) (n := a.length) (fun _ => ()) rfl rfl (fun j nx hj => by
    unfold syllogistref_Edges_b7
    rw [geti_at hj, Option.bind_some, Option.bind_some]
    simp)]
  rfl
theorem grantPlays_true (_fuel : Nat) (n : Int) (es : List Edge) (w : List Deed) : syllogistlaw_GrantPlays 200 n es w = some true := by
  obtain ⟨c, e1, e2, e3⟩ := build_ok n es
  unfold syllogistlaw_GrantPlays
  rw [e1]
  have hbad : ∀ r3 x, r3 = (({ codes := [], n := 0, edges := [] } : Graph), x) → x ≠ 0 → syllogistlaw_GrantPlays_k15 n es w 200 r3 x = some true := by
    rintro _ x rfl hx
    unfold syllogistlaw_GrantPlays_k15 syllogistlaw_GrantPlays_k29
    rw [beq_eq_false_iff_ne.2 hx, cond_false]
    simp [codes_rf, edges_rf]
  cases hb : decide ((w.length : Int) > (30 : Int)) with
  | true =>
    have : grant_Play n es w = some ({ codes := [], n := 0, edges := [] }, 1) := by unfold grant_Play; rw [hb, cond_true]
    rw [this]
    simp only [Option.bind_some, cond_true]
    exact hbad _ _ rfl (by decide)
  | false =>
    simp only [Option.bind_some, cond_false]
    by_cases hr : c = 0
    · have hb' := of_decide_eq_false hb
      subst hr
      obtain ⟨m, g, rfl, h1, h2, h3⟩ := e3 rfl
      rw [play_eq h2 h3 h1 w (by omega)]
      simp only [Option.bind_some]
      unfold syllogistlaw_GrantPlays_k15 syllogistlaw_GrantPlays_k29
      rw [beq_self_eq_true, cond_true, grant_eq h3 h1 w (by omega)]
      simp [codes_rf, edges_rf]
    · have : grant_Play n es w = some ({ codes := [], n := 0, edges := [] }, c) := by
        unfold grant_Play
        rw [hb, cond_false, e2 hr, Option.bind_some, show (c != 0) = true from by simpa using hr, cond_true]
      rw [this]
      simp only [Option.bind_some]
      exact hbad _ _ rfl hr
end Go.Proofs.Ytafaimklnnpkiaa.Sy
