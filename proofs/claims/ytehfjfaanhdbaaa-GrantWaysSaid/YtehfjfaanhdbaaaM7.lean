/- Deeds: what the replay does with a script whose every deed is allowed: the plain law; no program in sight. -/
import Derived.Test.YtehfjfaanhdbaaaM6
namespace Go.Proofs.Ytehfjfaanhdbaaa.Sy
set_option linter.unusedVariables false

abbrev GS := List Edge × Nat
def HB (es : List Edge) (a o : Nat) (w : BitVec 32) : Prop := ∀ c, w.getLsbD c = true → PE es a o c
def ed (a o : Nat) (w : BitVec 32) : Edge := { src := (a : Int), to := (o : Int), rights := w }
def dT (b a o : Nat) (w : BitVec 32) : Deed := { kind := (1 : Int), by_ := (b : Int), to := (a : Int), label := ({ level := (o : Int), parts := w } : Label), val := (0 : Int) }
def dG (b a o : Nat) (w : BitVec 32) : Deed := { kind := (2 : Int), by_ := (b : Int), to := (a : Int), label := ({ level := (o : Int), parts := w } : Label), val := (0 : Int) }
def dM (b : Nat) : Deed := { kind := (3 : Int), by_ := (b : Int), to := (0 : Int), label := ({ level := (0 : Int), parts := (0#32) } : Label), val := (0 : Int) }

/-- One deed that is allowed, and what is there then. -/
inductive Stp (s : GS) : Deed → GS → Prop
  | take {b a o : Nat} {w : BitVec 32} : b < s.2 → a < s.2 → o < s.2 → a ≠ b → o ≠ b → PE s.1 b a 0 → HB s.1 a o w → Stp s (dT b a o w) (s.1 ++ [ed b o w], s.2)
  | grant {b a o : Nat} {w : BitVec 32} : b < s.2 → a < s.2 → o < s.2 → a ≠ b → o ≠ a → PE s.1 b a 1 → HB s.1 b o w → Stp s (dG b a o w) (s.1 ++ [ed a o w], s.2)
  | make {b : Nat} : b < s.2 → s.2 < 14 → Stp s (dM b) (s.1 ++ [ed b s.2 3#32], s.2 + 1)

/-- Deeds one after another. -/
inductive Run (s0 : GS) : List Deed → GS → Prop
  | nil : Run s0 [] s0
  | snoc {l : List Deed} {s s' : GS} {d : Deed} : Run s0 l s → Stp s d s' → Run s0 (l ++ [d]) s'

theorem one_bit (i : Nat) : (1#32).getLsbD i = true ↔ i = 0 := by
  by_cases h : i < 32
  · have : ∀ i, i < 32 → ((1#32).getLsbD i = true ↔ i = 0) := by decide
    exact this i h
  · rw [BitVec.getLsbD_of_ge _ _ (by omega)]
    simp; omega
theorem two_bit (i : Nat) : (2#32).getLsbD i = true ↔ i = 1 := by
  by_cases h : i < 32
  · have : ∀ i, i < 32 → ((2#32).getLsbD i = true ↔ i = 1) := by decide
    exact this i h
  · rw [BitVec.getLsbD_of_ge _ _ (by omega)]
    simp; omega
theorem HB.one {es : List Edge} {a o : Nat} (h : PE es a o 0) : HB es a o 1#32 := fun c hc => by rw [(one_bit c).1 hc]; exact h
theorem HB.two {es : List Edge} {a o : Nat} (h : PE es a o 1) : HB es a o 2#32 := fun c hc => by rw [(two_bit c).1 hc]; exact h
theorem PE.left {es es' : List Edge} {a o c : Nat} (h : PE es a o c) : PE (es ++ es') a o c := by
  obtain ⟨e, h1, h2⟩ := h
  exact ⟨e, List.mem_append_left _ h1, h2⟩
theorem PE.last {es : List Edge} {a o c : Nat} {w : BitVec 32} (h : w.getLsbD c = true) : PE (es ++ [ed a o w]) a o c :=
  ⟨ed a o w, List.mem_append_right _ (List.mem_singleton_self _), rfl, rfl, h⟩

theorem over_in (es : List Edge) (a b : Nat) (w : BitVec 32) (h : HB es a b w) : ∃ r : BitVec 32, syllogistref_Over es a b = some r ∧ syllogistref_In w r = some true := by
  obtain ⟨r, e, hr⟩ := over_eq es a b
  refine ⟨r, e, ?_⟩
  unfold syllogistref_In
  rw [or_iff.2 fun c hc => (hr c).2 (h c hc)]

theorem c1_eq {i n : Nat} (h : i < n) : syllogistref_Grant_c1 (i : Int) (n : Int) = some true := by
  unfold syllogistref_Grant_c1
  rw [decide_eq_true (by omega), decide_eq_true (by omega)]
  rfl

theorem b78_ok {script : List Deed} {t : Nat} (ht : t < script.length) {s s' : GS} {codes : List Int} (hs : Stp s script[t] s') (he : s.1.length ≤ 1000) (hc : codes.length ≤ 1000)
    (nx : (List Edge × List Int × Int) → Option Graph) : syllogistref_Grant_b78 script 200 (t : Int) s.1 codes (s.2 : Int) nx = nx (s'.1, codes ++ [0], (s'.2 : Int)) := by
  unfold syllogistref_Grant_b78
  rw [geti_at ht, Option.bind_some]
  generalize script[t] = d at hs
  have hk : ∀ (l : List Edge) (c : Int), syllogistref_Grant_k89 codes nx (0 : Int) l c = nx (l, codes ++ [0], c) := fun l c => by
    unfold syllogistref_Grant_k89
    rw [decide_eq_true (by simp; omega), cond_true]
  cases hs with
  | @take b a o w h1 h2 h3 h4 h5 h6 h7 =>
    obtain ⟨r, e1, e2⟩ := over_in s.1 b a 1#32 (.one h6)
    obtain ⟨r', e3, e4⟩ := over_in s.1 a o w h7
    have q1 : ((a : Int) == (b : Int)) = false := by rw [beq_eq_false_iff_ne]; omega
    have q2 : ((o : Int) == (b : Int)) = false := by rw [beq_eq_false_iff_ne]; omega
    have q3 : (decide (s.1.length + ([({ src := (b : Int), to := (o : Int), rights := w } : Edge)] : List Edge).length ≤ 5864062014805)) = true := by rw [decide_eq_true (by simp; omega)]
    simp only [dT, c1_eq h1, c1_eq h2, c1_eq h3, e1, e2, e3, e4, q1, q2, q3, hk, Option.bind_some, Option.isSome_some, Option.getD_some]
    rfl
  | @grant b a o w h1 h2 h3 h4 h5 h6 h7 =>
    obtain ⟨r, e1, e2⟩ := over_in s.1 b a 2#32 (.two h6)
    obtain ⟨r', e3, e4⟩ := over_in s.1 b o w h7
    have q1 : ((a : Int) == (b : Int)) = false := by rw [beq_eq_false_iff_ne]; omega
    have q2 : ((o : Int) == (a : Int)) = false := by rw [beq_eq_false_iff_ne]; omega
    have q3 : (decide (s.1.length + ([({ src := (a : Int), to := (o : Int), rights := w } : Edge)] : List Edge).length ≤ 5864062014805)) = true := by rw [decide_eq_true (by simp; omega)]
    simp only [dG, c1_eq h1, c1_eq h2, c1_eq h3, e1, e2, e3, e4, q1, q2, q3, hk, Option.bind_some, Option.isSome_some, Option.getD_some]
    rfl
  | @make b h1 h2 =>
    have q1 : decide ((s.2 : Int) ≥ 14) = false := decide_eq_false (by omega)
    have q3 : (decide (s.1.length + ([({ src := (b : Int), to := (s.2 : Int), rights := 3#32 } : Edge)] : List Edge).length ≤ 5864062014805)) = true := by rw [decide_eq_true (by simp; omega)]
    have q4 : w64 ((s.2 : Int) + 1) = ((s.2 + 1 : Nat) : Int) := w64_succ (by omega)
    have c0 : syllogistref_Grant_c1 (0 : Int) (s.2 : Int) = some true := c1_eq (i := 0) (by omega)
    simp only [dM, c1_eq h1, c0, q1, q3, q4, hk, Option.bind_some, Option.isSome_some, Option.getD_some]
    rfl

theorem Stp.len {s s' : GS} {d : Deed} (h : Stp s d s') : s'.1.length = s.1.length + 1 := by
  cases h <;> simp
theorem Stp.le {s s' : GS} {d : Deed} (h : Stp s d s') : s.2 ≤ s'.2 ∧ ∀ a o c, PE s.1 a o c → PE s'.1 a o c := by
  cases h with
  | take => exact ⟨Nat.le_refl _, fun _ _ _ h => h.left⟩
  | grant => exact ⟨Nat.le_refl _, fun _ _ _ h => h.left⟩
  | make => exact ⟨Nat.le_succ _, fun _ _ _ h => h.left⟩
theorem Stp.nodrop {s s' : GS} {d : Deed} (h : Stp s d s') : d.kind ≠ 4 := by
  cases h <;> simp [dT, dG, dM]
theorem Run.nodrop {s0 s : GS} {l : List Deed} (h : Run s0 l s) : ∀ d ∈ l, d.kind ≠ 4 := by
  induction h with
  | nil => intro d hd; cases hd
  | snoc _ h2 ih =>
    intro d hd
    rcases List.mem_append.1 hd with hd | hd
    · exact ih d hd
    · rw [List.mem_singleton.1 hd]; exact h2.nodrop
/-- The same, with the state ahead of each deed by its place. -/
theorem Run.states {s0 s : GS} {l : List Deed} (h : Run s0 l s) : ∃ f : Nat → GS, f 0 = s0 ∧ f l.length = s ∧ (∀ t (ht : t < l.length), Stp (f t) l[t] (f (t + 1))) ∧ ∀ t, t ≤ l.length → (f t).1.length = s0.1.length + t := by
  induction h with
  | nil => exact ⟨fun _ => s0, rfl, rfl, fun t ht => absurd ht (by simp), fun t ht => by simp at ht; subst ht; rfl⟩
  | snoc h1 h2 ih =>
    rename_i l s s' d
    obtain ⟨f, f0, f1, f2, f3⟩ := ih
    refine ⟨fun t => if t ≤ l.length then f t else s', by simp [f0], by rw [List.length_append, List.length_singleton]; exact if_neg (by omega), fun t ht => ?_, fun t ht => ?_⟩
    · rw [List.length_append, List.length_singleton] at ht
      by_cases e : t < l.length
      · simp only [if_pos (Nat.le_of_lt e), if_pos (show t + 1 ≤ l.length by omega), List.getElem_append_left e]
        exact f2 t e
      · have : t = l.length := by omega
        subst this
        simp only [Nat.le_refl, if_pos, if_neg (show ¬l.length + 1 ≤ l.length by omega), List.getElem_concat_length]
        rw [f1]; exact h2
    · rw [List.length_append, List.length_singleton] at ht
      by_cases e : t ≤ l.length
      · simp only [if_pos e]; exact f3 t e
      · have : t = l.length + 1 := by omega
        subst this
        simp only [if_neg e]
        rw [h2.len, ← f1, f3 _ (Nat.le_refl _)]; omega

def RQ (s : GS) (o : Option Graph) : Prop := ∃ g : Graph, o = some g ∧ ∀ a b c : Nat, a < s.2 → b < s.2 → PE s.1 a b c → PE g.edges a b c
theorem replay {es : List Edge} {n : Nat} {l : List Deed} {s : GS} (hr : Run (es, n) l s) (hs : s.2 ≤ 14) (hl : l.length ≤ 100) (he : es.length ≤ 100) :
    RQ s (syllogistref_Grant 200 (n : Int) es l) := by
  obtain ⟨f, f0, f1, f2, f3⟩ := hr.states
  unfold syllogistref_Grant
  rw [decide_eq_true (by simp; omega), cond_true, List.nil_append]
  refine for0_q (n := l.length) (Q := RQ s) (fun t (st : List Edge × List Int × Int) => st.1 = (f t).1 ∧ st.2.2 = ((f t).2 : Int) ∧ st.2.1.length = t) rfl _ ⟨by rw [f0], by rw [f0], rfl⟩ (fun t st nx ht hI hn => ?_) (fun st hI => ?_)
  · obtain ⟨l1, codes, c⟩ := st
    obtain ⟨i1, i2, i3⟩ := hI
    simp only at i1 i2 i3 ⊢
    subst i1 i2
    have := f3 t (by omega)
    rw [b78_ok ht (f2 t ht) (by simp only at this; omega) (by omega)]
    exact hn _ ⟨rfl, rfl, by simp [i3]⟩
  · obtain ⟨l1, codes, c⟩ := st
    obtain ⟨i1, i2, i3⟩ := hI
    simp only at i1 i2 i3 ⊢
    rw [f1] at i1 i2
    subst i1 i2
    unfold syllogistref_Grant_k32
    rw [decide_eq_true (by omega), cond_true]
    refine for0_q (n := s.2) (Q := RQ s) (fun t (L : List Edge) => L.length ≤ t * 14 ∧ ∀ a b c : Nat, a < t → b < s.2 → PE s.1 a b c → PE L a b c) rfl ([] : List Edge) ⟨by simp, fun a b c h => by omega⟩ (fun t L nx ht hI hn => ?_) (fun L hI => ?_)
    · unfold syllogistref_Grant_b50
      rw [decide_eq_true (by omega), cond_true]
      obtain ⟨j1, j2⟩ := hI
      refine for0_q (n := s.2) (Q := RQ s) (fun t' (L : List Edge) => L.length ≤ t * 14 + t' ∧ (∀ a b c : Nat, a < t → b < s.2 → PE s.1 a b c → PE L a b c) ∧ ∀ b c : Nat, b < t' → PE s.1 t b c → PE L t b c) rfl _ ⟨by omega, j2, fun b c h => by omega⟩ (fun t' L' nx' ht' hI' hn' => ?_) (fun L' hI' => ?_)
      · obtain ⟨k1, k2, k3⟩ := hI'
        unfold syllogistref_Grant_b65
        obtain ⟨r, e, hr'⟩ := over_eq s.1 t t'
        rw [e, Option.bind_some, Option.bind_some]
        cases hz : (r != 0#32) with
        | true =>
          have : t * 14 ≤ 14 * 14 := by have : t ≤ 14 := by omega
                                        omega
          rw [cond_true, decide_eq_true (by simp; omega), cond_true]
          refine hn' _ ⟨by simp; omega, fun a b c h1 h2 h3 => (k2 a b c h1 h2 h3).left, fun b c h1 h2 => ?_⟩
          by_cases e : b = t'
          · subst e; exact PE.last ((hr' c).2 h2)
          · exact (k3 b c (by omega) h2).left
        | false =>
          rw [cond_false]
          refine hn' _ ⟨by omega, k2, fun b c h1 h2 => ?_⟩
          by_cases e : b = t'
          · subst e
            have hr0 : r = 0#32 := by simpa using hz
            have := (hr' c).2 h2
            rw [hr0] at this; simp at this
          · exact k3 b c (by omega) h2
      · obtain ⟨k1, k2, k3⟩ := hI'
        unfold syllogistref_Grant_k61
        refine hn _ ⟨by omega, fun a b c h1 h2 h3 => ?_⟩
        by_cases e : a = t
        · subst e; exact k3 b c h2 h3
        · exact k2 a b c (by omega) h2 h3
    · unfold syllogistref_Grant_k42
      exact ⟨_, rfl, hI.2⟩
end Go.Proofs.Ytehfjfaanhdbaaa.Sy
