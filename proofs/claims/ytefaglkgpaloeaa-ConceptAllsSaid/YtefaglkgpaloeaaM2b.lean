/- What stands next, and what is said: the plain laws; no program in sight. -/
import Derived.Test.YtefaglkgpaloeaaSyQ
import Derived.Test.YtefaglkgpaloeaaM1b
namespace Go.Proofs.Ytefaglkgpaloeaa.Sy
set_option linter.unusedVariables false

/-! ### Behind -/
def Bh (a b : BitVec 32) : Prop := ∃ i, a.getLsbD i = true ∧ b.getLsbD i = false ∧ ∀ j, j < i → a.getLsbD j = b.getLsbD j
theorem bit_lt {a : BitVec 32} {i : Nat} (h : a.getLsbD i = true) : i < 32 := by
  refine Classical.byContradiction fun hn => ?_
  rw [BitVec.getLsbD_of_ge _ _ (by omega)] at h; cases h
theorem Bh.irr {a : BitVec 32} : ¬Bh a a := by
  rintro ⟨i, h1, h2, _⟩; rw [h1] at h2; cases h2
theorem Bh.trans {a b c : BitVec 32} (h : Bh a b) (k : Bh b c) : Bh a c := by
  obtain ⟨i, h1, h2, h3⟩ := h
  obtain ⟨j, k1, k2, k3⟩ := k
  rcases Nat.lt_trichotomy i j with e | e | e
  · exact ⟨i, h1, by rw [← k3 i e]; exact h2, fun m hm => (h3 m hm).trans (k3 m (by omega))⟩
  · subst e; rw [h2] at k1; cases k1
  · exact ⟨j, by rw [h3 j e]; exact k1, k2, fun m hm => (h3 m (by omega)).trans (k3 m hm)⟩
theorem Bh.total (a b : BitVec 32) : a = b ∨ Bh a b ∨ Bh b a := by
  have key : ∀ m, (∀ j, j < m → a.getLsbD j = b.getLsbD j) ∨ Bh a b ∨ Bh b a := by
    intro m
    induction m with
    | zero => exact .inl fun j hj => by omega
    | succ m ih =>
      rcases ih with h | h
      · cases ha : a.getLsbD m <;> cases hb : b.getLsbD m
        · refine .inl fun j hj => ?_
          by_cases e : j = m
          · subst e; rw [ha, hb]
          · exact h j (by omega)
        · exact .inr (.inr ⟨m, hb, ha, fun j hj => (h j hj).symm⟩)
        · exact .inr (.inl ⟨m, ha, hb, h⟩)
        · refine .inl fun j hj => ?_
          by_cases e : j = m
          · subst e; rw [ha, hb]
          · exact h j (by omega)
      · exact .inr h
  rcases key 32 with h | h
  · refine .inl (bits_ext fun i => ?_)
    by_cases hi : i < 32
    · rw [h i hi]
    · rw [BitVec.getLsbD_of_ge _ _ (by omega), BitVec.getLsbD_of_ge _ _ (by omega)]
  · exact .inr h

def CL (k : Nat) (rows : List (BitVec 32)) (m c : BitVec 32) : Prop := ∀ j, c.getLsbD j = true ↔ j < k ∧ ∀ i (h : i < rows.length), sb m rows[i] → rows[i].getLsbD j = true
theorem CL.mk {k : Nat} {rows : List (BitVec 32)} {m o c : BitVec 32} (h1 : DnP rows m o) (h2 : UpP k rows o c) : CL k rows m c := by
  intro j
  rw [h2 j]
  refine and_congr_right fun _ => forall_congr' fun i => forall_congr' fun hi => ?_
  rw [h1 i]
  exact ⟨fun h hs => h ⟨hi, hs⟩, fun h ⟨_, hs⟩ => h hs⟩
theorem CL.uniq {k : Nat} {rows : List (BitVec 32)} {m c d : BitVec 32} (h1 : CL k rows m c) (h2 : CL k rows m d) : c = d := bits_ext fun i => (h1 i).trans (h2 i).symm
theorem CL.ext {k : Nat} {rows : List (BitVec 32)} {m c : BitVec 32} (h : CL k rows m c) (hm : bel k m) : sb m c := fun j hj => (h j).2 ⟨hm j hj, fun i hi hs => hs j hj⟩
theorem CL.min {k : Nat} {rows : List (BitVec 32)} {m c d : BitVec 32} (h : CL k rows m c) (hd : CL k rows d d) (hs : sb m d) : sb c d := fun j hj => by
  obtain ⟨h1, h2⟩ := (h j).1 hj
  exact (hd j).2 ⟨h1, fun i hi hdi => h2 i hi (hs.trans hdi)⟩
theorem CL.bel {k : Nat} {rows : List (BitVec 32)} {m c : BitVec 32} (h : CL k rows m c) : bel k c := fun j hj => ((h j).1 hj).1
theorem CL.idem {k : Nat} {rows : List (BitVec 32)} {m c : BitVec 32} (h : CL k rows m c) (hm : Sy.bel k m) : CL k rows c c := by
  intro j
  constructor
  · intro hj
    obtain ⟨h1, h2⟩ := (h j).1 hj
    exact ⟨h1, fun i hi hs => hs j hj⟩
  · rintro ⟨h1, h2⟩
    refine (h j).2 ⟨h1, fun i hi hs => h2 i hi fun b hb => ((h b).1 hb).2 i hi hs⟩

theorem cl_eq {k : Nat} (hk : k ≤ 6) (rows : List (BitVec 32)) (hr : rows.length ≤ 8) (m : BitVec 32) : ∃ o c, concept_down rows m = some o ∧ concept_up k rows o = some c ∧ CL k rows m c := by
  obtain ⟨o, e1, h1⟩ := down_eq rows hr m
  obtain ⟨c, e2, h2⟩ := up_eq hk rows hr o
  exact ⟨o, c, e1, e2, .mk h1 h2⟩
theorem rcl_eq {k : Nat} (hk : k ≤ 6) (rows : List (BitVec 32)) (hr : rows.length ≤ 8) (m : BitVec 32) : ∃ o c, syllogistref_Owners rows m = some o ∧ syllogistref_Up k rows o = some c ∧ CL k rows m c := by
  obtain ⟨o, e1, h1⟩ := owners_eq rows hr m
  obtain ⟨c, e2, h2⟩ := refUp_eq hk rows hr o
  exact ⟨o, c, e1, e2, .mk h1 h2⟩

theorem concepts_eq {k : Nat} (hk : k ≤ 6) (rows : List (BitVec 32)) (hr : rows.length ≤ 8) : ∃ l, syllogistref_Concepts k rows = some l ∧ l.length ≤ 64 ∧ ∀ c, c ∈ l ↔ CL k rows c c := by
  have h64 : 2 ^ k ≤ 2 ^ 6 := Nat.pow_le_pow_right (by omega) hk
  have hB : (1#32 <<< ((BitVec.ofInt 64 (k : Int))).toNat).toNat = 2 ^ k := by rw [ofInt64 (by omega), one_shl_toNat (by omega)]
  have hmem : ∀ c : BitVec 32, c ∈ apps (2 ^ k) (fun j => if tru (CL k rows (BitVec.ofNat 32 j) (BitVec.ofNat 32 j)) then [BitVec.ofNat 32 j] else []) ↔ CL k rows c c := by
    intro c
    rw [apps_mem]
    constructor
    · rintro ⟨j, hj, h⟩
      split at h
      · rename_i ht
        simp at h
        subst h
        exact tru_iff.1 ht
      · simp at h
    · intro h
      have hb := bel_toNat.1 h.bel
      refine ⟨c.toNat, hb, ?_⟩
      have : BitVec.ofNat 32 c.toNat = c := by simp
      rw [this, if_pos (tru_iff.2 h)]; simp
  have hlen : ∀ t, t ≤ 2 ^ k → (apps t (fun j => if tru (CL k rows (BitVec.ofNat 32 j) (BitVec.ofNat 32 j)) then [BitVec.ofNat 32 j] else [])).length ≤ t := fun t _ => by
    have := apps_len (n := t) (c := 1) (f := fun j => if tru (CL k rows (BitVec.ofNat 32 j) (BitVec.ofNat 32 j)) then [BitVec.ofNat 32 j] else []) fun j _ => by split <;> simp
    omega
  refine ⟨_, ?_, ?_, hmem⟩
  · unfold syllogistref_Concepts
    refine (forU_apps (fun j => if tru (CL k rows (BitVec.ofNat 32 j) (BitVec.ofNat 32 j)) then [BitVec.ofNat 32 j] else []) (fun c s nx hc hs => ?_)).trans (by rw [hB]; rfl)
    rw [hB] at hc
    unfold syllogistref_Concepts_b13
    obtain ⟨o, d, e1, e2, hC⟩ := rcl_eq hk rows hr c
    have hcc : BitVec.ofNat 32 c.toNat = c := by simp
    rw [e1, Option.bind_some, e2, Option.bind_some, hcc]
    by_cases h : d = c
    · subst h
      have hl := hlen d.toNat (by omega)
      rw [beq_self_eq_true, cond_true, if_pos (tru_iff.2 hC), decide_eq_true (by rw [hs]; simp only [List.length_cons, List.length_nil]; omega), cond_true]
    · have : ¬CL k rows c c := fun hx => h (hC.uniq hx)
      rw [show (d == c) = false by simpa using h, cond_false, if_neg (by rw [tru_iff]; exact this), List.append_nil]
  · have := hlen (2 ^ k) (Nat.le_refl _); omega

/-! ### The next one -/
def Nx (k : Nat) (rows : List (BitVec 32)) (marks : BitVec 32) (i : Nat) (c : BitVec 32) : Prop :=
  marks.getLsbD i = false ∧ CL k rows ((marks &&& full i) ||| (1#32 <<< i)) c ∧ c &&& full i = marks &&& full i

theorem and_full {a b : BitVec 32} {i : Nat} (hi : i < 32) : a &&& full i = b &&& full i ↔ ∀ j, j < i → a.getLsbD j = b.getLsbD j := by
  constructor
  · intro h j hj
    have := congrArg (fun z : BitVec 32 => z.getLsbD j) h
    simp only [BitVec.getLsbD_and, (full_bit hi j).2 hj, Bool.and_true] at this
    exact this
  · intro h
    refine bits_ext fun j => ?_
    rw [BitVec.getLsbD_and, BitVec.getLsbD_and]
    by_cases hj : j < i
    · rw [h j hj]
    · have : (full i).getLsbD j = false := by rw [← Bool.not_eq_true, full_bit hi]; exact hj
      rw [this, Bool.and_false, Bool.and_false]

theorem Nx.seed {marks : BitVec 32} {i : Nat} (hi : i < 32) (j : Nat) : ((marks &&& full i) ||| (1#32 <<< i)).getLsbD j = true ↔ (marks.getLsbD j = true ∧ j < i) ∨ j = i := by
  rw [BitVec.getLsbD_or, Bool.or_eq_true, BitVec.getLsbD_and, Bool.and_eq_true, full_bit hi, one_shl]
  constructor
  · rintro (h | h)
    · exact .inl h
    · exact .inr h.1
  · rintro (h | h)
    · exact .inl h
    · exact .inr ⟨h, by omega⟩

/-- A closed one behind gives a place at or above where it parts. -/
theorem Nx.of {k : Nat} (hk : k ≤ 6) {rows : List (BitVec 32)} {marks d : BitVec 32} (hd : CL k rows d d) {i : Nat} (h1 : d.getLsbD i = true) (h2 : marks.getLsbD i = false) (h3 : ∀ j, j < i → d.getLsbD j = marks.getLsbD j) {c : BitVec 32} (hc : CL k rows ((marks &&& full i) ||| (1#32 <<< i)) c) (hbm : bel k marks) : Nx k rows marks i c ∧ sb c d := by
  have hi : i < k := hd.bel i h1
  have hs : sb ((marks &&& full i) ||| (1#32 <<< i)) d := fun j hj => by
    rcases (Nx.seed (by omega) j).1 hj with ⟨g1, g2⟩ | g
    · rw [h3 j g2]; exact g1
    · subst g; exact h1
  have hcd := hc.min hd hs
  have hbel : Sy.bel k ((marks &&& full i) ||| (1#32 <<< i)) := hd.bel.sb hs
  have hext := hc.ext hbel
  refine ⟨⟨h2, hc, (and_full (by omega)).2 fun j hj => ?_⟩, hcd⟩
  rw [Bool.eq_iff_iff]
  constructor
  · intro h; rw [← h3 j hj]; exact hcd j h
  · intro h; exact hext j ((Nx.seed (by omega) j).2 (.inl ⟨h, hj⟩))

theorem next_eq {k : Nat} (hk : k ≤ 6) (rows : List (BitVec 32)) (hr : rows.length ≤ 8) (marks : BitVec 32) (hbm : bel k marks) (fuel : Nat) (hf : 10 < fuel) :
    (∃ i c, i < k ∧ concept_next fuel k rows marks = some (c, true) ∧ Nx k rows marks i c ∧ ∀ i' c', i < i' → i' < k → ¬Nx k rows marks i' c') ∨
    (concept_next fuel k rows marks = some (0#32, false) ∧ ∀ i' c', i' < k → ¬Nx k rows marks i' c') := by
  unfold concept_next
  rw [w64_id (by omega) (by omega)]
  refine whileK_q (Q := fun o => (∃ i c, i < k ∧ o = some (c, true) ∧ Nx k rows marks i c ∧ ∀ i' c', i < i' → i' < k → ¬Nx k rows marks i' c') ∨ (o = some (0#32, false) ∧ ∀ i' c', i' < k → ¬Nx k rows marks i' c')) (fun (i : Int) => -1 ≤ i ∧ i < k ∧ ∀ (i' : Nat) c', i < i' → i' < k → ¬Nx k rows marks i' c') (fun i => (i + 1).toNat) (fun i nx hI hnx => ?_) fuel _ ⟨by omega, by omega, fun i' c' h h' => by omega⟩ (by omega)
  obtain ⟨h1, h2, h3⟩ := hI
  unfold concept_next_b5
  by_cases h0 : 0 ≤ i
  · obtain ⟨m, rfl⟩ : ∃ m : Nat, i = m := ⟨i.toNat, by omega⟩
    rw [decide_eq_true (by omega), w64_id (by omega) (by omega)]
    simp only [cond_true, Int.toNat_natCast, bit_shr]
    have hnext : (∀ c, ¬Nx k rows marks m c) → ((∃ i c, i < k ∧ nx ((m : Int) - 1) = some (c, true) ∧ Nx k rows marks i c ∧ ∀ i' c', i < i' → i' < k → ¬Nx k rows marks i' c') ∨ (nx ((m : Int) - 1) = some (0#32, false) ∧ ∀ i' c', i' < k → ¬Nx k rows marks i' c')) := fun hn =>
      hnx _ ⟨by omega, by omega, fun i' c' hi' hk' => by
        by_cases e : i' = m
        · subst e; exact hn c'
        · exact h3 i' c' (by omega) hk'⟩ (by omega)
    cases hb : marks.getLsbD m with
    | true =>
      rw [cond_true]
      exact hnext fun c hc => by rw [hc.1] at hb; cases hb
    | false =>
      rw [cond_false]
      obtain ⟨o, c, e1, e2, hC⟩ := cl_eq hk rows hr ((marks &&& full m) ||| (1#32 <<< m))
      have e1' : concept_down rows ((marks &&& ((1#32 <<< m) - 1#32)) ||| (1#32 <<< m)) = some o := e1
      rw [e1', Option.bind_some, e2, Option.bind_some]
      by_cases hx : c &&& full m = marks &&& full m
      · have : ((c &&& ((1#32 <<< m) - 1#32)) == (marks &&& ((1#32 <<< m) - 1#32))) = true := by rw [beq_iff_eq]; exact hx
        rw [this, cond_true]
        exact .inl ⟨m, c, by omega, rfl, ⟨hb, hC, hx⟩, fun i' c' hi' hk' => h3 i' c' (by omega) hk'⟩
      · have : ((c &&& ((1#32 <<< m) - 1#32)) == (marks &&& ((1#32 <<< m) - 1#32))) = false := by rw [beq_eq_false_iff_ne]; exact hx
        rw [this, cond_false]
        exact hnext fun c' hc => hx (by rw [hC.uniq hc.2.1]; exact hc.2.2)
  · rw [decide_eq_false (by omega), cond_false]
    exact .inr ⟨rfl, fun i' c' hk' => h3 i' c' (by omega) hk'⟩

/-- What is found is closed, behind, and ahead of all others that are. -/
theorem Nx.least {k : Nat} (hk : k ≤ 6) {rows : List (BitVec 32)} (hr : rows.length ≤ 8) {marks : BitVec 32} (hbm : bel k marks) {i : Nat} {c : BitVec 32} (hi : i < k) (h : Nx k rows marks i c) (hn : ∀ i' c', i < i' → i' < k → ¬Nx k rows marks i' c') :
    CL k rows c c ∧ Bh c marks ∧ ∀ d, CL k rows d d → Bh d marks → d = c ∨ Bh d c := by
  obtain ⟨h1, h2, h3⟩ := h
  have h3' := (and_full (by omega)).1 h3
  have hseed : Sy.bel k ((marks &&& full i) ||| (1#32 <<< i)) := fun j hj => by
    rcases (Nx.seed (by omega) j).1 hj with ⟨g1, _⟩ | g
    · exact hbm j g1
    · omega
  have hci := h2.ext hseed i ((Nx.seed (by omega) i).2 (.inr rfl))
  refine ⟨h2.idem hseed, ⟨i, hci, h1, h3'⟩, ?_⟩
  rintro d hd ⟨m, g1, g2, g3⟩
  have hm : m < k := hd.bel m g1
  obtain ⟨o, c', e1, e2, hC⟩ := cl_eq hk rows hr ((marks &&& full m) ||| (1#32 <<< m))
  obtain ⟨hN, hcd⟩ := Nx.of hk hd g1 g2 g3 hC hbm
  rcases Nat.lt_trichotomy i m with e | e | e
  · exact absurd hN (hn m c' e hm)
  · subst e
    have : c' = c := hC.uniq h2
    subst this
    rcases Bh.total d c' with e | e | ⟨j, k1, k2, _⟩
    · exact .inl e
    · exact .inr e
    · have := hcd j k1; rw [k2] at this; cases this
  · refine .inr ⟨m, g1, by rw [h3' m e]; exact g2, fun j hj => by rw [g3 j hj, h3' j (by omega)]⟩

end Go.Proofs.Ytefaglkgpaloeaa.Sy
