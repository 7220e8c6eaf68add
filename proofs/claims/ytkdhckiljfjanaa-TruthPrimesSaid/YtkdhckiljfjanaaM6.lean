/- The levels of products, and maps as sets of keys: the plain law of truth.Primes, second part; no program in sight. -/
import Derived.Test.YtkdhckiljfjanaaM5
namespace Go.Proofs.Ytkdhckiljfjanaa.Sy
set_option linter.unusedVariables false

/-! ### Counting -/
theorem cntN_all {n : Nat} {p : Nat → Bool} (h : ∀ j, j < n → p j = true) : cntN n p = n := by
  induction n with
  | zero => rfl
  | succ n ih =>
    rw [cntN, h n (by omega), cond_true, ih fun j hj => h j (by omega)]
theorem sz_full {k : Nat} {c : Clause} (h : sz k c = k) (i : Nat) (hi : i < k) : has c i = true := by
  cases hh : has c i with
  | true => rfl
  | false =>
    have h1 : sz k c < cntN k (fun _ => true) := cntN_lt (fun _ _ _ => rfl) hi hh rfl
    have h2 : cntN k (fun _ => true) ≤ k := cntN_le
    omega
theorem sz_free {k : Nat} {c : Clause} (h : sz k c < k) : ∃ i, i < k ∧ has c i = false := by
  apply Classical.byContradiction
  intro hn
  have : sz k c = k := cntN_all fun j hj => by
    cases hh : has c j with
    | true => rfl
    | false => exact absurd ⟨j, hj, hh⟩ hn
  omega

/-! ### Levels -/
structure Lv (k : Nat) (F : BitVec 32 → Bool) (t : Nat) (c : Clause) : Prop where
  ok : Okc k c
  lt : sz k c + t = k
  imp : Imp k F c
structure PI (k : Nat) (F : BitVec 32 → Bool) (c : Clause) : Prop where
  ok : Okc k c
  imp : Imp k F c
  mn : ∀ i, i < k → has c i = true → ¬Imp k F (drp c i)
section
variable {k t : Nat} {F : BitVec 32 → Bool} {c d : Clause}
theorem Lv.flp_iff (h : Lv k F t c) (hk : k ≤ 4) {i : Nat} (hi : has c i = true) : Lv k F t (flp c i) ↔ Imp k F (drp c i) :=
  ⟨fun h2 => (imp_drp h.ok hk hi).2 ⟨h.imp, h2.imp⟩, fun h2 => ⟨h.ok.flp hk hi, by rw [sz_flp h.ok hk hi]; exact h.lt, ((imp_drp h.ok hk hi).1 h2).2⟩⟩
theorem Lv.pi_iff (h : Lv k F t c) (hk : k ≤ 4) : PI k F c ↔ ∀ i, i < k → has c i = true → ¬Lv k F t (flp c i) :=
  ⟨fun h2 i hi hh h3 => h2.mn i hi hh ((h.flp_iff hk hh).1 h3), fun h2 => ⟨h.ok, h.imp, fun i hi hh h3 => h2 i hi hh ((h.flp_iff hk hh).2 h3)⟩⟩
theorem lv_up (hk : k ≤ 4) (h : Okc k d) (hI : Imp k F d) (hs : sz k d < k) : ∃ c i, i < k ∧ Okc k c ∧ Imp k F c ∧ has c i = true ∧ drp c i = d ∧ sz k c = sz k d + 1 := by
  obtain ⟨i, hi, hf⟩ := sz_free hs
  obtain ⟨h1, h2, h3, h4⟩ := adp_ok h hk hi hf
  refine ⟨adp d i, i, hi, h1, hI.mono h4, h2, h3, ?_⟩
  have := sz_drp h1 h2
  rw [h3] at this
  omega
theorem lv_next (hk : k ≤ 4) : Lv k F (t + 1) d ↔ ∃ c, Lv k F t c ∧ ∃ i, i < k ∧ has c i = true ∧ Lv k F t (flp c i) ∧ d = drp c i := by
  constructor
  · intro h
    have hlt := h.lt
    obtain ⟨c, i, hi, h1, h2, h3, h4, h5⟩ := lv_up hk h.ok h.imp (by omega)
    have hc : Lv k F t c := ⟨h1, by omega, h2⟩
    exact ⟨c, hc, i, hi, h3, (hc.flp_iff hk h3).2 (h4 ▸ h.imp), h4.symm⟩
  · rintro ⟨c, hc, i, hi, h3, h4, rfl⟩
    have hlt := hc.lt
    have := sz_drp hc.ok h3
    exact ⟨hc.ok.drp i, by omega, (hc.flp_iff hk h3).1 h4⟩
theorem lv_some (hk : k ≤ 4) : ∀ (q : Nat) (c : Clause), Okc k c → Imp k F c → sz k c + t + q = k → ∃ c', Lv k F t c'
  | 0, c, h1, h2, h3 => ⟨c, h1, h3, h2⟩
  | q + 1, c, h1, h2, h3 => by
    obtain ⟨c', i, _, h4, h5, _, _, h6⟩ := lv_up hk h1 h2 (by omega)
    exact lv_some hk q c' h4 h5 (by omega)
end

/-! ### The first level -/
def cof (k s : Nat) : Clause := { yes := BitVec.ofNat 32 s, no := BitVec.ofNat 32 (2 ^ k - (s + 1)) }
theorem small_bit {k s : Nat} (hk : k ≤ 4) (hs : s < 2 ^ k) (i : Nat) : (BitVec.ofNat 32 s).getLsbD i = s.testBit i := by
  rw [BitVec.getLsbD_ofNat]
  cases h : s.testBit i with
  | false => simp
  | true =>
    have : ¬ s < 2 ^ i := fun h2 => by rw [Nat.testBit_lt_two_pow h2] at h; cases h
    have h3 : i < 32 := by
      apply Classical.byContradiction
      intro hn
      have : 2 ^ k ≤ 2 ^ i := Nat.pow_le_pow_right (by omega) (by omega)
      omega
    simp [h3]
theorem cof_yes {k s : Nat} (hk : k ≤ 4) (hs : s < 2 ^ k) (i : Nat) : (cof k s).yes.getLsbD i = s.testBit i := small_bit hk hs i
theorem cof_no {k s : Nat} (hk : k ≤ 4) (hs : s < 2 ^ k) (i : Nat) : (cof k s).no.getLsbD i = (decide (i < k) && !s.testBit i) := by
  show (BitVec.ofNat 32 (2 ^ k - (s + 1))).getLsbD i = _
  rw [small_bit hk (show 2 ^ k - (s + 1) < 2 ^ k by omega), Nat.testBit_two_pow_sub_succ hs]
theorem small_lt {k s i : Nat} (hs : s < 2 ^ k) (h : s.testBit i = true) : i < k := by
  apply Classical.byContradiction
  intro hn
  have : 2 ^ k ≤ 2 ^ i := Nat.pow_le_pow_right (by omega) (by omega)
  rw [Nat.testBit_lt_two_pow (by omega)] at h
  cases h
theorem lv_zero {k : Nat} (hk : k ≤ 4) {f : List Bool} {c : Clause} : Lv k (fun s => f[s.toNat]?.getD false) 0 c ↔ ∃ s, s < 2 ^ k ∧ f[s]?.getD false = true ∧ c = cof k s := by
  have h16 : (2 : Nat) ^ k ≤ 2 ^ 4 := Nat.pow_le_pow_right (by omega) hk
  constructor
  · intro h
    have hlt := h.lt
    have hf := sz_full (k := k) (c := c) (by omega)
    have hb := bel_toNat.1 h.ok.y
    refine ⟨c.yes.toNat, hb, ?_, ?_⟩
    · exact h.imp c.yes h.ok.y ⟨fun i h => h, fun i hi => by
        cases hy : c.yes.getLsbD i with
        | false => rfl
        | true => rw [h.ok.d i hy] at hi; cases hi⟩
    · refine clause_ext (fun i => ?_) (fun i => ?_)
      · rw [cof_yes hk hb, BitVec.testBit_toNat]
      · rw [cof_no hk hb, BitVec.testBit_toNat]
        constructor
        · intro hi
          have h1 := h.ok.z i hi
          cases hy : c.yes.getLsbD i with
          | false => simp [h1]
          | true => rw [h.ok.d i hy] at hi; cases hi
        · intro hi
          rw [Bool.and_eq_true, decide_eq_true_eq] at hi
          have := hf i hi.1
          unfold has at this
          cases hy : c.yes.getLsbD i with
          | false => rw [hy, Bool.false_or] at this; exact this
          | true => rw [hy] at hi; simp at hi
  · rintro ⟨s, hs, hfs, rfl⟩
    refine ⟨⟨fun i hi => ?_, fun i hi => ?_, fun i hi => ?_⟩, ?_, fun s' hb hsat => ?_⟩
    · rw [cof_yes hk hs] at hi; exact small_lt hs hi
    · rw [cof_no hk hs, Bool.and_eq_true, decide_eq_true_eq] at hi; exact hi.1
    · rw [cof_yes hk hs] at hi; rw [cof_no hk hs, hi]; simp
    · rw [show sz k (cof k s) = k from cntN_all fun i hi => ?_]
      · omega
      · unfold has
        rw [cof_yes hk hs, cof_no hk hs]
        cases s.testBit i <;> simp [hi]
    · have e : s' = BitVec.ofNat 32 s := bits_ext fun i => by
        rw [small_bit hk hs]
        constructor
        · intro hi
          cases ht : s.testBit i with
          | true => rfl
          | false =>
            have := hsat.2 i (by rw [cof_no hk hs, ht]; simp; exact hb i hi)
            rw [this] at hi; cases hi
        · intro hi
          exact hsat.1 i (by rw [cof_yes hk hs]; exact hi)
      subst e
      show f[(BitVec.ofNat 32 s).toNat]?.getD false = true
      rw [BitVec.toNat_ofNat, Nat.mod_eq_of_lt (by omega)]
      exact hfs

/-! ### Maps as sets of keys -/
structure KL (l : List (Clause × Bool)) (P : Clause → Prop) : Prop where
  nd : (l.map Prod.fst).Nodup
  v : ∀ p, p ∈ l → p.2 = true
  m : ∀ c, c ∈ l.map Prod.fst ↔ P c
section
variable [DecidableEq Clause]
theorem mget_true {l : List (Clause × Bool)} {c : Clause} (hv : ∀ p, p ∈ l → p.2 = true) : (mget l c).getD false = true ↔ c ∈ l.map Prod.fst := by
  induction l with
  | nil => simp [mget]
  | cons p l ih =>
    rw [mget, List.map_cons, List.mem_cons]
    by_cases h : c = p.1
    · rw [if_pos h]
      exact ⟨fun _ => .inl h, fun _ => hv p (by simp)⟩
    · rw [if_neg h, ih fun q hq => hv q (by simp [hq])]
      exact ⟨.inr, fun h2 => h2.resolve_left h⟩
theorem mput_keys (l : List (Clause × Bool)) (x : Clause) (v : Bool) : (mput l x v).map Prod.fst = if x ∈ l.map Prod.fst then l.map Prod.fst else l.map Prod.fst ++ [x] := by
  induction l with
  | nil => simp [mput]
  | cons p l ih =>
    rw [mput]
    by_cases h : x = p.1
    · rw [if_pos h, if_pos (by simp [h])]
      simp [h]
    · rw [if_neg h, List.map_cons, ih]
      by_cases h2 : x ∈ l.map Prod.fst
      · rw [if_pos h2, if_pos (by rw [List.map_cons]; exact List.mem_cons_of_mem _ h2), List.map_cons]
      · rw [if_neg h2, if_neg (by rw [List.map_cons, List.mem_cons]; exact fun e => e.elim h h2), List.map_cons, List.cons_append]
theorem mput_mem {l : List (Clause × Bool)} {x : Clause} {v : Bool} {p : Clause × Bool} (h : p ∈ mput l x v) : p ∈ l ∨ p = (x, v) := by
  induction l with
  | nil => rw [mput, List.mem_singleton] at h; exact .inr h
  | cons q l ih =>
    rw [mput] at h
    by_cases e : x = q.1
    · rw [if_pos e, List.mem_cons] at h
      rcases h with h | h
      · exact .inr h
      · exact .inl (List.mem_cons_of_mem _ h)
    · rw [if_neg e, List.mem_cons] at h
      rcases h with h | h
      · exact .inl (by rw [h]; exact List.mem_cons_self)
      · rcases ih h with h | h
        · exact .inl (List.mem_cons_of_mem _ h)
        · exact .inr h
theorem KL.get {l : List (Clause × Bool)} {P : Clause → Prop} (h : KL l P) (c : Clause) : (mget l c).getD false = true ↔ P c := by
  rw [mget_true h.v, h.m]
theorem KL.put {l : List (Clause × Bool)} {P : Clause → Prop} (h : KL l P) (x : Clause) : KL (mput l x true) (fun c => P c ∨ c = x) where
  nd := by
    rw [mput_keys]
    by_cases hx : x ∈ l.map Prod.fst
    · rw [if_pos hx]; exact h.nd
    · rw [if_neg hx, List.nodup_append]
      refine ⟨h.nd, by simp, fun a ha b hb e => ?_⟩
      rw [List.mem_singleton] at hb
      subst hb; subst e
      exact hx ha
  v p hp := by
    rcases mput_mem hp with hp | rfl
    · exact h.v p hp
    · rfl
  m c := by
    rw [mput_keys, ← h.m c]
    by_cases hx : x ∈ l.map Prod.fst
    · rw [if_pos hx]
      exact ⟨.inl, fun e => e.elim id fun e => e ▸ hx⟩
    · rw [if_neg hx, List.mem_append, List.mem_singleton]
end
theorem KL.congr {l : List (Clause × Bool)} {P Q : Clause → Prop} (h : KL l P) (e : ∀ c, P c ↔ Q c) : KL l Q := ⟨h.nd, h.v, fun c => (h.m c).trans (e c)⟩
theorem KL.nil {P : Clause → Prop} (h : ∀ c, ¬P c) : KL [] P := ⟨by simp, by simp, fun c => by simp; exact h c⟩

/-! ### Lists -/
theorem mem_erase {α : Type} : ∀ {l : List α} {j : Nat} {a x : α}, l.Nodup → l[j]? = some a → (x ∈ l.eraseIdx j ↔ x ∈ l ∧ x ≠ a)
  | [], j, a, x, _, h => by simp at h
  | b :: l, 0, a, x, hd, h => by
    have e : b = a := by simpa using h
    subst e
    rw [List.nodup_cons] at hd
    rw [List.eraseIdx_cons_zero, List.mem_cons]
    exact ⟨fun hx => ⟨.inr hx, fun e => hd.1 (e ▸ hx)⟩, fun hx => hx.1.resolve_left hx.2⟩
  | b :: l, j + 1, a, x, hd, h => by
    have h' : l[j]? = some a := by simpa using h
    rw [List.nodup_cons] at hd
    rw [List.eraseIdx_cons_succ, List.mem_cons, List.mem_cons, mem_erase hd.2 h']
    have ha := List.mem_of_getElem? h'
    constructor
    · rintro (rfl | ⟨h1, h2⟩)
      · exact ⟨.inl rfl, fun e => hd.1 (e ▸ ha)⟩
      · exact ⟨.inr h1, h2⟩
    · rintro ⟨rfl | h1, h2⟩
      · exact .inl rfl
      · exact .inr ⟨h1, h2⟩
theorem sorted_eq {α : Type} {R : α → α → Prop} (hR : ∀ a b, R a b → ¬R b a) : ∀ {a b : List α}, a.Pairwise R → b.Pairwise R → (∀ x, x ∈ a ↔ x ∈ b) → a = b
  | [], [], _, _, _ => rfl
  | [], y :: b, _, _, h => by have := (h y).2 (by simp); simp at this
  | x :: a, [], _, _, h => by have := (h x).1 (by simp); simp at this
  | x :: a, y :: b, ha, hb, h => by
    rw [List.pairwise_cons] at ha hb
    have e : x = y := by
      rcases List.mem_cons.1 ((h x).1 (by simp)) with e | h1
      · exact e
      · rcases List.mem_cons.1 ((h y).2 (by simp)) with e | h2
        · exact e.symm
        · exact absurd (ha.1 y h2) (hR _ _ (hb.1 x h1))
    subst e
    refine congrArg _ (sorted_eq hR ha.2 hb.2 fun z => ⟨fun hz => ?_, fun hz => ?_⟩)
    · rcases List.mem_cons.1 ((h z).1 (by simp [hz])) with rfl | h1
      · exact absurd (ha.1 z hz) (fun h2 => hR _ _ h2 h2)
      · exact h1
    · rcases List.mem_cons.1 ((h z).2 (by simp [hz])) with rfl | h1
      · exact absurd (hb.1 z hz) (fun h2 => hR _ _ h2 h2)
      · exact h1
theorem apps_pair {α : Type} {R : α → α → Prop} {n : Nat} {f : Nat → List α} (h1 : ∀ j, j < n → (f j).Pairwise R) (h2 : ∀ i j, i < j → j < n → ∀ a, a ∈ f i → ∀ b, b ∈ f j → R a b) : (apps n f).Pairwise R := by
  induction n with
  | zero => exact List.Pairwise.nil
  | succ n ih =>
    rw [apps, List.pairwise_append]
    refine ⟨ih (fun j hj => h1 j (by omega)) (fun i j hi hj => h2 i j hi (by omega)), h1 n (by omega), fun a ha b hb => ?_⟩
    obtain ⟨i, hi, ha⟩ := apps_mem.1 ha
    exact h2 i n hi (by omega) a ha b hb
def cls (a b : Clause) : Prop := a.yes.toNat < b.yes.toNat ∨ (a.yes.toNat = b.yes.toNat ∧ a.no.toNat < b.no.toNat)
theorem cls_asymm (a b : Clause) (h : cls a b) : ¬cls b a := by unfold cls at *; omega
def alc : List Clause := apps 16 fun y => apps 16 fun z => [{ yes := BitVec.ofNat 32 y, no := BitVec.ofNat 32 z }]
theorem alc_len : alc.length ≤ 256 := apps_len (c := 16) fun y _ => apps_len (c := 1) fun z _ => by simp
theorem few {k : Nat} (hk : k ≤ 4) {l : List Clause} (hd : l.Nodup) (hs : ∀ c, c ∈ l → Okc k c) : l.length ≤ 256 := by
  have : DecidableEq Clause := fun a b => Classical.propDecidable _
  refine Nat.le_trans (nodup_lenG (t := alc) hd fun c hc => ?_) alc_len
  have h16 : (2 : Nat) ^ k ≤ 2 ^ 4 := Nat.pow_le_pow_right (by omega) hk
  have h1 := bel_toNat.1 (hs c hc).y
  have h2 := bel_toNat.1 (hs c hc).z
  refine apps_mem.2 ⟨c.yes.toNat, by omega, apps_mem.2 ⟨c.no.toNat, by omega, ?_⟩⟩
  rw [BitVec.ofNat_toNat, BitVec.ofNat_toNat, BitVec.setWidth_eq, BitVec.setWidth_eq]
  exact List.mem_singleton.2 rfl
end Go.Proofs.Ytkdhckiljfjanaa.Sy
