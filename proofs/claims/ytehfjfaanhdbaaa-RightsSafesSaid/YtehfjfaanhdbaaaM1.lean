/- What rights leak, round by round: the plain laws; no program in sight. -/
import Derived.Test.YtehfjfaanhdbaaaSyQ
import Derived.Test.YtehfjfaanhdbaaaG1
namespace Go.Proofs.Ytehfjfaanhdbaaa.Sy
set_option linter.unusedVariables false

/-! ### Steps one after another -/
def itr {τ : Type} : Nat → (Nat → τ → τ) → τ → τ
  | 0, _, s => s
  | n + 1, f, s => f n (itr n f s)
theorem for_itr {τ σ R : Type} (S : τ → σ) (f : Nat → τ → τ) (s0 : τ) {body : Int → σ → (σ → Option R) → Option R} {k : σ → Option R} {b : Int} {n : Nat} (hb : b = n)
    (st : ∀ (j : Nat) t nx, j < n → body (j : Int) (S t) nx = nx (S (f j t))) : forK body k (b - 0).toNat 0 (S s0) = k (S (itr n f s0)) :=
  for_rec (s := S s0) (fun j => S (itr j f s0)) hb rfl fun j nx hj => st j _ nx hj
theorem itr_or {τ : Type} (g : τ → Prop) (p : Nat → Prop) {f : Nat → τ → τ} {n : Nat} (h : ∀ j s, j < n → (g (f j s) ↔ g s ∨ p j)) (s : τ) : g (itr n f s) ↔ g s ∨ ∃ j, j < n ∧ p j := by
  induction n with
  | zero => simp [itr]
  | succ n ih =>
    rw [itr, h n _ (by omega), ih fun j s hj => h j s (by omega)]
    constructor
    · rintro ((h | ⟨j, hj, hp⟩) | h)
      · exact .inl h
      · exact .inr ⟨j, by omega, hp⟩
      · exact .inr ⟨n, by omega, h⟩
    · rintro (h | ⟨j, hj, hp⟩)
      · exact .inl (.inl h)
      · by_cases e : j = n
        · subst e; exact .inr hp
        · exact .inl (.inr ⟨j, by omega, hp⟩)
theorem itr_ind {τ : Type} (P : τ → Prop) {f : Nat → τ → τ} {n : Nat} (h : ∀ j s, j < n → P s → P (f j s)) {s : τ} (h0 : P s) : P (itr n f s) := by
  induction n with
  | zero => exact h0
  | succ n ih => exact h n _ (by omega) (ih fun j s hj => h j s (by omega))

/-! ### Matrices -/
abbrev Wd := BitVec 32
def mt (N : Nat) (M : Nat → Nat → Wd) : List (List Wd) := tab N fun i => tab N fun k => M i k
theorem mt_at {N i : Nat} {M : Nat → Nat → Wd} (h : i < N) : geti (mt N M) (i : Int) = some (tab N fun k => M i k) := tab_geti h
theorem mt_len {N : Nat} {M : Nat → Nat → Wd} : (mt N M).length = N := tab_len
theorem mt_inj {N : Nat} {A B : Nat → Nat → Wd} (h : mt N A = mt N B) {i k : Nat} (hi : i < N) (hk : k < N) : A i k = B i k := by
  have h1 := mt_at (M := A) hi
  rw [h, mt_at hi] at h1
  have h2 := tab_geti (g := fun k => A i k) hk
  rw [← Option.some.inj h1, tab_geti hk] at h2
  exact (Option.some.inj h2).symm
theorem mt_congr {N : Nat} {A B : Nat → Nat → Wd} (h : ∀ i k, i < N → k < N → A i k = B i k) : mt N A = mt N B := tab_congr fun i hi => tab_congr fun k hk => h i k hi hk
def upd (L : Nat → Nat → Wd) (i k : Nat) (w : Wd) : Nat → Nat → Wd := fun a b => if a = i then (if b = k then w else L a b) else L a b
theorem mt_set {N i k : Nat} {L : Nat → Nat → Wd} {w : Wd} (hi : i < N) (hk : k < N) : (mt N L).set i ((tab N fun k => L i k).set k w) = mt N (upd L i k w) := by
  unfold mt
  rw [tab_set hi]
  refine tab_congr fun a ha => ?_
  by_cases e : a = i
  · subst e
    rw [if_pos rfl, tab_set hk]
    exact tab_congr fun b hb => by unfold upd; rw [if_pos rfl]
  · rw [if_neg e]
    exact tab_congr fun b hb => by unfold upd; rw [if_neg e]

def inb (a b : Wd) : Bool := (a ||| b) == b
theorem inb_iff {a b : Wd} : inb a b = true ↔ sb a b := or_iff
theorem inb_andn (a b : Wd) : ((a &&& ~~~b) == 0#32) = inb a b := andn_or a b
theorem inb_nandn (a b : Wd) : ((a &&& ~~~b) != 0#32) = !inb a b := by rw [bne, inb_andn]

def dCh : Chain := { a := 0#32, b := 0#32, c := 0#32 }
abbrev ch (cs : List Chain) (c : Nat) : Chain := cs[c]?.getD dCh
def cnd (cs : List Chain) (M : Nat → Nat → Wd) (i j k c : Nat) : Bool := inb (ch cs c).a (M i j) && inb (ch cs c).b (M j k)

/-! ### One round, as the program has it -/
def stp (cs : List Chain) (M : Nat → Nat → Wd) (i j k c : Nat) (t : Bool × (Nat → Nat → Wd)) : Bool × (Nat → Nat → Wd) :=
  bif cnd cs M i j k c && !inb (ch cs c).c (t.2 i k) then (true, upd t.2 i k (t.2 i k ||| (ch cs c).c)) else t
def rnd (N : Nat) (cs : List Chain) (M : Nat → Nat → Wd) : Bool × (Nat → Nat → Wd) :=
  itr N (fun i => itr N fun j => itr N fun k => itr cs.length fun c => stp cs M i j k c) (false, M)

theorem round_prog {N : Nat} (hN : N ≤ 6) (cs : List Chain) (hc : cs.length ≤ 10) (M : Nat → Nat → Wd) : rights_round (mt N M) cs = some (mt N (rnd N cs M).2, (rnd N cs M).1) := by
  unfold rights_round
  rw [for_rec (s := ([] : List (List Wd))) (n := N) (fun t => tab t fun i => tab N fun k => M i k) (by rw [mt_len]) rfl (fun i nx hi => by
    unfold rights_round_b144 slices_Clone_Suint32uint32
    rw [mt_at hi, Option.bind_some, decide_eq_true (by rw [tab_len]; simp only [List.length_nil]; omega), cond_true, Option.bind_some, decide_eq_true (by rw [tab_len]; omega), cond_true]
    rfl)]
  unfold rights_round_k16
  have hS : ∀ (t : Bool × (Nat → Nat → Wd)), (t.1, mt N t.2) = (fun (t : Bool × (Nat → Nat → Wd)) => (t.1, mt N t.2)) t := fun _ => rfl
  refine (for_itr (fun (t : Bool × (Nat → Nat → Wd)) => (t.1, mt N t.2)) (fun i => itr N fun j => itr N fun k => itr cs.length fun c => stp cs M i j k c) (false, M) (n := N) (by rw [mt_len]) (fun i t nx hi => ?_)).trans rfl
  unfold rights_round_b41
  rw [mt_at hi, Option.bind_some]
  refine (for_itr (fun (t : Bool × (Nat → Nat → Wd)) => (t.1, mt N t.2)) (fun j => itr N fun k => itr cs.length fun c => stp cs M i j k c) t (n := N) (by rw [tab_len]) (fun j t nx hj => ?_)).trans rfl
  unfold rights_round_b70
  rw [tab_geti hj, Option.bind_some]
  refine (for_itr (fun (t : Bool × (Nat → Nat → Wd)) => (t.1, mt N t.2)) (fun k => itr cs.length fun c => stp cs M i j k c) t (n := N) (by rw [tab_len]) (fun k t nx hk => ?_)).trans rfl
  unfold rights_round_b96
  refine (for_itr (fun (t : Bool × (Nat → Nat → Wd)) => (t.1, mt N t.2)) (fun c => stp cs M i j k c) t (n := cs.length) rfl (fun c t nx hc => ?_)).trans rfl
  unfold rights_round_b120
  rw [geti_d dCh hc, Option.bind_some]
  simp only [mt_at hj, mt_at hi, tab_geti hk, Option.isSome_some, Bool.or_true, cond_true, Option.getD_some, Option.bind_some, inb_andn, inb_nandn, Int.toNat_natCast, mt_set hi hk]
  unfold stp cnd
  cases inb (ch cs c).a (M i j) && inb (ch cs c).b (M j k) && !inb (ch cs c).c (t.2 i k) <;> rfl

/-! ### One round, as the document has it -/
def stR (cs : List Chain) (M : Nat → Nat → Wd) (i k j c : Nat) (r : Nat → Wd) : Nat → Wd := bif cnd cs M i j k c then (fun b => if b = k then r k ||| (ch cs c).c else r b) else r
def RR (N : Nat) (cs : List Chain) (M : Nat → Nat → Wd) (i : Nat) : Nat → Wd := itr N (fun k => itr N fun j => itr cs.length fun c => stR cs M i k j c) (M i)

theorem round_ref {N : Nat} (hN : N ≤ 6) (cs : List Chain) (M : Nat → Nat → Wd) : syllogistref_Round N (mt N M) cs = some (mt N (RR N cs M)) := by
  unfold syllogistref_Round
  rw [decide_eq_true (by omega), cond_true]
  rw [for_rec (s := ([] : List (List Wd))) (n := N) (fun t => tab t fun i => tab N fun k => RR N cs M i k) rfl rfl (fun i nx hi => by
    unfold syllogistref_Round_b25
    rw [mt_at hi, Option.bind_some, decide_eq_true (by rw [tab_len]; simp only [List.length_nil]; omega), cond_true, decide_eq_true (by omega), cond_true]
    refine (for_itr (fun (r : Nat → Wd) => tab N r) (fun k => itr N fun j => itr cs.length fun c => stR cs M i k j c) (M i) (n := N) rfl (fun k r nx' hk => ?_)).trans ?_
    · unfold syllogistref_Round_b55
      rw [decide_eq_true (by omega), cond_true]
      refine (for_itr (fun (r : Nat → Wd) => tab N r) (fun j => itr cs.length fun c => stR cs M i k j c) r (n := N) rfl (fun j r nx'' hj => ?_)).trans rfl
      unfold syllogistref_Round_b70
      refine (for_itr (fun (r : Nat → Wd) => tab N r) (fun c => stR cs M i k j c) r (n := cs.length) rfl (fun c r nx3 hc => ?_)).trans rfl
      unfold syllogistref_Round_b85 syllogistref_In
      rw [geti_d dCh hc, Option.bind_some]
      simp only [mt_at hj, mt_at hi, tab_geti hk, tab_geti hj, Option.isSome_some, Bool.or_true, cond_true, Option.getD_some, Option.bind_some, Int.toNat_natCast, tab_set hk]
      unfold stR cnd inb
      cases ((ch cs c).a ||| M i j == M i j) && ((ch cs c).b ||| M j k == M j k) <;> rfl
    · unfold syllogistref_Round_k45
      rw [decide_eq_true (by rw [tab_len]; omega), cond_true]
      rfl)]
  rfl

/-! ### They are the same -/
def Bt (N : Nat) (cs : List Chain) (M : Nat → Nat → Wd) (a b t : Nat) : Prop := (M a b).getLsbD t = true ∨ ∃ j, j < N ∧ ∃ c, c < cs.length ∧ cnd cs M a j b c = true ∧ (ch cs c).c.getLsbD t = true

theorem RR_bit {N : Nat} {cs : List Chain} {M : Nat → Nat → Wd} {a b t : Nat} (hb : b < N) : (RR N cs M a b).getLsbD t = true ↔ Bt N cs M a b t := by
  unfold RR Bt
  rw [itr_or (fun r : Nat → Wd => (r b).getLsbD t = true) (fun k => ∃ j, j < N ∧ ∃ c, c < cs.length ∧ (b = k ∧ cnd cs M a j k c = true ∧ (ch cs c).c.getLsbD t = true)) (fun k s hk =>
    itr_or (fun r : Nat → Wd => (r b).getLsbD t = true) (fun j => ∃ c, c < cs.length ∧ (b = k ∧ cnd cs M a j k c = true ∧ (ch cs c).c.getLsbD t = true)) (fun j s hj =>
      itr_or (fun r : Nat → Wd => (r b).getLsbD t = true) (fun c => b = k ∧ cnd cs M a j k c = true ∧ (ch cs c).c.getLsbD t = true) (fun c s hc => by
        unfold stR
        cases h : cnd cs M a j k c with
        | false => simp
        | true =>
          rw [cond_true]
          by_cases e : b = k
          · subst e; simp
          · simp [e]) s) s)]
  refine or_congr_right ⟨?_, ?_⟩
  · rintro ⟨k, hk, j, hj, c, hc, rfl, h1, h2⟩; exact ⟨j, hj, c, hc, h1, h2⟩
  · rintro ⟨j, hj, c, hc, h1, h2⟩; exact ⟨b, hb, j, hj, c, hc, rfl, h1, h2⟩
theorem stp_bit {cs : List Chain} {M : Nat → Nat → Wd} {i j k c a b t : Nat} (s : Bool × (Nat → Nat → Wd)) : ((stp cs M i j k c s).2 a b).getLsbD t = true ↔ (s.2 a b).getLsbD t = true ∨ (a = i ∧ b = k ∧ cnd cs M i j k c = true ∧ (ch cs c).c.getLsbD t = true) := by
  unfold stp
  cases h : cnd cs M i j k c with
  | false => simp
  | true =>
    cases h2 : inb (ch cs c).c (s.2 i k) with
    | true =>
      have := inb_iff.1 h2
      simp only [Bool.not_true, Bool.and_false, cond_false]
      constructor
      · exact .inl
      · rintro (h | ⟨rfl, rfl, _, h⟩)
        · exact h
        · exact this t h
    | false =>
      simp only [Bool.not_false, Bool.and_true, cond_true]
      unfold upd
      by_cases e1 : a = i
      · subst e1
        by_cases e2 : b = k
        · subst e2; simp
        · simp [e2]
      · simp [e1]
theorem rnd_bit {N : Nat} {cs : List Chain} {M : Nat → Nat → Wd} {a b t : Nat} (ha : a < N) (hb : b < N) : ((rnd N cs M).2 a b).getLsbD t = true ↔ Bt N cs M a b t := by
  unfold rnd Bt
  rw [itr_or (fun s : Bool × (Nat → Nat → Wd) => (s.2 a b).getLsbD t = true) (fun i => ∃ j, j < N ∧ ∃ k, k < N ∧ ∃ c, c < cs.length ∧ (a = i ∧ b = k ∧ cnd cs M i j k c = true ∧ (ch cs c).c.getLsbD t = true)) (fun i s hi =>
    itr_or (fun s : Bool × (Nat → Nat → Wd) => (s.2 a b).getLsbD t = true) (fun j => ∃ k, k < N ∧ ∃ c, c < cs.length ∧ (a = i ∧ b = k ∧ cnd cs M i j k c = true ∧ (ch cs c).c.getLsbD t = true)) (fun j s hj =>
      itr_or (fun s : Bool × (Nat → Nat → Wd) => (s.2 a b).getLsbD t = true) (fun k => ∃ c, c < cs.length ∧ (a = i ∧ b = k ∧ cnd cs M i j k c = true ∧ (ch cs c).c.getLsbD t = true)) (fun k s hk =>
        itr_or (fun s : Bool × (Nat → Nat → Wd) => (s.2 a b).getLsbD t = true) (fun c => a = i ∧ b = k ∧ cnd cs M i j k c = true ∧ (ch cs c).c.getLsbD t = true) (fun c s hc => stp_bit s) s) s) s)]
  refine or_congr_right ⟨?_, ?_⟩
  · rintro ⟨i, hi, j, hj, k, hk, c, hc, rfl, rfl, h1, h2⟩; exact ⟨j, hj, c, hc, h1, h2⟩
  · rintro ⟨j, hj, c, hc, h1, h2⟩; exact ⟨a, ha, j, hj, b, hb, c, hc, rfl, rfl, h1, h2⟩
theorem rnd_eq {N : Nat} {cs : List Chain} {M : Nat → Nat → Wd} : mt N (rnd N cs M).2 = mt N (RR N cs M) :=
  mt_congr fun a b ha hb => bits_ext fun t => (rnd_bit ha hb).trans (RR_bit hb).symm
def MI (N : Nat) (M : Nat → Nat → Wd) (s : Bool × (Nat → Nat → Wd)) : Prop := (∀ a b, sb (M a b) (s.2 a b)) ∧ (s.1 = true ↔ mt N s.2 ≠ mt N M)
theorem rnd_more {N : Nat} {cs : List Chain} {M : Nat → Nat → Wd} : (rnd N cs M).1 = true ↔ mt N (rnd N cs M).2 ≠ mt N M := by
  have key : MI N M (rnd N cs M) := by
    unfold rnd
    refine itr_ind (MI N M) (fun i s hi hs => itr_ind (MI N M) (fun j s hj hs => itr_ind (MI N M) (fun k s hk hs => itr_ind (MI N M) (fun c s hc hs => ?_) hs) hs) hs) ⟨fun _ _ => sb_refl _, by simp⟩
    refine ⟨fun a b t ht => (stp_bit s).2 (.inl (hs.1 a b t ht)), ?_⟩
    have hb := fun a b t => stp_bit (cs := cs) (M := M) (i := i) (j := j) (k := k) (c := c) (a := a) (b := b) (t := t) s
    unfold stp at hb ⊢
    cases h : cnd cs M i j k c && !inb (ch cs c).c (s.2 i k) with
    | false => rw [cond_false]; exact hs.2
    | true =>
      rw [h] at hb
      simp only [cond_true] at hb ⊢
      refine ⟨fun _ he => ?_, fun _ => trivial⟩
      rw [Bool.and_eq_true, Bool.not_eq_true', ← Bool.not_eq_true, inb_iff] at h
      refine h.2 fun t ht => ?_
      refine hs.1 i k t ?_
      rw [← mt_inj he hi hk]
      exact (hb i k t).2 (.inr ⟨rfl, rfl, h.1, ht⟩)
  exact key.2

/-! ### Words and matrices compared -/
theorem words_eq (a b : List Wd) : syllogistref_Words a b = some (decide (a = b)) := by
  unfold syllogistref_Words syllogistref_Words_b7 syllogistref_Words_k3
  exact lists_eq a b
theorem mats_eq (a b : List (List Wd)) : syllogistref_Matrices a b = some (decide (a = b)) := by
  unfold syllogistref_Matrices syllogistref_Matrices_b7 syllogistref_Matrices_k3
  simp only [words_eq, Option.bind_some]
  exact @lists_eq (List Wd) instBEqOfDecidableEq _ _ a b

/-! ### A round on lists -/
def fn (l : List (List Wd)) (a b : Nat) : Wd := (l[a]?.getD [])[b]?.getD 0#32
def Sq (N : Nat) (l : List (List Wd)) : Prop := l = mt N (fn l)
theorem fn_mt {N a b : Nat} {M : Nat → Nat → Wd} (ha : a < N) (hb : b < N) : fn (mt N M) a b = M a b := by
  unfold fn mt
  rw [tab_getD [] ha, tab_getD _ hb]
theorem Sq_mt {N : Nat} {M : Nat → Nat → Wd} : Sq N (mt N M) := mt_congr fun a b ha hb => (fn_mt ha hb).symm
noncomputable def RM (N : Nat) (cs : List Chain) (l : List (List Wd)) : List (List Wd) := mt N (RR N cs (fn l))
theorem Sq_RM {N : Nat} {cs : List Chain} {l : List (List Wd)} : Sq N (RM N cs l) := Sq_mt
theorem RM_prog {N : Nat} (hN : N ≤ 6) {cs : List Chain} (hc : cs.length ≤ 10) {l : List (List Wd)} (h : Sq N l) : rights_round l cs = some (RM N cs l, decide (RM N cs l ≠ l)) := by
  have h1 := round_prog hN cs hc (fn l)
  have h2 := rnd_more (N := N) (cs := cs) (M := fn l)
  rw [rnd_eq] at h1 h2
  have e : mt N (fn l) = l := h.symm
  rw [e] at h1 h2
  rw [h1]
  congr 2
  rw [Bool.eq_iff_iff, h2, decide_eq_true_eq]
  rfl
theorem RM_ref {N : Nat} (hN : N ≤ 6) {cs : List Chain} {l : List (List Wd)} (h : Sq N l) : syllogistref_Round N l cs = some (RM N cs l) := by
  have h1 := round_ref hN cs (fn l)
  have e : mt N (fn l) = l := h.symm
  rw [e] at h1
  exact h1
theorem RM_le {N : Nat} {cs : List Chain} {l : List (List Wd)} {a b : Nat} (ha : a < N) (hb : b < N) : sb (fn l a b) (fn (RM N cs l) a b) := by
  unfold RM
  rw [fn_mt ha hb]
  exact fun t ht => (RR_bit hb).2 (.inl ht)

/-! ### How often -/
def nu (N : Nat) (l : List (List Wd)) : Nat := cntN (N * N * 32) fun x => (fn l (x / 32 / N) (x / 32 % N)).getLsbD (x % 32)
theorem cntN_lt {n : Nat} {p q : Nat → Bool} (h : ∀ j, j < n → p j = true → q j = true) {i : Nat} (hi : i < n) (hp : p i = false) (hq : q i = true) : cntN n p < cntN n q := by
  have le : ∀ m, m ≤ n → cntN m p ≤ cntN m q := by
    intro m
    induction m with
    | zero => intro _; exact Nat.le_refl _
    | succ m ih =>
      intro hm
      have := ih (by omega)
      rw [cntN, cntN]
      cases h1 : p m
      · cases q m <;> simp <;> omega
      · rw [h m (by omega) h1]; simp; omega
  have key : ∀ m, i < m → m ≤ n → cntN m p < cntN m q := by
    intro m
    induction m with
    | zero => intro h; omega
    | succ m ih =>
      intro h1 h2
      rw [cntN, cntN]
      by_cases e : i = m
      · subst e
        rw [hp, hq]
        have := le i (by omega)
        simp; omega
      · have := ih (by omega) (by omega)
        cases h1 : p m
        · cases q m <;> simp <;> omega
        · rw [h m (by omega) h1]; simp; omega
  exact key n hi (Nat.le_refl _)
theorem nu_lt {N : Nat} {cs : List Chain} {l : List (List Wd)} (h : Sq N l) (hne : RM N cs l ≠ l) : nu N l < nu N (RM N cs l) := by
  obtain ⟨a, b, ha, hb, hd⟩ : ∃ a b, a < N ∧ b < N ∧ fn l a b ≠ fn (RM N cs l) a b := by
    refine Classical.byContradiction fun hn => hne ?_
    rw [show l = mt N (fn l) from h]
    rw [← show l = mt N (fn l) from h]
    refine (show RM N cs l = mt N (fn (RM N cs l)) from Sq_RM).trans ((mt_congr fun a b ha hb => ?_).trans (show l = mt N (fn l) from h).symm)
    exact Classical.byContradiction fun h' => hn ⟨a, b, ha, hb, fun e => h' e.symm⟩
  have hN : 0 < N := by omega
  have hle := RM_le (cs := cs) (l := l) ha hb
  obtain ⟨t, ht1, ht2⟩ : ∃ t, (fn l a b).getLsbD t = false ∧ (fn (RM N cs l) a b).getLsbD t = true := by
    refine Classical.byContradiction fun hn => hd (sb.antisymm hle fun t ht => ?_)
    cases hx : (fn l a b).getLsbD t with
    | true => rfl
    | false => exact absurd ⟨t, hx, ht⟩ hn
  have htl : t < 32 := Classical.byContradiction fun h => by rw [BitVec.getLsbD_of_ge _ _ (by omega)] at ht2; cases ht2
  unfold nu
  have e0 : ((a * N + b) * 32 + t) / 32 = a * N + b := by omega
  have e1 : ((a * N + b) * 32 + t) % 32 = t := by omega
  have e2 : (a * N + b) / N = a := by
    rw [Nat.mul_comm, Nat.mul_add_div hN, Nat.div_eq_of_lt hb, Nat.add_zero]
  have e3 : (a * N + b) % N = b := by
    rw [Nat.mul_comm, Nat.mul_add_mod, Nat.mod_eq_of_lt hb]
  have hlt : a * N + b < N * N := by
    have : (a + 1) * N ≤ N * N := Nat.mul_le_mul_right N (by omega)
    rw [Nat.add_mul] at this; omega
  refine cntN_lt (i := (a * N + b) * 32 + t) (fun x hx hp => ?_) (by omega) (by rw [e0, e1, e2, e3]; exact ht1) (by rw [e0, e1, e2, e3]; exact ht2)
  have hx' : x / 32 < N * N := by omega
  exact RM_le (Nat.div_lt_of_lt_mul (by omega)) (Nat.mod_lt _ hN) _ hp
theorem nu_le {N : Nat} (hN : N ≤ 6) (l : List (List Wd)) : nu N l ≤ 1152 := by
  have h1 := cntN_le (n := N * N * 32) (p := fun x => (fn l (x / 32 / N) (x / 32 % N)).getLsbD (x % 32))
  have h2 : N * N ≤ 6 * 6 := Nat.mul_le_mul hN hN
  unfold nu; omega

def orb (N : Nat) (f : List (List Wd) → List (List Wd)) (l : List (List Wd)) : Nat → List (List Wd)
  | 0 => l
  | k + 1 => f (orb N f l k)
noncomputable abbrev ob (N : Nat) (cs : List Chain) (l : List (List Wd)) : Nat → List (List Wd) := orb N (RM N cs) l
theorem ob_succ {N : Nat} {cs : List Chain} {l : List (List Wd)} {k : Nat} : ob N cs l (k + 1) = RM N cs (ob N cs l k) := rfl
theorem ob_sq {N : Nat} {cs : List Chain} {l : List (List Wd)} (h : Sq N l) (k : Nat) : Sq N (ob N cs l k) := by
  cases k with
  | zero => exact h
  | succ k => exact Sq_RM
structure Lm (N : Nat) (cs : List Chain) (l : List (List Wd)) (K : Nat) : Prop where
  le : K ≤ 1152
  fix : ob N cs l (K + 1) = ob N cs l K
  first : ∀ j, j < K → ob N cs l (j + 1) ≠ ob N cs l j
theorem lm {N : Nat} (hN : N ≤ 6) (cs : List Chain) {l : List (List Wd)} (h : Sq N l) : ∃ K, Lm N cs l K := by
  have grow : ∀ k, (∀ j, j < k → ob N cs l (j + 1) ≠ ob N cs l j) → k ≤ nu N (ob N cs l k) := by
    intro k
    induction k with
    | zero => intro _; omega
    | succ k ih =>
      intro hk
      have h1 := ih fun j hj => hk j (by omega)
      have h2 := nu_lt (cs := cs) (ob_sq h k) (hk k (by omega))
      rw [ob_succ]; omega
  refine Classical.byContradiction fun hn => ?_
  have all : ∀ k, k ≤ 1153 → ∀ j, j < k → ob N cs l (j + 1) ≠ ob N cs l j := by
    intro k
    induction k with
    | zero => intro _ j hj; omega
    | succ k ih =>
      intro hk j hj
      by_cases e : j = k
      · subst e
        exact fun he => hn ⟨j, by omega, he, ih (by omega)⟩
      · exact ih (by omega) j (by omega)
  have h1 := grow 1153 (all 1153 (by omega))
  have h2 := nu_le hN (ob N cs l 1153)
  omega
theorem ob_le {N : Nat} {cs : List Chain} {l : List (List Wd)} {i j a b : Nat} (h : i ≤ j) (ha : a < N) (hb : b < N) : sb (fn (ob N cs l i) a b) (fn (ob N cs l j) a b) := by
  induction j with
  | zero => have : i = 0 := by omega
            subst this; exact sb_refl _
  | succ j ih =>
    by_cases e : i = j + 1
    · subst e; exact sb_refl _
    · exact (ih (by omega)).trans (RM_le ha hb)

theorem rounds_eq {N : Nat} (hN : N ≤ 6) (cs : List Chain) {l : List (List Wd)} (h : Sq N l) {K fuel : Nat} (hK : Lm N cs l K) (hf : 2000 < fuel) : syllogistref_Rounds fuel N l cs = some ((K : Int), ob N cs l K) := by
  unfold syllogistref_Rounds
  have hk := hK.le
  refine whileK_q (Q := fun o => o = some ((K : Int), ob N cs l K)) (fun s => ∃ j : Nat, j ≤ K ∧ s = (ob N cs l j, (j : Int))) (fun s => K + 1 - s.2.toNat) (fun s nx hI hn => ?_) fuel _ ⟨0, by omega, rfl⟩ (by simp; omega)
  obtain ⟨j, hj, rfl⟩ := hI
  unfold syllogistref_Rounds_b11
  dsimp only at hn ⊢
  rw [RM_ref hN (ob_sq h j), Option.bind_some, mats_eq, Option.bind_some, ← ob_succ]
  by_cases e : ob N cs l (j + 1) = ob N cs l j
  · have : j = K := Classical.byContradiction fun hne => hK.first j (by omega) e
    subst this
    rw [decide_eq_true e, cond_true]
  · rw [decide_eq_false e, cond_false]
    have hjk : j < K := Classical.byContradiction fun hne => by
      have : j = K := by omega
      subst this; exact e hK.fix
    refine hn _ ⟨j + 1, by omega, by rw [w64_succ (by omega)]⟩ ?_
    dsimp only
    rw [w64_succ (by omega)]
    omega

theorem close_eq {N : Nat} (hN : N ≤ 6) (cs : List Chain) (hc : cs.length ≤ 10) {l : List (List Wd)} (h : Sq N l) {K fuel : Nat} (hK : Lm N cs l K) (hf : 2000 < fuel) :
    ((rights_round l cs).bind fun r3 => whileK (σ := (List (List Wd)) × Bool) (fun s nx_ => rights_Close_b24 cs s.1 s.2 nx_) fuel (r3.1, r3.2)) = some (ob N cs l K, 0) := by
  have hk := hK.le
  rw [RM_prog hN hc h, Option.bind_some]
  refine whileK_q (Q := fun o => o = some (ob N cs l K, 0)) (fun s => ∃ j : Nat, j ≤ K ∧ s = (ob N cs l (j + 1), decide (ob N cs l (j + 1) ≠ ob N cs l j))) (fun s => 1152 - nu N s.1 + (bif s.2 then 1 else 0)) (fun s nx hI hn => ?_) fuel _ ⟨0, by omega, rfl⟩ (by
    have : (bif decide (RM N cs l ≠ l) then 1 else 0) ≤ 1 := by cases decide (RM N cs l ≠ l) <;> simp
    dsimp only; omega)
  obtain ⟨j, hj, rfl⟩ := hI
  unfold rights_Close_b24
  dsimp only at hn ⊢
  by_cases e : ob N cs l (j + 1) = ob N cs l j
  · have hje : j = K := Classical.byContradiction fun hne => hK.first j (by omega) e
    rw [decide_eq_false (fun h => h e), cond_false]
    unfold rights_Close_k22
    rw [e, hje]
  · rw [decide_eq_true e, cond_true, RM_prog hN hc (ob_sq h _), Option.bind_some]
    have hjk : j < K := Classical.byContradiction fun hne => by
      have : j = K := by omega
      subst this; exact e hK.fix
    refine hn _ ⟨j + 1, by omega, rfl⟩ ?_
    rw [decide_eq_true e]
    have h2 := nu_le hN (RM N cs (ob N cs l (j + 1)))
    by_cases e2 : RM N cs (ob N cs l (j + 1)) = ob N cs l (j + 1)
    · rw [decide_eq_false (fun h => h e2), e2]; simp
    · have h1 := nu_lt (cs := cs) (ob_sq h (j + 1)) e2
      rw [decide_eq_true e2]
      simp only [cond_true]; omega

/-! ### What is wrong -/
def badR (n : Int) (r : List Wd) : Bool := (r.length : Int) != n
def chkM (n : Int) (m : List (List Wd)) (cs : List Chain) : Int := bif ((decide (n < (1 : Int))) || (decide (n > (6 : Int)))) || (decide ((cs.length : Int) > (10 : Int))) then 1 else bif ((m.length : Int) != n) || m.any (badR n) then 3 else 0
theorem wrong_eq (n : Int) (m : List (List Wd)) (cs : List Chain) : rights_wrong n m cs = some (chkM n m cs) := by
  have hany : slices_ContainsFunc_apiMatrixSuint32 m (fun a => rights_wrong_c1 a n) = some (m.any (badR n)) := by
    unfold slices_ContainsFunc_apiMatrixSuint32 slices_IndexFunc_apiMatrixSuint32 slices_IndexFunc_apiMatrixSuint32_b7 slices_IndexFunc_apiMatrixSuint32_k3
    exact any_shape m (fun a => rights_wrong_c1 a n) (badR n) fun a _ => rfl
  unfold rights_wrong chkM
  rw [hany]
  cases ((decide (n < (1 : Int))) || (decide (n > (6 : Int)))) || (decide ((cs.length : Int) > (10 : Int)))
  · simp only [cond_false, Option.isSome_some, Bool.or_true, cond_true, Option.getD_some]
    cases ((m.length : Int) != n) || m.any (badR n) <;> rfl
  · rfl
theorem check_eq (n : Int) (m : List (List Wd)) (cs : List Chain) : syllogistref_MatrixCheck n m cs = some (chkM n m cs) := by
  unfold syllogistref_MatrixCheck chkM
  cases ((decide (n < (1 : Int))) || (decide (n > (6 : Int)))) || (decide ((cs.length : Int) > (10 : Int)))
  · rw [cond_false, cond_false]
    cases (m.length : Int) != n
    · rw [cond_false, Bool.false_or, for_out (n := m.length) (fun j => (m[j]?.map (badR n)).getD false) (some 3) rfl (fun j nx hj => by
        unfold syllogistref_MatrixCheck_b7
        rw [geti_at hj, Option.bind_some, List.getElem?_eq_getElem hj]
        rfl), ← any_len]
      unfold syllogistref_MatrixCheck_k3
      cases m.any (badR n) <;> rfl
    · rfl
  · rfl
theorem chk_ok {n : Int} {m : List (List Wd)} {cs : List Chain} (h : chkM n m cs = 0) : ∃ N : Nat, n = N ∧ N ≤ 6 ∧ cs.length ≤ 10 ∧ Sq N m := by
  unfold chkM at h
  cases h1 : ((decide (n < (1 : Int))) || (decide (n > (6 : Int)))) || (decide ((cs.length : Int) > (10 : Int))) with
  | true => rw [h1] at h; cases h
  | false =>
    cases h2 : ((m.length : Int) != n) || m.any (badR n) with
    | true => rw [h1, h2] at h; cases h
    | false =>
      simp only [Bool.or_eq_false_iff, decide_eq_false_iff_not] at h1 h2
      have hl : (m.length : Int) = n := by simpa using h2.1
      refine ⟨m.length, hl.symm, by omega, by omega, ?_⟩
      refine (tab_of [] rfl).trans (tab_congr fun j hj => ?_)
      have hr : (m[j]?.getD []).length = m.length := by
        rw [getd_at _ hj]
        have := h2.2
        rw [List.any_eq_false] at this
        have := this m[j] (List.getElem_mem hj)
        unfold badR at this
        have h3 : ((m[j].length : Int) = n) := by simpa using this
        omega
      exact tab_of 0#32 hr
theorem chk_ne {n : Int} {m : List (List Wd)} {cs : List Chain} : chkM n m cs ≠ 2 ∧ chkM n m cs ≠ 5 := by
  unfold chkM
  cases ((decide (n < (1 : Int))) || (decide (n > (6 : Int)))) || (decide ((cs.length : Int) > (10 : Int))) <;> cases ((m.length : Int) != n) || m.any (badR n) <;> simp

theorem rightsCloses_true (fuel : Nat) (n : Int) (m : List (List Wd)) (cs : List Chain) (hf : 2000 < fuel := by decide) : syllogistlaw_RightsCloses fuel n m cs = some true := by
  unfold syllogistlaw_RightsCloses rights_Close
  rw [wrong_eq, check_eq, Option.bind_some]
  simp only [Option.bind_some]
  by_cases h : chkM n m cs = 0
  · obtain ⟨N, rfl, hN, hc, hs⟩ := chk_ok h
    obtain ⟨K, hK⟩ := lm hN cs hs
    rw [h]
    simp only [bne_self_eq_false, cond_false]
    rw [close_eq hN cs hc hs hK hf, rounds_eq hN cs hs hK hf]
    simp [mats_eq]
  · have h3 : (chkM n m cs != 0) = true := by simpa using h
    simp [h3]

/-! ### In how many -/
theorem rd_fn {N : Nat} {l : List (List Wd)} (h : Sq N l) {a b : Nat} (ha : a < N) (hb : b < N) : ((geti l (a : Int)).bind fun y => geti y (b : Int)) = some (fn l a b) := by
  rw [show l = mt N (fn l) from h, mt_at ha, Option.bind_some, tab_geti hb, fn_mt ha hb]
theorem rd_row {N : Nat} {l : List (List Wd)} (h : Sq N l) {a : Nat} (ha : a < N) : geti l (a : Int) = some (tab N fun k => fn l a k) := by
  conv => lhs; rw [show l = mt N (fn l) from h]
  rw [mt_at ha]
theorem steps_eq {N : Nat} (hN : N ≤ 6) (cs : List Chain) (hc : cs.length ≤ 10) {l : List (List Wd)} (h : Sq N l) {K fuel : Nat} (hK : Lm N cs l K) (hf : 2000 < fuel) {x y : Nat} (hx : x < N) (hy : y < N) (r : Wd) :
    (∃ i, i ≤ K ∧ inb r (fn (ob N cs l i) x y) = true ∧ (∀ j, j < i → inb r (fn (ob N cs l j) x y) = false) ∧ whileK (σ := (List (List Wd)) × Bool × Int) (fun s nx_ => rights_Steps_b18 cs x y r s.1 s.2.1 s.2.2 nx_) fuel (l, true, ((0 : Int))) = some ((i : Int), 0)) ∨
    ((∀ j, j ≤ K → inb r (fn (ob N cs l j) x y) = false) ∧ whileK (σ := (List (List Wd)) × Bool × Int) (fun s nx_ => rights_Steps_b18 cs x y r s.1 s.2.1 s.2.2 nx_) fuel (l, true, ((0 : Int))) = some (0, 5)) := by
  have hk := hK.le
  refine whileK_q (Q := fun o => (∃ i, i ≤ K ∧ inb r (fn (ob N cs l i) x y) = true ∧ (∀ j, j < i → inb r (fn (ob N cs l j) x y) = false) ∧ o = some ((i : Int), 0)) ∨ ((∀ j, j ≤ K → inb r (fn (ob N cs l j) x y) = false) ∧ o = some (0, 5)))
    (fun s => ∃ j : Nat, j ≤ K + 1 ∧ (∀ i, i < j → inb r (fn (ob N cs l i) x y) = false) ∧ s = (ob N cs l j, decide (j ≤ K), (j : Int))) (fun s => K + 2 - s.2.2.toNat) (fun s nx hI hn => ?_) fuel _ ⟨0, by omega, fun i hi => by omega, by rw [decide_eq_true (by omega)]; rfl⟩ (by simp; omega)
  obtain ⟨j, hj, hno, rfl⟩ := hI
  unfold rights_Steps_b18
  dsimp only at hn ⊢
  by_cases hjk : j ≤ K
  · rw [decide_eq_true hjk, cond_true, rd_row (ob_sq h j) hx, Option.bind_some, tab_geti hy, Option.bind_some, inb_andn]
    cases hin : inb r (fn (ob N cs l j) x y) with
    | true => exact .inl ⟨j, hjk, hin, hno, rfl⟩
    | false =>
      rw [cond_false, RM_prog hN hc (ob_sq h j), Option.bind_some, ← ob_succ]
      have hd : decide (ob N cs l (j + 1) ≠ ob N cs l j) = decide (j + 1 ≤ K) := by
        rw [Bool.eq_iff_iff, decide_eq_true_eq, decide_eq_true_eq]
        constructor
        · intro he
          refine Classical.byContradiction fun hne => he ?_
          have : j = K := by omega
          subst this; exact hK.fix
        · intro hlt; exact hK.first j (by omega)
      dsimp only
      rw [hd, w64_succ (by omega)]
      refine hn _ ⟨j + 1, by omega, fun i hi => ?_, rfl⟩ ?_
      · by_cases e : i = j
        · subst e; exact hin
        · exact hno i (by omega)
      · dsimp only; omega
  · rw [decide_eq_false hjk, cond_false]
    exact .inr ⟨fun i hi => hno i (by omega), rfl⟩

theorem out_int {n : Nat} {a b : Int} (h : ¬(((decide (a < (0 : Int)) || decide (a ≥ (n : Int))) || decide (b < (0 : Int))) || decide (b ≥ (n : Int))) = true) : ∃ i j : Nat, i < n ∧ j < n ∧ a = i ∧ b = j := by
  simp only [Bool.or_eq_true, decide_eq_true_eq, not_or] at h
  exact ⟨a.toNat, b.toNat, by omega, by omega, by omega, by omega⟩
theorem out_eq (n : Nat) (a b : Int) : ((decide ((if b < a then b else a) < (0 : Int))) || (decide ((if b > a then b else a) ≥ (n : Int)))) = (((decide (a < (0 : Int)) || decide (a ≥ (n : Int))) || decide (b < (0 : Int))) || decide (b ≥ (n : Int))) := by
  rw [Bool.eq_iff_iff]
  simp only [Bool.or_eq_true, decide_eq_true_eq]
  split <;> split <;> omega

theorem inb_mono {a b c : Wd} (h : inb a b = true) (k : sb b c) : inb a c = true := inb_iff.2 ((inb_iff.1 h).trans k)

theorem rightsSteps_true (fuel : Nat) (n : Int) (m : List (List Wd)) (cs : List Chain) (a b : Int) (r : Wd) (hf : 2000 < fuel := by decide) : syllogistlaw_RightsSteps fuel n m cs a b r = some true := by
  unfold syllogistlaw_RightsSteps rights_Steps syllogistlaw_cellCode
  rw [wrong_eq, check_eq, Option.bind_some]
  simp only [Option.bind_some]
  by_cases h : chkM n m cs = 0
  · obtain ⟨N, rfl, hN, hc, hs⟩ := chk_ok h
    obtain ⟨K, hK⟩ := lm hN cs hs
    have hk := hK.le
    rw [h]
    simp only [bne_self_eq_false, cond_false, out_eq, beq_self_eq_true, Bool.true_and]
    by_cases hout : (((decide (a < (0 : Int)) || decide (a ≥ (N : Int))) || decide (b < (0 : Int))) || decide (b ≥ (N : Int))) = true
    · rw [hout]; rfl
    · obtain ⟨x, y, hx, hy, rfl, rfl⟩ := out_int hout
      rw [Bool.eq_false_iff.2 hout]
      simp only [cond_false, Option.bind_some, bne_self_eq_false]
      rw [rounds_eq hN cs hs hK hf]
      have hIn : ∀ u v : Wd, syllogistref_In u v = some (inb u v) := fun _ _ => rfl
      simp only [Option.bind_some, rd_row (ob_sq hs K) hx, tab_geti hy, hIn]
      rcases steps_eq hN cs hc hs hK hf hx hy r with ⟨i, hi, hin, hno, e⟩ | ⟨hno, e⟩
      · rw [e]
        have hlast : inb r (fn (ob N cs m K) x y) = true := inb_mono hin (ob_le hi hx hy)
        rw [hlast]
        simp only [Option.bind_some, Bool.not_true, cond_false]
        refine whileK_q (Q := fun o => o = some true) (fun s => ∃ j : Nat, j ≤ i ∧ s = (ob N cs m j, (j : Int))) (fun s => i + 1 - s.2.toNat) (fun s nx hI hn => ?_) fuel _ ⟨0, by omega, rfl⟩ (by simp; omega)
        obtain ⟨j, hj, rfl⟩ := hI
        unfold syllogistlaw_RightsSteps_b33
        dsimp only at hn ⊢
        simp only [rd_row (ob_sq hs j) hx, tab_geti hy, hIn, Option.isSome_some, Bool.or_true, cond_true, Option.getD_some]
        by_cases e2 : j = i
        · subst e2
          rw [hin, Bool.not_true, Bool.and_false, cond_false]
          unfold syllogistlaw_RightsSteps_k31
          simp
        · rw [hno j (by omega), decide_eq_true (by omega)]
          simp only [Bool.not_false, Bool.and_true, cond_true]
          rw [RM_ref hN (ob_sq hs j), Option.bind_some, ← ob_succ, w64_succ (by omega)]
          exact hn _ ⟨j + 1, by omega, rfl⟩ (by dsimp only; omega)
      · rw [e, hno K (by omega)]
        rfl
  · have h3 : (chkM n m cs != 0) = true := by simpa using h
    have h4 : (chkM n m cs == 0) = false := by simpa using h
    simp [h3, h4]

theorem rightsSafes_true (fuel : Nat) (n : Int) (m : List (List Wd)) (cs : List Chain) (a b : Int) (r : Wd) (hf : 2000 < fuel := by decide) : syllogistlaw_RightsSafes fuel n m cs a b r = some true := by
  unfold syllogistlaw_RightsSafes rights_Safe rights_Steps syllogistlaw_cellCode
  rw [wrong_eq, check_eq, Option.bind_some]
  simp only [Option.bind_some]
  by_cases h : chkM n m cs = 0
  · obtain ⟨N, rfl, hN, hc, hs⟩ := chk_ok h
    obtain ⟨K, hK⟩ := lm hN cs hs
    rw [h]
    simp only [bne_self_eq_false, cond_false, out_eq, beq_self_eq_true, Bool.true_and]
    by_cases hout : (((decide (a < (0 : Int)) || decide (a ≥ (N : Int))) || decide (b < (0 : Int))) || decide (b ≥ (N : Int))) = true
    · rw [hout]; rfl
    · obtain ⟨x, y, hx, hy, rfl, rfl⟩ := out_int hout
      rw [Bool.eq_false_iff.2 hout]
      simp only [cond_false, Option.bind_some, bne_self_eq_false]
      rw [rounds_eq hN cs hs hK hf]
      have hIn : ∀ u v : Wd, syllogistref_In u v = some (inb u v) := fun _ _ => rfl
      simp only [Option.bind_some, rd_row (ob_sq hs K) hx, tab_geti hy, hIn, Option.isSome_some, Bool.or_true, cond_true, Option.getD_some]
      rcases steps_eq hN cs hc hs hK hf hx hy r with ⟨i, hi, hin, hno, e⟩ | ⟨hno, e⟩
      · rw [e, inb_mono hin (ob_le hi hx hy)]; rfl
      · rw [e, hno K (by omega)]; rfl
  · have h3 : (chkM n m cs != 0) = true := by simpa using h
    have h4 : (chkM n m cs == 0) = false := by simpa using h
    have h5 : (chkM n m cs == 5) = false := by simpa using chk_ne.2
    simp [h3, h4, h5]
end Go.Proofs.Ytehfjfaanhdbaaa.Sy
