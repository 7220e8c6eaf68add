/- The order of a statement's operations: one walk in one order serves every order that Go leaves open (own lemmas over the kit's 'wpAny'); no condition. -/
import Derived.Still
import Derived.OrdersIn
namespace Go.Proofs.Ytkdhckiljfjanaa.Sy
open Go

/-- What an operation leaves: a value and a world. -/
def effUpon (P : Program) (R : Value → World → Prop) : Result Next → Prop
  | .ok (.value v) w' => R v w'
  | .ok .skip w' => R undef w'
  | .ok (.enter f args) w' => Calls P f args w' (fun e w'' => ∃ v, e = .returned v ∧ R v w'')
  | .ok (.round l f tmps assign body) w' => RoundIn Fence.wide 0 P l f tmps assign body w' (fun e w'' => ∃ v, e = .returned v ∧ R v w'')
  | _ => False

def eff (P : Program) (o : Oper) (a : Act) (w : World) (R : Value → World → Prop) : Prop := effUpon P R ((execOp a.eval o).run P w)

theorem effUpon_mono {P : Program} {R R' : Value → World → Prop} {r : Result Next} (h : ∀ v w, R v w → R' v w) (hh : effUpon P R r) : effUpon P R' r := by
  cases r with
  | halt x w => exact hh
  | ok n w =>
    cases n <;> simp only [effUpon] at hh ⊢
    case value v => exact h _ _ hh
    case skip => exact h _ _ hh
    case enter f args => exact hh.mono fun e w' ⟨v, he, hr⟩ => ⟨v, he, h _ _ hr⟩
    case round l f tmps assign body => exact hh.mono fun e w' ⟨v, he, hr⟩ => ⟨v, he, h _ _ hr⟩

theorem eff_mono {P : Program} {o : Oper} {a : Act} {w : World} {R R' : Value → World → Prop} (h : ∀ v w, R v w → R' v w) (hh : eff P o a w R) : eff P o a w R' := effUpon_mono h hh

/-! ### The code of a function, and the code of a loop's round: one walk -/
/-- How wide a frame is, and the mark that a range over a function leaves (N: width + 4096 * k; k = 0: in any frame; k = 1: in a function's own; k = D + 2: in one that bears the mark of block D). -/
def szs (N : Nat) : Nat := N % 4096
def dfs (N : Nat) : List Deferred := if N < 8192 then [] else [{ target := .collected (N / 4096 - 2), args := #[] }]
def okr (N : Nat) (r : Option Nat) : Prop := N < 4096 ∨ r = none
abbrev FR (r : Option Nat) : Fence := { Fence.wide with round := r }
def wpR (N : Nat) (P : Program) (c : Code) (Q : Exit → Act → World → Prop) (a : Act) (w : World) : Prop := ∀ r, okr N r → c.wpIn (FR r) 0 P Q a w

theorem wpIn_of_eff {P : Program} {r : Option Nat} {o : Oper} {a : Act} {w : World} {R : Value → World → Prop} {K : Act → World → Prop} {Q : Exit → Act → World → Prop}
    (h : ∀ v w', R v w' → K (a.put o.dst v) w') (hh : eff P o a w R) : o.wpIn (FR r) 0 P a w K Q := by
  unfold eff at hh
  unfold Oper.wpIn
  refine ⟨fun _ _ => trivial, ?_⟩
  have hs : o.semAt (FR r).round a.eval = execOp a.eval o := by
    refine Oper.semAt_eq r a.eval o fun c hc => ?_
    simp only [execOp, hc, Sem.run_bind] at hh
    cases hr : (resolve a.eval c o.type).run P w with
    | halt x w' => rw [hr] at hh; simp [Result.andThen, effUpon] at hh
    | ok d w' => rw [hr] at hh; simp [Result.andThen, effUpon] at hh
  rw [hs]
  generalize (execOp a.eval o).run P w = q at *
  cases q with
  | halt x w => exact hh.elim
  | ok n w =>
    cases n <;> simp only [effUpon] at hh <;> simp only [Oper.uponIn]
    case value v => exact h _ _ hh
    case skip => exact h _ _ hh
    case enter f args =>
      refine ⟨fun h => (by cases h), ?_⟩
      have h2 : CallsIn Fence.wide (0 - 1) P f args w _ := callsIn_wide.2 hh
      exact CallsIn.mono h2 fun e w' ⟨v, he, hr⟩ => by subst he; exact h _ _ hr
    case round l f tmps assign body =>
      refine ⟨fun h => (by cases h), ?_⟩
      exact RoundIn.mono hh fun e w' ⟨v, he, hr⟩ => by subst he; exact h _ _ hr

/-- An order that is walked; at 'two' either one may come first. -/
inductive Ord
  | nil
  | one (i : Nat) (r : Ord)
  | two (i j : Nat) (r q : Ord)
  | three (i j k : Nat) (r q s : Ord)
def Ord.of : List Nat → Ord
  | [] => .nil
  | i :: r => .one i (Ord.of r)
def Ord.size : Ord → Nat
  | .nil => 0
  | .one _ r => r.size + 1
  | .two _ _ r _ => r.size + 1
  | .three _ _ _ r _ _ => r.size + 1

section
variable {ι : Type} {P : Program} {ops : Array Oper} {md : Region.Mode} {c : ι → World → Prop} {le : ι → ι → Prop} {kd hd jd jq : Nat → Bool} {J : ι → Prop}

/-- One value, in every class from x on. -/
def quietX (P : Program) (c : ι → World → Prop) (le : ι → ι → Prop) (o : Oper) (a : Act) (x : ι) (v : Value) : Prop :=
  ∀ x', le x x' → ∀ w, c x' w → eff P o a w (fun u w' => u = v ∧ c x' w')

/-- An operation that asks of memory no more than J may stand in every class of J. -/
def leQ (le : ι → ι → Prop) (J : ι → Prop) (q b : Bool) (x y : ι) : Prop := (b = true ∧ (q = true → J y)) ∨ le x y

/-- Operation number i: quiet (kd i = false; hd i: in every class), or one that turns the class (hd i: to any class). -/
def opX (P : Program) (ops : Array Oper) (c : ι → World → Prop) (le : ι → ι → Prop) (J : ι → Prop) (jd jq kd hd : Nat → Bool) (i : Nat) (K : Act → ι → Prop) (a : Act) (x : ι) : Prop :=
  match ops[i]? with
  | none => K a x
  | some o => if Region.wanted o (yielded ops a.tmps) then
      (match kd i with
       | false => ∃ v, quietX P c (leQ le J (jq i) (hd i)) o a x v ∧ K (a.put o.dst v) x
       | true => ∀ w, c x w → eff P o a w (fun v w' => ∃ x', ((hd i = true ∨ le x x') ∧ (jd i = true → J x')) ∧ c x' w' ∧ K (a.put o.dst v) x'))
      else K (a.put o.dst undef) x

def WX (P : Program) (ops : Array Oper) (c : ι → World → Prop) (le : ι → ι → Prop) (J : ι → Prop) (jd jq kd hd : Nat → Bool) (Q : Act → ι → Prop) : Ord → Act → ι → Prop
  | .nil, a, x => Q a x
  | .one i r, a, x => opX P ops c le J jd jq kd hd i (WX P ops c le J jd jq kd hd Q r) a x
  | .two i j r q, a, x => opX P ops c le J jd jq kd hd i (WX P ops c le J jd jq kd hd Q r) a x ∧ opX P ops c le J jd jq kd hd j (WX P ops c le J jd jq kd hd Q q) a x
  | .three i j k r q s, a, x => opX P ops c le J jd jq kd hd i (WX P ops c le J jd jq kd hd Q r) a x ∧ opX P ops c le J jd jq kd hd j (WX P ops c le J jd jq kd hd Q q) a x ∧ opX P ops c le J jd jq kd hd k (WX P ops c le J jd jq kd hd Q s) a x

theorem opX_mono {i : Nat} {a : Act} {x : ι} {K K' : Act → ι → Prop} (h : ∀ a x, K a x → K' a x) (hh : opX P ops c le J jd jq kd hd i K a x) : opX P ops c le J jd jq kd hd i K' a x := by
  unfold opX at *
  split
  · rename_i ho; simp only [ho] at hh; exact h _ _ hh
  · rename_i o ho
    simp only [ho] at hh
    split
    · rename_i hw
      simp only [hw, if_true] at hh
      cases hk : kd i with
      | false => simp only [hk] at hh ⊢; obtain ⟨v, h1, h2⟩ := hh; exact ⟨v, h1, h _ _ h2⟩
      | true =>
        simp only [hk] at hh ⊢
        exact fun w hw => eff_mono (fun v w' ⟨x', e1, e2, e3⟩ => ⟨x', e1, e2, h _ _ e3⟩) (hh w hw)
    · rename_i hw; simp only [hw] at hh; exact h _ _ hh

def AnyX (P : Program) (md : Region.Mode) (ops : Array Oper) (c : ι → World → Prop) (le : ι → ι → Prop) (J : ι → Prop) (jd jq kd hd : Nat → Bool) (Q : Act → ι → Prop) : Nat → Array Bool → Act → ι → Prop
  | 0, listed, a, x => Region.ready md ops listed = [] ∧ Q a x
  | fuel + 1, listed, a, x =>
    (Region.ready md ops listed = [] → Q a x) ∧
    ∀ i ∈ Region.ready md ops listed, opX P ops c le J jd jq kd hd i (AnyX P md ops c le J jd jq kd hd Q fuel (listed.setIfInBounds i true)) a x

theorem wpOp_of_opX {rr : Option Nat} (hrefl : ∀ x, le x x) {i : Nat} {a : Act} {x : ι} {K : Act → ι → Prop} {K' : Act → World → Prop} {Q' : Exit → Act → World → Prop} {w : World} (hx : c x w)
    (h : ∀ a x w', c x w' → K a x → K' a w') (hh : opX P ops c le J jd jq kd hd i K a x) : wpOpIn (FR rr) 0 P ops Q' i K' a w := by
  unfold opX at hh
  unfold wpOpIn
  split
  · rename_i ho; simp only [ho] at hh; exact h _ _ _ hx hh
  · rename_i o ho
    simp only [ho] at hh
    split
    · rename_i hw
      simp only [hw, if_true] at hh
      cases hk : kd i with
      | false =>
        simp only [hk] at hh
        obtain ⟨v, h1, h2⟩ := hh
        exact (wpIn_of_eff (fun u w' ⟨e1, e2⟩ => by subst e1; exact h _ _ _ e2 h2) (h1 x (.inr (hrefl x)) w hx))
      | true =>
        simp only [hk] at hh
        exact (wpIn_of_eff (fun u w' ⟨x', _, e2, e3⟩ => h _ _ _ e2 e3) (hh w hx))
    · rename_i hw; simp only [hw] at hh; exact ⟨fun _ _ => trivial, h _ _ _ hx hh⟩

theorem wpAny_of_anyX {rr : Option Nat} (hrefl : ∀ x, le x x) {Q : Act → ι → Prop} {Q' : Exit → Act → World → Prop} (hQ : ∀ a x w, c x w → Q a x → Q' .normal a w) : ∀ (fuel : Nat) (listed : Array Bool) (a : Act) (x : ι) (w : World), c x w →
    AnyX P md ops c le J jd jq kd hd Q fuel listed a x → wpAnyIn (FR rr) 0 P md ops Q' fuel listed a w
  | 0, _, _, _, _, hx, h => ⟨h.1, hQ _ _ _ hx h.2⟩
  | fuel + 1, _, _, _, _, hx, h => ⟨fun h0 => hQ _ _ _ hx (h.1 h0), fun i hi => wpOp_of_opX hrefl hx (fun a' x' w' hx' => wpAny_of_anyX hrefl hQ fuel _ a' x' w' hx') (h.2 i hi)⟩

/-- The same over a fixed list. -/
theorem wpOps_of_WX {rr : Option Nat} (hrefl : ∀ x, le x x) {Q : Act → ι → Prop} {Q' : Exit → Act → World → Prop} (hQ : ∀ a x w, c x w → Q a x → Q' .normal a w) : ∀ (l : List Nat) (a : Act) (x : ι) (w : World), c x w →
    WX P ops c le J jd jq kd hd Q (Ord.of l) a x → wpOpsIn (FR rr) 0 P ops Q' l a w
  | [], _, _, _, hx, h => hQ _ _ _ hx h
  | i :: r, a, x, w, hx, h => by
    have h1 : wpOpIn (FR rr) 0 P ops Q' i (wpOpsIn (FR rr) 0 P ops Q' r) a w := wpOp_of_opX hrefl hx (fun a' x' w' hx' => wpOps_of_WX hrefl hQ r a' x' w' hx') h
    rw [wpOpsIn_cons]
    exact h1

/-- In state a, in every class from x on, operation o leaves v. -/
def YX (P : Program) (ops : Array Oper) (c : ι → World → Prop) (le : ι → ι → Prop) (o : Oper) (v : Value) (a : Act) (x : ι) : Prop :=
  (Region.wanted o (yielded ops a.tmps) = true ∧ quietX P c le o a x v) ∨ (Region.wanted o (yielded ops a.tmps) = false ∧ v = undef)

theorem YX.of_same {o : Oper} {v : Value} {a a' : Act} {x x' : ι} (htr : ∀ y, le x' y → le x y) (hy : YX P ops c le o v a x) (he : execOp a'.eval o = execOp a.eval o)
    (hw : Region.wanted o (yielded ops a'.tmps) = Region.wanted o (yielded ops a.tmps)) : YX P ops c le o v a' x' := by
  unfold YX quietX eff at *
  rw [he, hw]
  rcases hy with ⟨h1, h2⟩ | h
  · exact .inl ⟨h1, fun y hy w hc => h2 y (htr y hy) w hc⟩
  · exact .inr h

theorem opX_put (htrans : ∀ x y z, le x y → le y z → le x z) (hJm : ∀ x y, le x y → J x → J y) {b q : Bool} {j : Nat} {oi oj : Oper} {v : Value} (hj : ops[j]? = some oj) (hnh : kd j = true → (b = true ∧ (q = true → jd j = true)) ∨ hd j = false) (hap : oi.apart ops oj = true)
    (hsi : ∀ cs b, oi.op ≠ .select cs b) (hsj : ∀ cs b, oj.op ≠ .select cs b) {K : Act → ι → Prop} {a : Act} {x : ι}
    (hy : YX P ops c (leQ le J q b) oi v a x) (h : opX P ops c le J jd jq kd hd j K (a.put oi.dst v) x) :
    opX P ops c le J jd jq kd hd j (fun a' x' => YX P ops c (leQ le J q b) oi v a' x' ∧ K (a'.put oi.dst v) x') a x := by
  obtain ⟨h1, h2, h3⟩ := Oper.apart_spec hap
  have keep : ∀ (x' : ι), (∀ y, leQ le J q b x' y → leQ le J q b x y) → ∀ u, YX P ops c (leQ le J q b) oi v (a.put oj.dst u) x' := fun x' hx' u =>
    hy.of_same hx' (execOp_put oi hsi a oj.dst u h3) (wanted_put oi a oj.dst u h3)
  unfold opX at *
  simp only [hj] at *
  rw [wanted_put oj a oi.dst v h1] at h
  split
  · rename_i hw
    simp only [hw, if_true] at h
    cases hk : kd j with
    | false =>
      simp only [hk] at h ⊢
      obtain ⟨u, hu, hn⟩ := h
      refine ⟨u, fun x' hx' w hc => ?_, keep x (fun _ h => h) u, by rw [← Act.put_comm a v u h2]; exact hn⟩
      have := hu x' hx' w hc
      unfold eff at *
      rwa [execOp_put oj hsj a oi.dst v h1] at this
    | true =>
      simp only [hk] at h ⊢
      intro w hc
      have := h w hc
      unfold eff at *
      rw [execOp_put oj hsj a oi.dst v h1] at this
      refine effUpon_mono ?_ this
      rintro u w' ⟨x', e1, e2, e3⟩
      refine ⟨x', e1, e2, keep x' (fun y hy => ?_) u, by rw [← Act.put_comm a v u h2]; exact e3⟩
      rcases hy with hy | hy
      · exact .inl hy
      · rcases e1.1 with e0 | e0
        · rcases hnh hk with hb | hb
          · exact .inl ⟨hb.1, fun hq => hJm _ _ hy (e1.2 (hb.2 hq))⟩
          · rw [hb] at e0; cases e0
        · exact .inr (htrans _ _ _ e0 hy)
  · rename_i hw
    simp only [hw] at h
    exact ⟨keep x (fun _ h => h) _, by rw [← Act.put_comm a v undef h2]; exact h⟩

theorem YX.opX {i : Nat} {o : Oper} {v : Value} {a : Act} {x : ι} (hi : ops[i]? = some o) (hk : kd i = false) (hy : YX P ops c (leQ le J (jq i) (hd i)) o v a x) {K : Act → ι → Prop} (h : K (a.put o.dst v) x) : opX P ops c le J jd jq kd hd i K a x := by
  unfold Sy.opX
  simp only [hi]
  rcases hy with ⟨hw, hv⟩ | ⟨hw, rfl⟩
  · simp only [hw, if_true, hk]; exact ⟨v, hv, h⟩
  · simp only [hw, Bool.false_eq_true, if_false]; exact h

theorem yX_of_opX {i : Nat} {o : Oper} {a : Act} {x : ι} {K : Act → ι → Prop} (hi : ops[i]? = some o) (hk : kd i = false) (h : Sy.opX P ops c le J jd jq kd hd i K a x) : ∃ v, YX P ops c (leQ le J (jq i) (hd i)) o v a x ∧ K (a.put o.dst v) x := by
  unfold Sy.opX at h
  simp only [hi] at h
  by_cases hw : Region.wanted o (yielded ops a.tmps) = true
  · simp only [hw, if_true, hk] at h
    obtain ⟨v, h1, h2⟩ := h
    exact ⟨v, .inl ⟨hw, h1⟩, h2⟩
  · simp only [hw] at h
    exact ⟨undef, .inr ⟨by simpa using hw, rfl⟩, h⟩

/-- What is listed holds with all that it waits for. -/
def Closed (md : Region.Mode) (ops : Array Oper) (listed : Array Bool) : Prop :=
  ∀ j oj, ops[j]? = some oj → listed.getD j false = true → ∀ e ∈ oj.after, Region.binds md e = true → listed.getD e.on false = true

theorem Closed.set {listed : Array Bool} {i : Nat} (h : Closed md ops listed) (hi : i ∈ Region.ready md ops listed) : Closed md ops (listed.setIfInBounds i true) := by
  intro j oj hj hl e he hb
  obtain ⟨_, oi, hoi, hall⟩ := mem_ready.1 hi
  by_cases hij : i = j
  · subst hij
    have : oj = oi := Option.some.inj (hj.symm.trans hoi)
    subst this
    exact getD_set_true (hall e he hb)
  · rw [getD_set_ne false hij] at hl
    exact getD_set_true (h j oj hj hl e he hb)

/-- Does j wait for i (through others, too)? -/
def ancB (md : Region.Mode) (ops : Array Oper) : Nat → Nat → Nat → Bool
  | 0, _, _ => false
  | n + 1, j, i => match ops[j]? with
    | some oj => oj.after.any fun e => Region.binds md e && (e.on == i || ancB md ops n e.on i)
    | none => false

theorem anc_listed {listed : Array Bool} (hc : Closed md ops listed) : ∀ (n j i : Nat), ancB md ops n j i = true →
    (∀ oj, ops[j]? = some oj → ∀ e ∈ oj.after, Region.binds md e = true → listed.getD e.on false = true) → listed.getD i false = true
  | 0, _, _, h, _ => by simp [ancB] at h
  | n + 1, j, i, h, hj => by
    unfold ancB at h
    split at h
    · rename_i oj hoj
      obtain ⟨e, he, hb⟩ := Array.any_eq_true'.1 h
      simp only [Bool.and_eq_true, Bool.or_eq_true, beq_iff_eq] at hb
      have hl := hj oj hoj e he hb.1
      rcases hb.2 with h1 | h1
      · rw [← h1]; exact hl
      · exact anc_listed hc n e.on i h1 (fun ok hok e' he' hb' => hc e.on ok hok hl e' he' hb')
    · cases h

/-- A hard operation stands before or behind each other one that asks memory. -/
def hardB (md : Region.Mode) (ops : Array Oper) (jd jq kd hd : Nat → Bool) : Bool :=
  (List.range ops.size).all fun j => !(kd j && hd j) || (List.range ops.size).all fun i => i == j || kd i || (hd i && (!jq i || jd j)) || ancB md ops ops.size j i || ancB md ops ops.size i j

theorem unlisted_false {listed : Array Bool} {i : Nat} (h : listed.getD i true = false) : listed.getD i false = false := by
  rcases Nat.lt_or_ge i listed.size with h' | h'
  · simp [h'] at h ⊢; exact h
  · simp [Array.getElem?_eq_none h'] at h

theorem not_hard {listed : Array Bool} (hB : hardB md ops jd jq kd hd = true) (hc : Closed md ops listed) {i j : Nat} (hki : kd i = false) (hi : i ∈ Region.ready md ops listed) (hj : j ∈ Region.ready md ops listed) (hne : j ≠ i) (hkj : kd j = true) : (hd i = true ∧ (jq i = true → jd j = true)) ∨ hd j = false := by
  obtain ⟨hui, oi, hoi, hai⟩ := mem_ready.1 hi
  obtain ⟨huj, oj, hoj, haj⟩ := mem_ready.1 hj
  have hilt : i < ops.size := (Array.getElem?_eq_some_iff.1 hoi).1
  have hjlt : j < ops.size := (Array.getElem?_eq_some_iff.1 hoj).1
  have h1 := List.all_eq_true.1 hB j (List.mem_range.2 hjlt)
  cases hh : hd j with
  | false => exact .inr rfl
  | true =>
    rw [hh, hkj] at h1
    simp only [Bool.and_self, Bool.not_true, Bool.false_or] at h1
    have h2 := List.all_eq_true.1 h1 i (List.mem_range.2 hilt)
    rw [hki] at h2
    simp only [Bool.or_eq_true, beq_iff_eq, Bool.not_eq_true', Bool.false_eq_true, or_false, Bool.and_eq_true] at h2
    rcases h2 with ((h2 | h2) | h2) | h2
    · exact absurd h2.symm hne
    · exact .inl ⟨h2.1, fun hq => by rcases h2.2 with h | h
                                     · rw [hq] at h; cases h
                                     · exact h⟩
    · have := anc_listed hc _ _ _ h2 (fun ok hok => by rw [hoj] at hok; cases hok; exact haj)
      rw [unlisted_false hui] at this; cases this
    · have := anc_listed hc _ _ _ h2 (fun ok hok => by rw [hoi] at hok; cases hok; exact hai)
      rw [unlisted_false huj] at this; cases this

/-- A quiet operation that may come up now may be taken first. -/
theorem anyX_first (htrans : ∀ x y z, le x y → le y z → le x z) (hJm : ∀ x y, le x y → J x → J y) (hB : hardB md ops jd jq kd hd = true) {Q : Act → ι → Prop} {i : Nat} {oi : Oper} {v : Value} (hi : ops[i]? = some oi) (hk : kd i = false)
    (hsel : ∀ (j : Nat) (o : Oper) cs b, ops[j]? = some o → o.op ≠ .select cs b) :
    ∀ (fuel : Nat) (listed : Array Bool) (a : Act) (x : ι), Closed md ops listed →
      (∀ j oj, ops[j]? = some oj → j ≠ i → listed.getD j true = false → (∀ e ∈ oj.after, Region.binds md e = true → e.on ≠ i) → oi.apart ops oj = true) →
      i ∈ Region.ready md ops listed → YX P ops c (leQ le J (jq i) (hd i)) oi v a x →
      AnyX P md ops c le J jd jq kd hd Q fuel (listed.setIfInBounds i true) (a.put oi.dst v) x → AnyX P md ops c le J jd jq kd hd Q (fuel + 1) listed a x := by
  intro fuel
  induction fuel with
  | zero =>
    intro listed a x _ _ hr hy H
    refine ⟨fun h => (by rw [h] at hr; cases hr), fun j hj => ?_⟩
    by_cases hji : j = i
    · subst hji; exact hy.opX hi hk H
    · have := ready_mono hj hji
      rw [H.1] at this
      cases this
  | succ fuel ih =>
    intro listed a x hcl hfree hr hy H
    refine ⟨fun h => (by rw [h] at hr; cases hr), fun j hj => ?_⟩
    by_cases hji : j = i
    · subst hji; exact hy.opX hi hk H
    · have h1 := H.2 j (ready_mono hj hji)
      obtain ⟨hjun, oj, hoj, hall⟩ := mem_ready.1 hj
      have hnot : ∀ e ∈ oj.after, Region.binds md e = true → e.on ≠ i := fun e he hb heq => by
        have h1 := hall e he hb
        have h0 := (mem_ready.1 hr).1
        rw [heq] at h1
        rw [unlisted_false h0] at h1
        cases h1
      have h2 := opX_put htrans hJm hoj (not_hard hB hcl hk hr hj hji) (hfree j oj hoj hji hjun hnot) (fun cs b => hsel i oi cs b hi) (fun cs b => hsel j oj cs b hoj) hy h1
      have hfree' : ∀ k ok, ops[k]? = some ok → k ≠ i → (listed.setIfInBounds j true).getD k true = false →
          (∀ e ∈ ok.after, Region.binds md e = true → e.on ≠ i) → oi.apart ops ok = true := fun k ok hk hki hun hno => by
        refine hfree k ok hk hki ?_ hno
        by_cases hjk : j = k
        · subst hjk; exact hjun
        · rw [getD_set_ne true hjk] at hun; exact hun
      refine opX_mono (fun a' x' h3 => ih (listed.setIfInBounds j true) a' x' (hcl.set hj) hfree' (ready_mono hr (Ne.symm hji)) h3.1 ?_) h2
      rw [Array.setIfInBounds_comm _ _ hji]
      exact h3.2

/-- The order that is walked: at a quiet operation the others wait for it or are apart; where an operation turns the class, no other one may come up. -/
def okFrom (md : Region.Mode) (ops : Array Oper) (kd : Nat → Bool) : Ord → Array Bool → Bool
  | .nil, listed => (Region.ready md ops listed).isEmpty
  | .one i r, listed => (Region.ready md ops listed).contains i && (if kd i then Region.ready md ops listed == [i] else Region.free md ops listed i) && okFrom md ops kd r (listed.setIfInBounds i true)
  | .two i j r q, listed => (Region.ready md ops listed == [i, j]) && Nat.beq r.size q.size && okFrom md ops kd r (listed.setIfInBounds i true) && okFrom md ops kd q (listed.setIfInBounds j true)
  | .three i j k r q s, listed => (Region.ready md ops listed == [i, j, k]) && Nat.beq r.size q.size && Nat.beq r.size s.size && okFrom md ops kd r (listed.setIfInBounds i true) && okFrom md ops kd q (listed.setIfInBounds j true) && okFrom md ops kd s (listed.setIfInBounds k true)

def okX (ops : Array Oper) (jd jq kd hd : Nat → Bool) (l : Ord) : Bool :=
  Region.noSelect ops && hardB .any ops jd jq kd hd && okFrom .any ops kd l (Array.replicate ops.size false)

theorem anyX_of_WX (htrans : ∀ x y z, le x y → le y z → le x z) {Q : Act → ι → Prop} (hJm : ∀ x y, le x y → J x → J y) (hs : Region.noSelect ops = true) (hB : hardB md ops jd jq kd hd = true) : ∀ (l : Ord) (listed : Array Bool) (a : Act) (x : ι), Closed md ops listed →
    okFrom md ops kd l listed = true → WX P ops c le J jd jq kd hd Q l a x → AnyX P md ops c le J jd jq kd hd Q l.size listed a x
  | .nil, _, _, _, _, hO, h => ⟨by simpa [okFrom] using hO, h⟩
  | .one i r, listed, a, x, hcl, hO, h => by
    simp only [okFrom, Bool.and_eq_true] at hO
    obtain ⟨⟨hr, hf⟩, hO'⟩ := hO
    have hr' : i ∈ Region.ready md ops listed := by simpa using hr
    obtain ⟨_, oi, hoi, _⟩ := mem_ready.1 hr'
    cases hk : kd i with
    | false =>
      simp only [hk, Bool.false_eq_true, if_false] at hf
      obtain ⟨v, hy, hK⟩ := yX_of_opX hoi hk h
      exact anyX_first htrans hJm hB hoi hk (Region.noSelect_spec hs) r.size listed a x hcl (Region.free_spec hoi hf) hr' hy
        (anyX_of_WX htrans hJm hs hB r _ _ _ (hcl.set hr') hO' hK)
    | true =>
      simp only [hk, if_true, beq_iff_eq] at hf
      refine ⟨fun h0 => (by rw [h0] at hr'; cases hr'), fun j hj => ?_⟩
      rw [hf] at hj
      obtain rfl : j = i := by simpa using hj
      exact opX_mono (fun a' x' h' => anyX_of_WX htrans hJm hs hB r _ a' x' (hcl.set hr') hO' h') h
  | .two i j r q, listed, a, x, hcl, hO, h => by
    simp only [okFrom, Bool.and_eq_true, beq_iff_eq] at hO
    obtain ⟨⟨⟨hr, hz⟩, hO1⟩, hO2⟩ := hO
    have hz' : r.size = q.size := Nat.eq_of_beq_eq_true hz
    have hi : i ∈ Region.ready md ops listed := by rw [hr]; simp
    have hj : j ∈ Region.ready md ops listed := by rw [hr]; simp
    refine ⟨fun h0 => (by rw [h0] at hi; cases hi), fun m hm => ?_⟩
    rw [hr] at hm
    simp only [List.mem_cons, List.not_mem_nil, or_false] at hm
    rcases hm with rfl | rfl
    · exact opX_mono (fun a' x' h' => anyX_of_WX htrans hJm hs hB r _ a' x' (hcl.set hi) hO1 h') h.1
    · refine opX_mono (fun a' x' h' => ?_) h.2
      have := anyX_of_WX htrans hJm hs hB q _ a' x' (hcl.set hj) hO2 h'
      rw [← hz'] at this
      exact this
  | .three i j k r q s, listed, a, x, hcl, hO, h => by
    simp only [okFrom, Bool.and_eq_true, beq_iff_eq] at hO
    obtain ⟨⟨⟨⟨⟨hr, hz⟩, hz3⟩, hO1⟩, hO2⟩, hO3⟩ := hO
    have hz' : r.size = q.size := Nat.eq_of_beq_eq_true hz
    have hz3' : r.size = s.size := Nat.eq_of_beq_eq_true hz3
    have hi : i ∈ Region.ready md ops listed := by rw [hr]; simp
    have hj : j ∈ Region.ready md ops listed := by rw [hr]; simp
    have hk : k ∈ Region.ready md ops listed := by rw [hr]; simp
    refine ⟨fun h0 => (by rw [h0] at hi; cases hi), fun m hm => ?_⟩
    rw [hr] at hm
    simp only [List.mem_cons, List.not_mem_nil, or_false] at hm
    rcases hm with rfl | rfl | rfl
    · exact opX_mono (fun a' x' h' => anyX_of_WX htrans hJm hs hB r _ a' x' (hcl.set hi) hO1 h') h.1
    · refine opX_mono (fun a' x' h' => ?_) h.2.1
      have := anyX_of_WX htrans hJm hs hB q _ a' x' (hcl.set hj) hO2 h'
      rw [← hz'] at this
      exact this
    · refine opX_mono (fun a' x' h' => ?_) h.2.2
      have := anyX_of_WX htrans hJm hs hB s _ a' x' (hcl.set hk) hO3 h'
      rw [← hz3'] at this
      exact this

theorem okFrom_length : ∀ (l : Ord) (listed : Array Bool), okFrom md ops kd l listed = true → (Region.ready md ops listed).length ≤ ops.size := by
  intro l listed _
  unfold Region.ready
  exact Nat.le_trans (List.length_filter_le _ _) (by simp)

theorem anyX_more (hrefl : ∀ x, le x x) {Q : Act → ι → Prop} : ∀ (f : Nat) (listed : Array Bool) (a : Act) (x : ι), AnyX P md ops c le J jd jq kd hd Q f listed a x → AnyX P md ops c le J jd jq kd hd Q (f + 1) listed a x
  | 0, _, _, _, h => ⟨fun _ => h.2, fun i hi => by rw [h.1] at hi; cases hi⟩
  | f + 1, _, _, _, h => ⟨h.1, fun i hi => opX_mono (fun a' x' h' => anyX_more hrefl f _ a' x' h') (h.2 i hi)⟩

/-- A region that draws its order. -/
theorem wp_region_x {id : Nat} {Q : Act → ι → Prop} {Q' : Exit → Act → World → Prop} {a : Act} {x : ι} {w : World} (l : Ord) (hrefl : ∀ x, le x x) (htrans : ∀ x y z, le x y → le y z → le x z) (hJm : ∀ x y, le x y → J x → J y)
    (hm : P.follows .mixedOrders = true) (hlen : l.size = ops.size) (hB : okX ops jd jq kd hd l = true) (hx : c x { w with drawn := w.drawn + 1 })
    (hQ : ∀ a x w, c x w → Q a x → Q' .normal a w) (h : WX P ops c le J jd jq kd hd Q l a x) (rr : Option Nat) : (Code.region id ops true).wpIn (FR rr) 0 P Q' a w := by
  simp only [okX, Bool.and_eq_true] at hB
  have h0 : Closed .any ops (Array.replicate ops.size false) := fun j oj _ hl => by
    exfalso
    have : (Array.replicate ops.size false).getD j false = false := by
      rcases Nat.lt_or_ge j ops.size with h | h
      · simp [h]
      · simp [h]
    rw [this] at hl; cases hl
  have hA := anyX_of_WX htrans hJm hB.1.1 hB.1.2 l _ a x h0 hB.2 h
  rw [hlen] at hA
  exact wpIn_region_any hm (wpAny_of_anyX hrefl hQ _ _ _ _ _ hx hA)

/-- A region whose order is fixed. -/
theorem wp_region_f {id : Nat} {Q : Act → ι → Prop} {Q' : Exit → Act → World → Prop} {a : Act} {x : ι} {w : World} (hrefl : ∀ x, le x x) (hx : c x w)
    (hQ : ∀ a x w, c x w → Q a x → Q' .normal a w) (h : WX P ops c le J jd jq kd hd Q (Ord.of (List.range ops.size)) a x) (rr : Option Nat) : (Code.region id ops false).wpIn (FR rr) 0 P Q' a w :=
  wpIn_region (wpOps_of_WX hrefl hQ _ _ _ _ hx h)
end
end Go.Proofs.Ytkdhckiljfjanaa.Sy
