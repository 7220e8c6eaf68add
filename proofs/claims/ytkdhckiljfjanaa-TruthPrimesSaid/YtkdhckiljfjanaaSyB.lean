/- Frames as lists of slots, memory as a snapshot that stays and parts that are owned, and the rules of the walk over them (own lemmas over the kit's wp); no condition. -/
import Derived.Test.YtkdhckiljfjanaaSyA
import Derived.WalkKit
namespace Go.Proofs.Ytkdhckiljfjanaa.Sy
open Go

/-! ### Frames -/
abbrev Env := List (Nat × Value)
def lk : Env → Nat → Option Value
  | [], _ => none
  | (s, v) :: r, k => bif Nat.beq s k then some v else lk r k

structure Fr (N : Nat) (env : Env) (a : Act) : Prop where
  df : a.defers = dfs N
  sz : a.tmps.size = szs N
  ev : ∀ s v, lk env s = some v → a.tmps[s]? = some v

theorem lk_cons (s : Nat) (v : Value) (r : Env) (k : Nat) : lk ((s, v) :: r) k = if s = k then some v else lk r k := by
  show (bif Nat.beq s k then some v else lk r k) = _
  cases h : Nat.beq s k with
  | true => simp [Nat.eq_of_beq_eq_true h]
  | false =>
    have : s ≠ k := Nat.ne_of_beq_eq_false h
    simp [this]

theorem Fr.put {N : Nat} {env : Env} {a : Act} {d : Nat} (h : Fr N env a) (hd : d < szs N) (v : Value) : Fr N ((d, v) :: env) (a.put (some d) v) := by
  refine ⟨h.df, by simp [Act.put, h.sz], fun s u hs => ?_⟩
  rw [lk_cons] at hs
  simp only [Act.put]
  by_cases e : d = s
  · subst e
    simp only [if_true, Option.some.injEq] at hs
    subst hs
    rw [Array.getElem?_setIfInBounds_self]
    simp [h.sz, hd]
  · simp only [e, if_false] at hs
    rw [Array.getElem?_setIfInBounds_ne e]
    exact h.ev s u hs

def Sub (env : Env) : Env → Prop
  | [] => True
  | p :: r => lk env p.1 = some p.2 ∧ Sub env r

theorem Sub.spec {env : Env} : ∀ {env' : Env}, Sub env env' → ∀ s v, lk env' s = some v → lk env s = some v
  | [], _, s, v, h => by simp [lk] at h
  | (k, u) :: r, hs, s, v, h => by
    rw [lk_cons] at h
    by_cases e : k = s
    · subst e
      simp only [if_true, Option.some.injEq] at h
      subst h
      exact hs.1
    · simp only [e, if_false] at h
      exact hs.2.spec s v h

theorem Fr.sub {N : Nat} {env env' : Env} {a : Act} (h : Fr N env a) (hs : Sub env env') : Fr N env' a := ⟨h.df, h.sz, fun s v e => h.ev s v (hs.spec s v e)⟩

/-- A value under a guard. -/
def gv (g : Bool) (v : Value) : Value := bif g then v else undef
theorem gv_true {g : Bool} {v : Value} (h : g = true) : gv g v = v := by subst h; rfl

inductive Ev (env : Env) : Operand → Value → Prop
  | t {s : Nat} {v : Value} (h : lk env s = some v) : Ev env (.tmp s) v
  | g {s : Nat} {g : Bool} {v : Value} (h : lk env s = some (gv g v)) (hg : g = true) : Ev env (.tmp s) v
  | c {v : Value} : Ev env (.const v) v
  | f {k : FuncId} : Ev env (.func k) (.func (.func k) #[] #[])

theorem Fr.eval_tmp {N : Nat} {env : Env} {a : Act} (h : Fr N env a) {s : Nat} {v : Value} (hs : lk env s = some v) : a.eval (.tmp s) = v := by
  have := h.ev s v hs
  show a.tmps.getD s undef = v
  simp [Array.getD_eq_getD_getElem?, this]

theorem Ev.eval {N : Nat} {env : Env} {a : Act} {o : Operand} {v : Value} (he : Ev env o v) (h : Fr N env a) : a.eval o = v := by
  cases he with
  | t hs => exact h.eval_tmp hs
  | g hs hg => rw [h.eval_tmp hs, gv_true hg]
  | c => rfl
  | f => rfl

/-- A list of operands. -/
inductive EvL (env : Env) : List Operand → List Value → Prop
  | nil : EvL env [] []
  | cons {o : Operand} {v : Value} {os : List Operand} {vs : List Value} (h : Ev env o v) (hs : EvL env os vs) : EvL env (o :: os) (v :: vs)

theorem EvL.eval {N : Nat} {env : Env} {a : Act} {os : List Operand} {vs : List Value} (he : EvL env os vs) (h : Fr N env a) : os.map a.eval = vs := by
  induction he with
  | nil => rfl
  | cons h1 _ ih => simp [h1.eval h, ih]

/-! ### Memory -/
abbrev Snap := Nat → Option Obj
abbrev Part := List (Nat × Obj)
abbrev HI := Part → Prop

structure Hp (m : Snap) (L : Part) (w0 w : World) : Prop where
  os : w.os = w0.os
  out : w.output = w0.output
  imm : ∀ b o, m b = some o → w.heap[b]? = some o
  own : ∀ p ∈ L, w.heap[p.1]? = some p.2
  sep : ∀ p ∈ L, m p.1 = none
  nd : (L.map Prod.fst).Nodup

def Sat : List HI → Part → Prop
  | [], L => L = []
  | p :: l, L => ∃ L1 L2, L = L1 ++ L2 ∧ p L1 ∧ Sat l L2

def Sle (m m' : Snap) : Prop := ∀ b o, m b = some o → m' b = some o
theorem Sle.refl (m : Snap) : Sle m m := fun _ _ h => h
theorem Sle.trans {a b c : Snap} (h : Sle a b) (k : Sle b c) : Sle a c := fun i o e => k i o (h i o e)

structure SX where
  m : Snap
  l : List HI

def cX (w0 : World) (x : SX) (w : World) : Prop := ∃ m', Sle x.m m' ∧ ∃ L, Sat x.l L ∧ Hp m' L w0 w
def leX (x y : SX) : Prop := Sle x.m y.m ∧ ∃ X, y.l = X ++ x.l
theorem leX_refl (x : SX) : leX x x := ⟨.refl _, [], rfl⟩
theorem leX_trans (x y z : SX) (h : leX x y) (k : leX y z) : leX x z := by
  obtain ⟨h1, X, hX⟩ := h
  obtain ⟨k1, Y, hY⟩ := k
  exact ⟨h1.trans k1, Y ++ X, by rw [hY, hX, List.append_assoc]⟩

theorem Sat.split : ∀ {l1 l2 : List HI} {L : Part}, Sat (l1 ++ l2) L → ∃ L1 L2, L = L1 ++ L2 ∧ Sat l1 L1 ∧ Sat l2 L2
  | [], _, L, h => ⟨[], L, rfl, rfl, h⟩
  | p :: l1, l2, L, h => by
    obtain ⟨L1, L2, rfl, hp, hs⟩ := h
    obtain ⟨L3, L4, rfl, h3, h4⟩ := Sat.split (l1 := l1) hs
    exact ⟨L1 ++ L3, L4, by simp, ⟨L1, L3, rfl, hp, h3⟩, h4⟩

theorem Sat.join : ∀ {l1 l2 : List HI} {L1 L2 : Part}, Sat l1 L1 → Sat l2 L2 → Sat (l1 ++ l2) (L1 ++ L2)
  | [], _, L1, L2, h, k => by
    have : L1 = [] := h
    subst this; exact k
  | p :: l1, l2, _, L2, h, k => by
    obtain ⟨L3, L4, rfl, hp, hs⟩ := h
    exact ⟨L3, L4 ++ L2, by simp, hp, hs.join k⟩

theorem Hp.drop {m : Snap} {L1 L2 : Part} {w0 w : World} (h : Hp m (L1 ++ L2) w0 w) : Hp m L2 w0 w :=
  ⟨h.os, h.out, h.imm, fun p hp => h.own p (List.mem_append_right _ hp), fun p hp => h.sep p (List.mem_append_right _ hp),
    by have := h.nd; rw [List.map_append, List.nodup_append] at this; exact this.2.1⟩

theorem cX_le {w0 w : World} {x y : SX} (h : leX x y) (hc : cX w0 y w) : cX w0 x w := by
  obtain ⟨h1, X, hX⟩ := h
  obtain ⟨m', hm, L, hs, hp⟩ := hc
  rw [hX] at hs
  obtain ⟨L1, L2, rfl, _, h2⟩ := hs.split
  exact ⟨m', h1.trans hm, L2, h2, hp.drop⟩

theorem Hp.drew {m : Snap} {L : Part} {w0 w : World} (h : Hp m L w0 w) : Hp m L w0 { w with drawn := w.drawn + 1 } := ⟨h.os, h.out, h.imm, h.own, h.sep, h.nd⟩
theorem cX_drew {w0 w : World} {x : SX} (h : cX w0 x w) : cX w0 x { w with drawn := w.drawn + 1 } :=
  let ⟨m', hm, L, hs, hp⟩ := h
  ⟨m', hm, L, hs, hp.drew⟩

/-! ### Operations -/
/-- Quiet: one value in every world of the class. -/
def Yd (P : Program) (w0 : World) (env : Env) (x : SX) (o : Oper) (v : Value) : Prop := ∀ N a, Fr N env a → quietX P (cX w0) leX o a x v

/-- One that may turn memory: R says what comes of it. -/
def Ef (P : Program) (w0 : World) (env : Env) (x : SX) (o : Oper) (R : Value → SX → Prop) : Prop :=
  ∀ N a, Fr N env a → ∀ w, cX w0 x w → eff P o a w (fun v w' => ∃ x', R v x' ∧ cX w0 x' w')

theorem Yd.pure {P : Program} {w0 : World} {env : Env} {x : SX} {o : Oper} {v : Value}
    (h : ∀ N a, Fr N env a → ∀ w, cX w0 x w → (execOp a.eval o).run P w = .ok (.value v) w) : Yd P w0 env x o v := by
  intro N a hf x' hx w hc
  unfold eff
  rw [h N a hf w (cX_le hx hc)]
  exact ⟨rfl, hc⟩

section
variable {P : Program} {w0 : World} {l : List Oper} {J : SX → Prop} {jd jq kd hd : Nat → Bool} {N : Nat} {K : Act → SX → Prop}

def W (P : Program) (w0 : World) (l : List Oper) (J : SX → Prop) (jd jq kd hd : Nat → Bool) (N : Nat) (K : Act → SX → Prop) (σ : Ord) (env : Env) (x : SX) : Prop :=
  ∀ a, Fr N env a → WX P l.toArray (cX w0) leX J jd jq kd hd K σ a x

theorem W.nil {env : Env} {x : SX} (h : ∀ a, Fr N env a → K a x) : W P w0 l J jd jq kd hd N K .nil env x := fun a hf => h a hf

theorem W.q {env : Env} {x : SX} {i : Nat} {σ : Ord} {o : Oper} {d : Nat} {v : Value} (hi : l[i]? = some o) (hk : kd i = false) (hg : o.guard = none) (hd' : o.dst = some d) (hlt : d < szs N)
    (hy : Yd P w0 env x o v) (h : W P w0 l J jd jq kd hd N K σ ((d, v) :: env) x) (hh : hd i = false := by rfl) : W P w0 l J jd jq kd hd N K (.one i σ) env x := by
  intro a hf
  unfold WX opX
  have hi' : l.toArray[i]? = some o := by simpa using hi
  simp only [hi', hk, hh]
  rw [if_pos (by simp [Region.wanted, hg])]
  exact ⟨v, fun x' hx => hy N a hf x' (hx.resolve_left (by simp)), by rw [hd']; exact h _ (hf.put hlt v)⟩

/-- One that asks nothing of memory. -/
theorem W.p {env : Env} {x : SX} {i : Nat} {σ : Ord} {o : Oper} {d : Nat} {v : Value} (hi : l[i]? = some o) (hk : kd i = false) (hg : o.guard = none) (hd' : o.dst = some d) (hlt : d < szs N)
    (hy : ∀ x, Yd P w0 env x o v) (h : W P w0 l J jd jq kd hd N K σ ((d, v) :: env) x) : W P w0 l J jd jq kd hd N K (.one i σ) env x := by
  intro a hf
  unfold WX opX
  have hi' : l.toArray[i]? = some o := by simpa using hi
  simp only [hi', hk]
  rw [if_pos (by simp [Region.wanted, hg])]
  exact ⟨v, fun x' _ => hy x' N a hf x' (leX_refl x'), by rw [hd']; exact h _ (hf.put hlt v)⟩

/-- One that asks of memory no more than J. -/
theorem W.pJ {env : Env} {x : SX} {i : Nat} {σ : Ord} {o : Oper} {d : Nat} {v : Value} (hi : l[i]? = some o) (hk : kd i = false) (hg : o.guard = none) (hd' : o.dst = some d) (hlt : d < szs N)
    (hy : ∀ x, J x → Yd P w0 env x o v) (hJ : J x) (hq : jq i = true) (h : W P w0 l J jd jq kd hd N K σ ((d, v) :: env) x) : W P w0 l J jd jq kd hd N K (.one i σ) env x := by
  intro a hf
  unfold WX opX
  have hi' : l.toArray[i]? = some o := by simpa using hi
  simp only [hi', hk]
  rw [if_pos (by simp [Region.wanted, hg])]
  refine ⟨v, fun x' hx => ?_, by rw [hd']; exact h _ (hf.put hlt v)⟩
  rcases hx with hx | hx
  · exact hy x' (hx.2 hq) N a hf x' (leX_refl x')
  · exact hy x hJ N a hf x' hx

/-- Either one first. -/
theorem W.two {env : Env} {x : SX} {i j : Nat} {σ τ : Ord} (h : W P w0 l J jd jq kd hd N K (.one i σ) env x) (h' : W P w0 l J jd jq kd hd N K (.one j τ) env x) : W P w0 l J jd jq kd hd N K (.two i j σ τ) env x := fun a hf => ⟨h a hf, h' a hf⟩
theorem W.three {env : Env} {x : SX} {i j k : Nat} {σ τ υ : Ord} (h : W P w0 l J jd jq kd hd N K (.one i σ) env x) (h' : W P w0 l J jd jq kd hd N K (.one j τ) env x) (h'' : W P w0 l J jd jq kd hd N K (.one k υ) env x) : W P w0 l J jd jq kd hd N K (.three i j k σ τ υ) env x := fun a hf => ⟨h a hf, h' a hf, h'' a hf⟩

/-- The guard's outcome, off the frame. -/
inductive Gd (env : Env) : Nat → Bool → Bool → Prop
  | t {s : Nat} {c : Bool} (h : lk env s = some (.bool c)) (want : Bool) : Gd env s want (c == want)
  | g {s : Nat} {g c : Bool} (h : lk env s = some (gv g (.bool c))) (want : Bool) : Gd env s want (g && (c == want))

theorem Gd.wanted {env : Env} {a : Act} {s j : Nat} {want G : Bool} {o oj : Oper} (h : Gd env s want G) (hf : Fr N env a) (hg : o.guard = some (j, want)) (hj : l[j]? = some oj) (hs : oj.dst = some s) :
    Region.wanted o (yielded l.toArray a.tmps) = G := by
  have hj' : l.toArray[j]? = some oj := by simpa using hj
  simp only [Region.wanted, hg, yielded, hj', Option.bind_some, hs]
  cases h with
  | t h =>
    rename_i c
    rw [hf.ev _ _ h]
    cases c <;> cases want <;> rfl
  | g h =>
    rename_i g c
    rw [hf.ev _ _ h]
    cases g
    · cases want <;> rfl
    · cases c <;> cases want <;> rfl

theorem W.g {env : Env} {x : SX} {i j s : Nat} {σ : Ord} {o oj : Oper} {d : Nat} {v : Value} {want G : Bool} (hi : l[i]? = some o) (hk : kd i = false) (hg : o.guard = some (j, want)) (hj : l[j]? = some oj) (hs : oj.dst = some s)
    (hG : Gd env s want G) (hd' : o.dst = some d) (hlt : d < szs N)
    (hy : G = true → Yd P w0 env x o v) (h : W P w0 l J jd jq kd hd N K σ ((d, gv G v) :: env) x) (hh : hd i = false := by rfl) : W P w0 l J jd jq kd hd N K (.one i σ) env x := by
  intro a hf
  unfold WX opX
  have hi' : l.toArray[i]? = some o := by simpa using hi
  simp only [hi', hk, hh]
  rw [hG.wanted hf hg hj hs]
  cases G with
  | true =>
    rw [if_pos rfl]
    exact ⟨v, fun x' hx => hy rfl N a hf x' (hx.resolve_left (by simp)), by rw [hd']; exact h _ (hf.put hlt v)⟩
  | false =>
    rw [if_neg (by simp)]
    rw [hd']
    exact h _ (hf.put hlt undef)

theorem W.e {env : Env} {x : SX} {i : Nat} {σ : Ord} {o : Oper} {d : Nat} {R : Value → SX → Prop} (hi : l[i]? = some o) (hk : kd i = true) (hg : o.guard = none) (hd' : o.dst = some d) (hlt : d < szs N)
    (hy : Ef P w0 env x o R) (h : ∀ v x', R v x' → (hd i = true ∨ leX x x') ∧ W P w0 l J jd jq kd hd N K σ ((d, v) :: env) x') (hJ : ∀ v x', R v x' → jd i = true → J x' := by intros; trivial) : W P w0 l J jd jq kd hd N K (.one i σ) env x := by
  intro a hf
  unfold WX opX
  have hi' : l.toArray[i]? = some o := by simpa using hi
  simp only [hi', hk]
  rw [if_pos (by simp [Region.wanted, hg])]
  intro w hc
  refine eff_mono ?_ (hy N a hf w hc)
  rintro v w' ⟨x', hr, hc'⟩
  obtain ⟨h1, h2⟩ := h v x' hr
  exact ⟨x', ⟨h1, hJ v x' hr⟩, hc', by rw [hd']; exact h2 _ (hf.put hlt v)⟩

/-- The same without a slot (a store). -/
theorem W.s {env : Env} {x : SX} {i : Nat} {σ : Ord} {o : Oper} {R : Value → SX → Prop} (hi : l[i]? = some o) (hk : kd i = true) (hg : o.guard = none) (hd' : o.dst = none)
    (hy : Ef P w0 env x o R) (h : ∀ v x', R v x' → (hd i = true ∨ leX x x') ∧ W P w0 l J jd jq kd hd N K σ env x') (hJ : ∀ v x', R v x' → jd i = true → J x' := by intros; trivial) : W P w0 l J jd jq kd hd N K (.one i σ) env x := by
  intro a hf
  unfold WX opX
  have hi' : l.toArray[i]? = some o := by simpa using hi
  simp only [hi', hk]
  rw [if_pos (by simp [Region.wanted, hg])]
  intro w hc
  refine eff_mono ?_ (hy N a hf w hc)
  rintro v w' ⟨x', hr, hc'⟩
  obtain ⟨h1, h2⟩ := h v x' hr
  exact ⟨x', ⟨h1, hJ v x' hr⟩, hc', by rw [hd']; exact h2 _ hf⟩
end

/-! ### Code -/
section
variable {P : Program} {w0 : World} {N : Nat}

def Tr (P : Program) (w0 : World) (N : Nat) (c : Code) (Q : Exit → Act → World → Prop) (env : Env) (x : SX) : Prop :=
  ∀ a w, Fr N env a → cX w0 x w → wpR N P c Q a w

theorem Tr.sub {c : Code} {Q : Exit → Act → World → Prop} {env env' : Env} {x : SX} (hs : Sub env env') (h : Tr P w0 N c Q env' x) : Tr P w0 N c Q env x :=
  fun a w hf hc => h a w (hf.sub hs) hc

theorem Tr.le {c : Code} {Q : Exit → Act → World → Prop} {env : Env} {x y : SX} (hs : leX y x) (h : Tr P w0 N c Q env y) : Tr P w0 N c Q env x :=
  fun a w hf hc => h a w hf (cX_le hs hc)

theorem Tr.seq {c d : Code} {Q : Exit → Act → World → Prop} {env : Env} {x : SX} (h : Tr P w0 N c (Exit.then (wpR N P d Q) Q) env x) : Tr P w0 N (.seq c d) Q env x :=
  fun a w hf hc r hr => wpIn_seq (wpIn_mono (h a w hf hc r hr) fun e a w h => by
    cases e with
    | normal => exact h r hr
    | _ => exact h)

theorem Tr.skip {Q : Exit → Act → World → Prop} {env : Env} {x : SX} (h : ∀ a w, Fr N env a → cX w0 x w → Q .normal a w) : Tr P w0 N .skip Q env x :=
  fun a w hf hc _ _ => wpIn_skip (h a w hf hc)

theorem Tr.ret {Q : Exit → Act → World → Prop} {env : Env} {x : SX} (h : ∀ a w, Fr N env a → cX w0 x w → Q .ret a w) : Tr P w0 N .ret Q env x :=
  fun a w hf hc _ _ => wpIn_ret (h a w hf hc)

theorem Tr.exit {id : Nat} {Q : Exit → Act → World → Prop} {env : Env} {x : SX} (h : ∀ a w, Fr N env a → cX w0 x w → Q (.exit id) a w) : Tr P w0 N (.exit id) Q env x :=
  fun a w hf hc _ _ => wpIn_exit (h a w hf hc)

theorem Tr.cond {c : Operand} {A B : Code} {Q : Exit → Act → World → Prop} {env : Env} {x : SX} {b : Bool} (hc : Ev env c (.bool b)) (ht : b = true → Tr P w0 N A Q env x) (hf : b = false → Tr P w0 N B Q env x) :
    Tr P w0 N (.cond c A B) Q env x :=
  fun a w hfr hx r hr => wpIn_cond_split (hc.eval hfr) (fun h => ht h a w hfr hx r hr) (fun h => hf h a w hfr hx r hr)

theorem Tr.block {id : Nat} {c : Code} {Q : Exit → Act → World → Prop} {env : Env} {x : SX} (h : Tr P w0 N c (Exit.inBlock id Q) env x) : Tr P w0 N (.block id c) Q env x :=
  fun a w hf hc r hr => wpIn_block (h a w hf hc r hr)

theorem Tr.region_f {id : Nat} {l : List Oper} {Q : Exit → Act → World → Prop} {env : Env} {x : SX} (kd : Nat → Bool)
    (h : W P w0 l (fun _ => True) (fun _ => true) (fun _ => false) kd kd N (fun a x => ∀ w, cX w0 x w → Q .normal a w) (Ord.of (List.range l.length)) env x) : Tr P w0 N (.region id l.toArray false) Q env x :=
  fun a w hf hc r _ => wp_region_f (rr := r) (c := cX w0) (le := leX) (J := fun _ => True) (jd := fun _ => true) (jq := fun _ => false) (Q := fun a x => ∀ w, cX w0 x w → Q .normal a w) leX_refl hc (fun _ _ w' hc' hq => hq w' hc') (by have := h a hf; simpa using this)

/-- A region that draws its order; J: what its loads ask of memory, all along. -/
theorem Tr.region_xJ {id : Nat} {l : List Oper} {Q : Exit → Act → World → Prop} {env : Env} {x : SX} (J : SX → Prop) (hJm : ∀ x y, leX x y → J x → J y) (jd jq kd hd : Nat → Bool) (σ : Ord) (hm : P.follows .mixedOrders = true) (hB : (decide (σ.size = l.length) && okX l.toArray jd jq kd hd σ) = true)
    (h : W P w0 l J jd jq kd hd N (fun a x => ∀ w, cX w0 x w → Q .normal a w) σ env x) : Tr P w0 N (.region id l.toArray true) Q env x := by
  simp only [Bool.and_eq_true, decide_eq_true_eq] at hB
  exact fun a w hf hc r _ => wp_region_x (rr := r) (c := cX w0) (le := leX) (Q := fun a x => ∀ w, cX w0 x w → Q .normal a w) σ leX_refl leX_trans hJm hm (by simpa using hB.1) hB.2 (cX_drew hc) (fun _ _ w' hc' hq => hq w' hc') (h a hf)

theorem Tr.region_x {id : Nat} {l : List Oper} {Q : Exit → Act → World → Prop} {env : Env} {x : SX} (kd hd : Nat → Bool) (σ : Ord) (hm : P.follows .mixedOrders = true) (hB : (decide (σ.size = l.length) && okX l.toArray (fun _ => true) (fun _ => false) kd hd σ) = true)
    (h : W P w0 l (fun _ => True) (fun _ => true) (fun _ => false) kd hd N (fun a x => ∀ w, cX w0 x w → Q .normal a w) σ env x) : Tr P w0 N (.region id l.toArray true) Q env x :=
  Tr.region_xJ (fun _ => True) (fun _ _ _ _ => trivial) _ _ kd hd σ hm hB h

/-- A loop with a ghost state and a ghost measure. -/
theorem wp_loop_g {r : Option Nat} {c : Code} {Q : Exit → Act → World → Prop} (I : Nat → Act → World → Prop)
    (round : ∀ n a w, I n a w → c.wpIn (FR r) 0 P (Exit.then (fun a' w' => ∃ n', n' < n ∧ I n' a' w') Q) a w) {n : Nat} {a : Act} {w : World} (h0 : I n a w) : (Code.loop c).wpIn (FR r) 0 P Q a w := by
  intro b k cs hro hb hrm
  have key : ∀ n a w, I n a w →
      ∃ e a' w', Q e a' w' ∧ ArrivesIn (Machine.fenced P (FR r)) P (lone (b.atR a (.code c :: .inLoop c :: k)) cs w) b k cs e a' w' := by
    intro n
    induction n using Nat.strongRecOn with
    | _ n ih =>
      intro a w hI
      obtain ⟨e, a₁, w₁, hq, harr⟩ := round n a w hI b (.inLoop c :: k) cs hro hb hrm
      cases e with
      | normal =>
        obtain ⟨n', hlt, hI₁⟩ := hq
        obtain ⟨e₂, a₂, w₂, hq₂, harr₂⟩ := ih n' hlt a₁ w₁ hI₁
        exact ⟨e₂, a₂, w₂, hq₂, .of_steps (StepsIn.trans harr (.one (fenced_calm hb hrm rfl) stepR_inLoop)) harr₂⟩
      | exit id => exact ⟨_, a₁, w₁, hq, .pass (x := .inLoop c) rfl (fun _ _ => .inl (by simp)) harr⟩
      | goto l => exact ⟨_, a₁, w₁, hq, .pass (x := .inLoop c) rfl (fun _ _ => .inl (by simp)) harr⟩
      | ret => exact ⟨_, a₁, w₁, hq, .pass (x := .inLoop c) rfl (fun _ _ => .inl (by simp)) harr⟩
      | panic ch => exact ⟨_, a₁, w₁, hq, .pass (x := .inLoop c) rfl (fun _ _ => .inl (by simp)) harr⟩
      | outgrown => exact ⟨_, a₁, w₁, hq, .pass (x := .inLoop c) rfl (fun _ _ => .inl (by simp)) harr⟩
  obtain ⟨e, a', w', hq, harr⟩ := key n a w h0
  exact ⟨e, a', w', hq, .of_steps (.one (fenced_calm hb hrm rfl) stepR_loop) harr⟩

/-- A loop over ghost states: S n s says what holds of frame and memory at a round's head. -/
theorem Tr.loop {σ : Type} {c : Code} {Q : Exit → Act → World → Prop} {env : Env} {x : SX} (S : Nat → σ → Env → SX → Prop) (n : Nat) (s : σ) (h0 : S n s env x)
    (round : ∀ n s env x, S n s env x → Tr P w0 N c (Exit.then (fun a w => ∃ n' s' env' x', n' < n ∧ S n' s' env' x' ∧ Fr N env' a ∧ cX w0 x' w) Q) env x) : Tr P w0 N (.loop c) Q env x := by
  intro a w hf hc r hr
  refine wp_loop_g (I := fun n a w => ∃ s env x, S n s env x ∧ Fr N env a ∧ cX w0 x w) ?_ (n := n) ⟨s, env, x, h0, hf, hc⟩
  rintro n a w ⟨s, env, x, hs, hf, hc⟩
  refine wpIn_mono (round n s env x hs a w hf hc r hr) ?_
  intro e a w h
  cases e with
  | normal =>
    obtain ⟨n', s', env', x', hlt, hs', hf', hc'⟩ := h
    exact ⟨n', hlt, s', env', x', hs', hf', hc'⟩
  | _ => exact h

theorem inBlock_eq (id : Nat) (Q : Exit → Act → World → Prop) (a : Act) (w : World) (h : Q .normal a w) : Exit.inBlock id Q (.exit id) a w := by
  simp only [Exit.inBlock, if_true]; exact h
theorem inBlock_ne {id k : Nat} (hne : Nat.beq k id = false) (Q : Exit → Act → World → Prop) (a : Act) (w : World) (h : Q (.exit k) a w) : Exit.inBlock id Q (.exit k) a w := by
  simp only [Exit.inBlock, if_neg (Nat.ne_of_beq_eq_false hne)]; exact h

/-- What a function's body must end in: the results in slots. -/
theorem calls_of_Tr {f : FuncId} {fn : Func} {c : Code} {args : List Value} {x : SX} {w : World} {R : Ending → World → Prop} (hf : P.funcs[f]? = some fn) (hb : fn.body = some c)
    (hx : cX w0 x w) (hN : fn.ntmps = szs N) (hle : args.length ≤ szs N)
    (h : Tr P w0 N c (bodyPost P fn R) ((List.range args.length).zip args) x) (hd : dfs N = [] := by rfl) : Calls P f args.toArray w R := by
  refine calls_of_wp hf hb (wpIn_wide.1 (h _ w ⟨hd.symm, by simp [hN]; omega, ?_⟩ hx none (.inr rfl)))
  intro s v hs
  have key : ∀ (l : List Value) (k : Nat), lk ((List.range' k l.length).zip l) s = some v → k ≤ s ∧ l[s - k]? = some v := by
    intro l
    induction l with
    | nil => intro k h; simp [lk] at h
    | cons u l ih =>
      intro k h
      simp only [List.length_cons, List.range'_succ, List.zip_cons_cons] at h
      rw [lk_cons] at h
      by_cases e : k = s
      · subst e
        simp only [if_true, Option.some.injEq] at h
        simp [h]
      · simp only [e, if_false] at h
        obtain ⟨h1, h2⟩ := ih (k + 1) h
        refine ⟨by omega, ?_⟩
        rw [show s - k = (s - (k + 1)) + 1 by omega, List.getElem?_cons_succ]
        exact h2
  have := key args 0 (by rw [← List.range_eq_range']; exact hs)
  have h2 := this.2
  simp only [Nat.sub_zero] at h2
  have hlt : s < args.length := (List.getElem?_eq_some_iff.1 h2).1
  rw [Array.getElem?_append_left (by simpa using hlt)]
  simpa using h2
end
end Go.Proofs.Ytkdhckiljfjanaa.Sy
