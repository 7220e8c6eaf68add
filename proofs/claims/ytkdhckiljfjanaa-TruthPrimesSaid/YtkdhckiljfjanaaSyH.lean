/- Typed wrappers, loops as functions, and how a body ends (own lemmas); the conditions stand in each lemma. -/
import Derived.Test.YtkdhckiljfjanaaSyG
namespace Go.Proofs.Ytkdhckiljfjanaa.Sy
open Go

/-- An owned slice of plain data. -/
abbrev hownT {α : Type} (e : TypeId) (n : Nat) (enc : α → List Value) (v : Value) (xs : List α) : HI := hown e n v xs.length (xs.flatMap enc)

def encI (n : Int) : List Value := [.int .i64 n]
def encU (n : BitVec 32) : List Value := [.int .u32 n.toNat]
def encY (n : BitVec 8) : List Value := [.int .u8 n.toNat]
def encB (b : Bool) : List Value := [.bool b]
def encP (p : Int × Int) : List Value := [.int .i64 p.1, .int .i64 p.2]
abbrev rI : Rp Int := .flat 1 encI fun _ => rfl
abbrev rU : Rp (BitVec 32) := .flat 1 encU fun _ => rfl
abbrev rY : Rp (BitVec 8) := .flat 1 encY fun _ => rfl
abbrev rB : Rp Bool := .flat 1 encB fun _ => rfl
abbrev rP : Rp (Int × Int) := .flat 2 encP fun _ => rfl

/-! ### Loops as functions -/
def forK {ι σ R : Type} [Add ι] [OfNat ι 1] (body : ι → σ → (σ → Option R) → Option R) (k : σ → Option R) : Nat → ι → σ → Option R
  | 0, _, s => k s
  | n + 1, i, s => body i s (fun s' => forK body k n (i + 1) s')
def whileK {σ R : Type} (body : σ → (σ → Option R) → Option R) : Nat → σ → Option R
  | 0, _ => none
  | n + 1, s => body s (whileK body n)

theorem cond_t {α : Type} {c : Bool} {A B : α} {r : α} (hb : c = true) (hr : (bif c then A else B) = r) : A = r := by subst hb; exact hr
theorem cond_f {α : Type} {c : Bool} {A B : α} {r : α} (hb : c = false) (hr : (bif c then A else B) = r) : B = r := by subst hb; exact hr
theorem and_l {a b : Bool} (h : (a && b) = true) : a = true := by cases a <;> simp_all
theorem gd_get {α : Type} {G : Bool} {a : Option α} {d : α} (ha : (!G || a.isSome) = true) (hG : G = true) : a = some (a.getD d) := by
  subst hG
  cases a with
  | none => simp at ha
  | some y => rfl
theorem gd_dec {G : Bool} {p : Prop} [Decidable p] (ha : (!G || decide p) = true) (hG : G = true) : p := by
  subst hG; simpa using ha

theorem fr_bnd {i : Int} {n : Nat} {len : Int} (h : n + 1 = (len - i).toNat) : i < len := by omega
theorem fr_dec {i : Int} {n : Nat} {len : Int} (h : n + 1 = (len - i).toNat) : n = (len - (i + 1)).toNat := by omega
theorem fr_end {i : Int} {len : Int} (h : 0 = (len - i).toNat) : decide (i < len) = false := by simp; omega
theorem fr_go {i : Int} {n : Nat} {len : Int} (h : n + 1 = (len - i).toNat) : decide (i < len) = true := by simp; omega

theorem fu_dec {i len : BitVec 32} {n : Nat} (h : n + 1 = len.toNat - i.toNat) : n = len.toNat - (i + 1).toNat := by
  have h1 := len.isLt
  have h2 : (i + 1).toNat = i.toNat + 1 := by rw [BitVec.toNat_add]; simp; omega
  omega
theorem fu_end {i len : BitVec 32} (h : 0 = len.toNat - i.toNat) : decide (i < len) = false := by simp [BitVec.lt_def]; omega
theorem fu_go {i len : BitVec 32} {n : Nat} (h : n + 1 = len.toNat - i.toNat) : decide (i < len) = true := by simp [BitVec.lt_def]; omega

section
variable {P : Program} {w0 : World} {N : Nat}

theorem cX_nil {w0 w : World} {m : Snap} {l : List HI} {e : TypeId} {n : Nat} (hc : cX w0 ⟨m, l⟩ w) : cX w0 ⟨m, hown e n (.slice none 0 0) 0 [] :: l⟩ w := by
  obtain ⟨m', hm, L, hs, hp⟩ := hc
  exact ⟨m', hm, L, ⟨[], L, rfl, ⟨by simp, .inl ⟨rfl, rfl, rfl⟩⟩, hs⟩, hp⟩
theorem Tr.addnil {c : Code} {Q : Exit → Act → World → Prop} {env : Env} {m : Snap} {l : List HI} (e : TypeId) (n : Nat) (h : Tr P w0 N c Q env ⟨m, hown e n (.slice none 0 0) 0 [] :: l⟩) : Tr P w0 N c Q env ⟨m, l⟩ :=
  fun a w hf hc => h a w hf (cX_nil hc)
theorem hown_len {e : TypeId} {n k : Nat} {v : Value} {cells : List Value} {L : Part} (h : hown e n v k cells L) : k ≤ 9223372036854775807 := by
  rcases h.2 with ⟨_, rfl, _⟩ | ⟨b, cap, cur, _, _, h2, h3, _⟩ <;> omega
theorem Tr.lenO {c : Code} {Q : Exit → Act → World → Prop} {env : Env} {x : SX} {pos n k : Nat} {e : TypeId} {v : Value} {cells : List Value} (hl : x.l[pos]? = some (hown e n v k cells)) (h : k ≤ 9223372036854775807 → Tr P w0 N c Q env x) : Tr P w0 N c Q env x :=
  fun a w hf hc => by
    obtain ⟨_, _, L2, _, _, hit, _⟩ := cX_at hc hl
    exact h (hown_len hit) a w hf hc
theorem Tr.freeze {α : Type} {c : Code} {Q : Exit → Act → World → Prop} {env : Env} {x : SX} {n : Nat} {enc : α → List Value} (he : ∀ x, (enc x).length = n) {pos : Nat} {v : Value} {xs : List α} {e : TypeId} (hl : x.l[pos]? = some (hown e n v xs.length (xs.flatMap enc)))
    (h : ∀ m2, Sle x.m m2 → RS (.flat n enc he) m2 v xs → Tr P w0 N c Q env ⟨m2, x.l.eraseIdx pos⟩) : Tr P w0 N c Q env x := fun a w hf hc => by
  obtain ⟨m2, h1, h2, h3⟩ := cX_freeze he hc hl
  exact h m2 h1 h2 a w hf h3
theorem NX.freeze {α : Type} {Q : Exit → Act → World → Prop} {env : Env} {x : SX} {n : Nat} {enc : α → List Value} (he : ∀ x, (enc x).length = n) {pos : Nat} {v : Value} {xs : List α} {e : TypeId} (hl : x.l[pos]? = some (hown e n v xs.length (xs.flatMap enc)))
    (h : ∀ m2, Sle x.m m2 → RS (.flat n enc he) m2 v xs → ∀ a w, Fr N env a → cX w0 ⟨m2, x.l.eraseIdx pos⟩ w → Q .normal a w) : ∀ a w, Fr N env a → cX w0 x w → Q .normal a w := fun a w hf hc => by
  obtain ⟨m2, h1, h2, h3⟩ := cX_freeze he hc hl
  exact h m2 h1 h2 a w hf h3

/-! ### Where control goes -/
def NX (w0 : World) (N : Nat) (Q : Exit → Act → World → Prop) (env : Env) (x : SX) : Prop := ∀ a w, Fr N env a → cX w0 x w → Q .normal a w
def EX (w0 : World) (N : Nat) (id : Nat) (Q : Exit → Act → World → Prop) (env : Env) (x : SX) : Prop := ∀ a w, Fr N env a → cX w0 x w → Q (.exit id) a w
def RT (w0 : World) (N : Nat) (Q : Exit → Act → World → Prop) (env : Env) (x : SX) : Prop := ∀ a w, Fr N env a → cX w0 x w → Q .ret a w

theorem NX.then {c : Code} {Q Q' : Exit → Act → World → Prop} {env : Env} {x : SX} (h : Tr P w0 N c Q env x) : NX w0 N (Exit.then (wpR N P c Q) Q') env x := fun a w hf hc => h a w hf hc
theorem NX.block {id : Nat} {Q : Exit → Act → World → Prop} {env : Env} {x : SX} (h : NX w0 N Q env x) : NX w0 N (Exit.inBlock id Q) env x := fun a w hf hc => h a w hf hc
theorem NX.sub {Q : Exit → Act → World → Prop} {env env' : Env} {x : SX} (hs : Sub env env') (h : NX w0 N Q env' x) : NX w0 N Q env x := fun a w hf hc => h a w (hf.sub hs) hc
theorem NX.drop {Q : Exit → Act → World → Prop} {env : Env} {m : Snap} {l l' : List HI} (hs : l'.Sublist l) (h : NX w0 N Q env ⟨m, l'⟩) : NX w0 N Q env ⟨m, l⟩ := fun a w hf hc => h a w hf (cX_sub hs hc)
theorem NX.again {σ : Type} {S : Nat → σ → Env → SX → Prop} {n : Nat} {Q : Exit → Act → World → Prop} {env : Env} {x : SX} (n' : Nat) (s' : σ) (hlt : n' < n) (h : S n' s' env x) :
    NX w0 N (Exit.then (fun a w => ∃ n' s' env' x', n' < n ∧ S n' s' env' x' ∧ Fr N env' a ∧ cX w0 x' w) Q) env x := fun _ _ hf hc => ⟨n', s', env, x, hlt, h, hf, hc⟩
theorem EX.then {K : Act → World → Prop} {id : Nat} {Q : Exit → Act → World → Prop} {env : Env} {x : SX} (h : EX w0 N id Q env x) : EX w0 N id (Exit.then K Q) env x := fun a w hf hc => h a w hf hc
theorem EX.block {id : Nat} {Q : Exit → Act → World → Prop} {env : Env} {x : SX} (h : NX w0 N Q env x) : EX w0 N id (Exit.inBlock id Q) env x := fun a w hf hc => inBlock_eq id Q a w (h a w hf hc)
theorem EX.pass {id k : Nat} {Q : Exit → Act → World → Prop} {env : Env} {x : SX} (hne : Nat.beq k id = false) (h : EX w0 N k Q env x) : EX w0 N k (Exit.inBlock id Q) env x := fun a w hf hc => inBlock_ne hne Q a w (h a w hf hc)
theorem RT.then {K : Act → World → Prop} {Q : Exit → Act → World → Prop} {env : Env} {x : SX} (h : RT w0 N Q env x) : RT w0 N (Exit.then K Q) env x := fun a w hf hc => h a w hf hc
theorem RT.block {id : Nat} {Q : Exit → Act → World → Prop} {env : Env} {x : SX} (h : RT w0 N Q env x) : RT w0 N (Exit.inBlock id Q) env x := fun a w hf hc => h a w hf hc

theorem W.end {l : List Oper} {J : SX → Prop} {jd jq kd hd : Nat → Bool} {Q : Exit → Act → World → Prop} {env : Env} {x : SX} (h : NX w0 N Q env x) : W P w0 l J jd jq kd hd N (fun a x => ∀ w, cX w0 x w → Q .normal a w) .nil env x :=
  W.nil fun a hf w hc => h a w hf hc
theorem W.cast {l : List Oper} {J : SX → Prop} {jd jq kd hd : Nat → Bool} {K : Act → SX → Prop} {σ : Ord} {env : Env} {x : SX} {m' : Snap} {l' : List HI} (hm : x.m = m') (hl : x.l = l') (h : W P w0 l J jd jq kd hd N K σ env ⟨m', l'⟩) : W P w0 l J jd jq kd hd N K σ env x := by
  subst hm hl; exact h
theorem W.sub {l : List Oper} {J : SX → Prop} {jd jq kd hd : Nat → Bool} {K : Act → SX → Prop} {σ : Ord} {env env' : Env} {x : SX} (hs : Sub env env') (h : W P w0 l J jd jq kd hd N K σ env' x) : W P w0 l J jd jq kd hd N K σ env x :=
  fun a hf => h a (hf.sub hs)
theorem Tr.skip' {Q : Exit → Act → World → Prop} {env : Env} {x : SX} (h : NX w0 N Q env x) : Tr P w0 N .skip Q env x := Tr.skip h
theorem Tr.exit' {id : Nat} {Q : Exit → Act → World → Prop} {env : Env} {x : SX} (h : EX w0 N id Q env x) : Tr P w0 N (.exit id) Q env x := Tr.exit h
theorem Tr.ret' {Q : Exit → Act → World → Prop} {env : Env} {x : SX} (h : RT w0 N Q env x) : Tr P w0 N .ret Q env x := Tr.ret h

/-! ### The body's end -/
theorem res1 {fn : Func} {t1 : Nat} {R : Ending → World → Prop} {env : Env} {x : SX} {v1 : Value} (hr : fn.results = #[.tmp t1]) (h1 : lk env t1 = some v1) (h : ∀ w, cX w0 x w → R (.returned v1) w) (hd : dfs N = [] := by rfl) : RT w0 N (bodyPost P fn R) env x := by
  intro a w hf hc
  refine ⟨hf.df.trans hd, v1, ?_, h w hc⟩
  simp [results, hr, hf.ev _ _ h1]
theorem res2 {fn : Func} {t1 t2 : Nat} {R : Ending → World → Prop} {env : Env} {x : SX} {v1 v2 : Value} (hr : fn.results = #[.tmp t1, .tmp t2]) (h1 : lk env t1 = some v1) (h2 : lk env t2 = some v2) (h : ∀ w, cX w0 x w → R (.returned (.tuple #[v1, v2])) w) (hd : dfs N = [] := by rfl) : RT w0 N (bodyPost P fn R) env x := by
  intro a w hf hc
  refine ⟨hf.df.trans hd, _, ?_, h w hc⟩
  simp [results, hr, hf.ev _ _ h1, hf.ev _ _ h2]
theorem res3 {fn : Func} {t1 t2 t3 : Nat} {R : Ending → World → Prop} {env : Env} {x : SX} {v1 v2 v3 : Value} (hr : fn.results = #[.tmp t1, .tmp t2, .tmp t3]) (h1 : lk env t1 = some v1) (h2 : lk env t2 = some v2) (h3 : lk env t3 = some v3) (h : ∀ w, cX w0 x w → R (.returned (.tuple #[v1, v2, v3])) w) (hd : dfs N = [] := by rfl) : RT w0 N (bodyPost P fn R) env x := by
  intro a w hf hc
  refine ⟨hf.df.trans hd, _, ?_, h w hc⟩
  simp [results, hr, hf.ev _ _ h1, hf.ev _ _ h2, hf.ev _ _ h3]
theorem res0 {fn : Func} {R : Ending → World → Prop} {env : Env} {x : SX} (hr : fn.results = #[]) (h : ∀ w, cX w0 x w → R (.returned (.tuple #[])) w) (hd : dfs N = [] := by rfl) : RT w0 N (bodyPost P fn R) env x := by
  intro a w hf hc
  exact ⟨hf.df.trans hd, _, by simp [results, hr], h w hc⟩
/-- A body that ends without 'return' ends as one with it. -/
theorem NX.ret {fn : Func} {R : Ending → World → Prop} {env : Env} {x : SX} (h : RT w0 N (bodyPost P fn R) env x) : NX w0 N (bodyPost P fn R) env x := fun a w hf hc => h a w hf hc
end

section
variable {P : Program} {w0 : World} {env : Env} {x : SX} {o : Oper}
variable {α : Type} {n : Nat} {enc : α → List Value}

theorem Yd.lenT {pos : Nat} {v : Value} {xs : List α} {q : Operand} {t e e' : TypeId} (hl : x.l[pos]? = some (hownT e n enc v xs)) (ho : o.op = .call { callee := .builtin .len, args := #[q], argTypes := #[t] }) (ht : P.underlying t = some (.slice e')) (hq : Ev env q v) :
    Yd P w0 env x o (.int .i64 xs.length) := Yd.lenO hl ho ht hq
theorem Yd.idxT {xs : List α} {y : α} {pos : Nat} {v : Value} {p q : Operand} {t e e' : TypeId} {k : IntKind} {i : Int} (hl : x.l[pos]? = some (hownT e' n enc v xs)) (hy : geti xs i = some y) (ho : o.op = .indexAddr t p q) (ht : P.underlying t = some (.slice e))
    (hn : (P.info? e).map (·.size) = some n) (hp : Ev env p v) (hq : Ev env q (.int k i)) : Yd P w0 env x o (adr v (i.toNat * n)) := Yd.idxO hl hy ho ht hn hp hq
/-- An element of one cell, whole. -/
theorem Yd.ldT {pos : Nat} {v u : Value} {xs : List α} {y : α} {i : Int} {e t : TypeId} {p : Operand} (he : ∀ x, (enc x).length = n) (hl : x.l[pos]? = some (hownT e n enc v xs)) (hy : geti xs i = some y) (hu : enc y = [u]) (ho : o.op = .load t p) (h1 : one P t = true) (hp : Ev env p (adr v (i.toNat * n))) : Yd P w0 env x o u :=
  Yd.ldO hl (by have := flat_get he hy (f := 0) (u := u) (by rw [hu]; rfl); simpa using this) ho h1 hp
/-- A field of one cell. -/
theorem Yd.ldTf {pos f : Nat} {v u : Value} {xs : List α} {y : α} {i : Int} {e t : TypeId} {p : Operand} (he : ∀ x, (enc x).length = n) (hl : x.l[pos]? = some (hownT e n enc v xs)) (hy : geti xs i = some y) (hu : (enc y)[f]? = some u) (ho : o.op = .load t p) (h1 : one P t = true) (hp : Ev env p (adr v (i.toNat * n + f))) : Yd P w0 env x o u :=
  Yd.ldO hl (flat_get he hy hu) ho h1 hp
/-- An element of several cells, whole. -/
theorem Yd.ldTs {pos : Nat} {v : Value} {us : List Value} {xs : List α} {y : α} {i : Int} {e t : TypeId} {p : Operand} (he : ∀ x, (enc x).length = n) (hl : x.l[pos]? = some (hownT e n enc v xs)) (hy : geti xs i = some y) (hu : enc y = us) (h0 : 0 < n) (ho : o.op = .load t p) (h1 : one P t = false) (hs : (P.underlying t).isSome = true) (hn : (P.info? t).map (·.size) = some n) (hp : Ev env p (adr v (i.toNat * n))) : Yd P w0 env x o (.agg us.toArray) :=
  Yd.ldOs hl (by rw [flat_elem he hy, hu]) (by rw [← hu]; exact he y) h0 ho h1 hs hn hp
/-- The same of slices that are read. -/
theorem Yd.ldF {m : Snap} {v u : Value} {xs : List α} {y : α} {i : Int} {t : TypeId} {p : Operand} {he : ∀ x, (enc x).length = n} (h : RS (.flat n enc he) m v xs) (hm : Sle m x.m) (hy : geti xs i = some y) (hu : enc y = [u]) (ho : o.op = .load t p) (h1 : one P t = true) (hp : Ev env p (adr v (i.toNat * n))) : Yd P w0 env x o u :=
  Yd.ldR (by have := h.flat hy; rwa [hu] at this) hm ho h1 hp
theorem Yd.ldFf {m : Snap} {f : Nat} {v u : Value} {xs : List α} {y : α} {i : Int} {t : TypeId} {p : Operand} {he : ∀ x, (enc x).length = n} (h : RS (.flat n enc he) m v xs) (hm : Sle m x.m) (hy : geti xs i = some y) (hu : (enc y)[f]? = some u) (ho : o.op = .load t p) (h1 : one P t = true) (hp : Ev env p (adr v (i.toNat * n + f))) : Yd P w0 env x o u :=
  Yd.ldR ((h.flat hy).part hu) hm ho h1 hp
theorem Yd.ldFs {m : Snap} {v : Value} {us : List Value} {xs : List α} {y : α} {i : Int} {t : TypeId} {p : Operand} {he : ∀ x, (enc x).length = n} (h : RS (.flat n enc he) m v xs) (hm : Sle m x.m) (hy : geti xs i = some y) (hu : enc y = us) (ho : o.op = .load t p) (h1 : one P t = false) (hs : (P.underlying t).isSome = true) (hn : (P.info? t).map (·.size) = some n) (hp : Ev env p (adr v (i.toNat * n))) : Yd P w0 env x o (.agg us.toArray) :=
  Yd.ldRs (by have := h.flat hy; rwa [hu] at this) hm ho h1 hs hn (by rw [← hu]; exact he y) hp
/-- The row of a slice of slices. -/
theorem Yd.ldRow {m : Snap} {v u : Value} {i : Int} {t : TypeId} {p : Operand} (h : At m v i.toNat [u]) (hm : Sle m x.m) (ho : o.op = .load t p) (h1 : one P t = true) (hp : Ev env p (adr v (i.toNat * 1))) : Yd P w0 env x o u :=
  Yd.ldR h hm ho h1 (by rwa [Nat.mul_one] at hp)
theorem adr_head {m : Snap} {R : Rp α} {v : Value} {xs : List α} {i : Int} {y : α} (h : RS R m v xs) (hy : geti xs i = some y) : ∃ a l c, v = .slice (some a) l c := by
  obtain ⟨_, _, h2⟩ := geti_some hy
  obtain ⟨hlt, _⟩ := List.getElem?_eq_some_iff.1 h2
  obtain ⟨cs, _, ha⟩ := h.2.2 i.toNat hlt
  exact ha.head

/-- Into an owned slice of plain data: a whole element. -/
theorem Ef.stT {pos : Nat} {v u : Value} {us : List Value} {xs : List α} {y z : α} {i : Int} {e t : TypeId} {p q : Operand} (he : ∀ x, (enc x).length = n) (hl : x.l[pos]? = some (hownT e n enc v xs)) (hz : geti xs i = some z) (ho : o.op = .store t p q) (hp : Ev env p (adr v (i.toNat * n))) (hq : Ev env q u)
    (hn : (P.info? t).map (·.size) = some n) (hus : u.cells = us.toArray) (hy : enc y = us) (h1 : us.all Value.oneCell' = true) (h0 : 0 < n) : Ef P w0 env x o (fun z x' => z = undef ∧ x' = ⟨x.m, x.l.set pos (hownT e n enc v (xs.set i.toNat y))⟩) := by
  have hlen : us.length = n := by rw [← hy]; exact he y
  obtain ⟨g0, g1, g2⟩ := geti_some hz
  have hlt := (List.getElem?_eq_some_iff.1 g2).1
  have hfl := flat_length he xs
  have hle : i.toNat * n + n ≤ (xs.flatMap enc).length := by
    rw [hfl]; have := Nat.mul_le_mul_right n (show i.toNat + 1 ≤ xs.length by omega); rw [Nat.add_mul] at this; omega
  have h := Ef.stO (P := P) (w0 := w0) (env := env) (o := o) (k := i.toNat * n) (cells' := (xs.set i.toNat y).flatMap enc) hl ho hp hq hn hus hlen h1 h0 (by omega) (by rw [hlen, ← hy]; exact flat_set he hz)
  have e1 : (xs.set i.toNat y).length = xs.length := List.length_set ..
  rw [show hownT e n enc v (xs.set i.toNat y) = hown e n v xs.length ((xs.set i.toNat y).flatMap enc) by unfold hownT; rw [e1]]
  exact h
/-- A part of an element. -/
theorem Ef.stTf {pos f nn : Nat} {v u : Value} {us : List Value} {xs : List α} {y z : α} {i : Int} {e t : TypeId} {p q : Operand} (he : ∀ x, (enc x).length = n) (hl : x.l[pos]? = some (hownT e n enc v xs)) (hz : geti xs i = some z) (ho : o.op = .store t p q) (hp : Ev env p (adr v (i.toNat * n + f))) (hq : Ev env q u)
    (hn : (P.info? t).map (·.size) = some nn) (hus : u.cells = us.toArray) (hlen : us.length = nn) (hy : (enc z).take f ++ us ++ (enc z).drop (f + us.length) = enc y) (h1 : us.all Value.oneCell' = true) (h0 : 0 < nn) (hf : f + us.length ≤ n) : Ef P w0 env x o (fun z x' => z = undef ∧ x' = ⟨x.m, x.l.set pos (hownT e n enc v (xs.set i.toNat y))⟩) := by
  obtain ⟨g0, g1, g2⟩ := geti_some hz
  have hlt := (List.getElem?_eq_some_iff.1 g2).1
  have hfl := flat_length he xs
  have hle : i.toNat * n + n ≤ (xs.flatMap enc).length := by
    rw [hfl]; have := Nat.mul_le_mul_right n (show i.toNat + 1 ≤ xs.length by omega); rw [Nat.add_mul] at this; omega
  have h := Ef.stO (P := P) (w0 := w0) (env := env) (o := o) (k := i.toNat * n + f) (cells' := (xs.set i.toNat y).flatMap enc) hl ho hp hq hn hus hlen h1 h0 (by omega) (flat_setf he hz hy hf)
  have e1 : (xs.set i.toNat y).length = xs.length := List.length_set ..
  rw [show hownT e n enc v (xs.set i.toNat y) = hown e n v xs.length ((xs.set i.toNat y).flatMap enc) by unfold hownT; rw [e1]]
  exact h
/-- make of plain data. -/
theorem Ef.mkT {t e : TypeId} {p q : Operand} {kp kq : IntKind} {k : Int} {z : Value} {bytes : Nat} (d : α) (hI : (P.info? e).map (fun i => (i.zero, i.size, i.bytes)) = some (some z, n, bytes)) (ho : o.op = .makeSlice t p q) (ht : P.underlying t = some (.slice e))
    (hd : z.cells = (enc d).toArray) (hd' : (enc d).length = n) (h0n : 0 < n) (hp : Ev env p (.int kp k)) (hq : Ev env q (.int kq k)) (h0 : 0 ≤ k) (hroom : k.toNat * bytes ≤ 140737488355328) (hk : k ≤ 140737488355328) :
    Ef P w0 env x o (fun v x' => x' = ⟨x.m, hownT e n enc v (List.replicate k.toNat d) :: x.l⟩) := by
  obtain ⟨i, hi, hz, hn, hb⟩ := info_parts hI
  exact Ef.mks enc d ho ht hi hz hn hb hd hd' h0n hp hq h0 hroom hk
/-- A literal of plain data. -/
theorem Ef.bsT {t e : TypeId} {parts : List (Nat × Operand)} {vs : List Value} {ys : List α} {z : Value} {len bytes : Nat} (he : ∀ x, (enc x).length = n) (hI : (P.info? e).map (fun i => (i.zero, i.size, i.bytes)) = some (some z, n, bytes)) (ho : o.op = .buildSlice t len parts.toArray) (ht : P.underlying t = some (.slice e)) (h0 : 0 < n) (hzn : z.cells.size = n)
    (hp : EvP env parts (vs.zipIdx.map fun p => (p.2, p.1))) (hv : vs.map (fun v => v.cells.toList) = ys.map enc) (hlen : ys.length = len) (hb : len * n ≤ 16777216) :
    Ef P w0 env x o (fun v x' => x' = ⟨x.m, hownT e n enc v ys :: x.l⟩) := by
  obtain ⟨i, hi, hz, hn, hby⟩ := info_parts hI
  have hvl : vs.length = len := by have := congrArg List.length hv; simp at this; omega
  have h := Ef.bs (P := P) (w0 := w0) (env := env) (x := x) (o := o) ho ht hi hz hn h0 hzn hp hvl (by
    rw [List.all_eq_true]
    intro v hv'
    have : v.cells.toList ∈ ys.map enc := by rw [← hv]; exact List.mem_map.2 ⟨v, hv', rfl⟩
    obtain ⟨y, _, hy⟩ := List.mem_map.1 this
    have := congrArg List.length hy
    rw [he] at this
    simp at this
    simp [← this]) hb
  have e1 : (vs.flatMap fun v => v.cells.toList) = ys.flatMap enc := by rw [List.flatMap_def, hv, ← List.flatMap_def]
  rw [e1, ← hlen] at h
  exact h
theorem Ef.apI {pos : Nat} {e t : TypeId} {v vs : Value} {xs ys : List α} {z : Value} {p q : Operand} {bytes : Nat} (he : ∀ x, (enc x).length = n) (hI : (P.info? e).map (fun i => (i.zero, i.size, i.bytes)) = some (some z, n, bytes)) (hl : x.l[pos]? = some (hownT e n enc v xs)) (ho : o.op = .call { callee := .builtin .append, args := #[p, q], argTypes := #[t, t] })
    (ht : P.underlying t = some (.slice e)) (hzs : z.cells.size = n) (h0 : 0 < n) (hp : Ev env p v) (hq : Ev env q vs) (hs : Src w0 x vs ys.length (ys.flatMap enc)) (h1 : ∀ y, (enc y).all Value.oneCell' = true)
    (hroom : (xs.length + ys.length) * bytes ≤ 140737488355328) (h63 : xs.length + ys.length ≤ 140737488355328) : Ef P w0 env x o (fun v' x' => x' = ⟨x.m, x.l.set pos (hownT e n enc v' (xs ++ ys))⟩) := by
  obtain ⟨i, hi, hz, hn, hby⟩ := info_parts hI
  have h := Ef.app (P := P) (w0 := w0) (env := env) (o := o) hl ho ht hi hz hn hby hzs h0 hp hq hs (flat_length he ys) (by
    rw [List.all_eq_true]
    intro u hu
    obtain ⟨y, _, hy⟩ := List.mem_flatMap.1 hu
    exact List.all_eq_true.1 (h1 y) u hy) hroom h63
  intro N a hf w hw
  refine eff_mono ?_ (h N a hf w hw)
  rintro v' w' ⟨x', rfl, hc⟩
  refine ⟨_, rfl, ?_⟩
  have : hownT e n enc v' (xs ++ ys) = hown e n v' (xs.length + ys.length) (xs.flatMap enc ++ ys.flatMap enc) := by unfold hownT; rw [List.length_append, List.flatMap_append]
  rw [this]; exact hc
/-- A row onto an owned slice of rows. -/
theorem Ef.apR {R : Rp α} {pos pos2 : Nat} {e e' t : TypeId} {v vs u : Value} {us : List Value} {xss : List (List α)} {xs : List α} {m : Snap} {z : Value} {p q : Operand} {bytes : Nat} (hI : (P.info? e).map (fun i => (i.zero, i.size, i.bytes)) = some (some z, 1, bytes)) (hl : x.l[pos]? = some (hown e 1 v xss.length us)) (hu : RS R m u xs) (hl2 : x.l[pos2]? = some (hown e' 1 vs 1 [u]))
    (ho : o.op = .call { callee := .builtin .append, args := #[p, q], argTypes := #[t, t] }) (ht : P.underlying t = some (.slice e)) (hzs : z.cells.size = 1) (hp : Ev env p v) (hq : Ev env q vs)
    (hroom : (xss.length + 1) * bytes ≤ 140737488355328) (h63 : xss.length + 1 ≤ 140737488355328) : Ef P w0 env x o (fun v' x' => x' = ⟨x.m, x.l.set pos (hown e 1 v' (xss ++ [xs]).length (us ++ [u]))⟩) := by
  obtain ⟨i, hi, hz, hn, hby⟩ := info_parts hI
  obtain ⟨⟨a, c, rfl, _⟩, _, _⟩ := hu
  have h := Ef.app (P := P) (w0 := w0) (env := env) (o := o) (news := [.slice a xs.length c]) hl ho ht hi hz hn hby hzs (by omega) hp hq (Src.own hl2) (by simp) (by simp [Value.oneCell']) hroom h63
  rw [List.length_append]
  exact h
/-- append of plain data. -/
theorem Ef.apT {pos : Nat} {e t : TypeId} {v vs : Value} {xs ys : List α} {inf : TypeInfo} {z : Value} {p q : Operand} {bytes : Nat} (he : ∀ x, (enc x).length = n) (hl : x.l[pos]? = some (hownT e n enc v xs)) (ho : o.op = .call { callee := .builtin .append, args := #[p, q], argTypes := #[t, t] })
    (ht : P.underlying t = some (.slice e)) (hi : P.info? e = some inf) (hz : inf.zero = some z) (hn : inf.size = n) (hby : inf.bytes = bytes) (hzs : z.cells.size = n) (h0 : 0 < n) (hp : Ev env p v) (hq : Ev env q vs) (hs : Src w0 x vs ys.length (ys.flatMap enc)) (h1 : ∀ y, (enc y).all Value.oneCell' = true)
    (hroom : (xs.length + ys.length) * bytes ≤ 140737488355328) (h63 : xs.length + ys.length ≤ 140737488355328) : Ef P w0 env x o (fun v' x' => x' = ⟨x.m, x.l.set pos (hownT e n enc v' (xs ++ ys))⟩) := by
  have h := Ef.app (P := P) (w0 := w0) (env := env) (o := o) hl ho ht hi hz hn hby hzs h0 hp hq hs (flat_length he ys) (by
    rw [List.all_eq_true]
    intro u hu
    obtain ⟨y, _, hy⟩ := List.mem_flatMap.1 hu
    exact List.all_eq_true.1 (h1 y) u hy) hroom h63
  intro N a hf w hw
  refine eff_mono ?_ (h N a hf w hw)
  rintro v' w' ⟨x', rfl, hc⟩
  refine ⟨_, rfl, ?_⟩
  have : hownT e n enc v' (xs ++ ys) = hown e n v' (xs.length + ys.length) (xs.flatMap enc ++ ys.flatMap enc) := by unfold hownT; rw [List.length_append, List.flatMap_append]
  rw [this]; exact hc
end
end Go.Proofs.Ytkdhckiljfjanaa.Sy
