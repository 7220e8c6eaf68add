/- Structs built, compared and given back out of cells (own lemmas); the conditions stand in each lemma. -/
import Derived.Test.YtkdhckiljfjanaaSyK
import Derived.Laws.Tables
import Derived.Laws.StructEq
import Derived.Laws.Cover3
namespace Go.Proofs.Ytkdhckiljfjanaa.Sy
open Go

section
variable {P : Program} {w0 : World} {env : Env} {x : SX} {o : Oper} {N : Nat}

def plS (P : Program) (t : TypeId) : Option (List (Nat × Nat)) :=
  match P.underlying t with
  | some (.struct fs) => fs.toList.mapM (fun f => (P.info? f.type).map fun i => (f.offset, i.size))
  | _ => none
def plA (P : Program) (t : TypeId) : Option Nat :=
  match P.underlying t with
  | some (.array _ e) => (P.info? e).map (·.size)
  | _ => none

theorem Yd.bld {t : TypeId} {parts : List (Nat × Operand)} {pvs : List (Nat × Value)} {cells : List Value} {z : Value} {pls : List (Nat × Nat)} (ho : o.op = .build t parts.toArray) (hz : (P.info? t).bind (·.zero) = some z) (hpl : plS P t = some pls)
    (hev : EvP env parts pvs) (hf : Instr.fill (pls.toArray[·]?) z.cells pvs = some cells.toArray) : Yd P w0 env x o (.agg cells.toArray) :=
  Yd.pure fun N f hg w _ => by
    have hpe : (parts.toArray.map fun x => (x.1, f.eval x.2)).toList = pvs := by simpa using hev.eval hg
    have hb : P.built t (parts.toArray.map fun x => (x.1, f.eval x.2)).toList = some cells.toArray := by
      rw [hpe]
      unfold plS at hpl
      obtain ⟨inf, hi, hiz⟩ := Option.bind_eq_some_iff.1 hz
      cases hu : P.underlying t with
      | none => simp [hu] at hpl
      | some d =>
        cases d <;> simp [hu] at hpl
        simp only [Program.built, hi, hu, hiz]
        rw [hpl]
        exact hf
    have hr := run_build (P := P) w t _ _ hb
    simp only [execOp, ho, Sem.run_bind]
    rw [hr]
    rfl

theorem Yd.bldA {t : TypeId} {parts : List (Nat × Operand)} {pvs : List (Nat × Value)} {cells : List Value} {z : Value} {n : Nat} (ho : o.op = .build t parts.toArray) (hz : (P.info? t).bind (·.zero) = some z) (hpl : plA P t = some n)
    (hev : EvP env parts pvs) (hf : Instr.fill (fun i => some (i * n, n)) z.cells pvs = some cells.toArray) : Yd P w0 env x o (.agg cells.toArray) :=
  Yd.pure fun N f hg w _ => by
    have hpe : (parts.toArray.map fun x => (x.1, f.eval x.2)).toList = pvs := by simpa using hev.eval hg
    have hb : P.built t (parts.toArray.map fun x => (x.1, f.eval x.2)).toList = some cells.toArray := by
      rw [hpe]
      unfold plA at hpl
      obtain ⟨inf, hi, hiz⟩ := Option.bind_eq_some_iff.1 hz
      cases hu : P.underlying t with
      | none => simp [hu] at hpl
      | some d =>
        cases d <;> simp [hu] at hpl
        obtain ⟨ie, h1, h2⟩ := hpl
        simp only [Program.built, hi, hu, hiz, h1, h2]
        exact hf
    have hr := run_build (P := P) w t _ _ hb
    simp only [execOp, ho, Sem.run_bind]
    rw [hr]
    rfl

theorem Yd.eqA {t t' : TypeId} {p q : Operand} {xs ys : Array Value} {b : Bool} (ho : o.op = .binOp .eql t p q t') (hg : P.eqGuardType P.depth t = false) (h : ∀ w, (binOp .eql t (.agg xs) (.agg ys)).run P w = .ok (.bool b) w) (hp : Ev env p (.agg xs)) (hq : Ev env q (.agg ys)) :
    Yd P w0 env x o (.bool b) :=
  Yd.pure fun N f hf w _ => by simp [execOp, ho, hp.eval hf, hq.eval hf, run_eqGuard_agg w .eql t p q xs ys hg, h]
theorem Yd.neA {t t' : TypeId} {p q : Operand} {xs ys : Array Value} {b : Bool} (ho : o.op = .binOp .neq t p q t') (hg : P.eqGuardType P.depth t = false) (h : ∀ w, (binOp .neq t (.agg xs) (.agg ys)).run P w = .ok (.bool b) w) (hp : Ev env p (.agg xs)) (hq : Ev env q (.agg ys)) :
    Yd P w0 env x o (.bool b) :=
  Yd.pure fun N f hf w _ => by simp [execOp, ho, hp.eval hf, hq.eval hf, run_eqGuard_agg w .neq t p q xs ys hg, h]

/-! ### What is given back -/
def rvGet (tmps : Array Value) : ResultVar → Sem Value
  | .tmp t => pure (tmps.getD t undef)
  | .cell a t => do loadVar t (← asAddr (tmps.getD a undef))

theorem results_rv (fn : Func) (tmps : Array Value) : results fn tmps = (do
    let vs ← fn.results.mapM (rvGet tmps)
    pure (if h : vs.size = 1 then vs[0] else .tuple vs)) := by
  unfold results
  have : (fun rv : ResultVar => (match rv with
    | .tmp t => pure (tmps.getD t undef)
    | .cell a t => do loadVar t (← asAddr (tmps.getD a undef)) : Sem Value)) = rvGet tmps := by
    funext rv; cases rv <;> rfl
  rw [← this]
  rfl

def Rv (P : Program) (w0 : World) (N : Nat) (env : Env) (x : SX) (rv : ResultVar) (v : Value) : Prop := ∀ f w, Fr N env f → cX w0 x w → (rvGet f.tmps rv).run P w = .ok v w

theorem Rv.t {s : Nat} {v : Value} (h : lk env s = some v) : Rv P w0 N env x (.tmp s) v := fun f w hf _ => by
  simp [rvGet, hf.ev _ _ h]
theorem Rv.c1 {s b pos : Nat} {cs : List Value} {T t : TypeId} {u : Value} (h : lk env s = some (bp b 0)) (hl : x.l[pos]? = some (hcells b cs T)) (hu : cs[0]? = some u) (h1 : one P t = true) : Rv P w0 N env x (.cell s t) u := fun f w hf hc => by
  obtain ⟨m', L1, L2, L3, _, hit, hh, _⟩ := cX_at hc hl
  subst hit
  have hcell := hh.cell (b := b) (c := cs.toArray) (t := T) (fr := (0, 0)) (by simp) 0
  have hcell' : w.cell? ⟨b, 0, none⟩ = some u := hcell.trans (by simpa using hu)
  have hr := run_load_one (P := P) (w := w) h1 hcell'
  unfold one at h1
  cases hun : P.underlying t with
  | none => simp [hun] at h1
  | some d =>
    cases d <;> simp [hun] at h1 <;> simp [rvGet, hf.ev _ _ h, bp, loadVar, isAgg, run_underlying hun, hcell', asAddr]
theorem Rv.cs {s b n pos : Nat} {cs : List Value} {T t : TypeId} (h : lk env s = some (bp b 0)) (hl : x.l[pos]? = some (hcells b cs T)) (hle : cs.length = n) (h1 : one P t = false) (hs : (P.underlying t).isSome = true) (hn : (P.info? t).map (·.size) = some n) : Rv P w0 N env x (.cell s t) (.agg cs.toArray) := fun f w hf hc => by
  obtain ⟨m', L1, L2, L3, _, hit, hh, _⟩ := cX_at hc hl
  subst hit
  obtain ⟨inf, hi, hin⟩ := Option.map_eq_some_iff.1 hn
  have hr := run_loadCells_list (P := P) (w := w) ⟨b, 0, none⟩ cs (fun j u e => by
    rw [add_none]
    have hcell := hh.cell (b := b) (c := cs.toArray) (t := T) (fr := (0, 0)) (by simp) (0 + j)
    rw [hcell]; simpa using e)
  rw [hle] at hr
  unfold one at h1
  cases hu : P.underlying t with
  | none => simp [hu] at hs
  | some d =>
    cases d <;> simp [hu] at h1 <;> simp [rvGet, hf.ev _ _ h, bp, loadVar, isAgg, run_underlying hu, sizeOf, typeInfo, hi, hin, hr, asAddr]

theorem resV1 {fn : Func} {r1 : ResultVar} {R : Ending → World → Prop} {v1 : Value} (hr : fn.results = #[r1]) (h1 : Rv P w0 N env x r1 v1) (h : ∀ w, cX w0 x w → R (.returned v1) w) (hd : dfs N = [] := by rfl) : RT w0 N (bodyPost P fn R) env x := by
  intro a w hf hc
  refine ⟨hf.df.trans hd, v1, ?_, h w hc⟩
  simp [results_rv, hr, h1 a w hf hc]
theorem resV2 {fn : Func} {r1 r2 : ResultVar} {R : Ending → World → Prop} {v1 v2 : Value} (hr : fn.results = #[r1, r2]) (h1 : Rv P w0 N env x r1 v1) (h2 : Rv P w0 N env x r2 v2) (h : ∀ w, cX w0 x w → R (.returned (.tuple #[v1, v2])) w) (hd : dfs N = [] := by rfl) : RT w0 N (bodyPost P fn R) env x := by
  intro a w hf hc
  refine ⟨hf.df.trans hd, _, ?_, h w hc⟩
  simp [results_rv, hr, h1 a w hf hc, h2 a w hf hc]
theorem resV3 {fn : Func} {r1 r2 r3 : ResultVar} {R : Ending → World → Prop} {v1 v2 v3 : Value} (hr : fn.results = #[r1, r2, r3]) (h1 : Rv P w0 N env x r1 v1) (h2 : Rv P w0 N env x r2 v2) (h3 : Rv P w0 N env x r3 v3) (h : ∀ w, cX w0 x w → R (.returned (.tuple #[v1, v2, v3])) w) (hd : dfs N = [] := by rfl) : RT w0 N (bodyPost P fn R) env x := by
  intro a w hf hc
  refine ⟨hf.df.trans hd, _, ?_, h w hc⟩
  simp [results_rv, hr, h1 a w hf hc, h2 a w hf hc, h3 a w hf hc]
end

section
variable {H : Type} {enc : TypeId × Value → H} {P : Program}
theorem trod_fld {W : World} {fuel : Nat} {cs : List Value} {x : DataW H × List MemPlace} {sp : Nat → Bool} {t : TypeId} {fs : Array Field} {k : Nat} (ht : P.underlying t = some (.struct fs)) (hk : P.cellsOf t = k) (h : DataW.trod enc P W 0 sp true fuel t cs = some x) :
    cs.length = k ∧ ∃ n, ∀ (i : Nat) (f : Field), fs[i]? = some f → ∃ y, DataW.trod enc P W 0 sp true n f.type ((cs.drop f.offset).take (P.cellsOf f.type)) = some y := by
  obtain ⟨xs, n, _, _, hl, hxl, hg⟩ := DataW.trod_struct ht h
  refine ⟨hl.trans hk, n, fun i f hf => ?_⟩
  have hi : i < xs.length := by
    have := (Array.getElem?_eq_some_iff.1 hf).1
    omega
  exact ⟨xs[i], (hg i f hf).trans (List.getElem?_eq_getElem hi)⟩
end

/-! ### Equality of structs, cell by cell -/
section
variable {P : Program} (w : World)
theorem part_one {t : TypeId} {cs : Array Value} {off : Nat} {v : Value} (h1 : one P t = true) (hv : cs[off]? = some v) : (part t cs off).run P w = .ok v w := by
  unfold one at h1
  cases hu : P.underlying t with
  | none => simp [hu] at h1
  | some d =>
    cases d <;> simp [hu] at h1 <;> simp [part, isAgg, run_underlying hu, hv]
theorem part_agg {t : TypeId} {cs : Array Value} {off n : Nat} (h1 : one P t = false) (hs : (P.underlying t).isSome = true) (hn : (P.info? t).map (·.size) = some n) : (part t cs off).run P w = .ok (.agg (cs.extract off (off + n))) w := by
  obtain ⟨inf, hi, hin⟩ := Option.map_eq_some_iff.1 hn
  unfold one at h1
  cases hu : P.underlying t with
  | none => simp [hu] at hs
  | some d =>
    cases d <;> simp [hu] at h1 <;> simp [part, isAgg, run_underlying hu, sizeOf, typeInfo, hi, hin]
theorem eqf_nil {d : Nat} {xs ys : Array Value} : (Op.eqFields d xs ys []).run P w = .ok true w := by simp [Op.eqFields]
theorem eqf_cons {d : Nat} {xs ys : Array Value} {f : Field} {fs : List Field} {a b : Value} {e r : Bool} (hn : (f.name == "_") = false) (ha : (part f.type xs f.offset).run P w = .ok a w) (hb : (part f.type ys f.offset).run P w = .ok b w)
    (he : (Op.equalIn d f.type a b).run P w = .ok e w) (hr : (Op.eqFields d xs ys fs).run P w = .ok r w) : (Op.eqFields d xs ys (f :: fs)).run P w = .ok (e && r) w := by
  have hn' : f.name ≠ "_" := by simpa using hn
  simp only [Op.eqFields, hn', ne_eq, not_false_eq_true, if_true, Sem.run_bind, ha, hb, he, Result.andThen_ok]
  cases e <;> simp [hr]
theorem eq_u {d : Nat} {t : TypeId} {k : IntKind} {n : Nat} {a b : BitVec n} (h : P.underlying t = some (.int k)) : (Op.equalIn (d + 1) t (.int k (a.toNat : Int)) (.int k (b.toNat : Int))).run P w = .ok (a == b) w := by
  rw [run_equalIn_int w d t k k _ _ h]
  congr 1
  rw [Bool.eq_iff_iff]
  simp only [beq_iff_eq]
  exact ⟨fun h => BitVec.eq_of_toNat_eq (by omega), fun h => by rw [h]⟩
theorem fields_of {t : TypeId} {fs : Array Field} (hu : P.underlying t = some (.struct fs)) : P.fieldsOf t = fs := by unfold Program.fieldsOf; rw [hu]
theorem eq_s {t : TypeId} {xs ys : Array Value} {r : Bool} {fs : Array Field} (hu : P.underlying t = some (.struct fs)) (hs : P.stoodInHeld t = false) (h : ∀ d, (Op.eqFields (d + 100) xs ys fs.toList).run P w = .ok r w) : (binOp .eql t (.agg xs) (.agg ys)).run P w = .ok (.bool r) w := by
  have hf := fields_of hu
  rw [run_eql_struct, run_equalIn_agg w _ _ _ _ (hf.symm ▸ hu) hs, hf, show 9999 = 9899 + 100 from rfl, h]; rfl
theorem eq_in {d : Nat} {t : TypeId} {xs ys : Array Value} {r : Bool} {fs : Array Field} (hu : P.underlying t = some (.struct fs)) (hs : P.stoodInHeld t = false) (h : (Op.eqFields d xs ys fs.toList).run P w = .ok r w) : (Op.equalIn (d + 1) t (.agg xs) (.agg ys)).run P w = .ok r w := by
  have hf := fields_of hu
  rw [run_equalIn_agg w _ _ _ _ (hf.symm ▸ hu) hs, hf, h]
end

/-! ### Lending two, freezing ahead of a region, nil, closures -/
theorem leX.at2 {x y : SX} {a b : Nat} {it0 it1 : HI} (h : leX x y) (h0 : x.l[a]? = some it0) (h1 : x.l[b]? = some it1) (hne : (a == b) = false) : ∃ p q : Nat, y.l[p]? = some it0 ∧ (y.l.eraseIdx p)[q]? = some it1 := by
  obtain ⟨_, X, hX⟩ := h
  have hne' : a ≠ b := by simpa using hne
  refine ⟨X.length + a, if b < a then X.length + b else X.length + b - 1, ?_, ?_⟩
  · rw [hX, List.getElem?_append_right (by omega)]; simpa using h0
  · rw [List.getElem?_eraseIdx]
    split <;> split <;> first
      | (rw [hX, List.getElem?_append_right (by omega)]; simpa using h1)
      | (exfalso; omega)
      | (rw [hX, List.getElem?_append_right (by omega), show X.length + b - 1 + 1 - X.length = b by omega]; exact h1)

section
variable {P : Program} {w0 : World} {env : Env} {x : SX} {o : Oper} {N : Nat} {α : Type} {n : Nat} {enc : α → List Value}
theorem Tr.freezeT {c : Code} {Q : Exit → Act → World → Prop} (he : ∀ x, (enc x).length = n) {pos : Nat} {v : Value} {xs : List α} {e : TypeId} (hl : x.l[pos]? = some (hown e n v xs.length (xs.flatMap enc)))
    (h : ∀ m2, Sle x.m m2 → RS (.flat n enc he) m2 v xs → Tr P w0 N c Q env ⟨m2, x.l.eraseIdx pos⟩) : Tr P w0 N c Q env x := fun a w hf hc => by
  obtain ⟨m2, h1, h2, h3⟩ := cX_freeze he hc hl
  exact h m2 h1 h2 a w hf h3
theorem Tr.freezeR {R : Rp α} {c : Code} {Q : Exit → Act → World → Prop} {pos : Nat} {v : Value} {us : List Value} {xss : List (List α)} {e : TypeId} (hr : Rows R x.m us xss) (hl : x.l[pos]? = some (hown e 1 v xss.length us))
    (h : ∀ m2, Sle x.m m2 → RS R.slice m2 v xss → Tr P w0 N c Q env ⟨m2, x.l.eraseIdx pos⟩) : Tr P w0 N c Q env x := fun a w hf hc => by
  obtain ⟨m2, h1, h2, h3⟩ := cX_freezeR hc hr hl
  exact h m2 h1 h2 a w hf h3
theorem Tr.cast {c : Code} {Q : Exit → Act → World → Prop} {m' : Snap} {l' : List HI} (hm : x.m = m') (hl : x.l = l') (h : Tr P w0 N c Q env ⟨m', l'⟩) : Tr P w0 N c Q env x := by
  subst hm hl; exact h

def nilq : Value → Bool
  | .slice a _ _ => a.isNone
  | _ => false
theorem RS.nil_of {R : Rp α} {m : Snap} {v : Value} {xs : List α} (h : RS R m v xs) (hn : nilq v = true) : xs = [] := by
  cases xs with
  | nil => rfl
  | cons y ys =>
    obtain ⟨cs, _, b, off, l, c, rfl, _⟩ := h.2.2 0 (by simp)
    simp [nilq] at hn
theorem Yd.eqnil {R : Rp α} {m : Snap} {v : Value} {xs : List α} {p q : Operand} {t t' e : TypeId} (h : RS R m v xs) (ho : o.op = .binOp .eql t p q t') (ht : P.underlying t = some (.slice e)) (hp : Ev env p v) (hq : Ev env q (.slice none 0 0)) : Yd P w0 env x o (.bool (nilq v)) := by
  obtain ⟨⟨a, cap, rfl, _⟩, _⟩ := h
  refine Yd.pure fun N f hf w _ => ?_
  have he := run_equal_slice_nil (P := P) w t e a xs.length cap ht
  simp [execOp, ho, hp.eval hf, hq.eval hf, eqGuard, binOp, he, nilq]

theorem Yd.mkf {k : FuncId} {caps : List Operand} {vs : List Value} (ho : o.op = .makeFunc (.func k) #[] caps.toArray) (ha : EvL env caps vs) : Yd P w0 env x o (.func (.func k) #[] vs.toArray) :=
  Yd.pure fun N f hf w _ => by
    have := ha.eval hf
    simp [execOp, ho, Instr.makeFunc, this]

/-- A function's value, as a plain function that reads and turns nothing. -/
def Fq (P : Program) (w0 : World) (x : SX) (uf : Value) {α β : Type} (Ra : Snap → Value → α → Prop) (eb : β → Value) (f : α → Option β) : Prop :=
  ∃ k caps fn, uf = .func (.func k) #[] (List.toArray caps) ∧ P.funcs[k]? = some fn ∧ (fn.name == "runtime.NumGoroutine") = false ∧ fn.body.isNone = false ∧
    ∀ x', leX x x' → ∀ w, cX w0 x' w → ∀ v a r, Ra x'.m v a → f a = some r → Calls P k (v :: caps).toArray w (fun e w' => e = .returned (eb r) ∧ cX w0 x' w')
theorem Fq.mono {x x' : SX} {uf : Value} {α β : Type} {Ra : Snap → Value → α → Prop} {eb : β → Value} {f : α → Option β} (h : Fq P w0 x uf Ra eb f) (hx : leX x x') : Fq P w0 x' uf Ra eb f := by
  obtain ⟨k, caps, fn, h1, h2, h3, h4, h5⟩ := h
  exact ⟨k, caps, fn, h1, h2, h3, h4, fun y hy => h5 y (leX_trans _ _ _ hx hy)⟩
theorem Yd.callF {x0 : SX} {uf v : Value} {α β : Type} {Ra : Snap → Value → α → Prop} {eb : β → Value} {f : α → Option β} {p q : Operand} {ts : Array TypeId} {a : α} {r : β} (h : Fq P w0 x0 uf Ra eb f) (hx0 : leX x0 x) (ho : o.op = .call { callee := .value p, args := #[q], argTypes := ts }) (hp : Ev env p uf) (hq : Ev env q v) (hv : ∀ m', Sle x.m m' → Ra m' v a) (hr : f a = some r) : Yd P w0 env x o (eb r) := by
  obtain ⟨k, caps, fn, rfl, hf, hn, hb, hc⟩ := h
  intro N ac hfr x' hx w hw
  unfold eff
  have h1 : (execOp ac.eval o).run P w = .ok (.enter k (v :: caps).toArray) w := by
    have hn' : fn.name ≠ "runtime.NumGoroutine" := by simpa using hn
    have hb' : fn.body ≠ none := by intro h; rw [h] at hb; cases hb
    simp [execOp, ho, resolve, hp.eval hfr, hq.eval hfr, Deferred.ofValue, invoke, callFunc, hf, hn', hb']
  rw [h1]
  exact (hc x' (leX_trans _ _ _ hx0 hx) w hw v a r (hv _ hx.1) hr).mono fun e w' ⟨he, hw'⟩ => ⟨_, he, rfl, hw'⟩
end
end Go.Proofs.Ytkdhckiljfjanaa.Sy
