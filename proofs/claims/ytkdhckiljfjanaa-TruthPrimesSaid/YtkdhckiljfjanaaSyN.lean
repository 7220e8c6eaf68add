/- Effects under a guard, boxed slices (own lemmas); the conditions stand in each lemma. -/
import Derived.Test.YtkdhckiljfjanaaSyL
import Derived.Test.YtkdhckiljfjanaaSyM
namespace Go.Proofs.Ytkdhckiljfjanaa.Sy
open Go

theorem RS.cells {α : Type} {R : Rp α} {m : Snap} {v : Value} {xs : List α} (h : RS R m v xs) : v.cells = [v].toArray := by
  obtain ⟨⟨a, cap, rfl, _⟩, _⟩ := h
  rfl
theorem RS.one {α : Type} {R : Rp α} {m : Snap} {v : Value} {xs : List α} (h : RS R m v xs) : Value.oneCell' v = true := by
  obtain ⟨⟨a, cap, rfl, _⟩, _⟩ := h
  rfl

theorem ne_of_eq {P : Program} {t : TypeId} {xs ys : Array Value} {r : Bool} {w : World} (h : (binOp .eql t (.agg xs) (.agg ys)).run P w = .ok (.bool r) w) : (binOp .neq t (.agg xs) (.agg ys)).run P w = .ok (.bool (!r)) w := by
  simp only [binOp, Sem.run_bind] at h ⊢
  cases hh : (Op.equal t (.agg xs) (.agg ys)).run P w with
  | halt x w' => simp [hh] at h
  | ok b w' =>
    simp [hh] at h ⊢
    obtain ⟨rfl, rfl⟩ := h
    exact ⟨rfl, rfl⟩

section
variable {P : Program} {w0 : World} {l : List Oper} {J : SX → Prop} {jd jq kd hd : Nat → Bool} {N : Nat} {K : Act → SX → Prop}

theorem and_f {a b : Bool} (h : a = false) : (a && b) = false := by subst h; rfl

theorem W.split {b : Bool} {σ : Ord} {env : Env} {x : SX} (ht : b = true → W P w0 l J jd jq kd hd N K σ env x) (hf : b = false → W P w0 l J jd jq kd hd N K σ env x) : W P w0 l J jd jq kd hd N K σ env x := by
  cases b
  · exact hf rfl
  · exact ht rfl

theorem W.ge {env : Env} {x : SX} {i j s : Nat} {σ : Ord} {o oj : Oper} {d : Nat} {R : Value → SX → Prop} {want G : Bool} (hi : l[i]? = some o) (hk : kd i = true) (hg : o.guard = some (j, want)) (hj : l[j]? = some oj) (hs : oj.dst = some s)
    (hG : Gd env s want G) (hT : G = true) (hd' : o.dst = some d) (hlt : d < szs N) (hy : Ef P w0 env x o R) (h : ∀ v x', R v x' → (hd i = true ∨ leX x x') ∧ W P w0 l J jd jq kd hd N K σ ((d, v) :: env) x') (hJ : ∀ v x', R v x' → jd i = true → J x' := by intros; trivial) : W P w0 l J jd jq kd hd N K (.one i σ) env x := by
  intro a hf
  unfold WX opX
  have hi' : l.toArray[i]? = some o := by simpa using hi
  simp only [hi', hk]
  rw [hG.wanted hf hg hj hs, hT, if_pos rfl]
  intro w hc
  refine eff_mono ?_ (hy N a hf w hc)
  rintro v w' ⟨x', hr, hc'⟩
  obtain ⟨h1, h2⟩ := h v x' hr
  exact ⟨x', ⟨h1, hJ v x' hr⟩, hc', by rw [hd']; exact h2 _ (hf.put hlt v)⟩

theorem W.gF {env : Env} {x : SX} {i j s : Nat} {σ : Ord} {o oj : Oper} {d : Nat} {want G : Bool} (hi : l[i]? = some o) (hg : o.guard = some (j, want)) (hj : l[j]? = some oj) (hs : oj.dst = some s)
    (hG : Gd env s want G) (hF : G = false) (hd' : o.dst = some d) (hlt : d < szs N) (v : Value) (h : W P w0 l J jd jq kd hd N K σ ((d, gv G v) :: env) x) : W P w0 l J jd jq kd hd N K (.one i σ) env x := by
  intro a hf
  subst hF
  unfold WX opX
  have hi' : l.toArray[i]? = some o := by simpa using hi
  simp only [hi']
  rw [hG.wanted hf hg hj hs, if_neg (by simp), hd']
  exact h _ (hf.put hlt undef)
end

/-- A literal of rows. -/
theorem Ef.bsRs {α : Type} {P : Program} {w0 : World} {env : Env} {x : SX} {o : Oper} {R : Rp α} {m : Snap} {us : List Value} {xss : List (List α)} {t e : TypeId} {parts : List (Nat × Operand)} {z : Value} {len bytes : Nat} (hu : Rows R m us xss) (hI : (P.info? e).map (fun i => (i.zero, i.size, i.bytes)) = some (some z, 1, bytes)) (ho : o.op = .buildSlice t len parts.toArray) (ht : P.underlying t = some (.slice e)) (hzn : z.cells.size = 1)
    (hp : EvP env parts (us.zipIdx.map fun p => (p.2, p.1))) (hlen : xss.length = len) (hb : len ≤ 16777216) :
    Ef P w0 env x o (fun v x' => x' = ⟨x.m, hown e 1 v xss.length us :: x.l⟩) := by
  obtain ⟨i, hi, hz, hn, hby⟩ := info_parts hI
  have hcell : ∀ v ∈ us, v.cells = #[v] := fun v hv => by
    obtain ⟨j, hj, rfl⟩ := List.getElem_of_mem hv
    obtain ⟨u, h1, ⟨⟨a, c, h2, _⟩, _⟩⟩ := hu.2 j (by rw [← hu.1]; exact hj)
    rw [List.getElem?_eq_getElem hj] at h1
    rw [Option.some.inj h1, h2]
    rfl
  have hul : us.length = len := hu.1.trans hlen
  have h := Ef.bs (P := P) (w0 := w0) (env := env) (x := x) (o := o) ho ht hi hz hn (by decide) hzn hp hul (by
    rw [List.all_eq_true]
    intro v hv
    rw [hcell v hv]; rfl) (by omega)
  have e1 : (us.flatMap fun v => v.cells.toList) = us := by
    have : ∀ l : List Value, (∀ v ∈ l, v.cells = #[v]) → (l.flatMap fun v => v.cells.toList) = l := by
      intro l
      induction l with
      | nil => intro _; rfl
      | cons v l ih =>
        intro hl
        rw [List.flatMap_cons, hl v (by simp), ih fun u hu' => hl u (by simp [hu'])]
        rfl
    exact this us hcell
  rw [e1, ← hlen] at h
  exact h

/-! ### Strings that are read, bytes, pairs -/
section
variable {P : Program} {w0 : World} {env : Env} {x : SX} {o : Oper}
def bytesOf (s : ByteArray) : List (BitVec 8) := s.data.toList.map fun b => BitVec.ofNat 8 b.toNat
theorem Yd.ixS {s : ByteArray} {tb : List (BitVec 8)} {t : TypeId} {p q : Operand} {k : IntKind} {i : Int} {y : BitVec 8} (ho : o.op = .index t p q) (ht : P.underlying t = some .string) (hp : Ev env p (.string s)) (htb : bytesOf s = tb) (hq : Ev env q (.int k i)) (hy : geti tb i = some y) : Yd P w0 env x o (.int .u8 y.toNat) := by
  subst htb
  obtain ⟨h0, h1, h2⟩ := geti_some hy
  have hsz : (bytesOf s).length = s.size := by simp [bytesOf]
  have hi : 0 ≤ i ∧ i < s.size := ⟨h0, by omega⟩
  obtain ⟨hlt, he⟩ := List.getElem?_eq_some_iff.1 h2
  have hb : (s[i.toNat]'(by omega)).toNat = y.toNat := by
    rw [← he]
    simp only [bytesOf, List.getElem_map, Array.getElem_toList, BitVec.toNat_ofNat]
    have : (s[i.toNat]'(by omega)) = s.data[i.toNat]'(by have : s.size = s.data.size := rfl; omega) := rfl
    rw [this]
    have hlt := (s.data[i.toNat]'(by have : s.size = s.data.size := rfl; omega)).toNat_lt
    omega
  exact Yd.pure fun N f hf w _ => by
    have hr := run_index_string (P := P) w t s k i ht
    rw [dif_pos hi, hb] at hr
    simp [execOp, ho, hp.eval hf, hq.eval hf, hr]
theorem Yd.addY {t t' : TypeId} {p q : Operand} {a b : BitVec 8} (ho : o.op = .binOp .add t p q t') (hp : Ev env p (.int .u8 a.toNat)) (hq : Ev env q (.int .u8 b.toNat)) : Yd P w0 env x o (.int .u8 (a + b).toNat) :=
  Yd.bin ho (by decide) hp hq fun w => by
    show Result.ok (Value.int .u8 (IntKind.u8.wrap ((a.toNat : Int) + (b.toNat : Int)))) w = _
    have : IntKind.u8.wrap ((a.toNat : Int) + (b.toNat : Int)) = ((a + b).toNat : Int) := by
      unfold IntKind.wrap
      simp only [IntKind.bits, IntKind.signed, BitVec.toNat_add]
      simp
    rw [this]
theorem Yd.xorY {t t' : TypeId} {p q : Operand} {a b : BitVec 8} (ho : o.op = .binOp .xor t p q t') (hp : Ev env p (.int .u8 a.toNat)) (hq : Ev env q (.int .u8 b.toNat)) : Yd P w0 env x o (.int .u8 (a ^^^ b).toNat) :=
  Yd.bin ho (by decide) hp hq fun w => by
    show Result.ok (Value.int .u8 (IntKind.u8.wrap (BitVec.ofInt 8 (a.toNat : Int) ^^^ BitVec.ofInt 8 (b.toNat : Int)).toNat)) w = _
    rw [show BitVec.ofInt 8 (a.toNat : Int) = a by simp, show BitVec.ofInt 8 (b.toNat : Int) = b by simp, wrap_u8]
/-- A call of a function's value that is known. -/
theorem Yd.callC {k : FuncId} {caps : List Value} {fn : Func} {p : Operand} {args : List Operand} {ts : Array TypeId} {vs : List Value} {v : Value} (ho : o.op = .call { callee := .value p, args := args.toArray, argTypes := ts }) (hp : Ev env p (.func (.func k) #[] (List.toArray caps)))
    (hf : P.funcs[k]? = some fn) (hn : (fn.name == "runtime.NumGoroutine") = false) (hb : fn.body.isNone = false) (ha : EvL env args vs)
    (hc : ∀ x', leX x x' → ∀ w, cX w0 x' w → Calls P k (vs ++ caps).toArray w (fun e w' => e = .returned v ∧ cX w0 x' w')) : Yd P w0 env x o v := by
  intro N a hfr x' hx w hw
  unfold eff
  have h1 : (execOp a.eval o).run P w = .ok (.enter k (vs ++ caps).toArray) w := by
    have := ha.eval hfr
    have hn' : fn.name ≠ "runtime.NumGoroutine" := by simpa using hn
    have hb' : fn.body ≠ none := by intro h; rw [h] at hb; cases hb
    simp [execOp, ho, resolve, hp.eval hfr, Deferred.ofValue, invoke, callFunc, hf, hn', hb', this]
  rw [h1]
  exact (hc x' hx w hw).mono fun e w' ⟨he, hw'⟩ => ⟨v, he, rfl, hw'⟩
theorem eq_a2 {w : World} {t e : TypeId} {a b c d : Int} (ht : P.underlying t = some (.array 2 e)) (he : P.underlying e = some (.int .i64)) (hs : (P.info? e).map (·.size) = some 1) : (binOp .eql t (.agg #[.int .i64 a, .int .i64 b]) (.agg #[.int .i64 c, .int .i64 d])).run P w = .ok (.bool ((a == c) && ((b == d) && true))) w := by
  have h1 : one P e = true := by unfold one; rw [he]
  have e1 := run_equalIn_int (P := P) w 9998 e .i64 .i64 a c he
  have e2 := run_equalIn_int (P := P) w 9998 e .i64 .i64 b d he
  obtain ⟨inf, hi, hin⟩ := Option.map_eq_some_iff.1 hs
  have p1 := part_one (P := P) w (t := e) (cs := #[.int .i64 a, .int .i64 b]) (off := 0) (v := .int .i64 a) h1 rfl
  have p2 := part_one (P := P) w (t := e) (cs := #[.int .i64 a, .int .i64 b]) (off := 1) (v := .int .i64 b) h1 rfl
  have p3 := part_one (P := P) w (t := e) (cs := #[.int .i64 c, .int .i64 d]) (off := 0) (v := .int .i64 c) h1 rfl
  have p4 := part_one (P := P) w (t := e) (cs := #[.int .i64 c, .int .i64 d]) (off := 1) (v := .int .i64 d) h1 rfl
  simp only [binOp, Op.equal, Sem.run_bind]
  rw [show Op.maxDepth = 9998 + 1 + 1 from rfl, Op.equalIn]
  generalize Op.equalIn (9998 + 1) = E at e1 e2 ⊢
  generalize (a == c) = u at e1 ⊢
  generalize (b == d) = v at e2 ⊢
  cases u <;> cases v <;> simp [run_underlying ht, sizeOf, typeInfo, hi, hin, List.range', Std.Legacy.Range.forIn_eq_forIn_range', Std.Legacy.Range.size, p1, p2, p3, p4, e1, e2]
end
end Go.Proofs.Ytkdhckiljfjanaa.Sy
