/- More operations: structs by value, fields of elements, rows (own lemmas); the conditions stand in each lemma. -/
import Derived.Test.YtkdhckiljfjanaaSyH
namespace Go.Proofs.Ytkdhckiljfjanaa.Sy
open Go

theorem forK_succ {ι σ R : Type} [Add ι] [OfNat ι 1] {body : ι → σ → (σ → Option R) → Option R} {k : σ → Option R} {n : Nat} {i : ι} {s : σ} {r : R} (h : forK body k (n + 1) i s = some r) : ∃ nx : σ → Option R, (∀ s', nx s' = forK body k n (i + 1) s') ∧ body i s nx = some r := ⟨_, fun _ => rfl, h⟩
theorem whileK_succ {σ R : Type} {body : σ → (σ → Option R) → Option R} {n : Nat} {s : σ} {r : R} (h : whileK body (n + 1) s = some r) : ∃ nx : σ → Option R, (∀ s', nx s' = whileK body n s') ∧ body s nx = some r := ⟨_, fun _ => rfl, h⟩

section
variable {P : Program} {w0 : World} {env : Env} {x : SX} {o : Oper} {N : Nat}

theorem Yd.pkc {p q r : Operand} {c : Bool} (ho : o.op = .pick p q r) (hp : Ev env p (.bool c)) (hq : Ev env q (.bool true)) (hr : Ev env r (.bool false)) : Yd P w0 env x o (.bool c) :=
  Yd.pure fun N f hf w _ => by cases c <;> simp [execOp, ho, hp.eval hf, hq.eval hf, hr.eval hf, asBool]
theorem Yd.pkt {p q r : Operand} {c : Bool} (ho : o.op = .pick p q r) (hp : Ev env p (.bool c)) (hq : Ev env q (.bool true)) (hr : Ev env r (.bool true)) : Yd P w0 env x o (.bool true) :=
  Yd.pure fun N f hf w _ => by cases c <;> simp [execOp, ho, hp.eval hf, hq.eval hf, hr.eval hf, asBool]
theorem Yd.pkf {p q r : Operand} {c : Bool} (ho : o.op = .pick p q r) (hp : Ev env p (.bool c)) (hq : Ev env q (.bool false)) (hr : Ev env r (.bool false)) : Yd P w0 env x o (.bool false) :=
  Yd.pure fun N f hf w _ => by cases c <;> simp [execOp, ho, hp.eval hf, hq.eval hf, hr.eval hf, asBool]

theorem RS.rowD {α : Type} {R : Rp α} {m : Snap} {v : Value} {xs : List (List α)} (h : RS R.slice m v xs) {i : Int} : ∃ u, ∀ ys, geti xs i = some ys → RS R m u ys ∧ At m v i.toNat [u] := by
  cases hg : geti xs i with
  | none => exact ⟨undef, fun ys h => by cases h⟩
  | some ys =>
    obtain ⟨u, h1, h2⟩ := h.row hg
    exact ⟨u, fun zs hz => by cases hz; exact ⟨h1, h2⟩⟩

theorem At.parts {m : Snap} {v : Value} {k : Nat} {cs us : List Value} (h : At m v k cs) {f n : Nat} (hu : (cs.drop f).take n = us) : At m v (k + f) us := by
  obtain ⟨b, off, l, c, hv, hc⟩ := h
  refine ⟨b, off, l, c, hv, fun j u e => ?_⟩
  rw [← hu, List.getElem?_take] at e
  split at e
  · rw [List.getElem?_drop] at e
    have := hc (f + j) u e
    rw [show off + (k + f) + j = off + k + (f + j) by omega]; exact this
  · cases e

variable {α : Type} {n : Nat} {enc : α → List Value}
theorem Yd.ldFp {m : Snap} {f nn : Nat} {v : Value} {us : List Value} {xs : List α} {y : α} {i : Int} {t : TypeId} {p : Operand} {he : ∀ x, (enc x).length = n} (h : RS (.flat n enc he) m v xs) (hm : Sle m x.m) (hy : geti xs i = some y) (hu : ((enc y).drop f).take nn = us) (hlen : us.length = nn) (ho : o.op = .load t p) (h1 : one P t = false) (hs : (P.underlying t).isSome = true) (hn : (P.info? t).map (·.size) = some nn) (hp : Ev env p (adr v (i.toNat * n + f))) : Yd P w0 env x o (.agg us.toArray) :=
  Yd.ldRs ((h.flat hy).parts hu) hm ho h1 hs hn hlen hp
theorem Yd.fldT {pos : Nat} {v : Value} {k : Nat} {xs : List α} {y : α} {i : Int} {e : TypeId} {p : Operand} {t : TypeId} {fs : Array Field} {fl : Field} {j nn : Nat} (hl : x.l[pos]? = some (hownT e n enc v xs)) (hy : geti xs i = some y) (ho : o.op = .fieldAddr t p j) (ht : P.underlying t = some (.struct fs)) (hf : fs[j]? = some fl) (hn : (P.info? fl.type).map (·.size) = some nn) (hn0 : (nn == 0) = false)
    (hp : Ev env p (adr v k)) : Yd P w0 env x o (adr v (k + fl.offset)) :=
  Yd.pure fun N g hg w hc => by
    obtain ⟨inf, hi, hin⟩ := Option.map_eq_some_iff.1 hn
    have hn1 : nn ≠ 0 := by simpa using hn0
    obtain ⟨_, _, L2, _, _, hit, _⟩ := cX_at hc hl
    obtain ⟨_, h1, h2⟩ := geti_some hy
    rcases hit.2 with ⟨_, hk, _⟩ | ⟨b, cap, cur, rfl, _⟩
    · omega
    · simp [execOp, ho, hp.eval hg, Instr.fieldAt, run_underlying ht, hf, Instr.sureAddr, adr, fieldPlace, sizeOf, typeInfo, hi, hin, hn1, add_none]

/-- A literal of one row. -/
theorem Ef.bsR {R : Rp α} {m : Snap} {u : Value} {xs : List α} {t e : TypeId} {q : Operand} {i : Nat} {z : Value} {bytes : Nat} (hu : RS R m u xs) (hI : (P.info? e).map (fun i => (i.zero, i.size, i.bytes)) = some (some z, 1, bytes)) (ho : o.op = .buildSlice t 1 #[(i, q)]) (ht : P.underlying t = some (.slice e)) (hp : EvP env [(i, q)] [(0, u)]) :
    Ef P w0 env x o (fun v x' => x' = ⟨x.m, hown e 1 v 1 [u] :: x.l⟩) := by
  obtain ⟨⟨a, c, rfl, _⟩, _, _⟩ := hu
  obtain ⟨inf, hi, hz, hn, hb⟩ := info_parts hI
  exact Ef.mk fun N f hf w hc => by
    have hpe := hp.eval hf
    simp only [List.map_cons, List.map_nil, List.cons.injEq, Prod.mk.injEq, and_true] at hpe
    obtain ⟨h0, he⟩ := hpe
    subst h0
    refine ⟨.slice (some ⟨w.heap.size, 0, none⟩) 1 1, w.alloc (.cells #[.slice a xs.length c] e), _, .inl ?_, rfl, cX_alloc hc rfl rfl rfl ⟨rfl, .inr ⟨w.heap.size, 1, _, rfl, rfl, Nat.le_refl _, by omega, rfl, rfl⟩⟩⟩
    have hr : Array.range 1 = #[0] := by decide
    simp [execOp, ho, Instr.buildSlice, run_underlying ht, sizeOf, typeInfo, zeroValue, hi, hz, hn, he, hr, Instr.fill, Value.cells, newRow]

theorem Tr.join {c : Code} {Q : Exit → Act → World → Prop} {S : Env → SX → Prop} (hk : ∀ env x, S env x → NX w0 N Q env x) (h : (∀ env x, S env x → NX w0 N Q env x) → Tr P w0 N c Q env x) : Tr P w0 N c Q env x := h hk
theorem NX.cast {Q : Exit → Act → World → Prop} {x : SX} {m' : Snap} {l' : List HI} (hm : x.m = m') (hl : x.l = l') (h : NX w0 N Q env ⟨m', l'⟩) : NX w0 N Q env x := by
  subst hm hl; exact h
theorem NX.freezeT {Q : Exit → Act → World → Prop} (he : ∀ x, (enc x).length = n) {pos : Nat} {v : Value} {xs : List α} {e : TypeId} (hl : x.l[pos]? = some (hown e n v xs.length (xs.flatMap enc)))
    (h : ∀ m2, Sle x.m m2 → RS (.flat n enc he) m2 v xs → NX w0 N Q env ⟨m2, x.l.eraseIdx pos⟩) : NX w0 N Q env x := fun a w hf hc => by
  obtain ⟨m2, h1, h2, h3⟩ := cX_freeze he hc hl
  exact h m2 h1 h2 a w hf h3
theorem NX.freezeR {R : Rp α} {Q : Exit → Act → World → Prop} {pos : Nat} {v : Value} {us : List Value} {xss : List (List α)} {e : TypeId} (hr : Rows R x.m us xss) (hl : x.l[pos]? = some (hown e 1 v xss.length us))
    (h : ∀ m2, Sle x.m m2 → RS R.slice m2 v xss → NX w0 N Q env ⟨m2, x.l.eraseIdx pos⟩) : NX w0 N Q env x := fun a w hf hc => by
  obtain ⟨m2, h1, h2, h3⟩ := cX_freezeR hc hr hl
  exact h m2 h1 h2 a w hf h3
end
end Go.Proofs.Ytkdhckiljfjanaa.Sy
