/- Rows of the call's own that are stored into (own lemmas); no program in sight. -/
import Derived.Test.YtefaglkgpaloeaaSyO
namespace Go.Proofs.Ytefaglkgpaloeaa.Sy
open Go

/-! ### A part that is made of parts -/
theorem cX_open {w0 w : World} {m : Snap} {l : List HI} {p : Nat} {it : HI} {its : List HI} {c : Prop} (hl : l[p]? = some it) (hit : ∀ L, it L ↔ c ∧ Sat its L) : cX w0 ⟨m, l⟩ w ↔ c ∧ cX w0 ⟨m, its ++ l.eraseIdx p⟩ w := by
  constructor
  · intro h
    obtain ⟨m', hm, L, ⟨L1, L2, rfl, h1, h2⟩, hp⟩ := cX_front h hl
    obtain ⟨hc, h1⟩ := (hit L1).1 h1
    exact ⟨hc, m', hm, L1 ++ L2, h1.join h2, hp⟩
  · rintro ⟨hc, m', hm, L, hs, hp⟩
    obtain ⟨L1, L2, rfl, h1, h2⟩ := Sat.split (show Sat (its ++ l.eraseIdx p) L from hs)
    have := cX_back (it' := it) ⟨m', hm, L1 ++ L2, ⟨L1, L2, rfl, (hit L1).2 ⟨hc, h1⟩, h2⟩, hp⟩ hl
    rwa [List.set_getElem?_self' hl] at this
  where
  List.set_getElem?_self' {l : List HI} {p : Nat} {it : HI} (hl : l[p]? = some it) : l.set p it = l := by
    apply List.ext_getElem?
    intro i
    rw [List.getElem?_set]
    by_cases e : p = i
    · subst e; rw [if_pos rfl, hl]; simp [(List.getElem?_eq_some_iff.1 hl).1]
    · rw [if_neg e]
theorem NX.imp {w0 : World} {N : Nat} {Q : Exit → Act → World → Prop} {env : Env} {x x' : SX} (f : ∀ w, cX w0 x w → cX w0 x' w) (h : NX w0 N Q env x') : NX w0 N Q env x := fun a w hf hc => h a w hf (f w hc)
theorem Tr.imp {P : Program} {w0 : World} {N : Nat} {c : Code} {Q : Exit → Act → World → Prop} {env : Env} {x x' : SX} (f : ∀ w, cX w0 x w → cX w0 x' w) (h : Tr P w0 N c Q env x') : Tr P w0 N c Q env x := fun a w hf hc => h a w hf (f w hc)
section
variable {P : Program} {w0 : World} {env : Env} {x : SX} {o : Oper}
theorem Yd.opn {p : Nat} {it : HI} {its : List HI} {c : Prop} {v : Value} (hl : x.l[p]? = some it) (hit : ∀ L, it L ↔ c ∧ Sat its L) (h : ∀ m r, Sle x.m m → c → Yd P w0 env ⟨m, its ++ r⟩ o v) : Yd P w0 env x o v := by
  intro N a hf x' hx w hw
  obtain ⟨p', hp'⟩ := hx.at hl
  obtain ⟨hc, hw1⟩ := (cX_open hp' hit).1 (show cX w0 ⟨x'.m, x'.l⟩ w from hw)
  refine eff_mono ?_ (h x'.m _ hx.1 hc N a hf _ (leX_refl _) w hw1)
  rintro u w' ⟨rfl, hc'⟩
  exact ⟨rfl, (cX_open hp' hit).2 ⟨hc, hc'⟩⟩
theorem Ef.opn {p : Nat} {it it' : HI} {its its' : List HI} {c : Prop} {v : Value} (hl : x.l[p]? = some it) (hit : ∀ L, it L ↔ c ∧ Sat its L) (hit' : c → ∀ L, Sat its' L → it' L) (h : ∀ r, c → Ef P w0 env ⟨x.m, its ++ r⟩ o (fun u x' => u = v ∧ x' = ⟨x.m, its' ++ r⟩)) :
    Ef P w0 env x o (fun u x' => u = v ∧ x' = ⟨x.m, x.l.set p it'⟩) := by
  intro N a hf w hw
  obtain ⟨hc, hw1⟩ := (cX_open hl hit).1 (show cX w0 ⟨x.m, x.l⟩ w from hw)
  refine eff_mono ?_ (h _ hc N a hf w hw1)
  rintro u w' ⟨x', ⟨rfl, rfl⟩, m', hm, L, hs, hp⟩
  obtain ⟨L1, L2, rfl, h1, h2⟩ := Sat.split (show Sat (its' ++ x.l.eraseIdx p) L from hs)
  exact ⟨_, ⟨rfl, rfl⟩, cX_back (it' := it') ⟨m', hm, L1 ++ L2, ⟨L1, L2, rfl, hit' hc L1 h1, h2⟩, hp⟩ hl⟩
end

/-! ### Rows of the call's own: behind the values us lie the rows xss -/
def rit {α : Type} (e : TypeId) (n : Nat) (enc : α → List Value) (us : List Value) (xss : List (List α)) : List HI := List.zipWith (fun u xs => hownT e n enc u xs) us xss
def hrows {α : Type} (e : TypeId) (n : Nat) (enc : α → List Value) (us : List Value) (xss : List (List α)) : HI := fun L => us.length = xss.length ∧ Sat (rit e n enc us xss) L
theorem hrows_iff {α : Type} {e : TypeId} {n : Nat} {enc : α → List Value} {us : List Value} {xss : List (List α)} (L : Part) : hrows e n enc us xss L ↔ us.length = xss.length ∧ Sat (rit e n enc us xss) L := Iff.rfl
theorem rit_at {α : Type} {e : TypeId} {n : Nat} {enc : α → List Value} {us : List Value} {xss : List (List α)} {r : List HI} {i : Nat} {u : Value} {ys : List α} (hu : us[i]? = some u) (hy : xss[i]? = some ys) : (rit e n enc us xss ++ r)[i]? = some (hownT e n enc u ys) := by
  have h1 := (List.getElem?_eq_some_iff.1 hu).1
  have h2 := (List.getElem?_eq_some_iff.1 hy).1
  unfold rit
  rw [List.getElem?_append_left (by rw [List.length_zipWith]; omega), List.getElem?_zipWith, hu, hy]
theorem rit_set {α : Type} {e : TypeId} {n : Nat} {enc : α → List Value} {us : List Value} {xss : List (List α)} {i : Nat} {u : Value} {ys' : List α} (hu : us[i]? = some u) : rit e n enc us (xss.set i ys') = (rit e n enc us xss).set i (hownT e n enc u ys') := by
  unfold rit
  apply List.ext_getElem?
  intro j
  rw [List.getElem?_zipWith, List.getElem?_set, List.getElem?_set, List.getElem?_zipWith]
  by_cases e1 : i = j
  · subst e1
    rw [if_pos rfl, if_pos rfl, hu]
    have h1 := (List.getElem?_eq_some_iff.1 hu).1
    by_cases h : i < xss.length
    · simp [h, h1]; omega
    · simp [h]; omega
  · rw [if_neg e1, if_neg e1]
theorem us_get {α : Type} {us : List Value} {xss : List (List α)} (hr : us.length = xss.length) {i : Int} {ys : List α} (hg : geti xss i = some ys) : ∃ u, us[i.toNat]? = some u := by
  obtain ⟨h0, h1, _⟩ := geti_some hg
  exact ⟨us[i.toNat]'(by omega), List.getElem?_eq_getElem _⟩
theorem us_getD {α : Type} {us : List Value} {xss : List (List α)} (hr : us.length = xss.length) {i : Int} : ∃ u, ∀ ys, geti xss i = some ys → us[i.toNat]? = some u := by
  cases hg : geti xss i with
  | none => exact ⟨undef, fun ys h => by cases h⟩
  | some ys => obtain ⟨u, hu⟩ := us_get hr hg; exact ⟨u, fun _ _ => hu⟩
section
variable {P : Program} {w0 : World} {env : Env} {x : SX} {o : Oper} {α : Type} {n : Nat} {enc : α → List Value}
/-- The value of a row. -/
theorem Yd.ldU {pos k : Nat} {v u : Value} {us : List Value} {i : Int} {e t : TypeId} {p : Operand} (hl : x.l[pos]? = some (hown e 1 v k us)) (hu : us[i.toNat]? = some u) (ho : o.op = .load t p) (h1 : one P t = true) (hp : Ev env p (adr v (i.toNat * 1))) : Yd P w0 env x o u :=
  Yd.ldO (k := i.toNat) hl hu ho h1 (by rwa [Nat.mul_one] at hp)
theorem Yd.idxM {pos : Nat} {us : List Value} {xss : List (List α)} {ys : List α} {y : α} {i j : Int} {u : Value} {p q : Operand} {t e e' : TypeId} {k : IntKind} (hl : x.l[pos]? = some (hrows e' n enc us xss)) (hu : us[i.toNat]? = some u) (hg : geti xss i = some ys) (hy : geti ys j = some y)
    (ho : o.op = .indexAddr t p q) (ht : P.underlying t = some (.slice e)) (hn : (P.info? e).map (·.size) = some n) (hp : Ev env p u) (hq : Ev env q (.int k j)) : Yd P w0 env x o (adr u (j.toNat * n)) :=
  Yd.opn hl hrows_iff fun _ _ _ _ => Yd.idxT (rit_at hu (geti_some hg).2.2) hy ho ht hn hp hq
theorem Yd.ldM {pos : Nat} {us : List Value} {xss : List (List α)} {ys : List α} {y : α} {i j : Int} {u z : Value} {p : Operand} {t e' : TypeId} (he : ∀ x, (enc x).length = n) (hl : x.l[pos]? = some (hrows e' n enc us xss)) (hu : us[i.toNat]? = some u) (hg : geti xss i = some ys) (hy : geti ys j = some y)
    (hz : enc y = [z]) (ho : o.op = .load t p) (h1 : one P t = true) (hp : Ev env p (adr u (j.toNat * n))) : Yd P w0 env x o z :=
  Yd.opn hl hrows_iff fun _ _ _ _ => Yd.ldT he (rit_at hu (geti_some hg).2.2) hy hz ho h1 hp
theorem Yd.lenM {pos : Nat} {us : List Value} {xss : List (List α)} {ys : List α} {i : Int} {u : Value} {q : Operand} {t e e' : TypeId} (hl : x.l[pos]? = some (hrows e n enc us xss)) (hu : us[i.toNat]? = some u) (hg : geti xss i = some ys)
    (ho : o.op = .call { callee := .builtin .len, args := #[q], argTypes := #[t] }) (ht : P.underlying t = some (.slice e')) (hq : Ev env q u) : Yd P w0 env x o (.int .i64 ys.length) :=
  Yd.opn hl hrows_iff fun _ _ _ _ => Yd.lenO (rit_at hu (geti_some hg).2.2) ho ht hq
theorem Ef.stM' {pos : Nat} {us us' : List Value} {xss : List (List α)} {ys : List α} {y z : α} {i j : Int} {u b : Value} {p q : Operand} {t e : TypeId} (he : ∀ x, (enc x).length = n) (hl : x.l[pos]? = some (hrows e n enc us xss)) (hu : us[i.toNat]? = some u) (hg : geti xss i = some ys) (hz : geti ys j = some z)
    (ho : o.op = .store t p q) (hp : Ev env p (adr u (j.toNat * n))) (hq : Ev env q b) (hn : (P.info? t).map (·.size) = some n) (hc : b.cells = us'.toArray) (hy : enc y = us') (h1 : us'.all Value.oneCell' = true) (h0 : 0 < n) :
    Ef P w0 env x o (fun v x' => v = undef ∧ x' = ⟨x.m, x.l.set pos (hrows e n enc us (xss.set i.toNat (ys.set j.toNat y)))⟩) := by
  have hu' := (List.getElem?_eq_some_iff.1 hu).1
  have hy' := (List.getElem?_eq_some_iff.1 (geti_some hg).2.2).1
  refine Ef.opn (its' := rit e n enc us (xss.set i.toNat (ys.set j.toNat y))) hl hrows_iff (fun hc L h => ⟨by rw [List.length_set]; exact hc, h⟩) fun r _ => ?_
  have h := Ef.stT (P := P) (w0 := w0) (env := env) (x := ⟨x.m, rit e n enc us xss ++ r⟩) (o := o) (y := y) (us := us') he (rit_at hu (geti_some hg).2.2) hz ho hp hq hn hc hy h1 h0
  rw [rit_set hu]
  rw [List.set_append_left _ _ (by unfold rit; rw [List.length_zipWith]; omega)] at h
  exact h
/-- A store into a row; v0 with us: the slice of the rows. -/
theorem Ef.stM {pos0 pos : Nat} {v0 : Value} {e0 : TypeId} {us us' : List Value} {xss : List (List α)} {ys : List α} {y z : α} {i j : Int} {u b : Value} {p q : Operand} {t e : TypeId} (he : ∀ x, (enc x).length = n) (hl0 : x.l[pos0]? = some (hown e0 1 v0 xss.length us)) (hl : x.l[pos]? = some (hrows e n enc us xss)) (hu : us[i.toNat]? = some u) (hg : geti xss i = some ys) (hz : geti ys j = some z)
    (ho : o.op = .store t p q) (hp : Ev env p (adr u (j.toNat * n))) (hq : Ev env q b) (hn : (P.info? t).map (·.size) = some n) (hc : b.cells = us'.toArray) (hy : enc y = us') (h1 : us'.all Value.oneCell' = true) (h0 : 0 < n) :
    Ef P w0 env x o (fun v x' => v = undef ∧ x' = ⟨x.m, (x.l.set pos0 (hown e0 1 v0 (xss.set i.toNat (ys.set j.toNat y)).length us)).set pos (hrows e n enc us (xss.set i.toNat (ys.set j.toNat y)))⟩) := by
  rw [List.length_set, cX_open.List.set_getElem?_self' hl0]
  exact Ef.stM' he hl hu hg hz ho hp hq hn hc hy h1 h0
theorem snocM {β : Type} {us : List Value} {xss : List β} {u : Value} {ys : β} (h : us.length = xss.length) : (us ++ [u]).length = (xss ++ [ys]).length := by rw [List.length_append, List.length_append, h]; rfl
theorem setM {β : Type} {us : List Value} {xss : List β} {i : Nat} {ys : β} (h : us.length = xss.length) : us.length = (xss.set i ys).length := by rw [List.length_set]; exact h
/-- A literal of one row of the call's own. -/
theorem Ef.bsO {pos k n2 : Nat} {cells : List Value} {u : Value} {t e e2 : TypeId} {q : Operand} {i : Nat} {z : Value} {bytes : Nat} (hl : x.l[pos]? = some (hown e2 n2 u k cells)) (hI : (P.info? e).map (fun i => (i.zero, i.size, i.bytes)) = some (some z, 1, bytes)) (ho : o.op = .buildSlice t 1 #[(i, q)]) (ht : P.underlying t = some (.slice e)) (hp : EvP env [(i, q)] [(0, u)]) :
    Ef P w0 env x o (fun v x' => x' = ⟨x.m, hown e 1 v 1 [u] :: x.l⟩) := by
  intro N a hf w hc
  obtain ⟨b, k', c, rfl⟩ := Sl.own (w0 := w0) hl x w (leX_refl x) hc
  revert hc hf w
  revert N a
  obtain ⟨inf, hi, hz, hn, hb⟩ := info_parts hI
  refine fun N f hf w hc => (Ef.mk (R := fun v x' => x' = ⟨x.m, hown e 1 v 1 [.slice b k' c] :: x.l⟩) fun N f hf w hc => ?_) N f hf w hc
  have hpe := hp.eval hf
  simp only [List.map_cons, List.map_nil, List.cons.injEq, Prod.mk.injEq, and_true] at hpe
  obtain ⟨h0, he⟩ := hpe
  subst h0
  refine ⟨.slice (some ⟨w.heap.size, 0, none⟩) 1 1, w.alloc (.cells #[.slice b k' c] e), _, .inl ?_, rfl, cX_alloc hc rfl rfl rfl ⟨rfl, .inr ⟨w.heap.size, 1, _, rfl, rfl, Nat.le_refl _, by omega, rfl, rfl⟩⟩⟩
  have hr : Array.range 1 = #[0] := by decide
  simp [execOp, ho, Instr.buildSlice, run_underlying ht, sizeOf, typeInfo, zeroValue, hi, hz, hn, he, hr, Instr.fill, Value.cells, newRow]
/-- A row of the call's own onto a slice of rows. -/
theorem Ef.apO {β : Type} {pos pos2 pos3 k3 n3 : Nat} {xss : List β} {ys : β} {e e' e3 t : TypeId} {v vs u : Value} {us cells : List Value} {z : Value} {p q : Operand} {bytes : Nat} (hI : (P.info? e).map (fun i => (i.zero, i.size, i.bytes)) = some (some z, 1, bytes)) (hl : x.l[pos]? = some (hown e 1 v xss.length us)) (hl3 : x.l[pos3]? = some (hown e3 n3 u k3 cells)) (hl2 : x.l[pos2]? = some (hown e' 1 vs 1 [u]))
    (ho : o.op = .call { callee := .builtin .append, args := #[p, q], argTypes := #[t, t] }) (ht : P.underlying t = some (.slice e)) (hzs : z.cells.size = 1) (hp : Ev env p v) (hq : Ev env q vs)
    (hroom : (xss.length + 1) * bytes ≤ 140737488355328) (h63 : xss.length + 1 ≤ 140737488355328) : Ef P w0 env x o (fun v' x' => x' = ⟨x.m, x.l.set pos (hown e 1 v' (xss ++ [ys]).length (us ++ [u]))⟩) := by
  intro N a hf w hc
  rw [List.length_append]
  obtain ⟨b, k', c, rfl⟩ := Sl.own (w0 := w0) hl3 x w (leX_refl x) hc
  obtain ⟨i, hi, hz, hn, hby⟩ := info_parts hI
  exact Ef.app (P := P) (w0 := w0) (env := env) (o := o) (news := [.slice b k' c]) hl ho ht hi hz hn hby hzs (by omega) hp hq (Src.own hl2) (by simp) (by simp [Value.oneCell']) hroom h63 N a hf w hc
end
/-- A row of its own comes under the rows. -/
theorem cX_merge {α : Type} {w0 w : World} {m : Snap} {l : List HI} {po pr n : Nat} {e : TypeId} {enc : α → List Value} {us : List Value} {xss : List (List α)} {u : Value} {ys : List α} (hpo : l[po]? = some (hownT e n enc u ys)) (hpr : (l.eraseIdx po)[pr]? = some (hrows e n enc us xss))
    (hc : cX w0 ⟨m, l⟩ w) : cX w0 ⟨m, (l.eraseIdx po).set pr (hrows e n enc (us ++ [u]) (xss ++ [ys]))⟩ w := by
  obtain ⟨m', hm, L, ⟨L1, L2, rfl, h1, h2⟩, hp⟩ := cX_front hc hpo
  obtain ⟨A, B, C, rfl, hB, hset⟩ := h2.at hpr
  refine ⟨m', hm, A ++ (B ++ L1) ++ C, hset _ _ ⟨by simp [hB.1], ?_⟩, hp.perm ?_⟩
  · unfold rit
    rw [List.zipWith_append hB.1]
    exact Sat.join hB.2 ⟨L1, [], by simp, h1, rfl⟩
  · rw [List.append_assoc, List.append_assoc, List.append_assoc]
    refine (List.perm_append_comm (l₁ := L1) (l₂ := A ++ (B ++ C))).trans ?_
    rw [List.append_assoc, List.append_assoc]
    refine List.Perm.append_left A (List.Perm.append_left B ?_)
    exact List.perm_append_comm
theorem cX_nilM {α : Type} {w0 w : World} {m : Snap} {l : List HI} (e e2 : TypeId) (n : Nat) (enc : α → List Value) (hc : cX w0 ⟨m, l⟩ w) : cX w0 ⟨m, hown e 1 (.slice none 0 0) 0 [] :: hrows e2 n enc [] [] :: l⟩ w := by
  obtain ⟨m', hm, L, hs, hp⟩ := hc
  exact ⟨m', hm, L, ⟨[], L, rfl, ⟨by simp, .inl ⟨rfl, rfl, rfl⟩⟩, [], L, rfl, ⟨rfl, rfl⟩, hs⟩, hp⟩

theorem Sat_in : ∀ {l : List HI} {L : Part} {p : Nat} {it : HI}, Sat l L → l[p]? = some it → ∃ L2, it L2 ∧ ∀ q ∈ L2, q ∈ L := fun hs hl => by
  obtain ⟨L1, L2, L3, rfl, h, _⟩ := hs.at hl
  exact ⟨L2, h, fun q hq => by simp [hq]⟩
theorem Rows_of {α : Type} {m : Snap} {e : TypeId} {n : Nat} {enc : α → List Value} (he : ∀ x, (enc x).length = n) {us : List Value} {xss : List (List α)} (h : ∃ L, hrows e n enc us xss L ∧ ∀ q ∈ L, m q.1 = some q.2) : Rows (.flat n enc he) m us xss := by
  obtain ⟨L, ⟨hl, hs⟩, hm⟩ := h
  refine ⟨hl, fun i hi => ?_⟩
  have hu : us[i]? = some (us[i]'(by omega)) := List.getElem?_eq_getElem _
  obtain ⟨L2, h2, hin⟩ := Sat_in hs (by have := rit_at (e := e) (n := n) (enc := enc) (r := []) hu (List.getElem?_eq_getElem hi); rwa [List.append_nil] at this)
  exact ⟨_, hu, RS_of_own h2 fun q hq => hm q (hin q hq)⟩
theorem RS_of_mat {α : Type} {m : Snap} {e e2 : TypeId} {n : Nat} {enc : α → List Value} (he : ∀ x, (enc x).length = n) {v : Value} {us : List Value} {xss : List (List α)} (h1 : ∃ L, hown e 1 v xss.length us L ∧ ∀ q ∈ L, m q.1 = some q.2) (h2 : ∃ L, hrows e2 n enc us xss L ∧ ∀ q ∈ L, m q.1 = some q.2) : RS (Rp.flat n enc he).slice m v xss := by
  obtain ⟨L, h, hL⟩ := h1
  exact RS_of_rows h (Rows_of he h2) hL
/-- Rows of the call's own become what is read. -/
theorem cX_freezeM {α : Type} {w0 w : World} {m : Snap} {l : List HI} {p p2 n : Nat} {e e2 : TypeId} {enc : α → List Value} (he : ∀ x, (enc x).length = n) {v : Value} {us : List Value} {xss : List (List α)} (hc : cX w0 ⟨m, l⟩ w) (hl : l[p]? = some (hown e 1 v xss.length us)) (hl2 : (l.eraseIdx p)[p2]? = some (hrows e2 n enc us xss)) :
    ∃ m2, Sle m m2 ∧ RS (Rp.flat n enc he).slice m2 v xss ∧ cX w0 ⟨m2, (l.eraseIdx p).eraseIdx p2⟩ w := by
  have h1 := cX_front hc hl
  have h2 := cX_front (p := p2 + 1) h1 (by simpa using hl2)
  obtain ⟨m2, hm, hL, hc2⟩ := cX_freezeP (A := [hrows e2 n enc us xss, hown e 1 v xss.length us]) h2
  exact ⟨m2, hm, RS_of_mat he (lent_at (p := 1) hL rfl) (lent_at (p := 0) hL rfl), hc2⟩
section
variable {P : Program} {w0 : World} {N : Nat} {env : Env} {x : SX}
theorem NX.freezeM {α : Type} {Q : Exit → Act → World → Prop} {p p2 n : Nat} {e e2 : TypeId} {enc : α → List Value} (he : ∀ x, (enc x).length = n) {v : Value} {us : List Value} {xss : List (List α)} (hl : x.l[p]? = some (hown e 1 v xss.length us)) (hl2 : (x.l.eraseIdx p)[p2]? = some (hrows e2 n enc us xss))
    (h : ∀ m2, Sle x.m m2 → RS (Rp.flat n enc he).slice m2 v xss → NX w0 N Q env ⟨m2, (x.l.eraseIdx p).eraseIdx p2⟩) : NX w0 N Q env x := fun a w hf hc => by
  obtain ⟨m2, h1, h2, h3⟩ := cX_freezeM he (show cX w0 ⟨x.m, x.l⟩ w from hc) hl hl2
  exact h m2 h1 h2 a w hf h3
theorem Tr.freezeM {α : Type} {c : Code} {Q : Exit → Act → World → Prop} {p p2 n : Nat} {e e2 : TypeId} {enc : α → List Value} (he : ∀ x, (enc x).length = n) {v : Value} {us : List Value} {xss : List (List α)} (hl : x.l[p]? = some (hown e 1 v xss.length us)) (hl2 : (x.l.eraseIdx p)[p2]? = some (hrows e2 n enc us xss))
    (h : ∀ m2, Sle x.m m2 → RS (Rp.flat n enc he).slice m2 v xss → Tr P w0 N c Q env ⟨m2, (x.l.eraseIdx p).eraseIdx p2⟩) : Tr P w0 N c Q env x := fun a w hf hc => by
  obtain ⟨m2, h1, h2, h3⟩ := cX_freezeM he (show cX w0 ⟨x.m, x.l⟩ w from hc) hl hl2
  exact h m2 h1 h2 a w hf h3
end

/-! ### Structs with slices -/
theorem RS.el {α : Type} {R : Rp α} {m : Snap} {v : Value} {xs : List α} (h : RS R m v xs) {i : Int} {y : α} (hy : geti xs i = some y) : ∃ cs, R.r m cs y ∧ At m v (i.toNat * R.n) cs := by
  obtain ⟨h0, h1, h2⟩ := geti_some hy
  obtain ⟨hlt, he⟩ := List.getElem?_eq_some_iff.1 h2
  obtain ⟨cs, hr, ha⟩ := h.2.2 i.toNat hlt
  rw [he] at hr
  exact ⟨cs, hr, ha⟩
section
variable {P : Program} {w0 : World} {env : Env} {x : SX} {o : Oper}
theorem Yd.bld3 {t : TypeId} {parts : List (Nat × Operand)} {pvs : List (Nat × Value)} {cells : List Value} {z u u2 u3 : Value} {pls : List (Nat × Nat)} (hs : Sl w0 x u) (hs2 : Sl w0 x u2) (hs3 : Sl w0 x u3) (ho : o.op = .build t parts.toArray) (hz : (P.info? t).bind (·.zero) = some z) (hpl : plS P t = some pls)
    (hev : EvP env parts pvs) (hf : (∃ a k c, u = .slice a k c) → (∃ a k c, u2 = .slice a k c) → (∃ a k c, u3 = .slice a k c) → Instr.fill (pls.toArray[·]?) z.cells pvs = some cells.toArray) : Yd P w0 env x o (.agg cells.toArray) :=
  fun N a hg x' hx w hc => Yd.bld ho hz hpl hev (hf (hs x' w hx hc) (hs2 x' w hx hc) (hs3 x' w hx hc)) N a hg x' hx w hc
end
end Go.Proofs.Ytefaglkgpaloeaa.Sy
