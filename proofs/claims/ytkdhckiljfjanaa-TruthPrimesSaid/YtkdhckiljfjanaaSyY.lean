/- Slices of structs that hold slices, of the call's own; a slice's block opened and shut; copying within one block (own lemmas); no program in sight. -/
import Derived.Test.YtkdhckiljfjanaaSyX
import Derived.Lib.Overlaps
namespace Go.Proofs.Ytkdhckiljfjanaa.Sy
open Go

/-! ### Elements that are structs with slices -/
def Rws {α : Type} (R : Rp α) (m : Snap) (cells : List Value) (xs : List α) : Prop :=
  cells.length = xs.length * R.n ∧ ∀ i (h : i < xs.length), R.r m ((cells.drop (i * R.n)).take R.n) xs[i]
theorem Rws.nil {α : Type} (R : Rp α) (m : Snap) : Rws R m [] [] := ⟨by simp, fun i h => absurd h (by simp)⟩
theorem Rws.mono {α : Type} {R : Rp α} {m m' : Snap} {cells : List Value} {xs : List α} (hm : Sle m m') (h : Rws R m cells xs) : Rws R m' cells xs := ⟨h.1, fun i hi => R.mono _ _ _ _ hm (h.2 i hi)⟩
theorem Rws.one {α : Type} {R : Rp α} {m : Snap} {cells : List Value} {x : α} (h : R.r m cells x) : Rws R m cells [x] := by
  have hl := R.len _ _ _ h
  refine ⟨by simp [hl], fun i hi => ?_⟩
  obtain rfl : i = 0 := by simpa using hi
  rw [Nat.zero_mul, List.drop_zero, List.take_of_length_le (by omega)]
  exact h
theorem Rws.app {α : Type} {R : Rp α} {m : Snap} {cs cs' : List Value} {xs ys : List α} (h : Rws R m cs xs) (h' : Rws R m cs' ys) : Rws R m (cs ++ cs') (xs ++ ys) := by
  refine ⟨by rw [List.length_append, List.length_append, h.1, h'.1, Nat.add_mul], fun i hi => ?_⟩
  rw [List.length_append] at hi
  by_cases hlt : i < xs.length
  · rw [List.getElem_append_left hlt]
    have hle : i * R.n + R.n ≤ cs.length := by
      rw [h.1]; have := Nat.mul_le_mul_right R.n (show i + 1 ≤ xs.length by omega); rw [Nat.add_mul] at this; omega
    rw [List.drop_append_of_le_length (by omega), List.take_append_of_le_length (by rw [List.length_drop]; omega)]
    exact h.2 i hlt
  · rw [List.getElem_append_right (by omega)]
    have e : i * R.n = cs.length + (i - xs.length) * R.n := by
      rw [h.1, ← Nat.add_mul]; congr 1; omega
    rw [e, List.drop_append]
    have h0 : cs.drop (cs.length + (i - xs.length) * R.n) = [] := List.drop_eq_nil_of_le (by omega)
    rw [h0, List.nil_append, Nat.add_sub_cancel_left]
    exact h'.2 (i - xs.length) (by omega)
theorem RS_of_rws {α : Type} {R : Rp α} {m : Snap} {v : Value} {cells : List Value} {xs : List α} {e : TypeId} {n : Nat} {L : Part} (hn : R.n = n) (h : hown e n v xs.length cells L) (hr : Rws R m cells xs) (hL : ∀ q ∈ L, m q.1 = some q.2) : RS R m v xs := by
  subst hn
  obtain ⟨hcl, h⟩ := h
  rcases h with ⟨rfl, hk, rfl⟩ | ⟨b, cap, cur, rfl, rfl, h2, h3, h4, htake⟩
  · obtain rfl : xs = [] := List.eq_nil_of_length_eq_zero hk
    exact RS.nil _ _
  · refine ⟨⟨_, _, rfl, h2⟩, by omega, fun i hi => ⟨_, hr.2 i hi, b, 0, _, _, rfl, fun j u hu => ?_⟩⟩
    rw [List.getElem?_take] at hu
    split at hu
    · rw [List.getElem?_drop, ← htake, List.getElem?_take] at hu
      split at hu
      · have hmb := hL (b, Obj.cells cur e (0, 0)) (by simp)
        simp only [cellM, hmb, Nat.zero_add]
        simpa using hu
      · cases hu
    · cases hu
theorem cX_freezeW {α : Type} {R : Rp α} {w0 w : World} {x : SX} {p n : Nat} {v : Value} {cells : List Value} {xs : List α} {e : TypeId} (hn : R.n = n) (hc : cX w0 x w) (hr : Rws R x.m cells xs) (hl : x.l[p]? = some (hown e n v xs.length cells)) :
    ∃ m2, Sle x.m m2 ∧ RS R m2 v xs ∧ cX w0 ⟨m2, x.l.eraseIdx p⟩ w := by
  obtain ⟨m2, h1, h2, ⟨L2, h3, h4⟩, _⟩ := cX_lend hc hl lone_own
  exact ⟨m2, h1, RS_of_rws hn h3 (hr.mono h1) h4, h2⟩
section
variable {P : Program} {w0 : World} {env : Env} {x : SX} {o : Oper} {N : Nat} {α : Type}
theorem Tr.freezeW {R : Rp α} {c : Code} {Q : Exit → Act → World → Prop} {pos n : Nat} {v : Value} {cells : List Value} {xs : List α} {e : TypeId} (hn : R.n = n) (hr : Rws R x.m cells xs) (hl : x.l[pos]? = some (hown e n v xs.length cells))
    (h : ∀ m2, Sle x.m m2 → RS R m2 v xs → Tr P w0 N c Q env ⟨m2, x.l.eraseIdx pos⟩) : Tr P w0 N c Q env x := fun a w hf hc => by
  obtain ⟨m2, h1, h2, h3⟩ := cX_freezeW hn hc hr hl
  exact h m2 h1 h2 a w hf h3
theorem NX.freezeW {R : Rp α} {Q : Exit → Act → World → Prop} {pos n : Nat} {v : Value} {cells : List Value} {xs : List α} {e : TypeId} (hn : R.n = n) (hr : Rws R x.m cells xs) (hl : x.l[pos]? = some (hown e n v xs.length cells))
    (h : ∀ m2, Sle x.m m2 → RS R m2 v xs → NX w0 N Q env ⟨m2, x.l.eraseIdx pos⟩) : NX w0 N Q env x := fun a w hf hc => by
  obtain ⟨m2, h1, h2, h3⟩ := cX_freezeW hn hc hr hl
  exact h m2 h1 h2 a w hf h3
end
theorem RS.rwsOf {α : Type} {R : Rp α} {m : Snap} {v : Value} {xs : List α} (h0 : 0 < R.n) (h : RS R m v xs) : ∃ us, Rws R m us xs ∧ ∀ (w0 : World) (x : SX), Sle m x.m → Src w0 x v xs.length us := by
  obtain ⟨⟨a, cap, rfl, _⟩, hb, hall⟩ := h
  have h1 : ∀ i, i < xs.length → ∃ cs : List Value, cs.length = R.n ∧ (∃ x, xs[i]? = some x ∧ R.r m cs x) ∧ At m (.slice a xs.length cap) (i * R.n) cs := fun i hi => by
    obtain ⟨cs, hr, hat⟩ := hall i hi
    exact ⟨cs, R.len _ _ _ hr, ⟨_, List.getElem?_eq_getElem hi, hr⟩, hat⟩
  clear hall
  suffices hs : ∀ k, k ≤ xs.length → ∃ us, Rws R m us (xs.take k) ∧ ∀ j u, us[j]? = some u → ∃ b off, a = some ⟨b, off, none⟩ ∧ cellM m b (off + j) = some u by
    obtain ⟨us, hr, hat⟩ := hs xs.length (Nat.le_refl _)
    rw [List.take_length] at hr
    refine ⟨us, hr, fun w0 x hm w hc => ⟨a, cap, rfl, ?_⟩⟩
    by_cases hz : xs.length = 0
    · exact .inl hz
    · right
      have hlen : 0 < us.length := by rw [hr.1]; exact Nat.mul_pos (by omega) h0
      obtain ⟨b, off, rfl, _⟩ := hat 0 us[0] (List.getElem?_eq_getElem hlen)
      refine ⟨b, off, rfl, fun j u hu => ?_⟩
      obtain ⟨b', off', hv, hcell⟩ := hat j u hu
      cases hv
      obtain ⟨m', hm', L, _, hp⟩ := hc
      exact cell_of_cellM hp (cellM_mono (hm.trans hm') hcell)
  intro k
  induction k with
  | zero => exact fun _ => ⟨[], by rw [List.take_zero]; exact Rws.nil _ _, fun j u h => by simp at h⟩
  | succ k ih =>
    intro hk
    obtain ⟨us, hr, hat⟩ := ih (by omega)
    obtain ⟨cs, hl, ⟨x, hx, hrx⟩, b, off, l, c, hv, hcell⟩ := h1 k (by omega)
    cases hv
    have hul : us.length = k * R.n := by rw [hr.1, List.length_take, Nat.min_eq_left (by omega)]
    refine ⟨us ++ cs, ?_, fun j u hj => ?_⟩
    · have e : xs.take (k + 1) = xs.take k ++ [x] := by rw [List.take_add_one, hx]; rfl
      rw [e]
      exact hr.app (.one hrx)
    · by_cases hlt : j < us.length
      · rw [List.getElem?_append_left hlt] at hj
        exact hat j u hj
      · rw [List.getElem?_append_right (by omega)] at hj
        refine ⟨b, off, rfl, ?_⟩
        have := hcell _ u hj
        rwa [show off + k * R.n + (j - us.length) = off + j by omega] at this
/-- The cells of an element are single cells. -/
def OneC {α : Type} (R : Rp α) : Prop := ∀ m cs x, R.r m cs x → cs.all Value.oneCell' = true
theorem Rws.all {α : Type} {R : Rp α} (h1 : OneC R) (h0 : 0 < R.n) {m : Snap} {cells : List Value} {xs : List α} (h : Rws R m cells xs) : cells.all Value.oneCell' = true := by
  rw [List.all_eq_true]
  intro u hu
  obtain ⟨j, hj, rfl⟩ := List.getElem_of_mem hu
  have hj' := hj
  rw [h.1] at hj'
  have hi : j / R.n < xs.length := Nat.div_lt_of_lt_mul (by rw [Nat.mul_comm]; exact hj')
  have := List.all_eq_true.1 (h1 _ _ _ (h.2 _ hi)) cells[j]
  refine this (List.mem_iff_getElem?.2 ⟨j % R.n, ?_⟩)
  have hmod := Nat.mod_lt j h0
  have e2 : R.n * (j / R.n) + j % R.n = j := Nat.div_add_mod j R.n
  rw [List.getElem?_take, if_pos hmod, List.getElem?_drop, Nat.mul_comm, e2, List.getElem?_eq_getElem hj]
section
variable {P : Program} {w0 : World} {env : Env} {x : SX} {o : Oper} {α : Type}
theorem Ef.bsW {t e : TypeId} {parts : List (Nat × Operand)} {vs cells : List Value} {z : Value} {len n bytes : Nat} (hI : (P.info? e).map (fun i => (i.zero, i.size, i.bytes)) = some (some z, n, bytes)) (ho : o.op = .buildSlice t len parts.toArray) (ht : P.underlying t = some (.slice e)) (h0 : 0 < n) (hzn : z.cells.size = n)
    (hp : EvP env parts (vs.zipIdx.map fun p => (p.2, p.1))) (hv : (vs.flatMap fun v => v.cells.toList) = cells) (hsz : vs.all (fun v => v.cells.size == n) = true) (hlen : vs.length = len) (hb : len * n ≤ 16777216) :
    Ef P w0 env x o (fun v x' => x' = ⟨x.m, hown e n v len cells :: x.l⟩) := by
  obtain ⟨i, hi, hz, hn, hby⟩ := info_parts hI
  subst hv
  exact Ef.bs (P := P) (w0 := w0) (env := env) (x := x) (o := o) ho ht hi hz hn h0 hzn hp hlen hsz hb
theorem Ef.apW {R : Rp α} {pos n : Nat} {e t : TypeId} {v vs : Value} {us us' : List Value} {xs ys : List α} {m : Snap} {z : Value} {p q : Operand} {bytes : Nat} (h1 : OneC R) (hRn : R.n = n) (hI : (P.info? e).map (fun i => (i.zero, i.size, i.bytes)) = some (some z, n, bytes)) (hl : x.l[pos]? = some (hown e n v xs.length us)) (hr : Rws R m us' ys) (hs : Src w0 x vs ys.length us')
    (ho : o.op = .call { callee := .builtin .append, args := #[p, q], argTypes := #[t, t] }) (ht : P.underlying t = some (.slice e)) (hzs : z.cells.size = n) (h0 : 0 < n) (hp : Ev env p v) (hq : Ev env q vs)
    (hroom : (xs.length + ys.length) * bytes ≤ 140737488355328) (h63 : xs.length + ys.length ≤ 140737488355328) : Ef P w0 env x o (fun v' x' => x' = ⟨x.m, x.l.set pos (hown e n v' (xs ++ ys).length (us ++ us'))⟩) := by
  subst hRn
  obtain ⟨i, hi, hz, hn, hby⟩ := info_parts hI
  have h := Ef.app (P := P) (w0 := w0) (env := env) (o := o) (news := us') hl ho ht hi hz hn hby hzs h0 hp hq hs hr.1 (hr.all h1 h0) hroom h63
  rw [List.length_append]
  exact h
end

/-! ### A slice that is read, cut off at its head -/
theorem RS.from {α : Type} {R : Rp α} {m : Snap} {v : Value} {xs : List α} {k : Nat} (h : RS R m v xs) (hk : k ≤ xs.length) : RS R m (slFrom R.n v k) (xs.drop k) := by
  obtain ⟨⟨a, c, rfl, hc⟩, hb, hall⟩ := h
  refine ⟨⟨if c = k then a else a.map (·.add (k * R.n)), c - k, by rw [List.length_drop]; rfl, by rw [List.length_drop]; omega⟩, by rw [List.length_drop]; omega, fun i hi => ?_⟩
  rw [List.length_drop] at hi
  obtain ⟨cs, h1, b, off, l, c2, hv, h2⟩ := hall (k + i) (by omega)
  cases hv
  refine ⟨cs, by rw [List.getElem_drop]; exact h1, b, off + k * R.n, xs.length - k, c - k, ?_, fun j u hu => ?_⟩
  · show Value.slice (if c = k then _ else _) _ _ = _
    rw [if_neg (by omega)]
    show Value.slice (some ((⟨b, off, none⟩ : Addr).add (k * R.n))) _ _ = _
    rw [add_none]
  · have := h2 j u hu
    rwa [show off + (k + i) * R.n + j = off + k * R.n + i * R.n + j by rw [Nat.add_mul]; omega] at this
theorem Yd.slFromR {P : Program} {w0 : World} {env : Env} {x : SX} {o : Oper} {α : Type} {R : Rp α} {m : Snap} {v : Value} {xs : List α} {t e : TypeId} {p q : Operand} {k : Int} {n : Nat} (h : RS R m v xs) (hRn : R.n = n) (ho : o.op = .slice t p (some q) none none) (ht : P.underlying t = some (.slice e)) (hi : (P.info? e).map (·.size) = some n)
    (hp : Ev env p v) (hq : Ev env q (.int .i64 k)) (h0 : 0 ≤ k) (h1 : k ≤ xs.length) : Yd P w0 env x o (Sy.slFrom n v k.toNat) := by
  subst hRn
  obtain ⟨⟨a, c, rfl, hc⟩, hb, hall⟩ := h
  refine Yd.pure fun N f hf w _ => ?_
  obtain ⟨inf, hi', hn⟩ := Option.map_eq_some_iff.1 hi
  have hb : 0 ≤ k ∧ k ≤ (xs.length : Int) := ⟨h0, h1⟩
  have hc2 : (0 : Int) ≤ (xs.length : Int) ∧ (xs.length : Int) ≤ (c : Int) := by omega
  simp [execOp, ho, hp.eval hf, hq.eval hf, Instr.sliceAt, Instr.slice, run_underlying ht, sizeOf, typeInfo, hi', Instr.sliceBounds, Instr.sliceBound, asIntOf, Sy.slFrom, hb, hn]
end Go.Proofs.Ytkdhckiljfjanaa.Sy
