/- Slice expressions from the head, append of make onto nil, rows onto rows (own lemmas); no program in sight. -/
import Derived.Test.YtkdhckiljfjanaaSyS
namespace Go.Proofs.Ytkdhckiljfjanaa.Sy
open Go

/-- The same slice, of k elements. -/
def slTo (v : Value) (k : Nat) : Value :=
  match v with
  | .slice a _ c => .slice a k c
  | _ => undef
theorem hown_slTo {α : Type} {e : TypeId} {n : Nat} {enc : α → List Value} (he : ∀ x, (enc x).length = n) {v : Value} {xs : List α} {k : Nat} (hk : k ≤ xs.length) {L : Part} (h : hownT e n enc v xs L) : hownT e n enc (slTo v k) (xs.take k) L := by
  have hl : (xs.take k).length = k := by rw [List.length_take]; omega
  refine ⟨by rw [flat_length he], ?_⟩
  rcases h.2 with ⟨rfl, h0, rfl⟩ | ⟨b, cap, cur, rfl, rfl, h2, h3, h4, htake⟩
  · exact .inl ⟨by show Value.slice none k 0 = _; rw [show k = 0 by omega], by omega, rfl⟩
  · refine .inr ⟨b, cap, cur, by rw [hl]; rfl, rfl, by omega, h3, h4, ?_⟩
    have e1 : (xs.take k).flatMap enc = (xs.flatMap enc).take (k * n) := by
      have e2 : xs.flatMap enc = (xs.take k).flatMap enc ++ (xs.drop k).flatMap enc := by rw [← List.flatMap_append, List.take_append_drop]
      rw [e2, List.take_left' (by rw [flat_length he, hl])]
    rw [hl, e1, ← htake, List.take_take, Nat.min_eq_left (Nat.mul_le_mul_right n hk)]
theorem cX_slTo {α : Type} {w0 w : World} {m : Snap} {l : List HI} {p : Nat} {e : TypeId} {n : Nat} {enc : α → List Value} (he : ∀ x, (enc x).length = n) {v : Value} {xs : List α} {k : Nat} (hk : k ≤ xs.length) (hl : l[p]? = some (hownT e n enc v xs)) (hc : cX w0 ⟨m, l⟩ w) : cX w0 ⟨m, l.set p (hownT e n enc (slTo v k) (xs.take k))⟩ w := by
  obtain ⟨m', hm, L, hs, hp⟩ := hc
  obtain ⟨L1, L2, L3, rfl, hit, hset⟩ := hs.at hl
  exact ⟨m', hm, L1 ++ L2 ++ L3, hset _ _ (hown_slTo he hk hit), hp⟩
theorem cX_sl0 {w0 w : World} {m : Snap} {l : List HI} {p : Nat} {e : TypeId} {n k : Nat} {v : Value} {cells : List Value} (hl : l[p]? = some (hown e n v k cells)) (hc : cX w0 ⟨m, l⟩ w) : cX w0 ⟨m, l.set p (hown e n (slTo v 0) 0 [])⟩ w := by
  obtain ⟨m', hm, L, hs, hp⟩ := hc
  obtain ⟨L1, L2, L3, rfl, hit, hset⟩ := hs.at hl
  refine ⟨m', hm, L1 ++ L2 ++ L3, hset _ _ ⟨by simp, ?_⟩, hp⟩
  rcases hit.2 with ⟨rfl, _, rfl⟩ | ⟨b, cap, cur, rfl, rfl, h2, h3, h4, _⟩
  · exact .inl ⟨rfl, rfl, rfl⟩
  · exact .inr ⟨b, cap, cur, rfl, rfl, by omega, h3, h4, by simp⟩

section
variable {P : Program} {w0 : World} {env : Env} {x : SX} {o : Oper}
theorem Yd.cap {p : Operand} {t e : TypeId} {ad : Option Addr} {n c : Nat} (ho : o.op = .call { callee := .builtin .cap, args := #[p], argTypes := #[t] }) (ht : P.underlying t = some (.slice e)) (hp : Ev env p (.slice ad n c)) :
    Yd P w0 env x o (.int .i64 c) :=
  Yd.pure fun N f hf w _ => by simp [execOp, ho, resolve, hp.eval hf, invoke, builtin, Builtin.cap_, run_underlying ht, goInt]
/-- From the head, up to h. -/
theorem Yd.slTo {pos n k : Nat} {e e' t : TypeId} {v : Value} {cells : List Value} {p q : Operand} {h : Int} {inf : TypeInfo} (hl : x.l[pos]? = some (hown e' n v k cells)) (ho : o.op = .slice t p none (some q) none) (ht : P.underlying t = some (.slice e)) (hi : P.info? e = some inf)
    (hp : Ev env p v) (hq : Ev env q (.int .i64 h)) (h0 : 0 ≤ h) (h1 : h ≤ k) : Yd P w0 env x o (slTo v h.toNat) :=
  Yd.pure fun N f hf w hc => by
    obtain ⟨m', L1, L2, L3, _, hit, _, _⟩ := cX_at hc hl
    rcases hit.2 with ⟨rfl, hk, _⟩ | ⟨b, cap, cur, rfl, _, h2, _⟩
    · obtain rfl : h = 0 := by omega
      simp [execOp, ho, hp.eval hf, hq.eval hf, Instr.sliceAt, Instr.slice, run_underlying ht, sizeOf, typeInfo, hi, Instr.sliceBounds, Instr.sliceBound, asIntOf, Sy.slTo]
    · have hb : 0 ≤ h ∧ h ≤ (cap : Int) := ⟨h0, by omega⟩
      simp [execOp, ho, hp.eval hf, hq.eval hf, Instr.sliceAt, Instr.slice, run_underlying ht, sizeOf, typeInfo, hi, Instr.sliceBounds, Instr.sliceBound, asIntOf, Sy.slTo, hb, add_none]
theorem run_append_make {w : World} {t t2 ty e : TypeId} {i : TypeInfo} {z : Value} (ht : P.underlying t = some (.slice e)) (ht2 : P.underlying t2 = some (.int .i64)) (hi : P.info? e = some i) (hz : i.zero = some z) {n : Nat} (hs0 : 0 < i.size)
    (h0 : 0 < n) (h63 : (n : Int) ≤ 140737488355328) (h48 : n * i.bytes ≤ 140737488355328) :
    (Builtin.append_ #[t, t2] ty #[.slice none 0 0, .int .i64 n]).run P w =
      .ok (.slice (some ⟨w.heap.size, 0, none⟩) n (grownCap w n 0 e)) (w.drew.alloc (.cells (Builtin.zeroCells z.cells n ++ Builtin.zeroCells z.cells (grownCap w n 0 e - n)) e)) := by
  have hn : n ≠ 0 := by omega
  have h63' : ¬ (9223372036854775807 < max (n : Int) 0) := by omega
  have h63'' : ¬ (9223372036854775807 < (n : Int)) := by omega
  have hw : IntKind.i64.wrap (n : Int) = n := w64_id (by omega) (by omega)
  have h48' : ¬ (281474976710656 < Builtin.nextslicecap n 0 * i.bytes) := by rw [nextslicecap_zero h0]; omega
  have h48i : ¬ ((281474976710656 : Int) < (n : Int) * (i.bytes : Int)) := by
    have : ((n * i.bytes : Nat) : Int) ≤ 140737488355328 := by omega
    rw [Int.natCast_mul] at this; omega
  have hneg : ¬ ((n : Int) < 0) := by omega
  have hns : i.size ≠ 0 := by omega
  simp [Builtin.append_, run_underlying ht, run_underlying ht2, sizeOf, typeInfo, zeroValue, hi, hz, hn, h63'', h48', h48i, hneg, hw, asInt, asIntOf, Question.forced, run_firstCells_none, newRow, grownCap]
  intro h
  have : 0 < n * i.size := Nat.mul_pos h0 hs0
  omega
/-- append of make onto nil. -/
theorem Ef.apMk {pos n : Nat} {e t t2 : TypeId} {z : Value} {p q : Operand} {h : Int} {bytes : Nat} (hI : (P.info? e).map (fun i => (i.zero, i.size, i.bytes)) = some (some z, n, bytes)) (hl : x.l[pos]? = some (hown e n (.slice none 0 0) 0 [])) (ho : o.op = .call { callee := .builtin .append, args := #[p, q], argTypes := #[t, t2] })
    (ht : P.underlying t = some (.slice e)) (ht2 : P.underlying t2 = some (.int .i64)) (hzs : z.cells.size = n) (h0 : 0 < n) (hp : Ev env p (.slice none 0 0)) (hq : Ev env q (.int .i64 h))
    (h1 : 0 < h ∧ h ≤ 140737488355328 ∧ h.toNat * bytes ≤ 140737488355328) : Ef P w0 env x o (fun v' x' => ∃ cells, x' = ⟨x.m, x.l.set pos (hown e n v' h.toNat cells)⟩) :=
  Ef.mk fun N f hf w hc => by
    obtain ⟨inf, hi, hz, hn, hb⟩ := info_parts hI
    subst hn hb
    obtain ⟨m', L1, L2, L3, hm, hit, hh, hset⟩ := cX_at hc hl
    obtain ⟨k, rfl⟩ : ∃ k : Nat, h = k := ⟨h.toNat, by omega⟩
    simp only [Int.toNat_natCast] at h1 ⊢
    have hr := run_append_make (P := P) (w := w) (ty := o.type) ht ht2 hi hz h0 (n := k) (by omega) (by omega) h1.2.2
    have hL2 : L2 = [] := by
      rcases hit.2 with ⟨_, _, h⟩ | ⟨_, _, _, h, _⟩
      · exact h
      · cases h
    subst hL2
    have hge := grownCap_ge w k 0 e
    have hcm : grownCap w k 0 e ≤ 9223372036854775807 := by have := grownCap_le_maxLen w k 0 e (by unfold maxLen; omega); unfold maxLen at this; exact this
    have hsz : ((Builtin.zeroCells z.cells k) ++ Builtin.zeroCells z.cells (grownCap w k 0 e - k)).size = grownCap w k 0 e * inf.size := by
      simp only [Array.size_append, size_zeroCells, hzs, ← Nat.add_mul]
      congr 1; omega
    refine ⟨_, w.drew.alloc (.cells (Builtin.zeroCells z.cells k ++ Builtin.zeroCells z.cells (grownCap w k 0 e - k)) e), _, .inl ?_, ⟨_, rfl⟩, m', hm, _, hset _ [(w.heap.size, .cells (Builtin.zeroCells z.cells k ++ Builtin.zeroCells z.cells (grownCap w k 0 e - k)) e (0, 0))] ⟨?_, .inr ⟨w.heap.size, _, _, rfl, rfl, hge, hcm, hsz, rfl⟩⟩, ?_⟩
    · simp [execOp, ho, resolve, hp.eval hf, hq.eval hf, invoke, builtin, hr]
    · rw [List.length_take, Array.length_toList, hsz]
      exact Nat.min_eq_left (Nat.mul_le_mul_right _ hge)
    · have h3 : Hp m' (L1 ++ L3) w0 w := hh.sub (by simp)
      exact (h3.alloc (w' := w.drew.alloc _) rfl rfl rfl).perm (by simpa using (List.perm_middle (a := (w.heap.size, Obj.cells (Builtin.zeroCells z.cells k ++ Builtin.zeroCells z.cells (grownCap w k 0 e - k)) e (0, 0))) (l₁ := L1) (l₂ := L3)).symm)
end

/-! ### Rows onto rows -/
theorem RS.rowsOf {α : Type} {R : Rp α} {m : Snap} {v : Value} {xss : List (List α)} (h : RS R.slice m v xss) : ∃ us, Rows R m us xss ∧ ∀ (w0 : World) (x : SX), Sle m x.m → Src w0 x v xss.length us := by
  obtain ⟨⟨a, cap, rfl, _⟩, hb, hall⟩ := h
  have h1 : ∀ i, i < xss.length → ∃ u, ∃ xs, xss[i]? = some xs ∧ RS R m u xs ∧ At m (.slice a xss.length cap) i [u] := fun i hi => by
    obtain ⟨cs, ⟨u, rfl, hu⟩, hat⟩ := hall i hi
    exact ⟨u, _, List.getElem?_eq_getElem hi, hu, by rwa [show i * R.slice.n = i from Nat.mul_one _] at hat⟩
  obtain ⟨us, hul, hus⟩ := exists_list h1
  refine ⟨us, ⟨hul, fun i hi => ?_⟩, fun w0 x hm w hc => ⟨a, cap, rfl, ?_⟩⟩
  · obtain ⟨xs, e, hr, _⟩ := hus i (by omega)
    rw [List.getElem?_eq_getElem hi] at e
    exact ⟨_, List.getElem?_eq_getElem (by omega), by rw [Option.some.inj e]; exact hr⟩
  · by_cases h0 : xss.length = 0
    · exact .inl h0
    · right
      obtain ⟨_, _, _, b, off, l, c, hv, _⟩ := hus 0 (by omega)
      cases hv
      refine ⟨b, off, rfl, fun j u hu => ?_⟩
      have hj := (List.getElem?_eq_some_iff.1 hu).1
      obtain ⟨_, _, _, b', off', l', c', hv', hat⟩ := hus j hj
      cases hv'
      obtain ⟨m', hm', L, _, hp⟩ := hc
      have := hat 0 us[j] rfl
      rw [(List.getElem?_eq_some_iff.1 hu).2] at this
      exact cell_of_cellM hp (cellM_mono (hm.trans hm') (by simpa using this))
theorem Rows.app {α : Type} {R : Rp α} {m : Snap} {us us' : List Value} {xss yss : List (List α)} (h : Rows R m us xss) (h' : Rows R m us' yss) : Rows R m (us ++ us') (xss ++ yss) := by
  refine ⟨by simp [h.1, h'.1], fun i hi => ?_⟩
  rw [List.length_append] at hi
  have hl := h.1
  by_cases hlt : i < xss.length
  · obtain ⟨u, h1, h2⟩ := h.2 i hlt
    refine ⟨u, by rw [List.getElem?_append_left (by omega)]; exact h1, ?_⟩
    rw [List.getElem_append_left hlt]; exact h2
  · obtain ⟨u, h1, h2⟩ := h'.2 (i - xss.length) (by omega)
    refine ⟨u, by rw [List.getElem?_append_right (by omega), hl]; exact h1, ?_⟩
    rw [List.getElem_append_right (by omega)]; exact h2
section
variable {P : Program} {w0 : World} {env : Env} {x : SX} {o : Oper} {α : Type}
theorem Ef.apRR {R : Rp α} {pos : Nat} {e t : TypeId} {v vs : Value} {us us' : List Value} {xss yss : List (List α)} {m : Snap} {z : Value} {p q : Operand} {bytes : Nat} (hI : (P.info? e).map (fun i => (i.zero, i.size, i.bytes)) = some (some z, 1, bytes)) (hl : x.l[pos]? = some (hown e 1 v xss.length us)) (hr : Rows R m us' yss) (hs : Src w0 x vs yss.length us')
    (ho : o.op = .call { callee := .builtin .append, args := #[p, q], argTypes := #[t, t] }) (ht : P.underlying t = some (.slice e)) (hzs : z.cells.size = 1) (hp : Ev env p v) (hq : Ev env q vs)
    (hroom : (xss.length + yss.length) * bytes ≤ 140737488355328) (h63 : xss.length + yss.length ≤ 140737488355328) : Ef P w0 env x o (fun v' x' => x' = ⟨x.m, x.l.set pos (hown e 1 v' (xss ++ yss).length (us ++ us'))⟩) := by
  obtain ⟨i, hi, hz, hn, hby⟩ := info_parts hI
  have h := Ef.app (P := P) (w0 := w0) (env := env) (o := o) (news := us') hl ho ht hi hz hn hby hzs (by omega) hp hq hs (by rw [hr.1, Nat.mul_one]) (by
    rw [List.all_eq_true]
    intro u hu
    obtain ⟨j, hj, rfl⟩ := List.getElem_of_mem hu
    obtain ⟨u', h1, h2⟩ := hr.2 j (by rw [← hr.1]; exact hj)
    rw [List.getElem?_eq_getElem hj] at h1
    rw [Option.some.inj h1]
    obtain ⟨⟨a, c, rfl, _⟩, _⟩ := h2
    rfl) hroom h63
  rw [List.length_append]
  exact h
end

/-! ### A struct with slices into a block -/
def On (w0 : World) (x : SX) (u : Value) : Prop := ∀ w, cX w0 x w → Value.oneCell' u = true
theorem On.lit {w0 : World} {x : SX} {u : Value} (h : Value.oneCell' u = true) : On w0 x u := fun _ _ => h
theorem On.ro {w0 : World} {x : SX} {u : Value} {α : Type} {R : Rp α} {m : Snap} {xs : List α} (h : RS R m u xs) : On w0 x u := fun _ _ => by
  obtain ⟨⟨a, c, rfl, _⟩, _⟩ := h
  rfl
theorem On.own {w0 : World} {x : SX} {u : Value} {pos n k : Nat} {e : TypeId} {cells : List Value} (hl : x.l[pos]? = some (hown e n u k cells)) : On w0 x u := fun w hc => by
  obtain ⟨a, k', c, rfl⟩ := Sl.own (w0 := w0) hl x w (leX_refl x) hc
  rfl
inductive Ons (w0 : World) (x : SX) : List Value → Prop
  | nil : Ons w0 x []
  | cons {u : Value} {us : List Value} (h : On w0 x u) (hs : Ons w0 x us) : Ons w0 x (u :: us)
theorem Ons.all {w0 : World} {x : SX} {us : List Value} (h : Ons w0 x us) {w : World} (hc : cX w0 x w) : us.all Value.oneCell' = true := by
  induction h with
  | nil => rfl
  | cons h _ ih => rw [List.all_cons, h w hc, ih]; rfl
section
variable {P : Program} {w0 : World} {env : Env} {x : SX} {o : Oper}
theorem Ef.stBs {b k n pos : Nat} {cs us cs' : List Value} {T t : TypeId} {u : Value} {p q : Operand} (hs : Ons w0 x us) (hl : x.l[pos]? = some (hcells b cs T)) (ho : o.op = .store t p q) (hp : Ev env p (bp b k)) (hq : Ev env q u)
    (hn : (P.info? t).map (·.size) = some n) (hu : u.cells = us.toArray) (hul : us.length = n) (hk : k + us.length ≤ cs.length) (hcs : cs.take k ++ us ++ cs.drop (k + us.length) = cs') :
    Ef P w0 env x o (fun v x' => v = undef ∧ x' = ⟨x.m, x.l.set pos (hcells b cs' T)⟩) := fun N a hf w hc =>
  Ef.stB hl ho hp hq hn hu hul (hs.all hc) hk hcs N a hf w hc
theorem Yd.bld4 {t : TypeId} {parts : List (Nat × Operand)} {pvs : List (Nat × Value)} {cells : List Value} {z u u2 u3 u4 : Value} {pls : List (Nat × Nat)} (hs : Sl w0 x u) (hs2 : Sl w0 x u2) (hs3 : Sl w0 x u3) (hs4 : Sl w0 x u4) (ho : o.op = .build t parts.toArray) (hz : (P.info? t).bind (·.zero) = some z) (hpl : plS P t = some pls)
    (hev : EvP env parts pvs) (hf : (∃ a k c, u = .slice a k c) → (∃ a k c, u2 = .slice a k c) → (∃ a k c, u3 = .slice a k c) → (∃ a k c, u4 = .slice a k c) → Instr.fill (pls.toArray[·]?) z.cells pvs = some cells.toArray) : Yd P w0 env x o (.agg cells.toArray) :=
  fun N a hg x' hx w hc => Yd.bld ho hz hpl hev (hf (hs x' w hx hc) (hs2 x' w hx hc) (hs3 x' w hx hc) (hs4 x' w hx hc)) N a hg x' hx w hc
end

/-! ### A slice cut to its length, and append onto it -/
def slCap (v : Value) : Value :=
  match v with
  | .slice a n _ => .slice a n n
  | _ => undef
theorem RS.cap {α : Type} {R : Rp α} {m : Snap} {v : Value} {xs : List α} (h : RS R m v xs) : RS R m (slCap v) xs := by
  obtain ⟨⟨a, c, rfl, _⟩, hb, hall⟩ := h
  refine ⟨⟨a, xs.length, rfl, Nat.le_refl _⟩, hb, fun i hi => ?_⟩
  obtain ⟨cs, h1, b, off, l, c', hv, h2⟩ := hall i hi
  cases hv
  exact ⟨cs, h1, b, off, _, _, rfl, h2⟩
section
variable {P : Program} {w0 : World} {env : Env} {x : SX} {o : Oper}
theorem Yd.slCap {α : Type} {R : Rp α} {m : Snap} {v : Value} {xs : List α} {t e : TypeId} {p q q2 : Operand} {inf : TypeInfo} (h : RS R m v xs) (ho : o.op = .slice t p none (some q) (some q2)) (ht : P.underlying t = some (.slice e)) (hi : P.info? e = some inf)
    (hp : Ev env p v) (hq : Ev env q (.int .i64 xs.length)) (hq2 : Ev env q2 (.int .i64 xs.length)) : Yd P w0 env x o (slCap v) := by
  obtain ⟨⟨a, c, rfl, hc⟩, hb, hall⟩ := h
  refine Yd.pure fun N f hf w _ => ?_
  have hadd : a.map (·.add 0) = a := by
    cases a with
    | none => rfl
    | some a => simp [Addr.add]
  simp [execOp, ho, hp.eval hf, hq.eval hf, hq2.eval hf, Instr.sliceAt, Instr.slice, run_underlying ht, sizeOf, typeInfo, hi, Instr.sliceBounds, Instr.sliceBound, asIntOf, Sy.slCap, hc, hadd]
/-- Onto a slice that is read and full: into a block of the call's own. -/
theorem Ef.apC {k mm n : Nat} {e t : TypeId} {v vs : Value} {olds news : List Value} {inf : TypeInfo} {z : Value} {p q : Operand} {bytes : Nat} (ho : o.op = .call { callee := .builtin .append, args := #[p, q], argTypes := #[t, t] })
    (ht : P.underlying t = some (.slice e)) (hi : P.info? e = some inf) (hz : inf.zero = some z) (hn : inf.size = n) (hby : inf.bytes = bytes) (hzs : z.cells.size = n) (hp : Ev env p (slCap v)) (hq : Ev env q vs) (hsv : Src w0 x v k olds) (hs : Src w0 x vs mm news)
    (hol : olds.length = k * n) (hnl : news.length = mm * n) (hm0 : 0 < mm) (hroom : (k + mm) * bytes ≤ 140737488355328) (h63 : k + mm ≤ 140737488355328) :
    Ef P w0 env x o (fun v' x' => x' = ⟨x.m, hown e n v' (k + mm) (olds ++ news) :: x.l⟩) :=
  Ef.mk fun N f hf w hc => by
    subst hn hby
    obtain ⟨a0, c0, rfl, hsrc0⟩ := hsv w hc
    obtain ⟨a, c, rfl, hsrc⟩ := hs w hc
    obtain ⟨sb, soff, rfl, hnews⟩ := hsrc.resolve_left (by omega)
    have hnews' : ∀ j u, news[j]? = some u → w.cell? ((⟨sb, soff, none⟩ : Addr).add j) = some u := fun j u hu => by rw [add_none]; exact hnews j u hu
    have hlen : (olds ++ news).length = (k + mm) * inf.size := by rw [List.length_append, hol, hnl, Nat.add_mul]
    have mkGrow : hown e inf.size (.slice (some ⟨w.heap.size, 0, none⟩) (k + mm) (grownCap w (k + mm) k e)) (k + mm) (olds ++ news)
          [(w.heap.size, .cells (olds.toArray ++ news.toArray ++ Builtin.zeroCells z.cells (grownCap w (k + mm) k e - (k + mm))) e (0, 0))] := by
      have hge := grownCap_ge w (k + mm) k e
      have hcm : grownCap w (k + mm) k e ≤ 9223372036854775807 := by have := grownCap_le_maxLen w (k + mm) k e (by unfold maxLen; omega); unfold maxLen at this; exact this
      refine ⟨hlen, .inr ⟨w.heap.size, _, _, rfl, rfl, hge, hcm, ?_, ?_⟩⟩
      · simp only [Array.size_append, List.size_toArray, size_zeroCells, hzs, hol, hnl, ← Nat.add_mul]
        congr 1
        omega
      · simp only [Array.toList_append, List.append_assoc]
        rw [← List.append_assoc, ← hlen]
        exact List.take_left
    have fin : ∀ {v' : Value} {w' : World}, (Builtin.append_ #[t, t] o.type #[.slice a0 k k, .slice (some ⟨sb, soff, none⟩) mm c]).run P w = .ok v' w' → (cX w0 ⟨x.m, hown e inf.size v' (k + mm) (olds ++ news) :: x.l⟩ w') →
        ∃ u w'' x', ((execOp f.eval o).run P w = .ok (.value u) w'' ∨ ((execOp f.eval o).run P w = .ok .skip w'' ∧ u = undef)) ∧ x' = ⟨x.m, hown e inf.size u (k + mm) (olds ++ news) :: x.l⟩ ∧ cX w0 x' w'' := by
      rintro v' w' hr h
      refine ⟨v', w', _, .inl ?_, rfl, h⟩
      simp [execOp, ho, resolve, hp.eval hf, hq.eval hf, invoke, builtin, hr, Sy.slCap]
    cases a0 with
    | none =>
      have hk : k = 0 := by
        rcases hsrc0 with h | ⟨b, off, h, _⟩
        · exact h
        · cases h
      subst hk
      obtain rfl : olds = [] := List.eq_nil_of_length_eq_zero (by simpa using hol)
      have hr := run_append_nil (P := P) w t o.type e inf z ht hi hz ⟨sb, soff, none⟩ mm c news hnl hnews' (by omega) (by omega) (by have hb := hroom; simp only [Nat.zero_add] at hb; omega)
      simp only [Nat.zero_add, List.nil_append, Array.empty_append] at mkGrow fin ⊢
      exact fin hr (cX_alloc hc rfl rfl rfl mkGrow)
    | some b0 =>
      have holds : ∀ j u, olds[j]? = some u → w.cell? (b0.add j) = some u := fun j u hu => by
        rcases hsrc0 with h | ⟨b, off, h, hcell⟩
        · subst h
          have : olds = [] := List.eq_nil_of_length_eq_zero (by simpa using hol)
          subst this; simp at hu
        · cases h
          rw [add_none]; exact hcell j u hu
      have hr := run_append_grow (P := P) w t o.type e inf z ht hi hz b0 k k olds hol holds ⟨sb, soff, none⟩ mm c news hnl hnews' (by omega) (by omega) (growslice_fits (by omega) hroom)
      exact fin hr (cX_alloc hc rfl rfl rfl mkGrow)
theorem Ef.apCT {α : Type} {n : Nat} {enc : α → List Value} {e t : TypeId} {m : Snap} {u vs : Value} {xs ys : List α} {z : Value} {p q : Operand} {bytes : Nat} (he : ∀ x, (enc x).length = n) (hI : (P.info? e).map (fun i => (i.zero, i.size, i.bytes)) = some (some z, n, bytes)) (hu : RS (.flat n enc he) m u xs) (hm : Sle m x.m)
    (ho : o.op = .call { callee := .builtin .append, args := #[p, q], argTypes := #[t, t] }) (ht : P.underlying t = some (.slice e)) (hzs : z.cells.size = n) (h0 : 0 < n) (hp : Ev env p (slCap u)) (hq : Ev env q vs) (hs : Src w0 x vs ys.length (ys.flatMap enc))
    (hm0 : 1 ≤ ys.length) (hroom : (xs.length + ys.length) * bytes ≤ 140737488355328) (h63 : xs.length + ys.length ≤ 140737488355328) : Ef P w0 env x o (fun v' x' => x' = ⟨x.m, hownT e n enc v' (xs ++ ys) :: x.l⟩) := by
  obtain ⟨i, hi, hz, hn, hby⟩ := info_parts hI
  have h := Ef.apC (P := P) (w0 := w0) (env := env) (o := o) (x := x) ho ht hi hz hn hby hzs hp hq (Src.rs h0 hm hu) hs (flat_length he xs) (flat_length he ys) (by omega) hroom h63
  have e1 : ∀ v', hownT e n enc v' (xs ++ ys) = hown e n v' (xs.length + ys.length) (xs.flatMap enc ++ ys.flatMap enc) := fun v' => by unfold hownT; rw [List.length_append, List.flatMap_append]
  simp only [e1]
  exact h
end

/-! ### Addresses of elements that stay -/
section
variable {P : Program} {w0 : World} {env : Env} {x : SX} {o : Oper}
theorem Yd.nilA {α : Type} {pos n j : Nat} {e : TypeId} {v : Value} {cells : List Value} {xs : List α} {i : Int} {y : α} {p : Operand} (hl : x.l[pos]? = some (hown e n v xs.length cells)) (hy : geti xs i = some y) (ho : o.op = .nilCheck p) (hp : Ev env p (adr v j)) : Yd P w0 env x o (adr v j) :=
  Yd.pure fun N g hg w hc => by
    obtain ⟨_, h1, h2⟩ := geti_some hy
    obtain ⟨_, _, L2, _, _, hit, _⟩ := cX_at hc hl
    rcases hit.2 with ⟨_, hk, _⟩ | ⟨b, cap, cur, rfl, _⟩
    · omega
    · simp [execOp, ho, hp.eval hg, adr]
theorem Yd.nilR {v : Value} {j : Nat} {p : Operand} (hs : ∃ a l c, v = .slice (some a) l c) (ho : o.op = .nilCheck p) (hp : Ev env p (adr v j)) : Yd P w0 env x o (adr v j) := by
  obtain ⟨a, l, c, rfl⟩ := hs
  exact Yd.pure fun N g hg w _ => by simp [execOp, ho, hp.eval hg, adr]
end
/-! ### Rows of the call's own: made, put in, taken out -/
theorem rit_set2 {α : Type} {e : TypeId} {n : Nat} {enc : α → List Value} {us : List Value} {xss : List (List α)} {i : Nat} {u : Value} {ys : List α} (hi : i < us.length) (hl : us.length = xss.length) : rit e n enc (us.set i u) (xss.set i ys) = (rit e n enc us xss).set i (hownT e n enc u ys) := by
  unfold rit
  apply List.ext_getElem?
  intro j
  rw [List.getElem?_zipWith, List.getElem?_set, List.getElem?_set, List.getElem?_set, List.getElem?_zipWith]
  by_cases e1 : i = j
  · subst e1
    rw [if_pos rfl, if_pos rfl, if_pos rfl, if_pos hi, if_pos (by omega), if_pos (by rw [List.length_zipWith]; omega)]
  · rw [if_neg e1, if_neg e1, if_neg e1]
theorem rit_get {α : Type} {e : TypeId} {n : Nat} {enc : α → List Value} {us : List Value} {xss : List (List α)} {i : Nat} {u : Value} {ys : List α} (hu : us[i]? = some u) (hy : xss[i]? = some ys) : (rit e n enc us xss)[i]? = some (hownT e n enc u ys) := by
  have := rit_at (e := e) (n := n) (enc := enc) (r := []) hu hy
  rwa [List.append_nil] at this
theorem cX_mkM {α : Type} {w0 w : World} {m : Snap} {l : List HI} (e2 : TypeId) (n k : Nat) (enc : α → List Value) (hc : cX w0 ⟨m, l⟩ w) : cX w0 ⟨m, hrows e2 n enc (List.replicate k (.slice none 0 0)) (List.replicate k []) :: l⟩ w := by
  obtain ⟨m', hm, L, hs, hp⟩ := hc
  refine ⟨m', hm, L, ⟨[], L, rfl, ⟨by simp, ?_⟩, hs⟩, hp⟩
  clear hp hs
  induction k with
  | zero => exact rfl
  | succ k ih => exact ⟨[], [], rfl, ⟨by simp, .inl ⟨rfl, rfl, rfl⟩⟩, ih⟩
theorem cX_setM {α : Type} {w0 w : World} {m : Snap} {l : List HI} {po pr n i : Nat} {e : TypeId} {enc : α → List Value} {us : List Value} {xss : List (List α)} {u : Value} {ys r0 : List α} (hpo : l[po]? = some (hownT e n enc u ys)) (hpr : (l.eraseIdx po)[pr]? = some (hrows e n enc us xss)) (hi : xss[i]? = some r0)
    (hc : cX w0 ⟨m, l⟩ w) : cX w0 ⟨m, (l.eraseIdx po).set pr (hrows e n enc (us.set i u) (xss.set i ys))⟩ w := by
  obtain ⟨m', hm, L, ⟨L1, L2, rfl, h1, h2⟩, hp⟩ := cX_front hc hpo
  obtain ⟨A, B, C, rfl, ⟨hlen, hsat⟩, hset⟩ := h2.at hpr
  have hi2 : i < us.length := by have := (List.getElem?_eq_some_iff.1 hi).1; omega
  obtain ⟨A2, B2, C2, rfl, hB2, hset2⟩ := hsat.at (rit_get (List.getElem?_eq_getElem hi2) hi)
  refine ⟨m', hm, A ++ (A2 ++ L1 ++ C2) ++ C, hset _ _ ⟨by simp [hlen], by rw [rit_set2 hi2 hlen]; exact hset2 _ _ h1⟩, ?_⟩
  have hsub : (L1 ++ (A ++ (A2 ++ C2) ++ C)).Sublist (L1 ++ (A ++ (A2 ++ B2 ++ C2) ++ C)) :=
    List.Sublist.append (List.Sublist.refl _) (List.Sublist.append (List.Sublist.append (List.Sublist.refl _) (List.Sublist.append (List.sublist_append_left _ _) (List.Sublist.refl _))) (List.Sublist.refl _))
  refine (hp.sub hsub).perm ?_
  have e1 : A ++ (A2 ++ C2) ++ C = (A ++ A2) ++ (C2 ++ C) := by simp
  have e2 : A ++ (A2 ++ L1 ++ C2) ++ C = (A ++ A2) ++ (L1 ++ (C2 ++ C)) := by simp
  rw [e1, e2]
  exact List.perm_append_comm_assoc L1 (A ++ A2) (C2 ++ C)
/-- A row is taken out of the rows. -/
theorem cX_takeM {α : Type} {w0 w : World} {m : Snap} {l : List HI} {pr n i : Nat} {e : TypeId} {enc : α → List Value} {us : List Value} {xss : List (List α)} {u : Value} {ys : List α} (hpr : l[pr]? = some (hrows e n enc us xss)) (hu : us[i]? = some u) (hi : xss[i]? = some ys)
    (hc : cX w0 ⟨m, l⟩ w) : cX w0 ⟨m, hownT e n enc u ys :: l.set pr (hrows e n enc (us.set i (.slice none 0 0)) (xss.set i []))⟩ w := by
  obtain ⟨m', hm, L, hs, hp⟩ := hc
  obtain ⟨A, B, C, rfl, ⟨hlen, hsat⟩, hset⟩ := Sat.at (l := l) hs hpr
  obtain ⟨A2, B2, C2, rfl, hB2, hset2⟩ := hsat.at (rit_get hu hi)
  have hi2 := (List.getElem?_eq_some_iff.1 hu).1
  have h3 := hset2 (hownT e n enc (.slice none 0 0) []) [] ⟨by simp, .inl ⟨rfl, rfl, rfl⟩⟩
  refine ⟨m', hm, B2 ++ (A ++ (A2 ++ [] ++ C2) ++ C), ⟨B2, _, rfl, hB2, hset _ _ ⟨by simp [hlen], by rw [rit_set2 hi2 hlen]; exact h3⟩⟩, hp.perm ?_⟩
  have e1 : A ++ (A2 ++ B2 ++ C2) ++ C = (A ++ A2) ++ (B2 ++ (C2 ++ C)) := by simp
  have e2 : B2 ++ (A ++ (A2 ++ [] ++ C2) ++ C) = B2 ++ ((A ++ A2) ++ (C2 ++ C)) := by simp
  rw [e1, e2]
  exact (List.perm_append_comm_assoc B2 (A ++ A2) (C2 ++ C)).symm
/-- What was taken out is put in again, turned. -/
theorem cX_putM {α : Type} {w0 w : World} {m : Snap} {l : List HI} {po pr n i : Nat} {e : TypeId} {enc : α → List Value} {us : List Value} {xss : List (List α)} {u : Value} {ys r0 : List α} (hpo : l[po]? = some (hownT e n enc u ys)) (hpr : (l.eraseIdx po)[pr]? = some (hrows e n enc (us.set i (.slice none 0 0)) (xss.set i []))) (hi : xss[i]? = some r0)
    (hc : cX w0 ⟨m, l⟩ w) : cX w0 ⟨m, (l.eraseIdx po).set pr (hrows e n enc (us.set i u) (xss.set i ys))⟩ w := by
  have hlt := (List.getElem?_eq_some_iff.1 hi).1
  have := cX_setM (i := i) (r0 := []) hpo hpr (by rw [List.getElem?_set, if_pos rfl, if_pos hlt]) hc
  rwa [List.set_set, List.set_set] at this
section
variable {P : Program} {w0 : World} {env : Env} {x : SX} {o : Oper}
theorem Ef.mkM {α : Type} {t e : TypeId} {p q : Operand} {kp kq : IntKind} {k : Int} {z : Value} {bytes : Nat} (e2 : TypeId) (n2 : Nat) (enc : α → List Value) (hI : (P.info? e).map (fun i => (i.zero, i.size, i.bytes)) = some (some z, 1, bytes)) (hd : z.cells = #[.slice none 0 0]) (ho : o.op = .makeSlice t p q) (ht : P.underlying t = some (.slice e))
    (hp : Ev env p (.int kp k)) (hq : Ev env q (.int kq k)) (h0 : 0 ≤ k) (hroom : k.toNat * bytes ≤ 140737488355328) (hk : k ≤ 140737488355328) :
    Ef P w0 env x o (fun v x' => x' = ⟨x.m, hown e 1 v (List.replicate k.toNat ([] : List α)).length (List.replicate k.toNat (.slice none 0 0)) :: hrows e2 n2 enc (List.replicate k.toNat (.slice none 0 0)) (List.replicate k.toNat []) :: x.l⟩) := by
  intro N a hf w hw
  have h := Ef.mkT (P := P) (w0 := w0) (env := env) (x := ⟨x.m, hrows e2 n2 enc (List.replicate k.toNat (.slice none 0 0)) (List.replicate k.toNat []) :: x.l⟩) (o := o) (enc := fun v : Value => [v]) (.slice none 0 0) hI ho ht hd rfl (by decide) hp hq h0 hroom hk N a hf w (cX_mkM e2 n2 k.toNat enc hw)
  refine eff_mono ?_ h
  rintro u w' ⟨x', rfl, hc'⟩
  refine ⟨_, rfl, ?_⟩
  have e1 : ∀ l : List Value, l.flatMap (fun v => [v]) = l := fun l => by induction l with
    | nil => rfl
    | cons a l ih => rw [List.flatMap_cons, ih]; rfl
  have e2 : hownT e 1 (fun v : Value => [v]) u (List.replicate k.toNat (.slice none 0 0)) = hown e 1 u (List.replicate k.toNat ([] : List α)).length (List.replicate k.toNat (.slice none 0 0)) := by
    unfold hownT
    rw [e1, List.length_replicate, List.length_replicate]
  rw [← e2]
  exact hc'
/-- A row of the call's own, in the place of another one. -/
theorem Ef.stR {β : Type} {pos pos2 n2 k2 : Nat} {xss : List β} {r0 : β} {i : Int} {e e2 t : TypeId} {v u : Value} {us cells : List Value} {p q : Operand} (ys : β) (hl : x.l[pos]? = some (hown e 1 v xss.length us)) (hl2 : x.l[pos2]? = some (hown e2 n2 u k2 cells)) (hg : geti xss i = some r0) (hus : us.length = xss.length)
    (ho : o.op = .store t p q) (hp : Ev env p (adr v (i.toNat * 1))) (hq : Ev env q u) (hn : (P.info? t).map (·.size) = some 1) :
    Ef P w0 env x o (fun z x' => z = undef ∧ x' = ⟨x.m, x.l.set pos (hown e 1 v (xss.set i.toNat ys).length (us.set i.toNat u))⟩) := by
  intro N a hf w hc
  rw [List.length_set]
  obtain ⟨b, k', c, rfl⟩ := Sl.own (w0 := w0) hl2 x w (leX_refl x) hc
  obtain ⟨g0, g1, _⟩ := geti_some hg
  refine Ef.stO (k := i.toNat) (us := [.slice b k' c]) hl ho (by rwa [Nat.mul_one] at hp) hq hn rfl rfl rfl (by decide) (by simp only [List.length_cons, List.length_nil]; omega) ?_ N a hf w hc
  rw [List.set_eq_take_append_cons_drop, if_pos (by omega)]
  simp
end
theorem lenSet {β γ : Type} {us : List β} {xss : List γ} {i : Nat} {u : β} {ys : γ} (h : us.length = xss.length) : (us.set i u).length = (xss.set i ys).length := by rw [List.length_set, List.length_set, h]
theorem lenRep {β γ : Type} {k : Nat} {b : β} {c : γ} : (List.replicate k b).length = (List.replicate k c).length := by rw [List.length_replicate, List.length_replicate]
theorem RS.rowG {α : Type} {R : Rp α} {m : Snap} {v : Value} {xs : List (List α)} {G : Bool} (h : G = true → RS R.slice m v xs) {i : Int} : ∃ u, ∀ ys, geti xs i = some ys → G = true → RS R m u ys ∧ At m v i.toNat [u] := by
  cases G with
  | false => exact ⟨undef, fun ys _ h => by cases h⟩
  | true =>
    obtain ⟨u, hu⟩ := (h rfl).rowD (i := i)
    exact ⟨u, fun ys hy _ => hu ys hy⟩
/-- Where the parts lie in a greater class, and where they lie when one is lent. -/
theorem leX.offE {x y : SX} (h : leX x y) : ∃ k : Nat, (∀ (p : Nat) (it : HI), x.l[p]? = some it → y.l[k + p]? = some it) ∧ ∀ (a b : Nat) (it : HI), x.l[b]? = some it → (a == b) = false → (y.l.eraseIdx (k + a))[if b < a then k + b else k + b - 1]? = some it := by
  obtain ⟨_, X, hX⟩ := h
  refine ⟨X.length, fun p it hp => ?_, fun a b it hb hne => ?_⟩
  · rw [hX, List.getElem?_append_right (by omega), Nat.add_sub_cancel_left]; exact hp
  · have hne' : a ≠ b := by simpa using hne
    rw [List.getElem?_eraseIdx]
    split <;> split <;> first
      | (rw [hX, List.getElem?_append_right (by omega)]; simpa using hb)
      | (exfalso; omega)
      | (rw [hX, List.getElem?_append_right (by omega), show X.length + b - 1 + 1 - X.length = b by omega]; exact hb)
/-- A cell for a slice of the call's own. -/
theorem Ef.bxO {P : Program} {w0 : World} {env : Env} {x : SX} {o : Oper} {pos kk n : Nat} {cells : List Value} {T e : TypeId} {u : Value} {q : Operand} (hl : x.l[pos]? = some (hown e n u kk cells)) (ho : o.op = .box T q) (hq : Ev env q u) :
    Ef P w0 env x o (fun z x' => ∃ b, z = bp b 0 ∧ x' = ⟨x.m, hcells b [u] T :: x.l⟩) := fun N a hf w hc => by
  obtain ⟨a', k', c, rfl⟩ := Sl.own (w0 := w0) hl x w (leX_refl x) hc
  exact Ef.bx ho hq rfl N a hf w hc
end Go.Proofs.Ytkdhckiljfjanaa.Sy
