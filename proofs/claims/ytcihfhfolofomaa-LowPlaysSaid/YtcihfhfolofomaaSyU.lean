/- Slice expressions from the head, append of make onto nil, rows onto rows (own lemmas); no program in sight. -/
import Derived.Test.YtcihfhfolofomaaSyS
namespace Go.Proofs.Ytcihfhfolofomaa.Sy
open Go

/-- The same slice, of k elements. -/
def slTo (v : Value) (k : Nat) : Value :=
  match v with
  | .slice a _ c => .slice a k c
  | _ => undef
theorem hown_slTo {α : Type} {e : TypeId} {n : Nat} {enc : α → List Value} (he : ∀ x, (enc x).length = n) {v : Value} {xs : List α} {k : Nat} (hk : k ≤ xs.length) {L : Part} (h : hownT e n enc v xs L) : hownT e n enc (slTo v k) (xs.take k) L := by
  have hl : (xs.take k).length = k := by rw [List.length_take]; omega
  refine ⟨by rw [flat_length he], ?_⟩
  rcases h.2 with ⟨rfl, h0, rfl⟩ | ⟨b, cap, cur, rfl, rfl, h2, h3, h4, htake⟩
  · exact .inl ⟨by show Value.slice none k 0 = _; rw [show k = 0 by omega], by omega, rfl⟩
  · refine .inr ⟨b, cap, cur, by rw [hl]; rfl, rfl, by omega, h3, h4, ?_⟩
    have e1 : (xs.take k).flatMap enc = (xs.flatMap enc).take (k * n) := by
      have e2 : xs.flatMap enc = (xs.take k).flatMap enc ++ (xs.drop k).flatMap enc := by rw [← List.flatMap_append, List.take_append_drop]
      rw [e2, List.take_left' (by rw [flat_length he, hl])]
    rw [hl, e1, ← htake, List.take_take, Nat.min_eq_left (Nat.mul_le_mul_right n hk)]
theorem cX_slTo {α : Type} {w0 w : World} {m : Snap} {l : List HI} {p : Nat} {e : TypeId} {n : Nat} {enc : α → List Value} (he : ∀ x, (enc x).length = n) {v : Value} {xs : List α} {k : Nat} (hk : k ≤ xs.length) (hl : l[p]? = some (hownT e n enc v xs)) (hc : cX w0 ⟨m, l⟩ w) : cX w0 ⟨m, l.set p (hownT e n enc (slTo v k) (xs.take k))⟩ w := by
  obtain ⟨m', hm, L, hs, hp⟩ := hc
  obtain ⟨L1, L2, L3, rfl, hit, hset⟩ := hs.at hl
  exact ⟨m', hm, L1 ++ L2 ++ L3, hset _ _ (hown_slTo he hk hit), hp⟩
theorem cX_sl0 {w0 w : World} {m : Snap} {l : List HI} {p : Nat} {e : TypeId} {n k : Nat} {v : Value} {cells : List Value} (hl : l[p]? = some (hown e n v k cells)) (hc : cX w0 ⟨m, l⟩ w) : cX w0 ⟨m, l.set p (hown e n (slTo v 0) 0 [])⟩ w := by
  obtain ⟨m', hm, L, hs, hp⟩ := hc
  obtain ⟨L1, L2, L3, rfl, hit, hset⟩ := hs.at hl
  refine ⟨m', hm, L1 ++ L2 ++ L3, hset _ _ ⟨by simp, ?_⟩, hp⟩
  rcases hit.2 with ⟨rfl, _, rfl⟩ | ⟨b, cap, cur, rfl, rfl, h2, h3, h4, _⟩
  · exact .inl ⟨rfl, rfl, rfl⟩
  · exact .inr ⟨b, cap, cur, rfl, rfl, by omega, h3, h4, by simp⟩

section
variable {P : Program} {w0 : World} {env : Env} {x : SX} {o : Oper}
theorem Yd.cap {p : Operand} {t e : TypeId} {ad : Option Addr} {n c : Nat} (ho : o.op = .call { callee := .builtin .cap, args := #[p], argTypes := #[t] }) (ht : P.underlying t = some (.slice e)) (hp : Ev env p (.slice ad n c)) :
    Yd P w0 env x o (.int .i64 c) :=
  Yd.pure fun N f hf w _ => by simp [execOp, ho, resolve, hp.eval hf, invoke, builtin, Builtin.cap_, run_underlying ht, goInt]
/-- From the head, up to h. -/
theorem Yd.slTo {pos n k : Nat} {e e' t : TypeId} {v : Value} {cells : List Value} {p q : Operand} {h : Int} {inf : TypeInfo} (hl : x.l[pos]? = some (hown e' n v k cells)) (ho : o.op = .slice t p none (some q) none) (ht : P.underlying t = some (.slice e)) (hi : P.info? e = some inf)
    (hp : Ev env p v) (hq : Ev env q (.int .i64 h)) (h0 : 0 ≤ h) (h1 : h ≤ k) : Yd P w0 env x o (slTo v h.toNat) :=
  Yd.pure fun N f hf w hc => by
    obtain ⟨m', L1, L2, L3, _, hit, _, _⟩ := cX_at hc hl
    rcases hit.2 with ⟨rfl, hk, _⟩ | ⟨b, cap, cur, rfl, _, h2, _⟩
    · obtain rfl : h = 0 := by omega
      simp [execOp, ho, hp.eval hf, hq.eval hf, Instr.sliceAt, Instr.slice, run_underlying ht, sizeOf, typeInfo, hi, Instr.sliceBounds, Instr.sliceBound, asIntOf, Sy.slTo]
    · have hb : 0 ≤ h ∧ h ≤ (cap : Int) := ⟨h0, by omega⟩
      simp [execOp, ho, hp.eval hf, hq.eval hf, Instr.sliceAt, Instr.slice, run_underlying ht, sizeOf, typeInfo, hi, Instr.sliceBounds, Instr.sliceBound, asIntOf, Sy.slTo, hb, add_none]
theorem run_append_make {w : World} {t t2 ty e : TypeId} {i : TypeInfo} {z : Value} (ht : P.underlying t = some (.slice e)) (ht2 : P.underlying t2 = some (.int .i64)) (hi : P.info? e = some i) (hz : i.zero = some z) {n : Nat} (hs0 : 0 < i.size)
    (h0 : 0 < n) (h63 : (n : Int) ≤ 140737488355328) (h48 : n * i.bytes ≤ 140737488355328) :
    (Builtin.append_ #[t, t2] ty #[.slice none 0 0, .int .i64 n]).run P w =
      .ok (.slice (some ⟨w.heap.size, 0, none⟩) n (grownCap w n 0 e)) (w.drew.alloc (.cells (Builtin.zeroCells z.cells n ++ Builtin.zeroCells z.cells (grownCap w n 0 e - n)) e)) := by
  have hn : n ≠ 0 := by omega
  have h63' : ¬ (9223372036854775807 < max (n : Int) 0) := by omega
  have h63'' : ¬ (9223372036854775807 < (n : Int)) := by omega
  have hw : IntKind.i64.wrap (n : Int) = n := w64_id (by omega) (by omega)
  have h48' : ¬ (281474976710656 < Builtin.nextslicecap n 0 * i.bytes) := by rw [nextslicecap_zero h0]; omega
  have h48i : ¬ ((281474976710656 : Int) < (n : Int) * (i.bytes : Int)) := by
    have : ((n * i.bytes : Nat) : Int) ≤ 140737488355328 := by omega
    rw [Int.natCast_mul] at this; omega
  have hneg : ¬ ((n : Int) < 0) := by omega
  have hns : i.size ≠ 0 := by omega
  simp [Builtin.append_, run_underlying ht, run_underlying ht2, sizeOf, typeInfo, zeroValue, hi, hz, hn, h63'', h48', h48i, hneg, hw, asInt, asIntOf, Question.forced, run_firstCells_none, newRow, grownCap]
  intro h
  have : 0 < n * i.size := Nat.mul_pos h0 hs0
  omega
/-- append of make onto nil. -/
theorem Ef.apMk {pos n : Nat} {e t t2 : TypeId} {z : Value} {p q : Operand} {h : Int} {bytes : Nat} (hI : (P.info? e).map (fun i => (i.zero, i.size, i.bytes)) = some (some z, n, bytes)) (hl : x.l[pos]? = some (hown e n (.slice none 0 0) 0 [])) (ho : o.op = .call { callee := .builtin .append, args := #[p, q], argTypes := #[t, t2] })
    (ht : P.underlying t = some (.slice e)) (ht2 : P.underlying t2 = some (.int .i64)) (hzs : z.cells.size = n) (h0 : 0 < n) (hp : Ev env p (.slice none 0 0)) (hq : Ev env q (.int .i64 h))
    (h1 : 0 < h ∧ h ≤ 140737488355328 ∧ h.toNat * bytes ≤ 140737488355328) : Ef P w0 env x o (fun v' x' => ∃ cells, x' = ⟨x.m, x.l.set pos (hown e n v' h.toNat cells)⟩) :=
  Ef.mk fun N f hf w hc => by
    obtain ⟨inf, hi, hz, hn, hb⟩ := info_parts hI
    subst hn hb
    obtain ⟨m', L1, L2, L3, hm, hit, hh, hset⟩ := cX_at hc hl
    obtain ⟨k, rfl⟩ : ∃ k : Nat, h = k := ⟨h.toNat, by omega⟩
    simp only [Int.toNat_natCast] at h1 ⊢
    have hr := run_append_make (P := P) (w := w) (ty := o.type) ht ht2 hi hz h0 (n := k) (by omega) (by omega) h1.2.2
    have hL2 : L2 = [] := by
      rcases hit.2 with ⟨_, _, h⟩ | ⟨_, _, _, h, _⟩
      · exact h
      · cases h
    subst hL2
    have hge := grownCap_ge w k 0 e
    have hcm : grownCap w k 0 e ≤ 9223372036854775807 := by have := grownCap_le_maxLen w k 0 e (by unfold maxLen; omega); unfold maxLen at this; exact this
    have hsz : ((Builtin.zeroCells z.cells k) ++ Builtin.zeroCells z.cells (grownCap w k 0 e - k)).size = grownCap w k 0 e * inf.size := by
      simp only [Array.size_append, size_zeroCells, hzs, ← Nat.add_mul]
      congr 1; omega
    refine ⟨_, w.drew.alloc (.cells (Builtin.zeroCells z.cells k ++ Builtin.zeroCells z.cells (grownCap w k 0 e - k)) e), _, .inl ?_, ⟨_, rfl⟩, m', hm, _, hset _ [(w.heap.size, .cells (Builtin.zeroCells z.cells k ++ Builtin.zeroCells z.cells (grownCap w k 0 e - k)) e (0, 0))] ⟨?_, .inr ⟨w.heap.size, _, _, rfl, rfl, hge, hcm, hsz, rfl⟩⟩, ?_⟩
    · simp [execOp, ho, resolve, hp.eval hf, hq.eval hf, invoke, builtin, hr]
    · rw [List.length_take, Array.length_toList, hsz]
      exact Nat.min_eq_left (Nat.mul_le_mul_right _ hge)
    · have h3 : Hp m' (L1 ++ L3) w0 w := hh.sub (by simp)
      exact (h3.alloc (w' := w.drew.alloc _) rfl rfl rfl).perm (by simpa using (List.perm_middle (a := (w.heap.size, Obj.cells (Builtin.zeroCells z.cells k ++ Builtin.zeroCells z.cells (grownCap w k 0 e - k)) e (0, 0))) (l₁ := L1) (l₂ := L3)).symm)
end

/-! ### Rows onto rows -/
theorem RS.rowsOf {α : Type} {R : Rp α} {m : Snap} {v : Value} {xss : List (List α)} (h : RS R.slice m v xss) : ∃ us, Rows R m us xss ∧ ∀ (w0 : World) (x : SX), Sle m x.m → Src w0 x v xss.length us := by
  obtain ⟨⟨a, cap, rfl⟩, hb, hall⟩ := h
  have h1 : ∀ i, i < xss.length → ∃ u, ∃ xs, xss[i]? = some xs ∧ RS R m u xs ∧ At m (.slice a xss.length cap) i [u] := fun i hi => by
    obtain ⟨cs, ⟨u, rfl, hu⟩, hat⟩ := hall i hi
    exact ⟨u, _, List.getElem?_eq_getElem hi, hu, by rwa [show i * R.slice.n = i from Nat.mul_one _] at hat⟩
  obtain ⟨us, hul, hus⟩ := exists_list h1
  refine ⟨us, ⟨hul, fun i hi => ?_⟩, fun w0 x hm w hc => ⟨a, cap, rfl, ?_⟩⟩
  · obtain ⟨xs, e, hr, _⟩ := hus i (by omega)
    rw [List.getElem?_eq_getElem hi] at e
    exact ⟨_, List.getElem?_eq_getElem (by omega), by rw [Option.some.inj e]; exact hr⟩
  · by_cases h0 : xss.length = 0
    · exact .inl h0
    · right
      obtain ⟨_, _, _, b, off, l, c, hv, _⟩ := hus 0 (by omega)
      cases hv
      refine ⟨b, off, rfl, fun j u hu => ?_⟩
      have hj := (List.getElem?_eq_some_iff.1 hu).1
      obtain ⟨_, _, _, b', off', l', c', hv', hat⟩ := hus j hj
      cases hv'
      obtain ⟨m', hm', L, _, hp⟩ := hc
      have := hat 0 us[j] rfl
      rw [(List.getElem?_eq_some_iff.1 hu).2] at this
      exact cell_of_cellM hp (cellM_mono (hm.trans hm') (by simpa using this))
theorem Rows.app {α : Type} {R : Rp α} {m : Snap} {us us' : List Value} {xss yss : List (List α)} (h : Rows R m us xss) (h' : Rows R m us' yss) : Rows R m (us ++ us') (xss ++ yss) := by
  refine ⟨by simp [h.1, h'.1], fun i hi => ?_⟩
  rw [List.length_append] at hi
  have hl := h.1
  by_cases hlt : i < xss.length
  · obtain ⟨u, h1, h2⟩ := h.2 i hlt
    refine ⟨u, by rw [List.getElem?_append_left (by omega)]; exact h1, ?_⟩
    rw [List.getElem_append_left hlt]; exact h2
  · obtain ⟨u, h1, h2⟩ := h'.2 (i - xss.length) (by omega)
    refine ⟨u, by rw [List.getElem?_append_right (by omega), hl]; exact h1, ?_⟩
    rw [List.getElem_append_right (by omega)]; exact h2
section
variable {P : Program} {w0 : World} {env : Env} {x : SX} {o : Oper} {α : Type}
theorem Ef.apRR {R : Rp α} {pos : Nat} {e t : TypeId} {v vs : Value} {us us' : List Value} {xss yss : List (List α)} {m : Snap} {z : Value} {p q : Operand} {bytes : Nat} (hI : (P.info? e).map (fun i => (i.zero, i.size, i.bytes)) = some (some z, 1, bytes)) (hl : x.l[pos]? = some (hown e 1 v xss.length us)) (hr : Rows R m us' yss) (hs : Src w0 x vs yss.length us')
    (ho : o.op = .call { callee := .builtin .append, args := #[p, q], argTypes := #[t, t] }) (ht : P.underlying t = some (.slice e)) (hzs : z.cells.size = 1) (hp : Ev env p v) (hq : Ev env q vs)
    (hroom : (xss.length + yss.length) * bytes ≤ 140737488355328) (h63 : xss.length + yss.length ≤ 140737488355328) : Ef P w0 env x o (fun v' x' => x' = ⟨x.m, x.l.set pos (hown e 1 v' (xss ++ yss).length (us ++ us'))⟩) := by
  obtain ⟨i, hi, hz, hn, hby⟩ := info_parts hI
  have h := Ef.app (P := P) (w0 := w0) (env := env) (o := o) (news := us') hl ho ht hi hz hn hby hzs (by omega) hp hq hs (by rw [hr.1, Nat.mul_one]) (by
    rw [List.all_eq_true]
    intro u hu
    obtain ⟨j, hj, rfl⟩ := List.getElem_of_mem hu
    obtain ⟨u', h1, h2⟩ := hr.2 j (by rw [← hr.1]; exact hj)
    rw [List.getElem?_eq_getElem hj] at h1
    rw [Option.some.inj h1]
    obtain ⟨⟨a, c, rfl⟩, _⟩ := h2
    rfl) hroom h63
  rw [List.length_append]
  exact h
end

/-! ### A struct with slices into a block -/
def On (w0 : World) (x : SX) (u : Value) : Prop := ∀ w, cX w0 x w → Value.oneCell' u = true
theorem On.lit {w0 : World} {x : SX} {u : Value} (h : Value.oneCell' u = true) : On w0 x u := fun _ _ => h
theorem On.ro {w0 : World} {x : SX} {u : Value} {α : Type} {R : Rp α} {m : Snap} {xs : List α} (h : RS R m u xs) : On w0 x u := fun _ _ => by
  obtain ⟨⟨a, c, rfl⟩, _⟩ := h
  rfl
theorem On.own {w0 : World} {x : SX} {u : Value} {pos n k : Nat} {e : TypeId} {cells : List Value} (hl : x.l[pos]? = some (hown e n u k cells)) : On w0 x u := fun w hc => by
  obtain ⟨a, k', c, rfl⟩ := Sl.own (w0 := w0) hl x w (leX_refl x) hc
  rfl
inductive Ons (w0 : World) (x : SX) : List Value → Prop
  | nil : Ons w0 x []
  | cons {u : Value} {us : List Value} (h : On w0 x u) (hs : Ons w0 x us) : Ons w0 x (u :: us)
theorem Ons.all {w0 : World} {x : SX} {us : List Value} (h : Ons w0 x us) {w : World} (hc : cX w0 x w) : us.all Value.oneCell' = true := by
  induction h with
  | nil => rfl
  | cons h _ ih => rw [List.all_cons, h w hc, ih]; rfl
section
variable {P : Program} {w0 : World} {env : Env} {x : SX} {o : Oper}
theorem Ef.stBs {b k n pos : Nat} {cs us cs' : List Value} {T t : TypeId} {u : Value} {p q : Operand} (hs : Ons w0 x us) (hl : x.l[pos]? = some (hcells b cs T)) (ho : o.op = .store t p q) (hp : Ev env p (bp b k)) (hq : Ev env q u)
    (hn : (P.info? t).map (·.size) = some n) (hu : u.cells = us.toArray) (hul : us.length = n) (hk : k + us.length ≤ cs.length) (hcs : cs.take k ++ us ++ cs.drop (k + us.length) = cs') :
    Ef P w0 env x o (fun v x' => v = undef ∧ x' = ⟨x.m, x.l.set pos (hcells b cs' T)⟩) := fun N a hf w hc =>
  Ef.stB hl ho hp hq hn hu hul (hs.all hc) hk hcs N a hf w hc
theorem Yd.bld4 {t : TypeId} {parts : List (Nat × Operand)} {pvs : List (Nat × Value)} {cells : List Value} {z u u2 u3 u4 : Value} {pls : List (Nat × Nat)} (hs : Sl w0 x u) (hs2 : Sl w0 x u2) (hs3 : Sl w0 x u3) (hs4 : Sl w0 x u4) (ho : o.op = .build t parts.toArray) (hz : (P.info? t).bind (·.zero) = some z) (hpl : plS P t = some pls)
    (hev : EvP env parts pvs) (hf : (∃ a k c, u = .slice a k c) → (∃ a k c, u2 = .slice a k c) → (∃ a k c, u3 = .slice a k c) → (∃ a k c, u4 = .slice a k c) → Instr.fill (pls.toArray[·]?) z.cells pvs = some cells.toArray) : Yd P w0 env x o (.agg cells.toArray) :=
  fun N a hg x' hx w hc => Yd.bld ho hz hpl hev (hf (hs x' w hx hc) (hs2 x' w hx hc) (hs3 x' w hx hc) (hs4 x' w hx hc)) N a hg x' hx w hc
end
end Go.Proofs.Ytcihfhfolofomaa.Sy
