/- Memory: slices that are read, blocks that the call owns; loads, stores, new blocks (own lemmas); the conditions stand in each lemma. -/
import Derived.Test.YtkdhckiljfjanaaSyC
namespace Go.Proofs.Ytkdhckiljfjanaa.Sy
open Go

/-! ### Reading the snapshot -/
def cellM (m : Snap) (b i : Nat) : Option Value :=
  match m b with
  | some (.cells c _ _) => c[i]?
  | _ => none

theorem cellM_mono {m m' : Snap} {b i : Nat} {u : Value} (hm : Sle m m') (h : cellM m b i = some u) : cellM m' b i = some u := by
  unfold cellM at *
  cases hb : m b with
  | none => simp [hb] at h
  | some o => rw [hm b o hb]; simpa [hb] using h

theorem cell_of_cellM {m : Snap} {L : Part} {w0 w : World} (hp : Hp m L w0 w) {b i : Nat} {u : Value} (h : cellM m b i = some u) : w.cell? ⟨b, i, none⟩ = some u := by
  unfold cellM at h
  cases hb : m b with
  | none => simp [hb] at h
  | some o =>
    rw [hb] at h
    have := hp.imm b o hb
    cases o with
    | cells c t fr => simpa [World.cell?, this] using h
    | _ => cases h

/-- How a datum lies in n cells. -/
structure Rp (α : Type) where
  n : Nat
  r : Snap → List Value → α → Prop
  mono : ∀ m m' cs x, Sle m m' → r m cs x → r m' cs x
  len : ∀ m cs x, r m cs x → cs.length = n

def Rp.flat {α : Type} (n : Nat) (enc : α → List Value) (h : ∀ x, (enc x).length = n) : Rp α :=
  ⟨n, fun _ cs x => cs = enc x, fun _ _ _ _ _ h => h, fun _ _ x e => by rw [e]; exact h x⟩

/-- The cells cs stand at k behind the slice's head. -/
def At (m : Snap) (v : Value) (k : Nat) (cs : List Value) : Prop :=
  ∃ b off l c, v = .slice (some ⟨b, off, none⟩) l c ∧ ∀ j u, cs[j]? = some u → cellM m b (off + k + j) = some u

theorem At.mono {m m' : Snap} {v : Value} {k : Nat} {cs : List Value} (hm : Sle m m') (h : At m v k cs) : At m' v k cs :=
  let ⟨b, off, l, c, hv, hc⟩ := h
  ⟨b, off, l, c, hv, fun j u e => cellM_mono hm (hc j u e)⟩

/-- A slice that is read: of these elements. -/
def RS {α : Type} (R : Rp α) (m : Snap) (v : Value) (xs : List α) : Prop :=
  (∃ a cap, v = .slice a xs.length cap ∧ xs.length ≤ cap) ∧ xs.length ≤ 9223372036854775807 ∧ ∀ i (h : i < xs.length), ∃ cs, R.r m cs xs[i] ∧ At m v (i * R.n) cs

theorem RS.mono {α : Type} {R : Rp α} {m m' : Snap} {v : Value} {xs : List α} (hm : Sle m m') (h : RS R m v xs) : RS R m' v xs :=
  ⟨h.1, h.2.1, fun i hi => let ⟨cs, h1, h2⟩ := h.2.2 i hi; ⟨cs, R.mono _ _ _ _ hm h1, h2.mono hm⟩⟩

theorem RS.nil {α : Type} (R : Rp α) (m : Snap) : RS R m (.slice none 0 0) [] := ⟨⟨none, 0, rfl, by simp⟩, by simp, fun i h => absurd h (by simp)⟩

def Rp.slice {α : Type} (R : Rp α) : Rp (List α) :=
  ⟨1, fun m cs xs => ∃ v, cs = [v] ∧ RS R m v xs, fun _ _ _ _ hm ⟨v, h1, h2⟩ => ⟨v, h1, h2.mono hm⟩, fun _ _ _ ⟨_, h, _⟩ => by rw [h]; rfl⟩

def geti {α : Type} (xs : List α) (i : Int) : Option α := if 0 ≤ i then xs[i.toNat]? else none
def seti {α : Type} (xs : List α) (i : Int) (y : α) : Option (List α) := if 0 ≤ i ∧ i < xs.length then some (xs.set i.toNat y) else none

theorem geti_some {α : Type} {xs : List α} {i : Int} {y : α} (h : geti xs i = some y) : 0 ≤ i ∧ i < xs.length ∧ xs[i.toNat]? = some y := by
  unfold geti at h
  split at h
  · have := (List.getElem?_eq_some_iff.1 h).1
    exact ⟨by assumption, by omega, h⟩
  · cases h

theorem RS.flat {α : Type} {n : Nat} {enc : α → List Value} {he : ∀ x, (enc x).length = n} {m : Snap} {v : Value} {xs : List α} (h : RS (.flat n enc he) m v xs) {i : Int} {y : α} (hy : geti xs i = some y) : At m v (i.toNat * n) (enc y) := by
  obtain ⟨h0, h1, h2⟩ := geti_some hy
  obtain ⟨hlt, he'⟩ := List.getElem?_eq_some_iff.1 h2
  obtain ⟨cs, hr, ha⟩ := h.2.2 i.toNat hlt
  rw [he'] at hr
  obtain rfl : cs = enc y := hr
  exact ha

theorem RS.row {α : Type} {R : Rp α} {m : Snap} {v : Value} {xs : List (List α)} (h : RS R.slice m v xs) {i : Int} {ys : List α} (hy : geti xs i = some ys) : ∃ u, RS R m u ys ∧ At m v i.toNat [u] := by
  obtain ⟨h0, h1, h2⟩ := geti_some hy
  obtain ⟨hlt, he'⟩ := List.getElem?_eq_some_iff.1 h2
  obtain ⟨cs, hr, ha⟩ := h.2.2 i.toNat hlt
  rw [he'] at hr
  obtain ⟨u, rfl, hu⟩ := hr
  exact ⟨u, hu, by have := ha; rwa [show i.toNat * R.slice.n = i.toNat from Nat.mul_one _] at this⟩

/-- Part of the cells. -/
theorem At.part {m : Snap} {v : Value} {k : Nat} {cs : List Value} (h : At m v k cs) {f : Nat} {u : Value} (hu : cs[f]? = some u) : At m v (k + f) [u] := by
  obtain ⟨b, off, l, c, hv, hc⟩ := h
  refine ⟨b, off, l, c, hv, fun j u' e => ?_⟩
  match j, e with
  | 0, e =>
    simp at e
    subst e
    have := hc f u hu
    rw [show off + (k + f) + 0 = off + k + f by omega]; exact this

/-- The address of cell k behind a slice's head. -/
def adr (v : Value) (k : Nat) : Value :=
  match v with
  | .slice (some a) _ _ => .pointer (some ⟨a.block, a.off + k, none⟩)
  | _ => undef

/-- The address of a cell of a block. -/
def bp (b k : Nat) : Value := .pointer (some ⟨b, k, none⟩)

theorem add_none (b o k : Nat) : (⟨b, o, none⟩ : Addr).add k = ⟨b, o + k, none⟩ := by
  unfold Addr.add
  split
  · rename_i h; subst h; rfl
  · rfl

/-! ### What is owned -/
/-- A slice of k elements (n cells each) in a block of the call's own, from the block's head on; or nil. -/
def hown (e : TypeId) (n : Nat) (v : Value) (k : Nat) (cells : List Value) : HI := fun L =>
  cells.length = k * n ∧ ((v = .slice none 0 0 ∧ k = 0 ∧ L = []) ∨
    ∃ b cap cur, v = .slice (some ⟨b, 0, none⟩) k cap ∧ L = [(b, .cells cur e (0, 0))] ∧ k ≤ cap ∧ cap ≤ 9223372036854775807 ∧ cur.size = cap * n ∧ cur.toList.take (k * n) = cells)

/-- A block of the call's own. -/
def hcells (b : Nat) (cs : List Value) (T : TypeId) : HI := fun L => L = [(b, .cells cs.toArray T (0, 0))]

theorem Sat.at : ∀ {l : List HI} {L : Part} {p : Nat} {it : HI}, Sat l L → l[p]? = some it → ∃ L1 L2 L3, L = L1 ++ L2 ++ L3 ∧ it L2 ∧ ∀ (it' : HI) L2', it' L2' → Sat (l.set p it') (L1 ++ L2' ++ L3)
  | [], L, p, it, _, hl => by simp at hl
  | q :: l, L, 0, it, h, hl => by
    obtain ⟨L1, L2, rfl, hq, hs⟩ := h
    simp at hl
    subst hl
    exact ⟨[], L1, L2, by simp, hq, fun it' L2' h' => ⟨L2', L2, by simp, h', hs⟩⟩
  | q :: l, L, p + 1, it, h, hl => by
    obtain ⟨L0, Lr, rfl, hq, hs⟩ := h
    simp at hl
    obtain ⟨L1, L2, L3, rfl, hit, hset⟩ := hs.at hl
    exact ⟨L0 ++ L1, L2, L3, by simp, hit, fun it' L2' h' => ⟨L0, L1 ++ L2' ++ L3, by simp, hq, hset it' L2' h'⟩⟩

/-- An owned part at its place, in a world of the class. -/
theorem cX_at {w0 w : World} {x : SX} {p : Nat} {it : HI} (hc : cX w0 x w) (hl : x.l[p]? = some it) :
    ∃ m' L1 L2 L3, Sle x.m m' ∧ it L2 ∧ Hp m' (L1 ++ L2 ++ L3) w0 w ∧ ∀ (it' : HI) L2', it' L2' → Sat (x.l.set p it') (L1 ++ L2' ++ L3) := by
  obtain ⟨m', hm, L, hs, hp⟩ := hc
  obtain ⟨L1, L2, L3, rfl, h1, h2⟩ := hs.at hl
  exact ⟨m', L1, L2, L3, hm, h1, hp, h2⟩

theorem Hp.cell {m : Snap} {L : Part} {w0 w : World} (h : Hp m L w0 w) {b : Nat} {c : Array Value} {t : TypeId} {fr : Nat × Nat} (hb : (b, Obj.cells c t fr) ∈ L) (i : Nat) : w.cell? ⟨b, i, none⟩ = c[i]? := by
  have := h.own _ hb
  simp [World.cell?, this]

/-- The class moves on when an owned block is written anew. -/
theorem Hp.setObj {m : Snap} {L1 L3 : Part} {w0 w w' : World} {b : Nat} {o o' : Obj} (h : Hp m (L1 ++ [(b, o)] ++ L3) w0 w) (hos : w'.os = w.os) (hout : w'.output = w.output)
    (hb : w'.heap[b]? = some o') (hother : ∀ k, k ≠ b → w'.heap[k]? = w.heap[k]?) : Hp m (L1 ++ [(b, o')] ++ L3) w0 w' := by
  have hnd := h.nd
  simp only [List.map_append, List.map_cons, List.map_nil] at hnd
  have hnot : ∀ p ∈ L1 ++ L3, p.1 ≠ b := by
    intro p hp e
    rw [List.nodup_append] at hnd
    obtain ⟨h1, h2, h3⟩ := hnd
    rw [List.nodup_append] at h1
    rcases List.mem_append.1 hp with hp | hp
    · exact h1.2.2 p.1 (List.mem_map.2 ⟨p, hp, rfl⟩) b (by simp) e
    · exact h3 b (by simp) p.1 (List.mem_map.2 ⟨p, hp, rfl⟩) e.symm
  have hmb : m b = none := h.sep (b, o) (by simp)
  refine ⟨hos.trans h.os, hout.trans h.out, fun k ob hk => ?_, fun p hp => ?_, fun p hp => ?_, by simpa [List.map_append] using hnd⟩
  · have hkb : k ≠ b := fun e => by rw [e, hmb] at hk; cases hk
    rw [hother k hkb]; exact h.imm k ob hk
  · simp only [List.append_assoc, List.mem_append, List.mem_cons, List.not_mem_nil, or_false] at hp
    rcases hp with hp | hp | hp
    · rw [hother _ (hnot p (List.mem_append_left _ hp))]; exact h.own p (by simp [hp])
    · subst hp; exact hb
    · rw [hother _ (hnot p (List.mem_append_right _ hp))]; exact h.own p (by simp [hp])
  · simp only [List.append_assoc, List.mem_append, List.mem_cons, List.not_mem_nil, or_false] at hp
    rcases hp with hp | hp | hp
    · exact h.sep p (by simp [hp])
    · subst hp; exact hmb
    · exact h.sep p (by simp [hp])

/-- A new block. -/
theorem Hp.alloc {m : Snap} {L : Part} {w0 w w' : World} {o : Obj} (h : Hp m L w0 w) (hos : w'.os = w.os) (hout : w'.output = w.output) (hh : w'.heap = w.heap.push o) : Hp m ((w.heap.size, o) :: L) w0 w' := by
  have hold : ∀ k ob, w.heap[k]? = some ob → w'.heap[k]? = some ob ∧ k ≠ w.heap.size := by
    intro k ob hk
    have hlt := (Array.getElem?_eq_some_iff.1 hk).1
    refine ⟨?_, by omega⟩
    rw [hh, Array.getElem?_push, if_neg (by omega)]; exact hk
  refine ⟨hos.trans h.os, hout.trans h.out, fun k ob hk => (hold k ob (h.imm k ob hk)).1, fun p hp => ?_, fun p hp => ?_, ?_⟩
  · rcases List.mem_cons.1 hp with rfl | hp
    · show w'.heap[w.heap.size]? = some o
      rw [hh]; simp
    · exact (hold _ _ (h.own p hp)).1
  · rcases List.mem_cons.1 hp with rfl | hp
    · show m w.heap.size = none
      cases hm : m w.heap.size with
      | none => rfl
      | some ob => exact absurd rfl (hold _ _ (h.imm _ ob hm)).2
    · exact h.sep p hp
  · simp only [List.map_cons, List.nodup_cons]
    refine ⟨fun hp => ?_, h.nd⟩
    obtain ⟨q, hq, e⟩ := List.mem_map.1 hp
    exact absurd e (hold _ _ (h.own q hq)).2

theorem cX_alloc {w0 w w' : World} {x : SX} {o : Obj} {it : HI} (hc : cX w0 x w) (hos : w'.os = w.os) (hout : w'.output = w.output) (hh : w'.heap = w.heap.push o) (hit : it [(w.heap.size, o)]) : cX w0 ⟨x.m, it :: x.l⟩ w' := by
  obtain ⟨m', hm, L, hs, hp⟩ := hc
  exact ⟨m', hm, (w.heap.size, o) :: L, ⟨[(w.heap.size, o)], L, rfl, hit, hs⟩, hp.alloc hos hout hh⟩

section
variable {P : Program} {w0 : World} {env : Env} {x : SX} {o : Oper}

/-! ### Length, addresses -/
theorem Yd.lenR {α : Type} {R : Rp α} {m : Snap} {v : Value} {xs : List α} {p : Operand} {t e : TypeId} (h : RS R m v xs) (ho : o.op = .call { callee := .builtin .len, args := #[p], argTypes := #[t] }) (ht : P.underlying t = some (.slice e)) (hp : Ev env p v) :
    Yd P w0 env x o (.int .i64 xs.length) := by
  obtain ⟨⟨a, cap, rfl, _⟩, _⟩ := h
  exact Yd.len ho ht hp

theorem hown_slice {e : TypeId} {n k : Nat} {v : Value} {cells : List Value} {L : Part} (h : hown e n v k cells L) : ∃ a cap, v = .slice a k cap := by
  rcases h.2 with ⟨rfl, rfl, _⟩ | ⟨b, cap, cur, rfl, _⟩
  · exact ⟨_, _, rfl⟩
  · exact ⟨_, _, rfl⟩

theorem Yd.lenO {p : Nat} {n k : Nat} {v : Value} {cells : List Value} {q : Operand} {t e e' : TypeId} (hl : x.l[p]? = some (hown e n v k cells)) (ho : o.op = .call { callee := .builtin .len, args := #[q], argTypes := #[t] }) (ht : P.underlying t = some (.slice e')) (hq : Ev env q v) :
    Yd P w0 env x o (.int .i64 k) :=
  Yd.pure fun N f hf w hc => by
    obtain ⟨_, _, L2, _, _, hit, _⟩ := cX_at hc hl
    obtain ⟨a, cap, rfl⟩ := hown_slice hit
    simp [execOp, ho, resolve, hq.eval hf, invoke, builtin, Builtin.len_, run_underlying ht, goInt]

theorem run_index {t e : TypeId} {b off l c n : Nat} {k : IntKind} {i : Int} (w : World) (ht : P.underlying t = some (.slice e)) (hn : (P.info? e).map (·.size) = some n) (h0 : 0 ≤ i) (h1 : i < l) :
    (Instr.indexAt t (.slice (some ⟨b, off, none⟩) l c) (.int k i)).run P w = .ok (.pointer (some ⟨b, off + i.toNat * n, none⟩)) w := by
  obtain ⟨inf, hi, hin⟩ := Option.map_eq_some_iff.1 hn
  simp [Instr.indexAt, asIntOf, run_underlying ht, h0, h1, sizeOf, typeInfo, hi, hin, add_none]

theorem Yd.idxR {α : Type} {R : Rp α} {m : Snap} {v : Value} {xs : List α} {y : α} {p q : Operand} {t e : TypeId} {k : IntKind} {i : Int} {n : Nat} (h : RS R m v xs) (hy : geti xs i = some y) (ho : o.op = .indexAddr t p q) (ht : P.underlying t = some (.slice e))
    (hn : (P.info? e).map (·.size) = some n) (hp : Ev env p v) (hq : Ev env q (.int k i)) : Yd P w0 env x o (adr v (i.toNat * n)) := by
  obtain ⟨h0, h1, h2⟩ := geti_some hy
  obtain ⟨hlt, _⟩ := List.getElem?_eq_some_iff.1 h2
  obtain ⟨⟨a, cap, rfl, _⟩, _, hall⟩ := h
  obtain ⟨cs, _, b, off, l, c, hv, _⟩ := hall i.toNat hlt
  cases hv
  exact Yd.pure fun N f hf w _ => by simp [execOp, ho, hp.eval hf, hq.eval hf, run_index w ht hn h0 h1, adr]

theorem Yd.idxO {α : Type} {xs : List α} {y : α} {pos : Nat} {v : Value} {cells : List Value} {p q : Operand} {t e e' : TypeId} {k : IntKind} {i : Int} {n : Nat} (hl : x.l[pos]? = some (hown e' n v xs.length cells)) (hy : geti xs i = some y) (ho : o.op = .indexAddr t p q) (ht : P.underlying t = some (.slice e))
    (hn : (P.info? e).map (·.size) = some n) (hp : Ev env p v) (hq : Ev env q (.int k i)) : Yd P w0 env x o (adr v (i.toNat * n)) := by
  obtain ⟨h0, h1, h2⟩ := geti_some hy
  exact Yd.pure fun N f hf w hc => by
    obtain ⟨_, _, L2, _, _, hit, _⟩ := cX_at hc hl
    rcases hit.2 with ⟨rfl, hk, _⟩ | ⟨b, cap, cur, rfl, _⟩
    · omega
    · simp [execOp, ho, hp.eval hf, hq.eval hf, run_index w ht hn h0 h1, adr]

/-- A field behind an address. -/
theorem Yd.fldA {v : Value} {k : Nat} {p : Operand} {t : TypeId} {fs : Array Field} {fl : Field} {i n : Nat} (ho : o.op = .fieldAddr t p i) (ht : P.underlying t = some (.struct fs)) (hf : fs[i]? = some fl) (hn : (P.info? fl.type).map (·.size) = some n) (hn0 : (n == 0) = false)
    (hs : ∃ a l c, v = .slice (some a) l c) (hp : Ev env p (adr v k)) : Yd P w0 env x o (adr v (k + fl.offset)) := by
  obtain ⟨a, l, c, rfl⟩ := hs
  obtain ⟨inf, hi, hin⟩ := Option.map_eq_some_iff.1 hn
  have hn1 : n ≠ 0 := by simpa using hn0
  exact Yd.pure fun N g hg w _ => by
    simp [execOp, ho, hp.eval hg, Instr.fieldAt, run_underlying ht, hf, Instr.sureAddr, adr, fieldPlace, sizeOf, typeInfo, hi, hin, hn1, add_none, Nat.add_assoc]
theorem Yd.fldB {b k : Nat} {p : Operand} {t : TypeId} {fs : Array Field} {fl : Field} {i n : Nat} (ho : o.op = .fieldAddr t p i) (ht : P.underlying t = some (.struct fs)) (hf : fs[i]? = some fl) (hn : (P.info? fl.type).map (·.size) = some n) (hn0 : (n == 0) = false)
    (hp : Ev env p (bp b k)) : Yd P w0 env x o (bp b (k + fl.offset)) := by
  obtain ⟨inf, hi, hin⟩ := Option.map_eq_some_iff.1 hn
  have hn1 : n ≠ 0 := by simpa using hn0
  exact Yd.pure fun N g hg w _ => by
    simp [execOp, ho, hp.eval hg, Instr.fieldAt, run_underlying ht, hf, Instr.sureAddr, bp, fieldPlace, sizeOf, typeInfo, hi, hin, hn1, add_none]
/-- An element of an array behind an address. -/
theorem Yd.arrB {b k : Nat} {p q : Operand} {t e : TypeId} {kk : IntKind} {i : Int} {len n : Nat} (ho : o.op = .indexAddr t p q) (ht : P.underlying t = some (.array len e)) (hn : (P.info? e).map (·.size) = some n) (h0 : 0 ≤ i) (h1 : i < len)
    (hp : Ev env p (bp b k)) (hq : Ev env q (.int kk i)) : Yd P w0 env x o (bp b (k + i.toNat * n)) := by
  obtain ⟨inf, hi, hin⟩ := Option.map_eq_some_iff.1 hn
  exact Yd.pure fun N g hg w _ => by
    simp [execOp, ho, hp.eval hg, hq.eval hg, Instr.indexAt, asIntOf, run_underlying ht, Instr.sureAddr, bp, h0, h1, sizeOf, typeInfo, hi, hin, add_none]
theorem Yd.arrA {v : Value} {k : Nat} {p q : Operand} {t e : TypeId} {kk : IntKind} {i : Int} {len n : Nat} (ho : o.op = .indexAddr t p q) (ht : P.underlying t = some (.array len e)) (hn : (P.info? e).map (·.size) = some n) (h0 : 0 ≤ i) (h1 : i < len)
    (hs : ∃ a l c, v = .slice (some a) l c) (hp : Ev env p (adr v k)) (hq : Ev env q (.int kk i)) : Yd P w0 env x o (adr v (k + i.toNat * n)) := by
  obtain ⟨a, l, c, rfl⟩ := hs
  obtain ⟨inf, hi, hin⟩ := Option.map_eq_some_iff.1 hn
  exact Yd.pure fun N g hg w _ => by
    simp [execOp, ho, hp.eval hg, hq.eval hg, Instr.indexAt, asIntOf, run_underlying ht, Instr.sureAddr, adr, h0, h1, sizeOf, typeInfo, hi, hin, add_none, Nat.add_assoc]

theorem At.head {m : Snap} {v : Value} {k : Nat} {cs : List Value} (h : At m v k cs) : ∃ a l c, v = .slice (some a) l c := let ⟨_, _, l, c, hv, _⟩ := h; ⟨_, l, c, hv⟩

/-! ### Loads -/
def one (P : Program) (t : TypeId) : Bool := match P.underlying t with | some (.struct _) => false | some (.array _ _) => false | some _ => true | none => false

theorem run_load_one {t : TypeId} {b i : Nat} {u : Value} {w : World} (h1 : one P t = true) (h : w.cell? ⟨b, i, none⟩ = some u) : (Instr.loadAt t (.pointer (some ⟨b, i, none⟩))).run P w = .ok u w := by
  unfold one at h1
  cases hu : P.underlying t with
  | none => simp [hu] at h1
  | some d =>
    cases d <;> simp [hu] at h1 <;> simp [Instr.loadAt, Instr.sureAddr, loadVar, isAgg, run_underlying hu, h]

theorem run_load_agg {t : TypeId} {b i n : Nat} {cs : List Value} {w : World} (h1 : one P t = false) (hs : (P.underlying t).isSome = true) (hn : (P.info? t).map (·.size) = some n) (hl : cs.length = n) (h : ∀ j u, cs[j]? = some u → w.cell? ⟨b, i + j, none⟩ = some u) :
    (Instr.loadAt t (.pointer (some ⟨b, i, none⟩))).run P w = .ok (.agg cs.toArray) w := by
  obtain ⟨inf, hi, hin⟩ := Option.map_eq_some_iff.1 hn
  have hr := run_loadCells_list (P := P) (w := w) ⟨b, i, none⟩ cs (fun j u e => by rw [add_none]; exact h j u e)
  rw [hl] at hr
  unfold one at h1
  cases hu : P.underlying t with
  | none => simp [hu] at hs
  | some d =>
    cases d <;> simp [hu] at h1 <;> simp [Instr.loadAt, Instr.sureAddr, loadVar, isAgg, run_underlying hu, sizeOf, typeInfo, hi, hin, hr]

theorem Yd.ldR {v u : Value} {k : Nat} {m : Snap} {p : Operand} {t : TypeId} (h : At m v k [u]) (hm : Sle m x.m) (ho : o.op = .load t p) (h1 : one P t = true) (hp : Ev env p (adr v k)) : Yd P w0 env x o u := by
  obtain ⟨b, off, l, c, rfl, hc⟩ := h
  refine Yd.pure fun N f hf w hx => ?_
  obtain ⟨m', hm', L, _, hh⟩ := hx
  have := cell_of_cellM hh (cellM_mono (hm.trans hm') (hc 0 u rfl))
  have hr := run_load_one (P := P) h1 (by simpa using this)
  simp [execOp, ho, hp.eval hf, adr, hr]

theorem Yd.ldRs {v : Value} {k n : Nat} {m : Snap} {cs : List Value} {p : Operand} {t : TypeId} (h : At m v k cs) (hm : Sle m x.m) (ho : o.op = .load t p) (h1 : one P t = false) (hs : (P.underlying t).isSome = true) (hn : (P.info? t).map (·.size) = some n) (hl : cs.length = n) (hp : Ev env p (adr v k)) :
    Yd P w0 env x o (.agg cs.toArray) := by
  obtain ⟨b, off, l, c, rfl, hc⟩ := h
  refine Yd.pure fun N f hf w hx => ?_
  obtain ⟨m', hm', L, _, hh⟩ := hx
  have hr := run_load_agg (P := P) (w := w) (b := b) (i := off + k) h1 hs hn hl (fun j u e => cell_of_cellM hh (cellM_mono (hm.trans hm') (hc j u e)))
  simp [execOp, ho, hp.eval hf, adr, hr]

/-- Out of a block of the call's own. -/
theorem Yd.ldB {b k pos : Nat} {cs : List Value} {T : TypeId} {u : Value} {p : Operand} {t : TypeId} (hl : x.l[pos]? = some (hcells b cs T)) (hu : cs[k]? = some u) (ho : o.op = .load t p) (h1 : one P t = true) (hp : Ev env p (bp b k)) : Yd P w0 env x o u :=
  Yd.pure fun N f hf w hc => by
    obtain ⟨m', L1, L2, L3, _, hit, hh, _⟩ := cX_at hc hl
    subst hit
    have hcell := hh.cell (b := b) (c := cs.toArray) (t := T) (fr := (0, 0)) (by simp) k
    have hr := run_load_one (P := P) (w := w) h1 (hcell.trans (by simpa using hu))
    simp [execOp, ho, hp.eval hf, bp, hr]

theorem Yd.ldBs {b k n pos : Nat} {cs us : List Value} {T : TypeId} {p : Operand} {t : TypeId} (hl : x.l[pos]? = some (hcells b cs T)) (hu : (cs.drop k).take n = us) (hle : us.length = n) (ho : o.op = .load t p) (h1 : one P t = false) (hs : (P.underlying t).isSome = true) (hn : (P.info? t).map (·.size) = some n) (hp : Ev env p (bp b k)) :
    Yd P w0 env x o (.agg us.toArray) :=
  Yd.pure fun N f hf w hc => by
    obtain ⟨m', L1, L2, L3, _, hit, hh, _⟩ := cX_at hc hl
    subst hit
    have hr := run_load_agg (P := P) (w := w) (b := b) (i := k) h1 hs hn hle (fun j u e => by
      have hcell := hh.cell (b := b) (c := cs.toArray) (t := T) (fr := (0, 0)) (by simp) (k + j)
      rw [hcell]
      rw [← hu, List.getElem?_take] at e
      split at e
      · simpa [List.getElem?_drop] using e
      · cases e)
    simp [execOp, ho, hp.eval hf, bp, hr]

/-- Out of a slice of the call's own. -/
theorem own_cell {e : TypeId} {n : Nat} {v : Value} {kk k : Nat} {cells : List Value} {u : Value} {w : World} {m' : Snap} {L1 L2 L3 : Part} (hit : hown e n v kk cells L2) (hh : Hp m' (L1 ++ L2 ++ L3) w0 w) (hu : cells[k]? = some u) :
    ∃ b cap, v = .slice (some ⟨b, 0, none⟩) kk cap ∧ w.cell? ⟨b, k, none⟩ = some u := by
  obtain ⟨hlen, hit⟩ := hit
  have hlt := (List.getElem?_eq_some_iff.1 hu).1
  rcases hit with ⟨_, hk, _⟩ | ⟨b, cap, cur, rfl, rfl, _, _, _, htake⟩
  · subst hk; rw [Nat.zero_mul] at hlen; omega
  · refine ⟨b, cap, rfl, ?_⟩
    rw [hh.cell (b := b) (c := cur) (t := e) (fr := (0, 0)) (by simp) k]
    rw [← htake, List.getElem?_take] at hu
    split at hu
    · simpa using hu
    · cases hu

theorem Yd.ldO {pos n kk k : Nat} {v : Value} {cells : List Value} {e : TypeId} {u : Value} {p : Operand} {t : TypeId} (hl : x.l[pos]? = some (hown e n v kk cells)) (hu : cells[k]? = some u) (ho : o.op = .load t p) (h1 : one P t = true) (hp : Ev env p (adr v k)) : Yd P w0 env x o u :=
  Yd.pure fun N f hf w hc => by
    obtain ⟨m', L1, L2, L3, _, hit, hh, _⟩ := cX_at hc hl
    obtain ⟨b, cap, rfl, hcell⟩ := own_cell hit hh hu
    have hr := run_load_one (P := P) (w := w) h1 hcell
    simp [execOp, ho, hp.eval hf, adr, hr]

theorem Yd.ldOs {pos n kk k nn : Nat} {v : Value} {cells us : List Value} {e : TypeId} {p : Operand} {t : TypeId} (hl : x.l[pos]? = some (hown e n v kk cells)) (hu : (cells.drop k).take nn = us) (hle : us.length = nn) (h0 : 0 < nn) (ho : o.op = .load t p) (h1 : one P t = false) (hs : (P.underlying t).isSome = true) (hn : (P.info? t).map (·.size) = some nn) (hp : Ev env p (adr v k)) :
    Yd P w0 env x o (.agg us.toArray) :=
  Yd.pure fun N f hf w hc => by
    obtain ⟨m', L1, L2, L3, _, hit, hh, _⟩ := cX_at hc hl
    have key : ∀ j u, us[j]? = some u → cells[k + j]? = some u := by
      intro j u e
      rw [← hu, List.getElem?_take] at e
      split at e
      · simpa [List.getElem?_drop] using e
      · cases e
    obtain ⟨u0, hu0⟩ : ∃ u0, us[0]? = some u0 := ⟨us[0]'(by omega), List.getElem?_eq_getElem (by omega)⟩
    obtain ⟨b, cap, rfl, _⟩ := own_cell hit hh (key 0 u0 hu0)
    have hr := run_load_agg (P := P) (w := w) (b := b) (i := k) h1 hs hn hle (fun j u e => by
      obtain ⟨b', cap', hv, hcell⟩ := own_cell hit hh (key j u e)
      cases hv
      exact hcell)
    simp [execOp, ho, hp.eval hf, adr, hr]
end
end Go.Proofs.Ytkdhckiljfjanaa.Sy
