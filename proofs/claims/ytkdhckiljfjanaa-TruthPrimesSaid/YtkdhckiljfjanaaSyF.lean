/- Composite values, append, lent and frozen memory, slices of slices (own lemmas); the conditions stand in each lemma. -/
import Derived.Test.YtkdhckiljfjanaaSyE
namespace Go.Proofs.Ytkdhckiljfjanaa.Sy
open Go

/-! ### Filling -/
theorem foldl_set (off : Nat) : ∀ (vs : List Value) (i : Nat) (cs : Array Value), off + i + vs.length ≤ cs.size →
    ((vs.zipIdx i).foldl (fun (a : Array Value) (p : Value × Nat) => a.setIfInBounds (off + p.2) p.1) cs).toList = cs.toList.take (off + i) ++ vs ++ cs.toList.drop (off + i + vs.length)
  | [], i, cs, _ => by simp
  | v :: vs, i, cs, h => by
    rw [List.zipIdx_cons, List.foldl_cons, foldl_set off vs (i + 1) _ (by simp at h ⊢; omega)]
    have := list_seg_step cs.toList (off + i) v vs (by simp at h ⊢; omega)
    simpa [Array.toList_setIfInBounds, Nat.add_assoc] using this

theorem cells_fold (v : Value) (off : Nat) (cs : Array Value) (h : off + v.cells.size ≤ cs.size) :
    (v.cells.zipIdx.foldl (fun (a : Array Value) (p : Value × Nat) => a.setIfInBounds (off + p.2) p.1) cs).toList = cs.toList.take off ++ v.cells.toList ++ cs.toList.drop (off + v.cells.size) := by
  rw [← Array.foldl_toList, Array.toList_zipIdx]
  have := foldl_set off v.cells.toList 0 cs (by simpa using h)
  simpa using this

theorem fill_seq (n : Nat) : ∀ (vs : List Value) (i0 : Nat) (cells : Array Value), (∀ v ∈ vs, v.cells.size = n) → cells.size = (i0 + vs.length) * n →
    Instr.fill (fun i => some (i * n, n)) cells ((vs.zipIdx i0).map fun p => (p.2, p.1)) = some (cells.toList.take (i0 * n) ++ vs.flatMap (fun v => v.cells.toList)).toArray
  | [], i0, cells, _, h => by
    simp [Instr.fill]
    rw [List.take_of_length_le (by simp at h ⊢; omega)]
  | v :: vs, i0, cells, hv, h => by
    have h1 := hv v (by simp)
    have hsz : i0 * n + n ≤ cells.size := by
      rw [h]; simp only [List.length_cons, Nat.add_mul]; omega
    rw [List.zipIdx_cons, List.map_cons, Instr.fill]
    simp only [h1]
    rw [if_neg (by simp; omega)]
    rw [fill_seq n vs (i0 + 1) _ (fun u hu => hv u (by simp [hu])) (by
      have := congrArg List.length (cells_fold v (i0 * n) cells (by rw [h1]; exact hsz))
      simp only [Array.length_toList, List.length_append, List.length_take, List.length_drop, h1] at this
      simp only [List.length_cons] at h
      rw [this, show i0 + 1 + vs.length = i0 + (vs.length + 1) by omega, ← h]
      omega)]
    rw [cells_fold v (i0 * n) cells (by rw [h1]; exact hsz)]
    congr 1
    congr 1
    rw [List.flatMap_cons, ← List.append_assoc]
    congr 1
    rw [List.take_append_of_le_length (by simp [h1, Nat.add_mul]; omega)]
    rw [List.take_of_length_le (by simp [h1, Nat.add_mul]; omega)]

theorem vcells_length (vs : List Value) (n : Nat) (h : ∀ v ∈ vs, v.cells.size = n) : (vs.flatMap fun v => v.cells.toList).length = vs.length * n := by
  induction vs with
  | nil => simp
  | cons v vs ih =>
    have h1 := ih (fun u hu => h u (by simp [hu]))
    have h2 := h v (by simp)
    simp only [List.flatMap_cons, List.length_append, Array.length_toList, List.length_cons, Nat.add_mul, h1, h2]; omega

inductive EvP (env : Env) : List (Nat × Operand) → List (Nat × Value) → Prop
  | nil : EvP env [] []
  | cons {i : Nat} {o : Operand} {v : Value} {os : List (Nat × Operand)} {vs : List (Nat × Value)} (h : Ev env o v) (hs : EvP env os vs) : EvP env ((i, o) :: os) ((i, v) :: vs)
theorem EvP.eval {N : Nat} {env : Env} {a : Act} {os : List (Nat × Operand)} {vs : List (Nat × Value)} (he : EvP env os vs) (h : Fr N env a) : os.map (fun p => (p.1, a.eval p.2)) = vs := by
  induction he with
  | nil => rfl
  | cons h1 _ ih => simp [h1.eval h, ih]

section
variable {P : Program} {w0 : World} {env : Env} {x : SX} {o : Oper}

/-- A slice literal, all elements given. -/
theorem Ef.bs {t e : TypeId} {parts : List (Nat × Operand)} {vs : List Value} {inf : TypeInfo} {z : Value} {n len : Nat} (ho : o.op = .buildSlice t len parts.toArray) (ht : P.underlying t = some (.slice e)) (hi : P.info? e = some inf) (hz : inf.zero = some z) (hn : inf.size = n) (h0 : 0 < n) (hzn : z.cells.size = n)
    (hp : EvP env parts (vs.zipIdx.map fun p => (p.2, p.1))) (hlen : vs.length = len) (hsz : vs.all (fun v => v.cells.size == n) = true) (hb : len * n ≤ 16777216) :
    Ef P w0 env x o (fun v x' => x' = ⟨x.m, hown e n v len (vs.flatMap fun v => v.cells.toList) :: x.l⟩) :=
  Ef.mk fun N f hf w hc => by
    subst hn hlen
    have hsz' : ∀ v ∈ vs, v.cells.size = inf.size := fun v hv => by have := List.all_eq_true.1 hsz v hv; simpa using this
    have hfl := fill_seq inf.size vs 0 ((Array.range (vs.length * inf.size)).map (z.cells[· % z.cells.size]!)) hsz' (by simp)
    simp only [Nat.zero_mul, List.take_zero, List.nil_append] at hfl
    have hl := vcells_length vs inf.size hsz'
    have hle : vs.length ≤ vs.length * inf.size := Nat.le_mul_of_pos_right _ h0
    refine ⟨.slice (some ⟨w.heap.size, 0, none⟩) vs.length vs.length, w.alloc (.cells (vs.flatMap fun v => v.cells.toList).toArray e), _, .inl ?_, rfl, cX_alloc hc rfl rfl rfl ⟨hl, .inr ⟨w.heap.size, vs.length, _, rfl, rfl, Nat.le_refl _, by omega, by simpa using hl, by rw [List.take_of_length_le]; rw [hl]; exact Nat.le_refl _⟩⟩⟩
    have hpe := hp.eval hf
    have hb' : ¬ (16777216 < vs.length * inf.size) := by omega
    by_cases hv0 : vs.length * inf.size = 0
    · have : vs = [] := by
        rcases Nat.mul_eq_zero.1 hv0 with h | h
        · exact List.eq_nil_of_length_eq_zero h
        · omega
      subst this
      have hparts : parts = [] := by simpa using hpe
      subst hparts
      simp [execOp, ho, Instr.buildSlice, run_underlying ht, sizeOf, typeInfo, hi, Instr.fill, newRow, Array.range_zero']
    · have hpe' : (parts.toArray.map fun x => (x.1, f.eval x.2)).toList = vs.zipIdx.map fun p => (p.2, p.1) := by simpa using hpe
      simp [execOp, ho, Instr.buildSlice, run_underlying ht, sizeOf, typeInfo, zeroValue, hi, hz, hb', hv0, hpe, hfl, newRow]
end
end Go.Proofs.Ytkdhckiljfjanaa.Sy
