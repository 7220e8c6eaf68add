/- Memory that turns: stores, new blocks, make, append, what is frozen and what is lent (own lemmas); the conditions stand in each lemma. -/
import Derived.Test.YtkdhckiljfjanaaSyD
namespace Go.Proofs.Ytkdhckiljfjanaa.Sy
open Go

/-! ### Lists of cells -/
section flat
variable {α : Type} {enc : α → List Value} {n : Nat} (he : ∀ x, (enc x).length = n)
include he
theorem flat_length (xs : List α) : (xs.flatMap enc).length = xs.length * n := by
  induction xs with
  | nil => simp
  | cons a xs ih => simp only [List.flatMap_cons, List.length_append, he, ih, List.length_cons, Nat.add_mul]; omega
theorem flat_drop (xs : List α) (i : Nat) : (xs.flatMap enc).drop (i * n) = (xs.drop i).flatMap enc := by
  induction xs generalizing i with
  | nil => simp
  | cons a xs ih =>
    cases i with
    | zero => simp
    | succ i =>
      simp only [List.flatMap_cons, List.drop_succ_cons]
      rw [List.drop_append, he, show (i + 1) * n - n = i * n by rw [Nat.add_mul]; omega, ih, List.drop_of_length_le (by rw [he, Nat.add_mul]; omega), List.nil_append]
theorem flat_take (xs : List α) (i : Nat) : (xs.flatMap enc).take (i * n) = (xs.take i).flatMap enc := by
  induction xs generalizing i with
  | nil => simp
  | cons a xs ih =>
    cases i with
    | zero => simp
    | succ i =>
      simp only [List.flatMap_cons, List.take_succ_cons]
      rw [List.take_append, he, show (i + 1) * n - n = i * n by rw [Nat.add_mul]; omega, ih, List.take_of_length_le (by rw [he, Nat.add_mul]; omega)]
theorem flat_elem {xs : List α} {i : Int} {y : α} (hy : geti xs i = some y) : ((xs.flatMap enc).drop (i.toNat * n)).take n = enc y := by
  obtain ⟨_, _, h2⟩ := geti_some hy
  obtain ⟨hlt, hg⟩ := List.getElem?_eq_some_iff.1 h2
  rw [flat_drop he, List.drop_eq_getElem_cons hlt, hg, List.flatMap_cons, List.take_append_of_le_length (by rw [he]; exact Nat.le_refl _), List.take_of_length_le (by rw [he]; exact Nat.le_refl _)]
theorem flat_get {xs : List α} {i : Int} {y : α} (hy : geti xs i = some y) {f : Nat} {u : Value} (hu : (enc y)[f]? = some u) : (xs.flatMap enc)[i.toNat * n + f]? = some u := by
  have h := flat_elem he hy
  have hf : f < n := by have := (List.getElem?_eq_some_iff.1 hu).1; rwa [he] at this
  rw [← h, List.getElem?_take, if_pos hf, List.getElem?_drop] at hu
  exact hu
theorem flat_set {xs : List α} {i : Int} {y z : α} (hy : geti xs i = some y) :
    (xs.flatMap enc).take (i.toNat * n) ++ enc z ++ (xs.flatMap enc).drop (i.toNat * n + n) = (xs.set i.toNat z).flatMap enc := by
  obtain ⟨_, _, h2⟩ := geti_some hy
  obtain ⟨hlt, hg⟩ := List.getElem?_eq_some_iff.1 h2
  rw [flat_take he, show i.toNat * n + n = (i.toNat + 1) * n by rw [Nat.add_mul]; omega, flat_drop he, List.set_eq_take_append_cons_drop, if_pos hlt, List.flatMap_append, List.flatMap_cons, List.append_assoc]
theorem flat_setf {xs : List α} {i : Int} {y z : α} (hy : geti xs i = some y) {f : Nat} {us : List Value} (hz : (enc y).take f ++ us ++ (enc y).drop (f + us.length) = enc z) (hf : f + us.length ≤ n) :
    (xs.flatMap enc).take (i.toNat * n + f) ++ us ++ (xs.flatMap enc).drop (i.toNat * n + f + us.length) = (xs.set i.toNat z).flatMap enc := by
  rw [← flat_set he hy (z := z), ← hz]
  have h := flat_elem he hy
  have hlen := flat_length he xs
  obtain ⟨_, _, h2⟩ := geti_some hy
  obtain ⟨hlt, hg⟩ := List.getElem?_eq_some_iff.1 h2
  have hle : i.toNat * n + n ≤ (xs.flatMap enc).length := by
    rw [hlen]; have := Nat.mul_le_mul_right n (show i.toNat + 1 ≤ xs.length by omega); rw [Nat.add_mul] at this; omega
  have e1 : (xs.flatMap enc).take (i.toNat * n + f) = (xs.flatMap enc).take (i.toNat * n) ++ (enc y).take f := by
    rw [List.take_add, ← h, List.take_take, Nat.min_eq_left (by omega)]
  have e2 : (xs.flatMap enc).drop (i.toNat * n + f + us.length) = (enc y).drop (f + us.length) ++ (xs.flatMap enc).drop (i.toNat * n + n) := by
    rw [← h, List.drop_take, List.drop_drop]
    have := (List.take_append_drop (n - (f + us.length)) ((xs.flatMap enc).drop (i.toNat * n + (f + us.length)))).symm
    rw [show i.toNat * n + f + us.length = i.toNat * n + (f + us.length) by omega]
    refine this.trans ?_
    rw [List.drop_drop]
    congr 2
    omega
  rw [e1, e2]
  simp [List.append_assoc]
end flat

theorem seti_some {α : Type} {xs : List α} {i : Int} {y : α} {ys : List α} (h : seti xs i y = some ys) : (∃ z, geti xs i = some z) ∧ ys = xs.set i.toNat y := by
  unfold seti at h
  split at h
  · rename_i hc
    cases h
    refine ⟨⟨xs[i.toNat]'(by omega), ?_⟩, rfl⟩
    unfold geti
    rw [if_pos hc.1]
    exact List.getElem?_eq_getElem (by omega)
  · cases h

theorem bind_some {α β : Type} {a : Option α} {f : α → Option β} {r : β} (h : a.bind f = some r) : ∃ y, a = some y ∧ f y = some r := Option.bind_eq_some_iff.1 h
theorem guard_some {α : Type} {c : Bool} {a : Option α} {r : α} (h : (bif c then a else none) = some r) : c = true ∧ a = some r := by
  cases c
  · cases h
  · exact ⟨rfl, h⟩

section
variable {P : Program} {w0 : World} {env : Env} {x : SX} {o : Oper}

theorem Ef.mk {R : Value → SX → Prop} (h : ∀ N a, Fr N env a → ∀ w, cX w0 x w → ∃ v w' x', ((execOp a.eval o).run P w = .ok (.value v) w' ∨ ((execOp a.eval o).run P w = .ok .skip w' ∧ v = undef)) ∧ R v x' ∧ cX w0 x' w') : Ef P w0 env x o R := by
  intro N a hf w hw
  obtain ⟨v, w', x', hr, hR, hc⟩ := h N a hf w hw
  unfold eff
  rcases hr with hr | ⟨hr, rfl⟩
  · rw [hr]; exact ⟨x', hR, hc⟩
  · rw [hr]; exact ⟨x', hR, hc⟩

theorem setRow_other' (w : World) (g k : Nat) (cs : Array Value) (h : k ≠ g) : (w.setRow g cs).heap[k]? = w.heap[k]? := by
  simp only [World.setRow, Array.getElem?_modify]
  rw [if_neg (by omega)]

theorem run_store_row {t : TypeId} {b k n : Nat} {u : Value} {us : List Value} {cur : Array Value} {T : TypeId} {w : World} (hn : (P.info? t).map (·.size) = some n) (hus : u.cells = us.toArray) (hlen : us.length = n) (h1 : us.all Value.oneCell' = true)
    (hb : w.heap[b]? = some (.cells cur T (0, 0))) (hk : k + us.length ≤ cur.size) :
    (Instr.storeAt t (.pointer (some ⟨b, k, none⟩)) u).run P w = .ok () (w.setRow b (cur.toList.take k ++ us ++ cur.toList.drop (k + us.length)).toArray) := by
  obtain ⟨inf, hi, hin⟩ := Option.map_eq_some_iff.1 hn
  have hst := run_storeCells_at (P := P) b k T us 0 cur w hb (by simpa using hk) (fun v hv => List.all_eq_true.1 h1 v hv)
  simp only [Nat.add_zero] at hst
  simp [Instr.storeAt, Instr.sureAddr, storeVar, sizeOf, typeInfo, hi, hin, hus, hlen, hst]

/-- Into a block of the call's own. -/
theorem Ef.stB {b k n pos : Nat} {cs us cs' : List Value} {T t : TypeId} {u : Value} {p q : Operand} (hl : x.l[pos]? = some (hcells b cs T)) (ho : o.op = .store t p q) (hp : Ev env p (bp b k)) (hq : Ev env q u)
    (hn : (P.info? t).map (·.size) = some n) (hus : u.cells = us.toArray) (hlen : us.length = n) (h1 : us.all Value.oneCell' = true) (hk : k + us.length ≤ cs.length) (hcs : cs.take k ++ us ++ cs.drop (k + us.length) = cs') :
    Ef P w0 env x o (fun v x' => v = undef ∧ x' = ⟨x.m, x.l.set pos (hcells b cs' T)⟩) :=
  Ef.mk fun N f hf w hc => by
    obtain ⟨m', L1, L2, L3, hm, hit, hh, hset⟩ := cX_at hc hl
    subst hit
    have hb : w.heap[b]? = some (.cells cs.toArray T (0, 0)) := hh.own (b, _) (by simp)
    have hr := run_store_row (P := P) (t := t) hn hus hlen h1 hb (by simpa using hk)
    simp only [hcs] at hr
    refine ⟨undef, _, _, .inr ⟨?_, rfl⟩, ⟨rfl, rfl⟩, m', hm, _, hset (hcells b cs' T) [(b, .cells cs'.toArray T (0, 0))] rfl, hh.setObj (w' := w.setRow b cs'.toArray) rfl rfl (setRow_heap w b _ _ T _ hb) (fun k hk => setRow_other' w b k _ hk)⟩
    simp [execOp, ho, hp.eval hf, hq.eval hf, bp, hr]

/-- Into a slice of the call's own. -/
theorem Ef.stO {k n nn kk pos : Nat} {cells us cells' : List Value} {e t : TypeId} {v u : Value} {p q : Operand} (hl : x.l[pos]? = some (hown e n v kk cells)) (ho : o.op = .store t p q) (hp : Ev env p (adr v k)) (hq : Ev env q u)
    (hn : (P.info? t).map (·.size) = some nn) (hus : u.cells = us.toArray) (hlen : us.length = nn) (h1 : us.all Value.oneCell' = true) (h0 : 0 < nn) (hk : k + us.length ≤ cells.length) (hcs : cells.take k ++ us ++ cells.drop (k + us.length) = cells') :
    Ef P w0 env x o (fun z x' => z = undef ∧ x' = ⟨x.m, x.l.set pos (hown e n v kk cells')⟩) :=
  Ef.mk fun N f hf w hc => by
    obtain ⟨m', L1, L2, L3, hm, hit, hh, hset⟩ := cX_at hc hl
    obtain ⟨hcl, hit⟩ := hit
    rcases hit with ⟨_, hk0, _⟩ | ⟨b, cap, cur, rfl, rfl, h2, h3, h4, htake⟩
    · subst hk0; rw [Nat.zero_mul] at hcl; omega
    · have hb : w.heap[b]? = some (.cells cur e (0, 0)) := hh.own (b, _) (by simp)
      have hkn : kk * n ≤ cap * n := Nat.mul_le_mul_right _ h2
      have hr := run_store_row (P := P) (t := t) (k := k) hn hus hlen h1 hb (by omega)
      have hlen' : cells'.length = kk * n := by rw [← hcs, ← hcl]; simp; omega
      have hnew : (cur.toList.take k ++ us ++ cur.toList.drop (k + us.length)).take (kk * n) = cells' := by
        rw [← hcs, ← htake, List.take_take, Nat.min_eq_left (by omega)]
        rw [List.take_append, List.take_of_length_le (by simp; omega)]
        congr 1
        rw [List.drop_take]
        congr 1
        simp
        omega
      refine ⟨undef, _, _, .inr ⟨?_, rfl⟩, ⟨rfl, rfl⟩, m', hm, _, hset (hown e n _ kk cells') [(b, .cells (cur.toList.take k ++ us ++ cur.toList.drop (k + us.length)).toArray e (0, 0))] ⟨hlen', .inr ⟨b, cap, _, rfl, rfl, h2, h3, ?_, ?_⟩⟩,
        hh.setObj (w' := w.setRow b (cur.toList.take k ++ us ++ cur.toList.drop (k + us.length)).toArray) rfl rfl (setRow_heap w b _ _ e _ hb) (fun k hk => setRow_other' w b k _ hk)⟩
      · simp [execOp, ho, hp.eval hf, hq.eval hf, adr, hr]
      · simp; omega
      · simpa using hnew

/-- A new variable, zero. -/
theorem Ef.al {e : TypeId} {z : Value} {zs : List Value} (ho : o.op = .alloc e) (hz : (P.info? e).bind (·.zero) = some z) (hzs : z.cells = zs.toArray) :
    Ef P w0 env x o (fun v x' => ∃ b, v = bp b 0 ∧ x' = ⟨x.m, hcells b zs e :: x.l⟩) :=
  Ef.mk fun N f hf w hc => by
    obtain ⟨inf, hi, hiz⟩ := Option.bind_eq_some_iff.1 hz
    refine ⟨bp w.heap.size 0, w.alloc (.cells zs.toArray e), _, .inl ?_, ⟨w.heap.size, rfl, rfl⟩, cX_alloc hc rfl rfl rfl rfl⟩
    simp [execOp, ho, Instr.alloc, zeroValue, typeInfo, hi, hiz, newVar, newRow, hzs, bp]

theorem Ef.bx {e : TypeId} {q : Operand} {u : Value} {us : List Value} (ho : o.op = .box e q) (hq : Ev env q u) (hus : u.cells = us.toArray) :
    Ef P w0 env x o (fun v x' => ∃ b, v = bp b 0 ∧ x' = ⟨x.m, hcells b us e :: x.l⟩) :=
  Ef.mk fun N f hf w hc => by
    refine ⟨bp w.heap.size 0, w.alloc (.cells us.toArray e), _, .inl ?_, ⟨w.heap.size, rfl, rfl⟩, cX_alloc hc rfl rfl rfl rfl⟩
    simp [execOp, ho, hq.eval hf, Instr.box, newVar, newRow, hus, bp]

theorem made_replicate (z : List Value) (k : Nat) (hz : 0 < z.length) : (madeCells z.toArray (k * z.length)).toList = (List.replicate k z).flatten := by
  apply List.ext_getElem?
  intro i
  have hlen : ((List.replicate k z).flatten).length = k * z.length := by simp
  rcases Nat.lt_or_ge i (k * z.length) with h | h
  · have key : ∀ (k i : Nat), i < k * z.length → ((List.replicate k z).flatten)[i]? = z[i % z.length]? := by
      intro k
      induction k with
      | zero => intro i h; omega
      | succ k ih =>
        intro i h
        rw [List.replicate_succ, List.flatten_cons]
        rcases Nat.lt_or_ge i z.length with h' | h'
        · rw [List.getElem?_append_left h', Nat.mod_eq_of_lt h']
        · rw [List.getElem?_append_right h', ih (i - z.length) (by rw [Nat.add_mul] at h; omega)]
          congr 1
          exact (Nat.mod_eq_sub_mod h').symm
    rw [key k i h]
    simp [madeCells, h, Nat.mod_lt i hz]
  · rw [List.getElem?_eq_none (by simpa [size_madeCells] using h), List.getElem?_eq_none (by rw [hlen]; exact h)]

theorem flat_replicate {α : Type} (enc : α → List Value) (d : α) (k : Nat) : (List.replicate k (enc d)).flatten = (List.replicate k d).flatMap enc := by
  rw [List.flatMap_def, List.map_replicate]

/-- make: k zeros. -/
theorem Ef.mks {α : Type} {t e : TypeId} {p q : Operand} {kp kq : IntKind} {k : Int} {inf : TypeInfo} {z : Value} {n bytes : Nat} (enc : α → List Value) (d : α) (ho : o.op = .makeSlice t p q) (ht : P.underlying t = some (.slice e)) (hi : P.info? e = some inf) (hz : inf.zero = some z) (hn : inf.size = n) (hby : inf.bytes = bytes)
    (hd : z.cells = (enc d).toArray) (hd' : (enc d).length = n) (h0n : 0 < n) (hp : Ev env p (.int kp k)) (hq : Ev env q (.int kq k)) (h0 : 0 ≤ k) (hroom : k.toNat * bytes ≤ 140737488355328) (hk : k ≤ 140737488355328) :
    Ef P w0 env x o (fun v x' => x' = ⟨x.m, hown e n v (List.replicate k.toNat d).length ((List.replicate k.toNat d).flatMap enc) :: x.l⟩) :=
  Ef.mk fun N f hf w hc => by
    subst hn hby
    have hb : (inf.bytes : Int) * k ≤ 281474976710656 := by
      have h : ((k.toNat * inf.bytes : Nat) : Int) ≤ 140737488355328 := by omega
      rw [Int.natCast_mul, Int.toNat_of_nonneg h0, Int.mul_comm] at h
      omega
    have hr := run_make (P := P) w t e inf z ht hi hz kp kq k k h0 (Int.le_refl _) hb (by omega)
    have hcells : (madeCells z.cells (k.toNat * inf.size)).toList = (List.replicate k.toNat d).flatMap enc := by
      rw [hd, ← hd', made_replicate _ _ (by omega), flat_replicate]
    refine ⟨_, _, _, .inl ?_, rfl, cX_alloc (it := hown e inf.size (.slice (some ⟨w.heap.size, 0, none⟩) k.toNat k.toNat) (List.replicate k.toNat d).length ((List.replicate k.toNat d).flatMap enc)) hc (w' := w.alloc (.cells (madeCells z.cells (k.toNat * inf.size)) e)) rfl rfl rfl ?_⟩
    · simp [execOp, ho, hp.eval hf, hq.eval hf, hr]
    · refine ⟨?_, .inr ⟨w.heap.size, k.toNat, _, by simp, rfl, by simp, by omega, by simp [size_madeCells], ?_⟩⟩
      · rw [← hcells]; simp [size_madeCells]
      · rw [hcells]
        apply List.take_of_length_le
        rw [← hcells]; simp [size_madeCells]
end
end Go.Proofs.Ytkdhckiljfjanaa.Sy
