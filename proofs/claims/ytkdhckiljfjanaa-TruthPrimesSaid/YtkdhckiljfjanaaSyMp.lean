/- Maps of the call's own: keys told apart by an equality, entries in the order of their making; no program in sight. -/
import Derived.Test.YtkdhckiljfjanaaSyZ
import Derived.MapKept
namespace Go.Proofs.Ytkdhckiljfjanaa.Sy
set_option linter.unusedVariables false

/-! ### What a map holds, plainly -/
def mget {κ ν : Type} [DecidableEq κ] : List (κ × ν) → κ → Option ν
  | [], _ => none
  | p :: es, x => if x = p.1 then some p.2 else mget es x
def mput {κ ν : Type} [DecidableEq κ] : List (κ × ν) → κ → ν → List (κ × ν)
  | [], x, v => [(x, v)]
  | p :: es, x, v => if x = p.1 then (x, v) :: es else p :: mput es x v
theorem mget_put {κ ν : Type} [DecidableEq κ] (es : List (κ × ν)) (x y : κ) (v : ν) : mget (mput es x v) y = if y = x then some v else mget es y := by
  induction es with
  | nil => simp [mput, mget]
  | cons p es ih =>
    rw [mput]
    by_cases h : x = p.1
    · rw [if_pos h, mget, mget]
      by_cases hy : y = x
      · rw [if_pos hy, if_pos hy]
      · simp only [if_neg hy]
        rw [if_neg (fun e => hy (e.trans h.symm))]
    · rw [if_neg h, mget, mget, ih]
      by_cases hy : y = x
      · subst hy; simp [h]
      · simp only [if_neg hy]
theorem mput_len {κ ν : Type} [DecidableEq κ] (es : List (κ × ν)) (x : κ) (v : ν) : (mput es x v).length = if (mget es x).isSome then es.length else es.length + 1 := by
  induction es with
  | nil => rfl
  | cons p es ih =>
    rw [mput, mget]
    by_cases h : x = p.1
    · rw [if_pos h, if_pos h]; rfl
    · rw [if_neg h, if_neg h, List.length_cons, ih, List.length_cons]; split <;> rfl

section
variable {κ ν : Type} [DecidableEq κ]
def look (x : κ) : List κ → List MapEntry → Nat → Option (Nat × Value)
  | k :: ks, e :: l, i => if x = k then some (i, e.val) else look x ks l (i + 1)
  | _, _, _ => none

/-- What is asked of the keys of a type. -/
structure MK (P : Program) (kt : TypeId) (ek : κ → Value) : Prop where
  check : ∀ w em x, (Instr.checkKey em 10000 kt (ek x)).run P w = .ok () w
  find : ∀ w x ks l, l.map (·.key) = ks.map ek → (Instr.findKey kt (ek x) l).run P w = .ok (look x ks l 0) w
  stays : ∀ w x, (Instr.keyThatStays (ek x) (ek x)).run P w = .ok (ek x) w

theorem MK.int {P : Program} {kt : TypeId} (hk : P.underlying kt = some (.int .i64)) : MK P kt (fun n : Int => Value.int .i64 n) where
  check w em x := by
    rw [show (10000 : Nat) = 9999 + 1 from rfl, Instr.checkKey]
    simp [run_underlying hk]
  stays w x := by simp [Instr.keyThatStays, Instr.sameBits]
  find w x ks l h := by
    have key : ∀ (ks : List Int) (l : List MapEntry) (i : Nat), l.map (·.key) = ks.map (fun n : Int => Value.int .i64 n) → Instr.findNow (.int .i64) (.int .i64 x) l i = some (look x ks l i) := by
      intro ks
      induction ks with
      | nil => intro l i h; simp at h; subst h; rfl
      | cons k ks ih =>
        intro l i h
        match l, h with
        | e :: l, h =>
          simp only [List.map_cons, List.cons.injEq] at h
          rw [Instr.findNow, h.1, look]
          by_cases e' : x = k
          · simp [Instr.sameNow, e']
          · have hb : (x == k) = false := beq_eq_false_iff_ne.2 e'
            simp [Instr.sameNow, e', hb, ih l (i + 1) h.2]
    simp [Instr.findKey, run_underlying hk, key ks l 0 h]

theorem MK.struct {P : Program} {kt : TypeId} {fs : Array Field} {ek : κ → Value} (hk : P.underlying kt = some (.struct fs)) (hc : ∀ w em x, (Instr.checkKey em 10000 kt (ek x)).run P w = .ok () w) (hs : ∀ x, Instr.sameBits 10000 (ek x) (ek x) = true)
    (he : ∀ w x y, (Op.equal kt (ek x) (ek y)).run P w = .ok (decide (x = y)) w) : MK P kt ek where
  check := hc
  stays w x := by simp [Instr.keyThatStays, hs x]
  find w x ks l h := by
    have key : ∀ (ks : List κ) (l : List MapEntry) (i : Nat), l.map (·.key) = ks.map ek → (Instr.findAsking kt (ek x) l i).run P w = .ok (look x ks l i) w := by
      intro ks
      induction ks with
      | nil => intro l i h; simp at h; subst h; simp [Instr.findAsking, look]
      | cons k ks ih =>
        intro l i h
        match l, h with
        | e :: l, h =>
          simp only [List.map_cons, List.cons.injEq] at h
          rw [Instr.findAsking, h.1, look]
          by_cases e' : x = k
          · simp [he, e']
          · simp [he, e', ih l (i + 1) h.2]
    match l, ks, h with
    | [], [], _ => simp [Instr.findKey, run_underlying hk, Instr.findNow, look]
    | e :: l, k :: ks, h =>
      have := key (k :: ks) (e :: l) 0 h
      have hn : Instr.findNow (.struct fs) (ek x) (e :: l) 0 = none := by
        rw [Instr.findNow]
        have : Instr.sameNow (.struct fs) (ek x) e.key = none := by unfold Instr.sameNow; rfl
        rw [this]
      simp [Instr.findKey, run_underlying hk, hn, this]

/-- Each entry bears a stamp of its own. -/
def Stm (arr : Array MapEntry) (clock : Nat) : Prop := (∀ e ∈ arr.toList, e.born < clock) ∧ (arr.toList.map (·.born)).Nodup
theorem Stm.push {arr : Array MapEntry} {clock : Nat} (h : Stm arr clock) (k v : Value) : Stm (arr.push ⟨k, v, clock⟩) (clock + 1) := by
  refine ⟨fun e he => ?_, ?_⟩
  · rw [Array.toList_push, List.mem_append] at he
    rcases he with he | he
    · have := h.1 e he; omega
    · simp at he; subst he; exact Nat.lt_succ_self _
  · rw [Array.toList_push, List.map_append, List.nodup_append]
    refine ⟨h.2, by simp, fun a ha b hb => ?_⟩
    obtain ⟨e, he, rfl⟩ := List.mem_map.1 ha
    simp at hb; subst hb
    have := h.1 e he; omega
theorem Stm.modify {arr : Array MapEntry} {clock : Nat} (h : Stm arr clock) (j : Nat) (k v : Value) : Stm (arr.modify j fun e => { e with key := k, val := v }) clock := by
  have e : (arr.modify j fun e => { e with key := k, val := v }).toList.map (·.born) = arr.toList.map (·.born) := by
    rw [Array.toList_modify]
    apply List.ext_getElem?
    intro i
    rw [List.getElem?_map, List.getElem?_map, List.getElem?_modify]
    cases arr.toList[i]? with
    | none => rfl
    | some x => simp only [Option.map_some]; split <;> rfl
  refine ⟨fun x hx => ?_, by rw [e]; exact h.2⟩
  have hm : x.born ∈ arr.toList.map (·.born) := by rw [← e]; exact List.mem_map.2 ⟨x, hx, rfl⟩
  obtain ⟨y, hy, hyx⟩ := List.mem_map.1 hm
  rw [← hyx]; exact h.1 y hy

/-- A map of the call's own. -/
def hmap (b : Nat) (ek : κ → Value) (ev : ν → Value) (es : List (κ × ν)) : HI := fun L =>
  ∃ (arr : Array MapEntry) (clock : Nat), L = [(b, .map arr clock)] ∧ arr.toList.map (fun e => (e.key, e.val)) = (es.map fun p => (ek p.1, ev p.2)) ∧ Stm arr clock

theorem look_get {ek : κ → Value} {ev : ν → Value} (x : κ) : ∀ (es : List (κ × ν)) (l : List MapEntry) (i : Nat), l.map (fun e => (e.key, e.val)) = es.map (fun p => (ek p.1, ev p.2)) → (look x (es.map Prod.fst) l i).map Prod.snd = (mget es x).map ev
  | [], l, i, h => by simp at h; subst h; rfl
  | p :: es, [], i, h => by simp at h
  | p :: es, e :: l, i, h => by
    simp only [List.map_cons, List.cons.injEq, Prod.mk.injEq] at h
    rw [List.map_cons, look, mget]
    by_cases e' : x = p.1
    · rw [if_pos e', if_pos e']; simp [h.1.2]
    · rw [if_neg e', if_neg e']; exact look_get x es l (i + 1) h.2
omit [DecidableEq κ] in
theorem keys_of {ek : κ → Value} {ev : ν → Value} {es : List (κ × ν)} {l : List MapEntry} (h : l.map (fun e => (e.key, e.val)) = es.map (fun p => (ek p.1, ev p.2))) : l.map (·.key) = (es.map Prod.fst).map ek := by
  have := congrArg (List.map Prod.fst) h
  simpa [List.map_map, Function.comp_def] using this
theorem look_some {x : κ} : ∀ {ks : List κ} {l : List MapEntry} {i j : Nat} {v : Value}, look x ks l i = some (j, v) → i ≤ j ∧ ks[j - i]? = some x
  | [], l, i, j, v, h => by simp [look] at h
  | k :: ks, [], i, j, v, h => by simp [look] at h
  | k :: ks, e :: l, i, j, v, h => by
    rw [look] at h
    split at h
    · rename_i e'
      cases h
      exact ⟨Nat.le_refl _, by simp [e']⟩
    · obtain ⟨h1, h2⟩ := look_some h
      refine ⟨by omega, ?_⟩
      rw [show j - i = (j - (i + 1)) + 1 by omega]
      simpa using h2
theorem look_put {ek : κ → Value} {ev : ν → Value} (x : κ) (v : ν) (f : MapEntry → MapEntry) (hf : ∀ e, (f e).key = ek x ∧ (f e).val = ev v) (c : Nat) : ∀ (es : List (κ × ν)) (l : List MapEntry) (i : Nat), l.map (fun e => (e.key, e.val)) = es.map (fun p => (ek p.1, ev p.2)) →
    (match look x (es.map Prod.fst) l i with
     | some (j, _) => l.modify (j - i) f
     | none => l ++ [(⟨ek x, ev v, c⟩ : MapEntry)]).map (fun e : MapEntry => (e.key, e.val)) = (mput es x v).map fun p => (ek p.1, ev p.2)
  | [], l, i, h => by simp at h; subst h; simp [look, mput]
  | p :: es, [], i, h => by simp at h
  | p :: es, e :: l, i, h => by
    simp only [List.map_cons, List.cons.injEq, Prod.mk.injEq] at h
    rw [List.map_cons, look, mput]
    by_cases e' : x = p.1
    · rw [if_pos e', if_pos e']
      simp only [Nat.sub_self, List.modify_zero_cons, List.map_cons, (hf e).1, (hf e).2, h.2]
    · rw [if_neg e', if_neg e']
      have ih := look_put x v f hf c es l (i + 1) h.2
      cases hl : look x (es.map Prod.fst) l (i + 1) with
      | none =>
        rw [hl] at ih
        simp only [List.cons_append, List.map_cons, ih, h.1.1, h.1.2]
      | some q =>
        obtain ⟨j, u⟩ := q
        rw [hl] at ih
        obtain ⟨h1, _⟩ := look_some hl
        simp only at ih ⊢
        rw [show j - i = (j - (i + 1)) + 1 by omega, List.modify_succ_cons, List.map_cons, ih, List.map_cons, h.1.1, h.1.2]

variable {P : Program} {w0 : World} {env : Env} {x : SX} {o : Oper} {kt vt t : TypeId} {ek : κ → Value} {ev : ν → Value}
omit [DecidableEq κ] in
theorem Ef.mkMap (ek : κ → Value) (ev : ν → Value) (ho : o.op = .makeMap t none) : Ef P w0 env x o (fun v x' => ∃ b, v = .map (some b) ∧ x' = ⟨x.m, hmap b ek ev ([] : List (κ × ν)) :: x.l⟩) :=
  Ef.mk fun N f hf w hc => by
    obtain ⟨m', hm, L, hs, hp⟩ := hc
    refine ⟨.map (some w.heap.size), w.alloc (.map #[] 0), ⟨x.m, hmap w.heap.size ek ev ([] : List (κ × ν)) :: x.l⟩, .inl ?_, ⟨_, rfl, rfl⟩, m', hm, (w.heap.size, .map #[] 0) :: L, ⟨[(w.heap.size, .map #[] 0)], L, rfl, ⟨#[], 0, rfl, rfl, by simp, by simp⟩, hs⟩, hp.alloc rfl rfl rfl⟩
    simp [execOp, ho, Instr.makeMap]
theorem Yd.mlook (K : MK P kt ek) {pos b : Nat} {es : List (κ × ν)} {p q : Operand} {k : κ} {z : Value} {nb : Nat × Nat} (hl : x.l[pos]? = some (hmap b ek ev es)) (ho : o.op = .lookup t p q false) (ht : P.underlying t = some (.map kt vt)) (hI : (P.info? vt).map (fun i => (i.zero, i.size, i.bytes)) = some (some z, nb))
    (hp : Ev env p (.map (some b))) (hq : Ev env q (ek k)) : Yd P w0 env x o (((mget es k).map ev).getD z) :=
  Yd.pure fun N f hf w hc => by
    obtain ⟨m', L1, L2, L3, hm, hit, hh, hset⟩ := cX_at hc hl
    obtain ⟨arr, clock, rfl, hes, hst⟩ := hit
    have hb : w.heap[b]? = some (.map arr clock) := hh.own (b, _) (by simp)
    obtain ⟨inf, hi, hz⟩ := Option.map_eq_some_iff.1 hI
    have hz' : inf.zero = some z := congrArg Prod.fst hz
    have hf' := K.find w k (es.map Prod.fst) arr.toList (keys_of hes)
    have hg := look_get (ek := ek) (ev := ev) k es arr.toList 0 hes
    rw [← hg]
    cases hlk : look k (es.map Prod.fst) arr.toList 0 with
    | none =>
      rw [hlk] at hf'
      simp [execOp, ho, hp.eval hf, hq.eval hf, Instr.lookup, run_underlying ht, MapKept.run_getObj_map hb, K.check, hf', zeroValue, typeInfo, hi, hz']
    | some j =>
      rw [hlk] at hf'
      simp [execOp, ho, hp.eval hf, hq.eval hf, Instr.lookup, run_underlying ht, MapKept.run_getObj_map hb, K.check, hf']
theorem Yd.mlook2 (K : MK P kt ek) {pos b : Nat} {es : List (κ × ν)} {p q : Operand} {k : κ} {z : Value} {nb : Nat × Nat} (hl : x.l[pos]? = some (hmap b ek ev es)) (ho : o.op = .lookup t p q true) (ht : P.underlying t = some (.map kt vt)) (hI : (P.info? vt).map (fun i => (i.zero, i.size, i.bytes)) = some (some z, nb))
    (hp : Ev env p (.map (some b))) (hq : Ev env q (ek k)) : Yd P w0 env x o (.tuple #[((mget es k).map ev).getD z, .bool (mget es k).isSome]) :=
  Yd.pure fun N f hf w hc => by
    obtain ⟨m', L1, L2, L3, hm, hit, hh, hset⟩ := cX_at hc hl
    obtain ⟨arr, clock, rfl, hes, hst⟩ := hit
    have hb : w.heap[b]? = some (.map arr clock) := hh.own (b, _) (by simp)
    obtain ⟨inf, hi, hz⟩ := Option.map_eq_some_iff.1 hI
    have hz' : inf.zero = some z := congrArg Prod.fst hz
    have hf' := K.find w k (es.map Prod.fst) arr.toList (keys_of hes)
    have hg := look_get (ek := ek) (ev := ev) k es arr.toList 0 hes
    have hs : (mget es k).isSome = ((mget es k).map ev).isSome := by simp
    rw [hs, ← hg]
    cases hlk : look k (es.map Prod.fst) arr.toList 0 with
    | none =>
      rw [hlk] at hf'
      simp [execOp, ho, hp.eval hf, hq.eval hf, Instr.lookup, run_underlying ht, MapKept.run_getObj_map hb, K.check, hf', zeroValue, typeInfo, hi, hz']
    | some j =>
      rw [hlk] at hf'
      simp [execOp, ho, hp.eval hf, hq.eval hf, Instr.lookup, run_underlying ht, MapKept.run_getObj_map hb, K.check, hf']
theorem Ef.mset (K : MK P kt ek) {pos b : Nat} {es : List (κ × ν)} {p q r : Operand} {k : κ} {v : ν} (hl : x.l[pos]? = some (hmap b ek ev es)) (ho : o.op = .mapUpdate t p q r) (ht : P.underlying t = some (.map kt vt))
    (hp : Ev env p (.map (some b))) (hq : Ev env q (ek k)) (hr : Ev env r (ev v)) : Ef P w0 env x o (fun u x' => u = undef ∧ x' = ⟨x.m, x.l.set pos (hmap b ek ev (mput es k v))⟩) :=
  Ef.mk fun N f hf w hc => by
    obtain ⟨m', L1, L2, L3, hm, hit, hh, hset⟩ := cX_at hc hl
    obtain ⟨arr, clock, rfl, hes, hst⟩ := hit
    have hb : w.heap[b]? = some (.map arr clock) := hh.own (b, _) (by simp)
    have hlt := (Array.getElem?_eq_some_iff.1 hb).1
    have hf' := K.find w k (es.map Prod.fst) arr.toList (keys_of hes)
    have hput := look_put (ek := ek) (ev := ev) k v (fun e => { e with key := ek k, val := ev v }) (fun e => ⟨rfl, rfl⟩) clock es arr.toList 0 hes
    have hset' : ∀ (o' : Obj) j, j ≠ b → (w.heap.setIfInBounds b o')[j]? = w.heap[j]? := fun o' j hj => by
      rw [Array.getElem?_setIfInBounds, if_neg (fun h => hj h.symm)]
    have hat : ∀ (o' : Obj), (w.heap.setIfInBounds b o')[b]? = some o' := fun o' => by
      rw [Array.getElem?_setIfInBounds, if_pos rfl, if_pos hlt]
    cases hlk : look k (es.map Prod.fst) arr.toList 0 with
    | none =>
      rw [hlk] at hf' hput
      refine ⟨undef, { w with heap := w.heap.setIfInBounds b (.map (arr.push ⟨ek k, ev v, clock⟩) (clock + 1)) }, _, .inr ⟨?_, rfl⟩, ⟨rfl, rfl⟩, m', hm, _, hset (hmap b ek ev (mput es k v)) [(b, .map (arr.push ⟨ek k, ev v, clock⟩) (clock + 1))] ⟨_, _, rfl, by simpa using hput, hst.push _ _⟩, hh.setObj rfl rfl (hat _) (hset' _)⟩
      simp [execOp, ho, hp.eval hf, hq.eval hf, hr.eval hf, Instr.mapUpdate, run_underlying ht, MapKept.run_getObj_map hb, K.check, hf', MapKept.run_setObj_map _ hb]
    | some jv =>
      obtain ⟨j, u⟩ := jv
      rw [hlk] at hf' hput
      simp only [Nat.sub_zero] at hput
      obtain ⟨_, hj⟩ := look_some hlk
      have hkj : (arr[j]?).map (·.key) = some (ek k) := by
        have h1 := congrArg (fun l : List Value => l[j]?) (keys_of hes)
        simp only [List.getElem?_map, Nat.sub_zero] at h1 hj
        rw [hj] at h1
        simpa using h1
      refine ⟨undef, { w with heap := w.heap.setIfInBounds b (.map (arr.modify j fun e => { e with key := ek k, val := ev v }) clock) }, _, .inr ⟨?_, rfl⟩, ⟨rfl, rfl⟩, m', hm, _, hset (hmap b ek ev (mput es k v)) [(b, .map (arr.modify j fun e => { e with key := ek k, val := ev v }) clock)] ⟨_, _, rfl, by simpa using hput, hst.modify _ _ _⟩, hh.setObj rfl rfl (hat _) (hset' _)⟩
      simp [execOp, ho, hp.eval hf, hq.eval hf, hr.eval hf, Instr.mapUpdate, run_underlying ht, MapKept.run_getObj_map hb, K.check, hf', hkj, K.stays, MapKept.run_setObj_map _ hb]
theorem Yd.mlookE (K : MK P kt ek) {pos b : Nat} {es : List (κ × ν)} {p q : Operand} {k : κ} {d : ν} {nb : Nat × Nat} (hl : x.l[pos]? = some (hmap b ek ev es)) (ho : o.op = .lookup t p q false) (ht : P.underlying t = some (.map kt vt)) (hI : (P.info? vt).map (fun i => (i.zero, i.size, i.bytes)) = some (some (ev d), nb))
    (hp : Ev env p (.map (some b))) (hq : Ev env q (ek k)) : Yd P w0 env x o (ev ((mget es k).getD d)) := by
  have := Yd.mlook K hl ho ht hI hp hq (w0 := w0)
  cases h : mget es k <;> rw [h] at this <;> exact this
theorem Yd.mlook2E (K : MK P kt ek) {pos b : Nat} {es : List (κ × ν)} {p q : Operand} {k : κ} {d : ν} {nb : Nat × Nat} (hl : x.l[pos]? = some (hmap b ek ev es)) (ho : o.op = .lookup t p q true) (ht : P.underlying t = some (.map kt vt)) (hI : (P.info? vt).map (fun i => (i.zero, i.size, i.bytes)) = some (some (ev d), nb))
    (hp : Ev env p (.map (some b))) (hq : Ev env q (ek k)) : Yd P w0 env x o (.tuple #[ev ((mget es k).getD d), .bool (mget es k).isSome]) := by
  have := Yd.mlook2 K hl ho ht hI hp hq (w0 := w0)
  cases h : mget es k <;> rw [h] at this <;> exact this
omit [DecidableEq κ] in
theorem Yd.mlen {pos b : Nat} {es : List (κ × ν)} {p : Operand} (hl : x.l[pos]? = some (hmap b ek ev es)) (ho : o.op = .call { callee := .builtin .len, args := #[p], argTypes := #[t] }) (ht : P.underlying t = some (.map kt vt)) (hp : Ev env p (.map (some b))) : Yd P w0 env x o (.int .i64 es.length) :=
  Yd.pure fun N f hf w hc => by
    obtain ⟨m', L1, L2, L3, hm, hit, hh, hset⟩ := cX_at hc hl
    obtain ⟨arr, clock, rfl, hes, hst⟩ := hit
    have hb : w.heap[b]? = some (.map arr clock) := hh.own (b, _) (by simp)
    have hlen : arr.size = es.length := by
      have := congrArg List.length hes
      simpa using this
    simp [execOp, ho, resolve, hp.eval hf, invoke, builtin, Builtin.len_, run_underlying ht, MapKept.run_getObj_map hb, goInt, hlen]
end
end Go.Proofs.Ytkdhckiljfjanaa.Sy
