/- A map of sets of the call's own: an outer map and, behind each of its entries, an inner one; no program in sight. -/
import Derived.Test.YtcihfhfolofomaaSyMp
import Derived.WalkSpells
namespace Go.Proofs.Ytcihfhfolofomaa.Sy
set_option linter.unusedVariables false
section
abbrev ekZ (n : Int) : Value := .int .i64 n
abbrev evZ (i : Nat) : Value := .map (some i)
abbrev evW (b : Bool) : Value := .bool b
def inn : List Nat → List (Int × List (Int × Bool)) → Part → Prop
  | [], [], L => L = []
  | i :: ids, e :: es, L => ∃ L1 L2, L = L1 ++ L2 ∧ hmap i ekZ evW e.2 L1 ∧ inn ids es L2
  | _, _, _ => False
abbrev zz (ids : List Nat) (es : List (Int × List (Int × Bool))) : List (Int × Nat) := (es.map Prod.fst).zip ids
/-- The outer map and all inner ones. -/
def hmm (b : Nat) (ids : List Nat) (es : List (Int × List (Int × Bool))) : HI := fun L => ∃ L1 L2, L = L1 ++ L2 ∧ hmap b ekZ evZ (zz ids es) L1 ∧ inn ids es L2
/-- What the outer map gives. -/
def mmv (ids : List Nat) (es : List (Int × List (Int × Bool))) (k : Int) : Value := ((mget (zz ids es) k).map evZ).getD (.map none)

theorem mput_none {κ ν : Type} [DecidableEq κ] : ∀ {es : List (κ × ν)} {x : κ} {v : ν}, mget es x = none → mput es x v = es ++ [(x, v)]
  | [], _, _, _ => rfl
  | p :: es, x, v, h => by
    rw [mget] at h
    split at h
    · cases h
    · rename_i hne
      rw [mput, if_neg hne, mput_none h]; rfl

theorem inn_none : ∀ {ids : List Nat} {es : List (Int × List (Int × Bool))} {L : Part} {k : Int}, inn ids es L → (mget es k = none ↔ mget (zz ids es) k = none)
  | [], [], _, _, _ => ⟨fun _ => rfl, fun _ => rfl⟩
  | i :: ids, e :: es, L, k, h => by
    obtain ⟨L1, L2, rfl, _, h2⟩ := h
    have ih := inn_none (k := k) h2
    show mget (e :: es) k = none ↔ mget ((e.1, i) :: zz ids es) k = none
    rw [mget, mget]
    by_cases hk : k = e.1
    · simp [hk]
    · simp [hk, ih]
  | [], _ :: _, _, _, h => h.elim
  | _ :: _, [], _, _, h => h.elim
theorem inn_get : ∀ {ids : List Nat} {es : List (Int × List (Int × Bool))} {L : Part} {k : Int} {ts : List (Int × Bool)}, inn ids es L → mget es k = some ts →
    ∃ i A B C, mget (zz ids es) k = some i ∧ L = A ++ B ++ C ∧ hmap i ekZ evW ts B ∧ ∀ ts' B', hmap i ekZ evW ts' B' → inn ids (mput es k ts') (A ++ B' ++ C) ∧ zz ids (mput es k ts') = zz ids es
  | [], [], _, _, _, _, h => by simp [mget] at h
  | i :: ids, e :: es, L, k, ts, h, hg => by
    obtain ⟨L1, L2, rfl, h1, h2⟩ := h
    rw [mget] at hg
    by_cases hk : k = e.1
    · rw [if_pos hk] at hg
      cases hg
      refine ⟨i, [], L1, L2, ?_, rfl, h1, fun ts' B' hB => ?_⟩
      · show mget ((e.1, i) :: zz ids es) k = some i
        rw [mget, if_pos hk]
      · rw [mput, if_pos hk]
        refine ⟨⟨B', L2, rfl, hB, h2⟩, ?_⟩
        show (k, i) :: zz ids es = (e.1, i) :: zz ids es
        rw [hk]
    · rw [if_neg hk] at hg
      obtain ⟨i', A, B, C, q1, rfl, q3, q4⟩ := inn_get h2 hg
      refine ⟨i', L1 ++ A, B, C, ?_, by simp, q3, fun ts' B' hB => ?_⟩
      · show mget ((e.1, i) :: zz ids es) k = some i'
        rw [mget, if_neg hk]; exact q1
      · obtain ⟨r1, r2⟩ := q4 ts' B' hB
        rw [mput, if_neg hk]
        refine ⟨⟨L1, A ++ B' ++ C, by simp, h1, r1⟩, ?_⟩
        show (e.1, i) :: zz ids (mput es k ts') = (e.1, i) :: zz ids es
        rw [r2]
  | [], _ :: _, _, _, _, h, _ => h.elim
  | _ :: _, [], _, _, _, h, _ => h.elim
theorem inn_snoc : ∀ {ids : List Nat} {es : List (Int × List (Int × Bool))} {L B : Part} {k : Int} {i : Nat} {ts : List (Int × Bool)}, inn ids es L → hmap i ekZ evW ts B → inn (ids ++ [i]) (es ++ [(k, ts)]) (L ++ B) ∧ zz (ids ++ [i]) (es ++ [(k, ts)]) = zz ids es ++ [(k, i)]
  | [], [], L, B, k, i, ts, h, hB => by
    have : L = [] := h
    subst this
    exact ⟨⟨B, [], by simp, hB, rfl⟩, rfl⟩
  | j :: ids, e :: es, L, B, k, i, ts, h, hB => by
    obtain ⟨L1, L2, rfl, h1, h2⟩ := h
    obtain ⟨r1, r2⟩ := inn_snoc (k := k) h2 hB
    refine ⟨⟨L1, L2 ++ B, by simp, h1, r1⟩, ?_⟩
    show (e.1, j) :: zz (ids ++ [i]) (es ++ [(k, ts)]) = _
    rw [r2]; rfl
  | [], _ :: _, _, _, _, _, _, h, _ => h.elim
  | _ :: _, [], _, _, _, _, _, h, _ => h.elim

variable {P : Program} {w0 : World} {env : Env} {x : SX} {o : Oper} {kt vt t tt : TypeId}
theorem Yd.mmlook (K : MK P kt ekZ) {pos b : Nat} {ids : List Nat} {es : List (Int × List (Int × Bool))} {p q : Operand} {k : Int} {nb : Nat × Nat} (hl : x.l[pos]? = some (hmm b ids es)) (ho : o.op = .lookup t p q false) (ht : P.underlying t = some (.map kt vt)) (hI : (P.info? vt).map (fun i => (i.zero, i.size, i.bytes)) = some (some (.map none), nb))
    (hp : Ev env p (.map (some b))) (hq : Ev env q (ekZ k)) : Yd P w0 env x o (mmv ids es k) :=
  Yd.pure fun N f hf w hc => by
    obtain ⟨m', L1, L2, L3, hm, hit, hh, hset⟩ := cX_at hc hl
    obtain ⟨A, B, rfl, ⟨arr, clock, rfl, hes⟩, hin⟩ := hit
    have hb : w.heap[b]? = some (.map arr clock) := hh.own (b, _) (by simp)
    obtain ⟨inf, hi, hz⟩ := Option.map_eq_some_iff.1 hI
    have hz' : inf.zero = some (.map none) := congrArg Prod.fst hz
    have hf' := K.find w k ((zz ids es).map Prod.fst) arr.toList (keys_of hes)
    have hg := look_get (ek := ekZ) (ev := evZ) k (zz ids es) arr.toList 0 hes
    unfold mmv
    rw [← hg]
    cases hlk : look k ((zz ids es).map Prod.fst) arr.toList 0 with
    | none =>
      rw [hlk] at hf'
      simp [execOp, ho, hp.eval hf, hq.eval hf, Instr.lookup, run_underlying ht, MapKept.run_getObj_map hb, K.check, hf', zeroValue, typeInfo, hi, hz']
    | some j =>
      rw [hlk] at hf'
      simp [execOp, ho, hp.eval hf, hq.eval hf, Instr.lookup, run_underlying ht, MapKept.run_getObj_map hb, K.check, hf']
theorem Yd.mmnil {pos b : Nat} {ids : List Nat} {es : List (Int × List (Int × Bool))} {p q : Operand} {k : Int} (hl : x.l[pos]? = some (hmm b ids es)) (ho : o.op = .binOp .eql t p q tt) (ht : P.underlying t = some (.map kt vt)) (hp : Ev env p (mmv ids es k)) (hq : Ev env q (.map none)) : Yd P w0 env x o (.bool (mget es k).isNone) :=
  Yd.pure fun N f hf w hc => by
    obtain ⟨m', L1, L2, L3, hm, hit, hh, hset⟩ := cX_at hc hl
    obtain ⟨A, B, rfl, _, hin⟩ := hit
    have hn := inn_none (k := k) hin
    have hmv : mmv ids es k = .map (mget (zz ids es) k) := by unfold mmv; cases mget (zz ids es) k <;> rfl
    have hb : (mget es k).isNone = (mget (zz ids es) k).isNone := by
      rw [Bool.eq_iff_iff, Option.isNone_iff_eq_none, Option.isNone_iff_eq_none]; exact hn
    rw [hmv] at hp
    rw [hb]
    have hr := run_eql_map_nil (P := P) w t kt vt (mget (zz ids es) k) ht
    simp [execOp, ho, hp.eval hf, hq.eval hf, eqGuard, hr]
theorem Ef.mmput (K : MK P kt ekZ) {pos b i : Nat} {ids : List Nat} {es : List (Int × List (Int × Bool))} {ts : List (Int × Bool)} {l0 : List HI} {m0 : Snap} {p q r : Operand} {k : Int} (hx : x = ⟨m0, hmap i ekZ evW ts :: l0⟩) (hl : l0[pos]? = some (hmm b ids es)) (hno : mget es k = none) (ho : o.op = .mapUpdate t p q r) (ht : P.underlying t = some (.map kt vt))
    (hp : Ev env p (.map (some b))) (hq : Ev env q (ekZ k)) (hr : Ev env r (.map (some i))) : Ef P w0 env x o (fun u x' => u = undef ∧ x' = ⟨m0, l0.set pos (hmm b (ids ++ [i]) (mput es k ts))⟩) :=
  Ef.mk fun N f hf w hc => by
    subst hx
    obtain ⟨m', hm, L, ⟨Li, Lr, rfl, hi, hs⟩, hp'⟩ := hc
    obtain ⟨L1, L2, L3, rfl, hit, hset⟩ := hs.at hl
    obtain ⟨A, B, rfl, ⟨arr, clock, rfl, hes⟩, hin⟩ := hit
    have hb : w.heap[b]? = some (.map arr clock) := hp'.own (b, _) (by simp)
    have hlt := (Array.getElem?_eq_some_iff.1 hb).1
    have hnz := (inn_none hin).1 hno
    have hf' := K.find w k ((zz ids es).map Prod.fst) arr.toList (keys_of hes)
    have hg := look_get (ek := ekZ) (ev := evZ) k (zz ids es) arr.toList 0 hes
    rw [hnz] at hg
    have hlk : look k ((zz ids es).map Prod.fst) arr.toList 0 = none := by
      cases h : look k ((zz ids es).map Prod.fst) arr.toList 0 with
      | none => rfl
      | some q => rw [h] at hg; simp at hg
    rw [hlk] at hf'
    obtain ⟨s1, s2⟩ := inn_snoc (k := k) hin hi
    have hperm : (Li ++ (L1 ++ ([(b, Obj.map arr clock)] ++ B) ++ L3)).Perm ((L1 ++ [(b, Obj.map arr clock)]) ++ (B ++ Li ++ L3)) := by
      refine List.perm_append_comm.trans ?_
      simp only [List.append_assoc]
      exact List.Perm.append_left _ (List.Perm.append_left _ (List.Perm.append_left _ List.perm_append_comm))
    have hq' := (hp'.perm hperm).setObj (L1 := L1) (L3 := B ++ Li ++ L3) (b := b) (o := .map arr clock) (o' := .map (arr.push ⟨ekZ k, evZ i, clock⟩) (clock + 1)) (w' := { w with heap := w.heap.setIfInBounds b (.map (arr.push ⟨ekZ k, evZ i, clock⟩) (clock + 1)) }) rfl rfl (by
      show (w.heap.setIfInBounds b _)[b]? = _
      rw [Array.getElem?_setIfInBounds, if_pos rfl, if_pos hlt]) (fun j hj => by
      show (w.heap.setIfInBounds b _)[j]? = _
      rw [Array.getElem?_setIfInBounds, if_neg (fun h => hj h.symm)])
    refine ⟨undef, { w with heap := w.heap.setIfInBounds b (.map (arr.push ⟨ekZ k, evZ i, clock⟩) (clock + 1)) }, _, .inr ⟨?_, rfl⟩, ⟨rfl, rfl⟩, m', hm, L1 ++ ([(b, .map (arr.push ⟨ekZ k, evZ i, clock⟩) (clock + 1))] ++ (B ++ Li)) ++ L3, hset (hmm b (ids ++ [i]) (mput es k ts)) _ ⟨[(b, .map (arr.push ⟨ekZ k, evZ i, clock⟩) (clock + 1))], B ++ Li, rfl, ⟨_, _, rfl, ?_⟩, ?_⟩, ?_⟩
    · simp [execOp, ho, hp.eval hf, hq.eval hf, hr.eval hf, Instr.mapUpdate, run_underlying ht, MapKept.run_getObj_map hb, K.check, hf', MapKept.run_setObj_map _ hb]
    · rw [mput_none hno, s2]
      simp [hes]
    · rw [mput_none hno]; exact s1
    · simpa using hq'
theorem Ef.mmset (K : MK P kt ekZ) {pos b : Nat} {ids : List Nat} {es : List (Int × List (Int × Bool))} {ts : List (Int × Bool)} {p q r : Operand} {k y : Int} {v : Bool} (hl : x.l[pos]? = some (hmm b ids es)) (hsome : mget es k = some ts) (ho : o.op = .mapUpdate t p q r) (ht : P.underlying t = some (.map kt vt))
    (hp : Ev env p (mmv ids es k)) (hq : Ev env q (ekZ y)) (hr : Ev env r (evW v)) : Ef P w0 env x o (fun u x' => u = undef ∧ x' = ⟨x.m, x.l.set pos (hmm b ids (mput es k (mput ts y v)))⟩) :=
  Ef.mk fun N f hf w hc => by
    obtain ⟨m', L1, L2, L3, hm, hit, hh, hset⟩ := cX_at hc hl
    obtain ⟨Lo, Lb, rfl, hout, hin⟩ := hit
    obtain ⟨i, A, B, C, q1, rfl, q3, q4⟩ := inn_get hin hsome
    have hmv : mmv ids es k = .map (some i) := by unfold mmv; rw [q1]; rfl
    rw [hmv] at hp
    obtain ⟨arr, clock, rfl, hes⟩ := q3
    have hb : w.heap[i]? = some (.map arr clock) := hh.own (i, _) (by simp)
    have hlt := (Array.getElem?_eq_some_iff.1 hb).1
    have hf' := K.find w y (ts.map Prod.fst) arr.toList (keys_of hes)
    have hput := look_put (ek := ekZ) (ev := evW) y v (fun e => { e with key := ekZ y, val := evW v }) (fun e => ⟨rfl, rfl⟩) clock ts arr.toList 0 hes
    have hset' : ∀ (o' : Obj) j, j ≠ i → (w.heap.setIfInBounds i o')[j]? = w.heap[j]? := fun o' j hj => by
      rw [Array.getElem?_setIfInBounds, if_neg (fun h => hj h.symm)]
    have hat : ∀ (o' : Obj), (w.heap.setIfInBounds i o')[i]? = some o' := fun o' => by
      rw [Array.getElem?_setIfInBounds, if_pos rfl, if_pos hlt]
    have hh' : Hp m' ((L1 ++ Lo ++ A) ++ [(i, Obj.map arr clock)] ++ (C ++ L3)) w0 w := by simpa using hh
    have done : ∀ (arr' : Array MapEntry) (c' : Nat), arr'.toList.map (fun e => (e.key, e.val)) = (mput ts y v).map (fun p => (ekZ p.1, evW p.2)) →
        cX w0 ⟨x.m, x.l.set pos (hmm b ids (mput es k (mput ts y v)))⟩ { w with heap := w.heap.setIfInBounds i (.map arr' c') } := by
      intro arr' c' he
      obtain ⟨r1, r2⟩ := q4 (mput ts y v) [(i, .map arr' c')] ⟨arr', c', rfl, he⟩
      have hn := hh'.setObj (o' := .map arr' c') (w' := { w with heap := w.heap.setIfInBounds i (.map arr' c') }) rfl rfl (hat _) (hset' _)
      refine ⟨m', hm, _, hset (hmm b ids (mput es k (mput ts y v))) (Lo ++ (A ++ [(i, .map arr' c')] ++ C)) ⟨Lo, _, rfl, by rw [r2]; exact hout, r1⟩, ?_⟩
      simpa using hn
    cases hlk : look y (ts.map Prod.fst) arr.toList 0 with
    | none =>
      rw [hlk] at hf' hput
      refine ⟨undef, { w with heap := w.heap.setIfInBounds i (.map (arr.push ⟨ekZ y, evW v, clock⟩) (clock + 1)) }, _, .inr ⟨?_, rfl⟩, ⟨rfl, rfl⟩, done _ _ (by simpa using hput)⟩
      simp [execOp, ho, hp.eval hf, hq.eval hf, hr.eval hf, Instr.mapUpdate, run_underlying ht, MapKept.run_getObj_map hb, K.check, hf', MapKept.run_setObj_map _ hb]
    | some jv =>
      obtain ⟨j, u⟩ := jv
      rw [hlk] at hf' hput
      simp only [Nat.sub_zero] at hput
      obtain ⟨_, hj⟩ := look_some hlk
      have hkj : (arr[j]?).map (·.key) = some (ekZ y) := by
        have h1 := congrArg (fun l : List Value => l[j]?) (keys_of hes)
        simp only [List.getElem?_map, Nat.sub_zero] at h1 hj
        rw [hj] at h1
        simpa using h1
      refine ⟨undef, { w with heap := w.heap.setIfInBounds i (.map (arr.modify j fun e => { e with key := ekZ y, val := evW v }) clock) }, _, .inr ⟨?_, rfl⟩, ⟨rfl, rfl⟩, done _ _ (by simpa using hput)⟩
      simp [execOp, ho, hp.eval hf, hq.eval hf, hr.eval hf, Instr.mapUpdate, run_underlying ht, MapKept.run_getObj_map hb, K.check, hf', hkj, K.stays, MapKept.run_setObj_map _ hb]
theorem Yd.mmlen {pos b : Nat} {ids : List Nat} {es : List (Int × List (Int × Bool))} {ts : List (Int × Bool)} {p : Operand} {k : Int} (hl : x.l[pos]? = some (hmm b ids es)) (hsome : mget es k = some ts) (ho : o.op = .call { callee := .builtin .len, args := #[p], argTypes := #[t] }) (ht : P.underlying t = some (.map kt vt)) (hp : Ev env p (mmv ids es k)) : Yd P w0 env x o (.int .i64 ts.length) :=
  Yd.pure fun N f hf w hc => by
    obtain ⟨m', L1, L2, L3, hm, hit, hh, hset⟩ := cX_at hc hl
    obtain ⟨Lo, Lb, rfl, hout, hin⟩ := hit
    obtain ⟨i, A, B, C, q1, rfl, q3, q4⟩ := inn_get hin hsome
    have hmv : mmv ids es k = .map (some i) := by unfold mmv; rw [q1]; rfl
    rw [hmv] at hp
    obtain ⟨arr, clock, rfl, hes⟩ := q3
    have hb : w.heap[i]? = some (.map arr clock) := hh.own (i, _) (by simp)
    have hlen : arr.size = ts.length := by
      have := congrArg List.length hes
      simpa using this
    simp [execOp, ho, resolve, hp.eval hf, invoke, builtin, Builtin.len_, run_underlying ht, MapKept.run_getObj_map hb, goInt, hlen]
theorem Ef.mkMM (ho : o.op = .makeMap t none) : Ef P w0 env x o (fun v x' => ∃ b, v = .map (some b) ∧ x' = ⟨x.m, hmm b [] [] :: x.l⟩) :=
  Ef.mk fun N f hf w hc => by
    obtain ⟨m', hm, L, hs, hp⟩ := hc
    refine ⟨.map (some w.heap.size), w.alloc (.map #[] 0), ⟨x.m, hmm w.heap.size [] [] :: x.l⟩, .inl ?_, ⟨_, rfl, rfl⟩, m', hm, (w.heap.size, .map #[] 0) :: L, ⟨[(w.heap.size, .map #[] 0)], L, rfl, ⟨[(w.heap.size, .map #[] 0)], [], rfl, ⟨#[], 0, rfl, rfl⟩, rfl⟩, hs⟩, hp.alloc rfl rfl rfl⟩
    simp [execOp, ho, Instr.makeMap]
end
end Go.Proofs.Ytcihfhfolofomaa.Sy
