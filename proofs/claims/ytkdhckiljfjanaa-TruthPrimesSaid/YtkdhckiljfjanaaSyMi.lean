/- Ranges over a map of the call's own: whichever entry comes next (own lemmas); a loop over all orders, plainly; no program in sight. -/
import Derived.Test.YtkdhckiljfjanaaSyMp
import Derived.Maps.RangeRun
namespace Go.Proofs.Ytkdhckiljfjanaa.Sy
set_option linter.unusedVariables false

/-! ### A loop in whatever order, plainly: one result, or none -/
section
variable {α σ R : Type} [DecidableEq R]
def allEq : List (Option R) → Option R
  | [] => none
  | [x] => x
  | x :: xs => if allEq xs = x then x else none
theorem allEq_some {l : List (Option R)} {r : R} (h : allEq l = some r) : ∀ x ∈ l, x = some r := by
  induction l with
  | nil => cases h
  | cons x xs ih =>
    cases xs with
    | nil => intro y hy; simp at hy; subst hy; exact h
    | cons z zs =>
      rw [allEq] at h
      · by_cases e : allEq (z :: zs) = x
        · rw [if_pos e] at h
          intro y hy
          rcases List.mem_cons.1 hy with rfl | hy
          · exact h
          · exact ih (e.trans h) y hy
        · rw [if_neg e] at h; cases h
      · simp
theorem allEq_of {l : List (Option R)} {r : R} (hne : l ≠ []) (h : ∀ x ∈ l, x = some r) : allEq l = some r := by
  induction l with
  | nil => exact absurd rfl hne
  | cons x xs ih =>
    cases xs with
    | nil => exact h x (by simp)
    | cons z zs =>
      rw [allEq]
      · rw [ih (by simp) (fun y hy => h y (List.mem_cons_of_mem _ hy)), h x (by simp), if_pos rfl]
      · simp
/-- Whichever of l comes next. -/
def anyK (body : α → σ → (σ → Option R) → Option R) (k : σ → Option R) : Nat → List α → σ → Option R
  | 0, _, s => k s
  | n + 1, l, s => allEq ((List.range l.length).map fun j => (l[j]?).bind fun y => body y s fun s' => anyK body k n (l.eraseIdx j) s')
theorem anyK_pick {body : α → σ → (σ → Option R) → Option R} {k : σ → Option R} {n : Nat} {l : List α} {s : σ} {r : R} (h : anyK body k (n + 1) l s = some r) {j : Nat} {y : α} (hj : l[j]? = some y) :
    ∃ nx : σ → Option R, (∀ s', nx s' = anyK body k n (l.eraseIdx j) s') ∧ body y s nx = some r := by
  refine ⟨_, fun _ => rfl, ?_⟩
  have := allEq_some h ((l[j]?).bind fun y => body y s fun s' => anyK body k n (l.eraseIdx j) s') (List.mem_map.2 ⟨j, List.mem_range.2 (List.getElem?_eq_some_iff.1 hj).1, rfl⟩)
  rw [hj] at this
  exact this
theorem anyK_nil {body : α → σ → (σ → Option R) → Option R} {k : σ → Option R} {n : Nat} {l : List α} {s : σ} {r : R} (h : anyK body k n l s = some r) (hn : n = l.length) (hl : l = []) : k s = some r := by
  subst hl hn; exact h
theorem anyK_more {body : α → σ → (σ → Option R) → Option R} {k : σ → Option R} {n : Nat} {l : List α} {s : σ} {r : R} (h : anyK body k n l s = some r) (hn : n = l.length) {j : Nat} {y : α} (hj : l[j]? = some y) :
    ∃ nx : σ → Option R, (∀ s', nx s' = anyK body k (l.eraseIdx j).length (l.eraseIdx j) s') ∧ body y s nx = some r := by
  have hlt := (List.getElem?_eq_some_iff.1 hj).1
  have e : (l.eraseIdx j).length = n - 1 := by rw [List.length_eraseIdx, if_pos hlt, hn]
  obtain ⟨m, rfl⟩ : ∃ m, n = m + 1 := ⟨n - 1, by omega⟩
  rw [e]
  exact anyK_pick h hj
omit [DecidableEq R] in
theorem erase_lt {l : List α} {j n : Nat} {y : α} (hn : n = l.length) (hj : l[j]? = some y) : (l.eraseIdx j).length < n := by
  have hlt := (List.getElem?_eq_some_iff.1 hj).1
  rw [List.length_eraseIdx, if_pos hlt]; omega
theorem any_q {body : α → σ → (σ → Option R) → Option R} {k : σ → Option R} {r : R} (I : List α → σ → Prop) (st : ∀ l s j y nx, I l s → l[j]? = some y → (∀ s', I (l.eraseIdx j) s' → nx s' = some r) → body y s nx = some r) (hk : ∀ s, I [] s → k s = some r) :
    ∀ (n : Nat) (l : List α) (s : σ), l.length = n → I l s → anyK body k n l s = some r
  | 0, l, s, hn, hI => by
    have : l = [] := List.length_eq_zero_iff.1 hn
    subst this
    exact hk s hI
  | n + 1, l, s, hn, hI => by
    rw [anyK]
    refine allEq_of (by intro e; have := congrArg List.length e; simp [hn] at this) fun x hx => ?_
    obtain ⟨j, hj, rfl⟩ := List.mem_map.1 hx
    rw [List.mem_range] at hj
    rw [List.getElem?_eq_getElem hj]
    exact st l s j _ _ hI (List.getElem?_eq_getElem hj) fun s' hs' => any_q I st hk n _ s' (by rw [List.length_eraseIdx, if_pos hj]; omega) hs'
end

section
variable {κ ν : Type}
def zf (arr : Array MapEntry) (es : List (κ × ν)) (seen : Array Nat) : List (MapEntry × (κ × ν)) := (arr.toList.zip es).filter fun p => !seen.contains p.1.born
/-- A map and the iterator over it: what is left, what came last. -/
def hmapI (b r : Nat) (ek : κ → Value) (ev : ν → Value) (es left : List (κ × ν)) (cur : Option (κ × ν)) : HI := fun L =>
  ∃ (arr : Array MapEntry) (clock : Nat) (seen : Array Nat), L = [(b, .map arr clock), (r, .mapIter (some b) clock seen clock)] ∧ arr.toList.map (fun e => (e.key, e.val)) = (es.map fun p => (ek p.1, ev p.2)) ∧ Stm arr clock ∧
    left = (zf arr es seen).map (·.2) ∧ ∀ y, cur = some y → ∃ e ∈ arr.toList, ∃ s' : Array Nat, seen = s'.push e.born ∧ e.key = ek y.1 ∧ e.val = ev y.2

theorem eraseIdx_map' {α β : Type} (f : α → β) : ∀ (l : List α) (j : Nat), (l.map f).eraseIdx j = (l.eraseIdx j).map f
  | [], _ => rfl
  | a :: l, 0 => rfl
  | a :: l, j + 1 => by simp only [List.map_cons, List.eraseIdx_cons_succ, eraseIdx_map' f l j]
theorem erase_of {l : List (MapEntry × (κ × ν))} {j : Nat} {e : MapEntry} {y : κ × ν} (hnd : (l.map (·.1.born)).Nodup) (hj : l[j]? = some (e, y)) : l.filter (fun p => !(p.1.born == e.born)) = l.eraseIdx j := by
  induction l generalizing j with
  | nil => simp at hj
  | cons p l ih =>
    rw [List.map_cons, List.nodup_cons] at hnd
    cases j with
    | zero =>
      have hp : p = (e, y) := by simpa using hj
      subst hp
      rw [List.filter_cons_of_neg (by simp), List.eraseIdx_cons_zero]
      refine List.filter_eq_self.2 fun q hq => ?_
      have : q.1.born ≠ e.born := fun h => hnd.1 (List.mem_map.2 ⟨q, hq, h⟩)
      simpa using this
    | succ j =>
      have hj' : l[j]? = some (e, y) := by simpa using hj
      have hm : (e, y) ∈ l := List.mem_of_getElem? hj'
      have : p.1.born ≠ e.born := fun h => hnd.1 (by rw [h]; exact List.mem_map.2 ⟨(e, y), hm, rfl⟩)
      rw [List.filter_cons_of_pos (by simpa using this), List.eraseIdx_cons_succ, ih hnd.2 hj']
theorem zf_born {arr : Array MapEntry} {clock : Nat} {es : List (κ × ν)} {seen : Array Nat} (h : Stm arr clock) (hl : arr.toList.length = es.length) : ((zf arr es seen).map (·.1.born)).Nodup := by
  have h1 : ((arr.toList.zip es).map (·.1.born)).Nodup := by
    have e : (arr.toList.zip es).map (·.1.born) = ((arr.toList.zip es).map Prod.fst).map (·.born) := by simp [List.map_map, Function.comp_def]
    rw [e, List.map_fst_zip (by omega)]
    exact h.2
  exact ((List.filter_sublist).map _).nodup h1
theorem zf_push {arr : Array MapEntry} {es : List (κ × ν)} {seen : Array Nat} (s : Nat) : zf arr es (seen.push s) = (zf arr es seen).filter fun p => !(p.1.born == s) := by
  unfold zf
  rw [List.filter_filter]
  refine List.filter_congr fun p _ => ?_
  rw [Array.contains_push]
  cases seen.contains p.1.born <;> cases (p.1.born == s) <;> rfl
theorem zf_fst {arr : Array MapEntry} {es : List (κ × ν)} {seen : Array Nat} (hl : arr.toList.length = es.length) : (zf arr es seen).map Prod.fst = (leftOf arr seen).toList := by
  unfold zf leftOf
  rw [Array.toList_filter]
  have e : arr.toList.filter (fun e => !seen.contains e.born) = ((arr.toList.zip es).map Prod.fst).filter fun e => !seen.contains e.born := by
    rw [List.map_fst_zip (by omega)]
  rw [e, List.filter_map]
  rfl

variable {P : Program} {w0 : World} {env : Env} {x : SX} {o : Oper} {kt vt t : TypeId} {ek : κ → Value} {ev : ν → Value}
theorem Ef.mrange {pos b : Nat} {es : List (κ × ν)} {p : Operand} (hl : x.l[pos]? = some (hmap b ek ev es)) (ho : o.op = .range t p) (ht : P.underlying t = some (.map kt vt)) (hp : Ev env p (.map (some b))) :
    Ef P w0 env x o (fun v x' => ∃ r, v = bp r 0 ∧ x' = ⟨x.m, x.l.set pos (hmapI b r ek ev es es none)⟩) :=
  Ef.mk fun N f hf w hc => by
    obtain ⟨m', L1, L2, L3, hm, hit, hh, hset⟩ := cX_at hc hl
    obtain ⟨arr, clock, rfl, hes, hst⟩ := hit
    have hb : w.heap[b]? = some (.map arr clock) := hh.own (b, _) (by simp)
    have hlen : arr.toList.length = es.length := by have := congrArg List.length hes; simpa using this
    have hal := hh.alloc (w' := w.alloc (.mapIter (some b) clock #[] clock)) (o := .mapIter (some b) clock #[] clock) rfl rfl rfl
    refine ⟨bp w.heap.size 0, w.alloc (.mapIter (some b) clock #[] clock), _, .inl ?_, ⟨w.heap.size, rfl, rfl⟩, m', hm, _, hset (hmapI b w.heap.size ek ev es es none) [(b, .map arr clock), (w.heap.size, .mapIter (some b) clock #[] clock)] ⟨arr, clock, #[], rfl, hes, hst, ?_, fun y h => by cases h⟩, hal.perm ?_⟩
    · simp [execOp, ho, hp.eval hf, run_range_map w t kt vt b arr clock ht hb, bp]
    · unfold zf
      rw [List.filter_eq_self.2 (fun p _ => by simp), List.map_snd_zip (by omega)]
    · have : ((w.heap.size, Obj.mapIter (some b) clock #[] clock) :: ((L1 ++ [(b, Obj.map arr clock)]) ++ L3)).Perm ((L1 ++ [(b, Obj.map arr clock)]) ++ (w.heap.size, Obj.mapIter (some b) clock #[] clock) :: L3) := List.perm_middle.symm
      simpa using this
theorem next_nil {pos b r : Nat} {es left : List (κ × ν)} {cur : Option (κ × ν)} {p : Operand} (hl : x.l[pos]? = some (hmapI b r ek ev es left cur)) (ho : o.op = .next p false) (hp : Ev env p (bp r 0)) (hn : left = []) :
    Ef P w0 env x o (fun v x' => v = .tuple #[.bool false] ∧ x' = x) :=
  Ef.mk fun N f hf w hc => by
    obtain ⟨m', L1, L2, L3, hm, hit, hh, hset⟩ := cX_at hc hl
    obtain ⟨arr, clock, seen, rfl, hes, hst, hlf, hcur⟩ := hit
    have hb : w.heap[b]? = some (.map arr clock) := hh.own (b, _) (by simp)
    have hr : w.heap[r]? = some (.mapIter (some b) clock seen clock) := hh.own (r, _) (by simp)
    have hlen : arr.toList.length = es.length := by have := congrArg List.length hes; simpa using this
    have h0 : zf arr es seen = [] := List.map_eq_nil_iff.1 (hlf.symm.trans hn)
    have h1 : (leftOf arr seen).toList = [] := by rw [← zf_fst (es := es) hlen, h0]; rfl
    rcases run_next_at (P := P) w o.type r b clock clock seen arr clock hr hb hst.1 (Nat.le_refl _) with ⟨_, hrun⟩ | ⟨e, he, _⟩
    · refine ⟨_, w, _, .inl ?_, ⟨rfl, rfl⟩, hc⟩
      have hrun' : (Instr.next (bp r 0) false o.type).run P w = .ok (.tuple #[.bool false]) w := hrun
      simp [execOp, ho, hp.eval hf, hrun']
    · rw [h1] at he; cases he
theorem next_more {pos b r : Nat} {es left : List (κ × ν)} {cur : Option (κ × ν)} {p : Operand} (hl : x.l[pos]? = some (hmapI b r ek ev es left cur)) (ho : o.op = .next p false) (hp : Ev env p (bp r 0)) (hn : left ≠ []) :
    Ef P w0 env x o (fun v x' => ∃ j y, left[j]? = some y ∧ v = .tuple #[.bool true, ek y.1, ev y.2] ∧ x' = ⟨x.m, x.l.set pos (hmapI b r ek ev es (left.eraseIdx j) (some y))⟩) :=
  Ef.mk fun N f hf w hc => by
    obtain ⟨m', L1, L2, L3, hm, hit, hh, hset⟩ := cX_at hc hl
    obtain ⟨arr, clock, seen, rfl, hes, hst, hlf, hcur⟩ := hit
    have hb : w.heap[b]? = some (.map arr clock) := hh.own (b, _) (by simp)
    have hr : w.heap[r]? = some (.mapIter (some b) clock seen clock) := hh.own (r, _) (by simp)
    have hlen : arr.toList.length = es.length := by have := congrArg List.length hes; simpa using this
    rcases run_next_at (P := P) w o.type r b clock clock seen arr clock hr hb hst.1 (Nat.le_refl _) with ⟨h0, _⟩ | ⟨e, he, w1, hw1, hrun⟩
    · exfalso
      have h1 : (zf arr es seen).length = 0 := by
        have := congrArg List.length (zf_fst (seen := seen) hlen)
        rw [List.length_map] at this
        rw [this, Array.length_toList, h0]
      apply hn
      rw [hlf, List.length_eq_zero_iff.1 h1]; rfl
    · rw [← zf_fst (es := es) hlen] at he
      obtain ⟨q, hq, rfl⟩ := List.mem_map.1 he
      obtain ⟨e, y⟩ := q
      obtain ⟨j, hj⟩ := List.getElem?_of_mem hq
      have hmem : (e, y) ∈ arr.toList.zip es := (List.mem_filter.1 hq).1
      have hea : e ∈ arr.toList := (List.of_mem_zip hmem).1
      have hky : e.key = ek y.1 ∧ e.val = ev y.2 := by
        obtain ⟨i, hi⟩ := List.getElem?_of_mem hmem
        rw [List.getElem?_zip_eq_some] at hi
        have := congrArg (fun l : List (Value × Value) => l[i]?) hes
        simp only [List.getElem?_map, hi.1, hi.2, Option.map_some, Option.some.injEq, Prod.mk.injEq] at this
        exact this
      have hlj : left[j]? = some y := by rw [hlf, List.getElem?_map, hj]; rfl
      have hnew : left.eraseIdx j = (zf arr es (seen.push e.born)).map (·.2) := by
        rw [zf_push, erase_of (zf_born hst hlen) hj, hlf]
        exact eraseIdx_map' _ _ _
      have hhr : w1.heap = w.heap ∧ w1.os = w.os ∧ w1.output = w.output := by rcases hw1 with rfl | rfl <;> exact ⟨rfl, rfl, rfl⟩
      have hrlt : r < w.heap.size := (Array.getElem?_eq_some_iff.1 hr).1
      have hh' : Hp m' ((L1 ++ [(b, .map arr clock)]) ++ [(r, .mapIter (some b) clock seen clock)] ++ L3) w0 w := by simpa using hh
      have hs := hh'.setObj (w' := ChangeMaps.setBlock w1 r (.mapIter (some b) clock (seen.push e.born) clock)) (o' := .mapIter (some b) clock (seen.push e.born) clock) hhr.2.1 hhr.2.2 (by
        show (w1.heap.setIfInBounds r _)[r]? = _
        rw [hhr.1, Array.getElem?_setIfInBounds, if_pos rfl, if_pos hrlt]) (fun k hk => by
        show (w1.heap.setIfInBounds r _)[k]? = _
        rw [hhr.1, Array.getElem?_setIfInBounds, if_neg (fun h => hk h.symm)])
      refine ⟨_, _, _, .inl ?_, ⟨j, y, hlj, rfl, rfl⟩, m', hm, _, hset (hmapI b r ek ev es (left.eraseIdx j) (some y)) [(b, .map arr clock), (r, .mapIter (some b) clock (seen.push e.born) clock)] ⟨arr, clock, _, rfl, hes, hst, hnew, fun z hz => ?_⟩, by simpa using hs⟩
      · have hrun' : (Instr.next (bp r 0) false o.type).run P w = .ok (.tuple #[.bool true, e.key, e.val]) (ChangeMaps.setBlock w1 r (.mapIter (some b) clock (seen.push e.born) clock)) := hrun
        rw [hky.1, hky.2] at hrun'
        simp [execOp, ho, hp.eval hf, hrun']
      · cases hz
        exact ⟨e, hea, seen, rfl, hky⟩
theorem Yd.mentry {pos b r : Nat} {es left : List (κ × ν)} {y : κ × ν} {p : Operand} (hl : x.l[pos]? = some (hmapI b r ek ev es left (some y))) (ho : o.op = .entry p) (hp : Ev env p (bp r 0)) : Yd P w0 env x o (.tuple #[ek y.1, ev y.2]) :=
  Yd.pure fun N f hf w hc => by
    obtain ⟨m', L1, L2, L3, hm, hit, hh, hset⟩ := cX_at hc hl
    obtain ⟨arr, clock, seen, rfl, hes, hst, hlf, hcur⟩ := hit
    have hb : w.heap[b]? = some (.map arr clock) := hh.own (b, _) (by simp)
    have hr : w.heap[r]? = some (.mapIter (some b) clock seen clock) := hh.own (r, _) (by simp)
    obtain ⟨e, he, s', rfl, hk, hv⟩ := hcur y rfl
    have hrun := run_entry_at (P := P) w r b clock s' arr clock e hr hb he hst.2
    rw [hk, hv] at hrun
    have hrun' : (Instr.entry (bp r 0)).run P w = .ok (.tuple #[ek y.1, ev y.2]) w := hrun
    simp [execOp, ho, hp.eval hf, hrun']
theorem Yd.mlookI [DecidableEq κ] (K : MK P kt ek) {pos b r : Nat} {es left : List (κ × ν)} {cur : Option (κ × ν)} {p q : Operand} {k : κ} {d : ν} {nb : Nat × Nat} (hl : x.l[pos]? = some (hmapI b r ek ev es left cur)) (ho : o.op = .lookup t p q false) (ht : P.underlying t = some (.map kt vt)) (hI : (P.info? vt).map (fun i => (i.zero, i.size, i.bytes)) = some (some (ev d), nb))
    (hp : Ev env p (.map (some b))) (hq : Ev env q (ek k)) : Yd P w0 env x o (ev ((mget es k).getD d)) := by
  have key : Yd P w0 env x o (((mget es k).map ev).getD (ev d)) := Yd.pure fun N f hf w hc => by
    obtain ⟨m', L1, L2, L3, hm, hit, hh, hset⟩ := cX_at hc hl
    obtain ⟨arr, clock, seen, rfl, hes, hst, hlf, hcur⟩ := hit
    have hb : w.heap[b]? = some (.map arr clock) := hh.own (b, _) (by simp)
    obtain ⟨inf, hi, hz⟩ := Option.map_eq_some_iff.1 hI
    have hz' : inf.zero = some (ev d) := congrArg Prod.fst hz
    have hf' := K.find w k (es.map Prod.fst) arr.toList (keys_of hes)
    have hg := look_get (ek := ek) (ev := ev) k es arr.toList 0 hes
    rw [← hg]
    cases hlk : look k (es.map Prod.fst) arr.toList 0 with
    | none =>
      rw [hlk] at hf'
      simp [execOp, ho, hp.eval hf, hq.eval hf, Instr.lookup, run_underlying ht, MapKept.run_getObj_map hb, K.check, hf', zeroValue, typeInfo, hi, hz']
    | some j =>
      rw [hlk] at hf'
      simp [execOp, ho, hp.eval hf, hq.eval hf, Instr.lookup, run_underlying ht, MapKept.run_getObj_map hb, K.check, hf']
  cases h : mget es k <;> rw [h] at key <;> exact key
end
end Go.Proofs.Ytkdhckiljfjanaa.Sy
