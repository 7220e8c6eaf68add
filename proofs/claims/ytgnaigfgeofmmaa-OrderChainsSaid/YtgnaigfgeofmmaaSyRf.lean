/- A range over a function: the iterator's calls of yield, one round each (own lemmas over the kit's laws of the loop's record); no program in sight. -/
import Derived.Test.YtgnaigfgeofmmaaSyZ
import Derived.RangeFuncIn
import Derived.RangeFuncRecord
import Derived.RangeFuncLeaves
namespace Go.Proofs.Ytgnaigfgeofmmaa.Sy
open Go
set_option linter.unusedVariables false

/-- A block of the call's own, as it lies. -/
def hblk (b : Nat) (o : Obj) : HI := fun L => L = [(b, o)]

theorem cX_blk {w0 w : World} {x : SX} {p b : Nat} {o : Obj} (hc : cX w0 x w) (hl : x.l[p]? = some (hblk b o)) : w.heap[b]? = some o := by
  obtain ⟨m', L1, L2, L3, _, hit, hh, _⟩ := cX_at hc hl
  subst hit
  exact hh.own (b, _) (by simp)
theorem cX_putBlk {w0 w : World} {x : SX} {p b : Nat} {o : Obj} (o' : Obj) (hc : cX w0 x w) (hl : x.l[p]? = some (hblk b o)) : cX w0 ⟨x.m, x.l.set p (hblk b o')⟩ (w.putObj b o') := by
  obtain ⟨m', L1, L2, L3, hm, hit, hh, hset⟩ := cX_at hc hl
  subst hit
  have hb : w.heap[b]? = some o := hh.own (b, _) (by simp)
  have hlt : b < w.heap.size := (Array.getElem?_eq_some_iff.1 hb).1
  exact ⟨m', hm, _, hset (hblk b o') [(b, o')] rfl, hh.setObj (w' := w.putObj b o') rfl rfl (World.putObj_heap_same hlt) (fun k hk => World.putObj_heap_other hk)⟩
theorem at_tail {α : Type} (it : List α) (y : α) (l : List α) : (it ++ y :: l)[it.length]? = some y := by simp
theorem set_tail {α : Type} (it : List α) (y z : α) (l : List α) : (it ++ y :: l).set it.length z = it ++ z :: l := by simp
theorem cX_tail {w0 w : World} {m : Snap} {it l : List HI} {b : Nat} {o : Obj} (o' : Obj) (hc : cX w0 ⟨m, it ++ hblk b o :: l⟩ w) : cX w0 ⟨m, it ++ hblk b o' :: l⟩ (w.putObj b o') := by
  have := cX_putBlk (p := it.length) o' hc (at_tail it _ l)
  simp only [set_tail] at this
  exact this
theorem cX_tail_at {w0 w : World} {m : Snap} {it l : List HI} {b : Nat} {o : Obj} (hc : cX w0 ⟨m, it ++ hblk b o :: l⟩ w) : w.heap[b]? = some o := cX_blk hc (at_tail it _ l)
theorem cX_dropTail {w0 w : World} {m : Snap} {it l : List HI} {y : HI} (hc : cX w0 ⟨m, it ++ y :: l⟩ w) : cX w0 ⟨m, it ++ l⟩ w :=
  cX_sub (List.Sublist.append (List.Sublist.refl it) (.cons _ (.refl _))) hc

/-- One call of yield: one round. -/
def Yl (P : Program) (w0 : World) (tail : List HI) (L : Nat) (S : Nat → Snap → List HI → Prop) (vs : Nat → List Value) (len : Nat) : Prop :=
  ∀ j m it w, S j m it → j < len → cX w0 ⟨m, it ++ tail⟩ w → ∃ fn tmps assign body, (Instr.yield L (vs j).toArray).run P w = .ok (.round L fn tmps assign body) w ∧
    RoundIn Fence.wide 0 P L fn tmps assign body w fun e w' => e = .returned (.bool true) ∧ ∃ m' it', S (j + 1) m' it' ∧ cX w0 ⟨m', it' ++ tail⟩ w'

theorem Ef.yield {P : Program} {w0 : World} {tail : List HI} {L len : Nat} {S : Nat → Snap → List HI → Prop} {vs : Nat → List Value} (hY : Yl P w0 tail L S vs len) {j : Nat} {m : Snap} {it : List HI} (hS : S j m it) (hj : j < len)
    {env : Env} {o : Oper} {p : Operand} {args : List Operand} {ts : Array TypeId} (ho : o.op = .call { callee := .value p, args := args.toArray, argTypes := ts }) (hp : Ev env p (.func (.yield L) #[] #[])) (ha : EvL env args (vs j)) :
    Ef P w0 env ⟨m, it ++ tail⟩ o fun z x' => z = .bool true ∧ ∃ m' it', S (j + 1) m' it' ∧ x' = ⟨m', it' ++ tail⟩ := by
  intro N a hf w hc
  obtain ⟨fn, tmps, assign, body, h1, h2⟩ := hY j m it w hS hj hc
  unfold eff
  have h3 : (execOp a.eval o).run P w = .ok (.round L fn tmps assign body) w := by
    have := ha.eval hf
    simp [execOp, ho, resolve, hp.eval hf, Deferred.ofValue, invoke, this, h1]
  rw [h3]
  exact h2.mono fun e w' ⟨he, m', it', hs, hw⟩ => ⟨_, he, _, ⟨rfl, m', it', hs, rfl⟩, hw⟩

/-- How a round ends here: off its end. -/
def rdQ (w0 : World) (S' : Snap → List HI → Prop) (l : List HI) : Exit → Act → World → Prop
  | .normal, _, w => ∃ m' it', S' m' it' ∧ cX w0 ⟨m', it' ++ l⟩ w
  | _, _, _ => False
theorem NX.rd {w0 : World} {N : Nat} {S' : Snap → List HI → Prop} {l : List HI} {env : Env} {m : Snap} {it : List HI} (h : S' m it) : NX w0 N (rdQ w0 S' l) env ⟨m, it ++ l⟩ := fun _ _ _ hc => ⟨m, it, h, hc⟩

theorem put2 {tmps : Array Value} {p1 p2 : Nat} {v1 v2 : Value} : ((#[p1, p2] : Array Tmp).zip #[v1, v2]).foldl (fun tmps (t, a) => tmps.setIfInBounds t a) tmps = (tmps.setIfInBounds p1 v1).setIfInBounds p2 v2 := by simp

section
variable {P : Program} {w0 : World}
/-- The loop, the iterator's law given. -/
theorem Tr.rangeFunc2 {Q : Exit → Act → World → Prop} {env : Env} {m0 : Snap} {it0 l : List HI} {sz g k p1 p2 : Nat} {caps : List Value} {assign body : Code} (S : Nat → Snap → List HI → Prop) (vs : Nat → Value × Value) (len : Nat) (env1 : Nat → Env)
    (hsz : sz < 4096) (hp1 : p1 < sz) (hp2 : p2 < sz) (hg : lk env g = some (.func (.func k) #[] caps.toArray))
    {fn : Func} (hf : P.funcs[k]? = some fn) (hn : (fn.name == "runtime.NumGoroutine") = false) (hb : fn.body.isNone = false)
    (hit : ∀ tail L, Yl P w0 tail L S (fun j => [(vs j).1, (vs j).2]) len → ∀ m it, S 0 m it → ∀ w, cX w0 ⟨m, it ++ tail⟩ w → Calls P k (.func (.yield L) #[] #[] :: caps).toArray w fun e w' => (∃ v, e = .returned v) ∧ ∃ m' it', S len m' it' ∧ cX w0 ⟨m', it' ++ tail⟩ w')
    (h0 : S 0 m0 it0)
    (hassign : ∀ j x, Tr P w0 sz assign (fun e a w => e = .normal ∧ Fr sz (env1 j) a ∧ cX w0 x w) ((p2, (vs j).2) :: (p1, (vs j).1) :: env) x)
    (hbody : ∀ j m it l, j < len → S j m it → Tr P w0 sz body (rdQ w0 (S (j + 1)) l) (env1 j) ⟨m, it ++ l⟩)
    (done : ∀ D m it, S len m it → NX w0 (sz + 4096 * (D + 2)) Q env ⟨m, it ++ hblk D (.deferred (some [])) :: l⟩) :
    Tr P w0 (sz + 4096) (.rangeFunc (.tmp g) #[p1, p2] assign body) Q env ⟨m0, it0 ++ l⟩ := by
  intro a w hfr hc r hr
  have hr0 : r = none := by
    rcases hr with h | h
    · omega
    · exact h
  subst hr0
  have hs1 : szs (sz + 4096) = sz := by unfold szs; omega
  have hd1 : dfs (sz + 4096) = [] := by unfold dfs; rw [if_pos (by omega)]
  have hss : szs sz = sz := by unfold szs; omega
  have hds : dfs sz = [] := by unfold dfs; rw [if_pos (by omega)]
  have hfn' : fn.name ≠ "runtime.NumGoroutine" := by simpa using hn
  have hb' : fn.body ≠ none := by intro h; rw [h] at hb; cases hb
  have hgv : a.eval (.tmp g) = .func (.func k) #[] caps.toArray := hfr.eval_tmp hg
  refine wpIn_rangeFunc fun fnid _ => ?_
  obtain ⟨D, hD⟩ : ∃ D, D = w.heap.size := ⟨_, rfl⟩
  obtain ⟨rec, hrec⟩ : ∃ rec : LoopState → Option Code → Loop, rec = fun st pe => { state := st, pending := pe, fn := fnid, tmps := a.tmps, params := #[p1, p2], assign, body, defers := D } := ⟨_, rfl⟩
  have hc1 : cX w0 ⟨m0, hblk D (.deferred (some [])) :: (it0 ++ l)⟩ (w.alloc (.deferred (some []))) := cX_alloc hc rfl rfl rfl (by rw [hD]; rfl)
  have hc2 : cX w0 ⟨m0, hblk (D + 1) (.loop (rec .ready none)) :: hblk D (.deferred (some [])) :: (it0 ++ l)⟩ ((w.alloc (.deferred (some []))).alloc (.loop (rec .ready none))) := by
    have := cX_alloc (it := hblk (D + 1) (.loop (rec .ready none))) hc1 (w' := (w.alloc (.deferred (some []))).alloc (.loop (rec .ready none))) rfl rfl rfl (by rw [hD, World.size_alloc]; rfl)
    exact this
  obtain ⟨tail, htail⟩ : ∃ t, t = hblk (D + 1) (.loop (rec .ready none)) :: hblk D (.deferred (some [])) :: l := ⟨_, rfl⟩
  have hc3 : cX w0 ⟨m0, it0 ++ tail⟩ ((w.alloc (.deferred (some []))).alloc (.loop (rec .ready none))) := by
    rw [htail]
    obtain ⟨m', hm, L, hs, hh⟩ := hc2
    obtain ⟨A, R1, rfl, hA, B, R2, rfl, hB, hs3⟩ := hs
    obtain ⟨C, E, rfl, hC, hE⟩ := hs3.split
    refine ⟨m', hm, C ++ (A ++ (B ++ E)), hC.join ⟨A, B ++ E, rfl, hA, B, E, rfl, hB, hE⟩, ?_⟩
    have hperm : (A ++ (B ++ (C ++ E))).Perm (C ++ (A ++ (B ++ E))) := by
      have h1 : (A ++ (B ++ (C ++ E))).Perm ((A ++ B) ++ (C ++ E)) := by rw [List.append_assoc]
      have h2 : ((A ++ B) ++ (C ++ E)).Perm (C ++ ((A ++ B) ++ E)) := by
        rw [← List.append_assoc (A ++ B) C E, ← List.append_assoc C (A ++ B) E]
        exact List.Perm.append_right E List.perm_append_comm
      exact h1.trans (by simpa only [List.append_assoc] using h2)
    exact ⟨hh.os, hh.out, hh.imm, fun p hp => hh.own p (hperm.mem_iff.2 hp), fun p hp => hh.sep p (hperm.mem_iff.2 hp), (hperm.map Prod.fst).nodup_iff.1 hh.nd⟩
  -- one round
  have hY : Yl P w0 tail (D + 1) S (fun j => [(vs j).1, (vs j).2]) len := by
    intro j m it W hS hj hW
    rw [htail] at hW
    have hL := cX_tail_at hW
    have hy := run_yield (P := P) (args := #[(vs j).1, (vs j).2]) hL (by rw [hrec]; rfl)
    refine ⟨_, _, _, _, hy, ?_⟩
    have e1 : (rec .ready none).assign = assign := by rw [hrec]
    have e2 : (rec .ready none).body = body := by rw [hrec]
    have e3 : (rec .ready none).params = #[p1, p2] := by rw [hrec]
    have e4 : (rec .ready none).tmps = a.tmps := by rw [hrec]
    rw [e1, e2, e3, e4, put2]
    refine roundIn_of_wpIn trivial ?_
    have hfr1 : Fr sz ((p2, (vs j).2) :: (p1, (vs j).1) :: env) { tmps := (a.tmps.setIfInBounds p1 (vs j).1).setIfInBounds p2 (vs j).2, defers := [] } := by
      have hb0 : Fr sz env { tmps := a.tmps, defers := [] } := ⟨hds.symm, by rw [hss]; exact hfr.sz.trans hs1, hfr.ev⟩
      exact (hb0.put (by rw [hss]; exact hp1) (vs j).1).put (by rw [hss]; exact hp2) (vs j).2
    refine wpIn_mono (hassign j ⟨m, it ++ hblk (D + 1) (.loop (rec .ready none)) :: hblk D (.deferred (some [])) :: l⟩ _ _ hfr1 hW (some (D + 1)) (.inl hsz)) ?_
    rintro e a1 W1 ⟨rfl, hfr2, hW1⟩
    have hL1 := cX_tail_at hW1
    refine ⟨_, run_beginRound hL1 (by rw [hrec]), ?_⟩
    have hW2 := cX_tail (.loop { (rec .ready none) with state := .busy }) hW1
    refine wpIn_mono (hbody j m it _ hj hS _ _ hfr2 hW2 (some (D + 1)) (.inl hsz)) ?_
    rintro e a2 W3 hq
    cases e with
    | normal =>
      obtain ⟨m', it', hS', hW3⟩ := hq
      have hL3 := cX_tail_at hW3
      refine ⟨_, _, run_endRound none hL3, rfl, m', it', hS', ?_⟩
      have hW4 := cX_tail (.loop { ({ (rec .ready none) with state := .busy } : Loop) with state := .ready, pending := none }) hW3
      have e5 : ({ ({ (rec .ready none) with state := .busy } : Loop) with state := .ready, pending := none } : Loop) = rec .ready none := by rw [hrec]
      rw [e5] at hW4
      rw [htail]
      have e6 : (Obj.loop { ({ (rec .ready none) with state := .busy } : Loop) with state := (if (none : Option Code).isNone then .ready else .done), pending := none }) = .loop (rec .ready none) := by rw [hrec]; rfl
      rw [e6]
      exact hW4
    | exit id => exact hq.elim
    | goto t => exact hq.elim
    | ret => exact hq.elim
    | panic ch => exact hq.elim
    | outgrown => exact hq.elim
  have hcall := hit tail (D + 1) hY m0 it0 h0 _ hc3
  refine ⟨D + 1, [{ target := .collected D, args := #[] }], (w.alloc (.deferred (some []))).alloc (.loop (rec .ready none)), { target := .fn (.func k) caps.toArray, args := #[.func (.yield (D + 1)) #[] #[]] }, (w.alloc (.deferred (some []))).alloc (.loop (rec .ready none)), k, (Value.func (.yield (D + 1)) #[] #[] :: caps).toArray, (w.alloc (.deferred (some []))).alloc (.loop (rec .ready none)), ?_, ?_, fun _ _ => trivial, ?_, fun h => (by cases h), callsIn_wide.2 (hcall.mono ?_)⟩
  · rw [hrec, hD]
    exact run_enterLoop_outer _ _ _ _ _
  · simp only [resolve, hgv]
    simp [go_sem]
  · simp [invoke, callFunc, hf, hfn', hb', go_sem]
  · rintro e W ⟨⟨v, rfl⟩, m', it', hS', hW⟩
    rw [htail] at hW
    have hL := cX_tail_at hW
    refine ⟨none, W.putObj (D + 1) (.loop { (rec .ready none) with state := .exhausted }), ?_, ?_⟩
    · have := run_endLoop (P := P) hL (by rw [hrec]; simp)
      rw [hrec] at this ⊢
      exact this
    · have hW2 := cX_dropTail (cX_tail (.loop { (rec .ready none) with state := .exhausted }) hW)
      have e7 : szs (sz + 4096 * (D + 2)) = sz := by unfold szs; omega
      have e8 : dfs (sz + 4096 * (D + 2)) = [{ target := .collected D, args := #[] }] := by
        unfold dfs
        rw [if_neg (by omega)]
        have : (sz + 4096 * (D + 2)) / 4096 - 2 = D := by omega
        rw [this]
      refine done D m' it' hS' _ _ ⟨?_, by rw [e7]; exact hfr.sz.trans hs1, hfr.ev⟩ ?_
      · rw [e8, hfr.df, hd1]; rfl
      · rw [hrec] at hW2 ⊢
        exact hW2

/-! ### A body that holds such a loop -/
theorem calls_of_TrM {N : Nat} {f : FuncId} {fn : Func} {c : Code} {args : List Value} {x : SX} {w : World} {R : Ending → World → Prop} (hf : P.funcs[f]? = some fn) (hb : fn.body = some c)
    (hx : cX w0 x w) (hN : fn.ntmps = szs N) (hle : args.length ≤ szs N)
    (h : Tr P w0 N c (bodyPostM Fence.wide 0 P fn R) ((List.range args.length).zip args) x) (hd : dfs N = [] := by rfl) : Calls P f args.toArray w R := by
  refine callsIn_wide.1 (callsIn_of_wp_marks (F := Fence.wide) (n := 0) hf hb trivial (h _ w ⟨hd.symm, by simp [hN]; omega, ?_⟩ hx none (.inr rfl)))
  intro s v hs
  have key : ∀ (l : List Value) (k : Nat), lk ((List.range' k l.length).zip l) s = some v → k ≤ s ∧ l[s - k]? = some v := by
    intro l
    induction l with
    | nil => intro k h; simp [lk] at h
    | cons u l ih =>
      intro k h
      simp only [List.length_cons, List.range'_succ, List.zip_cons_cons] at h
      rw [lk_cons] at h
      by_cases e : k = s
      · subst e
        simp only [if_true, Option.some.injEq] at h
        simp [h]
      · simp only [e, if_false] at h
        obtain ⟨h1, h2⟩ := ih (k + 1) h
        refine ⟨by omega, ?_⟩
        rw [show s - k = (s - (k + 1)) + 1 by omega, List.getElem?_cons_succ]
        exact h2
  have := key args 0 (by rw [← List.range_eq_range']; exact hs)
  have h2 := this.2
  simp only [Nat.sub_zero] at h2
  have hlt : s < args.length := (List.getElem?_eq_some_iff.1 h2).1
  rw [Array.getElem?_append_left (by simpa using hlt)]
  simpa using h2
theorem res2M {N : Nat} {env : Env} {x : SX} {fn : Func} {t1 t2 : Nat} {R : Ending → World → Prop} {v1 v2 : Value} (hr : fn.results = #[.tmp t1, .tmp t2]) (h1 : lk env t1 = some v1) (h2 : lk env t2 = some v2) (h : ∀ w, cX w0 x w → R (.returned (.tuple #[v1, v2])) w) (hd : dfs N = [] := by rfl) : RT w0 N (bodyPostM Fence.wide 0 P fn R) env x := by
  intro a w hf hc
  show LeavesInM Fence.wide 0 P fn a.tmps R a.defers .returning w
  rw [hf.df, hd]
  refine ⟨_, ?_, h w hc⟩
  simp [results, hr, hf.ev _ _ h1, hf.ev _ _ h2]
theorem dfs_mark {sz D : Nat} (h : sz < 4096) : dfs (sz + 4096 * (D + 2)) = [{ target := .collected D, args := #[] }] := by
  unfold dfs
  rw [if_neg (by omega)]
  have : (sz + 4096 * (D + 2)) / 4096 - 2 = D := by omega
  rw [this]
theorem szs_mark {sz D : Nat} (h : sz < 4096) : szs (sz + 4096 * (D + 2)) = sz := by unfold szs; omega
theorem NX.thenD {sz D : Nat} {c : Code} {Q Q' : Exit → Act → World → Prop} {env : Env} {x : SX} (hsz : sz < 4096) (h : Tr P w0 (sz + 4096 * (D + 2)) c Q env x) : NX w0 (sz + 4096 * (D + 2)) (Exit.then (wpR (sz + 4096) P c Q) Q') env x := fun a w hf hc r hr => by
  refine h a w hf hc r ?_
  rcases hr with hr | hr
  · omega
  · exact .inr hr
theorem res2D {sz D p : Nat} {env : Env} {x : SX} {fn : Func} {t1 t2 : Nat} {R : Ending → World → Prop} {v1 v2 : Value} (hsz : sz < 4096) (hp : x.l[p]? = some (hblk D (.deferred (some [])))) (hr : fn.results = #[.tmp t1, .tmp t2]) (h1 : lk env t1 = some v1) (h2 : lk env t2 = some v2) (h : ∀ w, cX w0 ⟨x.m, x.l.eraseIdx p⟩ w → R (.returned (.tuple #[v1, v2])) w) : RT w0 (sz + 4096 * (D + 2)) (bodyPostM Fence.wide 0 P fn R) env x := by
  intro a w hf hc
  show LeavesInM Fence.wide 0 P fn a.tmps R a.defers .returning w
  rw [hf.df, dfs_mark hsz]
  refine ⟨by simp, .inl ⟨D, _, rfl, run_takeDeferred (cX_blk hc hp), ?_⟩⟩
  have hc2 := cX_putBlk (.deferred none) hc hp
  have hlt : p < x.l.length := (List.getElem?_eq_some_iff.1 hp).1
  have hc3 : cX w0 ⟨x.m, x.l.eraseIdx p⟩ (w.putObj D (.deferred none)) := by
    refine cX_sub ?_ hc2
    have : x.l.eraseIdx p = (x.l.set p (hblk D (.deferred none))).eraseIdx p := by
      rw [List.eraseIdx_eq_take_drop_succ, List.eraseIdx_eq_take_drop_succ, List.take_set_of_le (Nat.le_refl p), List.drop_set_of_lt (by omega)]
    rw [this]
    exact List.eraseIdx_sublist _ _
  refine ⟨_, ?_, h _ hc3⟩
  simp [results, hr, hf.ev _ _ h1, hf.ev _ _ h2]
end
end Go.Proofs.Ytgnaigfgeofmmaa.Sy
