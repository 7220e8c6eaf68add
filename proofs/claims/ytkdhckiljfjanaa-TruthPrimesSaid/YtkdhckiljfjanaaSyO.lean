/- A part of memory brought to the front, and put back (own lemmas); no program in sight. -/
import Derived.Test.YtkdhckiljfjanaaSyN
namespace Go.Proofs.Ytkdhckiljfjanaa.Sy
open Go

theorem Sat.front : ∀ {l : List HI} {L : Part} {p : Nat} {it : HI}, Sat l L → l[p]? = some it → ∃ L1 L2 L3, L = L1 ++ L2 ++ L3 ∧ it L2 ∧ Sat (l.eraseIdx p) (L1 ++ L3)
  | a :: l, L, 0, it, h, hl => by
    obtain ⟨L1, L2, rfl, h1, h2⟩ := h
    have : a = it := by simpa using hl
    subst this
    exact ⟨[], L1, L2, rfl, h1, h2⟩
  | a :: l, L, p + 1, it, h, hl => by
    obtain ⟨A, B, rfl, h1, h2⟩ := h
    obtain ⟨L1, L2, L3, rfl, h3, h4⟩ := Sat.front h2 (show l[p]? = some it by simpa using hl)
    exact ⟨A ++ L1, L2, L3, by simp, h3, A, L1 ++ L3, by simp, h1, h4⟩
theorem Sat.back : ∀ {l : List HI} {p : Nat} {it it' : HI} {M N : Part}, l[p]? = some it → Sat (l.eraseIdx p) M → it' N → ∃ M1 M3, M = M1 ++ M3 ∧ Sat (l.set p it') (M1 ++ N ++ M3)
  | a :: l, 0, it, it', M, N, hl, h, hN => ⟨[], M, rfl, N, M, rfl, hN, h⟩
  | a :: l, p + 1, it, it', M, N, hl, h, hN => by
    obtain ⟨A, B, rfl, h1, h2⟩ := h
    obtain ⟨M1, M3, rfl, h3⟩ := Sat.back (show l[p]? = some it by simpa using hl) h2 hN
    exact ⟨A ++ M1, M3, by simp, A, M1 ++ N ++ M3, by simp, h1, h3⟩
theorem cX_front {w0 w : World} {m : Snap} {l : List HI} {p : Nat} {it : HI} (hc : cX w0 ⟨m, l⟩ w) (hl : l[p]? = some it) : cX w0 ⟨m, it :: l.eraseIdx p⟩ w := by
  obtain ⟨m', hm, L, hs, hp⟩ := hc
  obtain ⟨L1, L2, L3, rfl, h1, h2⟩ := Sat.front hs hl
  refine ⟨m', hm, L2 ++ (L1 ++ L3), ⟨L2, L1 ++ L3, rfl, h1, h2⟩, hp.perm ?_⟩
  rw [← List.append_assoc]
  exact List.Perm.append_right _ List.perm_append_comm
theorem cX_back {w0 w : World} {m : Snap} {l : List HI} {p : Nat} {it it' : HI} (hc : cX w0 ⟨m, it' :: l.eraseIdx p⟩ w) (hl : l[p]? = some it) : cX w0 ⟨m, l.set p it'⟩ w := by
  obtain ⟨m', hm, L, ⟨N, M, rfl, h1, h2⟩, hp⟩ := hc
  obtain ⟨M1, M3, rfl, h3⟩ := Sat.back hl h2 h1
  refine ⟨m', hm, M1 ++ N ++ M3, h3, hp.perm ?_⟩
  rw [← List.append_assoc]
  exact List.Perm.append_right _ List.perm_append_comm
/-- A slice's value is one cell. -/
theorem RS.cells1 {α : Type} {R : Rp α} {m : Snap} {v : Value} {xs : List α} (h : RS R m v xs) : v.cells = [v].toArray := by
  obtain ⟨⟨a, cap, rfl, _⟩, _⟩ := h
  rfl
theorem RS.all1 {α : Type} {R : Rp α} {m : Snap} {v : Value} {xs : List α} (h : RS R m v xs) : [v].all Value.oneCell' = true := by
  obtain ⟨⟨a, cap, rfl, _⟩, _⟩ := h
  rfl

/-! ### All that is owned, lent at once -/
def lkL : Part → Nat → Option Obj
  | [], _ => none
  | q :: r, k => if q.1 = k then some q.2 else lkL r k
theorem lkL_some : ∀ {L : Part} {k : Nat} {o : Obj}, lkL L k = some o → (k, o) ∈ L
  | q :: r, k, o, h => by
    unfold lkL at h
    split at h
    · rename_i e; subst e; cases h; simp
    · exact List.mem_cons_of_mem _ (lkL_some h)
theorem lkL_mem : ∀ {L : Part} {q : Nat × Obj}, (L.map Prod.fst).Nodup → q ∈ L → lkL L q.1 = some q.2
  | p :: r, q, hn, h => by
    rw [List.map_cons, List.nodup_cons] at hn
    unfold lkL
    rcases List.mem_cons.1 h with rfl | h
    · rw [if_pos rfl]
    · rw [if_neg (fun (e : p.1 = q.1) => hn.1 (List.mem_map.2 ⟨q, h, e.symm⟩))]
      exact lkL_mem hn.2 h
theorem lkL_none {L : Part} {k : Nat} (h : ∀ q ∈ L, q.1 ≠ k) : lkL L k = none := by
  cases e : lkL L k with
  | none => rfl
  | some o => exact absurd rfl (h _ (lkL_some e))
theorem cX_lendAll {w0 w : World} {m : Snap} {l : List HI} (hc : cX w0 ⟨m, l⟩ w) :
    ∃ m2, Sle m m2 ∧ (∃ L, Sat l L ∧ ∀ q ∈ L, m2 q.1 = some q.2) ∧ cX w0 ⟨m2, []⟩ w ∧ ∀ A w', cX w0 ⟨m2, A⟩ w' → cX w0 ⟨m, A ++ l⟩ w' := by
  obtain ⟨m', hm, L, hs, hp⟩ := hc
  have hdis : ∀ k o, m' k = some o → lkL L k = none := fun k o h => lkL_none fun q hq e => by
    have := hp.sep q hq
    rw [e, h] at this; cases this
  refine ⟨fun k => (lkL L k).or (m' k), fun k o h => ?_, ⟨L, hs, fun q hq => ?_⟩, ⟨_, .refl _, [], rfl, hp.os, hp.out, fun k o h => ?_, by simp, by simp, by simp⟩, ?_⟩
  · show (lkL L k).or (m' k) = some o
    rw [hdis k o (hm _ _ h)]; exact hm _ _ h
  · show (lkL L q.1).or _ = _
    rw [lkL_mem hp.nd hq]; rfl
  · simp only at h
    cases e : lkL L k with
    | none => rw [e] at h; exact hp.imm _ _ h
    | some o' => rw [e] at h; cases h; exact hp.own _ (lkL_some e)
  · rintro A w' ⟨m3, h3, LA, hA, hp'⟩
    have hin : ∀ q ∈ L, m3 q.1 = some q.2 := fun q hq => h3 _ _ (by
      show (lkL L q.1).or _ = _
      rw [lkL_mem hp.nd hq]; rfl)
    refine ⟨fun k => if (lkL L k).isSome then none else m3 k, fun k o h => ?_, LA ++ L, hA.join hs, hp'.os, hp'.out, fun k o h => ?_, fun q hq => ?_, fun q hq => ?_, ?_⟩
    · have h' := hm _ _ h
      simp only [hdis k o h', Option.isSome_none, Bool.false_eq_true, if_false]
      exact h3 _ _ (by show (lkL L k).or _ = _; rw [hdis k o h']; exact h')
    · change (if (lkL L k).isSome then none else m3 k) = some o at h
      split at h
      · cases h
      · exact hp'.imm _ _ h
    · rcases List.mem_append.1 hq with hq | hq
      · exact hp'.own q hq
      · exact hp'.imm _ _ (hin q hq)
    · rcases List.mem_append.1 hq with hq | hq
      · show (if (lkL L q.1).isSome then none else m3 q.1) = none
        split
        · rfl
        · exact hp'.sep q hq
      · show (if (lkL L q.1).isSome then none else m3 q.1) = none
        rw [lkL_mem hp.nd hq]; rfl
    · rw [List.map_append, List.nodup_append]
      refine ⟨hp'.nd, hp.nd, fun a ha b hb e => ?_⟩
      obtain ⟨q, hq, rfl⟩ := List.mem_map.1 ha
      obtain ⟨q', hq', rfl⟩ := List.mem_map.1 hb
      have h1 := hp'.sep q hq
      rw [e, hin q' hq'] at h1; cases h1
/-- What holds of one of the parts. -/
theorem lent_at {l : List HI} {m2 : Snap} {p : Nat} {it : HI} (h : ∃ L, Sat l L ∧ ∀ q ∈ L, m2 q.1 = some q.2) (hl : l[p]? = some it) : ∃ L2, it L2 ∧ ∀ q ∈ L2, m2 q.1 = some q.2 := by
  obtain ⟨L, hs, hm⟩ := h
  obtain ⟨L1, L2, L3, rfl, hit, _⟩ := hs.at hl
  exact ⟨L2, hit, fun q hq => hm q (by simp [hq])⟩

/-! ### Slices in structs -/
/-- In every world of the class the value is a slice. -/
def Sl (w0 : World) (x : SX) (u : Value) : Prop := ∀ x' w, leX x x' → cX w0 x' w → ∃ a k c, u = .slice a k c
theorem Sl.ro {α : Type} {R : Rp α} {m : Snap} {xs : List α} {w0 : World} {x : SX} {u : Value} (h : RS R m u xs) : Sl w0 x u := fun _ _ _ _ => by
  obtain ⟨⟨a, cap, rfl, _⟩, _⟩ := h
  exact ⟨_, _, _, rfl⟩
theorem Sl.own {e : TypeId} {n k p : Nat} {cells : List Value} {w0 : World} {x : SX} {u : Value} (hl : x.l[p]? = some (hown e n u k cells)) : Sl w0 x u := fun x' w hx hc => by
  obtain ⟨p', hp'⟩ := hx.at hl
  obtain ⟨m', L1, L2, L3, hm, hit, hh, hset⟩ := cX_at hc hp'
  obtain ⟨a, cap, rfl⟩ := hown_slice hit
  exact ⟨_, _, _, rfl⟩
section
variable {P : Program} {w0 : World} {env : Env} {x : SX} {o : Oper}
theorem Yd.bld1 {t : TypeId} {parts : List (Nat × Operand)} {pvs : List (Nat × Value)} {cells : List Value} {z u : Value} {pls : List (Nat × Nat)} (hs : Sl w0 x u) (ho : o.op = .build t parts.toArray) (hz : (P.info? t).bind (·.zero) = some z) (hpl : plS P t = some pls)
    (hev : EvP env parts pvs) (hf : (∃ a k c, u = .slice a k c) → Instr.fill (pls.toArray[·]?) z.cells pvs = some cells.toArray) : Yd P w0 env x o (.agg cells.toArray) :=
  fun N a hg x' hx w hc => Yd.bld ho hz hpl hev (hf (hs x' w hx hc)) N a hg x' hx w hc
theorem Yd.bld2 {t : TypeId} {parts : List (Nat × Operand)} {pvs : List (Nat × Value)} {cells : List Value} {z u u2 : Value} {pls : List (Nat × Nat)} (hs : Sl w0 x u) (hs2 : Sl w0 x u2) (ho : o.op = .build t parts.toArray) (hz : (P.info? t).bind (·.zero) = some z) (hpl : plS P t = some pls)
    (hev : EvP env parts pvs) (hf : (∃ a k c, u = .slice a k c) → (∃ a k c, u2 = .slice a k c) → Instr.fill (pls.toArray[·]?) z.cells pvs = some cells.toArray) : Yd P w0 env x o (.agg cells.toArray) :=
  fun N a hg x' hx w hc => Yd.bld ho hz hpl hev (hf (hs x' w hx hc) (hs2 x' w hx hc)) N a hg x' hx w hc
theorem Yd.nilc {b k : Nat} {p : Operand} (ho : o.op = .nilCheck p) (hp : Ev env p (bp b k)) : Yd P w0 env x o (bp b k) :=
  Yd.pure fun N g hg w _ => by
    simp [execOp, ho, hp.eval hg, bp]
/-- A slice of the call's own, into a block of the call's own. -/
theorem Ef.stBo {b k pos pos2 kk n : Nat} {cs cs' cells : List Value} {T t e : TypeId} {u : Value} {p q : Operand} (h2 : x.l[pos2]? = some (hown e n u kk cells)) (hl : x.l[pos]? = some (hcells b cs T)) (ho : o.op = .store t p q) (hp : Ev env p (bp b k)) (hq : Ev env q u)
    (hn : (P.info? t).map (·.size) = some 1) (hk : k + 1 ≤ cs.length) (hcs : cs.take k ++ [u] ++ cs.drop (k + 1) = cs') :
    Ef P w0 env x o (fun v x' => v = undef ∧ x' = ⟨x.m, x.l.set pos (hcells b cs' T)⟩) := fun N a hf w hc => by
  obtain ⟨a', k', c, rfl⟩ := Sl.own (w0 := w0) h2 x w (leX_refl x) hc
  exact Ef.stB hl ho hp hq hn rfl rfl rfl hk hcs N a hf w hc
end

/-! ### Pointers to what is read -/
def Bk (m : Snap) (b : Nat) (T : TypeId) (cs : List Value) : Prop := m b = some (.cells cs.toArray T (0, 0))
theorem Bk.mono {m m' : Snap} {b : Nat} {T : TypeId} {cs : List Value} (hm : Sle m m') (h : Bk m b T cs) : Bk m' b T cs := hm _ _ h
theorem Bk.of {m : Snap} {b : Nat} {T : TypeId} {cs : List Value} (h : ∃ L2, hcells b cs T L2 ∧ ∀ q ∈ L2, m q.1 = some q.2) : Bk m b T cs := by
  obtain ⟨L2, hL, hm⟩ := h
  have e : L2 = [(b, .cells cs.toArray T (0, 0))] := hL
  subst e
  exact hm (b, .cells cs.toArray T (0, 0)) (by simp)
theorem cX_freezeP {w0 w : World} {m : Snap} {A l : List HI} (hc : cX w0 ⟨m, A ++ l⟩ w) :
    ∃ m2, Sle m m2 ∧ (∃ L, Sat A L ∧ ∀ q ∈ L, m2 q.1 = some q.2) ∧ cX w0 ⟨m2, l⟩ w := by
  obtain ⟨m', hm, L, hs, hp⟩ := hc
  obtain ⟨LA, Ll, rfl, hA, hl⟩ := Sat.split (show Sat (A ++ l) L from hs)
  have hnd := hp.nd
  rw [List.map_append, List.nodup_append] at hnd
  have hdis : ∀ k o, m' k = some o → lkL LA k = none := fun k o h => lkL_none fun q hq e => by
    have := hp.sep q (List.mem_append_left _ hq)
    rw [e, h] at this; cases this
  refine ⟨fun k => (lkL LA k).or (m' k), fun k o h => ?_, ⟨LA, hA, fun q hq => ?_⟩, _, .refl _, Ll, hl, hp.os, hp.out, fun k o h => ?_, fun q hq => hp.own q (List.mem_append_right _ hq), fun q hq => ?_, hnd.2.1⟩
  · show (lkL LA k).or (m' k) = some o
    rw [hdis k o (hm _ _ h)]; exact hm _ _ h
  · show (lkL LA q.1).or _ = _
    rw [lkL_mem hnd.1 hq]; rfl
  · change (lkL LA k).or (m' k) = some o at h
    cases e : lkL LA k with
    | none => rw [e] at h; exact hp.imm _ _ h
    | some o' => rw [e] at h; cases h; exact hp.own _ (List.mem_append_left _ (lkL_some e))
  · show (lkL LA q.1).or (m' q.1) = none
    rw [lkL_none fun q' hq' e => hnd.2.2 q'.1 (List.mem_map.2 ⟨q', hq', rfl⟩) q.1 (List.mem_map.2 ⟨q, hq, rfl⟩) e]
    exact hp.sep q (List.mem_append_right _ hq)
section
variable {P : Program} {w0 : World} {env : Env} {x : SX} {o : Oper}
theorem Yd.nilcP {b : Nat} {z : Value} {p : Operand} (hz : z = bp b 0) (ho : o.op = .nilCheck p) (hp : Ev env p z) : Yd P w0 env x o (bp b 0) := by
  subst hz; exact Yd.nilc ho hp
theorem Yd.ldK {b k : Nat} {T t : TypeId} {cs : List Value} {u : Value} {p : Operand} (h : Bk x.m b T cs) (hu : cs[k]? = some u) (ho : o.op = .load t p) (h1 : one P t = true) (hp : Ev env p (bp b k)) : Yd P w0 env x o u :=
  Yd.pure fun N f hf w hx => by
    obtain ⟨m', hm', L, _, hh⟩ := hx
    have hc' : cellM m' b k = some u := by
      unfold cellM
      rw [hm' _ _ h]
      simpa using hu
    have hr := run_load_one (P := P) h1 (cell_of_cellM hh hc')
    simp [execOp, ho, hp.eval hf, bp, hr]
end
end Go.Proofs.Ytkdhckiljfjanaa.Sy
