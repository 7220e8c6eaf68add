/- A slice's block opened and shut, cut, grown by make, copied within one block: what slices.Insert and slices.Delete do (own lemmas); no program in sight. -/
import Derived.Test.YtkdhckiljfjanaaSyY
import Derived.Lib.AppendZerosOnto
namespace Go.Proofs.Ytkdhckiljfjanaa.Sy
open Go

theorem cX_openO {w0 w : World} {m : Snap} {l : List HI} {e : TypeId} {n k : Nat} {v : Value} {cells : List Value} (hc : cX w0 ⟨m, hown e n v k cells :: l⟩ w) :
    (v = .slice none 0 0 ∧ k = 0) ∨ ∃ b cap cs, v = .slice (some ⟨b, 0, none⟩) k cap ∧ k ≤ cap ∧ cap ≤ 9223372036854775807 ∧ cs.length = cap * n ∧ cs.take (k * n) = cells ∧ cX w0 ⟨m, hcells b cs e :: l⟩ w := by
  obtain ⟨m', hm, L, ⟨L1, L2, rfl, ⟨h0, h1⟩, h2⟩, hp⟩ := hc
  rcases h1 with ⟨rfl, hk, _⟩ | ⟨b, cap, cur, rfl, rfl, h3, h4, h5, h6⟩
  · exact .inl ⟨rfl, hk⟩
  · exact .inr ⟨b, cap, cur.toList, rfl, h3, h4, by simpa using h5, h6, m', hm, _, ⟨_, L2, rfl, by simp [hcells], h2⟩, hp⟩
theorem cX_shutO {w0 w : World} {m : Snap} {l : List HI} {e : TypeId} {n k b cap : Nat} {cs cells : List Value} (h1 : k ≤ cap) (h2 : cap ≤ 9223372036854775807) (h3 : cs.length = cap * n) (h4 : cs.take (k * n) = cells) (hc : cX w0 ⟨m, hcells b cs e :: l⟩ w) :
    cX w0 ⟨m, hown e n (.slice (some ⟨b, 0, none⟩) k cap) k cells :: l⟩ w := by
  obtain ⟨m', hm, L, ⟨L1, L2, rfl, h5, h6⟩, hp⟩ := hc
  have e5 : L1 = [(b, .cells cs.toArray e (0, 0))] := h5
  subst e5
  have hkn : k * n ≤ cap * n := Nat.mul_le_mul_right _ h1
  exact ⟨m', hm, _, ⟨_, L2, rfl, ⟨by rw [← h4, List.length_take]; omega, .inr ⟨b, cap, cs.toArray, rfl, rfl, h1, h2, by simpa using h3, by simpa using h4⟩⟩, h6⟩, hp⟩
theorem Tr.openO {P : Program} {w0 : World} {N : Nat} {c : Code} {Q : Exit → Act → World → Prop} {env : Env} {m : Snap} {l : List HI} {e : TypeId} {n k : Nat} {v : Value} {cells : List Value} (h0 : v = .slice none 0 0 → k = 0 → False)
    (h : ∀ b cap cs, v = .slice (some ⟨b, 0, none⟩) k cap → k ≤ cap → cap ≤ 9223372036854775807 → cs.length = cap * n → cs.take (k * n) = cells → Tr P w0 N c Q env ⟨m, hcells b cs e :: l⟩) : Tr P w0 N c Q env ⟨m, hown e n v k cells :: l⟩ := fun a w hf hc => by
  rcases cX_openO hc with ⟨h1, h2⟩ | ⟨b, cap, cs, h1, h2, h3, h4, h5, h6⟩
  · exact (h0 h1 h2).elim
  · exact h b cap cs h1 h2 h3 h4 h5 a w hf h6

section
variable {P : Program} {w0 : World} {env : Env} {x : SX} {o : Oper}
theorem Yd.addC {p q : Operand} {t t' : TypeId} {a b c : Int} (h : w64 (a + b) = c) (ho : o.op = .binOp .add t p q t') (hp : Ev env p (.int .i64 a)) (hq : Ev env q (.int .i64 b)) : Yd P w0 env x o (.int .i64 c) := by
  rw [← h]; exact Yd.add ho hp hq
theorem Yd.subC {p q : Operand} {t t' : TypeId} {a b c : Int} (h : w64 (a - b) = c) (ho : o.op = .binOp .sub t p q t') (hp : Ev env p (.int .i64 a)) (hq : Ev env q (.int .i64 b)) : Yd P w0 env x o (.int .i64 c) := by
  rw [← h]; exact Yd.sub ho hp hq
/-- s[lo:] -/
theorem Yd.slFC {t e : TypeId} {p q : Operand} {b o' k cap lo n : Nat} (hlo : lo ≤ k) (hk : k ≤ cap) (hlt : lo < cap) (ho : o.op = .slice t p (some q) none none) (ht : P.underlying t = some (.slice e)) (hi : (P.info? e).map (·.size) = some n)
    (hp : Ev env p (.slice (some ⟨b, o', none⟩) k cap)) (hq : Ev env q (.int .i64 (lo : Int))) : Yd P w0 env x o (.slice (some ⟨b, o' + lo * n, none⟩) (k - lo) (cap - lo)) :=
  Yd.pure fun N f hf w _ => by
    obtain ⟨inf, hi', hn⟩ := Option.map_eq_some_iff.1 hi
    have hb : (0 : Int) ≤ (lo : Int) ∧ (lo : Int) ≤ (k : Int) := by omega
    have hc2 : (0 : Int) ≤ (k : Int) ∧ (k : Int) ≤ (cap : Int) := by omega
    have hne : ¬ cap = lo := by omega
    simp [execOp, ho, hp.eval hf, hq.eval hf, Instr.sliceAt, Instr.slice, run_underlying ht, sizeOf, typeInfo, hi', Instr.sliceBounds, Instr.sliceBound, asIntOf, hn, hne, add_none]
    exact fun h => absurd h (by omega)
/-- s[:hi] -/
theorem Yd.slTC {t e : TypeId} {p q : Operand} {b o' k cap hi n : Nat} (hh : hi ≤ cap) (_hk : k ≤ cap) (ho : o.op = .slice t p none (some q) none) (ht : P.underlying t = some (.slice e)) (hi' : (P.info? e).map (·.size) = some n)
    (hp : Ev env p (.slice (some ⟨b, o', none⟩) k cap)) (hq : Ev env q (.int .i64 (hi : Int))) : Yd P w0 env x o (.slice (some ⟨b, o', none⟩) hi cap) :=
  Yd.pure fun N f hf w _ => by
    obtain ⟨inf, hi', hn⟩ := Option.map_eq_some_iff.1 hi'
    have hb : (0 : Int) ≤ (hi : Int) ∧ (hi : Int) ≤ (cap : Int) := by omega
    simp [execOp, ho, hp.eval hf, hq.eval hf, Instr.sliceAt, Instr.slice, run_underlying ht, sizeOf, typeInfo, hi', Instr.sliceBounds, Instr.sliceBound, asIntOf, add_none]
    exact fun h => absurd h (by omega)
/-- What a part of a block holds. -/
theorem Src.cells {b o' k c n pos : Nat} {cs : List Value} {T : TypeId} (hl : x.l[pos]? = some (hcells b cs T)) : Src w0 x (.slice (some ⟨b, o', none⟩) k c) k ((cs.drop o').take (k * n)) := by
  intro w hc
  obtain ⟨m', L1, L2, L3, _, hit, hh, _⟩ := cX_at hc hl
  subst hit
  refine ⟨_, _, rfl, .inr ⟨b, o', rfl, fun j u hu => ?_⟩⟩
  rw [hh.cell (b := b) (c := cs.toArray) (t := T) (fr := (0, 0)) (by simp)]
  rw [List.getElem?_take] at hu
  split at hu
  · rw [List.getElem?_drop] at hu
    simpa using hu
  · cases hu
/-- copy into a block. -/
theorem Ef.cpC {pos b o' dl dc mm n : Nat} {cs news cs' : List Value} {e t t' T : TypeId} {vs : Value} {p q : Operand} (hl : x.l[pos]? = some (hcells b cs T)) (h0 : 0 < Nat.min mm dl) (hfit : o' + Nat.min mm dl * n ≤ cs.length)
    (ho : o.op = .call { callee := .builtin .copy, args := #[p, q], argTypes := #[t, t'] }) (ht : P.underlying t = some (.slice e)) (hn : (P.info? e).map (·.size) = some n) (hp : Ev env p (.slice (some ⟨b, o', none⟩) dl dc)) (hq : Ev env q vs) (hs : Src w0 x vs mm news) (hnl : news.length = mm * n) (h1 : (news.take (Nat.min mm dl * n)).all Value.oneCell' = true)
    (hcs : cs.take o' ++ news.take (Nat.min mm dl * n) ++ cs.drop (o' + Nat.min mm dl * n) = cs') :
    Ef P w0 env x o (fun z x' => z = .int .i64 ((Nat.min mm dl : Nat) : Int) ∧ x' = ⟨x.m, x.l.set pos (hcells b cs' T)⟩) :=
  Ef.mk fun N f hf w hc => by
    obtain ⟨sa, sc, rfl, hsr⟩ := hs w hc
    obtain ⟨m', L1, L2, L3, hm, hit, hh, hset⟩ := cX_at hc hl
    subst hit
    have hb : w.heap[b]? = some (.cells cs.toArray T (0, 0)) := hh.own (b, _) (by simp)
    have hm1 : Nat.min mm dl ≤ mm := Nat.min_le_left _ _
    generalize hcnt : Nat.min mm dl = cnt at *
    rcases hsr with hz | ⟨sb, off, rfl, hcell⟩
    · omega
    · have hle : cnt * n ≤ mm * n := Nat.mul_le_mul_right _ hm1
      have hlen : (news.take (cnt * n)).length = cnt * n := by rw [List.length_take]; omega
      have hr := run_copy_gen (P := P) w t t' o.type e b o' dl dc ⟨sb, off, none⟩ mm sc cs.toArray T (news.take (cnt * n)) ht hn hb (by rw [hlen, hcnt]) (fun j u hu => by
        rw [add_none]
        refine hcell j u ?_
        rw [List.getElem?_take] at hu
        split at hu
        · exact hu
        · cases hu) (by rw [hlen]; simpa using hfit) (fun u hu => List.all_eq_true.1 h1 u hu)
      rw [hcnt, hlen] at hr
      refine ⟨.int .i64 (cnt : Int), _, _, .inl ?_, ⟨rfl, rfl⟩, m', hm, _, hset (hcells b cs' T) [(b, .cells cs'.toArray T (0, 0))] rfl,
        hh.setObj (w' := w.setRow b cs'.toArray) rfl rfl (setRow_heap w b _ _ T _ hb) (fun k hk => setRow_other' w b k _ hk)⟩
      rw [← hcs]
      simp [execOp, ho, resolve, hp.eval hf, hq.eval hf, invoke, builtin, hr, goInt]
/-- append of make onto a part of a block that has no room for it. -/
theorem Ef.apMkC {pos b i cap j n bytes : Nat} {cs : List Value} {e t t2 T : TypeId} {z : Value} {p q : Operand} (hI : (P.info? e).map (fun i => (i.zero, i.size, i.bytes)) = some (some z, n, bytes)) (hl : x.l[pos]? = some (hcells b cs T)) (hlen : i * n ≤ cs.length) (h0 : 0 < n) (hzs : z.cells.size = n) (hj : 0 < j) (hg : cap < i + j)
    (ho : o.op = .call { callee := .builtin .append, args := #[p, q], argTypes := #[t, t2] }) (ht : P.underlying t = some (.slice e)) (ht2 : P.underlying t2 = some (.int .i64)) (hp : Ev env p (.slice (some ⟨b, 0, none⟩) i cap)) (hq : Ev env q (.int .i64 (j : Int)))
    (hroom : (i + j) * bytes ≤ 140737488355328) (h63 : i + j ≤ 140737488355328) :
    Ef P w0 env x o (fun v x' => ∃ b2 cap2 cs2, v = .slice (some ⟨b2, 0, none⟩) (i + j) cap2 ∧ i + j ≤ cap2 ∧ cap2 ≤ 9223372036854775807 ∧ cs2.length = cap2 * n ∧ cs2.take (i * n) = cs.take (i * n) ∧ x' = ⟨x.m, hcells b2 cs2 e :: x.l⟩) :=
  Ef.mk fun N f hf w hc => by
    obtain ⟨inf, hi, hz, hn, hb⟩ := info_parts hI
    subst hn hb
    obtain ⟨m', L1, L2, L3, hm, hit, hh, hset⟩ := cX_at hc hl
    subst hit
    have hcells : ∀ j u, (cs.take (i * inf.size))[j]? = some u → w.drew.cell? ((⟨b, 0, none⟩ : Addr).add j) = some u := fun j u hu => by
      rw [add_none, Nat.zero_add]
      show w.cell? _ = _
      rw [hh.cell (b := b) (c := cs.toArray) (t := T) (fr := (0, 0)) (by simp)]
      rw [List.getElem?_take] at hu
      split at hu
      · simpa using hu
      · cases hu
    have hl1 : (cs.take (i * inf.size)).length = i * inf.size := by rw [List.length_take]; omega
    have hold : (Builtin.firstCells inf.size i (.slice (some ⟨b, 0, none⟩) i cap)).run P w.drew = .ok (cs.take (i * inf.size)).toArray w.drew := by
      have := run_loadCells_list (P := P) w.drew ⟨b, 0, none⟩ (cs.take (i * inf.size)) hcells
      rw [hl1] at this
      simp only [Builtin.firstCells]
      exact this
    have hjb : j * inf.bytes ≤ 281474976710656 := by
      have : j * inf.bytes ≤ (i + j) * inf.bytes := Nat.mul_le_mul_right _ (by omega)
      omega
    have hr := Lib.run_append_grow_zeros (P := P) w t t2 o.type e inf z .i64 .i64 ht ht2 hi hz (some ⟨b, 0, none⟩) i cap (cs.take (i * inf.size)) hold j hj h0 hg (by omega) hjb (growslice_fits hg hroom)
    have hge := grownCap_ge w (i + j) cap e
    have hcm : grownCap w (i + j) cap e ≤ 9223372036854775807 := by have := grownCap_le_maxLen w (i + j) cap e (by unfold maxLen; omega); unfold maxLen at this; exact this
    refine ⟨_, w.drew.alloc (.cells ((cs.take (i * inf.size)).toArray ++ Builtin.zeroCells z.cells j ++ Builtin.zeroCells z.cells (grownCap w (i + j) cap e - (i + j))) e), _, .inl ?_, ⟨w.heap.size, grownCap w (i + j) cap e, (cs.take (i * inf.size)) ++ (Builtin.zeroCells z.cells j).toList ++ (Builtin.zeroCells z.cells (grownCap w (i + j) cap e - (i + j))).toList, rfl, hge, hcm, ?_, ?_, rfl⟩, ?_⟩
    · simp [execOp, ho, resolve, hp.eval hf, hq.eval hf, invoke, builtin, hr]
    · simp only [List.length_append, hl1, Array.length_toList, size_zeroCells, hzs, ← Nat.add_mul]
      congr 1; omega
    · rw [List.append_assoc, List.take_append_of_le_length (by omega), List.take_of_length_le (by omega)]
    · have := cX_alloc (it := Sy.hcells w.heap.size ((cs.take (i * inf.size)) ++ (Builtin.zeroCells z.cells j).toList ++ (Builtin.zeroCells z.cells (grownCap w (i + j) cap e - (i + j))).toList) e) hc (w' := w.drew.alloc (.cells ((cs.take (i * inf.size)).toArray ++ Builtin.zeroCells z.cells j ++ Builtin.zeroCells z.cells (grownCap w (i + j) cap e - (i + j))) e)) rfl rfl rfl (by simp [Sy.hcells])
      exact this
/-- Two of the call's own slices lie apart. -/
theorem Yd.ovl {pos pos2 n k lb cb b off : Nat} {k2 : FuncId} {fn : Func} {cells cs : List Value} {e T tS tR : TypeId} {u : Value} {p q : Operand} {ts : Array TypeId} (hl : x.l[pos]? = some (hown e n u k cells)) (hl2 : x.l[pos2]? = some (hcells b cs T)) (hk : 0 < k) (hcs : 0 < cs.length) (hne : (pos == pos2) = false)
    (ho : o.op = .call { callee := .value (.func k2), args := #[p, q], argTypes := ts }) (hf2 : P.funcs[k2]? = some fn) (hname : (fn.name == "runtime.NumGoroutine") = false) (hb2 : fn.body.isNone = true) (hn2 : Extern.findNext fn = none) (he2 : Extern.find fn = some (Extern.SlicesOverlaps.overlaps #[tS, tS] #[tR]))
    (ht : P.underlying tS = some (.slice e)) (hi : (P.info? e).map (·.size) = some n) (hp : Ev env p u) (hq : Ev env q (.slice (some ⟨b, off, none⟩) lb cb)) : Yd P w0 env x o (.bool false) :=
  Yd.pure fun N f hf w hc => by
    obtain ⟨inf, hi', hn⟩ := Option.map_eq_some_iff.1 hi
    obtain ⟨m', hm, L, hs, hh⟩ := hc
    obtain ⟨A, B, C, rfl, hit, hE⟩ := hs.front hl
    rcases hit.2 with ⟨_, h, _⟩ | ⟨ub, ucap, cur, rfl, rfl, h2, h3, h4, _⟩
    · omega
    have hne' : pos ≠ pos2 := by simpa using hne
    have hl3 : ∃ q' : Nat, (x.l.eraseIdx pos)[q']? = some (hcells b cs T) := by
      by_cases h : pos2 < pos
      · exact ⟨pos2, by rw [List.getElem?_eraseIdx, if_pos h]; exact hl2⟩
      · exact ⟨pos2 - 1, by rw [List.getElem?_eraseIdx, if_neg (by omega), show pos2 - 1 + 1 = pos2 by omega]; exact hl2⟩
    obtain ⟨q', hq'⟩ := hl3
    obtain ⟨D, E, G, hAC, hit2, _⟩ := hE.at hq'
    subst hit2
    have hbin : (b, Obj.cells cs.toArray T (0, 0)) ∈ A ++ C := by rw [hAC]; simp
    have hub : w.heap[ub]? = some (.cells cur e (0, 0)) := hh.own (ub, _) (by simp)
    have hb : w.heap[b]? = some (.cells cs.toArray T (0, 0)) := hh.own (b, .cells cs.toArray T (0, 0)) (by
      rcases List.mem_append.1 hbin with h | h <;> simp [h])
    have hneb : ub ≠ b := by
      have hnd := hh.nd
      have hperm : (A ++ [(ub, Obj.cells cur e (0, 0))] ++ C).Perm ((ub, Obj.cells cur e (0, 0)) :: (A ++ C)) := by simp
      have h2 := ((hperm.map Prod.fst).nodup_iff).1 hnd
      rw [List.map_cons, List.nodup_cons] at h2
      intro h
      exact h2.1 (List.mem_map.2 ⟨_, hbin, h.symm⟩)
    have hov := Lib.run_overlaps_apart (P := P) w tS tR e ht n (fun w => by simp [sizeOf, typeInfo, hi', hn]) ⟨ub, 0, none⟩ ⟨b, off, none⟩ k ucap lb cb hneb e T cur.size cs.toArray.size (by simp [World.shape?, hub]) (by simp [World.shape?, hb]) (by simp; intro h; subst h; simp at hcs) (by simp [World.frozen?, hub]) (by simp [World.frozen?, hub])
    have hcall := run_callFunc_extern (P := P) (e := Extern.SlicesOverlaps.overlaps #[tS, tS] #[tR]) hf2 hname hb2 hn2 he2 #[.slice (some ⟨ub, 0, none⟩) k ucap, .slice (some ⟨b, off, none⟩) lb cb] w
    rw [hov] at hcall
    simp only [Result.andThen] at hcall
    have hfe : f.eval (Operand.func k2) = .func (.func k2) #[] #[] := rfl
    simp [execOp, ho, resolve, hp.eval hf, hq.eval hf, hfe, Deferred.ofValue, invoke, hcall]
end

/-- What is the call's own becomes what is read, ahead of an operation. -/
theorem Ef.frz {P : Program} {w0 : World} {env : Env} {x : SX} {o : Oper} {α : Type} {n : Nat} {enc : α → List Value} (he : ∀ x, (enc x).length = n) {p : Nat} {v : Value} {xs : List α} {e : TypeId} {R : Snap → Value → SX → Prop} (hl : x.l[p]? = some (hown e n v xs.length (xs.flatMap enc)))
    (h : ∀ m2, Sle x.m m2 → RS (.flat n enc he) m2 v xs → Ef P w0 env ⟨m2, x.l.eraseIdx p⟩ o (R m2)) : Ef P w0 env x o (fun z x' => ∃ m2, Sle x.m m2 ∧ RS (.flat n enc he) m2 v xs ∧ R m2 z x') := fun N a hf w hc => by
  obtain ⟨m2, h1, h2, h3⟩ := cX_freeze he hc hl
  refine eff_mono ?_ (h m2 h1 h2 N a hf w h3)
  rintro z w' ⟨x', hR, hc'⟩
  exact ⟨x', ⟨m2, h1, h2, hR⟩, hc'⟩

/-! ### What Delete does -/
section
variable {P : Program} {w0 : World} {env : Env} {x : SX} {o : Oper}
theorem Yd.orP {p q r : Operand} {c d : Bool} (ho : o.op = .pick p q r) (hp : Ev env p (.bool c)) (hq : Ev env q (.bool true)) (hr : Ev env r (.bool d)) : Yd P w0 env x o (.bool (c || d)) :=
  Yd.pure fun N f hf w _ => by
    cases c <;> simp [execOp, ho, hp.eval hf, hq.eval hf, hr.eval hf, asBool]
theorem Yd.andP {p q r : Operand} {c d : Bool} (ho : o.op = .pick p q r) (hp : Ev env p (.bool c)) (hr : Ev env r (.bool false)) (hq : Ev env q (.bool d)) : Yd P w0 env x o (.bool (c && d)) :=
  Yd.pure fun N f hf w _ => by
    cases c <;> simp [execOp, ho, hp.eval hf, hq.eval hf, hr.eval hf, asBool]
/-- s[lo:hi:max] -/
theorem Yd.sl3C {t e : TypeId} {p q q2 q3 : Operand} {b o' k cap lo hi mx n : Nat} (h1 : lo < hi) (h2 : hi ≤ mx) (h3 : mx ≤ cap) (ho : o.op = .slice t p (some q) (some q2) (some q3)) (ht : P.underlying t = some (.slice e)) (hi' : (P.info? e).map (·.size) = some n)
    (hp : Ev env p (.slice (some ⟨b, o', none⟩) k cap)) (hq : Ev env q (.int .i64 (lo : Int))) (hq2 : Ev env q2 (.int .i64 (hi : Int))) (hq3 : Ev env q3 (.int .i64 (mx : Int))) : Yd P w0 env x o (.slice (some ⟨b, o' + lo * n, none⟩) (hi - lo) (mx - lo)) :=
  Yd.pure fun N f hf w _ => by
    obtain ⟨inf, hi', hn⟩ := Option.map_eq_some_iff.1 hi'
    have e1 : (Instr.sliceBound (.int .i64 (mx : Int)) cap .slice3Acap).run P w = .ok mx w := by simp [Instr.sliceBound, asIntOf, h3]
    have e2 : (Instr.sliceBound (.int .i64 (hi : Int)) mx .slice3B).run P w = .ok hi w := by simp [Instr.sliceBound, asIntOf, h2]
    have e3 : (Instr.sliceBound (.int .i64 (lo : Int)) hi .slice3C).run P w = .ok lo w := by simp [Instr.sliceBound, asIntOf, Nat.le_of_lt h1]
    have hne : ¬ mx = lo := by omega
    simp [execOp, ho, hp.eval hf, hq.eval hf, hq2.eval hf, hq3.eval hf, Instr.sliceAt, Instr.slice, run_underlying ht, sizeOf, typeInfo, hi', Instr.sliceBounds, e1, e2, e3, hn, hne, add_none]
/-- s[lo:hi] -/
theorem Yd.sl2C {t e : TypeId} {p q q2 : Operand} {b o' k cap lo hi n : Nat} (h1 : lo < hi) (h3 : hi ≤ cap) (ho : o.op = .slice t p (some q) (some q2) none) (ht : P.underlying t = some (.slice e)) (hi' : (P.info? e).map (·.size) = some n)
    (hp : Ev env p (.slice (some ⟨b, o', none⟩) k cap)) (hq : Ev env q (.int .i64 (lo : Int))) (hq2 : Ev env q2 (.int .i64 (hi : Int))) : Yd P w0 env x o (.slice (some ⟨b, o' + lo * n, none⟩) (hi - lo) (cap - lo)) :=
  Yd.pure fun N f hf w _ => by
    obtain ⟨inf, hi', hn⟩ := Option.map_eq_some_iff.1 hi'
    have e2 : (Instr.sliceBound (.int .i64 (hi : Int)) cap .sliceAcap).run P w = .ok hi w := by simp [Instr.sliceBound, asIntOf, h3]
    have e3 : (Instr.sliceBound (.int .i64 (lo : Int)) hi .sliceB).run P w = .ok lo w := by simp [Instr.sliceBound, asIntOf, Nat.le_of_lt h1]
    have hne : ¬ cap = lo := by omega
    simp [execOp, ho, hp.eval hf, hq.eval hf, hq2.eval hf, Instr.sliceAt, Instr.slice, run_underlying ht, sizeOf, typeInfo, hi', Instr.sliceBounds, e2, e3, hn, hne, add_none]
/-- s[lo:], where nothing may be left. -/
theorem Yd.slFE {t e : TypeId} {p q : Operand} {b k cap lo n : Nat} (hlo : lo ≤ k) (hk : k ≤ cap) (ho : o.op = .slice t p (some q) none none) (ht : P.underlying t = some (.slice e)) (hi : (P.info? e).map (·.size) = some n)
    (hp : Ev env p (.slice (some ⟨b, 0, none⟩) k cap)) (hq : Ev env q (.int .i64 (lo : Int))) : Yd P w0 env x o (.slice (some ⟨b, if cap = lo then 0 else lo * n, none⟩) (k - lo) (cap - lo)) :=
  Yd.pure fun N f hf w _ => by
    obtain ⟨inf, hi', hn⟩ := Option.map_eq_some_iff.1 hi
    have e3 : (Instr.sliceBound (.int .i64 (lo : Int)) k .sliceB).run P w = .ok lo w := by simp [Instr.sliceBound, asIntOf, hlo]
    by_cases hne : cap = lo
    · subst hne
      simp [execOp, ho, hp.eval hf, hq.eval hf, Instr.sliceAt, Instr.slice, run_underlying ht, sizeOf, typeInfo, hi', Instr.sliceBounds, e3]
    · simp [execOp, ho, hp.eval hf, hq.eval hf, Instr.sliceAt, Instr.slice, run_underlying ht, sizeOf, typeInfo, hi', Instr.sliceBounds, e3, hn, hne, add_none]
/-- append of a part of a block onto its head, within its room. -/
theorem Ef.apInC {pos b i cap mm c n o' : Nat} {cs news cs' : List Value} {e t : TypeId} {p q : Operand} (hl : x.l[pos]? = some (hcells b cs e)) (hcl : cs.length = cap * n) (hroom : i + mm ≤ cap) (hnl : news.length = mm * n) (hnews : ∀ j u, news[j]? = some u → cs[o' + j]? = some u) (h1 : news.all Value.oneCell' = true)
    (ho : o.op = .call { callee := .builtin .append, args := #[p, q], argTypes := #[t, t] }) (ht : P.underlying t = some (.slice e)) (hn : (P.info? e).map (·.size) = some n) (hp : Ev env p (.slice (some ⟨b, 0, none⟩) i cap)) (hq : Ev env q (.slice (some ⟨b, o', none⟩) mm c))
    (hcs : cs.take (i * n) ++ news ++ cs.drop (i * n + news.length) = cs') :
    Ef P w0 env x o (fun z x' => z = .slice (some ⟨b, 0, none⟩) (i + mm) cap ∧ x' = ⟨x.m, x.l.set pos (hcells b cs' e)⟩) :=
  Ef.mk fun N f hf w hc => by
    obtain ⟨inf, hi, hin⟩ := Option.map_eq_some_iff.1 hn
    subst hin
    obtain ⟨m', L1, L2, L3, hm, hit, hh, hset⟩ := cX_at hc hl
    subst hit
    have hb : w.heap[b]? = some (.cells cs.toArray e (0, 0)) := hh.own (b, _) (by simp)
    have hle : (i + mm) * inf.size ≤ cap * inf.size := Nat.mul_le_mul_right _ hroom
    rw [Nat.add_mul] at hle
    have hr := run_append_room (P := P) w t o.type e inf ht hi b i cap cs.toArray hb ⟨b, o', none⟩ mm c news hnl (fun j u hu => by
      rw [add_none, hh.cell (b := b) (c := cs.toArray) (t := e) (fr := (0, 0)) (by simp)]
      simpa using hnews j u hu) (fun u hu => List.all_eq_true.1 h1 u hu) hroom (by simp; omega)
    refine ⟨_, _, _, .inl ?_, ⟨rfl, rfl⟩, m', hm, _, hset (hcells b cs' e) [(b, .cells cs'.toArray e (0, 0))] rfl,
      hh.setObj (w' := w.setRow b cs'.toArray) rfl rfl (setRow_heap w b _ _ e _ hb) (fun k hk => setRow_other' w b k _ hk)⟩
    rw [← hcs]
    simp [execOp, ho, resolve, hp.eval hf, hq.eval hf, invoke, builtin, hr]
/-- clear of a part of a block: what stands ahead of it stays. -/
theorem Ef.clrC {pos b o' k c n bytes : Nat} {cs : List Value} {e t : TypeId} {z : Value} {p : Operand} (hI : (P.info? e).map (fun i => (i.zero, i.size, i.bytes)) = some (some z, n, bytes)) (hl : x.l[pos]? = some (hcells b cs e)) (hk : 0 < k) (hfit : o' + k * n ≤ cs.length) (hzs : z.cells.size = n) (hz1 : z.cells.toList.all Value.oneCell' = true) (h0 : 0 < n)
    (ho : o.op = .call { callee := .builtin .clear, args := #[p], argTypes := #[t] }) (ht : P.underlying t = some (.slice e)) (hp : Ev env p (.slice (some ⟨b, o', none⟩) k c)) :
    Ef P w0 env x o (fun _ x' => ∃ cs', cs'.length = cs.length ∧ cs'.take o' = cs.take o' ∧ x' = ⟨x.m, x.l.set pos (hcells b cs' e)⟩) := by
  obtain ⟨inf, hi, hz, hn, hb'⟩ := info_parts hI
  refine fun N f hf w hc => (Ef.mk (R := fun _ x' => ∃ cs', cs'.length = cs.length ∧ cs'.take o' = cs.take o' ∧ x' = ⟨x.m, x.l.set pos (hcells b cs' e)⟩) fun N f hf w hc => ?_) N f hf w hc
  obtain ⟨m', L1, L2, L3, hm, hit, hh, hset⟩ := cX_at hc hl
  subst hit
  have hb : w.heap[b]? = some (.cells cs.toArray e (0, 0)) := hh.own (b, _) (by simp)
  have hzl : (Builtin.zeroCells z.cells k).toList.length = k * n := by rw [Array.length_toList, size_zeroCells, hzs]
  have hz2 : ∀ u ∈ (Builtin.zeroCells z.cells k).toList, u.oneCell' = true := fun u hu => by
    simp only [Builtin.zeroCells, Array.toList_map, List.mem_map] at hu
    obtain ⟨i, _, rfl⟩ := hu
    have hlt : i % z.cells.size < z.cells.size := Nat.mod_lt _ (by omega)
    rw [getElem!_pos z.cells _ hlt]
    exact List.all_eq_true.1 hz1 _ (by simp)
  have hst := run_storeCells_at (P := P) b o' e (Builtin.zeroCells z.cells k).toList 0 cs.toArray w hb (by simpa [hzl] using hfit) hz2
  simp only [Nat.add_zero, hzl] at hst
  have hk0 : k ≠ 0 := by omega
  refine ⟨.tuple #[], _, _, .inl ?_, ⟨cs.take o' ++ (Builtin.zeroCells z.cells k).toList ++ cs.drop (o' + k * n), ?_, ?_, rfl⟩, m', hm, _, hset (hcells b (cs.take o' ++ (Builtin.zeroCells z.cells k).toList ++ cs.drop (o' + k * n)) e) [(b, .cells (cs.take o' ++ (Builtin.zeroCells z.cells k).toList ++ cs.drop (o' + k * n)).toArray e (0, 0))] rfl,
    hh.setObj (w' := w.setRow b (cs.take o' ++ (Builtin.zeroCells z.cells k).toList ++ cs.drop (o' + k * n)).toArray) rfl rfl (setRow_heap w b _ _ e _ hb) (fun k hk => setRow_other' w b k _ hk)⟩
  · cases k with
    | zero => omega
    | succ k => simp [execOp, ho, resolve, hp.eval hf, invoke, builtin, Builtin.clear_, run_underlying ht, zeroValue, typeInfo, hi, hz, hst]
  · rw [List.length_append, List.length_append, List.length_take, List.length_drop, hzl]; omega
  · have hlo : (cs.take o').length = o' := by rw [List.length_take]; omega
    rw [List.append_assoc]; exact List.take_left' hlo
end
theorem flat_delete {α : Type} {n : Nat} {enc : α → List Value} (he : ∀ x, (enc x).length = n) (xs : List α) (i j : Nat) : (xs.take i ++ xs.drop j).flatMap enc = ((xs.flatMap enc).take (i * n)) ++ (xs.flatMap enc).drop (j * n) := by
  rw [List.flatMap_append, flat_takeX he, flat_dropX he]

/-! ### What Insert makes of the cells -/
theorem insA {α : Type} {c2 c y : List α} {A M K : Nat} (hA : A ≤ K) (h2 : c2.take A = c.take A) (hl2 : K + M ≤ c2.length) (hl : K ≤ c.length) (hy : y.length = M) :
    (((c2.take A ++ y ++ c2.drop (A + M)).take (A + M) ++ (c.drop A).take (K - A) ++ (c2.take A ++ y ++ c2.drop (A + M)).drop (A + M + (K - A))).take (K + M)) = (c.take K).take A ++ y ++ (c.take K).drop A := by
  have hlen : (c2.take A ++ y).length = A + M := by rw [List.length_append, List.length_take, hy]; omega
  rw [List.take_left' hlen]
  have h3 : (c2.take A ++ y ++ (c.drop A).take (K - A)).length = K + M := by rw [List.length_append, hlen, List.length_take, List.length_drop]; omega
  rw [List.take_left' h3, h2, List.take_take, Nat.min_eq_left hA, List.drop_take]
theorem insB {α : Type} {c y : List α} {A M K : Nat} (hA : A ≤ K) (hl : K + M ≤ c.length) (hy : y.length = M) :
    (((c.take (A + M) ++ ((c.drop A).take (K + M - A)).take (K - A) ++ c.drop (A + M + (K - A))).take A ++ y ++ (c.take (A + M) ++ ((c.drop A).take (K + M - A)).take (K - A) ++ c.drop (A + M + (K - A))).drop (A + M)).take (K + M)) = (c.take K).take A ++ y ++ (c.take K).drop A := by
  have e1 : ((c.drop A).take (K + M - A)).take (K - A) = (c.take K).drop A := by
    rw [List.take_take, Nat.min_eq_left (by omega), List.drop_take]
  rw [e1]
  have hl1 : (c.take (A + M)).length = A + M := by rw [List.length_take]; omega
  have hl2 : ((c.take K).drop A).length = K - A := by rw [List.length_drop, List.length_take]; omega
  have e2 : (c.take (A + M) ++ (c.take K).drop A ++ c.drop (A + M + (K - A))).take A = (c.take K).take A := by
    rw [List.append_assoc, List.take_append_of_le_length (by omega), List.take_take, Nat.min_eq_left (by omega), List.take_take, Nat.min_eq_left hA]
  have e3 : (c.take (A + M) ++ (c.take K).drop A ++ c.drop (A + M + (K - A))).drop (A + M) = (c.take K).drop A ++ c.drop (A + M + (K - A)) := by
    rw [List.append_assoc, List.drop_left' hl1]
  rw [e2, e3, ← List.append_assoc]
  refine List.take_left' ?_
  rw [List.length_append, List.length_append, List.length_take, List.length_take, hl2, hy]; omega
theorem flat_insert {α : Type} {n : Nat} {enc : α → List Value} (he : ∀ x, (enc x).length = n) (xs ys : List α) (i : Nat) : (xs.take i ++ ys ++ xs.drop i).flatMap enc = ((xs.flatMap enc).take (i * n)) ++ ys.flatMap enc ++ (xs.flatMap enc).drop (i * n) := by
  rw [List.flatMap_append, List.flatMap_append, flat_takeX he, flat_dropX he]
end Go.Proofs.Ytkdhckiljfjanaa.Sy
