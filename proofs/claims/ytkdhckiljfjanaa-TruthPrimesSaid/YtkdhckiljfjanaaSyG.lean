/- Append, lent and frozen memory, slices of slices, structs by value (own lemmas); the conditions stand in each lemma. -/
import Derived.Test.YtkdhckiljfjanaaSyF
namespace Go.Proofs.Ytkdhckiljfjanaa.Sy
open Go

theorem geti_nat {α : Type} {xs : List α} {i : Nat} (h : i < xs.length) : geti xs (i : Int) = some xs[i] := by
  unfold geti
  rw [if_pos (Int.natCast_nonneg _)]
  simp [h]

theorem Hp.perm {m : Snap} {L L' : Part} {w0 w : World} (h : Hp m L w0 w) (hp : L.Perm L') : Hp m L' w0 w :=
  ⟨h.os, h.out, h.imm, fun p hm => h.own p (hp.mem_iff.2 hm), fun p hm => h.sep p (hp.mem_iff.2 hm), (hp.map Prod.fst).nodup_iff.1 h.nd⟩
theorem Hp.sub {m : Snap} {L L' : Part} {w0 w : World} (h : Hp m L w0 w) (hp : L'.Sublist L) : Hp m L' w0 w :=
  ⟨h.os, h.out, h.imm, fun p hm => h.own p (hp.mem hm), fun p hm => h.sep p (hp.mem hm), h.nd.sublist (hp.map Prod.fst)⟩

/-- Forgetting parts anywhere. -/
theorem Sat.sublist : ∀ {l l' : List HI} {L : Part}, l'.Sublist l → Sat l L → ∃ L', L'.Sublist L ∧ Sat l' L'
  | _, _, L, .slnil, h => ⟨L, .refl _, h⟩
  | _, _, L, .cons q hs, h => by
    obtain ⟨L1, L2, rfl, _, h2⟩ := h
    obtain ⟨L', hl, hs'⟩ := Sat.sublist hs h2
    exact ⟨L', hl.trans (List.sublist_append_right _ _), hs'⟩
  | _, _, L, .cons_cons q hs, h => by
    obtain ⟨L1, L2, rfl, h1, h2⟩ := h
    obtain ⟨L', hl, hs'⟩ := Sat.sublist hs h2
    exact ⟨L1 ++ L', (List.append_sublist_append_left L1).2 hl, L1, L', rfl, h1, hs'⟩

theorem cX_sub {w0 w : World} {m : Snap} {l l' : List HI} (hs : l'.Sublist l) (hc : cX w0 ⟨m, l⟩ w) : cX w0 ⟨m, l'⟩ w := by
  obtain ⟨m', hm, L, hsat, hp⟩ := hc
  obtain ⟨L', hl, hs'⟩ := hsat.sublist hs
  exact ⟨m', hm, L', hs', hp.sub hl⟩

theorem Tr.drop {P : Program} {w0 : World} {N : Nat} {c : Code} {Q : Exit → Act → World → Prop} {env : Env} {m : Snap} {l l' : List HI} (hs : l'.Sublist l) (h : Tr P w0 N c Q env ⟨m, l'⟩) : Tr P w0 N c Q env ⟨m, l⟩ :=
  fun a w hf hc => h a w hf (cX_sub hs hc)

section
variable {P : Program} {w0 : World} {env : Env} {x : SX} {o : Oper}

/-- What a slice's cells are, in every world of the class. -/
def Src (w0 : World) (x : SX) (v : Value) (m : Nat) (news : List Value) : Prop :=
  ∀ w, cX w0 x w → (∃ a c, v = .slice a m c ∧ (m = 0 ∨ ∃ b off, a = some ⟨b, off, none⟩ ∧ ∀ j u, news[j]? = some u → w.cell? ⟨b, off + j, none⟩ = some u))

theorem Src.own {pos n k : Nat} {e : TypeId} {v : Value} {cells : List Value} (hl : x.l[pos]? = some (hown e n v k cells)) : Src w0 x v k cells := by
  intro w hc
  obtain ⟨m', L1, L2, L3, _, hit, hh, _⟩ := cX_at hc hl
  obtain ⟨hcl, hit'⟩ := hit
  rcases hit' with ⟨rfl, rfl, _⟩ | ⟨b, cap, cur, rfl, rfl, h2, h3, h4, htake⟩
  · exact ⟨none, 0, rfl, .inl rfl⟩
  · refine ⟨_, _, rfl, .inr ⟨b, 0, rfl, fun j u hu => ?_⟩⟩
    rw [Nat.zero_add, hh.cell (b := b) (c := cur) (t := e) (fr := (0, 0)) (by simp) j]
    rw [← htake, List.getElem?_take] at hu
    split at hu
    · simpa using hu
    · cases hu

theorem Src.rs {α : Type} {n : Nat} {enc : α → List Value} {he : ∀ x, (enc x).length = n} {m : Snap} {v : Value} {xs : List α} (h0 : 0 < n) (hm : Sle m x.m) (h : RS (.flat n enc he) m v xs) : Src w0 x v xs.length (xs.flatMap enc) := by
  intro w hc
  obtain ⟨⟨a, cap, rfl, _⟩, _, hall⟩ := h
  refine ⟨a, cap, rfl, ?_⟩
  by_cases hx : xs.length = 0
  · exact .inl hx
  · right
    obtain ⟨cs, _, b, off, l, c, hv, _⟩ := hall 0 (by omega)
    cases hv
    refine ⟨b, off, rfl, fun j u hu => ?_⟩
    have hlen := flat_length he xs
    have hj := (List.getElem?_eq_some_iff.1 hu).1
    rw [hlen] at hj
    have hi : j / n < xs.length := Nat.div_lt_of_lt_mul (by rw [Nat.mul_comm]; exact hj)
    obtain ⟨cs, hr, b', off', l', c', hv', hat⟩ := hall (j / n) hi
    cases hv'
    obtain rfl : cs = enc xs[j / n] := hr
    have hg : geti xs ((j / n : Nat) : Int) = some xs[j / n] := geti_nat hi
    have hel := flat_elem he hg
    have hmod : j % n < n := Nat.mod_lt _ h0
    have hdm := Nat.div_add_mod j n
    have hu' : (enc xs[j / n])[j % n]? = some u := by
      rw [← hel, List.getElem?_take, if_pos hmod, List.getElem?_drop]
      simp only [Int.toNat_natCast]
      rw [show j / n * n + j % n = j by rw [Nat.mul_comm]; exact hdm]; exact hu
    have := hat (j % n) u hu'
    obtain ⟨m', hm', L, _, hh⟩ := hc
    have hcell := cell_of_cellM hh (cellM_mono (hm.trans hm') this)
    have e1 : off + j / n * n + j % n = off + j := by
      have : j / n * n + j % n = j := by rw [Nat.mul_comm]; exact hdm
      omega
    have e2 : (Rp.flat n enc he).n = n := rfl
    rw [e2, e1] at hcell
    exact hcell

theorem zero_run {e : TypeId} {inf : TypeInfo} {z : Value} (hi : P.info? e = some inf) (hz : inf.zero = some z) (w : World) : (zeroValue e).run P w = .ok z w := by simp [zeroValue, typeInfo, hi, hz]

/-- append onto a slice of the call's own. -/
theorem Ef.app {pos n k mm : Nat} {e t : TypeId} {v vs : Value} {cells news : List Value} {inf : TypeInfo} {z : Value} {p q : Operand} {bytes : Nat} (hl : x.l[pos]? = some (hown e n v k cells)) (ho : o.op = .call { callee := .builtin .append, args := #[p, q], argTypes := #[t, t] })
    (ht : P.underlying t = some (.slice e)) (hi : P.info? e = some inf) (hz : inf.zero = some z) (hn : inf.size = n) (hby : inf.bytes = bytes) (hzs : z.cells.size = n) (h0 : 0 < n) (hp : Ev env p v) (hq : Ev env q vs) (hs : Src w0 x vs mm news) (hnl : news.length = mm * n) (h1 : news.all Value.oneCell' = true)
    (hroom : (k + mm) * bytes ≤ 140737488355328) (h63 : k + mm ≤ 140737488355328) : Ef P w0 env x o (fun v' x' => x' = ⟨x.m, x.l.set pos (hown e n v' (k + mm) (cells ++ news))⟩) :=
  Ef.mk fun N f hf w hc => by
    subst hn hby
    obtain ⟨a, c, rfl, hsrc⟩ := hs w hc
    obtain ⟨m', L1, L2, L3, hm, hit, hh, hset⟩ := cX_at hc hl
    have hit0 := hit
    obtain ⟨hcl, hit⟩ := hit
    have hlen : (cells ++ news).length = (k + mm) * inf.size := by rw [List.length_append, hcl, hnl, Nat.add_mul]
    have fin : ∀ {v' : Value} {w' : World}, (Builtin.append_ #[t, t] o.type #[v, .slice a mm c]).run P w = .ok v' w' → (∃ L2', hown e inf.size v' (k + mm) (cells ++ news) L2' ∧ Hp m' (L1 ++ L2' ++ L3) w0 w') →
        ∃ u w'' x', ((execOp f.eval o).run P w = .ok (.value u) w'' ∨ ((execOp f.eval o).run P w = .ok .skip w'' ∧ u = undef)) ∧ x' = ⟨x.m, x.l.set pos (hown e inf.size u (k + mm) (cells ++ news))⟩ ∧ cX w0 x' w'' := by
      rintro v' w' hr ⟨L2', h1', h2'⟩
      refine ⟨v', w', _, .inl ?_, rfl, m', hm, _, hset _ L2' h1', h2'⟩
      simp [execOp, ho, resolve, hp.eval hf, hq.eval hf, invoke, builtin, hr]
    by_cases hm0 : mm = 0
    · subst hm0
      obtain rfl : news = [] := List.eq_nil_of_length_eq_zero (by simpa using hnl)
      refine fin (v' := v) (w' := w) ?_ ⟨L2, by simpa using hit0, hh⟩
      obtain ⟨va, vc, hv⟩ := hown_slice hit0
      have hle : k ≤ vc := by
        rcases hit with ⟨rfl, rfl, _⟩ | ⟨b, cap, cur, rfl, _, h2, _⟩
        · omega
        · cases hv; exact h2
      subst hv
      cases a with
      | none => cases va <;> simp [Builtin.append_, run_underlying ht, sizeOf, typeInfo, hi, Builtin.lenOf, hle, Builtin.firstCells, storeCells]
      | some a => cases va <;> simp [Builtin.append_, run_underlying ht, sizeOf, typeInfo, hi, Builtin.lenOf, hle, Builtin.firstCells, loadCells, loadCellsFrom, storeCells]
    · obtain ⟨sb, soff, rfl, hnews⟩ := hsrc.resolve_left hm0
      have hnews' : ∀ j u, news[j]? = some u → w.cell? ((⟨sb, soff, none⟩ : Addr).add j) = some u := fun j u hu => by rw [add_none]; exact hnews j u hu
      have mkGrow : ∀ (old : Nat), old < k + mm → hown e inf.size (.slice (some ⟨w.heap.size, 0, none⟩) (k + mm) (grownCap w (k + mm) old e)) (k + mm) (cells ++ news)
          [(w.heap.size, .cells (cells.toArray ++ news.toArray ++ Builtin.zeroCells z.cells (grownCap w (k + mm) old e - (k + mm))) e (0, 0))] := by
        intro old ho'
        have hge := grownCap_ge w (k + mm) old e
        have hcm : grownCap w (k + mm) old e ≤ 9223372036854775807 := by have := grownCap_le_maxLen w (k + mm) old e (by unfold maxLen; omega); unfold maxLen at this; exact this
        refine ⟨hlen, .inr ⟨w.heap.size, _, _, rfl, rfl, hge, hcm, ?_, ?_⟩⟩
        · simp only [Array.size_append, List.size_toArray, size_zeroCells, hzs, hcl, hnl, ← Nat.add_mul]
          congr 1
          omega
        · simp only [Array.toList_append, List.append_assoc]
          rw [← List.append_assoc, ← hlen]
          exact List.take_left
      have place : ∀ {L2' : Part} {w' : World} {o' : Obj}, L2' = [(w.heap.size, o')] → w'.os = w.os → w'.output = w.output → w'.heap = w.heap.push o' → Hp m' (L1 ++ L2' ++ L3) w0 w' := by
        rintro L2' w' o' rfl e1 e2 e3
        have h3 : Hp m' (L1 ++ L3) w0 w := hh.sub (by simp)
        exact (h3.alloc e1 e2 e3).perm (by simpa using (List.perm_middle (a := (w.heap.size, o')) (l₁ := L1) (l₂ := L3)).symm)
      rcases hit with ⟨rfl, rfl, rfl⟩ | ⟨b, cap, cur, rfl, rfl, h2, h3, h4, htake⟩
      · obtain rfl : cells = [] := List.eq_nil_of_length_eq_zero (by simpa using hcl)
        have hr := run_append_nil (P := P) w t o.type e inf z ht hi hz ⟨sb, soff, none⟩ mm c news hnl hnews' (by omega) (by omega) (by have hb := hroom; simp only [Nat.zero_add] at hb; omega)
        have hg := mkGrow 0 (by omega)
        simp only [Nat.zero_add, List.nil_append, Array.empty_append] at hg ⊢
        simp only [Nat.zero_add, List.nil_append] at fin
        exact fin hr ⟨_, hg, place rfl rfl rfl rfl⟩
      · have hb : w.heap[b]? = some (.cells cur e (0, 0)) := hh.own (b, _) (by simp)
        by_cases hroom' : k + mm ≤ cap
        · have hfit : k * inf.size + news.length ≤ cur.size := by rw [hnl, h4, ← Nat.add_mul]; exact Nat.mul_le_mul_right _ hroom'
          have hr := run_append_room (P := P) w t o.type e inf ht hi b k cap cur hb ⟨sb, soff, none⟩ mm c news hnl hnews' (fun u hu => List.all_eq_true.1 h1 u hu) hroom' hfit
          refine fin hr ⟨[(b, .cells (cur.toList.take (k * inf.size) ++ news ++ cur.toList.drop (k * inf.size + news.length)).toArray e (0, 0))], ⟨hlen, .inr ⟨b, cap, _, rfl, rfl, hroom', h3, ?_, ?_⟩⟩,
            hh.setObj (w' := w.setRow b _) rfl rfl (setRow_heap w b _ _ e _ hb) (fun k hk => setRow_other' w b k _ hk)⟩
          · simp only [List.size_toArray, List.length_append, List.length_take, List.length_drop, Array.length_toList]
            omega
          · rw [htake, ← hlen]
            exact List.take_left
        · have holds : ∀ j u, cells[j]? = some u → w.cell? ((⟨b, 0, none⟩ : Addr).add j) = some u := fun j u hu => by
            obtain ⟨b', cap', hv, hcell⟩ := own_cell hit0 hh hu
            cases hv
            rw [add_none, Nat.zero_add]; exact hcell
          have hr := run_append_grow (P := P) w t o.type e inf z ht hi hz ⟨b, 0, none⟩ k cap cells hcl holds ⟨sb, soff, none⟩ mm c news hnl hnews' (by omega) (by omega) (growslice_fits (by omega) hroom)
          exact fin hr ⟨_, mkGrow cap (by omega), place rfl rfl rfl rfl⟩
end

/-! ### Lent and frozen -/
theorem Sat.erase : ∀ {l : List HI} {L : Part} {p : Nat} {it : HI}, Sat l L → l[p]? = some it → ∃ L1 L2 L3, L = L1 ++ L2 ++ L3 ∧ it L2 ∧ Sat (l.eraseIdx p) (L1 ++ L3)
  | [], L, p, it, _, hl => by simp at hl
  | q :: l, L, 0, it, h, hl => by
    obtain ⟨L1, L2, rfl, hq, hs⟩ := h
    simp at hl
    subst hl
    exact ⟨[], L1, L2, by simp, hq, hs⟩
  | q :: l, L, p + 1, it, h, hl => by
    obtain ⟨L0, Lr, rfl, hq, hs⟩ := h
    simp at hl
    obtain ⟨L1, L2, L3, rfl, hit, hset⟩ := hs.erase hl
    exact ⟨L0 ++ L1, L2, L3, by simp, hit, L0, L1 ++ L3, by simp, hq, hset⟩
theorem Sat.insert : ∀ {l : List HI} {L : Part} {p : Nat} {it : HI}, Sat (l.eraseIdx p) L → l[p]? = some it → ∃ L1 L3, L = L1 ++ L3 ∧ ∀ L2, it L2 → Sat l (L1 ++ L2 ++ L3)
  | [], L, p, it, _, hl => by simp at hl
  | q :: l, L, 0, it, h, hl => by
    simp at hl
    subst hl
    exact ⟨[], L, rfl, fun L2 h2 => ⟨L2, L, rfl, h2, h⟩⟩
  | q :: l, L, p + 1, it, h, hl => by
    obtain ⟨L0, Lr, rfl, hq, hs⟩ := h
    simp at hl
    obtain ⟨L1, L3, rfl, hi⟩ := hs.insert hl
    exact ⟨L0 ++ L1, L3, by simp, fun L2 h2 => ⟨L0, L1 ++ L2 ++ L3, by simp, hq, hi L2 h2⟩⟩

/-- An owned block joins what stays as it is. -/
theorem Hp.freeze {m m' : Snap} {L1 L3 : Part} {w0 w : World} {b : Nat} {o : Obj} (hm : Sle m m') (h : Hp m' (L1 ++ [(b, o)] ++ L3) w0 w) :
    Sle m (fun k => if k = b then some o else m k) ∧ Sle (fun k => if k = b then some o else m k) (fun k => if k = b then some o else m' k) ∧ Hp (fun k => if k = b then some o else m' k) (L1 ++ L3) w0 w := by
  have hmb : m' b = none := h.sep (b, o) (by simp)
  have hnd := h.nd
  simp only [List.map_append, List.map_cons, List.map_nil] at hnd
  have hnot : ∀ p ∈ L1 ++ L3, p.1 ≠ b := by
    intro p hp e
    rw [List.nodup_append] at hnd
    obtain ⟨h1, h2, h3⟩ := hnd
    rw [List.nodup_append] at h1
    rcases List.mem_append.1 hp with hp | hp
    · exact h1.2.2 p.1 (List.mem_map.2 ⟨p, hp, rfl⟩) b (by simp) e
    · exact h3 b (by simp) p.1 (List.mem_map.2 ⟨p, hp, rfl⟩) e.symm
  refine ⟨fun k ob hk => ?_, fun k ob hk => ?_, h.os, h.out, fun k ob hk => ?_, fun p hp => h.own p ?_, fun p hp => ?_, ?_⟩
  · by_cases e : k = b
    · subst e; have := hm _ _ hk; rw [hmb] at this; cases this
    · simpa [e] using hk
  · by_cases e : k = b
    · simpa [e] using hk
    · simp only [e, if_false] at hk ⊢; exact hm _ _ hk
  · by_cases e : k = b
    · subst e
      simp only [if_true, Option.some.injEq] at hk
      subst hk
      exact h.own (k, o) (by simp)
    · simp only [e, if_false] at hk; exact h.imm k ob hk
  · rcases List.mem_append.1 hp with hp | hp <;> simp [hp]
  · rw [if_neg (hnot p hp)]
    exact h.sep p (by rcases List.mem_append.1 hp with hp | hp <;> simp [hp])
  · exact (h.sub (L' := L1 ++ L3) (by simp)).nd

theorem Hp.thaw {m2 : Snap} {L1 L3 : Part} {w0 w : World} {b : Nat} {o : Obj} (h : Hp m2 (L1 ++ L3) w0 w) (hb : m2 b = some o) : Hp (fun k => if k = b then none else m2 k) (L1 ++ [(b, o)] ++ L3) w0 w := by
  refine ⟨h.os, h.out, fun k ob hk => ?_, fun p hp => ?_, fun p hp => ?_, ?_⟩
  · by_cases e : k = b
    · simp [e] at hk
    · simp only [e, if_false] at hk; exact h.imm k ob hk
  · simp only [List.append_assoc, List.mem_append, List.mem_cons, List.not_mem_nil, or_false] at hp
    rcases hp with hp | hp | hp
    · exact h.own p (by simp [hp])
    · subst hp; exact h.imm b o hb
    · exact h.own p (by simp [hp])
  · simp only [List.append_assoc, List.mem_append, List.mem_cons, List.not_mem_nil, or_false] at hp
    by_cases e : p.1 = b
    · simp [e]
    · simp only [e, if_false]
      rcases hp with hp | hp | hp
      · exact h.sep p (by simp [hp])
      · subst hp; exact absurd rfl e
      · exact h.sep p (by simp [hp])
  · have hnb : b ∉ (L1 ++ L3).map Prod.fst := by
      intro hm
      obtain ⟨p, hp, e⟩ := List.mem_map.1 hm
      have := h.sep p hp
      rw [e, hb] at this; cases this
    have h2 : ((b, o) :: (L1 ++ L3)).map Prod.fst |>.Nodup := by
      simp only [List.map_cons, List.nodup_cons]
      exact ⟨hnb, h.nd⟩
    have hperm : ((b, o) :: (L1 ++ L3)).Perm (L1 ++ [(b, o)] ++ L3) := by simpa using (List.perm_middle (a := (b, o)) (l₁ := L1) (l₂ := L3)).symm
    exact ((hperm.map Prod.fst).nodup_iff).1 h2

/-- A part of at most one block. -/
def Lone (it : HI) : Prop := ∀ L, it L → L = [] ∨ ∃ b o, L = [(b, o)]
theorem lone_own {e : TypeId} {n k : Nat} {v : Value} {cells : List Value} : Lone (hown e n v k cells) := by
  intro L h
  rcases h.2 with ⟨_, _, h⟩ | ⟨b, cap, cur, _, h, _⟩
  · exact .inl h
  · exact .inr ⟨_, _, h⟩
theorem lone_cells {b : Nat} {cs : List Value} {T : TypeId} : Lone (hcells b cs T) := fun _ h => .inr ⟨_, _, h⟩

theorem leX.at {x y : SX} {p : Nat} {it : HI} (h : leX x y) (hl : x.l[p]? = some it) : ∃ p' : Nat, y.l[p']? = some it := by
  obtain ⟨_, X, hX⟩ := h
  exact ⟨X.length + p, by rw [hX, List.getElem?_append_right (by omega)]; simpa using hl⟩

/-- An owned part may be lent: it is read, nothing more, and comes back. -/
theorem cX_lend {w0 w : World} {x : SX} {p : Nat} {it : HI} (hc : cX w0 x w) (hl : x.l[p]? = some it) (h1 : Lone it) :
    ∃ m2, Sle x.m m2 ∧ cX w0 ⟨m2, x.l.eraseIdx p⟩ w ∧ (∃ L2, it L2 ∧ ∀ q ∈ L2, m2 q.1 = some q.2) ∧ ∀ m3 l' p' w', Sle m2 m3 → l'[p']? = some it → (cX w0 ⟨m3, l'.eraseIdx p'⟩ w' → ∃ m4, Sle x.m m4 ∧ cX w0 ⟨m4, l'⟩ w') ∧ (cX w0 ⟨m2, l'.eraseIdx p'⟩ w' → cX w0 ⟨x.m, l'⟩ w') := by
  obtain ⟨m', hm, L, hs, hp⟩ := hc
  obtain ⟨L1, L2, L3, rfl, hit, herase⟩ := hs.erase hl
  rcases h1 L2 hit with rfl | ⟨b, o, rfl⟩
  · refine ⟨x.m, .refl _, ⟨m', hm, _, herase, by simpa using hp⟩, ⟨[], hit, by simp⟩, fun m3 l' p' w' h3 hl' => ⟨fun hc' => ?_, fun hc' => ?_⟩⟩
    · obtain ⟨m5, hm5, L', hs', hp'⟩ := hc'
      obtain ⟨K1, K3, rfl, hins⟩ := hs'.insert hl'
      exact ⟨m3, h3, m5, hm5, _, hins [] hit, by simpa using hp'⟩
    · obtain ⟨m5, hm5, L', hs', hp'⟩ := hc'
      obtain ⟨K1, K3, rfl, hins⟩ := hs'.insert hl'
      exact ⟨m5, hm5, _, hins [] hit, by simpa using hp'⟩
  · have hmb : x.m b = none := by
      cases hx : x.m b with
      | none => rfl
      | some ob => have := hm _ _ hx; rw [hp.sep (b, o) (by simp)] at this; cases this
    obtain ⟨f1, f2, f3⟩ := hp.freeze hm
    refine ⟨_, f1, ⟨_, f2, _, herase, f3⟩, ⟨_, hit, by simp⟩, fun m3 l' p' w' h3 hl' => ?_⟩
    have key : ∀ m3, Sle (fun k => if k = b then some o else x.m k) m3 → cX w0 ⟨m3, l'.eraseIdx p'⟩ w' → cX w0 ⟨x.m, l'⟩ w' := by
      rintro m3 h3 ⟨m5, hm5, L', hs', hp'⟩
      obtain ⟨K1, K3, rfl, hins⟩ := hs'.insert hl'
      refine ⟨_, fun k ob hk => ?_, _, hins [(b, o)] hit, hp'.thaw (hm5 _ _ (h3 b o (by simp)))⟩
      by_cases e : k = b
      · subst e; rw [hmb] at hk; cases hk
      · simp only [e, if_false]; exact hm5 _ _ (h3 _ _ (by simpa [e] using hk))
    exact ⟨fun hc' => ⟨x.m, .refl _, key m3 h3 hc'⟩, fun hc' => key _ (.refl _) hc'⟩

theorem RS_of_own {α : Type} {n : Nat} {enc : α → List Value} {he : ∀ x, (enc x).length = n} {m : Snap} {v : Value} {xs : List α} {e : TypeId} {L : Part} (h : hown e n v xs.length (xs.flatMap enc) L) (hL : ∀ q ∈ L, m q.1 = some q.2) : RS (.flat n enc he) m v xs := by
  obtain ⟨hcl, h⟩ := h
  rcases h with ⟨rfl, hk, rfl⟩ | ⟨b, cap, cur, rfl, rfl, h2, h3, h4, htake⟩
  · obtain rfl : xs = [] := List.eq_nil_of_length_eq_zero hk
    exact RS.nil _ _
  · refine ⟨⟨_, _, rfl, h2⟩, by omega, fun i hi => ⟨enc xs[i], rfl, b, 0, _, _, rfl, fun j u hu => ?_⟩⟩
    have hg : geti xs (i : Int) = some xs[i] := geti_nat hi
    have := flat_get he hg hu
    rw [← htake, List.getElem?_take] at this
    split at this
    · have hmb := hL (b, Obj.cells cur e (0, 0)) (by simp)
      simp only [Int.toNat_natCast] at this
      have e2 : (Rp.flat n enc he).n = n := rfl
      simp only [cellM, hmb, Nat.zero_add, e2]
      simpa using this
    · cases this

/-- The rows of a slice of slices that the call owns. -/
def Rows {α : Type} (R : Rp α) (m : Snap) (us : List Value) (xss : List (List α)) : Prop := us.length = xss.length ∧ ∀ i (h : i < xss.length), ∃ u, us[i]? = some u ∧ RS R m u xss[i]
theorem Rows.nil {α : Type} (R : Rp α) (m : Snap) : Rows R m [] [] := ⟨rfl, fun i h => absurd h (by simp)⟩
theorem Rows.mono {α : Type} {R : Rp α} {m m' : Snap} {us : List Value} {xss : List (List α)} (hm : Sle m m') (h : Rows R m us xss) : Rows R m' us xss := ⟨h.1, fun i hi => let ⟨u, h1, h2⟩ := h.2 i hi; ⟨u, h1, h2.mono hm⟩⟩
theorem Rows.snoc {α : Type} {R : Rp α} {m : Snap} {us : List Value} {xss : List (List α)} {u : Value} {xs : List α} (h : Rows R m us xss) (hu : RS R m u xs) : Rows R m (us ++ [u]) (xss ++ [xs]) := by
  refine ⟨by simp [h.1], fun i hi => ?_⟩
  simp only [List.length_append, List.length_cons, List.length_nil] at hi
  by_cases hlt : i < xss.length
  · obtain ⟨u', h1, h2⟩ := h.2 i hlt
    exact ⟨u', by rw [List.getElem?_append_left (by rw [h.1]; exact hlt)]; exact h1, by rw [List.getElem_append_left hlt]; exact h2⟩
  · have : i = xss.length := by omega
    subst this
    exact ⟨u, by rw [← h.1]; simp, by simpa using hu⟩
theorem RS_of_rows {α : Type} {R : Rp α} {m : Snap} {v : Value} {us : List Value} {xss : List (List α)} {e : TypeId} {L : Part} (h : hown e 1 v xss.length us L) (hr : Rows R m us xss) (hL : ∀ q ∈ L, m q.1 = some q.2) : RS R.slice m v xss := by
  obtain ⟨hcl, h⟩ := h
  rcases h with ⟨rfl, hk, rfl⟩ | ⟨b, cap, cur, rfl, rfl, h2, h3, h4, htake⟩
  · obtain rfl : xss = [] := List.eq_nil_of_length_eq_zero hk
    exact RS.nil _ _
  · refine ⟨⟨_, _, rfl, h2⟩, by omega, fun i hi => ?_⟩
    obtain ⟨u, hu, hRu⟩ := hr.2 i hi
    refine ⟨[u], ⟨u, rfl, hRu⟩, b, 0, _, _, rfl, fun j u' hj => ?_⟩
    match j, hj with
    | 0, hj =>
      simp at hj
      subst hj
      rw [← htake, List.getElem?_take] at hu
      split at hu
      · have hmb := hL (b, Obj.cells cur e (0, 0)) (by simp)
        have e1 : R.slice.n = 1 := rfl
        simp only [cellM, hmb, Nat.zero_add, e1, Nat.mul_one, Nat.add_zero]
        simpa using hu
      · cases hu
theorem Rows.get {α : Type} {R : Rp α} {m : Snap} {us : List Value} {xss : List (List α)} (h : Rows R m us xss) {i : Int} {xs : List α} (hg : geti xss i = some xs) : ∃ u, us[i.toNat]? = some u ∧ RS R m u xs := by
  obtain ⟨_, _, h2⟩ := geti_some hg
  obtain ⟨hlt, he⟩ := List.getElem?_eq_some_iff.1 h2
  obtain ⟨u, h3, h4⟩ := h.2 i.toNat hlt
  exact ⟨u, h3, by rw [← he]; exact h4⟩

/-- An owned slice, frozen. -/
theorem cX_freeze {α : Type} {n : Nat} {enc : α → List Value} (he : ∀ x, (enc x).length = n) {w0 w : World} {x : SX} {p : Nat} {v : Value} {xs : List α} {e : TypeId} (hc : cX w0 x w) (hl : x.l[p]? = some (hown e n v xs.length (xs.flatMap enc))) :
    ∃ m2, Sle x.m m2 ∧ RS (.flat n enc he) m2 v xs ∧ cX w0 ⟨m2, x.l.eraseIdx p⟩ w := by
  obtain ⟨m2, h1, h2, ⟨L2, h3, h4⟩, _⟩ := cX_lend hc hl lone_own
  exact ⟨m2, h1, RS_of_own h3 h4, h2⟩
theorem cX_freezeR {α : Type} {R : Rp α} {w0 w : World} {x : SX} {p : Nat} {v : Value} {us : List Value} {xss : List (List α)} {e : TypeId} (hc : cX w0 x w) (hr : Rows R x.m us xss) (hl : x.l[p]? = some (hown e 1 v xss.length us)) :
    ∃ m2, Sle x.m m2 ∧ RS R.slice m2 v xss ∧ cX w0 ⟨m2, x.l.eraseIdx p⟩ w := by
  obtain ⟨m2, h1, h2, ⟨L2, h3, h4⟩, _⟩ := cX_lend hc hl lone_own
  exact ⟨m2, h1, RS_of_rows h3 (hr.mono h1) h4, h2⟩
end Go.Proofs.Ytkdhckiljfjanaa.Sy
