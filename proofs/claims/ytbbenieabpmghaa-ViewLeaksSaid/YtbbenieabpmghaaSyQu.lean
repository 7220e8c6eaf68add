/- Queues: a slice of the call's own that may begin within its block (queue = queue[1:]); no program in sight. -/
import Derived.Test.YtbbenieabpmghaaSyZ
namespace Go.Proofs.Ytbbenieabpmghaa.Sy
set_option linter.unusedVariables false
section
def hq (e : TypeId) (n : Nat) (v : Value) (k : Nat) (cells : List Value) : HI := fun L =>
  cells.length = k * n ∧ ((v = .slice none 0 0 ∧ k = 0 ∧ L = []) ∨
    ∃ b off cap cur, v = .slice (some ⟨b, off, none⟩) k cap ∧ L = [(b, .cells cur e (0, 0))] ∧ k ≤ cap ∧ cap ≤ 9223372036854775807 ∧ off + cap * n ≤ cur.size ∧ (cur.toList.drop off).take (k * n) = cells)
abbrev hqT {α : Type} (e : TypeId) (n : Nat) (enc : α → List Value) (v : Value) (xs : List α) : HI := hq e n v xs.length (xs.flatMap enc)
theorem hq_of_own {e : TypeId} {n : Nat} {v : Value} {k : Nat} {cells : List Value} {L : Part} (h : hown e n v k cells L) : hq e n v k cells L := by
  obtain ⟨h1, h2⟩ := h
  refine ⟨h1, ?_⟩
  rcases h2 with h2 | ⟨b, cap, cur, rfl, rfl, h3, h4, h5, h6⟩
  · exact .inl h2
  · exact .inr ⟨b, 0, cap, cur, rfl, rfl, h3, h4, by omega, by simpa using h6⟩
theorem cX_toQ {w0 w : World} {m : Snap} {l : List HI} {p : Nat} {e : TypeId} {n : Nat} {v : Value} {k : Nat} {cells : List Value} (hl : l[p]? = some (hown e n v k cells)) (hc : cX w0 ⟨m, l⟩ w) : cX w0 ⟨m, l.set p (hq e n v k cells)⟩ w := by
  obtain ⟨m', L1, L2, L3, hm, hit, hh, hset⟩ := cX_at hc hl
  exact ⟨m', hm, _, hset _ L2 (hq_of_own hit), hh⟩
theorem hq_drop {e : TypeId} {n : Nat} {v : Value} {k h : Nat} {cells : List Value} {L : Part} (hk : h ≤ k) (hi : hq e n v k cells L) : hq e n (slFrom n v h) (k - h) (cells.drop (h * n)) L := by
  obtain ⟨h1, h2⟩ := hi
  refine ⟨by rw [List.length_drop, h1, Nat.sub_mul], ?_⟩
  rcases h2 with ⟨rfl, rfl, rfl⟩ | ⟨b, off, cap, cur, rfl, rfl, h3, h4, h5, h6⟩
  · have : h = 0 := by omega
    subst this
    exact .inl ⟨by simp [slFrom], rfl, rfl⟩
  · have hcn : h * n ≤ cap * n := Nat.mul_le_mul_right _ (by omega)
    have hkn : h * n ≤ k * n := Nat.mul_le_mul_right _ hk
    by_cases hc : cap = h
    · have hkk : k = h := by omega
      subst hc; subst hkk
      refine .inr ⟨b, off, 0, cur, by simp [slFrom], rfl, by omega, by omega, by omega, ?_⟩
      rw [← h6]; simp
    · refine .inr ⟨b, off + h * n, cap - h, cur, by simp [slFrom, hc, add_none], rfl, by omega, by omega, by rw [Nat.sub_mul]; omega, ?_⟩
      rw [← h6, List.drop_take, List.drop_drop, ← Nat.sub_mul]
theorem cX_dropQ {w0 w : World} {m : Snap} {l : List HI} {p : Nat} {e : TypeId} {n : Nat} {v : Value} {k h : Nat} {cells : List Value} (hk : h ≤ k) (hl : l[p]? = some (hq e n v k cells)) (hc : cX w0 ⟨m, l⟩ w) : cX w0 ⟨m, l.set p (hq e n (slFrom n v h) (k - h) (cells.drop (h * n)))⟩ w := by
  obtain ⟨m', L1, L2, L3, hm, hit, hh, hset⟩ := cX_at hc hl
  exact ⟨m', hm, _, hset _ L2 (hq_drop hk hit), hh⟩
theorem hq_slice {e : TypeId} {n k : Nat} {v : Value} {cells : List Value} {L : Part} (h : hq e n v k cells L) : ∃ a cap, v = .slice a k cap ∧ k ≤ cap := by
  rcases h.2 with ⟨rfl, rfl, _⟩ | ⟨b, off, cap, cur, rfl, _, h3, _⟩
  · exact ⟨none, 0, rfl, Nat.le_refl _⟩
  · exact ⟨_, _, rfl, h3⟩
theorem q_cell {e : TypeId} {n : Nat} {v : Value} {kk k : Nat} {cells : List Value} {u : Value} {w0 w : World} {m' : Snap} {L1 L2 L3 : Part} (hit : hq e n v kk cells L2) (hh : Hp m' (L1 ++ L2 ++ L3) w0 w) (hu : cells[k]? = some u) :
    ∃ b off cap, v = .slice (some ⟨b, off, none⟩) kk cap ∧ w.cell? ⟨b, off + k, none⟩ = some u := by
  obtain ⟨hlen, hit⟩ := hit
  have hlt := (List.getElem?_eq_some_iff.1 hu).1
  rcases hit with ⟨_, hk, _⟩ | ⟨b, off, cap, cur, rfl, rfl, _, _, _, htake⟩
  · subst hk; rw [Nat.zero_mul] at hlen; omega
  · refine ⟨b, off, cap, rfl, ?_⟩
    rw [hh.cell (b := b) (c := cur) (t := e) (fr := (0, 0)) (by simp) (off + k)]
    rw [← htake, List.getElem?_take] at hu
    split at hu
    · simpa [List.getElem?_drop] using hu
    · cases hu

variable {P : Program} {w0 : World} {env : Env} {x : SX} {o : Oper} {α : Type} {n : Nat} {enc : α → List Value}
theorem Yd.lenQ {p : Nat} {k : Nat} {v : Value} {cells : List Value} {q : Operand} {t e e' : TypeId} (hl : x.l[p]? = some (hq e n v k cells)) (ho : o.op = .call { callee := .builtin .len, args := #[q], argTypes := #[t] }) (ht : P.underlying t = some (.slice e')) (hq' : Ev env q v) :
    Yd P w0 env x o (.int .i64 k) :=
  Yd.pure fun N f hf w hc => by
    obtain ⟨_, _, L2, _, _, hit, _⟩ := cX_at hc hl
    obtain ⟨a, cap, rfl, _⟩ := hq_slice hit
    simp [execOp, ho, resolve, hq'.eval hf, invoke, builtin, Builtin.len_, run_underlying ht, goInt]
theorem Yd.idxQ {xs : List α} {y : α} {pos : Nat} {v : Value} {p q : Operand} {t e e' : TypeId} {k : IntKind} {i : Int} (hl : x.l[pos]? = some (hqT e' n enc v xs)) (hy : geti xs i = some y) (ho : o.op = .indexAddr t p q) (ht : P.underlying t = some (.slice e))
    (hn : (P.info? e).map (·.size) = some n) (hp : Ev env p v) (hq' : Ev env q (.int k i)) : Yd P w0 env x o (adr v (i.toNat * n)) := by
  obtain ⟨h0, h1, h2⟩ := geti_some hy
  exact Yd.pure fun N f hf w hc => by
    obtain ⟨_, _, L2, _, _, hit, _⟩ := cX_at hc hl
    rcases hit.2 with ⟨rfl, hk, _⟩ | ⟨b, off, cap, cur, rfl, _⟩
    · omega
    · simp [execOp, ho, hp.eval hf, hq'.eval hf, run_index w ht hn h0 h1, adr]
theorem Yd.ldQ {pos : Nat} {v u : Value} {xs : List α} {y : α} {i : Int} {e t : TypeId} {p : Operand} (he : ∀ x, (enc x).length = n) (hl : x.l[pos]? = some (hqT e n enc v xs)) (hy : geti xs i = some y) (hu : enc y = [u]) (ho : o.op = .load t p) (h1 : one P t = true) (hp : Ev env p (adr v (i.toNat * n))) : Yd P w0 env x o u :=
  Yd.pure fun N f hf w hc => by
    obtain ⟨m', L1, L2, L3, _, hit, hh, _⟩ := cX_at hc hl
    have hc' : (xs.flatMap enc)[i.toNat * n]? = some u := by have := flat_get he hy (f := 0) (u := u) (by rw [hu]; rfl); simpa using this
    obtain ⟨b, off, cap, rfl, hcell⟩ := q_cell hit hh hc'
    have hr := run_load_one (P := P) (w := w) h1 hcell
    simp [execOp, ho, hp.eval hf, adr, hr]
theorem Yd.ldQs {pos : Nat} {v : Value} {us : List Value} {xs : List α} {y : α} {i : Int} {e t : TypeId} {p : Operand} (he : ∀ x, (enc x).length = n) (hl : x.l[pos]? = some (hqT e n enc v xs)) (hy : geti xs i = some y) (hu : enc y = us) (h0 : 0 < n) (ho : o.op = .load t p) (h1 : one P t = false) (hs : (P.underlying t).isSome = true) (hn : (P.info? t).map (·.size) = some n)
    (hp : Ev env p (adr v (i.toNat * n))) : Yd P w0 env x o (.agg us.toArray) :=
  Yd.pure fun N f hf w hc => by
    obtain ⟨m', L1, L2, L3, _, hit, hh, _⟩ := cX_at hc hl
    have hle : us.length = n := by rw [← hu]; exact he y
    have key : ∀ j u, us[j]? = some u → (xs.flatMap enc)[i.toNat * n + j]? = some u := fun j u hj => flat_get he hy (f := j) (by rw [hu]; exact hj)
    obtain ⟨u0, hu0⟩ : ∃ u0, us[0]? = some u0 := ⟨us[0]'(by omega), List.getElem?_eq_getElem (by omega)⟩
    obtain ⟨b, off, cap, rfl, _⟩ := q_cell hit hh (key 0 u0 hu0)
    have hr := run_load_agg (P := P) (w := w) (b := b) (i := off + i.toNat * n) h1 hs hn hle (fun j u hj => by
      obtain ⟨b', off', cap', hv, hcell⟩ := q_cell hit hh (key j u hj)
      cases hv
      rw [Nat.add_assoc]; exact hcell)
    simp [execOp, ho, hp.eval hf, adr, hr]
theorem Yd.slFromQ {pos k : Nat} {e e' t : TypeId} {v : Value} {cells : List Value} {p q : Operand} {h : Int} (hl : x.l[pos]? = some (hq e' n v k cells)) (ho : o.op = .slice t p (some q) none none) (ht : P.underlying t = some (.slice e)) (hi : (P.info? e).map (·.size) = some n)
    (hp : Ev env p v) (hq' : Ev env q (.int .i64 h)) (h0 : 0 ≤ h) (h1 : h ≤ k) : Yd P w0 env x o (Sy.slFrom n v h.toNat) :=
  Yd.pure fun N f hf w hc => by
    obtain ⟨inf, hi', hn⟩ := Option.map_eq_some_iff.1 hi
    obtain ⟨m', L1, L2, L3, _, hit, _, _⟩ := cX_at hc hl
    rcases hit.2 with ⟨rfl, hk, _⟩ | ⟨b, off, cap, cur, rfl, _, h2, _⟩
    · obtain rfl : h = 0 := by omega
      simp [execOp, ho, hp.eval hf, hq'.eval hf, Instr.sliceAt, Instr.slice, run_underlying ht, sizeOf, typeInfo, hi', Instr.sliceBounds, Instr.sliceBound, asIntOf, Sy.slFrom]
    · have hb : 0 ≤ h ∧ h ≤ (k : Int) := ⟨h0, h1⟩
      have hc2 : (0 : Int) ≤ (k : Int) ∧ (k : Int) ≤ (cap : Int) := by omega
      simp [execOp, ho, hp.eval hf, hq'.eval hf, Instr.sliceAt, Instr.slice, run_underlying ht, sizeOf, typeInfo, hi', Instr.sliceBounds, Instr.sliceBound, asIntOf, Sy.slFrom, hb, hc2, hn]

theorem run_append_off {w : World} (t ty e : TypeId) (i : TypeInfo) (ht : P.underlying t = some (.slice e)) (hi : P.info? e = some i)
    (g off sLen sCap : Nat) (cur : Array Value) (hg : w.heap[g]? = some (.cells cur e (0, 0)))
    (a : Addr) (m c : Nat) (news : List Value) (hl : news.length = m * i.size) (hnews : ∀ j u, news[j]? = some u → w.cell? (a.add j) = some u) (h1 : ∀ u ∈ news, u.oneCell' = true)
    (hroom : sLen + m ≤ sCap) (hfit : off + sLen * i.size + news.length ≤ cur.size) :
    (Builtin.append_ #[t, t] ty #[.slice (some ⟨g, off, none⟩) sLen sCap, .slice (some a) m c]).run P w =
      .ok (.slice (some ⟨g, off, none⟩) (sLen + m) sCap) (w.setRow g (cur.toList.take (off + sLen * i.size) ++ news ++ cur.toList.drop (off + sLen * i.size + news.length)).toArray) := by
  have hf := run_firstCells_some (P := P) w i.size m a m c news hl hnews
  have hst := run_storeCells_at P g (off + sLen * i.size) e news 0 cur w hg (by simpa using hfit) h1
  simp only [Nat.add_zero] at hst
  simp [Builtin.append_, run_underlying ht, sizeOf, typeInfo, hi, Builtin.lenOf, hroom, hf, Addr.add_lit, hst]

theorem Ef.appQ {pos k mm : Nat} {e t : TypeId} {v vs : Value} {cells news : List Value} {inf : TypeInfo} {z : Value} {p q : Operand} {bytes : Nat} (hl : x.l[pos]? = some (hq e n v k cells)) (ho : o.op = .call { callee := .builtin .append, args := #[p, q], argTypes := #[t, t] })
    (ht : P.underlying t = some (.slice e)) (hi : P.info? e = some inf) (hz : inf.zero = some z) (hn : inf.size = n) (hby : inf.bytes = bytes) (hzs : z.cells.size = n) (h0 : 0 < n) (hp : Ev env p v) (hq' : Ev env q vs) (hs : Src w0 x vs mm news) (hnl : news.length = mm * n) (h1 : news.all Value.oneCell' = true) (hm0 : 0 < mm)
    (hroom : (k + mm) * bytes ≤ 140737488355328) (h63 : k + mm ≤ 140737488355328) : Ef P w0 env x o (fun v' x' => x' = ⟨x.m, x.l.set pos (hq e n v' (k + mm) (cells ++ news))⟩) :=
  Ef.mk fun N f hf w hc => by
    subst hn hby
    obtain ⟨a, c, rfl, hsrc⟩ := hs w hc
    obtain ⟨m', L1, L2, L3, hm, hit, hh, hset⟩ := cX_at hc hl
    have hit0 := hit
    obtain ⟨hcl, hit⟩ := hit
    have hlen : (cells ++ news).length = (k + mm) * inf.size := by rw [List.length_append, hcl, hnl, Nat.add_mul]
    have fin : ∀ {v' : Value} {w' : World}, (Builtin.append_ #[t, t] o.type #[v, .slice a mm c]).run P w = .ok v' w' → (∃ L2', hq e inf.size v' (k + mm) (cells ++ news) L2' ∧ Hp m' (L1 ++ L2' ++ L3) w0 w') →
        ∃ u w'' x', ((execOp f.eval o).run P w = .ok (.value u) w'' ∨ ((execOp f.eval o).run P w = .ok .skip w'' ∧ u = undef)) ∧ x' = ⟨x.m, x.l.set pos (hq e inf.size u (k + mm) (cells ++ news))⟩ ∧ cX w0 x' w'' := by
      rintro v' w' hr ⟨L2', h1', h2'⟩
      refine ⟨v', w', _, .inl ?_, rfl, m', hm, _, hset _ L2' h1', h2'⟩
      simp [execOp, ho, resolve, hp.eval hf, hq'.eval hf, invoke, builtin, hr]
    obtain ⟨sb, soff, rfl, hnews⟩ := hsrc.resolve_left (by omega)
    have hnews' : ∀ j u, news[j]? = some u → w.cell? ((⟨sb, soff, none⟩ : Addr).add j) = some u := fun j u hu => by rw [add_none]; exact hnews j u hu
    have mkGrow : ∀ (old : Nat), old < k + mm → hq e inf.size (.slice (some ⟨w.heap.size, 0, none⟩) (k + mm) (grownCap w (k + mm) old e)) (k + mm) (cells ++ news)
        [(w.heap.size, .cells (cells.toArray ++ news.toArray ++ Builtin.zeroCells z.cells (grownCap w (k + mm) old e - (k + mm))) e (0, 0))] := by
      intro old ho'
      have hge := grownCap_ge w (k + mm) old e
      have hcm : grownCap w (k + mm) old e ≤ 9223372036854775807 := by have := grownCap_le_maxLen w (k + mm) old e (by unfold maxLen; omega); unfold maxLen at this; exact this
      refine ⟨hlen, .inr ⟨w.heap.size, 0, _, _, rfl, rfl, hge, hcm, ?_, ?_⟩⟩
      · simp only [Array.size_append, List.size_toArray, size_zeroCells, hzs, hcl, hnl, ← Nat.add_mul]
        rw [Nat.zero_add]
        exact Nat.mul_le_mul_right _ (by omega)
      · simp only [Array.toList_append, List.append_assoc, List.drop_zero]
        rw [← List.append_assoc, ← hlen]
        exact List.take_left
    have place : ∀ {L2' : Part} {w' : World} {o' : Obj}, L2' = [(w.heap.size, o')] → w'.os = w.os → w'.output = w.output → w'.heap = w.heap.push o' → Hp m' (L1 ++ L2' ++ L3) w0 w' := by
      rintro L2' w' o' rfl e1 e2 e3
      have h3 : Hp m' (L1 ++ L3) w0 w := hh.sub (by simp)
      exact (h3.alloc e1 e2 e3).perm (by simpa using (List.perm_middle (a := (w.heap.size, o')) (l₁ := L1) (l₂ := L3)).symm)
    rcases hit with ⟨rfl, rfl, rfl⟩ | ⟨b, off, cap, cur, rfl, rfl, h2, h3, h4, htake⟩
    · obtain rfl : cells = [] := List.eq_nil_of_length_eq_zero (by simpa using hcl)
      have hr := run_append_nil (P := P) w t o.type e inf z ht hi hz ⟨sb, soff, none⟩ mm c news hnl hnews' (by omega) (by omega) (by have hb := hroom; simp only [Nat.zero_add] at hb; omega)
      have hg := mkGrow 0 (by omega)
      simp only [Nat.zero_add, List.nil_append, Array.empty_append] at hg ⊢
      simp only [Nat.zero_add, List.nil_append] at fin
      exact fin hr ⟨_, hg, place rfl rfl rfl rfl⟩
    · have hb : w.heap[b]? = some (.cells cur e (0, 0)) := hh.own (b, _) (by simp)
      have hkc : k * inf.size ≤ cap * inf.size := Nat.mul_le_mul_right _ h2
      by_cases hroom' : k + mm ≤ cap
      · have hfit : off + k * inf.size + news.length ≤ cur.size := by
          have : (k + mm) * inf.size ≤ cap * inf.size := Nat.mul_le_mul_right _ hroom'
          rw [Nat.add_mul] at this
          omega
        have hr := run_append_off (P := P) (w := w) t o.type e inf ht hi b off k cap cur hb ⟨sb, soff, none⟩ mm c news hnl hnews' (fun u hu => List.all_eq_true.1 h1 u hu) hroom' hfit
        refine fin hr ⟨[(b, .cells (cur.toList.take (off + k * inf.size) ++ news ++ cur.toList.drop (off + k * inf.size + news.length)).toArray e (0, 0))], ⟨hlen, .inr ⟨b, off, cap, _, rfl, rfl, hroom', h3, ?_, ?_⟩⟩,
          hh.setObj (w' := w.setRow b _) rfl rfl (setRow_heap w b _ _ e _ hb) (fun k hk => setRow_other' w b k _ hk)⟩
        · simp only [List.size_toArray, List.length_append, List.length_take, List.length_drop, Array.length_toList]
          omega
        · have e1 : (cur.toList.take (off + k * inf.size)).drop off = cells := by rw [← htake, List.drop_take]; congr 1; omega
          have e2 : off ≤ (cur.toList.take (off + k * inf.size)).length := by rw [List.length_take, Array.length_toList]; omega
          show ((cur.toList.take (off + k * inf.size) ++ news ++ cur.toList.drop (off + k * inf.size + news.length)).drop off).take _ = _
          rw [List.append_assoc, List.drop_append_of_le_length e2, e1, ← List.append_assoc, ← hlen]
          exact List.take_left
      · have holds : ∀ j u, cells[j]? = some u → w.cell? ((⟨b, off, none⟩ : Addr).add j) = some u := fun j u hu => by
          obtain ⟨b', off', cap', hv, hcell⟩ := q_cell hit0 hh hu
          cases hv
          rw [add_none]; exact hcell
        have hr := run_append_grow (P := P) w t o.type e inf z ht hi hz ⟨b, off, none⟩ k cap cells hcl holds ⟨sb, soff, none⟩ mm c news hnl hnews' (by omega) (by omega) (growslice_fits (by omega) hroom)
        exact fin hr ⟨_, mkGrow cap (by omega), place rfl rfl rfl rfl⟩
theorem Ef.apQ {pos : Nat} {e t : TypeId} {v vs : Value} {xs ys : List α} {z : Value} {p q : Operand} {bytes : Nat} (he : ∀ x, (enc x).length = n) (hI : (P.info? e).map (fun i => (i.zero, i.size, i.bytes)) = some (some z, n, bytes)) (hl : x.l[pos]? = some (hqT e n enc v xs)) (ho : o.op = .call { callee := .builtin .append, args := #[p, q], argTypes := #[t, t] })
    (ht : P.underlying t = some (.slice e)) (hzs : z.cells.size = n) (h0 : 0 < n) (hp : Ev env p v) (hq' : Ev env q vs) (hs : Src w0 x vs ys.length (ys.flatMap enc)) (h1 : ∀ y, (enc y).all Value.oneCell' = true) (hm0 : 0 < ys.length)
    (hroom : (xs.length + ys.length) * bytes ≤ 140737488355328) (h63 : xs.length + ys.length ≤ 140737488355328) : Ef P w0 env x o (fun v' x' => x' = ⟨x.m, x.l.set pos (hqT e n enc v' (xs ++ ys))⟩) := by
  obtain ⟨i, hi, hz, hn, hby⟩ := info_parts hI
  have h := Ef.appQ (P := P) (w0 := w0) (env := env) (o := o) hl ho ht hi hz hn hby hzs h0 hp hq' hs (flat_length he ys) (by
    rw [List.all_eq_true]
    intro u hu
    obtain ⟨y, _, hy⟩ := List.mem_flatMap.1 hu
    exact List.all_eq_true.1 (h1 y) u hy) hm0 hroom h63
  rw [← List.length_append, ← List.flatMap_append] at h
  exact h
theorem cX_dropQT (he : ∀ x, (enc x).length = n) {w0 w : World} {m : Snap} {l : List HI} {p : Nat} {e : TypeId} {v : Value} {h : Nat} {xs : List α} (hk : h ≤ xs.length) (hl : l[p]? = some (hqT e n enc v xs)) (hc : cX w0 ⟨m, l⟩ w) : cX w0 ⟨m, l.set p (hqT e n enc (slFrom n v h) (xs.drop h))⟩ w := by
  have := cX_dropQ hk hl hc
  rw [flat_dropX he, ← List.length_drop] at this
  exact this
theorem Yd.eqnilO {pos : Nat} {v : Value} {xs : List α} {p q : Operand} {t t' e e' : TypeId} (hl : x.l[pos]? = some (hownT e n enc v xs)) (hnn : xs = [] → v = .slice none 0 0) (ho : o.op = .binOp .eql t p q t') (ht : P.underlying t = some (.slice e')) (hp : Ev env p v) (hq' : Ev env q (.slice none 0 0)) : Yd P w0 env x o (.bool xs.isEmpty) :=
  Yd.pure fun N f hf w hc => by
    obtain ⟨_, _, L2, _, _, hit, _⟩ := cX_at hc hl
    rcases hit.2 with ⟨rfl, hk, _⟩ | ⟨b, cap, cur, rfl, _⟩
    · have hx : xs = [] := List.eq_nil_of_length_eq_zero hk
      have he := run_equal_slice_nil (P := P) w t e' none 0 0 ht
      simp [execOp, ho, hp.eval hf, hq'.eval hf, eqGuard, binOp, he, hx]
    · have hx : xs ≠ [] := fun h => by have := hnn h; cases this
      have he := run_equal_slice_nil (P := P) w t e' (some ⟨b, 0, none⟩) xs.length cap ht
      simp [execOp, ho, hp.eval hf, hq'.eval hf, eqGuard, binOp, he, hx]
theorem Yd.nenilO {pos : Nat} {v : Value} {xs : List α} {p q : Operand} {t t' e e' : TypeId} (hl : x.l[pos]? = some (hownT e n enc v xs)) (hnn : xs = [] → v = .slice none 0 0) (ho : o.op = .binOp .neq t p q t') (ht : P.underlying t = some (.slice e')) (hp : Ev env p v) (hq' : Ev env q (.slice none 0 0)) : Yd P w0 env x o (.bool (!xs.isEmpty)) :=
  Yd.pure fun N f hf w hc => by
    obtain ⟨_, _, L2, _, _, hit, _⟩ := cX_at hc hl
    rcases hit.2 with ⟨rfl, hk, _⟩ | ⟨b, cap, cur, rfl, _⟩
    · have hx : xs = [] := List.eq_nil_of_length_eq_zero hk
      have he := run_equal_slice_nil (P := P) w t e' none 0 0 ht
      simp [execOp, ho, hp.eval hf, hq'.eval hf, eqGuard, binOp, he, hx]
    · have hx : xs ≠ [] := fun h => by have := hnn h; cases this
      have he := run_equal_slice_nil (P := P) w t e' (some ⟨b, 0, none⟩) xs.length cap ht
      simp [execOp, ho, hp.eval hf, hq'.eval hf, eqGuard, binOp, he, hx]
end
end Go.Proofs.Ytbbenieabpmghaa.Sy
