/- Words of 64 bits; slices cut at their head; copying (own lemmas); no program in sight. -/
import Derived.Test.YtkdhckiljfjanaaSyU
namespace Go.Proofs.Ytkdhckiljfjanaa.Sy
open Go

theorem wrap_u64 (b : BitVec 64) : IntKind.u64.wrap (b.toNat : Int) = b.toNat := by
  unfold IntKind.wrap
  simp only [IntKind.bits, IntKind.signed]
  have := b.isLt
  simp
  omega
theorem ofInt_u64 (a : BitVec 64) : BitVec.ofInt 64 (a.toNat : Int) = a := by simp
section
variable {P : Program} {w0 : World} {env : Env} {x : SX} {o : Oper} {t t' : TypeId} {p q : Operand} {a b : BitVec 64}
theorem Yd.andQ (ho : o.op = .binOp .and t p q t') (hp : Ev env p (.int .u64 a.toNat)) (hq : Ev env q (.int .u64 b.toNat)) : Yd P w0 env x o (.int .u64 (a &&& b).toNat) :=
  Yd.bin ho (by decide) hp hq fun w => by
    show Result.ok (Value.int .u64 (IntKind.u64.wrap (BitVec.ofInt 64 (a.toNat : Int) &&& BitVec.ofInt 64 (b.toNat : Int)).toNat)) w = _
    rw [ofInt_u64, ofInt_u64, wrap_u64]
theorem Yd.addQ (ho : o.op = .binOp .add t p q t') (hp : Ev env p (.int .u64 a.toNat)) (hq : Ev env q (.int .u64 b.toNat)) : Yd P w0 env x o (.int .u64 (a + b).toNat) :=
  Yd.bin ho (by decide) hp hq fun w => by
    show Result.ok (Value.int .u64 (IntKind.u64.wrap ((a.toNat : Int) + (b.toNat : Int)))) w = _
    have : IntKind.u64.wrap ((a.toNat : Int) + (b.toNat : Int)) = ((a + b).toNat : Int) := by
      unfold IntKind.wrap
      simp only [IntKind.bits, IntKind.signed, BitVec.toNat_add]
      simp
    rw [this]
theorem Yd.mulQ (ho : o.op = .binOp .mul t p q t') (hp : Ev env p (.int .u64 a.toNat)) (hq : Ev env q (.int .u64 b.toNat)) : Yd P w0 env x o (.int .u64 (a * b).toNat) :=
  Yd.bin ho (by decide) hp hq fun w => by
    show Result.ok (Value.int .u64 (IntKind.u64.wrap ((a.toNat : Int) * (b.toNat : Int)))) w = _
    have : IntKind.u64.wrap ((a.toNat : Int) * (b.toNat : Int)) = ((a * b).toNat : Int) := by
      unfold IntKind.wrap
      simp only [IntKind.bits, IntKind.signed, BitVec.toNat_mul]
      simp
    rw [this]
theorem u64_shr (a : BitVec 64) (k : Nat) : (a.toNat : Int).fdiv (2 ^ (min k 64)) = ((a >>> k).toNat : Int) := by
  rw [BitVec.toNat_ushiftRight, Nat.shiftRight_eq_div_pow]
  rcases Nat.lt_or_ge k 64 with h | h
  · rw [Nat.min_eq_left (by omega), Int.fdiv_eq_ediv_of_nonneg _ (Int.le_of_lt (Int.pow_pos (by decide)))]
    norm_cast
  · rw [Nat.min_eq_right h, Int.fdiv_eq_ediv_of_nonneg _ (Int.le_of_lt (Int.pow_pos (by decide)))]
    have h1 : a.toNat < 2 ^ k := Nat.lt_of_lt_of_le a.isLt (Nat.pow_le_pow_right (by decide) h)
    rw [Nat.div_eq_of_lt h1, Int.ediv_eq_zero_of_lt (Int.natCast_nonneg _) (by have := a.isLt; norm_cast)]
    rfl
theorem Yd.shrQ {k : IntKind} {b : Int} (ho : o.op = .binOp .shr t p q t') (hp : Ev env p (.int .u64 a.toNat)) (hq : Ev env q (.int k b)) (hb : 0 ≤ b) : Yd P w0 env x o (.int .u64 (a >>> b.toNat).toNat) :=
  Yd.bin ho (by decide) hp hq fun w => by
    show (Op.shift .shr .u64 (a.toNat : Int) k b).run P w = _
    unfold Op.shift
    rw [if_neg (by omega)]
    show Result.ok (Value.int .u64 ((a.toNat : Int).fdiv (2 ^ (min b.toNat 64)))) w = _
    rw [u64_shr]
end

/-! ### A slice from a place on -/
def slFrom (n : Nat) (v : Value) (lo : Nat) : Value :=
  match v with
  | .slice a k c => .slice (if c = lo then a else a.map (·.add (lo * n))) (k - lo) (c - lo)
  | _ => undef
section
variable {P : Program} {w0 : World} {env : Env} {x : SX} {o : Oper}
theorem Yd.slFrom {pos n k : Nat} {e e' t : TypeId} {v : Value} {cells : List Value} {p q : Operand} {h : Int} (hl : x.l[pos]? = some (hown e' n v k cells)) (ho : o.op = .slice t p (some q) none none) (ht : P.underlying t = some (.slice e)) (hi : (P.info? e).map (·.size) = some n)
    (hp : Ev env p v) (hq : Ev env q (.int .i64 h)) (h0 : 0 ≤ h) (h1 : h ≤ k) : Yd P w0 env x o (Sy.slFrom n v h.toNat) :=
  Yd.pure fun N f hf w hc => by
    obtain ⟨inf, hi', hn⟩ := Option.map_eq_some_iff.1 hi
    obtain ⟨m', L1, L2, L3, _, hit, _, _⟩ := cX_at hc hl
    rcases hit.2 with ⟨rfl, hk, _⟩ | ⟨b, cap, cur, rfl, _, h2, _⟩
    · obtain rfl : h = 0 := by omega
      simp [execOp, ho, hp.eval hf, hq.eval hf, Instr.sliceAt, Instr.slice, run_underlying ht, sizeOf, typeInfo, hi', Instr.sliceBounds, Instr.sliceBound, asIntOf, Sy.slFrom]
    · have hb : 0 ≤ h ∧ h ≤ (k : Int) := ⟨h0, h1⟩
      have hc2 : (0 : Int) ≤ (k : Int) ∧ (k : Int) ≤ (cap : Int) := by omega
      simp [execOp, ho, hp.eval hf, hq.eval hf, Instr.sliceAt, Instr.slice, run_underlying ht, sizeOf, typeInfo, hi', Instr.sliceBounds, Instr.sliceBound, asIntOf, Sy.slFrom, hb, hc2, hn]
/-- What a slice cut at h holds. -/
theorem Src.to {pos n k h : Nat} {e : TypeId} {v : Value} {cells : List Value} (hl : x.l[pos]? = some (hown e n v k cells)) (hh : h ≤ k) : Src w0 x (slTo v h) h (cells.take (h * n)) := by
  intro w hc
  obtain ⟨a, c, rfl, hr⟩ := Src.own hl w hc
  refine ⟨a, c, rfl, ?_⟩
  rcases hr with hr | ⟨b, off, ha, hcell⟩
  · exact .inl (by omega)
  · exact .inr ⟨b, off, ha, fun j u hu => hcell j u (by
      rw [List.getElem?_take] at hu
      split at hu
      · exact hu
      · cases hu)⟩
theorem run_copy_gen (w : World) (dT sT ty elem : TypeId) {n : Nat} (g o' dLen dCap : Nat) (a : Addr) (sLen sCap : Nat) (cur : Array Value) (t : TypeId) (cs : List Value)
    (hu : P.underlying dT = some (.slice elem)) (hs : (P.info? elem).map (·.size) = some n)
    (hg : w.heap[g]? = some (.cells cur t (0, 0))) (hn : cs.length = Nat.min sLen dLen * n)
    (hsrc : ∀ j v, cs[j]? = some v → w.cell? (a.add j) = some v) (hfit : o' + cs.length ≤ cur.size) (h1 : ∀ v ∈ cs, v.oneCell' = true) :
    (Builtin.copy_ #[dT, sT] ty #[.slice (some ⟨g, o', none⟩) dLen dCap, .slice (some a) sLen sCap]).run P w =
      .ok (goInt (Nat.min sLen dLen : Nat)) (w.setRow g (cur.toList.take o' ++ cs ++ cur.toList.drop (o' + cs.length)).toArray) := by
  have hl := run_loadCells_list (P := P) w a cs hsrc
  have hst := run_storeCells_at P g o' t cs 0 cur w hg (by simpa using hfit) h1
  obtain ⟨i, hq, hi⟩ := Option.map_eq_some_iff.1 hs
  rw [hn] at hl
  simp [Builtin.copy_, run_underlying hu, Builtin.lenOf, Builtin.firstCells, sizeOf, typeInfo, hq, hi, hl, hst]
/-- Copying into a slice of the call's own, from a place on. -/
theorem Ef.cpy {pos n kk lo mm : Nat} {cells news cells' : List Value} {e t t' : TypeId} {v vs dv : Value} {p q : Operand} (h0 : 0 < n) (hl : x.l[pos]? = some (hown e n v kk cells)) (hlo : lo ≤ kk) (hdv : ∀ b cap, kk ≤ cap → v = .slice (some ⟨b, 0, none⟩) kk cap → (lo < kk → dv = .slice (some ⟨b, lo * n, none⟩) (kk - lo) (cap - lo)) ∧ ∃ a' c', dv = .slice a' (kk - lo) c') (hnil : v = .slice none 0 0 → dv = .slice none 0 0)
    (ho : o.op = .call { callee := .builtin .copy, args := #[p, q], argTypes := #[t, t'] }) (ht : P.underlying t = some (.slice e)) (hn : (P.info? e).map (·.size) = some n) (hp : Ev env p dv) (hq : Ev env q vs) (hs : Src w0 x vs mm news) (hnl : news.length = mm * n) (h1 : news.all Value.oneCell' = true)
    (hcs : cells.take (lo * n) ++ news.take (Nat.min mm (kk - lo) * n) ++ cells.drop ((lo + Nat.min mm (kk - lo)) * n) = cells') :
    Ef P w0 env x o (fun z x' => z = .int .i64 ((Nat.min mm (kk - lo) : Nat) : Int) ∧ x' = ⟨x.m, x.l.set pos (hown e n v kk cells')⟩) :=
  Ef.mk fun N f hf w hc => by
    obtain ⟨inf, hi', hin⟩ := Option.map_eq_some_iff.1 hn
    obtain ⟨sa, sc, rfl, hsr⟩ := hs w hc
    obtain ⟨m', L1, L2, L3, hm, hit, hh, hset⟩ := cX_at hc hl
    obtain ⟨hcl, hit⟩ := hit
    have same : Nat.min mm (kk - lo) = 0 → cells' = cells := fun hz => by
      rw [← hcs, hz, Nat.zero_mul, List.take_zero, List.append_nil, Nat.add_zero, List.take_append_drop]
    have stay : Nat.min mm (kk - lo) = 0 → ((execOp f.eval o).run P w = .ok (.value (.int .i64 ((Nat.min mm (kk - lo) : Nat) : Int))) w) → ∃ v_1 w' x', ((execOp f.eval o).run P w = .ok (.value v_1) w' ∨ ((execOp f.eval o).run P w = .ok .skip w' ∧ v_1 = undef)) ∧ (v_1 = .int .i64 ((Nat.min mm (kk - lo) : Nat) : Int) ∧ x' = ⟨x.m, x.l.set pos (hown e n v kk cells')⟩) ∧ cX w0 x' w' := fun hz hr => by
      refine ⟨_, w, _, .inl hr, ⟨rfl, rfl⟩, m', hm, L1 ++ L2 ++ L3, ?_, hh⟩
      rw [same hz]
      exact hset _ _ ⟨hcl, hit⟩
    rcases hit with ⟨rfl, hk0, _⟩ | ⟨b, cap, cur, rfl, rfl, h2, h3, h4, htake⟩
    · subst hk0
      have hz : Nat.min mm (0 - lo) = 0 := by
        have : (0 : Nat) - lo = 0 := by omega
        rw [this]; exact Nat.min_zero _
      refine stay hz ?_
      have e1 := hnil rfl
      subst e1
      rw [hz]
      rcases hsr with rfl | ⟨sb', off, rfl, _⟩
      · cases sa <;> simp [execOp, ho, resolve, hp.eval hf, hq.eval hf, invoke, builtin, Builtin.copy_, run_underlying ht, Builtin.lenOf, Builtin.firstCells, sizeOf, typeInfo, hi', goInt, loadCells, loadCellsFrom]
      · simp [execOp, ho, resolve, hp.eval hf, hq.eval hf, invoke, builtin, Builtin.copy_, run_underlying ht, Builtin.lenOf, Builtin.firstCells, sizeOf, typeInfo, hi', goInt, loadCells, loadCellsFrom]
    · obtain ⟨hd1, a', c', hd2⟩ := hdv b cap h2 rfl
      have hb : w.heap[b]? = some (.cells cur e (0, 0)) := hh.own (b, _) (by simp)
      by_cases hz : Nat.min mm (kk - lo) = 0
      · refine stay hz ?_
        subst hd2
        rw [hz]
        have hz' : min mm (kk - lo) = 0 := hz
        cases sa <;> cases a' <;> simp [execOp, ho, resolve, hp.eval hf, hq.eval hf, invoke, builtin, Builtin.copy_, run_underlying ht, Builtin.lenOf, Builtin.firstCells, sizeOf, typeInfo, hi', goInt, loadCells, loadCellsFrom, storeCells, hz']
      · have hpos : 0 < Nat.min mm (kk - lo) := Nat.pos_of_ne_zero hz
        have hm1 : Nat.min mm (kk - lo) ≤ mm := Nat.min_le_left _ _
        have hm2 : Nat.min mm (kk - lo) ≤ kk - lo := Nat.min_le_right _ _
        generalize hcnt : Nat.min mm (kk - lo) = cnt at *
        have hd := hd1 (by omega)
        subst hd
        rcases hsr with hz2 | ⟨sb', off, rfl, hcell⟩
        · omega
        · have hle : cnt * n ≤ mm * n := Nat.mul_le_mul_right _ hm1
          have hlen : (news.take (cnt * n)).length = cnt * n := by rw [List.length_take]; omega
          have hkn : kk * n ≤ cap * n := Nat.mul_le_mul_right _ h2
          have hln : (lo + cnt) * n ≤ kk * n := Nat.mul_le_mul_right _ (by omega)
          rw [Nat.add_mul] at hln
          have hr := run_copy_gen (P := P) w t t' o.type e b (lo * n) (kk - lo) (cap - lo) ⟨sb', off, none⟩ mm sc cur e (news.take (cnt * n)) ht hn hb (by rw [hlen, hcnt]) (fun j u hu => by
            have e3 : (⟨sb', off, none⟩ : Addr).add j = ⟨sb', off + j, none⟩ := by unfold Addr.add; split <;> simp_all
            rw [e3]
            refine hcell j u ?_
            rw [List.getElem?_take] at hu
            split at hu
            · exact hu
            · cases hu) (by rw [hlen]; omega) (fun u hu => List.all_eq_true.1 h1 u (List.mem_of_mem_take hu))
          rw [hcnt, hlen] at hr
          have hnew : (cur.toList.take (lo * n) ++ news.take (cnt * n) ++ cur.toList.drop (lo * n + cnt * n)).take (kk * n) = cells' := by
            rw [← hcs, ← htake, List.take_take, Nat.min_eq_left (by omega)]
            rw [List.take_append, List.take_of_length_le (by rw [List.length_append, List.length_take, hlen]; simp; omega)]
            congr 1
            rw [List.drop_take, Nat.add_mul]
            congr 1
            rw [List.length_append, hlen, List.length_take]
            simp; omega
          have hlen' : cells'.length = kk * n := by rw [← hnew, List.length_take, List.length_append, List.length_append, hlen, List.length_take, List.length_drop]; simp; omega
          refine ⟨.int .i64 (cnt : Int), _, _, .inl ?_, ⟨rfl, rfl⟩, m', hm, _, hset (hown e n _ kk cells') [(b, .cells (cur.toList.take (lo * n) ++ news.take (cnt * n) ++ cur.toList.drop (lo * n + cnt * n)).toArray e (0, 0))] ⟨hlen', .inr ⟨b, cap, _, rfl, rfl, h2, h3, ?_, ?_⟩⟩,
            hh.setObj (w' := w.setRow b (cur.toList.take (lo * n) ++ news.take (cnt * n) ++ cur.toList.drop (lo * n + cnt * n)).toArray) rfl rfl (setRow_heap w b _ _ e _ hb) (fun k hk => setRow_other' w b k _ hk)⟩
          · simp [execOp, ho, resolve, hp.eval hf, hq.eval hf, invoke, builtin, hr, goInt]
          · simp only [List.size_toArray, List.length_append, List.length_take, List.length_drop, hlen, Array.length_toList]; omega
          · simpa using hnew
theorem flat_takeX {α : Type} {n : Nat} {enc : α → List Value} (he : ∀ x, (enc x).length = n) : ∀ (k : Nat) (xs : List α), (xs.flatMap enc).take (k * n) = (xs.take k).flatMap enc
  | 0, xs => by simp
  | k + 1, [] => by simp
  | k + 1, a :: xs => by
    rw [List.take_succ_cons, List.flatMap_cons, List.flatMap_cons, ← flat_takeX he k xs, Nat.add_mul, Nat.one_mul, List.take_append, he a, Nat.add_sub_cancel, List.take_of_length_le (by rw [he a]; omega)]
theorem flat_dropX {α : Type} {n : Nat} {enc : α → List Value} (he : ∀ x, (enc x).length = n) : ∀ (k : Nat) (xs : List α), (xs.flatMap enc).drop (k * n) = (xs.drop k).flatMap enc
  | 0, xs => by simp
  | k + 1, [] => by simp
  | k + 1, a :: xs => by
    rw [List.drop_succ_cons, List.flatMap_cons, ← flat_dropX he k xs, Nat.add_mul, Nat.one_mul, List.drop_append, he a, Nat.add_sub_cancel, List.drop_eq_nil_of_le (by rw [he a]; omega), List.nil_append]
def cpl {α : Type} (lo : Nat) (xs ys : List α) : List α := xs.take lo ++ ys.take (Nat.min ys.length (xs.length - lo)) ++ xs.drop (lo + Nat.min ys.length (xs.length - lo))
theorem cpl_len {α : Type} {lo : Nat} {xs ys : List α} (h : lo ≤ xs.length) : (cpl lo xs ys).length = xs.length := by
  unfold cpl
  have h1 : Nat.min ys.length (xs.length - lo) ≤ ys.length := Nat.min_le_left _ _
  have h2 : Nat.min ys.length (xs.length - lo) ≤ xs.length - lo := Nat.min_le_right _ _
  rw [List.length_append, List.length_append, List.length_take, List.length_take, List.length_drop]
  omega
theorem Src.toT {α : Type} {n : Nat} {enc : α → List Value} (he : ∀ x, (enc x).length = n) {pos h : Nat} {e : TypeId} {v : Value} {xs : List α} (hl : x.l[pos]? = some (hownT e n enc v xs)) (hh : h ≤ xs.length) : Src w0 x (slTo v h) (xs.take h).length ((xs.take h).flatMap enc) := by
  rw [List.length_take, Nat.min_eq_left hh, ← flat_takeX he]
  exact Src.to hl hh
theorem Ef.cpT {α : Type} {n : Nat} {enc : α → List Value} (he : ∀ x, (enc x).length = n) {pos : Nat} {xs ys : List α} {e t t' : TypeId} {v vs : Value} {p q : Operand} (h0 : 0 < n) (hl : x.l[pos]? = some (hownT e n enc v xs))
    (ho : o.op = .call { callee := .builtin .copy, args := #[p, q], argTypes := #[t, t'] }) (ht : P.underlying t = some (.slice e)) (hn : (P.info? e).map (·.size) = some n) (hp : Ev env p v) (hq : Ev env q vs) (hs : Src w0 x vs ys.length (ys.flatMap enc)) (h1 : ∀ y, (enc y).all Value.oneCell' = true) :
    Ef P w0 env x o (fun z x' => z = .int .i64 ((Nat.min ys.length (xs.length - 0) : Nat) : Int) ∧ x' = ⟨x.m, x.l.set pos (hownT e n enc v (cpl 0 xs ys))⟩) := by
  have hc := cpl_len (ys := ys) (Nat.zero_le xs.length)
  unfold hownT
  rw [hc]
  refine Ef.cpy (lo := 0) h0 hl (Nat.zero_le _) (fun b cap hk hv => ?_) (fun hv => hv) ho ht hn hp hq hs (flat_length he ys) ?_ ?_
  · subst hv
    exact ⟨fun _ => by rw [Nat.zero_mul, Nat.sub_zero, Nat.sub_zero], _, _, by rw [Nat.sub_zero]⟩
  · rw [List.all_eq_true]
    intro u hu
    obtain ⟨y, _, hy⟩ := List.mem_flatMap.1 hu
    exact List.all_eq_true.1 (h1 y) u hy
  · unfold cpl
    rw [flat_takeX he, flat_takeX he, flat_dropX he, List.flatMap_append, List.flatMap_append]
theorem Ef.cpF {α : Type} {n : Nat} {enc : α → List Value} (he : ∀ x, (enc x).length = n) {pos lo : Nat} {xs ys : List α} {e t t' : TypeId} {v vs : Value} {p q : Operand} (h0 : 0 < n) (hl : x.l[pos]? = some (hownT e n enc v xs)) (hlo : lo ≤ xs.length)
    (ho : o.op = .call { callee := .builtin .copy, args := #[p, q], argTypes := #[t, t'] }) (ht : P.underlying t = some (.slice e)) (hn : (P.info? e).map (·.size) = some n) (hp : Ev env p (Sy.slFrom n v lo)) (hq : Ev env q vs) (hs : Src w0 x vs ys.length (ys.flatMap enc)) (h1 : ∀ y, (enc y).all Value.oneCell' = true) :
    Ef P w0 env x o (fun z x' => z = .int .i64 ((Nat.min ys.length (xs.length - lo) : Nat) : Int) ∧ x' = ⟨x.m, x.l.set pos (hownT e n enc v (cpl lo xs ys))⟩) := by
  have hc := cpl_len (ys := ys) hlo
  unfold hownT
  rw [hc]
  refine Ef.cpy (lo := lo) h0 hl hlo (fun b cap hk hv => ?_) (fun hv => ?_) ho ht hn hp hq hs (flat_length he ys) ?_ ?_
  · subst hv
    refine ⟨fun hlt => ?_, _, _, rfl⟩
    have hne : ¬cap = lo := by omega
    simp [Sy.slFrom, hne, Addr.add]
    exact fun hz => hz.symm
  · subst hv
    unfold Sy.slFrom
    by_cases e : 0 = lo
    · subst e; rfl
    · simp
  · rw [List.all_eq_true]
    intro u hu
    obtain ⟨y, _, hy⟩ := List.mem_flatMap.1 hu
    exact List.all_eq_true.1 (h1 y) u hy
  · unfold cpl
    rw [flat_takeX he, flat_takeX he, flat_dropX he, List.flatMap_append, List.flatMap_append]
end
theorem RS.to {α : Type} {R : Rp α} {m : Snap} {v : Value} {xs : List α} {k : Nat} (h : RS R m v xs) (hk : k ≤ xs.length) : RS R m (slTo v k) (xs.take k) := by
  obtain ⟨⟨a, c, rfl, hc⟩, hb, hall⟩ := h
  have hl : (xs.take k).length = k := by rw [List.length_take]; omega
  refine ⟨⟨a, c, by rw [hl]; rfl, by omega⟩, by omega, fun i hi => ?_⟩
  rw [hl] at hi
  obtain ⟨cs, h1, b, off, l, c', hv, h2⟩ := hall i (by omega)
  cases hv
  refine ⟨cs, ?_, b, off, _, _, rfl, h2⟩
  rw [List.getElem_take]; exact h1
theorem Yd.slToR {P : Program} {w0 : World} {env : Env} {x : SX} {o : Oper} {α : Type} {R : Rp α} {m : Snap} {v : Value} {xs : List α} {t e : TypeId} {p q : Operand} {k : Int} {inf : TypeInfo} (h : RS R m v xs) (ho : o.op = .slice t p none (some q) none) (ht : P.underlying t = some (.slice e)) (hi : P.info? e = some inf)
    (hp : Ev env p v) (hq : Ev env q (.int .i64 k)) (h0 : 0 ≤ k) (h1 : k ≤ xs.length) : Yd P w0 env x o (Sy.slTo v k.toNat) := by
  obtain ⟨⟨a, c, rfl, hc⟩, hb, hall⟩ := h
  refine Yd.pure fun N f hf w _ => ?_
  have hadd : a.map (·.add 0) = a := by
    cases a with
    | none => rfl
    | some a => simp [Addr.add]
  have hk : 0 ≤ k ∧ k ≤ (c : Int) := by omega
  simp [execOp, ho, hp.eval hf, hq.eval hf, Instr.sliceAt, Instr.slice, run_underlying ht, sizeOf, typeInfo, hi, Instr.sliceBounds, Instr.sliceBound, asIntOf, Sy.slTo, hk, hadd]
end Go.Proofs.Ytkdhckiljfjanaa.Sy
