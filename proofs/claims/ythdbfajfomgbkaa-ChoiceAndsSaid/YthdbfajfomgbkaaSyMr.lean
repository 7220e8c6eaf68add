/- Keys that are pairs of numbers; maps of the call's own whose values are slices that are only read (own lemmas); no program in sight. -/
import Derived.Test.YthdbfajfomgbkaaSyMp
namespace Go.Proofs.Ythdbfajfomgbkaa.Sy
open Go
set_option linter.unusedVariables false

theorem MK.array {κ : Type} [DecidableEq κ] {P : Program} {kt et : TypeId} {n : Nat} {ek : κ → Value} (hk : P.underlying kt = some (.array n et)) (hc : ∀ w em x, (Instr.checkKey em 10000 kt (ek x)).run P w = .ok () w) (hs : ∀ x, Instr.sameBits 10000 (ek x) (ek x) = true)
    (he : ∀ w x y, (Op.equal kt (ek x) (ek y)).run P w = .ok (decide (x = y)) w) : MK P kt ek where
  check := hc
  stays w x := by simp [Instr.keyThatStays, hs x]
  find w x ks l h := by
    have key : ∀ (ks : List κ) (l : List MapEntry) (i : Nat), l.map (·.key) = ks.map ek → (Instr.findAsking kt (ek x) l i).run P w = .ok (look x ks l i) w := by
      intro ks
      induction ks with
      | nil => intro l i h; simp at h; subst h; simp [Instr.findAsking, look]
      | cons k ks ih =>
        intro l i h
        match l, h with
        | e :: l, h =>
          simp only [List.map_cons, List.cons.injEq] at h
          rw [Instr.findAsking, h.1, look]
          by_cases e' : x = k
          · simp [he, e']
          · simp [he, e', ih l (i + 1) h.2]
    match l, ks, h with
    | [], [], _ => simp [Instr.findKey, run_underlying hk, Instr.findNow, look]
    | e :: l, k :: ks, h =>
      have := key (k :: ks) (e :: l) 0 h
      have hn : Instr.findNow (.array n et) (ek x) (e :: l) 0 = none := by
        rw [Instr.findNow]
        have : Instr.sameNow (.array n et) (ek x) e.key = none := by unfold Instr.sameNow; rfl
        rw [this]
      simp [Instr.findKey, run_underlying hk, hn, this]

abbrev ekP (p : Int × Int) : Value := .agg #[.int .i64 p.1, .int .i64 p.2]
theorem MK.pair {P : Program} {kt e : TypeId} (hk : P.underlying kt = some (.array 2 e)) (he : P.underlying e = some (.int .i64)) (hs : (P.info? e).map (·.size) = some 1) : MK P kt ekP := by
  have h1 : one P e = true := by unfold one; rw [he]
  obtain ⟨inf, hi, hin⟩ := Option.map_eq_some_iff.1 hs
  refine MK.array hk (fun w em x => ?_) (fun x => by simp [Instr.sameBits]) (fun w x y => ?_)
  · have p1 := part_one (P := P) w (t := e) (cs := #[.int .i64 x.1, .int .i64 x.2]) (off := 0) (v := .int .i64 x.1) h1 rfl
    have p2 := part_one (P := P) w (t := e) (cs := #[.int .i64 x.1, .int .i64 x.2]) (off := 1) (v := .int .i64 x.2) h1 rfl
    have hk0 : ∀ k : Int, (Instr.checkKey em 9999 e (.int .i64 k)).run P w = .ok () w := fun k => by rw [show (9999 : Nat) = 9998 + 1 from rfl, Instr.checkKey]; simp [run_underlying he]
    rw [show (10000 : Nat) = 9999 + 1 from rfl, Instr.checkKey]
    simp [run_underlying hk, sizeOf, typeInfo, hi, hin, List.range', Std.Legacy.Range.forIn_eq_forIn_range', Std.Legacy.Range.size, p1, p2, hk0]
  · have e1 := run_equalIn_int (P := P) w 9998 e .i64 .i64 x.1 y.1 he
    have e2 := run_equalIn_int (P := P) w 9998 e .i64 .i64 x.2 y.2 he
    have p1 := part_one (P := P) w (t := e) (cs := #[.int .i64 x.1, .int .i64 x.2]) (off := 0) (v := .int .i64 x.1) h1 rfl
    have p2 := part_one (P := P) w (t := e) (cs := #[.int .i64 x.1, .int .i64 x.2]) (off := 1) (v := .int .i64 x.2) h1 rfl
    have p3 := part_one (P := P) w (t := e) (cs := #[.int .i64 y.1, .int .i64 y.2]) (off := 0) (v := .int .i64 y.1) h1 rfl
    have p4 := part_one (P := P) w (t := e) (cs := #[.int .i64 y.1, .int .i64 y.2]) (off := 1) (v := .int .i64 y.2) h1 rfl
    have hd : decide (x = y) = ((x.1 == y.1) && (x.2 == y.2)) := by
      cases x; cases y
      rw [Bool.eq_iff_iff]; simp
    rw [hd]
    simp only [Op.equal]
    rw [show Op.maxDepth = 9998 + 1 + 1 from rfl, Op.equalIn]
    generalize Op.equalIn (9998 + 1) = E at e1 e2 ⊢
    generalize (x.1 == y.1) = u at e1 ⊢
    generalize (x.2 == y.2) = v at e2 ⊢
    cases u <;> cases v <;> simp [run_underlying hk, sizeOf, typeInfo, hi, hin, List.range', Std.Legacy.Range.forIn_eq_forIn_range', Std.Legacy.Range.size, p1, p2, p3, p4, e1, e2]

section
variable {κ ν : Type} [DecidableEq κ] {P : Program} {w0 : World} {env : Env} {x : SX} {o : Oper} {kt vt t : TypeId} {ek : κ → Value} {ev : ν → Value}
/-- An entry of a map's literal. -/
theorem Ef.mins (K : MK P kt ek) {pos b : Nat} {es : List (κ × ν)} {p q r : Operand} {k : κ} {v : ν} (hl : x.l[pos]? = some (hmap b ek ev es)) (ho : o.op = .insert t p q r) (ht : P.underlying t = some (.map kt vt))
    (hp : Ev env p (.map (some b))) (hq : Ev env q (ek k)) (hr : Ev env r (ev v)) : Ef P w0 env x o (fun u x' => u = undef ∧ x' = ⟨x.m, x.l.set pos (hmap b ek ev (mput es k v))⟩) := fun N a hf w hc => by
  have h := Ef.mset K hl (o := { o with op := .mapUpdate t p q r }) rfl ht hp hq hr N a hf w hc
  have e : execOp a.eval { o with op := .mapUpdate t p q r } = execOp a.eval o := by simp [execOp, ho]
  unfold eff at h ⊢
  rw [e] at h
  exact h

/-- The slices that lie in a map. -/
inductive MRows {α : Type} (R : Rp α) (m : Snap) : List (κ × Value) → List (κ × List α) → Prop
  | nil : MRows R m [] []
  | cons {k : κ} {u : Value} {ys : List α} {us : List (κ × Value)} {xs : List (κ × List α)} (h : RS R m u ys) (hs : MRows R m us xs) : MRows R m ((k, u) :: us) ((k, ys) :: xs)
omit [DecidableEq κ] in
theorem MRows.mono {α : Type} {R : Rp α} {m m' : Snap} {us : List (κ × Value)} {xs : List (κ × List α)} (hm : Sle m m') (h : MRows R m us xs) : MRows R m' us xs := by
  induction h with
  | nil => exact .nil
  | cons h _ ih => exact .cons (h.mono hm) ih
theorem MRows.put {α : Type} {R : Rp α} {m : Snap} {us : List (κ × Value)} {xs : List (κ × List α)} (h : MRows R m us xs) (k : κ) {u : Value} {ys : List α} (hu : RS R m u ys) : MRows R m (mput us k u) (mput xs k ys) := by
  induction h with
  | nil => exact .cons hu .nil
  | @cons k' u' ys' us xs h1 h2 ih =>
    rw [mput, mput]
    by_cases e : k = k'
    · rw [if_pos e, if_pos e]; exact .cons hu h2
    · rw [if_neg e, if_neg e]; exact .cons h1 ih
theorem MRows.get {α : Type} {R : Rp α} {m : Snap} {us : List (κ × Value)} {xs : List (κ × List α)} (h : MRows R m us xs) (k : κ) : ∃ u, u = (mget us k).getD (.slice none 0 0) ∧ (mget us k).isSome = (mget xs k).isSome ∧ RS R m u ((mget xs k).getD []) := by
  refine ⟨_, rfl, ?_⟩
  induction h with
  | nil => exact ⟨rfl, RS.nil _ _⟩
  | @cons k' u' ys' us xs h1 h2 ih =>
    rw [mget, mget]
    by_cases e : k = k'
    · rw [if_pos e, if_pos e]; exact ⟨rfl, h1⟩
    · rw [if_neg e, if_neg e]; exact ih
abbrev evV (v : Value) : Value := v
theorem Yd.mlookR (K : MK P kt ek) {pos b : Nat} {us : List (κ × Value)} {p q : Operand} {k : κ} {u : Value} {nb : Nat × Nat} (hl : x.l[pos]? = some (hmap b ek evV us)) (hu : u = (mget us k).getD (.slice none 0 0)) (ho : o.op = .lookup t p q false) (ht : P.underlying t = some (.map kt vt)) (hI : (P.info? vt).map (fun i => (i.zero, i.size, i.bytes)) = some (some (.slice none 0 0), nb))
    (hp : Ev env p (.map (some b))) (hq : Ev env q (ek k)) : Yd P w0 env x o u := by
  subst hu
  exact Yd.mlookE (d := (.slice none 0 0 : Value)) K hl ho ht hI hp hq
theorem Yd.mlook2R (K : MK P kt ek) {pos b : Nat} {us : List (κ × Value)} {p q : Operand} {k : κ} {u : Value} {s : Bool} {nb : Nat × Nat} (hl : x.l[pos]? = some (hmap b ek evV us)) (hu : u = (mget us k).getD (.slice none 0 0)) (hs : (mget us k).isSome = s) (ho : o.op = .lookup t p q true) (ht : P.underlying t = some (.map kt vt)) (hI : (P.info? vt).map (fun i => (i.zero, i.size, i.bytes)) = some (some (.slice none 0 0), nb))
    (hp : Ev env p (.map (some b))) (hq : Ev env q (ek k)) : Yd P w0 env x o (.tuple #[u, .bool s]) := by
  subst hu hs
  exact Yd.mlook2E (d := (.slice none 0 0 : Value)) K hl ho ht hI hp hq
end
end Go.Proofs.Ythdbfajfomgbkaa.Sy
