/- The operations: what each leaves, by the kinds of its operands (own lemmas); the conditions stand in each lemma. -/
import Derived.Test.YtkdhckiljfjanaaSyB
namespace Go.Proofs.Ytkdhckiljfjanaa.Sy
open Go

/-! ### Plain words for the program's numbers -/
def w64 (n : Int) : Int := IntKind.i64.wrap n
theorem w64_id {n : Int} (h1 : -9223372036854775808 ≤ n) (h2 : n ≤ 9223372036854775807) : w64 n = n := IntWalk.i64_in _ ⟨h1, h2⟩
def iand (a b : Int) : Int := w64 (BitVec.ofInt 64 a &&& BitVec.ofInt 64 b).toNat
def ior (a b : Int) : Int := w64 (BitVec.ofInt 64 a ||| BitVec.ofInt 64 b).toNat
def ixor (a b : Int) : Int := w64 (BitVec.ofInt 64 a ^^^ BitVec.ofInt 64 b).toNat
def iandn (a b : Int) : Int := w64 (BitVec.ofInt 64 a &&& ~~~BitVec.ofInt 64 b).toNat
def ishl (a : Int) (n : Nat) : Int := w64 (a * 2 ^ (min n 64))
def ishr (a : Int) (n : Nat) : Int := a.fdiv (2 ^ (min n 64))

theorem wrap_u32 (b : BitVec 32) : IntKind.u32.wrap (b.toNat : Int) = b.toNat := by
  unfold IntKind.wrap
  simp only [IntKind.bits, IntKind.signed]
  have := b.isLt
  simp
  omega
theorem wrap_u8 (b : BitVec 8) : IntKind.u8.wrap (b.toNat : Int) = b.toNat := by
  unfold IntKind.wrap
  simp only [IntKind.bits, IntKind.signed]
  have := b.isLt
  simp
  omega

section
variable {P : Program} {w0 : World} {env : Env} {x : SX} {o : Oper}

theorem Yd.mv {a : Operand} {v : Value} (ho : o.op = .move a) (h : Ev env a v) : Yd P w0 env x o v :=
  Yd.pure fun N f hf w _ => by simp [execOp, ho, h.eval hf]
theorem Yd.as {a : Operand} {v : Value} (ho : o.op = .assign a) (h : Ev env a v) : Yd P w0 env x o v :=
  Yd.pure fun N f hf w _ => by simp [execOp, ho, h.eval hf]

theorem Yd.or {p q r : Operand} {c d : Bool} {s : Nat} (ho : o.op = .pick p q r) (hp : Ev env p (.bool c)) (hq : Ev env q (.bool true)) (hr : r = .tmp s) (hs : lk env s = some (gv (c == false) (.bool d))) :
    Yd P w0 env x o (.bool (c || d)) :=
  Yd.pure fun N f hf w _ => by
    subst hr
    have := hf.eval_tmp hs
    cases c <;> simp [execOp, ho, hp.eval hf, hq.eval hf, this, gv, asBool]
theorem Yd.and {p q r : Operand} {c d : Bool} {s : Nat} (ho : o.op = .pick p q r) (hp : Ev env p (.bool c)) (hr : Ev env r (.bool false)) (hq : q = .tmp s) (hs : lk env s = some (gv (c == true) (.bool d))) :
    Yd P w0 env x o (.bool (c && d)) :=
  Yd.pure fun N f hf w _ => by
    subst hq
    have := hf.eval_tmp hs
    cases c <;> simp [execOp, ho, hp.eval hf, hr.eval hf, this, gv, asBool]
/-- The same under an outer guard. -/
theorem Yd.orG {p q r : Operand} {c d g : Bool} {s : Nat} (ho : o.op = .pick p q r) (hp : Ev env p (.bool c)) (hq : Ev env q (.bool true)) (hr : r = .tmp s) (hs : lk env s = some (gv (g && (c == false)) (.bool d))) (hg : g = true) :
    Yd P w0 env x o (.bool (c || d)) := Yd.or ho hp hq hr (by subst hg; simpa using hs)
theorem Yd.andG {p q r : Operand} {c d g : Bool} {s : Nat} (ho : o.op = .pick p q r) (hp : Ev env p (.bool c)) (hr : Ev env r (.bool false)) (hq : q = .tmp s) (hs : lk env s = some (gv (g && (c == true)) (.bool d))) (hg : g = true) :
    Yd P w0 env x o (.bool (c && d)) := Yd.and ho hp hr hq (by subst hg; simpa using hs)

theorem Yd.not {t : TypeId} {a : Operand} {c : Bool} (ho : o.op = .unOp .not t a) (h : Ev env a (.bool c)) : Yd P w0 env x o (.bool (!c)) :=
  Yd.pure fun N f hf w _ => by simp [execOp, ho, h.eval hf, Op.unary]
theorem Yd.neg64 {t : TypeId} {a : Operand} {n : Int} (ho : o.op = .unOp .neg t a) (h : Ev env a (.int .i64 n)) : Yd P w0 env x o (.int .i64 (w64 (0 - n))) :=
  Yd.pure fun N f hf w _ => by simp [execOp, ho, h.eval hf, Op.unary, Op.intArith, w64]

section cmp
variable {t t' : TypeId} {p q : Operand} {k : IntKind} {a b : Int}
theorem Yd.lss (ho : o.op = .binOp .lss t p q t') (hp : Ev env p (.int k a)) (hq : Ev env q (.int k b)) : Yd P w0 env x o (.bool (decide (a < b))) :=
  Yd.pure fun N f hf w _ => by simp [execOp, ho, hp.eval hf, hq.eval hf, eqGuard, binOp, Op.intCmp]
theorem Yd.leq (ho : o.op = .binOp .leq t p q t') (hp : Ev env p (.int k a)) (hq : Ev env q (.int k b)) : Yd P w0 env x o (.bool (decide (a ≤ b))) :=
  Yd.pure fun N f hf w _ => by simp [execOp, ho, hp.eval hf, hq.eval hf, eqGuard, binOp, Op.intCmp]
theorem Yd.gtr (ho : o.op = .binOp .gtr t p q t') (hp : Ev env p (.int k a)) (hq : Ev env q (.int k b)) : Yd P w0 env x o (.bool (decide (a > b))) :=
  Yd.pure fun N f hf w _ => by simp [execOp, ho, hp.eval hf, hq.eval hf, eqGuard, binOp, Op.intCmp]
theorem Yd.geq (ho : o.op = .binOp .geq t p q t') (hp : Ev env p (.int k a)) (hq : Ev env q (.int k b)) : Yd P w0 env x o (.bool (decide (a ≥ b))) :=
  Yd.pure fun N f hf w _ => by simp [execOp, ho, hp.eval hf, hq.eval hf, eqGuard, binOp, Op.intCmp]
theorem Yd.eql (ho : o.op = .binOp .eql t p q t') (hp : Ev env p (.int k a)) (hq : Ev env q (.int k b)) : Yd P w0 env x o (.bool (a == b)) :=
  Yd.pure fun N f hf w _ => by simp [execOp, ho, hp.eval hf, hq.eval hf, eqGuard, binOp, Op.intCmp]
theorem Yd.neq (ho : o.op = .binOp .neq t p q t') (hp : Ev env p (.int k a)) (hq : Ev env q (.int k b)) : Yd P w0 env x o (.bool (a != b)) :=
  Yd.pure fun N f hf w _ => by simp [execOp, ho, hp.eval hf, hq.eval hf, eqGuard, binOp, Op.intCmp]
end cmp

section bool
variable {t t' : TypeId} {p q : Operand} {a b : Bool}
theorem Yd.eqlB (hu : P.underlying t = some .bool) (ho : o.op = .binOp .eql t p q t') (hp : Ev env p (.bool a)) (hq : Ev env q (.bool b)) : Yd P w0 env x o (.bool (a == b)) :=
  Yd.pure fun N f hf w _ => by simp [execOp, ho, hp.eval hf, hq.eval hf, eqGuard, run_eql_bool w t a b hu]
theorem Yd.neqB (hu : P.underlying t = some .bool) (ho : o.op = .binOp .neq t p q t') (hp : Ev env p (.bool a)) (hq : Ev env q (.bool b)) : Yd P w0 env x o (.bool (a != b)) :=
  Yd.pure fun N f hf w _ => by simp [execOp, ho, hp.eval hf, hq.eval hf, eqGuard, run_neq_bool w t a b hu, bne]
end bool

theorem Yd.bin {op : BinOp} {t t' : TypeId} {p q : Operand} {va vb v : Value} (ho : o.op = .binOp op t p q t') (hne : op ≠ .eql ∧ op ≠ .neq) (hp : Ev env p va) (hq : Ev env q vb) (h : ∀ w, (binOp op t va vb).run P w = .ok v w) : Yd P w0 env x o v :=
  Yd.pure fun N f hf w _ => by
    have hg : eqGuard op t p q va vb = (Pure.pure () : Sem Unit) := by
      obtain ⟨h1, h2⟩ := hne
      cases op <;> first | rfl | exact absurd rfl h1 | exact absurd rfl h2
    simp [execOp, ho, hp.eval hf, hq.eval hf, hg, h]

section i64
variable {t t' : TypeId} {p q : Operand} {a b : Int}
theorem Yd.add (ho : o.op = .binOp .add t p q t') (hp : Ev env p (.int .i64 a)) (hq : Ev env q (.int .i64 b)) : Yd P w0 env x o (.int .i64 (w64 (a + b))) :=
  Yd.pure fun N f hf w _ => by simp [execOp, ho, hp.eval hf, hq.eval hf, eqGuard, binOp, Op.intArith, w64]
theorem Yd.sub (ho : o.op = .binOp .sub t p q t') (hp : Ev env p (.int .i64 a)) (hq : Ev env q (.int .i64 b)) : Yd P w0 env x o (.int .i64 (w64 (a - b))) :=
  Yd.pure fun N f hf w _ => by simp [execOp, ho, hp.eval hf, hq.eval hf, eqGuard, binOp, Op.intArith, w64]
theorem Yd.mul (ho : o.op = .binOp .mul t p q t') (hp : Ev env p (.int .i64 a)) (hq : Ev env q (.int .i64 b)) : Yd P w0 env x o (.int .i64 (w64 (a * b))) :=
  Yd.pure fun N f hf w _ => by simp [execOp, ho, hp.eval hf, hq.eval hf, eqGuard, binOp, Op.intArith, w64]
theorem Yd.quo (ho : o.op = .binOp .quo t p q t') (hp : Ev env p (.int .i64 a)) (hq : Ev env q (.int .i64 b)) (hb : b ≠ 0) : Yd P w0 env x o (.int .i64 (w64 (a.tdiv b))) :=
  Yd.pure fun N f hf w _ => by simp [execOp, ho, hp.eval hf, hq.eval hf, eqGuard, binOp, Op.intDiv, w64, hb]
theorem Yd.rem (ho : o.op = .binOp .rem t p q t') (hp : Ev env p (.int .i64 a)) (hq : Ev env q (.int .i64 b)) (hb : b ≠ 0) : Yd P w0 env x o (.int .i64 (a.tmod b)) :=
  Yd.pure fun N f hf w _ => by simp [execOp, ho, hp.eval hf, hq.eval hf, eqGuard, binOp, Op.intDiv, hb]
theorem Yd.andI (ho : o.op = .binOp .and t p q t') (hp : Ev env p (.int .i64 a)) (hq : Ev env q (.int .i64 b)) : Yd P w0 env x o (.int .i64 (iand a b)) :=
  Yd.bin ho (by decide) hp hq fun _ => rfl
theorem Yd.orI (ho : o.op = .binOp .or t p q t') (hp : Ev env p (.int .i64 a)) (hq : Ev env q (.int .i64 b)) : Yd P w0 env x o (.int .i64 (ior a b)) :=
  Yd.bin ho (by decide) hp hq fun _ => rfl
theorem Yd.xorI (ho : o.op = .binOp .xor t p q t') (hp : Ev env p (.int .i64 a)) (hq : Ev env q (.int .i64 b)) : Yd P w0 env x o (.int .i64 (ixor a b)) :=
  Yd.bin ho (by decide) hp hq fun _ => rfl
theorem Yd.andnI (ho : o.op = .binOp .andNot t p q t') (hp : Ev env p (.int .i64 a)) (hq : Ev env q (.int .i64 b)) : Yd P w0 env x o (.int .i64 (iandn a b)) :=
  Yd.bin ho (by decide) hp hq fun _ => rfl
theorem Yd.shlI {k : IntKind} (ho : o.op = .binOp .shl t p q t') (hp : Ev env p (.int .i64 a)) (hq : Ev env q (.int k b)) (hb : 0 ≤ b) : Yd P w0 env x o (.int .i64 (ishl a b.toNat)) :=
  Yd.pure fun N f hf w _ => by simp [execOp, ho, hp.eval hf, hq.eval hf, eqGuard, binOp, Op.shift, ishl, w64, IntKind.bits, show ¬ b < 0 by omega]
theorem Yd.shrI {k : IntKind} (ho : o.op = .binOp .shr t p q t') (hp : Ev env p (.int .i64 a)) (hq : Ev env q (.int k b)) (hb : 0 ≤ b) : Yd P w0 env x o (.int .i64 (ishr a b.toNat)) :=
  Yd.pure fun N f hf w _ => by simp [execOp, ho, hp.eval hf, hq.eval hf, eqGuard, binOp, Op.shift, ishr, IntKind.bits, show ¬ b < 0 by omega]
end i64

theorem ofInt_u32 (a : BitVec 32) : BitVec.ofInt 32 (a.toNat : Int) = a := by simp

section u32
variable {t t' : TypeId} {p q : Operand} {a b : BitVec 32}
theorem Yd.andU (ho : o.op = .binOp .and t p q t') (hp : Ev env p (.int .u32 a.toNat)) (hq : Ev env q (.int .u32 b.toNat)) : Yd P w0 env x o (.int .u32 (a &&& b).toNat) :=
  Yd.bin ho (by decide) hp hq fun w => by
    show Result.ok (Value.int .u32 (IntKind.u32.wrap (BitVec.ofInt 32 (a.toNat : Int) &&& BitVec.ofInt 32 (b.toNat : Int)).toNat)) w = _
    rw [ofInt_u32, ofInt_u32, wrap_u32]
theorem Yd.orU (ho : o.op = .binOp .or t p q t') (hp : Ev env p (.int .u32 a.toNat)) (hq : Ev env q (.int .u32 b.toNat)) : Yd P w0 env x o (.int .u32 (a ||| b).toNat) :=
  Yd.bin ho (by decide) hp hq fun w => by
    show Result.ok (Value.int .u32 (IntKind.u32.wrap (BitVec.ofInt 32 (a.toNat : Int) ||| BitVec.ofInt 32 (b.toNat : Int)).toNat)) w = _
    rw [ofInt_u32, ofInt_u32, wrap_u32]
theorem Yd.xorU (ho : o.op = .binOp .xor t p q t') (hp : Ev env p (.int .u32 a.toNat)) (hq : Ev env q (.int .u32 b.toNat)) : Yd P w0 env x o (.int .u32 (a ^^^ b).toNat) :=
  Yd.bin ho (by decide) hp hq fun w => by
    show Result.ok (Value.int .u32 (IntKind.u32.wrap (BitVec.ofInt 32 (a.toNat : Int) ^^^ BitVec.ofInt 32 (b.toNat : Int)).toNat)) w = _
    rw [ofInt_u32, ofInt_u32, wrap_u32]
theorem Yd.andnU (ho : o.op = .binOp .andNot t p q t') (hp : Ev env p (.int .u32 a.toNat)) (hq : Ev env q (.int .u32 b.toNat)) : Yd P w0 env x o (.int .u32 (a &&& ~~~b).toNat) :=
  Yd.bin ho (by decide) hp hq fun w => by
    show Result.ok (Value.int .u32 (IntKind.u32.wrap (BitVec.ofInt 32 (a.toNat : Int) &&& ~~~BitVec.ofInt 32 (b.toNat : Int)).toNat)) w = _
    rw [ofInt_u32, ofInt_u32, wrap_u32]
theorem Yd.addU (ho : o.op = .binOp .add t p q t') (hp : Ev env p (.int .u32 a.toNat)) (hq : Ev env q (.int .u32 b.toNat)) : Yd P w0 env x o (.int .u32 (a + b).toNat) :=
  Yd.bin ho (by decide) hp hq fun w => by
    show Result.ok (Value.int .u32 (IntKind.u32.wrap ((a.toNat : Int) + (b.toNat : Int)))) w = _
    have : IntKind.u32.wrap ((a.toNat : Int) + (b.toNat : Int)) = ((a + b).toNat : Int) := by
      unfold IntKind.wrap
      simp only [IntKind.bits, IntKind.signed, BitVec.toNat_add]
      simp
    rw [this]
theorem u32_sub (a b : BitVec 32) : IntKind.u32.wrap ((a.toNat : Int) - (b.toNat : Int)) = ((a - b).toNat : Int) := by
  have h1 := a.isLt
  have h2 := b.isLt
  unfold IntKind.wrap
  simp only [IntKind.bits, IntKind.signed, BitVec.toNat_sub]
  simp
  omega
theorem Yd.subU (ho : o.op = .binOp .sub t p q t') (hp : Ev env p (.int .u32 a.toNat)) (hq : Ev env q (.int .u32 b.toNat)) : Yd P w0 env x o (.int .u32 (a - b).toNat) :=
  Yd.bin ho (by decide) hp hq fun w => by
    show Result.ok (Value.int .u32 (IntKind.u32.wrap ((a.toNat : Int) - (b.toNat : Int)))) w = _
    rw [u32_sub]
theorem Yd.negU {t : TypeId} {a : BitVec 32} (ho : o.op = .unOp .neg t p) (hp : Ev env p (.int .u32 a.toNat)) : Yd P w0 env x o (.int .u32 (0 - a).toNat) :=
  Yd.pure fun N f hf w _ => by
    have h1 := u32_sub 0 a
    simp only [execOp, ho, hp.eval hf, Op.unary, Op.intArith]
    rw [show (0 : Int) = (((0 : BitVec 32).toNat : Nat) : Int) from rfl, h1]
    rfl
theorem u32_shl (a : BitVec 32) (n : Nat) : IntKind.u32.wrap ((a.toNat : Int) * 2 ^ (min n 32)) = ((a <<< n).toNat : Int) := by
  unfold IntKind.wrap
  simp only [IntKind.bits, IntKind.signed, BitVec.toNat_shiftLeft, Nat.shiftLeft_eq, Bool.false_and, Bool.false_eq_true, if_false]
  rcases Nat.lt_or_ge n 32 with h | h
  · rw [Nat.min_eq_left (by omega)]; norm_cast
  · rw [Nat.min_eq_right h]
    have h2 : 2 ^ n = 2 ^ (n - 32) * 2 ^ 32 := by
      rw [← Nat.pow_add]; congr 1; omega
    rw [h2, ← Nat.mul_assoc]
    have h3 : (a.toNat : Int) * 2 ^ 32 = ((a.toNat * 2 ^ 32 : Nat) : Int) := by norm_cast
    rw [h3]
    have h4 : ((2 : Int) ^ 32) = ((2 ^ 32 : Nat) : Int) := by norm_cast
    rw [h4, ← Int.natCast_emod, Nat.mul_mod_left, Nat.mul_mod_left]
theorem Yd.shlU {k : IntKind} {b : Int} (ho : o.op = .binOp .shl t p q t') (hp : Ev env p (.int .u32 a.toNat)) (hq : Ev env q (.int k b)) (hb : 0 ≤ b) : Yd P w0 env x o (.int .u32 (a <<< b.toNat).toNat) :=
  Yd.bin ho (by decide) hp hq fun w => by
    show (Op.shift .shl .u32 (a.toNat : Int) k b).run P w = _
    unfold Op.shift
    rw [if_neg (by omega)]
    show Result.ok (Value.int .u32 (IntKind.u32.wrap ((a.toNat : Int) * 2 ^ (min b.toNat 32)))) w = _
    rw [u32_shl]
theorem u32_shr (a : BitVec 32) (n : Nat) : (a.toNat : Int).fdiv (2 ^ (min n 32)) = ((a >>> n).toNat : Int) := by
  have h1 := a.isLt
  have h4 : ((2 : Int) ^ (min n 32)) = ((2 ^ (min n 32) : Nat) : Int) := by norm_cast
  rw [h4, Int.fdiv_eq_ediv_of_nonneg _ (Int.natCast_nonneg _), ← Int.natCast_ediv, BitVec.toNat_ushiftRight, Nat.shiftRight_eq_div_pow]
  rcases Nat.lt_or_ge n 32 with h | h
  · rw [Nat.min_eq_left (by omega)]
  · rw [Nat.min_eq_right h]
    have h2 : a.toNat / 2 ^ n = 0 := Nat.div_eq_of_lt (Nat.lt_of_lt_of_le h1 (Nat.pow_le_pow_right (by omega) h))
    rw [h2, Nat.div_eq_of_lt h1]
theorem Yd.shrU {k : IntKind} {b : Int} (ho : o.op = .binOp .shr t p q t') (hp : Ev env p (.int .u32 a.toNat)) (hq : Ev env q (.int k b)) (hb : 0 ≤ b) : Yd P w0 env x o (.int .u32 (a >>> b.toNat).toNat) :=
  Yd.bin ho (by decide) hp hq fun w => by
    show (Op.shift .shr .u32 (a.toNat : Int) k b).run P w = _
    unfold Op.shift
    rw [if_neg (by omega)]
    show Result.ok (Value.int .u32 ((a.toNat : Int).fdiv (2 ^ (min b.toNat 32)))) w = _
    rw [u32_shr]
end u32

section conv
variable {s d : TypeId} {p : Operand} {k : IntKind}
theorem Yd.cvI {n : Int} (ho : o.op = .convert s d p) (hs : (P.underlying s).isSome = true) (hd : P.underlying d = some (.int .i64)) (hp : Ev env p (.int k n)) : Yd P w0 env x o (.int .i64 (w64 n)) :=
  Yd.pure fun N f hf w _ => by
    obtain ⟨ds, hs'⟩ := Option.isSome_iff_exists.1 hs
    simp [execOp, ho, hp.eval hf, convert, run_underlying hs', run_underlying hd, Conv.intToInt, w64]
/-- To any kind of number, as a number. -/
theorem Yd.cvN {k' : IntKind} {n : Int} (ho : o.op = .convert s d p) (hs : (P.underlying s).isSome = true) (hd : P.underlying d = some (.int k')) (hp : Ev env p (.int k n)) : Yd P w0 env x o (.int k' (k'.wrap n)) :=
  Yd.pure fun N f hf w _ => by
    obtain ⟨ds, hs'⟩ := Option.isSome_iff_exists.1 hs
    simp [execOp, ho, hp.eval hf, convert, run_underlying hs', run_underlying hd, Conv.intToInt]
theorem Yd.cvU {n : Int} (ho : o.op = .convert s d p) (hs : (P.underlying s).isSome = true) (hd : P.underlying d = some (.int .u32)) (hp : Ev env p (.int k n)) : Yd P w0 env x o (.int .u32 (BitVec.ofInt 32 n).toNat) :=
  Yd.pure fun N f hf w _ => by
    obtain ⟨ds, hs'⟩ := Option.isSome_iff_exists.1 hs
    have : IntKind.u32.wrap n = ((BitVec.ofInt 32 n).toNat : Int) := by
      unfold IntKind.wrap
      simp only [IntKind.bits, IntKind.signed, BitVec.toNat_ofInt]
      simp
      omega
    simp [execOp, ho, hp.eval hf, convert, run_underlying hs', run_underlying hd, Conv.intToInt, this]
theorem Yd.cvB {n : Int} (ho : o.op = .convert s d p) (hs : (P.underlying s).isSome = true) (hd : P.underlying d = some (.int .u8)) (hp : Ev env p (.int k n)) : Yd P w0 env x o (.int .u8 (BitVec.ofInt 8 n).toNat) :=
  Yd.pure fun N f hf w _ => by
    obtain ⟨ds, hs'⟩ := Option.isSome_iff_exists.1 hs
    have : IntKind.u8.wrap n = ((BitVec.ofInt 8 n).toNat : Int) := by
      unfold IntKind.wrap
      simp only [IntKind.bits, IntKind.signed, BitVec.toNat_ofInt]
      simp
      omega
    simp [execOp, ho, hp.eval hf, convert, run_underlying hs', run_underlying hd, Conv.intToInt, this]
theorem Yd.cvQ {n : Int} (ho : o.op = .convert s d p) (hs : (P.underlying s).isSome = true) (hd : P.underlying d = some (.int .u64)) (hp : Ev env p (.int k n)) : Yd P w0 env x o (.int .u64 (BitVec.ofInt 64 n).toNat) :=
  Yd.pure fun N f hf w _ => by
    obtain ⟨ds, hs'⟩ := Option.isSome_iff_exists.1 hs
    have : IntKind.u64.wrap n = ((BitVec.ofInt 64 n).toNat : Int) := by
      unfold IntKind.wrap
      simp only [IntKind.bits, IntKind.signed, BitVec.toNat_ofInt]
      simp
      omega
    simp [execOp, ho, hp.eval hf, convert, run_underlying hs', run_underlying hd, Conv.intToInt, this]
end conv

section cmpU
variable {t t' : TypeId} {p q : Operand} {n : Nat} {k : IntKind} {a b : BitVec n}
theorem Yd.eqlU (ho : o.op = .binOp .eql t p q t') (hp : Ev env p (.int k a.toNat)) (hq : Ev env q (.int k b.toNat)) : Yd P w0 env x o (.bool (a == b)) := by
  have : ((a.toNat : Int) == (b.toNat : Int)) = (a == b) := by rw [Bool.eq_iff_iff]; simp [BitVec.toNat_eq]; omega
  rw [← this]; exact Yd.eql ho hp hq
theorem Yd.neqU (ho : o.op = .binOp .neq t p q t') (hp : Ev env p (.int k a.toNat)) (hq : Ev env q (.int k b.toNat)) : Yd P w0 env x o (.bool (a != b)) := by
  have : ((a.toNat : Int) != (b.toNat : Int)) = (a != b) := by rw [Bool.eq_iff_iff]; simp [BitVec.toNat_eq]; omega
  rw [← this]; exact Yd.neq ho hp hq
theorem Yd.lssU (ho : o.op = .binOp .lss t p q t') (hp : Ev env p (.int k a.toNat)) (hq : Ev env q (.int k b.toNat)) : Yd P w0 env x o (.bool (decide (a < b))) := by
  have : decide ((a.toNat : Int) < (b.toNat : Int)) = decide (a < b) := by rw [Bool.eq_iff_iff]; simp [BitVec.lt_def]
  rw [← this]; exact Yd.lss ho hp hq
theorem Yd.leqU (ho : o.op = .binOp .leq t p q t') (hp : Ev env p (.int k a.toNat)) (hq : Ev env q (.int k b.toNat)) : Yd P w0 env x o (.bool (decide (a ≤ b))) := by
  have : decide ((a.toNat : Int) ≤ (b.toNat : Int)) = decide (a ≤ b) := by rw [Bool.eq_iff_iff]; simp [BitVec.le_def]
  rw [← this]; exact Yd.leq ho hp hq
theorem Yd.gtrU (ho : o.op = .binOp .gtr t p q t') (hp : Ev env p (.int k a.toNat)) (hq : Ev env q (.int k b.toNat)) : Yd P w0 env x o (.bool (decide (a > b))) := by
  have : decide ((a.toNat : Int) > (b.toNat : Int)) = decide (a > b) := by rw [Bool.eq_iff_iff]; simp [BitVec.lt_def]
  rw [← this]; exact Yd.gtr ho hp hq
theorem Yd.geqU (ho : o.op = .binOp .geq t p q t') (hp : Ev env p (.int k a.toNat)) (hq : Ev env q (.int k b.toNat)) : Yd P w0 env x o (.bool (decide (a ≥ b))) := by
  have : decide ((a.toNat : Int) ≥ (b.toNat : Int)) = decide (a ≥ b) := by rw [Bool.eq_iff_iff]; simp [BitVec.le_def]
  rw [← this]; exact Yd.geq ho hp hq
end cmpU
theorem Yd.cvUI {s d : TypeId} {p : Operand} {a : BitVec 32} (ho : o.op = .convert s d p) (hs : (P.underlying s).isSome = true) (hd : P.underlying d = some (.int .i64)) (hp : Ev env p (.int .u32 a.toNat)) : Yd P w0 env x o (.int .i64 (a.toNat : Int)) := by
  have := Yd.cvI (w0 := w0) (x := x) ho hs hd hp
  rwa [w64_id (by have := a.isLt; omega) (by have := a.isLt; omega)] at this
theorem Yd.cvBI {s d : TypeId} {p : Operand} {a : BitVec 8} (ho : o.op = .convert s d p) (hs : (P.underlying s).isSome = true) (hd : P.underlying d = some (.int .i64)) (hp : Ev env p (.int .u8 a.toNat)) : Yd P w0 env x o (.int .i64 (a.toNat : Int)) := by
  have := Yd.cvI (w0 := w0) (x := x) ho hs hd hp
  rwa [w64_id (by have := a.isLt; omega) (by have := a.isLt; omega)] at this

theorem Yd.min2 {p q : Operand} {ts : Array TypeId} {a b : Int} (ho : o.op = .call { callee := .builtin .min, args := #[p, q], argTypes := ts }) (hp : Ev env p (.int .i64 a)) (hq : Ev env q (.int .i64 b)) :
    Yd P w0 env x o (.int .i64 (if b < a then b else a)) :=
  Yd.pure fun N f hf w _ => by simp [execOp, ho, resolve, hp.eval hf, hq.eval hf, invoke, builtin, Builtin.min_, Builtin.min2, List.foldlM]
theorem Yd.max2 {p q : Operand} {ts : Array TypeId} {a b : Int} (ho : o.op = .call { callee := .builtin .max, args := #[p, q], argTypes := ts }) (hp : Ev env p (.int .i64 a)) (hq : Ev env q (.int .i64 b)) :
    Yd P w0 env x o (.int .i64 (if b > a then b else a)) :=
  Yd.pure fun N f hf w _ => by simp [execOp, ho, resolve, hp.eval hf, hq.eval hf, invoke, builtin, Builtin.max_, Builtin.max2, List.foldlM]

theorem Yd.len {p : Operand} {t e : TypeId} {ad : Option Addr} {n c : Nat} (ho : o.op = .call { callee := .builtin .len, args := #[p], argTypes := #[t] }) (ht : P.underlying t = some (.slice e)) (hp : Ev env p (.slice ad n c)) :
    Yd P w0 env x o (.int .i64 n) :=
  Yd.pure fun N f hf w _ => by simp [execOp, ho, resolve, hp.eval hf, invoke, builtin, Builtin.len_, run_underlying ht, goInt]

theorem Yd.ext {p : Operand} {i : Nat} {vs : List Value} {v : Value} (ho : o.op = .extract p i) (hp : Ev env p (.tuple vs.toArray)) (hv : vs[i]? = some v) : Yd P w0 env x o v :=
  Yd.pure fun N f hf w _ => by simp [execOp, ho, hp.eval hf, Instr.extract, hv]

/-- A call that returns a value known ahead and leaves memory as it was (or makes some of its own). -/
theorem Yd.call {k : FuncId} {fn : Func} {args : List Operand} {ts : Array TypeId} {vs : List Value} {v : Value} (ho : o.op = .call { callee := .value (.func k), args := args.toArray, argTypes := ts })
    (hf : P.funcs[k]? = some fn) (hn : (fn.name == "runtime.NumGoroutine") = false) (hb : fn.body.isNone = false) (ha : EvL env args vs)
    (hc : ∀ x', leX x x' → ∀ w, cX w0 x' w → Calls P k vs.toArray w (fun e w' => e = .returned v ∧ cX w0 x' w')) : Yd P w0 env x o v := by
  intro N a hfr x' hx w hw
  unfold eff
  have h1 : (execOp a.eval o).run P w = .ok (.enter k vs.toArray) w := by
    have := ha.eval hfr
    have hn' : fn.name ≠ "runtime.NumGoroutine" := by simpa using hn
    have hb' : fn.body ≠ none := by intro h; rw [h] at hb; cases hb
    simp [execOp, ho, resolve, Act.eval, Deferred.ofValue, invoke, callFunc, hf, hn', hb', this]
  rw [h1]
  exact (hc x' hx w hw).mono fun e w' ⟨he, hw'⟩ => ⟨v, he, rfl, hw'⟩

/-- A call that may turn memory, or returns some. -/
theorem Ef.call {k : FuncId} {fn : Func} {args : List Operand} {ts : Array TypeId} {vs : List Value} {R : Value → SX → Prop} (ho : o.op = .call { callee := .value (.func k), args := args.toArray, argTypes := ts })
    (hf : P.funcs[k]? = some fn) (hn : (fn.name == "runtime.NumGoroutine") = false) (hb : fn.body.isNone = false) (ha : EvL env args vs)
    (hc : ∀ w, cX w0 x w → Calls P k vs.toArray w (fun e w' => ∃ v x', e = .returned v ∧ R v x' ∧ cX w0 x' w')) : Ef P w0 env x o R := by
  intro N a hfr w hw
  unfold eff
  have h1 : (execOp a.eval o).run P w = .ok (.enter k vs.toArray) w := by
    have := ha.eval hfr
    have hn' : fn.name ≠ "runtime.NumGoroutine" := by simpa using hn
    have hb' : fn.body ≠ none := by intro h; rw [h] at hb; cases hb
    simp [execOp, ho, resolve, Act.eval, Deferred.ofValue, invoke, callFunc, hf, hn', hb', this]
  rw [h1]
  exact (hc w hw).mono fun e w' ⟨v, x', he, hr, hw'⟩ => ⟨v, he, x', hr, hw'⟩
/-- The same through a function's value that is known. -/
theorem Ef.callC {k : FuncId} {caps : List Value} {fn : Func} {p : Operand} {args : List Operand} {ts : Array TypeId} {vs : List Value} {R : Value → SX → Prop} (ho : o.op = .call { callee := .value p, args := args.toArray, argTypes := ts }) (hp : Ev env p (.func (.func k) #[] (List.toArray caps)))
    (hf : P.funcs[k]? = some fn) (hn : (fn.name == "runtime.NumGoroutine") = false) (hb : fn.body.isNone = false) (ha : EvL env args vs)
    (hc : ∀ w, cX w0 x w → Calls P k (vs ++ caps).toArray w (fun e w' => ∃ v x', e = .returned v ∧ R v x' ∧ cX w0 x' w')) : Ef P w0 env x o R := by
  intro N a hfr w hw
  unfold eff
  have h1 : (execOp a.eval o).run P w = .ok (.enter k (vs ++ caps).toArray) w := by
    have := ha.eval hfr
    have hn' : fn.name ≠ "runtime.NumGoroutine" := by simpa using hn
    have hb' : fn.body ≠ none := by intro h; rw [h] at hb; cases hb
    simp [execOp, ho, resolve, hp.eval hfr, Deferred.ofValue, invoke, callFunc, hf, hn', hb', this]
  rw [h1]
  exact (hc w hw).mono fun e w' ⟨v, x', he, hr, hw'⟩ => ⟨v, he, x', hr, hw'⟩
end
end Go.Proofs.Ytkdhckiljfjanaa.Sy
