/- Functions of the program as plain functions, and that the translation computes them; the conditions stand in each theorem. Printed by an own program. -/
import Derived.Test.YtkdhckiljfjanaaSyZ
import Derived.Test.YtkdhckiljfjanaaSyMp
import Derived.Test.YtkdhckiljfjanaaSyMi
import Derived.Test.YtkdhckiljfjanaaSo
import Derived.Test.YtkdhckiljfjanaaT
import Derived.Test.YtkdhckiljfjanaaProg
namespace Go.Proofs.Ytkdhckiljfjanaa.Sy
open Go
set_option linter.unusedVariables false
theorem SZ3 : (Try.prog.info? 3).map (·.size) = some 1 := by kernel_rfl
theorem ON3 : one Try.prog 3 = true := by kernel_rfl
theorem SZ32 : (Try.prog.info? 32).map (·.size) = some 1 := by kernel_rfl
theorem ON32 : one Try.prog 32 = true := by kernel_rfl
theorem IF3 : (Try.prog.info? 3).map (fun i => (i.zero, i.size, i.bytes)) = some (some (.int .i64 0), 1, 8) := by kernel_rfl
abbrev ek34 (x : Clause) : Value := .agg #[.int .u32 (x.yes.toNat : Int), .int .u32 (x.no.toNat : Int)]
theorem GU34 : Try.prog.eqGuardType Try.prog.depth 34 = false := by kernel_rfl
theorem ST34 : Try.prog.stoodInHeld 34 = false := by kernel_rfl
theorem US32 : (Try.prog.underlying 32).isSome = true := by kernel_rfl
theorem SZ34 : (Try.prog.info? 34).map (·.size) = some 2 := by kernel_rfl
theorem ON34 : one Try.prog 34 = false := by kernel_rfl
theorem US34 : (Try.prog.underlying 34).isSome = true := by kernel_rfl
theorem EQ34 (w : World) (x0 : BitVec 32) (x1 : BitVec 32) (y0 : BitVec 32) (y1 : BitVec 32) : (binOp .eql 34 (.agg #[.int .u32 (x0.toNat : Int), .int .u32 (x1.toNat : Int)]) (.agg #[.int .u32 (y0.toNat : Int), .int .u32 (y1.toNat : Int)])).run Try.prog w = .ok (.bool ((x0 == y0) && ((x1 == y1) && true))) w :=
  eq_s w Try.underlying34 ST34 (fun d => (eqf_cons w rfl (part_one w ON32 rfl) (part_one w ON32 rfl) (eq_u w Try.underlying32) (eqf_cons w rfl (part_one w ON32 rfl) (part_one w ON32 rfl) (eq_u w Try.underlying32) (eqf_nil w))))
theorem EM34 (w : World) (x0 : BitVec 32) (x1 : BitVec 32) (y0 : BitVec 32) (y1 : BitVec 32) : (Op.equal 34 (.agg #[.int .u32 (x0.toNat : Int), .int .u32 (x1.toNat : Int)]) (.agg #[.int .u32 (y0.toNat : Int), .int .u32 (y1.toNat : Int)])).run Try.prog w = .ok (((x0 == y0) && ((x1 == y1) && true))) w :=
  eq_in w (d := 9999) Try.underlying34 ST34 ((eqf_cons w rfl (part_one w ON32 rfl) (part_one w ON32 rfl) (eq_u w Try.underlying32) (eqf_cons w rfl (part_one w ON32 rfl) (part_one w ON32 rfl) (eq_u w Try.underlying32) (eqf_nil w))))
instance : DecidableEq Clause := fun a b => decidable_of_decidable_of_iff (p := (a.yes = b.yes ∧ a.no = b.no)) ⟨fun h => by cases a; cases b; simp_all, fun h => by subst h; simp⟩
theorem MK34 : MK Try.prog 34 ek34 :=
  MK.struct Try.underlying34 (fun w em x => by
      rw [show (10000 : Nat) = 9998 + 1 + 1 from rfl, Instr.checkKey]
      have hp32 : ∀ (cs : Array Value) (off : Nat) (v : Value), cs[off]? = some v → (part 32 cs off).run Try.prog w = .ok v w := fun cs off v h => part_one w ON32 h
      have hk32 : ∀ k : Int, (Instr.checkKey em (9998 + 1) 32 (.int .u32 k)).run Try.prog w = .ok () w := fun k => by rw [Instr.checkKey]; simp [run_underlying Try.underlying32]
      simp [run_underlying Try.underlying34, hp32, hk32])
    (fun x => by simp [Instr.sameBits]) (fun w x y => by
      rw [EM34 w]
      congr 1
      cases x; cases y
      rw [Bool.eq_iff_iff]; simp)
abbrev ev4 (b : Bool) : Value := .bool b
theorem SZ4 : (Try.prog.info? 4).map (·.size) = some 1 := by kernel_rfl
theorem ON4 : one Try.prog 4 = true := by kernel_rfl
theorem US3 : (Try.prog.underlying 3).isSome = true := by kernel_rfl
theorem ZI34 : (Try.prog.info? 34).bind (·.zero) = some (.agg #[.int .u32 0, .int .u32 0]) := by kernel_rfl
theorem PL34 : plS Try.prog 34 = some [(0, 1), (1, 1)] := by kernel_rfl
theorem ZR34 : (Try.prog.info? 34).bind (·.zero) = some (.agg #[.int .u32 0, .int .u32 0]) := by kernel_rfl
theorem IF4 : (Try.prog.info? 4).map (fun i => (i.zero, i.size, i.bytes)) = some (some (.bool false), 1, 1) := by kernel_rfl
theorem IF34 : (Try.prog.info? 34).map (fun i => (i.zero, i.size, i.bytes)) = some (some (.agg #[.int .u32 0, .int .u32 0]), 2, 8) := by kernel_rfl
theorem FM : Try.prog.follows .mixedOrders = true := by kernel_rfl

def truth_Check (n_0 : Int) (f_1 : List Bool) : Option (Int) :=
  (bif ((decide (n_0 < (0 : Int))) || (decide (n_0 > (4 : Int)))) then
  some ((1 : Int))
  else
  bif decide (0 ≤ n_0) then
  (bif ((f_1.length : Int) != (ishl ((1 : Int)) n_0.toNat)) then
  some ((3 : Int))
  else
  some ((0 : Int))) else none)

set_option maxRecDepth 100000 in
set_option maxHeartbeats 4000000 in
theorem truth_Check_ok (w0 : World) (m : Snap) (l : List HI) (n_0 : Int) (uf_1 : Value) (f_1 : List Bool) (hf_1 : RS rB m uf_1 f_1) (r : Int) (hr : truth_Check n_0 f_1 = some r) (w : World) (hc : cX w0 ⟨m, l⟩ w) :
    Calls Try.prog 8 [.int .i64 n_0, uf_1].toArray w fun e w' => e = .returned (.int .i64 r) ∧ cX w0 ⟨m, l⟩ w' := by
  unfold truth_Check at hr
  refine calls_of_Tr (N := 16) Try.func8 rfl hc rfl (Nat.le_of_ble_eq_true rfl) ?_
  refine Tr.seq ?_
  refine Tr.region_f (fun _ => false) ?_
  refine W.q rfl rfl rfl rfl (by decide) (Yd.as rfl .c) ?_
  refine W.end ?_
  refine NX.sub (env' := [(0, _), (1, _)]) ⟨rfl, rfl, trivial⟩ ?_
  refine NX.then ?_
  refine Tr.seq ?_
  refine Tr.seq ?_
  refine Tr.region_f (fun _ => false) ?_
  refine W.q rfl rfl rfl rfl (by decide) (Yd.mv rfl (.t rfl)) ?_
  refine W.q rfl rfl rfl rfl (by decide) (Yd.lss rfl (.t rfl) .c) ?_
  refine W.q rfl rfl rfl rfl (by decide) (Yd.mv rfl (.t rfl)) ?_
  refine W.g rfl rfl rfl rfl rfl (.t rfl _) rfl (by decide) (fun hG => Yd.mv rfl (.t rfl)) ?_
  refine W.g rfl rfl rfl rfl rfl (.t rfl _) rfl (by decide) (fun hG => Yd.gtr rfl (.g rfl hG) .c) ?_
  refine W.q rfl rfl rfl rfl (by decide) (Yd.or rfl (.t rfl) .c rfl rfl) ?_
  refine W.end ?_
  refine NX.sub (env' := [(0, _), (1, _), (10, _)]) ⟨rfl, rfl, rfl, trivial⟩ ?_
  refine NX.then ?_
  refine Tr.cond (.t rfl) (fun hb => ?_) (fun hb => ?_)
  · have hr := cond_t hb hr
    refine Tr.seq ?_
    refine Tr.region_f (fun _ => false) ?_
    refine W.q rfl rfl rfl rfl (by decide) (Yd.as rfl .c) ?_
    refine W.end ?_
    refine NX.sub (env' := [(4, _)]) ⟨rfl, trivial⟩ ?_
    refine NX.then ?_
    refine Tr.ret' (RT.then ?_)
    refine res1 rfl rfl ?_
    intro w hc
    cases hr
    exact ⟨rfl, hc⟩
  · have hr := cond_f hb hr
    refine Tr.skip' ?_
    refine NX.then ?_
    refine Tr.seq ?_
    refine Tr.seq ?_
    obtain ⟨hq1, hr⟩ := guard_some hr; replace hq1 := of_decide_eq_true hq1
    refine Tr.region_f (fun _ => false) ?_
    refine W.q rfl rfl rfl rfl (by decide) (Yd.mv rfl (.t rfl)) ?_
    refine W.q rfl rfl rfl rfl (by decide) (Yd.lenR hf_1 rfl Try.underlying22 (.t rfl)) ?_
    refine W.q rfl rfl rfl rfl (by decide) (Yd.mv rfl (.t rfl)) ?_
    refine W.q rfl rfl rfl rfl (by decide) (Yd.shlI rfl .c (.t rfl) hq1) ?_
    refine W.q rfl rfl rfl rfl (by decide) (Yd.neq rfl (.t rfl) (.t rfl)) ?_
    refine W.end ?_
    refine NX.sub (env' := [(15, _)]) ⟨rfl, trivial⟩ ?_
    refine NX.then ?_
    refine Tr.cond (.t rfl) (fun hb => ?_) (fun hb => ?_)
    · have hr := cond_t hb hr
      refine Tr.seq ?_
      refine Tr.region_f (fun _ => false) ?_
      refine W.q rfl rfl rfl rfl (by decide) (Yd.as rfl .c) ?_
      refine W.end ?_
      refine NX.sub (env' := [(4, _)]) ⟨rfl, trivial⟩ ?_
      refine NX.then ?_
      refine Tr.ret' (RT.then ?_)
      refine res1 rfl rfl ?_
      intro w hc
      cases hr
      exact ⟨rfl, hc⟩
    · have hr := cond_f hb hr
      refine Tr.skip' ?_
      refine NX.then ?_
      refine Tr.seq ?_
      refine Tr.region_f (fun _ => false) ?_
      refine W.q rfl rfl rfl rfl (by decide) (Yd.as rfl .c) ?_
      refine W.end ?_
      refine NX.sub (env' := [(4, _)]) ⟨rfl, trivial⟩ ?_
      refine NX.then ?_
      refine Tr.ret' ?_
      refine res1 rfl rfl ?_
      intro w hc
      cases hr
      exact ⟨rfl, hc⟩

def cmp_isNaN_uint32 (x_0 : (BitVec 32)) : Option (Bool) :=
  some ((x_0 != x_0))

set_option maxRecDepth 100000 in
set_option maxHeartbeats 4000000 in
theorem cmp_isNaN_uint32_ok (w0 : World) (m : Snap) (l : List HI) (x_0 : (BitVec 32)) (r : Bool) (hr : cmp_isNaN_uint32 x_0 = some r) (w : World) (hc : cX w0 ⟨m, l⟩ w) :
    Calls Try.prog 17 [.int .u32 (x_0.toNat : Int)].toArray w fun e w' => e = .returned (.bool r) ∧ cX w0 ⟨m, l⟩ w' := by
  unfold cmp_isNaN_uint32 at hr
  refine calls_of_Tr (N := 6) Try.func17 rfl hc rfl (Nat.le_of_ble_eq_true rfl) ?_
  refine Tr.seq ?_
  refine Tr.region_f (fun _ => false) ?_
  refine W.q rfl rfl rfl rfl (by decide) (Yd.as rfl .c) ?_
  refine W.end ?_
  refine NX.sub (env' := [(0, _)]) ⟨rfl, trivial⟩ ?_
  refine NX.then ?_
  refine Tr.seq ?_
  refine Tr.region_f (fun _ => false) ?_
  refine W.q rfl rfl rfl rfl (by decide) (Yd.mv rfl (.t rfl)) ?_
  refine W.q rfl rfl rfl rfl (by decide) (Yd.mv rfl (.t rfl)) ?_
  refine W.q rfl rfl rfl rfl (by decide) (Yd.neqU (a := x_0) (b := x_0) rfl (.t rfl) (.t rfl)) ?_
  refine W.q rfl rfl rfl rfl (by decide) (Yd.as rfl (.t rfl)) ?_
  refine W.end ?_
  refine NX.sub (env' := [(2, _)]) ⟨rfl, trivial⟩ ?_
  refine NX.then ?_
  refine Tr.ret' ?_
  refine res1 rfl rfl ?_
  intro w hc
  cases hr
  exact ⟨rfl, hc⟩

def cmp_Compare_uint32 (x_0 : (BitVec 32)) (y_1 : (BitVec 32)) : Option (Int) :=
  (cmp_isNaN_uint32 x_0).bind fun r1 =>
  (cmp_isNaN_uint32 y_1).bind fun r3 =>
  (bif r1 then
  (bif r3 then
  some ((0 : Int))
  else
  some ((-1 : Int)))
  else
  (bif r3 then
  some ((1 : Int))
  else
  (bif (decide (x_0 < y_1)) then
  some ((-1 : Int))
  else
  (bif (decide (x_0 > y_1)) then
  some ((1 : Int))
  else
  some ((0 : Int))))))

set_option maxRecDepth 100000 in
set_option maxHeartbeats 4000000 in
theorem cmp_Compare_uint32_ok (w0 : World) (m : Snap) (l : List HI) (x_0 : (BitVec 32)) (y_1 : (BitVec 32)) (r : Int) (hr : cmp_Compare_uint32 x_0 y_1 = some r) (w : World) (hc : cX w0 ⟨m, l⟩ w) :
    Calls Try.prog 12 [.int .u32 (x_0.toNat : Int), .int .u32 (y_1.toNat : Int)].toArray w fun e w' => e = .returned (.int .i64 r) ∧ cX w0 ⟨m, l⟩ w' := by
  unfold cmp_Compare_uint32 at hr
  refine calls_of_Tr (N := 20) Try.func12 rfl hc rfl (Nat.le_of_ble_eq_true rfl) ?_
  refine Tr.seq ?_
  refine Tr.region_f (fun _ => false) ?_
  refine W.q rfl rfl rfl rfl (by decide) (Yd.as rfl .c) ?_
  refine W.end ?_
  refine NX.sub (env' := [(0, _), (1, _)]) ⟨rfl, rfl, trivial⟩ ?_
  refine NX.then ?_
  refine Tr.seq ?_
  obtain ⟨r1, hr2, hr⟩ := bind_some hr
  refine Tr.region_f (fun _ => false) ?_
  refine W.q rfl rfl rfl rfl (by decide) (Yd.mv rfl (.t rfl)) ?_
  refine W.q rfl rfl rfl rfl (by decide) (Yd.call (v := .bool r1) rfl Try.func17 rfl rfl (.cons (.t rfl) .nil) (fun x' hx w hw => cmp_isNaN_uint32_ok w0 x'.m x'.l x_0 _ hr2 w hw)) ?_
  refine W.q rfl rfl rfl rfl (by decide) (Yd.as rfl (.t rfl)) ?_
  refine W.end ?_
  refine NX.sub (env' := [(0, _), (1, _), (5, _)]) ⟨rfl, rfl, rfl, trivial⟩ ?_
  refine NX.then ?_
  refine Tr.seq ?_
  obtain ⟨r3, hr4, hr⟩ := bind_some hr
  refine Tr.region_f (fun _ => false) ?_
  refine W.q rfl rfl rfl rfl (by decide) (Yd.mv rfl (.t rfl)) ?_
  refine W.q rfl rfl rfl rfl (by decide) (Yd.call (v := .bool r3) rfl Try.func17 rfl rfl (.cons (.t rfl) .nil) (fun x' hx w hw => cmp_isNaN_uint32_ok w0 x'.m x'.l y_1 _ hr4 w hw)) ?_
  refine W.q rfl rfl rfl rfl (by decide) (Yd.as rfl (.t rfl)) ?_
  refine W.end ?_
  refine NX.sub (env' := [(0, _), (1, _), (5, _), (6, _)]) ⟨rfl, rfl, rfl, rfl, trivial⟩ ?_
  refine NX.then ?_
  refine Tr.seq ?_
  refine Tr.seq ?_
  refine Tr.region_f (fun _ => false) ?_
  refine W.q rfl rfl rfl rfl (by decide) (Yd.mv rfl (.t rfl)) ?_
  refine W.end ?_
  refine NX.sub (env' := [(0, _), (1, _), (6, _), (11, _)]) ⟨rfl, rfl, rfl, rfl, trivial⟩ ?_
  refine NX.then ?_
  refine Tr.cond (.t rfl) (fun hb => ?_) (fun hb => ?_)
  · have hr := cond_t hb hr
    refine Tr.seq ?_
    refine Tr.seq ?_
    refine Tr.region_f (fun _ => false) ?_
    refine W.q rfl rfl rfl rfl (by decide) (Yd.mv rfl (.t rfl)) ?_
    refine W.end ?_
    refine NX.sub (env' := [(12, _)]) ⟨rfl, trivial⟩ ?_
    refine NX.then ?_
    refine Tr.cond (.t rfl) (fun hb => ?_) (fun hb => ?_)
    · have hr := cond_t hb hr
      refine Tr.seq ?_
      refine Tr.region_f (fun _ => false) ?_
      refine W.q rfl rfl rfl rfl (by decide) (Yd.as rfl .c) ?_
      refine W.end ?_
      refine NX.sub (env' := [(4, _)]) ⟨rfl, trivial⟩ ?_
      refine NX.then ?_
      refine Tr.ret' (RT.then (RT.then ?_))
      refine res1 rfl rfl ?_
      intro w hc
      cases hr
      exact ⟨rfl, hc⟩
    · have hr := cond_f hb hr
      refine Tr.skip' ?_
      refine NX.then ?_
      refine Tr.seq ?_
      refine Tr.region_f (fun _ => false) ?_
      refine W.q rfl rfl rfl rfl (by decide) (Yd.as rfl .c) ?_
      refine W.end ?_
      refine NX.sub (env' := [(4, _)]) ⟨rfl, trivial⟩ ?_
      refine NX.then ?_
      refine Tr.ret' (RT.then ?_)
      refine res1 rfl rfl ?_
      intro w hc
      cases hr
      exact ⟨rfl, hc⟩
  · have hr := cond_f hb hr
    refine Tr.skip' ?_
    refine NX.then ?_
    refine Tr.seq ?_
    refine Tr.seq ?_
    refine Tr.region_f (fun _ => false) ?_
    refine W.q rfl rfl rfl rfl (by decide) (Yd.mv rfl (.t rfl)) ?_
    refine W.end ?_
    refine NX.sub (env' := [(0, _), (1, _), (13, _)]) ⟨rfl, rfl, rfl, trivial⟩ ?_
    refine NX.then ?_
    refine Tr.cond (.t rfl) (fun hb => ?_) (fun hb => ?_)
    · have hr := cond_t hb hr
      refine Tr.seq ?_
      refine Tr.region_f (fun _ => false) ?_
      refine W.q rfl rfl rfl rfl (by decide) (Yd.as rfl .c) ?_
      refine W.end ?_
      refine NX.sub (env' := [(4, _)]) ⟨rfl, trivial⟩ ?_
      refine NX.then ?_
      refine Tr.ret' (RT.then ?_)
      refine res1 rfl rfl ?_
      intro w hc
      cases hr
      exact ⟨rfl, hc⟩
    · have hr := cond_f hb hr
      refine Tr.skip' ?_
      refine NX.then ?_
      refine Tr.seq ?_
      refine Tr.seq ?_
      refine Tr.region_f (fun _ => false) ?_
      refine W.q rfl rfl rfl rfl (by decide) (Yd.mv rfl (.t rfl)) ?_
      refine W.q rfl rfl rfl rfl (by decide) (Yd.mv rfl (.t rfl)) ?_
      refine W.q rfl rfl rfl rfl (by decide) (Yd.lssU (a := x_0) (b := y_1) rfl (.t rfl) (.t rfl)) ?_
      refine W.end ?_
      refine NX.sub (env' := [(0, _), (1, _), (16, _)]) ⟨rfl, rfl, rfl, trivial⟩ ?_
      refine NX.then ?_
      refine Tr.cond (.t rfl) (fun hb => ?_) (fun hb => ?_)
      · have hr := cond_t hb hr
        refine Tr.seq ?_
        refine Tr.region_f (fun _ => false) ?_
        refine W.q rfl rfl rfl rfl (by decide) (Yd.as rfl .c) ?_
        refine W.end ?_
        refine NX.sub (env' := [(4, _)]) ⟨rfl, trivial⟩ ?_
        refine NX.then ?_
        refine Tr.ret' (RT.then ?_)
        refine res1 rfl rfl ?_
        intro w hc
        cases hr
        exact ⟨rfl, hc⟩
      · have hr := cond_f hb hr
        refine Tr.skip' ?_
        refine NX.then ?_
        refine Tr.seq ?_
        refine Tr.seq ?_
        refine Tr.region_f (fun _ => false) ?_
        refine W.q rfl rfl rfl rfl (by decide) (Yd.mv rfl (.t rfl)) ?_
        refine W.q rfl rfl rfl rfl (by decide) (Yd.mv rfl (.t rfl)) ?_
        refine W.q rfl rfl rfl rfl (by decide) (Yd.gtrU (a := x_0) (b := y_1) rfl (.t rfl) (.t rfl)) ?_
        refine W.end ?_
        refine NX.sub (env' := [(19, _)]) ⟨rfl, trivial⟩ ?_
        refine NX.then ?_
        refine Tr.cond (.t rfl) (fun hb => ?_) (fun hb => ?_)
        · have hr := cond_t hb hr
          refine Tr.seq ?_
          refine Tr.region_f (fun _ => false) ?_
          refine W.q rfl rfl rfl rfl (by decide) (Yd.as rfl .c) ?_
          refine W.end ?_
          refine NX.sub (env' := [(4, _)]) ⟨rfl, trivial⟩ ?_
          refine NX.then ?_
          refine Tr.ret' (RT.then ?_)
          refine res1 rfl rfl ?_
          intro w hc
          cases hr
          exact ⟨rfl, hc⟩
        · have hr := cond_f hb hr
          refine Tr.skip' ?_
          refine NX.then ?_
          refine Tr.seq ?_
          refine Tr.region_f (fun _ => false) ?_
          refine W.q rfl rfl rfl rfl (by decide) (Yd.as rfl .c) ?_
          refine W.end ?_
          refine NX.sub (env' := [(4, _)]) ⟨rfl, trivial⟩ ?_
          refine NX.then ?_
          refine Tr.ret' ?_
          refine res1 rfl rfl ?_
          intro w hc
          cases hr
          exact ⟨rfl, hc⟩

def cmp_Or_int_k3 : Option (Int) :=
  some ((0 : Int))

def cmp_Or_int_b7 (vals_0 : List Int) (t_6 : Int) (nx8 : Unit → Option (Int)) : Option (Int) :=
  (geti vals_0 t_6).bind fun y10 =>
  (bif (y10 != (0 : Int)) then
  some y10
  else
  nx8 ())

def cmp_Or_int (vals_0 : List Int) : Option (Int) :=
  forK (σ := Unit) (fun i s nx_ => cmp_Or_int_b7 vals_0 i nx_) (fun _ => cmp_Or_int_k3) ((vals_0.length : Int) - (0 : Int)).toNat (0 : Int) ()

set_option maxRecDepth 100000 in
set_option maxHeartbeats 4000000 in
theorem cmp_Or_int_ok (w0 : World) (m : Snap) (l : List HI) (uvals_0 : Value) (vals_0 : List Int) (hvals_0 : RS rI m uvals_0 vals_0) (r : Int) (hr : cmp_Or_int vals_0 = some r) (w : World) (hc : cX w0 ⟨m, l⟩ w) :
    Calls Try.prog 11 [uvals_0].toArray w fun e w' => e = .returned (.int .i64 r) ∧ cX w0 ⟨m, l⟩ w' := by
  unfold cmp_Or_int at hr
  refine calls_of_Tr (N := 18) Try.func11 rfl hc rfl (Nat.le_of_ble_eq_true rfl) ?_
  refine Tr.seq ?_
  refine Tr.region_f (fun _ => false) ?_
  refine W.q rfl rfl rfl rfl (by decide) (Yd.as rfl .c) ?_
  refine W.end ?_
  refine NX.sub (env' := [(0, _)]) ⟨rfl, trivial⟩ ?_
  refine NX.then ?_
  refine Tr.seq ?_
  refine Tr.region_f (fun _ => false) ?_
  refine W.q rfl rfl rfl rfl (by decide) (Yd.as rfl .c) ?_
  refine W.end ?_
  refine NX.sub (env' := [(0, _), (3, _)]) ⟨rfl, rfl, trivial⟩ ?_
  refine NX.then ?_
  refine Tr.seq ?_
  refine Tr.seq ?_
  refine Tr.region_f (fun _ => false) ?_
  refine W.q rfl rfl rfl rfl (by decide) (Yd.mv rfl (.t rfl)) ?_
  refine W.q rfl rfl rfl rfl (by decide) (Yd.lenR hvals_0 rfl Try.underlying44 (.t rfl)) ?_
  refine W.q rfl rfl rfl rfl (by decide) (Yd.mv rfl .c) ?_
  refine W.end ?_
  refine NX.sub (env' := [(3, _), (6, _), (7, _), (8, _)]) ⟨rfl, rfl, rfl, rfl, trivial⟩ ?_
  refine NX.then ?_
  refine Tr.join (S := fun env x => env = [(3, .int .i64 ((0 : Int)))] ∧ x = ⟨m, l⟩ ∧ cmp_Or_int_k3 = some r) ?_ (fun hk4 => ?_)
  · rintro _ _ ⟨rfl, rfl, hr⟩
    unfold cmp_Or_int_k3 at hr
    try dsimp only at hr
    refine NX.then ?_
    refine Tr.seq ?_
    refine Tr.region_f (fun _ => false) ?_
    refine W.q rfl rfl rfl rfl (by decide) (Yd.mv rfl (.t rfl)) ?_
    refine W.q rfl rfl rfl rfl (by decide) (Yd.as rfl (.t rfl)) ?_
    refine W.end ?_
    refine NX.sub (env' := [(2, _)]) ⟨rfl, trivial⟩ ?_
    refine NX.then ?_
    refine Tr.ret' ?_
    refine res1 rfl rfl ?_
    intro w hc
    cases hr
    exact ⟨rfl, hc⟩
  have hlen5 := (hvals_0).2.1
  refine Tr.block ?_
  refine Tr.sub (env' := [(3, _), (6, _), (7, _), (8, _)]) ⟨rfl, rfl, rfl, rfl, trivial⟩ ?_
  refine Tr.loop (S := fun n (z : Int × Unit) env x => match z with | (t_6, _) => env = [(3, .int .i64 ((0 : Int))), (6, uvals_0), (7, .int .i64 ((vals_0.length : Int))), (8, .int .i64 t_6)] ∧ x = ⟨m, l⟩ ∧ n = ((vals_0.length : Int) - t_6).toNat ∧ 0 ≤ t_6 ∧ forK (σ := Unit) (fun i s nx_ => cmp_Or_int_b7 vals_0 i nx_) (fun _ => cmp_Or_int_k3) n t_6 () = some r) _ ((0 : Int), ()) ⟨rfl, rfl, rfl, (by omega), hr⟩ ?_
  rintro n9 ⟨t_6, _⟩ env x ⟨rfl, rfl, hnt_6, h0t_6, hr⟩
  cases n9 with
  | zero =>
    simp only [forK] at hr
    refine Tr.seq ?_
    refine Tr.region_f (fun _ => false) ?_
    refine W.q rfl rfl rfl rfl (by decide) (Yd.lss rfl (.t rfl) (.t rfl)) ?_
    refine W.end ?_
    refine NX.sub (env' := [(3, _), (6, _), (7, _), (8, _), (9, _)]) ⟨rfl, rfl, rfl, rfl, rfl, trivial⟩ ?_
    refine NX.then ?_
    refine Tr.seq ?_
    refine Tr.cond (.t rfl) (fun hb => ?_) (fun hb => ?_)
    · exact absurd (hb.symm.trans (fr_end hnt_6)) (by decide)
    ·
      refine Tr.exit' (EX.then (EX.then (EX.block ?_)))
      refine NX.sub (env' := [(3, _)]) ⟨rfl, trivial⟩ ?_
      exact hk4 _ _ ⟨rfl, rfl, hr⟩
  | succ n9 =>
    obtain ⟨nx8, hnx8, hr⟩ := forK_succ hr
    try dsimp only at hr
    unfold cmp_Or_int_b7 at hr
    try dsimp only at hr
    have hltt_6 := fr_bnd hnt_6
    refine Tr.seq ?_
    refine Tr.region_f (fun _ => false) ?_
    refine W.q rfl rfl rfl rfl (by decide) (Yd.lss rfl (.t rfl) (.t rfl)) ?_
    refine W.end ?_
    refine NX.sub (env' := [(3, _), (6, _), (7, _), (8, _), (9, _)]) ⟨rfl, rfl, rfl, rfl, rfl, trivial⟩ ?_
    refine NX.then ?_
    refine Tr.seq ?_
    refine Tr.cond (.t rfl) (fun hb => ?_) (fun hb => ?_)
    rotate_left
    · exact absurd (hb.symm.trans (fr_go hnt_6)) (by decide)
    ·
      refine Tr.skip' ?_
      refine NX.then ?_
      refine Tr.seq ?_
      refine Tr.block ?_
      refine Tr.seq ?_
      obtain ⟨y10, hy11, hr⟩ := bind_some hr
      refine Tr.region_f (fun _ => false) ?_
      refine W.q rfl rfl rfl rfl (by decide) (Yd.idxR hvals_0 hy11 rfl Try.underlying44 SZ3 (.t rfl) (.t rfl)) ?_
      refine W.q rfl rfl rfl rfl (by decide) (Yd.ldF hvals_0 (.refl _) hy11 rfl rfl ON3 (.t rfl)) ?_
      refine W.q rfl rfl rfl rfl (by decide) (Yd.as rfl (.t rfl)) ?_
      refine W.end ?_
      refine NX.sub (env' := [(3, _), (6, _), (7, _), (8, _), (5, _)]) ⟨rfl, rfl, rfl, rfl, rfl, trivial⟩ ?_
      refine NX.then ?_
      refine Tr.seq ?_
      refine Tr.region_f (fun _ => false) ?_
      refine W.q rfl rfl rfl rfl (by decide) (Yd.mv rfl (.t rfl)) ?_
      refine W.q rfl rfl rfl rfl (by decide) (Yd.mv rfl (.t rfl)) ?_
      refine W.q rfl rfl rfl rfl (by decide) (Yd.neq rfl (.t rfl) (.t rfl)) ?_
      refine W.end ?_
      refine NX.sub (env' := [(3, _), (6, _), (7, _), (8, _), (5, _), (14, _)]) ⟨rfl, rfl, rfl, rfl, rfl, rfl, trivial⟩ ?_
      refine NX.then ?_
      refine Tr.cond (.t rfl) (fun hb => ?_) (fun hb => ?_)
      · have hr := cond_t hb hr
        refine Tr.seq ?_
        refine Tr.region_f (fun _ => false) ?_
        refine W.q rfl rfl rfl rfl (by decide) (Yd.mv rfl (.t rfl)) ?_
        refine W.q rfl rfl rfl rfl (by decide) (Yd.as rfl (.t rfl)) ?_
        refine W.end ?_
        refine NX.sub (env' := [(2, _)]) ⟨rfl, trivial⟩ ?_
        refine NX.then ?_
        refine Tr.ret' (RT.block (RT.then (RT.then (RT.block (RT.then ?_)))))
        refine res1 rfl rfl ?_
        intro w hc
        cases hr
        exact ⟨rfl, hc⟩
      · have hr := cond_f hb hr
        refine Tr.skip' ?_
        refine NX.block ?_
        refine NX.then ?_
        refine Tr.region_f (fun _ => false) ?_
        refine W.q rfl rfl rfl rfl (by decide) (Yd.add rfl (.t rfl) .c) ?_
        refine W.q rfl rfl rfl rfl (by decide) (Yd.mv rfl (.t rfl)) ?_
        refine W.end ?_
        refine NX.sub (env' := [(3, _), (6, _), (7, _), (8, _)]) ⟨rfl, rfl, rfl, rfl, trivial⟩ ?_
        refine NX.sub (env' := [(3, _), (6, _), (7, _), (8, _)]) ⟨rfl, rfl, rfl, rfl, trivial⟩ ?_
        have hw := w64_id (n := t_6 + 1) (by omega) (by omega)
        exact NX.again n9 (t_6 + 1, ()) (Nat.lt_succ_self _) ⟨(by rw [hw] <;> rfl), rfl, (fr_dec hnt_6), (by omega), ((hnx8 _).symm.trans hr)⟩

def truth_Primes_c1 (a_0 : Clause) (b_1 : Clause) : Option (Int) :=
  (cmp_Compare_uint32 a_0.yes b_1.yes).bind fun r5 =>
  (cmp_Compare_uint32 a_0.no b_1.no).bind fun r7 =>
  (cmp_Or_int (([r5, r7] : List Int))).bind fun r11 =>
  some r11

set_option maxRecDepth 100000 in
set_option maxHeartbeats 4000000 in
theorem truth_Primes_c1_ok (w0 : World) (m : Snap) (l : List HI) (a_0 : Clause) (b_1 : Clause) (r : Int) (hr : truth_Primes_c1 a_0 b_1 = some r) (w : World) (hc : cX w0 ⟨m, l⟩ w) :
    Calls Try.prog 10 [.agg #[.int .u32 (a_0.yes.toNat : Int), .int .u32 (a_0.no.toNat : Int)], .agg #[.int .u32 (b_1.yes.toNat : Int), .int .u32 (b_1.no.toNat : Int)]].toArray w fun e w' => e = .returned (.int .i64 r) ∧ cX w0 ⟨m, l⟩ w' := by
  unfold truth_Primes_c1 at hr
  refine calls_of_Tr (N := 17) Try.func10 rfl hc rfl (Nat.le_of_ble_eq_true rfl) ?_
  refine Tr.seq ?_
  refine Tr.region_f (fun i => Nat.beq i 0 || Nat.beq i 1) ?_
  refine W.e rfl rfl rfl rfl (by decide) (Ef.bx rfl (.t rfl) rfl) ?_
  rintro _ _ ⟨b1, rfl, rfl⟩
  refine ⟨.inl rfl, ?_⟩
  refine W.cast (m' := m) (l' := hcells b1 [_, _] 34 :: l) rfl rfl ?_
  refine W.e rfl rfl rfl rfl (by decide) (Ef.bx rfl (.t rfl) rfl) ?_
  rintro _ _ ⟨b3, rfl, rfl⟩
  refine ⟨.inl rfl, ?_⟩
  refine W.cast (m' := m) (l' := hcells b3 [_, _] 34 :: hcells b1 [_, _] 34 :: l) rfl rfl ?_
  refine W.q rfl rfl rfl rfl (by decide) (Yd.as rfl .c) ?_
  refine W.end ?_
  refine NX.sub (env' := [(2, _), (3, _)]) ⟨rfl, rfl, trivial⟩ ?_
  refine NX.then ?_
  refine Tr.seq ?_
  obtain ⟨r5, hr6, hr⟩ := bind_some hr
  obtain ⟨r7, hr8, hr⟩ := bind_some hr
  obtain ⟨r11, hr12, hr⟩ := bind_some hr
  refine Tr.region_x (fun i => Nat.beq i 10) (fun _ => false) (Ord.of [0, 1, 2, 3, 4, 5, 6, 7, 8, 9, 10, 11, 12]) FM (by kernel_rfl) ?_
  refine W.q rfl rfl rfl rfl (by decide) (Yd.fldB rfl Try.underlying34 rfl SZ32 rfl (.t rfl)) ?_
  refine W.q rfl rfl rfl rfl (by decide) (Yd.ldB (pos := 1) rfl rfl rfl ON32 (.t rfl)) ?_
  refine W.q rfl rfl rfl rfl (by decide) (Yd.fldB rfl Try.underlying34 rfl SZ32 rfl (.t rfl)) ?_
  refine W.q rfl rfl rfl rfl (by decide) (Yd.ldB (pos := 0) rfl rfl rfl ON32 (.t rfl)) ?_
  refine W.q rfl rfl rfl rfl (by decide) (Yd.call (v := .int .i64 r5) rfl Try.func12 rfl rfl (.cons (.t rfl) (.cons (.t rfl) .nil)) (fun x' hx w hw => cmp_Compare_uint32_ok w0 x'.m x'.l a_0.yes b_1.yes _ hr6 w hw)) ?_
  refine W.q rfl rfl rfl rfl (by decide) (Yd.fldB rfl Try.underlying34 rfl SZ32 rfl (.t rfl)) ?_
  refine W.q rfl rfl rfl rfl (by decide) (Yd.ldB (pos := 1) rfl rfl rfl ON32 (.t rfl)) ?_
  refine W.q rfl rfl rfl rfl (by decide) (Yd.fldB rfl Try.underlying34 rfl SZ32 rfl (.t rfl)) ?_
  refine W.q rfl rfl rfl rfl (by decide) (Yd.ldB (pos := 0) rfl rfl rfl ON32 (.t rfl)) ?_
  refine W.q rfl rfl rfl rfl (by decide) (Yd.call (v := .int .i64 r7) rfl Try.func12 rfl rfl (.cons (.t rfl) (.cons (.t rfl) .nil)) (fun x' hx w hw => cmp_Compare_uint32_ok w0 x'.m x'.l a_0.no b_1.no _ hr8 w hw)) ?_
  refine W.e rfl rfl rfl rfl (by decide) (Ef.bsT (enc := encI) (vs := [_, _]) (ys := [r5, r7]) (fun _ => rfl) IF3 rfl Try.underlying44 (by decide) rfl (.cons (.t rfl) (.cons (.t rfl) .nil)) rfl rfl (by decide)) ?_
  rintro v9 _ rfl
  refine ⟨.inr ⟨.refl _, [_], rfl⟩, ?_⟩
  refine W.cast (m' := m) (l' := hownT 3 1 encI v9 _ :: hcells b3 [_, _] 34 :: hcells b1 [_, _] 34 :: l) rfl rfl ?_
  refine W.q rfl rfl rfl rfl (by decide) (Yd.call (v := .int .i64 r11) rfl Try.func11 rfl rfl (.cons (.t rfl) .nil) (by intro x' hx w hw; obtain ⟨p0, hp0⟩ := hx.at (p := 0) rfl; obtain ⟨m2, hm2, hc2, ⟨L2, hl1, hl2⟩, hback⟩ := cX_lend hw hp0 lone_own; have hL1 : RS rI m2 _ _ := RS_of_own hl1 hl2; exact (cmp_Or_int_ok w0 m2 _ _ _ hL1 _ hr12 w hc2).mono fun e w' ⟨he, hc'⟩ => ⟨he, (hback m2 _ _ w' (.refl _) hp0).2 hc'⟩)) ?_
  refine W.q rfl rfl rfl rfl (by decide) (Yd.as rfl (.t rfl)) ?_
  refine W.end ?_
  refine NX.sub (env' := [(4, _)]) ⟨rfl, trivial⟩ ?_
  refine NX.drop (l' := l) (.cons _ (.cons _ (.cons _ (.refl _)))) ?_
  refine NX.then ?_
  refine Tr.ret' ?_
  refine res1 rfl rfl ?_
  intro w hc
  cases hr
  exact ⟨rfl, hc⟩



def truth_Primes_k25 (l21 : List Clause) : Option ((List Clause) × Int) :=
  (slices_SortFunc_SapiClauseapiClause_f10 l21).bind fun r27 =>
  some ((r27, (0 : Int)))

def truth_Primes_k50 (nx30 : (((List Clause) × (List (Clause × Bool))) → Option ((List Clause) × Int))) (l47 : List (Clause × Bool)) (l48 : List Clause) : Option ((List Clause) × Int) :=
  nx30 (l48, l47)

def truth_Primes_k64 (y38 : (Clause × Bool)) (l45 : List Clause) (nx53 : (((List (Clause × Bool)) × (List Clause)) → Option ((List Clause) × Int))) (prime_62 : Bool) (l63 : List (Clause × Bool)) : Option ((List Clause) × Int) :=
  (bif prime_62 then
  bif decide (l45.length + (([({ yes := y38.1.yes, no := y38.1.no } : Clause)] : List Clause)).length ≤ 17592186044416) then
  nx53 (l63, (l45 ++ ([({ yes := y38.1.yes, no := y38.1.no } : Clause)] : List Clause))) else none
  else
  nx53 (l63, l45))

def truth_Primes_b72 (l19 : List (Clause × Bool)) (y38 : (Clause × Bool)) (t_71 : Int) (prime_59 : Bool) (l61 : List (Clause × Bool)) (nx73 : (Bool × (List (Clause × Bool))) → Option ((List Clause) × Int)) : Option ((List Clause) × Int) :=
  (bif ((((y38.1.yes ||| y38.1.no) >>> t_71.toNat) &&& 1#32) == 0#32) then
  nx73 (prime_59, l61)
  else
  (bif ((mget l19 (({ yes := (y38.1.yes ^^^ (1#32 <<< t_71.toNat)), no := (y38.1.no ^^^ (1#32 <<< t_71.toNat)) } : Clause))).getD false) then
  nx73 (false, (mput l61 (({ yes := (y38.1.yes &&& ~~~(1#32 <<< t_71.toNat)), no := (y38.1.no &&& ~~~(1#32 <<< t_71.toNat)) } : Clause)) true))
  else
  nx73 (prime_59, l61)))

def truth_Primes_b52 (n_0 : Int) (l19 : List (Clause × Bool)) (y38 : Clause × Bool) (l44 : List (Clause × Bool)) (l45 : List Clause) (nx53 : ((List (Clause × Bool)) × (List Clause)) → Option ((List Clause) × Int)) : Option ((List Clause) × Int) :=
  bif decide (n_0 ≤ 9223372036854775807) then
  forK (σ := Bool × (List (Clause × Bool))) (fun i s nx_ => truth_Primes_b72 l19 y38 i s.1 s.2 nx_) (fun s => truth_Primes_k64 y38 l45 nx53 s.1 s.2) (n_0 - (0 : Int)).toNat (0 : Int) (true, l44) else none

def truth_Primes_b29 (n_0 : Int) (l17 : List Clause) (l19 : List (Clause × Bool)) (nx30 : ((List Clause) × (List (Clause × Bool))) → Option ((List Clause) × Int)) : Option ((List Clause) × Int) :=
  (bif (decide ((l19.length : Int) > (0 : Int))) then
  anyK (σ := (List (Clause × Bool)) × (List Clause)) (fun y s nx_ => truth_Primes_b52 n_0 l19 y s.1 s.2 nx_) (fun s => truth_Primes_k50 nx30 s.1 s.2) l19.length l19 ((([] : List (Clause × Bool))), l17)
  else
  truth_Primes_k25 l17)

def truth_Primes_k10 (n_0 : Int) (fuel : Nat) (l9 : List (Clause × Bool)) : Option ((List Clause) × Int) :=
  whileK (σ := (List Clause) × (List (Clause × Bool))) (fun s nx_ => truth_Primes_b29 n_0 s.1 s.2 nx_) fuel ((([] : List Clause)), l9)

def truth_Primes_b77 (f_1 : List Bool) (t_76 : Int) (l8 : List (Clause × Bool)) (nx78 : ((List (Clause × Bool))) → Option ((List Clause) × Int)) : Option ((List Clause) × Int) :=
  (geti f_1 t_76).bind fun y80 =>
  (bif y80 then
  nx78 (mput l8 (({ yes := (BitVec.ofInt 32 t_76), no := (BitVec.ofInt 32 ((w64 ((w64 ((f_1.length : Int) - (1 : Int))) - t_76)))) } : Clause)) true)
  else
  nx78 l8)

def truth_Primes (fuel : Nat) (n_0 : Int) (f_1 : List Bool) : Option ((List Clause) × Int) :=
  (truth_Check n_0 f_1).bind fun r1 =>
  (bif (r1 != (0 : Int)) then
  some (([], r1))
  else
  forK (σ := (List (Clause × Bool))) (fun i s nx_ => truth_Primes_b77 f_1 i s nx_) (fun s => truth_Primes_k10 n_0 fuel s) ((f_1.length : Int) - (0 : Int)).toNat (0 : Int) (([] : List (Clause × Bool))))

set_option maxRecDepth 100000 in
set_option maxHeartbeats 4000000 in
theorem truth_Primes_ok (w0 : World) (m : Snap) (l : List HI) (fuel : Nat) (n_0 : Int) (uf_1 : Value) (f_1 : List Bool) (hf_1 : RS rB m uf_1 f_1) (r : (List Clause) × Int) (hr : truth_Primes fuel n_0 f_1 = some r) (w : World) (hc : cX w0 ⟨m, l⟩ w) :
    Calls Try.prog 4 [.int .i64 n_0, uf_1].toArray w fun e w' => ∃ z0 : Value, e = .returned (.tuple #[z0, .int .i64 r.2]) ∧ cX w0 ⟨m, hownT 34 2 Clause.enc z0 r.1 :: l⟩ w' := by
  unfold truth_Primes at hr
  refine calls_of_Tr (N := 99) Try.func4 rfl hc rfl (Nat.le_of_ble_eq_true rfl) ?_
  refine Tr.seq ?_
  refine Tr.region_f (fun _ => false) ?_
  refine W.q rfl rfl rfl rfl (by decide) (Yd.as rfl .c) ?_
  refine W.q rfl rfl rfl rfl (by decide) (Yd.as rfl .c) ?_
  refine W.end ?_
  refine NX.sub (env' := [(0, _), (1, _)]) ⟨rfl, rfl, trivial⟩ ?_
  refine NX.then ?_
  refine Tr.seq ?_
  refine Tr.seq ?_
  obtain ⟨r1, hr2, hr⟩ := bind_some hr
  refine Tr.region_f (fun _ => false) ?_
  refine W.q rfl rfl rfl rfl (by decide) (Yd.mv rfl (.t rfl)) ?_
  refine W.q rfl rfl rfl rfl (by decide) (Yd.mv rfl (.t rfl)) ?_
  refine W.q rfl rfl rfl rfl (by decide) (Yd.call (v := .int .i64 r1) rfl Try.func8 rfl rfl (.cons (.t rfl) (.cons (.t rfl) .nil)) (fun x' hx w hw => truth_Check_ok w0 x'.m x'.l n_0 _ _ (hf_1.mono hx.1) _ hr2 w hw)) ?_
  refine W.q rfl rfl rfl rfl (by decide) (Yd.as rfl (.t rfl)) ?_
  refine W.end ?_
  refine NX.sub (env' := [(0, _), (1, _), (6, _)]) ⟨rfl, rfl, rfl, trivial⟩ ?_
  refine NX.then ?_
  refine Tr.seq ?_
  refine Tr.region_f (fun _ => false) ?_
  refine W.q rfl rfl rfl rfl (by decide) (Yd.mv rfl (.t rfl)) ?_
  refine W.q rfl rfl rfl rfl (by decide) (Yd.neq rfl (.t rfl) .c) ?_
  refine W.end ?_
  refine NX.sub (env' := [(0, _), (1, _), (6, _), (19, _)]) ⟨rfl, rfl, rfl, rfl, trivial⟩ ?_
  refine NX.then ?_
  refine Tr.cond (.t rfl) (fun hb => ?_) (fun hb => ?_)
  · have hr := cond_t hb hr
    refine Tr.seq ?_
    refine Tr.region_f (fun _ => false) ?_
    refine W.q rfl rfl rfl rfl (by decide) (Yd.mv rfl (.t rfl)) ?_
    refine W.q rfl rfl rfl rfl (by decide) (Yd.as rfl .c) ?_
    refine W.q rfl rfl rfl rfl (by decide) (Yd.as rfl (.t rfl)) ?_
    refine W.end ?_
    refine NX.sub (env' := [(4, _), (5, _)]) ⟨rfl, rfl, trivial⟩ ?_
    refine NX.then ?_
    refine Tr.ret' (RT.then ?_)
    refine res2 rfl rfl rfl ?_
    intro w hc
    cases hr
    exact ⟨_, rfl, (cX_nil hc)⟩
  · have hr := cond_f hb hr
    refine Tr.skip' ?_
    refine NX.then ?_
    refine Tr.seq ?_
    refine Tr.region_f (fun i => Nat.beq i 0) ?_
    refine W.e rfl rfl rfl rfl (by decide) (Ef.mkMap (ν := Bool) ek34 ev4 rfl) ?_
    rintro _ _ ⟨b3, rfl, rfl⟩
    refine ⟨.inl rfl, ?_⟩
    refine W.cast (m' := m) (l' := hmap b3 ek34 ev4 _ :: l) rfl rfl ?_
    refine W.q rfl rfl rfl rfl (by decide) (Yd.as rfl (.t rfl)) ?_
    refine W.end ?_
    refine NX.sub (env' := [(0, _), (1, _), (7, _)]) ⟨rfl, rfl, rfl, trivial⟩ ?_
    refine NX.then ?_
    refine Tr.seq ?_
    refine Tr.seq ?_
    refine Tr.region_f (fun _ => false) ?_
    refine W.q rfl rfl rfl rfl (by decide) (Yd.mv rfl (.t rfl)) ?_
    refine W.q rfl rfl rfl rfl (by decide) (Yd.lenR hf_1 rfl Try.underlying22 (.t rfl)) ?_
    refine W.q rfl rfl rfl rfl (by decide) (Yd.mv rfl .c) ?_
    refine W.end ?_
    refine NX.sub (env' := [(0, _), (1, _), (7, _), (22, _), (23, _), (24, _)]) ⟨rfl, rfl, rfl, rfl, rfl, rfl, trivial⟩ ?_
    refine NX.then ?_
    refine Tr.join (S := fun env x => ∃ l9 : List (Clause × Bool), env = [(0, .int .i64 n_0), (7, (.map (some b3)))] ∧ x = ⟨m, hmap b3 ek34 ev4 l9 :: l⟩ ∧ truth_Primes_k10 n_0 fuel l9 = some r) ?_ (fun hk11 => ?_)
    · rintro _ _ ⟨l9, rfl, rfl, hr⟩
      unfold truth_Primes_k10 at hr
      try dsimp only at hr
      refine NX.then ?_
      refine Tr.seq ?_
      refine Tr.region_f (fun _ => false) ?_
      refine W.q rfl rfl rfl rfl (by decide) (Yd.as rfl .c) ?_
      refine W.end ?_
      refine NX.sub (env' := [(0, _), (7, _), (10, _)]) ⟨rfl, rfl, rfl, trivial⟩ ?_
      refine NX.then ?_
      refine Tr.seq ?_
      refine Tr.addnil 34 2 ?_
      refine Tr.join (S := fun env x => ∃ l21 : List Clause, ∃ v22 : Value, env = [(10, v22)] ∧ x = ⟨m, hownT 34 2 Clause.enc v22 l21 :: l⟩ ∧ truth_Primes_k25 l21 = some r) ?_ (fun hk26 => ?_)
      · rintro _ _ ⟨l21, v22, rfl, rfl, hr⟩
        unfold truth_Primes_k25 at hr
        try dsimp only at hr
        refine NX.then ?_
        refine Tr.seq ?_
        obtain ⟨r27, hr28, hr⟩ := bind_some hr
        refine Tr.region_f (fun i => Nat.beq i 1) ?_
        refine W.q rfl rfl rfl rfl (by decide) (Yd.mv rfl (.t rfl)) ?_
        refine W.e rfl rfl rfl rfl (by decide) (Ef.call (R := fun z x' => z = .tuple #[] ∧ x' = ⟨m, hownT 34 2 Clause.enc v22 r27 :: l⟩) rfl Try.func9 rfl rfl (.cons (.t rfl) (.cons .f .nil)) (fun w hw => (slices_SortFunc_SapiClauseapiClause_f10_ok w0 _ _ _ _ _ hr28 w (cX_front (p := 0) hw rfl)).mono fun e w' ⟨he, hc'⟩ => ⟨_, _, he, ⟨rfl, rfl⟩, cX_back (p := 0) hc' rfl⟩)) ?_
        rintro _ _ ⟨rfl, rfl⟩
        refine ⟨.inl rfl, ?_⟩
        refine W.cast (m' := m) (l' := hownT 34 2 Clause.enc v22 _ :: l) rfl rfl ?_
        refine W.end ?_
        refine NX.sub (env' := [(10, _)]) ⟨rfl, trivial⟩ ?_
        refine NX.then ?_
        refine Tr.seq ?_
        refine Tr.region_f (fun _ => false) ?_
        refine W.q rfl rfl rfl rfl (by decide) (Yd.mv rfl (.t rfl)) ?_
        refine W.q rfl rfl rfl rfl (by decide) (Yd.as rfl (.t rfl)) ?_
        refine W.q rfl rfl rfl rfl (by decide) (Yd.as rfl .c) ?_
        refine W.end ?_
        refine NX.sub (env' := [(4, _), (5, _)]) ⟨rfl, rfl, trivial⟩ ?_
        refine NX.then ?_
        refine Tr.ret' ?_
        refine res2 rfl rfl rfl ?_
        intro w hc
        cases hr
        exact ⟨_, rfl, hc⟩
      refine Tr.block ?_
      refine Tr.sub (env' := [(0, _), (7, _), (10, _)]) ⟨rfl, rfl, rfl, trivial⟩ ?_
      refine Tr.loop (S := fun n (z : (List Clause) × (List (Clause × Bool))) env x => match z with | (l17, l19) => ∃ v18 : Value, ∃ b20 : Nat, env = [(0, .int .i64 n_0), (7, (.map (some b20))), (10, v18)] ∧ x = ⟨m, hownT 34 2 Clause.enc v18 l17 :: hmap b20 ek34 ev4 l19 :: l⟩ ∧ whileK (σ := (List Clause) × (List (Clause × Bool))) (fun s nx_ => truth_Primes_b29 n_0 s.1 s.2 nx_) n (l17, l19) = some r) _ (([] : List Clause), l9) ⟨_, _, rfl, rfl, hr⟩ ?_
      rintro n31 ⟨l17, l19⟩ env x ⟨v18, b20, rfl, rfl, hr⟩
      cases n31 with
      | zero => simp [whileK] at hr
      | succ n31 =>
        obtain ⟨nx30, hnx30, hr⟩ := whileK_succ hr
        try dsimp only at hr
        unfold truth_Primes_b29 at hr
        try dsimp only at hr
        refine Tr.seq ?_
        refine Tr.seq ?_
        refine Tr.region_f (fun _ => false) ?_
        refine W.q rfl rfl rfl rfl (by decide) (Yd.mv rfl (.t rfl)) ?_
        refine W.q rfl rfl rfl rfl (by decide) (Yd.mlen (pos := 1) rfl rfl Try.underlying31 (.t rfl)) ?_
        refine W.q rfl rfl rfl rfl (by decide) (Yd.gtr rfl (.t rfl) .c) ?_
        refine W.end ?_
        refine NX.sub (env' := [(0, _), (7, _), (10, _), (43, _)]) ⟨rfl, rfl, rfl, rfl, trivial⟩ ?_
        refine NX.then ?_
        refine Tr.cond (.t rfl) (fun hb => ?_) (fun hb => ?_)
        · have hr := cond_t hb hr
          refine Tr.skip' ?_
          refine NX.then ?_
          refine Tr.block ?_
          refine Tr.seq ?_
          refine Tr.region_f (fun i => Nat.beq i 0) ?_
          refine W.e rfl rfl rfl rfl (by decide) (Ef.mkMap (ν := Bool) ek34 ev4 rfl) ?_
          rintro _ _ ⟨b32, rfl, rfl⟩
          refine ⟨.inl rfl, ?_⟩
          refine W.cast (m' := m) (l' := hmap b32 ek34 ev4 _ :: hownT 34 2 Clause.enc v18 _ :: hmap b20 ek34 ev4 _ :: l) rfl rfl ?_
          refine W.q rfl rfl rfl rfl (by decide) (Yd.as rfl (.t rfl)) ?_
          refine W.end ?_
          refine NX.sub (env' := [(0, _), (7, _), (10, _), (11, _)]) ⟨rfl, rfl, rfl, rfl, trivial⟩ ?_
          refine NX.then ?_
          refine Tr.seq ?_
          refine Tr.seq ?_
          refine Tr.region_f (fun i => Nat.beq i 1) ?_
          refine W.q rfl rfl rfl rfl (by decide) (Yd.mv rfl (.t rfl)) ?_
          refine W.e rfl rfl rfl rfl (by decide) (Ef.mrange (ek := ek34) (ev := ev4) (pos := 2) rfl rfl Try.underlying31 (.t rfl)) ?_
          rintro _ _ ⟨b34, rfl, rfl⟩
          refine ⟨.inl rfl, ?_⟩
          refine W.cast (m' := m) (l' := hmap b32 ek34 ev4 _ :: hownT 34 2 Clause.enc v18 _ :: hmapI b20 b34 ek34 ev4 _ _ _ :: l) rfl rfl ?_
          refine W.end ?_
          refine NX.sub (env' := [(0, _), (7, _), (10, _), (11, _), (46, _)]) ⟨rfl, rfl, rfl, rfl, rfl, trivial⟩ ?_
          refine NX.then ?_
          refine Tr.join (S := fun env x => ∃ l47 : List (Clause × Bool), ∃ l48 : List Clause, ∃ v49 : Value, env = [(0, .int .i64 n_0), (10, v49), (11, (.map (some b32)))] ∧ x = ⟨m, hmap b32 ek34 ev4 l47 :: hownT 34 2 Clause.enc v49 l48 :: l⟩ ∧ truth_Primes_k50 nx30 l47 l48 = some r) ?_ (fun hk51 => ?_)
          · rintro _ _ ⟨l47, l48, v49, rfl, rfl, hr⟩
            unfold truth_Primes_k50 at hr
            try dsimp only at hr
            refine NX.then ?_
            refine Tr.region_f (fun _ => false) ?_
            refine W.q rfl rfl rfl rfl (by decide) (Yd.mv rfl (.t rfl)) ?_
            refine W.q rfl rfl rfl rfl (by decide) (Yd.as rfl (.t rfl)) ?_
            refine W.end ?_
            refine NX.sub (env' := [(0, _), (10, _), (7, _)]) ⟨rfl, rfl, rfl, trivial⟩ ?_
            refine NX.block ?_
            refine NX.sub (env' := [(0, _), (7, _), (10, _)]) ⟨rfl, rfl, rfl, trivial⟩ ?_
            refine NX.imp (fun w hw => cX_front (p := 1) hw rfl) ?_
            refine NX.cast (m' := m) (l' := hownT 34 2 Clause.enc v49 _ :: hmap b32 ek34 ev4 _ :: l) rfl rfl ?_
            exact NX.again n31 (l48, l47) (Nat.lt_succ_self _) ⟨_, _, rfl, rfl, ((hnx30 _).symm.trans hr)⟩
          refine Tr.block ?_
          refine Tr.sub (env' := [(0, _), (7, _), (10, _), (11, _), (46, _)]) ⟨rfl, rfl, rfl, rfl, rfl, trivial⟩ ?_
          refine Tr.loop (S := fun n (z : List (Clause × Bool) × (List (Clause × Bool)) × (List Clause)) env x => match z with | (left35, l44, l45) => ∃ cur36 : Option (Clause × Bool), ∃ v46 : Value, env = [(0, .int .i64 n_0), (7, (.map (some b20))), (10, v46), (11, (.map (some b32))), (46, bp b34 0)] ∧ x = ⟨m, hmap b32 ek34 ev4 l44 :: hownT 34 2 Clause.enc v46 l45 :: hmapI b20 b34 ek34 ev4 l19 left35 cur36 :: l⟩ ∧ n = left35.length ∧ anyK (σ := (List (Clause × Bool)) × (List Clause)) (fun y s nx_ => truth_Primes_b52 n_0 l19 y s.1 s.2 nx_) (fun s => truth_Primes_k50 nx30 s.1 s.2) n left35 (l44, l45) = some r) _ (l19, ([] : List (Clause × Bool)), l17) ⟨_, _, rfl, rfl, rfl, hr⟩ ?_
          rintro n ⟨left35, l44, l45⟩ env x ⟨cur36, v46, rfl, rfl, hn, hr⟩
          by_cases hl40 : left35 = []
          · have hr := anyK_nil hr hn hl40
            refine Tr.seq ?_
            refine Tr.region_f (fun i => Nat.beq i 0) ?_
            refine W.e rfl rfl rfl rfl (by decide) (next_nil (pos := 2) rfl rfl (.t rfl) hl40) ?_
            rintro _ _ ⟨rfl, rfl⟩
            refine ⟨.inl rfl, ?_⟩
            refine W.cast (m' := m) (l' := hmap b32 ek34 ev4 _ :: hownT 34 2 Clause.enc v46 _ :: hmapI b20 b34 ek34 ev4 _ _ _ :: l) rfl rfl ?_
            refine W.q rfl rfl rfl rfl (by decide) (Yd.ext rfl (.t rfl) rfl) ?_
            refine W.end ?_
            refine NX.sub (env' := [(0, _), (7, _), (10, _), (11, _), (46, _), (48, _)]) ⟨rfl, rfl, rfl, rfl, rfl, rfl, trivial⟩ ?_
            refine NX.then ?_
            refine Tr.seq ?_
            refine Tr.cond (.t rfl) (fun hb => ?_) (fun hb => ?_)
            · exact absurd (hb.symm.trans rfl) (by decide)
            ·
              refine Tr.exit' (EX.then (EX.then (EX.block ?_)))
              refine NX.sub (env' := [(0, _), (10, _), (11, _)]) ⟨rfl, rfl, rfl, trivial⟩ ?_
              refine NX.drop (l' := hmap b32 ek34 ev4 _ :: hownT 34 2 Clause.enc v46 _ :: l) (.cons_cons _ (.cons_cons _ (.cons _ (.refl _)))) ?_
              exact hk51 _ _ ⟨_, _, _, rfl, rfl, hr⟩
          ·
            refine Tr.seq ?_
            refine Tr.region_f (fun i => Nat.beq i 0) ?_
            refine W.e rfl rfl rfl rfl (by decide) (next_more (pos := 2) rfl rfl (.t rfl) hl40) ?_
            rintro _ _ ⟨j37, y38, hj39, rfl, rfl⟩
            obtain ⟨nx53, hnx53, hr⟩ := anyK_more hr hn hj39
            try dsimp only at hr
            unfold truth_Primes_b52 at hr
            try dsimp only at hr
            refine ⟨.inl rfl, ?_⟩
            refine W.cast (m' := m) (l' := hmap b32 ek34 ev4 _ :: hownT 34 2 Clause.enc v46 _ :: hmapI b20 b34 ek34 ev4 _ _ _ :: l) rfl rfl ?_
            refine W.q rfl rfl rfl rfl (by decide) (Yd.ext rfl (.t rfl) rfl) ?_
            refine W.end ?_
            refine NX.sub (env' := [(0, _), (7, _), (10, _), (11, _), (46, _), (48, _)]) ⟨rfl, rfl, rfl, rfl, rfl, rfl, trivial⟩ ?_
            refine NX.then ?_
            refine Tr.seq ?_
            refine Tr.cond (.t rfl) (fun hb => ?_) (fun hb => ?_)
            rotate_left
            · exact absurd (hb.symm.trans rfl) (by decide)
            ·
              refine Tr.skip' ?_
              refine NX.then ?_
              refine Tr.block ?_
              refine Tr.seq ?_
              refine Tr.region_f (fun i => Nat.beq i 2 || Nat.beq i 3) ?_
              refine W.q rfl rfl rfl rfl (by decide) (Yd.mentry (pos := 2) rfl rfl (.t rfl)) ?_
              refine W.q rfl rfl rfl rfl (by decide) (Yd.ext rfl (.t rfl) rfl) ?_
              refine W.e rfl rfl rfl rfl (by decide) (Ef.al rfl ZR34 rfl) ?_
              rintro _ _ ⟨b54, rfl, rfl⟩
              refine ⟨.inl rfl, ?_⟩
              refine W.cast (m' := m) (l' := hcells b54 [_, _] 34 :: hmap b32 ek34 ev4 _ :: hownT 34 2 Clause.enc v46 _ :: hmapI b20 b34 ek34 ev4 _ _ _ :: l) rfl rfl ?_
              refine W.s rfl rfl rfl rfl (Ef.stB (pos := 0) (us := [_, _]) (cs' := [_, _]) rfl rfl (.t rfl) (.t rfl) SZ34 rfl rfl rfl (Nat.le_of_ble_eq_true rfl) rfl) ?_
              rintro _ _ ⟨rfl, rfl⟩
              refine ⟨.inl rfl, ?_⟩
              refine W.cast (m' := m) (l' := hcells b54 [_, _] 34 :: hmap b32 ek34 ev4 _ :: hownT 34 2 Clause.enc v46 _ :: hmapI b20 b34 ek34 ev4 _ _ _ :: l) rfl rfl ?_
              refine W.end ?_
              refine NX.sub (env' := [(0, _), (7, _), (10, _), (11, _), (46, _), (12, _)]) ⟨rfl, rfl, rfl, rfl, rfl, rfl, trivial⟩ ?_
              refine NX.then ?_
              refine Tr.seq ?_
              refine Tr.region_f (fun _ => false) ?_
              refine W.q rfl rfl rfl rfl (by decide) (Yd.as rfl .c) ?_
              refine W.end ?_
              refine NX.sub (env' := [(0, _), (7, _), (10, _), (11, _), (46, _), (12, _), (13, _)]) ⟨rfl, rfl, rfl, rfl, rfl, rfl, rfl, trivial⟩ ?_
              refine NX.then ?_
              refine Tr.seq ?_
              refine Tr.seq ?_
              refine Tr.region_f (fun _ => false) ?_
              refine W.q rfl rfl rfl rfl (by decide) (Yd.mv rfl (.t rfl)) ?_
              refine W.q rfl rfl rfl rfl (by decide) (Yd.mv rfl .c) ?_
              refine W.end ?_
              refine NX.sub (env' := [(0, _), (7, _), (10, _), (11, _), (46, _), (12, _), (13, _), (51, _), (52, _)]) ⟨rfl, rfl, rfl, rfl, rfl, rfl, rfl, rfl, rfl, trivial⟩ ?_
              refine NX.then ?_
              refine Tr.join (S := fun env x => ∃ prime_62 : Bool, ∃ l63 : List (Clause × Bool), env = [(0, .int .i64 n_0), (7, (.map (some b20))), (10, v46), (11, (.map (some b32))), (46, bp b34 0), (12, bp b54 0), (13, .bool prime_62)] ∧ x = ⟨m, hcells b54 [.int .u32 (y38.1.yes.toNat : Int), .int .u32 (y38.1.no.toNat : Int)] 34 :: hmap b32 ek34 ev4 l63 :: hownT 34 2 Clause.enc v46 l45 :: hmapI b20 b34 ek34 ev4 l19 ((left35.eraseIdx j37)) ((some y38)) :: l⟩ ∧ truth_Primes_k64 y38 l45 nx53 prime_62 l63 = some r) ?_ (fun hk65 => ?_)
              · rintro _ _ ⟨prime_62, l63, rfl, rfl, hr⟩
                unfold truth_Primes_k64 at hr
                try dsimp only at hr
                refine NX.then ?_
                refine Tr.seq ?_
                refine Tr.region_f (fun _ => false) ?_
                refine W.q rfl rfl rfl rfl (by decide) (Yd.mv rfl (.t rfl)) ?_
                refine W.end ?_
                refine NX.sub (env' := [(0, _), (7, _), (10, _), (11, _), (46, _), (12, _), (90, _)]) ⟨rfl, rfl, rfl, rfl, rfl, rfl, rfl, trivial⟩ ?_
                refine NX.then ?_
                refine Tr.cond (.t rfl) (fun hb => ?_) (fun hb => ?_)
                · have hr := cond_t hb hr
                  obtain ⟨hq69, hr⟩ := guard_some hr; replace hq69 := of_decide_eq_true hq69
                  refine Tr.region_f (fun i => Nat.beq i 2 || Nat.beq i 3) ?_
                  refine W.q rfl rfl rfl rfl (by decide) (Yd.mv rfl (.t rfl)) ?_
                  refine W.q rfl rfl rfl rfl (by decide) (Yd.ldBs (pos := 0) (us := [_, _]) rfl rfl rfl rfl ON34 US34 SZ34 (.t rfl)) ?_
                  refine W.e rfl rfl rfl rfl (by decide) (Ef.bsT (enc := Clause.enc) (vs := [_]) (ys := [({ yes := y38.1.yes, no := y38.1.no } : Clause)]) (fun _ => rfl) IF34 rfl Try.underlying23 (by decide) rfl (.cons (.t rfl) .nil) rfl rfl (by decide)) ?_
                  rintro v66 _ rfl
                  refine ⟨.inl rfl, ?_⟩
                  refine W.cast (m' := m) (l' := hownT 34 2 Clause.enc v66 _ :: hcells b54 [_, _] 34 :: hmap b32 ek34 ev4 _ :: hownT 34 2 Clause.enc v46 _ :: hmapI b20 b34 ek34 ev4 _ _ _ :: l) rfl rfl ?_
                  refine W.e rfl rfl rfl rfl (by decide) (Ef.apI (pos := 3) (enc := Clause.enc) (xs := l45) (ys := ([({ yes := y38.1.yes, no := y38.1.no } : Clause)] : List Clause)) (fun _ => rfl) IF34 rfl rfl Try.underlying23 rfl (by decide) (.t rfl) (.t rfl) (Src.own (pos := 0) rfl) (fun _ => rfl) (by omega) (by omega)) ?_
                  rintro v68 _ rfl
                  refine ⟨.inl rfl, ?_⟩
                  refine W.cast (m' := m) (l' := hownT 34 2 Clause.enc v66 _ :: hcells b54 [_, _] 34 :: hmap b32 ek34 ev4 _ :: hownT 34 2 Clause.enc v68 _ :: hmapI b20 b34 ek34 ev4 _ _ _ :: l) rfl rfl ?_
                  refine W.q rfl rfl rfl rfl (by decide) (Yd.as rfl (.t rfl)) ?_
                  refine W.end ?_
                  refine NX.sub (env' := [(0, _), (7, _), (10, _), (11, _), (46, _)]) ⟨rfl, rfl, rfl, rfl, rfl, trivial⟩ ?_
                  refine NX.drop (l' := hmap b32 ek34 ev4 _ :: hownT 34 2 Clause.enc v68 _ :: hmapI b20 b34 ek34 ev4 _ _ _ :: l) (.cons _ (.cons _ (.cons_cons _ (.cons_cons _ (.cons_cons _ (.refl _)))))) ?_
                  refine NX.block ?_
                  refine NX.sub (env' := [(0, _), (7, _), (10, _), (11, _), (46, _)]) ⟨rfl, rfl, rfl, rfl, rfl, trivial⟩ ?_
                  exact NX.again (left35.eraseIdx j37).length (left35.eraseIdx j37, l63, (l45 ++ ([({ yes := y38.1.yes, no := y38.1.no } : Clause)] : List Clause))) (erase_lt hn hj39) ⟨_, _, rfl, rfl, rfl, ((hnx53 _).symm.trans hr)⟩
                · have hr := cond_f hb hr
                  refine Tr.skip' ?_
                  refine NX.block ?_
                  refine NX.sub (env' := [(0, _), (7, _), (10, _), (11, _), (46, _)]) ⟨rfl, rfl, rfl, rfl, rfl, trivial⟩ ?_
                  refine NX.drop (l' := hmap b32 ek34 ev4 _ :: hownT 34 2 Clause.enc v46 _ :: hmapI b20 b34 ek34 ev4 _ _ _ :: l) (.cons _ (.cons_cons _ (.cons_cons _ (.cons_cons _ (.refl _))))) ?_
                  exact NX.again (left35.eraseIdx j37).length (left35.eraseIdx j37, l63, l45) (erase_lt hn hj39) ⟨_, _, rfl, rfl, rfl, ((hnx53 _).symm.trans hr)⟩
              obtain ⟨hle70, hr⟩ := guard_some hr; replace hle70 := of_decide_eq_true hle70
              refine Tr.block ?_
              refine Tr.sub (env' := [(0, _), (7, _), (10, _), (11, _), (12, _), (13, _), (46, _), (51, _), (52, _)]) ⟨rfl, rfl, rfl, rfl, rfl, rfl, rfl, rfl, rfl, trivial⟩ ?_
              refine Tr.loop (S := fun n (z : Int × Bool × (List (Clause × Bool))) env x => match z with | (t_71, prime_59, l61) => env = [(0, .int .i64 n_0), (7, (.map (some b20))), (10, v46), (11, (.map (some b32))), (12, bp b54 0), (13, .bool prime_59), (46, bp b34 0), (51, .int .i64 n_0), (52, .int .i64 t_71)] ∧ x = ⟨m, hcells b54 [.int .u32 (y38.1.yes.toNat : Int), .int .u32 (y38.1.no.toNat : Int)] 34 :: hmap b32 ek34 ev4 l61 :: hownT 34 2 Clause.enc v46 l45 :: hmapI b20 b34 ek34 ev4 l19 ((left35.eraseIdx j37)) ((some y38)) :: l⟩ ∧ n = (n_0 - t_71).toNat ∧ 0 ≤ t_71 ∧ forK (σ := Bool × (List (Clause × Bool))) (fun i s nx_ => truth_Primes_b72 l19 y38 i s.1 s.2 nx_) (fun s => truth_Primes_k64 y38 l45 nx53 s.1 s.2) n t_71 (prime_59, l61) = some r) _ ((0 : Int), true, l44) ⟨rfl, rfl, rfl, (by omega), hr⟩ ?_
              rintro n74 ⟨t_71, prime_59, l61⟩ env x ⟨rfl, rfl, hnt_71, h0t_71, hr⟩
              cases n74 with
              | zero =>
                simp only [forK] at hr
                refine Tr.seq ?_
                refine Tr.region_f (fun _ => false) ?_
                refine W.q rfl rfl rfl rfl (by decide) (Yd.lss rfl (.t rfl) (.t rfl)) ?_
                refine W.end ?_
                refine NX.sub (env' := [(0, _), (7, _), (10, _), (11, _), (12, _), (13, _), (46, _), (51, _), (52, _), (53, _)]) ⟨rfl, rfl, rfl, rfl, rfl, rfl, rfl, rfl, rfl, rfl, trivial⟩ ?_
                refine NX.then ?_
                refine Tr.seq ?_
                refine Tr.cond (.t rfl) (fun hb => ?_) (fun hb => ?_)
                · exact absurd (hb.symm.trans (fr_end hnt_71)) (by decide)
                ·
                  refine Tr.exit' (EX.then (EX.then (EX.block ?_)))
                  refine NX.sub (env' := [(0, _), (7, _), (10, _), (11, _), (46, _), (12, _), (13, _)]) ⟨rfl, rfl, rfl, rfl, rfl, rfl, rfl, trivial⟩ ?_
                  exact hk65 _ _ ⟨_, _, rfl, rfl, hr⟩
              | succ n74 =>
                obtain ⟨nx73, hnx73, hr⟩ := forK_succ hr
                try dsimp only at hr
                unfold truth_Primes_b72 at hr
                try dsimp only at hr
                have hltt_71 := fr_bnd hnt_71
                refine Tr.seq ?_
                refine Tr.region_f (fun _ => false) ?_
                refine W.q rfl rfl rfl rfl (by decide) (Yd.lss rfl (.t rfl) (.t rfl)) ?_
                refine W.end ?_
                refine NX.sub (env' := [(0, _), (7, _), (10, _), (11, _), (12, _), (13, _), (46, _), (51, _), (52, _), (53, _)]) ⟨rfl, rfl, rfl, rfl, rfl, rfl, rfl, rfl, rfl, rfl, trivial⟩ ?_
                refine NX.then ?_
                refine Tr.seq ?_
                refine Tr.cond (.t rfl) (fun hb => ?_) (fun hb => ?_)
                rotate_left
                · exact absurd (hb.symm.trans (fr_go hnt_71)) (by decide)
                ·
                  refine Tr.skip' ?_
                  refine NX.then ?_
                  refine Tr.seq ?_
                  refine Tr.block ?_
                  refine Tr.seq ?_
                  refine Tr.region_f (fun _ => false) ?_
                  refine W.q rfl rfl rfl rfl (by decide) (Yd.mv rfl (.t rfl)) ?_
                  refine W.q rfl rfl rfl rfl (by decide) (Yd.as rfl (.t rfl)) ?_
                  refine W.end ?_
                  refine NX.sub (env' := [(0, _), (7, _), (10, _), (11, _), (12, _), (13, _), (46, _), (51, _), (52, _), (14, _)]) ⟨rfl, rfl, rfl, rfl, rfl, rfl, rfl, rfl, rfl, rfl, trivial⟩ ?_
                  refine NX.then ?_
                  refine Tr.seq ?_
                  refine Tr.seq ?_
                  refine Tr.region_f (fun _ => false) ?_
                  refine W.q rfl rfl rfl rfl (by decide) (Yd.fldB rfl Try.underlying34 rfl SZ32 rfl (.t rfl)) ?_
                  refine W.q rfl rfl rfl rfl (by decide) (Yd.ldB (pos := 0) rfl rfl rfl ON32 (.t rfl)) ?_
                  refine W.q rfl rfl rfl rfl (by decide) (Yd.fldB rfl Try.underlying34 rfl SZ32 rfl (.t rfl)) ?_
                  refine W.q rfl rfl rfl rfl (by decide) (Yd.ldB (pos := 0) rfl rfl rfl ON32 (.t rfl)) ?_
                  refine W.q rfl rfl rfl rfl (by decide) (Yd.orU (a := y38.1.yes) (b := y38.1.no) rfl (.t rfl) (.t rfl)) ?_
                  refine W.q rfl rfl rfl rfl (by decide) (Yd.mv rfl (.t rfl)) ?_
                  refine W.q rfl rfl rfl rfl (by decide) (Yd.shrU (a := (y38.1.yes ||| y38.1.no)) rfl (.t rfl) (.t rfl) h0t_71) ?_
                  refine W.q rfl rfl rfl rfl (by decide) (Yd.andU (a := ((y38.1.yes ||| y38.1.no) >>> t_71.toNat)) (b := 1#32) rfl (.t rfl) .c) ?_
                  refine W.q rfl rfl rfl rfl (by decide) (Yd.eqlU (a := (((y38.1.yes ||| y38.1.no) >>> t_71.toNat) &&& 1#32)) (b := 0#32) rfl (.t rfl) .c) ?_
                  refine W.end ?_
                  refine NX.sub (env' := [(0, _), (7, _), (10, _), (11, _), (12, _), (13, _), (46, _), (51, _), (52, _), (14, _), (63, _)]) ⟨rfl, rfl, rfl, rfl, rfl, rfl, rfl, rfl, rfl, rfl, rfl, trivial⟩ ?_
                  refine NX.then ?_
                  refine Tr.cond (.t rfl) (fun hb => ?_) (fun hb => ?_)
                  · have hr := cond_t hb hr
                    refine Tr.exit' (EX.then (EX.block ?_))
                    refine NX.then ?_
                    refine Tr.region_f (fun _ => false) ?_
                    refine W.q rfl rfl rfl rfl (by decide) (Yd.add rfl (.t rfl) .c) ?_
                    refine W.q rfl rfl rfl rfl (by decide) (Yd.mv rfl (.t rfl)) ?_
                    refine W.end ?_
                    refine NX.sub (env' := [(0, _), (7, _), (10, _), (11, _), (12, _), (13, _), (46, _), (51, _), (52, _)]) ⟨rfl, rfl, rfl, rfl, rfl, rfl, rfl, rfl, rfl, trivial⟩ ?_
                    refine NX.sub (env' := [(0, _), (7, _), (10, _), (11, _), (12, _), (13, _), (46, _), (51, _), (52, _)]) ⟨rfl, rfl, rfl, rfl, rfl, rfl, rfl, rfl, rfl, trivial⟩ ?_
                    have hw := w64_id (n := t_71 + 1) (by omega) (by omega)
                    exact NX.again n74 (t_71 + 1, prime_59, l61) (Nat.lt_succ_self _) ⟨(by rw [hw] <;> rfl), rfl, (fr_dec hnt_71), (by omega), ((hnx73 _).symm.trans hr)⟩
                  · have hr := cond_f hb hr
                    refine Tr.skip' ?_
                    refine NX.then ?_
                    refine Tr.seq ?_
                    refine Tr.region_x (fun _ => false) (fun _ => false) (Ord.of [0, 1, 2, 3, 4, 5, 6, 7, 8, 9, 10, 11, 12]) FM (by kernel_rfl) ?_
                    refine W.q rfl rfl rfl rfl (by decide) (Yd.mv rfl (.t rfl)) ?_
                    refine W.q rfl rfl rfl rfl (by decide) (Yd.fldB rfl Try.underlying34 rfl SZ32 rfl (.t rfl)) ?_
                    refine W.q rfl rfl rfl rfl (by decide) (Yd.ldB (pos := 0) rfl rfl rfl ON32 (.t rfl)) ?_
                    refine W.q rfl rfl rfl rfl (by decide) (Yd.mv rfl (.t rfl)) ?_
                    refine W.q rfl rfl rfl rfl (by decide) (Yd.shlU (a := 1#32) rfl .c (.t rfl) h0t_71) ?_
                    refine W.q rfl rfl rfl rfl (by decide) (Yd.xorU (a := y38.1.yes) (b := (1#32 <<< t_71.toNat)) rfl (.t rfl) (.t rfl)) ?_
                    refine W.q rfl rfl rfl rfl (by decide) (Yd.fldB rfl Try.underlying34 rfl SZ32 rfl (.t rfl)) ?_
                    refine W.q rfl rfl rfl rfl (by decide) (Yd.ldB (pos := 0) rfl rfl rfl ON32 (.t rfl)) ?_
                    refine W.q rfl rfl rfl rfl (by decide) (Yd.mv rfl (.t rfl)) ?_
                    refine W.q rfl rfl rfl rfl (by decide) (Yd.shlU (a := 1#32) rfl .c (.t rfl) h0t_71) ?_
                    refine W.q rfl rfl rfl rfl (by decide) (Yd.xorU (a := y38.1.no) (b := (1#32 <<< t_71.toNat)) rfl (.t rfl) (.t rfl)) ?_
                    refine W.q rfl rfl rfl rfl (by decide) (Yd.bld (cells := [.int .u32 (((y38.1.yes ^^^ (1#32 <<< t_71.toNat))).toNat : Int), .int .u32 (((y38.1.no ^^^ (1#32 <<< t_71.toNat))).toNat : Int)]) rfl ZI34 PL34 (.cons (.t rfl) (.cons (.t rfl) .nil)) rfl) ?_
                    refine W.q rfl rfl rfl rfl (by decide) (Yd.mlookI MK34 (pos := 3) (k := ({ yes := (y38.1.yes ^^^ (1#32 <<< t_71.toNat)), no := (y38.1.no ^^^ (1#32 <<< t_71.toNat)) } : Clause)) (d := false) rfl rfl Try.underlying31 IF4 (.t rfl) (.t rfl)) ?_
                    refine W.end ?_
                    refine NX.sub (env' := [(0, _), (7, _), (10, _), (11, _), (12, _), (13, _), (46, _), (51, _), (52, _), (14, _), (76, _)]) ⟨rfl, rfl, rfl, rfl, rfl, rfl, rfl, rfl, rfl, rfl, rfl, trivial⟩ ?_
                    refine NX.then ?_
                    refine Tr.cond (.t rfl) (fun hb => ?_) (fun hb => ?_)
                    · have hr := cond_t hb hr
                      refine Tr.seq ?_
                      refine Tr.region_f (fun _ => false) ?_
                      refine W.q rfl rfl rfl rfl (by decide) (Yd.as rfl .c) ?_
                      refine W.end ?_
                      refine NX.sub (env' := [(0, _), (7, _), (10, _), (11, _), (12, _), (13, _), (46, _), (51, _), (52, _), (14, _)]) ⟨rfl, rfl, rfl, rfl, rfl, rfl, rfl, rfl, rfl, rfl, trivial⟩ ?_
                      refine NX.then ?_
                      refine Tr.region_x (fun i => Nat.beq i 12) (fun i => Nat.beq i 12) (Ord.of [0, 1, 2, 3, 4, 5, 6, 7, 8, 9, 10, 11, 12]) FM (by kernel_rfl) ?_
                      refine W.q rfl rfl rfl rfl (by decide) (Yd.mv rfl (.t rfl)) ?_
                      refine W.q rfl rfl rfl rfl (by decide) (Yd.fldB rfl Try.underlying34 rfl SZ32 rfl (.t rfl)) ?_
                      refine W.q rfl rfl rfl rfl (by decide) (Yd.ldB (pos := 0) rfl rfl rfl ON32 (.t rfl)) ?_
                      refine W.q rfl rfl rfl rfl (by decide) (Yd.mv rfl (.t rfl)) ?_
                      refine W.q rfl rfl rfl rfl (by decide) (Yd.shlU (a := 1#32) rfl .c (.t rfl) h0t_71) ?_
                      refine W.q rfl rfl rfl rfl (by decide) (Yd.andnU (a := y38.1.yes) (b := (1#32 <<< t_71.toNat)) rfl (.t rfl) (.t rfl)) ?_
                      refine W.q rfl rfl rfl rfl (by decide) (Yd.fldB rfl Try.underlying34 rfl SZ32 rfl (.t rfl)) ?_
                      refine W.q rfl rfl rfl rfl (by decide) (Yd.ldB (pos := 0) rfl rfl rfl ON32 (.t rfl)) ?_
                      refine W.q rfl rfl rfl rfl (by decide) (Yd.mv rfl (.t rfl)) ?_
                      refine W.q rfl rfl rfl rfl (by decide) (Yd.shlU (a := 1#32) rfl .c (.t rfl) h0t_71) ?_
                      refine W.q rfl rfl rfl rfl (by decide) (Yd.andnU (a := y38.1.no) (b := (1#32 <<< t_71.toNat)) rfl (.t rfl) (.t rfl)) ?_
                      refine W.q rfl rfl rfl rfl (by decide) (Yd.bld (cells := [.int .u32 (((y38.1.yes &&& ~~~(1#32 <<< t_71.toNat))).toNat : Int), .int .u32 (((y38.1.no &&& ~~~(1#32 <<< t_71.toNat))).toNat : Int)]) rfl ZI34 PL34 (.cons (.t rfl) (.cons (.t rfl) .nil)) rfl) ?_
                      refine W.s rfl rfl rfl rfl (Ef.mset MK34 (pos := 1) (k := ({ yes := (y38.1.yes &&& ~~~(1#32 <<< t_71.toNat)), no := (y38.1.no &&& ~~~(1#32 <<< t_71.toNat)) } : Clause)) (v := true) rfl rfl Try.underlying31 (.t rfl) (.t rfl) .c) ?_
                      rintro _ _ ⟨rfl, rfl⟩
                      refine ⟨.inl rfl, ?_⟩
                      refine W.cast (m' := m) (l' := hcells b54 [_, _] 34 :: hmap b32 ek34 ev4 _ :: hownT 34 2 Clause.enc v46 _ :: hmapI b20 b34 ek34 ev4 _ _ _ :: l) rfl rfl ?_
                      refine W.end ?_
                      refine NX.sub (env' := [(0, _), (7, _), (10, _), (11, _), (12, _), (13, _), (46, _), (51, _), (52, _)]) ⟨rfl, rfl, rfl, rfl, rfl, rfl, rfl, rfl, rfl, trivial⟩ ?_
                      refine NX.block ?_
                      refine NX.then ?_
                      refine Tr.region_f (fun _ => false) ?_
                      refine W.q rfl rfl rfl rfl (by decide) (Yd.add rfl (.t rfl) .c) ?_
                      refine W.q rfl rfl rfl rfl (by decide) (Yd.mv rfl (.t rfl)) ?_
                      refine W.end ?_
                      refine NX.sub (env' := [(0, _), (7, _), (10, _), (11, _), (12, _), (13, _), (46, _), (51, _), (52, _)]) ⟨rfl, rfl, rfl, rfl, rfl, rfl, rfl, rfl, rfl, trivial⟩ ?_
                      refine NX.sub (env' := [(0, _), (7, _), (10, _), (11, _), (12, _), (13, _), (46, _), (51, _), (52, _)]) ⟨rfl, rfl, rfl, rfl, rfl, rfl, rfl, rfl, rfl, trivial⟩ ?_
                      have hw := w64_id (n := t_71 + 1) (by omega) (by omega)
                      exact NX.again n74 (t_71 + 1, false, (mput l61 (({ yes := (y38.1.yes &&& ~~~(1#32 <<< t_71.toNat)), no := (y38.1.no &&& ~~~(1#32 <<< t_71.toNat)) } : Clause)) true)) (Nat.lt_succ_self _) ⟨(by rw [hw] <;> rfl), rfl, (fr_dec hnt_71), (by omega), ((hnx73 _).symm.trans hr)⟩
                    · have hr := cond_f hb hr
                      refine Tr.skip' ?_
                      refine NX.block ?_
                      refine NX.then ?_
                      refine Tr.region_f (fun _ => false) ?_
                      refine W.q rfl rfl rfl rfl (by decide) (Yd.add rfl (.t rfl) .c) ?_
                      refine W.q rfl rfl rfl rfl (by decide) (Yd.mv rfl (.t rfl)) ?_
                      refine W.end ?_
                      refine NX.sub (env' := [(0, _), (7, _), (10, _), (11, _), (12, _), (13, _), (46, _), (51, _), (52, _)]) ⟨rfl, rfl, rfl, rfl, rfl, rfl, rfl, rfl, rfl, trivial⟩ ?_
                      refine NX.sub (env' := [(0, _), (7, _), (10, _), (11, _), (12, _), (13, _), (46, _), (51, _), (52, _)]) ⟨rfl, rfl, rfl, rfl, rfl, rfl, rfl, rfl, rfl, trivial⟩ ?_
                      have hw := w64_id (n := t_71 + 1) (by omega) (by omega)
                      exact NX.again n74 (t_71 + 1, prime_59, l61) (Nat.lt_succ_self _) ⟨(by rw [hw] <;> rfl), rfl, (fr_dec hnt_71), (by omega), ((hnx73 _).symm.trans hr)⟩
        · have hr := cond_f hb hr
          refine Tr.exit' (EX.then (EX.then (EX.block ?_)))
          refine NX.sub (env' := [(10, _)]) ⟨rfl, trivial⟩ ?_
          refine NX.drop (l' := hownT 34 2 Clause.enc v18 _ :: l) (.cons_cons _ (.cons _ (.refl _))) ?_
          exact hk26 _ _ ⟨_, _, rfl, rfl, hr⟩
    have hlen75 := (hf_1).2.1
    refine Tr.block ?_
    refine Tr.sub (env' := [(0, _), (1, _), (7, _), (22, _), (23, _), (24, _)]) ⟨rfl, rfl, rfl, rfl, rfl, rfl, trivial⟩ ?_
    refine Tr.loop (S := fun n (z : Int × (List (Clause × Bool))) env x => match z with | (t_76, l8) => env = [(0, .int .i64 n_0), (1, uf_1), (7, (.map (some b3))), (22, uf_1), (23, .int .i64 ((f_1.length : Int))), (24, .int .i64 t_76)] ∧ x = ⟨m, hmap b3 ek34 ev4 l8 :: l⟩ ∧ n = ((f_1.length : Int) - t_76).toNat ∧ 0 ≤ t_76 ∧ forK (σ := (List (Clause × Bool))) (fun i s nx_ => truth_Primes_b77 f_1 i s nx_) (fun s => truth_Primes_k10 n_0 fuel s) n t_76 l8 = some r) _ ((0 : Int), ([] : List (Clause × Bool))) ⟨rfl, rfl, rfl, (by omega), hr⟩ ?_
    rintro n79 ⟨t_76, l8⟩ env x ⟨rfl, rfl, hnt_76, h0t_76, hr⟩
    cases n79 with
    | zero =>
      simp only [forK] at hr
      refine Tr.seq ?_
      refine Tr.region_f (fun _ => false) ?_
      refine W.q rfl rfl rfl rfl (by decide) (Yd.lss rfl (.t rfl) (.t rfl)) ?_
      refine W.end ?_
      refine NX.sub (env' := [(0, _), (1, _), (7, _), (22, _), (23, _), (24, _), (25, _)]) ⟨rfl, rfl, rfl, rfl, rfl, rfl, rfl, trivial⟩ ?_
      refine NX.then ?_
      refine Tr.seq ?_
      refine Tr.cond (.t rfl) (fun hb => ?_) (fun hb => ?_)
      · exact absurd (hb.symm.trans (fr_end hnt_76)) (by decide)
      ·
        refine Tr.exit' (EX.then (EX.then (EX.block ?_)))
        refine NX.sub (env' := [(0, _), (7, _)]) ⟨rfl, rfl, trivial⟩ ?_
        exact hk11 _ _ ⟨_, rfl, rfl, hr⟩
    | succ n79 =>
      obtain ⟨nx78, hnx78, hr⟩ := forK_succ hr
      try dsimp only at hr
      unfold truth_Primes_b77 at hr
      try dsimp only at hr
      have hltt_76 := fr_bnd hnt_76
      refine Tr.seq ?_
      refine Tr.region_f (fun _ => false) ?_
      refine W.q rfl rfl rfl rfl (by decide) (Yd.lss rfl (.t rfl) (.t rfl)) ?_
      refine W.end ?_
      refine NX.sub (env' := [(0, _), (1, _), (7, _), (22, _), (23, _), (24, _), (25, _)]) ⟨rfl, rfl, rfl, rfl, rfl, rfl, rfl, trivial⟩ ?_
      refine NX.then ?_
      refine Tr.seq ?_
      refine Tr.cond (.t rfl) (fun hb => ?_) (fun hb => ?_)
      rotate_left
      · exact absurd (hb.symm.trans (fr_go hnt_76)) (by decide)
      ·
        refine Tr.skip' ?_
        refine NX.then ?_
        refine Tr.seq ?_
        refine Tr.block ?_
        refine Tr.seq ?_
        obtain ⟨y80, hy81, hr⟩ := bind_some hr
        refine Tr.region_f (fun _ => false) ?_
        refine W.q rfl rfl rfl rfl (by decide) (Yd.mv rfl (.t rfl)) ?_
        refine W.q rfl rfl rfl rfl (by decide) (Yd.idxR hf_1 hy81 rfl Try.underlying22 SZ4 (.t rfl) (.t rfl)) ?_
        refine W.q rfl rfl rfl rfl (by decide) (Yd.ldF hf_1 (.refl _) hy81 rfl rfl ON4 (.t rfl)) ?_
        refine W.q rfl rfl rfl rfl (by decide) (Yd.as rfl (.t rfl)) ?_
        refine W.q rfl rfl rfl rfl (by decide) (Yd.as rfl (.t rfl)) ?_
        refine W.end ?_
        refine NX.sub (env' := [(0, _), (1, _), (7, _), (22, _), (23, _), (24, _), (8, _), (9, _)]) ⟨rfl, rfl, rfl, rfl, rfl, rfl, rfl, rfl, trivial⟩ ?_
        refine NX.then ?_
        refine Tr.seq ?_
        refine Tr.region_f (fun _ => false) ?_
        refine W.q rfl rfl rfl rfl (by decide) (Yd.mv rfl (.t rfl)) ?_
        refine W.end ?_
        refine NX.sub (env' := [(0, _), (1, _), (7, _), (22, _), (23, _), (24, _), (8, _), (29, _)]) ⟨rfl, rfl, rfl, rfl, rfl, rfl, rfl, rfl, trivial⟩ ?_
        refine NX.then ?_
        refine Tr.cond (.t rfl) (fun hb => ?_) (fun hb => ?_)
        · have hr := cond_t hb hr
          refine Tr.region_f (fun i => Nat.beq i 10) ?_
          refine W.q rfl rfl rfl rfl (by decide) (Yd.mv rfl (.t rfl)) ?_
          refine W.q rfl rfl rfl rfl (by decide) (Yd.mv rfl (.t rfl)) ?_
          refine W.q rfl rfl rfl rfl (by decide) (Yd.cvU rfl US3 Try.underlying32 (.t rfl)) ?_
          refine W.q rfl rfl rfl rfl (by decide) (Yd.mv rfl (.t rfl)) ?_
          refine W.q rfl rfl rfl rfl (by decide) (Yd.lenR hf_1 rfl Try.underlying22 (.t rfl)) ?_
          refine W.q rfl rfl rfl rfl (by decide) (Yd.sub rfl (.t rfl) .c) ?_
          refine W.q rfl rfl rfl rfl (by decide) (Yd.mv rfl (.t rfl)) ?_
          refine W.q rfl rfl rfl rfl (by decide) (Yd.sub rfl (.t rfl) (.t rfl)) ?_
          refine W.q rfl rfl rfl rfl (by decide) (Yd.cvU rfl US3 Try.underlying32 (.t rfl)) ?_
          refine W.q rfl rfl rfl rfl (by decide) (Yd.bld (cells := [.int .u32 (((BitVec.ofInt 32 t_76)).toNat : Int), .int .u32 (((BitVec.ofInt 32 ((w64 ((w64 ((f_1.length : Int) - (1 : Int))) - t_76))))).toNat : Int)]) rfl ZI34 PL34 (.cons (.t rfl) (.cons (.t rfl) .nil)) rfl) ?_
          refine W.s rfl rfl rfl rfl (Ef.mset MK34 (pos := 0) (k := ({ yes := (BitVec.ofInt 32 t_76), no := (BitVec.ofInt 32 ((w64 ((w64 ((f_1.length : Int) - (1 : Int))) - t_76)))) } : Clause)) (v := true) rfl rfl Try.underlying31 (.t rfl) (.t rfl) .c) ?_
          rintro _ _ ⟨rfl, rfl⟩
          refine ⟨.inl rfl, ?_⟩
          refine W.cast (m' := m) (l' := hmap b3 ek34 ev4 _ :: l) rfl rfl ?_
          refine W.end ?_
          refine NX.sub (env' := [(0, _), (1, _), (7, _), (22, _), (23, _), (24, _)]) ⟨rfl, rfl, rfl, rfl, rfl, rfl, trivial⟩ ?_
          refine NX.block ?_
          refine NX.then ?_
          refine Tr.region_f (fun _ => false) ?_
          refine W.q rfl rfl rfl rfl (by decide) (Yd.add rfl (.t rfl) .c) ?_
          refine W.q rfl rfl rfl rfl (by decide) (Yd.mv rfl (.t rfl)) ?_
          refine W.end ?_
          refine NX.sub (env' := [(0, _), (1, _), (7, _), (22, _), (23, _), (24, _)]) ⟨rfl, rfl, rfl, rfl, rfl, rfl, trivial⟩ ?_
          refine NX.sub (env' := [(0, _), (1, _), (7, _), (22, _), (23, _), (24, _)]) ⟨rfl, rfl, rfl, rfl, rfl, rfl, trivial⟩ ?_
          have hw := w64_id (n := t_76 + 1) (by omega) (by omega)
          exact NX.again n79 (t_76 + 1, (mput l8 (({ yes := (BitVec.ofInt 32 t_76), no := (BitVec.ofInt 32 ((w64 ((w64 ((f_1.length : Int) - (1 : Int))) - t_76)))) } : Clause)) true)) (Nat.lt_succ_self _) ⟨(by rw [hw] <;> rfl), rfl, (fr_dec hnt_76), (by omega), ((hnx78 _).symm.trans hr)⟩
        · have hr := cond_f hb hr
          refine Tr.skip' ?_
          refine NX.block ?_
          refine NX.then ?_
          refine Tr.region_f (fun _ => false) ?_
          refine W.q rfl rfl rfl rfl (by decide) (Yd.add rfl (.t rfl) .c) ?_
          refine W.q rfl rfl rfl rfl (by decide) (Yd.mv rfl (.t rfl)) ?_
          refine W.end ?_
          refine NX.sub (env' := [(0, _), (1, _), (7, _), (22, _), (23, _), (24, _)]) ⟨rfl, rfl, rfl, rfl, rfl, rfl, trivial⟩ ?_
          refine NX.sub (env' := [(0, _), (1, _), (7, _), (22, _), (23, _), (24, _)]) ⟨rfl, rfl, rfl, rfl, rfl, rfl, trivial⟩ ?_
          have hw := w64_id (n := t_76 + 1) (by omega) (by omega)
          exact NX.again n79 (t_76 + 1, l8) (Nat.lt_succ_self _) ⟨(by rw [hw] <;> rfl), rfl, (fr_dec hnt_76), (by omega), ((hnx78 _).symm.trans hr)⟩

def syllogistref_TruthCheck (n_0 : Int) (f_1 : List Bool) : Option (Int) :=
  (bif ((decide (n_0 < (0 : Int))) || (decide (n_0 > (4 : Int)))) then
  some ((1 : Int))
  else
  (bif ((f_1.length : Int) != (ishl ((1 : Int)) (((BitVec.ofInt 64 n_0)).toNat))) then
  some ((3 : Int))
  else
  some ((0 : Int))))

set_option maxRecDepth 100000 in
set_option maxHeartbeats 4000000 in
theorem syllogistref_TruthCheck_ok (w0 : World) (m : Snap) (l : List HI) (n_0 : Int) (uf_1 : Value) (f_1 : List Bool) (hf_1 : RS rB m uf_1 f_1) (r : Int) (hr : syllogistref_TruthCheck n_0 f_1 = some r) (w : World) (hc : cX w0 ⟨m, l⟩ w) :
    Calls Try.prog 5 [.int .i64 n_0, uf_1].toArray w fun e w' => e = .returned (.int .i64 r) ∧ cX w0 ⟨m, l⟩ w' := by
  unfold syllogistref_TruthCheck at hr
  refine calls_of_Tr (N := 17) Try.func5 rfl hc rfl (Nat.le_of_ble_eq_true rfl) ?_
  refine Tr.seq ?_
  refine Tr.region_f (fun _ => false) ?_
  refine W.q rfl rfl rfl rfl (by decide) (Yd.as rfl .c) ?_
  refine W.end ?_
  refine NX.sub (env' := [(0, _), (1, _)]) ⟨rfl, rfl, trivial⟩ ?_
  refine NX.then ?_
  refine Tr.seq ?_
  refine Tr.seq ?_
  refine Tr.region_f (fun _ => false) ?_
  refine W.q rfl rfl rfl rfl (by decide) (Yd.mv rfl (.t rfl)) ?_
  refine W.q rfl rfl rfl rfl (by decide) (Yd.lss rfl (.t rfl) .c) ?_
  refine W.q rfl rfl rfl rfl (by decide) (Yd.mv rfl (.t rfl)) ?_
  refine W.g rfl rfl rfl rfl rfl (.t rfl _) rfl (by decide) (fun hG => Yd.mv rfl (.t rfl)) ?_
  refine W.g rfl rfl rfl rfl rfl (.t rfl _) rfl (by decide) (fun hG => Yd.gtr rfl (.g rfl hG) .c) ?_
  refine W.q rfl rfl rfl rfl (by decide) (Yd.or rfl (.t rfl) .c rfl rfl) ?_
  refine W.end ?_
  refine NX.sub (env' := [(0, _), (1, _), (10, _)]) ⟨rfl, rfl, rfl, trivial⟩ ?_
  refine NX.then ?_
  refine Tr.cond (.t rfl) (fun hb => ?_) (fun hb => ?_)
  · have hr := cond_t hb hr
    refine Tr.seq ?_
    refine Tr.region_f (fun _ => false) ?_
    refine W.q rfl rfl rfl rfl (by decide) (Yd.as rfl .c) ?_
    refine W.end ?_
    refine NX.sub (env' := [(4, _)]) ⟨rfl, trivial⟩ ?_
    refine NX.then ?_
    refine Tr.ret' (RT.then ?_)
    refine res1 rfl rfl ?_
    intro w hc
    cases hr
    exact ⟨rfl, hc⟩
  · have hr := cond_f hb hr
    refine Tr.skip' ?_
    refine NX.then ?_
    refine Tr.seq ?_
    refine Tr.seq ?_
    refine Tr.region_f (fun _ => false) ?_
    refine W.q rfl rfl rfl rfl (by decide) (Yd.mv rfl (.t rfl)) ?_
    refine W.q rfl rfl rfl rfl (by decide) (Yd.lenR hf_1 rfl Try.underlying22 (.t rfl)) ?_
    refine W.q rfl rfl rfl rfl (by decide) (Yd.mv rfl (.t rfl)) ?_
    refine W.q rfl rfl rfl rfl (by decide) (Yd.cvQ rfl US3 Try.underlying39 (.t rfl)) ?_
    refine W.q rfl rfl rfl rfl (by decide) (Yd.shlI rfl .c (.t rfl) (Int.natCast_nonneg _)) ?_
    refine W.q rfl rfl rfl rfl (by decide) (Yd.neq rfl (.t rfl) (.t rfl)) ?_
    refine W.end ?_
    refine NX.sub (env' := [(16, _)]) ⟨rfl, trivial⟩ ?_
    refine NX.then ?_
    refine Tr.cond (.t rfl) (fun hb => ?_) (fun hb => ?_)
    · have hr := cond_t hb hr
      refine Tr.seq ?_
      refine Tr.region_f (fun _ => false) ?_
      refine W.q rfl rfl rfl rfl (by decide) (Yd.as rfl .c) ?_
      refine W.end ?_
      refine NX.sub (env' := [(4, _)]) ⟨rfl, trivial⟩ ?_
      refine NX.then ?_
      refine Tr.ret' (RT.then ?_)
      refine res1 rfl rfl ?_
      intro w hc
      cases hr
      exact ⟨rfl, hc⟩
    · have hr := cond_f hb hr
      refine Tr.skip' ?_
      refine NX.then ?_
      refine Tr.seq ?_
      refine Tr.region_f (fun _ => false) ?_
      refine W.q rfl rfl rfl rfl (by decide) (Yd.as rfl .c) ?_
      refine W.end ?_
      refine NX.sub (env' := [(4, _)]) ⟨rfl, trivial⟩ ?_
      refine NX.then ?_
      refine Tr.ret' ?_
      refine res1 rfl rfl ?_
      intro w hc
      cases hr
      exact ⟨rfl, hc⟩

def syllogistref_In (a_0 : (BitVec 32)) (b_1 : (BitVec 32)) : Option (Bool) :=
  some (((a_0 ||| b_1) == b_1))

set_option maxRecDepth 100000 in
set_option maxHeartbeats 4000000 in
theorem syllogistref_In_ok (w0 : World) (m : Snap) (l : List HI) (a_0 : (BitVec 32)) (b_1 : (BitVec 32)) (r : Bool) (hr : syllogistref_In a_0 b_1 = some r) (w : World) (hc : cX w0 ⟨m, l⟩ w) :
    Calls Try.prog 18 [.int .u32 (a_0.toNat : Int), .int .u32 (b_1.toNat : Int)].toArray w fun e w' => e = .returned (.bool r) ∧ cX w0 ⟨m, l⟩ w' := by
  unfold syllogistref_In at hr
  refine calls_of_Tr (N := 10) Try.func18 rfl hc rfl (Nat.le_of_ble_eq_true rfl) ?_
  refine Tr.seq ?_
  refine Tr.region_f (fun _ => false) ?_
  refine W.q rfl rfl rfl rfl (by decide) (Yd.as rfl .c) ?_
  refine W.end ?_
  refine NX.sub (env' := [(0, _), (1, _)]) ⟨rfl, rfl, trivial⟩ ?_
  refine NX.then ?_
  refine Tr.seq ?_
  refine Tr.region_f (fun _ => false) ?_
  refine W.q rfl rfl rfl rfl (by decide) (Yd.mv rfl (.t rfl)) ?_
  refine W.q rfl rfl rfl rfl (by decide) (Yd.mv rfl (.t rfl)) ?_
  refine W.q rfl rfl rfl rfl (by decide) (Yd.orU (a := a_0) (b := b_1) rfl (.t rfl) (.t rfl)) ?_
  refine W.q rfl rfl rfl rfl (by decide) (Yd.mv rfl (.t rfl)) ?_
  refine W.q rfl rfl rfl rfl (by decide) (Yd.eqlU (a := (a_0 ||| b_1)) (b := b_1) rfl (.t rfl) (.t rfl)) ?_
  refine W.q rfl rfl rfl rfl (by decide) (Yd.as rfl (.t rfl)) ?_
  refine W.end ?_
  refine NX.sub (env' := [(4, _)]) ⟨rfl, trivial⟩ ?_
  refine NX.then ?_
  refine Tr.ret' ?_
  refine res1 rfl rfl ?_
  intro w hc
  cases hr
  exact ⟨rfl, hc⟩

def syllogistref_Product_k5 : Option (Bool) :=
  some true

def syllogistref_Product_b9 (f_0 : List Bool) (c_1 : Clause) (s_8 : Int) (nx10 : Unit → Option (Bool)) : Option (Bool) :=
  (syllogistref_In c_1.yes ((BitVec.ofInt 32 s_8))).bind fun r12 =>
  bif (!((r12 && ((c_1.no &&& (BitVec.ofInt 32 s_8)) == 0#32)) == true) || (geti f_0 s_8).isSome) then
  (bif ((r12 && ((c_1.no &&& (BitVec.ofInt 32 s_8)) == 0#32)) && (!((geti f_0 s_8).getD false))) then
  some false
  else
  nx10 ()) else none

def syllogistref_Product (f_0 : List Bool) (c_1 : Clause) : Option (Bool) :=
  forK (σ := Unit) (fun i s nx_ => syllogistref_Product_b9 f_0 c_1 i nx_) (fun _ => syllogistref_Product_k5) ((f_0.length : Int) - (0 : Int)).toNat (0 : Int) ()

set_option maxRecDepth 100000 in
set_option maxHeartbeats 4000000 in
theorem syllogistref_Product_ok (w0 : World) (m : Snap) (l : List HI) (uf_0 : Value) (f_0 : List Bool) (hf_0 : RS rB m uf_0 f_0) (c_1 : Clause) (r : Bool) (hr : syllogistref_Product f_0 c_1 = some r) (w : World) (hc : cX w0 ⟨m, l⟩ w) :
    Calls Try.prog 13 [uf_0, .agg #[.int .u32 (c_1.yes.toNat : Int), .int .u32 (c_1.no.toNat : Int)]].toArray w fun e w' => e = .returned (.bool r) ∧ cX w0 ⟨m, l⟩ w' := by
  unfold syllogistref_Product at hr
  refine calls_of_Tr (N := 32) Try.func13 rfl hc rfl (Nat.le_of_ble_eq_true rfl) ?_
  refine Tr.seq ?_
  refine Tr.region_f (fun i => Nat.beq i 0) ?_
  refine W.e rfl rfl rfl rfl (by decide) (Ef.bx rfl (.t rfl) rfl) ?_
  rintro _ _ ⟨b1, rfl, rfl⟩
  refine ⟨.inl rfl, ?_⟩
  refine W.cast (m' := m) (l' := hcells b1 [_, _] 34 :: l) rfl rfl ?_
  refine W.q rfl rfl rfl rfl (by decide) (Yd.as rfl .c) ?_
  refine W.end ?_
  refine NX.sub (env' := [(0, _), (3, _)]) ⟨rfl, rfl, trivial⟩ ?_
  refine NX.then ?_
  refine Tr.seq ?_
  refine Tr.seq ?_
  refine Tr.region_f (fun _ => false) ?_
  refine W.q rfl rfl rfl rfl (by decide) (Yd.as rfl .c) ?_
  refine W.end ?_
  refine NX.sub (env' := [(0, _), (3, _), (5, _)]) ⟨rfl, rfl, rfl, trivial⟩ ?_
  refine NX.then ?_
  refine Tr.join (S := fun env x => env = [] ∧ x = ⟨m, l⟩ ∧ syllogistref_Product_k5 = some r) ?_ (fun hk6 => ?_)
  · rintro _ _ ⟨rfl, rfl, hr⟩
    unfold syllogistref_Product_k5 at hr
    try dsimp only at hr
    refine NX.then ?_
    refine Tr.seq ?_
    refine Tr.region_f (fun _ => false) ?_
    refine W.q rfl rfl rfl rfl (by decide) (Yd.as rfl .c) ?_
    refine W.end ?_
    refine NX.sub (env' := [(4, _)]) ⟨rfl, trivial⟩ ?_
    refine NX.then ?_
    refine Tr.ret' ?_
    refine res1 rfl rfl ?_
    intro w hc
    cases hr
    exact ⟨rfl, hc⟩
  have hlen7 := (hf_0).2.1
  refine Tr.block ?_
  refine Tr.sub (env' := [(0, _), (3, _), (5, _)]) ⟨rfl, rfl, rfl, trivial⟩ ?_
  refine Tr.loop (S := fun n (z : Int × Unit) env x => match z with | (s_8, _) => env = [(0, uf_0), (3, bp b1 0), (5, .int .i64 s_8)] ∧ x = ⟨m, hcells b1 [.int .u32 (c_1.yes.toNat : Int), .int .u32 (c_1.no.toNat : Int)] 34 :: l⟩ ∧ n = ((f_0.length : Int) - s_8).toNat ∧ 0 ≤ s_8 ∧ forK (σ := Unit) (fun i s nx_ => syllogistref_Product_b9 f_0 c_1 i nx_) (fun _ => syllogistref_Product_k5) n s_8 () = some r) _ ((0 : Int), ()) ⟨rfl, rfl, rfl, (by omega), hr⟩ ?_
  rintro n11 ⟨s_8, _⟩ env x ⟨rfl, rfl, hns_8, h0s_8, hr⟩
  cases n11 with
  | zero =>
    simp only [forK] at hr
    refine Tr.seq ?_
    refine Tr.seq ?_
    refine Tr.region_f (fun _ => false) ?_
    refine W.q rfl rfl rfl rfl (by decide) (Yd.mv rfl (.t rfl)) ?_
    refine W.q rfl rfl rfl rfl (by decide) (Yd.mv rfl (.t rfl)) ?_
    refine W.q rfl rfl rfl rfl (by decide) (Yd.lenR hf_0 rfl Try.underlying22 (.t rfl)) ?_
    refine W.q rfl rfl rfl rfl (by decide) (Yd.lss rfl (.t rfl) (.t rfl)) ?_
    refine W.end ?_
    refine NX.sub (env' := [(0, _), (3, _), (5, _), (9, _)]) ⟨rfl, rfl, rfl, rfl, trivial⟩ ?_
    refine NX.then ?_
    refine Tr.cond (.t rfl) (fun hb => ?_) (fun hb => ?_)
    · exact absurd (hb.symm.trans (fr_end hns_8)) (by decide)
    ·
      refine Tr.exit' (EX.then (EX.then (EX.block ?_)))
      refine NX.sub (env' := []) trivial ?_
      refine NX.drop (l' := l) (.cons _ (.refl _)) ?_
      exact hk6 _ _ ⟨rfl, rfl, hr⟩
  | succ n11 =>
    obtain ⟨nx10, hnx10, hr⟩ := forK_succ hr
    try dsimp only at hr
    unfold syllogistref_Product_b9 at hr
    try dsimp only at hr
    have hlts_8 := fr_bnd hns_8
    refine Tr.seq ?_
    refine Tr.seq ?_
    refine Tr.region_f (fun _ => false) ?_
    refine W.q rfl rfl rfl rfl (by decide) (Yd.mv rfl (.t rfl)) ?_
    refine W.q rfl rfl rfl rfl (by decide) (Yd.mv rfl (.t rfl)) ?_
    refine W.q rfl rfl rfl rfl (by decide) (Yd.lenR hf_0 rfl Try.underlying22 (.t rfl)) ?_
    refine W.q rfl rfl rfl rfl (by decide) (Yd.lss rfl (.t rfl) (.t rfl)) ?_
    refine W.end ?_
    refine NX.sub (env' := [(0, _), (3, _), (5, _), (9, _)]) ⟨rfl, rfl, rfl, rfl, trivial⟩ ?_
    refine NX.then ?_
    refine Tr.cond (.t rfl) (fun hb => ?_) (fun hb => ?_)
    rotate_left
    · exact absurd (hb.symm.trans (fr_go hns_8)) (by decide)
    ·
      refine Tr.skip' ?_
      refine NX.then ?_
      refine Tr.seq ?_
      refine Tr.block ?_
      refine Tr.seq ?_
      obtain ⟨r12, hr13, hr⟩ := bind_some hr
      obtain ⟨ha14, hr⟩ := guard_some hr
      refine Tr.region_f (fun _ => false) ?_
      refine W.q rfl rfl rfl rfl (by decide) (Yd.fldB rfl Try.underlying34 rfl SZ32 rfl (.t rfl)) ?_
      refine W.q rfl rfl rfl rfl (by decide) (Yd.ldB (pos := 0) rfl rfl rfl ON32 (.t rfl)) ?_
      refine W.q rfl rfl rfl rfl (by decide) (Yd.mv rfl (.t rfl)) ?_
      refine W.q rfl rfl rfl rfl (by decide) (Yd.cvU rfl US3 Try.underlying32 (.t rfl)) ?_
      refine W.q rfl rfl rfl rfl (by decide) (Yd.call (v := .bool r12) rfl Try.func18 rfl rfl (.cons (.t rfl) (.cons (.t rfl) .nil)) (fun x' hx w hw => syllogistref_In_ok w0 x'.m x'.l c_1.yes ((BitVec.ofInt 32 s_8)) _ hr13 w hw)) ?_
      refine W.q rfl rfl rfl rfl (by decide) (Yd.mv rfl (.t rfl)) ?_
      refine W.g rfl rfl rfl rfl rfl (.t rfl _) rfl (by decide) (fun hG => Yd.fldB rfl Try.underlying34 rfl SZ32 rfl (.t rfl)) ?_
      refine W.g rfl rfl rfl rfl rfl (.t rfl _) rfl (by decide) (fun hG => Yd.ldB (pos := 0) rfl rfl rfl ON32 (.g rfl hG)) ?_
      refine W.g rfl rfl rfl rfl rfl (.t rfl _) rfl (by decide) (fun hG => Yd.mv rfl (.t rfl)) ?_
      refine W.g rfl rfl rfl rfl rfl (.t rfl _) rfl (by decide) (fun hG => Yd.cvU rfl US3 Try.underlying32 (.g rfl hG)) ?_
      refine W.g rfl rfl rfl rfl rfl (.t rfl _) rfl (by decide) (fun hG => Yd.andU (a := c_1.no) (b := (BitVec.ofInt 32 s_8)) rfl (.g rfl hG) (.g rfl hG)) ?_
      refine W.g rfl rfl rfl rfl rfl (.t rfl _) rfl (by decide) (fun hG => Yd.eqlU (a := (c_1.no &&& (BitVec.ofInt 32 s_8))) (b := 0#32) rfl (.g rfl hG) .c) ?_
      refine W.q rfl rfl rfl rfl (by decide) (Yd.and rfl (.t rfl) .c rfl rfl) ?_
      refine W.q rfl rfl rfl rfl (by decide) (Yd.mv rfl (.t rfl)) ?_
      refine W.g rfl rfl rfl rfl rfl (.t rfl _) rfl (by decide) (fun hG => Yd.mv rfl (.t rfl)) ?_
      refine W.g rfl rfl rfl rfl rfl (.t rfl _) rfl (by decide) (fun hG => Yd.mv rfl (.t rfl)) ?_
      refine W.g rfl rfl rfl rfl rfl (.t rfl _) rfl (by decide) (fun hG => Yd.idxR hf_0 (gd_get (d := false) ha14 hG) rfl Try.underlying22 SZ4 (.g rfl hG) (.g rfl hG)) ?_
      refine W.g rfl rfl rfl rfl rfl (.t rfl _) rfl (by decide) (fun hG => Yd.ldF hf_0 (.refl _) (gd_get (d := false) ha14 hG) rfl rfl ON4 (.g rfl hG)) ?_
      refine W.g rfl rfl rfl rfl rfl (.t rfl _) rfl (by decide) (fun hG => Yd.not rfl (.g rfl hG)) ?_
      refine W.q rfl rfl rfl rfl (by decide) (Yd.and rfl (.t rfl) .c rfl rfl) ?_
      refine W.end ?_
      refine NX.sub (env' := [(0, _), (3, _), (5, _), (31, _)]) ⟨rfl, rfl, rfl, rfl, trivial⟩ ?_
      refine NX.then ?_
      refine Tr.cond (.t rfl) (fun hb => ?_) (fun hb => ?_)
      · have hr := cond_t hb hr
        refine Tr.seq ?_
        refine Tr.region_f (fun _ => false) ?_
        refine W.q rfl rfl rfl rfl (by decide) (Yd.as rfl .c) ?_
        refine W.end ?_
        refine NX.sub (env' := [(4, _)]) ⟨rfl, trivial⟩ ?_
        refine NX.drop (l' := l) (.cons _ (.refl _)) ?_
        refine NX.then ?_
        refine Tr.ret' (RT.block (RT.then (RT.then (RT.block (RT.then ?_)))))
        refine res1 rfl rfl ?_
        intro w hc
        cases hr
        exact ⟨rfl, hc⟩
      · have hr := cond_f hb hr
        refine Tr.skip' ?_
        refine NX.block ?_
        refine NX.then ?_
        refine Tr.region_f (fun _ => false) ?_
        refine W.q rfl rfl rfl rfl (by decide) (Yd.mv rfl (.t rfl)) ?_
        refine W.q rfl rfl rfl rfl (by decide) (Yd.add rfl (.t rfl) .c) ?_
        refine W.q rfl rfl rfl rfl (by decide) (Yd.as rfl (.t rfl)) ?_
        refine W.end ?_
        refine NX.sub (env' := [(0, _), (3, _), (5, _)]) ⟨rfl, rfl, rfl, trivial⟩ ?_
        refine NX.sub (env' := [(0, _), (3, _), (5, _)]) ⟨rfl, rfl, rfl, trivial⟩ ?_
        have hw := w64_id (n := s_8 + 1) (by omega) (by omega)
        exact NX.again n11 (s_8 + 1, ()) (Nat.lt_succ_self _) ⟨(by rw [hw] <;> rfl), rfl, (fr_dec hns_8), (by omega), ((hnx10 _).symm.trans hr)⟩

def syllogistref_Bit (w_0 : (BitVec 32)) (i_1 : Int) : Option (Bool) :=
  some ((((decide (i_1 ≥ (0 : Int))) && (decide (i_1 < (32 : Int)))) && ((w_0 &&& (1#32 <<< ((BitVec.ofInt 64 i_1)).toNat)) != 0#32)))

set_option maxRecDepth 100000 in
set_option maxHeartbeats 4000000 in
theorem syllogistref_Bit_ok (w0 : World) (m : Snap) (l : List HI) (w_0 : (BitVec 32)) (i_1 : Int) (r : Bool) (hr : syllogistref_Bit w_0 i_1 = some r) (w : World) (hc : cX w0 ⟨m, l⟩ w) :
    Calls Try.prog 14 [.int .u32 (w_0.toNat : Int), .int .i64 i_1].toArray w fun e w' => e = .returned (.bool r) ∧ cX w0 ⟨m, l⟩ w' := by
  unfold syllogistref_Bit at hr
  refine calls_of_Tr (N := 19) Try.func14 rfl hc rfl (Nat.le_of_ble_eq_true rfl) ?_
  refine Tr.seq ?_
  refine Tr.region_f (fun _ => false) ?_
  refine W.q rfl rfl rfl rfl (by decide) (Yd.as rfl .c) ?_
  refine W.end ?_
  refine NX.sub (env' := [(0, _), (1, _)]) ⟨rfl, rfl, trivial⟩ ?_
  refine NX.then ?_
  refine Tr.seq ?_
  refine Tr.region_f (fun _ => false) ?_
  refine W.q rfl rfl rfl rfl (by decide) (Yd.mv rfl (.t rfl)) ?_
  refine W.q rfl rfl rfl rfl (by decide) (Yd.geq rfl (.t rfl) .c) ?_
  refine W.q rfl rfl rfl rfl (by decide) (Yd.mv rfl (.t rfl)) ?_
  refine W.g rfl rfl rfl rfl rfl (.t rfl _) rfl (by decide) (fun hG => Yd.mv rfl (.t rfl)) ?_
  refine W.g rfl rfl rfl rfl rfl (.t rfl _) rfl (by decide) (fun hG => Yd.lss rfl (.g rfl hG) .c) ?_
  refine W.q rfl rfl rfl rfl (by decide) (Yd.and rfl (.t rfl) .c rfl rfl) ?_
  refine W.q rfl rfl rfl rfl (by decide) (Yd.mv rfl (.t rfl)) ?_
  refine W.g rfl rfl rfl rfl rfl (.t rfl _) rfl (by decide) (fun hG => Yd.mv rfl (.t rfl)) ?_
  refine W.g rfl rfl rfl rfl rfl (.t rfl _) rfl (by decide) (fun hG => Yd.mv rfl (.t rfl)) ?_
  refine W.g rfl rfl rfl rfl rfl (.t rfl _) rfl (by decide) (fun hG => Yd.cvQ rfl US3 Try.underlying39 (.g rfl hG)) ?_
  refine W.g rfl rfl rfl rfl rfl (.t rfl _) rfl (by decide) (fun hG => Yd.shlU (a := 1#32) rfl .c (.g rfl hG) (Int.natCast_nonneg _)) ?_
  refine W.g rfl rfl rfl rfl rfl (.t rfl _) rfl (by decide) (fun hG => Yd.andU (a := w_0) (b := (1#32 <<< ((BitVec.ofInt 64 i_1)).toNat)) rfl (.g rfl hG) (.g rfl hG)) ?_
  refine W.g rfl rfl rfl rfl rfl (.t rfl _) rfl (by decide) (fun hG => Yd.neqU (a := (w_0 &&& (1#32 <<< ((BitVec.ofInt 64 i_1)).toNat))) (b := 0#32) rfl (.g rfl hG) .c) ?_
  refine W.q rfl rfl rfl rfl (by decide) (Yd.and rfl (.t rfl) .c rfl rfl) ?_
  refine W.q rfl rfl rfl rfl (by decide) (Yd.as rfl (.t rfl)) ?_
  refine W.end ?_
  refine NX.sub (env' := [(4, _)]) ⟨rfl, trivial⟩ ?_
  refine NX.then ?_
  refine Tr.ret' ?_
  refine res1 rfl rfl ?_
  intro w hc
  cases hr
  exact ⟨rfl, hc⟩

def syllogistref_Primes_k10 (l8 : List Clause) : Option ((List Clause)) :=
  some l8

def syllogistref_Primes_k24 (nx14 : ((List Clause) → Option ((List Clause)))) (l22 : List Clause) : Option ((List Clause)) :=
  nx14 l22

def syllogistref_Primes_k38 (yes_12 : BitVec 32) (no_26 : BitVec 32) (l20 : List Clause) (nx28 : ((List Clause) → Option ((List Clause)))) (prime_37 : Bool) : Option ((List Clause)) :=
  (bif prime_37 then
  bif decide (l20.length + (([({ yes := yes_12, no := no_26 } : Clause)] : List Clause)).length ≤ 17592186044416) then
  nx28 (l20 ++ ([({ yes := yes_12, no := no_26 } : Clause)] : List Clause)) else none
  else
  nx28 l20)

def syllogistref_Primes_b46 (f_1 : List Bool) (yes_12 : BitVec 32) (no_26 : BitVec 32) (v_45 : Int) (prime_35 : Bool) (nx47 : Bool → Option ((List Clause))) : Option ((List Clause)) :=
  (syllogistref_Bit ((yes_12 ||| no_26)) v_45).bind fun r49 =>
  bif (!(r49 == true) || (syllogistref_Product f_1 (({ yes := (yes_12 &&& ~~~(1#32 <<< ((BitVec.ofInt 64 v_45)).toNat)), no := (no_26 &&& ~~~(1#32 <<< ((BitVec.ofInt 64 v_45)).toNat)) } : Clause))).isSome) then
  (bif (r49 && (((syllogistref_Product f_1 (({ yes := (yes_12 &&& ~~~(1#32 <<< ((BitVec.ofInt 64 v_45)).toNat)), no := (no_26 &&& ~~~(1#32 <<< ((BitVec.ofInt 64 v_45)).toNat)) } : Clause))).getD false))) then
  nx47 false
  else
  nx47 prime_35) else none

def syllogistref_Primes_b27 (n_0 : Int) (f_1 : List Bool) (yes_12 : BitVec 32) (no_26 : BitVec 32) (l20 : List Clause) (nx28 : (List Clause) → Option ((List Clause))) : Option ((List Clause)) :=
  bif (!(((yes_12 &&& no_26) != 0#32) == false) || (syllogistref_Product f_1 (({ yes := yes_12, no := no_26 } : Clause))).isSome) then
  (bif (((yes_12 &&& no_26) != 0#32) || (!(((syllogistref_Product f_1 (({ yes := yes_12, no := no_26 } : Clause))).getD false)))) then
  nx28 l20
  else
  bif decide (n_0 ≤ 9223372036854775807) then
  forK (σ := Bool) (fun i s nx_ => syllogistref_Primes_b46 f_1 yes_12 no_26 i s nx_) (fun s => syllogistref_Primes_k38 yes_12 no_26 l20 nx28 s) (n_0 - (0 : Int)).toNat (0 : Int) true else none) else none

def syllogistref_Primes_b13 (n_0 : Int) (f_1 : List Bool) (yes_12 : BitVec 32) (l6 : List Clause) (nx14 : (List Clause) → Option ((List Clause))) : Option ((List Clause)) :=
  forK (σ := (List Clause)) (fun i s nx_ => syllogistref_Primes_b27 n_0 f_1 yes_12 i s nx_) (fun s => syllogistref_Primes_k24 nx14 s) (((1#32 <<< ((BitVec.ofInt 64 n_0)).toNat)).toNat - (0#32).toNat) 0#32 l6

def syllogistref_Primes (n_0 : Int) (f_1 : List Bool) : Option ((List Clause)) :=
  forK (σ := (List Clause)) (fun i s nx_ => syllogistref_Primes_b13 n_0 f_1 i s nx_) (fun s => syllogistref_Primes_k10 s) (((1#32 <<< ((BitVec.ofInt 64 n_0)).toNat)).toNat - (0#32).toNat) 0#32 (([] : List Clause))

set_option maxRecDepth 100000 in
set_option maxHeartbeats 4000000 in
theorem syllogistref_Primes_ok (w0 : World) (m : Snap) (l : List HI) (n_0 : Int) (uf_1 : Value) (f_1 : List Bool) (hf_1 : RS rB m uf_1 f_1) (r : (List Clause)) (hr : syllogistref_Primes n_0 f_1 = some r) (w : World) (hc : cX w0 ⟨m, l⟩ w) :
    Calls Try.prog 7 [.int .i64 n_0, uf_1].toArray w fun e w' => ∃ z0 : Value, e = .returned (z0) ∧ cX w0 ⟨m, hownT 34 2 Clause.enc z0 r :: l⟩ w' := by
  unfold syllogistref_Primes at hr
  refine calls_of_Tr (N := 69) Try.func7 rfl hc rfl (Nat.le_of_ble_eq_true rfl) ?_
  refine Tr.seq ?_
  refine Tr.region_f (fun _ => false) ?_
  refine W.q rfl rfl rfl rfl (by decide) (Yd.as rfl .c) ?_
  refine W.end ?_
  refine NX.sub (env' := [(0, _), (1, _)]) ⟨rfl, rfl, trivial⟩ ?_
  refine NX.then ?_
  refine Tr.seq ?_
  refine Tr.region_f (fun _ => false) ?_
  refine W.q rfl rfl rfl rfl (by decide) (Yd.as rfl .c) ?_
  refine W.end ?_
  refine NX.sub (env' := [(0, _), (1, _), (5, _)]) ⟨rfl, rfl, rfl, trivial⟩ ?_
  refine NX.then ?_
  refine Tr.seq ?_
  refine Tr.seq ?_
  refine Tr.region_f (fun _ => false) ?_
  refine W.q rfl rfl rfl rfl (by decide) (Yd.as rfl .c) ?_
  refine W.end ?_
  refine NX.sub (env' := [(0, _), (1, _), (5, _), (6, _)]) ⟨rfl, rfl, rfl, rfl, trivial⟩ ?_
  refine NX.then ?_
  refine Tr.addnil 34 2 ?_
  refine Tr.join (S := fun env x => ∃ l8 : List Clause, ∃ v9 : Value, env = [(5, v9)] ∧ x = ⟨m, hownT 34 2 Clause.enc v9 l8 :: l⟩ ∧ syllogistref_Primes_k10 l8 = some r) ?_ (fun hk11 => ?_)
  · rintro _ _ ⟨l8, v9, rfl, rfl, hr⟩
    unfold syllogistref_Primes_k10 at hr
    try dsimp only at hr
    refine NX.then ?_
    refine Tr.seq ?_
    refine Tr.region_f (fun _ => false) ?_
    refine W.q rfl rfl rfl rfl (by decide) (Yd.mv rfl (.t rfl)) ?_
    refine W.q rfl rfl rfl rfl (by decide) (Yd.as rfl (.t rfl)) ?_
    refine W.end ?_
    refine NX.sub (env' := [(4, _)]) ⟨rfl, trivial⟩ ?_
    refine NX.then ?_
    refine Tr.ret' ?_
    refine res1 rfl rfl ?_
    intro w hc
    cases hr
    exact ⟨_, rfl, hc⟩
  refine Tr.block ?_
  refine Tr.sub (env' := [(0, _), (1, _), (5, _), (6, _)]) ⟨rfl, rfl, rfl, rfl, trivial⟩ ?_
  refine Tr.loop (S := fun n (z : BitVec 32 × (List Clause)) env x => match z with | (yes_12, l6) => ∃ v7 : Value, env = [(0, .int .i64 n_0), (1, uf_1), (5, v7), (6, .int .u32 (yes_12.toNat : Int))] ∧ x = ⟨m, hownT 34 2 Clause.enc v7 l6 :: l⟩ ∧ n = ((1#32 <<< ((BitVec.ofInt 64 n_0)).toNat)).toNat - yes_12.toNat ∧ forK (σ := (List Clause)) (fun i s nx_ => syllogistref_Primes_b13 n_0 f_1 i s nx_) (fun s => syllogistref_Primes_k10 s) n yes_12 l6 = some r) _ (0#32, ([] : List Clause)) ⟨_, rfl, rfl, rfl, hr⟩ ?_
  rintro n15 ⟨yes_12, l6⟩ env x ⟨v7, rfl, rfl, hnyes_12, hr⟩
  cases n15 with
  | zero =>
    simp only [forK] at hr
    refine Tr.seq ?_
    refine Tr.seq ?_
    refine Tr.region_f (fun _ => false) ?_
    refine W.q rfl rfl rfl rfl (by decide) (Yd.mv rfl (.t rfl)) ?_
    refine W.q rfl rfl rfl rfl (by decide) (Yd.mv rfl (.t rfl)) ?_
    refine W.q rfl rfl rfl rfl (by decide) (Yd.cvQ rfl US3 Try.underlying39 (.t rfl)) ?_
    refine W.q rfl rfl rfl rfl (by decide) (Yd.shlU (a := 1#32) rfl .c (.t rfl) (Int.natCast_nonneg _)) ?_
    refine W.q rfl rfl rfl rfl (by decide) (Yd.lssU (a := yes_12) (b := (1#32 <<< ((BitVec.ofInt 64 n_0)).toNat)) rfl (.t rfl) (.t rfl)) ?_
    refine W.end ?_
    refine NX.sub (env' := [(0, _), (1, _), (5, _), (6, _), (16, _)]) ⟨rfl, rfl, rfl, rfl, rfl, trivial⟩ ?_
    refine NX.then ?_
    refine Tr.cond (.t rfl) (fun hb => ?_) (fun hb => ?_)
    · exact absurd (hb.symm.trans (fu_end hnyes_12)) (by decide)
    ·
      refine Tr.exit' (EX.then (EX.then (EX.block ?_)))
      refine NX.sub (env' := [(5, _)]) ⟨rfl, trivial⟩ ?_
      exact hk11 _ _ ⟨_, _, rfl, rfl, hr⟩
  | succ n15 =>
    obtain ⟨nx14, hnx14, hr⟩ := forK_succ hr
    try dsimp only at hr
    unfold syllogistref_Primes_b13 at hr
    try dsimp only at hr
    refine Tr.seq ?_
    refine Tr.seq ?_
    refine Tr.region_f (fun _ => false) ?_
    refine W.q rfl rfl rfl rfl (by decide) (Yd.mv rfl (.t rfl)) ?_
    refine W.q rfl rfl rfl rfl (by decide) (Yd.mv rfl (.t rfl)) ?_
    refine W.q rfl rfl rfl rfl (by decide) (Yd.cvQ rfl US3 Try.underlying39 (.t rfl)) ?_
    refine W.q rfl rfl rfl rfl (by decide) (Yd.shlU (a := 1#32) rfl .c (.t rfl) (Int.natCast_nonneg _)) ?_
    refine W.q rfl rfl rfl rfl (by decide) (Yd.lssU (a := yes_12) (b := (1#32 <<< ((BitVec.ofInt 64 n_0)).toNat)) rfl (.t rfl) (.t rfl)) ?_
    refine W.end ?_
    refine NX.sub (env' := [(0, _), (1, _), (5, _), (6, _), (16, _)]) ⟨rfl, rfl, rfl, rfl, rfl, trivial⟩ ?_
    refine NX.then ?_
    refine Tr.cond (.t rfl) (fun hb => ?_) (fun hb => ?_)
    rotate_left
    · exact absurd (hb.symm.trans (fu_go hnyes_12)) (by decide)
    ·
      refine Tr.skip' ?_
      refine NX.then ?_
      refine Tr.seq ?_
      refine Tr.block ?_
      refine Tr.seq ?_
      refine Tr.region_f (fun _ => false) ?_
      refine W.q rfl rfl rfl rfl (by decide) (Yd.as rfl .c) ?_
      refine W.end ?_
      refine NX.sub (env' := [(0, _), (1, _), (5, _), (6, _), (7, _)]) ⟨rfl, rfl, rfl, rfl, rfl, trivial⟩ ?_
      refine NX.then ?_
      refine Tr.join (S := fun env x => ∃ l22 : List Clause, ∃ v23 : Value, env = [(0, .int .i64 n_0), (1, uf_1), (5, v23), (6, .int .u32 (yes_12.toNat : Int))] ∧ x = ⟨m, hownT 34 2 Clause.enc v23 l22 :: l⟩ ∧ syllogistref_Primes_k24 nx14 l22 = some r) ?_ (fun hk25 => ?_)
      · rintro _ _ ⟨l22, v23, rfl, rfl, hr⟩
        unfold syllogistref_Primes_k24 at hr
        try dsimp only at hr
        refine NX.block ?_
        refine NX.then ?_
        refine Tr.region_f (fun _ => false) ?_
        refine W.q rfl rfl rfl rfl (by decide) (Yd.mv rfl (.t rfl)) ?_
        refine W.q rfl rfl rfl rfl (by decide) (Yd.addU (a := yes_12) (b := 1#32) rfl (.t rfl) .c) ?_
        refine W.q rfl rfl rfl rfl (by decide) (Yd.as rfl (.t rfl)) ?_
        refine W.end ?_
        refine NX.sub (env' := [(0, _), (1, _), (5, _), (6, _)]) ⟨rfl, rfl, rfl, rfl, trivial⟩ ?_
        refine NX.sub (env' := [(0, _), (1, _), (5, _), (6, _)]) ⟨rfl, rfl, rfl, rfl, trivial⟩ ?_
        exact NX.again n15 (yes_12 + 1, l22) (Nat.lt_succ_self _) ⟨_, rfl, rfl, (fu_dec hnyes_12), ((hnx14 _).symm.trans hr)⟩
      refine Tr.block ?_
      refine Tr.sub (env' := [(0, _), (1, _), (5, _), (6, _), (7, _)]) ⟨rfl, rfl, rfl, rfl, rfl, trivial⟩ ?_
      refine Tr.loop (S := fun n (z : BitVec 32 × (List Clause)) env x => match z with | (no_26, l20) => ∃ v21 : Value, env = [(0, .int .i64 n_0), (1, uf_1), (5, v21), (6, .int .u32 (yes_12.toNat : Int)), (7, .int .u32 (no_26.toNat : Int))] ∧ x = ⟨m, hownT 34 2 Clause.enc v21 l20 :: l⟩ ∧ n = ((1#32 <<< ((BitVec.ofInt 64 n_0)).toNat)).toNat - no_26.toNat ∧ forK (σ := (List Clause)) (fun i s nx_ => syllogistref_Primes_b27 n_0 f_1 yes_12 i s nx_) (fun s => syllogistref_Primes_k24 nx14 s) n no_26 l20 = some r) _ (0#32, l6) ⟨_, rfl, rfl, rfl, hr⟩ ?_
      rintro n29 ⟨no_26, l20⟩ env x ⟨v21, rfl, rfl, hnno_26, hr⟩
      cases n29 with
      | zero =>
        simp only [forK] at hr
        refine Tr.seq ?_
        refine Tr.seq ?_
        refine Tr.region_f (fun _ => false) ?_
        refine W.q rfl rfl rfl rfl (by decide) (Yd.mv rfl (.t rfl)) ?_
        refine W.q rfl rfl rfl rfl (by decide) (Yd.mv rfl (.t rfl)) ?_
        refine W.q rfl rfl rfl rfl (by decide) (Yd.cvQ rfl US3 Try.underlying39 (.t rfl)) ?_
        refine W.q rfl rfl rfl rfl (by decide) (Yd.shlU (a := 1#32) rfl .c (.t rfl) (Int.natCast_nonneg _)) ?_
        refine W.q rfl rfl rfl rfl (by decide) (Yd.lssU (a := no_26) (b := (1#32 <<< ((BitVec.ofInt 64 n_0)).toNat)) rfl (.t rfl) (.t rfl)) ?_
        refine W.end ?_
        refine NX.sub (env' := [(0, _), (1, _), (5, _), (6, _), (7, _), (23, _)]) ⟨rfl, rfl, rfl, rfl, rfl, rfl, trivial⟩ ?_
        refine NX.then ?_
        refine Tr.cond (.t rfl) (fun hb => ?_) (fun hb => ?_)
        · exact absurd (hb.symm.trans (fu_end hnno_26)) (by decide)
        ·
          refine Tr.exit' (EX.then (EX.then (EX.block ?_)))
          refine NX.sub (env' := [(0, _), (1, _), (5, _), (6, _)]) ⟨rfl, rfl, rfl, rfl, trivial⟩ ?_
          exact hk25 _ _ ⟨_, _, rfl, rfl, hr⟩
      | succ n29 =>
        obtain ⟨nx28, hnx28, hr⟩ := forK_succ hr
        try dsimp only at hr
        unfold syllogistref_Primes_b27 at hr
        try dsimp only at hr
        refine Tr.seq ?_
        refine Tr.seq ?_
        refine Tr.region_f (fun _ => false) ?_
        refine W.q rfl rfl rfl rfl (by decide) (Yd.mv rfl (.t rfl)) ?_
        refine W.q rfl rfl rfl rfl (by decide) (Yd.mv rfl (.t rfl)) ?_
        refine W.q rfl rfl rfl rfl (by decide) (Yd.cvQ rfl US3 Try.underlying39 (.t rfl)) ?_
        refine W.q rfl rfl rfl rfl (by decide) (Yd.shlU (a := 1#32) rfl .c (.t rfl) (Int.natCast_nonneg _)) ?_
        refine W.q rfl rfl rfl rfl (by decide) (Yd.lssU (a := no_26) (b := (1#32 <<< ((BitVec.ofInt 64 n_0)).toNat)) rfl (.t rfl) (.t rfl)) ?_
        refine W.end ?_
        refine NX.sub (env' := [(0, _), (1, _), (5, _), (6, _), (7, _), (23, _)]) ⟨rfl, rfl, rfl, rfl, rfl, rfl, trivial⟩ ?_
        refine NX.then ?_
        refine Tr.cond (.t rfl) (fun hb => ?_) (fun hb => ?_)
        rotate_left
        · exact absurd (hb.symm.trans (fu_go hnno_26)) (by decide)
        ·
          refine Tr.skip' ?_
          refine NX.then ?_
          refine Tr.seq ?_
          refine Tr.block ?_
          refine Tr.seq ?_
          refine Tr.region_f (fun i => Nat.beq i 3 || Nat.beq i 4) ?_
          refine W.q rfl rfl rfl rfl (by decide) (Yd.mv rfl (.t rfl)) ?_
          refine W.q rfl rfl rfl rfl (by decide) (Yd.mv rfl (.t rfl)) ?_
          refine W.q rfl rfl rfl rfl (by decide) (Yd.bld (cells := [.int .u32 (yes_12.toNat : Int), .int .u32 (no_26.toNat : Int)]) rfl ZI34 PL34 (.cons (.t rfl) (.cons (.t rfl) .nil)) rfl) ?_
          refine W.e rfl rfl rfl rfl (by decide) (Ef.al rfl ZR34 rfl) ?_
          rintro _ _ ⟨b30, rfl, rfl⟩
          refine ⟨.inl rfl, ?_⟩
          refine W.cast (m' := m) (l' := hcells b30 [_, _] 34 :: hownT 34 2 Clause.enc v21 _ :: l) rfl rfl ?_
          refine W.s rfl rfl rfl rfl (Ef.stB (pos := 0) (us := [_, _]) (cs' := [_, _]) rfl rfl (.t rfl) (.t rfl) SZ34 rfl rfl rfl (Nat.le_of_ble_eq_true rfl) rfl) ?_
          rintro _ _ ⟨rfl, rfl⟩
          refine ⟨.inl rfl, ?_⟩
          refine W.cast (m' := m) (l' := hcells b30 [_, _] 34 :: hownT 34 2 Clause.enc v21 _ :: l) rfl rfl ?_
          refine W.end ?_
          refine NX.sub (env' := [(0, _), (1, _), (5, _), (6, _), (7, _), (8, _)]) ⟨rfl, rfl, rfl, rfl, rfl, rfl, trivial⟩ ?_
          refine NX.then ?_
          refine Tr.seq ?_
          refine Tr.seq ?_
          obtain ⟨ha32, hr⟩ := guard_some hr
          refine Tr.region_f (fun _ => false) ?_
          refine W.q rfl rfl rfl rfl (by decide) (Yd.mv rfl (.t rfl)) ?_
          refine W.q rfl rfl rfl rfl (by decide) (Yd.mv rfl (.t rfl)) ?_
          refine W.q rfl rfl rfl rfl (by decide) (Yd.andU (a := yes_12) (b := no_26) rfl (.t rfl) (.t rfl)) ?_
          refine W.q rfl rfl rfl rfl (by decide) (Yd.neqU (a := (yes_12 &&& no_26)) (b := 0#32) rfl (.t rfl) .c) ?_
          refine W.q rfl rfl rfl rfl (by decide) (Yd.mv rfl (.t rfl)) ?_
          refine W.g rfl rfl rfl rfl rfl (.t rfl _) rfl (by decide) (fun hG => Yd.mv rfl (.t rfl)) ?_
          refine W.g rfl rfl rfl rfl rfl (.t rfl _) rfl (by decide) (fun hG => Yd.ldBs (pos := 0) (us := [_, _]) rfl rfl rfl rfl ON34 US34 SZ34 (.t rfl)) ?_
          refine W.g rfl rfl rfl rfl rfl (.t rfl _) rfl (by decide) (fun hG => Yd.call (v := .bool ((((syllogistref_Product f_1 (({ yes := yes_12, no := no_26 } : Clause))).getD false)))) rfl Try.func13 rfl rfl (.cons (.g rfl hG) (.cons (.g rfl hG) .nil)) (fun x' hx w hw => syllogistref_Product_ok w0 x'.m x'.l _ _ (hf_1.mono hx.1) (({ yes := yes_12, no := no_26 } : Clause)) _ (gd_get (d := false) ha32 hG) w hw)) ?_
          refine W.g rfl rfl rfl rfl rfl (.t rfl _) rfl (by decide) (fun hG => Yd.not rfl (.g rfl hG)) ?_
          refine W.q rfl rfl rfl rfl (by decide) (Yd.or rfl (.t rfl) .c rfl rfl) ?_
          refine W.end ?_
          refine NX.sub (env' := [(0, _), (1, _), (5, _), (6, _), (7, _), (8, _), (38, _)]) ⟨rfl, rfl, rfl, rfl, rfl, rfl, rfl, trivial⟩ ?_
          refine NX.then ?_
          refine Tr.cond (.t rfl) (fun hb => ?_) (fun hb => ?_)
          · have hr := cond_t hb hr
            refine Tr.exit' (EX.then (EX.block ?_))
            refine NX.then ?_
            refine Tr.region_f (fun _ => false) ?_
            refine W.q rfl rfl rfl rfl (by decide) (Yd.mv rfl (.t rfl)) ?_
            refine W.q rfl rfl rfl rfl (by decide) (Yd.addU (a := no_26) (b := 1#32) rfl (.t rfl) .c) ?_
            refine W.q rfl rfl rfl rfl (by decide) (Yd.as rfl (.t rfl)) ?_
            refine W.end ?_
            refine NX.sub (env' := [(0, _), (1, _), (5, _), (6, _), (7, _)]) ⟨rfl, rfl, rfl, rfl, rfl, trivial⟩ ?_
            refine NX.drop (l' := hownT 34 2 Clause.enc v21 _ :: l) (.cons _ (.cons_cons _ (.refl _))) ?_
            refine NX.sub (env' := [(0, _), (1, _), (5, _), (6, _), (7, _)]) ⟨rfl, rfl, rfl, rfl, rfl, trivial⟩ ?_
            exact NX.again n29 (no_26 + 1, l20) (Nat.lt_succ_self _) ⟨_, rfl, rfl, (fu_dec hnno_26), ((hnx28 _).symm.trans hr)⟩
          · have hr := cond_f hb hr
            refine Tr.skip' ?_
            refine NX.then ?_
            refine Tr.seq ?_
            refine Tr.region_f (fun _ => false) ?_
            refine W.q rfl rfl rfl rfl (by decide) (Yd.as rfl .c) ?_
            refine W.end ?_
            refine NX.sub (env' := [(0, _), (1, _), (5, _), (6, _), (7, _), (8, _), (9, _)]) ⟨rfl, rfl, rfl, rfl, rfl, rfl, rfl, trivial⟩ ?_
            refine NX.then ?_
            refine Tr.seq ?_
            refine Tr.seq ?_
            refine Tr.region_f (fun _ => false) ?_
            refine W.q rfl rfl rfl rfl (by decide) (Yd.as rfl .c) ?_
            refine W.end ?_
            refine NX.sub (env' := [(0, _), (1, _), (5, _), (6, _), (7, _), (8, _), (9, _), (10, _)]) ⟨rfl, rfl, rfl, rfl, rfl, rfl, rfl, rfl, trivial⟩ ?_
            refine NX.then ?_
            refine Tr.join (S := fun env x => ∃ prime_37 : Bool, env = [(0, .int .i64 n_0), (1, uf_1), (5, v21), (6, .int .u32 (yes_12.toNat : Int)), (7, .int .u32 (no_26.toNat : Int)), (8, bp b30 0), (9, .bool prime_37)] ∧ x = ⟨m, hcells b30 [.int .u32 (yes_12.toNat : Int), .int .u32 (no_26.toNat : Int)] 34 :: hownT 34 2 Clause.enc v21 l20 :: l⟩ ∧ syllogistref_Primes_k38 yes_12 no_26 l20 nx28 prime_37 = some r) ?_ (fun hk39 => ?_)
            · rintro _ _ ⟨prime_37, rfl, rfl, hr⟩
              unfold syllogistref_Primes_k38 at hr
              try dsimp only at hr
              refine NX.then ?_
              refine Tr.seq ?_
              refine Tr.region_f (fun _ => false) ?_
              refine W.q rfl rfl rfl rfl (by decide) (Yd.mv rfl (.t rfl)) ?_
              refine W.end ?_
              refine NX.sub (env' := [(0, _), (1, _), (5, _), (6, _), (7, _), (8, _), (63, _)]) ⟨rfl, rfl, rfl, rfl, rfl, rfl, rfl, trivial⟩ ?_
              refine NX.then ?_
              refine Tr.cond (.t rfl) (fun hb => ?_) (fun hb => ?_)
              · have hr := cond_t hb hr
                obtain ⟨hq43, hr⟩ := guard_some hr; replace hq43 := of_decide_eq_true hq43
                refine Tr.region_f (fun i => Nat.beq i 2 || Nat.beq i 3) ?_
                refine W.q rfl rfl rfl rfl (by decide) (Yd.mv rfl (.t rfl)) ?_
                refine W.q rfl rfl rfl rfl (by decide) (Yd.ldBs (pos := 0) (us := [_, _]) rfl rfl rfl rfl ON34 US34 SZ34 (.t rfl)) ?_
                refine W.e rfl rfl rfl rfl (by decide) (Ef.bsT (enc := Clause.enc) (vs := [_]) (ys := [({ yes := yes_12, no := no_26 } : Clause)]) (fun _ => rfl) IF34 rfl Try.underlying23 (by decide) rfl (.cons (.t rfl) .nil) rfl rfl (by decide)) ?_
                rintro v40 _ rfl
                refine ⟨.inl rfl, ?_⟩
                refine W.cast (m' := m) (l' := hownT 34 2 Clause.enc v40 _ :: hcells b30 [_, _] 34 :: hownT 34 2 Clause.enc v21 _ :: l) rfl rfl ?_
                refine W.e rfl rfl rfl rfl (by decide) (Ef.apI (pos := 2) (enc := Clause.enc) (xs := l20) (ys := ([({ yes := yes_12, no := no_26 } : Clause)] : List Clause)) (fun _ => rfl) IF34 rfl rfl Try.underlying23 rfl (by decide) (.t rfl) (.t rfl) (Src.own (pos := 0) rfl) (fun _ => rfl) (by omega) (by omega)) ?_
                rintro v42 _ rfl
                refine ⟨.inl rfl, ?_⟩
                refine W.cast (m' := m) (l' := hownT 34 2 Clause.enc v40 _ :: hcells b30 [_, _] 34 :: hownT 34 2 Clause.enc v42 _ :: l) rfl rfl ?_
                refine W.q rfl rfl rfl rfl (by decide) (Yd.as rfl (.t rfl)) ?_
                refine W.end ?_
                refine NX.sub (env' := [(0, _), (1, _), (5, _), (6, _), (7, _)]) ⟨rfl, rfl, rfl, rfl, rfl, trivial⟩ ?_
                refine NX.drop (l' := hownT 34 2 Clause.enc v42 _ :: l) (.cons _ (.cons _ (.cons_cons _ (.refl _)))) ?_
                refine NX.block ?_
                refine NX.then ?_
                refine Tr.region_f (fun _ => false) ?_
                refine W.q rfl rfl rfl rfl (by decide) (Yd.mv rfl (.t rfl)) ?_
                refine W.q rfl rfl rfl rfl (by decide) (Yd.addU (a := no_26) (b := 1#32) rfl (.t rfl) .c) ?_
                refine W.q rfl rfl rfl rfl (by decide) (Yd.as rfl (.t rfl)) ?_
                refine W.end ?_
                refine NX.sub (env' := [(0, _), (1, _), (5, _), (6, _), (7, _)]) ⟨rfl, rfl, rfl, rfl, rfl, trivial⟩ ?_
                refine NX.sub (env' := [(0, _), (1, _), (5, _), (6, _), (7, _)]) ⟨rfl, rfl, rfl, rfl, rfl, trivial⟩ ?_
                exact NX.again n29 (no_26 + 1, (l20 ++ ([({ yes := yes_12, no := no_26 } : Clause)] : List Clause))) (Nat.lt_succ_self _) ⟨_, rfl, rfl, (fu_dec hnno_26), ((hnx28 _).symm.trans hr)⟩
              · have hr := cond_f hb hr
                refine Tr.skip' ?_
                refine NX.block ?_
                refine NX.then ?_
                refine Tr.region_f (fun _ => false) ?_
                refine W.q rfl rfl rfl rfl (by decide) (Yd.mv rfl (.t rfl)) ?_
                refine W.q rfl rfl rfl rfl (by decide) (Yd.addU (a := no_26) (b := 1#32) rfl (.t rfl) .c) ?_
                refine W.q rfl rfl rfl rfl (by decide) (Yd.as rfl (.t rfl)) ?_
                refine W.end ?_
                refine NX.sub (env' := [(0, _), (1, _), (5, _), (6, _), (7, _)]) ⟨rfl, rfl, rfl, rfl, rfl, trivial⟩ ?_
                refine NX.drop (l' := hownT 34 2 Clause.enc v21 _ :: l) (.cons _ (.cons_cons _ (.refl _))) ?_
                refine NX.sub (env' := [(0, _), (1, _), (5, _), (6, _), (7, _)]) ⟨rfl, rfl, rfl, rfl, rfl, trivial⟩ ?_
                exact NX.again n29 (no_26 + 1, l20) (Nat.lt_succ_self _) ⟨_, rfl, rfl, (fu_dec hnno_26), ((hnx28 _).symm.trans hr)⟩
            obtain ⟨hle44, hr⟩ := guard_some hr; replace hle44 := of_decide_eq_true hle44
            refine Tr.block ?_
            refine Tr.sub (env' := [(0, _), (1, _), (5, _), (6, _), (7, _), (8, _), (9, _), (10, _)]) ⟨rfl, rfl, rfl, rfl, rfl, rfl, rfl, rfl, trivial⟩ ?_
            refine Tr.loop (S := fun n (z : Int × Bool) env x => match z with | (v_45, prime_35) => env = [(0, .int .i64 n_0), (1, uf_1), (5, v21), (6, .int .u32 (yes_12.toNat : Int)), (7, .int .u32 (no_26.toNat : Int)), (8, bp b30 0), (9, .bool prime_35), (10, .int .i64 v_45)] ∧ x = ⟨m, hcells b30 [.int .u32 (yes_12.toNat : Int), .int .u32 (no_26.toNat : Int)] 34 :: hownT 34 2 Clause.enc v21 l20 :: l⟩ ∧ n = (n_0 - v_45).toNat ∧ 0 ≤ v_45 ∧ forK (σ := Bool) (fun i s nx_ => syllogistref_Primes_b46 f_1 yes_12 no_26 i s nx_) (fun s => syllogistref_Primes_k38 yes_12 no_26 l20 nx28 s) n v_45 prime_35 = some r) _ ((0 : Int), true) ⟨rfl, rfl, rfl, (by omega), hr⟩ ?_
            rintro n48 ⟨v_45, prime_35⟩ env x ⟨rfl, rfl, hnv_45, h0v_45, hr⟩
            cases n48 with
            | zero =>
              simp only [forK] at hr
              refine Tr.seq ?_
              refine Tr.seq ?_
              refine Tr.region_f (fun _ => false) ?_
              refine W.q rfl rfl rfl rfl (by decide) (Yd.mv rfl (.t rfl)) ?_
              refine W.q rfl rfl rfl rfl (by decide) (Yd.mv rfl (.t rfl)) ?_
              refine W.q rfl rfl rfl rfl (by decide) (Yd.lss rfl (.t rfl) (.t rfl)) ?_
              refine W.end ?_
              refine NX.sub (env' := [(0, _), (1, _), (5, _), (6, _), (7, _), (8, _), (9, _), (10, _), (41, _)]) ⟨rfl, rfl, rfl, rfl, rfl, rfl, rfl, rfl, rfl, trivial⟩ ?_
              refine NX.then ?_
              refine Tr.cond (.t rfl) (fun hb => ?_) (fun hb => ?_)
              · exact absurd (hb.symm.trans (fr_end hnv_45)) (by decide)
              ·
                refine Tr.exit' (EX.then (EX.then (EX.block ?_)))
                refine NX.sub (env' := [(0, _), (1, _), (5, _), (6, _), (7, _), (8, _), (9, _)]) ⟨rfl, rfl, rfl, rfl, rfl, rfl, rfl, trivial⟩ ?_
                exact hk39 _ _ ⟨_, rfl, rfl, hr⟩
            | succ n48 =>
              obtain ⟨nx47, hnx47, hr⟩ := forK_succ hr
              try dsimp only at hr
              unfold syllogistref_Primes_b46 at hr
              try dsimp only at hr
              have hltv_45 := fr_bnd hnv_45
              refine Tr.seq ?_
              refine Tr.seq ?_
              refine Tr.region_f (fun _ => false) ?_
              refine W.q rfl rfl rfl rfl (by decide) (Yd.mv rfl (.t rfl)) ?_
              refine W.q rfl rfl rfl rfl (by decide) (Yd.mv rfl (.t rfl)) ?_
              refine W.q rfl rfl rfl rfl (by decide) (Yd.lss rfl (.t rfl) (.t rfl)) ?_
              refine W.end ?_
              refine NX.sub (env' := [(0, _), (1, _), (5, _), (6, _), (7, _), (8, _), (9, _), (10, _), (41, _)]) ⟨rfl, rfl, rfl, rfl, rfl, rfl, rfl, rfl, rfl, trivial⟩ ?_
              refine NX.then ?_
              refine Tr.cond (.t rfl) (fun hb => ?_) (fun hb => ?_)
              rotate_left
              · exact absurd (hb.symm.trans (fr_go hnv_45)) (by decide)
              ·
                refine Tr.skip' ?_
                refine NX.then ?_
                refine Tr.seq ?_
                refine Tr.block ?_
                refine Tr.seq ?_
                refine Tr.region_f (fun _ => false) ?_
                refine W.q rfl rfl rfl rfl (by decide) (Yd.mv rfl (.t rfl)) ?_
                refine W.q rfl rfl rfl rfl (by decide) (Yd.cvQ rfl US3 Try.underlying39 (.t rfl)) ?_
                refine W.q rfl rfl rfl rfl (by decide) (Yd.shlU (a := 1#32) rfl .c (.t rfl) (Int.natCast_nonneg _)) ?_
                refine W.q rfl rfl rfl rfl (by decide) (Yd.as rfl (.t rfl)) ?_
                refine W.end ?_
                refine NX.sub (env' := [(0, _), (1, _), (5, _), (6, _), (7, _), (8, _), (9, _), (10, _), (11, _)]) ⟨rfl, rfl, rfl, rfl, rfl, rfl, rfl, rfl, rfl, trivial⟩ ?_
                refine NX.then ?_
                refine Tr.seq ?_
                obtain ⟨r49, hr50, hr⟩ := bind_some hr
                obtain ⟨ha51, hr⟩ := guard_some hr
                refine Tr.region_f (fun _ => false) ?_
                refine W.q rfl rfl rfl rfl (by decide) (Yd.mv rfl (.t rfl)) ?_
                refine W.q rfl rfl rfl rfl (by decide) (Yd.mv rfl (.t rfl)) ?_
                refine W.q rfl rfl rfl rfl (by decide) (Yd.orU (a := yes_12) (b := no_26) rfl (.t rfl) (.t rfl)) ?_
                refine W.q rfl rfl rfl rfl (by decide) (Yd.mv rfl (.t rfl)) ?_
                refine W.q rfl rfl rfl rfl (by decide) (Yd.call (v := .bool r49) rfl Try.func14 rfl rfl (.cons (.t rfl) (.cons (.t rfl) .nil)) (fun x' hx w hw => syllogistref_Bit_ok w0 x'.m x'.l ((yes_12 ||| no_26)) v_45 _ hr50 w hw)) ?_
                refine W.q rfl rfl rfl rfl (by decide) (Yd.mv rfl (.t rfl)) ?_
                refine W.g rfl rfl rfl rfl rfl (.t rfl _) rfl (by decide) (fun hG => Yd.mv rfl (.t rfl)) ?_
                refine W.g rfl rfl rfl rfl rfl (.t rfl _) rfl (by decide) (fun hG => Yd.mv rfl (.t rfl)) ?_
                refine W.g rfl rfl rfl rfl rfl (.t rfl _) rfl (by decide) (fun hG => Yd.mv rfl (.t rfl)) ?_
                refine W.g rfl rfl rfl rfl rfl (.t rfl _) rfl (by decide) (fun hG => Yd.andnU (a := yes_12) (b := (1#32 <<< ((BitVec.ofInt 64 v_45)).toNat)) rfl (.g rfl hG) (.g rfl hG)) ?_
                refine W.g rfl rfl rfl rfl rfl (.t rfl _) rfl (by decide) (fun hG => Yd.mv rfl (.t rfl)) ?_
                refine W.g rfl rfl rfl rfl rfl (.t rfl _) rfl (by decide) (fun hG => Yd.mv rfl (.t rfl)) ?_
                refine W.g rfl rfl rfl rfl rfl (.t rfl _) rfl (by decide) (fun hG => Yd.andnU (a := no_26) (b := (1#32 <<< ((BitVec.ofInt 64 v_45)).toNat)) rfl (.g rfl hG) (.g rfl hG)) ?_
                refine W.g rfl rfl rfl rfl rfl (.t rfl _) rfl (by decide) (fun hG => Yd.bld (cells := [.int .u32 (((yes_12 &&& ~~~(1#32 <<< ((BitVec.ofInt 64 v_45)).toNat))).toNat : Int), .int .u32 (((no_26 &&& ~~~(1#32 <<< ((BitVec.ofInt 64 v_45)).toNat))).toNat : Int)]) rfl ZI34 PL34 (.cons (.g rfl hG) (.cons (.g rfl hG) .nil)) rfl) ?_
                refine W.g rfl rfl rfl rfl rfl (.t rfl _) rfl (by decide) (fun hG => Yd.call (v := .bool ((((syllogistref_Product f_1 (({ yes := (yes_12 &&& ~~~(1#32 <<< ((BitVec.ofInt 64 v_45)).toNat)), no := (no_26 &&& ~~~(1#32 <<< ((BitVec.ofInt 64 v_45)).toNat)) } : Clause))).getD false)))) rfl Try.func13 rfl rfl (.cons (.g rfl hG) (.cons (.g rfl hG) .nil)) (fun x' hx w hw => syllogistref_Product_ok w0 x'.m x'.l _ _ (hf_1.mono hx.1) (({ yes := (yes_12 &&& ~~~(1#32 <<< ((BitVec.ofInt 64 v_45)).toNat)), no := (no_26 &&& ~~~(1#32 <<< ((BitVec.ofInt 64 v_45)).toNat)) } : Clause)) _ (gd_get (d := false) ha51 hG) w hw)) ?_
                refine W.q rfl rfl rfl rfl (by decide) (Yd.and rfl (.t rfl) .c rfl rfl) ?_
                refine W.end ?_
                refine NX.sub (env' := [(0, _), (1, _), (5, _), (6, _), (7, _), (8, _), (9, _), (10, _), (62, _)]) ⟨rfl, rfl, rfl, rfl, rfl, rfl, rfl, rfl, rfl, trivial⟩ ?_
                refine NX.then ?_
                refine Tr.cond (.t rfl) (fun hb => ?_) (fun hb => ?_)
                · have hr := cond_t hb hr
                  refine Tr.region_f (fun _ => false) ?_
                  refine W.q rfl rfl rfl rfl (by decide) (Yd.as rfl .c) ?_
                  refine W.end ?_
                  refine NX.sub (env' := [(0, _), (1, _), (5, _), (6, _), (7, _), (8, _), (9, _), (10, _)]) ⟨rfl, rfl, rfl, rfl, rfl, rfl, rfl, rfl, trivial⟩ ?_
                  refine NX.block ?_
                  refine NX.then ?_
                  refine Tr.region_f (fun _ => false) ?_
                  refine W.q rfl rfl rfl rfl (by decide) (Yd.mv rfl (.t rfl)) ?_
                  refine W.q rfl rfl rfl rfl (by decide) (Yd.add rfl (.t rfl) .c) ?_
                  refine W.q rfl rfl rfl rfl (by decide) (Yd.as rfl (.t rfl)) ?_
                  refine W.end ?_
                  refine NX.sub (env' := [(0, _), (1, _), (5, _), (6, _), (7, _), (8, _), (9, _), (10, _)]) ⟨rfl, rfl, rfl, rfl, rfl, rfl, rfl, rfl, trivial⟩ ?_
                  refine NX.sub (env' := [(0, _), (1, _), (5, _), (6, _), (7, _), (8, _), (9, _), (10, _)]) ⟨rfl, rfl, rfl, rfl, rfl, rfl, rfl, rfl, trivial⟩ ?_
                  have hw := w64_id (n := v_45 + 1) (by omega) (by omega)
                  exact NX.again n48 (v_45 + 1, false) (Nat.lt_succ_self _) ⟨(by rw [hw] <;> rfl), rfl, (fr_dec hnv_45), (by omega), ((hnx47 _).symm.trans hr)⟩
                · have hr := cond_f hb hr
                  refine Tr.skip' ?_
                  refine NX.block ?_
                  refine NX.then ?_
                  refine Tr.region_f (fun _ => false) ?_
                  refine W.q rfl rfl rfl rfl (by decide) (Yd.mv rfl (.t rfl)) ?_
                  refine W.q rfl rfl rfl rfl (by decide) (Yd.add rfl (.t rfl) .c) ?_
                  refine W.q rfl rfl rfl rfl (by decide) (Yd.as rfl (.t rfl)) ?_
                  refine W.end ?_
                  refine NX.sub (env' := [(0, _), (1, _), (5, _), (6, _), (7, _), (8, _), (9, _), (10, _)]) ⟨rfl, rfl, rfl, rfl, rfl, rfl, rfl, rfl, trivial⟩ ?_
                  refine NX.sub (env' := [(0, _), (1, _), (5, _), (6, _), (7, _), (8, _), (9, _), (10, _)]) ⟨rfl, rfl, rfl, rfl, rfl, rfl, rfl, rfl, trivial⟩ ?_
                  have hw := w64_id (n := v_45 + 1) (by omega) (by omega)
                  exact NX.again n48 (v_45 + 1, prime_35) (Nat.lt_succ_self _) ⟨(by rw [hw] <;> rfl), rfl, (fr_dec hnv_45), (by omega), ((hnx47 _).symm.trans hr)⟩

def syllogistref_Clauses_k3 : Option (Bool) :=
  some true

def syllogistref_Clauses_b7 (a_0 : List Clause) (b_1 : List Clause) (i_6 : Int) (nx8 : Unit → Option (Bool)) : Option (Bool) :=
  (geti a_0 i_6).bind fun y10 =>
  (geti b_1 i_6).bind fun y12 =>
  (bif (!((y10.yes == y12.yes) && ((y10.no == y12.no) && true))) then
  some false
  else
  nx8 ())

def syllogistref_Clauses (a_0 : List Clause) (b_1 : List Clause) : Option (Bool) :=
  (bif ((a_0.length : Int) != (b_1.length : Int)) then
  some false
  else
  forK (σ := Unit) (fun i s nx_ => syllogistref_Clauses_b7 a_0 b_1 i nx_) (fun _ => syllogistref_Clauses_k3) ((a_0.length : Int) - (0 : Int)).toNat (0 : Int) ())

set_option maxRecDepth 100000 in
set_option maxHeartbeats 4000000 in
theorem syllogistref_Clauses_ok (w0 : World) (m : Snap) (l : List HI) (ua_0 : Value) (a_0 : List Clause) (ha_0 : RS rClause m ua_0 a_0) (ub_1 : Value) (b_1 : List Clause) (hb_1 : RS rClause m ub_1 b_1) (r : Bool) (hr : syllogistref_Clauses a_0 b_1 = some r) (w : World) (hc : cX w0 ⟨m, l⟩ w) :
    Calls Try.prog 6 [ua_0, ub_1].toArray w fun e w' => e = .returned (.bool r) ∧ cX w0 ⟨m, l⟩ w' := by
  unfold syllogistref_Clauses at hr
  refine calls_of_Tr (N := 26) Try.func6 rfl hc rfl (Nat.le_of_ble_eq_true rfl) ?_
  refine Tr.seq ?_
  refine Tr.region_f (fun _ => false) ?_
  refine W.q rfl rfl rfl rfl (by decide) (Yd.as rfl .c) ?_
  refine W.end ?_
  refine NX.sub (env' := [(0, _), (1, _)]) ⟨rfl, rfl, trivial⟩ ?_
  refine NX.then ?_
  refine Tr.seq ?_
  refine Tr.seq ?_
  refine Tr.region_f (fun _ => false) ?_
  refine W.q rfl rfl rfl rfl (by decide) (Yd.mv rfl (.t rfl)) ?_
  refine W.q rfl rfl rfl rfl (by decide) (Yd.lenR ha_0 rfl Try.underlying23 (.t rfl)) ?_
  refine W.q rfl rfl rfl rfl (by decide) (Yd.mv rfl (.t rfl)) ?_
  refine W.q rfl rfl rfl rfl (by decide) (Yd.lenR hb_1 rfl Try.underlying23 (.t rfl)) ?_
  refine W.q rfl rfl rfl rfl (by decide) (Yd.neq rfl (.t rfl) (.t rfl)) ?_
  refine W.end ?_
  refine NX.sub (env' := [(0, _), (1, _), (10, _)]) ⟨rfl, rfl, rfl, trivial⟩ ?_
  refine NX.then ?_
  refine Tr.cond (.t rfl) (fun hb => ?_) (fun hb => ?_)
  · have hr := cond_t hb hr
    refine Tr.seq ?_
    refine Tr.region_f (fun _ => false) ?_
    refine W.q rfl rfl rfl rfl (by decide) (Yd.as rfl .c) ?_
    refine W.end ?_
    refine NX.sub (env' := [(4, _)]) ⟨rfl, trivial⟩ ?_
    refine NX.then ?_
    refine Tr.ret' (RT.then ?_)
    refine res1 rfl rfl ?_
    intro w hc
    cases hr
    exact ⟨rfl, hc⟩
  · have hr := cond_f hb hr
    refine Tr.skip' ?_
    refine NX.then ?_
    refine Tr.seq ?_
    refine Tr.seq ?_
    refine Tr.region_f (fun _ => false) ?_
    refine W.q rfl rfl rfl rfl (by decide) (Yd.as rfl .c) ?_
    refine W.end ?_
    refine NX.sub (env' := [(0, _), (1, _), (5, _)]) ⟨rfl, rfl, rfl, trivial⟩ ?_
    refine NX.then ?_
    refine Tr.join (S := fun env x => env = [] ∧ x = ⟨m, l⟩ ∧ syllogistref_Clauses_k3 = some r) ?_ (fun hk4 => ?_)
    · rintro _ _ ⟨rfl, rfl, hr⟩
      unfold syllogistref_Clauses_k3 at hr
      try dsimp only at hr
      refine NX.then ?_
      refine Tr.seq ?_
      refine Tr.region_f (fun _ => false) ?_
      refine W.q rfl rfl rfl rfl (by decide) (Yd.as rfl .c) ?_
      refine W.end ?_
      refine NX.sub (env' := [(4, _)]) ⟨rfl, trivial⟩ ?_
      refine NX.then ?_
      refine Tr.ret' ?_
      refine res1 rfl rfl ?_
      intro w hc
      cases hr
      exact ⟨rfl, hc⟩
    have hlen5 := (ha_0).2.1
    refine Tr.block ?_
    refine Tr.sub (env' := [(0, _), (1, _), (5, _)]) ⟨rfl, rfl, rfl, trivial⟩ ?_
    refine Tr.loop (S := fun n (z : Int × Unit) env x => match z with | (i_6, _) => env = [(0, ua_0), (1, ub_1), (5, .int .i64 i_6)] ∧ x = ⟨m, l⟩ ∧ n = ((a_0.length : Int) - i_6).toNat ∧ 0 ≤ i_6 ∧ forK (σ := Unit) (fun i s nx_ => syllogistref_Clauses_b7 a_0 b_1 i nx_) (fun _ => syllogistref_Clauses_k3) n i_6 () = some r) _ ((0 : Int), ()) ⟨rfl, rfl, rfl, (by omega), hr⟩ ?_
    rintro n9 ⟨i_6, _⟩ env x ⟨rfl, rfl, hni_6, h0i_6, hr⟩
    cases n9 with
    | zero =>
      simp only [forK] at hr
      refine Tr.seq ?_
      refine Tr.seq ?_
      refine Tr.region_f (fun _ => false) ?_
      refine W.q rfl rfl rfl rfl (by decide) (Yd.mv rfl (.t rfl)) ?_
      refine W.q rfl rfl rfl rfl (by decide) (Yd.mv rfl (.t rfl)) ?_
      refine W.q rfl rfl rfl rfl (by decide) (Yd.lenR ha_0 rfl Try.underlying23 (.t rfl)) ?_
      refine W.q rfl rfl rfl rfl (by decide) (Yd.lss rfl (.t rfl) (.t rfl)) ?_
      refine W.end ?_
      refine NX.sub (env' := [(0, _), (1, _), (5, _), (14, _)]) ⟨rfl, rfl, rfl, rfl, trivial⟩ ?_
      refine NX.then ?_
      refine Tr.cond (.t rfl) (fun hb => ?_) (fun hb => ?_)
      · exact absurd (hb.symm.trans (fr_end hni_6)) (by decide)
      ·
        refine Tr.exit' (EX.then (EX.then (EX.block ?_)))
        refine NX.sub (env' := []) trivial ?_
        exact hk4 _ _ ⟨rfl, rfl, hr⟩
    | succ n9 =>
      obtain ⟨nx8, hnx8, hr⟩ := forK_succ hr
      try dsimp only at hr
      unfold syllogistref_Clauses_b7 at hr
      try dsimp only at hr
      have hlti_6 := fr_bnd hni_6
      refine Tr.seq ?_
      refine Tr.seq ?_
      refine Tr.region_f (fun _ => false) ?_
      refine W.q rfl rfl rfl rfl (by decide) (Yd.mv rfl (.t rfl)) ?_
      refine W.q rfl rfl rfl rfl (by decide) (Yd.mv rfl (.t rfl)) ?_
      refine W.q rfl rfl rfl rfl (by decide) (Yd.lenR ha_0 rfl Try.underlying23 (.t rfl)) ?_
      refine W.q rfl rfl rfl rfl (by decide) (Yd.lss rfl (.t rfl) (.t rfl)) ?_
      refine W.end ?_
      refine NX.sub (env' := [(0, _), (1, _), (5, _), (14, _)]) ⟨rfl, rfl, rfl, rfl, trivial⟩ ?_
      refine NX.then ?_
      refine Tr.cond (.t rfl) (fun hb => ?_) (fun hb => ?_)
      rotate_left
      · exact absurd (hb.symm.trans (fr_go hni_6)) (by decide)
      ·
        refine Tr.skip' ?_
        refine NX.then ?_
        refine Tr.seq ?_
        refine Tr.block ?_
        refine Tr.seq ?_
        obtain ⟨y10, hy11, hr⟩ := bind_some hr
        obtain ⟨y12, hy13, hr⟩ := bind_some hr
        refine Tr.region_x (fun _ => false) (fun _ => false) (Ord.of [0, 1, 2, 3, 4, 5, 6, 7, 8]) FM (by kernel_rfl) ?_
        refine W.q rfl rfl rfl rfl (by decide) (Yd.mv rfl (.t rfl)) ?_
        refine W.q rfl rfl rfl rfl (by decide) (Yd.mv rfl (.t rfl)) ?_
        refine W.q rfl rfl rfl rfl (by decide) (Yd.idxR ha_0 hy11 rfl Try.underlying23 SZ34 (.t rfl) (.t rfl)) ?_
        refine W.q rfl rfl rfl rfl (by decide) (Yd.ldFs (us := [_, _]) ha_0 (.refl _) hy11 rfl rfl ON34 US34 SZ34 (.t rfl)) ?_
        refine W.q rfl rfl rfl rfl (by decide) (Yd.mv rfl (.t rfl)) ?_
        refine W.q rfl rfl rfl rfl (by decide) (Yd.mv rfl (.t rfl)) ?_
        refine W.q rfl rfl rfl rfl (by decide) (Yd.idxR hb_1 hy13 rfl Try.underlying23 SZ34 (.t rfl) (.t rfl)) ?_
        refine W.q rfl rfl rfl rfl (by decide) (Yd.ldFs (us := [_, _]) hb_1 (.refl _) hy13 rfl rfl ON34 US34 SZ34 (.t rfl)) ?_
        refine W.q rfl rfl rfl rfl (by decide) (Yd.neA rfl GU34 (fun w => ne_of_eq (EQ34 w y10.yes y10.no y12.yes y12.no)) (.t rfl) (.t rfl)) ?_
        refine W.end ?_
        refine NX.sub (env' := [(0, _), (1, _), (5, _), (25, _)]) ⟨rfl, rfl, rfl, rfl, trivial⟩ ?_
        refine NX.then ?_
        refine Tr.cond (.t rfl) (fun hb => ?_) (fun hb => ?_)
        · have hr := cond_t hb hr
          refine Tr.seq ?_
          refine Tr.region_f (fun _ => false) ?_
          refine W.q rfl rfl rfl rfl (by decide) (Yd.as rfl .c) ?_
          refine W.end ?_
          refine NX.sub (env' := [(4, _)]) ⟨rfl, trivial⟩ ?_
          refine NX.then ?_
          refine Tr.ret' (RT.block (RT.then (RT.then (RT.block (RT.then ?_)))))
          refine res1 rfl rfl ?_
          intro w hc
          cases hr
          exact ⟨rfl, hc⟩
        · have hr := cond_f hb hr
          refine Tr.skip' ?_
          refine NX.block ?_
          refine NX.then ?_
          refine Tr.region_f (fun _ => false) ?_
          refine W.q rfl rfl rfl rfl (by decide) (Yd.mv rfl (.t rfl)) ?_
          refine W.q rfl rfl rfl rfl (by decide) (Yd.add rfl (.t rfl) .c) ?_
          refine W.q rfl rfl rfl rfl (by decide) (Yd.as rfl (.t rfl)) ?_
          refine W.end ?_
          refine NX.sub (env' := [(0, _), (1, _), (5, _)]) ⟨rfl, rfl, rfl, trivial⟩ ?_
          refine NX.sub (env' := [(0, _), (1, _), (5, _)]) ⟨rfl, rfl, rfl, trivial⟩ ?_
          have hw := w64_id (n := i_6 + 1) (by omega) (by omega)
          exact NX.again n9 (i_6 + 1, ()) (Nat.lt_succ_self _) ⟨(by rw [hw] <;> rfl), rfl, (fr_dec hni_6), (by omega), ((hnx8 _).symm.trans hr)⟩

def syllogistlaw_TruthPrimes (fuel : Nat) (n_0 : Int) (f_1 : List Bool) : Option (Bool) :=
  (truth_Primes fuel n_0 f_1).bind fun r1 =>
  (syllogistref_TruthCheck n_0 f_1).bind fun r5 =>
  (bif (r5 != (0 : Int)) then
  some (((r1.2 == r5) && ((r1.1.length : Int) == (0 : Int))))
  else
  (bif ((r1.2 == (0 : Int)) == true) then
  (syllogistref_Primes n_0 f_1).bind fun r8 =>
  (syllogistref_Clauses r1.1 r8).bind fun r12 =>
  some (((r1.2 == (0 : Int)) && r12))
  else
  some (((r1.2 == (0 : Int)) && false))))

set_option maxRecDepth 100000 in
set_option maxHeartbeats 4000000 in
theorem syllogistlaw_TruthPrimes_ok (w0 : World) (m : Snap) (l : List HI) (fuel : Nat) (n_0 : Int) (uf_1 : Value) (f_1 : List Bool) (hf_1 : RS rB m uf_1 f_1) (r : Bool) (hr : syllogistlaw_TruthPrimes fuel n_0 f_1 = some r) (w : World) (hc : cX w0 ⟨m, l⟩ w) :
    Calls Try.prog 3 [.int .i64 n_0, uf_1].toArray w fun e w' => e = .returned (.bool r) ∧ cX w0 ⟨m, l⟩ w' := by
  unfold syllogistlaw_TruthPrimes at hr
  refine calls_of_Tr (N := 36) Try.func3 rfl hc rfl (Nat.le_of_ble_eq_true rfl) ?_
  refine Tr.seq ?_
  refine Tr.region_f (fun _ => false) ?_
  refine W.q rfl rfl rfl rfl (by decide) (Yd.as rfl .c) ?_
  refine W.end ?_
  refine NX.sub (env' := [(0, _), (1, _)]) ⟨rfl, rfl, trivial⟩ ?_
  refine NX.then ?_
  refine Tr.seq ?_
  obtain ⟨r1, hr2, hr⟩ := bind_some hr
  refine Tr.region_f (fun i => Nat.beq i 2) ?_
  refine W.q rfl rfl rfl rfl (by decide) (Yd.mv rfl (.t rfl)) ?_
  refine W.q rfl rfl rfl rfl (by decide) (Yd.mv rfl (.t rfl)) ?_
  refine W.e rfl rfl rfl rfl (by decide) (Ef.call (R := fun z x' => ∃ v3 : Value, z = .tuple #[v3, .int .i64 r1.2] ∧ x' = ⟨m, hownT 34 2 Clause.enc v3 r1.1 :: l⟩) rfl Try.func4 rfl rfl (.cons (.t rfl) (.cons (.t rfl) .nil)) (fun w hw => (truth_Primes_ok w0 _ _ fuel n_0 _ _ hf_1 _ hr2 w hw).mono fun e w' ⟨v3, he, hc'⟩ => ⟨_, _, he, ⟨v3, rfl, rfl⟩, hc'⟩)) ?_
  rintro _ _ ⟨v3, rfl, rfl⟩
  refine ⟨.inl rfl, ?_⟩
  refine W.cast (m' := m) (l' := hownT 34 2 Clause.enc v3 _ :: l) rfl rfl ?_
  refine W.q rfl rfl rfl rfl (by decide) (Yd.mv rfl (.t rfl)) ?_
  refine W.q rfl rfl rfl rfl (by decide) (Yd.ext rfl (.t rfl) rfl) ?_
  refine W.q rfl rfl rfl rfl (by decide) (Yd.ext rfl (.t rfl) rfl) ?_
  refine W.q rfl rfl rfl rfl (by decide) (Yd.as rfl (.t rfl)) ?_
  refine W.q rfl rfl rfl rfl (by decide) (Yd.as rfl (.t rfl)) ?_
  refine W.end ?_
  refine NX.sub (env' := [(0, _), (1, _), (5, _), (6, _)]) ⟨rfl, rfl, rfl, rfl, trivial⟩ ?_
  refine NX.then ?_
  refine Tr.seq ?_
  obtain ⟨r5, hr6, hr⟩ := bind_some hr
  refine Tr.region_f (fun _ => false) ?_
  refine W.q rfl rfl rfl rfl (by decide) (Yd.mv rfl (.t rfl)) ?_
  refine W.q rfl rfl rfl rfl (by decide) (Yd.mv rfl (.t rfl)) ?_
  refine W.q rfl rfl rfl rfl (by decide) (Yd.call (v := .int .i64 r5) rfl Try.func5 rfl rfl (.cons (.t rfl) (.cons (.t rfl) .nil)) (fun x' hx w hw => syllogistref_TruthCheck_ok w0 x'.m x'.l n_0 _ _ (hf_1.mono hx.1) _ hr6 w hw)) ?_
  refine W.q rfl rfl rfl rfl (by decide) (Yd.as rfl (.t rfl)) ?_
  refine W.end ?_
  refine NX.sub (env' := [(0, _), (1, _), (5, _), (6, _), (7, _)]) ⟨rfl, rfl, rfl, rfl, rfl, trivial⟩ ?_
  refine NX.then ?_
  refine Tr.seq ?_
  refine Tr.seq ?_
  refine Tr.region_f (fun _ => false) ?_
  refine W.q rfl rfl rfl rfl (by decide) (Yd.mv rfl (.t rfl)) ?_
  refine W.q rfl rfl rfl rfl (by decide) (Yd.neq rfl (.t rfl) .c) ?_
  refine W.end ?_
  refine NX.sub (env' := [(0, _), (1, _), (5, _), (6, _), (7, _), (18, _)]) ⟨rfl, rfl, rfl, rfl, rfl, rfl, trivial⟩ ?_
  refine NX.then ?_
  refine Tr.cond (.t rfl) (fun hb => ?_) (fun hb => ?_)
  · have hr := cond_t hb hr
    refine Tr.seq ?_
    refine Tr.region_f (fun _ => false) ?_
    refine W.q rfl rfl rfl rfl (by decide) (Yd.mv rfl (.t rfl)) ?_
    refine W.q rfl rfl rfl rfl (by decide) (Yd.mv rfl (.t rfl)) ?_
    refine W.q rfl rfl rfl rfl (by decide) (Yd.eql rfl (.t rfl) (.t rfl)) ?_
    refine W.q rfl rfl rfl rfl (by decide) (Yd.mv rfl (.t rfl)) ?_
    refine W.g rfl rfl rfl rfl rfl (.t rfl _) rfl (by decide) (fun hG => Yd.mv rfl (.t rfl)) ?_
    refine W.g rfl rfl rfl rfl rfl (.t rfl _) rfl (by decide) (fun hG => Yd.lenO (p := 0) rfl rfl Try.underlying23 (.g rfl hG)) ?_
    refine W.g rfl rfl rfl rfl rfl (.t rfl _) rfl (by decide) (fun hG => Yd.eql rfl (.g rfl hG) .c) ?_
    refine W.q rfl rfl rfl rfl (by decide) (Yd.and rfl (.t rfl) .c rfl rfl) ?_
    refine W.q rfl rfl rfl rfl (by decide) (Yd.as rfl (.t rfl)) ?_
    refine W.end ?_
    refine NX.sub (env' := [(4, _)]) ⟨rfl, trivial⟩ ?_
    refine NX.drop (l' := l) (.cons _ (.refl _)) ?_
    refine NX.then ?_
    refine Tr.ret' (RT.then ?_)
    refine res1 rfl rfl ?_
    intro w hc
    cases hr
    exact ⟨rfl, hc⟩
  · have hr := cond_f hb hr
    refine Tr.skip' ?_
    refine NX.then ?_
    refine Tr.seq ?_
    refine Tr.region_f (fun i => Nat.beq i 6) ?_
    refine W.q rfl rfl rfl rfl (by decide) (Yd.mv rfl (.t rfl)) ?_
    refine W.q rfl rfl rfl rfl (by decide) (Yd.eql rfl (.t rfl) .c) ?_
    refine W.q rfl rfl rfl rfl (by decide) (Yd.mv rfl (.t rfl)) ?_
    refine W.g rfl rfl rfl rfl rfl (.t rfl _) rfl (by decide) (fun hG => Yd.mv rfl (.t rfl)) ?_
    refine W.g rfl rfl rfl rfl rfl (.t rfl _) rfl (by decide) (fun hG => Yd.mv rfl (.t rfl)) ?_
    refine W.g rfl rfl rfl rfl rfl (.t rfl _) rfl (by decide) (fun hG => Yd.mv rfl (.t rfl)) ?_
    refine W.split (b := ((r1.2 == (0 : Int)) == true)) (fun hb7 => ?_) (fun hb7 => ?_)
    · have hr := cond_t hb7 hr
      obtain ⟨r8, hr9, hr⟩ := bind_some hr
      obtain ⟨r12, hr13, hr⟩ := bind_some hr
      refine W.ge rfl rfl rfl rfl rfl (.t rfl _) hb7 rfl (by decide) (Ef.call (R := fun z x' => ∃ v10 : Value, z = v10 ∧ x' = ⟨m, hownT 34 2 Clause.enc v10 r8 :: hownT 34 2 Clause.enc v3 r1.1 :: l⟩) rfl Try.func7 rfl rfl (.cons (.g rfl hb7) (.cons (.g rfl hb7) .nil)) (fun w hw => (syllogistref_Primes_ok w0 _ _ n_0 _ _ hf_1 _ hr9 w hw).mono fun e w' ⟨v10, he, hc'⟩ => ⟨_, _, he, ⟨v10, rfl, rfl⟩, hc'⟩)) ?_
      rintro v10 _ ⟨_, rfl, rfl⟩
      refine ⟨.inl rfl, ?_⟩
      refine W.cast (m' := m) (l' := hownT 34 2 Clause.enc v10 _ :: hownT 34 2 Clause.enc v3 _ :: l) rfl rfl ?_
      refine W.g rfl rfl rfl rfl rfl (.t rfl _) rfl (by decide) (fun hG => Yd.call (v := .bool r12) rfl Try.func6 rfl rfl (.cons (.g rfl hb7) (.cons (.t rfl) .nil)) (by intro x' hx w hw; obtain ⟨p0, p1, hp0, hp1⟩ := hx.at2 (a := 1) (b := 0) rfl rfl rfl; obtain ⟨m1, hm1, hc1, ⟨L1, hl0a, hl0b'⟩, hback1⟩ := cX_lend hw hp0 lone_own; obtain ⟨m2, hm2', hc2, ⟨L2, hl1a, hl1b⟩, hback2⟩ := cX_lend hc1 hp1 lone_own; have hm2 := hm1.trans hm2'; have hl0b : ∀ q ∈ L1, m2 q.1 = some q.2 := fun q hq => hm2' _ _ (hl0b' q hq); have hL1 : RS rClause m2 _ _ := RS_of_own hl0a hl0b; have hL2 : RS rClause m2 _ _ := RS_of_own hl1a hl1b; exact (syllogistref_Clauses_ok w0 m2 _ _ _ hL1 _ _ hL2 _ hr13 w hc2).mono fun e w' ⟨he, hc'⟩ => ⟨he, (hback1 m1 _ _ w' (.refl _) hp0).2 ((hback2 m2 _ _ w' (.refl _) hp1).2 hc')⟩)) ?_
      refine W.q rfl rfl rfl rfl (by decide) (Yd.and rfl (.t rfl) .c rfl rfl) ?_
      refine W.q rfl rfl rfl rfl (by decide) (Yd.as rfl (.t rfl)) ?_
      refine W.end ?_
      refine NX.sub (env' := [(4, _)]) ⟨rfl, trivial⟩ ?_
      refine NX.drop (l' := l) (.cons _ (.cons _ (.refl _))) ?_
      refine NX.then ?_
      refine Tr.ret' ?_
      refine res1 rfl rfl ?_
      intro w hc
      cases hr
      exact ⟨rfl, hc⟩
    · have hr := cond_f hb7 hr
      refine W.gF rfl rfl rfl rfl (.t rfl _) hb7 rfl (by decide) (undef) ?_
      refine W.gF rfl rfl rfl rfl (.t rfl _) hb7 rfl (by decide) (.bool false) ?_
      refine W.q rfl rfl rfl rfl (by decide) (Yd.and rfl (.t rfl) .c rfl rfl) ?_
      refine W.q rfl rfl rfl rfl (by decide) (Yd.as rfl (.t rfl)) ?_
      refine W.end ?_
      refine NX.sub (env' := [(4, _)]) ⟨rfl, trivial⟩ ?_
      refine NX.drop (l' := l) (.cons _ (.refl _)) ?_
      refine NX.then ?_
      refine Tr.ret' ?_
      refine res1 rfl rfl ?_
      intro w hc
      cases hr
      exact ⟨rfl, hc⟩
end Go.Proofs.Ytkdhckiljfjanaa.Sy
