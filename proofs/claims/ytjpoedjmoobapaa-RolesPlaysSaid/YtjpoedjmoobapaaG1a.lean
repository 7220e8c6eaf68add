/- Functions of the program as plain functions, and that the translation computes them; the conditions stand in each theorem. Printed by an own program. -/
import Derived.Test.YtjpoedjmoobapaaSyU
import Derived.Test.YtjpoedjmoobapaaT
import Derived.Test.YtjpoedjmoobapaaProg
namespace Go.Proofs.Ytjpoedjmoobapaa.Sy
open Go
set_option linter.unusedVariables false
theorem IF31 : (Try.prog.info? 31).map (fun i => (i.zero, i.size, i.bytes)) = some (some (.int .u32 0), 1, 4) := by kernel_rfl
theorem SZ31 : (Try.prog.info? 31).map (·.size) = some 1 := by kernel_rfl
theorem SZ76 : (Try.prog.info? 76).map (·.size) = some 2 := by kernel_rfl
theorem ON76 : one Try.prog 76 = false := by kernel_rfl
theorem US76 : (Try.prog.underlying 76).isSome = true := by kernel_rfl
theorem ZR76 : (Try.prog.info? 76).bind (·.zero) = some (.agg #[.int .i64 0, .int .i64 0]) := by kernel_rfl
theorem SZ3 : (Try.prog.info? 3).map (·.size) = some 1 := by kernel_rfl
theorem ON3 : one Try.prog 3 = true := by kernel_rfl
theorem ON31 : one Try.prog 31 = true := by kernel_rfl
def tbl1024256 : List (BitVec 8) := [0#8, 1#8, 1#8, 2#8, 1#8, 2#8, 2#8, 3#8, 1#8, 2#8, 2#8, 3#8, 2#8, 3#8, 3#8, 4#8, 1#8, 2#8, 2#8, 3#8, 2#8, 3#8, 3#8, 4#8, 2#8, 3#8, 3#8, 4#8, 3#8, 4#8, 4#8, 5#8, 1#8, 2#8, 2#8, 3#8, 2#8, 3#8, 3#8, 4#8, 2#8, 3#8, 3#8, 4#8, 3#8, 4#8, 4#8, 5#8, 2#8, 3#8, 3#8, 4#8, 3#8, 4#8, 4#8, 5#8, 3#8, 4#8, 4#8, 5#8, 4#8, 5#8, 5#8, 6#8, 1#8, 2#8, 2#8, 3#8, 2#8, 3#8, 3#8, 4#8, 2#8, 3#8, 3#8, 4#8, 3#8, 4#8, 4#8, 5#8, 2#8, 3#8, 3#8, 4#8, 3#8, 4#8, 4#8, 5#8, 3#8, 4#8, 4#8, 5#8, 4#8, 5#8, 5#8, 6#8, 2#8, 3#8, 3#8, 4#8, 3#8, 4#8, 4#8, 5#8, 3#8, 4#8, 4#8, 5#8, 4#8, 5#8, 5#8, 6#8, 3#8, 4#8, 4#8, 5#8, 4#8, 5#8, 5#8, 6#8, 4#8, 5#8, 5#8, 6#8, 5#8, 6#8, 6#8, 7#8, 1#8, 2#8, 2#8, 3#8, 2#8, 3#8, 3#8, 4#8, 2#8, 3#8, 3#8, 4#8, 3#8, 4#8, 4#8, 5#8, 2#8, 3#8, 3#8, 4#8, 3#8, 4#8, 4#8, 5#8, 3#8, 4#8, 4#8, 5#8, 4#8, 5#8, 5#8, 6#8, 2#8, 3#8, 3#8, 4#8, 3#8, 4#8, 4#8, 5#8, 3#8, 4#8, 4#8, 5#8, 4#8, 5#8, 5#8, 6#8, 3#8, 4#8, 4#8, 5#8, 4#8, 5#8, 5#8, 6#8, 4#8, 5#8, 5#8, 6#8, 5#8, 6#8, 6#8, 7#8, 2#8, 3#8, 3#8, 4#8, 3#8, 4#8, 4#8, 5#8, 3#8, 4#8, 4#8, 5#8, 4#8, 5#8, 5#8, 6#8, 3#8, 4#8, 4#8, 5#8, 4#8, 5#8, 5#8, 6#8, 4#8, 5#8, 5#8, 6#8, 5#8, 6#8, 6#8, 7#8, 3#8, 4#8, 4#8, 5#8, 4#8, 5#8, 5#8, 6#8, 4#8, 5#8, 5#8, 6#8, 5#8, 6#8, 6#8, 7#8, 4#8, 5#8, 5#8, 6#8, 5#8, 6#8, 6#8, 7#8, 5#8, 6#8, 6#8, 7#8, 6#8, 7#8, 7#8, 8#8]
theorem US5 : (Try.prog.underlying 5).isSome = true := by kernel_rfl
structure T70 where
  up : List (BitVec 32)
  odds : List (BitVec 32)
  roles : Roles
def P70 (m : Snap) (z : Value) : Option T70 → Prop
  | none => z = .pointer none
  | some x => ∃ (b : Nat) (u0 u1 u2 u3 u4 : Value), z = bp b 0 ∧ Bk m b 70 [u0, u1, u2, u3, u4] ∧ RS rU m u0 x.up ∧ RS rU m u1 x.odds ∧ RS rI m u2 x.roles.codes ∧ RS rU m u3 x.roles.given ∧ RS rU m u4 x.roles.play
theorem P70.mono {m m' : Snap} {z : Value} {o : Option T70} (hm : Sle m m') (h : P70 m z o) : P70 m' z o := by
  cases o with
  | none => exact h
  | some x =>
    obtain ⟨b, u0, u1, u2, u3, u4, hz, hb, h0, h1, h2, h3, h4⟩ := h
    exact ⟨b, u0, u1, u2, u3, u4, hz, hb.mono hm, h0.mono hm, h1.mono hm, h2.mono hm, h3.mono hm, h4.mono hm⟩
theorem SZ49 : (Try.prog.info? 49).map (·.size) = some 3 := by kernel_rfl
theorem SZ22 : (Try.prog.info? 22).map (·.size) = some 1 := by kernel_rfl
theorem ON22 : one Try.prog 22 = true := by kernel_rfl
theorem ZR31 : (Try.prog.info? 31).bind (·.zero) = some (.int .u32 0) := by kernel_rfl
theorem ZR49 : (Try.prog.info? 49).bind (·.zero) = some (.agg #[.slice none 0 0, .slice none 0 0, .slice none 0 0]) := by kernel_rfl
theorem ZI49 : (Try.prog.info? 49).bind (·.zero) = some (.agg #[.slice none 0 0, .slice none 0 0, .slice none 0 0]) := by kernel_rfl
theorem PL49 : plS Try.prog 49 = some [(0, 1), (1, 1), (2, 1)] := by kernel_rfl
theorem ON49 : one Try.prog 49 = false := by kernel_rfl
theorem US49 : (Try.prog.underlying 49).isSome = true := by kernel_rfl
theorem ZI70 : (Try.prog.info? 70).bind (·.zero) = some (.agg #[.slice none 0 0, .slice none 0 0, .slice none 0 0, .slice none 0 0, .slice none 0 0]) := by kernel_rfl
theorem PL70 : plS Try.prog 70 = some [(0, 1), (1, 1), (2, 3)] := by kernel_rfl
theorem SZ74 : (Try.prog.info? 74).map (·.size) = some 6 := by kernel_rfl
theorem ON74 : one Try.prog 74 = false := by kernel_rfl
theorem US74 : (Try.prog.underlying 74).isSome = true := by kernel_rfl
theorem ZR74 : (Try.prog.info? 74).bind (·.zero) = some (.agg #[.int .i64 0, .int .i64 0, .int .i64 0, .int .i64 0, .int .u32 0, .int .i64 0]) := by kernel_rfl
theorem SZ47 : (Try.prog.info? 47).map (·.size) = some 1 := by kernel_rfl
theorem ON47 : one Try.prog 47 = true := by kernel_rfl
theorem IF23 : (Try.prog.info? 23).map (fun i => (i.zero, i.size, i.bytes)) = some (some (.int .i64 0), 1, 8) := by kernel_rfl
theorem IF3 : (Try.prog.info? 3).map (fun i => (i.zero, i.size, i.bytes)) = some (some (.int .i64 0), 1, 8) := by kernel_rfl
theorem US3 : (Try.prog.underlying 3).isSome = true := by kernel_rfl
theorem SZ23 : (Try.prog.info? 23).map (·.size) = some 1 := by kernel_rfl
theorem ON23 : one Try.prog 23 = true := by kernel_rfl
theorem FM : Try.prog.follows .mixedOrders = true := by kernel_rfl

def order_Table_k36 (l30 : List (BitVec 32)) : Option ((List (BitVec 32)) × Int) :=
  some ((l30, (0 : Int)))

def order_Table_k45 (nx41 : (Unit → Option ((List (BitVec 32)) × Int))) : Option ((List (BitVec 32)) × Int) :=
  nx41 ()

def order_Table_b49 (l30 : List (BitVec 32)) (t_39 : Int) (t_48 : Int) (nx50 : Unit → Option ((List (BitVec 32)) × Int)) : Option ((List (BitVec 32)) × Int) :=
  (geti l30 t_39).bind fun y52 =>
  bif (!((((y52 >>> t_48.toNat) &&& 1#32) == 1#32) == true) || (geti l30 t_48).isSome) then
  (bif ((((y52 >>> t_48.toNat) &&& 1#32) == 1#32) && (((((geti l30 t_48).getD (0#32)) >>> t_39.toNat) &&& 1#32) == 1#32)) then
  some (([], (3 : Int)))
  else
  nx50 ()) else none

def order_Table_b40 (l30 : List (BitVec 32)) (t_39 : Int) (nx41 : Unit → Option ((List (BitVec 32)) × Int)) : Option ((List (BitVec 32)) × Int) :=
  bif decide (t_39 ≤ 9223372036854775807) then
  forK (σ := Unit) (fun i s nx_ => order_Table_b49 l30 t_39 i nx_) (fun _ => order_Table_k45 nx41) (t_39 - (0 : Int)).toNat (0 : Int) () else none

def order_Table_k32 (l30 : List (BitVec 32)) : Option ((List (BitVec 32)) × Int) :=
  forK (σ := Unit) (fun i s nx_ => order_Table_b40 l30 i nx_) (fun _ => order_Table_k36 l30) ((l30.length : Int) - (0 : Int)).toNat (0 : Int) ()

def order_Table_k68 (nx58 : ((List (BitVec 32)) → Option ((List (BitVec 32)) × Int))) (l66 : List (BitVec 32)) : Option ((List (BitVec 32)) × Int) :=
  nx58 l66

def order_Table_b72 (t_56 : Int) (t_71 : Int) (l64 : List (BitVec 32)) (nx73 : (List (BitVec 32)) → Option ((List (BitVec 32)) × Int)) : Option ((List (BitVec 32)) × Int) :=
  (geti l64 t_71).bind fun y75 =>
  (bif (((y75 >>> t_56.toNat) &&& 1#32) == 1#32) then
  (geti l64 t_71).bind fun y77 =>
  (geti l64 t_56).bind fun y79 =>
  nx73 (l64.set t_71.toNat ((y77 ||| y79)))
  else
  nx73 l64)

def order_Table_b57 (t_56 : Int) (l28 : List (BitVec 32)) (nx58 : (List (BitVec 32)) → Option ((List (BitVec 32)) × Int)) : Option ((List (BitVec 32)) × Int) :=
  forK (σ := (List (BitVec 32))) (fun i s nx_ => order_Table_b72 t_56 i s nx_) (fun s => order_Table_k68 nx58 s) ((l28.length : Int) - (0 : Int)).toNat (0 : Int) l28

def order_Table_k22 (l20 : List (BitVec 32)) : Option ((List (BitVec 32)) × Int) :=
  forK (σ := (List (BitVec 32))) (fun i s nx_ => order_Table_b57 i s nx_) (fun s => order_Table_k32 s) ((l20.length : Int) - (0 : Int)).toNat (0 : Int) l20

def order_Table_b83 (n_0 : Int) (pairs_1 : List (Int × Int)) (t_82 : Int) (l18 : List (BitVec 32)) (nx84 : (List (BitVec 32)) → Option ((List (BitVec 32)) × Int)) : Option ((List (BitVec 32)) × Int) :=
  (geti pairs_1 t_82).bind fun y86 =>
  (bif ((decide ((if y86.2 < y86.1 then y86.2 else y86.1) < (0 : Int))) || (decide ((if y86.2 > y86.1 then y86.2 else y86.1) ≥ n_0))) then
  some (([], (2 : Int)))
  else
  (geti l18 y86.1).bind fun y90 =>
  bif decide (0 ≤ y86.2) then
  nx84 (l18.set y86.1.toNat ((y90 ||| (1#32 <<< y86.2.toNat)))) else none)

def order_Table_k12 (n_0 : Int) (pairs_1 : List (Int × Int)) (l10 : List (BitVec 32)) : Option ((List (BitVec 32)) × Int) :=
  forK (σ := (List (BitVec 32))) (fun i s nx_ => order_Table_b83 n_0 pairs_1 i s nx_) (fun s => order_Table_k22 s) ((pairs_1.length : Int) - (0 : Int)).toNat (0 : Int) l10

def order_Table_b95 (t_94 : Int) (l8 : List (BitVec 32)) (nx96 : (List (BitVec 32)) → Option ((List (BitVec 32)) × Int)) : Option ((List (BitVec 32)) × Int) :=
  (geti l8 t_94).bind fun y98 =>
  nx96 (l8.set t_94.toNat ((1#32 <<< t_94.toNat)))

def order_Table (n_0 : Int) (pairs_1 : List (Int × Int)) : Option ((List (BitVec 32)) × Int) :=
  (bif (((decide (n_0 < (1 : Int))) || (decide (n_0 > (6 : Int)))) || (decide ((pairs_1.length : Int) > (20 : Int)))) then
  some (([], (1 : Int)))
  else
  bif decide (0 ≤ n_0 ∧ n_0 ≤ 1048576) then
  forK (σ := (List (BitVec 32))) (fun i s nx_ => order_Table_b95 i s nx_) (fun s => order_Table_k12 n_0 pairs_1 s) ((((List.replicate n_0.toNat (0#32))).length : Int) - (0 : Int)).toNat (0 : Int) ((List.replicate n_0.toNat (0#32))) else none)

set_option maxRecDepth 100000 in
set_option maxHeartbeats 4000000 in
theorem order_Table_ok (w0 : World) (m : Snap) (l : List HI) (n_0 : Int) (upairs_1 : Value) (pairs_1 : List (Int × Int)) (hpairs_1 : RS rP m upairs_1 pairs_1) (r : (List (BitVec 32)) × Int) (hr : order_Table n_0 pairs_1 = some r) (w : World) (hc : cX w0 ⟨m, l⟩ w) :
    Calls Try.prog 32 [.int .i64 n_0, upairs_1].toArray w fun e w' => ∃ z0 : Value, e = .returned (.tuple #[z0, .int .i64 r.2]) ∧ cX w0 ⟨m, hownT 31 1 encU z0 r.1 :: l⟩ w' := by
  unfold order_Table at hr
  refine calls_of_Tr (N := 130) Try.func32 rfl hc rfl (Nat.le_of_ble_eq_true rfl) ?_
  refine Tr.seq ?_
  refine Tr.region_f (fun _ => false) ?_
  refine W.q rfl rfl rfl rfl (by decide) (Yd.as rfl .c) ?_
  refine W.q rfl rfl rfl rfl (by decide) (Yd.as rfl .c) ?_
  refine W.end ?_
  refine NX.sub (env' := [(0, _), (1, _)]) ⟨rfl, rfl, trivial⟩ ?_
  refine NX.then ?_
  refine Tr.seq ?_
  refine Tr.seq ?_
  refine Tr.region_f (fun _ => false) ?_
  refine W.q rfl rfl rfl rfl (by decide) (Yd.mv rfl (.t rfl)) ?_
  refine W.q rfl rfl rfl rfl (by decide) (Yd.lss rfl (.t rfl) .c) ?_
  refine W.q rfl rfl rfl rfl (by decide) (Yd.mv rfl (.t rfl)) ?_
  refine W.g rfl rfl rfl rfl rfl (.t rfl _) rfl (by decide) (fun hG => Yd.mv rfl (.t rfl)) ?_
  refine W.g rfl rfl rfl rfl rfl (.t rfl _) rfl (by decide) (fun hG => Yd.gtr rfl (.g rfl hG) .c) ?_
  refine W.q rfl rfl rfl rfl (by decide) (Yd.or rfl (.t rfl) .c rfl rfl) ?_
  refine W.q rfl rfl rfl rfl (by decide) (Yd.mv rfl (.t rfl)) ?_
  refine W.g rfl rfl rfl rfl rfl (.t rfl _) rfl (by decide) (fun hG => Yd.mv rfl (.t rfl)) ?_
  refine W.g rfl rfl rfl rfl rfl (.t rfl _) rfl (by decide) (fun hG => Yd.lenR hpairs_1 rfl Try.underlying45 (.g rfl hG)) ?_
  refine W.g rfl rfl rfl rfl rfl (.t rfl _) rfl (by decide) (fun hG => Yd.gtr rfl (.g rfl hG) .c) ?_
  refine W.q rfl rfl rfl rfl (by decide) (Yd.or rfl (.t rfl) .c rfl rfl) ?_
  refine W.end ?_
  refine NX.sub (env' := [(0, _), (1, _), (24, _)]) ⟨rfl, rfl, rfl, trivial⟩ ?_
  refine NX.then ?_
  refine Tr.cond (.t rfl) (fun hb => ?_) (fun hb => ?_)
  · have hr := cond_t hb hr
    refine Tr.seq ?_
    refine Tr.region_f (fun _ => false) ?_
    refine W.q rfl rfl rfl rfl (by decide) (Yd.as rfl .c) ?_
    refine W.q rfl rfl rfl rfl (by decide) (Yd.as rfl .c) ?_
    refine W.end ?_
    refine NX.sub (env' := [(4, _), (5, _)]) ⟨rfl, rfl, trivial⟩ ?_
    refine NX.then ?_
    refine Tr.ret' (RT.then ?_)
    refine res2 rfl rfl rfl ?_
    intro w hc
    cases hr
    exact ⟨_, rfl, (cX_nil hc)⟩
  · have hr := cond_f hb hr
    refine Tr.skip' ?_
    refine NX.then ?_
    refine Tr.seq ?_
    obtain ⟨hq1, hr⟩ := guard_some hr; replace hq1 := of_decide_eq_true hq1
    refine Tr.region_f (fun i => Nat.beq i 1) ?_
    refine W.q rfl rfl rfl rfl (by decide) (Yd.mv rfl (.t rfl)) ?_
    refine W.e rfl rfl rfl rfl (by decide) (Ef.mkT (enc := encU) (0#32) IF31 rfl Try.underlying22 rfl rfl (by decide) (.t rfl) (.t rfl) (by omega) (by omega) (by omega)) ?_
    rintro v2 _ rfl
    refine ⟨.inl rfl, ?_⟩
    refine W.cast (m' := m) (l' := hownT 31 1 encU v2 _ :: l) rfl rfl ?_
    refine W.q rfl rfl rfl rfl (by decide) (Yd.as rfl (.t rfl)) ?_
    refine W.end ?_
    refine NX.sub (env' := [(0, _), (1, _), (6, _)]) ⟨rfl, rfl, rfl, trivial⟩ ?_
    refine NX.then ?_
    refine Tr.seq ?_
    refine Tr.seq ?_
    refine Tr.region_f (fun _ => false) ?_
    refine W.q rfl rfl rfl rfl (by decide) (Yd.mv rfl (.t rfl)) ?_
    refine W.q rfl rfl rfl rfl (by decide) (Yd.lenO (p := 0) rfl rfl Try.underlying22 (.t rfl)) ?_
    refine W.q rfl rfl rfl rfl (by decide) (Yd.mv rfl .c) ?_
    refine W.end ?_
    refine NX.sub (env' := [(0, _), (1, _), (6, _), (28, _), (29, _)]) ⟨rfl, rfl, rfl, rfl, rfl, trivial⟩ ?_
    refine NX.then ?_
    refine Tr.join (S := fun env x => ∃ l10 : List (BitVec 32), ∃ v11 : Value, env = [(0, .int .i64 n_0), (1, upairs_1), (6, v11)] ∧ x = ⟨m, hownT 31 1 encU v11 l10 :: l⟩ ∧ order_Table_k12 n_0 pairs_1 l10 = some r) ?_ (fun hk13 => ?_)
    · rintro _ _ ⟨l10, v11, rfl, rfl, hr⟩
      unfold order_Table_k12 at hr
      try dsimp only at hr
      refine NX.then ?_
      refine Tr.seq ?_
      refine Tr.seq ?_
      refine Tr.region_f (fun _ => false) ?_
      refine W.q rfl rfl rfl rfl (by decide) (Yd.mv rfl (.t rfl)) ?_
      refine W.q rfl rfl rfl rfl (by decide) (Yd.lenR hpairs_1 rfl Try.underlying45 (.t rfl)) ?_
      refine W.q rfl rfl rfl rfl (by decide) (Yd.mv rfl .c) ?_
      refine W.end ?_
      refine NX.sub (env' := [(0, _), (6, _), (38, _), (39, _), (40, _)]) ⟨rfl, rfl, rfl, rfl, rfl, trivial⟩ ?_
      refine NX.then ?_
      refine Tr.join (S := fun env x => ∃ l20 : List (BitVec 32), ∃ v21 : Value, env = [(6, v21)] ∧ x = ⟨m, hownT 31 1 encU v21 l20 :: l⟩ ∧ order_Table_k22 l20 = some r) ?_ (fun hk23 => ?_)
      · rintro _ _ ⟨l20, v21, rfl, rfl, hr⟩
        unfold order_Table_k22 at hr
        try dsimp only at hr
        refine NX.then ?_
        refine Tr.seq ?_
        refine Tr.seq ?_
        refine Tr.region_f (fun _ => false) ?_
        refine W.q rfl rfl rfl rfl (by decide) (Yd.mv rfl (.t rfl)) ?_
        refine W.q rfl rfl rfl rfl (by decide) (Yd.lenO (p := 0) rfl rfl Try.underlying22 (.t rfl)) ?_
        refine W.q rfl rfl rfl rfl (by decide) (Yd.mv rfl .c) ?_
        refine W.end ?_
        refine NX.sub (env' := [(6, _), (71, _), (72, _)]) ⟨rfl, rfl, rfl, trivial⟩ ?_
        refine NX.then ?_
        refine Tr.join (S := fun env x => ∃ l30 : List (BitVec 32), ∃ v31 : Value, env = [(6, v31)] ∧ x = ⟨m, hownT 31 1 encU v31 l30 :: l⟩ ∧ order_Table_k32 l30 = some r) ?_ (fun hk33 => ?_)
        · rintro _ _ ⟨l30, v31, rfl, rfl, hr⟩
          unfold order_Table_k32 at hr
          try dsimp only at hr
          refine NX.then ?_
          refine Tr.seq ?_
          refine Tr.seq ?_
          refine Tr.region_f (fun _ => false) ?_
          refine W.q rfl rfl rfl rfl (by decide) (Yd.mv rfl (.t rfl)) ?_
          refine W.q rfl rfl rfl rfl (by decide) (Yd.lenO (p := 0) rfl rfl Try.underlying22 (.t rfl)) ?_
          refine W.q rfl rfl rfl rfl (by decide) (Yd.mv rfl .c) ?_
          refine W.end ?_
          refine NX.sub (env' := [(6, _), (101, _), (102, _)]) ⟨rfl, rfl, rfl, trivial⟩ ?_
          refine NX.then ?_
          refine Tr.join (S := fun env x => env = [(6, v31)] ∧ x = ⟨m, hownT 31 1 encU v31 l30 :: l⟩ ∧ order_Table_k36 l30 = some r) ?_ (fun hk37 => ?_)
          · rintro _ _ ⟨rfl, rfl, hr⟩
            unfold order_Table_k36 at hr
            try dsimp only at hr
            refine NX.then ?_
            refine Tr.seq ?_
            refine Tr.region_f (fun _ => false) ?_
            refine W.q rfl rfl rfl rfl (by decide) (Yd.mv rfl (.t rfl)) ?_
            refine W.q rfl rfl rfl rfl (by decide) (Yd.as rfl (.t rfl)) ?_
            refine W.q rfl rfl rfl rfl (by decide) (Yd.as rfl .c) ?_
            refine W.end ?_
            refine NX.sub (env' := [(4, _), (5, _)]) ⟨rfl, rfl, trivial⟩ ?_
            refine NX.then ?_
            refine Tr.ret' ?_
            refine res2 rfl rfl rfl ?_
            intro w hc
            cases hr
            exact ⟨_, rfl, hc⟩
          refine Tr.lenO (pos := 0) rfl (fun hlen38 => ?_)
          refine Tr.block ?_
          refine Tr.sub (env' := [(6, _), (101, _), (102, _)]) ⟨rfl, rfl, rfl, trivial⟩ ?_
          refine Tr.loop (S := fun n (z : Int × Unit) env x => match z with | (t_39, _) => env = [(6, v31), (101, .int .i64 ((l30.length : Int))), (102, .int .i64 t_39)] ∧ x = ⟨m, hownT 31 1 encU v31 l30 :: l⟩ ∧ n = ((l30.length : Int) - t_39).toNat ∧ 0 ≤ t_39 ∧ forK (σ := Unit) (fun i s nx_ => order_Table_b40 l30 i nx_) (fun _ => order_Table_k36 l30) n t_39 () = some r) _ ((0 : Int), ()) ⟨rfl, rfl, rfl, (by omega), hr⟩ ?_
          rintro n42 ⟨t_39, _⟩ env x ⟨rfl, rfl, hnt_39, h0t_39, hr⟩
          cases n42 with
          | zero =>
            simp only [forK] at hr
            refine Tr.seq ?_
            refine Tr.region_f (fun _ => false) ?_
            refine W.q rfl rfl rfl rfl (by decide) (Yd.lss rfl (.t rfl) (.t rfl)) ?_
            refine W.end ?_
            refine NX.sub (env' := [(6, _), (101, _), (102, _), (103, _)]) ⟨rfl, rfl, rfl, rfl, trivial⟩ ?_
            refine NX.then ?_
            refine Tr.seq ?_
            refine Tr.cond (.t rfl) (fun hb => ?_) (fun hb => ?_)
            · exact absurd (hb.symm.trans (fr_end hnt_39)) (by decide)
            ·
              refine Tr.exit' (EX.then (EX.then (EX.block ?_)))
              refine NX.sub (env' := [(6, _)]) ⟨rfl, trivial⟩ ?_
              exact hk37 _ _ ⟨rfl, rfl, hr⟩
          | succ n42 =>
            obtain ⟨nx41, hnx41, hr⟩ := forK_succ hr
            try dsimp only at hr
            unfold order_Table_b40 at hr
            try dsimp only at hr
            have hltt_39 := fr_bnd hnt_39
            refine Tr.seq ?_
            refine Tr.region_f (fun _ => false) ?_
            refine W.q rfl rfl rfl rfl (by decide) (Yd.lss rfl (.t rfl) (.t rfl)) ?_
            refine W.end ?_
            refine NX.sub (env' := [(6, _), (101, _), (102, _), (103, _)]) ⟨rfl, rfl, rfl, rfl, trivial⟩ ?_
            refine NX.then ?_
            refine Tr.seq ?_
            refine Tr.cond (.t rfl) (fun hb => ?_) (fun hb => ?_)
            rotate_left
            · exact absurd (hb.symm.trans (fr_go hnt_39)) (by decide)
            ·
              refine Tr.skip' ?_
              refine NX.then ?_
              refine Tr.seq ?_
              refine Tr.block ?_
              refine Tr.seq ?_
              refine Tr.region_f (fun _ => false) ?_
              refine W.q rfl rfl rfl rfl (by decide) (Yd.mv rfl (.t rfl)) ?_
              refine W.q rfl rfl rfl rfl (by decide) (Yd.as rfl (.t rfl)) ?_
              refine W.end ?_
              refine NX.sub (env' := [(6, _), (101, _), (102, _), (12, _)]) ⟨rfl, rfl, rfl, rfl, trivial⟩ ?_
              refine NX.then ?_
              refine Tr.seq ?_
              refine Tr.region_f (fun _ => false) ?_
              refine W.q rfl rfl rfl rfl (by decide) (Yd.mv rfl (.t rfl)) ?_
              refine W.q rfl rfl rfl rfl (by decide) (Yd.mv rfl .c) ?_
              refine W.end ?_
              refine NX.sub (env' := [(6, _), (101, _), (102, _), (12, _), (105, _), (106, _)]) ⟨rfl, rfl, rfl, rfl, rfl, rfl, trivial⟩ ?_
              refine NX.then ?_
              refine Tr.join (S := fun env x => env = [(6, v31), (101, .int .i64 ((l30.length : Int))), (102, .int .i64 t_39)] ∧ x = ⟨m, hownT 31 1 encU v31 l30 :: l⟩ ∧ order_Table_k45 nx41 = some r) ?_ (fun hk46 => ?_)
              · rintro _ _ ⟨rfl, rfl, hr⟩
                unfold order_Table_k45 at hr
                try dsimp only at hr
                refine NX.block ?_
                refine NX.then ?_
                refine Tr.region_f (fun _ => false) ?_
                refine W.q rfl rfl rfl rfl (by decide) (Yd.add rfl (.t rfl) .c) ?_
                refine W.q rfl rfl rfl rfl (by decide) (Yd.mv rfl (.t rfl)) ?_
                refine W.end ?_
                refine NX.sub (env' := [(6, _), (101, _), (102, _)]) ⟨rfl, rfl, rfl, trivial⟩ ?_
                refine NX.sub (env' := [(6, _), (101, _), (102, _)]) ⟨rfl, rfl, rfl, trivial⟩ ?_
                have hw := w64_id (n := t_39 + 1) (by omega) (by omega)
                exact NX.again n42 (t_39 + 1, ()) (Nat.lt_succ_self _) ⟨(by rw [hw] <;> rfl), rfl, (fr_dec hnt_39), (by omega), ((hnx41 _).symm.trans hr)⟩
              obtain ⟨hle47, hr⟩ := guard_some hr; replace hle47 := of_decide_eq_true hle47
              refine Tr.block ?_
              refine Tr.sub (env' := [(6, _), (12, _), (101, _), (102, _), (105, _), (106, _)]) ⟨rfl, rfl, rfl, rfl, rfl, rfl, trivial⟩ ?_
              refine Tr.loop (S := fun n (z : Int × Unit) env x => match z with | (t_48, _) => env = [(6, v31), (12, .int .i64 t_39), (101, .int .i64 ((l30.length : Int))), (102, .int .i64 t_39), (105, .int .i64 t_39), (106, .int .i64 t_48)] ∧ x = ⟨m, hownT 31 1 encU v31 l30 :: l⟩ ∧ n = (t_39 - t_48).toNat ∧ 0 ≤ t_48 ∧ forK (σ := Unit) (fun i s nx_ => order_Table_b49 l30 t_39 i nx_) (fun _ => order_Table_k45 nx41) n t_48 () = some r) _ ((0 : Int), ()) ⟨rfl, rfl, rfl, (by omega), hr⟩ ?_
              rintro n51 ⟨t_48, _⟩ env x ⟨rfl, rfl, hnt_48, h0t_48, hr⟩
              cases n51 with
              | zero =>
                simp only [forK] at hr
                refine Tr.seq ?_
                refine Tr.region_f (fun _ => false) ?_
                refine W.q rfl rfl rfl rfl (by decide) (Yd.lss rfl (.t rfl) (.t rfl)) ?_
                refine W.end ?_
                refine NX.sub (env' := [(6, _), (12, _), (101, _), (102, _), (105, _), (106, _), (107, _)]) ⟨rfl, rfl, rfl, rfl, rfl, rfl, rfl, trivial⟩ ?_
                refine NX.then ?_
                refine Tr.seq ?_
                refine Tr.cond (.t rfl) (fun hb => ?_) (fun hb => ?_)
                · exact absurd (hb.symm.trans (fr_end hnt_48)) (by decide)
                ·
                  refine Tr.exit' (EX.then (EX.then (EX.block ?_)))
                  refine NX.sub (env' := [(6, _), (101, _), (102, _)]) ⟨rfl, rfl, rfl, trivial⟩ ?_
                  exact hk46 _ _ ⟨rfl, rfl, hr⟩
              | succ n51 =>
                obtain ⟨nx50, hnx50, hr⟩ := forK_succ hr
                try dsimp only at hr
                unfold order_Table_b49 at hr
                try dsimp only at hr
                have hltt_48 := fr_bnd hnt_48
                refine Tr.seq ?_
                refine Tr.region_f (fun _ => false) ?_
                refine W.q rfl rfl rfl rfl (by decide) (Yd.lss rfl (.t rfl) (.t rfl)) ?_
                refine W.end ?_
                refine NX.sub (env' := [(6, _), (12, _), (101, _), (102, _), (105, _), (106, _), (107, _)]) ⟨rfl, rfl, rfl, rfl, rfl, rfl, rfl, trivial⟩ ?_
                refine NX.then ?_
                refine Tr.seq ?_
                refine Tr.cond (.t rfl) (fun hb => ?_) (fun hb => ?_)
                rotate_left
                · exact absurd (hb.symm.trans (fr_go hnt_48)) (by decide)
                ·
                  refine Tr.skip' ?_
                  refine NX.then ?_
                  refine Tr.seq ?_
                  refine Tr.block ?_
                  refine Tr.seq ?_
                  refine Tr.region_f (fun _ => false) ?_
                  refine W.q rfl rfl rfl rfl (by decide) (Yd.mv rfl (.t rfl)) ?_
                  refine W.q rfl rfl rfl rfl (by decide) (Yd.as rfl (.t rfl)) ?_
                  refine W.end ?_
                  refine NX.sub (env' := [(6, _), (12, _), (101, _), (102, _), (105, _), (106, _), (13, _)]) ⟨rfl, rfl, rfl, rfl, rfl, rfl, rfl, trivial⟩ ?_
                  refine NX.then ?_
                  refine Tr.seq ?_
                  obtain ⟨y52, hy53, hr⟩ := bind_some hr
                  obtain ⟨ha54, hr⟩ := guard_some hr
                  refine Tr.region_f (fun _ => false) ?_
                  refine W.q rfl rfl rfl rfl (by decide) (Yd.mv rfl (.t rfl)) ?_
                  refine W.q rfl rfl rfl rfl (by decide) (Yd.mv rfl (.t rfl)) ?_
                  refine W.q rfl rfl rfl rfl (by decide) (Yd.idxT (pos := 0) rfl hy53 rfl Try.underlying22 SZ31 (.t rfl) (.t rfl)) ?_
                  refine W.q rfl rfl rfl rfl (by decide) (Yd.ldT (enc := encU) (n := 1) (pos := 0) (fun _ => rfl) rfl hy53 rfl rfl ON31 (.t rfl)) ?_
                  refine W.q rfl rfl rfl rfl (by decide) (Yd.mv rfl (.t rfl)) ?_
                  refine W.q rfl rfl rfl rfl (by decide) (Yd.shrU (a := y52) rfl (.t rfl) (.t rfl) h0t_48) ?_
                  refine W.q rfl rfl rfl rfl (by decide) (Yd.andU (a := (y52 >>> t_48.toNat)) (b := 1#32) rfl (.t rfl) .c) ?_
                  refine W.q rfl rfl rfl rfl (by decide) (Yd.eqlU (a := ((y52 >>> t_48.toNat) &&& 1#32)) (b := 1#32) rfl (.t rfl) .c) ?_
                  refine W.q rfl rfl rfl rfl (by decide) (Yd.mv rfl (.t rfl)) ?_
                  refine W.g rfl rfl rfl rfl rfl (.t rfl _) rfl (by decide) (fun hG => Yd.mv rfl (.t rfl)) ?_
                  refine W.g rfl rfl rfl rfl rfl (.t rfl _) rfl (by decide) (fun hG => Yd.mv rfl (.t rfl)) ?_
                  refine W.g rfl rfl rfl rfl rfl (.t rfl _) rfl (by decide) (fun hG => Yd.idxT (pos := 0) rfl (gd_get (d := (0#32)) ha54 hG) rfl Try.underlying22 SZ31 (.g rfl hG) (.g rfl hG)) ?_
                  refine W.g rfl rfl rfl rfl rfl (.t rfl _) rfl (by decide) (fun hG => Yd.ldT (enc := encU) (n := 1) (pos := 0) (fun _ => rfl) rfl (gd_get (d := (0#32)) ha54 hG) rfl rfl ON31 (.g rfl hG)) ?_
                  refine W.g rfl rfl rfl rfl rfl (.t rfl _) rfl (by decide) (fun hG => Yd.mv rfl (.t rfl)) ?_
                  refine W.g rfl rfl rfl rfl rfl (.t rfl _) rfl (by decide) (fun hG => Yd.shrU (a := ((geti l30 t_48).getD (0#32))) rfl (.g rfl hG) (.g rfl hG) h0t_39) ?_
                  refine W.g rfl rfl rfl rfl rfl (.t rfl _) rfl (by decide) (fun hG => Yd.andU (a := (((geti l30 t_48).getD (0#32)) >>> t_39.toNat)) (b := 1#32) rfl (.g rfl hG) .c) ?_
                  refine W.g rfl rfl rfl rfl rfl (.t rfl _) rfl (by decide) (fun hG => Yd.eqlU (a := ((((geti l30 t_48).getD (0#32)) >>> t_39.toNat) &&& 1#32)) (b := 1#32) rfl (.g rfl hG) .c) ?_
                  refine W.q rfl rfl rfl rfl (by decide) (Yd.and rfl (.t rfl) .c rfl rfl) ?_
                  refine W.end ?_
                  refine NX.sub (env' := [(6, _), (12, _), (101, _), (102, _), (105, _), (106, _), (126, _)]) ⟨rfl, rfl, rfl, rfl, rfl, rfl, rfl, trivial⟩ ?_
                  refine NX.then ?_
                  refine Tr.cond (.t rfl) (fun hb => ?_) (fun hb => ?_)
                  · have hr := cond_t hb hr
                    refine Tr.seq ?_
                    refine Tr.region_f (fun _ => false) ?_
                    refine W.q rfl rfl rfl rfl (by decide) (Yd.as rfl .c) ?_
                    refine W.q rfl rfl rfl rfl (by decide) (Yd.as rfl .c) ?_
                    refine W.end ?_
                    refine NX.sub (env' := [(4, _), (5, _)]) ⟨rfl, rfl, trivial⟩ ?_
                    refine NX.drop (l' := l) (.cons _ (.refl _)) ?_
                    refine NX.then ?_
                    refine Tr.ret' (RT.block (RT.then (RT.then (RT.block (RT.block (RT.then (RT.then (RT.block (RT.then ?_)))))))))
                    refine res2 rfl rfl rfl ?_
                    intro w hc
                    cases hr
                    exact ⟨_, rfl, (cX_nil hc)⟩
                  · have hr := cond_f hb hr
                    refine Tr.skip' ?_
                    refine NX.block ?_
                    refine NX.then ?_
                    refine Tr.region_f (fun _ => false) ?_
                    refine W.q rfl rfl rfl rfl (by decide) (Yd.add rfl (.t rfl) .c) ?_
                    refine W.q rfl rfl rfl rfl (by decide) (Yd.mv rfl (.t rfl)) ?_
                    refine W.end ?_
                    refine NX.sub (env' := [(6, _), (12, _), (101, _), (102, _), (105, _), (106, _)]) ⟨rfl, rfl, rfl, rfl, rfl, rfl, trivial⟩ ?_
                    refine NX.sub (env' := [(6, _), (12, _), (101, _), (102, _), (105, _), (106, _)]) ⟨rfl, rfl, rfl, rfl, rfl, rfl, trivial⟩ ?_
                    have hw := w64_id (n := t_48 + 1) (by omega) (by omega)
                    exact NX.again n51 (t_48 + 1, ()) (Nat.lt_succ_self _) ⟨(by rw [hw] <;> rfl), rfl, (fr_dec hnt_48), (by omega), ((hnx50 _).symm.trans hr)⟩
        refine Tr.lenO (pos := 0) rfl (fun hlen55 => ?_)
        refine Tr.block ?_
        refine Tr.sub (env' := [(6, _), (71, _), (72, _)]) ⟨rfl, rfl, rfl, trivial⟩ ?_
        refine Tr.loop (S := fun n (z : Int × (List (BitVec 32))) env x => match z with | (t_56, l28) => ∃ v29 : Value, env = [(6, v29), (71, .int .i64 ((l20.length : Int))), (72, .int .i64 t_56)] ∧ x = ⟨m, hownT 31 1 encU v29 l28 :: l⟩ ∧ n = ((l20.length : Int) - t_56).toNat ∧ 0 ≤ t_56 ∧ forK (σ := (List (BitVec 32))) (fun i s nx_ => order_Table_b57 i s nx_) (fun s => order_Table_k32 s) n t_56 l28 = some r) _ ((0 : Int), l20) ⟨_, rfl, rfl, rfl, (by omega), hr⟩ ?_
        rintro n59 ⟨t_56, l28⟩ env x ⟨v29, rfl, rfl, hnt_56, h0t_56, hr⟩
        cases n59 with
        | zero =>
          simp only [forK] at hr
          refine Tr.seq ?_
          refine Tr.region_f (fun _ => false) ?_
          refine W.q rfl rfl rfl rfl (by decide) (Yd.lss rfl (.t rfl) (.t rfl)) ?_
          refine W.end ?_
          refine NX.sub (env' := [(6, _), (71, _), (72, _), (73, _)]) ⟨rfl, rfl, rfl, rfl, trivial⟩ ?_
          refine NX.then ?_
          refine Tr.seq ?_
          refine Tr.cond (.t rfl) (fun hb => ?_) (fun hb => ?_)
          · exact absurd (hb.symm.trans (fr_end hnt_56)) (by decide)
          ·
            refine Tr.exit' (EX.then (EX.then (EX.block ?_)))
            refine NX.sub (env' := [(6, _)]) ⟨rfl, trivial⟩ ?_
            exact hk33 _ _ ⟨_, _, rfl, rfl, hr⟩
        | succ n59 =>
          obtain ⟨nx58, hnx58, hr⟩ := forK_succ hr
          try dsimp only at hr
          unfold order_Table_b57 at hr
          try dsimp only at hr
          have hltt_56 := fr_bnd hnt_56
          refine Tr.seq ?_
          refine Tr.region_f (fun _ => false) ?_
          refine W.q rfl rfl rfl rfl (by decide) (Yd.lss rfl (.t rfl) (.t rfl)) ?_
          refine W.end ?_
          refine NX.sub (env' := [(6, _), (71, _), (72, _), (73, _)]) ⟨rfl, rfl, rfl, rfl, trivial⟩ ?_
          refine NX.then ?_
          refine Tr.seq ?_
          refine Tr.cond (.t rfl) (fun hb => ?_) (fun hb => ?_)
          rotate_left
          · exact absurd (hb.symm.trans (fr_go hnt_56)) (by decide)
          ·
            refine Tr.skip' ?_
            refine NX.then ?_
            refine Tr.seq ?_
            refine Tr.block ?_
            refine Tr.seq ?_
            refine Tr.region_f (fun _ => false) ?_
            refine W.q rfl rfl rfl rfl (by decide) (Yd.mv rfl (.t rfl)) ?_
            refine W.q rfl rfl rfl rfl (by decide) (Yd.as rfl (.t rfl)) ?_
            refine W.end ?_
            refine NX.sub (env' := [(6, _), (71, _), (72, _), (10, _)]) ⟨rfl, rfl, rfl, rfl, trivial⟩ ?_
            refine NX.then ?_
            refine Tr.seq ?_
            refine Tr.region_f (fun _ => false) ?_
            refine W.q rfl rfl rfl rfl (by decide) (Yd.mv rfl (.t rfl)) ?_
            refine W.q rfl rfl rfl rfl (by decide) (Yd.lenO (p := 0) rfl rfl Try.underlying22 (.t rfl)) ?_
            refine W.q rfl rfl rfl rfl (by decide) (Yd.mv rfl .c) ?_
            refine W.end ?_
            refine NX.sub (env' := [(6, _), (71, _), (72, _), (10, _), (76, _), (77, _)]) ⟨rfl, rfl, rfl, rfl, rfl, rfl, trivial⟩ ?_
            refine NX.then ?_
            refine Tr.join (S := fun env x => ∃ l66 : List (BitVec 32), ∃ v67 : Value, env = [(6, v67), (71, .int .i64 ((l20.length : Int))), (72, .int .i64 t_56)] ∧ x = ⟨m, hownT 31 1 encU v67 l66 :: l⟩ ∧ order_Table_k68 nx58 l66 = some r) ?_ (fun hk69 => ?_)
            · rintro _ _ ⟨l66, v67, rfl, rfl, hr⟩
              unfold order_Table_k68 at hr
              try dsimp only at hr
              refine NX.block ?_
              refine NX.then ?_
              refine Tr.region_f (fun _ => false) ?_
              refine W.q rfl rfl rfl rfl (by decide) (Yd.add rfl (.t rfl) .c) ?_
              refine W.q rfl rfl rfl rfl (by decide) (Yd.mv rfl (.t rfl)) ?_
              refine W.end ?_
              refine NX.sub (env' := [(6, _), (71, _), (72, _)]) ⟨rfl, rfl, rfl, trivial⟩ ?_
              refine NX.sub (env' := [(6, _), (71, _), (72, _)]) ⟨rfl, rfl, rfl, trivial⟩ ?_
              have hw := w64_id (n := t_56 + 1) (by omega) (by omega)
              exact NX.again n59 (t_56 + 1, l66) (Nat.lt_succ_self _) ⟨_, (by rw [hw] <;> rfl), rfl, (fr_dec hnt_56), (by omega), ((hnx58 _).symm.trans hr)⟩
            refine Tr.lenO (pos := 0) rfl (fun hlen70 => ?_)
            refine Tr.block ?_
            refine Tr.sub (env' := [(6, _), (10, _), (71, _), (72, _), (76, _), (77, _)]) ⟨rfl, rfl, rfl, rfl, rfl, rfl, trivial⟩ ?_
            refine Tr.loop (S := fun n (z : Int × (List (BitVec 32))) env x => match z with | (t_71, l64) => ∃ v65 : Value, env = [(6, v65), (10, .int .i64 t_56), (71, .int .i64 ((l20.length : Int))), (72, .int .i64 t_56), (76, .int .i64 ((l28.length : Int))), (77, .int .i64 t_71)] ∧ x = ⟨m, hownT 31 1 encU v65 l64 :: l⟩ ∧ n = ((l28.length : Int) - t_71).toNat ∧ 0 ≤ t_71 ∧ forK (σ := (List (BitVec 32))) (fun i s nx_ => order_Table_b72 t_56 i s nx_) (fun s => order_Table_k68 nx58 s) n t_71 l64 = some r) _ ((0 : Int), l28) ⟨_, rfl, rfl, rfl, (by omega), hr⟩ ?_
            rintro n74 ⟨t_71, l64⟩ env x ⟨v65, rfl, rfl, hnt_71, h0t_71, hr⟩
            cases n74 with
            | zero =>
              simp only [forK] at hr
              refine Tr.seq ?_
              refine Tr.region_f (fun _ => false) ?_
              refine W.q rfl rfl rfl rfl (by decide) (Yd.lss rfl (.t rfl) (.t rfl)) ?_
              refine W.end ?_
              refine NX.sub (env' := [(6, _), (10, _), (71, _), (72, _), (76, _), (77, _), (78, _)]) ⟨rfl, rfl, rfl, rfl, rfl, rfl, rfl, trivial⟩ ?_
              refine NX.then ?_
              refine Tr.seq ?_
              refine Tr.cond (.t rfl) (fun hb => ?_) (fun hb => ?_)
              · exact absurd (hb.symm.trans (fr_end hnt_71)) (by decide)
              ·
                refine Tr.exit' (EX.then (EX.then (EX.block ?_)))
                refine NX.sub (env' := [(6, _), (71, _), (72, _)]) ⟨rfl, rfl, rfl, trivial⟩ ?_
                exact hk69 _ _ ⟨_, _, rfl, rfl, hr⟩
            | succ n74 =>
              obtain ⟨nx73, hnx73, hr⟩ := forK_succ hr
              try dsimp only at hr
              unfold order_Table_b72 at hr
              try dsimp only at hr
              have hltt_71 := fr_bnd hnt_71
              refine Tr.seq ?_
              refine Tr.region_f (fun _ => false) ?_
              refine W.q rfl rfl rfl rfl (by decide) (Yd.lss rfl (.t rfl) (.t rfl)) ?_
              refine W.end ?_
              refine NX.sub (env' := [(6, _), (10, _), (71, _), (72, _), (76, _), (77, _), (78, _)]) ⟨rfl, rfl, rfl, rfl, rfl, rfl, rfl, trivial⟩ ?_
              refine NX.then ?_
              refine Tr.seq ?_
              refine Tr.cond (.t rfl) (fun hb => ?_) (fun hb => ?_)
              rotate_left
              · exact absurd (hb.symm.trans (fr_go hnt_71)) (by decide)
              ·
                refine Tr.skip' ?_
                refine NX.then ?_
                refine Tr.seq ?_
                refine Tr.block ?_
                refine Tr.seq ?_
                refine Tr.region_f (fun _ => false) ?_
                refine W.q rfl rfl rfl rfl (by decide) (Yd.mv rfl (.t rfl)) ?_
                refine W.q rfl rfl rfl rfl (by decide) (Yd.as rfl (.t rfl)) ?_
                refine W.end ?_
                refine NX.sub (env' := [(6, _), (10, _), (71, _), (72, _), (76, _), (77, _), (11, _)]) ⟨rfl, rfl, rfl, rfl, rfl, rfl, rfl, trivial⟩ ?_
                refine NX.then ?_
                refine Tr.seq ?_
                obtain ⟨y75, hy76, hr⟩ := bind_some hr
                refine Tr.region_f (fun _ => false) ?_
                refine W.q rfl rfl rfl rfl (by decide) (Yd.mv rfl (.t rfl)) ?_
                refine W.q rfl rfl rfl rfl (by decide) (Yd.mv rfl (.t rfl)) ?_
                refine W.q rfl rfl rfl rfl (by decide) (Yd.idxT (pos := 0) rfl hy76 rfl Try.underlying22 SZ31 (.t rfl) (.t rfl)) ?_
                refine W.q rfl rfl rfl rfl (by decide) (Yd.ldT (enc := encU) (n := 1) (pos := 0) (fun _ => rfl) rfl hy76 rfl rfl ON31 (.t rfl)) ?_
                refine W.q rfl rfl rfl rfl (by decide) (Yd.mv rfl (.t rfl)) ?_
                refine W.q rfl rfl rfl rfl (by decide) (Yd.shrU (a := y75) rfl (.t rfl) (.t rfl) h0t_56) ?_
                refine W.q rfl rfl rfl rfl (by decide) (Yd.andU (a := (y75 >>> t_56.toNat)) (b := 1#32) rfl (.t rfl) .c) ?_
                refine W.q rfl rfl rfl rfl (by decide) (Yd.eqlU (a := ((y75 >>> t_56.toNat) &&& 1#32)) (b := 1#32) rfl (.t rfl) .c) ?_
                refine W.end ?_
                refine NX.sub (env' := [(6, _), (10, _), (71, _), (72, _), (76, _), (77, _), (11, _), (87, _)]) ⟨rfl, rfl, rfl, rfl, rfl, rfl, rfl, rfl, trivial⟩ ?_
                refine NX.then ?_
                refine Tr.cond (.t rfl) (fun hb => ?_) (fun hb => ?_)
                · have hr := cond_t hb hr
                  obtain ⟨y77, hy78, hr⟩ := bind_some hr
                  obtain ⟨y79, hy80, hr⟩ := bind_some hr
                  refine Tr.region_x (fun i => Nat.beq i 10) (fun i => Nat.beq i 10) (Ord.of [0, 1, 2, 3, 4, 5, 6, 7, 8, 9, 10]) FM (by kernel_rfl) ?_
                  refine W.q rfl rfl rfl rfl (by decide) (Yd.mv rfl (.t rfl)) ?_
                  refine W.q rfl rfl rfl rfl (by decide) (Yd.mv rfl (.t rfl)) ?_
                  refine W.q rfl rfl rfl rfl (by decide) (Yd.idxT (pos := 0) rfl hy78 rfl Try.underlying22 SZ31 (.t rfl) (.t rfl)) ?_
                  refine W.q rfl rfl rfl rfl (by decide) (Yd.ldT (enc := encU) (n := 1) (pos := 0) (fun _ => rfl) rfl hy78 rfl rfl ON31 (.t rfl)) ?_
                  refine W.q rfl rfl rfl rfl (by decide) (Yd.mv rfl (.t rfl)) ?_
                  refine W.q rfl rfl rfl rfl (by decide) (Yd.mv rfl (.t rfl)) ?_
                  refine W.q rfl rfl rfl rfl (by decide) (Yd.idxT (pos := 0) rfl hy80 rfl Try.underlying22 SZ31 (.t rfl) (.t rfl)) ?_
                  refine W.q rfl rfl rfl rfl (by decide) (Yd.ldT (enc := encU) (n := 1) (pos := 0) (fun _ => rfl) rfl hy80 rfl rfl ON31 (.t rfl)) ?_
                  refine W.q rfl rfl rfl rfl (by decide) (Yd.orU (a := y77) (b := y79) rfl (.t rfl) (.t rfl)) ?_
                  refine W.q rfl rfl rfl rfl (by decide) (Yd.idxT (pos := 0) rfl hy78 rfl Try.underlying22 SZ31 (.t rfl) (.t rfl)) ?_
                  refine W.s rfl rfl rfl rfl (Ef.stT (enc := encU) (n := 1) (pos := 0) (y := (y77 ||| y79)) (us := [_]) (fun _ => rfl) rfl hy78 rfl (.t rfl) (.t rfl) SZ31 rfl rfl rfl (by decide)) ?_
                  rintro _ _ ⟨rfl, rfl⟩
                  refine ⟨.inl rfl, ?_⟩
                  refine W.cast (m' := m) (l' := hownT 31 1 encU v65 _ :: l) rfl rfl ?_
                  refine W.end ?_
                  refine NX.sub (env' := [(6, _), (10, _), (71, _), (72, _), (76, _), (77, _)]) ⟨rfl, rfl, rfl, rfl, rfl, rfl, trivial⟩ ?_
                  refine NX.block ?_
                  refine NX.then ?_
                  refine Tr.region_f (fun _ => false) ?_
                  refine W.q rfl rfl rfl rfl (by decide) (Yd.add rfl (.t rfl) .c) ?_
                  refine W.q rfl rfl rfl rfl (by decide) (Yd.mv rfl (.t rfl)) ?_
                  refine W.end ?_
                  refine NX.sub (env' := [(6, _), (10, _), (71, _), (72, _), (76, _), (77, _)]) ⟨rfl, rfl, rfl, rfl, rfl, rfl, trivial⟩ ?_
                  refine NX.sub (env' := [(6, _), (10, _), (71, _), (72, _), (76, _), (77, _)]) ⟨rfl, rfl, rfl, rfl, rfl, rfl, trivial⟩ ?_
                  have hw := w64_id (n := t_71 + 1) (by omega) (by omega)
                  exact NX.again n74 (t_71 + 1, (l64.set t_71.toNat ((y77 ||| y79)))) (Nat.lt_succ_self _) ⟨_, (by rw [hw] <;> rfl), rfl, (fr_dec hnt_71), (by omega), ((hnx73 _).symm.trans hr)⟩
                · have hr := cond_f hb hr
                  refine Tr.skip' ?_
                  refine NX.block ?_
                  refine NX.then ?_
                  refine Tr.region_f (fun _ => false) ?_
                  refine W.q rfl rfl rfl rfl (by decide) (Yd.add rfl (.t rfl) .c) ?_
                  refine W.q rfl rfl rfl rfl (by decide) (Yd.mv rfl (.t rfl)) ?_
                  refine W.end ?_
                  refine NX.sub (env' := [(6, _), (10, _), (71, _), (72, _), (76, _), (77, _)]) ⟨rfl, rfl, rfl, rfl, rfl, rfl, trivial⟩ ?_
                  refine NX.sub (env' := [(6, _), (10, _), (71, _), (72, _), (76, _), (77, _)]) ⟨rfl, rfl, rfl, rfl, rfl, rfl, trivial⟩ ?_
                  have hw := w64_id (n := t_71 + 1) (by omega) (by omega)
                  exact NX.again n74 (t_71 + 1, l64) (Nat.lt_succ_self _) ⟨_, (by rw [hw] <;> rfl), rfl, (fr_dec hnt_71), (by omega), ((hnx73 _).symm.trans hr)⟩
      have hlen81 := (hpairs_1).2.1
      refine Tr.block ?_
      refine Tr.sub (env' := [(0, _), (6, _), (38, _), (39, _), (40, _)]) ⟨rfl, rfl, rfl, rfl, rfl, trivial⟩ ?_
      refine Tr.loop (S := fun n (z : Int × (List (BitVec 32))) env x => match z with | (t_82, l18) => ∃ v19 : Value, env = [(0, .int .i64 n_0), (6, v19), (38, upairs_1), (39, .int .i64 ((pairs_1.length : Int))), (40, .int .i64 t_82)] ∧ x = ⟨m, hownT 31 1 encU v19 l18 :: l⟩ ∧ n = ((pairs_1.length : Int) - t_82).toNat ∧ 0 ≤ t_82 ∧ forK (σ := (List (BitVec 32))) (fun i s nx_ => order_Table_b83 n_0 pairs_1 i s nx_) (fun s => order_Table_k22 s) n t_82 l18 = some r) _ ((0 : Int), l10) ⟨_, rfl, rfl, rfl, (by omega), hr⟩ ?_
      rintro n85 ⟨t_82, l18⟩ env x ⟨v19, rfl, rfl, hnt_82, h0t_82, hr⟩
      cases n85 with
      | zero =>
        simp only [forK] at hr
        refine Tr.seq ?_
        refine Tr.region_f (fun _ => false) ?_
        refine W.q rfl rfl rfl rfl (by decide) (Yd.lss rfl (.t rfl) (.t rfl)) ?_
        refine W.end ?_
        refine NX.sub (env' := [(0, _), (6, _), (38, _), (39, _), (40, _), (41, _)]) ⟨rfl, rfl, rfl, rfl, rfl, rfl, trivial⟩ ?_
        refine NX.then ?_
        refine Tr.seq ?_
        refine Tr.cond (.t rfl) (fun hb => ?_) (fun hb => ?_)
        · exact absurd (hb.symm.trans (fr_end hnt_82)) (by decide)
        ·
          refine Tr.exit' (EX.then (EX.then (EX.block ?_)))
          refine NX.sub (env' := [(6, _)]) ⟨rfl, trivial⟩ ?_
          exact hk23 _ _ ⟨_, _, rfl, rfl, hr⟩
      | succ n85 =>
        obtain ⟨nx84, hnx84, hr⟩ := forK_succ hr
        try dsimp only at hr
        unfold order_Table_b83 at hr
        try dsimp only at hr
        have hltt_82 := fr_bnd hnt_82
        refine Tr.seq ?_
        refine Tr.region_f (fun _ => false) ?_
        refine W.q rfl rfl rfl rfl (by decide) (Yd.lss rfl (.t rfl) (.t rfl)) ?_
        refine W.end ?_
        refine NX.sub (env' := [(0, _), (6, _), (38, _), (39, _), (40, _), (41, _)]) ⟨rfl, rfl, rfl, rfl, rfl, rfl, trivial⟩ ?_
        refine NX.then ?_
        refine Tr.seq ?_
        refine Tr.cond (.t rfl) (fun hb => ?_) (fun hb => ?_)
        rotate_left
        · exact absurd (hb.symm.trans (fr_go hnt_82)) (by decide)
        ·
          refine Tr.skip' ?_
          refine NX.then ?_
          refine Tr.seq ?_
          refine Tr.block ?_
          refine Tr.seq ?_
          obtain ⟨y86, hy87, hr⟩ := bind_some hr
          refine Tr.region_f (fun i => Nat.beq i 2 || Nat.beq i 3) ?_
          refine W.q rfl rfl rfl rfl (by decide) (Yd.idxR hpairs_1 hy87 rfl Try.underlying45 SZ76 (.t rfl) (.t rfl)) ?_
          refine W.q rfl rfl rfl rfl (by decide) (Yd.ldFs (us := [_, _]) hpairs_1 (.refl _) hy87 rfl rfl ON76 US76 SZ76 (.t rfl)) ?_
          refine W.e rfl rfl rfl rfl (by decide) (Ef.al rfl ZR76 rfl) ?_
          rintro _ _ ⟨b88, rfl, rfl⟩
          refine ⟨.inl rfl, ?_⟩
          refine W.cast (m' := m) (l' := hcells b88 [_, _] 76 :: hownT 31 1 encU v19 _ :: l) rfl rfl ?_
          refine W.s rfl rfl rfl rfl (Ef.stB (pos := 0) (us := [_, _]) (cs' := [_, _]) rfl rfl (.t rfl) (.t rfl) SZ76 rfl rfl rfl (Nat.le_of_ble_eq_true rfl) rfl) ?_
          rintro _ _ ⟨rfl, rfl⟩
          refine ⟨.inl rfl, ?_⟩
          refine W.cast (m' := m) (l' := hcells b88 [_, _] 76 :: hownT 31 1 encU v19 _ :: l) rfl rfl ?_
          refine W.end ?_
          refine NX.sub (env' := [(0, _), (6, _), (38, _), (39, _), (40, _), (9, _)]) ⟨rfl, rfl, rfl, rfl, rfl, rfl, trivial⟩ ?_
          refine NX.then ?_
          refine Tr.seq ?_
          refine Tr.seq ?_
          refine Tr.region_f (fun _ => false) ?_
          refine W.q rfl rfl rfl rfl (by decide) (Yd.arrB rfl Try.underlying76 SZ3 (by decide) (by decide) (.t rfl) .c) ?_
          refine W.q rfl rfl rfl rfl (by decide) (Yd.ldB (pos := 0) rfl rfl rfl ON3 (.t rfl)) ?_
          refine W.q rfl rfl rfl rfl (by decide) (Yd.arrB rfl Try.underlying76 SZ3 (by decide) (by decide) (.t rfl) .c) ?_
          refine W.q rfl rfl rfl rfl (by decide) (Yd.ldB (pos := 0) rfl rfl rfl ON3 (.t rfl)) ?_
          refine W.q rfl rfl rfl rfl (by decide) (Yd.min2 rfl (.t rfl) (.t rfl)) ?_
          refine W.q rfl rfl rfl rfl (by decide) (Yd.lss rfl (.t rfl) .c) ?_
          refine W.q rfl rfl rfl rfl (by decide) (Yd.mv rfl (.t rfl)) ?_
          refine W.g rfl rfl rfl rfl rfl (.t rfl _) rfl (by decide) (fun hG => Yd.arrB rfl Try.underlying76 SZ3 (by decide) (by decide) (.t rfl) .c) ?_
          refine W.g rfl rfl rfl rfl rfl (.t rfl _) rfl (by decide) (fun hG => Yd.ldB (pos := 0) rfl rfl rfl ON3 (.g rfl hG)) ?_
          refine W.g rfl rfl rfl rfl rfl (.t rfl _) rfl (by decide) (fun hG => Yd.arrB rfl Try.underlying76 SZ3 (by decide) (by decide) (.t rfl) .c) ?_
          refine W.g rfl rfl rfl rfl rfl (.t rfl _) rfl (by decide) (fun hG => Yd.ldB (pos := 0) rfl rfl rfl ON3 (.g rfl hG)) ?_
          refine W.g rfl rfl rfl rfl rfl (.t rfl _) rfl (by decide) (fun hG => Yd.max2 rfl (.g rfl hG) (.g rfl hG)) ?_
          refine W.g rfl rfl rfl rfl rfl (.t rfl _) rfl (by decide) (fun hG => Yd.mv rfl (.t rfl)) ?_
          refine W.g rfl rfl rfl rfl rfl (.t rfl _) rfl (by decide) (fun hG => Yd.geq rfl (.g rfl hG) (.g rfl hG)) ?_
          refine W.q rfl rfl rfl rfl (by decide) (Yd.or rfl (.t rfl) .c rfl rfl) ?_
          refine W.end ?_
          refine NX.sub (env' := [(0, _), (6, _), (38, _), (39, _), (40, _), (9, _), (58, _)]) ⟨rfl, rfl, rfl, rfl, rfl, rfl, rfl, trivial⟩ ?_
          refine NX.then ?_
          refine Tr.cond (.t rfl) (fun hb => ?_) (fun hb => ?_)
          · have hr := cond_t hb hr
            refine Tr.seq ?_
            refine Tr.region_f (fun _ => false) ?_
            refine W.q rfl rfl rfl rfl (by decide) (Yd.as rfl .c) ?_
            refine W.q rfl rfl rfl rfl (by decide) (Yd.as rfl .c) ?_
            refine W.end ?_
            refine NX.sub (env' := [(4, _), (5, _)]) ⟨rfl, rfl, trivial⟩ ?_
            refine NX.drop (l' := l) (.cons _ (.cons _ (.refl _))) ?_
            refine NX.then ?_
            refine Tr.ret' (RT.then (RT.block (RT.then (RT.then (RT.block (RT.then ?_))))))
            refine res2 rfl rfl rfl ?_
            intro w hc
            cases hr
            exact ⟨_, rfl, (cX_nil hc)⟩
          · have hr := cond_f hb hr
            refine Tr.skip' ?_
            refine NX.then ?_
            obtain ⟨y90, hy91, hr⟩ := bind_some hr
            obtain ⟨hq92, hr⟩ := guard_some hr; replace hq92 := of_decide_eq_true hq92
            refine Tr.region_x (fun i => Nat.beq i 10) (fun i => Nat.beq i 10) (Ord.of [0, 1, 2, 3, 4, 5, 6, 7, 8, 9, 10]) FM (by kernel_rfl) ?_
            refine W.q rfl rfl rfl rfl (by decide) (Yd.mv rfl (.t rfl)) ?_
            refine W.q rfl rfl rfl rfl (by decide) (Yd.arrB rfl Try.underlying76 SZ3 (by decide) (by decide) (.t rfl) .c) ?_
            refine W.q rfl rfl rfl rfl (by decide) (Yd.ldB (pos := 0) rfl rfl rfl ON3 (.t rfl)) ?_
            refine W.q rfl rfl rfl rfl (by decide) (Yd.idxT (pos := 1) rfl hy91 rfl Try.underlying22 SZ31 (.t rfl) (.t rfl)) ?_
            refine W.q rfl rfl rfl rfl (by decide) (Yd.ldT (enc := encU) (n := 1) (pos := 1) (fun _ => rfl) rfl hy91 rfl rfl ON31 (.t rfl)) ?_
            refine W.q rfl rfl rfl rfl (by decide) (Yd.arrB rfl Try.underlying76 SZ3 (by decide) (by decide) (.t rfl) .c) ?_
            refine W.q rfl rfl rfl rfl (by decide) (Yd.ldB (pos := 0) rfl rfl rfl ON3 (.t rfl)) ?_
            refine W.q rfl rfl rfl rfl (by decide) (Yd.shlU (a := 1#32) rfl .c (.t rfl) hq92) ?_
            refine W.q rfl rfl rfl rfl (by decide) (Yd.orU (a := y90) (b := (1#32 <<< y86.2.toNat)) rfl (.t rfl) (.t rfl)) ?_
            refine W.q rfl rfl rfl rfl (by decide) (Yd.idxT (pos := 1) rfl hy91 rfl Try.underlying22 SZ31 (.t rfl) (.t rfl)) ?_
            refine W.s rfl rfl rfl rfl (Ef.stT (enc := encU) (n := 1) (pos := 1) (y := (y90 ||| (1#32 <<< y86.2.toNat))) (us := [_]) (fun _ => rfl) rfl hy91 rfl (.t rfl) (.t rfl) SZ31 rfl rfl rfl (by decide)) ?_
            rintro _ _ ⟨rfl, rfl⟩
            refine ⟨.inl rfl, ?_⟩
            refine W.cast (m' := m) (l' := hcells b88 [_, _] 76 :: hownT 31 1 encU v19 _ :: l) rfl rfl ?_
            refine W.end ?_
            refine NX.sub (env' := [(0, _), (6, _), (38, _), (39, _), (40, _)]) ⟨rfl, rfl, rfl, rfl, rfl, trivial⟩ ?_
            refine NX.drop (l' := hownT 31 1 encU v19 _ :: l) (.cons _ (.cons_cons _ (.refl _))) ?_
            refine NX.block ?_
            refine NX.then ?_
            refine Tr.region_f (fun _ => false) ?_
            refine W.q rfl rfl rfl rfl (by decide) (Yd.add rfl (.t rfl) .c) ?_
            refine W.q rfl rfl rfl rfl (by decide) (Yd.mv rfl (.t rfl)) ?_
            refine W.end ?_
            refine NX.sub (env' := [(0, _), (6, _), (38, _), (39, _), (40, _)]) ⟨rfl, rfl, rfl, rfl, rfl, trivial⟩ ?_
            refine NX.sub (env' := [(0, _), (6, _), (38, _), (39, _), (40, _)]) ⟨rfl, rfl, rfl, rfl, rfl, trivial⟩ ?_
            have hw := w64_id (n := t_82 + 1) (by omega) (by omega)
            exact NX.again n85 (t_82 + 1, (l18.set y86.1.toNat ((y90 ||| (1#32 <<< y86.2.toNat))))) (Nat.lt_succ_self _) ⟨_, (by rw [hw] <;> rfl), rfl, (fr_dec hnt_82), (by omega), ((hnx84 _).symm.trans hr)⟩
    refine Tr.lenO (pos := 0) rfl (fun hlen93 => ?_)
    refine Tr.block ?_
    refine Tr.sub (env' := [(0, _), (1, _), (6, _), (28, _), (29, _)]) ⟨rfl, rfl, rfl, rfl, rfl, trivial⟩ ?_
    refine Tr.loop (S := fun n (z : Int × (List (BitVec 32))) env x => match z with | (t_94, l8) => ∃ v9 : Value, env = [(0, .int .i64 n_0), (1, upairs_1), (6, v9), (28, .int .i64 ((((List.replicate n_0.toNat (0#32))).length : Int))), (29, .int .i64 t_94)] ∧ x = ⟨m, hownT 31 1 encU v9 l8 :: l⟩ ∧ n = ((((List.replicate n_0.toNat (0#32))).length : Int) - t_94).toNat ∧ 0 ≤ t_94 ∧ forK (σ := (List (BitVec 32))) (fun i s nx_ => order_Table_b95 i s nx_) (fun s => order_Table_k12 n_0 pairs_1 s) n t_94 l8 = some r) _ ((0 : Int), (List.replicate n_0.toNat (0#32))) ⟨_, rfl, rfl, rfl, (by omega), hr⟩ ?_
    rintro n97 ⟨t_94, l8⟩ env x ⟨v9, rfl, rfl, hnt_94, h0t_94, hr⟩
    cases n97 with
    | zero =>
      simp only [forK] at hr
      refine Tr.seq ?_
      refine Tr.region_f (fun _ => false) ?_
      refine W.q rfl rfl rfl rfl (by decide) (Yd.lss rfl (.t rfl) (.t rfl)) ?_
      refine W.end ?_
      refine NX.sub (env' := [(0, _), (1, _), (6, _), (28, _), (29, _), (30, _)]) ⟨rfl, rfl, rfl, rfl, rfl, rfl, trivial⟩ ?_
      refine NX.then ?_
      refine Tr.seq ?_
      refine Tr.cond (.t rfl) (fun hb => ?_) (fun hb => ?_)
      · exact absurd (hb.symm.trans (fr_end hnt_94)) (by decide)
      ·
        refine Tr.exit' (EX.then (EX.then (EX.block ?_)))
        refine NX.sub (env' := [(0, _), (1, _), (6, _)]) ⟨rfl, rfl, rfl, trivial⟩ ?_
        exact hk13 _ _ ⟨_, _, rfl, rfl, hr⟩
    | succ n97 =>
      obtain ⟨nx96, hnx96, hr⟩ := forK_succ hr
      try dsimp only at hr
      unfold order_Table_b95 at hr
      try dsimp only at hr
      have hltt_94 := fr_bnd hnt_94
      refine Tr.seq ?_
      refine Tr.region_f (fun _ => false) ?_
      refine W.q rfl rfl rfl rfl (by decide) (Yd.lss rfl (.t rfl) (.t rfl)) ?_
      refine W.end ?_
      refine NX.sub (env' := [(0, _), (1, _), (6, _), (28, _), (29, _), (30, _)]) ⟨rfl, rfl, rfl, rfl, rfl, rfl, trivial⟩ ?_
      refine NX.then ?_
      refine Tr.seq ?_
      refine Tr.cond (.t rfl) (fun hb => ?_) (fun hb => ?_)
      rotate_left
      · exact absurd (hb.symm.trans (fr_go hnt_94)) (by decide)
      ·
        refine Tr.skip' ?_
        refine NX.then ?_
        refine Tr.seq ?_
        refine Tr.block ?_
        refine Tr.seq ?_
        refine Tr.region_f (fun _ => false) ?_
        refine W.q rfl rfl rfl rfl (by decide) (Yd.mv rfl (.t rfl)) ?_
        refine W.q rfl rfl rfl rfl (by decide) (Yd.as rfl (.t rfl)) ?_
        refine W.end ?_
        refine NX.sub (env' := [(0, _), (1, _), (6, _), (28, _), (29, _), (7, _)]) ⟨rfl, rfl, rfl, rfl, rfl, rfl, trivial⟩ ?_
        refine NX.then ?_
        obtain ⟨y98, hy99, hr⟩ := bind_some hr
        refine Tr.region_f (fun i => Nat.beq i 5) ?_
        refine W.q rfl rfl rfl rfl (by decide) (Yd.mv rfl (.t rfl)) ?_
        refine W.q rfl rfl rfl rfl (by decide) (Yd.mv rfl (.t rfl)) ?_
        refine W.q rfl rfl rfl rfl (by decide) (Yd.mv rfl (.t rfl)) ?_
        refine W.q rfl rfl rfl rfl (by decide) (Yd.shlU (a := 1#32) rfl .c (.t rfl) h0t_94) ?_
        refine W.q rfl rfl rfl rfl (by decide) (Yd.idxT (pos := 0) rfl hy99 rfl Try.underlying22 SZ31 (.t rfl) (.t rfl)) ?_
        refine W.s rfl rfl rfl rfl (Ef.stT (enc := encU) (n := 1) (pos := 0) (y := (1#32 <<< t_94.toNat)) (us := [_]) (fun _ => rfl) rfl hy99 rfl (.t rfl) (.t rfl) SZ31 rfl rfl rfl (by decide)) ?_
        rintro _ _ ⟨rfl, rfl⟩
        refine ⟨.inl rfl, ?_⟩
        refine W.cast (m' := m) (l' := hownT 31 1 encU v9 _ :: l) rfl rfl ?_
        refine W.end ?_
        refine NX.sub (env' := [(0, _), (1, _), (6, _), (28, _), (29, _)]) ⟨rfl, rfl, rfl, rfl, rfl, trivial⟩ ?_
        refine NX.block ?_
        refine NX.then ?_
        refine Tr.region_f (fun _ => false) ?_
        refine W.q rfl rfl rfl rfl (by decide) (Yd.add rfl (.t rfl) .c) ?_
        refine W.q rfl rfl rfl rfl (by decide) (Yd.mv rfl (.t rfl)) ?_
        refine W.end ?_
        refine NX.sub (env' := [(0, _), (1, _), (6, _), (28, _), (29, _)]) ⟨rfl, rfl, rfl, rfl, rfl, trivial⟩ ?_
        refine NX.sub (env' := [(0, _), (1, _), (6, _), (28, _), (29, _)]) ⟨rfl, rfl, rfl, rfl, rfl, trivial⟩ ?_
        have hw := w64_id (n := t_94 + 1) (by omega) (by omega)
        exact NX.again n97 (t_94 + 1, (l8.set t_94.toNat ((1#32 <<< t_94.toNat)))) (Nat.lt_succ_self _) ⟨_, (by rw [hw] <;> rfl), rfl, (fr_dec hnt_94), (by omega), ((hnx96 _).symm.trans hr)⟩

def roles_Play_c1 (s_0 : (BitVec 32)) (cp_0 : Int) : Option (Bool) :=
  bif decide (0 ≤ cp_0) then
  some (((s_0 >>> cp_0.toNat) != 0#32)) else none

set_option maxRecDepth 100000 in
set_option maxHeartbeats 4000000 in
theorem roles_Play_c1_ok (w0 : World) (m : Snap) (l : List HI) (s_0 : (BitVec 32)) (fp0 fb0 : Nat) (cp_0 : Int) (hfp0 : l[fp0]? = some (hcells fb0 [.int .i64 cp_0] 3)) (r : Bool) (hr : roles_Play_c1 s_0 cp_0 = some r) (w : World) (hc : cX w0 ⟨m, l⟩ w) :
    Calls Try.prog 34 [.int .u32 (s_0.toNat : Int), bp fb0 0].toArray w fun e w' => e = .returned (.bool r) ∧ cX w0 ⟨m, l⟩ w' := by
  unfold roles_Play_c1 at hr
  refine calls_of_Tr (N := 8) Try.func34 rfl hc rfl (Nat.le_of_ble_eq_true rfl) ?_
  refine Tr.seq ?_
  refine Tr.region_f (fun _ => false) ?_
  refine W.q rfl rfl rfl rfl (by decide) (Yd.as rfl .c) ?_
  refine W.end ?_
  refine NX.sub (env' := [(0, _), (1, _)]) ⟨rfl, rfl, trivial⟩ ?_
  refine NX.then ?_
  refine Tr.seq ?_
  obtain ⟨hq1, hr⟩ := guard_some hr; replace hq1 := of_decide_eq_true hq1
  refine Tr.region_f (fun _ => false) ?_
  refine W.q rfl rfl rfl rfl (by decide) (Yd.mv rfl (.t rfl)) ?_
  refine W.q rfl rfl rfl rfl (by decide) (Yd.ldB (pos := fp0) hfp0 rfl rfl ON3 (.t rfl)) ?_
  refine W.q rfl rfl rfl rfl (by decide) (Yd.shrU (a := s_0) rfl (.t rfl) (.t rfl) hq1) ?_
  refine W.q rfl rfl rfl rfl (by decide) (Yd.neqU (a := (s_0 >>> cp_0.toNat)) (b := 0#32) rfl (.t rfl) .c) ?_
  refine W.q rfl rfl rfl rfl (by decide) (Yd.as rfl (.t rfl)) ?_
  refine W.end ?_
  refine NX.sub (env' := [(3, _)]) ⟨rfl, trivial⟩ ?_
  refine NX.then ?_
  refine Tr.ret' ?_
  refine res1 rfl rfl ?_
  intro w hc
  cases hr
  exact ⟨rfl, hc⟩

def slices_IndexFunc_Suint32uint32_k3 : Option (Int) :=
  some ((-1 : Int))

def slices_IndexFunc_Suint32uint32_b7 (s_0 : List (BitVec 32)) (f_1 : (BitVec 32) → Option Bool) (t_6 : Int) (nx8 : Unit → Option (Int)) : Option (Int) :=
  (geti s_0 t_6).bind fun y10 =>
  (f_1 y10).bind fun r12 =>
  (bif r12 then
  some t_6
  else
  nx8 ())

def slices_IndexFunc_Suint32uint32 (s_0 : List (BitVec 32)) (f_1 : (BitVec 32) → Option Bool) : Option (Int) :=
  forK (σ := Unit) (fun i s nx_ => slices_IndexFunc_Suint32uint32_b7 s_0 f_1 i nx_) (fun _ => slices_IndexFunc_Suint32uint32_k3) ((s_0.length : Int) - (0 : Int)).toNat (0 : Int) ()

set_option maxRecDepth 100000 in
set_option maxHeartbeats 4000000 in
theorem slices_IndexFunc_Suint32uint32_ok (w0 : World) (m : Snap) (l : List HI) (us_0 : Value) (s_0 : List (BitVec 32)) (hs_0 : RS rU m us_0 s_0) (uf_1 : Value) (f_1 : (BitVec 32) → Option Bool) (hf_1 : Fq Try.prog w0 ⟨m, l⟩ uf_1 (α := (BitVec 32)) (β := Bool) (fun _ v a => v = .int .u32 (a.toNat : Int)) (fun b => .bool b) f_1) (r : Int) (hr : slices_IndexFunc_Suint32uint32 s_0 f_1 = some r) (w : World) (hc : cX w0 ⟨m, l⟩ w) :
    Calls Try.prog 45 [us_0, uf_1].toArray w fun e w' => e = .returned (.int .i64 r) ∧ cX w0 ⟨m, l⟩ w' := by
  unfold slices_IndexFunc_Suint32uint32 at hr
  refine calls_of_Tr (N := 19) Try.func45 rfl hc rfl (Nat.le_of_ble_eq_true rfl) ?_
  refine Tr.seq ?_
  refine Tr.region_f (fun _ => false) ?_
  refine W.q rfl rfl rfl rfl (by decide) (Yd.as rfl .c) ?_
  refine W.end ?_
  refine NX.sub (env' := [(0, _), (1, _)]) ⟨rfl, rfl, trivial⟩ ?_
  refine NX.then ?_
  refine Tr.seq ?_
  refine Tr.seq ?_
  refine Tr.region_f (fun _ => false) ?_
  refine W.q rfl rfl rfl rfl (by decide) (Yd.mv rfl (.t rfl)) ?_
  refine W.q rfl rfl rfl rfl (by decide) (Yd.lenR hs_0 rfl Try.underlying22 (.t rfl)) ?_
  refine W.q rfl rfl rfl rfl (by decide) (Yd.mv rfl .c) ?_
  refine W.end ?_
  refine NX.sub (env' := [(0, _), (1, _), (7, _), (8, _)]) ⟨rfl, rfl, rfl, rfl, trivial⟩ ?_
  refine NX.then ?_
  refine Tr.join (S := fun env x => env = [] ∧ x = ⟨m, l⟩ ∧ slices_IndexFunc_Suint32uint32_k3 = some r) ?_ (fun hk4 => ?_)
  · rintro _ _ ⟨rfl, rfl, hr⟩
    unfold slices_IndexFunc_Suint32uint32_k3 at hr
    try dsimp only at hr
    refine NX.then ?_
    refine Tr.seq ?_
    refine Tr.region_f (fun _ => false) ?_
    refine W.q rfl rfl rfl rfl (by decide) (Yd.as rfl .c) ?_
    refine W.end ?_
    refine NX.sub (env' := [(4, _)]) ⟨rfl, trivial⟩ ?_
    refine NX.then ?_
    refine Tr.ret' ?_
    refine res1 rfl rfl ?_
    intro w hc
    cases hr
    exact ⟨rfl, hc⟩
  have hlen5 := (hs_0).2.1
  refine Tr.block ?_
  refine Tr.sub (env' := [(0, _), (1, _), (7, _), (8, _)]) ⟨rfl, rfl, rfl, rfl, trivial⟩ ?_
  refine Tr.loop (S := fun n (z : Int × Unit) env x => match z with | (t_6, _) => env = [(0, us_0), (1, uf_1), (7, .int .i64 ((s_0.length : Int))), (8, .int .i64 t_6)] ∧ x = ⟨m, l⟩ ∧ n = ((s_0.length : Int) - t_6).toNat ∧ 0 ≤ t_6 ∧ forK (σ := Unit) (fun i s nx_ => slices_IndexFunc_Suint32uint32_b7 s_0 f_1 i nx_) (fun _ => slices_IndexFunc_Suint32uint32_k3) n t_6 () = some r) _ ((0 : Int), ()) ⟨rfl, rfl, rfl, (by omega), hr⟩ ?_
  rintro n9 ⟨t_6, _⟩ env x ⟨rfl, rfl, hnt_6, h0t_6, hr⟩
  cases n9 with
  | zero =>
    simp only [forK] at hr
    refine Tr.seq ?_
    refine Tr.region_f (fun _ => false) ?_
    refine W.q rfl rfl rfl rfl (by decide) (Yd.lss rfl (.t rfl) (.t rfl)) ?_
    refine W.end ?_
    refine NX.sub (env' := [(0, _), (1, _), (7, _), (8, _), (9, _)]) ⟨rfl, rfl, rfl, rfl, rfl, trivial⟩ ?_
    refine NX.then ?_
    refine Tr.seq ?_
    refine Tr.cond (.t rfl) (fun hb => ?_) (fun hb => ?_)
    · exact absurd (hb.symm.trans (fr_end hnt_6)) (by decide)
    ·
      refine Tr.exit' (EX.then (EX.then (EX.block ?_)))
      refine NX.sub (env' := []) trivial ?_
      exact hk4 _ _ ⟨rfl, rfl, hr⟩
  | succ n9 =>
    obtain ⟨nx8, hnx8, hr⟩ := forK_succ hr
    try dsimp only at hr
    unfold slices_IndexFunc_Suint32uint32_b7 at hr
    try dsimp only at hr
    have hltt_6 := fr_bnd hnt_6
    refine Tr.seq ?_
    refine Tr.region_f (fun _ => false) ?_
    refine W.q rfl rfl rfl rfl (by decide) (Yd.lss rfl (.t rfl) (.t rfl)) ?_
    refine W.end ?_
    refine NX.sub (env' := [(0, _), (1, _), (7, _), (8, _), (9, _)]) ⟨rfl, rfl, rfl, rfl, rfl, trivial⟩ ?_
    refine NX.then ?_
    refine Tr.seq ?_
    refine Tr.cond (.t rfl) (fun hb => ?_) (fun hb => ?_)
    rotate_left
    · exact absurd (hb.symm.trans (fr_go hnt_6)) (by decide)
    ·
      refine Tr.skip' ?_
      refine NX.then ?_
      refine Tr.seq ?_
      refine Tr.block ?_
      refine Tr.seq ?_
      refine Tr.region_f (fun _ => false) ?_
      refine W.q rfl rfl rfl rfl (by decide) (Yd.mv rfl (.t rfl)) ?_
      refine W.q rfl rfl rfl rfl (by decide) (Yd.as rfl (.t rfl)) ?_
      refine W.end ?_
      refine NX.sub (env' := [(0, _), (1, _), (7, _), (8, _), (5, _)]) ⟨rfl, rfl, rfl, rfl, rfl, trivial⟩ ?_
      refine NX.then ?_
      refine Tr.seq ?_
      obtain ⟨y10, hy11, hr⟩ := bind_some hr
      obtain ⟨r12, hr13, hr⟩ := bind_some hr
      refine Tr.region_f (fun _ => false) ?_
      refine W.q rfl rfl rfl rfl (by decide) (Yd.mv rfl (.t rfl)) ?_
      refine W.q rfl rfl rfl rfl (by decide) (Yd.mv rfl (.t rfl)) ?_
      refine W.q rfl rfl rfl rfl (by decide) (Yd.mv rfl (.t rfl)) ?_
      refine W.q rfl rfl rfl rfl (by decide) (Yd.idxR hs_0 hy11 rfl Try.underlying22 SZ31 (.t rfl) (.t rfl)) ?_
      refine W.q rfl rfl rfl rfl (by decide) (Yd.ldF hs_0 (.refl _) hy11 rfl rfl ON31 (.t rfl)) ?_
      refine W.q rfl rfl rfl rfl (by decide) (Yd.callF hf_1 ⟨(.refl _), [], rfl⟩ rfl (.t rfl) (.t rfl) (fun _ _ => rfl) hr13) ?_
      refine W.end ?_
      refine NX.sub (env' := [(0, _), (1, _), (7, _), (8, _), (5, _), (16, _)]) ⟨rfl, rfl, rfl, rfl, rfl, rfl, trivial⟩ ?_
      refine NX.then ?_
      refine Tr.cond (.t rfl) (fun hb => ?_) (fun hb => ?_)
      · have hr := cond_t hb hr
        refine Tr.seq ?_
        refine Tr.region_f (fun _ => false) ?_
        refine W.q rfl rfl rfl rfl (by decide) (Yd.mv rfl (.t rfl)) ?_
        refine W.q rfl rfl rfl rfl (by decide) (Yd.as rfl (.t rfl)) ?_
        refine W.end ?_
        refine NX.sub (env' := [(4, _)]) ⟨rfl, trivial⟩ ?_
        refine NX.then ?_
        refine Tr.ret' (RT.block (RT.then (RT.then (RT.block (RT.then ?_)))))
        refine res1 rfl rfl ?_
        intro w hc
        cases hr
        exact ⟨rfl, hc⟩
      · have hr := cond_f hb hr
        refine Tr.skip' ?_
        refine NX.block ?_
        refine NX.then ?_
        refine Tr.region_f (fun _ => false) ?_
        refine W.q rfl rfl rfl rfl (by decide) (Yd.add rfl (.t rfl) .c) ?_
        refine W.q rfl rfl rfl rfl (by decide) (Yd.mv rfl (.t rfl)) ?_
        refine W.end ?_
        refine NX.sub (env' := [(0, _), (1, _), (7, _), (8, _)]) ⟨rfl, rfl, rfl, rfl, trivial⟩ ?_
        refine NX.sub (env' := [(0, _), (1, _), (7, _), (8, _)]) ⟨rfl, rfl, rfl, rfl, trivial⟩ ?_
        have hw := w64_id (n := t_6 + 1) (by omega) (by omega)
        exact NX.again n9 (t_6 + 1, ()) (Nat.lt_succ_self _) ⟨(by rw [hw] <;> rfl), rfl, (fr_dec hnt_6), (by omega), ((hnx8 _).symm.trans hr)⟩

def slices_ContainsFunc_Suint32uint32 (s_0 : List (BitVec 32)) (f_1 : (BitVec 32) → Option Bool) : Option (Bool) :=
  (slices_IndexFunc_Suint32uint32 s_0 f_1).bind fun r1 =>
  some ((decide (r1 ≥ (0 : Int))))

set_option maxRecDepth 100000 in
set_option maxHeartbeats 4000000 in
theorem slices_ContainsFunc_Suint32uint32_ok (w0 : World) (m : Snap) (l : List HI) (us_0 : Value) (s_0 : List (BitVec 32)) (hs_0 : RS rU m us_0 s_0) (uf_1 : Value) (f_1 : (BitVec 32) → Option Bool) (hf_1 : Fq Try.prog w0 ⟨m, l⟩ uf_1 (α := (BitVec 32)) (β := Bool) (fun _ v a => v = .int .u32 (a.toNat : Int)) (fun b => .bool b) f_1) (r : Bool) (hr : slices_ContainsFunc_Suint32uint32 s_0 f_1 = some r) (w : World) (hc : cX w0 ⟨m, l⟩ w) :
    Calls Try.prog 33 [us_0, uf_1].toArray w fun e w' => e = .returned (.bool r) ∧ cX w0 ⟨m, l⟩ w' := by
  unfold slices_ContainsFunc_Suint32uint32 at hr
  refine calls_of_Tr (N := 9) Try.func33 rfl hc rfl (Nat.le_of_ble_eq_true rfl) ?_
  refine Tr.seq ?_
  refine Tr.region_f (fun _ => false) ?_
  refine W.q rfl rfl rfl rfl (by decide) (Yd.as rfl .c) ?_
  refine W.end ?_
  refine NX.sub (env' := [(0, _), (1, _)]) ⟨rfl, rfl, trivial⟩ ?_
  refine NX.then ?_
  refine Tr.seq ?_
  obtain ⟨r1, hr2, hr⟩ := bind_some hr
  refine Tr.region_f (fun _ => false) ?_
  refine W.q rfl rfl rfl rfl (by decide) (Yd.mv rfl (.t rfl)) ?_
  refine W.q rfl rfl rfl rfl (by decide) (Yd.mv rfl (.t rfl)) ?_
  refine W.q rfl rfl rfl rfl (by decide) (Yd.call (v := .int .i64 r1) rfl Try.func45 rfl rfl (.cons (.t rfl) (.cons (.t rfl) .nil)) (fun x' hx w hw => slices_IndexFunc_Suint32uint32_ok w0 x'.m x'.l _ _ (hs_0.mono hx.1) _ f_1 (hf_1.mono (leX_trans _ _ _ ⟨(.refl _), [], rfl⟩ hx)) _ hr2 w hw)) ?_
  refine W.q rfl rfl rfl rfl (by decide) (Yd.geq rfl (.t rfl) .c) ?_
  refine W.q rfl rfl rfl rfl (by decide) (Yd.as rfl (.t rfl)) ?_
  refine W.end ?_
  refine NX.sub (env' := [(4, _)]) ⟨rfl, trivial⟩ ?_
  refine NX.then ?_
  refine Tr.ret' ?_
  refine res1 rfl rfl ?_
  intro w hc
  cases hr
  exact ⟨rfl, hc⟩

def roles_below_k6 (out_5 : BitVec 32) : Option ((BitVec 32)) :=
  some out_5

def roles_below_b10 (up_0 : List (BitVec 32)) (set_1 : (BitVec 32)) (t_9 : Int) (out_3 : BitVec 32) (nx11 : (BitVec 32) → Option ((BitVec 32))) : Option ((BitVec 32)) :=
  (geti up_0 t_9).bind fun y13 =>
  (bif ((y13 &&& set_1) != 0#32) then
  nx11 (out_3 ||| (1#32 <<< t_9.toNat))
  else
  nx11 out_3)

def roles_below (up_0 : List (BitVec 32)) (set_1 : (BitVec 32)) : Option ((BitVec 32)) :=
  forK (σ := (BitVec 32)) (fun i s nx_ => roles_below_b10 up_0 set_1 i s nx_) (fun s => roles_below_k6 s) ((up_0.length : Int) - (0 : Int)).toNat (0 : Int) (0#32)

set_option maxRecDepth 100000 in
set_option maxHeartbeats 4000000 in
theorem roles_below_ok (w0 : World) (m : Snap) (l : List HI) (uup_0 : Value) (up_0 : List (BitVec 32)) (hup_0 : RS rU m uup_0 up_0) (set_1 : (BitVec 32)) (r : (BitVec 32)) (hr : roles_below up_0 set_1 = some r) (w : World) (hc : cX w0 ⟨m, l⟩ w) :
    Calls Try.prog 46 [uup_0, .int .u32 (set_1.toNat : Int)].toArray w fun e w' => e = .returned (.int .u32 (r.toNat : Int)) ∧ cX w0 ⟨m, l⟩ w' := by
  unfold roles_below at hr
  refine calls_of_Tr (N := 25) Try.func46 rfl hc rfl (Nat.le_of_ble_eq_true rfl) ?_
  refine Tr.seq ?_
  refine Tr.region_f (fun _ => false) ?_
  refine W.q rfl rfl rfl rfl (by decide) (Yd.as rfl .c) ?_
  refine W.end ?_
  refine NX.sub (env' := [(0, _), (1, _)]) ⟨rfl, rfl, trivial⟩ ?_
  refine NX.then ?_
  refine Tr.seq ?_
  refine Tr.region_f (fun _ => false) ?_
  refine W.q rfl rfl rfl rfl (by decide) (Yd.as rfl .c) ?_
  refine W.end ?_
  refine NX.sub (env' := [(0, _), (1, _), (5, _)]) ⟨rfl, rfl, rfl, trivial⟩ ?_
  refine NX.then ?_
  refine Tr.seq ?_
  refine Tr.seq ?_
  refine Tr.region_f (fun _ => false) ?_
  refine W.q rfl rfl rfl rfl (by decide) (Yd.mv rfl (.t rfl)) ?_
  refine W.q rfl rfl rfl rfl (by decide) (Yd.lenR hup_0 rfl Try.underlying22 (.t rfl)) ?_
  refine W.q rfl rfl rfl rfl (by decide) (Yd.mv rfl .c) ?_
  refine W.end ?_
  refine NX.sub (env' := [(1, _), (5, _), (8, _), (9, _), (10, _)]) ⟨rfl, rfl, rfl, rfl, rfl, trivial⟩ ?_
  refine NX.then ?_
  refine Tr.join (S := fun env x => ∃ out_5 : BitVec 32, env = [(5, .int .u32 (out_5.toNat : Int))] ∧ x = ⟨m, l⟩ ∧ roles_below_k6 out_5 = some r) ?_ (fun hk7 => ?_)
  · rintro _ _ ⟨out_5, rfl, rfl, hr⟩
    unfold roles_below_k6 at hr
    try dsimp only at hr
    refine NX.then ?_
    refine Tr.seq ?_
    refine Tr.region_f (fun _ => false) ?_
    refine W.q rfl rfl rfl rfl (by decide) (Yd.mv rfl (.t rfl)) ?_
    refine W.q rfl rfl rfl rfl (by decide) (Yd.as rfl (.t rfl)) ?_
    refine W.end ?_
    refine NX.sub (env' := [(4, _)]) ⟨rfl, trivial⟩ ?_
    refine NX.then ?_
    refine Tr.ret' ?_
    refine res1 rfl rfl ?_
    intro w hc
    cases hr
    exact ⟨rfl, hc⟩
  have hlen8 := (hup_0).2.1
  refine Tr.block ?_
  refine Tr.sub (env' := [(1, _), (5, _), (8, _), (9, _), (10, _)]) ⟨rfl, rfl, rfl, rfl, rfl, trivial⟩ ?_
  refine Tr.loop (S := fun n (z : Int × (BitVec 32)) env x => match z with | (t_9, out_3) => env = [(1, .int .u32 (set_1.toNat : Int)), (5, .int .u32 (out_3.toNat : Int)), (8, uup_0), (9, .int .i64 ((up_0.length : Int))), (10, .int .i64 t_9)] ∧ x = ⟨m, l⟩ ∧ n = ((up_0.length : Int) - t_9).toNat ∧ 0 ≤ t_9 ∧ forK (σ := (BitVec 32)) (fun i s nx_ => roles_below_b10 up_0 set_1 i s nx_) (fun s => roles_below_k6 s) n t_9 out_3 = some r) _ ((0 : Int), 0#32) ⟨rfl, rfl, rfl, (by omega), hr⟩ ?_
  rintro n12 ⟨t_9, out_3⟩ env x ⟨rfl, rfl, hnt_9, h0t_9, hr⟩
  cases n12 with
  | zero =>
    simp only [forK] at hr
    refine Tr.seq ?_
    refine Tr.region_f (fun _ => false) ?_
    refine W.q rfl rfl rfl rfl (by decide) (Yd.lss rfl (.t rfl) (.t rfl)) ?_
    refine W.end ?_
    refine NX.sub (env' := [(1, _), (5, _), (8, _), (9, _), (10, _), (11, _)]) ⟨rfl, rfl, rfl, rfl, rfl, rfl, trivial⟩ ?_
    refine NX.then ?_
    refine Tr.seq ?_
    refine Tr.cond (.t rfl) (fun hb => ?_) (fun hb => ?_)
    · exact absurd (hb.symm.trans (fr_end hnt_9)) (by decide)
    ·
      refine Tr.exit' (EX.then (EX.then (EX.block ?_)))
      refine NX.sub (env' := [(5, _)]) ⟨rfl, trivial⟩ ?_
      exact hk7 _ _ ⟨_, rfl, rfl, hr⟩
  | succ n12 =>
    obtain ⟨nx11, hnx11, hr⟩ := forK_succ hr
    try dsimp only at hr
    unfold roles_below_b10 at hr
    try dsimp only at hr
    have hltt_9 := fr_bnd hnt_9
    refine Tr.seq ?_
    refine Tr.region_f (fun _ => false) ?_
    refine W.q rfl rfl rfl rfl (by decide) (Yd.lss rfl (.t rfl) (.t rfl)) ?_
    refine W.end ?_
    refine NX.sub (env' := [(1, _), (5, _), (8, _), (9, _), (10, _), (11, _)]) ⟨rfl, rfl, rfl, rfl, rfl, rfl, trivial⟩ ?_
    refine NX.then ?_
    refine Tr.seq ?_
    refine Tr.cond (.t rfl) (fun hb => ?_) (fun hb => ?_)
    rotate_left
    · exact absurd (hb.symm.trans (fr_go hnt_9)) (by decide)
    ·
      refine Tr.skip' ?_
      refine NX.then ?_
      refine Tr.seq ?_
      refine Tr.block ?_
      refine Tr.seq ?_
      obtain ⟨y13, hy14, hr⟩ := bind_some hr
      refine Tr.region_f (fun _ => false) ?_
      refine W.q rfl rfl rfl rfl (by decide) (Yd.mv rfl (.t rfl)) ?_
      refine W.q rfl rfl rfl rfl (by decide) (Yd.idxR hup_0 hy14 rfl Try.underlying22 SZ31 (.t rfl) (.t rfl)) ?_
      refine W.q rfl rfl rfl rfl (by decide) (Yd.ldF hup_0 (.refl _) hy14 rfl rfl ON31 (.t rfl)) ?_
      refine W.q rfl rfl rfl rfl (by decide) (Yd.as rfl (.t rfl)) ?_
      refine W.q rfl rfl rfl rfl (by decide) (Yd.as rfl (.t rfl)) ?_
      refine W.end ?_
      refine NX.sub (env' := [(1, _), (5, _), (8, _), (9, _), (10, _), (6, _), (7, _)]) ⟨rfl, rfl, rfl, rfl, rfl, rfl, rfl, trivial⟩ ?_
      refine NX.then ?_
      refine Tr.seq ?_
      refine Tr.region_f (fun _ => false) ?_
      refine W.q rfl rfl rfl rfl (by decide) (Yd.mv rfl (.t rfl)) ?_
      refine W.q rfl rfl rfl rfl (by decide) (Yd.mv rfl (.t rfl)) ?_
      refine W.q rfl rfl rfl rfl (by decide) (Yd.andU (a := y13) (b := set_1) rfl (.t rfl) (.t rfl)) ?_
      refine W.q rfl rfl rfl rfl (by decide) (Yd.neqU (a := (y13 &&& set_1)) (b := 0#32) rfl (.t rfl) .c) ?_
      refine W.end ?_
      refine NX.sub (env' := [(1, _), (5, _), (8, _), (9, _), (10, _), (6, _), (18, _)]) ⟨rfl, rfl, rfl, rfl, rfl, rfl, rfl, trivial⟩ ?_
      refine NX.then ?_
      refine Tr.cond (.t rfl) (fun hb => ?_) (fun hb => ?_)
      · have hr := cond_t hb hr
        refine Tr.region_f (fun _ => false) ?_
        refine W.q rfl rfl rfl rfl (by decide) (Yd.mv rfl (.t rfl)) ?_
        refine W.q rfl rfl rfl rfl (by decide) (Yd.mv rfl (.t rfl)) ?_
        refine W.q rfl rfl rfl rfl (by decide) (Yd.shlU (a := 1#32) rfl .c (.t rfl) h0t_9) ?_
        refine W.q rfl rfl rfl rfl (by decide) (Yd.orU (a := out_3) (b := (1#32 <<< t_9.toNat)) rfl (.t rfl) (.t rfl)) ?_
        refine W.q rfl rfl rfl rfl (by decide) (Yd.as rfl (.t rfl)) ?_
        refine W.end ?_
        refine NX.sub (env' := [(1, _), (5, _), (8, _), (9, _), (10, _)]) ⟨rfl, rfl, rfl, rfl, rfl, trivial⟩ ?_
        refine NX.block ?_
        refine NX.then ?_
        refine Tr.region_f (fun _ => false) ?_
        refine W.q rfl rfl rfl rfl (by decide) (Yd.add rfl (.t rfl) .c) ?_
        refine W.q rfl rfl rfl rfl (by decide) (Yd.mv rfl (.t rfl)) ?_
        refine W.end ?_
        refine NX.sub (env' := [(1, _), (5, _), (8, _), (9, _), (10, _)]) ⟨rfl, rfl, rfl, rfl, rfl, trivial⟩ ?_
        refine NX.sub (env' := [(1, _), (5, _), (8, _), (9, _), (10, _)]) ⟨rfl, rfl, rfl, rfl, rfl, trivial⟩ ?_
        have hw := w64_id (n := t_9 + 1) (by omega) (by omega)
        exact NX.again n12 (t_9 + 1, (out_3 ||| (1#32 <<< t_9.toNat))) (Nat.lt_succ_self _) ⟨(by rw [hw] <;> rfl), rfl, (fr_dec hnt_9), (by omega), ((hnx11 _).symm.trans hr)⟩
      · have hr := cond_f hb hr
        refine Tr.skip' ?_
        refine NX.block ?_
        refine NX.then ?_
        refine Tr.region_f (fun _ => false) ?_
        refine W.q rfl rfl rfl rfl (by decide) (Yd.add rfl (.t rfl) .c) ?_
        refine W.q rfl rfl rfl rfl (by decide) (Yd.mv rfl (.t rfl)) ?_
        refine W.end ?_
        refine NX.sub (env' := [(1, _), (5, _), (8, _), (9, _), (10, _)]) ⟨rfl, rfl, rfl, rfl, rfl, trivial⟩ ?_
        refine NX.sub (env' := [(1, _), (5, _), (8, _), (9, _), (10, _)]) ⟨rfl, rfl, rfl, rfl, rfl, trivial⟩ ?_
        have hw := w64_id (n := t_9 + 1) (by omega) (by omega)
        exact NX.again n12 (t_9 + 1, out_3) (Nat.lt_succ_self _) ⟨(by rw [hw] <;> rfl), rfl, (fr_dec hnt_9), (by omega), ((hnx11 _).symm.trans hr)⟩

def math_bits_OnesCount32 (x_0 : (BitVec 32)) : Option (Int) :=
  (geti tbl1024256 ((((x_0 >>> 24)).toNat : Int))).bind fun y1 =>
  (geti tbl1024256 (((((x_0 >>> 16) &&& 255#32)).toNat : Int))).bind fun y3 =>
  (geti tbl1024256 (((((x_0 >>> 8) &&& 255#32)).toNat : Int))).bind fun y5 =>
  (geti tbl1024256 ((((x_0 &&& 255#32)).toNat : Int))).bind fun y7 =>
  some ((((((y1 + y3) + y5) + y7)).toNat : Int))

set_option maxRecDepth 100000 in
set_option maxHeartbeats 4000000 in
theorem math_bits_OnesCount32_ok (w0 : World) (m : Snap) (l : List HI) (x_0 : (BitVec 32)) (r : Int) (hr : math_bits_OnesCount32 x_0 = some r) (w : World) (hc : cX w0 ⟨m, l⟩ w) :
    Calls Try.prog 48 [.int .u32 (x_0.toNat : Int)].toArray w fun e w' => e = .returned (.int .i64 r) ∧ cX w0 ⟨m, l⟩ w' := by
  unfold math_bits_OnesCount32 at hr
  refine calls_of_Tr (N := 21) Try.func48 rfl hc rfl (Nat.le_of_ble_eq_true rfl) ?_
  refine Tr.seq ?_
  refine Tr.region_f (fun _ => false) ?_
  refine W.q rfl rfl rfl rfl (by decide) (Yd.as rfl .c) ?_
  refine W.end ?_
  refine NX.sub (env' := [(0, _)]) ⟨rfl, trivial⟩ ?_
  refine NX.then ?_
  refine Tr.seq ?_
  obtain ⟨y1, hy2, hr⟩ := bind_some hr
  obtain ⟨y3, hy4, hr⟩ := bind_some hr
  obtain ⟨y5, hy6, hr⟩ := bind_some hr
  obtain ⟨y7, hy8, hr⟩ := bind_some hr
  refine Tr.region_x (fun _ => false) (fun _ => false) (Ord.of [0, 1, 2, 3, 4, 5, 6, 7, 8, 9, 10, 11, 12, 13, 14, 15, 16, 17, 18]) FM (by kernel_rfl) ?_
  refine W.q rfl rfl rfl rfl (by decide) (Yd.mv rfl (.t rfl)) ?_
  refine W.q rfl rfl rfl rfl (by decide) (Yd.shrU (a := x_0) rfl (.t rfl) .c (by decide)) ?_
  refine W.q rfl rfl rfl rfl (by decide) (Yd.ixS rfl Try.underlying9 .c (tb := tbl1024256) (by kernel_rfl) (.t rfl) hy2) ?_
  refine W.q rfl rfl rfl rfl (by decide) (Yd.mv rfl (.t rfl)) ?_
  refine W.q rfl rfl rfl rfl (by decide) (Yd.shrU (a := x_0) rfl (.t rfl) .c (by decide)) ?_
  refine W.q rfl rfl rfl rfl (by decide) (Yd.andU (a := (x_0 >>> 16)) (b := 255#32) rfl (.t rfl) .c) ?_
  refine W.q rfl rfl rfl rfl (by decide) (Yd.ixS rfl Try.underlying9 .c (tb := tbl1024256) (by kernel_rfl) (.t rfl) hy4) ?_
  refine W.q rfl rfl rfl rfl (by decide) (Yd.addY (a := y1) (b := y3) rfl (.t rfl) (.t rfl)) ?_
  refine W.q rfl rfl rfl rfl (by decide) (Yd.mv rfl (.t rfl)) ?_
  refine W.q rfl rfl rfl rfl (by decide) (Yd.shrU (a := x_0) rfl (.t rfl) .c (by decide)) ?_
  refine W.q rfl rfl rfl rfl (by decide) (Yd.andU (a := (x_0 >>> 8)) (b := 255#32) rfl (.t rfl) .c) ?_
  refine W.q rfl rfl rfl rfl (by decide) (Yd.ixS rfl Try.underlying9 .c (tb := tbl1024256) (by kernel_rfl) (.t rfl) hy6) ?_
  refine W.q rfl rfl rfl rfl (by decide) (Yd.addY (a := (y1 + y3)) (b := y5) rfl (.t rfl) (.t rfl)) ?_
  refine W.q rfl rfl rfl rfl (by decide) (Yd.mv rfl (.t rfl)) ?_
  refine W.q rfl rfl rfl rfl (by decide) (Yd.andU (a := x_0) (b := 255#32) rfl (.t rfl) .c) ?_
  refine W.q rfl rfl rfl rfl (by decide) (Yd.ixS rfl Try.underlying9 .c (tb := tbl1024256) (by kernel_rfl) (.t rfl) hy8) ?_
  refine W.q rfl rfl rfl rfl (by decide) (Yd.addY (a := ((y1 + y3) + y5)) (b := y7) rfl (.t rfl) (.t rfl)) ?_
  refine W.q rfl rfl rfl rfl (by decide) (Yd.cvBI (a := (((y1 + y3) + y5) + y7)) rfl US5 Try.underlying3 (.t rfl)) ?_
  refine W.q rfl rfl rfl rfl (by decide) (Yd.as rfl (.t rfl)) ?_
  refine W.end ?_
  refine NX.sub (env' := [(2, _)]) ⟨rfl, trivial⟩ ?_
  refine NX.then ?_
  refine Tr.ret' ?_
  refine res1 rfl rfl ?_
  intro w hc
  cases hr
  exact ⟨rfl, hc⟩

def roles_office_do_c1 (s_0 : (BitVec 32)) (cp_0 : (BitVec 32)) : Option (Bool) :=
  (math_bits_OnesCount32 ((s_0 &&& cp_0))).bind fun r1 =>
  some ((decide (r1 > (1 : Int))))

set_option maxRecDepth 100000 in
set_option maxHeartbeats 4000000 in
theorem roles_office_do_c1_ok (w0 : World) (m : Snap) (l : List HI) (s_0 : (BitVec 32)) (fp0 fb0 : Nat) (cp_0 : (BitVec 32)) (hfp0 : l[fp0]? = some (hcells fb0 [.int .u32 (cp_0.toNat : Int)] 31)) (r : Bool) (hr : roles_office_do_c1 s_0 cp_0 = some r) (w : World) (hc : cX w0 ⟨m, l⟩ w) :
    Calls Try.prog 47 [.int .u32 (s_0.toNat : Int), bp fb0 0].toArray w fun e w' => e = .returned (.bool r) ∧ cX w0 ⟨m, l⟩ w' := by
  unfold roles_office_do_c1 at hr
  refine calls_of_Tr (N := 9) Try.func47 rfl hc rfl (Nat.le_of_ble_eq_true rfl) ?_
  refine Tr.seq ?_
  refine Tr.region_f (fun _ => false) ?_
  refine W.q rfl rfl rfl rfl (by decide) (Yd.as rfl .c) ?_
  refine W.end ?_
  refine NX.sub (env' := [(0, _), (1, _)]) ⟨rfl, rfl, trivial⟩ ?_
  refine NX.then ?_
  refine Tr.seq ?_
  obtain ⟨r1, hr2, hr⟩ := bind_some hr
  refine Tr.region_f (fun _ => false) ?_
  refine W.q rfl rfl rfl rfl (by decide) (Yd.mv rfl (.t rfl)) ?_
  refine W.q rfl rfl rfl rfl (by decide) (Yd.ldB (pos := fp0) hfp0 rfl rfl ON31 (.t rfl)) ?_
  refine W.q rfl rfl rfl rfl (by decide) (Yd.andU (a := s_0) (b := cp_0) rfl (.t rfl) (.t rfl)) ?_
  refine W.q rfl rfl rfl rfl (by decide) (Yd.call (v := .int .i64 r1) rfl Try.func48 rfl rfl (.cons (.t rfl) .nil) (fun x' hx w hw => math_bits_OnesCount32_ok w0 x'.m x'.l ((s_0 &&& cp_0)) _ hr2 w hw)) ?_
  refine W.q rfl rfl rfl rfl (by decide) (Yd.gtr rfl (.t rfl) .c) ?_
  refine W.q rfl rfl rfl rfl (by decide) (Yd.as rfl (.t rfl)) ?_
  refine W.end ?_
  refine NX.sub (env' := [(3, _)]) ⟨rfl, trivial⟩ ?_
  refine NX.then ?_
  refine Tr.ret' ?_
  refine res1 rfl rfl ?_
  intro w hc
  cases hr
  exact ⟨rfl, hc⟩

def roles_office_do (o_0 : T70) (d_1 : Deed) : Option (Int × T70) :=
  (bif ((decide (d_1.kind < (1 : Int))) || (decide (d_1.kind > (4 : Int)))) then
  some (((6 : Int), ({ up := o_0.up, odds := o_0.odds, roles := ({ codes := o_0.roles.codes, given := o_0.roles.given, play := o_0.roles.play } : Roles) } : T70)))
  else
  (bif ((((decide (d_1.by_ < (0 : Int))) || (decide (d_1.by_ ≥ (o_0.roles.given.length : Int)))) || (decide (d_1.to < (0 : Int)))) || (decide (d_1.to ≥ (o_0.up.length : Int)))) then
  some (((2 : Int), ({ up := o_0.up, odds := o_0.odds, roles := ({ codes := o_0.roles.codes, given := o_0.roles.given, play := o_0.roles.play } : Roles) } : T70)))
  else
  (geti o_0.roles.given d_1.by_).bind fun y3 =>
  (geti o_0.roles.play d_1.by_).bind fun y5 =>
  bif decide (0 ≤ d_1.to) then
  (bif (d_1.kind == (1 : Int)) then
  (geti o_0.roles.given d_1.by_).bind fun y8 =>
  (roles_below o_0.up ((y8 ||| (1#32 <<< d_1.to.toNat)))).bind fun r10 =>
  (slices_ContainsFunc_Suint32uint32 o_0.odds (fun a => roles_office_do_c1 a r10)).bind fun r14 =>
  (bif r14 then
  some (((7 : Int), ({ up := o_0.up, odds := o_0.odds, roles := ({ codes := o_0.roles.codes, given := o_0.roles.given, play := o_0.roles.play } : Roles) } : T70)))
  else
  (geti o_0.roles.given d_1.by_).bind fun y16 =>
  (bif ((y16 &&& (1#32 <<< d_1.to.toNat)) != 0#32) then
  some (((5 : Int), ({ up := o_0.up, odds := o_0.odds, roles := ({ codes := o_0.roles.codes, given := o_0.roles.given, play := o_0.roles.play } : Roles) } : T70)))
  else
  (geti o_0.roles.given d_1.by_).bind fun y18 =>
  some (((0 : Int), ({ up := o_0.up, odds := o_0.odds, roles := ({ codes := o_0.roles.codes, given := (o_0.roles.given.set d_1.by_.toNat ((y18 ||| (1#32 <<< d_1.to.toNat)))), play := o_0.roles.play } : Roles) } : T70)))))
  else
  (bif (d_1.kind == (2 : Int)) then
  (geti o_0.roles.given d_1.by_).bind fun y20 =>
  (bif ((y20 &&& (1#32 <<< d_1.to.toNat)) == 0#32) then
  some (((5 : Int), ({ up := o_0.up, odds := o_0.odds, roles := ({ codes := o_0.roles.codes, given := o_0.roles.given, play := o_0.roles.play } : Roles) } : T70)))
  else
  (geti o_0.roles.given d_1.by_).bind fun y22 =>
  (geti o_0.roles.play d_1.by_).bind fun y24 =>
  (geti ((o_0.roles.given.set d_1.by_.toNat ((y22 &&& ~~~(1#32 <<< d_1.to.toNat))))) d_1.by_).bind fun y26 =>
  (roles_below o_0.up y26).bind fun r28 =>
  some (((0 : Int), ({ up := o_0.up, odds := o_0.odds, roles := ({ codes := o_0.roles.codes, given := (o_0.roles.given.set d_1.by_.toNat ((y22 &&& ~~~(1#32 <<< d_1.to.toNat)))), play := (o_0.roles.play.set d_1.by_.toNat ((y24 &&& r28))) } : Roles) } : T70))))
  else
  (bif (d_1.kind == (3 : Int)) then
  (geti o_0.roles.given d_1.by_).bind fun y30 =>
  (roles_below o_0.up y30).bind fun r32 =>
  (bif ((r32 &&& (1#32 <<< d_1.to.toNat)) == 0#32) then
  some (((7 : Int), ({ up := o_0.up, odds := o_0.odds, roles := ({ codes := o_0.roles.codes, given := o_0.roles.given, play := o_0.roles.play } : Roles) } : T70)))
  else
  (geti o_0.roles.play d_1.by_).bind fun y34 =>
  (bif ((y34 &&& (1#32 <<< d_1.to.toNat)) != 0#32) then
  some (((5 : Int), ({ up := o_0.up, odds := o_0.odds, roles := ({ codes := o_0.roles.codes, given := o_0.roles.given, play := o_0.roles.play } : Roles) } : T70)))
  else
  (geti o_0.roles.play d_1.by_).bind fun y36 =>
  some (((0 : Int), ({ up := o_0.up, odds := o_0.odds, roles := ({ codes := o_0.roles.codes, given := o_0.roles.given, play := (o_0.roles.play.set d_1.by_.toNat ((y36 ||| (1#32 <<< d_1.to.toNat)))) } : Roles) } : T70)))))
  else
  (bif (d_1.kind == (4 : Int)) then
  (geti o_0.roles.play d_1.by_).bind fun y38 =>
  (bif ((y38 &&& (1#32 <<< d_1.to.toNat)) == 0#32) then
  some (((5 : Int), ({ up := o_0.up, odds := o_0.odds, roles := ({ codes := o_0.roles.codes, given := o_0.roles.given, play := o_0.roles.play } : Roles) } : T70)))
  else
  (geti o_0.roles.play d_1.by_).bind fun y40 =>
  some (((0 : Int), ({ up := o_0.up, odds := o_0.odds, roles := ({ codes := o_0.roles.codes, given := o_0.roles.given, play := (o_0.roles.play.set d_1.by_.toNat ((y40 &&& ~~~(1#32 <<< d_1.to.toNat)))) } : Roles) } : T70))))
  else
  some (((0 : Int), ({ up := o_0.up, odds := o_0.odds, roles := ({ codes := o_0.roles.codes, given := o_0.roles.given, play := o_0.roles.play } : Roles) } : T70))))))) else none))

set_option maxRecDepth 100000 in
set_option maxHeartbeats 4000000 in
theorem roles_office_do_ok (w0 : World) (m : Snap) (l : List HI) (bo_0 : Nat) (o_0 : T70) (uo_0_0 : Value) (uo_0_1 : Value) (ho_0_1 : RS rU m uo_0_1 o_0.odds) (uo_0_2 : Value) (uo_0_3 : Value) (uo_0_4 : Value) (d_1 : Deed) (r : Int × T70) (hr : roles_office_do o_0 d_1 = some r) (w : World) (hc : cX w0 ⟨m, hcells bo_0 [uo_0_0, uo_0_1, uo_0_2, uo_0_3, uo_0_4] 70 :: hownT 31 1 encU uo_0_0 o_0.up :: hownT 23 1 encI uo_0_2 o_0.roles.codes :: hownT 31 1 encU uo_0_3 o_0.roles.given :: hownT 31 1 encU uo_0_4 o_0.roles.play :: l⟩ w) :
    Calls Try.prog 35 [bp bo_0 0, .agg #[.int .i64 d_1.kind, .int .i64 d_1.by_, .int .i64 d_1.to, .int .i64 d_1.label.level, .int .u32 (d_1.label.parts.toNat : Int), .int .i64 d_1.val]].toArray w fun e w' => e = .returned (.int .i64 r.1) ∧ cX w0 ⟨m, hcells bo_0 [uo_0_0, uo_0_1, uo_0_2, uo_0_3, uo_0_4] 70 :: hownT 31 1 encU uo_0_0 r.2.up :: hownT 23 1 encI uo_0_2 r.2.roles.codes :: hownT 31 1 encU uo_0_3 r.2.roles.given :: hownT 31 1 encU uo_0_4 r.2.roles.play :: l⟩ w' := by
  unfold roles_office_do at hr
  refine calls_of_Tr (N := 165) Try.func35 rfl hc rfl (Nat.le_of_ble_eq_true rfl) ?_
  refine Tr.seq ?_
  refine Tr.region_f (fun i => Nat.beq i 0) ?_
  refine W.e rfl rfl rfl rfl (by decide) (Ef.bx rfl (.t rfl) rfl) ?_
  rintro _ _ ⟨b1, rfl, rfl⟩
  refine ⟨.inl rfl, ?_⟩
  refine W.cast (m' := m) (l' := hcells b1 [_, _, _, _, _, _] 74 :: hcells bo_0 [_, _, _, _, _] 70 :: hownT 31 1 encU uo_0_0 _ :: hownT 23 1 encI uo_0_2 _ :: hownT 31 1 encU uo_0_3 _ :: hownT 31 1 encU uo_0_4 _ :: l) rfl rfl ?_
  refine W.q rfl rfl rfl rfl (by decide) (Yd.as rfl .c) ?_
  refine W.end ?_
  refine NX.sub (env' := [(0, _), (3, _)]) ⟨rfl, rfl, trivial⟩ ?_
  refine NX.then ?_
  refine Tr.seq ?_
  refine Tr.block ?_
  refine Tr.seq ?_
  refine Tr.region_f (fun _ => false) ?_
  refine W.q rfl rfl rfl rfl (by decide) (Yd.fldB rfl Try.underlying74 rfl SZ3 rfl (.t rfl)) ?_
  refine W.q rfl rfl rfl rfl (by decide) (Yd.ldB (pos := 0) rfl rfl rfl ON3 (.t rfl)) ?_
  refine W.q rfl rfl rfl rfl (by decide) (Yd.lss rfl (.t rfl) .c) ?_
  refine W.q rfl rfl rfl rfl (by decide) (Yd.mv rfl (.t rfl)) ?_
  refine W.g rfl rfl rfl rfl rfl (.t rfl _) rfl (by decide) (fun hG => Yd.fldB rfl Try.underlying74 rfl SZ3 rfl (.t rfl)) ?_
  refine W.g rfl rfl rfl rfl rfl (.t rfl _) rfl (by decide) (fun hG => Yd.ldB (pos := 0) rfl rfl rfl ON3 (.g rfl hG)) ?_
  refine W.g rfl rfl rfl rfl rfl (.t rfl _) rfl (by decide) (fun hG => Yd.gtr rfl (.g rfl hG) .c) ?_
  refine W.q rfl rfl rfl rfl (by decide) (Yd.or rfl (.t rfl) .c rfl rfl) ?_
  refine W.q rfl rfl rfl rfl (by decide) (Yd.as rfl (.t rfl)) ?_
  refine W.end ?_
  refine NX.sub (env' := [(0, _), (3, _), (9, _)]) ⟨rfl, rfl, rfl, trivial⟩ ?_
  refine NX.then ?_
  refine Tr.cond (.t rfl) (fun hb => ?_) (fun hb => ?_)
  · have hr := cond_t hb hr
    refine Tr.seq ?_
    refine Tr.region_f (fun _ => false) ?_
    refine W.q rfl rfl rfl rfl (by decide) (Yd.as rfl .c) ?_
    refine W.end ?_
    refine NX.sub (env' := [(4, _)]) ⟨rfl, trivial⟩ ?_
    refine NX.drop (l' := hcells bo_0 [_, _, _, _, _] 70 :: hownT 31 1 encU uo_0_0 _ :: hownT 23 1 encI uo_0_2 _ :: hownT 31 1 encU uo_0_3 _ :: hownT 31 1 encU uo_0_4 _ :: l) (.cons _ (.cons_cons _ (.cons_cons _ (.cons_cons _ (.cons_cons _ (.cons_cons _ (.refl _))))))) ?_
    refine NX.then ?_
    refine Tr.ret' (RT.block (RT.then ?_))
    refine res1 rfl rfl ?_
    intro w hc
    cases hr
    exact ⟨rfl, hc⟩
  · have hr := cond_f hb hr
    refine Tr.seq ?_
    refine Tr.region_x (fun _ => false) (fun _ => false) (Ord.of [0, 1, 2, 3, 4, 5, 6, 7, 8, 9, 10, 11, 12, 13, 14, 15, 16, 17, 18, 19, 20, 21, 22, 23, 24, 25, 26, 27, 28, 29]) FM (by kernel_rfl) ?_
    refine W.q rfl rfl rfl rfl (by decide) (Yd.fldB rfl Try.underlying74 rfl SZ3 rfl (.t rfl)) ?_
    refine W.q rfl rfl rfl rfl (by decide) (Yd.ldB (pos := 0) rfl rfl rfl ON3 (.t rfl)) ?_
    refine W.q rfl rfl rfl rfl (by decide) (Yd.lss rfl (.t rfl) .c) ?_
    refine W.q rfl rfl rfl rfl (by decide) (Yd.mv rfl (.t rfl)) ?_
    refine W.g rfl rfl rfl rfl rfl (.t rfl _) rfl (by decide) (fun hG => Yd.fldB rfl Try.underlying74 rfl SZ3 rfl (.t rfl)) ?_
    refine W.g rfl rfl rfl rfl rfl (.t rfl _) rfl (by decide) (fun hG => Yd.ldB (pos := 0) rfl rfl rfl ON3 (.g rfl hG)) ?_
    refine W.g rfl rfl rfl rfl rfl (.t rfl _) rfl (by decide) (fun hG => Yd.mv rfl (.t rfl)) ?_
    refine W.g rfl rfl rfl rfl rfl (.t rfl _) rfl (by decide) (fun hG => Yd.nilc rfl (.g rfl hG)) ?_
    refine W.g rfl rfl rfl rfl rfl (.t rfl _) rfl (by decide) (fun hG => Yd.fldB rfl Try.underlying70 rfl SZ49 rfl (.g rfl hG)) ?_
    refine W.g rfl rfl rfl rfl rfl (.t rfl _) rfl (by decide) (fun hG => Yd.fldB rfl Try.underlying49 rfl SZ22 rfl (.g rfl hG)) ?_
    refine W.g rfl rfl rfl rfl rfl (.t rfl _) rfl (by decide) (fun hG => Yd.ldB (pos := 1) rfl rfl rfl ON22 (.g rfl hG)) ?_
    refine W.g rfl rfl rfl rfl rfl (.t rfl _) rfl (by decide) (fun hG => Yd.lenO (p := 4) rfl rfl Try.underlying22 (.g rfl hG)) ?_
    refine W.g rfl rfl rfl rfl rfl (.t rfl _) rfl (by decide) (fun hG => Yd.geq rfl (.g rfl hG) (.g rfl hG)) ?_
    refine W.q rfl rfl rfl rfl (by decide) (Yd.or rfl (.t rfl) .c rfl rfl) ?_
    refine W.q rfl rfl rfl rfl (by decide) (Yd.mv rfl (.t rfl)) ?_
    refine W.g rfl rfl rfl rfl rfl (.t rfl _) rfl (by decide) (fun hG => Yd.fldB rfl Try.underlying74 rfl SZ3 rfl (.t rfl)) ?_
    refine W.g rfl rfl rfl rfl rfl (.t rfl _) rfl (by decide) (fun hG => Yd.ldB (pos := 0) rfl rfl rfl ON3 (.g rfl hG)) ?_
    refine W.g rfl rfl rfl rfl rfl (.t rfl _) rfl (by decide) (fun hG => Yd.lss rfl (.g rfl hG) .c) ?_
    refine W.q rfl rfl rfl rfl (by decide) (Yd.or rfl (.t rfl) .c rfl rfl) ?_
    refine W.q rfl rfl rfl rfl (by decide) (Yd.mv rfl (.t rfl)) ?_
    refine W.g rfl rfl rfl rfl rfl (.t rfl _) rfl (by decide) (fun hG => Yd.fldB rfl Try.underlying74 rfl SZ3 rfl (.t rfl)) ?_
    refine W.g rfl rfl rfl rfl rfl (.t rfl _) rfl (by decide) (fun hG => Yd.ldB (pos := 0) rfl rfl rfl ON3 (.g rfl hG)) ?_
    refine W.g rfl rfl rfl rfl rfl (.t rfl _) rfl (by decide) (fun hG => Yd.mv rfl (.t rfl)) ?_
    refine W.g rfl rfl rfl rfl rfl (.t rfl _) rfl (by decide) (fun hG => Yd.nilc rfl (.g rfl hG)) ?_
    refine W.g rfl rfl rfl rfl rfl (.t rfl _) rfl (by decide) (fun hG => Yd.fldB rfl Try.underlying70 rfl SZ22 rfl (.g rfl hG)) ?_
    refine W.g rfl rfl rfl rfl rfl (.t rfl _) rfl (by decide) (fun hG => Yd.ldB (pos := 1) rfl rfl rfl ON22 (.g rfl hG)) ?_
    refine W.g rfl rfl rfl rfl rfl (.t rfl _) rfl (by decide) (fun hG => Yd.lenO (p := 2) rfl rfl Try.underlying22 (.g rfl hG)) ?_
    refine W.g rfl rfl rfl rfl rfl (.t rfl _) rfl (by decide) (fun hG => Yd.geq rfl (.g rfl hG) (.g rfl hG)) ?_
    refine W.q rfl rfl rfl rfl (by decide) (Yd.or rfl (.t rfl) .c rfl rfl) ?_
    refine W.q rfl rfl rfl rfl (by decide) (Yd.as rfl (.t rfl)) ?_
    refine W.end ?_
    refine NX.sub (env' := [(0, _), (3, _), (18, _)]) ⟨rfl, rfl, rfl, trivial⟩ ?_
    refine NX.then ?_
    refine Tr.cond (.t rfl) (fun hb => ?_) (fun hb => ?_)
    · have hr := cond_t hb hr
      refine Tr.seq ?_
      refine Tr.region_f (fun _ => false) ?_
      refine W.q rfl rfl rfl rfl (by decide) (Yd.as rfl .c) ?_
      refine W.end ?_
      refine NX.sub (env' := [(4, _)]) ⟨rfl, trivial⟩ ?_
      refine NX.drop (l' := hcells bo_0 [_, _, _, _, _] 70 :: hownT 31 1 encU uo_0_0 _ :: hownT 23 1 encI uo_0_2 _ :: hownT 31 1 encU uo_0_3 _ :: hownT 31 1 encU uo_0_4 _ :: l) (.cons _ (.cons_cons _ (.cons_cons _ (.cons_cons _ (.cons_cons _ (.cons_cons _ (.refl _))))))) ?_
      refine NX.then ?_
      refine Tr.ret' (RT.block (RT.then ?_))
      refine res1 rfl rfl ?_
      intro w hc
      cases hr
      exact ⟨rfl, hc⟩
    · have hr := cond_f hb hr
      refine Tr.skip' ?_
      refine NX.block ?_
      refine NX.then ?_
      refine Tr.seq ?_
      obtain ⟨y3, hy4, hr⟩ := bind_some hr
      obtain ⟨y5, hy6, hr⟩ := bind_some hr
      refine Tr.region_x (fun _ => false) (fun _ => false) (Ord.of [0, 1, 2, 3, 4, 5, 6, 7, 8, 9, 10, 11, 12, 13, 14, 15, 16, 17]) FM (by kernel_rfl) ?_
      refine W.q rfl rfl rfl rfl (by decide) (Yd.mv rfl (.t rfl)) ?_
      refine W.q rfl rfl rfl rfl (by decide) (Yd.nilc rfl (.t rfl)) ?_
      refine W.q rfl rfl rfl rfl (by decide) (Yd.fldB rfl Try.underlying70 rfl SZ49 rfl (.t rfl)) ?_
      refine W.q rfl rfl rfl rfl (by decide) (Yd.fldB rfl Try.underlying49 rfl SZ22 rfl (.t rfl)) ?_
      refine W.q rfl rfl rfl rfl (by decide) (Yd.ldB (pos := 1) rfl rfl rfl ON22 (.t rfl)) ?_
      refine W.q rfl rfl rfl rfl (by decide) (Yd.fldB rfl Try.underlying74 rfl SZ3 rfl (.t rfl)) ?_
      refine W.q rfl rfl rfl rfl (by decide) (Yd.ldB (pos := 0) rfl rfl rfl ON3 (.t rfl)) ?_
      refine W.q rfl rfl rfl rfl (by decide) (Yd.idxT (pos := 4) rfl hy4 rfl Try.underlying22 SZ31 (.t rfl) (.t rfl)) ?_
      refine W.q rfl rfl rfl rfl (by decide) (Yd.mv rfl (.t rfl)) ?_
      refine W.q rfl rfl rfl rfl (by decide) (Yd.nilc rfl (.t rfl)) ?_
      refine W.q rfl rfl rfl rfl (by decide) (Yd.fldB rfl Try.underlying70 rfl SZ49 rfl (.t rfl)) ?_
      refine W.q rfl rfl rfl rfl (by decide) (Yd.fldB rfl Try.underlying49 rfl SZ22 rfl (.t rfl)) ?_
      refine W.q rfl rfl rfl rfl (by decide) (Yd.ldB (pos := 1) rfl rfl rfl ON22 (.t rfl)) ?_
      refine W.q rfl rfl rfl rfl (by decide) (Yd.fldB rfl Try.underlying74 rfl SZ3 rfl (.t rfl)) ?_
      refine W.q rfl rfl rfl rfl (by decide) (Yd.ldB (pos := 0) rfl rfl rfl ON3 (.t rfl)) ?_
      refine W.q rfl rfl rfl rfl (by decide) (Yd.idxT (pos := 5) rfl hy6 rfl Try.underlying22 SZ31 (.t rfl) (.t rfl)) ?_
      refine W.q rfl rfl rfl rfl (by decide) (Yd.as rfl (.t rfl)) ?_
      refine W.q rfl rfl rfl rfl (by decide) (Yd.as rfl (.t rfl)) ?_
      refine W.end ?_
      refine NX.sub (env' := [(0, _), (3, _), (5, _), (6, _)]) ⟨rfl, rfl, rfl, rfl, trivial⟩ ?_
      refine NX.then ?_
      refine Tr.seq ?_
      obtain ⟨hq7, hr⟩ := guard_some hr; replace hq7 := of_decide_eq_true hq7
      refine Tr.region_f (fun _ => false) ?_
      refine W.q rfl rfl rfl rfl (by decide) (Yd.fldB rfl Try.underlying74 rfl SZ3 rfl (.t rfl)) ?_
      refine W.q rfl rfl rfl rfl (by decide) (Yd.ldB (pos := 0) rfl rfl rfl ON3 (.t rfl)) ?_
      refine W.q rfl rfl rfl rfl (by decide) (Yd.shlU (a := 1#32) rfl .c (.t rfl) hq7) ?_
      refine W.q rfl rfl rfl rfl (by decide) (Yd.as rfl (.t rfl)) ?_
      refine W.end ?_
      refine NX.sub (env' := [(0, _), (3, _), (5, _), (6, _), (7, _)]) ⟨rfl, rfl, rfl, rfl, rfl, trivial⟩ ?_
      refine NX.then ?_
      refine Tr.seq ?_
      refine Tr.seq ?_
      refine Tr.region_f (fun _ => false) ?_
      refine W.q rfl rfl rfl rfl (by decide) (Yd.fldB rfl Try.underlying74 rfl SZ3 rfl (.t rfl)) ?_
      refine W.q rfl rfl rfl rfl (by decide) (Yd.ldB (pos := 0) rfl rfl rfl ON3 (.t rfl)) ?_
      refine W.end ?_
      refine NX.sub (env' := [(0, _), (5, _), (6, _), (7, _), (68, _)]) ⟨rfl, rfl, rfl, rfl, rfl, trivial⟩ ?_
      refine NX.drop (l' := hcells bo_0 [_, _, _, _, _] 70 :: hownT 31 1 encU uo_0_0 _ :: hownT 23 1 encI uo_0_2 _ :: hownT 31 1 encU uo_0_3 _ :: hownT 31 1 encU uo_0_4 _ :: l) (.cons _ (.cons_cons _ (.cons_cons _ (.cons_cons _ (.cons_cons _ (.cons_cons _ (.refl _))))))) ?_
      refine NX.then ?_
      refine Tr.block ?_
      refine Tr.seq ?_
      refine Tr.region_f (fun _ => false) ?_
      refine W.q rfl rfl rfl rfl (by decide) (Yd.eql rfl (.t rfl) .c) ?_
      refine W.q rfl rfl rfl rfl (by decide) (Yd.as rfl (.t rfl)) ?_
      refine W.end ?_
      refine NX.sub (env' := [(0, _), (5, _), (6, _), (7, _), (68, _), (69, _)]) ⟨rfl, rfl, rfl, rfl, rfl, rfl, trivial⟩ ?_
      refine NX.then ?_
      refine Tr.cond (.t rfl) (fun hb => ?_) (fun hb => ?_)
      · have hr := cond_t hb hr
        refine Tr.seq ?_
        obtain ⟨y8, hy9, hr⟩ := bind_some hr
        obtain ⟨r10, hr11, hr⟩ := bind_some hr
        refine Tr.region_x (fun i => Nat.beq i 10 || Nat.beq i 11) (fun i => Nat.beq i 11) (Ord.of [0, 1, 2, 3, 4, 5, 6, 7, 8, 9, 10, 11]) FM (by kernel_rfl) ?_
        refine W.q rfl rfl rfl rfl (by decide) (Yd.mv rfl (.t rfl)) ?_
        refine W.q rfl rfl rfl rfl (by decide) (Yd.nilc rfl (.t rfl)) ?_
        refine W.q rfl rfl rfl rfl (by decide) (Yd.fldB rfl Try.underlying70 rfl SZ22 rfl (.t rfl)) ?_
        refine W.q rfl rfl rfl rfl (by decide) (Yd.ldB (pos := 0) rfl rfl rfl ON22 (.t rfl)) ?_
        refine W.q rfl rfl rfl rfl (by decide) (Yd.mv rfl (.t rfl)) ?_
        refine W.q rfl rfl rfl rfl (by decide) (Yd.nilA (pos := 3) (xs := o_0.roles.given) rfl hy9 rfl (.t rfl)) ?_
        refine W.q rfl rfl rfl rfl (by decide) (Yd.ldT (enc := encU) (n := 1) (pos := 3) (fun _ => rfl) rfl hy9 rfl rfl ON31 (.t rfl)) ?_
        refine W.q rfl rfl rfl rfl (by decide) (Yd.mv rfl (.t rfl)) ?_
        refine W.q rfl rfl rfl rfl (by decide) (Yd.orU (a := y8) (b := (1#32 <<< d_1.to.toNat)) rfl (.t rfl) (.t rfl)) ?_
        refine W.q rfl rfl rfl rfl (by decide) (Yd.call (v := .int .u32 (r10.toNat : Int)) rfl Try.func46 rfl rfl (.cons (.t rfl) (.cons (.t rfl) .nil)) (by intro x' hx w hw; obtain ⟨p0, hp0⟩ := hx.at (p := 1) rfl; obtain ⟨m2, hm2, hc2, ⟨L2, hl1, hl2⟩, hback⟩ := cX_lend hw hp0 lone_own; have hL1 : RS rU m2 _ _ := RS_of_own hl1 hl2; exact (roles_below_ok w0 m2 _ _ _ hL1 ((y8 ||| (1#32 <<< d_1.to.toNat))) _ hr11 w hc2).mono fun e w' ⟨he, hc'⟩ => ⟨he, (hback m2 _ _ w' (.refl _) hp0).2 hc'⟩)) ?_
        refine W.e rfl rfl rfl rfl (by decide) (Ef.al rfl ZR31 rfl) ?_
        rintro _ _ ⟨b12, rfl, rfl⟩
        refine ⟨.inr ⟨.refl _, [_], rfl⟩, ?_⟩
        refine W.cast (m' := m) (l' := hcells b12 [_] 31 :: hcells bo_0 [_, _, _, _, _] 70 :: hownT 31 1 encU uo_0_0 _ :: hownT 23 1 encI uo_0_2 _ :: hownT 31 1 encU uo_0_3 _ :: hownT 31 1 encU uo_0_4 _ :: l) rfl rfl ?_
        refine W.s rfl rfl rfl rfl (Ef.stB (pos := 0) (us := [_]) (cs' := [_]) rfl rfl (.t rfl) (.t rfl) SZ31 rfl rfl rfl (Nat.le_of_ble_eq_true rfl) rfl) ?_
        rintro _ _ ⟨rfl, rfl⟩
        refine ⟨.inl rfl, ?_⟩
        refine W.cast (m' := m) (l' := hcells b12 [_] 31 :: hcells bo_0 [_, _, _, _, _] 70 :: hownT 31 1 encU uo_0_0 _ :: hownT 23 1 encI uo_0_2 _ :: hownT 31 1 encU uo_0_3 _ :: hownT 31 1 encU uo_0_4 _ :: l) rfl rfl ?_
        refine W.end ?_
        refine NX.sub (env' := [(0, _), (5, _), (7, _), (8, _)]) ⟨rfl, rfl, rfl, rfl, trivial⟩ ?_
        refine NX.then ?_
        refine Tr.seq ?_
        refine Tr.seq ?_
        obtain ⟨r14, hr15, hr⟩ := bind_some hr
        refine Tr.region_f (fun _ => false) ?_
        refine W.q rfl rfl rfl rfl (by decide) (Yd.mv rfl (.t rfl)) ?_
        refine W.q rfl rfl rfl rfl (by decide) (Yd.nilc rfl (.t rfl)) ?_
        refine W.q rfl rfl rfl rfl (by decide) (Yd.fldB rfl Try.underlying70 rfl SZ22 rfl (.t rfl)) ?_
        refine W.q rfl rfl rfl rfl (by decide) (Yd.ldB (pos := 1) rfl rfl rfl ON22 (.t rfl)) ?_
        refine W.q rfl rfl rfl rfl (by decide) (Yd.mkf rfl (.cons (.t rfl) .nil)) ?_
        refine W.q rfl rfl rfl rfl (by decide) (Yd.call (v := .bool r14) rfl Try.func33 rfl rfl (.cons (.t rfl) (.cons (.t rfl) .nil)) (fun x' hx w hw => slices_ContainsFunc_Suint32uint32_ok w0 x'.m x'.l _ _ (ho_0_1.mono hx.1) _ (fun a => roles_office_do_c1 a r10) ⟨47, _, _, rfl, Try.func47, rfl, rfl, fun y hy w2 hw2 v a r2 hv hr2 => by obtain ⟨p5, hp5⟩ := (leX_trans _ _ _ hx hy).at (p := 0) rfl; obtain rfl := hv; exact roles_office_do_c1_ok w0 y.m y.l a p5 _ r10 hp5 r2 hr2 w2 hw2⟩ _ hr15 w hw)) ?_
        refine W.end ?_
        refine NX.sub (env' := [(5, _), (7, _), (86, _)]) ⟨rfl, rfl, rfl, trivial⟩ ?_
        refine NX.drop (l' := hcells bo_0 [_, _, _, _, _] 70 :: hownT 31 1 encU uo_0_0 _ :: hownT 23 1 encI uo_0_2 _ :: hownT 31 1 encU uo_0_3 _ :: hownT 31 1 encU uo_0_4 _ :: l) (.cons _ (.cons_cons _ (.cons_cons _ (.cons_cons _ (.cons_cons _ (.cons_cons _ (.refl _))))))) ?_
        refine NX.then ?_
        refine Tr.cond (.t rfl) (fun hb => ?_) (fun hb => ?_)
        · have hr := cond_t hb hr
          refine Tr.seq ?_
          refine Tr.region_f (fun _ => false) ?_
          refine W.q rfl rfl rfl rfl (by decide) (Yd.as rfl .c) ?_
          refine W.end ?_
          refine NX.sub (env' := [(4, _)]) ⟨rfl, trivial⟩ ?_
          refine NX.then ?_
          refine Tr.ret' (RT.then (RT.block (RT.then ?_)))
          refine res1 rfl rfl ?_
          intro w hc
          cases hr
          exact ⟨rfl, hc⟩
        · have hr := cond_f hb hr
          refine Tr.skip' ?_
          refine NX.then ?_
          refine Tr.seq ?_
          refine Tr.seq ?_
          obtain ⟨y16, hy17, hr⟩ := bind_some hr
          refine Tr.region_f (fun _ => false) ?_
          refine W.q rfl rfl rfl rfl (by decide) (Yd.mv rfl (.t rfl)) ?_
          refine W.q rfl rfl rfl rfl (by decide) (Yd.nilA (pos := 3) (xs := o_0.roles.given) rfl hy17 rfl (.t rfl)) ?_
          refine W.q rfl rfl rfl rfl (by decide) (Yd.ldT (enc := encU) (n := 1) (pos := 3) (fun _ => rfl) rfl hy17 rfl rfl ON31 (.t rfl)) ?_
          refine W.q rfl rfl rfl rfl (by decide) (Yd.mv rfl (.t rfl)) ?_
          refine W.q rfl rfl rfl rfl (by decide) (Yd.andU (a := y16) (b := (1#32 <<< d_1.to.toNat)) rfl (.t rfl) (.t rfl)) ?_
          refine W.q rfl rfl rfl rfl (by decide) (Yd.neqU (a := (y16 &&& (1#32 <<< d_1.to.toNat))) (b := 0#32) rfl (.t rfl) .c) ?_
          refine W.end ?_
          refine NX.sub (env' := [(5, _), (7, _), (92, _)]) ⟨rfl, rfl, rfl, trivial⟩ ?_
          refine NX.then ?_
          refine Tr.cond (.t rfl) (fun hb => ?_) (fun hb => ?_)
          · have hr := cond_t hb hr
            refine Tr.seq ?_
            refine Tr.region_f (fun _ => false) ?_
            refine W.q rfl rfl rfl rfl (by decide) (Yd.as rfl .c) ?_
            refine W.end ?_
            refine NX.sub (env' := [(4, _)]) ⟨rfl, trivial⟩ ?_
            refine NX.then ?_
            refine Tr.ret' (RT.then (RT.block (RT.then ?_)))
            refine res1 rfl rfl ?_
            intro w hc
            cases hr
            exact ⟨rfl, hc⟩
          · have hr := cond_f hb hr
            refine Tr.skip' ?_
            refine NX.then ?_
            obtain ⟨y18, hy19, hr⟩ := bind_some hr
            refine Tr.region_f (fun i => Nat.beq i 6) ?_
            refine W.q rfl rfl rfl rfl (by decide) (Yd.mv rfl (.t rfl)) ?_
            refine W.q rfl rfl rfl rfl (by decide) (Yd.nilA (pos := 3) (xs := o_0.roles.given) rfl hy19 rfl (.t rfl)) ?_
            refine W.q rfl rfl rfl rfl (by decide) (Yd.ldT (enc := encU) (n := 1) (pos := 3) (fun _ => rfl) rfl hy19 rfl rfl ON31 (.t rfl)) ?_
            refine W.q rfl rfl rfl rfl (by decide) (Yd.mv rfl (.t rfl)) ?_
            refine W.q rfl rfl rfl rfl (by decide) (Yd.orU (a := y18) (b := (1#32 <<< d_1.to.toNat)) rfl (.t rfl) (.t rfl)) ?_
            refine W.q rfl rfl rfl rfl (by decide) (Yd.nilA (pos := 3) (xs := o_0.roles.given) rfl hy19 rfl (.t rfl)) ?_
            refine W.s rfl rfl rfl rfl (Ef.stT (enc := encU) (n := 1) (pos := 3) (y := (y18 ||| (1#32 <<< d_1.to.toNat))) (us := [_]) (fun _ => rfl) rfl hy19 rfl (.t rfl) (.t rfl) SZ31 rfl rfl rfl (by decide)) ?_
            rintro _ _ ⟨rfl, rfl⟩
            refine ⟨.inl rfl, ?_⟩
            refine W.cast (m' := m) (l' := hcells bo_0 [_, _, _, _, _] 70 :: hownT 31 1 encU uo_0_0 _ :: hownT 23 1 encI uo_0_2 _ :: hownT 31 1 encU uo_0_3 _ :: hownT 31 1 encU uo_0_4 _ :: l) rfl rfl ?_
            refine W.end ?_
            refine NX.sub (env' := []) trivial ?_
            refine NX.block ?_
            refine NX.then ?_
            refine Tr.seq ?_
            refine Tr.region_f (fun _ => false) ?_
            refine W.q rfl rfl rfl rfl (by decide) (Yd.as rfl .c) ?_
            refine W.end ?_
            refine NX.sub (env' := [(4, _)]) ⟨rfl, trivial⟩ ?_
            refine NX.then ?_
            refine Tr.ret' ?_
            refine res1 rfl rfl ?_
            intro w hc
            cases hr
            exact ⟨rfl, hc⟩
      · have hr := cond_f hb hr
        refine Tr.seq ?_
        refine Tr.region_f (fun _ => false) ?_
        refine W.q rfl rfl rfl rfl (by decide) (Yd.eql rfl (.t rfl) .c) ?_
        refine W.q rfl rfl rfl rfl (by decide) (Yd.as rfl (.t rfl)) ?_
        refine W.end ?_
        refine NX.sub (env' := [(0, _), (5, _), (6, _), (7, _), (68, _), (99, _)]) ⟨rfl, rfl, rfl, rfl, rfl, rfl, trivial⟩ ?_
        refine NX.then ?_
        refine Tr.cond (.t rfl) (fun hb => ?_) (fun hb => ?_)
        · have hr := cond_t hb hr
          refine Tr.seq ?_
          refine Tr.seq ?_
          obtain ⟨y20, hy21, hr⟩ := bind_some hr
          refine Tr.region_f (fun _ => false) ?_
          refine W.q rfl rfl rfl rfl (by decide) (Yd.mv rfl (.t rfl)) ?_
          refine W.q rfl rfl rfl rfl (by decide) (Yd.nilA (pos := 3) (xs := o_0.roles.given) rfl hy21 rfl (.t rfl)) ?_
          refine W.q rfl rfl rfl rfl (by decide) (Yd.ldT (enc := encU) (n := 1) (pos := 3) (fun _ => rfl) rfl hy21 rfl rfl ON31 (.t rfl)) ?_
          refine W.q rfl rfl rfl rfl (by decide) (Yd.mv rfl (.t rfl)) ?_
          refine W.q rfl rfl rfl rfl (by decide) (Yd.andU (a := y20) (b := (1#32 <<< d_1.to.toNat)) rfl (.t rfl) (.t rfl)) ?_
          refine W.q rfl rfl rfl rfl (by decide) (Yd.eqlU (a := (y20 &&& (1#32 <<< d_1.to.toNat))) (b := 0#32) rfl (.t rfl) .c) ?_
          refine W.end ?_
          refine NX.sub (env' := [(0, _), (5, _), (6, _), (7, _), (106, _)]) ⟨rfl, rfl, rfl, rfl, rfl, trivial⟩ ?_
          refine NX.then ?_
          refine Tr.cond (.t rfl) (fun hb => ?_) (fun hb => ?_)
          · have hr := cond_t hb hr
            refine Tr.seq ?_
            refine Tr.region_f (fun _ => false) ?_
            refine W.q rfl rfl rfl rfl (by decide) (Yd.as rfl .c) ?_
            refine W.end ?_
            refine NX.sub (env' := [(4, _)]) ⟨rfl, trivial⟩ ?_
            refine NX.then ?_
            refine Tr.ret' (RT.then (RT.block (RT.then ?_)))
            refine res1 rfl rfl ?_
            intro w hc
            cases hr
            exact ⟨rfl, hc⟩
          · have hr := cond_f hb hr
            refine Tr.skip' ?_
            refine NX.then ?_
            refine Tr.seq ?_
            obtain ⟨y22, hy23, hr⟩ := bind_some hr
            refine Tr.region_f (fun i => Nat.beq i 6) ?_
            refine W.q rfl rfl rfl rfl (by decide) (Yd.mv rfl (.t rfl)) ?_
            refine W.q rfl rfl rfl rfl (by decide) (Yd.nilA (pos := 3) (xs := o_0.roles.given) rfl hy23 rfl (.t rfl)) ?_
            refine W.q rfl rfl rfl rfl (by decide) (Yd.ldT (enc := encU) (n := 1) (pos := 3) (fun _ => rfl) rfl hy23 rfl rfl ON31 (.t rfl)) ?_
            refine W.q rfl rfl rfl rfl (by decide) (Yd.mv rfl (.t rfl)) ?_
            refine W.q rfl rfl rfl rfl (by decide) (Yd.andnU (a := y22) (b := (1#32 <<< d_1.to.toNat)) rfl (.t rfl) (.t rfl)) ?_
            refine W.q rfl rfl rfl rfl (by decide) (Yd.nilA (pos := 3) (xs := o_0.roles.given) rfl hy23 rfl (.t rfl)) ?_
            refine W.s rfl rfl rfl rfl (Ef.stT (enc := encU) (n := 1) (pos := 3) (y := (y22 &&& ~~~(1#32 <<< d_1.to.toNat))) (us := [_]) (fun _ => rfl) rfl hy23 rfl (.t rfl) (.t rfl) SZ31 rfl rfl rfl (by decide)) ?_
            rintro _ _ ⟨rfl, rfl⟩
            refine ⟨.inl rfl, ?_⟩
            refine W.cast (m' := m) (l' := hcells bo_0 [_, _, _, _, _] 70 :: hownT 31 1 encU uo_0_0 _ :: hownT 23 1 encI uo_0_2 _ :: hownT 31 1 encU uo_0_3 _ :: hownT 31 1 encU uo_0_4 _ :: l) rfl rfl ?_
            refine W.end ?_
            refine NX.sub (env' := [(0, _), (5, _), (6, _)]) ⟨rfl, rfl, rfl, trivial⟩ ?_
            refine NX.then ?_
            obtain ⟨y24, hy25, hr⟩ := bind_some hr
            obtain ⟨y26, hy27, hr⟩ := bind_some hr
            obtain ⟨r28, hr29, hr⟩ := bind_some hr
            refine Tr.region_x (fun i => Nat.beq i 13) (fun i => Nat.beq i 13) (Ord.of [0, 1, 2, 3, 4, 5, 6, 7, 8, 9, 10, 11, 12, 13]) FM (by kernel_rfl) ?_
            refine W.q rfl rfl rfl rfl (by decide) (Yd.mv rfl (.t rfl)) ?_
            refine W.q rfl rfl rfl rfl (by decide) (Yd.nilA (pos := 4) (xs := o_0.roles.play) rfl hy25 rfl (.t rfl)) ?_
            refine W.q rfl rfl rfl rfl (by decide) (Yd.ldT (enc := encU) (n := 1) (pos := 4) (fun _ => rfl) rfl hy25 rfl rfl ON31 (.t rfl)) ?_
            refine W.q rfl rfl rfl rfl (by decide) (Yd.mv rfl (.t rfl)) ?_
            refine W.q rfl rfl rfl rfl (by decide) (Yd.nilc rfl (.t rfl)) ?_
            refine W.q rfl rfl rfl rfl (by decide) (Yd.fldB rfl Try.underlying70 rfl SZ22 rfl (.t rfl)) ?_
            refine W.q rfl rfl rfl rfl (by decide) (Yd.ldB (pos := 0) rfl rfl rfl ON22 (.t rfl)) ?_
            refine W.q rfl rfl rfl rfl (by decide) (Yd.mv rfl (.t rfl)) ?_
            refine W.q rfl rfl rfl rfl (by decide) (Yd.nilA (pos := 3) (xs := (o_0.roles.given.set d_1.by_.toNat ((y22 &&& ~~~(1#32 <<< d_1.to.toNat))))) rfl hy27 rfl (.t rfl)) ?_
            refine W.q rfl rfl rfl rfl (by decide) (Yd.ldT (enc := encU) (n := 1) (pos := 3) (fun _ => rfl) rfl hy27 rfl rfl ON31 (.t rfl)) ?_
            refine W.q rfl rfl rfl rfl (by decide) (Yd.call (v := .int .u32 (r28.toNat : Int)) rfl Try.func46 rfl rfl (.cons (.t rfl) (.cons (.t rfl) .nil)) (by intro x' hx w hw; obtain ⟨p0, hp0⟩ := hx.at (p := 1) rfl; obtain ⟨m2, hm2, hc2, ⟨L2, hl1, hl2⟩, hback⟩ := cX_lend hw hp0 lone_own; have hL1 : RS rU m2 _ _ := RS_of_own hl1 hl2; exact (roles_below_ok w0 m2 _ _ _ hL1 y26 _ hr29 w hc2).mono fun e w' ⟨he, hc'⟩ => ⟨he, (hback m2 _ _ w' (.refl _) hp0).2 hc'⟩)) ?_
            refine W.q rfl rfl rfl rfl (by decide) (Yd.andU (a := y24) (b := r28) rfl (.t rfl) (.t rfl)) ?_
            refine W.q rfl rfl rfl rfl (by decide) (Yd.nilA (pos := 4) (xs := o_0.roles.play) rfl hy25 rfl (.t rfl)) ?_
            refine W.s rfl rfl rfl rfl (Ef.stT (enc := encU) (n := 1) (pos := 4) (y := (y24 &&& r28)) (us := [_]) (fun _ => rfl) rfl hy25 rfl (.t rfl) (.t rfl) SZ31 rfl rfl rfl (by decide)) ?_
            rintro _ _ ⟨rfl, rfl⟩
            refine ⟨.inl rfl, ?_⟩
            refine W.cast (m' := m) (l' := hcells bo_0 [_, _, _, _, _] 70 :: hownT 31 1 encU uo_0_0 _ :: hownT 23 1 encI uo_0_2 _ :: hownT 31 1 encU uo_0_3 _ :: hownT 31 1 encU uo_0_4 _ :: l) rfl rfl ?_
            refine W.end ?_
            refine NX.sub (env' := []) trivial ?_
            refine NX.block ?_
            refine NX.then ?_
            refine Tr.seq ?_
            refine Tr.region_f (fun _ => false) ?_
            refine W.q rfl rfl rfl rfl (by decide) (Yd.as rfl .c) ?_
            refine W.end ?_
            refine NX.sub (env' := [(4, _)]) ⟨rfl, trivial⟩ ?_
            refine NX.then ?_
            refine Tr.ret' ?_
            refine res1 rfl rfl ?_
            intro w hc
            cases hr
            exact ⟨rfl, hc⟩
        · have hr := cond_f hb hr
          refine Tr.seq ?_
          refine Tr.region_f (fun _ => false) ?_
          refine W.q rfl rfl rfl rfl (by decide) (Yd.eql rfl (.t rfl) .c) ?_
          refine W.q rfl rfl rfl rfl (by decide) (Yd.as rfl (.t rfl)) ?_
          refine W.end ?_
          refine NX.sub (env' := [(0, _), (5, _), (6, _), (7, _), (68, _), (126, _)]) ⟨rfl, rfl, rfl, rfl, rfl, rfl, trivial⟩ ?_
          refine NX.then ?_
          refine Tr.cond (.t rfl) (fun hb => ?_) (fun hb => ?_)
          · have hr := cond_t hb hr
            refine Tr.seq ?_
            refine Tr.seq ?_
            obtain ⟨y30, hy31, hr⟩ := bind_some hr
            obtain ⟨r32, hr33, hr⟩ := bind_some hr
            refine Tr.region_x (fun _ => false) (fun _ => false) (Ord.of [0, 1, 2, 3, 4, 5, 6, 7, 8, 9, 10]) FM (by kernel_rfl) ?_
            refine W.q rfl rfl rfl rfl (by decide) (Yd.mv rfl (.t rfl)) ?_
            refine W.q rfl rfl rfl rfl (by decide) (Yd.nilc rfl (.t rfl)) ?_
            refine W.q rfl rfl rfl rfl (by decide) (Yd.fldB rfl Try.underlying70 rfl SZ22 rfl (.t rfl)) ?_
            refine W.q rfl rfl rfl rfl (by decide) (Yd.ldB (pos := 0) rfl rfl rfl ON22 (.t rfl)) ?_
            refine W.q rfl rfl rfl rfl (by decide) (Yd.mv rfl (.t rfl)) ?_
            refine W.q rfl rfl rfl rfl (by decide) (Yd.nilA (pos := 3) (xs := o_0.roles.given) rfl hy31 rfl (.t rfl)) ?_
            refine W.q rfl rfl rfl rfl (by decide) (Yd.ldT (enc := encU) (n := 1) (pos := 3) (fun _ => rfl) rfl hy31 rfl rfl ON31 (.t rfl)) ?_
            refine W.q rfl rfl rfl rfl (by decide) (Yd.call (v := .int .u32 (r32.toNat : Int)) rfl Try.func46 rfl rfl (.cons (.t rfl) (.cons (.t rfl) .nil)) (by intro x' hx w hw; obtain ⟨p0, hp0⟩ := hx.at (p := 1) rfl; obtain ⟨m2, hm2, hc2, ⟨L2, hl1, hl2⟩, hback⟩ := cX_lend hw hp0 lone_own; have hL1 : RS rU m2 _ _ := RS_of_own hl1 hl2; exact (roles_below_ok w0 m2 _ _ _ hL1 y30 _ hr33 w hc2).mono fun e w' ⟨he, hc'⟩ => ⟨he, (hback m2 _ _ w' (.refl _) hp0).2 hc'⟩)) ?_
            refine W.q rfl rfl rfl rfl (by decide) (Yd.mv rfl (.t rfl)) ?_
            refine W.q rfl rfl rfl rfl (by decide) (Yd.andU (a := r32) (b := (1#32 <<< d_1.to.toNat)) rfl (.t rfl) (.t rfl)) ?_
            refine W.q rfl rfl rfl rfl (by decide) (Yd.eqlU (a := (r32 &&& (1#32 <<< d_1.to.toNat))) (b := 0#32) rfl (.t rfl) .c) ?_
            refine W.end ?_
            refine NX.sub (env' := [(6, _), (7, _), (138, _)]) ⟨rfl, rfl, rfl, trivial⟩ ?_
            refine NX.then ?_
            refine Tr.cond (.t rfl) (fun hb => ?_) (fun hb => ?_)
            · have hr := cond_t hb hr
              refine Tr.seq ?_
              refine Tr.region_f (fun _ => false) ?_
              refine W.q rfl rfl rfl rfl (by decide) (Yd.as rfl .c) ?_
              refine W.end ?_
              refine NX.sub (env' := [(4, _)]) ⟨rfl, trivial⟩ ?_
              refine NX.then ?_
              refine Tr.ret' (RT.then (RT.block (RT.then ?_)))
              refine res1 rfl rfl ?_
              intro w hc
              cases hr
              exact ⟨rfl, hc⟩
            · have hr := cond_f hb hr
              refine Tr.skip' ?_
              refine NX.then ?_
              refine Tr.seq ?_
              refine Tr.seq ?_
              obtain ⟨y34, hy35, hr⟩ := bind_some hr
              refine Tr.region_f (fun _ => false) ?_
              refine W.q rfl rfl rfl rfl (by decide) (Yd.mv rfl (.t rfl)) ?_
              refine W.q rfl rfl rfl rfl (by decide) (Yd.nilA (pos := 4) (xs := o_0.roles.play) rfl hy35 rfl (.t rfl)) ?_
              refine W.q rfl rfl rfl rfl (by decide) (Yd.ldT (enc := encU) (n := 1) (pos := 4) (fun _ => rfl) rfl hy35 rfl rfl ON31 (.t rfl)) ?_
              refine W.q rfl rfl rfl rfl (by decide) (Yd.mv rfl (.t rfl)) ?_
              refine W.q rfl rfl rfl rfl (by decide) (Yd.andU (a := y34) (b := (1#32 <<< d_1.to.toNat)) rfl (.t rfl) (.t rfl)) ?_
              refine W.q rfl rfl rfl rfl (by decide) (Yd.neqU (a := (y34 &&& (1#32 <<< d_1.to.toNat))) (b := 0#32) rfl (.t rfl) .c) ?_
              refine W.end ?_
              refine NX.sub (env' := [(6, _), (7, _), (144, _)]) ⟨rfl, rfl, rfl, trivial⟩ ?_
              refine NX.then ?_
              refine Tr.cond (.t rfl) (fun hb => ?_) (fun hb => ?_)
              · have hr := cond_t hb hr
                refine Tr.seq ?_
                refine Tr.region_f (fun _ => false) ?_
                refine W.q rfl rfl rfl rfl (by decide) (Yd.as rfl .c) ?_
                refine W.end ?_
                refine NX.sub (env' := [(4, _)]) ⟨rfl, trivial⟩ ?_
                refine NX.then ?_
                refine Tr.ret' (RT.then (RT.block (RT.then ?_)))
                refine res1 rfl rfl ?_
                intro w hc
                cases hr
                exact ⟨rfl, hc⟩
              · have hr := cond_f hb hr
                refine Tr.skip' ?_
                refine NX.then ?_
                obtain ⟨y36, hy37, hr⟩ := bind_some hr
                refine Tr.region_f (fun i => Nat.beq i 6) ?_
                refine W.q rfl rfl rfl rfl (by decide) (Yd.mv rfl (.t rfl)) ?_
                refine W.q rfl rfl rfl rfl (by decide) (Yd.nilA (pos := 4) (xs := o_0.roles.play) rfl hy37 rfl (.t rfl)) ?_
                refine W.q rfl rfl rfl rfl (by decide) (Yd.ldT (enc := encU) (n := 1) (pos := 4) (fun _ => rfl) rfl hy37 rfl rfl ON31 (.t rfl)) ?_
                refine W.q rfl rfl rfl rfl (by decide) (Yd.mv rfl (.t rfl)) ?_
                refine W.q rfl rfl rfl rfl (by decide) (Yd.orU (a := y36) (b := (1#32 <<< d_1.to.toNat)) rfl (.t rfl) (.t rfl)) ?_
                refine W.q rfl rfl rfl rfl (by decide) (Yd.nilA (pos := 4) (xs := o_0.roles.play) rfl hy37 rfl (.t rfl)) ?_
                refine W.s rfl rfl rfl rfl (Ef.stT (enc := encU) (n := 1) (pos := 4) (y := (y36 ||| (1#32 <<< d_1.to.toNat))) (us := [_]) (fun _ => rfl) rfl hy37 rfl (.t rfl) (.t rfl) SZ31 rfl rfl rfl (by decide)) ?_
                rintro _ _ ⟨rfl, rfl⟩
                refine ⟨.inl rfl, ?_⟩
                refine W.cast (m' := m) (l' := hcells bo_0 [_, _, _, _, _] 70 :: hownT 31 1 encU uo_0_0 _ :: hownT 23 1 encI uo_0_2 _ :: hownT 31 1 encU uo_0_3 _ :: hownT 31 1 encU uo_0_4 _ :: l) rfl rfl ?_
                refine W.end ?_
                refine NX.sub (env' := []) trivial ?_
                refine NX.block ?_
                refine NX.then ?_
                refine Tr.seq ?_
                refine Tr.region_f (fun _ => false) ?_
                refine W.q rfl rfl rfl rfl (by decide) (Yd.as rfl .c) ?_
                refine W.end ?_
                refine NX.sub (env' := [(4, _)]) ⟨rfl, trivial⟩ ?_
                refine NX.then ?_
                refine Tr.ret' ?_
                refine res1 rfl rfl ?_
                intro w hc
                cases hr
                exact ⟨rfl, hc⟩
          · have hr := cond_f hb hr
            refine Tr.seq ?_
            refine Tr.region_f (fun _ => false) ?_
            refine W.q rfl rfl rfl rfl (by decide) (Yd.eql rfl (.t rfl) .c) ?_
            refine W.q rfl rfl rfl rfl (by decide) (Yd.as rfl (.t rfl)) ?_
            refine W.end ?_
            refine NX.sub (env' := [(6, _), (7, _), (151, _)]) ⟨rfl, rfl, rfl, trivial⟩ ?_
            refine NX.then ?_
            refine Tr.cond (.t rfl) (fun hb => ?_) (fun hb => ?_)
            · have hr := cond_t hb hr
              refine Tr.seq ?_
              refine Tr.seq ?_
              obtain ⟨y38, hy39, hr⟩ := bind_some hr
              refine Tr.region_f (fun _ => false) ?_
              refine W.q rfl rfl rfl rfl (by decide) (Yd.mv rfl (.t rfl)) ?_
              refine W.q rfl rfl rfl rfl (by decide) (Yd.nilA (pos := 4) (xs := o_0.roles.play) rfl hy39 rfl (.t rfl)) ?_
              refine W.q rfl rfl rfl rfl (by decide) (Yd.ldT (enc := encU) (n := 1) (pos := 4) (fun _ => rfl) rfl hy39 rfl rfl ON31 (.t rfl)) ?_
              refine W.q rfl rfl rfl rfl (by decide) (Yd.mv rfl (.t rfl)) ?_
              refine W.q rfl rfl rfl rfl (by decide) (Yd.andU (a := y38) (b := (1#32 <<< d_1.to.toNat)) rfl (.t rfl) (.t rfl)) ?_
              refine W.q rfl rfl rfl rfl (by decide) (Yd.eqlU (a := (y38 &&& (1#32 <<< d_1.to.toNat))) (b := 0#32) rfl (.t rfl) .c) ?_
              refine W.end ?_
              refine NX.sub (env' := [(6, _), (7, _), (158, _)]) ⟨rfl, rfl, rfl, trivial⟩ ?_
              refine NX.then ?_
              refine Tr.cond (.t rfl) (fun hb => ?_) (fun hb => ?_)
              · have hr := cond_t hb hr
                refine Tr.seq ?_
                refine Tr.region_f (fun _ => false) ?_
                refine W.q rfl rfl rfl rfl (by decide) (Yd.as rfl .c) ?_
                refine W.end ?_
                refine NX.sub (env' := [(4, _)]) ⟨rfl, trivial⟩ ?_
                refine NX.then ?_
                refine Tr.ret' (RT.then (RT.block (RT.then ?_)))
                refine res1 rfl rfl ?_
                intro w hc
                cases hr
                exact ⟨rfl, hc⟩
              · have hr := cond_f hb hr
                refine Tr.skip' ?_
                refine NX.then ?_
                obtain ⟨y40, hy41, hr⟩ := bind_some hr
                refine Tr.region_f (fun i => Nat.beq i 6) ?_
                refine W.q rfl rfl rfl rfl (by decide) (Yd.mv rfl (.t rfl)) ?_
                refine W.q rfl rfl rfl rfl (by decide) (Yd.nilA (pos := 4) (xs := o_0.roles.play) rfl hy41 rfl (.t rfl)) ?_
                refine W.q rfl rfl rfl rfl (by decide) (Yd.ldT (enc := encU) (n := 1) (pos := 4) (fun _ => rfl) rfl hy41 rfl rfl ON31 (.t rfl)) ?_
                refine W.q rfl rfl rfl rfl (by decide) (Yd.mv rfl (.t rfl)) ?_
                refine W.q rfl rfl rfl rfl (by decide) (Yd.andnU (a := y40) (b := (1#32 <<< d_1.to.toNat)) rfl (.t rfl) (.t rfl)) ?_
                refine W.q rfl rfl rfl rfl (by decide) (Yd.nilA (pos := 4) (xs := o_0.roles.play) rfl hy41 rfl (.t rfl)) ?_
                refine W.s rfl rfl rfl rfl (Ef.stT (enc := encU) (n := 1) (pos := 4) (y := (y40 &&& ~~~(1#32 <<< d_1.to.toNat))) (us := [_]) (fun _ => rfl) rfl hy41 rfl (.t rfl) (.t rfl) SZ31 rfl rfl rfl (by decide)) ?_
                rintro _ _ ⟨rfl, rfl⟩
                refine ⟨.inl rfl, ?_⟩
                refine W.cast (m' := m) (l' := hcells bo_0 [_, _, _, _, _] 70 :: hownT 31 1 encU uo_0_0 _ :: hownT 23 1 encI uo_0_2 _ :: hownT 31 1 encU uo_0_3 _ :: hownT 31 1 encU uo_0_4 _ :: l) rfl rfl ?_
                refine W.end ?_
                refine NX.sub (env' := []) trivial ?_
                refine NX.block ?_
                refine NX.then ?_
                refine Tr.seq ?_
                refine Tr.region_f (fun _ => false) ?_
                refine W.q rfl rfl rfl rfl (by decide) (Yd.as rfl .c) ?_
                refine W.end ?_
                refine NX.sub (env' := [(4, _)]) ⟨rfl, trivial⟩ ?_
                refine NX.then ?_
                refine Tr.ret' ?_
                refine res1 rfl rfl ?_
                intro w hc
                cases hr
                exact ⟨rfl, hc⟩
            · have hr := cond_f hb hr
              refine Tr.skip' ?_
              refine NX.block ?_
              refine NX.then ?_
              refine Tr.seq ?_
              refine Tr.region_f (fun _ => false) ?_
              refine W.q rfl rfl rfl rfl (by decide) (Yd.as rfl .c) ?_
              refine W.end ?_
              refine NX.sub (env' := [(4, _)]) ⟨rfl, trivial⟩ ?_
              refine NX.then ?_
              refine Tr.ret' ?_
              refine res1 rfl rfl ?_
              intro w hc
              cases hr
              exact ⟨rfl, hc⟩

def roles_Play_k529 (l521 : List (BitVec 32)) (l523 : List (BitVec 32)) (l525 : List Int) (l527 : List (BitVec 32)) : Option (Roles × Int) :=
  some ((({ codes := l525, given := l523, play := l521 } : Roles), (0 : Int)))

def roles_Play_b539 (odds_2 : List (BitVec 32)) (script_4 : List Deed) (t_538 : Int) (l513 : List (BitVec 32)) (l515 : List (BitVec 32)) (l517 : List Int) (l519 : List (BitVec 32)) (nx540 : ((List (BitVec 32)) × (List (BitVec 32)) × (List Int) × (List (BitVec 32))) → Option (Roles × Int)) : Option (Roles × Int) :=
  (geti script_4 t_538).bind fun y542 =>
  (roles_office_do (({ up := l519, odds := odds_2, roles := ({ codes := l517, given := l515, play := l513 } : Roles) } : T70)) (({ kind := y542.kind, by_ := y542.by_, to := y542.to, label := ({ level := y542.label.level, parts := y542.label.parts } : Label), val := y542.val } : Deed))).bind fun r546 =>
  bif decide (r546.2.roles.codes.length + (([r546.1] : List Int)).length ≤ 17592186044416) then
  nx540 (r546.2.roles.play, r546.2.roles.given, (r546.2.roles.codes ++ ([r546.1] : List Int)), r546.2.up) else none

def roles_Play (n_0 : Int) (pairs_1 : List (Int × Int)) (odds_2 : List (BitVec 32)) (users_3 : Int) (script_4 : List Deed) : Option (Roles × Int) :=
  (order_Table n_0 pairs_1).bind fun r8 =>
  (bif (r8.2 != (0 : Int)) then
  some ((({ codes := ([] : List Int), given := ([] : List (BitVec 32)), play := ([] : List (BitVec 32)) } : Roles), r8.2))
  else
  (bif ((((decide (users_3 < (1 : Int))) || (decide (users_3 > (5 : Int)))) || (decide ((script_4.length : Int) > (30 : Int)))) || (decide ((odds_2.length : Int) > (10 : Int)))) then
  some ((({ codes := ([] : List Int), given := ([] : List (BitVec 32)), play := ([] : List (BitVec 32)) } : Roles), (1 : Int)))
  else
  (slices_ContainsFunc_Suint32uint32 odds_2 (fun a => roles_Play_c1 a n_0)).bind fun r24 =>
  (bif r24 then
  some ((({ codes := ([] : List Int), given := ([] : List (BitVec 32)), play := ([] : List (BitVec 32)) } : Roles), (4 : Int)))
  else
  bif decide (0 ≤ users_3 ∧ users_3 ≤ 1048576) then
  forK (σ := (List (BitVec 32)) × (List (BitVec 32)) × (List Int) × (List (BitVec 32))) (fun i s nx_ => roles_Play_b539 odds_2 script_4 i s.1 s.2.1 s.2.2.1 s.2.2.2 nx_) (fun s => roles_Play_k529 s.1 s.2.1 s.2.2.1 s.2.2.2) ((script_4.length : Int) - (0 : Int)).toNat (0 : Int) (((List.replicate users_3.toNat (0#32))), ((List.replicate users_3.toNat (0#32))), (([] : List Int)), r8.1) else none)))

set_option maxRecDepth 100000 in
set_option maxHeartbeats 4000000 in
theorem roles_Play_ok (w0 : World) (m : Snap) (l : List HI) (n_0 : Int) (upairs_1 : Value) (pairs_1 : List (Int × Int)) (hpairs_1 : RS rP m upairs_1 pairs_1) (uodds_2 : Value) (odds_2 : List (BitVec 32)) (hodds_2 : RS rU m uodds_2 odds_2) (users_3 : Int) (uscript_4 : Value) (script_4 : List Deed) (hscript_4 : RS rDeed m uscript_4 script_4) (r : Roles × Int) (hr : roles_Play n_0 pairs_1 odds_2 users_3 script_4 = some r) (w : World) (hc : cX w0 ⟨m, l⟩ w) :
    Calls Try.prog 18 [.int .i64 n_0, upairs_1, uodds_2, .int .i64 users_3, uscript_4].toArray w fun e w' => ∃ z0 : Value, ∃ z1 : Value, ∃ z2 : Value, ∃ m1 : Snap, e = .returned (.tuple #[.agg #[z0, z1, z2], .int .i64 r.2]) ∧ Sle m m1 ∧ RS rI m1 z0 r.1.codes ∧ RS rU m1 z1 r.1.given ∧ RS rU m1 z2 r.1.play ∧ cX w0 ⟨m1, l⟩ w' := by
  unfold roles_Play at hr
  refine calls_of_Tr (N := 85) Try.func18 rfl hc rfl (Nat.le_of_ble_eq_true rfl) ?_
  refine Tr.seq ?_
  refine Tr.addnil 23 1 ?_
  refine Tr.cast (m' := m) (l' := hownT 23 1 encI (.slice none 0 0) (([] : List Int)) :: l) rfl rfl ?_
  refine Tr.addnil 31 1 ?_
  refine Tr.cast (m' := m) (l' := hownT 31 1 encU (.slice none 0 0) (([] : List (BitVec 32))) :: hownT 23 1 encI (.slice none 0 0) (([] : List Int)) :: l) rfl rfl ?_
  refine Tr.addnil 31 1 ?_
  refine Tr.cast (m' := m) (l' := hownT 31 1 encU (.slice none 0 0) (([] : List (BitVec 32))) :: hownT 31 1 encU (.slice none 0 0) (([] : List (BitVec 32))) :: hownT 23 1 encI (.slice none 0 0) (([] : List Int)) :: l) rfl rfl ?_
  refine Tr.region_f (fun i => Nat.beq i 0 || Nat.beq i 1) ?_
  refine W.e rfl rfl rfl rfl (by decide) (Ef.bx rfl (.t rfl) rfl) ?_
  rintro _ _ ⟨b4, rfl, rfl⟩
  refine ⟨.inl rfl, ?_⟩
  refine W.cast (m' := m) (l' := hcells b4 [_] 3 :: hownT 31 1 encU (.slice none 0 0) (([] : List (BitVec 32))) :: hownT 31 1 encU (.slice none 0 0) (([] : List (BitVec 32))) :: hownT 23 1 encI (.slice none 0 0) (([] : List Int)) :: l) rfl rfl ?_
  refine W.e rfl rfl rfl rfl (by decide) (Ef.al rfl ZR49 rfl) ?_
  rintro _ _ ⟨b6, rfl, rfl⟩
  refine ⟨.inl rfl, ?_⟩
  refine W.cast (m' := m) (l' := hcells b6 [_, _, _] 49 :: hcells b4 [_] 3 :: hownT 31 1 encU (.slice none 0 0) (([] : List (BitVec 32))) :: hownT 31 1 encU (.slice none 0 0) (([] : List (BitVec 32))) :: hownT 23 1 encI (.slice none 0 0) (([] : List Int)) :: l) rfl rfl ?_
  refine W.q rfl rfl rfl rfl (by decide) (Yd.as rfl .c) ?_
  refine W.end ?_
  refine NX.sub (env' := [(1, _), (2, _), (3, _), (4, _), (5, _), (10, _)]) ⟨rfl, rfl, rfl, rfl, rfl, rfl, trivial⟩ ?_
  refine NX.then ?_
  refine Tr.seq ?_
  obtain ⟨r8, hr9, hr⟩ := bind_some hr
  refine Tr.region_f (fun i => Nat.beq i 2) ?_
  refine W.q rfl rfl rfl rfl (by decide) (Yd.ldB (pos := 1) rfl rfl rfl ON3 (.t rfl)) ?_
  refine W.q rfl rfl rfl rfl (by decide) (Yd.mv rfl (.t rfl)) ?_
  refine W.e rfl rfl rfl rfl (by decide) (Ef.call (R := fun z x' => ∃ v10 : Value, z = .tuple #[v10, .int .i64 r8.2] ∧ x' = ⟨m, hownT 31 1 encU v10 r8.1 :: hcells b6 [(.slice none 0 0), (.slice none 0 0), (.slice none 0 0)] 49 :: hcells b4 [.int .i64 n_0] 3 :: hownT 31 1 encU (.slice none 0 0) (([] : List (BitVec 32))) :: hownT 31 1 encU (.slice none 0 0) (([] : List (BitVec 32))) :: hownT 23 1 encI (.slice none 0 0) (([] : List Int)) :: l⟩) rfl Try.func32 rfl rfl (.cons (.t rfl) (.cons (.t rfl) .nil)) (fun w hw => (order_Table_ok w0 _ _ n_0 _ _ hpairs_1 _ hr9 w hw).mono fun e w' ⟨v10, he, hc'⟩ => ⟨_, _, he, ⟨v10, rfl, rfl⟩, hc'⟩)) ?_
  rintro _ _ ⟨v10, rfl, rfl⟩
  refine ⟨.inl rfl, ?_⟩
  refine W.cast (m' := m) (l' := hownT 31 1 encU v10 _ :: hcells b6 [_, _, _] 49 :: hcells b4 [_] 3 :: hownT 31 1 encU (.slice none 0 0) (([] : List (BitVec 32))) :: hownT 31 1 encU (.slice none 0 0) (([] : List (BitVec 32))) :: hownT 23 1 encI (.slice none 0 0) (([] : List Int)) :: l) rfl rfl ?_
  refine W.q rfl rfl rfl rfl (by decide) (Yd.mv rfl (.t rfl)) ?_
  refine W.q rfl rfl rfl rfl (by decide) (Yd.ext rfl (.t rfl) rfl) ?_
  refine W.q rfl rfl rfl rfl (by decide) (Yd.ext rfl (.t rfl) rfl) ?_
  refine W.q rfl rfl rfl rfl (by decide) (Yd.as rfl (.t rfl)) ?_
  refine W.q rfl rfl rfl rfl (by decide) (Yd.as rfl (.t rfl)) ?_
  refine W.end ?_
  refine NX.sub (env' := [(2, _), (3, _), (4, _), (5, _), (10, _), (12, _), (13, _)]) ⟨rfl, rfl, rfl, rfl, rfl, rfl, rfl, trivial⟩ ?_
  refine NX.then ?_
  refine Tr.seq ?_
  refine Tr.block ?_
  refine Tr.seq ?_
  refine Tr.region_f (fun _ => false) ?_
  refine W.q rfl rfl rfl rfl (by decide) (Yd.mv rfl (.t rfl)) ?_
  refine W.q rfl rfl rfl rfl (by decide) (Yd.neq rfl (.t rfl) .c) ?_
  refine W.q rfl rfl rfl rfl (by decide) (Yd.as rfl (.t rfl)) ?_
  refine W.end ?_
  refine NX.sub (env' := [(2, _), (3, _), (4, _), (5, _), (10, _), (12, _), (13, _), (23, _)]) ⟨rfl, rfl, rfl, rfl, rfl, rfl, rfl, rfl, trivial⟩ ?_
  refine NX.then ?_
  refine Tr.cond (.t rfl) (fun hb => ?_) (fun hb => ?_)
  · have hr := cond_t hb hr
    refine Tr.seq ?_
    refine Tr.region_f (fun i => Nat.beq i 2) ?_
    refine W.q rfl rfl rfl rfl (by decide) (Yd.bld (cells := [.slice none 0 0, .slice none 0 0, .slice none 0 0]) rfl ZI49 PL49 .nil rfl) ?_
    refine W.q rfl rfl rfl rfl (by decide) (Yd.mv rfl (.t rfl)) ?_
    refine W.s rfl rfl rfl rfl (Ef.stB (pos := 1) (us := [_, _, _]) (cs' := [_, _, _]) rfl rfl (.t rfl) (.t rfl) SZ49 rfl rfl rfl (Nat.le_of_ble_eq_true rfl) rfl) ?_
    rintro _ _ ⟨rfl, rfl⟩
    refine ⟨.inl rfl, ?_⟩
    refine W.cast (m' := m) (l' := hownT 31 1 encU v10 _ :: hcells b6 [_, _, _] 49 :: hcells b4 [_] 3 :: hownT 31 1 encU (.slice none 0 0) (([] : List (BitVec 32))) :: hownT 31 1 encU (.slice none 0 0) (([] : List (BitVec 32))) :: hownT 23 1 encI (.slice none 0 0) (([] : List Int)) :: l) rfl rfl ?_
    refine W.q rfl rfl rfl rfl (by decide) (Yd.as rfl (.t rfl)) ?_
    refine W.end ?_
    refine NX.sub (env' := [(10, _), (11, _)]) ⟨rfl, rfl, trivial⟩ ?_
    refine NX.drop (l' := hcells b6 [_, _, _] 49 :: hownT 31 1 encU (.slice none 0 0) (([] : List (BitVec 32))) :: hownT 31 1 encU (.slice none 0 0) (([] : List (BitVec 32))) :: hownT 23 1 encI (.slice none 0 0) (([] : List Int)) :: l) (.cons _ (.cons_cons _ (.cons _ (.cons_cons _ (.cons_cons _ (.cons_cons _ (.refl _))))))) ?_
    refine NX.then ?_
    refine Tr.ret' (RT.block (RT.then ?_))
    refine resV2 rfl (Rv.cs (pos := 0) rfl rfl rfl ON49 US49 SZ49) (Rv.t rfl) ?_
    intro w hc
    cases hr
    obtain ⟨m12, hsm12, hu13, hc⟩ := cX_freeze (enc := encI) (n := 1) (p := 3) (fun _ => rfl) hc rfl
    have hpairs_1 := hpairs_1.mono hsm12
    have hodds_2 := hodds_2.mono hsm12
    have hscript_4 := hscript_4.mono hsm12
    obtain ⟨m14, hsm14, hu15, hc⟩ := cX_freeze (enc := encU) (n := 1) (p := 2) (fun _ => rfl) hc rfl
    have hpairs_1 := hpairs_1.mono hsm14
    have hodds_2 := hodds_2.mono hsm14
    have hscript_4 := hscript_4.mono hsm14
    have hu13 := hu13.mono hsm14
    obtain ⟨m16, hsm16, hu17, hc⟩ := cX_freeze (enc := encU) (n := 1) (p := 1) (fun _ => rfl) hc rfl
    have hpairs_1 := hpairs_1.mono hsm16
    have hodds_2 := hodds_2.mono hsm16
    have hscript_4 := hscript_4.mono hsm16
    have hu13 := hu13.mono hsm16
    have hu15 := hu15.mono hsm16
    exact ⟨_, _, _, _, rfl, ((hsm12.trans hsm14).trans hsm16), hu13, hu15, hu17, (cX_sub (.cons _ (.refl _)) hc)⟩
  · have hr := cond_f hb hr
    refine Tr.seq ?_
    refine Tr.region_f (fun _ => false) ?_
    refine W.q rfl rfl rfl rfl (by decide) (Yd.mv rfl (.t rfl)) ?_
    refine W.q rfl rfl rfl rfl (by decide) (Yd.lss rfl (.t rfl) .c) ?_
    refine W.q rfl rfl rfl rfl (by decide) (Yd.mv rfl (.t rfl)) ?_
    refine W.g rfl rfl rfl rfl rfl (.t rfl _) rfl (by decide) (fun hG => Yd.mv rfl (.t rfl)) ?_
    refine W.g rfl rfl rfl rfl rfl (.t rfl _) rfl (by decide) (fun hG => Yd.gtr rfl (.g rfl hG) .c) ?_
    refine W.q rfl rfl rfl rfl (by decide) (Yd.or rfl (.t rfl) .c rfl rfl) ?_
    refine W.q rfl rfl rfl rfl (by decide) (Yd.mv rfl (.t rfl)) ?_
    refine W.g rfl rfl rfl rfl rfl (.t rfl _) rfl (by decide) (fun hG => Yd.mv rfl (.t rfl)) ?_
    refine W.g rfl rfl rfl rfl rfl (.t rfl _) rfl (by decide) (fun hG => Yd.lenR hscript_4 rfl Try.underlying46 (.g rfl hG)) ?_
    refine W.g rfl rfl rfl rfl rfl (.t rfl _) rfl (by decide) (fun hG => Yd.gtr rfl (.g rfl hG) .c) ?_
    refine W.q rfl rfl rfl rfl (by decide) (Yd.or rfl (.t rfl) .c rfl rfl) ?_
    refine W.q rfl rfl rfl rfl (by decide) (Yd.mv rfl (.t rfl)) ?_
    refine W.g rfl rfl rfl rfl rfl (.t rfl _) rfl (by decide) (fun hG => Yd.mv rfl (.t rfl)) ?_
    refine W.g rfl rfl rfl rfl rfl (.t rfl _) rfl (by decide) (fun hG => Yd.lenR hodds_2 rfl Try.underlying22 (.g rfl hG)) ?_
    refine W.g rfl rfl rfl rfl rfl (.t rfl _) rfl (by decide) (fun hG => Yd.gtr rfl (.g rfl hG) .c) ?_
    refine W.q rfl rfl rfl rfl (by decide) (Yd.or rfl (.t rfl) .c rfl rfl) ?_
    refine W.q rfl rfl rfl rfl (by decide) (Yd.as rfl (.t rfl)) ?_
    refine W.end ?_
    refine NX.sub (env' := [(2, _), (3, _), (4, _), (5, _), (10, _), (12, _), (28, _)]) ⟨rfl, rfl, rfl, rfl, rfl, rfl, rfl, trivial⟩ ?_
    refine NX.then ?_
    refine Tr.cond (.t rfl) (fun hb => ?_) (fun hb => ?_)
    · have hr := cond_t hb hr
      refine Tr.seq ?_
      refine Tr.region_f (fun i => Nat.beq i 1) ?_
      refine W.q rfl rfl rfl rfl (by decide) (Yd.bld (cells := [.slice none 0 0, .slice none 0 0, .slice none 0 0]) rfl ZI49 PL49 .nil rfl) ?_
      refine W.s rfl rfl rfl rfl (Ef.stB (pos := 1) (us := [_, _, _]) (cs' := [_, _, _]) rfl rfl (.t rfl) (.t rfl) SZ49 rfl rfl rfl (Nat.le_of_ble_eq_true rfl) rfl) ?_
      rintro _ _ ⟨rfl, rfl⟩
      refine ⟨.inl rfl, ?_⟩
      refine W.cast (m' := m) (l' := hownT 31 1 encU v10 _ :: hcells b6 [_, _, _] 49 :: hcells b4 [_] 3 :: hownT 31 1 encU (.slice none 0 0) (([] : List (BitVec 32))) :: hownT 31 1 encU (.slice none 0 0) (([] : List (BitVec 32))) :: hownT 23 1 encI (.slice none 0 0) (([] : List Int)) :: l) rfl rfl ?_
      refine W.q rfl rfl rfl rfl (by decide) (Yd.as rfl .c) ?_
      refine W.end ?_
      refine NX.sub (env' := [(10, _), (11, _)]) ⟨rfl, rfl, trivial⟩ ?_
      refine NX.drop (l' := hcells b6 [_, _, _] 49 :: hownT 31 1 encU (.slice none 0 0) (([] : List (BitVec 32))) :: hownT 31 1 encU (.slice none 0 0) (([] : List (BitVec 32))) :: hownT 23 1 encI (.slice none 0 0) (([] : List Int)) :: l) (.cons _ (.cons_cons _ (.cons _ (.cons_cons _ (.cons_cons _ (.cons_cons _ (.refl _))))))) ?_
      refine NX.then ?_
      refine Tr.ret' (RT.block (RT.then ?_))
      refine resV2 rfl (Rv.cs (pos := 0) rfl rfl rfl ON49 US49 SZ49) (Rv.t rfl) ?_
      intro w hc
      cases hr
      obtain ⟨m18, hsm18, hu19, hc⟩ := cX_freeze (enc := encI) (n := 1) (p := 3) (fun _ => rfl) hc rfl
      have hpairs_1 := hpairs_1.mono hsm18
      have hodds_2 := hodds_2.mono hsm18
      have hscript_4 := hscript_4.mono hsm18
      obtain ⟨m20, hsm20, hu21, hc⟩ := cX_freeze (enc := encU) (n := 1) (p := 2) (fun _ => rfl) hc rfl
      have hpairs_1 := hpairs_1.mono hsm20
      have hodds_2 := hodds_2.mono hsm20
      have hscript_4 := hscript_4.mono hsm20
      have hu19 := hu19.mono hsm20
      obtain ⟨m22, hsm22, hu23, hc⟩ := cX_freeze (enc := encU) (n := 1) (p := 1) (fun _ => rfl) hc rfl
      have hpairs_1 := hpairs_1.mono hsm22
      have hodds_2 := hodds_2.mono hsm22
      have hscript_4 := hscript_4.mono hsm22
      have hu19 := hu19.mono hsm22
      have hu21 := hu21.mono hsm22
      exact ⟨_, _, _, _, rfl, ((hsm18.trans hsm20).trans hsm22), hu19, hu21, hu23, (cX_sub (.cons _ (.refl _)) hc)⟩
    · have hr := cond_f hb hr
      refine Tr.seq ?_
      obtain ⟨r24, hr25, hr⟩ := bind_some hr
      refine Tr.region_f (fun _ => false) ?_
      refine W.q rfl rfl rfl rfl (by decide) (Yd.mv rfl (.t rfl)) ?_
      refine W.q rfl rfl rfl rfl (by decide) (Yd.mkf rfl (.cons (.t rfl) .nil)) ?_
      refine W.q rfl rfl rfl rfl (by decide) (Yd.call (v := .bool r24) rfl Try.func33 rfl rfl (.cons (.t rfl) (.cons (.t rfl) .nil)) (fun x' hx w hw => slices_ContainsFunc_Suint32uint32_ok w0 x'.m x'.l _ _ (hodds_2.mono hx.1) _ (fun a => roles_Play_c1 a n_0) ⟨34, _, _, rfl, Try.func34, rfl, rfl, fun y hy w2 hw2 v a r2 hv hr2 => by obtain ⟨p5, hp5⟩ := (leX_trans _ _ _ hx hy).at (p := 2) rfl; obtain rfl := hv; exact roles_Play_c1_ok w0 y.m y.l a p5 _ n_0 hp5 r2 hr2 w2 hw2⟩ _ hr25 w hw)) ?_
      refine W.q rfl rfl rfl rfl (by decide) (Yd.as rfl (.t rfl)) ?_
      refine W.end ?_
      refine NX.sub (env' := [(2, _), (3, _), (4, _), (10, _), (12, _), (46, _)]) ⟨rfl, rfl, rfl, rfl, rfl, rfl, trivial⟩ ?_
      refine NX.drop (l' := hownT 31 1 encU v10 _ :: hcells b6 [_, _, _] 49 :: hownT 31 1 encU (.slice none 0 0) (([] : List (BitVec 32))) :: hownT 31 1 encU (.slice none 0 0) (([] : List (BitVec 32))) :: hownT 23 1 encI (.slice none 0 0) (([] : List Int)) :: l) (.cons_cons _ (.cons_cons _ (.cons _ (.cons_cons _ (.cons_cons _ (.cons_cons _ (.refl _))))))) ?_
      refine NX.then ?_
      refine Tr.cond (.t rfl) (fun hb => ?_) (fun hb => ?_)
      · have hr := cond_t hb hr
        refine Tr.seq ?_
        refine Tr.region_f (fun i => Nat.beq i 1) ?_
        refine W.q rfl rfl rfl rfl (by decide) (Yd.bld (cells := [.slice none 0 0, .slice none 0 0, .slice none 0 0]) rfl ZI49 PL49 .nil rfl) ?_
        refine W.s rfl rfl rfl rfl (Ef.stB (pos := 1) (us := [_, _, _]) (cs' := [_, _, _]) rfl rfl (.t rfl) (.t rfl) SZ49 rfl rfl rfl (Nat.le_of_ble_eq_true rfl) rfl) ?_
        rintro _ _ ⟨rfl, rfl⟩
        refine ⟨.inl rfl, ?_⟩
        refine W.cast (m' := m) (l' := hownT 31 1 encU v10 _ :: hcells b6 [_, _, _] 49 :: hownT 31 1 encU (.slice none 0 0) (([] : List (BitVec 32))) :: hownT 31 1 encU (.slice none 0 0) (([] : List (BitVec 32))) :: hownT 23 1 encI (.slice none 0 0) (([] : List Int)) :: l) rfl rfl ?_
        refine W.q rfl rfl rfl rfl (by decide) (Yd.as rfl .c) ?_
        refine W.end ?_
        refine NX.sub (env' := [(10, _), (11, _)]) ⟨rfl, rfl, trivial⟩ ?_
        refine NX.drop (l' := hcells b6 [_, _, _] 49 :: hownT 31 1 encU (.slice none 0 0) (([] : List (BitVec 32))) :: hownT 31 1 encU (.slice none 0 0) (([] : List (BitVec 32))) :: hownT 23 1 encI (.slice none 0 0) (([] : List Int)) :: l) (.cons _ (.cons_cons _ (.cons_cons _ (.cons_cons _ (.cons_cons _ (.refl _)))))) ?_
        refine NX.then ?_
        refine Tr.ret' (RT.block (RT.then ?_))
        refine resV2 rfl (Rv.cs (pos := 0) rfl rfl rfl ON49 US49 SZ49) (Rv.t rfl) ?_
        intro w hc
        cases hr
        obtain ⟨m26, hsm26, hu27, hc⟩ := cX_freeze (enc := encI) (n := 1) (p := 3) (fun _ => rfl) hc rfl
        have hpairs_1 := hpairs_1.mono hsm26
        have hodds_2 := hodds_2.mono hsm26
        have hscript_4 := hscript_4.mono hsm26
        obtain ⟨m28, hsm28, hu29, hc⟩ := cX_freeze (enc := encU) (n := 1) (p := 2) (fun _ => rfl) hc rfl
        have hpairs_1 := hpairs_1.mono hsm28
        have hodds_2 := hodds_2.mono hsm28
        have hscript_4 := hscript_4.mono hsm28
        have hu27 := hu27.mono hsm28
        obtain ⟨m30, hsm30, hu31, hc⟩ := cX_freeze (enc := encU) (n := 1) (p := 1) (fun _ => rfl) hc rfl
        have hpairs_1 := hpairs_1.mono hsm30
        have hodds_2 := hodds_2.mono hsm30
        have hscript_4 := hscript_4.mono hsm30
        have hu27 := hu27.mono hsm30
        have hu29 := hu29.mono hsm30
        exact ⟨_, _, _, _, rfl, ((hsm26.trans hsm28).trans hsm30), hu27, hu29, hu31, (cX_sub (.cons _ (.refl _)) hc)⟩
      · have hr := cond_f hb hr
        refine Tr.skip' ?_
        refine NX.block ?_
        refine NX.then ?_
        refine Tr.seq ?_
        refine Tr.addnil 23 1 ?_
        refine Tr.cast (m' := m) (l' := hownT 23 1 encI (.slice none 0 0) (([] : List Int)) :: hownT 31 1 encU v10 r8.1 :: hcells b6 [(.slice none 0 0), (.slice none 0 0), (.slice none 0 0)] 49 :: hownT 31 1 encU (.slice none 0 0) (([] : List (BitVec 32))) :: hownT 31 1 encU (.slice none 0 0) (([] : List (BitVec 32))) :: hownT 23 1 encI (.slice none 0 0) (([] : List Int)) :: l) rfl rfl ?_
        refine Tr.join (S := fun env x => ∃ b403 : Nat, ∃ v203 : Value, ∃ v283 : Value, env = [(4, uscript_4), (10, bp b6 0), (14, bp b403 0)] ∧ x = ⟨m, hcells b403 [v10, uodds_2, (.slice none 0 0), v203, v283] 70 :: hownT 31 1 encU v283 ((List.replicate users_3.toNat (0#32))) :: hownT 31 1 encU v203 ((List.replicate users_3.toNat (0#32))) :: hownT 23 1 encI (.slice none 0 0) (([] : List Int)) :: hownT 31 1 encU v10 r8.1 :: hcells b6 [(.slice none 0 0), (.slice none 0 0), (.slice none 0 0)] 49 :: hownT 31 1 encU (.slice none 0 0) (([] : List (BitVec 32))) :: hownT 31 1 encU (.slice none 0 0) (([] : List (BitVec 32))) :: hownT 23 1 encI (.slice none 0 0) (([] : List Int)) :: l⟩ ∧ (forK (σ := (List (BitVec 32)) × (List (BitVec 32)) × (List Int) × (List (BitVec 32))) (fun i s nx_ => roles_Play_b539 odds_2 script_4 i s.1 s.2.1 s.2.2.1 s.2.2.2 nx_) (fun s => roles_Play_k529 s.1 s.2.1 s.2.2.1 s.2.2.2) ((script_4.length : Int) - (0 : Int)).toNat (0 : Int) (((List.replicate users_3.toNat (0#32))), ((List.replicate users_3.toNat (0#32))), (([] : List Int)), r8.1)) = some r) ?_ (fun hk443 => ?_)
        · rintro _ _ ⟨b403, v203, v283, rfl, rfl, hr⟩
          refine NX.then ?_
          refine Tr.seq ?_
          refine Tr.seq ?_
          refine Tr.region_f (fun _ => false) ?_
          refine W.q rfl rfl rfl rfl (by decide) (Yd.mv rfl (.t rfl)) ?_
          refine W.q rfl rfl rfl rfl (by decide) (Yd.lenR hscript_4 rfl Try.underlying46 (.t rfl)) ?_
          refine W.q rfl rfl rfl rfl (by decide) (Yd.mv rfl .c) ?_
          refine W.end ?_
          refine NX.sub (env' := [(10, _), (14, _), (60, _), (61, _), (62, _)]) ⟨rfl, rfl, rfl, rfl, rfl, trivial⟩ ?_
          refine NX.then ?_
          refine Tr.join (S := fun env x => ∃ l521 : List (BitVec 32), ∃ l523 : List (BitVec 32), ∃ l525 : List Int, ∃ l527 : List (BitVec 32), ∃ v522 : Value, ∃ v524 : Value, ∃ v526 : Value, ∃ v528 : Value, env = [(10, bp b6 0), (14, bp b403 0)] ∧ x = ⟨m, hcells b403 [v528, uodds_2, v526, v524, v522] 70 :: hownT 31 1 encU v522 l521 :: hownT 31 1 encU v524 l523 :: hownT 23 1 encI v526 l525 :: hownT 31 1 encU v528 l527 :: hcells b6 [(.slice none 0 0), (.slice none 0 0), (.slice none 0 0)] 49 :: hownT 31 1 encU (.slice none 0 0) (([] : List (BitVec 32))) :: hownT 31 1 encU (.slice none 0 0) (([] : List (BitVec 32))) :: hownT 23 1 encI (.slice none 0 0) (([] : List Int)) :: l⟩ ∧ roles_Play_k529 l521 l523 l525 l527 = some r) ?_ (fun hk530 => ?_)
          · rintro _ _ ⟨l521, l523, l525, l527, v522, v524, v526, v528, rfl, rfl, hr⟩
            unfold roles_Play_k529 at hr
            try dsimp only at hr
            refine NX.then ?_
            refine Tr.seq ?_
            refine Tr.region_f (fun i => Nat.beq i 4) ?_
            refine W.q rfl rfl rfl rfl (by decide) (Yd.mv rfl (.t rfl)) ?_
            refine W.q rfl rfl rfl rfl (by decide) (Yd.nilc rfl (.t rfl)) ?_
            refine W.q rfl rfl rfl rfl (by decide) (Yd.fldB rfl Try.underlying70 rfl SZ49 rfl (.t rfl)) ?_
            refine W.q rfl rfl rfl rfl (by decide) (Yd.ldBs (pos := 0) (us := [_, _, _]) rfl rfl rfl rfl ON49 US49 SZ49 (.t rfl)) ?_
            refine W.s rfl rfl rfl rfl (Ef.stBs (pos := 5) (us := [v526, v524, v522]) (cs' := [_, _, _]) (.cons (On.own (pos := 3) rfl) (.cons (On.own (pos := 2) rfl) (.cons (On.own (pos := 1) rfl) .nil))) rfl rfl (.t rfl) (.t rfl) SZ49 rfl rfl (Nat.le_of_ble_eq_true rfl) rfl) ?_
            rintro _ _ ⟨rfl, rfl⟩
            refine ⟨.inl rfl, ?_⟩
            refine W.cast (m' := m) (l' := hcells b403 [_, _, _, _, _] 70 :: hownT 31 1 encU v522 _ :: hownT 31 1 encU v524 _ :: hownT 23 1 encI v526 _ :: hownT 31 1 encU v528 _ :: hcells b6 [_, _, _] 49 :: hownT 31 1 encU (.slice none 0 0) (([] : List (BitVec 32))) :: hownT 31 1 encU (.slice none 0 0) (([] : List (BitVec 32))) :: hownT 23 1 encI (.slice none 0 0) (([] : List Int)) :: l) rfl rfl ?_
            refine W.q rfl rfl rfl rfl (by decide) (Yd.as rfl .c) ?_
            refine W.end ?_
            refine NX.sub (env' := [(10, _), (11, _)]) ⟨rfl, rfl, trivial⟩ ?_
            refine NX.drop (l' := hownT 31 1 encU v522 _ :: hownT 31 1 encU v524 _ :: hownT 23 1 encI v526 _ :: hcells b6 [_, _, _] 49 :: l) (.cons _ (.cons_cons _ (.cons_cons _ (.cons_cons _ (.cons _ (.cons_cons _ (.cons _ (.cons _ (.cons _ (.refl _)))))))))) ?_
            refine NX.then ?_
            refine Tr.ret' ?_
            refine resV2 rfl (Rv.cs (pos := 3) rfl rfl rfl ON49 US49 SZ49) (Rv.t rfl) ?_
            intro w hc
            cases hr
            obtain ⟨m531, hsm531, hu532, hc⟩ := cX_freeze (enc := encI) (n := 1) (p := 2) (fun _ => rfl) hc rfl
            have hpairs_1 := hpairs_1.mono hsm531
            have hodds_2 := hodds_2.mono hsm531
            have hscript_4 := hscript_4.mono hsm531
            obtain ⟨m533, hsm533, hu534, hc⟩ := cX_freeze (enc := encU) (n := 1) (p := 1) (fun _ => rfl) hc rfl
            have hpairs_1 := hpairs_1.mono hsm533
            have hodds_2 := hodds_2.mono hsm533
            have hscript_4 := hscript_4.mono hsm533
            have hu532 := hu532.mono hsm533
            obtain ⟨m535, hsm535, hu536, hc⟩ := cX_freeze (enc := encU) (n := 1) (p := 0) (fun _ => rfl) hc rfl
            have hpairs_1 := hpairs_1.mono hsm535
            have hodds_2 := hodds_2.mono hsm535
            have hscript_4 := hscript_4.mono hsm535
            have hu532 := hu532.mono hsm535
            have hu534 := hu534.mono hsm535
            exact ⟨_, _, _, _, rfl, ((hsm531.trans hsm533).trans hsm535), hu532, hu534, hu536, (cX_sub (.cons _ (.refl _)) hc)⟩
          have hlen537 := (hscript_4).2.1
          refine Tr.block ?_
          refine Tr.sub (env' := [(10, _), (14, _), (60, _), (61, _), (62, _)]) ⟨rfl, rfl, rfl, rfl, rfl, trivial⟩ ?_
          refine Tr.loop (S := fun n (z : Int × (List (BitVec 32)) × (List (BitVec 32)) × (List Int) × (List (BitVec 32))) env x => match z with | (t_538, l513, l515, l517, l519) => ∃ v514 : Value, ∃ v516 : Value, ∃ v518 : Value, ∃ v520 : Value, env = [(10, bp b6 0), (14, bp b403 0), (60, uscript_4), (61, .int .i64 ((script_4.length : Int))), (62, .int .i64 t_538)] ∧ x = ⟨m, hcells b403 [v520, uodds_2, v518, v516, v514] 70 :: hownT 31 1 encU v514 l513 :: hownT 31 1 encU v516 l515 :: hownT 23 1 encI v518 l517 :: hownT 31 1 encU v520 l519 :: hcells b6 [(.slice none 0 0), (.slice none 0 0), (.slice none 0 0)] 49 :: hownT 31 1 encU (.slice none 0 0) (([] : List (BitVec 32))) :: hownT 31 1 encU (.slice none 0 0) (([] : List (BitVec 32))) :: hownT 23 1 encI (.slice none 0 0) (([] : List Int)) :: l⟩ ∧ n = ((script_4.length : Int) - t_538).toNat ∧ 0 ≤ t_538 ∧ forK (σ := (List (BitVec 32)) × (List (BitVec 32)) × (List Int) × (List (BitVec 32))) (fun i s nx_ => roles_Play_b539 odds_2 script_4 i s.1 s.2.1 s.2.2.1 s.2.2.2 nx_) (fun s => roles_Play_k529 s.1 s.2.1 s.2.2.1 s.2.2.2) n t_538 (l513, l515, l517, l519) = some r) _ ((0 : Int), (List.replicate users_3.toNat (0#32)), (List.replicate users_3.toNat (0#32)), ([] : List Int), r8.1) ⟨_, _, _, _, rfl, rfl, rfl, (by omega), hr⟩ ?_
          rintro n541 ⟨t_538, l513, l515, l517, l519⟩ env x ⟨v514, v516, v518, v520, rfl, rfl, hnt_538, h0t_538, hr⟩
          cases n541 with
          | zero =>
            simp only [forK] at hr
            refine Tr.seq ?_
            refine Tr.region_f (fun _ => false) ?_
            refine W.q rfl rfl rfl rfl (by decide) (Yd.lss rfl (.t rfl) (.t rfl)) ?_
            refine W.end ?_
            refine NX.sub (env' := [(10, _), (14, _), (60, _), (61, _), (62, _), (63, _)]) ⟨rfl, rfl, rfl, rfl, rfl, rfl, trivial⟩ ?_
            refine NX.then ?_
            refine Tr.seq ?_
            refine Tr.cond (.t rfl) (fun hb => ?_) (fun hb => ?_)
            · exact absurd (hb.symm.trans (fr_end hnt_538)) (by decide)
            ·
              refine Tr.exit' (EX.then (EX.then (EX.block ?_)))
              refine NX.sub (env' := [(10, _), (14, _)]) ⟨rfl, rfl, trivial⟩ ?_
              exact hk530 _ _ ⟨_, _, _, _, _, _, _, _, rfl, rfl, hr⟩
          | succ n541 =>
            obtain ⟨nx540, hnx540, hr⟩ := forK_succ hr
            try dsimp only at hr
            unfold roles_Play_b539 at hr
            try dsimp only at hr
            have hltt_538 := fr_bnd hnt_538
            refine Tr.seq ?_
            refine Tr.region_f (fun _ => false) ?_
            refine W.q rfl rfl rfl rfl (by decide) (Yd.lss rfl (.t rfl) (.t rfl)) ?_
            refine W.end ?_
            refine NX.sub (env' := [(10, _), (14, _), (60, _), (61, _), (62, _), (63, _)]) ⟨rfl, rfl, rfl, rfl, rfl, rfl, trivial⟩ ?_
            refine NX.then ?_
            refine Tr.seq ?_
            refine Tr.cond (.t rfl) (fun hb => ?_) (fun hb => ?_)
            rotate_left
            · exact absurd (hb.symm.trans (fr_go hnt_538)) (by decide)
            ·
              refine Tr.skip' ?_
              refine NX.then ?_
              refine Tr.seq ?_
              refine Tr.block ?_
              refine Tr.seq ?_
              obtain ⟨y542, hy543, hr⟩ := bind_some hr
              refine Tr.region_f (fun i => Nat.beq i 2 || Nat.beq i 3) ?_
              refine W.q rfl rfl rfl rfl (by decide) (Yd.idxR hscript_4 hy543 rfl Try.underlying46 SZ74 (.t rfl) (.t rfl)) ?_
              refine W.q rfl rfl rfl rfl (by decide) (Yd.ldFs (us := [_, _, _, _, _, _]) hscript_4 (.refl _) hy543 rfl rfl ON74 US74 SZ74 (.t rfl)) ?_
              refine W.e rfl rfl rfl rfl (by decide) (Ef.al rfl ZR74 rfl) ?_
              rintro _ _ ⟨b544, rfl, rfl⟩
              refine ⟨.inl rfl, ?_⟩
              refine W.cast (m' := m) (l' := hcells b544 [_, _, _, _, _, _] 74 :: hcells b403 [_, _, _, _, _] 70 :: hownT 31 1 encU v514 _ :: hownT 31 1 encU v516 _ :: hownT 23 1 encI v518 _ :: hownT 31 1 encU v520 _ :: hcells b6 [_, _, _] 49 :: hownT 31 1 encU (.slice none 0 0) (([] : List (BitVec 32))) :: hownT 31 1 encU (.slice none 0 0) (([] : List (BitVec 32))) :: hownT 23 1 encI (.slice none 0 0) (([] : List Int)) :: l) rfl rfl ?_
              refine W.s rfl rfl rfl rfl (Ef.stB (pos := 0) (us := [_, _, _, _, _, _]) (cs' := [_, _, _, _, _, _]) rfl rfl (.t rfl) (.t rfl) SZ74 rfl rfl rfl (Nat.le_of_ble_eq_true rfl) rfl) ?_
              rintro _ _ ⟨rfl, rfl⟩
              refine ⟨.inl rfl, ?_⟩
              refine W.cast (m' := m) (l' := hcells b544 [_, _, _, _, _, _] 74 :: hcells b403 [_, _, _, _, _] 70 :: hownT 31 1 encU v514 _ :: hownT 31 1 encU v516 _ :: hownT 23 1 encI v518 _ :: hownT 31 1 encU v520 _ :: hcells b6 [_, _, _] 49 :: hownT 31 1 encU (.slice none 0 0) (([] : List (BitVec 32))) :: hownT 31 1 encU (.slice none 0 0) (([] : List (BitVec 32))) :: hownT 23 1 encI (.slice none 0 0) (([] : List Int)) :: l) rfl rfl ?_
              refine W.end ?_
              refine NX.sub (env' := [(10, _), (14, _), (60, _), (61, _), (62, _), (16, _)]) ⟨rfl, rfl, rfl, rfl, rfl, rfl, trivial⟩ ?_
              refine NX.then ?_
              obtain ⟨r546, hr547, hr⟩ := bind_some hr
              obtain ⟨hq551, hr⟩ := guard_some hr; replace hq551 := of_decide_eq_true hq551
              refine Tr.region_xJ (fun x => Sle m x.m ∧ (∃ p : Nat, x.l[p]? = some (hcells b403 [v520, uodds_2, v518, v516, v514] 70)) ∧ True) (fun _ _ hx h => by obtain ⟨hm, ⟨_, h0⟩, _⟩ := h; exact ⟨hm.trans hx.1, hx.at h0, trivial⟩) (fun i => Nat.beq i 8) (fun i => Nat.beq i 5) (fun i => Nat.beq i 8 || Nat.beq i 9 || Nat.beq i 10 || Nat.beq i 14) (fun i => Nat.beq i 0 || Nat.beq i 1 || Nat.beq i 2 || Nat.beq i 3 || Nat.beq i 4 || Nat.beq i 5 || Nat.beq i 8 || Nat.beq i 10 || Nat.beq i 14) (Ord.of [0, 1, 2, 3, 4, 5, 6, 7, 8, 9, 10, 11, 12, 13, 14]) FM (by kernel_rfl) ?_
              refine W.p rfl rfl rfl rfl (by decide) (fun _ => Yd.mv rfl (.t rfl)) ?_
              refine W.p rfl rfl rfl rfl (by decide) (fun _ => Yd.mv rfl (.t rfl)) ?_
              refine W.p rfl rfl rfl rfl (by decide) (fun _ => Yd.nilc rfl (.t rfl)) ?_
              refine W.p rfl rfl rfl rfl (by decide) (fun _ => Yd.fldB rfl Try.underlying70 rfl SZ49 rfl (.t rfl)) ?_
              refine W.p rfl rfl rfl rfl (by decide) (fun _ => Yd.fldB rfl Try.underlying49 rfl SZ47 rfl (.t rfl)) ?_
              refine W.pJ rfl rfl rfl rfl (by decide) (fun _ h => by obtain ⟨jhm, ⟨jp0, jhp0⟩, _⟩ := h; exact Yd.ldB (pos := jp0) jhp0 rfl rfl ON47 (.t rfl)) ⟨(.refl _), ⟨1, rfl⟩, trivial⟩ rfl ?_
              refine W.q rfl rfl rfl rfl (by decide) (Yd.mv rfl (.t rfl)) ?_
              refine W.q rfl rfl rfl rfl (by decide) (Yd.ldBs (pos := 0) (us := [_, _, _, _, _, _]) rfl rfl rfl rfl ON74 US74 SZ74 (.t rfl)) ?_
              refine W.e rfl rfl rfl rfl (by decide) (Ef.call (R := fun z x' => z = .int .i64 r546.1 ∧ x' = ⟨m, hcells b403 [v520, uodds_2, v518, v516, v514] 70 :: hownT 31 1 encU v520 r546.2.up :: hownT 23 1 encI v518 r546.2.roles.codes :: hownT 31 1 encU v516 r546.2.roles.given :: hownT 31 1 encU v514 r546.2.roles.play :: hcells b544 [.int .i64 y542.kind, .int .i64 y542.by_, .int .i64 y542.to, .int .i64 y542.label.level, .int .u32 (y542.label.parts.toNat : Int), .int .i64 y542.val] 74 :: hcells b6 [(.slice none 0 0), (.slice none 0 0), (.slice none 0 0)] 49 :: hownT 31 1 encU (.slice none 0 0) (([] : List (BitVec 32))) :: hownT 31 1 encU (.slice none 0 0) (([] : List (BitVec 32))) :: hownT 23 1 encI (.slice none 0 0) (([] : List Int)) :: l⟩) rfl Try.func35 rfl rfl (.cons (.t rfl) (.cons (.t rfl) .nil)) (by intro w hw; replace hw := cX_front (p := 2) hw rfl; replace hw := cX_front (p := 3) hw rfl; replace hw := cX_front (p := 4) hw rfl; replace hw := cX_front (p := 5) hw rfl; replace hw := cX_front (p := 5) hw rfl; exact (roles_office_do_ok w0 _ _ _ _ _ _ hodds_2 _ _ _ (({ kind := y542.kind, by_ := y542.by_, to := y542.to, label := ({ level := y542.label.level, parts := y542.label.parts } : Label), val := y542.val } : Deed)) _ hr547 w hw).mono fun e w' ⟨he, hc'⟩ => ⟨_, _, he, ⟨rfl, rfl⟩, hc'⟩)) ?_ (hJ := by rintro _ _ ⟨rfl, rfl⟩; exact fun _ => ⟨(.refl _), ⟨0, rfl⟩, trivial⟩)
              rintro _ _ ⟨rfl, rfl⟩
              refine ⟨.inl rfl, ?_⟩
              refine W.cast (m' := m) (l' := hcells b403 [_, _, _, _, _] 70 :: hownT 31 1 encU v520 _ :: hownT 23 1 encI v518 _ :: hownT 31 1 encU v516 _ :: hownT 31 1 encU v514 _ :: hcells b544 [_, _, _, _, _, _] 74 :: hcells b6 [_, _, _] 49 :: hownT 31 1 encU (.slice none 0 0) (([] : List (BitVec 32))) :: hownT 31 1 encU (.slice none 0 0) (([] : List (BitVec 32))) :: hownT 23 1 encI (.slice none 0 0) (([] : List Int)) :: l) rfl rfl ?_
              refine W.e rfl rfl rfl rfl (by decide) (Ef.bsT (enc := encI) (vs := [_]) (ys := [r546.1]) (fun _ => rfl) IF23 rfl Try.underlying47 (by decide) rfl (.cons (.t rfl) .nil) rfl rfl (by decide)) ?_ (hJ := fun _ _ _ h => absurd (show false = true from h) (by decide))
              rintro v552 _ rfl
              refine ⟨.inr ⟨.refl _, [_], rfl⟩, ?_⟩
              refine W.cast (m' := m) (l' := hownT 23 1 encI v552 _ :: hcells b403 [_, _, _, _, _] 70 :: hownT 31 1 encU v520 _ :: hownT 23 1 encI v518 _ :: hownT 31 1 encU v516 _ :: hownT 31 1 encU v514 _ :: hcells b544 [_, _, _, _, _, _] 74 :: hcells b6 [_, _, _] 49 :: hownT 31 1 encU (.slice none 0 0) (([] : List (BitVec 32))) :: hownT 31 1 encU (.slice none 0 0) (([] : List (BitVec 32))) :: hownT 23 1 encI (.slice none 0 0) (([] : List Int)) :: l) rfl rfl ?_
              refine W.e rfl rfl rfl rfl (by decide) (Ef.apI (pos := 3) (enc := encI) (xs := r546.2.roles.codes) (ys := ([r546.1] : List Int)) (fun _ => rfl) IF23 rfl rfl Try.underlying47 rfl (by decide) (.t rfl) (.t rfl) (Src.own (pos := 0) rfl) (fun _ => rfl) (by omega) (by omega)) ?_ (hJ := fun _ _ _ h => absurd (show false = true from h) (by decide))
              rintro v554 _ rfl
              refine ⟨.inl rfl, ?_⟩
              refine W.cast (m' := m) (l' := hownT 23 1 encI v552 _ :: hcells b403 [_, _, _, _, _] 70 :: hownT 31 1 encU v520 _ :: hownT 23 1 encI v554 _ :: hownT 31 1 encU v516 _ :: hownT 31 1 encU v514 _ :: hcells b544 [_, _, _, _, _, _] 74 :: hcells b6 [_, _, _] 49 :: hownT 31 1 encU (.slice none 0 0) (([] : List (BitVec 32))) :: hownT 31 1 encU (.slice none 0 0) (([] : List (BitVec 32))) :: hownT 23 1 encI (.slice none 0 0) (([] : List Int)) :: l) rfl rfl ?_
              refine W.q rfl rfl rfl rfl (by decide) (Yd.nilc rfl (.t rfl)) ?_
              refine W.q rfl rfl rfl rfl (by decide) (Yd.fldB rfl Try.underlying70 rfl SZ49 rfl (.t rfl)) ?_
              refine W.q rfl rfl rfl rfl (by decide) (Yd.fldB rfl Try.underlying49 rfl SZ47 rfl (.t rfl)) ?_
              refine W.s rfl rfl rfl rfl (Ef.stBo (pos := 1) (pos2 := 3) (cs' := [_, _, _, _, _]) rfl rfl rfl (.t rfl) (.t rfl) SZ47 (Nat.le_of_ble_eq_true rfl) rfl) ?_ (hJ := fun _ _ _ h => absurd (show false = true from h) (by decide))
              rintro _ _ ⟨rfl, rfl⟩
              refine ⟨.inl rfl, ?_⟩
              refine W.cast (m' := m) (l' := hownT 23 1 encI v552 _ :: hcells b403 [_, _, _, _, _] 70 :: hownT 31 1 encU v520 _ :: hownT 23 1 encI v554 _ :: hownT 31 1 encU v516 _ :: hownT 31 1 encU v514 _ :: hcells b544 [_, _, _, _, _, _] 74 :: hcells b6 [_, _, _] 49 :: hownT 31 1 encU (.slice none 0 0) (([] : List (BitVec 32))) :: hownT 31 1 encU (.slice none 0 0) (([] : List (BitVec 32))) :: hownT 23 1 encI (.slice none 0 0) (([] : List Int)) :: l) rfl rfl ?_
              refine W.end ?_
              refine NX.sub (env' := [(10, _), (14, _), (60, _), (61, _), (62, _)]) ⟨rfl, rfl, rfl, rfl, rfl, trivial⟩ ?_
              refine NX.drop (l' := hcells b403 [_, _, _, _, _] 70 :: hownT 31 1 encU v520 _ :: hownT 23 1 encI v554 _ :: hownT 31 1 encU v516 _ :: hownT 31 1 encU v514 _ :: hcells b6 [_, _, _] 49 :: hownT 31 1 encU (.slice none 0 0) (([] : List (BitVec 32))) :: hownT 31 1 encU (.slice none 0 0) (([] : List (BitVec 32))) :: hownT 23 1 encI (.slice none 0 0) (([] : List Int)) :: l) (.cons _ (.cons_cons _ (.cons_cons _ (.cons_cons _ (.cons_cons _ (.cons_cons _ (.cons _ (.cons_cons _ (.cons_cons _ (.cons_cons _ (.cons_cons _ (.refl _)))))))))))) ?_
              refine NX.block ?_
              refine NX.then ?_
              refine Tr.region_f (fun _ => false) ?_
              refine W.q rfl rfl rfl rfl (by decide) (Yd.add rfl (.t rfl) .c) ?_
              refine W.q rfl rfl rfl rfl (by decide) (Yd.mv rfl (.t rfl)) ?_
              refine W.end ?_
              refine NX.sub (env' := [(10, _), (14, _), (60, _), (61, _), (62, _)]) ⟨rfl, rfl, rfl, rfl, rfl, trivial⟩ ?_
              refine NX.sub (env' := [(10, _), (14, _), (60, _), (61, _), (62, _)]) ⟨rfl, rfl, rfl, rfl, rfl, trivial⟩ ?_
              refine NX.imp (fun w hw => cX_front (p := 8) hw rfl) ?_
              refine NX.imp (fun w hw => cX_front (p := 8) hw rfl) ?_
              refine NX.imp (fun w hw => cX_front (p := 8) hw rfl) ?_
              refine NX.imp (fun w hw => cX_front (p := 8) hw rfl) ?_
              refine NX.imp (fun w hw => cX_front (p := 5) hw rfl) ?_
              refine NX.imp (fun w hw => cX_front (p := 6) hw rfl) ?_
              refine NX.imp (fun w hw => cX_front (p := 7) hw rfl) ?_
              refine NX.imp (fun w hw => cX_front (p := 8) hw rfl) ?_
              refine NX.imp (fun w hw => cX_front (p := 8) hw rfl) ?_
              refine NX.cast (m' := m) (l' := hcells b403 [_, _, _, _, _] 70 :: hownT 31 1 encU v514 _ :: hownT 31 1 encU v516 _ :: hownT 23 1 encI v554 _ :: hownT 31 1 encU v520 _ :: hcells b6 [_, _, _] 49 :: hownT 31 1 encU (.slice none 0 0) (([] : List (BitVec 32))) :: hownT 31 1 encU (.slice none 0 0) (([] : List (BitVec 32))) :: hownT 23 1 encI (.slice none 0 0) (([] : List Int)) :: l) rfl rfl ?_
              have hw := w64_id (n := t_538 + 1) (by omega) (by omega)
              exact NX.again n541 (t_538 + 1, r546.2.roles.play, r546.2.roles.given, (r546.2.roles.codes ++ ([r546.1] : List Int)), r546.2.up) (Nat.lt_succ_self _) ⟨_, _, _, _, (by rw [hw] <;> rfl), rfl, (fr_dec hnt_538), (by omega), ((hnx540 _).symm.trans hr)⟩
        obtain ⟨hq203, hr⟩ := guard_some hr; replace hq203 := of_decide_eq_true hq203
        refine Tr.region_x (fun i => Nat.beq i 3 || Nat.beq i 5 || Nat.beq i 8) (fun _ => false) (.one 0 (.one 1 (.one 2 (.one 4 (.two 3 5 (Ord.of [5, 6, 7, 8, 9]) (Ord.of [3, 6, 7, 8, 9])))))) FM (by kernel_rfl) ?_
        refine W.q rfl rfl rfl rfl (by decide) (Yd.mv rfl (.t rfl)) ?_
        refine W.q rfl rfl rfl rfl (by decide) (Yd.mv rfl (.t rfl)) ?_
        refine W.q rfl rfl rfl rfl (by decide) (Yd.mv rfl (.t rfl)) ?_
        refine W.q rfl rfl rfl rfl (by decide) (Yd.mv rfl (.t rfl)) ?_
        refine W.two ?_ ?_
        ·
          refine W.e rfl rfl rfl rfl (by decide) (Ef.mkT (enc := encU) (0#32) IF31 rfl Try.underlying22 rfl rfl (by decide) (.t rfl) (.t rfl) (by omega) (by omega) (by omega)) ?_
          rintro v203 _ rfl
          refine ⟨.inr ⟨.refl _, [_], rfl⟩, ?_⟩
          refine W.cast (m' := m) (l' := hownT 31 1 encU v203 _ :: hownT 23 1 encI (.slice none 0 0) (([] : List Int)) :: hownT 31 1 encU v10 _ :: hcells b6 [_, _, _] 49 :: hownT 31 1 encU (.slice none 0 0) (([] : List (BitVec 32))) :: hownT 31 1 encU (.slice none 0 0) (([] : List (BitVec 32))) :: hownT 23 1 encI (.slice none 0 0) (([] : List Int)) :: l) rfl rfl ?_
          refine W.e rfl rfl rfl rfl (by decide) (Ef.mkT (enc := encU) (0#32) IF31 rfl Try.underlying22 rfl rfl (by decide) (.t rfl) (.t rfl) (by omega) (by omega) (by omega)) ?_
          rintro v283 _ rfl
          refine ⟨.inr ⟨.refl _, [_], rfl⟩, ?_⟩
          refine W.cast (m' := m) (l' := hownT 31 1 encU v283 _ :: hownT 31 1 encU v203 _ :: hownT 23 1 encI (.slice none 0 0) (([] : List Int)) :: hownT 31 1 encU v10 _ :: hcells b6 [_, _, _] 49 :: hownT 31 1 encU (.slice none 0 0) (([] : List (BitVec 32))) :: hownT 31 1 encU (.slice none 0 0) (([] : List (BitVec 32))) :: hownT 23 1 encI (.slice none 0 0) (([] : List Int)) :: l) rfl rfl ?_
          refine W.q rfl rfl rfl rfl (by decide) (Yd.bld2 (cells := [(.slice none 0 0), v203, v283]) (Sl.own (p := 1) rfl) (Sl.own (p := 0) rfl) rfl ZI49 PL49 (.cons (.t rfl) (.cons (.t rfl) .nil)) (by rintro ⟨_, _, _, rfl⟩; rintro ⟨_, _, _, rfl⟩; rfl)) ?_
          refine W.q rfl rfl rfl rfl (by decide) (Yd.bld2 (cells := [v10, uodds_2, (.slice none 0 0), v203, v283]) (Sl.own (p := 3) rfl) (Sl.ro hodds_2) rfl ZI70 PL70 (.cons (.t rfl) (.cons (.t rfl) (.cons (.t rfl) .nil))) (by rintro ⟨_, _, _, rfl⟩; rintro ⟨_, _, _, rfl⟩; rfl)) ?_
          refine W.e rfl rfl rfl rfl (by decide) (Ef.bx rfl (.t rfl) rfl) ?_
          rintro _ _ ⟨b403, rfl, rfl⟩
          refine ⟨.inr ⟨.refl _, [_], rfl⟩, ?_⟩
          refine W.cast (m' := m) (l' := hcells b403 [_, _, _, _, _] 70 :: hownT 31 1 encU v283 _ :: hownT 31 1 encU v203 _ :: hownT 23 1 encI (.slice none 0 0) (([] : List Int)) :: hownT 31 1 encU v10 _ :: hcells b6 [_, _, _] 49 :: hownT 31 1 encU (.slice none 0 0) (([] : List (BitVec 32))) :: hownT 31 1 encU (.slice none 0 0) (([] : List (BitVec 32))) :: hownT 23 1 encI (.slice none 0 0) (([] : List Int)) :: l) rfl rfl ?_
          refine W.q rfl rfl rfl rfl (by decide) (Yd.as rfl (.t rfl)) ?_
          refine W.end ?_
          refine NX.sub (env' := [(4, _), (10, _), (14, _)]) ⟨rfl, rfl, rfl, trivial⟩ ?_
          exact hk443 _ _ ⟨_, _, _, rfl, rfl, hr⟩
        ·
          refine W.e rfl rfl rfl rfl (by decide) (Ef.mkT (enc := encU) (0#32) IF31 rfl Try.underlying22 rfl rfl (by decide) (.t rfl) (.t rfl) (by omega) (by omega) (by omega)) ?_
          rintro v283 _ rfl
          refine ⟨.inr ⟨.refl _, [_], rfl⟩, ?_⟩
          refine W.cast (m' := m) (l' := hownT 31 1 encU v283 _ :: hownT 23 1 encI (.slice none 0 0) (([] : List Int)) :: hownT 31 1 encU v10 _ :: hcells b6 [_, _, _] 49 :: hownT 31 1 encU (.slice none 0 0) (([] : List (BitVec 32))) :: hownT 31 1 encU (.slice none 0 0) (([] : List (BitVec 32))) :: hownT 23 1 encI (.slice none 0 0) (([] : List Int)) :: l) rfl rfl ?_
          refine W.e rfl rfl rfl rfl (by decide) (Ef.mkT (enc := encU) (0#32) IF31 rfl Try.underlying22 rfl rfl (by decide) (.t rfl) (.t rfl) (by omega) (by omega) (by omega)) ?_
          rintro v203 _ rfl
          refine ⟨.inr ⟨.refl _, [_], rfl⟩, ?_⟩
          refine W.cast (m' := m) (l' := hownT 31 1 encU v203 _ :: hownT 31 1 encU v283 _ :: hownT 23 1 encI (.slice none 0 0) (([] : List Int)) :: hownT 31 1 encU v10 _ :: hcells b6 [_, _, _] 49 :: hownT 31 1 encU (.slice none 0 0) (([] : List (BitVec 32))) :: hownT 31 1 encU (.slice none 0 0) (([] : List (BitVec 32))) :: hownT 23 1 encI (.slice none 0 0) (([] : List Int)) :: l) rfl rfl ?_
          refine W.q rfl rfl rfl rfl (by decide) (Yd.bld2 (cells := [(.slice none 0 0), v203, v283]) (Sl.own (p := 0) rfl) (Sl.own (p := 1) rfl) rfl ZI49 PL49 (.cons (.t rfl) (.cons (.t rfl) .nil)) (by rintro ⟨_, _, _, rfl⟩; rintro ⟨_, _, _, rfl⟩; rfl)) ?_
          refine W.q rfl rfl rfl rfl (by decide) (Yd.bld2 (cells := [v10, uodds_2, (.slice none 0 0), v203, v283]) (Sl.own (p := 3) rfl) (Sl.ro hodds_2) rfl ZI70 PL70 (.cons (.t rfl) (.cons (.t rfl) (.cons (.t rfl) .nil))) (by rintro ⟨_, _, _, rfl⟩; rintro ⟨_, _, _, rfl⟩; rfl)) ?_
          refine W.e rfl rfl rfl rfl (by decide) (Ef.bx rfl (.t rfl) rfl) ?_
          rintro _ _ ⟨b403, rfl, rfl⟩
          refine ⟨.inr ⟨.refl _, [_], rfl⟩, ?_⟩
          refine W.cast (m' := m) (l' := hcells b403 [_, _, _, _, _] 70 :: hownT 31 1 encU v203 _ :: hownT 31 1 encU v283 _ :: hownT 23 1 encI (.slice none 0 0) (([] : List Int)) :: hownT 31 1 encU v10 _ :: hcells b6 [_, _, _] 49 :: hownT 31 1 encU (.slice none 0 0) (([] : List (BitVec 32))) :: hownT 31 1 encU (.slice none 0 0) (([] : List (BitVec 32))) :: hownT 23 1 encI (.slice none 0 0) (([] : List Int)) :: l) rfl rfl ?_
          refine W.q rfl rfl rfl rfl (by decide) (Yd.as rfl (.t rfl)) ?_
          refine W.end ?_
          refine NX.imp (fun w hw => cX_front (p := 8) hw rfl) ?_
          refine NX.imp (fun w hw => cX_front (p := 8) hw rfl) ?_
          refine NX.imp (fun w hw => cX_front (p := 8) hw rfl) ?_
          refine NX.imp (fun w hw => cX_front (p := 8) hw rfl) ?_
          refine NX.imp (fun w hw => cX_front (p := 8) hw rfl) ?_
          refine NX.imp (fun w hw => cX_front (p := 8) hw rfl) ?_
          refine NX.imp (fun w hw => cX_front (p := 7) hw rfl) ?_
          refine NX.imp (fun w hw => cX_front (p := 8) hw rfl) ?_
          refine NX.imp (fun w hw => cX_front (p := 8) hw rfl) ?_
          refine NX.cast (m' := m) (l' := hcells b403 [_, _, _, _, _] 70 :: hownT 31 1 encU v283 _ :: hownT 31 1 encU v203 _ :: hownT 23 1 encI (.slice none 0 0) (([] : List Int)) :: hownT 31 1 encU v10 _ :: hcells b6 [_, _, _] 49 :: hownT 31 1 encU (.slice none 0 0) (([] : List (BitVec 32))) :: hownT 31 1 encU (.slice none 0 0) (([] : List (BitVec 32))) :: hownT 23 1 encI (.slice none 0 0) (([] : List Int)) :: l) rfl rfl ?_
          refine NX.sub (env' := [(4, _), (10, _), (14, _)]) ⟨rfl, rfl, rfl, trivial⟩ ?_
          exact hk443 _ _ ⟨_, _, _, rfl, rfl, hr⟩

def syllogistref_Has_k3 : Option (Bool) :=
  some false

def syllogistref_Has_b7 (l_0 : List Int) (x_1 : Int) (t_6 : Int) (nx8 : Unit → Option (Bool)) : Option (Bool) :=
  (geti l_0 t_6).bind fun y10 =>
  (bif (x_1 == y10) then
  some true
  else
  nx8 ())

def syllogistref_Has (l_0 : List Int) (x_1 : Int) : Option (Bool) :=
  forK (σ := Unit) (fun i s nx_ => syllogistref_Has_b7 l_0 x_1 i nx_) (fun _ => syllogistref_Has_k3) ((l_0.length : Int) - (0 : Int)).toNat (0 : Int) ()

set_option maxRecDepth 100000 in
set_option maxHeartbeats 4000000 in
theorem syllogistref_Has_ok (w0 : World) (m : Snap) (l : List HI) (ul_0 : Value) (l_0 : List Int) (hl_0 : RS rI m ul_0 l_0) (x_1 : Int) (r : Bool) (hr : syllogistref_Has l_0 x_1 = some r) (w : World) (hc : cX w0 ⟨m, l⟩ w) :
    Calls Try.prog 49 [ul_0, .int .i64 x_1].toArray w fun e w' => e = .returned (.bool r) ∧ cX w0 ⟨m, l⟩ w' := by
  unfold syllogistref_Has at hr
  refine calls_of_Tr (N := 17) Try.func49 rfl hc rfl (Nat.le_of_ble_eq_true rfl) ?_
  refine Tr.seq ?_
  refine Tr.region_f (fun _ => false) ?_
  refine W.q rfl rfl rfl rfl (by decide) (Yd.as rfl .c) ?_
  refine W.end ?_
  refine NX.sub (env' := [(0, _), (1, _)]) ⟨rfl, rfl, trivial⟩ ?_
  refine NX.then ?_
  refine Tr.seq ?_
  refine Tr.seq ?_
  refine Tr.region_f (fun _ => false) ?_
  refine W.q rfl rfl rfl rfl (by decide) (Yd.mv rfl (.t rfl)) ?_
  refine W.q rfl rfl rfl rfl (by decide) (Yd.lenR hl_0 rfl Try.underlying34 (.t rfl)) ?_
  refine W.q rfl rfl rfl rfl (by decide) (Yd.mv rfl .c) ?_
  refine W.end ?_
  refine NX.sub (env' := [(1, _), (7, _), (8, _), (9, _)]) ⟨rfl, rfl, rfl, rfl, trivial⟩ ?_
  refine NX.then ?_
  refine Tr.join (S := fun env x => env = [] ∧ x = ⟨m, l⟩ ∧ syllogistref_Has_k3 = some r) ?_ (fun hk4 => ?_)
  · rintro _ _ ⟨rfl, rfl, hr⟩
    unfold syllogistref_Has_k3 at hr
    try dsimp only at hr
    refine NX.then ?_
    refine Tr.seq ?_
    refine Tr.region_f (fun _ => false) ?_
    refine W.q rfl rfl rfl rfl (by decide) (Yd.as rfl .c) ?_
    refine W.end ?_
    refine NX.sub (env' := [(4, _)]) ⟨rfl, trivial⟩ ?_
    refine NX.then ?_
    refine Tr.ret' ?_
    refine res1 rfl rfl ?_
    intro w hc
    cases hr
    exact ⟨rfl, hc⟩
  have hlen5 := (hl_0).2.1
  refine Tr.block ?_
  refine Tr.sub (env' := [(1, _), (7, _), (8, _), (9, _)]) ⟨rfl, rfl, rfl, rfl, trivial⟩ ?_
  refine Tr.loop (S := fun n (z : Int × Unit) env x => match z with | (t_6, _) => env = [(1, .int .i64 x_1), (7, ul_0), (8, .int .i64 ((l_0.length : Int))), (9, .int .i64 t_6)] ∧ x = ⟨m, l⟩ ∧ n = ((l_0.length : Int) - t_6).toNat ∧ 0 ≤ t_6 ∧ forK (σ := Unit) (fun i s nx_ => syllogistref_Has_b7 l_0 x_1 i nx_) (fun _ => syllogistref_Has_k3) n t_6 () = some r) _ ((0 : Int), ()) ⟨rfl, rfl, rfl, (by omega), hr⟩ ?_
  rintro n9 ⟨t_6, _⟩ env x ⟨rfl, rfl, hnt_6, h0t_6, hr⟩
  cases n9 with
  | zero =>
    simp only [forK] at hr
    refine Tr.seq ?_
    refine Tr.region_f (fun _ => false) ?_
    refine W.q rfl rfl rfl rfl (by decide) (Yd.lss rfl (.t rfl) (.t rfl)) ?_
    refine W.end ?_
    refine NX.sub (env' := [(1, _), (7, _), (8, _), (9, _), (10, _)]) ⟨rfl, rfl, rfl, rfl, rfl, trivial⟩ ?_
    refine NX.then ?_
    refine Tr.seq ?_
    refine Tr.cond (.t rfl) (fun hb => ?_) (fun hb => ?_)
    · exact absurd (hb.symm.trans (fr_end hnt_6)) (by decide)
    ·
      refine Tr.exit' (EX.then (EX.then (EX.block ?_)))
      refine NX.sub (env' := []) trivial ?_
      exact hk4 _ _ ⟨rfl, rfl, hr⟩
  | succ n9 =>
    obtain ⟨nx8, hnx8, hr⟩ := forK_succ hr
    try dsimp only at hr
    unfold syllogistref_Has_b7 at hr
    try dsimp only at hr
    have hltt_6 := fr_bnd hnt_6
    refine Tr.seq ?_
    refine Tr.region_f (fun _ => false) ?_
    refine W.q rfl rfl rfl rfl (by decide) (Yd.lss rfl (.t rfl) (.t rfl)) ?_
    refine W.end ?_
    refine NX.sub (env' := [(1, _), (7, _), (8, _), (9, _), (10, _)]) ⟨rfl, rfl, rfl, rfl, rfl, trivial⟩ ?_
    refine NX.then ?_
    refine Tr.seq ?_
    refine Tr.cond (.t rfl) (fun hb => ?_) (fun hb => ?_)
    rotate_left
    · exact absurd (hb.symm.trans (fr_go hnt_6)) (by decide)
    ·
      refine Tr.skip' ?_
      refine NX.then ?_
      refine Tr.seq ?_
      refine Tr.block ?_
      refine Tr.seq ?_
      obtain ⟨y10, hy11, hr⟩ := bind_some hr
      refine Tr.region_f (fun _ => false) ?_
      refine W.q rfl rfl rfl rfl (by decide) (Yd.idxR hl_0 hy11 rfl Try.underlying34 SZ3 (.t rfl) (.t rfl)) ?_
      refine W.q rfl rfl rfl rfl (by decide) (Yd.ldF hl_0 (.refl _) hy11 rfl rfl ON3 (.t rfl)) ?_
      refine W.q rfl rfl rfl rfl (by decide) (Yd.as rfl (.t rfl)) ?_
      refine W.end ?_
      refine NX.sub (env' := [(1, _), (7, _), (8, _), (9, _), (6, _)]) ⟨rfl, rfl, rfl, rfl, rfl, trivial⟩ ?_
      refine NX.then ?_
      refine Tr.seq ?_
      refine Tr.region_f (fun _ => false) ?_
      refine W.q rfl rfl rfl rfl (by decide) (Yd.mv rfl (.t rfl)) ?_
      refine W.q rfl rfl rfl rfl (by decide) (Yd.mv rfl (.t rfl)) ?_
      refine W.q rfl rfl rfl rfl (by decide) (Yd.eql rfl (.t rfl) (.t rfl)) ?_
      refine W.end ?_
      refine NX.sub (env' := [(1, _), (7, _), (8, _), (9, _), (15, _)]) ⟨rfl, rfl, rfl, rfl, rfl, trivial⟩ ?_
      refine NX.then ?_
      refine Tr.cond (.t rfl) (fun hb => ?_) (fun hb => ?_)
      · have hr := cond_t hb hr
        refine Tr.seq ?_
        refine Tr.region_f (fun _ => false) ?_
        refine W.q rfl rfl rfl rfl (by decide) (Yd.as rfl .c) ?_
        refine W.end ?_
        refine NX.sub (env' := [(4, _)]) ⟨rfl, trivial⟩ ?_
        refine NX.then ?_
        refine Tr.ret' (RT.block (RT.then (RT.then (RT.block (RT.then ?_)))))
        refine res1 rfl rfl ?_
        intro w hc
        cases hr
        exact ⟨rfl, hc⟩
      · have hr := cond_f hb hr
        refine Tr.skip' ?_
        refine NX.block ?_
        refine NX.then ?_
        refine Tr.region_f (fun _ => false) ?_
        refine W.q rfl rfl rfl rfl (by decide) (Yd.add rfl (.t rfl) .c) ?_
        refine W.q rfl rfl rfl rfl (by decide) (Yd.mv rfl (.t rfl)) ?_
        refine W.end ?_
        refine NX.sub (env' := [(1, _), (7, _), (8, _), (9, _)]) ⟨rfl, rfl, rfl, rfl, trivial⟩ ?_
        refine NX.sub (env' := [(1, _), (7, _), (8, _), (9, _)]) ⟨rfl, rfl, rfl, rfl, trivial⟩ ?_
        have hw := w64_id (n := t_6 + 1) (by omega) (by omega)
        exact NX.again n9 (t_6 + 1, ()) (Nat.lt_succ_self _) ⟨(by rw [hw] <;> rfl), rfl, (fr_dec hnt_6), (by omega), ((hnx8 _).symm.trans hr)⟩

def syllogistref_Under_k11 (b_3 : Int) (l9 : List Int) : Option (Bool) :=
  (syllogistref_Has l9 b_3).bind fun r13 =>
  some r13

def syllogistref_Under_k26 (k_6 : Int) (nx16 : ((Int × (List Int)) → Option (Bool))) (l24 : List Int) : Option (Bool) :=
  nx16 ((w64 (k_6 + (1 : Int))), l24)

def syllogistref_Under_b30 (pairs_1 : List (Int × Int)) (k_6 : Int) (t_29 : Int) (l22 : List Int) (nx31 : (List Int) → Option (Bool)) : Option (Bool) :=
  (geti pairs_1 t_29).bind fun y33 =>
  (geti l22 k_6).bind fun y37 =>
  bif (!((y33.1 == y37) == true) || (syllogistref_Has l22 y33.2).isSome) then
  (bif ((y33.1 == y37) && (!(((syllogistref_Has l22 y33.2).getD false)))) then
  bif decide (l22.length + (([y33.2] : List Int)).length ≤ 17592186044416) then
  nx31 (l22 ++ ([y33.2] : List Int)) else none
  else
  nx31 l22) else none

def syllogistref_Under_b15 (pairs_1 : List (Int × Int)) (b_3 : Int) (k_6 : Int) (l7 : List Int) (nx16 : (Int × (List Int)) → Option (Bool)) : Option (Bool) :=
  (bif (decide (k_6 < (l7.length : Int))) then
  forK (σ := (List Int)) (fun i s nx_ => syllogistref_Under_b30 pairs_1 k_6 i s nx_) (fun s => syllogistref_Under_k26 k_6 nx16 s) ((pairs_1.length : Int) - (0 : Int)).toNat (0 : Int) l7
  else
  syllogistref_Under_k11 b_3 l7)

def syllogistref_Under (fuel : Nat) (n_0 : Int) (pairs_1 : List (Int × Int)) (a_2 : Int) (b_3 : Int) : Option (Bool) :=
  whileK (σ := Int × (List Int)) (fun s nx_ => syllogistref_Under_b15 pairs_1 b_3 s.1 s.2 nx_) fuel (((0 : Int)), (([a_2] : List Int)))

set_option maxRecDepth 100000 in
set_option maxHeartbeats 4000000 in
theorem syllogistref_Under_ok (w0 : World) (m : Snap) (l : List HI) (fuel : Nat) (n_0 : Int) (upairs_1 : Value) (pairs_1 : List (Int × Int)) (hpairs_1 : RS rP m upairs_1 pairs_1) (a_2 : Int) (b_3 : Int) (r : Bool) (hr : syllogistref_Under fuel n_0 pairs_1 a_2 b_3 = some r) (w : World) (hc : cX w0 ⟨m, l⟩ w) :
    Calls Try.prog 36 [.int .i64 n_0, upairs_1, .int .i64 a_2, .int .i64 b_3].toArray w fun e w' => e = .returned (.bool r) ∧ cX w0 ⟨m, l⟩ w' := by
  unfold syllogistref_Under at hr
  refine calls_of_Tr (N := 50) Try.func36 rfl hc rfl (Nat.le_of_ble_eq_true rfl) ?_
  refine Tr.seq ?_
  refine Tr.region_f (fun _ => false) ?_
  refine W.q rfl rfl rfl rfl (by decide) (Yd.as rfl .c) ?_
  refine W.end ?_
  refine NX.sub (env' := [(1, _), (2, _), (3, _)]) ⟨rfl, rfl, rfl, trivial⟩ ?_
  refine NX.then ?_
  refine Tr.seq ?_
  refine Tr.region_f (fun i => Nat.beq i 1) ?_
  refine W.q rfl rfl rfl rfl (by decide) (Yd.mv rfl (.t rfl)) ?_
  refine W.e rfl rfl rfl rfl (by decide) (Ef.bsT (enc := encI) (vs := [_]) (ys := [a_2]) (fun _ => rfl) IF3 rfl Try.underlying34 (by decide) rfl (.cons (.t rfl) .nil) rfl rfl (by decide)) ?_
  rintro v1 _ rfl
  refine ⟨.inl rfl, ?_⟩
  refine W.cast (m' := m) (l' := hownT 3 1 encI v1 _ :: l) rfl rfl ?_
  refine W.q rfl rfl rfl rfl (by decide) (Yd.as rfl (.t rfl)) ?_
  refine W.end ?_
  refine NX.sub (env' := [(1, _), (3, _), (9, _)]) ⟨rfl, rfl, rfl, trivial⟩ ?_
  refine NX.then ?_
  refine Tr.seq ?_
  refine Tr.seq ?_
  refine Tr.region_f (fun _ => false) ?_
  refine W.q rfl rfl rfl rfl (by decide) (Yd.as rfl .c) ?_
  refine W.end ?_
  refine NX.sub (env' := [(1, _), (3, _), (9, _), (10, _)]) ⟨rfl, rfl, rfl, rfl, trivial⟩ ?_
  refine NX.then ?_
  refine Tr.join (S := fun env x => ∃ l9 : List Int, ∃ v10 : Value, env = [(3, .int .i64 b_3), (9, v10)] ∧ x = ⟨m, hownT 3 1 encI v10 l9 :: l⟩ ∧ syllogistref_Under_k11 b_3 l9 = some r) ?_ (fun hk12 => ?_)
  · rintro _ _ ⟨l9, v10, rfl, rfl, hr⟩
    unfold syllogistref_Under_k11 at hr
    try dsimp only at hr
    refine NX.then ?_
    refine Tr.seq ?_
    obtain ⟨r13, hr14, hr⟩ := bind_some hr
    refine Tr.region_f (fun _ => false) ?_
    refine W.q rfl rfl rfl rfl (by decide) (Yd.mv rfl (.t rfl)) ?_
    refine W.q rfl rfl rfl rfl (by decide) (Yd.mv rfl (.t rfl)) ?_
    refine W.q rfl rfl rfl rfl (by decide) (Yd.call (v := .bool r13) rfl Try.func49 rfl rfl (.cons (.t rfl) (.cons (.t rfl) .nil)) (by intro x' hx w hw; obtain ⟨p0, hp0⟩ := hx.at (p := 0) rfl; obtain ⟨m2, hm2, hc2, ⟨L2, hl1, hl2⟩, hback⟩ := cX_lend hw hp0 lone_own; have hL1 : RS rI m2 _ _ := RS_of_own hl1 hl2; exact (syllogistref_Has_ok w0 m2 _ _ _ hL1 b_3 _ hr14 w hc2).mono fun e w' ⟨he, hc'⟩ => ⟨he, (hback m2 _ _ w' (.refl _) hp0).2 hc'⟩)) ?_
    refine W.q rfl rfl rfl rfl (by decide) (Yd.as rfl (.t rfl)) ?_
    refine W.end ?_
    refine NX.sub (env' := [(8, _)]) ⟨rfl, trivial⟩ ?_
    refine NX.drop (l' := l) (.cons _ (.refl _)) ?_
    refine NX.then ?_
    refine Tr.ret' ?_
    refine res1 rfl rfl ?_
    intro w hc
    cases hr
    exact ⟨rfl, hc⟩
  refine Tr.block ?_
  refine Tr.sub (env' := [(1, _), (3, _), (9, _), (10, _)]) ⟨rfl, rfl, rfl, rfl, trivial⟩ ?_
  refine Tr.loop (S := fun n (z : Int × (List Int)) env x => match z with | (k_6, l7) => ∃ v8 : Value, env = [(1, upairs_1), (3, .int .i64 b_3), (9, v8), (10, .int .i64 k_6)] ∧ x = ⟨m, hownT 3 1 encI v8 l7 :: l⟩ ∧ whileK (σ := Int × (List Int)) (fun s nx_ => syllogistref_Under_b15 pairs_1 b_3 s.1 s.2 nx_) n (k_6, l7) = some r) _ ((0 : Int), ([a_2] : List Int)) ⟨_, rfl, rfl, hr⟩ ?_
  rintro n17 ⟨k_6, l7⟩ env x ⟨v8, rfl, rfl, hr⟩
  cases n17 with
  | zero => simp [whileK] at hr
  | succ n17 =>
    obtain ⟨nx16, hnx16, hr⟩ := whileK_succ hr
    try dsimp only at hr
    unfold syllogistref_Under_b15 at hr
    try dsimp only at hr
    refine Tr.seq ?_
    refine Tr.seq ?_
    refine Tr.region_f (fun _ => false) ?_
    refine W.q rfl rfl rfl rfl (by decide) (Yd.mv rfl (.t rfl)) ?_
    refine W.q rfl rfl rfl rfl (by decide) (Yd.mv rfl (.t rfl)) ?_
    refine W.q rfl rfl rfl rfl (by decide) (Yd.lenO (p := 0) rfl rfl Try.underlying34 (.t rfl)) ?_
    refine W.q rfl rfl rfl rfl (by decide) (Yd.lss rfl (.t rfl) (.t rfl)) ?_
    refine W.end ?_
    refine NX.sub (env' := [(1, _), (3, _), (9, _), (10, _), (18, _)]) ⟨rfl, rfl, rfl, rfl, rfl, trivial⟩ ?_
    refine NX.then ?_
    refine Tr.cond (.t rfl) (fun hb => ?_) (fun hb => ?_)
    · have hr := cond_t hb hr
      refine Tr.skip' ?_
      refine NX.then ?_
      refine Tr.seq ?_
      refine Tr.block ?_
      refine Tr.seq ?_
      refine Tr.region_f (fun _ => false) ?_
      refine W.q rfl rfl rfl rfl (by decide) (Yd.mv rfl (.t rfl)) ?_
      refine W.q rfl rfl rfl rfl (by decide) (Yd.lenR hpairs_1 rfl Try.underlying45 (.t rfl)) ?_
      refine W.q rfl rfl rfl rfl (by decide) (Yd.mv rfl .c) ?_
      refine W.end ?_
      refine NX.sub (env' := [(1, _), (3, _), (9, _), (10, _), (21, _), (22, _), (23, _)]) ⟨rfl, rfl, rfl, rfl, rfl, rfl, rfl, trivial⟩ ?_
      refine NX.then ?_
      refine Tr.join (S := fun env x => ∃ l24 : List Int, ∃ v25 : Value, env = [(1, upairs_1), (3, .int .i64 b_3), (9, v25), (10, .int .i64 k_6)] ∧ x = ⟨m, hownT 3 1 encI v25 l24 :: l⟩ ∧ syllogistref_Under_k26 k_6 nx16 l24 = some r) ?_ (fun hk27 => ?_)
      · rintro _ _ ⟨l24, v25, rfl, rfl, hr⟩
        unfold syllogistref_Under_k26 at hr
        try dsimp only at hr
        refine NX.block ?_
        refine NX.then ?_
        refine Tr.region_f (fun _ => false) ?_
        refine W.q rfl rfl rfl rfl (by decide) (Yd.mv rfl (.t rfl)) ?_
        refine W.q rfl rfl rfl rfl (by decide) (Yd.add rfl (.t rfl) .c) ?_
        refine W.q rfl rfl rfl rfl (by decide) (Yd.as rfl (.t rfl)) ?_
        refine W.end ?_
        refine NX.sub (env' := [(1, _), (3, _), (9, _), (10, _)]) ⟨rfl, rfl, rfl, rfl, trivial⟩ ?_
        refine NX.sub (env' := [(1, _), (3, _), (9, _), (10, _)]) ⟨rfl, rfl, rfl, rfl, trivial⟩ ?_
        exact NX.again n17 ((w64 (k_6 + (1 : Int))), l24) (Nat.lt_succ_self _) ⟨_, rfl, rfl, ((hnx16 _).symm.trans hr)⟩
      have hlen28 := (hpairs_1).2.1
      refine Tr.block ?_
      refine Tr.sub (env' := [(1, _), (3, _), (9, _), (10, _), (21, _), (22, _), (23, _)]) ⟨rfl, rfl, rfl, rfl, rfl, rfl, rfl, trivial⟩ ?_
      refine Tr.loop (S := fun n (z : Int × (List Int)) env x => match z with | (t_29, l22) => ∃ v23 : Value, env = [(1, upairs_1), (3, .int .i64 b_3), (9, v23), (10, .int .i64 k_6), (21, upairs_1), (22, .int .i64 ((pairs_1.length : Int))), (23, .int .i64 t_29)] ∧ x = ⟨m, hownT 3 1 encI v23 l22 :: l⟩ ∧ n = ((pairs_1.length : Int) - t_29).toNat ∧ 0 ≤ t_29 ∧ forK (σ := (List Int)) (fun i s nx_ => syllogistref_Under_b30 pairs_1 k_6 i s nx_) (fun s => syllogistref_Under_k26 k_6 nx16 s) n t_29 l22 = some r) _ ((0 : Int), l7) ⟨_, rfl, rfl, rfl, (by omega), hr⟩ ?_
      rintro n32 ⟨t_29, l22⟩ env x ⟨v23, rfl, rfl, hnt_29, h0t_29, hr⟩
      cases n32 with
      | zero =>
        simp only [forK] at hr
        refine Tr.seq ?_
        refine Tr.region_f (fun _ => false) ?_
        refine W.q rfl rfl rfl rfl (by decide) (Yd.lss rfl (.t rfl) (.t rfl)) ?_
        refine W.end ?_
        refine NX.sub (env' := [(1, _), (3, _), (9, _), (10, _), (21, _), (22, _), (23, _), (24, _)]) ⟨rfl, rfl, rfl, rfl, rfl, rfl, rfl, rfl, trivial⟩ ?_
        refine NX.then ?_
        refine Tr.seq ?_
        refine Tr.cond (.t rfl) (fun hb => ?_) (fun hb => ?_)
        · exact absurd (hb.symm.trans (fr_end hnt_29)) (by decide)
        ·
          refine Tr.exit' (EX.then (EX.then (EX.block ?_)))
          refine NX.sub (env' := [(1, _), (3, _), (9, _), (10, _)]) ⟨rfl, rfl, rfl, rfl, trivial⟩ ?_
          exact hk27 _ _ ⟨_, _, rfl, rfl, hr⟩
      | succ n32 =>
        obtain ⟨nx31, hnx31, hr⟩ := forK_succ hr
        try dsimp only at hr
        unfold syllogistref_Under_b30 at hr
        try dsimp only at hr
        have hltt_29 := fr_bnd hnt_29
        refine Tr.seq ?_
        refine Tr.region_f (fun _ => false) ?_
        refine W.q rfl rfl rfl rfl (by decide) (Yd.lss rfl (.t rfl) (.t rfl)) ?_
        refine W.end ?_
        refine NX.sub (env' := [(1, _), (3, _), (9, _), (10, _), (21, _), (22, _), (23, _), (24, _)]) ⟨rfl, rfl, rfl, rfl, rfl, rfl, rfl, rfl, trivial⟩ ?_
        refine NX.then ?_
        refine Tr.seq ?_
        refine Tr.cond (.t rfl) (fun hb => ?_) (fun hb => ?_)
        rotate_left
        · exact absurd (hb.symm.trans (fr_go hnt_29)) (by decide)
        ·
          refine Tr.skip' ?_
          refine NX.then ?_
          refine Tr.seq ?_
          refine Tr.block ?_
          refine Tr.seq ?_
          obtain ⟨y33, hy34, hr⟩ := bind_some hr
          refine Tr.region_f (fun i => Nat.beq i 2 || Nat.beq i 3) ?_
          refine W.q rfl rfl rfl rfl (by decide) (Yd.idxR hpairs_1 hy34 rfl Try.underlying45 SZ76 (.t rfl) (.t rfl)) ?_
          refine W.q rfl rfl rfl rfl (by decide) (Yd.ldFs (us := [_, _]) hpairs_1 (.refl _) hy34 rfl rfl ON76 US76 SZ76 (.t rfl)) ?_
          refine W.e rfl rfl rfl rfl (by decide) (Ef.al rfl ZR76 rfl) ?_
          rintro _ _ ⟨b35, rfl, rfl⟩
          refine ⟨.inl rfl, ?_⟩
          refine W.cast (m' := m) (l' := hcells b35 [_, _] 76 :: hownT 3 1 encI v23 _ :: l) rfl rfl ?_
          refine W.s rfl rfl rfl rfl (Ef.stB (pos := 0) (us := [_, _]) (cs' := [_, _]) rfl rfl (.t rfl) (.t rfl) SZ76 rfl rfl rfl (Nat.le_of_ble_eq_true rfl) rfl) ?_
          rintro _ _ ⟨rfl, rfl⟩
          refine ⟨.inl rfl, ?_⟩
          refine W.cast (m' := m) (l' := hcells b35 [_, _] 76 :: hownT 3 1 encI v23 _ :: l) rfl rfl ?_
          refine W.end ?_
          refine NX.sub (env' := [(1, _), (3, _), (9, _), (10, _), (21, _), (22, _), (23, _), (12, _)]) ⟨rfl, rfl, rfl, rfl, rfl, rfl, rfl, rfl, trivial⟩ ?_
          refine NX.then ?_
          refine Tr.seq ?_
          obtain ⟨y37, hy38, hr⟩ := bind_some hr
          obtain ⟨ha39, hr⟩ := guard_some hr
          refine Tr.region_x (fun _ => false) (fun _ => false) (Ord.of [0, 1, 2, 3, 4, 5, 6, 7, 8, 9, 10, 11, 12, 13]) FM (by kernel_rfl) ?_
          refine W.q rfl rfl rfl rfl (by decide) (Yd.arrB rfl Try.underlying76 SZ3 (by decide) (by decide) (.t rfl) .c) ?_
          refine W.q rfl rfl rfl rfl (by decide) (Yd.ldB (pos := 0) rfl rfl rfl ON3 (.t rfl)) ?_
          refine W.q rfl rfl rfl rfl (by decide) (Yd.mv rfl (.t rfl)) ?_
          refine W.q rfl rfl rfl rfl (by decide) (Yd.mv rfl (.t rfl)) ?_
          refine W.q rfl rfl rfl rfl (by decide) (Yd.idxT (pos := 1) rfl hy38 rfl Try.underlying34 SZ3 (.t rfl) (.t rfl)) ?_
          refine W.q rfl rfl rfl rfl (by decide) (Yd.ldT (enc := encI) (n := 1) (pos := 1) (fun _ => rfl) rfl hy38 rfl rfl ON3 (.t rfl)) ?_
          refine W.q rfl rfl rfl rfl (by decide) (Yd.eql rfl (.t rfl) (.t rfl)) ?_
          refine W.q rfl rfl rfl rfl (by decide) (Yd.mv rfl (.t rfl)) ?_
          refine W.g rfl rfl rfl rfl rfl (.t rfl _) rfl (by decide) (fun hG => Yd.mv rfl (.t rfl)) ?_
          refine W.g rfl rfl rfl rfl rfl (.t rfl _) rfl (by decide) (fun hG => Yd.arrB rfl Try.underlying76 SZ3 (by decide) (by decide) (.t rfl) .c) ?_
          refine W.g rfl rfl rfl rfl rfl (.t rfl _) rfl (by decide) (fun hG => Yd.ldB (pos := 0) rfl rfl rfl ON3 (.g rfl hG)) ?_
          refine W.g rfl rfl rfl rfl rfl (.t rfl _) rfl (by decide) (fun hG => Yd.call (v := .bool ((((syllogistref_Has l22 y33.2).getD false)))) rfl Try.func49 rfl rfl (.cons (.g rfl hG) (.cons (.g rfl hG) .nil)) (by intro x' hx w hw; obtain ⟨p0, hp0⟩ := hx.at (p := 1) rfl; obtain ⟨m2, hm2, hc2, ⟨L2, hl1, hl2⟩, hback⟩ := cX_lend hw hp0 lone_own; have hL1 : RS rI m2 _ _ := RS_of_own hl1 hl2; exact (syllogistref_Has_ok w0 m2 _ _ _ hL1 y33.2 _ (gd_get (d := false) ha39 hG) w hc2).mono fun e w' ⟨he, hc'⟩ => ⟨he, (hback m2 _ _ w' (.refl _) hp0).2 hc'⟩)) ?_
          refine W.g rfl rfl rfl rfl rfl (.t rfl _) rfl (by decide) (fun hG => Yd.not rfl (.g rfl hG)) ?_
          refine W.q rfl rfl rfl rfl (by decide) (Yd.and rfl (.t rfl) .c rfl rfl) ?_
          refine W.end ?_
          refine NX.sub (env' := [(1, _), (3, _), (9, _), (10, _), (21, _), (22, _), (23, _), (12, _), (40, _)]) ⟨rfl, rfl, rfl, rfl, rfl, rfl, rfl, rfl, rfl, trivial⟩ ?_
          refine NX.then ?_
          refine Tr.cond (.t rfl) (fun hb => ?_) (fun hb => ?_)
          · have hr := cond_t hb hr
            obtain ⟨hq43, hr⟩ := guard_some hr; replace hq43 := of_decide_eq_true hq43
            refine Tr.region_f (fun i => Nat.beq i 3 || Nat.beq i 4) ?_
            refine W.q rfl rfl rfl rfl (by decide) (Yd.mv rfl (.t rfl)) ?_
            refine W.q rfl rfl rfl rfl (by decide) (Yd.arrB rfl Try.underlying76 SZ3 (by decide) (by decide) (.t rfl) .c) ?_
            refine W.q rfl rfl rfl rfl (by decide) (Yd.ldB (pos := 0) rfl rfl rfl ON3 (.t rfl)) ?_
            refine W.e rfl rfl rfl rfl (by decide) (Ef.bsT (enc := encI) (vs := [_]) (ys := [y33.2]) (fun _ => rfl) IF3 rfl Try.underlying34 (by decide) rfl (.cons (.t rfl) .nil) rfl rfl (by decide)) ?_
            rintro v40 _ rfl
            refine ⟨.inl rfl, ?_⟩
            refine W.cast (m' := m) (l' := hownT 3 1 encI v40 _ :: hcells b35 [_, _] 76 :: hownT 3 1 encI v23 _ :: l) rfl rfl ?_
            refine W.e rfl rfl rfl rfl (by decide) (Ef.apI (pos := 2) (enc := encI) (xs := l22) (ys := ([y33.2] : List Int)) (fun _ => rfl) IF3 rfl rfl Try.underlying34 rfl (by decide) (.t rfl) (.t rfl) (Src.own (pos := 0) rfl) (fun _ => rfl) (by omega) (by omega)) ?_
            rintro v42 _ rfl
            refine ⟨.inl rfl, ?_⟩
            refine W.cast (m' := m) (l' := hownT 3 1 encI v40 _ :: hcells b35 [_, _] 76 :: hownT 3 1 encI v42 _ :: l) rfl rfl ?_
            refine W.q rfl rfl rfl rfl (by decide) (Yd.as rfl (.t rfl)) ?_
            refine W.end ?_
            refine NX.sub (env' := [(1, _), (3, _), (9, _), (10, _), (21, _), (22, _), (23, _)]) ⟨rfl, rfl, rfl, rfl, rfl, rfl, rfl, trivial⟩ ?_
            refine NX.drop (l' := hownT 3 1 encI v42 _ :: l) (.cons _ (.cons _ (.cons_cons _ (.refl _)))) ?_
            refine NX.block ?_
            refine NX.then ?_
            refine Tr.region_f (fun _ => false) ?_
            refine W.q rfl rfl rfl rfl (by decide) (Yd.add rfl (.t rfl) .c) ?_
            refine W.q rfl rfl rfl rfl (by decide) (Yd.mv rfl (.t rfl)) ?_
            refine W.end ?_
            refine NX.sub (env' := [(1, _), (3, _), (9, _), (10, _), (21, _), (22, _), (23, _)]) ⟨rfl, rfl, rfl, rfl, rfl, rfl, rfl, trivial⟩ ?_
            refine NX.sub (env' := [(1, _), (3, _), (9, _), (10, _), (21, _), (22, _), (23, _)]) ⟨rfl, rfl, rfl, rfl, rfl, rfl, rfl, trivial⟩ ?_
            have hw := w64_id (n := t_29 + 1) (by omega) (by omega)
            exact NX.again n32 (t_29 + 1, (l22 ++ ([y33.2] : List Int))) (Nat.lt_succ_self _) ⟨_, (by rw [hw] <;> rfl), rfl, (fr_dec hnt_29), (by omega), ((hnx31 _).symm.trans hr)⟩
          · have hr := cond_f hb hr
            refine Tr.skip' ?_
            refine NX.block ?_
            refine NX.then ?_
            refine Tr.region_f (fun _ => false) ?_
            refine W.q rfl rfl rfl rfl (by decide) (Yd.add rfl (.t rfl) .c) ?_
            refine W.q rfl rfl rfl rfl (by decide) (Yd.mv rfl (.t rfl)) ?_
            refine W.end ?_
            refine NX.sub (env' := [(1, _), (3, _), (9, _), (10, _), (21, _), (22, _), (23, _)]) ⟨rfl, rfl, rfl, rfl, rfl, rfl, rfl, trivial⟩ ?_
            refine NX.drop (l' := hownT 3 1 encI v23 _ :: l) (.cons _ (.cons_cons _ (.refl _))) ?_
            refine NX.sub (env' := [(1, _), (3, _), (9, _), (10, _), (21, _), (22, _), (23, _)]) ⟨rfl, rfl, rfl, rfl, rfl, rfl, rfl, trivial⟩ ?_
            have hw := w64_id (n := t_29 + 1) (by omega) (by omega)
            exact NX.again n32 (t_29 + 1, l22) (Nat.lt_succ_self _) ⟨_, (by rw [hw] <;> rfl), rfl, (fr_dec hnt_29), (by omega), ((hnx31 _).symm.trans hr)⟩
    · have hr := cond_f hb hr
      refine Tr.exit' (EX.then (EX.then (EX.block ?_)))
      refine NX.sub (env' := [(3, _), (9, _)]) ⟨rfl, rfl, trivial⟩ ?_
      exact hk12 _ _ ⟨_, _, rfl, rfl, hr⟩

def syllogistref_OrderCheck_k7 : Option (Int) :=
  some ((0 : Int))

def syllogistref_OrderCheck_k16 (nx12 : (Unit → Option (Int))) : Option (Int) :=
  nx12 ()

def syllogistref_OrderCheck_b20 (n_0 : Int) (pairs_1 : List (Int × Int)) (fuel : Nat) (i_10 : Int) (j_19 : Int) (nx21 : Unit → Option (Int)) : Option (Int) :=
  (syllogistref_Under fuel n_0 pairs_1 i_10 j_19).bind fun r23 =>
  bif (!(r23 == true) || (syllogistref_Under fuel n_0 pairs_1 j_19 i_10).isSome) then
  (bif (r23 && (((syllogistref_Under fuel n_0 pairs_1 j_19 i_10).getD false))) then
  some ((3 : Int))
  else
  nx21 ()) else none

def syllogistref_OrderCheck_b11 (n_0 : Int) (pairs_1 : List (Int × Int)) (fuel : Nat) (i_10 : Int) (nx12 : Unit → Option (Int)) : Option (Int) :=
  bif decide (i_10 ≤ 9223372036854775807) then
  forK (σ := Unit) (fun i s nx_ => syllogistref_OrderCheck_b20 n_0 pairs_1 fuel i_10 i nx_) (fun _ => syllogistref_OrderCheck_k16 nx12) (i_10 - (0 : Int)).toNat (0 : Int) () else none

def syllogistref_OrderCheck_k3 (n_0 : Int) (pairs_1 : List (Int × Int)) (fuel : Nat) : Option (Int) :=
  bif decide (n_0 ≤ 9223372036854775807) then
  forK (σ := Unit) (fun i s nx_ => syllogistref_OrderCheck_b11 n_0 pairs_1 fuel i nx_) (fun _ => syllogistref_OrderCheck_k7) (n_0 - (0 : Int)).toNat (0 : Int) () else none

def syllogistref_OrderCheck_b28 (n_0 : Int) (pairs_1 : List (Int × Int)) (t_27 : Int) (nx29 : Unit → Option (Int)) : Option (Int) :=
  (geti pairs_1 t_27).bind fun y31 =>
  (bif ((((decide (y31.1 < (0 : Int))) || (decide (y31.1 ≥ n_0))) || (decide (y31.2 < (0 : Int)))) || (decide (y31.2 ≥ n_0))) then
  some ((2 : Int))
  else
  nx29 ())

def syllogistref_OrderCheck (fuel : Nat) (n_0 : Int) (pairs_1 : List (Int × Int)) : Option (Int) :=
  (bif (((decide (n_0 < (1 : Int))) || (decide (n_0 > (6 : Int)))) || (decide ((pairs_1.length : Int) > (20 : Int)))) then
  some ((1 : Int))
  else
  forK (σ := Unit) (fun i s nx_ => syllogistref_OrderCheck_b28 n_0 pairs_1 i nx_) (fun _ => syllogistref_OrderCheck_k3 n_0 pairs_1 fuel) ((pairs_1.length : Int) - (0 : Int)).toNat (0 : Int) ())

set_option maxRecDepth 100000 in
set_option maxHeartbeats 4000000 in
theorem syllogistref_OrderCheck_ok (w0 : World) (m : Snap) (l : List HI) (fuel : Nat) (n_0 : Int) (upairs_1 : Value) (pairs_1 : List (Int × Int)) (hpairs_1 : RS rP m upairs_1 pairs_1) (r : Int) (hr : syllogistref_OrderCheck fuel n_0 pairs_1 = some r) (w : World) (hc : cX w0 ⟨m, l⟩ w) :
    Calls Try.prog 19 [.int .i64 n_0, upairs_1].toArray w fun e w' => e = .returned (.int .i64 r) ∧ cX w0 ⟨m, l⟩ w' := by
  unfold syllogistref_OrderCheck at hr
  refine calls_of_Tr (N := 69) Try.func19 rfl hc rfl (Nat.le_of_ble_eq_true rfl) ?_
  refine Tr.seq ?_
  refine Tr.region_f (fun _ => false) ?_
  refine W.q rfl rfl rfl rfl (by decide) (Yd.as rfl .c) ?_
  refine W.end ?_
  refine NX.sub (env' := [(0, _), (1, _)]) ⟨rfl, rfl, trivial⟩ ?_
  refine NX.then ?_
  refine Tr.seq ?_
  refine Tr.seq ?_
  refine Tr.region_f (fun _ => false) ?_
  refine W.q rfl rfl rfl rfl (by decide) (Yd.mv rfl (.t rfl)) ?_
  refine W.q rfl rfl rfl rfl (by decide) (Yd.lss rfl (.t rfl) .c) ?_
  refine W.q rfl rfl rfl rfl (by decide) (Yd.mv rfl (.t rfl)) ?_
  refine W.g rfl rfl rfl rfl rfl (.t rfl _) rfl (by decide) (fun hG => Yd.mv rfl (.t rfl)) ?_
  refine W.g rfl rfl rfl rfl rfl (.t rfl _) rfl (by decide) (fun hG => Yd.gtr rfl (.g rfl hG) .c) ?_
  refine W.q rfl rfl rfl rfl (by decide) (Yd.or rfl (.t rfl) .c rfl rfl) ?_
  refine W.q rfl rfl rfl rfl (by decide) (Yd.mv rfl (.t rfl)) ?_
  refine W.g rfl rfl rfl rfl rfl (.t rfl _) rfl (by decide) (fun hG => Yd.mv rfl (.t rfl)) ?_
  refine W.g rfl rfl rfl rfl rfl (.t rfl _) rfl (by decide) (fun hG => Yd.lenR hpairs_1 rfl Try.underlying45 (.g rfl hG)) ?_
  refine W.g rfl rfl rfl rfl rfl (.t rfl _) rfl (by decide) (fun hG => Yd.gtr rfl (.g rfl hG) .c) ?_
  refine W.q rfl rfl rfl rfl (by decide) (Yd.or rfl (.t rfl) .c rfl rfl) ?_
  refine W.end ?_
  refine NX.sub (env' := [(0, _), (1, _), (19, _)]) ⟨rfl, rfl, rfl, trivial⟩ ?_
  refine NX.then ?_
  refine Tr.cond (.t rfl) (fun hb => ?_) (fun hb => ?_)
  · have hr := cond_t hb hr
    refine Tr.seq ?_
    refine Tr.region_f (fun _ => false) ?_
    refine W.q rfl rfl rfl rfl (by decide) (Yd.as rfl .c) ?_
    refine W.end ?_
    refine NX.sub (env' := [(4, _)]) ⟨rfl, trivial⟩ ?_
    refine NX.then ?_
    refine Tr.ret' (RT.then ?_)
    refine res1 rfl rfl ?_
    intro w hc
    cases hr
    exact ⟨rfl, hc⟩
  · have hr := cond_f hb hr
    refine Tr.skip' ?_
    refine NX.then ?_
    refine Tr.seq ?_
    refine Tr.seq ?_
    refine Tr.region_f (fun _ => false) ?_
    refine W.q rfl rfl rfl rfl (by decide) (Yd.mv rfl (.t rfl)) ?_
    refine W.q rfl rfl rfl rfl (by decide) (Yd.lenR hpairs_1 rfl Try.underlying45 (.t rfl)) ?_
    refine W.q rfl rfl rfl rfl (by decide) (Yd.mv rfl .c) ?_
    refine W.end ?_
    refine NX.sub (env' := [(0, _), (1, _), (20, _), (21, _), (22, _)]) ⟨rfl, rfl, rfl, rfl, rfl, trivial⟩ ?_
    refine NX.then ?_
    refine Tr.join (S := fun env x => env = [(0, .int .i64 n_0), (1, upairs_1)] ∧ x = ⟨m, l⟩ ∧ syllogistref_OrderCheck_k3 n_0 pairs_1 fuel = some r) ?_ (fun hk4 => ?_)
    · rintro _ _ ⟨rfl, rfl, hr⟩
      unfold syllogistref_OrderCheck_k3 at hr
      try dsimp only at hr
      refine NX.then ?_
      refine Tr.seq ?_
      refine Tr.seq ?_
      refine Tr.region_f (fun _ => false) ?_
      refine W.q rfl rfl rfl rfl (by decide) (Yd.as rfl .c) ?_
      refine W.end ?_
      refine NX.sub (env' := [(0, _), (1, _), (7, _)]) ⟨rfl, rfl, rfl, trivial⟩ ?_
      refine NX.then ?_
      refine Tr.join (S := fun env x => env = [] ∧ x = ⟨m, l⟩ ∧ syllogistref_OrderCheck_k7 = some r) ?_ (fun hk8 => ?_)
      · rintro _ _ ⟨rfl, rfl, hr⟩
        unfold syllogistref_OrderCheck_k7 at hr
        try dsimp only at hr
        refine NX.then ?_
        refine Tr.seq ?_
        refine Tr.region_f (fun _ => false) ?_
        refine W.q rfl rfl rfl rfl (by decide) (Yd.as rfl .c) ?_
        refine W.end ?_
        refine NX.sub (env' := [(4, _)]) ⟨rfl, trivial⟩ ?_
        refine NX.then ?_
        refine Tr.ret' ?_
        refine res1 rfl rfl ?_
        intro w hc
        cases hr
        exact ⟨rfl, hc⟩
      obtain ⟨hle9, hr⟩ := guard_some hr; replace hle9 := of_decide_eq_true hle9
      refine Tr.block ?_
      refine Tr.sub (env' := [(0, _), (1, _), (7, _)]) ⟨rfl, rfl, rfl, trivial⟩ ?_
      refine Tr.loop (S := fun n (z : Int × Unit) env x => match z with | (i_10, _) => env = [(0, .int .i64 n_0), (1, upairs_1), (7, .int .i64 i_10)] ∧ x = ⟨m, l⟩ ∧ n = (n_0 - i_10).toNat ∧ 0 ≤ i_10 ∧ forK (σ := Unit) (fun i s nx_ => syllogistref_OrderCheck_b11 n_0 pairs_1 fuel i nx_) (fun _ => syllogistref_OrderCheck_k7) n i_10 () = some r) _ ((0 : Int), ()) ⟨rfl, rfl, rfl, (by omega), hr⟩ ?_
      rintro n13 ⟨i_10, _⟩ env x ⟨rfl, rfl, hni_10, h0i_10, hr⟩
      cases n13 with
      | zero =>
        simp only [forK] at hr
        refine Tr.seq ?_
        refine Tr.seq ?_
        refine Tr.region_f (fun _ => false) ?_
        refine W.q rfl rfl rfl rfl (by decide) (Yd.mv rfl (.t rfl)) ?_
        refine W.q rfl rfl rfl rfl (by decide) (Yd.mv rfl (.t rfl)) ?_
        refine W.q rfl rfl rfl rfl (by decide) (Yd.lss rfl (.t rfl) (.t rfl)) ?_
        refine W.end ?_
        refine NX.sub (env' := [(0, _), (1, _), (7, _), (49, _)]) ⟨rfl, rfl, rfl, rfl, trivial⟩ ?_
        refine NX.then ?_
        refine Tr.cond (.t rfl) (fun hb => ?_) (fun hb => ?_)
        · exact absurd (hb.symm.trans (fr_end hni_10)) (by decide)
        ·
          refine Tr.exit' (EX.then (EX.then (EX.block ?_)))
          refine NX.sub (env' := []) trivial ?_
          exact hk8 _ _ ⟨rfl, rfl, hr⟩
      | succ n13 =>
        obtain ⟨nx12, hnx12, hr⟩ := forK_succ hr
        try dsimp only at hr
        unfold syllogistref_OrderCheck_b11 at hr
        try dsimp only at hr
        have hlti_10 := fr_bnd hni_10
        refine Tr.seq ?_
        refine Tr.seq ?_
        refine Tr.region_f (fun _ => false) ?_
        refine W.q rfl rfl rfl rfl (by decide) (Yd.mv rfl (.t rfl)) ?_
        refine W.q rfl rfl rfl rfl (by decide) (Yd.mv rfl (.t rfl)) ?_
        refine W.q rfl rfl rfl rfl (by decide) (Yd.lss rfl (.t rfl) (.t rfl)) ?_
        refine W.end ?_
        refine NX.sub (env' := [(0, _), (1, _), (7, _), (49, _)]) ⟨rfl, rfl, rfl, rfl, trivial⟩ ?_
        refine NX.then ?_
        refine Tr.cond (.t rfl) (fun hb => ?_) (fun hb => ?_)
        rotate_left
        · exact absurd (hb.symm.trans (fr_go hni_10)) (by decide)
        ·
          refine Tr.skip' ?_
          refine NX.then ?_
          refine Tr.seq ?_
          refine Tr.block ?_
          refine Tr.seq ?_
          refine Tr.region_f (fun _ => false) ?_
          refine W.q rfl rfl rfl rfl (by decide) (Yd.as rfl .c) ?_
          refine W.end ?_
          refine NX.sub (env' := [(0, _), (1, _), (7, _), (8, _)]) ⟨rfl, rfl, rfl, rfl, trivial⟩ ?_
          refine NX.then ?_
          refine Tr.join (S := fun env x => env = [(0, .int .i64 n_0), (1, upairs_1), (7, .int .i64 i_10)] ∧ x = ⟨m, l⟩ ∧ syllogistref_OrderCheck_k16 nx12 = some r) ?_ (fun hk17 => ?_)
          · rintro _ _ ⟨rfl, rfl, hr⟩
            unfold syllogistref_OrderCheck_k16 at hr
            try dsimp only at hr
            refine NX.block ?_
            refine NX.then ?_
            refine Tr.region_f (fun _ => false) ?_
            refine W.q rfl rfl rfl rfl (by decide) (Yd.mv rfl (.t rfl)) ?_
            refine W.q rfl rfl rfl rfl (by decide) (Yd.add rfl (.t rfl) .c) ?_
            refine W.q rfl rfl rfl rfl (by decide) (Yd.as rfl (.t rfl)) ?_
            refine W.end ?_
            refine NX.sub (env' := [(0, _), (1, _), (7, _)]) ⟨rfl, rfl, rfl, trivial⟩ ?_
            refine NX.sub (env' := [(0, _), (1, _), (7, _)]) ⟨rfl, rfl, rfl, trivial⟩ ?_
            have hw := w64_id (n := i_10 + 1) (by omega) (by omega)
            exact NX.again n13 (i_10 + 1, ()) (Nat.lt_succ_self _) ⟨(by rw [hw] <;> rfl), rfl, (fr_dec hni_10), (by omega), ((hnx12 _).symm.trans hr)⟩
          obtain ⟨hle18, hr⟩ := guard_some hr; replace hle18 := of_decide_eq_true hle18
          refine Tr.block ?_
          refine Tr.sub (env' := [(0, _), (1, _), (7, _), (8, _)]) ⟨rfl, rfl, rfl, rfl, trivial⟩ ?_
          refine Tr.loop (S := fun n (z : Int × Unit) env x => match z with | (j_19, _) => env = [(0, .int .i64 n_0), (1, upairs_1), (7, .int .i64 i_10), (8, .int .i64 j_19)] ∧ x = ⟨m, l⟩ ∧ n = (i_10 - j_19).toNat ∧ 0 ≤ j_19 ∧ forK (σ := Unit) (fun i s nx_ => syllogistref_OrderCheck_b20 n_0 pairs_1 fuel i_10 i nx_) (fun _ => syllogistref_OrderCheck_k16 nx12) n j_19 () = some r) _ ((0 : Int), ()) ⟨rfl, rfl, rfl, (by omega), hr⟩ ?_
          rintro n22 ⟨j_19, _⟩ env x ⟨rfl, rfl, hnj_19, h0j_19, hr⟩
          cases n22 with
          | zero =>
            simp only [forK] at hr
            refine Tr.seq ?_
            refine Tr.seq ?_
            refine Tr.region_f (fun _ => false) ?_
            refine W.q rfl rfl rfl rfl (by decide) (Yd.mv rfl (.t rfl)) ?_
            refine W.q rfl rfl rfl rfl (by decide) (Yd.mv rfl (.t rfl)) ?_
            refine W.q rfl rfl rfl rfl (by decide) (Yd.lss rfl (.t rfl) (.t rfl)) ?_
            refine W.end ?_
            refine NX.sub (env' := [(0, _), (1, _), (7, _), (8, _), (54, _)]) ⟨rfl, rfl, rfl, rfl, rfl, trivial⟩ ?_
            refine NX.then ?_
            refine Tr.cond (.t rfl) (fun hb => ?_) (fun hb => ?_)
            · exact absurd (hb.symm.trans (fr_end hnj_19)) (by decide)
            ·
              refine Tr.exit' (EX.then (EX.then (EX.block ?_)))
              refine NX.sub (env' := [(0, _), (1, _), (7, _)]) ⟨rfl, rfl, rfl, trivial⟩ ?_
              exact hk17 _ _ ⟨rfl, rfl, hr⟩
          | succ n22 =>
            obtain ⟨nx21, hnx21, hr⟩ := forK_succ hr
            try dsimp only at hr
            unfold syllogistref_OrderCheck_b20 at hr
            try dsimp only at hr
            have hltj_19 := fr_bnd hnj_19
            refine Tr.seq ?_
            refine Tr.seq ?_
            refine Tr.region_f (fun _ => false) ?_
            refine W.q rfl rfl rfl rfl (by decide) (Yd.mv rfl (.t rfl)) ?_
            refine W.q rfl rfl rfl rfl (by decide) (Yd.mv rfl (.t rfl)) ?_
            refine W.q rfl rfl rfl rfl (by decide) (Yd.lss rfl (.t rfl) (.t rfl)) ?_
            refine W.end ?_
            refine NX.sub (env' := [(0, _), (1, _), (7, _), (8, _), (54, _)]) ⟨rfl, rfl, rfl, rfl, rfl, trivial⟩ ?_
            refine NX.then ?_
            refine Tr.cond (.t rfl) (fun hb => ?_) (fun hb => ?_)
            rotate_left
            · exact absurd (hb.symm.trans (fr_go hnj_19)) (by decide)
            ·
              refine Tr.skip' ?_
              refine NX.then ?_
              refine Tr.seq ?_
              refine Tr.block ?_
              refine Tr.seq ?_
              obtain ⟨r23, hr24, hr⟩ := bind_some hr
              obtain ⟨ha25, hr⟩ := guard_some hr
              refine Tr.region_f (fun _ => false) ?_
              refine W.q rfl rfl rfl rfl (by decide) (Yd.mv rfl (.t rfl)) ?_
              refine W.q rfl rfl rfl rfl (by decide) (Yd.mv rfl (.t rfl)) ?_
              refine W.q rfl rfl rfl rfl (by decide) (Yd.mv rfl (.t rfl)) ?_
              refine W.q rfl rfl rfl rfl (by decide) (Yd.mv rfl (.t rfl)) ?_
              refine W.q rfl rfl rfl rfl (by decide) (Yd.call (v := .bool r23) rfl Try.func36 rfl rfl (.cons (.t rfl) (.cons (.t rfl) (.cons (.t rfl) (.cons (.t rfl) .nil)))) (fun x' hx w hw => syllogistref_Under_ok w0 x'.m x'.l fuel n_0 _ _ (hpairs_1.mono hx.1) i_10 j_19 _ hr24 w hw)) ?_
              refine W.q rfl rfl rfl rfl (by decide) (Yd.mv rfl (.t rfl)) ?_
              refine W.g rfl rfl rfl rfl rfl (.t rfl _) rfl (by decide) (fun hG => Yd.mv rfl (.t rfl)) ?_
              refine W.g rfl rfl rfl rfl rfl (.t rfl _) rfl (by decide) (fun hG => Yd.mv rfl (.t rfl)) ?_
              refine W.g rfl rfl rfl rfl rfl (.t rfl _) rfl (by decide) (fun hG => Yd.mv rfl (.t rfl)) ?_
              refine W.g rfl rfl rfl rfl rfl (.t rfl _) rfl (by decide) (fun hG => Yd.mv rfl (.t rfl)) ?_
              refine W.g rfl rfl rfl rfl rfl (.t rfl _) rfl (by decide) (fun hG => Yd.call (v := .bool ((((syllogistref_Under fuel n_0 pairs_1 j_19 i_10).getD false)))) rfl Try.func36 rfl rfl (.cons (.g rfl hG) (.cons (.g rfl hG) (.cons (.g rfl hG) (.cons (.g rfl hG) .nil)))) (fun x' hx w hw => syllogistref_Under_ok w0 x'.m x'.l fuel n_0 _ _ (hpairs_1.mono hx.1) j_19 i_10 _ (gd_get (d := false) ha25 hG) w hw)) ?_
              refine W.q rfl rfl rfl rfl (by decide) (Yd.and rfl (.t rfl) .c rfl rfl) ?_
              refine W.end ?_
              refine NX.sub (env' := [(0, _), (1, _), (7, _), (8, _), (68, _)]) ⟨rfl, rfl, rfl, rfl, rfl, trivial⟩ ?_
              refine NX.then ?_
              refine Tr.cond (.t rfl) (fun hb => ?_) (fun hb => ?_)
              · have hr := cond_t hb hr
                refine Tr.seq ?_
                refine Tr.region_f (fun _ => false) ?_
                refine W.q rfl rfl rfl rfl (by decide) (Yd.as rfl .c) ?_
                refine W.end ?_
                refine NX.sub (env' := [(4, _)]) ⟨rfl, trivial⟩ ?_
                refine NX.then ?_
                refine Tr.ret' (RT.block (RT.then (RT.then (RT.block (RT.block (RT.then (RT.then (RT.block (RT.then ?_)))))))))
                refine res1 rfl rfl ?_
                intro w hc
                cases hr
                exact ⟨rfl, hc⟩
              · have hr := cond_f hb hr
                refine Tr.skip' ?_
                refine NX.block ?_
                refine NX.then ?_
                refine Tr.region_f (fun _ => false) ?_
                refine W.q rfl rfl rfl rfl (by decide) (Yd.mv rfl (.t rfl)) ?_
                refine W.q rfl rfl rfl rfl (by decide) (Yd.add rfl (.t rfl) .c) ?_
                refine W.q rfl rfl rfl rfl (by decide) (Yd.as rfl (.t rfl)) ?_
                refine W.end ?_
                refine NX.sub (env' := [(0, _), (1, _), (7, _), (8, _)]) ⟨rfl, rfl, rfl, rfl, trivial⟩ ?_
                refine NX.sub (env' := [(0, _), (1, _), (7, _), (8, _)]) ⟨rfl, rfl, rfl, rfl, trivial⟩ ?_
                have hw := w64_id (n := j_19 + 1) (by omega) (by omega)
                exact NX.again n22 (j_19 + 1, ()) (Nat.lt_succ_self _) ⟨(by rw [hw] <;> rfl), rfl, (fr_dec hnj_19), (by omega), ((hnx21 _).symm.trans hr)⟩
    have hlen26 := (hpairs_1).2.1
    refine Tr.block ?_
    refine Tr.sub (env' := [(0, _), (1, _), (20, _), (21, _), (22, _)]) ⟨rfl, rfl, rfl, rfl, rfl, trivial⟩ ?_
    refine Tr.loop (S := fun n (z : Int × Unit) env x => match z with | (t_27, _) => env = [(0, .int .i64 n_0), (1, upairs_1), (20, upairs_1), (21, .int .i64 ((pairs_1.length : Int))), (22, .int .i64 t_27)] ∧ x = ⟨m, l⟩ ∧ n = ((pairs_1.length : Int) - t_27).toNat ∧ 0 ≤ t_27 ∧ forK (σ := Unit) (fun i s nx_ => syllogistref_OrderCheck_b28 n_0 pairs_1 i nx_) (fun _ => syllogistref_OrderCheck_k3 n_0 pairs_1 fuel) n t_27 () = some r) _ ((0 : Int), ()) ⟨rfl, rfl, rfl, (by omega), hr⟩ ?_
    rintro n30 ⟨t_27, _⟩ env x ⟨rfl, rfl, hnt_27, h0t_27, hr⟩
    cases n30 with
    | zero =>
      simp only [forK] at hr
      refine Tr.seq ?_
      refine Tr.region_f (fun _ => false) ?_
      refine W.q rfl rfl rfl rfl (by decide) (Yd.lss rfl (.t rfl) (.t rfl)) ?_
      refine W.end ?_
      refine NX.sub (env' := [(0, _), (1, _), (20, _), (21, _), (22, _), (23, _)]) ⟨rfl, rfl, rfl, rfl, rfl, rfl, trivial⟩ ?_
      refine NX.then ?_
      refine Tr.seq ?_
      refine Tr.cond (.t rfl) (fun hb => ?_) (fun hb => ?_)
      · exact absurd (hb.symm.trans (fr_end hnt_27)) (by decide)
      ·
        refine Tr.exit' (EX.then (EX.then (EX.block ?_)))
        refine NX.sub (env' := [(0, _), (1, _)]) ⟨rfl, rfl, trivial⟩ ?_
        exact hk4 _ _ ⟨rfl, rfl, hr⟩
    | succ n30 =>
      obtain ⟨nx29, hnx29, hr⟩ := forK_succ hr
      try dsimp only at hr
      unfold syllogistref_OrderCheck_b28 at hr
      try dsimp only at hr
      have hltt_27 := fr_bnd hnt_27
      refine Tr.seq ?_
      refine Tr.region_f (fun _ => false) ?_
      refine W.q rfl rfl rfl rfl (by decide) (Yd.lss rfl (.t rfl) (.t rfl)) ?_
      refine W.end ?_
      refine NX.sub (env' := [(0, _), (1, _), (20, _), (21, _), (22, _), (23, _)]) ⟨rfl, rfl, rfl, rfl, rfl, rfl, trivial⟩ ?_
      refine NX.then ?_
      refine Tr.seq ?_
      refine Tr.cond (.t rfl) (fun hb => ?_) (fun hb => ?_)
      rotate_left
      · exact absurd (hb.symm.trans (fr_go hnt_27)) (by decide)
      ·
        refine Tr.skip' ?_
        refine NX.then ?_
        refine Tr.seq ?_
        refine Tr.block ?_
        refine Tr.seq ?_
        obtain ⟨y31, hy32, hr⟩ := bind_some hr
        refine Tr.region_f (fun i => Nat.beq i 2 || Nat.beq i 3) ?_
        refine W.q rfl rfl rfl rfl (by decide) (Yd.idxR hpairs_1 hy32 rfl Try.underlying45 SZ76 (.t rfl) (.t rfl)) ?_
        refine W.q rfl rfl rfl rfl (by decide) (Yd.ldFs (us := [_, _]) hpairs_1 (.refl _) hy32 rfl rfl ON76 US76 SZ76 (.t rfl)) ?_
        refine W.e rfl rfl rfl rfl (by decide) (Ef.al rfl ZR76 rfl) ?_
        rintro _ _ ⟨b33, rfl, rfl⟩
        refine ⟨.inl rfl, ?_⟩
        refine W.cast (m' := m) (l' := hcells b33 [_, _] 76 :: l) rfl rfl ?_
        refine W.s rfl rfl rfl rfl (Ef.stB (pos := 0) (us := [_, _]) (cs' := [_, _]) rfl rfl (.t rfl) (.t rfl) SZ76 rfl rfl rfl (Nat.le_of_ble_eq_true rfl) rfl) ?_
        rintro _ _ ⟨rfl, rfl⟩
        refine ⟨.inl rfl, ?_⟩
        refine W.cast (m' := m) (l' := hcells b33 [_, _] 76 :: l) rfl rfl ?_
        refine W.end ?_
        refine NX.sub (env' := [(0, _), (1, _), (20, _), (21, _), (22, _), (6, _)]) ⟨rfl, rfl, rfl, rfl, rfl, rfl, trivial⟩ ?_
        refine NX.then ?_
        refine Tr.seq ?_
        refine Tr.region_f (fun _ => false) ?_
        refine W.q rfl rfl rfl rfl (by decide) (Yd.arrB rfl Try.underlying76 SZ3 (by decide) (by decide) (.t rfl) .c) ?_
        refine W.q rfl rfl rfl rfl (by decide) (Yd.ldB (pos := 0) rfl rfl rfl ON3 (.t rfl)) ?_
        refine W.q rfl rfl rfl rfl (by decide) (Yd.lss rfl (.t rfl) .c) ?_
        refine W.q rfl rfl rfl rfl (by decide) (Yd.mv rfl (.t rfl)) ?_
        refine W.g rfl rfl rfl rfl rfl (.t rfl _) rfl (by decide) (fun hG => Yd.arrB rfl Try.underlying76 SZ3 (by decide) (by decide) (.t rfl) .c) ?_
        refine W.g rfl rfl rfl rfl rfl (.t rfl _) rfl (by decide) (fun hG => Yd.ldB (pos := 0) rfl rfl rfl ON3 (.g rfl hG)) ?_
        refine W.g rfl rfl rfl rfl rfl (.t rfl _) rfl (by decide) (fun hG => Yd.mv rfl (.t rfl)) ?_
        refine W.g rfl rfl rfl rfl rfl (.t rfl _) rfl (by decide) (fun hG => Yd.geq rfl (.g rfl hG) (.g rfl hG)) ?_
        refine W.q rfl rfl rfl rfl (by decide) (Yd.or rfl (.t rfl) .c rfl rfl) ?_
        refine W.q rfl rfl rfl rfl (by decide) (Yd.mv rfl (.t rfl)) ?_
        refine W.g rfl rfl rfl rfl rfl (.t rfl _) rfl (by decide) (fun hG => Yd.arrB rfl Try.underlying76 SZ3 (by decide) (by decide) (.t rfl) .c) ?_
        refine W.g rfl rfl rfl rfl rfl (.t rfl _) rfl (by decide) (fun hG => Yd.ldB (pos := 0) rfl rfl rfl ON3 (.g rfl hG)) ?_
        refine W.g rfl rfl rfl rfl rfl (.t rfl _) rfl (by decide) (fun hG => Yd.lss rfl (.g rfl hG) .c) ?_
        refine W.q rfl rfl rfl rfl (by decide) (Yd.or rfl (.t rfl) .c rfl rfl) ?_
        refine W.q rfl rfl rfl rfl (by decide) (Yd.mv rfl (.t rfl)) ?_
        refine W.g rfl rfl rfl rfl rfl (.t rfl _) rfl (by decide) (fun hG => Yd.arrB rfl Try.underlying76 SZ3 (by decide) (by decide) (.t rfl) .c) ?_
        refine W.g rfl rfl rfl rfl rfl (.t rfl _) rfl (by decide) (fun hG => Yd.ldB (pos := 0) rfl rfl rfl ON3 (.g rfl hG)) ?_
        refine W.g rfl rfl rfl rfl rfl (.t rfl _) rfl (by decide) (fun hG => Yd.mv rfl (.t rfl)) ?_
        refine W.g rfl rfl rfl rfl rfl (.t rfl _) rfl (by decide) (fun hG => Yd.geq rfl (.g rfl hG) (.g rfl hG)) ?_
        refine W.q rfl rfl rfl rfl (by decide) (Yd.or rfl (.t rfl) .c rfl rfl) ?_
        refine W.end ?_
        refine NX.sub (env' := [(0, _), (1, _), (20, _), (21, _), (22, _), (45, _)]) ⟨rfl, rfl, rfl, rfl, rfl, rfl, trivial⟩ ?_
        refine NX.drop (l' := l) (.cons _ (.refl _)) ?_
        refine NX.then ?_
        refine Tr.cond (.t rfl) (fun hb => ?_) (fun hb => ?_)
        · have hr := cond_t hb hr
          refine Tr.seq ?_
          refine Tr.region_f (fun _ => false) ?_
          refine W.q rfl rfl rfl rfl (by decide) (Yd.as rfl .c) ?_
          refine W.end ?_
          refine NX.sub (env' := [(4, _)]) ⟨rfl, trivial⟩ ?_
          refine NX.then ?_
          refine Tr.ret' (RT.block (RT.then (RT.then (RT.block (RT.then ?_)))))
          refine res1 rfl rfl ?_
          intro w hc
          cases hr
          exact ⟨rfl, hc⟩
        · have hr := cond_f hb hr
          refine Tr.skip' ?_
          refine NX.block ?_
          refine NX.then ?_
          refine Tr.region_f (fun _ => false) ?_
          refine W.q rfl rfl rfl rfl (by decide) (Yd.add rfl (.t rfl) .c) ?_
          refine W.q rfl rfl rfl rfl (by decide) (Yd.mv rfl (.t rfl)) ?_
          refine W.end ?_
          refine NX.sub (env' := [(0, _), (1, _), (20, _), (21, _), (22, _)]) ⟨rfl, rfl, rfl, rfl, rfl, trivial⟩ ?_
          refine NX.sub (env' := [(0, _), (1, _), (20, _), (21, _), (22, _)]) ⟨rfl, rfl, rfl, rfl, rfl, trivial⟩ ?_
          have hw := w64_id (n := t_27 + 1) (by omega) (by omega)
          exact NX.again n30 (t_27 + 1, ()) (Nat.lt_succ_self _) ⟨(by rw [hw] <;> rfl), rfl, (fr_dec hnt_27), (by omega), ((hnx29 _).symm.trans hr)⟩

def syllogistref_Fits (n_0 : Int) (s_1 : (BitVec 32)) : Option (Bool) :=
  some (((decide (n_0 ≥ (32 : Int))) || ((decide (n_0 ≥ (0 : Int))) && (decide (s_1 < (1#32 <<< ((BitVec.ofInt 64 n_0)).toNat))))))

set_option maxRecDepth 100000 in
set_option maxHeartbeats 4000000 in
theorem syllogistref_Fits_ok (w0 : World) (m : Snap) (l : List HI) (n_0 : Int) (s_1 : (BitVec 32)) (r : Bool) (hr : syllogistref_Fits n_0 s_1 = some r) (w : World) (hc : cX w0 ⟨m, l⟩ w) :
    Calls Try.prog 13 [.int .i64 n_0, .int .u32 (s_1.toNat : Int)].toArray w fun e w' => e = .returned (.bool r) ∧ cX w0 ⟨m, l⟩ w' := by
  unfold syllogistref_Fits at hr
  refine calls_of_Tr (N := 18) Try.func13 rfl hc rfl (Nat.le_of_ble_eq_true rfl) ?_
  refine Tr.seq ?_
  refine Tr.region_f (fun _ => false) ?_
  refine W.q rfl rfl rfl rfl (by decide) (Yd.as rfl .c) ?_
  refine W.end ?_
  refine NX.sub (env' := [(0, _), (1, _)]) ⟨rfl, rfl, trivial⟩ ?_
  refine NX.then ?_
  refine Tr.seq ?_
  refine Tr.region_f (fun _ => false) ?_
  refine W.q rfl rfl rfl rfl (by decide) (Yd.mv rfl (.t rfl)) ?_
  refine W.q rfl rfl rfl rfl (by decide) (Yd.geq rfl (.t rfl) .c) ?_
  refine W.q rfl rfl rfl rfl (by decide) (Yd.mv rfl (.t rfl)) ?_
  refine W.g rfl rfl rfl rfl rfl (.t rfl _) rfl (by decide) (fun hG => Yd.mv rfl (.t rfl)) ?_
  refine W.g rfl rfl rfl rfl rfl (.t rfl _) rfl (by decide) (fun hG => Yd.geq rfl (.g rfl hG) .c) ?_
  refine W.g rfl rfl rfl rfl rfl (.t rfl _) rfl (by decide) (fun hG => Yd.mv rfl (.g rfl hG)) ?_
  refine W.g rfl rfl rfl rfl rfl (.g rfl _) rfl (by decide) (fun hG => Yd.mv rfl (.t rfl)) ?_
  refine W.g rfl rfl rfl rfl rfl (.g rfl _) rfl (by decide) (fun hG => Yd.mv rfl (.t rfl)) ?_
  refine W.g rfl rfl rfl rfl rfl (.g rfl _) rfl (by decide) (fun hG => Yd.cvQ rfl US3 Try.underlying56 (.g rfl hG)) ?_
  refine W.g rfl rfl rfl rfl rfl (.g rfl _) rfl (by decide) (fun hG => Yd.shlU (a := 1#32) rfl .c (.g rfl hG) (Int.natCast_nonneg _)) ?_
  refine W.g rfl rfl rfl rfl rfl (.g rfl _) rfl (by decide) (fun hG => Yd.lssU (a := s_1) (b := (1#32 <<< ((BitVec.ofInt 64 n_0)).toNat)) rfl (.g rfl hG) (.g rfl hG)) ?_
  refine W.g rfl rfl rfl rfl rfl (.t rfl _) rfl (by decide) (fun hG => Yd.andG rfl (.g rfl hG) .c rfl rfl hG) ?_
  refine W.q rfl rfl rfl rfl (by decide) (Yd.or rfl (.t rfl) .c rfl rfl) ?_
  refine W.q rfl rfl rfl rfl (by decide) (Yd.as rfl (.t rfl)) ?_
  refine W.end ?_
  refine NX.sub (env' := [(4, _)]) ⟨rfl, trivial⟩ ?_
  refine NX.then ?_
  refine Tr.ret' ?_
  refine res1 rfl rfl ?_
  intro w hc
  cases hr
  exact ⟨rfl, hc⟩

def syllogistref_Bit (w_0 : (BitVec 32)) (i_1 : Int) : Option (Bool) :=
  some ((((decide (i_1 ≥ (0 : Int))) && (decide (i_1 < (32 : Int)))) && ((w_0 &&& (1#32 <<< ((BitVec.ofInt 64 i_1)).toNat)) != 0#32)))

set_option maxRecDepth 100000 in
set_option maxHeartbeats 4000000 in
theorem syllogistref_Bit_ok (w0 : World) (m : Snap) (l : List HI) (w_0 : (BitVec 32)) (i_1 : Int) (r : Bool) (hr : syllogistref_Bit w_0 i_1 = some r) (w : World) (hc : cX w0 ⟨m, l⟩ w) :
    Calls Try.prog 16 [.int .u32 (w_0.toNat : Int), .int .i64 i_1].toArray w fun e w' => e = .returned (.bool r) ∧ cX w0 ⟨m, l⟩ w' := by
  unfold syllogistref_Bit at hr
  refine calls_of_Tr (N := 19) Try.func16 rfl hc rfl (Nat.le_of_ble_eq_true rfl) ?_
  refine Tr.seq ?_
  refine Tr.region_f (fun _ => false) ?_
  refine W.q rfl rfl rfl rfl (by decide) (Yd.as rfl .c) ?_
  refine W.end ?_
  refine NX.sub (env' := [(0, _), (1, _)]) ⟨rfl, rfl, trivial⟩ ?_
  refine NX.then ?_
  refine Tr.seq ?_
  refine Tr.region_f (fun _ => false) ?_
  refine W.q rfl rfl rfl rfl (by decide) (Yd.mv rfl (.t rfl)) ?_
  refine W.q rfl rfl rfl rfl (by decide) (Yd.geq rfl (.t rfl) .c) ?_
  refine W.q rfl rfl rfl rfl (by decide) (Yd.mv rfl (.t rfl)) ?_
  refine W.g rfl rfl rfl rfl rfl (.t rfl _) rfl (by decide) (fun hG => Yd.mv rfl (.t rfl)) ?_
  refine W.g rfl rfl rfl rfl rfl (.t rfl _) rfl (by decide) (fun hG => Yd.lss rfl (.g rfl hG) .c) ?_
  refine W.q rfl rfl rfl rfl (by decide) (Yd.and rfl (.t rfl) .c rfl rfl) ?_
  refine W.q rfl rfl rfl rfl (by decide) (Yd.mv rfl (.t rfl)) ?_
  refine W.g rfl rfl rfl rfl rfl (.t rfl _) rfl (by decide) (fun hG => Yd.mv rfl (.t rfl)) ?_
  refine W.g rfl rfl rfl rfl rfl (.t rfl _) rfl (by decide) (fun hG => Yd.mv rfl (.t rfl)) ?_
  refine W.g rfl rfl rfl rfl rfl (.t rfl _) rfl (by decide) (fun hG => Yd.cvQ rfl US3 Try.underlying56 (.g rfl hG)) ?_
  refine W.g rfl rfl rfl rfl rfl (.t rfl _) rfl (by decide) (fun hG => Yd.shlU (a := 1#32) rfl .c (.g rfl hG) (Int.natCast_nonneg _)) ?_
  refine W.g rfl rfl rfl rfl rfl (.t rfl _) rfl (by decide) (fun hG => Yd.andU (a := w_0) (b := (1#32 <<< ((BitVec.ofInt 64 i_1)).toNat)) rfl (.g rfl hG) (.g rfl hG)) ?_
  refine W.g rfl rfl rfl rfl rfl (.t rfl _) rfl (by decide) (fun hG => Yd.neqU (a := (w_0 &&& (1#32 <<< ((BitVec.ofInt 64 i_1)).toNat))) (b := 0#32) rfl (.g rfl hG) .c) ?_
  refine W.q rfl rfl rfl rfl (by decide) (Yd.and rfl (.t rfl) .c rfl rfl) ?_
  refine W.q rfl rfl rfl rfl (by decide) (Yd.as rfl (.t rfl)) ?_
  refine W.end ?_
  refine NX.sub (env' := [(4, _)]) ⟨rfl, trivial⟩ ?_
  refine NX.then ?_
  refine Tr.ret' ?_
  refine res1 rfl rfl ?_
  intro w hc
  cases hr
  exact ⟨rfl, hc⟩
end Go.Proofs.Ytjpoedjmoobapaa.Sy
