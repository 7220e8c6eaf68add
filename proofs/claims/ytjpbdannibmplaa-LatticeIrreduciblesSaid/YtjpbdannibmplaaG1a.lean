/- Functions of the program as plain functions, and that the translation computes them; the conditions stand in each theorem. Printed by an own program. -/
import Derived.Test.YtjpbdannibmplaaSyO
import Derived.Test.YtjpbdannibmplaaT
import Derived.Test.YtjpbdannibmplaaProg
namespace Go.Proofs.Ytjpbdannibmplaa.Sy
open Go
set_option linter.unusedVariables false
theorem IF29 : (Try.prog.info? 29).map (fun i => (i.zero, i.size, i.bytes)) = some (some (.int .u32 0), 1, 4) := by kernel_rfl
theorem SZ29 : (Try.prog.info? 29).map (·.size) = some 1 := by kernel_rfl
theorem SZ35 : (Try.prog.info? 35).map (·.size) = some 2 := by kernel_rfl
theorem ON35 : one Try.prog 35 = false := by kernel_rfl
theorem US35 : (Try.prog.underlying 35).isSome = true := by kernel_rfl
theorem ZR35 : (Try.prog.info? 35).bind (·.zero) = some (.agg #[.int .i64 0, .int .i64 0]) := by kernel_rfl
theorem SZ3 : (Try.prog.info? 3).map (·.size) = some 1 := by kernel_rfl
theorem ON3 : one Try.prog 3 = true := by kernel_rfl
theorem ON29 : one Try.prog 29 = true := by kernel_rfl
structure T71 where
  up : List (BitVec 32)
  down : List (BitVec 32)
  join : List (List Int)
  meet : List (List Int)
  is_ : Bool
def P71 (m : Snap) (z : Value) : Option T71 → Prop
  | none => z = .pointer none
  | some x => ∃ (b : Nat) (u0 u1 u2 u3 : Value), z = bp b 0 ∧ Bk m b 71 [u0, u1, u2, u3, .bool x.is_] ∧ RS rU m u0 x.up ∧ RS rU m u1 x.down ∧ RS (Rp.slice rI) m u2 x.join ∧ RS (Rp.slice rI) m u3 x.meet
theorem P71.mono {m m' : Snap} {z : Value} {o : Option T71} (hm : Sle m m') (h : P71 m z o) : P71 m' z o := by
  cases o with
  | none => exact h
  | some x =>
    obtain ⟨b, u0, u1, u2, u3, hz, hb, h0, h1, h2, h3⟩ := h
    exact ⟨b, u0, u1, u2, u3, hz, hb.mono hm, h0.mono hm, h1.mono hm, h2.mono hm, h3.mono hm⟩
theorem ZI71 : (Try.prog.info? 71).bind (·.zero) = some (.agg #[.slice none 0 0, .slice none 0 0, .slice none 0 0, .slice none 0 0, .bool false]) := by kernel_rfl
theorem PL71 : plS Try.prog 71 = some [(0, 1), (1, 1), (2, 1), (3, 1), (4, 1)] := by kernel_rfl
theorem SZ23 : (Try.prog.info? 23).map (·.size) = some 1 := by kernel_rfl
theorem ON23 : one Try.prog 23 = true := by kernel_rfl
theorem IF3 : (Try.prog.info? 3).map (fun i => (i.zero, i.size, i.bytes)) = some (some (.int .i64 0), 1, 8) := by kernel_rfl
theorem SZ4 : (Try.prog.info? 4).map (·.size) = some 1 := by kernel_rfl
theorem ON4 : one Try.prog 4 = true := by kernel_rfl
theorem SZ44 : (Try.prog.info? 44).map (·.size) = some 1 := by kernel_rfl
theorem ON44 : one Try.prog 44 = true := by kernel_rfl
theorem IF36 : (Try.prog.info? 36).map (fun i => (i.zero, i.size, i.bytes)) = some (some (.slice none 0 0), 1, 24) := by kernel_rfl
theorem SZ36 : (Try.prog.info? 36).map (·.size) = some 1 := by kernel_rfl
theorem ON36 : one Try.prog 36 = true := by kernel_rfl
theorem ZI35 : (Try.prog.info? 35).bind (·.zero) = some (.agg #[.int .i64 0, .int .i64 0]) := by kernel_rfl
theorem PA35 : plA Try.prog 35 = some 1 := by kernel_rfl
theorem IF35 : (Try.prog.info? 35).map (fun i => (i.zero, i.size, i.bytes)) = some (some (.agg #[.int .i64 0, .int .i64 0]), 2, 16) := by kernel_rfl
theorem US3 : (Try.prog.underlying 3).isSome = true := by kernel_rfl
theorem FM : Try.prog.follows .mixedOrders = true := by kernel_rfl

def order_Table_k36 (l30 : List (BitVec 32)) : Option ((List (BitVec 32)) × Int) :=
  some ((l30, (0 : Int)))

def order_Table_k45 (nx41 : (Unit → Option ((List (BitVec 32)) × Int))) : Option ((List (BitVec 32)) × Int) :=
  nx41 ()

def order_Table_b49 (l30 : List (BitVec 32)) (t_39 : Int) (t_48 : Int) (nx50 : Unit → Option ((List (BitVec 32)) × Int)) : Option ((List (BitVec 32)) × Int) :=
  (geti l30 t_39).bind fun y52 =>
  bif (!((((y52 >>> t_48.toNat) &&& 1#32) == 1#32) == true) || (geti l30 t_48).isSome) then
  (bif ((((y52 >>> t_48.toNat) &&& 1#32) == 1#32) && (((((geti l30 t_48).getD (0#32)) >>> t_39.toNat) &&& 1#32) == 1#32)) then
  some (([], (3 : Int)))
  else
  nx50 ()) else none

def order_Table_b40 (l30 : List (BitVec 32)) (t_39 : Int) (nx41 : Unit → Option ((List (BitVec 32)) × Int)) : Option ((List (BitVec 32)) × Int) :=
  bif decide (t_39 ≤ 9223372036854775807) then
  forK (σ := Unit) (fun i s nx_ => order_Table_b49 l30 t_39 i nx_) (fun _ => order_Table_k45 nx41) (t_39 - (0 : Int)).toNat (0 : Int) () else none

def order_Table_k32 (l30 : List (BitVec 32)) : Option ((List (BitVec 32)) × Int) :=
  forK (σ := Unit) (fun i s nx_ => order_Table_b40 l30 i nx_) (fun _ => order_Table_k36 l30) ((l30.length : Int) - (0 : Int)).toNat (0 : Int) ()

def order_Table_k68 (nx58 : ((List (BitVec 32)) → Option ((List (BitVec 32)) × Int))) (l66 : List (BitVec 32)) : Option ((List (BitVec 32)) × Int) :=
  nx58 l66

def order_Table_b72 (t_56 : Int) (t_71 : Int) (l64 : List (BitVec 32)) (nx73 : (List (BitVec 32)) → Option ((List (BitVec 32)) × Int)) : Option ((List (BitVec 32)) × Int) :=
  (geti l64 t_71).bind fun y75 =>
  (bif (((y75 >>> t_56.toNat) &&& 1#32) == 1#32) then
  (geti l64 t_71).bind fun y77 =>
  (geti l64 t_56).bind fun y79 =>
  nx73 (l64.set t_71.toNat ((y77 ||| y79)))
  else
  nx73 l64)

def order_Table_b57 (t_56 : Int) (l28 : List (BitVec 32)) (nx58 : (List (BitVec 32)) → Option ((List (BitVec 32)) × Int)) : Option ((List (BitVec 32)) × Int) :=
  forK (σ := (List (BitVec 32))) (fun i s nx_ => order_Table_b72 t_56 i s nx_) (fun s => order_Table_k68 nx58 s) ((l28.length : Int) - (0 : Int)).toNat (0 : Int) l28

def order_Table_k22 (l20 : List (BitVec 32)) : Option ((List (BitVec 32)) × Int) :=
  forK (σ := (List (BitVec 32))) (fun i s nx_ => order_Table_b57 i s nx_) (fun s => order_Table_k32 s) ((l20.length : Int) - (0 : Int)).toNat (0 : Int) l20

def order_Table_b83 (n_0 : Int) (pairs_1 : List (Int × Int)) (t_82 : Int) (l18 : List (BitVec 32)) (nx84 : (List (BitVec 32)) → Option ((List (BitVec 32)) × Int)) : Option ((List (BitVec 32)) × Int) :=
  (geti pairs_1 t_82).bind fun y86 =>
  (bif ((decide ((if y86.2 < y86.1 then y86.2 else y86.1) < (0 : Int))) || (decide ((if y86.2 > y86.1 then y86.2 else y86.1) ≥ n_0))) then
  some (([], (2 : Int)))
  else
  (geti l18 y86.1).bind fun y90 =>
  bif decide (0 ≤ y86.2) then
  nx84 (l18.set y86.1.toNat ((y90 ||| (1#32 <<< y86.2.toNat)))) else none)

def order_Table_k12 (n_0 : Int) (pairs_1 : List (Int × Int)) (l10 : List (BitVec 32)) : Option ((List (BitVec 32)) × Int) :=
  forK (σ := (List (BitVec 32))) (fun i s nx_ => order_Table_b83 n_0 pairs_1 i s nx_) (fun s => order_Table_k22 s) ((pairs_1.length : Int) - (0 : Int)).toNat (0 : Int) l10

def order_Table_b95 (t_94 : Int) (l8 : List (BitVec 32)) (nx96 : (List (BitVec 32)) → Option ((List (BitVec 32)) × Int)) : Option ((List (BitVec 32)) × Int) :=
  (geti l8 t_94).bind fun y98 =>
  nx96 (l8.set t_94.toNat ((1#32 <<< t_94.toNat)))

def order_Table (n_0 : Int) (pairs_1 : List (Int × Int)) : Option ((List (BitVec 32)) × Int) :=
  (bif (((decide (n_0 < (1 : Int))) || (decide (n_0 > (6 : Int)))) || (decide ((pairs_1.length : Int) > (20 : Int)))) then
  some (([], (1 : Int)))
  else
  bif decide (0 ≤ n_0 ∧ n_0 ≤ 1048576) then
  forK (σ := (List (BitVec 32))) (fun i s nx_ => order_Table_b95 i s nx_) (fun s => order_Table_k12 n_0 pairs_1 s) ((((List.replicate n_0.toNat (0#32))).length : Int) - (0 : Int)).toNat (0 : Int) ((List.replicate n_0.toNat (0#32))) else none)

set_option maxRecDepth 100000 in
theorem order_Table_ok (w0 : World) (m : Snap) (l : List HI) (n_0 : Int) (upairs_1 : Value) (pairs_1 : List (Int × Int)) (hpairs_1 : RS rP m upairs_1 pairs_1) (r : (List (BitVec 32)) × Int) (hr : order_Table n_0 pairs_1 = some r) (w : World) (hc : cX w0 ⟨m, l⟩ w) :
    Calls Try.prog 15 [.int .i64 n_0, upairs_1].toArray w fun e w' => ∃ z0 : Value, e = .returned (.tuple #[z0, .int .i64 r.2]) ∧ cX w0 ⟨m, hownT 29 1 encU z0 r.1 :: l⟩ w' := by
  unfold order_Table at hr
  refine calls_of_Tr (N := 130) Try.func15 rfl hc rfl (Nat.le_of_ble_eq_true rfl) ?_
  refine Tr.seq ?_
  refine Tr.region_f (fun _ => false) ?_
  refine W.q rfl rfl rfl rfl (by decide) (Yd.as rfl .c) ?_
  refine W.q rfl rfl rfl rfl (by decide) (Yd.as rfl .c) ?_
  refine W.end ?_
  refine NX.sub (env' := [(0, _), (1, _)]) ⟨rfl, rfl, trivial⟩ ?_
  refine NX.then ?_
  refine Tr.seq ?_
  refine Tr.seq ?_
  refine Tr.region_f (fun _ => false) ?_
  refine W.q rfl rfl rfl rfl (by decide) (Yd.mv rfl (.t rfl)) ?_
  refine W.q rfl rfl rfl rfl (by decide) (Yd.lss rfl (.t rfl) .c) ?_
  refine W.q rfl rfl rfl rfl (by decide) (Yd.mv rfl (.t rfl)) ?_
  refine W.g rfl rfl rfl rfl rfl (.t rfl _) rfl (by decide) (fun hG => Yd.mv rfl (.t rfl)) ?_
  refine W.g rfl rfl rfl rfl rfl (.t rfl _) rfl (by decide) (fun hG => Yd.gtr rfl (.g rfl hG) .c) ?_
  refine W.q rfl rfl rfl rfl (by decide) (Yd.or rfl (.t rfl) .c rfl rfl) ?_
  refine W.q rfl rfl rfl rfl (by decide) (Yd.mv rfl (.t rfl)) ?_
  refine W.g rfl rfl rfl rfl rfl (.t rfl _) rfl (by decide) (fun hG => Yd.mv rfl (.t rfl)) ?_
  refine W.g rfl rfl rfl rfl rfl (.t rfl _) rfl (by decide) (fun hG => Yd.lenR hpairs_1 rfl Try.underlying22 (.g rfl hG)) ?_
  refine W.g rfl rfl rfl rfl rfl (.t rfl _) rfl (by decide) (fun hG => Yd.gtr rfl (.g rfl hG) .c) ?_
  refine W.q rfl rfl rfl rfl (by decide) (Yd.or rfl (.t rfl) .c rfl rfl) ?_
  refine W.end ?_
  refine NX.sub (env' := [(0, _), (1, _), (24, _)]) ⟨rfl, rfl, rfl, trivial⟩ ?_
  refine NX.then ?_
  refine Tr.cond (.t rfl) (fun hb => ?_) (fun hb => ?_)
  · have hr := cond_t hb hr
    refine Tr.seq ?_
    refine Tr.region_f (fun _ => false) ?_
    refine W.q rfl rfl rfl rfl (by decide) (Yd.as rfl .c) ?_
    refine W.q rfl rfl rfl rfl (by decide) (Yd.as rfl .c) ?_
    refine W.end ?_
    refine NX.sub (env' := [(4, _), (5, _)]) ⟨rfl, rfl, trivial⟩ ?_
    refine NX.then ?_
    refine Tr.ret' (RT.then ?_)
    refine res2 rfl rfl rfl ?_
    intro w hc
    cases hr
    exact ⟨_, rfl, (cX_nil hc)⟩
  · have hr := cond_f hb hr
    refine Tr.skip' ?_
    refine NX.then ?_
    refine Tr.seq ?_
    obtain ⟨hq1, hr⟩ := guard_some hr; replace hq1 := of_decide_eq_true hq1
    refine Tr.region_f (fun i => Nat.beq i 1) ?_
    refine W.q rfl rfl rfl rfl (by decide) (Yd.mv rfl (.t rfl)) ?_
    refine W.e rfl rfl rfl rfl (by decide) (Ef.mkT (enc := encU) (0#32) IF29 rfl Try.underlying23 rfl rfl (by decide) (.t rfl) (.t rfl) (by omega) (by omega) (by omega)) ?_
    rintro v2 _ rfl
    refine ⟨.inl rfl, ?_⟩
    refine W.cast (m' := m) (l' := hownT 29 1 encU v2 _ :: l) rfl rfl ?_
    refine W.q rfl rfl rfl rfl (by decide) (Yd.as rfl (.t rfl)) ?_
    refine W.end ?_
    refine NX.sub (env' := [(0, _), (1, _), (6, _)]) ⟨rfl, rfl, rfl, trivial⟩ ?_
    refine NX.then ?_
    refine Tr.seq ?_
    refine Tr.seq ?_
    refine Tr.region_f (fun _ => false) ?_
    refine W.q rfl rfl rfl rfl (by decide) (Yd.mv rfl (.t rfl)) ?_
    refine W.q rfl rfl rfl rfl (by decide) (Yd.lenO (p := 0) rfl rfl Try.underlying23 (.t rfl)) ?_
    refine W.q rfl rfl rfl rfl (by decide) (Yd.mv rfl .c) ?_
    refine W.end ?_
    refine NX.sub (env' := [(0, _), (1, _), (6, _), (28, _), (29, _)]) ⟨rfl, rfl, rfl, rfl, rfl, trivial⟩ ?_
    refine NX.then ?_
    refine Tr.join (S := fun env x => ∃ l10 : List (BitVec 32), ∃ v11 : Value, env = [(0, .int .i64 n_0), (1, upairs_1), (6, v11)] ∧ x = ⟨m, hownT 29 1 encU v11 l10 :: l⟩ ∧ order_Table_k12 n_0 pairs_1 l10 = some r) ?_ (fun hk13 => ?_)
    · rintro _ _ ⟨l10, v11, rfl, rfl, hr⟩
      unfold order_Table_k12 at hr
      try dsimp only at hr
      refine NX.then ?_
      refine Tr.seq ?_
      refine Tr.seq ?_
      refine Tr.region_f (fun _ => false) ?_
      refine W.q rfl rfl rfl rfl (by decide) (Yd.mv rfl (.t rfl)) ?_
      refine W.q rfl rfl rfl rfl (by decide) (Yd.lenR hpairs_1 rfl Try.underlying22 (.t rfl)) ?_
      refine W.q rfl rfl rfl rfl (by decide) (Yd.mv rfl .c) ?_
      refine W.end ?_
      refine NX.sub (env' := [(0, _), (6, _), (38, _), (39, _), (40, _)]) ⟨rfl, rfl, rfl, rfl, rfl, trivial⟩ ?_
      refine NX.then ?_
      refine Tr.join (S := fun env x => ∃ l20 : List (BitVec 32), ∃ v21 : Value, env = [(6, v21)] ∧ x = ⟨m, hownT 29 1 encU v21 l20 :: l⟩ ∧ order_Table_k22 l20 = some r) ?_ (fun hk23 => ?_)
      · rintro _ _ ⟨l20, v21, rfl, rfl, hr⟩
        unfold order_Table_k22 at hr
        try dsimp only at hr
        refine NX.then ?_
        refine Tr.seq ?_
        refine Tr.seq ?_
        refine Tr.region_f (fun _ => false) ?_
        refine W.q rfl rfl rfl rfl (by decide) (Yd.mv rfl (.t rfl)) ?_
        refine W.q rfl rfl rfl rfl (by decide) (Yd.lenO (p := 0) rfl rfl Try.underlying23 (.t rfl)) ?_
        refine W.q rfl rfl rfl rfl (by decide) (Yd.mv rfl .c) ?_
        refine W.end ?_
        refine NX.sub (env' := [(6, _), (71, _), (72, _)]) ⟨rfl, rfl, rfl, trivial⟩ ?_
        refine NX.then ?_
        refine Tr.join (S := fun env x => ∃ l30 : List (BitVec 32), ∃ v31 : Value, env = [(6, v31)] ∧ x = ⟨m, hownT 29 1 encU v31 l30 :: l⟩ ∧ order_Table_k32 l30 = some r) ?_ (fun hk33 => ?_)
        · rintro _ _ ⟨l30, v31, rfl, rfl, hr⟩
          unfold order_Table_k32 at hr
          try dsimp only at hr
          refine NX.then ?_
          refine Tr.seq ?_
          refine Tr.seq ?_
          refine Tr.region_f (fun _ => false) ?_
          refine W.q rfl rfl rfl rfl (by decide) (Yd.mv rfl (.t rfl)) ?_
          refine W.q rfl rfl rfl rfl (by decide) (Yd.lenO (p := 0) rfl rfl Try.underlying23 (.t rfl)) ?_
          refine W.q rfl rfl rfl rfl (by decide) (Yd.mv rfl .c) ?_
          refine W.end ?_
          refine NX.sub (env' := [(6, _), (101, _), (102, _)]) ⟨rfl, rfl, rfl, trivial⟩ ?_
          refine NX.then ?_
          refine Tr.join (S := fun env x => env = [(6, v31)] ∧ x = ⟨m, hownT 29 1 encU v31 l30 :: l⟩ ∧ order_Table_k36 l30 = some r) ?_ (fun hk37 => ?_)
          · rintro _ _ ⟨rfl, rfl, hr⟩
            unfold order_Table_k36 at hr
            try dsimp only at hr
            refine NX.then ?_
            refine Tr.seq ?_
            refine Tr.region_f (fun _ => false) ?_
            refine W.q rfl rfl rfl rfl (by decide) (Yd.mv rfl (.t rfl)) ?_
            refine W.q rfl rfl rfl rfl (by decide) (Yd.as rfl (.t rfl)) ?_
            refine W.q rfl rfl rfl rfl (by decide) (Yd.as rfl .c) ?_
            refine W.end ?_
            refine NX.sub (env' := [(4, _), (5, _)]) ⟨rfl, rfl, trivial⟩ ?_
            refine NX.then ?_
            refine Tr.ret' ?_
            refine res2 rfl rfl rfl ?_
            intro w hc
            cases hr
            exact ⟨_, rfl, hc⟩
          refine Tr.lenO (pos := 0) rfl (fun hlen38 => ?_)
          refine Tr.block ?_
          refine Tr.sub (env' := [(6, _), (101, _), (102, _)]) ⟨rfl, rfl, rfl, trivial⟩ ?_
          refine Tr.loop (S := fun n (z : Int × Unit) env x => match z with | (t_39, _) => env = [(6, v31), (101, .int .i64 ((l30.length : Int))), (102, .int .i64 t_39)] ∧ x = ⟨m, hownT 29 1 encU v31 l30 :: l⟩ ∧ n = ((l30.length : Int) - t_39).toNat ∧ 0 ≤ t_39 ∧ forK (σ := Unit) (fun i s nx_ => order_Table_b40 l30 i nx_) (fun _ => order_Table_k36 l30) n t_39 () = some r) _ ((0 : Int), ()) ⟨rfl, rfl, rfl, (by omega), hr⟩ ?_
          rintro n42 ⟨t_39, _⟩ env x ⟨rfl, rfl, hnt_39, h0t_39, hr⟩
          cases n42 with
          | zero =>
            simp only [forK] at hr
            refine Tr.seq ?_
            refine Tr.region_f (fun _ => false) ?_
            refine W.q rfl rfl rfl rfl (by decide) (Yd.lss rfl (.t rfl) (.t rfl)) ?_
            refine W.end ?_
            refine NX.sub (env' := [(6, _), (101, _), (102, _), (103, _)]) ⟨rfl, rfl, rfl, rfl, trivial⟩ ?_
            refine NX.then ?_
            refine Tr.seq ?_
            refine Tr.cond (.t rfl) (fun hb => ?_) (fun hb => ?_)
            · exact absurd (hb.symm.trans (fr_end hnt_39)) (by decide)
            ·
              refine Tr.exit' (EX.then (EX.then (EX.block ?_)))
              refine NX.sub (env' := [(6, _)]) ⟨rfl, trivial⟩ ?_
              exact hk37 _ _ ⟨rfl, rfl, hr⟩
          | succ n42 =>
            obtain ⟨nx41, hnx41, hr⟩ := forK_succ hr
            try dsimp only at hr
            unfold order_Table_b40 at hr
            try dsimp only at hr
            have hltt_39 := fr_bnd hnt_39
            refine Tr.seq ?_
            refine Tr.region_f (fun _ => false) ?_
            refine W.q rfl rfl rfl rfl (by decide) (Yd.lss rfl (.t rfl) (.t rfl)) ?_
            refine W.end ?_
            refine NX.sub (env' := [(6, _), (101, _), (102, _), (103, _)]) ⟨rfl, rfl, rfl, rfl, trivial⟩ ?_
            refine NX.then ?_
            refine Tr.seq ?_
            refine Tr.cond (.t rfl) (fun hb => ?_) (fun hb => ?_)
            rotate_left
            · exact absurd (hb.symm.trans (fr_go hnt_39)) (by decide)
            ·
              refine Tr.skip' ?_
              refine NX.then ?_
              refine Tr.seq ?_
              refine Tr.block ?_
              refine Tr.seq ?_
              refine Tr.region_f (fun _ => false) ?_
              refine W.q rfl rfl rfl rfl (by decide) (Yd.mv rfl (.t rfl)) ?_
              refine W.q rfl rfl rfl rfl (by decide) (Yd.as rfl (.t rfl)) ?_
              refine W.end ?_
              refine NX.sub (env' := [(6, _), (101, _), (102, _), (12, _)]) ⟨rfl, rfl, rfl, rfl, trivial⟩ ?_
              refine NX.then ?_
              refine Tr.seq ?_
              refine Tr.region_f (fun _ => false) ?_
              refine W.q rfl rfl rfl rfl (by decide) (Yd.mv rfl (.t rfl)) ?_
              refine W.q rfl rfl rfl rfl (by decide) (Yd.mv rfl .c) ?_
              refine W.end ?_
              refine NX.sub (env' := [(6, _), (101, _), (102, _), (12, _), (105, _), (106, _)]) ⟨rfl, rfl, rfl, rfl, rfl, rfl, trivial⟩ ?_
              refine NX.then ?_
              refine Tr.join (S := fun env x => env = [(6, v31), (101, .int .i64 ((l30.length : Int))), (102, .int .i64 t_39)] ∧ x = ⟨m, hownT 29 1 encU v31 l30 :: l⟩ ∧ order_Table_k45 nx41 = some r) ?_ (fun hk46 => ?_)
              · rintro _ _ ⟨rfl, rfl, hr⟩
                unfold order_Table_k45 at hr
                try dsimp only at hr
                refine NX.block ?_
                refine NX.then ?_
                refine Tr.region_f (fun _ => false) ?_
                refine W.q rfl rfl rfl rfl (by decide) (Yd.add rfl (.t rfl) .c) ?_
                refine W.q rfl rfl rfl rfl (by decide) (Yd.mv rfl (.t rfl)) ?_
                refine W.end ?_
                refine NX.sub (env' := [(6, _), (101, _), (102, _)]) ⟨rfl, rfl, rfl, trivial⟩ ?_
                refine NX.sub (env' := [(6, _), (101, _), (102, _)]) ⟨rfl, rfl, rfl, trivial⟩ ?_
                have hw := w64_id (n := t_39 + 1) (by omega) (by omega)
                exact NX.again n42 (t_39 + 1, ()) (Nat.lt_succ_self _) ⟨(by rw [hw] <;> rfl), rfl, (fr_dec hnt_39), (by omega), ((hnx41 _).symm.trans hr)⟩
              obtain ⟨hle47, hr⟩ := guard_some hr; replace hle47 := of_decide_eq_true hle47
              refine Tr.block ?_
              refine Tr.sub (env' := [(6, _), (12, _), (101, _), (102, _), (105, _), (106, _)]) ⟨rfl, rfl, rfl, rfl, rfl, rfl, trivial⟩ ?_
              refine Tr.loop (S := fun n (z : Int × Unit) env x => match z with | (t_48, _) => env = [(6, v31), (12, .int .i64 t_39), (101, .int .i64 ((l30.length : Int))), (102, .int .i64 t_39), (105, .int .i64 t_39), (106, .int .i64 t_48)] ∧ x = ⟨m, hownT 29 1 encU v31 l30 :: l⟩ ∧ n = (t_39 - t_48).toNat ∧ 0 ≤ t_48 ∧ forK (σ := Unit) (fun i s nx_ => order_Table_b49 l30 t_39 i nx_) (fun _ => order_Table_k45 nx41) n t_48 () = some r) _ ((0 : Int), ()) ⟨rfl, rfl, rfl, (by omega), hr⟩ ?_
              rintro n51 ⟨t_48, _⟩ env x ⟨rfl, rfl, hnt_48, h0t_48, hr⟩
              cases n51 with
              | zero =>
                simp only [forK] at hr
                refine Tr.seq ?_
                refine Tr.region_f (fun _ => false) ?_
                refine W.q rfl rfl rfl rfl (by decide) (Yd.lss rfl (.t rfl) (.t rfl)) ?_
                refine W.end ?_
                refine NX.sub (env' := [(6, _), (12, _), (101, _), (102, _), (105, _), (106, _), (107, _)]) ⟨rfl, rfl, rfl, rfl, rfl, rfl, rfl, trivial⟩ ?_
                refine NX.then ?_
                refine Tr.seq ?_
                refine Tr.cond (.t rfl) (fun hb => ?_) (fun hb => ?_)
                · exact absurd (hb.symm.trans (fr_end hnt_48)) (by decide)
                ·
                  refine Tr.exit' (EX.then (EX.then (EX.block ?_)))
                  refine NX.sub (env' := [(6, _), (101, _), (102, _)]) ⟨rfl, rfl, rfl, trivial⟩ ?_
                  exact hk46 _ _ ⟨rfl, rfl, hr⟩
              | succ n51 =>
                obtain ⟨nx50, hnx50, hr⟩ := forK_succ hr
                try dsimp only at hr
                unfold order_Table_b49 at hr
                try dsimp only at hr
                have hltt_48 := fr_bnd hnt_48
                refine Tr.seq ?_
                refine Tr.region_f (fun _ => false) ?_
                refine W.q rfl rfl rfl rfl (by decide) (Yd.lss rfl (.t rfl) (.t rfl)) ?_
                refine W.end ?_
                refine NX.sub (env' := [(6, _), (12, _), (101, _), (102, _), (105, _), (106, _), (107, _)]) ⟨rfl, rfl, rfl, rfl, rfl, rfl, rfl, trivial⟩ ?_
                refine NX.then ?_
                refine Tr.seq ?_
                refine Tr.cond (.t rfl) (fun hb => ?_) (fun hb => ?_)
                rotate_left
                · exact absurd (hb.symm.trans (fr_go hnt_48)) (by decide)
                ·
                  refine Tr.skip' ?_
                  refine NX.then ?_
                  refine Tr.seq ?_
                  refine Tr.block ?_
                  refine Tr.seq ?_
                  refine Tr.region_f (fun _ => false) ?_
                  refine W.q rfl rfl rfl rfl (by decide) (Yd.mv rfl (.t rfl)) ?_
                  refine W.q rfl rfl rfl rfl (by decide) (Yd.as rfl (.t rfl)) ?_
                  refine W.end ?_
                  refine NX.sub (env' := [(6, _), (12, _), (101, _), (102, _), (105, _), (106, _), (13, _)]) ⟨rfl, rfl, rfl, rfl, rfl, rfl, rfl, trivial⟩ ?_
                  refine NX.then ?_
                  refine Tr.seq ?_
                  obtain ⟨y52, hy53, hr⟩ := bind_some hr
                  obtain ⟨ha54, hr⟩ := guard_some hr
                  refine Tr.region_f (fun _ => false) ?_
                  refine W.q rfl rfl rfl rfl (by decide) (Yd.mv rfl (.t rfl)) ?_
                  refine W.q rfl rfl rfl rfl (by decide) (Yd.mv rfl (.t rfl)) ?_
                  refine W.q rfl rfl rfl rfl (by decide) (Yd.idxT (pos := 0) rfl hy53 rfl Try.underlying23 SZ29 (.t rfl) (.t rfl)) ?_
                  refine W.q rfl rfl rfl rfl (by decide) (Yd.ldT (enc := encU) (n := 1) (pos := 0) (fun _ => rfl) rfl hy53 rfl rfl ON29 (.t rfl)) ?_
                  refine W.q rfl rfl rfl rfl (by decide) (Yd.mv rfl (.t rfl)) ?_
                  refine W.q rfl rfl rfl rfl (by decide) (Yd.shrU (a := y52) rfl (.t rfl) (.t rfl) h0t_48) ?_
                  refine W.q rfl rfl rfl rfl (by decide) (Yd.andU (a := (y52 >>> t_48.toNat)) (b := 1#32) rfl (.t rfl) .c) ?_
                  refine W.q rfl rfl rfl rfl (by decide) (Yd.eqlU (a := ((y52 >>> t_48.toNat) &&& 1#32)) (b := 1#32) rfl (.t rfl) .c) ?_
                  refine W.q rfl rfl rfl rfl (by decide) (Yd.mv rfl (.t rfl)) ?_
                  refine W.g rfl rfl rfl rfl rfl (.t rfl _) rfl (by decide) (fun hG => Yd.mv rfl (.t rfl)) ?_
                  refine W.g rfl rfl rfl rfl rfl (.t rfl _) rfl (by decide) (fun hG => Yd.mv rfl (.t rfl)) ?_
                  refine W.g rfl rfl rfl rfl rfl (.t rfl _) rfl (by decide) (fun hG => Yd.idxT (pos := 0) rfl (gd_get (d := (0#32)) ha54 hG) rfl Try.underlying23 SZ29 (.g rfl hG) (.g rfl hG)) ?_
                  refine W.g rfl rfl rfl rfl rfl (.t rfl _) rfl (by decide) (fun hG => Yd.ldT (enc := encU) (n := 1) (pos := 0) (fun _ => rfl) rfl (gd_get (d := (0#32)) ha54 hG) rfl rfl ON29 (.g rfl hG)) ?_
                  refine W.g rfl rfl rfl rfl rfl (.t rfl _) rfl (by decide) (fun hG => Yd.mv rfl (.t rfl)) ?_
                  refine W.g rfl rfl rfl rfl rfl (.t rfl _) rfl (by decide) (fun hG => Yd.shrU (a := ((geti l30 t_48).getD (0#32))) rfl (.g rfl hG) (.g rfl hG) h0t_39) ?_
                  refine W.g rfl rfl rfl rfl rfl (.t rfl _) rfl (by decide) (fun hG => Yd.andU (a := (((geti l30 t_48).getD (0#32)) >>> t_39.toNat)) (b := 1#32) rfl (.g rfl hG) .c) ?_
                  refine W.g rfl rfl rfl rfl rfl (.t rfl _) rfl (by decide) (fun hG => Yd.eqlU (a := ((((geti l30 t_48).getD (0#32)) >>> t_39.toNat) &&& 1#32)) (b := 1#32) rfl (.g rfl hG) .c) ?_
                  refine W.q rfl rfl rfl rfl (by decide) (Yd.and rfl (.t rfl) .c rfl rfl) ?_
                  refine W.end ?_
                  refine NX.sub (env' := [(6, _), (12, _), (101, _), (102, _), (105, _), (106, _), (126, _)]) ⟨rfl, rfl, rfl, rfl, rfl, rfl, rfl, trivial⟩ ?_
                  refine NX.then ?_
                  refine Tr.cond (.t rfl) (fun hb => ?_) (fun hb => ?_)
                  · have hr := cond_t hb hr
                    refine Tr.seq ?_
                    refine Tr.region_f (fun _ => false) ?_
                    refine W.q rfl rfl rfl rfl (by decide) (Yd.as rfl .c) ?_
                    refine W.q rfl rfl rfl rfl (by decide) (Yd.as rfl .c) ?_
                    refine W.end ?_
                    refine NX.sub (env' := [(4, _), (5, _)]) ⟨rfl, rfl, trivial⟩ ?_
                    refine NX.drop (l' := l) (.cons _ (.refl _)) ?_
                    refine NX.then ?_
                    refine Tr.ret' (RT.block (RT.then (RT.then (RT.block (RT.block (RT.then (RT.then (RT.block (RT.then ?_)))))))))
                    refine res2 rfl rfl rfl ?_
                    intro w hc
                    cases hr
                    exact ⟨_, rfl, (cX_nil hc)⟩
                  · have hr := cond_f hb hr
                    refine Tr.skip' ?_
                    refine NX.block ?_
                    refine NX.then ?_
                    refine Tr.region_f (fun _ => false) ?_
                    refine W.q rfl rfl rfl rfl (by decide) (Yd.add rfl (.t rfl) .c) ?_
                    refine W.q rfl rfl rfl rfl (by decide) (Yd.mv rfl (.t rfl)) ?_
                    refine W.end ?_
                    refine NX.sub (env' := [(6, _), (12, _), (101, _), (102, _), (105, _), (106, _)]) ⟨rfl, rfl, rfl, rfl, rfl, rfl, trivial⟩ ?_
                    refine NX.sub (env' := [(6, _), (12, _), (101, _), (102, _), (105, _), (106, _)]) ⟨rfl, rfl, rfl, rfl, rfl, rfl, trivial⟩ ?_
                    have hw := w64_id (n := t_48 + 1) (by omega) (by omega)
                    exact NX.again n51 (t_48 + 1, ()) (Nat.lt_succ_self _) ⟨(by rw [hw] <;> rfl), rfl, (fr_dec hnt_48), (by omega), ((hnx50 _).symm.trans hr)⟩
        refine Tr.lenO (pos := 0) rfl (fun hlen55 => ?_)
        refine Tr.block ?_
        refine Tr.sub (env' := [(6, _), (71, _), (72, _)]) ⟨rfl, rfl, rfl, trivial⟩ ?_
        refine Tr.loop (S := fun n (z : Int × (List (BitVec 32))) env x => match z with | (t_56, l28) => ∃ v29 : Value, env = [(6, v29), (71, .int .i64 ((l20.length : Int))), (72, .int .i64 t_56)] ∧ x = ⟨m, hownT 29 1 encU v29 l28 :: l⟩ ∧ n = ((l20.length : Int) - t_56).toNat ∧ 0 ≤ t_56 ∧ forK (σ := (List (BitVec 32))) (fun i s nx_ => order_Table_b57 i s nx_) (fun s => order_Table_k32 s) n t_56 l28 = some r) _ ((0 : Int), l20) ⟨_, rfl, rfl, rfl, (by omega), hr⟩ ?_
        rintro n59 ⟨t_56, l28⟩ env x ⟨v29, rfl, rfl, hnt_56, h0t_56, hr⟩
        cases n59 with
        | zero =>
          simp only [forK] at hr
          refine Tr.seq ?_
          refine Tr.region_f (fun _ => false) ?_
          refine W.q rfl rfl rfl rfl (by decide) (Yd.lss rfl (.t rfl) (.t rfl)) ?_
          refine W.end ?_
          refine NX.sub (env' := [(6, _), (71, _), (72, _), (73, _)]) ⟨rfl, rfl, rfl, rfl, trivial⟩ ?_
          refine NX.then ?_
          refine Tr.seq ?_
          refine Tr.cond (.t rfl) (fun hb => ?_) (fun hb => ?_)
          · exact absurd (hb.symm.trans (fr_end hnt_56)) (by decide)
          ·
            refine Tr.exit' (EX.then (EX.then (EX.block ?_)))
            refine NX.sub (env' := [(6, _)]) ⟨rfl, trivial⟩ ?_
            exact hk33 _ _ ⟨_, _, rfl, rfl, hr⟩
        | succ n59 =>
          obtain ⟨nx58, hnx58, hr⟩ := forK_succ hr
          try dsimp only at hr
          unfold order_Table_b57 at hr
          try dsimp only at hr
          have hltt_56 := fr_bnd hnt_56
          refine Tr.seq ?_
          refine Tr.region_f (fun _ => false) ?_
          refine W.q rfl rfl rfl rfl (by decide) (Yd.lss rfl (.t rfl) (.t rfl)) ?_
          refine W.end ?_
          refine NX.sub (env' := [(6, _), (71, _), (72, _), (73, _)]) ⟨rfl, rfl, rfl, rfl, trivial⟩ ?_
          refine NX.then ?_
          refine Tr.seq ?_
          refine Tr.cond (.t rfl) (fun hb => ?_) (fun hb => ?_)
          rotate_left
          · exact absurd (hb.symm.trans (fr_go hnt_56)) (by decide)
          ·
            refine Tr.skip' ?_
            refine NX.then ?_
            refine Tr.seq ?_
            refine Tr.block ?_
            refine Tr.seq ?_
            refine Tr.region_f (fun _ => false) ?_
            refine W.q rfl rfl rfl rfl (by decide) (Yd.mv rfl (.t rfl)) ?_
            refine W.q rfl rfl rfl rfl (by decide) (Yd.as rfl (.t rfl)) ?_
            refine W.end ?_
            refine NX.sub (env' := [(6, _), (71, _), (72, _), (10, _)]) ⟨rfl, rfl, rfl, rfl, trivial⟩ ?_
            refine NX.then ?_
            refine Tr.seq ?_
            refine Tr.region_f (fun _ => false) ?_
            refine W.q rfl rfl rfl rfl (by decide) (Yd.mv rfl (.t rfl)) ?_
            refine W.q rfl rfl rfl rfl (by decide) (Yd.lenO (p := 0) rfl rfl Try.underlying23 (.t rfl)) ?_
            refine W.q rfl rfl rfl rfl (by decide) (Yd.mv rfl .c) ?_
            refine W.end ?_
            refine NX.sub (env' := [(6, _), (71, _), (72, _), (10, _), (76, _), (77, _)]) ⟨rfl, rfl, rfl, rfl, rfl, rfl, trivial⟩ ?_
            refine NX.then ?_
            refine Tr.join (S := fun env x => ∃ l66 : List (BitVec 32), ∃ v67 : Value, env = [(6, v67), (71, .int .i64 ((l20.length : Int))), (72, .int .i64 t_56)] ∧ x = ⟨m, hownT 29 1 encU v67 l66 :: l⟩ ∧ order_Table_k68 nx58 l66 = some r) ?_ (fun hk69 => ?_)
            · rintro _ _ ⟨l66, v67, rfl, rfl, hr⟩
              unfold order_Table_k68 at hr
              try dsimp only at hr
              refine NX.block ?_
              refine NX.then ?_
              refine Tr.region_f (fun _ => false) ?_
              refine W.q rfl rfl rfl rfl (by decide) (Yd.add rfl (.t rfl) .c) ?_
              refine W.q rfl rfl rfl rfl (by decide) (Yd.mv rfl (.t rfl)) ?_
              refine W.end ?_
              refine NX.sub (env' := [(6, _), (71, _), (72, _)]) ⟨rfl, rfl, rfl, trivial⟩ ?_
              refine NX.sub (env' := [(6, _), (71, _), (72, _)]) ⟨rfl, rfl, rfl, trivial⟩ ?_
              have hw := w64_id (n := t_56 + 1) (by omega) (by omega)
              exact NX.again n59 (t_56 + 1, l66) (Nat.lt_succ_self _) ⟨_, (by rw [hw] <;> rfl), rfl, (fr_dec hnt_56), (by omega), ((hnx58 _).symm.trans hr)⟩
            refine Tr.lenO (pos := 0) rfl (fun hlen70 => ?_)
            refine Tr.block ?_
            refine Tr.sub (env' := [(6, _), (10, _), (71, _), (72, _), (76, _), (77, _)]) ⟨rfl, rfl, rfl, rfl, rfl, rfl, trivial⟩ ?_
            refine Tr.loop (S := fun n (z : Int × (List (BitVec 32))) env x => match z with | (t_71, l64) => ∃ v65 : Value, env = [(6, v65), (10, .int .i64 t_56), (71, .int .i64 ((l20.length : Int))), (72, .int .i64 t_56), (76, .int .i64 ((l28.length : Int))), (77, .int .i64 t_71)] ∧ x = ⟨m, hownT 29 1 encU v65 l64 :: l⟩ ∧ n = ((l28.length : Int) - t_71).toNat ∧ 0 ≤ t_71 ∧ forK (σ := (List (BitVec 32))) (fun i s nx_ => order_Table_b72 t_56 i s nx_) (fun s => order_Table_k68 nx58 s) n t_71 l64 = some r) _ ((0 : Int), l28) ⟨_, rfl, rfl, rfl, (by omega), hr⟩ ?_
            rintro n74 ⟨t_71, l64⟩ env x ⟨v65, rfl, rfl, hnt_71, h0t_71, hr⟩
            cases n74 with
            | zero =>
              simp only [forK] at hr
              refine Tr.seq ?_
              refine Tr.region_f (fun _ => false) ?_
              refine W.q rfl rfl rfl rfl (by decide) (Yd.lss rfl (.t rfl) (.t rfl)) ?_
              refine W.end ?_
              refine NX.sub (env' := [(6, _), (10, _), (71, _), (72, _), (76, _), (77, _), (78, _)]) ⟨rfl, rfl, rfl, rfl, rfl, rfl, rfl, trivial⟩ ?_
              refine NX.then ?_
              refine Tr.seq ?_
              refine Tr.cond (.t rfl) (fun hb => ?_) (fun hb => ?_)
              · exact absurd (hb.symm.trans (fr_end hnt_71)) (by decide)
              ·
                refine Tr.exit' (EX.then (EX.then (EX.block ?_)))
                refine NX.sub (env' := [(6, _), (71, _), (72, _)]) ⟨rfl, rfl, rfl, trivial⟩ ?_
                exact hk69 _ _ ⟨_, _, rfl, rfl, hr⟩
            | succ n74 =>
              obtain ⟨nx73, hnx73, hr⟩ := forK_succ hr
              try dsimp only at hr
              unfold order_Table_b72 at hr
              try dsimp only at hr
              have hltt_71 := fr_bnd hnt_71
              refine Tr.seq ?_
              refine Tr.region_f (fun _ => false) ?_
              refine W.q rfl rfl rfl rfl (by decide) (Yd.lss rfl (.t rfl) (.t rfl)) ?_
              refine W.end ?_
              refine NX.sub (env' := [(6, _), (10, _), (71, _), (72, _), (76, _), (77, _), (78, _)]) ⟨rfl, rfl, rfl, rfl, rfl, rfl, rfl, trivial⟩ ?_
              refine NX.then ?_
              refine Tr.seq ?_
              refine Tr.cond (.t rfl) (fun hb => ?_) (fun hb => ?_)
              rotate_left
              · exact absurd (hb.symm.trans (fr_go hnt_71)) (by decide)
              ·
                refine Tr.skip' ?_
                refine NX.then ?_
                refine Tr.seq ?_
                refine Tr.block ?_
                refine Tr.seq ?_
                refine Tr.region_f (fun _ => false) ?_
                refine W.q rfl rfl rfl rfl (by decide) (Yd.mv rfl (.t rfl)) ?_
                refine W.q rfl rfl rfl rfl (by decide) (Yd.as rfl (.t rfl)) ?_
                refine W.end ?_
                refine NX.sub (env' := [(6, _), (10, _), (71, _), (72, _), (76, _), (77, _), (11, _)]) ⟨rfl, rfl, rfl, rfl, rfl, rfl, rfl, trivial⟩ ?_
                refine NX.then ?_
                refine Tr.seq ?_
                obtain ⟨y75, hy76, hr⟩ := bind_some hr
                refine Tr.region_f (fun _ => false) ?_
                refine W.q rfl rfl rfl rfl (by decide) (Yd.mv rfl (.t rfl)) ?_
                refine W.q rfl rfl rfl rfl (by decide) (Yd.mv rfl (.t rfl)) ?_
                refine W.q rfl rfl rfl rfl (by decide) (Yd.idxT (pos := 0) rfl hy76 rfl Try.underlying23 SZ29 (.t rfl) (.t rfl)) ?_
                refine W.q rfl rfl rfl rfl (by decide) (Yd.ldT (enc := encU) (n := 1) (pos := 0) (fun _ => rfl) rfl hy76 rfl rfl ON29 (.t rfl)) ?_
                refine W.q rfl rfl rfl rfl (by decide) (Yd.mv rfl (.t rfl)) ?_
                refine W.q rfl rfl rfl rfl (by decide) (Yd.shrU (a := y75) rfl (.t rfl) (.t rfl) h0t_56) ?_
                refine W.q rfl rfl rfl rfl (by decide) (Yd.andU (a := (y75 >>> t_56.toNat)) (b := 1#32) rfl (.t rfl) .c) ?_
                refine W.q rfl rfl rfl rfl (by decide) (Yd.eqlU (a := ((y75 >>> t_56.toNat) &&& 1#32)) (b := 1#32) rfl (.t rfl) .c) ?_
                refine W.end ?_
                refine NX.sub (env' := [(6, _), (10, _), (71, _), (72, _), (76, _), (77, _), (11, _), (87, _)]) ⟨rfl, rfl, rfl, rfl, rfl, rfl, rfl, rfl, trivial⟩ ?_
                refine NX.then ?_
                refine Tr.cond (.t rfl) (fun hb => ?_) (fun hb => ?_)
                · have hr := cond_t hb hr
                  obtain ⟨y77, hy78, hr⟩ := bind_some hr
                  obtain ⟨y79, hy80, hr⟩ := bind_some hr
                  refine Tr.region_x (fun i => Nat.beq i 10) (fun i => Nat.beq i 10) (Ord.of [0, 1, 2, 3, 4, 5, 6, 7, 8, 9, 10]) FM (by kernel_rfl) ?_
                  refine W.q rfl rfl rfl rfl (by decide) (Yd.mv rfl (.t rfl)) ?_
                  refine W.q rfl rfl rfl rfl (by decide) (Yd.mv rfl (.t rfl)) ?_
                  refine W.q rfl rfl rfl rfl (by decide) (Yd.idxT (pos := 0) rfl hy78 rfl Try.underlying23 SZ29 (.t rfl) (.t rfl)) ?_
                  refine W.q rfl rfl rfl rfl (by decide) (Yd.ldT (enc := encU) (n := 1) (pos := 0) (fun _ => rfl) rfl hy78 rfl rfl ON29 (.t rfl)) ?_
                  refine W.q rfl rfl rfl rfl (by decide) (Yd.mv rfl (.t rfl)) ?_
                  refine W.q rfl rfl rfl rfl (by decide) (Yd.mv rfl (.t rfl)) ?_
                  refine W.q rfl rfl rfl rfl (by decide) (Yd.idxT (pos := 0) rfl hy80 rfl Try.underlying23 SZ29 (.t rfl) (.t rfl)) ?_
                  refine W.q rfl rfl rfl rfl (by decide) (Yd.ldT (enc := encU) (n := 1) (pos := 0) (fun _ => rfl) rfl hy80 rfl rfl ON29 (.t rfl)) ?_
                  refine W.q rfl rfl rfl rfl (by decide) (Yd.orU (a := y77) (b := y79) rfl (.t rfl) (.t rfl)) ?_
                  refine W.q rfl rfl rfl rfl (by decide) (Yd.idxT (pos := 0) rfl hy78 rfl Try.underlying23 SZ29 (.t rfl) (.t rfl)) ?_
                  refine W.s rfl rfl rfl rfl (Ef.stT (enc := encU) (n := 1) (pos := 0) (y := (y77 ||| y79)) (us := [_]) (fun _ => rfl) rfl hy78 rfl (.t rfl) (.t rfl) SZ29 rfl rfl rfl (by decide)) ?_
                  rintro _ _ ⟨rfl, rfl⟩
                  refine ⟨.inl rfl, ?_⟩
                  refine W.cast (m' := m) (l' := hownT 29 1 encU v65 _ :: l) rfl rfl ?_
                  refine W.end ?_
                  refine NX.sub (env' := [(6, _), (10, _), (71, _), (72, _), (76, _), (77, _)]) ⟨rfl, rfl, rfl, rfl, rfl, rfl, trivial⟩ ?_
                  refine NX.block ?_
                  refine NX.then ?_
                  refine Tr.region_f (fun _ => false) ?_
                  refine W.q rfl rfl rfl rfl (by decide) (Yd.add rfl (.t rfl) .c) ?_
                  refine W.q rfl rfl rfl rfl (by decide) (Yd.mv rfl (.t rfl)) ?_
                  refine W.end ?_
                  refine NX.sub (env' := [(6, _), (10, _), (71, _), (72, _), (76, _), (77, _)]) ⟨rfl, rfl, rfl, rfl, rfl, rfl, trivial⟩ ?_
                  refine NX.sub (env' := [(6, _), (10, _), (71, _), (72, _), (76, _), (77, _)]) ⟨rfl, rfl, rfl, rfl, rfl, rfl, trivial⟩ ?_
                  have hw := w64_id (n := t_71 + 1) (by omega) (by omega)
                  exact NX.again n74 (t_71 + 1, (l64.set t_71.toNat ((y77 ||| y79)))) (Nat.lt_succ_self _) ⟨_, (by rw [hw] <;> rfl), rfl, (fr_dec hnt_71), (by omega), ((hnx73 _).symm.trans hr)⟩
                · have hr := cond_f hb hr
                  refine Tr.skip' ?_
                  refine NX.block ?_
                  refine NX.then ?_
                  refine Tr.region_f (fun _ => false) ?_
                  refine W.q rfl rfl rfl rfl (by decide) (Yd.add rfl (.t rfl) .c) ?_
                  refine W.q rfl rfl rfl rfl (by decide) (Yd.mv rfl (.t rfl)) ?_
                  refine W.end ?_
                  refine NX.sub (env' := [(6, _), (10, _), (71, _), (72, _), (76, _), (77, _)]) ⟨rfl, rfl, rfl, rfl, rfl, rfl, trivial⟩ ?_
                  refine NX.sub (env' := [(6, _), (10, _), (71, _), (72, _), (76, _), (77, _)]) ⟨rfl, rfl, rfl, rfl, rfl, rfl, trivial⟩ ?_
                  have hw := w64_id (n := t_71 + 1) (by omega) (by omega)
                  exact NX.again n74 (t_71 + 1, l64) (Nat.lt_succ_self _) ⟨_, (by rw [hw] <;> rfl), rfl, (fr_dec hnt_71), (by omega), ((hnx73 _).symm.trans hr)⟩
      have hlen81 := (hpairs_1).2.1
      refine Tr.block ?_
      refine Tr.sub (env' := [(0, _), (6, _), (38, _), (39, _), (40, _)]) ⟨rfl, rfl, rfl, rfl, rfl, trivial⟩ ?_
      refine Tr.loop (S := fun n (z : Int × (List (BitVec 32))) env x => match z with | (t_82, l18) => ∃ v19 : Value, env = [(0, .int .i64 n_0), (6, v19), (38, upairs_1), (39, .int .i64 ((pairs_1.length : Int))), (40, .int .i64 t_82)] ∧ x = ⟨m, hownT 29 1 encU v19 l18 :: l⟩ ∧ n = ((pairs_1.length : Int) - t_82).toNat ∧ 0 ≤ t_82 ∧ forK (σ := (List (BitVec 32))) (fun i s nx_ => order_Table_b83 n_0 pairs_1 i s nx_) (fun s => order_Table_k22 s) n t_82 l18 = some r) _ ((0 : Int), l10) ⟨_, rfl, rfl, rfl, (by omega), hr⟩ ?_
      rintro n85 ⟨t_82, l18⟩ env x ⟨v19, rfl, rfl, hnt_82, h0t_82, hr⟩
      cases n85 with
      | zero =>
        simp only [forK] at hr
        refine Tr.seq ?_
        refine Tr.region_f (fun _ => false) ?_
        refine W.q rfl rfl rfl rfl (by decide) (Yd.lss rfl (.t rfl) (.t rfl)) ?_
        refine W.end ?_
        refine NX.sub (env' := [(0, _), (6, _), (38, _), (39, _), (40, _), (41, _)]) ⟨rfl, rfl, rfl, rfl, rfl, rfl, trivial⟩ ?_
        refine NX.then ?_
        refine Tr.seq ?_
        refine Tr.cond (.t rfl) (fun hb => ?_) (fun hb => ?_)
        · exact absurd (hb.symm.trans (fr_end hnt_82)) (by decide)
        ·
          refine Tr.exit' (EX.then (EX.then (EX.block ?_)))
          refine NX.sub (env' := [(6, _)]) ⟨rfl, trivial⟩ ?_
          exact hk23 _ _ ⟨_, _, rfl, rfl, hr⟩
      | succ n85 =>
        obtain ⟨nx84, hnx84, hr⟩ := forK_succ hr
        try dsimp only at hr
        unfold order_Table_b83 at hr
        try dsimp only at hr
        have hltt_82 := fr_bnd hnt_82
        refine Tr.seq ?_
        refine Tr.region_f (fun _ => false) ?_
        refine W.q rfl rfl rfl rfl (by decide) (Yd.lss rfl (.t rfl) (.t rfl)) ?_
        refine W.end ?_
        refine NX.sub (env' := [(0, _), (6, _), (38, _), (39, _), (40, _), (41, _)]) ⟨rfl, rfl, rfl, rfl, rfl, rfl, trivial⟩ ?_
        refine NX.then ?_
        refine Tr.seq ?_
        refine Tr.cond (.t rfl) (fun hb => ?_) (fun hb => ?_)
        rotate_left
        · exact absurd (hb.symm.trans (fr_go hnt_82)) (by decide)
        ·
          refine Tr.skip' ?_
          refine NX.then ?_
          refine Tr.seq ?_
          refine Tr.block ?_
          refine Tr.seq ?_
          obtain ⟨y86, hy87, hr⟩ := bind_some hr
          refine Tr.region_f (fun i => Nat.beq i 2 || Nat.beq i 3) ?_
          refine W.q rfl rfl rfl rfl (by decide) (Yd.idxR hpairs_1 hy87 rfl Try.underlying22 SZ35 (.t rfl) (.t rfl)) ?_
          refine W.q rfl rfl rfl rfl (by decide) (Yd.ldFs (us := [_, _]) hpairs_1 (.refl _) hy87 rfl rfl ON35 US35 SZ35 (.t rfl)) ?_
          refine W.e rfl rfl rfl rfl (by decide) (Ef.al rfl ZR35 rfl) ?_
          rintro _ _ ⟨b88, rfl, rfl⟩
          refine ⟨.inl rfl, ?_⟩
          refine W.cast (m' := m) (l' := hcells b88 [_, _] 35 :: hownT 29 1 encU v19 _ :: l) rfl rfl ?_
          refine W.s rfl rfl rfl rfl (Ef.stB (pos := 0) (us := [_, _]) (cs' := [_, _]) rfl rfl (.t rfl) (.t rfl) SZ35 rfl rfl rfl (Nat.le_of_ble_eq_true rfl) rfl) ?_
          rintro _ _ ⟨rfl, rfl⟩
          refine ⟨.inl rfl, ?_⟩
          refine W.cast (m' := m) (l' := hcells b88 [_, _] 35 :: hownT 29 1 encU v19 _ :: l) rfl rfl ?_
          refine W.end ?_
          refine NX.sub (env' := [(0, _), (6, _), (38, _), (39, _), (40, _), (9, _)]) ⟨rfl, rfl, rfl, rfl, rfl, rfl, trivial⟩ ?_
          refine NX.then ?_
          refine Tr.seq ?_
          refine Tr.seq ?_
          refine Tr.region_f (fun _ => false) ?_
          refine W.q rfl rfl rfl rfl (by decide) (Yd.arrB rfl Try.underlying35 SZ3 (by decide) (by decide) (.t rfl) .c) ?_
          refine W.q rfl rfl rfl rfl (by decide) (Yd.ldB (pos := 0) rfl rfl rfl ON3 (.t rfl)) ?_
          refine W.q rfl rfl rfl rfl (by decide) (Yd.arrB rfl Try.underlying35 SZ3 (by decide) (by decide) (.t rfl) .c) ?_
          refine W.q rfl rfl rfl rfl (by decide) (Yd.ldB (pos := 0) rfl rfl rfl ON3 (.t rfl)) ?_
          refine W.q rfl rfl rfl rfl (by decide) (Yd.min2 rfl (.t rfl) (.t rfl)) ?_
          refine W.q rfl rfl rfl rfl (by decide) (Yd.lss rfl (.t rfl) .c) ?_
          refine W.q rfl rfl rfl rfl (by decide) (Yd.mv rfl (.t rfl)) ?_
          refine W.g rfl rfl rfl rfl rfl (.t rfl _) rfl (by decide) (fun hG => Yd.arrB rfl Try.underlying35 SZ3 (by decide) (by decide) (.t rfl) .c) ?_
          refine W.g rfl rfl rfl rfl rfl (.t rfl _) rfl (by decide) (fun hG => Yd.ldB (pos := 0) rfl rfl rfl ON3 (.g rfl hG)) ?_
          refine W.g rfl rfl rfl rfl rfl (.t rfl _) rfl (by decide) (fun hG => Yd.arrB rfl Try.underlying35 SZ3 (by decide) (by decide) (.t rfl) .c) ?_
          refine W.g rfl rfl rfl rfl rfl (.t rfl _) rfl (by decide) (fun hG => Yd.ldB (pos := 0) rfl rfl rfl ON3 (.g rfl hG)) ?_
          refine W.g rfl rfl rfl rfl rfl (.t rfl _) rfl (by decide) (fun hG => Yd.max2 rfl (.g rfl hG) (.g rfl hG)) ?_
          refine W.g rfl rfl rfl rfl rfl (.t rfl _) rfl (by decide) (fun hG => Yd.mv rfl (.t rfl)) ?_
          refine W.g rfl rfl rfl rfl rfl (.t rfl _) rfl (by decide) (fun hG => Yd.geq rfl (.g rfl hG) (.g rfl hG)) ?_
          refine W.q rfl rfl rfl rfl (by decide) (Yd.or rfl (.t rfl) .c rfl rfl) ?_
          refine W.end ?_
          refine NX.sub (env' := [(0, _), (6, _), (38, _), (39, _), (40, _), (9, _), (58, _)]) ⟨rfl, rfl, rfl, rfl, rfl, rfl, rfl, trivial⟩ ?_
          refine NX.then ?_
          refine Tr.cond (.t rfl) (fun hb => ?_) (fun hb => ?_)
          · have hr := cond_t hb hr
            refine Tr.seq ?_
            refine Tr.region_f (fun _ => false) ?_
            refine W.q rfl rfl rfl rfl (by decide) (Yd.as rfl .c) ?_
            refine W.q rfl rfl rfl rfl (by decide) (Yd.as rfl .c) ?_
            refine W.end ?_
            refine NX.sub (env' := [(4, _), (5, _)]) ⟨rfl, rfl, trivial⟩ ?_
            refine NX.drop (l' := l) (.cons _ (.cons _ (.refl _))) ?_
            refine NX.then ?_
            refine Tr.ret' (RT.then (RT.block (RT.then (RT.then (RT.block (RT.then ?_))))))
            refine res2 rfl rfl rfl ?_
            intro w hc
            cases hr
            exact ⟨_, rfl, (cX_nil hc)⟩
          · have hr := cond_f hb hr
            refine Tr.skip' ?_
            refine NX.then ?_
            obtain ⟨y90, hy91, hr⟩ := bind_some hr
            obtain ⟨hq92, hr⟩ := guard_some hr; replace hq92 := of_decide_eq_true hq92
            refine Tr.region_x (fun i => Nat.beq i 10) (fun i => Nat.beq i 10) (Ord.of [0, 1, 2, 3, 4, 5, 6, 7, 8, 9, 10]) FM (by kernel_rfl) ?_
            refine W.q rfl rfl rfl rfl (by decide) (Yd.mv rfl (.t rfl)) ?_
            refine W.q rfl rfl rfl rfl (by decide) (Yd.arrB rfl Try.underlying35 SZ3 (by decide) (by decide) (.t rfl) .c) ?_
            refine W.q rfl rfl rfl rfl (by decide) (Yd.ldB (pos := 0) rfl rfl rfl ON3 (.t rfl)) ?_
            refine W.q rfl rfl rfl rfl (by decide) (Yd.idxT (pos := 1) rfl hy91 rfl Try.underlying23 SZ29 (.t rfl) (.t rfl)) ?_
            refine W.q rfl rfl rfl rfl (by decide) (Yd.ldT (enc := encU) (n := 1) (pos := 1) (fun _ => rfl) rfl hy91 rfl rfl ON29 (.t rfl)) ?_
            refine W.q rfl rfl rfl rfl (by decide) (Yd.arrB rfl Try.underlying35 SZ3 (by decide) (by decide) (.t rfl) .c) ?_
            refine W.q rfl rfl rfl rfl (by decide) (Yd.ldB (pos := 0) rfl rfl rfl ON3 (.t rfl)) ?_
            refine W.q rfl rfl rfl rfl (by decide) (Yd.shlU (a := 1#32) rfl .c (.t rfl) hq92) ?_
            refine W.q rfl rfl rfl rfl (by decide) (Yd.orU (a := y90) (b := (1#32 <<< y86.2.toNat)) rfl (.t rfl) (.t rfl)) ?_
            refine W.q rfl rfl rfl rfl (by decide) (Yd.idxT (pos := 1) rfl hy91 rfl Try.underlying23 SZ29 (.t rfl) (.t rfl)) ?_
            refine W.s rfl rfl rfl rfl (Ef.stT (enc := encU) (n := 1) (pos := 1) (y := (y90 ||| (1#32 <<< y86.2.toNat))) (us := [_]) (fun _ => rfl) rfl hy91 rfl (.t rfl) (.t rfl) SZ29 rfl rfl rfl (by decide)) ?_
            rintro _ _ ⟨rfl, rfl⟩
            refine ⟨.inl rfl, ?_⟩
            refine W.cast (m' := m) (l' := hcells b88 [_, _] 35 :: hownT 29 1 encU v19 _ :: l) rfl rfl ?_
            refine W.end ?_
            refine NX.sub (env' := [(0, _), (6, _), (38, _), (39, _), (40, _)]) ⟨rfl, rfl, rfl, rfl, rfl, trivial⟩ ?_
            refine NX.drop (l' := hownT 29 1 encU v19 _ :: l) (.cons _ (.cons_cons _ (.refl _))) ?_
            refine NX.block ?_
            refine NX.then ?_
            refine Tr.region_f (fun _ => false) ?_
            refine W.q rfl rfl rfl rfl (by decide) (Yd.add rfl (.t rfl) .c) ?_
            refine W.q rfl rfl rfl rfl (by decide) (Yd.mv rfl (.t rfl)) ?_
            refine W.end ?_
            refine NX.sub (env' := [(0, _), (6, _), (38, _), (39, _), (40, _)]) ⟨rfl, rfl, rfl, rfl, rfl, trivial⟩ ?_
            refine NX.sub (env' := [(0, _), (6, _), (38, _), (39, _), (40, _)]) ⟨rfl, rfl, rfl, rfl, rfl, trivial⟩ ?_
            have hw := w64_id (n := t_82 + 1) (by omega) (by omega)
            exact NX.again n85 (t_82 + 1, (l18.set y86.1.toNat ((y90 ||| (1#32 <<< y86.2.toNat))))) (Nat.lt_succ_self _) ⟨_, (by rw [hw] <;> rfl), rfl, (fr_dec hnt_82), (by omega), ((hnx84 _).symm.trans hr)⟩
    refine Tr.lenO (pos := 0) rfl (fun hlen93 => ?_)
    refine Tr.block ?_
    refine Tr.sub (env' := [(0, _), (1, _), (6, _), (28, _), (29, _)]) ⟨rfl, rfl, rfl, rfl, rfl, trivial⟩ ?_
    refine Tr.loop (S := fun n (z : Int × (List (BitVec 32))) env x => match z with | (t_94, l8) => ∃ v9 : Value, env = [(0, .int .i64 n_0), (1, upairs_1), (6, v9), (28, .int .i64 ((((List.replicate n_0.toNat (0#32))).length : Int))), (29, .int .i64 t_94)] ∧ x = ⟨m, hownT 29 1 encU v9 l8 :: l⟩ ∧ n = ((((List.replicate n_0.toNat (0#32))).length : Int) - t_94).toNat ∧ 0 ≤ t_94 ∧ forK (σ := (List (BitVec 32))) (fun i s nx_ => order_Table_b95 i s nx_) (fun s => order_Table_k12 n_0 pairs_1 s) n t_94 l8 = some r) _ ((0 : Int), (List.replicate n_0.toNat (0#32))) ⟨_, rfl, rfl, rfl, (by omega), hr⟩ ?_
    rintro n97 ⟨t_94, l8⟩ env x ⟨v9, rfl, rfl, hnt_94, h0t_94, hr⟩
    cases n97 with
    | zero =>
      simp only [forK] at hr
      refine Tr.seq ?_
      refine Tr.region_f (fun _ => false) ?_
      refine W.q rfl rfl rfl rfl (by decide) (Yd.lss rfl (.t rfl) (.t rfl)) ?_
      refine W.end ?_
      refine NX.sub (env' := [(0, _), (1, _), (6, _), (28, _), (29, _), (30, _)]) ⟨rfl, rfl, rfl, rfl, rfl, rfl, trivial⟩ ?_
      refine NX.then ?_
      refine Tr.seq ?_
      refine Tr.cond (.t rfl) (fun hb => ?_) (fun hb => ?_)
      · exact absurd (hb.symm.trans (fr_end hnt_94)) (by decide)
      ·
        refine Tr.exit' (EX.then (EX.then (EX.block ?_)))
        refine NX.sub (env' := [(0, _), (1, _), (6, _)]) ⟨rfl, rfl, rfl, trivial⟩ ?_
        exact hk13 _ _ ⟨_, _, rfl, rfl, hr⟩
    | succ n97 =>
      obtain ⟨nx96, hnx96, hr⟩ := forK_succ hr
      try dsimp only at hr
      unfold order_Table_b95 at hr
      try dsimp only at hr
      have hltt_94 := fr_bnd hnt_94
      refine Tr.seq ?_
      refine Tr.region_f (fun _ => false) ?_
      refine W.q rfl rfl rfl rfl (by decide) (Yd.lss rfl (.t rfl) (.t rfl)) ?_
      refine W.end ?_
      refine NX.sub (env' := [(0, _), (1, _), (6, _), (28, _), (29, _), (30, _)]) ⟨rfl, rfl, rfl, rfl, rfl, rfl, trivial⟩ ?_
      refine NX.then ?_
      refine Tr.seq ?_
      refine Tr.cond (.t rfl) (fun hb => ?_) (fun hb => ?_)
      rotate_left
      · exact absurd (hb.symm.trans (fr_go hnt_94)) (by decide)
      ·
        refine Tr.skip' ?_
        refine NX.then ?_
        refine Tr.seq ?_
        refine Tr.block ?_
        refine Tr.seq ?_
        refine Tr.region_f (fun _ => false) ?_
        refine W.q rfl rfl rfl rfl (by decide) (Yd.mv rfl (.t rfl)) ?_
        refine W.q rfl rfl rfl rfl (by decide) (Yd.as rfl (.t rfl)) ?_
        refine W.end ?_
        refine NX.sub (env' := [(0, _), (1, _), (6, _), (28, _), (29, _), (7, _)]) ⟨rfl, rfl, rfl, rfl, rfl, rfl, trivial⟩ ?_
        refine NX.then ?_
        obtain ⟨y98, hy99, hr⟩ := bind_some hr
        refine Tr.region_f (fun i => Nat.beq i 5) ?_
        refine W.q rfl rfl rfl rfl (by decide) (Yd.mv rfl (.t rfl)) ?_
        refine W.q rfl rfl rfl rfl (by decide) (Yd.mv rfl (.t rfl)) ?_
        refine W.q rfl rfl rfl rfl (by decide) (Yd.mv rfl (.t rfl)) ?_
        refine W.q rfl rfl rfl rfl (by decide) (Yd.shlU (a := 1#32) rfl .c (.t rfl) h0t_94) ?_
        refine W.q rfl rfl rfl rfl (by decide) (Yd.idxT (pos := 0) rfl hy99 rfl Try.underlying23 SZ29 (.t rfl) (.t rfl)) ?_
        refine W.s rfl rfl rfl rfl (Ef.stT (enc := encU) (n := 1) (pos := 0) (y := (1#32 <<< t_94.toNat)) (us := [_]) (fun _ => rfl) rfl hy99 rfl (.t rfl) (.t rfl) SZ29 rfl rfl rfl (by decide)) ?_
        rintro _ _ ⟨rfl, rfl⟩
        refine ⟨.inl rfl, ?_⟩
        refine W.cast (m' := m) (l' := hownT 29 1 encU v9 _ :: l) rfl rfl ?_
        refine W.end ?_
        refine NX.sub (env' := [(0, _), (1, _), (6, _), (28, _), (29, _)]) ⟨rfl, rfl, rfl, rfl, rfl, trivial⟩ ?_
        refine NX.block ?_
        refine NX.then ?_
        refine Tr.region_f (fun _ => false) ?_
        refine W.q rfl rfl rfl rfl (by decide) (Yd.add rfl (.t rfl) .c) ?_
        refine W.q rfl rfl rfl rfl (by decide) (Yd.mv rfl (.t rfl)) ?_
        refine W.end ?_
        refine NX.sub (env' := [(0, _), (1, _), (6, _), (28, _), (29, _)]) ⟨rfl, rfl, rfl, rfl, rfl, trivial⟩ ?_
        refine NX.sub (env' := [(0, _), (1, _), (6, _), (28, _), (29, _)]) ⟨rfl, rfl, rfl, rfl, rfl, trivial⟩ ?_
        have hw := w64_id (n := t_94 + 1) (by omega) (by omega)
        exact NX.again n97 (t_94 + 1, (l8.set t_94.toNat ((1#32 <<< t_94.toNat)))) (Nat.lt_succ_self _) ⟨_, (by rw [hw] <;> rfl), rfl, (fr_dec hnt_94), (by omega), ((hnx96 _).symm.trans hr)⟩

def lattice_least_k3 : Option (Int) :=
  some ((-1 : Int))

def lattice_least_b7 (up_0 : List (BitVec 32)) (s_1 : (BitVec 32)) (t_6 : Int) (nx8 : Unit → Option (Int)) : Option (Int) :=
  (geti up_0 t_6).bind fun y10 =>
  (bif ((((s_1 >>> t_6.toNat) &&& 1#32) == 1#32) && ((s_1 &&& ~~~y10) == 0#32)) then
  some t_6
  else
  nx8 ())

def lattice_least (up_0 : List (BitVec 32)) (s_1 : (BitVec 32)) : Option (Int) :=
  forK (σ := Unit) (fun i s nx_ => lattice_least_b7 up_0 s_1 i nx_) (fun _ => lattice_least_k3) ((up_0.length : Int) - (0 : Int)).toNat (0 : Int) ()

set_option maxRecDepth 100000 in
theorem lattice_least_ok (w0 : World) (m : Snap) (l : List HI) (uup_0 : Value) (up_0 : List (BitVec 32)) (hup_0 : RS rU m uup_0 up_0) (s_1 : (BitVec 32)) (r : Int) (hr : lattice_least up_0 s_1 = some r) (w : World) (hc : cX w0 ⟨m, l⟩ w) :
    Calls Try.prog 59 [uup_0, .int .u32 (s_1.toNat : Int)].toArray w fun e w' => e = .returned (.int .i64 r) ∧ cX w0 ⟨m, l⟩ w' := by
  unfold lattice_least at hr
  refine calls_of_Tr (N := 27) Try.func59 rfl hc rfl (Nat.le_of_ble_eq_true rfl) ?_
  refine Tr.seq ?_
  refine Tr.region_f (fun _ => false) ?_
  refine W.q rfl rfl rfl rfl (by decide) (Yd.as rfl .c) ?_
  refine W.end ?_
  refine NX.sub (env' := [(0, _), (1, _)]) ⟨rfl, rfl, trivial⟩ ?_
  refine NX.then ?_
  refine Tr.seq ?_
  refine Tr.seq ?_
  refine Tr.region_f (fun _ => false) ?_
  refine W.q rfl rfl rfl rfl (by decide) (Yd.mv rfl (.t rfl)) ?_
  refine W.q rfl rfl rfl rfl (by decide) (Yd.lenR hup_0 rfl Try.underlying23 (.t rfl)) ?_
  refine W.q rfl rfl rfl rfl (by decide) (Yd.mv rfl .c) ?_
  refine W.end ?_
  refine NX.sub (env' := [(1, _), (7, _), (8, _), (9, _)]) ⟨rfl, rfl, rfl, rfl, trivial⟩ ?_
  refine NX.then ?_
  refine Tr.join (S := fun env x => env = [] ∧ x = ⟨m, l⟩ ∧ lattice_least_k3 = some r) ?_ (fun hk4 => ?_)
  · rintro _ _ ⟨rfl, rfl, hr⟩
    unfold lattice_least_k3 at hr
    try dsimp only at hr
    refine NX.then ?_
    refine Tr.seq ?_
    refine Tr.region_f (fun _ => false) ?_
    refine W.q rfl rfl rfl rfl (by decide) (Yd.as rfl .c) ?_
    refine W.end ?_
    refine NX.sub (env' := [(4, _)]) ⟨rfl, trivial⟩ ?_
    refine NX.then ?_
    refine Tr.ret' ?_
    refine res1 rfl rfl ?_
    intro w hc
    cases hr
    exact ⟨rfl, hc⟩
  have hlen5 := (hup_0).2.1
  refine Tr.block ?_
  refine Tr.sub (env' := [(1, _), (7, _), (8, _), (9, _)]) ⟨rfl, rfl, rfl, rfl, trivial⟩ ?_
  refine Tr.loop (S := fun n (z : Int × Unit) env x => match z with | (t_6, _) => env = [(1, .int .u32 (s_1.toNat : Int)), (7, uup_0), (8, .int .i64 ((up_0.length : Int))), (9, .int .i64 t_6)] ∧ x = ⟨m, l⟩ ∧ n = ((up_0.length : Int) - t_6).toNat ∧ 0 ≤ t_6 ∧ forK (σ := Unit) (fun i s nx_ => lattice_least_b7 up_0 s_1 i nx_) (fun _ => lattice_least_k3) n t_6 () = some r) _ ((0 : Int), ()) ⟨rfl, rfl, rfl, (by omega), hr⟩ ?_
  rintro n9 ⟨t_6, _⟩ env x ⟨rfl, rfl, hnt_6, h0t_6, hr⟩
  cases n9 with
  | zero =>
    simp only [forK] at hr
    refine Tr.seq ?_
    refine Tr.region_f (fun _ => false) ?_
    refine W.q rfl rfl rfl rfl (by decide) (Yd.lss rfl (.t rfl) (.t rfl)) ?_
    refine W.end ?_
    refine NX.sub (env' := [(1, _), (7, _), (8, _), (9, _), (10, _)]) ⟨rfl, rfl, rfl, rfl, rfl, trivial⟩ ?_
    refine NX.then ?_
    refine Tr.seq ?_
    refine Tr.cond (.t rfl) (fun hb => ?_) (fun hb => ?_)
    · exact absurd (hb.symm.trans (fr_end hnt_6)) (by decide)
    ·
      refine Tr.exit' (EX.then (EX.then (EX.block ?_)))
      refine NX.sub (env' := []) trivial ?_
      exact hk4 _ _ ⟨rfl, rfl, hr⟩
  | succ n9 =>
    obtain ⟨nx8, hnx8, hr⟩ := forK_succ hr
    try dsimp only at hr
    unfold lattice_least_b7 at hr
    try dsimp only at hr
    have hltt_6 := fr_bnd hnt_6
    refine Tr.seq ?_
    refine Tr.region_f (fun _ => false) ?_
    refine W.q rfl rfl rfl rfl (by decide) (Yd.lss rfl (.t rfl) (.t rfl)) ?_
    refine W.end ?_
    refine NX.sub (env' := [(1, _), (7, _), (8, _), (9, _), (10, _)]) ⟨rfl, rfl, rfl, rfl, rfl, trivial⟩ ?_
    refine NX.then ?_
    refine Tr.seq ?_
    refine Tr.cond (.t rfl) (fun hb => ?_) (fun hb => ?_)
    rotate_left
    · exact absurd (hb.symm.trans (fr_go hnt_6)) (by decide)
    ·
      refine Tr.skip' ?_
      refine NX.then ?_
      refine Tr.seq ?_
      refine Tr.block ?_
      refine Tr.seq ?_
      obtain ⟨y10, hy11, hr⟩ := bind_some hr
      refine Tr.region_f (fun _ => false) ?_
      refine W.q rfl rfl rfl rfl (by decide) (Yd.mv rfl (.t rfl)) ?_
      refine W.q rfl rfl rfl rfl (by decide) (Yd.idxR hup_0 hy11 rfl Try.underlying23 SZ29 (.t rfl) (.t rfl)) ?_
      refine W.q rfl rfl rfl rfl (by decide) (Yd.ldF hup_0 (.refl _) hy11 rfl rfl ON29 (.t rfl)) ?_
      refine W.q rfl rfl rfl rfl (by decide) (Yd.as rfl (.t rfl)) ?_
      refine W.q rfl rfl rfl rfl (by decide) (Yd.as rfl (.t rfl)) ?_
      refine W.end ?_
      refine NX.sub (env' := [(1, _), (7, _), (8, _), (9, _), (5, _), (6, _)]) ⟨rfl, rfl, rfl, rfl, rfl, rfl, trivial⟩ ?_
      refine NX.then ?_
      refine Tr.seq ?_
      refine Tr.region_f (fun _ => false) ?_
      refine W.q rfl rfl rfl rfl (by decide) (Yd.mv rfl (.t rfl)) ?_
      refine W.q rfl rfl rfl rfl (by decide) (Yd.mv rfl (.t rfl)) ?_
      refine W.q rfl rfl rfl rfl (by decide) (Yd.shrU (a := s_1) rfl (.t rfl) (.t rfl) h0t_6) ?_
      refine W.q rfl rfl rfl rfl (by decide) (Yd.andU (a := (s_1 >>> t_6.toNat)) (b := 1#32) rfl (.t rfl) .c) ?_
      refine W.q rfl rfl rfl rfl (by decide) (Yd.eqlU (a := ((s_1 >>> t_6.toNat) &&& 1#32)) (b := 1#32) rfl (.t rfl) .c) ?_
      refine W.q rfl rfl rfl rfl (by decide) (Yd.mv rfl (.t rfl)) ?_
      refine W.g rfl rfl rfl rfl rfl (.t rfl _) rfl (by decide) (fun hG => Yd.mv rfl (.t rfl)) ?_
      refine W.g rfl rfl rfl rfl rfl (.t rfl _) rfl (by decide) (fun hG => Yd.mv rfl (.t rfl)) ?_
      refine W.g rfl rfl rfl rfl rfl (.t rfl _) rfl (by decide) (fun hG => Yd.andnU (a := s_1) (b := y10) rfl (.g rfl hG) (.g rfl hG)) ?_
      refine W.g rfl rfl rfl rfl rfl (.t rfl _) rfl (by decide) (fun hG => Yd.eqlU (a := (s_1 &&& ~~~y10)) (b := 0#32) rfl (.g rfl hG) .c) ?_
      refine W.q rfl rfl rfl rfl (by decide) (Yd.and rfl (.t rfl) .c rfl rfl) ?_
      refine W.end ?_
      refine NX.sub (env' := [(1, _), (7, _), (8, _), (9, _), (5, _), (24, _)]) ⟨rfl, rfl, rfl, rfl, rfl, rfl, trivial⟩ ?_
      refine NX.then ?_
      refine Tr.cond (.t rfl) (fun hb => ?_) (fun hb => ?_)
      · have hr := cond_t hb hr
        refine Tr.seq ?_
        refine Tr.region_f (fun _ => false) ?_
        refine W.q rfl rfl rfl rfl (by decide) (Yd.mv rfl (.t rfl)) ?_
        refine W.q rfl rfl rfl rfl (by decide) (Yd.as rfl (.t rfl)) ?_
        refine W.end ?_
        refine NX.sub (env' := [(4, _)]) ⟨rfl, trivial⟩ ?_
        refine NX.then ?_
        refine Tr.ret' (RT.block (RT.then (RT.then (RT.block (RT.then ?_)))))
        refine res1 rfl rfl ?_
        intro w hc
        cases hr
        exact ⟨rfl, hc⟩
      · have hr := cond_f hb hr
        refine Tr.skip' ?_
        refine NX.block ?_
        refine NX.then ?_
        refine Tr.region_f (fun _ => false) ?_
        refine W.q rfl rfl rfl rfl (by decide) (Yd.add rfl (.t rfl) .c) ?_
        refine W.q rfl rfl rfl rfl (by decide) (Yd.mv rfl (.t rfl)) ?_
        refine W.end ?_
        refine NX.sub (env' := [(1, _), (7, _), (8, _), (9, _)]) ⟨rfl, rfl, rfl, rfl, trivial⟩ ?_
        refine NX.sub (env' := [(1, _), (7, _), (8, _), (9, _)]) ⟨rfl, rfl, rfl, rfl, trivial⟩ ?_
        have hw := w64_id (n := t_6 + 1) (by omega) (by omega)
        exact NX.again n9 (t_6 + 1, ()) (Nat.lt_succ_self _) ⟨(by rw [hw] <;> rfl), rfl, (fr_dec hnt_6), (by omega), ((hnx8 _).symm.trans hr)⟩

def lattice_build_k54 (r1 : (List (BitVec 32)) × Int) (l18 : List (BitVec 32)) (c44 : Bool) (l45 : List (List Int)) (l49 : List (List Int)) : Option ((Option T71) × Int) :=
  some (((some { up := r1.1, down := l18, join := l49, meet := l45, is_ := c44 } : Option T71), (0 : Int)))

def lattice_build_k81 (l35 : List (List Int)) (l39 : List (List Int)) (nx60 : ((Bool × (List (List Int)) × (List (List Int))) → Option ((Option T71) × Int))) (l76 : List Int) (l78 : List Int) (c80 : Bool) : Option ((Option T71) × Int) :=
  bif decide (l39.length + 1 ≤ 5864062014805) then
  bif decide (l35.length + 1 ≤ 5864062014805) then
  nx60 (c80, (l35 ++ [l76]), (l39 ++ [l78])) else none else none

def lattice_build_b107 (r1 : (List (BitVec 32)) × Int) (l18 : List (BitVec 32)) (t_58 : Int) (t_106 : Int) (l71 : List Int) (l73 : List Int) (c75 : Bool) (nx108 : ((List Int) × (List Int) × Bool) → Option ((Option T71) × Int)) : Option ((Option T71) × Int) :=
  (geti r1.1 t_58).bind fun y110 =>
  (geti r1.1 t_106).bind fun y112 =>
  (lattice_least r1.1 ((y110 &&& y112))).bind fun r114 =>
  (geti l18 t_58).bind fun y116 =>
  (geti l18 t_106).bind fun y118 =>
  (lattice_least l18 ((y116 &&& y118))).bind fun r120 =>
  bif decide (l73.length + (([r114] : List Int)).length ≤ 17592186044416) then
  bif decide (l71.length + (([r120] : List Int)).length ≤ 17592186044416) then
  nx108 ((l71 ++ ([r120] : List Int)), (l73 ++ ([r114] : List Int)), ((c75 && (decide (r114 ≥ (0 : Int)))) && (decide (r120 ≥ (0 : Int))))) else none else none

def lattice_build_b59 (n_0 : Int) (r1 : (List (BitVec 32)) × Int) (l18 : List (BitVec 32)) (t_58 : Int) (c34 : Bool) (l35 : List (List Int)) (l39 : List (List Int)) (nx60 : (Bool × (List (List Int)) × (List (List Int))) → Option ((Option T71) × Int)) : Option ((Option T71) × Int) :=
  bif decide (n_0 ≤ 9223372036854775807) then
  forK (σ := (List Int) × (List Int) × Bool) (fun i s nx_ => lattice_build_b107 r1 l18 t_58 i s.1 s.2.1 s.2.2 nx_) (fun s => lattice_build_k81 l35 l39 nx60 s.1 s.2.1 s.2.2) (n_0 - (0 : Int)).toNat (0 : Int) ((([] : List Int)), (([] : List Int)), c34) else none

def lattice_build_k20 (n_0 : Int) (r1 : (List (BitVec 32)) × Int) (l18 : List (BitVec 32)) : Option ((Option T71) × Int) :=
  bif decide (n_0 ≤ 9223372036854775807) then
  forK (σ := Bool × (List (List Int)) × (List (List Int))) (fun i s nx_ => lattice_build_b59 n_0 r1 l18 i s.1 s.2.1 s.2.2 nx_) (fun s => lattice_build_k54 r1 l18 s.1 s.2.1 s.2.2) (n_0 - (0 : Int)).toNat (0 : Int) (true, (([] : List (List Int))), (([] : List (List Int)))) else none

def lattice_build_k145 (nx133 : ((List (BitVec 32)) → Option ((Option T71) × Int))) (l143 : List (BitVec 32)) : Option ((Option T71) × Int) :=
  nx133 l143

def lattice_build_b149 (t_131 : Int) (y135 : (BitVec 32)) (t_148 : Int) (l141 : List (BitVec 32)) (nx150 : (List (BitVec 32)) → Option ((Option T71) × Int)) : Option ((Option T71) × Int) :=
  (geti l141 t_148).bind fun y152 =>
  nx150 (l141.set t_148.toNat ((y152 ||| (((y135 >>> t_148.toNat) &&& 1#32) <<< t_131.toNat))))

def lattice_build_b132 (n_0 : Int) (r1 : (List (BitVec 32)) × Int) (t_131 : Int) (l16 : List (BitVec 32)) (nx133 : (List (BitVec 32)) → Option ((Option T71) × Int)) : Option ((Option T71) × Int) :=
  (geti r1.1 t_131).bind fun y135 =>
  bif decide (n_0 ≤ 9223372036854775807) then
  forK (σ := (List (BitVec 32))) (fun i s nx_ => lattice_build_b149 t_131 y135 i s nx_) (fun s => lattice_build_k145 nx133 s) (n_0 - (0 : Int)).toNat (0 : Int) l16 else none

def lattice_build (n_0 : Int) (pairs_1 : List (Int × Int)) : Option ((Option T71) × Int) :=
  (order_Table n_0 pairs_1).bind fun r1 =>
  (bif (r1.2 != (0 : Int)) then
  some (((none : Option T71), r1.2))
  else
  bif decide (0 ≤ n_0 ∧ n_0 ≤ 1048576) then
  forK (σ := (List (BitVec 32))) (fun i s nx_ => lattice_build_b132 n_0 r1 i s nx_) (fun s => lattice_build_k20 n_0 r1 s) ((r1.1.length : Int) - (0 : Int)).toNat (0 : Int) ((List.replicate n_0.toNat (0#32))) else none)

set_option maxRecDepth 100000 in
theorem lattice_build_ok (w0 : World) (m : Snap) (l : List HI) (n_0 : Int) (upairs_1 : Value) (pairs_1 : List (Int × Int)) (hpairs_1 : RS rP m upairs_1 pairs_1) (r : (Option T71) × Int) (hr : lattice_build n_0 pairs_1 = some r) (w : World) (hc : cX w0 ⟨m, l⟩ w) :
    Calls Try.prog 51 [.int .i64 n_0, upairs_1].toArray w fun e w' => ∃ z0 : Value, ∃ m1 : Snap, e = .returned (.tuple #[z0, .int .i64 r.2]) ∧ Sle m m1 ∧ P71 m1 z0 r.1 ∧ cX w0 ⟨m1, l⟩ w' := by
  unfold lattice_build at hr
  refine calls_of_Tr (N := 145) Try.func51 rfl hc rfl (Nat.le_of_ble_eq_true rfl) ?_
  refine Tr.seq ?_
  refine Tr.region_f (fun _ => false) ?_
  refine W.q rfl rfl rfl rfl (by decide) (Yd.as rfl .c) ?_
  refine W.q rfl rfl rfl rfl (by decide) (Yd.as rfl .c) ?_
  refine W.end ?_
  refine NX.sub (env' := [(0, _), (1, _)]) ⟨rfl, rfl, trivial⟩ ?_
  refine NX.then ?_
  refine Tr.seq ?_
  obtain ⟨r1, hr2, hr⟩ := bind_some hr
  refine Tr.region_f (fun i => Nat.beq i 2) ?_
  refine W.q rfl rfl rfl rfl (by decide) (Yd.mv rfl (.t rfl)) ?_
  refine W.q rfl rfl rfl rfl (by decide) (Yd.mv rfl (.t rfl)) ?_
  refine W.e rfl rfl rfl rfl (by decide) (Ef.call (R := fun z x' => ∃ v3 : Value, z = .tuple #[v3, .int .i64 r1.2] ∧ x' = ⟨m, hownT 29 1 encU v3 r1.1 :: l⟩) rfl Try.func15 rfl rfl (.cons (.t rfl) (.cons (.t rfl) .nil)) (fun w hw => (order_Table_ok w0 _ _ n_0 _ _ hpairs_1 _ hr2 w hw).mono fun e w' ⟨v3, he, hc'⟩ => ⟨_, _, he, ⟨v3, rfl, rfl⟩, hc'⟩)) ?_
  rintro _ _ ⟨v3, rfl, rfl⟩
  refine ⟨.inl rfl, ?_⟩
  refine W.cast (m' := m) (l' := hownT 29 1 encU v3 _ :: l) rfl rfl ?_
  refine W.q rfl rfl rfl rfl (by decide) (Yd.mv rfl (.t rfl)) ?_
  refine W.q rfl rfl rfl rfl (by decide) (Yd.ext rfl (.t rfl) rfl) ?_
  refine W.q rfl rfl rfl rfl (by decide) (Yd.ext rfl (.t rfl) rfl) ?_
  refine W.q rfl rfl rfl rfl (by decide) (Yd.as rfl (.t rfl)) ?_
  refine W.q rfl rfl rfl rfl (by decide) (Yd.as rfl (.t rfl)) ?_
  refine W.end ?_
  refine NX.sub (env' := [(0, _), (6, _), (7, _)]) ⟨rfl, rfl, rfl, trivial⟩ ?_
  refine NX.then ?_
  refine Tr.seq ?_
  refine Tr.seq ?_
  refine Tr.region_f (fun _ => false) ?_
  refine W.q rfl rfl rfl rfl (by decide) (Yd.mv rfl (.t rfl)) ?_
  refine W.q rfl rfl rfl rfl (by decide) (Yd.neq rfl (.t rfl) .c) ?_
  refine W.end ?_
  refine NX.sub (env' := [(0, _), (6, _), (7, _), (25, _)]) ⟨rfl, rfl, rfl, rfl, trivial⟩ ?_
  refine NX.then ?_
  refine Tr.cond (.t rfl) (fun hb => ?_) (fun hb => ?_)
  · have hr := cond_t hb hr
    refine Tr.seq ?_
    refine Tr.region_f (fun _ => false) ?_
    refine W.q rfl rfl rfl rfl (by decide) (Yd.mv rfl (.t rfl)) ?_
    refine W.q rfl rfl rfl rfl (by decide) (Yd.as rfl .c) ?_
    refine W.q rfl rfl rfl rfl (by decide) (Yd.as rfl (.t rfl)) ?_
    refine W.end ?_
    refine NX.sub (env' := [(4, _), (5, _)]) ⟨rfl, rfl, trivial⟩ ?_
    refine NX.drop (l' := l) (.cons _ (.refl _)) ?_
    refine NX.then ?_
    refine Tr.ret' (RT.then ?_)
    refine res2 rfl rfl rfl ?_
    intro w hc
    cases hr
    exact ⟨_, _, rfl, (.refl _), rfl, hc⟩
  · have hr := cond_f hb hr
    refine Tr.skip' ?_
    refine NX.then ?_
    refine Tr.seq ?_
    refine Tr.addnil 36 1 ?_
    refine Tr.cast (m' := m) (l' := hown 36 1 (.slice none 0 0) (([] : List (List Int))).length [] :: hownT 29 1 encU v3 r1.1 :: l) rfl rfl ?_
    refine Tr.addnil 36 1 ?_
    refine Tr.cast (m' := m) (l' := hown 36 1 (.slice none 0 0) (([] : List (List Int))).length [] :: hown 36 1 (.slice none 0 0) (([] : List (List Int))).length [] :: hownT 29 1 encU v3 r1.1 :: l) rfl rfl ?_
    obtain ⟨hq7, hr⟩ := guard_some hr; replace hq7 := of_decide_eq_true hq7
    refine Tr.region_f (fun i => Nat.beq i 2 || Nat.beq i 4) ?_
    refine W.q rfl rfl rfl rfl (by decide) (Yd.mv rfl (.t rfl)) ?_
    refine W.q rfl rfl rfl rfl (by decide) (Yd.mv rfl (.t rfl)) ?_
    refine W.e rfl rfl rfl rfl (by decide) (Ef.mkT (enc := encU) (0#32) IF29 rfl Try.underlying23 rfl rfl (by decide) (.t rfl) (.t rfl) (by omega) (by omega) (by omega)) ?_
    rintro v8 _ rfl
    refine ⟨.inl rfl, ?_⟩
    refine W.cast (m' := m) (l' := hownT 29 1 encU v8 _ :: hown 36 1 (.slice none 0 0) _ _ :: hown 36 1 (.slice none 0 0) _ _ :: hownT 29 1 encU v3 _ :: l) rfl rfl ?_
    refine W.q rfl rfl rfl rfl (by decide) (Yd.bld2 (cells := [v3, v8, (.slice none 0 0), (.slice none 0 0), .bool true]) (Sl.own (p := 3) rfl) (Sl.own (p := 0) rfl) rfl ZI71 PL71 (.cons (.t rfl) (.cons (.t rfl) (.cons .c .nil))) (by rintro ⟨_, _, _, rfl⟩; rintro ⟨_, _, _, rfl⟩; rfl)) ?_
    refine W.e rfl rfl rfl rfl (by decide) (Ef.bx rfl (.t rfl) rfl) ?_
    rintro _ _ ⟨b10, rfl, rfl⟩
    refine ⟨.inl rfl, ?_⟩
    refine W.cast (m' := m) (l' := hcells b10 [_, _, _, _, _] 71 :: hownT 29 1 encU v8 _ :: hown 36 1 (.slice none 0 0) _ _ :: hown 36 1 (.slice none 0 0) _ _ :: hownT 29 1 encU v3 _ :: l) rfl rfl ?_
    refine W.q rfl rfl rfl rfl (by decide) (Yd.as rfl (.t rfl)) ?_
    refine W.end ?_
    refine NX.sub (env' := [(0, _), (6, _), (8, _)]) ⟨rfl, rfl, rfl, trivial⟩ ?_
    refine NX.then ?_
    refine Tr.seq ?_
    refine Tr.seq ?_
    refine Tr.region_f (fun _ => false) ?_
    refine W.q rfl rfl rfl rfl (by decide) (Yd.mv rfl (.t rfl)) ?_
    refine W.q rfl rfl rfl rfl (by decide) (Yd.lenO (p := 4) rfl rfl Try.underlying23 (.t rfl)) ?_
    refine W.q rfl rfl rfl rfl (by decide) (Yd.mv rfl .c) ?_
    refine W.end ?_
    refine NX.sub (env' := [(0, _), (6, _), (8, _), (32, _), (33, _), (34, _)]) ⟨rfl, rfl, rfl, rfl, rfl, rfl, trivial⟩ ?_
    refine NX.then ?_
    refine Tr.join (S := fun env x => ∃ l18 : List (BitVec 32), ∃ v19 : Value, env = [(0, .int .i64 n_0), (6, v3), (8, bp b10 0)] ∧ x = ⟨m, hcells b10 [v3, v19, (.slice none 0 0), (.slice none 0 0), .bool true] 71 :: hownT 29 1 encU v19 l18 :: hown 36 1 (.slice none 0 0) (([] : List (List Int))).length [] :: hown 36 1 (.slice none 0 0) (([] : List (List Int))).length [] :: hownT 29 1 encU v3 r1.1 :: l⟩ ∧ lattice_build_k20 n_0 r1 l18 = some r) ?_ (fun hk21 => ?_)
    · rintro _ _ ⟨l18, v19, rfl, rfl, hr⟩
      unfold lattice_build_k20 at hr
      try dsimp only at hr
      refine NX.then ?_
      refine Tr.seq ?_
      refine Tr.seq ?_
      refine Tr.region_f (fun _ => false) ?_
      refine W.q rfl rfl rfl rfl (by decide) (Yd.mv rfl (.t rfl)) ?_
      refine W.q rfl rfl rfl rfl (by decide) (Yd.mv rfl .c) ?_
      refine W.end ?_
      refine NX.sub (env' := [(0, _), (6, _), (8, _), (60, _), (61, _)]) ⟨rfl, rfl, rfl, rfl, rfl, trivial⟩ ?_
      refine NX.then ?_
      refine Tr.join (S := fun env x => ∃ c44 : Bool, ∃ l45 : List (List Int), ∃ l49 : List (List Int), ∃ m53 : Snap, ∃ v46 : Value, ∃ us47 : List Value, ∃ v50 : Value, ∃ us51 : List Value, Sle m m53 ∧ Rows rI m53 us47 l45 ∧ Rows rI m53 us51 l49 ∧ env = [(8, bp b10 0)] ∧ x = ⟨m53, hcells b10 [v3, v19, v50, v46, .bool c44] 71 :: hownT 29 1 encU v19 l18 :: hown 36 1 v46 l45.length us47 :: hown 36 1 v50 l49.length us51 :: hownT 29 1 encU v3 r1.1 :: l⟩ ∧ lattice_build_k54 r1 l18 c44 l45 l49 = some r) ?_ (fun hk55 => ?_)
      · rintro _ _ ⟨c44, l45, l49, m53, v46, us47, v50, us51, hsm53, hw48, hw52, rfl, rfl, hr⟩
        unfold lattice_build_k54 at hr
        try dsimp only at hr
        have hpairs_1 := hpairs_1.mono hsm53
        refine NX.then ?_
        refine Tr.seq ?_
        refine Tr.region_f (fun _ => false) ?_
        refine W.q rfl rfl rfl rfl (by decide) (Yd.mv rfl (.t rfl)) ?_
        refine W.q rfl rfl rfl rfl (by decide) (Yd.as rfl (.t rfl)) ?_
        refine W.q rfl rfl rfl rfl (by decide) (Yd.as rfl .c) ?_
        refine W.end ?_
        refine NX.sub (env' := [(4, _), (5, _)]) ⟨rfl, rfl, trivial⟩ ?_
        refine NX.then ?_
        refine Tr.ret' ?_
        refine res2 rfl rfl rfl ?_
        intro w hc
        cases hr
        obtain ⟨m56, hsm56, hL, hc⟩ := cX_freezeP (A := [_, _, _, _, _]) hc
        obtain ⟨Lp1, hl1, hi1⟩ := (lent_at (p := 4) hL rfl)
        have hf1 : RS rU m56 _ _ := RS_of_own hl1 hi1
        obtain ⟨Lp2, hl2, hi2⟩ := (lent_at (p := 1) hL rfl)
        have hf2 : RS rU m56 _ _ := RS_of_own hl2 hi2
        obtain ⟨Lp3, hl3, hi3⟩ := (lent_at (p := 3) hL rfl)
        have hf3 := RS_of_rows hl3 (hw52.mono hsm56) hi3
        obtain ⟨Lp4, hl4, hi4⟩ := (lent_at (p := 2) hL rfl)
        have hf4 := RS_of_rows hl4 (hw48.mono hsm56) hi4
        have hB := Bk.of (lent_at (p := 0) hL rfl)
        have hP : P71 m56 (bp b10 0) (some { up := r1.1, down := l18, join := l49, meet := l45, is_ := c44 } : Option T71) := ⟨_, _, _, _, _, rfl, hB, hf1, hf2, hf3, hf4⟩
        exact ⟨_, _, rfl, (hsm53.trans hsm56), hP, hc⟩
      obtain ⟨hle57, hr⟩ := guard_some hr; replace hle57 := of_decide_eq_true hle57
      refine Tr.block ?_
      refine Tr.sub (env' := [(0, _), (6, _), (8, _), (60, _), (61, _)]) ⟨rfl, rfl, rfl, rfl, rfl, trivial⟩ ?_
      refine Tr.loop (S := fun n (z : Int × Bool × (List (List Int)) × (List (List Int))) env x => match z with | (t_58, c34, l35, l39) => ∃ m43 : Snap, ∃ v36 : Value, ∃ us37 : List Value, ∃ v40 : Value, ∃ us41 : List Value, Sle m m43 ∧ Rows rI m43 us37 l35 ∧ Rows rI m43 us41 l39 ∧ env = [(0, .int .i64 n_0), (6, v3), (8, bp b10 0), (60, .int .i64 n_0), (61, .int .i64 t_58)] ∧ x = ⟨m43, hcells b10 [v3, v19, v40, v36, .bool c34] 71 :: hownT 29 1 encU v19 l18 :: hown 36 1 v36 l35.length us37 :: hown 36 1 v40 l39.length us41 :: hownT 29 1 encU v3 r1.1 :: l⟩ ∧ n = (n_0 - t_58).toNat ∧ 0 ≤ t_58 ∧ forK (σ := Bool × (List (List Int)) × (List (List Int))) (fun i s nx_ => lattice_build_b59 n_0 r1 l18 i s.1 s.2.1 s.2.2 nx_) (fun s => lattice_build_k54 r1 l18 s.1 s.2.1 s.2.2) n t_58 (c34, l35, l39) = some r) _ ((0 : Int), true, ([] : List (List Int)), ([] : List (List Int))) ⟨_, _, _, _, _, (.refl _), (Rows.nil _ _), (Rows.nil _ _), rfl, rfl, rfl, (by omega), hr⟩ ?_
      rintro n61 ⟨t_58, c34, l35, l39⟩ env x ⟨m43, v36, us37, v40, us41, hsm43, hw38, hw42, rfl, rfl, hnt_58, h0t_58, hr⟩
      have hpairs_1 := hpairs_1.mono hsm43
      cases n61 with
      | zero =>
        simp only [forK] at hr
        refine Tr.seq ?_
        refine Tr.region_f (fun _ => false) ?_
        refine W.q rfl rfl rfl rfl (by decide) (Yd.lss rfl (.t rfl) (.t rfl)) ?_
        refine W.end ?_
        refine NX.sub (env' := [(0, _), (6, _), (8, _), (60, _), (61, _), (62, _)]) ⟨rfl, rfl, rfl, rfl, rfl, rfl, trivial⟩ ?_
        refine NX.then ?_
        refine Tr.seq ?_
        refine Tr.cond (.t rfl) (fun hb => ?_) (fun hb => ?_)
        · exact absurd (hb.symm.trans (fr_end hnt_58)) (by decide)
        ·
          refine Tr.exit' (EX.then (EX.then (EX.block ?_)))
          refine NX.sub (env' := [(8, _)]) ⟨rfl, trivial⟩ ?_
          exact hk55 _ _ ⟨_, _, _, _, _, _, _, _, hsm43, hw38, hw42, rfl, rfl, hr⟩
      | succ n61 =>
        obtain ⟨nx60, hnx60, hr⟩ := forK_succ hr
        try dsimp only at hr
        unfold lattice_build_b59 at hr
        try dsimp only at hr
        have hltt_58 := fr_bnd hnt_58
        refine Tr.seq ?_
        refine Tr.region_f (fun _ => false) ?_
        refine W.q rfl rfl rfl rfl (by decide) (Yd.lss rfl (.t rfl) (.t rfl)) ?_
        refine W.end ?_
        refine NX.sub (env' := [(0, _), (6, _), (8, _), (60, _), (61, _), (62, _)]) ⟨rfl, rfl, rfl, rfl, rfl, rfl, trivial⟩ ?_
        refine NX.then ?_
        refine Tr.seq ?_
        refine Tr.cond (.t rfl) (fun hb => ?_) (fun hb => ?_)
        rotate_left
        · exact absurd (hb.symm.trans (fr_go hnt_58)) (by decide)
        ·
          refine Tr.skip' ?_
          refine NX.then ?_
          refine Tr.seq ?_
          refine Tr.block ?_
          refine Tr.seq ?_
          refine Tr.region_f (fun _ => false) ?_
          refine W.q rfl rfl rfl rfl (by decide) (Yd.mv rfl (.t rfl)) ?_
          refine W.q rfl rfl rfl rfl (by decide) (Yd.as rfl (.t rfl)) ?_
          refine W.end ?_
          refine NX.sub (env' := [(0, _), (6, _), (8, _), (60, _), (61, _), (12, _)]) ⟨rfl, rfl, rfl, rfl, rfl, rfl, trivial⟩ ?_
          refine NX.then ?_
          refine Tr.seq ?_
          refine Tr.region_f (fun _ => false) ?_
          refine W.q rfl rfl rfl rfl (by decide) (Yd.as rfl .c) ?_
          refine W.q rfl rfl rfl rfl (by decide) (Yd.as rfl .c) ?_
          refine W.end ?_
          refine NX.sub (env' := [(0, _), (6, _), (8, _), (60, _), (61, _), (12, _), (13, _), (14, _)]) ⟨rfl, rfl, rfl, rfl, rfl, rfl, rfl, rfl, trivial⟩ ?_
          refine NX.then ?_
          refine Tr.seq ?_
          refine Tr.seq ?_
          refine Tr.region_f (fun _ => false) ?_
          refine W.q rfl rfl rfl rfl (by decide) (Yd.mv rfl (.t rfl)) ?_
          refine W.q rfl rfl rfl rfl (by decide) (Yd.mv rfl .c) ?_
          refine W.end ?_
          refine NX.sub (env' := [(0, _), (6, _), (8, _), (60, _), (61, _), (12, _), (13, _), (14, _), (64, _), (65, _)]) ⟨rfl, rfl, rfl, rfl, rfl, rfl, rfl, rfl, rfl, rfl, trivial⟩ ?_
          refine NX.then ?_
          refine Tr.addnil 3 1 ?_
          refine Tr.addnil 3 1 ?_
          refine Tr.join (S := fun env x => ∃ l76 : List Int, ∃ l78 : List Int, ∃ c80 : Bool, ∃ v77 : Value, ∃ v79 : Value, env = [(0, .int .i64 n_0), (6, v3), (8, bp b10 0), (60, .int .i64 n_0), (61, .int .i64 t_58), (13, v79), (14, v77)] ∧ x = ⟨m43, hownT 3 1 encI v77 l76 :: hownT 3 1 encI v79 l78 :: hcells b10 [v3, v19, v40, v36, .bool c80] 71 :: hownT 29 1 encU v19 l18 :: hown 36 1 v36 l35.length us37 :: hown 36 1 v40 l39.length us41 :: hownT 29 1 encU v3 r1.1 :: l⟩ ∧ lattice_build_k81 l35 l39 nx60 l76 l78 c80 = some r) ?_ (fun hk82 => ?_)
          · rintro _ _ ⟨l76, l78, c80, v77, v79, rfl, rfl, hr⟩
            unfold lattice_build_k81 at hr
            try dsimp only at hr
            refine NX.then ?_
            refine Tr.freezeT (enc := encI) (n := 1) (pos := 1) (fun _ => rfl) rfl (fun m83 hsm83 hu84 => ?_)
            have hpairs_1 := hpairs_1.mono hsm83
            have hw38 := hw38.mono hsm83
            have hw42 := hw42.mono hsm83
            refine Tr.cast (m' := m83) (l' := hownT 3 1 encI v77 _ :: hcells b10 [_, _, _, _, _] 71 :: hownT 29 1 encU v19 _ :: hown 36 1 v36 _ _ :: hown 36 1 v40 _ _ :: hownT 29 1 encU v3 _ :: l) rfl rfl ?_
            refine Tr.freezeT (enc := encI) (n := 1) (pos := 0) (fun _ => rfl) rfl (fun m85 hsm85 hu86 => ?_)
            have hpairs_1 := hpairs_1.mono hsm85
            have hw38 := hw38.mono hsm85
            have hw42 := hw42.mono hsm85
            have hu84 := hu84.mono hsm85
            refine Tr.cast (m' := m85) (l' := hcells b10 [_, _, _, _, _] 71 :: hownT 29 1 encU v19 _ :: hown 36 1 v36 _ _ :: hown 36 1 v40 _ _ :: hownT 29 1 encU v3 _ :: l) rfl rfl ?_
            obtain ⟨hq90, hr⟩ := guard_some hr; replace hq90 := of_decide_eq_true hq90
            obtain ⟨hq94, hr⟩ := guard_some hr; replace hq94 := of_decide_eq_true hq94
            refine Tr.region_xJ (fun x => ∃ p : Nat, x.l[p]? = some (hcells b10 [v3, v19, v40, v36, .bool c80] 71)) (fun _ _ hx h => by obtain ⟨_, hp⟩ := h; exact hx.at hp) (fun i => Nat.beq i 8) (fun i => Nat.beq i 12) (fun i => Nat.beq i 7 || Nat.beq i 8 || Nat.beq i 14 || Nat.beq i 15 || Nat.beq i 18 || Nat.beq i 21) (fun i => Nat.beq i 0 || Nat.beq i 1 || Nat.beq i 8 || Nat.beq i 9 || Nat.beq i 10 || Nat.beq i 11 || Nat.beq i 12 || Nat.beq i 13 || Nat.beq i 15 || Nat.beq i 18 || Nat.beq i 21) (.one 0 (.one 1 (.one 2 (.one 3 (.one 4 (.one 5 (.one 6 (.one 9 (.one 10 (.one 11 (.one 12 (.one 13 (.two 7 14 (.two 8 14 (Ord.of [14, 15, 16, 17, 18, 19, 20, 21]) (Ord.of [8, 15, 16, 17, 18, 19, 20, 21])) (Ord.of [7, 8, 15, 16, 17, 18, 19, 20, 21])))))))))))))) FM (by kernel_rfl) ?_
            refine W.p rfl rfl rfl rfl (by decide) (fun _ => Yd.mv rfl (.t rfl)) ?_
            refine W.p rfl rfl rfl rfl (by decide) (fun _ => Yd.mv rfl (.t rfl)) ?_
            refine W.q rfl rfl rfl rfl (by decide) (Yd.mv rfl (.t rfl)) ?_
            refine W.q rfl rfl rfl rfl (by decide) (Yd.nilc rfl (.t rfl)) ?_
            refine W.q rfl rfl rfl rfl (by decide) (Yd.fldB rfl Try.underlying71 rfl SZ44 rfl (.t rfl)) ?_
            refine W.q rfl rfl rfl rfl (by decide) (Yd.ldB (pos := 0) rfl rfl rfl ON44 (.t rfl)) ?_
            refine W.q rfl rfl rfl rfl (by decide) (Yd.mv rfl (.t rfl)) ?_
            refine W.p rfl rfl rfl rfl (by decide) (fun _ => Yd.mv rfl (.t rfl)) ?_
            refine W.p rfl rfl rfl rfl (by decide) (fun _ => Yd.nilc rfl (.t rfl)) ?_
            refine W.p rfl rfl rfl rfl (by decide) (fun _ => Yd.fldB rfl Try.underlying71 rfl SZ44 rfl (.t rfl)) ?_
            refine W.pJ rfl rfl rfl rfl (by decide) (fun _ h => by obtain ⟨_, hp⟩ := h; exact Yd.ldB hp rfl rfl ON44 (.t rfl)) ⟨0, rfl⟩ rfl ?_
            refine W.p rfl rfl rfl rfl (by decide) (fun _ => Yd.mv rfl (.t rfl)) ?_
            refine W.two ?_ ?_
            ·
              refine W.e rfl rfl rfl rfl (by decide) (Ef.bsR hu84 IF36 rfl Try.underlying44 (.cons (.t rfl) .nil)) ?_ (hJ := fun _ _ _ h => absurd (show false = true from h) (by decide))
              rintro v99 _ rfl
              refine ⟨.inr ⟨.refl _, [_], rfl⟩, ?_⟩
              refine W.cast (m' := m85) (l' := hown 36 1 v99 _ _ :: hcells b10 [_, _, _, _, _] 71 :: hownT 29 1 encU v19 _ :: hown 36 1 v36 _ _ :: hown 36 1 v40 _ _ :: hownT 29 1 encU v3 _ :: l) rfl rfl ?_
              refine W.two ?_ ?_
              ·
                refine W.e rfl rfl rfl rfl (by decide) (Ef.apR (pos := 4) (pos2 := 0) IF36 rfl hu84 rfl rfl Try.underlying44 rfl (.t rfl) (.t rfl) (by omega) (by omega)) ?_ (hJ := by rintro v104 _ rfl; exact fun _ => ⟨1, rfl⟩)
                rintro v104 _ rfl
                refine ⟨.inl rfl, ?_⟩
                refine W.cast (m' := m85) (l' := hown 36 1 v99 _ _ :: hcells b10 [_, _, _, _, _] 71 :: hownT 29 1 encU v19 _ :: hown 36 1 v36 _ _ :: hown 36 1 v104 _ _ :: hownT 29 1 encU v3 _ :: l) rfl rfl ?_
                refine W.e rfl rfl rfl rfl (by decide) (Ef.bsR hu86 IF36 rfl Try.underlying44 (.cons (.t rfl) .nil)) ?_ (hJ := fun _ _ _ h => absurd (show false = true from h) (by decide))
                rintro v105 _ rfl
                refine ⟨.inr ⟨.refl _, [_], rfl⟩, ?_⟩
                refine W.cast (m' := m85) (l' := hown 36 1 v105 _ _ :: hown 36 1 v99 _ _ :: hcells b10 [_, _, _, _, _] 71 :: hownT 29 1 encU v19 _ :: hown 36 1 v36 _ _ :: hown 36 1 v104 _ _ :: hownT 29 1 encU v3 _ :: l) rfl rfl ?_
                refine W.e rfl rfl rfl rfl (by decide) (Ef.apR (pos := 4) (pos2 := 0) IF36 rfl hu86 rfl rfl Try.underlying44 rfl (.t rfl) (.t rfl) (by omega) (by omega)) ?_ (hJ := fun _ _ _ h => absurd (show false = true from h) (by decide))
                rintro v107 _ rfl
                refine ⟨.inl rfl, ?_⟩
                refine W.cast (m' := m85) (l' := hown 36 1 v105 _ _ :: hown 36 1 v99 _ _ :: hcells b10 [_, _, _, _, _] 71 :: hownT 29 1 encU v19 _ :: hown 36 1 v107 _ _ :: hown 36 1 v104 _ _ :: hownT 29 1 encU v3 _ :: l) rfl rfl ?_
                refine W.q rfl rfl rfl rfl (by decide) (Yd.nilc rfl (.t rfl)) ?_
                refine W.q rfl rfl rfl rfl (by decide) (Yd.fldB rfl Try.underlying71 rfl SZ44 rfl (.t rfl)) ?_
                refine W.s rfl rfl rfl rfl (Ef.stBo (pos := 2) (pos2 := 5) (cs' := [_, _, _, _, _]) rfl rfl rfl (.t rfl) (.t rfl) SZ44 (Nat.le_of_ble_eq_true rfl) rfl) ?_ (hJ := fun _ _ _ h => absurd (show false = true from h) (by decide))
                rintro _ _ ⟨rfl, rfl⟩
                refine ⟨.inl rfl, ?_⟩
                refine W.cast (m' := m85) (l' := hown 36 1 v105 _ _ :: hown 36 1 v99 _ _ :: hcells b10 [_, _, _, _, _] 71 :: hownT 29 1 encU v19 _ :: hown 36 1 v107 _ _ :: hown 36 1 v104 _ _ :: hownT 29 1 encU v3 _ :: l) rfl rfl ?_
                refine W.q rfl rfl rfl rfl (by decide) (Yd.nilc rfl (.t rfl)) ?_
                refine W.q rfl rfl rfl rfl (by decide) (Yd.fldB rfl Try.underlying71 rfl SZ44 rfl (.t rfl)) ?_
                refine W.s rfl rfl rfl rfl (Ef.stBo (pos := 2) (pos2 := 4) (cs' := [_, _, _, _, _]) rfl rfl rfl (.t rfl) (.t rfl) SZ44 (Nat.le_of_ble_eq_true rfl) rfl) ?_ (hJ := fun _ _ _ h => absurd (show false = true from h) (by decide))
                rintro _ _ ⟨rfl, rfl⟩
                refine ⟨.inl rfl, ?_⟩
                refine W.cast (m' := m85) (l' := hown 36 1 v105 _ _ :: hown 36 1 v99 _ _ :: hcells b10 [_, _, _, _, _] 71 :: hownT 29 1 encU v19 _ :: hown 36 1 v107 _ _ :: hown 36 1 v104 _ _ :: hownT 29 1 encU v3 _ :: l) rfl rfl ?_
                refine W.end ?_
                refine NX.sub (env' := [(0, _), (6, _), (8, _), (60, _), (61, _)]) ⟨rfl, rfl, rfl, rfl, rfl, trivial⟩ ?_
                refine NX.drop (l' := hcells b10 [_, _, _, _, _] 71 :: hownT 29 1 encU v19 _ :: hown 36 1 v107 _ _ :: hown 36 1 v104 _ _ :: hownT 29 1 encU v3 _ :: l) (.cons _ (.cons _ (.cons_cons _ (.cons_cons _ (.cons_cons _ (.cons_cons _ (.cons_cons _ (.refl _)))))))) ?_
                refine NX.block ?_
                refine NX.then ?_
                refine Tr.region_f (fun _ => false) ?_
                refine W.q rfl rfl rfl rfl (by decide) (Yd.add rfl (.t rfl) .c) ?_
                refine W.q rfl rfl rfl rfl (by decide) (Yd.mv rfl (.t rfl)) ?_
                refine W.end ?_
                refine NX.sub (env' := [(0, _), (6, _), (8, _), (60, _), (61, _)]) ⟨rfl, rfl, rfl, rfl, rfl, trivial⟩ ?_
                refine NX.sub (env' := [(0, _), (6, _), (8, _), (60, _), (61, _)]) ⟨rfl, rfl, rfl, rfl, rfl, trivial⟩ ?_
                have hw := w64_id (n := t_58 + 1) (by omega) (by omega)
                exact NX.again n61 (t_58 + 1, c80, (l35 ++ [l76]), (l39 ++ [l78])) (Nat.lt_succ_self _) ⟨_, _, _, _, _, ((hsm43.trans hsm83).trans hsm85), (Rows.snoc hw38 hu86), (Rows.snoc hw42 hu84), (by rw [hw] <;> rfl), rfl, (fr_dec hnt_58), (by omega), ((hnx60 _).symm.trans hr)⟩
              ·
                refine W.e rfl rfl rfl rfl (by decide) (Ef.bsR hu86 IF36 rfl Try.underlying44 (.cons (.t rfl) .nil)) ?_ (hJ := fun _ _ _ h => absurd (show false = true from h) (by decide))
                rintro v104 _ rfl
                refine ⟨.inr ⟨.refl _, [_], rfl⟩, ?_⟩
                refine W.cast (m' := m85) (l' := hown 36 1 v104 _ _ :: hown 36 1 v99 _ _ :: hcells b10 [_, _, _, _, _] 71 :: hownT 29 1 encU v19 _ :: hown 36 1 v36 _ _ :: hown 36 1 v40 _ _ :: hownT 29 1 encU v3 _ :: l) rfl rfl ?_
                refine W.e rfl rfl rfl rfl (by decide) (Ef.apR (pos := 5) (pos2 := 1) IF36 rfl hu84 rfl rfl Try.underlying44 rfl (.t rfl) (.t rfl) (by omega) (by omega)) ?_ (hJ := by rintro v106 _ rfl; exact fun _ => ⟨2, rfl⟩)
                rintro v106 _ rfl
                refine ⟨.inl rfl, ?_⟩
                refine W.cast (m' := m85) (l' := hown 36 1 v104 _ _ :: hown 36 1 v99 _ _ :: hcells b10 [_, _, _, _, _] 71 :: hownT 29 1 encU v19 _ :: hown 36 1 v36 _ _ :: hown 36 1 v106 _ _ :: hownT 29 1 encU v3 _ :: l) rfl rfl ?_
                refine W.e rfl rfl rfl rfl (by decide) (Ef.apR (pos := 4) (pos2 := 0) IF36 rfl hu86 rfl rfl Try.underlying44 rfl (.t rfl) (.t rfl) (by omega) (by omega)) ?_ (hJ := fun _ _ _ h => absurd (show false = true from h) (by decide))
                rintro v107 _ rfl
                refine ⟨.inl rfl, ?_⟩
                refine W.cast (m' := m85) (l' := hown 36 1 v104 _ _ :: hown 36 1 v99 _ _ :: hcells b10 [_, _, _, _, _] 71 :: hownT 29 1 encU v19 _ :: hown 36 1 v107 _ _ :: hown 36 1 v106 _ _ :: hownT 29 1 encU v3 _ :: l) rfl rfl ?_
                refine W.q rfl rfl rfl rfl (by decide) (Yd.nilc rfl (.t rfl)) ?_
                refine W.q rfl rfl rfl rfl (by decide) (Yd.fldB rfl Try.underlying71 rfl SZ44 rfl (.t rfl)) ?_
                refine W.s rfl rfl rfl rfl (Ef.stBo (pos := 2) (pos2 := 5) (cs' := [_, _, _, _, _]) rfl rfl rfl (.t rfl) (.t rfl) SZ44 (Nat.le_of_ble_eq_true rfl) rfl) ?_ (hJ := fun _ _ _ h => absurd (show false = true from h) (by decide))
                rintro _ _ ⟨rfl, rfl⟩
                refine ⟨.inl rfl, ?_⟩
                refine W.cast (m' := m85) (l' := hown 36 1 v104 _ _ :: hown 36 1 v99 _ _ :: hcells b10 [_, _, _, _, _] 71 :: hownT 29 1 encU v19 _ :: hown 36 1 v107 _ _ :: hown 36 1 v106 _ _ :: hownT 29 1 encU v3 _ :: l) rfl rfl ?_
                refine W.q rfl rfl rfl rfl (by decide) (Yd.nilc rfl (.t rfl)) ?_
                refine W.q rfl rfl rfl rfl (by decide) (Yd.fldB rfl Try.underlying71 rfl SZ44 rfl (.t rfl)) ?_
                refine W.s rfl rfl rfl rfl (Ef.stBo (pos := 2) (pos2 := 4) (cs' := [_, _, _, _, _]) rfl rfl rfl (.t rfl) (.t rfl) SZ44 (Nat.le_of_ble_eq_true rfl) rfl) ?_ (hJ := fun _ _ _ h => absurd (show false = true from h) (by decide))
                rintro _ _ ⟨rfl, rfl⟩
                refine ⟨.inl rfl, ?_⟩
                refine W.cast (m' := m85) (l' := hown 36 1 v104 _ _ :: hown 36 1 v99 _ _ :: hcells b10 [_, _, _, _, _] 71 :: hownT 29 1 encU v19 _ :: hown 36 1 v107 _ _ :: hown 36 1 v106 _ _ :: hownT 29 1 encU v3 _ :: l) rfl rfl ?_
                refine W.end ?_
                refine NX.sub (env' := [(0, _), (6, _), (8, _), (60, _), (61, _)]) ⟨rfl, rfl, rfl, rfl, rfl, trivial⟩ ?_
                refine NX.drop (l' := hcells b10 [_, _, _, _, _] 71 :: hownT 29 1 encU v19 _ :: hown 36 1 v107 _ _ :: hown 36 1 v106 _ _ :: hownT 29 1 encU v3 _ :: l) (.cons _ (.cons _ (.cons_cons _ (.cons_cons _ (.cons_cons _ (.cons_cons _ (.cons_cons _ (.refl _)))))))) ?_
                refine NX.block ?_
                refine NX.then ?_
                refine Tr.region_f (fun _ => false) ?_
                refine W.q rfl rfl rfl rfl (by decide) (Yd.add rfl (.t rfl) .c) ?_
                refine W.q rfl rfl rfl rfl (by decide) (Yd.mv rfl (.t rfl)) ?_
                refine W.end ?_
                refine NX.sub (env' := [(0, _), (6, _), (8, _), (60, _), (61, _)]) ⟨rfl, rfl, rfl, rfl, rfl, trivial⟩ ?_
                refine NX.sub (env' := [(0, _), (6, _), (8, _), (60, _), (61, _)]) ⟨rfl, rfl, rfl, rfl, rfl, trivial⟩ ?_
                have hw := w64_id (n := t_58 + 1) (by omega) (by omega)
                exact NX.again n61 (t_58 + 1, c80, (l35 ++ [l76]), (l39 ++ [l78])) (Nat.lt_succ_self _) ⟨_, _, _, _, _, ((hsm43.trans hsm83).trans hsm85), (Rows.snoc hw38 hu86), (Rows.snoc hw42 hu84), (by rw [hw] <;> rfl), rfl, (fr_dec hnt_58), (by omega), ((hnx60 _).symm.trans hr)⟩
            ·
              refine W.e rfl rfl rfl rfl (by decide) (Ef.bsR hu86 IF36 rfl Try.underlying44 (.cons (.t rfl) .nil)) ?_ (hJ := fun _ _ _ h => absurd (show false = true from h) (by decide))
              rintro v99 _ rfl
              refine ⟨.inr ⟨.refl _, [_], rfl⟩, ?_⟩
              refine W.cast (m' := m85) (l' := hown 36 1 v99 _ _ :: hcells b10 [_, _, _, _, _] 71 :: hownT 29 1 encU v19 _ :: hown 36 1 v36 _ _ :: hown 36 1 v40 _ _ :: hownT 29 1 encU v3 _ :: l) rfl rfl ?_
              refine W.e rfl rfl rfl rfl (by decide) (Ef.bsR hu84 IF36 rfl Try.underlying44 (.cons (.t rfl) .nil)) ?_ (hJ := fun _ _ _ h => absurd (show false = true from h) (by decide))
              rintro v101 _ rfl
              refine ⟨.inr ⟨.refl _, [_], rfl⟩, ?_⟩
              refine W.cast (m' := m85) (l' := hown 36 1 v101 _ _ :: hown 36 1 v99 _ _ :: hcells b10 [_, _, _, _, _] 71 :: hownT 29 1 encU v19 _ :: hown 36 1 v36 _ _ :: hown 36 1 v40 _ _ :: hownT 29 1 encU v3 _ :: l) rfl rfl ?_
              refine W.e rfl rfl rfl rfl (by decide) (Ef.apR (pos := 5) (pos2 := 0) IF36 rfl hu84 rfl rfl Try.underlying44 rfl (.t rfl) (.t rfl) (by omega) (by omega)) ?_ (hJ := by rintro v103 _ rfl; exact fun _ => ⟨2, rfl⟩)
              rintro v103 _ rfl
              refine ⟨.inl rfl, ?_⟩
              refine W.cast (m' := m85) (l' := hown 36 1 v101 _ _ :: hown 36 1 v99 _ _ :: hcells b10 [_, _, _, _, _] 71 :: hownT 29 1 encU v19 _ :: hown 36 1 v36 _ _ :: hown 36 1 v103 _ _ :: hownT 29 1 encU v3 _ :: l) rfl rfl ?_
              refine W.e rfl rfl rfl rfl (by decide) (Ef.apR (pos := 4) (pos2 := 1) IF36 rfl hu86 rfl rfl Try.underlying44 rfl (.t rfl) (.t rfl) (by omega) (by omega)) ?_ (hJ := fun _ _ _ h => absurd (show false = true from h) (by decide))
              rintro v104 _ rfl
              refine ⟨.inl rfl, ?_⟩
              refine W.cast (m' := m85) (l' := hown 36 1 v101 _ _ :: hown 36 1 v99 _ _ :: hcells b10 [_, _, _, _, _] 71 :: hownT 29 1 encU v19 _ :: hown 36 1 v104 _ _ :: hown 36 1 v103 _ _ :: hownT 29 1 encU v3 _ :: l) rfl rfl ?_
              refine W.q rfl rfl rfl rfl (by decide) (Yd.nilc rfl (.t rfl)) ?_
              refine W.q rfl rfl rfl rfl (by decide) (Yd.fldB rfl Try.underlying71 rfl SZ44 rfl (.t rfl)) ?_
              refine W.s rfl rfl rfl rfl (Ef.stBo (pos := 2) (pos2 := 5) (cs' := [_, _, _, _, _]) rfl rfl rfl (.t rfl) (.t rfl) SZ44 (Nat.le_of_ble_eq_true rfl) rfl) ?_ (hJ := fun _ _ _ h => absurd (show false = true from h) (by decide))
              rintro _ _ ⟨rfl, rfl⟩
              refine ⟨.inl rfl, ?_⟩
              refine W.cast (m' := m85) (l' := hown 36 1 v101 _ _ :: hown 36 1 v99 _ _ :: hcells b10 [_, _, _, _, _] 71 :: hownT 29 1 encU v19 _ :: hown 36 1 v104 _ _ :: hown 36 1 v103 _ _ :: hownT 29 1 encU v3 _ :: l) rfl rfl ?_
              refine W.q rfl rfl rfl rfl (by decide) (Yd.nilc rfl (.t rfl)) ?_
              refine W.q rfl rfl rfl rfl (by decide) (Yd.fldB rfl Try.underlying71 rfl SZ44 rfl (.t rfl)) ?_
              refine W.s rfl rfl rfl rfl (Ef.stBo (pos := 2) (pos2 := 4) (cs' := [_, _, _, _, _]) rfl rfl rfl (.t rfl) (.t rfl) SZ44 (Nat.le_of_ble_eq_true rfl) rfl) ?_ (hJ := fun _ _ _ h => absurd (show false = true from h) (by decide))
              rintro _ _ ⟨rfl, rfl⟩
              refine ⟨.inl rfl, ?_⟩
              refine W.cast (m' := m85) (l' := hown 36 1 v101 _ _ :: hown 36 1 v99 _ _ :: hcells b10 [_, _, _, _, _] 71 :: hownT 29 1 encU v19 _ :: hown 36 1 v104 _ _ :: hown 36 1 v103 _ _ :: hownT 29 1 encU v3 _ :: l) rfl rfl ?_
              refine W.end ?_
              refine NX.sub (env' := [(0, _), (6, _), (8, _), (60, _), (61, _)]) ⟨rfl, rfl, rfl, rfl, rfl, trivial⟩ ?_
              refine NX.drop (l' := hcells b10 [_, _, _, _, _] 71 :: hownT 29 1 encU v19 _ :: hown 36 1 v104 _ _ :: hown 36 1 v103 _ _ :: hownT 29 1 encU v3 _ :: l) (.cons _ (.cons _ (.cons_cons _ (.cons_cons _ (.cons_cons _ (.cons_cons _ (.cons_cons _ (.refl _)))))))) ?_
              refine NX.block ?_
              refine NX.then ?_
              refine Tr.region_f (fun _ => false) ?_
              refine W.q rfl rfl rfl rfl (by decide) (Yd.add rfl (.t rfl) .c) ?_
              refine W.q rfl rfl rfl rfl (by decide) (Yd.mv rfl (.t rfl)) ?_
              refine W.end ?_
              refine NX.sub (env' := [(0, _), (6, _), (8, _), (60, _), (61, _)]) ⟨rfl, rfl, rfl, rfl, rfl, trivial⟩ ?_
              refine NX.sub (env' := [(0, _), (6, _), (8, _), (60, _), (61, _)]) ⟨rfl, rfl, rfl, rfl, rfl, trivial⟩ ?_
              have hw := w64_id (n := t_58 + 1) (by omega) (by omega)
              exact NX.again n61 (t_58 + 1, c80, (l35 ++ [l76]), (l39 ++ [l78])) (Nat.lt_succ_self _) ⟨_, _, _, _, _, ((hsm43.trans hsm83).trans hsm85), (Rows.snoc hw38 hu86), (Rows.snoc hw42 hu84), (by rw [hw] <;> rfl), rfl, (fr_dec hnt_58), (by omega), ((hnx60 _).symm.trans hr)⟩
          obtain ⟨hle105, hr⟩ := guard_some hr; replace hle105 := of_decide_eq_true hle105
          refine Tr.block ?_
          refine Tr.sub (env' := [(0, _), (6, _), (8, _), (12, _), (13, _), (14, _), (60, _), (61, _), (64, _), (65, _)]) ⟨rfl, rfl, rfl, rfl, rfl, rfl, rfl, rfl, rfl, rfl, trivial⟩ ?_
          refine Tr.loop (S := fun n (z : Int × (List Int) × (List Int) × Bool) env x => match z with | (t_106, l71, l73, c75) => ∃ v72 : Value, ∃ v74 : Value, env = [(0, .int .i64 n_0), (6, v3), (8, bp b10 0), (12, .int .i64 t_58), (13, v74), (14, v72), (60, .int .i64 n_0), (61, .int .i64 t_58), (64, .int .i64 n_0), (65, .int .i64 t_106)] ∧ x = ⟨m43, hownT 3 1 encI v72 l71 :: hownT 3 1 encI v74 l73 :: hcells b10 [v3, v19, v40, v36, .bool c75] 71 :: hownT 29 1 encU v19 l18 :: hown 36 1 v36 l35.length us37 :: hown 36 1 v40 l39.length us41 :: hownT 29 1 encU v3 r1.1 :: l⟩ ∧ n = (n_0 - t_106).toNat ∧ 0 ≤ t_106 ∧ forK (σ := (List Int) × (List Int) × Bool) (fun i s nx_ => lattice_build_b107 r1 l18 t_58 i s.1 s.2.1 s.2.2 nx_) (fun s => lattice_build_k81 l35 l39 nx60 s.1 s.2.1 s.2.2) n t_106 (l71, l73, c75) = some r) _ ((0 : Int), ([] : List Int), ([] : List Int), c34) ⟨_, _, rfl, rfl, rfl, (by omega), hr⟩ ?_
          rintro n109 ⟨t_106, l71, l73, c75⟩ env x ⟨v72, v74, rfl, rfl, hnt_106, h0t_106, hr⟩
          cases n109 with
          | zero =>
            simp only [forK] at hr
            refine Tr.seq ?_
            refine Tr.region_f (fun _ => false) ?_
            refine W.q rfl rfl rfl rfl (by decide) (Yd.lss rfl (.t rfl) (.t rfl)) ?_
            refine W.end ?_
            refine NX.sub (env' := [(0, _), (6, _), (8, _), (12, _), (13, _), (14, _), (60, _), (61, _), (64, _), (65, _), (66, _)]) ⟨rfl, rfl, rfl, rfl, rfl, rfl, rfl, rfl, rfl, rfl, rfl, trivial⟩ ?_
            refine NX.then ?_
            refine Tr.seq ?_
            refine Tr.cond (.t rfl) (fun hb => ?_) (fun hb => ?_)
            · exact absurd (hb.symm.trans (fr_end hnt_106)) (by decide)
            ·
              refine Tr.exit' (EX.then (EX.then (EX.block ?_)))
              refine NX.sub (env' := [(0, _), (6, _), (8, _), (60, _), (61, _), (13, _), (14, _)]) ⟨rfl, rfl, rfl, rfl, rfl, rfl, rfl, trivial⟩ ?_
              exact hk82 _ _ ⟨_, _, _, _, _, rfl, rfl, hr⟩
          | succ n109 =>
            obtain ⟨nx108, hnx108, hr⟩ := forK_succ hr
            try dsimp only at hr
            unfold lattice_build_b107 at hr
            try dsimp only at hr
            have hltt_106 := fr_bnd hnt_106
            refine Tr.seq ?_
            refine Tr.region_f (fun _ => false) ?_
            refine W.q rfl rfl rfl rfl (by decide) (Yd.lss rfl (.t rfl) (.t rfl)) ?_
            refine W.end ?_
            refine NX.sub (env' := [(0, _), (6, _), (8, _), (12, _), (13, _), (14, _), (60, _), (61, _), (64, _), (65, _), (66, _)]) ⟨rfl, rfl, rfl, rfl, rfl, rfl, rfl, rfl, rfl, rfl, rfl, trivial⟩ ?_
            refine NX.then ?_
            refine Tr.seq ?_
            refine Tr.cond (.t rfl) (fun hb => ?_) (fun hb => ?_)
            rotate_left
            · exact absurd (hb.symm.trans (fr_go hnt_106)) (by decide)
            ·
              refine Tr.skip' ?_
              refine NX.then ?_
              refine Tr.seq ?_
              refine Tr.block ?_
              refine Tr.seq ?_
              refine Tr.region_f (fun _ => false) ?_
              refine W.q rfl rfl rfl rfl (by decide) (Yd.mv rfl (.t rfl)) ?_
              refine W.q rfl rfl rfl rfl (by decide) (Yd.as rfl (.t rfl)) ?_
              refine W.end ?_
              refine NX.sub (env' := [(0, _), (6, _), (8, _), (12, _), (13, _), (14, _), (60, _), (61, _), (64, _), (65, _), (15, _)]) ⟨rfl, rfl, rfl, rfl, rfl, rfl, rfl, rfl, rfl, rfl, rfl, trivial⟩ ?_
              refine NX.then ?_
              refine Tr.seq ?_
              obtain ⟨y110, hy111, hr⟩ := bind_some hr
              obtain ⟨y112, hy113, hr⟩ := bind_some hr
              obtain ⟨r114, hr115, hr⟩ := bind_some hr
              obtain ⟨y116, hy117, hr⟩ := bind_some hr
              obtain ⟨y118, hy119, hr⟩ := bind_some hr
              obtain ⟨r120, hr121, hr⟩ := bind_some hr
              refine Tr.region_x (fun _ => false) (fun _ => false) (Ord.of [0, 1, 2, 3, 4, 5, 6, 7, 8, 9, 10, 11, 12, 13, 14, 15, 16, 17, 18, 19, 20, 21, 22, 23, 24, 25, 26, 27, 28, 29, 30, 31, 32]) FM (by kernel_rfl) ?_
              refine W.q rfl rfl rfl rfl (by decide) (Yd.mv rfl (.t rfl)) ?_
              refine W.q rfl rfl rfl rfl (by decide) (Yd.mv rfl (.t rfl)) ?_
              refine W.q rfl rfl rfl rfl (by decide) (Yd.mv rfl (.t rfl)) ?_
              refine W.q rfl rfl rfl rfl (by decide) (Yd.idxT (pos := 6) rfl hy111 rfl Try.underlying23 SZ29 (.t rfl) (.t rfl)) ?_
              refine W.q rfl rfl rfl rfl (by decide) (Yd.ldT (enc := encU) (n := 1) (pos := 6) (fun _ => rfl) rfl hy111 rfl rfl ON29 (.t rfl)) ?_
              refine W.q rfl rfl rfl rfl (by decide) (Yd.mv rfl (.t rfl)) ?_
              refine W.q rfl rfl rfl rfl (by decide) (Yd.mv rfl (.t rfl)) ?_
              refine W.q rfl rfl rfl rfl (by decide) (Yd.idxT (pos := 6) rfl hy113 rfl Try.underlying23 SZ29 (.t rfl) (.t rfl)) ?_
              refine W.q rfl rfl rfl rfl (by decide) (Yd.ldT (enc := encU) (n := 1) (pos := 6) (fun _ => rfl) rfl hy113 rfl rfl ON29 (.t rfl)) ?_
              refine W.q rfl rfl rfl rfl (by decide) (Yd.andU (a := y110) (b := y112) rfl (.t rfl) (.t rfl)) ?_
              refine W.q rfl rfl rfl rfl (by decide) (Yd.call (v := .int .i64 r114) rfl Try.func59 rfl rfl (.cons (.t rfl) (.cons (.t rfl) .nil)) (by intro x' hx w hw; obtain ⟨p0, hp0⟩ := hx.at (p := 6) rfl; obtain ⟨m2, hm2, hc2, ⟨L2, hl1, hl2⟩, hback⟩ := cX_lend hw hp0 lone_own; have hL1 : RS rU m2 _ _ := RS_of_own hl1 hl2; exact (lattice_least_ok w0 m2 _ _ _ hL1 ((y110 &&& y112)) _ hr115 w hc2).mono fun e w' ⟨he, hc'⟩ => ⟨he, (hback m2 _ _ w' (.refl _) hp0).2 hc'⟩)) ?_
              refine W.q rfl rfl rfl rfl (by decide) (Yd.mv rfl (.t rfl)) ?_
              refine W.q rfl rfl rfl rfl (by decide) (Yd.nilc rfl (.t rfl)) ?_
              refine W.q rfl rfl rfl rfl (by decide) (Yd.fldB rfl Try.underlying71 rfl SZ23 rfl (.t rfl)) ?_
              refine W.q rfl rfl rfl rfl (by decide) (Yd.ldB (pos := 2) rfl rfl rfl ON23 (.t rfl)) ?_
              refine W.q rfl rfl rfl rfl (by decide) (Yd.mv rfl (.t rfl)) ?_
              refine W.q rfl rfl rfl rfl (by decide) (Yd.nilc rfl (.t rfl)) ?_
              refine W.q rfl rfl rfl rfl (by decide) (Yd.fldB rfl Try.underlying71 rfl SZ23 rfl (.t rfl)) ?_
              refine W.q rfl rfl rfl rfl (by decide) (Yd.ldB (pos := 2) rfl rfl rfl ON23 (.t rfl)) ?_
              refine W.q rfl rfl rfl rfl (by decide) (Yd.mv rfl (.t rfl)) ?_
              refine W.q rfl rfl rfl rfl (by decide) (Yd.idxT (pos := 3) rfl hy117 rfl Try.underlying23 SZ29 (.t rfl) (.t rfl)) ?_
              refine W.q rfl rfl rfl rfl (by decide) (Yd.ldT (enc := encU) (n := 1) (pos := 3) (fun _ => rfl) rfl hy117 rfl rfl ON29 (.t rfl)) ?_
              refine W.q rfl rfl rfl rfl (by decide) (Yd.mv rfl (.t rfl)) ?_
              refine W.q rfl rfl rfl rfl (by decide) (Yd.nilc rfl (.t rfl)) ?_
              refine W.q rfl rfl rfl rfl (by decide) (Yd.fldB rfl Try.underlying71 rfl SZ23 rfl (.t rfl)) ?_
              refine W.q rfl rfl rfl rfl (by decide) (Yd.ldB (pos := 2) rfl rfl rfl ON23 (.t rfl)) ?_
              refine W.q rfl rfl rfl rfl (by decide) (Yd.mv rfl (.t rfl)) ?_
              refine W.q rfl rfl rfl rfl (by decide) (Yd.idxT (pos := 3) rfl hy119 rfl Try.underlying23 SZ29 (.t rfl) (.t rfl)) ?_
              refine W.q rfl rfl rfl rfl (by decide) (Yd.ldT (enc := encU) (n := 1) (pos := 3) (fun _ => rfl) rfl hy119 rfl rfl ON29 (.t rfl)) ?_
              refine W.q rfl rfl rfl rfl (by decide) (Yd.andU (a := y116) (b := y118) rfl (.t rfl) (.t rfl)) ?_
              refine W.q rfl rfl rfl rfl (by decide) (Yd.call (v := .int .i64 r120) rfl Try.func59 rfl rfl (.cons (.t rfl) (.cons (.t rfl) .nil)) (by intro x' hx w hw; obtain ⟨p0, hp0⟩ := hx.at (p := 3) rfl; obtain ⟨m2, hm2, hc2, ⟨L2, hl1, hl2⟩, hback⟩ := cX_lend hw hp0 lone_own; have hL1 : RS rU m2 _ _ := RS_of_own hl1 hl2; exact (lattice_least_ok w0 m2 _ _ _ hL1 ((y116 &&& y118)) _ hr121 w hc2).mono fun e w' ⟨he, hc'⟩ => ⟨he, (hback m2 _ _ w' (.refl _) hp0).2 hc'⟩)) ?_
              refine W.q rfl rfl rfl rfl (by decide) (Yd.as rfl (.t rfl)) ?_
              refine W.q rfl rfl rfl rfl (by decide) (Yd.as rfl (.t rfl)) ?_
              refine W.end ?_
              refine NX.sub (env' := [(0, _), (6, _), (8, _), (12, _), (13, _), (14, _), (60, _), (61, _), (64, _), (65, _), (16, _), (17, _)]) ⟨rfl, rfl, rfl, rfl, rfl, rfl, rfl, rfl, rfl, rfl, rfl, rfl, trivial⟩ ?_
              refine NX.then ?_
              refine Tr.seq ?_
              obtain ⟨hq125, hr⟩ := guard_some hr; replace hq125 := of_decide_eq_true hq125
              obtain ⟨hq129, hr⟩ := guard_some hr; replace hq129 := of_decide_eq_true hq129
              refine Tr.region_f (fun i => Nat.beq i 2 || Nat.beq i 3 || Nat.beq i 6 || Nat.beq i 7) ?_
              refine W.q rfl rfl rfl rfl (by decide) (Yd.mv rfl (.t rfl)) ?_
              refine W.q rfl rfl rfl rfl (by decide) (Yd.mv rfl (.t rfl)) ?_
              refine W.e rfl rfl rfl rfl (by decide) (Ef.bsT (enc := encI) (vs := [_]) (ys := [r114]) (fun _ => rfl) IF3 rfl Try.underlying36 (by decide) rfl (.cons (.t rfl) .nil) rfl rfl (by decide)) ?_
              rintro v122 _ rfl
              refine ⟨.inl rfl, ?_⟩
              refine W.cast (m' := m43) (l' := hownT 3 1 encI v122 _ :: hownT 3 1 encI v72 _ :: hownT 3 1 encI v74 _ :: hcells b10 [_, _, _, _, _] 71 :: hownT 29 1 encU v19 _ :: hown 36 1 v36 _ _ :: hown 36 1 v40 _ _ :: hownT 29 1 encU v3 _ :: l) rfl rfl ?_
              refine W.e rfl rfl rfl rfl (by decide) (Ef.apI (pos := 2) (enc := encI) (xs := l73) (ys := ([r114] : List Int)) (fun _ => rfl) IF3 rfl rfl Try.underlying36 rfl (by decide) (.t rfl) (.t rfl) (Src.own (pos := 0) rfl) (fun _ => rfl) (by omega) (by omega)) ?_
              rintro v124 _ rfl
              refine ⟨.inl rfl, ?_⟩
              refine W.cast (m' := m43) (l' := hownT 3 1 encI v122 _ :: hownT 3 1 encI v72 _ :: hownT 3 1 encI v124 _ :: hcells b10 [_, _, _, _, _] 71 :: hownT 29 1 encU v19 _ :: hown 36 1 v36 _ _ :: hown 36 1 v40 _ _ :: hownT 29 1 encU v3 _ :: l) rfl rfl ?_
              refine W.q rfl rfl rfl rfl (by decide) (Yd.mv rfl (.t rfl)) ?_
              refine W.q rfl rfl rfl rfl (by decide) (Yd.mv rfl (.t rfl)) ?_
              refine W.e rfl rfl rfl rfl (by decide) (Ef.bsT (enc := encI) (vs := [_]) (ys := [r120]) (fun _ => rfl) IF3 rfl Try.underlying36 (by decide) rfl (.cons (.t rfl) .nil) rfl rfl (by decide)) ?_
              rintro v126 _ rfl
              refine ⟨.inl rfl, ?_⟩
              refine W.cast (m' := m43) (l' := hownT 3 1 encI v126 _ :: hownT 3 1 encI v122 _ :: hownT 3 1 encI v72 _ :: hownT 3 1 encI v124 _ :: hcells b10 [_, _, _, _, _] 71 :: hownT 29 1 encU v19 _ :: hown 36 1 v36 _ _ :: hown 36 1 v40 _ _ :: hownT 29 1 encU v3 _ :: l) rfl rfl ?_
              refine W.e rfl rfl rfl rfl (by decide) (Ef.apI (pos := 2) (enc := encI) (xs := l71) (ys := ([r120] : List Int)) (fun _ => rfl) IF3 rfl rfl Try.underlying36 rfl (by decide) (.t rfl) (.t rfl) (Src.own (pos := 0) rfl) (fun _ => rfl) (by omega) (by omega)) ?_
              rintro v128 _ rfl
              refine ⟨.inl rfl, ?_⟩
              refine W.cast (m' := m43) (l' := hownT 3 1 encI v126 _ :: hownT 3 1 encI v122 _ :: hownT 3 1 encI v128 _ :: hownT 3 1 encI v124 _ :: hcells b10 [_, _, _, _, _] 71 :: hownT 29 1 encU v19 _ :: hown 36 1 v36 _ _ :: hown 36 1 v40 _ _ :: hownT 29 1 encU v3 _ :: l) rfl rfl ?_
              refine W.q rfl rfl rfl rfl (by decide) (Yd.as rfl (.t rfl)) ?_
              refine W.q rfl rfl rfl rfl (by decide) (Yd.as rfl (.t rfl)) ?_
              refine W.end ?_
              refine NX.sub (env' := [(0, _), (6, _), (8, _), (12, _), (13, _), (14, _), (60, _), (61, _), (64, _), (65, _), (16, _), (17, _)]) ⟨rfl, rfl, rfl, rfl, rfl, rfl, rfl, rfl, rfl, rfl, rfl, rfl, trivial⟩ ?_
              refine NX.drop (l' := hownT 3 1 encI v128 _ :: hownT 3 1 encI v124 _ :: hcells b10 [_, _, _, _, _] 71 :: hownT 29 1 encU v19 _ :: hown 36 1 v36 _ _ :: hown 36 1 v40 _ _ :: hownT 29 1 encU v3 _ :: l) (.cons _ (.cons _ (.cons_cons _ (.cons_cons _ (.cons_cons _ (.cons_cons _ (.cons_cons _ (.cons_cons _ (.cons_cons _ (.refl _)))))))))) ?_
              refine NX.then ?_
              refine Tr.region_f (fun i => Nat.beq i 15) ?_
              refine W.q rfl rfl rfl rfl (by decide) (Yd.mv rfl (.t rfl)) ?_
              refine W.q rfl rfl rfl rfl (by decide) (Yd.mv rfl (.t rfl)) ?_
              refine W.q rfl rfl rfl rfl (by decide) (Yd.nilc rfl (.t rfl)) ?_
              refine W.q rfl rfl rfl rfl (by decide) (Yd.fldB rfl Try.underlying71 rfl SZ4 rfl (.t rfl)) ?_
              refine W.q rfl rfl rfl rfl (by decide) (Yd.ldB (pos := 2) rfl rfl rfl ON4 (.t rfl)) ?_
              refine W.q rfl rfl rfl rfl (by decide) (Yd.mv rfl (.t rfl)) ?_
              refine W.g rfl rfl rfl rfl rfl (.t rfl _) rfl (by decide) (fun hG => Yd.mv rfl (.t rfl)) ?_
              refine W.g rfl rfl rfl rfl rfl (.t rfl _) rfl (by decide) (fun hG => Yd.geq rfl (.g rfl hG) .c) ?_
              refine W.q rfl rfl rfl rfl (by decide) (Yd.and rfl (.t rfl) .c rfl rfl) ?_
              refine W.q rfl rfl rfl rfl (by decide) (Yd.mv rfl (.t rfl)) ?_
              refine W.g rfl rfl rfl rfl rfl (.t rfl _) rfl (by decide) (fun hG => Yd.mv rfl (.t rfl)) ?_
              refine W.g rfl rfl rfl rfl rfl (.t rfl _) rfl (by decide) (fun hG => Yd.geq rfl (.g rfl hG) .c) ?_
              refine W.q rfl rfl rfl rfl (by decide) (Yd.and rfl (.t rfl) .c rfl rfl) ?_
              refine W.q rfl rfl rfl rfl (by decide) (Yd.nilc rfl (.t rfl)) ?_
              refine W.q rfl rfl rfl rfl (by decide) (Yd.fldB rfl Try.underlying71 rfl SZ4 rfl (.t rfl)) ?_
              refine W.s rfl rfl rfl rfl (Ef.stB (pos := 2) (us := [_]) (cs' := [_, _, _, _, _]) rfl rfl (.t rfl) (.t rfl) SZ4 rfl rfl rfl (Nat.le_of_ble_eq_true rfl) rfl) ?_
              rintro _ _ ⟨rfl, rfl⟩
              refine ⟨.inl rfl, ?_⟩
              refine W.cast (m' := m43) (l' := hownT 3 1 encI v128 _ :: hownT 3 1 encI v124 _ :: hcells b10 [_, _, _, _, _] 71 :: hownT 29 1 encU v19 _ :: hown 36 1 v36 _ _ :: hown 36 1 v40 _ _ :: hownT 29 1 encU v3 _ :: l) rfl rfl ?_
              refine W.end ?_
              refine NX.sub (env' := [(0, _), (6, _), (8, _), (12, _), (13, _), (14, _), (60, _), (61, _), (64, _), (65, _)]) ⟨rfl, rfl, rfl, rfl, rfl, rfl, rfl, rfl, rfl, rfl, trivial⟩ ?_
              refine NX.block ?_
              refine NX.then ?_
              refine Tr.region_f (fun _ => false) ?_
              refine W.q rfl rfl rfl rfl (by decide) (Yd.add rfl (.t rfl) .c) ?_
              refine W.q rfl rfl rfl rfl (by decide) (Yd.mv rfl (.t rfl)) ?_
              refine W.end ?_
              refine NX.sub (env' := [(0, _), (6, _), (8, _), (12, _), (13, _), (14, _), (60, _), (61, _), (64, _), (65, _)]) ⟨rfl, rfl, rfl, rfl, rfl, rfl, rfl, rfl, rfl, rfl, trivial⟩ ?_
              refine NX.sub (env' := [(0, _), (6, _), (8, _), (12, _), (13, _), (14, _), (60, _), (61, _), (64, _), (65, _)]) ⟨rfl, rfl, rfl, rfl, rfl, rfl, rfl, rfl, rfl, rfl, trivial⟩ ?_
              have hw := w64_id (n := t_106 + 1) (by omega) (by omega)
              exact NX.again n109 (t_106 + 1, (l71 ++ ([r120] : List Int)), (l73 ++ ([r114] : List Int)), ((c75 && (decide (r114 ≥ (0 : Int)))) && (decide (r120 ≥ (0 : Int))))) (Nat.lt_succ_self _) ⟨_, _, (by rw [hw] <;> rfl), rfl, (fr_dec hnt_106), (by omega), ((hnx108 _).symm.trans hr)⟩
    refine Tr.lenO (pos := 4) rfl (fun hlen130 => ?_)
    refine Tr.block ?_
    refine Tr.sub (env' := [(0, _), (6, _), (8, _), (32, _), (33, _), (34, _)]) ⟨rfl, rfl, rfl, rfl, rfl, rfl, trivial⟩ ?_
    refine Tr.loop (S := fun n (z : Int × (List (BitVec 32))) env x => match z with | (t_131, l16) => ∃ v17 : Value, env = [(0, .int .i64 n_0), (6, v3), (8, bp b10 0), (32, v3), (33, .int .i64 ((r1.1.length : Int))), (34, .int .i64 t_131)] ∧ x = ⟨m, hcells b10 [v3, v17, (.slice none 0 0), (.slice none 0 0), .bool true] 71 :: hownT 29 1 encU v17 l16 :: hown 36 1 (.slice none 0 0) (([] : List (List Int))).length [] :: hown 36 1 (.slice none 0 0) (([] : List (List Int))).length [] :: hownT 29 1 encU v3 r1.1 :: l⟩ ∧ n = ((r1.1.length : Int) - t_131).toNat ∧ 0 ≤ t_131 ∧ forK (σ := (List (BitVec 32))) (fun i s nx_ => lattice_build_b132 n_0 r1 i s nx_) (fun s => lattice_build_k20 n_0 r1 s) n t_131 l16 = some r) _ ((0 : Int), (List.replicate n_0.toNat (0#32))) ⟨_, rfl, rfl, rfl, (by omega), hr⟩ ?_
    rintro n134 ⟨t_131, l16⟩ env x ⟨v17, rfl, rfl, hnt_131, h0t_131, hr⟩
    cases n134 with
    | zero =>
      simp only [forK] at hr
      refine Tr.seq ?_
      refine Tr.region_f (fun _ => false) ?_
      refine W.q rfl rfl rfl rfl (by decide) (Yd.lss rfl (.t rfl) (.t rfl)) ?_
      refine W.end ?_
      refine NX.sub (env' := [(0, _), (6, _), (8, _), (32, _), (33, _), (34, _), (35, _)]) ⟨rfl, rfl, rfl, rfl, rfl, rfl, rfl, trivial⟩ ?_
      refine NX.then ?_
      refine Tr.seq ?_
      refine Tr.cond (.t rfl) (fun hb => ?_) (fun hb => ?_)
      · exact absurd (hb.symm.trans (fr_end hnt_131)) (by decide)
      ·
        refine Tr.exit' (EX.then (EX.then (EX.block ?_)))
        refine NX.sub (env' := [(0, _), (6, _), (8, _)]) ⟨rfl, rfl, rfl, trivial⟩ ?_
        exact hk21 _ _ ⟨_, _, rfl, rfl, hr⟩
    | succ n134 =>
      obtain ⟨nx133, hnx133, hr⟩ := forK_succ hr
      try dsimp only at hr
      unfold lattice_build_b132 at hr
      try dsimp only at hr
      have hltt_131 := fr_bnd hnt_131
      refine Tr.seq ?_
      refine Tr.region_f (fun _ => false) ?_
      refine W.q rfl rfl rfl rfl (by decide) (Yd.lss rfl (.t rfl) (.t rfl)) ?_
      refine W.end ?_
      refine NX.sub (env' := [(0, _), (6, _), (8, _), (32, _), (33, _), (34, _), (35, _)]) ⟨rfl, rfl, rfl, rfl, rfl, rfl, rfl, trivial⟩ ?_
      refine NX.then ?_
      refine Tr.seq ?_
      refine Tr.cond (.t rfl) (fun hb => ?_) (fun hb => ?_)
      rotate_left
      · exact absurd (hb.symm.trans (fr_go hnt_131)) (by decide)
      ·
        refine Tr.skip' ?_
        refine NX.then ?_
        refine Tr.seq ?_
        refine Tr.block ?_
        refine Tr.seq ?_
        obtain ⟨y135, hy136, hr⟩ := bind_some hr
        refine Tr.region_f (fun _ => false) ?_
        refine W.q rfl rfl rfl rfl (by decide) (Yd.mv rfl (.t rfl)) ?_
        refine W.q rfl rfl rfl rfl (by decide) (Yd.idxT (pos := 4) rfl hy136 rfl Try.underlying23 SZ29 (.t rfl) (.t rfl)) ?_
        refine W.q rfl rfl rfl rfl (by decide) (Yd.ldT (enc := encU) (n := 1) (pos := 4) (fun _ => rfl) rfl hy136 rfl rfl ON29 (.t rfl)) ?_
        refine W.q rfl rfl rfl rfl (by decide) (Yd.as rfl (.t rfl)) ?_
        refine W.q rfl rfl rfl rfl (by decide) (Yd.as rfl (.t rfl)) ?_
        refine W.end ?_
        refine NX.sub (env' := [(0, _), (6, _), (8, _), (32, _), (33, _), (34, _), (9, _), (10, _)]) ⟨rfl, rfl, rfl, rfl, rfl, rfl, rfl, rfl, trivial⟩ ?_
        refine NX.then ?_
        refine Tr.seq ?_
        refine Tr.region_f (fun _ => false) ?_
        refine W.q rfl rfl rfl rfl (by decide) (Yd.mv rfl (.t rfl)) ?_
        refine W.q rfl rfl rfl rfl (by decide) (Yd.mv rfl .c) ?_
        refine W.end ?_
        refine NX.sub (env' := [(0, _), (6, _), (8, _), (32, _), (33, _), (34, _), (9, _), (10, _), (39, _), (40, _)]) ⟨rfl, rfl, rfl, rfl, rfl, rfl, rfl, rfl, rfl, rfl, trivial⟩ ?_
        refine NX.then ?_
        refine Tr.join (S := fun env x => ∃ l143 : List (BitVec 32), ∃ v144 : Value, env = [(0, .int .i64 n_0), (6, v3), (8, bp b10 0), (32, v3), (33, .int .i64 ((r1.1.length : Int))), (34, .int .i64 t_131)] ∧ x = ⟨m, hcells b10 [v3, v144, (.slice none 0 0), (.slice none 0 0), .bool true] 71 :: hownT 29 1 encU v144 l143 :: hown 36 1 (.slice none 0 0) (([] : List (List Int))).length [] :: hown 36 1 (.slice none 0 0) (([] : List (List Int))).length [] :: hownT 29 1 encU v3 r1.1 :: l⟩ ∧ lattice_build_k145 nx133 l143 = some r) ?_ (fun hk146 => ?_)
        · rintro _ _ ⟨l143, v144, rfl, rfl, hr⟩
          unfold lattice_build_k145 at hr
          try dsimp only at hr
          refine NX.block ?_
          refine NX.then ?_
          refine Tr.region_f (fun _ => false) ?_
          refine W.q rfl rfl rfl rfl (by decide) (Yd.add rfl (.t rfl) .c) ?_
          refine W.q rfl rfl rfl rfl (by decide) (Yd.mv rfl (.t rfl)) ?_
          refine W.end ?_
          refine NX.sub (env' := [(0, _), (6, _), (8, _), (32, _), (33, _), (34, _)]) ⟨rfl, rfl, rfl, rfl, rfl, rfl, trivial⟩ ?_
          refine NX.sub (env' := [(0, _), (6, _), (8, _), (32, _), (33, _), (34, _)]) ⟨rfl, rfl, rfl, rfl, rfl, rfl, trivial⟩ ?_
          have hw := w64_id (n := t_131 + 1) (by omega) (by omega)
          exact NX.again n134 (t_131 + 1, l143) (Nat.lt_succ_self _) ⟨_, (by rw [hw] <;> rfl), rfl, (fr_dec hnt_131), (by omega), ((hnx133 _).symm.trans hr)⟩
        obtain ⟨hle147, hr⟩ := guard_some hr; replace hle147 := of_decide_eq_true hle147
        refine Tr.block ?_
        refine Tr.sub (env' := [(0, _), (6, _), (8, _), (9, _), (10, _), (32, _), (33, _), (34, _), (39, _), (40, _)]) ⟨rfl, rfl, rfl, rfl, rfl, rfl, rfl, rfl, rfl, rfl, trivial⟩ ?_
        refine Tr.loop (S := fun n (z : Int × (List (BitVec 32))) env x => match z with | (t_148, l141) => ∃ v142 : Value, env = [(0, .int .i64 n_0), (6, v3), (8, bp b10 0), (9, .int .i64 t_131), (10, .int .u32 (y135.toNat : Int)), (32, v3), (33, .int .i64 ((r1.1.length : Int))), (34, .int .i64 t_131), (39, .int .i64 n_0), (40, .int .i64 t_148)] ∧ x = ⟨m, hcells b10 [v3, v142, (.slice none 0 0), (.slice none 0 0), .bool true] 71 :: hownT 29 1 encU v142 l141 :: hown 36 1 (.slice none 0 0) (([] : List (List Int))).length [] :: hown 36 1 (.slice none 0 0) (([] : List (List Int))).length [] :: hownT 29 1 encU v3 r1.1 :: l⟩ ∧ n = (n_0 - t_148).toNat ∧ 0 ≤ t_148 ∧ forK (σ := (List (BitVec 32))) (fun i s nx_ => lattice_build_b149 t_131 y135 i s nx_) (fun s => lattice_build_k145 nx133 s) n t_148 l141 = some r) _ ((0 : Int), l16) ⟨_, rfl, rfl, rfl, (by omega), hr⟩ ?_
        rintro n151 ⟨t_148, l141⟩ env x ⟨v142, rfl, rfl, hnt_148, h0t_148, hr⟩
        cases n151 with
        | zero =>
          simp only [forK] at hr
          refine Tr.seq ?_
          refine Tr.region_f (fun _ => false) ?_
          refine W.q rfl rfl rfl rfl (by decide) (Yd.lss rfl (.t rfl) (.t rfl)) ?_
          refine W.end ?_
          refine NX.sub (env' := [(0, _), (6, _), (8, _), (9, _), (10, _), (32, _), (33, _), (34, _), (39, _), (40, _), (41, _)]) ⟨rfl, rfl, rfl, rfl, rfl, rfl, rfl, rfl, rfl, rfl, rfl, trivial⟩ ?_
          refine NX.then ?_
          refine Tr.seq ?_
          refine Tr.cond (.t rfl) (fun hb => ?_) (fun hb => ?_)
          · exact absurd (hb.symm.trans (fr_end hnt_148)) (by decide)
          ·
            refine Tr.exit' (EX.then (EX.then (EX.block ?_)))
            refine NX.sub (env' := [(0, _), (6, _), (8, _), (32, _), (33, _), (34, _)]) ⟨rfl, rfl, rfl, rfl, rfl, rfl, trivial⟩ ?_
            exact hk146 _ _ ⟨_, _, rfl, rfl, hr⟩
        | succ n151 =>
          obtain ⟨nx150, hnx150, hr⟩ := forK_succ hr
          try dsimp only at hr
          unfold lattice_build_b149 at hr
          try dsimp only at hr
          have hltt_148 := fr_bnd hnt_148
          refine Tr.seq ?_
          refine Tr.region_f (fun _ => false) ?_
          refine W.q rfl rfl rfl rfl (by decide) (Yd.lss rfl (.t rfl) (.t rfl)) ?_
          refine W.end ?_
          refine NX.sub (env' := [(0, _), (6, _), (8, _), (9, _), (10, _), (32, _), (33, _), (34, _), (39, _), (40, _), (41, _)]) ⟨rfl, rfl, rfl, rfl, rfl, rfl, rfl, rfl, rfl, rfl, rfl, trivial⟩ ?_
          refine NX.then ?_
          refine Tr.seq ?_
          refine Tr.cond (.t rfl) (fun hb => ?_) (fun hb => ?_)
          rotate_left
          · exact absurd (hb.symm.trans (fr_go hnt_148)) (by decide)
          ·
            refine Tr.skip' ?_
            refine NX.then ?_
            refine Tr.seq ?_
            refine Tr.block ?_
            refine Tr.seq ?_
            refine Tr.region_f (fun _ => false) ?_
            refine W.q rfl rfl rfl rfl (by decide) (Yd.mv rfl (.t rfl)) ?_
            refine W.q rfl rfl rfl rfl (by decide) (Yd.as rfl (.t rfl)) ?_
            refine W.end ?_
            refine NX.sub (env' := [(0, _), (6, _), (8, _), (9, _), (10, _), (32, _), (33, _), (34, _), (39, _), (40, _), (11, _)]) ⟨rfl, rfl, rfl, rfl, rfl, rfl, rfl, rfl, rfl, rfl, rfl, trivial⟩ ?_
            refine NX.then ?_
            obtain ⟨y152, hy153, hr⟩ := bind_some hr
            refine Tr.region_x (fun i => Nat.beq i 15) (fun i => Nat.beq i 15) (Ord.of [0, 1, 2, 3, 4, 5, 6, 7, 8, 9, 10, 11, 12, 13, 14, 15]) FM (by kernel_rfl) ?_
            refine W.q rfl rfl rfl rfl (by decide) (Yd.mv rfl (.t rfl)) ?_
            refine W.q rfl rfl rfl rfl (by decide) (Yd.nilc rfl (.t rfl)) ?_
            refine W.q rfl rfl rfl rfl (by decide) (Yd.fldB rfl Try.underlying71 rfl SZ23 rfl (.t rfl)) ?_
            refine W.q rfl rfl rfl rfl (by decide) (Yd.ldB (pos := 0) rfl rfl rfl ON23 (.t rfl)) ?_
            refine W.q rfl rfl rfl rfl (by decide) (Yd.mv rfl (.t rfl)) ?_
            refine W.q rfl rfl rfl rfl (by decide) (Yd.idxT (pos := 1) rfl hy153 rfl Try.underlying23 SZ29 (.t rfl) (.t rfl)) ?_
            refine W.q rfl rfl rfl rfl (by decide) (Yd.ldT (enc := encU) (n := 1) (pos := 1) (fun _ => rfl) rfl hy153 rfl rfl ON29 (.t rfl)) ?_
            refine W.q rfl rfl rfl rfl (by decide) (Yd.mv rfl (.t rfl)) ?_
            refine W.q rfl rfl rfl rfl (by decide) (Yd.mv rfl (.t rfl)) ?_
            refine W.q rfl rfl rfl rfl (by decide) (Yd.shrU (a := y135) rfl (.t rfl) (.t rfl) h0t_148) ?_
            refine W.q rfl rfl rfl rfl (by decide) (Yd.andU (a := (y135 >>> t_148.toNat)) (b := 1#32) rfl (.t rfl) .c) ?_
            refine W.q rfl rfl rfl rfl (by decide) (Yd.mv rfl (.t rfl)) ?_
            refine W.q rfl rfl rfl rfl (by decide) (Yd.shlU (a := ((y135 >>> t_148.toNat) &&& 1#32)) rfl (.t rfl) (.t rfl) h0t_131) ?_
            refine W.q rfl rfl rfl rfl (by decide) (Yd.orU (a := y152) (b := (((y135 >>> t_148.toNat) &&& 1#32) <<< t_131.toNat)) rfl (.t rfl) (.t rfl)) ?_
            refine W.q rfl rfl rfl rfl (by decide) (Yd.idxT (pos := 1) rfl hy153 rfl Try.underlying23 SZ29 (.t rfl) (.t rfl)) ?_
            refine W.s rfl rfl rfl rfl (Ef.stT (enc := encU) (n := 1) (pos := 1) (y := (y152 ||| (((y135 >>> t_148.toNat) &&& 1#32) <<< t_131.toNat))) (us := [_]) (fun _ => rfl) rfl hy153 rfl (.t rfl) (.t rfl) SZ29 rfl rfl rfl (by decide)) ?_
            rintro _ _ ⟨rfl, rfl⟩
            refine ⟨.inl rfl, ?_⟩
            refine W.cast (m' := m) (l' := hcells b10 [_, _, _, _, _] 71 :: hownT 29 1 encU v142 _ :: hown 36 1 (.slice none 0 0) _ _ :: hown 36 1 (.slice none 0 0) _ _ :: hownT 29 1 encU v3 _ :: l) rfl rfl ?_
            refine W.end ?_
            refine NX.sub (env' := [(0, _), (6, _), (8, _), (9, _), (10, _), (32, _), (33, _), (34, _), (39, _), (40, _)]) ⟨rfl, rfl, rfl, rfl, rfl, rfl, rfl, rfl, rfl, rfl, trivial⟩ ?_
            refine NX.block ?_
            refine NX.then ?_
            refine Tr.region_f (fun _ => false) ?_
            refine W.q rfl rfl rfl rfl (by decide) (Yd.add rfl (.t rfl) .c) ?_
            refine W.q rfl rfl rfl rfl (by decide) (Yd.mv rfl (.t rfl)) ?_
            refine W.end ?_
            refine NX.sub (env' := [(0, _), (6, _), (8, _), (9, _), (10, _), (32, _), (33, _), (34, _), (39, _), (40, _)]) ⟨rfl, rfl, rfl, rfl, rfl, rfl, rfl, rfl, rfl, rfl, trivial⟩ ?_
            refine NX.sub (env' := [(0, _), (6, _), (8, _), (9, _), (10, _), (32, _), (33, _), (34, _), (39, _), (40, _)]) ⟨rfl, rfl, rfl, rfl, rfl, rfl, rfl, rfl, rfl, rfl, trivial⟩ ?_
            have hw := w64_id (n := t_148 + 1) (by omega) (by omega)
            exact NX.again n151 (t_148 + 1, (l141.set t_148.toNat ((y152 ||| (((y135 >>> t_148.toNat) &&& 1#32) <<< t_131.toNat))))) (Nat.lt_succ_self _) ⟨_, (by rw [hw] <;> rfl), rfl, (fr_dec hnt_148), (by omega), ((hnx150 _).symm.trans hr)⟩

def lattice_Join_c1 (t_0 : Option T71) : Option ((List (List Int))) :=
  (t_0).bind fun x1 =>
  some x1.join

set_option maxRecDepth 100000 in
theorem lattice_Join_c1_ok (w0 : World) (m : Snap) (l : List HI) (ut_0 : Value) (t_0 : Option T71) (ht_0 : P71 m ut_0 t_0) (r : (List (List Int))) (hr : lattice_Join_c1 t_0 = some r) (w : World) (hc : cX w0 ⟨m, l⟩ w) :
    Calls Try.prog 53 [ut_0].toArray w fun e w' => ∃ z0 : Value, ∃ m1 : Snap, e = .returned (z0) ∧ Sle m m1 ∧ RS (Rp.slice rI) m1 z0 r ∧ cX w0 ⟨m1, l⟩ w' := by
  unfold lattice_Join_c1 at hr
  refine calls_of_Tr (N := 7) Try.func53 rfl hc rfl (Nat.le_of_ble_eq_true rfl) ?_
  refine Tr.seq ?_
  refine Tr.region_f (fun _ => false) ?_
  refine W.q rfl rfl rfl rfl (by decide) (Yd.as rfl .c) ?_
  refine W.end ?_
  refine NX.sub (env' := [(0, _)]) ⟨rfl, trivial⟩ ?_
  refine NX.then ?_
  refine Tr.seq ?_
  obtain ⟨x1, hn2, hr⟩ := bind_some hr
  refine Tr.region_f (fun _ => false) ?_
  refine W.q rfl rfl rfl rfl (by decide) (Yd.mv rfl (.t rfl)) ?_
  have hp3 := ht_0; rw [hn2] at hp3; obtain ⟨b5, u7, u9, u11, u13, hz4, hb6, hu8, hu10, hu12, hu14⟩ := hp3; subst hz4
  refine W.q rfl rfl rfl rfl (by decide) (Yd.nilc rfl (.t rfl)) ?_
  refine W.q rfl rfl rfl rfl (by decide) (Yd.fldB rfl Try.underlying71 rfl SZ44 rfl (.t rfl)) ?_
  refine W.q rfl rfl rfl rfl (by decide) (Yd.ldK hb6 rfl rfl ON44 (.t rfl)) ?_
  refine W.q rfl rfl rfl rfl (by decide) (Yd.as rfl (.t rfl)) ?_
  refine W.end ?_
  refine NX.sub (env' := [(2, _)]) ⟨rfl, trivial⟩ ?_
  refine NX.then ?_
  refine Tr.ret' ?_
  refine res1 rfl rfl ?_
  intro w hc
  cases hr
  exact ⟨_, _, rfl, (.refl _), hu12, hc⟩

def lattice_of_f53 (n_0 : Int) (pairs_1 : List (Int × Int)) (a_2 : Int) (b_3 : Int) : Option (Int × Int) :=
  (lattice_build n_0 pairs_1).bind fun r1 =>
  (bif (r1.2 != (0 : Int)) then
  some (((0 : Int), r1.2))
  else
  (bif ((decide ((if b_3 < a_2 then b_3 else a_2) < (0 : Int))) || (decide ((if b_3 > a_2 then b_3 else a_2) ≥ n_0))) then
  some (((0 : Int), (4 : Int)))
  else
  (lattice_Join_c1 r1.1).bind fun r6 =>
  (geti r6 a_2).bind fun y11 =>
  (geti y11 b_3).bind fun y16 =>
  (bif (decide (y16 < (0 : Int))) then
  some (((0 : Int), (5 : Int)))
  else
  (lattice_Join_c1 r1.1).bind fun r18 =>
  (geti r18 a_2).bind fun y23 =>
  (geti y23 b_3).bind fun y28 =>
  some ((y28, (0 : Int))))))

set_option maxRecDepth 100000 in
theorem lattice_of_f53_ok (w0 : World) (m : Snap) (l : List HI) (n_0 : Int) (upairs_1 : Value) (pairs_1 : List (Int × Int)) (hpairs_1 : RS rP m upairs_1 pairs_1) (a_2 : Int) (b_3 : Int) (r : Int × Int) (hr : lattice_of_f53 n_0 pairs_1 a_2 b_3 = some r) (w : World) (hc : cX w0 ⟨m, l⟩ w) :
    Calls Try.prog 52 [.int .i64 n_0, upairs_1, .int .i64 a_2, .int .i64 b_3, .func (.func 53) #[] #[]].toArray w fun e w' => e = .returned (.tuple #[.int .i64 r.1, .int .i64 r.2]) ∧ cX w0 ⟨m, l⟩ w' := by
  unfold lattice_of_f53 at hr
  refine calls_of_Tr (N := 56) Try.func52 rfl hc rfl (Nat.le_of_ble_eq_true rfl) ?_
  refine Tr.seq ?_
  refine Tr.region_f (fun _ => false) ?_
  refine W.q rfl rfl rfl rfl (by decide) (Yd.as rfl .c) ?_
  refine W.q rfl rfl rfl rfl (by decide) (Yd.as rfl .c) ?_
  refine W.end ?_
  refine NX.sub (env' := [(0, _), (1, _), (2, _), (3, _), (4, _)]) ⟨rfl, rfl, rfl, rfl, rfl, trivial⟩ ?_
  refine NX.then ?_
  refine Tr.seq ?_
  obtain ⟨r1, hr2, hr⟩ := bind_some hr
  refine Tr.region_f (fun i => Nat.beq i 2) ?_
  refine W.q rfl rfl rfl rfl (by decide) (Yd.mv rfl (.t rfl)) ?_
  refine W.q rfl rfl rfl rfl (by decide) (Yd.mv rfl (.t rfl)) ?_
  refine W.e rfl rfl rfl rfl (by decide) (Ef.call (R := fun z x' => ∃ u3 : Value, ∃ m4 : Snap, z = .tuple #[u3, .int .i64 r1.2] ∧ x' = ⟨m4, l⟩ ∧ Sle m m4 ∧ P71 m4 u3 r1.1) rfl Try.func51 rfl rfl (.cons (.t rfl) (.cons (.t rfl) .nil)) (fun w hw => (lattice_build_ok w0 _ _ n_0 _ _ hpairs_1 _ hr2 w hw).mono fun e w' ⟨u3, m4, he, hm', hu5, hc'⟩ => ⟨_, _, he, ⟨u3, m4, rfl, rfl, hm', hu5⟩, hc'⟩)) ?_
  rintro _ _ ⟨u3, m4, rfl, rfl, hsm4, hu5⟩
  have hpairs_1 := hpairs_1.mono hsm4
  refine ⟨.inl rfl, ?_⟩
  refine W.cast (m' := m4) (l' := l) rfl rfl ?_
  refine W.q rfl rfl rfl rfl (by decide) (Yd.mv rfl (.t rfl)) ?_
  refine W.q rfl rfl rfl rfl (by decide) (Yd.ext rfl (.t rfl) rfl) ?_
  refine W.q rfl rfl rfl rfl (by decide) (Yd.ext rfl (.t rfl) rfl) ?_
  refine W.q rfl rfl rfl rfl (by decide) (Yd.as rfl (.t rfl)) ?_
  refine W.q rfl rfl rfl rfl (by decide) (Yd.as rfl (.t rfl)) ?_
  refine W.end ?_
  refine NX.sub (env' := [(0, _), (2, _), (3, _), (4, _), (12, _), (13, _)]) ⟨rfl, rfl, rfl, rfl, rfl, rfl, trivial⟩ ?_
  refine NX.then ?_
  refine Tr.seq ?_
  refine Tr.block ?_
  refine Tr.seq ?_
  refine Tr.region_f (fun _ => false) ?_
  refine W.q rfl rfl rfl rfl (by decide) (Yd.mv rfl (.t rfl)) ?_
  refine W.q rfl rfl rfl rfl (by decide) (Yd.neq rfl (.t rfl) .c) ?_
  refine W.q rfl rfl rfl rfl (by decide) (Yd.as rfl (.t rfl)) ?_
  refine W.end ?_
  refine NX.sub (env' := [(0, _), (2, _), (3, _), (4, _), (12, _), (13, _), (20, _)]) ⟨rfl, rfl, rfl, rfl, rfl, rfl, rfl, trivial⟩ ?_
  refine NX.then ?_
  refine Tr.cond (.t rfl) (fun hb => ?_) (fun hb => ?_)
  · have hr := cond_t hb hr
    refine Tr.seq ?_
    refine Tr.region_f (fun _ => false) ?_
    refine W.q rfl rfl rfl rfl (by decide) (Yd.mv rfl (.t rfl)) ?_
    refine W.q rfl rfl rfl rfl (by decide) (Yd.as rfl .c) ?_
    refine W.q rfl rfl rfl rfl (by decide) (Yd.as rfl (.t rfl)) ?_
    refine W.end ?_
    refine NX.sub (env' := [(10, _), (11, _)]) ⟨rfl, rfl, trivial⟩ ?_
    refine NX.then ?_
    refine Tr.ret' (RT.block (RT.then ?_))
    refine res2 rfl rfl rfl ?_
    intro w hc
    cases hr
    exact ⟨rfl, (cX_le (x := ⟨m, _⟩) ⟨hsm4, [], rfl⟩ hc)⟩
  · have hr := cond_f hb hr
    refine Tr.seq ?_
    refine Tr.region_f (fun _ => false) ?_
    refine W.q rfl rfl rfl rfl (by decide) (Yd.mv rfl (.t rfl)) ?_
    refine W.q rfl rfl rfl rfl (by decide) (Yd.mv rfl (.t rfl)) ?_
    refine W.q rfl rfl rfl rfl (by decide) (Yd.min2 rfl (.t rfl) (.t rfl)) ?_
    refine W.q rfl rfl rfl rfl (by decide) (Yd.lss rfl (.t rfl) .c) ?_
    refine W.q rfl rfl rfl rfl (by decide) (Yd.mv rfl (.t rfl)) ?_
    refine W.g rfl rfl rfl rfl rfl (.t rfl _) rfl (by decide) (fun hG => Yd.mv rfl (.t rfl)) ?_
    refine W.g rfl rfl rfl rfl rfl (.t rfl _) rfl (by decide) (fun hG => Yd.mv rfl (.t rfl)) ?_
    refine W.g rfl rfl rfl rfl rfl (.t rfl _) rfl (by decide) (fun hG => Yd.max2 rfl (.g rfl hG) (.g rfl hG)) ?_
    refine W.g rfl rfl rfl rfl rfl (.t rfl _) rfl (by decide) (fun hG => Yd.mv rfl (.t rfl)) ?_
    refine W.g rfl rfl rfl rfl rfl (.t rfl _) rfl (by decide) (fun hG => Yd.geq rfl (.g rfl hG) (.g rfl hG)) ?_
    refine W.q rfl rfl rfl rfl (by decide) (Yd.or rfl (.t rfl) .c rfl rfl) ?_
    refine W.q rfl rfl rfl rfl (by decide) (Yd.as rfl (.t rfl)) ?_
    refine W.end ?_
    refine NX.sub (env' := [(2, _), (3, _), (4, _), (12, _), (24, _)]) ⟨rfl, rfl, rfl, rfl, rfl, trivial⟩ ?_
    refine NX.then ?_
    refine Tr.cond (.t rfl) (fun hb => ?_) (fun hb => ?_)
    · have hr := cond_t hb hr
      refine Tr.seq ?_
      refine Tr.region_f (fun _ => false) ?_
      refine W.q rfl rfl rfl rfl (by decide) (Yd.as rfl .c) ?_
      refine W.q rfl rfl rfl rfl (by decide) (Yd.as rfl .c) ?_
      refine W.end ?_
      refine NX.sub (env' := [(10, _), (11, _)]) ⟨rfl, rfl, trivial⟩ ?_
      refine NX.then ?_
      refine Tr.ret' (RT.block (RT.then ?_))
      refine res2 rfl rfl rfl ?_
      intro w hc
      cases hr
      exact ⟨rfl, (cX_le (x := ⟨m, _⟩) ⟨hsm4, [], rfl⟩ hc)⟩
    · have hr := cond_f hb hr
      refine Tr.seq ?_
      obtain ⟨r6, hr7, hr⟩ := bind_some hr
      obtain ⟨y11, hy12, hr⟩ := bind_some hr
      obtain ⟨y16, hy17, hr⟩ := bind_some hr
      refine Tr.region_f (fun i => Nat.beq i 2) ?_
      refine W.q rfl rfl rfl rfl (by decide) (Yd.mv rfl (.t rfl)) ?_
      refine W.q rfl rfl rfl rfl (by decide) (Yd.mv rfl (.t rfl)) ?_
      refine W.e rfl rfl rfl rfl (by decide) (Ef.callC (caps := []) (R := fun z x' => ∃ u8 : Value, ∃ m9 : Snap, z = u8 ∧ x' = ⟨m9, l⟩ ∧ Sle m4 m9 ∧ RS (Rp.slice rI) m9 u8 r6) rfl (.t rfl) Try.func53 rfl rfl (.cons (.t rfl) .nil) (fun w hw => (lattice_Join_c1_ok w0 _ _ _ _ hu5 _ hr7 w hw).mono fun e w' ⟨u8, m9, he, hm', hu10, hc'⟩ => ⟨_, _, he, ⟨u8, m9, rfl, rfl, hm', hu10⟩, hc'⟩)) ?_
      rintro u8 _ ⟨_, m9, rfl, rfl, hsm9, hu10⟩
      have hpairs_1 := hpairs_1.mono hsm9
      have hu5 := hu5.mono hsm9
      refine ⟨.inl rfl, ?_⟩
      refine W.cast (m' := m9) (l' := l) rfl rfl ?_
      refine W.q rfl rfl rfl rfl (by decide) (Yd.mv rfl (.t rfl)) ?_
      refine W.q rfl rfl rfl rfl (by decide) (Yd.idxR hu10 hy12 rfl Try.underlying44 SZ36 (.t rfl) (.t rfl)) ?_
      obtain ⟨u13, hu14, hat15⟩ := hu10.row hy12
      refine W.q rfl rfl rfl rfl (by decide) (Yd.ldRow hat15 (.refl _) rfl ON36 (.t rfl)) ?_
      refine W.q rfl rfl rfl rfl (by decide) (Yd.mv rfl (.t rfl)) ?_
      refine W.q rfl rfl rfl rfl (by decide) (Yd.idxR hu14 hy17 rfl Try.underlying36 SZ3 (.t rfl) (.t rfl)) ?_
      refine W.q rfl rfl rfl rfl (by decide) (Yd.ldF hu14 (.refl _) hy17 rfl rfl ON3 (.t rfl)) ?_
      refine W.q rfl rfl rfl rfl (by decide) (Yd.lss rfl (.t rfl) .c) ?_
      refine W.q rfl rfl rfl rfl (by decide) (Yd.as rfl (.t rfl)) ?_
      refine W.end ?_
      refine NX.sub (env' := [(2, _), (3, _), (4, _), (12, _), (36, _)]) ⟨rfl, rfl, rfl, rfl, rfl, trivial⟩ ?_
      refine NX.then ?_
      refine Tr.cond (.t rfl) (fun hb => ?_) (fun hb => ?_)
      · have hr := cond_t hb hr
        refine Tr.seq ?_
        refine Tr.region_f (fun _ => false) ?_
        refine W.q rfl rfl rfl rfl (by decide) (Yd.as rfl .c) ?_
        refine W.q rfl rfl rfl rfl (by decide) (Yd.as rfl .c) ?_
        refine W.end ?_
        refine NX.sub (env' := [(10, _), (11, _)]) ⟨rfl, rfl, trivial⟩ ?_
        refine NX.then ?_
        refine Tr.ret' (RT.block (RT.then ?_))
        refine res2 rfl rfl rfl ?_
        intro w hc
        cases hr
        exact ⟨rfl, (cX_le (x := ⟨m, _⟩) ⟨(hsm4.trans hsm9), [], rfl⟩ hc)⟩
      · have hr := cond_f hb hr
        refine Tr.skip' ?_
        refine NX.block ?_
        refine NX.then ?_
        refine Tr.seq ?_
        obtain ⟨r18, hr19, hr⟩ := bind_some hr
        obtain ⟨y23, hy24, hr⟩ := bind_some hr
        obtain ⟨y28, hy29, hr⟩ := bind_some hr
        refine Tr.region_f (fun i => Nat.beq i 2) ?_
        refine W.q rfl rfl rfl rfl (by decide) (Yd.mv rfl (.t rfl)) ?_
        refine W.q rfl rfl rfl rfl (by decide) (Yd.mv rfl (.t rfl)) ?_
        refine W.e rfl rfl rfl rfl (by decide) (Ef.callC (caps := []) (R := fun z x' => ∃ u20 : Value, ∃ m21 : Snap, z = u20 ∧ x' = ⟨m21, l⟩ ∧ Sle m9 m21 ∧ RS (Rp.slice rI) m21 u20 r18) rfl (.t rfl) Try.func53 rfl rfl (.cons (.t rfl) .nil) (fun w hw => (lattice_Join_c1_ok w0 _ _ _ _ hu5 _ hr19 w hw).mono fun e w' ⟨u20, m21, he, hm', hu22, hc'⟩ => ⟨_, _, he, ⟨u20, m21, rfl, rfl, hm', hu22⟩, hc'⟩)) ?_
        rintro u20 _ ⟨_, m21, rfl, rfl, hsm21, hu22⟩
        have hpairs_1 := hpairs_1.mono hsm21
        have hu5 := hu5.mono hsm21
        have hu10 := hu10.mono hsm21
        have hu14 := hu14.mono hsm21
        refine ⟨.inl rfl, ?_⟩
        refine W.cast (m' := m21) (l' := l) rfl rfl ?_
        refine W.q rfl rfl rfl rfl (by decide) (Yd.mv rfl (.t rfl)) ?_
        refine W.q rfl rfl rfl rfl (by decide) (Yd.idxR hu22 hy24 rfl Try.underlying44 SZ36 (.t rfl) (.t rfl)) ?_
        obtain ⟨u25, hu26, hat27⟩ := hu22.row hy24
        refine W.q rfl rfl rfl rfl (by decide) (Yd.ldRow hat27 (.refl _) rfl ON36 (.t rfl)) ?_
        refine W.q rfl rfl rfl rfl (by decide) (Yd.mv rfl (.t rfl)) ?_
        refine W.q rfl rfl rfl rfl (by decide) (Yd.idxR hu26 hy29 rfl Try.underlying36 SZ3 (.t rfl) (.t rfl)) ?_
        refine W.q rfl rfl rfl rfl (by decide) (Yd.ldF hu26 (.refl _) hy29 rfl rfl ON3 (.t rfl)) ?_
        refine W.q rfl rfl rfl rfl (by decide) (Yd.as rfl (.t rfl)) ?_
        refine W.q rfl rfl rfl rfl (by decide) (Yd.as rfl .c) ?_
        refine W.end ?_
        refine NX.sub (env' := [(10, _), (11, _)]) ⟨rfl, rfl, trivial⟩ ?_
        refine NX.then ?_
        refine Tr.ret' ?_
        refine res2 rfl rfl rfl ?_
        intro w hc
        cases hr
        exact ⟨rfl, (cX_le (x := ⟨m, _⟩) ⟨((hsm4.trans hsm9).trans hsm21), [], rfl⟩ hc)⟩

def lattice_Join (n_0 : Int) (pairs_1 : List (Int × Int)) (a_2 : Int) (b_3 : Int) : Option (Int × Int) :=
  (lattice_of_f53 n_0 pairs_1 a_2 b_3).bind fun r1 =>
  some ((r1.1, r1.2))

set_option maxRecDepth 100000 in
theorem lattice_Join_ok (w0 : World) (m : Snap) (l : List HI) (n_0 : Int) (upairs_1 : Value) (pairs_1 : List (Int × Int)) (hpairs_1 : RS rP m upairs_1 pairs_1) (a_2 : Int) (b_3 : Int) (r : Int × Int) (hr : lattice_Join n_0 pairs_1 a_2 b_3 = some r) (w : World) (hc : cX w0 ⟨m, l⟩ w) :
    Calls Try.prog 34 [.int .i64 n_0, upairs_1, .int .i64 a_2, .int .i64 b_3].toArray w fun e w' => e = .returned (.tuple #[.int .i64 r.1, .int .i64 r.2]) ∧ cX w0 ⟨m, l⟩ w' := by
  unfold lattice_Join at hr
  refine calls_of_Tr (N := 17) Try.func34 rfl hc rfl (Nat.le_of_ble_eq_true rfl) ?_
  refine Tr.seq ?_
  refine Tr.region_f (fun _ => false) ?_
  refine W.q rfl rfl rfl rfl (by decide) (Yd.as rfl .c) ?_
  refine W.q rfl rfl rfl rfl (by decide) (Yd.as rfl .c) ?_
  refine W.end ?_
  refine NX.sub (env' := [(0, _), (1, _), (2, _), (3, _)]) ⟨rfl, rfl, rfl, rfl, trivial⟩ ?_
  refine NX.then ?_
  refine Tr.seq ?_
  obtain ⟨r1, hr2, hr⟩ := bind_some hr
  refine Tr.region_f (fun _ => false) ?_
  refine W.q rfl rfl rfl rfl (by decide) (Yd.mv rfl (.t rfl)) ?_
  refine W.q rfl rfl rfl rfl (by decide) (Yd.mv rfl (.t rfl)) ?_
  refine W.q rfl rfl rfl rfl (by decide) (Yd.mv rfl (.t rfl)) ?_
  refine W.q rfl rfl rfl rfl (by decide) (Yd.mv rfl (.t rfl)) ?_
  refine W.q rfl rfl rfl rfl (by decide) (Yd.call (v := .tuple #[.int .i64 r1.1, .int .i64 r1.2]) rfl Try.func52 rfl rfl (.cons (.t rfl) (.cons (.t rfl) (.cons (.t rfl) (.cons (.t rfl) (.cons .f .nil))))) (fun x' hx w hw => lattice_of_f53_ok w0 x'.m x'.l n_0 _ _ (hpairs_1.mono hx.1) a_2 b_3 _ hr2 w hw)) ?_
  refine W.q rfl rfl rfl rfl (by decide) (Yd.ext rfl (.t rfl) rfl) ?_
  refine W.q rfl rfl rfl rfl (by decide) (Yd.ext rfl (.t rfl) rfl) ?_
  refine W.q rfl rfl rfl rfl (by decide) (Yd.as rfl (.t rfl)) ?_
  refine W.q rfl rfl rfl rfl (by decide) (Yd.as rfl (.t rfl)) ?_
  refine W.end ?_
  refine NX.sub (env' := [(8, _), (9, _)]) ⟨rfl, rfl, trivial⟩ ?_
  refine NX.then ?_
  refine Tr.ret' ?_
  refine res2 rfl rfl rfl ?_
  intro w hc
  cases hr
  exact ⟨rfl, hc⟩

def syllogistref_Has_k3 : Option (Bool) :=
  some false

def syllogistref_Has_b7 (l_0 : List Int) (x_1 : Int) (t_6 : Int) (nx8 : Unit → Option (Bool)) : Option (Bool) :=
  (geti l_0 t_6).bind fun y10 =>
  (bif (x_1 == y10) then
  some true
  else
  nx8 ())

def syllogistref_Has (l_0 : List Int) (x_1 : Int) : Option (Bool) :=
  forK (σ := Unit) (fun i s nx_ => syllogistref_Has_b7 l_0 x_1 i nx_) (fun _ => syllogistref_Has_k3) ((l_0.length : Int) - (0 : Int)).toNat (0 : Int) ()

set_option maxRecDepth 100000 in
theorem syllogistref_Has_ok (w0 : World) (m : Snap) (l : List HI) (ul_0 : Value) (l_0 : List Int) (hl_0 : RS rI m ul_0 l_0) (x_1 : Int) (r : Bool) (hr : syllogistref_Has l_0 x_1 = some r) (w : World) (hc : cX w0 ⟨m, l⟩ w) :
    Calls Try.prog 30 [ul_0, .int .i64 x_1].toArray w fun e w' => e = .returned (.bool r) ∧ cX w0 ⟨m, l⟩ w' := by
  unfold syllogistref_Has at hr
  refine calls_of_Tr (N := 17) Try.func30 rfl hc rfl (Nat.le_of_ble_eq_true rfl) ?_
  refine Tr.seq ?_
  refine Tr.region_f (fun _ => false) ?_
  refine W.q rfl rfl rfl rfl (by decide) (Yd.as rfl .c) ?_
  refine W.end ?_
  refine NX.sub (env' := [(0, _), (1, _)]) ⟨rfl, rfl, trivial⟩ ?_
  refine NX.then ?_
  refine Tr.seq ?_
  refine Tr.seq ?_
  refine Tr.region_f (fun _ => false) ?_
  refine W.q rfl rfl rfl rfl (by decide) (Yd.mv rfl (.t rfl)) ?_
  refine W.q rfl rfl rfl rfl (by decide) (Yd.lenR hl_0 rfl Try.underlying36 (.t rfl)) ?_
  refine W.q rfl rfl rfl rfl (by decide) (Yd.mv rfl .c) ?_
  refine W.end ?_
  refine NX.sub (env' := [(1, _), (7, _), (8, _), (9, _)]) ⟨rfl, rfl, rfl, rfl, trivial⟩ ?_
  refine NX.then ?_
  refine Tr.join (S := fun env x => env = [] ∧ x = ⟨m, l⟩ ∧ syllogistref_Has_k3 = some r) ?_ (fun hk4 => ?_)
  · rintro _ _ ⟨rfl, rfl, hr⟩
    unfold syllogistref_Has_k3 at hr
    try dsimp only at hr
    refine NX.then ?_
    refine Tr.seq ?_
    refine Tr.region_f (fun _ => false) ?_
    refine W.q rfl rfl rfl rfl (by decide) (Yd.as rfl .c) ?_
    refine W.end ?_
    refine NX.sub (env' := [(4, _)]) ⟨rfl, trivial⟩ ?_
    refine NX.then ?_
    refine Tr.ret' ?_
    refine res1 rfl rfl ?_
    intro w hc
    cases hr
    exact ⟨rfl, hc⟩
  have hlen5 := (hl_0).2.1
  refine Tr.block ?_
  refine Tr.sub (env' := [(1, _), (7, _), (8, _), (9, _)]) ⟨rfl, rfl, rfl, rfl, trivial⟩ ?_
  refine Tr.loop (S := fun n (z : Int × Unit) env x => match z with | (t_6, _) => env = [(1, .int .i64 x_1), (7, ul_0), (8, .int .i64 ((l_0.length : Int))), (9, .int .i64 t_6)] ∧ x = ⟨m, l⟩ ∧ n = ((l_0.length : Int) - t_6).toNat ∧ 0 ≤ t_6 ∧ forK (σ := Unit) (fun i s nx_ => syllogistref_Has_b7 l_0 x_1 i nx_) (fun _ => syllogistref_Has_k3) n t_6 () = some r) _ ((0 : Int), ()) ⟨rfl, rfl, rfl, (by omega), hr⟩ ?_
  rintro n9 ⟨t_6, _⟩ env x ⟨rfl, rfl, hnt_6, h0t_6, hr⟩
  cases n9 with
  | zero =>
    simp only [forK] at hr
    refine Tr.seq ?_
    refine Tr.region_f (fun _ => false) ?_
    refine W.q rfl rfl rfl rfl (by decide) (Yd.lss rfl (.t rfl) (.t rfl)) ?_
    refine W.end ?_
    refine NX.sub (env' := [(1, _), (7, _), (8, _), (9, _), (10, _)]) ⟨rfl, rfl, rfl, rfl, rfl, trivial⟩ ?_
    refine NX.then ?_
    refine Tr.seq ?_
    refine Tr.cond (.t rfl) (fun hb => ?_) (fun hb => ?_)
    · exact absurd (hb.symm.trans (fr_end hnt_6)) (by decide)
    ·
      refine Tr.exit' (EX.then (EX.then (EX.block ?_)))
      refine NX.sub (env' := []) trivial ?_
      exact hk4 _ _ ⟨rfl, rfl, hr⟩
  | succ n9 =>
    obtain ⟨nx8, hnx8, hr⟩ := forK_succ hr
    try dsimp only at hr
    unfold syllogistref_Has_b7 at hr
    try dsimp only at hr
    have hltt_6 := fr_bnd hnt_6
    refine Tr.seq ?_
    refine Tr.region_f (fun _ => false) ?_
    refine W.q rfl rfl rfl rfl (by decide) (Yd.lss rfl (.t rfl) (.t rfl)) ?_
    refine W.end ?_
    refine NX.sub (env' := [(1, _), (7, _), (8, _), (9, _), (10, _)]) ⟨rfl, rfl, rfl, rfl, rfl, trivial⟩ ?_
    refine NX.then ?_
    refine Tr.seq ?_
    refine Tr.cond (.t rfl) (fun hb => ?_) (fun hb => ?_)
    rotate_left
    · exact absurd (hb.symm.trans (fr_go hnt_6)) (by decide)
    ·
      refine Tr.skip' ?_
      refine NX.then ?_
      refine Tr.seq ?_
      refine Tr.block ?_
      refine Tr.seq ?_
      obtain ⟨y10, hy11, hr⟩ := bind_some hr
      refine Tr.region_f (fun _ => false) ?_
      refine W.q rfl rfl rfl rfl (by decide) (Yd.idxR hl_0 hy11 rfl Try.underlying36 SZ3 (.t rfl) (.t rfl)) ?_
      refine W.q rfl rfl rfl rfl (by decide) (Yd.ldF hl_0 (.refl _) hy11 rfl rfl ON3 (.t rfl)) ?_
      refine W.q rfl rfl rfl rfl (by decide) (Yd.as rfl (.t rfl)) ?_
      refine W.end ?_
      refine NX.sub (env' := [(1, _), (7, _), (8, _), (9, _), (6, _)]) ⟨rfl, rfl, rfl, rfl, rfl, trivial⟩ ?_
      refine NX.then ?_
      refine Tr.seq ?_
      refine Tr.region_f (fun _ => false) ?_
      refine W.q rfl rfl rfl rfl (by decide) (Yd.mv rfl (.t rfl)) ?_
      refine W.q rfl rfl rfl rfl (by decide) (Yd.mv rfl (.t rfl)) ?_
      refine W.q rfl rfl rfl rfl (by decide) (Yd.eql rfl (.t rfl) (.t rfl)) ?_
      refine W.end ?_
      refine NX.sub (env' := [(1, _), (7, _), (8, _), (9, _), (15, _)]) ⟨rfl, rfl, rfl, rfl, rfl, trivial⟩ ?_
      refine NX.then ?_
      refine Tr.cond (.t rfl) (fun hb => ?_) (fun hb => ?_)
      · have hr := cond_t hb hr
        refine Tr.seq ?_
        refine Tr.region_f (fun _ => false) ?_
        refine W.q rfl rfl rfl rfl (by decide) (Yd.as rfl .c) ?_
        refine W.end ?_
        refine NX.sub (env' := [(4, _)]) ⟨rfl, trivial⟩ ?_
        refine NX.then ?_
        refine Tr.ret' (RT.block (RT.then (RT.then (RT.block (RT.then ?_)))))
        refine res1 rfl rfl ?_
        intro w hc
        cases hr
        exact ⟨rfl, hc⟩
      · have hr := cond_f hb hr
        refine Tr.skip' ?_
        refine NX.block ?_
        refine NX.then ?_
        refine Tr.region_f (fun _ => false) ?_
        refine W.q rfl rfl rfl rfl (by decide) (Yd.add rfl (.t rfl) .c) ?_
        refine W.q rfl rfl rfl rfl (by decide) (Yd.mv rfl (.t rfl)) ?_
        refine W.end ?_
        refine NX.sub (env' := [(1, _), (7, _), (8, _), (9, _)]) ⟨rfl, rfl, rfl, rfl, trivial⟩ ?_
        refine NX.sub (env' := [(1, _), (7, _), (8, _), (9, _)]) ⟨rfl, rfl, rfl, rfl, trivial⟩ ?_
        have hw := w64_id (n := t_6 + 1) (by omega) (by omega)
        exact NX.again n9 (t_6 + 1, ()) (Nat.lt_succ_self _) ⟨(by rw [hw] <;> rfl), rfl, (fr_dec hnt_6), (by omega), ((hnx8 _).symm.trans hr)⟩

def syllogistref_Under_k11 (b_3 : Int) (l9 : List Int) : Option (Bool) :=
  (syllogistref_Has l9 b_3).bind fun r13 =>
  some r13

def syllogistref_Under_k26 (k_6 : Int) (nx16 : ((Int × (List Int)) → Option (Bool))) (l24 : List Int) : Option (Bool) :=
  nx16 ((w64 (k_6 + (1 : Int))), l24)

def syllogistref_Under_b30 (pairs_1 : List (Int × Int)) (k_6 : Int) (t_29 : Int) (l22 : List Int) (nx31 : (List Int) → Option (Bool)) : Option (Bool) :=
  (geti pairs_1 t_29).bind fun y33 =>
  (geti l22 k_6).bind fun y37 =>
  bif (!((y33.1 == y37) == true) || (syllogistref_Has l22 y33.2).isSome) then
  (bif ((y33.1 == y37) && (!(((syllogistref_Has l22 y33.2).getD false)))) then
  bif decide (l22.length + (([y33.2] : List Int)).length ≤ 17592186044416) then
  nx31 (l22 ++ ([y33.2] : List Int)) else none
  else
  nx31 l22) else none

def syllogistref_Under_b15 (pairs_1 : List (Int × Int)) (b_3 : Int) (k_6 : Int) (l7 : List Int) (nx16 : (Int × (List Int)) → Option (Bool)) : Option (Bool) :=
  (bif (decide (k_6 < (l7.length : Int))) then
  forK (σ := (List Int)) (fun i s nx_ => syllogistref_Under_b30 pairs_1 k_6 i s nx_) (fun s => syllogistref_Under_k26 k_6 nx16 s) ((pairs_1.length : Int) - (0 : Int)).toNat (0 : Int) l7
  else
  syllogistref_Under_k11 b_3 l7)

def syllogistref_Under (fuel : Nat) (n_0 : Int) (pairs_1 : List (Int × Int)) (a_2 : Int) (b_3 : Int) : Option (Bool) :=
  whileK (σ := Int × (List Int)) (fun s nx_ => syllogistref_Under_b15 pairs_1 b_3 s.1 s.2 nx_) fuel (((0 : Int)), (([a_2] : List Int)))

set_option maxRecDepth 100000 in
theorem syllogistref_Under_ok (w0 : World) (m : Snap) (l : List HI) (fuel : Nat) (n_0 : Int) (upairs_1 : Value) (pairs_1 : List (Int × Int)) (hpairs_1 : RS rP m upairs_1 pairs_1) (a_2 : Int) (b_3 : Int) (r : Bool) (hr : syllogistref_Under fuel n_0 pairs_1 a_2 b_3 = some r) (w : World) (hc : cX w0 ⟨m, l⟩ w) :
    Calls Try.prog 18 [.int .i64 n_0, upairs_1, .int .i64 a_2, .int .i64 b_3].toArray w fun e w' => e = .returned (.bool r) ∧ cX w0 ⟨m, l⟩ w' := by
  unfold syllogistref_Under at hr
  refine calls_of_Tr (N := 50) Try.func18 rfl hc rfl (Nat.le_of_ble_eq_true rfl) ?_
  refine Tr.seq ?_
  refine Tr.region_f (fun _ => false) ?_
  refine W.q rfl rfl rfl rfl (by decide) (Yd.as rfl .c) ?_
  refine W.end ?_
  refine NX.sub (env' := [(1, _), (2, _), (3, _)]) ⟨rfl, rfl, rfl, trivial⟩ ?_
  refine NX.then ?_
  refine Tr.seq ?_
  refine Tr.region_f (fun i => Nat.beq i 1) ?_
  refine W.q rfl rfl rfl rfl (by decide) (Yd.mv rfl (.t rfl)) ?_
  refine W.e rfl rfl rfl rfl (by decide) (Ef.bsT (enc := encI) (vs := [_]) (ys := [a_2]) (fun _ => rfl) IF3 rfl Try.underlying36 (by decide) rfl (.cons (.t rfl) .nil) rfl rfl (by decide)) ?_
  rintro v1 _ rfl
  refine ⟨.inl rfl, ?_⟩
  refine W.cast (m' := m) (l' := hownT 3 1 encI v1 _ :: l) rfl rfl ?_
  refine W.q rfl rfl rfl rfl (by decide) (Yd.as rfl (.t rfl)) ?_
  refine W.end ?_
  refine NX.sub (env' := [(1, _), (3, _), (9, _)]) ⟨rfl, rfl, rfl, trivial⟩ ?_
  refine NX.then ?_
  refine Tr.seq ?_
  refine Tr.seq ?_
  refine Tr.region_f (fun _ => false) ?_
  refine W.q rfl rfl rfl rfl (by decide) (Yd.as rfl .c) ?_
  refine W.end ?_
  refine NX.sub (env' := [(1, _), (3, _), (9, _), (10, _)]) ⟨rfl, rfl, rfl, rfl, trivial⟩ ?_
  refine NX.then ?_
  refine Tr.join (S := fun env x => ∃ l9 : List Int, ∃ v10 : Value, env = [(3, .int .i64 b_3), (9, v10)] ∧ x = ⟨m, hownT 3 1 encI v10 l9 :: l⟩ ∧ syllogistref_Under_k11 b_3 l9 = some r) ?_ (fun hk12 => ?_)
  · rintro _ _ ⟨l9, v10, rfl, rfl, hr⟩
    unfold syllogistref_Under_k11 at hr
    try dsimp only at hr
    refine NX.then ?_
    refine Tr.seq ?_
    obtain ⟨r13, hr14, hr⟩ := bind_some hr
    refine Tr.region_f (fun _ => false) ?_
    refine W.q rfl rfl rfl rfl (by decide) (Yd.mv rfl (.t rfl)) ?_
    refine W.q rfl rfl rfl rfl (by decide) (Yd.mv rfl (.t rfl)) ?_
    refine W.q rfl rfl rfl rfl (by decide) (Yd.call (v := .bool r13) rfl Try.func30 rfl rfl (.cons (.t rfl) (.cons (.t rfl) .nil)) (by intro x' hx w hw; obtain ⟨p0, hp0⟩ := hx.at (p := 0) rfl; obtain ⟨m2, hm2, hc2, ⟨L2, hl1, hl2⟩, hback⟩ := cX_lend hw hp0 lone_own; have hL1 : RS rI m2 _ _ := RS_of_own hl1 hl2; exact (syllogistref_Has_ok w0 m2 _ _ _ hL1 b_3 _ hr14 w hc2).mono fun e w' ⟨he, hc'⟩ => ⟨he, (hback m2 _ _ w' (.refl _) hp0).2 hc'⟩)) ?_
    refine W.q rfl rfl rfl rfl (by decide) (Yd.as rfl (.t rfl)) ?_
    refine W.end ?_
    refine NX.sub (env' := [(8, _)]) ⟨rfl, trivial⟩ ?_
    refine NX.drop (l' := l) (.cons _ (.refl _)) ?_
    refine NX.then ?_
    refine Tr.ret' ?_
    refine res1 rfl rfl ?_
    intro w hc
    cases hr
    exact ⟨rfl, hc⟩
  refine Tr.block ?_
  refine Tr.sub (env' := [(1, _), (3, _), (9, _), (10, _)]) ⟨rfl, rfl, rfl, rfl, trivial⟩ ?_
  refine Tr.loop (S := fun n (z : Int × (List Int)) env x => match z with | (k_6, l7) => ∃ v8 : Value, env = [(1, upairs_1), (3, .int .i64 b_3), (9, v8), (10, .int .i64 k_6)] ∧ x = ⟨m, hownT 3 1 encI v8 l7 :: l⟩ ∧ whileK (σ := Int × (List Int)) (fun s nx_ => syllogistref_Under_b15 pairs_1 b_3 s.1 s.2 nx_) n (k_6, l7) = some r) _ ((0 : Int), ([a_2] : List Int)) ⟨_, rfl, rfl, hr⟩ ?_
  rintro n17 ⟨k_6, l7⟩ env x ⟨v8, rfl, rfl, hr⟩
  cases n17 with
  | zero => simp [whileK] at hr
  | succ n17 =>
    obtain ⟨nx16, hnx16, hr⟩ := whileK_succ hr
    try dsimp only at hr
    unfold syllogistref_Under_b15 at hr
    try dsimp only at hr
    refine Tr.seq ?_
    refine Tr.seq ?_
    refine Tr.region_f (fun _ => false) ?_
    refine W.q rfl rfl rfl rfl (by decide) (Yd.mv rfl (.t rfl)) ?_
    refine W.q rfl rfl rfl rfl (by decide) (Yd.mv rfl (.t rfl)) ?_
    refine W.q rfl rfl rfl rfl (by decide) (Yd.lenO (p := 0) rfl rfl Try.underlying36 (.t rfl)) ?_
    refine W.q rfl rfl rfl rfl (by decide) (Yd.lss rfl (.t rfl) (.t rfl)) ?_
    refine W.end ?_
    refine NX.sub (env' := [(1, _), (3, _), (9, _), (10, _), (18, _)]) ⟨rfl, rfl, rfl, rfl, rfl, trivial⟩ ?_
    refine NX.then ?_
    refine Tr.cond (.t rfl) (fun hb => ?_) (fun hb => ?_)
    · have hr := cond_t hb hr
      refine Tr.skip' ?_
      refine NX.then ?_
      refine Tr.seq ?_
      refine Tr.block ?_
      refine Tr.seq ?_
      refine Tr.region_f (fun _ => false) ?_
      refine W.q rfl rfl rfl rfl (by decide) (Yd.mv rfl (.t rfl)) ?_
      refine W.q rfl rfl rfl rfl (by decide) (Yd.lenR hpairs_1 rfl Try.underlying22 (.t rfl)) ?_
      refine W.q rfl rfl rfl rfl (by decide) (Yd.mv rfl .c) ?_
      refine W.end ?_
      refine NX.sub (env' := [(1, _), (3, _), (9, _), (10, _), (21, _), (22, _), (23, _)]) ⟨rfl, rfl, rfl, rfl, rfl, rfl, rfl, trivial⟩ ?_
      refine NX.then ?_
      refine Tr.join (S := fun env x => ∃ l24 : List Int, ∃ v25 : Value, env = [(1, upairs_1), (3, .int .i64 b_3), (9, v25), (10, .int .i64 k_6)] ∧ x = ⟨m, hownT 3 1 encI v25 l24 :: l⟩ ∧ syllogistref_Under_k26 k_6 nx16 l24 = some r) ?_ (fun hk27 => ?_)
      · rintro _ _ ⟨l24, v25, rfl, rfl, hr⟩
        unfold syllogistref_Under_k26 at hr
        try dsimp only at hr
        refine NX.block ?_
        refine NX.then ?_
        refine Tr.region_f (fun _ => false) ?_
        refine W.q rfl rfl rfl rfl (by decide) (Yd.mv rfl (.t rfl)) ?_
        refine W.q rfl rfl rfl rfl (by decide) (Yd.add rfl (.t rfl) .c) ?_
        refine W.q rfl rfl rfl rfl (by decide) (Yd.as rfl (.t rfl)) ?_
        refine W.end ?_
        refine NX.sub (env' := [(1, _), (3, _), (9, _), (10, _)]) ⟨rfl, rfl, rfl, rfl, trivial⟩ ?_
        refine NX.sub (env' := [(1, _), (3, _), (9, _), (10, _)]) ⟨rfl, rfl, rfl, rfl, trivial⟩ ?_
        exact NX.again n17 ((w64 (k_6 + (1 : Int))), l24) (Nat.lt_succ_self _) ⟨_, rfl, rfl, ((hnx16 _).symm.trans hr)⟩
      have hlen28 := (hpairs_1).2.1
      refine Tr.block ?_
      refine Tr.sub (env' := [(1, _), (3, _), (9, _), (10, _), (21, _), (22, _), (23, _)]) ⟨rfl, rfl, rfl, rfl, rfl, rfl, rfl, trivial⟩ ?_
      refine Tr.loop (S := fun n (z : Int × (List Int)) env x => match z with | (t_29, l22) => ∃ v23 : Value, env = [(1, upairs_1), (3, .int .i64 b_3), (9, v23), (10, .int .i64 k_6), (21, upairs_1), (22, .int .i64 ((pairs_1.length : Int))), (23, .int .i64 t_29)] ∧ x = ⟨m, hownT 3 1 encI v23 l22 :: l⟩ ∧ n = ((pairs_1.length : Int) - t_29).toNat ∧ 0 ≤ t_29 ∧ forK (σ := (List Int)) (fun i s nx_ => syllogistref_Under_b30 pairs_1 k_6 i s nx_) (fun s => syllogistref_Under_k26 k_6 nx16 s) n t_29 l22 = some r) _ ((0 : Int), l7) ⟨_, rfl, rfl, rfl, (by omega), hr⟩ ?_
      rintro n32 ⟨t_29, l22⟩ env x ⟨v23, rfl, rfl, hnt_29, h0t_29, hr⟩
      cases n32 with
      | zero =>
        simp only [forK] at hr
        refine Tr.seq ?_
        refine Tr.region_f (fun _ => false) ?_
        refine W.q rfl rfl rfl rfl (by decide) (Yd.lss rfl (.t rfl) (.t rfl)) ?_
        refine W.end ?_
        refine NX.sub (env' := [(1, _), (3, _), (9, _), (10, _), (21, _), (22, _), (23, _), (24, _)]) ⟨rfl, rfl, rfl, rfl, rfl, rfl, rfl, rfl, trivial⟩ ?_
        refine NX.then ?_
        refine Tr.seq ?_
        refine Tr.cond (.t rfl) (fun hb => ?_) (fun hb => ?_)
        · exact absurd (hb.symm.trans (fr_end hnt_29)) (by decide)
        ·
          refine Tr.exit' (EX.then (EX.then (EX.block ?_)))
          refine NX.sub (env' := [(1, _), (3, _), (9, _), (10, _)]) ⟨rfl, rfl, rfl, rfl, trivial⟩ ?_
          exact hk27 _ _ ⟨_, _, rfl, rfl, hr⟩
      | succ n32 =>
        obtain ⟨nx31, hnx31, hr⟩ := forK_succ hr
        try dsimp only at hr
        unfold syllogistref_Under_b30 at hr
        try dsimp only at hr
        have hltt_29 := fr_bnd hnt_29
        refine Tr.seq ?_
        refine Tr.region_f (fun _ => false) ?_
        refine W.q rfl rfl rfl rfl (by decide) (Yd.lss rfl (.t rfl) (.t rfl)) ?_
        refine W.end ?_
        refine NX.sub (env' := [(1, _), (3, _), (9, _), (10, _), (21, _), (22, _), (23, _), (24, _)]) ⟨rfl, rfl, rfl, rfl, rfl, rfl, rfl, rfl, trivial⟩ ?_
        refine NX.then ?_
        refine Tr.seq ?_
        refine Tr.cond (.t rfl) (fun hb => ?_) (fun hb => ?_)
        rotate_left
        · exact absurd (hb.symm.trans (fr_go hnt_29)) (by decide)
        ·
          refine Tr.skip' ?_
          refine NX.then ?_
          refine Tr.seq ?_
          refine Tr.block ?_
          refine Tr.seq ?_
          obtain ⟨y33, hy34, hr⟩ := bind_some hr
          refine Tr.region_f (fun i => Nat.beq i 2 || Nat.beq i 3) ?_
          refine W.q rfl rfl rfl rfl (by decide) (Yd.idxR hpairs_1 hy34 rfl Try.underlying22 SZ35 (.t rfl) (.t rfl)) ?_
          refine W.q rfl rfl rfl rfl (by decide) (Yd.ldFs (us := [_, _]) hpairs_1 (.refl _) hy34 rfl rfl ON35 US35 SZ35 (.t rfl)) ?_
          refine W.e rfl rfl rfl rfl (by decide) (Ef.al rfl ZR35 rfl) ?_
          rintro _ _ ⟨b35, rfl, rfl⟩
          refine ⟨.inl rfl, ?_⟩
          refine W.cast (m' := m) (l' := hcells b35 [_, _] 35 :: hownT 3 1 encI v23 _ :: l) rfl rfl ?_
          refine W.s rfl rfl rfl rfl (Ef.stB (pos := 0) (us := [_, _]) (cs' := [_, _]) rfl rfl (.t rfl) (.t rfl) SZ35 rfl rfl rfl (Nat.le_of_ble_eq_true rfl) rfl) ?_
          rintro _ _ ⟨rfl, rfl⟩
          refine ⟨.inl rfl, ?_⟩
          refine W.cast (m' := m) (l' := hcells b35 [_, _] 35 :: hownT 3 1 encI v23 _ :: l) rfl rfl ?_
          refine W.end ?_
          refine NX.sub (env' := [(1, _), (3, _), (9, _), (10, _), (21, _), (22, _), (23, _), (12, _)]) ⟨rfl, rfl, rfl, rfl, rfl, rfl, rfl, rfl, trivial⟩ ?_
          refine NX.then ?_
          refine Tr.seq ?_
          obtain ⟨y37, hy38, hr⟩ := bind_some hr
          obtain ⟨ha39, hr⟩ := guard_some hr
          refine Tr.region_x (fun _ => false) (fun _ => false) (Ord.of [0, 1, 2, 3, 4, 5, 6, 7, 8, 9, 10, 11, 12, 13]) FM (by kernel_rfl) ?_
          refine W.q rfl rfl rfl rfl (by decide) (Yd.arrB rfl Try.underlying35 SZ3 (by decide) (by decide) (.t rfl) .c) ?_
          refine W.q rfl rfl rfl rfl (by decide) (Yd.ldB (pos := 0) rfl rfl rfl ON3 (.t rfl)) ?_
          refine W.q rfl rfl rfl rfl (by decide) (Yd.mv rfl (.t rfl)) ?_
          refine W.q rfl rfl rfl rfl (by decide) (Yd.mv rfl (.t rfl)) ?_
          refine W.q rfl rfl rfl rfl (by decide) (Yd.idxT (pos := 1) rfl hy38 rfl Try.underlying36 SZ3 (.t rfl) (.t rfl)) ?_
          refine W.q rfl rfl rfl rfl (by decide) (Yd.ldT (enc := encI) (n := 1) (pos := 1) (fun _ => rfl) rfl hy38 rfl rfl ON3 (.t rfl)) ?_
          refine W.q rfl rfl rfl rfl (by decide) (Yd.eql rfl (.t rfl) (.t rfl)) ?_
          refine W.q rfl rfl rfl rfl (by decide) (Yd.mv rfl (.t rfl)) ?_
          refine W.g rfl rfl rfl rfl rfl (.t rfl _) rfl (by decide) (fun hG => Yd.mv rfl (.t rfl)) ?_
          refine W.g rfl rfl rfl rfl rfl (.t rfl _) rfl (by decide) (fun hG => Yd.arrB rfl Try.underlying35 SZ3 (by decide) (by decide) (.t rfl) .c) ?_
          refine W.g rfl rfl rfl rfl rfl (.t rfl _) rfl (by decide) (fun hG => Yd.ldB (pos := 0) rfl rfl rfl ON3 (.g rfl hG)) ?_
          refine W.g rfl rfl rfl rfl rfl (.t rfl _) rfl (by decide) (fun hG => Yd.call (v := .bool ((((syllogistref_Has l22 y33.2).getD false)))) rfl Try.func30 rfl rfl (.cons (.g rfl hG) (.cons (.g rfl hG) .nil)) (by intro x' hx w hw; obtain ⟨p0, hp0⟩ := hx.at (p := 1) rfl; obtain ⟨m2, hm2, hc2, ⟨L2, hl1, hl2⟩, hback⟩ := cX_lend hw hp0 lone_own; have hL1 : RS rI m2 _ _ := RS_of_own hl1 hl2; exact (syllogistref_Has_ok w0 m2 _ _ _ hL1 y33.2 _ (gd_get (d := false) ha39 hG) w hc2).mono fun e w' ⟨he, hc'⟩ => ⟨he, (hback m2 _ _ w' (.refl _) hp0).2 hc'⟩)) ?_
          refine W.g rfl rfl rfl rfl rfl (.t rfl _) rfl (by decide) (fun hG => Yd.not rfl (.g rfl hG)) ?_
          refine W.q rfl rfl rfl rfl (by decide) (Yd.and rfl (.t rfl) .c rfl rfl) ?_
          refine W.end ?_
          refine NX.sub (env' := [(1, _), (3, _), (9, _), (10, _), (21, _), (22, _), (23, _), (12, _), (40, _)]) ⟨rfl, rfl, rfl, rfl, rfl, rfl, rfl, rfl, rfl, trivial⟩ ?_
          refine NX.then ?_
          refine Tr.cond (.t rfl) (fun hb => ?_) (fun hb => ?_)
          · have hr := cond_t hb hr
            obtain ⟨hq43, hr⟩ := guard_some hr; replace hq43 := of_decide_eq_true hq43
            refine Tr.region_f (fun i => Nat.beq i 3 || Nat.beq i 4) ?_
            refine W.q rfl rfl rfl rfl (by decide) (Yd.mv rfl (.t rfl)) ?_
            refine W.q rfl rfl rfl rfl (by decide) (Yd.arrB rfl Try.underlying35 SZ3 (by decide) (by decide) (.t rfl) .c) ?_
            refine W.q rfl rfl rfl rfl (by decide) (Yd.ldB (pos := 0) rfl rfl rfl ON3 (.t rfl)) ?_
            refine W.e rfl rfl rfl rfl (by decide) (Ef.bsT (enc := encI) (vs := [_]) (ys := [y33.2]) (fun _ => rfl) IF3 rfl Try.underlying36 (by decide) rfl (.cons (.t rfl) .nil) rfl rfl (by decide)) ?_
            rintro v40 _ rfl
            refine ⟨.inl rfl, ?_⟩
            refine W.cast (m' := m) (l' := hownT 3 1 encI v40 _ :: hcells b35 [_, _] 35 :: hownT 3 1 encI v23 _ :: l) rfl rfl ?_
            refine W.e rfl rfl rfl rfl (by decide) (Ef.apI (pos := 2) (enc := encI) (xs := l22) (ys := ([y33.2] : List Int)) (fun _ => rfl) IF3 rfl rfl Try.underlying36 rfl (by decide) (.t rfl) (.t rfl) (Src.own (pos := 0) rfl) (fun _ => rfl) (by omega) (by omega)) ?_
            rintro v42 _ rfl
            refine ⟨.inl rfl, ?_⟩
            refine W.cast (m' := m) (l' := hownT 3 1 encI v40 _ :: hcells b35 [_, _] 35 :: hownT 3 1 encI v42 _ :: l) rfl rfl ?_
            refine W.q rfl rfl rfl rfl (by decide) (Yd.as rfl (.t rfl)) ?_
            refine W.end ?_
            refine NX.sub (env' := [(1, _), (3, _), (9, _), (10, _), (21, _), (22, _), (23, _)]) ⟨rfl, rfl, rfl, rfl, rfl, rfl, rfl, trivial⟩ ?_
            refine NX.drop (l' := hownT 3 1 encI v42 _ :: l) (.cons _ (.cons _ (.cons_cons _ (.refl _)))) ?_
            refine NX.block ?_
            refine NX.then ?_
            refine Tr.region_f (fun _ => false) ?_
            refine W.q rfl rfl rfl rfl (by decide) (Yd.add rfl (.t rfl) .c) ?_
            refine W.q rfl rfl rfl rfl (by decide) (Yd.mv rfl (.t rfl)) ?_
            refine W.end ?_
            refine NX.sub (env' := [(1, _), (3, _), (9, _), (10, _), (21, _), (22, _), (23, _)]) ⟨rfl, rfl, rfl, rfl, rfl, rfl, rfl, trivial⟩ ?_
            refine NX.sub (env' := [(1, _), (3, _), (9, _), (10, _), (21, _), (22, _), (23, _)]) ⟨rfl, rfl, rfl, rfl, rfl, rfl, rfl, trivial⟩ ?_
            have hw := w64_id (n := t_29 + 1) (by omega) (by omega)
            exact NX.again n32 (t_29 + 1, (l22 ++ ([y33.2] : List Int))) (Nat.lt_succ_self _) ⟨_, (by rw [hw] <;> rfl), rfl, (fr_dec hnt_29), (by omega), ((hnx31 _).symm.trans hr)⟩
          · have hr := cond_f hb hr
            refine Tr.skip' ?_
            refine NX.block ?_
            refine NX.then ?_
            refine Tr.region_f (fun _ => false) ?_
            refine W.q rfl rfl rfl rfl (by decide) (Yd.add rfl (.t rfl) .c) ?_
            refine W.q rfl rfl rfl rfl (by decide) (Yd.mv rfl (.t rfl)) ?_
            refine W.end ?_
            refine NX.sub (env' := [(1, _), (3, _), (9, _), (10, _), (21, _), (22, _), (23, _)]) ⟨rfl, rfl, rfl, rfl, rfl, rfl, rfl, trivial⟩ ?_
            refine NX.drop (l' := hownT 3 1 encI v23 _ :: l) (.cons _ (.cons_cons _ (.refl _))) ?_
            refine NX.sub (env' := [(1, _), (3, _), (9, _), (10, _), (21, _), (22, _), (23, _)]) ⟨rfl, rfl, rfl, rfl, rfl, rfl, rfl, trivial⟩ ?_
            have hw := w64_id (n := t_29 + 1) (by omega) (by omega)
            exact NX.again n32 (t_29 + 1, l22) (Nat.lt_succ_self _) ⟨_, (by rw [hw] <;> rfl), rfl, (fr_dec hnt_29), (by omega), ((hnx31 _).symm.trans hr)⟩
    · have hr := cond_f hb hr
      refine Tr.exit' (EX.then (EX.then (EX.block ?_)))
      refine NX.sub (env' := [(3, _), (9, _)]) ⟨rfl, rfl, trivial⟩ ?_
      exact hk12 _ _ ⟨_, _, rfl, rfl, hr⟩

def syllogistref_OrderCheck_k7 : Option (Int) :=
  some ((0 : Int))

def syllogistref_OrderCheck_k16 (nx12 : (Unit → Option (Int))) : Option (Int) :=
  nx12 ()

def syllogistref_OrderCheck_b20 (n_0 : Int) (pairs_1 : List (Int × Int)) (fuel : Nat) (i_10 : Int) (j_19 : Int) (nx21 : Unit → Option (Int)) : Option (Int) :=
  (syllogistref_Under fuel n_0 pairs_1 i_10 j_19).bind fun r23 =>
  bif (!(r23 == true) || (syllogistref_Under fuel n_0 pairs_1 j_19 i_10).isSome) then
  (bif (r23 && (((syllogistref_Under fuel n_0 pairs_1 j_19 i_10).getD false))) then
  some ((3 : Int))
  else
  nx21 ()) else none

def syllogistref_OrderCheck_b11 (n_0 : Int) (pairs_1 : List (Int × Int)) (fuel : Nat) (i_10 : Int) (nx12 : Unit → Option (Int)) : Option (Int) :=
  bif decide (i_10 ≤ 9223372036854775807) then
  forK (σ := Unit) (fun i s nx_ => syllogistref_OrderCheck_b20 n_0 pairs_1 fuel i_10 i nx_) (fun _ => syllogistref_OrderCheck_k16 nx12) (i_10 - (0 : Int)).toNat (0 : Int) () else none

def syllogistref_OrderCheck_k3 (n_0 : Int) (pairs_1 : List (Int × Int)) (fuel : Nat) : Option (Int) :=
  bif decide (n_0 ≤ 9223372036854775807) then
  forK (σ := Unit) (fun i s nx_ => syllogistref_OrderCheck_b11 n_0 pairs_1 fuel i nx_) (fun _ => syllogistref_OrderCheck_k7) (n_0 - (0 : Int)).toNat (0 : Int) () else none

def syllogistref_OrderCheck_b28 (n_0 : Int) (pairs_1 : List (Int × Int)) (t_27 : Int) (nx29 : Unit → Option (Int)) : Option (Int) :=
  (geti pairs_1 t_27).bind fun y31 =>
  (bif ((((decide (y31.1 < (0 : Int))) || (decide (y31.1 ≥ n_0))) || (decide (y31.2 < (0 : Int)))) || (decide (y31.2 ≥ n_0))) then
  some ((2 : Int))
  else
  nx29 ())

def syllogistref_OrderCheck (fuel : Nat) (n_0 : Int) (pairs_1 : List (Int × Int)) : Option (Int) :=
  (bif (((decide (n_0 < (1 : Int))) || (decide (n_0 > (6 : Int)))) || (decide ((pairs_1.length : Int) > (20 : Int)))) then
  some ((1 : Int))
  else
  forK (σ := Unit) (fun i s nx_ => syllogistref_OrderCheck_b28 n_0 pairs_1 i nx_) (fun _ => syllogistref_OrderCheck_k3 n_0 pairs_1 fuel) ((pairs_1.length : Int) - (0 : Int)).toNat (0 : Int) ())

set_option maxRecDepth 100000 in
theorem syllogistref_OrderCheck_ok (w0 : World) (m : Snap) (l : List HI) (fuel : Nat) (n_0 : Int) (upairs_1 : Value) (pairs_1 : List (Int × Int)) (hpairs_1 : RS rP m upairs_1 pairs_1) (r : Int) (hr : syllogistref_OrderCheck fuel n_0 pairs_1 = some r) (w : World) (hc : cX w0 ⟨m, l⟩ w) :
    Calls Try.prog 16 [.int .i64 n_0, upairs_1].toArray w fun e w' => e = .returned (.int .i64 r) ∧ cX w0 ⟨m, l⟩ w' := by
  unfold syllogistref_OrderCheck at hr
  refine calls_of_Tr (N := 69) Try.func16 rfl hc rfl (Nat.le_of_ble_eq_true rfl) ?_
  refine Tr.seq ?_
  refine Tr.region_f (fun _ => false) ?_
  refine W.q rfl rfl rfl rfl (by decide) (Yd.as rfl .c) ?_
  refine W.end ?_
  refine NX.sub (env' := [(0, _), (1, _)]) ⟨rfl, rfl, trivial⟩ ?_
  refine NX.then ?_
  refine Tr.seq ?_
  refine Tr.seq ?_
  refine Tr.region_f (fun _ => false) ?_
  refine W.q rfl rfl rfl rfl (by decide) (Yd.mv rfl (.t rfl)) ?_
  refine W.q rfl rfl rfl rfl (by decide) (Yd.lss rfl (.t rfl) .c) ?_
  refine W.q rfl rfl rfl rfl (by decide) (Yd.mv rfl (.t rfl)) ?_
  refine W.g rfl rfl rfl rfl rfl (.t rfl _) rfl (by decide) (fun hG => Yd.mv rfl (.t rfl)) ?_
  refine W.g rfl rfl rfl rfl rfl (.t rfl _) rfl (by decide) (fun hG => Yd.gtr rfl (.g rfl hG) .c) ?_
  refine W.q rfl rfl rfl rfl (by decide) (Yd.or rfl (.t rfl) .c rfl rfl) ?_
  refine W.q rfl rfl rfl rfl (by decide) (Yd.mv rfl (.t rfl)) ?_
  refine W.g rfl rfl rfl rfl rfl (.t rfl _) rfl (by decide) (fun hG => Yd.mv rfl (.t rfl)) ?_
  refine W.g rfl rfl rfl rfl rfl (.t rfl _) rfl (by decide) (fun hG => Yd.lenR hpairs_1 rfl Try.underlying22 (.g rfl hG)) ?_
  refine W.g rfl rfl rfl rfl rfl (.t rfl _) rfl (by decide) (fun hG => Yd.gtr rfl (.g rfl hG) .c) ?_
  refine W.q rfl rfl rfl rfl (by decide) (Yd.or rfl (.t rfl) .c rfl rfl) ?_
  refine W.end ?_
  refine NX.sub (env' := [(0, _), (1, _), (19, _)]) ⟨rfl, rfl, rfl, trivial⟩ ?_
  refine NX.then ?_
  refine Tr.cond (.t rfl) (fun hb => ?_) (fun hb => ?_)
  · have hr := cond_t hb hr
    refine Tr.seq ?_
    refine Tr.region_f (fun _ => false) ?_
    refine W.q rfl rfl rfl rfl (by decide) (Yd.as rfl .c) ?_
    refine W.end ?_
    refine NX.sub (env' := [(4, _)]) ⟨rfl, trivial⟩ ?_
    refine NX.then ?_
    refine Tr.ret' (RT.then ?_)
    refine res1 rfl rfl ?_
    intro w hc
    cases hr
    exact ⟨rfl, hc⟩
  · have hr := cond_f hb hr
    refine Tr.skip' ?_
    refine NX.then ?_
    refine Tr.seq ?_
    refine Tr.seq ?_
    refine Tr.region_f (fun _ => false) ?_
    refine W.q rfl rfl rfl rfl (by decide) (Yd.mv rfl (.t rfl)) ?_
    refine W.q rfl rfl rfl rfl (by decide) (Yd.lenR hpairs_1 rfl Try.underlying22 (.t rfl)) ?_
    refine W.q rfl rfl rfl rfl (by decide) (Yd.mv rfl .c) ?_
    refine W.end ?_
    refine NX.sub (env' := [(0, _), (1, _), (20, _), (21, _), (22, _)]) ⟨rfl, rfl, rfl, rfl, rfl, trivial⟩ ?_
    refine NX.then ?_
    refine Tr.join (S := fun env x => env = [(0, .int .i64 n_0), (1, upairs_1)] ∧ x = ⟨m, l⟩ ∧ syllogistref_OrderCheck_k3 n_0 pairs_1 fuel = some r) ?_ (fun hk4 => ?_)
    · rintro _ _ ⟨rfl, rfl, hr⟩
      unfold syllogistref_OrderCheck_k3 at hr
      try dsimp only at hr
      refine NX.then ?_
      refine Tr.seq ?_
      refine Tr.seq ?_
      refine Tr.region_f (fun _ => false) ?_
      refine W.q rfl rfl rfl rfl (by decide) (Yd.as rfl .c) ?_
      refine W.end ?_
      refine NX.sub (env' := [(0, _), (1, _), (7, _)]) ⟨rfl, rfl, rfl, trivial⟩ ?_
      refine NX.then ?_
      refine Tr.join (S := fun env x => env = [] ∧ x = ⟨m, l⟩ ∧ syllogistref_OrderCheck_k7 = some r) ?_ (fun hk8 => ?_)
      · rintro _ _ ⟨rfl, rfl, hr⟩
        unfold syllogistref_OrderCheck_k7 at hr
        try dsimp only at hr
        refine NX.then ?_
        refine Tr.seq ?_
        refine Tr.region_f (fun _ => false) ?_
        refine W.q rfl rfl rfl rfl (by decide) (Yd.as rfl .c) ?_
        refine W.end ?_
        refine NX.sub (env' := [(4, _)]) ⟨rfl, trivial⟩ ?_
        refine NX.then ?_
        refine Tr.ret' ?_
        refine res1 rfl rfl ?_
        intro w hc
        cases hr
        exact ⟨rfl, hc⟩
      obtain ⟨hle9, hr⟩ := guard_some hr; replace hle9 := of_decide_eq_true hle9
      refine Tr.block ?_
      refine Tr.sub (env' := [(0, _), (1, _), (7, _)]) ⟨rfl, rfl, rfl, trivial⟩ ?_
      refine Tr.loop (S := fun n (z : Int × Unit) env x => match z with | (i_10, _) => env = [(0, .int .i64 n_0), (1, upairs_1), (7, .int .i64 i_10)] ∧ x = ⟨m, l⟩ ∧ n = (n_0 - i_10).toNat ∧ 0 ≤ i_10 ∧ forK (σ := Unit) (fun i s nx_ => syllogistref_OrderCheck_b11 n_0 pairs_1 fuel i nx_) (fun _ => syllogistref_OrderCheck_k7) n i_10 () = some r) _ ((0 : Int), ()) ⟨rfl, rfl, rfl, (by omega), hr⟩ ?_
      rintro n13 ⟨i_10, _⟩ env x ⟨rfl, rfl, hni_10, h0i_10, hr⟩
      cases n13 with
      | zero =>
        simp only [forK] at hr
        refine Tr.seq ?_
        refine Tr.seq ?_
        refine Tr.region_f (fun _ => false) ?_
        refine W.q rfl rfl rfl rfl (by decide) (Yd.mv rfl (.t rfl)) ?_
        refine W.q rfl rfl rfl rfl (by decide) (Yd.mv rfl (.t rfl)) ?_
        refine W.q rfl rfl rfl rfl (by decide) (Yd.lss rfl (.t rfl) (.t rfl)) ?_
        refine W.end ?_
        refine NX.sub (env' := [(0, _), (1, _), (7, _), (49, _)]) ⟨rfl, rfl, rfl, rfl, trivial⟩ ?_
        refine NX.then ?_
        refine Tr.cond (.t rfl) (fun hb => ?_) (fun hb => ?_)
        · exact absurd (hb.symm.trans (fr_end hni_10)) (by decide)
        ·
          refine Tr.exit' (EX.then (EX.then (EX.block ?_)))
          refine NX.sub (env' := []) trivial ?_
          exact hk8 _ _ ⟨rfl, rfl, hr⟩
      | succ n13 =>
        obtain ⟨nx12, hnx12, hr⟩ := forK_succ hr
        try dsimp only at hr
        unfold syllogistref_OrderCheck_b11 at hr
        try dsimp only at hr
        have hlti_10 := fr_bnd hni_10
        refine Tr.seq ?_
        refine Tr.seq ?_
        refine Tr.region_f (fun _ => false) ?_
        refine W.q rfl rfl rfl rfl (by decide) (Yd.mv rfl (.t rfl)) ?_
        refine W.q rfl rfl rfl rfl (by decide) (Yd.mv rfl (.t rfl)) ?_
        refine W.q rfl rfl rfl rfl (by decide) (Yd.lss rfl (.t rfl) (.t rfl)) ?_
        refine W.end ?_
        refine NX.sub (env' := [(0, _), (1, _), (7, _), (49, _)]) ⟨rfl, rfl, rfl, rfl, trivial⟩ ?_
        refine NX.then ?_
        refine Tr.cond (.t rfl) (fun hb => ?_) (fun hb => ?_)
        rotate_left
        · exact absurd (hb.symm.trans (fr_go hni_10)) (by decide)
        ·
          refine Tr.skip' ?_
          refine NX.then ?_
          refine Tr.seq ?_
          refine Tr.block ?_
          refine Tr.seq ?_
          refine Tr.region_f (fun _ => false) ?_
          refine W.q rfl rfl rfl rfl (by decide) (Yd.as rfl .c) ?_
          refine W.end ?_
          refine NX.sub (env' := [(0, _), (1, _), (7, _), (8, _)]) ⟨rfl, rfl, rfl, rfl, trivial⟩ ?_
          refine NX.then ?_
          refine Tr.join (S := fun env x => env = [(0, .int .i64 n_0), (1, upairs_1), (7, .int .i64 i_10)] ∧ x = ⟨m, l⟩ ∧ syllogistref_OrderCheck_k16 nx12 = some r) ?_ (fun hk17 => ?_)
          · rintro _ _ ⟨rfl, rfl, hr⟩
            unfold syllogistref_OrderCheck_k16 at hr
            try dsimp only at hr
            refine NX.block ?_
            refine NX.then ?_
            refine Tr.region_f (fun _ => false) ?_
            refine W.q rfl rfl rfl rfl (by decide) (Yd.mv rfl (.t rfl)) ?_
            refine W.q rfl rfl rfl rfl (by decide) (Yd.add rfl (.t rfl) .c) ?_
            refine W.q rfl rfl rfl rfl (by decide) (Yd.as rfl (.t rfl)) ?_
            refine W.end ?_
            refine NX.sub (env' := [(0, _), (1, _), (7, _)]) ⟨rfl, rfl, rfl, trivial⟩ ?_
            refine NX.sub (env' := [(0, _), (1, _), (7, _)]) ⟨rfl, rfl, rfl, trivial⟩ ?_
            have hw := w64_id (n := i_10 + 1) (by omega) (by omega)
            exact NX.again n13 (i_10 + 1, ()) (Nat.lt_succ_self _) ⟨(by rw [hw] <;> rfl), rfl, (fr_dec hni_10), (by omega), ((hnx12 _).symm.trans hr)⟩
          obtain ⟨hle18, hr⟩ := guard_some hr; replace hle18 := of_decide_eq_true hle18
          refine Tr.block ?_
          refine Tr.sub (env' := [(0, _), (1, _), (7, _), (8, _)]) ⟨rfl, rfl, rfl, rfl, trivial⟩ ?_
          refine Tr.loop (S := fun n (z : Int × Unit) env x => match z with | (j_19, _) => env = [(0, .int .i64 n_0), (1, upairs_1), (7, .int .i64 i_10), (8, .int .i64 j_19)] ∧ x = ⟨m, l⟩ ∧ n = (i_10 - j_19).toNat ∧ 0 ≤ j_19 ∧ forK (σ := Unit) (fun i s nx_ => syllogistref_OrderCheck_b20 n_0 pairs_1 fuel i_10 i nx_) (fun _ => syllogistref_OrderCheck_k16 nx12) n j_19 () = some r) _ ((0 : Int), ()) ⟨rfl, rfl, rfl, (by omega), hr⟩ ?_
          rintro n22 ⟨j_19, _⟩ env x ⟨rfl, rfl, hnj_19, h0j_19, hr⟩
          cases n22 with
          | zero =>
            simp only [forK] at hr
            refine Tr.seq ?_
            refine Tr.seq ?_
            refine Tr.region_f (fun _ => false) ?_
            refine W.q rfl rfl rfl rfl (by decide) (Yd.mv rfl (.t rfl)) ?_
            refine W.q rfl rfl rfl rfl (by decide) (Yd.mv rfl (.t rfl)) ?_
            refine W.q rfl rfl rfl rfl (by decide) (Yd.lss rfl (.t rfl) (.t rfl)) ?_
            refine W.end ?_
            refine NX.sub (env' := [(0, _), (1, _), (7, _), (8, _), (54, _)]) ⟨rfl, rfl, rfl, rfl, rfl, trivial⟩ ?_
            refine NX.then ?_
            refine Tr.cond (.t rfl) (fun hb => ?_) (fun hb => ?_)
            · exact absurd (hb.symm.trans (fr_end hnj_19)) (by decide)
            ·
              refine Tr.exit' (EX.then (EX.then (EX.block ?_)))
              refine NX.sub (env' := [(0, _), (1, _), (7, _)]) ⟨rfl, rfl, rfl, trivial⟩ ?_
              exact hk17 _ _ ⟨rfl, rfl, hr⟩
          | succ n22 =>
            obtain ⟨nx21, hnx21, hr⟩ := forK_succ hr
            try dsimp only at hr
            unfold syllogistref_OrderCheck_b20 at hr
            try dsimp only at hr
            have hltj_19 := fr_bnd hnj_19
            refine Tr.seq ?_
            refine Tr.seq ?_
            refine Tr.region_f (fun _ => false) ?_
            refine W.q rfl rfl rfl rfl (by decide) (Yd.mv rfl (.t rfl)) ?_
            refine W.q rfl rfl rfl rfl (by decide) (Yd.mv rfl (.t rfl)) ?_
            refine W.q rfl rfl rfl rfl (by decide) (Yd.lss rfl (.t rfl) (.t rfl)) ?_
            refine W.end ?_
            refine NX.sub (env' := [(0, _), (1, _), (7, _), (8, _), (54, _)]) ⟨rfl, rfl, rfl, rfl, rfl, trivial⟩ ?_
            refine NX.then ?_
            refine Tr.cond (.t rfl) (fun hb => ?_) (fun hb => ?_)
            rotate_left
            · exact absurd (hb.symm.trans (fr_go hnj_19)) (by decide)
            ·
              refine Tr.skip' ?_
              refine NX.then ?_
              refine Tr.seq ?_
              refine Tr.block ?_
              refine Tr.seq ?_
              obtain ⟨r23, hr24, hr⟩ := bind_some hr
              obtain ⟨ha25, hr⟩ := guard_some hr
              refine Tr.region_f (fun _ => false) ?_
              refine W.q rfl rfl rfl rfl (by decide) (Yd.mv rfl (.t rfl)) ?_
              refine W.q rfl rfl rfl rfl (by decide) (Yd.mv rfl (.t rfl)) ?_
              refine W.q rfl rfl rfl rfl (by decide) (Yd.mv rfl (.t rfl)) ?_
              refine W.q rfl rfl rfl rfl (by decide) (Yd.mv rfl (.t rfl)) ?_
              refine W.q rfl rfl rfl rfl (by decide) (Yd.call (v := .bool r23) rfl Try.func18 rfl rfl (.cons (.t rfl) (.cons (.t rfl) (.cons (.t rfl) (.cons (.t rfl) .nil)))) (fun x' hx w hw => syllogistref_Under_ok w0 x'.m x'.l fuel n_0 _ _ (hpairs_1.mono hx.1) i_10 j_19 _ hr24 w hw)) ?_
              refine W.q rfl rfl rfl rfl (by decide) (Yd.mv rfl (.t rfl)) ?_
              refine W.g rfl rfl rfl rfl rfl (.t rfl _) rfl (by decide) (fun hG => Yd.mv rfl (.t rfl)) ?_
              refine W.g rfl rfl rfl rfl rfl (.t rfl _) rfl (by decide) (fun hG => Yd.mv rfl (.t rfl)) ?_
              refine W.g rfl rfl rfl rfl rfl (.t rfl _) rfl (by decide) (fun hG => Yd.mv rfl (.t rfl)) ?_
              refine W.g rfl rfl rfl rfl rfl (.t rfl _) rfl (by decide) (fun hG => Yd.mv rfl (.t rfl)) ?_
              refine W.g rfl rfl rfl rfl rfl (.t rfl _) rfl (by decide) (fun hG => Yd.call (v := .bool ((((syllogistref_Under fuel n_0 pairs_1 j_19 i_10).getD false)))) rfl Try.func18 rfl rfl (.cons (.g rfl hG) (.cons (.g rfl hG) (.cons (.g rfl hG) (.cons (.g rfl hG) .nil)))) (fun x' hx w hw => syllogistref_Under_ok w0 x'.m x'.l fuel n_0 _ _ (hpairs_1.mono hx.1) j_19 i_10 _ (gd_get (d := false) ha25 hG) w hw)) ?_
              refine W.q rfl rfl rfl rfl (by decide) (Yd.and rfl (.t rfl) .c rfl rfl) ?_
              refine W.end ?_
              refine NX.sub (env' := [(0, _), (1, _), (7, _), (8, _), (68, _)]) ⟨rfl, rfl, rfl, rfl, rfl, trivial⟩ ?_
              refine NX.then ?_
              refine Tr.cond (.t rfl) (fun hb => ?_) (fun hb => ?_)
              · have hr := cond_t hb hr
                refine Tr.seq ?_
                refine Tr.region_f (fun _ => false) ?_
                refine W.q rfl rfl rfl rfl (by decide) (Yd.as rfl .c) ?_
                refine W.end ?_
                refine NX.sub (env' := [(4, _)]) ⟨rfl, trivial⟩ ?_
                refine NX.then ?_
                refine Tr.ret' (RT.block (RT.then (RT.then (RT.block (RT.block (RT.then (RT.then (RT.block (RT.then ?_)))))))))
                refine res1 rfl rfl ?_
                intro w hc
                cases hr
                exact ⟨rfl, hc⟩
              · have hr := cond_f hb hr
                refine Tr.skip' ?_
                refine NX.block ?_
                refine NX.then ?_
                refine Tr.region_f (fun _ => false) ?_
                refine W.q rfl rfl rfl rfl (by decide) (Yd.mv rfl (.t rfl)) ?_
                refine W.q rfl rfl rfl rfl (by decide) (Yd.add rfl (.t rfl) .c) ?_
                refine W.q rfl rfl rfl rfl (by decide) (Yd.as rfl (.t rfl)) ?_
                refine W.end ?_
                refine NX.sub (env' := [(0, _), (1, _), (7, _), (8, _)]) ⟨rfl, rfl, rfl, rfl, trivial⟩ ?_
                refine NX.sub (env' := [(0, _), (1, _), (7, _), (8, _)]) ⟨rfl, rfl, rfl, rfl, trivial⟩ ?_
                have hw := w64_id (n := j_19 + 1) (by omega) (by omega)
                exact NX.again n22 (j_19 + 1, ()) (Nat.lt_succ_self _) ⟨(by rw [hw] <;> rfl), rfl, (fr_dec hnj_19), (by omega), ((hnx21 _).symm.trans hr)⟩
    have hlen26 := (hpairs_1).2.1
    refine Tr.block ?_
    refine Tr.sub (env' := [(0, _), (1, _), (20, _), (21, _), (22, _)]) ⟨rfl, rfl, rfl, rfl, rfl, trivial⟩ ?_
    refine Tr.loop (S := fun n (z : Int × Unit) env x => match z with | (t_27, _) => env = [(0, .int .i64 n_0), (1, upairs_1), (20, upairs_1), (21, .int .i64 ((pairs_1.length : Int))), (22, .int .i64 t_27)] ∧ x = ⟨m, l⟩ ∧ n = ((pairs_1.length : Int) - t_27).toNat ∧ 0 ≤ t_27 ∧ forK (σ := Unit) (fun i s nx_ => syllogistref_OrderCheck_b28 n_0 pairs_1 i nx_) (fun _ => syllogistref_OrderCheck_k3 n_0 pairs_1 fuel) n t_27 () = some r) _ ((0 : Int), ()) ⟨rfl, rfl, rfl, (by omega), hr⟩ ?_
    rintro n30 ⟨t_27, _⟩ env x ⟨rfl, rfl, hnt_27, h0t_27, hr⟩
    cases n30 with
    | zero =>
      simp only [forK] at hr
      refine Tr.seq ?_
      refine Tr.region_f (fun _ => false) ?_
      refine W.q rfl rfl rfl rfl (by decide) (Yd.lss rfl (.t rfl) (.t rfl)) ?_
      refine W.end ?_
      refine NX.sub (env' := [(0, _), (1, _), (20, _), (21, _), (22, _), (23, _)]) ⟨rfl, rfl, rfl, rfl, rfl, rfl, trivial⟩ ?_
      refine NX.then ?_
      refine Tr.seq ?_
      refine Tr.cond (.t rfl) (fun hb => ?_) (fun hb => ?_)
      · exact absurd (hb.symm.trans (fr_end hnt_27)) (by decide)
      ·
        refine Tr.exit' (EX.then (EX.then (EX.block ?_)))
        refine NX.sub (env' := [(0, _), (1, _)]) ⟨rfl, rfl, trivial⟩ ?_
        exact hk4 _ _ ⟨rfl, rfl, hr⟩
    | succ n30 =>
      obtain ⟨nx29, hnx29, hr⟩ := forK_succ hr
      try dsimp only at hr
      unfold syllogistref_OrderCheck_b28 at hr
      try dsimp only at hr
      have hltt_27 := fr_bnd hnt_27
      refine Tr.seq ?_
      refine Tr.region_f (fun _ => false) ?_
      refine W.q rfl rfl rfl rfl (by decide) (Yd.lss rfl (.t rfl) (.t rfl)) ?_
      refine W.end ?_
      refine NX.sub (env' := [(0, _), (1, _), (20, _), (21, _), (22, _), (23, _)]) ⟨rfl, rfl, rfl, rfl, rfl, rfl, trivial⟩ ?_
      refine NX.then ?_
      refine Tr.seq ?_
      refine Tr.cond (.t rfl) (fun hb => ?_) (fun hb => ?_)
      rotate_left
      · exact absurd (hb.symm.trans (fr_go hnt_27)) (by decide)
      ·
        refine Tr.skip' ?_
        refine NX.then ?_
        refine Tr.seq ?_
        refine Tr.block ?_
        refine Tr.seq ?_
        obtain ⟨y31, hy32, hr⟩ := bind_some hr
        refine Tr.region_f (fun i => Nat.beq i 2 || Nat.beq i 3) ?_
        refine W.q rfl rfl rfl rfl (by decide) (Yd.idxR hpairs_1 hy32 rfl Try.underlying22 SZ35 (.t rfl) (.t rfl)) ?_
        refine W.q rfl rfl rfl rfl (by decide) (Yd.ldFs (us := [_, _]) hpairs_1 (.refl _) hy32 rfl rfl ON35 US35 SZ35 (.t rfl)) ?_
        refine W.e rfl rfl rfl rfl (by decide) (Ef.al rfl ZR35 rfl) ?_
        rintro _ _ ⟨b33, rfl, rfl⟩
        refine ⟨.inl rfl, ?_⟩
        refine W.cast (m' := m) (l' := hcells b33 [_, _] 35 :: l) rfl rfl ?_
        refine W.s rfl rfl rfl rfl (Ef.stB (pos := 0) (us := [_, _]) (cs' := [_, _]) rfl rfl (.t rfl) (.t rfl) SZ35 rfl rfl rfl (Nat.le_of_ble_eq_true rfl) rfl) ?_
        rintro _ _ ⟨rfl, rfl⟩
        refine ⟨.inl rfl, ?_⟩
        refine W.cast (m' := m) (l' := hcells b33 [_, _] 35 :: l) rfl rfl ?_
        refine W.end ?_
        refine NX.sub (env' := [(0, _), (1, _), (20, _), (21, _), (22, _), (6, _)]) ⟨rfl, rfl, rfl, rfl, rfl, rfl, trivial⟩ ?_
        refine NX.then ?_
        refine Tr.seq ?_
        refine Tr.region_f (fun _ => false) ?_
        refine W.q rfl rfl rfl rfl (by decide) (Yd.arrB rfl Try.underlying35 SZ3 (by decide) (by decide) (.t rfl) .c) ?_
        refine W.q rfl rfl rfl rfl (by decide) (Yd.ldB (pos := 0) rfl rfl rfl ON3 (.t rfl)) ?_
        refine W.q rfl rfl rfl rfl (by decide) (Yd.lss rfl (.t rfl) .c) ?_
        refine W.q rfl rfl rfl rfl (by decide) (Yd.mv rfl (.t rfl)) ?_
        refine W.g rfl rfl rfl rfl rfl (.t rfl _) rfl (by decide) (fun hG => Yd.arrB rfl Try.underlying35 SZ3 (by decide) (by decide) (.t rfl) .c) ?_
        refine W.g rfl rfl rfl rfl rfl (.t rfl _) rfl (by decide) (fun hG => Yd.ldB (pos := 0) rfl rfl rfl ON3 (.g rfl hG)) ?_
        refine W.g rfl rfl rfl rfl rfl (.t rfl _) rfl (by decide) (fun hG => Yd.mv rfl (.t rfl)) ?_
        refine W.g rfl rfl rfl rfl rfl (.t rfl _) rfl (by decide) (fun hG => Yd.geq rfl (.g rfl hG) (.g rfl hG)) ?_
        refine W.q rfl rfl rfl rfl (by decide) (Yd.or rfl (.t rfl) .c rfl rfl) ?_
        refine W.q rfl rfl rfl rfl (by decide) (Yd.mv rfl (.t rfl)) ?_
        refine W.g rfl rfl rfl rfl rfl (.t rfl _) rfl (by decide) (fun hG => Yd.arrB rfl Try.underlying35 SZ3 (by decide) (by decide) (.t rfl) .c) ?_
        refine W.g rfl rfl rfl rfl rfl (.t rfl _) rfl (by decide) (fun hG => Yd.ldB (pos := 0) rfl rfl rfl ON3 (.g rfl hG)) ?_
        refine W.g rfl rfl rfl rfl rfl (.t rfl _) rfl (by decide) (fun hG => Yd.lss rfl (.g rfl hG) .c) ?_
        refine W.q rfl rfl rfl rfl (by decide) (Yd.or rfl (.t rfl) .c rfl rfl) ?_
        refine W.q rfl rfl rfl rfl (by decide) (Yd.mv rfl (.t rfl)) ?_
        refine W.g rfl rfl rfl rfl rfl (.t rfl _) rfl (by decide) (fun hG => Yd.arrB rfl Try.underlying35 SZ3 (by decide) (by decide) (.t rfl) .c) ?_
        refine W.g rfl rfl rfl rfl rfl (.t rfl _) rfl (by decide) (fun hG => Yd.ldB (pos := 0) rfl rfl rfl ON3 (.g rfl hG)) ?_
        refine W.g rfl rfl rfl rfl rfl (.t rfl _) rfl (by decide) (fun hG => Yd.mv rfl (.t rfl)) ?_
        refine W.g rfl rfl rfl rfl rfl (.t rfl _) rfl (by decide) (fun hG => Yd.geq rfl (.g rfl hG) (.g rfl hG)) ?_
        refine W.q rfl rfl rfl rfl (by decide) (Yd.or rfl (.t rfl) .c rfl rfl) ?_
        refine W.end ?_
        refine NX.sub (env' := [(0, _), (1, _), (20, _), (21, _), (22, _), (45, _)]) ⟨rfl, rfl, rfl, rfl, rfl, rfl, trivial⟩ ?_
        refine NX.drop (l' := l) (.cons _ (.refl _)) ?_
        refine NX.then ?_
        refine Tr.cond (.t rfl) (fun hb => ?_) (fun hb => ?_)
        · have hr := cond_t hb hr
          refine Tr.seq ?_
          refine Tr.region_f (fun _ => false) ?_
          refine W.q rfl rfl rfl rfl (by decide) (Yd.as rfl .c) ?_
          refine W.end ?_
          refine NX.sub (env' := [(4, _)]) ⟨rfl, trivial⟩ ?_
          refine NX.then ?_
          refine Tr.ret' (RT.block (RT.then (RT.then (RT.block (RT.then ?_)))))
          refine res1 rfl rfl ?_
          intro w hc
          cases hr
          exact ⟨rfl, hc⟩
        · have hr := cond_f hb hr
          refine Tr.skip' ?_
          refine NX.block ?_
          refine NX.then ?_
          refine Tr.region_f (fun _ => false) ?_
          refine W.q rfl rfl rfl rfl (by decide) (Yd.add rfl (.t rfl) .c) ?_
          refine W.q rfl rfl rfl rfl (by decide) (Yd.mv rfl (.t rfl)) ?_
          refine W.end ?_
          refine NX.sub (env' := [(0, _), (1, _), (20, _), (21, _), (22, _)]) ⟨rfl, rfl, rfl, rfl, rfl, trivial⟩ ?_
          refine NX.sub (env' := [(0, _), (1, _), (20, _), (21, _), (22, _)]) ⟨rfl, rfl, rfl, rfl, rfl, trivial⟩ ?_
          have hw := w64_id (n := t_27 + 1) (by omega) (by omega)
          exact NX.again n30 (t_27 + 1, ()) (Nat.lt_succ_self _) ⟨(by rw [hw] <;> rfl), rfl, (fr_dec hnt_27), (by omega), ((hnx29 _).symm.trans hr)⟩

def syllogistref_Joined_k3 : Option (Int) :=
  some ((-1 : Int))

def syllogistref_Joined_k18 (c_6 : Int) (nx8 : (Unit → Option (Int))) (ok_17 : Bool) : Option (Int) :=
  (bif ok_17 then
  some c_6
  else
  nx8 ())

def syllogistref_Joined_b22 (n_0 : Int) (pairs_1 : List (Int × Int)) (a_2 : Int) (b_3 : Int) (fuel : Nat) (c_6 : Int) (d_21 : Int) (ok_15 : Bool) (nx23 : Bool → Option (Int)) : Option (Int) :=
  bif (!(ok_15 == true) || (syllogistref_Under fuel n_0 pairs_1 a_2 d_21).isSome) then
  bif (!((ok_15 == true) && ((!(((syllogistref_Under fuel n_0 pairs_1 a_2 d_21).getD false))) == false)) || (syllogistref_Under fuel n_0 pairs_1 b_3 d_21).isSome) then
  bif (!((ok_15 == true) && (((!(((syllogistref_Under fuel n_0 pairs_1 a_2 d_21).getD false))) || (!(((syllogistref_Under fuel n_0 pairs_1 b_3 d_21).getD false)))) == false)) || (syllogistref_Under fuel n_0 pairs_1 c_6 d_21).isSome) then
  nx23 (ok_15 && (((!(((syllogistref_Under fuel n_0 pairs_1 a_2 d_21).getD false))) || (!(((syllogistref_Under fuel n_0 pairs_1 b_3 d_21).getD false)))) || (((syllogistref_Under fuel n_0 pairs_1 c_6 d_21).getD false)))) else none else none else none

def syllogistref_Joined_b7 (n_0 : Int) (pairs_1 : List (Int × Int)) (a_2 : Int) (b_3 : Int) (fuel : Nat) (c_6 : Int) (nx8 : Unit → Option (Int)) : Option (Int) :=
  (syllogistref_Under fuel n_0 pairs_1 a_2 c_6).bind fun r10 =>
  bif (!(r10 == true) || (syllogistref_Under fuel n_0 pairs_1 b_3 c_6).isSome) then
  bif decide (n_0 ≤ 9223372036854775807) then
  forK (σ := Bool) (fun i s nx_ => syllogistref_Joined_b22 n_0 pairs_1 a_2 b_3 fuel c_6 i s nx_) (fun s => syllogistref_Joined_k18 c_6 nx8 s) (n_0 - (0 : Int)).toNat (0 : Int) ((r10 && (((syllogistref_Under fuel n_0 pairs_1 b_3 c_6).getD false)))) else none else none

def syllogistref_Joined (fuel : Nat) (n_0 : Int) (pairs_1 : List (Int × Int)) (a_2 : Int) (b_3 : Int) : Option (Int) :=
  bif decide (n_0 ≤ 9223372036854775807) then
  forK (σ := Unit) (fun i s nx_ => syllogistref_Joined_b7 n_0 pairs_1 a_2 b_3 fuel i nx_) (fun _ => syllogistref_Joined_k3) (n_0 - (0 : Int)).toNat (0 : Int) () else none

set_option maxRecDepth 100000 in
theorem syllogistref_Joined_ok (w0 : World) (m : Snap) (l : List HI) (fuel : Nat) (n_0 : Int) (upairs_1 : Value) (pairs_1 : List (Int × Int)) (hpairs_1 : RS rP m upairs_1 pairs_1) (a_2 : Int) (b_3 : Int) (r : Int) (hr : syllogistref_Joined fuel n_0 pairs_1 a_2 b_3 = some r) (w : World) (hc : cX w0 ⟨m, l⟩ w) :
    Calls Try.prog 35 [.int .i64 n_0, upairs_1, .int .i64 a_2, .int .i64 b_3].toArray w fun e w' => e = .returned (.int .i64 r) ∧ cX w0 ⟨m, l⟩ w' := by
  unfold syllogistref_Joined at hr
  refine calls_of_Tr (N := 60) Try.func35 rfl hc rfl (Nat.le_of_ble_eq_true rfl) ?_
  refine Tr.seq ?_
  refine Tr.region_f (fun _ => false) ?_
  refine W.q rfl rfl rfl rfl (by decide) (Yd.as rfl .c) ?_
  refine W.end ?_
  refine NX.sub (env' := [(0, _), (1, _), (2, _), (3, _)]) ⟨rfl, rfl, rfl, rfl, trivial⟩ ?_
  refine NX.then ?_
  refine Tr.seq ?_
  refine Tr.seq ?_
  refine Tr.region_f (fun _ => false) ?_
  refine W.q rfl rfl rfl rfl (by decide) (Yd.as rfl .c) ?_
  refine W.end ?_
  refine NX.sub (env' := [(0, _), (1, _), (2, _), (3, _), (9, _)]) ⟨rfl, rfl, rfl, rfl, rfl, trivial⟩ ?_
  refine NX.then ?_
  refine Tr.join (S := fun env x => env = [] ∧ x = ⟨m, l⟩ ∧ syllogistref_Joined_k3 = some r) ?_ (fun hk4 => ?_)
  · rintro _ _ ⟨rfl, rfl, hr⟩
    unfold syllogistref_Joined_k3 at hr
    try dsimp only at hr
    refine NX.then ?_
    refine Tr.seq ?_
    refine Tr.region_f (fun _ => false) ?_
    refine W.q rfl rfl rfl rfl (by decide) (Yd.as rfl .c) ?_
    refine W.end ?_
    refine NX.sub (env' := [(8, _)]) ⟨rfl, trivial⟩ ?_
    refine NX.then ?_
    refine Tr.ret' ?_
    refine res1 rfl rfl ?_
    intro w hc
    cases hr
    exact ⟨rfl, hc⟩
  obtain ⟨hle5, hr⟩ := guard_some hr; replace hle5 := of_decide_eq_true hle5
  refine Tr.block ?_
  refine Tr.sub (env' := [(0, _), (1, _), (2, _), (3, _), (9, _)]) ⟨rfl, rfl, rfl, rfl, rfl, trivial⟩ ?_
  refine Tr.loop (S := fun n (z : Int × Unit) env x => match z with | (c_6, _) => env = [(0, .int .i64 n_0), (1, upairs_1), (2, .int .i64 a_2), (3, .int .i64 b_3), (9, .int .i64 c_6)] ∧ x = ⟨m, l⟩ ∧ n = (n_0 - c_6).toNat ∧ 0 ≤ c_6 ∧ forK (σ := Unit) (fun i s nx_ => syllogistref_Joined_b7 n_0 pairs_1 a_2 b_3 fuel i nx_) (fun _ => syllogistref_Joined_k3) n c_6 () = some r) _ ((0 : Int), ()) ⟨rfl, rfl, rfl, (by omega), hr⟩ ?_
  rintro n9 ⟨c_6, _⟩ env x ⟨rfl, rfl, hnc_6, h0c_6, hr⟩
  cases n9 with
  | zero =>
    simp only [forK] at hr
    refine Tr.seq ?_
    refine Tr.seq ?_
    refine Tr.region_f (fun _ => false) ?_
    refine W.q rfl rfl rfl rfl (by decide) (Yd.mv rfl (.t rfl)) ?_
    refine W.q rfl rfl rfl rfl (by decide) (Yd.mv rfl (.t rfl)) ?_
    refine W.q rfl rfl rfl rfl (by decide) (Yd.lss rfl (.t rfl) (.t rfl)) ?_
    refine W.end ?_
    refine NX.sub (env' := [(0, _), (1, _), (2, _), (3, _), (9, _), (14, _)]) ⟨rfl, rfl, rfl, rfl, rfl, rfl, trivial⟩ ?_
    refine NX.then ?_
    refine Tr.cond (.t rfl) (fun hb => ?_) (fun hb => ?_)
    · exact absurd (hb.symm.trans (fr_end hnc_6)) (by decide)
    ·
      refine Tr.exit' (EX.then (EX.then (EX.block ?_)))
      refine NX.sub (env' := []) trivial ?_
      exact hk4 _ _ ⟨rfl, rfl, hr⟩
  | succ n9 =>
    obtain ⟨nx8, hnx8, hr⟩ := forK_succ hr
    try dsimp only at hr
    unfold syllogistref_Joined_b7 at hr
    try dsimp only at hr
    have hltc_6 := fr_bnd hnc_6
    refine Tr.seq ?_
    refine Tr.seq ?_
    refine Tr.region_f (fun _ => false) ?_
    refine W.q rfl rfl rfl rfl (by decide) (Yd.mv rfl (.t rfl)) ?_
    refine W.q rfl rfl rfl rfl (by decide) (Yd.mv rfl (.t rfl)) ?_
    refine W.q rfl rfl rfl rfl (by decide) (Yd.lss rfl (.t rfl) (.t rfl)) ?_
    refine W.end ?_
    refine NX.sub (env' := [(0, _), (1, _), (2, _), (3, _), (9, _), (14, _)]) ⟨rfl, rfl, rfl, rfl, rfl, rfl, trivial⟩ ?_
    refine NX.then ?_
    refine Tr.cond (.t rfl) (fun hb => ?_) (fun hb => ?_)
    rotate_left
    · exact absurd (hb.symm.trans (fr_go hnc_6)) (by decide)
    ·
      refine Tr.skip' ?_
      refine NX.then ?_
      refine Tr.seq ?_
      refine Tr.block ?_
      refine Tr.seq ?_
      obtain ⟨r10, hr11, hr⟩ := bind_some hr
      obtain ⟨ha12, hr⟩ := guard_some hr
      refine Tr.region_f (fun _ => false) ?_
      refine W.q rfl rfl rfl rfl (by decide) (Yd.mv rfl (.t rfl)) ?_
      refine W.q rfl rfl rfl rfl (by decide) (Yd.mv rfl (.t rfl)) ?_
      refine W.q rfl rfl rfl rfl (by decide) (Yd.mv rfl (.t rfl)) ?_
      refine W.q rfl rfl rfl rfl (by decide) (Yd.mv rfl (.t rfl)) ?_
      refine W.q rfl rfl rfl rfl (by decide) (Yd.call (v := .bool r10) rfl Try.func18 rfl rfl (.cons (.t rfl) (.cons (.t rfl) (.cons (.t rfl) (.cons (.t rfl) .nil)))) (fun x' hx w hw => syllogistref_Under_ok w0 x'.m x'.l fuel n_0 _ _ (hpairs_1.mono hx.1) a_2 c_6 _ hr11 w hw)) ?_
      refine W.q rfl rfl rfl rfl (by decide) (Yd.mv rfl (.t rfl)) ?_
      refine W.g rfl rfl rfl rfl rfl (.t rfl _) rfl (by decide) (fun hG => Yd.mv rfl (.t rfl)) ?_
      refine W.g rfl rfl rfl rfl rfl (.t rfl _) rfl (by decide) (fun hG => Yd.mv rfl (.t rfl)) ?_
      refine W.g rfl rfl rfl rfl rfl (.t rfl _) rfl (by decide) (fun hG => Yd.mv rfl (.t rfl)) ?_
      refine W.g rfl rfl rfl rfl rfl (.t rfl _) rfl (by decide) (fun hG => Yd.mv rfl (.t rfl)) ?_
      refine W.g rfl rfl rfl rfl rfl (.t rfl _) rfl (by decide) (fun hG => Yd.call (v := .bool ((((syllogistref_Under fuel n_0 pairs_1 b_3 c_6).getD false)))) rfl Try.func18 rfl rfl (.cons (.g rfl hG) (.cons (.g rfl hG) (.cons (.g rfl hG) (.cons (.g rfl hG) .nil)))) (fun x' hx w hw => syllogistref_Under_ok w0 x'.m x'.l fuel n_0 _ _ (hpairs_1.mono hx.1) b_3 c_6 _ (gd_get (d := false) ha12 hG) w hw)) ?_
      refine W.q rfl rfl rfl rfl (by decide) (Yd.and rfl (.t rfl) .c rfl rfl) ?_
      refine W.q rfl rfl rfl rfl (by decide) (Yd.as rfl (.t rfl)) ?_
      refine W.end ?_
      refine NX.sub (env' := [(0, _), (1, _), (2, _), (3, _), (9, _), (10, _)]) ⟨rfl, rfl, rfl, rfl, rfl, rfl, trivial⟩ ?_
      refine NX.then ?_
      refine Tr.seq ?_
      refine Tr.seq ?_
      refine Tr.region_f (fun _ => false) ?_
      refine W.q rfl rfl rfl rfl (by decide) (Yd.as rfl .c) ?_
      refine W.end ?_
      refine NX.sub (env' := [(0, _), (1, _), (2, _), (3, _), (9, _), (10, _), (11, _)]) ⟨rfl, rfl, rfl, rfl, rfl, rfl, rfl, trivial⟩ ?_
      refine NX.then ?_
      refine Tr.join (S := fun env x => ∃ ok_17 : Bool, env = [(0, .int .i64 n_0), (1, upairs_1), (2, .int .i64 a_2), (3, .int .i64 b_3), (9, .int .i64 c_6), (10, .bool ok_17)] ∧ x = ⟨m, l⟩ ∧ syllogistref_Joined_k18 c_6 nx8 ok_17 = some r) ?_ (fun hk19 => ?_)
      · rintro _ _ ⟨ok_17, rfl, rfl, hr⟩
        unfold syllogistref_Joined_k18 at hr
        try dsimp only at hr
        refine NX.then ?_
        refine Tr.seq ?_
        refine Tr.region_f (fun _ => false) ?_
        refine W.q rfl rfl rfl rfl (by decide) (Yd.mv rfl (.t rfl)) ?_
        refine W.end ?_
        refine NX.sub (env' := [(0, _), (1, _), (2, _), (3, _), (9, _), (58, _)]) ⟨rfl, rfl, rfl, rfl, rfl, rfl, trivial⟩ ?_
        refine NX.then ?_
        refine Tr.cond (.t rfl) (fun hb => ?_) (fun hb => ?_)
        · have hr := cond_t hb hr
          refine Tr.seq ?_
          refine Tr.region_f (fun _ => false) ?_
          refine W.q rfl rfl rfl rfl (by decide) (Yd.mv rfl (.t rfl)) ?_
          refine W.q rfl rfl rfl rfl (by decide) (Yd.as rfl (.t rfl)) ?_
          refine W.end ?_
          refine NX.sub (env' := [(8, _)]) ⟨rfl, trivial⟩ ?_
          refine NX.then ?_
          refine Tr.ret' (RT.block (RT.then (RT.then (RT.block (RT.then ?_)))))
          refine res1 rfl rfl ?_
          intro w hc
          cases hr
          exact ⟨rfl, hc⟩
        · have hr := cond_f hb hr
          refine Tr.skip' ?_
          refine NX.block ?_
          refine NX.then ?_
          refine Tr.region_f (fun _ => false) ?_
          refine W.q rfl rfl rfl rfl (by decide) (Yd.mv rfl (.t rfl)) ?_
          refine W.q rfl rfl rfl rfl (by decide) (Yd.add rfl (.t rfl) .c) ?_
          refine W.q rfl rfl rfl rfl (by decide) (Yd.as rfl (.t rfl)) ?_
          refine W.end ?_
          refine NX.sub (env' := [(0, _), (1, _), (2, _), (3, _), (9, _)]) ⟨rfl, rfl, rfl, rfl, rfl, trivial⟩ ?_
          refine NX.sub (env' := [(0, _), (1, _), (2, _), (3, _), (9, _)]) ⟨rfl, rfl, rfl, rfl, rfl, trivial⟩ ?_
          have hw := w64_id (n := c_6 + 1) (by omega) (by omega)
          exact NX.again n9 (c_6 + 1, ()) (Nat.lt_succ_self _) ⟨(by rw [hw] <;> rfl), rfl, (fr_dec hnc_6), (by omega), ((hnx8 _).symm.trans hr)⟩
      obtain ⟨hle20, hr⟩ := guard_some hr; replace hle20 := of_decide_eq_true hle20
      refine Tr.block ?_
      refine Tr.sub (env' := [(0, _), (1, _), (2, _), (3, _), (9, _), (10, _), (11, _)]) ⟨rfl, rfl, rfl, rfl, rfl, rfl, rfl, trivial⟩ ?_
      refine Tr.loop (S := fun n (z : Int × Bool) env x => match z with | (d_21, ok_15) => env = [(0, .int .i64 n_0), (1, upairs_1), (2, .int .i64 a_2), (3, .int .i64 b_3), (9, .int .i64 c_6), (10, .bool ok_15), (11, .int .i64 d_21)] ∧ x = ⟨m, l⟩ ∧ n = (n_0 - d_21).toNat ∧ 0 ≤ d_21 ∧ forK (σ := Bool) (fun i s nx_ => syllogistref_Joined_b22 n_0 pairs_1 a_2 b_3 fuel c_6 i s nx_) (fun s => syllogistref_Joined_k18 c_6 nx8 s) n d_21 ok_15 = some r) _ ((0 : Int), (r10 && (((syllogistref_Under fuel n_0 pairs_1 b_3 c_6).getD false)))) ⟨rfl, rfl, rfl, (by omega), hr⟩ ?_
      rintro n24 ⟨d_21, ok_15⟩ env x ⟨rfl, rfl, hnd_21, h0d_21, hr⟩
      cases n24 with
      | zero =>
        simp only [forK] at hr
        refine Tr.seq ?_
        refine Tr.seq ?_
        refine Tr.region_f (fun _ => false) ?_
        refine W.q rfl rfl rfl rfl (by decide) (Yd.mv rfl (.t rfl)) ?_
        refine W.q rfl rfl rfl rfl (by decide) (Yd.mv rfl (.t rfl)) ?_
        refine W.q rfl rfl rfl rfl (by decide) (Yd.lss rfl (.t rfl) (.t rfl)) ?_
        refine W.end ?_
        refine NX.sub (env' := [(0, _), (1, _), (2, _), (3, _), (9, _), (10, _), (11, _), (31, _)]) ⟨rfl, rfl, rfl, rfl, rfl, rfl, rfl, rfl, trivial⟩ ?_
        refine NX.then ?_
        refine Tr.cond (.t rfl) (fun hb => ?_) (fun hb => ?_)
        · exact absurd (hb.symm.trans (fr_end hnd_21)) (by decide)
        ·
          refine Tr.exit' (EX.then (EX.then (EX.block ?_)))
          refine NX.sub (env' := [(0, _), (1, _), (2, _), (3, _), (9, _), (10, _)]) ⟨rfl, rfl, rfl, rfl, rfl, rfl, trivial⟩ ?_
          exact hk19 _ _ ⟨_, rfl, rfl, hr⟩
      | succ n24 =>
        obtain ⟨nx23, hnx23, hr⟩ := forK_succ hr
        try dsimp only at hr
        unfold syllogistref_Joined_b22 at hr
        try dsimp only at hr
        have hltd_21 := fr_bnd hnd_21
        refine Tr.seq ?_
        refine Tr.seq ?_
        refine Tr.region_f (fun _ => false) ?_
        refine W.q rfl rfl rfl rfl (by decide) (Yd.mv rfl (.t rfl)) ?_
        refine W.q rfl rfl rfl rfl (by decide) (Yd.mv rfl (.t rfl)) ?_
        refine W.q rfl rfl rfl rfl (by decide) (Yd.lss rfl (.t rfl) (.t rfl)) ?_
        refine W.end ?_
        refine NX.sub (env' := [(0, _), (1, _), (2, _), (3, _), (9, _), (10, _), (11, _), (31, _)]) ⟨rfl, rfl, rfl, rfl, rfl, rfl, rfl, rfl, trivial⟩ ?_
        refine NX.then ?_
        refine Tr.cond (.t rfl) (fun hb => ?_) (fun hb => ?_)
        rotate_left
        · exact absurd (hb.symm.trans (fr_go hnd_21)) (by decide)
        ·
          refine Tr.skip' ?_
          refine NX.then ?_
          refine Tr.seq ?_
          refine Tr.block ?_
          obtain ⟨ha25, hr⟩ := guard_some hr
          obtain ⟨ha26, hr⟩ := guard_some hr
          obtain ⟨ha27, hr⟩ := guard_some hr
          refine Tr.region_f (fun _ => false) ?_
          refine W.q rfl rfl rfl rfl (by decide) (Yd.mv rfl (.t rfl)) ?_
          refine W.q rfl rfl rfl rfl (by decide) (Yd.mv rfl (.t rfl)) ?_
          refine W.g rfl rfl rfl rfl rfl (.t rfl _) rfl (by decide) (fun hG => Yd.mv rfl (.t rfl)) ?_
          refine W.g rfl rfl rfl rfl rfl (.t rfl _) rfl (by decide) (fun hG => Yd.mv rfl (.t rfl)) ?_
          refine W.g rfl rfl rfl rfl rfl (.t rfl _) rfl (by decide) (fun hG => Yd.mv rfl (.t rfl)) ?_
          refine W.g rfl rfl rfl rfl rfl (.t rfl _) rfl (by decide) (fun hG => Yd.mv rfl (.t rfl)) ?_
          refine W.g rfl rfl rfl rfl rfl (.t rfl _) rfl (by decide) (fun hG => Yd.call (v := .bool ((((syllogistref_Under fuel n_0 pairs_1 a_2 d_21).getD false)))) rfl Try.func18 rfl rfl (.cons (.g rfl hG) (.cons (.g rfl hG) (.cons (.g rfl hG) (.cons (.g rfl hG) .nil)))) (fun x' hx w hw => syllogistref_Under_ok w0 x'.m x'.l fuel n_0 _ _ (hpairs_1.mono hx.1) a_2 d_21 _ (gd_get (d := false) ha25 hG) w hw)) ?_
          refine W.g rfl rfl rfl rfl rfl (.t rfl _) rfl (by decide) (fun hG => Yd.not rfl (.g rfl hG)) ?_
          refine W.g rfl rfl rfl rfl rfl (.t rfl _) rfl (by decide) (fun hG => Yd.mv rfl (.g rfl hG)) ?_
          refine W.g rfl rfl rfl rfl rfl (.g rfl _) rfl (by decide) (fun hG => Yd.mv rfl (.t rfl)) ?_
          refine W.g rfl rfl rfl rfl rfl (.g rfl _) rfl (by decide) (fun hG => Yd.mv rfl (.t rfl)) ?_
          refine W.g rfl rfl rfl rfl rfl (.g rfl _) rfl (by decide) (fun hG => Yd.mv rfl (.t rfl)) ?_
          refine W.g rfl rfl rfl rfl rfl (.g rfl _) rfl (by decide) (fun hG => Yd.mv rfl (.t rfl)) ?_
          refine W.g rfl rfl rfl rfl rfl (.g rfl _) rfl (by decide) (fun hG => Yd.call (v := .bool ((((syllogistref_Under fuel n_0 pairs_1 b_3 d_21).getD false)))) rfl Try.func18 rfl rfl (.cons (.g rfl hG) (.cons (.g rfl hG) (.cons (.g rfl hG) (.cons (.g rfl hG) .nil)))) (fun x' hx w hw => syllogistref_Under_ok w0 x'.m x'.l fuel n_0 _ _ (hpairs_1.mono hx.1) b_3 d_21 _ (gd_get (d := false) ha26 hG) w hw)) ?_
          refine W.g rfl rfl rfl rfl rfl (.g rfl _) rfl (by decide) (fun hG => Yd.not rfl (.g rfl hG)) ?_
          refine W.g rfl rfl rfl rfl rfl (.t rfl _) rfl (by decide) (fun hG => Yd.orG rfl (.g rfl hG) .c rfl rfl hG) ?_
          refine W.g rfl rfl rfl rfl rfl (.t rfl _) rfl (by decide) (fun hG => Yd.mv rfl (.g rfl hG)) ?_
          refine W.g rfl rfl rfl rfl rfl (.g rfl _) rfl (by decide) (fun hG => Yd.mv rfl (.t rfl)) ?_
          refine W.g rfl rfl rfl rfl rfl (.g rfl _) rfl (by decide) (fun hG => Yd.mv rfl (.t rfl)) ?_
          refine W.g rfl rfl rfl rfl rfl (.g rfl _) rfl (by decide) (fun hG => Yd.mv rfl (.t rfl)) ?_
          refine W.g rfl rfl rfl rfl rfl (.g rfl _) rfl (by decide) (fun hG => Yd.mv rfl (.t rfl)) ?_
          refine W.g rfl rfl rfl rfl rfl (.g rfl _) rfl (by decide) (fun hG => Yd.call (v := .bool ((((syllogistref_Under fuel n_0 pairs_1 c_6 d_21).getD false)))) rfl Try.func18 rfl rfl (.cons (.g rfl hG) (.cons (.g rfl hG) (.cons (.g rfl hG) (.cons (.g rfl hG) .nil)))) (fun x' hx w hw => syllogistref_Under_ok w0 x'.m x'.l fuel n_0 _ _ (hpairs_1.mono hx.1) c_6 d_21 _ (gd_get (d := false) ha27 hG) w hw)) ?_
          refine W.g rfl rfl rfl rfl rfl (.t rfl _) rfl (by decide) (fun hG => Yd.orG rfl (.g rfl hG) .c rfl rfl hG) ?_
          refine W.q rfl rfl rfl rfl (by decide) (Yd.and rfl (.t rfl) .c rfl rfl) ?_
          refine W.q rfl rfl rfl rfl (by decide) (Yd.as rfl (.t rfl)) ?_
          refine W.end ?_
          refine NX.sub (env' := [(0, _), (1, _), (2, _), (3, _), (9, _), (10, _), (11, _)]) ⟨rfl, rfl, rfl, rfl, rfl, rfl, rfl, trivial⟩ ?_
          refine NX.block ?_
          refine NX.then ?_
          refine Tr.region_f (fun _ => false) ?_
          refine W.q rfl rfl rfl rfl (by decide) (Yd.mv rfl (.t rfl)) ?_
          refine W.q rfl rfl rfl rfl (by decide) (Yd.add rfl (.t rfl) .c) ?_
          refine W.q rfl rfl rfl rfl (by decide) (Yd.as rfl (.t rfl)) ?_
          refine W.end ?_
          refine NX.sub (env' := [(0, _), (1, _), (2, _), (3, _), (9, _), (10, _), (11, _)]) ⟨rfl, rfl, rfl, rfl, rfl, rfl, rfl, trivial⟩ ?_
          refine NX.sub (env' := [(0, _), (1, _), (2, _), (3, _), (9, _), (10, _), (11, _)]) ⟨rfl, rfl, rfl, rfl, rfl, rfl, rfl, trivial⟩ ?_
          have hw := w64_id (n := d_21 + 1) (by omega) (by omega)
          exact NX.again n24 (d_21 + 1, (ok_15 && (((!(((syllogistref_Under fuel n_0 pairs_1 a_2 d_21).getD false))) || (!(((syllogistref_Under fuel n_0 pairs_1 b_3 d_21).getD false)))) || (((syllogistref_Under fuel n_0 pairs_1 c_6 d_21).getD false))))) (Nat.lt_succ_self _) ⟨(by rw [hw] <;> rfl), rfl, (fr_dec hnd_21), (by omega), ((hnx23 _).symm.trans hr)⟩

def syllogistlaw_LatticeJoins_k10 (n_0 : Int) (pairs_1 : List (Int × Int)) (a_2 : Int) (b_3 : Int) (fuel : Nat) (r1 : Int × Int) (x_9 : Int) : Option (Bool) :=
  (bif (x_9 != (0 : Int)) then
  some (((r1.2 == x_9) && (r1.1 == (0 : Int))))
  else
  bif (!((r1.2 == (0 : Int)) == true) || (syllogistref_Joined fuel n_0 pairs_1 a_2 b_3).isSome) then
  some (((r1.2 == (0 : Int)) && (r1.1 == (((syllogistref_Joined fuel n_0 pairs_1 a_2 b_3).getD (0 : Int)))))) else none)

def syllogistlaw_LatticeJoins_k6 (n_0 : Int) (pairs_1 : List (Int × Int)) (a_2 : Int) (b_3 : Int) (fuel : Nat) (r1 : Int × Int) (x_5 : Int) : Option (Bool) :=
  bif (!((x_5 == (0 : Int)) == true) || (syllogistref_Joined fuel n_0 pairs_1 a_2 b_3).isSome) then
  (bif ((x_5 == (0 : Int)) && (decide ((((syllogistref_Joined fuel n_0 pairs_1 a_2 b_3).getD (0 : Int))) < (0 : Int)))) then
  syllogistlaw_LatticeJoins_k10 n_0 pairs_1 a_2 b_3 fuel r1 ((5 : Int))
  else
  syllogistlaw_LatticeJoins_k10 n_0 pairs_1 a_2 b_3 fuel r1 x_5) else none

def syllogistlaw_LatticeJoins (fuel : Nat) (n_0 : Int) (pairs_1 : List (Int × Int)) (a_2 : Int) (b_3 : Int) : Option (Bool) :=
  (lattice_Join n_0 pairs_1 a_2 b_3).bind fun r1 =>
  (syllogistref_OrderCheck fuel n_0 pairs_1).bind fun r3 =>
  (bif ((r3 == (0 : Int)) && ((((decide (a_2 < (0 : Int))) || (decide (a_2 ≥ n_0))) || (decide (b_3 < (0 : Int)))) || (decide (b_3 ≥ n_0)))) then
  syllogistlaw_LatticeJoins_k6 n_0 pairs_1 a_2 b_3 fuel r1 ((4 : Int))
  else
  syllogistlaw_LatticeJoins_k6 n_0 pairs_1 a_2 b_3 fuel r1 r3)

set_option maxRecDepth 100000 in
theorem syllogistlaw_LatticeJoins_ok (w0 : World) (m : Snap) (l : List HI) (fuel : Nat) (n_0 : Int) (upairs_1 : Value) (pairs_1 : List (Int × Int)) (hpairs_1 : RS rP m upairs_1 pairs_1) (a_2 : Int) (b_3 : Int) (r : Bool) (hr : syllogistlaw_LatticeJoins fuel n_0 pairs_1 a_2 b_3 = some r) (w : World) (hc : cX w0 ⟨m, l⟩ w) :
    Calls Try.prog 10 [.int .i64 n_0, upairs_1, .int .i64 a_2, .int .i64 b_3].toArray w fun e w' => e = .returned (.bool r) ∧ cX w0 ⟨m, l⟩ w' := by
  unfold syllogistlaw_LatticeJoins at hr
  refine calls_of_Tr (N := 73) Try.func10 rfl hc rfl (Nat.le_of_ble_eq_true rfl) ?_
  refine Tr.seq ?_
  refine Tr.region_f (fun _ => false) ?_
  refine W.q rfl rfl rfl rfl (by decide) (Yd.as rfl .c) ?_
  refine W.end ?_
  refine NX.sub (env' := [(0, _), (1, _), (2, _), (3, _)]) ⟨rfl, rfl, rfl, rfl, trivial⟩ ?_
  refine NX.then ?_
  refine Tr.seq ?_
  obtain ⟨r1, hr2, hr⟩ := bind_some hr
  refine Tr.region_f (fun _ => false) ?_
  refine W.q rfl rfl rfl rfl (by decide) (Yd.mv rfl (.t rfl)) ?_
  refine W.q rfl rfl rfl rfl (by decide) (Yd.mv rfl (.t rfl)) ?_
  refine W.q rfl rfl rfl rfl (by decide) (Yd.mv rfl (.t rfl)) ?_
  refine W.q rfl rfl rfl rfl (by decide) (Yd.mv rfl (.t rfl)) ?_
  refine W.q rfl rfl rfl rfl (by decide) (Yd.call (v := .tuple #[.int .i64 r1.1, .int .i64 r1.2]) rfl Try.func34 rfl rfl (.cons (.t rfl) (.cons (.t rfl) (.cons (.t rfl) (.cons (.t rfl) .nil)))) (fun x' hx w hw => lattice_Join_ok w0 x'.m x'.l n_0 _ _ (hpairs_1.mono hx.1) a_2 b_3 _ hr2 w hw)) ?_
  refine W.q rfl rfl rfl rfl (by decide) (Yd.mv rfl (.t rfl)) ?_
  refine W.q rfl rfl rfl rfl (by decide) (Yd.ext rfl (.t rfl) rfl) ?_
  refine W.q rfl rfl rfl rfl (by decide) (Yd.ext rfl (.t rfl) rfl) ?_
  refine W.q rfl rfl rfl rfl (by decide) (Yd.as rfl (.t rfl)) ?_
  refine W.q rfl rfl rfl rfl (by decide) (Yd.as rfl (.t rfl)) ?_
  refine W.end ?_
  refine NX.sub (env' := [(0, _), (1, _), (2, _), (3, _), (9, _), (10, _)]) ⟨rfl, rfl, rfl, rfl, rfl, rfl, trivial⟩ ?_
  refine NX.then ?_
  refine Tr.seq ?_
  obtain ⟨r3, hr4, hr⟩ := bind_some hr
  refine Tr.region_f (fun _ => false) ?_
  refine W.q rfl rfl rfl rfl (by decide) (Yd.mv rfl (.t rfl)) ?_
  refine W.q rfl rfl rfl rfl (by decide) (Yd.mv rfl (.t rfl)) ?_
  refine W.q rfl rfl rfl rfl (by decide) (Yd.call (v := .int .i64 r3) rfl Try.func16 rfl rfl (.cons (.t rfl) (.cons (.t rfl) .nil)) (fun x' hx w hw => syllogistref_OrderCheck_ok w0 x'.m x'.l fuel n_0 _ _ (hpairs_1.mono hx.1) _ hr4 w hw)) ?_
  refine W.q rfl rfl rfl rfl (by decide) (Yd.as rfl (.t rfl)) ?_
  refine W.end ?_
  refine NX.sub (env' := [(0, _), (1, _), (2, _), (3, _), (9, _), (10, _), (11, _)]) ⟨rfl, rfl, rfl, rfl, rfl, rfl, rfl, trivial⟩ ?_
  refine NX.then ?_
  refine Tr.seq ?_
  refine Tr.seq ?_
  refine Tr.region_f (fun _ => false) ?_
  refine W.q rfl rfl rfl rfl (by decide) (Yd.mv rfl (.t rfl)) ?_
  refine W.q rfl rfl rfl rfl (by decide) (Yd.eql rfl (.t rfl) .c) ?_
  refine W.q rfl rfl rfl rfl (by decide) (Yd.mv rfl (.t rfl)) ?_
  refine W.g rfl rfl rfl rfl rfl (.t rfl _) rfl (by decide) (fun hG => Yd.mv rfl (.t rfl)) ?_
  refine W.g rfl rfl rfl rfl rfl (.t rfl _) rfl (by decide) (fun hG => Yd.lss rfl (.g rfl hG) .c) ?_
  refine W.g rfl rfl rfl rfl rfl (.t rfl _) rfl (by decide) (fun hG => Yd.mv rfl (.g rfl hG)) ?_
  refine W.g rfl rfl rfl rfl rfl (.g rfl _) rfl (by decide) (fun hG => Yd.mv rfl (.t rfl)) ?_
  refine W.g rfl rfl rfl rfl rfl (.g rfl _) rfl (by decide) (fun hG => Yd.mv rfl (.t rfl)) ?_
  refine W.g rfl rfl rfl rfl rfl (.g rfl _) rfl (by decide) (fun hG => Yd.geq rfl (.g rfl hG) (.g rfl hG)) ?_
  refine W.g rfl rfl rfl rfl rfl (.t rfl _) rfl (by decide) (fun hG => Yd.orG rfl (.g rfl hG) .c rfl rfl hG) ?_
  refine W.g rfl rfl rfl rfl rfl (.t rfl _) rfl (by decide) (fun hG => Yd.mv rfl (.g rfl hG)) ?_
  refine W.g rfl rfl rfl rfl rfl (.g rfl _) rfl (by decide) (fun hG => Yd.mv rfl (.t rfl)) ?_
  refine W.g rfl rfl rfl rfl rfl (.g rfl _) rfl (by decide) (fun hG => Yd.lss rfl (.g rfl hG) .c) ?_
  refine W.g rfl rfl rfl rfl rfl (.t rfl _) rfl (by decide) (fun hG => Yd.orG rfl (.g rfl hG) .c rfl rfl hG) ?_
  refine W.g rfl rfl rfl rfl rfl (.t rfl _) rfl (by decide) (fun hG => Yd.mv rfl (.g rfl hG)) ?_
  refine W.g rfl rfl rfl rfl rfl (.g rfl _) rfl (by decide) (fun hG => Yd.mv rfl (.t rfl)) ?_
  refine W.g rfl rfl rfl rfl rfl (.g rfl _) rfl (by decide) (fun hG => Yd.mv rfl (.t rfl)) ?_
  refine W.g rfl rfl rfl rfl rfl (.g rfl _) rfl (by decide) (fun hG => Yd.geq rfl (.g rfl hG) (.g rfl hG)) ?_
  refine W.g rfl rfl rfl rfl rfl (.t rfl _) rfl (by decide) (fun hG => Yd.orG rfl (.g rfl hG) .c rfl rfl hG) ?_
  refine W.q rfl rfl rfl rfl (by decide) (Yd.and rfl (.t rfl) .c rfl rfl) ?_
  refine W.end ?_
  refine NX.sub (env' := [(0, _), (1, _), (2, _), (3, _), (9, _), (10, _), (11, _), (42, _)]) ⟨rfl, rfl, rfl, rfl, rfl, rfl, rfl, rfl, trivial⟩ ?_
  refine NX.then ?_
  refine Tr.join (S := fun env x => ∃ x_5 : Int, env = [(0, .int .i64 n_0), (1, upairs_1), (2, .int .i64 a_2), (3, .int .i64 b_3), (9, .int .i64 r1.1), (10, .int .i64 r1.2), (11, .int .i64 x_5)] ∧ x = ⟨m, l⟩ ∧ syllogistlaw_LatticeJoins_k6 n_0 pairs_1 a_2 b_3 fuel r1 x_5 = some r) ?_ (fun hk7 => ?_)
  · rintro _ _ ⟨x_5, rfl, rfl, hr⟩
    unfold syllogistlaw_LatticeJoins_k6 at hr
    try dsimp only at hr
    refine NX.then ?_
    refine Tr.seq ?_
    refine Tr.seq ?_
    obtain ⟨ha8, hr⟩ := guard_some hr
    refine Tr.region_f (fun _ => false) ?_
    refine W.q rfl rfl rfl rfl (by decide) (Yd.mv rfl (.t rfl)) ?_
    refine W.q rfl rfl rfl rfl (by decide) (Yd.eql rfl (.t rfl) .c) ?_
    refine W.q rfl rfl rfl rfl (by decide) (Yd.mv rfl (.t rfl)) ?_
    refine W.g rfl rfl rfl rfl rfl (.t rfl _) rfl (by decide) (fun hG => Yd.mv rfl (.t rfl)) ?_
    refine W.g rfl rfl rfl rfl rfl (.t rfl _) rfl (by decide) (fun hG => Yd.mv rfl (.t rfl)) ?_
    refine W.g rfl rfl rfl rfl rfl (.t rfl _) rfl (by decide) (fun hG => Yd.mv rfl (.t rfl)) ?_
    refine W.g rfl rfl rfl rfl rfl (.t rfl _) rfl (by decide) (fun hG => Yd.mv rfl (.t rfl)) ?_
    refine W.g rfl rfl rfl rfl rfl (.t rfl _) rfl (by decide) (fun hG => Yd.call (v := .int .i64 ((((syllogistref_Joined fuel n_0 pairs_1 a_2 b_3).getD (0 : Int))))) rfl Try.func35 rfl rfl (.cons (.g rfl hG) (.cons (.g rfl hG) (.cons (.g rfl hG) (.cons (.g rfl hG) .nil)))) (fun x' hx w hw => syllogistref_Joined_ok w0 x'.m x'.l fuel n_0 _ _ (hpairs_1.mono hx.1) a_2 b_3 _ (gd_get (d := (0 : Int)) ha8 hG) w hw)) ?_
    refine W.g rfl rfl rfl rfl rfl (.t rfl _) rfl (by decide) (fun hG => Yd.lss rfl (.g rfl hG) .c) ?_
    refine W.q rfl rfl rfl rfl (by decide) (Yd.and rfl (.t rfl) .c rfl rfl) ?_
    refine W.end ?_
    refine NX.sub (env' := [(0, _), (1, _), (2, _), (3, _), (9, _), (10, _), (11, _), (52, _)]) ⟨rfl, rfl, rfl, rfl, rfl, rfl, rfl, rfl, trivial⟩ ?_
    refine NX.then ?_
    refine Tr.join (S := fun env x => ∃ x_9 : Int, env = [(0, .int .i64 n_0), (1, upairs_1), (2, .int .i64 a_2), (3, .int .i64 b_3), (9, .int .i64 r1.1), (10, .int .i64 r1.2), (11, .int .i64 x_9)] ∧ x = ⟨m, l⟩ ∧ syllogistlaw_LatticeJoins_k10 n_0 pairs_1 a_2 b_3 fuel r1 x_9 = some r) ?_ (fun hk11 => ?_)
    · rintro _ _ ⟨x_9, rfl, rfl, hr⟩
      unfold syllogistlaw_LatticeJoins_k10 at hr
      try dsimp only at hr
      refine NX.then ?_
      refine Tr.seq ?_
      refine Tr.seq ?_
      refine Tr.region_f (fun _ => false) ?_
      refine W.q rfl rfl rfl rfl (by decide) (Yd.mv rfl (.t rfl)) ?_
      refine W.q rfl rfl rfl rfl (by decide) (Yd.neq rfl (.t rfl) .c) ?_
      refine W.end ?_
      refine NX.sub (env' := [(0, _), (1, _), (2, _), (3, _), (9, _), (10, _), (11, _), (54, _)]) ⟨rfl, rfl, rfl, rfl, rfl, rfl, rfl, rfl, trivial⟩ ?_
      refine NX.then ?_
      refine Tr.cond (.t rfl) (fun hb => ?_) (fun hb => ?_)
      · have hr := cond_t hb hr
        refine Tr.seq ?_
        refine Tr.region_f (fun _ => false) ?_
        refine W.q rfl rfl rfl rfl (by decide) (Yd.mv rfl (.t rfl)) ?_
        refine W.q rfl rfl rfl rfl (by decide) (Yd.mv rfl (.t rfl)) ?_
        refine W.q rfl rfl rfl rfl (by decide) (Yd.eql rfl (.t rfl) (.t rfl)) ?_
        refine W.q rfl rfl rfl rfl (by decide) (Yd.mv rfl (.t rfl)) ?_
        refine W.g rfl rfl rfl rfl rfl (.t rfl _) rfl (by decide) (fun hG => Yd.mv rfl (.t rfl)) ?_
        refine W.g rfl rfl rfl rfl rfl (.t rfl _) rfl (by decide) (fun hG => Yd.eql rfl (.g rfl hG) .c) ?_
        refine W.q rfl rfl rfl rfl (by decide) (Yd.and rfl (.t rfl) .c rfl rfl) ?_
        refine W.q rfl rfl rfl rfl (by decide) (Yd.as rfl (.t rfl)) ?_
        refine W.end ?_
        refine NX.sub (env' := [(8, _)]) ⟨rfl, trivial⟩ ?_
        refine NX.then ?_
        refine Tr.ret' (RT.then ?_)
        refine res1 rfl rfl ?_
        intro w hc
        cases hr
        exact ⟨rfl, hc⟩
      · have hr := cond_f hb hr
        refine Tr.skip' ?_
        refine NX.then ?_
        refine Tr.seq ?_
        obtain ⟨ha12, hr⟩ := guard_some hr
        refine Tr.region_f (fun _ => false) ?_
        refine W.q rfl rfl rfl rfl (by decide) (Yd.mv rfl (.t rfl)) ?_
        refine W.q rfl rfl rfl rfl (by decide) (Yd.eql rfl (.t rfl) .c) ?_
        refine W.q rfl rfl rfl rfl (by decide) (Yd.mv rfl (.t rfl)) ?_
        refine W.g rfl rfl rfl rfl rfl (.t rfl _) rfl (by decide) (fun hG => Yd.mv rfl (.t rfl)) ?_
        refine W.g rfl rfl rfl rfl rfl (.t rfl _) rfl (by decide) (fun hG => Yd.mv rfl (.t rfl)) ?_
        refine W.g rfl rfl rfl rfl rfl (.t rfl _) rfl (by decide) (fun hG => Yd.mv rfl (.t rfl)) ?_
        refine W.g rfl rfl rfl rfl rfl (.t rfl _) rfl (by decide) (fun hG => Yd.mv rfl (.t rfl)) ?_
        refine W.g rfl rfl rfl rfl rfl (.t rfl _) rfl (by decide) (fun hG => Yd.mv rfl (.t rfl)) ?_
        refine W.g rfl rfl rfl rfl rfl (.t rfl _) rfl (by decide) (fun hG => Yd.call (v := .int .i64 ((((syllogistref_Joined fuel n_0 pairs_1 a_2 b_3).getD (0 : Int))))) rfl Try.func35 rfl rfl (.cons (.g rfl hG) (.cons (.g rfl hG) (.cons (.g rfl hG) (.cons (.g rfl hG) .nil)))) (fun x' hx w hw => syllogistref_Joined_ok w0 x'.m x'.l fuel n_0 _ _ (hpairs_1.mono hx.1) a_2 b_3 _ (gd_get (d := (0 : Int)) ha12 hG) w hw)) ?_
        refine W.g rfl rfl rfl rfl rfl (.t rfl _) rfl (by decide) (fun hG => Yd.eql rfl (.g rfl hG) (.g rfl hG)) ?_
        refine W.q rfl rfl rfl rfl (by decide) (Yd.and rfl (.t rfl) .c rfl rfl) ?_
        refine W.q rfl rfl rfl rfl (by decide) (Yd.as rfl (.t rfl)) ?_
        refine W.end ?_
        refine NX.sub (env' := [(8, _)]) ⟨rfl, trivial⟩ ?_
        refine NX.then ?_
        refine Tr.ret' ?_
        refine res1 rfl rfl ?_
        intro w hc
        cases hr
        exact ⟨rfl, hc⟩
    refine Tr.cond (.t rfl) (fun hb => ?_) (fun hb => ?_)
    · have hr := cond_t hb hr
      refine Tr.region_f (fun _ => false) ?_
      refine W.q rfl rfl rfl rfl (by decide) (Yd.as rfl .c) ?_
      refine W.end ?_
      refine NX.sub (env' := [(0, _), (1, _), (2, _), (3, _), (9, _), (10, _), (11, _)]) ⟨rfl, rfl, rfl, rfl, rfl, rfl, rfl, trivial⟩ ?_
      refine NX.sub (env' := [(0, _), (1, _), (2, _), (3, _), (9, _), (10, _), (11, _)]) ⟨rfl, rfl, rfl, rfl, rfl, rfl, rfl, trivial⟩ ?_
      exact hk11 _ _ ⟨_, rfl, rfl, hr⟩
    · have hr := cond_f hb hr
      refine Tr.skip' ?_
      refine NX.sub (env' := [(0, _), (1, _), (2, _), (3, _), (9, _), (10, _), (11, _)]) ⟨rfl, rfl, rfl, rfl, rfl, rfl, rfl, trivial⟩ ?_
      exact hk11 _ _ ⟨_, rfl, rfl, hr⟩
  refine Tr.cond (.t rfl) (fun hb => ?_) (fun hb => ?_)
  · have hr := cond_t hb hr
    refine Tr.region_f (fun _ => false) ?_
    refine W.q rfl rfl rfl rfl (by decide) (Yd.as rfl .c) ?_
    refine W.end ?_
    refine NX.sub (env' := [(0, _), (1, _), (2, _), (3, _), (9, _), (10, _), (11, _)]) ⟨rfl, rfl, rfl, rfl, rfl, rfl, rfl, trivial⟩ ?_
    refine NX.sub (env' := [(0, _), (1, _), (2, _), (3, _), (9, _), (10, _), (11, _)]) ⟨rfl, rfl, rfl, rfl, rfl, rfl, rfl, trivial⟩ ?_
    exact hk7 _ _ ⟨_, rfl, rfl, hr⟩
  · have hr := cond_f hb hr
    refine Tr.skip' ?_
    refine NX.sub (env' := [(0, _), (1, _), (2, _), (3, _), (9, _), (10, _), (11, _)]) ⟨rfl, rfl, rfl, rfl, rfl, rfl, rfl, trivial⟩ ?_
    exact hk7 _ _ ⟨_, rfl, rfl, hr⟩

def lattice_Meet_c1 (t_0 : Option T71) : Option ((List (List Int))) :=
  (t_0).bind fun x1 =>
  some x1.meet

set_option maxRecDepth 100000 in
theorem lattice_Meet_c1_ok (w0 : World) (m : Snap) (l : List HI) (ut_0 : Value) (t_0 : Option T71) (ht_0 : P71 m ut_0 t_0) (r : (List (List Int))) (hr : lattice_Meet_c1 t_0 = some r) (w : World) (hc : cX w0 ⟨m, l⟩ w) :
    Calls Try.prog 54 [ut_0].toArray w fun e w' => ∃ z0 : Value, ∃ m1 : Snap, e = .returned (z0) ∧ Sle m m1 ∧ RS (Rp.slice rI) m1 z0 r ∧ cX w0 ⟨m1, l⟩ w' := by
  unfold lattice_Meet_c1 at hr
  refine calls_of_Tr (N := 7) Try.func54 rfl hc rfl (Nat.le_of_ble_eq_true rfl) ?_
  refine Tr.seq ?_
  refine Tr.region_f (fun _ => false) ?_
  refine W.q rfl rfl rfl rfl (by decide) (Yd.as rfl .c) ?_
  refine W.end ?_
  refine NX.sub (env' := [(0, _)]) ⟨rfl, trivial⟩ ?_
  refine NX.then ?_
  refine Tr.seq ?_
  obtain ⟨x1, hn2, hr⟩ := bind_some hr
  refine Tr.region_f (fun _ => false) ?_
  refine W.q rfl rfl rfl rfl (by decide) (Yd.mv rfl (.t rfl)) ?_
  have hp3 := ht_0; rw [hn2] at hp3; obtain ⟨b5, u7, u9, u11, u13, hz4, hb6, hu8, hu10, hu12, hu14⟩ := hp3; subst hz4
  refine W.q rfl rfl rfl rfl (by decide) (Yd.nilc rfl (.t rfl)) ?_
  refine W.q rfl rfl rfl rfl (by decide) (Yd.fldB rfl Try.underlying71 rfl SZ44 rfl (.t rfl)) ?_
  refine W.q rfl rfl rfl rfl (by decide) (Yd.ldK hb6 rfl rfl ON44 (.t rfl)) ?_
  refine W.q rfl rfl rfl rfl (by decide) (Yd.as rfl (.t rfl)) ?_
  refine W.end ?_
  refine NX.sub (env' := [(2, _)]) ⟨rfl, trivial⟩ ?_
  refine NX.then ?_
  refine Tr.ret' ?_
  refine res1 rfl rfl ?_
  intro w hc
  cases hr
  exact ⟨_, _, rfl, (.refl _), hu14, hc⟩

def lattice_of_f54 (n_0 : Int) (pairs_1 : List (Int × Int)) (a_2 : Int) (b_3 : Int) : Option (Int × Int) :=
  (lattice_build n_0 pairs_1).bind fun r1 =>
  (bif (r1.2 != (0 : Int)) then
  some (((0 : Int), r1.2))
  else
  (bif ((decide ((if b_3 < a_2 then b_3 else a_2) < (0 : Int))) || (decide ((if b_3 > a_2 then b_3 else a_2) ≥ n_0))) then
  some (((0 : Int), (4 : Int)))
  else
  (lattice_Meet_c1 r1.1).bind fun r6 =>
  (geti r6 a_2).bind fun y11 =>
  (geti y11 b_3).bind fun y16 =>
  (bif (decide (y16 < (0 : Int))) then
  some (((0 : Int), (5 : Int)))
  else
  (lattice_Meet_c1 r1.1).bind fun r18 =>
  (geti r18 a_2).bind fun y23 =>
  (geti y23 b_3).bind fun y28 =>
  some ((y28, (0 : Int))))))

set_option maxRecDepth 100000 in
theorem lattice_of_f54_ok (w0 : World) (m : Snap) (l : List HI) (n_0 : Int) (upairs_1 : Value) (pairs_1 : List (Int × Int)) (hpairs_1 : RS rP m upairs_1 pairs_1) (a_2 : Int) (b_3 : Int) (r : Int × Int) (hr : lattice_of_f54 n_0 pairs_1 a_2 b_3 = some r) (w : World) (hc : cX w0 ⟨m, l⟩ w) :
    Calls Try.prog 52 [.int .i64 n_0, upairs_1, .int .i64 a_2, .int .i64 b_3, .func (.func 54) #[] #[]].toArray w fun e w' => e = .returned (.tuple #[.int .i64 r.1, .int .i64 r.2]) ∧ cX w0 ⟨m, l⟩ w' := by
  unfold lattice_of_f54 at hr
  refine calls_of_Tr (N := 56) Try.func52 rfl hc rfl (Nat.le_of_ble_eq_true rfl) ?_
  refine Tr.seq ?_
  refine Tr.region_f (fun _ => false) ?_
  refine W.q rfl rfl rfl rfl (by decide) (Yd.as rfl .c) ?_
  refine W.q rfl rfl rfl rfl (by decide) (Yd.as rfl .c) ?_
  refine W.end ?_
  refine NX.sub (env' := [(0, _), (1, _), (2, _), (3, _), (4, _)]) ⟨rfl, rfl, rfl, rfl, rfl, trivial⟩ ?_
  refine NX.then ?_
  refine Tr.seq ?_
  obtain ⟨r1, hr2, hr⟩ := bind_some hr
  refine Tr.region_f (fun i => Nat.beq i 2) ?_
  refine W.q rfl rfl rfl rfl (by decide) (Yd.mv rfl (.t rfl)) ?_
  refine W.q rfl rfl rfl rfl (by decide) (Yd.mv rfl (.t rfl)) ?_
  refine W.e rfl rfl rfl rfl (by decide) (Ef.call (R := fun z x' => ∃ u3 : Value, ∃ m4 : Snap, z = .tuple #[u3, .int .i64 r1.2] ∧ x' = ⟨m4, l⟩ ∧ Sle m m4 ∧ P71 m4 u3 r1.1) rfl Try.func51 rfl rfl (.cons (.t rfl) (.cons (.t rfl) .nil)) (fun w hw => (lattice_build_ok w0 _ _ n_0 _ _ hpairs_1 _ hr2 w hw).mono fun e w' ⟨u3, m4, he, hm', hu5, hc'⟩ => ⟨_, _, he, ⟨u3, m4, rfl, rfl, hm', hu5⟩, hc'⟩)) ?_
  rintro _ _ ⟨u3, m4, rfl, rfl, hsm4, hu5⟩
  have hpairs_1 := hpairs_1.mono hsm4
  refine ⟨.inl rfl, ?_⟩
  refine W.cast (m' := m4) (l' := l) rfl rfl ?_
  refine W.q rfl rfl rfl rfl (by decide) (Yd.mv rfl (.t rfl)) ?_
  refine W.q rfl rfl rfl rfl (by decide) (Yd.ext rfl (.t rfl) rfl) ?_
  refine W.q rfl rfl rfl rfl (by decide) (Yd.ext rfl (.t rfl) rfl) ?_
  refine W.q rfl rfl rfl rfl (by decide) (Yd.as rfl (.t rfl)) ?_
  refine W.q rfl rfl rfl rfl (by decide) (Yd.as rfl (.t rfl)) ?_
  refine W.end ?_
  refine NX.sub (env' := [(0, _), (2, _), (3, _), (4, _), (12, _), (13, _)]) ⟨rfl, rfl, rfl, rfl, rfl, rfl, trivial⟩ ?_
  refine NX.then ?_
  refine Tr.seq ?_
  refine Tr.block ?_
  refine Tr.seq ?_
  refine Tr.region_f (fun _ => false) ?_
  refine W.q rfl rfl rfl rfl (by decide) (Yd.mv rfl (.t rfl)) ?_
  refine W.q rfl rfl rfl rfl (by decide) (Yd.neq rfl (.t rfl) .c) ?_
  refine W.q rfl rfl rfl rfl (by decide) (Yd.as rfl (.t rfl)) ?_
  refine W.end ?_
  refine NX.sub (env' := [(0, _), (2, _), (3, _), (4, _), (12, _), (13, _), (20, _)]) ⟨rfl, rfl, rfl, rfl, rfl, rfl, rfl, trivial⟩ ?_
  refine NX.then ?_
  refine Tr.cond (.t rfl) (fun hb => ?_) (fun hb => ?_)
  · have hr := cond_t hb hr
    refine Tr.seq ?_
    refine Tr.region_f (fun _ => false) ?_
    refine W.q rfl rfl rfl rfl (by decide) (Yd.mv rfl (.t rfl)) ?_
    refine W.q rfl rfl rfl rfl (by decide) (Yd.as rfl .c) ?_
    refine W.q rfl rfl rfl rfl (by decide) (Yd.as rfl (.t rfl)) ?_
    refine W.end ?_
    refine NX.sub (env' := [(10, _), (11, _)]) ⟨rfl, rfl, trivial⟩ ?_
    refine NX.then ?_
    refine Tr.ret' (RT.block (RT.then ?_))
    refine res2 rfl rfl rfl ?_
    intro w hc
    cases hr
    exact ⟨rfl, (cX_le (x := ⟨m, _⟩) ⟨hsm4, [], rfl⟩ hc)⟩
  · have hr := cond_f hb hr
    refine Tr.seq ?_
    refine Tr.region_f (fun _ => false) ?_
    refine W.q rfl rfl rfl rfl (by decide) (Yd.mv rfl (.t rfl)) ?_
    refine W.q rfl rfl rfl rfl (by decide) (Yd.mv rfl (.t rfl)) ?_
    refine W.q rfl rfl rfl rfl (by decide) (Yd.min2 rfl (.t rfl) (.t rfl)) ?_
    refine W.q rfl rfl rfl rfl (by decide) (Yd.lss rfl (.t rfl) .c) ?_
    refine W.q rfl rfl rfl rfl (by decide) (Yd.mv rfl (.t rfl)) ?_
    refine W.g rfl rfl rfl rfl rfl (.t rfl _) rfl (by decide) (fun hG => Yd.mv rfl (.t rfl)) ?_
    refine W.g rfl rfl rfl rfl rfl (.t rfl _) rfl (by decide) (fun hG => Yd.mv rfl (.t rfl)) ?_
    refine W.g rfl rfl rfl rfl rfl (.t rfl _) rfl (by decide) (fun hG => Yd.max2 rfl (.g rfl hG) (.g rfl hG)) ?_
    refine W.g rfl rfl rfl rfl rfl (.t rfl _) rfl (by decide) (fun hG => Yd.mv rfl (.t rfl)) ?_
    refine W.g rfl rfl rfl rfl rfl (.t rfl _) rfl (by decide) (fun hG => Yd.geq rfl (.g rfl hG) (.g rfl hG)) ?_
    refine W.q rfl rfl rfl rfl (by decide) (Yd.or rfl (.t rfl) .c rfl rfl) ?_
    refine W.q rfl rfl rfl rfl (by decide) (Yd.as rfl (.t rfl)) ?_
    refine W.end ?_
    refine NX.sub (env' := [(2, _), (3, _), (4, _), (12, _), (24, _)]) ⟨rfl, rfl, rfl, rfl, rfl, trivial⟩ ?_
    refine NX.then ?_
    refine Tr.cond (.t rfl) (fun hb => ?_) (fun hb => ?_)
    · have hr := cond_t hb hr
      refine Tr.seq ?_
      refine Tr.region_f (fun _ => false) ?_
      refine W.q rfl rfl rfl rfl (by decide) (Yd.as rfl .c) ?_
      refine W.q rfl rfl rfl rfl (by decide) (Yd.as rfl .c) ?_
      refine W.end ?_
      refine NX.sub (env' := [(10, _), (11, _)]) ⟨rfl, rfl, trivial⟩ ?_
      refine NX.then ?_
      refine Tr.ret' (RT.block (RT.then ?_))
      refine res2 rfl rfl rfl ?_
      intro w hc
      cases hr
      exact ⟨rfl, (cX_le (x := ⟨m, _⟩) ⟨hsm4, [], rfl⟩ hc)⟩
    · have hr := cond_f hb hr
      refine Tr.seq ?_
      obtain ⟨r6, hr7, hr⟩ := bind_some hr
      obtain ⟨y11, hy12, hr⟩ := bind_some hr
      obtain ⟨y16, hy17, hr⟩ := bind_some hr
      refine Tr.region_f (fun i => Nat.beq i 2) ?_
      refine W.q rfl rfl rfl rfl (by decide) (Yd.mv rfl (.t rfl)) ?_
      refine W.q rfl rfl rfl rfl (by decide) (Yd.mv rfl (.t rfl)) ?_
      refine W.e rfl rfl rfl rfl (by decide) (Ef.callC (caps := []) (R := fun z x' => ∃ u8 : Value, ∃ m9 : Snap, z = u8 ∧ x' = ⟨m9, l⟩ ∧ Sle m4 m9 ∧ RS (Rp.slice rI) m9 u8 r6) rfl (.t rfl) Try.func54 rfl rfl (.cons (.t rfl) .nil) (fun w hw => (lattice_Meet_c1_ok w0 _ _ _ _ hu5 _ hr7 w hw).mono fun e w' ⟨u8, m9, he, hm', hu10, hc'⟩ => ⟨_, _, he, ⟨u8, m9, rfl, rfl, hm', hu10⟩, hc'⟩)) ?_
      rintro u8 _ ⟨_, m9, rfl, rfl, hsm9, hu10⟩
      have hpairs_1 := hpairs_1.mono hsm9
      have hu5 := hu5.mono hsm9
      refine ⟨.inl rfl, ?_⟩
      refine W.cast (m' := m9) (l' := l) rfl rfl ?_
      refine W.q rfl rfl rfl rfl (by decide) (Yd.mv rfl (.t rfl)) ?_
      refine W.q rfl rfl rfl rfl (by decide) (Yd.idxR hu10 hy12 rfl Try.underlying44 SZ36 (.t rfl) (.t rfl)) ?_
      obtain ⟨u13, hu14, hat15⟩ := hu10.row hy12
      refine W.q rfl rfl rfl rfl (by decide) (Yd.ldRow hat15 (.refl _) rfl ON36 (.t rfl)) ?_
      refine W.q rfl rfl rfl rfl (by decide) (Yd.mv rfl (.t rfl)) ?_
      refine W.q rfl rfl rfl rfl (by decide) (Yd.idxR hu14 hy17 rfl Try.underlying36 SZ3 (.t rfl) (.t rfl)) ?_
      refine W.q rfl rfl rfl rfl (by decide) (Yd.ldF hu14 (.refl _) hy17 rfl rfl ON3 (.t rfl)) ?_
      refine W.q rfl rfl rfl rfl (by decide) (Yd.lss rfl (.t rfl) .c) ?_
      refine W.q rfl rfl rfl rfl (by decide) (Yd.as rfl (.t rfl)) ?_
      refine W.end ?_
      refine NX.sub (env' := [(2, _), (3, _), (4, _), (12, _), (36, _)]) ⟨rfl, rfl, rfl, rfl, rfl, trivial⟩ ?_
      refine NX.then ?_
      refine Tr.cond (.t rfl) (fun hb => ?_) (fun hb => ?_)
      · have hr := cond_t hb hr
        refine Tr.seq ?_
        refine Tr.region_f (fun _ => false) ?_
        refine W.q rfl rfl rfl rfl (by decide) (Yd.as rfl .c) ?_
        refine W.q rfl rfl rfl rfl (by decide) (Yd.as rfl .c) ?_
        refine W.end ?_
        refine NX.sub (env' := [(10, _), (11, _)]) ⟨rfl, rfl, trivial⟩ ?_
        refine NX.then ?_
        refine Tr.ret' (RT.block (RT.then ?_))
        refine res2 rfl rfl rfl ?_
        intro w hc
        cases hr
        exact ⟨rfl, (cX_le (x := ⟨m, _⟩) ⟨(hsm4.trans hsm9), [], rfl⟩ hc)⟩
      · have hr := cond_f hb hr
        refine Tr.skip' ?_
        refine NX.block ?_
        refine NX.then ?_
        refine Tr.seq ?_
        obtain ⟨r18, hr19, hr⟩ := bind_some hr
        obtain ⟨y23, hy24, hr⟩ := bind_some hr
        obtain ⟨y28, hy29, hr⟩ := bind_some hr
        refine Tr.region_f (fun i => Nat.beq i 2) ?_
        refine W.q rfl rfl rfl rfl (by decide) (Yd.mv rfl (.t rfl)) ?_
        refine W.q rfl rfl rfl rfl (by decide) (Yd.mv rfl (.t rfl)) ?_
        refine W.e rfl rfl rfl rfl (by decide) (Ef.callC (caps := []) (R := fun z x' => ∃ u20 : Value, ∃ m21 : Snap, z = u20 ∧ x' = ⟨m21, l⟩ ∧ Sle m9 m21 ∧ RS (Rp.slice rI) m21 u20 r18) rfl (.t rfl) Try.func54 rfl rfl (.cons (.t rfl) .nil) (fun w hw => (lattice_Meet_c1_ok w0 _ _ _ _ hu5 _ hr19 w hw).mono fun e w' ⟨u20, m21, he, hm', hu22, hc'⟩ => ⟨_, _, he, ⟨u20, m21, rfl, rfl, hm', hu22⟩, hc'⟩)) ?_
        rintro u20 _ ⟨_, m21, rfl, rfl, hsm21, hu22⟩
        have hpairs_1 := hpairs_1.mono hsm21
        have hu5 := hu5.mono hsm21
        have hu10 := hu10.mono hsm21
        have hu14 := hu14.mono hsm21
        refine ⟨.inl rfl, ?_⟩
        refine W.cast (m' := m21) (l' := l) rfl rfl ?_
        refine W.q rfl rfl rfl rfl (by decide) (Yd.mv rfl (.t rfl)) ?_
        refine W.q rfl rfl rfl rfl (by decide) (Yd.idxR hu22 hy24 rfl Try.underlying44 SZ36 (.t rfl) (.t rfl)) ?_
        obtain ⟨u25, hu26, hat27⟩ := hu22.row hy24
        refine W.q rfl rfl rfl rfl (by decide) (Yd.ldRow hat27 (.refl _) rfl ON36 (.t rfl)) ?_
        refine W.q rfl rfl rfl rfl (by decide) (Yd.mv rfl (.t rfl)) ?_
        refine W.q rfl rfl rfl rfl (by decide) (Yd.idxR hu26 hy29 rfl Try.underlying36 SZ3 (.t rfl) (.t rfl)) ?_
        refine W.q rfl rfl rfl rfl (by decide) (Yd.ldF hu26 (.refl _) hy29 rfl rfl ON3 (.t rfl)) ?_
        refine W.q rfl rfl rfl rfl (by decide) (Yd.as rfl (.t rfl)) ?_
        refine W.q rfl rfl rfl rfl (by decide) (Yd.as rfl .c) ?_
        refine W.end ?_
        refine NX.sub (env' := [(10, _), (11, _)]) ⟨rfl, rfl, trivial⟩ ?_
        refine NX.then ?_
        refine Tr.ret' ?_
        refine res2 rfl rfl rfl ?_
        intro w hc
        cases hr
        exact ⟨rfl, (cX_le (x := ⟨m, _⟩) ⟨((hsm4.trans hsm9).trans hsm21), [], rfl⟩ hc)⟩
end Go.Proofs.Ytjpbdannibmplaa.Sy
