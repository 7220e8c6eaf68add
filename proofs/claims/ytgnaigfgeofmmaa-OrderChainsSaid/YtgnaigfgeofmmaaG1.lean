/- Functions of the program as plain functions, and that the translation computes them; the conditions stand in each theorem. Printed by an own program. -/
import Derived.Test.YtgnaigfgeofmmaaSyZ
import Derived.Test.YtgnaigfgeofmmaaSyRf
import Derived.Test.YtgnaigfgeofmmaaT
import Derived.Test.YtgnaigfgeofmmaaProg
namespace Go.Proofs.Ytgnaigfgeofmmaa.Sy
open Go
set_option linter.unusedVariables false
theorem IF37 : (Try.prog.info? 37).map (fun i => (i.zero, i.size, i.bytes)) = some (some (.int .u32 0), 1, 4) := by kernel_rfl
theorem SZ37 : (Try.prog.info? 37).map (·.size) = some 1 := by kernel_rfl
theorem SZ38 : (Try.prog.info? 38).map (·.size) = some 2 := by kernel_rfl
theorem ON38 : one Try.prog 38 = false := by kernel_rfl
theorem US38 : (Try.prog.underlying 38).isSome = true := by kernel_rfl
theorem ZR38 : (Try.prog.info? 38).bind (·.zero) = some (.agg #[.int .i64 0, .int .i64 0]) := by kernel_rfl
theorem SZ3 : (Try.prog.info? 3).map (·.size) = some 1 := by kernel_rfl
theorem ON3 : one Try.prog 3 = true := by kernel_rfl
theorem ON37 : one Try.prog 37 = true := by kernel_rfl
theorem IF3 : (Try.prog.info? 3).map (fun i => (i.zero, i.size, i.bytes)) = some (some (.int .i64 0), 1, 8) := by kernel_rfl
theorem ON23 : one Try.prog 23 = true := by kernel_rfl
theorem ZR31 : (Try.prog.info? 31).bind (·.zero) = some (.slice none 0 0) := by kernel_rfl
theorem SZ31 : (Try.prog.info? 31).map (·.size) = some 1 := by kernel_rfl
theorem ZR23 : (Try.prog.info? 23).bind (·.zero) = some (.slice none 0 0) := by kernel_rfl
theorem SZ23 : (Try.prog.info? 23).map (·.size) = some 1 := by kernel_rfl
theorem ZR3 : (Try.prog.info? 3).bind (·.zero) = some (.int .i64 0) := by kernel_rfl
theorem ON31 : one Try.prog 31 = true := by kernel_rfl
theorem FM : Try.prog.follows .mixedOrders = true := by kernel_rfl

def order_Table_k36 (l30 : List (BitVec 32)) : Option ((List (BitVec 32)) × Int) :=
  some ((l30, (0 : Int)))

def order_Table_k45 (nx41 : (Unit → Option ((List (BitVec 32)) × Int))) : Option ((List (BitVec 32)) × Int) :=
  nx41 ()

def order_Table_b49 (l30 : List (BitVec 32)) (t_39 : Int) (t_48 : Int) (nx50 : Unit → Option ((List (BitVec 32)) × Int)) : Option ((List (BitVec 32)) × Int) :=
  (geti l30 t_39).bind fun y52 =>
  bif (!((((y52 >>> t_48.toNat) &&& 1#32) == 1#32) == true) || (geti l30 t_48).isSome) then
  (bif ((((y52 >>> t_48.toNat) &&& 1#32) == 1#32) && (((((geti l30 t_48).getD (0#32)) >>> t_39.toNat) &&& 1#32) == 1#32)) then
  some (([], (3 : Int)))
  else
  nx50 ()) else none

def order_Table_b40 (l30 : List (BitVec 32)) (t_39 : Int) (nx41 : Unit → Option ((List (BitVec 32)) × Int)) : Option ((List (BitVec 32)) × Int) :=
  bif decide (t_39 ≤ 9223372036854775807) then
  forK (σ := Unit) (fun i s nx_ => order_Table_b49 l30 t_39 i nx_) (fun _ => order_Table_k45 nx41) (t_39 - (0 : Int)).toNat (0 : Int) () else none

def order_Table_k32 (l30 : List (BitVec 32)) : Option ((List (BitVec 32)) × Int) :=
  forK (σ := Unit) (fun i s nx_ => order_Table_b40 l30 i nx_) (fun _ => order_Table_k36 l30) ((l30.length : Int) - (0 : Int)).toNat (0 : Int) ()

def order_Table_k68 (nx58 : ((List (BitVec 32)) → Option ((List (BitVec 32)) × Int))) (l66 : List (BitVec 32)) : Option ((List (BitVec 32)) × Int) :=
  nx58 l66

def order_Table_b72 (t_56 : Int) (t_71 : Int) (l64 : List (BitVec 32)) (nx73 : (List (BitVec 32)) → Option ((List (BitVec 32)) × Int)) : Option ((List (BitVec 32)) × Int) :=
  (geti l64 t_71).bind fun y75 =>
  (bif (((y75 >>> t_56.toNat) &&& 1#32) == 1#32) then
  (geti l64 t_71).bind fun y77 =>
  (geti l64 t_56).bind fun y79 =>
  nx73 (l64.set t_71.toNat ((y77 ||| y79)))
  else
  nx73 l64)

def order_Table_b57 (t_56 : Int) (l28 : List (BitVec 32)) (nx58 : (List (BitVec 32)) → Option ((List (BitVec 32)) × Int)) : Option ((List (BitVec 32)) × Int) :=
  forK (σ := (List (BitVec 32))) (fun i s nx_ => order_Table_b72 t_56 i s nx_) (fun s => order_Table_k68 nx58 s) ((l28.length : Int) - (0 : Int)).toNat (0 : Int) l28

def order_Table_k22 (l20 : List (BitVec 32)) : Option ((List (BitVec 32)) × Int) :=
  forK (σ := (List (BitVec 32))) (fun i s nx_ => order_Table_b57 i s nx_) (fun s => order_Table_k32 s) ((l20.length : Int) - (0 : Int)).toNat (0 : Int) l20

def order_Table_b83 (n_0 : Int) (pairs_1 : List (Int × Int)) (t_82 : Int) (l18 : List (BitVec 32)) (nx84 : (List (BitVec 32)) → Option ((List (BitVec 32)) × Int)) : Option ((List (BitVec 32)) × Int) :=
  (geti pairs_1 t_82).bind fun y86 =>
  (bif ((decide ((if y86.2 < y86.1 then y86.2 else y86.1) < (0 : Int))) || (decide ((if y86.2 > y86.1 then y86.2 else y86.1) ≥ n_0))) then
  some (([], (2 : Int)))
  else
  (geti l18 y86.1).bind fun y90 =>
  bif decide (0 ≤ y86.2) then
  nx84 (l18.set y86.1.toNat ((y90 ||| (1#32 <<< y86.2.toNat)))) else none)

def order_Table_k12 (n_0 : Int) (pairs_1 : List (Int × Int)) (l10 : List (BitVec 32)) : Option ((List (BitVec 32)) × Int) :=
  forK (σ := (List (BitVec 32))) (fun i s nx_ => order_Table_b83 n_0 pairs_1 i s nx_) (fun s => order_Table_k22 s) ((pairs_1.length : Int) - (0 : Int)).toNat (0 : Int) l10

def order_Table_b95 (t_94 : Int) (l8 : List (BitVec 32)) (nx96 : (List (BitVec 32)) → Option ((List (BitVec 32)) × Int)) : Option ((List (BitVec 32)) × Int) :=
  (geti l8 t_94).bind fun y98 =>
  nx96 (l8.set t_94.toNat ((1#32 <<< t_94.toNat)))

def order_Table (n_0 : Int) (pairs_1 : List (Int × Int)) : Option ((List (BitVec 32)) × Int) :=
  (bif (((decide (n_0 < (1 : Int))) || (decide (n_0 > (6 : Int)))) || (decide ((pairs_1.length : Int) > (20 : Int)))) then
  some (([], (1 : Int)))
  else
  bif decide (0 ≤ n_0 ∧ n_0 ≤ 1048576) then
  forK (σ := (List (BitVec 32))) (fun i s nx_ => order_Table_b95 i s nx_) (fun s => order_Table_k12 n_0 pairs_1 s) ((((List.replicate n_0.toNat (0#32))).length : Int) - (0 : Int)).toNat (0 : Int) ((List.replicate n_0.toNat (0#32))) else none)

set_option maxRecDepth 100000 in
set_option maxHeartbeats 4000000 in
theorem order_Table_ok (w0 : World) (m : Snap) (l : List HI) (n_0 : Int) (upairs_1 : Value) (pairs_1 : List (Int × Int)) (hpairs_1 : RS rP m upairs_1 pairs_1) (r : (List (BitVec 32)) × Int) (hr : order_Table n_0 pairs_1 = some r) (w : World) (hc : cX w0 ⟨m, l⟩ w) :
    Calls Try.prog 9 [.int .i64 n_0, upairs_1].toArray w fun e w' => ∃ z0 : Value, e = .returned (.tuple #[z0, .int .i64 r.2]) ∧ cX w0 ⟨m, hownT 37 1 encU z0 r.1 :: l⟩ w' := by
  unfold order_Table at hr
  refine calls_of_Tr (N := 130) Try.func9 rfl hc rfl (Nat.le_of_ble_eq_true rfl) ?_
  refine Tr.seq ?_
  refine Tr.region_f (fun _ => false) ?_
  refine W.q rfl rfl rfl rfl (by decide) (Yd.as rfl .c) ?_
  refine W.q rfl rfl rfl rfl (by decide) (Yd.as rfl .c) ?_
  refine W.end ?_
  refine NX.sub (env' := [(0, _), (1, _)]) ⟨rfl, rfl, trivial⟩ ?_
  refine NX.then ?_
  refine Tr.seq ?_
  refine Tr.seq ?_
  refine Tr.region_f (fun _ => false) ?_
  refine W.q rfl rfl rfl rfl (by decide) (Yd.mv rfl (.t rfl)) ?_
  refine W.q rfl rfl rfl rfl (by decide) (Yd.lss rfl (.t rfl) .c) ?_
  refine W.q rfl rfl rfl rfl (by decide) (Yd.mv rfl (.t rfl)) ?_
  refine W.g rfl rfl rfl rfl rfl (.t rfl _) rfl (by decide) (fun hG => Yd.mv rfl (.t rfl)) ?_
  refine W.g rfl rfl rfl rfl rfl (.t rfl _) rfl (by decide) (fun hG => Yd.gtr rfl (.g rfl hG) .c) ?_
  refine W.q rfl rfl rfl rfl (by decide) (Yd.or rfl (.t rfl) .c rfl rfl) ?_
  refine W.q rfl rfl rfl rfl (by decide) (Yd.mv rfl (.t rfl)) ?_
  refine W.g rfl rfl rfl rfl rfl (.t rfl _) rfl (by decide) (fun hG => Yd.mv rfl (.t rfl)) ?_
  refine W.g rfl rfl rfl rfl rfl (.t rfl _) rfl (by decide) (fun hG => Yd.lenR hpairs_1 rfl Try.underlying22 (.g rfl hG)) ?_
  refine W.g rfl rfl rfl rfl rfl (.t rfl _) rfl (by decide) (fun hG => Yd.gtr rfl (.g rfl hG) .c) ?_
  refine W.q rfl rfl rfl rfl (by decide) (Yd.or rfl (.t rfl) .c rfl rfl) ?_
  refine W.end ?_
  refine NX.sub (env' := [(0, _), (1, _), (24, _)]) ⟨rfl, rfl, rfl, trivial⟩ ?_
  refine NX.then ?_
  refine Tr.cond (.t rfl) (fun hb => ?_) (fun hb => ?_)
  · have hr := cond_t hb hr
    refine Tr.seq ?_
    refine Tr.region_f (fun _ => false) ?_
    refine W.q rfl rfl rfl rfl (by decide) (Yd.as rfl .c) ?_
    refine W.q rfl rfl rfl rfl (by decide) (Yd.as rfl .c) ?_
    refine W.end ?_
    refine NX.sub (env' := [(4, _), (5, _)]) ⟨rfl, rfl, trivial⟩ ?_
    refine NX.then ?_
    refine Tr.ret' (RT.then ?_)
    refine res2 rfl rfl rfl ?_
    intro w hc
    cases hr
    exact ⟨_, rfl, (cX_nil hc)⟩
  · have hr := cond_f hb hr
    refine Tr.skip' ?_
    refine NX.then ?_
    refine Tr.seq ?_
    obtain ⟨hq1, hr⟩ := guard_some hr; replace hq1 := of_decide_eq_true hq1
    refine Tr.region_f (fun i => Nat.beq i 1) ?_
    refine W.q rfl rfl rfl rfl (by decide) (Yd.mv rfl (.t rfl)) ?_
    refine W.e rfl rfl rfl rfl (by decide) (Ef.mkT (enc := encU) (0#32) IF37 rfl Try.underlying31 rfl rfl (by decide) (.t rfl) (.t rfl) (by omega) (by omega) (by omega)) ?_
    rintro v2 _ rfl
    refine ⟨.inl rfl, ?_⟩
    refine W.cast (m' := m) (l' := hownT 37 1 encU v2 _ :: l) rfl rfl ?_
    refine W.q rfl rfl rfl rfl (by decide) (Yd.as rfl (.t rfl)) ?_
    refine W.end ?_
    refine NX.sub (env' := [(0, _), (1, _), (6, _)]) ⟨rfl, rfl, rfl, trivial⟩ ?_
    refine NX.then ?_
    refine Tr.seq ?_
    refine Tr.seq ?_
    refine Tr.region_f (fun _ => false) ?_
    refine W.q rfl rfl rfl rfl (by decide) (Yd.mv rfl (.t rfl)) ?_
    refine W.q rfl rfl rfl rfl (by decide) (Yd.lenO (p := 0) rfl rfl Try.underlying31 (.t rfl)) ?_
    refine W.q rfl rfl rfl rfl (by decide) (Yd.mv rfl .c) ?_
    refine W.end ?_
    refine NX.sub (env' := [(0, _), (1, _), (6, _), (28, _), (29, _)]) ⟨rfl, rfl, rfl, rfl, rfl, trivial⟩ ?_
    refine NX.then ?_
    refine Tr.join (S := fun env x => ∃ l10 : List (BitVec 32), ∃ v11 : Value, env = [(0, .int .i64 n_0), (1, upairs_1), (6, v11)] ∧ x = ⟨m, hownT 37 1 encU v11 l10 :: l⟩ ∧ order_Table_k12 n_0 pairs_1 l10 = some r) ?_ (fun hk13 => ?_)
    · rintro _ _ ⟨l10, v11, rfl, rfl, hr⟩
      unfold order_Table_k12 at hr
      try dsimp only at hr
      refine NX.then ?_
      refine Tr.seq ?_
      refine Tr.seq ?_
      refine Tr.region_f (fun _ => false) ?_
      refine W.q rfl rfl rfl rfl (by decide) (Yd.mv rfl (.t rfl)) ?_
      refine W.q rfl rfl rfl rfl (by decide) (Yd.lenR hpairs_1 rfl Try.underlying22 (.t rfl)) ?_
      refine W.q rfl rfl rfl rfl (by decide) (Yd.mv rfl .c) ?_
      refine W.end ?_
      refine NX.sub (env' := [(0, _), (6, _), (38, _), (39, _), (40, _)]) ⟨rfl, rfl, rfl, rfl, rfl, trivial⟩ ?_
      refine NX.then ?_
      refine Tr.join (S := fun env x => ∃ l20 : List (BitVec 32), ∃ v21 : Value, env = [(6, v21)] ∧ x = ⟨m, hownT 37 1 encU v21 l20 :: l⟩ ∧ order_Table_k22 l20 = some r) ?_ (fun hk23 => ?_)
      · rintro _ _ ⟨l20, v21, rfl, rfl, hr⟩
        unfold order_Table_k22 at hr
        try dsimp only at hr
        refine NX.then ?_
        refine Tr.seq ?_
        refine Tr.seq ?_
        refine Tr.region_f (fun _ => false) ?_
        refine W.q rfl rfl rfl rfl (by decide) (Yd.mv rfl (.t rfl)) ?_
        refine W.q rfl rfl rfl rfl (by decide) (Yd.lenO (p := 0) rfl rfl Try.underlying31 (.t rfl)) ?_
        refine W.q rfl rfl rfl rfl (by decide) (Yd.mv rfl .c) ?_
        refine W.end ?_
        refine NX.sub (env' := [(6, _), (71, _), (72, _)]) ⟨rfl, rfl, rfl, trivial⟩ ?_
        refine NX.then ?_
        refine Tr.join (S := fun env x => ∃ l30 : List (BitVec 32), ∃ v31 : Value, env = [(6, v31)] ∧ x = ⟨m, hownT 37 1 encU v31 l30 :: l⟩ ∧ order_Table_k32 l30 = some r) ?_ (fun hk33 => ?_)
        · rintro _ _ ⟨l30, v31, rfl, rfl, hr⟩
          unfold order_Table_k32 at hr
          try dsimp only at hr
          refine NX.then ?_
          refine Tr.seq ?_
          refine Tr.seq ?_
          refine Tr.region_f (fun _ => false) ?_
          refine W.q rfl rfl rfl rfl (by decide) (Yd.mv rfl (.t rfl)) ?_
          refine W.q rfl rfl rfl rfl (by decide) (Yd.lenO (p := 0) rfl rfl Try.underlying31 (.t rfl)) ?_
          refine W.q rfl rfl rfl rfl (by decide) (Yd.mv rfl .c) ?_
          refine W.end ?_
          refine NX.sub (env' := [(6, _), (101, _), (102, _)]) ⟨rfl, rfl, rfl, trivial⟩ ?_
          refine NX.then ?_
          refine Tr.join (S := fun env x => env = [(6, v31)] ∧ x = ⟨m, hownT 37 1 encU v31 l30 :: l⟩ ∧ order_Table_k36 l30 = some r) ?_ (fun hk37 => ?_)
          · rintro _ _ ⟨rfl, rfl, hr⟩
            unfold order_Table_k36 at hr
            try dsimp only at hr
            refine NX.then ?_
            refine Tr.seq ?_
            refine Tr.region_f (fun _ => false) ?_
            refine W.q rfl rfl rfl rfl (by decide) (Yd.mv rfl (.t rfl)) ?_
            refine W.q rfl rfl rfl rfl (by decide) (Yd.as rfl (.t rfl)) ?_
            refine W.q rfl rfl rfl rfl (by decide) (Yd.as rfl .c) ?_
            refine W.end ?_
            refine NX.sub (env' := [(4, _), (5, _)]) ⟨rfl, rfl, trivial⟩ ?_
            refine NX.then ?_
            refine Tr.ret' ?_
            refine res2 rfl rfl rfl ?_
            intro w hc
            cases hr
            exact ⟨_, rfl, hc⟩
          refine Tr.lenO (pos := 0) rfl (fun hlen38 => ?_)
          refine Tr.block ?_
          refine Tr.sub (env' := [(6, _), (101, _), (102, _)]) ⟨rfl, rfl, rfl, trivial⟩ ?_
          refine Tr.loop (S := fun n (z : Int × Unit) env x => match z with | (t_39, _) => env = [(6, v31), (101, .int .i64 ((l30.length : Int))), (102, .int .i64 t_39)] ∧ x = ⟨m, hownT 37 1 encU v31 l30 :: l⟩ ∧ n = ((l30.length : Int) - t_39).toNat ∧ 0 ≤ t_39 ∧ forK (σ := Unit) (fun i s nx_ => order_Table_b40 l30 i nx_) (fun _ => order_Table_k36 l30) n t_39 () = some r) _ ((0 : Int), ()) ⟨rfl, rfl, rfl, (by omega), hr⟩ ?_
          rintro n42 ⟨t_39, _⟩ env x ⟨rfl, rfl, hnt_39, h0t_39, hr⟩
          cases n42 with
          | zero =>
            simp only [forK] at hr
            refine Tr.seq ?_
            refine Tr.region_f (fun _ => false) ?_
            refine W.q rfl rfl rfl rfl (by decide) (Yd.lss rfl (.t rfl) (.t rfl)) ?_
            refine W.end ?_
            refine NX.sub (env' := [(6, _), (101, _), (102, _), (103, _)]) ⟨rfl, rfl, rfl, rfl, trivial⟩ ?_
            refine NX.then ?_
            refine Tr.seq ?_
            refine Tr.cond (.t rfl) (fun hb => ?_) (fun hb => ?_)
            · exact absurd (hb.symm.trans (fr_end hnt_39)) (by decide)
            ·
              refine Tr.exit' (EX.then (EX.then (EX.block ?_)))
              refine NX.sub (env' := [(6, _)]) ⟨rfl, trivial⟩ ?_
              exact hk37 _ _ ⟨rfl, rfl, hr⟩
          | succ n42 =>
            obtain ⟨nx41, hnx41, hr⟩ := forK_succ hr
            try dsimp only at hr
            unfold order_Table_b40 at hr
            try dsimp only at hr
            have hltt_39 := fr_bnd hnt_39
            refine Tr.seq ?_
            refine Tr.region_f (fun _ => false) ?_
            refine W.q rfl rfl rfl rfl (by decide) (Yd.lss rfl (.t rfl) (.t rfl)) ?_
            refine W.end ?_
            refine NX.sub (env' := [(6, _), (101, _), (102, _), (103, _)]) ⟨rfl, rfl, rfl, rfl, trivial⟩ ?_
            refine NX.then ?_
            refine Tr.seq ?_
            refine Tr.cond (.t rfl) (fun hb => ?_) (fun hb => ?_)
            rotate_left
            · exact absurd (hb.symm.trans (fr_go hnt_39)) (by decide)
            ·
              refine Tr.skip' ?_
              refine NX.then ?_
              refine Tr.seq ?_
              refine Tr.block ?_
              refine Tr.seq ?_
              refine Tr.region_f (fun _ => false) ?_
              refine W.q rfl rfl rfl rfl (by decide) (Yd.mv rfl (.t rfl)) ?_
              refine W.q rfl rfl rfl rfl (by decide) (Yd.as rfl (.t rfl)) ?_
              refine W.end ?_
              refine NX.sub (env' := [(6, _), (101, _), (102, _), (12, _)]) ⟨rfl, rfl, rfl, rfl, trivial⟩ ?_
              refine NX.then ?_
              refine Tr.seq ?_
              refine Tr.region_f (fun _ => false) ?_
              refine W.q rfl rfl rfl rfl (by decide) (Yd.mv rfl (.t rfl)) ?_
              refine W.q rfl rfl rfl rfl (by decide) (Yd.mv rfl .c) ?_
              refine W.end ?_
              refine NX.sub (env' := [(6, _), (101, _), (102, _), (12, _), (105, _), (106, _)]) ⟨rfl, rfl, rfl, rfl, rfl, rfl, trivial⟩ ?_
              refine NX.then ?_
              refine Tr.join (S := fun env x => env = [(6, v31), (101, .int .i64 ((l30.length : Int))), (102, .int .i64 t_39)] ∧ x = ⟨m, hownT 37 1 encU v31 l30 :: l⟩ ∧ order_Table_k45 nx41 = some r) ?_ (fun hk46 => ?_)
              · rintro _ _ ⟨rfl, rfl, hr⟩
                unfold order_Table_k45 at hr
                try dsimp only at hr
                refine NX.block ?_
                refine NX.then ?_
                refine Tr.region_f (fun _ => false) ?_
                refine W.q rfl rfl rfl rfl (by decide) (Yd.add rfl (.t rfl) .c) ?_
                refine W.q rfl rfl rfl rfl (by decide) (Yd.mv rfl (.t rfl)) ?_
                refine W.end ?_
                refine NX.sub (env' := [(6, _), (101, _), (102, _)]) ⟨rfl, rfl, rfl, trivial⟩ ?_
                refine NX.sub (env' := [(6, _), (101, _), (102, _)]) ⟨rfl, rfl, rfl, trivial⟩ ?_
                have hw := w64_id (n := t_39 + 1) (by omega) (by omega)
                exact NX.again n42 (t_39 + 1, ()) (Nat.lt_succ_self _) ⟨(by rw [hw] <;> rfl), rfl, (fr_dec hnt_39), (by omega), ((hnx41 _).symm.trans hr)⟩
              obtain ⟨hle47, hr⟩ := guard_some hr; replace hle47 := of_decide_eq_true hle47
              refine Tr.block ?_
              refine Tr.sub (env' := [(6, _), (12, _), (101, _), (102, _), (105, _), (106, _)]) ⟨rfl, rfl, rfl, rfl, rfl, rfl, trivial⟩ ?_
              refine Tr.loop (S := fun n (z : Int × Unit) env x => match z with | (t_48, _) => env = [(6, v31), (12, .int .i64 t_39), (101, .int .i64 ((l30.length : Int))), (102, .int .i64 t_39), (105, .int .i64 t_39), (106, .int .i64 t_48)] ∧ x = ⟨m, hownT 37 1 encU v31 l30 :: l⟩ ∧ n = (t_39 - t_48).toNat ∧ 0 ≤ t_48 ∧ forK (σ := Unit) (fun i s nx_ => order_Table_b49 l30 t_39 i nx_) (fun _ => order_Table_k45 nx41) n t_48 () = some r) _ ((0 : Int), ()) ⟨rfl, rfl, rfl, (by omega), hr⟩ ?_
              rintro n51 ⟨t_48, _⟩ env x ⟨rfl, rfl, hnt_48, h0t_48, hr⟩
              cases n51 with
              | zero =>
                simp only [forK] at hr
                refine Tr.seq ?_
                refine Tr.region_f (fun _ => false) ?_
                refine W.q rfl rfl rfl rfl (by decide) (Yd.lss rfl (.t rfl) (.t rfl)) ?_
                refine W.end ?_
                refine NX.sub (env' := [(6, _), (12, _), (101, _), (102, _), (105, _), (106, _), (107, _)]) ⟨rfl, rfl, rfl, rfl, rfl, rfl, rfl, trivial⟩ ?_
                refine NX.then ?_
                refine Tr.seq ?_
                refine Tr.cond (.t rfl) (fun hb => ?_) (fun hb => ?_)
                · exact absurd (hb.symm.trans (fr_end hnt_48)) (by decide)
                ·
                  refine Tr.exit' (EX.then (EX.then (EX.block ?_)))
                  refine NX.sub (env' := [(6, _), (101, _), (102, _)]) ⟨rfl, rfl, rfl, trivial⟩ ?_
                  exact hk46 _ _ ⟨rfl, rfl, hr⟩
              | succ n51 =>
                obtain ⟨nx50, hnx50, hr⟩ := forK_succ hr
                try dsimp only at hr
                unfold order_Table_b49 at hr
                try dsimp only at hr
                have hltt_48 := fr_bnd hnt_48
                refine Tr.seq ?_
                refine Tr.region_f (fun _ => false) ?_
                refine W.q rfl rfl rfl rfl (by decide) (Yd.lss rfl (.t rfl) (.t rfl)) ?_
                refine W.end ?_
                refine NX.sub (env' := [(6, _), (12, _), (101, _), (102, _), (105, _), (106, _), (107, _)]) ⟨rfl, rfl, rfl, rfl, rfl, rfl, rfl, trivial⟩ ?_
                refine NX.then ?_
                refine Tr.seq ?_
                refine Tr.cond (.t rfl) (fun hb => ?_) (fun hb => ?_)
                rotate_left
                · exact absurd (hb.symm.trans (fr_go hnt_48)) (by decide)
                ·
                  refine Tr.skip' ?_
                  refine NX.then ?_
                  refine Tr.seq ?_
                  refine Tr.block ?_
                  refine Tr.seq ?_
                  refine Tr.region_f (fun _ => false) ?_
                  refine W.q rfl rfl rfl rfl (by decide) (Yd.mv rfl (.t rfl)) ?_
                  refine W.q rfl rfl rfl rfl (by decide) (Yd.as rfl (.t rfl)) ?_
                  refine W.end ?_
                  refine NX.sub (env' := [(6, _), (12, _), (101, _), (102, _), (105, _), (106, _), (13, _)]) ⟨rfl, rfl, rfl, rfl, rfl, rfl, rfl, trivial⟩ ?_
                  refine NX.then ?_
                  refine Tr.seq ?_
                  obtain ⟨y52, hy53, hr⟩ := bind_some hr
                  obtain ⟨ha54, hr⟩ := guard_some hr
                  refine Tr.region_f (fun _ => false) ?_
                  refine W.q rfl rfl rfl rfl (by decide) (Yd.mv rfl (.t rfl)) ?_
                  refine W.q rfl rfl rfl rfl (by decide) (Yd.mv rfl (.t rfl)) ?_
                  refine W.q rfl rfl rfl rfl (by decide) (Yd.idxT (pos := 0) rfl hy53 rfl Try.underlying31 SZ37 (.t rfl) (.t rfl)) ?_
                  refine W.q rfl rfl rfl rfl (by decide) (Yd.ldT (enc := encU) (n := 1) (pos := 0) (fun _ => rfl) rfl hy53 rfl rfl ON37 (.t rfl)) ?_
                  refine W.q rfl rfl rfl rfl (by decide) (Yd.mv rfl (.t rfl)) ?_
                  refine W.q rfl rfl rfl rfl (by decide) (Yd.shrU (a := y52) rfl (.t rfl) (.t rfl) h0t_48) ?_
                  refine W.q rfl rfl rfl rfl (by decide) (Yd.andU (a := (y52 >>> t_48.toNat)) (b := 1#32) rfl (.t rfl) .c) ?_
                  refine W.q rfl rfl rfl rfl (by decide) (Yd.eqlU (a := ((y52 >>> t_48.toNat) &&& 1#32)) (b := 1#32) rfl (.t rfl) .c) ?_
                  refine W.q rfl rfl rfl rfl (by decide) (Yd.mv rfl (.t rfl)) ?_
                  refine W.g rfl rfl rfl rfl rfl (.t rfl _) rfl (by decide) (fun hG => Yd.mv rfl (.t rfl)) ?_
                  refine W.g rfl rfl rfl rfl rfl (.t rfl _) rfl (by decide) (fun hG => Yd.mv rfl (.t rfl)) ?_
                  refine W.g rfl rfl rfl rfl rfl (.t rfl _) rfl (by decide) (fun hG => Yd.idxT (pos := 0) rfl (gd_get (d := (0#32)) ha54 hG) rfl Try.underlying31 SZ37 (.g rfl hG) (.g rfl hG)) ?_
                  refine W.g rfl rfl rfl rfl rfl (.t rfl _) rfl (by decide) (fun hG => Yd.ldT (enc := encU) (n := 1) (pos := 0) (fun _ => rfl) rfl (gd_get (d := (0#32)) ha54 hG) rfl rfl ON37 (.g rfl hG)) ?_
                  refine W.g rfl rfl rfl rfl rfl (.t rfl _) rfl (by decide) (fun hG => Yd.mv rfl (.t rfl)) ?_
                  refine W.g rfl rfl rfl rfl rfl (.t rfl _) rfl (by decide) (fun hG => Yd.shrU (a := ((geti l30 t_48).getD (0#32))) rfl (.g rfl hG) (.g rfl hG) h0t_39) ?_
                  refine W.g rfl rfl rfl rfl rfl (.t rfl _) rfl (by decide) (fun hG => Yd.andU (a := (((geti l30 t_48).getD (0#32)) >>> t_39.toNat)) (b := 1#32) rfl (.g rfl hG) .c) ?_
                  refine W.g rfl rfl rfl rfl rfl (.t rfl _) rfl (by decide) (fun hG => Yd.eqlU (a := ((((geti l30 t_48).getD (0#32)) >>> t_39.toNat) &&& 1#32)) (b := 1#32) rfl (.g rfl hG) .c) ?_
                  refine W.q rfl rfl rfl rfl (by decide) (Yd.and rfl (.t rfl) .c rfl rfl) ?_
                  refine W.end ?_
                  refine NX.sub (env' := [(6, _), (12, _), (101, _), (102, _), (105, _), (106, _), (126, _)]) ⟨rfl, rfl, rfl, rfl, rfl, rfl, rfl, trivial⟩ ?_
                  refine NX.then ?_
                  refine Tr.cond (.t rfl) (fun hb => ?_) (fun hb => ?_)
                  · have hr := cond_t hb hr
                    refine Tr.seq ?_
                    refine Tr.region_f (fun _ => false) ?_
                    refine W.q rfl rfl rfl rfl (by decide) (Yd.as rfl .c) ?_
                    refine W.q rfl rfl rfl rfl (by decide) (Yd.as rfl .c) ?_
                    refine W.end ?_
                    refine NX.sub (env' := [(4, _), (5, _)]) ⟨rfl, rfl, trivial⟩ ?_
                    refine NX.drop (l' := l) (.cons _ (.refl _)) ?_
                    refine NX.then ?_
                    refine Tr.ret' (RT.block (RT.then (RT.then (RT.block (RT.block (RT.then (RT.then (RT.block (RT.then ?_)))))))))
                    refine res2 rfl rfl rfl ?_
                    intro w hc
                    cases hr
                    exact ⟨_, rfl, (cX_nil hc)⟩
                  · have hr := cond_f hb hr
                    refine Tr.skip' ?_
                    refine NX.block ?_
                    refine NX.then ?_
                    refine Tr.region_f (fun _ => false) ?_
                    refine W.q rfl rfl rfl rfl (by decide) (Yd.add rfl (.t rfl) .c) ?_
                    refine W.q rfl rfl rfl rfl (by decide) (Yd.mv rfl (.t rfl)) ?_
                    refine W.end ?_
                    refine NX.sub (env' := [(6, _), (12, _), (101, _), (102, _), (105, _), (106, _)]) ⟨rfl, rfl, rfl, rfl, rfl, rfl, trivial⟩ ?_
                    refine NX.sub (env' := [(6, _), (12, _), (101, _), (102, _), (105, _), (106, _)]) ⟨rfl, rfl, rfl, rfl, rfl, rfl, trivial⟩ ?_
                    have hw := w64_id (n := t_48 + 1) (by omega) (by omega)
                    exact NX.again n51 (t_48 + 1, ()) (Nat.lt_succ_self _) ⟨(by rw [hw] <;> rfl), rfl, (fr_dec hnt_48), (by omega), ((hnx50 _).symm.trans hr)⟩
        refine Tr.lenO (pos := 0) rfl (fun hlen55 => ?_)
        refine Tr.block ?_
        refine Tr.sub (env' := [(6, _), (71, _), (72, _)]) ⟨rfl, rfl, rfl, trivial⟩ ?_
        refine Tr.loop (S := fun n (z : Int × (List (BitVec 32))) env x => match z with | (t_56, l28) => ∃ v29 : Value, env = [(6, v29), (71, .int .i64 ((l20.length : Int))), (72, .int .i64 t_56)] ∧ x = ⟨m, hownT 37 1 encU v29 l28 :: l⟩ ∧ n = ((l20.length : Int) - t_56).toNat ∧ 0 ≤ t_56 ∧ forK (σ := (List (BitVec 32))) (fun i s nx_ => order_Table_b57 i s nx_) (fun s => order_Table_k32 s) n t_56 l28 = some r) _ ((0 : Int), l20) ⟨_, rfl, rfl, rfl, (by omega), hr⟩ ?_
        rintro n59 ⟨t_56, l28⟩ env x ⟨v29, rfl, rfl, hnt_56, h0t_56, hr⟩
        cases n59 with
        | zero =>
          simp only [forK] at hr
          refine Tr.seq ?_
          refine Tr.region_f (fun _ => false) ?_
          refine W.q rfl rfl rfl rfl (by decide) (Yd.lss rfl (.t rfl) (.t rfl)) ?_
          refine W.end ?_
          refine NX.sub (env' := [(6, _), (71, _), (72, _), (73, _)]) ⟨rfl, rfl, rfl, rfl, trivial⟩ ?_
          refine NX.then ?_
          refine Tr.seq ?_
          refine Tr.cond (.t rfl) (fun hb => ?_) (fun hb => ?_)
          · exact absurd (hb.symm.trans (fr_end hnt_56)) (by decide)
          ·
            refine Tr.exit' (EX.then (EX.then (EX.block ?_)))
            refine NX.sub (env' := [(6, _)]) ⟨rfl, trivial⟩ ?_
            exact hk33 _ _ ⟨_, _, rfl, rfl, hr⟩
        | succ n59 =>
          obtain ⟨nx58, hnx58, hr⟩ := forK_succ hr
          try dsimp only at hr
          unfold order_Table_b57 at hr
          try dsimp only at hr
          have hltt_56 := fr_bnd hnt_56
          refine Tr.seq ?_
          refine Tr.region_f (fun _ => false) ?_
          refine W.q rfl rfl rfl rfl (by decide) (Yd.lss rfl (.t rfl) (.t rfl)) ?_
          refine W.end ?_
          refine NX.sub (env' := [(6, _), (71, _), (72, _), (73, _)]) ⟨rfl, rfl, rfl, rfl, trivial⟩ ?_
          refine NX.then ?_
          refine Tr.seq ?_
          refine Tr.cond (.t rfl) (fun hb => ?_) (fun hb => ?_)
          rotate_left
          · exact absurd (hb.symm.trans (fr_go hnt_56)) (by decide)
          ·
            refine Tr.skip' ?_
            refine NX.then ?_
            refine Tr.seq ?_
            refine Tr.block ?_
            refine Tr.seq ?_
            refine Tr.region_f (fun _ => false) ?_
            refine W.q rfl rfl rfl rfl (by decide) (Yd.mv rfl (.t rfl)) ?_
            refine W.q rfl rfl rfl rfl (by decide) (Yd.as rfl (.t rfl)) ?_
            refine W.end ?_
            refine NX.sub (env' := [(6, _), (71, _), (72, _), (10, _)]) ⟨rfl, rfl, rfl, rfl, trivial⟩ ?_
            refine NX.then ?_
            refine Tr.seq ?_
            refine Tr.region_f (fun _ => false) ?_
            refine W.q rfl rfl rfl rfl (by decide) (Yd.mv rfl (.t rfl)) ?_
            refine W.q rfl rfl rfl rfl (by decide) (Yd.lenO (p := 0) rfl rfl Try.underlying31 (.t rfl)) ?_
            refine W.q rfl rfl rfl rfl (by decide) (Yd.mv rfl .c) ?_
            refine W.end ?_
            refine NX.sub (env' := [(6, _), (71, _), (72, _), (10, _), (76, _), (77, _)]) ⟨rfl, rfl, rfl, rfl, rfl, rfl, trivial⟩ ?_
            refine NX.then ?_
            refine Tr.join (S := fun env x => ∃ l66 : List (BitVec 32), ∃ v67 : Value, env = [(6, v67), (71, .int .i64 ((l20.length : Int))), (72, .int .i64 t_56)] ∧ x = ⟨m, hownT 37 1 encU v67 l66 :: l⟩ ∧ order_Table_k68 nx58 l66 = some r) ?_ (fun hk69 => ?_)
            · rintro _ _ ⟨l66, v67, rfl, rfl, hr⟩
              unfold order_Table_k68 at hr
              try dsimp only at hr
              refine NX.block ?_
              refine NX.then ?_
              refine Tr.region_f (fun _ => false) ?_
              refine W.q rfl rfl rfl rfl (by decide) (Yd.add rfl (.t rfl) .c) ?_
              refine W.q rfl rfl rfl rfl (by decide) (Yd.mv rfl (.t rfl)) ?_
              refine W.end ?_
              refine NX.sub (env' := [(6, _), (71, _), (72, _)]) ⟨rfl, rfl, rfl, trivial⟩ ?_
              refine NX.sub (env' := [(6, _), (71, _), (72, _)]) ⟨rfl, rfl, rfl, trivial⟩ ?_
              have hw := w64_id (n := t_56 + 1) (by omega) (by omega)
              exact NX.again n59 (t_56 + 1, l66) (Nat.lt_succ_self _) ⟨_, (by rw [hw] <;> rfl), rfl, (fr_dec hnt_56), (by omega), ((hnx58 _).symm.trans hr)⟩
            refine Tr.lenO (pos := 0) rfl (fun hlen70 => ?_)
            refine Tr.block ?_
            refine Tr.sub (env' := [(6, _), (10, _), (71, _), (72, _), (76, _), (77, _)]) ⟨rfl, rfl, rfl, rfl, rfl, rfl, trivial⟩ ?_
            refine Tr.loop (S := fun n (z : Int × (List (BitVec 32))) env x => match z with | (t_71, l64) => ∃ v65 : Value, env = [(6, v65), (10, .int .i64 t_56), (71, .int .i64 ((l20.length : Int))), (72, .int .i64 t_56), (76, .int .i64 ((l28.length : Int))), (77, .int .i64 t_71)] ∧ x = ⟨m, hownT 37 1 encU v65 l64 :: l⟩ ∧ n = ((l28.length : Int) - t_71).toNat ∧ 0 ≤ t_71 ∧ forK (σ := (List (BitVec 32))) (fun i s nx_ => order_Table_b72 t_56 i s nx_) (fun s => order_Table_k68 nx58 s) n t_71 l64 = some r) _ ((0 : Int), l28) ⟨_, rfl, rfl, rfl, (by omega), hr⟩ ?_
            rintro n74 ⟨t_71, l64⟩ env x ⟨v65, rfl, rfl, hnt_71, h0t_71, hr⟩
            cases n74 with
            | zero =>
              simp only [forK] at hr
              refine Tr.seq ?_
              refine Tr.region_f (fun _ => false) ?_
              refine W.q rfl rfl rfl rfl (by decide) (Yd.lss rfl (.t rfl) (.t rfl)) ?_
              refine W.end ?_
              refine NX.sub (env' := [(6, _), (10, _), (71, _), (72, _), (76, _), (77, _), (78, _)]) ⟨rfl, rfl, rfl, rfl, rfl, rfl, rfl, trivial⟩ ?_
              refine NX.then ?_
              refine Tr.seq ?_
              refine Tr.cond (.t rfl) (fun hb => ?_) (fun hb => ?_)
              · exact absurd (hb.symm.trans (fr_end hnt_71)) (by decide)
              ·
                refine Tr.exit' (EX.then (EX.then (EX.block ?_)))
                refine NX.sub (env' := [(6, _), (71, _), (72, _)]) ⟨rfl, rfl, rfl, trivial⟩ ?_
                exact hk69 _ _ ⟨_, _, rfl, rfl, hr⟩
            | succ n74 =>
              obtain ⟨nx73, hnx73, hr⟩ := forK_succ hr
              try dsimp only at hr
              unfold order_Table_b72 at hr
              try dsimp only at hr
              have hltt_71 := fr_bnd hnt_71
              refine Tr.seq ?_
              refine Tr.region_f (fun _ => false) ?_
              refine W.q rfl rfl rfl rfl (by decide) (Yd.lss rfl (.t rfl) (.t rfl)) ?_
              refine W.end ?_
              refine NX.sub (env' := [(6, _), (10, _), (71, _), (72, _), (76, _), (77, _), (78, _)]) ⟨rfl, rfl, rfl, rfl, rfl, rfl, rfl, trivial⟩ ?_
              refine NX.then ?_
              refine Tr.seq ?_
              refine Tr.cond (.t rfl) (fun hb => ?_) (fun hb => ?_)
              rotate_left
              · exact absurd (hb.symm.trans (fr_go hnt_71)) (by decide)
              ·
                refine Tr.skip' ?_
                refine NX.then ?_
                refine Tr.seq ?_
                refine Tr.block ?_
                refine Tr.seq ?_
                refine Tr.region_f (fun _ => false) ?_
                refine W.q rfl rfl rfl rfl (by decide) (Yd.mv rfl (.t rfl)) ?_
                refine W.q rfl rfl rfl rfl (by decide) (Yd.as rfl (.t rfl)) ?_
                refine W.end ?_
                refine NX.sub (env' := [(6, _), (10, _), (71, _), (72, _), (76, _), (77, _), (11, _)]) ⟨rfl, rfl, rfl, rfl, rfl, rfl, rfl, trivial⟩ ?_
                refine NX.then ?_
                refine Tr.seq ?_
                obtain ⟨y75, hy76, hr⟩ := bind_some hr
                refine Tr.region_f (fun _ => false) ?_
                refine W.q rfl rfl rfl rfl (by decide) (Yd.mv rfl (.t rfl)) ?_
                refine W.q rfl rfl rfl rfl (by decide) (Yd.mv rfl (.t rfl)) ?_
                refine W.q rfl rfl rfl rfl (by decide) (Yd.idxT (pos := 0) rfl hy76 rfl Try.underlying31 SZ37 (.t rfl) (.t rfl)) ?_
                refine W.q rfl rfl rfl rfl (by decide) (Yd.ldT (enc := encU) (n := 1) (pos := 0) (fun _ => rfl) rfl hy76 rfl rfl ON37 (.t rfl)) ?_
                refine W.q rfl rfl rfl rfl (by decide) (Yd.mv rfl (.t rfl)) ?_
                refine W.q rfl rfl rfl rfl (by decide) (Yd.shrU (a := y75) rfl (.t rfl) (.t rfl) h0t_56) ?_
                refine W.q rfl rfl rfl rfl (by decide) (Yd.andU (a := (y75 >>> t_56.toNat)) (b := 1#32) rfl (.t rfl) .c) ?_
                refine W.q rfl rfl rfl rfl (by decide) (Yd.eqlU (a := ((y75 >>> t_56.toNat) &&& 1#32)) (b := 1#32) rfl (.t rfl) .c) ?_
                refine W.end ?_
                refine NX.sub (env' := [(6, _), (10, _), (71, _), (72, _), (76, _), (77, _), (11, _), (87, _)]) ⟨rfl, rfl, rfl, rfl, rfl, rfl, rfl, rfl, trivial⟩ ?_
                refine NX.then ?_
                refine Tr.cond (.t rfl) (fun hb => ?_) (fun hb => ?_)
                · have hr := cond_t hb hr
                  obtain ⟨y77, hy78, hr⟩ := bind_some hr
                  obtain ⟨y79, hy80, hr⟩ := bind_some hr
                  refine Tr.region_x (fun i => Nat.beq i 10) (fun i => Nat.beq i 10) (Ord.of [0, 1, 2, 3, 4, 5, 6, 7, 8, 9, 10]) FM (by kernel_rfl) ?_
                  refine W.q rfl rfl rfl rfl (by decide) (Yd.mv rfl (.t rfl)) ?_
                  refine W.q rfl rfl rfl rfl (by decide) (Yd.mv rfl (.t rfl)) ?_
                  refine W.q rfl rfl rfl rfl (by decide) (Yd.idxT (pos := 0) rfl hy78 rfl Try.underlying31 SZ37 (.t rfl) (.t rfl)) ?_
                  refine W.q rfl rfl rfl rfl (by decide) (Yd.ldT (enc := encU) (n := 1) (pos := 0) (fun _ => rfl) rfl hy78 rfl rfl ON37 (.t rfl)) ?_
                  refine W.q rfl rfl rfl rfl (by decide) (Yd.mv rfl (.t rfl)) ?_
                  refine W.q rfl rfl rfl rfl (by decide) (Yd.mv rfl (.t rfl)) ?_
                  refine W.q rfl rfl rfl rfl (by decide) (Yd.idxT (pos := 0) rfl hy80 rfl Try.underlying31 SZ37 (.t rfl) (.t rfl)) ?_
                  refine W.q rfl rfl rfl rfl (by decide) (Yd.ldT (enc := encU) (n := 1) (pos := 0) (fun _ => rfl) rfl hy80 rfl rfl ON37 (.t rfl)) ?_
                  refine W.q rfl rfl rfl rfl (by decide) (Yd.orU (a := y77) (b := y79) rfl (.t rfl) (.t rfl)) ?_
                  refine W.q rfl rfl rfl rfl (by decide) (Yd.idxT (pos := 0) rfl hy78 rfl Try.underlying31 SZ37 (.t rfl) (.t rfl)) ?_
                  refine W.s rfl rfl rfl rfl (Ef.stT (enc := encU) (n := 1) (pos := 0) (y := (y77 ||| y79)) (us := [_]) (fun _ => rfl) rfl hy78 rfl (.t rfl) (.t rfl) SZ37 rfl rfl rfl (by decide)) ?_
                  rintro _ _ ⟨rfl, rfl⟩
                  refine ⟨.inl rfl, ?_⟩
                  refine W.cast (m' := m) (l' := hownT 37 1 encU v65 _ :: l) rfl rfl ?_
                  refine W.end ?_
                  refine NX.sub (env' := [(6, _), (10, _), (71, _), (72, _), (76, _), (77, _)]) ⟨rfl, rfl, rfl, rfl, rfl, rfl, trivial⟩ ?_
                  refine NX.block ?_
                  refine NX.then ?_
                  refine Tr.region_f (fun _ => false) ?_
                  refine W.q rfl rfl rfl rfl (by decide) (Yd.add rfl (.t rfl) .c) ?_
                  refine W.q rfl rfl rfl rfl (by decide) (Yd.mv rfl (.t rfl)) ?_
                  refine W.end ?_
                  refine NX.sub (env' := [(6, _), (10, _), (71, _), (72, _), (76, _), (77, _)]) ⟨rfl, rfl, rfl, rfl, rfl, rfl, trivial⟩ ?_
                  refine NX.sub (env' := [(6, _), (10, _), (71, _), (72, _), (76, _), (77, _)]) ⟨rfl, rfl, rfl, rfl, rfl, rfl, trivial⟩ ?_
                  have hw := w64_id (n := t_71 + 1) (by omega) (by omega)
                  exact NX.again n74 (t_71 + 1, (l64.set t_71.toNat ((y77 ||| y79)))) (Nat.lt_succ_self _) ⟨_, (by rw [hw] <;> rfl), rfl, (fr_dec hnt_71), (by omega), ((hnx73 _).symm.trans hr)⟩
                · have hr := cond_f hb hr
                  refine Tr.skip' ?_
                  refine NX.block ?_
                  refine NX.then ?_
                  refine Tr.region_f (fun _ => false) ?_
                  refine W.q rfl rfl rfl rfl (by decide) (Yd.add rfl (.t rfl) .c) ?_
                  refine W.q rfl rfl rfl rfl (by decide) (Yd.mv rfl (.t rfl)) ?_
                  refine W.end ?_
                  refine NX.sub (env' := [(6, _), (10, _), (71, _), (72, _), (76, _), (77, _)]) ⟨rfl, rfl, rfl, rfl, rfl, rfl, trivial⟩ ?_
                  refine NX.sub (env' := [(6, _), (10, _), (71, _), (72, _), (76, _), (77, _)]) ⟨rfl, rfl, rfl, rfl, rfl, rfl, trivial⟩ ?_
                  have hw := w64_id (n := t_71 + 1) (by omega) (by omega)
                  exact NX.again n74 (t_71 + 1, l64) (Nat.lt_succ_self _) ⟨_, (by rw [hw] <;> rfl), rfl, (fr_dec hnt_71), (by omega), ((hnx73 _).symm.trans hr)⟩
      have hlen81 := (hpairs_1).2.1
      refine Tr.block ?_
      refine Tr.sub (env' := [(0, _), (6, _), (38, _), (39, _), (40, _)]) ⟨rfl, rfl, rfl, rfl, rfl, trivial⟩ ?_
      refine Tr.loop (S := fun n (z : Int × (List (BitVec 32))) env x => match z with | (t_82, l18) => ∃ v19 : Value, env = [(0, .int .i64 n_0), (6, v19), (38, upairs_1), (39, .int .i64 ((pairs_1.length : Int))), (40, .int .i64 t_82)] ∧ x = ⟨m, hownT 37 1 encU v19 l18 :: l⟩ ∧ n = ((pairs_1.length : Int) - t_82).toNat ∧ 0 ≤ t_82 ∧ forK (σ := (List (BitVec 32))) (fun i s nx_ => order_Table_b83 n_0 pairs_1 i s nx_) (fun s => order_Table_k22 s) n t_82 l18 = some r) _ ((0 : Int), l10) ⟨_, rfl, rfl, rfl, (by omega), hr⟩ ?_
      rintro n85 ⟨t_82, l18⟩ env x ⟨v19, rfl, rfl, hnt_82, h0t_82, hr⟩
      cases n85 with
      | zero =>
        simp only [forK] at hr
        refine Tr.seq ?_
        refine Tr.region_f (fun _ => false) ?_
        refine W.q rfl rfl rfl rfl (by decide) (Yd.lss rfl (.t rfl) (.t rfl)) ?_
        refine W.end ?_
        refine NX.sub (env' := [(0, _), (6, _), (38, _), (39, _), (40, _), (41, _)]) ⟨rfl, rfl, rfl, rfl, rfl, rfl, trivial⟩ ?_
        refine NX.then ?_
        refine Tr.seq ?_
        refine Tr.cond (.t rfl) (fun hb => ?_) (fun hb => ?_)
        · exact absurd (hb.symm.trans (fr_end hnt_82)) (by decide)
        ·
          refine Tr.exit' (EX.then (EX.then (EX.block ?_)))
          refine NX.sub (env' := [(6, _)]) ⟨rfl, trivial⟩ ?_
          exact hk23 _ _ ⟨_, _, rfl, rfl, hr⟩
      | succ n85 =>
        obtain ⟨nx84, hnx84, hr⟩ := forK_succ hr
        try dsimp only at hr
        unfold order_Table_b83 at hr
        try dsimp only at hr
        have hltt_82 := fr_bnd hnt_82
        refine Tr.seq ?_
        refine Tr.region_f (fun _ => false) ?_
        refine W.q rfl rfl rfl rfl (by decide) (Yd.lss rfl (.t rfl) (.t rfl)) ?_
        refine W.end ?_
        refine NX.sub (env' := [(0, _), (6, _), (38, _), (39, _), (40, _), (41, _)]) ⟨rfl, rfl, rfl, rfl, rfl, rfl, trivial⟩ ?_
        refine NX.then ?_
        refine Tr.seq ?_
        refine Tr.cond (.t rfl) (fun hb => ?_) (fun hb => ?_)
        rotate_left
        · exact absurd (hb.symm.trans (fr_go hnt_82)) (by decide)
        ·
          refine Tr.skip' ?_
          refine NX.then ?_
          refine Tr.seq ?_
          refine Tr.block ?_
          refine Tr.seq ?_
          obtain ⟨y86, hy87, hr⟩ := bind_some hr
          refine Tr.region_f (fun i => Nat.beq i 2 || Nat.beq i 3) ?_
          refine W.q rfl rfl rfl rfl (by decide) (Yd.idxR hpairs_1 hy87 rfl Try.underlying22 SZ38 (.t rfl) (.t rfl)) ?_
          refine W.q rfl rfl rfl rfl (by decide) (Yd.ldFs (us := [_, _]) hpairs_1 (.refl _) hy87 rfl rfl ON38 US38 SZ38 (.t rfl)) ?_
          refine W.e rfl rfl rfl rfl (by decide) (Ef.al rfl ZR38 rfl) ?_
          rintro _ _ ⟨b88, rfl, rfl⟩
          refine ⟨.inl rfl, ?_⟩
          refine W.cast (m' := m) (l' := hcells b88 [_, _] 38 :: hownT 37 1 encU v19 _ :: l) rfl rfl ?_
          refine W.s rfl rfl rfl rfl (Ef.stB (pos := 0) (us := [_, _]) (cs' := [_, _]) rfl rfl (.t rfl) (.t rfl) SZ38 rfl rfl rfl (Nat.le_of_ble_eq_true rfl) rfl) ?_
          rintro _ _ ⟨rfl, rfl⟩
          refine ⟨.inl rfl, ?_⟩
          refine W.cast (m' := m) (l' := hcells b88 [_, _] 38 :: hownT 37 1 encU v19 _ :: l) rfl rfl ?_
          refine W.end ?_
          refine NX.sub (env' := [(0, _), (6, _), (38, _), (39, _), (40, _), (9, _)]) ⟨rfl, rfl, rfl, rfl, rfl, rfl, trivial⟩ ?_
          refine NX.then ?_
          refine Tr.seq ?_
          refine Tr.seq ?_
          refine Tr.region_f (fun _ => false) ?_
          refine W.q rfl rfl rfl rfl (by decide) (Yd.arrB rfl Try.underlying38 SZ3 (by decide) (by decide) (.t rfl) .c) ?_
          refine W.q rfl rfl rfl rfl (by decide) (Yd.ldB (pos := 0) rfl rfl rfl ON3 (.t rfl)) ?_
          refine W.q rfl rfl rfl rfl (by decide) (Yd.arrB rfl Try.underlying38 SZ3 (by decide) (by decide) (.t rfl) .c) ?_
          refine W.q rfl rfl rfl rfl (by decide) (Yd.ldB (pos := 0) rfl rfl rfl ON3 (.t rfl)) ?_
          refine W.q rfl rfl rfl rfl (by decide) (Yd.min2 rfl (.t rfl) (.t rfl)) ?_
          refine W.q rfl rfl rfl rfl (by decide) (Yd.lss rfl (.t rfl) .c) ?_
          refine W.q rfl rfl rfl rfl (by decide) (Yd.mv rfl (.t rfl)) ?_
          refine W.g rfl rfl rfl rfl rfl (.t rfl _) rfl (by decide) (fun hG => Yd.arrB rfl Try.underlying38 SZ3 (by decide) (by decide) (.t rfl) .c) ?_
          refine W.g rfl rfl rfl rfl rfl (.t rfl _) rfl (by decide) (fun hG => Yd.ldB (pos := 0) rfl rfl rfl ON3 (.g rfl hG)) ?_
          refine W.g rfl rfl rfl rfl rfl (.t rfl _) rfl (by decide) (fun hG => Yd.arrB rfl Try.underlying38 SZ3 (by decide) (by decide) (.t rfl) .c) ?_
          refine W.g rfl rfl rfl rfl rfl (.t rfl _) rfl (by decide) (fun hG => Yd.ldB (pos := 0) rfl rfl rfl ON3 (.g rfl hG)) ?_
          refine W.g rfl rfl rfl rfl rfl (.t rfl _) rfl (by decide) (fun hG => Yd.max2 rfl (.g rfl hG) (.g rfl hG)) ?_
          refine W.g rfl rfl rfl rfl rfl (.t rfl _) rfl (by decide) (fun hG => Yd.mv rfl (.t rfl)) ?_
          refine W.g rfl rfl rfl rfl rfl (.t rfl _) rfl (by decide) (fun hG => Yd.geq rfl (.g rfl hG) (.g rfl hG)) ?_
          refine W.q rfl rfl rfl rfl (by decide) (Yd.or rfl (.t rfl) .c rfl rfl) ?_
          refine W.end ?_
          refine NX.sub (env' := [(0, _), (6, _), (38, _), (39, _), (40, _), (9, _), (58, _)]) ⟨rfl, rfl, rfl, rfl, rfl, rfl, rfl, trivial⟩ ?_
          refine NX.then ?_
          refine Tr.cond (.t rfl) (fun hb => ?_) (fun hb => ?_)
          · have hr := cond_t hb hr
            refine Tr.seq ?_
            refine Tr.region_f (fun _ => false) ?_
            refine W.q rfl rfl rfl rfl (by decide) (Yd.as rfl .c) ?_
            refine W.q rfl rfl rfl rfl (by decide) (Yd.as rfl .c) ?_
            refine W.end ?_
            refine NX.sub (env' := [(4, _), (5, _)]) ⟨rfl, rfl, trivial⟩ ?_
            refine NX.drop (l' := l) (.cons _ (.cons _ (.refl _))) ?_
            refine NX.then ?_
            refine Tr.ret' (RT.then (RT.block (RT.then (RT.then (RT.block (RT.then ?_))))))
            refine res2 rfl rfl rfl ?_
            intro w hc
            cases hr
            exact ⟨_, rfl, (cX_nil hc)⟩
          · have hr := cond_f hb hr
            refine Tr.skip' ?_
            refine NX.then ?_
            obtain ⟨y90, hy91, hr⟩ := bind_some hr
            obtain ⟨hq92, hr⟩ := guard_some hr; replace hq92 := of_decide_eq_true hq92
            refine Tr.region_x (fun i => Nat.beq i 10) (fun i => Nat.beq i 10) (Ord.of [0, 1, 2, 3, 4, 5, 6, 7, 8, 9, 10]) FM (by kernel_rfl) ?_
            refine W.q rfl rfl rfl rfl (by decide) (Yd.mv rfl (.t rfl)) ?_
            refine W.q rfl rfl rfl rfl (by decide) (Yd.arrB rfl Try.underlying38 SZ3 (by decide) (by decide) (.t rfl) .c) ?_
            refine W.q rfl rfl rfl rfl (by decide) (Yd.ldB (pos := 0) rfl rfl rfl ON3 (.t rfl)) ?_
            refine W.q rfl rfl rfl rfl (by decide) (Yd.idxT (pos := 1) rfl hy91 rfl Try.underlying31 SZ37 (.t rfl) (.t rfl)) ?_
            refine W.q rfl rfl rfl rfl (by decide) (Yd.ldT (enc := encU) (n := 1) (pos := 1) (fun _ => rfl) rfl hy91 rfl rfl ON37 (.t rfl)) ?_
            refine W.q rfl rfl rfl rfl (by decide) (Yd.arrB rfl Try.underlying38 SZ3 (by decide) (by decide) (.t rfl) .c) ?_
            refine W.q rfl rfl rfl rfl (by decide) (Yd.ldB (pos := 0) rfl rfl rfl ON3 (.t rfl)) ?_
            refine W.q rfl rfl rfl rfl (by decide) (Yd.shlU (a := 1#32) rfl .c (.t rfl) hq92) ?_
            refine W.q rfl rfl rfl rfl (by decide) (Yd.orU (a := y90) (b := (1#32 <<< y86.2.toNat)) rfl (.t rfl) (.t rfl)) ?_
            refine W.q rfl rfl rfl rfl (by decide) (Yd.idxT (pos := 1) rfl hy91 rfl Try.underlying31 SZ37 (.t rfl) (.t rfl)) ?_
            refine W.s rfl rfl rfl rfl (Ef.stT (enc := encU) (n := 1) (pos := 1) (y := (y90 ||| (1#32 <<< y86.2.toNat))) (us := [_]) (fun _ => rfl) rfl hy91 rfl (.t rfl) (.t rfl) SZ37 rfl rfl rfl (by decide)) ?_
            rintro _ _ ⟨rfl, rfl⟩
            refine ⟨.inl rfl, ?_⟩
            refine W.cast (m' := m) (l' := hcells b88 [_, _] 38 :: hownT 37 1 encU v19 _ :: l) rfl rfl ?_
            refine W.end ?_
            refine NX.sub (env' := [(0, _), (6, _), (38, _), (39, _), (40, _)]) ⟨rfl, rfl, rfl, rfl, rfl, trivial⟩ ?_
            refine NX.drop (l' := hownT 37 1 encU v19 _ :: l) (.cons _ (.cons_cons _ (.refl _))) ?_
            refine NX.block ?_
            refine NX.then ?_
            refine Tr.region_f (fun _ => false) ?_
            refine W.q rfl rfl rfl rfl (by decide) (Yd.add rfl (.t rfl) .c) ?_
            refine W.q rfl rfl rfl rfl (by decide) (Yd.mv rfl (.t rfl)) ?_
            refine W.end ?_
            refine NX.sub (env' := [(0, _), (6, _), (38, _), (39, _), (40, _)]) ⟨rfl, rfl, rfl, rfl, rfl, trivial⟩ ?_
            refine NX.sub (env' := [(0, _), (6, _), (38, _), (39, _), (40, _)]) ⟨rfl, rfl, rfl, rfl, rfl, trivial⟩ ?_
            have hw := w64_id (n := t_82 + 1) (by omega) (by omega)
            exact NX.again n85 (t_82 + 1, (l18.set y86.1.toNat ((y90 ||| (1#32 <<< y86.2.toNat))))) (Nat.lt_succ_self _) ⟨_, (by rw [hw] <;> rfl), rfl, (fr_dec hnt_82), (by omega), ((hnx84 _).symm.trans hr)⟩
    refine Tr.lenO (pos := 0) rfl (fun hlen93 => ?_)
    refine Tr.block ?_
    refine Tr.sub (env' := [(0, _), (1, _), (6, _), (28, _), (29, _)]) ⟨rfl, rfl, rfl, rfl, rfl, trivial⟩ ?_
    refine Tr.loop (S := fun n (z : Int × (List (BitVec 32))) env x => match z with | (t_94, l8) => ∃ v9 : Value, env = [(0, .int .i64 n_0), (1, upairs_1), (6, v9), (28, .int .i64 ((((List.replicate n_0.toNat (0#32))).length : Int))), (29, .int .i64 t_94)] ∧ x = ⟨m, hownT 37 1 encU v9 l8 :: l⟩ ∧ n = ((((List.replicate n_0.toNat (0#32))).length : Int) - t_94).toNat ∧ 0 ≤ t_94 ∧ forK (σ := (List (BitVec 32))) (fun i s nx_ => order_Table_b95 i s nx_) (fun s => order_Table_k12 n_0 pairs_1 s) n t_94 l8 = some r) _ ((0 : Int), (List.replicate n_0.toNat (0#32))) ⟨_, rfl, rfl, rfl, (by omega), hr⟩ ?_
    rintro n97 ⟨t_94, l8⟩ env x ⟨v9, rfl, rfl, hnt_94, h0t_94, hr⟩
    cases n97 with
    | zero =>
      simp only [forK] at hr
      refine Tr.seq ?_
      refine Tr.region_f (fun _ => false) ?_
      refine W.q rfl rfl rfl rfl (by decide) (Yd.lss rfl (.t rfl) (.t rfl)) ?_
      refine W.end ?_
      refine NX.sub (env' := [(0, _), (1, _), (6, _), (28, _), (29, _), (30, _)]) ⟨rfl, rfl, rfl, rfl, rfl, rfl, trivial⟩ ?_
      refine NX.then ?_
      refine Tr.seq ?_
      refine Tr.cond (.t rfl) (fun hb => ?_) (fun hb => ?_)
      · exact absurd (hb.symm.trans (fr_end hnt_94)) (by decide)
      ·
        refine Tr.exit' (EX.then (EX.then (EX.block ?_)))
        refine NX.sub (env' := [(0, _), (1, _), (6, _)]) ⟨rfl, rfl, rfl, trivial⟩ ?_
        exact hk13 _ _ ⟨_, _, rfl, rfl, hr⟩
    | succ n97 =>
      obtain ⟨nx96, hnx96, hr⟩ := forK_succ hr
      try dsimp only at hr
      unfold order_Table_b95 at hr
      try dsimp only at hr
      have hltt_94 := fr_bnd hnt_94
      refine Tr.seq ?_
      refine Tr.region_f (fun _ => false) ?_
      refine W.q rfl rfl rfl rfl (by decide) (Yd.lss rfl (.t rfl) (.t rfl)) ?_
      refine W.end ?_
      refine NX.sub (env' := [(0, _), (1, _), (6, _), (28, _), (29, _), (30, _)]) ⟨rfl, rfl, rfl, rfl, rfl, rfl, trivial⟩ ?_
      refine NX.then ?_
      refine Tr.seq ?_
      refine Tr.cond (.t rfl) (fun hb => ?_) (fun hb => ?_)
      rotate_left
      · exact absurd (hb.symm.trans (fr_go hnt_94)) (by decide)
      ·
        refine Tr.skip' ?_
        refine NX.then ?_
        refine Tr.seq ?_
        refine Tr.block ?_
        refine Tr.seq ?_
        refine Tr.region_f (fun _ => false) ?_
        refine W.q rfl rfl rfl rfl (by decide) (Yd.mv rfl (.t rfl)) ?_
        refine W.q rfl rfl rfl rfl (by decide) (Yd.as rfl (.t rfl)) ?_
        refine W.end ?_
        refine NX.sub (env' := [(0, _), (1, _), (6, _), (28, _), (29, _), (7, _)]) ⟨rfl, rfl, rfl, rfl, rfl, rfl, trivial⟩ ?_
        refine NX.then ?_
        obtain ⟨y98, hy99, hr⟩ := bind_some hr
        refine Tr.region_f (fun i => Nat.beq i 5) ?_
        refine W.q rfl rfl rfl rfl (by decide) (Yd.mv rfl (.t rfl)) ?_
        refine W.q rfl rfl rfl rfl (by decide) (Yd.mv rfl (.t rfl)) ?_
        refine W.q rfl rfl rfl rfl (by decide) (Yd.mv rfl (.t rfl)) ?_
        refine W.q rfl rfl rfl rfl (by decide) (Yd.shlU (a := 1#32) rfl .c (.t rfl) h0t_94) ?_
        refine W.q rfl rfl rfl rfl (by decide) (Yd.idxT (pos := 0) rfl hy99 rfl Try.underlying31 SZ37 (.t rfl) (.t rfl)) ?_
        refine W.s rfl rfl rfl rfl (Ef.stT (enc := encU) (n := 1) (pos := 0) (y := (1#32 <<< t_94.toNat)) (us := [_]) (fun _ => rfl) rfl hy99 rfl (.t rfl) (.t rfl) SZ37 rfl rfl rfl (by decide)) ?_
        rintro _ _ ⟨rfl, rfl⟩
        refine ⟨.inl rfl, ?_⟩
        refine W.cast (m' := m) (l' := hownT 37 1 encU v9 _ :: l) rfl rfl ?_
        refine W.end ?_
        refine NX.sub (env' := [(0, _), (1, _), (6, _), (28, _), (29, _)]) ⟨rfl, rfl, rfl, rfl, rfl, trivial⟩ ?_
        refine NX.block ?_
        refine NX.then ?_
        refine Tr.region_f (fun _ => false) ?_
        refine W.q rfl rfl rfl rfl (by decide) (Yd.add rfl (.t rfl) .c) ?_
        refine W.q rfl rfl rfl rfl (by decide) (Yd.mv rfl (.t rfl)) ?_
        refine W.end ?_
        refine NX.sub (env' := [(0, _), (1, _), (6, _), (28, _), (29, _)]) ⟨rfl, rfl, rfl, rfl, rfl, trivial⟩ ?_
        refine NX.sub (env' := [(0, _), (1, _), (6, _), (28, _), (29, _)]) ⟨rfl, rfl, rfl, rfl, rfl, trivial⟩ ?_
        have hw := w64_id (n := t_94 + 1) (by omega) (by omega)
        exact NX.again n97 (t_94 + 1, (l8.set t_94.toNat ((1#32 <<< t_94.toNat)))) (Nat.lt_succ_self _) ⟨_, (by rw [hw] <;> rfl), rfl, (fr_dec hnt_94), (by omega), ((hnx96 _).symm.trans hr)⟩

def order_Line_k15 (l13 : List Int) : Option ((List Int) × Int) :=
  some ((l13, (0 : Int)))

def order_Line_k31 (nx18 : (((BitVec 32) × (List Int)) → Option ((List Int) × Int))) (left_28 : BitVec 32) (l29 : List Int) : Option ((List Int) × Int) :=
  nx18 (left_28, l29)

def order_Line_k43 (nx18 : (((BitVec 32) × (List Int)) → Option ((List Int) × Int))) (t_34 : Int) (left_24 : BitVec 32) (l26 : List Int) (nx36 : (((BitVec 32) × (List Int)) → Option ((List Int) × Int))) (free_42 : Bool) : Option ((List Int) × Int) :=
  (bif free_42 then
  bif decide (l26.length + (([t_34] : List Int)).length ≤ 17592186044416) then
  order_Line_k31 nx18 ((left_24 &&& ~~~(1#32 <<< t_34.toNat))) ((l26 ++ ([t_34] : List Int))) else none
  else
  nx36 (left_24, l26))

def order_Line_b51 (r1 : (List (BitVec 32)) × Int) (t_34 : Int) (left_24 : BitVec 32) (t_50 : Int) (free_40 : Bool) (nx52 : Bool → Option ((List Int) × Int)) : Option ((List Int) × Int) :=
  bif (!((free_40 == true) && (((t_50 == t_34) || (((left_24 >>> t_50.toNat) &&& 1#32) == 0#32)) == false)) || (geti r1.1 t_50).isSome) then
  nx52 (free_40 && (((t_50 == t_34) || (((left_24 >>> t_50.toNat) &&& 1#32) == 0#32)) || (((((geti r1.1 t_50).getD (0#32)) >>> t_34.toNat) &&& 1#32) == 0#32))) else none

def order_Line_b35 (r1 : (List (BitVec 32)) × Int) (nx18 : (((BitVec 32) × (List Int)) → Option ((List Int) × Int))) (t_34 : Int) (left_24 : BitVec 32) (l26 : List Int) (nx36 : ((BitVec 32) × (List Int)) → Option ((List Int) × Int)) : Option ((List Int) × Int) :=
  forK (σ := Bool) (fun i s nx_ => order_Line_b51 r1 t_34 left_24 i s nx_) (fun s => order_Line_k43 nx18 t_34 left_24 l26 nx36 s) ((r1.1.length : Int) - (0 : Int)).toNat (0 : Int) ((((left_24 >>> t_34.toNat) &&& 1#32) == 1#32))

def order_Line_b17 (r1 : (List (BitVec 32)) × Int) (left_10 : BitVec 32) (l11 : List Int) (nx18 : ((BitVec 32) × (List Int)) → Option ((List Int) × Int)) : Option ((List Int) × Int) :=
  (bif (left_10 != 0#32) then
  forK (σ := (BitVec 32) × (List Int)) (fun i s nx_ => order_Line_b35 r1 nx18 i s.1 s.2 nx_) (fun s => order_Line_k31 nx18 s.1 s.2) ((r1.1.length : Int) - (0 : Int)).toNat (0 : Int) (left_10, l11)
  else
  order_Line_k15 l11)

def order_Line (fuel : Nat) (n_0 : Int) (pairs_1 : List (Int × Int)) : Option ((List Int) × Int) :=
  (order_Table n_0 pairs_1).bind fun r1 =>
  (bif (r1.2 != (0 : Int)) then
  some (([], r1.2))
  else
  bif decide (0 ≤ n_0) then
  whileK (σ := (BitVec 32) × (List Int)) (fun s nx_ => order_Line_b17 r1 s.1 s.2 nx_) fuel ((((1#32 <<< n_0.toNat) - 1#32)), (([] : List Int))) else none)

set_option maxRecDepth 100000 in
set_option maxHeartbeats 4000000 in
theorem order_Line_ok (w0 : World) (m : Snap) (l : List HI) (fuel : Nat) (n_0 : Int) (upairs_1 : Value) (pairs_1 : List (Int × Int)) (hpairs_1 : RS rP m upairs_1 pairs_1) (r : (List Int) × Int) (hr : order_Line fuel n_0 pairs_1 = some r) (w : World) (hc : cX w0 ⟨m, l⟩ w) :
    Calls Try.prog 8 [.int .i64 n_0, upairs_1].toArray w fun e w' => ∃ z0 : Value, e = .returned (.tuple #[z0, .int .i64 r.2]) ∧ cX w0 ⟨m, hownT 3 1 encI z0 r.1 :: l⟩ w' := by
  unfold order_Line at hr
  refine calls_of_Tr (N := 77) Try.func8 rfl hc rfl (Nat.le_of_ble_eq_true rfl) ?_
  refine Tr.seq ?_
  refine Tr.region_f (fun _ => false) ?_
  refine W.q rfl rfl rfl rfl (by decide) (Yd.as rfl .c) ?_
  refine W.q rfl rfl rfl rfl (by decide) (Yd.as rfl .c) ?_
  refine W.end ?_
  refine NX.sub (env' := [(0, _), (1, _)]) ⟨rfl, rfl, trivial⟩ ?_
  refine NX.then ?_
  refine Tr.seq ?_
  obtain ⟨r1, hr2, hr⟩ := bind_some hr
  refine Tr.region_f (fun i => Nat.beq i 2) ?_
  refine W.q rfl rfl rfl rfl (by decide) (Yd.mv rfl (.t rfl)) ?_
  refine W.q rfl rfl rfl rfl (by decide) (Yd.mv rfl (.t rfl)) ?_
  refine W.e rfl rfl rfl rfl (by decide) (Ef.call (R := fun z x' => ∃ v3 : Value, z = .tuple #[v3, .int .i64 r1.2] ∧ x' = ⟨m, hownT 37 1 encU v3 r1.1 :: l⟩) rfl Try.func9 rfl rfl (.cons (.t rfl) (.cons (.t rfl) .nil)) (fun w hw => (order_Table_ok w0 _ _ n_0 _ _ hpairs_1 _ hr2 w hw).mono fun e w' ⟨v3, he, hc'⟩ => ⟨_, _, he, ⟨v3, rfl, rfl⟩, hc'⟩)) ?_
  rintro _ _ ⟨v3, rfl, rfl⟩
  refine ⟨.inl rfl, ?_⟩
  refine W.cast (m' := m) (l' := hownT 37 1 encU v3 _ :: l) rfl rfl ?_
  refine W.q rfl rfl rfl rfl (by decide) (Yd.mv rfl (.t rfl)) ?_
  refine W.q rfl rfl rfl rfl (by decide) (Yd.ext rfl (.t rfl) rfl) ?_
  refine W.q rfl rfl rfl rfl (by decide) (Yd.ext rfl (.t rfl) rfl) ?_
  refine W.q rfl rfl rfl rfl (by decide) (Yd.as rfl (.t rfl)) ?_
  refine W.q rfl rfl rfl rfl (by decide) (Yd.as rfl (.t rfl)) ?_
  refine W.end ?_
  refine NX.sub (env' := [(0, _), (6, _), (7, _)]) ⟨rfl, rfl, rfl, trivial⟩ ?_
  refine NX.then ?_
  refine Tr.seq ?_
  refine Tr.seq ?_
  refine Tr.region_f (fun _ => false) ?_
  refine W.q rfl rfl rfl rfl (by decide) (Yd.mv rfl (.t rfl)) ?_
  refine W.q rfl rfl rfl rfl (by decide) (Yd.neq rfl (.t rfl) .c) ?_
  refine W.end ?_
  refine NX.sub (env' := [(0, _), (6, _), (7, _), (20, _)]) ⟨rfl, rfl, rfl, rfl, trivial⟩ ?_
  refine NX.then ?_
  refine Tr.cond (.t rfl) (fun hb => ?_) (fun hb => ?_)
  · have hr := cond_t hb hr
    refine Tr.seq ?_
    refine Tr.region_f (fun _ => false) ?_
    refine W.q rfl rfl rfl rfl (by decide) (Yd.mv rfl (.t rfl)) ?_
    refine W.q rfl rfl rfl rfl (by decide) (Yd.as rfl .c) ?_
    refine W.q rfl rfl rfl rfl (by decide) (Yd.as rfl (.t rfl)) ?_
    refine W.end ?_
    refine NX.sub (env' := [(4, _), (5, _)]) ⟨rfl, rfl, trivial⟩ ?_
    refine NX.drop (l' := l) (.cons _ (.refl _)) ?_
    refine NX.then ?_
    refine Tr.ret' (RT.then ?_)
    refine res2 rfl rfl rfl ?_
    intro w hc
    cases hr
    exact ⟨_, rfl, (cX_nil hc)⟩
  · have hr := cond_f hb hr
    refine Tr.skip' ?_
    refine NX.then ?_
    refine Tr.seq ?_
    obtain ⟨hq5, hr⟩ := guard_some hr; replace hq5 := of_decide_eq_true hq5
    refine Tr.region_f (fun _ => false) ?_
    refine W.q rfl rfl rfl rfl (by decide) (Yd.mv rfl (.t rfl)) ?_
    refine W.q rfl rfl rfl rfl (by decide) (Yd.shlU (a := 1#32) rfl .c (.t rfl) hq5) ?_
    refine W.q rfl rfl rfl rfl (by decide) (Yd.subU (a := (1#32 <<< n_0.toNat)) (b := 1#32) rfl (.t rfl) .c) ?_
    refine W.q rfl rfl rfl rfl (by decide) (Yd.as rfl (.t rfl)) ?_
    refine W.end ?_
    refine NX.sub (env' := [(6, _), (8, _)]) ⟨rfl, rfl, trivial⟩ ?_
    refine NX.then ?_
    refine Tr.seq ?_
    refine Tr.region_f (fun _ => false) ?_
    refine W.q rfl rfl rfl rfl (by decide) (Yd.as rfl .c) ?_
    refine W.end ?_
    refine NX.sub (env' := [(6, _), (8, _), (9, _)]) ⟨rfl, rfl, rfl, trivial⟩ ?_
    refine NX.then ?_
    refine Tr.seq ?_
    refine Tr.addnil 3 1 ?_
    refine Tr.join (S := fun env x => ∃ l13 : List Int, ∃ v14 : Value, env = [(9, v14)] ∧ x = ⟨m, hownT 3 1 encI v14 l13 :: l⟩ ∧ order_Line_k15 l13 = some r) ?_ (fun hk16 => ?_)
    · rintro _ _ ⟨l13, v14, rfl, rfl, hr⟩
      unfold order_Line_k15 at hr
      try dsimp only at hr
      refine NX.then ?_
      refine Tr.seq ?_
      refine Tr.region_f (fun _ => false) ?_
      refine W.q rfl rfl rfl rfl (by decide) (Yd.mv rfl (.t rfl)) ?_
      refine W.q rfl rfl rfl rfl (by decide) (Yd.as rfl (.t rfl)) ?_
      refine W.q rfl rfl rfl rfl (by decide) (Yd.as rfl .c) ?_
      refine W.end ?_
      refine NX.sub (env' := [(4, _), (5, _)]) ⟨rfl, rfl, trivial⟩ ?_
      refine NX.then ?_
      refine Tr.ret' ?_
      refine res2 rfl rfl rfl ?_
      intro w hc
      cases hr
      exact ⟨_, rfl, hc⟩
    refine Tr.block ?_
    refine Tr.sub (env' := [(6, _), (8, _), (9, _)]) ⟨rfl, rfl, rfl, trivial⟩ ?_
    refine Tr.loop (S := fun n (z : (BitVec 32) × (List Int)) env x => match z with | (left_10, l11) => ∃ v12 : Value, env = [(6, v3), (8, .int .u32 (left_10.toNat : Int)), (9, v12)] ∧ x = ⟨m, hownT 3 1 encI v12 l11 :: hownT 37 1 encU v3 r1.1 :: l⟩ ∧ whileK (σ := (BitVec 32) × (List Int)) (fun s nx_ => order_Line_b17 r1 s.1 s.2 nx_) n (left_10, l11) = some r) _ (((1#32 <<< n_0.toNat) - 1#32), ([] : List Int)) ⟨_, rfl, rfl, hr⟩ ?_
    rintro n19 ⟨left_10, l11⟩ env x ⟨v12, rfl, rfl, hr⟩
    cases n19 with
    | zero => simp [whileK] at hr
    | succ n19 =>
      obtain ⟨nx18, hnx18, hr⟩ := whileK_succ hr
      try dsimp only at hr
      unfold order_Line_b17 at hr
      try dsimp only at hr
      refine Tr.seq ?_
      refine Tr.seq ?_
      refine Tr.region_f (fun _ => false) ?_
      refine W.q rfl rfl rfl rfl (by decide) (Yd.mv rfl (.t rfl)) ?_
      refine W.q rfl rfl rfl rfl (by decide) (Yd.neqU (a := left_10) (b := 0#32) rfl (.t rfl) .c) ?_
      refine W.end ?_
      refine NX.sub (env' := [(6, _), (8, _), (9, _), (26, _)]) ⟨rfl, rfl, rfl, rfl, trivial⟩ ?_
      refine NX.then ?_
      refine Tr.cond (.t rfl) (fun hb => ?_) (fun hb => ?_)
      · have hr := cond_t hb hr
        refine Tr.skip' ?_
        refine NX.then ?_
        refine Tr.block ?_
        refine Tr.seq ?_
        refine Tr.region_f (fun _ => false) ?_
        refine W.q rfl rfl rfl rfl (by decide) (Yd.mv rfl (.t rfl)) ?_
        refine W.q rfl rfl rfl rfl (by decide) (Yd.lenO (p := 1) rfl rfl Try.underlying31 (.t rfl)) ?_
        refine W.q rfl rfl rfl rfl (by decide) (Yd.mv rfl .c) ?_
        refine W.end ?_
        refine NX.sub (env' := [(6, _), (8, _), (9, _), (28, _), (29, _)]) ⟨rfl, rfl, rfl, rfl, rfl, trivial⟩ ?_
        refine NX.then ?_
        refine Tr.join (S := fun env x => ∃ left_28 : BitVec 32, ∃ l29 : List Int, ∃ v30 : Value, env = [(6, v3), (8, .int .u32 (left_28.toNat : Int)), (9, v30)] ∧ x = ⟨m, hownT 3 1 encI v30 l29 :: hownT 37 1 encU v3 r1.1 :: l⟩ ∧ order_Line_k31 nx18 left_28 l29 = some r) ?_ (fun hk32 => ?_)
        · rintro _ _ ⟨left_28, l29, v30, rfl, rfl, hr⟩
          unfold order_Line_k31 at hr
          try dsimp only at hr
          refine NX.block ?_
          refine NX.sub (env' := [(6, _), (8, _), (9, _)]) ⟨rfl, rfl, rfl, trivial⟩ ?_
          exact NX.again n19 (left_28, l29) (Nat.lt_succ_self _) ⟨_, rfl, rfl, ((hnx18 _).symm.trans hr)⟩
        refine Tr.lenO (pos := 1) rfl (fun hlen33 => ?_)
        refine Tr.block ?_
        refine Tr.sub (env' := [(6, _), (8, _), (9, _), (28, _), (29, _)]) ⟨rfl, rfl, rfl, rfl, rfl, trivial⟩ ?_
        refine Tr.loop (S := fun n (z : Int × (BitVec 32) × (List Int)) env x => match z with | (t_34, left_24, l26) => ∃ v27 : Value, env = [(6, v3), (8, .int .u32 (left_24.toNat : Int)), (9, v27), (28, .int .i64 ((r1.1.length : Int))), (29, .int .i64 t_34)] ∧ x = ⟨m, hownT 3 1 encI v27 l26 :: hownT 37 1 encU v3 r1.1 :: l⟩ ∧ n = ((r1.1.length : Int) - t_34).toNat ∧ 0 ≤ t_34 ∧ forK (σ := (BitVec 32) × (List Int)) (fun i s nx_ => order_Line_b35 r1 nx18 i s.1 s.2 nx_) (fun s => order_Line_k31 nx18 s.1 s.2) n t_34 (left_24, l26) = some r) _ ((0 : Int), left_10, l11) ⟨_, rfl, rfl, rfl, (by omega), hr⟩ ?_
        rintro n37 ⟨t_34, left_24, l26⟩ env x ⟨v27, rfl, rfl, hnt_34, h0t_34, hr⟩
        cases n37 with
        | zero =>
          simp only [forK] at hr
          refine Tr.seq ?_
          refine Tr.region_f (fun _ => false) ?_
          refine W.q rfl rfl rfl rfl (by decide) (Yd.lss rfl (.t rfl) (.t rfl)) ?_
          refine W.end ?_
          refine NX.sub (env' := [(6, _), (8, _), (9, _), (28, _), (29, _), (30, _)]) ⟨rfl, rfl, rfl, rfl, rfl, rfl, trivial⟩ ?_
          refine NX.then ?_
          refine Tr.seq ?_
          refine Tr.cond (.t rfl) (fun hb => ?_) (fun hb => ?_)
          · exact absurd (hb.symm.trans (fr_end hnt_34)) (by decide)
          ·
            refine Tr.exit' (EX.then (EX.then (EX.block ?_)))
            refine NX.sub (env' := [(6, _), (8, _), (9, _)]) ⟨rfl, rfl, rfl, trivial⟩ ?_
            exact hk32 _ _ ⟨_, _, _, rfl, rfl, hr⟩
        | succ n37 =>
          obtain ⟨nx36, hnx36, hr⟩ := forK_succ hr
          try dsimp only at hr
          unfold order_Line_b35 at hr
          try dsimp only at hr
          have hltt_34 := fr_bnd hnt_34
          refine Tr.seq ?_
          refine Tr.region_f (fun _ => false) ?_
          refine W.q rfl rfl rfl rfl (by decide) (Yd.lss rfl (.t rfl) (.t rfl)) ?_
          refine W.end ?_
          refine NX.sub (env' := [(6, _), (8, _), (9, _), (28, _), (29, _), (30, _)]) ⟨rfl, rfl, rfl, rfl, rfl, rfl, trivial⟩ ?_
          refine NX.then ?_
          refine Tr.seq ?_
          refine Tr.cond (.t rfl) (fun hb => ?_) (fun hb => ?_)
          rotate_left
          · exact absurd (hb.symm.trans (fr_go hnt_34)) (by decide)
          ·
            refine Tr.skip' ?_
            refine NX.then ?_
            refine Tr.seq ?_
            refine Tr.block ?_
            refine Tr.seq ?_
            refine Tr.region_f (fun _ => false) ?_
            refine W.q rfl rfl rfl rfl (by decide) (Yd.mv rfl (.t rfl)) ?_
            refine W.q rfl rfl rfl rfl (by decide) (Yd.as rfl (.t rfl)) ?_
            refine W.end ?_
            refine NX.sub (env' := [(6, _), (8, _), (9, _), (28, _), (29, _), (10, _)]) ⟨rfl, rfl, rfl, rfl, rfl, rfl, trivial⟩ ?_
            refine NX.then ?_
            refine Tr.seq ?_
            refine Tr.region_f (fun _ => false) ?_
            refine W.q rfl rfl rfl rfl (by decide) (Yd.mv rfl (.t rfl)) ?_
            refine W.q rfl rfl rfl rfl (by decide) (Yd.mv rfl (.t rfl)) ?_
            refine W.q rfl rfl rfl rfl (by decide) (Yd.shrU (a := left_24) rfl (.t rfl) (.t rfl) h0t_34) ?_
            refine W.q rfl rfl rfl rfl (by decide) (Yd.andU (a := (left_24 >>> t_34.toNat)) (b := 1#32) rfl (.t rfl) .c) ?_
            refine W.q rfl rfl rfl rfl (by decide) (Yd.eqlU (a := ((left_24 >>> t_34.toNat) &&& 1#32)) (b := 1#32) rfl (.t rfl) .c) ?_
            refine W.q rfl rfl rfl rfl (by decide) (Yd.as rfl (.t rfl)) ?_
            refine W.end ?_
            refine NX.sub (env' := [(6, _), (8, _), (9, _), (28, _), (29, _), (10, _), (11, _)]) ⟨rfl, rfl, rfl, rfl, rfl, rfl, rfl, trivial⟩ ?_
            refine NX.then ?_
            refine Tr.seq ?_
            refine Tr.seq ?_
            refine Tr.region_f (fun _ => false) ?_
            refine W.q rfl rfl rfl rfl (by decide) (Yd.mv rfl (.t rfl)) ?_
            refine W.q rfl rfl rfl rfl (by decide) (Yd.lenO (p := 1) rfl rfl Try.underlying31 (.t rfl)) ?_
            refine W.q rfl rfl rfl rfl (by decide) (Yd.mv rfl .c) ?_
            refine W.end ?_
            refine NX.sub (env' := [(6, _), (8, _), (9, _), (28, _), (29, _), (10, _), (11, _), (38, _), (39, _)]) ⟨rfl, rfl, rfl, rfl, rfl, rfl, rfl, rfl, rfl, trivial⟩ ?_
            refine NX.then ?_
            refine Tr.join (S := fun env x => ∃ free_42 : Bool, env = [(6, v3), (8, .int .u32 (left_24.toNat : Int)), (9, v27), (28, .int .i64 ((r1.1.length : Int))), (29, .int .i64 t_34), (10, .int .i64 t_34), (11, .bool free_42)] ∧ x = ⟨m, hownT 3 1 encI v27 l26 :: hownT 37 1 encU v3 r1.1 :: l⟩ ∧ order_Line_k43 nx18 t_34 left_24 l26 nx36 free_42 = some r) ?_ (fun hk44 => ?_)
            · rintro _ _ ⟨free_42, rfl, rfl, hr⟩
              unfold order_Line_k43 at hr
              try dsimp only at hr
              refine NX.then ?_
              refine Tr.seq ?_
              refine Tr.region_f (fun _ => false) ?_
              refine W.q rfl rfl rfl rfl (by decide) (Yd.mv rfl (.t rfl)) ?_
              refine W.end ?_
              refine NX.sub (env' := [(6, _), (8, _), (9, _), (28, _), (29, _), (10, _), (66, _)]) ⟨rfl, rfl, rfl, rfl, rfl, rfl, rfl, trivial⟩ ?_
              refine NX.then ?_
              refine Tr.cond (.t rfl) (fun hb => ?_) (fun hb => ?_)
              · have hr := cond_t hb hr
                refine Tr.seq ?_
                obtain ⟨hq48, hr⟩ := guard_some hr; replace hq48 := of_decide_eq_true hq48
                refine Tr.region_f (fun i => Nat.beq i 2 || Nat.beq i 3) ?_
                refine W.q rfl rfl rfl rfl (by decide) (Yd.mv rfl (.t rfl)) ?_
                refine W.q rfl rfl rfl rfl (by decide) (Yd.mv rfl (.t rfl)) ?_
                refine W.e rfl rfl rfl rfl (by decide) (Ef.bsT (enc := encI) (vs := [_]) (ys := [t_34]) (fun _ => rfl) IF3 rfl Try.underlying23 (by decide) rfl (.cons (.t rfl) .nil) rfl rfl (by decide)) ?_
                rintro v45 _ rfl
                refine ⟨.inl rfl, ?_⟩
                refine W.cast (m' := m) (l' := hownT 3 1 encI v45 _ :: hownT 3 1 encI v27 _ :: hownT 37 1 encU v3 _ :: l) rfl rfl ?_
                refine W.e rfl rfl rfl rfl (by decide) (Ef.apI (pos := 1) (enc := encI) (xs := l26) (ys := ([t_34] : List Int)) (fun _ => rfl) IF3 rfl rfl Try.underlying23 rfl (by decide) (.t rfl) (.t rfl) (Src.own (pos := 0) rfl) (fun _ => rfl) (by omega) (by omega)) ?_
                rintro v47 _ rfl
                refine ⟨.inl rfl, ?_⟩
                refine W.cast (m' := m) (l' := hownT 3 1 encI v45 _ :: hownT 3 1 encI v47 _ :: hownT 37 1 encU v3 _ :: l) rfl rfl ?_
                refine W.q rfl rfl rfl rfl (by decide) (Yd.as rfl (.t rfl)) ?_
                refine W.end ?_
                refine NX.sub (env' := [(6, _), (8, _), (9, _), (10, _)]) ⟨rfl, rfl, rfl, rfl, trivial⟩ ?_
                refine NX.drop (l' := hownT 3 1 encI v47 _ :: hownT 37 1 encU v3 _ :: l) (.cons _ (.cons_cons _ (.cons_cons _ (.refl _)))) ?_
                refine NX.then ?_
                refine Tr.seq ?_
                refine Tr.region_f (fun _ => false) ?_
                refine W.q rfl rfl rfl rfl (by decide) (Yd.mv rfl (.t rfl)) ?_
                refine W.q rfl rfl rfl rfl (by decide) (Yd.mv rfl (.t rfl)) ?_
                refine W.q rfl rfl rfl rfl (by decide) (Yd.shlU (a := 1#32) rfl .c (.t rfl) h0t_34) ?_
                refine W.q rfl rfl rfl rfl (by decide) (Yd.andnU (a := left_24) (b := (1#32 <<< t_34.toNat)) rfl (.t rfl) (.t rfl)) ?_
                refine W.q rfl rfl rfl rfl (by decide) (Yd.as rfl (.t rfl)) ?_
                refine W.end ?_
                refine NX.sub (env' := [(6, _), (8, _), (9, _)]) ⟨rfl, rfl, rfl, trivial⟩ ?_
                refine NX.then ?_
                refine Tr.exit' (EX.pass rfl (EX.then (EX.then (EX.block ?_))))
                refine NX.sub (env' := [(6, _), (8, _), (9, _)]) ⟨rfl, rfl, rfl, trivial⟩ ?_
                exact hk32 _ _ ⟨_, _, _, rfl, rfl, hr⟩
              · have hr := cond_f hb hr
                refine Tr.skip' ?_
                refine NX.block ?_
                refine NX.then ?_
                refine Tr.region_f (fun _ => false) ?_
                refine W.q rfl rfl rfl rfl (by decide) (Yd.add rfl (.t rfl) .c) ?_
                refine W.q rfl rfl rfl rfl (by decide) (Yd.mv rfl (.t rfl)) ?_
                refine W.end ?_
                refine NX.sub (env' := [(6, _), (8, _), (9, _), (28, _), (29, _)]) ⟨rfl, rfl, rfl, rfl, rfl, trivial⟩ ?_
                refine NX.sub (env' := [(6, _), (8, _), (9, _), (28, _), (29, _)]) ⟨rfl, rfl, rfl, rfl, rfl, trivial⟩ ?_
                have hw := w64_id (n := t_34 + 1) (by omega) (by omega)
                exact NX.again n37 (t_34 + 1, left_24, l26) (Nat.lt_succ_self _) ⟨_, (by rw [hw] <;> rfl), rfl, (fr_dec hnt_34), (by omega), ((hnx36 _).symm.trans hr)⟩
            refine Tr.lenO (pos := 1) rfl (fun hlen49 => ?_)
            refine Tr.block ?_
            refine Tr.sub (env' := [(6, _), (8, _), (9, _), (10, _), (11, _), (28, _), (29, _), (38, _), (39, _)]) ⟨rfl, rfl, rfl, rfl, rfl, rfl, rfl, rfl, rfl, trivial⟩ ?_
            refine Tr.loop (S := fun n (z : Int × Bool) env x => match z with | (t_50, free_40) => env = [(6, v3), (8, .int .u32 (left_24.toNat : Int)), (9, v27), (10, .int .i64 t_34), (11, .bool free_40), (28, .int .i64 ((r1.1.length : Int))), (29, .int .i64 t_34), (38, .int .i64 ((r1.1.length : Int))), (39, .int .i64 t_50)] ∧ x = ⟨m, hownT 3 1 encI v27 l26 :: hownT 37 1 encU v3 r1.1 :: l⟩ ∧ n = ((r1.1.length : Int) - t_50).toNat ∧ 0 ≤ t_50 ∧ forK (σ := Bool) (fun i s nx_ => order_Line_b51 r1 t_34 left_24 i s nx_) (fun s => order_Line_k43 nx18 t_34 left_24 l26 nx36 s) n t_50 free_40 = some r) _ ((0 : Int), (((left_24 >>> t_34.toNat) &&& 1#32) == 1#32)) ⟨rfl, rfl, rfl, (by omega), hr⟩ ?_
            rintro n53 ⟨t_50, free_40⟩ env x ⟨rfl, rfl, hnt_50, h0t_50, hr⟩
            cases n53 with
            | zero =>
              simp only [forK] at hr
              refine Tr.seq ?_
              refine Tr.region_f (fun _ => false) ?_
              refine W.q rfl rfl rfl rfl (by decide) (Yd.lss rfl (.t rfl) (.t rfl)) ?_
              refine W.end ?_
              refine NX.sub (env' := [(6, _), (8, _), (9, _), (10, _), (11, _), (28, _), (29, _), (38, _), (39, _), (40, _)]) ⟨rfl, rfl, rfl, rfl, rfl, rfl, rfl, rfl, rfl, rfl, trivial⟩ ?_
              refine NX.then ?_
              refine Tr.seq ?_
              refine Tr.cond (.t rfl) (fun hb => ?_) (fun hb => ?_)
              · exact absurd (hb.symm.trans (fr_end hnt_50)) (by decide)
              ·
                refine Tr.exit' (EX.then (EX.then (EX.block ?_)))
                refine NX.sub (env' := [(6, _), (8, _), (9, _), (28, _), (29, _), (10, _), (11, _)]) ⟨rfl, rfl, rfl, rfl, rfl, rfl, rfl, trivial⟩ ?_
                exact hk44 _ _ ⟨_, rfl, rfl, hr⟩
            | succ n53 =>
              obtain ⟨nx52, hnx52, hr⟩ := forK_succ hr
              try dsimp only at hr
              unfold order_Line_b51 at hr
              try dsimp only at hr
              have hltt_50 := fr_bnd hnt_50
              refine Tr.seq ?_
              refine Tr.region_f (fun _ => false) ?_
              refine W.q rfl rfl rfl rfl (by decide) (Yd.lss rfl (.t rfl) (.t rfl)) ?_
              refine W.end ?_
              refine NX.sub (env' := [(6, _), (8, _), (9, _), (10, _), (11, _), (28, _), (29, _), (38, _), (39, _), (40, _)]) ⟨rfl, rfl, rfl, rfl, rfl, rfl, rfl, rfl, rfl, rfl, trivial⟩ ?_
              refine NX.then ?_
              refine Tr.seq ?_
              refine Tr.cond (.t rfl) (fun hb => ?_) (fun hb => ?_)
              rotate_left
              · exact absurd (hb.symm.trans (fr_go hnt_50)) (by decide)
              ·
                refine Tr.skip' ?_
                refine NX.then ?_
                refine Tr.seq ?_
                refine Tr.block ?_
                refine Tr.seq ?_
                refine Tr.region_f (fun _ => false) ?_
                refine W.q rfl rfl rfl rfl (by decide) (Yd.mv rfl (.t rfl)) ?_
                refine W.q rfl rfl rfl rfl (by decide) (Yd.as rfl (.t rfl)) ?_
                refine W.end ?_
                refine NX.sub (env' := [(6, _), (8, _), (9, _), (10, _), (11, _), (28, _), (29, _), (38, _), (39, _), (12, _)]) ⟨rfl, rfl, rfl, rfl, rfl, rfl, rfl, rfl, rfl, rfl, trivial⟩ ?_
                refine NX.then ?_
                obtain ⟨ha54, hr⟩ := guard_some hr
                refine Tr.region_f (fun _ => false) ?_
                refine W.q rfl rfl rfl rfl (by decide) (Yd.mv rfl (.t rfl)) ?_
                refine W.q rfl rfl rfl rfl (by decide) (Yd.mv rfl (.t rfl)) ?_
                refine W.g rfl rfl rfl rfl rfl (.t rfl _) rfl (by decide) (fun hG => Yd.mv rfl (.t rfl)) ?_
                refine W.g rfl rfl rfl rfl rfl (.t rfl _) rfl (by decide) (fun hG => Yd.mv rfl (.t rfl)) ?_
                refine W.g rfl rfl rfl rfl rfl (.t rfl _) rfl (by decide) (fun hG => Yd.eql rfl (.g rfl hG) (.g rfl hG)) ?_
                refine W.g rfl rfl rfl rfl rfl (.t rfl _) rfl (by decide) (fun hG => Yd.mv rfl (.g rfl hG)) ?_
                refine W.g rfl rfl rfl rfl rfl (.g rfl _) rfl (by decide) (fun hG => Yd.mv rfl (.t rfl)) ?_
                refine W.g rfl rfl rfl rfl rfl (.g rfl _) rfl (by decide) (fun hG => Yd.mv rfl (.t rfl)) ?_
                refine W.g rfl rfl rfl rfl rfl (.g rfl _) rfl (by decide) (fun hG => Yd.shrU (a := left_24) rfl (.g rfl hG) (.g rfl hG) h0t_50) ?_
                refine W.g rfl rfl rfl rfl rfl (.g rfl _) rfl (by decide) (fun hG => Yd.andU (a := (left_24 >>> t_50.toNat)) (b := 1#32) rfl (.g rfl hG) .c) ?_
                refine W.g rfl rfl rfl rfl rfl (.g rfl _) rfl (by decide) (fun hG => Yd.eqlU (a := ((left_24 >>> t_50.toNat) &&& 1#32)) (b := 0#32) rfl (.g rfl hG) .c) ?_
                refine W.g rfl rfl rfl rfl rfl (.t rfl _) rfl (by decide) (fun hG => Yd.orG rfl (.g rfl hG) .c rfl rfl hG) ?_
                refine W.g rfl rfl rfl rfl rfl (.t rfl _) rfl (by decide) (fun hG => Yd.mv rfl (.g rfl hG)) ?_
                refine W.g rfl rfl rfl rfl rfl (.g rfl _) rfl (by decide) (fun hG => Yd.mv rfl (.t rfl)) ?_
                refine W.g rfl rfl rfl rfl rfl (.g rfl _) rfl (by decide) (fun hG => Yd.mv rfl (.t rfl)) ?_
                refine W.g rfl rfl rfl rfl rfl (.g rfl _) rfl (by decide) (fun hG => Yd.idxT (pos := 1) rfl (gd_get (d := (0#32)) ha54 hG) rfl Try.underlying31 SZ37 (.g rfl hG) (.g rfl hG)) ?_
                refine W.g rfl rfl rfl rfl rfl (.g rfl _) rfl (by decide) (fun hG => Yd.ldT (enc := encU) (n := 1) (pos := 1) (fun _ => rfl) rfl (gd_get (d := (0#32)) ha54 hG) rfl rfl ON37 (.g rfl hG)) ?_
                refine W.g rfl rfl rfl rfl rfl (.g rfl _) rfl (by decide) (fun hG => Yd.mv rfl (.t rfl)) ?_
                refine W.g rfl rfl rfl rfl rfl (.g rfl _) rfl (by decide) (fun hG => Yd.shrU (a := ((geti r1.1 t_50).getD (0#32))) rfl (.g rfl hG) (.g rfl hG) h0t_34) ?_
                refine W.g rfl rfl rfl rfl rfl (.g rfl _) rfl (by decide) (fun hG => Yd.andU (a := (((geti r1.1 t_50).getD (0#32)) >>> t_34.toNat)) (b := 1#32) rfl (.g rfl hG) .c) ?_
                refine W.g rfl rfl rfl rfl rfl (.g rfl _) rfl (by decide) (fun hG => Yd.eqlU (a := ((((geti r1.1 t_50).getD (0#32)) >>> t_34.toNat) &&& 1#32)) (b := 0#32) rfl (.g rfl hG) .c) ?_
                refine W.g rfl rfl rfl rfl rfl (.t rfl _) rfl (by decide) (fun hG => Yd.orG rfl (.g rfl hG) .c rfl rfl hG) ?_
                refine W.q rfl rfl rfl rfl (by decide) (Yd.and rfl (.t rfl) .c rfl rfl) ?_
                refine W.q rfl rfl rfl rfl (by decide) (Yd.as rfl (.t rfl)) ?_
                refine W.end ?_
                refine NX.sub (env' := [(6, _), (8, _), (9, _), (10, _), (11, _), (28, _), (29, _), (38, _), (39, _)]) ⟨rfl, rfl, rfl, rfl, rfl, rfl, rfl, rfl, rfl, trivial⟩ ?_
                refine NX.block ?_
                refine NX.then ?_
                refine Tr.region_f (fun _ => false) ?_
                refine W.q rfl rfl rfl rfl (by decide) (Yd.add rfl (.t rfl) .c) ?_
                refine W.q rfl rfl rfl rfl (by decide) (Yd.mv rfl (.t rfl)) ?_
                refine W.end ?_
                refine NX.sub (env' := [(6, _), (8, _), (9, _), (10, _), (11, _), (28, _), (29, _), (38, _), (39, _)]) ⟨rfl, rfl, rfl, rfl, rfl, rfl, rfl, rfl, rfl, trivial⟩ ?_
                refine NX.sub (env' := [(6, _), (8, _), (9, _), (10, _), (11, _), (28, _), (29, _), (38, _), (39, _)]) ⟨rfl, rfl, rfl, rfl, rfl, rfl, rfl, rfl, rfl, trivial⟩ ?_
                have hw := w64_id (n := t_50 + 1) (by omega) (by omega)
                exact NX.again n53 (t_50 + 1, (free_40 && (((t_50 == t_34) || (((left_24 >>> t_50.toNat) &&& 1#32) == 0#32)) || (((((geti r1.1 t_50).getD (0#32)) >>> t_34.toNat) &&& 1#32) == 0#32)))) (Nat.lt_succ_self _) ⟨(by rw [hw] <;> rfl), rfl, (fr_dec hnt_50), (by omega), ((hnx52 _).symm.trans hr)⟩
      · have hr := cond_f hb hr
        refine Tr.exit' (EX.then (EX.then (EX.block ?_)))
        refine NX.sub (env' := [(9, _)]) ⟨rfl, trivial⟩ ?_
        refine NX.drop (l' := hownT 3 1 encI v12 _ :: l) (.cons_cons _ (.cons _ (.refl _))) ?_
        exact hk16 _ _ ⟨_, _, rfl, rfl, hr⟩

def backI (xs : List Int) (j : Nat) : Int := (xs.length : Int) - 1 - j
def backV (xs : List Int) (j : Nat) : Int := xs[xs.length - 1 - j]?.getD 0
theorem back_of {xs : List Int} {j : Nat} {y : Int} (h : geti xs.reverse (j : Int) = some y) : backV xs j = y := by
  unfold geti at h
  rw [if_pos (by omega), Int.toNat_natCast] at h
  have hlt : j < xs.length := by simpa using (List.getElem?_eq_some_iff.1 h).1
  rw [List.getElem?_reverse hlt] at h
  unfold backV
  rw [h]; rfl
theorem back_at {xs : List Int} {j : Nat} (h : j < xs.length) : geti xs (backI xs j) = some (backV xs j) := by
  unfold backI backV
  rw [show (xs.length : Int) - 1 - j = ((xs.length - 1 - j : Nat) : Int) by omega]
  unfold geti
  rw [if_pos (by omega), Int.toNat_natCast]
  have : xs.length - 1 - j < xs.length := by omega
  simp [this]

set_option maxRecDepth 100000 in
set_option maxHeartbeats 4000000 in
theorem slices_Backward_c1_Sintint_it (w0 : World) (Bb : Nat) (u : Value) (xs : List Int) (tail : List HI) (L : Nat) (S : Nat → Snap → List HI → Prop)
    (hbox : ∀ j m it, S j m it → (∃ p : Nat, it[p]? = some (hcells Bb [u] 23)) ∧ RS rI m u xs)
    (hY : Yl Try.prog w0 tail L S (fun j => [.int .i64 (backI xs j), .int .i64 (backV xs j)]) xs.length) (m : Snap) (it : List HI) (h0 : S 0 m it) (w : World) (hc : cX w0 ⟨m, it ++ tail⟩ w) :
    Calls Try.prog 12 [.func (.yield L) #[] #[], bp Bb 0].toArray w fun e w' => (∃ v, e = .returned v) ∧ ∃ m' it', S xs.length m' it' ∧ cX w0 ⟨m', it' ++ tail⟩ w' := by
  have at_ : ∀ {it : List HI} {p : Nat} {y : HI}, it[p]? = some y → (it ++ tail)[p]? = some y := fun {it p y} h => by
    rw [List.getElem?_append_left (List.getElem?_eq_some_iff.1 h).1]; exact h
  obtain ⟨⟨p, hp0⟩, hx⟩ := hbox 0 m it h0
  have hp := at_ hp0
  have hlen := hx.2.1
  refine calls_of_Tr (N := 19) Try.func12 rfl hc rfl (Nat.le_of_ble_eq_true rfl) ?_
  refine Tr.seq ?_
  refine Tr.region_f (fun _ => false) ?_
  refine W.q rfl rfl rfl rfl (by decide) (Yd.ldB (pos := p) hp rfl rfl ON23 (.t rfl)) ?_
  refine W.q rfl rfl rfl rfl (by decide) (Yd.lenR hx rfl Try.underlying23 (.t rfl)) ?_
  refine W.q rfl rfl rfl rfl (by decide) (Yd.sub rfl (.t rfl) .c) ?_
  refine W.q rfl rfl rfl rfl (by decide) (Yd.as rfl (.t rfl)) ?_
  refine W.end ?_
  have e0 : w64 ((xs.length : Int) - 1) = backI xs 0 := by unfold backI; rw [w64_id (by omega) (by omega)]; omega
  refine NX.sub (env' := [(0, .func (.yield L) #[] #[]), (1, bp Bb 0), (3, .int .i64 (backI xs 0))]) ⟨rfl, rfl, by rw [← e0]; rfl, trivial⟩ ?_
  refine NX.then ?_
  refine Tr.block ?_
  refine Tr.loop (S := fun n (j : Nat) env x => ∃ m it, S j m it ∧ j ≤ xs.length ∧ n = xs.length - j ∧ env = [(0, .func (.yield L) #[] #[]), (1, bp Bb 0), (3, .int .i64 (backI xs j))] ∧ x = ⟨m, it ++ tail⟩) _ 0 ⟨m, it, h0, Nat.zero_le _, rfl, rfl, rfl⟩ ?_
  rintro n j env x ⟨m, it, hS, hj, hn, rfl, rfl⟩
  obtain ⟨⟨p, hp0⟩, hx⟩ := hbox j m it hS
  have hp := at_ hp0
  refine Tr.seq ?_
  refine Tr.seq ?_
  refine Tr.region_f (fun _ => false) ?_
  refine W.q rfl rfl rfl rfl (by decide) (Yd.mv rfl (.t rfl)) ?_
  refine W.q rfl rfl rfl rfl (by decide) (Yd.geq rfl (.t rfl) .c) ?_
  refine W.end ?_
  refine NX.sub (env' := [(0, _), (1, _), (3, _), (8, _)]) ⟨rfl, rfl, rfl, rfl, trivial⟩ ?_
  refine NX.then ?_
  refine Tr.cond (.t rfl) (fun hb => ?_) (fun hb => ?_)
  · have hlt : j < xs.length := by
      have := of_decide_eq_true hb
      unfold backI at this; omega
    have hy := back_at hlt
    refine Tr.skip' ?_
    refine NX.then ?_
    refine Tr.seq ?_
    refine Tr.block ?_
    refine Tr.seq ?_
    refine Tr.region_f (fun i => Nat.beq i 6) ?_
    refine W.q rfl rfl rfl rfl (by decide) (Yd.mv rfl (.t rfl)) ?_
    refine W.q rfl rfl rfl rfl (by decide) (Yd.mv rfl (.t rfl)) ?_
    refine W.q rfl rfl rfl rfl (by decide) (Yd.ldB (pos := p) hp rfl rfl ON23 (.t rfl)) ?_
    refine W.q rfl rfl rfl rfl (by decide) (Yd.mv rfl (.t rfl)) ?_
    refine W.q rfl rfl rfl rfl (by decide) (Yd.idxR hx hy rfl Try.underlying23 SZ3 (.t rfl) (.t rfl)) ?_
    refine W.q rfl rfl rfl rfl (by decide) (Yd.ldF hx (.refl _) hy rfl rfl ON3 (.t rfl)) ?_
    refine W.e rfl rfl rfl rfl (by decide) (Ef.yield hY hS hlt rfl (.t rfl) (.cons (.t rfl) (.cons (.t rfl) .nil))) ?_
    rintro _ _ ⟨rfl, m', it', hS', rfl⟩
    refine ⟨.inl rfl, ?_⟩
    refine W.q rfl rfl rfl rfl (by decide) (Yd.not rfl (.t rfl)) ?_
    refine W.end ?_
    refine NX.sub (env' := [(0, _), (1, _), (3, _), (18, _)]) ⟨rfl, rfl, rfl, rfl, trivial⟩ ?_
    refine NX.then ?_
    refine Tr.cond (.t rfl) (fun hb => ?_) (fun hb => ?_)
    · exact absurd hb (by decide)
    · refine Tr.skip' ?_
      refine NX.block ?_
      refine NX.then ?_
      refine Tr.region_f (fun _ => false) ?_
      refine W.q rfl rfl rfl rfl (by decide) (Yd.mv rfl (.t rfl)) ?_
      refine W.q rfl rfl rfl rfl (by decide) (Yd.sub rfl (.t rfl) .c) ?_
      refine W.q rfl rfl rfl rfl (by decide) (Yd.as rfl (.t rfl)) ?_
      refine W.end ?_
      have e1 : w64 (backI xs j - 1) = backI xs (j + 1) := by unfold backI; rw [w64_id (by omega) (by omega)]; omega
      refine NX.sub (env' := [(0, .func (.yield L) #[] #[]), (1, bp Bb 0), (3, .int .i64 (backI xs (j + 1)))]) ⟨rfl, rfl, by rw [← e1]; rfl, trivial⟩ ?_
      exact NX.again (n - 1) (j + 1) (by omega) ⟨m', it', hS', hlt, by omega, rfl, rfl⟩
  · have hge : j = xs.length := by
      have := of_decide_eq_false hb
      unfold backI at this; omega
    subst hge
    refine Tr.exit' (EX.then (EX.then (EX.block ?_)))
    refine NX.ret ?_
    refine res0 rfl ?_
    intro w hc
    exact ⟨⟨_, rfl⟩, m, it, hS, hc⟩


set_option maxRecDepth 100000 in
theorem slices_Backward_Sintint_mk (w0 : World) (m : Snap) (l : List HI) (u : Value) (xs : List Int) (hx : RS rI m u xs) (w : World) (hc : cX w0 ⟨m, l⟩ w) :
    Calls Try.prog 10 [u].toArray w fun e w' => ∃ b : Nat, e = .returned (.func (.func 12) #[] #[bp b 0]) ∧ cX w0 ⟨m, hcells b [u] 23 :: l⟩ w' := by
  refine calls_of_Tr (N := 4) Try.func10 rfl hc rfl (Nat.le_of_ble_eq_true rfl) ?_
  refine Tr.seq ?_
  refine Tr.region_f (fun i => Nat.beq i 0) ?_
  refine W.e rfl rfl rfl rfl (by decide) (Ef.bx (us := [u]) rfl (.t rfl) (RS.cells hx)) ?_
  rintro _ _ ⟨b1, rfl, rfl⟩
  refine ⟨.inl rfl, ?_⟩
  refine W.q rfl rfl rfl rfl (by decide) (Yd.as rfl .c) ?_
  refine W.end ?_
  refine NX.sub (env' := [(1, _)]) ⟨rfl, trivial⟩ ?_
  refine NX.then ?_
  refine Tr.seq ?_
  refine Tr.region_f (fun _ => false) ?_
  refine W.q rfl rfl rfl rfl (by decide) (Yd.mkf rfl (.cons (.t rfl) .nil)) ?_
  refine W.q rfl rfl rfl rfl (by decide) (Yd.as rfl (.t rfl)) ?_
  refine W.end ?_
  refine NX.sub (env' := [(2, _)]) ⟨rfl, trivial⟩ ?_
  refine NX.then ?_
  refine Tr.ret' ?_
  refine res1 rfl rfl ?_
  intro w hc
  exact ⟨_, rfl, hc⟩

def order_Chain_k42 (c26 : Int) (nx30 : ((Int × (List Int)) → Option ((List Int) × Int))) (y32 : Int) (l40 : List Int) : Option ((List Int) × Int) :=
  (geti l40 y32).bind fun y44 =>
  (geti ((l40.set y32.toNat ((w64 (y44 + (1 : Int)))))) y32).bind fun y46 =>
  nx30 ((if y46 > c26 then y46 else c26), (l40.set y32.toNat ((w64 (y44 + (1 : Int))))))

def order_Chain_b50 (r5 : (List (BitVec 32)) × Int) (y32 : Int) (t_49 : Int) (l38 : List Int) (nx51 : (List Int) → Option ((List Int) × Int)) : Option ((List Int) × Int) :=
  bif (!((t_49 != y32) == true) || (geti r5.1 y32).isSome) then
  (bif ((t_49 != y32) && (((((geti r5.1 y32).getD (0#32)) >>> t_49.toNat) &&& 1#32) == 1#32)) then
  (geti l38 y32).bind fun y54 =>
  (geti l38 t_49).bind fun y56 =>
  nx51 (l38.set y32.toNat ((if y56 > y54 then y56 else y54)))
  else
  nx51 l38) else none

def order_Chain_b29 (r1 : (List Int) × Int) (r5 : (List (BitVec 32)) × Int) (i_31 : Int) (c26 : Int) (l27 : List Int) (nx30 : (Int × (List Int)) → Option ((List Int) × Int)) : Option ((List Int) × Int) :=
  (geti r1.1.reverse i_31).bind fun y32 =>
  forK (σ := (List Int)) (fun i s nx_ => order_Chain_b50 r5 y32 i s nx_) (fun s => order_Chain_k42 c26 nx30 y32 s) ((r5.1.length : Int) - (0 : Int)).toNat (0 : Int) l27

def order_Chain_k69 (l66 : List Int) : Option ((List Int) × Int) :=
  some ((l66, (0 : Int)))

def order_Chain_k82 (c65 : Int) (nx72 : (((List Int) × Int) → Option ((List Int) × Int))) (l80 : List Int) : Option ((List Int) × Int) :=
  nx72 (l80, (w64 (c65 - (1 : Int))))

def order_Chain_b86 (r5 : (List (BitVec 32)) × Int) (l27 : List Int) (c65 : Int) (nx72 : (((List Int) × Int) → Option ((List Int) × Int))) (t_85 : Int) (l78 : List Int) (nx87 : (List Int) → Option ((List Int) × Int)) : Option ((List Int) × Int) :=
  (geti l27 t_85).bind fun y89 =>
  bif (!(((y89 == c65) == true) && (((l78.length : Int) == (0 : Int)) == false)) || (geti l78 ((w64 ((l78.length : Int) - (1 : Int))))).isSome) then
  bif (!(((y89 == c65) == true) && (((l78.length : Int) == (0 : Int)) == false)) || (geti r5.1 (((geti l78 ((w64 ((l78.length : Int) - (1 : Int))))).getD (0 : Int)))).isSome) then
  (bif ((y89 == c65) && (((l78.length : Int) == (0 : Int)) || (((((geti r5.1 (((geti l78 ((w64 ((l78.length : Int) - (1 : Int))))).getD (0 : Int)))).getD (0#32)) >>> t_85.toNat) &&& 1#32) == 1#32))) then
  bif decide (l78.length + (([t_85] : List Int)).length ≤ 17592186044416) then
  order_Chain_k82 c65 nx72 ((l78 ++ ([t_85] : List Int))) else none
  else
  nx87 l78) else none else none

def order_Chain_b71 (r5 : (List (BitVec 32)) × Int) (l27 : List Int) (l63 : List Int) (c65 : Int) (nx72 : ((List Int) × Int) → Option ((List Int) × Int)) : Option ((List Int) × Int) :=
  (bif (decide (c65 > (0 : Int))) then
  forK (σ := (List Int)) (fun i s nx_ => order_Chain_b86 r5 l27 c65 nx72 i s nx_) (fun s => order_Chain_k82 c65 nx72 s) ((r5.1.length : Int) - (0 : Int)).toNat (0 : Int) l63
  else
  order_Chain_k69 l63)

def order_Chain_k58 (fuel : Nat) (r5 : (List (BitVec 32)) × Int) (c26 : Int) (l27 : List Int) : Option ((List Int) × Int) :=
  whileK (σ := (List Int) × Int) (fun s nx_ => order_Chain_b71 r5 l27 s.1 s.2 nx_) fuel ((([] : List Int)), c26)

def order_Chain (fuel : Nat) (n_0 : Int) (pairs_1 : List (Int × Int)) : Option ((List Int) × Int) :=
  (order_Line fuel n_0 pairs_1).bind fun r1 =>
  (bif (r1.2 != (0 : Int)) then
  some (([], r1.2))
  else
  (order_Table n_0 pairs_1).bind fun r5 =>
  bif decide (0 ≤ n_0 ∧ n_0 ≤ 1048576) then
  forK (σ := Int × (List Int)) (fun i s nx_ => order_Chain_b29 r1 r5 i s.1 s.2 nx_) (fun s => order_Chain_k58 fuel r5 s.1 s.2) r1.1.length (0 : Int) (((0 : Int)), ((List.replicate n_0.toNat (0 : Int)))) else none)

set_option maxRecDepth 100000 in
set_option maxHeartbeats 4000000 in
theorem order_Chain_ok (w0 : World) (m : Snap) (l : List HI) (fuel : Nat) (n_0 : Int) (upairs_1 : Value) (pairs_1 : List (Int × Int)) (hpairs_1 : RS rP m upairs_1 pairs_1) (r : (List Int) × Int) (hr : order_Chain fuel n_0 pairs_1 = some r) (w : World) (hc : cX w0 ⟨m, l⟩ w) :
    Calls Try.prog 4 [.int .i64 n_0, upairs_1].toArray w fun e w' => ∃ z0 : Value, e = .returned (.tuple #[z0, .int .i64 r.2]) ∧ cX w0 ⟨m, hownT 3 1 encI z0 r.1 :: l⟩ w' := by
  unfold order_Chain at hr
  refine calls_of_TrM (N := 4218) Try.func4 rfl hc rfl (Nat.le_of_ble_eq_true rfl) ?_
  refine Tr.seq ?_
  refine Tr.region_f (fun _ => false) ?_
  refine W.q rfl rfl rfl rfl (by decide) (Yd.as rfl .c) ?_
  refine W.q rfl rfl rfl rfl (by decide) (Yd.as rfl .c) ?_
  refine W.end ?_
  refine NX.sub (env' := [(0, _), (1, _)]) ⟨rfl, rfl, trivial⟩ ?_
  refine NX.then ?_
  refine Tr.seq ?_
  obtain ⟨r1, hr2, hr⟩ := bind_some hr
  refine Tr.region_f (fun i => Nat.beq i 2) ?_
  refine W.q rfl rfl rfl rfl (by decide) (Yd.mv rfl (.t rfl)) ?_
  refine W.q rfl rfl rfl rfl (by decide) (Yd.mv rfl (.t rfl)) ?_
  refine W.e rfl rfl rfl rfl (by decide) (Ef.call (R := fun z x' => ∃ v3 : Value, z = .tuple #[v3, .int .i64 r1.2] ∧ x' = ⟨m, hownT 3 1 encI v3 r1.1 :: l⟩) rfl Try.func8 rfl rfl (.cons (.t rfl) (.cons (.t rfl) .nil)) (fun w hw => (order_Line_ok w0 _ _ fuel n_0 _ _ hpairs_1 _ hr2 w hw).mono fun e w' ⟨v3, he, hc'⟩ => ⟨_, _, he, ⟨v3, rfl, rfl⟩, hc'⟩)) ?_
  rintro _ _ ⟨v3, rfl, rfl⟩
  refine ⟨.inl rfl, ?_⟩
  refine W.cast (m' := m) (l' := hownT 3 1 encI v3 _ :: l) rfl rfl ?_
  refine W.q rfl rfl rfl rfl (by decide) (Yd.mv rfl (.t rfl)) ?_
  refine W.q rfl rfl rfl rfl (by decide) (Yd.ext rfl (.t rfl) rfl) ?_
  refine W.q rfl rfl rfl rfl (by decide) (Yd.ext rfl (.t rfl) rfl) ?_
  refine W.q rfl rfl rfl rfl (by decide) (Yd.as rfl (.t rfl)) ?_
  refine W.q rfl rfl rfl rfl (by decide) (Yd.as rfl (.t rfl)) ?_
  refine W.end ?_
  refine NX.sub (env' := [(0, _), (1, _), (6, _), (7, _)]) ⟨rfl, rfl, rfl, rfl, trivial⟩ ?_
  refine NX.then ?_
  refine Tr.seq ?_
  refine Tr.seq ?_
  refine Tr.region_f (fun _ => false) ?_
  refine W.q rfl rfl rfl rfl (by decide) (Yd.mv rfl (.t rfl)) ?_
  refine W.q rfl rfl rfl rfl (by decide) (Yd.neq rfl (.t rfl) .c) ?_
  refine W.end ?_
  refine NX.sub (env' := [(0, _), (1, _), (6, _), (7, _), (24, _)]) ⟨rfl, rfl, rfl, rfl, rfl, trivial⟩ ?_
  refine NX.then ?_
  refine Tr.cond (.t rfl) (fun hb => ?_) (fun hb => ?_)
  · have hr := cond_t hb hr
    refine Tr.seq ?_
    refine Tr.region_f (fun _ => false) ?_
    refine W.q rfl rfl rfl rfl (by decide) (Yd.mv rfl (.t rfl)) ?_
    refine W.q rfl rfl rfl rfl (by decide) (Yd.as rfl .c) ?_
    refine W.q rfl rfl rfl rfl (by decide) (Yd.as rfl (.t rfl)) ?_
    refine W.end ?_
    refine NX.sub (env' := [(4, _), (5, _)]) ⟨rfl, rfl, trivial⟩ ?_
    refine NX.drop (l' := l) (.cons _ (.refl _)) ?_
    refine NX.then ?_
    refine Tr.ret' (RT.then ?_)
    refine res2M rfl rfl rfl ?_
    intro w hc
    cases hr
    exact ⟨_, rfl, (cX_nil hc)⟩
  · have hr := cond_f hb hr
    refine Tr.skip' ?_
    refine NX.then ?_
    refine Tr.seq ?_
    obtain ⟨r5, hr6, hr⟩ := bind_some hr
    refine Tr.region_f (fun i => Nat.beq i 2 || Nat.beq i 6 || Nat.beq i 7) ?_
    refine W.q rfl rfl rfl rfl (by decide) (Yd.mv rfl (.t rfl)) ?_
    refine W.q rfl rfl rfl rfl (by decide) (Yd.mv rfl (.t rfl)) ?_
    refine W.e rfl rfl rfl rfl (by decide) (Ef.call (R := fun z x' => ∃ v7 : Value, z = .tuple #[v7, .int .i64 r5.2] ∧ x' = ⟨m, hownT 37 1 encU v7 r5.1 :: hownT 3 1 encI v3 r1.1 :: l⟩) rfl Try.func9 rfl rfl (.cons (.t rfl) (.cons (.t rfl) .nil)) (fun w hw => (order_Table_ok w0 _ _ n_0 _ _ hpairs_1 _ hr6 w hw).mono fun e w' ⟨v7, he, hc'⟩ => ⟨_, _, he, ⟨v7, rfl, rfl⟩, hc'⟩)) ?_
    rintro _ _ ⟨v7, rfl, rfl⟩
    refine ⟨.inl rfl, ?_⟩
    refine W.cast (m' := m) (l' := hownT 37 1 encU v7 _ :: hownT 3 1 encI v3 _ :: l) rfl rfl ?_
    refine W.q rfl rfl rfl rfl (by decide) (Yd.mv rfl (.t rfl)) ?_
    refine W.q rfl rfl rfl rfl (by decide) (Yd.ext rfl (.t rfl) rfl) ?_
    refine W.q rfl rfl rfl rfl (by decide) (Yd.ext rfl (.t rfl) rfl) ?_
    refine W.e rfl rfl rfl rfl (by decide) (Ef.al rfl ZR31 rfl) ?_
    rintro _ _ ⟨b9, rfl, rfl⟩
    refine ⟨.inl rfl, ?_⟩
    refine W.cast (m' := m) (l' := hcells b9 [_] 31 :: hownT 37 1 encU v7 _ :: hownT 3 1 encI v3 _ :: l) rfl rfl ?_
    refine W.s rfl rfl rfl rfl (Ef.stBo (pos := 0) (pos2 := 1) (cs' := [_]) rfl rfl rfl (.t rfl) (.t rfl) SZ31 (Nat.le_of_ble_eq_true rfl) rfl) ?_
    rintro _ _ ⟨rfl, rfl⟩
    refine ⟨.inl rfl, ?_⟩
    refine W.cast (m' := m) (l' := hcells b9 [_] 31 :: hownT 37 1 encU v7 _ :: hownT 3 1 encI v3 _ :: l) rfl rfl ?_
    refine W.q rfl rfl rfl rfl (by decide) (Yd.as rfl (.t rfl)) ?_
    refine W.end ?_
    refine NX.sub (env' := [(0, _), (6, _), (8, _)]) ⟨rfl, rfl, rfl, trivial⟩ ?_
    refine NX.then ?_
    refine Tr.seq ?_
    obtain ⟨hq11, hr⟩ := guard_some hr; replace hq11 := of_decide_eq_true hq11
    refine Tr.region_f (fun i => Nat.beq i 1 || Nat.beq i 2 || Nat.beq i 3) ?_
    refine W.q rfl rfl rfl rfl (by decide) (Yd.mv rfl (.t rfl)) ?_
    refine W.e rfl rfl rfl rfl (by decide) (Ef.mkT (enc := encI) (0 : Int) IF3 rfl Try.underlying23 rfl rfl (by decide) (.t rfl) (.t rfl) (by omega) (by omega) (by omega)) ?_
    rintro v12 _ rfl
    refine ⟨.inl rfl, ?_⟩
    refine W.cast (m' := m) (l' := hownT 3 1 encI v12 _ :: hcells b9 [_] 31 :: hownT 37 1 encU v7 _ :: hownT 3 1 encI v3 _ :: l) rfl rfl ?_
    refine W.e rfl rfl rfl rfl (by decide) (Ef.al rfl ZR23 rfl) ?_
    rintro _ _ ⟨b14, rfl, rfl⟩
    refine ⟨.inl rfl, ?_⟩
    refine W.cast (m' := m) (l' := hcells b14 [_] 23 :: hownT 3 1 encI v12 _ :: hcells b9 [_] 31 :: hownT 37 1 encU v7 _ :: hownT 3 1 encI v3 _ :: l) rfl rfl ?_
    refine W.s rfl rfl rfl rfl (Ef.stBo (pos := 0) (pos2 := 1) (cs' := [_]) rfl rfl rfl (.t rfl) (.t rfl) SZ23 (Nat.le_of_ble_eq_true rfl) rfl) ?_
    rintro _ _ ⟨rfl, rfl⟩
    refine ⟨.inl rfl, ?_⟩
    refine W.cast (m' := m) (l' := hcells b14 [_] 23 :: hownT 3 1 encI v12 _ :: hcells b9 [_] 31 :: hownT 37 1 encU v7 _ :: hownT 3 1 encI v3 _ :: l) rfl rfl ?_
    refine W.end ?_
    refine NX.sub (env' := [(6, _), (8, _), (10, _)]) ⟨rfl, rfl, rfl, trivial⟩ ?_
    refine NX.then ?_
    refine Tr.seq ?_
    refine Tr.region_f (fun i => Nat.beq i 0 || Nat.beq i 1) ?_
    refine W.e rfl rfl rfl rfl (by decide) (Ef.al rfl ZR3 rfl) ?_
    rintro _ _ ⟨b16, rfl, rfl⟩
    refine ⟨.inl rfl, ?_⟩
    refine W.cast (m' := m) (l' := hcells b16 [_] 3 :: hcells b14 [_] 23 :: hownT 3 1 encI v12 _ :: hcells b9 [_] 31 :: hownT 37 1 encU v7 _ :: hownT 3 1 encI v3 _ :: l) rfl rfl ?_
    refine W.s rfl rfl rfl rfl (Ef.stB (pos := 0) (us := [_]) (cs' := [_]) rfl rfl (.t rfl) .c SZ3 rfl rfl rfl (Nat.le_of_ble_eq_true rfl) rfl) ?_
    rintro _ _ ⟨rfl, rfl⟩
    refine ⟨.inl rfl, ?_⟩
    refine W.cast (m' := m) (l' := hcells b16 [_] 3 :: hcells b14 [_] 23 :: hownT 3 1 encI v12 _ :: hcells b9 [_] 31 :: hownT 37 1 encU v7 _ :: hownT 3 1 encI v3 _ :: l) rfl rfl ?_
    refine W.end ?_
    refine NX.sub (env' := [(6, _), (8, _), (10, _), (11, _)]) ⟨rfl, rfl, rfl, rfl, trivial⟩ ?_
    refine NX.then ?_
    refine Tr.seq ?_
    refine Tr.seq ?_
    refine Tr.freezeT (enc := encI) (n := 1) (pos := 5) (xs := r1.1) (fun _ => rfl) rfl (fun m18 hsm18 hu19 => ?_)
    have hpairs_1 := hpairs_1.mono hsm18
    refine Tr.cast (m' := m18) (l' := hcells b16 [_] 3 :: hcells b14 [_] 23 :: hownT 3 1 encI v12 _ :: hcells b9 [_] 31 :: hownT 37 1 encU v7 _ :: l) rfl rfl ?_
    refine Tr.region_f (fun i => Nat.beq i 1) ?_
    refine W.q rfl rfl rfl rfl (by decide) (Yd.mv rfl (.t rfl)) ?_
    refine W.e rfl rfl rfl rfl (by decide) (Ef.call (R := fun z x' => ∃ b20 : Nat, z = .func (.func 12) #[] #[bp b20 0] ∧ x' = ⟨m18, hcells b20 [v3] 23 :: hcells b16 [.int .i64 ((0 : Int))] 3 :: hcells b14 [v12] 23 :: hownT 3 1 encI v12 ((List.replicate n_0.toNat (0 : Int))) :: hcells b9 [v7] 31 :: hownT 37 1 encU v7 r5.1 :: l⟩) rfl Try.func10 rfl rfl (.cons (.t rfl) .nil) (fun w hw => (slices_Backward_Sintint_mk w0 _ _ _ _ hu19 w hw).mono fun e w' ⟨b, he, hc'⟩ => ⟨_, _, he, ⟨b, rfl, rfl⟩, hc'⟩)) ?_
    rintro _ _ ⟨b20, rfl, rfl⟩
    refine ⟨.inl rfl, ?_⟩
    refine W.cast (m' := m18) (l' := hcells b20 [_] 23 :: hcells b16 [_] 3 :: hcells b14 [_] 23 :: hownT 3 1 encI v12 _ :: hcells b9 [_] 31 :: hownT 37 1 encU v7 _ :: l) rfl rfl ?_
    refine W.end ?_
    refine NX.sub (env' := [(8, _), (10, _), (11, _), (35, _)]) ⟨rfl, rfl, rfl, rfl, trivial⟩ ?_
    refine NX.then ?_
    refine Tr.block ?_
    refine Tr.sub (env' := [(8, _), (10, _), (11, _), (35, _)]) ⟨rfl, rfl, rfl, rfl, trivial⟩ ?_
    refine Tr.rangeFunc2 (l := l) (it0 := [hcells b20 [v3] 23, hcells b16 [.int .i64 ((0 : Int))] 3, hcells b14 [v12] 23, hownT 3 1 encI v12 ((List.replicate n_0.toNat (0 : Int))), hcells b9 [v7] 31, hownT 37 1 encU v7 r5.1]) (m0 := m18) (sz := 122) (caps := [bp b20 0]) (S := fun j m2 it2 => ∃ c26 : Int, ∃ l27 : List Int, ∃ v28 : Value, m18 = m2 ∧ it2 = [hcells b20 [v3] 23, hcells b16 [.int .i64 c26] 3, hcells b14 [v28] 23, hownT 3 1 encI v28 l27, hcells b9 [v7] 31, hownT 37 1 encU v7 r5.1] ∧ ∃ n_ : Nat, n_ = r1.1.length - j ∧ forK (σ := Int × (List Int)) (fun i s nx_ => order_Chain_b29 r1 r5 i s.1 s.2 nx_) (fun s => order_Chain_k58 fuel r5 s.1 s.2) n_ (j : Int) (c26, l27) = some r) (vs := fun j => (.int .i64 (backI r1.1 j), .int .i64 (backV r1.1 j))) (len := r1.1.length) (env1 := fun j => [(13, .int .i64 (backV r1.1 j)), (8, bp b9 0), (10, bp b14 0), (11, bp b16 0), (35, .func (.func 12) #[] #[bp b20 0])]) (by decide) (by decide) (by decide) rfl Try.func12 rfl rfl (fun tail L hY m2 it2 h0 w2 hc2 => slices_Backward_c1_Sintint_it w0 b20 v3 r1.1 tail L _ ?_ hY m2 it2 h0 w2 hc2) ?_ ?_ ?_ ?_
    · rintro j m2 it2 ⟨c26, l27, v28, rfl, rfl, n_, hn_, hr⟩
      exact ⟨⟨0, rfl⟩, hu19⟩
    · exact ⟨_, _, _, rfl, rfl, _, rfl, hr⟩
    · intro j x
      refine Tr.region_f (fun _ => false) ?_
      refine W.q rfl rfl rfl rfl (by decide) (Yd.as rfl (.t rfl)) ?_
      exact W.nil fun a hf w hc => ⟨rfl, hf.sub ⟨rfl, rfl, rfl, rfl, rfl, trivial⟩, hc⟩
    · rintro j m2 it2 l2 hj ⟨c26, l27, v28, rfl, rfl, n_, hn_, hr⟩
      obtain ⟨n1, rfl⟩ : ∃ k, n_ = k + 1 := ⟨n_ - 1, by omega⟩
      obtain ⟨nx30, hnx30, hr⟩ := forK_succ hr
      try dsimp only at hr
      unfold order_Chain_b29 at hr
      try dsimp only at hr
      obtain ⟨y32, hy33, hr⟩ := bind_some hr
      have hv := back_of hy33
      refine Tr.cast (m' := m18) (l' := hcells b20 [v3] 23 :: hcells b16 [.int .i64 c26] 3 :: hcells b14 [v28] 23 :: hownT 3 1 encI v28 l27 :: hcells b9 [v7] 31 :: hownT 37 1 encU v7 r5.1 :: l2) rfl rfl ?_
      refine Tr.sub (env' := [(13, .int .i64 y32), (8, _), (10, _), (11, _), (35, _)]) ⟨by rw [← hv]; rfl, rfl, rfl, rfl, rfl, trivial⟩ ?_
      refine Tr.block ?_
      refine Tr.seq ?_
      refine Tr.seq ?_
      refine Tr.region_f (fun _ => false) ?_
      refine W.q rfl rfl rfl rfl (by decide) (Yd.ldB (pos := 4) rfl rfl rfl ON31 (.t rfl)) ?_
      refine W.q rfl rfl rfl rfl (by decide) (Yd.lenO (p := 5) rfl rfl Try.underlying31 (.t rfl)) ?_
      refine W.q rfl rfl rfl rfl (by decide) (Yd.mv rfl .c) ?_
      refine W.end ?_
      refine NX.sub (env' := [(13, _), (8, _), (10, _), (11, _), (39, _), (40, _)]) ⟨rfl, rfl, rfl, rfl, rfl, rfl, trivial⟩ ?_
      refine NX.then ?_
      refine Tr.join (S := fun env x => ∃ l40 : List Int, ∃ v41 : Value, env = [(13, .int .i64 y32), (10, bp b14 0), (11, bp b16 0)] ∧ x = ⟨m18, hcells b20 [v3] 23 :: hcells b16 [.int .i64 c26] 3 :: hcells b14 [v41] 23 :: hownT 3 1 encI v41 l40 :: hcells b9 [v7] 31 :: hownT 37 1 encU v7 r5.1 :: l2⟩ ∧ order_Chain_k42 c26 nx30 y32 l40 = some r) ?_ (fun hk43 => ?_)
      · rintro _ _ ⟨l40, v41, rfl, rfl, hr⟩
        unfold order_Chain_k42 at hr
        try dsimp only at hr
        refine NX.then ?_
        refine Tr.seq ?_
        obtain ⟨y44, hy45, hr⟩ := bind_some hr
        refine Tr.region_f (fun i => Nat.beq i 6) ?_
        refine W.q rfl rfl rfl rfl (by decide) (Yd.ldB (pos := 2) rfl rfl rfl ON23 (.t rfl)) ?_
        refine W.q rfl rfl rfl rfl (by decide) (Yd.mv rfl (.t rfl)) ?_
        refine W.q rfl rfl rfl rfl (by decide) (Yd.idxT (pos := 3) rfl hy45 rfl Try.underlying23 SZ3 (.t rfl) (.t rfl)) ?_
        refine W.q rfl rfl rfl rfl (by decide) (Yd.ldT (enc := encI) (n := 1) (pos := 3) (fun _ => rfl) rfl hy45 rfl rfl ON3 (.t rfl)) ?_
        refine W.q rfl rfl rfl rfl (by decide) (Yd.add rfl (.t rfl) .c) ?_
        refine W.q rfl rfl rfl rfl (by decide) (Yd.idxT (pos := 3) rfl hy45 rfl Try.underlying23 SZ3 (.t rfl) (.t rfl)) ?_
        refine W.s rfl rfl rfl rfl (Ef.stT (enc := encI) (n := 1) (pos := 3) (y := (w64 (y44 + (1 : Int)))) (us := [_]) (fun _ => rfl) rfl hy45 rfl (.t rfl) (.t rfl) SZ3 rfl rfl rfl (by decide)) ?_
        rintro _ _ ⟨rfl, rfl⟩
        refine ⟨.inl rfl, ?_⟩
        refine W.cast (m' := m18) (l' := hcells b20 [_] 23 :: hcells b16 [_] 3 :: hcells b14 [_] 23 :: hownT 3 1 encI v41 _ :: hcells b9 [_] 31 :: hownT 37 1 encU v7 _ :: l2) rfl rfl ?_
        refine W.end ?_
        refine NX.sub (env' := [(13, _), (10, _), (11, _)]) ⟨rfl, rfl, rfl, trivial⟩ ?_
        refine NX.then ?_
        obtain ⟨y46, hy47, hr⟩ := bind_some hr
        refine Tr.region_x (fun i => Nat.beq i 6) (fun i => Nat.beq i 6) (Ord.of [0, 1, 2, 3, 4, 5, 6]) FM (by kernel_rfl) ?_
        refine W.q rfl rfl rfl rfl (by decide) (Yd.ldB (pos := 1) rfl rfl rfl ON3 (.t rfl)) ?_
        refine W.q rfl rfl rfl rfl (by decide) (Yd.ldB (pos := 2) rfl rfl rfl ON23 (.t rfl)) ?_
        refine W.q rfl rfl rfl rfl (by decide) (Yd.mv rfl (.t rfl)) ?_
        refine W.q rfl rfl rfl rfl (by decide) (Yd.idxT (pos := 3) rfl hy47 rfl Try.underlying23 SZ3 (.t rfl) (.t rfl)) ?_
        refine W.q rfl rfl rfl rfl (by decide) (Yd.ldT (enc := encI) (n := 1) (pos := 3) (fun _ => rfl) rfl hy47 rfl rfl ON3 (.t rfl)) ?_
        refine W.q rfl rfl rfl rfl (by decide) (Yd.max2 rfl (.t rfl) (.t rfl)) ?_
        refine W.s rfl rfl rfl rfl (Ef.stB (pos := 1) (us := [_]) (cs' := [_]) rfl rfl (.t rfl) (.t rfl) SZ3 rfl rfl rfl (Nat.le_of_ble_eq_true rfl) rfl) ?_
        rintro _ _ ⟨rfl, rfl⟩
        refine ⟨.inl rfl, ?_⟩
        refine W.cast (m' := m18) (l' := hcells b20 [_] 23 :: hcells b16 [_] 3 :: hcells b14 [_] 23 :: hownT 3 1 encI v41 _ :: hcells b9 [_] 31 :: hownT 37 1 encU v7 _ :: l2) rfl rfl ?_
        refine W.end ?_
        refine NX.sub (env' := []) trivial ?_
        refine NX.block ?_
        refine NX.sub (env' := []) trivial ?_
        refine NX.sub (env' := []) trivial ?_
        exact NX.rd (m := m18) (it := [hcells b20 [_] 23, hcells b16 [_] 3, hcells b14 [_] 23, hownT 3 1 encI v41 _, hcells b9 [_] 31, hownT 37 1 encU v7 _]) (l := l2) ⟨((if y46 > c26 then y46 else c26)), ((l40.set y32.toNat ((w64 (y44 + (1 : Int)))))), _, rfl, rfl, n1, by omega, (hnx30 _).symm.trans hr⟩
      refine Tr.lenO (pos := 5) rfl (fun hlen48 => ?_)
      refine Tr.block ?_
      refine Tr.sub (env' := [(8, _), (10, _), (11, _), (13, _), (39, _), (40, _)]) ⟨rfl, rfl, rfl, rfl, rfl, rfl, trivial⟩ ?_
      refine Tr.loop (S := fun n (z : Int × (List Int)) env x => match z with | (t_49, l38) => ∃ v39 : Value, env = [(8, bp b9 0), (10, bp b14 0), (11, bp b16 0), (13, .int .i64 y32), (39, .int .i64 ((r5.1.length : Int))), (40, .int .i64 t_49)] ∧ x = ⟨m18, hcells b20 [v3] 23 :: hcells b16 [.int .i64 c26] 3 :: hcells b14 [v39] 23 :: hownT 3 1 encI v39 l38 :: hcells b9 [v7] 31 :: hownT 37 1 encU v7 r5.1 :: l2⟩ ∧ n = ((r5.1.length : Int) - t_49).toNat ∧ 0 ≤ t_49 ∧ forK (σ := (List Int)) (fun i s nx_ => order_Chain_b50 r5 y32 i s nx_) (fun s => order_Chain_k42 c26 nx30 y32 s) n t_49 l38 = some r) _ ((0 : Int), l27) ⟨_, rfl, rfl, rfl, (by omega), hr⟩ ?_
      rintro n52 ⟨t_49, l38⟩ env x ⟨v39, rfl, rfl, hnt_49, h0t_49, hr⟩
      cases n52 with
      | zero =>
        simp only [forK] at hr
        refine Tr.seq ?_
        refine Tr.region_f (fun _ => false) ?_
        refine W.q rfl rfl rfl rfl (by decide) (Yd.lss rfl (.t rfl) (.t rfl)) ?_
        refine W.end ?_
        refine NX.sub (env' := [(8, _), (10, _), (11, _), (13, _), (39, _), (40, _), (41, _)]) ⟨rfl, rfl, rfl, rfl, rfl, rfl, rfl, trivial⟩ ?_
        refine NX.then ?_
        refine Tr.seq ?_
        refine Tr.cond (.t rfl) (fun hb => ?_) (fun hb => ?_)
        · exact absurd (hb.symm.trans (fr_end hnt_49)) (by decide)
        ·
          refine Tr.exit' (EX.then (EX.then (EX.block ?_)))
          refine NX.sub (env' := [(13, _), (10, _), (11, _)]) ⟨rfl, rfl, rfl, trivial⟩ ?_
          exact hk43 _ _ ⟨_, _, rfl, rfl, hr⟩
      | succ n52 =>
        obtain ⟨nx51, hnx51, hr⟩ := forK_succ hr
        try dsimp only at hr
        unfold order_Chain_b50 at hr
        try dsimp only at hr
        have hltt_49 := fr_bnd hnt_49
        refine Tr.seq ?_
        refine Tr.region_f (fun _ => false) ?_
        refine W.q rfl rfl rfl rfl (by decide) (Yd.lss rfl (.t rfl) (.t rfl)) ?_
        refine W.end ?_
        refine NX.sub (env' := [(8, _), (10, _), (11, _), (13, _), (39, _), (40, _), (41, _)]) ⟨rfl, rfl, rfl, rfl, rfl, rfl, rfl, trivial⟩ ?_
        refine NX.then ?_
        refine Tr.seq ?_
        refine Tr.cond (.t rfl) (fun hb => ?_) (fun hb => ?_)
        rotate_left
        · exact absurd (hb.symm.trans (fr_go hnt_49)) (by decide)
        ·
          refine Tr.skip' ?_
          refine NX.then ?_
          refine Tr.seq ?_
          refine Tr.block ?_
          refine Tr.seq ?_
          refine Tr.region_f (fun _ => false) ?_
          refine W.q rfl rfl rfl rfl (by decide) (Yd.mv rfl (.t rfl)) ?_
          refine W.q rfl rfl rfl rfl (by decide) (Yd.as rfl (.t rfl)) ?_
          refine W.end ?_
          refine NX.sub (env' := [(8, _), (10, _), (11, _), (13, _), (39, _), (40, _), (14, _)]) ⟨rfl, rfl, rfl, rfl, rfl, rfl, rfl, trivial⟩ ?_
          refine NX.then ?_
          refine Tr.seq ?_
          obtain ⟨ha53, hr⟩ := guard_some hr
          refine Tr.region_f (fun _ => false) ?_
          refine W.q rfl rfl rfl rfl (by decide) (Yd.mv rfl (.t rfl)) ?_
          refine W.q rfl rfl rfl rfl (by decide) (Yd.mv rfl (.t rfl)) ?_
          refine W.q rfl rfl rfl rfl (by decide) (Yd.neq rfl (.t rfl) (.t rfl)) ?_
          refine W.q rfl rfl rfl rfl (by decide) (Yd.mv rfl (.t rfl)) ?_
          refine W.g rfl rfl rfl rfl rfl (.t rfl _) rfl (by decide) (fun hG => Yd.ldB (pos := 4) rfl rfl rfl ON31 (.t rfl)) ?_
          refine W.g rfl rfl rfl rfl rfl (.t rfl _) rfl (by decide) (fun hG => Yd.mv rfl (.t rfl)) ?_
          refine W.g rfl rfl rfl rfl rfl (.t rfl _) rfl (by decide) (fun hG => Yd.idxT (pos := 5) rfl (gd_get (d := (0#32)) ha53 hG) rfl Try.underlying31 SZ37 (.g rfl hG) (.g rfl hG)) ?_
          refine W.g rfl rfl rfl rfl rfl (.t rfl _) rfl (by decide) (fun hG => Yd.ldT (enc := encU) (n := 1) (pos := 5) (fun _ => rfl) rfl (gd_get (d := (0#32)) ha53 hG) rfl rfl ON37 (.g rfl hG)) ?_
          refine W.g rfl rfl rfl rfl rfl (.t rfl _) rfl (by decide) (fun hG => Yd.mv rfl (.t rfl)) ?_
          refine W.g rfl rfl rfl rfl rfl (.t rfl _) rfl (by decide) (fun hG => Yd.shrU (a := ((geti r5.1 y32).getD (0#32))) rfl (.g rfl hG) (.g rfl hG) h0t_49) ?_
          refine W.g rfl rfl rfl rfl rfl (.t rfl _) rfl (by decide) (fun hG => Yd.andU (a := (((geti r5.1 y32).getD (0#32)) >>> t_49.toNat)) (b := 1#32) rfl (.g rfl hG) .c) ?_
          refine W.g rfl rfl rfl rfl rfl (.t rfl _) rfl (by decide) (fun hG => Yd.eqlU (a := ((((geti r5.1 y32).getD (0#32)) >>> t_49.toNat) &&& 1#32)) (b := 1#32) rfl (.g rfl hG) .c) ?_
          refine W.q rfl rfl rfl rfl (by decide) (Yd.and rfl (.t rfl) .c rfl rfl) ?_
          refine W.end ?_
          refine NX.sub (env' := [(8, _), (10, _), (11, _), (13, _), (39, _), (40, _), (14, _), (55, _)]) ⟨rfl, rfl, rfl, rfl, rfl, rfl, rfl, rfl, trivial⟩ ?_
          refine NX.then ?_
          refine Tr.cond (.t rfl) (fun hb => ?_) (fun hb => ?_)
          · have hr := cond_t hb hr
            obtain ⟨y54, hy55, hr⟩ := bind_some hr
            obtain ⟨y56, hy57, hr⟩ := bind_some hr
            refine Tr.region_x (fun i => Nat.beq i 12) (fun i => Nat.beq i 12) (Ord.of [0, 1, 2, 3, 4, 5, 6, 7, 8, 9, 10, 11, 12]) FM (by kernel_rfl) ?_
            refine W.q rfl rfl rfl rfl (by decide) (Yd.ldB (pos := 2) rfl rfl rfl ON23 (.t rfl)) ?_
            refine W.q rfl rfl rfl rfl (by decide) (Yd.mv rfl (.t rfl)) ?_
            refine W.q rfl rfl rfl rfl (by decide) (Yd.ldB (pos := 2) rfl rfl rfl ON23 (.t rfl)) ?_
            refine W.q rfl rfl rfl rfl (by decide) (Yd.mv rfl (.t rfl)) ?_
            refine W.q rfl rfl rfl rfl (by decide) (Yd.idxT (pos := 3) rfl hy55 rfl Try.underlying23 SZ3 (.t rfl) (.t rfl)) ?_
            refine W.q rfl rfl rfl rfl (by decide) (Yd.ldT (enc := encI) (n := 1) (pos := 3) (fun _ => rfl) rfl hy55 rfl rfl ON3 (.t rfl)) ?_
            refine W.q rfl rfl rfl rfl (by decide) (Yd.ldB (pos := 2) rfl rfl rfl ON23 (.t rfl)) ?_
            refine W.q rfl rfl rfl rfl (by decide) (Yd.mv rfl (.t rfl)) ?_
            refine W.q rfl rfl rfl rfl (by decide) (Yd.idxT (pos := 3) rfl hy57 rfl Try.underlying23 SZ3 (.t rfl) (.t rfl)) ?_
            refine W.q rfl rfl rfl rfl (by decide) (Yd.ldT (enc := encI) (n := 1) (pos := 3) (fun _ => rfl) rfl hy57 rfl rfl ON3 (.t rfl)) ?_
            refine W.q rfl rfl rfl rfl (by decide) (Yd.max2 rfl (.t rfl) (.t rfl)) ?_
            refine W.q rfl rfl rfl rfl (by decide) (Yd.idxT (pos := 3) rfl hy55 rfl Try.underlying23 SZ3 (.t rfl) (.t rfl)) ?_
            refine W.s rfl rfl rfl rfl (Ef.stT (enc := encI) (n := 1) (pos := 3) (y := (if y56 > y54 then y56 else y54)) (us := [_]) (fun _ => rfl) rfl hy55 rfl (.t rfl) (.t rfl) SZ3 rfl rfl rfl (by decide)) ?_
            rintro _ _ ⟨rfl, rfl⟩
            refine ⟨.inl rfl, ?_⟩
            refine W.cast (m' := m18) (l' := hcells b20 [_] 23 :: hcells b16 [_] 3 :: hcells b14 [_] 23 :: hownT 3 1 encI v39 _ :: hcells b9 [_] 31 :: hownT 37 1 encU v7 _ :: l2) rfl rfl ?_
            refine W.end ?_
            refine NX.sub (env' := [(8, _), (10, _), (11, _), (13, _), (39, _), (40, _)]) ⟨rfl, rfl, rfl, rfl, rfl, rfl, trivial⟩ ?_
            refine NX.block ?_
            refine NX.then ?_
            refine Tr.region_f (fun _ => false) ?_
            refine W.q rfl rfl rfl rfl (by decide) (Yd.add rfl (.t rfl) .c) ?_
            refine W.q rfl rfl rfl rfl (by decide) (Yd.mv rfl (.t rfl)) ?_
            refine W.end ?_
            refine NX.sub (env' := [(8, _), (10, _), (11, _), (13, _), (39, _), (40, _)]) ⟨rfl, rfl, rfl, rfl, rfl, rfl, trivial⟩ ?_
            refine NX.sub (env' := [(8, _), (10, _), (11, _), (13, _), (39, _), (40, _)]) ⟨rfl, rfl, rfl, rfl, rfl, rfl, trivial⟩ ?_
            have hw := w64_id (n := t_49 + 1) (by omega) (by omega)
            exact NX.again n52 (t_49 + 1, (l38.set y32.toNat ((if y56 > y54 then y56 else y54)))) (Nat.lt_succ_self _) ⟨_, (by rw [hw] <;> rfl), rfl, (fr_dec hnt_49), (by omega), ((hnx51 _).symm.trans hr)⟩
          · have hr := cond_f hb hr
            refine Tr.skip' ?_
            refine NX.block ?_
            refine NX.then ?_
            refine Tr.region_f (fun _ => false) ?_
            refine W.q rfl rfl rfl rfl (by decide) (Yd.add rfl (.t rfl) .c) ?_
            refine W.q rfl rfl rfl rfl (by decide) (Yd.mv rfl (.t rfl)) ?_
            refine W.end ?_
            refine NX.sub (env' := [(8, _), (10, _), (11, _), (13, _), (39, _), (40, _)]) ⟨rfl, rfl, rfl, rfl, rfl, rfl, trivial⟩ ?_
            refine NX.sub (env' := [(8, _), (10, _), (11, _), (13, _), (39, _), (40, _)]) ⟨rfl, rfl, rfl, rfl, rfl, rfl, trivial⟩ ?_
            have hw := w64_id (n := t_49 + 1) (by omega) (by omega)
            exact NX.again n52 (t_49 + 1, l38) (Nat.lt_succ_self _) ⟨_, (by rw [hw] <;> rfl), rfl, (fr_dec hnt_49), (by omega), ((hnx51 _).symm.trans hr)⟩
    · rintro D m2 it2 ⟨c26, l27, v28, rfl, rfl, n_, hn_, hr⟩
      obtain rfl : n_ = 0 := by omega
      simp only [forK] at hr
      unfold order_Chain_k58 at hr
      try dsimp only at hr
      refine NX.cast (m' := m18) (l' := hcells b20 [v3] 23 :: hcells b16 [.int .i64 c26] 3 :: hcells b14 [v28] 23 :: hownT 3 1 encI v28 l27 :: hcells b9 [v7] 31 :: hownT 37 1 encU v7 r5.1 :: hblk D (.deferred (some [])) :: l) rfl rfl ?_
      refine NX.block ?_
      refine NX.thenD (by decide) ?_
      refine Tr.seq ?_
      refine Tr.region_f (fun _ => false) ?_
      refine W.q rfl rfl rfl rfl (by rw [szs_mark (by decide)]; decide) (Yd.as rfl .c) ?_
      refine W.end ?_
      refine NX.sub (env' := [(8, _), (10, _), (11, _), (15, _)]) ⟨rfl, rfl, rfl, rfl, trivial⟩ ?_
      refine NX.drop (l' := hcells b16 [_] 3 :: hcells b14 [_] 23 :: hownT 3 1 encI v28 _ :: hcells b9 [_] 31 :: hownT 37 1 encU v7 _ :: hblk D (.deferred (some [])) :: l) (.cons _ (.cons_cons _ (.cons_cons _ (.cons_cons _ (.cons_cons _ (.cons_cons _ (.refl _))))))) ?_
      refine NX.then ?_
      refine Tr.seq ?_
      refine Tr.addnil 3 1 ?_
      refine Tr.join (S := fun env x => ∃ l66 : List Int, ∃ v67 : Value, env = [(15, v67)] ∧ x = ⟨m18, hownT 3 1 encI v67 l66 :: hblk D (.deferred (some [])) :: l⟩ ∧ order_Chain_k69 l66 = some r) ?_ (fun hk70 => ?_)
      · rintro _ _ ⟨l66, v67, rfl, rfl, hr⟩
        unfold order_Chain_k69 at hr
        try dsimp only at hr
        refine NX.then ?_
        refine Tr.seq ?_
        refine Tr.region_f (fun _ => false) ?_
        refine W.q rfl rfl rfl rfl (by rw [szs_mark (by decide)]; decide) (Yd.mv rfl (.t rfl)) ?_
        refine W.q rfl rfl rfl rfl (by rw [szs_mark (by decide)]; decide) (Yd.as rfl (.t rfl)) ?_
        refine W.q rfl rfl rfl rfl (by rw [szs_mark (by decide)]; decide) (Yd.as rfl .c) ?_
        refine W.end ?_
        refine NX.sub (env' := [(4, _), (5, _)]) ⟨rfl, rfl, trivial⟩ ?_
        refine NX.then ?_
        refine Tr.ret' ?_
        refine res2D (p := 1) (by decide) rfl rfl rfl rfl ?_
        intro w hc
        replace hc : cX w0 ⟨m18, hownT 3 1 encI v67 l66 :: l⟩ w := hc
        cases hr
        exact ⟨_, rfl, (cX_le (x := ⟨m, _⟩) ⟨hsm18, [], rfl⟩ hc)⟩
      refine Tr.block ?_
      refine Tr.sub (env' := [(8, _), (10, _), (11, _), (15, _)]) ⟨rfl, rfl, rfl, rfl, trivial⟩ ?_
      refine Tr.loop (S := fun n (z : (List Int) × Int) env x => match z with | (l63, c65) => ∃ v64 : Value, env = [(8, bp b9 0), (10, bp b14 0), (11, bp b16 0), (15, v64)] ∧ x = ⟨m18, hownT 3 1 encI v64 l63 :: hcells b16 [.int .i64 c65] 3 :: hcells b14 [v28] 23 :: hownT 3 1 encI v28 l27 :: hcells b9 [v7] 31 :: hownT 37 1 encU v7 r5.1 :: hblk D (.deferred (some [])) :: l⟩ ∧ whileK (σ := (List Int) × Int) (fun s nx_ => order_Chain_b71 r5 l27 s.1 s.2 nx_) n (l63, c65) = some r) _ (([] : List Int), c26) ⟨_, rfl, rfl, hr⟩ ?_
      rintro n73 ⟨l63, c65⟩ env x ⟨v64, rfl, rfl, hr⟩
      cases n73 with
      | zero => simp [whileK] at hr
      | succ n73 =>
        obtain ⟨nx72, hnx72, hr⟩ := whileK_succ hr
        try dsimp only at hr
        unfold order_Chain_b71 at hr
        try dsimp only at hr
        refine Tr.seq ?_
        refine Tr.seq ?_
        refine Tr.region_f (fun _ => false) ?_
        refine W.q rfl rfl rfl rfl (by rw [szs_mark (by decide)]; decide) (Yd.ldB (pos := 1) rfl rfl rfl ON3 (.t rfl)) ?_
        refine W.q rfl rfl rfl rfl (by rw [szs_mark (by decide)]; decide) (Yd.gtr rfl (.t rfl) .c) ?_
        refine W.end ?_
        refine NX.sub (env' := [(8, _), (10, _), (11, _), (15, _), (82, _)]) ⟨rfl, rfl, rfl, rfl, rfl, trivial⟩ ?_
        refine NX.then ?_
        refine Tr.cond (.t rfl) (fun hb => ?_) (fun hb => ?_)
        · have hr := cond_t hb hr
          refine Tr.skip' ?_
          refine NX.then ?_
          refine Tr.seq ?_
          refine Tr.block ?_
          refine Tr.seq ?_
          refine Tr.region_f (fun _ => false) ?_
          refine W.q rfl rfl rfl rfl (by rw [szs_mark (by decide)]; decide) (Yd.ldB (pos := 4) rfl rfl rfl ON31 (.t rfl)) ?_
          refine W.q rfl rfl rfl rfl (by rw [szs_mark (by decide)]; decide) (Yd.lenO (p := 5) rfl rfl Try.underlying31 (.t rfl)) ?_
          refine W.q rfl rfl rfl rfl (by rw [szs_mark (by decide)]; decide) (Yd.mv rfl .c) ?_
          refine W.end ?_
          refine NX.sub (env' := [(8, _), (10, _), (11, _), (15, _), (86, _), (87, _)]) ⟨rfl, rfl, rfl, rfl, rfl, rfl, trivial⟩ ?_
          refine NX.then ?_
          refine Tr.join (S := fun env x => ∃ l80 : List Int, ∃ v81 : Value, env = [(8, bp b9 0), (10, bp b14 0), (11, bp b16 0), (15, v81)] ∧ x = ⟨m18, hownT 3 1 encI v81 l80 :: hcells b16 [.int .i64 c65] 3 :: hcells b14 [v28] 23 :: hownT 3 1 encI v28 l27 :: hcells b9 [v7] 31 :: hownT 37 1 encU v7 r5.1 :: hblk D (.deferred (some [])) :: l⟩ ∧ order_Chain_k82 c65 nx72 l80 = some r) ?_ (fun hk83 => ?_)
          · rintro _ _ ⟨l80, v81, rfl, rfl, hr⟩
            unfold order_Chain_k82 at hr
            try dsimp only at hr
            refine NX.block ?_
            refine NX.then ?_
            refine Tr.region_f (fun i => Nat.beq i 2) ?_
            refine W.q rfl rfl rfl rfl (by rw [szs_mark (by decide)]; decide) (Yd.ldB (pos := 1) rfl rfl rfl ON3 (.t rfl)) ?_
            refine W.q rfl rfl rfl rfl (by rw [szs_mark (by decide)]; decide) (Yd.sub rfl (.t rfl) .c) ?_
            refine W.s rfl rfl rfl rfl (Ef.stB (pos := 1) (us := [_]) (cs' := [_]) rfl rfl (.t rfl) (.t rfl) SZ3 rfl rfl rfl (Nat.le_of_ble_eq_true rfl) rfl) ?_
            rintro _ _ ⟨rfl, rfl⟩
            refine ⟨.inl rfl, ?_⟩
            refine W.cast (m' := m18) (l' := hownT 3 1 encI v81 _ :: hcells b16 [_] 3 :: hcells b14 [_] 23 :: hownT 3 1 encI v28 _ :: hcells b9 [_] 31 :: hownT 37 1 encU v7 _ :: hblk D (.deferred (some [])) :: l) rfl rfl ?_
            refine W.end ?_
            refine NX.sub (env' := [(8, _), (10, _), (11, _), (15, _)]) ⟨rfl, rfl, rfl, rfl, trivial⟩ ?_
            refine NX.sub (env' := [(8, _), (10, _), (11, _), (15, _)]) ⟨rfl, rfl, rfl, rfl, trivial⟩ ?_
            exact NX.again n73 (l80, (w64 (c65 - (1 : Int)))) (Nat.lt_succ_self _) ⟨_, rfl, rfl, ((hnx72 _).symm.trans hr)⟩
          refine Tr.lenO (pos := 5) rfl (fun hlen84 => ?_)
          refine Tr.block ?_
          refine Tr.sub (env' := [(8, _), (10, _), (11, _), (15, _), (86, _), (87, _)]) ⟨rfl, rfl, rfl, rfl, rfl, rfl, trivial⟩ ?_
          refine Tr.loop (S := fun n (z : Int × (List Int)) env x => match z with | (t_85, l78) => ∃ v79 : Value, env = [(8, bp b9 0), (10, bp b14 0), (11, bp b16 0), (15, v79), (86, .int .i64 ((r5.1.length : Int))), (87, .int .i64 t_85)] ∧ x = ⟨m18, hownT 3 1 encI v79 l78 :: hcells b16 [.int .i64 c65] 3 :: hcells b14 [v28] 23 :: hownT 3 1 encI v28 l27 :: hcells b9 [v7] 31 :: hownT 37 1 encU v7 r5.1 :: hblk D (.deferred (some [])) :: l⟩ ∧ n = ((r5.1.length : Int) - t_85).toNat ∧ 0 ≤ t_85 ∧ forK (σ := (List Int)) (fun i s nx_ => order_Chain_b86 r5 l27 c65 nx72 i s nx_) (fun s => order_Chain_k82 c65 nx72 s) n t_85 l78 = some r) _ ((0 : Int), l63) ⟨_, rfl, rfl, rfl, (by omega), hr⟩ ?_
          rintro n88 ⟨t_85, l78⟩ env x ⟨v79, rfl, rfl, hnt_85, h0t_85, hr⟩
          cases n88 with
          | zero =>
            simp only [forK] at hr
            refine Tr.seq ?_
            refine Tr.region_f (fun _ => false) ?_
            refine W.q rfl rfl rfl rfl (by rw [szs_mark (by decide)]; decide) (Yd.lss rfl (.t rfl) (.t rfl)) ?_
            refine W.end ?_
            refine NX.sub (env' := [(8, _), (10, _), (11, _), (15, _), (86, _), (87, _), (88, _)]) ⟨rfl, rfl, rfl, rfl, rfl, rfl, rfl, trivial⟩ ?_
            refine NX.then ?_
            refine Tr.seq ?_
            refine Tr.cond (.t rfl) (fun hb => ?_) (fun hb => ?_)
            · exact absurd (hb.symm.trans (fr_end hnt_85)) (by decide)
            ·
              refine Tr.exit' (EX.then (EX.then (EX.block ?_)))
              refine NX.sub (env' := [(8, _), (10, _), (11, _), (15, _)]) ⟨rfl, rfl, rfl, rfl, trivial⟩ ?_
              exact hk83 _ _ ⟨_, _, rfl, rfl, hr⟩
          | succ n88 =>
            obtain ⟨nx87, hnx87, hr⟩ := forK_succ hr
            try dsimp only at hr
            unfold order_Chain_b86 at hr
            try dsimp only at hr
            have hltt_85 := fr_bnd hnt_85
            refine Tr.seq ?_
            refine Tr.region_f (fun _ => false) ?_
            refine W.q rfl rfl rfl rfl (by rw [szs_mark (by decide)]; decide) (Yd.lss rfl (.t rfl) (.t rfl)) ?_
            refine W.end ?_
            refine NX.sub (env' := [(8, _), (10, _), (11, _), (15, _), (86, _), (87, _), (88, _)]) ⟨rfl, rfl, rfl, rfl, rfl, rfl, rfl, trivial⟩ ?_
            refine NX.then ?_
            refine Tr.seq ?_
            refine Tr.cond (.t rfl) (fun hb => ?_) (fun hb => ?_)
            rotate_left
            · exact absurd (hb.symm.trans (fr_go hnt_85)) (by decide)
            ·
              refine Tr.skip' ?_
              refine NX.then ?_
              refine Tr.seq ?_
              refine Tr.block ?_
              refine Tr.seq ?_
              refine Tr.region_f (fun _ => false) ?_
              refine W.q rfl rfl rfl rfl (by rw [szs_mark (by decide)]; decide) (Yd.mv rfl (.t rfl)) ?_
              refine W.q rfl rfl rfl rfl (by rw [szs_mark (by decide)]; decide) (Yd.as rfl (.t rfl)) ?_
              refine W.end ?_
              refine NX.sub (env' := [(8, _), (10, _), (11, _), (15, _), (86, _), (87, _), (16, _)]) ⟨rfl, rfl, rfl, rfl, rfl, rfl, rfl, trivial⟩ ?_
              refine NX.then ?_
              refine Tr.seq ?_
              obtain ⟨y89, hy90, hr⟩ := bind_some hr
              obtain ⟨ha91, hr⟩ := guard_some hr
              obtain ⟨ha92, hr⟩ := guard_some hr
              refine Tr.region_x (fun _ => false) (fun _ => false) (Ord.of [0, 1, 2, 3, 4, 5, 6, 7, 8, 9, 10, 11, 12, 13, 14, 15, 16, 17, 18, 19, 20, 21, 22, 23, 24, 25]) FM (by kernel_rfl) ?_
              refine W.q rfl rfl rfl rfl (by rw [szs_mark (by decide)]; decide) (Yd.ldB (pos := 2) rfl rfl rfl ON23 (.t rfl)) ?_
              refine W.q rfl rfl rfl rfl (by rw [szs_mark (by decide)]; decide) (Yd.mv rfl (.t rfl)) ?_
              refine W.q rfl rfl rfl rfl (by rw [szs_mark (by decide)]; decide) (Yd.idxT (pos := 3) rfl hy90 rfl Try.underlying23 SZ3 (.t rfl) (.t rfl)) ?_
              refine W.q rfl rfl rfl rfl (by rw [szs_mark (by decide)]; decide) (Yd.ldT (enc := encI) (n := 1) (pos := 3) (fun _ => rfl) rfl hy90 rfl rfl ON3 (.t rfl)) ?_
              refine W.q rfl rfl rfl rfl (by rw [szs_mark (by decide)]; decide) (Yd.ldB (pos := 1) rfl rfl rfl ON3 (.t rfl)) ?_
              refine W.q rfl rfl rfl rfl (by rw [szs_mark (by decide)]; decide) (Yd.eql rfl (.t rfl) (.t rfl)) ?_
              refine W.q rfl rfl rfl rfl (by rw [szs_mark (by decide)]; decide) (Yd.mv rfl (.t rfl)) ?_
              refine W.g rfl rfl rfl rfl rfl (.t rfl _) rfl (by rw [szs_mark (by decide)]; decide) (fun hG => Yd.mv rfl (.t rfl)) ?_
              refine W.g rfl rfl rfl rfl rfl (.t rfl _) rfl (by rw [szs_mark (by decide)]; decide) (fun hG => Yd.lenO (p := 0) rfl rfl Try.underlying23 (.g rfl hG)) ?_
              refine W.g rfl rfl rfl rfl rfl (.t rfl _) rfl (by rw [szs_mark (by decide)]; decide) (fun hG => Yd.eql rfl (.g rfl hG) .c) ?_
              refine W.g rfl rfl rfl rfl rfl (.t rfl _) rfl (by rw [szs_mark (by decide)]; decide) (fun hG => Yd.mv rfl (.g rfl hG)) ?_
              refine W.g rfl rfl rfl rfl rfl (.g rfl _) rfl (by rw [szs_mark (by decide)]; decide) (fun hG => Yd.ldB (pos := 4) rfl rfl rfl ON31 (.t rfl)) ?_
              refine W.g rfl rfl rfl rfl rfl (.g rfl _) rfl (by rw [szs_mark (by decide)]; decide) (fun hG => Yd.mv rfl (.t rfl)) ?_
              refine W.g rfl rfl rfl rfl rfl (.g rfl _) rfl (by rw [szs_mark (by decide)]; decide) (fun hG => Yd.mv rfl (.t rfl)) ?_
              refine W.g rfl rfl rfl rfl rfl (.g rfl _) rfl (by rw [szs_mark (by decide)]; decide) (fun hG => Yd.lenO (p := 0) rfl rfl Try.underlying23 (.g rfl hG)) ?_
              refine W.g rfl rfl rfl rfl rfl (.g rfl _) rfl (by rw [szs_mark (by decide)]; decide) (fun hG => Yd.sub rfl (.g rfl hG) .c) ?_
              refine W.g rfl rfl rfl rfl rfl (.g rfl _) rfl (by rw [szs_mark (by decide)]; decide) (fun hG => Yd.idxT (pos := 0) rfl (gd_get (d := (0 : Int)) ha91 hG) rfl Try.underlying23 SZ3 (.g rfl hG) (.g rfl hG)) ?_
              refine W.g rfl rfl rfl rfl rfl (.g rfl _) rfl (by rw [szs_mark (by decide)]; decide) (fun hG => Yd.ldT (enc := encI) (n := 1) (pos := 0) (fun _ => rfl) rfl (gd_get (d := (0 : Int)) ha91 hG) rfl rfl ON3 (.g rfl hG)) ?_
              refine W.g rfl rfl rfl rfl rfl (.g rfl _) rfl (by rw [szs_mark (by decide)]; decide) (fun hG => Yd.idxT (pos := 5) rfl (gd_get (d := (0#32)) ha92 hG) rfl Try.underlying31 SZ37 (.g rfl hG) (.g rfl hG)) ?_
              refine W.g rfl rfl rfl rfl rfl (.g rfl _) rfl (by rw [szs_mark (by decide)]; decide) (fun hG => Yd.ldT (enc := encU) (n := 1) (pos := 5) (fun _ => rfl) rfl (gd_get (d := (0#32)) ha92 hG) rfl rfl ON37 (.g rfl hG)) ?_
              refine W.g rfl rfl rfl rfl rfl (.g rfl _) rfl (by rw [szs_mark (by decide)]; decide) (fun hG => Yd.mv rfl (.t rfl)) ?_
              refine W.g rfl rfl rfl rfl rfl (.g rfl _) rfl (by rw [szs_mark (by decide)]; decide) (fun hG => Yd.shrU (a := ((geti r5.1 (((geti l78 ((w64 ((l78.length : Int) - (1 : Int))))).getD (0 : Int)))).getD (0#32))) rfl (.g rfl hG) (.g rfl hG) h0t_85) ?_
              refine W.g rfl rfl rfl rfl rfl (.g rfl _) rfl (by rw [szs_mark (by decide)]; decide) (fun hG => Yd.andU (a := (((geti r5.1 (((geti l78 ((w64 ((l78.length : Int) - (1 : Int))))).getD (0 : Int)))).getD (0#32)) >>> t_85.toNat)) (b := 1#32) rfl (.g rfl hG) .c) ?_
              refine W.g rfl rfl rfl rfl rfl (.g rfl _) rfl (by rw [szs_mark (by decide)]; decide) (fun hG => Yd.eqlU (a := ((((geti r5.1 (((geti l78 ((w64 ((l78.length : Int) - (1 : Int))))).getD (0 : Int)))).getD (0#32)) >>> t_85.toNat) &&& 1#32)) (b := 1#32) rfl (.g rfl hG) .c) ?_
              refine W.g rfl rfl rfl rfl rfl (.t rfl _) rfl (by rw [szs_mark (by decide)]; decide) (fun hG => Yd.orG rfl (.g rfl hG) .c rfl rfl hG) ?_
              refine W.q rfl rfl rfl rfl (by rw [szs_mark (by decide)]; decide) (Yd.and rfl (.t rfl) .c rfl rfl) ?_
              refine W.end ?_
              refine NX.sub (env' := [(8, _), (10, _), (11, _), (15, _), (86, _), (87, _), (16, _), (115, _)]) ⟨rfl, rfl, rfl, rfl, rfl, rfl, rfl, rfl, trivial⟩ ?_
              refine NX.then ?_
              refine Tr.cond (.t rfl) (fun hb => ?_) (fun hb => ?_)
              · have hr := cond_t hb hr
                refine Tr.seq ?_
                obtain ⟨hq96, hr⟩ := guard_some hr; replace hq96 := of_decide_eq_true hq96
                refine Tr.region_f (fun i => Nat.beq i 2 || Nat.beq i 3) ?_
                refine W.q rfl rfl rfl rfl (by rw [szs_mark (by decide)]; decide) (Yd.mv rfl (.t rfl)) ?_
                refine W.q rfl rfl rfl rfl (by rw [szs_mark (by decide)]; decide) (Yd.mv rfl (.t rfl)) ?_
                refine W.e rfl rfl rfl rfl (by rw [szs_mark (by decide)]; decide) (Ef.bsT (enc := encI) (vs := [_]) (ys := [t_85]) (fun _ => rfl) IF3 rfl Try.underlying23 (by decide) rfl (.cons (.t rfl) .nil) rfl rfl (by decide)) ?_
                rintro v93 _ rfl
                refine ⟨.inl rfl, ?_⟩
                refine W.cast (m' := m18) (l' := hownT 3 1 encI v93 _ :: hownT 3 1 encI v79 _ :: hcells b16 [_] 3 :: hcells b14 [_] 23 :: hownT 3 1 encI v28 _ :: hcells b9 [_] 31 :: hownT 37 1 encU v7 _ :: hblk D (.deferred (some [])) :: l) rfl rfl ?_
                refine W.e rfl rfl rfl rfl (by rw [szs_mark (by decide)]; decide) (Ef.apI (pos := 1) (enc := encI) (xs := l78) (ys := ([t_85] : List Int)) (fun _ => rfl) IF3 rfl rfl Try.underlying23 rfl (by decide) (.t rfl) (.t rfl) (Src.own (pos := 0) rfl) (fun _ => rfl) (by omega) (by omega)) ?_
                rintro v95 _ rfl
                refine ⟨.inl rfl, ?_⟩
                refine W.cast (m' := m18) (l' := hownT 3 1 encI v93 _ :: hownT 3 1 encI v95 _ :: hcells b16 [_] 3 :: hcells b14 [_] 23 :: hownT 3 1 encI v28 _ :: hcells b9 [_] 31 :: hownT 37 1 encU v7 _ :: hblk D (.deferred (some [])) :: l) rfl rfl ?_
                refine W.q rfl rfl rfl rfl (by rw [szs_mark (by decide)]; decide) (Yd.as rfl (.t rfl)) ?_
                refine W.end ?_
                refine NX.sub (env' := [(8, _), (10, _), (11, _), (15, _)]) ⟨rfl, rfl, rfl, rfl, trivial⟩ ?_
                refine NX.drop (l' := hownT 3 1 encI v95 _ :: hcells b16 [_] 3 :: hcells b14 [_] 23 :: hownT 3 1 encI v28 _ :: hcells b9 [_] 31 :: hownT 37 1 encU v7 _ :: hblk D (.deferred (some [])) :: l) (.cons _ (.cons_cons _ (.cons_cons _ (.cons_cons _ (.cons_cons _ (.cons_cons _ (.cons_cons _ (.refl _)))))))) ?_
                refine NX.then ?_
                refine Tr.exit' (EX.pass rfl (EX.then (EX.then (EX.block ?_))))
                refine NX.sub (env' := [(8, _), (10, _), (11, _), (15, _)]) ⟨rfl, rfl, rfl, rfl, trivial⟩ ?_
                exact hk83 _ _ ⟨_, _, rfl, rfl, hr⟩
              · have hr := cond_f hb hr
                refine Tr.skip' ?_
                refine NX.block ?_
                refine NX.then ?_
                refine Tr.region_f (fun _ => false) ?_
                refine W.q rfl rfl rfl rfl (by rw [szs_mark (by decide)]; decide) (Yd.add rfl (.t rfl) .c) ?_
                refine W.q rfl rfl rfl rfl (by rw [szs_mark (by decide)]; decide) (Yd.mv rfl (.t rfl)) ?_
                refine W.end ?_
                refine NX.sub (env' := [(8, _), (10, _), (11, _), (15, _), (86, _), (87, _)]) ⟨rfl, rfl, rfl, rfl, rfl, rfl, trivial⟩ ?_
                refine NX.sub (env' := [(8, _), (10, _), (11, _), (15, _), (86, _), (87, _)]) ⟨rfl, rfl, rfl, rfl, rfl, rfl, trivial⟩ ?_
                have hw := w64_id (n := t_85 + 1) (by omega) (by omega)
                exact NX.again n88 (t_85 + 1, l78) (Nat.lt_succ_self _) ⟨_, (by rw [hw] <;> rfl), rfl, (fr_dec hnt_85), (by omega), ((hnx87 _).symm.trans hr)⟩
        · have hr := cond_f hb hr
          refine Tr.exit' (EX.then (EX.then (EX.block ?_)))
          refine NX.sub (env' := [(15, _)]) ⟨rfl, trivial⟩ ?_
          refine NX.drop (l' := hownT 3 1 encI v64 _ :: hblk D (.deferred (some [])) :: l) (.cons_cons _ (.cons _ (.cons _ (.cons _ (.cons _ (.cons _ (.refl _))))))) ?_
          exact hk70 _ _ ⟨_, _, rfl, rfl, hr⟩

def syllogistref_Has_k3 : Option (Bool) :=
  some false

def syllogistref_Has_b7 (l_0 : List Int) (x_1 : Int) (t_6 : Int) (nx8 : Unit → Option (Bool)) : Option (Bool) :=
  (geti l_0 t_6).bind fun y10 =>
  (bif (x_1 == y10) then
  some true
  else
  nx8 ())

def syllogistref_Has (l_0 : List Int) (x_1 : Int) : Option (Bool) :=
  forK (σ := Unit) (fun i s nx_ => syllogistref_Has_b7 l_0 x_1 i nx_) (fun _ => syllogistref_Has_k3) ((l_0.length : Int) - (0 : Int)).toNat (0 : Int) ()

set_option maxRecDepth 100000 in
set_option maxHeartbeats 4000000 in
theorem syllogistref_Has_ok (w0 : World) (m : Snap) (l : List HI) (ul_0 : Value) (l_0 : List Int) (hl_0 : RS rI m ul_0 l_0) (x_1 : Int) (r : Bool) (hr : syllogistref_Has l_0 x_1 = some r) (w : World) (hc : cX w0 ⟨m, l⟩ w) :
    Calls Try.prog 13 [ul_0, .int .i64 x_1].toArray w fun e w' => e = .returned (.bool r) ∧ cX w0 ⟨m, l⟩ w' := by
  unfold syllogistref_Has at hr
  refine calls_of_Tr (N := 17) Try.func13 rfl hc rfl (Nat.le_of_ble_eq_true rfl) ?_
  refine Tr.seq ?_
  refine Tr.region_f (fun _ => false) ?_
  refine W.q rfl rfl rfl rfl (by decide) (Yd.as rfl .c) ?_
  refine W.end ?_
  refine NX.sub (env' := [(0, _), (1, _)]) ⟨rfl, rfl, trivial⟩ ?_
  refine NX.then ?_
  refine Tr.seq ?_
  refine Tr.seq ?_
  refine Tr.region_f (fun _ => false) ?_
  refine W.q rfl rfl rfl rfl (by decide) (Yd.mv rfl (.t rfl)) ?_
  refine W.q rfl rfl rfl rfl (by decide) (Yd.lenR hl_0 rfl Try.underlying23 (.t rfl)) ?_
  refine W.q rfl rfl rfl rfl (by decide) (Yd.mv rfl .c) ?_
  refine W.end ?_
  refine NX.sub (env' := [(1, _), (7, _), (8, _), (9, _)]) ⟨rfl, rfl, rfl, rfl, trivial⟩ ?_
  refine NX.then ?_
  refine Tr.join (S := fun env x => env = [] ∧ x = ⟨m, l⟩ ∧ syllogistref_Has_k3 = some r) ?_ (fun hk4 => ?_)
  · rintro _ _ ⟨rfl, rfl, hr⟩
    unfold syllogistref_Has_k3 at hr
    try dsimp only at hr
    refine NX.then ?_
    refine Tr.seq ?_
    refine Tr.region_f (fun _ => false) ?_
    refine W.q rfl rfl rfl rfl (by decide) (Yd.as rfl .c) ?_
    refine W.end ?_
    refine NX.sub (env' := [(4, _)]) ⟨rfl, trivial⟩ ?_
    refine NX.then ?_
    refine Tr.ret' ?_
    refine res1 rfl rfl ?_
    intro w hc
    cases hr
    exact ⟨rfl, hc⟩
  have hlen5 := (hl_0).2.1
  refine Tr.block ?_
  refine Tr.sub (env' := [(1, _), (7, _), (8, _), (9, _)]) ⟨rfl, rfl, rfl, rfl, trivial⟩ ?_
  refine Tr.loop (S := fun n (z : Int × Unit) env x => match z with | (t_6, _) => env = [(1, .int .i64 x_1), (7, ul_0), (8, .int .i64 ((l_0.length : Int))), (9, .int .i64 t_6)] ∧ x = ⟨m, l⟩ ∧ n = ((l_0.length : Int) - t_6).toNat ∧ 0 ≤ t_6 ∧ forK (σ := Unit) (fun i s nx_ => syllogistref_Has_b7 l_0 x_1 i nx_) (fun _ => syllogistref_Has_k3) n t_6 () = some r) _ ((0 : Int), ()) ⟨rfl, rfl, rfl, (by omega), hr⟩ ?_
  rintro n9 ⟨t_6, _⟩ env x ⟨rfl, rfl, hnt_6, h0t_6, hr⟩
  cases n9 with
  | zero =>
    simp only [forK] at hr
    refine Tr.seq ?_
    refine Tr.region_f (fun _ => false) ?_
    refine W.q rfl rfl rfl rfl (by decide) (Yd.lss rfl (.t rfl) (.t rfl)) ?_
    refine W.end ?_
    refine NX.sub (env' := [(1, _), (7, _), (8, _), (9, _), (10, _)]) ⟨rfl, rfl, rfl, rfl, rfl, trivial⟩ ?_
    refine NX.then ?_
    refine Tr.seq ?_
    refine Tr.cond (.t rfl) (fun hb => ?_) (fun hb => ?_)
    · exact absurd (hb.symm.trans (fr_end hnt_6)) (by decide)
    ·
      refine Tr.exit' (EX.then (EX.then (EX.block ?_)))
      refine NX.sub (env' := []) trivial ?_
      exact hk4 _ _ ⟨rfl, rfl, hr⟩
  | succ n9 =>
    obtain ⟨nx8, hnx8, hr⟩ := forK_succ hr
    try dsimp only at hr
    unfold syllogistref_Has_b7 at hr
    try dsimp only at hr
    have hltt_6 := fr_bnd hnt_6
    refine Tr.seq ?_
    refine Tr.region_f (fun _ => false) ?_
    refine W.q rfl rfl rfl rfl (by decide) (Yd.lss rfl (.t rfl) (.t rfl)) ?_
    refine W.end ?_
    refine NX.sub (env' := [(1, _), (7, _), (8, _), (9, _), (10, _)]) ⟨rfl, rfl, rfl, rfl, rfl, trivial⟩ ?_
    refine NX.then ?_
    refine Tr.seq ?_
    refine Tr.cond (.t rfl) (fun hb => ?_) (fun hb => ?_)
    rotate_left
    · exact absurd (hb.symm.trans (fr_go hnt_6)) (by decide)
    ·
      refine Tr.skip' ?_
      refine NX.then ?_
      refine Tr.seq ?_
      refine Tr.block ?_
      refine Tr.seq ?_
      obtain ⟨y10, hy11, hr⟩ := bind_some hr
      refine Tr.region_f (fun _ => false) ?_
      refine W.q rfl rfl rfl rfl (by decide) (Yd.idxR hl_0 hy11 rfl Try.underlying23 SZ3 (.t rfl) (.t rfl)) ?_
      refine W.q rfl rfl rfl rfl (by decide) (Yd.ldF hl_0 (.refl _) hy11 rfl rfl ON3 (.t rfl)) ?_
      refine W.q rfl rfl rfl rfl (by decide) (Yd.as rfl (.t rfl)) ?_
      refine W.end ?_
      refine NX.sub (env' := [(1, _), (7, _), (8, _), (9, _), (6, _)]) ⟨rfl, rfl, rfl, rfl, rfl, trivial⟩ ?_
      refine NX.then ?_
      refine Tr.seq ?_
      refine Tr.region_f (fun _ => false) ?_
      refine W.q rfl rfl rfl rfl (by decide) (Yd.mv rfl (.t rfl)) ?_
      refine W.q rfl rfl rfl rfl (by decide) (Yd.mv rfl (.t rfl)) ?_
      refine W.q rfl rfl rfl rfl (by decide) (Yd.eql rfl (.t rfl) (.t rfl)) ?_
      refine W.end ?_
      refine NX.sub (env' := [(1, _), (7, _), (8, _), (9, _), (15, _)]) ⟨rfl, rfl, rfl, rfl, rfl, trivial⟩ ?_
      refine NX.then ?_
      refine Tr.cond (.t rfl) (fun hb => ?_) (fun hb => ?_)
      · have hr := cond_t hb hr
        refine Tr.seq ?_
        refine Tr.region_f (fun _ => false) ?_
        refine W.q rfl rfl rfl rfl (by decide) (Yd.as rfl .c) ?_
        refine W.end ?_
        refine NX.sub (env' := [(4, _)]) ⟨rfl, trivial⟩ ?_
        refine NX.then ?_
        refine Tr.ret' (RT.block (RT.then (RT.then (RT.block (RT.then ?_)))))
        refine res1 rfl rfl ?_
        intro w hc
        cases hr
        exact ⟨rfl, hc⟩
      · have hr := cond_f hb hr
        refine Tr.skip' ?_
        refine NX.block ?_
        refine NX.then ?_
        refine Tr.region_f (fun _ => false) ?_
        refine W.q rfl rfl rfl rfl (by decide) (Yd.add rfl (.t rfl) .c) ?_
        refine W.q rfl rfl rfl rfl (by decide) (Yd.mv rfl (.t rfl)) ?_
        refine W.end ?_
        refine NX.sub (env' := [(1, _), (7, _), (8, _), (9, _)]) ⟨rfl, rfl, rfl, rfl, trivial⟩ ?_
        refine NX.sub (env' := [(1, _), (7, _), (8, _), (9, _)]) ⟨rfl, rfl, rfl, rfl, trivial⟩ ?_
        have hw := w64_id (n := t_6 + 1) (by omega) (by omega)
        exact NX.again n9 (t_6 + 1, ()) (Nat.lt_succ_self _) ⟨(by rw [hw] <;> rfl), rfl, (fr_dec hnt_6), (by omega), ((hnx8 _).symm.trans hr)⟩

def syllogistref_Under_k11 (b_3 : Int) (l9 : List Int) : Option (Bool) :=
  (syllogistref_Has l9 b_3).bind fun r13 =>
  some r13

def syllogistref_Under_k26 (k_6 : Int) (nx16 : ((Int × (List Int)) → Option (Bool))) (l24 : List Int) : Option (Bool) :=
  nx16 ((w64 (k_6 + (1 : Int))), l24)

def syllogistref_Under_b30 (pairs_1 : List (Int × Int)) (k_6 : Int) (t_29 : Int) (l22 : List Int) (nx31 : (List Int) → Option (Bool)) : Option (Bool) :=
  (geti pairs_1 t_29).bind fun y33 =>
  (geti l22 k_6).bind fun y37 =>
  bif (!((y33.1 == y37) == true) || (syllogistref_Has l22 y33.2).isSome) then
  (bif ((y33.1 == y37) && (!(((syllogistref_Has l22 y33.2).getD false)))) then
  bif decide (l22.length + (([y33.2] : List Int)).length ≤ 17592186044416) then
  nx31 (l22 ++ ([y33.2] : List Int)) else none
  else
  nx31 l22) else none

def syllogistref_Under_b15 (pairs_1 : List (Int × Int)) (b_3 : Int) (k_6 : Int) (l7 : List Int) (nx16 : (Int × (List Int)) → Option (Bool)) : Option (Bool) :=
  (bif (decide (k_6 < (l7.length : Int))) then
  forK (σ := (List Int)) (fun i s nx_ => syllogistref_Under_b30 pairs_1 k_6 i s nx_) (fun s => syllogistref_Under_k26 k_6 nx16 s) ((pairs_1.length : Int) - (0 : Int)).toNat (0 : Int) l7
  else
  syllogistref_Under_k11 b_3 l7)

def syllogistref_Under (fuel : Nat) (n_0 : Int) (pairs_1 : List (Int × Int)) (a_2 : Int) (b_3 : Int) : Option (Bool) :=
  whileK (σ := Int × (List Int)) (fun s nx_ => syllogistref_Under_b15 pairs_1 b_3 s.1 s.2 nx_) fuel (((0 : Int)), (([a_2] : List Int)))

set_option maxRecDepth 100000 in
set_option maxHeartbeats 4000000 in
theorem syllogistref_Under_ok (w0 : World) (m : Snap) (l : List HI) (fuel : Nat) (n_0 : Int) (upairs_1 : Value) (pairs_1 : List (Int × Int)) (hpairs_1 : RS rP m upairs_1 pairs_1) (a_2 : Int) (b_3 : Int) (r : Bool) (hr : syllogistref_Under fuel n_0 pairs_1 a_2 b_3 = some r) (w : World) (hc : cX w0 ⟨m, l⟩ w) :
    Calls Try.prog 11 [.int .i64 n_0, upairs_1, .int .i64 a_2, .int .i64 b_3].toArray w fun e w' => e = .returned (.bool r) ∧ cX w0 ⟨m, l⟩ w' := by
  unfold syllogistref_Under at hr
  refine calls_of_Tr (N := 50) Try.func11 rfl hc rfl (Nat.le_of_ble_eq_true rfl) ?_
  refine Tr.seq ?_
  refine Tr.region_f (fun _ => false) ?_
  refine W.q rfl rfl rfl rfl (by decide) (Yd.as rfl .c) ?_
  refine W.end ?_
  refine NX.sub (env' := [(1, _), (2, _), (3, _)]) ⟨rfl, rfl, rfl, trivial⟩ ?_
  refine NX.then ?_
  refine Tr.seq ?_
  refine Tr.region_f (fun i => Nat.beq i 1) ?_
  refine W.q rfl rfl rfl rfl (by decide) (Yd.mv rfl (.t rfl)) ?_
  refine W.e rfl rfl rfl rfl (by decide) (Ef.bsT (enc := encI) (vs := [_]) (ys := [a_2]) (fun _ => rfl) IF3 rfl Try.underlying23 (by decide) rfl (.cons (.t rfl) .nil) rfl rfl (by decide)) ?_
  rintro v1 _ rfl
  refine ⟨.inl rfl, ?_⟩
  refine W.cast (m' := m) (l' := hownT 3 1 encI v1 _ :: l) rfl rfl ?_
  refine W.q rfl rfl rfl rfl (by decide) (Yd.as rfl (.t rfl)) ?_
  refine W.end ?_
  refine NX.sub (env' := [(1, _), (3, _), (9, _)]) ⟨rfl, rfl, rfl, trivial⟩ ?_
  refine NX.then ?_
  refine Tr.seq ?_
  refine Tr.seq ?_
  refine Tr.region_f (fun _ => false) ?_
  refine W.q rfl rfl rfl rfl (by decide) (Yd.as rfl .c) ?_
  refine W.end ?_
  refine NX.sub (env' := [(1, _), (3, _), (9, _), (10, _)]) ⟨rfl, rfl, rfl, rfl, trivial⟩ ?_
  refine NX.then ?_
  refine Tr.join (S := fun env x => ∃ l9 : List Int, ∃ v10 : Value, env = [(3, .int .i64 b_3), (9, v10)] ∧ x = ⟨m, hownT 3 1 encI v10 l9 :: l⟩ ∧ syllogistref_Under_k11 b_3 l9 = some r) ?_ (fun hk12 => ?_)
  · rintro _ _ ⟨l9, v10, rfl, rfl, hr⟩
    unfold syllogistref_Under_k11 at hr
    try dsimp only at hr
    refine NX.then ?_
    refine Tr.seq ?_
    obtain ⟨r13, hr14, hr⟩ := bind_some hr
    refine Tr.region_f (fun _ => false) ?_
    refine W.q rfl rfl rfl rfl (by decide) (Yd.mv rfl (.t rfl)) ?_
    refine W.q rfl rfl rfl rfl (by decide) (Yd.mv rfl (.t rfl)) ?_
    refine W.q rfl rfl rfl rfl (by decide) (Yd.call (v := .bool r13) rfl Try.func13 rfl rfl (.cons (.t rfl) (.cons (.t rfl) .nil)) (by intro x' hx w hw; obtain ⟨p0, hp0⟩ := hx.at (p := 0) rfl; obtain ⟨m2, hm2, hc2, ⟨L2, hl1, hl2⟩, hback⟩ := cX_lend hw hp0 lone_own; have hL1 : RS rI m2 _ _ := RS_of_own hl1 hl2; exact (syllogistref_Has_ok w0 m2 _ _ _ hL1 b_3 _ hr14 w hc2).mono fun e w' ⟨he, hc'⟩ => ⟨he, (hback m2 _ _ w' (.refl _) hp0).2 hc'⟩)) ?_
    refine W.q rfl rfl rfl rfl (by decide) (Yd.as rfl (.t rfl)) ?_
    refine W.end ?_
    refine NX.sub (env' := [(8, _)]) ⟨rfl, trivial⟩ ?_
    refine NX.drop (l' := l) (.cons _ (.refl _)) ?_
    refine NX.then ?_
    refine Tr.ret' ?_
    refine res1 rfl rfl ?_
    intro w hc
    cases hr
    exact ⟨rfl, hc⟩
  refine Tr.block ?_
  refine Tr.sub (env' := [(1, _), (3, _), (9, _), (10, _)]) ⟨rfl, rfl, rfl, rfl, trivial⟩ ?_
  refine Tr.loop (S := fun n (z : Int × (List Int)) env x => match z with | (k_6, l7) => ∃ v8 : Value, env = [(1, upairs_1), (3, .int .i64 b_3), (9, v8), (10, .int .i64 k_6)] ∧ x = ⟨m, hownT 3 1 encI v8 l7 :: l⟩ ∧ whileK (σ := Int × (List Int)) (fun s nx_ => syllogistref_Under_b15 pairs_1 b_3 s.1 s.2 nx_) n (k_6, l7) = some r) _ ((0 : Int), ([a_2] : List Int)) ⟨_, rfl, rfl, hr⟩ ?_
  rintro n17 ⟨k_6, l7⟩ env x ⟨v8, rfl, rfl, hr⟩
  cases n17 with
  | zero => simp [whileK] at hr
  | succ n17 =>
    obtain ⟨nx16, hnx16, hr⟩ := whileK_succ hr
    try dsimp only at hr
    unfold syllogistref_Under_b15 at hr
    try dsimp only at hr
    refine Tr.seq ?_
    refine Tr.seq ?_
    refine Tr.region_f (fun _ => false) ?_
    refine W.q rfl rfl rfl rfl (by decide) (Yd.mv rfl (.t rfl)) ?_
    refine W.q rfl rfl rfl rfl (by decide) (Yd.mv rfl (.t rfl)) ?_
    refine W.q rfl rfl rfl rfl (by decide) (Yd.lenO (p := 0) rfl rfl Try.underlying23 (.t rfl)) ?_
    refine W.q rfl rfl rfl rfl (by decide) (Yd.lss rfl (.t rfl) (.t rfl)) ?_
    refine W.end ?_
    refine NX.sub (env' := [(1, _), (3, _), (9, _), (10, _), (18, _)]) ⟨rfl, rfl, rfl, rfl, rfl, trivial⟩ ?_
    refine NX.then ?_
    refine Tr.cond (.t rfl) (fun hb => ?_) (fun hb => ?_)
    · have hr := cond_t hb hr
      refine Tr.skip' ?_
      refine NX.then ?_
      refine Tr.seq ?_
      refine Tr.block ?_
      refine Tr.seq ?_
      refine Tr.region_f (fun _ => false) ?_
      refine W.q rfl rfl rfl rfl (by decide) (Yd.mv rfl (.t rfl)) ?_
      refine W.q rfl rfl rfl rfl (by decide) (Yd.lenR hpairs_1 rfl Try.underlying22 (.t rfl)) ?_
      refine W.q rfl rfl rfl rfl (by decide) (Yd.mv rfl .c) ?_
      refine W.end ?_
      refine NX.sub (env' := [(1, _), (3, _), (9, _), (10, _), (21, _), (22, _), (23, _)]) ⟨rfl, rfl, rfl, rfl, rfl, rfl, rfl, trivial⟩ ?_
      refine NX.then ?_
      refine Tr.join (S := fun env x => ∃ l24 : List Int, ∃ v25 : Value, env = [(1, upairs_1), (3, .int .i64 b_3), (9, v25), (10, .int .i64 k_6)] ∧ x = ⟨m, hownT 3 1 encI v25 l24 :: l⟩ ∧ syllogistref_Under_k26 k_6 nx16 l24 = some r) ?_ (fun hk27 => ?_)
      · rintro _ _ ⟨l24, v25, rfl, rfl, hr⟩
        unfold syllogistref_Under_k26 at hr
        try dsimp only at hr
        refine NX.block ?_
        refine NX.then ?_
        refine Tr.region_f (fun _ => false) ?_
        refine W.q rfl rfl rfl rfl (by decide) (Yd.mv rfl (.t rfl)) ?_
        refine W.q rfl rfl rfl rfl (by decide) (Yd.add rfl (.t rfl) .c) ?_
        refine W.q rfl rfl rfl rfl (by decide) (Yd.as rfl (.t rfl)) ?_
        refine W.end ?_
        refine NX.sub (env' := [(1, _), (3, _), (9, _), (10, _)]) ⟨rfl, rfl, rfl, rfl, trivial⟩ ?_
        refine NX.sub (env' := [(1, _), (3, _), (9, _), (10, _)]) ⟨rfl, rfl, rfl, rfl, trivial⟩ ?_
        exact NX.again n17 ((w64 (k_6 + (1 : Int))), l24) (Nat.lt_succ_self _) ⟨_, rfl, rfl, ((hnx16 _).symm.trans hr)⟩
      have hlen28 := (hpairs_1).2.1
      refine Tr.block ?_
      refine Tr.sub (env' := [(1, _), (3, _), (9, _), (10, _), (21, _), (22, _), (23, _)]) ⟨rfl, rfl, rfl, rfl, rfl, rfl, rfl, trivial⟩ ?_
      refine Tr.loop (S := fun n (z : Int × (List Int)) env x => match z with | (t_29, l22) => ∃ v23 : Value, env = [(1, upairs_1), (3, .int .i64 b_3), (9, v23), (10, .int .i64 k_6), (21, upairs_1), (22, .int .i64 ((pairs_1.length : Int))), (23, .int .i64 t_29)] ∧ x = ⟨m, hownT 3 1 encI v23 l22 :: l⟩ ∧ n = ((pairs_1.length : Int) - t_29).toNat ∧ 0 ≤ t_29 ∧ forK (σ := (List Int)) (fun i s nx_ => syllogistref_Under_b30 pairs_1 k_6 i s nx_) (fun s => syllogistref_Under_k26 k_6 nx16 s) n t_29 l22 = some r) _ ((0 : Int), l7) ⟨_, rfl, rfl, rfl, (by omega), hr⟩ ?_
      rintro n32 ⟨t_29, l22⟩ env x ⟨v23, rfl, rfl, hnt_29, h0t_29, hr⟩
      cases n32 with
      | zero =>
        simp only [forK] at hr
        refine Tr.seq ?_
        refine Tr.region_f (fun _ => false) ?_
        refine W.q rfl rfl rfl rfl (by decide) (Yd.lss rfl (.t rfl) (.t rfl)) ?_
        refine W.end ?_
        refine NX.sub (env' := [(1, _), (3, _), (9, _), (10, _), (21, _), (22, _), (23, _), (24, _)]) ⟨rfl, rfl, rfl, rfl, rfl, rfl, rfl, rfl, trivial⟩ ?_
        refine NX.then ?_
        refine Tr.seq ?_
        refine Tr.cond (.t rfl) (fun hb => ?_) (fun hb => ?_)
        · exact absurd (hb.symm.trans (fr_end hnt_29)) (by decide)
        ·
          refine Tr.exit' (EX.then (EX.then (EX.block ?_)))
          refine NX.sub (env' := [(1, _), (3, _), (9, _), (10, _)]) ⟨rfl, rfl, rfl, rfl, trivial⟩ ?_
          exact hk27 _ _ ⟨_, _, rfl, rfl, hr⟩
      | succ n32 =>
        obtain ⟨nx31, hnx31, hr⟩ := forK_succ hr
        try dsimp only at hr
        unfold syllogistref_Under_b30 at hr
        try dsimp only at hr
        have hltt_29 := fr_bnd hnt_29
        refine Tr.seq ?_
        refine Tr.region_f (fun _ => false) ?_
        refine W.q rfl rfl rfl rfl (by decide) (Yd.lss rfl (.t rfl) (.t rfl)) ?_
        refine W.end ?_
        refine NX.sub (env' := [(1, _), (3, _), (9, _), (10, _), (21, _), (22, _), (23, _), (24, _)]) ⟨rfl, rfl, rfl, rfl, rfl, rfl, rfl, rfl, trivial⟩ ?_
        refine NX.then ?_
        refine Tr.seq ?_
        refine Tr.cond (.t rfl) (fun hb => ?_) (fun hb => ?_)
        rotate_left
        · exact absurd (hb.symm.trans (fr_go hnt_29)) (by decide)
        ·
          refine Tr.skip' ?_
          refine NX.then ?_
          refine Tr.seq ?_
          refine Tr.block ?_
          refine Tr.seq ?_
          obtain ⟨y33, hy34, hr⟩ := bind_some hr
          refine Tr.region_f (fun i => Nat.beq i 2 || Nat.beq i 3) ?_
          refine W.q rfl rfl rfl rfl (by decide) (Yd.idxR hpairs_1 hy34 rfl Try.underlying22 SZ38 (.t rfl) (.t rfl)) ?_
          refine W.q rfl rfl rfl rfl (by decide) (Yd.ldFs (us := [_, _]) hpairs_1 (.refl _) hy34 rfl rfl ON38 US38 SZ38 (.t rfl)) ?_
          refine W.e rfl rfl rfl rfl (by decide) (Ef.al rfl ZR38 rfl) ?_
          rintro _ _ ⟨b35, rfl, rfl⟩
          refine ⟨.inl rfl, ?_⟩
          refine W.cast (m' := m) (l' := hcells b35 [_, _] 38 :: hownT 3 1 encI v23 _ :: l) rfl rfl ?_
          refine W.s rfl rfl rfl rfl (Ef.stB (pos := 0) (us := [_, _]) (cs' := [_, _]) rfl rfl (.t rfl) (.t rfl) SZ38 rfl rfl rfl (Nat.le_of_ble_eq_true rfl) rfl) ?_
          rintro _ _ ⟨rfl, rfl⟩
          refine ⟨.inl rfl, ?_⟩
          refine W.cast (m' := m) (l' := hcells b35 [_, _] 38 :: hownT 3 1 encI v23 _ :: l) rfl rfl ?_
          refine W.end ?_
          refine NX.sub (env' := [(1, _), (3, _), (9, _), (10, _), (21, _), (22, _), (23, _), (12, _)]) ⟨rfl, rfl, rfl, rfl, rfl, rfl, rfl, rfl, trivial⟩ ?_
          refine NX.then ?_
          refine Tr.seq ?_
          obtain ⟨y37, hy38, hr⟩ := bind_some hr
          obtain ⟨ha39, hr⟩ := guard_some hr
          refine Tr.region_x (fun _ => false) (fun _ => false) (Ord.of [0, 1, 2, 3, 4, 5, 6, 7, 8, 9, 10, 11, 12, 13]) FM (by kernel_rfl) ?_
          refine W.q rfl rfl rfl rfl (by decide) (Yd.arrB rfl Try.underlying38 SZ3 (by decide) (by decide) (.t rfl) .c) ?_
          refine W.q rfl rfl rfl rfl (by decide) (Yd.ldB (pos := 0) rfl rfl rfl ON3 (.t rfl)) ?_
          refine W.q rfl rfl rfl rfl (by decide) (Yd.mv rfl (.t rfl)) ?_
          refine W.q rfl rfl rfl rfl (by decide) (Yd.mv rfl (.t rfl)) ?_
          refine W.q rfl rfl rfl rfl (by decide) (Yd.idxT (pos := 1) rfl hy38 rfl Try.underlying23 SZ3 (.t rfl) (.t rfl)) ?_
          refine W.q rfl rfl rfl rfl (by decide) (Yd.ldT (enc := encI) (n := 1) (pos := 1) (fun _ => rfl) rfl hy38 rfl rfl ON3 (.t rfl)) ?_
          refine W.q rfl rfl rfl rfl (by decide) (Yd.eql rfl (.t rfl) (.t rfl)) ?_
          refine W.q rfl rfl rfl rfl (by decide) (Yd.mv rfl (.t rfl)) ?_
          refine W.g rfl rfl rfl rfl rfl (.t rfl _) rfl (by decide) (fun hG => Yd.mv rfl (.t rfl)) ?_
          refine W.g rfl rfl rfl rfl rfl (.t rfl _) rfl (by decide) (fun hG => Yd.arrB rfl Try.underlying38 SZ3 (by decide) (by decide) (.t rfl) .c) ?_
          refine W.g rfl rfl rfl rfl rfl (.t rfl _) rfl (by decide) (fun hG => Yd.ldB (pos := 0) rfl rfl rfl ON3 (.g rfl hG)) ?_
          refine W.g rfl rfl rfl rfl rfl (.t rfl _) rfl (by decide) (fun hG => Yd.call (v := .bool ((((syllogistref_Has l22 y33.2).getD false)))) rfl Try.func13 rfl rfl (.cons (.g rfl hG) (.cons (.g rfl hG) .nil)) (by intro x' hx w hw; obtain ⟨p0, hp0⟩ := hx.at (p := 1) rfl; obtain ⟨m2, hm2, hc2, ⟨L2, hl1, hl2⟩, hback⟩ := cX_lend hw hp0 lone_own; have hL1 : RS rI m2 _ _ := RS_of_own hl1 hl2; exact (syllogistref_Has_ok w0 m2 _ _ _ hL1 y33.2 _ (gd_get (d := false) ha39 hG) w hc2).mono fun e w' ⟨he, hc'⟩ => ⟨he, (hback m2 _ _ w' (.refl _) hp0).2 hc'⟩)) ?_
          refine W.g rfl rfl rfl rfl rfl (.t rfl _) rfl (by decide) (fun hG => Yd.not rfl (.g rfl hG)) ?_
          refine W.q rfl rfl rfl rfl (by decide) (Yd.and rfl (.t rfl) .c rfl rfl) ?_
          refine W.end ?_
          refine NX.sub (env' := [(1, _), (3, _), (9, _), (10, _), (21, _), (22, _), (23, _), (12, _), (40, _)]) ⟨rfl, rfl, rfl, rfl, rfl, rfl, rfl, rfl, rfl, trivial⟩ ?_
          refine NX.then ?_
          refine Tr.cond (.t rfl) (fun hb => ?_) (fun hb => ?_)
          · have hr := cond_t hb hr
            obtain ⟨hq43, hr⟩ := guard_some hr; replace hq43 := of_decide_eq_true hq43
            refine Tr.region_f (fun i => Nat.beq i 3 || Nat.beq i 4) ?_
            refine W.q rfl rfl rfl rfl (by decide) (Yd.mv rfl (.t rfl)) ?_
            refine W.q rfl rfl rfl rfl (by decide) (Yd.arrB rfl Try.underlying38 SZ3 (by decide) (by decide) (.t rfl) .c) ?_
            refine W.q rfl rfl rfl rfl (by decide) (Yd.ldB (pos := 0) rfl rfl rfl ON3 (.t rfl)) ?_
            refine W.e rfl rfl rfl rfl (by decide) (Ef.bsT (enc := encI) (vs := [_]) (ys := [y33.2]) (fun _ => rfl) IF3 rfl Try.underlying23 (by decide) rfl (.cons (.t rfl) .nil) rfl rfl (by decide)) ?_
            rintro v40 _ rfl
            refine ⟨.inl rfl, ?_⟩
            refine W.cast (m' := m) (l' := hownT 3 1 encI v40 _ :: hcells b35 [_, _] 38 :: hownT 3 1 encI v23 _ :: l) rfl rfl ?_
            refine W.e rfl rfl rfl rfl (by decide) (Ef.apI (pos := 2) (enc := encI) (xs := l22) (ys := ([y33.2] : List Int)) (fun _ => rfl) IF3 rfl rfl Try.underlying23 rfl (by decide) (.t rfl) (.t rfl) (Src.own (pos := 0) rfl) (fun _ => rfl) (by omega) (by omega)) ?_
            rintro v42 _ rfl
            refine ⟨.inl rfl, ?_⟩
            refine W.cast (m' := m) (l' := hownT 3 1 encI v40 _ :: hcells b35 [_, _] 38 :: hownT 3 1 encI v42 _ :: l) rfl rfl ?_
            refine W.q rfl rfl rfl rfl (by decide) (Yd.as rfl (.t rfl)) ?_
            refine W.end ?_
            refine NX.sub (env' := [(1, _), (3, _), (9, _), (10, _), (21, _), (22, _), (23, _)]) ⟨rfl, rfl, rfl, rfl, rfl, rfl, rfl, trivial⟩ ?_
            refine NX.drop (l' := hownT 3 1 encI v42 _ :: l) (.cons _ (.cons _ (.cons_cons _ (.refl _)))) ?_
            refine NX.block ?_
            refine NX.then ?_
            refine Tr.region_f (fun _ => false) ?_
            refine W.q rfl rfl rfl rfl (by decide) (Yd.add rfl (.t rfl) .c) ?_
            refine W.q rfl rfl rfl rfl (by decide) (Yd.mv rfl (.t rfl)) ?_
            refine W.end ?_
            refine NX.sub (env' := [(1, _), (3, _), (9, _), (10, _), (21, _), (22, _), (23, _)]) ⟨rfl, rfl, rfl, rfl, rfl, rfl, rfl, trivial⟩ ?_
            refine NX.sub (env' := [(1, _), (3, _), (9, _), (10, _), (21, _), (22, _), (23, _)]) ⟨rfl, rfl, rfl, rfl, rfl, rfl, rfl, trivial⟩ ?_
            have hw := w64_id (n := t_29 + 1) (by omega) (by omega)
            exact NX.again n32 (t_29 + 1, (l22 ++ ([y33.2] : List Int))) (Nat.lt_succ_self _) ⟨_, (by rw [hw] <;> rfl), rfl, (fr_dec hnt_29), (by omega), ((hnx31 _).symm.trans hr)⟩
          · have hr := cond_f hb hr
            refine Tr.skip' ?_
            refine NX.block ?_
            refine NX.then ?_
            refine Tr.region_f (fun _ => false) ?_
            refine W.q rfl rfl rfl rfl (by decide) (Yd.add rfl (.t rfl) .c) ?_
            refine W.q rfl rfl rfl rfl (by decide) (Yd.mv rfl (.t rfl)) ?_
            refine W.end ?_
            refine NX.sub (env' := [(1, _), (3, _), (9, _), (10, _), (21, _), (22, _), (23, _)]) ⟨rfl, rfl, rfl, rfl, rfl, rfl, rfl, trivial⟩ ?_
            refine NX.drop (l' := hownT 3 1 encI v23 _ :: l) (.cons _ (.cons_cons _ (.refl _))) ?_
            refine NX.sub (env' := [(1, _), (3, _), (9, _), (10, _), (21, _), (22, _), (23, _)]) ⟨rfl, rfl, rfl, rfl, rfl, rfl, rfl, trivial⟩ ?_
            have hw := w64_id (n := t_29 + 1) (by omega) (by omega)
            exact NX.again n32 (t_29 + 1, l22) (Nat.lt_succ_self _) ⟨_, (by rw [hw] <;> rfl), rfl, (fr_dec hnt_29), (by omega), ((hnx31 _).symm.trans hr)⟩
    · have hr := cond_f hb hr
      refine Tr.exit' (EX.then (EX.then (EX.block ?_)))
      refine NX.sub (env' := [(3, _), (9, _)]) ⟨rfl, rfl, trivial⟩ ?_
      exact hk12 _ _ ⟨_, _, rfl, rfl, hr⟩

def syllogistref_OrderCheck_k7 : Option (Int) :=
  some ((0 : Int))

def syllogistref_OrderCheck_k16 (nx12 : (Unit → Option (Int))) : Option (Int) :=
  nx12 ()

def syllogistref_OrderCheck_b20 (n_0 : Int) (pairs_1 : List (Int × Int)) (fuel : Nat) (i_10 : Int) (j_19 : Int) (nx21 : Unit → Option (Int)) : Option (Int) :=
  (syllogistref_Under fuel n_0 pairs_1 i_10 j_19).bind fun r23 =>
  bif (!(r23 == true) || (syllogistref_Under fuel n_0 pairs_1 j_19 i_10).isSome) then
  (bif (r23 && (((syllogistref_Under fuel n_0 pairs_1 j_19 i_10).getD false))) then
  some ((3 : Int))
  else
  nx21 ()) else none

def syllogistref_OrderCheck_b11 (n_0 : Int) (pairs_1 : List (Int × Int)) (fuel : Nat) (i_10 : Int) (nx12 : Unit → Option (Int)) : Option (Int) :=
  bif decide (i_10 ≤ 9223372036854775807) then
  forK (σ := Unit) (fun i s nx_ => syllogistref_OrderCheck_b20 n_0 pairs_1 fuel i_10 i nx_) (fun _ => syllogistref_OrderCheck_k16 nx12) (i_10 - (0 : Int)).toNat (0 : Int) () else none

def syllogistref_OrderCheck_k3 (n_0 : Int) (pairs_1 : List (Int × Int)) (fuel : Nat) : Option (Int) :=
  bif decide (n_0 ≤ 9223372036854775807) then
  forK (σ := Unit) (fun i s nx_ => syllogistref_OrderCheck_b11 n_0 pairs_1 fuel i nx_) (fun _ => syllogistref_OrderCheck_k7) (n_0 - (0 : Int)).toNat (0 : Int) () else none

def syllogistref_OrderCheck_b28 (n_0 : Int) (pairs_1 : List (Int × Int)) (t_27 : Int) (nx29 : Unit → Option (Int)) : Option (Int) :=
  (geti pairs_1 t_27).bind fun y31 =>
  (bif ((((decide (y31.1 < (0 : Int))) || (decide (y31.1 ≥ n_0))) || (decide (y31.2 < (0 : Int)))) || (decide (y31.2 ≥ n_0))) then
  some ((2 : Int))
  else
  nx29 ())

def syllogistref_OrderCheck (fuel : Nat) (n_0 : Int) (pairs_1 : List (Int × Int)) : Option (Int) :=
  (bif (((decide (n_0 < (1 : Int))) || (decide (n_0 > (6 : Int)))) || (decide ((pairs_1.length : Int) > (20 : Int)))) then
  some ((1 : Int))
  else
  forK (σ := Unit) (fun i s nx_ => syllogistref_OrderCheck_b28 n_0 pairs_1 i nx_) (fun _ => syllogistref_OrderCheck_k3 n_0 pairs_1 fuel) ((pairs_1.length : Int) - (0 : Int)).toNat (0 : Int) ())

set_option maxRecDepth 100000 in
set_option maxHeartbeats 4000000 in
theorem syllogistref_OrderCheck_ok (w0 : World) (m : Snap) (l : List HI) (fuel : Nat) (n_0 : Int) (upairs_1 : Value) (pairs_1 : List (Int × Int)) (hpairs_1 : RS rP m upairs_1 pairs_1) (r : Int) (hr : syllogistref_OrderCheck fuel n_0 pairs_1 = some r) (w : World) (hc : cX w0 ⟨m, l⟩ w) :
    Calls Try.prog 5 [.int .i64 n_0, upairs_1].toArray w fun e w' => e = .returned (.int .i64 r) ∧ cX w0 ⟨m, l⟩ w' := by
  unfold syllogistref_OrderCheck at hr
  refine calls_of_Tr (N := 69) Try.func5 rfl hc rfl (Nat.le_of_ble_eq_true rfl) ?_
  refine Tr.seq ?_
  refine Tr.region_f (fun _ => false) ?_
  refine W.q rfl rfl rfl rfl (by decide) (Yd.as rfl .c) ?_
  refine W.end ?_
  refine NX.sub (env' := [(0, _), (1, _)]) ⟨rfl, rfl, trivial⟩ ?_
  refine NX.then ?_
  refine Tr.seq ?_
  refine Tr.seq ?_
  refine Tr.region_f (fun _ => false) ?_
  refine W.q rfl rfl rfl rfl (by decide) (Yd.mv rfl (.t rfl)) ?_
  refine W.q rfl rfl rfl rfl (by decide) (Yd.lss rfl (.t rfl) .c) ?_
  refine W.q rfl rfl rfl rfl (by decide) (Yd.mv rfl (.t rfl)) ?_
  refine W.g rfl rfl rfl rfl rfl (.t rfl _) rfl (by decide) (fun hG => Yd.mv rfl (.t rfl)) ?_
  refine W.g rfl rfl rfl rfl rfl (.t rfl _) rfl (by decide) (fun hG => Yd.gtr rfl (.g rfl hG) .c) ?_
  refine W.q rfl rfl rfl rfl (by decide) (Yd.or rfl (.t rfl) .c rfl rfl) ?_
  refine W.q rfl rfl rfl rfl (by decide) (Yd.mv rfl (.t rfl)) ?_
  refine W.g rfl rfl rfl rfl rfl (.t rfl _) rfl (by decide) (fun hG => Yd.mv rfl (.t rfl)) ?_
  refine W.g rfl rfl rfl rfl rfl (.t rfl _) rfl (by decide) (fun hG => Yd.lenR hpairs_1 rfl Try.underlying22 (.g rfl hG)) ?_
  refine W.g rfl rfl rfl rfl rfl (.t rfl _) rfl (by decide) (fun hG => Yd.gtr rfl (.g rfl hG) .c) ?_
  refine W.q rfl rfl rfl rfl (by decide) (Yd.or rfl (.t rfl) .c rfl rfl) ?_
  refine W.end ?_
  refine NX.sub (env' := [(0, _), (1, _), (19, _)]) ⟨rfl, rfl, rfl, trivial⟩ ?_
  refine NX.then ?_
  refine Tr.cond (.t rfl) (fun hb => ?_) (fun hb => ?_)
  · have hr := cond_t hb hr
    refine Tr.seq ?_
    refine Tr.region_f (fun _ => false) ?_
    refine W.q rfl rfl rfl rfl (by decide) (Yd.as rfl .c) ?_
    refine W.end ?_
    refine NX.sub (env' := [(4, _)]) ⟨rfl, trivial⟩ ?_
    refine NX.then ?_
    refine Tr.ret' (RT.then ?_)
    refine res1 rfl rfl ?_
    intro w hc
    cases hr
    exact ⟨rfl, hc⟩
  · have hr := cond_f hb hr
    refine Tr.skip' ?_
    refine NX.then ?_
    refine Tr.seq ?_
    refine Tr.seq ?_
    refine Tr.region_f (fun _ => false) ?_
    refine W.q rfl rfl rfl rfl (by decide) (Yd.mv rfl (.t rfl)) ?_
    refine W.q rfl rfl rfl rfl (by decide) (Yd.lenR hpairs_1 rfl Try.underlying22 (.t rfl)) ?_
    refine W.q rfl rfl rfl rfl (by decide) (Yd.mv rfl .c) ?_
    refine W.end ?_
    refine NX.sub (env' := [(0, _), (1, _), (20, _), (21, _), (22, _)]) ⟨rfl, rfl, rfl, rfl, rfl, trivial⟩ ?_
    refine NX.then ?_
    refine Tr.join (S := fun env x => env = [(0, .int .i64 n_0), (1, upairs_1)] ∧ x = ⟨m, l⟩ ∧ syllogistref_OrderCheck_k3 n_0 pairs_1 fuel = some r) ?_ (fun hk4 => ?_)
    · rintro _ _ ⟨rfl, rfl, hr⟩
      unfold syllogistref_OrderCheck_k3 at hr
      try dsimp only at hr
      refine NX.then ?_
      refine Tr.seq ?_
      refine Tr.seq ?_
      refine Tr.region_f (fun _ => false) ?_
      refine W.q rfl rfl rfl rfl (by decide) (Yd.as rfl .c) ?_
      refine W.end ?_
      refine NX.sub (env' := [(0, _), (1, _), (7, _)]) ⟨rfl, rfl, rfl, trivial⟩ ?_
      refine NX.then ?_
      refine Tr.join (S := fun env x => env = [] ∧ x = ⟨m, l⟩ ∧ syllogistref_OrderCheck_k7 = some r) ?_ (fun hk8 => ?_)
      · rintro _ _ ⟨rfl, rfl, hr⟩
        unfold syllogistref_OrderCheck_k7 at hr
        try dsimp only at hr
        refine NX.then ?_
        refine Tr.seq ?_
        refine Tr.region_f (fun _ => false) ?_
        refine W.q rfl rfl rfl rfl (by decide) (Yd.as rfl .c) ?_
        refine W.end ?_
        refine NX.sub (env' := [(4, _)]) ⟨rfl, trivial⟩ ?_
        refine NX.then ?_
        refine Tr.ret' ?_
        refine res1 rfl rfl ?_
        intro w hc
        cases hr
        exact ⟨rfl, hc⟩
      obtain ⟨hle9, hr⟩ := guard_some hr; replace hle9 := of_decide_eq_true hle9
      refine Tr.block ?_
      refine Tr.sub (env' := [(0, _), (1, _), (7, _)]) ⟨rfl, rfl, rfl, trivial⟩ ?_
      refine Tr.loop (S := fun n (z : Int × Unit) env x => match z with | (i_10, _) => env = [(0, .int .i64 n_0), (1, upairs_1), (7, .int .i64 i_10)] ∧ x = ⟨m, l⟩ ∧ n = (n_0 - i_10).toNat ∧ 0 ≤ i_10 ∧ forK (σ := Unit) (fun i s nx_ => syllogistref_OrderCheck_b11 n_0 pairs_1 fuel i nx_) (fun _ => syllogistref_OrderCheck_k7) n i_10 () = some r) _ ((0 : Int), ()) ⟨rfl, rfl, rfl, (by omega), hr⟩ ?_
      rintro n13 ⟨i_10, _⟩ env x ⟨rfl, rfl, hni_10, h0i_10, hr⟩
      cases n13 with
      | zero =>
        simp only [forK] at hr
        refine Tr.seq ?_
        refine Tr.seq ?_
        refine Tr.region_f (fun _ => false) ?_
        refine W.q rfl rfl rfl rfl (by decide) (Yd.mv rfl (.t rfl)) ?_
        refine W.q rfl rfl rfl rfl (by decide) (Yd.mv rfl (.t rfl)) ?_
        refine W.q rfl rfl rfl rfl (by decide) (Yd.lss rfl (.t rfl) (.t rfl)) ?_
        refine W.end ?_
        refine NX.sub (env' := [(0, _), (1, _), (7, _), (49, _)]) ⟨rfl, rfl, rfl, rfl, trivial⟩ ?_
        refine NX.then ?_
        refine Tr.cond (.t rfl) (fun hb => ?_) (fun hb => ?_)
        · exact absurd (hb.symm.trans (fr_end hni_10)) (by decide)
        ·
          refine Tr.exit' (EX.then (EX.then (EX.block ?_)))
          refine NX.sub (env' := []) trivial ?_
          exact hk8 _ _ ⟨rfl, rfl, hr⟩
      | succ n13 =>
        obtain ⟨nx12, hnx12, hr⟩ := forK_succ hr
        try dsimp only at hr
        unfold syllogistref_OrderCheck_b11 at hr
        try dsimp only at hr
        have hlti_10 := fr_bnd hni_10
        refine Tr.seq ?_
        refine Tr.seq ?_
        refine Tr.region_f (fun _ => false) ?_
        refine W.q rfl rfl rfl rfl (by decide) (Yd.mv rfl (.t rfl)) ?_
        refine W.q rfl rfl rfl rfl (by decide) (Yd.mv rfl (.t rfl)) ?_
        refine W.q rfl rfl rfl rfl (by decide) (Yd.lss rfl (.t rfl) (.t rfl)) ?_
        refine W.end ?_
        refine NX.sub (env' := [(0, _), (1, _), (7, _), (49, _)]) ⟨rfl, rfl, rfl, rfl, trivial⟩ ?_
        refine NX.then ?_
        refine Tr.cond (.t rfl) (fun hb => ?_) (fun hb => ?_)
        rotate_left
        · exact absurd (hb.symm.trans (fr_go hni_10)) (by decide)
        ·
          refine Tr.skip' ?_
          refine NX.then ?_
          refine Tr.seq ?_
          refine Tr.block ?_
          refine Tr.seq ?_
          refine Tr.region_f (fun _ => false) ?_
          refine W.q rfl rfl rfl rfl (by decide) (Yd.as rfl .c) ?_
          refine W.end ?_
          refine NX.sub (env' := [(0, _), (1, _), (7, _), (8, _)]) ⟨rfl, rfl, rfl, rfl, trivial⟩ ?_
          refine NX.then ?_
          refine Tr.join (S := fun env x => env = [(0, .int .i64 n_0), (1, upairs_1), (7, .int .i64 i_10)] ∧ x = ⟨m, l⟩ ∧ syllogistref_OrderCheck_k16 nx12 = some r) ?_ (fun hk17 => ?_)
          · rintro _ _ ⟨rfl, rfl, hr⟩
            unfold syllogistref_OrderCheck_k16 at hr
            try dsimp only at hr
            refine NX.block ?_
            refine NX.then ?_
            refine Tr.region_f (fun _ => false) ?_
            refine W.q rfl rfl rfl rfl (by decide) (Yd.mv rfl (.t rfl)) ?_
            refine W.q rfl rfl rfl rfl (by decide) (Yd.add rfl (.t rfl) .c) ?_
            refine W.q rfl rfl rfl rfl (by decide) (Yd.as rfl (.t rfl)) ?_
            refine W.end ?_
            refine NX.sub (env' := [(0, _), (1, _), (7, _)]) ⟨rfl, rfl, rfl, trivial⟩ ?_
            refine NX.sub (env' := [(0, _), (1, _), (7, _)]) ⟨rfl, rfl, rfl, trivial⟩ ?_
            have hw := w64_id (n := i_10 + 1) (by omega) (by omega)
            exact NX.again n13 (i_10 + 1, ()) (Nat.lt_succ_self _) ⟨(by rw [hw] <;> rfl), rfl, (fr_dec hni_10), (by omega), ((hnx12 _).symm.trans hr)⟩
          obtain ⟨hle18, hr⟩ := guard_some hr; replace hle18 := of_decide_eq_true hle18
          refine Tr.block ?_
          refine Tr.sub (env' := [(0, _), (1, _), (7, _), (8, _)]) ⟨rfl, rfl, rfl, rfl, trivial⟩ ?_
          refine Tr.loop (S := fun n (z : Int × Unit) env x => match z with | (j_19, _) => env = [(0, .int .i64 n_0), (1, upairs_1), (7, .int .i64 i_10), (8, .int .i64 j_19)] ∧ x = ⟨m, l⟩ ∧ n = (i_10 - j_19).toNat ∧ 0 ≤ j_19 ∧ forK (σ := Unit) (fun i s nx_ => syllogistref_OrderCheck_b20 n_0 pairs_1 fuel i_10 i nx_) (fun _ => syllogistref_OrderCheck_k16 nx12) n j_19 () = some r) _ ((0 : Int), ()) ⟨rfl, rfl, rfl, (by omega), hr⟩ ?_
          rintro n22 ⟨j_19, _⟩ env x ⟨rfl, rfl, hnj_19, h0j_19, hr⟩
          cases n22 with
          | zero =>
            simp only [forK] at hr
            refine Tr.seq ?_
            refine Tr.seq ?_
            refine Tr.region_f (fun _ => false) ?_
            refine W.q rfl rfl rfl rfl (by decide) (Yd.mv rfl (.t rfl)) ?_
            refine W.q rfl rfl rfl rfl (by decide) (Yd.mv rfl (.t rfl)) ?_
            refine W.q rfl rfl rfl rfl (by decide) (Yd.lss rfl (.t rfl) (.t rfl)) ?_
            refine W.end ?_
            refine NX.sub (env' := [(0, _), (1, _), (7, _), (8, _), (54, _)]) ⟨rfl, rfl, rfl, rfl, rfl, trivial⟩ ?_
            refine NX.then ?_
            refine Tr.cond (.t rfl) (fun hb => ?_) (fun hb => ?_)
            · exact absurd (hb.symm.trans (fr_end hnj_19)) (by decide)
            ·
              refine Tr.exit' (EX.then (EX.then (EX.block ?_)))
              refine NX.sub (env' := [(0, _), (1, _), (7, _)]) ⟨rfl, rfl, rfl, trivial⟩ ?_
              exact hk17 _ _ ⟨rfl, rfl, hr⟩
          | succ n22 =>
            obtain ⟨nx21, hnx21, hr⟩ := forK_succ hr
            try dsimp only at hr
            unfold syllogistref_OrderCheck_b20 at hr
            try dsimp only at hr
            have hltj_19 := fr_bnd hnj_19
            refine Tr.seq ?_
            refine Tr.seq ?_
            refine Tr.region_f (fun _ => false) ?_
            refine W.q rfl rfl rfl rfl (by decide) (Yd.mv rfl (.t rfl)) ?_
            refine W.q rfl rfl rfl rfl (by decide) (Yd.mv rfl (.t rfl)) ?_
            refine W.q rfl rfl rfl rfl (by decide) (Yd.lss rfl (.t rfl) (.t rfl)) ?_
            refine W.end ?_
            refine NX.sub (env' := [(0, _), (1, _), (7, _), (8, _), (54, _)]) ⟨rfl, rfl, rfl, rfl, rfl, trivial⟩ ?_
            refine NX.then ?_
            refine Tr.cond (.t rfl) (fun hb => ?_) (fun hb => ?_)
            rotate_left
            · exact absurd (hb.symm.trans (fr_go hnj_19)) (by decide)
            ·
              refine Tr.skip' ?_
              refine NX.then ?_
              refine Tr.seq ?_
              refine Tr.block ?_
              refine Tr.seq ?_
              obtain ⟨r23, hr24, hr⟩ := bind_some hr
              obtain ⟨ha25, hr⟩ := guard_some hr
              refine Tr.region_f (fun _ => false) ?_
              refine W.q rfl rfl rfl rfl (by decide) (Yd.mv rfl (.t rfl)) ?_
              refine W.q rfl rfl rfl rfl (by decide) (Yd.mv rfl (.t rfl)) ?_
              refine W.q rfl rfl rfl rfl (by decide) (Yd.mv rfl (.t rfl)) ?_
              refine W.q rfl rfl rfl rfl (by decide) (Yd.mv rfl (.t rfl)) ?_
              refine W.q rfl rfl rfl rfl (by decide) (Yd.call (v := .bool r23) rfl Try.func11 rfl rfl (.cons (.t rfl) (.cons (.t rfl) (.cons (.t rfl) (.cons (.t rfl) .nil)))) (fun x' hx w hw => syllogistref_Under_ok w0 x'.m x'.l fuel n_0 _ _ (hpairs_1.mono hx.1) i_10 j_19 _ hr24 w hw)) ?_
              refine W.q rfl rfl rfl rfl (by decide) (Yd.mv rfl (.t rfl)) ?_
              refine W.g rfl rfl rfl rfl rfl (.t rfl _) rfl (by decide) (fun hG => Yd.mv rfl (.t rfl)) ?_
              refine W.g rfl rfl rfl rfl rfl (.t rfl _) rfl (by decide) (fun hG => Yd.mv rfl (.t rfl)) ?_
              refine W.g rfl rfl rfl rfl rfl (.t rfl _) rfl (by decide) (fun hG => Yd.mv rfl (.t rfl)) ?_
              refine W.g rfl rfl rfl rfl rfl (.t rfl _) rfl (by decide) (fun hG => Yd.mv rfl (.t rfl)) ?_
              refine W.g rfl rfl rfl rfl rfl (.t rfl _) rfl (by decide) (fun hG => Yd.call (v := .bool ((((syllogistref_Under fuel n_0 pairs_1 j_19 i_10).getD false)))) rfl Try.func11 rfl rfl (.cons (.g rfl hG) (.cons (.g rfl hG) (.cons (.g rfl hG) (.cons (.g rfl hG) .nil)))) (fun x' hx w hw => syllogistref_Under_ok w0 x'.m x'.l fuel n_0 _ _ (hpairs_1.mono hx.1) j_19 i_10 _ (gd_get (d := false) ha25 hG) w hw)) ?_
              refine W.q rfl rfl rfl rfl (by decide) (Yd.and rfl (.t rfl) .c rfl rfl) ?_
              refine W.end ?_
              refine NX.sub (env' := [(0, _), (1, _), (7, _), (8, _), (68, _)]) ⟨rfl, rfl, rfl, rfl, rfl, trivial⟩ ?_
              refine NX.then ?_
              refine Tr.cond (.t rfl) (fun hb => ?_) (fun hb => ?_)
              · have hr := cond_t hb hr
                refine Tr.seq ?_
                refine Tr.region_f (fun _ => false) ?_
                refine W.q rfl rfl rfl rfl (by decide) (Yd.as rfl .c) ?_
                refine W.end ?_
                refine NX.sub (env' := [(4, _)]) ⟨rfl, trivial⟩ ?_
                refine NX.then ?_
                refine Tr.ret' (RT.block (RT.then (RT.then (RT.block (RT.block (RT.then (RT.then (RT.block (RT.then ?_)))))))))
                refine res1 rfl rfl ?_
                intro w hc
                cases hr
                exact ⟨rfl, hc⟩
              · have hr := cond_f hb hr
                refine Tr.skip' ?_
                refine NX.block ?_
                refine NX.then ?_
                refine Tr.region_f (fun _ => false) ?_
                refine W.q rfl rfl rfl rfl (by decide) (Yd.mv rfl (.t rfl)) ?_
                refine W.q rfl rfl rfl rfl (by decide) (Yd.add rfl (.t rfl) .c) ?_
                refine W.q rfl rfl rfl rfl (by decide) (Yd.as rfl (.t rfl)) ?_
                refine W.end ?_
                refine NX.sub (env' := [(0, _), (1, _), (7, _), (8, _)]) ⟨rfl, rfl, rfl, rfl, trivial⟩ ?_
                refine NX.sub (env' := [(0, _), (1, _), (7, _), (8, _)]) ⟨rfl, rfl, rfl, rfl, trivial⟩ ?_
                have hw := w64_id (n := j_19 + 1) (by omega) (by omega)
                exact NX.again n22 (j_19 + 1, ()) (Nat.lt_succ_self _) ⟨(by rw [hw] <;> rfl), rfl, (fr_dec hnj_19), (by omega), ((hnx21 _).symm.trans hr)⟩
    have hlen26 := (hpairs_1).2.1
    refine Tr.block ?_
    refine Tr.sub (env' := [(0, _), (1, _), (20, _), (21, _), (22, _)]) ⟨rfl, rfl, rfl, rfl, rfl, trivial⟩ ?_
    refine Tr.loop (S := fun n (z : Int × Unit) env x => match z with | (t_27, _) => env = [(0, .int .i64 n_0), (1, upairs_1), (20, upairs_1), (21, .int .i64 ((pairs_1.length : Int))), (22, .int .i64 t_27)] ∧ x = ⟨m, l⟩ ∧ n = ((pairs_1.length : Int) - t_27).toNat ∧ 0 ≤ t_27 ∧ forK (σ := Unit) (fun i s nx_ => syllogistref_OrderCheck_b28 n_0 pairs_1 i nx_) (fun _ => syllogistref_OrderCheck_k3 n_0 pairs_1 fuel) n t_27 () = some r) _ ((0 : Int), ()) ⟨rfl, rfl, rfl, (by omega), hr⟩ ?_
    rintro n30 ⟨t_27, _⟩ env x ⟨rfl, rfl, hnt_27, h0t_27, hr⟩
    cases n30 with
    | zero =>
      simp only [forK] at hr
      refine Tr.seq ?_
      refine Tr.region_f (fun _ => false) ?_
      refine W.q rfl rfl rfl rfl (by decide) (Yd.lss rfl (.t rfl) (.t rfl)) ?_
      refine W.end ?_
      refine NX.sub (env' := [(0, _), (1, _), (20, _), (21, _), (22, _), (23, _)]) ⟨rfl, rfl, rfl, rfl, rfl, rfl, trivial⟩ ?_
      refine NX.then ?_
      refine Tr.seq ?_
      refine Tr.cond (.t rfl) (fun hb => ?_) (fun hb => ?_)
      · exact absurd (hb.symm.trans (fr_end hnt_27)) (by decide)
      ·
        refine Tr.exit' (EX.then (EX.then (EX.block ?_)))
        refine NX.sub (env' := [(0, _), (1, _)]) ⟨rfl, rfl, trivial⟩ ?_
        exact hk4 _ _ ⟨rfl, rfl, hr⟩
    | succ n30 =>
      obtain ⟨nx29, hnx29, hr⟩ := forK_succ hr
      try dsimp only at hr
      unfold syllogistref_OrderCheck_b28 at hr
      try dsimp only at hr
      have hltt_27 := fr_bnd hnt_27
      refine Tr.seq ?_
      refine Tr.region_f (fun _ => false) ?_
      refine W.q rfl rfl rfl rfl (by decide) (Yd.lss rfl (.t rfl) (.t rfl)) ?_
      refine W.end ?_
      refine NX.sub (env' := [(0, _), (1, _), (20, _), (21, _), (22, _), (23, _)]) ⟨rfl, rfl, rfl, rfl, rfl, rfl, trivial⟩ ?_
      refine NX.then ?_
      refine Tr.seq ?_
      refine Tr.cond (.t rfl) (fun hb => ?_) (fun hb => ?_)
      rotate_left
      · exact absurd (hb.symm.trans (fr_go hnt_27)) (by decide)
      ·
        refine Tr.skip' ?_
        refine NX.then ?_
        refine Tr.seq ?_
        refine Tr.block ?_
        refine Tr.seq ?_
        obtain ⟨y31, hy32, hr⟩ := bind_some hr
        refine Tr.region_f (fun i => Nat.beq i 2 || Nat.beq i 3) ?_
        refine W.q rfl rfl rfl rfl (by decide) (Yd.idxR hpairs_1 hy32 rfl Try.underlying22 SZ38 (.t rfl) (.t rfl)) ?_
        refine W.q rfl rfl rfl rfl (by decide) (Yd.ldFs (us := [_, _]) hpairs_1 (.refl _) hy32 rfl rfl ON38 US38 SZ38 (.t rfl)) ?_
        refine W.e rfl rfl rfl rfl (by decide) (Ef.al rfl ZR38 rfl) ?_
        rintro _ _ ⟨b33, rfl, rfl⟩
        refine ⟨.inl rfl, ?_⟩
        refine W.cast (m' := m) (l' := hcells b33 [_, _] 38 :: l) rfl rfl ?_
        refine W.s rfl rfl rfl rfl (Ef.stB (pos := 0) (us := [_, _]) (cs' := [_, _]) rfl rfl (.t rfl) (.t rfl) SZ38 rfl rfl rfl (Nat.le_of_ble_eq_true rfl) rfl) ?_
        rintro _ _ ⟨rfl, rfl⟩
        refine ⟨.inl rfl, ?_⟩
        refine W.cast (m' := m) (l' := hcells b33 [_, _] 38 :: l) rfl rfl ?_
        refine W.end ?_
        refine NX.sub (env' := [(0, _), (1, _), (20, _), (21, _), (22, _), (6, _)]) ⟨rfl, rfl, rfl, rfl, rfl, rfl, trivial⟩ ?_
        refine NX.then ?_
        refine Tr.seq ?_
        refine Tr.region_f (fun _ => false) ?_
        refine W.q rfl rfl rfl rfl (by decide) (Yd.arrB rfl Try.underlying38 SZ3 (by decide) (by decide) (.t rfl) .c) ?_
        refine W.q rfl rfl rfl rfl (by decide) (Yd.ldB (pos := 0) rfl rfl rfl ON3 (.t rfl)) ?_
        refine W.q rfl rfl rfl rfl (by decide) (Yd.lss rfl (.t rfl) .c) ?_
        refine W.q rfl rfl rfl rfl (by decide) (Yd.mv rfl (.t rfl)) ?_
        refine W.g rfl rfl rfl rfl rfl (.t rfl _) rfl (by decide) (fun hG => Yd.arrB rfl Try.underlying38 SZ3 (by decide) (by decide) (.t rfl) .c) ?_
        refine W.g rfl rfl rfl rfl rfl (.t rfl _) rfl (by decide) (fun hG => Yd.ldB (pos := 0) rfl rfl rfl ON3 (.g rfl hG)) ?_
        refine W.g rfl rfl rfl rfl rfl (.t rfl _) rfl (by decide) (fun hG => Yd.mv rfl (.t rfl)) ?_
        refine W.g rfl rfl rfl rfl rfl (.t rfl _) rfl (by decide) (fun hG => Yd.geq rfl (.g rfl hG) (.g rfl hG)) ?_
        refine W.q rfl rfl rfl rfl (by decide) (Yd.or rfl (.t rfl) .c rfl rfl) ?_
        refine W.q rfl rfl rfl rfl (by decide) (Yd.mv rfl (.t rfl)) ?_
        refine W.g rfl rfl rfl rfl rfl (.t rfl _) rfl (by decide) (fun hG => Yd.arrB rfl Try.underlying38 SZ3 (by decide) (by decide) (.t rfl) .c) ?_
        refine W.g rfl rfl rfl rfl rfl (.t rfl _) rfl (by decide) (fun hG => Yd.ldB (pos := 0) rfl rfl rfl ON3 (.g rfl hG)) ?_
        refine W.g rfl rfl rfl rfl rfl (.t rfl _) rfl (by decide) (fun hG => Yd.lss rfl (.g rfl hG) .c) ?_
        refine W.q rfl rfl rfl rfl (by decide) (Yd.or rfl (.t rfl) .c rfl rfl) ?_
        refine W.q rfl rfl rfl rfl (by decide) (Yd.mv rfl (.t rfl)) ?_
        refine W.g rfl rfl rfl rfl rfl (.t rfl _) rfl (by decide) (fun hG => Yd.arrB rfl Try.underlying38 SZ3 (by decide) (by decide) (.t rfl) .c) ?_
        refine W.g rfl rfl rfl rfl rfl (.t rfl _) rfl (by decide) (fun hG => Yd.ldB (pos := 0) rfl rfl rfl ON3 (.g rfl hG)) ?_
        refine W.g rfl rfl rfl rfl rfl (.t rfl _) rfl (by decide) (fun hG => Yd.mv rfl (.t rfl)) ?_
        refine W.g rfl rfl rfl rfl rfl (.t rfl _) rfl (by decide) (fun hG => Yd.geq rfl (.g rfl hG) (.g rfl hG)) ?_
        refine W.q rfl rfl rfl rfl (by decide) (Yd.or rfl (.t rfl) .c rfl rfl) ?_
        refine W.end ?_
        refine NX.sub (env' := [(0, _), (1, _), (20, _), (21, _), (22, _), (45, _)]) ⟨rfl, rfl, rfl, rfl, rfl, rfl, trivial⟩ ?_
        refine NX.drop (l' := l) (.cons _ (.refl _)) ?_
        refine NX.then ?_
        refine Tr.cond (.t rfl) (fun hb => ?_) (fun hb => ?_)
        · have hr := cond_t hb hr
          refine Tr.seq ?_
          refine Tr.region_f (fun _ => false) ?_
          refine W.q rfl rfl rfl rfl (by decide) (Yd.as rfl .c) ?_
          refine W.end ?_
          refine NX.sub (env' := [(4, _)]) ⟨rfl, trivial⟩ ?_
          refine NX.then ?_
          refine Tr.ret' (RT.block (RT.then (RT.then (RT.block (RT.then ?_)))))
          refine res1 rfl rfl ?_
          intro w hc
          cases hr
          exact ⟨rfl, hc⟩
        · have hr := cond_f hb hr
          refine Tr.skip' ?_
          refine NX.block ?_
          refine NX.then ?_
          refine Tr.region_f (fun _ => false) ?_
          refine W.q rfl rfl rfl rfl (by decide) (Yd.add rfl (.t rfl) .c) ?_
          refine W.q rfl rfl rfl rfl (by decide) (Yd.mv rfl (.t rfl)) ?_
          refine W.end ?_
          refine NX.sub (env' := [(0, _), (1, _), (20, _), (21, _), (22, _)]) ⟨rfl, rfl, rfl, rfl, rfl, trivial⟩ ?_
          refine NX.sub (env' := [(0, _), (1, _), (20, _), (21, _), (22, _)]) ⟨rfl, rfl, rfl, rfl, rfl, trivial⟩ ?_
          have hw := w64_id (n := t_27 + 1) (by omega) (by omega)
          exact NX.again n30 (t_27 + 1, ()) (Nat.lt_succ_self _) ⟨(by rw [hw] <;> rfl), rfl, (fr_dec hnt_27), (by omega), ((hnx29 _).symm.trans hr)⟩

def syllogistref_Longest_k15 (best_11 : List Int) : Option ((List Int)) :=
  some best_11

def syllogistref_Longest_b19 (n_0 : Int) (pairs_1 : List (Int × Int)) (l_2 : List Int) (slf : (Int → (List (Int × Int)) → (List Int) → Option ((List Int)))) (fuel : Nat) (i_18 : Int) (best_6 : List Int) (nx20 : (List Int) → Option ((List Int))) : Option ((List Int)) :=
  bif (!(((l_2.length : Int) == (0 : Int)) == false) || (geti l_2 ((w64 ((l_2.length : Int) - (1 : Int))))).isSome) then
  bif (!((((l_2.length : Int) == (0 : Int)) == false) && ((((geti l_2 ((w64 ((l_2.length : Int) - (1 : Int))))).getD (0 : Int)) != i_18) == true)) || (geti l_2 ((w64 ((l_2.length : Int) - (1 : Int))))).isSome) then
  bif (!((((l_2.length : Int) == (0 : Int)) == false) && ((((geti l_2 ((w64 ((l_2.length : Int) - (1 : Int))))).getD (0 : Int)) != i_18) == true)) || (syllogistref_Under fuel n_0 pairs_1 (((geti l_2 ((w64 ((l_2.length : Int) - (1 : Int))))).getD (0 : Int))) i_18).isSome) then
  (bif (((l_2.length : Int) == (0 : Int)) || ((((geti l_2 ((w64 ((l_2.length : Int) - (1 : Int))))).getD (0 : Int)) != i_18) && (((syllogistref_Under fuel n_0 pairs_1 (((geti l_2 ((w64 ((l_2.length : Int) - (1 : Int))))).getD (0 : Int))) i_18).getD false)))) then
  bif decide ((([] : List Int)).length + l_2.length ≤ 17592186044416) then
  bif decide (((([] : List Int) ++ l_2)).length + (([i_18] : List Int)).length ≤ 17592186044416) then
  (slf n_0 pairs_1 (((([] : List Int) ++ l_2) ++ ([i_18] : List Int)))).bind fun r33 =>
  (bif (decide ((r33.length : Int) > (best_6.length : Int))) then
  nx20 r33
  else
  nx20 best_6) else none else none
  else
  nx20 best_6) else none else none else none

def syllogistref_Longest_s (slf : (Int → (List (Int × Int)) → (List Int) → Option ((List Int)))) (fuel : Nat) (n_0 : Int) (pairs_1 : List (Int × Int)) (l_2 : List Int) : Option ((List Int)) :=
  bif decide (n_0 ≤ 9223372036854775807) then
  forK (σ := (List Int)) (fun i s nx_ => syllogistref_Longest_b19 n_0 pairs_1 l_2 slf fuel i s nx_) (fun s => syllogistref_Longest_k15 s) (n_0 - (0 : Int)).toNat (0 : Int) l_2 else none

def syllogistref_Longest (fuel : Nat) (n_0 : Int) (pairs_1 : List (Int × Int)) (l_2 : List Int) : Option ((List Int)) :=
  match fuel with
  | 0 => none
  | fuel + 1 => syllogistref_Longest_s (syllogistref_Longest fuel) fuel n_0 pairs_1 l_2

set_option maxRecDepth 100000 in
set_option maxHeartbeats 4000000 in
theorem syllogistref_Longest_ok (w0 : World) (m : Snap) (l : List HI) (fuel : Nat) : ∀ (n_0 : Int) (upairs_1 : Value) (pairs_1 : List (Int × Int)) (hpairs_1 : RS rP m upairs_1 pairs_1) (ul_2 : Value) (l_2 : List Int) (hl_2 : RS rI m ul_2 l_2) (r : (List Int)) (_ : syllogistref_Longest fuel n_0 pairs_1 l_2 = some r) (w : World) (_ : cX w0 ⟨m, l⟩ w),
    Calls Try.prog 7 [.int .i64 n_0, upairs_1, ul_2].toArray w fun e w' => ∃ z0 : Value, ∃ m1 : Snap, e = .returned (z0) ∧ Sle m m1 ∧ RS rI m1 z0 r ∧ cX w0 ⟨m1, l⟩ w' := by
  induction fuel generalizing m l with
  | zero => intro n_0 upairs_1 pairs_1 hpairs_1 ul_2 l_2 hl_2 r hr; simp [syllogistref_Longest] at hr
  | succ fuel ih =>
  intro n_0 upairs_1 pairs_1 hpairs_1 ul_2 l_2 hl_2 r hr w hc
  replace hr : syllogistref_Longest_s (syllogistref_Longest fuel) fuel n_0 pairs_1 l_2 = some r := hr
  obtain ⟨slf, hslf⟩ : ∃ f, f = syllogistref_Longest fuel := ⟨_, rfl⟩
  rw [← hslf] at hr ih
  unfold syllogistref_Longest_s at hr
  refine calls_of_Tr (N := 57) Try.func7 rfl hc rfl (Nat.le_of_ble_eq_true rfl) ?_
  refine Tr.seq ?_
  refine Tr.region_f (fun _ => false) ?_
  refine W.q rfl rfl rfl rfl (by decide) (Yd.as rfl .c) ?_
  refine W.end ?_
  refine NX.sub (env' := [(0, _), (1, _), (2, _)]) ⟨rfl, rfl, rfl, trivial⟩ ?_
  refine NX.then ?_
  refine Tr.seq ?_
  refine Tr.region_f (fun _ => false) ?_
  refine W.q rfl rfl rfl rfl (by decide) (Yd.mv rfl (.t rfl)) ?_
  refine W.q rfl rfl rfl rfl (by decide) (Yd.as rfl (.t rfl)) ?_
  refine W.end ?_
  refine NX.sub (env' := [(0, _), (1, _), (2, _), (7, _)]) ⟨rfl, rfl, rfl, rfl, trivial⟩ ?_
  refine NX.then ?_
  refine Tr.seq ?_
  refine Tr.seq ?_
  refine Tr.region_f (fun _ => false) ?_
  refine W.q rfl rfl rfl rfl (by decide) (Yd.as rfl .c) ?_
  refine W.end ?_
  refine NX.sub (env' := [(0, _), (1, _), (2, _), (7, _), (8, _)]) ⟨rfl, rfl, rfl, rfl, rfl, trivial⟩ ?_
  refine NX.then ?_
  refine Tr.join (S := fun env x => ∃ best_11 : List Int, ∃ m14 : Snap, ∃ u12 : Value, Sle m m14 ∧ RS rI m14 u12 best_11 ∧ env = [(7, u12)] ∧ x = ⟨m14, l⟩ ∧ syllogistref_Longest_k15 best_11 = some r) ?_ (fun hk16 => ?_)
  · rintro _ _ ⟨best_11, m14, u12, hsm14, hu13, rfl, rfl, hr⟩
    unfold syllogistref_Longest_k15 at hr
    try dsimp only at hr
    have hpairs_1 := hpairs_1.mono hsm14
    have hl_2 := hl_2.mono hsm14
    refine NX.then ?_
    refine Tr.seq ?_
    refine Tr.region_f (fun _ => false) ?_
    refine W.q rfl rfl rfl rfl (by decide) (Yd.mv rfl (.t rfl)) ?_
    refine W.q rfl rfl rfl rfl (by decide) (Yd.as rfl (.t rfl)) ?_
    refine W.end ?_
    refine NX.sub (env' := [(6, _)]) ⟨rfl, trivial⟩ ?_
    refine NX.then ?_
    refine Tr.ret' ?_
    refine res1 rfl rfl ?_
    intro w hc
    cases hr
    exact ⟨_, _, rfl, hsm14, hu13, hc⟩
  obtain ⟨hle17, hr⟩ := guard_some hr; replace hle17 := of_decide_eq_true hle17
  refine Tr.block ?_
  refine Tr.sub (env' := [(0, _), (1, _), (2, _), (7, _), (8, _)]) ⟨rfl, rfl, rfl, rfl, rfl, trivial⟩ ?_
  refine Tr.loop (S := fun n (z : Int × (List Int)) env x => match z with | (i_18, best_6) => ∃ m10 : Snap, ∃ u7 : Value, Sle m m10 ∧ RS rI m10 u7 best_6 ∧ env = [(0, .int .i64 n_0), (1, upairs_1), (2, ul_2), (7, u7), (8, .int .i64 i_18)] ∧ x = ⟨m10, l⟩ ∧ n = (n_0 - i_18).toNat ∧ 0 ≤ i_18 ∧ forK (σ := (List Int)) (fun i s nx_ => syllogistref_Longest_b19 n_0 pairs_1 l_2 slf fuel i s nx_) (fun s => syllogistref_Longest_k15 s) n i_18 best_6 = some r) _ ((0 : Int), l_2) ⟨_, _, (.refl _), hl_2, rfl, rfl, rfl, (by omega), hr⟩ ?_
  rintro n21 ⟨i_18, best_6⟩ env x ⟨m10, u7, hsm10, hu8, rfl, rfl, hni_18, h0i_18, hr⟩
  have hpairs_1 := hpairs_1.mono hsm10
  have hl_2 := hl_2.mono hsm10
  cases n21 with
  | zero =>
    simp only [forK] at hr
    refine Tr.seq ?_
    refine Tr.seq ?_
    refine Tr.region_f (fun _ => false) ?_
    refine W.q rfl rfl rfl rfl (by decide) (Yd.mv rfl (.t rfl)) ?_
    refine W.q rfl rfl rfl rfl (by decide) (Yd.mv rfl (.t rfl)) ?_
    refine W.q rfl rfl rfl rfl (by decide) (Yd.lss rfl (.t rfl) (.t rfl)) ?_
    refine W.end ?_
    refine NX.sub (env' := [(0, _), (1, _), (2, _), (7, _), (8, _), (13, _)]) ⟨rfl, rfl, rfl, rfl, rfl, rfl, trivial⟩ ?_
    refine NX.then ?_
    refine Tr.cond (.t rfl) (fun hb => ?_) (fun hb => ?_)
    · exact absurd (hb.symm.trans (fr_end hni_18)) (by decide)
    ·
      refine Tr.exit' (EX.then (EX.then (EX.block ?_)))
      refine NX.sub (env' := [(7, _)]) ⟨rfl, trivial⟩ ?_
      exact hk16 _ _ ⟨_, _, _, hsm10, hu8, rfl, rfl, hr⟩
  | succ n21 =>
    obtain ⟨nx20, hnx20, hr⟩ := forK_succ hr
    try dsimp only at hr
    unfold syllogistref_Longest_b19 at hr
    try dsimp only at hr
    have hlti_18 := fr_bnd hni_18
    refine Tr.seq ?_
    refine Tr.seq ?_
    refine Tr.region_f (fun _ => false) ?_
    refine W.q rfl rfl rfl rfl (by decide) (Yd.mv rfl (.t rfl)) ?_
    refine W.q rfl rfl rfl rfl (by decide) (Yd.mv rfl (.t rfl)) ?_
    refine W.q rfl rfl rfl rfl (by decide) (Yd.lss rfl (.t rfl) (.t rfl)) ?_
    refine W.end ?_
    refine NX.sub (env' := [(0, _), (1, _), (2, _), (7, _), (8, _), (13, _)]) ⟨rfl, rfl, rfl, rfl, rfl, rfl, trivial⟩ ?_
    refine NX.then ?_
    refine Tr.cond (.t rfl) (fun hb => ?_) (fun hb => ?_)
    rotate_left
    · exact absurd (hb.symm.trans (fr_go hni_18)) (by decide)
    ·
      refine Tr.skip' ?_
      refine NX.then ?_
      refine Tr.seq ?_
      refine Tr.block ?_
      refine Tr.seq ?_
      obtain ⟨ha22, hr⟩ := guard_some hr
      obtain ⟨ha23, hr⟩ := guard_some hr
      obtain ⟨ha24, hr⟩ := guard_some hr
      refine Tr.region_f (fun _ => false) ?_
      refine W.q rfl rfl rfl rfl (by decide) (Yd.mv rfl (.t rfl)) ?_
      refine W.q rfl rfl rfl rfl (by decide) (Yd.lenR hl_2 rfl Try.underlying23 (.t rfl)) ?_
      refine W.q rfl rfl rfl rfl (by decide) (Yd.eql rfl (.t rfl) .c) ?_
      refine W.q rfl rfl rfl rfl (by decide) (Yd.mv rfl (.t rfl)) ?_
      refine W.g rfl rfl rfl rfl rfl (.t rfl _) rfl (by decide) (fun hG => Yd.mv rfl (.t rfl)) ?_
      refine W.g rfl rfl rfl rfl rfl (.t rfl _) rfl (by decide) (fun hG => Yd.mv rfl (.t rfl)) ?_
      refine W.g rfl rfl rfl rfl rfl (.t rfl _) rfl (by decide) (fun hG => Yd.lenR hl_2 rfl Try.underlying23 (.g rfl hG)) ?_
      refine W.g rfl rfl rfl rfl rfl (.t rfl _) rfl (by decide) (fun hG => Yd.sub rfl (.g rfl hG) .c) ?_
      refine W.g rfl rfl rfl rfl rfl (.t rfl _) rfl (by decide) (fun hG => Yd.idxR hl_2 (gd_get (d := (0 : Int)) ha22 hG) rfl Try.underlying23 SZ3 (.g rfl hG) (.g rfl hG)) ?_
      refine W.g rfl rfl rfl rfl rfl (.t rfl _) rfl (by decide) (fun hG => Yd.ldF hl_2 (.refl _) (gd_get (d := (0 : Int)) ha22 hG) rfl rfl ON3 (.g rfl hG)) ?_
      refine W.g rfl rfl rfl rfl rfl (.t rfl _) rfl (by decide) (fun hG => Yd.mv rfl (.t rfl)) ?_
      refine W.g rfl rfl rfl rfl rfl (.t rfl _) rfl (by decide) (fun hG => Yd.neq rfl (.g rfl hG) (.g rfl hG)) ?_
      refine W.g rfl rfl rfl rfl rfl (.t rfl _) rfl (by decide) (fun hG => Yd.mv rfl (.g rfl hG)) ?_
      refine W.g rfl rfl rfl rfl rfl (.g rfl _) rfl (by decide) (fun hG => Yd.mv rfl (.t rfl)) ?_
      refine W.g rfl rfl rfl rfl rfl (.g rfl _) rfl (by decide) (fun hG => Yd.mv rfl (.t rfl)) ?_
      refine W.g rfl rfl rfl rfl rfl (.g rfl _) rfl (by decide) (fun hG => Yd.mv rfl (.t rfl)) ?_
      refine W.g rfl rfl rfl rfl rfl (.g rfl _) rfl (by decide) (fun hG => Yd.mv rfl (.t rfl)) ?_
      refine W.g rfl rfl rfl rfl rfl (.g rfl _) rfl (by decide) (fun hG => Yd.lenR hl_2 rfl Try.underlying23 (.g rfl hG)) ?_
      refine W.g rfl rfl rfl rfl rfl (.g rfl _) rfl (by decide) (fun hG => Yd.sub rfl (.g rfl hG) .c) ?_
      refine W.g rfl rfl rfl rfl rfl (.g rfl _) rfl (by decide) (fun hG => Yd.idxR hl_2 (gd_get (d := (0 : Int)) ha23 hG) rfl Try.underlying23 SZ3 (.g rfl hG) (.g rfl hG)) ?_
      refine W.g rfl rfl rfl rfl rfl (.g rfl _) rfl (by decide) (fun hG => Yd.ldF hl_2 (.refl _) (gd_get (d := (0 : Int)) ha23 hG) rfl rfl ON3 (.g rfl hG)) ?_
      refine W.g rfl rfl rfl rfl rfl (.g rfl _) rfl (by decide) (fun hG => Yd.mv rfl (.t rfl)) ?_
      refine W.g rfl rfl rfl rfl rfl (.g rfl _) rfl (by decide) (fun hG => Yd.call (v := .bool ((((syllogistref_Under fuel n_0 pairs_1 (((geti l_2 ((w64 ((l_2.length : Int) - (1 : Int))))).getD (0 : Int))) i_18).getD false)))) rfl Try.func11 rfl rfl (.cons (.g rfl hG) (.cons (.g rfl hG) (.cons (.g rfl hG) (.cons (.g rfl hG) .nil)))) (fun x' hx w hw => syllogistref_Under_ok w0 x'.m x'.l fuel n_0 _ _ (hpairs_1.mono hx.1) (((geti l_2 ((w64 ((l_2.length : Int) - (1 : Int))))).getD (0 : Int))) i_18 _ (gd_get (d := false) ha24 hG) w hw)) ?_
      refine W.g rfl rfl rfl rfl rfl (.t rfl _) rfl (by decide) (fun hG => Yd.andG rfl (.g rfl hG) .c rfl rfl hG) ?_
      refine W.q rfl rfl rfl rfl (by decide) (Yd.or rfl (.t rfl) .c rfl rfl) ?_
      refine W.end ?_
      refine NX.sub (env' := [(0, _), (1, _), (2, _), (7, _), (8, _), (40, _)]) ⟨rfl, rfl, rfl, rfl, rfl, rfl, trivial⟩ ?_
      refine NX.then ?_
      refine Tr.cond (.t rfl) (fun hb => ?_) (fun hb => ?_)
      · have hr := cond_t hb hr
        refine Tr.seq ?_
        obtain ⟨hq28, hr⟩ := guard_some hr; replace hq28 := of_decide_eq_true hq28
        obtain ⟨hq32, hr⟩ := guard_some hr; replace hq32 := of_decide_eq_true hq32
        obtain ⟨r33, hr34, hr⟩ := bind_some hr
        refine Tr.region_f (fun i => Nat.beq i 2 || Nat.beq i 4 || Nat.beq i 6 || Nat.beq i 7 || Nat.beq i 8) ?_
        refine W.q rfl rfl rfl rfl (by decide) (Yd.mv rfl (.t rfl)) ?_
        refine W.q rfl rfl rfl rfl (by decide) (Yd.mv rfl (.t rfl)) ?_
        refine W.e rfl rfl rfl rfl (by decide) (Ef.bsT (enc := encI) (vs := []) (ys := []) (fun _ => rfl) IF3 rfl Try.underlying23 (by decide) rfl .nil rfl rfl (by decide)) ?_
        rintro v25 _ rfl
        refine ⟨.inl rfl, ?_⟩
        refine W.cast (m' := m10) (l' := hownT 3 1 encI v25 _ :: l) rfl rfl ?_
        refine W.q rfl rfl rfl rfl (by decide) (Yd.mv rfl (.t rfl)) ?_
        refine W.e rfl rfl rfl rfl (by decide) (Ef.apI (pos := 0) (enc := encI) (xs := ([] : List Int)) (ys := l_2) (fun _ => rfl) IF3 rfl rfl Try.underlying23 rfl (by decide) (.t rfl) (.t rfl) (Src.rs (by decide) (.refl _) hl_2) (fun _ => rfl) (by omega) (by omega)) ?_
        rintro v27 _ rfl
        refine ⟨.inl rfl, ?_⟩
        refine W.cast (m' := m10) (l' := hownT 3 1 encI v27 _ :: l) rfl rfl ?_
        refine W.q rfl rfl rfl rfl (by decide) (Yd.mv rfl (.t rfl)) ?_
        refine W.e rfl rfl rfl rfl (by decide) (Ef.bsT (enc := encI) (vs := [_]) (ys := [i_18]) (fun _ => rfl) IF3 rfl Try.underlying23 (by decide) rfl (.cons (.t rfl) .nil) rfl rfl (by decide)) ?_
        rintro v29 _ rfl
        refine ⟨.inl rfl, ?_⟩
        refine W.cast (m' := m10) (l' := hownT 3 1 encI v29 _ :: hownT 3 1 encI v27 _ :: l) rfl rfl ?_
        refine W.e rfl rfl rfl rfl (by decide) (Ef.apI (pos := 1) (enc := encI) (xs := (([] : List Int) ++ l_2)) (ys := ([i_18] : List Int)) (fun _ => rfl) IF3 rfl rfl Try.underlying23 rfl (by decide) (.t rfl) (.t rfl) (Src.own (pos := 0) rfl) (fun _ => rfl) (by omega) (by omega)) ?_
        rintro v31 _ rfl
        refine ⟨.inl rfl, ?_⟩
        refine W.cast (m' := m10) (l' := hownT 3 1 encI v29 _ :: hownT 3 1 encI v31 _ :: l) rfl rfl ?_
        refine W.e rfl rfl rfl rfl (by decide) (Ef.call (R := fun z x' => ∃ u35 : Value, ∃ m36 : Snap, z = u35 ∧ x' = ⟨m36, hownT 3 1 encI v29 (([i_18] : List Int)) :: l⟩ ∧ Sle m10 m36 ∧ RS rI m36 v31 (((([] : List Int) ++ l_2) ++ ([i_18] : List Int))) ∧ RS rI m36 u35 r33) rfl Try.func7 rfl rfl (.cons (.t rfl) (.cons (.t rfl) (.cons (.t rfl) .nil))) (by intro w hw; obtain ⟨m2, hm2, hL1, hc2⟩ := cX_freeze (enc := encI) (n := 1) (p := 1) (fun _ => rfl) hw rfl; exact (ih m2 _ n_0 _ _ (hpairs_1.mono hm2) _ _ hL1 _ hr34 w hc2).mono fun e w' ⟨u35, m36, he, hm', hu37, hc'⟩ => ⟨_, _, he, ⟨u35, m36, rfl, rfl, hm2.trans hm', hL1.mono hm', hu37⟩, hc'⟩)) ?_
        rintro u35 _ ⟨_, m36, rfl, rfl, hsm36, hu38, hu37⟩
        have hpairs_1 := hpairs_1.mono hsm36
        have hl_2 := hl_2.mono hsm36
        have hu8 := hu8.mono hsm36
        refine ⟨.inl rfl, ?_⟩
        refine W.cast (m' := m36) (l' := hownT 3 1 encI v29 _ :: l) rfl rfl ?_
        refine W.q rfl rfl rfl rfl (by decide) (Yd.as rfl (.t rfl)) ?_
        refine W.end ?_
        refine NX.sub (env' := [(0, _), (1, _), (2, _), (7, _), (8, _), (9, _)]) ⟨rfl, rfl, rfl, rfl, rfl, rfl, trivial⟩ ?_
        refine NX.drop (l' := l) (.cons _ (.refl _)) ?_
        refine NX.then ?_
        refine Tr.seq ?_
        refine Tr.region_f (fun _ => false) ?_
        refine W.q rfl rfl rfl rfl (by decide) (Yd.mv rfl (.t rfl)) ?_
        refine W.q rfl rfl rfl rfl (by decide) (Yd.lenR hu37 rfl Try.underlying23 (.t rfl)) ?_
        refine W.q rfl rfl rfl rfl (by decide) (Yd.mv rfl (.t rfl)) ?_
        refine W.q rfl rfl rfl rfl (by decide) (Yd.lenR hu8 rfl Try.underlying23 (.t rfl)) ?_
        refine W.q rfl rfl rfl rfl (by decide) (Yd.gtr rfl (.t rfl) (.t rfl)) ?_
        refine W.end ?_
        refine NX.sub (env' := [(0, _), (1, _), (2, _), (7, _), (8, _), (9, _), (54, _)]) ⟨rfl, rfl, rfl, rfl, rfl, rfl, rfl, trivial⟩ ?_
        refine NX.then ?_
        refine Tr.cond (.t rfl) (fun hb => ?_) (fun hb => ?_)
        · have hr := cond_t hb hr
          refine Tr.region_f (fun _ => false) ?_
          refine W.q rfl rfl rfl rfl (by decide) (Yd.mv rfl (.t rfl)) ?_
          refine W.q rfl rfl rfl rfl (by decide) (Yd.as rfl (.t rfl)) ?_
          refine W.end ?_
          refine NX.sub (env' := [(0, _), (1, _), (2, _), (7, _), (8, _)]) ⟨rfl, rfl, rfl, rfl, rfl, trivial⟩ ?_
          refine NX.block ?_
          refine NX.then ?_
          refine Tr.region_f (fun _ => false) ?_
          refine W.q rfl rfl rfl rfl (by decide) (Yd.mv rfl (.t rfl)) ?_
          refine W.q rfl rfl rfl rfl (by decide) (Yd.add rfl (.t rfl) .c) ?_
          refine W.q rfl rfl rfl rfl (by decide) (Yd.as rfl (.t rfl)) ?_
          refine W.end ?_
          refine NX.sub (env' := [(0, _), (1, _), (2, _), (7, _), (8, _)]) ⟨rfl, rfl, rfl, rfl, rfl, trivial⟩ ?_
          refine NX.sub (env' := [(0, _), (1, _), (2, _), (7, _), (8, _)]) ⟨rfl, rfl, rfl, rfl, rfl, trivial⟩ ?_
          have hw := w64_id (n := i_18 + 1) (by omega) (by omega)
          exact NX.again n21 (i_18 + 1, r33) (Nat.lt_succ_self _) ⟨_, _, (hsm10.trans hsm36), hu37, (by rw [hw] <;> rfl), rfl, (fr_dec hni_18), (by omega), ((hnx20 _).symm.trans hr)⟩
        · have hr := cond_f hb hr
          refine Tr.skip' ?_
          refine NX.block ?_
          refine NX.then ?_
          refine Tr.region_f (fun _ => false) ?_
          refine W.q rfl rfl rfl rfl (by decide) (Yd.mv rfl (.t rfl)) ?_
          refine W.q rfl rfl rfl rfl (by decide) (Yd.add rfl (.t rfl) .c) ?_
          refine W.q rfl rfl rfl rfl (by decide) (Yd.as rfl (.t rfl)) ?_
          refine W.end ?_
          refine NX.sub (env' := [(0, _), (1, _), (2, _), (7, _), (8, _)]) ⟨rfl, rfl, rfl, rfl, rfl, trivial⟩ ?_
          refine NX.sub (env' := [(0, _), (1, _), (2, _), (7, _), (8, _)]) ⟨rfl, rfl, rfl, rfl, rfl, trivial⟩ ?_
          have hw := w64_id (n := i_18 + 1) (by omega) (by omega)
          exact NX.again n21 (i_18 + 1, best_6) (Nat.lt_succ_self _) ⟨_, _, (hsm10.trans hsm36), hu8, (by rw [hw] <;> rfl), rfl, (fr_dec hni_18), (by omega), ((hnx20 _).symm.trans hr)⟩
      · have hr := cond_f hb hr
        refine Tr.skip' ?_
        refine NX.block ?_
        refine NX.then ?_
        refine Tr.region_f (fun _ => false) ?_
        refine W.q rfl rfl rfl rfl (by decide) (Yd.mv rfl (.t rfl)) ?_
        refine W.q rfl rfl rfl rfl (by decide) (Yd.add rfl (.t rfl) .c) ?_
        refine W.q rfl rfl rfl rfl (by decide) (Yd.as rfl (.t rfl)) ?_
        refine W.end ?_
        refine NX.sub (env' := [(0, _), (1, _), (2, _), (7, _), (8, _)]) ⟨rfl, rfl, rfl, rfl, rfl, trivial⟩ ?_
        refine NX.sub (env' := [(0, _), (1, _), (2, _), (7, _), (8, _)]) ⟨rfl, rfl, rfl, rfl, rfl, trivial⟩ ?_
        have hw := w64_id (n := i_18 + 1) (by omega) (by omega)
        exact NX.again n21 (i_18 + 1, best_6) (Nat.lt_succ_self _) ⟨_, _, hsm10, hu8, (by rw [hw] <;> rfl), rfl, (fr_dec hni_18), (by omega), ((hnx20 _).symm.trans hr)⟩

def syllogistref_Ints_k3 : Option (Bool) :=
  some true

def syllogistref_Ints_b7 (a_0 : List Int) (b_1 : List Int) (i_6 : Int) (nx8 : Unit → Option (Bool)) : Option (Bool) :=
  (geti a_0 i_6).bind fun y10 =>
  (geti b_1 i_6).bind fun y12 =>
  (bif (y10 != y12) then
  some false
  else
  nx8 ())

def syllogistref_Ints (a_0 : List Int) (b_1 : List Int) : Option (Bool) :=
  (bif ((a_0.length : Int) != (b_1.length : Int)) then
  some false
  else
  forK (σ := Unit) (fun i s nx_ => syllogistref_Ints_b7 a_0 b_1 i nx_) (fun _ => syllogistref_Ints_k3) ((a_0.length : Int) - (0 : Int)).toNat (0 : Int) ())

set_option maxRecDepth 100000 in
set_option maxHeartbeats 4000000 in
theorem syllogistref_Ints_ok (w0 : World) (m : Snap) (l : List HI) (ua_0 : Value) (a_0 : List Int) (ha_0 : RS rI m ua_0 a_0) (ub_1 : Value) (b_1 : List Int) (hb_1 : RS rI m ub_1 b_1) (r : Bool) (hr : syllogistref_Ints a_0 b_1 = some r) (w : World) (hc : cX w0 ⟨m, l⟩ w) :
    Calls Try.prog 6 [ua_0, ub_1].toArray w fun e w' => e = .returned (.bool r) ∧ cX w0 ⟨m, l⟩ w' := by
  unfold syllogistref_Ints at hr
  refine calls_of_Tr (N := 26) Try.func6 rfl hc rfl (Nat.le_of_ble_eq_true rfl) ?_
  refine Tr.seq ?_
  refine Tr.region_f (fun _ => false) ?_
  refine W.q rfl rfl rfl rfl (by decide) (Yd.as rfl .c) ?_
  refine W.end ?_
  refine NX.sub (env' := [(0, _), (1, _)]) ⟨rfl, rfl, trivial⟩ ?_
  refine NX.then ?_
  refine Tr.seq ?_
  refine Tr.seq ?_
  refine Tr.region_f (fun _ => false) ?_
  refine W.q rfl rfl rfl rfl (by decide) (Yd.mv rfl (.t rfl)) ?_
  refine W.q rfl rfl rfl rfl (by decide) (Yd.lenR ha_0 rfl Try.underlying23 (.t rfl)) ?_
  refine W.q rfl rfl rfl rfl (by decide) (Yd.mv rfl (.t rfl)) ?_
  refine W.q rfl rfl rfl rfl (by decide) (Yd.lenR hb_1 rfl Try.underlying23 (.t rfl)) ?_
  refine W.q rfl rfl rfl rfl (by decide) (Yd.neq rfl (.t rfl) (.t rfl)) ?_
  refine W.end ?_
  refine NX.sub (env' := [(0, _), (1, _), (10, _)]) ⟨rfl, rfl, rfl, trivial⟩ ?_
  refine NX.then ?_
  refine Tr.cond (.t rfl) (fun hb => ?_) (fun hb => ?_)
  · have hr := cond_t hb hr
    refine Tr.seq ?_
    refine Tr.region_f (fun _ => false) ?_
    refine W.q rfl rfl rfl rfl (by decide) (Yd.as rfl .c) ?_
    refine W.end ?_
    refine NX.sub (env' := [(4, _)]) ⟨rfl, trivial⟩ ?_
    refine NX.then ?_
    refine Tr.ret' (RT.then ?_)
    refine res1 rfl rfl ?_
    intro w hc
    cases hr
    exact ⟨rfl, hc⟩
  · have hr := cond_f hb hr
    refine Tr.skip' ?_
    refine NX.then ?_
    refine Tr.seq ?_
    refine Tr.seq ?_
    refine Tr.region_f (fun _ => false) ?_
    refine W.q rfl rfl rfl rfl (by decide) (Yd.as rfl .c) ?_
    refine W.end ?_
    refine NX.sub (env' := [(0, _), (1, _), (5, _)]) ⟨rfl, rfl, rfl, trivial⟩ ?_
    refine NX.then ?_
    refine Tr.join (S := fun env x => env = [] ∧ x = ⟨m, l⟩ ∧ syllogistref_Ints_k3 = some r) ?_ (fun hk4 => ?_)
    · rintro _ _ ⟨rfl, rfl, hr⟩
      unfold syllogistref_Ints_k3 at hr
      try dsimp only at hr
      refine NX.then ?_
      refine Tr.seq ?_
      refine Tr.region_f (fun _ => false) ?_
      refine W.q rfl rfl rfl rfl (by decide) (Yd.as rfl .c) ?_
      refine W.end ?_
      refine NX.sub (env' := [(4, _)]) ⟨rfl, trivial⟩ ?_
      refine NX.then ?_
      refine Tr.ret' ?_
      refine res1 rfl rfl ?_
      intro w hc
      cases hr
      exact ⟨rfl, hc⟩
    have hlen5 := (ha_0).2.1
    refine Tr.block ?_
    refine Tr.sub (env' := [(0, _), (1, _), (5, _)]) ⟨rfl, rfl, rfl, trivial⟩ ?_
    refine Tr.loop (S := fun n (z : Int × Unit) env x => match z with | (i_6, _) => env = [(0, ua_0), (1, ub_1), (5, .int .i64 i_6)] ∧ x = ⟨m, l⟩ ∧ n = ((a_0.length : Int) - i_6).toNat ∧ 0 ≤ i_6 ∧ forK (σ := Unit) (fun i s nx_ => syllogistref_Ints_b7 a_0 b_1 i nx_) (fun _ => syllogistref_Ints_k3) n i_6 () = some r) _ ((0 : Int), ()) ⟨rfl, rfl, rfl, (by omega), hr⟩ ?_
    rintro n9 ⟨i_6, _⟩ env x ⟨rfl, rfl, hni_6, h0i_6, hr⟩
    cases n9 with
    | zero =>
      simp only [forK] at hr
      refine Tr.seq ?_
      refine Tr.seq ?_
      refine Tr.region_f (fun _ => false) ?_
      refine W.q rfl rfl rfl rfl (by decide) (Yd.mv rfl (.t rfl)) ?_
      refine W.q rfl rfl rfl rfl (by decide) (Yd.mv rfl (.t rfl)) ?_
      refine W.q rfl rfl rfl rfl (by decide) (Yd.lenR ha_0 rfl Try.underlying23 (.t rfl)) ?_
      refine W.q rfl rfl rfl rfl (by decide) (Yd.lss rfl (.t rfl) (.t rfl)) ?_
      refine W.end ?_
      refine NX.sub (env' := [(0, _), (1, _), (5, _), (14, _)]) ⟨rfl, rfl, rfl, rfl, trivial⟩ ?_
      refine NX.then ?_
      refine Tr.cond (.t rfl) (fun hb => ?_) (fun hb => ?_)
      · exact absurd (hb.symm.trans (fr_end hni_6)) (by decide)
      ·
        refine Tr.exit' (EX.then (EX.then (EX.block ?_)))
        refine NX.sub (env' := []) trivial ?_
        exact hk4 _ _ ⟨rfl, rfl, hr⟩
    | succ n9 =>
      obtain ⟨nx8, hnx8, hr⟩ := forK_succ hr
      try dsimp only at hr
      unfold syllogistref_Ints_b7 at hr
      try dsimp only at hr
      have hlti_6 := fr_bnd hni_6
      refine Tr.seq ?_
      refine Tr.seq ?_
      refine Tr.region_f (fun _ => false) ?_
      refine W.q rfl rfl rfl rfl (by decide) (Yd.mv rfl (.t rfl)) ?_
      refine W.q rfl rfl rfl rfl (by decide) (Yd.mv rfl (.t rfl)) ?_
      refine W.q rfl rfl rfl rfl (by decide) (Yd.lenR ha_0 rfl Try.underlying23 (.t rfl)) ?_
      refine W.q rfl rfl rfl rfl (by decide) (Yd.lss rfl (.t rfl) (.t rfl)) ?_
      refine W.end ?_
      refine NX.sub (env' := [(0, _), (1, _), (5, _), (14, _)]) ⟨rfl, rfl, rfl, rfl, trivial⟩ ?_
      refine NX.then ?_
      refine Tr.cond (.t rfl) (fun hb => ?_) (fun hb => ?_)
      rotate_left
      · exact absurd (hb.symm.trans (fr_go hni_6)) (by decide)
      ·
        refine Tr.skip' ?_
        refine NX.then ?_
        refine Tr.seq ?_
        refine Tr.block ?_
        refine Tr.seq ?_
        obtain ⟨y10, hy11, hr⟩ := bind_some hr
        obtain ⟨y12, hy13, hr⟩ := bind_some hr
        refine Tr.region_x (fun _ => false) (fun _ => false) (Ord.of [0, 1, 2, 3, 4, 5, 6, 7, 8]) FM (by kernel_rfl) ?_
        refine W.q rfl rfl rfl rfl (by decide) (Yd.mv rfl (.t rfl)) ?_
        refine W.q rfl rfl rfl rfl (by decide) (Yd.mv rfl (.t rfl)) ?_
        refine W.q rfl rfl rfl rfl (by decide) (Yd.idxR ha_0 hy11 rfl Try.underlying23 SZ3 (.t rfl) (.t rfl)) ?_
        refine W.q rfl rfl rfl rfl (by decide) (Yd.ldF ha_0 (.refl _) hy11 rfl rfl ON3 (.t rfl)) ?_
        refine W.q rfl rfl rfl rfl (by decide) (Yd.mv rfl (.t rfl)) ?_
        refine W.q rfl rfl rfl rfl (by decide) (Yd.mv rfl (.t rfl)) ?_
        refine W.q rfl rfl rfl rfl (by decide) (Yd.idxR hb_1 hy13 rfl Try.underlying23 SZ3 (.t rfl) (.t rfl)) ?_
        refine W.q rfl rfl rfl rfl (by decide) (Yd.ldF hb_1 (.refl _) hy13 rfl rfl ON3 (.t rfl)) ?_
        refine W.q rfl rfl rfl rfl (by decide) (Yd.neq rfl (.t rfl) (.t rfl)) ?_
        refine W.end ?_
        refine NX.sub (env' := [(0, _), (1, _), (5, _), (25, _)]) ⟨rfl, rfl, rfl, rfl, trivial⟩ ?_
        refine NX.then ?_
        refine Tr.cond (.t rfl) (fun hb => ?_) (fun hb => ?_)
        · have hr := cond_t hb hr
          refine Tr.seq ?_
          refine Tr.region_f (fun _ => false) ?_
          refine W.q rfl rfl rfl rfl (by decide) (Yd.as rfl .c) ?_
          refine W.end ?_
          refine NX.sub (env' := [(4, _)]) ⟨rfl, trivial⟩ ?_
          refine NX.then ?_
          refine Tr.ret' (RT.block (RT.then (RT.then (RT.block (RT.then ?_)))))
          refine res1 rfl rfl ?_
          intro w hc
          cases hr
          exact ⟨rfl, hc⟩
        · have hr := cond_f hb hr
          refine Tr.skip' ?_
          refine NX.block ?_
          refine NX.then ?_
          refine Tr.region_f (fun _ => false) ?_
          refine W.q rfl rfl rfl rfl (by decide) (Yd.mv rfl (.t rfl)) ?_
          refine W.q rfl rfl rfl rfl (by decide) (Yd.add rfl (.t rfl) .c) ?_
          refine W.q rfl rfl rfl rfl (by decide) (Yd.as rfl (.t rfl)) ?_
          refine W.end ?_
          refine NX.sub (env' := [(0, _), (1, _), (5, _)]) ⟨rfl, rfl, rfl, trivial⟩ ?_
          refine NX.sub (env' := [(0, _), (1, _), (5, _)]) ⟨rfl, rfl, rfl, trivial⟩ ?_
          have hw := w64_id (n := i_6 + 1) (by omega) (by omega)
          exact NX.again n9 (i_6 + 1, ()) (Nat.lt_succ_self _) ⟨(by rw [hw] <;> rfl), rfl, (fr_dec hni_6), (by omega), ((hnx8 _).symm.trans hr)⟩

def syllogistlaw_OrderChains (fuel : Nat) (n_0 : Int) (pairs_1 : List (Int × Int)) : Option (Bool) :=
  (order_Chain fuel n_0 pairs_1).bind fun r1 =>
  (syllogistref_OrderCheck fuel n_0 pairs_1).bind fun r5 =>
  (bif (r5 != (0 : Int)) then
  some (((r1.2 == r5) && ((r1.1.length : Int) == (0 : Int))))
  else
  (bif ((r1.2 == (0 : Int)) == true) then
  (syllogistref_Longest fuel n_0 pairs_1 []).bind fun r8 =>
  (syllogistref_Ints r1.1 r8).bind fun r13 =>
  some (((r1.2 == (0 : Int)) && r13))
  else
  some (((r1.2 == (0 : Int)) && false))))

set_option maxRecDepth 100000 in
set_option maxHeartbeats 4000000 in
theorem syllogistlaw_OrderChains_ok (w0 : World) (m : Snap) (l : List HI) (fuel : Nat) (n_0 : Int) (upairs_1 : Value) (pairs_1 : List (Int × Int)) (hpairs_1 : RS rP m upairs_1 pairs_1) (r : Bool) (hr : syllogistlaw_OrderChains fuel n_0 pairs_1 = some r) (w : World) (hc : cX w0 ⟨m, l⟩ w) :
    Calls Try.prog 3 [.int .i64 n_0, upairs_1].toArray w fun e w' => e = .returned (.bool r) ∧ cX w0 ⟨m, l⟩ w' := by
  unfold syllogistlaw_OrderChains at hr
  refine calls_of_Tr (N := 36) Try.func3 rfl hc rfl (Nat.le_of_ble_eq_true rfl) ?_
  refine Tr.seq ?_
  refine Tr.region_f (fun _ => false) ?_
  refine W.q rfl rfl rfl rfl (by decide) (Yd.as rfl .c) ?_
  refine W.end ?_
  refine NX.sub (env' := [(0, _), (1, _)]) ⟨rfl, rfl, trivial⟩ ?_
  refine NX.then ?_
  refine Tr.seq ?_
  obtain ⟨r1, hr2, hr⟩ := bind_some hr
  refine Tr.region_f (fun i => Nat.beq i 2) ?_
  refine W.q rfl rfl rfl rfl (by decide) (Yd.mv rfl (.t rfl)) ?_
  refine W.q rfl rfl rfl rfl (by decide) (Yd.mv rfl (.t rfl)) ?_
  refine W.e rfl rfl rfl rfl (by decide) (Ef.call (R := fun z x' => ∃ v3 : Value, z = .tuple #[v3, .int .i64 r1.2] ∧ x' = ⟨m, hownT 3 1 encI v3 r1.1 :: l⟩) rfl Try.func4 rfl rfl (.cons (.t rfl) (.cons (.t rfl) .nil)) (fun w hw => (order_Chain_ok w0 _ _ fuel n_0 _ _ hpairs_1 _ hr2 w hw).mono fun e w' ⟨v3, he, hc'⟩ => ⟨_, _, he, ⟨v3, rfl, rfl⟩, hc'⟩)) ?_
  rintro _ _ ⟨v3, rfl, rfl⟩
  refine ⟨.inl rfl, ?_⟩
  refine W.cast (m' := m) (l' := hownT 3 1 encI v3 _ :: l) rfl rfl ?_
  refine W.q rfl rfl rfl rfl (by decide) (Yd.mv rfl (.t rfl)) ?_
  refine W.q rfl rfl rfl rfl (by decide) (Yd.ext rfl (.t rfl) rfl) ?_
  refine W.q rfl rfl rfl rfl (by decide) (Yd.ext rfl (.t rfl) rfl) ?_
  refine W.q rfl rfl rfl rfl (by decide) (Yd.as rfl (.t rfl)) ?_
  refine W.q rfl rfl rfl rfl (by decide) (Yd.as rfl (.t rfl)) ?_
  refine W.end ?_
  refine NX.sub (env' := [(0, _), (1, _), (5, _), (6, _)]) ⟨rfl, rfl, rfl, rfl, trivial⟩ ?_
  refine NX.then ?_
  refine Tr.seq ?_
  obtain ⟨r5, hr6, hr⟩ := bind_some hr
  refine Tr.region_f (fun _ => false) ?_
  refine W.q rfl rfl rfl rfl (by decide) (Yd.mv rfl (.t rfl)) ?_
  refine W.q rfl rfl rfl rfl (by decide) (Yd.mv rfl (.t rfl)) ?_
  refine W.q rfl rfl rfl rfl (by decide) (Yd.call (v := .int .i64 r5) rfl Try.func5 rfl rfl (.cons (.t rfl) (.cons (.t rfl) .nil)) (fun x' hx w hw => syllogistref_OrderCheck_ok w0 x'.m x'.l fuel n_0 _ _ (hpairs_1.mono hx.1) _ hr6 w hw)) ?_
  refine W.q rfl rfl rfl rfl (by decide) (Yd.as rfl (.t rfl)) ?_
  refine W.end ?_
  refine NX.sub (env' := [(0, _), (1, _), (5, _), (6, _), (7, _)]) ⟨rfl, rfl, rfl, rfl, rfl, trivial⟩ ?_
  refine NX.then ?_
  refine Tr.seq ?_
  refine Tr.seq ?_
  refine Tr.region_f (fun _ => false) ?_
  refine W.q rfl rfl rfl rfl (by decide) (Yd.mv rfl (.t rfl)) ?_
  refine W.q rfl rfl rfl rfl (by decide) (Yd.neq rfl (.t rfl) .c) ?_
  refine W.end ?_
  refine NX.sub (env' := [(0, _), (1, _), (5, _), (6, _), (7, _), (18, _)]) ⟨rfl, rfl, rfl, rfl, rfl, rfl, trivial⟩ ?_
  refine NX.then ?_
  refine Tr.cond (.t rfl) (fun hb => ?_) (fun hb => ?_)
  · have hr := cond_t hb hr
    refine Tr.seq ?_
    refine Tr.region_f (fun _ => false) ?_
    refine W.q rfl rfl rfl rfl (by decide) (Yd.mv rfl (.t rfl)) ?_
    refine W.q rfl rfl rfl rfl (by decide) (Yd.mv rfl (.t rfl)) ?_
    refine W.q rfl rfl rfl rfl (by decide) (Yd.eql rfl (.t rfl) (.t rfl)) ?_
    refine W.q rfl rfl rfl rfl (by decide) (Yd.mv rfl (.t rfl)) ?_
    refine W.g rfl rfl rfl rfl rfl (.t rfl _) rfl (by decide) (fun hG => Yd.mv rfl (.t rfl)) ?_
    refine W.g rfl rfl rfl rfl rfl (.t rfl _) rfl (by decide) (fun hG => Yd.lenO (p := 0) rfl rfl Try.underlying23 (.g rfl hG)) ?_
    refine W.g rfl rfl rfl rfl rfl (.t rfl _) rfl (by decide) (fun hG => Yd.eql rfl (.g rfl hG) .c) ?_
    refine W.q rfl rfl rfl rfl (by decide) (Yd.and rfl (.t rfl) .c rfl rfl) ?_
    refine W.q rfl rfl rfl rfl (by decide) (Yd.as rfl (.t rfl)) ?_
    refine W.end ?_
    refine NX.sub (env' := [(4, _)]) ⟨rfl, trivial⟩ ?_
    refine NX.drop (l' := l) (.cons _ (.refl _)) ?_
    refine NX.then ?_
    refine Tr.ret' (RT.then ?_)
    refine res1 rfl rfl ?_
    intro w hc
    cases hr
    exact ⟨rfl, hc⟩
  · have hr := cond_f hb hr
    refine Tr.skip' ?_
    refine NX.then ?_
    refine Tr.seq ?_
    refine Tr.region_f (fun i => Nat.beq i 6) ?_
    refine W.q rfl rfl rfl rfl (by decide) (Yd.mv rfl (.t rfl)) ?_
    refine W.q rfl rfl rfl rfl (by decide) (Yd.eql rfl (.t rfl) .c) ?_
    refine W.q rfl rfl rfl rfl (by decide) (Yd.mv rfl (.t rfl)) ?_
    refine W.g rfl rfl rfl rfl rfl (.t rfl _) rfl (by decide) (fun hG => Yd.mv rfl (.t rfl)) ?_
    refine W.g rfl rfl rfl rfl rfl (.t rfl _) rfl (by decide) (fun hG => Yd.mv rfl (.t rfl)) ?_
    refine W.g rfl rfl rfl rfl rfl (.t rfl _) rfl (by decide) (fun hG => Yd.mv rfl (.t rfl)) ?_
    refine W.split (b := ((r1.2 == (0 : Int)) == true)) (fun hb7 => ?_) (fun hb7 => ?_)
    · have hr := cond_t hb7 hr
      obtain ⟨r8, hr9, hr⟩ := bind_some hr
      obtain ⟨r13, hr14, hr⟩ := bind_some hr
      refine W.ge rfl rfl rfl rfl rfl (.t rfl _) hb7 rfl (by decide) (Ef.call (R := fun z x' => ∃ u10 : Value, ∃ m11 : Snap, z = u10 ∧ x' = ⟨m11, hownT 3 1 encI v3 r1.1 :: l⟩ ∧ Sle m m11 ∧ RS rI m11 u10 r8) rfl Try.func7 rfl rfl (.cons (.g rfl hb7) (.cons (.g rfl hb7) (.cons .c .nil))) (fun w hw => (syllogistref_Longest_ok w0 _ _ fuel n_0 _ _ hpairs_1 _ _ (RS.nil _ _) _ hr9 w hw).mono fun e w' ⟨u10, m11, he, hm', hu12, hc'⟩ => ⟨_, _, he, ⟨u10, m11, rfl, rfl, hm', hu12⟩, hc'⟩)) ?_
      rintro u10 _ ⟨_, m11, rfl, rfl, hsm11, hu12⟩
      have hpairs_1 := hpairs_1.mono hsm11
      refine ⟨.inl rfl, ?_⟩
      refine W.cast (m' := m11) (l' := hownT 3 1 encI v3 _ :: l) rfl rfl ?_
      refine W.g rfl rfl rfl rfl rfl (.t rfl _) rfl (by decide) (fun hG => Yd.call (v := .bool r13) rfl Try.func6 rfl rfl (.cons (.g rfl hb7) (.cons (.t rfl) .nil)) (by intro x' hx w hw; obtain ⟨p0, hp0⟩ := hx.at (p := 0) rfl; obtain ⟨m2, hm2, hc2, ⟨L2, hl1, hl2⟩, hback⟩ := cX_lend hw hp0 lone_own; have hL1 : RS rI m2 _ _ := RS_of_own hl1 hl2; exact (syllogistref_Ints_ok w0 m2 _ _ _ hL1 _ _ (hu12.mono (hx.1.trans hm2)) _ hr14 w hc2).mono fun e w' ⟨he, hc'⟩ => ⟨he, (hback m2 _ _ w' (.refl _) hp0).2 hc'⟩)) ?_
      refine W.q rfl rfl rfl rfl (by decide) (Yd.and rfl (.t rfl) .c rfl rfl) ?_
      refine W.q rfl rfl rfl rfl (by decide) (Yd.as rfl (.t rfl)) ?_
      refine W.end ?_
      refine NX.sub (env' := [(4, _)]) ⟨rfl, trivial⟩ ?_
      refine NX.drop (l' := l) (.cons _ (.refl _)) ?_
      refine NX.then ?_
      refine Tr.ret' ?_
      refine res1 rfl rfl ?_
      intro w hc
      cases hr
      exact ⟨rfl, (cX_le (x := ⟨m, _⟩) ⟨hsm11, [], rfl⟩ hc)⟩
    · have hr := cond_f hb7 hr
      refine W.gF rfl rfl rfl rfl (.t rfl _) hb7 rfl (by decide) (undef) ?_
      refine W.gF rfl rfl rfl rfl (.t rfl _) hb7 rfl (by decide) (.bool false) ?_
      refine W.q rfl rfl rfl rfl (by decide) (Yd.and rfl (.t rfl) .c rfl rfl) ?_
      refine W.q rfl rfl rfl rfl (by decide) (Yd.as rfl (.t rfl)) ?_
      refine W.end ?_
      refine NX.sub (env' := [(4, _)]) ⟨rfl, trivial⟩ ?_
      refine NX.drop (l' := l) (.cons _ (.refl _)) ?_
      refine NX.then ?_
      refine Tr.ret' ?_
      refine res1 rfl rfl ?_
      intro w hc
      cases hr
      exact ⟨rfl, hc⟩
end Go.Proofs.Ytgnaigfgeofmmaa.Sy
