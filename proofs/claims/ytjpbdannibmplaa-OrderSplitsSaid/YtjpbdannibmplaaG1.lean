/- Functions of the program as plain functions, and that the translation computes them; the conditions stand in each theorem. Printed by an own program. -/
import Derived.Test.YtjpbdannibmplaaG1a
import Derived.Test.YtjpbdannibmplaaProg
namespace Go.Proofs.Ytjpbdannibmplaa.Sy
open Go
set_option linter.unusedVariables false
def syllogistref_Free_k3 : Option (Bool) :=
  some true

def syllogistref_Free_k12 (nx8 : (Unit → Option (Bool))) : Option (Bool) :=
  nx8 ()

def syllogistref_Free_b16 (n_0 : Int) (pairs_1 : List (Int × Int)) (s_2 : (BitVec 32)) (fuel : Nat) (i_6 : Int) (j_15 : Int) (nx17 : Unit → Option (Bool)) : Option (Bool) :=
  bif (!((i_6 != j_15) == true) || (syllogistref_Bit s_2 i_6).isSome) then
  bif (!(((i_6 != j_15) && (((syllogistref_Bit s_2 i_6).getD false))) == true) || (syllogistref_Bit s_2 j_15).isSome) then
  bif (!((((i_6 != j_15) && (((syllogistref_Bit s_2 i_6).getD false))) && (((syllogistref_Bit s_2 j_15).getD false))) == true) || (syllogistref_Under fuel n_0 pairs_1 i_6 j_15).isSome) then
  (bif ((((i_6 != j_15) && (((syllogistref_Bit s_2 i_6).getD false))) && (((syllogistref_Bit s_2 j_15).getD false))) && (((syllogistref_Under fuel n_0 pairs_1 i_6 j_15).getD false))) then
  some false
  else
  nx17 ()) else none else none else none

def syllogistref_Free_b7 (n_0 : Int) (pairs_1 : List (Int × Int)) (s_2 : (BitVec 32)) (fuel : Nat) (i_6 : Int) (nx8 : Unit → Option (Bool)) : Option (Bool) :=
  bif decide (n_0 ≤ 9223372036854775807) then
  forK (σ := Unit) (fun i s nx_ => syllogistref_Free_b16 n_0 pairs_1 s_2 fuel i_6 i nx_) (fun _ => syllogistref_Free_k12 nx8) (n_0 - (0 : Int)).toNat (0 : Int) () else none

def syllogistref_Free (fuel : Nat) (n_0 : Int) (pairs_1 : List (Int × Int)) (s_2 : (BitVec 32)) : Option (Bool) :=
  bif decide (n_0 ≤ 9223372036854775807) then
  forK (σ := Unit) (fun i s nx_ => syllogistref_Free_b7 n_0 pairs_1 s_2 fuel i nx_) (fun _ => syllogistref_Free_k3) (n_0 - (0 : Int)).toNat (0 : Int) () else none

set_option maxRecDepth 100000 in
set_option maxHeartbeats 4000000 in
theorem syllogistref_Free_ok (w0 : World) (m : Snap) (l : List HI) (fuel : Nat) (n_0 : Int) (upairs_1 : Value) (pairs_1 : List (Int × Int)) (hpairs_1 : RS rP m upairs_1 pairs_1) (s_2 : (BitVec 32)) (r : Bool) (hr : syllogistref_Free fuel n_0 pairs_1 s_2 = some r) (w : World) (hc : cX w0 ⟨m, l⟩ w) :
    Calls Try.prog 46 [.int .i64 n_0, upairs_1, .int .u32 (s_2.toNat : Int)].toArray w fun e w' => e = .returned (.bool r) ∧ cX w0 ⟨m, l⟩ w' := by
  unfold syllogistref_Free at hr
  refine calls_of_Tr (N := 39) Try.func46 rfl hc rfl (Nat.le_of_ble_eq_true rfl) ?_
  refine Tr.seq ?_
  refine Tr.region_f (fun _ => false) ?_
  refine W.q rfl rfl rfl rfl (by decide) (Yd.as rfl .c) ?_
  refine W.end ?_
  refine NX.sub (env' := [(0, _), (1, _), (2, _)]) ⟨rfl, rfl, rfl, trivial⟩ ?_
  refine NX.then ?_
  refine Tr.seq ?_
  refine Tr.seq ?_
  refine Tr.region_f (fun _ => false) ?_
  refine W.q rfl rfl rfl rfl (by decide) (Yd.as rfl .c) ?_
  refine W.end ?_
  refine NX.sub (env' := [(0, _), (1, _), (2, _), (7, _)]) ⟨rfl, rfl, rfl, rfl, trivial⟩ ?_
  refine NX.then ?_
  refine Tr.join (S := fun env x => env = [] ∧ x = ⟨m, l⟩ ∧ syllogistref_Free_k3 = some r) ?_ (fun hk4 => ?_)
  · rintro _ _ ⟨rfl, rfl, hr⟩
    unfold syllogistref_Free_k3 at hr
    try dsimp only at hr
    refine NX.then ?_
    refine Tr.seq ?_
    refine Tr.region_f (fun _ => false) ?_
    refine W.q rfl rfl rfl rfl (by decide) (Yd.as rfl .c) ?_
    refine W.end ?_
    refine NX.sub (env' := [(6, _)]) ⟨rfl, trivial⟩ ?_
    refine NX.then ?_
    refine Tr.ret' ?_
    refine res1 rfl rfl ?_
    intro w hc
    cases hr
    exact ⟨rfl, hc⟩
  obtain ⟨hle5, hr⟩ := guard_some hr; replace hle5 := of_decide_eq_true hle5
  refine Tr.block ?_
  refine Tr.sub (env' := [(0, _), (1, _), (2, _), (7, _)]) ⟨rfl, rfl, rfl, rfl, trivial⟩ ?_
  refine Tr.loop (S := fun n (z : Int × Unit) env x => match z with | (i_6, _) => env = [(0, .int .i64 n_0), (1, upairs_1), (2, .int .u32 (s_2.toNat : Int)), (7, .int .i64 i_6)] ∧ x = ⟨m, l⟩ ∧ n = (n_0 - i_6).toNat ∧ 0 ≤ i_6 ∧ forK (σ := Unit) (fun i s nx_ => syllogistref_Free_b7 n_0 pairs_1 s_2 fuel i nx_) (fun _ => syllogistref_Free_k3) n i_6 () = some r) _ ((0 : Int), ()) ⟨rfl, rfl, rfl, (by omega), hr⟩ ?_
  rintro n9 ⟨i_6, _⟩ env x ⟨rfl, rfl, hni_6, h0i_6, hr⟩
  cases n9 with
  | zero =>
    simp only [forK] at hr
    refine Tr.seq ?_
    refine Tr.seq ?_
    refine Tr.region_f (fun _ => false) ?_
    refine W.q rfl rfl rfl rfl (by decide) (Yd.mv rfl (.t rfl)) ?_
    refine W.q rfl rfl rfl rfl (by decide) (Yd.mv rfl (.t rfl)) ?_
    refine W.q rfl rfl rfl rfl (by decide) (Yd.lss rfl (.t rfl) (.t rfl)) ?_
    refine W.end ?_
    refine NX.sub (env' := [(0, _), (1, _), (2, _), (7, _), (11, _)]) ⟨rfl, rfl, rfl, rfl, rfl, trivial⟩ ?_
    refine NX.then ?_
    refine Tr.cond (.t rfl) (fun hb => ?_) (fun hb => ?_)
    · exact absurd (hb.symm.trans (fr_end hni_6)) (by decide)
    ·
      refine Tr.exit' (EX.then (EX.then (EX.block ?_)))
      refine NX.sub (env' := []) trivial ?_
      exact hk4 _ _ ⟨rfl, rfl, hr⟩
  | succ n9 =>
    obtain ⟨nx8, hnx8, hr⟩ := forK_succ hr
    try dsimp only at hr
    unfold syllogistref_Free_b7 at hr
    try dsimp only at hr
    have hlti_6 := fr_bnd hni_6
    refine Tr.seq ?_
    refine Tr.seq ?_
    refine Tr.region_f (fun _ => false) ?_
    refine W.q rfl rfl rfl rfl (by decide) (Yd.mv rfl (.t rfl)) ?_
    refine W.q rfl rfl rfl rfl (by decide) (Yd.mv rfl (.t rfl)) ?_
    refine W.q rfl rfl rfl rfl (by decide) (Yd.lss rfl (.t rfl) (.t rfl)) ?_
    refine W.end ?_
    refine NX.sub (env' := [(0, _), (1, _), (2, _), (7, _), (11, _)]) ⟨rfl, rfl, rfl, rfl, rfl, trivial⟩ ?_
    refine NX.then ?_
    refine Tr.cond (.t rfl) (fun hb => ?_) (fun hb => ?_)
    rotate_left
    · exact absurd (hb.symm.trans (fr_go hni_6)) (by decide)
    ·
      refine Tr.skip' ?_
      refine NX.then ?_
      refine Tr.seq ?_
      refine Tr.block ?_
      refine Tr.seq ?_
      refine Tr.region_f (fun _ => false) ?_
      refine W.q rfl rfl rfl rfl (by decide) (Yd.as rfl .c) ?_
      refine W.end ?_
      refine NX.sub (env' := [(0, _), (1, _), (2, _), (7, _), (8, _)]) ⟨rfl, rfl, rfl, rfl, rfl, trivial⟩ ?_
      refine NX.then ?_
      refine Tr.join (S := fun env x => env = [(0, .int .i64 n_0), (1, upairs_1), (2, .int .u32 (s_2.toNat : Int)), (7, .int .i64 i_6)] ∧ x = ⟨m, l⟩ ∧ syllogistref_Free_k12 nx8 = some r) ?_ (fun hk13 => ?_)
      · rintro _ _ ⟨rfl, rfl, hr⟩
        unfold syllogistref_Free_k12 at hr
        try dsimp only at hr
        refine NX.block ?_
        refine NX.then ?_
        refine Tr.region_f (fun _ => false) ?_
        refine W.q rfl rfl rfl rfl (by decide) (Yd.mv rfl (.t rfl)) ?_
        refine W.q rfl rfl rfl rfl (by decide) (Yd.add rfl (.t rfl) .c) ?_
        refine W.q rfl rfl rfl rfl (by decide) (Yd.as rfl (.t rfl)) ?_
        refine W.end ?_
        refine NX.sub (env' := [(0, _), (1, _), (2, _), (7, _)]) ⟨rfl, rfl, rfl, rfl, trivial⟩ ?_
        refine NX.sub (env' := [(0, _), (1, _), (2, _), (7, _)]) ⟨rfl, rfl, rfl, rfl, trivial⟩ ?_
        have hw := w64_id (n := i_6 + 1) (by omega) (by omega)
        exact NX.again n9 (i_6 + 1, ()) (Nat.lt_succ_self _) ⟨(by rw [hw] <;> rfl), rfl, (fr_dec hni_6), (by omega), ((hnx8 _).symm.trans hr)⟩
      obtain ⟨hle14, hr⟩ := guard_some hr; replace hle14 := of_decide_eq_true hle14
      refine Tr.block ?_
      refine Tr.sub (env' := [(0, _), (1, _), (2, _), (7, _), (8, _)]) ⟨rfl, rfl, rfl, rfl, rfl, trivial⟩ ?_
      refine Tr.loop (S := fun n (z : Int × Unit) env x => match z with | (j_15, _) => env = [(0, .int .i64 n_0), (1, upairs_1), (2, .int .u32 (s_2.toNat : Int)), (7, .int .i64 i_6), (8, .int .i64 j_15)] ∧ x = ⟨m, l⟩ ∧ n = (n_0 - j_15).toNat ∧ 0 ≤ j_15 ∧ forK (σ := Unit) (fun i s nx_ => syllogistref_Free_b16 n_0 pairs_1 s_2 fuel i_6 i nx_) (fun _ => syllogistref_Free_k12 nx8) n j_15 () = some r) _ ((0 : Int), ()) ⟨rfl, rfl, rfl, (by omega), hr⟩ ?_
      rintro n18 ⟨j_15, _⟩ env x ⟨rfl, rfl, hnj_15, h0j_15, hr⟩
      cases n18 with
      | zero =>
        simp only [forK] at hr
        refine Tr.seq ?_
        refine Tr.seq ?_
        refine Tr.region_f (fun _ => false) ?_
        refine W.q rfl rfl rfl rfl (by decide) (Yd.mv rfl (.t rfl)) ?_
        refine W.q rfl rfl rfl rfl (by decide) (Yd.mv rfl (.t rfl)) ?_
        refine W.q rfl rfl rfl rfl (by decide) (Yd.lss rfl (.t rfl) (.t rfl)) ?_
        refine W.end ?_
        refine NX.sub (env' := [(0, _), (1, _), (2, _), (7, _), (8, _), (16, _)]) ⟨rfl, rfl, rfl, rfl, rfl, rfl, trivial⟩ ?_
        refine NX.then ?_
        refine Tr.cond (.t rfl) (fun hb => ?_) (fun hb => ?_)
        · exact absurd (hb.symm.trans (fr_end hnj_15)) (by decide)
        ·
          refine Tr.exit' (EX.then (EX.then (EX.block ?_)))
          refine NX.sub (env' := [(0, _), (1, _), (2, _), (7, _)]) ⟨rfl, rfl, rfl, rfl, trivial⟩ ?_
          exact hk13 _ _ ⟨rfl, rfl, hr⟩
      | succ n18 =>
        obtain ⟨nx17, hnx17, hr⟩ := forK_succ hr
        try dsimp only at hr
        unfold syllogistref_Free_b16 at hr
        try dsimp only at hr
        have hltj_15 := fr_bnd hnj_15
        refine Tr.seq ?_
        refine Tr.seq ?_
        refine Tr.region_f (fun _ => false) ?_
        refine W.q rfl rfl rfl rfl (by decide) (Yd.mv rfl (.t rfl)) ?_
        refine W.q rfl rfl rfl rfl (by decide) (Yd.mv rfl (.t rfl)) ?_
        refine W.q rfl rfl rfl rfl (by decide) (Yd.lss rfl (.t rfl) (.t rfl)) ?_
        refine W.end ?_
        refine NX.sub (env' := [(0, _), (1, _), (2, _), (7, _), (8, _), (16, _)]) ⟨rfl, rfl, rfl, rfl, rfl, rfl, trivial⟩ ?_
        refine NX.then ?_
        refine Tr.cond (.t rfl) (fun hb => ?_) (fun hb => ?_)
        rotate_left
        · exact absurd (hb.symm.trans (fr_go hnj_15)) (by decide)
        ·
          refine Tr.skip' ?_
          refine NX.then ?_
          refine Tr.seq ?_
          refine Tr.block ?_
          refine Tr.seq ?_
          obtain ⟨ha19, hr⟩ := guard_some hr
          obtain ⟨ha20, hr⟩ := guard_some hr
          obtain ⟨ha21, hr⟩ := guard_some hr
          refine Tr.region_f (fun _ => false) ?_
          refine W.q rfl rfl rfl rfl (by decide) (Yd.mv rfl (.t rfl)) ?_
          refine W.q rfl rfl rfl rfl (by decide) (Yd.mv rfl (.t rfl)) ?_
          refine W.q rfl rfl rfl rfl (by decide) (Yd.neq rfl (.t rfl) (.t rfl)) ?_
          refine W.q rfl rfl rfl rfl (by decide) (Yd.mv rfl (.t rfl)) ?_
          refine W.g rfl rfl rfl rfl rfl (.t rfl _) rfl (by decide) (fun hG => Yd.mv rfl (.t rfl)) ?_
          refine W.g rfl rfl rfl rfl rfl (.t rfl _) rfl (by decide) (fun hG => Yd.mv rfl (.t rfl)) ?_
          refine W.g rfl rfl rfl rfl rfl (.t rfl _) rfl (by decide) (fun hG => Yd.call (v := .bool ((((syllogistref_Bit s_2 i_6).getD false)))) rfl Try.func17 rfl rfl (.cons (.g rfl hG) (.cons (.g rfl hG) .nil)) (fun x' hx w hw => syllogistref_Bit_ok w0 x'.m x'.l s_2 i_6 _ (gd_get (d := false) ha19 hG) w hw)) ?_
          refine W.q rfl rfl rfl rfl (by decide) (Yd.and rfl (.t rfl) .c rfl rfl) ?_
          refine W.q rfl rfl rfl rfl (by decide) (Yd.mv rfl (.t rfl)) ?_
          refine W.g rfl rfl rfl rfl rfl (.t rfl _) rfl (by decide) (fun hG => Yd.mv rfl (.t rfl)) ?_
          refine W.g rfl rfl rfl rfl rfl (.t rfl _) rfl (by decide) (fun hG => Yd.mv rfl (.t rfl)) ?_
          refine W.g rfl rfl rfl rfl rfl (.t rfl _) rfl (by decide) (fun hG => Yd.call (v := .bool ((((syllogistref_Bit s_2 j_15).getD false)))) rfl Try.func17 rfl rfl (.cons (.g rfl hG) (.cons (.g rfl hG) .nil)) (fun x' hx w hw => syllogistref_Bit_ok w0 x'.m x'.l s_2 j_15 _ (gd_get (d := false) ha20 hG) w hw)) ?_
          refine W.q rfl rfl rfl rfl (by decide) (Yd.and rfl (.t rfl) .c rfl rfl) ?_
          refine W.q rfl rfl rfl rfl (by decide) (Yd.mv rfl (.t rfl)) ?_
          refine W.g rfl rfl rfl rfl rfl (.t rfl _) rfl (by decide) (fun hG => Yd.mv rfl (.t rfl)) ?_
          refine W.g rfl rfl rfl rfl rfl (.t rfl _) rfl (by decide) (fun hG => Yd.mv rfl (.t rfl)) ?_
          refine W.g rfl rfl rfl rfl rfl (.t rfl _) rfl (by decide) (fun hG => Yd.mv rfl (.t rfl)) ?_
          refine W.g rfl rfl rfl rfl rfl (.t rfl _) rfl (by decide) (fun hG => Yd.mv rfl (.t rfl)) ?_
          refine W.g rfl rfl rfl rfl rfl (.t rfl _) rfl (by decide) (fun hG => Yd.call (v := .bool ((((syllogistref_Under fuel n_0 pairs_1 i_6 j_15).getD false)))) rfl Try.func18 rfl rfl (.cons (.g rfl hG) (.cons (.g rfl hG) (.cons (.g rfl hG) (.cons (.g rfl hG) .nil)))) (fun x' hx w hw => syllogistref_Under_ok w0 x'.m x'.l fuel n_0 _ _ (hpairs_1.mono hx.1) i_6 j_15 _ (gd_get (d := false) ha21 hG) w hw)) ?_
          refine W.q rfl rfl rfl rfl (by decide) (Yd.and rfl (.t rfl) .c rfl rfl) ?_
          refine W.end ?_
          refine NX.sub (env' := [(0, _), (1, _), (2, _), (7, _), (8, _), (38, _)]) ⟨rfl, rfl, rfl, rfl, rfl, rfl, trivial⟩ ?_
          refine NX.then ?_
          refine Tr.cond (.t rfl) (fun hb => ?_) (fun hb => ?_)
          · have hr := cond_t hb hr
            refine Tr.seq ?_
            refine Tr.region_f (fun _ => false) ?_
            refine W.q rfl rfl rfl rfl (by decide) (Yd.as rfl .c) ?_
            refine W.end ?_
            refine NX.sub (env' := [(6, _)]) ⟨rfl, trivial⟩ ?_
            refine NX.then ?_
            refine Tr.ret' (RT.block (RT.then (RT.then (RT.block (RT.block (RT.then (RT.then (RT.block (RT.then ?_)))))))))
            refine res1 rfl rfl ?_
            intro w hc
            cases hr
            exact ⟨rfl, hc⟩
          · have hr := cond_f hb hr
            refine Tr.skip' ?_
            refine NX.block ?_
            refine NX.then ?_
            refine Tr.region_f (fun _ => false) ?_
            refine W.q rfl rfl rfl rfl (by decide) (Yd.mv rfl (.t rfl)) ?_
            refine W.q rfl rfl rfl rfl (by decide) (Yd.add rfl (.t rfl) .c) ?_
            refine W.q rfl rfl rfl rfl (by decide) (Yd.as rfl (.t rfl)) ?_
            refine W.end ?_
            refine NX.sub (env' := [(0, _), (1, _), (2, _), (7, _), (8, _)]) ⟨rfl, rfl, rfl, rfl, rfl, trivial⟩ ?_
            refine NX.sub (env' := [(0, _), (1, _), (2, _), (7, _), (8, _)]) ⟨rfl, rfl, rfl, rfl, rfl, trivial⟩ ?_
            have hw := w64_id (n := j_15 + 1) (by omega) (by omega)
            exact NX.again n18 (j_15 + 1, ()) (Nat.lt_succ_self _) ⟨(by rw [hw] <;> rfl), rfl, (fr_dec hnj_15), (by omega), ((hnx17 _).symm.trans hr)⟩

def syllogistref_Widest_k6 (best_5 : BitVec 32) : Option ((BitVec 32)) :=
  some best_5

def syllogistref_Widest_b9 (n_0 : Int) (pairs_1 : List (Int × Int)) (fuel : Nat) (s_8 : BitVec 32) (best_3 : BitVec 32) (nx10 : (BitVec 32) → Option ((BitVec 32))) : Option ((BitVec 32)) :=
  (syllogistref_Size s_8).bind fun r12 =>
  (syllogistref_Size best_3).bind fun r14 =>
  bif (!((decide (r12 > r14)) == true) || (syllogistref_Free fuel n_0 pairs_1 s_8).isSome) then
  (bif ((decide (r12 > r14)) && (((syllogistref_Free fuel n_0 pairs_1 s_8).getD false))) then
  nx10 s_8
  else
  nx10 best_3) else none

def syllogistref_Widest (fuel : Nat) (n_0 : Int) (pairs_1 : List (Int × Int)) : Option ((BitVec 32)) :=
  forK (σ := (BitVec 32)) (fun i s nx_ => syllogistref_Widest_b9 n_0 pairs_1 fuel i s nx_) (fun s => syllogistref_Widest_k6 s) (((1#32 <<< ((BitVec.ofInt 64 n_0)).toNat)).toNat - (0#32).toNat) 0#32 (0#32)

set_option maxRecDepth 100000 in
set_option maxHeartbeats 4000000 in
theorem syllogistref_Widest_ok (w0 : World) (m : Snap) (l : List HI) (fuel : Nat) (n_0 : Int) (upairs_1 : Value) (pairs_1 : List (Int × Int)) (hpairs_1 : RS rP m upairs_1 pairs_1) (r : (BitVec 32)) (hr : syllogistref_Widest fuel n_0 pairs_1 = some r) (w : World) (hc : cX w0 ⟨m, l⟩ w) :
    Calls Try.prog 26 [.int .i64 n_0, upairs_1].toArray w fun e w' => e = .returned (.int .u32 (r.toNat : Int)) ∧ cX w0 ⟨m, l⟩ w' := by
  unfold syllogistref_Widest at hr
  refine calls_of_Tr (N := 27) Try.func26 rfl hc rfl (Nat.le_of_ble_eq_true rfl) ?_
  refine Tr.seq ?_
  refine Tr.region_f (fun _ => false) ?_
  refine W.q rfl rfl rfl rfl (by decide) (Yd.as rfl .c) ?_
  refine W.end ?_
  refine NX.sub (env' := [(0, _), (1, _)]) ⟨rfl, rfl, trivial⟩ ?_
  refine NX.then ?_
  refine Tr.seq ?_
  refine Tr.region_f (fun _ => false) ?_
  refine W.q rfl rfl rfl rfl (by decide) (Yd.as rfl .c) ?_
  refine W.end ?_
  refine NX.sub (env' := [(0, _), (1, _), (5, _)]) ⟨rfl, rfl, rfl, trivial⟩ ?_
  refine NX.then ?_
  refine Tr.seq ?_
  refine Tr.seq ?_
  refine Tr.region_f (fun _ => false) ?_
  refine W.q rfl rfl rfl rfl (by decide) (Yd.as rfl .c) ?_
  refine W.end ?_
  refine NX.sub (env' := [(0, _), (1, _), (5, _), (6, _)]) ⟨rfl, rfl, rfl, rfl, trivial⟩ ?_
  refine NX.then ?_
  refine Tr.join (S := fun env x => ∃ best_5 : BitVec 32, env = [(5, .int .u32 (best_5.toNat : Int))] ∧ x = ⟨m, l⟩ ∧ syllogistref_Widest_k6 best_5 = some r) ?_ (fun hk7 => ?_)
  · rintro _ _ ⟨best_5, rfl, rfl, hr⟩
    unfold syllogistref_Widest_k6 at hr
    try dsimp only at hr
    refine NX.then ?_
    refine Tr.seq ?_
    refine Tr.region_f (fun _ => false) ?_
    refine W.q rfl rfl rfl rfl (by decide) (Yd.mv rfl (.t rfl)) ?_
    refine W.q rfl rfl rfl rfl (by decide) (Yd.as rfl (.t rfl)) ?_
    refine W.end ?_
    refine NX.sub (env' := [(4, _)]) ⟨rfl, trivial⟩ ?_
    refine NX.then ?_
    refine Tr.ret' ?_
    refine res1 rfl rfl ?_
    intro w hc
    cases hr
    exact ⟨rfl, hc⟩
  refine Tr.block ?_
  refine Tr.sub (env' := [(0, _), (1, _), (5, _), (6, _)]) ⟨rfl, rfl, rfl, rfl, trivial⟩ ?_
  refine Tr.loop (S := fun n (z : BitVec 32 × (BitVec 32)) env x => match z with | (s_8, best_3) => env = [(0, .int .i64 n_0), (1, upairs_1), (5, .int .u32 (best_3.toNat : Int)), (6, .int .u32 (s_8.toNat : Int))] ∧ x = ⟨m, l⟩ ∧ n = ((1#32 <<< ((BitVec.ofInt 64 n_0)).toNat)).toNat - s_8.toNat ∧ forK (σ := (BitVec 32)) (fun i s nx_ => syllogistref_Widest_b9 n_0 pairs_1 fuel i s nx_) (fun s => syllogistref_Widest_k6 s) n s_8 best_3 = some r) _ (0#32, 0#32) ⟨rfl, rfl, rfl, hr⟩ ?_
  rintro n11 ⟨s_8, best_3⟩ env x ⟨rfl, rfl, hns_8, hr⟩
  cases n11 with
  | zero =>
    simp only [forK] at hr
    refine Tr.seq ?_
    refine Tr.seq ?_
    refine Tr.region_f (fun _ => false) ?_
    refine W.q rfl rfl rfl rfl (by decide) (Yd.mv rfl (.t rfl)) ?_
    refine W.q rfl rfl rfl rfl (by decide) (Yd.mv rfl (.t rfl)) ?_
    refine W.q rfl rfl rfl rfl (by decide) (Yd.cvQ rfl US3 Try.underlying55 (.t rfl)) ?_
    refine W.q rfl rfl rfl rfl (by decide) (Yd.shlU (a := 1#32) rfl .c (.t rfl) (Int.natCast_nonneg _)) ?_
    refine W.q rfl rfl rfl rfl (by decide) (Yd.lssU (a := s_8) (b := (1#32 <<< ((BitVec.ofInt 64 n_0)).toNat)) rfl (.t rfl) (.t rfl)) ?_
    refine W.end ?_
    refine NX.sub (env' := [(0, _), (1, _), (5, _), (6, _), (11, _)]) ⟨rfl, rfl, rfl, rfl, rfl, trivial⟩ ?_
    refine NX.then ?_
    refine Tr.cond (.t rfl) (fun hb => ?_) (fun hb => ?_)
    · exact absurd (hb.symm.trans (fu_end hns_8)) (by decide)
    ·
      refine Tr.exit' (EX.then (EX.then (EX.block ?_)))
      refine NX.sub (env' := [(5, _)]) ⟨rfl, trivial⟩ ?_
      exact hk7 _ _ ⟨_, rfl, rfl, hr⟩
  | succ n11 =>
    obtain ⟨nx10, hnx10, hr⟩ := forK_succ hr
    try dsimp only at hr
    unfold syllogistref_Widest_b9 at hr
    try dsimp only at hr
    refine Tr.seq ?_
    refine Tr.seq ?_
    refine Tr.region_f (fun _ => false) ?_
    refine W.q rfl rfl rfl rfl (by decide) (Yd.mv rfl (.t rfl)) ?_
    refine W.q rfl rfl rfl rfl (by decide) (Yd.mv rfl (.t rfl)) ?_
    refine W.q rfl rfl rfl rfl (by decide) (Yd.cvQ rfl US3 Try.underlying55 (.t rfl)) ?_
    refine W.q rfl rfl rfl rfl (by decide) (Yd.shlU (a := 1#32) rfl .c (.t rfl) (Int.natCast_nonneg _)) ?_
    refine W.q rfl rfl rfl rfl (by decide) (Yd.lssU (a := s_8) (b := (1#32 <<< ((BitVec.ofInt 64 n_0)).toNat)) rfl (.t rfl) (.t rfl)) ?_
    refine W.end ?_
    refine NX.sub (env' := [(0, _), (1, _), (5, _), (6, _), (11, _)]) ⟨rfl, rfl, rfl, rfl, rfl, trivial⟩ ?_
    refine NX.then ?_
    refine Tr.cond (.t rfl) (fun hb => ?_) (fun hb => ?_)
    rotate_left
    · exact absurd (hb.symm.trans (fu_go hns_8)) (by decide)
    ·
      refine Tr.skip' ?_
      refine NX.then ?_
      refine Tr.seq ?_
      refine Tr.block ?_
      refine Tr.seq ?_
      obtain ⟨r12, hr13, hr⟩ := bind_some hr
      obtain ⟨r14, hr15, hr⟩ := bind_some hr
      obtain ⟨ha16, hr⟩ := guard_some hr
      refine Tr.region_f (fun _ => false) ?_
      refine W.q rfl rfl rfl rfl (by decide) (Yd.mv rfl (.t rfl)) ?_
      refine W.q rfl rfl rfl rfl (by decide) (Yd.call (v := .int .i64 r12) rfl Try.func31 rfl rfl (.cons (.t rfl) .nil) (fun x' hx w hw => syllogistref_Size_ok w0 x'.m x'.l s_8 _ hr13 w hw)) ?_
      refine W.q rfl rfl rfl rfl (by decide) (Yd.mv rfl (.t rfl)) ?_
      refine W.q rfl rfl rfl rfl (by decide) (Yd.call (v := .int .i64 r14) rfl Try.func31 rfl rfl (.cons (.t rfl) .nil) (fun x' hx w hw => syllogistref_Size_ok w0 x'.m x'.l best_3 _ hr15 w hw)) ?_
      refine W.q rfl rfl rfl rfl (by decide) (Yd.gtr rfl (.t rfl) (.t rfl)) ?_
      refine W.q rfl rfl rfl rfl (by decide) (Yd.mv rfl (.t rfl)) ?_
      refine W.g rfl rfl rfl rfl rfl (.t rfl _) rfl (by decide) (fun hG => Yd.mv rfl (.t rfl)) ?_
      refine W.g rfl rfl rfl rfl rfl (.t rfl _) rfl (by decide) (fun hG => Yd.mv rfl (.t rfl)) ?_
      refine W.g rfl rfl rfl rfl rfl (.t rfl _) rfl (by decide) (fun hG => Yd.mv rfl (.t rfl)) ?_
      refine W.g rfl rfl rfl rfl rfl (.t rfl _) rfl (by decide) (fun hG => Yd.call (v := .bool ((((syllogistref_Free fuel n_0 pairs_1 s_8).getD false)))) rfl Try.func46 rfl rfl (.cons (.g rfl hG) (.cons (.g rfl hG) (.cons (.g rfl hG) .nil))) (fun x' hx w hw => syllogistref_Free_ok w0 x'.m x'.l fuel n_0 _ _ (hpairs_1.mono hx.1) s_8 _ (gd_get (d := false) ha16 hG) w hw)) ?_
      refine W.q rfl rfl rfl rfl (by decide) (Yd.and rfl (.t rfl) .c rfl rfl) ?_
      refine W.end ?_
      refine NX.sub (env' := [(0, _), (1, _), (5, _), (6, _), (24, _)]) ⟨rfl, rfl, rfl, rfl, rfl, trivial⟩ ?_
      refine NX.then ?_
      refine Tr.cond (.t rfl) (fun hb => ?_) (fun hb => ?_)
      · have hr := cond_t hb hr
        refine Tr.region_f (fun _ => false) ?_
        refine W.q rfl rfl rfl rfl (by decide) (Yd.mv rfl (.t rfl)) ?_
        refine W.q rfl rfl rfl rfl (by decide) (Yd.as rfl (.t rfl)) ?_
        refine W.end ?_
        refine NX.sub (env' := [(0, _), (1, _), (5, _), (6, _)]) ⟨rfl, rfl, rfl, rfl, trivial⟩ ?_
        refine NX.block ?_
        refine NX.then ?_
        refine Tr.region_f (fun _ => false) ?_
        refine W.q rfl rfl rfl rfl (by decide) (Yd.mv rfl (.t rfl)) ?_
        refine W.q rfl rfl rfl rfl (by decide) (Yd.addU (a := s_8) (b := 1#32) rfl (.t rfl) .c) ?_
        refine W.q rfl rfl rfl rfl (by decide) (Yd.as rfl (.t rfl)) ?_
        refine W.end ?_
        refine NX.sub (env' := [(0, _), (1, _), (5, _), (6, _)]) ⟨rfl, rfl, rfl, rfl, trivial⟩ ?_
        refine NX.sub (env' := [(0, _), (1, _), (5, _), (6, _)]) ⟨rfl, rfl, rfl, rfl, trivial⟩ ?_
        exact NX.again n11 (s_8 + 1, s_8) (Nat.lt_succ_self _) ⟨rfl, rfl, (fu_dec hns_8), ((hnx10 _).symm.trans hr)⟩
      · have hr := cond_f hb hr
        refine Tr.skip' ?_
        refine NX.block ?_
        refine NX.then ?_
        refine Tr.region_f (fun _ => false) ?_
        refine W.q rfl rfl rfl rfl (by decide) (Yd.mv rfl (.t rfl)) ?_
        refine W.q rfl rfl rfl rfl (by decide) (Yd.addU (a := s_8) (b := 1#32) rfl (.t rfl) .c) ?_
        refine W.q rfl rfl rfl rfl (by decide) (Yd.as rfl (.t rfl)) ?_
        refine W.end ?_
        refine NX.sub (env' := [(0, _), (1, _), (5, _), (6, _)]) ⟨rfl, rfl, rfl, rfl, trivial⟩ ?_
        refine NX.sub (env' := [(0, _), (1, _), (5, _), (6, _)]) ⟨rfl, rfl, rfl, rfl, trivial⟩ ?_
        exact NX.again n11 (s_8 + 1, best_3) (Nat.lt_succ_self _) ⟨rfl, rfl, (fu_dec hns_8), ((hnx10 _).symm.trans hr)⟩

def syllogistlaw_OrderAparts (fuel : Nat) (n_0 : Int) (pairs_1 : List (Int × Int)) : Option (Bool) :=
  (order_Apart n_0 pairs_1).bind fun r1 =>
  (syllogistref_OrderCheck fuel n_0 pairs_1).bind fun r3 =>
  (bif (r3 != (0 : Int)) then
  some (((r1.2 == r3) && (r1.1 == 0#32)))
  else
  bif (!((r1.2 == (0 : Int)) == true) || (syllogistref_Widest fuel n_0 pairs_1).isSome) then
  some (((r1.2 == (0 : Int)) && (r1.1 == (((syllogistref_Widest fuel n_0 pairs_1).getD (0#32)))))) else none)

set_option maxRecDepth 100000 in
set_option maxHeartbeats 4000000 in
theorem syllogistlaw_OrderAparts_ok (w0 : World) (m : Snap) (l : List HI) (fuel : Nat) (n_0 : Int) (upairs_1 : Value) (pairs_1 : List (Int × Int)) (hpairs_1 : RS rP m upairs_1 pairs_1) (r : Bool) (hr : syllogistlaw_OrderAparts fuel n_0 pairs_1 = some r) (w : World) (hc : cX w0 ⟨m, l⟩ w) :
    Calls Try.prog 6 [.int .i64 n_0, upairs_1].toArray w fun e w' => e = .returned (.bool r) ∧ cX w0 ⟨m, l⟩ w' := by
  unfold syllogistlaw_OrderAparts at hr
  refine calls_of_Tr (N := 35) Try.func6 rfl hc rfl (Nat.le_of_ble_eq_true rfl) ?_
  refine Tr.seq ?_
  refine Tr.region_f (fun _ => false) ?_
  refine W.q rfl rfl rfl rfl (by decide) (Yd.as rfl .c) ?_
  refine W.end ?_
  refine NX.sub (env' := [(0, _), (1, _)]) ⟨rfl, rfl, trivial⟩ ?_
  refine NX.then ?_
  refine Tr.seq ?_
  obtain ⟨r1, hr2, hr⟩ := bind_some hr
  refine Tr.region_f (fun _ => false) ?_
  refine W.q rfl rfl rfl rfl (by decide) (Yd.mv rfl (.t rfl)) ?_
  refine W.q rfl rfl rfl rfl (by decide) (Yd.mv rfl (.t rfl)) ?_
  refine W.q rfl rfl rfl rfl (by decide) (Yd.call (v := .tuple #[.int .u32 (r1.1.toNat : Int), .int .i64 r1.2]) rfl Try.func25 rfl rfl (.cons (.t rfl) (.cons (.t rfl) .nil)) (fun x' hx w hw => order_Apart_ok w0 x'.m x'.l n_0 _ _ (hpairs_1.mono hx.1) _ hr2 w hw)) ?_
  refine W.q rfl rfl rfl rfl (by decide) (Yd.mv rfl (.t rfl)) ?_
  refine W.q rfl rfl rfl rfl (by decide) (Yd.ext rfl (.t rfl) rfl) ?_
  refine W.q rfl rfl rfl rfl (by decide) (Yd.ext rfl (.t rfl) rfl) ?_
  refine W.q rfl rfl rfl rfl (by decide) (Yd.as rfl (.t rfl)) ?_
  refine W.q rfl rfl rfl rfl (by decide) (Yd.as rfl (.t rfl)) ?_
  refine W.end ?_
  refine NX.sub (env' := [(0, _), (1, _), (5, _), (6, _)]) ⟨rfl, rfl, rfl, rfl, trivial⟩ ?_
  refine NX.then ?_
  refine Tr.seq ?_
  obtain ⟨r3, hr4, hr⟩ := bind_some hr
  refine Tr.region_f (fun _ => false) ?_
  refine W.q rfl rfl rfl rfl (by decide) (Yd.mv rfl (.t rfl)) ?_
  refine W.q rfl rfl rfl rfl (by decide) (Yd.mv rfl (.t rfl)) ?_
  refine W.q rfl rfl rfl rfl (by decide) (Yd.call (v := .int .i64 r3) rfl Try.func16 rfl rfl (.cons (.t rfl) (.cons (.t rfl) .nil)) (fun x' hx w hw => syllogistref_OrderCheck_ok w0 x'.m x'.l fuel n_0 _ _ (hpairs_1.mono hx.1) _ hr4 w hw)) ?_
  refine W.q rfl rfl rfl rfl (by decide) (Yd.as rfl (.t rfl)) ?_
  refine W.end ?_
  refine NX.sub (env' := [(0, _), (1, _), (5, _), (6, _), (7, _)]) ⟨rfl, rfl, rfl, rfl, rfl, trivial⟩ ?_
  refine NX.then ?_
  refine Tr.seq ?_
  refine Tr.seq ?_
  refine Tr.region_f (fun _ => false) ?_
  refine W.q rfl rfl rfl rfl (by decide) (Yd.mv rfl (.t rfl)) ?_
  refine W.q rfl rfl rfl rfl (by decide) (Yd.neq rfl (.t rfl) .c) ?_
  refine W.end ?_
  refine NX.sub (env' := [(0, _), (1, _), (5, _), (6, _), (7, _), (18, _)]) ⟨rfl, rfl, rfl, rfl, rfl, rfl, trivial⟩ ?_
  refine NX.then ?_
  refine Tr.cond (.t rfl) (fun hb => ?_) (fun hb => ?_)
  · have hr := cond_t hb hr
    refine Tr.seq ?_
    refine Tr.region_f (fun _ => false) ?_
    refine W.q rfl rfl rfl rfl (by decide) (Yd.mv rfl (.t rfl)) ?_
    refine W.q rfl rfl rfl rfl (by decide) (Yd.mv rfl (.t rfl)) ?_
    refine W.q rfl rfl rfl rfl (by decide) (Yd.eql rfl (.t rfl) (.t rfl)) ?_
    refine W.q rfl rfl rfl rfl (by decide) (Yd.mv rfl (.t rfl)) ?_
    refine W.g rfl rfl rfl rfl rfl (.t rfl _) rfl (by decide) (fun hG => Yd.mv rfl (.t rfl)) ?_
    refine W.g rfl rfl rfl rfl rfl (.t rfl _) rfl (by decide) (fun hG => Yd.eqlU (a := r1.1) (b := 0#32) rfl (.g rfl hG) .c) ?_
    refine W.q rfl rfl rfl rfl (by decide) (Yd.and rfl (.t rfl) .c rfl rfl) ?_
    refine W.q rfl rfl rfl rfl (by decide) (Yd.as rfl (.t rfl)) ?_
    refine W.end ?_
    refine NX.sub (env' := [(4, _)]) ⟨rfl, trivial⟩ ?_
    refine NX.then ?_
    refine Tr.ret' (RT.then ?_)
    refine res1 rfl rfl ?_
    intro w hc
    cases hr
    exact ⟨rfl, hc⟩
  · have hr := cond_f hb hr
    refine Tr.skip' ?_
    refine NX.then ?_
    refine Tr.seq ?_
    obtain ⟨ha5, hr⟩ := guard_some hr
    refine Tr.region_f (fun _ => false) ?_
    refine W.q rfl rfl rfl rfl (by decide) (Yd.mv rfl (.t rfl)) ?_
    refine W.q rfl rfl rfl rfl (by decide) (Yd.eql rfl (.t rfl) .c) ?_
    refine W.q rfl rfl rfl rfl (by decide) (Yd.mv rfl (.t rfl)) ?_
    refine W.g rfl rfl rfl rfl rfl (.t rfl _) rfl (by decide) (fun hG => Yd.mv rfl (.t rfl)) ?_
    refine W.g rfl rfl rfl rfl rfl (.t rfl _) rfl (by decide) (fun hG => Yd.mv rfl (.t rfl)) ?_
    refine W.g rfl rfl rfl rfl rfl (.t rfl _) rfl (by decide) (fun hG => Yd.mv rfl (.t rfl)) ?_
    refine W.g rfl rfl rfl rfl rfl (.t rfl _) rfl (by decide) (fun hG => Yd.call (v := .int .u32 (((((syllogistref_Widest fuel n_0 pairs_1).getD (0#32)))).toNat : Int)) rfl Try.func26 rfl rfl (.cons (.g rfl hG) (.cons (.g rfl hG) .nil)) (fun x' hx w hw => syllogistref_Widest_ok w0 x'.m x'.l fuel n_0 _ _ (hpairs_1.mono hx.1) _ (gd_get (d := (0#32)) ha5 hG) w hw)) ?_
    refine W.g rfl rfl rfl rfl rfl (.t rfl _) rfl (by decide) (fun hG => Yd.eqlU (a := r1.1) (b := (((syllogistref_Widest fuel n_0 pairs_1).getD (0#32)))) rfl (.g rfl hG) (.g rfl hG)) ?_
    refine W.q rfl rfl rfl rfl (by decide) (Yd.and rfl (.t rfl) .c rfl rfl) ?_
    refine W.q rfl rfl rfl rfl (by decide) (Yd.as rfl (.t rfl)) ?_
    refine W.end ?_
    refine NX.sub (env' := [(4, _)]) ⟨rfl, trivial⟩ ?_
    refine NX.then ?_
    refine Tr.ret' ?_
    refine res1 rfl rfl ?_
    intro w hc
    cases hr
    exact ⟨rfl, hc⟩

def order_Line_k15 (l13 : List Int) : Option ((List Int) × Int) :=
  some ((l13, (0 : Int)))

def order_Line_k31 (nx18 : (((BitVec 32) × (List Int)) → Option ((List Int) × Int))) (left_28 : BitVec 32) (l29 : List Int) : Option ((List Int) × Int) :=
  nx18 (left_28, l29)

def order_Line_k43 (nx18 : (((BitVec 32) × (List Int)) → Option ((List Int) × Int))) (t_34 : Int) (left_24 : BitVec 32) (l26 : List Int) (nx36 : (((BitVec 32) × (List Int)) → Option ((List Int) × Int))) (free_42 : Bool) : Option ((List Int) × Int) :=
  (bif free_42 then
  bif decide (l26.length + (([t_34] : List Int)).length ≤ 17592186044416) then
  order_Line_k31 nx18 ((left_24 &&& ~~~(1#32 <<< t_34.toNat))) ((l26 ++ ([t_34] : List Int))) else none
  else
  nx36 (left_24, l26))

def order_Line_b51 (r1 : (List (BitVec 32)) × Int) (t_34 : Int) (left_24 : BitVec 32) (t_50 : Int) (free_40 : Bool) (nx52 : Bool → Option ((List Int) × Int)) : Option ((List Int) × Int) :=
  bif (!((free_40 == true) && (((t_50 == t_34) || (((left_24 >>> t_50.toNat) &&& 1#32) == 0#32)) == false)) || (geti r1.1 t_50).isSome) then
  nx52 (free_40 && (((t_50 == t_34) || (((left_24 >>> t_50.toNat) &&& 1#32) == 0#32)) || (((((geti r1.1 t_50).getD (0#32)) >>> t_34.toNat) &&& 1#32) == 0#32))) else none

def order_Line_b35 (r1 : (List (BitVec 32)) × Int) (nx18 : (((BitVec 32) × (List Int)) → Option ((List Int) × Int))) (t_34 : Int) (left_24 : BitVec 32) (l26 : List Int) (nx36 : ((BitVec 32) × (List Int)) → Option ((List Int) × Int)) : Option ((List Int) × Int) :=
  forK (σ := Bool) (fun i s nx_ => order_Line_b51 r1 t_34 left_24 i s nx_) (fun s => order_Line_k43 nx18 t_34 left_24 l26 nx36 s) ((r1.1.length : Int) - (0 : Int)).toNat (0 : Int) ((((left_24 >>> t_34.toNat) &&& 1#32) == 1#32))

def order_Line_b17 (r1 : (List (BitVec 32)) × Int) (left_10 : BitVec 32) (l11 : List Int) (nx18 : ((BitVec 32) × (List Int)) → Option ((List Int) × Int)) : Option ((List Int) × Int) :=
  (bif (left_10 != 0#32) then
  forK (σ := (BitVec 32) × (List Int)) (fun i s nx_ => order_Line_b35 r1 nx18 i s.1 s.2 nx_) (fun s => order_Line_k31 nx18 s.1 s.2) ((r1.1.length : Int) - (0 : Int)).toNat (0 : Int) (left_10, l11)
  else
  order_Line_k15 l11)

def order_Line (fuel : Nat) (n_0 : Int) (pairs_1 : List (Int × Int)) : Option ((List Int) × Int) :=
  (order_Table n_0 pairs_1).bind fun r1 =>
  (bif (r1.2 != (0 : Int)) then
  some (([], r1.2))
  else
  bif decide (0 ≤ n_0) then
  whileK (σ := (BitVec 32) × (List Int)) (fun s nx_ => order_Line_b17 r1 s.1 s.2 nx_) fuel ((((1#32 <<< n_0.toNat) - 1#32)), (([] : List Int))) else none)

set_option maxRecDepth 100000 in
set_option maxHeartbeats 4000000 in
theorem order_Line_ok (w0 : World) (m : Snap) (l : List HI) (fuel : Nat) (n_0 : Int) (upairs_1 : Value) (pairs_1 : List (Int × Int)) (hpairs_1 : RS rP m upairs_1 pairs_1) (r : (List Int) × Int) (hr : order_Line fuel n_0 pairs_1 = some r) (w : World) (hc : cX w0 ⟨m, l⟩ w) :
    Calls Try.prog 22 [.int .i64 n_0, upairs_1].toArray w fun e w' => ∃ z0 : Value, e = .returned (.tuple #[z0, .int .i64 r.2]) ∧ cX w0 ⟨m, hownT 3 1 encI z0 r.1 :: l⟩ w' := by
  unfold order_Line at hr
  refine calls_of_Tr (N := 77) Try.func22 rfl hc rfl (Nat.le_of_ble_eq_true rfl) ?_
  refine Tr.seq ?_
  refine Tr.region_f (fun _ => false) ?_
  refine W.q rfl rfl rfl rfl (by decide) (Yd.as rfl .c) ?_
  refine W.q rfl rfl rfl rfl (by decide) (Yd.as rfl .c) ?_
  refine W.end ?_
  refine NX.sub (env' := [(0, _), (1, _)]) ⟨rfl, rfl, trivial⟩ ?_
  refine NX.then ?_
  refine Tr.seq ?_
  obtain ⟨r1, hr2, hr⟩ := bind_some hr
  refine Tr.region_f (fun i => Nat.beq i 2) ?_
  refine W.q rfl rfl rfl rfl (by decide) (Yd.mv rfl (.t rfl)) ?_
  refine W.q rfl rfl rfl rfl (by decide) (Yd.mv rfl (.t rfl)) ?_
  refine W.e rfl rfl rfl rfl (by decide) (Ef.call (R := fun z x' => ∃ v3 : Value, z = .tuple #[v3, .int .i64 r1.2] ∧ x' = ⟨m, hownT 29 1 encU v3 r1.1 :: l⟩) rfl Try.func15 rfl rfl (.cons (.t rfl) (.cons (.t rfl) .nil)) (fun w hw => (order_Table_ok w0 _ _ n_0 _ _ hpairs_1 _ hr2 w hw).mono fun e w' ⟨v3, he, hc'⟩ => ⟨_, _, he, ⟨v3, rfl, rfl⟩, hc'⟩)) ?_
  rintro _ _ ⟨v3, rfl, rfl⟩
  refine ⟨.inl rfl, ?_⟩
  refine W.cast (m' := m) (l' := hownT 29 1 encU v3 _ :: l) rfl rfl ?_
  refine W.q rfl rfl rfl rfl (by decide) (Yd.mv rfl (.t rfl)) ?_
  refine W.q rfl rfl rfl rfl (by decide) (Yd.ext rfl (.t rfl) rfl) ?_
  refine W.q rfl rfl rfl rfl (by decide) (Yd.ext rfl (.t rfl) rfl) ?_
  refine W.q rfl rfl rfl rfl (by decide) (Yd.as rfl (.t rfl)) ?_
  refine W.q rfl rfl rfl rfl (by decide) (Yd.as rfl (.t rfl)) ?_
  refine W.end ?_
  refine NX.sub (env' := [(0, _), (6, _), (7, _)]) ⟨rfl, rfl, rfl, trivial⟩ ?_
  refine NX.then ?_
  refine Tr.seq ?_
  refine Tr.seq ?_
  refine Tr.region_f (fun _ => false) ?_
  refine W.q rfl rfl rfl rfl (by decide) (Yd.mv rfl (.t rfl)) ?_
  refine W.q rfl rfl rfl rfl (by decide) (Yd.neq rfl (.t rfl) .c) ?_
  refine W.end ?_
  refine NX.sub (env' := [(0, _), (6, _), (7, _), (20, _)]) ⟨rfl, rfl, rfl, rfl, trivial⟩ ?_
  refine NX.then ?_
  refine Tr.cond (.t rfl) (fun hb => ?_) (fun hb => ?_)
  · have hr := cond_t hb hr
    refine Tr.seq ?_
    refine Tr.region_f (fun _ => false) ?_
    refine W.q rfl rfl rfl rfl (by decide) (Yd.mv rfl (.t rfl)) ?_
    refine W.q rfl rfl rfl rfl (by decide) (Yd.as rfl .c) ?_
    refine W.q rfl rfl rfl rfl (by decide) (Yd.as rfl (.t rfl)) ?_
    refine W.end ?_
    refine NX.sub (env' := [(4, _), (5, _)]) ⟨rfl, rfl, trivial⟩ ?_
    refine NX.drop (l' := l) (.cons _ (.refl _)) ?_
    refine NX.then ?_
    refine Tr.ret' (RT.then ?_)
    refine res2 rfl rfl rfl ?_
    intro w hc
    cases hr
    exact ⟨_, rfl, (cX_nil hc)⟩
  · have hr := cond_f hb hr
    refine Tr.skip' ?_
    refine NX.then ?_
    refine Tr.seq ?_
    obtain ⟨hq5, hr⟩ := guard_some hr; replace hq5 := of_decide_eq_true hq5
    refine Tr.region_f (fun _ => false) ?_
    refine W.q rfl rfl rfl rfl (by decide) (Yd.mv rfl (.t rfl)) ?_
    refine W.q rfl rfl rfl rfl (by decide) (Yd.shlU (a := 1#32) rfl .c (.t rfl) hq5) ?_
    refine W.q rfl rfl rfl rfl (by decide) (Yd.subU (a := (1#32 <<< n_0.toNat)) (b := 1#32) rfl (.t rfl) .c) ?_
    refine W.q rfl rfl rfl rfl (by decide) (Yd.as rfl (.t rfl)) ?_
    refine W.end ?_
    refine NX.sub (env' := [(6, _), (8, _)]) ⟨rfl, rfl, trivial⟩ ?_
    refine NX.then ?_
    refine Tr.seq ?_
    refine Tr.region_f (fun _ => false) ?_
    refine W.q rfl rfl rfl rfl (by decide) (Yd.as rfl .c) ?_
    refine W.end ?_
    refine NX.sub (env' := [(6, _), (8, _), (9, _)]) ⟨rfl, rfl, rfl, trivial⟩ ?_
    refine NX.then ?_
    refine Tr.seq ?_
    refine Tr.addnil 3 1 ?_
    refine Tr.join (S := fun env x => ∃ l13 : List Int, ∃ v14 : Value, env = [(9, v14)] ∧ x = ⟨m, hownT 3 1 encI v14 l13 :: l⟩ ∧ order_Line_k15 l13 = some r) ?_ (fun hk16 => ?_)
    · rintro _ _ ⟨l13, v14, rfl, rfl, hr⟩
      unfold order_Line_k15 at hr
      try dsimp only at hr
      refine NX.then ?_
      refine Tr.seq ?_
      refine Tr.region_f (fun _ => false) ?_
      refine W.q rfl rfl rfl rfl (by decide) (Yd.mv rfl (.t rfl)) ?_
      refine W.q rfl rfl rfl rfl (by decide) (Yd.as rfl (.t rfl)) ?_
      refine W.q rfl rfl rfl rfl (by decide) (Yd.as rfl .c) ?_
      refine W.end ?_
      refine NX.sub (env' := [(4, _), (5, _)]) ⟨rfl, rfl, trivial⟩ ?_
      refine NX.then ?_
      refine Tr.ret' ?_
      refine res2 rfl rfl rfl ?_
      intro w hc
      cases hr
      exact ⟨_, rfl, hc⟩
    refine Tr.block ?_
    refine Tr.sub (env' := [(6, _), (8, _), (9, _)]) ⟨rfl, rfl, rfl, trivial⟩ ?_
    refine Tr.loop (S := fun n (z : (BitVec 32) × (List Int)) env x => match z with | (left_10, l11) => ∃ v12 : Value, env = [(6, v3), (8, .int .u32 (left_10.toNat : Int)), (9, v12)] ∧ x = ⟨m, hownT 3 1 encI v12 l11 :: hownT 29 1 encU v3 r1.1 :: l⟩ ∧ whileK (σ := (BitVec 32) × (List Int)) (fun s nx_ => order_Line_b17 r1 s.1 s.2 nx_) n (left_10, l11) = some r) _ (((1#32 <<< n_0.toNat) - 1#32), ([] : List Int)) ⟨_, rfl, rfl, hr⟩ ?_
    rintro n19 ⟨left_10, l11⟩ env x ⟨v12, rfl, rfl, hr⟩
    cases n19 with
    | zero => simp [whileK] at hr
    | succ n19 =>
      obtain ⟨nx18, hnx18, hr⟩ := whileK_succ hr
      try dsimp only at hr
      unfold order_Line_b17 at hr
      try dsimp only at hr
      refine Tr.seq ?_
      refine Tr.seq ?_
      refine Tr.region_f (fun _ => false) ?_
      refine W.q rfl rfl rfl rfl (by decide) (Yd.mv rfl (.t rfl)) ?_
      refine W.q rfl rfl rfl rfl (by decide) (Yd.neqU (a := left_10) (b := 0#32) rfl (.t rfl) .c) ?_
      refine W.end ?_
      refine NX.sub (env' := [(6, _), (8, _), (9, _), (26, _)]) ⟨rfl, rfl, rfl, rfl, trivial⟩ ?_
      refine NX.then ?_
      refine Tr.cond (.t rfl) (fun hb => ?_) (fun hb => ?_)
      · have hr := cond_t hb hr
        refine Tr.skip' ?_
        refine NX.then ?_
        refine Tr.block ?_
        refine Tr.seq ?_
        refine Tr.region_f (fun _ => false) ?_
        refine W.q rfl rfl rfl rfl (by decide) (Yd.mv rfl (.t rfl)) ?_
        refine W.q rfl rfl rfl rfl (by decide) (Yd.lenO (p := 1) rfl rfl Try.underlying23 (.t rfl)) ?_
        refine W.q rfl rfl rfl rfl (by decide) (Yd.mv rfl .c) ?_
        refine W.end ?_
        refine NX.sub (env' := [(6, _), (8, _), (9, _), (28, _), (29, _)]) ⟨rfl, rfl, rfl, rfl, rfl, trivial⟩ ?_
        refine NX.then ?_
        refine Tr.join (S := fun env x => ∃ left_28 : BitVec 32, ∃ l29 : List Int, ∃ v30 : Value, env = [(6, v3), (8, .int .u32 (left_28.toNat : Int)), (9, v30)] ∧ x = ⟨m, hownT 3 1 encI v30 l29 :: hownT 29 1 encU v3 r1.1 :: l⟩ ∧ order_Line_k31 nx18 left_28 l29 = some r) ?_ (fun hk32 => ?_)
        · rintro _ _ ⟨left_28, l29, v30, rfl, rfl, hr⟩
          unfold order_Line_k31 at hr
          try dsimp only at hr
          refine NX.block ?_
          refine NX.sub (env' := [(6, _), (8, _), (9, _)]) ⟨rfl, rfl, rfl, trivial⟩ ?_
          exact NX.again n19 (left_28, l29) (Nat.lt_succ_self _) ⟨_, rfl, rfl, ((hnx18 _).symm.trans hr)⟩
        refine Tr.lenO (pos := 1) rfl (fun hlen33 => ?_)
        refine Tr.block ?_
        refine Tr.sub (env' := [(6, _), (8, _), (9, _), (28, _), (29, _)]) ⟨rfl, rfl, rfl, rfl, rfl, trivial⟩ ?_
        refine Tr.loop (S := fun n (z : Int × (BitVec 32) × (List Int)) env x => match z with | (t_34, left_24, l26) => ∃ v27 : Value, env = [(6, v3), (8, .int .u32 (left_24.toNat : Int)), (9, v27), (28, .int .i64 ((r1.1.length : Int))), (29, .int .i64 t_34)] ∧ x = ⟨m, hownT 3 1 encI v27 l26 :: hownT 29 1 encU v3 r1.1 :: l⟩ ∧ n = ((r1.1.length : Int) - t_34).toNat ∧ 0 ≤ t_34 ∧ forK (σ := (BitVec 32) × (List Int)) (fun i s nx_ => order_Line_b35 r1 nx18 i s.1 s.2 nx_) (fun s => order_Line_k31 nx18 s.1 s.2) n t_34 (left_24, l26) = some r) _ ((0 : Int), left_10, l11) ⟨_, rfl, rfl, rfl, (by omega), hr⟩ ?_
        rintro n37 ⟨t_34, left_24, l26⟩ env x ⟨v27, rfl, rfl, hnt_34, h0t_34, hr⟩
        cases n37 with
        | zero =>
          simp only [forK] at hr
          refine Tr.seq ?_
          refine Tr.region_f (fun _ => false) ?_
          refine W.q rfl rfl rfl rfl (by decide) (Yd.lss rfl (.t rfl) (.t rfl)) ?_
          refine W.end ?_
          refine NX.sub (env' := [(6, _), (8, _), (9, _), (28, _), (29, _), (30, _)]) ⟨rfl, rfl, rfl, rfl, rfl, rfl, trivial⟩ ?_
          refine NX.then ?_
          refine Tr.seq ?_
          refine Tr.cond (.t rfl) (fun hb => ?_) (fun hb => ?_)
          · exact absurd (hb.symm.trans (fr_end hnt_34)) (by decide)
          ·
            refine Tr.exit' (EX.then (EX.then (EX.block ?_)))
            refine NX.sub (env' := [(6, _), (8, _), (9, _)]) ⟨rfl, rfl, rfl, trivial⟩ ?_
            exact hk32 _ _ ⟨_, _, _, rfl, rfl, hr⟩
        | succ n37 =>
          obtain ⟨nx36, hnx36, hr⟩ := forK_succ hr
          try dsimp only at hr
          unfold order_Line_b35 at hr
          try dsimp only at hr
          have hltt_34 := fr_bnd hnt_34
          refine Tr.seq ?_
          refine Tr.region_f (fun _ => false) ?_
          refine W.q rfl rfl rfl rfl (by decide) (Yd.lss rfl (.t rfl) (.t rfl)) ?_
          refine W.end ?_
          refine NX.sub (env' := [(6, _), (8, _), (9, _), (28, _), (29, _), (30, _)]) ⟨rfl, rfl, rfl, rfl, rfl, rfl, trivial⟩ ?_
          refine NX.then ?_
          refine Tr.seq ?_
          refine Tr.cond (.t rfl) (fun hb => ?_) (fun hb => ?_)
          rotate_left
          · exact absurd (hb.symm.trans (fr_go hnt_34)) (by decide)
          ·
            refine Tr.skip' ?_
            refine NX.then ?_
            refine Tr.seq ?_
            refine Tr.block ?_
            refine Tr.seq ?_
            refine Tr.region_f (fun _ => false) ?_
            refine W.q rfl rfl rfl rfl (by decide) (Yd.mv rfl (.t rfl)) ?_
            refine W.q rfl rfl rfl rfl (by decide) (Yd.as rfl (.t rfl)) ?_
            refine W.end ?_
            refine NX.sub (env' := [(6, _), (8, _), (9, _), (28, _), (29, _), (10, _)]) ⟨rfl, rfl, rfl, rfl, rfl, rfl, trivial⟩ ?_
            refine NX.then ?_
            refine Tr.seq ?_
            refine Tr.region_f (fun _ => false) ?_
            refine W.q rfl rfl rfl rfl (by decide) (Yd.mv rfl (.t rfl)) ?_
            refine W.q rfl rfl rfl rfl (by decide) (Yd.mv rfl (.t rfl)) ?_
            refine W.q rfl rfl rfl rfl (by decide) (Yd.shrU (a := left_24) rfl (.t rfl) (.t rfl) h0t_34) ?_
            refine W.q rfl rfl rfl rfl (by decide) (Yd.andU (a := (left_24 >>> t_34.toNat)) (b := 1#32) rfl (.t rfl) .c) ?_
            refine W.q rfl rfl rfl rfl (by decide) (Yd.eqlU (a := ((left_24 >>> t_34.toNat) &&& 1#32)) (b := 1#32) rfl (.t rfl) .c) ?_
            refine W.q rfl rfl rfl rfl (by decide) (Yd.as rfl (.t rfl)) ?_
            refine W.end ?_
            refine NX.sub (env' := [(6, _), (8, _), (9, _), (28, _), (29, _), (10, _), (11, _)]) ⟨rfl, rfl, rfl, rfl, rfl, rfl, rfl, trivial⟩ ?_
            refine NX.then ?_
            refine Tr.seq ?_
            refine Tr.seq ?_
            refine Tr.region_f (fun _ => false) ?_
            refine W.q rfl rfl rfl rfl (by decide) (Yd.mv rfl (.t rfl)) ?_
            refine W.q rfl rfl rfl rfl (by decide) (Yd.lenO (p := 1) rfl rfl Try.underlying23 (.t rfl)) ?_
            refine W.q rfl rfl rfl rfl (by decide) (Yd.mv rfl .c) ?_
            refine W.end ?_
            refine NX.sub (env' := [(6, _), (8, _), (9, _), (28, _), (29, _), (10, _), (11, _), (38, _), (39, _)]) ⟨rfl, rfl, rfl, rfl, rfl, rfl, rfl, rfl, rfl, trivial⟩ ?_
            refine NX.then ?_
            refine Tr.join (S := fun env x => ∃ free_42 : Bool, env = [(6, v3), (8, .int .u32 (left_24.toNat : Int)), (9, v27), (28, .int .i64 ((r1.1.length : Int))), (29, .int .i64 t_34), (10, .int .i64 t_34), (11, .bool free_42)] ∧ x = ⟨m, hownT 3 1 encI v27 l26 :: hownT 29 1 encU v3 r1.1 :: l⟩ ∧ order_Line_k43 nx18 t_34 left_24 l26 nx36 free_42 = some r) ?_ (fun hk44 => ?_)
            · rintro _ _ ⟨free_42, rfl, rfl, hr⟩
              unfold order_Line_k43 at hr
              try dsimp only at hr
              refine NX.then ?_
              refine Tr.seq ?_
              refine Tr.region_f (fun _ => false) ?_
              refine W.q rfl rfl rfl rfl (by decide) (Yd.mv rfl (.t rfl)) ?_
              refine W.end ?_
              refine NX.sub (env' := [(6, _), (8, _), (9, _), (28, _), (29, _), (10, _), (66, _)]) ⟨rfl, rfl, rfl, rfl, rfl, rfl, rfl, trivial⟩ ?_
              refine NX.then ?_
              refine Tr.cond (.t rfl) (fun hb => ?_) (fun hb => ?_)
              · have hr := cond_t hb hr
                refine Tr.seq ?_
                obtain ⟨hq48, hr⟩ := guard_some hr; replace hq48 := of_decide_eq_true hq48
                refine Tr.region_f (fun i => Nat.beq i 2 || Nat.beq i 3) ?_
                refine W.q rfl rfl rfl rfl (by decide) (Yd.mv rfl (.t rfl)) ?_
                refine W.q rfl rfl rfl rfl (by decide) (Yd.mv rfl (.t rfl)) ?_
                refine W.e rfl rfl rfl rfl (by decide) (Ef.bsT (enc := encI) (vs := [_]) (ys := [t_34]) (fun _ => rfl) IF3 rfl Try.underlying36 (by decide) rfl (.cons (.t rfl) .nil) rfl rfl (by decide)) ?_
                rintro v45 _ rfl
                refine ⟨.inl rfl, ?_⟩
                refine W.cast (m' := m) (l' := hownT 3 1 encI v45 _ :: hownT 3 1 encI v27 _ :: hownT 29 1 encU v3 _ :: l) rfl rfl ?_
                refine W.e rfl rfl rfl rfl (by decide) (Ef.apI (pos := 1) (enc := encI) (xs := l26) (ys := ([t_34] : List Int)) (fun _ => rfl) IF3 rfl rfl Try.underlying36 rfl (by decide) (.t rfl) (.t rfl) (Src.own (pos := 0) rfl) (fun _ => rfl) (by omega) (by omega)) ?_
                rintro v47 _ rfl
                refine ⟨.inl rfl, ?_⟩
                refine W.cast (m' := m) (l' := hownT 3 1 encI v45 _ :: hownT 3 1 encI v47 _ :: hownT 29 1 encU v3 _ :: l) rfl rfl ?_
                refine W.q rfl rfl rfl rfl (by decide) (Yd.as rfl (.t rfl)) ?_
                refine W.end ?_
                refine NX.sub (env' := [(6, _), (8, _), (9, _), (10, _)]) ⟨rfl, rfl, rfl, rfl, trivial⟩ ?_
                refine NX.drop (l' := hownT 3 1 encI v47 _ :: hownT 29 1 encU v3 _ :: l) (.cons _ (.cons_cons _ (.cons_cons _ (.refl _)))) ?_
                refine NX.then ?_
                refine Tr.seq ?_
                refine Tr.region_f (fun _ => false) ?_
                refine W.q rfl rfl rfl rfl (by decide) (Yd.mv rfl (.t rfl)) ?_
                refine W.q rfl rfl rfl rfl (by decide) (Yd.mv rfl (.t rfl)) ?_
                refine W.q rfl rfl rfl rfl (by decide) (Yd.shlU (a := 1#32) rfl .c (.t rfl) h0t_34) ?_
                refine W.q rfl rfl rfl rfl (by decide) (Yd.andnU (a := left_24) (b := (1#32 <<< t_34.toNat)) rfl (.t rfl) (.t rfl)) ?_
                refine W.q rfl rfl rfl rfl (by decide) (Yd.as rfl (.t rfl)) ?_
                refine W.end ?_
                refine NX.sub (env' := [(6, _), (8, _), (9, _)]) ⟨rfl, rfl, rfl, trivial⟩ ?_
                refine NX.then ?_
                refine Tr.exit' (EX.pass rfl (EX.then (EX.then (EX.block ?_))))
                refine NX.sub (env' := [(6, _), (8, _), (9, _)]) ⟨rfl, rfl, rfl, trivial⟩ ?_
                exact hk32 _ _ ⟨_, _, _, rfl, rfl, hr⟩
              · have hr := cond_f hb hr
                refine Tr.skip' ?_
                refine NX.block ?_
                refine NX.then ?_
                refine Tr.region_f (fun _ => false) ?_
                refine W.q rfl rfl rfl rfl (by decide) (Yd.add rfl (.t rfl) .c) ?_
                refine W.q rfl rfl rfl rfl (by decide) (Yd.mv rfl (.t rfl)) ?_
                refine W.end ?_
                refine NX.sub (env' := [(6, _), (8, _), (9, _), (28, _), (29, _)]) ⟨rfl, rfl, rfl, rfl, rfl, trivial⟩ ?_
                refine NX.sub (env' := [(6, _), (8, _), (9, _), (28, _), (29, _)]) ⟨rfl, rfl, rfl, rfl, rfl, trivial⟩ ?_
                have hw := w64_id (n := t_34 + 1) (by omega) (by omega)
                exact NX.again n37 (t_34 + 1, left_24, l26) (Nat.lt_succ_self _) ⟨_, (by rw [hw] <;> rfl), rfl, (fr_dec hnt_34), (by omega), ((hnx36 _).symm.trans hr)⟩
            refine Tr.lenO (pos := 1) rfl (fun hlen49 => ?_)
            refine Tr.block ?_
            refine Tr.sub (env' := [(6, _), (8, _), (9, _), (10, _), (11, _), (28, _), (29, _), (38, _), (39, _)]) ⟨rfl, rfl, rfl, rfl, rfl, rfl, rfl, rfl, rfl, trivial⟩ ?_
            refine Tr.loop (S := fun n (z : Int × Bool) env x => match z with | (t_50, free_40) => env = [(6, v3), (8, .int .u32 (left_24.toNat : Int)), (9, v27), (10, .int .i64 t_34), (11, .bool free_40), (28, .int .i64 ((r1.1.length : Int))), (29, .int .i64 t_34), (38, .int .i64 ((r1.1.length : Int))), (39, .int .i64 t_50)] ∧ x = ⟨m, hownT 3 1 encI v27 l26 :: hownT 29 1 encU v3 r1.1 :: l⟩ ∧ n = ((r1.1.length : Int) - t_50).toNat ∧ 0 ≤ t_50 ∧ forK (σ := Bool) (fun i s nx_ => order_Line_b51 r1 t_34 left_24 i s nx_) (fun s => order_Line_k43 nx18 t_34 left_24 l26 nx36 s) n t_50 free_40 = some r) _ ((0 : Int), (((left_24 >>> t_34.toNat) &&& 1#32) == 1#32)) ⟨rfl, rfl, rfl, (by omega), hr⟩ ?_
            rintro n53 ⟨t_50, free_40⟩ env x ⟨rfl, rfl, hnt_50, h0t_50, hr⟩
            cases n53 with
            | zero =>
              simp only [forK] at hr
              refine Tr.seq ?_
              refine Tr.region_f (fun _ => false) ?_
              refine W.q rfl rfl rfl rfl (by decide) (Yd.lss rfl (.t rfl) (.t rfl)) ?_
              refine W.end ?_
              refine NX.sub (env' := [(6, _), (8, _), (9, _), (10, _), (11, _), (28, _), (29, _), (38, _), (39, _), (40, _)]) ⟨rfl, rfl, rfl, rfl, rfl, rfl, rfl, rfl, rfl, rfl, trivial⟩ ?_
              refine NX.then ?_
              refine Tr.seq ?_
              refine Tr.cond (.t rfl) (fun hb => ?_) (fun hb => ?_)
              · exact absurd (hb.symm.trans (fr_end hnt_50)) (by decide)
              ·
                refine Tr.exit' (EX.then (EX.then (EX.block ?_)))
                refine NX.sub (env' := [(6, _), (8, _), (9, _), (28, _), (29, _), (10, _), (11, _)]) ⟨rfl, rfl, rfl, rfl, rfl, rfl, rfl, trivial⟩ ?_
                exact hk44 _ _ ⟨_, rfl, rfl, hr⟩
            | succ n53 =>
              obtain ⟨nx52, hnx52, hr⟩ := forK_succ hr
              try dsimp only at hr
              unfold order_Line_b51 at hr
              try dsimp only at hr
              have hltt_50 := fr_bnd hnt_50
              refine Tr.seq ?_
              refine Tr.region_f (fun _ => false) ?_
              refine W.q rfl rfl rfl rfl (by decide) (Yd.lss rfl (.t rfl) (.t rfl)) ?_
              refine W.end ?_
              refine NX.sub (env' := [(6, _), (8, _), (9, _), (10, _), (11, _), (28, _), (29, _), (38, _), (39, _), (40, _)]) ⟨rfl, rfl, rfl, rfl, rfl, rfl, rfl, rfl, rfl, rfl, trivial⟩ ?_
              refine NX.then ?_
              refine Tr.seq ?_
              refine Tr.cond (.t rfl) (fun hb => ?_) (fun hb => ?_)
              rotate_left
              · exact absurd (hb.symm.trans (fr_go hnt_50)) (by decide)
              ·
                refine Tr.skip' ?_
                refine NX.then ?_
                refine Tr.seq ?_
                refine Tr.block ?_
                refine Tr.seq ?_
                refine Tr.region_f (fun _ => false) ?_
                refine W.q rfl rfl rfl rfl (by decide) (Yd.mv rfl (.t rfl)) ?_
                refine W.q rfl rfl rfl rfl (by decide) (Yd.as rfl (.t rfl)) ?_
                refine W.end ?_
                refine NX.sub (env' := [(6, _), (8, _), (9, _), (10, _), (11, _), (28, _), (29, _), (38, _), (39, _), (12, _)]) ⟨rfl, rfl, rfl, rfl, rfl, rfl, rfl, rfl, rfl, rfl, trivial⟩ ?_
                refine NX.then ?_
                obtain ⟨ha54, hr⟩ := guard_some hr
                refine Tr.region_f (fun _ => false) ?_
                refine W.q rfl rfl rfl rfl (by decide) (Yd.mv rfl (.t rfl)) ?_
                refine W.q rfl rfl rfl rfl (by decide) (Yd.mv rfl (.t rfl)) ?_
                refine W.g rfl rfl rfl rfl rfl (.t rfl _) rfl (by decide) (fun hG => Yd.mv rfl (.t rfl)) ?_
                refine W.g rfl rfl rfl rfl rfl (.t rfl _) rfl (by decide) (fun hG => Yd.mv rfl (.t rfl)) ?_
                refine W.g rfl rfl rfl rfl rfl (.t rfl _) rfl (by decide) (fun hG => Yd.eql rfl (.g rfl hG) (.g rfl hG)) ?_
                refine W.g rfl rfl rfl rfl rfl (.t rfl _) rfl (by decide) (fun hG => Yd.mv rfl (.g rfl hG)) ?_
                refine W.g rfl rfl rfl rfl rfl (.g rfl _) rfl (by decide) (fun hG => Yd.mv rfl (.t rfl)) ?_
                refine W.g rfl rfl rfl rfl rfl (.g rfl _) rfl (by decide) (fun hG => Yd.mv rfl (.t rfl)) ?_
                refine W.g rfl rfl rfl rfl rfl (.g rfl _) rfl (by decide) (fun hG => Yd.shrU (a := left_24) rfl (.g rfl hG) (.g rfl hG) h0t_50) ?_
                refine W.g rfl rfl rfl rfl rfl (.g rfl _) rfl (by decide) (fun hG => Yd.andU (a := (left_24 >>> t_50.toNat)) (b := 1#32) rfl (.g rfl hG) .c) ?_
                refine W.g rfl rfl rfl rfl rfl (.g rfl _) rfl (by decide) (fun hG => Yd.eqlU (a := ((left_24 >>> t_50.toNat) &&& 1#32)) (b := 0#32) rfl (.g rfl hG) .c) ?_
                refine W.g rfl rfl rfl rfl rfl (.t rfl _) rfl (by decide) (fun hG => Yd.orG rfl (.g rfl hG) .c rfl rfl hG) ?_
                refine W.g rfl rfl rfl rfl rfl (.t rfl _) rfl (by decide) (fun hG => Yd.mv rfl (.g rfl hG)) ?_
                refine W.g rfl rfl rfl rfl rfl (.g rfl _) rfl (by decide) (fun hG => Yd.mv rfl (.t rfl)) ?_
                refine W.g rfl rfl rfl rfl rfl (.g rfl _) rfl (by decide) (fun hG => Yd.mv rfl (.t rfl)) ?_
                refine W.g rfl rfl rfl rfl rfl (.g rfl _) rfl (by decide) (fun hG => Yd.idxT (pos := 1) rfl (gd_get (d := (0#32)) ha54 hG) rfl Try.underlying23 SZ29 (.g rfl hG) (.g rfl hG)) ?_
                refine W.g rfl rfl rfl rfl rfl (.g rfl _) rfl (by decide) (fun hG => Yd.ldT (enc := encU) (n := 1) (pos := 1) (fun _ => rfl) rfl (gd_get (d := (0#32)) ha54 hG) rfl rfl ON29 (.g rfl hG)) ?_
                refine W.g rfl rfl rfl rfl rfl (.g rfl _) rfl (by decide) (fun hG => Yd.mv rfl (.t rfl)) ?_
                refine W.g rfl rfl rfl rfl rfl (.g rfl _) rfl (by decide) (fun hG => Yd.shrU (a := ((geti r1.1 t_50).getD (0#32))) rfl (.g rfl hG) (.g rfl hG) h0t_34) ?_
                refine W.g rfl rfl rfl rfl rfl (.g rfl _) rfl (by decide) (fun hG => Yd.andU (a := (((geti r1.1 t_50).getD (0#32)) >>> t_34.toNat)) (b := 1#32) rfl (.g rfl hG) .c) ?_
                refine W.g rfl rfl rfl rfl rfl (.g rfl _) rfl (by decide) (fun hG => Yd.eqlU (a := ((((geti r1.1 t_50).getD (0#32)) >>> t_34.toNat) &&& 1#32)) (b := 0#32) rfl (.g rfl hG) .c) ?_
                refine W.g rfl rfl rfl rfl rfl (.t rfl _) rfl (by decide) (fun hG => Yd.orG rfl (.g rfl hG) .c rfl rfl hG) ?_
                refine W.q rfl rfl rfl rfl (by decide) (Yd.and rfl (.t rfl) .c rfl rfl) ?_
                refine W.q rfl rfl rfl rfl (by decide) (Yd.as rfl (.t rfl)) ?_
                refine W.end ?_
                refine NX.sub (env' := [(6, _), (8, _), (9, _), (10, _), (11, _), (28, _), (29, _), (38, _), (39, _)]) ⟨rfl, rfl, rfl, rfl, rfl, rfl, rfl, rfl, rfl, trivial⟩ ?_
                refine NX.block ?_
                refine NX.then ?_
                refine Tr.region_f (fun _ => false) ?_
                refine W.q rfl rfl rfl rfl (by decide) (Yd.add rfl (.t rfl) .c) ?_
                refine W.q rfl rfl rfl rfl (by decide) (Yd.mv rfl (.t rfl)) ?_
                refine W.end ?_
                refine NX.sub (env' := [(6, _), (8, _), (9, _), (10, _), (11, _), (28, _), (29, _), (38, _), (39, _)]) ⟨rfl, rfl, rfl, rfl, rfl, rfl, rfl, rfl, rfl, trivial⟩ ?_
                refine NX.sub (env' := [(6, _), (8, _), (9, _), (10, _), (11, _), (28, _), (29, _), (38, _), (39, _)]) ⟨rfl, rfl, rfl, rfl, rfl, rfl, rfl, rfl, rfl, trivial⟩ ?_
                have hw := w64_id (n := t_50 + 1) (by omega) (by omega)
                exact NX.again n53 (t_50 + 1, (free_40 && (((t_50 == t_34) || (((left_24 >>> t_50.toNat) &&& 1#32) == 0#32)) || (((((geti r1.1 t_50).getD (0#32)) >>> t_34.toNat) &&& 1#32) == 0#32)))) (Nat.lt_succ_self _) ⟨(by rw [hw] <;> rfl), rfl, (fr_dec hnt_50), (by omega), ((hnx52 _).symm.trans hr)⟩
      · have hr := cond_f hb hr
        refine Tr.exit' (EX.then (EX.then (EX.block ?_)))
        refine NX.sub (env' := [(9, _)]) ⟨rfl, trivial⟩ ?_
        refine NX.drop (l' := hownT 3 1 encI v12 _ :: l) (.cons_cons _ (.cons _ (.refl _))) ?_
        exact hk16 _ _ ⟨_, _, rfl, rfl, hr⟩

def syllogistref_Lined_k3 : Option ((List Int)) :=
  some ([])

def syllogistref_Lined_k17 (n_0 : Int) (pairs_1 : List (Int × Int)) (l_2 : List Int) (slf : (Int → (List (Int × Int)) → (List Int) → Option ((List Int)))) (i_6 : Int) (nx8 : (Unit → Option ((List Int)))) (ok_16 : Bool) : Option ((List Int)) :=
  (bif ok_16 then
  bif decide ((([] : List Int)).length + l_2.length ≤ 17592186044416) then
  bif decide (((([] : List Int) ++ l_2)).length + (([i_6] : List Int)).length ≤ 17592186044416) then
  (slf n_0 pairs_1 (((([] : List Int) ++ l_2) ++ ([i_6] : List Int)))).bind fun r27 =>
  some r27 else none else none
  else
  nx8 ())

def syllogistref_Lined_b35 (n_0 : Int) (pairs_1 : List (Int × Int)) (l_2 : List Int) (fuel : Nat) (i_6 : Int) (j_34 : Int) (ok_14 : Bool) (nx36 : Bool → Option ((List Int))) : Option ((List Int)) :=
  bif (!((ok_14 == true) && ((j_34 == i_6) == false)) || (syllogistref_Under fuel n_0 pairs_1 j_34 i_6).isSome) then
  bif (!((ok_14 == true) && (((j_34 == i_6) || (!(((syllogistref_Under fuel n_0 pairs_1 j_34 i_6).getD false)))) == false)) || (syllogistref_Has l_2 j_34).isSome) then
  nx36 (ok_14 && (((j_34 == i_6) || (!(((syllogistref_Under fuel n_0 pairs_1 j_34 i_6).getD false)))) || (((syllogistref_Has l_2 j_34).getD false)))) else none else none

def syllogistref_Lined_b7 (n_0 : Int) (pairs_1 : List (Int × Int)) (l_2 : List Int) (slf : (Int → (List (Int × Int)) → (List Int) → Option ((List Int)))) (fuel : Nat) (i_6 : Int) (nx8 : Unit → Option ((List Int))) : Option ((List Int)) :=
  (syllogistref_Has l_2 i_6).bind fun r10 =>
  bif decide (n_0 ≤ 9223372036854775807) then
  forK (σ := Bool) (fun i s nx_ => syllogistref_Lined_b35 n_0 pairs_1 l_2 fuel i_6 i s nx_) (fun s => syllogistref_Lined_k17 n_0 pairs_1 l_2 slf i_6 nx8 s) (n_0 - (0 : Int)).toNat (0 : Int) ((!r10)) else none

def syllogistref_Lined_s (slf : (Int → (List (Int × Int)) → (List Int) → Option ((List Int)))) (fuel : Nat) (n_0 : Int) (pairs_1 : List (Int × Int)) (l_2 : List Int) : Option ((List Int)) :=
  (bif ((l_2.length : Int) == n_0) then
  some l_2
  else
  bif decide (n_0 ≤ 9223372036854775807) then
  forK (σ := Unit) (fun i s nx_ => syllogistref_Lined_b7 n_0 pairs_1 l_2 slf fuel i nx_) (fun _ => syllogistref_Lined_k3) (n_0 - (0 : Int)).toNat (0 : Int) () else none)

def syllogistref_Lined (fuel : Nat) (n_0 : Int) (pairs_1 : List (Int × Int)) (l_2 : List Int) : Option ((List Int)) :=
  match fuel with
  | 0 => none
  | fuel + 1 => syllogistref_Lined_s (syllogistref_Lined fuel) fuel n_0 pairs_1 l_2

set_option maxRecDepth 100000 in
set_option maxHeartbeats 4000000 in
theorem syllogistref_Lined_ok (w0 : World) (m : Snap) (l : List HI) (fuel : Nat) : ∀ (n_0 : Int) (upairs_1 : Value) (pairs_1 : List (Int × Int)) (hpairs_1 : RS rP m upairs_1 pairs_1) (ul_2 : Value) (l_2 : List Int) (hl_2 : RS rI m ul_2 l_2) (r : (List Int)) (_ : syllogistref_Lined fuel n_0 pairs_1 l_2 = some r) (w : World) (_ : cX w0 ⟨m, l⟩ w),
    Calls Try.prog 24 [.int .i64 n_0, upairs_1, ul_2].toArray w fun e w' => ∃ z0 : Value, ∃ m1 : Snap, e = .returned (z0) ∧ Sle m m1 ∧ RS rI m1 z0 r ∧ cX w0 ⟨m1, l⟩ w' := by
  induction fuel generalizing m l with
  | zero => intro n_0 upairs_1 pairs_1 hpairs_1 ul_2 l_2 hl_2 r hr; simp [syllogistref_Lined] at hr
  | succ fuel ih =>
  intro n_0 upairs_1 pairs_1 hpairs_1 ul_2 l_2 hl_2 r hr w hc
  replace hr : syllogistref_Lined_s (syllogistref_Lined fuel) fuel n_0 pairs_1 l_2 = some r := hr
  obtain ⟨slf, hslf⟩ : ∃ f, f = syllogistref_Lined fuel := ⟨_, rfl⟩
  rw [← hslf] at hr ih
  unfold syllogistref_Lined_s at hr
  refine calls_of_Tr (N := 58) Try.func24 rfl hc rfl (Nat.le_of_ble_eq_true rfl) ?_
  refine Tr.seq ?_
  refine Tr.region_f (fun _ => false) ?_
  refine W.q rfl rfl rfl rfl (by decide) (Yd.as rfl .c) ?_
  refine W.end ?_
  refine NX.sub (env' := [(0, _), (1, _), (2, _)]) ⟨rfl, rfl, rfl, trivial⟩ ?_
  refine NX.then ?_
  refine Tr.seq ?_
  refine Tr.seq ?_
  refine Tr.region_f (fun _ => false) ?_
  refine W.q rfl rfl rfl rfl (by decide) (Yd.mv rfl (.t rfl)) ?_
  refine W.q rfl rfl rfl rfl (by decide) (Yd.lenR hl_2 rfl Try.underlying36 (.t rfl)) ?_
  refine W.q rfl rfl rfl rfl (by decide) (Yd.mv rfl (.t rfl)) ?_
  refine W.q rfl rfl rfl rfl (by decide) (Yd.eql rfl (.t rfl) (.t rfl)) ?_
  refine W.end ?_
  refine NX.sub (env' := [(0, _), (1, _), (2, _), (13, _)]) ⟨rfl, rfl, rfl, rfl, trivial⟩ ?_
  refine NX.then ?_
  refine Tr.cond (.t rfl) (fun hb => ?_) (fun hb => ?_)
  · have hr := cond_t hb hr
    refine Tr.seq ?_
    refine Tr.region_f (fun _ => false) ?_
    refine W.q rfl rfl rfl rfl (by decide) (Yd.mv rfl (.t rfl)) ?_
    refine W.q rfl rfl rfl rfl (by decide) (Yd.as rfl (.t rfl)) ?_
    refine W.end ?_
    refine NX.sub (env' := [(6, _)]) ⟨rfl, trivial⟩ ?_
    refine NX.then ?_
    refine Tr.ret' (RT.then ?_)
    refine res1 rfl rfl ?_
    intro w hc
    cases hr
    exact ⟨_, _, rfl, (.refl _), hl_2, hc⟩
  · have hr := cond_f hb hr
    refine Tr.skip' ?_
    refine NX.then ?_
    refine Tr.seq ?_
    refine Tr.seq ?_
    refine Tr.region_f (fun _ => false) ?_
    refine W.q rfl rfl rfl rfl (by decide) (Yd.as rfl .c) ?_
    refine W.end ?_
    refine NX.sub (env' := [(0, _), (1, _), (2, _), (7, _)]) ⟨rfl, rfl, rfl, rfl, trivial⟩ ?_
    refine NX.then ?_
    refine Tr.join (S := fun env x => env = [] ∧ x = ⟨m, l⟩ ∧ syllogistref_Lined_k3 = some r) ?_ (fun hk4 => ?_)
    · rintro _ _ ⟨rfl, rfl, hr⟩
      unfold syllogistref_Lined_k3 at hr
      try dsimp only at hr
      refine NX.then ?_
      refine Tr.seq ?_
      refine Tr.region_f (fun _ => false) ?_
      refine W.q rfl rfl rfl rfl (by decide) (Yd.as rfl .c) ?_
      refine W.end ?_
      refine NX.sub (env' := [(6, _)]) ⟨rfl, trivial⟩ ?_
      refine NX.then ?_
      refine Tr.ret' ?_
      refine res1 rfl rfl ?_
      intro w hc
      cases hr
      exact ⟨_, _, rfl, (.refl _), (RS.nil _ _), hc⟩
    obtain ⟨hle5, hr⟩ := guard_some hr; replace hle5 := of_decide_eq_true hle5
    refine Tr.block ?_
    refine Tr.sub (env' := [(0, _), (1, _), (2, _), (7, _)]) ⟨rfl, rfl, rfl, rfl, trivial⟩ ?_
    refine Tr.loop (S := fun n (z : Int × Unit) env x => match z with | (i_6, _) => env = [(0, .int .i64 n_0), (1, upairs_1), (2, ul_2), (7, .int .i64 i_6)] ∧ x = ⟨m, l⟩ ∧ n = (n_0 - i_6).toNat ∧ 0 ≤ i_6 ∧ forK (σ := Unit) (fun i s nx_ => syllogistref_Lined_b7 n_0 pairs_1 l_2 slf fuel i nx_) (fun _ => syllogistref_Lined_k3) n i_6 () = some r) _ ((0 : Int), ()) ⟨rfl, rfl, rfl, (by omega), hr⟩ ?_
    rintro n9 ⟨i_6, _⟩ env x ⟨rfl, rfl, hni_6, h0i_6, hr⟩
    cases n9 with
    | zero =>
      simp only [forK] at hr
      refine Tr.seq ?_
      refine Tr.seq ?_
      refine Tr.region_f (fun _ => false) ?_
      refine W.q rfl rfl rfl rfl (by decide) (Yd.mv rfl (.t rfl)) ?_
      refine W.q rfl rfl rfl rfl (by decide) (Yd.mv rfl (.t rfl)) ?_
      refine W.q rfl rfl rfl rfl (by decide) (Yd.lss rfl (.t rfl) (.t rfl)) ?_
      refine W.end ?_
      refine NX.sub (env' := [(0, _), (1, _), (2, _), (7, _), (17, _)]) ⟨rfl, rfl, rfl, rfl, rfl, trivial⟩ ?_
      refine NX.then ?_
      refine Tr.cond (.t rfl) (fun hb => ?_) (fun hb => ?_)
      · exact absurd (hb.symm.trans (fr_end hni_6)) (by decide)
      ·
        refine Tr.exit' (EX.then (EX.then (EX.block ?_)))
        refine NX.sub (env' := []) trivial ?_
        exact hk4 _ _ ⟨rfl, rfl, hr⟩
    | succ n9 =>
      obtain ⟨nx8, hnx8, hr⟩ := forK_succ hr
      try dsimp only at hr
      unfold syllogistref_Lined_b7 at hr
      try dsimp only at hr
      have hlti_6 := fr_bnd hni_6
      refine Tr.seq ?_
      refine Tr.seq ?_
      refine Tr.region_f (fun _ => false) ?_
      refine W.q rfl rfl rfl rfl (by decide) (Yd.mv rfl (.t rfl)) ?_
      refine W.q rfl rfl rfl rfl (by decide) (Yd.mv rfl (.t rfl)) ?_
      refine W.q rfl rfl rfl rfl (by decide) (Yd.lss rfl (.t rfl) (.t rfl)) ?_
      refine W.end ?_
      refine NX.sub (env' := [(0, _), (1, _), (2, _), (7, _), (17, _)]) ⟨rfl, rfl, rfl, rfl, rfl, trivial⟩ ?_
      refine NX.then ?_
      refine Tr.cond (.t rfl) (fun hb => ?_) (fun hb => ?_)
      rotate_left
      · exact absurd (hb.symm.trans (fr_go hni_6)) (by decide)
      ·
        refine Tr.skip' ?_
        refine NX.then ?_
        refine Tr.seq ?_
        refine Tr.block ?_
        refine Tr.seq ?_
        obtain ⟨r10, hr11, hr⟩ := bind_some hr
        refine Tr.region_f (fun _ => false) ?_
        refine W.q rfl rfl rfl rfl (by decide) (Yd.mv rfl (.t rfl)) ?_
        refine W.q rfl rfl rfl rfl (by decide) (Yd.mv rfl (.t rfl)) ?_
        refine W.q rfl rfl rfl rfl (by decide) (Yd.call (v := .bool r10) rfl Try.func30 rfl rfl (.cons (.t rfl) (.cons (.t rfl) .nil)) (fun x' hx w hw => syllogistref_Has_ok w0 x'.m x'.l _ _ (hl_2.mono hx.1) i_6 _ hr11 w hw)) ?_
        refine W.q rfl rfl rfl rfl (by decide) (Yd.not rfl (.t rfl)) ?_
        refine W.q rfl rfl rfl rfl (by decide) (Yd.as rfl (.t rfl)) ?_
        refine W.end ?_
        refine NX.sub (env' := [(0, _), (1, _), (2, _), (7, _), (8, _)]) ⟨rfl, rfl, rfl, rfl, rfl, trivial⟩ ?_
        refine NX.then ?_
        refine Tr.seq ?_
        refine Tr.seq ?_
        refine Tr.region_f (fun _ => false) ?_
        refine W.q rfl rfl rfl rfl (by decide) (Yd.as rfl .c) ?_
        refine W.end ?_
        refine NX.sub (env' := [(0, _), (1, _), (2, _), (7, _), (8, _), (9, _)]) ⟨rfl, rfl, rfl, rfl, rfl, rfl, trivial⟩ ?_
        refine NX.then ?_
        refine Tr.join (S := fun env x => ∃ ok_16 : Bool, env = [(0, .int .i64 n_0), (1, upairs_1), (2, ul_2), (7, .int .i64 i_6), (8, .bool ok_16)] ∧ x = ⟨m, l⟩ ∧ syllogistref_Lined_k17 n_0 pairs_1 l_2 slf i_6 nx8 ok_16 = some r) ?_ (fun hk18 => ?_)
        · rintro _ _ ⟨ok_16, rfl, rfl, hr⟩
          unfold syllogistref_Lined_k17 at hr
          try dsimp only at hr
          refine NX.then ?_
          refine Tr.seq ?_
          refine Tr.region_f (fun _ => false) ?_
          refine W.q rfl rfl rfl rfl (by decide) (Yd.mv rfl (.t rfl)) ?_
          refine W.end ?_
          refine NX.sub (env' := [(0, _), (1, _), (2, _), (7, _), (48, _)]) ⟨rfl, rfl, rfl, rfl, rfl, trivial⟩ ?_
          refine NX.then ?_
          refine Tr.cond (.t rfl) (fun hb => ?_) (fun hb => ?_)
          · have hr := cond_t hb hr
            refine Tr.seq ?_
            obtain ⟨hq22, hr⟩ := guard_some hr; replace hq22 := of_decide_eq_true hq22
            obtain ⟨hq26, hr⟩ := guard_some hr; replace hq26 := of_decide_eq_true hq26
            obtain ⟨r27, hr28, hr⟩ := bind_some hr
            refine Tr.region_f (fun i => Nat.beq i 2 || Nat.beq i 4 || Nat.beq i 6 || Nat.beq i 7 || Nat.beq i 8) ?_
            refine W.q rfl rfl rfl rfl (by decide) (Yd.mv rfl (.t rfl)) ?_
            refine W.q rfl rfl rfl rfl (by decide) (Yd.mv rfl (.t rfl)) ?_
            refine W.e rfl rfl rfl rfl (by decide) (Ef.bsT (enc := encI) (vs := []) (ys := []) (fun _ => rfl) IF3 rfl Try.underlying36 (by decide) rfl .nil rfl rfl (by decide)) ?_
            rintro v19 _ rfl
            refine ⟨.inl rfl, ?_⟩
            refine W.cast (m' := m) (l' := hownT 3 1 encI v19 _ :: l) rfl rfl ?_
            refine W.q rfl rfl rfl rfl (by decide) (Yd.mv rfl (.t rfl)) ?_
            refine W.e rfl rfl rfl rfl (by decide) (Ef.apI (pos := 0) (enc := encI) (xs := ([] : List Int)) (ys := l_2) (fun _ => rfl) IF3 rfl rfl Try.underlying36 rfl (by decide) (.t rfl) (.t rfl) (Src.rs (by decide) (.refl _) hl_2) (fun _ => rfl) (by omega) (by omega)) ?_
            rintro v21 _ rfl
            refine ⟨.inl rfl, ?_⟩
            refine W.cast (m' := m) (l' := hownT 3 1 encI v21 _ :: l) rfl rfl ?_
            refine W.q rfl rfl rfl rfl (by decide) (Yd.mv rfl (.t rfl)) ?_
            refine W.e rfl rfl rfl rfl (by decide) (Ef.bsT (enc := encI) (vs := [_]) (ys := [i_6]) (fun _ => rfl) IF3 rfl Try.underlying36 (by decide) rfl (.cons (.t rfl) .nil) rfl rfl (by decide)) ?_
            rintro v23 _ rfl
            refine ⟨.inl rfl, ?_⟩
            refine W.cast (m' := m) (l' := hownT 3 1 encI v23 _ :: hownT 3 1 encI v21 _ :: l) rfl rfl ?_
            refine W.e rfl rfl rfl rfl (by decide) (Ef.apI (pos := 1) (enc := encI) (xs := (([] : List Int) ++ l_2)) (ys := ([i_6] : List Int)) (fun _ => rfl) IF3 rfl rfl Try.underlying36 rfl (by decide) (.t rfl) (.t rfl) (Src.own (pos := 0) rfl) (fun _ => rfl) (by omega) (by omega)) ?_
            rintro v25 _ rfl
            refine ⟨.inl rfl, ?_⟩
            refine W.cast (m' := m) (l' := hownT 3 1 encI v23 _ :: hownT 3 1 encI v25 _ :: l) rfl rfl ?_
            refine W.e rfl rfl rfl rfl (by decide) (Ef.call (R := fun z x' => ∃ u29 : Value, ∃ m30 : Snap, z = u29 ∧ x' = ⟨m30, hownT 3 1 encI v23 (([i_6] : List Int)) :: l⟩ ∧ Sle m m30 ∧ RS rI m30 v25 (((([] : List Int) ++ l_2) ++ ([i_6] : List Int))) ∧ RS rI m30 u29 r27) rfl Try.func24 rfl rfl (.cons (.t rfl) (.cons (.t rfl) (.cons (.t rfl) .nil))) (by intro w hw; obtain ⟨m2, hm2, hL1, hc2⟩ := cX_freeze (enc := encI) (n := 1) (p := 1) (fun _ => rfl) hw rfl; exact (ih m2 _ n_0 _ _ (hpairs_1.mono hm2) _ _ hL1 _ hr28 w hc2).mono fun e w' ⟨u29, m30, he, hm', hu31, hc'⟩ => ⟨_, _, he, ⟨u29, m30, rfl, rfl, hm2.trans hm', hL1.mono hm', hu31⟩, hc'⟩)) ?_
            rintro u29 _ ⟨_, m30, rfl, rfl, hsm30, hu32, hu31⟩
            have hpairs_1 := hpairs_1.mono hsm30
            have hl_2 := hl_2.mono hsm30
            refine ⟨.inl rfl, ?_⟩
            refine W.cast (m' := m30) (l' := hownT 3 1 encI v23 _ :: l) rfl rfl ?_
            refine W.q rfl rfl rfl rfl (by decide) (Yd.as rfl (.t rfl)) ?_
            refine W.end ?_
            refine NX.sub (env' := [(6, _)]) ⟨rfl, trivial⟩ ?_
            refine NX.drop (l' := l) (.cons _ (.refl _)) ?_
            refine NX.then ?_
            refine Tr.ret' (RT.block (RT.then (RT.then (RT.block (RT.then ?_)))))
            refine res1 rfl rfl ?_
            intro w hc
            cases hr
            exact ⟨_, _, rfl, hsm30, hu31, hc⟩
          · have hr := cond_f hb hr
            refine Tr.skip' ?_
            refine NX.block ?_
            refine NX.then ?_
            refine Tr.region_f (fun _ => false) ?_
            refine W.q rfl rfl rfl rfl (by decide) (Yd.mv rfl (.t rfl)) ?_
            refine W.q rfl rfl rfl rfl (by decide) (Yd.add rfl (.t rfl) .c) ?_
            refine W.q rfl rfl rfl rfl (by decide) (Yd.as rfl (.t rfl)) ?_
            refine W.end ?_
            refine NX.sub (env' := [(0, _), (1, _), (2, _), (7, _)]) ⟨rfl, rfl, rfl, rfl, trivial⟩ ?_
            refine NX.sub (env' := [(0, _), (1, _), (2, _), (7, _)]) ⟨rfl, rfl, rfl, rfl, trivial⟩ ?_
            have hw := w64_id (n := i_6 + 1) (by omega) (by omega)
            exact NX.again n9 (i_6 + 1, ()) (Nat.lt_succ_self _) ⟨(by rw [hw] <;> rfl), rfl, (fr_dec hni_6), (by omega), ((hnx8 _).symm.trans hr)⟩
        obtain ⟨hle33, hr⟩ := guard_some hr; replace hle33 := of_decide_eq_true hle33
        refine Tr.block ?_
        refine Tr.sub (env' := [(0, _), (1, _), (2, _), (7, _), (8, _), (9, _)]) ⟨rfl, rfl, rfl, rfl, rfl, rfl, trivial⟩ ?_
        refine Tr.loop (S := fun n (z : Int × Bool) env x => match z with | (j_34, ok_14) => env = [(0, .int .i64 n_0), (1, upairs_1), (2, ul_2), (7, .int .i64 i_6), (8, .bool ok_14), (9, .int .i64 j_34)] ∧ x = ⟨m, l⟩ ∧ n = (n_0 - j_34).toNat ∧ 0 ≤ j_34 ∧ forK (σ := Bool) (fun i s nx_ => syllogistref_Lined_b35 n_0 pairs_1 l_2 fuel i_6 i s nx_) (fun s => syllogistref_Lined_k17 n_0 pairs_1 l_2 slf i_6 nx8 s) n j_34 ok_14 = some r) _ ((0 : Int), (!r10)) ⟨rfl, rfl, rfl, (by omega), hr⟩ ?_
        rintro n37 ⟨j_34, ok_14⟩ env x ⟨rfl, rfl, hnj_34, h0j_34, hr⟩
        cases n37 with
        | zero =>
          simp only [forK] at hr
          refine Tr.seq ?_
          refine Tr.seq ?_
          refine Tr.region_f (fun _ => false) ?_
          refine W.q rfl rfl rfl rfl (by decide) (Yd.mv rfl (.t rfl)) ?_
          refine W.q rfl rfl rfl rfl (by decide) (Yd.mv rfl (.t rfl)) ?_
          refine W.q rfl rfl rfl rfl (by decide) (Yd.lss rfl (.t rfl) (.t rfl)) ?_
          refine W.end ?_
          refine NX.sub (env' := [(0, _), (1, _), (2, _), (7, _), (8, _), (9, _), (26, _)]) ⟨rfl, rfl, rfl, rfl, rfl, rfl, rfl, trivial⟩ ?_
          refine NX.then ?_
          refine Tr.cond (.t rfl) (fun hb => ?_) (fun hb => ?_)
          · exact absurd (hb.symm.trans (fr_end hnj_34)) (by decide)
          ·
            refine Tr.exit' (EX.then (EX.then (EX.block ?_)))
            refine NX.sub (env' := [(0, _), (1, _), (2, _), (7, _), (8, _)]) ⟨rfl, rfl, rfl, rfl, rfl, trivial⟩ ?_
            exact hk18 _ _ ⟨_, rfl, rfl, hr⟩
        | succ n37 =>
          obtain ⟨nx36, hnx36, hr⟩ := forK_succ hr
          try dsimp only at hr
          unfold syllogistref_Lined_b35 at hr
          try dsimp only at hr
          have hltj_34 := fr_bnd hnj_34
          refine Tr.seq ?_
          refine Tr.seq ?_
          refine Tr.region_f (fun _ => false) ?_
          refine W.q rfl rfl rfl rfl (by decide) (Yd.mv rfl (.t rfl)) ?_
          refine W.q rfl rfl rfl rfl (by decide) (Yd.mv rfl (.t rfl)) ?_
          refine W.q rfl rfl rfl rfl (by decide) (Yd.lss rfl (.t rfl) (.t rfl)) ?_
          refine W.end ?_
          refine NX.sub (env' := [(0, _), (1, _), (2, _), (7, _), (8, _), (9, _), (26, _)]) ⟨rfl, rfl, rfl, rfl, rfl, rfl, rfl, trivial⟩ ?_
          refine NX.then ?_
          refine Tr.cond (.t rfl) (fun hb => ?_) (fun hb => ?_)
          rotate_left
          · exact absurd (hb.symm.trans (fr_go hnj_34)) (by decide)
          ·
            refine Tr.skip' ?_
            refine NX.then ?_
            refine Tr.seq ?_
            refine Tr.block ?_
            obtain ⟨ha38, hr⟩ := guard_some hr
            obtain ⟨ha39, hr⟩ := guard_some hr
            refine Tr.region_f (fun _ => false) ?_
            refine W.q rfl rfl rfl rfl (by decide) (Yd.mv rfl (.t rfl)) ?_
            refine W.q rfl rfl rfl rfl (by decide) (Yd.mv rfl (.t rfl)) ?_
            refine W.g rfl rfl rfl rfl rfl (.t rfl _) rfl (by decide) (fun hG => Yd.mv rfl (.t rfl)) ?_
            refine W.g rfl rfl rfl rfl rfl (.t rfl _) rfl (by decide) (fun hG => Yd.mv rfl (.t rfl)) ?_
            refine W.g rfl rfl rfl rfl rfl (.t rfl _) rfl (by decide) (fun hG => Yd.eql rfl (.g rfl hG) (.g rfl hG)) ?_
            refine W.g rfl rfl rfl rfl rfl (.t rfl _) rfl (by decide) (fun hG => Yd.mv rfl (.g rfl hG)) ?_
            refine W.g rfl rfl rfl rfl rfl (.g rfl _) rfl (by decide) (fun hG => Yd.mv rfl (.t rfl)) ?_
            refine W.g rfl rfl rfl rfl rfl (.g rfl _) rfl (by decide) (fun hG => Yd.mv rfl (.t rfl)) ?_
            refine W.g rfl rfl rfl rfl rfl (.g rfl _) rfl (by decide) (fun hG => Yd.mv rfl (.t rfl)) ?_
            refine W.g rfl rfl rfl rfl rfl (.g rfl _) rfl (by decide) (fun hG => Yd.mv rfl (.t rfl)) ?_
            refine W.g rfl rfl rfl rfl rfl (.g rfl _) rfl (by decide) (fun hG => Yd.call (v := .bool ((((syllogistref_Under fuel n_0 pairs_1 j_34 i_6).getD false)))) rfl Try.func18 rfl rfl (.cons (.g rfl hG) (.cons (.g rfl hG) (.cons (.g rfl hG) (.cons (.g rfl hG) .nil)))) (fun x' hx w hw => syllogistref_Under_ok w0 x'.m x'.l fuel n_0 _ _ (hpairs_1.mono hx.1) j_34 i_6 _ (gd_get (d := false) ha38 hG) w hw)) ?_
            refine W.g rfl rfl rfl rfl rfl (.g rfl _) rfl (by decide) (fun hG => Yd.not rfl (.g rfl hG)) ?_
            refine W.g rfl rfl rfl rfl rfl (.t rfl _) rfl (by decide) (fun hG => Yd.orG rfl (.g rfl hG) .c rfl rfl hG) ?_
            refine W.g rfl rfl rfl rfl rfl (.t rfl _) rfl (by decide) (fun hG => Yd.mv rfl (.g rfl hG)) ?_
            refine W.g rfl rfl rfl rfl rfl (.g rfl _) rfl (by decide) (fun hG => Yd.mv rfl (.t rfl)) ?_
            refine W.g rfl rfl rfl rfl rfl (.g rfl _) rfl (by decide) (fun hG => Yd.mv rfl (.t rfl)) ?_
            refine W.g rfl rfl rfl rfl rfl (.g rfl _) rfl (by decide) (fun hG => Yd.call (v := .bool ((((syllogistref_Has l_2 j_34).getD false)))) rfl Try.func30 rfl rfl (.cons (.g rfl hG) (.cons (.g rfl hG) .nil)) (fun x' hx w hw => syllogistref_Has_ok w0 x'.m x'.l _ _ (hl_2.mono hx.1) j_34 _ (gd_get (d := false) ha39 hG) w hw)) ?_
            refine W.g rfl rfl rfl rfl rfl (.t rfl _) rfl (by decide) (fun hG => Yd.orG rfl (.g rfl hG) .c rfl rfl hG) ?_
            refine W.q rfl rfl rfl rfl (by decide) (Yd.and rfl (.t rfl) .c rfl rfl) ?_
            refine W.q rfl rfl rfl rfl (by decide) (Yd.as rfl (.t rfl)) ?_
            refine W.end ?_
            refine NX.sub (env' := [(0, _), (1, _), (2, _), (7, _), (8, _), (9, _)]) ⟨rfl, rfl, rfl, rfl, rfl, rfl, trivial⟩ ?_
            refine NX.block ?_
            refine NX.then ?_
            refine Tr.region_f (fun _ => false) ?_
            refine W.q rfl rfl rfl rfl (by decide) (Yd.mv rfl (.t rfl)) ?_
            refine W.q rfl rfl rfl rfl (by decide) (Yd.add rfl (.t rfl) .c) ?_
            refine W.q rfl rfl rfl rfl (by decide) (Yd.as rfl (.t rfl)) ?_
            refine W.end ?_
            refine NX.sub (env' := [(0, _), (1, _), (2, _), (7, _), (8, _), (9, _)]) ⟨rfl, rfl, rfl, rfl, rfl, rfl, trivial⟩ ?_
            refine NX.sub (env' := [(0, _), (1, _), (2, _), (7, _), (8, _), (9, _)]) ⟨rfl, rfl, rfl, rfl, rfl, rfl, trivial⟩ ?_
            have hw := w64_id (n := j_34 + 1) (by omega) (by omega)
            exact NX.again n37 (j_34 + 1, (ok_14 && (((j_34 == i_6) || (!(((syllogistref_Under fuel n_0 pairs_1 j_34 i_6).getD false)))) || (((syllogistref_Has l_2 j_34).getD false))))) (Nat.lt_succ_self _) ⟨(by rw [hw] <;> rfl), rfl, (fr_dec hnj_34), (by omega), ((hnx36 _).symm.trans hr)⟩

def syllogistref_Ints_k3 : Option (Bool) :=
  some true

def syllogistref_Ints_b7 (a_0 : List Int) (b_1 : List Int) (i_6 : Int) (nx8 : Unit → Option (Bool)) : Option (Bool) :=
  (geti a_0 i_6).bind fun y10 =>
  (geti b_1 i_6).bind fun y12 =>
  (bif (y10 != y12) then
  some false
  else
  nx8 ())

def syllogistref_Ints (a_0 : List Int) (b_1 : List Int) : Option (Bool) :=
  (bif ((a_0.length : Int) != (b_1.length : Int)) then
  some false
  else
  forK (σ := Unit) (fun i s nx_ => syllogistref_Ints_b7 a_0 b_1 i nx_) (fun _ => syllogistref_Ints_k3) ((a_0.length : Int) - (0 : Int)).toNat (0 : Int) ())

set_option maxRecDepth 100000 in
set_option maxHeartbeats 4000000 in
theorem syllogistref_Ints_ok (w0 : World) (m : Snap) (l : List HI) (ua_0 : Value) (a_0 : List Int) (ha_0 : RS rI m ua_0 a_0) (ub_1 : Value) (b_1 : List Int) (hb_1 : RS rI m ub_1 b_1) (r : Bool) (hr : syllogistref_Ints a_0 b_1 = some r) (w : World) (hc : cX w0 ⟨m, l⟩ w) :
    Calls Try.prog 23 [ua_0, ub_1].toArray w fun e w' => e = .returned (.bool r) ∧ cX w0 ⟨m, l⟩ w' := by
  unfold syllogistref_Ints at hr
  refine calls_of_Tr (N := 26) Try.func23 rfl hc rfl (Nat.le_of_ble_eq_true rfl) ?_
  refine Tr.seq ?_
  refine Tr.region_f (fun _ => false) ?_
  refine W.q rfl rfl rfl rfl (by decide) (Yd.as rfl .c) ?_
  refine W.end ?_
  refine NX.sub (env' := [(0, _), (1, _)]) ⟨rfl, rfl, trivial⟩ ?_
  refine NX.then ?_
  refine Tr.seq ?_
  refine Tr.seq ?_
  refine Tr.region_f (fun _ => false) ?_
  refine W.q rfl rfl rfl rfl (by decide) (Yd.mv rfl (.t rfl)) ?_
  refine W.q rfl rfl rfl rfl (by decide) (Yd.lenR ha_0 rfl Try.underlying36 (.t rfl)) ?_
  refine W.q rfl rfl rfl rfl (by decide) (Yd.mv rfl (.t rfl)) ?_
  refine W.q rfl rfl rfl rfl (by decide) (Yd.lenR hb_1 rfl Try.underlying36 (.t rfl)) ?_
  refine W.q rfl rfl rfl rfl (by decide) (Yd.neq rfl (.t rfl) (.t rfl)) ?_
  refine W.end ?_
  refine NX.sub (env' := [(0, _), (1, _), (10, _)]) ⟨rfl, rfl, rfl, trivial⟩ ?_
  refine NX.then ?_
  refine Tr.cond (.t rfl) (fun hb => ?_) (fun hb => ?_)
  · have hr := cond_t hb hr
    refine Tr.seq ?_
    refine Tr.region_f (fun _ => false) ?_
    refine W.q rfl rfl rfl rfl (by decide) (Yd.as rfl .c) ?_
    refine W.end ?_
    refine NX.sub (env' := [(4, _)]) ⟨rfl, trivial⟩ ?_
    refine NX.then ?_
    refine Tr.ret' (RT.then ?_)
    refine res1 rfl rfl ?_
    intro w hc
    cases hr
    exact ⟨rfl, hc⟩
  · have hr := cond_f hb hr
    refine Tr.skip' ?_
    refine NX.then ?_
    refine Tr.seq ?_
    refine Tr.seq ?_
    refine Tr.region_f (fun _ => false) ?_
    refine W.q rfl rfl rfl rfl (by decide) (Yd.as rfl .c) ?_
    refine W.end ?_
    refine NX.sub (env' := [(0, _), (1, _), (5, _)]) ⟨rfl, rfl, rfl, trivial⟩ ?_
    refine NX.then ?_
    refine Tr.join (S := fun env x => env = [] ∧ x = ⟨m, l⟩ ∧ syllogistref_Ints_k3 = some r) ?_ (fun hk4 => ?_)
    · rintro _ _ ⟨rfl, rfl, hr⟩
      unfold syllogistref_Ints_k3 at hr
      try dsimp only at hr
      refine NX.then ?_
      refine Tr.seq ?_
      refine Tr.region_f (fun _ => false) ?_
      refine W.q rfl rfl rfl rfl (by decide) (Yd.as rfl .c) ?_
      refine W.end ?_
      refine NX.sub (env' := [(4, _)]) ⟨rfl, trivial⟩ ?_
      refine NX.then ?_
      refine Tr.ret' ?_
      refine res1 rfl rfl ?_
      intro w hc
      cases hr
      exact ⟨rfl, hc⟩
    have hlen5 := (ha_0).2.1
    refine Tr.block ?_
    refine Tr.sub (env' := [(0, _), (1, _), (5, _)]) ⟨rfl, rfl, rfl, trivial⟩ ?_
    refine Tr.loop (S := fun n (z : Int × Unit) env x => match z with | (i_6, _) => env = [(0, ua_0), (1, ub_1), (5, .int .i64 i_6)] ∧ x = ⟨m, l⟩ ∧ n = ((a_0.length : Int) - i_6).toNat ∧ 0 ≤ i_6 ∧ forK (σ := Unit) (fun i s nx_ => syllogistref_Ints_b7 a_0 b_1 i nx_) (fun _ => syllogistref_Ints_k3) n i_6 () = some r) _ ((0 : Int), ()) ⟨rfl, rfl, rfl, (by omega), hr⟩ ?_
    rintro n9 ⟨i_6, _⟩ env x ⟨rfl, rfl, hni_6, h0i_6, hr⟩
    cases n9 with
    | zero =>
      simp only [forK] at hr
      refine Tr.seq ?_
      refine Tr.seq ?_
      refine Tr.region_f (fun _ => false) ?_
      refine W.q rfl rfl rfl rfl (by decide) (Yd.mv rfl (.t rfl)) ?_
      refine W.q rfl rfl rfl rfl (by decide) (Yd.mv rfl (.t rfl)) ?_
      refine W.q rfl rfl rfl rfl (by decide) (Yd.lenR ha_0 rfl Try.underlying36 (.t rfl)) ?_
      refine W.q rfl rfl rfl rfl (by decide) (Yd.lss rfl (.t rfl) (.t rfl)) ?_
      refine W.end ?_
      refine NX.sub (env' := [(0, _), (1, _), (5, _), (14, _)]) ⟨rfl, rfl, rfl, rfl, trivial⟩ ?_
      refine NX.then ?_
      refine Tr.cond (.t rfl) (fun hb => ?_) (fun hb => ?_)
      · exact absurd (hb.symm.trans (fr_end hni_6)) (by decide)
      ·
        refine Tr.exit' (EX.then (EX.then (EX.block ?_)))
        refine NX.sub (env' := []) trivial ?_
        exact hk4 _ _ ⟨rfl, rfl, hr⟩
    | succ n9 =>
      obtain ⟨nx8, hnx8, hr⟩ := forK_succ hr
      try dsimp only at hr
      unfold syllogistref_Ints_b7 at hr
      try dsimp only at hr
      have hlti_6 := fr_bnd hni_6
      refine Tr.seq ?_
      refine Tr.seq ?_
      refine Tr.region_f (fun _ => false) ?_
      refine W.q rfl rfl rfl rfl (by decide) (Yd.mv rfl (.t rfl)) ?_
      refine W.q rfl rfl rfl rfl (by decide) (Yd.mv rfl (.t rfl)) ?_
      refine W.q rfl rfl rfl rfl (by decide) (Yd.lenR ha_0 rfl Try.underlying36 (.t rfl)) ?_
      refine W.q rfl rfl rfl rfl (by decide) (Yd.lss rfl (.t rfl) (.t rfl)) ?_
      refine W.end ?_
      refine NX.sub (env' := [(0, _), (1, _), (5, _), (14, _)]) ⟨rfl, rfl, rfl, rfl, trivial⟩ ?_
      refine NX.then ?_
      refine Tr.cond (.t rfl) (fun hb => ?_) (fun hb => ?_)
      rotate_left
      · exact absurd (hb.symm.trans (fr_go hni_6)) (by decide)
      ·
        refine Tr.skip' ?_
        refine NX.then ?_
        refine Tr.seq ?_
        refine Tr.block ?_
        refine Tr.seq ?_
        obtain ⟨y10, hy11, hr⟩ := bind_some hr
        obtain ⟨y12, hy13, hr⟩ := bind_some hr
        refine Tr.region_x (fun _ => false) (fun _ => false) (Ord.of [0, 1, 2, 3, 4, 5, 6, 7, 8]) FM (by kernel_rfl) ?_
        refine W.q rfl rfl rfl rfl (by decide) (Yd.mv rfl (.t rfl)) ?_
        refine W.q rfl rfl rfl rfl (by decide) (Yd.mv rfl (.t rfl)) ?_
        refine W.q rfl rfl rfl rfl (by decide) (Yd.idxR ha_0 hy11 rfl Try.underlying36 SZ3 (.t rfl) (.t rfl)) ?_
        refine W.q rfl rfl rfl rfl (by decide) (Yd.ldF ha_0 (.refl _) hy11 rfl rfl ON3 (.t rfl)) ?_
        refine W.q rfl rfl rfl rfl (by decide) (Yd.mv rfl (.t rfl)) ?_
        refine W.q rfl rfl rfl rfl (by decide) (Yd.mv rfl (.t rfl)) ?_
        refine W.q rfl rfl rfl rfl (by decide) (Yd.idxR hb_1 hy13 rfl Try.underlying36 SZ3 (.t rfl) (.t rfl)) ?_
        refine W.q rfl rfl rfl rfl (by decide) (Yd.ldF hb_1 (.refl _) hy13 rfl rfl ON3 (.t rfl)) ?_
        refine W.q rfl rfl rfl rfl (by decide) (Yd.neq rfl (.t rfl) (.t rfl)) ?_
        refine W.end ?_
        refine NX.sub (env' := [(0, _), (1, _), (5, _), (25, _)]) ⟨rfl, rfl, rfl, rfl, trivial⟩ ?_
        refine NX.then ?_
        refine Tr.cond (.t rfl) (fun hb => ?_) (fun hb => ?_)
        · have hr := cond_t hb hr
          refine Tr.seq ?_
          refine Tr.region_f (fun _ => false) ?_
          refine W.q rfl rfl rfl rfl (by decide) (Yd.as rfl .c) ?_
          refine W.end ?_
          refine NX.sub (env' := [(4, _)]) ⟨rfl, trivial⟩ ?_
          refine NX.then ?_
          refine Tr.ret' (RT.block (RT.then (RT.then (RT.block (RT.then ?_)))))
          refine res1 rfl rfl ?_
          intro w hc
          cases hr
          exact ⟨rfl, hc⟩
        · have hr := cond_f hb hr
          refine Tr.skip' ?_
          refine NX.block ?_
          refine NX.then ?_
          refine Tr.region_f (fun _ => false) ?_
          refine W.q rfl rfl rfl rfl (by decide) (Yd.mv rfl (.t rfl)) ?_
          refine W.q rfl rfl rfl rfl (by decide) (Yd.add rfl (.t rfl) .c) ?_
          refine W.q rfl rfl rfl rfl (by decide) (Yd.as rfl (.t rfl)) ?_
          refine W.end ?_
          refine NX.sub (env' := [(0, _), (1, _), (5, _)]) ⟨rfl, rfl, rfl, trivial⟩ ?_
          refine NX.sub (env' := [(0, _), (1, _), (5, _)]) ⟨rfl, rfl, rfl, trivial⟩ ?_
          have hw := w64_id (n := i_6 + 1) (by omega) (by omega)
          exact NX.again n9 (i_6 + 1, ()) (Nat.lt_succ_self _) ⟨(by rw [hw] <;> rfl), rfl, (fr_dec hni_6), (by omega), ((hnx8 _).symm.trans hr)⟩

def syllogistlaw_OrderLines (fuel : Nat) (n_0 : Int) (pairs_1 : List (Int × Int)) : Option (Bool) :=
  (order_Line fuel n_0 pairs_1).bind fun r1 =>
  (syllogistref_OrderCheck fuel n_0 pairs_1).bind fun r5 =>
  (bif (r5 != (0 : Int)) then
  some (((r1.2 == r5) && ((r1.1.length : Int) == (0 : Int))))
  else
  (bif ((r1.2 == (0 : Int)) == true) then
  (syllogistref_Lined fuel n_0 pairs_1 []).bind fun r8 =>
  (syllogistref_Ints r1.1 r8).bind fun r13 =>
  some (((r1.2 == (0 : Int)) && r13))
  else
  some (((r1.2 == (0 : Int)) && false))))

set_option maxRecDepth 100000 in
set_option maxHeartbeats 4000000 in
theorem syllogistlaw_OrderLines_ok (w0 : World) (m : Snap) (l : List HI) (fuel : Nat) (n_0 : Int) (upairs_1 : Value) (pairs_1 : List (Int × Int)) (hpairs_1 : RS rP m upairs_1 pairs_1) (r : Bool) (hr : syllogistlaw_OrderLines fuel n_0 pairs_1 = some r) (w : World) (hc : cX w0 ⟨m, l⟩ w) :
    Calls Try.prog 5 [.int .i64 n_0, upairs_1].toArray w fun e w' => e = .returned (.bool r) ∧ cX w0 ⟨m, l⟩ w' := by
  unfold syllogistlaw_OrderLines at hr
  refine calls_of_Tr (N := 36) Try.func5 rfl hc rfl (Nat.le_of_ble_eq_true rfl) ?_
  refine Tr.seq ?_
  refine Tr.region_f (fun _ => false) ?_
  refine W.q rfl rfl rfl rfl (by decide) (Yd.as rfl .c) ?_
  refine W.end ?_
  refine NX.sub (env' := [(0, _), (1, _)]) ⟨rfl, rfl, trivial⟩ ?_
  refine NX.then ?_
  refine Tr.seq ?_
  obtain ⟨r1, hr2, hr⟩ := bind_some hr
  refine Tr.region_f (fun i => Nat.beq i 2) ?_
  refine W.q rfl rfl rfl rfl (by decide) (Yd.mv rfl (.t rfl)) ?_
  refine W.q rfl rfl rfl rfl (by decide) (Yd.mv rfl (.t rfl)) ?_
  refine W.e rfl rfl rfl rfl (by decide) (Ef.call (R := fun z x' => ∃ v3 : Value, z = .tuple #[v3, .int .i64 r1.2] ∧ x' = ⟨m, hownT 3 1 encI v3 r1.1 :: l⟩) rfl Try.func22 rfl rfl (.cons (.t rfl) (.cons (.t rfl) .nil)) (fun w hw => (order_Line_ok w0 _ _ fuel n_0 _ _ hpairs_1 _ hr2 w hw).mono fun e w' ⟨v3, he, hc'⟩ => ⟨_, _, he, ⟨v3, rfl, rfl⟩, hc'⟩)) ?_
  rintro _ _ ⟨v3, rfl, rfl⟩
  refine ⟨.inl rfl, ?_⟩
  refine W.cast (m' := m) (l' := hownT 3 1 encI v3 _ :: l) rfl rfl ?_
  refine W.q rfl rfl rfl rfl (by decide) (Yd.mv rfl (.t rfl)) ?_
  refine W.q rfl rfl rfl rfl (by decide) (Yd.ext rfl (.t rfl) rfl) ?_
  refine W.q rfl rfl rfl rfl (by decide) (Yd.ext rfl (.t rfl) rfl) ?_
  refine W.q rfl rfl rfl rfl (by decide) (Yd.as rfl (.t rfl)) ?_
  refine W.q rfl rfl rfl rfl (by decide) (Yd.as rfl (.t rfl)) ?_
  refine W.end ?_
  refine NX.sub (env' := [(0, _), (1, _), (5, _), (6, _)]) ⟨rfl, rfl, rfl, rfl, trivial⟩ ?_
  refine NX.then ?_
  refine Tr.seq ?_
  obtain ⟨r5, hr6, hr⟩ := bind_some hr
  refine Tr.region_f (fun _ => false) ?_
  refine W.q rfl rfl rfl rfl (by decide) (Yd.mv rfl (.t rfl)) ?_
  refine W.q rfl rfl rfl rfl (by decide) (Yd.mv rfl (.t rfl)) ?_
  refine W.q rfl rfl rfl rfl (by decide) (Yd.call (v := .int .i64 r5) rfl Try.func16 rfl rfl (.cons (.t rfl) (.cons (.t rfl) .nil)) (fun x' hx w hw => syllogistref_OrderCheck_ok w0 x'.m x'.l fuel n_0 _ _ (hpairs_1.mono hx.1) _ hr6 w hw)) ?_
  refine W.q rfl rfl rfl rfl (by decide) (Yd.as rfl (.t rfl)) ?_
  refine W.end ?_
  refine NX.sub (env' := [(0, _), (1, _), (5, _), (6, _), (7, _)]) ⟨rfl, rfl, rfl, rfl, rfl, trivial⟩ ?_
  refine NX.then ?_
  refine Tr.seq ?_
  refine Tr.seq ?_
  refine Tr.region_f (fun _ => false) ?_
  refine W.q rfl rfl rfl rfl (by decide) (Yd.mv rfl (.t rfl)) ?_
  refine W.q rfl rfl rfl rfl (by decide) (Yd.neq rfl (.t rfl) .c) ?_
  refine W.end ?_
  refine NX.sub (env' := [(0, _), (1, _), (5, _), (6, _), (7, _), (18, _)]) ⟨rfl, rfl, rfl, rfl, rfl, rfl, trivial⟩ ?_
  refine NX.then ?_
  refine Tr.cond (.t rfl) (fun hb => ?_) (fun hb => ?_)
  · have hr := cond_t hb hr
    refine Tr.seq ?_
    refine Tr.region_f (fun _ => false) ?_
    refine W.q rfl rfl rfl rfl (by decide) (Yd.mv rfl (.t rfl)) ?_
    refine W.q rfl rfl rfl rfl (by decide) (Yd.mv rfl (.t rfl)) ?_
    refine W.q rfl rfl rfl rfl (by decide) (Yd.eql rfl (.t rfl) (.t rfl)) ?_
    refine W.q rfl rfl rfl rfl (by decide) (Yd.mv rfl (.t rfl)) ?_
    refine W.g rfl rfl rfl rfl rfl (.t rfl _) rfl (by decide) (fun hG => Yd.mv rfl (.t rfl)) ?_
    refine W.g rfl rfl rfl rfl rfl (.t rfl _) rfl (by decide) (fun hG => Yd.lenO (p := 0) rfl rfl Try.underlying36 (.g rfl hG)) ?_
    refine W.g rfl rfl rfl rfl rfl (.t rfl _) rfl (by decide) (fun hG => Yd.eql rfl (.g rfl hG) .c) ?_
    refine W.q rfl rfl rfl rfl (by decide) (Yd.and rfl (.t rfl) .c rfl rfl) ?_
    refine W.q rfl rfl rfl rfl (by decide) (Yd.as rfl (.t rfl)) ?_
    refine W.end ?_
    refine NX.sub (env' := [(4, _)]) ⟨rfl, trivial⟩ ?_
    refine NX.drop (l' := l) (.cons _ (.refl _)) ?_
    refine NX.then ?_
    refine Tr.ret' (RT.then ?_)
    refine res1 rfl rfl ?_
    intro w hc
    cases hr
    exact ⟨rfl, hc⟩
  · have hr := cond_f hb hr
    refine Tr.skip' ?_
    refine NX.then ?_
    refine Tr.seq ?_
    refine Tr.region_f (fun i => Nat.beq i 6) ?_
    refine W.q rfl rfl rfl rfl (by decide) (Yd.mv rfl (.t rfl)) ?_
    refine W.q rfl rfl rfl rfl (by decide) (Yd.eql rfl (.t rfl) .c) ?_
    refine W.q rfl rfl rfl rfl (by decide) (Yd.mv rfl (.t rfl)) ?_
    refine W.g rfl rfl rfl rfl rfl (.t rfl _) rfl (by decide) (fun hG => Yd.mv rfl (.t rfl)) ?_
    refine W.g rfl rfl rfl rfl rfl (.t rfl _) rfl (by decide) (fun hG => Yd.mv rfl (.t rfl)) ?_
    refine W.g rfl rfl rfl rfl rfl (.t rfl _) rfl (by decide) (fun hG => Yd.mv rfl (.t rfl)) ?_
    refine W.split (b := ((r1.2 == (0 : Int)) == true)) (fun hb7 => ?_) (fun hb7 => ?_)
    · have hr := cond_t hb7 hr
      obtain ⟨r8, hr9, hr⟩ := bind_some hr
      obtain ⟨r13, hr14, hr⟩ := bind_some hr
      refine W.ge rfl rfl rfl rfl rfl (.t rfl _) hb7 rfl (by decide) (Ef.call (R := fun z x' => ∃ u10 : Value, ∃ m11 : Snap, z = u10 ∧ x' = ⟨m11, hownT 3 1 encI v3 r1.1 :: l⟩ ∧ Sle m m11 ∧ RS rI m11 u10 r8) rfl Try.func24 rfl rfl (.cons (.g rfl hb7) (.cons (.g rfl hb7) (.cons .c .nil))) (fun w hw => (syllogistref_Lined_ok w0 _ _ fuel n_0 _ _ hpairs_1 _ _ (RS.nil _ _) _ hr9 w hw).mono fun e w' ⟨u10, m11, he, hm', hu12, hc'⟩ => ⟨_, _, he, ⟨u10, m11, rfl, rfl, hm', hu12⟩, hc'⟩)) ?_
      rintro u10 _ ⟨_, m11, rfl, rfl, hsm11, hu12⟩
      have hpairs_1 := hpairs_1.mono hsm11
      refine ⟨.inl rfl, ?_⟩
      refine W.cast (m' := m11) (l' := hownT 3 1 encI v3 _ :: l) rfl rfl ?_
      refine W.g rfl rfl rfl rfl rfl (.t rfl _) rfl (by decide) (fun hG => Yd.call (v := .bool r13) rfl Try.func23 rfl rfl (.cons (.g rfl hb7) (.cons (.t rfl) .nil)) (by intro x' hx w hw; obtain ⟨p0, hp0⟩ := hx.at (p := 0) rfl; obtain ⟨m2, hm2, hc2, ⟨L2, hl1, hl2⟩, hback⟩ := cX_lend hw hp0 lone_own; have hL1 : RS rI m2 _ _ := RS_of_own hl1 hl2; exact (syllogistref_Ints_ok w0 m2 _ _ _ hL1 _ _ (hu12.mono (hx.1.trans hm2)) _ hr14 w hc2).mono fun e w' ⟨he, hc'⟩ => ⟨he, (hback m2 _ _ w' (.refl _) hp0).2 hc'⟩)) ?_
      refine W.q rfl rfl rfl rfl (by decide) (Yd.and rfl (.t rfl) .c rfl rfl) ?_
      refine W.q rfl rfl rfl rfl (by decide) (Yd.as rfl (.t rfl)) ?_
      refine W.end ?_
      refine NX.sub (env' := [(4, _)]) ⟨rfl, trivial⟩ ?_
      refine NX.drop (l' := l) (.cons _ (.refl _)) ?_
      refine NX.then ?_
      refine Tr.ret' ?_
      refine res1 rfl rfl ?_
      intro w hc
      cases hr
      exact ⟨rfl, (cX_le (x := ⟨m, _⟩) ⟨hsm11, [], rfl⟩ hc)⟩
    · have hr := cond_f hb7 hr
      refine W.gF rfl rfl rfl rfl (.t rfl _) hb7 rfl (by decide) (undef) ?_
      refine W.gF rfl rfl rfl rfl (.t rfl _) hb7 rfl (by decide) (.bool false) ?_
      refine W.q rfl rfl rfl rfl (by decide) (Yd.and rfl (.t rfl) .c rfl rfl) ?_
      refine W.q rfl rfl rfl rfl (by decide) (Yd.as rfl (.t rfl)) ?_
      refine W.end ?_
      refine NX.sub (env' := [(4, _)]) ⟨rfl, trivial⟩ ?_
      refine NX.drop (l' := l) (.cons _ (.refl _)) ?_
      refine NX.then ?_
      refine Tr.ret' ?_
      refine res1 rfl rfl ?_
      intro w hc
      cases hr
      exact ⟨rfl, hc⟩

def math_bits_Mul32 (x_0 : (BitVec 32)) (y_1 : (BitVec 32)) : Option ((BitVec 32) × (BitVec 32)) :=
  some (((BitVec.ofInt 32 (((((BitVec.ofInt 64 (x_0.toNat : Int)) * (BitVec.ofInt 64 (y_1.toNat : Int))) >>> 32)).toNat : Int)), (BitVec.ofInt 32 ((((BitVec.ofInt 64 (x_0.toNat : Int)) * (BitVec.ofInt 64 (y_1.toNat : Int)))).toNat : Int))))

set_option maxRecDepth 100000 in
set_option maxHeartbeats 4000000 in
theorem math_bits_Mul32_ok (w0 : World) (m : Snap) (l : List HI) (x_0 : (BitVec 32)) (y_1 : (BitVec 32)) (r : (BitVec 32) × (BitVec 32)) (hr : math_bits_Mul32 x_0 y_1 = some r) (w : World) (hc : cX w0 ⟨m, l⟩ w) :
    Calls Try.prog 60 [.int .u32 (x_0.toNat : Int), .int .u32 (y_1.toNat : Int)].toArray w fun e w' => e = .returned (.tuple #[.int .u32 (r.1.toNat : Int), .int .u32 (r.2.toNat : Int)]) ∧ cX w0 ⟨m, l⟩ w' := by
  unfold math_bits_Mul32 at hr
  refine calls_of_Tr (N := 17) Try.func60 rfl hc rfl (Nat.le_of_ble_eq_true rfl) ?_
  refine Tr.seq ?_
  refine Tr.region_f (fun _ => false) ?_
  refine W.q rfl rfl rfl rfl (by decide) (Yd.as rfl .c) ?_
  refine W.q rfl rfl rfl rfl (by decide) (Yd.as rfl .c) ?_
  refine W.end ?_
  refine NX.sub (env' := [(0, _), (1, _)]) ⟨rfl, rfl, trivial⟩ ?_
  refine NX.then ?_
  refine Tr.seq ?_
  refine Tr.region_f (fun _ => false) ?_
  refine W.q rfl rfl rfl rfl (by decide) (Yd.mv rfl (.t rfl)) ?_
  refine W.q rfl rfl rfl rfl (by decide) (Yd.cvQ rfl US29 Try.underlying82 (.t rfl)) ?_
  refine W.q rfl rfl rfl rfl (by decide) (Yd.mv rfl (.t rfl)) ?_
  refine W.q rfl rfl rfl rfl (by decide) (Yd.cvQ rfl US29 Try.underlying82 (.t rfl)) ?_
  refine W.q rfl rfl rfl rfl (by decide) (Yd.mulQ (a := (BitVec.ofInt 64 (x_0.toNat : Int))) (b := (BitVec.ofInt 64 (y_1.toNat : Int))) rfl (.t rfl) (.t rfl)) ?_
  refine W.q rfl rfl rfl rfl (by decide) (Yd.as rfl (.t rfl)) ?_
  refine W.end ?_
  refine NX.sub (env' := [(6, _)]) ⟨rfl, trivial⟩ ?_
  refine NX.then ?_
  refine Tr.seq ?_
  refine Tr.region_f (fun _ => false) ?_
  refine W.q rfl rfl rfl rfl (by decide) (Yd.mv rfl (.t rfl)) ?_
  refine W.q rfl rfl rfl rfl (by decide) (Yd.shrQ (a := ((BitVec.ofInt 64 (x_0.toNat : Int)) * (BitVec.ofInt 64 (y_1.toNat : Int)))) rfl (.t rfl) .c (by decide)) ?_
  refine W.q rfl rfl rfl rfl (by decide) (Yd.cvU rfl US82 Try.underlying29 (.t rfl)) ?_
  refine W.q rfl rfl rfl rfl (by decide) (Yd.mv rfl (.t rfl)) ?_
  refine W.q rfl rfl rfl rfl (by decide) (Yd.cvU rfl US82 Try.underlying29 (.t rfl)) ?_
  refine W.q rfl rfl rfl rfl (by decide) (Yd.as rfl (.t rfl)) ?_
  refine W.q rfl rfl rfl rfl (by decide) (Yd.as rfl (.t rfl)) ?_
  refine W.end ?_
  refine NX.sub (env' := [(4, _), (5, _)]) ⟨rfl, rfl, trivial⟩ ?_
  refine NX.then ?_
  refine Tr.ret' ?_
  refine res2 rfl rfl rfl ?_
  intro w hc
  cases hr
  exact ⟨rfl, hc⟩

def math_bits_Mul64 (x_0 : (BitVec 64)) (y_1 : (BitVec 64)) : Option ((BitVec 64) × (BitVec 64)) :=
  some ((((((x_0 >>> 32) * (y_1 >>> 32)) + ((((x_0 >>> 32) * (y_1 &&& 4294967295#64)) + (((x_0 &&& 4294967295#64) * (y_1 &&& 4294967295#64)) >>> 32)) >>> 32)) + ((((((x_0 >>> 32) * (y_1 &&& 4294967295#64)) + (((x_0 &&& 4294967295#64) * (y_1 &&& 4294967295#64)) >>> 32)) &&& 4294967295#64) + ((x_0 &&& 4294967295#64) * (y_1 >>> 32))) >>> 32)), (x_0 * y_1)))

set_option maxRecDepth 100000 in
set_option maxHeartbeats 4000000 in
theorem math_bits_Mul64_ok (w0 : World) (m : Snap) (l : List HI) (x_0 : (BitVec 64)) (y_1 : (BitVec 64)) (r : (BitVec 64) × (BitVec 64)) (hr : math_bits_Mul64 x_0 y_1 = some r) (w : World) (hc : cX w0 ⟨m, l⟩ w) :
    Calls Try.prog 61 [.int .u64 (x_0.toNat : Int), .int .u64 (y_1.toNat : Int)].toArray w fun e w' => e = .returned (.tuple #[.int .u64 (r.1.toNat : Int), .int .u64 (r.2.toNat : Int)]) ∧ cX w0 ⟨m, l⟩ w' := by
  unfold math_bits_Mul64 at hr
  refine calls_of_Tr (N := 51) Try.func61 rfl hc rfl (Nat.le_of_ble_eq_true rfl) ?_
  refine Tr.seq ?_
  refine Tr.region_f (fun _ => false) ?_
  refine W.q rfl rfl rfl rfl (by decide) (Yd.as rfl .c) ?_
  refine W.q rfl rfl rfl rfl (by decide) (Yd.as rfl .c) ?_
  refine W.end ?_
  refine NX.sub (env' := [(0, _), (1, _)]) ⟨rfl, rfl, trivial⟩ ?_
  refine NX.then ?_
  refine Tr.seq ?_
  refine Tr.region_f (fun _ => false) ?_
  refine W.q rfl rfl rfl rfl (by decide) (Yd.mv rfl (.t rfl)) ?_
  refine W.q rfl rfl rfl rfl (by decide) (Yd.andQ (a := x_0) (b := 4294967295#64) rfl (.t rfl) .c) ?_
  refine W.q rfl rfl rfl rfl (by decide) (Yd.as rfl (.t rfl)) ?_
  refine W.end ?_
  refine NX.sub (env' := [(0, _), (1, _), (6, _)]) ⟨rfl, rfl, rfl, trivial⟩ ?_
  refine NX.then ?_
  refine Tr.seq ?_
  refine Tr.region_f (fun _ => false) ?_
  refine W.q rfl rfl rfl rfl (by decide) (Yd.mv rfl (.t rfl)) ?_
  refine W.q rfl rfl rfl rfl (by decide) (Yd.shrQ (a := x_0) rfl (.t rfl) .c (by decide)) ?_
  refine W.q rfl rfl rfl rfl (by decide) (Yd.as rfl (.t rfl)) ?_
  refine W.end ?_
  refine NX.sub (env' := [(0, _), (1, _), (6, _), (7, _)]) ⟨rfl, rfl, rfl, rfl, trivial⟩ ?_
  refine NX.then ?_
  refine Tr.seq ?_
  refine Tr.region_f (fun _ => false) ?_
  refine W.q rfl rfl rfl rfl (by decide) (Yd.mv rfl (.t rfl)) ?_
  refine W.q rfl rfl rfl rfl (by decide) (Yd.andQ (a := y_1) (b := 4294967295#64) rfl (.t rfl) .c) ?_
  refine W.q rfl rfl rfl rfl (by decide) (Yd.as rfl (.t rfl)) ?_
  refine W.end ?_
  refine NX.sub (env' := [(0, _), (1, _), (6, _), (7, _), (8, _)]) ⟨rfl, rfl, rfl, rfl, rfl, trivial⟩ ?_
  refine NX.then ?_
  refine Tr.seq ?_
  refine Tr.region_f (fun _ => false) ?_
  refine W.q rfl rfl rfl rfl (by decide) (Yd.mv rfl (.t rfl)) ?_
  refine W.q rfl rfl rfl rfl (by decide) (Yd.shrQ (a := y_1) rfl (.t rfl) .c (by decide)) ?_
  refine W.q rfl rfl rfl rfl (by decide) (Yd.as rfl (.t rfl)) ?_
  refine W.end ?_
  refine NX.sub (env' := [(0, _), (1, _), (6, _), (7, _), (8, _), (9, _)]) ⟨rfl, rfl, rfl, rfl, rfl, rfl, trivial⟩ ?_
  refine NX.then ?_
  refine Tr.seq ?_
  refine Tr.region_f (fun _ => false) ?_
  refine W.q rfl rfl rfl rfl (by decide) (Yd.mv rfl (.t rfl)) ?_
  refine W.q rfl rfl rfl rfl (by decide) (Yd.mv rfl (.t rfl)) ?_
  refine W.q rfl rfl rfl rfl (by decide) (Yd.mulQ (a := (x_0 &&& 4294967295#64)) (b := (y_1 &&& 4294967295#64)) rfl (.t rfl) (.t rfl)) ?_
  refine W.q rfl rfl rfl rfl (by decide) (Yd.as rfl (.t rfl)) ?_
  refine W.end ?_
  refine NX.sub (env' := [(0, _), (1, _), (6, _), (7, _), (8, _), (9, _), (10, _)]) ⟨rfl, rfl, rfl, rfl, rfl, rfl, rfl, trivial⟩ ?_
  refine NX.then ?_
  refine Tr.seq ?_
  refine Tr.region_f (fun _ => false) ?_
  refine W.q rfl rfl rfl rfl (by decide) (Yd.mv rfl (.t rfl)) ?_
  refine W.q rfl rfl rfl rfl (by decide) (Yd.mv rfl (.t rfl)) ?_
  refine W.q rfl rfl rfl rfl (by decide) (Yd.mulQ (a := (x_0 >>> 32)) (b := (y_1 &&& 4294967295#64)) rfl (.t rfl) (.t rfl)) ?_
  refine W.q rfl rfl rfl rfl (by decide) (Yd.mv rfl (.t rfl)) ?_
  refine W.q rfl rfl rfl rfl (by decide) (Yd.shrQ (a := ((x_0 &&& 4294967295#64) * (y_1 &&& 4294967295#64))) rfl (.t rfl) .c (by decide)) ?_
  refine W.q rfl rfl rfl rfl (by decide) (Yd.addQ (a := ((x_0 >>> 32) * (y_1 &&& 4294967295#64))) (b := (((x_0 &&& 4294967295#64) * (y_1 &&& 4294967295#64)) >>> 32)) rfl (.t rfl) (.t rfl)) ?_
  refine W.q rfl rfl rfl rfl (by decide) (Yd.as rfl (.t rfl)) ?_
  refine W.end ?_
  refine NX.sub (env' := [(0, _), (1, _), (6, _), (7, _), (9, _), (11, _)]) ⟨rfl, rfl, rfl, rfl, rfl, rfl, trivial⟩ ?_
  refine NX.then ?_
  refine Tr.seq ?_
  refine Tr.region_f (fun _ => false) ?_
  refine W.q rfl rfl rfl rfl (by decide) (Yd.mv rfl (.t rfl)) ?_
  refine W.q rfl rfl rfl rfl (by decide) (Yd.andQ (a := (((x_0 >>> 32) * (y_1 &&& 4294967295#64)) + (((x_0 &&& 4294967295#64) * (y_1 &&& 4294967295#64)) >>> 32))) (b := 4294967295#64) rfl (.t rfl) .c) ?_
  refine W.q rfl rfl rfl rfl (by decide) (Yd.as rfl (.t rfl)) ?_
  refine W.end ?_
  refine NX.sub (env' := [(0, _), (1, _), (6, _), (7, _), (9, _), (11, _), (12, _)]) ⟨rfl, rfl, rfl, rfl, rfl, rfl, rfl, trivial⟩ ?_
  refine NX.then ?_
  refine Tr.seq ?_
  refine Tr.region_f (fun _ => false) ?_
  refine W.q rfl rfl rfl rfl (by decide) (Yd.mv rfl (.t rfl)) ?_
  refine W.q rfl rfl rfl rfl (by decide) (Yd.shrQ (a := (((x_0 >>> 32) * (y_1 &&& 4294967295#64)) + (((x_0 &&& 4294967295#64) * (y_1 &&& 4294967295#64)) >>> 32))) rfl (.t rfl) .c (by decide)) ?_
  refine W.q rfl rfl rfl rfl (by decide) (Yd.as rfl (.t rfl)) ?_
  refine W.end ?_
  refine NX.sub (env' := [(0, _), (1, _), (6, _), (7, _), (9, _), (12, _), (13, _)]) ⟨rfl, rfl, rfl, rfl, rfl, rfl, rfl, trivial⟩ ?_
  refine NX.then ?_
  refine Tr.seq ?_
  refine Tr.region_f (fun _ => false) ?_
  refine W.q rfl rfl rfl rfl (by decide) (Yd.mv rfl (.t rfl)) ?_
  refine W.q rfl rfl rfl rfl (by decide) (Yd.mv rfl (.t rfl)) ?_
  refine W.q rfl rfl rfl rfl (by decide) (Yd.mv rfl (.t rfl)) ?_
  refine W.q rfl rfl rfl rfl (by decide) (Yd.mulQ (a := (x_0 &&& 4294967295#64)) (b := (y_1 >>> 32)) rfl (.t rfl) (.t rfl)) ?_
  refine W.q rfl rfl rfl rfl (by decide) (Yd.addQ (a := ((((x_0 >>> 32) * (y_1 &&& 4294967295#64)) + (((x_0 &&& 4294967295#64) * (y_1 &&& 4294967295#64)) >>> 32)) &&& 4294967295#64)) (b := ((x_0 &&& 4294967295#64) * (y_1 >>> 32))) rfl (.t rfl) (.t rfl)) ?_
  refine W.q rfl rfl rfl rfl (by decide) (Yd.as rfl (.t rfl)) ?_
  refine W.end ?_
  refine NX.sub (env' := [(0, _), (1, _), (7, _), (9, _), (12, _), (13, _)]) ⟨rfl, rfl, rfl, rfl, rfl, rfl, trivial⟩ ?_
  refine NX.then ?_
  refine Tr.seq ?_
  refine Tr.region_f (fun _ => false) ?_
  refine W.q rfl rfl rfl rfl (by decide) (Yd.mv rfl (.t rfl)) ?_
  refine W.q rfl rfl rfl rfl (by decide) (Yd.mv rfl (.t rfl)) ?_
  refine W.q rfl rfl rfl rfl (by decide) (Yd.mulQ (a := (x_0 >>> 32)) (b := (y_1 >>> 32)) rfl (.t rfl) (.t rfl)) ?_
  refine W.q rfl rfl rfl rfl (by decide) (Yd.mv rfl (.t rfl)) ?_
  refine W.q rfl rfl rfl rfl (by decide) (Yd.addQ (a := ((x_0 >>> 32) * (y_1 >>> 32))) (b := ((((x_0 >>> 32) * (y_1 &&& 4294967295#64)) + (((x_0 &&& 4294967295#64) * (y_1 &&& 4294967295#64)) >>> 32)) >>> 32)) rfl (.t rfl) (.t rfl)) ?_
  refine W.q rfl rfl rfl rfl (by decide) (Yd.mv rfl (.t rfl)) ?_
  refine W.q rfl rfl rfl rfl (by decide) (Yd.shrQ (a := (((((x_0 >>> 32) * (y_1 &&& 4294967295#64)) + (((x_0 &&& 4294967295#64) * (y_1 &&& 4294967295#64)) >>> 32)) &&& 4294967295#64) + ((x_0 &&& 4294967295#64) * (y_1 >>> 32)))) rfl (.t rfl) .c (by decide)) ?_
  refine W.q rfl rfl rfl rfl (by decide) (Yd.addQ (a := (((x_0 >>> 32) * (y_1 >>> 32)) + ((((x_0 >>> 32) * (y_1 &&& 4294967295#64)) + (((x_0 &&& 4294967295#64) * (y_1 &&& 4294967295#64)) >>> 32)) >>> 32))) (b := ((((((x_0 >>> 32) * (y_1 &&& 4294967295#64)) + (((x_0 &&& 4294967295#64) * (y_1 &&& 4294967295#64)) >>> 32)) &&& 4294967295#64) + ((x_0 &&& 4294967295#64) * (y_1 >>> 32))) >>> 32)) rfl (.t rfl) (.t rfl)) ?_
  refine W.q rfl rfl rfl rfl (by decide) (Yd.as rfl (.t rfl)) ?_
  refine W.end ?_
  refine NX.sub (env' := [(0, _), (1, _), (4, _)]) ⟨rfl, rfl, rfl, trivial⟩ ?_
  refine NX.then ?_
  refine Tr.seq ?_
  refine Tr.region_f (fun _ => false) ?_
  refine W.q rfl rfl rfl rfl (by decide) (Yd.mv rfl (.t rfl)) ?_
  refine W.q rfl rfl rfl rfl (by decide) (Yd.mv rfl (.t rfl)) ?_
  refine W.q rfl rfl rfl rfl (by decide) (Yd.mulQ (a := x_0) (b := y_1) rfl (.t rfl) (.t rfl)) ?_
  refine W.q rfl rfl rfl rfl (by decide) (Yd.as rfl (.t rfl)) ?_
  refine W.end ?_
  refine NX.sub (env' := [(4, _), (5, _)]) ⟨rfl, rfl, trivial⟩ ?_
  refine NX.then ?_
  refine Tr.ret' ?_
  refine res2 rfl rfl rfl ?_
  intro w hc
  cases hr
  exact ⟨rfl, hc⟩

def math_bits_Mul (x_0 : (BitVec 64)) (y_1 : (BitVec 64)) : Option ((BitVec 64) × (BitVec 64)) :=
  (math_bits_Mul64 x_0 y_1).bind fun r1 =>
  some ((r1.1, r1.2))

set_option maxRecDepth 100000 in
set_option maxHeartbeats 4000000 in
theorem math_bits_Mul_ok (w0 : World) (m : Snap) (l : List HI) (x_0 : (BitVec 64)) (y_1 : (BitVec 64)) (r : (BitVec 64) × (BitVec 64)) (hr : math_bits_Mul x_0 y_1 = some r) (w : World) (hc : cX w0 ⟨m, l⟩ w) :
    Calls Try.prog 58 [.int .u64 (x_0.toNat : Int), .int .u64 (y_1.toNat : Int)].toArray w fun e w' => e = .returned (.tuple #[.int .u64 (r.1.toNat : Int), .int .u64 (r.2.toNat : Int)]) ∧ cX w0 ⟨m, l⟩ w' := by
  unfold math_bits_Mul at hr
  refine calls_of_Tr (N := 30) Try.func58 rfl hc rfl (Nat.le_of_ble_eq_true rfl) ?_
  refine Tr.seq ?_
  refine Tr.region_f (fun _ => false) ?_
  refine W.q rfl rfl rfl rfl (by decide) (Yd.as rfl .c) ?_
  refine W.q rfl rfl rfl rfl (by decide) (Yd.as rfl .c) ?_
  refine W.end ?_
  refine NX.sub (env' := [(0, _), (1, _)]) ⟨rfl, rfl, trivial⟩ ?_
  refine NX.then ?_
  refine Tr.seq ?_
  refine Tr.cond .c (fun hb => ?_) (fun hb => ?_)
  · exact absurd hb (by decide)
  ·
    refine Tr.skip' ?_
    refine NX.then ?_
    refine Tr.seq ?_
    obtain ⟨r1, hr2, hr⟩ := bind_some hr
    refine Tr.region_f (fun _ => false) ?_
    refine W.q rfl rfl rfl rfl (by decide) (Yd.mv rfl (.t rfl)) ?_
    refine W.q rfl rfl rfl rfl (by decide) (Yd.mv rfl (.t rfl)) ?_
    refine W.q rfl rfl rfl rfl (by decide) (Yd.call (v := .tuple #[.int .u64 (r1.1.toNat : Int), .int .u64 (r1.2.toNat : Int)]) rfl Try.func61 rfl rfl (.cons (.t rfl) (.cons (.t rfl) .nil)) (fun x' hx w hw => math_bits_Mul64_ok w0 x'.m x'.l x_0 y_1 _ hr2 w hw)) ?_
    refine W.q rfl rfl rfl rfl (by decide) (Yd.mv rfl (.t rfl)) ?_
    refine W.q rfl rfl rfl rfl (by decide) (Yd.ext rfl (.t rfl) rfl) ?_
    refine W.q rfl rfl rfl rfl (by decide) (Yd.ext rfl (.t rfl) rfl) ?_
    refine W.q rfl rfl rfl rfl (by decide) (Yd.as rfl (.t rfl)) ?_
    refine W.q rfl rfl rfl rfl (by decide) (Yd.as rfl (.t rfl)) ?_
    refine W.end ?_
    refine NX.sub (env' := [(8, _), (9, _)]) ⟨rfl, rfl, trivial⟩ ?_
    refine NX.then ?_
    refine Tr.seq ?_
    refine Tr.region_f (fun _ => false) ?_
    refine W.q rfl rfl rfl rfl (by decide) (Yd.mv rfl (.t rfl)) ?_
    refine W.q rfl rfl rfl rfl (by decide) (Yd.mv rfl (.t rfl)) ?_
    refine W.q rfl rfl rfl rfl (by decide) (Yd.as rfl (.t rfl)) ?_
    refine W.q rfl rfl rfl rfl (by decide) (Yd.as rfl (.t rfl)) ?_
    refine W.end ?_
    refine NX.sub (env' := [(4, _), (5, _)]) ⟨rfl, rfl, trivial⟩ ?_
    refine NX.then ?_
    refine Tr.ret' ?_
    refine res2 rfl rfl rfl ?_
    intro w hc
    cases hr
    exact ⟨rfl, hc⟩

def slices_Repeat_Sintint_k14 (l12 : List Int) : Option ((List Int)) :=
  some l12

def slices_Repeat_Sintint_b16 (n_9 : Int) (l10 : List Int) (nx17 : (Int × (List Int)) → Option ((List Int))) : Option ((List Int)) :=
  (bif (decide (n_9 < (l10.length : Int))) then
  bif decide (0 ≤ n_9 ∧ n_9 ≤ (l10.length : Int)) then
  nx17 ((w64 (n_9 + ((Nat.min ((l10.take (n_9.toNat))).length (l10.length - n_9.toNat) : Nat) : Int))), (cpl n_9.toNat l10 ((l10.take (n_9.toNat))))) else none
  else
  slices_Repeat_Sintint_k14 l10)

def slices_Repeat_Sintint (fuel : Nat) (x_0 : List Int) (count_1 : Int) : Option ((List Int)) :=
  (bif (decide (count_1 < (0 : Int))) then
  none
  else
  (math_bits_Mul ((BitVec.ofInt 64 ((x_0.length : Int)))) ((BitVec.ofInt 64 count_1))).bind fun r1 =>
  (bif ((decide (r1.1 > 0#64)) || (decide (r1.2 > 9223372036854775807#64))) then
  none
  else
  bif decide (0 ≤ (w64 (r1.2.toNat : Int)) ∧ (w64 (r1.2.toNat : Int)) ≤ 1048576) then
  whileK (σ := Int × (List Int)) (fun s nx_ => slices_Repeat_Sintint_b16 s.1 s.2 nx_) fuel ((((Nat.min x_0.length (((List.replicate ((w64 (r1.2.toNat : Int))).toNat (0 : Int))).length - 0) : Nat) : Int)), ((cpl 0 ((List.replicate ((w64 (r1.2.toNat : Int))).toNat (0 : Int))) x_0))) else none))

set_option maxRecDepth 100000 in
set_option maxHeartbeats 4000000 in
theorem slices_Repeat_Sintint_ok (w0 : World) (m : Snap) (l : List HI) (fuel : Nat) (ux_0 : Value) (x_0 : List Int) (hx_0 : RS rI m ux_0 x_0) (count_1 : Int) (r : (List Int)) (hr : slices_Repeat_Sintint fuel x_0 count_1 = some r) (w : World) (hc : cX w0 ⟨m, l⟩ w) :
    Calls Try.prog 48 [ux_0, .int .i64 count_1].toArray w fun e w' => ∃ z0 : Value, e = .returned (z0) ∧ cX w0 ⟨m, hownT 3 1 encI z0 r :: l⟩ w' := by
  unfold slices_Repeat_Sintint at hr
  refine calls_of_Tr (N := 48) Try.func48 rfl hc rfl (Nat.le_of_ble_eq_true rfl) ?_
  refine Tr.seq ?_
  refine Tr.region_f (fun _ => false) ?_
  refine W.q rfl rfl rfl rfl (by decide) (Yd.as rfl .c) ?_
  refine W.end ?_
  refine NX.sub (env' := [(0, _), (1, _)]) ⟨rfl, rfl, trivial⟩ ?_
  refine NX.then ?_
  refine Tr.seq ?_
  refine Tr.seq ?_
  refine Tr.region_f (fun _ => false) ?_
  refine W.q rfl rfl rfl rfl (by decide) (Yd.mv rfl (.t rfl)) ?_
  refine W.q rfl rfl rfl rfl (by decide) (Yd.lss rfl (.t rfl) .c) ?_
  refine W.end ?_
  refine NX.sub (env' := [(0, _), (1, _), (10, _)]) ⟨rfl, rfl, rfl, trivial⟩ ?_
  refine NX.then ?_
  refine Tr.cond (.t rfl) (fun hb => ?_) (fun hb => ?_)
  · have hr := cond_t hb hr
    cases hr
  · have hr := cond_f hb hr
    refine Tr.skip' ?_
    refine NX.then ?_
    refine Tr.seq ?_
    obtain ⟨r1, hr2, hr⟩ := bind_some hr
    refine Tr.region_f (fun _ => false) ?_
    refine W.q rfl rfl rfl rfl (by decide) (Yd.mv rfl (.t rfl)) ?_
    refine W.q rfl rfl rfl rfl (by decide) (Yd.lenR hx_0 rfl Try.underlying36 (.t rfl)) ?_
    refine W.q rfl rfl rfl rfl (by decide) (Yd.cvQ rfl US3 Try.underlying55 (.t rfl)) ?_
    refine W.q rfl rfl rfl rfl (by decide) (Yd.mv rfl (.t rfl)) ?_
    refine W.q rfl rfl rfl rfl (by decide) (Yd.cvQ rfl US3 Try.underlying55 (.t rfl)) ?_
    refine W.q rfl rfl rfl rfl (by decide) (Yd.call (v := .tuple #[.int .u64 (r1.1.toNat : Int), .int .u64 (r1.2.toNat : Int)]) rfl Try.func58 rfl rfl (.cons (.t rfl) (.cons (.t rfl) .nil)) (fun x' hx w hw => math_bits_Mul_ok w0 x'.m x'.l ((BitVec.ofInt 64 ((x_0.length : Int)))) ((BitVec.ofInt 64 count_1)) _ hr2 w hw)) ?_
    refine W.q rfl rfl rfl rfl (by decide) (Yd.mv rfl (.t rfl)) ?_
    refine W.q rfl rfl rfl rfl (by decide) (Yd.ext rfl (.t rfl) rfl) ?_
    refine W.q rfl rfl rfl rfl (by decide) (Yd.ext rfl (.t rfl) rfl) ?_
    refine W.q rfl rfl rfl rfl (by decide) (Yd.as rfl (.t rfl)) ?_
    refine W.q rfl rfl rfl rfl (by decide) (Yd.as rfl (.t rfl)) ?_
    refine W.end ?_
    refine NX.sub (env' := [(0, _), (5, _), (6, _)]) ⟨rfl, rfl, rfl, trivial⟩ ?_
    refine NX.then ?_
    refine Tr.seq ?_
    refine Tr.seq ?_
    refine Tr.region_f (fun _ => false) ?_
    refine W.q rfl rfl rfl rfl (by decide) (Yd.mv rfl (.t rfl)) ?_
    refine W.q rfl rfl rfl rfl (by decide) (Yd.gtrU (a := r1.1) (b := 0#64) rfl (.t rfl) .c) ?_
    refine W.q rfl rfl rfl rfl (by decide) (Yd.mv rfl (.t rfl)) ?_
    refine W.g rfl rfl rfl rfl rfl (.t rfl _) rfl (by decide) (fun hG => Yd.mv rfl (.t rfl)) ?_
    refine W.g rfl rfl rfl rfl rfl (.t rfl _) rfl (by decide) (fun hG => Yd.gtrU (a := r1.2) (b := 9223372036854775807#64) rfl (.g rfl hG) .c) ?_
    refine W.q rfl rfl rfl rfl (by decide) (Yd.or rfl (.t rfl) .c rfl rfl) ?_
    refine W.end ?_
    refine NX.sub (env' := [(0, _), (6, _), (26, _)]) ⟨rfl, rfl, rfl, trivial⟩ ?_
    refine NX.then ?_
    refine Tr.cond (.t rfl) (fun hb => ?_) (fun hb => ?_)
    · have hr := cond_t hb hr
      cases hr
    · have hr := cond_f hb hr
      refine Tr.skip' ?_
      refine NX.then ?_
      refine Tr.seq ?_
      obtain ⟨hq3, hr⟩ := guard_some hr; replace hq3 := of_decide_eq_true hq3
      refine Tr.region_f (fun i => Nat.beq i 2) ?_
      refine W.q rfl rfl rfl rfl (by decide) (Yd.mv rfl (.t rfl)) ?_
      refine W.q rfl rfl rfl rfl (by decide) (Yd.cvI rfl US55 Try.underlying3 (.t rfl)) ?_
      refine W.e rfl rfl rfl rfl (by decide) (Ef.mkT (enc := encI) (0 : Int) IF3 rfl Try.underlying36 rfl rfl (by decide) (.t rfl) (.t rfl) (by omega) (by omega) (by omega)) ?_
      rintro v4 _ rfl
      refine ⟨.inl rfl, ?_⟩
      refine W.cast (m' := m) (l' := hownT 3 1 encI v4 _ :: l) rfl rfl ?_
      refine W.q rfl rfl rfl rfl (by decide) (Yd.as rfl (.t rfl)) ?_
      refine W.end ?_
      refine NX.sub (env' := [(0, _), (7, _)]) ⟨rfl, rfl, trivial⟩ ?_
      refine NX.then ?_
      refine Tr.seq ?_
      refine Tr.region_f (fun i => Nat.beq i 2) ?_
      refine W.q rfl rfl rfl rfl (by decide) (Yd.mv rfl (.t rfl)) ?_
      refine W.q rfl rfl rfl rfl (by decide) (Yd.mv rfl (.t rfl)) ?_
      refine W.e rfl rfl rfl rfl (by decide) (Ef.cpT (enc := encI) (n := 1) (fun _ => rfl) (pos := 0) (xs := (List.replicate ((w64 (r1.2.toNat : Int))).toNat (0 : Int))) (ys := x_0) (by decide) rfl rfl Try.underlying36 SZ3 (.t rfl) (.t rfl) (Src.rs (by decide) (.refl _) hx_0) (fun _ => rfl)) ?_
      rintro _ _ ⟨rfl, rfl⟩
      refine ⟨.inl rfl, ?_⟩
      refine W.cast (m' := m) (l' := hownT 3 1 encI v4 _ :: l) rfl rfl ?_
      refine W.q rfl rfl rfl rfl (by decide) (Yd.as rfl (.t rfl)) ?_
      refine W.end ?_
      refine NX.sub (env' := [(7, _), (8, _)]) ⟨rfl, rfl, trivial⟩ ?_
      refine NX.then ?_
      refine Tr.seq ?_
      refine Tr.join (S := fun env x => ∃ l12 : List Int, ∃ v13 : Value, env = [(7, v13)] ∧ x = ⟨m, hownT 3 1 encI v13 l12 :: l⟩ ∧ slices_Repeat_Sintint_k14 l12 = some r) ?_ (fun hk15 => ?_)
      · rintro _ _ ⟨l12, v13, rfl, rfl, hr⟩
        unfold slices_Repeat_Sintint_k14 at hr
        try dsimp only at hr
        refine NX.then ?_
        refine Tr.seq ?_
        refine Tr.region_f (fun _ => false) ?_
        refine W.q rfl rfl rfl rfl (by decide) (Yd.mv rfl (.t rfl)) ?_
        refine W.q rfl rfl rfl rfl (by decide) (Yd.as rfl (.t rfl)) ?_
        refine W.end ?_
        refine NX.sub (env' := [(4, _)]) ⟨rfl, trivial⟩ ?_
        refine NX.then ?_
        refine Tr.ret' ?_
        refine res1 rfl rfl ?_
        intro w hc
        cases hr
        exact ⟨_, rfl, hc⟩
      refine Tr.block ?_
      refine Tr.sub (env' := [(7, _), (8, _)]) ⟨rfl, rfl, trivial⟩ ?_
      refine Tr.loop (S := fun n (z : Int × (List Int)) env x => match z with | (n_9, l10) => ∃ v11 : Value, env = [(7, v11), (8, .int .i64 n_9)] ∧ x = ⟨m, hownT 3 1 encI v11 l10 :: l⟩ ∧ whileK (σ := Int × (List Int)) (fun s nx_ => slices_Repeat_Sintint_b16 s.1 s.2 nx_) n (n_9, l10) = some r) _ (((Nat.min x_0.length (((List.replicate ((w64 (r1.2.toNat : Int))).toNat (0 : Int))).length - 0) : Nat) : Int), (cpl 0 ((List.replicate ((w64 (r1.2.toNat : Int))).toNat (0 : Int))) x_0)) ⟨_, rfl, rfl, hr⟩ ?_
      rintro n18 ⟨n_9, l10⟩ env x ⟨v11, rfl, rfl, hr⟩
      cases n18 with
      | zero => simp [whileK] at hr
      | succ n18 =>
        obtain ⟨nx17, hnx17, hr⟩ := whileK_succ hr
        try dsimp only at hr
        unfold slices_Repeat_Sintint_b16 at hr
        try dsimp only at hr
        refine Tr.seq ?_
        refine Tr.seq ?_
        refine Tr.region_f (fun _ => false) ?_
        refine W.q rfl rfl rfl rfl (by decide) (Yd.mv rfl (.t rfl)) ?_
        refine W.q rfl rfl rfl rfl (by decide) (Yd.mv rfl (.t rfl)) ?_
        refine W.q rfl rfl rfl rfl (by decide) (Yd.lenO (p := 0) rfl rfl Try.underlying36 (.t rfl)) ?_
        refine W.q rfl rfl rfl rfl (by decide) (Yd.lss rfl (.t rfl) (.t rfl)) ?_
        refine W.end ?_
        refine NX.sub (env' := [(7, _), (8, _), (37, _)]) ⟨rfl, rfl, rfl, trivial⟩ ?_
        refine NX.then ?_
        refine Tr.cond (.t rfl) (fun hb => ?_) (fun hb => ?_)
        · have hr := cond_t hb hr
          refine Tr.skip' ?_
          refine NX.then ?_
          refine Tr.block ?_
          obtain ⟨hq19, hr⟩ := guard_some hr; replace hq19 := of_decide_eq_true hq19
          refine Tr.region_x (fun i => Nat.beq i 7) (fun i => Nat.beq i 0 || Nat.beq i 7) (Ord.of [0, 1, 2, 3, 4, 5, 6, 7, 8, 9]) FM (by kernel_rfl) ?_
          refine W.p rfl rfl rfl rfl (by decide) (fun _ => Yd.mv rfl (.t rfl)) ?_
          refine W.q rfl rfl rfl rfl (by decide) (Yd.mv rfl (.t rfl)) ?_
          refine W.q rfl rfl rfl rfl (by decide) (Yd.mv rfl (.t rfl)) ?_
          refine W.q rfl rfl rfl rfl (by decide) (Yd.slFrom (pos := 0) rfl rfl Try.underlying36 SZ3 (.t rfl) (.t rfl) hq19.1 hq19.2) ?_
          refine W.q rfl rfl rfl rfl (by decide) (Yd.mv rfl (.t rfl)) ?_
          refine W.q rfl rfl rfl rfl (by decide) (Yd.mv rfl (.t rfl)) ?_
          refine W.q rfl rfl rfl rfl (by decide) (Yd.slTo (pos := 0) rfl rfl Try.underlying36 (Option.some_get IN3).symm (.t rfl) (.t rfl) hq19.1 hq19.2) ?_
          refine W.e rfl rfl rfl rfl (by decide) (Ef.cpF (enc := encI) (n := 1) (fun _ => rfl) (pos := 0) (lo := n_9.toNat) (xs := l10) (ys := (l10.take (n_9.toNat))) (by decide) rfl (by omega) rfl Try.underlying36 SZ3 (.t rfl) (.t rfl) (Src.toT (enc := encI) (n := 1) (fun _ => rfl) (pos := 0) (h := n_9.toNat) (xs := l10) rfl (by omega)) (fun _ => rfl)) ?_
          rintro _ _ ⟨rfl, rfl⟩
          refine ⟨.inl rfl, ?_⟩
          refine W.cast (m' := m) (l' := hownT 3 1 encI v11 _ :: l) rfl rfl ?_
          refine W.q rfl rfl rfl rfl (by decide) (Yd.add rfl (.t rfl) (.t rfl)) ?_
          refine W.q rfl rfl rfl rfl (by decide) (Yd.as rfl (.t rfl)) ?_
          refine W.end ?_
          refine NX.sub (env' := [(7, _), (8, _)]) ⟨rfl, rfl, trivial⟩ ?_
          refine NX.block ?_
          refine NX.sub (env' := [(7, _), (8, _)]) ⟨rfl, rfl, trivial⟩ ?_
          exact NX.again n18 ((w64 (n_9 + ((Nat.min ((l10.take (n_9.toNat))).length (l10.length - n_9.toNat) : Nat) : Int))), (cpl n_9.toNat l10 ((l10.take (n_9.toNat))))) (Nat.lt_succ_self _) ⟨_, rfl, rfl, ((hnx17 _).symm.trans hr)⟩
        · have hr := cond_f hb hr
          refine Tr.exit' (EX.then (EX.then (EX.block ?_)))
          refine NX.sub (env' := [(7, _)]) ⟨rfl, trivial⟩ ?_
          exact hk15 _ _ ⟨_, _, rfl, rfl, hr⟩

def order_match_find_k18 (c13 : BitVec 32) (l14 : List (BitVec 32)) (l16 : List Int) : Option (Bool × T64) :=
  some ((false, ({ up := l14, last := l16, seen := c13 } : T64)))

def order_match_find_b22 (i_1 : Int) (slf : (T64 → Int → Option (Bool × T64))) (t_21 : Int) (c8 : BitVec 32) (l9 : List (BitVec 32)) (l11 : List Int) (nx23 : ((BitVec 32) × (List (BitVec 32)) × (List Int)) → Option (Bool × T64)) : Option (Bool × T64) :=
  bif (!((t_21 == i_1) == false) || (geti l9 i_1).isSome) then
  (bif (((t_21 == i_1) || (((((geti l9 i_1).getD (0#32)) >>> t_21.toNat) &&& 1#32) == 0#32)) || (((c8 >>> t_21.toNat) &&& 1#32) == 1#32)) then
  nx23 (c8, l9, l11)
  else
  (geti l11 t_21).bind fun y26 =>
  (bif ((decide (y26 < (0 : Int))) == false) then
  (slf (({ up := l9, last := l11, seen := (c8 ||| (1#32 <<< t_21.toNat)) } : T64)) y26).bind fun r29 =>
  (bif ((decide (y26 < (0 : Int))) || r29.1) then
  (geti r29.2.last t_21).bind fun y33 =>
  some ((true, ({ up := r29.2.up, last := (r29.2.last.set t_21.toNat i_1), seen := r29.2.seen } : T64)))
  else
  nx23 (r29.2.seen, r29.2.up, r29.2.last))
  else
  (bif ((decide (y26 < (0 : Int))) || false) then
  (geti l11 t_21).bind fun y35 =>
  some ((true, ({ up := l9, last := (l11.set t_21.toNat i_1), seen := (c8 ||| (1#32 <<< t_21.toNat)) } : T64)))
  else
  nx23 ((c8 ||| (1#32 <<< t_21.toNat)), l9, l11)))) else none

def order_match_find_s (slf : (T64 → Int → Option (Bool × T64))) (m_0 : T64) (i_1 : Int) : Option (Bool × T64) :=
  forK (σ := (BitVec 32) × (List (BitVec 32)) × (List Int)) (fun i s nx_ => order_match_find_b22 i_1 slf i s.1 s.2.1 s.2.2 nx_) (fun s => order_match_find_k18 s.1 s.2.1 s.2.2) ((m_0.up.length : Int) - (0 : Int)).toNat (0 : Int) (m_0.seen, m_0.up, m_0.last)

def order_match_find (fuel : Nat) (m_0 : T64) (i_1 : Int) : Option (Bool × T64) :=
  match fuel with
  | 0 => none
  | fuel + 1 => order_match_find_s (order_match_find fuel) m_0 i_1

set_option maxRecDepth 100000 in
set_option maxHeartbeats 4000000 in
theorem order_match_find_ok (w0 : World) (m : Snap) (l : List HI) (fuel : Nat) : ∀ (bm_0 : Nat) (m_0 : T64) (um_0_0 : Value) (um_0_1 : Value) (i_1 : Int) (r : Bool × T64) (_ : order_match_find fuel m_0 i_1 = some r) (w : World) (_ : cX w0 ⟨m, hcells bm_0 [um_0_0, um_0_1, .int .u32 (m_0.seen.toNat : Int)] 64 :: hownT 29 1 encU um_0_0 m_0.up :: hownT 3 1 encI um_0_1 m_0.last :: l⟩ w),
    Calls Try.prog 49 [bp bm_0 0, .int .i64 i_1].toArray w fun e w' => ∃ q0 : Value, ∃ q1 : Value, e = .returned (.bool r.1) ∧ cX w0 ⟨m, hcells bm_0 [q0, q1, .int .u32 (r.2.seen.toNat : Int)] 64 :: hownT 29 1 encU q0 r.2.up :: hownT 3 1 encI q1 r.2.last :: l⟩ w' := by
  induction fuel generalizing m l with
  | zero => intro bm_0 m_0 um_0_0 um_0_1 i_1 r hr; simp [order_match_find] at hr
  | succ fuel ih =>
  intro bm_0 m_0 um_0_0 um_0_1 i_1 r hr w hc
  replace hr : order_match_find_s (order_match_find fuel) m_0 i_1 = some r := hr
  obtain ⟨slf, hslf⟩ : ∃ f, f = order_match_find fuel := ⟨_, rfl⟩
  rw [← hslf] at hr ih
  unfold order_match_find_s at hr
  refine calls_of_Tr (N := 76) Try.func49 rfl hc rfl (Nat.le_of_ble_eq_true rfl) ?_
  refine Tr.seq ?_
  refine Tr.region_f (fun _ => false) ?_
  refine W.q rfl rfl rfl rfl (by decide) (Yd.as rfl .c) ?_
  refine W.end ?_
  refine NX.sub (env' := [(0, _), (1, _)]) ⟨rfl, rfl, trivial⟩ ?_
  refine NX.then ?_
  refine Tr.seq ?_
  refine Tr.seq ?_
  refine Tr.region_f (fun _ => false) ?_
  refine W.q rfl rfl rfl rfl (by decide) (Yd.mv rfl (.t rfl)) ?_
  refine W.q rfl rfl rfl rfl (by decide) (Yd.nilc rfl (.t rfl)) ?_
  refine W.q rfl rfl rfl rfl (by decide) (Yd.fldB rfl Try.underlying64 rfl SZ23 rfl (.t rfl)) ?_
  refine W.q rfl rfl rfl rfl (by decide) (Yd.ldB (pos := 0) rfl rfl rfl ON23 (.t rfl)) ?_
  refine W.q rfl rfl rfl rfl (by decide) (Yd.lenO (p := 1) rfl rfl Try.underlying23 (.t rfl)) ?_
  refine W.q rfl rfl rfl rfl (by decide) (Yd.mv rfl .c) ?_
  refine W.end ?_
  refine NX.sub (env' := [(0, _), (1, _), (10, _), (11, _)]) ⟨rfl, rfl, rfl, rfl, trivial⟩ ?_
  refine NX.then ?_
  refine Tr.join (S := fun env x => ∃ c13 : BitVec 32, ∃ l14 : List (BitVec 32), ∃ l16 : List Int, ∃ v15 : Value, ∃ v17 : Value, env = [] ∧ x = ⟨m, hcells bm_0 [v15, v17, .int .u32 (c13.toNat : Int)] 64 :: hownT 29 1 encU v15 l14 :: hownT 3 1 encI v17 l16 :: l⟩ ∧ order_match_find_k18 c13 l14 l16 = some r) ?_ (fun hk19 => ?_)
  · rintro _ _ ⟨c13, l14, l16, v15, v17, rfl, rfl, hr⟩
    unfold order_match_find_k18 at hr
    try dsimp only at hr
    refine NX.then ?_
    refine Tr.seq ?_
    refine Tr.region_f (fun _ => false) ?_
    refine W.q rfl rfl rfl rfl (by decide) (Yd.as rfl .c) ?_
    refine W.end ?_
    refine NX.sub (env' := [(4, _)]) ⟨rfl, trivial⟩ ?_
    refine NX.then ?_
    refine Tr.ret' ?_
    refine res1 rfl rfl ?_
    intro w hc
    cases hr
    exact ⟨_, _, rfl, hc⟩
  refine Tr.lenO (pos := 1) rfl (fun hlen20 => ?_)
  refine Tr.block ?_
  refine Tr.sub (env' := [(0, _), (1, _), (10, _), (11, _)]) ⟨rfl, rfl, rfl, rfl, trivial⟩ ?_
  refine Tr.loop (S := fun n (z : Int × (BitVec 32) × (List (BitVec 32)) × (List Int)) env x => match z with | (t_21, c8, l9, l11) => ∃ v10 : Value, ∃ v12 : Value, env = [(0, bp bm_0 0), (1, .int .i64 i_1), (10, .int .i64 ((m_0.up.length : Int))), (11, .int .i64 t_21)] ∧ x = ⟨m, hcells bm_0 [v10, v12, .int .u32 (c8.toNat : Int)] 64 :: hownT 29 1 encU v10 l9 :: hownT 3 1 encI v12 l11 :: l⟩ ∧ n = ((m_0.up.length : Int) - t_21).toNat ∧ 0 ≤ t_21 ∧ forK (σ := (BitVec 32) × (List (BitVec 32)) × (List Int)) (fun i s nx_ => order_match_find_b22 i_1 slf i s.1 s.2.1 s.2.2 nx_) (fun s => order_match_find_k18 s.1 s.2.1 s.2.2) n t_21 (c8, l9, l11) = some r) _ ((0 : Int), m_0.seen, m_0.up, m_0.last) ⟨_, _, rfl, rfl, rfl, (by omega), hr⟩ ?_
  rintro n24 ⟨t_21, c8, l9, l11⟩ env x ⟨v10, v12, rfl, rfl, hnt_21, h0t_21, hr⟩
  cases n24 with
  | zero =>
    simp only [forK] at hr
    refine Tr.seq ?_
    refine Tr.region_f (fun _ => false) ?_
    refine W.q rfl rfl rfl rfl (by decide) (Yd.lss rfl (.t rfl) (.t rfl)) ?_
    refine W.end ?_
    refine NX.sub (env' := [(0, _), (1, _), (10, _), (11, _), (12, _)]) ⟨rfl, rfl, rfl, rfl, rfl, trivial⟩ ?_
    refine NX.then ?_
    refine Tr.seq ?_
    refine Tr.cond (.t rfl) (fun hb => ?_) (fun hb => ?_)
    · exact absurd (hb.symm.trans (fr_end hnt_21)) (by decide)
    ·
      refine Tr.exit' (EX.then (EX.then (EX.block ?_)))
      refine NX.sub (env' := []) trivial ?_
      exact hk19 _ _ ⟨_, _, _, _, _, rfl, rfl, hr⟩
  | succ n24 =>
    obtain ⟨nx23, hnx23, hr⟩ := forK_succ hr
    try dsimp only at hr
    unfold order_match_find_b22 at hr
    try dsimp only at hr
    have hltt_21 := fr_bnd hnt_21
    refine Tr.seq ?_
    refine Tr.region_f (fun _ => false) ?_
    refine W.q rfl rfl rfl rfl (by decide) (Yd.lss rfl (.t rfl) (.t rfl)) ?_
    refine W.end ?_
    refine NX.sub (env' := [(0, _), (1, _), (10, _), (11, _), (12, _)]) ⟨rfl, rfl, rfl, rfl, rfl, trivial⟩ ?_
    refine NX.then ?_
    refine Tr.seq ?_
    refine Tr.cond (.t rfl) (fun hb => ?_) (fun hb => ?_)
    rotate_left
    · exact absurd (hb.symm.trans (fr_go hnt_21)) (by decide)
    ·
      refine Tr.skip' ?_
      refine NX.then ?_
      refine Tr.seq ?_
      refine Tr.block ?_
      refine Tr.seq ?_
      refine Tr.region_f (fun _ => false) ?_
      refine W.q rfl rfl rfl rfl (by decide) (Yd.mv rfl (.t rfl)) ?_
      refine W.q rfl rfl rfl rfl (by decide) (Yd.as rfl (.t rfl)) ?_
      refine W.end ?_
      refine NX.sub (env' := [(0, _), (1, _), (10, _), (11, _), (5, _)]) ⟨rfl, rfl, rfl, rfl, rfl, trivial⟩ ?_
      refine NX.then ?_
      refine Tr.seq ?_
      refine Tr.seq ?_
      obtain ⟨ha25, hr⟩ := guard_some hr
      refine Tr.region_f (fun _ => false) ?_
      refine W.q rfl rfl rfl rfl (by decide) (Yd.mv rfl (.t rfl)) ?_
      refine W.q rfl rfl rfl rfl (by decide) (Yd.mv rfl (.t rfl)) ?_
      refine W.q rfl rfl rfl rfl (by decide) (Yd.eql rfl (.t rfl) (.t rfl)) ?_
      refine W.q rfl rfl rfl rfl (by decide) (Yd.mv rfl (.t rfl)) ?_
      refine W.g rfl rfl rfl rfl rfl (.t rfl _) rfl (by decide) (fun hG => Yd.mv rfl (.t rfl)) ?_
      refine W.g rfl rfl rfl rfl rfl (.t rfl _) rfl (by decide) (fun hG => Yd.nilc rfl (.g rfl hG)) ?_
      refine W.g rfl rfl rfl rfl rfl (.t rfl _) rfl (by decide) (fun hG => Yd.fldB rfl Try.underlying64 rfl SZ23 rfl (.g rfl hG)) ?_
      refine W.g rfl rfl rfl rfl rfl (.t rfl _) rfl (by decide) (fun hG => Yd.ldB (pos := 0) rfl rfl rfl ON23 (.g rfl hG)) ?_
      refine W.g rfl rfl rfl rfl rfl (.t rfl _) rfl (by decide) (fun hG => Yd.mv rfl (.t rfl)) ?_
      refine W.g rfl rfl rfl rfl rfl (.t rfl _) rfl (by decide) (fun hG => Yd.idxT (pos := 1) rfl (gd_get (d := (0#32)) ha25 hG) rfl Try.underlying23 SZ29 (.g rfl hG) (.g rfl hG)) ?_
      refine W.g rfl rfl rfl rfl rfl (.t rfl _) rfl (by decide) (fun hG => Yd.ldT (enc := encU) (n := 1) (pos := 1) (fun _ => rfl) rfl (gd_get (d := (0#32)) ha25 hG) rfl rfl ON29 (.g rfl hG)) ?_
      refine W.g rfl rfl rfl rfl rfl (.t rfl _) rfl (by decide) (fun hG => Yd.mv rfl (.t rfl)) ?_
      refine W.g rfl rfl rfl rfl rfl (.t rfl _) rfl (by decide) (fun hG => Yd.shrU (a := ((geti l9 i_1).getD (0#32))) rfl (.g rfl hG) (.g rfl hG) h0t_21) ?_
      refine W.g rfl rfl rfl rfl rfl (.t rfl _) rfl (by decide) (fun hG => Yd.andU (a := (((geti l9 i_1).getD (0#32)) >>> t_21.toNat)) (b := 1#32) rfl (.g rfl hG) .c) ?_
      refine W.g rfl rfl rfl rfl rfl (.t rfl _) rfl (by decide) (fun hG => Yd.eqlU (a := ((((geti l9 i_1).getD (0#32)) >>> t_21.toNat) &&& 1#32)) (b := 0#32) rfl (.g rfl hG) .c) ?_
      refine W.q rfl rfl rfl rfl (by decide) (Yd.or rfl (.t rfl) .c rfl rfl) ?_
      refine W.q rfl rfl rfl rfl (by decide) (Yd.mv rfl (.t rfl)) ?_
      refine W.g rfl rfl rfl rfl rfl (.t rfl _) rfl (by decide) (fun hG => Yd.mv rfl (.t rfl)) ?_
      refine W.g rfl rfl rfl rfl rfl (.t rfl _) rfl (by decide) (fun hG => Yd.nilc rfl (.g rfl hG)) ?_
      refine W.g rfl rfl rfl rfl rfl (.t rfl _) rfl (by decide) (fun hG => Yd.fldB rfl Try.underlying64 rfl SZ29 rfl (.g rfl hG)) ?_
      refine W.g rfl rfl rfl rfl rfl (.t rfl _) rfl (by decide) (fun hG => Yd.ldB (pos := 0) rfl rfl rfl ON29 (.g rfl hG)) ?_
      refine W.g rfl rfl rfl rfl rfl (.t rfl _) rfl (by decide) (fun hG => Yd.mv rfl (.t rfl)) ?_
      refine W.g rfl rfl rfl rfl rfl (.t rfl _) rfl (by decide) (fun hG => Yd.shrU (a := c8) rfl (.g rfl hG) (.g rfl hG) h0t_21) ?_
      refine W.g rfl rfl rfl rfl rfl (.t rfl _) rfl (by decide) (fun hG => Yd.andU (a := (c8 >>> t_21.toNat)) (b := 1#32) rfl (.g rfl hG) .c) ?_
      refine W.g rfl rfl rfl rfl rfl (.t rfl _) rfl (by decide) (fun hG => Yd.eqlU (a := ((c8 >>> t_21.toNat) &&& 1#32)) (b := 1#32) rfl (.g rfl hG) .c) ?_
      refine W.q rfl rfl rfl rfl (by decide) (Yd.or rfl (.t rfl) .c rfl rfl) ?_
      refine W.end ?_
      refine NX.sub (env' := [(0, _), (1, _), (10, _), (11, _), (5, _), (39, _)]) ⟨rfl, rfl, rfl, rfl, rfl, rfl, trivial⟩ ?_
      refine NX.then ?_
      refine Tr.cond (.t rfl) (fun hb => ?_) (fun hb => ?_)
      · have hr := cond_t hb hr
        refine Tr.exit' (EX.then (EX.block ?_))
        refine NX.then ?_
        refine Tr.region_f (fun _ => false) ?_
        refine W.q rfl rfl rfl rfl (by decide) (Yd.add rfl (.t rfl) .c) ?_
        refine W.q rfl rfl rfl rfl (by decide) (Yd.mv rfl (.t rfl)) ?_
        refine W.end ?_
        refine NX.sub (env' := [(0, _), (1, _), (10, _), (11, _)]) ⟨rfl, rfl, rfl, rfl, trivial⟩ ?_
        refine NX.sub (env' := [(0, _), (1, _), (10, _), (11, _)]) ⟨rfl, rfl, rfl, rfl, trivial⟩ ?_
        have hw := w64_id (n := t_21 + 1) (by omega) (by omega)
        exact NX.again n24 (t_21 + 1, c8, l9, l11) (Nat.lt_succ_self _) ⟨_, _, (by rw [hw] <;> rfl), rfl, (fr_dec hnt_21), (by omega), ((hnx23 _).symm.trans hr)⟩
      · have hr := cond_f hb hr
        refine Tr.skip' ?_
        refine NX.then ?_
        refine Tr.seq ?_
        refine Tr.region_x (fun i => Nat.beq i 9) (fun i => Nat.beq i 9) (Ord.of [0, 1, 2, 3, 4, 5, 6, 7, 8, 9]) FM (by kernel_rfl) ?_
        refine W.q rfl rfl rfl rfl (by decide) (Yd.mv rfl (.t rfl)) ?_
        refine W.q rfl rfl rfl rfl (by decide) (Yd.nilc rfl (.t rfl)) ?_
        refine W.q rfl rfl rfl rfl (by decide) (Yd.fldB rfl Try.underlying64 rfl SZ29 rfl (.t rfl)) ?_
        refine W.q rfl rfl rfl rfl (by decide) (Yd.ldB (pos := 0) rfl rfl rfl ON29 (.t rfl)) ?_
        refine W.q rfl rfl rfl rfl (by decide) (Yd.mv rfl (.t rfl)) ?_
        refine W.q rfl rfl rfl rfl (by decide) (Yd.shlU (a := 1#32) rfl .c (.t rfl) h0t_21) ?_
        refine W.q rfl rfl rfl rfl (by decide) (Yd.orU (a := c8) (b := (1#32 <<< t_21.toNat)) rfl (.t rfl) (.t rfl)) ?_
        refine W.q rfl rfl rfl rfl (by decide) (Yd.nilc rfl (.t rfl)) ?_
        refine W.q rfl rfl rfl rfl (by decide) (Yd.fldB rfl Try.underlying64 rfl SZ29 rfl (.t rfl)) ?_
        refine W.s rfl rfl rfl rfl (Ef.stB (pos := 0) (us := [_]) (cs' := [_, _, _]) rfl rfl (.t rfl) (.t rfl) SZ29 rfl rfl rfl (Nat.le_of_ble_eq_true rfl) rfl) ?_
        rintro _ _ ⟨rfl, rfl⟩
        refine ⟨.inl rfl, ?_⟩
        refine W.cast (m' := m) (l' := hcells bm_0 [_, _, _] 64 :: hownT 29 1 encU v10 _ :: hownT 3 1 encI v12 _ :: l) rfl rfl ?_
        refine W.end ?_
        refine NX.sub (env' := [(0, _), (1, _), (10, _), (11, _), (5, _)]) ⟨rfl, rfl, rfl, rfl, rfl, trivial⟩ ?_
        refine NX.then ?_
        refine Tr.seq ?_
        obtain ⟨y26, hy27, hr⟩ := bind_some hr
        refine Tr.region_f (fun i => Nat.beq i 17) ?_
        refine W.q rfl rfl rfl rfl (by decide) (Yd.mv rfl (.t rfl)) ?_
        refine W.q rfl rfl rfl rfl (by decide) (Yd.nilc rfl (.t rfl)) ?_
        refine W.q rfl rfl rfl rfl (by decide) (Yd.fldB rfl Try.underlying64 rfl SZ36 rfl (.t rfl)) ?_
        refine W.q rfl rfl rfl rfl (by decide) (Yd.ldB (pos := 0) rfl rfl rfl ON36 (.t rfl)) ?_
        refine W.q rfl rfl rfl rfl (by decide) (Yd.mv rfl (.t rfl)) ?_
        refine W.q rfl rfl rfl rfl (by decide) (Yd.idxT (pos := 2) rfl hy27 rfl Try.underlying36 SZ3 (.t rfl) (.t rfl)) ?_
        refine W.q rfl rfl rfl rfl (by decide) (Yd.ldT (enc := encI) (n := 1) (pos := 2) (fun _ => rfl) rfl hy27 rfl rfl ON3 (.t rfl)) ?_
        refine W.q rfl rfl rfl rfl (by decide) (Yd.lss rfl (.t rfl) .c) ?_
        refine W.q rfl rfl rfl rfl (by decide) (Yd.mv rfl (.t rfl)) ?_
        refine W.g rfl rfl rfl rfl rfl (.t rfl _) rfl (by decide) (fun hG => Yd.mv rfl (.t rfl)) ?_
        refine W.g rfl rfl rfl rfl rfl (.t rfl _) rfl (by decide) (fun hG => Yd.mv rfl (.t rfl)) ?_
        refine W.g rfl rfl rfl rfl rfl (.t rfl _) rfl (by decide) (fun hG => Yd.nilc rfl (.g rfl hG)) ?_
        refine W.g rfl rfl rfl rfl rfl (.t rfl _) rfl (by decide) (fun hG => Yd.fldB rfl Try.underlying64 rfl SZ36 rfl (.g rfl hG)) ?_
        refine W.g rfl rfl rfl rfl rfl (.t rfl _) rfl (by decide) (fun hG => Yd.ldB (pos := 0) rfl rfl rfl ON36 (.g rfl hG)) ?_
        refine W.g rfl rfl rfl rfl rfl (.t rfl _) rfl (by decide) (fun hG => Yd.mv rfl (.t rfl)) ?_
        refine W.g rfl rfl rfl rfl rfl (.t rfl _) rfl (by decide) (fun hG => Yd.idxT (pos := 2) rfl hy27 rfl Try.underlying36 SZ3 (.g rfl hG) (.g rfl hG)) ?_
        refine W.g rfl rfl rfl rfl rfl (.t rfl _) rfl (by decide) (fun hG => Yd.ldT (enc := encI) (n := 1) (pos := 2) (fun _ => rfl) rfl hy27 rfl rfl ON3 (.g rfl hG)) ?_
        refine W.split (b := ((decide (y26 < (0 : Int))) == false)) (fun hb28 => ?_) (fun hb28 => ?_)
        · have hr := cond_t hb28 hr
          obtain ⟨r29, hr30, hr⟩ := bind_some hr
          refine W.ge rfl rfl rfl rfl rfl (.t rfl _) hb28 rfl (by decide) (Ef.call (R := fun z x' => ∃ v31 : Value, ∃ v32 : Value, z = .bool r29.1 ∧ x' = ⟨m, hcells bm_0 [v31, v32, .int .u32 (r29.2.seen.toNat : Int)] 64 :: hownT 29 1 encU v31 r29.2.up :: hownT 3 1 encI v32 r29.2.last :: l⟩) rfl Try.func49 rfl rfl (.cons (.g rfl hb28) (.cons (.g rfl hb28) .nil)) (by intro w hw; replace hw := cX_front (p := 2) hw rfl; replace hw := cX_front (p := 2) hw rfl; replace hw := cX_front (p := 2) hw rfl; exact (ih _ _ _ _ _ _ y26 _ hr30 w hw).mono fun e w' ⟨v31, v32, he, hc'⟩ => ⟨_, _, he, ⟨v31, v32, rfl, rfl⟩, hc'⟩)) ?_
          rintro _ _ ⟨v31, v32, rfl, rfl⟩
          refine ⟨.inl rfl, ?_⟩
          refine W.cast (m' := m) (l' := hcells bm_0 [_, _, _] 64 :: hownT 29 1 encU v31 _ :: hownT 3 1 encI v32 _ :: l) rfl rfl ?_
          refine W.q rfl rfl rfl rfl (by decide) (Yd.orP rfl (.t rfl) .c (.t rfl)) ?_
          refine W.end ?_
          refine NX.sub (env' := [(0, _), (1, _), (10, _), (11, _), (5, _), (67, _)]) ⟨rfl, rfl, rfl, rfl, rfl, rfl, trivial⟩ ?_
          refine NX.then ?_
          refine Tr.cond (.t rfl) (fun hb => ?_) (fun hb => ?_)
          · have hr := cond_t hb hr
            refine Tr.seq ?_
            obtain ⟨y33, hy34, hr⟩ := bind_some hr
            refine Tr.region_f (fun i => Nat.beq i 7) ?_
            refine W.q rfl rfl rfl rfl (by decide) (Yd.mv rfl (.t rfl)) ?_
            refine W.q rfl rfl rfl rfl (by decide) (Yd.nilc rfl (.t rfl)) ?_
            refine W.q rfl rfl rfl rfl (by decide) (Yd.fldB rfl Try.underlying64 rfl SZ36 rfl (.t rfl)) ?_
            refine W.q rfl rfl rfl rfl (by decide) (Yd.ldB (pos := 0) rfl rfl rfl ON36 (.t rfl)) ?_
            refine W.q rfl rfl rfl rfl (by decide) (Yd.mv rfl (.t rfl)) ?_
            refine W.q rfl rfl rfl rfl (by decide) (Yd.mv rfl (.t rfl)) ?_
            refine W.q rfl rfl rfl rfl (by decide) (Yd.idxT (pos := 2) rfl hy34 rfl Try.underlying36 SZ3 (.t rfl) (.t rfl)) ?_
            refine W.s rfl rfl rfl rfl (Ef.stT (enc := encI) (n := 1) (pos := 2) (y := i_1) (us := [_]) (fun _ => rfl) rfl hy34 rfl (.t rfl) (.t rfl) SZ3 rfl rfl rfl (by decide)) ?_
            rintro _ _ ⟨rfl, rfl⟩
            refine ⟨.inl rfl, ?_⟩
            refine W.cast (m' := m) (l' := hcells bm_0 [_, _, _] 64 :: hownT 29 1 encU v31 _ :: hownT 3 1 encI v32 _ :: l) rfl rfl ?_
            refine W.end ?_
            refine NX.sub (env' := []) trivial ?_
            refine NX.then ?_
            refine Tr.seq ?_
            refine Tr.region_f (fun _ => false) ?_
            refine W.q rfl rfl rfl rfl (by decide) (Yd.as rfl .c) ?_
            refine W.end ?_
            refine NX.sub (env' := [(4, _)]) ⟨rfl, trivial⟩ ?_
            refine NX.then ?_
            refine Tr.ret' (RT.block (RT.then (RT.then (RT.block (RT.then ?_)))))
            refine res1 rfl rfl ?_
            intro w hc
            cases hr
            exact ⟨_, _, rfl, hc⟩
          · have hr := cond_f hb hr
            refine Tr.skip' ?_
            refine NX.block ?_
            refine NX.then ?_
            refine Tr.region_f (fun _ => false) ?_
            refine W.q rfl rfl rfl rfl (by decide) (Yd.add rfl (.t rfl) .c) ?_
            refine W.q rfl rfl rfl rfl (by decide) (Yd.mv rfl (.t rfl)) ?_
            refine W.end ?_
            refine NX.sub (env' := [(0, _), (1, _), (10, _), (11, _)]) ⟨rfl, rfl, rfl, rfl, trivial⟩ ?_
            refine NX.sub (env' := [(0, _), (1, _), (10, _), (11, _)]) ⟨rfl, rfl, rfl, rfl, trivial⟩ ?_
            have hw := w64_id (n := t_21 + 1) (by omega) (by omega)
            exact NX.again n24 (t_21 + 1, r29.2.seen, r29.2.up, r29.2.last) (Nat.lt_succ_self _) ⟨_, _, (by rw [hw] <;> rfl), rfl, (fr_dec hnt_21), (by omega), ((hnx23 _).symm.trans hr)⟩
        · have hr := cond_f hb28 hr
          refine W.gF rfl rfl rfl rfl (.t rfl _) hb28 rfl (by decide) (.bool false) ?_
          refine W.q rfl rfl rfl rfl (by decide) (Yd.or rfl (.t rfl) .c rfl rfl) ?_
          refine W.end ?_
          refine NX.sub (env' := [(0, _), (1, _), (10, _), (11, _), (5, _), (67, _)]) ⟨rfl, rfl, rfl, rfl, rfl, rfl, trivial⟩ ?_
          refine NX.then ?_
          refine Tr.cond (.t rfl) (fun hb => ?_) (fun hb => ?_)
          · have hr := cond_t hb hr
            refine Tr.seq ?_
            obtain ⟨y35, hy36, hr⟩ := bind_some hr
            refine Tr.region_f (fun i => Nat.beq i 7) ?_
            refine W.q rfl rfl rfl rfl (by decide) (Yd.mv rfl (.t rfl)) ?_
            refine W.q rfl rfl rfl rfl (by decide) (Yd.nilc rfl (.t rfl)) ?_
            refine W.q rfl rfl rfl rfl (by decide) (Yd.fldB rfl Try.underlying64 rfl SZ36 rfl (.t rfl)) ?_
            refine W.q rfl rfl rfl rfl (by decide) (Yd.ldB (pos := 0) rfl rfl rfl ON36 (.t rfl)) ?_
            refine W.q rfl rfl rfl rfl (by decide) (Yd.mv rfl (.t rfl)) ?_
            refine W.q rfl rfl rfl rfl (by decide) (Yd.mv rfl (.t rfl)) ?_
            refine W.q rfl rfl rfl rfl (by decide) (Yd.idxT (pos := 2) rfl hy36 rfl Try.underlying36 SZ3 (.t rfl) (.t rfl)) ?_
            refine W.s rfl rfl rfl rfl (Ef.stT (enc := encI) (n := 1) (pos := 2) (y := i_1) (us := [_]) (fun _ => rfl) rfl hy36 rfl (.t rfl) (.t rfl) SZ3 rfl rfl rfl (by decide)) ?_
            rintro _ _ ⟨rfl, rfl⟩
            refine ⟨.inl rfl, ?_⟩
            refine W.cast (m' := m) (l' := hcells bm_0 [_, _, _] 64 :: hownT 29 1 encU v10 _ :: hownT 3 1 encI v12 _ :: l) rfl rfl ?_
            refine W.end ?_
            refine NX.sub (env' := []) trivial ?_
            refine NX.then ?_
            refine Tr.seq ?_
            refine Tr.region_f (fun _ => false) ?_
            refine W.q rfl rfl rfl rfl (by decide) (Yd.as rfl .c) ?_
            refine W.end ?_
            refine NX.sub (env' := [(4, _)]) ⟨rfl, trivial⟩ ?_
            refine NX.then ?_
            refine Tr.ret' (RT.block (RT.then (RT.then (RT.block (RT.then ?_)))))
            refine res1 rfl rfl ?_
            intro w hc
            cases hr
            exact ⟨_, _, rfl, hc⟩
          · have hr := cond_f hb hr
            refine Tr.skip' ?_
            refine NX.block ?_
            refine NX.then ?_
            refine Tr.region_f (fun _ => false) ?_
            refine W.q rfl rfl rfl rfl (by decide) (Yd.add rfl (.t rfl) .c) ?_
            refine W.q rfl rfl rfl rfl (by decide) (Yd.mv rfl (.t rfl)) ?_
            refine W.end ?_
            refine NX.sub (env' := [(0, _), (1, _), (10, _), (11, _)]) ⟨rfl, rfl, rfl, rfl, trivial⟩ ?_
            refine NX.sub (env' := [(0, _), (1, _), (10, _), (11, _)]) ⟨rfl, rfl, rfl, rfl, trivial⟩ ?_
            have hw := w64_id (n := t_21 + 1) (by omega) (by omega)
            exact NX.again n24 (t_21 + 1, (c8 ||| (1#32 <<< t_21.toNat)), l9, l11) (Nat.lt_succ_self _) ⟨_, _, (by rw [hw] <;> rfl), rfl, (fr_dec hnt_21), (by omega), ((hnx23 _).symm.trans hr)⟩

def slices_Index_Sintint_k3 : Option (Int) :=
  some ((-1 : Int))

def slices_Index_Sintint_b7 (s_0 : List Int) (v_1 : Int) (t_6 : Int) (nx8 : Unit → Option (Int)) : Option (Int) :=
  (geti s_0 t_6).bind fun y10 =>
  (bif (v_1 == y10) then
  some t_6
  else
  nx8 ())

def slices_Index_Sintint (s_0 : List Int) (v_1 : Int) : Option (Int) :=
  forK (σ := Unit) (fun i s nx_ => slices_Index_Sintint_b7 s_0 v_1 i nx_) (fun _ => slices_Index_Sintint_k3) ((s_0.length : Int) - (0 : Int)).toNat (0 : Int) ()

set_option maxRecDepth 100000 in
set_option maxHeartbeats 4000000 in
theorem slices_Index_Sintint_ok (w0 : World) (m : Snap) (l : List HI) (us_0 : Value) (s_0 : List Int) (hs_0 : RS rI m us_0 s_0) (v_1 : Int) (r : Int) (hr : slices_Index_Sintint s_0 v_1 = some r) (w : World) (hc : cX w0 ⟨m, l⟩ w) :
    Calls Try.prog 50 [us_0, .int .i64 v_1].toArray w fun e w' => e = .returned (.int .i64 r) ∧ cX w0 ⟨m, l⟩ w' := by
  unfold slices_Index_Sintint at hr
  refine calls_of_Tr (N := 19) Try.func50 rfl hc rfl (Nat.le_of_ble_eq_true rfl) ?_
  refine Tr.seq ?_
  refine Tr.region_f (fun _ => false) ?_
  refine W.q rfl rfl rfl rfl (by decide) (Yd.as rfl .c) ?_
  refine W.end ?_
  refine NX.sub (env' := [(0, _), (1, _)]) ⟨rfl, rfl, trivial⟩ ?_
  refine NX.then ?_
  refine Tr.seq ?_
  refine Tr.seq ?_
  refine Tr.region_f (fun _ => false) ?_
  refine W.q rfl rfl rfl rfl (by decide) (Yd.mv rfl (.t rfl)) ?_
  refine W.q rfl rfl rfl rfl (by decide) (Yd.lenR hs_0 rfl Try.underlying36 (.t rfl)) ?_
  refine W.q rfl rfl rfl rfl (by decide) (Yd.mv rfl .c) ?_
  refine W.end ?_
  refine NX.sub (env' := [(0, _), (1, _), (7, _), (8, _)]) ⟨rfl, rfl, rfl, rfl, trivial⟩ ?_
  refine NX.then ?_
  refine Tr.join (S := fun env x => env = [] ∧ x = ⟨m, l⟩ ∧ slices_Index_Sintint_k3 = some r) ?_ (fun hk4 => ?_)
  · rintro _ _ ⟨rfl, rfl, hr⟩
    unfold slices_Index_Sintint_k3 at hr
    try dsimp only at hr
    refine NX.then ?_
    refine Tr.seq ?_
    refine Tr.region_f (fun _ => false) ?_
    refine W.q rfl rfl rfl rfl (by decide) (Yd.as rfl .c) ?_
    refine W.end ?_
    refine NX.sub (env' := [(4, _)]) ⟨rfl, trivial⟩ ?_
    refine NX.then ?_
    refine Tr.ret' ?_
    refine res1 rfl rfl ?_
    intro w hc
    cases hr
    exact ⟨rfl, hc⟩
  have hlen5 := (hs_0).2.1
  refine Tr.block ?_
  refine Tr.sub (env' := [(0, _), (1, _), (7, _), (8, _)]) ⟨rfl, rfl, rfl, rfl, trivial⟩ ?_
  refine Tr.loop (S := fun n (z : Int × Unit) env x => match z with | (t_6, _) => env = [(0, us_0), (1, .int .i64 v_1), (7, .int .i64 ((s_0.length : Int))), (8, .int .i64 t_6)] ∧ x = ⟨m, l⟩ ∧ n = ((s_0.length : Int) - t_6).toNat ∧ 0 ≤ t_6 ∧ forK (σ := Unit) (fun i s nx_ => slices_Index_Sintint_b7 s_0 v_1 i nx_) (fun _ => slices_Index_Sintint_k3) n t_6 () = some r) _ ((0 : Int), ()) ⟨rfl, rfl, rfl, (by omega), hr⟩ ?_
  rintro n9 ⟨t_6, _⟩ env x ⟨rfl, rfl, hnt_6, h0t_6, hr⟩
  cases n9 with
  | zero =>
    simp only [forK] at hr
    refine Tr.seq ?_
    refine Tr.region_f (fun _ => false) ?_
    refine W.q rfl rfl rfl rfl (by decide) (Yd.lss rfl (.t rfl) (.t rfl)) ?_
    refine W.end ?_
    refine NX.sub (env' := [(0, _), (1, _), (7, _), (8, _), (9, _)]) ⟨rfl, rfl, rfl, rfl, rfl, trivial⟩ ?_
    refine NX.then ?_
    refine Tr.seq ?_
    refine Tr.cond (.t rfl) (fun hb => ?_) (fun hb => ?_)
    · exact absurd (hb.symm.trans (fr_end hnt_6)) (by decide)
    ·
      refine Tr.exit' (EX.then (EX.then (EX.block ?_)))
      refine NX.sub (env' := []) trivial ?_
      exact hk4 _ _ ⟨rfl, rfl, hr⟩
  | succ n9 =>
    obtain ⟨nx8, hnx8, hr⟩ := forK_succ hr
    try dsimp only at hr
    unfold slices_Index_Sintint_b7 at hr
    try dsimp only at hr
    have hltt_6 := fr_bnd hnt_6
    refine Tr.seq ?_
    refine Tr.region_f (fun _ => false) ?_
    refine W.q rfl rfl rfl rfl (by decide) (Yd.lss rfl (.t rfl) (.t rfl)) ?_
    refine W.end ?_
    refine NX.sub (env' := [(0, _), (1, _), (7, _), (8, _), (9, _)]) ⟨rfl, rfl, rfl, rfl, rfl, trivial⟩ ?_
    refine NX.then ?_
    refine Tr.seq ?_
    refine Tr.cond (.t rfl) (fun hb => ?_) (fun hb => ?_)
    rotate_left
    · exact absurd (hb.symm.trans (fr_go hnt_6)) (by decide)
    ·
      refine Tr.skip' ?_
      refine NX.then ?_
      refine Tr.seq ?_
      refine Tr.block ?_
      refine Tr.seq ?_
      refine Tr.region_f (fun _ => false) ?_
      refine W.q rfl rfl rfl rfl (by decide) (Yd.mv rfl (.t rfl)) ?_
      refine W.q rfl rfl rfl rfl (by decide) (Yd.as rfl (.t rfl)) ?_
      refine W.end ?_
      refine NX.sub (env' := [(0, _), (1, _), (7, _), (8, _), (5, _)]) ⟨rfl, rfl, rfl, rfl, rfl, trivial⟩ ?_
      refine NX.then ?_
      refine Tr.seq ?_
      obtain ⟨y10, hy11, hr⟩ := bind_some hr
      refine Tr.region_f (fun _ => false) ?_
      refine W.q rfl rfl rfl rfl (by decide) (Yd.mv rfl (.t rfl)) ?_
      refine W.q rfl rfl rfl rfl (by decide) (Yd.mv rfl (.t rfl)) ?_
      refine W.q rfl rfl rfl rfl (by decide) (Yd.mv rfl (.t rfl)) ?_
      refine W.q rfl rfl rfl rfl (by decide) (Yd.idxR hs_0 hy11 rfl Try.underlying36 SZ3 (.t rfl) (.t rfl)) ?_
      refine W.q rfl rfl rfl rfl (by decide) (Yd.ldF hs_0 (.refl _) hy11 rfl rfl ON3 (.t rfl)) ?_
      refine W.q rfl rfl rfl rfl (by decide) (Yd.eql rfl (.t rfl) (.t rfl)) ?_
      refine W.end ?_
      refine NX.sub (env' := [(0, _), (1, _), (7, _), (8, _), (5, _), (16, _)]) ⟨rfl, rfl, rfl, rfl, rfl, rfl, trivial⟩ ?_
      refine NX.then ?_
      refine Tr.cond (.t rfl) (fun hb => ?_) (fun hb => ?_)
      · have hr := cond_t hb hr
        refine Tr.seq ?_
        refine Tr.region_f (fun _ => false) ?_
        refine W.q rfl rfl rfl rfl (by decide) (Yd.mv rfl (.t rfl)) ?_
        refine W.q rfl rfl rfl rfl (by decide) (Yd.as rfl (.t rfl)) ?_
        refine W.end ?_
        refine NX.sub (env' := [(4, _)]) ⟨rfl, trivial⟩ ?_
        refine NX.then ?_
        refine Tr.ret' (RT.block (RT.then (RT.then (RT.block (RT.then ?_)))))
        refine res1 rfl rfl ?_
        intro w hc
        cases hr
        exact ⟨rfl, hc⟩
      · have hr := cond_f hb hr
        refine Tr.skip' ?_
        refine NX.block ?_
        refine NX.then ?_
        refine Tr.region_f (fun _ => false) ?_
        refine W.q rfl rfl rfl rfl (by decide) (Yd.add rfl (.t rfl) .c) ?_
        refine W.q rfl rfl rfl rfl (by decide) (Yd.mv rfl (.t rfl)) ?_
        refine W.end ?_
        refine NX.sub (env' := [(0, _), (1, _), (7, _), (8, _)]) ⟨rfl, rfl, rfl, rfl, trivial⟩ ?_
        refine NX.sub (env' := [(0, _), (1, _), (7, _), (8, _)]) ⟨rfl, rfl, rfl, rfl, trivial⟩ ?_
        have hw := w64_id (n := t_6 + 1) (by omega) (by omega)
        exact NX.again n9 (t_6 + 1, ()) (Nat.lt_succ_self _) ⟨(by rw [hw] <;> rfl), rfl, (fr_dec hnt_6), (by omega), ((hnx8 _).symm.trans hr)⟩

def order_Split_k50 (l45 : List (List Int)) : Option ((List (List Int)) × Int) :=
  some ((l45, (0 : Int)))

def order_Split_k73 (l40 : List (List Int)) (nx57 : ((List (List Int)) → Option ((List (List Int)) × Int))) (l71 : List Int) : Option ((List (List Int)) × Int) :=
  bif decide (l40.length + 1 ≤ 5864062014805) then
  nx57 (l40 ++ [l71]) else none

def order_Split_b81 (l26 : List Int) (l40 : List (List Int)) (nx57 : ((List (List Int)) → Option ((List (List Int)) × Int))) (k_68 : Int) (l69 : List Int) (nx82 : (Int × (List Int)) → Option ((List (List Int)) × Int)) : Option ((List (List Int)) × Int) :=
  (bif (decide (k_68 ≥ (0 : Int))) then
  bif decide (l69.length + (([k_68] : List Int)).length ≤ 17592186044416) then
  (slices_Index_Sintint l26 k_68).bind fun r88 =>
  nx82 (r88, (l69 ++ ([k_68] : List Int))) else none
  else
  order_Split_k73 l40 nx57 l69)

def order_Split_b56 (fuel : Nat) (l26 : List Int) (t_55 : Int) (l40 : List (List Int)) (nx57 : (List (List Int)) → Option ((List (List Int)) × Int)) : Option ((List (List Int)) × Int) :=
  (geti l26 t_55).bind fun y59 =>
  (bif (decide (y59 ≥ (0 : Int))) then
  nx57 l40
  else
  (slices_Index_Sintint l26 t_55).bind fun r63 =>
  whileK (σ := Int × (List Int)) (fun s nx_ => order_Split_b81 l26 l40 nx57 s.1 s.2 nx_) fuel (r63, (([t_55] : List Int))))

def order_Split_k30 (fuel : Nat) (c25 : BitVec 32) (l26 : List Int) (l28 : List (BitVec 32)) : Option ((List (List Int)) × Int) :=
  forK (σ := (List (List Int))) (fun i s nx_ => order_Split_b56 fuel l26 i s nx_) (fun s => order_Split_k50 s) ((l26.length : Int) - (0 : Int)).toNat (0 : Int) (([] : List (List Int)))

def order_Split_b92 (fuel : Nat) (t_91 : Int) (c20 : BitVec 32) (l21 : List Int) (l23 : List (BitVec 32)) (nx93 : ((BitVec 32) × (List Int) × (List (BitVec 32))) → Option ((List (List Int)) × Int)) : Option ((List (List Int)) × Int) :=
  (order_match_find fuel (({ up := l23, last := l21, seen := 0#32 } : T64)) t_91).bind fun r95 =>
  nx93 (r95.2.seen, r95.2.last, r95.2.up)

def order_Split (fuel : Nat) (n_0 : Int) (pairs_1 : List (Int × Int)) : Option ((List (List Int)) × Int) :=
  (order_Table n_0 pairs_1).bind fun r1 =>
  (bif (r1.2 != (0 : Int)) then
  some (([], r1.2))
  else
  (slices_Repeat_Sintint fuel (([(-1 : Int)] : List Int)) n_0).bind fun r7 =>
  forK (σ := (BitVec 32) × (List Int) × (List (BitVec 32))) (fun i s nx_ => order_Split_b92 fuel i s.1 s.2.1 s.2.2 nx_) (fun s => order_Split_k30 fuel s.1 s.2.1 s.2.2) ((r1.1.length : Int) - (0 : Int)).toNat (0 : Int) (((0#32)), r7, r1.1))

set_option maxRecDepth 100000 in
set_option maxHeartbeats 4000000 in
theorem order_Split_ok (w0 : World) (m : Snap) (l : List HI) (fuel : Nat) (n_0 : Int) (upairs_1 : Value) (pairs_1 : List (Int × Int)) (hpairs_1 : RS rP m upairs_1 pairs_1) (r : (List (List Int)) × Int) (hr : order_Split fuel n_0 pairs_1 = some r) (w : World) (hc : cX w0 ⟨m, l⟩ w) :
    Calls Try.prog 29 [.int .i64 n_0, upairs_1].toArray w fun e w' => ∃ z0 : Value, ∃ m1 : Snap, e = .returned (.tuple #[z0, .int .i64 r.2]) ∧ Sle m m1 ∧ RS (Rp.slice rI) m1 z0 r.1 ∧ cX w0 ⟨m1, l⟩ w' := by
  unfold order_Split at hr
  refine calls_of_Tr (N := 80) Try.func29 rfl hc rfl (Nat.le_of_ble_eq_true rfl) ?_
  refine Tr.seq ?_
  refine Tr.region_f (fun _ => false) ?_
  refine W.q rfl rfl rfl rfl (by decide) (Yd.as rfl .c) ?_
  refine W.q rfl rfl rfl rfl (by decide) (Yd.as rfl .c) ?_
  refine W.end ?_
  refine NX.sub (env' := [(0, _), (1, _)]) ⟨rfl, rfl, trivial⟩ ?_
  refine NX.then ?_
  refine Tr.seq ?_
  obtain ⟨r1, hr2, hr⟩ := bind_some hr
  refine Tr.region_f (fun i => Nat.beq i 2) ?_
  refine W.q rfl rfl rfl rfl (by decide) (Yd.mv rfl (.t rfl)) ?_
  refine W.q rfl rfl rfl rfl (by decide) (Yd.mv rfl (.t rfl)) ?_
  refine W.e rfl rfl rfl rfl (by decide) (Ef.call (R := fun z x' => ∃ v3 : Value, z = .tuple #[v3, .int .i64 r1.2] ∧ x' = ⟨m, hownT 29 1 encU v3 r1.1 :: l⟩) rfl Try.func15 rfl rfl (.cons (.t rfl) (.cons (.t rfl) .nil)) (fun w hw => (order_Table_ok w0 _ _ n_0 _ _ hpairs_1 _ hr2 w hw).mono fun e w' ⟨v3, he, hc'⟩ => ⟨_, _, he, ⟨v3, rfl, rfl⟩, hc'⟩)) ?_
  rintro _ _ ⟨v3, rfl, rfl⟩
  refine ⟨.inl rfl, ?_⟩
  refine W.cast (m' := m) (l' := hownT 29 1 encU v3 _ :: l) rfl rfl ?_
  refine W.q rfl rfl rfl rfl (by decide) (Yd.mv rfl (.t rfl)) ?_
  refine W.q rfl rfl rfl rfl (by decide) (Yd.ext rfl (.t rfl) rfl) ?_
  refine W.q rfl rfl rfl rfl (by decide) (Yd.ext rfl (.t rfl) rfl) ?_
  refine W.q rfl rfl rfl rfl (by decide) (Yd.as rfl (.t rfl)) ?_
  refine W.q rfl rfl rfl rfl (by decide) (Yd.as rfl (.t rfl)) ?_
  refine W.end ?_
  refine NX.sub (env' := [(0, _), (6, _), (7, _)]) ⟨rfl, rfl, rfl, trivial⟩ ?_
  refine NX.then ?_
  refine Tr.seq ?_
  refine Tr.seq ?_
  refine Tr.region_f (fun _ => false) ?_
  refine W.q rfl rfl rfl rfl (by decide) (Yd.mv rfl (.t rfl)) ?_
  refine W.q rfl rfl rfl rfl (by decide) (Yd.neq rfl (.t rfl) .c) ?_
  refine W.end ?_
  refine NX.sub (env' := [(0, _), (6, _), (7, _), (22, _)]) ⟨rfl, rfl, rfl, rfl, trivial⟩ ?_
  refine NX.then ?_
  refine Tr.cond (.t rfl) (fun hb => ?_) (fun hb => ?_)
  · have hr := cond_t hb hr
    refine Tr.seq ?_
    refine Tr.region_f (fun _ => false) ?_
    refine W.q rfl rfl rfl rfl (by decide) (Yd.mv rfl (.t rfl)) ?_
    refine W.q rfl rfl rfl rfl (by decide) (Yd.as rfl .c) ?_
    refine W.q rfl rfl rfl rfl (by decide) (Yd.as rfl (.t rfl)) ?_
    refine W.end ?_
    refine NX.sub (env' := [(4, _), (5, _)]) ⟨rfl, rfl, trivial⟩ ?_
    refine NX.drop (l' := l) (.cons _ (.refl _)) ?_
    refine NX.then ?_
    refine Tr.ret' (RT.then ?_)
    refine res2 rfl rfl rfl ?_
    intro w hc
    cases hr
    exact ⟨_, _, rfl, (.refl _), (RS.nil _ _), hc⟩
  · have hr := cond_f hb hr
    refine Tr.skip' ?_
    refine NX.then ?_
    refine Tr.seq ?_
    obtain ⟨r7, hr8, hr⟩ := bind_some hr
    refine Tr.region_f (fun i => Nat.beq i 1 || Nat.beq i 3 || Nat.beq i 5) ?_
    refine W.q rfl rfl rfl rfl (by decide) (Yd.mv rfl (.t rfl)) ?_
    refine W.e rfl rfl rfl rfl (by decide) (Ef.bsT (enc := encI) (vs := [_]) (ys := [(-1 : Int)]) (fun _ => rfl) IF3 rfl Try.underlying36 (by decide) rfl (.cons .c .nil) rfl rfl (by decide)) ?_
    rintro v5 _ rfl
    refine ⟨.inl rfl, ?_⟩
    refine W.cast (m' := m) (l' := hownT 3 1 encI v5 _ :: hownT 29 1 encU v3 _ :: l) rfl rfl ?_
    refine W.q rfl rfl rfl rfl (by decide) (Yd.mv rfl (.t rfl)) ?_
    refine W.e rfl rfl rfl rfl (by decide) (Ef.call (R := fun z x' => ∃ v9 : Value, z = v9 ∧ x' = ⟨m, hownT 3 1 encI v9 r7 :: hownT 3 1 encI v5 (([(-1 : Int)] : List Int)) :: hownT 29 1 encU v3 r1.1 :: l⟩) rfl Try.func48 rfl rfl (.cons (.t rfl) (.cons (.t rfl) .nil)) (by intro w hw; obtain ⟨m2, hm2, hc2, ⟨L2, hl1, hl2⟩, hback⟩ := cX_lend (p := 0) hw rfl lone_own; have hL1 : RS rI m2 _ _ := RS_of_own hl1 hl2; exact (slices_Repeat_Sintint_ok w0 m2 _ fuel _ _ hL1 n_0 _ hr8 w hc2).mono fun e w' ⟨v9, he, hc'⟩ => ⟨_, _, he, ⟨v9, rfl, rfl⟩, (hback m2 _ 1 w' (.refl _) rfl).2 hc'⟩)) ?_
    rintro v9 _ ⟨_, rfl, rfl⟩
    refine ⟨.inl rfl, ?_⟩
    refine W.cast (m' := m) (l' := hownT 3 1 encI v9 _ :: hownT 3 1 encI v5 _ :: hownT 29 1 encU v3 _ :: l) rfl rfl ?_
    refine W.q rfl rfl rfl rfl (by decide) (Yd.bld2 (cells := [v3, v9, .int .u32 (((0#32)).toNat : Int)]) (Sl.own (p := 2) rfl) (Sl.own (p := 0) rfl) rfl ZI64 PL64 (.cons (.t rfl) (.cons (.t rfl) .nil)) (by rintro ⟨_, _, _, rfl⟩; rintro ⟨_, _, _, rfl⟩; rfl)) ?_
    refine W.e rfl rfl rfl rfl (by decide) (Ef.bx rfl (.t rfl) rfl) ?_
    rintro _ _ ⟨b11, rfl, rfl⟩
    refine ⟨.inl rfl, ?_⟩
    refine W.cast (m' := m) (l' := hcells b11 [_, _, _] 64 :: hownT 3 1 encI v9 _ :: hownT 3 1 encI v5 _ :: hownT 29 1 encU v3 _ :: l) rfl rfl ?_
    refine W.q rfl rfl rfl rfl (by decide) (Yd.as rfl (.t rfl)) ?_
    refine W.end ?_
    refine NX.sub (env' := [(6, _), (8, _)]) ⟨rfl, rfl, trivial⟩ ?_
    refine NX.drop (l' := hcells b11 [_, _, _] 64 :: hownT 3 1 encI v9 _ :: hownT 29 1 encU v3 _ :: l) (.cons_cons _ (.cons_cons _ (.cons _ (.cons_cons _ (.refl _))))) ?_
    refine NX.then ?_
    refine Tr.seq ?_
    refine Tr.seq ?_
    refine Tr.region_f (fun _ => false) ?_
    refine W.q rfl rfl rfl rfl (by decide) (Yd.mv rfl (.t rfl)) ?_
    refine W.q rfl rfl rfl rfl (by decide) (Yd.lenO (p := 2) rfl rfl Try.underlying23 (.t rfl)) ?_
    refine W.q rfl rfl rfl rfl (by decide) (Yd.mv rfl .c) ?_
    refine W.end ?_
    refine NX.sub (env' := [(8, _), (31, _), (32, _)]) ⟨rfl, rfl, rfl, trivial⟩ ?_
    refine NX.then ?_
    refine Tr.join (S := fun env x => ∃ c25 : BitVec 32, ∃ l26 : List Int, ∃ l28 : List (BitVec 32), ∃ v27 : Value, ∃ v29 : Value, env = [(8, bp b11 0)] ∧ x = ⟨m, hcells b11 [v29, v27, .int .u32 (c25.toNat : Int)] 64 :: hownT 3 1 encI v27 l26 :: hownT 29 1 encU v29 l28 :: l⟩ ∧ order_Split_k30 fuel c25 l26 l28 = some r) ?_ (fun hk31 => ?_)
    · rintro _ _ ⟨c25, l26, l28, v27, v29, rfl, rfl, hr⟩
      unfold order_Split_k30 at hr
      try dsimp only at hr
      refine NX.then ?_
      refine Tr.seq ?_
      refine Tr.region_f (fun _ => false) ?_
      refine W.q rfl rfl rfl rfl (by decide) (Yd.as rfl .c) ?_
      refine W.end ?_
      refine NX.sub (env' := [(8, _), (10, _)]) ⟨rfl, rfl, trivial⟩ ?_
      refine NX.then ?_
      refine Tr.seq ?_
      refine Tr.seq ?_
      refine Tr.region_f (fun _ => false) ?_
      refine W.q rfl rfl rfl rfl (by decide) (Yd.mv rfl (.t rfl)) ?_
      refine W.q rfl rfl rfl rfl (by decide) (Yd.nilc rfl (.t rfl)) ?_
      refine W.q rfl rfl rfl rfl (by decide) (Yd.fldB rfl Try.underlying64 rfl SZ36 rfl (.t rfl)) ?_
      refine W.q rfl rfl rfl rfl (by decide) (Yd.ldB (pos := 0) rfl rfl rfl ON36 (.t rfl)) ?_
      refine W.q rfl rfl rfl rfl (by decide) (Yd.lenO (p := 1) rfl rfl Try.underlying36 (.t rfl)) ?_
      refine W.q rfl rfl rfl rfl (by decide) (Yd.mv rfl .c) ?_
      refine W.end ?_
      refine NX.sub (env' := [(8, _), (10, _), (45, _), (46, _), (47, _)]) ⟨rfl, rfl, rfl, rfl, rfl, trivial⟩ ?_
      refine NX.then ?_
      refine Tr.addnil 36 1 ?_
      refine Tr.join (S := fun env x => ∃ l45 : List (List Int), ∃ m49 : Snap, ∃ v46 : Value, ∃ us47 : List Value, Sle m m49 ∧ Rows rI m49 us47 l45 ∧ env = [(10, v46)] ∧ x = ⟨m49, hown 36 1 v46 l45.length us47 :: l⟩ ∧ order_Split_k50 l45 = some r) ?_ (fun hk51 => ?_)
      · rintro _ _ ⟨l45, m49, v46, us47, hsm49, hw48, rfl, rfl, hr⟩
        unfold order_Split_k50 at hr
        try dsimp only at hr
        have hpairs_1 := hpairs_1.mono hsm49
        refine NX.then ?_
        refine Tr.seq ?_
        refine Tr.region_f (fun _ => false) ?_
        refine W.q rfl rfl rfl rfl (by decide) (Yd.mv rfl (.t rfl)) ?_
        refine W.q rfl rfl rfl rfl (by decide) (Yd.as rfl (.t rfl)) ?_
        refine W.q rfl rfl rfl rfl (by decide) (Yd.as rfl .c) ?_
        refine W.end ?_
        refine NX.sub (env' := [(4, _), (5, _)]) ⟨rfl, rfl, trivial⟩ ?_
        refine NX.then ?_
        refine Tr.ret' ?_
        refine res2 rfl rfl rfl ?_
        intro w hc
        cases hr
        obtain ⟨m52, hsm52, hu53, hc⟩ := cX_freezeR (p := 0) hc hw48 rfl
        have hpairs_1 := hpairs_1.mono hsm52
        have hw48 := hw48.mono hsm52
        exact ⟨_, _, rfl, (hsm49.trans hsm52), hu53, hc⟩
      refine Tr.lenO (pos := 2) rfl (fun hlen54 => ?_)
      refine Tr.block ?_
      refine Tr.sub (env' := [(8, _), (10, _), (45, _), (46, _), (47, _)]) ⟨rfl, rfl, rfl, rfl, rfl, trivial⟩ ?_
      refine Tr.loop (S := fun n (z : Int × (List (List Int))) env x => match z with | (t_55, l40) => ∃ m44 : Snap, ∃ v41 : Value, ∃ us42 : List Value, Sle m m44 ∧ Rows rI m44 us42 l40 ∧ env = [(8, bp b11 0), (10, v41), (45, v27), (46, .int .i64 ((l26.length : Int))), (47, .int .i64 t_55)] ∧ x = ⟨m44, hown 36 1 v41 l40.length us42 :: hcells b11 [v29, v27, .int .u32 (c25.toNat : Int)] 64 :: hownT 3 1 encI v27 l26 :: hownT 29 1 encU v29 l28 :: l⟩ ∧ n = ((l26.length : Int) - t_55).toNat ∧ 0 ≤ t_55 ∧ forK (σ := (List (List Int))) (fun i s nx_ => order_Split_b56 fuel l26 i s nx_) (fun s => order_Split_k50 s) n t_55 l40 = some r) _ ((0 : Int), ([] : List (List Int))) ⟨_, _, _, (.refl _), (Rows.nil _ _), rfl, rfl, rfl, (by omega), hr⟩ ?_
      rintro n58 ⟨t_55, l40⟩ env x ⟨m44, v41, us42, hsm44, hw43, rfl, rfl, hnt_55, h0t_55, hr⟩
      have hpairs_1 := hpairs_1.mono hsm44
      cases n58 with
      | zero =>
        simp only [forK] at hr
        refine Tr.seq ?_
        refine Tr.region_f (fun _ => false) ?_
        refine W.q rfl rfl rfl rfl (by decide) (Yd.lss rfl (.t rfl) (.t rfl)) ?_
        refine W.end ?_
        refine NX.sub (env' := [(8, _), (10, _), (45, _), (46, _), (47, _), (48, _)]) ⟨rfl, rfl, rfl, rfl, rfl, rfl, trivial⟩ ?_
        refine NX.then ?_
        refine Tr.seq ?_
        refine Tr.cond (.t rfl) (fun hb => ?_) (fun hb => ?_)
        · exact absurd (hb.symm.trans (fr_end hnt_55)) (by decide)
        ·
          refine Tr.exit' (EX.then (EX.then (EX.block ?_)))
          refine NX.sub (env' := [(10, _)]) ⟨rfl, trivial⟩ ?_
          refine NX.drop (l' := hown 36 1 v41 _ _ :: l) (.cons_cons _ (.cons _ (.cons _ (.cons _ (.refl _))))) ?_
          exact hk51 _ _ ⟨_, _, _, _, hsm44, hw43, rfl, rfl, hr⟩
      | succ n58 =>
        obtain ⟨nx57, hnx57, hr⟩ := forK_succ hr
        try dsimp only at hr
        unfold order_Split_b56 at hr
        try dsimp only at hr
        have hltt_55 := fr_bnd hnt_55
        refine Tr.seq ?_
        refine Tr.region_f (fun _ => false) ?_
        refine W.q rfl rfl rfl rfl (by decide) (Yd.lss rfl (.t rfl) (.t rfl)) ?_
        refine W.end ?_
        refine NX.sub (env' := [(8, _), (10, _), (45, _), (46, _), (47, _), (48, _)]) ⟨rfl, rfl, rfl, rfl, rfl, rfl, trivial⟩ ?_
        refine NX.then ?_
        refine Tr.seq ?_
        refine Tr.cond (.t rfl) (fun hb => ?_) (fun hb => ?_)
        rotate_left
        · exact absurd (hb.symm.trans (fr_go hnt_55)) (by decide)
        ·
          refine Tr.skip' ?_
          refine NX.then ?_
          refine Tr.seq ?_
          refine Tr.block ?_
          refine Tr.seq ?_
          obtain ⟨y59, hy60, hr⟩ := bind_some hr
          refine Tr.region_f (fun _ => false) ?_
          refine W.q rfl rfl rfl rfl (by decide) (Yd.mv rfl (.t rfl)) ?_
          refine W.q rfl rfl rfl rfl (by decide) (Yd.idxT (pos := 2) rfl hy60 rfl Try.underlying36 SZ3 (.t rfl) (.t rfl)) ?_
          refine W.q rfl rfl rfl rfl (by decide) (Yd.ldT (enc := encI) (n := 1) (pos := 2) (fun _ => rfl) rfl hy60 rfl rfl ON3 (.t rfl)) ?_
          refine W.q rfl rfl rfl rfl (by decide) (Yd.as rfl (.t rfl)) ?_
          refine W.q rfl rfl rfl rfl (by decide) (Yd.as rfl (.t rfl)) ?_
          refine W.end ?_
          refine NX.sub (env' := [(8, _), (10, _), (45, _), (46, _), (47, _), (11, _), (12, _)]) ⟨rfl, rfl, rfl, rfl, rfl, rfl, rfl, trivial⟩ ?_
          refine NX.then ?_
          refine Tr.seq ?_
          refine Tr.seq ?_
          refine Tr.region_f (fun _ => false) ?_
          refine W.q rfl rfl rfl rfl (by decide) (Yd.mv rfl (.t rfl)) ?_
          refine W.q rfl rfl rfl rfl (by decide) (Yd.geq rfl (.t rfl) .c) ?_
          refine W.end ?_
          refine NX.sub (env' := [(8, _), (10, _), (45, _), (46, _), (47, _), (11, _), (53, _)]) ⟨rfl, rfl, rfl, rfl, rfl, rfl, rfl, trivial⟩ ?_
          refine NX.then ?_
          refine Tr.cond (.t rfl) (fun hb => ?_) (fun hb => ?_)
          · have hr := cond_t hb hr
            refine Tr.exit' (EX.then (EX.block ?_))
            refine NX.then ?_
            refine Tr.region_f (fun _ => false) ?_
            refine W.q rfl rfl rfl rfl (by decide) (Yd.add rfl (.t rfl) .c) ?_
            refine W.q rfl rfl rfl rfl (by decide) (Yd.mv rfl (.t rfl)) ?_
            refine W.end ?_
            refine NX.sub (env' := [(8, _), (10, _), (45, _), (46, _), (47, _)]) ⟨rfl, rfl, rfl, rfl, rfl, trivial⟩ ?_
            refine NX.sub (env' := [(8, _), (10, _), (45, _), (46, _), (47, _)]) ⟨rfl, rfl, rfl, rfl, rfl, trivial⟩ ?_
            have hw := w64_id (n := t_55 + 1) (by omega) (by omega)
            exact NX.again n58 (t_55 + 1, l40) (Nat.lt_succ_self _) ⟨_, _, _, hsm44, hw43, (by rw [hw] <;> rfl), rfl, (fr_dec hnt_55), (by omega), ((hnx57 _).symm.trans hr)⟩
          · have hr := cond_f hb hr
            refine Tr.skip' ?_
            refine NX.then ?_
            refine Tr.seq ?_
            refine Tr.region_f (fun i => Nat.beq i 1) ?_
            refine W.q rfl rfl rfl rfl (by decide) (Yd.mv rfl (.t rfl)) ?_
            refine W.e rfl rfl rfl rfl (by decide) (Ef.bsT (enc := encI) (vs := [_]) (ys := [t_55]) (fun _ => rfl) IF3 rfl Try.underlying36 (by decide) rfl (.cons (.t rfl) .nil) rfl rfl (by decide)) ?_
            rintro v61 _ rfl
            refine ⟨.inl rfl, ?_⟩
            refine W.cast (m' := m44) (l' := hownT 3 1 encI v61 _ :: hown 36 1 v41 _ _ :: hcells b11 [_, _, _] 64 :: hownT 3 1 encI v27 _ :: hownT 29 1 encU v29 _ :: l) rfl rfl ?_
            refine W.q rfl rfl rfl rfl (by decide) (Yd.as rfl (.t rfl)) ?_
            refine W.end ?_
            refine NX.sub (env' := [(8, _), (10, _), (45, _), (46, _), (47, _), (11, _), (13, _)]) ⟨rfl, rfl, rfl, rfl, rfl, rfl, rfl, trivial⟩ ?_
            refine NX.then ?_
            refine Tr.seq ?_
            refine Tr.seq ?_
            obtain ⟨r63, hr64, hr⟩ := bind_some hr
            refine Tr.region_f (fun _ => false) ?_
            refine W.q rfl rfl rfl rfl (by decide) (Yd.mv rfl (.t rfl)) ?_
            refine W.q rfl rfl rfl rfl (by decide) (Yd.nilc rfl (.t rfl)) ?_
            refine W.q rfl rfl rfl rfl (by decide) (Yd.fldB rfl Try.underlying64 rfl SZ36 rfl (.t rfl)) ?_
            refine W.q rfl rfl rfl rfl (by decide) (Yd.ldB (pos := 2) rfl rfl rfl ON36 (.t rfl)) ?_
            refine W.q rfl rfl rfl rfl (by decide) (Yd.mv rfl (.t rfl)) ?_
            refine W.q rfl rfl rfl rfl (by decide) (Yd.call (v := .int .i64 r63) rfl Try.func50 rfl rfl (.cons (.t rfl) (.cons (.t rfl) .nil)) (by intro x' hx w hw; obtain ⟨p0, hp0⟩ := hx.at (p := 3) rfl; obtain ⟨m2, hm2, hc2, ⟨L2, hl1, hl2⟩, hback⟩ := cX_lend hw hp0 lone_own; have hL1 : RS rI m2 _ _ := RS_of_own hl1 hl2; exact (slices_Index_Sintint_ok w0 m2 _ _ _ hL1 t_55 _ hr64 w hc2).mono fun e w' ⟨he, hc'⟩ => ⟨he, (hback m2 _ _ w' (.refl _) hp0).2 hc'⟩)) ?_
            refine W.q rfl rfl rfl rfl (by decide) (Yd.as rfl (.t rfl)) ?_
            refine W.end ?_
            refine NX.sub (env' := [(8, _), (10, _), (45, _), (46, _), (47, _), (13, _), (14, _)]) ⟨rfl, rfl, rfl, rfl, rfl, rfl, rfl, trivial⟩ ?_
            refine NX.then ?_
            refine Tr.join (S := fun env x => ∃ l71 : List Int, ∃ v72 : Value, env = [(8, bp b11 0), (10, v41), (45, v27), (46, .int .i64 ((l26.length : Int))), (47, .int .i64 t_55), (13, v72)] ∧ x = ⟨m44, hownT 3 1 encI v72 l71 :: hown 36 1 v41 l40.length us42 :: hcells b11 [v29, v27, .int .u32 (c25.toNat : Int)] 64 :: hownT 3 1 encI v27 l26 :: hownT 29 1 encU v29 l28 :: l⟩ ∧ order_Split_k73 l40 nx57 l71 = some r) ?_ (fun hk74 => ?_)
            · rintro _ _ ⟨l71, v72, rfl, rfl, hr⟩
              unfold order_Split_k73 at hr
              try dsimp only at hr
              refine NX.then ?_
              refine Tr.freezeT (enc := encI) (n := 1) (pos := 0) (xs := l71) (fun _ => rfl) rfl (fun m75 hsm75 hu76 => ?_)
              have hpairs_1 := hpairs_1.mono hsm75
              have hw43 := hw43.mono hsm75
              refine Tr.cast (m' := m75) (l' := hown 36 1 v41 _ _ :: hcells b11 [_, _, _] 64 :: hownT 3 1 encI v27 _ :: hownT 29 1 encU v29 _ :: l) rfl rfl ?_
              obtain ⟨hq80, hr⟩ := guard_some hr; replace hq80 := of_decide_eq_true hq80
              refine Tr.region_f (fun i => Nat.beq i 2 || Nat.beq i 3) ?_
              refine W.q rfl rfl rfl rfl (by decide) (Yd.mv rfl (.t rfl)) ?_
              refine W.q rfl rfl rfl rfl (by decide) (Yd.mv rfl (.t rfl)) ?_
              refine W.e rfl rfl rfl rfl (by decide) (Ef.bsR hu76 IF36 rfl Try.underlying44 (.cons (.t rfl) .nil)) ?_
              rintro v77 _ rfl
              refine ⟨.inl rfl, ?_⟩
              refine W.cast (m' := m75) (l' := hown 36 1 v77 _ _ :: hown 36 1 v41 _ _ :: hcells b11 [_, _, _] 64 :: hownT 3 1 encI v27 _ :: hownT 29 1 encU v29 _ :: l) rfl rfl ?_
              refine W.e rfl rfl rfl rfl (by decide) (Ef.apR (pos := 1) (pos2 := 0) IF36 rfl hu76 rfl rfl Try.underlying44 rfl (.t rfl) (.t rfl) (by omega) (by omega)) ?_
              rintro v79 _ rfl
              refine ⟨.inl rfl, ?_⟩
              refine W.cast (m' := m75) (l' := hown 36 1 v77 _ _ :: hown 36 1 v79 _ _ :: hcells b11 [_, _, _] 64 :: hownT 3 1 encI v27 _ :: hownT 29 1 encU v29 _ :: l) rfl rfl ?_
              refine W.q rfl rfl rfl rfl (by decide) (Yd.as rfl (.t rfl)) ?_
              refine W.end ?_
              refine NX.sub (env' := [(8, _), (10, _), (45, _), (46, _), (47, _)]) ⟨rfl, rfl, rfl, rfl, rfl, trivial⟩ ?_
              refine NX.drop (l' := hown 36 1 v79 _ _ :: hcells b11 [_, _, _] 64 :: hownT 3 1 encI v27 _ :: hownT 29 1 encU v29 _ :: l) (.cons _ (.cons_cons _ (.cons_cons _ (.cons_cons _ (.cons_cons _ (.refl _)))))) ?_
              refine NX.block ?_
              refine NX.then ?_
              refine Tr.region_f (fun _ => false) ?_
              refine W.q rfl rfl rfl rfl (by decide) (Yd.add rfl (.t rfl) .c) ?_
              refine W.q rfl rfl rfl rfl (by decide) (Yd.mv rfl (.t rfl)) ?_
              refine W.end ?_
              refine NX.sub (env' := [(8, _), (10, _), (45, _), (46, _), (47, _)]) ⟨rfl, rfl, rfl, rfl, rfl, trivial⟩ ?_
              refine NX.sub (env' := [(8, _), (10, _), (45, _), (46, _), (47, _)]) ⟨rfl, rfl, rfl, rfl, rfl, trivial⟩ ?_
              have hw := w64_id (n := t_55 + 1) (by omega) (by omega)
              exact NX.again n58 (t_55 + 1, (l40 ++ [l71])) (Nat.lt_succ_self _) ⟨_, _, _, (hsm44.trans hsm75), (Rows.snoc hw43 hu76), (by rw [hw] <;> rfl), rfl, (fr_dec hnt_55), (by omega), ((hnx57 _).symm.trans hr)⟩
            refine Tr.block ?_
            refine Tr.sub (env' := [(8, _), (10, _), (13, _), (14, _), (45, _), (46, _), (47, _)]) ⟨rfl, rfl, rfl, rfl, rfl, rfl, rfl, trivial⟩ ?_
            refine Tr.loop (S := fun n (z : Int × (List Int)) env x => match z with | (k_68, l69) => ∃ v70 : Value, env = [(8, bp b11 0), (10, v41), (13, v70), (14, .int .i64 k_68), (45, v27), (46, .int .i64 ((l26.length : Int))), (47, .int .i64 t_55)] ∧ x = ⟨m44, hownT 3 1 encI v70 l69 :: hown 36 1 v41 l40.length us42 :: hcells b11 [v29, v27, .int .u32 (c25.toNat : Int)] 64 :: hownT 3 1 encI v27 l26 :: hownT 29 1 encU v29 l28 :: l⟩ ∧ whileK (σ := Int × (List Int)) (fun s nx_ => order_Split_b81 l26 l40 nx57 s.1 s.2 nx_) n (k_68, l69) = some r) _ (r63, ([t_55] : List Int)) ⟨_, rfl, rfl, hr⟩ ?_
            rintro n83 ⟨k_68, l69⟩ env x ⟨v70, rfl, rfl, hr⟩
            cases n83 with
            | zero => simp [whileK] at hr
            | succ n83 =>
              obtain ⟨nx82, hnx82, hr⟩ := whileK_succ hr
              try dsimp only at hr
              unfold order_Split_b81 at hr
              try dsimp only at hr
              refine Tr.seq ?_
              refine Tr.seq ?_
              refine Tr.region_f (fun _ => false) ?_
              refine W.q rfl rfl rfl rfl (by decide) (Yd.mv rfl (.t rfl)) ?_
              refine W.q rfl rfl rfl rfl (by decide) (Yd.geq rfl (.t rfl) .c) ?_
              refine W.end ?_
              refine NX.sub (env' := [(8, _), (10, _), (13, _), (14, _), (45, _), (46, _), (47, _), (63, _)]) ⟨rfl, rfl, rfl, rfl, rfl, rfl, rfl, rfl, trivial⟩ ?_
              refine NX.then ?_
              refine Tr.cond (.t rfl) (fun hb => ?_) (fun hb => ?_)
              · have hr := cond_t hb hr
                refine Tr.skip' ?_
                refine NX.then ?_
                refine Tr.seq ?_
                refine Tr.block ?_
                obtain ⟨hq87, hr⟩ := guard_some hr; replace hq87 := of_decide_eq_true hq87
                refine Tr.region_f (fun i => Nat.beq i 2 || Nat.beq i 3) ?_
                refine W.q rfl rfl rfl rfl (by decide) (Yd.mv rfl (.t rfl)) ?_
                refine W.q rfl rfl rfl rfl (by decide) (Yd.mv rfl (.t rfl)) ?_
                refine W.e rfl rfl rfl rfl (by decide) (Ef.bsT (enc := encI) (vs := [_]) (ys := [k_68]) (fun _ => rfl) IF3 rfl Try.underlying36 (by decide) rfl (.cons (.t rfl) .nil) rfl rfl (by decide)) ?_
                rintro v84 _ rfl
                refine ⟨.inl rfl, ?_⟩
                refine W.cast (m' := m44) (l' := hownT 3 1 encI v84 _ :: hownT 3 1 encI v70 _ :: hown 36 1 v41 _ _ :: hcells b11 [_, _, _] 64 :: hownT 3 1 encI v27 _ :: hownT 29 1 encU v29 _ :: l) rfl rfl ?_
                refine W.e rfl rfl rfl rfl (by decide) (Ef.apI (pos := 1) (enc := encI) (xs := l69) (ys := ([k_68] : List Int)) (fun _ => rfl) IF3 rfl rfl Try.underlying36 rfl (by decide) (.t rfl) (.t rfl) (Src.own (pos := 0) rfl) (fun _ => rfl) (by omega) (by omega)) ?_
                rintro v86 _ rfl
                refine ⟨.inl rfl, ?_⟩
                refine W.cast (m' := m44) (l' := hownT 3 1 encI v84 _ :: hownT 3 1 encI v86 _ :: hown 36 1 v41 _ _ :: hcells b11 [_, _, _] 64 :: hownT 3 1 encI v27 _ :: hownT 29 1 encU v29 _ :: l) rfl rfl ?_
                refine W.q rfl rfl rfl rfl (by decide) (Yd.as rfl (.t rfl)) ?_
                refine W.end ?_
                refine NX.sub (env' := [(8, _), (10, _), (13, _), (14, _), (45, _), (46, _), (47, _)]) ⟨rfl, rfl, rfl, rfl, rfl, rfl, rfl, trivial⟩ ?_
                refine NX.drop (l' := hownT 3 1 encI v86 _ :: hown 36 1 v41 _ _ :: hcells b11 [_, _, _] 64 :: hownT 3 1 encI v27 _ :: hownT 29 1 encU v29 _ :: l) (.cons _ (.cons_cons _ (.cons_cons _ (.cons_cons _ (.cons_cons _ (.cons_cons _ (.refl _))))))) ?_
                refine NX.block ?_
                refine NX.then ?_
                obtain ⟨r88, hr89, hr⟩ := bind_some hr
                refine Tr.region_f (fun _ => false) ?_
                refine W.q rfl rfl rfl rfl (by decide) (Yd.mv rfl (.t rfl)) ?_
                refine W.q rfl rfl rfl rfl (by decide) (Yd.nilc rfl (.t rfl)) ?_
                refine W.q rfl rfl rfl rfl (by decide) (Yd.fldB rfl Try.underlying64 rfl SZ36 rfl (.t rfl)) ?_
                refine W.q rfl rfl rfl rfl (by decide) (Yd.ldB (pos := 2) rfl rfl rfl ON36 (.t rfl)) ?_
                refine W.q rfl rfl rfl rfl (by decide) (Yd.mv rfl (.t rfl)) ?_
                refine W.q rfl rfl rfl rfl (by decide) (Yd.call (v := .int .i64 r88) rfl Try.func50 rfl rfl (.cons (.t rfl) (.cons (.t rfl) .nil)) (by intro x' hx w hw; obtain ⟨p0, hp0⟩ := hx.at (p := 3) rfl; obtain ⟨m2, hm2, hc2, ⟨L2, hl1, hl2⟩, hback⟩ := cX_lend hw hp0 lone_own; have hL1 : RS rI m2 _ _ := RS_of_own hl1 hl2; exact (slices_Index_Sintint_ok w0 m2 _ _ _ hL1 k_68 _ hr89 w hc2).mono fun e w' ⟨he, hc'⟩ => ⟨he, (hback m2 _ _ w' (.refl _) hp0).2 hc'⟩)) ?_
                refine W.q rfl rfl rfl rfl (by decide) (Yd.as rfl (.t rfl)) ?_
                refine W.end ?_
                refine NX.sub (env' := [(8, _), (10, _), (13, _), (14, _), (45, _), (46, _), (47, _)]) ⟨rfl, rfl, rfl, rfl, rfl, rfl, rfl, trivial⟩ ?_
                refine NX.sub (env' := [(8, _), (10, _), (13, _), (14, _), (45, _), (46, _), (47, _)]) ⟨rfl, rfl, rfl, rfl, rfl, rfl, rfl, trivial⟩ ?_
                exact NX.again n83 (r88, (l69 ++ ([k_68] : List Int))) (Nat.lt_succ_self _) ⟨_, rfl, rfl, ((hnx82 _).symm.trans hr)⟩
              · have hr := cond_f hb hr
                refine Tr.exit' (EX.then (EX.then (EX.block ?_)))
                refine NX.sub (env' := [(8, _), (10, _), (45, _), (46, _), (47, _), (13, _)]) ⟨rfl, rfl, rfl, rfl, rfl, rfl, trivial⟩ ?_
                exact hk74 _ _ ⟨_, _, rfl, rfl, hr⟩
    refine Tr.lenO (pos := 2) rfl (fun hlen90 => ?_)
    refine Tr.block ?_
    refine Tr.sub (env' := [(8, _), (31, _), (32, _)]) ⟨rfl, rfl, rfl, trivial⟩ ?_
    refine Tr.loop (S := fun n (z : Int × (BitVec 32) × (List Int) × (List (BitVec 32))) env x => match z with | (t_91, c20, l21, l23) => ∃ v22 : Value, ∃ v24 : Value, env = [(8, bp b11 0), (31, .int .i64 ((r1.1.length : Int))), (32, .int .i64 t_91)] ∧ x = ⟨m, hcells b11 [v24, v22, .int .u32 (c20.toNat : Int)] 64 :: hownT 3 1 encI v22 l21 :: hownT 29 1 encU v24 l23 :: l⟩ ∧ n = ((r1.1.length : Int) - t_91).toNat ∧ 0 ≤ t_91 ∧ forK (σ := (BitVec 32) × (List Int) × (List (BitVec 32))) (fun i s nx_ => order_Split_b92 fuel i s.1 s.2.1 s.2.2 nx_) (fun s => order_Split_k30 fuel s.1 s.2.1 s.2.2) n t_91 (c20, l21, l23) = some r) _ ((0 : Int), (0#32), r7, r1.1) ⟨_, _, rfl, rfl, rfl, (by omega), hr⟩ ?_
    rintro n94 ⟨t_91, c20, l21, l23⟩ env x ⟨v22, v24, rfl, rfl, hnt_91, h0t_91, hr⟩
    cases n94 with
    | zero =>
      simp only [forK] at hr
      refine Tr.seq ?_
      refine Tr.region_f (fun _ => false) ?_
      refine W.q rfl rfl rfl rfl (by decide) (Yd.lss rfl (.t rfl) (.t rfl)) ?_
      refine W.end ?_
      refine NX.sub (env' := [(8, _), (31, _), (32, _), (33, _)]) ⟨rfl, rfl, rfl, rfl, trivial⟩ ?_
      refine NX.then ?_
      refine Tr.seq ?_
      refine Tr.cond (.t rfl) (fun hb => ?_) (fun hb => ?_)
      · exact absurd (hb.symm.trans (fr_end hnt_91)) (by decide)
      ·
        refine Tr.exit' (EX.then (EX.then (EX.block ?_)))
        refine NX.sub (env' := [(8, _)]) ⟨rfl, trivial⟩ ?_
        exact hk31 _ _ ⟨_, _, _, _, _, rfl, rfl, hr⟩
    | succ n94 =>
      obtain ⟨nx93, hnx93, hr⟩ := forK_succ hr
      try dsimp only at hr
      unfold order_Split_b92 at hr
      try dsimp only at hr
      have hltt_91 := fr_bnd hnt_91
      refine Tr.seq ?_
      refine Tr.region_f (fun _ => false) ?_
      refine W.q rfl rfl rfl rfl (by decide) (Yd.lss rfl (.t rfl) (.t rfl)) ?_
      refine W.end ?_
      refine NX.sub (env' := [(8, _), (31, _), (32, _), (33, _)]) ⟨rfl, rfl, rfl, rfl, trivial⟩ ?_
      refine NX.then ?_
      refine Tr.seq ?_
      refine Tr.cond (.t rfl) (fun hb => ?_) (fun hb => ?_)
      rotate_left
      · exact absurd (hb.symm.trans (fr_go hnt_91)) (by decide)
      ·
        refine Tr.skip' ?_
        refine NX.then ?_
        refine Tr.seq ?_
        refine Tr.block ?_
        refine Tr.seq ?_
        refine Tr.region_f (fun _ => false) ?_
        refine W.q rfl rfl rfl rfl (by decide) (Yd.mv rfl (.t rfl)) ?_
        refine W.q rfl rfl rfl rfl (by decide) (Yd.as rfl (.t rfl)) ?_
        refine W.end ?_
        refine NX.sub (env' := [(8, _), (31, _), (32, _), (9, _)]) ⟨rfl, rfl, rfl, rfl, trivial⟩ ?_
        refine NX.then ?_
        refine Tr.seq ?_
        refine Tr.region_f (fun i => Nat.beq i 3) ?_
        refine W.q rfl rfl rfl rfl (by decide) (Yd.mv rfl (.t rfl)) ?_
        refine W.q rfl rfl rfl rfl (by decide) (Yd.nilc rfl (.t rfl)) ?_
        refine W.q rfl rfl rfl rfl (by decide) (Yd.fldB rfl Try.underlying64 rfl SZ29 rfl (.t rfl)) ?_
        refine W.s rfl rfl rfl rfl (Ef.stB (pos := 0) (us := [_]) (cs' := [_, _, _]) rfl rfl (.t rfl) .c SZ29 rfl rfl rfl (Nat.le_of_ble_eq_true rfl) rfl) ?_
        rintro _ _ ⟨rfl, rfl⟩
        refine ⟨.inl rfl, ?_⟩
        refine W.cast (m' := m) (l' := hcells b11 [_, _, _] 64 :: hownT 3 1 encI v22 _ :: hownT 29 1 encU v24 _ :: l) rfl rfl ?_
        refine W.end ?_
        refine NX.sub (env' := [(8, _), (31, _), (32, _), (9, _)]) ⟨rfl, rfl, rfl, rfl, trivial⟩ ?_
        refine NX.then ?_
        obtain ⟨r95, hr96, hr⟩ := bind_some hr
        refine Tr.region_f (fun i => Nat.beq i 2) ?_
        refine W.q rfl rfl rfl rfl (by decide) (Yd.mv rfl (.t rfl)) ?_
        refine W.q rfl rfl rfl rfl (by decide) (Yd.mv rfl (.t rfl)) ?_
        refine W.e rfl rfl rfl rfl (by decide) (Ef.call (R := fun z x' => ∃ v97 : Value, ∃ v98 : Value, z = .bool r95.1 ∧ x' = ⟨m, hcells b11 [v97, v98, .int .u32 (r95.2.seen.toNat : Int)] 64 :: hownT 29 1 encU v97 r95.2.up :: hownT 3 1 encI v98 r95.2.last :: l⟩) rfl Try.func49 rfl rfl (.cons (.t rfl) (.cons (.t rfl) .nil)) (by intro w hw; replace hw := cX_front (p := 1) hw rfl; replace hw := cX_front (p := 2) hw rfl; replace hw := cX_front (p := 2) hw rfl; exact (order_match_find_ok w0 _ _ fuel _ _ _ _ t_91 _ hr96 w hw).mono fun e w' ⟨v97, v98, he, hc'⟩ => ⟨_, _, he, ⟨v97, v98, rfl, rfl⟩, hc'⟩)) ?_
        rintro _ _ ⟨v97, v98, rfl, rfl⟩
        refine ⟨.inl rfl, ?_⟩
        refine W.cast (m' := m) (l' := hcells b11 [_, _, _] 64 :: hownT 29 1 encU v97 _ :: hownT 3 1 encI v98 _ :: l) rfl rfl ?_
        refine W.end ?_
        refine NX.sub (env' := [(8, _), (31, _), (32, _)]) ⟨rfl, rfl, rfl, trivial⟩ ?_
        refine NX.block ?_
        refine NX.then ?_
        refine Tr.region_f (fun _ => false) ?_
        refine W.q rfl rfl rfl rfl (by decide) (Yd.add rfl (.t rfl) .c) ?_
        refine W.q rfl rfl rfl rfl (by decide) (Yd.mv rfl (.t rfl)) ?_
        refine W.end ?_
        refine NX.sub (env' := [(8, _), (31, _), (32, _)]) ⟨rfl, rfl, rfl, trivial⟩ ?_
        refine NX.sub (env' := [(8, _), (31, _), (32, _)]) ⟨rfl, rfl, rfl, trivial⟩ ?_
        refine NX.imp (fun w hw => cX_front (p := 1) hw rfl) ?_
        refine NX.imp (fun w hw => cX_front (p := 2) hw rfl) ?_
        refine NX.imp (fun w hw => cX_front (p := 2) hw rfl) ?_
        refine NX.cast (m' := m) (l' := hcells b11 [_, _, _] 64 :: hownT 3 1 encI v98 _ :: hownT 29 1 encU v97 _ :: l) rfl rfl ?_
        have hw := w64_id (n := t_91 + 1) (by omega) (by omega)
        exact NX.again n94 (t_91 + 1, r95.2.seen, r95.2.last, r95.2.up) (Nat.lt_succ_self _) ⟨_, _, (by rw [hw] <;> rfl), rfl, (fr_dec hnt_91), (by omega), ((hnx93 _).symm.trans hr)⟩

def syllogistlaw_OrderSplits_k20 (n_0 : Int) (pairs_1 : List (Int × Int)) (fuel : Nat) (r1 : (List (List Int)) × Int) (many_17 : Int) : Option (Bool) :=
  bif (!((r1.2 == (0 : Int)) == true) || (syllogistref_Widest fuel n_0 pairs_1).isSome) then
  bif (!((r1.2 == (0 : Int)) == true) || (syllogistref_Size ((((syllogistref_Widest fuel n_0 pairs_1).getD (0#32))))).isSome) then
  some ((((r1.2 == (0 : Int)) && ((r1.1.length : Int) == (((syllogistref_Size ((((syllogistref_Widest fuel n_0 pairs_1).getD (0#32))))).getD (0 : Int))))) && (many_17 == n_0))) else none else none

def syllogistlaw_OrderSplits_k45 (nx27 : ((Int × (List Int)) → Option (Bool))) (many_42 : Int) (l43 : List Int) : Option (Bool) :=
  nx27 (many_42, l43)

def syllogistlaw_OrderSplits_b49 (n_0 : Int) (pairs_1 : List (Int × Int)) (fuel : Nat) (y29 : (List Int)) (t_48 : Int) (many_38 : Int) (l40 : List Int) (nx50 : (Int × (List Int)) → Option (Bool)) : Option (Bool) :=
  (geti y29 t_48).bind fun y52 =>
  bif (!(((decide (y52 < (0 : Int))) || (decide (y52 ≥ n_0))) == false) || (syllogistref_Has l40 y52).isSome) then
  bif (!(((((decide (y52 < (0 : Int))) || (decide (y52 ≥ n_0))) || (((syllogistref_Has l40 y52).getD false))) == false) && ((decide (t_48 > (0 : Int))) == true)) || (geti y29 ((w64 (t_48 - (1 : Int))))).isSome) then
  bif (!(((((decide (y52 < (0 : Int))) || (decide (y52 ≥ n_0))) || (((syllogistref_Has l40 y52).getD false))) == false) && ((decide (t_48 > (0 : Int))) == true)) || (syllogistref_Under fuel n_0 pairs_1 (((geti y29 ((w64 (t_48 - (1 : Int))))).getD (0 : Int))) y52).isSome) then
  (bif ((((decide (y52 < (0 : Int))) || (decide (y52 ≥ n_0))) || (((syllogistref_Has l40 y52).getD false))) || ((decide (t_48 > (0 : Int))) && (!(((syllogistref_Under fuel n_0 pairs_1 (((geti y29 ((w64 (t_48 - (1 : Int))))).getD (0 : Int))) y52).getD false))))) then
  some false
  else
  bif decide (l40.length + (([y52] : List Int)).length ≤ 17592186044416) then
  nx50 ((w64 (many_38 + (1 : Int))), (l40 ++ ([y52] : List Int))) else none) else none else none else none

def syllogistlaw_OrderSplits_b26 (n_0 : Int) (pairs_1 : List (Int × Int)) (fuel : Nat) (r1 : (List (List Int)) × Int) (t_25 : Int) (many_13 : Int) (l15 : List Int) (nx27 : (Int × (List Int)) → Option (Bool)) : Option (Bool) :=
  (geti r1.1 t_25).bind fun y29 =>
  (bif ((y29.length : Int) == (0 : Int)) then
  some false
  else
  forK (σ := Int × (List Int)) (fun i s nx_ => syllogistlaw_OrderSplits_b49 n_0 pairs_1 fuel y29 i s.1 s.2 nx_) (fun s => syllogistlaw_OrderSplits_k45 nx27 s.1 s.2) ((y29.length : Int) - (0 : Int)).toNat (0 : Int) (many_13, l15))

def syllogistlaw_OrderSplits (fuel : Nat) (n_0 : Int) (pairs_1 : List (Int × Int)) : Option (Bool) :=
  (order_Split fuel n_0 pairs_1).bind fun r1 =>
  (syllogistref_OrderCheck fuel n_0 pairs_1).bind fun r6 =>
  (bif (r6 != (0 : Int)) then
  some (((r1.2 == r6) && ((r1.1.length : Int) == (0 : Int))))
  else
  forK (σ := Int × (List Int)) (fun i s nx_ => syllogistlaw_OrderSplits_b26 n_0 pairs_1 fuel r1 i s.1 s.2 nx_) (fun s => syllogistlaw_OrderSplits_k20 n_0 pairs_1 fuel r1 s.1) ((r1.1.length : Int) - (0 : Int)).toNat (0 : Int) (((0 : Int)), (([] : List Int))))

set_option maxRecDepth 100000 in
set_option maxHeartbeats 4000000 in
theorem syllogistlaw_OrderSplits_ok (w0 : World) (m : Snap) (l : List HI) (fuel : Nat) (n_0 : Int) (upairs_1 : Value) (pairs_1 : List (Int × Int)) (hpairs_1 : RS rP m upairs_1 pairs_1) (r : Bool) (hr : syllogistlaw_OrderSplits fuel n_0 pairs_1 = some r) (w : World) (hc : cX w0 ⟨m, l⟩ w) :
    Calls Try.prog 8 [.int .i64 n_0, upairs_1].toArray w fun e w' => e = .returned (.bool r) ∧ cX w0 ⟨m, l⟩ w' := by
  unfold syllogistlaw_OrderSplits at hr
  refine calls_of_Tr (N := 101) Try.func8 rfl hc rfl (Nat.le_of_ble_eq_true rfl) ?_
  refine Tr.seq ?_
  refine Tr.region_f (fun _ => false) ?_
  refine W.q rfl rfl rfl rfl (by decide) (Yd.as rfl .c) ?_
  refine W.end ?_
  refine NX.sub (env' := [(0, _), (1, _)]) ⟨rfl, rfl, trivial⟩ ?_
  refine NX.then ?_
  refine Tr.seq ?_
  obtain ⟨r1, hr2, hr⟩ := bind_some hr
  refine Tr.region_f (fun i => Nat.beq i 2) ?_
  refine W.q rfl rfl rfl rfl (by decide) (Yd.mv rfl (.t rfl)) ?_
  refine W.q rfl rfl rfl rfl (by decide) (Yd.mv rfl (.t rfl)) ?_
  refine W.e rfl rfl rfl rfl (by decide) (Ef.call (R := fun z x' => ∃ u3 : Value, ∃ m4 : Snap, z = .tuple #[u3, .int .i64 r1.2] ∧ x' = ⟨m4, l⟩ ∧ Sle m m4 ∧ RS (Rp.slice rI) m4 u3 r1.1) rfl Try.func29 rfl rfl (.cons (.t rfl) (.cons (.t rfl) .nil)) (fun w hw => (order_Split_ok w0 _ _ fuel n_0 _ _ hpairs_1 _ hr2 w hw).mono fun e w' ⟨u3, m4, he, hm', hu5, hc'⟩ => ⟨_, _, he, ⟨u3, m4, rfl, rfl, hm', hu5⟩, hc'⟩)) ?_
  rintro _ _ ⟨u3, m4, rfl, rfl, hsm4, hu5⟩
  have hpairs_1 := hpairs_1.mono hsm4
  refine ⟨.inl rfl, ?_⟩
  refine W.cast (m' := m4) (l' := l) rfl rfl ?_
  refine W.q rfl rfl rfl rfl (by decide) (Yd.mv rfl (.t rfl)) ?_
  refine W.q rfl rfl rfl rfl (by decide) (Yd.ext rfl (.t rfl) rfl) ?_
  refine W.q rfl rfl rfl rfl (by decide) (Yd.ext rfl (.t rfl) rfl) ?_
  refine W.q rfl rfl rfl rfl (by decide) (Yd.as rfl (.t rfl)) ?_
  refine W.q rfl rfl rfl rfl (by decide) (Yd.as rfl (.t rfl)) ?_
  refine W.end ?_
  refine NX.sub (env' := [(0, _), (1, _), (5, _), (6, _)]) ⟨rfl, rfl, rfl, rfl, trivial⟩ ?_
  refine NX.then ?_
  refine Tr.seq ?_
  obtain ⟨r6, hr7, hr⟩ := bind_some hr
  refine Tr.region_f (fun _ => false) ?_
  refine W.q rfl rfl rfl rfl (by decide) (Yd.mv rfl (.t rfl)) ?_
  refine W.q rfl rfl rfl rfl (by decide) (Yd.mv rfl (.t rfl)) ?_
  refine W.q rfl rfl rfl rfl (by decide) (Yd.call (v := .int .i64 r6) rfl Try.func16 rfl rfl (.cons (.t rfl) (.cons (.t rfl) .nil)) (fun x' hx w hw => syllogistref_OrderCheck_ok w0 x'.m x'.l fuel n_0 _ _ (hpairs_1.mono hx.1) _ hr7 w hw)) ?_
  refine W.q rfl rfl rfl rfl (by decide) (Yd.as rfl (.t rfl)) ?_
  refine W.end ?_
  refine NX.sub (env' := [(0, _), (1, _), (5, _), (6, _), (7, _)]) ⟨rfl, rfl, rfl, rfl, rfl, trivial⟩ ?_
  refine NX.then ?_
  refine Tr.seq ?_
  refine Tr.seq ?_
  refine Tr.region_f (fun _ => false) ?_
  refine W.q rfl rfl rfl rfl (by decide) (Yd.mv rfl (.t rfl)) ?_
  refine W.q rfl rfl rfl rfl (by decide) (Yd.neq rfl (.t rfl) .c) ?_
  refine W.end ?_
  refine NX.sub (env' := [(0, _), (1, _), (5, _), (6, _), (7, _), (24, _)]) ⟨rfl, rfl, rfl, rfl, rfl, rfl, trivial⟩ ?_
  refine NX.then ?_
  refine Tr.cond (.t rfl) (fun hb => ?_) (fun hb => ?_)
  · have hr := cond_t hb hr
    refine Tr.seq ?_
    refine Tr.region_f (fun _ => false) ?_
    refine W.q rfl rfl rfl rfl (by decide) (Yd.mv rfl (.t rfl)) ?_
    refine W.q rfl rfl rfl rfl (by decide) (Yd.mv rfl (.t rfl)) ?_
    refine W.q rfl rfl rfl rfl (by decide) (Yd.eql rfl (.t rfl) (.t rfl)) ?_
    refine W.q rfl rfl rfl rfl (by decide) (Yd.mv rfl (.t rfl)) ?_
    refine W.g rfl rfl rfl rfl rfl (.t rfl _) rfl (by decide) (fun hG => Yd.mv rfl (.t rfl)) ?_
    refine W.g rfl rfl rfl rfl rfl (.t rfl _) rfl (by decide) (fun hG => Yd.lenR hu5 rfl Try.underlying44 (.g rfl hG)) ?_
    refine W.g rfl rfl rfl rfl rfl (.t rfl _) rfl (by decide) (fun hG => Yd.eql rfl (.g rfl hG) .c) ?_
    refine W.q rfl rfl rfl rfl (by decide) (Yd.and rfl (.t rfl) .c rfl rfl) ?_
    refine W.q rfl rfl rfl rfl (by decide) (Yd.as rfl (.t rfl)) ?_
    refine W.end ?_
    refine NX.sub (env' := [(4, _)]) ⟨rfl, trivial⟩ ?_
    refine NX.then ?_
    refine Tr.ret' (RT.then ?_)
    refine res1 rfl rfl ?_
    intro w hc
    cases hr
    exact ⟨rfl, (cX_le (x := ⟨m, _⟩) ⟨hsm4, [], rfl⟩ hc)⟩
  · have hr := cond_f hb hr
    refine Tr.skip' ?_
    refine NX.then ?_
    refine Tr.seq ?_
    refine Tr.region_f (fun _ => false) ?_
    refine W.q rfl rfl rfl rfl (by decide) (Yd.as rfl .c) ?_
    refine W.end ?_
    refine NX.sub (env' := [(0, _), (1, _), (5, _), (6, _), (8, _)]) ⟨rfl, rfl, rfl, rfl, rfl, trivial⟩ ?_
    refine NX.then ?_
    refine Tr.seq ?_
    refine Tr.region_f (fun _ => false) ?_
    refine W.q rfl rfl rfl rfl (by decide) (Yd.as rfl .c) ?_
    refine W.end ?_
    refine NX.sub (env' := [(0, _), (1, _), (5, _), (6, _), (8, _), (9, _)]) ⟨rfl, rfl, rfl, rfl, rfl, rfl, trivial⟩ ?_
    refine NX.then ?_
    refine Tr.seq ?_
    refine Tr.seq ?_
    refine Tr.region_f (fun _ => false) ?_
    refine W.q rfl rfl rfl rfl (by decide) (Yd.mv rfl (.t rfl)) ?_
    refine W.q rfl rfl rfl rfl (by decide) (Yd.lenR hu5 rfl Try.underlying44 (.t rfl)) ?_
    refine W.q rfl rfl rfl rfl (by decide) (Yd.mv rfl .c) ?_
    refine W.end ?_
    refine NX.sub (env' := [(0, _), (1, _), (5, _), (6, _), (8, _), (9, _), (33, _), (34, _), (35, _)]) ⟨rfl, rfl, rfl, rfl, rfl, rfl, rfl, rfl, rfl, trivial⟩ ?_
    refine NX.then ?_
    refine Tr.addnil 3 1 ?_
    refine Tr.join (S := fun env x => ∃ many_17 : Int, env = [(0, .int .i64 n_0), (1, upairs_1), (5, u3), (6, .int .i64 r1.2), (8, .int .i64 many_17)] ∧ x = ⟨m4, l⟩ ∧ syllogistlaw_OrderSplits_k20 n_0 pairs_1 fuel r1 many_17 = some r) ?_ (fun hk21 => ?_)
    · rintro _ _ ⟨many_17, rfl, rfl, hr⟩
      unfold syllogistlaw_OrderSplits_k20 at hr
      try dsimp only at hr
      refine NX.then ?_
      refine Tr.seq ?_
      obtain ⟨ha22, hr⟩ := guard_some hr
      obtain ⟨ha23, hr⟩ := guard_some hr
      refine Tr.region_f (fun _ => false) ?_
      refine W.q rfl rfl rfl rfl (by decide) (Yd.mv rfl (.t rfl)) ?_
      refine W.q rfl rfl rfl rfl (by decide) (Yd.eql rfl (.t rfl) .c) ?_
      refine W.q rfl rfl rfl rfl (by decide) (Yd.mv rfl (.t rfl)) ?_
      refine W.g rfl rfl rfl rfl rfl (.t rfl _) rfl (by decide) (fun hG => Yd.mv rfl (.t rfl)) ?_
      refine W.g rfl rfl rfl rfl rfl (.t rfl _) rfl (by decide) (fun hG => Yd.lenR hu5 rfl Try.underlying44 (.g rfl hG)) ?_
      refine W.g rfl rfl rfl rfl rfl (.t rfl _) rfl (by decide) (fun hG => Yd.mv rfl (.t rfl)) ?_
      refine W.g rfl rfl rfl rfl rfl (.t rfl _) rfl (by decide) (fun hG => Yd.mv rfl (.t rfl)) ?_
      refine W.g rfl rfl rfl rfl rfl (.t rfl _) rfl (by decide) (fun hG => Yd.call (v := .int .u32 (((((syllogistref_Widest fuel n_0 pairs_1).getD (0#32)))).toNat : Int)) rfl Try.func26 rfl rfl (.cons (.g rfl hG) (.cons (.g rfl hG) .nil)) (fun x' hx w hw => syllogistref_Widest_ok w0 x'.m x'.l fuel n_0 _ _ (hpairs_1.mono hx.1) _ (gd_get (d := (0#32)) ha22 hG) w hw)) ?_
      refine W.g rfl rfl rfl rfl rfl (.t rfl _) rfl (by decide) (fun hG => Yd.call (v := .int .i64 ((((syllogistref_Size ((((syllogistref_Widest fuel n_0 pairs_1).getD (0#32))))).getD (0 : Int))))) rfl Try.func31 rfl rfl (.cons (.g rfl hG) .nil) (fun x' hx w hw => syllogistref_Size_ok w0 x'.m x'.l ((((syllogistref_Widest fuel n_0 pairs_1).getD (0#32)))) _ (gd_get (d := (0 : Int)) ha23 hG) w hw)) ?_
      refine W.g rfl rfl rfl rfl rfl (.t rfl _) rfl (by decide) (fun hG => Yd.eql rfl (.g rfl hG) (.g rfl hG)) ?_
      refine W.q rfl rfl rfl rfl (by decide) (Yd.and rfl (.t rfl) .c rfl rfl) ?_
      refine W.q rfl rfl rfl rfl (by decide) (Yd.mv rfl (.t rfl)) ?_
      refine W.g rfl rfl rfl rfl rfl (.t rfl _) rfl (by decide) (fun hG => Yd.mv rfl (.t rfl)) ?_
      refine W.g rfl rfl rfl rfl rfl (.t rfl _) rfl (by decide) (fun hG => Yd.mv rfl (.t rfl)) ?_
      refine W.g rfl rfl rfl rfl rfl (.t rfl _) rfl (by decide) (fun hG => Yd.eql rfl (.g rfl hG) (.g rfl hG)) ?_
      refine W.q rfl rfl rfl rfl (by decide) (Yd.and rfl (.t rfl) .c rfl rfl) ?_
      refine W.q rfl rfl rfl rfl (by decide) (Yd.as rfl (.t rfl)) ?_
      refine W.end ?_
      refine NX.sub (env' := [(4, _)]) ⟨rfl, trivial⟩ ?_
      refine NX.then ?_
      refine Tr.ret' ?_
      refine res1 rfl rfl ?_
      intro w hc
      cases hr
      exact ⟨rfl, (cX_le (x := ⟨m, _⟩) ⟨hsm4, [], rfl⟩ hc)⟩
    have hlen24 := (hu5).2.1
    refine Tr.block ?_
    refine Tr.sub (env' := [(0, _), (1, _), (5, _), (6, _), (8, _), (9, _), (33, _), (34, _), (35, _)]) ⟨rfl, rfl, rfl, rfl, rfl, rfl, rfl, rfl, rfl, trivial⟩ ?_
    refine Tr.loop (S := fun n (z : Int × Int × (List Int)) env x => match z with | (t_25, many_13, l15) => ∃ v16 : Value, env = [(0, .int .i64 n_0), (1, upairs_1), (5, u3), (6, .int .i64 r1.2), (8, .int .i64 many_13), (9, v16), (33, u3), (34, .int .i64 ((r1.1.length : Int))), (35, .int .i64 t_25)] ∧ x = ⟨m4, hownT 3 1 encI v16 l15 :: l⟩ ∧ n = ((r1.1.length : Int) - t_25).toNat ∧ 0 ≤ t_25 ∧ forK (σ := Int × (List Int)) (fun i s nx_ => syllogistlaw_OrderSplits_b26 n_0 pairs_1 fuel r1 i s.1 s.2 nx_) (fun s => syllogistlaw_OrderSplits_k20 n_0 pairs_1 fuel r1 s.1) n t_25 (many_13, l15) = some r) _ ((0 : Int), (0 : Int), ([] : List Int)) ⟨_, rfl, rfl, rfl, (by omega), hr⟩ ?_
    rintro n28 ⟨t_25, many_13, l15⟩ env x ⟨v16, rfl, rfl, hnt_25, h0t_25, hr⟩
    cases n28 with
    | zero =>
      simp only [forK] at hr
      refine Tr.seq ?_
      refine Tr.region_f (fun _ => false) ?_
      refine W.q rfl rfl rfl rfl (by decide) (Yd.lss rfl (.t rfl) (.t rfl)) ?_
      refine W.end ?_
      refine NX.sub (env' := [(0, _), (1, _), (5, _), (6, _), (8, _), (9, _), (33, _), (34, _), (35, _), (36, _)]) ⟨rfl, rfl, rfl, rfl, rfl, rfl, rfl, rfl, rfl, rfl, trivial⟩ ?_
      refine NX.then ?_
      refine Tr.seq ?_
      refine Tr.cond (.t rfl) (fun hb => ?_) (fun hb => ?_)
      · exact absurd (hb.symm.trans (fr_end hnt_25)) (by decide)
      ·
        refine Tr.exit' (EX.then (EX.then (EX.block ?_)))
        refine NX.sub (env' := [(0, _), (1, _), (5, _), (6, _), (8, _)]) ⟨rfl, rfl, rfl, rfl, rfl, trivial⟩ ?_
        refine NX.drop (l' := l) (.cons _ (.refl _)) ?_
        exact hk21 _ _ ⟨_, rfl, rfl, hr⟩
    | succ n28 =>
      obtain ⟨nx27, hnx27, hr⟩ := forK_succ hr
      try dsimp only at hr
      unfold syllogistlaw_OrderSplits_b26 at hr
      try dsimp only at hr
      have hltt_25 := fr_bnd hnt_25
      refine Tr.seq ?_
      refine Tr.region_f (fun _ => false) ?_
      refine W.q rfl rfl rfl rfl (by decide) (Yd.lss rfl (.t rfl) (.t rfl)) ?_
      refine W.end ?_
      refine NX.sub (env' := [(0, _), (1, _), (5, _), (6, _), (8, _), (9, _), (33, _), (34, _), (35, _), (36, _)]) ⟨rfl, rfl, rfl, rfl, rfl, rfl, rfl, rfl, rfl, rfl, trivial⟩ ?_
      refine NX.then ?_
      refine Tr.seq ?_
      refine Tr.cond (.t rfl) (fun hb => ?_) (fun hb => ?_)
      rotate_left
      · exact absurd (hb.symm.trans (fr_go hnt_25)) (by decide)
      ·
        refine Tr.skip' ?_
        refine NX.then ?_
        refine Tr.seq ?_
        refine Tr.block ?_
        refine Tr.seq ?_
        obtain ⟨y29, hy30, hr⟩ := bind_some hr
        refine Tr.region_f (fun _ => false) ?_
        refine W.q rfl rfl rfl rfl (by decide) (Yd.idxR hu5 hy30 rfl Try.underlying44 SZ36 (.t rfl) (.t rfl)) ?_
        obtain ⟨u31, hu32, hat33⟩ := hu5.row hy30
        refine W.q rfl rfl rfl rfl (by decide) (Yd.ldRow hat33 (.refl _) rfl ON36 (.t rfl)) ?_
        refine W.q rfl rfl rfl rfl (by decide) (Yd.as rfl (.t rfl)) ?_
        refine W.end ?_
        refine NX.sub (env' := [(0, _), (1, _), (5, _), (6, _), (8, _), (9, _), (33, _), (34, _), (35, _), (11, _)]) ⟨rfl, rfl, rfl, rfl, rfl, rfl, rfl, rfl, rfl, rfl, trivial⟩ ?_
        refine NX.then ?_
        refine Tr.seq ?_
        refine Tr.seq ?_
        refine Tr.region_f (fun _ => false) ?_
        refine W.q rfl rfl rfl rfl (by decide) (Yd.mv rfl (.t rfl)) ?_
        refine W.q rfl rfl rfl rfl (by decide) (Yd.lenR hu32 rfl Try.underlying36 (.t rfl)) ?_
        refine W.q rfl rfl rfl rfl (by decide) (Yd.eql rfl (.t rfl) .c) ?_
        refine W.end ?_
        refine NX.sub (env' := [(0, _), (1, _), (5, _), (6, _), (8, _), (9, _), (33, _), (34, _), (35, _), (11, _), (41, _)]) ⟨rfl, rfl, rfl, rfl, rfl, rfl, rfl, rfl, rfl, rfl, rfl, trivial⟩ ?_
        refine NX.then ?_
        refine Tr.cond (.t rfl) (fun hb => ?_) (fun hb => ?_)
        · have hr := cond_t hb hr
          refine Tr.seq ?_
          refine Tr.region_f (fun _ => false) ?_
          refine W.q rfl rfl rfl rfl (by decide) (Yd.as rfl .c) ?_
          refine W.end ?_
          refine NX.sub (env' := [(4, _)]) ⟨rfl, trivial⟩ ?_
          refine NX.drop (l' := l) (.cons _ (.refl _)) ?_
          refine NX.then ?_
          refine Tr.ret' (RT.then (RT.block (RT.then (RT.then (RT.block (RT.then ?_))))))
          refine res1 rfl rfl ?_
          intro w hc
          cases hr
          exact ⟨rfl, (cX_le (x := ⟨m, _⟩) ⟨hsm4, [], rfl⟩ hc)⟩
        · have hr := cond_f hb hr
          refine Tr.skip' ?_
          refine NX.then ?_
          refine Tr.seq ?_
          refine Tr.region_f (fun _ => false) ?_
          refine W.q rfl rfl rfl rfl (by decide) (Yd.mv rfl (.t rfl)) ?_
          refine W.q rfl rfl rfl rfl (by decide) (Yd.lenR hu32 rfl Try.underlying36 (.t rfl)) ?_
          refine W.q rfl rfl rfl rfl (by decide) (Yd.mv rfl .c) ?_
          refine W.end ?_
          refine NX.sub (env' := [(0, _), (1, _), (5, _), (6, _), (8, _), (9, _), (33, _), (34, _), (35, _), (11, _), (42, _), (43, _), (44, _)]) ⟨rfl, rfl, rfl, rfl, rfl, rfl, rfl, rfl, rfl, rfl, rfl, rfl, rfl, trivial⟩ ?_
          refine NX.then ?_
          refine Tr.join (S := fun env x => ∃ many_42 : Int, ∃ l43 : List Int, ∃ v44 : Value, env = [(0, .int .i64 n_0), (1, upairs_1), (5, u3), (6, .int .i64 r1.2), (8, .int .i64 many_42), (9, v44), (33, u3), (34, .int .i64 ((r1.1.length : Int))), (35, .int .i64 t_25)] ∧ x = ⟨m4, hownT 3 1 encI v44 l43 :: l⟩ ∧ syllogistlaw_OrderSplits_k45 nx27 many_42 l43 = some r) ?_ (fun hk46 => ?_)
          · rintro _ _ ⟨many_42, l43, v44, rfl, rfl, hr⟩
            unfold syllogistlaw_OrderSplits_k45 at hr
            try dsimp only at hr
            refine NX.block ?_
            refine NX.then ?_
            refine Tr.region_f (fun _ => false) ?_
            refine W.q rfl rfl rfl rfl (by decide) (Yd.add rfl (.t rfl) .c) ?_
            refine W.q rfl rfl rfl rfl (by decide) (Yd.mv rfl (.t rfl)) ?_
            refine W.end ?_
            refine NX.sub (env' := [(0, _), (1, _), (5, _), (6, _), (8, _), (9, _), (33, _), (34, _), (35, _)]) ⟨rfl, rfl, rfl, rfl, rfl, rfl, rfl, rfl, rfl, trivial⟩ ?_
            refine NX.sub (env' := [(0, _), (1, _), (5, _), (6, _), (8, _), (9, _), (33, _), (34, _), (35, _)]) ⟨rfl, rfl, rfl, rfl, rfl, rfl, rfl, rfl, rfl, trivial⟩ ?_
            have hw := w64_id (n := t_25 + 1) (by omega) (by omega)
            exact NX.again n28 (t_25 + 1, many_42, l43) (Nat.lt_succ_self _) ⟨_, (by rw [hw] <;> rfl), rfl, (fr_dec hnt_25), (by omega), ((hnx27 _).symm.trans hr)⟩
          have hlen47 := (hu32).2.1
          refine Tr.block ?_
          refine Tr.sub (env' := [(0, _), (1, _), (5, _), (6, _), (8, _), (9, _), (11, _), (33, _), (34, _), (35, _), (42, _), (43, _), (44, _)]) ⟨rfl, rfl, rfl, rfl, rfl, rfl, rfl, rfl, rfl, rfl, rfl, rfl, rfl, trivial⟩ ?_
          refine Tr.loop (S := fun n (z : Int × Int × (List Int)) env x => match z with | (t_48, many_38, l40) => ∃ v41 : Value, env = [(0, .int .i64 n_0), (1, upairs_1), (5, u3), (6, .int .i64 r1.2), (8, .int .i64 many_38), (9, v41), (11, u31), (33, u3), (34, .int .i64 ((r1.1.length : Int))), (35, .int .i64 t_25), (42, u31), (43, .int .i64 ((y29.length : Int))), (44, .int .i64 t_48)] ∧ x = ⟨m4, hownT 3 1 encI v41 l40 :: l⟩ ∧ n = ((y29.length : Int) - t_48).toNat ∧ 0 ≤ t_48 ∧ forK (σ := Int × (List Int)) (fun i s nx_ => syllogistlaw_OrderSplits_b49 n_0 pairs_1 fuel y29 i s.1 s.2 nx_) (fun s => syllogistlaw_OrderSplits_k45 nx27 s.1 s.2) n t_48 (many_38, l40) = some r) _ ((0 : Int), many_13, l15) ⟨_, rfl, rfl, rfl, (by omega), hr⟩ ?_
          rintro n51 ⟨t_48, many_38, l40⟩ env x ⟨v41, rfl, rfl, hnt_48, h0t_48, hr⟩
          cases n51 with
          | zero =>
            simp only [forK] at hr
            refine Tr.seq ?_
            refine Tr.region_f (fun _ => false) ?_
            refine W.q rfl rfl rfl rfl (by decide) (Yd.lss rfl (.t rfl) (.t rfl)) ?_
            refine W.end ?_
            refine NX.sub (env' := [(0, _), (1, _), (5, _), (6, _), (8, _), (9, _), (11, _), (33, _), (34, _), (35, _), (42, _), (43, _), (44, _), (45, _)]) ⟨rfl, rfl, rfl, rfl, rfl, rfl, rfl, rfl, rfl, rfl, rfl, rfl, rfl, rfl, trivial⟩ ?_
            refine NX.then ?_
            refine Tr.seq ?_
            refine Tr.cond (.t rfl) (fun hb => ?_) (fun hb => ?_)
            · exact absurd (hb.symm.trans (fr_end hnt_48)) (by decide)
            ·
              refine Tr.exit' (EX.then (EX.then (EX.block ?_)))
              refine NX.sub (env' := [(0, _), (1, _), (5, _), (6, _), (8, _), (9, _), (33, _), (34, _), (35, _)]) ⟨rfl, rfl, rfl, rfl, rfl, rfl, rfl, rfl, rfl, trivial⟩ ?_
              exact hk46 _ _ ⟨_, _, _, rfl, rfl, hr⟩
          | succ n51 =>
            obtain ⟨nx50, hnx50, hr⟩ := forK_succ hr
            try dsimp only at hr
            unfold syllogistlaw_OrderSplits_b49 at hr
            try dsimp only at hr
            have hltt_48 := fr_bnd hnt_48
            refine Tr.seq ?_
            refine Tr.region_f (fun _ => false) ?_
            refine W.q rfl rfl rfl rfl (by decide) (Yd.lss rfl (.t rfl) (.t rfl)) ?_
            refine W.end ?_
            refine NX.sub (env' := [(0, _), (1, _), (5, _), (6, _), (8, _), (9, _), (11, _), (33, _), (34, _), (35, _), (42, _), (43, _), (44, _), (45, _)]) ⟨rfl, rfl, rfl, rfl, rfl, rfl, rfl, rfl, rfl, rfl, rfl, rfl, rfl, rfl, trivial⟩ ?_
            refine NX.then ?_
            refine Tr.seq ?_
            refine Tr.cond (.t rfl) (fun hb => ?_) (fun hb => ?_)
            rotate_left
            · exact absurd (hb.symm.trans (fr_go hnt_48)) (by decide)
            ·
              refine Tr.skip' ?_
              refine NX.then ?_
              refine Tr.seq ?_
              refine Tr.block ?_
              refine Tr.seq ?_
              obtain ⟨y52, hy53, hr⟩ := bind_some hr
              refine Tr.region_f (fun _ => false) ?_
              refine W.q rfl rfl rfl rfl (by decide) (Yd.mv rfl (.t rfl)) ?_
              refine W.q rfl rfl rfl rfl (by decide) (Yd.idxR hu32 hy53 rfl Try.underlying36 SZ3 (.t rfl) (.t rfl)) ?_
              refine W.q rfl rfl rfl rfl (by decide) (Yd.ldF hu32 (.refl _) hy53 rfl rfl ON3 (.t rfl)) ?_
              refine W.q rfl rfl rfl rfl (by decide) (Yd.as rfl (.t rfl)) ?_
              refine W.q rfl rfl rfl rfl (by decide) (Yd.as rfl (.t rfl)) ?_
              refine W.end ?_
              refine NX.sub (env' := [(0, _), (1, _), (5, _), (6, _), (8, _), (9, _), (11, _), (33, _), (34, _), (35, _), (42, _), (43, _), (44, _), (12, _), (13, _)]) ⟨rfl, rfl, rfl, rfl, rfl, rfl, rfl, rfl, rfl, rfl, rfl, rfl, rfl, rfl, rfl, trivial⟩ ?_
              refine NX.then ?_
              refine Tr.seq ?_
              refine Tr.seq ?_
              obtain ⟨ha54, hr⟩ := guard_some hr
              obtain ⟨ha55, hr⟩ := guard_some hr
              obtain ⟨ha56, hr⟩ := guard_some hr
              refine Tr.region_f (fun _ => false) ?_
              refine W.q rfl rfl rfl rfl (by decide) (Yd.mv rfl (.t rfl)) ?_
              refine W.q rfl rfl rfl rfl (by decide) (Yd.lss rfl (.t rfl) .c) ?_
              refine W.q rfl rfl rfl rfl (by decide) (Yd.mv rfl (.t rfl)) ?_
              refine W.g rfl rfl rfl rfl rfl (.t rfl _) rfl (by decide) (fun hG => Yd.mv rfl (.t rfl)) ?_
              refine W.g rfl rfl rfl rfl rfl (.t rfl _) rfl (by decide) (fun hG => Yd.mv rfl (.t rfl)) ?_
              refine W.g rfl rfl rfl rfl rfl (.t rfl _) rfl (by decide) (fun hG => Yd.geq rfl (.g rfl hG) (.g rfl hG)) ?_
              refine W.q rfl rfl rfl rfl (by decide) (Yd.or rfl (.t rfl) .c rfl rfl) ?_
              refine W.q rfl rfl rfl rfl (by decide) (Yd.mv rfl (.t rfl)) ?_
              refine W.g rfl rfl rfl rfl rfl (.t rfl _) rfl (by decide) (fun hG => Yd.mv rfl (.t rfl)) ?_
              refine W.g rfl rfl rfl rfl rfl (.t rfl _) rfl (by decide) (fun hG => Yd.mv rfl (.t rfl)) ?_
              refine W.g rfl rfl rfl rfl rfl (.t rfl _) rfl (by decide) (fun hG => Yd.call (v := .bool ((((syllogistref_Has l40 y52).getD false)))) rfl Try.func30 rfl rfl (.cons (.g rfl hG) (.cons (.g rfl hG) .nil)) (by intro x' hx w hw; obtain ⟨p0, hp0⟩ := hx.at (p := 0) rfl; obtain ⟨m2, hm2, hc2, ⟨L2, hl1, hl2⟩, hback⟩ := cX_lend hw hp0 lone_own; have hL1 : RS rI m2 _ _ := RS_of_own hl1 hl2; exact (syllogistref_Has_ok w0 m2 _ _ _ hL1 y52 _ (gd_get (d := false) ha54 hG) w hc2).mono fun e w' ⟨he, hc'⟩ => ⟨he, (hback m2 _ _ w' (.refl _) hp0).2 hc'⟩)) ?_
              refine W.q rfl rfl rfl rfl (by decide) (Yd.or rfl (.t rfl) .c rfl rfl) ?_
              refine W.q rfl rfl rfl rfl (by decide) (Yd.mv rfl (.t rfl)) ?_
              refine W.g rfl rfl rfl rfl rfl (.t rfl _) rfl (by decide) (fun hG => Yd.mv rfl (.t rfl)) ?_
              refine W.g rfl rfl rfl rfl rfl (.t rfl _) rfl (by decide) (fun hG => Yd.gtr rfl (.g rfl hG) .c) ?_
              refine W.g rfl rfl rfl rfl rfl (.t rfl _) rfl (by decide) (fun hG => Yd.mv rfl (.g rfl hG)) ?_
              refine W.g rfl rfl rfl rfl rfl (.g rfl _) rfl (by decide) (fun hG => Yd.mv rfl (.t rfl)) ?_
              refine W.g rfl rfl rfl rfl rfl (.g rfl _) rfl (by decide) (fun hG => Yd.mv rfl (.t rfl)) ?_
              refine W.g rfl rfl rfl rfl rfl (.g rfl _) rfl (by decide) (fun hG => Yd.mv rfl (.t rfl)) ?_
              refine W.g rfl rfl rfl rfl rfl (.g rfl _) rfl (by decide) (fun hG => Yd.mv rfl (.t rfl)) ?_
              refine W.g rfl rfl rfl rfl rfl (.g rfl _) rfl (by decide) (fun hG => Yd.sub rfl (.g rfl hG) .c) ?_
              refine W.g rfl rfl rfl rfl rfl (.g rfl _) rfl (by decide) (fun hG => Yd.idxR hu32 (gd_get (d := (0 : Int)) ha55 hG) rfl Try.underlying36 SZ3 (.g rfl hG) (.g rfl hG)) ?_
              refine W.g rfl rfl rfl rfl rfl (.g rfl _) rfl (by decide) (fun hG => Yd.ldF hu32 (.refl _) (gd_get (d := (0 : Int)) ha55 hG) rfl rfl ON3 (.g rfl hG)) ?_
              refine W.g rfl rfl rfl rfl rfl (.g rfl _) rfl (by decide) (fun hG => Yd.mv rfl (.t rfl)) ?_
              refine W.g rfl rfl rfl rfl rfl (.g rfl _) rfl (by decide) (fun hG => Yd.call (v := .bool ((((syllogistref_Under fuel n_0 pairs_1 (((geti y29 ((w64 (t_48 - (1 : Int))))).getD (0 : Int))) y52).getD false)))) rfl Try.func18 rfl rfl (.cons (.g rfl hG) (.cons (.g rfl hG) (.cons (.g rfl hG) (.cons (.g rfl hG) .nil)))) (fun x' hx w hw => syllogistref_Under_ok w0 x'.m x'.l fuel n_0 _ _ (hpairs_1.mono hx.1) (((geti y29 ((w64 (t_48 - (1 : Int))))).getD (0 : Int))) y52 _ (gd_get (d := false) ha56 hG) w hw)) ?_
              refine W.g rfl rfl rfl rfl rfl (.g rfl _) rfl (by decide) (fun hG => Yd.not rfl (.g rfl hG)) ?_
              refine W.g rfl rfl rfl rfl rfl (.t rfl _) rfl (by decide) (fun hG => Yd.andG rfl (.g rfl hG) .c rfl rfl hG) ?_
              refine W.q rfl rfl rfl rfl (by decide) (Yd.or rfl (.t rfl) .c rfl rfl) ?_
              refine W.end ?_
              refine NX.sub (env' := [(0, _), (1, _), (5, _), (6, _), (8, _), (9, _), (11, _), (33, _), (34, _), (35, _), (42, _), (43, _), (44, _), (13, _), (76, _)]) ⟨rfl, rfl, rfl, rfl, rfl, rfl, rfl, rfl, rfl, rfl, rfl, rfl, rfl, rfl, rfl, trivial⟩ ?_
              refine NX.then ?_
              refine Tr.cond (.t rfl) (fun hb => ?_) (fun hb => ?_)
              · have hr := cond_t hb hr
                refine Tr.seq ?_
                refine Tr.region_f (fun _ => false) ?_
                refine W.q rfl rfl rfl rfl (by decide) (Yd.as rfl .c) ?_
                refine W.end ?_
                refine NX.sub (env' := [(4, _)]) ⟨rfl, trivial⟩ ?_
                refine NX.drop (l' := l) (.cons _ (.refl _)) ?_
                refine NX.then ?_
                refine Tr.ret' (RT.then (RT.block (RT.then (RT.then (RT.block (RT.block (RT.then (RT.then (RT.block (RT.then ?_))))))))))
                refine res1 rfl rfl ?_
                intro w hc
                cases hr
                exact ⟨rfl, (cX_le (x := ⟨m, _⟩) ⟨hsm4, [], rfl⟩ hc)⟩
              · have hr := cond_f hb hr
                refine Tr.skip' ?_
                refine NX.then ?_
                refine Tr.seq ?_
                obtain ⟨hq60, hr⟩ := guard_some hr; replace hq60 := of_decide_eq_true hq60
                refine Tr.region_f (fun i => Nat.beq i 2 || Nat.beq i 3) ?_
                refine W.q rfl rfl rfl rfl (by decide) (Yd.mv rfl (.t rfl)) ?_
                refine W.q rfl rfl rfl rfl (by decide) (Yd.mv rfl (.t rfl)) ?_
                refine W.e rfl rfl rfl rfl (by decide) (Ef.bsT (enc := encI) (vs := [_]) (ys := [y52]) (fun _ => rfl) IF3 rfl Try.underlying36 (by decide) rfl (.cons (.t rfl) .nil) rfl rfl (by decide)) ?_
                rintro v57 _ rfl
                refine ⟨.inl rfl, ?_⟩
                refine W.cast (m' := m4) (l' := hownT 3 1 encI v57 _ :: hownT 3 1 encI v41 _ :: l) rfl rfl ?_
                refine W.e rfl rfl rfl rfl (by decide) (Ef.apI (pos := 1) (enc := encI) (xs := l40) (ys := ([y52] : List Int)) (fun _ => rfl) IF3 rfl rfl Try.underlying36 rfl (by decide) (.t rfl) (.t rfl) (Src.own (pos := 0) rfl) (fun _ => rfl) (by omega) (by omega)) ?_
                rintro v59 _ rfl
                refine ⟨.inl rfl, ?_⟩
                refine W.cast (m' := m4) (l' := hownT 3 1 encI v57 _ :: hownT 3 1 encI v59 _ :: l) rfl rfl ?_
                refine W.q rfl rfl rfl rfl (by decide) (Yd.as rfl (.t rfl)) ?_
                refine W.end ?_
                refine NX.sub (env' := [(0, _), (1, _), (5, _), (6, _), (8, _), (9, _), (11, _), (33, _), (34, _), (35, _), (42, _), (43, _), (44, _)]) ⟨rfl, rfl, rfl, rfl, rfl, rfl, rfl, rfl, rfl, rfl, rfl, rfl, rfl, trivial⟩ ?_
                refine NX.drop (l' := hownT 3 1 encI v59 _ :: l) (.cons _ (.cons_cons _ (.refl _))) ?_
                refine NX.then ?_
                refine Tr.region_f (fun _ => false) ?_
                refine W.q rfl rfl rfl rfl (by decide) (Yd.mv rfl (.t rfl)) ?_
                refine W.q rfl rfl rfl rfl (by decide) (Yd.add rfl (.t rfl) .c) ?_
                refine W.q rfl rfl rfl rfl (by decide) (Yd.as rfl (.t rfl)) ?_
                refine W.end ?_
                refine NX.sub (env' := [(0, _), (1, _), (5, _), (6, _), (8, _), (9, _), (11, _), (33, _), (34, _), (35, _), (42, _), (43, _), (44, _)]) ⟨rfl, rfl, rfl, rfl, rfl, rfl, rfl, rfl, rfl, rfl, rfl, rfl, rfl, trivial⟩ ?_
                refine NX.block ?_
                refine NX.then ?_
                refine Tr.region_f (fun _ => false) ?_
                refine W.q rfl rfl rfl rfl (by decide) (Yd.add rfl (.t rfl) .c) ?_
                refine W.q rfl rfl rfl rfl (by decide) (Yd.mv rfl (.t rfl)) ?_
                refine W.end ?_
                refine NX.sub (env' := [(0, _), (1, _), (5, _), (6, _), (8, _), (9, _), (11, _), (33, _), (34, _), (35, _), (42, _), (43, _), (44, _)]) ⟨rfl, rfl, rfl, rfl, rfl, rfl, rfl, rfl, rfl, rfl, rfl, rfl, rfl, trivial⟩ ?_
                refine NX.sub (env' := [(0, _), (1, _), (5, _), (6, _), (8, _), (9, _), (11, _), (33, _), (34, _), (35, _), (42, _), (43, _), (44, _)]) ⟨rfl, rfl, rfl, rfl, rfl, rfl, rfl, rfl, rfl, rfl, rfl, rfl, rfl, trivial⟩ ?_
                have hw := w64_id (n := t_48 + 1) (by omega) (by omega)
                exact NX.again n51 (t_48 + 1, (w64 (many_38 + (1 : Int))), (l40 ++ ([y52] : List Int))) (Nat.lt_succ_self _) ⟨_, (by rw [hw] <;> rfl), rfl, (fr_dec hnt_48), (by omega), ((hnx50 _).symm.trans hr)⟩
end Go.Proofs.Ytjpbdannibmplaa.Sy
