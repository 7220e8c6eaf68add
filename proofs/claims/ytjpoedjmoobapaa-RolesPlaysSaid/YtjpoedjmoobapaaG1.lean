/- Functions of the program as plain functions, and that the translation computes them; the conditions stand in each theorem. Printed by an own program. -/
import Derived.Test.YtjpoedjmoobapaaG1a
import Derived.Test.YtjpoedjmoobapaaProg
namespace Go.Proofs.Ytjpoedjmoobapaa.Sy
open Go
set_option linter.unusedVariables false
def syllogistref_With_k6 (out_5 : BitVec 32) : Option ((BitVec 32)) :=
  some out_5

def syllogistref_With_k18 (nx11 : ((BitVec 32) → Option ((BitVec 32)))) (out_17 : BitVec 32) : Option ((BitVec 32)) :=
  nx11 out_17

def syllogistref_With_b22 (n_0 : Int) (pairs_1 : List (Int × Int)) (set_2 : (BitVec 32)) (fuel : Nat) (i_9 : Int) (j_21 : Int) (out_15 : BitVec 32) (nx23 : (BitVec 32) → Option ((BitVec 32))) : Option ((BitVec 32)) :=
  (syllogistref_Bit set_2 j_21).bind fun r25 =>
  bif (!(r25 == true) || (syllogistref_Under fuel n_0 pairs_1 i_9 j_21).isSome) then
  (bif (r25 && (((syllogistref_Under fuel n_0 pairs_1 i_9 j_21).getD false))) then
  nx23 (out_15 ||| (1#32 <<< ((BitVec.ofInt 64 i_9)).toNat))
  else
  nx23 out_15) else none

def syllogistref_With_b10 (n_0 : Int) (pairs_1 : List (Int × Int)) (set_2 : (BitVec 32)) (fuel : Nat) (i_9 : Int) (out_3 : BitVec 32) (nx11 : (BitVec 32) → Option ((BitVec 32))) : Option ((BitVec 32)) :=
  bif decide (n_0 ≤ 9223372036854775807) then
  forK (σ := (BitVec 32)) (fun i s nx_ => syllogistref_With_b22 n_0 pairs_1 set_2 fuel i_9 i s nx_) (fun s => syllogistref_With_k18 nx11 s) (n_0 - (0 : Int)).toNat (0 : Int) out_3 else none

def syllogistref_With (fuel : Nat) (n_0 : Int) (pairs_1 : List (Int × Int)) (set_2 : (BitVec 32)) : Option ((BitVec 32)) :=
  bif decide (n_0 ≤ 9223372036854775807) then
  forK (σ := (BitVec 32)) (fun i s nx_ => syllogistref_With_b10 n_0 pairs_1 set_2 fuel i s nx_) (fun s => syllogistref_With_k6 s) (n_0 - (0 : Int)).toNat (0 : Int) (0#32) else none

set_option maxRecDepth 100000 in
set_option maxHeartbeats 4000000 in
theorem syllogistref_With_ok (w0 : World) (m : Snap) (l : List HI) (fuel : Nat) (n_0 : Int) (upairs_1 : Value) (pairs_1 : List (Int × Int)) (hpairs_1 : RS rP m upairs_1 pairs_1) (set_2 : (BitVec 32)) (r : (BitVec 32)) (hr : syllogistref_With fuel n_0 pairs_1 set_2 = some r) (w : World) (hc : cX w0 ⟨m, l⟩ w) :
    Calls Try.prog 38 [.int .i64 n_0, upairs_1, .int .u32 (set_2.toNat : Int)].toArray w fun e w' => e = .returned (.int .u32 (r.toNat : Int)) ∧ cX w0 ⟨m, l⟩ w' := by
  unfold syllogistref_With at hr
  refine calls_of_Tr (N := 36) Try.func38 rfl hc rfl (Nat.le_of_ble_eq_true rfl) ?_
  refine Tr.seq ?_
  refine Tr.region_f (fun _ => false) ?_
  refine W.q rfl rfl rfl rfl (by decide) (Yd.as rfl .c) ?_
  refine W.end ?_
  refine NX.sub (env' := [(0, _), (1, _), (2, _)]) ⟨rfl, rfl, rfl, trivial⟩ ?_
  refine NX.then ?_
  refine Tr.seq ?_
  refine Tr.region_f (fun _ => false) ?_
  refine W.q rfl rfl rfl rfl (by decide) (Yd.as rfl .c) ?_
  refine W.end ?_
  refine NX.sub (env' := [(0, _), (1, _), (2, _), (7, _)]) ⟨rfl, rfl, rfl, rfl, trivial⟩ ?_
  refine NX.then ?_
  refine Tr.seq ?_
  refine Tr.seq ?_
  refine Tr.region_f (fun _ => false) ?_
  refine W.q rfl rfl rfl rfl (by decide) (Yd.as rfl .c) ?_
  refine W.end ?_
  refine NX.sub (env' := [(0, _), (1, _), (2, _), (7, _), (8, _)]) ⟨rfl, rfl, rfl, rfl, rfl, trivial⟩ ?_
  refine NX.then ?_
  refine Tr.join (S := fun env x => ∃ out_5 : BitVec 32, env = [(7, .int .u32 (out_5.toNat : Int))] ∧ x = ⟨m, l⟩ ∧ syllogistref_With_k6 out_5 = some r) ?_ (fun hk7 => ?_)
  · rintro _ _ ⟨out_5, rfl, rfl, hr⟩
    unfold syllogistref_With_k6 at hr
    try dsimp only at hr
    refine NX.then ?_
    refine Tr.seq ?_
    refine Tr.region_f (fun _ => false) ?_
    refine W.q rfl rfl rfl rfl (by decide) (Yd.mv rfl (.t rfl)) ?_
    refine W.q rfl rfl rfl rfl (by decide) (Yd.as rfl (.t rfl)) ?_
    refine W.end ?_
    refine NX.sub (env' := [(6, _)]) ⟨rfl, trivial⟩ ?_
    refine NX.then ?_
    refine Tr.ret' ?_
    refine res1 rfl rfl ?_
    intro w hc
    cases hr
    exact ⟨rfl, hc⟩
  obtain ⟨hle8, hr⟩ := guard_some hr; replace hle8 := of_decide_eq_true hle8
  refine Tr.block ?_
  refine Tr.sub (env' := [(0, _), (1, _), (2, _), (7, _), (8, _)]) ⟨rfl, rfl, rfl, rfl, rfl, trivial⟩ ?_
  refine Tr.loop (S := fun n (z : Int × (BitVec 32)) env x => match z with | (i_9, out_3) => env = [(0, .int .i64 n_0), (1, upairs_1), (2, .int .u32 (set_2.toNat : Int)), (7, .int .u32 (out_3.toNat : Int)), (8, .int .i64 i_9)] ∧ x = ⟨m, l⟩ ∧ n = (n_0 - i_9).toNat ∧ 0 ≤ i_9 ∧ forK (σ := (BitVec 32)) (fun i s nx_ => syllogistref_With_b10 n_0 pairs_1 set_2 fuel i s nx_) (fun s => syllogistref_With_k6 s) n i_9 out_3 = some r) _ ((0 : Int), 0#32) ⟨rfl, rfl, rfl, (by omega), hr⟩ ?_
  rintro n12 ⟨i_9, out_3⟩ env x ⟨rfl, rfl, hni_9, h0i_9, hr⟩
  cases n12 with
  | zero =>
    simp only [forK] at hr
    refine Tr.seq ?_
    refine Tr.seq ?_
    refine Tr.region_f (fun _ => false) ?_
    refine W.q rfl rfl rfl rfl (by decide) (Yd.mv rfl (.t rfl)) ?_
    refine W.q rfl rfl rfl rfl (by decide) (Yd.mv rfl (.t rfl)) ?_
    refine W.q rfl rfl rfl rfl (by decide) (Yd.lss rfl (.t rfl) (.t rfl)) ?_
    refine W.end ?_
    refine NX.sub (env' := [(0, _), (1, _), (2, _), (7, _), (8, _), (12, _)]) ⟨rfl, rfl, rfl, rfl, rfl, rfl, trivial⟩ ?_
    refine NX.then ?_
    refine Tr.cond (.t rfl) (fun hb => ?_) (fun hb => ?_)
    · exact absurd (hb.symm.trans (fr_end hni_9)) (by decide)
    ·
      refine Tr.exit' (EX.then (EX.then (EX.block ?_)))
      refine NX.sub (env' := [(7, _)]) ⟨rfl, trivial⟩ ?_
      exact hk7 _ _ ⟨_, rfl, rfl, hr⟩
  | succ n12 =>
    obtain ⟨nx11, hnx11, hr⟩ := forK_succ hr
    try dsimp only at hr
    unfold syllogistref_With_b10 at hr
    try dsimp only at hr
    have hlti_9 := fr_bnd hni_9
    refine Tr.seq ?_
    refine Tr.seq ?_
    refine Tr.region_f (fun _ => false) ?_
    refine W.q rfl rfl rfl rfl (by decide) (Yd.mv rfl (.t rfl)) ?_
    refine W.q rfl rfl rfl rfl (by decide) (Yd.mv rfl (.t rfl)) ?_
    refine W.q rfl rfl rfl rfl (by decide) (Yd.lss rfl (.t rfl) (.t rfl)) ?_
    refine W.end ?_
    refine NX.sub (env' := [(0, _), (1, _), (2, _), (7, _), (8, _), (12, _)]) ⟨rfl, rfl, rfl, rfl, rfl, rfl, trivial⟩ ?_
    refine NX.then ?_
    refine Tr.cond (.t rfl) (fun hb => ?_) (fun hb => ?_)
    rotate_left
    · exact absurd (hb.symm.trans (fr_go hni_9)) (by decide)
    ·
      refine Tr.skip' ?_
      refine NX.then ?_
      refine Tr.seq ?_
      refine Tr.block ?_
      refine Tr.seq ?_
      refine Tr.region_f (fun _ => false) ?_
      refine W.q rfl rfl rfl rfl (by decide) (Yd.as rfl .c) ?_
      refine W.end ?_
      refine NX.sub (env' := [(0, _), (1, _), (2, _), (7, _), (8, _), (9, _)]) ⟨rfl, rfl, rfl, rfl, rfl, rfl, trivial⟩ ?_
      refine NX.then ?_
      refine Tr.join (S := fun env x => ∃ out_17 : BitVec 32, env = [(0, .int .i64 n_0), (1, upairs_1), (2, .int .u32 (set_2.toNat : Int)), (7, .int .u32 (out_17.toNat : Int)), (8, .int .i64 i_9)] ∧ x = ⟨m, l⟩ ∧ syllogistref_With_k18 nx11 out_17 = some r) ?_ (fun hk19 => ?_)
      · rintro _ _ ⟨out_17, rfl, rfl, hr⟩
        unfold syllogistref_With_k18 at hr
        try dsimp only at hr
        refine NX.block ?_
        refine NX.then ?_
        refine Tr.region_f (fun _ => false) ?_
        refine W.q rfl rfl rfl rfl (by decide) (Yd.mv rfl (.t rfl)) ?_
        refine W.q rfl rfl rfl rfl (by decide) (Yd.add rfl (.t rfl) .c) ?_
        refine W.q rfl rfl rfl rfl (by decide) (Yd.as rfl (.t rfl)) ?_
        refine W.end ?_
        refine NX.sub (env' := [(0, _), (1, _), (2, _), (7, _), (8, _)]) ⟨rfl, rfl, rfl, rfl, rfl, trivial⟩ ?_
        refine NX.sub (env' := [(0, _), (1, _), (2, _), (7, _), (8, _)]) ⟨rfl, rfl, rfl, rfl, rfl, trivial⟩ ?_
        have hw := w64_id (n := i_9 + 1) (by omega) (by omega)
        exact NX.again n12 (i_9 + 1, out_17) (Nat.lt_succ_self _) ⟨(by rw [hw] <;> rfl), rfl, (fr_dec hni_9), (by omega), ((hnx11 _).symm.trans hr)⟩
      obtain ⟨hle20, hr⟩ := guard_some hr; replace hle20 := of_decide_eq_true hle20
      refine Tr.block ?_
      refine Tr.sub (env' := [(0, _), (1, _), (2, _), (7, _), (8, _), (9, _)]) ⟨rfl, rfl, rfl, rfl, rfl, rfl, trivial⟩ ?_
      refine Tr.loop (S := fun n (z : Int × (BitVec 32)) env x => match z with | (j_21, out_15) => env = [(0, .int .i64 n_0), (1, upairs_1), (2, .int .u32 (set_2.toNat : Int)), (7, .int .u32 (out_15.toNat : Int)), (8, .int .i64 i_9), (9, .int .i64 j_21)] ∧ x = ⟨m, l⟩ ∧ n = (n_0 - j_21).toNat ∧ 0 ≤ j_21 ∧ forK (σ := (BitVec 32)) (fun i s nx_ => syllogistref_With_b22 n_0 pairs_1 set_2 fuel i_9 i s nx_) (fun s => syllogistref_With_k18 nx11 s) n j_21 out_15 = some r) _ ((0 : Int), out_3) ⟨rfl, rfl, rfl, (by omega), hr⟩ ?_
      rintro n24 ⟨j_21, out_15⟩ env x ⟨rfl, rfl, hnj_21, h0j_21, hr⟩
      cases n24 with
      | zero =>
        simp only [forK] at hr
        refine Tr.seq ?_
        refine Tr.seq ?_
        refine Tr.region_f (fun _ => false) ?_
        refine W.q rfl rfl rfl rfl (by decide) (Yd.mv rfl (.t rfl)) ?_
        refine W.q rfl rfl rfl rfl (by decide) (Yd.mv rfl (.t rfl)) ?_
        refine W.q rfl rfl rfl rfl (by decide) (Yd.lss rfl (.t rfl) (.t rfl)) ?_
        refine W.end ?_
        refine NX.sub (env' := [(0, _), (1, _), (2, _), (7, _), (8, _), (9, _), (17, _)]) ⟨rfl, rfl, rfl, rfl, rfl, rfl, rfl, trivial⟩ ?_
        refine NX.then ?_
        refine Tr.cond (.t rfl) (fun hb => ?_) (fun hb => ?_)
        · exact absurd (hb.symm.trans (fr_end hnj_21)) (by decide)
        ·
          refine Tr.exit' (EX.then (EX.then (EX.block ?_)))
          refine NX.sub (env' := [(0, _), (1, _), (2, _), (7, _), (8, _)]) ⟨rfl, rfl, rfl, rfl, rfl, trivial⟩ ?_
          exact hk19 _ _ ⟨_, rfl, rfl, hr⟩
      | succ n24 =>
        obtain ⟨nx23, hnx23, hr⟩ := forK_succ hr
        try dsimp only at hr
        unfold syllogistref_With_b22 at hr
        try dsimp only at hr
        have hltj_21 := fr_bnd hnj_21
        refine Tr.seq ?_
        refine Tr.seq ?_
        refine Tr.region_f (fun _ => false) ?_
        refine W.q rfl rfl rfl rfl (by decide) (Yd.mv rfl (.t rfl)) ?_
        refine W.q rfl rfl rfl rfl (by decide) (Yd.mv rfl (.t rfl)) ?_
        refine W.q rfl rfl rfl rfl (by decide) (Yd.lss rfl (.t rfl) (.t rfl)) ?_
        refine W.end ?_
        refine NX.sub (env' := [(0, _), (1, _), (2, _), (7, _), (8, _), (9, _), (17, _)]) ⟨rfl, rfl, rfl, rfl, rfl, rfl, rfl, trivial⟩ ?_
        refine NX.then ?_
        refine Tr.cond (.t rfl) (fun hb => ?_) (fun hb => ?_)
        rotate_left
        · exact absurd (hb.symm.trans (fr_go hnj_21)) (by decide)
        ·
          refine Tr.skip' ?_
          refine NX.then ?_
          refine Tr.seq ?_
          refine Tr.block ?_
          refine Tr.seq ?_
          obtain ⟨r25, hr26, hr⟩ := bind_some hr
          obtain ⟨ha27, hr⟩ := guard_some hr
          refine Tr.region_f (fun _ => false) ?_
          refine W.q rfl rfl rfl rfl (by decide) (Yd.mv rfl (.t rfl)) ?_
          refine W.q rfl rfl rfl rfl (by decide) (Yd.mv rfl (.t rfl)) ?_
          refine W.q rfl rfl rfl rfl (by decide) (Yd.call (v := .bool r25) rfl Try.func16 rfl rfl (.cons (.t rfl) (.cons (.t rfl) .nil)) (fun x' hx w hw => syllogistref_Bit_ok w0 x'.m x'.l set_2 j_21 _ hr26 w hw)) ?_
          refine W.q rfl rfl rfl rfl (by decide) (Yd.mv rfl (.t rfl)) ?_
          refine W.g rfl rfl rfl rfl rfl (.t rfl _) rfl (by decide) (fun hG => Yd.mv rfl (.t rfl)) ?_
          refine W.g rfl rfl rfl rfl rfl (.t rfl _) rfl (by decide) (fun hG => Yd.mv rfl (.t rfl)) ?_
          refine W.g rfl rfl rfl rfl rfl (.t rfl _) rfl (by decide) (fun hG => Yd.mv rfl (.t rfl)) ?_
          refine W.g rfl rfl rfl rfl rfl (.t rfl _) rfl (by decide) (fun hG => Yd.mv rfl (.t rfl)) ?_
          refine W.g rfl rfl rfl rfl rfl (.t rfl _) rfl (by decide) (fun hG => Yd.call (v := .bool ((((syllogistref_Under fuel n_0 pairs_1 i_9 j_21).getD false)))) rfl Try.func36 rfl rfl (.cons (.g rfl hG) (.cons (.g rfl hG) (.cons (.g rfl hG) (.cons (.g rfl hG) .nil)))) (fun x' hx w hw => syllogistref_Under_ok w0 x'.m x'.l fuel n_0 _ _ (hpairs_1.mono hx.1) i_9 j_21 _ (gd_get (d := false) ha27 hG) w hw)) ?_
          refine W.q rfl rfl rfl rfl (by decide) (Yd.and rfl (.t rfl) .c rfl rfl) ?_
          refine W.end ?_
          refine NX.sub (env' := [(0, _), (1, _), (2, _), (7, _), (8, _), (9, _), (29, _)]) ⟨rfl, rfl, rfl, rfl, rfl, rfl, rfl, trivial⟩ ?_
          refine NX.then ?_
          refine Tr.cond (.t rfl) (fun hb => ?_) (fun hb => ?_)
          · have hr := cond_t hb hr
            refine Tr.region_f (fun _ => false) ?_
            refine W.q rfl rfl rfl rfl (by decide) (Yd.mv rfl (.t rfl)) ?_
            refine W.q rfl rfl rfl rfl (by decide) (Yd.mv rfl (.t rfl)) ?_
            refine W.q rfl rfl rfl rfl (by decide) (Yd.cvQ rfl US3 Try.underlying56 (.t rfl)) ?_
            refine W.q rfl rfl rfl rfl (by decide) (Yd.shlU (a := 1#32) rfl .c (.t rfl) (Int.natCast_nonneg _)) ?_
            refine W.q rfl rfl rfl rfl (by decide) (Yd.orU (a := out_15) (b := (1#32 <<< ((BitVec.ofInt 64 i_9)).toNat)) rfl (.t rfl) (.t rfl)) ?_
            refine W.q rfl rfl rfl rfl (by decide) (Yd.as rfl (.t rfl)) ?_
            refine W.end ?_
            refine NX.sub (env' := [(0, _), (1, _), (2, _), (7, _), (8, _), (9, _)]) ⟨rfl, rfl, rfl, rfl, rfl, rfl, trivial⟩ ?_
            refine NX.block ?_
            refine NX.then ?_
            refine Tr.region_f (fun _ => false) ?_
            refine W.q rfl rfl rfl rfl (by decide) (Yd.mv rfl (.t rfl)) ?_
            refine W.q rfl rfl rfl rfl (by decide) (Yd.add rfl (.t rfl) .c) ?_
            refine W.q rfl rfl rfl rfl (by decide) (Yd.as rfl (.t rfl)) ?_
            refine W.end ?_
            refine NX.sub (env' := [(0, _), (1, _), (2, _), (7, _), (8, _), (9, _)]) ⟨rfl, rfl, rfl, rfl, rfl, rfl, trivial⟩ ?_
            refine NX.sub (env' := [(0, _), (1, _), (2, _), (7, _), (8, _), (9, _)]) ⟨rfl, rfl, rfl, rfl, rfl, rfl, trivial⟩ ?_
            have hw := w64_id (n := j_21 + 1) (by omega) (by omega)
            exact NX.again n24 (j_21 + 1, (out_15 ||| (1#32 <<< ((BitVec.ofInt 64 i_9)).toNat))) (Nat.lt_succ_self _) ⟨(by rw [hw] <;> rfl), rfl, (fr_dec hnj_21), (by omega), ((hnx23 _).symm.trans hr)⟩
          · have hr := cond_f hb hr
            refine Tr.skip' ?_
            refine NX.block ?_
            refine NX.then ?_
            refine Tr.region_f (fun _ => false) ?_
            refine W.q rfl rfl rfl rfl (by decide) (Yd.mv rfl (.t rfl)) ?_
            refine W.q rfl rfl rfl rfl (by decide) (Yd.add rfl (.t rfl) .c) ?_
            refine W.q rfl rfl rfl rfl (by decide) (Yd.as rfl (.t rfl)) ?_
            refine W.end ?_
            refine NX.sub (env' := [(0, _), (1, _), (2, _), (7, _), (8, _), (9, _)]) ⟨rfl, rfl, rfl, rfl, rfl, rfl, trivial⟩ ?_
            refine NX.sub (env' := [(0, _), (1, _), (2, _), (7, _), (8, _), (9, _)]) ⟨rfl, rfl, rfl, rfl, rfl, rfl, trivial⟩ ?_
            have hw := w64_id (n := j_21 + 1) (by omega) (by omega)
            exact NX.again n24 (j_21 + 1, out_15) (Nat.lt_succ_self _) ⟨(by rw [hw] <;> rfl), rfl, (fr_dec hnj_21), (by omega), ((hnx23 _).symm.trans hr)⟩

def syllogistref_Size_k6 (n_5 : Int) : Option (Int) :=
  some n_5

def syllogistref_Size_b9 (w_0 : (BitVec 32)) (i_8 : Int) (n_3 : Int) (nx10 : Int → Option (Int)) : Option (Int) :=
  (syllogistref_Bit w_0 i_8).bind fun r12 =>
  (bif r12 then
  nx10 (w64 (n_3 + (1 : Int)))
  else
  nx10 n_3)

def syllogistref_Size (w_0 : (BitVec 32)) : Option (Int) :=
  forK (σ := Int) (fun i s nx_ => syllogistref_Size_b9 w_0 i s nx_) (fun s => syllogistref_Size_k6 s) ((32 : Int) - (0 : Int)).toNat (0 : Int) ((0 : Int))

set_option maxRecDepth 100000 in
set_option maxHeartbeats 4000000 in
theorem syllogistref_Size_ok (w0 : World) (m : Snap) (l : List HI) (w_0 : (BitVec 32)) (r : Int) (hr : syllogistref_Size w_0 = some r) (w : World) (hc : cX w0 ⟨m, l⟩ w) :
    Calls Try.prog 37 [.int .u32 (w_0.toNat : Int)].toArray w fun e w' => e = .returned (.int .i64 r) ∧ cX w0 ⟨m, l⟩ w' := by
  unfold syllogistref_Size at hr
  refine calls_of_Tr (N := 15) Try.func37 rfl hc rfl (Nat.le_of_ble_eq_true rfl) ?_
  refine Tr.seq ?_
  refine Tr.region_f (fun _ => false) ?_
  refine W.q rfl rfl rfl rfl (by decide) (Yd.as rfl .c) ?_
  refine W.end ?_
  refine NX.sub (env' := [(0, _)]) ⟨rfl, trivial⟩ ?_
  refine NX.then ?_
  refine Tr.seq ?_
  refine Tr.region_f (fun _ => false) ?_
  refine W.q rfl rfl rfl rfl (by decide) (Yd.as rfl .c) ?_
  refine W.end ?_
  refine NX.sub (env' := [(0, _), (3, _)]) ⟨rfl, rfl, trivial⟩ ?_
  refine NX.then ?_
  refine Tr.seq ?_
  refine Tr.seq ?_
  refine Tr.region_f (fun _ => false) ?_
  refine W.q rfl rfl rfl rfl (by decide) (Yd.as rfl .c) ?_
  refine W.end ?_
  refine NX.sub (env' := [(0, _), (3, _), (4, _)]) ⟨rfl, rfl, rfl, trivial⟩ ?_
  refine NX.then ?_
  refine Tr.join (S := fun env x => ∃ n_5 : Int, env = [(3, .int .i64 n_5)] ∧ x = ⟨m, l⟩ ∧ syllogistref_Size_k6 n_5 = some r) ?_ (fun hk7 => ?_)
  · rintro _ _ ⟨n_5, rfl, rfl, hr⟩
    unfold syllogistref_Size_k6 at hr
    try dsimp only at hr
    refine NX.then ?_
    refine Tr.seq ?_
    refine Tr.region_f (fun _ => false) ?_
    refine W.q rfl rfl rfl rfl (by decide) (Yd.mv rfl (.t rfl)) ?_
    refine W.q rfl rfl rfl rfl (by decide) (Yd.as rfl (.t rfl)) ?_
    refine W.end ?_
    refine NX.sub (env' := [(2, _)]) ⟨rfl, trivial⟩ ?_
    refine NX.then ?_
    refine Tr.ret' ?_
    refine res1 rfl rfl ?_
    intro w hc
    cases hr
    exact ⟨rfl, hc⟩
  refine Tr.block ?_
  refine Tr.sub (env' := [(0, _), (3, _), (4, _)]) ⟨rfl, rfl, rfl, trivial⟩ ?_
  refine Tr.loop (S := fun n (z : Int × Int) env x => match z with | (i_8, n_3) => env = [(0, .int .u32 (w_0.toNat : Int)), (3, .int .i64 n_3), (4, .int .i64 i_8)] ∧ x = ⟨m, l⟩ ∧ n = ((32 : Int) - i_8).toNat ∧ 0 ≤ i_8 ∧ forK (σ := Int) (fun i s nx_ => syllogistref_Size_b9 w_0 i s nx_) (fun s => syllogistref_Size_k6 s) n i_8 n_3 = some r) _ ((0 : Int), (0 : Int)) ⟨rfl, rfl, rfl, (by omega), hr⟩ ?_
  rintro n11 ⟨i_8, n_3⟩ env x ⟨rfl, rfl, hni_8, h0i_8, hr⟩
  cases n11 with
  | zero =>
    simp only [forK] at hr
    refine Tr.seq ?_
    refine Tr.seq ?_
    refine Tr.region_f (fun _ => false) ?_
    refine W.q rfl rfl rfl rfl (by decide) (Yd.mv rfl (.t rfl)) ?_
    refine W.q rfl rfl rfl rfl (by decide) (Yd.lss rfl (.t rfl) .c) ?_
    refine W.end ?_
    refine NX.sub (env' := [(0, _), (3, _), (4, _), (6, _)]) ⟨rfl, rfl, rfl, rfl, trivial⟩ ?_
    refine NX.then ?_
    refine Tr.cond (.t rfl) (fun hb => ?_) (fun hb => ?_)
    · exact absurd (hb.symm.trans (fr_end hni_8)) (by decide)
    ·
      refine Tr.exit' (EX.then (EX.then (EX.block ?_)))
      refine NX.sub (env' := [(3, _)]) ⟨rfl, trivial⟩ ?_
      exact hk7 _ _ ⟨_, rfl, rfl, hr⟩
  | succ n11 =>
    obtain ⟨nx10, hnx10, hr⟩ := forK_succ hr
    try dsimp only at hr
    unfold syllogistref_Size_b9 at hr
    try dsimp only at hr
    have hlti_8 := fr_bnd hni_8
    refine Tr.seq ?_
    refine Tr.seq ?_
    refine Tr.region_f (fun _ => false) ?_
    refine W.q rfl rfl rfl rfl (by decide) (Yd.mv rfl (.t rfl)) ?_
    refine W.q rfl rfl rfl rfl (by decide) (Yd.lss rfl (.t rfl) .c) ?_
    refine W.end ?_
    refine NX.sub (env' := [(0, _), (3, _), (4, _), (6, _)]) ⟨rfl, rfl, rfl, rfl, trivial⟩ ?_
    refine NX.then ?_
    refine Tr.cond (.t rfl) (fun hb => ?_) (fun hb => ?_)
    rotate_left
    · exact absurd (hb.symm.trans (fr_go hni_8)) (by decide)
    ·
      refine Tr.skip' ?_
      refine NX.then ?_
      refine Tr.seq ?_
      refine Tr.block ?_
      refine Tr.seq ?_
      obtain ⟨r12, hr13, hr⟩ := bind_some hr
      refine Tr.region_f (fun _ => false) ?_
      refine W.q rfl rfl rfl rfl (by decide) (Yd.mv rfl (.t rfl)) ?_
      refine W.q rfl rfl rfl rfl (by decide) (Yd.mv rfl (.t rfl)) ?_
      refine W.q rfl rfl rfl rfl (by decide) (Yd.call (v := .bool r12) rfl Try.func16 rfl rfl (.cons (.t rfl) (.cons (.t rfl) .nil)) (fun x' hx w hw => syllogistref_Bit_ok w0 x'.m x'.l w_0 i_8 _ hr13 w hw)) ?_
      refine W.end ?_
      refine NX.sub (env' := [(0, _), (3, _), (4, _), (11, _)]) ⟨rfl, rfl, rfl, rfl, trivial⟩ ?_
      refine NX.then ?_
      refine Tr.cond (.t rfl) (fun hb => ?_) (fun hb => ?_)
      · have hr := cond_t hb hr
        refine Tr.region_f (fun _ => false) ?_
        refine W.q rfl rfl rfl rfl (by decide) (Yd.mv rfl (.t rfl)) ?_
        refine W.q rfl rfl rfl rfl (by decide) (Yd.add rfl (.t rfl) .c) ?_
        refine W.q rfl rfl rfl rfl (by decide) (Yd.as rfl (.t rfl)) ?_
        refine W.end ?_
        refine NX.sub (env' := [(0, _), (3, _), (4, _)]) ⟨rfl, rfl, rfl, trivial⟩ ?_
        refine NX.block ?_
        refine NX.then ?_
        refine Tr.region_f (fun _ => false) ?_
        refine W.q rfl rfl rfl rfl (by decide) (Yd.mv rfl (.t rfl)) ?_
        refine W.q rfl rfl rfl rfl (by decide) (Yd.add rfl (.t rfl) .c) ?_
        refine W.q rfl rfl rfl rfl (by decide) (Yd.as rfl (.t rfl)) ?_
        refine W.end ?_
        refine NX.sub (env' := [(0, _), (3, _), (4, _)]) ⟨rfl, rfl, rfl, trivial⟩ ?_
        refine NX.sub (env' := [(0, _), (3, _), (4, _)]) ⟨rfl, rfl, rfl, trivial⟩ ?_
        have hw := w64_id (n := i_8 + 1) (by omega) (by omega)
        exact NX.again n11 (i_8 + 1, (w64 (n_3 + (1 : Int)))) (Nat.lt_succ_self _) ⟨(by rw [hw] <;> rfl), rfl, (fr_dec hni_8), (by omega), ((hnx10 _).symm.trans hr)⟩
      · have hr := cond_f hb hr
        refine Tr.skip' ?_
        refine NX.block ?_
        refine NX.then ?_
        refine Tr.region_f (fun _ => false) ?_
        refine W.q rfl rfl rfl rfl (by decide) (Yd.mv rfl (.t rfl)) ?_
        refine W.q rfl rfl rfl rfl (by decide) (Yd.add rfl (.t rfl) .c) ?_
        refine W.q rfl rfl rfl rfl (by decide) (Yd.as rfl (.t rfl)) ?_
        refine W.end ?_
        refine NX.sub (env' := [(0, _), (3, _), (4, _)]) ⟨rfl, rfl, rfl, trivial⟩ ?_
        refine NX.sub (env' := [(0, _), (3, _), (4, _)]) ⟨rfl, rfl, rfl, trivial⟩ ?_
        have hw := w64_id (n := i_8 + 1) (by omega) (by omega)
        exact NX.again n11 (i_8 + 1, n_3) (Nat.lt_succ_self _) ⟨(by rw [hw] <;> rfl), rfl, (fr_dec hni_8), (by omega), ((hnx10 _).symm.trans hr)⟩

def syllogistref_In (a_0 : (BitVec 32)) (b_1 : (BitVec 32)) : Option (Bool) :=
  some (((a_0 ||| b_1) == b_1))

set_option maxRecDepth 100000 in
set_option maxHeartbeats 4000000 in
theorem syllogistref_In_ok (w0 : World) (m : Snap) (l : List HI) (a_0 : (BitVec 32)) (b_1 : (BitVec 32)) (r : Bool) (hr : syllogistref_In a_0 b_1 = some r) (w : World) (hc : cX w0 ⟨m, l⟩ w) :
    Calls Try.prog 24 [.int .u32 (a_0.toNat : Int), .int .u32 (b_1.toNat : Int)].toArray w fun e w' => e = .returned (.bool r) ∧ cX w0 ⟨m, l⟩ w' := by
  unfold syllogistref_In at hr
  refine calls_of_Tr (N := 10) Try.func24 rfl hc rfl (Nat.le_of_ble_eq_true rfl) ?_
  refine Tr.seq ?_
  refine Tr.region_f (fun _ => false) ?_
  refine W.q rfl rfl rfl rfl (by decide) (Yd.as rfl .c) ?_
  refine W.end ?_
  refine NX.sub (env' := [(0, _), (1, _)]) ⟨rfl, rfl, trivial⟩ ?_
  refine NX.then ?_
  refine Tr.seq ?_
  refine Tr.region_f (fun _ => false) ?_
  refine W.q rfl rfl rfl rfl (by decide) (Yd.mv rfl (.t rfl)) ?_
  refine W.q rfl rfl rfl rfl (by decide) (Yd.mv rfl (.t rfl)) ?_
  refine W.q rfl rfl rfl rfl (by decide) (Yd.orU (a := a_0) (b := b_1) rfl (.t rfl) (.t rfl)) ?_
  refine W.q rfl rfl rfl rfl (by decide) (Yd.mv rfl (.t rfl)) ?_
  refine W.q rfl rfl rfl rfl (by decide) (Yd.eqlU (a := (a_0 ||| b_1)) (b := b_1) rfl (.t rfl) (.t rfl)) ?_
  refine W.q rfl rfl rfl rfl (by decide) (Yd.as rfl (.t rfl)) ?_
  refine W.end ?_
  refine NX.sub (env' := [(4, _)]) ⟨rfl, trivial⟩ ?_
  refine NX.then ?_
  refine Tr.ret' ?_
  refine res1 rfl rfl ?_
  intro w hc
  cases hr
  exact ⟨rfl, hc⟩

def syllogistref_Roles_k379 (l373 : List (BitVec 32)) (l375 : List (BitVec 32)) (l377 : List Int) : Option (Roles) :=
  some (({ codes := l377, given := l375, play := l373 } : Roles))

def syllogistref_Roles_k401 (l371 : List Int) (nx390 : (((List (BitVec 32)) × (List (BitVec 32)) × (List Int)) → Option (Roles))) (e_396 : Int) (l397 : List (BitVec 32)) (l399 : List (BitVec 32)) : Option (Roles) :=
  bif decide (l371.length + (([e_396] : List Int)).length ≤ 17592186044416) then
  nx390 (l397, l399, (l371 ++ ([e_396] : List Int))) else none

def syllogistref_Roles_k417 (l367 : List (BitVec 32)) (l369 : List (BitVec 32)) (l371 : List Int) (nx390 : (((List (BitVec 32)) × (List (BitVec 32)) × (List Int)) → Option (Roles))) (y392 : Deed) (e_416 : Int) : Option (Roles) :=
  (bif (e_416 == (0 : Int)) then
  (geti l369 y392.by_).bind fun y419 =>
  syllogistref_Roles_k401 l371 nx390 e_416 l367 ((l369.set y392.by_.toNat ((y419 + (1#32 <<< ((BitVec.ofInt 64 y392.to)).toNat)))))
  else
  syllogistref_Roles_k401 l371 nx390 e_416 l367 l369)

def syllogistref_Roles_k412 (l367 : List (BitVec 32)) (l369 : List (BitVec 32)) (l371 : List Int) (nx390 : (((List (BitVec 32)) × (List (BitVec 32)) × (List Int)) → Option (Roles))) (y392 : Deed) (e_411 : Int) : Option (Roles) :=
  bif (!((e_411 == (0 : Int)) == true) || (geti l369 y392.by_).isSome) then
  bif (!((e_411 == (0 : Int)) == true) || (syllogistref_In ((1#32 <<< ((BitVec.ofInt 64 y392.to)).toNat)) (((geti l369 y392.by_).getD (0#32)))).isSome) then
  (bif ((e_411 == (0 : Int)) && (((syllogistref_In ((1#32 <<< ((BitVec.ofInt 64 y392.to)).toNat)) (((geti l369 y392.by_).getD (0#32)))).getD false))) then
  syllogistref_Roles_k417 l367 l369 l371 nx390 y392 ((5 : Int))
  else
  syllogistref_Roles_k417 l367 l369 l371 nx390 y392 e_411) else none else none

def syllogistref_Roles_b423 (n_0 : Int) (pairs_1 : List (Int × Int)) (odds_2 : List (BitVec 32)) (fuel : Nat) (l369 : List (BitVec 32)) (y392 : Deed) (t_422 : Int) (e_409 : Int) (nx424 : Int → Option (Roles)) : Option (Roles) :=
  (geti odds_2 t_422).bind fun y426 =>
  (geti l369 y392.by_).bind fun y428 =>
  (syllogistref_With fuel n_0 pairs_1 ((y428 ||| (1#32 <<< ((BitVec.ofInt 64 y392.to)).toNat)))).bind fun r430 =>
  (syllogistref_Size ((y426 &&& r430))).bind fun r432 =>
  (bif (decide (r432 > (1 : Int))) then
  nx424 (7 : Int)
  else
  nx424 e_409)

def syllogistref_Roles_b389 (n_0 : Int) (pairs_1 : List (Int × Int)) (odds_2 : List (BitVec 32)) (users_3 : Int) (script_4 : List Deed) (fuel : Nat) (t_388 : Int) (l367 : List (BitVec 32)) (l369 : List (BitVec 32)) (l371 : List Int) (nx390 : ((List (BitVec 32)) × (List (BitVec 32)) × (List Int)) → Option (Roles)) : Option (Roles) :=
  (geti script_4 t_388).bind fun y392 =>
  (bif ((decide (y392.kind < (1 : Int))) || (decide (y392.kind > (4 : Int)))) then
  syllogistref_Roles_k401 l371 nx390 ((6 : Int)) l367 l369
  else
  (bif ((((decide (y392.by_ < (0 : Int))) || (decide (y392.by_ ≥ users_3))) || (decide (y392.to < (0 : Int)))) || (decide (y392.to ≥ n_0))) then
  syllogistref_Roles_k401 l371 nx390 ((2 : Int)) l367 l369
  else
  (bif (y392.kind == (1 : Int)) then
  forK (σ := Int) (fun i s nx_ => syllogistref_Roles_b423 n_0 pairs_1 odds_2 fuel l369 y392 i s nx_) (fun s => syllogistref_Roles_k412 l367 l369 l371 nx390 y392 s) ((odds_2.length : Int) - (0 : Int)).toNat (0 : Int) ((0 : Int))
  else
  (bif (y392.kind == (2 : Int)) then
  (geti l369 y392.by_).bind fun y434 =>
  (syllogistref_In ((1#32 <<< ((BitVec.ofInt 64 y392.to)).toNat)) y434).bind fun r436 =>
  (bif (!r436) then
  syllogistref_Roles_k401 l371 nx390 ((5 : Int)) l367 l369
  else
  (geti l369 y392.by_).bind fun y438 =>
  (geti l367 y392.by_).bind fun y440 =>
  (geti ((l369.set y392.by_.toNat ((y438 - (1#32 <<< ((BitVec.ofInt 64 y392.to)).toNat))))) y392.by_).bind fun y442 =>
  (syllogistref_With fuel n_0 pairs_1 y442).bind fun r444 =>
  syllogistref_Roles_k401 l371 nx390 ((0 : Int)) ((l367.set y392.by_.toNat ((y440 &&& r444)))) ((l369.set y392.by_.toNat ((y438 - (1#32 <<< ((BitVec.ofInt 64 y392.to)).toNat))))))
  else
  (bif (y392.kind == (3 : Int)) then
  (geti l369 y392.by_).bind fun y446 =>
  (syllogistref_With fuel n_0 pairs_1 y446).bind fun r448 =>
  (syllogistref_In ((1#32 <<< ((BitVec.ofInt 64 y392.to)).toNat)) r448).bind fun r450 =>
  (bif (!r450) then
  syllogistref_Roles_k401 l371 nx390 ((7 : Int)) l367 l369
  else
  (geti l367 y392.by_).bind fun y452 =>
  (syllogistref_In ((1#32 <<< ((BitVec.ofInt 64 y392.to)).toNat)) y452).bind fun r454 =>
  (bif r454 then
  syllogistref_Roles_k401 l371 nx390 ((5 : Int)) l367 l369
  else
  (geti l367 y392.by_).bind fun y456 =>
  syllogistref_Roles_k401 l371 nx390 ((0 : Int)) ((l367.set y392.by_.toNat ((y456 + (1#32 <<< ((BitVec.ofInt 64 y392.to)).toNat))))) l369))
  else
  (bif (y392.kind == (4 : Int)) then
  (geti l367 y392.by_).bind fun y458 =>
  (syllogistref_In ((1#32 <<< ((BitVec.ofInt 64 y392.to)).toNat)) y458).bind fun r460 =>
  (bif (!r460) then
  syllogistref_Roles_k401 l371 nx390 ((5 : Int)) l367 l369
  else
  (geti l367 y392.by_).bind fun y462 =>
  syllogistref_Roles_k401 l371 nx390 ((0 : Int)) ((l367.set y392.by_.toNat ((y462 - (1#32 <<< ((BitVec.ofInt 64 y392.to)).toNat))))) l369)
  else
  syllogistref_Roles_k401 l371 nx390 ((0 : Int)) l367 l369))))))

def syllogistref_Roles (fuel : Nat) (n_0 : Int) (pairs_1 : List (Int × Int)) (odds_2 : List (BitVec 32)) (users_3 : Int) (script_4 : List Deed) : Option (Roles) :=
  bif decide (0 ≤ users_3 ∧ users_3 ≤ 1048576) then
  forK (σ := (List (BitVec 32)) × (List (BitVec 32)) × (List Int)) (fun i s nx_ => syllogistref_Roles_b389 n_0 pairs_1 odds_2 users_3 script_4 fuel i s.1 s.2.1 s.2.2 nx_) (fun s => syllogistref_Roles_k379 s.1 s.2.1 s.2.2) ((script_4.length : Int) - (0 : Int)).toNat (0 : Int) (((List.replicate users_3.toNat (0#32))), ((List.replicate users_3.toNat (0#32))), (([] : List Int))) else none

set_option maxRecDepth 100000 in
set_option maxHeartbeats 4000000 in
theorem syllogistref_Roles_ok (w0 : World) (m : Snap) (l : List HI) (fuel : Nat) (n_0 : Int) (upairs_1 : Value) (pairs_1 : List (Int × Int)) (hpairs_1 : RS rP m upairs_1 pairs_1) (uodds_2 : Value) (odds_2 : List (BitVec 32)) (hodds_2 : RS rU m uodds_2 odds_2) (users_3 : Int) (uscript_4 : Value) (script_4 : List Deed) (hscript_4 : RS rDeed m uscript_4 script_4) (r : Roles) (hr : syllogistref_Roles fuel n_0 pairs_1 odds_2 users_3 script_4 = some r) (w : World) (hc : cX w0 ⟨m, l⟩ w) :
    Calls Try.prog 20 [.int .i64 n_0, upairs_1, uodds_2, .int .i64 users_3, uscript_4].toArray w fun e w' => ∃ z0 : Value, ∃ z1 : Value, ∃ z2 : Value, ∃ m1 : Snap, e = .returned (.agg #[z0, z1, z2]) ∧ Sle m m1 ∧ RS rI m1 z0 r.codes ∧ RS rU m1 z1 r.given ∧ RS rU m1 z2 r.play ∧ cX w0 ⟨m1, l⟩ w' := by
  unfold syllogistref_Roles at hr
  refine calls_of_Tr (N := 212) Try.func20 rfl hc rfl (Nat.le_of_ble_eq_true rfl) ?_
  refine Tr.seq ?_
  refine Tr.addnil 23 1 ?_
  refine Tr.cast (m' := m) (l' := hownT 23 1 encI (.slice none 0 0) (([] : List Int)) :: l) rfl rfl ?_
  refine Tr.addnil 31 1 ?_
  refine Tr.cast (m' := m) (l' := hownT 31 1 encU (.slice none 0 0) (([] : List (BitVec 32))) :: hownT 23 1 encI (.slice none 0 0) (([] : List Int)) :: l) rfl rfl ?_
  refine Tr.addnil 31 1 ?_
  refine Tr.cast (m' := m) (l' := hownT 31 1 encU (.slice none 0 0) (([] : List (BitVec 32))) :: hownT 31 1 encU (.slice none 0 0) (([] : List (BitVec 32))) :: hownT 23 1 encI (.slice none 0 0) (([] : List Int)) :: l) rfl rfl ?_
  refine Tr.region_f (fun i => Nat.beq i 0) ?_
  refine W.e rfl rfl rfl rfl (by decide) (Ef.al rfl ZR49 rfl) ?_
  rintro _ _ ⟨b4, rfl, rfl⟩
  refine ⟨.inl rfl, ?_⟩
  refine W.cast (m' := m) (l' := hcells b4 [_, _, _] 49 :: hownT 31 1 encU (.slice none 0 0) (([] : List (BitVec 32))) :: hownT 31 1 encU (.slice none 0 0) (([] : List (BitVec 32))) :: hownT 23 1 encI (.slice none 0 0) (([] : List Int)) :: l) rfl rfl ?_
  refine W.end ?_
  refine NX.sub (env' := [(0, _), (1, _), (2, _), (3, _), (4, _), (10, _)]) ⟨rfl, rfl, rfl, rfl, rfl, rfl, trivial⟩ ?_
  refine NX.then ?_
  refine Tr.seq ?_
  refine Tr.addnil 23 1 ?_
  refine Tr.cast (m' := m) (l' := hownT 23 1 encI (.slice none 0 0) (([] : List Int)) :: hcells b4 [(.slice none 0 0), (.slice none 0 0), (.slice none 0 0)] 49 :: hownT 31 1 encU (.slice none 0 0) (([] : List (BitVec 32))) :: hownT 31 1 encU (.slice none 0 0) (([] : List (BitVec 32))) :: hownT 23 1 encI (.slice none 0 0) (([] : List Int)) :: l) rfl rfl ?_
  refine Tr.addnil 31 1 ?_
  refine Tr.cast (m' := m) (l' := hownT 31 1 encU (.slice none 0 0) (([] : List (BitVec 32))) :: hownT 23 1 encI (.slice none 0 0) (([] : List Int)) :: hcells b4 [(.slice none 0 0), (.slice none 0 0), (.slice none 0 0)] 49 :: hownT 31 1 encU (.slice none 0 0) (([] : List (BitVec 32))) :: hownT 31 1 encU (.slice none 0 0) (([] : List (BitVec 32))) :: hownT 23 1 encI (.slice none 0 0) (([] : List Int)) :: l) rfl rfl ?_
  refine Tr.addnil 31 1 ?_
  refine Tr.cast (m' := m) (l' := hownT 31 1 encU (.slice none 0 0) (([] : List (BitVec 32))) :: hownT 31 1 encU (.slice none 0 0) (([] : List (BitVec 32))) :: hownT 23 1 encI (.slice none 0 0) (([] : List Int)) :: hcells b4 [(.slice none 0 0), (.slice none 0 0), (.slice none 0 0)] 49 :: hownT 31 1 encU (.slice none 0 0) (([] : List (BitVec 32))) :: hownT 31 1 encU (.slice none 0 0) (([] : List (BitVec 32))) :: hownT 23 1 encI (.slice none 0 0) (([] : List Int)) :: l) rfl rfl ?_
  refine Tr.join (S := fun env x => ∃ b259 : Nat, ∃ v179 : Value, ∃ v99 : Value, env = [(0, .int .i64 n_0), (1, upairs_1), (2, uodds_2), (3, .int .i64 users_3), (4, uscript_4), (10, bp b4 0), (11, bp b259 0)] ∧ x = ⟨m, hcells b259 [(.slice none 0 0), v99, v179] 49 :: hownT 31 1 encU v179 ((List.replicate users_3.toNat (0#32))) :: hownT 31 1 encU v99 ((List.replicate users_3.toNat (0#32))) :: hownT 23 1 encI (.slice none 0 0) (([] : List Int)) :: hcells b4 [(.slice none 0 0), (.slice none 0 0), (.slice none 0 0)] 49 :: hownT 31 1 encU (.slice none 0 0) (([] : List (BitVec 32))) :: hownT 31 1 encU (.slice none 0 0) (([] : List (BitVec 32))) :: hownT 23 1 encI (.slice none 0 0) (([] : List Int)) :: l⟩ ∧ (forK (σ := (List (BitVec 32)) × (List (BitVec 32)) × (List Int)) (fun i s nx_ => syllogistref_Roles_b389 n_0 pairs_1 odds_2 users_3 script_4 fuel i s.1 s.2.1 s.2.2 nx_) (fun s => syllogistref_Roles_k379 s.1 s.2.1 s.2.2) ((script_4.length : Int) - (0 : Int)).toNat (0 : Int) (((List.replicate users_3.toNat (0#32))), ((List.replicate users_3.toNat (0#32))), (([] : List Int)))) = some r) ?_ (fun hk299 => ?_)
  · rintro _ _ ⟨b259, v179, v99, rfl, rfl, hr⟩
    refine NX.then ?_
    refine Tr.seq ?_
    refine Tr.seq ?_
    refine Tr.region_f (fun _ => false) ?_
    refine W.q rfl rfl rfl rfl (by decide) (Yd.mv rfl (.t rfl)) ?_
    refine W.q rfl rfl rfl rfl (by decide) (Yd.lenR hscript_4 rfl Try.underlying46 (.t rfl)) ?_
    refine W.q rfl rfl rfl rfl (by decide) (Yd.mv rfl .c) ?_
    refine W.end ?_
    refine NX.sub (env' := [(0, _), (1, _), (2, _), (3, _), (10, _), (11, _), (24, _), (25, _), (26, _)]) ⟨rfl, rfl, rfl, rfl, rfl, rfl, rfl, rfl, rfl, trivial⟩ ?_
    refine NX.then ?_
    refine Tr.join (S := fun env x => ∃ l373 : List (BitVec 32), ∃ l375 : List (BitVec 32), ∃ l377 : List Int, ∃ v374 : Value, ∃ v376 : Value, ∃ v378 : Value, env = [(10, bp b4 0), (11, bp b259 0)] ∧ x = ⟨m, hcells b259 [v378, v376, v374] 49 :: hownT 31 1 encU v374 l373 :: hownT 31 1 encU v376 l375 :: hownT 23 1 encI v378 l377 :: hcells b4 [(.slice none 0 0), (.slice none 0 0), (.slice none 0 0)] 49 :: hownT 31 1 encU (.slice none 0 0) (([] : List (BitVec 32))) :: hownT 31 1 encU (.slice none 0 0) (([] : List (BitVec 32))) :: hownT 23 1 encI (.slice none 0 0) (([] : List Int)) :: l⟩ ∧ syllogistref_Roles_k379 l373 l375 l377 = some r) ?_ (fun hk380 => ?_)
    · rintro _ _ ⟨l373, l375, l377, v374, v376, v378, rfl, rfl, hr⟩
      unfold syllogistref_Roles_k379 at hr
      try dsimp only at hr
      refine NX.then ?_
      refine Tr.seq ?_
      refine Tr.region_f (fun i => Nat.beq i 1) ?_
      refine W.q rfl rfl rfl rfl (by decide) (Yd.ldBs (pos := 0) (us := [_, _, _]) rfl rfl rfl rfl ON49 US49 SZ49 (.t rfl)) ?_
      refine W.s rfl rfl rfl rfl (Ef.stBs (pos := 4) (us := [v378, v376, v374]) (cs' := [_, _, _]) (.cons (On.own (pos := 3) rfl) (.cons (On.own (pos := 2) rfl) (.cons (On.own (pos := 1) rfl) .nil))) rfl rfl (.t rfl) (.t rfl) SZ49 rfl rfl (Nat.le_of_ble_eq_true rfl) rfl) ?_
      rintro _ _ ⟨rfl, rfl⟩
      refine ⟨.inl rfl, ?_⟩
      refine W.cast (m' := m) (l' := hcells b259 [_, _, _] 49 :: hownT 31 1 encU v374 _ :: hownT 31 1 encU v376 _ :: hownT 23 1 encI v378 _ :: hcells b4 [_, _, _] 49 :: hownT 31 1 encU (.slice none 0 0) (([] : List (BitVec 32))) :: hownT 31 1 encU (.slice none 0 0) (([] : List (BitVec 32))) :: hownT 23 1 encI (.slice none 0 0) (([] : List Int)) :: l) rfl rfl ?_
      refine W.end ?_
      refine NX.sub (env' := [(10, _)]) ⟨rfl, trivial⟩ ?_
      refine NX.drop (l' := hownT 31 1 encU v374 _ :: hownT 31 1 encU v376 _ :: hownT 23 1 encI v378 _ :: hcells b4 [_, _, _] 49 :: l) (.cons _ (.cons_cons _ (.cons_cons _ (.cons_cons _ (.cons_cons _ (.cons _ (.cons _ (.cons _ (.refl _))))))))) ?_
      refine NX.then ?_
      refine Tr.ret' ?_
      refine resV1 rfl (Rv.cs (pos := 3) rfl rfl rfl ON49 US49 SZ49) ?_
      intro w hc
      cases hr
      obtain ⟨m381, hsm381, hu382, hc⟩ := cX_freeze (enc := encI) (n := 1) (p := 2) (fun _ => rfl) hc rfl
      have hpairs_1 := hpairs_1.mono hsm381
      have hodds_2 := hodds_2.mono hsm381
      have hscript_4 := hscript_4.mono hsm381
      obtain ⟨m383, hsm383, hu384, hc⟩ := cX_freeze (enc := encU) (n := 1) (p := 1) (fun _ => rfl) hc rfl
      have hpairs_1 := hpairs_1.mono hsm383
      have hodds_2 := hodds_2.mono hsm383
      have hscript_4 := hscript_4.mono hsm383
      have hu382 := hu382.mono hsm383
      obtain ⟨m385, hsm385, hu386, hc⟩ := cX_freeze (enc := encU) (n := 1) (p := 0) (fun _ => rfl) hc rfl
      have hpairs_1 := hpairs_1.mono hsm385
      have hodds_2 := hodds_2.mono hsm385
      have hscript_4 := hscript_4.mono hsm385
      have hu382 := hu382.mono hsm385
      have hu384 := hu384.mono hsm385
      exact ⟨_, _, _, _, rfl, ((hsm381.trans hsm383).trans hsm385), hu382, hu384, hu386, (cX_sub (.cons _ (.refl _)) hc)⟩
    have hlen387 := (hscript_4).2.1
    refine Tr.block ?_
    refine Tr.sub (env' := [(0, _), (1, _), (2, _), (3, _), (10, _), (11, _), (24, _), (25, _), (26, _)]) ⟨rfl, rfl, rfl, rfl, rfl, rfl, rfl, rfl, rfl, trivial⟩ ?_
    refine Tr.loop (S := fun n (z : Int × (List (BitVec 32)) × (List (BitVec 32)) × (List Int)) env x => match z with | (t_388, l367, l369, l371) => ∃ v368 : Value, ∃ v370 : Value, ∃ v372 : Value, env = [(0, .int .i64 n_0), (1, upairs_1), (2, uodds_2), (3, .int .i64 users_3), (10, bp b4 0), (11, bp b259 0), (24, uscript_4), (25, .int .i64 ((script_4.length : Int))), (26, .int .i64 t_388)] ∧ x = ⟨m, hcells b259 [v372, v370, v368] 49 :: hownT 31 1 encU v368 l367 :: hownT 31 1 encU v370 l369 :: hownT 23 1 encI v372 l371 :: hcells b4 [(.slice none 0 0), (.slice none 0 0), (.slice none 0 0)] 49 :: hownT 31 1 encU (.slice none 0 0) (([] : List (BitVec 32))) :: hownT 31 1 encU (.slice none 0 0) (([] : List (BitVec 32))) :: hownT 23 1 encI (.slice none 0 0) (([] : List Int)) :: l⟩ ∧ n = ((script_4.length : Int) - t_388).toNat ∧ 0 ≤ t_388 ∧ forK (σ := (List (BitVec 32)) × (List (BitVec 32)) × (List Int)) (fun i s nx_ => syllogistref_Roles_b389 n_0 pairs_1 odds_2 users_3 script_4 fuel i s.1 s.2.1 s.2.2 nx_) (fun s => syllogistref_Roles_k379 s.1 s.2.1 s.2.2) n t_388 (l367, l369, l371) = some r) _ ((0 : Int), (List.replicate users_3.toNat (0#32)), (List.replicate users_3.toNat (0#32)), ([] : List Int)) ⟨_, _, _, rfl, rfl, rfl, (by omega), hr⟩ ?_
    rintro n391 ⟨t_388, l367, l369, l371⟩ env x ⟨v368, v370, v372, rfl, rfl, hnt_388, h0t_388, hr⟩
    cases n391 with
    | zero =>
      simp only [forK] at hr
      refine Tr.seq ?_
      refine Tr.region_f (fun _ => false) ?_
      refine W.q rfl rfl rfl rfl (by decide) (Yd.lss rfl (.t rfl) (.t rfl)) ?_
      refine W.end ?_
      refine NX.sub (env' := [(0, _), (1, _), (2, _), (3, _), (10, _), (11, _), (24, _), (25, _), (26, _), (27, _)]) ⟨rfl, rfl, rfl, rfl, rfl, rfl, rfl, rfl, rfl, rfl, trivial⟩ ?_
      refine NX.then ?_
      refine Tr.seq ?_
      refine Tr.cond (.t rfl) (fun hb => ?_) (fun hb => ?_)
      · exact absurd (hb.symm.trans (fr_end hnt_388)) (by decide)
      ·
        refine Tr.exit' (EX.then (EX.then (EX.block ?_)))
        refine NX.sub (env' := [(10, _), (11, _)]) ⟨rfl, rfl, trivial⟩ ?_
        exact hk380 _ _ ⟨_, _, _, _, _, _, rfl, rfl, hr⟩
    | succ n391 =>
      obtain ⟨nx390, hnx390, hr⟩ := forK_succ hr
      try dsimp only at hr
      unfold syllogistref_Roles_b389 at hr
      try dsimp only at hr
      have hltt_388 := fr_bnd hnt_388
      refine Tr.seq ?_
      refine Tr.region_f (fun _ => false) ?_
      refine W.q rfl rfl rfl rfl (by decide) (Yd.lss rfl (.t rfl) (.t rfl)) ?_
      refine W.end ?_
      refine NX.sub (env' := [(0, _), (1, _), (2, _), (3, _), (10, _), (11, _), (24, _), (25, _), (26, _), (27, _)]) ⟨rfl, rfl, rfl, rfl, rfl, rfl, rfl, rfl, rfl, rfl, trivial⟩ ?_
      refine NX.then ?_
      refine Tr.seq ?_
      refine Tr.cond (.t rfl) (fun hb => ?_) (fun hb => ?_)
      rotate_left
      · exact absurd (hb.symm.trans (fr_go hnt_388)) (by decide)
      ·
        refine Tr.skip' ?_
        refine NX.then ?_
        refine Tr.seq ?_
        refine Tr.block ?_
        refine Tr.seq ?_
        obtain ⟨y392, hy393, hr⟩ := bind_some hr
        refine Tr.region_f (fun i => Nat.beq i 2 || Nat.beq i 3) ?_
        refine W.q rfl rfl rfl rfl (by decide) (Yd.idxR hscript_4 hy393 rfl Try.underlying46 SZ74 (.t rfl) (.t rfl)) ?_
        refine W.q rfl rfl rfl rfl (by decide) (Yd.ldFs (us := [_, _, _, _, _, _]) hscript_4 (.refl _) hy393 rfl rfl ON74 US74 SZ74 (.t rfl)) ?_
        refine W.e rfl rfl rfl rfl (by decide) (Ef.al rfl ZR74 rfl) ?_
        rintro _ _ ⟨b394, rfl, rfl⟩
        refine ⟨.inl rfl, ?_⟩
        refine W.cast (m' := m) (l' := hcells b394 [_, _, _, _, _, _] 74 :: hcells b259 [_, _, _] 49 :: hownT 31 1 encU v368 _ :: hownT 31 1 encU v370 _ :: hownT 23 1 encI v372 _ :: hcells b4 [_, _, _] 49 :: hownT 31 1 encU (.slice none 0 0) (([] : List (BitVec 32))) :: hownT 31 1 encU (.slice none 0 0) (([] : List (BitVec 32))) :: hownT 23 1 encI (.slice none 0 0) (([] : List Int)) :: l) rfl rfl ?_
        refine W.s rfl rfl rfl rfl (Ef.stB (pos := 0) (us := [_, _, _, _, _, _]) (cs' := [_, _, _, _, _, _]) rfl rfl (.t rfl) (.t rfl) SZ74 rfl rfl rfl (Nat.le_of_ble_eq_true rfl) rfl) ?_
        rintro _ _ ⟨rfl, rfl⟩
        refine ⟨.inl rfl, ?_⟩
        refine W.cast (m' := m) (l' := hcells b394 [_, _, _, _, _, _] 74 :: hcells b259 [_, _, _] 49 :: hownT 31 1 encU v368 _ :: hownT 31 1 encU v370 _ :: hownT 23 1 encI v372 _ :: hcells b4 [_, _, _] 49 :: hownT 31 1 encU (.slice none 0 0) (([] : List (BitVec 32))) :: hownT 31 1 encU (.slice none 0 0) (([] : List (BitVec 32))) :: hownT 23 1 encI (.slice none 0 0) (([] : List Int)) :: l) rfl rfl ?_
        refine W.end ?_
        refine NX.sub (env' := [(0, _), (1, _), (2, _), (3, _), (10, _), (11, _), (24, _), (25, _), (26, _), (13, _)]) ⟨rfl, rfl, rfl, rfl, rfl, rfl, rfl, rfl, rfl, rfl, trivial⟩ ?_
        refine NX.then ?_
        refine Tr.seq ?_
        refine Tr.region_f (fun _ => false) ?_
        refine W.q rfl rfl rfl rfl (by decide) (Yd.as rfl .c) ?_
        refine W.end ?_
        refine NX.sub (env' := [(0, _), (1, _), (2, _), (3, _), (10, _), (11, _), (24, _), (25, _), (26, _), (13, _), (14, _)]) ⟨rfl, rfl, rfl, rfl, rfl, rfl, rfl, rfl, rfl, rfl, rfl, trivial⟩ ?_
        refine NX.then ?_
        refine Tr.seq ?_
        refine Tr.seq ?_
        refine Tr.region_f (fun _ => false) ?_
        refine W.q rfl rfl rfl rfl (by decide) (Yd.fldB rfl Try.underlying74 rfl SZ3 rfl (.t rfl)) ?_
        refine W.q rfl rfl rfl rfl (by decide) (Yd.ldB (pos := 0) rfl rfl rfl ON3 (.t rfl)) ?_
        refine W.q rfl rfl rfl rfl (by decide) (Yd.lss rfl (.t rfl) .c) ?_
        refine W.q rfl rfl rfl rfl (by decide) (Yd.mv rfl (.t rfl)) ?_
        refine W.g rfl rfl rfl rfl rfl (.t rfl _) rfl (by decide) (fun hG => Yd.fldB rfl Try.underlying74 rfl SZ3 rfl (.t rfl)) ?_
        refine W.g rfl rfl rfl rfl rfl (.t rfl _) rfl (by decide) (fun hG => Yd.ldB (pos := 0) rfl rfl rfl ON3 (.g rfl hG)) ?_
        refine W.g rfl rfl rfl rfl rfl (.t rfl _) rfl (by decide) (fun hG => Yd.gtr rfl (.g rfl hG) .c) ?_
        refine W.q rfl rfl rfl rfl (by decide) (Yd.or rfl (.t rfl) .c rfl rfl) ?_
        refine W.end ?_
        refine NX.sub (env' := [(0, _), (1, _), (2, _), (3, _), (10, _), (11, _), (24, _), (25, _), (26, _), (13, _), (14, _), (37, _)]) ⟨rfl, rfl, rfl, rfl, rfl, rfl, rfl, rfl, rfl, rfl, rfl, rfl, trivial⟩ ?_
        refine NX.then ?_
        refine Tr.join (S := fun env x => ∃ e_396 : Int, ∃ l397 : List (BitVec 32), ∃ l399 : List (BitVec 32), ∃ v398 : Value, ∃ v400 : Value, env = [(0, .int .i64 n_0), (1, upairs_1), (2, uodds_2), (3, .int .i64 users_3), (10, bp b4 0), (11, bp b259 0), (24, uscript_4), (25, .int .i64 ((script_4.length : Int))), (26, .int .i64 t_388), (14, .int .i64 e_396)] ∧ x = ⟨m, hcells b259 [v372, v400, v398] 49 :: hownT 31 1 encU v398 l397 :: hownT 31 1 encU v400 l399 :: hownT 23 1 encI v372 l371 :: hcells b4 [(.slice none 0 0), (.slice none 0 0), (.slice none 0 0)] 49 :: hownT 31 1 encU (.slice none 0 0) (([] : List (BitVec 32))) :: hownT 31 1 encU (.slice none 0 0) (([] : List (BitVec 32))) :: hownT 23 1 encI (.slice none 0 0) (([] : List Int)) :: l⟩ ∧ syllogistref_Roles_k401 l371 nx390 e_396 l397 l399 = some r) ?_ (fun hk402 => ?_)
        · rintro _ _ ⟨e_396, l397, l399, v398, v400, rfl, rfl, hr⟩
          unfold syllogistref_Roles_k401 at hr
          try dsimp only at hr
          refine NX.then ?_
          obtain ⟨hq406, hr⟩ := guard_some hr; replace hq406 := of_decide_eq_true hq406
          refine Tr.region_f (fun i => Nat.beq i 3 || Nat.beq i 4 || Nat.beq i 6) ?_
          refine W.q rfl rfl rfl rfl (by decide) (Yd.fldB rfl Try.underlying49 rfl SZ47 rfl (.t rfl)) ?_
          refine W.q rfl rfl rfl rfl (by decide) (Yd.ldB (pos := 0) rfl rfl rfl ON47 (.t rfl)) ?_
          refine W.q rfl rfl rfl rfl (by decide) (Yd.mv rfl (.t rfl)) ?_
          refine W.e rfl rfl rfl rfl (by decide) (Ef.bsT (enc := encI) (vs := [_]) (ys := [e_396]) (fun _ => rfl) IF23 rfl Try.underlying47 (by decide) rfl (.cons (.t rfl) .nil) rfl rfl (by decide)) ?_
          rintro v403 _ rfl
          refine ⟨.inl rfl, ?_⟩
          refine W.cast (m' := m) (l' := hownT 23 1 encI v403 _ :: hcells b259 [_, _, _] 49 :: hownT 31 1 encU v398 _ :: hownT 31 1 encU v400 _ :: hownT 23 1 encI v372 _ :: hcells b4 [_, _, _] 49 :: hownT 31 1 encU (.slice none 0 0) (([] : List (BitVec 32))) :: hownT 31 1 encU (.slice none 0 0) (([] : List (BitVec 32))) :: hownT 23 1 encI (.slice none 0 0) (([] : List Int)) :: l) rfl rfl ?_
          refine W.e rfl rfl rfl rfl (by decide) (Ef.apI (pos := 4) (enc := encI) (xs := l371) (ys := ([e_396] : List Int)) (fun _ => rfl) IF23 rfl rfl Try.underlying47 rfl (by decide) (.t rfl) (.t rfl) (Src.own (pos := 0) rfl) (fun _ => rfl) (by omega) (by omega)) ?_
          rintro v405 _ rfl
          refine ⟨.inl rfl, ?_⟩
          refine W.cast (m' := m) (l' := hownT 23 1 encI v403 _ :: hcells b259 [_, _, _] 49 :: hownT 31 1 encU v398 _ :: hownT 31 1 encU v400 _ :: hownT 23 1 encI v405 _ :: hcells b4 [_, _, _] 49 :: hownT 31 1 encU (.slice none 0 0) (([] : List (BitVec 32))) :: hownT 31 1 encU (.slice none 0 0) (([] : List (BitVec 32))) :: hownT 23 1 encI (.slice none 0 0) (([] : List Int)) :: l) rfl rfl ?_
          refine W.q rfl rfl rfl rfl (by decide) (Yd.fldB rfl Try.underlying49 rfl SZ47 rfl (.t rfl)) ?_
          refine W.s rfl rfl rfl rfl (Ef.stBo (pos := 1) (pos2 := 4) (cs' := [_, _, _]) rfl rfl rfl (.t rfl) (.t rfl) SZ47 (Nat.le_of_ble_eq_true rfl) rfl) ?_
          rintro _ _ ⟨rfl, rfl⟩
          refine ⟨.inl rfl, ?_⟩
          refine W.cast (m' := m) (l' := hownT 23 1 encI v403 _ :: hcells b259 [_, _, _] 49 :: hownT 31 1 encU v398 _ :: hownT 31 1 encU v400 _ :: hownT 23 1 encI v405 _ :: hcells b4 [_, _, _] 49 :: hownT 31 1 encU (.slice none 0 0) (([] : List (BitVec 32))) :: hownT 31 1 encU (.slice none 0 0) (([] : List (BitVec 32))) :: hownT 23 1 encI (.slice none 0 0) (([] : List Int)) :: l) rfl rfl ?_
          refine W.end ?_
          refine NX.sub (env' := [(0, _), (1, _), (2, _), (3, _), (10, _), (11, _), (24, _), (25, _), (26, _)]) ⟨rfl, rfl, rfl, rfl, rfl, rfl, rfl, rfl, rfl, trivial⟩ ?_
          refine NX.drop (l' := hcells b259 [_, _, _] 49 :: hownT 31 1 encU v398 _ :: hownT 31 1 encU v400 _ :: hownT 23 1 encI v405 _ :: hcells b4 [_, _, _] 49 :: hownT 31 1 encU (.slice none 0 0) (([] : List (BitVec 32))) :: hownT 31 1 encU (.slice none 0 0) (([] : List (BitVec 32))) :: hownT 23 1 encI (.slice none 0 0) (([] : List Int)) :: l) (.cons _ (.cons_cons _ (.cons_cons _ (.cons_cons _ (.cons_cons _ (.cons_cons _ (.cons_cons _ (.cons_cons _ (.cons_cons _ (.refl _)))))))))) ?_
          refine NX.block ?_
          refine NX.then ?_
          refine Tr.region_f (fun _ => false) ?_
          refine W.q rfl rfl rfl rfl (by decide) (Yd.add rfl (.t rfl) .c) ?_
          refine W.q rfl rfl rfl rfl (by decide) (Yd.mv rfl (.t rfl)) ?_
          refine W.end ?_
          refine NX.sub (env' := [(0, _), (1, _), (2, _), (3, _), (10, _), (11, _), (24, _), (25, _), (26, _)]) ⟨rfl, rfl, rfl, rfl, rfl, rfl, rfl, rfl, rfl, trivial⟩ ?_
          refine NX.sub (env' := [(0, _), (1, _), (2, _), (3, _), (10, _), (11, _), (24, _), (25, _), (26, _)]) ⟨rfl, rfl, rfl, rfl, rfl, rfl, rfl, rfl, rfl, trivial⟩ ?_
          have hw := w64_id (n := t_388 + 1) (by omega) (by omega)
          exact NX.again n391 (t_388 + 1, l397, l399, (l371 ++ ([e_396] : List Int))) (Nat.lt_succ_self _) ⟨_, _, _, (by rw [hw] <;> rfl), rfl, (fr_dec hnt_388), (by omega), ((hnx390 _).symm.trans hr)⟩
        refine Tr.cond (.t rfl) (fun hb => ?_) (fun hb => ?_)
        · have hr := cond_t hb hr
          refine Tr.region_f (fun _ => false) ?_
          refine W.q rfl rfl rfl rfl (by decide) (Yd.as rfl .c) ?_
          refine W.end ?_
          refine NX.sub (env' := [(0, _), (1, _), (2, _), (3, _), (10, _), (11, _), (24, _), (25, _), (26, _), (14, _)]) ⟨rfl, rfl, rfl, rfl, rfl, rfl, rfl, rfl, rfl, rfl, trivial⟩ ?_
          refine NX.drop (l' := hcells b259 [_, _, _] 49 :: hownT 31 1 encU v368 _ :: hownT 31 1 encU v370 _ :: hownT 23 1 encI v372 _ :: hcells b4 [_, _, _] 49 :: hownT 31 1 encU (.slice none 0 0) (([] : List (BitVec 32))) :: hownT 31 1 encU (.slice none 0 0) (([] : List (BitVec 32))) :: hownT 23 1 encI (.slice none 0 0) (([] : List Int)) :: l) (.cons _ (.cons_cons _ (.cons_cons _ (.cons_cons _ (.cons_cons _ (.cons_cons _ (.cons_cons _ (.cons_cons _ (.cons_cons _ (.refl _)))))))))) ?_
          refine NX.sub (env' := [(0, _), (1, _), (2, _), (3, _), (10, _), (11, _), (24, _), (25, _), (26, _), (14, _)]) ⟨rfl, rfl, rfl, rfl, rfl, rfl, rfl, rfl, rfl, rfl, trivial⟩ ?_
          exact hk402 _ _ ⟨_, _, _, _, _, rfl, rfl, hr⟩
        · have hr := cond_f hb hr
          refine Tr.seq ?_
          refine Tr.region_f (fun _ => false) ?_
          refine W.q rfl rfl rfl rfl (by decide) (Yd.fldB rfl Try.underlying74 rfl SZ3 rfl (.t rfl)) ?_
          refine W.q rfl rfl rfl rfl (by decide) (Yd.ldB (pos := 0) rfl rfl rfl ON3 (.t rfl)) ?_
          refine W.q rfl rfl rfl rfl (by decide) (Yd.lss rfl (.t rfl) .c) ?_
          refine W.q rfl rfl rfl rfl (by decide) (Yd.mv rfl (.t rfl)) ?_
          refine W.g rfl rfl rfl rfl rfl (.t rfl _) rfl (by decide) (fun hG => Yd.fldB rfl Try.underlying74 rfl SZ3 rfl (.t rfl)) ?_
          refine W.g rfl rfl rfl rfl rfl (.t rfl _) rfl (by decide) (fun hG => Yd.ldB (pos := 0) rfl rfl rfl ON3 (.g rfl hG)) ?_
          refine W.g rfl rfl rfl rfl rfl (.t rfl _) rfl (by decide) (fun hG => Yd.mv rfl (.t rfl)) ?_
          refine W.g rfl rfl rfl rfl rfl (.t rfl _) rfl (by decide) (fun hG => Yd.geq rfl (.g rfl hG) (.g rfl hG)) ?_
          refine W.q rfl rfl rfl rfl (by decide) (Yd.or rfl (.t rfl) .c rfl rfl) ?_
          refine W.q rfl rfl rfl rfl (by decide) (Yd.mv rfl (.t rfl)) ?_
          refine W.g rfl rfl rfl rfl rfl (.t rfl _) rfl (by decide) (fun hG => Yd.fldB rfl Try.underlying74 rfl SZ3 rfl (.t rfl)) ?_
          refine W.g rfl rfl rfl rfl rfl (.t rfl _) rfl (by decide) (fun hG => Yd.ldB (pos := 0) rfl rfl rfl ON3 (.g rfl hG)) ?_
          refine W.g rfl rfl rfl rfl rfl (.t rfl _) rfl (by decide) (fun hG => Yd.lss rfl (.g rfl hG) .c) ?_
          refine W.q rfl rfl rfl rfl (by decide) (Yd.or rfl (.t rfl) .c rfl rfl) ?_
          refine W.q rfl rfl rfl rfl (by decide) (Yd.mv rfl (.t rfl)) ?_
          refine W.g rfl rfl rfl rfl rfl (.t rfl _) rfl (by decide) (fun hG => Yd.fldB rfl Try.underlying74 rfl SZ3 rfl (.t rfl)) ?_
          refine W.g rfl rfl rfl rfl rfl (.t rfl _) rfl (by decide) (fun hG => Yd.ldB (pos := 0) rfl rfl rfl ON3 (.g rfl hG)) ?_
          refine W.g rfl rfl rfl rfl rfl (.t rfl _) rfl (by decide) (fun hG => Yd.mv rfl (.t rfl)) ?_
          refine W.g rfl rfl rfl rfl rfl (.t rfl _) rfl (by decide) (fun hG => Yd.geq rfl (.g rfl hG) (.g rfl hG)) ?_
          refine W.q rfl rfl rfl rfl (by decide) (Yd.or rfl (.t rfl) .c rfl rfl) ?_
          refine W.end ?_
          refine NX.sub (env' := [(0, _), (1, _), (2, _), (3, _), (10, _), (11, _), (24, _), (25, _), (26, _), (13, _), (14, _), (57, _)]) ⟨rfl, rfl, rfl, rfl, rfl, rfl, rfl, rfl, rfl, rfl, rfl, rfl, trivial⟩ ?_
          refine NX.then ?_
          refine Tr.cond (.t rfl) (fun hb => ?_) (fun hb => ?_)
          · have hr := cond_t hb hr
            refine Tr.region_f (fun _ => false) ?_
            refine W.q rfl rfl rfl rfl (by decide) (Yd.as rfl .c) ?_
            refine W.end ?_
            refine NX.sub (env' := [(0, _), (1, _), (2, _), (3, _), (10, _), (11, _), (24, _), (25, _), (26, _), (14, _)]) ⟨rfl, rfl, rfl, rfl, rfl, rfl, rfl, rfl, rfl, rfl, trivial⟩ ?_
            refine NX.drop (l' := hcells b259 [_, _, _] 49 :: hownT 31 1 encU v368 _ :: hownT 31 1 encU v370 _ :: hownT 23 1 encI v372 _ :: hcells b4 [_, _, _] 49 :: hownT 31 1 encU (.slice none 0 0) (([] : List (BitVec 32))) :: hownT 31 1 encU (.slice none 0 0) (([] : List (BitVec 32))) :: hownT 23 1 encI (.slice none 0 0) (([] : List Int)) :: l) (.cons _ (.cons_cons _ (.cons_cons _ (.cons_cons _ (.cons_cons _ (.cons_cons _ (.cons_cons _ (.cons_cons _ (.cons_cons _ (.refl _)))))))))) ?_
            refine NX.sub (env' := [(0, _), (1, _), (2, _), (3, _), (10, _), (11, _), (24, _), (25, _), (26, _), (14, _)]) ⟨rfl, rfl, rfl, rfl, rfl, rfl, rfl, rfl, rfl, rfl, trivial⟩ ?_
            exact hk402 _ _ ⟨_, _, _, _, _, rfl, rfl, hr⟩
          · have hr := cond_f hb hr
            refine Tr.seq ?_
            refine Tr.region_f (fun _ => false) ?_
            refine W.q rfl rfl rfl rfl (by decide) (Yd.fldB rfl Try.underlying74 rfl SZ3 rfl (.t rfl)) ?_
            refine W.q rfl rfl rfl rfl (by decide) (Yd.ldB (pos := 0) rfl rfl rfl ON3 (.t rfl)) ?_
            refine W.q rfl rfl rfl rfl (by decide) (Yd.as rfl (.t rfl)) ?_
            refine W.end ?_
            refine NX.sub (env' := [(0, _), (1, _), (2, _), (3, _), (10, _), (11, _), (24, _), (25, _), (26, _), (13, _), (14, _), (15, _)]) ⟨rfl, rfl, rfl, rfl, rfl, rfl, rfl, rfl, rfl, rfl, rfl, rfl, trivial⟩ ?_
            refine NX.then ?_
            refine Tr.seq ?_
            refine Tr.region_f (fun _ => false) ?_
            refine W.q rfl rfl rfl rfl (by decide) (Yd.fldB rfl Try.underlying74 rfl SZ3 rfl (.t rfl)) ?_
            refine W.q rfl rfl rfl rfl (by decide) (Yd.ldB (pos := 0) rfl rfl rfl ON3 (.t rfl)) ?_
            refine W.q rfl rfl rfl rfl (by decide) (Yd.cvQ rfl US3 Try.underlying56 (.t rfl)) ?_
            refine W.q rfl rfl rfl rfl (by decide) (Yd.shlU (a := 1#32) rfl .c (.t rfl) (Int.natCast_nonneg _)) ?_
            refine W.q rfl rfl rfl rfl (by decide) (Yd.as rfl (.t rfl)) ?_
            refine W.end ?_
            refine NX.sub (env' := [(0, _), (1, _), (2, _), (3, _), (10, _), (11, _), (24, _), (25, _), (26, _), (13, _), (14, _), (15, _), (16, _)]) ⟨rfl, rfl, rfl, rfl, rfl, rfl, rfl, rfl, rfl, rfl, rfl, rfl, rfl, trivial⟩ ?_
            refine NX.then ?_
            refine Tr.seq ?_
            refine Tr.region_f (fun _ => false) ?_
            refine W.q rfl rfl rfl rfl (by decide) (Yd.fldB rfl Try.underlying74 rfl SZ3 rfl (.t rfl)) ?_
            refine W.q rfl rfl rfl rfl (by decide) (Yd.ldB (pos := 0) rfl rfl rfl ON3 (.t rfl)) ?_
            refine W.end ?_
            refine NX.sub (env' := [(0, _), (1, _), (2, _), (3, _), (10, _), (11, _), (24, _), (25, _), (26, _), (14, _), (15, _), (16, _), (65, _)]) ⟨rfl, rfl, rfl, rfl, rfl, rfl, rfl, rfl, rfl, rfl, rfl, rfl, rfl, trivial⟩ ?_
            refine NX.drop (l' := hcells b259 [_, _, _] 49 :: hownT 31 1 encU v368 _ :: hownT 31 1 encU v370 _ :: hownT 23 1 encI v372 _ :: hcells b4 [_, _, _] 49 :: hownT 31 1 encU (.slice none 0 0) (([] : List (BitVec 32))) :: hownT 31 1 encU (.slice none 0 0) (([] : List (BitVec 32))) :: hownT 23 1 encI (.slice none 0 0) (([] : List Int)) :: l) (.cons _ (.cons_cons _ (.cons_cons _ (.cons_cons _ (.cons_cons _ (.cons_cons _ (.cons_cons _ (.cons_cons _ (.cons_cons _ (.refl _)))))))))) ?_
            refine NX.then ?_
            refine Tr.block ?_
            refine Tr.seq ?_
            refine Tr.region_f (fun _ => false) ?_
            refine W.q rfl rfl rfl rfl (by decide) (Yd.eql rfl (.t rfl) .c) ?_
            refine W.q rfl rfl rfl rfl (by decide) (Yd.as rfl (.t rfl)) ?_
            refine W.end ?_
            refine NX.sub (env' := [(0, _), (1, _), (2, _), (3, _), (10, _), (11, _), (24, _), (25, _), (26, _), (14, _), (15, _), (16, _), (65, _), (66, _)]) ⟨rfl, rfl, rfl, rfl, rfl, rfl, rfl, rfl, rfl, rfl, rfl, rfl, rfl, rfl, trivial⟩ ?_
            refine NX.then ?_
            refine Tr.cond (.t rfl) (fun hb => ?_) (fun hb => ?_)
            · have hr := cond_t hb hr
              refine Tr.seq ?_
              refine Tr.seq ?_
              refine Tr.region_f (fun _ => false) ?_
              refine W.q rfl rfl rfl rfl (by decide) (Yd.mv rfl (.t rfl)) ?_
              refine W.q rfl rfl rfl rfl (by decide) (Yd.lenR hodds_2 rfl Try.underlying22 (.t rfl)) ?_
              refine W.q rfl rfl rfl rfl (by decide) (Yd.mv rfl .c) ?_
              refine W.end ?_
              refine NX.sub (env' := [(0, _), (1, _), (2, _), (3, _), (10, _), (11, _), (24, _), (25, _), (26, _), (14, _), (15, _), (16, _), (68, _), (69, _), (70, _)]) ⟨rfl, rfl, rfl, rfl, rfl, rfl, rfl, rfl, rfl, rfl, rfl, rfl, rfl, rfl, rfl, trivial⟩ ?_
              refine NX.then ?_
              refine Tr.join (S := fun env x => ∃ e_411 : Int, env = [(0, .int .i64 n_0), (1, upairs_1), (2, uodds_2), (3, .int .i64 users_3), (10, bp b4 0), (11, bp b259 0), (24, uscript_4), (25, .int .i64 ((script_4.length : Int))), (26, .int .i64 t_388), (14, .int .i64 e_411), (15, .int .i64 y392.by_), (16, .int .u32 (((1#32 <<< ((BitVec.ofInt 64 y392.to)).toNat)).toNat : Int))] ∧ x = ⟨m, hcells b259 [v372, v370, v368] 49 :: hownT 31 1 encU v368 l367 :: hownT 31 1 encU v370 l369 :: hownT 23 1 encI v372 l371 :: hcells b4 [(.slice none 0 0), (.slice none 0 0), (.slice none 0 0)] 49 :: hownT 31 1 encU (.slice none 0 0) (([] : List (BitVec 32))) :: hownT 31 1 encU (.slice none 0 0) (([] : List (BitVec 32))) :: hownT 23 1 encI (.slice none 0 0) (([] : List Int)) :: l⟩ ∧ syllogistref_Roles_k412 l367 l369 l371 nx390 y392 e_411 = some r) ?_ (fun hk413 => ?_)
              · rintro _ _ ⟨e_411, rfl, rfl, hr⟩
                unfold syllogistref_Roles_k412 at hr
                try dsimp only at hr
                refine NX.then ?_
                refine Tr.seq ?_
                refine Tr.seq ?_
                obtain ⟨ha414, hr⟩ := guard_some hr
                obtain ⟨ha415, hr⟩ := guard_some hr
                refine Tr.region_f (fun _ => false) ?_
                refine W.q rfl rfl rfl rfl (by decide) (Yd.mv rfl (.t rfl)) ?_
                refine W.q rfl rfl rfl rfl (by decide) (Yd.eql rfl (.t rfl) .c) ?_
                refine W.q rfl rfl rfl rfl (by decide) (Yd.mv rfl (.t rfl)) ?_
                refine W.g rfl rfl rfl rfl rfl (.t rfl _) rfl (by decide) (fun hG => Yd.mv rfl (.t rfl)) ?_
                refine W.g rfl rfl rfl rfl rfl (.t rfl _) rfl (by decide) (fun hG => Yd.fldB rfl Try.underlying49 rfl SZ22 rfl (.t rfl)) ?_
                refine W.g rfl rfl rfl rfl rfl (.t rfl _) rfl (by decide) (fun hG => Yd.ldB (pos := 0) rfl rfl rfl ON22 (.g rfl hG)) ?_
                refine W.g rfl rfl rfl rfl rfl (.t rfl _) rfl (by decide) (fun hG => Yd.mv rfl (.t rfl)) ?_
                refine W.g rfl rfl rfl rfl rfl (.t rfl _) rfl (by decide) (fun hG => Yd.idxT (pos := 2) rfl (gd_get (d := (0#32)) ha414 hG) rfl Try.underlying22 SZ31 (.g rfl hG) (.g rfl hG)) ?_
                refine W.g rfl rfl rfl rfl rfl (.t rfl _) rfl (by decide) (fun hG => Yd.ldT (enc := encU) (n := 1) (pos := 2) (fun _ => rfl) rfl (gd_get (d := (0#32)) ha414 hG) rfl rfl ON31 (.g rfl hG)) ?_
                refine W.g rfl rfl rfl rfl rfl (.t rfl _) rfl (by decide) (fun hG => Yd.call (v := .bool ((((syllogistref_In ((1#32 <<< ((BitVec.ofInt 64 y392.to)).toNat)) (((geti l369 y392.by_).getD (0#32)))).getD false)))) rfl Try.func24 rfl rfl (.cons (.g rfl hG) (.cons (.g rfl hG) .nil)) (fun x' hx w hw => syllogistref_In_ok w0 x'.m x'.l ((1#32 <<< ((BitVec.ofInt 64 y392.to)).toNat)) (((geti l369 y392.by_).getD (0#32))) _ (gd_get (d := false) ha415 hG) w hw)) ?_
                refine W.q rfl rfl rfl rfl (by decide) (Yd.and rfl (.t rfl) .c rfl rfl) ?_
                refine W.end ?_
                refine NX.sub (env' := [(0, _), (1, _), (2, _), (3, _), (10, _), (11, _), (24, _), (25, _), (26, _), (14, _), (15, _), (16, _), (99, _)]) ⟨rfl, rfl, rfl, rfl, rfl, rfl, rfl, rfl, rfl, rfl, rfl, rfl, rfl, trivial⟩ ?_
                refine NX.then ?_
                refine Tr.join (S := fun env x => ∃ e_416 : Int, env = [(0, .int .i64 n_0), (1, upairs_1), (2, uodds_2), (3, .int .i64 users_3), (10, bp b4 0), (11, bp b259 0), (24, uscript_4), (25, .int .i64 ((script_4.length : Int))), (26, .int .i64 t_388), (14, .int .i64 e_416), (15, .int .i64 y392.by_), (16, .int .u32 (((1#32 <<< ((BitVec.ofInt 64 y392.to)).toNat)).toNat : Int))] ∧ x = ⟨m, hcells b259 [v372, v370, v368] 49 :: hownT 31 1 encU v368 l367 :: hownT 31 1 encU v370 l369 :: hownT 23 1 encI v372 l371 :: hcells b4 [(.slice none 0 0), (.slice none 0 0), (.slice none 0 0)] 49 :: hownT 31 1 encU (.slice none 0 0) (([] : List (BitVec 32))) :: hownT 31 1 encU (.slice none 0 0) (([] : List (BitVec 32))) :: hownT 23 1 encI (.slice none 0 0) (([] : List Int)) :: l⟩ ∧ syllogistref_Roles_k417 l367 l369 l371 nx390 y392 e_416 = some r) ?_ (fun hk418 => ?_)
                · rintro _ _ ⟨e_416, rfl, rfl, hr⟩
                  unfold syllogistref_Roles_k417 at hr
                  try dsimp only at hr
                  refine NX.then ?_
                  refine Tr.seq ?_
                  refine Tr.region_f (fun _ => false) ?_
                  refine W.q rfl rfl rfl rfl (by decide) (Yd.mv rfl (.t rfl)) ?_
                  refine W.q rfl rfl rfl rfl (by decide) (Yd.eql rfl (.t rfl) .c) ?_
                  refine W.end ?_
                  refine NX.sub (env' := [(0, _), (1, _), (2, _), (3, _), (10, _), (11, _), (24, _), (25, _), (26, _), (14, _), (15, _), (16, _), (101, _)]) ⟨rfl, rfl, rfl, rfl, rfl, rfl, rfl, rfl, rfl, rfl, rfl, rfl, rfl, trivial⟩ ?_
                  refine NX.then ?_
                  refine Tr.cond (.t rfl) (fun hb => ?_) (fun hb => ?_)
                  · have hr := cond_t hb hr
                    obtain ⟨y419, hy420, hr⟩ := bind_some hr
                    refine Tr.region_x (fun i => Nat.beq i 11) (fun i => Nat.beq i 11) (Ord.of [0, 1, 2, 3, 4, 5, 6, 7, 8, 9, 10, 11]) FM (by kernel_rfl) ?_
                    refine W.q rfl rfl rfl rfl (by decide) (Yd.fldB rfl Try.underlying49 rfl SZ22 rfl (.t rfl)) ?_
                    refine W.q rfl rfl rfl rfl (by decide) (Yd.ldB (pos := 0) rfl rfl rfl ON22 (.t rfl)) ?_
                    refine W.q rfl rfl rfl rfl (by decide) (Yd.mv rfl (.t rfl)) ?_
                    refine W.q rfl rfl rfl rfl (by decide) (Yd.fldB rfl Try.underlying49 rfl SZ22 rfl (.t rfl)) ?_
                    refine W.q rfl rfl rfl rfl (by decide) (Yd.ldB (pos := 0) rfl rfl rfl ON22 (.t rfl)) ?_
                    refine W.q rfl rfl rfl rfl (by decide) (Yd.mv rfl (.t rfl)) ?_
                    refine W.q rfl rfl rfl rfl (by decide) (Yd.idxT (pos := 2) rfl hy420 rfl Try.underlying22 SZ31 (.t rfl) (.t rfl)) ?_
                    refine W.q rfl rfl rfl rfl (by decide) (Yd.ldT (enc := encU) (n := 1) (pos := 2) (fun _ => rfl) rfl hy420 rfl rfl ON31 (.t rfl)) ?_
                    refine W.q rfl rfl rfl rfl (by decide) (Yd.mv rfl (.t rfl)) ?_
                    refine W.q rfl rfl rfl rfl (by decide) (Yd.addU (a := y419) (b := (1#32 <<< ((BitVec.ofInt 64 y392.to)).toNat)) rfl (.t rfl) (.t rfl)) ?_
                    refine W.q rfl rfl rfl rfl (by decide) (Yd.idxT (pos := 2) rfl hy420 rfl Try.underlying22 SZ31 (.t rfl) (.t rfl)) ?_
                    refine W.s rfl rfl rfl rfl (Ef.stT (enc := encU) (n := 1) (pos := 2) (y := (y419 + (1#32 <<< ((BitVec.ofInt 64 y392.to)).toNat))) (us := [_]) (fun _ => rfl) rfl hy420 rfl (.t rfl) (.t rfl) SZ31 rfl rfl rfl (by decide)) ?_
                    rintro _ _ ⟨rfl, rfl⟩
                    refine ⟨.inl rfl, ?_⟩
                    refine W.cast (m' := m) (l' := hcells b259 [_, _, _] 49 :: hownT 31 1 encU v368 _ :: hownT 31 1 encU v370 _ :: hownT 23 1 encI v372 _ :: hcells b4 [_, _, _] 49 :: hownT 31 1 encU (.slice none 0 0) (([] : List (BitVec 32))) :: hownT 31 1 encU (.slice none 0 0) (([] : List (BitVec 32))) :: hownT 23 1 encI (.slice none 0 0) (([] : List Int)) :: l) rfl rfl ?_
                    refine W.end ?_
                    refine NX.sub (env' := [(0, _), (1, _), (2, _), (3, _), (10, _), (11, _), (24, _), (25, _), (26, _), (14, _)]) ⟨rfl, rfl, rfl, rfl, rfl, rfl, rfl, rfl, rfl, rfl, trivial⟩ ?_
                    refine NX.block ?_
                    refine NX.sub (env' := [(0, _), (1, _), (2, _), (3, _), (10, _), (11, _), (24, _), (25, _), (26, _), (14, _)]) ⟨rfl, rfl, rfl, rfl, rfl, rfl, rfl, rfl, rfl, rfl, trivial⟩ ?_
                    exact hk402 _ _ ⟨_, _, _, _, _, rfl, rfl, hr⟩
                  · have hr := cond_f hb hr
                    refine Tr.skip' ?_
                    refine NX.block ?_
                    refine NX.sub (env' := [(0, _), (1, _), (2, _), (3, _), (10, _), (11, _), (24, _), (25, _), (26, _), (14, _)]) ⟨rfl, rfl, rfl, rfl, rfl, rfl, rfl, rfl, rfl, rfl, trivial⟩ ?_
                    exact hk402 _ _ ⟨_, _, _, _, _, rfl, rfl, hr⟩
                refine Tr.cond (.t rfl) (fun hb => ?_) (fun hb => ?_)
                · have hr := cond_t hb hr
                  refine Tr.region_f (fun _ => false) ?_
                  refine W.q rfl rfl rfl rfl (by decide) (Yd.as rfl .c) ?_
                  refine W.end ?_
                  refine NX.sub (env' := [(0, _), (1, _), (2, _), (3, _), (10, _), (11, _), (24, _), (25, _), (26, _), (14, _), (15, _), (16, _)]) ⟨rfl, rfl, rfl, rfl, rfl, rfl, rfl, rfl, rfl, rfl, rfl, rfl, trivial⟩ ?_
                  refine NX.sub (env' := [(0, _), (1, _), (2, _), (3, _), (10, _), (11, _), (24, _), (25, _), (26, _), (14, _), (15, _), (16, _)]) ⟨rfl, rfl, rfl, rfl, rfl, rfl, rfl, rfl, rfl, rfl, rfl, rfl, trivial⟩ ?_
                  exact hk418 _ _ ⟨_, rfl, rfl, hr⟩
                · have hr := cond_f hb hr
                  refine Tr.skip' ?_
                  refine NX.sub (env' := [(0, _), (1, _), (2, _), (3, _), (10, _), (11, _), (24, _), (25, _), (26, _), (14, _), (15, _), (16, _)]) ⟨rfl, rfl, rfl, rfl, rfl, rfl, rfl, rfl, rfl, rfl, rfl, rfl, trivial⟩ ?_
                  exact hk418 _ _ ⟨_, rfl, rfl, hr⟩
              have hlen421 := (hodds_2).2.1
              refine Tr.block ?_
              refine Tr.sub (env' := [(0, _), (1, _), (2, _), (3, _), (10, _), (11, _), (14, _), (15, _), (16, _), (24, _), (25, _), (26, _), (68, _), (69, _), (70, _)]) ⟨rfl, rfl, rfl, rfl, rfl, rfl, rfl, rfl, rfl, rfl, rfl, rfl, rfl, rfl, rfl, trivial⟩ ?_
              refine Tr.loop (S := fun n (z : Int × Int) env x => match z with | (t_422, e_409) => env = [(0, .int .i64 n_0), (1, upairs_1), (2, uodds_2), (3, .int .i64 users_3), (10, bp b4 0), (11, bp b259 0), (14, .int .i64 e_409), (15, .int .i64 y392.by_), (16, .int .u32 (((1#32 <<< ((BitVec.ofInt 64 y392.to)).toNat)).toNat : Int)), (24, uscript_4), (25, .int .i64 ((script_4.length : Int))), (26, .int .i64 t_388), (68, uodds_2), (69, .int .i64 ((odds_2.length : Int))), (70, .int .i64 t_422)] ∧ x = ⟨m, hcells b259 [v372, v370, v368] 49 :: hownT 31 1 encU v368 l367 :: hownT 31 1 encU v370 l369 :: hownT 23 1 encI v372 l371 :: hcells b4 [(.slice none 0 0), (.slice none 0 0), (.slice none 0 0)] 49 :: hownT 31 1 encU (.slice none 0 0) (([] : List (BitVec 32))) :: hownT 31 1 encU (.slice none 0 0) (([] : List (BitVec 32))) :: hownT 23 1 encI (.slice none 0 0) (([] : List Int)) :: l⟩ ∧ n = ((odds_2.length : Int) - t_422).toNat ∧ 0 ≤ t_422 ∧ forK (σ := Int) (fun i s nx_ => syllogistref_Roles_b423 n_0 pairs_1 odds_2 fuel l369 y392 i s nx_) (fun s => syllogistref_Roles_k412 l367 l369 l371 nx390 y392 s) n t_422 e_409 = some r) _ ((0 : Int), (0 : Int)) ⟨rfl, rfl, rfl, (by omega), hr⟩ ?_
              rintro n425 ⟨t_422, e_409⟩ env x ⟨rfl, rfl, hnt_422, h0t_422, hr⟩
              cases n425 with
              | zero =>
                simp only [forK] at hr
                refine Tr.seq ?_
                refine Tr.region_f (fun _ => false) ?_
                refine W.q rfl rfl rfl rfl (by decide) (Yd.lss rfl (.t rfl) (.t rfl)) ?_
                refine W.end ?_
                refine NX.sub (env' := [(0, _), (1, _), (2, _), (3, _), (10, _), (11, _), (14, _), (15, _), (16, _), (24, _), (25, _), (26, _), (68, _), (69, _), (70, _), (71, _)]) ⟨rfl, rfl, rfl, rfl, rfl, rfl, rfl, rfl, rfl, rfl, rfl, rfl, rfl, rfl, rfl, rfl, trivial⟩ ?_
                refine NX.then ?_
                refine Tr.seq ?_
                refine Tr.cond (.t rfl) (fun hb => ?_) (fun hb => ?_)
                · exact absurd (hb.symm.trans (fr_end hnt_422)) (by decide)
                ·
                  refine Tr.exit' (EX.then (EX.then (EX.block ?_)))
                  refine NX.sub (env' := [(0, _), (1, _), (2, _), (3, _), (10, _), (11, _), (24, _), (25, _), (26, _), (14, _), (15, _), (16, _)]) ⟨rfl, rfl, rfl, rfl, rfl, rfl, rfl, rfl, rfl, rfl, rfl, rfl, trivial⟩ ?_
                  exact hk413 _ _ ⟨_, rfl, rfl, hr⟩
              | succ n425 =>
                obtain ⟨nx424, hnx424, hr⟩ := forK_succ hr
                try dsimp only at hr
                unfold syllogistref_Roles_b423 at hr
                try dsimp only at hr
                have hltt_422 := fr_bnd hnt_422
                refine Tr.seq ?_
                refine Tr.region_f (fun _ => false) ?_
                refine W.q rfl rfl rfl rfl (by decide) (Yd.lss rfl (.t rfl) (.t rfl)) ?_
                refine W.end ?_
                refine NX.sub (env' := [(0, _), (1, _), (2, _), (3, _), (10, _), (11, _), (14, _), (15, _), (16, _), (24, _), (25, _), (26, _), (68, _), (69, _), (70, _), (71, _)]) ⟨rfl, rfl, rfl, rfl, rfl, rfl, rfl, rfl, rfl, rfl, rfl, rfl, rfl, rfl, rfl, rfl, trivial⟩ ?_
                refine NX.then ?_
                refine Tr.seq ?_
                refine Tr.cond (.t rfl) (fun hb => ?_) (fun hb => ?_)
                rotate_left
                · exact absurd (hb.symm.trans (fr_go hnt_422)) (by decide)
                ·
                  refine Tr.skip' ?_
                  refine NX.then ?_
                  refine Tr.seq ?_
                  refine Tr.block ?_
                  refine Tr.seq ?_
                  obtain ⟨y426, hy427, hr⟩ := bind_some hr
                  refine Tr.region_f (fun _ => false) ?_
                  refine W.q rfl rfl rfl rfl (by decide) (Yd.idxR hodds_2 hy427 rfl Try.underlying22 SZ31 (.t rfl) (.t rfl)) ?_
                  refine W.q rfl rfl rfl rfl (by decide) (Yd.ldF hodds_2 (.refl _) hy427 rfl rfl ON31 (.t rfl)) ?_
                  refine W.q rfl rfl rfl rfl (by decide) (Yd.as rfl (.t rfl)) ?_
                  refine W.end ?_
                  refine NX.sub (env' := [(0, _), (1, _), (2, _), (3, _), (10, _), (11, _), (14, _), (15, _), (16, _), (24, _), (25, _), (26, _), (68, _), (69, _), (70, _), (18, _)]) ⟨rfl, rfl, rfl, rfl, rfl, rfl, rfl, rfl, rfl, rfl, rfl, rfl, rfl, rfl, rfl, rfl, trivial⟩ ?_
                  refine NX.then ?_
                  refine Tr.seq ?_
                  obtain ⟨y428, hy429, hr⟩ := bind_some hr
                  obtain ⟨r430, hr431, hr⟩ := bind_some hr
                  obtain ⟨r432, hr433, hr⟩ := bind_some hr
                  refine Tr.region_f (fun _ => false) ?_
                  refine W.q rfl rfl rfl rfl (by decide) (Yd.mv rfl (.t rfl)) ?_
                  refine W.q rfl rfl rfl rfl (by decide) (Yd.mv rfl (.t rfl)) ?_
                  refine W.q rfl rfl rfl rfl (by decide) (Yd.mv rfl (.t rfl)) ?_
                  refine W.q rfl rfl rfl rfl (by decide) (Yd.fldB rfl Try.underlying49 rfl SZ22 rfl (.t rfl)) ?_
                  refine W.q rfl rfl rfl rfl (by decide) (Yd.ldB (pos := 0) rfl rfl rfl ON22 (.t rfl)) ?_
                  refine W.q rfl rfl rfl rfl (by decide) (Yd.mv rfl (.t rfl)) ?_
                  refine W.q rfl rfl rfl rfl (by decide) (Yd.idxT (pos := 2) rfl hy429 rfl Try.underlying22 SZ31 (.t rfl) (.t rfl)) ?_
                  refine W.q rfl rfl rfl rfl (by decide) (Yd.ldT (enc := encU) (n := 1) (pos := 2) (fun _ => rfl) rfl hy429 rfl rfl ON31 (.t rfl)) ?_
                  refine W.q rfl rfl rfl rfl (by decide) (Yd.mv rfl (.t rfl)) ?_
                  refine W.q rfl rfl rfl rfl (by decide) (Yd.orU (a := y428) (b := (1#32 <<< ((BitVec.ofInt 64 y392.to)).toNat)) rfl (.t rfl) (.t rfl)) ?_
                  refine W.q rfl rfl rfl rfl (by decide) (Yd.call (v := .int .u32 (r430.toNat : Int)) rfl Try.func38 rfl rfl (.cons (.t rfl) (.cons (.t rfl) (.cons (.t rfl) .nil))) (fun x' hx w hw => syllogistref_With_ok w0 x'.m x'.l fuel n_0 _ _ (hpairs_1.mono hx.1) ((y428 ||| (1#32 <<< ((BitVec.ofInt 64 y392.to)).toNat))) _ hr431 w hw)) ?_
                  refine W.q rfl rfl rfl rfl (by decide) (Yd.andU (a := y426) (b := r430) rfl (.t rfl) (.t rfl)) ?_
                  refine W.q rfl rfl rfl rfl (by decide) (Yd.call (v := .int .i64 r432) rfl Try.func37 rfl rfl (.cons (.t rfl) .nil) (fun x' hx w hw => syllogistref_Size_ok w0 x'.m x'.l ((y426 &&& r430)) _ hr433 w hw)) ?_
                  refine W.q rfl rfl rfl rfl (by decide) (Yd.gtr rfl (.t rfl) .c) ?_
                  refine W.end ?_
                  refine NX.sub (env' := [(0, _), (1, _), (2, _), (3, _), (10, _), (11, _), (14, _), (15, _), (16, _), (24, _), (25, _), (26, _), (68, _), (69, _), (70, _), (87, _)]) ⟨rfl, rfl, rfl, rfl, rfl, rfl, rfl, rfl, rfl, rfl, rfl, rfl, rfl, rfl, rfl, rfl, trivial⟩ ?_
                  refine NX.then ?_
                  refine Tr.cond (.t rfl) (fun hb => ?_) (fun hb => ?_)
                  · have hr := cond_t hb hr
                    refine Tr.region_f (fun _ => false) ?_
                    refine W.q rfl rfl rfl rfl (by decide) (Yd.as rfl .c) ?_
                    refine W.end ?_
                    refine NX.sub (env' := [(0, _), (1, _), (2, _), (3, _), (10, _), (11, _), (14, _), (15, _), (16, _), (24, _), (25, _), (26, _), (68, _), (69, _), (70, _)]) ⟨rfl, rfl, rfl, rfl, rfl, rfl, rfl, rfl, rfl, rfl, rfl, rfl, rfl, rfl, rfl, trivial⟩ ?_
                    refine NX.block ?_
                    refine NX.then ?_
                    refine Tr.region_f (fun _ => false) ?_
                    refine W.q rfl rfl rfl rfl (by decide) (Yd.add rfl (.t rfl) .c) ?_
                    refine W.q rfl rfl rfl rfl (by decide) (Yd.mv rfl (.t rfl)) ?_
                    refine W.end ?_
                    refine NX.sub (env' := [(0, _), (1, _), (2, _), (3, _), (10, _), (11, _), (14, _), (15, _), (16, _), (24, _), (25, _), (26, _), (68, _), (69, _), (70, _)]) ⟨rfl, rfl, rfl, rfl, rfl, rfl, rfl, rfl, rfl, rfl, rfl, rfl, rfl, rfl, rfl, trivial⟩ ?_
                    refine NX.sub (env' := [(0, _), (1, _), (2, _), (3, _), (10, _), (11, _), (14, _), (15, _), (16, _), (24, _), (25, _), (26, _), (68, _), (69, _), (70, _)]) ⟨rfl, rfl, rfl, rfl, rfl, rfl, rfl, rfl, rfl, rfl, rfl, rfl, rfl, rfl, rfl, trivial⟩ ?_
                    have hw := w64_id (n := t_422 + 1) (by omega) (by omega)
                    exact NX.again n425 (t_422 + 1, (7 : Int)) (Nat.lt_succ_self _) ⟨(by rw [hw] <;> rfl), rfl, (fr_dec hnt_422), (by omega), ((hnx424 _).symm.trans hr)⟩
                  · have hr := cond_f hb hr
                    refine Tr.skip' ?_
                    refine NX.block ?_
                    refine NX.then ?_
                    refine Tr.region_f (fun _ => false) ?_
                    refine W.q rfl rfl rfl rfl (by decide) (Yd.add rfl (.t rfl) .c) ?_
                    refine W.q rfl rfl rfl rfl (by decide) (Yd.mv rfl (.t rfl)) ?_
                    refine W.end ?_
                    refine NX.sub (env' := [(0, _), (1, _), (2, _), (3, _), (10, _), (11, _), (14, _), (15, _), (16, _), (24, _), (25, _), (26, _), (68, _), (69, _), (70, _)]) ⟨rfl, rfl, rfl, rfl, rfl, rfl, rfl, rfl, rfl, rfl, rfl, rfl, rfl, rfl, rfl, trivial⟩ ?_
                    refine NX.sub (env' := [(0, _), (1, _), (2, _), (3, _), (10, _), (11, _), (14, _), (15, _), (16, _), (24, _), (25, _), (26, _), (68, _), (69, _), (70, _)]) ⟨rfl, rfl, rfl, rfl, rfl, rfl, rfl, rfl, rfl, rfl, rfl, rfl, rfl, rfl, rfl, trivial⟩ ?_
                    have hw := w64_id (n := t_422 + 1) (by omega) (by omega)
                    exact NX.again n425 (t_422 + 1, e_409) (Nat.lt_succ_self _) ⟨(by rw [hw] <;> rfl), rfl, (fr_dec hnt_422), (by omega), ((hnx424 _).symm.trans hr)⟩
            · have hr := cond_f hb hr
              refine Tr.seq ?_
              refine Tr.region_f (fun _ => false) ?_
              refine W.q rfl rfl rfl rfl (by decide) (Yd.eql rfl (.t rfl) .c) ?_
              refine W.q rfl rfl rfl rfl (by decide) (Yd.as rfl (.t rfl)) ?_
              refine W.end ?_
              refine NX.sub (env' := [(0, _), (1, _), (2, _), (3, _), (10, _), (11, _), (24, _), (25, _), (26, _), (14, _), (15, _), (16, _), (65, _), (113, _)]) ⟨rfl, rfl, rfl, rfl, rfl, rfl, rfl, rfl, rfl, rfl, rfl, rfl, rfl, rfl, trivial⟩ ?_
              refine NX.then ?_
              refine Tr.cond (.t rfl) (fun hb => ?_) (fun hb => ?_)
              · have hr := cond_t hb hr
                refine Tr.seq ?_
                obtain ⟨y434, hy435, hr⟩ := bind_some hr
                obtain ⟨r436, hr437, hr⟩ := bind_some hr
                refine Tr.region_f (fun _ => false) ?_
                refine W.q rfl rfl rfl rfl (by decide) (Yd.mv rfl (.t rfl)) ?_
                refine W.q rfl rfl rfl rfl (by decide) (Yd.fldB rfl Try.underlying49 rfl SZ22 rfl (.t rfl)) ?_
                refine W.q rfl rfl rfl rfl (by decide) (Yd.ldB (pos := 0) rfl rfl rfl ON22 (.t rfl)) ?_
                refine W.q rfl rfl rfl rfl (by decide) (Yd.mv rfl (.t rfl)) ?_
                refine W.q rfl rfl rfl rfl (by decide) (Yd.idxT (pos := 2) rfl hy435 rfl Try.underlying22 SZ31 (.t rfl) (.t rfl)) ?_
                refine W.q rfl rfl rfl rfl (by decide) (Yd.ldT (enc := encU) (n := 1) (pos := 2) (fun _ => rfl) rfl hy435 rfl rfl ON31 (.t rfl)) ?_
                refine W.q rfl rfl rfl rfl (by decide) (Yd.call (v := .bool r436) rfl Try.func24 rfl rfl (.cons (.t rfl) (.cons (.t rfl) .nil)) (fun x' hx w hw => syllogistref_In_ok w0 x'.m x'.l ((1#32 <<< ((BitVec.ofInt 64 y392.to)).toNat)) y434 _ hr437 w hw)) ?_
                refine W.q rfl rfl rfl rfl (by decide) (Yd.not rfl (.t rfl)) ?_
                refine W.end ?_
                refine NX.sub (env' := [(0, _), (1, _), (2, _), (3, _), (10, _), (11, _), (24, _), (25, _), (26, _), (14, _), (15, _), (16, _), (122, _)]) ⟨rfl, rfl, rfl, rfl, rfl, rfl, rfl, rfl, rfl, rfl, rfl, rfl, rfl, trivial⟩ ?_
                refine NX.then ?_
                refine Tr.cond (.t rfl) (fun hb => ?_) (fun hb => ?_)
                · have hr := cond_t hb hr
                  refine Tr.region_f (fun _ => false) ?_
                  refine W.q rfl rfl rfl rfl (by decide) (Yd.as rfl .c) ?_
                  refine W.end ?_
                  refine NX.sub (env' := [(0, _), (1, _), (2, _), (3, _), (10, _), (11, _), (24, _), (25, _), (26, _), (14, _)]) ⟨rfl, rfl, rfl, rfl, rfl, rfl, rfl, rfl, rfl, rfl, trivial⟩ ?_
                  refine NX.block ?_
                  refine NX.sub (env' := [(0, _), (1, _), (2, _), (3, _), (10, _), (11, _), (24, _), (25, _), (26, _), (14, _)]) ⟨rfl, rfl, rfl, rfl, rfl, rfl, rfl, rfl, rfl, rfl, trivial⟩ ?_
                  exact hk402 _ _ ⟨_, _, _, _, _, rfl, rfl, hr⟩
                · have hr := cond_f hb hr
                  refine Tr.seq ?_
                  obtain ⟨y438, hy439, hr⟩ := bind_some hr
                  refine Tr.region_x (fun i => Nat.beq i 11) (fun i => Nat.beq i 11) (Ord.of [0, 1, 2, 3, 4, 5, 6, 7, 8, 9, 10, 11]) FM (by kernel_rfl) ?_
                  refine W.q rfl rfl rfl rfl (by decide) (Yd.fldB rfl Try.underlying49 rfl SZ22 rfl (.t rfl)) ?_
                  refine W.q rfl rfl rfl rfl (by decide) (Yd.ldB (pos := 0) rfl rfl rfl ON22 (.t rfl)) ?_
                  refine W.q rfl rfl rfl rfl (by decide) (Yd.mv rfl (.t rfl)) ?_
                  refine W.q rfl rfl rfl rfl (by decide) (Yd.fldB rfl Try.underlying49 rfl SZ22 rfl (.t rfl)) ?_
                  refine W.q rfl rfl rfl rfl (by decide) (Yd.ldB (pos := 0) rfl rfl rfl ON22 (.t rfl)) ?_
                  refine W.q rfl rfl rfl rfl (by decide) (Yd.mv rfl (.t rfl)) ?_
                  refine W.q rfl rfl rfl rfl (by decide) (Yd.idxT (pos := 2) rfl hy439 rfl Try.underlying22 SZ31 (.t rfl) (.t rfl)) ?_
                  refine W.q rfl rfl rfl rfl (by decide) (Yd.ldT (enc := encU) (n := 1) (pos := 2) (fun _ => rfl) rfl hy439 rfl rfl ON31 (.t rfl)) ?_
                  refine W.q rfl rfl rfl rfl (by decide) (Yd.mv rfl (.t rfl)) ?_
                  refine W.q rfl rfl rfl rfl (by decide) (Yd.subU (a := y438) (b := (1#32 <<< ((BitVec.ofInt 64 y392.to)).toNat)) rfl (.t rfl) (.t rfl)) ?_
                  refine W.q rfl rfl rfl rfl (by decide) (Yd.idxT (pos := 2) rfl hy439 rfl Try.underlying22 SZ31 (.t rfl) (.t rfl)) ?_
                  refine W.s rfl rfl rfl rfl (Ef.stT (enc := encU) (n := 1) (pos := 2) (y := (y438 - (1#32 <<< ((BitVec.ofInt 64 y392.to)).toNat))) (us := [_]) (fun _ => rfl) rfl hy439 rfl (.t rfl) (.t rfl) SZ31 rfl rfl rfl (by decide)) ?_
                  rintro _ _ ⟨rfl, rfl⟩
                  refine ⟨.inl rfl, ?_⟩
                  refine W.cast (m' := m) (l' := hcells b259 [_, _, _] 49 :: hownT 31 1 encU v368 _ :: hownT 31 1 encU v370 _ :: hownT 23 1 encI v372 _ :: hcells b4 [_, _, _] 49 :: hownT 31 1 encU (.slice none 0 0) (([] : List (BitVec 32))) :: hownT 31 1 encU (.slice none 0 0) (([] : List (BitVec 32))) :: hownT 23 1 encI (.slice none 0 0) (([] : List Int)) :: l) rfl rfl ?_
                  refine W.end ?_
                  refine NX.sub (env' := [(0, _), (1, _), (2, _), (3, _), (10, _), (11, _), (24, _), (25, _), (26, _), (14, _), (15, _)]) ⟨rfl, rfl, rfl, rfl, rfl, rfl, rfl, rfl, rfl, rfl, rfl, trivial⟩ ?_
                  refine NX.then ?_
                  obtain ⟨y440, hy441, hr⟩ := bind_some hr
                  obtain ⟨y442, hy443, hr⟩ := bind_some hr
                  obtain ⟨r444, hr445, hr⟩ := bind_some hr
                  refine Tr.region_x (fun i => Nat.beq i 18) (fun i => Nat.beq i 18) (Ord.of [0, 1, 2, 3, 4, 5, 6, 7, 8, 9, 10, 11, 12, 13, 14, 15, 16, 17, 18]) FM (by kernel_rfl) ?_
                  refine W.q rfl rfl rfl rfl (by decide) (Yd.fldB rfl Try.underlying49 rfl SZ22 rfl (.t rfl)) ?_
                  refine W.q rfl rfl rfl rfl (by decide) (Yd.ldB (pos := 0) rfl rfl rfl ON22 (.t rfl)) ?_
                  refine W.q rfl rfl rfl rfl (by decide) (Yd.mv rfl (.t rfl)) ?_
                  refine W.q rfl rfl rfl rfl (by decide) (Yd.fldB rfl Try.underlying49 rfl SZ22 rfl (.t rfl)) ?_
                  refine W.q rfl rfl rfl rfl (by decide) (Yd.ldB (pos := 0) rfl rfl rfl ON22 (.t rfl)) ?_
                  refine W.q rfl rfl rfl rfl (by decide) (Yd.mv rfl (.t rfl)) ?_
                  refine W.q rfl rfl rfl rfl (by decide) (Yd.idxT (pos := 1) rfl hy441 rfl Try.underlying22 SZ31 (.t rfl) (.t rfl)) ?_
                  refine W.q rfl rfl rfl rfl (by decide) (Yd.ldT (enc := encU) (n := 1) (pos := 1) (fun _ => rfl) rfl hy441 rfl rfl ON31 (.t rfl)) ?_
                  refine W.q rfl rfl rfl rfl (by decide) (Yd.mv rfl (.t rfl)) ?_
                  refine W.q rfl rfl rfl rfl (by decide) (Yd.mv rfl (.t rfl)) ?_
                  refine W.q rfl rfl rfl rfl (by decide) (Yd.fldB rfl Try.underlying49 rfl SZ22 rfl (.t rfl)) ?_
                  refine W.q rfl rfl rfl rfl (by decide) (Yd.ldB (pos := 0) rfl rfl rfl ON22 (.t rfl)) ?_
                  refine W.q rfl rfl rfl rfl (by decide) (Yd.mv rfl (.t rfl)) ?_
                  refine W.q rfl rfl rfl rfl (by decide) (Yd.idxT (pos := 2) rfl hy443 rfl Try.underlying22 SZ31 (.t rfl) (.t rfl)) ?_
                  refine W.q rfl rfl rfl rfl (by decide) (Yd.ldT (enc := encU) (n := 1) (pos := 2) (fun _ => rfl) rfl hy443 rfl rfl ON31 (.t rfl)) ?_
                  refine W.q rfl rfl rfl rfl (by decide) (Yd.call (v := .int .u32 (r444.toNat : Int)) rfl Try.func38 rfl rfl (.cons (.t rfl) (.cons (.t rfl) (.cons (.t rfl) .nil))) (fun x' hx w hw => syllogistref_With_ok w0 x'.m x'.l fuel n_0 _ _ (hpairs_1.mono hx.1) y442 _ hr445 w hw)) ?_
                  refine W.q rfl rfl rfl rfl (by decide) (Yd.andU (a := y440) (b := r444) rfl (.t rfl) (.t rfl)) ?_
                  refine W.q rfl rfl rfl rfl (by decide) (Yd.idxT (pos := 1) rfl hy441 rfl Try.underlying22 SZ31 (.t rfl) (.t rfl)) ?_
                  refine W.s rfl rfl rfl rfl (Ef.stT (enc := encU) (n := 1) (pos := 1) (y := (y440 &&& r444)) (us := [_]) (fun _ => rfl) rfl hy441 rfl (.t rfl) (.t rfl) SZ31 rfl rfl rfl (by decide)) ?_
                  rintro _ _ ⟨rfl, rfl⟩
                  refine ⟨.inl rfl, ?_⟩
                  refine W.cast (m' := m) (l' := hcells b259 [_, _, _] 49 :: hownT 31 1 encU v368 _ :: hownT 31 1 encU v370 _ :: hownT 23 1 encI v372 _ :: hcells b4 [_, _, _] 49 :: hownT 31 1 encU (.slice none 0 0) (([] : List (BitVec 32))) :: hownT 31 1 encU (.slice none 0 0) (([] : List (BitVec 32))) :: hownT 23 1 encI (.slice none 0 0) (([] : List Int)) :: l) rfl rfl ?_
                  refine W.end ?_
                  refine NX.sub (env' := [(0, _), (1, _), (2, _), (3, _), (10, _), (11, _), (24, _), (25, _), (26, _), (14, _)]) ⟨rfl, rfl, rfl, rfl, rfl, rfl, rfl, rfl, rfl, rfl, trivial⟩ ?_
                  refine NX.block ?_
                  refine NX.sub (env' := [(0, _), (1, _), (2, _), (3, _), (10, _), (11, _), (24, _), (25, _), (26, _), (14, _)]) ⟨rfl, rfl, rfl, rfl, rfl, rfl, rfl, rfl, rfl, rfl, trivial⟩ ?_
                  exact hk402 _ _ ⟨_, _, _, _, _, rfl, rfl, hr⟩
              · have hr := cond_f hb hr
                refine Tr.seq ?_
                refine Tr.region_f (fun _ => false) ?_
                refine W.q rfl rfl rfl rfl (by decide) (Yd.eql rfl (.t rfl) .c) ?_
                refine W.q rfl rfl rfl rfl (by decide) (Yd.as rfl (.t rfl)) ?_
                refine W.end ?_
                refine NX.sub (env' := [(0, _), (1, _), (2, _), (3, _), (10, _), (11, _), (24, _), (25, _), (26, _), (14, _), (15, _), (16, _), (65, _), (152, _)]) ⟨rfl, rfl, rfl, rfl, rfl, rfl, rfl, rfl, rfl, rfl, rfl, rfl, rfl, rfl, trivial⟩ ?_
                refine NX.then ?_
                refine Tr.cond (.t rfl) (fun hb => ?_) (fun hb => ?_)
                · have hr := cond_t hb hr
                  refine Tr.seq ?_
                  obtain ⟨y446, hy447, hr⟩ := bind_some hr
                  obtain ⟨r448, hr449, hr⟩ := bind_some hr
                  obtain ⟨r450, hr451, hr⟩ := bind_some hr
                  refine Tr.region_f (fun _ => false) ?_
                  refine W.q rfl rfl rfl rfl (by decide) (Yd.mv rfl (.t rfl)) ?_
                  refine W.q rfl rfl rfl rfl (by decide) (Yd.mv rfl (.t rfl)) ?_
                  refine W.q rfl rfl rfl rfl (by decide) (Yd.mv rfl (.t rfl)) ?_
                  refine W.q rfl rfl rfl rfl (by decide) (Yd.fldB rfl Try.underlying49 rfl SZ22 rfl (.t rfl)) ?_
                  refine W.q rfl rfl rfl rfl (by decide) (Yd.ldB (pos := 0) rfl rfl rfl ON22 (.t rfl)) ?_
                  refine W.q rfl rfl rfl rfl (by decide) (Yd.mv rfl (.t rfl)) ?_
                  refine W.q rfl rfl rfl rfl (by decide) (Yd.idxT (pos := 2) rfl hy447 rfl Try.underlying22 SZ31 (.t rfl) (.t rfl)) ?_
                  refine W.q rfl rfl rfl rfl (by decide) (Yd.ldT (enc := encU) (n := 1) (pos := 2) (fun _ => rfl) rfl hy447 rfl rfl ON31 (.t rfl)) ?_
                  refine W.q rfl rfl rfl rfl (by decide) (Yd.call (v := .int .u32 (r448.toNat : Int)) rfl Try.func38 rfl rfl (.cons (.t rfl) (.cons (.t rfl) (.cons (.t rfl) .nil))) (fun x' hx w hw => syllogistref_With_ok w0 x'.m x'.l fuel n_0 _ _ (hpairs_1.mono hx.1) y446 _ hr449 w hw)) ?_
                  refine W.q rfl rfl rfl rfl (by decide) (Yd.call (v := .bool r450) rfl Try.func24 rfl rfl (.cons (.t rfl) (.cons (.t rfl) .nil)) (fun x' hx w hw => syllogistref_In_ok w0 x'.m x'.l ((1#32 <<< ((BitVec.ofInt 64 y392.to)).toNat)) r448 _ hr451 w hw)) ?_
                  refine W.q rfl rfl rfl rfl (by decide) (Yd.not rfl (.t rfl)) ?_
                  refine W.end ?_
                  refine NX.sub (env' := [(0, _), (1, _), (2, _), (3, _), (10, _), (11, _), (24, _), (25, _), (26, _), (14, _), (15, _), (16, _), (164, _)]) ⟨rfl, rfl, rfl, rfl, rfl, rfl, rfl, rfl, rfl, rfl, rfl, rfl, rfl, trivial⟩ ?_
                  refine NX.then ?_
                  refine Tr.cond (.t rfl) (fun hb => ?_) (fun hb => ?_)
                  · have hr := cond_t hb hr
                    refine Tr.region_f (fun _ => false) ?_
                    refine W.q rfl rfl rfl rfl (by decide) (Yd.as rfl .c) ?_
                    refine W.end ?_
                    refine NX.sub (env' := [(0, _), (1, _), (2, _), (3, _), (10, _), (11, _), (24, _), (25, _), (26, _), (14, _)]) ⟨rfl, rfl, rfl, rfl, rfl, rfl, rfl, rfl, rfl, rfl, trivial⟩ ?_
                    refine NX.block ?_
                    refine NX.sub (env' := [(0, _), (1, _), (2, _), (3, _), (10, _), (11, _), (24, _), (25, _), (26, _), (14, _)]) ⟨rfl, rfl, rfl, rfl, rfl, rfl, rfl, rfl, rfl, rfl, trivial⟩ ?_
                    exact hk402 _ _ ⟨_, _, _, _, _, rfl, rfl, hr⟩
                  · have hr := cond_f hb hr
                    refine Tr.seq ?_
                    obtain ⟨y452, hy453, hr⟩ := bind_some hr
                    obtain ⟨r454, hr455, hr⟩ := bind_some hr
                    refine Tr.region_f (fun _ => false) ?_
                    refine W.q rfl rfl rfl rfl (by decide) (Yd.mv rfl (.t rfl)) ?_
                    refine W.q rfl rfl rfl rfl (by decide) (Yd.fldB rfl Try.underlying49 rfl SZ22 rfl (.t rfl)) ?_
                    refine W.q rfl rfl rfl rfl (by decide) (Yd.ldB (pos := 0) rfl rfl rfl ON22 (.t rfl)) ?_
                    refine W.q rfl rfl rfl rfl (by decide) (Yd.mv rfl (.t rfl)) ?_
                    refine W.q rfl rfl rfl rfl (by decide) (Yd.idxT (pos := 1) rfl hy453 rfl Try.underlying22 SZ31 (.t rfl) (.t rfl)) ?_
                    refine W.q rfl rfl rfl rfl (by decide) (Yd.ldT (enc := encU) (n := 1) (pos := 1) (fun _ => rfl) rfl hy453 rfl rfl ON31 (.t rfl)) ?_
                    refine W.q rfl rfl rfl rfl (by decide) (Yd.call (v := .bool r454) rfl Try.func24 rfl rfl (.cons (.t rfl) (.cons (.t rfl) .nil)) (fun x' hx w hw => syllogistref_In_ok w0 x'.m x'.l ((1#32 <<< ((BitVec.ofInt 64 y392.to)).toNat)) y452 _ hr455 w hw)) ?_
                    refine W.end ?_
                    refine NX.sub (env' := [(0, _), (1, _), (2, _), (3, _), (10, _), (11, _), (24, _), (25, _), (26, _), (14, _), (15, _), (16, _), (171, _)]) ⟨rfl, rfl, rfl, rfl, rfl, rfl, rfl, rfl, rfl, rfl, rfl, rfl, rfl, trivial⟩ ?_
                    refine NX.then ?_
                    refine Tr.cond (.t rfl) (fun hb => ?_) (fun hb => ?_)
                    · have hr := cond_t hb hr
                      refine Tr.region_f (fun _ => false) ?_
                      refine W.q rfl rfl rfl rfl (by decide) (Yd.as rfl .c) ?_
                      refine W.end ?_
                      refine NX.sub (env' := [(0, _), (1, _), (2, _), (3, _), (10, _), (11, _), (24, _), (25, _), (26, _), (14, _)]) ⟨rfl, rfl, rfl, rfl, rfl, rfl, rfl, rfl, rfl, rfl, trivial⟩ ?_
                      refine NX.block ?_
                      refine NX.sub (env' := [(0, _), (1, _), (2, _), (3, _), (10, _), (11, _), (24, _), (25, _), (26, _), (14, _)]) ⟨rfl, rfl, rfl, rfl, rfl, rfl, rfl, rfl, rfl, rfl, trivial⟩ ?_
                      exact hk402 _ _ ⟨_, _, _, _, _, rfl, rfl, hr⟩
                    · have hr := cond_f hb hr
                      obtain ⟨y456, hy457, hr⟩ := bind_some hr
                      refine Tr.region_x (fun i => Nat.beq i 11) (fun i => Nat.beq i 11) (Ord.of [0, 1, 2, 3, 4, 5, 6, 7, 8, 9, 10, 11]) FM (by kernel_rfl) ?_
                      refine W.q rfl rfl rfl rfl (by decide) (Yd.fldB rfl Try.underlying49 rfl SZ22 rfl (.t rfl)) ?_
                      refine W.q rfl rfl rfl rfl (by decide) (Yd.ldB (pos := 0) rfl rfl rfl ON22 (.t rfl)) ?_
                      refine W.q rfl rfl rfl rfl (by decide) (Yd.mv rfl (.t rfl)) ?_
                      refine W.q rfl rfl rfl rfl (by decide) (Yd.fldB rfl Try.underlying49 rfl SZ22 rfl (.t rfl)) ?_
                      refine W.q rfl rfl rfl rfl (by decide) (Yd.ldB (pos := 0) rfl rfl rfl ON22 (.t rfl)) ?_
                      refine W.q rfl rfl rfl rfl (by decide) (Yd.mv rfl (.t rfl)) ?_
                      refine W.q rfl rfl rfl rfl (by decide) (Yd.idxT (pos := 1) rfl hy457 rfl Try.underlying22 SZ31 (.t rfl) (.t rfl)) ?_
                      refine W.q rfl rfl rfl rfl (by decide) (Yd.ldT (enc := encU) (n := 1) (pos := 1) (fun _ => rfl) rfl hy457 rfl rfl ON31 (.t rfl)) ?_
                      refine W.q rfl rfl rfl rfl (by decide) (Yd.mv rfl (.t rfl)) ?_
                      refine W.q rfl rfl rfl rfl (by decide) (Yd.addU (a := y456) (b := (1#32 <<< ((BitVec.ofInt 64 y392.to)).toNat)) rfl (.t rfl) (.t rfl)) ?_
                      refine W.q rfl rfl rfl rfl (by decide) (Yd.idxT (pos := 1) rfl hy457 rfl Try.underlying22 SZ31 (.t rfl) (.t rfl)) ?_
                      refine W.s rfl rfl rfl rfl (Ef.stT (enc := encU) (n := 1) (pos := 1) (y := (y456 + (1#32 <<< ((BitVec.ofInt 64 y392.to)).toNat))) (us := [_]) (fun _ => rfl) rfl hy457 rfl (.t rfl) (.t rfl) SZ31 rfl rfl rfl (by decide)) ?_
                      rintro _ _ ⟨rfl, rfl⟩
                      refine ⟨.inl rfl, ?_⟩
                      refine W.cast (m' := m) (l' := hcells b259 [_, _, _] 49 :: hownT 31 1 encU v368 _ :: hownT 31 1 encU v370 _ :: hownT 23 1 encI v372 _ :: hcells b4 [_, _, _] 49 :: hownT 31 1 encU (.slice none 0 0) (([] : List (BitVec 32))) :: hownT 31 1 encU (.slice none 0 0) (([] : List (BitVec 32))) :: hownT 23 1 encI (.slice none 0 0) (([] : List Int)) :: l) rfl rfl ?_
                      refine W.end ?_
                      refine NX.sub (env' := [(0, _), (1, _), (2, _), (3, _), (10, _), (11, _), (24, _), (25, _), (26, _), (14, _)]) ⟨rfl, rfl, rfl, rfl, rfl, rfl, rfl, rfl, rfl, rfl, trivial⟩ ?_
                      refine NX.block ?_
                      refine NX.sub (env' := [(0, _), (1, _), (2, _), (3, _), (10, _), (11, _), (24, _), (25, _), (26, _), (14, _)]) ⟨rfl, rfl, rfl, rfl, rfl, rfl, rfl, rfl, rfl, rfl, trivial⟩ ?_
                      exact hk402 _ _ ⟨_, _, _, _, _, rfl, rfl, hr⟩
                · have hr := cond_f hb hr
                  refine Tr.seq ?_
                  refine Tr.region_f (fun _ => false) ?_
                  refine W.q rfl rfl rfl rfl (by decide) (Yd.eql rfl (.t rfl) .c) ?_
                  refine W.q rfl rfl rfl rfl (by decide) (Yd.as rfl (.t rfl)) ?_
                  refine W.end ?_
                  refine NX.sub (env' := [(0, _), (1, _), (2, _), (3, _), (10, _), (11, _), (24, _), (25, _), (26, _), (14, _), (15, _), (16, _), (183, _)]) ⟨rfl, rfl, rfl, rfl, rfl, rfl, rfl, rfl, rfl, rfl, rfl, rfl, rfl, trivial⟩ ?_
                  refine NX.then ?_
                  refine Tr.cond (.t rfl) (fun hb => ?_) (fun hb => ?_)
                  · have hr := cond_t hb hr
                    refine Tr.seq ?_
                    obtain ⟨y458, hy459, hr⟩ := bind_some hr
                    obtain ⟨r460, hr461, hr⟩ := bind_some hr
                    refine Tr.region_f (fun _ => false) ?_
                    refine W.q rfl rfl rfl rfl (by decide) (Yd.mv rfl (.t rfl)) ?_
                    refine W.q rfl rfl rfl rfl (by decide) (Yd.fldB rfl Try.underlying49 rfl SZ22 rfl (.t rfl)) ?_
                    refine W.q rfl rfl rfl rfl (by decide) (Yd.ldB (pos := 0) rfl rfl rfl ON22 (.t rfl)) ?_
                    refine W.q rfl rfl rfl rfl (by decide) (Yd.mv rfl (.t rfl)) ?_
                    refine W.q rfl rfl rfl rfl (by decide) (Yd.idxT (pos := 1) rfl hy459 rfl Try.underlying22 SZ31 (.t rfl) (.t rfl)) ?_
                    refine W.q rfl rfl rfl rfl (by decide) (Yd.ldT (enc := encU) (n := 1) (pos := 1) (fun _ => rfl) rfl hy459 rfl rfl ON31 (.t rfl)) ?_
                    refine W.q rfl rfl rfl rfl (by decide) (Yd.call (v := .bool r460) rfl Try.func24 rfl rfl (.cons (.t rfl) (.cons (.t rfl) .nil)) (fun x' hx w hw => syllogistref_In_ok w0 x'.m x'.l ((1#32 <<< ((BitVec.ofInt 64 y392.to)).toNat)) y458 _ hr461 w hw)) ?_
                    refine W.q rfl rfl rfl rfl (by decide) (Yd.not rfl (.t rfl)) ?_
                    refine W.end ?_
                    refine NX.sub (env' := [(0, _), (1, _), (2, _), (3, _), (10, _), (11, _), (24, _), (25, _), (26, _), (14, _), (15, _), (16, _), (192, _)]) ⟨rfl, rfl, rfl, rfl, rfl, rfl, rfl, rfl, rfl, rfl, rfl, rfl, rfl, trivial⟩ ?_
                    refine NX.then ?_
                    refine Tr.cond (.t rfl) (fun hb => ?_) (fun hb => ?_)
                    · have hr := cond_t hb hr
                      refine Tr.region_f (fun _ => false) ?_
                      refine W.q rfl rfl rfl rfl (by decide) (Yd.as rfl .c) ?_
                      refine W.end ?_
                      refine NX.sub (env' := [(0, _), (1, _), (2, _), (3, _), (10, _), (11, _), (24, _), (25, _), (26, _), (14, _)]) ⟨rfl, rfl, rfl, rfl, rfl, rfl, rfl, rfl, rfl, rfl, trivial⟩ ?_
                      refine NX.block ?_
                      refine NX.sub (env' := [(0, _), (1, _), (2, _), (3, _), (10, _), (11, _), (24, _), (25, _), (26, _), (14, _)]) ⟨rfl, rfl, rfl, rfl, rfl, rfl, rfl, rfl, rfl, rfl, trivial⟩ ?_
                      exact hk402 _ _ ⟨_, _, _, _, _, rfl, rfl, hr⟩
                    · have hr := cond_f hb hr
                      obtain ⟨y462, hy463, hr⟩ := bind_some hr
                      refine Tr.region_x (fun i => Nat.beq i 11) (fun i => Nat.beq i 11) (Ord.of [0, 1, 2, 3, 4, 5, 6, 7, 8, 9, 10, 11]) FM (by kernel_rfl) ?_
                      refine W.q rfl rfl rfl rfl (by decide) (Yd.fldB rfl Try.underlying49 rfl SZ22 rfl (.t rfl)) ?_
                      refine W.q rfl rfl rfl rfl (by decide) (Yd.ldB (pos := 0) rfl rfl rfl ON22 (.t rfl)) ?_
                      refine W.q rfl rfl rfl rfl (by decide) (Yd.mv rfl (.t rfl)) ?_
                      refine W.q rfl rfl rfl rfl (by decide) (Yd.fldB rfl Try.underlying49 rfl SZ22 rfl (.t rfl)) ?_
                      refine W.q rfl rfl rfl rfl (by decide) (Yd.ldB (pos := 0) rfl rfl rfl ON22 (.t rfl)) ?_
                      refine W.q rfl rfl rfl rfl (by decide) (Yd.mv rfl (.t rfl)) ?_
                      refine W.q rfl rfl rfl rfl (by decide) (Yd.idxT (pos := 1) rfl hy463 rfl Try.underlying22 SZ31 (.t rfl) (.t rfl)) ?_
                      refine W.q rfl rfl rfl rfl (by decide) (Yd.ldT (enc := encU) (n := 1) (pos := 1) (fun _ => rfl) rfl hy463 rfl rfl ON31 (.t rfl)) ?_
                      refine W.q rfl rfl rfl rfl (by decide) (Yd.mv rfl (.t rfl)) ?_
                      refine W.q rfl rfl rfl rfl (by decide) (Yd.subU (a := y462) (b := (1#32 <<< ((BitVec.ofInt 64 y392.to)).toNat)) rfl (.t rfl) (.t rfl)) ?_
                      refine W.q rfl rfl rfl rfl (by decide) (Yd.idxT (pos := 1) rfl hy463 rfl Try.underlying22 SZ31 (.t rfl) (.t rfl)) ?_
                      refine W.s rfl rfl rfl rfl (Ef.stT (enc := encU) (n := 1) (pos := 1) (y := (y462 - (1#32 <<< ((BitVec.ofInt 64 y392.to)).toNat))) (us := [_]) (fun _ => rfl) rfl hy463 rfl (.t rfl) (.t rfl) SZ31 rfl rfl rfl (by decide)) ?_
                      rintro _ _ ⟨rfl, rfl⟩
                      refine ⟨.inl rfl, ?_⟩
                      refine W.cast (m' := m) (l' := hcells b259 [_, _, _] 49 :: hownT 31 1 encU v368 _ :: hownT 31 1 encU v370 _ :: hownT 23 1 encI v372 _ :: hcells b4 [_, _, _] 49 :: hownT 31 1 encU (.slice none 0 0) (([] : List (BitVec 32))) :: hownT 31 1 encU (.slice none 0 0) (([] : List (BitVec 32))) :: hownT 23 1 encI (.slice none 0 0) (([] : List Int)) :: l) rfl rfl ?_
                      refine W.end ?_
                      refine NX.sub (env' := [(0, _), (1, _), (2, _), (3, _), (10, _), (11, _), (24, _), (25, _), (26, _), (14, _)]) ⟨rfl, rfl, rfl, rfl, rfl, rfl, rfl, rfl, rfl, rfl, trivial⟩ ?_
                      refine NX.block ?_
                      refine NX.sub (env' := [(0, _), (1, _), (2, _), (3, _), (10, _), (11, _), (24, _), (25, _), (26, _), (14, _)]) ⟨rfl, rfl, rfl, rfl, rfl, rfl, rfl, rfl, rfl, rfl, trivial⟩ ?_
                      exact hk402 _ _ ⟨_, _, _, _, _, rfl, rfl, hr⟩
                  · have hr := cond_f hb hr
                    refine Tr.skip' ?_
                    refine NX.block ?_
                    refine NX.sub (env' := [(0, _), (1, _), (2, _), (3, _), (10, _), (11, _), (24, _), (25, _), (26, _), (14, _)]) ⟨rfl, rfl, rfl, rfl, rfl, rfl, rfl, rfl, rfl, rfl, trivial⟩ ?_
                    exact hk402 _ _ ⟨_, _, _, _, _, rfl, rfl, hr⟩
  obtain ⟨hq99, hr⟩ := guard_some hr; replace hq99 := of_decide_eq_true hq99
  refine Tr.region_x (fun i => Nat.beq i 1 || Nat.beq i 3 || Nat.beq i 5 || Nat.beq i 6) (fun i => Nat.beq i 6) (.one 0 (.one 2 (.three 1 3 5 (.two 3 5 (Ord.of [4, 5, 6]) (Ord.of [3, 4, 6])) (.two 1 5 (Ord.of [4, 5, 6]) (Ord.of [1, 4, 6])) (.two 1 3 (Ord.of [3, 4, 6]) (Ord.of [1, 4, 6]))))) FM (by kernel_rfl) ?_
  refine W.q rfl rfl rfl rfl (by decide) (Yd.mv rfl (.t rfl)) ?_
  refine W.q rfl rfl rfl rfl (by decide) (Yd.mv rfl (.t rfl)) ?_
  refine W.three ?_ ?_ ?_
  ·
    refine W.e rfl rfl rfl rfl (by decide) (Ef.mkT (enc := encU) (0#32) IF31 rfl Try.underlying22 rfl rfl (by decide) (.t rfl) (.t rfl) (by omega) (by omega) (by omega)) ?_
    rintro v99 _ rfl
    refine ⟨.inr ⟨.refl _, [_], rfl⟩, ?_⟩
    refine W.cast (m' := m) (l' := hownT 31 1 encU v99 _ :: hownT 31 1 encU (.slice none 0 0) (([] : List (BitVec 32))) :: hownT 31 1 encU (.slice none 0 0) (([] : List (BitVec 32))) :: hownT 23 1 encI (.slice none 0 0) (([] : List Int)) :: hcells b4 [_, _, _] 49 :: hownT 31 1 encU (.slice none 0 0) (([] : List (BitVec 32))) :: hownT 31 1 encU (.slice none 0 0) (([] : List (BitVec 32))) :: hownT 23 1 encI (.slice none 0 0) (([] : List Int)) :: l) rfl rfl ?_
    refine W.two ?_ ?_
    ·
      refine W.e rfl rfl rfl rfl (by decide) (Ef.mkT (enc := encU) (0#32) IF31 rfl Try.underlying22 rfl rfl (by decide) (.t rfl) (.t rfl) (by omega) (by omega) (by omega)) ?_
      rintro v179 _ rfl
      refine ⟨.inr ⟨.refl _, [_], rfl⟩, ?_⟩
      refine W.cast (m' := m) (l' := hownT 31 1 encU v179 _ :: hownT 31 1 encU v99 _ :: hownT 31 1 encU (.slice none 0 0) (([] : List (BitVec 32))) :: hownT 31 1 encU (.slice none 0 0) (([] : List (BitVec 32))) :: hownT 23 1 encI (.slice none 0 0) (([] : List Int)) :: hcells b4 [_, _, _] 49 :: hownT 31 1 encU (.slice none 0 0) (([] : List (BitVec 32))) :: hownT 31 1 encU (.slice none 0 0) (([] : List (BitVec 32))) :: hownT 23 1 encI (.slice none 0 0) (([] : List Int)) :: l) rfl rfl ?_
      refine W.q rfl rfl rfl rfl (by decide) (Yd.bld2 (cells := [.slice none 0 0, v99, v179]) (Sl.own (p := 1) rfl) (Sl.own (p := 0) rfl) rfl ZI49 PL49 (.cons (.t rfl) (.cons (.t rfl) .nil)) (by rintro ⟨_, _, _, rfl⟩; rintro ⟨_, _, _, rfl⟩; rfl)) ?_
      refine W.e rfl rfl rfl rfl (by decide) (Ef.al rfl ZR49 rfl) ?_
      rintro _ _ ⟨b259, rfl, rfl⟩
      refine ⟨.inr ⟨.refl _, [_], rfl⟩, ?_⟩
      refine W.cast (m' := m) (l' := hcells b259 [_, _, _] 49 :: hownT 31 1 encU v179 _ :: hownT 31 1 encU v99 _ :: hownT 31 1 encU (.slice none 0 0) (([] : List (BitVec 32))) :: hownT 31 1 encU (.slice none 0 0) (([] : List (BitVec 32))) :: hownT 23 1 encI (.slice none 0 0) (([] : List Int)) :: hcells b4 [_, _, _] 49 :: hownT 31 1 encU (.slice none 0 0) (([] : List (BitVec 32))) :: hownT 31 1 encU (.slice none 0 0) (([] : List (BitVec 32))) :: hownT 23 1 encI (.slice none 0 0) (([] : List Int)) :: l) rfl rfl ?_
      refine W.s rfl rfl rfl rfl (Ef.stBs (pos := 0) (us := [(.slice none 0 0), v99, v179]) (cs' := [_, _, _]) (.cons (On.own (pos := 5) rfl) (.cons (On.own (pos := 2) rfl) (.cons (On.own (pos := 1) rfl) .nil))) rfl rfl (.t rfl) (.t rfl) SZ49 rfl rfl (Nat.le_of_ble_eq_true rfl) rfl) ?_
      rintro _ _ ⟨rfl, rfl⟩
      refine ⟨.inl rfl, ?_⟩
      refine W.cast (m' := m) (l' := hcells b259 [_, _, _] 49 :: hownT 31 1 encU v179 _ :: hownT 31 1 encU v99 _ :: hownT 31 1 encU (.slice none 0 0) (([] : List (BitVec 32))) :: hownT 31 1 encU (.slice none 0 0) (([] : List (BitVec 32))) :: hownT 23 1 encI (.slice none 0 0) (([] : List Int)) :: hcells b4 [_, _, _] 49 :: hownT 31 1 encU (.slice none 0 0) (([] : List (BitVec 32))) :: hownT 31 1 encU (.slice none 0 0) (([] : List (BitVec 32))) :: hownT 23 1 encI (.slice none 0 0) (([] : List Int)) :: l) rfl rfl ?_
      refine W.end ?_
      refine NX.sub (env' := [(0, _), (1, _), (2, _), (3, _), (4, _), (10, _), (11, _)]) ⟨rfl, rfl, rfl, rfl, rfl, rfl, rfl, trivial⟩ ?_
      refine NX.drop (l' := hcells b259 [_, _, _] 49 :: hownT 31 1 encU v179 _ :: hownT 31 1 encU v99 _ :: hownT 23 1 encI (.slice none 0 0) (([] : List Int)) :: hcells b4 [_, _, _] 49 :: hownT 31 1 encU (.slice none 0 0) (([] : List (BitVec 32))) :: hownT 31 1 encU (.slice none 0 0) (([] : List (BitVec 32))) :: hownT 23 1 encI (.slice none 0 0) (([] : List Int)) :: l) (.cons_cons _ (.cons_cons _ (.cons_cons _ (.cons _ (.cons _ (.cons_cons _ (.cons_cons _ (.cons_cons _ (.cons_cons _ (.cons_cons _ (.refl _))))))))))) ?_
      exact hk299 _ _ ⟨_, _, _, rfl, rfl, hr⟩
    ·
      refine W.e rfl rfl rfl rfl (by decide) (Ef.al rfl ZR49 rfl) ?_
      rintro _ _ ⟨b259, rfl, rfl⟩
      refine ⟨.inr ⟨.refl _, [_], rfl⟩, ?_⟩
      refine W.cast (m' := m) (l' := hcells b259 [_, _, _] 49 :: hownT 31 1 encU v99 _ :: hownT 31 1 encU (.slice none 0 0) (([] : List (BitVec 32))) :: hownT 31 1 encU (.slice none 0 0) (([] : List (BitVec 32))) :: hownT 23 1 encI (.slice none 0 0) (([] : List Int)) :: hcells b4 [_, _, _] 49 :: hownT 31 1 encU (.slice none 0 0) (([] : List (BitVec 32))) :: hownT 31 1 encU (.slice none 0 0) (([] : List (BitVec 32))) :: hownT 23 1 encI (.slice none 0 0) (([] : List Int)) :: l) rfl rfl ?_
      refine W.e rfl rfl rfl rfl (by decide) (Ef.mkT (enc := encU) (0#32) IF31 rfl Try.underlying22 rfl rfl (by decide) (.t rfl) (.t rfl) (by omega) (by omega) (by omega)) ?_
      rintro v179 _ rfl
      refine ⟨.inr ⟨.refl _, [_], rfl⟩, ?_⟩
      refine W.cast (m' := m) (l' := hownT 31 1 encU v179 _ :: hcells b259 [_, _, _] 49 :: hownT 31 1 encU v99 _ :: hownT 31 1 encU (.slice none 0 0) (([] : List (BitVec 32))) :: hownT 31 1 encU (.slice none 0 0) (([] : List (BitVec 32))) :: hownT 23 1 encI (.slice none 0 0) (([] : List Int)) :: hcells b4 [_, _, _] 49 :: hownT 31 1 encU (.slice none 0 0) (([] : List (BitVec 32))) :: hownT 31 1 encU (.slice none 0 0) (([] : List (BitVec 32))) :: hownT 23 1 encI (.slice none 0 0) (([] : List Int)) :: l) rfl rfl ?_
      refine W.q rfl rfl rfl rfl (by decide) (Yd.bld2 (cells := [.slice none 0 0, v99, v179]) (Sl.own (p := 2) rfl) (Sl.own (p := 0) rfl) rfl ZI49 PL49 (.cons (.t rfl) (.cons (.t rfl) .nil)) (by rintro ⟨_, _, _, rfl⟩; rintro ⟨_, _, _, rfl⟩; rfl)) ?_
      refine W.s rfl rfl rfl rfl (Ef.stBs (pos := 1) (us := [(.slice none 0 0), v99, v179]) (cs' := [_, _, _]) (.cons (On.own (pos := 5) rfl) (.cons (On.own (pos := 2) rfl) (.cons (On.own (pos := 0) rfl) .nil))) rfl rfl (.t rfl) (.t rfl) SZ49 rfl rfl (Nat.le_of_ble_eq_true rfl) rfl) ?_
      rintro _ _ ⟨rfl, rfl⟩
      refine ⟨.inl rfl, ?_⟩
      refine W.cast (m' := m) (l' := hownT 31 1 encU v179 _ :: hcells b259 [_, _, _] 49 :: hownT 31 1 encU v99 _ :: hownT 31 1 encU (.slice none 0 0) (([] : List (BitVec 32))) :: hownT 31 1 encU (.slice none 0 0) (([] : List (BitVec 32))) :: hownT 23 1 encI (.slice none 0 0) (([] : List Int)) :: hcells b4 [_, _, _] 49 :: hownT 31 1 encU (.slice none 0 0) (([] : List (BitVec 32))) :: hownT 31 1 encU (.slice none 0 0) (([] : List (BitVec 32))) :: hownT 23 1 encI (.slice none 0 0) (([] : List Int)) :: l) rfl rfl ?_
      refine W.end ?_
      refine NX.imp (fun w hw => cX_front (p := 9) hw rfl) ?_
      refine NX.imp (fun w hw => cX_front (p := 9) hw rfl) ?_
      refine NX.imp (fun w hw => cX_front (p := 9) hw rfl) ?_
      refine NX.imp (fun w hw => cX_front (p := 9) hw rfl) ?_
      refine NX.imp (fun w hw => cX_front (p := 9) hw rfl) ?_
      refine NX.imp (fun w hw => cX_front (p := 9) hw rfl) ?_
      refine NX.imp (fun w hw => cX_front (p := 9) hw rfl) ?_
      refine NX.imp (fun w hw => cX_front (p := 9) hw rfl) ?_
      refine NX.imp (fun w hw => cX_front (p := 8) hw rfl) ?_
      refine NX.imp (fun w hw => cX_front (p := 9) hw rfl) ?_
      refine NX.cast (m' := m) (l' := hcells b259 [_, _, _] 49 :: hownT 31 1 encU v179 _ :: hownT 31 1 encU v99 _ :: hownT 31 1 encU (.slice none 0 0) (([] : List (BitVec 32))) :: hownT 31 1 encU (.slice none 0 0) (([] : List (BitVec 32))) :: hownT 23 1 encI (.slice none 0 0) (([] : List Int)) :: hcells b4 [_, _, _] 49 :: hownT 31 1 encU (.slice none 0 0) (([] : List (BitVec 32))) :: hownT 31 1 encU (.slice none 0 0) (([] : List (BitVec 32))) :: hownT 23 1 encI (.slice none 0 0) (([] : List Int)) :: l) rfl rfl ?_
      refine NX.sub (env' := [(0, _), (1, _), (2, _), (3, _), (4, _), (10, _), (11, _)]) ⟨rfl, rfl, rfl, rfl, rfl, rfl, rfl, trivial⟩ ?_
      refine NX.drop (l' := hcells b259 [_, _, _] 49 :: hownT 31 1 encU v179 _ :: hownT 31 1 encU v99 _ :: hownT 23 1 encI (.slice none 0 0) (([] : List Int)) :: hcells b4 [_, _, _] 49 :: hownT 31 1 encU (.slice none 0 0) (([] : List (BitVec 32))) :: hownT 31 1 encU (.slice none 0 0) (([] : List (BitVec 32))) :: hownT 23 1 encI (.slice none 0 0) (([] : List Int)) :: l) (.cons_cons _ (.cons_cons _ (.cons_cons _ (.cons _ (.cons _ (.cons_cons _ (.cons_cons _ (.cons_cons _ (.cons_cons _ (.cons_cons _ (.refl _))))))))))) ?_
      exact hk299 _ _ ⟨_, _, _, rfl, rfl, hr⟩
  ·
    refine W.e rfl rfl rfl rfl (by decide) (Ef.mkT (enc := encU) (0#32) IF31 rfl Try.underlying22 rfl rfl (by decide) (.t rfl) (.t rfl) (by omega) (by omega) (by omega)) ?_
    rintro v179 _ rfl
    refine ⟨.inr ⟨.refl _, [_], rfl⟩, ?_⟩
    refine W.cast (m' := m) (l' := hownT 31 1 encU v179 _ :: hownT 31 1 encU (.slice none 0 0) (([] : List (BitVec 32))) :: hownT 31 1 encU (.slice none 0 0) (([] : List (BitVec 32))) :: hownT 23 1 encI (.slice none 0 0) (([] : List Int)) :: hcells b4 [_, _, _] 49 :: hownT 31 1 encU (.slice none 0 0) (([] : List (BitVec 32))) :: hownT 31 1 encU (.slice none 0 0) (([] : List (BitVec 32))) :: hownT 23 1 encI (.slice none 0 0) (([] : List Int)) :: l) rfl rfl ?_
    refine W.two ?_ ?_
    ·
      refine W.e rfl rfl rfl rfl (by decide) (Ef.mkT (enc := encU) (0#32) IF31 rfl Try.underlying22 rfl rfl (by decide) (.t rfl) (.t rfl) (by omega) (by omega) (by omega)) ?_
      rintro v99 _ rfl
      refine ⟨.inr ⟨.refl _, [_], rfl⟩, ?_⟩
      refine W.cast (m' := m) (l' := hownT 31 1 encU v99 _ :: hownT 31 1 encU v179 _ :: hownT 31 1 encU (.slice none 0 0) (([] : List (BitVec 32))) :: hownT 31 1 encU (.slice none 0 0) (([] : List (BitVec 32))) :: hownT 23 1 encI (.slice none 0 0) (([] : List Int)) :: hcells b4 [_, _, _] 49 :: hownT 31 1 encU (.slice none 0 0) (([] : List (BitVec 32))) :: hownT 31 1 encU (.slice none 0 0) (([] : List (BitVec 32))) :: hownT 23 1 encI (.slice none 0 0) (([] : List Int)) :: l) rfl rfl ?_
      refine W.q rfl rfl rfl rfl (by decide) (Yd.bld2 (cells := [.slice none 0 0, v99, v179]) (Sl.own (p := 0) rfl) (Sl.own (p := 1) rfl) rfl ZI49 PL49 (.cons (.t rfl) (.cons (.t rfl) .nil)) (by rintro ⟨_, _, _, rfl⟩; rintro ⟨_, _, _, rfl⟩; rfl)) ?_
      refine W.e rfl rfl rfl rfl (by decide) (Ef.al rfl ZR49 rfl) ?_
      rintro _ _ ⟨b259, rfl, rfl⟩
      refine ⟨.inr ⟨.refl _, [_], rfl⟩, ?_⟩
      refine W.cast (m' := m) (l' := hcells b259 [_, _, _] 49 :: hownT 31 1 encU v99 _ :: hownT 31 1 encU v179 _ :: hownT 31 1 encU (.slice none 0 0) (([] : List (BitVec 32))) :: hownT 31 1 encU (.slice none 0 0) (([] : List (BitVec 32))) :: hownT 23 1 encI (.slice none 0 0) (([] : List Int)) :: hcells b4 [_, _, _] 49 :: hownT 31 1 encU (.slice none 0 0) (([] : List (BitVec 32))) :: hownT 31 1 encU (.slice none 0 0) (([] : List (BitVec 32))) :: hownT 23 1 encI (.slice none 0 0) (([] : List Int)) :: l) rfl rfl ?_
      refine W.s rfl rfl rfl rfl (Ef.stBs (pos := 0) (us := [(.slice none 0 0), v99, v179]) (cs' := [_, _, _]) (.cons (On.own (pos := 5) rfl) (.cons (On.own (pos := 1) rfl) (.cons (On.own (pos := 2) rfl) .nil))) rfl rfl (.t rfl) (.t rfl) SZ49 rfl rfl (Nat.le_of_ble_eq_true rfl) rfl) ?_
      rintro _ _ ⟨rfl, rfl⟩
      refine ⟨.inl rfl, ?_⟩
      refine W.cast (m' := m) (l' := hcells b259 [_, _, _] 49 :: hownT 31 1 encU v99 _ :: hownT 31 1 encU v179 _ :: hownT 31 1 encU (.slice none 0 0) (([] : List (BitVec 32))) :: hownT 31 1 encU (.slice none 0 0) (([] : List (BitVec 32))) :: hownT 23 1 encI (.slice none 0 0) (([] : List Int)) :: hcells b4 [_, _, _] 49 :: hownT 31 1 encU (.slice none 0 0) (([] : List (BitVec 32))) :: hownT 31 1 encU (.slice none 0 0) (([] : List (BitVec 32))) :: hownT 23 1 encI (.slice none 0 0) (([] : List Int)) :: l) rfl rfl ?_
      refine W.end ?_
      refine NX.imp (fun w hw => cX_front (p := 9) hw rfl) ?_
      refine NX.imp (fun w hw => cX_front (p := 9) hw rfl) ?_
      refine NX.imp (fun w hw => cX_front (p := 9) hw rfl) ?_
      refine NX.imp (fun w hw => cX_front (p := 9) hw rfl) ?_
      refine NX.imp (fun w hw => cX_front (p := 9) hw rfl) ?_
      refine NX.imp (fun w hw => cX_front (p := 9) hw rfl) ?_
      refine NX.imp (fun w hw => cX_front (p := 9) hw rfl) ?_
      refine NX.imp (fun w hw => cX_front (p := 8) hw rfl) ?_
      refine NX.imp (fun w hw => cX_front (p := 9) hw rfl) ?_
      refine NX.imp (fun w hw => cX_front (p := 9) hw rfl) ?_
      refine NX.cast (m' := m) (l' := hcells b259 [_, _, _] 49 :: hownT 31 1 encU v179 _ :: hownT 31 1 encU v99 _ :: hownT 31 1 encU (.slice none 0 0) (([] : List (BitVec 32))) :: hownT 31 1 encU (.slice none 0 0) (([] : List (BitVec 32))) :: hownT 23 1 encI (.slice none 0 0) (([] : List Int)) :: hcells b4 [_, _, _] 49 :: hownT 31 1 encU (.slice none 0 0) (([] : List (BitVec 32))) :: hownT 31 1 encU (.slice none 0 0) (([] : List (BitVec 32))) :: hownT 23 1 encI (.slice none 0 0) (([] : List Int)) :: l) rfl rfl ?_
      refine NX.sub (env' := [(0, _), (1, _), (2, _), (3, _), (4, _), (10, _), (11, _)]) ⟨rfl, rfl, rfl, rfl, rfl, rfl, rfl, trivial⟩ ?_
      refine NX.drop (l' := hcells b259 [_, _, _] 49 :: hownT 31 1 encU v179 _ :: hownT 31 1 encU v99 _ :: hownT 23 1 encI (.slice none 0 0) (([] : List Int)) :: hcells b4 [_, _, _] 49 :: hownT 31 1 encU (.slice none 0 0) (([] : List (BitVec 32))) :: hownT 31 1 encU (.slice none 0 0) (([] : List (BitVec 32))) :: hownT 23 1 encI (.slice none 0 0) (([] : List Int)) :: l) (.cons_cons _ (.cons_cons _ (.cons_cons _ (.cons _ (.cons _ (.cons_cons _ (.cons_cons _ (.cons_cons _ (.cons_cons _ (.cons_cons _ (.refl _))))))))))) ?_
      exact hk299 _ _ ⟨_, _, _, rfl, rfl, hr⟩
    ·
      refine W.e rfl rfl rfl rfl (by decide) (Ef.al rfl ZR49 rfl) ?_
      rintro _ _ ⟨b259, rfl, rfl⟩
      refine ⟨.inr ⟨.refl _, [_], rfl⟩, ?_⟩
      refine W.cast (m' := m) (l' := hcells b259 [_, _, _] 49 :: hownT 31 1 encU v179 _ :: hownT 31 1 encU (.slice none 0 0) (([] : List (BitVec 32))) :: hownT 31 1 encU (.slice none 0 0) (([] : List (BitVec 32))) :: hownT 23 1 encI (.slice none 0 0) (([] : List Int)) :: hcells b4 [_, _, _] 49 :: hownT 31 1 encU (.slice none 0 0) (([] : List (BitVec 32))) :: hownT 31 1 encU (.slice none 0 0) (([] : List (BitVec 32))) :: hownT 23 1 encI (.slice none 0 0) (([] : List Int)) :: l) rfl rfl ?_
      refine W.e rfl rfl rfl rfl (by decide) (Ef.mkT (enc := encU) (0#32) IF31 rfl Try.underlying22 rfl rfl (by decide) (.t rfl) (.t rfl) (by omega) (by omega) (by omega)) ?_
      rintro v99 _ rfl
      refine ⟨.inr ⟨.refl _, [_], rfl⟩, ?_⟩
      refine W.cast (m' := m) (l' := hownT 31 1 encU v99 _ :: hcells b259 [_, _, _] 49 :: hownT 31 1 encU v179 _ :: hownT 31 1 encU (.slice none 0 0) (([] : List (BitVec 32))) :: hownT 31 1 encU (.slice none 0 0) (([] : List (BitVec 32))) :: hownT 23 1 encI (.slice none 0 0) (([] : List Int)) :: hcells b4 [_, _, _] 49 :: hownT 31 1 encU (.slice none 0 0) (([] : List (BitVec 32))) :: hownT 31 1 encU (.slice none 0 0) (([] : List (BitVec 32))) :: hownT 23 1 encI (.slice none 0 0) (([] : List Int)) :: l) rfl rfl ?_
      refine W.q rfl rfl rfl rfl (by decide) (Yd.bld2 (cells := [.slice none 0 0, v99, v179]) (Sl.own (p := 0) rfl) (Sl.own (p := 2) rfl) rfl ZI49 PL49 (.cons (.t rfl) (.cons (.t rfl) .nil)) (by rintro ⟨_, _, _, rfl⟩; rintro ⟨_, _, _, rfl⟩; rfl)) ?_
      refine W.s rfl rfl rfl rfl (Ef.stBs (pos := 1) (us := [(.slice none 0 0), v99, v179]) (cs' := [_, _, _]) (.cons (On.own (pos := 5) rfl) (.cons (On.own (pos := 0) rfl) (.cons (On.own (pos := 2) rfl) .nil))) rfl rfl (.t rfl) (.t rfl) SZ49 rfl rfl (Nat.le_of_ble_eq_true rfl) rfl) ?_
      rintro _ _ ⟨rfl, rfl⟩
      refine ⟨.inl rfl, ?_⟩
      refine W.cast (m' := m) (l' := hownT 31 1 encU v99 _ :: hcells b259 [_, _, _] 49 :: hownT 31 1 encU v179 _ :: hownT 31 1 encU (.slice none 0 0) (([] : List (BitVec 32))) :: hownT 31 1 encU (.slice none 0 0) (([] : List (BitVec 32))) :: hownT 23 1 encI (.slice none 0 0) (([] : List Int)) :: hcells b4 [_, _, _] 49 :: hownT 31 1 encU (.slice none 0 0) (([] : List (BitVec 32))) :: hownT 31 1 encU (.slice none 0 0) (([] : List (BitVec 32))) :: hownT 23 1 encI (.slice none 0 0) (([] : List Int)) :: l) rfl rfl ?_
      refine W.end ?_
      refine NX.imp (fun w hw => cX_front (p := 9) hw rfl) ?_
      refine NX.imp (fun w hw => cX_front (p := 9) hw rfl) ?_
      refine NX.imp (fun w hw => cX_front (p := 9) hw rfl) ?_
      refine NX.imp (fun w hw => cX_front (p := 9) hw rfl) ?_
      refine NX.imp (fun w hw => cX_front (p := 9) hw rfl) ?_
      refine NX.imp (fun w hw => cX_front (p := 9) hw rfl) ?_
      refine NX.imp (fun w hw => cX_front (p := 9) hw rfl) ?_
      refine NX.imp (fun w hw => cX_front (p := 7) hw rfl) ?_
      refine NX.imp (fun w hw => cX_front (p := 9) hw rfl) ?_
      refine NX.imp (fun w hw => cX_front (p := 9) hw rfl) ?_
      refine NX.cast (m' := m) (l' := hcells b259 [_, _, _] 49 :: hownT 31 1 encU v179 _ :: hownT 31 1 encU v99 _ :: hownT 31 1 encU (.slice none 0 0) (([] : List (BitVec 32))) :: hownT 31 1 encU (.slice none 0 0) (([] : List (BitVec 32))) :: hownT 23 1 encI (.slice none 0 0) (([] : List Int)) :: hcells b4 [_, _, _] 49 :: hownT 31 1 encU (.slice none 0 0) (([] : List (BitVec 32))) :: hownT 31 1 encU (.slice none 0 0) (([] : List (BitVec 32))) :: hownT 23 1 encI (.slice none 0 0) (([] : List Int)) :: l) rfl rfl ?_
      refine NX.sub (env' := [(0, _), (1, _), (2, _), (3, _), (4, _), (10, _), (11, _)]) ⟨rfl, rfl, rfl, rfl, rfl, rfl, rfl, trivial⟩ ?_
      refine NX.drop (l' := hcells b259 [_, _, _] 49 :: hownT 31 1 encU v179 _ :: hownT 31 1 encU v99 _ :: hownT 23 1 encI (.slice none 0 0) (([] : List Int)) :: hcells b4 [_, _, _] 49 :: hownT 31 1 encU (.slice none 0 0) (([] : List (BitVec 32))) :: hownT 31 1 encU (.slice none 0 0) (([] : List (BitVec 32))) :: hownT 23 1 encI (.slice none 0 0) (([] : List Int)) :: l) (.cons_cons _ (.cons_cons _ (.cons_cons _ (.cons _ (.cons _ (.cons_cons _ (.cons_cons _ (.cons_cons _ (.cons_cons _ (.cons_cons _ (.refl _))))))))))) ?_
      exact hk299 _ _ ⟨_, _, _, rfl, rfl, hr⟩
  ·
    refine W.e rfl rfl rfl rfl (by decide) (Ef.al rfl ZR49 rfl) ?_
    rintro _ _ ⟨b259, rfl, rfl⟩
    refine ⟨.inr ⟨.refl _, [_], rfl⟩, ?_⟩
    refine W.cast (m' := m) (l' := hcells b259 [_, _, _] 49 :: hownT 31 1 encU (.slice none 0 0) (([] : List (BitVec 32))) :: hownT 31 1 encU (.slice none 0 0) (([] : List (BitVec 32))) :: hownT 23 1 encI (.slice none 0 0) (([] : List Int)) :: hcells b4 [_, _, _] 49 :: hownT 31 1 encU (.slice none 0 0) (([] : List (BitVec 32))) :: hownT 31 1 encU (.slice none 0 0) (([] : List (BitVec 32))) :: hownT 23 1 encI (.slice none 0 0) (([] : List Int)) :: l) rfl rfl ?_
    refine W.two ?_ ?_
    ·
      refine W.e rfl rfl rfl rfl (by decide) (Ef.mkT (enc := encU) (0#32) IF31 rfl Try.underlying22 rfl rfl (by decide) (.t rfl) (.t rfl) (by omega) (by omega) (by omega)) ?_
      rintro v99 _ rfl
      refine ⟨.inr ⟨.refl _, [_], rfl⟩, ?_⟩
      refine W.cast (m' := m) (l' := hownT 31 1 encU v99 _ :: hcells b259 [_, _, _] 49 :: hownT 31 1 encU (.slice none 0 0) (([] : List (BitVec 32))) :: hownT 31 1 encU (.slice none 0 0) (([] : List (BitVec 32))) :: hownT 23 1 encI (.slice none 0 0) (([] : List Int)) :: hcells b4 [_, _, _] 49 :: hownT 31 1 encU (.slice none 0 0) (([] : List (BitVec 32))) :: hownT 31 1 encU (.slice none 0 0) (([] : List (BitVec 32))) :: hownT 23 1 encI (.slice none 0 0) (([] : List Int)) :: l) rfl rfl ?_
      refine W.e rfl rfl rfl rfl (by decide) (Ef.mkT (enc := encU) (0#32) IF31 rfl Try.underlying22 rfl rfl (by decide) (.t rfl) (.t rfl) (by omega) (by omega) (by omega)) ?_
      rintro v179 _ rfl
      refine ⟨.inr ⟨.refl _, [_], rfl⟩, ?_⟩
      refine W.cast (m' := m) (l' := hownT 31 1 encU v179 _ :: hownT 31 1 encU v99 _ :: hcells b259 [_, _, _] 49 :: hownT 31 1 encU (.slice none 0 0) (([] : List (BitVec 32))) :: hownT 31 1 encU (.slice none 0 0) (([] : List (BitVec 32))) :: hownT 23 1 encI (.slice none 0 0) (([] : List Int)) :: hcells b4 [_, _, _] 49 :: hownT 31 1 encU (.slice none 0 0) (([] : List (BitVec 32))) :: hownT 31 1 encU (.slice none 0 0) (([] : List (BitVec 32))) :: hownT 23 1 encI (.slice none 0 0) (([] : List Int)) :: l) rfl rfl ?_
      refine W.q rfl rfl rfl rfl (by decide) (Yd.bld2 (cells := [.slice none 0 0, v99, v179]) (Sl.own (p := 1) rfl) (Sl.own (p := 0) rfl) rfl ZI49 PL49 (.cons (.t rfl) (.cons (.t rfl) .nil)) (by rintro ⟨_, _, _, rfl⟩; rintro ⟨_, _, _, rfl⟩; rfl)) ?_
      refine W.s rfl rfl rfl rfl (Ef.stBs (pos := 2) (us := [(.slice none 0 0), v99, v179]) (cs' := [_, _, _]) (.cons (On.own (pos := 5) rfl) (.cons (On.own (pos := 1) rfl) (.cons (On.own (pos := 0) rfl) .nil))) rfl rfl (.t rfl) (.t rfl) SZ49 rfl rfl (Nat.le_of_ble_eq_true rfl) rfl) ?_
      rintro _ _ ⟨rfl, rfl⟩
      refine ⟨.inl rfl, ?_⟩
      refine W.cast (m' := m) (l' := hownT 31 1 encU v179 _ :: hownT 31 1 encU v99 _ :: hcells b259 [_, _, _] 49 :: hownT 31 1 encU (.slice none 0 0) (([] : List (BitVec 32))) :: hownT 31 1 encU (.slice none 0 0) (([] : List (BitVec 32))) :: hownT 23 1 encI (.slice none 0 0) (([] : List Int)) :: hcells b4 [_, _, _] 49 :: hownT 31 1 encU (.slice none 0 0) (([] : List (BitVec 32))) :: hownT 31 1 encU (.slice none 0 0) (([] : List (BitVec 32))) :: hownT 23 1 encI (.slice none 0 0) (([] : List Int)) :: l) rfl rfl ?_
      refine W.end ?_
      refine NX.imp (fun w hw => cX_front (p := 9) hw rfl) ?_
      refine NX.imp (fun w hw => cX_front (p := 9) hw rfl) ?_
      refine NX.imp (fun w hw => cX_front (p := 9) hw rfl) ?_
      refine NX.imp (fun w hw => cX_front (p := 9) hw rfl) ?_
      refine NX.imp (fun w hw => cX_front (p := 9) hw rfl) ?_
      refine NX.imp (fun w hw => cX_front (p := 9) hw rfl) ?_
      refine NX.imp (fun w hw => cX_front (p := 9) hw rfl) ?_
      refine NX.imp (fun w hw => cX_front (p := 8) hw rfl) ?_
      refine NX.imp (fun w hw => cX_front (p := 8) hw rfl) ?_
      refine NX.imp (fun w hw => cX_front (p := 9) hw rfl) ?_
      refine NX.cast (m' := m) (l' := hcells b259 [_, _, _] 49 :: hownT 31 1 encU v179 _ :: hownT 31 1 encU v99 _ :: hownT 31 1 encU (.slice none 0 0) (([] : List (BitVec 32))) :: hownT 31 1 encU (.slice none 0 0) (([] : List (BitVec 32))) :: hownT 23 1 encI (.slice none 0 0) (([] : List Int)) :: hcells b4 [_, _, _] 49 :: hownT 31 1 encU (.slice none 0 0) (([] : List (BitVec 32))) :: hownT 31 1 encU (.slice none 0 0) (([] : List (BitVec 32))) :: hownT 23 1 encI (.slice none 0 0) (([] : List Int)) :: l) rfl rfl ?_
      refine NX.sub (env' := [(0, _), (1, _), (2, _), (3, _), (4, _), (10, _), (11, _)]) ⟨rfl, rfl, rfl, rfl, rfl, rfl, rfl, trivial⟩ ?_
      refine NX.drop (l' := hcells b259 [_, _, _] 49 :: hownT 31 1 encU v179 _ :: hownT 31 1 encU v99 _ :: hownT 23 1 encI (.slice none 0 0) (([] : List Int)) :: hcells b4 [_, _, _] 49 :: hownT 31 1 encU (.slice none 0 0) (([] : List (BitVec 32))) :: hownT 31 1 encU (.slice none 0 0) (([] : List (BitVec 32))) :: hownT 23 1 encI (.slice none 0 0) (([] : List Int)) :: l) (.cons_cons _ (.cons_cons _ (.cons_cons _ (.cons _ (.cons _ (.cons_cons _ (.cons_cons _ (.cons_cons _ (.cons_cons _ (.cons_cons _ (.refl _))))))))))) ?_
      exact hk299 _ _ ⟨_, _, _, rfl, rfl, hr⟩
    ·
      refine W.e rfl rfl rfl rfl (by decide) (Ef.mkT (enc := encU) (0#32) IF31 rfl Try.underlying22 rfl rfl (by decide) (.t rfl) (.t rfl) (by omega) (by omega) (by omega)) ?_
      rintro v179 _ rfl
      refine ⟨.inr ⟨.refl _, [_], rfl⟩, ?_⟩
      refine W.cast (m' := m) (l' := hownT 31 1 encU v179 _ :: hcells b259 [_, _, _] 49 :: hownT 31 1 encU (.slice none 0 0) (([] : List (BitVec 32))) :: hownT 31 1 encU (.slice none 0 0) (([] : List (BitVec 32))) :: hownT 23 1 encI (.slice none 0 0) (([] : List Int)) :: hcells b4 [_, _, _] 49 :: hownT 31 1 encU (.slice none 0 0) (([] : List (BitVec 32))) :: hownT 31 1 encU (.slice none 0 0) (([] : List (BitVec 32))) :: hownT 23 1 encI (.slice none 0 0) (([] : List Int)) :: l) rfl rfl ?_
      refine W.e rfl rfl rfl rfl (by decide) (Ef.mkT (enc := encU) (0#32) IF31 rfl Try.underlying22 rfl rfl (by decide) (.t rfl) (.t rfl) (by omega) (by omega) (by omega)) ?_
      rintro v99 _ rfl
      refine ⟨.inr ⟨.refl _, [_], rfl⟩, ?_⟩
      refine W.cast (m' := m) (l' := hownT 31 1 encU v99 _ :: hownT 31 1 encU v179 _ :: hcells b259 [_, _, _] 49 :: hownT 31 1 encU (.slice none 0 0) (([] : List (BitVec 32))) :: hownT 31 1 encU (.slice none 0 0) (([] : List (BitVec 32))) :: hownT 23 1 encI (.slice none 0 0) (([] : List Int)) :: hcells b4 [_, _, _] 49 :: hownT 31 1 encU (.slice none 0 0) (([] : List (BitVec 32))) :: hownT 31 1 encU (.slice none 0 0) (([] : List (BitVec 32))) :: hownT 23 1 encI (.slice none 0 0) (([] : List Int)) :: l) rfl rfl ?_
      refine W.q rfl rfl rfl rfl (by decide) (Yd.bld2 (cells := [.slice none 0 0, v99, v179]) (Sl.own (p := 0) rfl) (Sl.own (p := 1) rfl) rfl ZI49 PL49 (.cons (.t rfl) (.cons (.t rfl) .nil)) (by rintro ⟨_, _, _, rfl⟩; rintro ⟨_, _, _, rfl⟩; rfl)) ?_
      refine W.s rfl rfl rfl rfl (Ef.stBs (pos := 2) (us := [(.slice none 0 0), v99, v179]) (cs' := [_, _, _]) (.cons (On.own (pos := 5) rfl) (.cons (On.own (pos := 0) rfl) (.cons (On.own (pos := 1) rfl) .nil))) rfl rfl (.t rfl) (.t rfl) SZ49 rfl rfl (Nat.le_of_ble_eq_true rfl) rfl) ?_
      rintro _ _ ⟨rfl, rfl⟩
      refine ⟨.inl rfl, ?_⟩
      refine W.cast (m' := m) (l' := hownT 31 1 encU v99 _ :: hownT 31 1 encU v179 _ :: hcells b259 [_, _, _] 49 :: hownT 31 1 encU (.slice none 0 0) (([] : List (BitVec 32))) :: hownT 31 1 encU (.slice none 0 0) (([] : List (BitVec 32))) :: hownT 23 1 encI (.slice none 0 0) (([] : List Int)) :: hcells b4 [_, _, _] 49 :: hownT 31 1 encU (.slice none 0 0) (([] : List (BitVec 32))) :: hownT 31 1 encU (.slice none 0 0) (([] : List (BitVec 32))) :: hownT 23 1 encI (.slice none 0 0) (([] : List Int)) :: l) rfl rfl ?_
      refine W.end ?_
      refine NX.imp (fun w hw => cX_front (p := 9) hw rfl) ?_
      refine NX.imp (fun w hw => cX_front (p := 9) hw rfl) ?_
      refine NX.imp (fun w hw => cX_front (p := 9) hw rfl) ?_
      refine NX.imp (fun w hw => cX_front (p := 9) hw rfl) ?_
      refine NX.imp (fun w hw => cX_front (p := 9) hw rfl) ?_
      refine NX.imp (fun w hw => cX_front (p := 9) hw rfl) ?_
      refine NX.imp (fun w hw => cX_front (p := 9) hw rfl) ?_
      refine NX.imp (fun w hw => cX_front (p := 7) hw rfl) ?_
      refine NX.imp (fun w hw => cX_front (p := 8) hw rfl) ?_
      refine NX.imp (fun w hw => cX_front (p := 9) hw rfl) ?_
      refine NX.cast (m' := m) (l' := hcells b259 [_, _, _] 49 :: hownT 31 1 encU v179 _ :: hownT 31 1 encU v99 _ :: hownT 31 1 encU (.slice none 0 0) (([] : List (BitVec 32))) :: hownT 31 1 encU (.slice none 0 0) (([] : List (BitVec 32))) :: hownT 23 1 encI (.slice none 0 0) (([] : List Int)) :: hcells b4 [_, _, _] 49 :: hownT 31 1 encU (.slice none 0 0) (([] : List (BitVec 32))) :: hownT 31 1 encU (.slice none 0 0) (([] : List (BitVec 32))) :: hownT 23 1 encI (.slice none 0 0) (([] : List Int)) :: l) rfl rfl ?_
      refine NX.sub (env' := [(0, _), (1, _), (2, _), (3, _), (4, _), (10, _), (11, _)]) ⟨rfl, rfl, rfl, rfl, rfl, rfl, rfl, trivial⟩ ?_
      refine NX.drop (l' := hcells b259 [_, _, _] 49 :: hownT 31 1 encU v179 _ :: hownT 31 1 encU v99 _ :: hownT 23 1 encI (.slice none 0 0) (([] : List Int)) :: hcells b4 [_, _, _] 49 :: hownT 31 1 encU (.slice none 0 0) (([] : List (BitVec 32))) :: hownT 31 1 encU (.slice none 0 0) (([] : List (BitVec 32))) :: hownT 23 1 encI (.slice none 0 0) (([] : List Int)) :: l) (.cons_cons _ (.cons_cons _ (.cons_cons _ (.cons _ (.cons _ (.cons_cons _ (.cons_cons _ (.cons_cons _ (.cons_cons _ (.cons_cons _ (.refl _))))))))))) ?_
      exact hk299 _ _ ⟨_, _, _, rfl, rfl, hr⟩

def syllogistref_Codes_k3 : Option (Bool) :=
  some true

def syllogistref_Codes_b7 (a_0 : List Int) (b_1 : List Int) (i_6 : Int) (nx8 : Unit → Option (Bool)) : Option (Bool) :=
  (geti a_0 i_6).bind fun y10 =>
  (geti b_1 i_6).bind fun y12 =>
  (bif (y10 != y12) then
  some false
  else
  nx8 ())

def syllogistref_Codes (a_0 : List Int) (b_1 : List Int) : Option (Bool) :=
  (bif ((a_0.length : Int) != (b_1.length : Int)) then
  some false
  else
  forK (σ := Unit) (fun i s nx_ => syllogistref_Codes_b7 a_0 b_1 i nx_) (fun _ => syllogistref_Codes_k3) ((a_0.length : Int) - (0 : Int)).toNat (0 : Int) ())

set_option maxRecDepth 100000 in
set_option maxHeartbeats 4000000 in
theorem syllogistref_Codes_ok (w0 : World) (m : Snap) (l : List HI) (ua_0 : Value) (a_0 : List Int) (ha_0 : RS rI m ua_0 a_0) (ub_1 : Value) (b_1 : List Int) (hb_1 : RS rI m ub_1 b_1) (r : Bool) (hr : syllogistref_Codes a_0 b_1 = some r) (w : World) (hc : cX w0 ⟨m, l⟩ w) :
    Calls Try.prog 21 [ua_0, ub_1].toArray w fun e w' => e = .returned (.bool r) ∧ cX w0 ⟨m, l⟩ w' := by
  unfold syllogistref_Codes at hr
  refine calls_of_Tr (N := 26) Try.func21 rfl hc rfl (Nat.le_of_ble_eq_true rfl) ?_
  refine Tr.seq ?_
  refine Tr.region_f (fun _ => false) ?_
  refine W.q rfl rfl rfl rfl (by decide) (Yd.as rfl .c) ?_
  refine W.end ?_
  refine NX.sub (env' := [(0, _), (1, _)]) ⟨rfl, rfl, trivial⟩ ?_
  refine NX.then ?_
  refine Tr.seq ?_
  refine Tr.seq ?_
  refine Tr.region_f (fun _ => false) ?_
  refine W.q rfl rfl rfl rfl (by decide) (Yd.mv rfl (.t rfl)) ?_
  refine W.q rfl rfl rfl rfl (by decide) (Yd.lenR ha_0 rfl Try.underlying47 (.t rfl)) ?_
  refine W.q rfl rfl rfl rfl (by decide) (Yd.mv rfl (.t rfl)) ?_
  refine W.q rfl rfl rfl rfl (by decide) (Yd.lenR hb_1 rfl Try.underlying47 (.t rfl)) ?_
  refine W.q rfl rfl rfl rfl (by decide) (Yd.neq rfl (.t rfl) (.t rfl)) ?_
  refine W.end ?_
  refine NX.sub (env' := [(0, _), (1, _), (10, _)]) ⟨rfl, rfl, rfl, trivial⟩ ?_
  refine NX.then ?_
  refine Tr.cond (.t rfl) (fun hb => ?_) (fun hb => ?_)
  · have hr := cond_t hb hr
    refine Tr.seq ?_
    refine Tr.region_f (fun _ => false) ?_
    refine W.q rfl rfl rfl rfl (by decide) (Yd.as rfl .c) ?_
    refine W.end ?_
    refine NX.sub (env' := [(4, _)]) ⟨rfl, trivial⟩ ?_
    refine NX.then ?_
    refine Tr.ret' (RT.then ?_)
    refine res1 rfl rfl ?_
    intro w hc
    cases hr
    exact ⟨rfl, hc⟩
  · have hr := cond_f hb hr
    refine Tr.skip' ?_
    refine NX.then ?_
    refine Tr.seq ?_
    refine Tr.seq ?_
    refine Tr.region_f (fun _ => false) ?_
    refine W.q rfl rfl rfl rfl (by decide) (Yd.as rfl .c) ?_
    refine W.end ?_
    refine NX.sub (env' := [(0, _), (1, _), (5, _)]) ⟨rfl, rfl, rfl, trivial⟩ ?_
    refine NX.then ?_
    refine Tr.join (S := fun env x => env = [] ∧ x = ⟨m, l⟩ ∧ syllogistref_Codes_k3 = some r) ?_ (fun hk4 => ?_)
    · rintro _ _ ⟨rfl, rfl, hr⟩
      unfold syllogistref_Codes_k3 at hr
      try dsimp only at hr
      refine NX.then ?_
      refine Tr.seq ?_
      refine Tr.region_f (fun _ => false) ?_
      refine W.q rfl rfl rfl rfl (by decide) (Yd.as rfl .c) ?_
      refine W.end ?_
      refine NX.sub (env' := [(4, _)]) ⟨rfl, trivial⟩ ?_
      refine NX.then ?_
      refine Tr.ret' ?_
      refine res1 rfl rfl ?_
      intro w hc
      cases hr
      exact ⟨rfl, hc⟩
    have hlen5 := (ha_0).2.1
    refine Tr.block ?_
    refine Tr.sub (env' := [(0, _), (1, _), (5, _)]) ⟨rfl, rfl, rfl, trivial⟩ ?_
    refine Tr.loop (S := fun n (z : Int × Unit) env x => match z with | (i_6, _) => env = [(0, ua_0), (1, ub_1), (5, .int .i64 i_6)] ∧ x = ⟨m, l⟩ ∧ n = ((a_0.length : Int) - i_6).toNat ∧ 0 ≤ i_6 ∧ forK (σ := Unit) (fun i s nx_ => syllogistref_Codes_b7 a_0 b_1 i nx_) (fun _ => syllogistref_Codes_k3) n i_6 () = some r) _ ((0 : Int), ()) ⟨rfl, rfl, rfl, (by omega), hr⟩ ?_
    rintro n9 ⟨i_6, _⟩ env x ⟨rfl, rfl, hni_6, h0i_6, hr⟩
    cases n9 with
    | zero =>
      simp only [forK] at hr
      refine Tr.seq ?_
      refine Tr.seq ?_
      refine Tr.region_f (fun _ => false) ?_
      refine W.q rfl rfl rfl rfl (by decide) (Yd.mv rfl (.t rfl)) ?_
      refine W.q rfl rfl rfl rfl (by decide) (Yd.mv rfl (.t rfl)) ?_
      refine W.q rfl rfl rfl rfl (by decide) (Yd.lenR ha_0 rfl Try.underlying47 (.t rfl)) ?_
      refine W.q rfl rfl rfl rfl (by decide) (Yd.lss rfl (.t rfl) (.t rfl)) ?_
      refine W.end ?_
      refine NX.sub (env' := [(0, _), (1, _), (5, _), (14, _)]) ⟨rfl, rfl, rfl, rfl, trivial⟩ ?_
      refine NX.then ?_
      refine Tr.cond (.t rfl) (fun hb => ?_) (fun hb => ?_)
      · exact absurd (hb.symm.trans (fr_end hni_6)) (by decide)
      ·
        refine Tr.exit' (EX.then (EX.then (EX.block ?_)))
        refine NX.sub (env' := []) trivial ?_
        exact hk4 _ _ ⟨rfl, rfl, hr⟩
    | succ n9 =>
      obtain ⟨nx8, hnx8, hr⟩ := forK_succ hr
      try dsimp only at hr
      unfold syllogistref_Codes_b7 at hr
      try dsimp only at hr
      have hlti_6 := fr_bnd hni_6
      refine Tr.seq ?_
      refine Tr.seq ?_
      refine Tr.region_f (fun _ => false) ?_
      refine W.q rfl rfl rfl rfl (by decide) (Yd.mv rfl (.t rfl)) ?_
      refine W.q rfl rfl rfl rfl (by decide) (Yd.mv rfl (.t rfl)) ?_
      refine W.q rfl rfl rfl rfl (by decide) (Yd.lenR ha_0 rfl Try.underlying47 (.t rfl)) ?_
      refine W.q rfl rfl rfl rfl (by decide) (Yd.lss rfl (.t rfl) (.t rfl)) ?_
      refine W.end ?_
      refine NX.sub (env' := [(0, _), (1, _), (5, _), (14, _)]) ⟨rfl, rfl, rfl, rfl, trivial⟩ ?_
      refine NX.then ?_
      refine Tr.cond (.t rfl) (fun hb => ?_) (fun hb => ?_)
      rotate_left
      · exact absurd (hb.symm.trans (fr_go hni_6)) (by decide)
      ·
        refine Tr.skip' ?_
        refine NX.then ?_
        refine Tr.seq ?_
        refine Tr.block ?_
        refine Tr.seq ?_
        obtain ⟨y10, hy11, hr⟩ := bind_some hr
        obtain ⟨y12, hy13, hr⟩ := bind_some hr
        refine Tr.region_x (fun _ => false) (fun _ => false) (Ord.of [0, 1, 2, 3, 4, 5, 6, 7, 8]) FM (by kernel_rfl) ?_
        refine W.q rfl rfl rfl rfl (by decide) (Yd.mv rfl (.t rfl)) ?_
        refine W.q rfl rfl rfl rfl (by decide) (Yd.mv rfl (.t rfl)) ?_
        refine W.q rfl rfl rfl rfl (by decide) (Yd.idxR ha_0 hy11 rfl Try.underlying47 SZ23 (.t rfl) (.t rfl)) ?_
        refine W.q rfl rfl rfl rfl (by decide) (Yd.ldF ha_0 (.refl _) hy11 rfl rfl ON23 (.t rfl)) ?_
        refine W.q rfl rfl rfl rfl (by decide) (Yd.mv rfl (.t rfl)) ?_
        refine W.q rfl rfl rfl rfl (by decide) (Yd.mv rfl (.t rfl)) ?_
        refine W.q rfl rfl rfl rfl (by decide) (Yd.idxR hb_1 hy13 rfl Try.underlying47 SZ23 (.t rfl) (.t rfl)) ?_
        refine W.q rfl rfl rfl rfl (by decide) (Yd.ldF hb_1 (.refl _) hy13 rfl rfl ON23 (.t rfl)) ?_
        refine W.q rfl rfl rfl rfl (by decide) (Yd.neq rfl (.t rfl) (.t rfl)) ?_
        refine W.end ?_
        refine NX.sub (env' := [(0, _), (1, _), (5, _), (25, _)]) ⟨rfl, rfl, rfl, rfl, trivial⟩ ?_
        refine NX.then ?_
        refine Tr.cond (.t rfl) (fun hb => ?_) (fun hb => ?_)
        · have hr := cond_t hb hr
          refine Tr.seq ?_
          refine Tr.region_f (fun _ => false) ?_
          refine W.q rfl rfl rfl rfl (by decide) (Yd.as rfl .c) ?_
          refine W.end ?_
          refine NX.sub (env' := [(4, _)]) ⟨rfl, trivial⟩ ?_
          refine NX.then ?_
          refine Tr.ret' (RT.block (RT.then (RT.then (RT.block (RT.then ?_)))))
          refine res1 rfl rfl ?_
          intro w hc
          cases hr
          exact ⟨rfl, hc⟩
        · have hr := cond_f hb hr
          refine Tr.skip' ?_
          refine NX.block ?_
          refine NX.then ?_
          refine Tr.region_f (fun _ => false) ?_
          refine W.q rfl rfl rfl rfl (by decide) (Yd.mv rfl (.t rfl)) ?_
          refine W.q rfl rfl rfl rfl (by decide) (Yd.add rfl (.t rfl) .c) ?_
          refine W.q rfl rfl rfl rfl (by decide) (Yd.as rfl (.t rfl)) ?_
          refine W.end ?_
          refine NX.sub (env' := [(0, _), (1, _), (5, _)]) ⟨rfl, rfl, rfl, trivial⟩ ?_
          refine NX.sub (env' := [(0, _), (1, _), (5, _)]) ⟨rfl, rfl, rfl, trivial⟩ ?_
          have hw := w64_id (n := i_6 + 1) (by omega) (by omega)
          exact NX.again n9 (i_6 + 1, ()) (Nat.lt_succ_self _) ⟨(by rw [hw] <;> rfl), rfl, (fr_dec hni_6), (by omega), ((hnx8 _).symm.trans hr)⟩

def syllogistref_Words_k3 : Option (Bool) :=
  some true

def syllogistref_Words_b7 (a_0 : List (BitVec 32)) (b_1 : List (BitVec 32)) (i_6 : Int) (nx8 : Unit → Option (Bool)) : Option (Bool) :=
  (geti a_0 i_6).bind fun y10 =>
  (geti b_1 i_6).bind fun y12 =>
  (bif (y10 != y12) then
  some false
  else
  nx8 ())

def syllogistref_Words (a_0 : List (BitVec 32)) (b_1 : List (BitVec 32)) : Option (Bool) :=
  (bif ((a_0.length : Int) != (b_1.length : Int)) then
  some false
  else
  forK (σ := Unit) (fun i s nx_ => syllogistref_Words_b7 a_0 b_1 i nx_) (fun _ => syllogistref_Words_k3) ((a_0.length : Int) - (0 : Int)).toNat (0 : Int) ())

set_option maxRecDepth 100000 in
set_option maxHeartbeats 4000000 in
theorem syllogistref_Words_ok (w0 : World) (m : Snap) (l : List HI) (ua_0 : Value) (a_0 : List (BitVec 32)) (ha_0 : RS rU m ua_0 a_0) (ub_1 : Value) (b_1 : List (BitVec 32)) (hb_1 : RS rU m ub_1 b_1) (r : Bool) (hr : syllogistref_Words a_0 b_1 = some r) (w : World) (hc : cX w0 ⟨m, l⟩ w) :
    Calls Try.prog 9 [ua_0, ub_1].toArray w fun e w' => e = .returned (.bool r) ∧ cX w0 ⟨m, l⟩ w' := by
  unfold syllogistref_Words at hr
  refine calls_of_Tr (N := 26) Try.func9 rfl hc rfl (Nat.le_of_ble_eq_true rfl) ?_
  refine Tr.seq ?_
  refine Tr.region_f (fun _ => false) ?_
  refine W.q rfl rfl rfl rfl (by decide) (Yd.as rfl .c) ?_
  refine W.end ?_
  refine NX.sub (env' := [(0, _), (1, _)]) ⟨rfl, rfl, trivial⟩ ?_
  refine NX.then ?_
  refine Tr.seq ?_
  refine Tr.seq ?_
  refine Tr.region_f (fun _ => false) ?_
  refine W.q rfl rfl rfl rfl (by decide) (Yd.mv rfl (.t rfl)) ?_
  refine W.q rfl rfl rfl rfl (by decide) (Yd.lenR ha_0 rfl Try.underlying22 (.t rfl)) ?_
  refine W.q rfl rfl rfl rfl (by decide) (Yd.mv rfl (.t rfl)) ?_
  refine W.q rfl rfl rfl rfl (by decide) (Yd.lenR hb_1 rfl Try.underlying22 (.t rfl)) ?_
  refine W.q rfl rfl rfl rfl (by decide) (Yd.neq rfl (.t rfl) (.t rfl)) ?_
  refine W.end ?_
  refine NX.sub (env' := [(0, _), (1, _), (10, _)]) ⟨rfl, rfl, rfl, trivial⟩ ?_
  refine NX.then ?_
  refine Tr.cond (.t rfl) (fun hb => ?_) (fun hb => ?_)
  · have hr := cond_t hb hr
    refine Tr.seq ?_
    refine Tr.region_f (fun _ => false) ?_
    refine W.q rfl rfl rfl rfl (by decide) (Yd.as rfl .c) ?_
    refine W.end ?_
    refine NX.sub (env' := [(4, _)]) ⟨rfl, trivial⟩ ?_
    refine NX.then ?_
    refine Tr.ret' (RT.then ?_)
    refine res1 rfl rfl ?_
    intro w hc
    cases hr
    exact ⟨rfl, hc⟩
  · have hr := cond_f hb hr
    refine Tr.skip' ?_
    refine NX.then ?_
    refine Tr.seq ?_
    refine Tr.seq ?_
    refine Tr.region_f (fun _ => false) ?_
    refine W.q rfl rfl rfl rfl (by decide) (Yd.as rfl .c) ?_
    refine W.end ?_
    refine NX.sub (env' := [(0, _), (1, _), (5, _)]) ⟨rfl, rfl, rfl, trivial⟩ ?_
    refine NX.then ?_
    refine Tr.join (S := fun env x => env = [] ∧ x = ⟨m, l⟩ ∧ syllogistref_Words_k3 = some r) ?_ (fun hk4 => ?_)
    · rintro _ _ ⟨rfl, rfl, hr⟩
      unfold syllogistref_Words_k3 at hr
      try dsimp only at hr
      refine NX.then ?_
      refine Tr.seq ?_
      refine Tr.region_f (fun _ => false) ?_
      refine W.q rfl rfl rfl rfl (by decide) (Yd.as rfl .c) ?_
      refine W.end ?_
      refine NX.sub (env' := [(4, _)]) ⟨rfl, trivial⟩ ?_
      refine NX.then ?_
      refine Tr.ret' ?_
      refine res1 rfl rfl ?_
      intro w hc
      cases hr
      exact ⟨rfl, hc⟩
    have hlen5 := (ha_0).2.1
    refine Tr.block ?_
    refine Tr.sub (env' := [(0, _), (1, _), (5, _)]) ⟨rfl, rfl, rfl, trivial⟩ ?_
    refine Tr.loop (S := fun n (z : Int × Unit) env x => match z with | (i_6, _) => env = [(0, ua_0), (1, ub_1), (5, .int .i64 i_6)] ∧ x = ⟨m, l⟩ ∧ n = ((a_0.length : Int) - i_6).toNat ∧ 0 ≤ i_6 ∧ forK (σ := Unit) (fun i s nx_ => syllogistref_Words_b7 a_0 b_1 i nx_) (fun _ => syllogistref_Words_k3) n i_6 () = some r) _ ((0 : Int), ()) ⟨rfl, rfl, rfl, (by omega), hr⟩ ?_
    rintro n9 ⟨i_6, _⟩ env x ⟨rfl, rfl, hni_6, h0i_6, hr⟩
    cases n9 with
    | zero =>
      simp only [forK] at hr
      refine Tr.seq ?_
      refine Tr.seq ?_
      refine Tr.region_f (fun _ => false) ?_
      refine W.q rfl rfl rfl rfl (by decide) (Yd.mv rfl (.t rfl)) ?_
      refine W.q rfl rfl rfl rfl (by decide) (Yd.mv rfl (.t rfl)) ?_
      refine W.q rfl rfl rfl rfl (by decide) (Yd.lenR ha_0 rfl Try.underlying22 (.t rfl)) ?_
      refine W.q rfl rfl rfl rfl (by decide) (Yd.lss rfl (.t rfl) (.t rfl)) ?_
      refine W.end ?_
      refine NX.sub (env' := [(0, _), (1, _), (5, _), (14, _)]) ⟨rfl, rfl, rfl, rfl, trivial⟩ ?_
      refine NX.then ?_
      refine Tr.cond (.t rfl) (fun hb => ?_) (fun hb => ?_)
      · exact absurd (hb.symm.trans (fr_end hni_6)) (by decide)
      ·
        refine Tr.exit' (EX.then (EX.then (EX.block ?_)))
        refine NX.sub (env' := []) trivial ?_
        exact hk4 _ _ ⟨rfl, rfl, hr⟩
    | succ n9 =>
      obtain ⟨nx8, hnx8, hr⟩ := forK_succ hr
      try dsimp only at hr
      unfold syllogistref_Words_b7 at hr
      try dsimp only at hr
      have hlti_6 := fr_bnd hni_6
      refine Tr.seq ?_
      refine Tr.seq ?_
      refine Tr.region_f (fun _ => false) ?_
      refine W.q rfl rfl rfl rfl (by decide) (Yd.mv rfl (.t rfl)) ?_
      refine W.q rfl rfl rfl rfl (by decide) (Yd.mv rfl (.t rfl)) ?_
      refine W.q rfl rfl rfl rfl (by decide) (Yd.lenR ha_0 rfl Try.underlying22 (.t rfl)) ?_
      refine W.q rfl rfl rfl rfl (by decide) (Yd.lss rfl (.t rfl) (.t rfl)) ?_
      refine W.end ?_
      refine NX.sub (env' := [(0, _), (1, _), (5, _), (14, _)]) ⟨rfl, rfl, rfl, rfl, trivial⟩ ?_
      refine NX.then ?_
      refine Tr.cond (.t rfl) (fun hb => ?_) (fun hb => ?_)
      rotate_left
      · exact absurd (hb.symm.trans (fr_go hni_6)) (by decide)
      ·
        refine Tr.skip' ?_
        refine NX.then ?_
        refine Tr.seq ?_
        refine Tr.block ?_
        refine Tr.seq ?_
        obtain ⟨y10, hy11, hr⟩ := bind_some hr
        obtain ⟨y12, hy13, hr⟩ := bind_some hr
        refine Tr.region_x (fun _ => false) (fun _ => false) (Ord.of [0, 1, 2, 3, 4, 5, 6, 7, 8]) FM (by kernel_rfl) ?_
        refine W.q rfl rfl rfl rfl (by decide) (Yd.mv rfl (.t rfl)) ?_
        refine W.q rfl rfl rfl rfl (by decide) (Yd.mv rfl (.t rfl)) ?_
        refine W.q rfl rfl rfl rfl (by decide) (Yd.idxR ha_0 hy11 rfl Try.underlying22 SZ31 (.t rfl) (.t rfl)) ?_
        refine W.q rfl rfl rfl rfl (by decide) (Yd.ldF ha_0 (.refl _) hy11 rfl rfl ON31 (.t rfl)) ?_
        refine W.q rfl rfl rfl rfl (by decide) (Yd.mv rfl (.t rfl)) ?_
        refine W.q rfl rfl rfl rfl (by decide) (Yd.mv rfl (.t rfl)) ?_
        refine W.q rfl rfl rfl rfl (by decide) (Yd.idxR hb_1 hy13 rfl Try.underlying22 SZ31 (.t rfl) (.t rfl)) ?_
        refine W.q rfl rfl rfl rfl (by decide) (Yd.ldF hb_1 (.refl _) hy13 rfl rfl ON31 (.t rfl)) ?_
        refine W.q rfl rfl rfl rfl (by decide) (Yd.neqU (a := y10) (b := y12) rfl (.t rfl) (.t rfl)) ?_
        refine W.end ?_
        refine NX.sub (env' := [(0, _), (1, _), (5, _), (25, _)]) ⟨rfl, rfl, rfl, rfl, trivial⟩ ?_
        refine NX.then ?_
        refine Tr.cond (.t rfl) (fun hb => ?_) (fun hb => ?_)
        · have hr := cond_t hb hr
          refine Tr.seq ?_
          refine Tr.region_f (fun _ => false) ?_
          refine W.q rfl rfl rfl rfl (by decide) (Yd.as rfl .c) ?_
          refine W.end ?_
          refine NX.sub (env' := [(4, _)]) ⟨rfl, trivial⟩ ?_
          refine NX.then ?_
          refine Tr.ret' (RT.block (RT.then (RT.then (RT.block (RT.then ?_)))))
          refine res1 rfl rfl ?_
          intro w hc
          cases hr
          exact ⟨rfl, hc⟩
        · have hr := cond_f hb hr
          refine Tr.skip' ?_
          refine NX.block ?_
          refine NX.then ?_
          refine Tr.region_f (fun _ => false) ?_
          refine W.q rfl rfl rfl rfl (by decide) (Yd.mv rfl (.t rfl)) ?_
          refine W.q rfl rfl rfl rfl (by decide) (Yd.add rfl (.t rfl) .c) ?_
          refine W.q rfl rfl rfl rfl (by decide) (Yd.as rfl (.t rfl)) ?_
          refine W.end ?_
          refine NX.sub (env' := [(0, _), (1, _), (5, _)]) ⟨rfl, rfl, rfl, trivial⟩ ?_
          refine NX.sub (env' := [(0, _), (1, _), (5, _)]) ⟨rfl, rfl, rfl, trivial⟩ ?_
          have hw := w64_id (n := i_6 + 1) (by omega) (by omega)
          exact NX.again n9 (i_6 + 1, ()) (Nat.lt_succ_self _) ⟨(by rw [hw] <;> rfl), rfl, (fr_dec hni_6), (by omega), ((hnx8 _).symm.trans hr)⟩

def syllogistlaw_RolesPlays_k42 (r4 : Roles × Int) (x_24 : Int) (c32 : List Int) (c35 : List (BitVec 32)) (c38 : List (BitVec 32)) : Option (Bool) :=
  bif (!((r4.2 == x_24) == true) || (syllogistref_Codes r4.1.codes c32).isSome) then
  bif (!(((r4.2 == x_24) && (((syllogistref_Codes r4.1.codes c32).getD false))) == true) || (syllogistref_Words r4.1.given c35).isSome) then
  bif (!((((r4.2 == x_24) && (((syllogistref_Codes r4.1.codes c32).getD false))) && (((syllogistref_Words r4.1.given c35).getD false))) == true) || (syllogistref_Words r4.1.play c38).isSome) then
  some (((((r4.2 == x_24) && (((syllogistref_Codes r4.1.codes c32).getD false))) && (((syllogistref_Words r4.1.given c35).getD false))) && (((syllogistref_Words r4.1.play c38).getD false)))) else none else none else none

def syllogistlaw_RolesPlays_k25 (n_0 : Int) (pairs_1 : List (Int × Int)) (odds_2 : List (BitVec 32)) (users_3 : Int) (script_4 : List Deed) (fuel : Nat) (r4 : Roles × Int) (x_24 : Int) : Option (Bool) :=
  (bif (x_24 == (0 : Int)) then
  (syllogistref_Roles fuel n_0 pairs_1 odds_2 users_3 script_4).bind fun r47 =>
  syllogistlaw_RolesPlays_k42 r4 x_24 r47.codes r47.given r47.play
  else
  syllogistlaw_RolesPlays_k42 r4 x_24 (([] : List Int)) (([] : List (BitVec 32))) (([] : List (BitVec 32))))

def syllogistlaw_RolesPlays_b64 (n_0 : Int) (odds_2 : List (BitVec 32)) (t_63 : Int) (x_22 : Int) (nx65 : Int → Option (Bool)) : Option (Bool) :=
  (geti odds_2 t_63).bind fun y67 =>
  bif (!((x_22 == (0 : Int)) == true) || (syllogistref_Fits n_0 y67).isSome) then
  (bif ((x_22 == (0 : Int)) && (!(((syllogistref_Fits n_0 y67).getD false)))) then
  nx65 (4 : Int)
  else
  nx65 x_22) else none

def syllogistlaw_RolesPlays_k18 (n_0 : Int) (pairs_1 : List (Int × Int)) (odds_2 : List (BitVec 32)) (users_3 : Int) (script_4 : List Deed) (fuel : Nat) (r4 : Roles × Int) (x_17 : Int) : Option (Bool) :=
  forK (σ := Int) (fun i s nx_ => syllogistlaw_RolesPlays_b64 n_0 odds_2 i s nx_) (fun s => syllogistlaw_RolesPlays_k25 n_0 pairs_1 odds_2 users_3 script_4 fuel r4 s) ((odds_2.length : Int) - (0 : Int)).toNat (0 : Int) x_17

def syllogistlaw_RolesPlays (fuel : Nat) (n_0 : Int) (pairs_1 : List (Int × Int)) (odds_2 : List (BitVec 32)) (users_3 : Int) (script_4 : List Deed) : Option (Bool) :=
  (roles_Play n_0 pairs_1 odds_2 users_3 script_4).bind fun r4 =>
  (syllogistref_OrderCheck fuel n_0 pairs_1).bind fun r15 =>
  (bif ((r15 == (0 : Int)) && ((((decide (users_3 < (1 : Int))) || (decide (users_3 > (5 : Int)))) || (decide ((script_4.length : Int) > (30 : Int)))) || (decide ((odds_2.length : Int) > (10 : Int))))) then
  syllogistlaw_RolesPlays_k18 n_0 pairs_1 odds_2 users_3 script_4 fuel r4 ((1 : Int))
  else
  syllogistlaw_RolesPlays_k18 n_0 pairs_1 odds_2 users_3 script_4 fuel r4 r15)

set_option maxRecDepth 100000 in
set_option maxHeartbeats 4000000 in
theorem syllogistlaw_RolesPlays_ok (w0 : World) (m : Snap) (l : List HI) (fuel : Nat) (n_0 : Int) (upairs_1 : Value) (pairs_1 : List (Int × Int)) (hpairs_1 : RS rP m upairs_1 pairs_1) (uodds_2 : Value) (odds_2 : List (BitVec 32)) (hodds_2 : RS rU m uodds_2 odds_2) (users_3 : Int) (uscript_4 : Value) (script_4 : List Deed) (hscript_4 : RS rDeed m uscript_4 script_4) (r : Bool) (hr : syllogistlaw_RolesPlays fuel n_0 pairs_1 odds_2 users_3 script_4 = some r) (w : World) (hc : cX w0 ⟨m, l⟩ w) :
    Calls Try.prog 6 [.int .i64 n_0, upairs_1, uodds_2, .int .i64 users_3, uscript_4].toArray w fun e w' => e = .returned (.bool r) ∧ cX w0 ⟨m, l⟩ w' := by
  unfold syllogistlaw_RolesPlays at hr
  refine calls_of_Tr (N := 97) Try.func6 rfl hc rfl (Nat.le_of_ble_eq_true rfl) ?_
  refine Tr.seq ?_
  refine Tr.region_f (fun _ => false) ?_
  refine W.q rfl rfl rfl rfl (by decide) (Yd.as rfl .c) ?_
  refine W.end ?_
  refine NX.sub (env' := [(0, _), (1, _), (2, _), (3, _), (4, _)]) ⟨rfl, rfl, rfl, rfl, rfl, trivial⟩ ?_
  refine NX.then ?_
  refine Tr.seq ?_
  refine Tr.addnil 23 1 ?_
  refine Tr.cast (m' := m) (l' := hownT 23 1 encI (.slice none 0 0) (([] : List Int)) :: l) rfl rfl ?_
  refine Tr.addnil 31 1 ?_
  refine Tr.cast (m' := m) (l' := hownT 31 1 encU (.slice none 0 0) (([] : List (BitVec 32))) :: hownT 23 1 encI (.slice none 0 0) (([] : List Int)) :: l) rfl rfl ?_
  refine Tr.addnil 31 1 ?_
  refine Tr.cast (m' := m) (l' := hownT 31 1 encU (.slice none 0 0) (([] : List (BitVec 32))) :: hownT 31 1 encU (.slice none 0 0) (([] : List (BitVec 32))) :: hownT 23 1 encI (.slice none 0 0) (([] : List Int)) :: l) rfl rfl ?_
  obtain ⟨r4, hr5, hr⟩ := bind_some hr
  refine Tr.region_f (fun i => Nat.beq i 5 || Nat.beq i 9 || Nat.beq i 10) ?_
  refine W.q rfl rfl rfl rfl (by decide) (Yd.mv rfl (.t rfl)) ?_
  refine W.q rfl rfl rfl rfl (by decide) (Yd.mv rfl (.t rfl)) ?_
  refine W.q rfl rfl rfl rfl (by decide) (Yd.mv rfl (.t rfl)) ?_
  refine W.q rfl rfl rfl rfl (by decide) (Yd.mv rfl (.t rfl)) ?_
  refine W.q rfl rfl rfl rfl (by decide) (Yd.mv rfl (.t rfl)) ?_
  refine W.e rfl rfl rfl rfl (by decide) (Ef.call (R := fun z x' => ∃ u7 : Value, ∃ u9 : Value, ∃ u11 : Value, ∃ m6 : Snap, z = .tuple #[.agg #[u7, u9, u11], .int .i64 r4.2] ∧ x' = ⟨m6, hownT 31 1 encU (.slice none 0 0) (([] : List (BitVec 32))) :: hownT 31 1 encU (.slice none 0 0) (([] : List (BitVec 32))) :: hownT 23 1 encI (.slice none 0 0) (([] : List Int)) :: l⟩ ∧ Sle m m6 ∧ RS rI m6 u7 r4.1.codes ∧ RS rU m6 u9 r4.1.given ∧ RS rU m6 u11 r4.1.play) rfl Try.func18 rfl rfl (.cons (.t rfl) (.cons (.t rfl) (.cons (.t rfl) (.cons (.t rfl) (.cons (.t rfl) .nil))))) (fun w hw => (roles_Play_ok w0 _ _ n_0 _ _ hpairs_1 _ _ hodds_2 users_3 _ _ hscript_4 _ hr5 w hw).mono fun e w' ⟨u7, u9, u11, m6, he, hm', hu8, hu10, hu12, hc'⟩ => ⟨_, _, he, ⟨u7, u9, u11, m6, rfl, rfl, hm', hu8, hu10, hu12⟩, hc'⟩)) ?_
  rintro _ _ ⟨u7, u9, u11, m6, rfl, rfl, hsm6, hu8, hu10, hu12⟩
  have hpairs_1 := hpairs_1.mono hsm6
  have hodds_2 := hodds_2.mono hsm6
  have hscript_4 := hscript_4.mono hsm6
  refine ⟨.inl rfl, ?_⟩
  refine W.cast (m' := m6) (l' := hownT 31 1 encU (.slice none 0 0) (([] : List (BitVec 32))) :: hownT 31 1 encU (.slice none 0 0) (([] : List (BitVec 32))) :: hownT 23 1 encI (.slice none 0 0) (([] : List Int)) :: l) rfl rfl ?_
  refine W.q rfl rfl rfl rfl (by decide) (Yd.mv rfl (.t rfl)) ?_
  refine W.q rfl rfl rfl rfl (by decide) (Yd.ext rfl (.t rfl) rfl) ?_
  refine W.q rfl rfl rfl rfl (by decide) (Yd.ext rfl (.t rfl) rfl) ?_
  refine W.e rfl rfl rfl rfl (by decide) (Ef.al rfl ZR49 rfl) ?_
  rintro _ _ ⟨b13, rfl, rfl⟩
  refine ⟨.inl rfl, ?_⟩
  refine W.cast (m' := m6) (l' := hcells b13 [_, _, _] 49 :: hownT 31 1 encU (.slice none 0 0) (([] : List (BitVec 32))) :: hownT 31 1 encU (.slice none 0 0) (([] : List (BitVec 32))) :: hownT 23 1 encI (.slice none 0 0) (([] : List Int)) :: l) rfl rfl ?_
  refine W.s rfl rfl rfl rfl (Ef.stBs (pos := 0) (us := [u7, u9, u11]) (cs' := [_, _, _]) (.cons (On.ro hu8) (.cons (On.ro hu10) (.cons (On.ro hu12) .nil))) rfl rfl (.t rfl) (.t rfl) SZ49 rfl rfl (Nat.le_of_ble_eq_true rfl) rfl) ?_
  rintro _ _ ⟨rfl, rfl⟩
  refine ⟨.inl rfl, ?_⟩
  refine W.cast (m' := m6) (l' := hcells b13 [_, _, _] 49 :: hownT 31 1 encU (.slice none 0 0) (([] : List (BitVec 32))) :: hownT 31 1 encU (.slice none 0 0) (([] : List (BitVec 32))) :: hownT 23 1 encI (.slice none 0 0) (([] : List Int)) :: l) rfl rfl ?_
  refine W.q rfl rfl rfl rfl (by decide) (Yd.as rfl (.t rfl)) ?_
  refine W.end ?_
  refine NX.sub (env' := [(0, _), (1, _), (2, _), (3, _), (4, _), (11, _), (12, _)]) ⟨rfl, rfl, rfl, rfl, rfl, rfl, rfl, trivial⟩ ?_
  refine NX.drop (l' := hcells b13 [_, _, _] 49 :: l) (.cons_cons _ (.cons _ (.cons _ (.cons _ (.refl _))))) ?_
  refine NX.then ?_
  refine Tr.seq ?_
  obtain ⟨r15, hr16, hr⟩ := bind_some hr
  refine Tr.region_f (fun _ => false) ?_
  refine W.q rfl rfl rfl rfl (by decide) (Yd.mv rfl (.t rfl)) ?_
  refine W.q rfl rfl rfl rfl (by decide) (Yd.mv rfl (.t rfl)) ?_
  refine W.q rfl rfl rfl rfl (by decide) (Yd.call (v := .int .i64 r15) rfl Try.func19 rfl rfl (.cons (.t rfl) (.cons (.t rfl) .nil)) (fun x' hx w hw => syllogistref_OrderCheck_ok w0 x'.m x'.l fuel n_0 _ _ (hpairs_1.mono hx.1) _ hr16 w hw)) ?_
  refine W.q rfl rfl rfl rfl (by decide) (Yd.as rfl (.t rfl)) ?_
  refine W.end ?_
  refine NX.sub (env' := [(0, _), (1, _), (2, _), (3, _), (4, _), (11, _), (12, _), (13, _)]) ⟨rfl, rfl, rfl, rfl, rfl, rfl, rfl, rfl, trivial⟩ ?_
  refine NX.then ?_
  refine Tr.seq ?_
  refine Tr.seq ?_
  refine Tr.region_f (fun _ => false) ?_
  refine W.q rfl rfl rfl rfl (by decide) (Yd.mv rfl (.t rfl)) ?_
  refine W.q rfl rfl rfl rfl (by decide) (Yd.eql rfl (.t rfl) .c) ?_
  refine W.q rfl rfl rfl rfl (by decide) (Yd.mv rfl (.t rfl)) ?_
  refine W.g rfl rfl rfl rfl rfl (.t rfl _) rfl (by decide) (fun hG => Yd.mv rfl (.t rfl)) ?_
  refine W.g rfl rfl rfl rfl rfl (.t rfl _) rfl (by decide) (fun hG => Yd.lss rfl (.g rfl hG) .c) ?_
  refine W.g rfl rfl rfl rfl rfl (.t rfl _) rfl (by decide) (fun hG => Yd.mv rfl (.g rfl hG)) ?_
  refine W.g rfl rfl rfl rfl rfl (.g rfl _) rfl (by decide) (fun hG => Yd.mv rfl (.t rfl)) ?_
  refine W.g rfl rfl rfl rfl rfl (.g rfl _) rfl (by decide) (fun hG => Yd.gtr rfl (.g rfl hG) .c) ?_
  refine W.g rfl rfl rfl rfl rfl (.t rfl _) rfl (by decide) (fun hG => Yd.orG rfl (.g rfl hG) .c rfl rfl hG) ?_
  refine W.g rfl rfl rfl rfl rfl (.t rfl _) rfl (by decide) (fun hG => Yd.mv rfl (.g rfl hG)) ?_
  refine W.g rfl rfl rfl rfl rfl (.g rfl _) rfl (by decide) (fun hG => Yd.mv rfl (.t rfl)) ?_
  refine W.g rfl rfl rfl rfl rfl (.g rfl _) rfl (by decide) (fun hG => Yd.lenR hscript_4 rfl Try.underlying46 (.g rfl hG)) ?_
  refine W.g rfl rfl rfl rfl rfl (.g rfl _) rfl (by decide) (fun hG => Yd.gtr rfl (.g rfl hG) .c) ?_
  refine W.g rfl rfl rfl rfl rfl (.t rfl _) rfl (by decide) (fun hG => Yd.orG rfl (.g rfl hG) .c rfl rfl hG) ?_
  refine W.g rfl rfl rfl rfl rfl (.t rfl _) rfl (by decide) (fun hG => Yd.mv rfl (.g rfl hG)) ?_
  refine W.g rfl rfl rfl rfl rfl (.g rfl _) rfl (by decide) (fun hG => Yd.mv rfl (.t rfl)) ?_
  refine W.g rfl rfl rfl rfl rfl (.g rfl _) rfl (by decide) (fun hG => Yd.lenR hodds_2 rfl Try.underlying22 (.g rfl hG)) ?_
  refine W.g rfl rfl rfl rfl rfl (.g rfl _) rfl (by decide) (fun hG => Yd.gtr rfl (.g rfl hG) .c) ?_
  refine W.g rfl rfl rfl rfl rfl (.t rfl _) rfl (by decide) (fun hG => Yd.orG rfl (.g rfl hG) .c rfl rfl hG) ?_
  refine W.q rfl rfl rfl rfl (by decide) (Yd.and rfl (.t rfl) .c rfl rfl) ?_
  refine W.end ?_
  refine NX.sub (env' := [(0, _), (1, _), (2, _), (3, _), (4, _), (11, _), (12, _), (13, _), (48, _)]) ⟨rfl, rfl, rfl, rfl, rfl, rfl, rfl, rfl, rfl, trivial⟩ ?_
  refine NX.then ?_
  refine Tr.join (S := fun env x => ∃ x_17 : Int, env = [(0, .int .i64 n_0), (1, upairs_1), (2, uodds_2), (3, .int .i64 users_3), (4, uscript_4), (11, bp b13 0), (12, .int .i64 r4.2), (13, .int .i64 x_17)] ∧ x = ⟨m6, hcells b13 [u7, u9, u11] 49 :: l⟩ ∧ syllogistlaw_RolesPlays_k18 n_0 pairs_1 odds_2 users_3 script_4 fuel r4 x_17 = some r) ?_ (fun hk19 => ?_)
  · rintro _ _ ⟨x_17, rfl, rfl, hr⟩
    unfold syllogistlaw_RolesPlays_k18 at hr
    try dsimp only at hr
    refine NX.then ?_
    refine Tr.seq ?_
    refine Tr.seq ?_
    refine Tr.region_f (fun _ => false) ?_
    refine W.q rfl rfl rfl rfl (by decide) (Yd.mv rfl (.t rfl)) ?_
    refine W.q rfl rfl rfl rfl (by decide) (Yd.lenR hodds_2 rfl Try.underlying22 (.t rfl)) ?_
    refine W.q rfl rfl rfl rfl (by decide) (Yd.mv rfl .c) ?_
    refine W.end ?_
    refine NX.sub (env' := [(0, _), (1, _), (2, _), (3, _), (4, _), (11, _), (12, _), (13, _), (49, _), (50, _), (51, _)]) ⟨rfl, rfl, rfl, rfl, rfl, rfl, rfl, rfl, rfl, rfl, rfl, trivial⟩ ?_
    refine NX.then ?_
    refine Tr.join (S := fun env x => ∃ x_24 : Int, env = [(0, .int .i64 n_0), (1, upairs_1), (2, uodds_2), (3, .int .i64 users_3), (4, uscript_4), (11, bp b13 0), (12, .int .i64 r4.2), (13, .int .i64 x_24)] ∧ x = ⟨m6, hcells b13 [u7, u9, u11] 49 :: l⟩ ∧ syllogistlaw_RolesPlays_k25 n_0 pairs_1 odds_2 users_3 script_4 fuel r4 x_24 = some r) ?_ (fun hk26 => ?_)
    · rintro _ _ ⟨x_24, rfl, rfl, hr⟩
      unfold syllogistlaw_RolesPlays_k25 at hr
      try dsimp only at hr
      refine NX.then ?_
      refine Tr.seq ?_
      refine Tr.addnil 23 1 ?_
      refine Tr.cast (m' := m6) (l' := hownT 23 1 encI (.slice none 0 0) (([] : List Int)) :: hcells b13 [u7, u9, u11] 49 :: l) rfl rfl ?_
      refine Tr.addnil 31 1 ?_
      refine Tr.cast (m' := m6) (l' := hownT 31 1 encU (.slice none 0 0) (([] : List (BitVec 32))) :: hownT 23 1 encI (.slice none 0 0) (([] : List Int)) :: hcells b13 [u7, u9, u11] 49 :: l) rfl rfl ?_
      refine Tr.addnil 31 1 ?_
      refine Tr.cast (m' := m6) (l' := hownT 31 1 encU (.slice none 0 0) (([] : List (BitVec 32))) :: hownT 31 1 encU (.slice none 0 0) (([] : List (BitVec 32))) :: hownT 23 1 encI (.slice none 0 0) (([] : List Int)) :: hcells b13 [u7, u9, u11] 49 :: l) rfl rfl ?_
      refine Tr.region_f (fun i => Nat.beq i 1 || Nat.beq i 2) ?_
      refine W.q rfl rfl rfl rfl (by decide) (Yd.bld (cells := [.slice none 0 0, .slice none 0 0, .slice none 0 0]) rfl ZI49 PL49 .nil rfl) ?_
      refine W.e rfl rfl rfl rfl (by decide) (Ef.al rfl ZR49 rfl) ?_
      rintro _ _ ⟨b30, rfl, rfl⟩
      refine ⟨.inl rfl, ?_⟩
      refine W.cast (m' := m6) (l' := hcells b30 [_, _, _] 49 :: hownT 31 1 encU (.slice none 0 0) (([] : List (BitVec 32))) :: hownT 31 1 encU (.slice none 0 0) (([] : List (BitVec 32))) :: hownT 23 1 encI (.slice none 0 0) (([] : List Int)) :: hcells b13 [_, _, _] 49 :: l) rfl rfl ?_
      refine W.s rfl rfl rfl rfl (Ef.stB (pos := 0) (us := [_, _, _]) (cs' := [_, _, _]) rfl rfl (.t rfl) (.t rfl) SZ49 rfl rfl rfl (Nat.le_of_ble_eq_true rfl) rfl) ?_
      rintro _ _ ⟨rfl, rfl⟩
      refine ⟨.inl rfl, ?_⟩
      refine W.cast (m' := m6) (l' := hcells b30 [_, _, _] 49 :: hownT 31 1 encU (.slice none 0 0) (([] : List (BitVec 32))) :: hownT 31 1 encU (.slice none 0 0) (([] : List (BitVec 32))) :: hownT 23 1 encI (.slice none 0 0) (([] : List Int)) :: hcells b13 [_, _, _] 49 :: l) rfl rfl ?_
      refine W.end ?_
      refine NX.sub (env' := [(0, _), (1, _), (2, _), (3, _), (4, _), (11, _), (12, _), (13, _), (16, _)]) ⟨rfl, rfl, rfl, rfl, rfl, rfl, rfl, rfl, rfl, trivial⟩ ?_
      refine NX.then ?_
      refine Tr.seq ?_
      refine Tr.seq ?_
      refine Tr.region_f (fun _ => false) ?_
      refine W.q rfl rfl rfl rfl (by decide) (Yd.mv rfl (.t rfl)) ?_
      refine W.q rfl rfl rfl rfl (by decide) (Yd.eql rfl (.t rfl) .c) ?_
      refine W.end ?_
      refine NX.sub (env' := [(0, _), (1, _), (2, _), (3, _), (4, _), (11, _), (12, _), (13, _), (16, _), (66, _)]) ⟨rfl, rfl, rfl, rfl, rfl, rfl, rfl, rfl, rfl, rfl, trivial⟩ ?_
      refine NX.then ?_
      refine Tr.join (S := fun env x => ∃ c32 : List Int, ∃ c35 : List (BitVec 32), ∃ c38 : List (BitVec 32), ∃ m41 : Snap, ∃ u33 : Value, ∃ u36 : Value, ∃ u39 : Value, Sle m6 m41 ∧ RS rI m41 u33 c32 ∧ RS rU m41 u36 c35 ∧ RS rU m41 u39 c38 ∧ env = [(11, bp b13 0), (12, .int .i64 r4.2), (13, .int .i64 x_24), (16, bp b30 0)] ∧ x = ⟨m41, hcells b30 [u33, u36, u39] 49 :: hcells b13 [u7, u9, u11] 49 :: l⟩ ∧ syllogistlaw_RolesPlays_k42 r4 x_24 c32 c35 c38 = some r) ?_ (fun hk43 => ?_)
      · rintro _ _ ⟨c32, c35, c38, m41, u33, u36, u39, hsm41, hu34, hu37, hu40, rfl, rfl, hr⟩
        unfold syllogistlaw_RolesPlays_k42 at hr
        try dsimp only at hr
        have hpairs_1 := hpairs_1.mono hsm41
        have hodds_2 := hodds_2.mono hsm41
        have hscript_4 := hscript_4.mono hsm41
        have hu8 := hu8.mono hsm41
        have hu10 := hu10.mono hsm41
        have hu12 := hu12.mono hsm41
        refine NX.then ?_
        refine Tr.seq ?_
        obtain ⟨ha44, hr⟩ := guard_some hr
        obtain ⟨ha45, hr⟩ := guard_some hr
        obtain ⟨ha46, hr⟩ := guard_some hr
        refine Tr.region_f (fun _ => false) ?_
        refine W.q rfl rfl rfl rfl (by decide) (Yd.mv rfl (.t rfl)) ?_
        refine W.q rfl rfl rfl rfl (by decide) (Yd.mv rfl (.t rfl)) ?_
        refine W.q rfl rfl rfl rfl (by decide) (Yd.eql rfl (.t rfl) (.t rfl)) ?_
        refine W.q rfl rfl rfl rfl (by decide) (Yd.mv rfl (.t rfl)) ?_
        refine W.g rfl rfl rfl rfl rfl (.t rfl _) rfl (by decide) (fun hG => Yd.fldB rfl Try.underlying49 rfl SZ47 rfl (.t rfl)) ?_
        refine W.g rfl rfl rfl rfl rfl (.t rfl _) rfl (by decide) (fun hG => Yd.ldB (pos := 1) rfl rfl rfl ON47 (.g rfl hG)) ?_
        refine W.g rfl rfl rfl rfl rfl (.t rfl _) rfl (by decide) (fun hG => Yd.fldB rfl Try.underlying49 rfl SZ47 rfl (.t rfl)) ?_
        refine W.g rfl rfl rfl rfl rfl (.t rfl _) rfl (by decide) (fun hG => Yd.ldB (pos := 0) rfl rfl rfl ON47 (.g rfl hG)) ?_
        refine W.g rfl rfl rfl rfl rfl (.t rfl _) rfl (by decide) (fun hG => Yd.call (v := .bool ((((syllogistref_Codes r4.1.codes c32).getD false)))) rfl Try.func21 rfl rfl (.cons (.g rfl hG) (.cons (.g rfl hG) .nil)) (fun x' hx w hw => syllogistref_Codes_ok w0 x'.m x'.l _ _ (hu8.mono hx.1) _ _ (hu34.mono hx.1) _ (gd_get (d := false) ha44 hG) w hw)) ?_
        refine W.q rfl rfl rfl rfl (by decide) (Yd.and rfl (.t rfl) .c rfl rfl) ?_
        refine W.q rfl rfl rfl rfl (by decide) (Yd.mv rfl (.t rfl)) ?_
        refine W.g rfl rfl rfl rfl rfl (.t rfl _) rfl (by decide) (fun hG => Yd.fldB rfl Try.underlying49 rfl SZ22 rfl (.t rfl)) ?_
        refine W.g rfl rfl rfl rfl rfl (.t rfl _) rfl (by decide) (fun hG => Yd.ldB (pos := 1) rfl rfl rfl ON22 (.g rfl hG)) ?_
        refine W.g rfl rfl rfl rfl rfl (.t rfl _) rfl (by decide) (fun hG => Yd.fldB rfl Try.underlying49 rfl SZ22 rfl (.t rfl)) ?_
        refine W.g rfl rfl rfl rfl rfl (.t rfl _) rfl (by decide) (fun hG => Yd.ldB (pos := 0) rfl rfl rfl ON22 (.g rfl hG)) ?_
        refine W.g rfl rfl rfl rfl rfl (.t rfl _) rfl (by decide) (fun hG => Yd.call (v := .bool ((((syllogistref_Words r4.1.given c35).getD false)))) rfl Try.func9 rfl rfl (.cons (.g rfl hG) (.cons (.g rfl hG) .nil)) (fun x' hx w hw => syllogistref_Words_ok w0 x'.m x'.l _ _ (hu10.mono hx.1) _ _ (hu37.mono hx.1) _ (gd_get (d := false) ha45 hG) w hw)) ?_
        refine W.q rfl rfl rfl rfl (by decide) (Yd.and rfl (.t rfl) .c rfl rfl) ?_
        refine W.q rfl rfl rfl rfl (by decide) (Yd.mv rfl (.t rfl)) ?_
        refine W.g rfl rfl rfl rfl rfl (.t rfl _) rfl (by decide) (fun hG => Yd.fldB rfl Try.underlying49 rfl SZ22 rfl (.t rfl)) ?_
        refine W.g rfl rfl rfl rfl rfl (.t rfl _) rfl (by decide) (fun hG => Yd.ldB (pos := 1) rfl rfl rfl ON22 (.g rfl hG)) ?_
        refine W.g rfl rfl rfl rfl rfl (.t rfl _) rfl (by decide) (fun hG => Yd.fldB rfl Try.underlying49 rfl SZ22 rfl (.t rfl)) ?_
        refine W.g rfl rfl rfl rfl rfl (.t rfl _) rfl (by decide) (fun hG => Yd.ldB (pos := 0) rfl rfl rfl ON22 (.g rfl hG)) ?_
        refine W.g rfl rfl rfl rfl rfl (.t rfl _) rfl (by decide) (fun hG => Yd.call (v := .bool ((((syllogistref_Words r4.1.play c38).getD false)))) rfl Try.func9 rfl rfl (.cons (.g rfl hG) (.cons (.g rfl hG) .nil)) (fun x' hx w hw => syllogistref_Words_ok w0 x'.m x'.l _ _ (hu12.mono hx.1) _ _ (hu40.mono hx.1) _ (gd_get (d := false) ha46 hG) w hw)) ?_
        refine W.q rfl rfl rfl rfl (by decide) (Yd.and rfl (.t rfl) .c rfl rfl) ?_
        refine W.q rfl rfl rfl rfl (by decide) (Yd.as rfl (.t rfl)) ?_
        refine W.end ?_
        refine NX.sub (env' := [(10, _)]) ⟨rfl, trivial⟩ ?_
        refine NX.drop (l' := l) (.cons _ (.cons _ (.refl _))) ?_
        refine NX.then ?_
        refine Tr.ret' ?_
        refine res1 rfl rfl ?_
        intro w hc
        cases hr
        exact ⟨rfl, (cX_le (x := ⟨m, _⟩) ⟨(hsm6.trans hsm41), [], rfl⟩ hc)⟩
      refine Tr.cond (.t rfl) (fun hb => ?_) (fun hb => ?_)
      · have hr := cond_t hb hr
        obtain ⟨r47, hr48, hr⟩ := bind_some hr
        refine Tr.region_f (fun i => Nat.beq i 5 || Nat.beq i 6) ?_
        refine W.q rfl rfl rfl rfl (by decide) (Yd.mv rfl (.t rfl)) ?_
        refine W.q rfl rfl rfl rfl (by decide) (Yd.mv rfl (.t rfl)) ?_
        refine W.q rfl rfl rfl rfl (by decide) (Yd.mv rfl (.t rfl)) ?_
        refine W.q rfl rfl rfl rfl (by decide) (Yd.mv rfl (.t rfl)) ?_
        refine W.q rfl rfl rfl rfl (by decide) (Yd.mv rfl (.t rfl)) ?_
        refine W.e rfl rfl rfl rfl (by decide) (Ef.call (R := fun z x' => ∃ u50 : Value, ∃ u52 : Value, ∃ u54 : Value, ∃ m49 : Snap, z = .agg #[u50, u52, u54] ∧ x' = ⟨m49, hcells b30 [(.slice none 0 0), (.slice none 0 0), (.slice none 0 0)] 49 :: hownT 31 1 encU (.slice none 0 0) (([] : List (BitVec 32))) :: hownT 31 1 encU (.slice none 0 0) (([] : List (BitVec 32))) :: hownT 23 1 encI (.slice none 0 0) (([] : List Int)) :: hcells b13 [u7, u9, u11] 49 :: l⟩ ∧ Sle m6 m49 ∧ RS rI m49 u50 r47.codes ∧ RS rU m49 u52 r47.given ∧ RS rU m49 u54 r47.play) rfl Try.func20 rfl rfl (.cons (.t rfl) (.cons (.t rfl) (.cons (.t rfl) (.cons (.t rfl) (.cons (.t rfl) .nil))))) (fun w hw => (syllogistref_Roles_ok w0 _ _ fuel n_0 _ _ hpairs_1 _ _ hodds_2 users_3 _ _ hscript_4 _ hr48 w hw).mono fun e w' ⟨u50, u52, u54, m49, he, hm', hu51, hu53, hu55, hc'⟩ => ⟨_, _, he, ⟨u50, u52, u54, m49, rfl, rfl, hm', hu51, hu53, hu55⟩, hc'⟩)) ?_
        rintro _ _ ⟨u50, u52, u54, m49, rfl, rfl, hsm49, hu51, hu53, hu55⟩
        have hpairs_1 := hpairs_1.mono hsm49
        have hodds_2 := hodds_2.mono hsm49
        have hscript_4 := hscript_4.mono hsm49
        have hu8 := hu8.mono hsm49
        have hu10 := hu10.mono hsm49
        have hu12 := hu12.mono hsm49
        refine ⟨.inl rfl, ?_⟩
        refine W.cast (m' := m49) (l' := hcells b30 [_, _, _] 49 :: hownT 31 1 encU (.slice none 0 0) (([] : List (BitVec 32))) :: hownT 31 1 encU (.slice none 0 0) (([] : List (BitVec 32))) :: hownT 23 1 encI (.slice none 0 0) (([] : List Int)) :: hcells b13 [_, _, _] 49 :: l) rfl rfl ?_
        refine W.s rfl rfl rfl rfl (Ef.stBs (pos := 0) (us := [u50, u52, u54]) (cs' := [_, _, _]) (.cons (On.ro hu51) (.cons (On.ro hu53) (.cons (On.ro hu55) .nil))) rfl rfl (.t rfl) (.t rfl) SZ49 rfl rfl (Nat.le_of_ble_eq_true rfl) rfl) ?_
        rintro _ _ ⟨rfl, rfl⟩
        refine ⟨.inl rfl, ?_⟩
        refine W.cast (m' := m49) (l' := hcells b30 [_, _, _] 49 :: hownT 31 1 encU (.slice none 0 0) (([] : List (BitVec 32))) :: hownT 31 1 encU (.slice none 0 0) (([] : List (BitVec 32))) :: hownT 23 1 encI (.slice none 0 0) (([] : List Int)) :: hcells b13 [_, _, _] 49 :: l) rfl rfl ?_
        refine W.end ?_
        refine NX.sub (env' := [(11, _), (12, _), (13, _), (16, _)]) ⟨rfl, rfl, rfl, rfl, trivial⟩ ?_
        refine NX.drop (l' := hcells b30 [_, _, _] 49 :: hcells b13 [_, _, _] 49 :: l) (.cons_cons _ (.cons _ (.cons _ (.cons _ (.cons_cons _ (.refl _)))))) ?_
        refine NX.sub (env' := [(11, _), (12, _), (13, _), (16, _)]) ⟨rfl, rfl, rfl, rfl, trivial⟩ ?_
        exact hk43 _ _ ⟨_, _, _, _, _, _, _, hsm49, hu51, hu53, hu55, rfl, rfl, hr⟩
      · have hr := cond_f hb hr
        refine Tr.skip' ?_
        refine NX.freezeT (enc := encI) (n := 1) (pos := 3) (xs := ([] : List Int)) (fun _ => rfl) rfl (fun m56 hsm56 hu57 => ?_)
        have hpairs_1 := hpairs_1.mono hsm56
        have hodds_2 := hodds_2.mono hsm56
        have hscript_4 := hscript_4.mono hsm56
        have hu8 := hu8.mono hsm56
        have hu10 := hu10.mono hsm56
        have hu12 := hu12.mono hsm56
        refine NX.cast (m' := m56) (l' := hcells b30 [_, _, _] 49 :: hownT 31 1 encU (.slice none 0 0) (([] : List (BitVec 32))) :: hownT 31 1 encU (.slice none 0 0) (([] : List (BitVec 32))) :: hcells b13 [_, _, _] 49 :: l) rfl rfl ?_
        refine NX.freezeT (enc := encU) (n := 1) (pos := 2) (xs := ([] : List (BitVec 32))) (fun _ => rfl) rfl (fun m58 hsm58 hu59 => ?_)
        have hpairs_1 := hpairs_1.mono hsm58
        have hodds_2 := hodds_2.mono hsm58
        have hscript_4 := hscript_4.mono hsm58
        have hu8 := hu8.mono hsm58
        have hu10 := hu10.mono hsm58
        have hu12 := hu12.mono hsm58
        have hu57 := hu57.mono hsm58
        refine NX.cast (m' := m58) (l' := hcells b30 [_, _, _] 49 :: hownT 31 1 encU (.slice none 0 0) (([] : List (BitVec 32))) :: hcells b13 [_, _, _] 49 :: l) rfl rfl ?_
        refine NX.freezeT (enc := encU) (n := 1) (pos := 1) (xs := ([] : List (BitVec 32))) (fun _ => rfl) rfl (fun m60 hsm60 hu61 => ?_)
        have hpairs_1 := hpairs_1.mono hsm60
        have hodds_2 := hodds_2.mono hsm60
        have hscript_4 := hscript_4.mono hsm60
        have hu8 := hu8.mono hsm60
        have hu10 := hu10.mono hsm60
        have hu12 := hu12.mono hsm60
        have hu57 := hu57.mono hsm60
        have hu59 := hu59.mono hsm60
        refine NX.cast (m' := m60) (l' := hcells b30 [_, _, _] 49 :: hcells b13 [_, _, _] 49 :: l) rfl rfl ?_
        refine NX.sub (env' := [(11, _), (12, _), (13, _), (16, _)]) ⟨rfl, rfl, rfl, rfl, trivial⟩ ?_
        exact hk43 _ _ ⟨_, _, _, _, _, _, _, ((hsm56.trans hsm58).trans hsm60), hu57, hu59, hu61, rfl, rfl, hr⟩
    have hlen62 := (hodds_2).2.1
    refine Tr.block ?_
    refine Tr.sub (env' := [(0, _), (1, _), (2, _), (3, _), (4, _), (11, _), (12, _), (13, _), (49, _), (50, _), (51, _)]) ⟨rfl, rfl, rfl, rfl, rfl, rfl, rfl, rfl, rfl, rfl, rfl, trivial⟩ ?_
    refine Tr.loop (S := fun n (z : Int × Int) env x => match z with | (t_63, x_22) => env = [(0, .int .i64 n_0), (1, upairs_1), (2, uodds_2), (3, .int .i64 users_3), (4, uscript_4), (11, bp b13 0), (12, .int .i64 r4.2), (13, .int .i64 x_22), (49, uodds_2), (50, .int .i64 ((odds_2.length : Int))), (51, .int .i64 t_63)] ∧ x = ⟨m6, hcells b13 [u7, u9, u11] 49 :: l⟩ ∧ n = ((odds_2.length : Int) - t_63).toNat ∧ 0 ≤ t_63 ∧ forK (σ := Int) (fun i s nx_ => syllogistlaw_RolesPlays_b64 n_0 odds_2 i s nx_) (fun s => syllogistlaw_RolesPlays_k25 n_0 pairs_1 odds_2 users_3 script_4 fuel r4 s) n t_63 x_22 = some r) _ ((0 : Int), x_17) ⟨rfl, rfl, rfl, (by omega), hr⟩ ?_
    rintro n66 ⟨t_63, x_22⟩ env x ⟨rfl, rfl, hnt_63, h0t_63, hr⟩
    cases n66 with
    | zero =>
      simp only [forK] at hr
      refine Tr.seq ?_
      refine Tr.region_f (fun _ => false) ?_
      refine W.q rfl rfl rfl rfl (by decide) (Yd.lss rfl (.t rfl) (.t rfl)) ?_
      refine W.end ?_
      refine NX.sub (env' := [(0, _), (1, _), (2, _), (3, _), (4, _), (11, _), (12, _), (13, _), (49, _), (50, _), (51, _), (52, _)]) ⟨rfl, rfl, rfl, rfl, rfl, rfl, rfl, rfl, rfl, rfl, rfl, rfl, trivial⟩ ?_
      refine NX.then ?_
      refine Tr.seq ?_
      refine Tr.cond (.t rfl) (fun hb => ?_) (fun hb => ?_)
      · exact absurd (hb.symm.trans (fr_end hnt_63)) (by decide)
      ·
        refine Tr.exit' (EX.then (EX.then (EX.block ?_)))
        refine NX.sub (env' := [(0, _), (1, _), (2, _), (3, _), (4, _), (11, _), (12, _), (13, _)]) ⟨rfl, rfl, rfl, rfl, rfl, rfl, rfl, rfl, trivial⟩ ?_
        exact hk26 _ _ ⟨_, rfl, rfl, hr⟩
    | succ n66 =>
      obtain ⟨nx65, hnx65, hr⟩ := forK_succ hr
      try dsimp only at hr
      unfold syllogistlaw_RolesPlays_b64 at hr
      try dsimp only at hr
      have hltt_63 := fr_bnd hnt_63
      refine Tr.seq ?_
      refine Tr.region_f (fun _ => false) ?_
      refine W.q rfl rfl rfl rfl (by decide) (Yd.lss rfl (.t rfl) (.t rfl)) ?_
      refine W.end ?_
      refine NX.sub (env' := [(0, _), (1, _), (2, _), (3, _), (4, _), (11, _), (12, _), (13, _), (49, _), (50, _), (51, _), (52, _)]) ⟨rfl, rfl, rfl, rfl, rfl, rfl, rfl, rfl, rfl, rfl, rfl, rfl, trivial⟩ ?_
      refine NX.then ?_
      refine Tr.seq ?_
      refine Tr.cond (.t rfl) (fun hb => ?_) (fun hb => ?_)
      rotate_left
      · exact absurd (hb.symm.trans (fr_go hnt_63)) (by decide)
      ·
        refine Tr.skip' ?_
        refine NX.then ?_
        refine Tr.seq ?_
        refine Tr.block ?_
        refine Tr.seq ?_
        obtain ⟨y67, hy68, hr⟩ := bind_some hr
        refine Tr.region_f (fun _ => false) ?_
        refine W.q rfl rfl rfl rfl (by decide) (Yd.idxR hodds_2 hy68 rfl Try.underlying22 SZ31 (.t rfl) (.t rfl)) ?_
        refine W.q rfl rfl rfl rfl (by decide) (Yd.ldF hodds_2 (.refl _) hy68 rfl rfl ON31 (.t rfl)) ?_
        refine W.q rfl rfl rfl rfl (by decide) (Yd.as rfl (.t rfl)) ?_
        refine W.end ?_
        refine NX.sub (env' := [(0, _), (1, _), (2, _), (3, _), (4, _), (11, _), (12, _), (13, _), (49, _), (50, _), (51, _), (15, _)]) ⟨rfl, rfl, rfl, rfl, rfl, rfl, rfl, rfl, rfl, rfl, rfl, rfl, trivial⟩ ?_
        refine NX.then ?_
        refine Tr.seq ?_
        obtain ⟨ha69, hr⟩ := guard_some hr
        refine Tr.region_f (fun _ => false) ?_
        refine W.q rfl rfl rfl rfl (by decide) (Yd.mv rfl (.t rfl)) ?_
        refine W.q rfl rfl rfl rfl (by decide) (Yd.eql rfl (.t rfl) .c) ?_
        refine W.q rfl rfl rfl rfl (by decide) (Yd.mv rfl (.t rfl)) ?_
        refine W.g rfl rfl rfl rfl rfl (.t rfl _) rfl (by decide) (fun hG => Yd.mv rfl (.t rfl)) ?_
        refine W.g rfl rfl rfl rfl rfl (.t rfl _) rfl (by decide) (fun hG => Yd.mv rfl (.t rfl)) ?_
        refine W.g rfl rfl rfl rfl rfl (.t rfl _) rfl (by decide) (fun hG => Yd.call (v := .bool ((((syllogistref_Fits n_0 y67).getD false)))) rfl Try.func13 rfl rfl (.cons (.g rfl hG) (.cons (.g rfl hG) .nil)) (fun x' hx w hw => syllogistref_Fits_ok w0 x'.m x'.l n_0 y67 _ (gd_get (d := false) ha69 hG) w hw)) ?_
        refine W.g rfl rfl rfl rfl rfl (.t rfl _) rfl (by decide) (fun hG => Yd.not rfl (.g rfl hG)) ?_
        refine W.q rfl rfl rfl rfl (by decide) (Yd.and rfl (.t rfl) .c rfl rfl) ?_
        refine W.end ?_
        refine NX.sub (env' := [(0, _), (1, _), (2, _), (3, _), (4, _), (11, _), (12, _), (13, _), (49, _), (50, _), (51, _), (62, _)]) ⟨rfl, rfl, rfl, rfl, rfl, rfl, rfl, rfl, rfl, rfl, rfl, rfl, trivial⟩ ?_
        refine NX.then ?_
        refine Tr.cond (.t rfl) (fun hb => ?_) (fun hb => ?_)
        · have hr := cond_t hb hr
          refine Tr.region_f (fun _ => false) ?_
          refine W.q rfl rfl rfl rfl (by decide) (Yd.as rfl .c) ?_
          refine W.end ?_
          refine NX.sub (env' := [(0, _), (1, _), (2, _), (3, _), (4, _), (11, _), (12, _), (13, _), (49, _), (50, _), (51, _)]) ⟨rfl, rfl, rfl, rfl, rfl, rfl, rfl, rfl, rfl, rfl, rfl, trivial⟩ ?_
          refine NX.block ?_
          refine NX.then ?_
          refine Tr.region_f (fun _ => false) ?_
          refine W.q rfl rfl rfl rfl (by decide) (Yd.add rfl (.t rfl) .c) ?_
          refine W.q rfl rfl rfl rfl (by decide) (Yd.mv rfl (.t rfl)) ?_
          refine W.end ?_
          refine NX.sub (env' := [(0, _), (1, _), (2, _), (3, _), (4, _), (11, _), (12, _), (13, _), (49, _), (50, _), (51, _)]) ⟨rfl, rfl, rfl, rfl, rfl, rfl, rfl, rfl, rfl, rfl, rfl, trivial⟩ ?_
          refine NX.sub (env' := [(0, _), (1, _), (2, _), (3, _), (4, _), (11, _), (12, _), (13, _), (49, _), (50, _), (51, _)]) ⟨rfl, rfl, rfl, rfl, rfl, rfl, rfl, rfl, rfl, rfl, rfl, trivial⟩ ?_
          have hw := w64_id (n := t_63 + 1) (by omega) (by omega)
          exact NX.again n66 (t_63 + 1, (4 : Int)) (Nat.lt_succ_self _) ⟨(by rw [hw] <;> rfl), rfl, (fr_dec hnt_63), (by omega), ((hnx65 _).symm.trans hr)⟩
        · have hr := cond_f hb hr
          refine Tr.skip' ?_
          refine NX.block ?_
          refine NX.then ?_
          refine Tr.region_f (fun _ => false) ?_
          refine W.q rfl rfl rfl rfl (by decide) (Yd.add rfl (.t rfl) .c) ?_
          refine W.q rfl rfl rfl rfl (by decide) (Yd.mv rfl (.t rfl)) ?_
          refine W.end ?_
          refine NX.sub (env' := [(0, _), (1, _), (2, _), (3, _), (4, _), (11, _), (12, _), (13, _), (49, _), (50, _), (51, _)]) ⟨rfl, rfl, rfl, rfl, rfl, rfl, rfl, rfl, rfl, rfl, rfl, trivial⟩ ?_
          refine NX.sub (env' := [(0, _), (1, _), (2, _), (3, _), (4, _), (11, _), (12, _), (13, _), (49, _), (50, _), (51, _)]) ⟨rfl, rfl, rfl, rfl, rfl, rfl, rfl, rfl, rfl, rfl, rfl, trivial⟩ ?_
          have hw := w64_id (n := t_63 + 1) (by omega) (by omega)
          exact NX.again n66 (t_63 + 1, x_22) (Nat.lt_succ_self _) ⟨(by rw [hw] <;> rfl), rfl, (fr_dec hnt_63), (by omega), ((hnx65 _).symm.trans hr)⟩
  refine Tr.cond (.t rfl) (fun hb => ?_) (fun hb => ?_)
  · have hr := cond_t hb hr
    refine Tr.region_f (fun _ => false) ?_
    refine W.q rfl rfl rfl rfl (by decide) (Yd.as rfl .c) ?_
    refine W.end ?_
    refine NX.sub (env' := [(0, _), (1, _), (2, _), (3, _), (4, _), (11, _), (12, _), (13, _)]) ⟨rfl, rfl, rfl, rfl, rfl, rfl, rfl, rfl, trivial⟩ ?_
    refine NX.sub (env' := [(0, _), (1, _), (2, _), (3, _), (4, _), (11, _), (12, _), (13, _)]) ⟨rfl, rfl, rfl, rfl, rfl, rfl, rfl, rfl, trivial⟩ ?_
    exact hk19 _ _ ⟨_, rfl, rfl, hr⟩
  · have hr := cond_f hb hr
    refine Tr.skip' ?_
    refine NX.sub (env' := [(0, _), (1, _), (2, _), (3, _), (4, _), (11, _), (12, _), (13, _)]) ⟨rfl, rfl, rfl, rfl, rfl, rfl, rfl, rfl, trivial⟩ ?_
    exact hk19 _ _ ⟨_, rfl, rfl, hr⟩
end Go.Proofs.Ytjpoedjmoobapaa.Sy
