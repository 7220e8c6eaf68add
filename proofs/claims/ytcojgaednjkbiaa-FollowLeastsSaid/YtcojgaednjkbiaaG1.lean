/- Functions of the program as plain functions, and that the translation computes them; the conditions stand in each theorem. Printed by an own program. -/
import Derived.Test.YtcojgaednjkbiaaSyZ
import Derived.Test.YtcojgaednjkbiaaT
import Derived.Test.YtcojgaednjkbiaaProg
namespace Go.Proofs.Ytcojgaednjkbiaa.Sy
open Go
set_option linter.unusedVariables false
theorem SZ38 : (Try.prog.info? 38).map (·.size) = some 2 := by kernel_rfl
theorem ON38 : one Try.prog 38 = false := by kernel_rfl
theorem US38 : (Try.prog.underlying 38).isSome = true := by kernel_rfl
theorem ZR38 : (Try.prog.info? 38).bind (·.zero) = some (.agg #[.int .u32 0, .int .u32 0]) := by kernel_rfl
theorem SZ34 : (Try.prog.info? 34).map (·.size) = some 1 := by kernel_rfl
theorem ON34 : one Try.prog 34 = true := by kernel_rfl
theorem IF38 : (Try.prog.info? 38).map (fun i => (i.zero, i.size, i.bytes)) = some (some (.agg #[.int .u32 0, .int .u32 0]), 2, 8) := by kernel_rfl
theorem FM : Try.prog.follows .mixedOrders = true := by kernel_rfl
theorem ZI38 : (Try.prog.info? 38).bind (·.zero) = some (.agg #[.int .u32 0, .int .u32 0]) := by kernel_rfl
theorem PL38 : plS Try.prog 38 = some [(0, 1), (1, 1)] := by kernel_rfl
theorem US3 : (Try.prog.underlying 3).isSome = true := by kernel_rfl
theorem IN38 : (Try.prog.info? 38).isSome = true := by kernel_rfl

def follow_Check_k13 (n_0 : Int) (all_12 : BitVec 32) : Option (Int) :=
  bif decide (0 ≤ n_0) then
  (bif ((all_12 >>> n_0.toNat) != 0#32) then
  some ((4 : Int))
  else
  some ((0 : Int))) else none

def follow_Check_b18 (more_2 : List (BitVec 32)) (t_17 : Int) (all_10 : BitVec 32) (nx19 : (BitVec 32) → Option (Int)) : Option (Int) :=
  (geti more_2 t_17).bind fun y21 =>
  nx19 (all_10 ||| y21)

def follow_Check_k6 (n_0 : Int) (more_2 : List (BitVec 32)) (all_5 : BitVec 32) : Option (Int) :=
  forK (σ := (BitVec 32)) (fun i s nx_ => follow_Check_b18 more_2 i s nx_) (fun s => follow_Check_k13 n_0 s) ((more_2.length : Int) - (0 : Int)).toNat (0 : Int) all_5

def follow_Check_b25 (rules_1 : List Rule) (t_24 : Int) (all_3 : BitVec 32) (nx26 : (BitVec 32) → Option (Int)) : Option (Int) :=
  (geti rules_1 t_24).bind fun y28 =>
  nx26 (all_3 ||| (y28.cond ||| y28.thn))

def follow_Check (n_0 : Int) (rules_1 : List Rule) (more_2 : List (BitVec 32)) : Option (Int) :=
  (bif (((decide (n_0 < (1 : Int))) || (decide (n_0 > (6 : Int)))) || (decide ((rules_1.length : Int) > (10 : Int)))) then
  some ((1 : Int))
  else
  forK (σ := (BitVec 32)) (fun i s nx_ => follow_Check_b25 rules_1 i s nx_) (fun s => follow_Check_k6 n_0 more_2 s) ((rules_1.length : Int) - (0 : Int)).toNat (0 : Int) (0#32))

set_option maxRecDepth 100000 in
set_option maxHeartbeats 4000000 in
theorem follow_Check_ok (w0 : World) (m : Snap) (l : List HI) (n_0 : Int) (urules_1 : Value) (rules_1 : List Rule) (hrules_1 : RS rRule m urules_1 rules_1) (umore_2 : Value) (more_2 : List (BitVec 32)) (hmore_2 : RS rU m umore_2 more_2) (r : Int) (hr : follow_Check n_0 rules_1 more_2 = some r) (w : World) (hc : cX w0 ⟨m, l⟩ w) :
    Calls Try.prog 18 [.int .i64 n_0, urules_1, umore_2].toArray w fun e w' => e = .returned (.int .i64 r) ∧ cX w0 ⟨m, l⟩ w' := by
  unfold follow_Check at hr
  refine calls_of_Tr (N := 51) Try.func18 rfl hc rfl (Nat.le_of_ble_eq_true rfl) ?_
  refine Tr.seq ?_
  refine Tr.region_f (fun _ => false) ?_
  refine W.q rfl rfl rfl rfl (by decide) (Yd.as rfl .c) ?_
  refine W.end ?_
  refine NX.sub (env' := [(0, _), (1, _), (2, _)]) ⟨rfl, rfl, rfl, trivial⟩ ?_
  refine NX.then ?_
  refine Tr.seq ?_
  refine Tr.seq ?_
  refine Tr.region_f (fun _ => false) ?_
  refine W.q rfl rfl rfl rfl (by decide) (Yd.mv rfl (.t rfl)) ?_
  refine W.q rfl rfl rfl rfl (by decide) (Yd.lss rfl (.t rfl) .c) ?_
  refine W.q rfl rfl rfl rfl (by decide) (Yd.mv rfl (.t rfl)) ?_
  refine W.g rfl rfl rfl rfl rfl (.t rfl _) rfl (by decide) (fun hG => Yd.mv rfl (.t rfl)) ?_
  refine W.g rfl rfl rfl rfl rfl (.t rfl _) rfl (by decide) (fun hG => Yd.gtr rfl (.g rfl hG) .c) ?_
  refine W.q rfl rfl rfl rfl (by decide) (Yd.or rfl (.t rfl) .c rfl rfl) ?_
  refine W.q rfl rfl rfl rfl (by decide) (Yd.mv rfl (.t rfl)) ?_
  refine W.g rfl rfl rfl rfl rfl (.t rfl _) rfl (by decide) (fun hG => Yd.mv rfl (.t rfl)) ?_
  refine W.g rfl rfl rfl rfl rfl (.t rfl _) rfl (by decide) (fun hG => Yd.lenR hrules_1 rfl Try.underlying30 (.g rfl hG)) ?_
  refine W.g rfl rfl rfl rfl rfl (.t rfl _) rfl (by decide) (fun hG => Yd.gtr rfl (.g rfl hG) .c) ?_
  refine W.q rfl rfl rfl rfl (by decide) (Yd.or rfl (.t rfl) .c rfl rfl) ?_
  refine W.end ?_
  refine NX.sub (env' := [(0, _), (1, _), (2, _), (22, _)]) ⟨rfl, rfl, rfl, rfl, trivial⟩ ?_
  refine NX.then ?_
  refine Tr.cond (.t rfl) (fun hb => ?_) (fun hb => ?_)
  · have hr := cond_t hb hr
    refine Tr.seq ?_
    refine Tr.region_f (fun _ => false) ?_
    refine W.q rfl rfl rfl rfl (by decide) (Yd.as rfl .c) ?_
    refine W.end ?_
    refine NX.sub (env' := [(6, _)]) ⟨rfl, trivial⟩ ?_
    refine NX.then ?_
    refine Tr.ret' (RT.then ?_)
    refine res1 rfl rfl ?_
    intro w hc
    cases hr
    exact ⟨rfl, hc⟩
  · have hr := cond_f hb hr
    refine Tr.skip' ?_
    refine NX.then ?_
    refine Tr.seq ?_
    refine Tr.region_f (fun _ => false) ?_
    refine W.q rfl rfl rfl rfl (by decide) (Yd.as rfl .c) ?_
    refine W.end ?_
    refine NX.sub (env' := [(0, _), (1, _), (2, _), (7, _)]) ⟨rfl, rfl, rfl, rfl, trivial⟩ ?_
    refine NX.then ?_
    refine Tr.seq ?_
    refine Tr.seq ?_
    refine Tr.region_f (fun _ => false) ?_
    refine W.q rfl rfl rfl rfl (by decide) (Yd.mv rfl (.t rfl)) ?_
    refine W.q rfl rfl rfl rfl (by decide) (Yd.lenR hrules_1 rfl Try.underlying30 (.t rfl)) ?_
    refine W.q rfl rfl rfl rfl (by decide) (Yd.mv rfl .c) ?_
    refine W.end ?_
    refine NX.sub (env' := [(0, _), (2, _), (7, _), (23, _), (24, _), (25, _)]) ⟨rfl, rfl, rfl, rfl, rfl, rfl, trivial⟩ ?_
    refine NX.then ?_
    refine Tr.join (S := fun env x => ∃ all_5 : BitVec 32, env = [(0, .int .i64 n_0), (2, umore_2), (7, .int .u32 (all_5.toNat : Int))] ∧ x = ⟨m, l⟩ ∧ follow_Check_k6 n_0 more_2 all_5 = some r) ?_ (fun hk7 => ?_)
    · rintro _ _ ⟨all_5, rfl, rfl, hr⟩
      unfold follow_Check_k6 at hr
      try dsimp only at hr
      refine NX.then ?_
      refine Tr.seq ?_
      refine Tr.seq ?_
      refine Tr.region_f (fun _ => false) ?_
      refine W.q rfl rfl rfl rfl (by decide) (Yd.mv rfl (.t rfl)) ?_
      refine W.q rfl rfl rfl rfl (by decide) (Yd.lenR hmore_2 rfl Try.underlying22 (.t rfl)) ?_
      refine W.q rfl rfl rfl rfl (by decide) (Yd.mv rfl .c) ?_
      refine W.end ?_
      refine NX.sub (env' := [(0, _), (7, _), (37, _), (38, _), (39, _)]) ⟨rfl, rfl, rfl, rfl, rfl, trivial⟩ ?_
      refine NX.then ?_
      refine Tr.join (S := fun env x => ∃ all_12 : BitVec 32, env = [(0, .int .i64 n_0), (7, .int .u32 (all_12.toNat : Int))] ∧ x = ⟨m, l⟩ ∧ follow_Check_k13 n_0 all_12 = some r) ?_ (fun hk14 => ?_)
      · rintro _ _ ⟨all_12, rfl, rfl, hr⟩
        unfold follow_Check_k13 at hr
        try dsimp only at hr
        refine NX.then ?_
        refine Tr.seq ?_
        refine Tr.seq ?_
        obtain ⟨hq15, hr⟩ := guard_some hr; replace hq15 := of_decide_eq_true hq15
        refine Tr.region_f (fun _ => false) ?_
        refine W.q rfl rfl rfl rfl (by decide) (Yd.mv rfl (.t rfl)) ?_
        refine W.q rfl rfl rfl rfl (by decide) (Yd.mv rfl (.t rfl)) ?_
        refine W.q rfl rfl rfl rfl (by decide) (Yd.shrU (a := all_12) rfl (.t rfl) (.t rfl) hq15) ?_
        refine W.q rfl rfl rfl rfl (by decide) (Yd.neqU (a := (all_12 >>> n_0.toNat)) (b := 0#32) rfl (.t rfl) .c) ?_
        refine W.end ?_
        refine NX.sub (env' := [(50, _)]) ⟨rfl, trivial⟩ ?_
        refine NX.then ?_
        refine Tr.cond (.t rfl) (fun hb => ?_) (fun hb => ?_)
        · have hr := cond_t hb hr
          refine Tr.seq ?_
          refine Tr.region_f (fun _ => false) ?_
          refine W.q rfl rfl rfl rfl (by decide) (Yd.as rfl .c) ?_
          refine W.end ?_
          refine NX.sub (env' := [(6, _)]) ⟨rfl, trivial⟩ ?_
          refine NX.then ?_
          refine Tr.ret' (RT.then ?_)
          refine res1 rfl rfl ?_
          intro w hc
          cases hr
          exact ⟨rfl, hc⟩
        · have hr := cond_f hb hr
          refine Tr.skip' ?_
          refine NX.then ?_
          refine Tr.seq ?_
          refine Tr.region_f (fun _ => false) ?_
          refine W.q rfl rfl rfl rfl (by decide) (Yd.as rfl .c) ?_
          refine W.end ?_
          refine NX.sub (env' := [(6, _)]) ⟨rfl, trivial⟩ ?_
          refine NX.then ?_
          refine Tr.ret' ?_
          refine res1 rfl rfl ?_
          intro w hc
          cases hr
          exact ⟨rfl, hc⟩
      have hlen16 := (hmore_2).2.1
      refine Tr.block ?_
      refine Tr.sub (env' := [(0, _), (7, _), (37, _), (38, _), (39, _)]) ⟨rfl, rfl, rfl, rfl, rfl, trivial⟩ ?_
      refine Tr.loop (S := fun n (z : Int × (BitVec 32)) env x => match z with | (t_17, all_10) => env = [(0, .int .i64 n_0), (7, .int .u32 (all_10.toNat : Int)), (37, umore_2), (38, .int .i64 ((more_2.length : Int))), (39, .int .i64 t_17)] ∧ x = ⟨m, l⟩ ∧ n = ((more_2.length : Int) - t_17).toNat ∧ 0 ≤ t_17 ∧ forK (σ := (BitVec 32)) (fun i s nx_ => follow_Check_b18 more_2 i s nx_) (fun s => follow_Check_k13 n_0 s) n t_17 all_10 = some r) _ ((0 : Int), all_5) ⟨rfl, rfl, rfl, (by omega), hr⟩ ?_
      rintro n20 ⟨t_17, all_10⟩ env x ⟨rfl, rfl, hnt_17, h0t_17, hr⟩
      cases n20 with
      | zero =>
        simp only [forK] at hr
        refine Tr.seq ?_
        refine Tr.region_f (fun _ => false) ?_
        refine W.q rfl rfl rfl rfl (by decide) (Yd.lss rfl (.t rfl) (.t rfl)) ?_
        refine W.end ?_
        refine NX.sub (env' := [(0, _), (7, _), (37, _), (38, _), (39, _), (40, _)]) ⟨rfl, rfl, rfl, rfl, rfl, rfl, trivial⟩ ?_
        refine NX.then ?_
        refine Tr.seq ?_
        refine Tr.cond (.t rfl) (fun hb => ?_) (fun hb => ?_)
        · exact absurd (hb.symm.trans (fr_end hnt_17)) (by decide)
        ·
          refine Tr.exit' (EX.then (EX.then (EX.block ?_)))
          refine NX.sub (env' := [(0, _), (7, _)]) ⟨rfl, rfl, trivial⟩ ?_
          exact hk14 _ _ ⟨_, rfl, rfl, hr⟩
      | succ n20 =>
        obtain ⟨nx19, hnx19, hr⟩ := forK_succ hr
        try dsimp only at hr
        unfold follow_Check_b18 at hr
        try dsimp only at hr
        have hltt_17 := fr_bnd hnt_17
        refine Tr.seq ?_
        refine Tr.region_f (fun _ => false) ?_
        refine W.q rfl rfl rfl rfl (by decide) (Yd.lss rfl (.t rfl) (.t rfl)) ?_
        refine W.end ?_
        refine NX.sub (env' := [(0, _), (7, _), (37, _), (38, _), (39, _), (40, _)]) ⟨rfl, rfl, rfl, rfl, rfl, rfl, trivial⟩ ?_
        refine NX.then ?_
        refine Tr.seq ?_
        refine Tr.cond (.t rfl) (fun hb => ?_) (fun hb => ?_)
        rotate_left
        · exact absurd (hb.symm.trans (fr_go hnt_17)) (by decide)
        ·
          refine Tr.skip' ?_
          refine NX.then ?_
          refine Tr.seq ?_
          refine Tr.block ?_
          refine Tr.seq ?_
          obtain ⟨y21, hy22, hr⟩ := bind_some hr
          refine Tr.region_f (fun _ => false) ?_
          refine W.q rfl rfl rfl rfl (by decide) (Yd.idxR hmore_2 hy22 rfl Try.underlying22 SZ34 (.t rfl) (.t rfl)) ?_
          refine W.q rfl rfl rfl rfl (by decide) (Yd.ldF hmore_2 (.refl _) hy22 rfl rfl ON34 (.t rfl)) ?_
          refine W.q rfl rfl rfl rfl (by decide) (Yd.as rfl (.t rfl)) ?_
          refine W.end ?_
          refine NX.sub (env' := [(0, _), (7, _), (37, _), (38, _), (39, _), (11, _)]) ⟨rfl, rfl, rfl, rfl, rfl, rfl, trivial⟩ ?_
          refine NX.then ?_
          refine Tr.region_f (fun _ => false) ?_
          refine W.q rfl rfl rfl rfl (by decide) (Yd.mv rfl (.t rfl)) ?_
          refine W.q rfl rfl rfl rfl (by decide) (Yd.mv rfl (.t rfl)) ?_
          refine W.q rfl rfl rfl rfl (by decide) (Yd.orU (a := all_10) (b := y21) rfl (.t rfl) (.t rfl)) ?_
          refine W.q rfl rfl rfl rfl (by decide) (Yd.as rfl (.t rfl)) ?_
          refine W.end ?_
          refine NX.sub (env' := [(0, _), (7, _), (37, _), (38, _), (39, _)]) ⟨rfl, rfl, rfl, rfl, rfl, trivial⟩ ?_
          refine NX.block ?_
          refine NX.then ?_
          refine Tr.region_f (fun _ => false) ?_
          refine W.q rfl rfl rfl rfl (by decide) (Yd.add rfl (.t rfl) .c) ?_
          refine W.q rfl rfl rfl rfl (by decide) (Yd.mv rfl (.t rfl)) ?_
          refine W.end ?_
          refine NX.sub (env' := [(0, _), (7, _), (37, _), (38, _), (39, _)]) ⟨rfl, rfl, rfl, rfl, rfl, trivial⟩ ?_
          refine NX.sub (env' := [(0, _), (7, _), (37, _), (38, _), (39, _)]) ⟨rfl, rfl, rfl, rfl, rfl, trivial⟩ ?_
          have hw := w64_id (n := t_17 + 1) (by omega) (by omega)
          exact NX.again n20 (t_17 + 1, (all_10 ||| y21)) (Nat.lt_succ_self _) ⟨(by rw [hw] <;> rfl), rfl, (fr_dec hnt_17), (by omega), ((hnx19 _).symm.trans hr)⟩
    have hlen23 := (hrules_1).2.1
    refine Tr.block ?_
    refine Tr.sub (env' := [(0, _), (2, _), (7, _), (23, _), (24, _), (25, _)]) ⟨rfl, rfl, rfl, rfl, rfl, rfl, trivial⟩ ?_
    refine Tr.loop (S := fun n (z : Int × (BitVec 32)) env x => match z with | (t_24, all_3) => env = [(0, .int .i64 n_0), (2, umore_2), (7, .int .u32 (all_3.toNat : Int)), (23, urules_1), (24, .int .i64 ((rules_1.length : Int))), (25, .int .i64 t_24)] ∧ x = ⟨m, l⟩ ∧ n = ((rules_1.length : Int) - t_24).toNat ∧ 0 ≤ t_24 ∧ forK (σ := (BitVec 32)) (fun i s nx_ => follow_Check_b25 rules_1 i s nx_) (fun s => follow_Check_k6 n_0 more_2 s) n t_24 all_3 = some r) _ ((0 : Int), 0#32) ⟨rfl, rfl, rfl, (by omega), hr⟩ ?_
    rintro n27 ⟨t_24, all_3⟩ env x ⟨rfl, rfl, hnt_24, h0t_24, hr⟩
    cases n27 with
    | zero =>
      simp only [forK] at hr
      refine Tr.seq ?_
      refine Tr.region_f (fun _ => false) ?_
      refine W.q rfl rfl rfl rfl (by decide) (Yd.lss rfl (.t rfl) (.t rfl)) ?_
      refine W.end ?_
      refine NX.sub (env' := [(0, _), (2, _), (7, _), (23, _), (24, _), (25, _), (26, _)]) ⟨rfl, rfl, rfl, rfl, rfl, rfl, rfl, trivial⟩ ?_
      refine NX.then ?_
      refine Tr.seq ?_
      refine Tr.cond (.t rfl) (fun hb => ?_) (fun hb => ?_)
      · exact absurd (hb.symm.trans (fr_end hnt_24)) (by decide)
      ·
        refine Tr.exit' (EX.then (EX.then (EX.block ?_)))
        refine NX.sub (env' := [(0, _), (2, _), (7, _)]) ⟨rfl, rfl, rfl, trivial⟩ ?_
        exact hk7 _ _ ⟨_, rfl, rfl, hr⟩
    | succ n27 =>
      obtain ⟨nx26, hnx26, hr⟩ := forK_succ hr
      try dsimp only at hr
      unfold follow_Check_b25 at hr
      try dsimp only at hr
      have hltt_24 := fr_bnd hnt_24
      refine Tr.seq ?_
      refine Tr.region_f (fun _ => false) ?_
      refine W.q rfl rfl rfl rfl (by decide) (Yd.lss rfl (.t rfl) (.t rfl)) ?_
      refine W.end ?_
      refine NX.sub (env' := [(0, _), (2, _), (7, _), (23, _), (24, _), (25, _), (26, _)]) ⟨rfl, rfl, rfl, rfl, rfl, rfl, rfl, trivial⟩ ?_
      refine NX.then ?_
      refine Tr.seq ?_
      refine Tr.cond (.t rfl) (fun hb => ?_) (fun hb => ?_)
      rotate_left
      · exact absurd (hb.symm.trans (fr_go hnt_24)) (by decide)
      ·
        refine Tr.skip' ?_
        refine NX.then ?_
        refine Tr.seq ?_
        refine Tr.block ?_
        refine Tr.seq ?_
        obtain ⟨y28, hy29, hr⟩ := bind_some hr
        refine Tr.region_f (fun i => Nat.beq i 2 || Nat.beq i 3) ?_
        refine W.q rfl rfl rfl rfl (by decide) (Yd.idxR hrules_1 hy29 rfl Try.underlying30 SZ38 (.t rfl) (.t rfl)) ?_
        refine W.q rfl rfl rfl rfl (by decide) (Yd.ldFs (us := [_, _]) hrules_1 (.refl _) hy29 rfl rfl ON38 US38 SZ38 (.t rfl)) ?_
        refine W.e rfl rfl rfl rfl (by decide) (Ef.al rfl ZR38 rfl) ?_
        rintro _ _ ⟨b30, rfl, rfl⟩
        refine ⟨.inl rfl, ?_⟩
        refine W.cast (m' := m) (l' := hcells b30 [_, _] 38 :: l) rfl rfl ?_
        refine W.s rfl rfl rfl rfl (Ef.stB (pos := 0) (us := [_, _]) (cs' := [_, _]) rfl rfl (.t rfl) (.t rfl) SZ38 rfl rfl rfl (Nat.le_of_ble_eq_true rfl) rfl) ?_
        rintro _ _ ⟨rfl, rfl⟩
        refine ⟨.inl rfl, ?_⟩
        refine W.cast (m' := m) (l' := hcells b30 [_, _] 38 :: l) rfl rfl ?_
        refine W.end ?_
        refine NX.sub (env' := [(0, _), (2, _), (7, _), (23, _), (24, _), (25, _), (9, _)]) ⟨rfl, rfl, rfl, rfl, rfl, rfl, rfl, trivial⟩ ?_
        refine NX.then ?_
        refine Tr.region_f (fun _ => false) ?_
        refine W.q rfl rfl rfl rfl (by decide) (Yd.mv rfl (.t rfl)) ?_
        refine W.q rfl rfl rfl rfl (by decide) (Yd.fldB rfl Try.underlying38 rfl SZ34 rfl (.t rfl)) ?_
        refine W.q rfl rfl rfl rfl (by decide) (Yd.ldB (pos := 0) rfl rfl rfl ON34 (.t rfl)) ?_
        refine W.q rfl rfl rfl rfl (by decide) (Yd.fldB rfl Try.underlying38 rfl SZ34 rfl (.t rfl)) ?_
        refine W.q rfl rfl rfl rfl (by decide) (Yd.ldB (pos := 0) rfl rfl rfl ON34 (.t rfl)) ?_
        refine W.q rfl rfl rfl rfl (by decide) (Yd.orU (a := y28.cond) (b := y28.thn) rfl (.t rfl) (.t rfl)) ?_
        refine W.q rfl rfl rfl rfl (by decide) (Yd.orU (a := all_3) (b := (y28.cond ||| y28.thn)) rfl (.t rfl) (.t rfl)) ?_
        refine W.q rfl rfl rfl rfl (by decide) (Yd.as rfl (.t rfl)) ?_
        refine W.end ?_
        refine NX.sub (env' := [(0, _), (2, _), (7, _), (23, _), (24, _), (25, _)]) ⟨rfl, rfl, rfl, rfl, rfl, rfl, trivial⟩ ?_
        refine NX.drop (l' := l) (.cons _ (.refl _)) ?_
        refine NX.block ?_
        refine NX.then ?_
        refine Tr.region_f (fun _ => false) ?_
        refine W.q rfl rfl rfl rfl (by decide) (Yd.add rfl (.t rfl) .c) ?_
        refine W.q rfl rfl rfl rfl (by decide) (Yd.mv rfl (.t rfl)) ?_
        refine W.end ?_
        refine NX.sub (env' := [(0, _), (2, _), (7, _), (23, _), (24, _), (25, _)]) ⟨rfl, rfl, rfl, rfl, rfl, rfl, trivial⟩ ?_
        refine NX.sub (env' := [(0, _), (2, _), (7, _), (23, _), (24, _), (25, _)]) ⟨rfl, rfl, rfl, rfl, rfl, rfl, trivial⟩ ?_
        have hw := w64_id (n := t_24 + 1) (by omega) (by omega)
        exact NX.again n27 (t_24 + 1, (all_3 ||| (y28.cond ||| y28.thn))) (Nat.lt_succ_self _) ⟨(by rw [hw] <;> rfl), rfl, (fr_dec hnt_24), (by omega), ((hnx26 _).symm.trans hr)⟩

def follow_closed_k6 (s_5 : BitVec 32) : Option ((BitVec 32)) :=
  some s_5

def follow_closed_k16 (s_3 : BitVec 32) (nx9 : (((BitVec 32) × Bool) → Option ((BitVec 32)))) (s_15 : BitVec 32) : Option ((BitVec 32)) :=
  nx9 (s_15, (s_15 != s_3))

def follow_closed_b20 (rules_0 : List Rule) (t_19 : Int) (s_13 : BitVec 32) (nx21 : (BitVec 32) → Option ((BitVec 32))) : Option ((BitVec 32)) :=
  (geti rules_0 t_19).bind fun y23 =>
  (bif ((y23.cond &&& ~~~s_13) == 0#32) then
  nx21 (s_13 ||| y23.thn)
  else
  nx21 s_13)

def follow_closed_b8 (rules_0 : List Rule) (s_3 : BitVec 32) (more_4 : Bool) (nx9 : ((BitVec 32) × Bool) → Option ((BitVec 32))) : Option ((BitVec 32)) :=
  (bif more_4 then
  forK (σ := (BitVec 32)) (fun i s nx_ => follow_closed_b20 rules_0 i s nx_) (fun s => follow_closed_k16 s_3 nx9 s) ((rules_0.length : Int) - (0 : Int)).toNat (0 : Int) s_3
  else
  follow_closed_k6 s_3)

def follow_closed (fuel : Nat) (rules_0 : List Rule) (s_1 : (BitVec 32)) : Option ((BitVec 32)) :=
  whileK (σ := (BitVec 32) × Bool) (fun s nx_ => follow_closed_b8 rules_0 s.1 s.2 nx_) fuel (s_1, true)

set_option maxRecDepth 100000 in
set_option maxHeartbeats 4000000 in
theorem follow_closed_ok (w0 : World) (m : Snap) (l : List HI) (fuel : Nat) (urules_0 : Value) (rules_0 : List Rule) (hrules_0 : RS rRule m urules_0 rules_0) (s_1 : (BitVec 32)) (r : (BitVec 32)) (hr : follow_closed fuel rules_0 s_1 = some r) (w : World) (hc : cX w0 ⟨m, l⟩ w) :
    Calls Try.prog 19 [urules_0, .int .u32 (s_1.toNat : Int)].toArray w fun e w' => e = .returned (.int .u32 (r.toNat : Int)) ∧ cX w0 ⟨m, l⟩ w' := by
  unfold follow_closed at hr
  refine calls_of_Tr (N := 31) Try.func19 rfl hc rfl (Nat.le_of_ble_eq_true rfl) ?_
  refine Tr.seq ?_
  refine Tr.region_f (fun _ => false) ?_
  refine W.q rfl rfl rfl rfl (by decide) (Yd.as rfl .c) ?_
  refine W.end ?_
  refine NX.sub (env' := [(0, _), (1, _)]) ⟨rfl, rfl, trivial⟩ ?_
  refine NX.then ?_
  refine Tr.seq ?_
  refine Tr.seq ?_
  refine Tr.region_f (fun _ => false) ?_
  refine W.q rfl rfl rfl rfl (by decide) (Yd.as rfl .c) ?_
  refine W.end ?_
  refine NX.sub (env' := [(0, _), (1, _), (5, _)]) ⟨rfl, rfl, rfl, trivial⟩ ?_
  refine NX.then ?_
  refine Tr.join (S := fun env x => ∃ s_5 : BitVec 32, env = [(1, .int .u32 (s_5.toNat : Int))] ∧ x = ⟨m, l⟩ ∧ follow_closed_k6 s_5 = some r) ?_ (fun hk7 => ?_)
  · rintro _ _ ⟨s_5, rfl, rfl, hr⟩
    unfold follow_closed_k6 at hr
    try dsimp only at hr
    refine NX.then ?_
    refine Tr.seq ?_
    refine Tr.region_f (fun _ => false) ?_
    refine W.q rfl rfl rfl rfl (by decide) (Yd.mv rfl (.t rfl)) ?_
    refine W.q rfl rfl rfl rfl (by decide) (Yd.as rfl (.t rfl)) ?_
    refine W.end ?_
    refine NX.sub (env' := [(4, _)]) ⟨rfl, trivial⟩ ?_
    refine NX.then ?_
    refine Tr.ret' ?_
    refine res1 rfl rfl ?_
    intro w hc
    cases hr
    exact ⟨rfl, hc⟩
  refine Tr.block ?_
  refine Tr.sub (env' := [(0, _), (1, _), (5, _)]) ⟨rfl, rfl, rfl, trivial⟩ ?_
  refine Tr.loop (S := fun n (z : (BitVec 32) × Bool) env x => match z with | (s_3, more_4) => env = [(0, urules_0), (1, .int .u32 (s_3.toNat : Int)), (5, .bool more_4)] ∧ x = ⟨m, l⟩ ∧ whileK (σ := (BitVec 32) × Bool) (fun s nx_ => follow_closed_b8 rules_0 s.1 s.2 nx_) n (s_3, more_4) = some r) _ (s_1, true) ⟨rfl, rfl, hr⟩ ?_
  rintro n10 ⟨s_3, more_4⟩ env x ⟨rfl, rfl, hr⟩
  cases n10 with
  | zero => simp [whileK] at hr
  | succ n10 =>
    obtain ⟨nx9, hnx9, hr⟩ := whileK_succ hr
    try dsimp only at hr
    unfold follow_closed_b8 at hr
    try dsimp only at hr
    refine Tr.seq ?_
    refine Tr.seq ?_
    refine Tr.region_f (fun _ => false) ?_
    refine W.q rfl rfl rfl rfl (by decide) (Yd.mv rfl (.t rfl)) ?_
    refine W.end ?_
    refine NX.sub (env' := [(0, _), (1, _), (9, _)]) ⟨rfl, rfl, rfl, trivial⟩ ?_
    refine NX.then ?_
    refine Tr.cond (.t rfl) (fun hb => ?_) (fun hb => ?_)
    · have hr := cond_t hb hr
      refine Tr.skip' ?_
      refine NX.then ?_
      refine Tr.block ?_
      refine Tr.seq ?_
      refine Tr.region_f (fun _ => false) ?_
      refine W.q rfl rfl rfl rfl (by decide) (Yd.mv rfl (.t rfl)) ?_
      refine W.q rfl rfl rfl rfl (by decide) (Yd.as rfl (.t rfl)) ?_
      refine W.end ?_
      refine NX.sub (env' := [(0, _), (1, _), (6, _)]) ⟨rfl, rfl, rfl, trivial⟩ ?_
      refine NX.then ?_
      refine Tr.seq ?_
      refine Tr.seq ?_
      refine Tr.region_f (fun _ => false) ?_
      refine W.q rfl rfl rfl rfl (by decide) (Yd.mv rfl (.t rfl)) ?_
      refine W.q rfl rfl rfl rfl (by decide) (Yd.lenR hrules_0 rfl Try.underlying30 (.t rfl)) ?_
      refine W.q rfl rfl rfl rfl (by decide) (Yd.mv rfl .c) ?_
      refine W.end ?_
      refine NX.sub (env' := [(0, _), (1, _), (6, _), (11, _), (12, _), (13, _)]) ⟨rfl, rfl, rfl, rfl, rfl, rfl, trivial⟩ ?_
      refine NX.then ?_
      refine Tr.join (S := fun env x => ∃ s_15 : BitVec 32, env = [(0, urules_0), (1, .int .u32 (s_15.toNat : Int)), (6, .int .u32 (s_3.toNat : Int))] ∧ x = ⟨m, l⟩ ∧ follow_closed_k16 s_3 nx9 s_15 = some r) ?_ (fun hk17 => ?_)
      · rintro _ _ ⟨s_15, rfl, rfl, hr⟩
        unfold follow_closed_k16 at hr
        try dsimp only at hr
        refine NX.then ?_
        refine Tr.region_f (fun _ => false) ?_
        refine W.q rfl rfl rfl rfl (by decide) (Yd.mv rfl (.t rfl)) ?_
        refine W.q rfl rfl rfl rfl (by decide) (Yd.mv rfl (.t rfl)) ?_
        refine W.q rfl rfl rfl rfl (by decide) (Yd.neqU (a := s_15) (b := s_3) rfl (.t rfl) (.t rfl)) ?_
        refine W.q rfl rfl rfl rfl (by decide) (Yd.as rfl (.t rfl)) ?_
        refine W.end ?_
        refine NX.sub (env' := [(0, _), (1, _), (5, _)]) ⟨rfl, rfl, rfl, trivial⟩ ?_
        refine NX.block ?_
        refine NX.sub (env' := [(0, _), (1, _), (5, _)]) ⟨rfl, rfl, rfl, trivial⟩ ?_
        exact NX.again n10 (s_15, (s_15 != s_3)) (Nat.lt_succ_self _) ⟨rfl, rfl, ((hnx9 _).symm.trans hr)⟩
      have hlen18 := (hrules_0).2.1
      refine Tr.block ?_
      refine Tr.sub (env' := [(0, _), (1, _), (6, _), (11, _), (12, _), (13, _)]) ⟨rfl, rfl, rfl, rfl, rfl, rfl, trivial⟩ ?_
      refine Tr.loop (S := fun n (z : Int × (BitVec 32)) env x => match z with | (t_19, s_13) => env = [(0, urules_0), (1, .int .u32 (s_13.toNat : Int)), (6, .int .u32 (s_3.toNat : Int)), (11, urules_0), (12, .int .i64 ((rules_0.length : Int))), (13, .int .i64 t_19)] ∧ x = ⟨m, l⟩ ∧ n = ((rules_0.length : Int) - t_19).toNat ∧ 0 ≤ t_19 ∧ forK (σ := (BitVec 32)) (fun i s nx_ => follow_closed_b20 rules_0 i s nx_) (fun s => follow_closed_k16 s_3 nx9 s) n t_19 s_13 = some r) _ ((0 : Int), s_3) ⟨rfl, rfl, rfl, (by omega), hr⟩ ?_
      rintro n22 ⟨t_19, s_13⟩ env x ⟨rfl, rfl, hnt_19, h0t_19, hr⟩
      cases n22 with
      | zero =>
        simp only [forK] at hr
        refine Tr.seq ?_
        refine Tr.region_f (fun _ => false) ?_
        refine W.q rfl rfl rfl rfl (by decide) (Yd.lss rfl (.t rfl) (.t rfl)) ?_
        refine W.end ?_
        refine NX.sub (env' := [(0, _), (1, _), (6, _), (11, _), (12, _), (13, _), (14, _)]) ⟨rfl, rfl, rfl, rfl, rfl, rfl, rfl, trivial⟩ ?_
        refine NX.then ?_
        refine Tr.seq ?_
        refine Tr.cond (.t rfl) (fun hb => ?_) (fun hb => ?_)
        · exact absurd (hb.symm.trans (fr_end hnt_19)) (by decide)
        ·
          refine Tr.exit' (EX.then (EX.then (EX.block ?_)))
          refine NX.sub (env' := [(0, _), (1, _), (6, _)]) ⟨rfl, rfl, rfl, trivial⟩ ?_
          exact hk17 _ _ ⟨_, rfl, rfl, hr⟩
      | succ n22 =>
        obtain ⟨nx21, hnx21, hr⟩ := forK_succ hr
        try dsimp only at hr
        unfold follow_closed_b20 at hr
        try dsimp only at hr
        have hltt_19 := fr_bnd hnt_19
        refine Tr.seq ?_
        refine Tr.region_f (fun _ => false) ?_
        refine W.q rfl rfl rfl rfl (by decide) (Yd.lss rfl (.t rfl) (.t rfl)) ?_
        refine W.end ?_
        refine NX.sub (env' := [(0, _), (1, _), (6, _), (11, _), (12, _), (13, _), (14, _)]) ⟨rfl, rfl, rfl, rfl, rfl, rfl, rfl, trivial⟩ ?_
        refine NX.then ?_
        refine Tr.seq ?_
        refine Tr.cond (.t rfl) (fun hb => ?_) (fun hb => ?_)
        rotate_left
        · exact absurd (hb.symm.trans (fr_go hnt_19)) (by decide)
        ·
          refine Tr.skip' ?_
          refine NX.then ?_
          refine Tr.seq ?_
          refine Tr.block ?_
          refine Tr.seq ?_
          obtain ⟨y23, hy24, hr⟩ := bind_some hr
          refine Tr.region_f (fun i => Nat.beq i 2 || Nat.beq i 3) ?_
          refine W.q rfl rfl rfl rfl (by decide) (Yd.idxR hrules_0 hy24 rfl Try.underlying30 SZ38 (.t rfl) (.t rfl)) ?_
          refine W.q rfl rfl rfl rfl (by decide) (Yd.ldFs (us := [_, _]) hrules_0 (.refl _) hy24 rfl rfl ON38 US38 SZ38 (.t rfl)) ?_
          refine W.e rfl rfl rfl rfl (by decide) (Ef.al rfl ZR38 rfl) ?_
          rintro _ _ ⟨b25, rfl, rfl⟩
          refine ⟨.inl rfl, ?_⟩
          refine W.cast (m' := m) (l' := hcells b25 [_, _] 38 :: l) rfl rfl ?_
          refine W.s rfl rfl rfl rfl (Ef.stB (pos := 0) (us := [_, _]) (cs' := [_, _]) rfl rfl (.t rfl) (.t rfl) SZ38 rfl rfl rfl (Nat.le_of_ble_eq_true rfl) rfl) ?_
          rintro _ _ ⟨rfl, rfl⟩
          refine ⟨.inl rfl, ?_⟩
          refine W.cast (m' := m) (l' := hcells b25 [_, _] 38 :: l) rfl rfl ?_
          refine W.end ?_
          refine NX.sub (env' := [(0, _), (1, _), (6, _), (11, _), (12, _), (13, _), (8, _)]) ⟨rfl, rfl, rfl, rfl, rfl, rfl, rfl, trivial⟩ ?_
          refine NX.then ?_
          refine Tr.seq ?_
          refine Tr.region_f (fun _ => false) ?_
          refine W.q rfl rfl rfl rfl (by decide) (Yd.fldB rfl Try.underlying38 rfl SZ34 rfl (.t rfl)) ?_
          refine W.q rfl rfl rfl rfl (by decide) (Yd.ldB (pos := 0) rfl rfl rfl ON34 (.t rfl)) ?_
          refine W.q rfl rfl rfl rfl (by decide) (Yd.mv rfl (.t rfl)) ?_
          refine W.q rfl rfl rfl rfl (by decide) (Yd.andnU (a := y23.cond) (b := s_13) rfl (.t rfl) (.t rfl)) ?_
          refine W.q rfl rfl rfl rfl (by decide) (Yd.eqlU (a := (y23.cond &&& ~~~s_13)) (b := 0#32) rfl (.t rfl) .c) ?_
          refine W.end ?_
          refine NX.sub (env' := [(0, _), (1, _), (6, _), (11, _), (12, _), (13, _), (8, _), (21, _)]) ⟨rfl, rfl, rfl, rfl, rfl, rfl, rfl, rfl, trivial⟩ ?_
          refine NX.then ?_
          refine Tr.cond (.t rfl) (fun hb => ?_) (fun hb => ?_)
          · have hr := cond_t hb hr
            refine Tr.region_f (fun _ => false) ?_
            refine W.q rfl rfl rfl rfl (by decide) (Yd.mv rfl (.t rfl)) ?_
            refine W.q rfl rfl rfl rfl (by decide) (Yd.fldB rfl Try.underlying38 rfl SZ34 rfl (.t rfl)) ?_
            refine W.q rfl rfl rfl rfl (by decide) (Yd.ldB (pos := 0) rfl rfl rfl ON34 (.t rfl)) ?_
            refine W.q rfl rfl rfl rfl (by decide) (Yd.orU (a := s_13) (b := y23.thn) rfl (.t rfl) (.t rfl)) ?_
            refine W.q rfl rfl rfl rfl (by decide) (Yd.as rfl (.t rfl)) ?_
            refine W.end ?_
            refine NX.sub (env' := [(0, _), (1, _), (6, _), (11, _), (12, _), (13, _)]) ⟨rfl, rfl, rfl, rfl, rfl, rfl, trivial⟩ ?_
            refine NX.drop (l' := l) (.cons _ (.refl _)) ?_
            refine NX.block ?_
            refine NX.then ?_
            refine Tr.region_f (fun _ => false) ?_
            refine W.q rfl rfl rfl rfl (by decide) (Yd.add rfl (.t rfl) .c) ?_
            refine W.q rfl rfl rfl rfl (by decide) (Yd.mv rfl (.t rfl)) ?_
            refine W.end ?_
            refine NX.sub (env' := [(0, _), (1, _), (6, _), (11, _), (12, _), (13, _)]) ⟨rfl, rfl, rfl, rfl, rfl, rfl, trivial⟩ ?_
            refine NX.sub (env' := [(0, _), (1, _), (6, _), (11, _), (12, _), (13, _)]) ⟨rfl, rfl, rfl, rfl, rfl, rfl, trivial⟩ ?_
            have hw := w64_id (n := t_19 + 1) (by omega) (by omega)
            exact NX.again n22 (t_19 + 1, (s_13 ||| y23.thn)) (Nat.lt_succ_self _) ⟨(by rw [hw] <;> rfl), rfl, (fr_dec hnt_19), (by omega), ((hnx21 _).symm.trans hr)⟩
          · have hr := cond_f hb hr
            refine Tr.skip' ?_
            refine NX.block ?_
            refine NX.then ?_
            refine Tr.region_f (fun _ => false) ?_
            refine W.q rfl rfl rfl rfl (by decide) (Yd.add rfl (.t rfl) .c) ?_
            refine W.q rfl rfl rfl rfl (by decide) (Yd.mv rfl (.t rfl)) ?_
            refine W.end ?_
            refine NX.sub (env' := [(0, _), (1, _), (6, _), (11, _), (12, _), (13, _)]) ⟨rfl, rfl, rfl, rfl, rfl, rfl, trivial⟩ ?_
            refine NX.drop (l' := l) (.cons _ (.refl _)) ?_
            refine NX.sub (env' := [(0, _), (1, _), (6, _), (11, _), (12, _), (13, _)]) ⟨rfl, rfl, rfl, rfl, rfl, rfl, trivial⟩ ?_
            have hw := w64_id (n := t_19 + 1) (by omega) (by omega)
            exact NX.again n22 (t_19 + 1, s_13) (Nat.lt_succ_self _) ⟨(by rw [hw] <;> rfl), rfl, (fr_dec hnt_19), (by omega), ((hnx21 _).symm.trans hr)⟩
    · have hr := cond_f hb hr
      refine Tr.exit' (EX.then (EX.then (EX.block ?_)))
      refine NX.sub (env' := [(1, _)]) ⟨rfl, trivial⟩ ?_
      exact hk7 _ _ ⟨_, rfl, rfl, hr⟩

def slices_Clone_SapiRuleapiRule (s_0 : List Rule) : Option ((List Rule)) :=
  bif decide ((([] : List Rule)).length + s_0.length ≤ 17592186044416) then
  some ((([] : List Rule) ++ s_0)) else none

set_option maxRecDepth 100000 in
set_option maxHeartbeats 4000000 in
theorem slices_Clone_SapiRuleapiRule_ok (w0 : World) (m : Snap) (l : List HI) (us_0 : Value) (s_0 : List Rule) (hs_0 : RS rRule m us_0 s_0) (r : (List Rule)) (hr : slices_Clone_SapiRuleapiRule s_0 = some r) (w : World) (hc : cX w0 ⟨m, l⟩ w) :
    Calls Try.prog 21 [us_0].toArray w fun e w' => ∃ z0 : Value, e = .returned (z0) ∧ cX w0 ⟨m, hownT 38 2 Rule.enc z0 r :: l⟩ w' := by
  unfold slices_Clone_SapiRuleapiRule at hr
  refine calls_of_Tr (N := 8) Try.func21 rfl hc rfl (Nat.le_of_ble_eq_true rfl) ?_
  refine Tr.seq ?_
  refine Tr.region_f (fun _ => false) ?_
  refine W.q rfl rfl rfl rfl (by decide) (Yd.as rfl .c) ?_
  refine W.end ?_
  refine NX.sub (env' := [(0, _)]) ⟨rfl, trivial⟩ ?_
  refine NX.then ?_
  refine Tr.seq ?_
  refine Tr.seq ?_
  refine Tr.region_f (fun _ => false) ?_
  refine W.q rfl rfl rfl rfl (by decide) (Yd.mv rfl (.t rfl)) ?_
  refine W.q rfl rfl rfl rfl (by decide) (Yd.eqnil hs_0 rfl Try.underlying30 (.t rfl) .c) ?_
  refine W.end ?_
  refine NX.sub (env' := [(0, _), (4, _)]) ⟨rfl, rfl, trivial⟩ ?_
  refine NX.then ?_
  refine Tr.cond (.t rfl) (fun hb => ?_) (fun hb => ?_)
  · obtain rfl : s_0 = [] := RS.nil_of hs_0 hb
    have hr : some ([]) = some r := hr
    refine Tr.seq ?_
    refine Tr.region_f (fun _ => false) ?_
    refine W.q rfl rfl rfl rfl (by decide) (Yd.as rfl .c) ?_
    refine W.end ?_
    refine NX.sub (env' := [(2, _)]) ⟨rfl, trivial⟩ ?_
    refine NX.then ?_
    refine Tr.ret' (RT.then ?_)
    refine res1 rfl rfl ?_
    intro w hc
    cases hr
    exact ⟨_, rfl, (cX_nil hc)⟩
  ·
    refine Tr.skip' ?_
    refine NX.then ?_
    refine Tr.seq ?_
    obtain ⟨hq4, hr⟩ := guard_some hr; replace hq4 := of_decide_eq_true hq4
    refine Tr.region_f (fun i => Nat.beq i 0 || Nat.beq i 2) ?_
    refine W.e rfl rfl rfl rfl (by decide) (Ef.bsT (enc := Rule.enc) (vs := []) (ys := []) (fun _ => rfl) IF38 rfl Try.underlying30 (by decide) rfl .nil rfl rfl (by decide)) ?_
    rintro v1 _ rfl
    refine ⟨.inl rfl, ?_⟩
    refine W.cast (m' := m) (l' := hownT 38 2 Rule.enc v1 _ :: l) rfl rfl ?_
    refine W.q rfl rfl rfl rfl (by decide) (Yd.mv rfl (.t rfl)) ?_
    refine W.e rfl rfl rfl rfl (by decide) (Ef.apI (pos := 0) (enc := Rule.enc) (xs := ([] : List Rule)) (ys := s_0) (fun _ => rfl) IF38 rfl rfl Try.underlying30 rfl (by decide) (.t rfl) (.t rfl) (Src.rs (by decide) (.refl _) hs_0) (fun _ => rfl) (by omega) (by omega)) ?_
    rintro v3 _ rfl
    refine ⟨.inl rfl, ?_⟩
    refine W.cast (m' := m) (l' := hownT 38 2 Rule.enc v3 _ :: l) rfl rfl ?_
    refine W.q rfl rfl rfl rfl (by decide) (Yd.as rfl (.t rfl)) ?_
    refine W.end ?_
    refine NX.sub (env' := [(2, _)]) ⟨rfl, trivial⟩ ?_
    refine NX.then ?_
    refine Tr.ret' ?_
    refine res1 rfl rfl ?_
    intro w hc
    cases hr
    exact ⟨_, rfl, hc⟩

def slices_Delete_SapiRuleapiRule (xs : List Rule) (i j : Int) : Option (List Rule) :=
  bif decide (0 ≤ i ∧ i < j ∧ j ≤ (xs.length : Int)) then some (xs.take i.toNat ++ xs.drop j.toNat) else none

set_option maxRecDepth 100000 in
set_option maxHeartbeats 4000000 in
theorem slices_Delete_SapiRuleapiRule_ok (w0 : World) (m : Snap) (l : List HI) (u : Value) (xs : List Rule) (i j : Int) (r : List Rule) (hr : slices_Delete_SapiRuleapiRule xs i j = some r) (w : World) (hc : cX w0 ⟨m, hownT 38 2 Rule.enc u xs :: l⟩ w) :
    Calls Try.prog 20 [u, .int .i64 i, .int .i64 j].toArray w fun e w' => ∃ z : Value, e = .returned z ∧ cX w0 ⟨m, hownT 38 2 Rule.enc z r :: l⟩ w' := by
  unfold slices_Delete_SapiRuleapiRule at hr
  obtain ⟨hq, hr⟩ := guard_some hr; replace hq := of_decide_eq_true hq; obtain ⟨h0, h1, h2⟩ := hq
  obtain ⟨k, rfl⟩ : ∃ k : Nat, i = k := ⟨i.toNat, by omega⟩
  obtain ⟨k2, rfl⟩ : ∃ k2 : Nat, j = k2 := ⟨j.toNat, by omega⟩
  simp only [Int.toNat_natCast] at hr
  have hxl := flat_length (enc := Rule.enc) (n := 2) (fun _ => rfl) xs
  have hfi := flat_delete (enc := Rule.enc) (n := 2) (fun _ => rfl) xs k k2
  cases hr
  refine calls_of_Tr (N := 33) Try.func20 rfl hc rfl (Nat.le_of_ble_eq_true rfl) ?_
  refine Tr.openO (fun _ h => by omega) fun b cap cs hu h3 h4 h5 h6 => ?_
  subst hu
  have hKn : xs.length * 2 ≤ cap * 2 := Nat.mul_le_mul_right _ h3
  have hkn : k * 2 ≤ xs.length * 2 := Nat.mul_le_mul_right _ (by omega)
  have hk2n : k2 * 2 ≤ xs.length * 2 := Nat.mul_le_mul_right _ (by omega)
  have hkk : k * 2 ≤ k2 * 2 := Nat.mul_le_mul_right _ (by omega)
  rw [← h6] at hfi
  refine Tr.seq ?_
  refine Tr.region_f (fun _ => false) ?_
  refine W.q rfl rfl rfl rfl (by decide) (Yd.as rfl (.c)) ?_
  refine W.end ?_
  refine NX.then ?_
  refine Tr.seq ?_
  refine Tr.region_f (fun _ => false) ?_
  refine W.q rfl rfl rfl rfl (by decide) (Yd.mv rfl (.t rfl)) ?_
  refine W.q rfl rfl rfl rfl (by decide) (Yd.mv rfl (.t rfl)) ?_
  refine W.q rfl rfl rfl rfl (by decide) (Yd.mv rfl (.t rfl)) ?_
  refine W.q rfl rfl rfl rfl (by decide) (Yd.mv rfl (.t rfl)) ?_
  refine W.q rfl rfl rfl rfl (by decide) (Yd.len rfl Try.underlying30 (.t rfl)) ?_
  refine W.q rfl rfl rfl rfl (by decide) (Yd.sl3C (lo := k) (hi := k2) (mx := xs.length) (by omega) (by omega) h3 rfl Try.underlying30 SZ38 (.t rfl) (.t rfl) (.t rfl) (.t rfl)) ?_
  refine W.end ?_
  refine NX.then ?_
  refine Tr.seq ?_
  refine Tr.seq ?_
  refine Tr.region_f (fun _ => false) ?_
  refine W.q rfl rfl rfl rfl (by decide) (Yd.mv rfl (.t rfl)) ?_
  refine W.q rfl rfl rfl rfl (by decide) (Yd.mv rfl (.t rfl)) ?_
  refine W.q rfl rfl rfl rfl (by decide) (Yd.eql rfl (.t rfl) (.t rfl)) ?_
  refine W.end ?_
  refine NX.then ?_
  refine Tr.cond (.t rfl) (fun hb => absurd (beq_iff_eq.1 hb) (by omega)) (fun hb => ?_)
  refine Tr.skip' ?_
  refine NX.then ?_
  refine Tr.seq ?_
  refine Tr.region_f (fun _ => false) ?_
  refine W.q rfl rfl rfl rfl (by decide) (Yd.mv rfl (.t rfl)) ?_
  refine W.q rfl rfl rfl rfl (by decide) (Yd.len rfl Try.underlying30 (.t rfl)) ?_
  refine W.q rfl rfl rfl rfl (by decide) (Yd.as rfl (.t rfl)) ?_
  refine W.end ?_
  refine NX.then ?_
  have hnl : ((cs.drop (k2 * 2)).take ((xs.length - k2) * 2)).length = (xs.length - k2) * 2 := by rw [List.length_take, List.length_drop, h5, Nat.sub_mul]; omega
  have hsub : ((cs.drop (k2 * 2)).take ((xs.length - k2) * 2)) = (xs.flatMap Rule.enc).drop (k2 * 2) := by rw [← h6, List.drop_take, ← Nat.sub_mul]
  have hna : ((cs.drop (k2 * 2)).take ((xs.length - k2) * 2)).all Value.oneCell' = true := by
    rw [hsub, List.all_eq_true]; intro u hu
    obtain ⟨y, _, hy⟩ := List.mem_flatMap.1 (List.mem_of_mem_drop hu)
    exact List.all_eq_true.1 (show (Rule.enc y).all Value.oneCell' = true from rfl) u hy
  have hroom : k + (xs.length - k2) ≤ cap := by omega
  have hrn : (k + (xs.length - k2)) * 2 ≤ cap * 2 := Nat.mul_le_mul_right _ hroom
  rw [Nat.add_mul] at hrn
  have hnews : ∀ j u, ((cs.drop (k2 * 2)).take ((xs.length - k2) * 2))[j]? = some u → cs[(if cap = k2 then 0 else k2 * 2) + j]? = some u := by
    intro j u hu
    by_cases hck : cap = k2
    · have h7 : ((cs.drop (k2 * 2)).take ((xs.length - k2) * 2)) = [] := List.eq_nil_of_length_eq_zero (by rw [hnl, show xs.length - k2 = 0 by omega, Nat.zero_mul])
      rw [h7] at hu; simp at hu
    · rw [if_neg hck]
      rw [List.getElem?_take] at hu
      split at hu
      · rwa [List.getElem?_drop] at hu
      · cases hu
  refine Tr.seq ?_
  refine Tr.region_x (fun i => Nat.beq i 6) (fun i => Nat.beq i 6) (Ord.of [0, 1, 2, 3, 4, 5, 6, 7]) FM (by kernel_rfl) ?_
  refine W.q rfl rfl rfl rfl (by decide) (Yd.mv rfl (.t rfl)) ?_
  refine W.q rfl rfl rfl rfl (by decide) (Yd.mv rfl (.t rfl)) ?_
  refine W.q rfl rfl rfl rfl (by decide) (Yd.slTC (hi := k) (by omega) h3 rfl Try.underlying30 SZ38 (.t rfl) (.t rfl)) ?_
  refine W.q rfl rfl rfl rfl (by decide) (Yd.mv rfl (.t rfl)) ?_
  refine W.q rfl rfl rfl rfl (by decide) (Yd.mv rfl (.t rfl)) ?_
  refine W.q rfl rfl rfl rfl (by decide) (Yd.slFE (lo := k2) (by omega) h3 rfl Try.underlying30 SZ38 (.t rfl) (.t rfl)) ?_
  refine W.e rfl rfl rfl rfl (by decide) (Ef.apInC (pos := 0) (i := k) (mm := xs.length - k2) (n := 2) (news := ((cs.drop (k2 * 2)).take ((xs.length - k2) * 2))) rfl h5 hroom hnl hnews hna rfl Try.underlying30 SZ38 (.t rfl) (.t rfl) rfl) ?_
  rintro _ _ ⟨rfl, rfl⟩
  refine ⟨.inl rfl, ?_⟩
  have hl1 : (cs.take (k * 2) ++ ((cs.drop (k2 * 2)).take ((xs.length - k2) * 2)) ++ cs.drop (k * 2 + ((cs.drop (k2 * 2)).take ((xs.length - k2) * 2)).length)).length = cap * 2 := by
    rw [List.length_append, List.length_append, List.length_take, List.length_drop, h5, hnl]; omega
  have ht1 : (cs.take (k * 2) ++ ((cs.drop (k2 * 2)).take ((xs.length - k2) * 2)) ++ cs.drop (k * 2 + ((cs.drop (k2 * 2)).take ((xs.length - k2) * 2)).length)).take ((k + (xs.length - k2)) * 2) = (xs.take k ++ xs.drop k2).flatMap Rule.enc := by
    have h8 : (cs.take (k * 2) ++ ((cs.drop (k2 * 2)).take ((xs.length - k2) * 2))).length = (k + (xs.length - k2)) * 2 := by rw [List.length_append, List.length_take, h5, hnl, Nat.add_mul]; omega
    rw [List.take_left' h8, hfi, hsub, h6, ← h6, List.take_take, Nat.min_eq_left hkn]
  obtain ⟨c1, hc1⟩ : ∃ c1, c1 = cs.take (k * 2) ++ ((cs.drop (k2 * 2)).take ((xs.length - k2) * 2)) ++ cs.drop (k * 2 + ((cs.drop (k2 * 2)).take ((xs.length - k2) * 2)).length) := ⟨_, rfl⟩
  rw [← hc1] at hl1 ht1 ⊢
  refine W.cast (m' := m) (l' := hcells b c1 38 :: l) rfl rfl ?_
  refine W.q rfl rfl rfl rfl (by decide) (Yd.as rfl (.t rfl)) ?_
  refine W.end ?_
  refine NX.then ?_
  have hzn : (0 + (k + (xs.length - k2)) * 2) + (xs.length - (k + (xs.length - k2))) * 2 ≤ c1.length := by rw [hl1, Nat.zero_add, ← Nat.add_mul]; exact Nat.mul_le_mul_right _ (by omega)
  refine Tr.seq ?_
  refine Tr.region_f (fun i => Nat.beq i 5) ?_
  refine W.q rfl rfl rfl rfl (by decide) (Yd.mv rfl (.t rfl)) ?_
  refine W.q rfl rfl rfl rfl (by decide) (Yd.mv rfl (.t rfl)) ?_
  refine W.q rfl rfl rfl rfl (by decide) (Yd.len rfl Try.underlying30 (.t rfl)) ?_
  refine W.q rfl rfl rfl rfl (by decide) (Yd.mv rfl (.t rfl)) ?_
  refine W.q rfl rfl rfl rfl (by decide) (Yd.sl2C (lo := k + (xs.length - k2)) (hi := xs.length) (by omega) h3 rfl Try.underlying30 SZ38 (.t rfl) (.t rfl) (.t rfl)) ?_
  refine W.s rfl rfl rfl rfl (Ef.clrC (pos := 0) (cs := c1) IF38 rfl (by omega) hzn rfl rfl (by decide) rfl Try.underlying30 (.t rfl)) ?_
  rintro _ _ ⟨c2, h7, h8, rfl⟩
  refine ⟨.inl rfl, ?_⟩
  refine W.cast (m' := m) (l' := hcells b c2 38 :: l) rfl rfl ?_
  refine W.end ?_
  refine NX.then ?_
  refine Tr.seq ?_
  refine Tr.region_f (fun _ => false) ?_
  refine W.q rfl rfl rfl rfl (by decide) (Yd.mv rfl (.t rfl)) ?_
  refine W.q rfl rfl rfl rfl (by decide) (Yd.as rfl (.t rfl)) ?_
  refine W.end ?_
  refine NX.then ?_
  refine Tr.ret' ?_
  refine res1 rfl rfl ?_
  intro w hc
  refine ⟨_, rfl, ?_⟩
  have hrl : (xs.take k ++ xs.drop k2).length = k + (xs.length - k2) := by rw [List.length_append, List.length_take, List.length_drop]; omega
  unfold hownT; rw [hrl]
  refine cX_shutO hroom h4 (by rw [h7, hl1]) ?_ hc
  rw [Nat.zero_add] at h8; rw [h8, ht1]

def follow_Least_k50 (l_46 : List Rule) : Option ((List Rule) × Int) :=
  some ((l_46, (0 : Int)))

def follow_Least_b52 (fuel : Nat) (l_41 : List Rule) (k_44 : Int) (nx53 : ((List Rule) × Int) → Option ((List Rule) × Int)) : Option ((List Rule) × Int) :=
  (bif (decide (k_44 < (l_41.length : Int))) then
  (slices_Clone_SapiRuleapiRule l_41).bind fun r55 =>
  (slices_Delete_SapiRuleapiRule r55 k_44 ((w64 (k_44 + (1 : Int))))).bind fun r59 =>
  (geti l_41 k_44).bind fun y63 =>
  (follow_closed fuel r59 y63.cond).bind fun r65 =>
  (bif ((y63.thn &&& ~~~r65) == 0#32) then
  nx53 (r59, k_44)
  else
  nx53 (l_41, (w64 (k_44 + (1 : Int)))))
  else
  follow_Least_k50 l_41)

def follow_Least_k22 (fuel : Nat) (l20 : List Rule) : Option ((List Rule) × Int) :=
  whileK (σ := (List Rule) × Int) (fun s nx_ => follow_Least_b52 fuel s.1 s.2 nx_) fuel (l20, ((0 : Int)))

def follow_Least_k82 (nx72 : ((List Rule) → Option ((List Rule) × Int))) (l80 : List Rule) : Option ((List Rule) × Int) :=
  nx72 l80

def follow_Least_b86 (fuel : Nat) (t_70 : Int) (t_85 : Int) (l78 : List Rule) (nx87 : (List Rule) → Option ((List Rule) × Int)) : Option ((List Rule) × Int) :=
  (geti l78 t_70).bind fun y89 =>
  (geti l78 t_70).bind fun y91 =>
  (follow_closed fuel l78 ((y89.cond &&& ~~~(1#32 <<< t_85.toNat)))).bind fun r93 =>
  (bif ((y91.thn &&& ~~~r93) == 0#32) then
  (geti l78 t_70).bind fun y95 =>
  nx87 (l78.set t_70.toNat (({ cond := (y89.cond &&& ~~~(1#32 <<< t_85.toNat)), thn := y95.thn } : Rule)))
  else
  nx87 l78)

def follow_Least_b71 (n_0 : Int) (fuel : Nat) (t_70 : Int) (l18 : List Rule) (nx72 : (List Rule) → Option ((List Rule) × Int)) : Option ((List Rule) × Int) :=
  bif decide (n_0 ≤ 9223372036854775807) then
  forK (σ := (List Rule)) (fun i s nx_ => follow_Least_b86 fuel t_70 i s nx_) (fun s => follow_Least_k82 nx72 s) (n_0 - (0 : Int)).toNat (0 : Int) l18 else none

def follow_Least_k12 (n_0 : Int) (fuel : Nat) (l10 : List Rule) : Option ((List Rule) × Int) :=
  forK (σ := (List Rule)) (fun i s nx_ => follow_Least_b71 n_0 fuel i s nx_) (fun s => follow_Least_k22 fuel s) ((l10.length : Int) - (0 : Int)).toNat (0 : Int) l10

def follow_Least_k114 (nx100 : ((List Rule) → Option ((List Rule) × Int))) (l112 : List Rule) : Option ((List Rule) × Int) :=
  nx100 l112

def follow_Least_b118 (y102 : Rule) (t_117 : Int) (l110 : List Rule) (nx119 : (List Rule) → Option ((List Rule) × Int)) : Option ((List Rule) × Int) :=
  (bif ((((y102.thn &&& ~~~y102.cond) >>> t_117.toNat) &&& 1#32) == 1#32) then
  bif decide (l110.length + (([({ cond := y102.cond, thn := (1#32 <<< t_117.toNat) } : Rule)] : List Rule)).length ≤ 17592186044416) then
  nx119 (l110 ++ ([({ cond := y102.cond, thn := (1#32 <<< t_117.toNat) } : Rule)] : List Rule)) else none
  else
  nx119 l110)

def follow_Least_b99 (n_0 : Int) (rules_1 : List Rule) (t_98 : Int) (l8 : List Rule) (nx100 : (List Rule) → Option ((List Rule) × Int)) : Option ((List Rule) × Int) :=
  (geti rules_1 t_98).bind fun y102 =>
  bif decide (n_0 ≤ 9223372036854775807) then
  forK (σ := (List Rule)) (fun i s nx_ => follow_Least_b118 y102 i s nx_) (fun s => follow_Least_k114 nx100 s) (n_0 - (0 : Int)).toNat (0 : Int) l8 else none

def follow_Least (fuel : Nat) (n_0 : Int) (rules_1 : List Rule) : Option ((List Rule) × Int) :=
  (follow_Check n_0 rules_1 []).bind fun r1 =>
  (bif (r1 != (0 : Int)) then
  some (([], r1))
  else
  forK (σ := (List Rule)) (fun i s nx_ => follow_Least_b99 n_0 rules_1 i s nx_) (fun s => follow_Least_k12 n_0 fuel s) ((rules_1.length : Int) - (0 : Int)).toNat (0 : Int) (([] : List Rule)))

set_option maxRecDepth 100000 in
set_option maxHeartbeats 4000000 in
theorem follow_Least_ok (w0 : World) (m : Snap) (l : List HI) (fuel : Nat) (n_0 : Int) (urules_1 : Value) (rules_1 : List Rule) (hrules_1 : RS rRule m urules_1 rules_1) (r : (List Rule) × Int) (hr : follow_Least fuel n_0 rules_1 = some r) (w : World) (hc : cX w0 ⟨m, l⟩ w) :
    Calls Try.prog 9 [.int .i64 n_0, urules_1].toArray w fun e w' => ∃ z0 : Value, ∃ m1 : Snap, e = .returned (.tuple #[z0, .int .i64 r.2]) ∧ Sle m m1 ∧ RS rRule m1 z0 r.1 ∧ cX w0 ⟨m1, l⟩ w' := by
  unfold follow_Least at hr
  refine calls_of_Tr (N := 113) Try.func9 rfl hc rfl (Nat.le_of_ble_eq_true rfl) ?_
  refine Tr.seq ?_
  refine Tr.region_f (fun _ => false) ?_
  refine W.q rfl rfl rfl rfl (by decide) (Yd.as rfl .c) ?_
  refine W.q rfl rfl rfl rfl (by decide) (Yd.as rfl .c) ?_
  refine W.end ?_
  refine NX.sub (env' := [(0, _), (1, _)]) ⟨rfl, rfl, trivial⟩ ?_
  refine NX.then ?_
  refine Tr.seq ?_
  refine Tr.seq ?_
  obtain ⟨r1, hr2, hr⟩ := bind_some hr
  refine Tr.region_f (fun _ => false) ?_
  refine W.q rfl rfl rfl rfl (by decide) (Yd.mv rfl (.t rfl)) ?_
  refine W.q rfl rfl rfl rfl (by decide) (Yd.mv rfl (.t rfl)) ?_
  refine W.q rfl rfl rfl rfl (by decide) (Yd.call (v := .int .i64 r1) rfl Try.func18 rfl rfl (.cons (.t rfl) (.cons (.t rfl) (.cons .c .nil))) (fun x' hx w hw => follow_Check_ok w0 x'.m x'.l n_0 _ _ (hrules_1.mono hx.1) _ _ (RS.nil _ _) _ hr2 w hw)) ?_
  refine W.q rfl rfl rfl rfl (by decide) (Yd.as rfl (.t rfl)) ?_
  refine W.end ?_
  refine NX.sub (env' := [(0, _), (1, _), (6, _)]) ⟨rfl, rfl, rfl, trivial⟩ ?_
  refine NX.then ?_
  refine Tr.seq ?_
  refine Tr.region_f (fun _ => false) ?_
  refine W.q rfl rfl rfl rfl (by decide) (Yd.mv rfl (.t rfl)) ?_
  refine W.q rfl rfl rfl rfl (by decide) (Yd.neq rfl (.t rfl) .c) ?_
  refine W.end ?_
  refine NX.sub (env' := [(0, _), (1, _), (6, _), (20, _)]) ⟨rfl, rfl, rfl, rfl, trivial⟩ ?_
  refine NX.then ?_
  refine Tr.cond (.t rfl) (fun hb => ?_) (fun hb => ?_)
  · have hr := cond_t hb hr
    refine Tr.seq ?_
    refine Tr.region_f (fun _ => false) ?_
    refine W.q rfl rfl rfl rfl (by decide) (Yd.mv rfl (.t rfl)) ?_
    refine W.q rfl rfl rfl rfl (by decide) (Yd.as rfl .c) ?_
    refine W.q rfl rfl rfl rfl (by decide) (Yd.as rfl (.t rfl)) ?_
    refine W.end ?_
    refine NX.sub (env' := [(4, _), (5, _)]) ⟨rfl, rfl, trivial⟩ ?_
    refine NX.then ?_
    refine Tr.ret' (RT.then ?_)
    refine res2 rfl rfl rfl ?_
    intro w hc
    cases hr
    exact ⟨_, _, rfl, (.refl _), (RS.nil _ _), hc⟩
  · have hr := cond_f hb hr
    refine Tr.skip' ?_
    refine NX.then ?_
    refine Tr.seq ?_
    refine Tr.region_f (fun _ => false) ?_
    refine W.q rfl rfl rfl rfl (by decide) (Yd.as rfl .c) ?_
    refine W.end ?_
    refine NX.sub (env' := [(0, _), (1, _), (7, _)]) ⟨rfl, rfl, rfl, trivial⟩ ?_
    refine NX.then ?_
    refine Tr.seq ?_
    refine Tr.seq ?_
    refine Tr.region_f (fun _ => false) ?_
    refine W.q rfl rfl rfl rfl (by decide) (Yd.mv rfl (.t rfl)) ?_
    refine W.q rfl rfl rfl rfl (by decide) (Yd.lenR hrules_1 rfl Try.underlying30 (.t rfl)) ?_
    refine W.q rfl rfl rfl rfl (by decide) (Yd.mv rfl .c) ?_
    refine W.end ?_
    refine NX.sub (env' := [(0, _), (7, _), (22, _), (23, _), (24, _)]) ⟨rfl, rfl, rfl, rfl, rfl, trivial⟩ ?_
    refine NX.then ?_
    refine Tr.addnil 38 2 ?_
    refine Tr.join (S := fun env x => ∃ l10 : List Rule, ∃ v11 : Value, env = [(0, .int .i64 n_0), (7, v11)] ∧ x = ⟨m, hownT 38 2 Rule.enc v11 l10 :: l⟩ ∧ follow_Least_k12 n_0 fuel l10 = some r) ?_ (fun hk13 => ?_)
    · rintro _ _ ⟨l10, v11, rfl, rfl, hr⟩
      unfold follow_Least_k12 at hr
      try dsimp only at hr
      refine NX.then ?_
      refine Tr.seq ?_
      refine Tr.seq ?_
      refine Tr.region_f (fun _ => false) ?_
      refine W.q rfl rfl rfl rfl (by decide) (Yd.mv rfl (.t rfl)) ?_
      refine W.q rfl rfl rfl rfl (by decide) (Yd.lenO (p := 0) rfl rfl Try.underlying30 (.t rfl)) ?_
      refine W.q rfl rfl rfl rfl (by decide) (Yd.mv rfl .c) ?_
      refine W.end ?_
      refine NX.sub (env' := [(0, _), (7, _), (52, _), (53, _)]) ⟨rfl, rfl, rfl, rfl, trivial⟩ ?_
      refine NX.then ?_
      refine Tr.join (S := fun env x => ∃ l20 : List Rule, ∃ v21 : Value, env = [(7, v21)] ∧ x = ⟨m, hownT 38 2 Rule.enc v21 l20 :: l⟩ ∧ follow_Least_k22 fuel l20 = some r) ?_ (fun hk23 => ?_)
      · rintro _ _ ⟨l20, v21, rfl, rfl, hr⟩
        unfold follow_Least_k22 at hr
        try dsimp only at hr
        refine NX.then ?_
        refine Tr.seq ?_
        refine Tr.seq ?_
        refine Tr.region_f (fun _ => false) ?_
        refine W.q rfl rfl rfl rfl (by decide) (Yd.as rfl .c) ?_
        refine W.end ?_
        refine NX.sub (env' := [(7, _), (14, _)]) ⟨rfl, rfl, trivial⟩ ?_
        refine NX.then ?_
        refine Tr.freezeT (enc := Rule.enc) (n := 2) (pos := 0) (xs := l20) (fun _ => rfl) rfl (fun m34 hsm34 hu35 => ?_)
        have hrules_1 := hrules_1.mono hsm34
        refine Tr.cast (m' := m34) (l' := l) rfl rfl ?_
        refine Tr.join (S := fun env x => ∃ l_46 : List Rule, ∃ m49 : Snap, ∃ u47 : Value, Sle m34 m49 ∧ RS rRule m49 u47 l_46 ∧ env = [(7, u47)] ∧ x = ⟨m49, l⟩ ∧ follow_Least_k50 l_46 = some r) ?_ (fun hk51 => ?_)
        · rintro _ _ ⟨l_46, m49, u47, hsm49, hu48, rfl, rfl, hr⟩
          unfold follow_Least_k50 at hr
          try dsimp only at hr
          have hrules_1 := hrules_1.mono hsm49
          have hu35 := hu35.mono hsm49
          refine NX.then ?_
          refine Tr.seq ?_
          refine Tr.region_f (fun _ => false) ?_
          refine W.q rfl rfl rfl rfl (by decide) (Yd.mv rfl (.t rfl)) ?_
          refine W.q rfl rfl rfl rfl (by decide) (Yd.as rfl (.t rfl)) ?_
          refine W.q rfl rfl rfl rfl (by decide) (Yd.as rfl .c) ?_
          refine W.end ?_
          refine NX.sub (env' := [(4, _), (5, _)]) ⟨rfl, rfl, trivial⟩ ?_
          refine NX.then ?_
          refine Tr.ret' ?_
          refine res2 rfl rfl rfl ?_
          intro w hc
          cases hr
          exact ⟨_, _, rfl, (hsm34.trans hsm49), hu48, hc⟩
        refine Tr.block ?_
        refine Tr.sub (env' := [(7, _), (14, _)]) ⟨rfl, rfl, trivial⟩ ?_
        refine Tr.loop (S := fun n (z : (List Rule) × Int) env x => match z with | (l_41, k_44) => ∃ m45 : Snap, ∃ u42 : Value, Sle m34 m45 ∧ RS rRule m45 u42 l_41 ∧ env = [(7, u42), (14, .int .i64 k_44)] ∧ x = ⟨m45, l⟩ ∧ whileK (σ := (List Rule) × Int) (fun s nx_ => follow_Least_b52 fuel s.1 s.2 nx_) n (l_41, k_44) = some r) _ (l20, (0 : Int)) ⟨_, _, (.refl _), hu35, rfl, rfl, hr⟩ ?_
        rintro n54 ⟨l_41, k_44⟩ env x ⟨m45, u42, hsm45, hu43, rfl, rfl, hr⟩
        have hrules_1 := hrules_1.mono hsm45
        have hu35 := hu35.mono hsm45
        cases n54 with
        | zero => simp [whileK] at hr
        | succ n54 =>
          obtain ⟨nx53, hnx53, hr⟩ := whileK_succ hr
          try dsimp only at hr
          unfold follow_Least_b52 at hr
          try dsimp only at hr
          refine Tr.seq ?_
          refine Tr.seq ?_
          refine Tr.region_f (fun _ => false) ?_
          refine W.q rfl rfl rfl rfl (by decide) (Yd.mv rfl (.t rfl)) ?_
          refine W.q rfl rfl rfl rfl (by decide) (Yd.mv rfl (.t rfl)) ?_
          refine W.q rfl rfl rfl rfl (by decide) (Yd.lenR hu43 rfl Try.underlying30 (.t rfl)) ?_
          refine W.q rfl rfl rfl rfl (by decide) (Yd.lss rfl (.t rfl) (.t rfl)) ?_
          refine W.end ?_
          refine NX.sub (env' := [(7, _), (14, _), (88, _)]) ⟨rfl, rfl, rfl, trivial⟩ ?_
          refine NX.then ?_
          refine Tr.cond (.t rfl) (fun hb => ?_) (fun hb => ?_)
          · have hr := cond_t hb hr
            refine Tr.skip' ?_
            refine NX.then ?_
            refine Tr.block ?_
            refine Tr.seq ?_
            obtain ⟨r55, hr56, hr⟩ := bind_some hr
            obtain ⟨r59, hr60, hr⟩ := bind_some hr
            refine Tr.region_f (fun i => Nat.beq i 1 || Nat.beq i 5) ?_
            refine W.q rfl rfl rfl rfl (by decide) (Yd.mv rfl (.t rfl)) ?_
            refine W.e rfl rfl rfl rfl (by decide) (Ef.call (R := fun z x' => ∃ v57 : Value, z = v57 ∧ x' = ⟨m45, hownT 38 2 Rule.enc v57 r55 :: l⟩) rfl Try.func21 rfl rfl (.cons (.t rfl) .nil) (fun w hw => (slices_Clone_SapiRuleapiRule_ok w0 _ _ _ _ hu43 _ hr56 w hw).mono fun e w' ⟨v57, he, hc'⟩ => ⟨_, _, he, ⟨v57, rfl, rfl⟩, hc'⟩)) ?_
            rintro v57 _ ⟨_, rfl, rfl⟩
            refine ⟨.inl rfl, ?_⟩
            refine W.cast (m' := m45) (l' := hownT 38 2 Rule.enc v57 _ :: l) rfl rfl ?_
            refine W.q rfl rfl rfl rfl (by decide) (Yd.mv rfl (.t rfl)) ?_
            refine W.q rfl rfl rfl rfl (by decide) (Yd.mv rfl (.t rfl)) ?_
            refine W.q rfl rfl rfl rfl (by decide) (Yd.add rfl (.t rfl) .c) ?_
            refine W.e rfl rfl rfl rfl (by decide) (Ef.call (R := fun z x' => ∃ v61 : Value, z = v61 ∧ x' = ⟨m45, hownT 38 2 Rule.enc v61 r59 :: l⟩) rfl Try.func20 rfl rfl (.cons (.t rfl) (.cons (.t rfl) (.cons (.t rfl) .nil))) (by intro w hw; exact (slices_Delete_SapiRuleapiRule_ok w0 _ _ _ _ k_44 ((w64 (k_44 + (1 : Int)))) _ hr60 w hw).mono fun e w' ⟨v61, he, hc'⟩ => ⟨_, _, he, ⟨v61, rfl, rfl⟩, hc'⟩)) ?_
            rintro v61 _ ⟨_, rfl, rfl⟩
            refine ⟨.inl rfl, ?_⟩
            refine W.cast (m' := m45) (l' := hownT 38 2 Rule.enc v61 _ :: l) rfl rfl ?_
            refine W.q rfl rfl rfl rfl (by decide) (Yd.as rfl (.t rfl)) ?_
            refine W.end ?_
            refine NX.sub (env' := [(7, _), (14, _), (15, _)]) ⟨rfl, rfl, rfl, trivial⟩ ?_
            refine NX.then ?_
            refine Tr.seq ?_
            obtain ⟨y63, hy64, hr⟩ := bind_some hr
            obtain ⟨r65, hr66, hr⟩ := bind_some hr
            refine Tr.region_x (fun _ => false) (fun _ => false) (Ord.of [0, 1, 2, 3, 4, 5, 6, 7, 8, 9, 10, 11, 12, 13]) FM (by kernel_rfl) ?_
            refine W.q rfl rfl rfl rfl (by decide) (Yd.mv rfl (.t rfl)) ?_
            refine W.q rfl rfl rfl rfl (by decide) (Yd.mv rfl (.t rfl)) ?_
            refine W.q rfl rfl rfl rfl (by decide) (Yd.idxR hu43 hy64 rfl Try.underlying30 SZ38 (.t rfl) (.t rfl)) ?_
            refine W.q rfl rfl rfl rfl (by decide) (Yd.fldA rfl Try.underlying38 rfl SZ34 rfl (adr_head hu43 hy64) (.t rfl)) ?_
            refine W.q rfl rfl rfl rfl (by decide) (Yd.ldFf hu43 (.refl _) hy64 rfl rfl ON34 (.t rfl)) ?_
            refine W.q rfl rfl rfl rfl (by decide) (Yd.mv rfl (.t rfl)) ?_
            refine W.q rfl rfl rfl rfl (by decide) (Yd.mv rfl (.t rfl)) ?_
            refine W.q rfl rfl rfl rfl (by decide) (Yd.mv rfl (.t rfl)) ?_
            refine W.q rfl rfl rfl rfl (by decide) (Yd.idxR hu43 hy64 rfl Try.underlying30 SZ38 (.t rfl) (.t rfl)) ?_
            refine W.q rfl rfl rfl rfl (by decide) (Yd.fldA rfl Try.underlying38 rfl SZ34 rfl (adr_head hu43 hy64) (.t rfl)) ?_
            refine W.q rfl rfl rfl rfl (by decide) (Yd.ldFf hu43 (.refl _) hy64 rfl rfl ON34 (.t rfl)) ?_
            refine W.q rfl rfl rfl rfl (by decide) (Yd.call (v := .int .u32 (r65.toNat : Int)) rfl Try.func19 rfl rfl (.cons (.t rfl) (.cons (.t rfl) .nil)) (by intro x' hx w hw; obtain ⟨p0, hp0⟩ := hx.at (p := 0) rfl; obtain ⟨m2, hm2, hc2, ⟨L2, hl1, hl2⟩, hback⟩ := cX_lend hw hp0 lone_own; have hL1 : RS rRule m2 _ _ := RS_of_own hl1 hl2; exact (follow_closed_ok w0 m2 _ fuel _ _ hL1 y63.cond _ hr66 w hc2).mono fun e w' ⟨he, hc'⟩ => ⟨he, (hback m2 _ _ w' (.refl _) hp0).2 hc'⟩)) ?_
            refine W.q rfl rfl rfl rfl (by decide) (Yd.andnU (a := y63.thn) (b := r65) rfl (.t rfl) (.t rfl)) ?_
            refine W.q rfl rfl rfl rfl (by decide) (Yd.eqlU (a := (y63.thn &&& ~~~r65)) (b := 0#32) rfl (.t rfl) .c) ?_
            refine W.end ?_
            refine NX.sub (env' := [(7, _), (14, _), (15, _), (108, _)]) ⟨rfl, rfl, rfl, rfl, trivial⟩ ?_
            refine NX.then ?_
            refine Tr.cond (.t rfl) (fun hb => ?_) (fun hb => ?_)
            · have hr := cond_t hb hr
              refine Tr.region_f (fun _ => false) ?_
              refine W.q rfl rfl rfl rfl (by decide) (Yd.mv rfl (.t rfl)) ?_
              refine W.q rfl rfl rfl rfl (by decide) (Yd.as rfl (.t rfl)) ?_
              refine W.end ?_
              refine NX.sub (env' := [(7, _), (14, _)]) ⟨rfl, rfl, trivial⟩ ?_
              refine NX.block ?_
              refine NX.freezeT (enc := Rule.enc) (n := 2) (pos := 0) (xs := r59) (fun _ => rfl) rfl (fun m67 hsm67 hu68 => ?_)
              have hrules_1 := hrules_1.mono hsm67
              have hu35 := hu35.mono hsm67
              have hu43 := hu43.mono hsm67
              refine NX.cast (m' := m67) (l' := l) rfl rfl ?_
              refine NX.sub (env' := [(7, _), (14, _)]) ⟨rfl, rfl, trivial⟩ ?_
              exact NX.again n54 (r59, k_44) (Nat.lt_succ_self _) ⟨_, _, (hsm45.trans hsm67), hu68, rfl, rfl, ((hnx53 _).symm.trans hr)⟩
            · have hr := cond_f hb hr
              refine Tr.region_f (fun _ => false) ?_
              refine W.q rfl rfl rfl rfl (by decide) (Yd.mv rfl (.t rfl)) ?_
              refine W.q rfl rfl rfl rfl (by decide) (Yd.add rfl (.t rfl) .c) ?_
              refine W.q rfl rfl rfl rfl (by decide) (Yd.as rfl (.t rfl)) ?_
              refine W.end ?_
              refine NX.sub (env' := [(7, _), (14, _)]) ⟨rfl, rfl, trivial⟩ ?_
              refine NX.drop (l' := l) (.cons _ (.refl _)) ?_
              refine NX.block ?_
              refine NX.sub (env' := [(7, _), (14, _)]) ⟨rfl, rfl, trivial⟩ ?_
              exact NX.again n54 (l_41, (w64 (k_44 + (1 : Int)))) (Nat.lt_succ_self _) ⟨_, _, hsm45, hu43, rfl, rfl, ((hnx53 _).symm.trans hr)⟩
          · have hr := cond_f hb hr
            refine Tr.exit' (EX.then (EX.then (EX.block ?_)))
            refine NX.sub (env' := [(7, _)]) ⟨rfl, trivial⟩ ?_
            exact hk51 _ _ ⟨_, _, _, hsm45, hu43, rfl, rfl, hr⟩
      refine Tr.lenO (pos := 0) rfl (fun hlen69 => ?_)
      refine Tr.block ?_
      refine Tr.sub (env' := [(0, _), (7, _), (52, _), (53, _)]) ⟨rfl, rfl, rfl, rfl, trivial⟩ ?_
      refine Tr.loop (S := fun n (z : Int × (List Rule)) env x => match z with | (t_70, l18) => ∃ v19 : Value, env = [(0, .int .i64 n_0), (7, v19), (52, .int .i64 ((l10.length : Int))), (53, .int .i64 t_70)] ∧ x = ⟨m, hownT 38 2 Rule.enc v19 l18 :: l⟩ ∧ n = ((l10.length : Int) - t_70).toNat ∧ 0 ≤ t_70 ∧ forK (σ := (List Rule)) (fun i s nx_ => follow_Least_b71 n_0 fuel i s nx_) (fun s => follow_Least_k22 fuel s) n t_70 l18 = some r) _ ((0 : Int), l10) ⟨_, rfl, rfl, rfl, (by omega), hr⟩ ?_
      rintro n73 ⟨t_70, l18⟩ env x ⟨v19, rfl, rfl, hnt_70, h0t_70, hr⟩
      cases n73 with
      | zero =>
        simp only [forK] at hr
        refine Tr.seq ?_
        refine Tr.region_f (fun _ => false) ?_
        refine W.q rfl rfl rfl rfl (by decide) (Yd.lss rfl (.t rfl) (.t rfl)) ?_
        refine W.end ?_
        refine NX.sub (env' := [(0, _), (7, _), (52, _), (53, _), (54, _)]) ⟨rfl, rfl, rfl, rfl, rfl, trivial⟩ ?_
        refine NX.then ?_
        refine Tr.seq ?_
        refine Tr.cond (.t rfl) (fun hb => ?_) (fun hb => ?_)
        · exact absurd (hb.symm.trans (fr_end hnt_70)) (by decide)
        ·
          refine Tr.exit' (EX.then (EX.then (EX.block ?_)))
          refine NX.sub (env' := [(7, _)]) ⟨rfl, trivial⟩ ?_
          exact hk23 _ _ ⟨_, _, rfl, rfl, hr⟩
      | succ n73 =>
        obtain ⟨nx72, hnx72, hr⟩ := forK_succ hr
        try dsimp only at hr
        unfold follow_Least_b71 at hr
        try dsimp only at hr
        have hltt_70 := fr_bnd hnt_70
        refine Tr.seq ?_
        refine Tr.region_f (fun _ => false) ?_
        refine W.q rfl rfl rfl rfl (by decide) (Yd.lss rfl (.t rfl) (.t rfl)) ?_
        refine W.end ?_
        refine NX.sub (env' := [(0, _), (7, _), (52, _), (53, _), (54, _)]) ⟨rfl, rfl, rfl, rfl, rfl, trivial⟩ ?_
        refine NX.then ?_
        refine Tr.seq ?_
        refine Tr.cond (.t rfl) (fun hb => ?_) (fun hb => ?_)
        rotate_left
        · exact absurd (hb.symm.trans (fr_go hnt_70)) (by decide)
        ·
          refine Tr.skip' ?_
          refine NX.then ?_
          refine Tr.seq ?_
          refine Tr.block ?_
          refine Tr.seq ?_
          refine Tr.region_f (fun _ => false) ?_
          refine W.q rfl rfl rfl rfl (by decide) (Yd.mv rfl (.t rfl)) ?_
          refine W.q rfl rfl rfl rfl (by decide) (Yd.as rfl (.t rfl)) ?_
          refine W.end ?_
          refine NX.sub (env' := [(0, _), (7, _), (52, _), (53, _), (11, _)]) ⟨rfl, rfl, rfl, rfl, rfl, trivial⟩ ?_
          refine NX.then ?_
          refine Tr.seq ?_
          refine Tr.region_f (fun _ => false) ?_
          refine W.q rfl rfl rfl rfl (by decide) (Yd.mv rfl (.t rfl)) ?_
          refine W.q rfl rfl rfl rfl (by decide) (Yd.mv rfl .c) ?_
          refine W.end ?_
          refine NX.sub (env' := [(0, _), (7, _), (52, _), (53, _), (11, _), (56, _), (57, _)]) ⟨rfl, rfl, rfl, rfl, rfl, rfl, rfl, trivial⟩ ?_
          refine NX.then ?_
          refine Tr.join (S := fun env x => ∃ l80 : List Rule, ∃ v81 : Value, env = [(0, .int .i64 n_0), (7, v81), (52, .int .i64 ((l10.length : Int))), (53, .int .i64 t_70)] ∧ x = ⟨m, hownT 38 2 Rule.enc v81 l80 :: l⟩ ∧ follow_Least_k82 nx72 l80 = some r) ?_ (fun hk83 => ?_)
          · rintro _ _ ⟨l80, v81, rfl, rfl, hr⟩
            unfold follow_Least_k82 at hr
            try dsimp only at hr
            refine NX.block ?_
            refine NX.then ?_
            refine Tr.region_f (fun _ => false) ?_
            refine W.q rfl rfl rfl rfl (by decide) (Yd.add rfl (.t rfl) .c) ?_
            refine W.q rfl rfl rfl rfl (by decide) (Yd.mv rfl (.t rfl)) ?_
            refine W.end ?_
            refine NX.sub (env' := [(0, _), (7, _), (52, _), (53, _)]) ⟨rfl, rfl, rfl, rfl, trivial⟩ ?_
            refine NX.sub (env' := [(0, _), (7, _), (52, _), (53, _)]) ⟨rfl, rfl, rfl, rfl, trivial⟩ ?_
            have hw := w64_id (n := t_70 + 1) (by omega) (by omega)
            exact NX.again n73 (t_70 + 1, l80) (Nat.lt_succ_self _) ⟨_, (by rw [hw] <;> rfl), rfl, (fr_dec hnt_70), (by omega), ((hnx72 _).symm.trans hr)⟩
          obtain ⟨hle84, hr⟩ := guard_some hr; replace hle84 := of_decide_eq_true hle84
          refine Tr.block ?_
          refine Tr.sub (env' := [(0, _), (7, _), (11, _), (52, _), (53, _), (56, _), (57, _)]) ⟨rfl, rfl, rfl, rfl, rfl, rfl, rfl, trivial⟩ ?_
          refine Tr.loop (S := fun n (z : Int × (List Rule)) env x => match z with | (t_85, l78) => ∃ v79 : Value, env = [(0, .int .i64 n_0), (7, v79), (11, .int .i64 t_70), (52, .int .i64 ((l10.length : Int))), (53, .int .i64 t_70), (56, .int .i64 n_0), (57, .int .i64 t_85)] ∧ x = ⟨m, hownT 38 2 Rule.enc v79 l78 :: l⟩ ∧ n = (n_0 - t_85).toNat ∧ 0 ≤ t_85 ∧ forK (σ := (List Rule)) (fun i s nx_ => follow_Least_b86 fuel t_70 i s nx_) (fun s => follow_Least_k82 nx72 s) n t_85 l78 = some r) _ ((0 : Int), l18) ⟨_, rfl, rfl, rfl, (by omega), hr⟩ ?_
          rintro n88 ⟨t_85, l78⟩ env x ⟨v79, rfl, rfl, hnt_85, h0t_85, hr⟩
          cases n88 with
          | zero =>
            simp only [forK] at hr
            refine Tr.seq ?_
            refine Tr.region_f (fun _ => false) ?_
            refine W.q rfl rfl rfl rfl (by decide) (Yd.lss rfl (.t rfl) (.t rfl)) ?_
            refine W.end ?_
            refine NX.sub (env' := [(0, _), (7, _), (11, _), (52, _), (53, _), (56, _), (57, _), (58, _)]) ⟨rfl, rfl, rfl, rfl, rfl, rfl, rfl, rfl, trivial⟩ ?_
            refine NX.then ?_
            refine Tr.seq ?_
            refine Tr.cond (.t rfl) (fun hb => ?_) (fun hb => ?_)
            · exact absurd (hb.symm.trans (fr_end hnt_85)) (by decide)
            ·
              refine Tr.exit' (EX.then (EX.then (EX.block ?_)))
              refine NX.sub (env' := [(0, _), (7, _), (52, _), (53, _)]) ⟨rfl, rfl, rfl, rfl, trivial⟩ ?_
              exact hk83 _ _ ⟨_, _, rfl, rfl, hr⟩
          | succ n88 =>
            obtain ⟨nx87, hnx87, hr⟩ := forK_succ hr
            try dsimp only at hr
            unfold follow_Least_b86 at hr
            try dsimp only at hr
            have hltt_85 := fr_bnd hnt_85
            refine Tr.seq ?_
            refine Tr.region_f (fun _ => false) ?_
            refine W.q rfl rfl rfl rfl (by decide) (Yd.lss rfl (.t rfl) (.t rfl)) ?_
            refine W.end ?_
            refine NX.sub (env' := [(0, _), (7, _), (11, _), (52, _), (53, _), (56, _), (57, _), (58, _)]) ⟨rfl, rfl, rfl, rfl, rfl, rfl, rfl, rfl, trivial⟩ ?_
            refine NX.then ?_
            refine Tr.seq ?_
            refine Tr.cond (.t rfl) (fun hb => ?_) (fun hb => ?_)
            rotate_left
            · exact absurd (hb.symm.trans (fr_go hnt_85)) (by decide)
            ·
              refine Tr.skip' ?_
              refine NX.then ?_
              refine Tr.seq ?_
              refine Tr.block ?_
              refine Tr.seq ?_
              refine Tr.region_f (fun _ => false) ?_
              refine W.q rfl rfl rfl rfl (by decide) (Yd.mv rfl (.t rfl)) ?_
              refine W.q rfl rfl rfl rfl (by decide) (Yd.as rfl (.t rfl)) ?_
              refine W.end ?_
              refine NX.sub (env' := [(0, _), (7, _), (11, _), (52, _), (53, _), (56, _), (57, _), (12, _)]) ⟨rfl, rfl, rfl, rfl, rfl, rfl, rfl, rfl, trivial⟩ ?_
              refine NX.then ?_
              refine Tr.seq ?_
              obtain ⟨y89, hy90, hr⟩ := bind_some hr
              refine Tr.region_x (fun _ => false) (fun _ => false) (Ord.of [0, 1, 2, 3, 4, 5, 6, 7, 8]) FM (by kernel_rfl) ?_
              refine W.q rfl rfl rfl rfl (by decide) (Yd.mv rfl (.t rfl)) ?_
              refine W.q rfl rfl rfl rfl (by decide) (Yd.mv rfl (.t rfl)) ?_
              refine W.q rfl rfl rfl rfl (by decide) (Yd.idxT (pos := 0) rfl hy90 rfl Try.underlying30 SZ38 (.t rfl) (.t rfl)) ?_
              refine W.q rfl rfl rfl rfl (by decide) (Yd.fldT (pos := 0) rfl hy90 rfl Try.underlying38 rfl SZ34 rfl (.t rfl)) ?_
              refine W.q rfl rfl rfl rfl (by decide) (Yd.ldTf (enc := Rule.enc) (n := 2) (pos := 0) (fun _ => rfl) rfl hy90 rfl rfl ON34 (.t rfl)) ?_
              refine W.q rfl rfl rfl rfl (by decide) (Yd.mv rfl (.t rfl)) ?_
              refine W.q rfl rfl rfl rfl (by decide) (Yd.shlU (a := 1#32) rfl .c (.t rfl) h0t_85) ?_
              refine W.q rfl rfl rfl rfl (by decide) (Yd.andnU (a := y89.cond) (b := (1#32 <<< t_85.toNat)) rfl (.t rfl) (.t rfl)) ?_
              refine W.q rfl rfl rfl rfl (by decide) (Yd.as rfl (.t rfl)) ?_
              refine W.end ?_
              refine NX.sub (env' := [(0, _), (7, _), (11, _), (52, _), (53, _), (56, _), (57, _), (13, _)]) ⟨rfl, rfl, rfl, rfl, rfl, rfl, rfl, rfl, trivial⟩ ?_
              refine NX.then ?_
              refine Tr.seq ?_
              obtain ⟨y91, hy92, hr⟩ := bind_some hr
              obtain ⟨r93, hr94, hr⟩ := bind_some hr
              refine Tr.region_x (fun _ => false) (fun _ => false) (Ord.of [0, 1, 2, 3, 4, 5, 6, 7, 8, 9]) FM (by kernel_rfl) ?_
              refine W.q rfl rfl rfl rfl (by decide) (Yd.mv rfl (.t rfl)) ?_
              refine W.q rfl rfl rfl rfl (by decide) (Yd.mv rfl (.t rfl)) ?_
              refine W.q rfl rfl rfl rfl (by decide) (Yd.idxT (pos := 0) rfl hy92 rfl Try.underlying30 SZ38 (.t rfl) (.t rfl)) ?_
              refine W.q rfl rfl rfl rfl (by decide) (Yd.fldT (pos := 0) rfl hy92 rfl Try.underlying38 rfl SZ34 rfl (.t rfl)) ?_
              refine W.q rfl rfl rfl rfl (by decide) (Yd.ldTf (enc := Rule.enc) (n := 2) (pos := 0) (fun _ => rfl) rfl hy92 rfl rfl ON34 (.t rfl)) ?_
              refine W.q rfl rfl rfl rfl (by decide) (Yd.mv rfl (.t rfl)) ?_
              refine W.q rfl rfl rfl rfl (by decide) (Yd.mv rfl (.t rfl)) ?_
              refine W.q rfl rfl rfl rfl (by decide) (Yd.call (v := .int .u32 (r93.toNat : Int)) rfl Try.func19 rfl rfl (.cons (.t rfl) (.cons (.t rfl) .nil)) (by intro x' hx w hw; obtain ⟨p0, hp0⟩ := hx.at (p := 0) rfl; obtain ⟨m2, hm2, hc2, ⟨L2, hl1, hl2⟩, hback⟩ := cX_lend hw hp0 lone_own; have hL1 : RS rRule m2 _ _ := RS_of_own hl1 hl2; exact (follow_closed_ok w0 m2 _ fuel _ _ hL1 ((y89.cond &&& ~~~(1#32 <<< t_85.toNat))) _ hr94 w hc2).mono fun e w' ⟨he, hc'⟩ => ⟨he, (hback m2 _ _ w' (.refl _) hp0).2 hc'⟩)) ?_
              refine W.q rfl rfl rfl rfl (by decide) (Yd.andnU (a := y91.thn) (b := r93) rfl (.t rfl) (.t rfl)) ?_
              refine W.q rfl rfl rfl rfl (by decide) (Yd.eqlU (a := (y91.thn &&& ~~~r93)) (b := 0#32) rfl (.t rfl) .c) ?_
              refine W.end ?_
              refine NX.sub (env' := [(0, _), (7, _), (11, _), (52, _), (53, _), (56, _), (57, _), (13, _), (77, _)]) ⟨rfl, rfl, rfl, rfl, rfl, rfl, rfl, rfl, rfl, trivial⟩ ?_
              refine NX.then ?_
              refine Tr.cond (.t rfl) (fun hb => ?_) (fun hb => ?_)
              · have hr := cond_t hb hr
                obtain ⟨y95, hy96, hr⟩ := bind_some hr
                refine Tr.region_f (fun i => Nat.beq i 5) ?_
                refine W.q rfl rfl rfl rfl (by decide) (Yd.mv rfl (.t rfl)) ?_
                refine W.q rfl rfl rfl rfl (by decide) (Yd.mv rfl (.t rfl)) ?_
                refine W.q rfl rfl rfl rfl (by decide) (Yd.mv rfl (.t rfl)) ?_
                refine W.q rfl rfl rfl rfl (by decide) (Yd.idxT (pos := 0) rfl hy96 rfl Try.underlying30 SZ38 (.t rfl) (.t rfl)) ?_
                refine W.q rfl rfl rfl rfl (by decide) (Yd.fldT (pos := 0) rfl hy96 rfl Try.underlying38 rfl SZ34 rfl (.t rfl)) ?_
                refine W.s rfl rfl rfl rfl (Ef.stTf (enc := Rule.enc) (n := 2) (pos := 0) (y := ({ cond := (y89.cond &&& ~~~(1#32 <<< t_85.toNat)), thn := y95.thn } : Rule)) (us := [_]) (fun _ => rfl) rfl hy96 rfl (.t rfl) (.t rfl) SZ34 rfl rfl rfl rfl (by decide) (Nat.le_of_ble_eq_true rfl)) ?_
                rintro _ _ ⟨rfl, rfl⟩
                refine ⟨.inl rfl, ?_⟩
                refine W.cast (m' := m) (l' := hownT 38 2 Rule.enc v79 _ :: l) rfl rfl ?_
                refine W.end ?_
                refine NX.sub (env' := [(0, _), (7, _), (11, _), (52, _), (53, _), (56, _), (57, _)]) ⟨rfl, rfl, rfl, rfl, rfl, rfl, rfl, trivial⟩ ?_
                refine NX.block ?_
                refine NX.then ?_
                refine Tr.region_f (fun _ => false) ?_
                refine W.q rfl rfl rfl rfl (by decide) (Yd.add rfl (.t rfl) .c) ?_
                refine W.q rfl rfl rfl rfl (by decide) (Yd.mv rfl (.t rfl)) ?_
                refine W.end ?_
                refine NX.sub (env' := [(0, _), (7, _), (11, _), (52, _), (53, _), (56, _), (57, _)]) ⟨rfl, rfl, rfl, rfl, rfl, rfl, rfl, trivial⟩ ?_
                refine NX.sub (env' := [(0, _), (7, _), (11, _), (52, _), (53, _), (56, _), (57, _)]) ⟨rfl, rfl, rfl, rfl, rfl, rfl, rfl, trivial⟩ ?_
                have hw := w64_id (n := t_85 + 1) (by omega) (by omega)
                exact NX.again n88 (t_85 + 1, (l78.set t_70.toNat (({ cond := (y89.cond &&& ~~~(1#32 <<< t_85.toNat)), thn := y95.thn } : Rule)))) (Nat.lt_succ_self _) ⟨_, (by rw [hw] <;> rfl), rfl, (fr_dec hnt_85), (by omega), ((hnx87 _).symm.trans hr)⟩
              · have hr := cond_f hb hr
                refine Tr.skip' ?_
                refine NX.block ?_
                refine NX.then ?_
                refine Tr.region_f (fun _ => false) ?_
                refine W.q rfl rfl rfl rfl (by decide) (Yd.add rfl (.t rfl) .c) ?_
                refine W.q rfl rfl rfl rfl (by decide) (Yd.mv rfl (.t rfl)) ?_
                refine W.end ?_
                refine NX.sub (env' := [(0, _), (7, _), (11, _), (52, _), (53, _), (56, _), (57, _)]) ⟨rfl, rfl, rfl, rfl, rfl, rfl, rfl, trivial⟩ ?_
                refine NX.sub (env' := [(0, _), (7, _), (11, _), (52, _), (53, _), (56, _), (57, _)]) ⟨rfl, rfl, rfl, rfl, rfl, rfl, rfl, trivial⟩ ?_
                have hw := w64_id (n := t_85 + 1) (by omega) (by omega)
                exact NX.again n88 (t_85 + 1, l78) (Nat.lt_succ_self _) ⟨_, (by rw [hw] <;> rfl), rfl, (fr_dec hnt_85), (by omega), ((hnx87 _).symm.trans hr)⟩
    have hlen97 := (hrules_1).2.1
    refine Tr.block ?_
    refine Tr.sub (env' := [(0, _), (7, _), (22, _), (23, _), (24, _)]) ⟨rfl, rfl, rfl, rfl, rfl, trivial⟩ ?_
    refine Tr.loop (S := fun n (z : Int × (List Rule)) env x => match z with | (t_98, l8) => ∃ v9 : Value, env = [(0, .int .i64 n_0), (7, v9), (22, urules_1), (23, .int .i64 ((rules_1.length : Int))), (24, .int .i64 t_98)] ∧ x = ⟨m, hownT 38 2 Rule.enc v9 l8 :: l⟩ ∧ n = ((rules_1.length : Int) - t_98).toNat ∧ 0 ≤ t_98 ∧ forK (σ := (List Rule)) (fun i s nx_ => follow_Least_b99 n_0 rules_1 i s nx_) (fun s => follow_Least_k12 n_0 fuel s) n t_98 l8 = some r) _ ((0 : Int), ([] : List Rule)) ⟨_, rfl, rfl, rfl, (by omega), hr⟩ ?_
    rintro n101 ⟨t_98, l8⟩ env x ⟨v9, rfl, rfl, hnt_98, h0t_98, hr⟩
    cases n101 with
    | zero =>
      simp only [forK] at hr
      refine Tr.seq ?_
      refine Tr.region_f (fun _ => false) ?_
      refine W.q rfl rfl rfl rfl (by decide) (Yd.lss rfl (.t rfl) (.t rfl)) ?_
      refine W.end ?_
      refine NX.sub (env' := [(0, _), (7, _), (22, _), (23, _), (24, _), (25, _)]) ⟨rfl, rfl, rfl, rfl, rfl, rfl, trivial⟩ ?_
      refine NX.then ?_
      refine Tr.seq ?_
      refine Tr.cond (.t rfl) (fun hb => ?_) (fun hb => ?_)
      · exact absurd (hb.symm.trans (fr_end hnt_98)) (by decide)
      ·
        refine Tr.exit' (EX.then (EX.then (EX.block ?_)))
        refine NX.sub (env' := [(0, _), (7, _)]) ⟨rfl, rfl, trivial⟩ ?_
        exact hk13 _ _ ⟨_, _, rfl, rfl, hr⟩
    | succ n101 =>
      obtain ⟨nx100, hnx100, hr⟩ := forK_succ hr
      try dsimp only at hr
      unfold follow_Least_b99 at hr
      try dsimp only at hr
      have hltt_98 := fr_bnd hnt_98
      refine Tr.seq ?_
      refine Tr.region_f (fun _ => false) ?_
      refine W.q rfl rfl rfl rfl (by decide) (Yd.lss rfl (.t rfl) (.t rfl)) ?_
      refine W.end ?_
      refine NX.sub (env' := [(0, _), (7, _), (22, _), (23, _), (24, _), (25, _)]) ⟨rfl, rfl, rfl, rfl, rfl, rfl, trivial⟩ ?_
      refine NX.then ?_
      refine Tr.seq ?_
      refine Tr.cond (.t rfl) (fun hb => ?_) (fun hb => ?_)
      rotate_left
      · exact absurd (hb.symm.trans (fr_go hnt_98)) (by decide)
      ·
        refine Tr.skip' ?_
        refine NX.then ?_
        refine Tr.seq ?_
        refine Tr.block ?_
        refine Tr.seq ?_
        obtain ⟨y102, hy103, hr⟩ := bind_some hr
        refine Tr.region_f (fun i => Nat.beq i 2 || Nat.beq i 3) ?_
        refine W.q rfl rfl rfl rfl (by decide) (Yd.idxR hrules_1 hy103 rfl Try.underlying30 SZ38 (.t rfl) (.t rfl)) ?_
        refine W.q rfl rfl rfl rfl (by decide) (Yd.ldFs (us := [_, _]) hrules_1 (.refl _) hy103 rfl rfl ON38 US38 SZ38 (.t rfl)) ?_
        refine W.e rfl rfl rfl rfl (by decide) (Ef.al rfl ZR38 rfl) ?_
        rintro _ _ ⟨b104, rfl, rfl⟩
        refine ⟨.inl rfl, ?_⟩
        refine W.cast (m' := m) (l' := hcells b104 [_, _] 38 :: hownT 38 2 Rule.enc v9 _ :: l) rfl rfl ?_
        refine W.s rfl rfl rfl rfl (Ef.stB (pos := 0) (us := [_, _]) (cs' := [_, _]) rfl rfl (.t rfl) (.t rfl) SZ38 rfl rfl rfl (Nat.le_of_ble_eq_true rfl) rfl) ?_
        rintro _ _ ⟨rfl, rfl⟩
        refine ⟨.inl rfl, ?_⟩
        refine W.cast (m' := m) (l' := hcells b104 [_, _] 38 :: hownT 38 2 Rule.enc v9 _ :: l) rfl rfl ?_
        refine W.end ?_
        refine NX.sub (env' := [(0, _), (7, _), (22, _), (23, _), (24, _), (9, _)]) ⟨rfl, rfl, rfl, rfl, rfl, rfl, trivial⟩ ?_
        refine NX.then ?_
        refine Tr.seq ?_
        refine Tr.region_f (fun _ => false) ?_
        refine W.q rfl rfl rfl rfl (by decide) (Yd.mv rfl (.t rfl)) ?_
        refine W.q rfl rfl rfl rfl (by decide) (Yd.mv rfl .c) ?_
        refine W.end ?_
        refine NX.sub (env' := [(0, _), (7, _), (22, _), (23, _), (24, _), (9, _), (28, _), (29, _)]) ⟨rfl, rfl, rfl, rfl, rfl, rfl, rfl, rfl, trivial⟩ ?_
        refine NX.then ?_
        refine Tr.join (S := fun env x => ∃ l112 : List Rule, ∃ v113 : Value, env = [(0, .int .i64 n_0), (7, v113), (22, urules_1), (23, .int .i64 ((rules_1.length : Int))), (24, .int .i64 t_98)] ∧ x = ⟨m, hownT 38 2 Rule.enc v113 l112 :: l⟩ ∧ follow_Least_k114 nx100 l112 = some r) ?_ (fun hk115 => ?_)
        · rintro _ _ ⟨l112, v113, rfl, rfl, hr⟩
          unfold follow_Least_k114 at hr
          try dsimp only at hr
          refine NX.block ?_
          refine NX.then ?_
          refine Tr.region_f (fun _ => false) ?_
          refine W.q rfl rfl rfl rfl (by decide) (Yd.add rfl (.t rfl) .c) ?_
          refine W.q rfl rfl rfl rfl (by decide) (Yd.mv rfl (.t rfl)) ?_
          refine W.end ?_
          refine NX.sub (env' := [(0, _), (7, _), (22, _), (23, _), (24, _)]) ⟨rfl, rfl, rfl, rfl, rfl, trivial⟩ ?_
          refine NX.sub (env' := [(0, _), (7, _), (22, _), (23, _), (24, _)]) ⟨rfl, rfl, rfl, rfl, rfl, trivial⟩ ?_
          have hw := w64_id (n := t_98 + 1) (by omega) (by omega)
          exact NX.again n101 (t_98 + 1, l112) (Nat.lt_succ_self _) ⟨_, (by rw [hw] <;> rfl), rfl, (fr_dec hnt_98), (by omega), ((hnx100 _).symm.trans hr)⟩
        obtain ⟨hle116, hr⟩ := guard_some hr; replace hle116 := of_decide_eq_true hle116
        refine Tr.block ?_
        refine Tr.sub (env' := [(0, _), (7, _), (9, _), (22, _), (23, _), (24, _), (28, _), (29, _)]) ⟨rfl, rfl, rfl, rfl, rfl, rfl, rfl, rfl, trivial⟩ ?_
        refine Tr.loop (S := fun n (z : Int × (List Rule)) env x => match z with | (t_117, l110) => ∃ v111 : Value, env = [(0, .int .i64 n_0), (7, v111), (9, bp b104 0), (22, urules_1), (23, .int .i64 ((rules_1.length : Int))), (24, .int .i64 t_98), (28, .int .i64 n_0), (29, .int .i64 t_117)] ∧ x = ⟨m, hcells b104 [.int .u32 (y102.cond.toNat : Int), .int .u32 (y102.thn.toNat : Int)] 38 :: hownT 38 2 Rule.enc v111 l110 :: l⟩ ∧ n = (n_0 - t_117).toNat ∧ 0 ≤ t_117 ∧ forK (σ := (List Rule)) (fun i s nx_ => follow_Least_b118 y102 i s nx_) (fun s => follow_Least_k114 nx100 s) n t_117 l110 = some r) _ ((0 : Int), l8) ⟨_, rfl, rfl, rfl, (by omega), hr⟩ ?_
        rintro n120 ⟨t_117, l110⟩ env x ⟨v111, rfl, rfl, hnt_117, h0t_117, hr⟩
        cases n120 with
        | zero =>
          simp only [forK] at hr
          refine Tr.seq ?_
          refine Tr.region_f (fun _ => false) ?_
          refine W.q rfl rfl rfl rfl (by decide) (Yd.lss rfl (.t rfl) (.t rfl)) ?_
          refine W.end ?_
          refine NX.sub (env' := [(0, _), (7, _), (9, _), (22, _), (23, _), (24, _), (28, _), (29, _), (30, _)]) ⟨rfl, rfl, rfl, rfl, rfl, rfl, rfl, rfl, rfl, trivial⟩ ?_
          refine NX.then ?_
          refine Tr.seq ?_
          refine Tr.cond (.t rfl) (fun hb => ?_) (fun hb => ?_)
          · exact absurd (hb.symm.trans (fr_end hnt_117)) (by decide)
          ·
            refine Tr.exit' (EX.then (EX.then (EX.block ?_)))
            refine NX.sub (env' := [(0, _), (7, _), (22, _), (23, _), (24, _)]) ⟨rfl, rfl, rfl, rfl, rfl, trivial⟩ ?_
            refine NX.drop (l' := hownT 38 2 Rule.enc v111 _ :: l) (.cons _ (.cons_cons _ (.refl _))) ?_
            exact hk115 _ _ ⟨_, _, rfl, rfl, hr⟩
        | succ n120 =>
          obtain ⟨nx119, hnx119, hr⟩ := forK_succ hr
          try dsimp only at hr
          unfold follow_Least_b118 at hr
          try dsimp only at hr
          have hltt_117 := fr_bnd hnt_117
          refine Tr.seq ?_
          refine Tr.region_f (fun _ => false) ?_
          refine W.q rfl rfl rfl rfl (by decide) (Yd.lss rfl (.t rfl) (.t rfl)) ?_
          refine W.end ?_
          refine NX.sub (env' := [(0, _), (7, _), (9, _), (22, _), (23, _), (24, _), (28, _), (29, _), (30, _)]) ⟨rfl, rfl, rfl, rfl, rfl, rfl, rfl, rfl, rfl, trivial⟩ ?_
          refine NX.then ?_
          refine Tr.seq ?_
          refine Tr.cond (.t rfl) (fun hb => ?_) (fun hb => ?_)
          rotate_left
          · exact absurd (hb.symm.trans (fr_go hnt_117)) (by decide)
          ·
            refine Tr.skip' ?_
            refine NX.then ?_
            refine Tr.seq ?_
            refine Tr.block ?_
            refine Tr.seq ?_
            refine Tr.region_f (fun _ => false) ?_
            refine W.q rfl rfl rfl rfl (by decide) (Yd.mv rfl (.t rfl)) ?_
            refine W.q rfl rfl rfl rfl (by decide) (Yd.as rfl (.t rfl)) ?_
            refine W.end ?_
            refine NX.sub (env' := [(0, _), (7, _), (9, _), (22, _), (23, _), (24, _), (28, _), (29, _), (10, _)]) ⟨rfl, rfl, rfl, rfl, rfl, rfl, rfl, rfl, rfl, trivial⟩ ?_
            refine NX.then ?_
            refine Tr.seq ?_
            refine Tr.region_f (fun _ => false) ?_
            refine W.q rfl rfl rfl rfl (by decide) (Yd.fldB rfl Try.underlying38 rfl SZ34 rfl (.t rfl)) ?_
            refine W.q rfl rfl rfl rfl (by decide) (Yd.ldB (pos := 0) rfl rfl rfl ON34 (.t rfl)) ?_
            refine W.q rfl rfl rfl rfl (by decide) (Yd.fldB rfl Try.underlying38 rfl SZ34 rfl (.t rfl)) ?_
            refine W.q rfl rfl rfl rfl (by decide) (Yd.ldB (pos := 0) rfl rfl rfl ON34 (.t rfl)) ?_
            refine W.q rfl rfl rfl rfl (by decide) (Yd.andnU (a := y102.thn) (b := y102.cond) rfl (.t rfl) (.t rfl)) ?_
            refine W.q rfl rfl rfl rfl (by decide) (Yd.mv rfl (.t rfl)) ?_
            refine W.q rfl rfl rfl rfl (by decide) (Yd.shrU (a := (y102.thn &&& ~~~y102.cond)) rfl (.t rfl) (.t rfl) h0t_117) ?_
            refine W.q rfl rfl rfl rfl (by decide) (Yd.andU (a := ((y102.thn &&& ~~~y102.cond) >>> t_117.toNat)) (b := 1#32) rfl (.t rfl) .c) ?_
            refine W.q rfl rfl rfl rfl (by decide) (Yd.eqlU (a := (((y102.thn &&& ~~~y102.cond) >>> t_117.toNat) &&& 1#32)) (b := 1#32) rfl (.t rfl) .c) ?_
            refine W.end ?_
            refine NX.sub (env' := [(0, _), (7, _), (9, _), (22, _), (23, _), (24, _), (28, _), (29, _), (10, _), (40, _)]) ⟨rfl, rfl, rfl, rfl, rfl, rfl, rfl, rfl, rfl, rfl, trivial⟩ ?_
            refine NX.then ?_
            refine Tr.cond (.t rfl) (fun hb => ?_) (fun hb => ?_)
            · have hr := cond_t hb hr
              obtain ⟨hq124, hr⟩ := guard_some hr; replace hq124 := of_decide_eq_true hq124
              refine Tr.region_x (fun i => Nat.beq i 6 || Nat.beq i 7) (fun i => Nat.beq i 7) (Ord.of [0, 1, 2, 3, 4, 5, 6, 7, 8]) FM (by kernel_rfl) ?_
              refine W.q rfl rfl rfl rfl (by decide) (Yd.mv rfl (.t rfl)) ?_
              refine W.q rfl rfl rfl rfl (by decide) (Yd.fldB rfl Try.underlying38 rfl SZ34 rfl (.t rfl)) ?_
              refine W.q rfl rfl rfl rfl (by decide) (Yd.ldB (pos := 0) rfl rfl rfl ON34 (.t rfl)) ?_
              refine W.q rfl rfl rfl rfl (by decide) (Yd.mv rfl (.t rfl)) ?_
              refine W.q rfl rfl rfl rfl (by decide) (Yd.shlU (a := 1#32) rfl .c (.t rfl) h0t_117) ?_
              refine W.q rfl rfl rfl rfl (by decide) (Yd.bld (cells := [.int .u32 (y102.cond.toNat : Int), .int .u32 (((1#32 <<< t_117.toNat)).toNat : Int)]) rfl ZI38 PL38 (.cons (.t rfl) (.cons (.t rfl) .nil)) rfl) ?_
              refine W.e rfl rfl rfl rfl (by decide) (Ef.bsT (enc := Rule.enc) (vs := [_]) (ys := [({ cond := y102.cond, thn := (1#32 <<< t_117.toNat) } : Rule)]) (fun _ => rfl) IF38 rfl Try.underlying30 (by decide) rfl (.cons (.t rfl) .nil) rfl rfl (by decide)) ?_
              rintro v121 _ rfl
              refine ⟨.inr ⟨.refl _, [_], rfl⟩, ?_⟩
              refine W.cast (m' := m) (l' := hownT 38 2 Rule.enc v121 _ :: hcells b104 [_, _] 38 :: hownT 38 2 Rule.enc v111 _ :: l) rfl rfl ?_
              refine W.e rfl rfl rfl rfl (by decide) (Ef.apI (pos := 2) (enc := Rule.enc) (xs := l110) (ys := ([({ cond := y102.cond, thn := (1#32 <<< t_117.toNat) } : Rule)] : List Rule)) (fun _ => rfl) IF38 rfl rfl Try.underlying30 rfl (by decide) (.t rfl) (.t rfl) (Src.own (pos := 0) rfl) (fun _ => rfl) (by omega) (by omega)) ?_
              rintro v123 _ rfl
              refine ⟨.inl rfl, ?_⟩
              refine W.cast (m' := m) (l' := hownT 38 2 Rule.enc v121 _ :: hcells b104 [_, _] 38 :: hownT 38 2 Rule.enc v123 _ :: l) rfl rfl ?_
              refine W.q rfl rfl rfl rfl (by decide) (Yd.as rfl (.t rfl)) ?_
              refine W.end ?_
              refine NX.sub (env' := [(0, _), (7, _), (9, _), (22, _), (23, _), (24, _), (28, _), (29, _)]) ⟨rfl, rfl, rfl, rfl, rfl, rfl, rfl, rfl, trivial⟩ ?_
              refine NX.drop (l' := hcells b104 [_, _] 38 :: hownT 38 2 Rule.enc v123 _ :: l) (.cons _ (.cons_cons _ (.cons_cons _ (.refl _)))) ?_
              refine NX.block ?_
              refine NX.then ?_
              refine Tr.region_f (fun _ => false) ?_
              refine W.q rfl rfl rfl rfl (by decide) (Yd.add rfl (.t rfl) .c) ?_
              refine W.q rfl rfl rfl rfl (by decide) (Yd.mv rfl (.t rfl)) ?_
              refine W.end ?_
              refine NX.sub (env' := [(0, _), (7, _), (9, _), (22, _), (23, _), (24, _), (28, _), (29, _)]) ⟨rfl, rfl, rfl, rfl, rfl, rfl, rfl, rfl, trivial⟩ ?_
              refine NX.sub (env' := [(0, _), (7, _), (9, _), (22, _), (23, _), (24, _), (28, _), (29, _)]) ⟨rfl, rfl, rfl, rfl, rfl, rfl, rfl, rfl, trivial⟩ ?_
              have hw := w64_id (n := t_117 + 1) (by omega) (by omega)
              exact NX.again n120 (t_117 + 1, (l110 ++ ([({ cond := y102.cond, thn := (1#32 <<< t_117.toNat) } : Rule)] : List Rule))) (Nat.lt_succ_self _) ⟨_, (by rw [hw] <;> rfl), rfl, (fr_dec hnt_117), (by omega), ((hnx119 _).symm.trans hr)⟩
            · have hr := cond_f hb hr
              refine Tr.skip' ?_
              refine NX.block ?_
              refine NX.then ?_
              refine Tr.region_f (fun _ => false) ?_
              refine W.q rfl rfl rfl rfl (by decide) (Yd.add rfl (.t rfl) .c) ?_
              refine W.q rfl rfl rfl rfl (by decide) (Yd.mv rfl (.t rfl)) ?_
              refine W.end ?_
              refine NX.sub (env' := [(0, _), (7, _), (9, _), (22, _), (23, _), (24, _), (28, _), (29, _)]) ⟨rfl, rfl, rfl, rfl, rfl, rfl, rfl, rfl, trivial⟩ ?_
              refine NX.sub (env' := [(0, _), (7, _), (9, _), (22, _), (23, _), (24, _), (28, _), (29, _)]) ⟨rfl, rfl, rfl, rfl, rfl, rfl, rfl, rfl, trivial⟩ ?_
              have hw := w64_id (n := t_117 + 1) (by omega) (by omega)
              exact NX.again n120 (t_117 + 1, l110) (Nat.lt_succ_self _) ⟨_, (by rw [hw] <;> rfl), rfl, (fr_dec hnt_117), (by omega), ((hnx119 _).symm.trans hr)⟩

def syllogistref_Fits (n_0 : Int) (s_1 : (BitVec 32)) : Option (Bool) :=
  some (((decide (n_0 ≥ (32 : Int))) || ((decide (n_0 ≥ (0 : Int))) && (decide (s_1 < (1#32 <<< ((BitVec.ofInt 64 n_0)).toNat))))))

set_option maxRecDepth 100000 in
set_option maxHeartbeats 4000000 in
theorem syllogistref_Fits_ok (w0 : World) (m : Snap) (l : List HI) (n_0 : Int) (s_1 : (BitVec 32)) (r : Bool) (hr : syllogistref_Fits n_0 s_1 = some r) (w : World) (hc : cX w0 ⟨m, l⟩ w) :
    Calls Try.prog 13 [.int .i64 n_0, .int .u32 (s_1.toNat : Int)].toArray w fun e w' => e = .returned (.bool r) ∧ cX w0 ⟨m, l⟩ w' := by
  unfold syllogistref_Fits at hr
  refine calls_of_Tr (N := 18) Try.func13 rfl hc rfl (Nat.le_of_ble_eq_true rfl) ?_
  refine Tr.seq ?_
  refine Tr.region_f (fun _ => false) ?_
  refine W.q rfl rfl rfl rfl (by decide) (Yd.as rfl .c) ?_
  refine W.end ?_
  refine NX.sub (env' := [(0, _), (1, _)]) ⟨rfl, rfl, trivial⟩ ?_
  refine NX.then ?_
  refine Tr.seq ?_
  refine Tr.region_f (fun _ => false) ?_
  refine W.q rfl rfl rfl rfl (by decide) (Yd.mv rfl (.t rfl)) ?_
  refine W.q rfl rfl rfl rfl (by decide) (Yd.geq rfl (.t rfl) .c) ?_
  refine W.q rfl rfl rfl rfl (by decide) (Yd.mv rfl (.t rfl)) ?_
  refine W.g rfl rfl rfl rfl rfl (.t rfl _) rfl (by decide) (fun hG => Yd.mv rfl (.t rfl)) ?_
  refine W.g rfl rfl rfl rfl rfl (.t rfl _) rfl (by decide) (fun hG => Yd.geq rfl (.g rfl hG) .c) ?_
  refine W.g rfl rfl rfl rfl rfl (.t rfl _) rfl (by decide) (fun hG => Yd.mv rfl (.g rfl hG)) ?_
  refine W.g rfl rfl rfl rfl rfl (.g rfl _) rfl (by decide) (fun hG => Yd.mv rfl (.t rfl)) ?_
  refine W.g rfl rfl rfl rfl rfl (.g rfl _) rfl (by decide) (fun hG => Yd.mv rfl (.t rfl)) ?_
  refine W.g rfl rfl rfl rfl rfl (.g rfl _) rfl (by decide) (fun hG => Yd.cvQ rfl US3 Try.underlying35 (.g rfl hG)) ?_
  refine W.g rfl rfl rfl rfl rfl (.g rfl _) rfl (by decide) (fun hG => Yd.shlU (a := 1#32) rfl .c (.g rfl hG) (Int.natCast_nonneg _)) ?_
  refine W.g rfl rfl rfl rfl rfl (.g rfl _) rfl (by decide) (fun hG => Yd.lssU (a := s_1) (b := (1#32 <<< ((BitVec.ofInt 64 n_0)).toNat)) rfl (.g rfl hG) (.g rfl hG)) ?_
  refine W.g rfl rfl rfl rfl rfl (.t rfl _) rfl (by decide) (fun hG => Yd.andG rfl (.g rfl hG) .c rfl rfl hG) ?_
  refine W.q rfl rfl rfl rfl (by decide) (Yd.or rfl (.t rfl) .c rfl rfl) ?_
  refine W.q rfl rfl rfl rfl (by decide) (Yd.as rfl (.t rfl)) ?_
  refine W.end ?_
  refine NX.sub (env' := [(4, _)]) ⟨rfl, trivial⟩ ?_
  refine NX.then ?_
  refine Tr.ret' ?_
  refine res1 rfl rfl ?_
  intro w hc
  cases hr
  exact ⟨rfl, hc⟩

def syllogistref_RulesCheck_k3 (n_0 : Int) (more_2 : (BitVec 32)) : Option (Int) :=
  (syllogistref_Fits n_0 more_2).bind fun r5 =>
  (bif (!r5) then
  some ((4 : Int))
  else
  some ((0 : Int)))

def syllogistref_RulesCheck_b9 (n_0 : Int) (rules_1 : List Rule) (t_8 : Int) (nx10 : Unit → Option (Int)) : Option (Int) :=
  (geti rules_1 t_8).bind fun y12 =>
  (syllogistref_Fits n_0 y12.cond).bind fun r16 =>
  bif (!((!r16) == false) || (syllogistref_Fits n_0 y12.thn).isSome) then
  (bif ((!r16) || (!(((syllogistref_Fits n_0 y12.thn).getD false)))) then
  some ((4 : Int))
  else
  nx10 ()) else none

def syllogistref_RulesCheck (n_0 : Int) (rules_1 : List Rule) (more_2 : (BitVec 32)) : Option (Int) :=
  (bif (((decide (n_0 < (1 : Int))) || (decide (n_0 > (6 : Int)))) || (decide ((rules_1.length : Int) > (10 : Int)))) then
  some ((1 : Int))
  else
  forK (σ := Unit) (fun i s nx_ => syllogistref_RulesCheck_b9 n_0 rules_1 i nx_) (fun _ => syllogistref_RulesCheck_k3 n_0 more_2) ((rules_1.length : Int) - (0 : Int)).toNat (0 : Int) ())

set_option maxRecDepth 100000 in
set_option maxHeartbeats 4000000 in
theorem syllogistref_RulesCheck_ok (w0 : World) (m : Snap) (l : List HI) (n_0 : Int) (urules_1 : Value) (rules_1 : List Rule) (hrules_1 : RS rRule m urules_1 rules_1) (more_2 : (BitVec 32)) (r : Int) (hr : syllogistref_RulesCheck n_0 rules_1 more_2 = some r) (w : World) (hc : cX w0 ⟨m, l⟩ w) :
    Calls Try.prog 10 [.int .i64 n_0, urules_1, .int .u32 (more_2.toNat : Int)].toArray w fun e w' => e = .returned (.int .i64 r) ∧ cX w0 ⟨m, l⟩ w' := by
  unfold syllogistref_RulesCheck at hr
  refine calls_of_Tr (N := 43) Try.func10 rfl hc rfl (Nat.le_of_ble_eq_true rfl) ?_
  refine Tr.seq ?_
  refine Tr.region_f (fun _ => false) ?_
  refine W.q rfl rfl rfl rfl (by decide) (Yd.as rfl .c) ?_
  refine W.end ?_
  refine NX.sub (env' := [(0, _), (1, _), (2, _)]) ⟨rfl, rfl, rfl, trivial⟩ ?_
  refine NX.then ?_
  refine Tr.seq ?_
  refine Tr.seq ?_
  refine Tr.region_f (fun _ => false) ?_
  refine W.q rfl rfl rfl rfl (by decide) (Yd.mv rfl (.t rfl)) ?_
  refine W.q rfl rfl rfl rfl (by decide) (Yd.lss rfl (.t rfl) .c) ?_
  refine W.q rfl rfl rfl rfl (by decide) (Yd.mv rfl (.t rfl)) ?_
  refine W.g rfl rfl rfl rfl rfl (.t rfl _) rfl (by decide) (fun hG => Yd.mv rfl (.t rfl)) ?_
  refine W.g rfl rfl rfl rfl rfl (.t rfl _) rfl (by decide) (fun hG => Yd.gtr rfl (.g rfl hG) .c) ?_
  refine W.q rfl rfl rfl rfl (by decide) (Yd.or rfl (.t rfl) .c rfl rfl) ?_
  refine W.q rfl rfl rfl rfl (by decide) (Yd.mv rfl (.t rfl)) ?_
  refine W.g rfl rfl rfl rfl rfl (.t rfl _) rfl (by decide) (fun hG => Yd.mv rfl (.t rfl)) ?_
  refine W.g rfl rfl rfl rfl rfl (.t rfl _) rfl (by decide) (fun hG => Yd.lenR hrules_1 rfl Try.underlying30 (.g rfl hG)) ?_
  refine W.g rfl rfl rfl rfl rfl (.t rfl _) rfl (by decide) (fun hG => Yd.gtr rfl (.g rfl hG) .c) ?_
  refine W.q rfl rfl rfl rfl (by decide) (Yd.or rfl (.t rfl) .c rfl rfl) ?_
  refine W.end ?_
  refine NX.sub (env' := [(0, _), (1, _), (2, _), (19, _)]) ⟨rfl, rfl, rfl, rfl, trivial⟩ ?_
  refine NX.then ?_
  refine Tr.cond (.t rfl) (fun hb => ?_) (fun hb => ?_)
  · have hr := cond_t hb hr
    refine Tr.seq ?_
    refine Tr.region_f (fun _ => false) ?_
    refine W.q rfl rfl rfl rfl (by decide) (Yd.as rfl .c) ?_
    refine W.end ?_
    refine NX.sub (env' := [(6, _)]) ⟨rfl, trivial⟩ ?_
    refine NX.then ?_
    refine Tr.ret' (RT.then ?_)
    refine res1 rfl rfl ?_
    intro w hc
    cases hr
    exact ⟨rfl, hc⟩
  · have hr := cond_f hb hr
    refine Tr.skip' ?_
    refine NX.then ?_
    refine Tr.seq ?_
    refine Tr.seq ?_
    refine Tr.region_f (fun _ => false) ?_
    refine W.q rfl rfl rfl rfl (by decide) (Yd.mv rfl (.t rfl)) ?_
    refine W.q rfl rfl rfl rfl (by decide) (Yd.lenR hrules_1 rfl Try.underlying30 (.t rfl)) ?_
    refine W.q rfl rfl rfl rfl (by decide) (Yd.mv rfl .c) ?_
    refine W.end ?_
    refine NX.sub (env' := [(0, _), (2, _), (20, _), (21, _), (22, _)]) ⟨rfl, rfl, rfl, rfl, rfl, trivial⟩ ?_
    refine NX.then ?_
    refine Tr.join (S := fun env x => env = [(0, .int .i64 n_0), (2, .int .u32 (more_2.toNat : Int))] ∧ x = ⟨m, l⟩ ∧ syllogistref_RulesCheck_k3 n_0 more_2 = some r) ?_ (fun hk4 => ?_)
    · rintro _ _ ⟨rfl, rfl, hr⟩
      unfold syllogistref_RulesCheck_k3 at hr
      try dsimp only at hr
      refine NX.then ?_
      refine Tr.seq ?_
      refine Tr.seq ?_
      obtain ⟨r5, hr6, hr⟩ := bind_some hr
      refine Tr.region_f (fun _ => false) ?_
      refine W.q rfl rfl rfl rfl (by decide) (Yd.mv rfl (.t rfl)) ?_
      refine W.q rfl rfl rfl rfl (by decide) (Yd.mv rfl (.t rfl)) ?_
      refine W.q rfl rfl rfl rfl (by decide) (Yd.call (v := .bool r5) rfl Try.func13 rfl rfl (.cons (.t rfl) (.cons (.t rfl) .nil)) (fun x' hx w hw => syllogistref_Fits_ok w0 x'.m x'.l n_0 more_2 _ hr6 w hw)) ?_
      refine W.q rfl rfl rfl rfl (by decide) (Yd.not rfl (.t rfl)) ?_
      refine W.end ?_
      refine NX.sub (env' := [(42, _)]) ⟨rfl, trivial⟩ ?_
      refine NX.then ?_
      refine Tr.cond (.t rfl) (fun hb => ?_) (fun hb => ?_)
      · have hr := cond_t hb hr
        refine Tr.seq ?_
        refine Tr.region_f (fun _ => false) ?_
        refine W.q rfl rfl rfl rfl (by decide) (Yd.as rfl .c) ?_
        refine W.end ?_
        refine NX.sub (env' := [(6, _)]) ⟨rfl, trivial⟩ ?_
        refine NX.then ?_
        refine Tr.ret' (RT.then ?_)
        refine res1 rfl rfl ?_
        intro w hc
        cases hr
        exact ⟨rfl, hc⟩
      · have hr := cond_f hb hr
        refine Tr.skip' ?_
        refine NX.then ?_
        refine Tr.seq ?_
        refine Tr.region_f (fun _ => false) ?_
        refine W.q rfl rfl rfl rfl (by decide) (Yd.as rfl .c) ?_
        refine W.end ?_
        refine NX.sub (env' := [(6, _)]) ⟨rfl, trivial⟩ ?_
        refine NX.then ?_
        refine Tr.ret' ?_
        refine res1 rfl rfl ?_
        intro w hc
        cases hr
        exact ⟨rfl, hc⟩
    have hlen7 := (hrules_1).2.1
    refine Tr.block ?_
    refine Tr.sub (env' := [(0, _), (2, _), (20, _), (21, _), (22, _)]) ⟨rfl, rfl, rfl, rfl, rfl, trivial⟩ ?_
    refine Tr.loop (S := fun n (z : Int × Unit) env x => match z with | (t_8, _) => env = [(0, .int .i64 n_0), (2, .int .u32 (more_2.toNat : Int)), (20, urules_1), (21, .int .i64 ((rules_1.length : Int))), (22, .int .i64 t_8)] ∧ x = ⟨m, l⟩ ∧ n = ((rules_1.length : Int) - t_8).toNat ∧ 0 ≤ t_8 ∧ forK (σ := Unit) (fun i s nx_ => syllogistref_RulesCheck_b9 n_0 rules_1 i nx_) (fun _ => syllogistref_RulesCheck_k3 n_0 more_2) n t_8 () = some r) _ ((0 : Int), ()) ⟨rfl, rfl, rfl, (by omega), hr⟩ ?_
    rintro n11 ⟨t_8, _⟩ env x ⟨rfl, rfl, hnt_8, h0t_8, hr⟩
    cases n11 with
    | zero =>
      simp only [forK] at hr
      refine Tr.seq ?_
      refine Tr.region_f (fun _ => false) ?_
      refine W.q rfl rfl rfl rfl (by decide) (Yd.lss rfl (.t rfl) (.t rfl)) ?_
      refine W.end ?_
      refine NX.sub (env' := [(0, _), (2, _), (20, _), (21, _), (22, _), (23, _)]) ⟨rfl, rfl, rfl, rfl, rfl, rfl, trivial⟩ ?_
      refine NX.then ?_
      refine Tr.seq ?_
      refine Tr.cond (.t rfl) (fun hb => ?_) (fun hb => ?_)
      · exact absurd (hb.symm.trans (fr_end hnt_8)) (by decide)
      ·
        refine Tr.exit' (EX.then (EX.then (EX.block ?_)))
        refine NX.sub (env' := [(0, _), (2, _)]) ⟨rfl, rfl, trivial⟩ ?_
        exact hk4 _ _ ⟨rfl, rfl, hr⟩
    | succ n11 =>
      obtain ⟨nx10, hnx10, hr⟩ := forK_succ hr
      try dsimp only at hr
      unfold syllogistref_RulesCheck_b9 at hr
      try dsimp only at hr
      have hltt_8 := fr_bnd hnt_8
      refine Tr.seq ?_
      refine Tr.region_f (fun _ => false) ?_
      refine W.q rfl rfl rfl rfl (by decide) (Yd.lss rfl (.t rfl) (.t rfl)) ?_
      refine W.end ?_
      refine NX.sub (env' := [(0, _), (2, _), (20, _), (21, _), (22, _), (23, _)]) ⟨rfl, rfl, rfl, rfl, rfl, rfl, trivial⟩ ?_
      refine NX.then ?_
      refine Tr.seq ?_
      refine Tr.cond (.t rfl) (fun hb => ?_) (fun hb => ?_)
      rotate_left
      · exact absurd (hb.symm.trans (fr_go hnt_8)) (by decide)
      ·
        refine Tr.skip' ?_
        refine NX.then ?_
        refine Tr.seq ?_
        refine Tr.block ?_
        refine Tr.seq ?_
        obtain ⟨y12, hy13, hr⟩ := bind_some hr
        refine Tr.region_f (fun i => Nat.beq i 2 || Nat.beq i 3) ?_
        refine W.q rfl rfl rfl rfl (by decide) (Yd.idxR hrules_1 hy13 rfl Try.underlying30 SZ38 (.t rfl) (.t rfl)) ?_
        refine W.q rfl rfl rfl rfl (by decide) (Yd.ldFs (us := [_, _]) hrules_1 (.refl _) hy13 rfl rfl ON38 US38 SZ38 (.t rfl)) ?_
        refine W.e rfl rfl rfl rfl (by decide) (Ef.al rfl ZR38 rfl) ?_
        rintro _ _ ⟨b14, rfl, rfl⟩
        refine ⟨.inl rfl, ?_⟩
        refine W.cast (m' := m) (l' := hcells b14 [_, _] 38 :: l) rfl rfl ?_
        refine W.s rfl rfl rfl rfl (Ef.stB (pos := 0) (us := [_, _]) (cs' := [_, _]) rfl rfl (.t rfl) (.t rfl) SZ38 rfl rfl rfl (Nat.le_of_ble_eq_true rfl) rfl) ?_
        rintro _ _ ⟨rfl, rfl⟩
        refine ⟨.inl rfl, ?_⟩
        refine W.cast (m' := m) (l' := hcells b14 [_, _] 38 :: l) rfl rfl ?_
        refine W.end ?_
        refine NX.sub (env' := [(0, _), (2, _), (20, _), (21, _), (22, _), (8, _)]) ⟨rfl, rfl, rfl, rfl, rfl, rfl, trivial⟩ ?_
        refine NX.then ?_
        refine Tr.seq ?_
        obtain ⟨r16, hr17, hr⟩ := bind_some hr
        obtain ⟨ha18, hr⟩ := guard_some hr
        refine Tr.region_f (fun _ => false) ?_
        refine W.q rfl rfl rfl rfl (by decide) (Yd.mv rfl (.t rfl)) ?_
        refine W.q rfl rfl rfl rfl (by decide) (Yd.fldB rfl Try.underlying38 rfl SZ34 rfl (.t rfl)) ?_
        refine W.q rfl rfl rfl rfl (by decide) (Yd.ldB (pos := 0) rfl rfl rfl ON34 (.t rfl)) ?_
        refine W.q rfl rfl rfl rfl (by decide) (Yd.call (v := .bool r16) rfl Try.func13 rfl rfl (.cons (.t rfl) (.cons (.t rfl) .nil)) (fun x' hx w hw => syllogistref_Fits_ok w0 x'.m x'.l n_0 y12.cond _ hr17 w hw)) ?_
        refine W.q rfl rfl rfl rfl (by decide) (Yd.not rfl (.t rfl)) ?_
        refine W.q rfl rfl rfl rfl (by decide) (Yd.mv rfl (.t rfl)) ?_
        refine W.g rfl rfl rfl rfl rfl (.t rfl _) rfl (by decide) (fun hG => Yd.mv rfl (.t rfl)) ?_
        refine W.g rfl rfl rfl rfl rfl (.t rfl _) rfl (by decide) (fun hG => Yd.fldB rfl Try.underlying38 rfl SZ34 rfl (.t rfl)) ?_
        refine W.g rfl rfl rfl rfl rfl (.t rfl _) rfl (by decide) (fun hG => Yd.ldB (pos := 0) rfl rfl rfl ON34 (.g rfl hG)) ?_
        refine W.g rfl rfl rfl rfl rfl (.t rfl _) rfl (by decide) (fun hG => Yd.call (v := .bool ((((syllogistref_Fits n_0 y12.thn).getD false)))) rfl Try.func13 rfl rfl (.cons (.g rfl hG) (.cons (.g rfl hG) .nil)) (fun x' hx w hw => syllogistref_Fits_ok w0 x'.m x'.l n_0 y12.thn _ (gd_get (d := false) ha18 hG) w hw)) ?_
        refine W.g rfl rfl rfl rfl rfl (.t rfl _) rfl (by decide) (fun hG => Yd.not rfl (.g rfl hG)) ?_
        refine W.q rfl rfl rfl rfl (by decide) (Yd.or rfl (.t rfl) .c rfl rfl) ?_
        refine W.end ?_
        refine NX.sub (env' := [(0, _), (2, _), (20, _), (21, _), (22, _), (37, _)]) ⟨rfl, rfl, rfl, rfl, rfl, rfl, trivial⟩ ?_
        refine NX.drop (l' := l) (.cons _ (.refl _)) ?_
        refine NX.then ?_
        refine Tr.cond (.t rfl) (fun hb => ?_) (fun hb => ?_)
        · have hr := cond_t hb hr
          refine Tr.seq ?_
          refine Tr.region_f (fun _ => false) ?_
          refine W.q rfl rfl rfl rfl (by decide) (Yd.as rfl .c) ?_
          refine W.end ?_
          refine NX.sub (env' := [(6, _)]) ⟨rfl, trivial⟩ ?_
          refine NX.then ?_
          refine Tr.ret' (RT.block (RT.then (RT.then (RT.block (RT.then ?_)))))
          refine res1 rfl rfl ?_
          intro w hc
          cases hr
          exact ⟨rfl, hc⟩
        · have hr := cond_f hb hr
          refine Tr.skip' ?_
          refine NX.block ?_
          refine NX.then ?_
          refine Tr.region_f (fun _ => false) ?_
          refine W.q rfl rfl rfl rfl (by decide) (Yd.add rfl (.t rfl) .c) ?_
          refine W.q rfl rfl rfl rfl (by decide) (Yd.mv rfl (.t rfl)) ?_
          refine W.end ?_
          refine NX.sub (env' := [(0, _), (2, _), (20, _), (21, _), (22, _)]) ⟨rfl, rfl, rfl, rfl, rfl, trivial⟩ ?_
          refine NX.sub (env' := [(0, _), (2, _), (20, _), (21, _), (22, _)]) ⟨rfl, rfl, rfl, rfl, rfl, trivial⟩ ?_
          have hw := w64_id (n := t_8 + 1) (by omega) (by omega)
          exact NX.again n11 (t_8 + 1, ()) (Nat.lt_succ_self _) ⟨(by rw [hw] <;> rfl), rfl, (fr_dec hnt_8), (by omega), ((hnx10 _).symm.trans hr)⟩

def syllogistref_In (a_0 : (BitVec 32)) (b_1 : (BitVec 32)) : Option (Bool) :=
  some (((a_0 ||| b_1) == b_1))

set_option maxRecDepth 100000 in
set_option maxHeartbeats 4000000 in
theorem syllogistref_In_ok (w0 : World) (m : Snap) (l : List HI) (a_0 : (BitVec 32)) (b_1 : (BitVec 32)) (r : Bool) (hr : syllogistref_In a_0 b_1 = some r) (w : World) (hc : cX w0 ⟨m, l⟩ w) :
    Calls Try.prog 14 [.int .u32 (a_0.toNat : Int), .int .u32 (b_1.toNat : Int)].toArray w fun e w' => e = .returned (.bool r) ∧ cX w0 ⟨m, l⟩ w' := by
  unfold syllogistref_In at hr
  refine calls_of_Tr (N := 10) Try.func14 rfl hc rfl (Nat.le_of_ble_eq_true rfl) ?_
  refine Tr.seq ?_
  refine Tr.region_f (fun _ => false) ?_
  refine W.q rfl rfl rfl rfl (by decide) (Yd.as rfl .c) ?_
  refine W.end ?_
  refine NX.sub (env' := [(0, _), (1, _)]) ⟨rfl, rfl, trivial⟩ ?_
  refine NX.then ?_
  refine Tr.seq ?_
  refine Tr.region_f (fun _ => false) ?_
  refine W.q rfl rfl rfl rfl (by decide) (Yd.mv rfl (.t rfl)) ?_
  refine W.q rfl rfl rfl rfl (by decide) (Yd.mv rfl (.t rfl)) ?_
  refine W.q rfl rfl rfl rfl (by decide) (Yd.orU (a := a_0) (b := b_1) rfl (.t rfl) (.t rfl)) ?_
  refine W.q rfl rfl rfl rfl (by decide) (Yd.mv rfl (.t rfl)) ?_
  refine W.q rfl rfl rfl rfl (by decide) (Yd.eqlU (a := (a_0 ||| b_1)) (b := b_1) rfl (.t rfl) (.t rfl)) ?_
  refine W.q rfl rfl rfl rfl (by decide) (Yd.as rfl (.t rfl)) ?_
  refine W.end ?_
  refine NX.sub (env' := [(4, _)]) ⟨rfl, trivial⟩ ?_
  refine NX.then ?_
  refine Tr.ret' ?_
  refine res1 rfl rfl ?_
  intro w hc
  cases hr
  exact ⟨rfl, hc⟩

def syllogistref_Closed_k3 : Option (Bool) :=
  some true

def syllogistref_Closed_b7 (rules_0 : List Rule) (s_1 : (BitVec 32)) (t_6 : Int) (nx8 : Unit → Option (Bool)) : Option (Bool) :=
  (geti rules_0 t_6).bind fun y10 =>
  (syllogistref_In y10.cond s_1).bind fun r14 =>
  bif (!(r14 == true) || (syllogistref_In y10.thn s_1).isSome) then
  (bif (r14 && (!(((syllogistref_In y10.thn s_1).getD false)))) then
  some false
  else
  nx8 ()) else none

def syllogistref_Closed (rules_0 : List Rule) (s_1 : (BitVec 32)) : Option (Bool) :=
  forK (σ := Unit) (fun i s nx_ => syllogistref_Closed_b7 rules_0 s_1 i nx_) (fun _ => syllogistref_Closed_k3) ((rules_0.length : Int) - (0 : Int)).toNat (0 : Int) ()

set_option maxRecDepth 100000 in
set_option maxHeartbeats 4000000 in
theorem syllogistref_Closed_ok (w0 : World) (m : Snap) (l : List HI) (urules_0 : Value) (rules_0 : List Rule) (hrules_0 : RS rRule m urules_0 rules_0) (s_1 : (BitVec 32)) (r : Bool) (hr : syllogistref_Closed rules_0 s_1 = some r) (w : World) (hc : cX w0 ⟨m, l⟩ w) :
    Calls Try.prog 11 [urules_0, .int .u32 (s_1.toNat : Int)].toArray w fun e w' => e = .returned (.bool r) ∧ cX w0 ⟨m, l⟩ w' := by
  unfold syllogistref_Closed at hr
  refine calls_of_Tr (N := 25) Try.func11 rfl hc rfl (Nat.le_of_ble_eq_true rfl) ?_
  refine Tr.seq ?_
  refine Tr.region_f (fun _ => false) ?_
  refine W.q rfl rfl rfl rfl (by decide) (Yd.as rfl .c) ?_
  refine W.end ?_
  refine NX.sub (env' := [(0, _), (1, _)]) ⟨rfl, rfl, trivial⟩ ?_
  refine NX.then ?_
  refine Tr.seq ?_
  refine Tr.seq ?_
  refine Tr.region_f (fun _ => false) ?_
  refine W.q rfl rfl rfl rfl (by decide) (Yd.mv rfl (.t rfl)) ?_
  refine W.q rfl rfl rfl rfl (by decide) (Yd.lenR hrules_0 rfl Try.underlying30 (.t rfl)) ?_
  refine W.q rfl rfl rfl rfl (by decide) (Yd.mv rfl .c) ?_
  refine W.end ?_
  refine NX.sub (env' := [(1, _), (7, _), (8, _), (9, _)]) ⟨rfl, rfl, rfl, rfl, trivial⟩ ?_
  refine NX.then ?_
  refine Tr.join (S := fun env x => env = [] ∧ x = ⟨m, l⟩ ∧ syllogistref_Closed_k3 = some r) ?_ (fun hk4 => ?_)
  · rintro _ _ ⟨rfl, rfl, hr⟩
    unfold syllogistref_Closed_k3 at hr
    try dsimp only at hr
    refine NX.then ?_
    refine Tr.seq ?_
    refine Tr.region_f (fun _ => false) ?_
    refine W.q rfl rfl rfl rfl (by decide) (Yd.as rfl .c) ?_
    refine W.end ?_
    refine NX.sub (env' := [(4, _)]) ⟨rfl, trivial⟩ ?_
    refine NX.then ?_
    refine Tr.ret' ?_
    refine res1 rfl rfl ?_
    intro w hc
    cases hr
    exact ⟨rfl, hc⟩
  have hlen5 := (hrules_0).2.1
  refine Tr.block ?_
  refine Tr.sub (env' := [(1, _), (7, _), (8, _), (9, _)]) ⟨rfl, rfl, rfl, rfl, trivial⟩ ?_
  refine Tr.loop (S := fun n (z : Int × Unit) env x => match z with | (t_6, _) => env = [(1, .int .u32 (s_1.toNat : Int)), (7, urules_0), (8, .int .i64 ((rules_0.length : Int))), (9, .int .i64 t_6)] ∧ x = ⟨m, l⟩ ∧ n = ((rules_0.length : Int) - t_6).toNat ∧ 0 ≤ t_6 ∧ forK (σ := Unit) (fun i s nx_ => syllogistref_Closed_b7 rules_0 s_1 i nx_) (fun _ => syllogistref_Closed_k3) n t_6 () = some r) _ ((0 : Int), ()) ⟨rfl, rfl, rfl, (by omega), hr⟩ ?_
  rintro n9 ⟨t_6, _⟩ env x ⟨rfl, rfl, hnt_6, h0t_6, hr⟩
  cases n9 with
  | zero =>
    simp only [forK] at hr
    refine Tr.seq ?_
    refine Tr.region_f (fun _ => false) ?_
    refine W.q rfl rfl rfl rfl (by decide) (Yd.lss rfl (.t rfl) (.t rfl)) ?_
    refine W.end ?_
    refine NX.sub (env' := [(1, _), (7, _), (8, _), (9, _), (10, _)]) ⟨rfl, rfl, rfl, rfl, rfl, trivial⟩ ?_
    refine NX.then ?_
    refine Tr.seq ?_
    refine Tr.cond (.t rfl) (fun hb => ?_) (fun hb => ?_)
    · exact absurd (hb.symm.trans (fr_end hnt_6)) (by decide)
    ·
      refine Tr.exit' (EX.then (EX.then (EX.block ?_)))
      refine NX.sub (env' := []) trivial ?_
      exact hk4 _ _ ⟨rfl, rfl, hr⟩
  | succ n9 =>
    obtain ⟨nx8, hnx8, hr⟩ := forK_succ hr
    try dsimp only at hr
    unfold syllogistref_Closed_b7 at hr
    try dsimp only at hr
    have hltt_6 := fr_bnd hnt_6
    refine Tr.seq ?_
    refine Tr.region_f (fun _ => false) ?_
    refine W.q rfl rfl rfl rfl (by decide) (Yd.lss rfl (.t rfl) (.t rfl)) ?_
    refine W.end ?_
    refine NX.sub (env' := [(1, _), (7, _), (8, _), (9, _), (10, _)]) ⟨rfl, rfl, rfl, rfl, rfl, trivial⟩ ?_
    refine NX.then ?_
    refine Tr.seq ?_
    refine Tr.cond (.t rfl) (fun hb => ?_) (fun hb => ?_)
    rotate_left
    · exact absurd (hb.symm.trans (fr_go hnt_6)) (by decide)
    ·
      refine Tr.skip' ?_
      refine NX.then ?_
      refine Tr.seq ?_
      refine Tr.block ?_
      refine Tr.seq ?_
      obtain ⟨y10, hy11, hr⟩ := bind_some hr
      refine Tr.region_f (fun i => Nat.beq i 2 || Nat.beq i 3) ?_
      refine W.q rfl rfl rfl rfl (by decide) (Yd.idxR hrules_0 hy11 rfl Try.underlying30 SZ38 (.t rfl) (.t rfl)) ?_
      refine W.q rfl rfl rfl rfl (by decide) (Yd.ldFs (us := [_, _]) hrules_0 (.refl _) hy11 rfl rfl ON38 US38 SZ38 (.t rfl)) ?_
      refine W.e rfl rfl rfl rfl (by decide) (Ef.al rfl ZR38 rfl) ?_
      rintro _ _ ⟨b12, rfl, rfl⟩
      refine ⟨.inl rfl, ?_⟩
      refine W.cast (m' := m) (l' := hcells b12 [_, _] 38 :: l) rfl rfl ?_
      refine W.s rfl rfl rfl rfl (Ef.stB (pos := 0) (us := [_, _]) (cs' := [_, _]) rfl rfl (.t rfl) (.t rfl) SZ38 rfl rfl rfl (Nat.le_of_ble_eq_true rfl) rfl) ?_
      rintro _ _ ⟨rfl, rfl⟩
      refine ⟨.inl rfl, ?_⟩
      refine W.cast (m' := m) (l' := hcells b12 [_, _] 38 :: l) rfl rfl ?_
      refine W.end ?_
      refine NX.sub (env' := [(1, _), (7, _), (8, _), (9, _), (6, _)]) ⟨rfl, rfl, rfl, rfl, rfl, trivial⟩ ?_
      refine NX.then ?_
      refine Tr.seq ?_
      obtain ⟨r14, hr15, hr⟩ := bind_some hr
      obtain ⟨ha16, hr⟩ := guard_some hr
      refine Tr.region_f (fun _ => false) ?_
      refine W.q rfl rfl rfl rfl (by decide) (Yd.fldB rfl Try.underlying38 rfl SZ34 rfl (.t rfl)) ?_
      refine W.q rfl rfl rfl rfl (by decide) (Yd.ldB (pos := 0) rfl rfl rfl ON34 (.t rfl)) ?_
      refine W.q rfl rfl rfl rfl (by decide) (Yd.mv rfl (.t rfl)) ?_
      refine W.q rfl rfl rfl rfl (by decide) (Yd.call (v := .bool r14) rfl Try.func14 rfl rfl (.cons (.t rfl) (.cons (.t rfl) .nil)) (fun x' hx w hw => syllogistref_In_ok w0 x'.m x'.l y10.cond s_1 _ hr15 w hw)) ?_
      refine W.q rfl rfl rfl rfl (by decide) (Yd.mv rfl (.t rfl)) ?_
      refine W.g rfl rfl rfl rfl rfl (.t rfl _) rfl (by decide) (fun hG => Yd.fldB rfl Try.underlying38 rfl SZ34 rfl (.t rfl)) ?_
      refine W.g rfl rfl rfl rfl rfl (.t rfl _) rfl (by decide) (fun hG => Yd.ldB (pos := 0) rfl rfl rfl ON34 (.g rfl hG)) ?_
      refine W.g rfl rfl rfl rfl rfl (.t rfl _) rfl (by decide) (fun hG => Yd.mv rfl (.t rfl)) ?_
      refine W.g rfl rfl rfl rfl rfl (.t rfl _) rfl (by decide) (fun hG => Yd.call (v := .bool ((((syllogistref_In y10.thn s_1).getD false)))) rfl Try.func14 rfl rfl (.cons (.g rfl hG) (.cons (.g rfl hG) .nil)) (fun x' hx w hw => syllogistref_In_ok w0 x'.m x'.l y10.thn s_1 _ (gd_get (d := false) ha16 hG) w hw)) ?_
      refine W.g rfl rfl rfl rfl rfl (.t rfl _) rfl (by decide) (fun hG => Yd.not rfl (.g rfl hG)) ?_
      refine W.q rfl rfl rfl rfl (by decide) (Yd.and rfl (.t rfl) .c rfl rfl) ?_
      refine W.end ?_
      refine NX.sub (env' := [(1, _), (7, _), (8, _), (9, _), (23, _)]) ⟨rfl, rfl, rfl, rfl, rfl, trivial⟩ ?_
      refine NX.drop (l' := l) (.cons _ (.refl _)) ?_
      refine NX.then ?_
      refine Tr.cond (.t rfl) (fun hb => ?_) (fun hb => ?_)
      · have hr := cond_t hb hr
        refine Tr.seq ?_
        refine Tr.region_f (fun _ => false) ?_
        refine W.q rfl rfl rfl rfl (by decide) (Yd.as rfl .c) ?_
        refine W.end ?_
        refine NX.sub (env' := [(4, _)]) ⟨rfl, trivial⟩ ?_
        refine NX.then ?_
        refine Tr.ret' (RT.block (RT.then (RT.then (RT.block (RT.then ?_)))))
        refine res1 rfl rfl ?_
        intro w hc
        cases hr
        exact ⟨rfl, hc⟩
      · have hr := cond_f hb hr
        refine Tr.skip' ?_
        refine NX.block ?_
        refine NX.then ?_
        refine Tr.region_f (fun _ => false) ?_
        refine W.q rfl rfl rfl rfl (by decide) (Yd.add rfl (.t rfl) .c) ?_
        refine W.q rfl rfl rfl rfl (by decide) (Yd.mv rfl (.t rfl)) ?_
        refine W.end ?_
        refine NX.sub (env' := [(1, _), (7, _), (8, _), (9, _)]) ⟨rfl, rfl, rfl, rfl, trivial⟩ ?_
        refine NX.sub (env' := [(1, _), (7, _), (8, _), (9, _)]) ⟨rfl, rfl, rfl, rfl, trivial⟩ ?_
        have hw := w64_id (n := t_6 + 1) (by omega) (by omega)
        exact NX.again n9 (t_6 + 1, ()) (Nat.lt_succ_self _) ⟨(by rw [hw] <;> rfl), rfl, (fr_dec hnt_6), (by omega), ((hnx8 _).symm.trans hr)⟩

def syllogistref_Bit (w_0 : (BitVec 32)) (i_1 : Int) : Option (Bool) :=
  some ((((decide (i_1 ≥ (0 : Int))) && (decide (i_1 < (32 : Int)))) && ((w_0 &&& (1#32 <<< ((BitVec.ofInt 64 i_1)).toNat)) != 0#32)))

set_option maxRecDepth 100000 in
set_option maxHeartbeats 4000000 in
theorem syllogistref_Bit_ok (w0 : World) (m : Snap) (l : List HI) (w_0 : (BitVec 32)) (i_1 : Int) (r : Bool) (hr : syllogistref_Bit w_0 i_1 = some r) (w : World) (hc : cX w0 ⟨m, l⟩ w) :
    Calls Try.prog 16 [.int .u32 (w_0.toNat : Int), .int .i64 i_1].toArray w fun e w' => e = .returned (.bool r) ∧ cX w0 ⟨m, l⟩ w' := by
  unfold syllogistref_Bit at hr
  refine calls_of_Tr (N := 19) Try.func16 rfl hc rfl (Nat.le_of_ble_eq_true rfl) ?_
  refine Tr.seq ?_
  refine Tr.region_f (fun _ => false) ?_
  refine W.q rfl rfl rfl rfl (by decide) (Yd.as rfl .c) ?_
  refine W.end ?_
  refine NX.sub (env' := [(0, _), (1, _)]) ⟨rfl, rfl, trivial⟩ ?_
  refine NX.then ?_
  refine Tr.seq ?_
  refine Tr.region_f (fun _ => false) ?_
  refine W.q rfl rfl rfl rfl (by decide) (Yd.mv rfl (.t rfl)) ?_
  refine W.q rfl rfl rfl rfl (by decide) (Yd.geq rfl (.t rfl) .c) ?_
  refine W.q rfl rfl rfl rfl (by decide) (Yd.mv rfl (.t rfl)) ?_
  refine W.g rfl rfl rfl rfl rfl (.t rfl _) rfl (by decide) (fun hG => Yd.mv rfl (.t rfl)) ?_
  refine W.g rfl rfl rfl rfl rfl (.t rfl _) rfl (by decide) (fun hG => Yd.lss rfl (.g rfl hG) .c) ?_
  refine W.q rfl rfl rfl rfl (by decide) (Yd.and rfl (.t rfl) .c rfl rfl) ?_
  refine W.q rfl rfl rfl rfl (by decide) (Yd.mv rfl (.t rfl)) ?_
  refine W.g rfl rfl rfl rfl rfl (.t rfl _) rfl (by decide) (fun hG => Yd.mv rfl (.t rfl)) ?_
  refine W.g rfl rfl rfl rfl rfl (.t rfl _) rfl (by decide) (fun hG => Yd.mv rfl (.t rfl)) ?_
  refine W.g rfl rfl rfl rfl rfl (.t rfl _) rfl (by decide) (fun hG => Yd.cvQ rfl US3 Try.underlying35 (.g rfl hG)) ?_
  refine W.g rfl rfl rfl rfl rfl (.t rfl _) rfl (by decide) (fun hG => Yd.shlU (a := 1#32) rfl .c (.g rfl hG) (Int.natCast_nonneg _)) ?_
  refine W.g rfl rfl rfl rfl rfl (.t rfl _) rfl (by decide) (fun hG => Yd.andU (a := w_0) (b := (1#32 <<< ((BitVec.ofInt 64 i_1)).toNat)) rfl (.g rfl hG) (.g rfl hG)) ?_
  refine W.g rfl rfl rfl rfl rfl (.t rfl _) rfl (by decide) (fun hG => Yd.neqU (a := (w_0 &&& (1#32 <<< ((BitVec.ofInt 64 i_1)).toNat))) (b := 0#32) rfl (.g rfl hG) .c) ?_
  refine W.q rfl rfl rfl rfl (by decide) (Yd.and rfl (.t rfl) .c rfl rfl) ?_
  refine W.q rfl rfl rfl rfl (by decide) (Yd.as rfl (.t rfl)) ?_
  refine W.end ?_
  refine NX.sub (env' := [(4, _)]) ⟨rfl, trivial⟩ ?_
  refine NX.then ?_
  refine Tr.ret' ?_
  refine res1 rfl rfl ?_
  intro w hc
  cases hr
  exact ⟨rfl, hc⟩

def syllogistref_Size_k6 (n_5 : Int) : Option (Int) :=
  some n_5

def syllogistref_Size_b9 (w_0 : (BitVec 32)) (i_8 : Int) (n_3 : Int) (nx10 : Int → Option (Int)) : Option (Int) :=
  (syllogistref_Bit w_0 i_8).bind fun r12 =>
  (bif r12 then
  nx10 (w64 (n_3 + (1 : Int)))
  else
  nx10 n_3)

def syllogistref_Size (w_0 : (BitVec 32)) : Option (Int) :=
  forK (σ := Int) (fun i s nx_ => syllogistref_Size_b9 w_0 i s nx_) (fun s => syllogistref_Size_k6 s) ((32 : Int) - (0 : Int)).toNat (0 : Int) ((0 : Int))

set_option maxRecDepth 100000 in
set_option maxHeartbeats 4000000 in
theorem syllogistref_Size_ok (w0 : World) (m : Snap) (l : List HI) (w_0 : (BitVec 32)) (r : Int) (hr : syllogistref_Size w_0 = some r) (w : World) (hc : cX w0 ⟨m, l⟩ w) :
    Calls Try.prog 12 [.int .u32 (w_0.toNat : Int)].toArray w fun e w' => e = .returned (.int .i64 r) ∧ cX w0 ⟨m, l⟩ w' := by
  unfold syllogistref_Size at hr
  refine calls_of_Tr (N := 15) Try.func12 rfl hc rfl (Nat.le_of_ble_eq_true rfl) ?_
  refine Tr.seq ?_
  refine Tr.region_f (fun _ => false) ?_
  refine W.q rfl rfl rfl rfl (by decide) (Yd.as rfl .c) ?_
  refine W.end ?_
  refine NX.sub (env' := [(0, _)]) ⟨rfl, trivial⟩ ?_
  refine NX.then ?_
  refine Tr.seq ?_
  refine Tr.region_f (fun _ => false) ?_
  refine W.q rfl rfl rfl rfl (by decide) (Yd.as rfl .c) ?_
  refine W.end ?_
  refine NX.sub (env' := [(0, _), (3, _)]) ⟨rfl, rfl, trivial⟩ ?_
  refine NX.then ?_
  refine Tr.seq ?_
  refine Tr.seq ?_
  refine Tr.region_f (fun _ => false) ?_
  refine W.q rfl rfl rfl rfl (by decide) (Yd.as rfl .c) ?_
  refine W.end ?_
  refine NX.sub (env' := [(0, _), (3, _), (4, _)]) ⟨rfl, rfl, rfl, trivial⟩ ?_
  refine NX.then ?_
  refine Tr.join (S := fun env x => ∃ n_5 : Int, env = [(3, .int .i64 n_5)] ∧ x = ⟨m, l⟩ ∧ syllogistref_Size_k6 n_5 = some r) ?_ (fun hk7 => ?_)
  · rintro _ _ ⟨n_5, rfl, rfl, hr⟩
    unfold syllogistref_Size_k6 at hr
    try dsimp only at hr
    refine NX.then ?_
    refine Tr.seq ?_
    refine Tr.region_f (fun _ => false) ?_
    refine W.q rfl rfl rfl rfl (by decide) (Yd.mv rfl (.t rfl)) ?_
    refine W.q rfl rfl rfl rfl (by decide) (Yd.as rfl (.t rfl)) ?_
    refine W.end ?_
    refine NX.sub (env' := [(2, _)]) ⟨rfl, trivial⟩ ?_
    refine NX.then ?_
    refine Tr.ret' ?_
    refine res1 rfl rfl ?_
    intro w hc
    cases hr
    exact ⟨rfl, hc⟩
  refine Tr.block ?_
  refine Tr.sub (env' := [(0, _), (3, _), (4, _)]) ⟨rfl, rfl, rfl, trivial⟩ ?_
  refine Tr.loop (S := fun n (z : Int × Int) env x => match z with | (i_8, n_3) => env = [(0, .int .u32 (w_0.toNat : Int)), (3, .int .i64 n_3), (4, .int .i64 i_8)] ∧ x = ⟨m, l⟩ ∧ n = ((32 : Int) - i_8).toNat ∧ 0 ≤ i_8 ∧ forK (σ := Int) (fun i s nx_ => syllogistref_Size_b9 w_0 i s nx_) (fun s => syllogistref_Size_k6 s) n i_8 n_3 = some r) _ ((0 : Int), (0 : Int)) ⟨rfl, rfl, rfl, (by omega), hr⟩ ?_
  rintro n11 ⟨i_8, n_3⟩ env x ⟨rfl, rfl, hni_8, h0i_8, hr⟩
  cases n11 with
  | zero =>
    simp only [forK] at hr
    refine Tr.seq ?_
    refine Tr.seq ?_
    refine Tr.region_f (fun _ => false) ?_
    refine W.q rfl rfl rfl rfl (by decide) (Yd.mv rfl (.t rfl)) ?_
    refine W.q rfl rfl rfl rfl (by decide) (Yd.lss rfl (.t rfl) .c) ?_
    refine W.end ?_
    refine NX.sub (env' := [(0, _), (3, _), (4, _), (6, _)]) ⟨rfl, rfl, rfl, rfl, trivial⟩ ?_
    refine NX.then ?_
    refine Tr.cond (.t rfl) (fun hb => ?_) (fun hb => ?_)
    · exact absurd (hb.symm.trans (fr_end hni_8)) (by decide)
    ·
      refine Tr.exit' (EX.then (EX.then (EX.block ?_)))
      refine NX.sub (env' := [(3, _)]) ⟨rfl, trivial⟩ ?_
      exact hk7 _ _ ⟨_, rfl, rfl, hr⟩
  | succ n11 =>
    obtain ⟨nx10, hnx10, hr⟩ := forK_succ hr
    try dsimp only at hr
    unfold syllogistref_Size_b9 at hr
    try dsimp only at hr
    have hlti_8 := fr_bnd hni_8
    refine Tr.seq ?_
    refine Tr.seq ?_
    refine Tr.region_f (fun _ => false) ?_
    refine W.q rfl rfl rfl rfl (by decide) (Yd.mv rfl (.t rfl)) ?_
    refine W.q rfl rfl rfl rfl (by decide) (Yd.lss rfl (.t rfl) .c) ?_
    refine W.end ?_
    refine NX.sub (env' := [(0, _), (3, _), (4, _), (6, _)]) ⟨rfl, rfl, rfl, rfl, trivial⟩ ?_
    refine NX.then ?_
    refine Tr.cond (.t rfl) (fun hb => ?_) (fun hb => ?_)
    rotate_left
    · exact absurd (hb.symm.trans (fr_go hni_8)) (by decide)
    ·
      refine Tr.skip' ?_
      refine NX.then ?_
      refine Tr.seq ?_
      refine Tr.block ?_
      refine Tr.seq ?_
      obtain ⟨r12, hr13, hr⟩ := bind_some hr
      refine Tr.region_f (fun _ => false) ?_
      refine W.q rfl rfl rfl rfl (by decide) (Yd.mv rfl (.t rfl)) ?_
      refine W.q rfl rfl rfl rfl (by decide) (Yd.mv rfl (.t rfl)) ?_
      refine W.q rfl rfl rfl rfl (by decide) (Yd.call (v := .bool r12) rfl Try.func16 rfl rfl (.cons (.t rfl) (.cons (.t rfl) .nil)) (fun x' hx w hw => syllogistref_Bit_ok w0 x'.m x'.l w_0 i_8 _ hr13 w hw)) ?_
      refine W.end ?_
      refine NX.sub (env' := [(0, _), (3, _), (4, _), (11, _)]) ⟨rfl, rfl, rfl, rfl, trivial⟩ ?_
      refine NX.then ?_
      refine Tr.cond (.t rfl) (fun hb => ?_) (fun hb => ?_)
      · have hr := cond_t hb hr
        refine Tr.region_f (fun _ => false) ?_
        refine W.q rfl rfl rfl rfl (by decide) (Yd.mv rfl (.t rfl)) ?_
        refine W.q rfl rfl rfl rfl (by decide) (Yd.add rfl (.t rfl) .c) ?_
        refine W.q rfl rfl rfl rfl (by decide) (Yd.as rfl (.t rfl)) ?_
        refine W.end ?_
        refine NX.sub (env' := [(0, _), (3, _), (4, _)]) ⟨rfl, rfl, rfl, trivial⟩ ?_
        refine NX.block ?_
        refine NX.then ?_
        refine Tr.region_f (fun _ => false) ?_
        refine W.q rfl rfl rfl rfl (by decide) (Yd.mv rfl (.t rfl)) ?_
        refine W.q rfl rfl rfl rfl (by decide) (Yd.add rfl (.t rfl) .c) ?_
        refine W.q rfl rfl rfl rfl (by decide) (Yd.as rfl (.t rfl)) ?_
        refine W.end ?_
        refine NX.sub (env' := [(0, _), (3, _), (4, _)]) ⟨rfl, rfl, rfl, trivial⟩ ?_
        refine NX.sub (env' := [(0, _), (3, _), (4, _)]) ⟨rfl, rfl, rfl, trivial⟩ ?_
        have hw := w64_id (n := i_8 + 1) (by omega) (by omega)
        exact NX.again n11 (i_8 + 1, (w64 (n_3 + (1 : Int)))) (Nat.lt_succ_self _) ⟨(by rw [hw] <;> rfl), rfl, (fr_dec hni_8), (by omega), ((hnx10 _).symm.trans hr)⟩
      · have hr := cond_f hb hr
        refine Tr.skip' ?_
        refine NX.block ?_
        refine NX.then ?_
        refine Tr.region_f (fun _ => false) ?_
        refine W.q rfl rfl rfl rfl (by decide) (Yd.mv rfl (.t rfl)) ?_
        refine W.q rfl rfl rfl rfl (by decide) (Yd.add rfl (.t rfl) .c) ?_
        refine W.q rfl rfl rfl rfl (by decide) (Yd.as rfl (.t rfl)) ?_
        refine W.end ?_
        refine NX.sub (env' := [(0, _), (3, _), (4, _)]) ⟨rfl, rfl, rfl, trivial⟩ ?_
        refine NX.sub (env' := [(0, _), (3, _), (4, _)]) ⟨rfl, rfl, rfl, trivial⟩ ?_
        have hw := w64_id (n := i_8 + 1) (by omega) (by omega)
        exact NX.again n11 (i_8 + 1, n_3) (Nat.lt_succ_self _) ⟨(by rw [hw] <;> rfl), rfl, (fr_dec hni_8), (by omega), ((hnx10 _).symm.trans hr)⟩

def syllogistref_Close_k6 (out_5 : BitVec 32) : Option ((BitVec 32)) :=
  some out_5

def syllogistref_Close_b9 (rules_1 : List Rule) (s_2 : (BitVec 32)) (c_8 : BitVec 32) (out_3 : BitVec 32) (nx10 : (BitVec 32) → Option ((BitVec 32))) : Option ((BitVec 32)) :=
  (syllogistref_In s_2 c_8).bind fun r12 =>
  bif (!(r12 == true) || (syllogistref_Closed rules_1 c_8).isSome) then
  (bif (r12 && (((syllogistref_Closed rules_1 c_8).getD false))) then
  nx10 (out_3 &&& c_8)
  else
  nx10 out_3) else none

def syllogistref_Close (n_0 : Int) (rules_1 : List Rule) (s_2 : (BitVec 32)) : Option ((BitVec 32)) :=
  forK (σ := (BitVec 32)) (fun i s nx_ => syllogistref_Close_b9 rules_1 s_2 i s nx_) (fun s => syllogistref_Close_k6 s) (((1#32 <<< ((BitVec.ofInt 64 n_0)).toNat)).toNat - (0#32).toNat) 0#32 (((1#32 <<< ((BitVec.ofInt 64 n_0)).toNat) - 1#32))

set_option maxRecDepth 100000 in
set_option maxHeartbeats 4000000 in
theorem syllogistref_Close_ok (w0 : World) (m : Snap) (l : List HI) (n_0 : Int) (urules_1 : Value) (rules_1 : List Rule) (hrules_1 : RS rRule m urules_1 rules_1) (s_2 : (BitVec 32)) (r : (BitVec 32)) (hr : syllogistref_Close n_0 rules_1 s_2 = some r) (w : World) (hc : cX w0 ⟨m, l⟩ w) :
    Calls Try.prog 15 [.int .i64 n_0, urules_1, .int .u32 (s_2.toNat : Int)].toArray w fun e w' => e = .returned (.int .u32 (r.toNat : Int)) ∧ cX w0 ⟨m, l⟩ w' := by
  unfold syllogistref_Close at hr
  refine calls_of_Tr (N := 32) Try.func15 rfl hc rfl (Nat.le_of_ble_eq_true rfl) ?_
  refine Tr.seq ?_
  refine Tr.region_f (fun _ => false) ?_
  refine W.q rfl rfl rfl rfl (by decide) (Yd.as rfl .c) ?_
  refine W.end ?_
  refine NX.sub (env' := [(0, _), (1, _), (2, _)]) ⟨rfl, rfl, rfl, trivial⟩ ?_
  refine NX.then ?_
  refine Tr.seq ?_
  refine Tr.region_f (fun _ => false) ?_
  refine W.q rfl rfl rfl rfl (by decide) (Yd.mv rfl (.t rfl)) ?_
  refine W.q rfl rfl rfl rfl (by decide) (Yd.cvQ rfl US3 Try.underlying35 (.t rfl)) ?_
  refine W.q rfl rfl rfl rfl (by decide) (Yd.shlU (a := 1#32) rfl .c (.t rfl) (Int.natCast_nonneg _)) ?_
  refine W.q rfl rfl rfl rfl (by decide) (Yd.subU (a := (1#32 <<< ((BitVec.ofInt 64 n_0)).toNat)) (b := 1#32) rfl (.t rfl) .c) ?_
  refine W.q rfl rfl rfl rfl (by decide) (Yd.as rfl (.t rfl)) ?_
  refine W.end ?_
  refine NX.sub (env' := [(0, _), (1, _), (2, _), (7, _)]) ⟨rfl, rfl, rfl, rfl, trivial⟩ ?_
  refine NX.then ?_
  refine Tr.seq ?_
  refine Tr.seq ?_
  refine Tr.region_f (fun _ => false) ?_
  refine W.q rfl rfl rfl rfl (by decide) (Yd.as rfl .c) ?_
  refine W.end ?_
  refine NX.sub (env' := [(0, _), (1, _), (2, _), (7, _), (8, _)]) ⟨rfl, rfl, rfl, rfl, rfl, trivial⟩ ?_
  refine NX.then ?_
  refine Tr.join (S := fun env x => ∃ out_5 : BitVec 32, env = [(7, .int .u32 (out_5.toNat : Int))] ∧ x = ⟨m, l⟩ ∧ syllogistref_Close_k6 out_5 = some r) ?_ (fun hk7 => ?_)
  · rintro _ _ ⟨out_5, rfl, rfl, hr⟩
    unfold syllogistref_Close_k6 at hr
    try dsimp only at hr
    refine NX.then ?_
    refine Tr.seq ?_
    refine Tr.region_f (fun _ => false) ?_
    refine W.q rfl rfl rfl rfl (by decide) (Yd.mv rfl (.t rfl)) ?_
    refine W.q rfl rfl rfl rfl (by decide) (Yd.as rfl (.t rfl)) ?_
    refine W.end ?_
    refine NX.sub (env' := [(6, _)]) ⟨rfl, trivial⟩ ?_
    refine NX.then ?_
    refine Tr.ret' ?_
    refine res1 rfl rfl ?_
    intro w hc
    cases hr
    exact ⟨rfl, hc⟩
  refine Tr.block ?_
  refine Tr.sub (env' := [(0, _), (1, _), (2, _), (7, _), (8, _)]) ⟨rfl, rfl, rfl, rfl, rfl, trivial⟩ ?_
  refine Tr.loop (S := fun n (z : BitVec 32 × (BitVec 32)) env x => match z with | (c_8, out_3) => env = [(0, .int .i64 n_0), (1, urules_1), (2, .int .u32 (s_2.toNat : Int)), (7, .int .u32 (out_3.toNat : Int)), (8, .int .u32 (c_8.toNat : Int))] ∧ x = ⟨m, l⟩ ∧ n = ((1#32 <<< ((BitVec.ofInt 64 n_0)).toNat)).toNat - c_8.toNat ∧ forK (σ := (BitVec 32)) (fun i s nx_ => syllogistref_Close_b9 rules_1 s_2 i s nx_) (fun s => syllogistref_Close_k6 s) n c_8 out_3 = some r) _ (0#32, ((1#32 <<< ((BitVec.ofInt 64 n_0)).toNat) - 1#32)) ⟨rfl, rfl, rfl, hr⟩ ?_
  rintro n11 ⟨c_8, out_3⟩ env x ⟨rfl, rfl, hnc_8, hr⟩
  cases n11 with
  | zero =>
    simp only [forK] at hr
    refine Tr.seq ?_
    refine Tr.seq ?_
    refine Tr.region_f (fun _ => false) ?_
    refine W.q rfl rfl rfl rfl (by decide) (Yd.mv rfl (.t rfl)) ?_
    refine W.q rfl rfl rfl rfl (by decide) (Yd.mv rfl (.t rfl)) ?_
    refine W.q rfl rfl rfl rfl (by decide) (Yd.cvQ rfl US3 Try.underlying35 (.t rfl)) ?_
    refine W.q rfl rfl rfl rfl (by decide) (Yd.shlU (a := 1#32) rfl .c (.t rfl) (Int.natCast_nonneg _)) ?_
    refine W.q rfl rfl rfl rfl (by decide) (Yd.lssU (a := c_8) (b := (1#32 <<< ((BitVec.ofInt 64 n_0)).toNat)) rfl (.t rfl) (.t rfl)) ?_
    refine W.end ?_
    refine NX.sub (env' := [(0, _), (1, _), (2, _), (7, _), (8, _), (17, _)]) ⟨rfl, rfl, rfl, rfl, rfl, rfl, trivial⟩ ?_
    refine NX.then ?_
    refine Tr.cond (.t rfl) (fun hb => ?_) (fun hb => ?_)
    · exact absurd (hb.symm.trans (fu_end hnc_8)) (by decide)
    ·
      refine Tr.exit' (EX.then (EX.then (EX.block ?_)))
      refine NX.sub (env' := [(7, _)]) ⟨rfl, trivial⟩ ?_
      exact hk7 _ _ ⟨_, rfl, rfl, hr⟩
  | succ n11 =>
    obtain ⟨nx10, hnx10, hr⟩ := forK_succ hr
    try dsimp only at hr
    unfold syllogistref_Close_b9 at hr
    try dsimp only at hr
    refine Tr.seq ?_
    refine Tr.seq ?_
    refine Tr.region_f (fun _ => false) ?_
    refine W.q rfl rfl rfl rfl (by decide) (Yd.mv rfl (.t rfl)) ?_
    refine W.q rfl rfl rfl rfl (by decide) (Yd.mv rfl (.t rfl)) ?_
    refine W.q rfl rfl rfl rfl (by decide) (Yd.cvQ rfl US3 Try.underlying35 (.t rfl)) ?_
    refine W.q rfl rfl rfl rfl (by decide) (Yd.shlU (a := 1#32) rfl .c (.t rfl) (Int.natCast_nonneg _)) ?_
    refine W.q rfl rfl rfl rfl (by decide) (Yd.lssU (a := c_8) (b := (1#32 <<< ((BitVec.ofInt 64 n_0)).toNat)) rfl (.t rfl) (.t rfl)) ?_
    refine W.end ?_
    refine NX.sub (env' := [(0, _), (1, _), (2, _), (7, _), (8, _), (17, _)]) ⟨rfl, rfl, rfl, rfl, rfl, rfl, trivial⟩ ?_
    refine NX.then ?_
    refine Tr.cond (.t rfl) (fun hb => ?_) (fun hb => ?_)
    rotate_left
    · exact absurd (hb.symm.trans (fu_go hnc_8)) (by decide)
    ·
      refine Tr.skip' ?_
      refine NX.then ?_
      refine Tr.seq ?_
      refine Tr.block ?_
      refine Tr.seq ?_
      obtain ⟨r12, hr13, hr⟩ := bind_some hr
      obtain ⟨ha14, hr⟩ := guard_some hr
      refine Tr.region_f (fun _ => false) ?_
      refine W.q rfl rfl rfl rfl (by decide) (Yd.mv rfl (.t rfl)) ?_
      refine W.q rfl rfl rfl rfl (by decide) (Yd.mv rfl (.t rfl)) ?_
      refine W.q rfl rfl rfl rfl (by decide) (Yd.call (v := .bool r12) rfl Try.func14 rfl rfl (.cons (.t rfl) (.cons (.t rfl) .nil)) (fun x' hx w hw => syllogistref_In_ok w0 x'.m x'.l s_2 c_8 _ hr13 w hw)) ?_
      refine W.q rfl rfl rfl rfl (by decide) (Yd.mv rfl (.t rfl)) ?_
      refine W.g rfl rfl rfl rfl rfl (.t rfl _) rfl (by decide) (fun hG => Yd.mv rfl (.t rfl)) ?_
      refine W.g rfl rfl rfl rfl rfl (.t rfl _) rfl (by decide) (fun hG => Yd.mv rfl (.t rfl)) ?_
      refine W.g rfl rfl rfl rfl rfl (.t rfl _) rfl (by decide) (fun hG => Yd.call (v := .bool ((((syllogistref_Closed rules_1 c_8).getD false)))) rfl Try.func11 rfl rfl (.cons (.g rfl hG) (.cons (.g rfl hG) .nil)) (fun x' hx w hw => syllogistref_Closed_ok w0 x'.m x'.l _ _ (hrules_1.mono hx.1) c_8 _ (gd_get (d := false) ha14 hG) w hw)) ?_
      refine W.q rfl rfl rfl rfl (by decide) (Yd.and rfl (.t rfl) .c rfl rfl) ?_
      refine W.end ?_
      refine NX.sub (env' := [(0, _), (1, _), (2, _), (7, _), (8, _), (27, _)]) ⟨rfl, rfl, rfl, rfl, rfl, rfl, trivial⟩ ?_
      refine NX.then ?_
      refine Tr.cond (.t rfl) (fun hb => ?_) (fun hb => ?_)
      · have hr := cond_t hb hr
        refine Tr.region_f (fun _ => false) ?_
        refine W.q rfl rfl rfl rfl (by decide) (Yd.mv rfl (.t rfl)) ?_
        refine W.q rfl rfl rfl rfl (by decide) (Yd.mv rfl (.t rfl)) ?_
        refine W.q rfl rfl rfl rfl (by decide) (Yd.andU (a := out_3) (b := c_8) rfl (.t rfl) (.t rfl)) ?_
        refine W.q rfl rfl rfl rfl (by decide) (Yd.as rfl (.t rfl)) ?_
        refine W.end ?_
        refine NX.sub (env' := [(0, _), (1, _), (2, _), (7, _), (8, _)]) ⟨rfl, rfl, rfl, rfl, rfl, trivial⟩ ?_
        refine NX.block ?_
        refine NX.then ?_
        refine Tr.region_f (fun _ => false) ?_
        refine W.q rfl rfl rfl rfl (by decide) (Yd.mv rfl (.t rfl)) ?_
        refine W.q rfl rfl rfl rfl (by decide) (Yd.addU (a := c_8) (b := 1#32) rfl (.t rfl) .c) ?_
        refine W.q rfl rfl rfl rfl (by decide) (Yd.as rfl (.t rfl)) ?_
        refine W.end ?_
        refine NX.sub (env' := [(0, _), (1, _), (2, _), (7, _), (8, _)]) ⟨rfl, rfl, rfl, rfl, rfl, trivial⟩ ?_
        refine NX.sub (env' := [(0, _), (1, _), (2, _), (7, _), (8, _)]) ⟨rfl, rfl, rfl, rfl, rfl, trivial⟩ ?_
        exact NX.again n11 (c_8 + 1, (out_3 &&& c_8)) (Nat.lt_succ_self _) ⟨rfl, rfl, (fu_dec hnc_8), ((hnx10 _).symm.trans hr)⟩
      · have hr := cond_f hb hr
        refine Tr.skip' ?_
        refine NX.block ?_
        refine NX.then ?_
        refine Tr.region_f (fun _ => false) ?_
        refine W.q rfl rfl rfl rfl (by decide) (Yd.mv rfl (.t rfl)) ?_
        refine W.q rfl rfl rfl rfl (by decide) (Yd.addU (a := c_8) (b := 1#32) rfl (.t rfl) .c) ?_
        refine W.q rfl rfl rfl rfl (by decide) (Yd.as rfl (.t rfl)) ?_
        refine W.end ?_
        refine NX.sub (env' := [(0, _), (1, _), (2, _), (7, _), (8, _)]) ⟨rfl, rfl, rfl, rfl, rfl, trivial⟩ ?_
        refine NX.sub (env' := [(0, _), (1, _), (2, _), (7, _), (8, _)]) ⟨rfl, rfl, rfl, rfl, rfl, trivial⟩ ?_
        exact NX.again n11 (c_8 + 1, out_3) (Nat.lt_succ_self _) ⟨rfl, rfl, (fu_dec hnc_8), ((hnx10 _).symm.trans hr)⟩

def syllogistlaw_FollowLeasts_k14 (r1 : (List Rule) × Int) : Option (Bool) :=
  some ((r1.2 == (0 : Int)))

def syllogistlaw_FollowLeasts_k50 (nx19 : (Unit → Option (Bool))) : Option (Bool) :=
  nx19 ()

def syllogistlaw_FollowLeasts_b54 (n_0 : Int) (r1 : (List Rule) × Int) (y21 : Rule) (i_53 : Int) (nx55 : Unit → Option (Bool)) : Option (Bool) :=
  (syllogistref_Bit y21.cond i_53).bind fun r57 =>
  bif (!(r57 == true) || (syllogistref_Close n_0 r1.1 ((y21.cond - (1#32 <<< ((BitVec.ofInt 64 i_53)).toNat)))).isSome) then
  bif (!(r57 == true) || (syllogistref_In y21.thn ((((syllogistref_Close n_0 r1.1 ((y21.cond - (1#32 <<< ((BitVec.ofInt 64 i_53)).toNat)))).getD (0#32))))).isSome) then
  (bif (r57 && (((syllogistref_In y21.thn ((((syllogistref_Close n_0 r1.1 ((y21.cond - (1#32 <<< ((BitVec.ofInt 64 i_53)).toNat)))).getD (0#32))))).getD false))) then
  some false
  else
  nx55 ()) else none else none

def syllogistlaw_FollowLeasts_b18 (n_0 : Int) (r1 : (List Rule) × Int) (t_17 : Int) (nx19 : Unit → Option (Bool)) : Option (Bool) :=
  (geti r1.1 t_17).bind fun y21 =>
  (syllogistref_Size y21.thn).bind fun r25 =>
  bif (!(((r25 != (1 : Int)) || ((y21.cond &&& y21.thn) != 0#32)) == false) || (syllogistref_Fits n_0 ((y21.cond ||| y21.thn))).isSome) then
  (bif (((r25 != (1 : Int)) || ((y21.cond &&& y21.thn) != 0#32)) || (!(((syllogistref_Fits n_0 ((y21.cond ||| y21.thn))).getD false)))) then
  some false
  else
  bif decide (0 ≤ t_17 ∧ t_17 ≤ (r1.1.length : Int)) then
  bif decide (0 ≤ (w64 (t_17 + (1 : Int))) ∧ (w64 (t_17 + (1 : Int))) ≤ (r1.1.length : Int)) then
  bif decide ((([] : List Rule)).length + ((r1.1.take t_17.toNat)).length ≤ 17592186044416) then
  bif decide (((([] : List Rule) ++ (r1.1.take t_17.toNat))).length + ((r1.1.drop ((w64 (t_17 + (1 : Int)))).toNat)).length ≤ 17592186044416) then
  (syllogistref_Close n_0 (((([] : List Rule) ++ (r1.1.take t_17.toNat)) ++ (r1.1.drop ((w64 (t_17 + (1 : Int)))).toNat))) y21.cond).bind fun r44 =>
  (syllogistref_In y21.thn r44).bind fun r46 =>
  (bif r46 then
  some false
  else
  bif decide (n_0 ≤ 9223372036854775807) then
  forK (σ := Unit) (fun i s nx_ => syllogistlaw_FollowLeasts_b54 n_0 r1 y21 i nx_) (fun _ => syllogistlaw_FollowLeasts_k50 nx19) (n_0 - (0 : Int)).toNat (0 : Int) () else none) else none else none else none else none) else none

def syllogistlaw_FollowLeasts_k10 (n_0 : Int) (r1 : (List Rule) × Int) : Option (Bool) :=
  forK (σ := Unit) (fun i s nx_ => syllogistlaw_FollowLeasts_b18 n_0 r1 i nx_) (fun _ => syllogistlaw_FollowLeasts_k14 r1) ((r1.1.length : Int) - (0 : Int)).toNat (0 : Int) ()

def syllogistlaw_FollowLeasts_b62 (rules_1 : List Rule) (r1 : (List Rule) × Int) (s_61 : BitVec 32) (nx63 : Unit → Option (Bool)) : Option (Bool) :=
  (syllogistref_Closed rules_1 s_61).bind fun r65 =>
  (syllogistref_Closed r1.1 s_61).bind fun r67 =>
  (bif (r65 != r67) then
  some false
  else
  nx63 ())

def syllogistlaw_FollowLeasts (fuel : Nat) (n_0 : Int) (rules_1 : List Rule) : Option (Bool) :=
  (follow_Least fuel n_0 rules_1).bind fun r1 =>
  (syllogistref_RulesCheck n_0 rules_1 (0#32)).bind fun r6 =>
  (bif (r6 != (0 : Int)) then
  some (((r1.2 == r6) && ((r1.1.length : Int) == (0 : Int))))
  else
  forK (σ := Unit) (fun i s nx_ => syllogistlaw_FollowLeasts_b62 rules_1 r1 i nx_) (fun _ => syllogistlaw_FollowLeasts_k10 n_0 r1) (((1#32 <<< ((BitVec.ofInt 64 n_0)).toNat)).toNat - (0#32).toNat) 0#32 ())

set_option maxRecDepth 100000 in
set_option maxHeartbeats 4000000 in
theorem syllogistlaw_FollowLeasts_ok (w0 : World) (m : Snap) (l : List HI) (fuel : Nat) (n_0 : Int) (urules_1 : Value) (rules_1 : List Rule) (hrules_1 : RS rRule m urules_1 rules_1) (r : Bool) (hr : syllogistlaw_FollowLeasts fuel n_0 rules_1 = some r) (w : World) (hc : cX w0 ⟨m, l⟩ w) :
    Calls Try.prog 4 [.int .i64 n_0, urules_1].toArray w fun e w' => e = .returned (.bool r) ∧ cX w0 ⟨m, l⟩ w' := by
  unfold syllogistlaw_FollowLeasts at hr
  refine calls_of_Tr (N := 121) Try.func4 rfl hc rfl (Nat.le_of_ble_eq_true rfl) ?_
  refine Tr.seq ?_
  refine Tr.region_f (fun _ => false) ?_
  refine W.q rfl rfl rfl rfl (by decide) (Yd.as rfl .c) ?_
  refine W.end ?_
  refine NX.sub (env' := [(0, _), (1, _)]) ⟨rfl, rfl, trivial⟩ ?_
  refine NX.then ?_
  refine Tr.seq ?_
  obtain ⟨r1, hr2, hr⟩ := bind_some hr
  refine Tr.region_f (fun i => Nat.beq i 2) ?_
  refine W.q rfl rfl rfl rfl (by decide) (Yd.mv rfl (.t rfl)) ?_
  refine W.q rfl rfl rfl rfl (by decide) (Yd.mv rfl (.t rfl)) ?_
  refine W.e rfl rfl rfl rfl (by decide) (Ef.call (R := fun z x' => ∃ u3 : Value, ∃ m4 : Snap, z = .tuple #[u3, .int .i64 r1.2] ∧ x' = ⟨m4, l⟩ ∧ Sle m m4 ∧ RS rRule m4 u3 r1.1) rfl Try.func9 rfl rfl (.cons (.t rfl) (.cons (.t rfl) .nil)) (fun w hw => (follow_Least_ok w0 _ _ fuel n_0 _ _ hrules_1 _ hr2 w hw).mono fun e w' ⟨u3, m4, he, hm', hu5, hc'⟩ => ⟨_, _, he, ⟨u3, m4, rfl, rfl, hm', hu5⟩, hc'⟩)) ?_
  rintro _ _ ⟨u3, m4, rfl, rfl, hsm4, hu5⟩
  have hrules_1 := hrules_1.mono hsm4
  refine ⟨.inl rfl, ?_⟩
  refine W.cast (m' := m4) (l' := l) rfl rfl ?_
  refine W.q rfl rfl rfl rfl (by decide) (Yd.mv rfl (.t rfl)) ?_
  refine W.q rfl rfl rfl rfl (by decide) (Yd.ext rfl (.t rfl) rfl) ?_
  refine W.q rfl rfl rfl rfl (by decide) (Yd.ext rfl (.t rfl) rfl) ?_
  refine W.q rfl rfl rfl rfl (by decide) (Yd.as rfl (.t rfl)) ?_
  refine W.q rfl rfl rfl rfl (by decide) (Yd.as rfl (.t rfl)) ?_
  refine W.end ?_
  refine NX.sub (env' := [(0, _), (1, _), (5, _), (6, _)]) ⟨rfl, rfl, rfl, rfl, trivial⟩ ?_
  refine NX.then ?_
  refine Tr.seq ?_
  obtain ⟨r6, hr7, hr⟩ := bind_some hr
  refine Tr.region_f (fun _ => false) ?_
  refine W.q rfl rfl rfl rfl (by decide) (Yd.mv rfl (.t rfl)) ?_
  refine W.q rfl rfl rfl rfl (by decide) (Yd.mv rfl (.t rfl)) ?_
  refine W.q rfl rfl rfl rfl (by decide) (Yd.call (v := .int .i64 r6) rfl Try.func10 rfl rfl (.cons (.t rfl) (.cons (.t rfl) (.cons .c .nil))) (fun x' hx w hw => syllogistref_RulesCheck_ok w0 x'.m x'.l n_0 _ _ (hrules_1.mono hx.1) (0#32) _ hr7 w hw)) ?_
  refine W.q rfl rfl rfl rfl (by decide) (Yd.as rfl (.t rfl)) ?_
  refine W.end ?_
  refine NX.sub (env' := [(0, _), (1, _), (5, _), (6, _), (7, _)]) ⟨rfl, rfl, rfl, rfl, rfl, trivial⟩ ?_
  refine NX.then ?_
  refine Tr.seq ?_
  refine Tr.seq ?_
  refine Tr.region_f (fun _ => false) ?_
  refine W.q rfl rfl rfl rfl (by decide) (Yd.mv rfl (.t rfl)) ?_
  refine W.q rfl rfl rfl rfl (by decide) (Yd.neq rfl (.t rfl) .c) ?_
  refine W.end ?_
  refine NX.sub (env' := [(0, _), (1, _), (5, _), (6, _), (7, _), (23, _)]) ⟨rfl, rfl, rfl, rfl, rfl, rfl, trivial⟩ ?_
  refine NX.then ?_
  refine Tr.cond (.t rfl) (fun hb => ?_) (fun hb => ?_)
  · have hr := cond_t hb hr
    refine Tr.seq ?_
    refine Tr.region_f (fun _ => false) ?_
    refine W.q rfl rfl rfl rfl (by decide) (Yd.mv rfl (.t rfl)) ?_
    refine W.q rfl rfl rfl rfl (by decide) (Yd.mv rfl (.t rfl)) ?_
    refine W.q rfl rfl rfl rfl (by decide) (Yd.eql rfl (.t rfl) (.t rfl)) ?_
    refine W.q rfl rfl rfl rfl (by decide) (Yd.mv rfl (.t rfl)) ?_
    refine W.g rfl rfl rfl rfl rfl (.t rfl _) rfl (by decide) (fun hG => Yd.mv rfl (.t rfl)) ?_
    refine W.g rfl rfl rfl rfl rfl (.t rfl _) rfl (by decide) (fun hG => Yd.lenR hu5 rfl Try.underlying30 (.g rfl hG)) ?_
    refine W.g rfl rfl rfl rfl rfl (.t rfl _) rfl (by decide) (fun hG => Yd.eql rfl (.g rfl hG) .c) ?_
    refine W.q rfl rfl rfl rfl (by decide) (Yd.and rfl (.t rfl) .c rfl rfl) ?_
    refine W.q rfl rfl rfl rfl (by decide) (Yd.as rfl (.t rfl)) ?_
    refine W.end ?_
    refine NX.sub (env' := [(4, _)]) ⟨rfl, trivial⟩ ?_
    refine NX.then ?_
    refine Tr.ret' (RT.then ?_)
    refine res1 rfl rfl ?_
    intro w hc
    cases hr
    exact ⟨rfl, (cX_le (x := ⟨m, _⟩) ⟨hsm4, [], rfl⟩ hc)⟩
  · have hr := cond_f hb hr
    refine Tr.skip' ?_
    refine NX.then ?_
    refine Tr.seq ?_
    refine Tr.seq ?_
    refine Tr.region_f (fun _ => false) ?_
    refine W.q rfl rfl rfl rfl (by decide) (Yd.as rfl .c) ?_
    refine W.end ?_
    refine NX.sub (env' := [(0, _), (1, _), (5, _), (6, _), (8, _)]) ⟨rfl, rfl, rfl, rfl, rfl, trivial⟩ ?_
    refine NX.then ?_
    refine Tr.join (S := fun env x => env = [(0, .int .i64 n_0), (5, u3), (6, .int .i64 r1.2)] ∧ x = ⟨m4, l⟩ ∧ syllogistlaw_FollowLeasts_k10 n_0 r1 = some r) ?_ (fun hk11 => ?_)
    · rintro _ _ ⟨rfl, rfl, hr⟩
      unfold syllogistlaw_FollowLeasts_k10 at hr
      try dsimp only at hr
      refine NX.then ?_
      refine Tr.seq ?_
      refine Tr.seq ?_
      refine Tr.region_f (fun _ => false) ?_
      refine W.q rfl rfl rfl rfl (by decide) (Yd.mv rfl (.t rfl)) ?_
      refine W.q rfl rfl rfl rfl (by decide) (Yd.lenR hu5 rfl Try.underlying30 (.t rfl)) ?_
      refine W.q rfl rfl rfl rfl (by decide) (Yd.mv rfl .c) ?_
      refine W.end ?_
      refine NX.sub (env' := [(0, _), (5, _), (6, _), (46, _), (47, _), (48, _)]) ⟨rfl, rfl, rfl, rfl, rfl, rfl, trivial⟩ ?_
      refine NX.then ?_
      refine Tr.join (S := fun env x => env = [(6, .int .i64 r1.2)] ∧ x = ⟨m4, l⟩ ∧ syllogistlaw_FollowLeasts_k14 r1 = some r) ?_ (fun hk15 => ?_)
      · rintro _ _ ⟨rfl, rfl, hr⟩
        unfold syllogistlaw_FollowLeasts_k14 at hr
        try dsimp only at hr
        refine NX.then ?_
        refine Tr.seq ?_
        refine Tr.region_f (fun _ => false) ?_
        refine W.q rfl rfl rfl rfl (by decide) (Yd.mv rfl (.t rfl)) ?_
        refine W.q rfl rfl rfl rfl (by decide) (Yd.eql rfl (.t rfl) .c) ?_
        refine W.q rfl rfl rfl rfl (by decide) (Yd.mv rfl (.t rfl)) ?_
        refine W.q rfl rfl rfl rfl (by decide) (Yd.pkc rfl (.t rfl) .c .c) ?_
        refine W.q rfl rfl rfl rfl (by decide) (Yd.as rfl (.t rfl)) ?_
        refine W.end ?_
        refine NX.sub (env' := [(4, _)]) ⟨rfl, trivial⟩ ?_
        refine NX.then ?_
        refine Tr.ret' ?_
        refine res1 rfl rfl ?_
        intro w hc
        cases hr
        exact ⟨rfl, (cX_le (x := ⟨m, _⟩) ⟨hsm4, [], rfl⟩ hc)⟩
      have hlen16 := (hu5).2.1
      refine Tr.block ?_
      refine Tr.sub (env' := [(0, _), (5, _), (6, _), (46, _), (47, _), (48, _)]) ⟨rfl, rfl, rfl, rfl, rfl, rfl, trivial⟩ ?_
      refine Tr.loop (S := fun n (z : Int × Unit) env x => match z with | (t_17, _) => env = [(0, .int .i64 n_0), (5, u3), (6, .int .i64 r1.2), (46, u3), (47, .int .i64 ((r1.1.length : Int))), (48, .int .i64 t_17)] ∧ x = ⟨m4, l⟩ ∧ n = ((r1.1.length : Int) - t_17).toNat ∧ 0 ≤ t_17 ∧ forK (σ := Unit) (fun i s nx_ => syllogistlaw_FollowLeasts_b18 n_0 r1 i nx_) (fun _ => syllogistlaw_FollowLeasts_k14 r1) n t_17 () = some r) _ ((0 : Int), ()) ⟨rfl, rfl, rfl, (by omega), hr⟩ ?_
      rintro n20 ⟨t_17, _⟩ env x ⟨rfl, rfl, hnt_17, h0t_17, hr⟩
      cases n20 with
      | zero =>
        simp only [forK] at hr
        refine Tr.seq ?_
        refine Tr.region_f (fun _ => false) ?_
        refine W.q rfl rfl rfl rfl (by decide) (Yd.lss rfl (.t rfl) (.t rfl)) ?_
        refine W.end ?_
        refine NX.sub (env' := [(0, _), (5, _), (6, _), (46, _), (47, _), (48, _), (49, _)]) ⟨rfl, rfl, rfl, rfl, rfl, rfl, rfl, trivial⟩ ?_
        refine NX.then ?_
        refine Tr.seq ?_
        refine Tr.cond (.t rfl) (fun hb => ?_) (fun hb => ?_)
        · exact absurd (hb.symm.trans (fr_end hnt_17)) (by decide)
        ·
          refine Tr.exit' (EX.then (EX.then (EX.block ?_)))
          refine NX.sub (env' := [(6, _)]) ⟨rfl, trivial⟩ ?_
          exact hk15 _ _ ⟨rfl, rfl, hr⟩
      | succ n20 =>
        obtain ⟨nx19, hnx19, hr⟩ := forK_succ hr
        try dsimp only at hr
        unfold syllogistlaw_FollowLeasts_b18 at hr
        try dsimp only at hr
        have hltt_17 := fr_bnd hnt_17
        refine Tr.seq ?_
        refine Tr.region_f (fun _ => false) ?_
        refine W.q rfl rfl rfl rfl (by decide) (Yd.lss rfl (.t rfl) (.t rfl)) ?_
        refine W.end ?_
        refine NX.sub (env' := [(0, _), (5, _), (6, _), (46, _), (47, _), (48, _), (49, _)]) ⟨rfl, rfl, rfl, rfl, rfl, rfl, rfl, trivial⟩ ?_
        refine NX.then ?_
        refine Tr.seq ?_
        refine Tr.cond (.t rfl) (fun hb => ?_) (fun hb => ?_)
        rotate_left
        · exact absurd (hb.symm.trans (fr_go hnt_17)) (by decide)
        ·
          refine Tr.skip' ?_
          refine NX.then ?_
          refine Tr.seq ?_
          refine Tr.block ?_
          refine Tr.seq ?_
          obtain ⟨y21, hy22, hr⟩ := bind_some hr
          refine Tr.region_f (fun i => Nat.beq i 3 || Nat.beq i 5) ?_
          refine W.q rfl rfl rfl rfl (by decide) (Yd.mv rfl (.t rfl)) ?_
          refine W.q rfl rfl rfl rfl (by decide) (Yd.idxR hu5 hy22 rfl Try.underlying30 SZ38 (.t rfl) (.t rfl)) ?_
          refine W.q rfl rfl rfl rfl (by decide) (Yd.ldFs (us := [_, _]) hu5 (.refl _) hy22 rfl rfl ON38 US38 SZ38 (.t rfl)) ?_
          refine W.e rfl rfl rfl rfl (by decide) (Ef.al rfl ZR38 rfl) ?_
          rintro _ _ ⟨b23, rfl, rfl⟩
          refine ⟨.inl rfl, ?_⟩
          refine W.cast (m' := m4) (l' := hcells b23 [_, _] 38 :: l) rfl rfl ?_
          refine W.q rfl rfl rfl rfl (by decide) (Yd.as rfl (.t rfl)) ?_
          refine W.s rfl rfl rfl rfl (Ef.stB (pos := 0) (us := [_, _]) (cs' := [_, _]) rfl rfl (.t rfl) (.t rfl) SZ38 rfl rfl rfl (Nat.le_of_ble_eq_true rfl) rfl) ?_
          rintro _ _ ⟨rfl, rfl⟩
          refine ⟨.inl rfl, ?_⟩
          refine W.cast (m' := m4) (l' := hcells b23 [_, _] 38 :: l) rfl rfl ?_
          refine W.end ?_
          refine NX.sub (env' := [(0, _), (5, _), (6, _), (46, _), (47, _), (48, _), (10, _), (9, _)]) ⟨rfl, rfl, rfl, rfl, rfl, rfl, rfl, rfl, trivial⟩ ?_
          refine NX.then ?_
          refine Tr.seq ?_
          refine Tr.seq ?_
          obtain ⟨r25, hr26, hr⟩ := bind_some hr
          obtain ⟨ha27, hr⟩ := guard_some hr
          refine Tr.region_f (fun _ => false) ?_
          refine W.q rfl rfl rfl rfl (by decide) (Yd.fldB rfl Try.underlying38 rfl SZ34 rfl (.t rfl)) ?_
          refine W.q rfl rfl rfl rfl (by decide) (Yd.ldB (pos := 0) rfl rfl rfl ON34 (.t rfl)) ?_
          refine W.q rfl rfl rfl rfl (by decide) (Yd.call (v := .int .i64 r25) rfl Try.func12 rfl rfl (.cons (.t rfl) .nil) (fun x' hx w hw => syllogistref_Size_ok w0 x'.m x'.l y21.thn _ hr26 w hw)) ?_
          refine W.q rfl rfl rfl rfl (by decide) (Yd.neq rfl (.t rfl) .c) ?_
          refine W.q rfl rfl rfl rfl (by decide) (Yd.mv rfl (.t rfl)) ?_
          refine W.g rfl rfl rfl rfl rfl (.t rfl _) rfl (by decide) (fun hG => Yd.fldB rfl Try.underlying38 rfl SZ34 rfl (.t rfl)) ?_
          refine W.g rfl rfl rfl rfl rfl (.t rfl _) rfl (by decide) (fun hG => Yd.ldB (pos := 0) rfl rfl rfl ON34 (.g rfl hG)) ?_
          refine W.g rfl rfl rfl rfl rfl (.t rfl _) rfl (by decide) (fun hG => Yd.fldB rfl Try.underlying38 rfl SZ34 rfl (.t rfl)) ?_
          refine W.g rfl rfl rfl rfl rfl (.t rfl _) rfl (by decide) (fun hG => Yd.ldB (pos := 0) rfl rfl rfl ON34 (.g rfl hG)) ?_
          refine W.g rfl rfl rfl rfl rfl (.t rfl _) rfl (by decide) (fun hG => Yd.andU (a := y21.cond) (b := y21.thn) rfl (.g rfl hG) (.g rfl hG)) ?_
          refine W.g rfl rfl rfl rfl rfl (.t rfl _) rfl (by decide) (fun hG => Yd.neqU (a := (y21.cond &&& y21.thn)) (b := 0#32) rfl (.g rfl hG) .c) ?_
          refine W.q rfl rfl rfl rfl (by decide) (Yd.or rfl (.t rfl) .c rfl rfl) ?_
          refine W.q rfl rfl rfl rfl (by decide) (Yd.mv rfl (.t rfl)) ?_
          refine W.g rfl rfl rfl rfl rfl (.t rfl _) rfl (by decide) (fun hG => Yd.mv rfl (.t rfl)) ?_
          refine W.g rfl rfl rfl rfl rfl (.t rfl _) rfl (by decide) (fun hG => Yd.fldB rfl Try.underlying38 rfl SZ34 rfl (.t rfl)) ?_
          refine W.g rfl rfl rfl rfl rfl (.t rfl _) rfl (by decide) (fun hG => Yd.ldB (pos := 0) rfl rfl rfl ON34 (.g rfl hG)) ?_
          refine W.g rfl rfl rfl rfl rfl (.t rfl _) rfl (by decide) (fun hG => Yd.fldB rfl Try.underlying38 rfl SZ34 rfl (.t rfl)) ?_
          refine W.g rfl rfl rfl rfl rfl (.t rfl _) rfl (by decide) (fun hG => Yd.ldB (pos := 0) rfl rfl rfl ON34 (.g rfl hG)) ?_
          refine W.g rfl rfl rfl rfl rfl (.t rfl _) rfl (by decide) (fun hG => Yd.orU (a := y21.cond) (b := y21.thn) rfl (.g rfl hG) (.g rfl hG)) ?_
          refine W.g rfl rfl rfl rfl rfl (.t rfl _) rfl (by decide) (fun hG => Yd.call (v := .bool ((((syllogistref_Fits n_0 ((y21.cond ||| y21.thn))).getD false)))) rfl Try.func13 rfl rfl (.cons (.g rfl hG) (.cons (.g rfl hG) .nil)) (fun x' hx w hw => syllogistref_Fits_ok w0 x'.m x'.l n_0 ((y21.cond ||| y21.thn)) _ (gd_get (d := false) ha27 hG) w hw)) ?_
          refine W.g rfl rfl rfl rfl rfl (.t rfl _) rfl (by decide) (fun hG => Yd.not rfl (.g rfl hG)) ?_
          refine W.q rfl rfl rfl rfl (by decide) (Yd.or rfl (.t rfl) .c rfl rfl) ?_
          refine W.end ?_
          refine NX.sub (env' := [(0, _), (5, _), (6, _), (46, _), (47, _), (48, _), (10, _), (9, _), (74, _)]) ⟨rfl, rfl, rfl, rfl, rfl, rfl, rfl, rfl, rfl, trivial⟩ ?_
          refine NX.then ?_
          refine Tr.cond (.t rfl) (fun hb => ?_) (fun hb => ?_)
          · have hr := cond_t hb hr
            refine Tr.seq ?_
            refine Tr.region_f (fun _ => false) ?_
            refine W.q rfl rfl rfl rfl (by decide) (Yd.as rfl .c) ?_
            refine W.end ?_
            refine NX.sub (env' := [(4, _)]) ⟨rfl, trivial⟩ ?_
            refine NX.drop (l' := l) (.cons _ (.refl _)) ?_
            refine NX.then ?_
            refine Tr.ret' (RT.then (RT.block (RT.then (RT.then (RT.block (RT.then ?_))))))
            refine res1 rfl rfl ?_
            intro w hc
            cases hr
            exact ⟨rfl, (cX_le (x := ⟨m, _⟩) ⟨hsm4, [], rfl⟩ hc)⟩
          · have hr := cond_f hb hr
            refine Tr.skip' ?_
            refine NX.then ?_
            refine Tr.seq ?_
            obtain ⟨hq28, hr⟩ := guard_some hr; replace hq28 := of_decide_eq_true hq28
            obtain ⟨hq30, hr⟩ := guard_some hr; replace hq30 := of_decide_eq_true hq30
            obtain ⟨hq35, hr⟩ := guard_some hr; replace hq35 := of_decide_eq_true hq35
            obtain ⟨hq37, hr⟩ := guard_some hr; replace hq37 := of_decide_eq_true hq37
            refine Tr.region_x (fun i => Nat.beq i 0 || Nat.beq i 4 || Nat.beq i 9) (fun i => Nat.beq i 4 || Nat.beq i 5 || Nat.beq i 6 || Nat.beq i 7 || Nat.beq i 8 || Nat.beq i 9) (Ord.of [1, 2, 3, 5, 6, 7, 8, 0, 4, 9, 10]) FM (by kernel_rfl) ?_
            refine W.q rfl rfl rfl rfl (by decide) (Yd.mv rfl (.t rfl)) ?_
            refine W.q rfl rfl rfl rfl (by decide) (Yd.mv rfl (.t rfl)) ?_
            have hu38 := RS.to (k := t_17.toNat) hu5 (by omega)
            refine W.q rfl rfl rfl rfl (by decide) (Yd.slToR hu5 rfl Try.underlying30 (Option.some_get IN38).symm (.t rfl) (.t rfl) hq28.1 hq28.2) ?_
            refine W.p rfl rfl rfl rfl (by decide) (fun _ => Yd.mv rfl (.t rfl)) ?_
            refine W.p rfl rfl rfl rfl (by decide) (fun _ => Yd.mv rfl (.t rfl)) ?_
            refine W.p rfl rfl rfl rfl (by decide) (fun _ => Yd.add rfl (.t rfl) .c) ?_
            have hu39 : RS rRule _ (Sy.slFrom 2 u3 ((w64 (t_17 + (1 : Int)))).toNat) _ := RS.from (k := ((w64 (t_17 + (1 : Int)))).toNat) hu5 (by omega)
            refine W.p rfl rfl rfl rfl (by decide) (fun _ => Yd.slFromR hu5 rfl rfl Try.underlying30 SZ38 (.t rfl) (.t rfl) hq30.1 hq30.2) ?_
            refine W.e rfl rfl rfl rfl (by decide) (Ef.bsT (enc := Rule.enc) (vs := []) (ys := []) (fun _ => rfl) IF38 rfl Try.underlying30 (by decide) rfl .nil rfl rfl (by decide)) ?_
            rintro v40 _ rfl
            refine ⟨.inr ⟨.refl _, [_], rfl⟩, ?_⟩
            refine W.cast (m' := m4) (l' := hownT 38 2 Rule.enc v40 _ :: hcells b23 [_, _] 38 :: l) rfl rfl ?_
            refine W.e rfl rfl rfl rfl (by decide) (Ef.apI (pos := 0) (enc := Rule.enc) (xs := ([] : List Rule)) (ys := (r1.1.take t_17.toNat)) (fun _ => rfl) IF38 rfl rfl Try.underlying30 rfl (by decide) (.t rfl) (.t rfl) (Src.rs (by decide) (.refl _) hu38) (fun _ => rfl) (by omega) (by omega)) ?_
            rintro v42 _ rfl
            refine ⟨.inl rfl, ?_⟩
            refine W.cast (m' := m4) (l' := hownT 38 2 Rule.enc v42 _ :: hcells b23 [_, _] 38 :: l) rfl rfl ?_
            refine W.e rfl rfl rfl rfl (by decide) (Ef.apI (pos := 0) (enc := Rule.enc) (xs := (([] : List Rule) ++ (r1.1.take t_17.toNat))) (ys := (r1.1.drop ((w64 (t_17 + (1 : Int)))).toNat)) (fun _ => rfl) IF38 rfl rfl Try.underlying30 rfl (by decide) (.t rfl) (.t rfl) (Src.rs (by decide) (.refl _) hu39) (fun _ => rfl) (by omega) (by omega)) ?_
            rintro v43 _ rfl
            refine ⟨.inl rfl, ?_⟩
            refine W.cast (m' := m4) (l' := hownT 38 2 Rule.enc v43 _ :: hcells b23 [_, _] 38 :: l) rfl rfl ?_
            refine W.q rfl rfl rfl rfl (by decide) (Yd.as rfl (.t rfl)) ?_
            refine W.end ?_
            refine NX.sub (env' := [(0, _), (5, _), (6, _), (46, _), (47, _), (48, _), (10, _), (11, _)]) ⟨rfl, rfl, rfl, rfl, rfl, rfl, rfl, rfl, trivial⟩ ?_
            refine NX.then ?_
            refine Tr.seq ?_
            refine Tr.seq ?_
            obtain ⟨r44, hr45, hr⟩ := bind_some hr
            obtain ⟨r46, hr47, hr⟩ := bind_some hr
            refine Tr.region_x (fun _ => false) (fun _ => false) (Ord.of [0, 1, 2, 3, 4, 5, 6, 7]) FM (by kernel_rfl) ?_
            refine W.q rfl rfl rfl rfl (by decide) (Yd.fldB rfl Try.underlying38 rfl SZ34 rfl (.t rfl)) ?_
            refine W.q rfl rfl rfl rfl (by decide) (Yd.ldB (pos := 1) rfl rfl rfl ON34 (.t rfl)) ?_
            refine W.q rfl rfl rfl rfl (by decide) (Yd.mv rfl (.t rfl)) ?_
            refine W.q rfl rfl rfl rfl (by decide) (Yd.mv rfl (.t rfl)) ?_
            refine W.q rfl rfl rfl rfl (by decide) (Yd.fldB rfl Try.underlying38 rfl SZ34 rfl (.t rfl)) ?_
            refine W.q rfl rfl rfl rfl (by decide) (Yd.ldB (pos := 1) rfl rfl rfl ON34 (.t rfl)) ?_
            refine W.q rfl rfl rfl rfl (by decide) (Yd.call (v := .int .u32 (r44.toNat : Int)) rfl Try.func15 rfl rfl (.cons (.t rfl) (.cons (.t rfl) (.cons (.t rfl) .nil))) (by intro x' hx w hw; obtain ⟨p0, hp0⟩ := hx.at (p := 0) rfl; obtain ⟨m2, hm2, hc2, ⟨L2, hl1, hl2⟩, hback⟩ := cX_lend hw hp0 lone_own; have hL1 : RS rRule m2 _ _ := RS_of_own hl1 hl2; exact (syllogistref_Close_ok w0 m2 _ n_0 _ _ hL1 y21.cond _ hr45 w hc2).mono fun e w' ⟨he, hc'⟩ => ⟨he, (hback m2 _ _ w' (.refl _) hp0).2 hc'⟩)) ?_
            refine W.q rfl rfl rfl rfl (by decide) (Yd.call (v := .bool r46) rfl Try.func14 rfl rfl (.cons (.t rfl) (.cons (.t rfl) .nil)) (fun x' hx w hw => syllogistref_In_ok w0 x'.m x'.l y21.thn r44 _ hr47 w hw)) ?_
            refine W.end ?_
            refine NX.sub (env' := [(0, _), (5, _), (6, _), (46, _), (47, _), (48, _), (10, _), (92, _)]) ⟨rfl, rfl, rfl, rfl, rfl, rfl, rfl, rfl, trivial⟩ ?_
            refine NX.drop (l' := hcells b23 [_, _] 38 :: l) (.cons _ (.cons_cons _ (.refl _))) ?_
            refine NX.then ?_
            refine Tr.cond (.t rfl) (fun hb => ?_) (fun hb => ?_)
            · have hr := cond_t hb hr
              refine Tr.seq ?_
              refine Tr.region_f (fun _ => false) ?_
              refine W.q rfl rfl rfl rfl (by decide) (Yd.as rfl .c) ?_
              refine W.end ?_
              refine NX.sub (env' := [(4, _)]) ⟨rfl, trivial⟩ ?_
              refine NX.drop (l' := l) (.cons _ (.refl _)) ?_
              refine NX.then ?_
              refine Tr.ret' (RT.then (RT.block (RT.then (RT.then (RT.block (RT.then ?_))))))
              refine res1 rfl rfl ?_
              intro w hc
              cases hr
              exact ⟨rfl, (cX_le (x := ⟨m, _⟩) ⟨hsm4, [], rfl⟩ hc)⟩
            · have hr := cond_f hb hr
              refine Tr.skip' ?_
              refine NX.then ?_
              refine Tr.seq ?_
              refine Tr.region_f (fun _ => false) ?_
              refine W.q rfl rfl rfl rfl (by decide) (Yd.as rfl .c) ?_
              refine W.end ?_
              refine NX.sub (env' := [(0, _), (5, _), (6, _), (46, _), (47, _), (48, _), (10, _), (12, _)]) ⟨rfl, rfl, rfl, rfl, rfl, rfl, rfl, rfl, trivial⟩ ?_
              refine NX.then ?_
              refine Tr.join (S := fun env x => env = [(0, .int .i64 n_0), (5, u3), (6, .int .i64 r1.2), (46, u3), (47, .int .i64 ((r1.1.length : Int))), (48, .int .i64 t_17)] ∧ x = ⟨m4, l⟩ ∧ syllogistlaw_FollowLeasts_k50 nx19 = some r) ?_ (fun hk51 => ?_)
              · rintro _ _ ⟨rfl, rfl, hr⟩
                unfold syllogistlaw_FollowLeasts_k50 at hr
                try dsimp only at hr
                refine NX.block ?_
                refine NX.then ?_
                refine Tr.region_f (fun _ => false) ?_
                refine W.q rfl rfl rfl rfl (by decide) (Yd.add rfl (.t rfl) .c) ?_
                refine W.q rfl rfl rfl rfl (by decide) (Yd.mv rfl (.t rfl)) ?_
                refine W.end ?_
                refine NX.sub (env' := [(0, _), (5, _), (6, _), (46, _), (47, _), (48, _)]) ⟨rfl, rfl, rfl, rfl, rfl, rfl, trivial⟩ ?_
                refine NX.sub (env' := [(0, _), (5, _), (6, _), (46, _), (47, _), (48, _)]) ⟨rfl, rfl, rfl, rfl, rfl, rfl, trivial⟩ ?_
                have hw := w64_id (n := t_17 + 1) (by omega) (by omega)
                exact NX.again n20 (t_17 + 1, ()) (Nat.lt_succ_self _) ⟨(by rw [hw] <;> rfl), rfl, (fr_dec hnt_17), (by omega), ((hnx19 _).symm.trans hr)⟩
              obtain ⟨hle52, hr⟩ := guard_some hr; replace hle52 := of_decide_eq_true hle52
              refine Tr.block ?_
              refine Tr.sub (env' := [(0, _), (5, _), (6, _), (10, _), (12, _), (46, _), (47, _), (48, _)]) ⟨rfl, rfl, rfl, rfl, rfl, rfl, rfl, rfl, trivial⟩ ?_
              refine Tr.loop (S := fun n (z : Int × Unit) env x => match z with | (i_53, _) => env = [(0, .int .i64 n_0), (5, u3), (6, .int .i64 r1.2), (10, bp b23 0), (12, .int .i64 i_53), (46, u3), (47, .int .i64 ((r1.1.length : Int))), (48, .int .i64 t_17)] ∧ x = ⟨m4, hcells b23 [.int .u32 (y21.cond.toNat : Int), .int .u32 (y21.thn.toNat : Int)] 38 :: l⟩ ∧ n = (n_0 - i_53).toNat ∧ 0 ≤ i_53 ∧ forK (σ := Unit) (fun i s nx_ => syllogistlaw_FollowLeasts_b54 n_0 r1 y21 i nx_) (fun _ => syllogistlaw_FollowLeasts_k50 nx19) n i_53 () = some r) _ ((0 : Int), ()) ⟨rfl, rfl, rfl, (by omega), hr⟩ ?_
              rintro n56 ⟨i_53, _⟩ env x ⟨rfl, rfl, hni_53, h0i_53, hr⟩
              cases n56 with
              | zero =>
                simp only [forK] at hr
                refine Tr.seq ?_
                refine Tr.seq ?_
                refine Tr.region_f (fun _ => false) ?_
                refine W.q rfl rfl rfl rfl (by decide) (Yd.mv rfl (.t rfl)) ?_
                refine W.q rfl rfl rfl rfl (by decide) (Yd.mv rfl (.t rfl)) ?_
                refine W.q rfl rfl rfl rfl (by decide) (Yd.lss rfl (.t rfl) (.t rfl)) ?_
                refine W.end ?_
                refine NX.sub (env' := [(0, _), (5, _), (6, _), (10, _), (12, _), (46, _), (47, _), (48, _), (95, _)]) ⟨rfl, rfl, rfl, rfl, rfl, rfl, rfl, rfl, rfl, trivial⟩ ?_
                refine NX.then ?_
                refine Tr.cond (.t rfl) (fun hb => ?_) (fun hb => ?_)
                · exact absurd (hb.symm.trans (fr_end hni_53)) (by decide)
                ·
                  refine Tr.exit' (EX.then (EX.then (EX.block ?_)))
                  refine NX.sub (env' := [(0, _), (5, _), (6, _), (46, _), (47, _), (48, _)]) ⟨rfl, rfl, rfl, rfl, rfl, rfl, trivial⟩ ?_
                  refine NX.drop (l' := l) (.cons _ (.refl _)) ?_
                  exact hk51 _ _ ⟨rfl, rfl, hr⟩
              | succ n56 =>
                obtain ⟨nx55, hnx55, hr⟩ := forK_succ hr
                try dsimp only at hr
                unfold syllogistlaw_FollowLeasts_b54 at hr
                try dsimp only at hr
                have hlti_53 := fr_bnd hni_53
                refine Tr.seq ?_
                refine Tr.seq ?_
                refine Tr.region_f (fun _ => false) ?_
                refine W.q rfl rfl rfl rfl (by decide) (Yd.mv rfl (.t rfl)) ?_
                refine W.q rfl rfl rfl rfl (by decide) (Yd.mv rfl (.t rfl)) ?_
                refine W.q rfl rfl rfl rfl (by decide) (Yd.lss rfl (.t rfl) (.t rfl)) ?_
                refine W.end ?_
                refine NX.sub (env' := [(0, _), (5, _), (6, _), (10, _), (12, _), (46, _), (47, _), (48, _), (95, _)]) ⟨rfl, rfl, rfl, rfl, rfl, rfl, rfl, rfl, rfl, trivial⟩ ?_
                refine NX.then ?_
                refine Tr.cond (.t rfl) (fun hb => ?_) (fun hb => ?_)
                rotate_left
                · exact absurd (hb.symm.trans (fr_go hni_53)) (by decide)
                ·
                  refine Tr.skip' ?_
                  refine NX.then ?_
                  refine Tr.seq ?_
                  refine Tr.block ?_
                  refine Tr.seq ?_
                  obtain ⟨r57, hr58, hr⟩ := bind_some hr
                  obtain ⟨ha59, hr⟩ := guard_some hr
                  obtain ⟨ha60, hr⟩ := guard_some hr
                  refine Tr.region_x (fun _ => false) (fun _ => false) (Ord.of [0, 1, 2, 3, 4, 5, 6, 7, 8, 9, 10, 11, 12, 13, 14, 15, 16, 17]) FM (by kernel_rfl) ?_
                  refine W.q rfl rfl rfl rfl (by decide) (Yd.fldB rfl Try.underlying38 rfl SZ34 rfl (.t rfl)) ?_
                  refine W.q rfl rfl rfl rfl (by decide) (Yd.ldB (pos := 0) rfl rfl rfl ON34 (.t rfl)) ?_
                  refine W.q rfl rfl rfl rfl (by decide) (Yd.mv rfl (.t rfl)) ?_
                  refine W.q rfl rfl rfl rfl (by decide) (Yd.call (v := .bool r57) rfl Try.func16 rfl rfl (.cons (.t rfl) (.cons (.t rfl) .nil)) (fun x' hx w hw => syllogistref_Bit_ok w0 x'.m x'.l y21.cond i_53 _ hr58 w hw)) ?_
                  refine W.q rfl rfl rfl rfl (by decide) (Yd.mv rfl (.t rfl)) ?_
                  refine W.g rfl rfl rfl rfl rfl (.t rfl _) rfl (by decide) (fun hG => Yd.fldB rfl Try.underlying38 rfl SZ34 rfl (.t rfl)) ?_
                  refine W.g rfl rfl rfl rfl rfl (.t rfl _) rfl (by decide) (fun hG => Yd.ldB (pos := 0) rfl rfl rfl ON34 (.g rfl hG)) ?_
                  refine W.g rfl rfl rfl rfl rfl (.t rfl _) rfl (by decide) (fun hG => Yd.mv rfl (.t rfl)) ?_
                  refine W.g rfl rfl rfl rfl rfl (.t rfl _) rfl (by decide) (fun hG => Yd.mv rfl (.t rfl)) ?_
                  refine W.g rfl rfl rfl rfl rfl (.t rfl _) rfl (by decide) (fun hG => Yd.fldB rfl Try.underlying38 rfl SZ34 rfl (.t rfl)) ?_
                  refine W.g rfl rfl rfl rfl rfl (.t rfl _) rfl (by decide) (fun hG => Yd.ldB (pos := 0) rfl rfl rfl ON34 (.g rfl hG)) ?_
                  refine W.g rfl rfl rfl rfl rfl (.t rfl _) rfl (by decide) (fun hG => Yd.mv rfl (.t rfl)) ?_
                  refine W.g rfl rfl rfl rfl rfl (.t rfl _) rfl (by decide) (fun hG => Yd.cvQ rfl US3 Try.underlying35 (.g rfl hG)) ?_
                  refine W.g rfl rfl rfl rfl rfl (.t rfl _) rfl (by decide) (fun hG => Yd.shlU (a := 1#32) rfl .c (.g rfl hG) (Int.natCast_nonneg _)) ?_
                  refine W.g rfl rfl rfl rfl rfl (.t rfl _) rfl (by decide) (fun hG => Yd.subU (a := y21.cond) (b := (1#32 <<< ((BitVec.ofInt 64 i_53)).toNat)) rfl (.g rfl hG) (.g rfl hG)) ?_
                  refine W.g rfl rfl rfl rfl rfl (.t rfl _) rfl (by decide) (fun hG => Yd.call (v := .int .u32 (((((syllogistref_Close n_0 r1.1 ((y21.cond - (1#32 <<< ((BitVec.ofInt 64 i_53)).toNat)))).getD (0#32)))).toNat : Int)) rfl Try.func15 rfl rfl (.cons (.g rfl hG) (.cons (.g rfl hG) (.cons (.g rfl hG) .nil))) (fun x' hx w hw => syllogistref_Close_ok w0 x'.m x'.l n_0 _ _ (hu5.mono hx.1) ((y21.cond - (1#32 <<< ((BitVec.ofInt 64 i_53)).toNat))) _ (gd_get (d := (0#32)) ha59 hG) w hw)) ?_
                  refine W.g rfl rfl rfl rfl rfl (.t rfl _) rfl (by decide) (fun hG => Yd.call (v := .bool ((((syllogistref_In y21.thn ((((syllogistref_Close n_0 r1.1 ((y21.cond - (1#32 <<< ((BitVec.ofInt 64 i_53)).toNat)))).getD (0#32))))).getD false)))) rfl Try.func14 rfl rfl (.cons (.g rfl hG) (.cons (.g rfl hG) .nil)) (fun x' hx w hw => syllogistref_In_ok w0 x'.m x'.l y21.thn ((((syllogistref_Close n_0 r1.1 ((y21.cond - (1#32 <<< ((BitVec.ofInt 64 i_53)).toNat)))).getD (0#32)))) _ (gd_get (d := false) ha60 hG) w hw)) ?_
                  refine W.q rfl rfl rfl rfl (by decide) (Yd.and rfl (.t rfl) .c rfl rfl) ?_
                  refine W.end ?_
                  refine NX.sub (env' := [(0, _), (5, _), (6, _), (10, _), (12, _), (46, _), (47, _), (48, _), (115, _)]) ⟨rfl, rfl, rfl, rfl, rfl, rfl, rfl, rfl, rfl, trivial⟩ ?_
                  refine NX.then ?_
                  refine Tr.cond (.t rfl) (fun hb => ?_) (fun hb => ?_)
                  · have hr := cond_t hb hr
                    refine Tr.seq ?_
                    refine Tr.region_f (fun _ => false) ?_
                    refine W.q rfl rfl rfl rfl (by decide) (Yd.as rfl .c) ?_
                    refine W.end ?_
                    refine NX.sub (env' := [(4, _)]) ⟨rfl, trivial⟩ ?_
                    refine NX.drop (l' := l) (.cons _ (.refl _)) ?_
                    refine NX.then ?_
                    refine Tr.ret' (RT.block (RT.then (RT.then (RT.block (RT.block (RT.then (RT.then (RT.block (RT.then ?_)))))))))
                    refine res1 rfl rfl ?_
                    intro w hc
                    cases hr
                    exact ⟨rfl, (cX_le (x := ⟨m, _⟩) ⟨hsm4, [], rfl⟩ hc)⟩
                  · have hr := cond_f hb hr
                    refine Tr.skip' ?_
                    refine NX.block ?_
                    refine NX.then ?_
                    refine Tr.region_f (fun _ => false) ?_
                    refine W.q rfl rfl rfl rfl (by decide) (Yd.mv rfl (.t rfl)) ?_
                    refine W.q rfl rfl rfl rfl (by decide) (Yd.add rfl (.t rfl) .c) ?_
                    refine W.q rfl rfl rfl rfl (by decide) (Yd.as rfl (.t rfl)) ?_
                    refine W.end ?_
                    refine NX.sub (env' := [(0, _), (5, _), (6, _), (10, _), (12, _), (46, _), (47, _), (48, _)]) ⟨rfl, rfl, rfl, rfl, rfl, rfl, rfl, rfl, trivial⟩ ?_
                    refine NX.sub (env' := [(0, _), (5, _), (6, _), (10, _), (12, _), (46, _), (47, _), (48, _)]) ⟨rfl, rfl, rfl, rfl, rfl, rfl, rfl, rfl, trivial⟩ ?_
                    have hw := w64_id (n := i_53 + 1) (by omega) (by omega)
                    exact NX.again n56 (i_53 + 1, ()) (Nat.lt_succ_self _) ⟨(by rw [hw] <;> rfl), rfl, (fr_dec hni_53), (by omega), ((hnx55 _).symm.trans hr)⟩
    refine Tr.block ?_
    refine Tr.sub (env' := [(0, _), (1, _), (5, _), (6, _), (8, _)]) ⟨rfl, rfl, rfl, rfl, rfl, trivial⟩ ?_
    refine Tr.loop (S := fun n (z : BitVec 32 × Unit) env x => match z with | (s_61, _) => env = [(0, .int .i64 n_0), (1, urules_1), (5, u3), (6, .int .i64 r1.2), (8, .int .u32 (s_61.toNat : Int))] ∧ x = ⟨m4, l⟩ ∧ n = ((1#32 <<< ((BitVec.ofInt 64 n_0)).toNat)).toNat - s_61.toNat ∧ forK (σ := Unit) (fun i s nx_ => syllogistlaw_FollowLeasts_b62 rules_1 r1 i nx_) (fun _ => syllogistlaw_FollowLeasts_k10 n_0 r1) n s_61 () = some r) _ (0#32, ()) ⟨rfl, rfl, rfl, hr⟩ ?_
    rintro n64 ⟨s_61, _⟩ env x ⟨rfl, rfl, hns_61, hr⟩
    cases n64 with
    | zero =>
      simp only [forK] at hr
      refine Tr.seq ?_
      refine Tr.seq ?_
      refine Tr.region_f (fun _ => false) ?_
      refine W.q rfl rfl rfl rfl (by decide) (Yd.mv rfl (.t rfl)) ?_
      refine W.q rfl rfl rfl rfl (by decide) (Yd.mv rfl (.t rfl)) ?_
      refine W.q rfl rfl rfl rfl (by decide) (Yd.cvQ rfl US3 Try.underlying35 (.t rfl)) ?_
      refine W.q rfl rfl rfl rfl (by decide) (Yd.shlU (a := 1#32) rfl .c (.t rfl) (Int.natCast_nonneg _)) ?_
      refine W.q rfl rfl rfl rfl (by decide) (Yd.lssU (a := s_61) (b := (1#32 <<< ((BitVec.ofInt 64 n_0)).toNat)) rfl (.t rfl) (.t rfl)) ?_
      refine W.end ?_
      refine NX.sub (env' := [(0, _), (1, _), (5, _), (6, _), (8, _), (36, _)]) ⟨rfl, rfl, rfl, rfl, rfl, rfl, trivial⟩ ?_
      refine NX.then ?_
      refine Tr.cond (.t rfl) (fun hb => ?_) (fun hb => ?_)
      · exact absurd (hb.symm.trans (fu_end hns_61)) (by decide)
      ·
        refine Tr.exit' (EX.then (EX.then (EX.block ?_)))
        refine NX.sub (env' := [(0, _), (5, _), (6, _)]) ⟨rfl, rfl, rfl, trivial⟩ ?_
        exact hk11 _ _ ⟨rfl, rfl, hr⟩
    | succ n64 =>
      obtain ⟨nx63, hnx63, hr⟩ := forK_succ hr
      try dsimp only at hr
      unfold syllogistlaw_FollowLeasts_b62 at hr
      try dsimp only at hr
      refine Tr.seq ?_
      refine Tr.seq ?_
      refine Tr.region_f (fun _ => false) ?_
      refine W.q rfl rfl rfl rfl (by decide) (Yd.mv rfl (.t rfl)) ?_
      refine W.q rfl rfl rfl rfl (by decide) (Yd.mv rfl (.t rfl)) ?_
      refine W.q rfl rfl rfl rfl (by decide) (Yd.cvQ rfl US3 Try.underlying35 (.t rfl)) ?_
      refine W.q rfl rfl rfl rfl (by decide) (Yd.shlU (a := 1#32) rfl .c (.t rfl) (Int.natCast_nonneg _)) ?_
      refine W.q rfl rfl rfl rfl (by decide) (Yd.lssU (a := s_61) (b := (1#32 <<< ((BitVec.ofInt 64 n_0)).toNat)) rfl (.t rfl) (.t rfl)) ?_
      refine W.end ?_
      refine NX.sub (env' := [(0, _), (1, _), (5, _), (6, _), (8, _), (36, _)]) ⟨rfl, rfl, rfl, rfl, rfl, rfl, trivial⟩ ?_
      refine NX.then ?_
      refine Tr.cond (.t rfl) (fun hb => ?_) (fun hb => ?_)
      rotate_left
      · exact absurd (hb.symm.trans (fu_go hns_61)) (by decide)
      ·
        refine Tr.skip' ?_
        refine NX.then ?_
        refine Tr.seq ?_
        refine Tr.block ?_
        refine Tr.seq ?_
        obtain ⟨r65, hr66, hr⟩ := bind_some hr
        obtain ⟨r67, hr68, hr⟩ := bind_some hr
        refine Tr.region_f (fun _ => false) ?_
        refine W.q rfl rfl rfl rfl (by decide) (Yd.mv rfl (.t rfl)) ?_
        refine W.q rfl rfl rfl rfl (by decide) (Yd.mv rfl (.t rfl)) ?_
        refine W.q rfl rfl rfl rfl (by decide) (Yd.call (v := .bool r65) rfl Try.func11 rfl rfl (.cons (.t rfl) (.cons (.t rfl) .nil)) (fun x' hx w hw => syllogistref_Closed_ok w0 x'.m x'.l _ _ (hrules_1.mono hx.1) s_61 _ hr66 w hw)) ?_
        refine W.q rfl rfl rfl rfl (by decide) (Yd.mv rfl (.t rfl)) ?_
        refine W.q rfl rfl rfl rfl (by decide) (Yd.mv rfl (.t rfl)) ?_
        refine W.q rfl rfl rfl rfl (by decide) (Yd.call (v := .bool r67) rfl Try.func11 rfl rfl (.cons (.t rfl) (.cons (.t rfl) .nil)) (fun x' hx w hw => syllogistref_Closed_ok w0 x'.m x'.l _ _ (hu5.mono hx.1) s_61 _ hr68 w hw)) ?_
        refine W.q rfl rfl rfl rfl (by decide) (Yd.neqB Try.underlying4 rfl (.t rfl) (.t rfl)) ?_
        refine W.end ?_
        refine NX.sub (env' := [(0, _), (1, _), (5, _), (6, _), (8, _), (45, _)]) ⟨rfl, rfl, rfl, rfl, rfl, rfl, trivial⟩ ?_
        refine NX.then ?_
        refine Tr.cond (.t rfl) (fun hb => ?_) (fun hb => ?_)
        · have hr := cond_t hb hr
          refine Tr.seq ?_
          refine Tr.region_f (fun _ => false) ?_
          refine W.q rfl rfl rfl rfl (by decide) (Yd.as rfl .c) ?_
          refine W.end ?_
          refine NX.sub (env' := [(4, _)]) ⟨rfl, trivial⟩ ?_
          refine NX.then ?_
          refine Tr.ret' (RT.block (RT.then (RT.then (RT.block (RT.then ?_)))))
          refine res1 rfl rfl ?_
          intro w hc
          cases hr
          exact ⟨rfl, (cX_le (x := ⟨m, _⟩) ⟨hsm4, [], rfl⟩ hc)⟩
        · have hr := cond_f hb hr
          refine Tr.skip' ?_
          refine NX.block ?_
          refine NX.then ?_
          refine Tr.region_f (fun _ => false) ?_
          refine W.q rfl rfl rfl rfl (by decide) (Yd.mv rfl (.t rfl)) ?_
          refine W.q rfl rfl rfl rfl (by decide) (Yd.addU (a := s_61) (b := 1#32) rfl (.t rfl) .c) ?_
          refine W.q rfl rfl rfl rfl (by decide) (Yd.as rfl (.t rfl)) ?_
          refine W.end ?_
          refine NX.sub (env' := [(0, _), (1, _), (5, _), (6, _), (8, _)]) ⟨rfl, rfl, rfl, rfl, rfl, trivial⟩ ?_
          refine NX.sub (env' := [(0, _), (1, _), (5, _), (6, _), (8, _)]) ⟨rfl, rfl, rfl, rfl, rfl, trivial⟩ ?_
          exact NX.again n64 (s_61 + 1, ()) (Nat.lt_succ_self _) ⟨rfl, rfl, (fu_dec hns_61), ((hnx63 _).symm.trans hr)⟩
end Go.Proofs.Ytcojgaednjkbiaa.Sy
