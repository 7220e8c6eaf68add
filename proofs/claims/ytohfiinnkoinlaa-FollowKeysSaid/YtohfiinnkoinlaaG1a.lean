/- Functions of the program as plain functions, and that the translation computes them; the conditions stand in each theorem. Printed by an own program. -/
import Derived.Test.YtohfiinnkoinlaaT
import Derived.Test.YtohfiinnkoinlaaProg
namespace Go.Proofs.Ytohfiinnkoinlaa.Sy
open Go
set_option linter.unusedVariables false
theorem SZ31 : (Try.prog.info? 31).map (·.size) = some 2 := by kernel_rfl
theorem ON31 : one Try.prog 31 = false := by kernel_rfl
theorem US31 : (Try.prog.underlying 31).isSome = true := by kernel_rfl
theorem ZR31 : (Try.prog.info? 31).bind (·.zero) = some (.agg #[.int .u32 0, .int .u32 0]) := by kernel_rfl
theorem SZ23 : (Try.prog.info? 23).map (·.size) = some 1 := by kernel_rfl
theorem ON23 : one Try.prog 23 = true := by kernel_rfl
theorem IF23 : (Try.prog.info? 23).map (fun i => (i.zero, i.size, i.bytes)) = some (some (.int .u32 0), 1, 4) := by kernel_rfl
theorem US3 : (Try.prog.underlying 3).isSome = true := by kernel_rfl
theorem ZR23 : (Try.prog.info? 23).bind (·.zero) = some (.int .u32 0) := by kernel_rfl
theorem ON3 : one Try.prog 3 = true := by kernel_rfl
theorem FM : Try.prog.follows .mixedOrders = true := by kernel_rfl

def follow_Check_k13 (n_0 : Int) (all_12 : BitVec 32) : Option (Int) :=
  bif decide (0 ≤ n_0) then
  (bif ((all_12 >>> n_0.toNat) != 0#32) then
  some ((4 : Int))
  else
  some ((0 : Int))) else none

def follow_Check_b18 (more_2 : List (BitVec 32)) (t_17 : Int) (all_10 : BitVec 32) (nx19 : (BitVec 32) → Option (Int)) : Option (Int) :=
  (geti more_2 t_17).bind fun y21 =>
  nx19 (all_10 ||| y21)

def follow_Check_k6 (n_0 : Int) (more_2 : List (BitVec 32)) (all_5 : BitVec 32) : Option (Int) :=
  forK (σ := (BitVec 32)) (fun i s nx_ => follow_Check_b18 more_2 i s nx_) (fun s => follow_Check_k13 n_0 s) ((more_2.length : Int) - (0 : Int)).toNat (0 : Int) all_5

def follow_Check_b25 (rules_1 : List Rule) (t_24 : Int) (all_3 : BitVec 32) (nx26 : (BitVec 32) → Option (Int)) : Option (Int) :=
  (geti rules_1 t_24).bind fun y28 =>
  nx26 (all_3 ||| (y28.cond ||| y28.thn))

def follow_Check (n_0 : Int) (rules_1 : List Rule) (more_2 : List (BitVec 32)) : Option (Int) :=
  (bif (((decide (n_0 < (1 : Int))) || (decide (n_0 > (6 : Int)))) || (decide ((rules_1.length : Int) > (10 : Int)))) then
  some ((1 : Int))
  else
  forK (σ := (BitVec 32)) (fun i s nx_ => follow_Check_b25 rules_1 i s nx_) (fun s => follow_Check_k6 n_0 more_2 s) ((rules_1.length : Int) - (0 : Int)).toNat (0 : Int) (0#32))

set_option maxRecDepth 100000 in
theorem follow_Check_ok (w0 : World) (m : Snap) (l : List HI) (n_0 : Int) (urules_1 : Value) (rules_1 : List Rule) (hrules_1 : RS rRule m urules_1 rules_1) (umore_2 : Value) (more_2 : List (BitVec 32)) (hmore_2 : RS rU m umore_2 more_2) (r : Int) (hr : follow_Check n_0 rules_1 more_2 = some r) (w : World) (hc : cX w0 ⟨m, l⟩ w) :
    Calls Try.prog 32 [.int .i64 n_0, urules_1, umore_2].toArray w fun e w' => e = .returned (.int .i64 r) ∧ cX w0 ⟨m, l⟩ w' := by
  unfold follow_Check at hr
  refine calls_of_Tr (N := 51) Try.func32 rfl hc rfl (Nat.le_of_ble_eq_true rfl) ?_
  refine Tr.seq ?_
  refine Tr.region_f (fun _ => false) ?_
  refine W.q rfl rfl rfl rfl (by decide) (Yd.as rfl .c) ?_
  refine W.end ?_
  refine NX.sub (env' := [(0, _), (1, _), (2, _)]) ⟨rfl, rfl, rfl, trivial⟩ ?_
  refine NX.then ?_
  refine Tr.seq ?_
  refine Tr.seq ?_
  refine Tr.region_f (fun _ => false) ?_
  refine W.q rfl rfl rfl rfl (by decide) (Yd.mv rfl (.t rfl)) ?_
  refine W.q rfl rfl rfl rfl (by decide) (Yd.lss rfl (.t rfl) .c) ?_
  refine W.q rfl rfl rfl rfl (by decide) (Yd.mv rfl (.t rfl)) ?_
  refine W.g rfl rfl rfl rfl rfl (.t rfl _) rfl (by decide) (fun hG => Yd.mv rfl (.t rfl)) ?_
  refine W.g rfl rfl rfl rfl rfl (.t rfl _) rfl (by decide) (fun hG => Yd.gtr rfl (.g rfl hG) .c) ?_
  refine W.q rfl rfl rfl rfl (by decide) (Yd.or rfl (.t rfl) .c rfl rfl) ?_
  refine W.q rfl rfl rfl rfl (by decide) (Yd.mv rfl (.t rfl)) ?_
  refine W.g rfl rfl rfl rfl rfl (.t rfl _) rfl (by decide) (fun hG => Yd.mv rfl (.t rfl)) ?_
  refine W.g rfl rfl rfl rfl rfl (.t rfl _) rfl (by decide) (fun hG => Yd.lenR hrules_1 rfl Try.underlying22 (.g rfl hG)) ?_
  refine W.g rfl rfl rfl rfl rfl (.t rfl _) rfl (by decide) (fun hG => Yd.gtr rfl (.g rfl hG) .c) ?_
  refine W.q rfl rfl rfl rfl (by decide) (Yd.or rfl (.t rfl) .c rfl rfl) ?_
  refine W.end ?_
  refine NX.sub (env' := [(0, _), (1, _), (2, _), (22, _)]) ⟨rfl, rfl, rfl, rfl, trivial⟩ ?_
  refine NX.then ?_
  refine Tr.cond (.t rfl) (fun hb => ?_) (fun hb => ?_)
  · have hr := cond_t hb hr
    refine Tr.seq ?_
    refine Tr.region_f (fun _ => false) ?_
    refine W.q rfl rfl rfl rfl (by decide) (Yd.as rfl .c) ?_
    refine W.end ?_
    refine NX.sub (env' := [(6, _)]) ⟨rfl, trivial⟩ ?_
    refine NX.then ?_
    refine Tr.ret' (RT.then ?_)
    refine res1 rfl rfl ?_
    intro w hc
    cases hr
    exact ⟨rfl, hc⟩
  · have hr := cond_f hb hr
    refine Tr.skip' ?_
    refine NX.then ?_
    refine Tr.seq ?_
    refine Tr.region_f (fun _ => false) ?_
    refine W.q rfl rfl rfl rfl (by decide) (Yd.as rfl .c) ?_
    refine W.end ?_
    refine NX.sub (env' := [(0, _), (1, _), (2, _), (7, _)]) ⟨rfl, rfl, rfl, rfl, trivial⟩ ?_
    refine NX.then ?_
    refine Tr.seq ?_
    refine Tr.seq ?_
    refine Tr.region_f (fun _ => false) ?_
    refine W.q rfl rfl rfl rfl (by decide) (Yd.mv rfl (.t rfl)) ?_
    refine W.q rfl rfl rfl rfl (by decide) (Yd.lenR hrules_1 rfl Try.underlying22 (.t rfl)) ?_
    refine W.q rfl rfl rfl rfl (by decide) (Yd.mv rfl .c) ?_
    refine W.end ?_
    refine NX.sub (env' := [(0, _), (2, _), (7, _), (23, _), (24, _), (25, _)]) ⟨rfl, rfl, rfl, rfl, rfl, rfl, trivial⟩ ?_
    refine NX.then ?_
    refine Tr.join (S := fun env x => ∃ all_5 : BitVec 32, env = [(0, .int .i64 n_0), (2, umore_2), (7, .int .u32 (all_5.toNat : Int))] ∧ x = ⟨m, l⟩ ∧ follow_Check_k6 n_0 more_2 all_5 = some r) ?_ (fun hk7 => ?_)
    · rintro _ _ ⟨all_5, rfl, rfl, hr⟩
      unfold follow_Check_k6 at hr
      try dsimp only at hr
      refine NX.then ?_
      refine Tr.seq ?_
      refine Tr.seq ?_
      refine Tr.region_f (fun _ => false) ?_
      refine W.q rfl rfl rfl rfl (by decide) (Yd.mv rfl (.t rfl)) ?_
      refine W.q rfl rfl rfl rfl (by decide) (Yd.lenR hmore_2 rfl Try.underlying36 (.t rfl)) ?_
      refine W.q rfl rfl rfl rfl (by decide) (Yd.mv rfl .c) ?_
      refine W.end ?_
      refine NX.sub (env' := [(0, _), (7, _), (37, _), (38, _), (39, _)]) ⟨rfl, rfl, rfl, rfl, rfl, trivial⟩ ?_
      refine NX.then ?_
      refine Tr.join (S := fun env x => ∃ all_12 : BitVec 32, env = [(0, .int .i64 n_0), (7, .int .u32 (all_12.toNat : Int))] ∧ x = ⟨m, l⟩ ∧ follow_Check_k13 n_0 all_12 = some r) ?_ (fun hk14 => ?_)
      · rintro _ _ ⟨all_12, rfl, rfl, hr⟩
        unfold follow_Check_k13 at hr
        try dsimp only at hr
        refine NX.then ?_
        refine Tr.seq ?_
        refine Tr.seq ?_
        obtain ⟨hq15, hr⟩ := guard_some hr; replace hq15 := of_decide_eq_true hq15
        refine Tr.region_f (fun _ => false) ?_
        refine W.q rfl rfl rfl rfl (by decide) (Yd.mv rfl (.t rfl)) ?_
        refine W.q rfl rfl rfl rfl (by decide) (Yd.mv rfl (.t rfl)) ?_
        refine W.q rfl rfl rfl rfl (by decide) (Yd.shrU rfl (.t rfl) (.t rfl) hq15) ?_
        refine W.q rfl rfl rfl rfl (by decide) (Yd.neqU (b := 0#32) rfl (.t rfl) .c) ?_
        refine W.end ?_
        refine NX.sub (env' := [(50, _)]) ⟨rfl, trivial⟩ ?_
        refine NX.then ?_
        refine Tr.cond (.t rfl) (fun hb => ?_) (fun hb => ?_)
        · have hr := cond_t hb hr
          refine Tr.seq ?_
          refine Tr.region_f (fun _ => false) ?_
          refine W.q rfl rfl rfl rfl (by decide) (Yd.as rfl .c) ?_
          refine W.end ?_
          refine NX.sub (env' := [(6, _)]) ⟨rfl, trivial⟩ ?_
          refine NX.then ?_
          refine Tr.ret' (RT.then ?_)
          refine res1 rfl rfl ?_
          intro w hc
          cases hr
          exact ⟨rfl, hc⟩
        · have hr := cond_f hb hr
          refine Tr.skip' ?_
          refine NX.then ?_
          refine Tr.seq ?_
          refine Tr.region_f (fun _ => false) ?_
          refine W.q rfl rfl rfl rfl (by decide) (Yd.as rfl .c) ?_
          refine W.end ?_
          refine NX.sub (env' := [(6, _)]) ⟨rfl, trivial⟩ ?_
          refine NX.then ?_
          refine Tr.ret' ?_
          refine res1 rfl rfl ?_
          intro w hc
          cases hr
          exact ⟨rfl, hc⟩
      have hlen16 := (hmore_2).2.1
      refine Tr.block ?_
      refine Tr.sub (env' := [(0, _), (7, _), (37, _), (38, _), (39, _)]) ⟨rfl, rfl, rfl, rfl, rfl, trivial⟩ ?_
      refine Tr.loop (S := fun n (z : Int × (BitVec 32)) env x => match z with | (t_17, all_10) => env = [(0, .int .i64 n_0), (7, .int .u32 (all_10.toNat : Int)), (37, umore_2), (38, .int .i64 ((more_2.length : Int))), (39, .int .i64 t_17)] ∧ x = ⟨m, l⟩ ∧ n = ((more_2.length : Int) - t_17).toNat ∧ 0 ≤ t_17 ∧ forK (σ := (BitVec 32)) (fun i s nx_ => follow_Check_b18 more_2 i s nx_) (fun s => follow_Check_k13 n_0 s) n t_17 all_10 = some r) _ ((0 : Int), all_5) ⟨rfl, rfl, rfl, (by omega), hr⟩ ?_
      rintro n20 ⟨t_17, all_10⟩ env x ⟨rfl, rfl, hnt_17, h0t_17, hr⟩
      cases n20 with
      | zero =>
        simp only [forK] at hr
        refine Tr.seq ?_
        refine Tr.region_f (fun _ => false) ?_
        refine W.q rfl rfl rfl rfl (by decide) (Yd.lss rfl (.t rfl) (.t rfl)) ?_
        refine W.end ?_
        refine NX.sub (env' := [(0, _), (7, _), (37, _), (38, _), (39, _), (40, _)]) ⟨rfl, rfl, rfl, rfl, rfl, rfl, trivial⟩ ?_
        refine NX.then ?_
        refine Tr.seq ?_
        refine Tr.cond (.t rfl) (fun hb => ?_) (fun hb => ?_)
        · exact absurd (hb.symm.trans (fr_end hnt_17)) (by decide)
        ·
          refine Tr.exit' (EX.then (EX.then (EX.block ?_)))
          refine NX.sub (env' := [(0, _), (7, _)]) ⟨rfl, rfl, trivial⟩ ?_
          exact hk14 _ _ ⟨_, rfl, rfl, hr⟩
      | succ n20 =>
        obtain ⟨nx19, hnx19, hr⟩ := forK_succ hr
        try dsimp only at hr
        unfold follow_Check_b18 at hr
        try dsimp only at hr
        have hltt_17 := fr_bnd hnt_17
        refine Tr.seq ?_
        refine Tr.region_f (fun _ => false) ?_
        refine W.q rfl rfl rfl rfl (by decide) (Yd.lss rfl (.t rfl) (.t rfl)) ?_
        refine W.end ?_
        refine NX.sub (env' := [(0, _), (7, _), (37, _), (38, _), (39, _), (40, _)]) ⟨rfl, rfl, rfl, rfl, rfl, rfl, trivial⟩ ?_
        refine NX.then ?_
        refine Tr.seq ?_
        refine Tr.cond (.t rfl) (fun hb => ?_) (fun hb => ?_)
        rotate_left
        · exact absurd (hb.symm.trans (fr_go hnt_17)) (by decide)
        ·
          refine Tr.skip' ?_
          refine NX.then ?_
          refine Tr.seq ?_
          refine Tr.block ?_
          refine Tr.seq ?_
          obtain ⟨y21, hy22, hr⟩ := bind_some hr
          refine Tr.region_f (fun _ => false) ?_
          refine W.q rfl rfl rfl rfl (by decide) (Yd.idxR hmore_2 hy22 rfl Try.underlying36 SZ23 (.t rfl) (.t rfl)) ?_
          refine W.q rfl rfl rfl rfl (by decide) (Yd.ldF hmore_2 (.refl _) hy22 rfl rfl ON23 (.t rfl)) ?_
          refine W.q rfl rfl rfl rfl (by decide) (Yd.as rfl (.t rfl)) ?_
          refine W.end ?_
          refine NX.sub (env' := [(0, _), (7, _), (37, _), (38, _), (39, _), (11, _)]) ⟨rfl, rfl, rfl, rfl, rfl, rfl, trivial⟩ ?_
          refine NX.then ?_
          refine Tr.region_f (fun _ => false) ?_
          refine W.q rfl rfl rfl rfl (by decide) (Yd.mv rfl (.t rfl)) ?_
          refine W.q rfl rfl rfl rfl (by decide) (Yd.mv rfl (.t rfl)) ?_
          refine W.q rfl rfl rfl rfl (by decide) (Yd.orU rfl (.t rfl) (.t rfl)) ?_
          refine W.q rfl rfl rfl rfl (by decide) (Yd.as rfl (.t rfl)) ?_
          refine W.end ?_
          refine NX.sub (env' := [(0, _), (7, _), (37, _), (38, _), (39, _)]) ⟨rfl, rfl, rfl, rfl, rfl, trivial⟩ ?_
          refine NX.block ?_
          refine NX.then ?_
          refine Tr.region_f (fun _ => false) ?_
          refine W.q rfl rfl rfl rfl (by decide) (Yd.add rfl (.t rfl) .c) ?_
          refine W.q rfl rfl rfl rfl (by decide) (Yd.mv rfl (.t rfl)) ?_
          refine W.end ?_
          refine NX.sub (env' := [(0, _), (7, _), (37, _), (38, _), (39, _)]) ⟨rfl, rfl, rfl, rfl, rfl, trivial⟩ ?_
          refine NX.sub (env' := [(0, _), (7, _), (37, _), (38, _), (39, _)]) ⟨rfl, rfl, rfl, rfl, rfl, trivial⟩ ?_
          have hw := w64_id (n := t_17 + 1) (by omega) (by omega)
          exact NX.again n20 (t_17 + 1, (all_10 ||| y21)) (Nat.lt_succ_self _) ⟨(by rw [hw] <;> rfl), rfl, (fr_dec hnt_17), (by omega), ((hnx19 _).symm.trans hr)⟩
    have hlen23 := (hrules_1).2.1
    refine Tr.block ?_
    refine Tr.sub (env' := [(0, _), (2, _), (7, _), (23, _), (24, _), (25, _)]) ⟨rfl, rfl, rfl, rfl, rfl, rfl, trivial⟩ ?_
    refine Tr.loop (S := fun n (z : Int × (BitVec 32)) env x => match z with | (t_24, all_3) => env = [(0, .int .i64 n_0), (2, umore_2), (7, .int .u32 (all_3.toNat : Int)), (23, urules_1), (24, .int .i64 ((rules_1.length : Int))), (25, .int .i64 t_24)] ∧ x = ⟨m, l⟩ ∧ n = ((rules_1.length : Int) - t_24).toNat ∧ 0 ≤ t_24 ∧ forK (σ := (BitVec 32)) (fun i s nx_ => follow_Check_b25 rules_1 i s nx_) (fun s => follow_Check_k6 n_0 more_2 s) n t_24 all_3 = some r) _ ((0 : Int), 0#32) ⟨rfl, rfl, rfl, (by omega), hr⟩ ?_
    rintro n27 ⟨t_24, all_3⟩ env x ⟨rfl, rfl, hnt_24, h0t_24, hr⟩
    cases n27 with
    | zero =>
      simp only [forK] at hr
      refine Tr.seq ?_
      refine Tr.region_f (fun _ => false) ?_
      refine W.q rfl rfl rfl rfl (by decide) (Yd.lss rfl (.t rfl) (.t rfl)) ?_
      refine W.end ?_
      refine NX.sub (env' := [(0, _), (2, _), (7, _), (23, _), (24, _), (25, _), (26, _)]) ⟨rfl, rfl, rfl, rfl, rfl, rfl, rfl, trivial⟩ ?_
      refine NX.then ?_
      refine Tr.seq ?_
      refine Tr.cond (.t rfl) (fun hb => ?_) (fun hb => ?_)
      · exact absurd (hb.symm.trans (fr_end hnt_24)) (by decide)
      ·
        refine Tr.exit' (EX.then (EX.then (EX.block ?_)))
        refine NX.sub (env' := [(0, _), (2, _), (7, _)]) ⟨rfl, rfl, rfl, trivial⟩ ?_
        exact hk7 _ _ ⟨_, rfl, rfl, hr⟩
    | succ n27 =>
      obtain ⟨nx26, hnx26, hr⟩ := forK_succ hr
      try dsimp only at hr
      unfold follow_Check_b25 at hr
      try dsimp only at hr
      have hltt_24 := fr_bnd hnt_24
      refine Tr.seq ?_
      refine Tr.region_f (fun _ => false) ?_
      refine W.q rfl rfl rfl rfl (by decide) (Yd.lss rfl (.t rfl) (.t rfl)) ?_
      refine W.end ?_
      refine NX.sub (env' := [(0, _), (2, _), (7, _), (23, _), (24, _), (25, _), (26, _)]) ⟨rfl, rfl, rfl, rfl, rfl, rfl, rfl, trivial⟩ ?_
      refine NX.then ?_
      refine Tr.seq ?_
      refine Tr.cond (.t rfl) (fun hb => ?_) (fun hb => ?_)
      rotate_left
      · exact absurd (hb.symm.trans (fr_go hnt_24)) (by decide)
      ·
        refine Tr.skip' ?_
        refine NX.then ?_
        refine Tr.seq ?_
        refine Tr.block ?_
        refine Tr.seq ?_
        obtain ⟨y28, hy29, hr⟩ := bind_some hr
        refine Tr.region_f (fun i => Nat.beq i 2 || Nat.beq i 3) ?_
        refine W.q rfl rfl rfl rfl (by decide) (Yd.idxR hrules_1 hy29 rfl Try.underlying22 SZ31 (.t rfl) (.t rfl)) ?_
        refine W.q rfl rfl rfl rfl (by decide) (Yd.ldFs (us := [_, _]) hrules_1 (.refl _) hy29 rfl rfl ON31 US31 SZ31 (.t rfl)) ?_
        refine W.e rfl rfl rfl rfl (by decide) (Ef.al rfl ZR31 rfl) ?_
        rintro _ _ ⟨b30, rfl, rfl⟩
        refine ⟨.inl rfl, ?_⟩
        refine W.cast (m' := m) (l' := hcells b30 [_, _] 31 :: l) rfl rfl ?_
        refine W.s rfl rfl rfl rfl (Ef.stB (pos := 0) (us := [_, _]) (cs' := [_, _]) rfl rfl (.t rfl) (.t rfl) SZ31 rfl rfl rfl (Nat.le_of_ble_eq_true rfl) rfl) ?_
        rintro _ _ ⟨rfl, rfl⟩
        refine ⟨.inl rfl, ?_⟩
        refine W.cast (m' := m) (l' := hcells b30 [_, _] 31 :: l) rfl rfl ?_
        refine W.end ?_
        refine NX.sub (env' := [(0, _), (2, _), (7, _), (23, _), (24, _), (25, _), (9, _)]) ⟨rfl, rfl, rfl, rfl, rfl, rfl, rfl, trivial⟩ ?_
        refine NX.then ?_
        refine Tr.region_f (fun _ => false) ?_
        refine W.q rfl rfl rfl rfl (by decide) (Yd.mv rfl (.t rfl)) ?_
        refine W.q rfl rfl rfl rfl (by decide) (Yd.fldB rfl Try.underlying31 rfl SZ23 rfl (.t rfl)) ?_
        refine W.q rfl rfl rfl rfl (by decide) (Yd.ldB (pos := 0) rfl rfl rfl ON23 (.t rfl)) ?_
        refine W.q rfl rfl rfl rfl (by decide) (Yd.fldB rfl Try.underlying31 rfl SZ23 rfl (.t rfl)) ?_
        refine W.q rfl rfl rfl rfl (by decide) (Yd.ldB (pos := 0) rfl rfl rfl ON23 (.t rfl)) ?_
        refine W.q rfl rfl rfl rfl (by decide) (Yd.orU rfl (.t rfl) (.t rfl)) ?_
        refine W.q rfl rfl rfl rfl (by decide) (Yd.orU rfl (.t rfl) (.t rfl)) ?_
        refine W.q rfl rfl rfl rfl (by decide) (Yd.as rfl (.t rfl)) ?_
        refine W.end ?_
        refine NX.sub (env' := [(0, _), (2, _), (7, _), (23, _), (24, _), (25, _)]) ⟨rfl, rfl, rfl, rfl, rfl, rfl, trivial⟩ ?_
        refine NX.drop (l' := l) (.cons _ (.refl _)) ?_
        refine NX.block ?_
        refine NX.then ?_
        refine Tr.region_f (fun _ => false) ?_
        refine W.q rfl rfl rfl rfl (by decide) (Yd.add rfl (.t rfl) .c) ?_
        refine W.q rfl rfl rfl rfl (by decide) (Yd.mv rfl (.t rfl)) ?_
        refine W.end ?_
        refine NX.sub (env' := [(0, _), (2, _), (7, _), (23, _), (24, _), (25, _)]) ⟨rfl, rfl, rfl, rfl, rfl, rfl, trivial⟩ ?_
        refine NX.sub (env' := [(0, _), (2, _), (7, _), (23, _), (24, _), (25, _)]) ⟨rfl, rfl, rfl, rfl, rfl, rfl, trivial⟩ ?_
        have hw := w64_id (n := t_24 + 1) (by omega) (by omega)
        exact NX.again n27 (t_24 + 1, (all_3 ||| (y28.cond ||| y28.thn))) (Nat.lt_succ_self _) ⟨(by rw [hw] <;> rfl), rfl, (fr_dec hnt_24), (by omega), ((hnx26 _).symm.trans hr)⟩

def follow_closed_k6 (s_5 : BitVec 32) : Option ((BitVec 32)) :=
  some s_5

def follow_closed_k16 (s_3 : BitVec 32) (nx9 : (((BitVec 32) × Bool) → Option ((BitVec 32)))) (s_15 : BitVec 32) : Option ((BitVec 32)) :=
  nx9 (s_15, (s_15 != s_3))

def follow_closed_b20 (rules_0 : List Rule) (t_19 : Int) (s_13 : BitVec 32) (nx21 : (BitVec 32) → Option ((BitVec 32))) : Option ((BitVec 32)) :=
  (geti rules_0 t_19).bind fun y23 =>
  (bif ((y23.cond &&& ~~~s_13) == 0#32) then
  nx21 (s_13 ||| y23.thn)
  else
  nx21 s_13)

def follow_closed_b8 (rules_0 : List Rule) (s_3 : BitVec 32) (more_4 : Bool) (nx9 : ((BitVec 32) × Bool) → Option ((BitVec 32))) : Option ((BitVec 32)) :=
  (bif more_4 then
  forK (σ := (BitVec 32)) (fun i s nx_ => follow_closed_b20 rules_0 i s nx_) (fun s => follow_closed_k16 s_3 nx9 s) ((rules_0.length : Int) - (0 : Int)).toNat (0 : Int) s_3
  else
  follow_closed_k6 s_3)

def follow_closed (fuel : Nat) (rules_0 : List Rule) (s_1 : (BitVec 32)) : Option ((BitVec 32)) :=
  whileK (σ := (BitVec 32) × Bool) (fun s nx_ => follow_closed_b8 rules_0 s.1 s.2 nx_) fuel (s_1, true)

set_option maxRecDepth 100000 in
theorem follow_closed_ok (w0 : World) (m : Snap) (l : List HI) (fuel : Nat) (urules_0 : Value) (rules_0 : List Rule) (hrules_0 : RS rRule m urules_0 rules_0) (s_1 : (BitVec 32)) (r : (BitVec 32)) (hr : follow_closed fuel rules_0 s_1 = some r) (w : World) (hc : cX w0 ⟨m, l⟩ w) :
    Calls Try.prog 33 [urules_0, .int .u32 (s_1.toNat : Int)].toArray w fun e w' => e = .returned (.int .u32 (r.toNat : Int)) ∧ cX w0 ⟨m, l⟩ w' := by
  unfold follow_closed at hr
  refine calls_of_Tr (N := 31) Try.func33 rfl hc rfl (Nat.le_of_ble_eq_true rfl) ?_
  refine Tr.seq ?_
  refine Tr.region_f (fun _ => false) ?_
  refine W.q rfl rfl rfl rfl (by decide) (Yd.as rfl .c) ?_
  refine W.end ?_
  refine NX.sub (env' := [(0, _), (1, _)]) ⟨rfl, rfl, trivial⟩ ?_
  refine NX.then ?_
  refine Tr.seq ?_
  refine Tr.seq ?_
  refine Tr.region_f (fun _ => false) ?_
  refine W.q rfl rfl rfl rfl (by decide) (Yd.as rfl .c) ?_
  refine W.end ?_
  refine NX.sub (env' := [(0, _), (1, _), (5, _)]) ⟨rfl, rfl, rfl, trivial⟩ ?_
  refine NX.then ?_
  refine Tr.join (S := fun env x => ∃ s_5 : BitVec 32, env = [(1, .int .u32 (s_5.toNat : Int))] ∧ x = ⟨m, l⟩ ∧ follow_closed_k6 s_5 = some r) ?_ (fun hk7 => ?_)
  · rintro _ _ ⟨s_5, rfl, rfl, hr⟩
    unfold follow_closed_k6 at hr
    try dsimp only at hr
    refine NX.then ?_
    refine Tr.seq ?_
    refine Tr.region_f (fun _ => false) ?_
    refine W.q rfl rfl rfl rfl (by decide) (Yd.mv rfl (.t rfl)) ?_
    refine W.q rfl rfl rfl rfl (by decide) (Yd.as rfl (.t rfl)) ?_
    refine W.end ?_
    refine NX.sub (env' := [(4, _)]) ⟨rfl, trivial⟩ ?_
    refine NX.then ?_
    refine Tr.ret' ?_
    refine res1 rfl rfl ?_
    intro w hc
    cases hr
    exact ⟨rfl, hc⟩
  refine Tr.block ?_
  refine Tr.sub (env' := [(0, _), (1, _), (5, _)]) ⟨rfl, rfl, rfl, trivial⟩ ?_
  refine Tr.loop (S := fun n (z : (BitVec 32) × Bool) env x => match z with | (s_3, more_4) => env = [(0, urules_0), (1, .int .u32 (s_3.toNat : Int)), (5, .bool more_4)] ∧ x = ⟨m, l⟩ ∧ whileK (σ := (BitVec 32) × Bool) (fun s nx_ => follow_closed_b8 rules_0 s.1 s.2 nx_) n (s_3, more_4) = some r) _ (s_1, true) ⟨rfl, rfl, hr⟩ ?_
  rintro n10 ⟨s_3, more_4⟩ env x ⟨rfl, rfl, hr⟩
  cases n10 with
  | zero => simp [whileK] at hr
  | succ n10 =>
    obtain ⟨nx9, hnx9, hr⟩ := whileK_succ hr
    try dsimp only at hr
    unfold follow_closed_b8 at hr
    try dsimp only at hr
    refine Tr.seq ?_
    refine Tr.seq ?_
    refine Tr.region_f (fun _ => false) ?_
    refine W.q rfl rfl rfl rfl (by decide) (Yd.mv rfl (.t rfl)) ?_
    refine W.end ?_
    refine NX.sub (env' := [(0, _), (1, _), (9, _)]) ⟨rfl, rfl, rfl, trivial⟩ ?_
    refine NX.then ?_
    refine Tr.cond (.t rfl) (fun hb => ?_) (fun hb => ?_)
    · have hr := cond_t hb hr
      refine Tr.skip' ?_
      refine NX.then ?_
      refine Tr.block ?_
      refine Tr.seq ?_
      refine Tr.region_f (fun _ => false) ?_
      refine W.q rfl rfl rfl rfl (by decide) (Yd.mv rfl (.t rfl)) ?_
      refine W.q rfl rfl rfl rfl (by decide) (Yd.as rfl (.t rfl)) ?_
      refine W.end ?_
      refine NX.sub (env' := [(0, _), (1, _), (6, _)]) ⟨rfl, rfl, rfl, trivial⟩ ?_
      refine NX.then ?_
      refine Tr.seq ?_
      refine Tr.seq ?_
      refine Tr.region_f (fun _ => false) ?_
      refine W.q rfl rfl rfl rfl (by decide) (Yd.mv rfl (.t rfl)) ?_
      refine W.q rfl rfl rfl rfl (by decide) (Yd.lenR hrules_0 rfl Try.underlying22 (.t rfl)) ?_
      refine W.q rfl rfl rfl rfl (by decide) (Yd.mv rfl .c) ?_
      refine W.end ?_
      refine NX.sub (env' := [(0, _), (1, _), (6, _), (11, _), (12, _), (13, _)]) ⟨rfl, rfl, rfl, rfl, rfl, rfl, trivial⟩ ?_
      refine NX.then ?_
      refine Tr.join (S := fun env x => ∃ s_15 : BitVec 32, env = [(0, urules_0), (1, .int .u32 (s_15.toNat : Int)), (6, .int .u32 (s_3.toNat : Int))] ∧ x = ⟨m, l⟩ ∧ follow_closed_k16 s_3 nx9 s_15 = some r) ?_ (fun hk17 => ?_)
      · rintro _ _ ⟨s_15, rfl, rfl, hr⟩
        unfold follow_closed_k16 at hr
        try dsimp only at hr
        refine NX.then ?_
        refine Tr.region_f (fun _ => false) ?_
        refine W.q rfl rfl rfl rfl (by decide) (Yd.mv rfl (.t rfl)) ?_
        refine W.q rfl rfl rfl rfl (by decide) (Yd.mv rfl (.t rfl)) ?_
        refine W.q rfl rfl rfl rfl (by decide) (Yd.neqU rfl (.t rfl) (.t rfl)) ?_
        refine W.q rfl rfl rfl rfl (by decide) (Yd.as rfl (.t rfl)) ?_
        refine W.end ?_
        refine NX.sub (env' := [(0, _), (1, _), (5, _)]) ⟨rfl, rfl, rfl, trivial⟩ ?_
        refine NX.block ?_
        refine NX.sub (env' := [(0, _), (1, _), (5, _)]) ⟨rfl, rfl, rfl, trivial⟩ ?_
        exact NX.again n10 (s_15, (s_15 != s_3)) (Nat.lt_succ_self _) ⟨rfl, rfl, ((hnx9 _).symm.trans hr)⟩
      have hlen18 := (hrules_0).2.1
      refine Tr.block ?_
      refine Tr.sub (env' := [(0, _), (1, _), (6, _), (11, _), (12, _), (13, _)]) ⟨rfl, rfl, rfl, rfl, rfl, rfl, trivial⟩ ?_
      refine Tr.loop (S := fun n (z : Int × (BitVec 32)) env x => match z with | (t_19, s_13) => env = [(0, urules_0), (1, .int .u32 (s_13.toNat : Int)), (6, .int .u32 (s_3.toNat : Int)), (11, urules_0), (12, .int .i64 ((rules_0.length : Int))), (13, .int .i64 t_19)] ∧ x = ⟨m, l⟩ ∧ n = ((rules_0.length : Int) - t_19).toNat ∧ 0 ≤ t_19 ∧ forK (σ := (BitVec 32)) (fun i s nx_ => follow_closed_b20 rules_0 i s nx_) (fun s => follow_closed_k16 s_3 nx9 s) n t_19 s_13 = some r) _ ((0 : Int), s_3) ⟨rfl, rfl, rfl, (by omega), hr⟩ ?_
      rintro n22 ⟨t_19, s_13⟩ env x ⟨rfl, rfl, hnt_19, h0t_19, hr⟩
      cases n22 with
      | zero =>
        simp only [forK] at hr
        refine Tr.seq ?_
        refine Tr.region_f (fun _ => false) ?_
        refine W.q rfl rfl rfl rfl (by decide) (Yd.lss rfl (.t rfl) (.t rfl)) ?_
        refine W.end ?_
        refine NX.sub (env' := [(0, _), (1, _), (6, _), (11, _), (12, _), (13, _), (14, _)]) ⟨rfl, rfl, rfl, rfl, rfl, rfl, rfl, trivial⟩ ?_
        refine NX.then ?_
        refine Tr.seq ?_
        refine Tr.cond (.t rfl) (fun hb => ?_) (fun hb => ?_)
        · exact absurd (hb.symm.trans (fr_end hnt_19)) (by decide)
        ·
          refine Tr.exit' (EX.then (EX.then (EX.block ?_)))
          refine NX.sub (env' := [(0, _), (1, _), (6, _)]) ⟨rfl, rfl, rfl, trivial⟩ ?_
          exact hk17 _ _ ⟨_, rfl, rfl, hr⟩
      | succ n22 =>
        obtain ⟨nx21, hnx21, hr⟩ := forK_succ hr
        try dsimp only at hr
        unfold follow_closed_b20 at hr
        try dsimp only at hr
        have hltt_19 := fr_bnd hnt_19
        refine Tr.seq ?_
        refine Tr.region_f (fun _ => false) ?_
        refine W.q rfl rfl rfl rfl (by decide) (Yd.lss rfl (.t rfl) (.t rfl)) ?_
        refine W.end ?_
        refine NX.sub (env' := [(0, _), (1, _), (6, _), (11, _), (12, _), (13, _), (14, _)]) ⟨rfl, rfl, rfl, rfl, rfl, rfl, rfl, trivial⟩ ?_
        refine NX.then ?_
        refine Tr.seq ?_
        refine Tr.cond (.t rfl) (fun hb => ?_) (fun hb => ?_)
        rotate_left
        · exact absurd (hb.symm.trans (fr_go hnt_19)) (by decide)
        ·
          refine Tr.skip' ?_
          refine NX.then ?_
          refine Tr.seq ?_
          refine Tr.block ?_
          refine Tr.seq ?_
          obtain ⟨y23, hy24, hr⟩ := bind_some hr
          refine Tr.region_f (fun i => Nat.beq i 2 || Nat.beq i 3) ?_
          refine W.q rfl rfl rfl rfl (by decide) (Yd.idxR hrules_0 hy24 rfl Try.underlying22 SZ31 (.t rfl) (.t rfl)) ?_
          refine W.q rfl rfl rfl rfl (by decide) (Yd.ldFs (us := [_, _]) hrules_0 (.refl _) hy24 rfl rfl ON31 US31 SZ31 (.t rfl)) ?_
          refine W.e rfl rfl rfl rfl (by decide) (Ef.al rfl ZR31 rfl) ?_
          rintro _ _ ⟨b25, rfl, rfl⟩
          refine ⟨.inl rfl, ?_⟩
          refine W.cast (m' := m) (l' := hcells b25 [_, _] 31 :: l) rfl rfl ?_
          refine W.s rfl rfl rfl rfl (Ef.stB (pos := 0) (us := [_, _]) (cs' := [_, _]) rfl rfl (.t rfl) (.t rfl) SZ31 rfl rfl rfl (Nat.le_of_ble_eq_true rfl) rfl) ?_
          rintro _ _ ⟨rfl, rfl⟩
          refine ⟨.inl rfl, ?_⟩
          refine W.cast (m' := m) (l' := hcells b25 [_, _] 31 :: l) rfl rfl ?_
          refine W.end ?_
          refine NX.sub (env' := [(0, _), (1, _), (6, _), (11, _), (12, _), (13, _), (8, _)]) ⟨rfl, rfl, rfl, rfl, rfl, rfl, rfl, trivial⟩ ?_
          refine NX.then ?_
          refine Tr.seq ?_
          refine Tr.region_f (fun _ => false) ?_
          refine W.q rfl rfl rfl rfl (by decide) (Yd.fldB rfl Try.underlying31 rfl SZ23 rfl (.t rfl)) ?_
          refine W.q rfl rfl rfl rfl (by decide) (Yd.ldB (pos := 0) rfl rfl rfl ON23 (.t rfl)) ?_
          refine W.q rfl rfl rfl rfl (by decide) (Yd.mv rfl (.t rfl)) ?_
          refine W.q rfl rfl rfl rfl (by decide) (Yd.andnU rfl (.t rfl) (.t rfl)) ?_
          refine W.q rfl rfl rfl rfl (by decide) (Yd.eqlU (b := 0#32) rfl (.t rfl) .c) ?_
          refine W.end ?_
          refine NX.sub (env' := [(0, _), (1, _), (6, _), (11, _), (12, _), (13, _), (8, _), (21, _)]) ⟨rfl, rfl, rfl, rfl, rfl, rfl, rfl, rfl, trivial⟩ ?_
          refine NX.then ?_
          refine Tr.cond (.t rfl) (fun hb => ?_) (fun hb => ?_)
          · have hr := cond_t hb hr
            refine Tr.region_f (fun _ => false) ?_
            refine W.q rfl rfl rfl rfl (by decide) (Yd.mv rfl (.t rfl)) ?_
            refine W.q rfl rfl rfl rfl (by decide) (Yd.fldB rfl Try.underlying31 rfl SZ23 rfl (.t rfl)) ?_
            refine W.q rfl rfl rfl rfl (by decide) (Yd.ldB (pos := 0) rfl rfl rfl ON23 (.t rfl)) ?_
            refine W.q rfl rfl rfl rfl (by decide) (Yd.orU rfl (.t rfl) (.t rfl)) ?_
            refine W.q rfl rfl rfl rfl (by decide) (Yd.as rfl (.t rfl)) ?_
            refine W.end ?_
            refine NX.sub (env' := [(0, _), (1, _), (6, _), (11, _), (12, _), (13, _)]) ⟨rfl, rfl, rfl, rfl, rfl, rfl, trivial⟩ ?_
            refine NX.drop (l' := l) (.cons _ (.refl _)) ?_
            refine NX.block ?_
            refine NX.then ?_
            refine Tr.region_f (fun _ => false) ?_
            refine W.q rfl rfl rfl rfl (by decide) (Yd.add rfl (.t rfl) .c) ?_
            refine W.q rfl rfl rfl rfl (by decide) (Yd.mv rfl (.t rfl)) ?_
            refine W.end ?_
            refine NX.sub (env' := [(0, _), (1, _), (6, _), (11, _), (12, _), (13, _)]) ⟨rfl, rfl, rfl, rfl, rfl, rfl, trivial⟩ ?_
            refine NX.sub (env' := [(0, _), (1, _), (6, _), (11, _), (12, _), (13, _)]) ⟨rfl, rfl, rfl, rfl, rfl, rfl, trivial⟩ ?_
            have hw := w64_id (n := t_19 + 1) (by omega) (by omega)
            exact NX.again n22 (t_19 + 1, (s_13 ||| y23.thn)) (Nat.lt_succ_self _) ⟨(by rw [hw] <;> rfl), rfl, (fr_dec hnt_19), (by omega), ((hnx21 _).symm.trans hr)⟩
          · have hr := cond_f hb hr
            refine Tr.skip' ?_
            refine NX.block ?_
            refine NX.then ?_
            refine Tr.region_f (fun _ => false) ?_
            refine W.q rfl rfl rfl rfl (by decide) (Yd.add rfl (.t rfl) .c) ?_
            refine W.q rfl rfl rfl rfl (by decide) (Yd.mv rfl (.t rfl)) ?_
            refine W.end ?_
            refine NX.sub (env' := [(0, _), (1, _), (6, _), (11, _), (12, _), (13, _)]) ⟨rfl, rfl, rfl, rfl, rfl, rfl, trivial⟩ ?_
            refine NX.drop (l' := l) (.cons _ (.refl _)) ?_
            refine NX.sub (env' := [(0, _), (1, _), (6, _), (11, _), (12, _), (13, _)]) ⟨rfl, rfl, rfl, rfl, rfl, rfl, trivial⟩ ?_
            have hw := w64_id (n := t_19 + 1) (by omega) (by omega)
            exact NX.again n22 (t_19 + 1, s_13) (Nat.lt_succ_self _) ⟨(by rw [hw] <;> rfl), rfl, (fr_dec hnt_19), (by omega), ((hnx21 _).symm.trans hr)⟩
    · have hr := cond_f hb hr
      refine Tr.exit' (EX.then (EX.then (EX.block ?_)))
      refine NX.sub (env' := [(1, _)]) ⟨rfl, trivial⟩ ?_
      exact hk7 _ _ ⟨_, rfl, rfl, hr⟩

def follow_Close (fuel : Nat) (n_0 : Int) (rules_1 : List Rule) (s_2 : (BitVec 32)) : Option ((BitVec 32) × Int) :=
  (follow_Check n_0 rules_1 (([s_2] : List (BitVec 32)))).bind fun r3 =>
  (bif (r3 != (0 : Int)) then
  some ((0#32, r3))
  else
  (follow_closed fuel rules_1 s_2).bind fun r5 =>
  some ((r5, (0 : Int))))

set_option maxRecDepth 100000 in
theorem follow_Close_ok (w0 : World) (m : Snap) (l : List HI) (fuel : Nat) (n_0 : Int) (urules_1 : Value) (rules_1 : List Rule) (hrules_1 : RS rRule m urules_1 rules_1) (s_2 : (BitVec 32)) (r : (BitVec 32) × Int) (hr : follow_Close fuel n_0 rules_1 s_2 = some r) (w : World) (hc : cX w0 ⟨m, l⟩ w) :
    Calls Try.prog 12 [.int .i64 n_0, urules_1, .int .u32 (s_2.toNat : Int)].toArray w fun e w' => e = .returned (.tuple #[.int .u32 (r.1.toNat : Int), .int .i64 r.2]) ∧ cX w0 ⟨m, l⟩ w' := by
  unfold follow_Close at hr
  refine calls_of_Tr (N := 20) Try.func12 rfl hc rfl (Nat.le_of_ble_eq_true rfl) ?_
  refine Tr.seq ?_
  refine Tr.region_f (fun _ => false) ?_
  refine W.q rfl rfl rfl rfl (by decide) (Yd.as rfl .c) ?_
  refine W.q rfl rfl rfl rfl (by decide) (Yd.as rfl .c) ?_
  refine W.end ?_
  refine NX.sub (env' := [(0, _), (1, _), (2, _)]) ⟨rfl, rfl, rfl, trivial⟩ ?_
  refine NX.then ?_
  refine Tr.seq ?_
  refine Tr.seq ?_
  obtain ⟨r3, hr4, hr⟩ := bind_some hr
  refine Tr.region_f (fun i => Nat.beq i 3) ?_
  refine W.q rfl rfl rfl rfl (by decide) (Yd.mv rfl (.t rfl)) ?_
  refine W.q rfl rfl rfl rfl (by decide) (Yd.mv rfl (.t rfl)) ?_
  refine W.q rfl rfl rfl rfl (by decide) (Yd.mv rfl (.t rfl)) ?_
  refine W.e rfl rfl rfl rfl (by decide) (Ef.bsT (enc := encU) (vs := [_]) (ys := [s_2]) (fun _ => rfl) IF23 rfl Try.underlying36 (by decide) rfl (.cons (.t rfl) .nil) rfl rfl (by decide)) ?_
  rintro v1 _ rfl
  refine ⟨.inl rfl, ?_⟩
  refine W.cast (m' := m) (l' := hownT 23 1 encU v1 _ :: l) rfl rfl ?_
  refine W.q rfl rfl rfl rfl (by decide) (Yd.call (v := .int .i64 r3) rfl Try.func32 rfl rfl (.cons (.t rfl) (.cons (.t rfl) (.cons (.t rfl) .nil))) (by intro x' hx w hw; obtain ⟨p0, hp0⟩ := hx.at (p := 0) rfl; obtain ⟨m2, hm2, hc2, ⟨L2, hl1, hl2⟩, hback⟩ := cX_lend hw hp0 lone_own; have hL1 : RS rU m2 _ _ := RS_of_own hl1 hl2; exact (follow_Check_ok w0 m2 _ n_0 _ _ (hrules_1.mono (hx.1.trans hm2)) _ _ hL1 _ hr4 w hc2).mono fun e w' ⟨he, hc'⟩ => ⟨he, (hback m2 _ _ w' (.refl _) hp0).2 hc'⟩)) ?_
  refine W.q rfl rfl rfl rfl (by decide) (Yd.as rfl (.t rfl)) ?_
  refine W.end ?_
  refine NX.sub (env' := [(1, _), (2, _), (8, _)]) ⟨rfl, rfl, rfl, trivial⟩ ?_
  refine NX.drop (l' := l) (.cons _ (.refl _)) ?_
  refine NX.then ?_
  refine Tr.seq ?_
  refine Tr.region_f (fun _ => false) ?_
  refine W.q rfl rfl rfl rfl (by decide) (Yd.mv rfl (.t rfl)) ?_
  refine W.q rfl rfl rfl rfl (by decide) (Yd.neq rfl (.t rfl) .c) ?_
  refine W.end ?_
  refine NX.sub (env' := [(1, _), (2, _), (8, _), (15, _)]) ⟨rfl, rfl, rfl, rfl, trivial⟩ ?_
  refine NX.then ?_
  refine Tr.cond (.t rfl) (fun hb => ?_) (fun hb => ?_)
  · have hr := cond_t hb hr
    refine Tr.seq ?_
    refine Tr.region_f (fun _ => false) ?_
    refine W.q rfl rfl rfl rfl (by decide) (Yd.mv rfl (.t rfl)) ?_
    refine W.q rfl rfl rfl rfl (by decide) (Yd.as rfl .c) ?_
    refine W.q rfl rfl rfl rfl (by decide) (Yd.as rfl (.t rfl)) ?_
    refine W.end ?_
    refine NX.sub (env' := [(6, _), (7, _)]) ⟨rfl, rfl, trivial⟩ ?_
    refine NX.then ?_
    refine Tr.ret' (RT.then ?_)
    refine res2 rfl rfl rfl ?_
    intro w hc
    cases hr
    exact ⟨rfl, hc⟩
  · have hr := cond_f hb hr
    refine Tr.skip' ?_
    refine NX.then ?_
    refine Tr.seq ?_
    obtain ⟨r5, hr6, hr⟩ := bind_some hr
    refine Tr.region_f (fun _ => false) ?_
    refine W.q rfl rfl rfl rfl (by decide) (Yd.mv rfl (.t rfl)) ?_
    refine W.q rfl rfl rfl rfl (by decide) (Yd.mv rfl (.t rfl)) ?_
    refine W.q rfl rfl rfl rfl (by decide) (Yd.call (v := .int .u32 (r5.toNat : Int)) rfl Try.func33 rfl rfl (.cons (.t rfl) (.cons (.t rfl) .nil)) (fun x' hx w hw => follow_closed_ok w0 x'.m x'.l fuel _ _ (hrules_1.mono hx.1) s_2 _ hr6 w hw)) ?_
    refine W.q rfl rfl rfl rfl (by decide) (Yd.as rfl (.t rfl)) ?_
    refine W.q rfl rfl rfl rfl (by decide) (Yd.as rfl .c) ?_
    refine W.end ?_
    refine NX.sub (env' := [(6, _), (7, _)]) ⟨rfl, rfl, trivial⟩ ?_
    refine NX.then ?_
    refine Tr.ret' ?_
    refine res2 rfl rfl rfl ?_
    intro w hc
    cases hr
    exact ⟨rfl, hc⟩

def syllogistref_Fits (n_0 : Int) (s_1 : (BitVec 32)) : Option (Bool) :=
  some (((decide (n_0 ≥ (32 : Int))) || ((decide (n_0 ≥ (0 : Int))) && (decide (s_1 < (1#32 <<< ((BitVec.ofInt 64 n_0)).toNat))))))

set_option maxRecDepth 100000 in
theorem syllogistref_Fits_ok (w0 : World) (m : Snap) (l : List HI) (n_0 : Int) (s_1 : (BitVec 32)) (r : Bool) (hr : syllogistref_Fits n_0 s_1 = some r) (w : World) (hc : cX w0 ⟨m, l⟩ w) :
    Calls Try.prog 24 [.int .i64 n_0, .int .u32 (s_1.toNat : Int)].toArray w fun e w' => e = .returned (.bool r) ∧ cX w0 ⟨m, l⟩ w' := by
  unfold syllogistref_Fits at hr
  refine calls_of_Tr (N := 18) Try.func24 rfl hc rfl (Nat.le_of_ble_eq_true rfl) ?_
  refine Tr.seq ?_
  refine Tr.region_f (fun _ => false) ?_
  refine W.q rfl rfl rfl rfl (by decide) (Yd.as rfl .c) ?_
  refine W.end ?_
  refine NX.sub (env' := [(0, _), (1, _)]) ⟨rfl, rfl, trivial⟩ ?_
  refine NX.then ?_
  refine Tr.seq ?_
  refine Tr.region_f (fun _ => false) ?_
  refine W.q rfl rfl rfl rfl (by decide) (Yd.mv rfl (.t rfl)) ?_
  refine W.q rfl rfl rfl rfl (by decide) (Yd.geq rfl (.t rfl) .c) ?_
  refine W.q rfl rfl rfl rfl (by decide) (Yd.mv rfl (.t rfl)) ?_
  refine W.g rfl rfl rfl rfl rfl (.t rfl _) rfl (by decide) (fun hG => Yd.mv rfl (.t rfl)) ?_
  refine W.g rfl rfl rfl rfl rfl (.t rfl _) rfl (by decide) (fun hG => Yd.geq rfl (.g rfl hG) .c) ?_
  refine W.g rfl rfl rfl rfl rfl (.t rfl _) rfl (by decide) (fun hG => Yd.mv rfl (.g rfl hG)) ?_
  refine W.g rfl rfl rfl rfl rfl (.g rfl _) rfl (by decide) (fun hG => Yd.mv rfl (.t rfl)) ?_
  refine W.g rfl rfl rfl rfl rfl (.g rfl _) rfl (by decide) (fun hG => Yd.mv rfl (.t rfl)) ?_
  refine W.g rfl rfl rfl rfl rfl (.g rfl _) rfl (by decide) (fun hG => Yd.cvQ rfl US3 Try.underlying39 (.g rfl hG)) ?_
  refine W.g rfl rfl rfl rfl rfl (.g rfl _) rfl (by decide) (fun hG => Yd.shlU (a := 1#32) rfl .c (.g rfl hG) (Int.natCast_nonneg _)) ?_
  refine W.g rfl rfl rfl rfl rfl (.g rfl _) rfl (by decide) (fun hG => Yd.lssU rfl (.g rfl hG) (.g rfl hG)) ?_
  refine W.g rfl rfl rfl rfl rfl (.t rfl _) rfl (by decide) (fun hG => Yd.andG rfl (.g rfl hG) .c rfl rfl hG) ?_
  refine W.q rfl rfl rfl rfl (by decide) (Yd.or rfl (.t rfl) .c rfl rfl) ?_
  refine W.q rfl rfl rfl rfl (by decide) (Yd.as rfl (.t rfl)) ?_
  refine W.end ?_
  refine NX.sub (env' := [(4, _)]) ⟨rfl, trivial⟩ ?_
  refine NX.then ?_
  refine Tr.ret' ?_
  refine res1 rfl rfl ?_
  intro w hc
  cases hr
  exact ⟨rfl, hc⟩

def syllogistref_RulesCheck_k3 (n_0 : Int) (more_2 : (BitVec 32)) : Option (Int) :=
  (syllogistref_Fits n_0 more_2).bind fun r5 =>
  (bif (!r5) then
  some ((4 : Int))
  else
  some ((0 : Int)))

def syllogistref_RulesCheck_b9 (n_0 : Int) (rules_1 : List Rule) (t_8 : Int) (nx10 : Unit → Option (Int)) : Option (Int) :=
  (geti rules_1 t_8).bind fun y12 =>
  (syllogistref_Fits n_0 y12.cond).bind fun r16 =>
  bif (!((!r16) == false) || (syllogistref_Fits n_0 y12.thn).isSome) then
  (bif ((!r16) || (!(((syllogistref_Fits n_0 y12.thn).getD false)))) then
  some ((4 : Int))
  else
  nx10 ()) else none

def syllogistref_RulesCheck (n_0 : Int) (rules_1 : List Rule) (more_2 : (BitVec 32)) : Option (Int) :=
  (bif (((decide (n_0 < (1 : Int))) || (decide (n_0 > (6 : Int)))) || (decide ((rules_1.length : Int) > (10 : Int)))) then
  some ((1 : Int))
  else
  forK (σ := Unit) (fun i s nx_ => syllogistref_RulesCheck_b9 n_0 rules_1 i nx_) (fun _ => syllogistref_RulesCheck_k3 n_0 more_2) ((rules_1.length : Int) - (0 : Int)).toNat (0 : Int) ())

set_option maxRecDepth 100000 in
theorem syllogistref_RulesCheck_ok (w0 : World) (m : Snap) (l : List HI) (n_0 : Int) (urules_1 : Value) (rules_1 : List Rule) (hrules_1 : RS rRule m urules_1 rules_1) (more_2 : (BitVec 32)) (r : Int) (hr : syllogistref_RulesCheck n_0 rules_1 more_2 = some r) (w : World) (hc : cX w0 ⟨m, l⟩ w) :
    Calls Try.prog 13 [.int .i64 n_0, urules_1, .int .u32 (more_2.toNat : Int)].toArray w fun e w' => e = .returned (.int .i64 r) ∧ cX w0 ⟨m, l⟩ w' := by
  unfold syllogistref_RulesCheck at hr
  refine calls_of_Tr (N := 43) Try.func13 rfl hc rfl (Nat.le_of_ble_eq_true rfl) ?_
  refine Tr.seq ?_
  refine Tr.region_f (fun _ => false) ?_
  refine W.q rfl rfl rfl rfl (by decide) (Yd.as rfl .c) ?_
  refine W.end ?_
  refine NX.sub (env' := [(0, _), (1, _), (2, _)]) ⟨rfl, rfl, rfl, trivial⟩ ?_
  refine NX.then ?_
  refine Tr.seq ?_
  refine Tr.seq ?_
  refine Tr.region_f (fun _ => false) ?_
  refine W.q rfl rfl rfl rfl (by decide) (Yd.mv rfl (.t rfl)) ?_
  refine W.q rfl rfl rfl rfl (by decide) (Yd.lss rfl (.t rfl) .c) ?_
  refine W.q rfl rfl rfl rfl (by decide) (Yd.mv rfl (.t rfl)) ?_
  refine W.g rfl rfl rfl rfl rfl (.t rfl _) rfl (by decide) (fun hG => Yd.mv rfl (.t rfl)) ?_
  refine W.g rfl rfl rfl rfl rfl (.t rfl _) rfl (by decide) (fun hG => Yd.gtr rfl (.g rfl hG) .c) ?_
  refine W.q rfl rfl rfl rfl (by decide) (Yd.or rfl (.t rfl) .c rfl rfl) ?_
  refine W.q rfl rfl rfl rfl (by decide) (Yd.mv rfl (.t rfl)) ?_
  refine W.g rfl rfl rfl rfl rfl (.t rfl _) rfl (by decide) (fun hG => Yd.mv rfl (.t rfl)) ?_
  refine W.g rfl rfl rfl rfl rfl (.t rfl _) rfl (by decide) (fun hG => Yd.lenR hrules_1 rfl Try.underlying22 (.g rfl hG)) ?_
  refine W.g rfl rfl rfl rfl rfl (.t rfl _) rfl (by decide) (fun hG => Yd.gtr rfl (.g rfl hG) .c) ?_
  refine W.q rfl rfl rfl rfl (by decide) (Yd.or rfl (.t rfl) .c rfl rfl) ?_
  refine W.end ?_
  refine NX.sub (env' := [(0, _), (1, _), (2, _), (19, _)]) ⟨rfl, rfl, rfl, rfl, trivial⟩ ?_
  refine NX.then ?_
  refine Tr.cond (.t rfl) (fun hb => ?_) (fun hb => ?_)
  · have hr := cond_t hb hr
    refine Tr.seq ?_
    refine Tr.region_f (fun _ => false) ?_
    refine W.q rfl rfl rfl rfl (by decide) (Yd.as rfl .c) ?_
    refine W.end ?_
    refine NX.sub (env' := [(6, _)]) ⟨rfl, trivial⟩ ?_
    refine NX.then ?_
    refine Tr.ret' (RT.then ?_)
    refine res1 rfl rfl ?_
    intro w hc
    cases hr
    exact ⟨rfl, hc⟩
  · have hr := cond_f hb hr
    refine Tr.skip' ?_
    refine NX.then ?_
    refine Tr.seq ?_
    refine Tr.seq ?_
    refine Tr.region_f (fun _ => false) ?_
    refine W.q rfl rfl rfl rfl (by decide) (Yd.mv rfl (.t rfl)) ?_
    refine W.q rfl rfl rfl rfl (by decide) (Yd.lenR hrules_1 rfl Try.underlying22 (.t rfl)) ?_
    refine W.q rfl rfl rfl rfl (by decide) (Yd.mv rfl .c) ?_
    refine W.end ?_
    refine NX.sub (env' := [(0, _), (2, _), (20, _), (21, _), (22, _)]) ⟨rfl, rfl, rfl, rfl, rfl, trivial⟩ ?_
    refine NX.then ?_
    refine Tr.join (S := fun env x => env = [(0, .int .i64 n_0), (2, .int .u32 (more_2.toNat : Int))] ∧ x = ⟨m, l⟩ ∧ syllogistref_RulesCheck_k3 n_0 more_2 = some r) ?_ (fun hk4 => ?_)
    · rintro _ _ ⟨rfl, rfl, hr⟩
      unfold syllogistref_RulesCheck_k3 at hr
      try dsimp only at hr
      refine NX.then ?_
      refine Tr.seq ?_
      refine Tr.seq ?_
      obtain ⟨r5, hr6, hr⟩ := bind_some hr
      refine Tr.region_f (fun _ => false) ?_
      refine W.q rfl rfl rfl rfl (by decide) (Yd.mv rfl (.t rfl)) ?_
      refine W.q rfl rfl rfl rfl (by decide) (Yd.mv rfl (.t rfl)) ?_
      refine W.q rfl rfl rfl rfl (by decide) (Yd.call (v := .bool r5) rfl Try.func24 rfl rfl (.cons (.t rfl) (.cons (.t rfl) .nil)) (fun x' hx w hw => syllogistref_Fits_ok w0 x'.m x'.l n_0 more_2 _ hr6 w hw)) ?_
      refine W.q rfl rfl rfl rfl (by decide) (Yd.not rfl (.t rfl)) ?_
      refine W.end ?_
      refine NX.sub (env' := [(42, _)]) ⟨rfl, trivial⟩ ?_
      refine NX.then ?_
      refine Tr.cond (.t rfl) (fun hb => ?_) (fun hb => ?_)
      · have hr := cond_t hb hr
        refine Tr.seq ?_
        refine Tr.region_f (fun _ => false) ?_
        refine W.q rfl rfl rfl rfl (by decide) (Yd.as rfl .c) ?_
        refine W.end ?_
        refine NX.sub (env' := [(6, _)]) ⟨rfl, trivial⟩ ?_
        refine NX.then ?_
        refine Tr.ret' (RT.then ?_)
        refine res1 rfl rfl ?_
        intro w hc
        cases hr
        exact ⟨rfl, hc⟩
      · have hr := cond_f hb hr
        refine Tr.skip' ?_
        refine NX.then ?_
        refine Tr.seq ?_
        refine Tr.region_f (fun _ => false) ?_
        refine W.q rfl rfl rfl rfl (by decide) (Yd.as rfl .c) ?_
        refine W.end ?_
        refine NX.sub (env' := [(6, _)]) ⟨rfl, trivial⟩ ?_
        refine NX.then ?_
        refine Tr.ret' ?_
        refine res1 rfl rfl ?_
        intro w hc
        cases hr
        exact ⟨rfl, hc⟩
    have hlen7 := (hrules_1).2.1
    refine Tr.block ?_
    refine Tr.sub (env' := [(0, _), (2, _), (20, _), (21, _), (22, _)]) ⟨rfl, rfl, rfl, rfl, rfl, trivial⟩ ?_
    refine Tr.loop (S := fun n (z : Int × Unit) env x => match z with | (t_8, _) => env = [(0, .int .i64 n_0), (2, .int .u32 (more_2.toNat : Int)), (20, urules_1), (21, .int .i64 ((rules_1.length : Int))), (22, .int .i64 t_8)] ∧ x = ⟨m, l⟩ ∧ n = ((rules_1.length : Int) - t_8).toNat ∧ 0 ≤ t_8 ∧ forK (σ := Unit) (fun i s nx_ => syllogistref_RulesCheck_b9 n_0 rules_1 i nx_) (fun _ => syllogistref_RulesCheck_k3 n_0 more_2) n t_8 () = some r) _ ((0 : Int), ()) ⟨rfl, rfl, rfl, (by omega), hr⟩ ?_
    rintro n11 ⟨t_8, _⟩ env x ⟨rfl, rfl, hnt_8, h0t_8, hr⟩
    cases n11 with
    | zero =>
      simp only [forK] at hr
      refine Tr.seq ?_
      refine Tr.region_f (fun _ => false) ?_
      refine W.q rfl rfl rfl rfl (by decide) (Yd.lss rfl (.t rfl) (.t rfl)) ?_
      refine W.end ?_
      refine NX.sub (env' := [(0, _), (2, _), (20, _), (21, _), (22, _), (23, _)]) ⟨rfl, rfl, rfl, rfl, rfl, rfl, trivial⟩ ?_
      refine NX.then ?_
      refine Tr.seq ?_
      refine Tr.cond (.t rfl) (fun hb => ?_) (fun hb => ?_)
      · exact absurd (hb.symm.trans (fr_end hnt_8)) (by decide)
      ·
        refine Tr.exit' (EX.then (EX.then (EX.block ?_)))
        refine NX.sub (env' := [(0, _), (2, _)]) ⟨rfl, rfl, trivial⟩ ?_
        exact hk4 _ _ ⟨rfl, rfl, hr⟩
    | succ n11 =>
      obtain ⟨nx10, hnx10, hr⟩ := forK_succ hr
      try dsimp only at hr
      unfold syllogistref_RulesCheck_b9 at hr
      try dsimp only at hr
      have hltt_8 := fr_bnd hnt_8
      refine Tr.seq ?_
      refine Tr.region_f (fun _ => false) ?_
      refine W.q rfl rfl rfl rfl (by decide) (Yd.lss rfl (.t rfl) (.t rfl)) ?_
      refine W.end ?_
      refine NX.sub (env' := [(0, _), (2, _), (20, _), (21, _), (22, _), (23, _)]) ⟨rfl, rfl, rfl, rfl, rfl, rfl, trivial⟩ ?_
      refine NX.then ?_
      refine Tr.seq ?_
      refine Tr.cond (.t rfl) (fun hb => ?_) (fun hb => ?_)
      rotate_left
      · exact absurd (hb.symm.trans (fr_go hnt_8)) (by decide)
      ·
        refine Tr.skip' ?_
        refine NX.then ?_
        refine Tr.seq ?_
        refine Tr.block ?_
        refine Tr.seq ?_
        obtain ⟨y12, hy13, hr⟩ := bind_some hr
        refine Tr.region_f (fun i => Nat.beq i 2 || Nat.beq i 3) ?_
        refine W.q rfl rfl rfl rfl (by decide) (Yd.idxR hrules_1 hy13 rfl Try.underlying22 SZ31 (.t rfl) (.t rfl)) ?_
        refine W.q rfl rfl rfl rfl (by decide) (Yd.ldFs (us := [_, _]) hrules_1 (.refl _) hy13 rfl rfl ON31 US31 SZ31 (.t rfl)) ?_
        refine W.e rfl rfl rfl rfl (by decide) (Ef.al rfl ZR31 rfl) ?_
        rintro _ _ ⟨b14, rfl, rfl⟩
        refine ⟨.inl rfl, ?_⟩
        refine W.cast (m' := m) (l' := hcells b14 [_, _] 31 :: l) rfl rfl ?_
        refine W.s rfl rfl rfl rfl (Ef.stB (pos := 0) (us := [_, _]) (cs' := [_, _]) rfl rfl (.t rfl) (.t rfl) SZ31 rfl rfl rfl (Nat.le_of_ble_eq_true rfl) rfl) ?_
        rintro _ _ ⟨rfl, rfl⟩
        refine ⟨.inl rfl, ?_⟩
        refine W.cast (m' := m) (l' := hcells b14 [_, _] 31 :: l) rfl rfl ?_
        refine W.end ?_
        refine NX.sub (env' := [(0, _), (2, _), (20, _), (21, _), (22, _), (8, _)]) ⟨rfl, rfl, rfl, rfl, rfl, rfl, trivial⟩ ?_
        refine NX.then ?_
        refine Tr.seq ?_
        obtain ⟨r16, hr17, hr⟩ := bind_some hr
        obtain ⟨ha18, hr⟩ := guard_some hr
        refine Tr.region_f (fun _ => false) ?_
        refine W.q rfl rfl rfl rfl (by decide) (Yd.mv rfl (.t rfl)) ?_
        refine W.q rfl rfl rfl rfl (by decide) (Yd.fldB rfl Try.underlying31 rfl SZ23 rfl (.t rfl)) ?_
        refine W.q rfl rfl rfl rfl (by decide) (Yd.ldB (pos := 0) rfl rfl rfl ON23 (.t rfl)) ?_
        refine W.q rfl rfl rfl rfl (by decide) (Yd.call (v := .bool r16) rfl Try.func24 rfl rfl (.cons (.t rfl) (.cons (.t rfl) .nil)) (fun x' hx w hw => syllogistref_Fits_ok w0 x'.m x'.l n_0 y12.cond _ hr17 w hw)) ?_
        refine W.q rfl rfl rfl rfl (by decide) (Yd.not rfl (.t rfl)) ?_
        refine W.q rfl rfl rfl rfl (by decide) (Yd.mv rfl (.t rfl)) ?_
        refine W.g rfl rfl rfl rfl rfl (.t rfl _) rfl (by decide) (fun hG => Yd.mv rfl (.t rfl)) ?_
        refine W.g rfl rfl rfl rfl rfl (.t rfl _) rfl (by decide) (fun hG => Yd.fldB rfl Try.underlying31 rfl SZ23 rfl (.t rfl)) ?_
        refine W.g rfl rfl rfl rfl rfl (.t rfl _) rfl (by decide) (fun hG => Yd.ldB (pos := 0) rfl rfl rfl ON23 (.g rfl hG)) ?_
        refine W.g rfl rfl rfl rfl rfl (.t rfl _) rfl (by decide) (fun hG => Yd.call (v := .bool ((((syllogistref_Fits n_0 y12.thn).getD false)))) rfl Try.func24 rfl rfl (.cons (.g rfl hG) (.cons (.g rfl hG) .nil)) (fun x' hx w hw => syllogistref_Fits_ok w0 x'.m x'.l n_0 y12.thn _ (gd_get (d := false) ha18 hG) w hw)) ?_
        refine W.g rfl rfl rfl rfl rfl (.t rfl _) rfl (by decide) (fun hG => Yd.not rfl (.g rfl hG)) ?_
        refine W.q rfl rfl rfl rfl (by decide) (Yd.or rfl (.t rfl) .c rfl rfl) ?_
        refine W.end ?_
        refine NX.sub (env' := [(0, _), (2, _), (20, _), (21, _), (22, _), (37, _)]) ⟨rfl, rfl, rfl, rfl, rfl, rfl, trivial⟩ ?_
        refine NX.drop (l' := l) (.cons _ (.refl _)) ?_
        refine NX.then ?_
        refine Tr.cond (.t rfl) (fun hb => ?_) (fun hb => ?_)
        · have hr := cond_t hb hr
          refine Tr.seq ?_
          refine Tr.region_f (fun _ => false) ?_
          refine W.q rfl rfl rfl rfl (by decide) (Yd.as rfl .c) ?_
          refine W.end ?_
          refine NX.sub (env' := [(6, _)]) ⟨rfl, trivial⟩ ?_
          refine NX.then ?_
          refine Tr.ret' (RT.block (RT.then (RT.then (RT.block (RT.then ?_)))))
          refine res1 rfl rfl ?_
          intro w hc
          cases hr
          exact ⟨rfl, hc⟩
        · have hr := cond_f hb hr
          refine Tr.skip' ?_
          refine NX.block ?_
          refine NX.then ?_
          refine Tr.region_f (fun _ => false) ?_
          refine W.q rfl rfl rfl rfl (by decide) (Yd.add rfl (.t rfl) .c) ?_
          refine W.q rfl rfl rfl rfl (by decide) (Yd.mv rfl (.t rfl)) ?_
          refine W.end ?_
          refine NX.sub (env' := [(0, _), (2, _), (20, _), (21, _), (22, _)]) ⟨rfl, rfl, rfl, rfl, rfl, trivial⟩ ?_
          refine NX.sub (env' := [(0, _), (2, _), (20, _), (21, _), (22, _)]) ⟨rfl, rfl, rfl, rfl, rfl, trivial⟩ ?_
          have hw := w64_id (n := t_8 + 1) (by omega) (by omega)
          exact NX.again n11 (t_8 + 1, ()) (Nat.lt_succ_self _) ⟨(by rw [hw] <;> rfl), rfl, (fr_dec hnt_8), (by omega), ((hnx10 _).symm.trans hr)⟩

def syllogistref_In (a_0 : (BitVec 32)) (b_1 : (BitVec 32)) : Option (Bool) :=
  some (((a_0 ||| b_1) == b_1))

set_option maxRecDepth 100000 in
theorem syllogistref_In_ok (w0 : World) (m : Snap) (l : List HI) (a_0 : (BitVec 32)) (b_1 : (BitVec 32)) (r : Bool) (hr : syllogistref_In a_0 b_1 = some r) (w : World) (hc : cX w0 ⟨m, l⟩ w) :
    Calls Try.prog 16 [.int .u32 (a_0.toNat : Int), .int .u32 (b_1.toNat : Int)].toArray w fun e w' => e = .returned (.bool r) ∧ cX w0 ⟨m, l⟩ w' := by
  unfold syllogistref_In at hr
  refine calls_of_Tr (N := 10) Try.func16 rfl hc rfl (Nat.le_of_ble_eq_true rfl) ?_
  refine Tr.seq ?_
  refine Tr.region_f (fun _ => false) ?_
  refine W.q rfl rfl rfl rfl (by decide) (Yd.as rfl .c) ?_
  refine W.end ?_
  refine NX.sub (env' := [(0, _), (1, _)]) ⟨rfl, rfl, trivial⟩ ?_
  refine NX.then ?_
  refine Tr.seq ?_
  refine Tr.region_f (fun _ => false) ?_
  refine W.q rfl rfl rfl rfl (by decide) (Yd.mv rfl (.t rfl)) ?_
  refine W.q rfl rfl rfl rfl (by decide) (Yd.mv rfl (.t rfl)) ?_
  refine W.q rfl rfl rfl rfl (by decide) (Yd.orU rfl (.t rfl) (.t rfl)) ?_
  refine W.q rfl rfl rfl rfl (by decide) (Yd.mv rfl (.t rfl)) ?_
  refine W.q rfl rfl rfl rfl (by decide) (Yd.eqlU rfl (.t rfl) (.t rfl)) ?_
  refine W.q rfl rfl rfl rfl (by decide) (Yd.as rfl (.t rfl)) ?_
  refine W.end ?_
  refine NX.sub (env' := [(4, _)]) ⟨rfl, trivial⟩ ?_
  refine NX.then ?_
  refine Tr.ret' ?_
  refine res1 rfl rfl ?_
  intro w hc
  cases hr
  exact ⟨rfl, hc⟩

def syllogistref_Closed_k3 : Option (Bool) :=
  some true

def syllogistref_Closed_b7 (rules_0 : List Rule) (s_1 : (BitVec 32)) (t_6 : Int) (nx8 : Unit → Option (Bool)) : Option (Bool) :=
  (geti rules_0 t_6).bind fun y10 =>
  (syllogistref_In y10.cond s_1).bind fun r14 =>
  bif (!(r14 == true) || (syllogistref_In y10.thn s_1).isSome) then
  (bif (r14 && (!(((syllogistref_In y10.thn s_1).getD false)))) then
  some false
  else
  nx8 ()) else none

def syllogistref_Closed (rules_0 : List Rule) (s_1 : (BitVec 32)) : Option (Bool) :=
  forK (σ := Unit) (fun i s nx_ => syllogistref_Closed_b7 rules_0 s_1 i nx_) (fun _ => syllogistref_Closed_k3) ((rules_0.length : Int) - (0 : Int)).toNat (0 : Int) ()

set_option maxRecDepth 100000 in
theorem syllogistref_Closed_ok (w0 : World) (m : Snap) (l : List HI) (urules_0 : Value) (rules_0 : List Rule) (hrules_0 : RS rRule m urules_0 rules_0) (s_1 : (BitVec 32)) (r : Bool) (hr : syllogistref_Closed rules_0 s_1 = some r) (w : World) (hc : cX w0 ⟨m, l⟩ w) :
    Calls Try.prog 18 [urules_0, .int .u32 (s_1.toNat : Int)].toArray w fun e w' => e = .returned (.bool r) ∧ cX w0 ⟨m, l⟩ w' := by
  unfold syllogistref_Closed at hr
  refine calls_of_Tr (N := 25) Try.func18 rfl hc rfl (Nat.le_of_ble_eq_true rfl) ?_
  refine Tr.seq ?_
  refine Tr.region_f (fun _ => false) ?_
  refine W.q rfl rfl rfl rfl (by decide) (Yd.as rfl .c) ?_
  refine W.end ?_
  refine NX.sub (env' := [(0, _), (1, _)]) ⟨rfl, rfl, trivial⟩ ?_
  refine NX.then ?_
  refine Tr.seq ?_
  refine Tr.seq ?_
  refine Tr.region_f (fun _ => false) ?_
  refine W.q rfl rfl rfl rfl (by decide) (Yd.mv rfl (.t rfl)) ?_
  refine W.q rfl rfl rfl rfl (by decide) (Yd.lenR hrules_0 rfl Try.underlying22 (.t rfl)) ?_
  refine W.q rfl rfl rfl rfl (by decide) (Yd.mv rfl .c) ?_
  refine W.end ?_
  refine NX.sub (env' := [(1, _), (7, _), (8, _), (9, _)]) ⟨rfl, rfl, rfl, rfl, trivial⟩ ?_
  refine NX.then ?_
  refine Tr.join (S := fun env x => env = [] ∧ x = ⟨m, l⟩ ∧ syllogistref_Closed_k3 = some r) ?_ (fun hk4 => ?_)
  · rintro _ _ ⟨rfl, rfl, hr⟩
    unfold syllogistref_Closed_k3 at hr
    try dsimp only at hr
    refine NX.then ?_
    refine Tr.seq ?_
    refine Tr.region_f (fun _ => false) ?_
    refine W.q rfl rfl rfl rfl (by decide) (Yd.as rfl .c) ?_
    refine W.end ?_
    refine NX.sub (env' := [(4, _)]) ⟨rfl, trivial⟩ ?_
    refine NX.then ?_
    refine Tr.ret' ?_
    refine res1 rfl rfl ?_
    intro w hc
    cases hr
    exact ⟨rfl, hc⟩
  have hlen5 := (hrules_0).2.1
  refine Tr.block ?_
  refine Tr.sub (env' := [(1, _), (7, _), (8, _), (9, _)]) ⟨rfl, rfl, rfl, rfl, trivial⟩ ?_
  refine Tr.loop (S := fun n (z : Int × Unit) env x => match z with | (t_6, _) => env = [(1, .int .u32 (s_1.toNat : Int)), (7, urules_0), (8, .int .i64 ((rules_0.length : Int))), (9, .int .i64 t_6)] ∧ x = ⟨m, l⟩ ∧ n = ((rules_0.length : Int) - t_6).toNat ∧ 0 ≤ t_6 ∧ forK (σ := Unit) (fun i s nx_ => syllogistref_Closed_b7 rules_0 s_1 i nx_) (fun _ => syllogistref_Closed_k3) n t_6 () = some r) _ ((0 : Int), ()) ⟨rfl, rfl, rfl, (by omega), hr⟩ ?_
  rintro n9 ⟨t_6, _⟩ env x ⟨rfl, rfl, hnt_6, h0t_6, hr⟩
  cases n9 with
  | zero =>
    simp only [forK] at hr
    refine Tr.seq ?_
    refine Tr.region_f (fun _ => false) ?_
    refine W.q rfl rfl rfl rfl (by decide) (Yd.lss rfl (.t rfl) (.t rfl)) ?_
    refine W.end ?_
    refine NX.sub (env' := [(1, _), (7, _), (8, _), (9, _), (10, _)]) ⟨rfl, rfl, rfl, rfl, rfl, trivial⟩ ?_
    refine NX.then ?_
    refine Tr.seq ?_
    refine Tr.cond (.t rfl) (fun hb => ?_) (fun hb => ?_)
    · exact absurd (hb.symm.trans (fr_end hnt_6)) (by decide)
    ·
      refine Tr.exit' (EX.then (EX.then (EX.block ?_)))
      refine NX.sub (env' := []) trivial ?_
      exact hk4 _ _ ⟨rfl, rfl, hr⟩
  | succ n9 =>
    obtain ⟨nx8, hnx8, hr⟩ := forK_succ hr
    try dsimp only at hr
    unfold syllogistref_Closed_b7 at hr
    try dsimp only at hr
    have hltt_6 := fr_bnd hnt_6
    refine Tr.seq ?_
    refine Tr.region_f (fun _ => false) ?_
    refine W.q rfl rfl rfl rfl (by decide) (Yd.lss rfl (.t rfl) (.t rfl)) ?_
    refine W.end ?_
    refine NX.sub (env' := [(1, _), (7, _), (8, _), (9, _), (10, _)]) ⟨rfl, rfl, rfl, rfl, rfl, trivial⟩ ?_
    refine NX.then ?_
    refine Tr.seq ?_
    refine Tr.cond (.t rfl) (fun hb => ?_) (fun hb => ?_)
    rotate_left
    · exact absurd (hb.symm.trans (fr_go hnt_6)) (by decide)
    ·
      refine Tr.skip' ?_
      refine NX.then ?_
      refine Tr.seq ?_
      refine Tr.block ?_
      refine Tr.seq ?_
      obtain ⟨y10, hy11, hr⟩ := bind_some hr
      refine Tr.region_f (fun i => Nat.beq i 2 || Nat.beq i 3) ?_
      refine W.q rfl rfl rfl rfl (by decide) (Yd.idxR hrules_0 hy11 rfl Try.underlying22 SZ31 (.t rfl) (.t rfl)) ?_
      refine W.q rfl rfl rfl rfl (by decide) (Yd.ldFs (us := [_, _]) hrules_0 (.refl _) hy11 rfl rfl ON31 US31 SZ31 (.t rfl)) ?_
      refine W.e rfl rfl rfl rfl (by decide) (Ef.al rfl ZR31 rfl) ?_
      rintro _ _ ⟨b12, rfl, rfl⟩
      refine ⟨.inl rfl, ?_⟩
      refine W.cast (m' := m) (l' := hcells b12 [_, _] 31 :: l) rfl rfl ?_
      refine W.s rfl rfl rfl rfl (Ef.stB (pos := 0) (us := [_, _]) (cs' := [_, _]) rfl rfl (.t rfl) (.t rfl) SZ31 rfl rfl rfl (Nat.le_of_ble_eq_true rfl) rfl) ?_
      rintro _ _ ⟨rfl, rfl⟩
      refine ⟨.inl rfl, ?_⟩
      refine W.cast (m' := m) (l' := hcells b12 [_, _] 31 :: l) rfl rfl ?_
      refine W.end ?_
      refine NX.sub (env' := [(1, _), (7, _), (8, _), (9, _), (6, _)]) ⟨rfl, rfl, rfl, rfl, rfl, trivial⟩ ?_
      refine NX.then ?_
      refine Tr.seq ?_
      obtain ⟨r14, hr15, hr⟩ := bind_some hr
      obtain ⟨ha16, hr⟩ := guard_some hr
      refine Tr.region_f (fun _ => false) ?_
      refine W.q rfl rfl rfl rfl (by decide) (Yd.fldB rfl Try.underlying31 rfl SZ23 rfl (.t rfl)) ?_
      refine W.q rfl rfl rfl rfl (by decide) (Yd.ldB (pos := 0) rfl rfl rfl ON23 (.t rfl)) ?_
      refine W.q rfl rfl rfl rfl (by decide) (Yd.mv rfl (.t rfl)) ?_
      refine W.q rfl rfl rfl rfl (by decide) (Yd.call (v := .bool r14) rfl Try.func16 rfl rfl (.cons (.t rfl) (.cons (.t rfl) .nil)) (fun x' hx w hw => syllogistref_In_ok w0 x'.m x'.l y10.cond s_1 _ hr15 w hw)) ?_
      refine W.q rfl rfl rfl rfl (by decide) (Yd.mv rfl (.t rfl)) ?_
      refine W.g rfl rfl rfl rfl rfl (.t rfl _) rfl (by decide) (fun hG => Yd.fldB rfl Try.underlying31 rfl SZ23 rfl (.t rfl)) ?_
      refine W.g rfl rfl rfl rfl rfl (.t rfl _) rfl (by decide) (fun hG => Yd.ldB (pos := 0) rfl rfl rfl ON23 (.g rfl hG)) ?_
      refine W.g rfl rfl rfl rfl rfl (.t rfl _) rfl (by decide) (fun hG => Yd.mv rfl (.t rfl)) ?_
      refine W.g rfl rfl rfl rfl rfl (.t rfl _) rfl (by decide) (fun hG => Yd.call (v := .bool ((((syllogistref_In y10.thn s_1).getD false)))) rfl Try.func16 rfl rfl (.cons (.g rfl hG) (.cons (.g rfl hG) .nil)) (fun x' hx w hw => syllogistref_In_ok w0 x'.m x'.l y10.thn s_1 _ (gd_get (d := false) ha16 hG) w hw)) ?_
      refine W.g rfl rfl rfl rfl rfl (.t rfl _) rfl (by decide) (fun hG => Yd.not rfl (.g rfl hG)) ?_
      refine W.q rfl rfl rfl rfl (by decide) (Yd.and rfl (.t rfl) .c rfl rfl) ?_
      refine W.end ?_
      refine NX.sub (env' := [(1, _), (7, _), (8, _), (9, _), (23, _)]) ⟨rfl, rfl, rfl, rfl, rfl, trivial⟩ ?_
      refine NX.drop (l' := l) (.cons _ (.refl _)) ?_
      refine NX.then ?_
      refine Tr.cond (.t rfl) (fun hb => ?_) (fun hb => ?_)
      · have hr := cond_t hb hr
        refine Tr.seq ?_
        refine Tr.region_f (fun _ => false) ?_
        refine W.q rfl rfl rfl rfl (by decide) (Yd.as rfl .c) ?_
        refine W.end ?_
        refine NX.sub (env' := [(4, _)]) ⟨rfl, trivial⟩ ?_
        refine NX.then ?_
        refine Tr.ret' (RT.block (RT.then (RT.then (RT.block (RT.then ?_)))))
        refine res1 rfl rfl ?_
        intro w hc
        cases hr
        exact ⟨rfl, hc⟩
      · have hr := cond_f hb hr
        refine Tr.skip' ?_
        refine NX.block ?_
        refine NX.then ?_
        refine Tr.region_f (fun _ => false) ?_
        refine W.q rfl rfl rfl rfl (by decide) (Yd.add rfl (.t rfl) .c) ?_
        refine W.q rfl rfl rfl rfl (by decide) (Yd.mv rfl (.t rfl)) ?_
        refine W.end ?_
        refine NX.sub (env' := [(1, _), (7, _), (8, _), (9, _)]) ⟨rfl, rfl, rfl, rfl, trivial⟩ ?_
        refine NX.sub (env' := [(1, _), (7, _), (8, _), (9, _)]) ⟨rfl, rfl, rfl, rfl, trivial⟩ ?_
        have hw := w64_id (n := t_6 + 1) (by omega) (by omega)
        exact NX.again n9 (t_6 + 1, ()) (Nat.lt_succ_self _) ⟨(by rw [hw] <;> rfl), rfl, (fr_dec hnt_6), (by omega), ((hnx8 _).symm.trans hr)⟩

def syllogistref_Close_k6 (out_5 : BitVec 32) : Option ((BitVec 32)) :=
  some out_5

def syllogistref_Close_b9 (rules_1 : List Rule) (s_2 : (BitVec 32)) (c_8 : BitVec 32) (out_3 : BitVec 32) (nx10 : (BitVec 32) → Option ((BitVec 32))) : Option ((BitVec 32)) :=
  (syllogistref_In s_2 c_8).bind fun r12 =>
  bif (!(r12 == true) || (syllogistref_Closed rules_1 c_8).isSome) then
  (bif (r12 && (((syllogistref_Closed rules_1 c_8).getD false))) then
  nx10 (out_3 &&& c_8)
  else
  nx10 out_3) else none

def syllogistref_Close (n_0 : Int) (rules_1 : List Rule) (s_2 : (BitVec 32)) : Option ((BitVec 32)) :=
  forK (σ := (BitVec 32)) (fun i s nx_ => syllogistref_Close_b9 rules_1 s_2 i s nx_) (fun s => syllogistref_Close_k6 s) (((1#32 <<< ((BitVec.ofInt 64 n_0)).toNat)).toNat - (0#32).toNat) 0#32 (((1#32 <<< ((BitVec.ofInt 64 n_0)).toNat) - 1#32))

set_option maxRecDepth 100000 in
theorem syllogistref_Close_ok (w0 : World) (m : Snap) (l : List HI) (n_0 : Int) (urules_1 : Value) (rules_1 : List Rule) (hrules_1 : RS rRule m urules_1 rules_1) (s_2 : (BitVec 32)) (r : (BitVec 32)) (hr : syllogistref_Close n_0 rules_1 s_2 = some r) (w : World) (hc : cX w0 ⟨m, l⟩ w) :
    Calls Try.prog 14 [.int .i64 n_0, urules_1, .int .u32 (s_2.toNat : Int)].toArray w fun e w' => e = .returned (.int .u32 (r.toNat : Int)) ∧ cX w0 ⟨m, l⟩ w' := by
  unfold syllogistref_Close at hr
  refine calls_of_Tr (N := 32) Try.func14 rfl hc rfl (Nat.le_of_ble_eq_true rfl) ?_
  refine Tr.seq ?_
  refine Tr.region_f (fun _ => false) ?_
  refine W.q rfl rfl rfl rfl (by decide) (Yd.as rfl .c) ?_
  refine W.end ?_
  refine NX.sub (env' := [(0, _), (1, _), (2, _)]) ⟨rfl, rfl, rfl, trivial⟩ ?_
  refine NX.then ?_
  refine Tr.seq ?_
  refine Tr.region_f (fun _ => false) ?_
  refine W.q rfl rfl rfl rfl (by decide) (Yd.mv rfl (.t rfl)) ?_
  refine W.q rfl rfl rfl rfl (by decide) (Yd.cvQ rfl US3 Try.underlying39 (.t rfl)) ?_
  refine W.q rfl rfl rfl rfl (by decide) (Yd.shlU (a := 1#32) rfl .c (.t rfl) (Int.natCast_nonneg _)) ?_
  refine W.q rfl rfl rfl rfl (by decide) (Yd.subU (b := 1#32) rfl (.t rfl) .c) ?_
  refine W.q rfl rfl rfl rfl (by decide) (Yd.as rfl (.t rfl)) ?_
  refine W.end ?_
  refine NX.sub (env' := [(0, _), (1, _), (2, _), (7, _)]) ⟨rfl, rfl, rfl, rfl, trivial⟩ ?_
  refine NX.then ?_
  refine Tr.seq ?_
  refine Tr.seq ?_
  refine Tr.region_f (fun _ => false) ?_
  refine W.q rfl rfl rfl rfl (by decide) (Yd.as rfl .c) ?_
  refine W.end ?_
  refine NX.sub (env' := [(0, _), (1, _), (2, _), (7, _), (8, _)]) ⟨rfl, rfl, rfl, rfl, rfl, trivial⟩ ?_
  refine NX.then ?_
  refine Tr.join (S := fun env x => ∃ out_5 : BitVec 32, env = [(7, .int .u32 (out_5.toNat : Int))] ∧ x = ⟨m, l⟩ ∧ syllogistref_Close_k6 out_5 = some r) ?_ (fun hk7 => ?_)
  · rintro _ _ ⟨out_5, rfl, rfl, hr⟩
    unfold syllogistref_Close_k6 at hr
    try dsimp only at hr
    refine NX.then ?_
    refine Tr.seq ?_
    refine Tr.region_f (fun _ => false) ?_
    refine W.q rfl rfl rfl rfl (by decide) (Yd.mv rfl (.t rfl)) ?_
    refine W.q rfl rfl rfl rfl (by decide) (Yd.as rfl (.t rfl)) ?_
    refine W.end ?_
    refine NX.sub (env' := [(6, _)]) ⟨rfl, trivial⟩ ?_
    refine NX.then ?_
    refine Tr.ret' ?_
    refine res1 rfl rfl ?_
    intro w hc
    cases hr
    exact ⟨rfl, hc⟩
  refine Tr.block ?_
  refine Tr.sub (env' := [(0, _), (1, _), (2, _), (7, _), (8, _)]) ⟨rfl, rfl, rfl, rfl, rfl, trivial⟩ ?_
  refine Tr.loop (S := fun n (z : BitVec 32 × (BitVec 32)) env x => match z with | (c_8, out_3) => env = [(0, .int .i64 n_0), (1, urules_1), (2, .int .u32 (s_2.toNat : Int)), (7, .int .u32 (out_3.toNat : Int)), (8, .int .u32 (c_8.toNat : Int))] ∧ x = ⟨m, l⟩ ∧ n = ((1#32 <<< ((BitVec.ofInt 64 n_0)).toNat)).toNat - c_8.toNat ∧ forK (σ := (BitVec 32)) (fun i s nx_ => syllogistref_Close_b9 rules_1 s_2 i s nx_) (fun s => syllogistref_Close_k6 s) n c_8 out_3 = some r) _ (0#32, ((1#32 <<< ((BitVec.ofInt 64 n_0)).toNat) - 1#32)) ⟨rfl, rfl, rfl, hr⟩ ?_
  rintro n11 ⟨c_8, out_3⟩ env x ⟨rfl, rfl, hnc_8, hr⟩
  cases n11 with
  | zero =>
    simp only [forK] at hr
    refine Tr.seq ?_
    refine Tr.seq ?_
    refine Tr.region_f (fun _ => false) ?_
    refine W.q rfl rfl rfl rfl (by decide) (Yd.mv rfl (.t rfl)) ?_
    refine W.q rfl rfl rfl rfl (by decide) (Yd.mv rfl (.t rfl)) ?_
    refine W.q rfl rfl rfl rfl (by decide) (Yd.cvQ rfl US3 Try.underlying39 (.t rfl)) ?_
    refine W.q rfl rfl rfl rfl (by decide) (Yd.shlU (a := 1#32) rfl .c (.t rfl) (Int.natCast_nonneg _)) ?_
    refine W.q rfl rfl rfl rfl (by decide) (Yd.lssU rfl (.t rfl) (.t rfl)) ?_
    refine W.end ?_
    refine NX.sub (env' := [(0, _), (1, _), (2, _), (7, _), (8, _), (17, _)]) ⟨rfl, rfl, rfl, rfl, rfl, rfl, trivial⟩ ?_
    refine NX.then ?_
    refine Tr.cond (.t rfl) (fun hb => ?_) (fun hb => ?_)
    · exact absurd (hb.symm.trans (fu_end hnc_8)) (by decide)
    ·
      refine Tr.exit' (EX.then (EX.then (EX.block ?_)))
      refine NX.sub (env' := [(7, _)]) ⟨rfl, trivial⟩ ?_
      exact hk7 _ _ ⟨_, rfl, rfl, hr⟩
  | succ n11 =>
    obtain ⟨nx10, hnx10, hr⟩ := forK_succ hr
    try dsimp only at hr
    unfold syllogistref_Close_b9 at hr
    try dsimp only at hr
    refine Tr.seq ?_
    refine Tr.seq ?_
    refine Tr.region_f (fun _ => false) ?_
    refine W.q rfl rfl rfl rfl (by decide) (Yd.mv rfl (.t rfl)) ?_
    refine W.q rfl rfl rfl rfl (by decide) (Yd.mv rfl (.t rfl)) ?_
    refine W.q rfl rfl rfl rfl (by decide) (Yd.cvQ rfl US3 Try.underlying39 (.t rfl)) ?_
    refine W.q rfl rfl rfl rfl (by decide) (Yd.shlU (a := 1#32) rfl .c (.t rfl) (Int.natCast_nonneg _)) ?_
    refine W.q rfl rfl rfl rfl (by decide) (Yd.lssU rfl (.t rfl) (.t rfl)) ?_
    refine W.end ?_
    refine NX.sub (env' := [(0, _), (1, _), (2, _), (7, _), (8, _), (17, _)]) ⟨rfl, rfl, rfl, rfl, rfl, rfl, trivial⟩ ?_
    refine NX.then ?_
    refine Tr.cond (.t rfl) (fun hb => ?_) (fun hb => ?_)
    rotate_left
    · exact absurd (hb.symm.trans (fu_go hnc_8)) (by decide)
    ·
      refine Tr.skip' ?_
      refine NX.then ?_
      refine Tr.seq ?_
      refine Tr.block ?_
      refine Tr.seq ?_
      obtain ⟨r12, hr13, hr⟩ := bind_some hr
      obtain ⟨ha14, hr⟩ := guard_some hr
      refine Tr.region_f (fun _ => false) ?_
      refine W.q rfl rfl rfl rfl (by decide) (Yd.mv rfl (.t rfl)) ?_
      refine W.q rfl rfl rfl rfl (by decide) (Yd.mv rfl (.t rfl)) ?_
      refine W.q rfl rfl rfl rfl (by decide) (Yd.call (v := .bool r12) rfl Try.func16 rfl rfl (.cons (.t rfl) (.cons (.t rfl) .nil)) (fun x' hx w hw => syllogistref_In_ok w0 x'.m x'.l s_2 c_8 _ hr13 w hw)) ?_
      refine W.q rfl rfl rfl rfl (by decide) (Yd.mv rfl (.t rfl)) ?_
      refine W.g rfl rfl rfl rfl rfl (.t rfl _) rfl (by decide) (fun hG => Yd.mv rfl (.t rfl)) ?_
      refine W.g rfl rfl rfl rfl rfl (.t rfl _) rfl (by decide) (fun hG => Yd.mv rfl (.t rfl)) ?_
      refine W.g rfl rfl rfl rfl rfl (.t rfl _) rfl (by decide) (fun hG => Yd.call (v := .bool ((((syllogistref_Closed rules_1 c_8).getD false)))) rfl Try.func18 rfl rfl (.cons (.g rfl hG) (.cons (.g rfl hG) .nil)) (fun x' hx w hw => syllogistref_Closed_ok w0 x'.m x'.l _ _ (hrules_1.mono hx.1) c_8 _ (gd_get (d := false) ha14 hG) w hw)) ?_
      refine W.q rfl rfl rfl rfl (by decide) (Yd.and rfl (.t rfl) .c rfl rfl) ?_
      refine W.end ?_
      refine NX.sub (env' := [(0, _), (1, _), (2, _), (7, _), (8, _), (27, _)]) ⟨rfl, rfl, rfl, rfl, rfl, rfl, trivial⟩ ?_
      refine NX.then ?_
      refine Tr.cond (.t rfl) (fun hb => ?_) (fun hb => ?_)
      · have hr := cond_t hb hr
        refine Tr.region_f (fun _ => false) ?_
        refine W.q rfl rfl rfl rfl (by decide) (Yd.mv rfl (.t rfl)) ?_
        refine W.q rfl rfl rfl rfl (by decide) (Yd.mv rfl (.t rfl)) ?_
        refine W.q rfl rfl rfl rfl (by decide) (Yd.andU rfl (.t rfl) (.t rfl)) ?_
        refine W.q rfl rfl rfl rfl (by decide) (Yd.as rfl (.t rfl)) ?_
        refine W.end ?_
        refine NX.sub (env' := [(0, _), (1, _), (2, _), (7, _), (8, _)]) ⟨rfl, rfl, rfl, rfl, rfl, trivial⟩ ?_
        refine NX.block ?_
        refine NX.then ?_
        refine Tr.region_f (fun _ => false) ?_
        refine W.q rfl rfl rfl rfl (by decide) (Yd.mv rfl (.t rfl)) ?_
        refine W.q rfl rfl rfl rfl (by decide) (Yd.addU (b := 1#32) rfl (.t rfl) .c) ?_
        refine W.q rfl rfl rfl rfl (by decide) (Yd.as rfl (.t rfl)) ?_
        refine W.end ?_
        refine NX.sub (env' := [(0, _), (1, _), (2, _), (7, _), (8, _)]) ⟨rfl, rfl, rfl, rfl, rfl, trivial⟩ ?_
        refine NX.sub (env' := [(0, _), (1, _), (2, _), (7, _), (8, _)]) ⟨rfl, rfl, rfl, rfl, rfl, trivial⟩ ?_
        exact NX.again n11 (c_8 + 1, (out_3 &&& c_8)) (Nat.lt_succ_self _) ⟨rfl, rfl, (fu_dec hnc_8), ((hnx10 _).symm.trans hr)⟩
      · have hr := cond_f hb hr
        refine Tr.skip' ?_
        refine NX.block ?_
        refine NX.then ?_
        refine Tr.region_f (fun _ => false) ?_
        refine W.q rfl rfl rfl rfl (by decide) (Yd.mv rfl (.t rfl)) ?_
        refine W.q rfl rfl rfl rfl (by decide) (Yd.addU (b := 1#32) rfl (.t rfl) .c) ?_
        refine W.q rfl rfl rfl rfl (by decide) (Yd.as rfl (.t rfl)) ?_
        refine W.end ?_
        refine NX.sub (env' := [(0, _), (1, _), (2, _), (7, _), (8, _)]) ⟨rfl, rfl, rfl, rfl, rfl, trivial⟩ ?_
        refine NX.sub (env' := [(0, _), (1, _), (2, _), (7, _), (8, _)]) ⟨rfl, rfl, rfl, rfl, rfl, trivial⟩ ?_
        exact NX.again n11 (c_8 + 1, out_3) (Nat.lt_succ_self _) ⟨rfl, rfl, (fu_dec hnc_8), ((hnx10 _).symm.trans hr)⟩

def syllogistlaw_FollowCloses (fuel : Nat) (n_0 : Int) (rules_1 : List Rule) (s_2 : (BitVec 32)) : Option (Bool) :=
  (follow_Close fuel n_0 rules_1 s_2).bind fun r1 =>
  (syllogistref_RulesCheck n_0 rules_1 s_2).bind fun r3 =>
  (bif (r3 != (0 : Int)) then
  some (((r1.2 == r3) && (r1.1 == 0#32)))
  else
  bif (!((r1.2 == (0 : Int)) == true) || (syllogistref_Close n_0 rules_1 s_2).isSome) then
  some (((r1.2 == (0 : Int)) && (r1.1 == (((syllogistref_Close n_0 rules_1 s_2).getD (0#32)))))) else none)

set_option maxRecDepth 100000 in
theorem syllogistlaw_FollowCloses_ok (w0 : World) (m : Snap) (l : List HI) (fuel : Nat) (n_0 : Int) (urules_1 : Value) (rules_1 : List Rule) (hrules_1 : RS rRule m urules_1 rules_1) (s_2 : (BitVec 32)) (r : Bool) (hr : syllogistlaw_FollowCloses fuel n_0 rules_1 s_2 = some r) (w : World) (hc : cX w0 ⟨m, l⟩ w) :
    Calls Try.prog 3 [.int .i64 n_0, urules_1, .int .u32 (s_2.toNat : Int)].toArray w fun e w' => e = .returned (.bool r) ∧ cX w0 ⟨m, l⟩ w' := by
  unfold syllogistlaw_FollowCloses at hr
  refine calls_of_Tr (N := 40) Try.func3 rfl hc rfl (Nat.le_of_ble_eq_true rfl) ?_
  refine Tr.seq ?_
  refine Tr.region_f (fun _ => false) ?_
  refine W.q rfl rfl rfl rfl (by decide) (Yd.as rfl .c) ?_
  refine W.end ?_
  refine NX.sub (env' := [(0, _), (1, _), (2, _)]) ⟨rfl, rfl, rfl, trivial⟩ ?_
  refine NX.then ?_
  refine Tr.seq ?_
  obtain ⟨r1, hr2, hr⟩ := bind_some hr
  refine Tr.region_f (fun _ => false) ?_
  refine W.q rfl rfl rfl rfl (by decide) (Yd.mv rfl (.t rfl)) ?_
  refine W.q rfl rfl rfl rfl (by decide) (Yd.mv rfl (.t rfl)) ?_
  refine W.q rfl rfl rfl rfl (by decide) (Yd.mv rfl (.t rfl)) ?_
  refine W.q rfl rfl rfl rfl (by decide) (Yd.call (v := .tuple #[.int .u32 (r1.1.toNat : Int), .int .i64 r1.2]) rfl Try.func12 rfl rfl (.cons (.t rfl) (.cons (.t rfl) (.cons (.t rfl) .nil))) (fun x' hx w hw => follow_Close_ok w0 x'.m x'.l fuel n_0 _ _ (hrules_1.mono hx.1) s_2 _ hr2 w hw)) ?_
  refine W.q rfl rfl rfl rfl (by decide) (Yd.mv rfl (.t rfl)) ?_
  refine W.q rfl rfl rfl rfl (by decide) (Yd.ext rfl (.t rfl) rfl) ?_
  refine W.q rfl rfl rfl rfl (by decide) (Yd.ext rfl (.t rfl) rfl) ?_
  refine W.q rfl rfl rfl rfl (by decide) (Yd.as rfl (.t rfl)) ?_
  refine W.q rfl rfl rfl rfl (by decide) (Yd.as rfl (.t rfl)) ?_
  refine W.end ?_
  refine NX.sub (env' := [(0, _), (1, _), (2, _), (7, _), (8, _)]) ⟨rfl, rfl, rfl, rfl, rfl, trivial⟩ ?_
  refine NX.then ?_
  refine Tr.seq ?_
  obtain ⟨r3, hr4, hr⟩ := bind_some hr
  refine Tr.region_f (fun _ => false) ?_
  refine W.q rfl rfl rfl rfl (by decide) (Yd.mv rfl (.t rfl)) ?_
  refine W.q rfl rfl rfl rfl (by decide) (Yd.mv rfl (.t rfl)) ?_
  refine W.q rfl rfl rfl rfl (by decide) (Yd.mv rfl (.t rfl)) ?_
  refine W.q rfl rfl rfl rfl (by decide) (Yd.call (v := .int .i64 r3) rfl Try.func13 rfl rfl (.cons (.t rfl) (.cons (.t rfl) (.cons (.t rfl) .nil))) (fun x' hx w hw => syllogistref_RulesCheck_ok w0 x'.m x'.l n_0 _ _ (hrules_1.mono hx.1) s_2 _ hr4 w hw)) ?_
  refine W.q rfl rfl rfl rfl (by decide) (Yd.as rfl (.t rfl)) ?_
  refine W.end ?_
  refine NX.sub (env' := [(0, _), (1, _), (2, _), (7, _), (8, _), (9, _)]) ⟨rfl, rfl, rfl, rfl, rfl, rfl, trivial⟩ ?_
  refine NX.then ?_
  refine Tr.seq ?_
  refine Tr.seq ?_
  refine Tr.region_f (fun _ => false) ?_
  refine W.q rfl rfl rfl rfl (by decide) (Yd.mv rfl (.t rfl)) ?_
  refine W.q rfl rfl rfl rfl (by decide) (Yd.neq rfl (.t rfl) .c) ?_
  refine W.end ?_
  refine NX.sub (env' := [(0, _), (1, _), (2, _), (7, _), (8, _), (9, _), (22, _)]) ⟨rfl, rfl, rfl, rfl, rfl, rfl, rfl, trivial⟩ ?_
  refine NX.then ?_
  refine Tr.cond (.t rfl) (fun hb => ?_) (fun hb => ?_)
  · have hr := cond_t hb hr
    refine Tr.seq ?_
    refine Tr.region_f (fun _ => false) ?_
    refine W.q rfl rfl rfl rfl (by decide) (Yd.mv rfl (.t rfl)) ?_
    refine W.q rfl rfl rfl rfl (by decide) (Yd.mv rfl (.t rfl)) ?_
    refine W.q rfl rfl rfl rfl (by decide) (Yd.eql rfl (.t rfl) (.t rfl)) ?_
    refine W.q rfl rfl rfl rfl (by decide) (Yd.mv rfl (.t rfl)) ?_
    refine W.g rfl rfl rfl rfl rfl (.t rfl _) rfl (by decide) (fun hG => Yd.mv rfl (.t rfl)) ?_
    refine W.g rfl rfl rfl rfl rfl (.t rfl _) rfl (by decide) (fun hG => Yd.eqlU (b := 0#32) rfl (.g rfl hG) .c) ?_
    refine W.q rfl rfl rfl rfl (by decide) (Yd.and rfl (.t rfl) .c rfl rfl) ?_
    refine W.q rfl rfl rfl rfl (by decide) (Yd.as rfl (.t rfl)) ?_
    refine W.end ?_
    refine NX.sub (env' := [(6, _)]) ⟨rfl, trivial⟩ ?_
    refine NX.then ?_
    refine Tr.ret' (RT.then ?_)
    refine res1 rfl rfl ?_
    intro w hc
    cases hr
    exact ⟨rfl, hc⟩
  · have hr := cond_f hb hr
    refine Tr.skip' ?_
    refine NX.then ?_
    refine Tr.seq ?_
    obtain ⟨ha5, hr⟩ := guard_some hr
    refine Tr.region_f (fun _ => false) ?_
    refine W.q rfl rfl rfl rfl (by decide) (Yd.mv rfl (.t rfl)) ?_
    refine W.q rfl rfl rfl rfl (by decide) (Yd.eql rfl (.t rfl) .c) ?_
    refine W.q rfl rfl rfl rfl (by decide) (Yd.mv rfl (.t rfl)) ?_
    refine W.g rfl rfl rfl rfl rfl (.t rfl _) rfl (by decide) (fun hG => Yd.mv rfl (.t rfl)) ?_
    refine W.g rfl rfl rfl rfl rfl (.t rfl _) rfl (by decide) (fun hG => Yd.mv rfl (.t rfl)) ?_
    refine W.g rfl rfl rfl rfl rfl (.t rfl _) rfl (by decide) (fun hG => Yd.mv rfl (.t rfl)) ?_
    refine W.g rfl rfl rfl rfl rfl (.t rfl _) rfl (by decide) (fun hG => Yd.mv rfl (.t rfl)) ?_
    refine W.g rfl rfl rfl rfl rfl (.t rfl _) rfl (by decide) (fun hG => Yd.call (v := .int .u32 (((((syllogistref_Close n_0 rules_1 s_2).getD (0#32)))).toNat : Int)) rfl Try.func14 rfl rfl (.cons (.g rfl hG) (.cons (.g rfl hG) (.cons (.g rfl hG) .nil))) (fun x' hx w hw => syllogistref_Close_ok w0 x'.m x'.l n_0 _ _ (hrules_1.mono hx.1) s_2 _ (gd_get (d := (0#32)) ha5 hG) w hw)) ?_
    refine W.g rfl rfl rfl rfl rfl (.t rfl _) rfl (by decide) (fun hG => Yd.eqlU rfl (.g rfl hG) (.g rfl hG)) ?_
    refine W.q rfl rfl rfl rfl (by decide) (Yd.and rfl (.t rfl) .c rfl rfl) ?_
    refine W.q rfl rfl rfl rfl (by decide) (Yd.as rfl (.t rfl)) ?_
    refine W.end ?_
    refine NX.sub (env' := [(6, _)]) ⟨rfl, trivial⟩ ?_
    refine NX.then ?_
    refine Tr.ret' ?_
    refine res1 rfl rfl ?_
    intro w hc
    cases hr
    exact ⟨rfl, hc⟩

def follow_Does (fuel : Nat) (n_0 : Int) (rules_1 : List Rule) (r_2 : Rule) : Option (Bool × Int) :=
  (follow_Check n_0 rules_1 (([r_2.cond, r_2.thn] : List (BitVec 32)))).bind fun r5 =>
  (bif (r5 != (0 : Int)) then
  some ((false, r5))
  else
  (follow_closed fuel rules_1 r_2.cond).bind fun r7 =>
  some ((((r_2.thn &&& ~~~r7) == 0#32), (0 : Int))))

set_option maxRecDepth 100000 in
theorem follow_Does_ok (w0 : World) (m : Snap) (l : List HI) (fuel : Nat) (n_0 : Int) (urules_1 : Value) (rules_1 : List Rule) (hrules_1 : RS rRule m urules_1 rules_1) (r_2 : Rule) (r : Bool × Int) (hr : follow_Does fuel n_0 rules_1 r_2 = some r) (w : World) (hc : cX w0 ⟨m, l⟩ w) :
    Calls Try.prog 15 [.int .i64 n_0, urules_1, .agg #[.int .u32 (r_2.cond.toNat : Int), .int .u32 (r_2.thn.toNat : Int)]].toArray w fun e w' => e = .returned (.tuple #[.bool r.1, .int .i64 r.2]) ∧ cX w0 ⟨m, l⟩ w' := by
  unfold follow_Does at hr
  refine calls_of_Tr (N := 28) Try.func15 rfl hc rfl (Nat.le_of_ble_eq_true rfl) ?_
  refine Tr.seq ?_
  refine Tr.region_f (fun i => Nat.beq i 0) ?_
  refine W.e rfl rfl rfl rfl (by decide) (Ef.bx rfl (.t rfl) rfl) ?_
  rintro _ _ ⟨b1, rfl, rfl⟩
  refine ⟨.inl rfl, ?_⟩
  refine W.cast (m' := m) (l' := hcells b1 [_, _] 31 :: l) rfl rfl ?_
  refine W.q rfl rfl rfl rfl (by decide) (Yd.as rfl .c) ?_
  refine W.q rfl rfl rfl rfl (by decide) (Yd.as rfl .c) ?_
  refine W.end ?_
  refine NX.sub (env' := [(0, _), (1, _), (5, _)]) ⟨rfl, rfl, rfl, trivial⟩ ?_
  refine NX.then ?_
  refine Tr.seq ?_
  refine Tr.seq ?_
  obtain ⟨r5, hr6, hr⟩ := bind_some hr
  refine Tr.region_f (fun i => Nat.beq i 6) ?_
  refine W.q rfl rfl rfl rfl (by decide) (Yd.mv rfl (.t rfl)) ?_
  refine W.q rfl rfl rfl rfl (by decide) (Yd.mv rfl (.t rfl)) ?_
  refine W.q rfl rfl rfl rfl (by decide) (Yd.fldB rfl Try.underlying31 rfl SZ23 rfl (.t rfl)) ?_
  refine W.q rfl rfl rfl rfl (by decide) (Yd.ldB (pos := 0) rfl rfl rfl ON23 (.t rfl)) ?_
  refine W.q rfl rfl rfl rfl (by decide) (Yd.fldB rfl Try.underlying31 rfl SZ23 rfl (.t rfl)) ?_
  refine W.q rfl rfl rfl rfl (by decide) (Yd.ldB (pos := 0) rfl rfl rfl ON23 (.t rfl)) ?_
  refine W.e rfl rfl rfl rfl (by decide) (Ef.bsT (enc := encU) (vs := [_, _]) (ys := [r_2.cond, r_2.thn]) (fun _ => rfl) IF23 rfl Try.underlying36 (by decide) rfl (.cons (.t rfl) (.cons (.t rfl) .nil)) rfl rfl (by decide)) ?_
  rintro v3 _ rfl
  refine ⟨.inl rfl, ?_⟩
  refine W.cast (m' := m) (l' := hownT 23 1 encU v3 _ :: hcells b1 [_, _] 31 :: l) rfl rfl ?_
  refine W.q rfl rfl rfl rfl (by decide) (Yd.call (v := .int .i64 r5) rfl Try.func32 rfl rfl (.cons (.t rfl) (.cons (.t rfl) (.cons (.t rfl) .nil))) (by intro x' hx w hw; obtain ⟨p0, hp0⟩ := hx.at (p := 0) rfl; obtain ⟨m2, hm2, hc2, ⟨L2, hl1, hl2⟩, hback⟩ := cX_lend hw hp0 lone_own; have hL1 : RS rU m2 _ _ := RS_of_own hl1 hl2; exact (follow_Check_ok w0 m2 _ n_0 _ _ (hrules_1.mono (hx.1.trans hm2)) _ _ hL1 _ hr6 w hc2).mono fun e w' ⟨he, hc'⟩ => ⟨he, (hback m2 _ _ w' (.refl _) hp0).2 hc'⟩)) ?_
  refine W.q rfl rfl rfl rfl (by decide) (Yd.as rfl (.t rfl)) ?_
  refine W.end ?_
  refine NX.sub (env' := [(1, _), (5, _), (8, _)]) ⟨rfl, rfl, rfl, trivial⟩ ?_
  refine NX.drop (l' := hcells b1 [_, _] 31 :: l) (.cons _ (.cons_cons _ (.refl _))) ?_
  refine NX.then ?_
  refine Tr.seq ?_
  refine Tr.region_f (fun _ => false) ?_
  refine W.q rfl rfl rfl rfl (by decide) (Yd.mv rfl (.t rfl)) ?_
  refine W.q rfl rfl rfl rfl (by decide) (Yd.neq rfl (.t rfl) .c) ?_
  refine W.end ?_
  refine NX.sub (env' := [(1, _), (5, _), (8, _), (18, _)]) ⟨rfl, rfl, rfl, rfl, trivial⟩ ?_
  refine NX.then ?_
  refine Tr.cond (.t rfl) (fun hb => ?_) (fun hb => ?_)
  · have hr := cond_t hb hr
    refine Tr.seq ?_
    refine Tr.region_f (fun _ => false) ?_
    refine W.q rfl rfl rfl rfl (by decide) (Yd.mv rfl (.t rfl)) ?_
    refine W.q rfl rfl rfl rfl (by decide) (Yd.as rfl .c) ?_
    refine W.q rfl rfl rfl rfl (by decide) (Yd.as rfl (.t rfl)) ?_
    refine W.end ?_
    refine NX.sub (env' := [(6, _), (7, _)]) ⟨rfl, rfl, trivial⟩ ?_
    refine NX.drop (l' := l) (.cons _ (.refl _)) ?_
    refine NX.then ?_
    refine Tr.ret' (RT.then ?_)
    refine res2 rfl rfl rfl ?_
    intro w hc
    cases hr
    exact ⟨rfl, hc⟩
  · have hr := cond_f hb hr
    refine Tr.skip' ?_
    refine NX.then ?_
    refine Tr.seq ?_
    obtain ⟨r7, hr8, hr⟩ := bind_some hr
    refine Tr.region_x (fun _ => false) (fun _ => false) [0, 1, 2, 3, 4, 5, 6, 7, 8, 9] FM (by kernel_rfl) ?_
    refine W.q rfl rfl rfl rfl (by decide) (Yd.fldB rfl Try.underlying31 rfl SZ23 rfl (.t rfl)) ?_
    refine W.q rfl rfl rfl rfl (by decide) (Yd.ldB (pos := 0) rfl rfl rfl ON23 (.t rfl)) ?_
    refine W.q rfl rfl rfl rfl (by decide) (Yd.mv rfl (.t rfl)) ?_
    refine W.q rfl rfl rfl rfl (by decide) (Yd.fldB rfl Try.underlying31 rfl SZ23 rfl (.t rfl)) ?_
    refine W.q rfl rfl rfl rfl (by decide) (Yd.ldB (pos := 0) rfl rfl rfl ON23 (.t rfl)) ?_
    refine W.q rfl rfl rfl rfl (by decide) (Yd.call (v := .int .u32 (r7.toNat : Int)) rfl Try.func33 rfl rfl (.cons (.t rfl) (.cons (.t rfl) .nil)) (fun x' hx w hw => follow_closed_ok w0 x'.m x'.l fuel _ _ (hrules_1.mono hx.1) r_2.cond _ hr8 w hw)) ?_
    refine W.q rfl rfl rfl rfl (by decide) (Yd.andnU rfl (.t rfl) (.t rfl)) ?_
    refine W.q rfl rfl rfl rfl (by decide) (Yd.eqlU (b := 0#32) rfl (.t rfl) .c) ?_
    refine W.q rfl rfl rfl rfl (by decide) (Yd.as rfl (.t rfl)) ?_
    refine W.q rfl rfl rfl rfl (by decide) (Yd.as rfl .c) ?_
    refine W.end ?_
    refine NX.sub (env' := [(6, _), (7, _)]) ⟨rfl, rfl, trivial⟩ ?_
    refine NX.drop (l' := l) (.cons _ (.refl _)) ?_
    refine NX.then ?_
    refine Tr.ret' ?_
    refine res2 rfl rfl rfl ?_
    intro w hc
    cases hr
    exact ⟨rfl, hc⟩

def syllogistlaw_FollowDoes (fuel : Nat) (n_0 : Int) (rules_1 : List Rule) (r_2 : Rule) : Option (Bool) :=
  (follow_Does fuel n_0 rules_1 (({ cond := r_2.cond, thn := r_2.thn } : Rule))).bind fun r3 =>
  (syllogistref_RulesCheck n_0 rules_1 ((r_2.cond ||| r_2.thn))).bind fun r5 =>
  (bif (r5 != (0 : Int)) then
  some (((r3.2 == r5) && (!r3.1)))
  else
  bif (!((r3.2 == (0 : Int)) == true) || (syllogistref_Close n_0 rules_1 r_2.cond).isSome) then
  bif (!((r3.2 == (0 : Int)) == true) || (syllogistref_In r_2.thn ((((syllogistref_Close n_0 rules_1 r_2.cond).getD (0#32))))).isSome) then
  some (((r3.2 == (0 : Int)) && (r3.1 == (((syllogistref_In r_2.thn ((((syllogistref_Close n_0 rules_1 r_2.cond).getD (0#32))))).getD false))))) else none else none)

set_option maxRecDepth 100000 in
theorem syllogistlaw_FollowDoes_ok (w0 : World) (m : Snap) (l : List HI) (fuel : Nat) (n_0 : Int) (urules_1 : Value) (rules_1 : List Rule) (hrules_1 : RS rRule m urules_1 rules_1) (r_2 : Rule) (r : Bool) (hr : syllogistlaw_FollowDoes fuel n_0 rules_1 r_2 = some r) (w : World) (hc : cX w0 ⟨m, l⟩ w) :
    Calls Try.prog 4 [.int .i64 n_0, urules_1, .agg #[.int .u32 (r_2.cond.toNat : Int), .int .u32 (r_2.thn.toNat : Int)]].toArray w fun e w' => e = .returned (.bool r) ∧ cX w0 ⟨m, l⟩ w' := by
  unfold syllogistlaw_FollowDoes at hr
  refine calls_of_Tr (N := 48) Try.func4 rfl hc rfl (Nat.le_of_ble_eq_true rfl) ?_
  refine Tr.seq ?_
  refine Tr.region_f (fun i => Nat.beq i 0) ?_
  refine W.e rfl rfl rfl rfl (by decide) (Ef.bx rfl (.t rfl) rfl) ?_
  rintro _ _ ⟨b1, rfl, rfl⟩
  refine ⟨.inl rfl, ?_⟩
  refine W.cast (m' := m) (l' := hcells b1 [_, _] 31 :: l) rfl rfl ?_
  refine W.q rfl rfl rfl rfl (by decide) (Yd.as rfl .c) ?_
  refine W.end ?_
  refine NX.sub (env' := [(0, _), (1, _), (5, _)]) ⟨rfl, rfl, rfl, trivial⟩ ?_
  refine NX.then ?_
  refine Tr.seq ?_
  obtain ⟨r3, hr4, hr⟩ := bind_some hr
  refine Tr.region_f (fun _ => false) ?_
  refine W.q rfl rfl rfl rfl (by decide) (Yd.mv rfl (.t rfl)) ?_
  refine W.q rfl rfl rfl rfl (by decide) (Yd.mv rfl (.t rfl)) ?_
  refine W.q rfl rfl rfl rfl (by decide) (Yd.ldBs (pos := 0) (us := [_, _]) rfl rfl rfl rfl ON31 US31 SZ31 (.t rfl)) ?_
  refine W.q rfl rfl rfl rfl (by decide) (Yd.call (v := .tuple #[.bool r3.1, .int .i64 r3.2]) rfl Try.func15 rfl rfl (.cons (.t rfl) (.cons (.t rfl) (.cons (.t rfl) .nil))) (fun x' hx w hw => follow_Does_ok w0 x'.m x'.l fuel n_0 _ _ (hrules_1.mono hx.1) (({ cond := r_2.cond, thn := r_2.thn } : Rule)) _ hr4 w hw)) ?_
  refine W.q rfl rfl rfl rfl (by decide) (Yd.mv rfl (.t rfl)) ?_
  refine W.q rfl rfl rfl rfl (by decide) (Yd.ext rfl (.t rfl) rfl) ?_
  refine W.q rfl rfl rfl rfl (by decide) (Yd.ext rfl (.t rfl) rfl) ?_
  refine W.q rfl rfl rfl rfl (by decide) (Yd.as rfl (.t rfl)) ?_
  refine W.q rfl rfl rfl rfl (by decide) (Yd.as rfl (.t rfl)) ?_
  refine W.end ?_
  refine NX.sub (env' := [(0, _), (1, _), (5, _), (7, _), (8, _)]) ⟨rfl, rfl, rfl, rfl, rfl, trivial⟩ ?_
  refine NX.then ?_
  refine Tr.seq ?_
  obtain ⟨r5, hr6, hr⟩ := bind_some hr
  refine Tr.region_f (fun _ => false) ?_
  refine W.q rfl rfl rfl rfl (by decide) (Yd.mv rfl (.t rfl)) ?_
  refine W.q rfl rfl rfl rfl (by decide) (Yd.mv rfl (.t rfl)) ?_
  refine W.q rfl rfl rfl rfl (by decide) (Yd.fldB rfl Try.underlying31 rfl SZ23 rfl (.t rfl)) ?_
  refine W.q rfl rfl rfl rfl (by decide) (Yd.ldB (pos := 0) rfl rfl rfl ON23 (.t rfl)) ?_
  refine W.q rfl rfl rfl rfl (by decide) (Yd.fldB rfl Try.underlying31 rfl SZ23 rfl (.t rfl)) ?_
  refine W.q rfl rfl rfl rfl (by decide) (Yd.ldB (pos := 0) rfl rfl rfl ON23 (.t rfl)) ?_
  refine W.q rfl rfl rfl rfl (by decide) (Yd.orU rfl (.t rfl) (.t rfl)) ?_
  refine W.q rfl rfl rfl rfl (by decide) (Yd.call (v := .int .i64 r5) rfl Try.func13 rfl rfl (.cons (.t rfl) (.cons (.t rfl) (.cons (.t rfl) .nil))) (fun x' hx w hw => syllogistref_RulesCheck_ok w0 x'.m x'.l n_0 _ _ (hrules_1.mono hx.1) ((r_2.cond ||| r_2.thn)) _ hr6 w hw)) ?_
  refine W.q rfl rfl rfl rfl (by decide) (Yd.as rfl (.t rfl)) ?_
  refine W.end ?_
  refine NX.sub (env' := [(0, _), (1, _), (5, _), (7, _), (8, _), (9, _)]) ⟨rfl, rfl, rfl, rfl, rfl, rfl, trivial⟩ ?_
  refine NX.then ?_
  refine Tr.seq ?_
  refine Tr.seq ?_
  refine Tr.region_f (fun _ => false) ?_
  refine W.q rfl rfl rfl rfl (by decide) (Yd.mv rfl (.t rfl)) ?_
  refine W.q rfl rfl rfl rfl (by decide) (Yd.neq rfl (.t rfl) .c) ?_
  refine W.end ?_
  refine NX.sub (env' := [(0, _), (1, _), (5, _), (7, _), (8, _), (9, _), (26, _)]) ⟨rfl, rfl, rfl, rfl, rfl, rfl, rfl, trivial⟩ ?_
  refine NX.then ?_
  refine Tr.cond (.t rfl) (fun hb => ?_) (fun hb => ?_)
  · have hr := cond_t hb hr
    refine Tr.seq ?_
    refine Tr.region_f (fun _ => false) ?_
    refine W.q rfl rfl rfl rfl (by decide) (Yd.mv rfl (.t rfl)) ?_
    refine W.q rfl rfl rfl rfl (by decide) (Yd.mv rfl (.t rfl)) ?_
    refine W.q rfl rfl rfl rfl (by decide) (Yd.eql rfl (.t rfl) (.t rfl)) ?_
    refine W.q rfl rfl rfl rfl (by decide) (Yd.mv rfl (.t rfl)) ?_
    refine W.g rfl rfl rfl rfl rfl (.t rfl _) rfl (by decide) (fun hG => Yd.mv rfl (.t rfl)) ?_
    refine W.g rfl rfl rfl rfl rfl (.t rfl _) rfl (by decide) (fun hG => Yd.not rfl (.g rfl hG)) ?_
    refine W.q rfl rfl rfl rfl (by decide) (Yd.and rfl (.t rfl) .c rfl rfl) ?_
    refine W.q rfl rfl rfl rfl (by decide) (Yd.as rfl (.t rfl)) ?_
    refine W.end ?_
    refine NX.sub (env' := [(6, _)]) ⟨rfl, trivial⟩ ?_
    refine NX.drop (l' := l) (.cons _ (.refl _)) ?_
    refine NX.then ?_
    refine Tr.ret' (RT.then ?_)
    refine res1 rfl rfl ?_
    intro w hc
    cases hr
    exact ⟨rfl, hc⟩
  · have hr := cond_f hb hr
    refine Tr.skip' ?_
    refine NX.then ?_
    refine Tr.seq ?_
    obtain ⟨ha7, hr⟩ := guard_some hr
    obtain ⟨ha8, hr⟩ := guard_some hr
    refine Tr.region_x (fun _ => false) (fun _ => false) [0, 1, 2, 3, 4, 5, 6, 7, 8, 9, 10, 11, 12, 13, 14] FM (by kernel_rfl) ?_
    refine W.q rfl rfl rfl rfl (by decide) (Yd.mv rfl (.t rfl)) ?_
    refine W.q rfl rfl rfl rfl (by decide) (Yd.eql rfl (.t rfl) .c) ?_
    refine W.q rfl rfl rfl rfl (by decide) (Yd.mv rfl (.t rfl)) ?_
    refine W.g rfl rfl rfl rfl rfl (.t rfl _) rfl (by decide) (fun hG => Yd.mv rfl (.t rfl)) ?_
    refine W.g rfl rfl rfl rfl rfl (.t rfl _) rfl (by decide) (fun hG => Yd.fldB rfl Try.underlying31 rfl SZ23 rfl (.t rfl)) ?_
    refine W.g rfl rfl rfl rfl rfl (.t rfl _) rfl (by decide) (fun hG => Yd.ldB (pos := 0) rfl rfl rfl ON23 (.g rfl hG)) ?_
    refine W.g rfl rfl rfl rfl rfl (.t rfl _) rfl (by decide) (fun hG => Yd.mv rfl (.t rfl)) ?_
    refine W.g rfl rfl rfl rfl rfl (.t rfl _) rfl (by decide) (fun hG => Yd.mv rfl (.t rfl)) ?_
    refine W.g rfl rfl rfl rfl rfl (.t rfl _) rfl (by decide) (fun hG => Yd.fldB rfl Try.underlying31 rfl SZ23 rfl (.t rfl)) ?_
    refine W.g rfl rfl rfl rfl rfl (.t rfl _) rfl (by decide) (fun hG => Yd.ldB (pos := 0) rfl rfl rfl ON23 (.g rfl hG)) ?_
    refine W.g rfl rfl rfl rfl rfl (.t rfl _) rfl (by decide) (fun hG => Yd.call (v := .int .u32 (((((syllogistref_Close n_0 rules_1 r_2.cond).getD (0#32)))).toNat : Int)) rfl Try.func14 rfl rfl (.cons (.g rfl hG) (.cons (.g rfl hG) (.cons (.g rfl hG) .nil))) (fun x' hx w hw => syllogistref_Close_ok w0 x'.m x'.l n_0 _ _ (hrules_1.mono hx.1) r_2.cond _ (gd_get (d := (0#32)) ha7 hG) w hw)) ?_
    refine W.g rfl rfl rfl rfl rfl (.t rfl _) rfl (by decide) (fun hG => Yd.call (v := .bool ((((syllogistref_In r_2.thn ((((syllogistref_Close n_0 rules_1 r_2.cond).getD (0#32))))).getD false)))) rfl Try.func16 rfl rfl (.cons (.g rfl hG) (.cons (.g rfl hG) .nil)) (fun x' hx w hw => syllogistref_In_ok w0 x'.m x'.l r_2.thn ((((syllogistref_Close n_0 rules_1 r_2.cond).getD (0#32)))) _ (gd_get (d := false) ha8 hG) w hw)) ?_
    refine W.g rfl rfl rfl rfl rfl (.t rfl _) rfl (by decide) (fun hG => Yd.eqlB Try.underlying4 rfl (.g rfl hG) (.g rfl hG)) ?_
    refine W.q rfl rfl rfl rfl (by decide) (Yd.and rfl (.t rfl) .c rfl rfl) ?_
    refine W.q rfl rfl rfl rfl (by decide) (Yd.as rfl (.t rfl)) ?_
    refine W.end ?_
    refine NX.sub (env' := [(6, _)]) ⟨rfl, trivial⟩ ?_
    refine NX.drop (l' := l) (.cons _ (.refl _)) ?_
    refine NX.then ?_
    refine Tr.ret' ?_
    refine res1 rfl rfl ?_
    intro w hc
    cases hr
    exact ⟨rfl, hc⟩

def follow_Closed_k13 (l11 : List (BitVec 32)) : Option ((List (BitVec 32)) × Int) :=
  some ((l11, (0 : Int)))

def follow_Closed_b16 (rules_1 : List Rule) (fuel : Nat) (t_15 : BitVec 32) (l9 : List (BitVec 32)) (nx17 : (List (BitVec 32)) → Option ((List (BitVec 32)) × Int)) : Option ((List (BitVec 32)) × Int) :=
  (follow_closed fuel rules_1 t_15).bind fun r19 =>
  (bif (r19 == t_15) then
  bif decide (l9.length + (([t_15] : List (BitVec 32))).length ≤ 35184372088832) then
  nx17 (l9 ++ ([t_15] : List (BitVec 32))) else none
  else
  nx17 l9)

def follow_Closed (fuel : Nat) (n_0 : Int) (rules_1 : List Rule) : Option ((List (BitVec 32)) × Int) :=
  (follow_Check n_0 rules_1 []).bind fun r1 =>
  (bif (r1 != (0 : Int)) then
  some (([], r1))
  else
  bif decide (0 ≤ n_0) then
  forK (σ := (List (BitVec 32))) (fun i s nx_ => follow_Closed_b16 rules_1 fuel i s nx_) (fun s => follow_Closed_k13 s) (((1#32 <<< n_0.toNat)).toNat - (0#32).toNat) 0#32 (([] : List (BitVec 32))) else none)

set_option maxRecDepth 100000 in
theorem follow_Closed_ok (w0 : World) (m : Snap) (l : List HI) (fuel : Nat) (n_0 : Int) (urules_1 : Value) (rules_1 : List Rule) (hrules_1 : RS rRule m urules_1 rules_1) (r : (List (BitVec 32)) × Int) (hr : follow_Closed fuel n_0 rules_1 = some r) (w : World) (hc : cX w0 ⟨m, l⟩ w) :
    Calls Try.prog 17 [.int .i64 n_0, urules_1].toArray w fun e w' => ∃ z0 : Value, e = .returned (.tuple #[z0, .int .i64 r.2]) ∧ cX w0 ⟨m, hownT 23 1 encU z0 r.1 :: l⟩ w' := by
  unfold follow_Closed at hr
  refine calls_of_Tr (N := 31) Try.func17 rfl hc rfl (Nat.le_of_ble_eq_true rfl) ?_
  refine Tr.seq ?_
  refine Tr.region_f (fun _ => false) ?_
  refine W.q rfl rfl rfl rfl (by decide) (Yd.as rfl .c) ?_
  refine W.q rfl rfl rfl rfl (by decide) (Yd.as rfl .c) ?_
  refine W.end ?_
  refine NX.sub (env' := [(0, _), (1, _)]) ⟨rfl, rfl, trivial⟩ ?_
  refine NX.then ?_
  refine Tr.seq ?_
  refine Tr.seq ?_
  obtain ⟨r1, hr2, hr⟩ := bind_some hr
  refine Tr.region_f (fun _ => false) ?_
  refine W.q rfl rfl rfl rfl (by decide) (Yd.mv rfl (.t rfl)) ?_
  refine W.q rfl rfl rfl rfl (by decide) (Yd.mv rfl (.t rfl)) ?_
  refine W.q rfl rfl rfl rfl (by decide) (Yd.call (v := .int .i64 r1) rfl Try.func32 rfl rfl (.cons (.t rfl) (.cons (.t rfl) (.cons .c .nil))) (fun x' hx w hw => follow_Check_ok w0 x'.m x'.l n_0 _ _ (hrules_1.mono hx.1) _ _ (RS.nil _ _) _ hr2 w hw)) ?_
  refine W.q rfl rfl rfl rfl (by decide) (Yd.as rfl (.t rfl)) ?_
  refine W.end ?_
  refine NX.sub (env' := [(0, _), (1, _), (6, _)]) ⟨rfl, rfl, rfl, trivial⟩ ?_
  refine NX.then ?_
  refine Tr.seq ?_
  refine Tr.region_f (fun _ => false) ?_
  refine W.q rfl rfl rfl rfl (by decide) (Yd.mv rfl (.t rfl)) ?_
  refine W.q rfl rfl rfl rfl (by decide) (Yd.neq rfl (.t rfl) .c) ?_
  refine W.end ?_
  refine NX.sub (env' := [(0, _), (1, _), (6, _), (13, _)]) ⟨rfl, rfl, rfl, rfl, trivial⟩ ?_
  refine NX.then ?_
  refine Tr.cond (.t rfl) (fun hb => ?_) (fun hb => ?_)
  · have hr := cond_t hb hr
    refine Tr.seq ?_
    refine Tr.region_f (fun _ => false) ?_
    refine W.q rfl rfl rfl rfl (by decide) (Yd.mv rfl (.t rfl)) ?_
    refine W.q rfl rfl rfl rfl (by decide) (Yd.as rfl .c) ?_
    refine W.q rfl rfl rfl rfl (by decide) (Yd.as rfl (.t rfl)) ?_
    refine W.end ?_
    refine NX.sub (env' := [(4, _), (5, _)]) ⟨rfl, rfl, trivial⟩ ?_
    refine NX.then ?_
    refine Tr.ret' (RT.then ?_)
    refine res2 rfl rfl rfl ?_
    intro w hc
    cases hr
    exact ⟨_, rfl, (cX_nil hc)⟩
  · have hr := cond_f hb hr
    refine Tr.skip' ?_
    refine NX.then ?_
    refine Tr.seq ?_
    refine Tr.region_f (fun _ => false) ?_
    refine W.q rfl rfl rfl rfl (by decide) (Yd.as rfl .c) ?_
    refine W.end ?_
    refine NX.sub (env' := [(0, _), (1, _), (7, _)]) ⟨rfl, rfl, rfl, trivial⟩ ?_
    refine NX.then ?_
    refine Tr.seq ?_
    refine Tr.seq ?_
    obtain ⟨hq3, hr⟩ := guard_some hr; replace hq3 := of_decide_eq_true hq3
    refine Tr.region_f (fun _ => false) ?_
    refine W.q rfl rfl rfl rfl (by decide) (Yd.mv rfl (.t rfl)) ?_
    refine W.q rfl rfl rfl rfl (by decide) (Yd.shlU (a := 1#32) rfl .c (.t rfl) hq3) ?_
    refine W.q rfl rfl rfl rfl (by decide) (Yd.mv rfl .c) ?_
    refine W.end ?_
    refine NX.sub (env' := [(1, _), (7, _), (16, _), (17, _)]) ⟨rfl, rfl, rfl, rfl, trivial⟩ ?_
    refine NX.then ?_
    refine Tr.addnil 23 1 ?_
    refine Tr.join (S := fun env x => ∃ l11 : List (BitVec 32), ∃ v12 : Value, env = [(7, v12)] ∧ x = ⟨m, hownT 23 1 encU v12 l11 :: l⟩ ∧ follow_Closed_k13 l11 = some r) ?_ (fun hk14 => ?_)
    · rintro _ _ ⟨l11, v12, rfl, rfl, hr⟩
      unfold follow_Closed_k13 at hr
      try dsimp only at hr
      refine NX.then ?_
      refine Tr.seq ?_
      refine Tr.region_f (fun _ => false) ?_
      refine W.q rfl rfl rfl rfl (by decide) (Yd.mv rfl (.t rfl)) ?_
      refine W.q rfl rfl rfl rfl (by decide) (Yd.as rfl (.t rfl)) ?_
      refine W.q rfl rfl rfl rfl (by decide) (Yd.as rfl .c) ?_
      refine W.end ?_
      refine NX.sub (env' := [(4, _), (5, _)]) ⟨rfl, rfl, trivial⟩ ?_
      refine NX.then ?_
      refine Tr.ret' ?_
      refine res2 rfl rfl rfl ?_
      intro w hc
      cases hr
      exact ⟨_, rfl, hc⟩
    refine Tr.block ?_
    refine Tr.sub (env' := [(1, _), (7, _), (16, _), (17, _)]) ⟨rfl, rfl, rfl, rfl, trivial⟩ ?_
    refine Tr.loop (S := fun n (z : BitVec 32 × (List (BitVec 32))) env x => match z with | (t_15, l9) => ∃ v10 : Value, env = [(1, urules_1), (7, v10), (16, .int .u32 (((1#32 <<< n_0.toNat)).toNat : Int)), (17, .int .u32 (t_15.toNat : Int))] ∧ x = ⟨m, hownT 23 1 encU v10 l9 :: l⟩ ∧ n = ((1#32 <<< n_0.toNat)).toNat - t_15.toNat ∧ forK (σ := (List (BitVec 32))) (fun i s nx_ => follow_Closed_b16 rules_1 fuel i s nx_) (fun s => follow_Closed_k13 s) n t_15 l9 = some r) _ (0#32, ([] : List (BitVec 32))) ⟨_, rfl, rfl, rfl, hr⟩ ?_
    rintro n18 ⟨t_15, l9⟩ env x ⟨v10, rfl, rfl, hnt_15, hr⟩
    cases n18 with
    | zero =>
      simp only [forK] at hr
      refine Tr.seq ?_
      refine Tr.region_f (fun _ => false) ?_
      refine W.q rfl rfl rfl rfl (by decide) (Yd.lssU rfl (.t rfl) (.t rfl)) ?_
      refine W.end ?_
      refine NX.sub (env' := [(1, _), (7, _), (16, _), (17, _), (18, _)]) ⟨rfl, rfl, rfl, rfl, rfl, trivial⟩ ?_
      refine NX.then ?_
      refine Tr.seq ?_
      refine Tr.cond (.t rfl) (fun hb => ?_) (fun hb => ?_)
      · exact absurd (hb.symm.trans (fu_end hnt_15)) (by decide)
      ·
        refine Tr.exit' (EX.then (EX.then (EX.block ?_)))
        refine NX.sub (env' := [(7, _)]) ⟨rfl, trivial⟩ ?_
        exact hk14 _ _ ⟨_, _, rfl, rfl, hr⟩
    | succ n18 =>
      obtain ⟨nx17, hnx17, hr⟩ := forK_succ hr
      try dsimp only at hr
      unfold follow_Closed_b16 at hr
      try dsimp only at hr
      refine Tr.seq ?_
      refine Tr.region_f (fun _ => false) ?_
      refine W.q rfl rfl rfl rfl (by decide) (Yd.lssU rfl (.t rfl) (.t rfl)) ?_
      refine W.end ?_
      refine NX.sub (env' := [(1, _), (7, _), (16, _), (17, _), (18, _)]) ⟨rfl, rfl, rfl, rfl, rfl, trivial⟩ ?_
      refine NX.then ?_
      refine Tr.seq ?_
      refine Tr.cond (.t rfl) (fun hb => ?_) (fun hb => ?_)
      rotate_left
      · exact absurd (hb.symm.trans (fu_go hnt_15)) (by decide)
      ·
        refine Tr.skip' ?_
        refine NX.then ?_
        refine Tr.seq ?_
        refine Tr.block ?_
        refine Tr.seq ?_
        refine Tr.region_f (fun _ => false) ?_
        refine W.q rfl rfl rfl rfl (by decide) (Yd.mv rfl (.t rfl)) ?_
        refine W.q rfl rfl rfl rfl (by decide) (Yd.as rfl (.t rfl)) ?_
        refine W.end ?_
        refine NX.sub (env' := [(1, _), (7, _), (16, _), (17, _), (8, _)]) ⟨rfl, rfl, rfl, rfl, rfl, trivial⟩ ?_
        refine NX.then ?_
        refine Tr.seq ?_
        obtain ⟨r19, hr20, hr⟩ := bind_some hr
        refine Tr.region_f (fun _ => false) ?_
        refine W.q rfl rfl rfl rfl (by decide) (Yd.mv rfl (.t rfl)) ?_
        refine W.q rfl rfl rfl rfl (by decide) (Yd.mv rfl (.t rfl)) ?_
        refine W.q rfl rfl rfl rfl (by decide) (Yd.call (v := .int .u32 (r19.toNat : Int)) rfl Try.func33 rfl rfl (.cons (.t rfl) (.cons (.t rfl) .nil)) (fun x' hx w hw => follow_closed_ok w0 x'.m x'.l fuel _ _ (hrules_1.mono hx.1) t_15 _ hr20 w hw)) ?_
        refine W.q rfl rfl rfl rfl (by decide) (Yd.mv rfl (.t rfl)) ?_
        refine W.q rfl rfl rfl rfl (by decide) (Yd.eqlU rfl (.t rfl) (.t rfl)) ?_
        refine W.end ?_
        refine NX.sub (env' := [(1, _), (7, _), (16, _), (17, _), (8, _), (24, _)]) ⟨rfl, rfl, rfl, rfl, rfl, rfl, trivial⟩ ?_
        refine NX.then ?_
        refine Tr.cond (.t rfl) (fun hb => ?_) (fun hb => ?_)
        · have hr := cond_t hb hr
          obtain ⟨hq24, hr⟩ := guard_some hr; replace hq24 := of_decide_eq_true hq24
          refine Tr.region_f (fun i => Nat.beq i 2 || Nat.beq i 3) ?_
          refine W.q rfl rfl rfl rfl (by decide) (Yd.mv rfl (.t rfl)) ?_
          refine W.q rfl rfl rfl rfl (by decide) (Yd.mv rfl (.t rfl)) ?_
          refine W.e rfl rfl rfl rfl (by decide) (Ef.bsT (enc := encU) (vs := [_]) (ys := [t_15]) (fun _ => rfl) IF23 rfl Try.underlying36 (by decide) rfl (.cons (.t rfl) .nil) rfl rfl (by decide)) ?_
          rintro v21 _ rfl
          refine ⟨.inl rfl, ?_⟩
          refine W.cast (m' := m) (l' := hownT 23 1 encU v21 _ :: hownT 23 1 encU v10 _ :: l) rfl rfl ?_
          refine W.e rfl rfl rfl rfl (by decide) (Ef.apI (pos := 1) (enc := encU) (xs := l9) (ys := ([t_15] : List (BitVec 32))) (fun _ => rfl) IF23 rfl rfl Try.underlying36 rfl (by decide) (.t rfl) (.t rfl) (Src.own (pos := 0) rfl) (fun _ => rfl) (by omega) (by omega)) ?_
          rintro v23 _ rfl
          refine ⟨.inl rfl, ?_⟩
          refine W.cast (m' := m) (l' := hownT 23 1 encU v21 _ :: hownT 23 1 encU v23 _ :: l) rfl rfl ?_
          refine W.q rfl rfl rfl rfl (by decide) (Yd.as rfl (.t rfl)) ?_
          refine W.end ?_
          refine NX.sub (env' := [(1, _), (7, _), (16, _), (17, _)]) ⟨rfl, rfl, rfl, rfl, trivial⟩ ?_
          refine NX.drop (l' := hownT 23 1 encU v23 _ :: l) (.cons _ (.cons_cons _ (.refl _))) ?_
          refine NX.block ?_
          refine NX.then ?_
          refine Tr.region_f (fun _ => false) ?_
          refine W.q rfl rfl rfl rfl (by decide) (Yd.addU (b := 1#32) rfl (.t rfl) .c) ?_
          refine W.q rfl rfl rfl rfl (by decide) (Yd.mv rfl (.t rfl)) ?_
          refine W.end ?_
          refine NX.sub (env' := [(1, _), (7, _), (16, _), (17, _)]) ⟨rfl, rfl, rfl, rfl, trivial⟩ ?_
          refine NX.sub (env' := [(1, _), (7, _), (16, _), (17, _)]) ⟨rfl, rfl, rfl, rfl, trivial⟩ ?_
          exact NX.again n18 (t_15 + 1, (l9 ++ ([t_15] : List (BitVec 32)))) (Nat.lt_succ_self _) ⟨_, rfl, rfl, (fu_dec hnt_15), ((hnx17 _).symm.trans hr)⟩
        · have hr := cond_f hb hr
          refine Tr.skip' ?_
          refine NX.block ?_
          refine NX.then ?_
          refine Tr.region_f (fun _ => false) ?_
          refine W.q rfl rfl rfl rfl (by decide) (Yd.addU (b := 1#32) rfl (.t rfl) .c) ?_
          refine W.q rfl rfl rfl rfl (by decide) (Yd.mv rfl (.t rfl)) ?_
          refine W.end ?_
          refine NX.sub (env' := [(1, _), (7, _), (16, _), (17, _)]) ⟨rfl, rfl, rfl, rfl, trivial⟩ ?_
          refine NX.sub (env' := [(1, _), (7, _), (16, _), (17, _)]) ⟨rfl, rfl, rfl, rfl, trivial⟩ ?_
          exact NX.again n18 (t_15 + 1, l9) (Nat.lt_succ_self _) ⟨_, rfl, rfl, (fu_dec hnt_15), ((hnx17 _).symm.trans hr)⟩

def syllogistref_Words_k3 : Option (Bool) :=
  some true

def syllogistref_Words_b7 (a_0 : List (BitVec 32)) (b_1 : List (BitVec 32)) (i_6 : Int) (nx8 : Unit → Option (Bool)) : Option (Bool) :=
  (geti a_0 i_6).bind fun y10 =>
  (geti b_1 i_6).bind fun y12 =>
  (bif (y10 != y12) then
  some false
  else
  nx8 ())

def syllogistref_Words (a_0 : List (BitVec 32)) (b_1 : List (BitVec 32)) : Option (Bool) :=
  (bif ((a_0.length : Int) != (b_1.length : Int)) then
  some false
  else
  forK (σ := Unit) (fun i s nx_ => syllogistref_Words_b7 a_0 b_1 i nx_) (fun _ => syllogistref_Words_k3) ((a_0.length : Int) - (0 : Int)).toNat (0 : Int) ())

set_option maxRecDepth 100000 in
theorem syllogistref_Words_ok (w0 : World) (m : Snap) (l : List HI) (ua_0 : Value) (a_0 : List (BitVec 32)) (ha_0 : RS rU m ua_0 a_0) (ub_1 : Value) (b_1 : List (BitVec 32)) (hb_1 : RS rU m ub_1 b_1) (r : Bool) (hr : syllogistref_Words a_0 b_1 = some r) (w : World) (hc : cX w0 ⟨m, l⟩ w) :
    Calls Try.prog 19 [ua_0, ub_1].toArray w fun e w' => e = .returned (.bool r) ∧ cX w0 ⟨m, l⟩ w' := by
  unfold syllogistref_Words at hr
  refine calls_of_Tr (N := 26) Try.func19 rfl hc rfl (Nat.le_of_ble_eq_true rfl) ?_
  refine Tr.seq ?_
  refine Tr.region_f (fun _ => false) ?_
  refine W.q rfl rfl rfl rfl (by decide) (Yd.as rfl .c) ?_
  refine W.end ?_
  refine NX.sub (env' := [(0, _), (1, _)]) ⟨rfl, rfl, trivial⟩ ?_
  refine NX.then ?_
  refine Tr.seq ?_
  refine Tr.seq ?_
  refine Tr.region_f (fun _ => false) ?_
  refine W.q rfl rfl rfl rfl (by decide) (Yd.mv rfl (.t rfl)) ?_
  refine W.q rfl rfl rfl rfl (by decide) (Yd.lenR ha_0 rfl Try.underlying36 (.t rfl)) ?_
  refine W.q rfl rfl rfl rfl (by decide) (Yd.mv rfl (.t rfl)) ?_
  refine W.q rfl rfl rfl rfl (by decide) (Yd.lenR hb_1 rfl Try.underlying36 (.t rfl)) ?_
  refine W.q rfl rfl rfl rfl (by decide) (Yd.neq rfl (.t rfl) (.t rfl)) ?_
  refine W.end ?_
  refine NX.sub (env' := [(0, _), (1, _), (10, _)]) ⟨rfl, rfl, rfl, trivial⟩ ?_
  refine NX.then ?_
  refine Tr.cond (.t rfl) (fun hb => ?_) (fun hb => ?_)
  · have hr := cond_t hb hr
    refine Tr.seq ?_
    refine Tr.region_f (fun _ => false) ?_
    refine W.q rfl rfl rfl rfl (by decide) (Yd.as rfl .c) ?_
    refine W.end ?_
    refine NX.sub (env' := [(4, _)]) ⟨rfl, trivial⟩ ?_
    refine NX.then ?_
    refine Tr.ret' (RT.then ?_)
    refine res1 rfl rfl ?_
    intro w hc
    cases hr
    exact ⟨rfl, hc⟩
  · have hr := cond_f hb hr
    refine Tr.skip' ?_
    refine NX.then ?_
    refine Tr.seq ?_
    refine Tr.seq ?_
    refine Tr.region_f (fun _ => false) ?_
    refine W.q rfl rfl rfl rfl (by decide) (Yd.as rfl .c) ?_
    refine W.end ?_
    refine NX.sub (env' := [(0, _), (1, _), (5, _)]) ⟨rfl, rfl, rfl, trivial⟩ ?_
    refine NX.then ?_
    refine Tr.join (S := fun env x => env = [] ∧ x = ⟨m, l⟩ ∧ syllogistref_Words_k3 = some r) ?_ (fun hk4 => ?_)
    · rintro _ _ ⟨rfl, rfl, hr⟩
      unfold syllogistref_Words_k3 at hr
      try dsimp only at hr
      refine NX.then ?_
      refine Tr.seq ?_
      refine Tr.region_f (fun _ => false) ?_
      refine W.q rfl rfl rfl rfl (by decide) (Yd.as rfl .c) ?_
      refine W.end ?_
      refine NX.sub (env' := [(4, _)]) ⟨rfl, trivial⟩ ?_
      refine NX.then ?_
      refine Tr.ret' ?_
      refine res1 rfl rfl ?_
      intro w hc
      cases hr
      exact ⟨rfl, hc⟩
    have hlen5 := (ha_0).2.1
    refine Tr.block ?_
    refine Tr.sub (env' := [(0, _), (1, _), (5, _)]) ⟨rfl, rfl, rfl, trivial⟩ ?_
    refine Tr.loop (S := fun n (z : Int × Unit) env x => match z with | (i_6, _) => env = [(0, ua_0), (1, ub_1), (5, .int .i64 i_6)] ∧ x = ⟨m, l⟩ ∧ n = ((a_0.length : Int) - i_6).toNat ∧ 0 ≤ i_6 ∧ forK (σ := Unit) (fun i s nx_ => syllogistref_Words_b7 a_0 b_1 i nx_) (fun _ => syllogistref_Words_k3) n i_6 () = some r) _ ((0 : Int), ()) ⟨rfl, rfl, rfl, (by omega), hr⟩ ?_
    rintro n9 ⟨i_6, _⟩ env x ⟨rfl, rfl, hni_6, h0i_6, hr⟩
    cases n9 with
    | zero =>
      simp only [forK] at hr
      refine Tr.seq ?_
      refine Tr.seq ?_
      refine Tr.region_f (fun _ => false) ?_
      refine W.q rfl rfl rfl rfl (by decide) (Yd.mv rfl (.t rfl)) ?_
      refine W.q rfl rfl rfl rfl (by decide) (Yd.mv rfl (.t rfl)) ?_
      refine W.q rfl rfl rfl rfl (by decide) (Yd.lenR ha_0 rfl Try.underlying36 (.t rfl)) ?_
      refine W.q rfl rfl rfl rfl (by decide) (Yd.lss rfl (.t rfl) (.t rfl)) ?_
      refine W.end ?_
      refine NX.sub (env' := [(0, _), (1, _), (5, _), (14, _)]) ⟨rfl, rfl, rfl, rfl, trivial⟩ ?_
      refine NX.then ?_
      refine Tr.cond (.t rfl) (fun hb => ?_) (fun hb => ?_)
      · exact absurd (hb.symm.trans (fr_end hni_6)) (by decide)
      ·
        refine Tr.exit' (EX.then (EX.then (EX.block ?_)))
        refine NX.sub (env' := []) trivial ?_
        exact hk4 _ _ ⟨rfl, rfl, hr⟩
    | succ n9 =>
      obtain ⟨nx8, hnx8, hr⟩ := forK_succ hr
      try dsimp only at hr
      unfold syllogistref_Words_b7 at hr
      try dsimp only at hr
      have hlti_6 := fr_bnd hni_6
      refine Tr.seq ?_
      refine Tr.seq ?_
      refine Tr.region_f (fun _ => false) ?_
      refine W.q rfl rfl rfl rfl (by decide) (Yd.mv rfl (.t rfl)) ?_
      refine W.q rfl rfl rfl rfl (by decide) (Yd.mv rfl (.t rfl)) ?_
      refine W.q rfl rfl rfl rfl (by decide) (Yd.lenR ha_0 rfl Try.underlying36 (.t rfl)) ?_
      refine W.q rfl rfl rfl rfl (by decide) (Yd.lss rfl (.t rfl) (.t rfl)) ?_
      refine W.end ?_
      refine NX.sub (env' := [(0, _), (1, _), (5, _), (14, _)]) ⟨rfl, rfl, rfl, rfl, trivial⟩ ?_
      refine NX.then ?_
      refine Tr.cond (.t rfl) (fun hb => ?_) (fun hb => ?_)
      rotate_left
      · exact absurd (hb.symm.trans (fr_go hni_6)) (by decide)
      ·
        refine Tr.skip' ?_
        refine NX.then ?_
        refine Tr.seq ?_
        refine Tr.block ?_
        refine Tr.seq ?_
        obtain ⟨y10, hy11, hr⟩ := bind_some hr
        obtain ⟨y12, hy13, hr⟩ := bind_some hr
        refine Tr.region_x (fun _ => false) (fun _ => false) [0, 1, 2, 3, 4, 5, 6, 7, 8] FM (by kernel_rfl) ?_
        refine W.q rfl rfl rfl rfl (by decide) (Yd.mv rfl (.t rfl)) ?_
        refine W.q rfl rfl rfl rfl (by decide) (Yd.mv rfl (.t rfl)) ?_
        refine W.q rfl rfl rfl rfl (by decide) (Yd.idxR ha_0 hy11 rfl Try.underlying36 SZ23 (.t rfl) (.t rfl)) ?_
        refine W.q rfl rfl rfl rfl (by decide) (Yd.ldF ha_0 (.refl _) hy11 rfl rfl ON23 (.t rfl)) ?_
        refine W.q rfl rfl rfl rfl (by decide) (Yd.mv rfl (.t rfl)) ?_
        refine W.q rfl rfl rfl rfl (by decide) (Yd.mv rfl (.t rfl)) ?_
        refine W.q rfl rfl rfl rfl (by decide) (Yd.idxR hb_1 hy13 rfl Try.underlying36 SZ23 (.t rfl) (.t rfl)) ?_
        refine W.q rfl rfl rfl rfl (by decide) (Yd.ldF hb_1 (.refl _) hy13 rfl rfl ON23 (.t rfl)) ?_
        refine W.q rfl rfl rfl rfl (by decide) (Yd.neqU rfl (.t rfl) (.t rfl)) ?_
        refine W.end ?_
        refine NX.sub (env' := [(0, _), (1, _), (5, _), (25, _)]) ⟨rfl, rfl, rfl, rfl, trivial⟩ ?_
        refine NX.then ?_
        refine Tr.cond (.t rfl) (fun hb => ?_) (fun hb => ?_)
        · have hr := cond_t hb hr
          refine Tr.seq ?_
          refine Tr.region_f (fun _ => false) ?_
          refine W.q rfl rfl rfl rfl (by decide) (Yd.as rfl .c) ?_
          refine W.end ?_
          refine NX.sub (env' := [(4, _)]) ⟨rfl, trivial⟩ ?_
          refine NX.then ?_
          refine Tr.ret' (RT.block (RT.then (RT.then (RT.block (RT.then ?_)))))
          refine res1 rfl rfl ?_
          intro w hc
          cases hr
          exact ⟨rfl, hc⟩
        · have hr := cond_f hb hr
          refine Tr.skip' ?_
          refine NX.block ?_
          refine NX.then ?_
          refine Tr.region_f (fun _ => false) ?_
          refine W.q rfl rfl rfl rfl (by decide) (Yd.mv rfl (.t rfl)) ?_
          refine W.q rfl rfl rfl rfl (by decide) (Yd.add rfl (.t rfl) .c) ?_
          refine W.q rfl rfl rfl rfl (by decide) (Yd.as rfl (.t rfl)) ?_
          refine W.end ?_
          refine NX.sub (env' := [(0, _), (1, _), (5, _)]) ⟨rfl, rfl, rfl, trivial⟩ ?_
          refine NX.sub (env' := [(0, _), (1, _), (5, _)]) ⟨rfl, rfl, rfl, trivial⟩ ?_
          have hw := w64_id (n := i_6 + 1) (by omega) (by omega)
          exact NX.again n9 (i_6 + 1, ()) (Nat.lt_succ_self _) ⟨(by rw [hw] <;> rfl), rfl, (fr_dec hni_6), (by omega), ((hnx8 _).symm.trans hr)⟩

def syllogistlaw_FollowCloseds_k16 (r1 : (List (BitVec 32)) × Int) (l14 : List (BitVec 32)) : Option (Bool) :=
  bif (!((r1.2 == (0 : Int)) == true) || (syllogistref_Words r1.1 l14).isSome) then
  some (((r1.2 == (0 : Int)) && (((syllogistref_Words r1.1 l14).getD false)))) else none

def syllogistlaw_FollowCloseds_b20 (rules_1 : List Rule) (s_19 : BitVec 32) (l12 : List (BitVec 32)) (nx21 : (List (BitVec 32)) → Option (Bool)) : Option (Bool) :=
  (syllogistref_Closed rules_1 s_19).bind fun r23 =>
  (bif r23 then
  bif decide (l12.length + (([s_19] : List (BitVec 32))).length ≤ 35184372088832) then
  nx21 (l12 ++ ([s_19] : List (BitVec 32))) else none
  else
  nx21 l12)

def syllogistlaw_FollowCloseds (fuel : Nat) (n_0 : Int) (rules_1 : List Rule) : Option (Bool) :=
  (follow_Closed fuel n_0 rules_1).bind fun r1 =>
  (syllogistref_RulesCheck n_0 rules_1 (0#32)).bind fun r5 =>
  (bif (r5 != (0 : Int)) then
  some (((r1.2 == r5) && ((r1.1.length : Int) == (0 : Int))))
  else
  forK (σ := (List (BitVec 32))) (fun i s nx_ => syllogistlaw_FollowCloseds_b20 rules_1 i s nx_) (fun s => syllogistlaw_FollowCloseds_k16 r1 s) (((1#32 <<< ((BitVec.ofInt 64 n_0)).toNat)).toNat - (0#32).toNat) 0#32 (([] : List (BitVec 32))))

set_option maxRecDepth 100000 in
theorem syllogistlaw_FollowCloseds_ok (w0 : World) (m : Snap) (l : List HI) (fuel : Nat) (n_0 : Int) (urules_1 : Value) (rules_1 : List Rule) (hrules_1 : RS rRule m urules_1 rules_1) (r : Bool) (hr : syllogistlaw_FollowCloseds fuel n_0 rules_1 = some r) (w : World) (hc : cX w0 ⟨m, l⟩ w) :
    Calls Try.prog 5 [.int .i64 n_0, urules_1].toArray w fun e w' => e = .returned (.bool r) ∧ cX w0 ⟨m, l⟩ w' := by
  unfold syllogistlaw_FollowCloseds at hr
  refine calls_of_Tr (N := 50) Try.func5 rfl hc rfl (Nat.le_of_ble_eq_true rfl) ?_
  refine Tr.seq ?_
  refine Tr.region_f (fun _ => false) ?_
  refine W.q rfl rfl rfl rfl (by decide) (Yd.as rfl .c) ?_
  refine W.end ?_
  refine NX.sub (env' := [(0, _), (1, _)]) ⟨rfl, rfl, trivial⟩ ?_
  refine NX.then ?_
  refine Tr.seq ?_
  obtain ⟨r1, hr2, hr⟩ := bind_some hr
  refine Tr.region_f (fun i => Nat.beq i 2) ?_
  refine W.q rfl rfl rfl rfl (by decide) (Yd.mv rfl (.t rfl)) ?_
  refine W.q rfl rfl rfl rfl (by decide) (Yd.mv rfl (.t rfl)) ?_
  refine W.e rfl rfl rfl rfl (by decide) (Ef.call (R := fun z x' => ∃ v3 : Value, z = .tuple #[v3, .int .i64 r1.2] ∧ x' = ⟨m, hownT 23 1 encU v3 r1.1 :: l⟩) rfl Try.func17 rfl rfl (.cons (.t rfl) (.cons (.t rfl) .nil)) (fun w hw => (follow_Closed_ok w0 _ _ fuel n_0 _ _ hrules_1 _ hr2 w hw).mono fun e w' ⟨v3, he, hc'⟩ => ⟨_, _, he, ⟨v3, rfl, rfl⟩, hc'⟩)) ?_
  rintro _ _ ⟨v3, rfl, rfl⟩
  refine ⟨.inl rfl, ?_⟩
  refine W.cast (m' := m) (l' := hownT 23 1 encU v3 _ :: l) rfl rfl ?_
  refine W.q rfl rfl rfl rfl (by decide) (Yd.mv rfl (.t rfl)) ?_
  refine W.q rfl rfl rfl rfl (by decide) (Yd.ext rfl (.t rfl) rfl) ?_
  refine W.q rfl rfl rfl rfl (by decide) (Yd.ext rfl (.t rfl) rfl) ?_
  refine W.q rfl rfl rfl rfl (by decide) (Yd.as rfl (.t rfl)) ?_
  refine W.q rfl rfl rfl rfl (by decide) (Yd.as rfl (.t rfl)) ?_
  refine W.end ?_
  refine NX.sub (env' := [(0, _), (1, _), (5, _), (6, _)]) ⟨rfl, rfl, rfl, rfl, trivial⟩ ?_
  refine NX.then ?_
  refine Tr.seq ?_
  obtain ⟨r5, hr6, hr⟩ := bind_some hr
  refine Tr.region_f (fun _ => false) ?_
  refine W.q rfl rfl rfl rfl (by decide) (Yd.mv rfl (.t rfl)) ?_
  refine W.q rfl rfl rfl rfl (by decide) (Yd.mv rfl (.t rfl)) ?_
  refine W.q rfl rfl rfl rfl (by decide) (Yd.call (v := .int .i64 r5) rfl Try.func13 rfl rfl (.cons (.t rfl) (.cons (.t rfl) (.cons .c .nil))) (fun x' hx w hw => syllogistref_RulesCheck_ok w0 x'.m x'.l n_0 _ _ (hrules_1.mono hx.1) (0#32) _ hr6 w hw)) ?_
  refine W.q rfl rfl rfl rfl (by decide) (Yd.as rfl (.t rfl)) ?_
  refine W.end ?_
  refine NX.sub (env' := [(0, _), (1, _), (5, _), (6, _), (7, _)]) ⟨rfl, rfl, rfl, rfl, rfl, trivial⟩ ?_
  refine NX.then ?_
  refine Tr.seq ?_
  refine Tr.seq ?_
  refine Tr.region_f (fun _ => false) ?_
  refine W.q rfl rfl rfl rfl (by decide) (Yd.mv rfl (.t rfl)) ?_
  refine W.q rfl rfl rfl rfl (by decide) (Yd.neq rfl (.t rfl) .c) ?_
  refine W.end ?_
  refine NX.sub (env' := [(0, _), (1, _), (5, _), (6, _), (7, _), (20, _)]) ⟨rfl, rfl, rfl, rfl, rfl, rfl, trivial⟩ ?_
  refine NX.then ?_
  refine Tr.cond (.t rfl) (fun hb => ?_) (fun hb => ?_)
  · have hr := cond_t hb hr
    refine Tr.seq ?_
    refine Tr.region_f (fun _ => false) ?_
    refine W.q rfl rfl rfl rfl (by decide) (Yd.mv rfl (.t rfl)) ?_
    refine W.q rfl rfl rfl rfl (by decide) (Yd.mv rfl (.t rfl)) ?_
    refine W.q rfl rfl rfl rfl (by decide) (Yd.eql rfl (.t rfl) (.t rfl)) ?_
    refine W.q rfl rfl rfl rfl (by decide) (Yd.mv rfl (.t rfl)) ?_
    refine W.g rfl rfl rfl rfl rfl (.t rfl _) rfl (by decide) (fun hG => Yd.mv rfl (.t rfl)) ?_
    refine W.g rfl rfl rfl rfl rfl (.t rfl _) rfl (by decide) (fun hG => Yd.lenO (p := 0) rfl rfl Try.underlying36 (.g rfl hG)) ?_
    refine W.g rfl rfl rfl rfl rfl (.t rfl _) rfl (by decide) (fun hG => Yd.eql rfl (.g rfl hG) .c) ?_
    refine W.q rfl rfl rfl rfl (by decide) (Yd.and rfl (.t rfl) .c rfl rfl) ?_
    refine W.q rfl rfl rfl rfl (by decide) (Yd.as rfl (.t rfl)) ?_
    refine W.end ?_
    refine NX.sub (env' := [(4, _)]) ⟨rfl, trivial⟩ ?_
    refine NX.drop (l' := l) (.cons _ (.refl _)) ?_
    refine NX.then ?_
    refine Tr.ret' (RT.then ?_)
    refine res1 rfl rfl ?_
    intro w hc
    cases hr
    exact ⟨rfl, hc⟩
  · have hr := cond_f hb hr
    refine Tr.skip' ?_
    refine NX.then ?_
    refine Tr.seq ?_
    refine Tr.region_f (fun _ => false) ?_
    refine W.q rfl rfl rfl rfl (by decide) (Yd.as rfl .c) ?_
    refine W.end ?_
    refine NX.sub (env' := [(0, _), (1, _), (5, _), (6, _), (8, _)]) ⟨rfl, rfl, rfl, rfl, rfl, trivial⟩ ?_
    refine NX.then ?_
    refine Tr.seq ?_
    refine Tr.seq ?_
    refine Tr.region_f (fun _ => false) ?_
    refine W.q rfl rfl rfl rfl (by decide) (Yd.as rfl .c) ?_
    refine W.end ?_
    refine NX.sub (env' := [(0, _), (1, _), (5, _), (6, _), (8, _), (9, _)]) ⟨rfl, rfl, rfl, rfl, rfl, rfl, trivial⟩ ?_
    refine NX.then ?_
    refine Tr.addnil 23 1 ?_
    refine Tr.join (S := fun env x => ∃ l14 : List (BitVec 32), ∃ v15 : Value, env = [(5, v3), (6, .int .i64 r1.2), (8, v15)] ∧ x = ⟨m, hownT 23 1 encU v15 l14 :: hownT 23 1 encU v3 r1.1 :: l⟩ ∧ syllogistlaw_FollowCloseds_k16 r1 l14 = some r) ?_ (fun hk17 => ?_)
    · rintro _ _ ⟨l14, v15, rfl, rfl, hr⟩
      unfold syllogistlaw_FollowCloseds_k16 at hr
      try dsimp only at hr
      refine NX.then ?_
      refine Tr.seq ?_
      obtain ⟨ha18, hr⟩ := guard_some hr
      refine Tr.region_f (fun _ => false) ?_
      refine W.q rfl rfl rfl rfl (by decide) (Yd.mv rfl (.t rfl)) ?_
      refine W.q rfl rfl rfl rfl (by decide) (Yd.eql rfl (.t rfl) .c) ?_
      refine W.q rfl rfl rfl rfl (by decide) (Yd.mv rfl (.t rfl)) ?_
      refine W.g rfl rfl rfl rfl rfl (.t rfl _) rfl (by decide) (fun hG => Yd.mv rfl (.t rfl)) ?_
      refine W.g rfl rfl rfl rfl rfl (.t rfl _) rfl (by decide) (fun hG => Yd.mv rfl (.t rfl)) ?_
      refine W.g rfl rfl rfl rfl rfl (.t rfl _) rfl (by decide) (fun hG => Yd.call (v := .bool ((((syllogistref_Words r1.1 l14).getD false)))) rfl Try.func19 rfl rfl (.cons (.g rfl hG) (.cons (.g rfl hG) .nil)) (by intro x' hx w hw; obtain ⟨p0, p1, hp0, hp1⟩ := hx.at2 (a := 1) (b := 0) rfl rfl rfl; obtain ⟨m1, hm1, hc1, ⟨L1, hl0a, hl0b'⟩, hback1⟩ := cX_lend hw hp0 lone_own; obtain ⟨m2, hm2', hc2, ⟨L2, hl1a, hl1b⟩, hback2⟩ := cX_lend hc1 hp1 lone_own; have hm2 := hm1.trans hm2'; have hl0b : ∀ q ∈ L1, m2 q.1 = some q.2 := fun q hq => hm2' _ _ (hl0b' q hq); have hL1 : RS rU m2 _ _ := RS_of_own hl0a hl0b; have hL2 : RS rU m2 _ _ := RS_of_own hl1a hl1b; exact (syllogistref_Words_ok w0 m2 _ _ _ hL1 _ _ hL2 _ (gd_get (d := false) ha18 hG) w hc2).mono fun e w' ⟨he, hc'⟩ => ⟨he, (hback1 m1 _ _ w' (.refl _) hp0).2 ((hback2 m2 _ _ w' (.refl _) hp1).2 hc')⟩)) ?_
      refine W.q rfl rfl rfl rfl (by decide) (Yd.and rfl (.t rfl) .c rfl rfl) ?_
      refine W.q rfl rfl rfl rfl (by decide) (Yd.as rfl (.t rfl)) ?_
      refine W.end ?_
      refine NX.sub (env' := [(4, _)]) ⟨rfl, trivial⟩ ?_
      refine NX.drop (l' := l) (.cons _ (.cons _ (.refl _))) ?_
      refine NX.then ?_
      refine Tr.ret' ?_
      refine res1 rfl rfl ?_
      intro w hc
      cases hr
      exact ⟨rfl, hc⟩
    refine Tr.block ?_
    refine Tr.sub (env' := [(0, _), (1, _), (5, _), (6, _), (8, _), (9, _)]) ⟨rfl, rfl, rfl, rfl, rfl, rfl, trivial⟩ ?_
    refine Tr.loop (S := fun n (z : BitVec 32 × (List (BitVec 32))) env x => match z with | (s_19, l12) => ∃ v13 : Value, env = [(0, .int .i64 n_0), (1, urules_1), (5, v3), (6, .int .i64 r1.2), (8, v13), (9, .int .u32 (s_19.toNat : Int))] ∧ x = ⟨m, hownT 23 1 encU v13 l12 :: hownT 23 1 encU v3 r1.1 :: l⟩ ∧ n = ((1#32 <<< ((BitVec.ofInt 64 n_0)).toNat)).toNat - s_19.toNat ∧ forK (σ := (List (BitVec 32))) (fun i s nx_ => syllogistlaw_FollowCloseds_b20 rules_1 i s nx_) (fun s => syllogistlaw_FollowCloseds_k16 r1 s) n s_19 l12 = some r) _ (0#32, ([] : List (BitVec 32))) ⟨_, rfl, rfl, rfl, hr⟩ ?_
    rintro n22 ⟨s_19, l12⟩ env x ⟨v13, rfl, rfl, hns_19, hr⟩
    cases n22 with
    | zero =>
      simp only [forK] at hr
      refine Tr.seq ?_
      refine Tr.seq ?_
      refine Tr.region_f (fun _ => false) ?_
      refine W.q rfl rfl rfl rfl (by decide) (Yd.mv rfl (.t rfl)) ?_
      refine W.q rfl rfl rfl rfl (by decide) (Yd.mv rfl (.t rfl)) ?_
      refine W.q rfl rfl rfl rfl (by decide) (Yd.cvQ rfl US3 Try.underlying39 (.t rfl)) ?_
      refine W.q rfl rfl rfl rfl (by decide) (Yd.shlU (a := 1#32) rfl .c (.t rfl) (Int.natCast_nonneg _)) ?_
      refine W.q rfl rfl rfl rfl (by decide) (Yd.lssU rfl (.t rfl) (.t rfl)) ?_
      refine W.end ?_
      refine NX.sub (env' := [(0, _), (1, _), (5, _), (6, _), (8, _), (9, _), (33, _)]) ⟨rfl, rfl, rfl, rfl, rfl, rfl, rfl, trivial⟩ ?_
      refine NX.then ?_
      refine Tr.cond (.t rfl) (fun hb => ?_) (fun hb => ?_)
      · exact absurd (hb.symm.trans (fu_end hns_19)) (by decide)
      ·
        refine Tr.exit' (EX.then (EX.then (EX.block ?_)))
        refine NX.sub (env' := [(5, _), (6, _), (8, _)]) ⟨rfl, rfl, rfl, trivial⟩ ?_
        exact hk17 _ _ ⟨_, _, rfl, rfl, hr⟩
    | succ n22 =>
      obtain ⟨nx21, hnx21, hr⟩ := forK_succ hr
      try dsimp only at hr
      unfold syllogistlaw_FollowCloseds_b20 at hr
      try dsimp only at hr
      refine Tr.seq ?_
      refine Tr.seq ?_
      refine Tr.region_f (fun _ => false) ?_
      refine W.q rfl rfl rfl rfl (by decide) (Yd.mv rfl (.t rfl)) ?_
      refine W.q rfl rfl rfl rfl (by decide) (Yd.mv rfl (.t rfl)) ?_
      refine W.q rfl rfl rfl rfl (by decide) (Yd.cvQ rfl US3 Try.underlying39 (.t rfl)) ?_
      refine W.q rfl rfl rfl rfl (by decide) (Yd.shlU (a := 1#32) rfl .c (.t rfl) (Int.natCast_nonneg _)) ?_
      refine W.q rfl rfl rfl rfl (by decide) (Yd.lssU rfl (.t rfl) (.t rfl)) ?_
      refine W.end ?_
      refine NX.sub (env' := [(0, _), (1, _), (5, _), (6, _), (8, _), (9, _), (33, _)]) ⟨rfl, rfl, rfl, rfl, rfl, rfl, rfl, trivial⟩ ?_
      refine NX.then ?_
      refine Tr.cond (.t rfl) (fun hb => ?_) (fun hb => ?_)
      rotate_left
      · exact absurd (hb.symm.trans (fu_go hns_19)) (by decide)
      ·
        refine Tr.skip' ?_
        refine NX.then ?_
        refine Tr.seq ?_
        refine Tr.block ?_
        refine Tr.seq ?_
        obtain ⟨r23, hr24, hr⟩ := bind_some hr
        refine Tr.region_f (fun _ => false) ?_
        refine W.q rfl rfl rfl rfl (by decide) (Yd.mv rfl (.t rfl)) ?_
        refine W.q rfl rfl rfl rfl (by decide) (Yd.mv rfl (.t rfl)) ?_
        refine W.q rfl rfl rfl rfl (by decide) (Yd.call (v := .bool r23) rfl Try.func18 rfl rfl (.cons (.t rfl) (.cons (.t rfl) .nil)) (fun x' hx w hw => syllogistref_Closed_ok w0 x'.m x'.l _ _ (hrules_1.mono hx.1) s_19 _ hr24 w hw)) ?_
        refine W.end ?_
        refine NX.sub (env' := [(0, _), (1, _), (5, _), (6, _), (8, _), (9, _), (38, _)]) ⟨rfl, rfl, rfl, rfl, rfl, rfl, rfl, trivial⟩ ?_
        refine NX.then ?_
        refine Tr.cond (.t rfl) (fun hb => ?_) (fun hb => ?_)
        · have hr := cond_t hb hr
          obtain ⟨hq28, hr⟩ := guard_some hr; replace hq28 := of_decide_eq_true hq28
          refine Tr.region_f (fun i => Nat.beq i 2 || Nat.beq i 3) ?_
          refine W.q rfl rfl rfl rfl (by decide) (Yd.mv rfl (.t rfl)) ?_
          refine W.q rfl rfl rfl rfl (by decide) (Yd.mv rfl (.t rfl)) ?_
          refine W.e rfl rfl rfl rfl (by decide) (Ef.bsT (enc := encU) (vs := [_]) (ys := [s_19]) (fun _ => rfl) IF23 rfl Try.underlying36 (by decide) rfl (.cons (.t rfl) .nil) rfl rfl (by decide)) ?_
          rintro v25 _ rfl
          refine ⟨.inl rfl, ?_⟩
          refine W.cast (m' := m) (l' := hownT 23 1 encU v25 _ :: hownT 23 1 encU v13 _ :: hownT 23 1 encU v3 _ :: l) rfl rfl ?_
          refine W.e rfl rfl rfl rfl (by decide) (Ef.apI (pos := 1) (enc := encU) (xs := l12) (ys := ([s_19] : List (BitVec 32))) (fun _ => rfl) IF23 rfl rfl Try.underlying36 rfl (by decide) (.t rfl) (.t rfl) (Src.own (pos := 0) rfl) (fun _ => rfl) (by omega) (by omega)) ?_
          rintro v27 _ rfl
          refine ⟨.inl rfl, ?_⟩
          refine W.cast (m' := m) (l' := hownT 23 1 encU v25 _ :: hownT 23 1 encU v27 _ :: hownT 23 1 encU v3 _ :: l) rfl rfl ?_
          refine W.q rfl rfl rfl rfl (by decide) (Yd.as rfl (.t rfl)) ?_
          refine W.end ?_
          refine NX.sub (env' := [(0, _), (1, _), (5, _), (6, _), (8, _), (9, _)]) ⟨rfl, rfl, rfl, rfl, rfl, rfl, trivial⟩ ?_
          refine NX.drop (l' := hownT 23 1 encU v27 _ :: hownT 23 1 encU v3 _ :: l) (.cons _ (.cons_cons _ (.cons_cons _ (.refl _)))) ?_
          refine NX.block ?_
          refine NX.then ?_
          refine Tr.region_f (fun _ => false) ?_
          refine W.q rfl rfl rfl rfl (by decide) (Yd.mv rfl (.t rfl)) ?_
          refine W.q rfl rfl rfl rfl (by decide) (Yd.addU (b := 1#32) rfl (.t rfl) .c) ?_
          refine W.q rfl rfl rfl rfl (by decide) (Yd.as rfl (.t rfl)) ?_
          refine W.end ?_
          refine NX.sub (env' := [(0, _), (1, _), (5, _), (6, _), (8, _), (9, _)]) ⟨rfl, rfl, rfl, rfl, rfl, rfl, trivial⟩ ?_
          refine NX.sub (env' := [(0, _), (1, _), (5, _), (6, _), (8, _), (9, _)]) ⟨rfl, rfl, rfl, rfl, rfl, rfl, trivial⟩ ?_
          exact NX.again n22 (s_19 + 1, (l12 ++ ([s_19] : List (BitVec 32)))) (Nat.lt_succ_self _) ⟨_, rfl, rfl, (fu_dec hns_19), ((hnx21 _).symm.trans hr)⟩
        · have hr := cond_f hb hr
          refine Tr.skip' ?_
          refine NX.block ?_
          refine NX.then ?_
          refine Tr.region_f (fun _ => false) ?_
          refine W.q rfl rfl rfl rfl (by decide) (Yd.mv rfl (.t rfl)) ?_
          refine W.q rfl rfl rfl rfl (by decide) (Yd.addU (b := 1#32) rfl (.t rfl) .c) ?_
          refine W.q rfl rfl rfl rfl (by decide) (Yd.as rfl (.t rfl)) ?_
          refine W.end ?_
          refine NX.sub (env' := [(0, _), (1, _), (5, _), (6, _), (8, _), (9, _)]) ⟨rfl, rfl, rfl, rfl, rfl, rfl, trivial⟩ ?_
          refine NX.sub (env' := [(0, _), (1, _), (5, _), (6, _), (8, _), (9, _)]) ⟨rfl, rfl, rfl, rfl, rfl, rfl, trivial⟩ ?_
          exact NX.again n22 (s_19 + 1, l12) (Nat.lt_succ_self _) ⟨_, rfl, rfl, (fu_dec hns_19), ((hnx21 _).symm.trans hr)⟩

def follow_Keys_c1 (k_0 : (BitVec 32)) (c_0 : (BitVec 32)) : Option (Bool) :=
  some (((k_0 &&& ~~~c_0) == 0#32))

set_option maxRecDepth 100000 in
theorem follow_Keys_c1_ok (w0 : World) (m : Snap) (l : List HI) (k_0 : (BitVec 32)) (fp0 fb0 : Nat) (c_0 : (BitVec 32)) (hfp0 : l[fp0]? = some (hcells fb0 [.int .u32 (c_0.toNat : Int)] 23)) (r : Bool) (hr : follow_Keys_c1 k_0 c_0 = some r) (w : World) (hc : cX w0 ⟨m, l⟩ w) :
    Calls Try.prog 34 [.int .u32 (k_0.toNat : Int), bp fb0 0].toArray w fun e w' => e = .returned (.bool r) ∧ cX w0 ⟨m, l⟩ w' := by
  unfold follow_Keys_c1 at hr
  refine calls_of_Tr (N := 8) Try.func34 rfl hc rfl (Nat.le_of_ble_eq_true rfl) ?_
  refine Tr.seq ?_
  refine Tr.region_f (fun _ => false) ?_
  refine W.q rfl rfl rfl rfl (by decide) (Yd.as rfl .c) ?_
  refine W.end ?_
  refine NX.sub (env' := [(0, _), (1, _)]) ⟨rfl, rfl, trivial⟩ ?_
  refine NX.then ?_
  refine Tr.seq ?_
  refine Tr.region_f (fun _ => false) ?_
  refine W.q rfl rfl rfl rfl (by decide) (Yd.mv rfl (.t rfl)) ?_
  refine W.q rfl rfl rfl rfl (by decide) (Yd.ldB (pos := fp0) hfp0 rfl rfl ON23 (.t rfl)) ?_
  refine W.q rfl rfl rfl rfl (by decide) (Yd.andnU rfl (.t rfl) (.t rfl)) ?_
  refine W.q rfl rfl rfl rfl (by decide) (Yd.eqlU (b := 0#32) rfl (.t rfl) .c) ?_
  refine W.q rfl rfl rfl rfl (by decide) (Yd.as rfl (.t rfl)) ?_
  refine W.end ?_
  refine NX.sub (env' := [(3, _)]) ⟨rfl, trivial⟩ ?_
  refine NX.then ?_
  refine Tr.ret' ?_
  refine res1 rfl rfl ?_
  intro w hc
  cases hr
  exact ⟨rfl, hc⟩

def slices_IndexFunc_Suint32uint32_k3 : Option (Int) :=
  some ((-1 : Int))

def slices_IndexFunc_Suint32uint32_b7 (s_0 : List (BitVec 32)) (f_1 : (BitVec 32) → Option Bool) (t_6 : Int) (nx8 : Unit → Option (Int)) : Option (Int) :=
  (geti s_0 t_6).bind fun y10 =>
  (f_1 y10).bind fun r12 =>
  (bif r12 then
  some t_6
  else
  nx8 ())

def slices_IndexFunc_Suint32uint32 (s_0 : List (BitVec 32)) (f_1 : (BitVec 32) → Option Bool) : Option (Int) :=
  forK (σ := Unit) (fun i s nx_ => slices_IndexFunc_Suint32uint32_b7 s_0 f_1 i nx_) (fun _ => slices_IndexFunc_Suint32uint32_k3) ((s_0.length : Int) - (0 : Int)).toNat (0 : Int) ()

set_option maxRecDepth 100000 in
theorem slices_IndexFunc_Suint32uint32_ok (w0 : World) (m : Snap) (l : List HI) (us_0 : Value) (s_0 : List (BitVec 32)) (hs_0 : RS rU m us_0 s_0) (uf_1 : Value) (f_1 : (BitVec 32) → Option Bool) (hf_1 : Fq Try.prog w0 ⟨m, l⟩ uf_1 (α := (BitVec 32)) (β := Bool) (fun _ v a => v = .int .u32 (a.toNat : Int)) (fun b => .bool b) f_1) (r : Int) (hr : slices_IndexFunc_Suint32uint32 s_0 f_1 = some r) (w : World) (hc : cX w0 ⟨m, l⟩ w) :
    Calls Try.prog 41 [us_0, uf_1].toArray w fun e w' => e = .returned (.int .i64 r) ∧ cX w0 ⟨m, l⟩ w' := by
  unfold slices_IndexFunc_Suint32uint32 at hr
  refine calls_of_Tr (N := 19) Try.func41 rfl hc rfl (Nat.le_of_ble_eq_true rfl) ?_
  refine Tr.seq ?_
  refine Tr.region_f (fun _ => false) ?_
  refine W.q rfl rfl rfl rfl (by decide) (Yd.as rfl .c) ?_
  refine W.end ?_
  refine NX.sub (env' := [(0, _), (1, _)]) ⟨rfl, rfl, trivial⟩ ?_
  refine NX.then ?_
  refine Tr.seq ?_
  refine Tr.seq ?_
  refine Tr.region_f (fun _ => false) ?_
  refine W.q rfl rfl rfl rfl (by decide) (Yd.mv rfl (.t rfl)) ?_
  refine W.q rfl rfl rfl rfl (by decide) (Yd.lenR hs_0 rfl Try.underlying36 (.t rfl)) ?_
  refine W.q rfl rfl rfl rfl (by decide) (Yd.mv rfl .c) ?_
  refine W.end ?_
  refine NX.sub (env' := [(0, _), (1, _), (7, _), (8, _)]) ⟨rfl, rfl, rfl, rfl, trivial⟩ ?_
  refine NX.then ?_
  refine Tr.join (S := fun env x => env = [] ∧ x = ⟨m, l⟩ ∧ slices_IndexFunc_Suint32uint32_k3 = some r) ?_ (fun hk4 => ?_)
  · rintro _ _ ⟨rfl, rfl, hr⟩
    unfold slices_IndexFunc_Suint32uint32_k3 at hr
    try dsimp only at hr
    refine NX.then ?_
    refine Tr.seq ?_
    refine Tr.region_f (fun _ => false) ?_
    refine W.q rfl rfl rfl rfl (by decide) (Yd.as rfl .c) ?_
    refine W.end ?_
    refine NX.sub (env' := [(4, _)]) ⟨rfl, trivial⟩ ?_
    refine NX.then ?_
    refine Tr.ret' ?_
    refine res1 rfl rfl ?_
    intro w hc
    cases hr
    exact ⟨rfl, hc⟩
  have hlen5 := (hs_0).2.1
  refine Tr.block ?_
  refine Tr.sub (env' := [(0, _), (1, _), (7, _), (8, _)]) ⟨rfl, rfl, rfl, rfl, trivial⟩ ?_
  refine Tr.loop (S := fun n (z : Int × Unit) env x => match z with | (t_6, _) => env = [(0, us_0), (1, uf_1), (7, .int .i64 ((s_0.length : Int))), (8, .int .i64 t_6)] ∧ x = ⟨m, l⟩ ∧ n = ((s_0.length : Int) - t_6).toNat ∧ 0 ≤ t_6 ∧ forK (σ := Unit) (fun i s nx_ => slices_IndexFunc_Suint32uint32_b7 s_0 f_1 i nx_) (fun _ => slices_IndexFunc_Suint32uint32_k3) n t_6 () = some r) _ ((0 : Int), ()) ⟨rfl, rfl, rfl, (by omega), hr⟩ ?_
  rintro n9 ⟨t_6, _⟩ env x ⟨rfl, rfl, hnt_6, h0t_6, hr⟩
  cases n9 with
  | zero =>
    simp only [forK] at hr
    refine Tr.seq ?_
    refine Tr.region_f (fun _ => false) ?_
    refine W.q rfl rfl rfl rfl (by decide) (Yd.lss rfl (.t rfl) (.t rfl)) ?_
    refine W.end ?_
    refine NX.sub (env' := [(0, _), (1, _), (7, _), (8, _), (9, _)]) ⟨rfl, rfl, rfl, rfl, rfl, trivial⟩ ?_
    refine NX.then ?_
    refine Tr.seq ?_
    refine Tr.cond (.t rfl) (fun hb => ?_) (fun hb => ?_)
    · exact absurd (hb.symm.trans (fr_end hnt_6)) (by decide)
    ·
      refine Tr.exit' (EX.then (EX.then (EX.block ?_)))
      refine NX.sub (env' := []) trivial ?_
      exact hk4 _ _ ⟨rfl, rfl, hr⟩
  | succ n9 =>
    obtain ⟨nx8, hnx8, hr⟩ := forK_succ hr
    try dsimp only at hr
    unfold slices_IndexFunc_Suint32uint32_b7 at hr
    try dsimp only at hr
    have hltt_6 := fr_bnd hnt_6
    refine Tr.seq ?_
    refine Tr.region_f (fun _ => false) ?_
    refine W.q rfl rfl rfl rfl (by decide) (Yd.lss rfl (.t rfl) (.t rfl)) ?_
    refine W.end ?_
    refine NX.sub (env' := [(0, _), (1, _), (7, _), (8, _), (9, _)]) ⟨rfl, rfl, rfl, rfl, rfl, trivial⟩ ?_
    refine NX.then ?_
    refine Tr.seq ?_
    refine Tr.cond (.t rfl) (fun hb => ?_) (fun hb => ?_)
    rotate_left
    · exact absurd (hb.symm.trans (fr_go hnt_6)) (by decide)
    ·
      refine Tr.skip' ?_
      refine NX.then ?_
      refine Tr.seq ?_
      refine Tr.block ?_
      refine Tr.seq ?_
      refine Tr.region_f (fun _ => false) ?_
      refine W.q rfl rfl rfl rfl (by decide) (Yd.mv rfl (.t rfl)) ?_
      refine W.q rfl rfl rfl rfl (by decide) (Yd.as rfl (.t rfl)) ?_
      refine W.end ?_
      refine NX.sub (env' := [(0, _), (1, _), (7, _), (8, _), (5, _)]) ⟨rfl, rfl, rfl, rfl, rfl, trivial⟩ ?_
      refine NX.then ?_
      refine Tr.seq ?_
      obtain ⟨y10, hy11, hr⟩ := bind_some hr
      obtain ⟨r12, hr13, hr⟩ := bind_some hr
      refine Tr.region_f (fun _ => false) ?_
      refine W.q rfl rfl rfl rfl (by decide) (Yd.mv rfl (.t rfl)) ?_
      refine W.q rfl rfl rfl rfl (by decide) (Yd.mv rfl (.t rfl)) ?_
      refine W.q rfl rfl rfl rfl (by decide) (Yd.mv rfl (.t rfl)) ?_
      refine W.q rfl rfl rfl rfl (by decide) (Yd.idxR hs_0 hy11 rfl Try.underlying36 SZ23 (.t rfl) (.t rfl)) ?_
      refine W.q rfl rfl rfl rfl (by decide) (Yd.ldF hs_0 (.refl _) hy11 rfl rfl ON23 (.t rfl)) ?_
      refine W.q rfl rfl rfl rfl (by decide) (Yd.callF hf_1 ⟨(.refl _), [], rfl⟩ rfl (.t rfl) (.t rfl) (fun _ _ => rfl) hr13) ?_
      refine W.end ?_
      refine NX.sub (env' := [(0, _), (1, _), (7, _), (8, _), (5, _), (16, _)]) ⟨rfl, rfl, rfl, rfl, rfl, rfl, trivial⟩ ?_
      refine NX.then ?_
      refine Tr.cond (.t rfl) (fun hb => ?_) (fun hb => ?_)
      · have hr := cond_t hb hr
        refine Tr.seq ?_
        refine Tr.region_f (fun _ => false) ?_
        refine W.q rfl rfl rfl rfl (by decide) (Yd.mv rfl (.t rfl)) ?_
        refine W.q rfl rfl rfl rfl (by decide) (Yd.as rfl (.t rfl)) ?_
        refine W.end ?_
        refine NX.sub (env' := [(4, _)]) ⟨rfl, trivial⟩ ?_
        refine NX.then ?_
        refine Tr.ret' (RT.block (RT.then (RT.then (RT.block (RT.then ?_)))))
        refine res1 rfl rfl ?_
        intro w hc
        cases hr
        exact ⟨rfl, hc⟩
      · have hr := cond_f hb hr
        refine Tr.skip' ?_
        refine NX.block ?_
        refine NX.then ?_
        refine Tr.region_f (fun _ => false) ?_
        refine W.q rfl rfl rfl rfl (by decide) (Yd.add rfl (.t rfl) .c) ?_
        refine W.q rfl rfl rfl rfl (by decide) (Yd.mv rfl (.t rfl)) ?_
        refine W.end ?_
        refine NX.sub (env' := [(0, _), (1, _), (7, _), (8, _)]) ⟨rfl, rfl, rfl, rfl, trivial⟩ ?_
        refine NX.sub (env' := [(0, _), (1, _), (7, _), (8, _)]) ⟨rfl, rfl, rfl, rfl, trivial⟩ ?_
        have hw := w64_id (n := t_6 + 1) (by omega) (by omega)
        exact NX.again n9 (t_6 + 1, ()) (Nat.lt_succ_self _) ⟨(by rw [hw] <;> rfl), rfl, (fr_dec hnt_6), (by omega), ((hnx8 _).symm.trans hr)⟩

def slices_ContainsFunc_Suint32uint32 (s_0 : List (BitVec 32)) (f_1 : (BitVec 32) → Option Bool) : Option (Bool) :=
  (slices_IndexFunc_Suint32uint32 s_0 f_1).bind fun r1 =>
  some ((decide (r1 ≥ (0 : Int))))

set_option maxRecDepth 100000 in
theorem slices_ContainsFunc_Suint32uint32_ok (w0 : World) (m : Snap) (l : List HI) (us_0 : Value) (s_0 : List (BitVec 32)) (hs_0 : RS rU m us_0 s_0) (uf_1 : Value) (f_1 : (BitVec 32) → Option Bool) (hf_1 : Fq Try.prog w0 ⟨m, l⟩ uf_1 (α := (BitVec 32)) (β := Bool) (fun _ v a => v = .int .u32 (a.toNat : Int)) (fun b => .bool b) f_1) (r : Bool) (hr : slices_ContainsFunc_Suint32uint32 s_0 f_1 = some r) (w : World) (hc : cX w0 ⟨m, l⟩ w) :
    Calls Try.prog 35 [us_0, uf_1].toArray w fun e w' => e = .returned (.bool r) ∧ cX w0 ⟨m, l⟩ w' := by
  unfold slices_ContainsFunc_Suint32uint32 at hr
  refine calls_of_Tr (N := 9) Try.func35 rfl hc rfl (Nat.le_of_ble_eq_true rfl) ?_
  refine Tr.seq ?_
  refine Tr.region_f (fun _ => false) ?_
  refine W.q rfl rfl rfl rfl (by decide) (Yd.as rfl .c) ?_
  refine W.end ?_
  refine NX.sub (env' := [(0, _), (1, _)]) ⟨rfl, rfl, trivial⟩ ?_
  refine NX.then ?_
  refine Tr.seq ?_
  obtain ⟨r1, hr2, hr⟩ := bind_some hr
  refine Tr.region_f (fun _ => false) ?_
  refine W.q rfl rfl rfl rfl (by decide) (Yd.mv rfl (.t rfl)) ?_
  refine W.q rfl rfl rfl rfl (by decide) (Yd.mv rfl (.t rfl)) ?_
  refine W.q rfl rfl rfl rfl (by decide) (Yd.call (v := .int .i64 r1) rfl Try.func41 rfl rfl (.cons (.t rfl) (.cons (.t rfl) .nil)) (fun x' hx w hw => slices_IndexFunc_Suint32uint32_ok w0 x'.m x'.l _ _ (hs_0.mono hx.1) _ f_1 (hf_1.mono (leX_trans _ _ _ ⟨(.refl _), [], rfl⟩ hx)) _ hr2 w hw)) ?_
  refine W.q rfl rfl rfl rfl (by decide) (Yd.geq rfl (.t rfl) .c) ?_
  refine W.q rfl rfl rfl rfl (by decide) (Yd.as rfl (.t rfl)) ?_
  refine W.end ?_
  refine NX.sub (env' := [(4, _)]) ⟨rfl, trivial⟩ ?_
  refine NX.then ?_
  refine Tr.ret' ?_
  refine res1 rfl rfl ?_
  intro w hc
  cases hr
  exact ⟨rfl, hc⟩

def follow_Keys_k13 (l11 : List (BitVec 32)) : Option ((List (BitVec 32)) × Int) :=
  some ((l11, (0 : Int)))

def follow_Keys_b16 (n_0 : Int) (rules_1 : List Rule) (fuel : Nat) (t_15 : BitVec 32) (l9 : List (BitVec 32)) (nx17 : (List (BitVec 32)) → Option ((List (BitVec 32)) × Int)) : Option ((List (BitVec 32)) × Int) :=
  (follow_closed fuel rules_1 t_15).bind fun r21 =>
  bif decide (0 ≤ n_0) then
  bif (!((r21 == ((1#32 <<< n_0.toNat) - 1#32)) == true) || (slices_ContainsFunc_Suint32uint32 l9 (fun a => follow_Keys_c1 a t_15)).isSome) then
  (bif ((r21 == ((1#32 <<< n_0.toNat) - 1#32)) && (!(((slices_ContainsFunc_Suint32uint32 l9 (fun a => follow_Keys_c1 a t_15)).getD false)))) then
  bif decide (l9.length + (([t_15] : List (BitVec 32))).length ≤ 35184372088832) then
  nx17 (l9 ++ ([t_15] : List (BitVec 32))) else none
  else
  nx17 l9) else none else none

def follow_Keys (fuel : Nat) (n_0 : Int) (rules_1 : List Rule) : Option ((List (BitVec 32)) × Int) :=
  (follow_Check n_0 rules_1 []).bind fun r1 =>
  (bif (r1 != (0 : Int)) then
  some (([], r1))
  else
  bif decide (0 ≤ n_0) then
  forK (σ := (List (BitVec 32))) (fun i s nx_ => follow_Keys_b16 n_0 rules_1 fuel i s nx_) (fun s => follow_Keys_k13 s) (((1#32 <<< n_0.toNat)).toNat - (0#32).toNat) 0#32 (([] : List (BitVec 32))) else none)

set_option maxRecDepth 100000 in
theorem follow_Keys_ok (w0 : World) (m : Snap) (l : List HI) (fuel : Nat) (n_0 : Int) (urules_1 : Value) (rules_1 : List Rule) (hrules_1 : RS rRule m urules_1 rules_1) (r : (List (BitVec 32)) × Int) (hr : follow_Keys fuel n_0 rules_1 = some r) (w : World) (hc : cX w0 ⟨m, l⟩ w) :
    Calls Try.prog 20 [.int .i64 n_0, urules_1].toArray w fun e w' => ∃ z0 : Value, e = .returned (.tuple #[z0, .int .i64 r.2]) ∧ cX w0 ⟨m, hownT 23 1 encU z0 r.1 :: l⟩ w' := by
  unfold follow_Keys at hr
  refine calls_of_Tr (N := 41) Try.func20 rfl hc rfl (Nat.le_of_ble_eq_true rfl) ?_
  refine Tr.seq ?_
  refine Tr.region_f (fun _ => false) ?_
  refine W.q rfl rfl rfl rfl (by decide) (Yd.as rfl .c) ?_
  refine W.q rfl rfl rfl rfl (by decide) (Yd.as rfl .c) ?_
  refine W.end ?_
  refine NX.sub (env' := [(0, _), (1, _)]) ⟨rfl, rfl, trivial⟩ ?_
  refine NX.then ?_
  refine Tr.seq ?_
  refine Tr.seq ?_
  obtain ⟨r1, hr2, hr⟩ := bind_some hr
  refine Tr.region_f (fun _ => false) ?_
  refine W.q rfl rfl rfl rfl (by decide) (Yd.mv rfl (.t rfl)) ?_
  refine W.q rfl rfl rfl rfl (by decide) (Yd.mv rfl (.t rfl)) ?_
  refine W.q rfl rfl rfl rfl (by decide) (Yd.call (v := .int .i64 r1) rfl Try.func32 rfl rfl (.cons (.t rfl) (.cons (.t rfl) (.cons .c .nil))) (fun x' hx w hw => follow_Check_ok w0 x'.m x'.l n_0 _ _ (hrules_1.mono hx.1) _ _ (RS.nil _ _) _ hr2 w hw)) ?_
  refine W.q rfl rfl rfl rfl (by decide) (Yd.as rfl (.t rfl)) ?_
  refine W.end ?_
  refine NX.sub (env' := [(0, _), (1, _), (6, _)]) ⟨rfl, rfl, rfl, trivial⟩ ?_
  refine NX.then ?_
  refine Tr.seq ?_
  refine Tr.region_f (fun _ => false) ?_
  refine W.q rfl rfl rfl rfl (by decide) (Yd.mv rfl (.t rfl)) ?_
  refine W.q rfl rfl rfl rfl (by decide) (Yd.neq rfl (.t rfl) .c) ?_
  refine W.end ?_
  refine NX.sub (env' := [(0, _), (1, _), (6, _), (14, _)]) ⟨rfl, rfl, rfl, rfl, trivial⟩ ?_
  refine NX.then ?_
  refine Tr.cond (.t rfl) (fun hb => ?_) (fun hb => ?_)
  · have hr := cond_t hb hr
    refine Tr.seq ?_
    refine Tr.region_f (fun _ => false) ?_
    refine W.q rfl rfl rfl rfl (by decide) (Yd.mv rfl (.t rfl)) ?_
    refine W.q rfl rfl rfl rfl (by decide) (Yd.as rfl .c) ?_
    refine W.q rfl rfl rfl rfl (by decide) (Yd.as rfl (.t rfl)) ?_
    refine W.end ?_
    refine NX.sub (env' := [(4, _), (5, _)]) ⟨rfl, rfl, trivial⟩ ?_
    refine NX.then ?_
    refine Tr.ret' (RT.then ?_)
    refine res2 rfl rfl rfl ?_
    intro w hc
    cases hr
    exact ⟨_, rfl, (cX_nil hc)⟩
  · have hr := cond_f hb hr
    refine Tr.skip' ?_
    refine NX.then ?_
    refine Tr.seq ?_
    refine Tr.region_f (fun _ => false) ?_
    refine W.q rfl rfl rfl rfl (by decide) (Yd.as rfl .c) ?_
    refine W.end ?_
    refine NX.sub (env' := [(0, _), (1, _), (7, _)]) ⟨rfl, rfl, rfl, trivial⟩ ?_
    refine NX.then ?_
    refine Tr.seq ?_
    refine Tr.seq ?_
    obtain ⟨hq3, hr⟩ := guard_some hr; replace hq3 := of_decide_eq_true hq3
    refine Tr.region_f (fun _ => false) ?_
    refine W.q rfl rfl rfl rfl (by decide) (Yd.mv rfl (.t rfl)) ?_
    refine W.q rfl rfl rfl rfl (by decide) (Yd.shlU (a := 1#32) rfl .c (.t rfl) hq3) ?_
    refine W.q rfl rfl rfl rfl (by decide) (Yd.mv rfl .c) ?_
    refine W.end ?_
    refine NX.sub (env' := [(0, _), (1, _), (7, _), (17, _), (18, _)]) ⟨rfl, rfl, rfl, rfl, rfl, trivial⟩ ?_
    refine NX.then ?_
    refine Tr.addnil 23 1 ?_
    refine Tr.join (S := fun env x => ∃ l11 : List (BitVec 32), ∃ v12 : Value, env = [(7, v12)] ∧ x = ⟨m, hownT 23 1 encU v12 l11 :: l⟩ ∧ follow_Keys_k13 l11 = some r) ?_ (fun hk14 => ?_)
    · rintro _ _ ⟨l11, v12, rfl, rfl, hr⟩
      unfold follow_Keys_k13 at hr
      try dsimp only at hr
      refine NX.then ?_
      refine Tr.seq ?_
      refine Tr.region_f (fun _ => false) ?_
      refine W.q rfl rfl rfl rfl (by decide) (Yd.mv rfl (.t rfl)) ?_
      refine W.q rfl rfl rfl rfl (by decide) (Yd.as rfl (.t rfl)) ?_
      refine W.q rfl rfl rfl rfl (by decide) (Yd.as rfl .c) ?_
      refine W.end ?_
      refine NX.sub (env' := [(4, _), (5, _)]) ⟨rfl, rfl, trivial⟩ ?_
      refine NX.then ?_
      refine Tr.ret' ?_
      refine res2 rfl rfl rfl ?_
      intro w hc
      cases hr
      exact ⟨_, rfl, hc⟩
    refine Tr.block ?_
    refine Tr.sub (env' := [(0, _), (1, _), (7, _), (17, _), (18, _)]) ⟨rfl, rfl, rfl, rfl, rfl, trivial⟩ ?_
    refine Tr.loop (S := fun n (z : BitVec 32 × (List (BitVec 32))) env x => match z with | (t_15, l9) => ∃ v10 : Value, env = [(0, .int .i64 n_0), (1, urules_1), (7, v10), (17, .int .u32 (((1#32 <<< n_0.toNat)).toNat : Int)), (18, .int .u32 (t_15.toNat : Int))] ∧ x = ⟨m, hownT 23 1 encU v10 l9 :: l⟩ ∧ n = ((1#32 <<< n_0.toNat)).toNat - t_15.toNat ∧ forK (σ := (List (BitVec 32))) (fun i s nx_ => follow_Keys_b16 n_0 rules_1 fuel i s nx_) (fun s => follow_Keys_k13 s) n t_15 l9 = some r) _ (0#32, ([] : List (BitVec 32))) ⟨_, rfl, rfl, rfl, hr⟩ ?_
    rintro n18 ⟨t_15, l9⟩ env x ⟨v10, rfl, rfl, hnt_15, hr⟩
    cases n18 with
    | zero =>
      simp only [forK] at hr
      refine Tr.seq ?_
      refine Tr.region_f (fun _ => false) ?_
      refine W.q rfl rfl rfl rfl (by decide) (Yd.lssU rfl (.t rfl) (.t rfl)) ?_
      refine W.end ?_
      refine NX.sub (env' := [(0, _), (1, _), (7, _), (17, _), (18, _), (19, _)]) ⟨rfl, rfl, rfl, rfl, rfl, rfl, trivial⟩ ?_
      refine NX.then ?_
      refine Tr.seq ?_
      refine Tr.cond (.t rfl) (fun hb => ?_) (fun hb => ?_)
      · exact absurd (hb.symm.trans (fu_end hnt_15)) (by decide)
      ·
        refine Tr.exit' (EX.then (EX.then (EX.block ?_)))
        refine NX.sub (env' := [(7, _)]) ⟨rfl, trivial⟩ ?_
        exact hk14 _ _ ⟨_, _, rfl, rfl, hr⟩
    | succ n18 =>
      obtain ⟨nx17, hnx17, hr⟩ := forK_succ hr
      try dsimp only at hr
      unfold follow_Keys_b16 at hr
      try dsimp only at hr
      refine Tr.seq ?_
      refine Tr.region_f (fun _ => false) ?_
      refine W.q rfl rfl rfl rfl (by decide) (Yd.lssU rfl (.t rfl) (.t rfl)) ?_
      refine W.end ?_
      refine NX.sub (env' := [(0, _), (1, _), (7, _), (17, _), (18, _), (19, _)]) ⟨rfl, rfl, rfl, rfl, rfl, rfl, trivial⟩ ?_
      refine NX.then ?_
      refine Tr.seq ?_
      refine Tr.cond (.t rfl) (fun hb => ?_) (fun hb => ?_)
      rotate_left
      · exact absurd (hb.symm.trans (fu_go hnt_15)) (by decide)
      ·
        refine Tr.skip' ?_
        refine NX.then ?_
        refine Tr.seq ?_
        refine Tr.block ?_
        refine Tr.seq ?_
        refine Tr.region_f (fun i => Nat.beq i 1 || Nat.beq i 2) ?_
        refine W.q rfl rfl rfl rfl (by decide) (Yd.mv rfl (.t rfl)) ?_
        refine W.e rfl rfl rfl rfl (by decide) (Ef.al rfl ZR23 rfl) ?_
        rintro _ _ ⟨b19, rfl, rfl⟩
        refine ⟨.inl rfl, ?_⟩
        refine W.cast (m' := m) (l' := hcells b19 [_] 23 :: hownT 23 1 encU v10 _ :: l) rfl rfl ?_
        refine W.s rfl rfl rfl rfl (Ef.stB (pos := 0) (us := [_]) (cs' := [_]) rfl rfl (.t rfl) (.t rfl) SZ23 rfl rfl rfl (Nat.le_of_ble_eq_true rfl) rfl) ?_
        rintro _ _ ⟨rfl, rfl⟩
        refine ⟨.inl rfl, ?_⟩
        refine W.cast (m' := m) (l' := hcells b19 [_] 23 :: hownT 23 1 encU v10 _ :: l) rfl rfl ?_
        refine W.end ?_
        refine NX.sub (env' := [(0, _), (1, _), (7, _), (17, _), (18, _), (8, _)]) ⟨rfl, rfl, rfl, rfl, rfl, rfl, trivial⟩ ?_
        refine NX.then ?_
        refine Tr.seq ?_
        refine Tr.region_f (fun _ => false) ?_
        refine W.q rfl rfl rfl rfl (by decide) (Yd.mkf rfl (.cons (.t rfl) .nil)) ?_
        refine W.q rfl rfl rfl rfl (by decide) (Yd.as rfl (.t rfl)) ?_
        refine W.end ?_
        refine NX.sub (env' := [(0, _), (1, _), (7, _), (17, _), (18, _), (8, _), (9, _)]) ⟨rfl, rfl, rfl, rfl, rfl, rfl, rfl, trivial⟩ ?_
        refine NX.then ?_
        refine Tr.seq ?_
        obtain ⟨r21, hr22, hr⟩ := bind_some hr
        obtain ⟨hq23, hr⟩ := guard_some hr; replace hq23 := of_decide_eq_true hq23
        obtain ⟨ha24, hr⟩ := guard_some hr
        refine Tr.region_x (fun _ => false) (fun _ => false) [0, 1, 2, 3, 4, 5, 6, 7, 8, 9, 10, 11, 12] FM (by kernel_rfl) ?_
        refine W.q rfl rfl rfl rfl (by decide) (Yd.mv rfl (.t rfl)) ?_
        refine W.q rfl rfl rfl rfl (by decide) (Yd.ldB (pos := 0) rfl rfl rfl ON23 (.t rfl)) ?_
        refine W.q rfl rfl rfl rfl (by decide) (Yd.call (v := .int .u32 (r21.toNat : Int)) rfl Try.func33 rfl rfl (.cons (.t rfl) (.cons (.t rfl) .nil)) (fun x' hx w hw => follow_closed_ok w0 x'.m x'.l fuel _ _ (hrules_1.mono hx.1) t_15 _ hr22 w hw)) ?_
        refine W.q rfl rfl rfl rfl (by decide) (Yd.mv rfl (.t rfl)) ?_
        refine W.q rfl rfl rfl rfl (by decide) (Yd.shlU (a := 1#32) rfl .c (.t rfl) hq23) ?_
        refine W.q rfl rfl rfl rfl (by decide) (Yd.subU (b := 1#32) rfl (.t rfl) .c) ?_
        refine W.q rfl rfl rfl rfl (by decide) (Yd.eqlU rfl (.t rfl) (.t rfl)) ?_
        refine W.q rfl rfl rfl rfl (by decide) (Yd.mv rfl (.t rfl)) ?_
        refine W.g rfl rfl rfl rfl rfl (.t rfl _) rfl (by decide) (fun hG => Yd.mv rfl (.t rfl)) ?_
        refine W.g rfl rfl rfl rfl rfl (.t rfl _) rfl (by decide) (fun hG => Yd.mv rfl (.t rfl)) ?_
        refine W.g rfl rfl rfl rfl rfl (.t rfl _) rfl (by decide) (fun hG => Yd.call (v := .bool ((((slices_ContainsFunc_Suint32uint32 l9 (fun a => follow_Keys_c1 a t_15)).getD false)))) rfl Try.func35 rfl rfl (.cons (.g rfl hG) (.cons (.g rfl hG) .nil)) (by intro x' hx w hw; obtain ⟨p0, p5, hp0, hp5⟩ := hx.at2 (a := 1) (b := 0) rfl rfl rfl; obtain ⟨m2, hm2, hc2, ⟨L2, hl1, hl2⟩, hback⟩ := cX_lend hw hp0 lone_own; have hL1 : RS rU m2 _ _ := RS_of_own hl1 hl2; exact (slices_ContainsFunc_Suint32uint32_ok w0 m2 _ _ _ hL1 _ (fun a => follow_Keys_c1 a t_15) ⟨34, _, _, rfl, Try.func34, rfl, rfl, fun y hy w2 hw2 v a r2 hv hr2 => by obtain ⟨q5, hq5⟩ := hy.at (p := p5) hp5; obtain rfl := hv; exact follow_Keys_c1_ok w0 y.m y.l a q5 _ t_15 hq5 r2 hr2 w2 hw2⟩ _ (gd_get (d := false) ha24 hG) w hc2).mono fun e w' ⟨he, hc'⟩ => ⟨he, (hback m2 _ _ w' (.refl _) hp0).2 hc'⟩)) ?_
        refine W.g rfl rfl rfl rfl rfl (.t rfl _) rfl (by decide) (fun hG => Yd.not rfl (.g rfl hG)) ?_
        refine W.q rfl rfl rfl rfl (by decide) (Yd.and rfl (.t rfl) .c rfl rfl) ?_
        refine W.end ?_
        refine NX.sub (env' := [(0, _), (1, _), (7, _), (17, _), (18, _), (8, _), (34, _)]) ⟨rfl, rfl, rfl, rfl, rfl, rfl, rfl, trivial⟩ ?_
        refine NX.then ?_
        refine Tr.cond (.t rfl) (fun hb => ?_) (fun hb => ?_)
        · have hr := cond_t hb hr
          obtain ⟨hq28, hr⟩ := guard_some hr; replace hq28 := of_decide_eq_true hq28
          refine Tr.region_f (fun i => Nat.beq i 2 || Nat.beq i 3) ?_
          refine W.q rfl rfl rfl rfl (by decide) (Yd.mv rfl (.t rfl)) ?_
          refine W.q rfl rfl rfl rfl (by decide) (Yd.ldB (pos := 0) rfl rfl rfl ON23 (.t rfl)) ?_
          refine W.e rfl rfl rfl rfl (by decide) (Ef.bsT (enc := encU) (vs := [_]) (ys := [t_15]) (fun _ => rfl) IF23 rfl Try.underlying36 (by decide) rfl (.cons (.t rfl) .nil) rfl rfl (by decide)) ?_
          rintro v25 _ rfl
          refine ⟨.inl rfl, ?_⟩
          refine W.cast (m' := m) (l' := hownT 23 1 encU v25 _ :: hcells b19 [_] 23 :: hownT 23 1 encU v10 _ :: l) rfl rfl ?_
          refine W.e rfl rfl rfl rfl (by decide) (Ef.apI (pos := 2) (enc := encU) (xs := l9) (ys := ([t_15] : List (BitVec 32))) (fun _ => rfl) IF23 rfl rfl Try.underlying36 rfl (by decide) (.t rfl) (.t rfl) (Src.own (pos := 0) rfl) (fun _ => rfl) (by omega) (by omega)) ?_
          rintro v27 _ rfl
          refine ⟨.inl rfl, ?_⟩
          refine W.cast (m' := m) (l' := hownT 23 1 encU v25 _ :: hcells b19 [_] 23 :: hownT 23 1 encU v27 _ :: l) rfl rfl ?_
          refine W.q rfl rfl rfl rfl (by decide) (Yd.as rfl (.t rfl)) ?_
          refine W.end ?_
          refine NX.sub (env' := [(0, _), (1, _), (7, _), (17, _), (18, _)]) ⟨rfl, rfl, rfl, rfl, rfl, trivial⟩ ?_
          refine NX.drop (l' := hownT 23 1 encU v27 _ :: l) (.cons _ (.cons _ (.cons_cons _ (.refl _)))) ?_
          refine NX.block ?_
          refine NX.then ?_
          refine Tr.region_f (fun _ => false) ?_
          refine W.q rfl rfl rfl rfl (by decide) (Yd.addU (b := 1#32) rfl (.t rfl) .c) ?_
          refine W.q rfl rfl rfl rfl (by decide) (Yd.mv rfl (.t rfl)) ?_
          refine W.end ?_
          refine NX.sub (env' := [(0, _), (1, _), (7, _), (17, _), (18, _)]) ⟨rfl, rfl, rfl, rfl, rfl, trivial⟩ ?_
          refine NX.sub (env' := [(0, _), (1, _), (7, _), (17, _), (18, _)]) ⟨rfl, rfl, rfl, rfl, rfl, trivial⟩ ?_
          exact NX.again n18 (t_15 + 1, (l9 ++ ([t_15] : List (BitVec 32)))) (Nat.lt_succ_self _) ⟨_, rfl, rfl, (fu_dec hnt_15), ((hnx17 _).symm.trans hr)⟩
        · have hr := cond_f hb hr
          refine Tr.skip' ?_
          refine NX.block ?_
          refine NX.then ?_
          refine Tr.region_f (fun _ => false) ?_
          refine W.q rfl rfl rfl rfl (by decide) (Yd.addU (b := 1#32) rfl (.t rfl) .c) ?_
          refine W.q rfl rfl rfl rfl (by decide) (Yd.mv rfl (.t rfl)) ?_
          refine W.end ?_
          refine NX.sub (env' := [(0, _), (1, _), (7, _), (17, _), (18, _)]) ⟨rfl, rfl, rfl, rfl, rfl, trivial⟩ ?_
          refine NX.drop (l' := hownT 23 1 encU v10 _ :: l) (.cons _ (.cons_cons _ (.refl _))) ?_
          refine NX.sub (env' := [(0, _), (1, _), (7, _), (17, _), (18, _)]) ⟨rfl, rfl, rfl, rfl, rfl, trivial⟩ ?_
          exact NX.again n18 (t_15 + 1, l9) (Nat.lt_succ_self _) ⟨_, rfl, rfl, (fu_dec hnt_15), ((hnx17 _).symm.trans hr)⟩

def syllogistref_Bit (w_0 : (BitVec 32)) (i_1 : Int) : Option (Bool) :=
  some ((((decide (i_1 ≥ (0 : Int))) && (decide (i_1 < (32 : Int)))) && ((w_0 &&& (1#32 <<< ((BitVec.ofInt 64 i_1)).toNat)) != 0#32)))

set_option maxRecDepth 100000 in
theorem syllogistref_Bit_ok (w0 : World) (m : Snap) (l : List HI) (w_0 : (BitVec 32)) (i_1 : Int) (r : Bool) (hr : syllogistref_Bit w_0 i_1 = some r) (w : World) (hc : cX w0 ⟨m, l⟩ w) :
    Calls Try.prog 21 [.int .u32 (w_0.toNat : Int), .int .i64 i_1].toArray w fun e w' => e = .returned (.bool r) ∧ cX w0 ⟨m, l⟩ w' := by
  unfold syllogistref_Bit at hr
  refine calls_of_Tr (N := 19) Try.func21 rfl hc rfl (Nat.le_of_ble_eq_true rfl) ?_
  refine Tr.seq ?_
  refine Tr.region_f (fun _ => false) ?_
  refine W.q rfl rfl rfl rfl (by decide) (Yd.as rfl .c) ?_
  refine W.end ?_
  refine NX.sub (env' := [(0, _), (1, _)]) ⟨rfl, rfl, trivial⟩ ?_
  refine NX.then ?_
  refine Tr.seq ?_
  refine Tr.region_f (fun _ => false) ?_
  refine W.q rfl rfl rfl rfl (by decide) (Yd.mv rfl (.t rfl)) ?_
  refine W.q rfl rfl rfl rfl (by decide) (Yd.geq rfl (.t rfl) .c) ?_
  refine W.q rfl rfl rfl rfl (by decide) (Yd.mv rfl (.t rfl)) ?_
  refine W.g rfl rfl rfl rfl rfl (.t rfl _) rfl (by decide) (fun hG => Yd.mv rfl (.t rfl)) ?_
  refine W.g rfl rfl rfl rfl rfl (.t rfl _) rfl (by decide) (fun hG => Yd.lss rfl (.g rfl hG) .c) ?_
  refine W.q rfl rfl rfl rfl (by decide) (Yd.and rfl (.t rfl) .c rfl rfl) ?_
  refine W.q rfl rfl rfl rfl (by decide) (Yd.mv rfl (.t rfl)) ?_
  refine W.g rfl rfl rfl rfl rfl (.t rfl _) rfl (by decide) (fun hG => Yd.mv rfl (.t rfl)) ?_
  refine W.g rfl rfl rfl rfl rfl (.t rfl _) rfl (by decide) (fun hG => Yd.mv rfl (.t rfl)) ?_
  refine W.g rfl rfl rfl rfl rfl (.t rfl _) rfl (by decide) (fun hG => Yd.cvQ rfl US3 Try.underlying39 (.g rfl hG)) ?_
  refine W.g rfl rfl rfl rfl rfl (.t rfl _) rfl (by decide) (fun hG => Yd.shlU (a := 1#32) rfl .c (.g rfl hG) (Int.natCast_nonneg _)) ?_
  refine W.g rfl rfl rfl rfl rfl (.t rfl _) rfl (by decide) (fun hG => Yd.andU rfl (.g rfl hG) (.g rfl hG)) ?_
  refine W.g rfl rfl rfl rfl rfl (.t rfl _) rfl (by decide) (fun hG => Yd.neqU (b := 0#32) rfl (.g rfl hG) .c) ?_
  refine W.q rfl rfl rfl rfl (by decide) (Yd.and rfl (.t rfl) .c rfl rfl) ?_
  refine W.q rfl rfl rfl rfl (by decide) (Yd.as rfl (.t rfl)) ?_
  refine W.end ?_
  refine NX.sub (env' := [(4, _)]) ⟨rfl, trivial⟩ ?_
  refine NX.then ?_
  refine Tr.ret' ?_
  refine res1 rfl rfl ?_
  intro w hc
  cases hr
  exact ⟨rfl, hc⟩

def syllogistlaw_FollowKeys_k16 (r1 : (List (BitVec 32)) × Int) (l14 : List (BitVec 32)) : Option (Bool) :=
  bif (!((r1.2 == (0 : Int)) == true) || (syllogistref_Words r1.1 l14).isSome) then
  some (((r1.2 == (0 : Int)) && (((syllogistref_Words r1.1 l14).getD false)))) else none

def syllogistlaw_FollowKeys_k29 (s_11 : BitVec 32) (l12 : List (BitVec 32)) (nx20 : (((BitVec 32) × (List (BitVec 32))) → Option (Bool))) (key_28 : Bool) : Option (Bool) :=
  (bif key_28 then
  bif decide (l12.length + (([s_11] : List (BitVec 32))).length ≤ 35184372088832) then
  nx20 ((s_11 + 1#32), (l12 ++ ([s_11] : List (BitVec 32)))) else none
  else
  nx20 ((s_11 + 1#32), l12))

def syllogistlaw_FollowKeys_b37 (n_0 : Int) (rules_1 : List Rule) (s_11 : BitVec 32) (i_36 : Int) (key_26 : Bool) (nx38 : Bool → Option (Bool)) : Option (Bool) :=
  (syllogistref_Bit s_11 i_36).bind fun r40 =>
  bif (!(r40 == true) || (syllogistref_Close n_0 rules_1 ((s_11 - (1#32 <<< ((BitVec.ofInt 64 i_36)).toNat)))).isSome) then
  (bif (r40 && ((((syllogistref_Close n_0 rules_1 ((s_11 - (1#32 <<< ((BitVec.ofInt 64 i_36)).toNat)))).getD (0#32))) == ((1#32 <<< ((BitVec.ofInt 64 n_0)).toNat) - 1#32))) then
  nx38 false
  else
  nx38 key_26) else none

def syllogistlaw_FollowKeys_b19 (n_0 : Int) (rules_1 : List Rule) (r1 : (List (BitVec 32)) × Int) (s_11 : BitVec 32) (l12 : List (BitVec 32)) (nx20 : ((BitVec 32) × (List (BitVec 32))) → Option (Bool)) : Option (Bool) :=
  (bif (decide (s_11 ≤ ((1#32 <<< ((BitVec.ofInt 64 n_0)).toNat) - 1#32))) then
  (syllogistref_Close n_0 rules_1 s_11).bind fun r22 =>
  bif decide (n_0 ≤ 9223372036854775807) then
  forK (σ := Bool) (fun i s nx_ => syllogistlaw_FollowKeys_b37 n_0 rules_1 s_11 i s nx_) (fun s => syllogistlaw_FollowKeys_k29 s_11 l12 nx20 s) (n_0 - (0 : Int)).toNat (0 : Int) ((r22 == ((1#32 <<< ((BitVec.ofInt 64 n_0)).toNat) - 1#32))) else none
  else
  syllogistlaw_FollowKeys_k16 r1 l12)

def syllogistlaw_FollowKeys (fuel : Nat) (n_0 : Int) (rules_1 : List Rule) : Option (Bool) :=
  (follow_Keys fuel n_0 rules_1).bind fun r1 =>
  (syllogistref_RulesCheck n_0 rules_1 (0#32)).bind fun r5 =>
  (bif (r5 != (0 : Int)) then
  some (((r1.2 == r5) && ((r1.1.length : Int) == (0 : Int))))
  else
  whileK (σ := (BitVec 32) × (List (BitVec 32))) (fun s nx_ => syllogistlaw_FollowKeys_b19 n_0 rules_1 r1 s.1 s.2 nx_) fuel ((0#32), (([] : List (BitVec 32)))))

set_option maxRecDepth 100000 in
theorem syllogistlaw_FollowKeys_ok (w0 : World) (m : Snap) (l : List HI) (fuel : Nat) (n_0 : Int) (urules_1 : Value) (rules_1 : List Rule) (hrules_1 : RS rRule m urules_1 rules_1) (r : Bool) (hr : syllogistlaw_FollowKeys fuel n_0 rules_1 = some r) (w : World) (hc : cX w0 ⟨m, l⟩ w) :
    Calls Try.prog 6 [.int .i64 n_0, urules_1].toArray w fun e w' => e = .returned (.bool r) ∧ cX w0 ⟨m, l⟩ w' := by
  unfold syllogistlaw_FollowKeys at hr
  refine calls_of_Tr (N := 79) Try.func6 rfl hc rfl (Nat.le_of_ble_eq_true rfl) ?_
  refine Tr.seq ?_
  refine Tr.region_f (fun _ => false) ?_
  refine W.q rfl rfl rfl rfl (by decide) (Yd.as rfl .c) ?_
  refine W.end ?_
  refine NX.sub (env' := [(0, _), (1, _)]) ⟨rfl, rfl, trivial⟩ ?_
  refine NX.then ?_
  refine Tr.seq ?_
  obtain ⟨r1, hr2, hr⟩ := bind_some hr
  refine Tr.region_f (fun i => Nat.beq i 2) ?_
  refine W.q rfl rfl rfl rfl (by decide) (Yd.mv rfl (.t rfl)) ?_
  refine W.q rfl rfl rfl rfl (by decide) (Yd.mv rfl (.t rfl)) ?_
  refine W.e rfl rfl rfl rfl (by decide) (Ef.call (R := fun z x' => ∃ v3 : Value, z = .tuple #[v3, .int .i64 r1.2] ∧ x' = ⟨m, hownT 23 1 encU v3 r1.1 :: l⟩) rfl Try.func20 rfl rfl (.cons (.t rfl) (.cons (.t rfl) .nil)) (fun w hw => (follow_Keys_ok w0 _ _ fuel n_0 _ _ hrules_1 _ hr2 w hw).mono fun e w' ⟨v3, he, hc'⟩ => ⟨_, _, he, ⟨v3, rfl, rfl⟩, hc'⟩)) ?_
  rintro _ _ ⟨v3, rfl, rfl⟩
  refine ⟨.inl rfl, ?_⟩
  refine W.cast (m' := m) (l' := hownT 23 1 encU v3 _ :: l) rfl rfl ?_
  refine W.q rfl rfl rfl rfl (by decide) (Yd.mv rfl (.t rfl)) ?_
  refine W.q rfl rfl rfl rfl (by decide) (Yd.ext rfl (.t rfl) rfl) ?_
  refine W.q rfl rfl rfl rfl (by decide) (Yd.ext rfl (.t rfl) rfl) ?_
  refine W.q rfl rfl rfl rfl (by decide) (Yd.as rfl (.t rfl)) ?_
  refine W.q rfl rfl rfl rfl (by decide) (Yd.as rfl (.t rfl)) ?_
  refine W.end ?_
  refine NX.sub (env' := [(0, _), (1, _), (5, _), (6, _)]) ⟨rfl, rfl, rfl, rfl, trivial⟩ ?_
  refine NX.then ?_
  refine Tr.seq ?_
  obtain ⟨r5, hr6, hr⟩ := bind_some hr
  refine Tr.region_f (fun _ => false) ?_
  refine W.q rfl rfl rfl rfl (by decide) (Yd.mv rfl (.t rfl)) ?_
  refine W.q rfl rfl rfl rfl (by decide) (Yd.mv rfl (.t rfl)) ?_
  refine W.q rfl rfl rfl rfl (by decide) (Yd.call (v := .int .i64 r5) rfl Try.func13 rfl rfl (.cons (.t rfl) (.cons (.t rfl) (.cons .c .nil))) (fun x' hx w hw => syllogistref_RulesCheck_ok w0 x'.m x'.l n_0 _ _ (hrules_1.mono hx.1) (0#32) _ hr6 w hw)) ?_
  refine W.q rfl rfl rfl rfl (by decide) (Yd.as rfl (.t rfl)) ?_
  refine W.end ?_
  refine NX.sub (env' := [(0, _), (1, _), (5, _), (6, _), (7, _)]) ⟨rfl, rfl, rfl, rfl, rfl, trivial⟩ ?_
  refine NX.then ?_
  refine Tr.seq ?_
  refine Tr.seq ?_
  refine Tr.region_f (fun _ => false) ?_
  refine W.q rfl rfl rfl rfl (by decide) (Yd.mv rfl (.t rfl)) ?_
  refine W.q rfl rfl rfl rfl (by decide) (Yd.neq rfl (.t rfl) .c) ?_
  refine W.end ?_
  refine NX.sub (env' := [(0, _), (1, _), (5, _), (6, _), (7, _), (23, _)]) ⟨rfl, rfl, rfl, rfl, rfl, rfl, trivial⟩ ?_
  refine NX.then ?_
  refine Tr.cond (.t rfl) (fun hb => ?_) (fun hb => ?_)
  · have hr := cond_t hb hr
    refine Tr.seq ?_
    refine Tr.region_f (fun _ => false) ?_
    refine W.q rfl rfl rfl rfl (by decide) (Yd.mv rfl (.t rfl)) ?_
    refine W.q rfl rfl rfl rfl (by decide) (Yd.mv rfl (.t rfl)) ?_
    refine W.q rfl rfl rfl rfl (by decide) (Yd.eql rfl (.t rfl) (.t rfl)) ?_
    refine W.q rfl rfl rfl rfl (by decide) (Yd.mv rfl (.t rfl)) ?_
    refine W.g rfl rfl rfl rfl rfl (.t rfl _) rfl (by decide) (fun hG => Yd.mv rfl (.t rfl)) ?_
    refine W.g rfl rfl rfl rfl rfl (.t rfl _) rfl (by decide) (fun hG => Yd.lenO (p := 0) rfl rfl Try.underlying36 (.g rfl hG)) ?_
    refine W.g rfl rfl rfl rfl rfl (.t rfl _) rfl (by decide) (fun hG => Yd.eql rfl (.g rfl hG) .c) ?_
    refine W.q rfl rfl rfl rfl (by decide) (Yd.and rfl (.t rfl) .c rfl rfl) ?_
    refine W.q rfl rfl rfl rfl (by decide) (Yd.as rfl (.t rfl)) ?_
    refine W.end ?_
    refine NX.sub (env' := [(4, _)]) ⟨rfl, trivial⟩ ?_
    refine NX.drop (l' := l) (.cons _ (.refl _)) ?_
    refine NX.then ?_
    refine Tr.ret' (RT.then ?_)
    refine res1 rfl rfl ?_
    intro w hc
    cases hr
    exact ⟨rfl, hc⟩
  · have hr := cond_f hb hr
    refine Tr.skip' ?_
    refine NX.then ?_
    refine Tr.seq ?_
    refine Tr.region_f (fun _ => false) ?_
    refine W.q rfl rfl rfl rfl (by decide) (Yd.mv rfl (.t rfl)) ?_
    refine W.q rfl rfl rfl rfl (by decide) (Yd.cvQ rfl US3 Try.underlying39 (.t rfl)) ?_
    refine W.q rfl rfl rfl rfl (by decide) (Yd.shlU (a := 1#32) rfl .c (.t rfl) (Int.natCast_nonneg _)) ?_
    refine W.q rfl rfl rfl rfl (by decide) (Yd.subU (b := 1#32) rfl (.t rfl) .c) ?_
    refine W.q rfl rfl rfl rfl (by decide) (Yd.as rfl (.t rfl)) ?_
    refine W.end ?_
    refine NX.sub (env' := [(0, _), (1, _), (5, _), (6, _), (8, _)]) ⟨rfl, rfl, rfl, rfl, rfl, trivial⟩ ?_
    refine NX.then ?_
    refine Tr.seq ?_
    refine Tr.region_f (fun _ => false) ?_
    refine W.q rfl rfl rfl rfl (by decide) (Yd.as rfl .c) ?_
    refine W.end ?_
    refine NX.sub (env' := [(0, _), (1, _), (5, _), (6, _), (8, _), (9, _)]) ⟨rfl, rfl, rfl, rfl, rfl, rfl, trivial⟩ ?_
    refine NX.then ?_
    refine Tr.seq ?_
    refine Tr.seq ?_
    refine Tr.region_f (fun _ => false) ?_
    refine W.q rfl rfl rfl rfl (by decide) (Yd.as rfl .c) ?_
    refine W.end ?_
    refine NX.sub (env' := [(0, _), (1, _), (5, _), (6, _), (8, _), (9, _), (10, _)]) ⟨rfl, rfl, rfl, rfl, rfl, rfl, rfl, trivial⟩ ?_
    refine NX.then ?_
    refine Tr.addnil 23 1 ?_
    refine Tr.join (S := fun env x => ∃ l14 : List (BitVec 32), ∃ v15 : Value, env = [(5, v3), (6, .int .i64 r1.2), (9, v15)] ∧ x = ⟨m, hownT 23 1 encU v15 l14 :: hownT 23 1 encU v3 r1.1 :: l⟩ ∧ syllogistlaw_FollowKeys_k16 r1 l14 = some r) ?_ (fun hk17 => ?_)
    · rintro _ _ ⟨l14, v15, rfl, rfl, hr⟩
      unfold syllogistlaw_FollowKeys_k16 at hr
      try dsimp only at hr
      refine NX.then ?_
      refine Tr.seq ?_
      obtain ⟨ha18, hr⟩ := guard_some hr
      refine Tr.region_f (fun _ => false) ?_
      refine W.q rfl rfl rfl rfl (by decide) (Yd.mv rfl (.t rfl)) ?_
      refine W.q rfl rfl rfl rfl (by decide) (Yd.eql rfl (.t rfl) .c) ?_
      refine W.q rfl rfl rfl rfl (by decide) (Yd.mv rfl (.t rfl)) ?_
      refine W.g rfl rfl rfl rfl rfl (.t rfl _) rfl (by decide) (fun hG => Yd.mv rfl (.t rfl)) ?_
      refine W.g rfl rfl rfl rfl rfl (.t rfl _) rfl (by decide) (fun hG => Yd.mv rfl (.t rfl)) ?_
      refine W.g rfl rfl rfl rfl rfl (.t rfl _) rfl (by decide) (fun hG => Yd.call (v := .bool ((((syllogistref_Words r1.1 l14).getD false)))) rfl Try.func19 rfl rfl (.cons (.g rfl hG) (.cons (.g rfl hG) .nil)) (by intro x' hx w hw; obtain ⟨p0, p1, hp0, hp1⟩ := hx.at2 (a := 1) (b := 0) rfl rfl rfl; obtain ⟨m1, hm1, hc1, ⟨L1, hl0a, hl0b'⟩, hback1⟩ := cX_lend hw hp0 lone_own; obtain ⟨m2, hm2', hc2, ⟨L2, hl1a, hl1b⟩, hback2⟩ := cX_lend hc1 hp1 lone_own; have hm2 := hm1.trans hm2'; have hl0b : ∀ q ∈ L1, m2 q.1 = some q.2 := fun q hq => hm2' _ _ (hl0b' q hq); have hL1 : RS rU m2 _ _ := RS_of_own hl0a hl0b; have hL2 : RS rU m2 _ _ := RS_of_own hl1a hl1b; exact (syllogistref_Words_ok w0 m2 _ _ _ hL1 _ _ hL2 _ (gd_get (d := false) ha18 hG) w hc2).mono fun e w' ⟨he, hc'⟩ => ⟨he, (hback1 m1 _ _ w' (.refl _) hp0).2 ((hback2 m2 _ _ w' (.refl _) hp1).2 hc')⟩)) ?_
      refine W.q rfl rfl rfl rfl (by decide) (Yd.and rfl (.t rfl) .c rfl rfl) ?_
      refine W.q rfl rfl rfl rfl (by decide) (Yd.as rfl (.t rfl)) ?_
      refine W.end ?_
      refine NX.sub (env' := [(4, _)]) ⟨rfl, trivial⟩ ?_
      refine NX.drop (l' := l) (.cons _ (.cons _ (.refl _))) ?_
      refine NX.then ?_
      refine Tr.ret' ?_
      refine res1 rfl rfl ?_
      intro w hc
      cases hr
      exact ⟨rfl, hc⟩
    refine Tr.block ?_
    refine Tr.sub (env' := [(0, _), (1, _), (5, _), (6, _), (8, _), (9, _), (10, _)]) ⟨rfl, rfl, rfl, rfl, rfl, rfl, rfl, trivial⟩ ?_
    refine Tr.loop (S := fun n (z : (BitVec 32) × (List (BitVec 32))) env x => match z with | (s_11, l12) => ∃ v13 : Value, env = [(0, .int .i64 n_0), (1, urules_1), (5, v3), (6, .int .i64 r1.2), (8, .int .u32 ((((1#32 <<< ((BitVec.ofInt 64 n_0)).toNat) - 1#32)).toNat : Int)), (9, v13), (10, .int .u32 (s_11.toNat : Int))] ∧ x = ⟨m, hownT 23 1 encU v13 l12 :: hownT 23 1 encU v3 r1.1 :: l⟩ ∧ whileK (σ := (BitVec 32) × (List (BitVec 32))) (fun s nx_ => syllogistlaw_FollowKeys_b19 n_0 rules_1 r1 s.1 s.2 nx_) n (s_11, l12) = some r) _ (0#32, ([] : List (BitVec 32))) ⟨_, rfl, rfl, hr⟩ ?_
    rintro n21 ⟨s_11, l12⟩ env x ⟨v13, rfl, rfl, hr⟩
    cases n21 with
    | zero => simp [whileK] at hr
    | succ n21 =>
      obtain ⟨nx20, hnx20, hr⟩ := whileK_succ hr
      try dsimp only at hr
      unfold syllogistlaw_FollowKeys_b19 at hr
      try dsimp only at hr
      refine Tr.seq ?_
      refine Tr.seq ?_
      refine Tr.region_f (fun _ => false) ?_
      refine W.q rfl rfl rfl rfl (by decide) (Yd.mv rfl (.t rfl)) ?_
      refine W.q rfl rfl rfl rfl (by decide) (Yd.mv rfl (.t rfl)) ?_
      refine W.q rfl rfl rfl rfl (by decide) (Yd.leqU rfl (.t rfl) (.t rfl)) ?_
      refine W.end ?_
      refine NX.sub (env' := [(0, _), (1, _), (5, _), (6, _), (8, _), (9, _), (10, _), (38, _)]) ⟨rfl, rfl, rfl, rfl, rfl, rfl, rfl, rfl, trivial⟩ ?_
      refine NX.then ?_
      refine Tr.cond (.t rfl) (fun hb => ?_) (fun hb => ?_)
      · have hr := cond_t hb hr
        refine Tr.skip' ?_
        refine NX.then ?_
        refine Tr.seq ?_
        refine Tr.block ?_
        refine Tr.seq ?_
        obtain ⟨r22, hr23, hr⟩ := bind_some hr
        refine Tr.region_f (fun _ => false) ?_
        refine W.q rfl rfl rfl rfl (by decide) (Yd.mv rfl (.t rfl)) ?_
        refine W.q rfl rfl rfl rfl (by decide) (Yd.mv rfl (.t rfl)) ?_
        refine W.q rfl rfl rfl rfl (by decide) (Yd.mv rfl (.t rfl)) ?_
        refine W.q rfl rfl rfl rfl (by decide) (Yd.call (v := .int .u32 (r22.toNat : Int)) rfl Try.func14 rfl rfl (.cons (.t rfl) (.cons (.t rfl) (.cons (.t rfl) .nil))) (fun x' hx w hw => syllogistref_Close_ok w0 x'.m x'.l n_0 _ _ (hrules_1.mono hx.1) s_11 _ hr23 w hw)) ?_
        refine W.q rfl rfl rfl rfl (by decide) (Yd.mv rfl (.t rfl)) ?_
        refine W.q rfl rfl rfl rfl (by decide) (Yd.eqlU rfl (.t rfl) (.t rfl)) ?_
        refine W.q rfl rfl rfl rfl (by decide) (Yd.as rfl (.t rfl)) ?_
        refine W.end ?_
        refine NX.sub (env' := [(0, _), (1, _), (5, _), (6, _), (8, _), (9, _), (10, _), (11, _)]) ⟨rfl, rfl, rfl, rfl, rfl, rfl, rfl, rfl, trivial⟩ ?_
        refine NX.then ?_
        refine Tr.seq ?_
        refine Tr.seq ?_
        refine Tr.region_f (fun _ => false) ?_
        refine W.q rfl rfl rfl rfl (by decide) (Yd.as rfl .c) ?_
        refine W.end ?_
        refine NX.sub (env' := [(0, _), (1, _), (5, _), (6, _), (8, _), (9, _), (10, _), (11, _), (12, _)]) ⟨rfl, rfl, rfl, rfl, rfl, rfl, rfl, rfl, rfl, trivial⟩ ?_
        refine NX.then ?_
        refine Tr.join (S := fun env x => ∃ key_28 : Bool, env = [(0, .int .i64 n_0), (1, urules_1), (5, v3), (6, .int .i64 r1.2), (8, .int .u32 ((((1#32 <<< ((BitVec.ofInt 64 n_0)).toNat) - 1#32)).toNat : Int)), (9, v13), (10, .int .u32 (s_11.toNat : Int)), (11, .bool key_28)] ∧ x = ⟨m, hownT 23 1 encU v13 l12 :: hownT 23 1 encU v3 r1.1 :: l⟩ ∧ syllogistlaw_FollowKeys_k29 s_11 l12 nx20 key_28 = some r) ?_ (fun hk30 => ?_)
        · rintro _ _ ⟨key_28, rfl, rfl, hr⟩
          unfold syllogistlaw_FollowKeys_k29 at hr
          try dsimp only at hr
          refine NX.then ?_
          refine Tr.seq ?_
          refine Tr.region_f (fun _ => false) ?_
          refine W.q rfl rfl rfl rfl (by decide) (Yd.mv rfl (.t rfl)) ?_
          refine W.end ?_
          refine NX.sub (env' := [(0, _), (1, _), (5, _), (6, _), (8, _), (9, _), (10, _), (67, _)]) ⟨rfl, rfl, rfl, rfl, rfl, rfl, rfl, rfl, trivial⟩ ?_
          refine NX.then ?_
          refine Tr.cond (.t rfl) (fun hb => ?_) (fun hb => ?_)
          · have hr := cond_t hb hr
            obtain ⟨hq34, hr⟩ := guard_some hr; replace hq34 := of_decide_eq_true hq34
            refine Tr.region_f (fun i => Nat.beq i 2 || Nat.beq i 3) ?_
            refine W.q rfl rfl rfl rfl (by decide) (Yd.mv rfl (.t rfl)) ?_
            refine W.q rfl rfl rfl rfl (by decide) (Yd.mv rfl (.t rfl)) ?_
            refine W.e rfl rfl rfl rfl (by decide) (Ef.bsT (enc := encU) (vs := [_]) (ys := [s_11]) (fun _ => rfl) IF23 rfl Try.underlying36 (by decide) rfl (.cons (.t rfl) .nil) rfl rfl (by decide)) ?_
            rintro v31 _ rfl
            refine ⟨.inl rfl, ?_⟩
            refine W.cast (m' := m) (l' := hownT 23 1 encU v31 _ :: hownT 23 1 encU v13 _ :: hownT 23 1 encU v3 _ :: l) rfl rfl ?_
            refine W.e rfl rfl rfl rfl (by decide) (Ef.apI (pos := 1) (enc := encU) (xs := l12) (ys := ([s_11] : List (BitVec 32))) (fun _ => rfl) IF23 rfl rfl Try.underlying36 rfl (by decide) (.t rfl) (.t rfl) (Src.own (pos := 0) rfl) (fun _ => rfl) (by omega) (by omega)) ?_
            rintro v33 _ rfl
            refine ⟨.inl rfl, ?_⟩
            refine W.cast (m' := m) (l' := hownT 23 1 encU v31 _ :: hownT 23 1 encU v33 _ :: hownT 23 1 encU v3 _ :: l) rfl rfl ?_
            refine W.q rfl rfl rfl rfl (by decide) (Yd.as rfl (.t rfl)) ?_
            refine W.end ?_
            refine NX.sub (env' := [(0, _), (1, _), (5, _), (6, _), (8, _), (9, _), (10, _)]) ⟨rfl, rfl, rfl, rfl, rfl, rfl, rfl, trivial⟩ ?_
            refine NX.drop (l' := hownT 23 1 encU v33 _ :: hownT 23 1 encU v3 _ :: l) (.cons _ (.cons_cons _ (.cons_cons _ (.refl _)))) ?_
            refine NX.block ?_
            refine NX.then ?_
            refine Tr.region_f (fun _ => false) ?_
            refine W.q rfl rfl rfl rfl (by decide) (Yd.mv rfl (.t rfl)) ?_
            refine W.q rfl rfl rfl rfl (by decide) (Yd.addU (b := 1#32) rfl (.t rfl) .c) ?_
            refine W.q rfl rfl rfl rfl (by decide) (Yd.as rfl (.t rfl)) ?_
            refine W.end ?_
            refine NX.sub (env' := [(0, _), (1, _), (5, _), (6, _), (8, _), (9, _), (10, _)]) ⟨rfl, rfl, rfl, rfl, rfl, rfl, rfl, trivial⟩ ?_
            refine NX.sub (env' := [(0, _), (1, _), (5, _), (6, _), (8, _), (9, _), (10, _)]) ⟨rfl, rfl, rfl, rfl, rfl, rfl, rfl, trivial⟩ ?_
            exact NX.again n21 ((s_11 + 1#32), (l12 ++ ([s_11] : List (BitVec 32)))) (Nat.lt_succ_self _) ⟨_, rfl, rfl, ((hnx20 _).symm.trans hr)⟩
          · have hr := cond_f hb hr
            refine Tr.skip' ?_
            refine NX.block ?_
            refine NX.then ?_
            refine Tr.region_f (fun _ => false) ?_
            refine W.q rfl rfl rfl rfl (by decide) (Yd.mv rfl (.t rfl)) ?_
            refine W.q rfl rfl rfl rfl (by decide) (Yd.addU (b := 1#32) rfl (.t rfl) .c) ?_
            refine W.q rfl rfl rfl rfl (by decide) (Yd.as rfl (.t rfl)) ?_
            refine W.end ?_
            refine NX.sub (env' := [(0, _), (1, _), (5, _), (6, _), (8, _), (9, _), (10, _)]) ⟨rfl, rfl, rfl, rfl, rfl, rfl, rfl, trivial⟩ ?_
            refine NX.sub (env' := [(0, _), (1, _), (5, _), (6, _), (8, _), (9, _), (10, _)]) ⟨rfl, rfl, rfl, rfl, rfl, rfl, rfl, trivial⟩ ?_
            exact NX.again n21 ((s_11 + 1#32), l12) (Nat.lt_succ_self _) ⟨_, rfl, rfl, ((hnx20 _).symm.trans hr)⟩
        obtain ⟨hle35, hr⟩ := guard_some hr; replace hle35 := of_decide_eq_true hle35
        refine Tr.block ?_
        refine Tr.sub (env' := [(0, _), (1, _), (5, _), (6, _), (8, _), (9, _), (10, _), (11, _), (12, _)]) ⟨rfl, rfl, rfl, rfl, rfl, rfl, rfl, rfl, rfl, trivial⟩ ?_
        refine Tr.loop (S := fun n (z : Int × Bool) env x => match z with | (i_36, key_26) => env = [(0, .int .i64 n_0), (1, urules_1), (5, v3), (6, .int .i64 r1.2), (8, .int .u32 ((((1#32 <<< ((BitVec.ofInt 64 n_0)).toNat) - 1#32)).toNat : Int)), (9, v13), (10, .int .u32 (s_11.toNat : Int)), (11, .bool key_26), (12, .int .i64 i_36)] ∧ x = ⟨m, hownT 23 1 encU v13 l12 :: hownT 23 1 encU v3 r1.1 :: l⟩ ∧ n = (n_0 - i_36).toNat ∧ 0 ≤ i_36 ∧ forK (σ := Bool) (fun i s nx_ => syllogistlaw_FollowKeys_b37 n_0 rules_1 s_11 i s nx_) (fun s => syllogistlaw_FollowKeys_k29 s_11 l12 nx20 s) n i_36 key_26 = some r) _ ((0 : Int), (r22 == ((1#32 <<< ((BitVec.ofInt 64 n_0)).toNat) - 1#32))) ⟨rfl, rfl, rfl, (by omega), hr⟩ ?_
        rintro n39 ⟨i_36, key_26⟩ env x ⟨rfl, rfl, hni_36, h0i_36, hr⟩
        cases n39 with
        | zero =>
          simp only [forK] at hr
          refine Tr.seq ?_
          refine Tr.seq ?_
          refine Tr.region_f (fun _ => false) ?_
          refine W.q rfl rfl rfl rfl (by decide) (Yd.mv rfl (.t rfl)) ?_
          refine W.q rfl rfl rfl rfl (by decide) (Yd.mv rfl (.t rfl)) ?_
          refine W.q rfl rfl rfl rfl (by decide) (Yd.lss rfl (.t rfl) (.t rfl)) ?_
          refine W.end ?_
          refine NX.sub (env' := [(0, _), (1, _), (5, _), (6, _), (8, _), (9, _), (10, _), (11, _), (12, _), (49, _)]) ⟨rfl, rfl, rfl, rfl, rfl, rfl, rfl, rfl, rfl, rfl, trivial⟩ ?_
          refine NX.then ?_
          refine Tr.cond (.t rfl) (fun hb => ?_) (fun hb => ?_)
          · exact absurd (hb.symm.trans (fr_end hni_36)) (by decide)
          ·
            refine Tr.exit' (EX.then (EX.then (EX.block ?_)))
            refine NX.sub (env' := [(0, _), (1, _), (5, _), (6, _), (8, _), (9, _), (10, _), (11, _)]) ⟨rfl, rfl, rfl, rfl, rfl, rfl, rfl, rfl, trivial⟩ ?_
            exact hk30 _ _ ⟨_, rfl, rfl, hr⟩
        | succ n39 =>
          obtain ⟨nx38, hnx38, hr⟩ := forK_succ hr
          try dsimp only at hr
          unfold syllogistlaw_FollowKeys_b37 at hr
          try dsimp only at hr
          have hlti_36 := fr_bnd hni_36
          refine Tr.seq ?_
          refine Tr.seq ?_
          refine Tr.region_f (fun _ => false) ?_
          refine W.q rfl rfl rfl rfl (by decide) (Yd.mv rfl (.t rfl)) ?_
          refine W.q rfl rfl rfl rfl (by decide) (Yd.mv rfl (.t rfl)) ?_
          refine W.q rfl rfl rfl rfl (by decide) (Yd.lss rfl (.t rfl) (.t rfl)) ?_
          refine W.end ?_
          refine NX.sub (env' := [(0, _), (1, _), (5, _), (6, _), (8, _), (9, _), (10, _), (11, _), (12, _), (49, _)]) ⟨rfl, rfl, rfl, rfl, rfl, rfl, rfl, rfl, rfl, rfl, trivial⟩ ?_
          refine NX.then ?_
          refine Tr.cond (.t rfl) (fun hb => ?_) (fun hb => ?_)
          rotate_left
          · exact absurd (hb.symm.trans (fr_go hni_36)) (by decide)
          ·
            refine Tr.skip' ?_
            refine NX.then ?_
            refine Tr.seq ?_
            refine Tr.block ?_
            refine Tr.seq ?_
            obtain ⟨r40, hr41, hr⟩ := bind_some hr
            obtain ⟨ha42, hr⟩ := guard_some hr
            refine Tr.region_f (fun _ => false) ?_
            refine W.q rfl rfl rfl rfl (by decide) (Yd.mv rfl (.t rfl)) ?_
            refine W.q rfl rfl rfl rfl (by decide) (Yd.mv rfl (.t rfl)) ?_
            refine W.q rfl rfl rfl rfl (by decide) (Yd.call (v := .bool r40) rfl Try.func21 rfl rfl (.cons (.t rfl) (.cons (.t rfl) .nil)) (fun x' hx w hw => syllogistref_Bit_ok w0 x'.m x'.l s_11 i_36 _ hr41 w hw)) ?_
            refine W.q rfl rfl rfl rfl (by decide) (Yd.mv rfl (.t rfl)) ?_
            refine W.g rfl rfl rfl rfl rfl (.t rfl _) rfl (by decide) (fun hG => Yd.mv rfl (.t rfl)) ?_
            refine W.g rfl rfl rfl rfl rfl (.t rfl _) rfl (by decide) (fun hG => Yd.mv rfl (.t rfl)) ?_
            refine W.g rfl rfl rfl rfl rfl (.t rfl _) rfl (by decide) (fun hG => Yd.mv rfl (.t rfl)) ?_
            refine W.g rfl rfl rfl rfl rfl (.t rfl _) rfl (by decide) (fun hG => Yd.mv rfl (.t rfl)) ?_
            refine W.g rfl rfl rfl rfl rfl (.t rfl _) rfl (by decide) (fun hG => Yd.cvQ rfl US3 Try.underlying39 (.g rfl hG)) ?_
            refine W.g rfl rfl rfl rfl rfl (.t rfl _) rfl (by decide) (fun hG => Yd.shlU (a := 1#32) rfl .c (.g rfl hG) (Int.natCast_nonneg _)) ?_
            refine W.g rfl rfl rfl rfl rfl (.t rfl _) rfl (by decide) (fun hG => Yd.subU rfl (.g rfl hG) (.g rfl hG)) ?_
            refine W.g rfl rfl rfl rfl rfl (.t rfl _) rfl (by decide) (fun hG => Yd.call (v := .int .u32 (((((syllogistref_Close n_0 rules_1 ((s_11 - (1#32 <<< ((BitVec.ofInt 64 i_36)).toNat)))).getD (0#32)))).toNat : Int)) rfl Try.func14 rfl rfl (.cons (.g rfl hG) (.cons (.g rfl hG) (.cons (.g rfl hG) .nil))) (fun x' hx w hw => syllogistref_Close_ok w0 x'.m x'.l n_0 _ _ (hrules_1.mono hx.1) ((s_11 - (1#32 <<< ((BitVec.ofInt 64 i_36)).toNat))) _ (gd_get (d := (0#32)) ha42 hG) w hw)) ?_
            refine W.g rfl rfl rfl rfl rfl (.t rfl _) rfl (by decide) (fun hG => Yd.mv rfl (.t rfl)) ?_
            refine W.g rfl rfl rfl rfl rfl (.t rfl _) rfl (by decide) (fun hG => Yd.eqlU rfl (.g rfl hG) (.g rfl hG)) ?_
            refine W.q rfl rfl rfl rfl (by decide) (Yd.and rfl (.t rfl) .c rfl rfl) ?_
            refine W.end ?_
            refine NX.sub (env' := [(0, _), (1, _), (5, _), (6, _), (8, _), (9, _), (10, _), (11, _), (12, _), (66, _)]) ⟨rfl, rfl, rfl, rfl, rfl, rfl, rfl, rfl, rfl, rfl, trivial⟩ ?_
            refine NX.then ?_
            refine Tr.cond (.t rfl) (fun hb => ?_) (fun hb => ?_)
            · have hr := cond_t hb hr
              refine Tr.region_f (fun _ => false) ?_
              refine W.q rfl rfl rfl rfl (by decide) (Yd.as rfl .c) ?_
              refine W.end ?_
              refine NX.sub (env' := [(0, _), (1, _), (5, _), (6, _), (8, _), (9, _), (10, _), (11, _), (12, _)]) ⟨rfl, rfl, rfl, rfl, rfl, rfl, rfl, rfl, rfl, trivial⟩ ?_
              refine NX.block ?_
              refine NX.then ?_
              refine Tr.region_f (fun _ => false) ?_
              refine W.q rfl rfl rfl rfl (by decide) (Yd.mv rfl (.t rfl)) ?_
              refine W.q rfl rfl rfl rfl (by decide) (Yd.add rfl (.t rfl) .c) ?_
              refine W.q rfl rfl rfl rfl (by decide) (Yd.as rfl (.t rfl)) ?_
              refine W.end ?_
              refine NX.sub (env' := [(0, _), (1, _), (5, _), (6, _), (8, _), (9, _), (10, _), (11, _), (12, _)]) ⟨rfl, rfl, rfl, rfl, rfl, rfl, rfl, rfl, rfl, trivial⟩ ?_
              refine NX.sub (env' := [(0, _), (1, _), (5, _), (6, _), (8, _), (9, _), (10, _), (11, _), (12, _)]) ⟨rfl, rfl, rfl, rfl, rfl, rfl, rfl, rfl, rfl, trivial⟩ ?_
              have hw := w64_id (n := i_36 + 1) (by omega) (by omega)
              exact NX.again n39 (i_36 + 1, false) (Nat.lt_succ_self _) ⟨(by rw [hw] <;> rfl), rfl, (fr_dec hni_36), (by omega), ((hnx38 _).symm.trans hr)⟩
            · have hr := cond_f hb hr
              refine Tr.skip' ?_
              refine NX.block ?_
              refine NX.then ?_
              refine Tr.region_f (fun _ => false) ?_
              refine W.q rfl rfl rfl rfl (by decide) (Yd.mv rfl (.t rfl)) ?_
              refine W.q rfl rfl rfl rfl (by decide) (Yd.add rfl (.t rfl) .c) ?_
              refine W.q rfl rfl rfl rfl (by decide) (Yd.as rfl (.t rfl)) ?_
              refine W.end ?_
              refine NX.sub (env' := [(0, _), (1, _), (5, _), (6, _), (8, _), (9, _), (10, _), (11, _), (12, _)]) ⟨rfl, rfl, rfl, rfl, rfl, rfl, rfl, rfl, rfl, trivial⟩ ?_
              refine NX.sub (env' := [(0, _), (1, _), (5, _), (6, _), (8, _), (9, _), (10, _), (11, _), (12, _)]) ⟨rfl, rfl, rfl, rfl, rfl, rfl, rfl, rfl, rfl, trivial⟩ ?_
              have hw := w64_id (n := i_36 + 1) (by omega) (by omega)
              exact NX.again n39 (i_36 + 1, key_26) (Nat.lt_succ_self _) ⟨(by rw [hw] <;> rfl), rfl, (fr_dec hni_36), (by omega), ((hnx38 _).symm.trans hr)⟩
      · have hr := cond_f hb hr
        refine Tr.exit' (EX.then (EX.then (EX.block ?_)))
        refine NX.sub (env' := [(5, _), (6, _), (9, _)]) ⟨rfl, rfl, rfl, trivial⟩ ?_
        exact hk17 _ _ ⟨_, _, rfl, rfl, hr⟩

def fix_wrong_c1 (s_0 : (BitVec 32)) (c_0 : Int) : Option (Bool) :=
  bif decide (0 ≤ c_0) then
  some (((s_0 >>> c_0.toNat) != 0#32)) else none

set_option maxRecDepth 100000 in
theorem fix_wrong_c1_ok (w0 : World) (m : Snap) (l : List HI) (s_0 : (BitVec 32)) (fp0 fb0 : Nat) (c_0 : Int) (hfp0 : l[fp0]? = some (hcells fb0 [.int .i64 c_0] 3)) (r : Bool) (hr : fix_wrong_c1 s_0 c_0 = some r) (w : World) (hc : cX w0 ⟨m, l⟩ w) :
    Calls Try.prog 42 [.int .u32 (s_0.toNat : Int), bp fb0 0].toArray w fun e w' => e = .returned (.bool r) ∧ cX w0 ⟨m, l⟩ w' := by
  unfold fix_wrong_c1 at hr
  refine calls_of_Tr (N := 8) Try.func42 rfl hc rfl (Nat.le_of_ble_eq_true rfl) ?_
  refine Tr.seq ?_
  refine Tr.region_f (fun _ => false) ?_
  refine W.q rfl rfl rfl rfl (by decide) (Yd.as rfl .c) ?_
  refine W.end ?_
  refine NX.sub (env' := [(0, _), (1, _)]) ⟨rfl, rfl, trivial⟩ ?_
  refine NX.then ?_
  refine Tr.seq ?_
  obtain ⟨hq1, hr⟩ := guard_some hr; replace hq1 := of_decide_eq_true hq1
  refine Tr.region_f (fun _ => false) ?_
  refine W.q rfl rfl rfl rfl (by decide) (Yd.mv rfl (.t rfl)) ?_
  refine W.q rfl rfl rfl rfl (by decide) (Yd.ldB (pos := fp0) hfp0 rfl rfl ON3 (.t rfl)) ?_
  refine W.q rfl rfl rfl rfl (by decide) (Yd.shrU rfl (.t rfl) (.t rfl) hq1) ?_
  refine W.q rfl rfl rfl rfl (by decide) (Yd.neqU (b := 0#32) rfl (.t rfl) .c) ?_
  refine W.q rfl rfl rfl rfl (by decide) (Yd.as rfl (.t rfl)) ?_
  refine W.end ?_
  refine NX.sub (env' := [(3, _)]) ⟨rfl, trivial⟩ ?_
  refine NX.then ?_
  refine Tr.ret' ?_
  refine res1 rfl rfl ?_
  intro w hc
  cases hr
  exact ⟨rfl, hc⟩

def fix_wrong (n_0 : Int) (f_1 : List (BitVec 32)) : Option (Int) :=
  (bif ((decide (n_0 < (1 : Int))) || (decide (n_0 > (5 : Int)))) then
  some ((1 : Int))
  else
  bif decide (0 ≤ n_0) then
  (bif ((f_1.length : Int) != (ishl ((1 : Int)) n_0.toNat)) then
  some ((3 : Int))
  else
  (slices_ContainsFunc_Suint32uint32 f_1 (fun a => fix_wrong_c1 a n_0)).bind fun r4 =>
  (bif r4 then
  some ((4 : Int))
  else
  some ((0 : Int)))) else none)

set_option maxRecDepth 100000 in
theorem fix_wrong_ok (w0 : World) (m : Snap) (l : List HI) (n_0 : Int) (uf_1 : Value) (f_1 : List (BitVec 32)) (hf_1 : RS rU m uf_1 f_1) (r : Int) (hr : fix_wrong n_0 f_1 = some r) (w : World) (hc : cX w0 ⟨m, l⟩ w) :
    Calls Try.prog 38 [.int .i64 n_0, uf_1].toArray w fun e w' => e = .returned (.int .i64 r) ∧ cX w0 ⟨m, l⟩ w' := by
  unfold fix_wrong at hr
  refine calls_of_Tr (N := 22) Try.func38 rfl hc rfl (Nat.le_of_ble_eq_true rfl) ?_
  refine Tr.seq ?_
  refine Tr.region_f (fun i => Nat.beq i 0) ?_
  refine W.e rfl rfl rfl rfl (by decide) (Ef.bx rfl (.t rfl) rfl) ?_
  rintro _ _ ⟨b1, rfl, rfl⟩
  refine ⟨.inl rfl, ?_⟩
  refine W.cast (m' := m) (l' := hcells b1 [_] 3 :: l) rfl rfl ?_
  refine W.q rfl rfl rfl rfl (by decide) (Yd.as rfl .c) ?_
  refine W.end ?_
  refine NX.sub (env' := [(1, _), (2, _)]) ⟨rfl, rfl, trivial⟩ ?_
  refine NX.then ?_
  refine Tr.seq ?_
  refine Tr.block ?_
  refine Tr.seq ?_
  refine Tr.region_f (fun _ => false) ?_
  refine W.q rfl rfl rfl rfl (by decide) (Yd.ldB (pos := 0) rfl rfl rfl ON3 (.t rfl)) ?_
  refine W.q rfl rfl rfl rfl (by decide) (Yd.lss rfl (.t rfl) .c) ?_
  refine W.q rfl rfl rfl rfl (by decide) (Yd.mv rfl (.t rfl)) ?_
  refine W.g rfl rfl rfl rfl rfl (.t rfl _) rfl (by decide) (fun hG => Yd.ldB (pos := 0) rfl rfl rfl ON3 (.t rfl)) ?_
  refine W.g rfl rfl rfl rfl rfl (.t rfl _) rfl (by decide) (fun hG => Yd.gtr rfl (.g rfl hG) .c) ?_
  refine W.q rfl rfl rfl rfl (by decide) (Yd.or rfl (.t rfl) .c rfl rfl) ?_
  refine W.q rfl rfl rfl rfl (by decide) (Yd.as rfl (.t rfl)) ?_
  refine W.end ?_
  refine NX.sub (env' := [(1, _), (2, _), (5, _)]) ⟨rfl, rfl, rfl, trivial⟩ ?_
  refine NX.then ?_
  refine Tr.cond (.t rfl) (fun hb => ?_) (fun hb => ?_)
  · have hr := cond_t hb hr
    refine Tr.seq ?_
    refine Tr.region_f (fun _ => false) ?_
    refine W.q rfl rfl rfl rfl (by decide) (Yd.as rfl .c) ?_
    refine W.end ?_
    refine NX.sub (env' := [(4, _)]) ⟨rfl, trivial⟩ ?_
    refine NX.drop (l' := l) (.cons _ (.refl _)) ?_
    refine NX.then ?_
    refine Tr.ret' (RT.block (RT.then ?_))
    refine res1 rfl rfl ?_
    intro w hc
    cases hr
    exact ⟨rfl, hc⟩
  · have hr := cond_f hb hr
    refine Tr.seq ?_
    obtain ⟨hq3, hr⟩ := guard_some hr; replace hq3 := of_decide_eq_true hq3
    refine Tr.region_f (fun _ => false) ?_
    refine W.q rfl rfl rfl rfl (by decide) (Yd.mv rfl (.t rfl)) ?_
    refine W.q rfl rfl rfl rfl (by decide) (Yd.lenR hf_1 rfl Try.underlying36 (.t rfl)) ?_
    refine W.q rfl rfl rfl rfl (by decide) (Yd.ldB (pos := 0) rfl rfl rfl ON3 (.t rfl)) ?_
    refine W.q rfl rfl rfl rfl (by decide) (Yd.shlI rfl .c (.t rfl) hq3) ?_
    refine W.q rfl rfl rfl rfl (by decide) (Yd.neq rfl (.t rfl) (.t rfl)) ?_
    refine W.q rfl rfl rfl rfl (by decide) (Yd.as rfl (.t rfl)) ?_
    refine W.end ?_
    refine NX.sub (env' := [(1, _), (2, _), (12, _)]) ⟨rfl, rfl, rfl, trivial⟩ ?_
    refine NX.then ?_
    refine Tr.cond (.t rfl) (fun hb => ?_) (fun hb => ?_)
    · have hr := cond_t hb hr
      refine Tr.seq ?_
      refine Tr.region_f (fun _ => false) ?_
      refine W.q rfl rfl rfl rfl (by decide) (Yd.as rfl .c) ?_
      refine W.end ?_
      refine NX.sub (env' := [(4, _)]) ⟨rfl, trivial⟩ ?_
      refine NX.drop (l' := l) (.cons _ (.refl _)) ?_
      refine NX.then ?_
      refine Tr.ret' (RT.block (RT.then ?_))
      refine res1 rfl rfl ?_
      intro w hc
      cases hr
      exact ⟨rfl, hc⟩
    · have hr := cond_f hb hr
      refine Tr.seq ?_
      obtain ⟨r4, hr5, hr⟩ := bind_some hr
      refine Tr.region_f (fun _ => false) ?_
      refine W.q rfl rfl rfl rfl (by decide) (Yd.mv rfl (.t rfl)) ?_
      refine W.q rfl rfl rfl rfl (by decide) (Yd.mkf rfl (.cons (.t rfl) .nil)) ?_
      refine W.q rfl rfl rfl rfl (by decide) (Yd.call (v := .bool r4) rfl Try.func35 rfl rfl (.cons (.t rfl) (.cons (.t rfl) .nil)) (fun x' hx w hw => slices_ContainsFunc_Suint32uint32_ok w0 x'.m x'.l _ _ (hf_1.mono hx.1) _ (fun a => fix_wrong_c1 a n_0) ⟨42, _, _, rfl, Try.func42, rfl, rfl, fun y hy w2 hw2 v a r2 hv hr2 => by obtain ⟨p5, hp5⟩ := (leX_trans _ _ _ hx hy).at (p := 0) rfl; obtain rfl := hv; exact fix_wrong_c1_ok w0 y.m y.l a p5 _ n_0 hp5 r2 hr2 w2 hw2⟩ _ hr5 w hw)) ?_
      refine W.q rfl rfl rfl rfl (by decide) (Yd.as rfl (.t rfl)) ?_
      refine W.end ?_
      refine NX.sub (env' := [(18, _)]) ⟨rfl, trivial⟩ ?_
      refine NX.drop (l' := l) (.cons _ (.refl _)) ?_
      refine NX.then ?_
      refine Tr.cond (.t rfl) (fun hb => ?_) (fun hb => ?_)
      · have hr := cond_t hb hr
        refine Tr.seq ?_
        refine Tr.region_f (fun _ => false) ?_
        refine W.q rfl rfl rfl rfl (by decide) (Yd.as rfl .c) ?_
        refine W.end ?_
        refine NX.sub (env' := [(4, _)]) ⟨rfl, trivial⟩ ?_
        refine NX.then ?_
        refine Tr.ret' (RT.block (RT.then ?_))
        refine res1 rfl rfl ?_
        intro w hc
        cases hr
        exact ⟨rfl, hc⟩
      · have hr := cond_f hb hr
        refine Tr.skip' ?_
        refine NX.block ?_
        refine NX.then ?_
        refine Tr.seq ?_
        refine Tr.region_f (fun _ => false) ?_
        refine W.q rfl rfl rfl rfl (by decide) (Yd.as rfl .c) ?_
        refine W.end ?_
        refine NX.sub (env' := [(4, _)]) ⟨rfl, trivial⟩ ?_
        refine NX.then ?_
        refine Tr.ret' ?_
        refine res1 rfl rfl ?_
        intro w hc
        cases hr
        exact ⟨rfl, hc⟩

def fix_rises_k3 : Option (Bool) :=
  some true

def fix_rises_k14 (nx8 : (Unit → Option (Bool))) : Option (Bool) :=
  nx8 ()

def fix_rises_b18 (f_1 : List (BitVec 32)) (t_6 : Int) (y10 : (BitVec 32)) (t_17 : Int) (nx19 : Unit → Option (Bool)) : Option (Bool) :=
  (geti f_1 ((ior t_6 ((ishl ((1 : Int)) t_17.toNat))))).bind fun y21 =>
  (bif ((y10 &&& ~~~y21) != 0#32) then
  some false
  else
  nx19 ())

def fix_rises_b7 (n_0 : Int) (f_1 : List (BitVec 32)) (t_6 : Int) (nx8 : Unit → Option (Bool)) : Option (Bool) :=
  (geti f_1 t_6).bind fun y10 =>
  bif decide (n_0 ≤ 9223372036854775807) then
  forK (σ := Unit) (fun i s nx_ => fix_rises_b18 f_1 t_6 y10 i nx_) (fun _ => fix_rises_k14 nx8) (n_0 - (0 : Int)).toNat (0 : Int) () else none

def fix_rises (n_0 : Int) (f_1 : List (BitVec 32)) : Option (Bool) :=
  forK (σ := Unit) (fun i s nx_ => fix_rises_b7 n_0 f_1 i nx_) (fun _ => fix_rises_k3) ((f_1.length : Int) - (0 : Int)).toNat (0 : Int) ()

set_option maxRecDepth 100000 in
theorem fix_rises_ok (w0 : World) (m : Snap) (l : List HI) (n_0 : Int) (uf_1 : Value) (f_1 : List (BitVec 32)) (hf_1 : RS rU m uf_1 f_1) (r : Bool) (hr : fix_rises n_0 f_1 = some r) (w : World) (hc : cX w0 ⟨m, l⟩ w) :
    Calls Try.prog 39 [.int .i64 n_0, uf_1].toArray w fun e w' => e = .returned (.bool r) ∧ cX w0 ⟨m, l⟩ w' := by
  unfold fix_rises at hr
  refine calls_of_Tr (N := 31) Try.func39 rfl hc rfl (Nat.le_of_ble_eq_true rfl) ?_
  refine Tr.seq ?_
  refine Tr.region_f (fun _ => false) ?_
  refine W.q rfl rfl rfl rfl (by decide) (Yd.as rfl .c) ?_
  refine W.end ?_
  refine NX.sub (env' := [(0, _), (1, _)]) ⟨rfl, rfl, trivial⟩ ?_
  refine NX.then ?_
  refine Tr.seq ?_
  refine Tr.seq ?_
  refine Tr.region_f (fun _ => false) ?_
  refine W.q rfl rfl rfl rfl (by decide) (Yd.mv rfl (.t rfl)) ?_
  refine W.q rfl rfl rfl rfl (by decide) (Yd.lenR hf_1 rfl Try.underlying36 (.t rfl)) ?_
  refine W.q rfl rfl rfl rfl (by decide) (Yd.mv rfl .c) ?_
  refine W.end ?_
  refine NX.sub (env' := [(0, _), (1, _), (8, _), (9, _), (10, _)]) ⟨rfl, rfl, rfl, rfl, rfl, trivial⟩ ?_
  refine NX.then ?_
  refine Tr.join (S := fun env x => env = [] ∧ x = ⟨m, l⟩ ∧ fix_rises_k3 = some r) ?_ (fun hk4 => ?_)
  · rintro _ _ ⟨rfl, rfl, hr⟩
    unfold fix_rises_k3 at hr
    try dsimp only at hr
    refine NX.then ?_
    refine Tr.seq ?_
    refine Tr.region_f (fun _ => false) ?_
    refine W.q rfl rfl rfl rfl (by decide) (Yd.as rfl .c) ?_
    refine W.end ?_
    refine NX.sub (env' := [(4, _)]) ⟨rfl, trivial⟩ ?_
    refine NX.then ?_
    refine Tr.ret' ?_
    refine res1 rfl rfl ?_
    intro w hc
    cases hr
    exact ⟨rfl, hc⟩
  have hlen5 := (hf_1).2.1
  refine Tr.block ?_
  refine Tr.sub (env' := [(0, _), (1, _), (8, _), (9, _), (10, _)]) ⟨rfl, rfl, rfl, rfl, rfl, trivial⟩ ?_
  refine Tr.loop (S := fun n (z : Int × Unit) env x => match z with | (t_6, _) => env = [(0, .int .i64 n_0), (1, uf_1), (8, uf_1), (9, .int .i64 ((f_1.length : Int))), (10, .int .i64 t_6)] ∧ x = ⟨m, l⟩ ∧ n = ((f_1.length : Int) - t_6).toNat ∧ 0 ≤ t_6 ∧ forK (σ := Unit) (fun i s nx_ => fix_rises_b7 n_0 f_1 i nx_) (fun _ => fix_rises_k3) n t_6 () = some r) _ ((0 : Int), ()) ⟨rfl, rfl, rfl, (by omega), hr⟩ ?_
  rintro n9 ⟨t_6, _⟩ env x ⟨rfl, rfl, hnt_6, h0t_6, hr⟩
  cases n9 with
  | zero =>
    simp only [forK] at hr
    refine Tr.seq ?_
    refine Tr.region_f (fun _ => false) ?_
    refine W.q rfl rfl rfl rfl (by decide) (Yd.lss rfl (.t rfl) (.t rfl)) ?_
    refine W.end ?_
    refine NX.sub (env' := [(0, _), (1, _), (8, _), (9, _), (10, _), (11, _)]) ⟨rfl, rfl, rfl, rfl, rfl, rfl, trivial⟩ ?_
    refine NX.then ?_
    refine Tr.seq ?_
    refine Tr.cond (.t rfl) (fun hb => ?_) (fun hb => ?_)
    · exact absurd (hb.symm.trans (fr_end hnt_6)) (by decide)
    ·
      refine Tr.exit' (EX.then (EX.then (EX.block ?_)))
      refine NX.sub (env' := []) trivial ?_
      exact hk4 _ _ ⟨rfl, rfl, hr⟩
  | succ n9 =>
    obtain ⟨nx8, hnx8, hr⟩ := forK_succ hr
    try dsimp only at hr
    unfold fix_rises_b7 at hr
    try dsimp only at hr
    have hltt_6 := fr_bnd hnt_6
    refine Tr.seq ?_
    refine Tr.region_f (fun _ => false) ?_
    refine W.q rfl rfl rfl rfl (by decide) (Yd.lss rfl (.t rfl) (.t rfl)) ?_
    refine W.end ?_
    refine NX.sub (env' := [(0, _), (1, _), (8, _), (9, _), (10, _), (11, _)]) ⟨rfl, rfl, rfl, rfl, rfl, rfl, trivial⟩ ?_
    refine NX.then ?_
    refine Tr.seq ?_
    refine Tr.cond (.t rfl) (fun hb => ?_) (fun hb => ?_)
    rotate_left
    · exact absurd (hb.symm.trans (fr_go hnt_6)) (by decide)
    ·
      refine Tr.skip' ?_
      refine NX.then ?_
      refine Tr.seq ?_
      refine Tr.block ?_
      refine Tr.seq ?_
      obtain ⟨y10, hy11, hr⟩ := bind_some hr
      refine Tr.region_f (fun _ => false) ?_
      refine W.q rfl rfl rfl rfl (by decide) (Yd.mv rfl (.t rfl)) ?_
      refine W.q rfl rfl rfl rfl (by decide) (Yd.idxR hf_1 hy11 rfl Try.underlying36 SZ23 (.t rfl) (.t rfl)) ?_
      refine W.q rfl rfl rfl rfl (by decide) (Yd.ldF hf_1 (.refl _) hy11 rfl rfl ON23 (.t rfl)) ?_
      refine W.q rfl rfl rfl rfl (by decide) (Yd.as rfl (.t rfl)) ?_
      refine W.q rfl rfl rfl rfl (by decide) (Yd.as rfl (.t rfl)) ?_
      refine W.end ?_
      refine NX.sub (env' := [(0, _), (1, _), (8, _), (9, _), (10, _), (5, _), (6, _)]) ⟨rfl, rfl, rfl, rfl, rfl, rfl, rfl, trivial⟩ ?_
      refine NX.then ?_
      refine Tr.seq ?_
      refine Tr.region_f (fun _ => false) ?_
      refine W.q rfl rfl rfl rfl (by decide) (Yd.mv rfl (.t rfl)) ?_
      refine W.q rfl rfl rfl rfl (by decide) (Yd.mv rfl .c) ?_
      refine W.end ?_
      refine NX.sub (env' := [(0, _), (1, _), (8, _), (9, _), (10, _), (5, _), (6, _), (15, _), (16, _)]) ⟨rfl, rfl, rfl, rfl, rfl, rfl, rfl, rfl, rfl, trivial⟩ ?_
      refine NX.then ?_
      refine Tr.join (S := fun env x => env = [(0, .int .i64 n_0), (1, uf_1), (8, uf_1), (9, .int .i64 ((f_1.length : Int))), (10, .int .i64 t_6)] ∧ x = ⟨m, l⟩ ∧ fix_rises_k14 nx8 = some r) ?_ (fun hk15 => ?_)
      · rintro _ _ ⟨rfl, rfl, hr⟩
        unfold fix_rises_k14 at hr
        try dsimp only at hr
        refine NX.block ?_
        refine NX.then ?_
        refine Tr.region_f (fun _ => false) ?_
        refine W.q rfl rfl rfl rfl (by decide) (Yd.add rfl (.t rfl) .c) ?_
        refine W.q rfl rfl rfl rfl (by decide) (Yd.mv rfl (.t rfl)) ?_
        refine W.end ?_
        refine NX.sub (env' := [(0, _), (1, _), (8, _), (9, _), (10, _)]) ⟨rfl, rfl, rfl, rfl, rfl, trivial⟩ ?_
        refine NX.sub (env' := [(0, _), (1, _), (8, _), (9, _), (10, _)]) ⟨rfl, rfl, rfl, rfl, rfl, trivial⟩ ?_
        have hw := w64_id (n := t_6 + 1) (by omega) (by omega)
        exact NX.again n9 (t_6 + 1, ()) (Nat.lt_succ_self _) ⟨(by rw [hw] <;> rfl), rfl, (fr_dec hnt_6), (by omega), ((hnx8 _).symm.trans hr)⟩
      obtain ⟨hle16, hr⟩ := guard_some hr; replace hle16 := of_decide_eq_true hle16
      refine Tr.block ?_
      refine Tr.sub (env' := [(0, _), (1, _), (5, _), (6, _), (8, _), (9, _), (10, _), (15, _), (16, _)]) ⟨rfl, rfl, rfl, rfl, rfl, rfl, rfl, rfl, rfl, trivial⟩ ?_
      refine Tr.loop (S := fun n (z : Int × Unit) env x => match z with | (t_17, _) => env = [(0, .int .i64 n_0), (1, uf_1), (5, .int .i64 t_6), (6, .int .u32 (y10.toNat : Int)), (8, uf_1), (9, .int .i64 ((f_1.length : Int))), (10, .int .i64 t_6), (15, .int .i64 n_0), (16, .int .i64 t_17)] ∧ x = ⟨m, l⟩ ∧ n = (n_0 - t_17).toNat ∧ 0 ≤ t_17 ∧ forK (σ := Unit) (fun i s nx_ => fix_rises_b18 f_1 t_6 y10 i nx_) (fun _ => fix_rises_k14 nx8) n t_17 () = some r) _ ((0 : Int), ()) ⟨rfl, rfl, rfl, (by omega), hr⟩ ?_
      rintro n20 ⟨t_17, _⟩ env x ⟨rfl, rfl, hnt_17, h0t_17, hr⟩
      cases n20 with
      | zero =>
        simp only [forK] at hr
        refine Tr.seq ?_
        refine Tr.region_f (fun _ => false) ?_
        refine W.q rfl rfl rfl rfl (by decide) (Yd.lss rfl (.t rfl) (.t rfl)) ?_
        refine W.end ?_
        refine NX.sub (env' := [(0, _), (1, _), (5, _), (6, _), (8, _), (9, _), (10, _), (15, _), (16, _), (17, _)]) ⟨rfl, rfl, rfl, rfl, rfl, rfl, rfl, rfl, rfl, rfl, trivial⟩ ?_
        refine NX.then ?_
        refine Tr.seq ?_
        refine Tr.cond (.t rfl) (fun hb => ?_) (fun hb => ?_)
        · exact absurd (hb.symm.trans (fr_end hnt_17)) (by decide)
        ·
          refine Tr.exit' (EX.then (EX.then (EX.block ?_)))
          refine NX.sub (env' := [(0, _), (1, _), (8, _), (9, _), (10, _)]) ⟨rfl, rfl, rfl, rfl, rfl, trivial⟩ ?_
          exact hk15 _ _ ⟨rfl, rfl, hr⟩
      | succ n20 =>
        obtain ⟨nx19, hnx19, hr⟩ := forK_succ hr
        try dsimp only at hr
        unfold fix_rises_b18 at hr
        try dsimp only at hr
        have hltt_17 := fr_bnd hnt_17
        refine Tr.seq ?_
        refine Tr.region_f (fun _ => false) ?_
        refine W.q rfl rfl rfl rfl (by decide) (Yd.lss rfl (.t rfl) (.t rfl)) ?_
        refine W.end ?_
        refine NX.sub (env' := [(0, _), (1, _), (5, _), (6, _), (8, _), (9, _), (10, _), (15, _), (16, _), (17, _)]) ⟨rfl, rfl, rfl, rfl, rfl, rfl, rfl, rfl, rfl, rfl, trivial⟩ ?_
        refine NX.then ?_
        refine Tr.seq ?_
        refine Tr.cond (.t rfl) (fun hb => ?_) (fun hb => ?_)
        rotate_left
        · exact absurd (hb.symm.trans (fr_go hnt_17)) (by decide)
        ·
          refine Tr.skip' ?_
          refine NX.then ?_
          refine Tr.seq ?_
          refine Tr.block ?_
          refine Tr.seq ?_
          refine Tr.region_f (fun _ => false) ?_
          refine W.q rfl rfl rfl rfl (by decide) (Yd.mv rfl (.t rfl)) ?_
          refine W.q rfl rfl rfl rfl (by decide) (Yd.as rfl (.t rfl)) ?_
          refine W.end ?_
          refine NX.sub (env' := [(0, _), (1, _), (5, _), (6, _), (8, _), (9, _), (10, _), (15, _), (16, _), (7, _)]) ⟨rfl, rfl, rfl, rfl, rfl, rfl, rfl, rfl, rfl, rfl, trivial⟩ ?_
          refine NX.then ?_
          refine Tr.seq ?_
          obtain ⟨y21, hy22, hr⟩ := bind_some hr
          refine Tr.region_f (fun _ => false) ?_
          refine W.q rfl rfl rfl rfl (by decide) (Yd.mv rfl (.t rfl)) ?_
          refine W.q rfl rfl rfl rfl (by decide) (Yd.mv rfl (.t rfl)) ?_
          refine W.q rfl rfl rfl rfl (by decide) (Yd.mv rfl (.t rfl)) ?_
          refine W.q rfl rfl rfl rfl (by decide) (Yd.mv rfl (.t rfl)) ?_
          refine W.q rfl rfl rfl rfl (by decide) (Yd.shlI rfl .c (.t rfl) h0t_17) ?_
          refine W.q rfl rfl rfl rfl (by decide) (Yd.orI rfl (.t rfl) (.t rfl)) ?_
          refine W.q rfl rfl rfl rfl (by decide) (Yd.idxR hf_1 hy22 rfl Try.underlying36 SZ23 (.t rfl) (.t rfl)) ?_
          refine W.q rfl rfl rfl rfl (by decide) (Yd.ldF hf_1 (.refl _) hy22 rfl rfl ON23 (.t rfl)) ?_
          refine W.q rfl rfl rfl rfl (by decide) (Yd.andnU rfl (.t rfl) (.t rfl)) ?_
          refine W.q rfl rfl rfl rfl (by decide) (Yd.neqU (b := 0#32) rfl (.t rfl) .c) ?_
          refine W.end ?_
          refine NX.sub (env' := [(0, _), (1, _), (5, _), (6, _), (8, _), (9, _), (10, _), (15, _), (16, _), (28, _)]) ⟨rfl, rfl, rfl, rfl, rfl, rfl, rfl, rfl, rfl, rfl, trivial⟩ ?_
          refine NX.then ?_
          refine Tr.cond (.t rfl) (fun hb => ?_) (fun hb => ?_)
          · have hr := cond_t hb hr
            refine Tr.seq ?_
            refine Tr.region_f (fun _ => false) ?_
            refine W.q rfl rfl rfl rfl (by decide) (Yd.as rfl .c) ?_
            refine W.end ?_
            refine NX.sub (env' := [(4, _)]) ⟨rfl, trivial⟩ ?_
            refine NX.then ?_
            refine Tr.ret' (RT.block (RT.then (RT.then (RT.block (RT.block (RT.then (RT.then (RT.block (RT.then ?_)))))))))
            refine res1 rfl rfl ?_
            intro w hc
            cases hr
            exact ⟨rfl, hc⟩
          · have hr := cond_f hb hr
            refine Tr.skip' ?_
            refine NX.block ?_
            refine NX.then ?_
            refine Tr.region_f (fun _ => false) ?_
            refine W.q rfl rfl rfl rfl (by decide) (Yd.add rfl (.t rfl) .c) ?_
            refine W.q rfl rfl rfl rfl (by decide) (Yd.mv rfl (.t rfl)) ?_
            refine W.end ?_
            refine NX.sub (env' := [(0, _), (1, _), (5, _), (6, _), (8, _), (9, _), (10, _), (15, _), (16, _)]) ⟨rfl, rfl, rfl, rfl, rfl, rfl, rfl, rfl, rfl, trivial⟩ ?_
            refine NX.sub (env' := [(0, _), (1, _), (5, _), (6, _), (8, _), (9, _), (10, _), (15, _), (16, _)]) ⟨rfl, rfl, rfl, rfl, rfl, rfl, rfl, rfl, rfl, trivial⟩ ?_
            have hw := w64_id (n := t_17 + 1) (by omega) (by omega)
            exact NX.again n20 (t_17 + 1, ()) (Nat.lt_succ_self _) ⟨(by rw [hw] <;> rfl), rfl, (fr_dec hnt_17), (by omega), ((hnx19 _).symm.trans hr)⟩

def fix_Rises (n_0 : Int) (f_1 : List (BitVec 32)) : Option (Bool × Int) :=
  (fix_wrong n_0 f_1).bind fun r1 =>
  (bif (r1 != (0 : Int)) then
  some ((false, r1))
  else
  (fix_rises n_0 f_1).bind fun r3 =>
  some ((r3, (0 : Int))))

set_option maxRecDepth 100000 in
theorem fix_Rises_ok (w0 : World) (m : Snap) (l : List HI) (n_0 : Int) (uf_1 : Value) (f_1 : List (BitVec 32)) (hf_1 : RS rU m uf_1 f_1) (r : Bool × Int) (hr : fix_Rises n_0 f_1 = some r) (w : World) (hc : cX w0 ⟨m, l⟩ w) :
    Calls Try.prog 28 [.int .i64 n_0, uf_1].toArray w fun e w' => e = .returned (.tuple #[.bool r.1, .int .i64 r.2]) ∧ cX w0 ⟨m, l⟩ w' := by
  unfold fix_Rises at hr
  refine calls_of_Tr (N := 16) Try.func28 rfl hc rfl (Nat.le_of_ble_eq_true rfl) ?_
  refine Tr.seq ?_
  refine Tr.region_f (fun _ => false) ?_
  refine W.q rfl rfl rfl rfl (by decide) (Yd.as rfl .c) ?_
  refine W.q rfl rfl rfl rfl (by decide) (Yd.as rfl .c) ?_
  refine W.end ?_
  refine NX.sub (env' := [(0, _), (1, _)]) ⟨rfl, rfl, trivial⟩ ?_
  refine NX.then ?_
  refine Tr.seq ?_
  refine Tr.seq ?_
  obtain ⟨r1, hr2, hr⟩ := bind_some hr
  refine Tr.region_f (fun _ => false) ?_
  refine W.q rfl rfl rfl rfl (by decide) (Yd.mv rfl (.t rfl)) ?_
  refine W.q rfl rfl rfl rfl (by decide) (Yd.mv rfl (.t rfl)) ?_
  refine W.q rfl rfl rfl rfl (by decide) (Yd.call (v := .int .i64 r1) rfl Try.func38 rfl rfl (.cons (.t rfl) (.cons (.t rfl) .nil)) (fun x' hx w hw => fix_wrong_ok w0 x'.m x'.l n_0 _ _ (hf_1.mono hx.1) _ hr2 w hw)) ?_
  refine W.q rfl rfl rfl rfl (by decide) (Yd.as rfl (.t rfl)) ?_
  refine W.end ?_
  refine NX.sub (env' := [(0, _), (1, _), (6, _)]) ⟨rfl, rfl, rfl, trivial⟩ ?_
  refine NX.then ?_
  refine Tr.seq ?_
  refine Tr.region_f (fun _ => false) ?_
  refine W.q rfl rfl rfl rfl (by decide) (Yd.mv rfl (.t rfl)) ?_
  refine W.q rfl rfl rfl rfl (by decide) (Yd.neq rfl (.t rfl) .c) ?_
  refine W.end ?_
  refine NX.sub (env' := [(0, _), (1, _), (6, _), (11, _)]) ⟨rfl, rfl, rfl, rfl, trivial⟩ ?_
  refine NX.then ?_
  refine Tr.cond (.t rfl) (fun hb => ?_) (fun hb => ?_)
  · have hr := cond_t hb hr
    refine Tr.seq ?_
    refine Tr.region_f (fun _ => false) ?_
    refine W.q rfl rfl rfl rfl (by decide) (Yd.mv rfl (.t rfl)) ?_
    refine W.q rfl rfl rfl rfl (by decide) (Yd.as rfl .c) ?_
    refine W.q rfl rfl rfl rfl (by decide) (Yd.as rfl (.t rfl)) ?_
    refine W.end ?_
    refine NX.sub (env' := [(4, _), (5, _)]) ⟨rfl, rfl, trivial⟩ ?_
    refine NX.then ?_
    refine Tr.ret' (RT.then ?_)
    refine res2 rfl rfl rfl ?_
    intro w hc
    cases hr
    exact ⟨rfl, hc⟩
  · have hr := cond_f hb hr
    refine Tr.skip' ?_
    refine NX.then ?_
    refine Tr.seq ?_
    obtain ⟨r3, hr4, hr⟩ := bind_some hr
    refine Tr.region_f (fun _ => false) ?_
    refine W.q rfl rfl rfl rfl (by decide) (Yd.mv rfl (.t rfl)) ?_
    refine W.q rfl rfl rfl rfl (by decide) (Yd.mv rfl (.t rfl)) ?_
    refine W.q rfl rfl rfl rfl (by decide) (Yd.call (v := .bool r3) rfl Try.func39 rfl rfl (.cons (.t rfl) (.cons (.t rfl) .nil)) (fun x' hx w hw => fix_rises_ok w0 x'.m x'.l n_0 _ _ (hf_1.mono hx.1) _ hr4 w hw)) ?_
    refine W.q rfl rfl rfl rfl (by decide) (Yd.as rfl (.t rfl)) ?_
    refine W.q rfl rfl rfl rfl (by decide) (Yd.as rfl .c) ?_
    refine W.end ?_
    refine NX.sub (env' := [(4, _), (5, _)]) ⟨rfl, rfl, trivial⟩ ?_
    refine NX.then ?_
    refine Tr.ret' ?_
    refine res2 rfl rfl rfl ?_
    intro w hc
    cases hr
    exact ⟨rfl, hc⟩

def syllogistref_MapCheck_k3 : Option (Int) :=
  some ((0 : Int))

def syllogistref_MapCheck_b7 (n_0 : Int) (f_1 : List (BitVec 32)) (t_6 : Int) (nx8 : Unit → Option (Int)) : Option (Int) :=
  (geti f_1 t_6).bind fun y10 =>
  (syllogistref_Fits n_0 y10).bind fun r12 =>
  (bif (!r12) then
  some ((4 : Int))
  else
  nx8 ())

def syllogistref_MapCheck (n_0 : Int) (f_1 : List (BitVec 32)) : Option (Int) :=
  (bif ((decide (n_0 < (1 : Int))) || (decide (n_0 > (5 : Int)))) then
  some ((1 : Int))
  else
  (bif ((f_1.length : Int) != (ishl ((1 : Int)) (((BitVec.ofInt 64 n_0)).toNat))) then
  some ((3 : Int))
  else
  forK (σ := Unit) (fun i s nx_ => syllogistref_MapCheck_b7 n_0 f_1 i nx_) (fun _ => syllogistref_MapCheck_k3) ((f_1.length : Int) - (0 : Int)).toNat (0 : Int) ()))

set_option maxRecDepth 100000 in
theorem syllogistref_MapCheck_ok (w0 : World) (m : Snap) (l : List HI) (n_0 : Int) (uf_1 : Value) (f_1 : List (BitVec 32)) (hf_1 : RS rU m uf_1 f_1) (r : Int) (hr : syllogistref_MapCheck n_0 f_1 = some r) (w : World) (hc : cX w0 ⟨m, l⟩ w) :
    Calls Try.prog 26 [.int .i64 n_0, uf_1].toArray w fun e w' => e = .returned (.int .i64 r) ∧ cX w0 ⟨m, l⟩ w' := by
  unfold syllogistref_MapCheck at hr
  refine calls_of_Tr (N := 30) Try.func26 rfl hc rfl (Nat.le_of_ble_eq_true rfl) ?_
  refine Tr.seq ?_
  refine Tr.region_f (fun _ => false) ?_
  refine W.q rfl rfl rfl rfl (by decide) (Yd.as rfl .c) ?_
  refine W.end ?_
  refine NX.sub (env' := [(0, _), (1, _)]) ⟨rfl, rfl, trivial⟩ ?_
  refine NX.then ?_
  refine Tr.seq ?_
  refine Tr.seq ?_
  refine Tr.region_f (fun _ => false) ?_
  refine W.q rfl rfl rfl rfl (by decide) (Yd.mv rfl (.t rfl)) ?_
  refine W.q rfl rfl rfl rfl (by decide) (Yd.lss rfl (.t rfl) .c) ?_
  refine W.q rfl rfl rfl rfl (by decide) (Yd.mv rfl (.t rfl)) ?_
  refine W.g rfl rfl rfl rfl rfl (.t rfl _) rfl (by decide) (fun hG => Yd.mv rfl (.t rfl)) ?_
  refine W.g rfl rfl rfl rfl rfl (.t rfl _) rfl (by decide) (fun hG => Yd.gtr rfl (.g rfl hG) .c) ?_
  refine W.q rfl rfl rfl rfl (by decide) (Yd.or rfl (.t rfl) .c rfl rfl) ?_
  refine W.end ?_
  refine NX.sub (env' := [(0, _), (1, _), (12, _)]) ⟨rfl, rfl, rfl, trivial⟩ ?_
  refine NX.then ?_
  refine Tr.cond (.t rfl) (fun hb => ?_) (fun hb => ?_)
  · have hr := cond_t hb hr
    refine Tr.seq ?_
    refine Tr.region_f (fun _ => false) ?_
    refine W.q rfl rfl rfl rfl (by decide) (Yd.as rfl .c) ?_
    refine W.end ?_
    refine NX.sub (env' := [(4, _)]) ⟨rfl, trivial⟩ ?_
    refine NX.then ?_
    refine Tr.ret' (RT.then ?_)
    refine res1 rfl rfl ?_
    intro w hc
    cases hr
    exact ⟨rfl, hc⟩
  · have hr := cond_f hb hr
    refine Tr.skip' ?_
    refine NX.then ?_
    refine Tr.seq ?_
    refine Tr.seq ?_
    refine Tr.region_f (fun _ => false) ?_
    refine W.q rfl rfl rfl rfl (by decide) (Yd.mv rfl (.t rfl)) ?_
    refine W.q rfl rfl rfl rfl (by decide) (Yd.lenR hf_1 rfl Try.underlying36 (.t rfl)) ?_
    refine W.q rfl rfl rfl rfl (by decide) (Yd.mv rfl (.t rfl)) ?_
    refine W.q rfl rfl rfl rfl (by decide) (Yd.cvQ rfl US3 Try.underlying39 (.t rfl)) ?_
    refine W.q rfl rfl rfl rfl (by decide) (Yd.shlI rfl .c (.t rfl) (Int.natCast_nonneg _)) ?_
    refine W.q rfl rfl rfl rfl (by decide) (Yd.neq rfl (.t rfl) (.t rfl)) ?_
    refine W.end ?_
    refine NX.sub (env' := [(0, _), (1, _), (18, _)]) ⟨rfl, rfl, rfl, trivial⟩ ?_
    refine NX.then ?_
    refine Tr.cond (.t rfl) (fun hb => ?_) (fun hb => ?_)
    · have hr := cond_t hb hr
      refine Tr.seq ?_
      refine Tr.region_f (fun _ => false) ?_
      refine W.q rfl rfl rfl rfl (by decide) (Yd.as rfl .c) ?_
      refine W.end ?_
      refine NX.sub (env' := [(4, _)]) ⟨rfl, trivial⟩ ?_
      refine NX.then ?_
      refine Tr.ret' (RT.then ?_)
      refine res1 rfl rfl ?_
      intro w hc
      cases hr
      exact ⟨rfl, hc⟩
    · have hr := cond_f hb hr
      refine Tr.skip' ?_
      refine NX.then ?_
      refine Tr.seq ?_
      refine Tr.seq ?_
      refine Tr.region_f (fun _ => false) ?_
      refine W.q rfl rfl rfl rfl (by decide) (Yd.mv rfl (.t rfl)) ?_
      refine W.q rfl rfl rfl rfl (by decide) (Yd.lenR hf_1 rfl Try.underlying36 (.t rfl)) ?_
      refine W.q rfl rfl rfl rfl (by decide) (Yd.mv rfl .c) ?_
      refine W.end ?_
      refine NX.sub (env' := [(0, _), (19, _), (20, _), (21, _)]) ⟨rfl, rfl, rfl, rfl, trivial⟩ ?_
      refine NX.then ?_
      refine Tr.join (S := fun env x => env = [] ∧ x = ⟨m, l⟩ ∧ syllogistref_MapCheck_k3 = some r) ?_ (fun hk4 => ?_)
      · rintro _ _ ⟨rfl, rfl, hr⟩
        unfold syllogistref_MapCheck_k3 at hr
        try dsimp only at hr
        refine NX.then ?_
        refine Tr.seq ?_
        refine Tr.region_f (fun _ => false) ?_
        refine W.q rfl rfl rfl rfl (by decide) (Yd.as rfl .c) ?_
        refine W.end ?_
        refine NX.sub (env' := [(4, _)]) ⟨rfl, trivial⟩ ?_
        refine NX.then ?_
        refine Tr.ret' ?_
        refine res1 rfl rfl ?_
        intro w hc
        cases hr
        exact ⟨rfl, hc⟩
      have hlen5 := (hf_1).2.1
      refine Tr.block ?_
      refine Tr.sub (env' := [(0, _), (19, _), (20, _), (21, _)]) ⟨rfl, rfl, rfl, rfl, trivial⟩ ?_
      refine Tr.loop (S := fun n (z : Int × Unit) env x => match z with | (t_6, _) => env = [(0, .int .i64 n_0), (19, uf_1), (20, .int .i64 ((f_1.length : Int))), (21, .int .i64 t_6)] ∧ x = ⟨m, l⟩ ∧ n = ((f_1.length : Int) - t_6).toNat ∧ 0 ≤ t_6 ∧ forK (σ := Unit) (fun i s nx_ => syllogistref_MapCheck_b7 n_0 f_1 i nx_) (fun _ => syllogistref_MapCheck_k3) n t_6 () = some r) _ ((0 : Int), ()) ⟨rfl, rfl, rfl, (by omega), hr⟩ ?_
      rintro n9 ⟨t_6, _⟩ env x ⟨rfl, rfl, hnt_6, h0t_6, hr⟩
      cases n9 with
      | zero =>
        simp only [forK] at hr
        refine Tr.seq ?_
        refine Tr.region_f (fun _ => false) ?_
        refine W.q rfl rfl rfl rfl (by decide) (Yd.lss rfl (.t rfl) (.t rfl)) ?_
        refine W.end ?_
        refine NX.sub (env' := [(0, _), (19, _), (20, _), (21, _), (22, _)]) ⟨rfl, rfl, rfl, rfl, rfl, trivial⟩ ?_
        refine NX.then ?_
        refine Tr.seq ?_
        refine Tr.cond (.t rfl) (fun hb => ?_) (fun hb => ?_)
        · exact absurd (hb.symm.trans (fr_end hnt_6)) (by decide)
        ·
          refine Tr.exit' (EX.then (EX.then (EX.block ?_)))
          refine NX.sub (env' := []) trivial ?_
          exact hk4 _ _ ⟨rfl, rfl, hr⟩
      | succ n9 =>
        obtain ⟨nx8, hnx8, hr⟩ := forK_succ hr
        try dsimp only at hr
        unfold syllogistref_MapCheck_b7 at hr
        try dsimp only at hr
        have hltt_6 := fr_bnd hnt_6
        refine Tr.seq ?_
        refine Tr.region_f (fun _ => false) ?_
        refine W.q rfl rfl rfl rfl (by decide) (Yd.lss rfl (.t rfl) (.t rfl)) ?_
        refine W.end ?_
        refine NX.sub (env' := [(0, _), (19, _), (20, _), (21, _), (22, _)]) ⟨rfl, rfl, rfl, rfl, rfl, trivial⟩ ?_
        refine NX.then ?_
        refine Tr.seq ?_
        refine Tr.cond (.t rfl) (fun hb => ?_) (fun hb => ?_)
        rotate_left
        · exact absurd (hb.symm.trans (fr_go hnt_6)) (by decide)
        ·
          refine Tr.skip' ?_
          refine NX.then ?_
          refine Tr.seq ?_
          refine Tr.block ?_
          refine Tr.seq ?_
          obtain ⟨y10, hy11, hr⟩ := bind_some hr
          refine Tr.region_f (fun _ => false) ?_
          refine W.q rfl rfl rfl rfl (by decide) (Yd.idxR hf_1 hy11 rfl Try.underlying36 SZ23 (.t rfl) (.t rfl)) ?_
          refine W.q rfl rfl rfl rfl (by decide) (Yd.ldF hf_1 (.refl _) hy11 rfl rfl ON23 (.t rfl)) ?_
          refine W.q rfl rfl rfl rfl (by decide) (Yd.as rfl (.t rfl)) ?_
          refine W.end ?_
          refine NX.sub (env' := [(0, _), (19, _), (20, _), (21, _), (6, _)]) ⟨rfl, rfl, rfl, rfl, rfl, trivial⟩ ?_
          refine NX.then ?_
          refine Tr.seq ?_
          obtain ⟨r12, hr13, hr⟩ := bind_some hr
          refine Tr.region_f (fun _ => false) ?_
          refine W.q rfl rfl rfl rfl (by decide) (Yd.mv rfl (.t rfl)) ?_
          refine W.q rfl rfl rfl rfl (by decide) (Yd.mv rfl (.t rfl)) ?_
          refine W.q rfl rfl rfl rfl (by decide) (Yd.call (v := .bool r12) rfl Try.func24 rfl rfl (.cons (.t rfl) (.cons (.t rfl) .nil)) (fun x' hx w hw => syllogistref_Fits_ok w0 x'.m x'.l n_0 y10 _ hr13 w hw)) ?_
          refine W.q rfl rfl rfl rfl (by decide) (Yd.not rfl (.t rfl)) ?_
          refine W.end ?_
          refine NX.sub (env' := [(0, _), (19, _), (20, _), (21, _), (28, _)]) ⟨rfl, rfl, rfl, rfl, rfl, trivial⟩ ?_
          refine NX.then ?_
          refine Tr.cond (.t rfl) (fun hb => ?_) (fun hb => ?_)
          · have hr := cond_t hb hr
            refine Tr.seq ?_
            refine Tr.region_f (fun _ => false) ?_
            refine W.q rfl rfl rfl rfl (by decide) (Yd.as rfl .c) ?_
            refine W.end ?_
            refine NX.sub (env' := [(4, _)]) ⟨rfl, trivial⟩ ?_
            refine NX.then ?_
            refine Tr.ret' (RT.block (RT.then (RT.then (RT.block (RT.then ?_)))))
            refine res1 rfl rfl ?_
            intro w hc
            cases hr
            exact ⟨rfl, hc⟩
          · have hr := cond_f hb hr
            refine Tr.skip' ?_
            refine NX.block ?_
            refine NX.then ?_
            refine Tr.region_f (fun _ => false) ?_
            refine W.q rfl rfl rfl rfl (by decide) (Yd.add rfl (.t rfl) .c) ?_
            refine W.q rfl rfl rfl rfl (by decide) (Yd.mv rfl (.t rfl)) ?_
            refine W.end ?_
            refine NX.sub (env' := [(0, _), (19, _), (20, _), (21, _)]) ⟨rfl, rfl, rfl, rfl, trivial⟩ ?_
            refine NX.sub (env' := [(0, _), (19, _), (20, _), (21, _)]) ⟨rfl, rfl, rfl, rfl, trivial⟩ ?_
            have hw := w64_id (n := t_6 + 1) (by omega) (by omega)
            exact NX.again n9 (t_6 + 1, ()) (Nat.lt_succ_self _) ⟨(by rw [hw] <;> rfl), rfl, (fr_dec hnt_6), (by omega), ((hnx8 _).symm.trans hr)⟩

def syllogistref_Rises_k3 : Option (Bool) :=
  some true

def syllogistref_Rises_k12 (nx8 : (Unit → Option (Bool))) : Option (Bool) :=
  nx8 ()

def syllogistref_Rises_b16 (f_0 : List (BitVec 32)) (a_6 : Int) (b_15 : Int) (nx17 : Unit → Option (Bool)) : Option (Bool) :=
  bif (!(((ior a_6 b_15) == b_15) == true) || (geti f_0 a_6).isSome) then
  bif (!(((ior a_6 b_15) == b_15) == true) || (geti f_0 b_15).isSome) then
  bif (!(((ior a_6 b_15) == b_15) == true) || (syllogistref_In (((geti f_0 a_6).getD (0#32))) (((geti f_0 b_15).getD (0#32)))).isSome) then
  (bif (((ior a_6 b_15) == b_15) && (!(((syllogistref_In (((geti f_0 a_6).getD (0#32))) (((geti f_0 b_15).getD (0#32)))).getD false)))) then
  some false
  else
  nx17 ()) else none else none else none

def syllogistref_Rises_b7 (f_0 : List (BitVec 32)) (a_6 : Int) (nx8 : Unit → Option (Bool)) : Option (Bool) :=
  forK (σ := Unit) (fun i s nx_ => syllogistref_Rises_b16 f_0 a_6 i nx_) (fun _ => syllogistref_Rises_k12 nx8) ((f_0.length : Int) - (0 : Int)).toNat (0 : Int) ()

def syllogistref_Rises (f_0 : List (BitVec 32)) : Option (Bool) :=
  forK (σ := Unit) (fun i s nx_ => syllogistref_Rises_b7 f_0 i nx_) (fun _ => syllogistref_Rises_k3) ((f_0.length : Int) - (0 : Int)).toNat (0 : Int) ()

set_option maxRecDepth 100000 in
theorem syllogistref_Rises_ok (w0 : World) (m : Snap) (l : List HI) (uf_0 : Value) (f_0 : List (BitVec 32)) (hf_0 : RS rU m uf_0 f_0) (r : Bool) (hr : syllogistref_Rises f_0 = some r) (w : World) (hc : cX w0 ⟨m, l⟩ w) :
    Calls Try.prog 29 [uf_0].toArray w fun e w' => e = .returned (.bool r) ∧ cX w0 ⟨m, l⟩ w' := by
  unfold syllogistref_Rises at hr
  refine calls_of_Tr (N := 34) Try.func29 rfl hc rfl (Nat.le_of_ble_eq_true rfl) ?_
  refine Tr.seq ?_
  refine Tr.region_f (fun _ => false) ?_
  refine W.q rfl rfl rfl rfl (by decide) (Yd.as rfl .c) ?_
  refine W.end ?_
  refine NX.sub (env' := [(0, _)]) ⟨rfl, trivial⟩ ?_
  refine NX.then ?_
  refine Tr.seq ?_
  refine Tr.seq ?_
  refine Tr.region_f (fun _ => false) ?_
  refine W.q rfl rfl rfl rfl (by decide) (Yd.as rfl .c) ?_
  refine W.end ?_
  refine NX.sub (env' := [(0, _), (3, _)]) ⟨rfl, rfl, trivial⟩ ?_
  refine NX.then ?_
  refine Tr.join (S := fun env x => env = [] ∧ x = ⟨m, l⟩ ∧ syllogistref_Rises_k3 = some r) ?_ (fun hk4 => ?_)
  · rintro _ _ ⟨rfl, rfl, hr⟩
    unfold syllogistref_Rises_k3 at hr
    try dsimp only at hr
    refine NX.then ?_
    refine Tr.seq ?_
    refine Tr.region_f (fun _ => false) ?_
    refine W.q rfl rfl rfl rfl (by decide) (Yd.as rfl .c) ?_
    refine W.end ?_
    refine NX.sub (env' := [(2, _)]) ⟨rfl, trivial⟩ ?_
    refine NX.then ?_
    refine Tr.ret' ?_
    refine res1 rfl rfl ?_
    intro w hc
    cases hr
    exact ⟨rfl, hc⟩
  have hlen5 := (hf_0).2.1
  refine Tr.block ?_
  refine Tr.sub (env' := [(0, _), (3, _)]) ⟨rfl, rfl, trivial⟩ ?_
  refine Tr.loop (S := fun n (z : Int × Unit) env x => match z with | (a_6, _) => env = [(0, uf_0), (3, .int .i64 a_6)] ∧ x = ⟨m, l⟩ ∧ n = ((f_0.length : Int) - a_6).toNat ∧ 0 ≤ a_6 ∧ forK (σ := Unit) (fun i s nx_ => syllogistref_Rises_b7 f_0 i nx_) (fun _ => syllogistref_Rises_k3) n a_6 () = some r) _ ((0 : Int), ()) ⟨rfl, rfl, rfl, (by omega), hr⟩ ?_
  rintro n9 ⟨a_6, _⟩ env x ⟨rfl, rfl, hna_6, h0a_6, hr⟩
  cases n9 with
  | zero =>
    simp only [forK] at hr
    refine Tr.seq ?_
    refine Tr.seq ?_
    refine Tr.region_f (fun _ => false) ?_
    refine W.q rfl rfl rfl rfl (by decide) (Yd.mv rfl (.t rfl)) ?_
    refine W.q rfl rfl rfl rfl (by decide) (Yd.mv rfl (.t rfl)) ?_
    refine W.q rfl rfl rfl rfl (by decide) (Yd.lenR hf_0 rfl Try.underlying36 (.t rfl)) ?_
    refine W.q rfl rfl rfl rfl (by decide) (Yd.lss rfl (.t rfl) (.t rfl)) ?_
    refine W.end ?_
    refine NX.sub (env' := [(0, _), (3, _), (8, _)]) ⟨rfl, rfl, rfl, trivial⟩ ?_
    refine NX.then ?_
    refine Tr.cond (.t rfl) (fun hb => ?_) (fun hb => ?_)
    · exact absurd (hb.symm.trans (fr_end hna_6)) (by decide)
    ·
      refine Tr.exit' (EX.then (EX.then (EX.block ?_)))
      refine NX.sub (env' := []) trivial ?_
      exact hk4 _ _ ⟨rfl, rfl, hr⟩
  | succ n9 =>
    obtain ⟨nx8, hnx8, hr⟩ := forK_succ hr
    try dsimp only at hr
    unfold syllogistref_Rises_b7 at hr
    try dsimp only at hr
    have hlta_6 := fr_bnd hna_6
    refine Tr.seq ?_
    refine Tr.seq ?_
    refine Tr.region_f (fun _ => false) ?_
    refine W.q rfl rfl rfl rfl (by decide) (Yd.mv rfl (.t rfl)) ?_
    refine W.q rfl rfl rfl rfl (by decide) (Yd.mv rfl (.t rfl)) ?_
    refine W.q rfl rfl rfl rfl (by decide) (Yd.lenR hf_0 rfl Try.underlying36 (.t rfl)) ?_
    refine W.q rfl rfl rfl rfl (by decide) (Yd.lss rfl (.t rfl) (.t rfl)) ?_
    refine W.end ?_
    refine NX.sub (env' := [(0, _), (3, _), (8, _)]) ⟨rfl, rfl, rfl, trivial⟩ ?_
    refine NX.then ?_
    refine Tr.cond (.t rfl) (fun hb => ?_) (fun hb => ?_)
    rotate_left
    · exact absurd (hb.symm.trans (fr_go hna_6)) (by decide)
    ·
      refine Tr.skip' ?_
      refine NX.then ?_
      refine Tr.seq ?_
      refine Tr.block ?_
      refine Tr.seq ?_
      refine Tr.region_f (fun _ => false) ?_
      refine W.q rfl rfl rfl rfl (by decide) (Yd.as rfl .c) ?_
      refine W.end ?_
      refine NX.sub (env' := [(0, _), (3, _), (4, _)]) ⟨rfl, rfl, rfl, trivial⟩ ?_
      refine NX.then ?_
      refine Tr.join (S := fun env x => env = [(0, uf_0), (3, .int .i64 a_6)] ∧ x = ⟨m, l⟩ ∧ syllogistref_Rises_k12 nx8 = some r) ?_ (fun hk13 => ?_)
      · rintro _ _ ⟨rfl, rfl, hr⟩
        unfold syllogistref_Rises_k12 at hr
        try dsimp only at hr
        refine NX.block ?_
        refine NX.then ?_
        refine Tr.region_f (fun _ => false) ?_
        refine W.q rfl rfl rfl rfl (by decide) (Yd.mv rfl (.t rfl)) ?_
        refine W.q rfl rfl rfl rfl (by decide) (Yd.add rfl (.t rfl) .c) ?_
        refine W.q rfl rfl rfl rfl (by decide) (Yd.as rfl (.t rfl)) ?_
        refine W.end ?_
        refine NX.sub (env' := [(0, _), (3, _)]) ⟨rfl, rfl, trivial⟩ ?_
        refine NX.sub (env' := [(0, _), (3, _)]) ⟨rfl, rfl, trivial⟩ ?_
        have hw := w64_id (n := a_6 + 1) (by omega) (by omega)
        exact NX.again n9 (a_6 + 1, ()) (Nat.lt_succ_self _) ⟨(by rw [hw] <;> rfl), rfl, (fr_dec hna_6), (by omega), ((hnx8 _).symm.trans hr)⟩
      have hlen14 := (hf_0).2.1
      refine Tr.block ?_
      refine Tr.sub (env' := [(0, _), (3, _), (4, _)]) ⟨rfl, rfl, rfl, trivial⟩ ?_
      refine Tr.loop (S := fun n (z : Int × Unit) env x => match z with | (b_15, _) => env = [(0, uf_0), (3, .int .i64 a_6), (4, .int .i64 b_15)] ∧ x = ⟨m, l⟩ ∧ n = ((f_0.length : Int) - b_15).toNat ∧ 0 ≤ b_15 ∧ forK (σ := Unit) (fun i s nx_ => syllogistref_Rises_b16 f_0 a_6 i nx_) (fun _ => syllogistref_Rises_k12 nx8) n b_15 () = some r) _ ((0 : Int), ()) ⟨rfl, rfl, rfl, (by omega), hr⟩ ?_
      rintro n18 ⟨b_15, _⟩ env x ⟨rfl, rfl, hnb_15, h0b_15, hr⟩
      cases n18 with
      | zero =>
        simp only [forK] at hr
        refine Tr.seq ?_
        refine Tr.seq ?_
        refine Tr.region_f (fun _ => false) ?_
        refine W.q rfl rfl rfl rfl (by decide) (Yd.mv rfl (.t rfl)) ?_
        refine W.q rfl rfl rfl rfl (by decide) (Yd.mv rfl (.t rfl)) ?_
        refine W.q rfl rfl rfl rfl (by decide) (Yd.lenR hf_0 rfl Try.underlying36 (.t rfl)) ?_
        refine W.q rfl rfl rfl rfl (by decide) (Yd.lss rfl (.t rfl) (.t rfl)) ?_
        refine W.end ?_
        refine NX.sub (env' := [(0, _), (3, _), (4, _), (14, _)]) ⟨rfl, rfl, rfl, rfl, trivial⟩ ?_
        refine NX.then ?_
        refine Tr.cond (.t rfl) (fun hb => ?_) (fun hb => ?_)
        · exact absurd (hb.symm.trans (fr_end hnb_15)) (by decide)
        ·
          refine Tr.exit' (EX.then (EX.then (EX.block ?_)))
          refine NX.sub (env' := [(0, _), (3, _)]) ⟨rfl, rfl, trivial⟩ ?_
          exact hk13 _ _ ⟨rfl, rfl, hr⟩
      | succ n18 =>
        obtain ⟨nx17, hnx17, hr⟩ := forK_succ hr
        try dsimp only at hr
        unfold syllogistref_Rises_b16 at hr
        try dsimp only at hr
        have hltb_15 := fr_bnd hnb_15
        refine Tr.seq ?_
        refine Tr.seq ?_
        refine Tr.region_f (fun _ => false) ?_
        refine W.q rfl rfl rfl rfl (by decide) (Yd.mv rfl (.t rfl)) ?_
        refine W.q rfl rfl rfl rfl (by decide) (Yd.mv rfl (.t rfl)) ?_
        refine W.q rfl rfl rfl rfl (by decide) (Yd.lenR hf_0 rfl Try.underlying36 (.t rfl)) ?_
        refine W.q rfl rfl rfl rfl (by decide) (Yd.lss rfl (.t rfl) (.t rfl)) ?_
        refine W.end ?_
        refine NX.sub (env' := [(0, _), (3, _), (4, _), (14, _)]) ⟨rfl, rfl, rfl, rfl, trivial⟩ ?_
        refine NX.then ?_
        refine Tr.cond (.t rfl) (fun hb => ?_) (fun hb => ?_)
        rotate_left
        · exact absurd (hb.symm.trans (fr_go hnb_15)) (by decide)
        ·
          refine Tr.skip' ?_
          refine NX.then ?_
          refine Tr.seq ?_
          refine Tr.block ?_
          refine Tr.seq ?_
          obtain ⟨ha19, hr⟩ := guard_some hr
          obtain ⟨ha20, hr⟩ := guard_some hr
          obtain ⟨ha21, hr⟩ := guard_some hr
          refine Tr.region_x (fun _ => false) (fun _ => false) [0, 1, 2, 3, 4, 5, 6, 7, 8, 9, 10, 11, 12, 13, 14, 15, 16] FM (by kernel_rfl) ?_
          refine W.q rfl rfl rfl rfl (by decide) (Yd.mv rfl (.t rfl)) ?_
          refine W.q rfl rfl rfl rfl (by decide) (Yd.mv rfl (.t rfl)) ?_
          refine W.q rfl rfl rfl rfl (by decide) (Yd.orI rfl (.t rfl) (.t rfl)) ?_
          refine W.q rfl rfl rfl rfl (by decide) (Yd.mv rfl (.t rfl)) ?_
          refine W.q rfl rfl rfl rfl (by decide) (Yd.eql rfl (.t rfl) (.t rfl)) ?_
          refine W.q rfl rfl rfl rfl (by decide) (Yd.mv rfl (.t rfl)) ?_
          refine W.g rfl rfl rfl rfl rfl (.t rfl _) rfl (by decide) (fun hG => Yd.mv rfl (.t rfl)) ?_
          refine W.g rfl rfl rfl rfl rfl (.t rfl _) rfl (by decide) (fun hG => Yd.mv rfl (.t rfl)) ?_
          refine W.g rfl rfl rfl rfl rfl (.t rfl _) rfl (by decide) (fun hG => Yd.idxR hf_0 (gd_get (d := (0#32)) ha19 hG) rfl Try.underlying36 SZ23 (.g rfl hG) (.g rfl hG)) ?_
          refine W.g rfl rfl rfl rfl rfl (.t rfl _) rfl (by decide) (fun hG => Yd.ldF hf_0 (.refl _) (gd_get (d := (0#32)) ha19 hG) rfl rfl ON23 (.g rfl hG)) ?_
          refine W.g rfl rfl rfl rfl rfl (.t rfl _) rfl (by decide) (fun hG => Yd.mv rfl (.t rfl)) ?_
          refine W.g rfl rfl rfl rfl rfl (.t rfl _) rfl (by decide) (fun hG => Yd.mv rfl (.t rfl)) ?_
          refine W.g rfl rfl rfl rfl rfl (.t rfl _) rfl (by decide) (fun hG => Yd.idxR hf_0 (gd_get (d := (0#32)) ha20 hG) rfl Try.underlying36 SZ23 (.g rfl hG) (.g rfl hG)) ?_
          refine W.g rfl rfl rfl rfl rfl (.t rfl _) rfl (by decide) (fun hG => Yd.ldF hf_0 (.refl _) (gd_get (d := (0#32)) ha20 hG) rfl rfl ON23 (.g rfl hG)) ?_
          refine W.g rfl rfl rfl rfl rfl (.t rfl _) rfl (by decide) (fun hG => Yd.call (v := .bool ((((syllogistref_In (((geti f_0 a_6).getD (0#32))) (((geti f_0 b_15).getD (0#32)))).getD false)))) rfl Try.func16 rfl rfl (.cons (.g rfl hG) (.cons (.g rfl hG) .nil)) (fun x' hx w hw => syllogistref_In_ok w0 x'.m x'.l (((geti f_0 a_6).getD (0#32))) (((geti f_0 b_15).getD (0#32))) _ (gd_get (d := false) ha21 hG) w hw)) ?_
          refine W.g rfl rfl rfl rfl rfl (.t rfl _) rfl (by decide) (fun hG => Yd.not rfl (.g rfl hG)) ?_
          refine W.q rfl rfl rfl rfl (by decide) (Yd.and rfl (.t rfl) .c rfl rfl) ?_
          refine W.end ?_
          refine NX.sub (env' := [(0, _), (3, _), (4, _), (33, _)]) ⟨rfl, rfl, rfl, rfl, trivial⟩ ?_
          refine NX.then ?_
          refine Tr.cond (.t rfl) (fun hb => ?_) (fun hb => ?_)
          · have hr := cond_t hb hr
            refine Tr.seq ?_
            refine Tr.region_f (fun _ => false) ?_
            refine W.q rfl rfl rfl rfl (by decide) (Yd.as rfl .c) ?_
            refine W.end ?_
            refine NX.sub (env' := [(2, _)]) ⟨rfl, trivial⟩ ?_
            refine NX.then ?_
            refine Tr.ret' (RT.block (RT.then (RT.then (RT.block (RT.block (RT.then (RT.then (RT.block (RT.then ?_)))))))))
            refine res1 rfl rfl ?_
            intro w hc
            cases hr
            exact ⟨rfl, hc⟩
          · have hr := cond_f hb hr
            refine Tr.skip' ?_
            refine NX.block ?_
            refine NX.then ?_
            refine Tr.region_f (fun _ => false) ?_
            refine W.q rfl rfl rfl rfl (by decide) (Yd.mv rfl (.t rfl)) ?_
            refine W.q rfl rfl rfl rfl (by decide) (Yd.add rfl (.t rfl) .c) ?_
            refine W.q rfl rfl rfl rfl (by decide) (Yd.as rfl (.t rfl)) ?_
            refine W.end ?_
            refine NX.sub (env' := [(0, _), (3, _), (4, _)]) ⟨rfl, rfl, rfl, trivial⟩ ?_
            refine NX.sub (env' := [(0, _), (3, _), (4, _)]) ⟨rfl, rfl, rfl, trivial⟩ ?_
            have hw := w64_id (n := b_15 + 1) (by omega) (by omega)
            exact NX.again n18 (b_15 + 1, ()) (Nat.lt_succ_self _) ⟨(by rw [hw] <;> rfl), rfl, (fr_dec hnb_15), (by omega), ((hnx17 _).symm.trans hr)⟩
end Go.Proofs.Ytohfiinnkoinlaa.Sy
