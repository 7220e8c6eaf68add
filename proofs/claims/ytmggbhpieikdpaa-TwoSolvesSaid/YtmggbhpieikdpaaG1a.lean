/- Functions of the program as plain functions, and that the translation computes them; the conditions stand in each theorem. Printed by an own program. -/
import Derived.Test.YtmggbhpieikdpaaT
import Derived.Test.YtmggbhpieikdpaaProg
namespace Go.Proofs.Ytmggbhpieikdpaa.Sy
open Go
set_option linter.unusedVariables false
theorem SZ71 : (Try.prog.info? 71).map (·.size) = some 3 := by kernel_rfl
theorem ON71 : one Try.prog 71 = false := by kernel_rfl
theorem US71 : (Try.prog.underlying 71).isSome = true := by kernel_rfl
theorem ZR71 : (Try.prog.info? 71).bind (·.zero) = some (.agg #[.int .i64 0, .int .i64 0, .int .i64 0]) := by kernel_rfl
theorem SZ3 : (Try.prog.info? 3).map (·.size) = some 1 := by kernel_rfl
theorem ON3 : one Try.prog 3 = true := by kernel_rfl
theorem IF3 : (Try.prog.info? 3).map (fun i => (i.zero, i.size, i.bytes)) = some (some (.int .i64 0), 1, 8) := by kernel_rfl
theorem IF4 : (Try.prog.info? 4).map (fun i => (i.zero, i.size, i.bytes)) = some (some (.bool false), 1, 1) := by kernel_rfl
theorem US3 : (Try.prog.underlying 3).isSome = true := by kernel_rfl
theorem SZ4 : (Try.prog.info? 4).map (·.size) = some 1 := by kernel_rfl
theorem ON4 : one Try.prog 4 = true := by kernel_rfl
theorem SZ41 : (Try.prog.info? 41).map (·.size) = some 1 := by kernel_rfl
theorem ON41 : one Try.prog 41 = true := by kernel_rfl
theorem SZ46 : (Try.prog.info? 46).map (·.size) = some 2 := by kernel_rfl
theorem ON46 : one Try.prog 46 = false := by kernel_rfl
theorem US46 : (Try.prog.underlying 46).isSome = true := by kernel_rfl
theorem ZR46 : (Try.prog.info? 46).bind (·.zero) = some (.agg #[.int .u32 0, .int .u32 0]) := by kernel_rfl
def tbl1024256 : List (BitVec 8) := [0#8, 1#8, 1#8, 2#8, 1#8, 2#8, 2#8, 3#8, 1#8, 2#8, 2#8, 3#8, 2#8, 3#8, 3#8, 4#8, 1#8, 2#8, 2#8, 3#8, 2#8, 3#8, 3#8, 4#8, 2#8, 3#8, 3#8, 4#8, 3#8, 4#8, 4#8, 5#8, 1#8, 2#8, 2#8, 3#8, 2#8, 3#8, 3#8, 4#8, 2#8, 3#8, 3#8, 4#8, 3#8, 4#8, 4#8, 5#8, 2#8, 3#8, 3#8, 4#8, 3#8, 4#8, 4#8, 5#8, 3#8, 4#8, 4#8, 5#8, 4#8, 5#8, 5#8, 6#8, 1#8, 2#8, 2#8, 3#8, 2#8, 3#8, 3#8, 4#8, 2#8, 3#8, 3#8, 4#8, 3#8, 4#8, 4#8, 5#8, 2#8, 3#8, 3#8, 4#8, 3#8, 4#8, 4#8, 5#8, 3#8, 4#8, 4#8, 5#8, 4#8, 5#8, 5#8, 6#8, 2#8, 3#8, 3#8, 4#8, 3#8, 4#8, 4#8, 5#8, 3#8, 4#8, 4#8, 5#8, 4#8, 5#8, 5#8, 6#8, 3#8, 4#8, 4#8, 5#8, 4#8, 5#8, 5#8, 6#8, 4#8, 5#8, 5#8, 6#8, 5#8, 6#8, 6#8, 7#8, 1#8, 2#8, 2#8, 3#8, 2#8, 3#8, 3#8, 4#8, 2#8, 3#8, 3#8, 4#8, 3#8, 4#8, 4#8, 5#8, 2#8, 3#8, 3#8, 4#8, 3#8, 4#8, 4#8, 5#8, 3#8, 4#8, 4#8, 5#8, 4#8, 5#8, 5#8, 6#8, 2#8, 3#8, 3#8, 4#8, 3#8, 4#8, 4#8, 5#8, 3#8, 4#8, 4#8, 5#8, 4#8, 5#8, 5#8, 6#8, 3#8, 4#8, 4#8, 5#8, 4#8, 5#8, 5#8, 6#8, 4#8, 5#8, 5#8, 6#8, 5#8, 6#8, 6#8, 7#8, 2#8, 3#8, 3#8, 4#8, 3#8, 4#8, 4#8, 5#8, 3#8, 4#8, 4#8, 5#8, 4#8, 5#8, 5#8, 6#8, 3#8, 4#8, 4#8, 5#8, 4#8, 5#8, 5#8, 6#8, 4#8, 5#8, 5#8, 6#8, 5#8, 6#8, 6#8, 7#8, 3#8, 4#8, 4#8, 5#8, 4#8, 5#8, 5#8, 6#8, 4#8, 5#8, 5#8, 6#8, 5#8, 6#8, 6#8, 7#8, 4#8, 5#8, 5#8, 6#8, 5#8, 6#8, 6#8, 7#8, 5#8, 6#8, 6#8, 7#8, 6#8, 7#8, 7#8, 8#8]
theorem US5 : (Try.prog.underlying 5).isSome = true := by kernel_rfl
theorem US41 : (Try.prog.underlying 41).isSome = true := by kernel_rfl
def tbl1793256 : List (BitVec 8) := [0#8, 1#8, 2#8, 2#8, 3#8, 3#8, 3#8, 3#8, 4#8, 4#8, 4#8, 4#8, 4#8, 4#8, 4#8, 4#8, 5#8, 5#8, 5#8, 5#8, 5#8, 5#8, 5#8, 5#8, 5#8, 5#8, 5#8, 5#8, 5#8, 5#8, 5#8, 5#8, 6#8, 6#8, 6#8, 6#8, 6#8, 6#8, 6#8, 6#8, 6#8, 6#8, 6#8, 6#8, 6#8, 6#8, 6#8, 6#8, 6#8, 6#8, 6#8, 6#8, 6#8, 6#8, 6#8, 6#8, 6#8, 6#8, 6#8, 6#8, 6#8, 6#8, 6#8, 6#8, 7#8, 7#8, 7#8, 7#8, 7#8, 7#8, 7#8, 7#8, 7#8, 7#8, 7#8, 7#8, 7#8, 7#8, 7#8, 7#8, 7#8, 7#8, 7#8, 7#8, 7#8, 7#8, 7#8, 7#8, 7#8, 7#8, 7#8, 7#8, 7#8, 7#8, 7#8, 7#8, 7#8, 7#8, 7#8, 7#8, 7#8, 7#8, 7#8, 7#8, 7#8, 7#8, 7#8, 7#8, 7#8, 7#8, 7#8, 7#8, 7#8, 7#8, 7#8, 7#8, 7#8, 7#8, 7#8, 7#8, 7#8, 7#8, 7#8, 7#8, 7#8, 7#8, 7#8, 7#8, 8#8, 8#8, 8#8, 8#8, 8#8, 8#8, 8#8, 8#8, 8#8, 8#8, 8#8, 8#8, 8#8, 8#8, 8#8, 8#8, 8#8, 8#8, 8#8, 8#8, 8#8, 8#8, 8#8, 8#8, 8#8, 8#8, 8#8, 8#8, 8#8, 8#8, 8#8, 8#8, 8#8, 8#8, 8#8, 8#8, 8#8, 8#8, 8#8, 8#8, 8#8, 8#8, 8#8, 8#8, 8#8, 8#8, 8#8, 8#8, 8#8, 8#8, 8#8, 8#8, 8#8, 8#8, 8#8, 8#8, 8#8, 8#8, 8#8, 8#8, 8#8, 8#8, 8#8, 8#8, 8#8, 8#8, 8#8, 8#8, 8#8, 8#8, 8#8, 8#8, 8#8, 8#8, 8#8, 8#8, 8#8, 8#8, 8#8, 8#8, 8#8, 8#8, 8#8, 8#8, 8#8, 8#8, 8#8, 8#8, 8#8, 8#8, 8#8, 8#8, 8#8, 8#8, 8#8, 8#8, 8#8, 8#8, 8#8, 8#8, 8#8, 8#8, 8#8, 8#8, 8#8, 8#8, 8#8, 8#8, 8#8, 8#8, 8#8, 8#8, 8#8, 8#8, 8#8, 8#8, 8#8, 8#8, 8#8, 8#8, 8#8, 8#8, 8#8, 8#8, 8#8, 8#8, 8#8, 8#8]
theorem IF41 : (Try.prog.info? 41).map (fun i => (i.zero, i.size, i.bytes)) = some (some (.int .u32 0), 1, 4) := by kernel_rfl
theorem FM : Try.prog.follows .mixedOrders = true := by kernel_rfl

def choice_wrong_k3 (l_1 : List Branch) (root_2 : Int) : Option (Int) :=
  (bif ((decide (root_2 < (0 : Int))) || (decide (root_2 > (w64 ((l_1.length : Int) + (1 : Int)))))) then
  some ((2 : Int))
  else
  some ((0 : Int)))

def choice_wrong_k18 (nx8 : (Unit → Option (Int))) : Option (Int) :=
  nx8 ()

def choice_wrong_b22 (l_1 : List Branch) (t_6 : Int) (y10 : Branch) (t_21 : Int) (nx23 : Unit → Option (Int)) : Option (Int) :=
  (geti (([y10.low, y10.high] : List Int)) t_21).bind fun y25 =>
  bif (!((((decide (y25 < (0 : Int))) || (decide (y25 > (w64 (t_6 + (1 : Int)))))) == false) && ((decide (y25 > (1 : Int))) == true)) || (geti l_1 ((w64 (y25 - (2 : Int))))).isSome) then
  (bif (((decide (y25 < (0 : Int))) || (decide (y25 > (w64 (t_6 + (1 : Int)))))) || ((decide (y25 > (1 : Int))) && (decide ((((geti l_1 ((w64 (y25 - (2 : Int))))).getD ({ var := (0 : Int), low := (0 : Int), high := (0 : Int) } : Branch))).var ≤ y10.var)))) then
  some ((3 : Int))
  else
  nx23 ()) else none

def choice_wrong_b7 (n_0 : Int) (l_1 : List Branch) (t_6 : Int) (nx8 : Unit → Option (Int)) : Option (Int) :=
  (geti l_1 t_6).bind fun y10 =>
  (bif ((decide (y10.var < (0 : Int))) || (decide (y10.var ≥ n_0))) then
  some ((4 : Int))
  else
  forK (σ := Unit) (fun i s nx_ => choice_wrong_b22 l_1 t_6 y10 i nx_) (fun _ => choice_wrong_k18 nx8) (((([y10.low, y10.high] : List Int)).length : Int) - (0 : Int)).toNat (0 : Int) ())

def choice_wrong (n_0 : Int) (l_1 : List Branch) (root_2 : Int) : Option (Int) :=
  forK (σ := Unit) (fun i s nx_ => choice_wrong_b7 n_0 l_1 i nx_) (fun _ => choice_wrong_k3 l_1 root_2) ((l_1.length : Int) - (0 : Int)).toNat (0 : Int) ()

set_option maxRecDepth 100000 in
theorem choice_wrong_ok (w0 : World) (m : Snap) (l : List HI) (n_0 : Int) (ul_1 : Value) (l_1 : List Branch) (hl_1 : RS rBranch m ul_1 l_1) (root_2 : Int) (r : Int) (hr : choice_wrong n_0 l_1 root_2 = some r) (w : World) (hc : cX w0 ⟨m, l⟩ w) :
    Calls Try.prog 35 [.int .i64 n_0, ul_1, .int .i64 root_2].toArray w fun e w' => e = .returned (.int .i64 r) ∧ cX w0 ⟨m, l⟩ w' := by
  unfold choice_wrong at hr
  refine calls_of_Tr (N := 71) Try.func35 rfl hc rfl (Nat.le_of_ble_eq_true rfl) ?_
  refine Tr.seq ?_
  refine Tr.region_f (fun _ => false) ?_
  refine W.q rfl rfl rfl rfl (by decide) (Yd.as rfl .c) ?_
  refine W.end ?_
  refine NX.sub (env' := [(0, _), (1, _), (2, _)]) ⟨rfl, rfl, rfl, trivial⟩ ?_
  refine NX.then ?_
  refine Tr.seq ?_
  refine Tr.seq ?_
  refine Tr.region_f (fun _ => false) ?_
  refine W.q rfl rfl rfl rfl (by decide) (Yd.mv rfl (.t rfl)) ?_
  refine W.q rfl rfl rfl rfl (by decide) (Yd.lenR hl_1 rfl Try.underlying22 (.t rfl)) ?_
  refine W.q rfl rfl rfl rfl (by decide) (Yd.mv rfl .c) ?_
  refine W.end ?_
  refine NX.sub (env' := [(0, _), (1, _), (2, _), (11, _), (12, _), (13, _)]) ⟨rfl, rfl, rfl, rfl, rfl, rfl, trivial⟩ ?_
  refine NX.then ?_
  refine Tr.join (S := fun env x => env = [(1, ul_1), (2, .int .i64 root_2)] ∧ x = ⟨m, l⟩ ∧ choice_wrong_k3 l_1 root_2 = some r) ?_ (fun hk4 => ?_)
  · rintro _ _ ⟨rfl, rfl, hr⟩
    unfold choice_wrong_k3 at hr
    try dsimp only at hr
    refine NX.then ?_
    refine Tr.seq ?_
    refine Tr.seq ?_
    refine Tr.region_f (fun _ => false) ?_
    refine W.q rfl rfl rfl rfl (by decide) (Yd.mv rfl (.t rfl)) ?_
    refine W.q rfl rfl rfl rfl (by decide) (Yd.lss rfl (.t rfl) .c) ?_
    refine W.q rfl rfl rfl rfl (by decide) (Yd.mv rfl (.t rfl)) ?_
    refine W.g rfl rfl rfl rfl rfl (.t rfl _) rfl (by decide) (fun hG => Yd.mv rfl (.t rfl)) ?_
    refine W.g rfl rfl rfl rfl rfl (.t rfl _) rfl (by decide) (fun hG => Yd.mv rfl (.t rfl)) ?_
    refine W.g rfl rfl rfl rfl rfl (.t rfl _) rfl (by decide) (fun hG => Yd.lenR hl_1 rfl Try.underlying22 (.g rfl hG)) ?_
    refine W.g rfl rfl rfl rfl rfl (.t rfl _) rfl (by decide) (fun hG => Yd.add rfl (.g rfl hG) .c) ?_
    refine W.g rfl rfl rfl rfl rfl (.t rfl _) rfl (by decide) (fun hG => Yd.gtr rfl (.g rfl hG) (.g rfl hG)) ?_
    refine W.q rfl rfl rfl rfl (by decide) (Yd.or rfl (.t rfl) .c rfl rfl) ?_
    refine W.end ?_
    refine NX.sub (env' := [(70, _)]) ⟨rfl, trivial⟩ ?_
    refine NX.then ?_
    refine Tr.cond (.t rfl) (fun hb => ?_) (fun hb => ?_)
    · have hr := cond_t hb hr
      refine Tr.seq ?_
      refine Tr.region_f (fun _ => false) ?_
      refine W.q rfl rfl rfl rfl (by decide) (Yd.as rfl .c) ?_
      refine W.end ?_
      refine NX.sub (env' := [(6, _)]) ⟨rfl, trivial⟩ ?_
      refine NX.then ?_
      refine Tr.ret' (RT.then ?_)
      refine res1 rfl rfl ?_
      intro w hc
      cases hr
      exact ⟨rfl, hc⟩
    · have hr := cond_f hb hr
      refine Tr.skip' ?_
      refine NX.then ?_
      refine Tr.seq ?_
      refine Tr.region_f (fun _ => false) ?_
      refine W.q rfl rfl rfl rfl (by decide) (Yd.as rfl .c) ?_
      refine W.end ?_
      refine NX.sub (env' := [(6, _)]) ⟨rfl, trivial⟩ ?_
      refine NX.then ?_
      refine Tr.ret' ?_
      refine res1 rfl rfl ?_
      intro w hc
      cases hr
      exact ⟨rfl, hc⟩
  have hlen5 := (hl_1).2.1
  refine Tr.block ?_
  refine Tr.sub (env' := [(0, _), (1, _), (2, _), (11, _), (12, _), (13, _)]) ⟨rfl, rfl, rfl, rfl, rfl, rfl, trivial⟩ ?_
  refine Tr.loop (S := fun n (z : Int × Unit) env x => match z with | (t_6, _) => env = [(0, .int .i64 n_0), (1, ul_1), (2, .int .i64 root_2), (11, ul_1), (12, .int .i64 ((l_1.length : Int))), (13, .int .i64 t_6)] ∧ x = ⟨m, l⟩ ∧ n = ((l_1.length : Int) - t_6).toNat ∧ 0 ≤ t_6 ∧ forK (σ := Unit) (fun i s nx_ => choice_wrong_b7 n_0 l_1 i nx_) (fun _ => choice_wrong_k3 l_1 root_2) n t_6 () = some r) _ ((0 : Int), ()) ⟨rfl, rfl, rfl, (by omega), hr⟩ ?_
  rintro n9 ⟨t_6, _⟩ env x ⟨rfl, rfl, hnt_6, h0t_6, hr⟩
  cases n9 with
  | zero =>
    simp only [forK] at hr
    refine Tr.seq ?_
    refine Tr.region_f (fun _ => false) ?_
    refine W.q rfl rfl rfl rfl (by decide) (Yd.lss rfl (.t rfl) (.t rfl)) ?_
    refine W.end ?_
    refine NX.sub (env' := [(0, _), (1, _), (2, _), (11, _), (12, _), (13, _), (14, _)]) ⟨rfl, rfl, rfl, rfl, rfl, rfl, rfl, trivial⟩ ?_
    refine NX.then ?_
    refine Tr.seq ?_
    refine Tr.cond (.t rfl) (fun hb => ?_) (fun hb => ?_)
    · exact absurd (hb.symm.trans (fr_end hnt_6)) (by decide)
    ·
      refine Tr.exit' (EX.then (EX.then (EX.block ?_)))
      refine NX.sub (env' := [(1, _), (2, _)]) ⟨rfl, rfl, trivial⟩ ?_
      exact hk4 _ _ ⟨rfl, rfl, hr⟩
  | succ n9 =>
    obtain ⟨nx8, hnx8, hr⟩ := forK_succ hr
    try dsimp only at hr
    unfold choice_wrong_b7 at hr
    try dsimp only at hr
    have hltt_6 := fr_bnd hnt_6
    refine Tr.seq ?_
    refine Tr.region_f (fun _ => false) ?_
    refine W.q rfl rfl rfl rfl (by decide) (Yd.lss rfl (.t rfl) (.t rfl)) ?_
    refine W.end ?_
    refine NX.sub (env' := [(0, _), (1, _), (2, _), (11, _), (12, _), (13, _), (14, _)]) ⟨rfl, rfl, rfl, rfl, rfl, rfl, rfl, trivial⟩ ?_
    refine NX.then ?_
    refine Tr.seq ?_
    refine Tr.cond (.t rfl) (fun hb => ?_) (fun hb => ?_)
    rotate_left
    · exact absurd (hb.symm.trans (fr_go hnt_6)) (by decide)
    ·
      refine Tr.skip' ?_
      refine NX.then ?_
      refine Tr.seq ?_
      refine Tr.block ?_
      refine Tr.seq ?_
      obtain ⟨y10, hy11, hr⟩ := bind_some hr
      refine Tr.region_f (fun i => Nat.beq i 3 || Nat.beq i 5) ?_
      refine W.q rfl rfl rfl rfl (by decide) (Yd.mv rfl (.t rfl)) ?_
      refine W.q rfl rfl rfl rfl (by decide) (Yd.idxR hl_1 hy11 rfl Try.underlying22 SZ71 (.t rfl) (.t rfl)) ?_
      refine W.q rfl rfl rfl rfl (by decide) (Yd.ldFs (us := [_, _, _]) hl_1 (.refl _) hy11 rfl rfl ON71 US71 SZ71 (.t rfl)) ?_
      refine W.e rfl rfl rfl rfl (by decide) (Ef.al rfl ZR71 rfl) ?_
      rintro _ _ ⟨b12, rfl, rfl⟩
      refine ⟨.inl rfl, ?_⟩
      refine W.cast (m' := m) (l' := hcells b12 [_, _, _] 71 :: l) rfl rfl ?_
      refine W.q rfl rfl rfl rfl (by decide) (Yd.as rfl (.t rfl)) ?_
      refine W.s rfl rfl rfl rfl (Ef.stB (pos := 0) (us := [_, _, _]) (cs' := [_, _, _]) rfl rfl (.t rfl) (.t rfl) SZ71 rfl rfl rfl (Nat.le_of_ble_eq_true rfl) rfl) ?_
      rintro _ _ ⟨rfl, rfl⟩
      refine ⟨.inl rfl, ?_⟩
      refine W.cast (m' := m) (l' := hcells b12 [_, _, _] 71 :: l) rfl rfl ?_
      refine W.end ?_
      refine NX.sub (env' := [(0, _), (1, _), (2, _), (11, _), (12, _), (13, _), (8, _), (7, _)]) ⟨rfl, rfl, rfl, rfl, rfl, rfl, rfl, rfl, trivial⟩ ?_
      refine NX.then ?_
      refine Tr.seq ?_
      refine Tr.seq ?_
      refine Tr.region_f (fun _ => false) ?_
      refine W.q rfl rfl rfl rfl (by decide) (Yd.fldB rfl Try.underlying71 rfl SZ3 rfl (.t rfl)) ?_
      refine W.q rfl rfl rfl rfl (by decide) (Yd.ldB (pos := 0) rfl rfl rfl ON3 (.t rfl)) ?_
      refine W.q rfl rfl rfl rfl (by decide) (Yd.lss rfl (.t rfl) .c) ?_
      refine W.q rfl rfl rfl rfl (by decide) (Yd.mv rfl (.t rfl)) ?_
      refine W.g rfl rfl rfl rfl rfl (.t rfl _) rfl (by decide) (fun hG => Yd.fldB rfl Try.underlying71 rfl SZ3 rfl (.t rfl)) ?_
      refine W.g rfl rfl rfl rfl rfl (.t rfl _) rfl (by decide) (fun hG => Yd.ldB (pos := 0) rfl rfl rfl ON3 (.g rfl hG)) ?_
      refine W.g rfl rfl rfl rfl rfl (.t rfl _) rfl (by decide) (fun hG => Yd.mv rfl (.t rfl)) ?_
      refine W.g rfl rfl rfl rfl rfl (.t rfl _) rfl (by decide) (fun hG => Yd.geq rfl (.g rfl hG) (.g rfl hG)) ?_
      refine W.q rfl rfl rfl rfl (by decide) (Yd.or rfl (.t rfl) .c rfl rfl) ?_
      refine W.end ?_
      refine NX.sub (env' := [(0, _), (1, _), (2, _), (11, _), (12, _), (13, _), (8, _), (7, _), (26, _)]) ⟨rfl, rfl, rfl, rfl, rfl, rfl, rfl, rfl, rfl, trivial⟩ ?_
      refine NX.then ?_
      refine Tr.cond (.t rfl) (fun hb => ?_) (fun hb => ?_)
      · have hr := cond_t hb hr
        refine Tr.seq ?_
        refine Tr.region_f (fun _ => false) ?_
        refine W.q rfl rfl rfl rfl (by decide) (Yd.as rfl .c) ?_
        refine W.end ?_
        refine NX.sub (env' := [(6, _)]) ⟨rfl, trivial⟩ ?_
        refine NX.drop (l' := l) (.cons _ (.refl _)) ?_
        refine NX.then ?_
        refine Tr.ret' (RT.then (RT.block (RT.then (RT.then (RT.block (RT.then ?_))))))
        refine res1 rfl rfl ?_
        intro w hc
        cases hr
        exact ⟨rfl, hc⟩
      · have hr := cond_f hb hr
        refine Tr.skip' ?_
        refine NX.then ?_
        refine Tr.seq ?_
        refine Tr.region_f (fun i => Nat.beq i 4) ?_
        refine W.q rfl rfl rfl rfl (by decide) (Yd.fldB rfl Try.underlying71 rfl SZ3 rfl (.t rfl)) ?_
        refine W.q rfl rfl rfl rfl (by decide) (Yd.ldB (pos := 0) rfl rfl rfl ON3 (.t rfl)) ?_
        refine W.q rfl rfl rfl rfl (by decide) (Yd.fldB rfl Try.underlying71 rfl SZ3 rfl (.t rfl)) ?_
        refine W.q rfl rfl rfl rfl (by decide) (Yd.ldB (pos := 0) rfl rfl rfl ON3 (.t rfl)) ?_
        refine W.e rfl rfl rfl rfl (by decide) (Ef.bsT (enc := encI) (vs := [_, _]) (ys := [y10.low, y10.high]) (fun _ => rfl) IF3 rfl Try.underlying90 (by decide) rfl (.cons (.t rfl) (.cons (.t rfl) .nil)) rfl rfl (by decide)) ?_
        rintro v14 _ rfl
        refine ⟨.inl rfl, ?_⟩
        refine W.cast (m' := m) (l' := hownT 3 1 encI v14 _ :: hcells b12 [_, _, _] 71 :: l) rfl rfl ?_
        refine W.q rfl rfl rfl rfl (by decide) (Yd.lenO (p := 0) rfl rfl Try.underlying90 (.t rfl)) ?_
        refine W.q rfl rfl rfl rfl (by decide) (Yd.mv rfl .c) ?_
        refine W.end ?_
        refine NX.sub (env' := [(0, _), (1, _), (2, _), (11, _), (12, _), (13, _), (8, _), (7, _), (31, _), (32, _), (33, _)]) ⟨rfl, rfl, rfl, rfl, rfl, rfl, rfl, rfl, rfl, rfl, rfl, trivial⟩ ?_
        refine NX.then ?_
        refine Tr.join (S := fun env x => env = [(0, .int .i64 n_0), (1, ul_1), (2, .int .i64 root_2), (11, ul_1), (12, .int .i64 ((l_1.length : Int))), (13, .int .i64 t_6)] ∧ x = ⟨m, l⟩ ∧ choice_wrong_k18 nx8 = some r) ?_ (fun hk19 => ?_)
        · rintro _ _ ⟨rfl, rfl, hr⟩
          unfold choice_wrong_k18 at hr
          try dsimp only at hr
          refine NX.block ?_
          refine NX.then ?_
          refine Tr.region_f (fun _ => false) ?_
          refine W.q rfl rfl rfl rfl (by decide) (Yd.add rfl (.t rfl) .c) ?_
          refine W.q rfl rfl rfl rfl (by decide) (Yd.mv rfl (.t rfl)) ?_
          refine W.end ?_
          refine NX.sub (env' := [(0, _), (1, _), (2, _), (11, _), (12, _), (13, _)]) ⟨rfl, rfl, rfl, rfl, rfl, rfl, trivial⟩ ?_
          refine NX.sub (env' := [(0, _), (1, _), (2, _), (11, _), (12, _), (13, _)]) ⟨rfl, rfl, rfl, rfl, rfl, rfl, trivial⟩ ?_
          have hw := w64_id (n := t_6 + 1) (by omega) (by omega)
          exact NX.again n9 (t_6 + 1, ()) (Nat.lt_succ_self _) ⟨(by rw [hw] <;> rfl), rfl, (fr_dec hnt_6), (by omega), ((hnx8 _).symm.trans hr)⟩
        refine Tr.lenO (pos := 0) rfl (fun hlen20 => ?_)
        refine Tr.block ?_
        refine Tr.sub (env' := [(0, _), (1, _), (2, _), (7, _), (8, _), (11, _), (12, _), (13, _), (31, _), (32, _), (33, _)]) ⟨rfl, rfl, rfl, rfl, rfl, rfl, rfl, rfl, rfl, rfl, rfl, trivial⟩ ?_
        refine Tr.loop (S := fun n (z : Int × Unit) env x => match z with | (t_21, _) => env = [(0, .int .i64 n_0), (1, ul_1), (2, .int .i64 root_2), (7, .int .i64 t_6), (8, bp b12 0), (11, ul_1), (12, .int .i64 ((l_1.length : Int))), (13, .int .i64 t_6), (31, v14), (32, .int .i64 (((([y10.low, y10.high] : List Int)).length : Int))), (33, .int .i64 t_21)] ∧ x = ⟨m, hownT 3 1 encI v14 (([y10.low, y10.high] : List Int)) :: hcells b12 [.int .i64 y10.var, .int .i64 y10.low, .int .i64 y10.high] 71 :: l⟩ ∧ n = (((([y10.low, y10.high] : List Int)).length : Int) - t_21).toNat ∧ 0 ≤ t_21 ∧ forK (σ := Unit) (fun i s nx_ => choice_wrong_b22 l_1 t_6 y10 i nx_) (fun _ => choice_wrong_k18 nx8) n t_21 () = some r) _ ((0 : Int), ()) ⟨rfl, rfl, rfl, (by omega), hr⟩ ?_
        rintro n24 ⟨t_21, _⟩ env x ⟨rfl, rfl, hnt_21, h0t_21, hr⟩
        cases n24 with
        | zero =>
          simp only [forK] at hr
          refine Tr.seq ?_
          refine Tr.region_f (fun _ => false) ?_
          refine W.q rfl rfl rfl rfl (by decide) (Yd.lss rfl (.t rfl) (.t rfl)) ?_
          refine W.end ?_
          refine NX.sub (env' := [(0, _), (1, _), (2, _), (7, _), (8, _), (11, _), (12, _), (13, _), (31, _), (32, _), (33, _), (34, _)]) ⟨rfl, rfl, rfl, rfl, rfl, rfl, rfl, rfl, rfl, rfl, rfl, rfl, trivial⟩ ?_
          refine NX.then ?_
          refine Tr.seq ?_
          refine Tr.cond (.t rfl) (fun hb => ?_) (fun hb => ?_)
          · exact absurd (hb.symm.trans (fr_end hnt_21)) (by decide)
          ·
            refine Tr.exit' (EX.then (EX.then (EX.block ?_)))
            refine NX.sub (env' := [(0, _), (1, _), (2, _), (11, _), (12, _), (13, _)]) ⟨rfl, rfl, rfl, rfl, rfl, rfl, trivial⟩ ?_
            refine NX.drop (l' := l) (.cons _ (.cons _ (.refl _))) ?_
            exact hk19 _ _ ⟨rfl, rfl, hr⟩
        | succ n24 =>
          obtain ⟨nx23, hnx23, hr⟩ := forK_succ hr
          try dsimp only at hr
          unfold choice_wrong_b22 at hr
          try dsimp only at hr
          have hltt_21 := fr_bnd hnt_21
          refine Tr.seq ?_
          refine Tr.region_f (fun _ => false) ?_
          refine W.q rfl rfl rfl rfl (by decide) (Yd.lss rfl (.t rfl) (.t rfl)) ?_
          refine W.end ?_
          refine NX.sub (env' := [(0, _), (1, _), (2, _), (7, _), (8, _), (11, _), (12, _), (13, _), (31, _), (32, _), (33, _), (34, _)]) ⟨rfl, rfl, rfl, rfl, rfl, rfl, rfl, rfl, rfl, rfl, rfl, rfl, trivial⟩ ?_
          refine NX.then ?_
          refine Tr.seq ?_
          refine Tr.cond (.t rfl) (fun hb => ?_) (fun hb => ?_)
          rotate_left
          · exact absurd (hb.symm.trans (fr_go hnt_21)) (by decide)
          ·
            refine Tr.skip' ?_
            refine NX.then ?_
            refine Tr.seq ?_
            refine Tr.block ?_
            refine Tr.seq ?_
            obtain ⟨y25, hy26, hr⟩ := bind_some hr
            refine Tr.region_f (fun _ => false) ?_
            refine W.q rfl rfl rfl rfl (by decide) (Yd.idxT (pos := 0) rfl hy26 rfl Try.underlying90 SZ3 (.t rfl) (.t rfl)) ?_
            refine W.q rfl rfl rfl rfl (by decide) (Yd.ldT (enc := encI) (n := 1) (pos := 0) (fun _ => rfl) rfl hy26 rfl rfl ON3 (.t rfl)) ?_
            refine W.q rfl rfl rfl rfl (by decide) (Yd.as rfl (.t rfl)) ?_
            refine W.end ?_
            refine NX.sub (env' := [(0, _), (1, _), (2, _), (7, _), (8, _), (11, _), (12, _), (13, _), (31, _), (32, _), (33, _), (10, _)]) ⟨rfl, rfl, rfl, rfl, rfl, rfl, rfl, rfl, rfl, rfl, rfl, rfl, trivial⟩ ?_
            refine NX.then ?_
            refine Tr.seq ?_
            obtain ⟨ha27, hr⟩ := guard_some hr
            refine Tr.region_x (fun _ => false) (fun _ => false) (Ord.of [0, 1, 2, 3, 4, 5, 6, 7, 8, 9, 10, 11, 12, 13, 14, 15, 16, 17, 18, 19, 20, 21, 22]) FM (by kernel_rfl) ?_
            refine W.q rfl rfl rfl rfl (by decide) (Yd.mv rfl (.t rfl)) ?_
            refine W.q rfl rfl rfl rfl (by decide) (Yd.lss rfl (.t rfl) .c) ?_
            refine W.q rfl rfl rfl rfl (by decide) (Yd.mv rfl (.t rfl)) ?_
            refine W.g rfl rfl rfl rfl rfl (.t rfl _) rfl (by decide) (fun hG => Yd.mv rfl (.t rfl)) ?_
            refine W.g rfl rfl rfl rfl rfl (.t rfl _) rfl (by decide) (fun hG => Yd.mv rfl (.t rfl)) ?_
            refine W.g rfl rfl rfl rfl rfl (.t rfl _) rfl (by decide) (fun hG => Yd.add rfl (.g rfl hG) .c) ?_
            refine W.g rfl rfl rfl rfl rfl (.t rfl _) rfl (by decide) (fun hG => Yd.gtr rfl (.g rfl hG) (.g rfl hG)) ?_
            refine W.q rfl rfl rfl rfl (by decide) (Yd.or rfl (.t rfl) .c rfl rfl) ?_
            refine W.q rfl rfl rfl rfl (by decide) (Yd.mv rfl (.t rfl)) ?_
            refine W.g rfl rfl rfl rfl rfl (.t rfl _) rfl (by decide) (fun hG => Yd.mv rfl (.t rfl)) ?_
            refine W.g rfl rfl rfl rfl rfl (.t rfl _) rfl (by decide) (fun hG => Yd.gtr rfl (.g rfl hG) .c) ?_
            refine W.g rfl rfl rfl rfl rfl (.t rfl _) rfl (by decide) (fun hG => Yd.mv rfl (.g rfl hG)) ?_
            refine W.g rfl rfl rfl rfl rfl (.g rfl _) rfl (by decide) (fun hG => Yd.mv rfl (.t rfl)) ?_
            refine W.g rfl rfl rfl rfl rfl (.g rfl _) rfl (by decide) (fun hG => Yd.mv rfl (.t rfl)) ?_
            refine W.g rfl rfl rfl rfl rfl (.g rfl _) rfl (by decide) (fun hG => Yd.sub rfl (.g rfl hG) .c) ?_
            refine W.g rfl rfl rfl rfl rfl (.g rfl _) rfl (by decide) (fun hG => Yd.idxR hl_1 (gd_get (d := ({ var := (0 : Int), low := (0 : Int), high := (0 : Int) } : Branch)) ha27 hG) rfl Try.underlying22 SZ71 (.g rfl hG) (.g rfl hG)) ?_
            refine W.g rfl rfl rfl rfl rfl (.g rfl _) rfl (by decide) (fun hG => Yd.fldA rfl Try.underlying71 rfl SZ3 rfl (adr_head hl_1 (gd_get (d := ({ var := (0 : Int), low := (0 : Int), high := (0 : Int) } : Branch)) ha27 hG)) (.g rfl hG)) ?_
            refine W.g rfl rfl rfl rfl rfl (.g rfl _) rfl (by decide) (fun hG => Yd.ldFf hl_1 (.refl _) (gd_get (d := ({ var := (0 : Int), low := (0 : Int), high := (0 : Int) } : Branch)) ha27 hG) rfl rfl ON3 (.g rfl hG)) ?_
            refine W.g rfl rfl rfl rfl rfl (.g rfl _) rfl (by decide) (fun hG => Yd.fldB rfl Try.underlying71 rfl SZ3 rfl (.t rfl)) ?_
            refine W.g rfl rfl rfl rfl rfl (.g rfl _) rfl (by decide) (fun hG => Yd.ldB (pos := 1) rfl rfl rfl ON3 (.g rfl hG)) ?_
            refine W.g rfl rfl rfl rfl rfl (.g rfl _) rfl (by decide) (fun hG => Yd.leq rfl (.g rfl hG) (.g rfl hG)) ?_
            refine W.g rfl rfl rfl rfl rfl (.t rfl _) rfl (by decide) (fun hG => Yd.andG rfl (.g rfl hG) .c rfl rfl hG) ?_
            refine W.q rfl rfl rfl rfl (by decide) (Yd.or rfl (.t rfl) .c rfl rfl) ?_
            refine W.end ?_
            refine NX.sub (env' := [(0, _), (1, _), (2, _), (7, _), (8, _), (11, _), (12, _), (13, _), (31, _), (32, _), (33, _), (59, _)]) ⟨rfl, rfl, rfl, rfl, rfl, rfl, rfl, rfl, rfl, rfl, rfl, rfl, trivial⟩ ?_
            refine NX.then ?_
            refine Tr.cond (.t rfl) (fun hb => ?_) (fun hb => ?_)
            · have hr := cond_t hb hr
              refine Tr.seq ?_
              refine Tr.region_f (fun _ => false) ?_
              refine W.q rfl rfl rfl rfl (by decide) (Yd.as rfl .c) ?_
              refine W.end ?_
              refine NX.sub (env' := [(6, _)]) ⟨rfl, trivial⟩ ?_
              refine NX.drop (l' := l) (.cons _ (.cons _ (.refl _))) ?_
              refine NX.then ?_
              refine Tr.ret' (RT.block (RT.then (RT.then (RT.block (RT.block (RT.then (RT.then (RT.block (RT.then ?_)))))))))
              refine res1 rfl rfl ?_
              intro w hc
              cases hr
              exact ⟨rfl, hc⟩
            · have hr := cond_f hb hr
              refine Tr.skip' ?_
              refine NX.block ?_
              refine NX.then ?_
              refine Tr.region_f (fun _ => false) ?_
              refine W.q rfl rfl rfl rfl (by decide) (Yd.add rfl (.t rfl) .c) ?_
              refine W.q rfl rfl rfl rfl (by decide) (Yd.mv rfl (.t rfl)) ?_
              refine W.end ?_
              refine NX.sub (env' := [(0, _), (1, _), (2, _), (7, _), (8, _), (11, _), (12, _), (13, _), (31, _), (32, _), (33, _)]) ⟨rfl, rfl, rfl, rfl, rfl, rfl, rfl, rfl, rfl, rfl, rfl, trivial⟩ ?_
              refine NX.sub (env' := [(0, _), (1, _), (2, _), (7, _), (8, _), (11, _), (12, _), (13, _), (31, _), (32, _), (33, _)]) ⟨rfl, rfl, rfl, rfl, rfl, rfl, rfl, rfl, rfl, rfl, rfl, trivial⟩ ?_
              have hw := w64_id (n := t_21 + 1) (by omega) (by omega)
              exact NX.again n24 (t_21 + 1, ()) (Nat.lt_succ_self _) ⟨(by rw [hw] <;> rfl), rfl, (fr_dec hnt_21), (by omega), ((hnx23 _).symm.trans hr)⟩

def choice_tell_k4 (k_3 : Int) : Option (Bool) :=
  some ((k_3 == (1 : Int)))

def choice_tell_b6 (l_0 : List Branch) (s_2 : Int) (k_2 : Int) (nx7 : Int → Option (Bool)) : Option (Bool) :=
  (bif (decide (k_2 > (1 : Int))) then
  (geti l_0 ((w64 (k_2 - (2 : Int))))).bind fun y9 =>
  bif decide (0 ≤ y9.var) then
  (bif ((iand ((ishr s_2 y9.var.toNat)) ((1 : Int))) == (1 : Int)) then
  nx7 y9.high
  else
  nx7 y9.low) else none
  else
  choice_tell_k4 k_2)

def choice_tell (fuel : Nat) (l_0 : List Branch) (k_1 : Int) (s_2 : Int) : Option (Bool) :=
  whileK (σ := Int) (fun s nx_ => choice_tell_b6 l_0 s_2 s nx_) fuel k_1

set_option maxRecDepth 100000 in
theorem choice_tell_ok (w0 : World) (m : Snap) (l : List HI) (fuel : Nat) (ul_0 : Value) (l_0 : List Branch) (hl_0 : RS rBranch m ul_0 l_0) (k_1 : Int) (s_2 : Int) (r : Bool) (hr : choice_tell fuel l_0 k_1 s_2 = some r) (w : World) (hc : cX w0 ⟨m, l⟩ w) :
    Calls Try.prog 36 [ul_0, .int .i64 k_1, .int .i64 s_2].toArray w fun e w' => e = .returned (.bool r) ∧ cX w0 ⟨m, l⟩ w' := by
  unfold choice_tell at hr
  refine calls_of_Tr (N := 27) Try.func36 rfl hc rfl (Nat.le_of_ble_eq_true rfl) ?_
  refine Tr.seq ?_
  refine Tr.region_f (fun _ => false) ?_
  refine W.q rfl rfl rfl rfl (by decide) (Yd.as rfl .c) ?_
  refine W.end ?_
  refine NX.sub (env' := [(0, _), (1, _), (2, _)]) ⟨rfl, rfl, rfl, trivial⟩ ?_
  refine NX.then ?_
  refine Tr.seq ?_
  refine Tr.join (S := fun env x => ∃ k_3 : Int, env = [(1, .int .i64 k_3)] ∧ x = ⟨m, l⟩ ∧ choice_tell_k4 k_3 = some r) ?_ (fun hk5 => ?_)
  · rintro _ _ ⟨k_3, rfl, rfl, hr⟩
    unfold choice_tell_k4 at hr
    try dsimp only at hr
    refine NX.then ?_
    refine Tr.seq ?_
    refine Tr.region_f (fun _ => false) ?_
    refine W.q rfl rfl rfl rfl (by decide) (Yd.mv rfl (.t rfl)) ?_
    refine W.q rfl rfl rfl rfl (by decide) (Yd.eql rfl (.t rfl) .c) ?_
    refine W.q rfl rfl rfl rfl (by decide) (Yd.as rfl (.t rfl)) ?_
    refine W.end ?_
    refine NX.sub (env' := [(6, _)]) ⟨rfl, trivial⟩ ?_
    refine NX.then ?_
    refine Tr.ret' ?_
    refine res1 rfl rfl ?_
    intro w hc
    cases hr
    exact ⟨rfl, hc⟩
  refine Tr.block ?_
  refine Tr.sub (env' := [(0, _), (1, _), (2, _)]) ⟨rfl, rfl, rfl, trivial⟩ ?_
  refine Tr.loop (S := fun n (z : Int) env x => match z with | k_2 => env = [(0, ul_0), (1, .int .i64 k_2), (2, .int .i64 s_2)] ∧ x = ⟨m, l⟩ ∧ whileK (σ := Int) (fun s nx_ => choice_tell_b6 l_0 s_2 s nx_) n k_2 = some r) _ k_1 ⟨rfl, rfl, hr⟩ ?_
  rintro n8 k_2 env x ⟨rfl, rfl, hr⟩
  cases n8 with
  | zero => simp [whileK] at hr
  | succ n8 =>
    obtain ⟨nx7, hnx7, hr⟩ := whileK_succ hr
    try dsimp only at hr
    unfold choice_tell_b6 at hr
    try dsimp only at hr
    refine Tr.seq ?_
    refine Tr.seq ?_
    refine Tr.region_f (fun _ => false) ?_
    refine W.q rfl rfl rfl rfl (by decide) (Yd.mv rfl (.t rfl)) ?_
    refine W.q rfl rfl rfl rfl (by decide) (Yd.gtr rfl (.t rfl) .c) ?_
    refine W.end ?_
    refine NX.sub (env' := [(0, _), (1, _), (2, _), (9, _)]) ⟨rfl, rfl, rfl, rfl, trivial⟩ ?_
    refine NX.then ?_
    refine Tr.cond (.t rfl) (fun hb => ?_) (fun hb => ?_)
    · have hr := cond_t hb hr
      refine Tr.skip' ?_
      refine NX.then ?_
      refine Tr.block ?_
      refine Tr.seq ?_
      obtain ⟨y9, hy10, hr⟩ := bind_some hr
      refine Tr.region_f (fun i => Nat.beq i 5 || Nat.beq i 6) ?_
      refine W.q rfl rfl rfl rfl (by decide) (Yd.mv rfl (.t rfl)) ?_
      refine W.q rfl rfl rfl rfl (by decide) (Yd.mv rfl (.t rfl)) ?_
      refine W.q rfl rfl rfl rfl (by decide) (Yd.sub rfl (.t rfl) .c) ?_
      refine W.q rfl rfl rfl rfl (by decide) (Yd.idxR hl_0 hy10 rfl Try.underlying22 SZ71 (.t rfl) (.t rfl)) ?_
      refine W.q rfl rfl rfl rfl (by decide) (Yd.ldFs (us := [_, _, _]) hl_0 (.refl _) hy10 rfl rfl ON71 US71 SZ71 (.t rfl)) ?_
      refine W.e rfl rfl rfl rfl (by decide) (Ef.al rfl ZR71 rfl) ?_
      rintro _ _ ⟨b11, rfl, rfl⟩
      refine ⟨.inl rfl, ?_⟩
      refine W.cast (m' := m) (l' := hcells b11 [_, _, _] 71 :: l) rfl rfl ?_
      refine W.s rfl rfl rfl rfl (Ef.stB (pos := 0) (us := [_, _, _]) (cs' := [_, _, _]) rfl rfl (.t rfl) (.t rfl) SZ71 rfl rfl rfl (Nat.le_of_ble_eq_true rfl) rfl) ?_
      rintro _ _ ⟨rfl, rfl⟩
      refine ⟨.inl rfl, ?_⟩
      refine W.cast (m' := m) (l' := hcells b11 [_, _, _] 71 :: l) rfl rfl ?_
      refine W.end ?_
      refine NX.sub (env' := [(0, _), (2, _), (7, _)]) ⟨rfl, rfl, rfl, trivial⟩ ?_
      refine NX.then ?_
      refine Tr.seq ?_
      refine Tr.region_f (fun _ => false) ?_
      refine W.q rfl rfl rfl rfl (by decide) (Yd.fldB rfl Try.underlying71 rfl SZ3 rfl (.t rfl)) ?_
      refine W.q rfl rfl rfl rfl (by decide) (Yd.ldB (pos := 0) rfl rfl rfl ON3 (.t rfl)) ?_
      refine W.q rfl rfl rfl rfl (by decide) (Yd.as rfl (.t rfl)) ?_
      refine W.end ?_
      refine NX.sub (env' := [(0, _), (2, _), (7, _), (1, _)]) ⟨rfl, rfl, rfl, rfl, trivial⟩ ?_
      refine NX.then ?_
      refine Tr.seq ?_
      obtain ⟨hq13, hr⟩ := guard_some hr; replace hq13 := of_decide_eq_true hq13
      refine Tr.region_f (fun _ => false) ?_
      refine W.q rfl rfl rfl rfl (by decide) (Yd.mv rfl (.t rfl)) ?_
      refine W.q rfl rfl rfl rfl (by decide) (Yd.fldB rfl Try.underlying71 rfl SZ3 rfl (.t rfl)) ?_
      refine W.q rfl rfl rfl rfl (by decide) (Yd.ldB (pos := 0) rfl rfl rfl ON3 (.t rfl)) ?_
      refine W.q rfl rfl rfl rfl (by decide) (Yd.shrI rfl (.t rfl) (.t rfl) hq13) ?_
      refine W.q rfl rfl rfl rfl (by decide) (Yd.andI rfl (.t rfl) .c) ?_
      refine W.q rfl rfl rfl rfl (by decide) (Yd.eql rfl (.t rfl) .c) ?_
      refine W.end ?_
      refine NX.sub (env' := [(0, _), (2, _), (7, _), (1, _), (22, _)]) ⟨rfl, rfl, rfl, rfl, rfl, trivial⟩ ?_
      refine NX.then ?_
      refine Tr.cond (.t rfl) (fun hb => ?_) (fun hb => ?_)
      · have hr := cond_t hb hr
        refine Tr.region_f (fun _ => false) ?_
        refine W.q rfl rfl rfl rfl (by decide) (Yd.fldB rfl Try.underlying71 rfl SZ3 rfl (.t rfl)) ?_
        refine W.q rfl rfl rfl rfl (by decide) (Yd.ldB (pos := 0) rfl rfl rfl ON3 (.t rfl)) ?_
        refine W.q rfl rfl rfl rfl (by decide) (Yd.as rfl (.t rfl)) ?_
        refine W.end ?_
        refine NX.sub (env' := [(0, _), (2, _), (1, _)]) ⟨rfl, rfl, rfl, trivial⟩ ?_
        refine NX.drop (l' := l) (.cons _ (.refl _)) ?_
        refine NX.block ?_
        refine NX.sub (env' := [(0, _), (1, _), (2, _)]) ⟨rfl, rfl, rfl, trivial⟩ ?_
        exact NX.again n8 y9.high (Nat.lt_succ_self _) ⟨rfl, rfl, ((hnx7 _).symm.trans hr)⟩
      · have hr := cond_f hb hr
        refine Tr.skip' ?_
        refine NX.block ?_
        refine NX.sub (env' := [(0, _), (1, _), (2, _)]) ⟨rfl, rfl, rfl, trivial⟩ ?_
        refine NX.drop (l' := l) (.cons _ (.refl _)) ?_
        exact NX.again n8 y9.low (Nat.lt_succ_self _) ⟨rfl, rfl, ((hnx7 _).symm.trans hr)⟩
    · have hr := cond_f hb hr
      refine Tr.exit' (EX.then (EX.then (EX.block ?_)))
      refine NX.sub (env' := [(1, _)]) ⟨rfl, trivial⟩ ?_
      exact hk5 _ _ ⟨_, rfl, rfl, hr⟩

def choice_Read_k13 (l11 : List Bool) : Option ((List Bool) × Int) :=
  some ((l11, (0 : Int)))

def choice_Read_b17 (l_1 : List Branch) (root_2 : Int) (fuel : Nat) (t_16 : Int) (l9 : List Bool) (nx18 : (List Bool) → Option ((List Bool) × Int)) : Option ((List Bool) × Int) :=
  (choice_tell fuel l_1 root_2 t_16).bind fun r20 =>
  bif decide (l9.length + (([r20] : List Bool)).length ≤ 140737488355328) then
  nx18 (l9 ++ ([r20] : List Bool)) else none

def choice_Read (fuel : Nat) (n_0 : Int) (l_1 : List Branch) (root_2 : Int) : Option ((List Bool) × Int) :=
  (bif (((decide (n_0 < (0 : Int))) || (decide (n_0 > (4 : Int)))) || (decide ((l_1.length : Int) > (20 : Int)))) then
  some (([], (1 : Int)))
  else
  (choice_wrong n_0 l_1 root_2).bind fun r1 =>
  (bif (r1 != (0 : Int)) then
  some (([], r1))
  else
  bif decide (0 ≤ n_0) then
  bif decide ((ishl ((1 : Int)) n_0.toNat) ≤ 9223372036854775807) then
  forK (σ := (List Bool)) (fun i s nx_ => choice_Read_b17 l_1 root_2 fuel i s nx_) (fun s => choice_Read_k13 s) ((ishl ((1 : Int)) n_0.toNat) - (0 : Int)).toNat (0 : Int) (([] : List Bool)) else none else none))

set_option maxRecDepth 100000 in
theorem choice_Read_ok (w0 : World) (m : Snap) (l : List HI) (fuel : Nat) (n_0 : Int) (ul_1 : Value) (l_1 : List Branch) (hl_1 : RS rBranch m ul_1 l_1) (root_2 : Int) (r : (List Bool) × Int) (hr : choice_Read fuel n_0 l_1 root_2 = some r) (w : World) (hc : cX w0 ⟨m, l⟩ w) :
    Calls Try.prog 12 [.int .i64 n_0, ul_1, .int .i64 root_2].toArray w fun e w' => ∃ z0 : Value, e = .returned (.tuple #[z0, .int .i64 r.2]) ∧ cX w0 ⟨m, hownT 4 1 encB z0 r.1 :: l⟩ w' := by
  unfold choice_Read at hr
  refine calls_of_Tr (N := 43) Try.func12 rfl hc rfl (Nat.le_of_ble_eq_true rfl) ?_
  refine Tr.seq ?_
  refine Tr.region_f (fun _ => false) ?_
  refine W.q rfl rfl rfl rfl (by decide) (Yd.as rfl .c) ?_
  refine W.q rfl rfl rfl rfl (by decide) (Yd.as rfl .c) ?_
  refine W.end ?_
  refine NX.sub (env' := [(0, _), (1, _), (2, _)]) ⟨rfl, rfl, rfl, trivial⟩ ?_
  refine NX.then ?_
  refine Tr.seq ?_
  refine Tr.seq ?_
  refine Tr.region_f (fun _ => false) ?_
  refine W.q rfl rfl rfl rfl (by decide) (Yd.mv rfl (.t rfl)) ?_
  refine W.q rfl rfl rfl rfl (by decide) (Yd.lss rfl (.t rfl) .c) ?_
  refine W.q rfl rfl rfl rfl (by decide) (Yd.mv rfl (.t rfl)) ?_
  refine W.g rfl rfl rfl rfl rfl (.t rfl _) rfl (by decide) (fun hG => Yd.mv rfl (.t rfl)) ?_
  refine W.g rfl rfl rfl rfl rfl (.t rfl _) rfl (by decide) (fun hG => Yd.gtr rfl (.g rfl hG) .c) ?_
  refine W.q rfl rfl rfl rfl (by decide) (Yd.or rfl (.t rfl) .c rfl rfl) ?_
  refine W.q rfl rfl rfl rfl (by decide) (Yd.mv rfl (.t rfl)) ?_
  refine W.g rfl rfl rfl rfl rfl (.t rfl _) rfl (by decide) (fun hG => Yd.mv rfl (.t rfl)) ?_
  refine W.g rfl rfl rfl rfl rfl (.t rfl _) rfl (by decide) (fun hG => Yd.lenR hl_1 rfl Try.underlying22 (.g rfl hG)) ?_
  refine W.g rfl rfl rfl rfl rfl (.t rfl _) rfl (by decide) (fun hG => Yd.gtr rfl (.g rfl hG) .c) ?_
  refine W.q rfl rfl rfl rfl (by decide) (Yd.or rfl (.t rfl) .c rfl rfl) ?_
  refine W.end ?_
  refine NX.sub (env' := [(0, _), (1, _), (2, _), (21, _)]) ⟨rfl, rfl, rfl, rfl, trivial⟩ ?_
  refine NX.then ?_
  refine Tr.cond (.t rfl) (fun hb => ?_) (fun hb => ?_)
  · have hr := cond_t hb hr
    refine Tr.seq ?_
    refine Tr.region_f (fun _ => false) ?_
    refine W.q rfl rfl rfl rfl (by decide) (Yd.as rfl .c) ?_
    refine W.q rfl rfl rfl rfl (by decide) (Yd.as rfl .c) ?_
    refine W.end ?_
    refine NX.sub (env' := [(6, _), (7, _)]) ⟨rfl, rfl, trivial⟩ ?_
    refine NX.then ?_
    refine Tr.ret' (RT.then ?_)
    refine res2 rfl rfl rfl ?_
    intro w hc
    cases hr
    exact ⟨_, rfl, (cX_nil hc)⟩
  · have hr := cond_f hb hr
    refine Tr.skip' ?_
    refine NX.then ?_
    refine Tr.seq ?_
    refine Tr.seq ?_
    obtain ⟨r1, hr2, hr⟩ := bind_some hr
    refine Tr.region_f (fun _ => false) ?_
    refine W.q rfl rfl rfl rfl (by decide) (Yd.mv rfl (.t rfl)) ?_
    refine W.q rfl rfl rfl rfl (by decide) (Yd.mv rfl (.t rfl)) ?_
    refine W.q rfl rfl rfl rfl (by decide) (Yd.mv rfl (.t rfl)) ?_
    refine W.q rfl rfl rfl rfl (by decide) (Yd.call (v := .int .i64 r1) rfl Try.func35 rfl rfl (.cons (.t rfl) (.cons (.t rfl) (.cons (.t rfl) .nil))) (fun x' hx w hw => choice_wrong_ok w0 x'.m x'.l n_0 _ _ (hl_1.mono hx.1) root_2 _ hr2 w hw)) ?_
    refine W.q rfl rfl rfl rfl (by decide) (Yd.as rfl (.t rfl)) ?_
    refine W.end ?_
    refine NX.sub (env' := [(0, _), (1, _), (2, _), (8, _)]) ⟨rfl, rfl, rfl, rfl, trivial⟩ ?_
    refine NX.then ?_
    refine Tr.seq ?_
    refine Tr.region_f (fun _ => false) ?_
    refine W.q rfl rfl rfl rfl (by decide) (Yd.mv rfl (.t rfl)) ?_
    refine W.q rfl rfl rfl rfl (by decide) (Yd.neq rfl (.t rfl) .c) ?_
    refine W.end ?_
    refine NX.sub (env' := [(0, _), (1, _), (2, _), (8, _), (27, _)]) ⟨rfl, rfl, rfl, rfl, rfl, trivial⟩ ?_
    refine NX.then ?_
    refine Tr.cond (.t rfl) (fun hb => ?_) (fun hb => ?_)
    · have hr := cond_t hb hr
      refine Tr.seq ?_
      refine Tr.region_f (fun _ => false) ?_
      refine W.q rfl rfl rfl rfl (by decide) (Yd.mv rfl (.t rfl)) ?_
      refine W.q rfl rfl rfl rfl (by decide) (Yd.as rfl .c) ?_
      refine W.q rfl rfl rfl rfl (by decide) (Yd.as rfl (.t rfl)) ?_
      refine W.end ?_
      refine NX.sub (env' := [(6, _), (7, _)]) ⟨rfl, rfl, trivial⟩ ?_
      refine NX.then ?_
      refine Tr.ret' (RT.then ?_)
      refine res2 rfl rfl rfl ?_
      intro w hc
      cases hr
      exact ⟨_, rfl, (cX_nil hc)⟩
    · have hr := cond_f hb hr
      refine Tr.skip' ?_
      refine NX.then ?_
      refine Tr.seq ?_
      refine Tr.region_f (fun _ => false) ?_
      refine W.q rfl rfl rfl rfl (by decide) (Yd.as rfl .c) ?_
      refine W.end ?_
      refine NX.sub (env' := [(0, _), (1, _), (2, _), (9, _)]) ⟨rfl, rfl, rfl, rfl, trivial⟩ ?_
      refine NX.then ?_
      refine Tr.seq ?_
      refine Tr.seq ?_
      obtain ⟨hq3, hr⟩ := guard_some hr; replace hq3 := of_decide_eq_true hq3
      refine Tr.region_f (fun _ => false) ?_
      refine W.q rfl rfl rfl rfl (by decide) (Yd.mv rfl (.t rfl)) ?_
      refine W.q rfl rfl rfl rfl (by decide) (Yd.shlI rfl .c (.t rfl) hq3) ?_
      refine W.q rfl rfl rfl rfl (by decide) (Yd.mv rfl .c) ?_
      refine W.end ?_
      refine NX.sub (env' := [(1, _), (2, _), (9, _), (30, _), (31, _)]) ⟨rfl, rfl, rfl, rfl, rfl, trivial⟩ ?_
      refine NX.then ?_
      refine Tr.addnil 4 1 ?_
      refine Tr.join (S := fun env x => ∃ l11 : List Bool, ∃ v12 : Value, env = [(9, v12)] ∧ x = ⟨m, hownT 4 1 encB v12 l11 :: l⟩ ∧ choice_Read_k13 l11 = some r) ?_ (fun hk14 => ?_)
      · rintro _ _ ⟨l11, v12, rfl, rfl, hr⟩
        unfold choice_Read_k13 at hr
        try dsimp only at hr
        refine NX.then ?_
        refine Tr.seq ?_
        refine Tr.region_f (fun _ => false) ?_
        refine W.q rfl rfl rfl rfl (by decide) (Yd.mv rfl (.t rfl)) ?_
        refine W.q rfl rfl rfl rfl (by decide) (Yd.as rfl (.t rfl)) ?_
        refine W.q rfl rfl rfl rfl (by decide) (Yd.as rfl .c) ?_
        refine W.end ?_
        refine NX.sub (env' := [(6, _), (7, _)]) ⟨rfl, rfl, trivial⟩ ?_
        refine NX.then ?_
        refine Tr.ret' ?_
        refine res2 rfl rfl rfl ?_
        intro w hc
        cases hr
        exact ⟨_, rfl, hc⟩
      obtain ⟨hle15, hr⟩ := guard_some hr; replace hle15 := of_decide_eq_true hle15
      refine Tr.block ?_
      refine Tr.sub (env' := [(1, _), (2, _), (9, _), (30, _), (31, _)]) ⟨rfl, rfl, rfl, rfl, rfl, trivial⟩ ?_
      refine Tr.loop (S := fun n (z : Int × (List Bool)) env x => match z with | (t_16, l9) => ∃ v10 : Value, env = [(1, ul_1), (2, .int .i64 root_2), (9, v10), (30, .int .i64 ((ishl ((1 : Int)) n_0.toNat))), (31, .int .i64 t_16)] ∧ x = ⟨m, hownT 4 1 encB v10 l9 :: l⟩ ∧ n = ((ishl ((1 : Int)) n_0.toNat) - t_16).toNat ∧ 0 ≤ t_16 ∧ forK (σ := (List Bool)) (fun i s nx_ => choice_Read_b17 l_1 root_2 fuel i s nx_) (fun s => choice_Read_k13 s) n t_16 l9 = some r) _ ((0 : Int), ([] : List Bool)) ⟨_, rfl, rfl, rfl, (by omega), hr⟩ ?_
      rintro n19 ⟨t_16, l9⟩ env x ⟨v10, rfl, rfl, hnt_16, h0t_16, hr⟩
      cases n19 with
      | zero =>
        simp only [forK] at hr
        refine Tr.seq ?_
        refine Tr.region_f (fun _ => false) ?_
        refine W.q rfl rfl rfl rfl (by decide) (Yd.lss rfl (.t rfl) (.t rfl)) ?_
        refine W.end ?_
        refine NX.sub (env' := [(1, _), (2, _), (9, _), (30, _), (31, _), (32, _)]) ⟨rfl, rfl, rfl, rfl, rfl, rfl, trivial⟩ ?_
        refine NX.then ?_
        refine Tr.seq ?_
        refine Tr.cond (.t rfl) (fun hb => ?_) (fun hb => ?_)
        · exact absurd (hb.symm.trans (fr_end hnt_16)) (by decide)
        ·
          refine Tr.exit' (EX.then (EX.then (EX.block ?_)))
          refine NX.sub (env' := [(9, _)]) ⟨rfl, trivial⟩ ?_
          exact hk14 _ _ ⟨_, _, rfl, rfl, hr⟩
      | succ n19 =>
        obtain ⟨nx18, hnx18, hr⟩ := forK_succ hr
        try dsimp only at hr
        unfold choice_Read_b17 at hr
        try dsimp only at hr
        have hltt_16 := fr_bnd hnt_16
        refine Tr.seq ?_
        refine Tr.region_f (fun _ => false) ?_
        refine W.q rfl rfl rfl rfl (by decide) (Yd.lss rfl (.t rfl) (.t rfl)) ?_
        refine W.end ?_
        refine NX.sub (env' := [(1, _), (2, _), (9, _), (30, _), (31, _), (32, _)]) ⟨rfl, rfl, rfl, rfl, rfl, rfl, trivial⟩ ?_
        refine NX.then ?_
        refine Tr.seq ?_
        refine Tr.cond (.t rfl) (fun hb => ?_) (fun hb => ?_)
        rotate_left
        · exact absurd (hb.symm.trans (fr_go hnt_16)) (by decide)
        ·
          refine Tr.skip' ?_
          refine NX.then ?_
          refine Tr.seq ?_
          refine Tr.block ?_
          refine Tr.seq ?_
          refine Tr.region_f (fun _ => false) ?_
          refine W.q rfl rfl rfl rfl (by decide) (Yd.mv rfl (.t rfl)) ?_
          refine W.q rfl rfl rfl rfl (by decide) (Yd.as rfl (.t rfl)) ?_
          refine W.end ?_
          refine NX.sub (env' := [(1, _), (2, _), (9, _), (30, _), (31, _), (10, _)]) ⟨rfl, rfl, rfl, rfl, rfl, rfl, trivial⟩ ?_
          refine NX.then ?_
          obtain ⟨r20, hr21, hr⟩ := bind_some hr
          obtain ⟨hq25, hr⟩ := guard_some hr; replace hq25 := of_decide_eq_true hq25
          refine Tr.region_f (fun i => Nat.beq i 5 || Nat.beq i 6) ?_
          refine W.q rfl rfl rfl rfl (by decide) (Yd.mv rfl (.t rfl)) ?_
          refine W.q rfl rfl rfl rfl (by decide) (Yd.mv rfl (.t rfl)) ?_
          refine W.q rfl rfl rfl rfl (by decide) (Yd.mv rfl (.t rfl)) ?_
          refine W.q rfl rfl rfl rfl (by decide) (Yd.mv rfl (.t rfl)) ?_
          refine W.q rfl rfl rfl rfl (by decide) (Yd.call (v := .bool r20) rfl Try.func36 rfl rfl (.cons (.t rfl) (.cons (.t rfl) (.cons (.t rfl) .nil))) (fun x' hx w hw => choice_tell_ok w0 x'.m x'.l fuel _ _ (hl_1.mono hx.1) root_2 t_16 _ hr21 w hw)) ?_
          refine W.e rfl rfl rfl rfl (by decide) (Ef.bsT (enc := encB) (vs := [_]) (ys := [r20]) (fun _ => rfl) IF4 rfl Try.underlying23 (by decide) rfl (.cons (.t rfl) .nil) rfl rfl (by decide)) ?_
          rintro v22 _ rfl
          refine ⟨.inl rfl, ?_⟩
          refine W.cast (m' := m) (l' := hownT 4 1 encB v22 _ :: hownT 4 1 encB v10 _ :: l) rfl rfl ?_
          refine W.e rfl rfl rfl rfl (by decide) (Ef.apI (pos := 1) (enc := encB) (xs := l9) (ys := ([r20] : List Bool)) (fun _ => rfl) IF4 rfl rfl Try.underlying23 rfl (by decide) (.t rfl) (.t rfl) (Src.own (pos := 0) rfl) (fun _ => rfl) (by omega) (by omega)) ?_
          rintro v24 _ rfl
          refine ⟨.inl rfl, ?_⟩
          refine W.cast (m' := m) (l' := hownT 4 1 encB v22 _ :: hownT 4 1 encB v24 _ :: l) rfl rfl ?_
          refine W.q rfl rfl rfl rfl (by decide) (Yd.as rfl (.t rfl)) ?_
          refine W.end ?_
          refine NX.sub (env' := [(1, _), (2, _), (9, _), (30, _), (31, _)]) ⟨rfl, rfl, rfl, rfl, rfl, trivial⟩ ?_
          refine NX.drop (l' := hownT 4 1 encB v24 _ :: l) (.cons _ (.cons_cons _ (.refl _))) ?_
          refine NX.block ?_
          refine NX.then ?_
          refine Tr.region_f (fun _ => false) ?_
          refine W.q rfl rfl rfl rfl (by decide) (Yd.add rfl (.t rfl) .c) ?_
          refine W.q rfl rfl rfl rfl (by decide) (Yd.mv rfl (.t rfl)) ?_
          refine W.end ?_
          refine NX.sub (env' := [(1, _), (2, _), (9, _), (30, _), (31, _)]) ⟨rfl, rfl, rfl, rfl, rfl, trivial⟩ ?_
          refine NX.sub (env' := [(1, _), (2, _), (9, _), (30, _), (31, _)]) ⟨rfl, rfl, rfl, rfl, rfl, trivial⟩ ?_
          have hw := w64_id (n := t_16 + 1) (by omega) (by omega)
          exact NX.again n19 (t_16 + 1, (l9 ++ ([r20] : List Bool))) (Nat.lt_succ_self _) ⟨_, (by rw [hw] <;> rfl), rfl, (fr_dec hnt_16), (by omega), ((hnx18 _).symm.trans hr)⟩

def syllogistref_BranchCheck_k3 (l_1 : List Branch) (root_2 : Int) : Option (Int) :=
  (bif ((decide (root_2 < (0 : Int))) || (decide (root_2 ≥ (w64 ((l_1.length : Int) + (2 : Int)))))) then
  some ((2 : Int))
  else
  some ((0 : Int)))

def syllogistref_BranchCheck_k18 (nx8 : (Unit → Option (Int))) : Option (Int) :=
  nx8 ()

def syllogistref_BranchCheck_b22 (l_1 : List Branch) (t_6 : Int) (y10 : Branch) (t_21 : Int) (nx23 : Unit → Option (Int)) : Option (Int) :=
  (geti (([y10.low, y10.high] : List Int)) t_21).bind fun y25 =>
  bif (!((((decide (y25 < (0 : Int))) || (decide (y25 ≥ (w64 (t_6 + (2 : Int)))))) == false) && ((decide (y25 ≥ (2 : Int))) == true)) || (geti l_1 ((w64 (y25 - (2 : Int))))).isSome) then
  (bif (((decide (y25 < (0 : Int))) || (decide (y25 ≥ (w64 (t_6 + (2 : Int)))))) || ((decide (y25 ≥ (2 : Int))) && (decide ((((geti l_1 ((w64 (y25 - (2 : Int))))).getD ({ var := (0 : Int), low := (0 : Int), high := (0 : Int) } : Branch))).var ≤ y10.var)))) then
  some ((3 : Int))
  else
  nx23 ()) else none

def syllogistref_BranchCheck_b7 (n_0 : Int) (l_1 : List Branch) (t_6 : Int) (nx8 : Unit → Option (Int)) : Option (Int) :=
  (geti l_1 t_6).bind fun y10 =>
  (bif ((decide (y10.var < (0 : Int))) || (decide (y10.var ≥ n_0))) then
  some ((4 : Int))
  else
  forK (σ := Unit) (fun i s nx_ => syllogistref_BranchCheck_b22 l_1 t_6 y10 i nx_) (fun _ => syllogistref_BranchCheck_k18 nx8) (((([y10.low, y10.high] : List Int)).length : Int) - (0 : Int)).toNat (0 : Int) ())

def syllogistref_BranchCheck (n_0 : Int) (l_1 : List Branch) (root_2 : Int) : Option (Int) :=
  forK (σ := Unit) (fun i s nx_ => syllogistref_BranchCheck_b7 n_0 l_1 i nx_) (fun _ => syllogistref_BranchCheck_k3 l_1 root_2) ((l_1.length : Int) - (0 : Int)).toNat (0 : Int) ()

set_option maxRecDepth 100000 in
theorem syllogistref_BranchCheck_ok (w0 : World) (m : Snap) (l : List HI) (n_0 : Int) (ul_1 : Value) (l_1 : List Branch) (hl_1 : RS rBranch m ul_1 l_1) (root_2 : Int) (r : Int) (hr : syllogistref_BranchCheck n_0 l_1 root_2 = some r) (w : World) (hc : cX w0 ⟨m, l⟩ w) :
    Calls Try.prog 37 [.int .i64 n_0, ul_1, .int .i64 root_2].toArray w fun e w' => e = .returned (.int .i64 r) ∧ cX w0 ⟨m, l⟩ w' := by
  unfold syllogistref_BranchCheck at hr
  refine calls_of_Tr (N := 71) Try.func37 rfl hc rfl (Nat.le_of_ble_eq_true rfl) ?_
  refine Tr.seq ?_
  refine Tr.region_f (fun _ => false) ?_
  refine W.q rfl rfl rfl rfl (by decide) (Yd.as rfl .c) ?_
  refine W.end ?_
  refine NX.sub (env' := [(0, _), (1, _), (2, _)]) ⟨rfl, rfl, rfl, trivial⟩ ?_
  refine NX.then ?_
  refine Tr.seq ?_
  refine Tr.seq ?_
  refine Tr.region_f (fun _ => false) ?_
  refine W.q rfl rfl rfl rfl (by decide) (Yd.mv rfl (.t rfl)) ?_
  refine W.q rfl rfl rfl rfl (by decide) (Yd.lenR hl_1 rfl Try.underlying22 (.t rfl)) ?_
  refine W.q rfl rfl rfl rfl (by decide) (Yd.mv rfl .c) ?_
  refine W.end ?_
  refine NX.sub (env' := [(0, _), (1, _), (2, _), (11, _), (12, _), (13, _)]) ⟨rfl, rfl, rfl, rfl, rfl, rfl, trivial⟩ ?_
  refine NX.then ?_
  refine Tr.join (S := fun env x => env = [(1, ul_1), (2, .int .i64 root_2)] ∧ x = ⟨m, l⟩ ∧ syllogistref_BranchCheck_k3 l_1 root_2 = some r) ?_ (fun hk4 => ?_)
  · rintro _ _ ⟨rfl, rfl, hr⟩
    unfold syllogistref_BranchCheck_k3 at hr
    try dsimp only at hr
    refine NX.then ?_
    refine Tr.seq ?_
    refine Tr.seq ?_
    refine Tr.region_f (fun _ => false) ?_
    refine W.q rfl rfl rfl rfl (by decide) (Yd.mv rfl (.t rfl)) ?_
    refine W.q rfl rfl rfl rfl (by decide) (Yd.lss rfl (.t rfl) .c) ?_
    refine W.q rfl rfl rfl rfl (by decide) (Yd.mv rfl (.t rfl)) ?_
    refine W.g rfl rfl rfl rfl rfl (.t rfl _) rfl (by decide) (fun hG => Yd.mv rfl (.t rfl)) ?_
    refine W.g rfl rfl rfl rfl rfl (.t rfl _) rfl (by decide) (fun hG => Yd.mv rfl (.t rfl)) ?_
    refine W.g rfl rfl rfl rfl rfl (.t rfl _) rfl (by decide) (fun hG => Yd.lenR hl_1 rfl Try.underlying22 (.g rfl hG)) ?_
    refine W.g rfl rfl rfl rfl rfl (.t rfl _) rfl (by decide) (fun hG => Yd.add rfl (.g rfl hG) .c) ?_
    refine W.g rfl rfl rfl rfl rfl (.t rfl _) rfl (by decide) (fun hG => Yd.geq rfl (.g rfl hG) (.g rfl hG)) ?_
    refine W.q rfl rfl rfl rfl (by decide) (Yd.or rfl (.t rfl) .c rfl rfl) ?_
    refine W.end ?_
    refine NX.sub (env' := [(70, _)]) ⟨rfl, trivial⟩ ?_
    refine NX.then ?_
    refine Tr.cond (.t rfl) (fun hb => ?_) (fun hb => ?_)
    · have hr := cond_t hb hr
      refine Tr.seq ?_
      refine Tr.region_f (fun _ => false) ?_
      refine W.q rfl rfl rfl rfl (by decide) (Yd.as rfl .c) ?_
      refine W.end ?_
      refine NX.sub (env' := [(6, _)]) ⟨rfl, trivial⟩ ?_
      refine NX.then ?_
      refine Tr.ret' (RT.then ?_)
      refine res1 rfl rfl ?_
      intro w hc
      cases hr
      exact ⟨rfl, hc⟩
    · have hr := cond_f hb hr
      refine Tr.skip' ?_
      refine NX.then ?_
      refine Tr.seq ?_
      refine Tr.region_f (fun _ => false) ?_
      refine W.q rfl rfl rfl rfl (by decide) (Yd.as rfl .c) ?_
      refine W.end ?_
      refine NX.sub (env' := [(6, _)]) ⟨rfl, trivial⟩ ?_
      refine NX.then ?_
      refine Tr.ret' ?_
      refine res1 rfl rfl ?_
      intro w hc
      cases hr
      exact ⟨rfl, hc⟩
  have hlen5 := (hl_1).2.1
  refine Tr.block ?_
  refine Tr.sub (env' := [(0, _), (1, _), (2, _), (11, _), (12, _), (13, _)]) ⟨rfl, rfl, rfl, rfl, rfl, rfl, trivial⟩ ?_
  refine Tr.loop (S := fun n (z : Int × Unit) env x => match z with | (t_6, _) => env = [(0, .int .i64 n_0), (1, ul_1), (2, .int .i64 root_2), (11, ul_1), (12, .int .i64 ((l_1.length : Int))), (13, .int .i64 t_6)] ∧ x = ⟨m, l⟩ ∧ n = ((l_1.length : Int) - t_6).toNat ∧ 0 ≤ t_6 ∧ forK (σ := Unit) (fun i s nx_ => syllogistref_BranchCheck_b7 n_0 l_1 i nx_) (fun _ => syllogistref_BranchCheck_k3 l_1 root_2) n t_6 () = some r) _ ((0 : Int), ()) ⟨rfl, rfl, rfl, (by omega), hr⟩ ?_
  rintro n9 ⟨t_6, _⟩ env x ⟨rfl, rfl, hnt_6, h0t_6, hr⟩
  cases n9 with
  | zero =>
    simp only [forK] at hr
    refine Tr.seq ?_
    refine Tr.region_f (fun _ => false) ?_
    refine W.q rfl rfl rfl rfl (by decide) (Yd.lss rfl (.t rfl) (.t rfl)) ?_
    refine W.end ?_
    refine NX.sub (env' := [(0, _), (1, _), (2, _), (11, _), (12, _), (13, _), (14, _)]) ⟨rfl, rfl, rfl, rfl, rfl, rfl, rfl, trivial⟩ ?_
    refine NX.then ?_
    refine Tr.seq ?_
    refine Tr.cond (.t rfl) (fun hb => ?_) (fun hb => ?_)
    · exact absurd (hb.symm.trans (fr_end hnt_6)) (by decide)
    ·
      refine Tr.exit' (EX.then (EX.then (EX.block ?_)))
      refine NX.sub (env' := [(1, _), (2, _)]) ⟨rfl, rfl, trivial⟩ ?_
      exact hk4 _ _ ⟨rfl, rfl, hr⟩
  | succ n9 =>
    obtain ⟨nx8, hnx8, hr⟩ := forK_succ hr
    try dsimp only at hr
    unfold syllogistref_BranchCheck_b7 at hr
    try dsimp only at hr
    have hltt_6 := fr_bnd hnt_6
    refine Tr.seq ?_
    refine Tr.region_f (fun _ => false) ?_
    refine W.q rfl rfl rfl rfl (by decide) (Yd.lss rfl (.t rfl) (.t rfl)) ?_
    refine W.end ?_
    refine NX.sub (env' := [(0, _), (1, _), (2, _), (11, _), (12, _), (13, _), (14, _)]) ⟨rfl, rfl, rfl, rfl, rfl, rfl, rfl, trivial⟩ ?_
    refine NX.then ?_
    refine Tr.seq ?_
    refine Tr.cond (.t rfl) (fun hb => ?_) (fun hb => ?_)
    rotate_left
    · exact absurd (hb.symm.trans (fr_go hnt_6)) (by decide)
    ·
      refine Tr.skip' ?_
      refine NX.then ?_
      refine Tr.seq ?_
      refine Tr.block ?_
      refine Tr.seq ?_
      obtain ⟨y10, hy11, hr⟩ := bind_some hr
      refine Tr.region_f (fun i => Nat.beq i 3 || Nat.beq i 5) ?_
      refine W.q rfl rfl rfl rfl (by decide) (Yd.mv rfl (.t rfl)) ?_
      refine W.q rfl rfl rfl rfl (by decide) (Yd.idxR hl_1 hy11 rfl Try.underlying22 SZ71 (.t rfl) (.t rfl)) ?_
      refine W.q rfl rfl rfl rfl (by decide) (Yd.ldFs (us := [_, _, _]) hl_1 (.refl _) hy11 rfl rfl ON71 US71 SZ71 (.t rfl)) ?_
      refine W.e rfl rfl rfl rfl (by decide) (Ef.al rfl ZR71 rfl) ?_
      rintro _ _ ⟨b12, rfl, rfl⟩
      refine ⟨.inl rfl, ?_⟩
      refine W.cast (m' := m) (l' := hcells b12 [_, _, _] 71 :: l) rfl rfl ?_
      refine W.q rfl rfl rfl rfl (by decide) (Yd.as rfl (.t rfl)) ?_
      refine W.s rfl rfl rfl rfl (Ef.stB (pos := 0) (us := [_, _, _]) (cs' := [_, _, _]) rfl rfl (.t rfl) (.t rfl) SZ71 rfl rfl rfl (Nat.le_of_ble_eq_true rfl) rfl) ?_
      rintro _ _ ⟨rfl, rfl⟩
      refine ⟨.inl rfl, ?_⟩
      refine W.cast (m' := m) (l' := hcells b12 [_, _, _] 71 :: l) rfl rfl ?_
      refine W.end ?_
      refine NX.sub (env' := [(0, _), (1, _), (2, _), (11, _), (12, _), (13, _), (8, _), (7, _)]) ⟨rfl, rfl, rfl, rfl, rfl, rfl, rfl, rfl, trivial⟩ ?_
      refine NX.then ?_
      refine Tr.seq ?_
      refine Tr.seq ?_
      refine Tr.region_f (fun _ => false) ?_
      refine W.q rfl rfl rfl rfl (by decide) (Yd.fldB rfl Try.underlying71 rfl SZ3 rfl (.t rfl)) ?_
      refine W.q rfl rfl rfl rfl (by decide) (Yd.ldB (pos := 0) rfl rfl rfl ON3 (.t rfl)) ?_
      refine W.q rfl rfl rfl rfl (by decide) (Yd.lss rfl (.t rfl) .c) ?_
      refine W.q rfl rfl rfl rfl (by decide) (Yd.mv rfl (.t rfl)) ?_
      refine W.g rfl rfl rfl rfl rfl (.t rfl _) rfl (by decide) (fun hG => Yd.fldB rfl Try.underlying71 rfl SZ3 rfl (.t rfl)) ?_
      refine W.g rfl rfl rfl rfl rfl (.t rfl _) rfl (by decide) (fun hG => Yd.ldB (pos := 0) rfl rfl rfl ON3 (.g rfl hG)) ?_
      refine W.g rfl rfl rfl rfl rfl (.t rfl _) rfl (by decide) (fun hG => Yd.mv rfl (.t rfl)) ?_
      refine W.g rfl rfl rfl rfl rfl (.t rfl _) rfl (by decide) (fun hG => Yd.geq rfl (.g rfl hG) (.g rfl hG)) ?_
      refine W.q rfl rfl rfl rfl (by decide) (Yd.or rfl (.t rfl) .c rfl rfl) ?_
      refine W.end ?_
      refine NX.sub (env' := [(0, _), (1, _), (2, _), (11, _), (12, _), (13, _), (8, _), (7, _), (26, _)]) ⟨rfl, rfl, rfl, rfl, rfl, rfl, rfl, rfl, rfl, trivial⟩ ?_
      refine NX.then ?_
      refine Tr.cond (.t rfl) (fun hb => ?_) (fun hb => ?_)
      · have hr := cond_t hb hr
        refine Tr.seq ?_
        refine Tr.region_f (fun _ => false) ?_
        refine W.q rfl rfl rfl rfl (by decide) (Yd.as rfl .c) ?_
        refine W.end ?_
        refine NX.sub (env' := [(6, _)]) ⟨rfl, trivial⟩ ?_
        refine NX.drop (l' := l) (.cons _ (.refl _)) ?_
        refine NX.then ?_
        refine Tr.ret' (RT.then (RT.block (RT.then (RT.then (RT.block (RT.then ?_))))))
        refine res1 rfl rfl ?_
        intro w hc
        cases hr
        exact ⟨rfl, hc⟩
      · have hr := cond_f hb hr
        refine Tr.skip' ?_
        refine NX.then ?_
        refine Tr.seq ?_
        refine Tr.region_f (fun i => Nat.beq i 4) ?_
        refine W.q rfl rfl rfl rfl (by decide) (Yd.fldB rfl Try.underlying71 rfl SZ3 rfl (.t rfl)) ?_
        refine W.q rfl rfl rfl rfl (by decide) (Yd.ldB (pos := 0) rfl rfl rfl ON3 (.t rfl)) ?_
        refine W.q rfl rfl rfl rfl (by decide) (Yd.fldB rfl Try.underlying71 rfl SZ3 rfl (.t rfl)) ?_
        refine W.q rfl rfl rfl rfl (by decide) (Yd.ldB (pos := 0) rfl rfl rfl ON3 (.t rfl)) ?_
        refine W.e rfl rfl rfl rfl (by decide) (Ef.bsT (enc := encI) (vs := [_, _]) (ys := [y10.low, y10.high]) (fun _ => rfl) IF3 rfl Try.underlying90 (by decide) rfl (.cons (.t rfl) (.cons (.t rfl) .nil)) rfl rfl (by decide)) ?_
        rintro v14 _ rfl
        refine ⟨.inl rfl, ?_⟩
        refine W.cast (m' := m) (l' := hownT 3 1 encI v14 _ :: hcells b12 [_, _, _] 71 :: l) rfl rfl ?_
        refine W.q rfl rfl rfl rfl (by decide) (Yd.lenO (p := 0) rfl rfl Try.underlying90 (.t rfl)) ?_
        refine W.q rfl rfl rfl rfl (by decide) (Yd.mv rfl .c) ?_
        refine W.end ?_
        refine NX.sub (env' := [(0, _), (1, _), (2, _), (11, _), (12, _), (13, _), (8, _), (7, _), (31, _), (32, _), (33, _)]) ⟨rfl, rfl, rfl, rfl, rfl, rfl, rfl, rfl, rfl, rfl, rfl, trivial⟩ ?_
        refine NX.then ?_
        refine Tr.join (S := fun env x => env = [(0, .int .i64 n_0), (1, ul_1), (2, .int .i64 root_2), (11, ul_1), (12, .int .i64 ((l_1.length : Int))), (13, .int .i64 t_6)] ∧ x = ⟨m, l⟩ ∧ syllogistref_BranchCheck_k18 nx8 = some r) ?_ (fun hk19 => ?_)
        · rintro _ _ ⟨rfl, rfl, hr⟩
          unfold syllogistref_BranchCheck_k18 at hr
          try dsimp only at hr
          refine NX.block ?_
          refine NX.then ?_
          refine Tr.region_f (fun _ => false) ?_
          refine W.q rfl rfl rfl rfl (by decide) (Yd.add rfl (.t rfl) .c) ?_
          refine W.q rfl rfl rfl rfl (by decide) (Yd.mv rfl (.t rfl)) ?_
          refine W.end ?_
          refine NX.sub (env' := [(0, _), (1, _), (2, _), (11, _), (12, _), (13, _)]) ⟨rfl, rfl, rfl, rfl, rfl, rfl, trivial⟩ ?_
          refine NX.sub (env' := [(0, _), (1, _), (2, _), (11, _), (12, _), (13, _)]) ⟨rfl, rfl, rfl, rfl, rfl, rfl, trivial⟩ ?_
          have hw := w64_id (n := t_6 + 1) (by omega) (by omega)
          exact NX.again n9 (t_6 + 1, ()) (Nat.lt_succ_self _) ⟨(by rw [hw] <;> rfl), rfl, (fr_dec hnt_6), (by omega), ((hnx8 _).symm.trans hr)⟩
        refine Tr.lenO (pos := 0) rfl (fun hlen20 => ?_)
        refine Tr.block ?_
        refine Tr.sub (env' := [(0, _), (1, _), (2, _), (7, _), (8, _), (11, _), (12, _), (13, _), (31, _), (32, _), (33, _)]) ⟨rfl, rfl, rfl, rfl, rfl, rfl, rfl, rfl, rfl, rfl, rfl, trivial⟩ ?_
        refine Tr.loop (S := fun n (z : Int × Unit) env x => match z with | (t_21, _) => env = [(0, .int .i64 n_0), (1, ul_1), (2, .int .i64 root_2), (7, .int .i64 t_6), (8, bp b12 0), (11, ul_1), (12, .int .i64 ((l_1.length : Int))), (13, .int .i64 t_6), (31, v14), (32, .int .i64 (((([y10.low, y10.high] : List Int)).length : Int))), (33, .int .i64 t_21)] ∧ x = ⟨m, hownT 3 1 encI v14 (([y10.low, y10.high] : List Int)) :: hcells b12 [.int .i64 y10.var, .int .i64 y10.low, .int .i64 y10.high] 71 :: l⟩ ∧ n = (((([y10.low, y10.high] : List Int)).length : Int) - t_21).toNat ∧ 0 ≤ t_21 ∧ forK (σ := Unit) (fun i s nx_ => syllogistref_BranchCheck_b22 l_1 t_6 y10 i nx_) (fun _ => syllogistref_BranchCheck_k18 nx8) n t_21 () = some r) _ ((0 : Int), ()) ⟨rfl, rfl, rfl, (by omega), hr⟩ ?_
        rintro n24 ⟨t_21, _⟩ env x ⟨rfl, rfl, hnt_21, h0t_21, hr⟩
        cases n24 with
        | zero =>
          simp only [forK] at hr
          refine Tr.seq ?_
          refine Tr.region_f (fun _ => false) ?_
          refine W.q rfl rfl rfl rfl (by decide) (Yd.lss rfl (.t rfl) (.t rfl)) ?_
          refine W.end ?_
          refine NX.sub (env' := [(0, _), (1, _), (2, _), (7, _), (8, _), (11, _), (12, _), (13, _), (31, _), (32, _), (33, _), (34, _)]) ⟨rfl, rfl, rfl, rfl, rfl, rfl, rfl, rfl, rfl, rfl, rfl, rfl, trivial⟩ ?_
          refine NX.then ?_
          refine Tr.seq ?_
          refine Tr.cond (.t rfl) (fun hb => ?_) (fun hb => ?_)
          · exact absurd (hb.symm.trans (fr_end hnt_21)) (by decide)
          ·
            refine Tr.exit' (EX.then (EX.then (EX.block ?_)))
            refine NX.sub (env' := [(0, _), (1, _), (2, _), (11, _), (12, _), (13, _)]) ⟨rfl, rfl, rfl, rfl, rfl, rfl, trivial⟩ ?_
            refine NX.drop (l' := l) (.cons _ (.cons _ (.refl _))) ?_
            exact hk19 _ _ ⟨rfl, rfl, hr⟩
        | succ n24 =>
          obtain ⟨nx23, hnx23, hr⟩ := forK_succ hr
          try dsimp only at hr
          unfold syllogistref_BranchCheck_b22 at hr
          try dsimp only at hr
          have hltt_21 := fr_bnd hnt_21
          refine Tr.seq ?_
          refine Tr.region_f (fun _ => false) ?_
          refine W.q rfl rfl rfl rfl (by decide) (Yd.lss rfl (.t rfl) (.t rfl)) ?_
          refine W.end ?_
          refine NX.sub (env' := [(0, _), (1, _), (2, _), (7, _), (8, _), (11, _), (12, _), (13, _), (31, _), (32, _), (33, _), (34, _)]) ⟨rfl, rfl, rfl, rfl, rfl, rfl, rfl, rfl, rfl, rfl, rfl, rfl, trivial⟩ ?_
          refine NX.then ?_
          refine Tr.seq ?_
          refine Tr.cond (.t rfl) (fun hb => ?_) (fun hb => ?_)
          rotate_left
          · exact absurd (hb.symm.trans (fr_go hnt_21)) (by decide)
          ·
            refine Tr.skip' ?_
            refine NX.then ?_
            refine Tr.seq ?_
            refine Tr.block ?_
            refine Tr.seq ?_
            obtain ⟨y25, hy26, hr⟩ := bind_some hr
            refine Tr.region_f (fun _ => false) ?_
            refine W.q rfl rfl rfl rfl (by decide) (Yd.idxT (pos := 0) rfl hy26 rfl Try.underlying90 SZ3 (.t rfl) (.t rfl)) ?_
            refine W.q rfl rfl rfl rfl (by decide) (Yd.ldT (enc := encI) (n := 1) (pos := 0) (fun _ => rfl) rfl hy26 rfl rfl ON3 (.t rfl)) ?_
            refine W.q rfl rfl rfl rfl (by decide) (Yd.as rfl (.t rfl)) ?_
            refine W.end ?_
            refine NX.sub (env' := [(0, _), (1, _), (2, _), (7, _), (8, _), (11, _), (12, _), (13, _), (31, _), (32, _), (33, _), (10, _)]) ⟨rfl, rfl, rfl, rfl, rfl, rfl, rfl, rfl, rfl, rfl, rfl, rfl, trivial⟩ ?_
            refine NX.then ?_
            refine Tr.seq ?_
            obtain ⟨ha27, hr⟩ := guard_some hr
            refine Tr.region_x (fun _ => false) (fun _ => false) (Ord.of [0, 1, 2, 3, 4, 5, 6, 7, 8, 9, 10, 11, 12, 13, 14, 15, 16, 17, 18, 19, 20, 21, 22]) FM (by kernel_rfl) ?_
            refine W.q rfl rfl rfl rfl (by decide) (Yd.mv rfl (.t rfl)) ?_
            refine W.q rfl rfl rfl rfl (by decide) (Yd.lss rfl (.t rfl) .c) ?_
            refine W.q rfl rfl rfl rfl (by decide) (Yd.mv rfl (.t rfl)) ?_
            refine W.g rfl rfl rfl rfl rfl (.t rfl _) rfl (by decide) (fun hG => Yd.mv rfl (.t rfl)) ?_
            refine W.g rfl rfl rfl rfl rfl (.t rfl _) rfl (by decide) (fun hG => Yd.mv rfl (.t rfl)) ?_
            refine W.g rfl rfl rfl rfl rfl (.t rfl _) rfl (by decide) (fun hG => Yd.add rfl (.g rfl hG) .c) ?_
            refine W.g rfl rfl rfl rfl rfl (.t rfl _) rfl (by decide) (fun hG => Yd.geq rfl (.g rfl hG) (.g rfl hG)) ?_
            refine W.q rfl rfl rfl rfl (by decide) (Yd.or rfl (.t rfl) .c rfl rfl) ?_
            refine W.q rfl rfl rfl rfl (by decide) (Yd.mv rfl (.t rfl)) ?_
            refine W.g rfl rfl rfl rfl rfl (.t rfl _) rfl (by decide) (fun hG => Yd.mv rfl (.t rfl)) ?_
            refine W.g rfl rfl rfl rfl rfl (.t rfl _) rfl (by decide) (fun hG => Yd.geq rfl (.g rfl hG) .c) ?_
            refine W.g rfl rfl rfl rfl rfl (.t rfl _) rfl (by decide) (fun hG => Yd.mv rfl (.g rfl hG)) ?_
            refine W.g rfl rfl rfl rfl rfl (.g rfl _) rfl (by decide) (fun hG => Yd.mv rfl (.t rfl)) ?_
            refine W.g rfl rfl rfl rfl rfl (.g rfl _) rfl (by decide) (fun hG => Yd.mv rfl (.t rfl)) ?_
            refine W.g rfl rfl rfl rfl rfl (.g rfl _) rfl (by decide) (fun hG => Yd.sub rfl (.g rfl hG) .c) ?_
            refine W.g rfl rfl rfl rfl rfl (.g rfl _) rfl (by decide) (fun hG => Yd.idxR hl_1 (gd_get (d := ({ var := (0 : Int), low := (0 : Int), high := (0 : Int) } : Branch)) ha27 hG) rfl Try.underlying22 SZ71 (.g rfl hG) (.g rfl hG)) ?_
            refine W.g rfl rfl rfl rfl rfl (.g rfl _) rfl (by decide) (fun hG => Yd.fldA rfl Try.underlying71 rfl SZ3 rfl (adr_head hl_1 (gd_get (d := ({ var := (0 : Int), low := (0 : Int), high := (0 : Int) } : Branch)) ha27 hG)) (.g rfl hG)) ?_
            refine W.g rfl rfl rfl rfl rfl (.g rfl _) rfl (by decide) (fun hG => Yd.ldFf hl_1 (.refl _) (gd_get (d := ({ var := (0 : Int), low := (0 : Int), high := (0 : Int) } : Branch)) ha27 hG) rfl rfl ON3 (.g rfl hG)) ?_
            refine W.g rfl rfl rfl rfl rfl (.g rfl _) rfl (by decide) (fun hG => Yd.fldB rfl Try.underlying71 rfl SZ3 rfl (.t rfl)) ?_
            refine W.g rfl rfl rfl rfl rfl (.g rfl _) rfl (by decide) (fun hG => Yd.ldB (pos := 1) rfl rfl rfl ON3 (.g rfl hG)) ?_
            refine W.g rfl rfl rfl rfl rfl (.g rfl _) rfl (by decide) (fun hG => Yd.leq rfl (.g rfl hG) (.g rfl hG)) ?_
            refine W.g rfl rfl rfl rfl rfl (.t rfl _) rfl (by decide) (fun hG => Yd.andG rfl (.g rfl hG) .c rfl rfl hG) ?_
            refine W.q rfl rfl rfl rfl (by decide) (Yd.or rfl (.t rfl) .c rfl rfl) ?_
            refine W.end ?_
            refine NX.sub (env' := [(0, _), (1, _), (2, _), (7, _), (8, _), (11, _), (12, _), (13, _), (31, _), (32, _), (33, _), (59, _)]) ⟨rfl, rfl, rfl, rfl, rfl, rfl, rfl, rfl, rfl, rfl, rfl, rfl, trivial⟩ ?_
            refine NX.then ?_
            refine Tr.cond (.t rfl) (fun hb => ?_) (fun hb => ?_)
            · have hr := cond_t hb hr
              refine Tr.seq ?_
              refine Tr.region_f (fun _ => false) ?_
              refine W.q rfl rfl rfl rfl (by decide) (Yd.as rfl .c) ?_
              refine W.end ?_
              refine NX.sub (env' := [(6, _)]) ⟨rfl, trivial⟩ ?_
              refine NX.drop (l' := l) (.cons _ (.cons _ (.refl _))) ?_
              refine NX.then ?_
              refine Tr.ret' (RT.block (RT.then (RT.then (RT.block (RT.block (RT.then (RT.then (RT.block (RT.then ?_)))))))))
              refine res1 rfl rfl ?_
              intro w hc
              cases hr
              exact ⟨rfl, hc⟩
            · have hr := cond_f hb hr
              refine Tr.skip' ?_
              refine NX.block ?_
              refine NX.then ?_
              refine Tr.region_f (fun _ => false) ?_
              refine W.q rfl rfl rfl rfl (by decide) (Yd.add rfl (.t rfl) .c) ?_
              refine W.q rfl rfl rfl rfl (by decide) (Yd.mv rfl (.t rfl)) ?_
              refine W.end ?_
              refine NX.sub (env' := [(0, _), (1, _), (2, _), (7, _), (8, _), (11, _), (12, _), (13, _), (31, _), (32, _), (33, _)]) ⟨rfl, rfl, rfl, rfl, rfl, rfl, rfl, rfl, rfl, rfl, rfl, trivial⟩ ?_
              refine NX.sub (env' := [(0, _), (1, _), (2, _), (7, _), (8, _), (11, _), (12, _), (13, _), (31, _), (32, _), (33, _)]) ⟨rfl, rfl, rfl, rfl, rfl, rfl, rfl, rfl, rfl, rfl, rfl, trivial⟩ ?_
              have hw := w64_id (n := t_21 + 1) (by omega) (by omega)
              exact NX.again n24 (t_21 + 1, ()) (Nat.lt_succ_self _) ⟨(by rw [hw] <;> rfl), rfl, (fr_dec hnt_21), (by omega), ((hnx23 _).symm.trans hr)⟩

def syllogistlaw_treeCode (n_0 : Int) (l_1 : List Branch) (root_2 : Int) : Option (Int) :=
  (bif (((decide (n_0 < (0 : Int))) || (decide (n_0 > (4 : Int)))) || (decide ((l_1.length : Int) > (20 : Int)))) then
  some ((1 : Int))
  else
  (syllogistref_BranchCheck n_0 l_1 root_2).bind fun r1 =>
  some r1)

set_option maxRecDepth 100000 in
theorem syllogistlaw_treeCode_ok (w0 : World) (m : Snap) (l : List HI) (n_0 : Int) (ul_1 : Value) (l_1 : List Branch) (hl_1 : RS rBranch m ul_1 l_1) (root_2 : Int) (r : Int) (hr : syllogistlaw_treeCode n_0 l_1 root_2 = some r) (w : World) (hc : cX w0 ⟨m, l⟩ w) :
    Calls Try.prog 13 [.int .i64 n_0, ul_1, .int .i64 root_2].toArray w fun e w' => e = .returned (.int .i64 r) ∧ cX w0 ⟨m, l⟩ w' := by
  unfold syllogistlaw_treeCode at hr
  refine calls_of_Tr (N := 22) Try.func13 rfl hc rfl (Nat.le_of_ble_eq_true rfl) ?_
  refine Tr.seq ?_
  refine Tr.region_f (fun _ => false) ?_
  refine W.q rfl rfl rfl rfl (by decide) (Yd.as rfl .c) ?_
  refine W.end ?_
  refine NX.sub (env' := [(0, _), (1, _), (2, _)]) ⟨rfl, rfl, rfl, trivial⟩ ?_
  refine NX.then ?_
  refine Tr.seq ?_
  refine Tr.seq ?_
  refine Tr.region_f (fun _ => false) ?_
  refine W.q rfl rfl rfl rfl (by decide) (Yd.mv rfl (.t rfl)) ?_
  refine W.q rfl rfl rfl rfl (by decide) (Yd.lss rfl (.t rfl) .c) ?_
  refine W.q rfl rfl rfl rfl (by decide) (Yd.mv rfl (.t rfl)) ?_
  refine W.g rfl rfl rfl rfl rfl (.t rfl _) rfl (by decide) (fun hG => Yd.mv rfl (.t rfl)) ?_
  refine W.g rfl rfl rfl rfl rfl (.t rfl _) rfl (by decide) (fun hG => Yd.gtr rfl (.g rfl hG) .c) ?_
  refine W.q rfl rfl rfl rfl (by decide) (Yd.or rfl (.t rfl) .c rfl rfl) ?_
  refine W.q rfl rfl rfl rfl (by decide) (Yd.mv rfl (.t rfl)) ?_
  refine W.g rfl rfl rfl rfl rfl (.t rfl _) rfl (by decide) (fun hG => Yd.mv rfl (.t rfl)) ?_
  refine W.g rfl rfl rfl rfl rfl (.t rfl _) rfl (by decide) (fun hG => Yd.lenR hl_1 rfl Try.underlying22 (.g rfl hG)) ?_
  refine W.g rfl rfl rfl rfl rfl (.t rfl _) rfl (by decide) (fun hG => Yd.gtr rfl (.g rfl hG) .c) ?_
  refine W.q rfl rfl rfl rfl (by decide) (Yd.or rfl (.t rfl) .c rfl rfl) ?_
  refine W.end ?_
  refine NX.sub (env' := [(0, _), (1, _), (2, _), (17, _)]) ⟨rfl, rfl, rfl, rfl, trivial⟩ ?_
  refine NX.then ?_
  refine Tr.cond (.t rfl) (fun hb => ?_) (fun hb => ?_)
  · have hr := cond_t hb hr
    refine Tr.seq ?_
    refine Tr.region_f (fun _ => false) ?_
    refine W.q rfl rfl rfl rfl (by decide) (Yd.as rfl .c) ?_
    refine W.end ?_
    refine NX.sub (env' := [(6, _)]) ⟨rfl, trivial⟩ ?_
    refine NX.then ?_
    refine Tr.ret' (RT.then ?_)
    refine res1 rfl rfl ?_
    intro w hc
    cases hr
    exact ⟨rfl, hc⟩
  · have hr := cond_f hb hr
    refine Tr.skip' ?_
    refine NX.then ?_
    refine Tr.seq ?_
    obtain ⟨r1, hr2, hr⟩ := bind_some hr
    refine Tr.region_f (fun _ => false) ?_
    refine W.q rfl rfl rfl rfl (by decide) (Yd.mv rfl (.t rfl)) ?_
    refine W.q rfl rfl rfl rfl (by decide) (Yd.mv rfl (.t rfl)) ?_
    refine W.q rfl rfl rfl rfl (by decide) (Yd.mv rfl (.t rfl)) ?_
    refine W.q rfl rfl rfl rfl (by decide) (Yd.call (v := .int .i64 r1) rfl Try.func37 rfl rfl (.cons (.t rfl) (.cons (.t rfl) (.cons (.t rfl) .nil))) (fun x' hx w hw => syllogistref_BranchCheck_ok w0 x'.m x'.l n_0 _ _ (hl_1.mono hx.1) root_2 _ hr2 w hw)) ?_
    refine W.q rfl rfl rfl rfl (by decide) (Yd.as rfl (.t rfl)) ?_
    refine W.end ?_
    refine NX.sub (env' := [(6, _)]) ⟨rfl, trivial⟩ ?_
    refine NX.then ?_
    refine Tr.ret' ?_
    refine res1 rfl rfl ?_
    intro w hc
    cases hr
    exact ⟨rfl, hc⟩

def syllogistref_Bit (w_0 : (BitVec 32)) (i_1 : Int) : Option (Bool) :=
  some ((((decide (i_1 ≥ (0 : Int))) && (decide (i_1 < (32 : Int)))) && ((w_0 &&& (1#32 <<< ((BitVec.ofInt 64 i_1)).toNat)) != 0#32)))

set_option maxRecDepth 100000 in
theorem syllogistref_Bit_ok (w0 : World) (m : Snap) (l : List HI) (w_0 : (BitVec 32)) (i_1 : Int) (r : Bool) (hr : syllogistref_Bit w_0 i_1 = some r) (w : World) (hc : cX w0 ⟨m, l⟩ w) :
    Calls Try.prog 33 [.int .u32 (w_0.toNat : Int), .int .i64 i_1].toArray w fun e w' => e = .returned (.bool r) ∧ cX w0 ⟨m, l⟩ w' := by
  unfold syllogistref_Bit at hr
  refine calls_of_Tr (N := 19) Try.func33 rfl hc rfl (Nat.le_of_ble_eq_true rfl) ?_
  refine Tr.seq ?_
  refine Tr.region_f (fun _ => false) ?_
  refine W.q rfl rfl rfl rfl (by decide) (Yd.as rfl .c) ?_
  refine W.end ?_
  refine NX.sub (env' := [(0, _), (1, _)]) ⟨rfl, rfl, trivial⟩ ?_
  refine NX.then ?_
  refine Tr.seq ?_
  refine Tr.region_f (fun _ => false) ?_
  refine W.q rfl rfl rfl rfl (by decide) (Yd.mv rfl (.t rfl)) ?_
  refine W.q rfl rfl rfl rfl (by decide) (Yd.geq rfl (.t rfl) .c) ?_
  refine W.q rfl rfl rfl rfl (by decide) (Yd.mv rfl (.t rfl)) ?_
  refine W.g rfl rfl rfl rfl rfl (.t rfl _) rfl (by decide) (fun hG => Yd.mv rfl (.t rfl)) ?_
  refine W.g rfl rfl rfl rfl rfl (.t rfl _) rfl (by decide) (fun hG => Yd.lss rfl (.g rfl hG) .c) ?_
  refine W.q rfl rfl rfl rfl (by decide) (Yd.and rfl (.t rfl) .c rfl rfl) ?_
  refine W.q rfl rfl rfl rfl (by decide) (Yd.mv rfl (.t rfl)) ?_
  refine W.g rfl rfl rfl rfl rfl (.t rfl _) rfl (by decide) (fun hG => Yd.mv rfl (.t rfl)) ?_
  refine W.g rfl rfl rfl rfl rfl (.t rfl _) rfl (by decide) (fun hG => Yd.mv rfl (.t rfl)) ?_
  refine W.g rfl rfl rfl rfl rfl (.t rfl _) rfl (by decide) (fun hG => Yd.cvQ rfl US3 Try.underlying48 (.g rfl hG)) ?_
  refine W.g rfl rfl rfl rfl rfl (.t rfl _) rfl (by decide) (fun hG => Yd.shlU (a := 1#32) rfl .c (.g rfl hG) (Int.natCast_nonneg _)) ?_
  refine W.g rfl rfl rfl rfl rfl (.t rfl _) rfl (by decide) (fun hG => Yd.andU (a := w_0) (b := (1#32 <<< ((BitVec.ofInt 64 i_1)).toNat)) rfl (.g rfl hG) (.g rfl hG)) ?_
  refine W.g rfl rfl rfl rfl rfl (.t rfl _) rfl (by decide) (fun hG => Yd.neqU (a := (w_0 &&& (1#32 <<< ((BitVec.ofInt 64 i_1)).toNat))) (b := 0#32) rfl (.g rfl hG) .c) ?_
  refine W.q rfl rfl rfl rfl (by decide) (Yd.and rfl (.t rfl) .c rfl rfl) ?_
  refine W.q rfl rfl rfl rfl (by decide) (Yd.as rfl (.t rfl)) ?_
  refine W.end ?_
  refine NX.sub (env' := [(4, _)]) ⟨rfl, trivial⟩ ?_
  refine NX.then ?_
  refine Tr.ret' ?_
  refine res1 rfl rfl ?_
  intro w hc
  cases hr
  exact ⟨rfl, hc⟩

def syllogistref_Tells_s (slf : ((List Branch) → Int → (BitVec 32) → Option (Bool))) (l_0 : List Branch) (k_1 : Int) (s_2 : (BitVec 32)) : Option (Bool) :=
  (bif (decide (k_1 < (2 : Int))) then
  some ((k_1 == (1 : Int)))
  else
  (geti l_0 ((w64 (k_1 - (2 : Int))))).bind fun y1 =>
  (syllogistref_Bit s_2 y1.var).bind fun r3 =>
  (bif r3 then
  (geti l_0 ((w64 (k_1 - (2 : Int))))).bind fun y5 =>
  (slf l_0 y5.high s_2).bind fun r7 =>
  some r7
  else
  (geti l_0 ((w64 (k_1 - (2 : Int))))).bind fun y9 =>
  (slf l_0 y9.low s_2).bind fun r11 =>
  some r11))

def syllogistref_Tells (fuel : Nat) (l_0 : List Branch) (k_1 : Int) (s_2 : (BitVec 32)) : Option (Bool) :=
  match fuel with
  | 0 => none
  | fuel + 1 => syllogistref_Tells_s (syllogistref_Tells fuel) l_0 k_1 s_2

set_option maxRecDepth 100000 in
theorem syllogistref_Tells_ok (w0 : World) (m : Snap) (l : List HI) (fuel : Nat) : ∀ (ul_0 : Value) (l_0 : List Branch) (hl_0 : RS rBranch m ul_0 l_0) (k_1 : Int) (s_2 : (BitVec 32)) (r : Bool) (_ : syllogistref_Tells fuel l_0 k_1 s_2 = some r) (w : World) (_ : cX w0 ⟨m, l⟩ w),
    Calls Try.prog 38 [ul_0, .int .i64 k_1, .int .u32 (s_2.toNat : Int)].toArray w fun e w' => e = .returned (.bool r) ∧ cX w0 ⟨m, l⟩ w' := by
  induction fuel generalizing m l with
  | zero => intro ul_0 l_0 hl_0 k_1 s_2 r hr; simp [syllogistref_Tells] at hr
  | succ fuel ih =>
  intro ul_0 l_0 hl_0 k_1 s_2 r hr w hc
  replace hr : syllogistref_Tells_s (syllogistref_Tells fuel) l_0 k_1 s_2 = some r := hr
  obtain ⟨slf, hslf⟩ : ∃ f, f = syllogistref_Tells fuel := ⟨_, rfl⟩
  rw [← hslf] at hr ih
  unfold syllogistref_Tells_s at hr
  refine calls_of_Tr (N := 37) Try.func38 rfl hc rfl (Nat.le_of_ble_eq_true rfl) ?_
  refine Tr.seq ?_
  refine Tr.region_f (fun _ => false) ?_
  refine W.q rfl rfl rfl rfl (by decide) (Yd.as rfl .c) ?_
  refine W.end ?_
  refine NX.sub (env' := [(0, _), (1, _), (2, _)]) ⟨rfl, rfl, rfl, trivial⟩ ?_
  refine NX.then ?_
  refine Tr.seq ?_
  refine Tr.seq ?_
  refine Tr.region_f (fun _ => false) ?_
  refine W.q rfl rfl rfl rfl (by decide) (Yd.mv rfl (.t rfl)) ?_
  refine W.q rfl rfl rfl rfl (by decide) (Yd.lss rfl (.t rfl) .c) ?_
  refine W.end ?_
  refine NX.sub (env' := [(0, _), (1, _), (2, _), (8, _)]) ⟨rfl, rfl, rfl, rfl, trivial⟩ ?_
  refine NX.then ?_
  refine Tr.cond (.t rfl) (fun hb => ?_) (fun hb => ?_)
  · have hr := cond_t hb hr
    refine Tr.seq ?_
    refine Tr.region_f (fun _ => false) ?_
    refine W.q rfl rfl rfl rfl (by decide) (Yd.mv rfl (.t rfl)) ?_
    refine W.q rfl rfl rfl rfl (by decide) (Yd.eql rfl (.t rfl) .c) ?_
    refine W.q rfl rfl rfl rfl (by decide) (Yd.as rfl (.t rfl)) ?_
    refine W.end ?_
    refine NX.sub (env' := [(6, _)]) ⟨rfl, trivial⟩ ?_
    refine NX.then ?_
    refine Tr.ret' (RT.then ?_)
    refine res1 rfl rfl ?_
    intro w hc
    cases hr
    exact ⟨rfl, hc⟩
  · have hr := cond_f hb hr
    refine Tr.skip' ?_
    refine NX.then ?_
    refine Tr.seq ?_
    refine Tr.seq ?_
    obtain ⟨y1, hy2, hr⟩ := bind_some hr
    obtain ⟨r3, hr4, hr⟩ := bind_some hr
    refine Tr.region_f (fun _ => false) ?_
    refine W.q rfl rfl rfl rfl (by decide) (Yd.mv rfl (.t rfl)) ?_
    refine W.q rfl rfl rfl rfl (by decide) (Yd.mv rfl (.t rfl)) ?_
    refine W.q rfl rfl rfl rfl (by decide) (Yd.mv rfl (.t rfl)) ?_
    refine W.q rfl rfl rfl rfl (by decide) (Yd.sub rfl (.t rfl) .c) ?_
    refine W.q rfl rfl rfl rfl (by decide) (Yd.idxR hl_0 hy2 rfl Try.underlying22 SZ71 (.t rfl) (.t rfl)) ?_
    refine W.q rfl rfl rfl rfl (by decide) (Yd.fldA rfl Try.underlying71 rfl SZ3 rfl (adr_head hl_0 hy2) (.t rfl)) ?_
    refine W.q rfl rfl rfl rfl (by decide) (Yd.ldFf hl_0 (.refl _) hy2 rfl rfl ON3 (.t rfl)) ?_
    refine W.q rfl rfl rfl rfl (by decide) (Yd.call (v := .bool r3) rfl Try.func33 rfl rfl (.cons (.t rfl) (.cons (.t rfl) .nil)) (fun x' hx w hw => syllogistref_Bit_ok w0 x'.m x'.l s_2 y1.var _ hr4 w hw)) ?_
    refine W.end ?_
    refine NX.sub (env' := [(0, _), (1, _), (2, _), (18, _)]) ⟨rfl, rfl, rfl, rfl, trivial⟩ ?_
    refine NX.then ?_
    refine Tr.cond (.t rfl) (fun hb => ?_) (fun hb => ?_)
    · have hr := cond_t hb hr
      refine Tr.seq ?_
      obtain ⟨y5, hy6, hr⟩ := bind_some hr
      obtain ⟨r7, hr8, hr⟩ := bind_some hr
      refine Tr.region_f (fun _ => false) ?_
      refine W.q rfl rfl rfl rfl (by decide) (Yd.mv rfl (.t rfl)) ?_
      refine W.q rfl rfl rfl rfl (by decide) (Yd.mv rfl (.t rfl)) ?_
      refine W.q rfl rfl rfl rfl (by decide) (Yd.mv rfl (.t rfl)) ?_
      refine W.q rfl rfl rfl rfl (by decide) (Yd.sub rfl (.t rfl) .c) ?_
      refine W.q rfl rfl rfl rfl (by decide) (Yd.idxR hl_0 hy6 rfl Try.underlying22 SZ71 (.t rfl) (.t rfl)) ?_
      refine W.q rfl rfl rfl rfl (by decide) (Yd.fldA rfl Try.underlying71 rfl SZ3 rfl (adr_head hl_0 hy6) (.t rfl)) ?_
      refine W.q rfl rfl rfl rfl (by decide) (Yd.ldFf hl_0 (.refl _) hy6 rfl rfl ON3 (.t rfl)) ?_
      refine W.q rfl rfl rfl rfl (by decide) (Yd.mv rfl (.t rfl)) ?_
      refine W.q rfl rfl rfl rfl (by decide) (Yd.call (v := .bool r7) rfl Try.func38 rfl rfl (.cons (.t rfl) (.cons (.t rfl) (.cons (.t rfl) .nil))) (fun x' hx w hw => ih x'.m x'.l _ _ (hl_0.mono hx.1) y5.high s_2 _ hr8 w hw)) ?_
      refine W.q rfl rfl rfl rfl (by decide) (Yd.as rfl (.t rfl)) ?_
      refine W.end ?_
      refine NX.sub (env' := [(6, _)]) ⟨rfl, trivial⟩ ?_
      refine NX.then ?_
      refine Tr.ret' (RT.then ?_)
      refine res1 rfl rfl ?_
      intro w hc
      cases hr
      exact ⟨rfl, hc⟩
    · have hr := cond_f hb hr
      refine Tr.skip' ?_
      refine NX.then ?_
      refine Tr.seq ?_
      obtain ⟨y9, hy10, hr⟩ := bind_some hr
      obtain ⟨r11, hr12, hr⟩ := bind_some hr
      refine Tr.region_f (fun _ => false) ?_
      refine W.q rfl rfl rfl rfl (by decide) (Yd.mv rfl (.t rfl)) ?_
      refine W.q rfl rfl rfl rfl (by decide) (Yd.mv rfl (.t rfl)) ?_
      refine W.q rfl rfl rfl rfl (by decide) (Yd.mv rfl (.t rfl)) ?_
      refine W.q rfl rfl rfl rfl (by decide) (Yd.sub rfl (.t rfl) .c) ?_
      refine W.q rfl rfl rfl rfl (by decide) (Yd.idxR hl_0 hy10 rfl Try.underlying22 SZ71 (.t rfl) (.t rfl)) ?_
      refine W.q rfl rfl rfl rfl (by decide) (Yd.fldA rfl Try.underlying71 rfl SZ3 rfl (adr_head hl_0 hy10) (.t rfl)) ?_
      refine W.q rfl rfl rfl rfl (by decide) (Yd.ldFf hl_0 (.refl _) hy10 rfl rfl ON3 (.t rfl)) ?_
      refine W.q rfl rfl rfl rfl (by decide) (Yd.mv rfl (.t rfl)) ?_
      refine W.q rfl rfl rfl rfl (by decide) (Yd.call (v := .bool r11) rfl Try.func38 rfl rfl (.cons (.t rfl) (.cons (.t rfl) (.cons (.t rfl) .nil))) (fun x' hx w hw => ih x'.m x'.l _ _ (hl_0.mono hx.1) y9.low s_2 _ hr12 w hw)) ?_
      refine W.q rfl rfl rfl rfl (by decide) (Yd.as rfl (.t rfl)) ?_
      refine W.end ?_
      refine NX.sub (env' := [(6, _)]) ⟨rfl, trivial⟩ ?_
      refine NX.then ?_
      refine Tr.ret' ?_
      refine res1 rfl rfl ?_
      intro w hc
      cases hr
      exact ⟨rfl, hc⟩

def syllogistref_Read_k10 (l8 : List Bool) : Option ((List Bool)) :=
  some l8

def syllogistref_Read_b13 (l_1 : List Branch) (root_2 : Int) (fuel : Nat) (s_12 : BitVec 32) (l6 : List Bool) (nx14 : (List Bool) → Option ((List Bool))) : Option ((List Bool)) :=
  (syllogistref_Tells fuel l_1 root_2 s_12).bind fun r16 =>
  bif decide (l6.length + (([r16] : List Bool)).length ≤ 140737488355328) then
  nx14 (l6 ++ ([r16] : List Bool)) else none

def syllogistref_Read (fuel : Nat) (n_0 : Int) (l_1 : List Branch) (root_2 : Int) : Option ((List Bool)) :=
  forK (σ := (List Bool)) (fun i s nx_ => syllogistref_Read_b13 l_1 root_2 fuel i s nx_) (fun s => syllogistref_Read_k10 s) (((1#32 <<< ((BitVec.ofInt 64 n_0)).toNat)).toNat - (0#32).toNat) 0#32 (([] : List Bool))

set_option maxRecDepth 100000 in
theorem syllogistref_Read_ok (w0 : World) (m : Snap) (l : List HI) (fuel : Nat) (n_0 : Int) (ul_1 : Value) (l_1 : List Branch) (hl_1 : RS rBranch m ul_1 l_1) (root_2 : Int) (r : (List Bool)) (hr : syllogistref_Read fuel n_0 l_1 root_2 = some r) (w : World) (hc : cX w0 ⟨m, l⟩ w) :
    Calls Try.prog 15 [.int .i64 n_0, ul_1, .int .i64 root_2].toArray w fun e w' => ∃ z0 : Value, e = .returned (z0) ∧ cX w0 ⟨m, hownT 4 1 encB z0 r :: l⟩ w' := by
  unfold syllogistref_Read at hr
  refine calls_of_Tr (N := 24) Try.func15 rfl hc rfl (Nat.le_of_ble_eq_true rfl) ?_
  refine Tr.seq ?_
  refine Tr.region_f (fun _ => false) ?_
  refine W.q rfl rfl rfl rfl (by decide) (Yd.as rfl .c) ?_
  refine W.end ?_
  refine NX.sub (env' := [(0, _), (1, _), (2, _)]) ⟨rfl, rfl, rfl, trivial⟩ ?_
  refine NX.then ?_
  refine Tr.seq ?_
  refine Tr.region_f (fun _ => false) ?_
  refine W.q rfl rfl rfl rfl (by decide) (Yd.as rfl .c) ?_
  refine W.end ?_
  refine NX.sub (env' := [(0, _), (1, _), (2, _), (7, _)]) ⟨rfl, rfl, rfl, rfl, trivial⟩ ?_
  refine NX.then ?_
  refine Tr.seq ?_
  refine Tr.seq ?_
  refine Tr.region_f (fun _ => false) ?_
  refine W.q rfl rfl rfl rfl (by decide) (Yd.as rfl .c) ?_
  refine W.end ?_
  refine NX.sub (env' := [(0, _), (1, _), (2, _), (7, _), (8, _)]) ⟨rfl, rfl, rfl, rfl, rfl, trivial⟩ ?_
  refine NX.then ?_
  refine Tr.addnil 4 1 ?_
  refine Tr.join (S := fun env x => ∃ l8 : List Bool, ∃ v9 : Value, env = [(7, v9)] ∧ x = ⟨m, hownT 4 1 encB v9 l8 :: l⟩ ∧ syllogistref_Read_k10 l8 = some r) ?_ (fun hk11 => ?_)
  · rintro _ _ ⟨l8, v9, rfl, rfl, hr⟩
    unfold syllogistref_Read_k10 at hr
    try dsimp only at hr
    refine NX.then ?_
    refine Tr.seq ?_
    refine Tr.region_f (fun _ => false) ?_
    refine W.q rfl rfl rfl rfl (by decide) (Yd.mv rfl (.t rfl)) ?_
    refine W.q rfl rfl rfl rfl (by decide) (Yd.as rfl (.t rfl)) ?_
    refine W.end ?_
    refine NX.sub (env' := [(6, _)]) ⟨rfl, trivial⟩ ?_
    refine NX.then ?_
    refine Tr.ret' ?_
    refine res1 rfl rfl ?_
    intro w hc
    cases hr
    exact ⟨_, rfl, hc⟩
  refine Tr.block ?_
  refine Tr.sub (env' := [(0, _), (1, _), (2, _), (7, _), (8, _)]) ⟨rfl, rfl, rfl, rfl, rfl, trivial⟩ ?_
  refine Tr.loop (S := fun n (z : BitVec 32 × (List Bool)) env x => match z with | (s_12, l6) => ∃ v7 : Value, env = [(0, .int .i64 n_0), (1, ul_1), (2, .int .i64 root_2), (7, v7), (8, .int .u32 (s_12.toNat : Int))] ∧ x = ⟨m, hownT 4 1 encB v7 l6 :: l⟩ ∧ n = ((1#32 <<< ((BitVec.ofInt 64 n_0)).toNat)).toNat - s_12.toNat ∧ forK (σ := (List Bool)) (fun i s nx_ => syllogistref_Read_b13 l_1 root_2 fuel i s nx_) (fun s => syllogistref_Read_k10 s) n s_12 l6 = some r) _ (0#32, ([] : List Bool)) ⟨_, rfl, rfl, rfl, hr⟩ ?_
  rintro n15 ⟨s_12, l6⟩ env x ⟨v7, rfl, rfl, hns_12, hr⟩
  cases n15 with
  | zero =>
    simp only [forK] at hr
    refine Tr.seq ?_
    refine Tr.seq ?_
    refine Tr.region_f (fun _ => false) ?_
    refine W.q rfl rfl rfl rfl (by decide) (Yd.mv rfl (.t rfl)) ?_
    refine W.q rfl rfl rfl rfl (by decide) (Yd.mv rfl (.t rfl)) ?_
    refine W.q rfl rfl rfl rfl (by decide) (Yd.cvQ rfl US3 Try.underlying48 (.t rfl)) ?_
    refine W.q rfl rfl rfl rfl (by decide) (Yd.shlU (a := 1#32) rfl .c (.t rfl) (Int.natCast_nonneg _)) ?_
    refine W.q rfl rfl rfl rfl (by decide) (Yd.lssU (a := s_12) (b := (1#32 <<< ((BitVec.ofInt 64 n_0)).toNat)) rfl (.t rfl) (.t rfl)) ?_
    refine W.end ?_
    refine NX.sub (env' := [(0, _), (1, _), (2, _), (7, _), (8, _), (13, _)]) ⟨rfl, rfl, rfl, rfl, rfl, rfl, trivial⟩ ?_
    refine NX.then ?_
    refine Tr.cond (.t rfl) (fun hb => ?_) (fun hb => ?_)
    · exact absurd (hb.symm.trans (fu_end hns_12)) (by decide)
    ·
      refine Tr.exit' (EX.then (EX.then (EX.block ?_)))
      refine NX.sub (env' := [(7, _)]) ⟨rfl, trivial⟩ ?_
      exact hk11 _ _ ⟨_, _, rfl, rfl, hr⟩
  | succ n15 =>
    obtain ⟨nx14, hnx14, hr⟩ := forK_succ hr
    try dsimp only at hr
    unfold syllogistref_Read_b13 at hr
    try dsimp only at hr
    refine Tr.seq ?_
    refine Tr.seq ?_
    refine Tr.region_f (fun _ => false) ?_
    refine W.q rfl rfl rfl rfl (by decide) (Yd.mv rfl (.t rfl)) ?_
    refine W.q rfl rfl rfl rfl (by decide) (Yd.mv rfl (.t rfl)) ?_
    refine W.q rfl rfl rfl rfl (by decide) (Yd.cvQ rfl US3 Try.underlying48 (.t rfl)) ?_
    refine W.q rfl rfl rfl rfl (by decide) (Yd.shlU (a := 1#32) rfl .c (.t rfl) (Int.natCast_nonneg _)) ?_
    refine W.q rfl rfl rfl rfl (by decide) (Yd.lssU (a := s_12) (b := (1#32 <<< ((BitVec.ofInt 64 n_0)).toNat)) rfl (.t rfl) (.t rfl)) ?_
    refine W.end ?_
    refine NX.sub (env' := [(0, _), (1, _), (2, _), (7, _), (8, _), (13, _)]) ⟨rfl, rfl, rfl, rfl, rfl, rfl, trivial⟩ ?_
    refine NX.then ?_
    refine Tr.cond (.t rfl) (fun hb => ?_) (fun hb => ?_)
    rotate_left
    · exact absurd (hb.symm.trans (fu_go hns_12)) (by decide)
    ·
      refine Tr.skip' ?_
      refine NX.then ?_
      refine Tr.seq ?_
      refine Tr.block ?_
      obtain ⟨r16, hr17, hr⟩ := bind_some hr
      obtain ⟨hq21, hr⟩ := guard_some hr; replace hq21 := of_decide_eq_true hq21
      refine Tr.region_f (fun i => Nat.beq i 5 || Nat.beq i 6) ?_
      refine W.q rfl rfl rfl rfl (by decide) (Yd.mv rfl (.t rfl)) ?_
      refine W.q rfl rfl rfl rfl (by decide) (Yd.mv rfl (.t rfl)) ?_
      refine W.q rfl rfl rfl rfl (by decide) (Yd.mv rfl (.t rfl)) ?_
      refine W.q rfl rfl rfl rfl (by decide) (Yd.mv rfl (.t rfl)) ?_
      refine W.q rfl rfl rfl rfl (by decide) (Yd.call (v := .bool r16) rfl Try.func38 rfl rfl (.cons (.t rfl) (.cons (.t rfl) (.cons (.t rfl) .nil))) (fun x' hx w hw => syllogistref_Tells_ok w0 x'.m x'.l fuel _ _ (hl_1.mono hx.1) root_2 s_12 _ hr17 w hw)) ?_
      refine W.e rfl rfl rfl rfl (by decide) (Ef.bsT (enc := encB) (vs := [_]) (ys := [r16]) (fun _ => rfl) IF4 rfl Try.underlying23 (by decide) rfl (.cons (.t rfl) .nil) rfl rfl (by decide)) ?_
      rintro v18 _ rfl
      refine ⟨.inl rfl, ?_⟩
      refine W.cast (m' := m) (l' := hownT 4 1 encB v18 _ :: hownT 4 1 encB v7 _ :: l) rfl rfl ?_
      refine W.e rfl rfl rfl rfl (by decide) (Ef.apI (pos := 1) (enc := encB) (xs := l6) (ys := ([r16] : List Bool)) (fun _ => rfl) IF4 rfl rfl Try.underlying23 rfl (by decide) (.t rfl) (.t rfl) (Src.own (pos := 0) rfl) (fun _ => rfl) (by omega) (by omega)) ?_
      rintro v20 _ rfl
      refine ⟨.inl rfl, ?_⟩
      refine W.cast (m' := m) (l' := hownT 4 1 encB v18 _ :: hownT 4 1 encB v20 _ :: l) rfl rfl ?_
      refine W.q rfl rfl rfl rfl (by decide) (Yd.as rfl (.t rfl)) ?_
      refine W.end ?_
      refine NX.sub (env' := [(0, _), (1, _), (2, _), (7, _), (8, _)]) ⟨rfl, rfl, rfl, rfl, rfl, trivial⟩ ?_
      refine NX.drop (l' := hownT 4 1 encB v20 _ :: l) (.cons _ (.cons_cons _ (.refl _))) ?_
      refine NX.block ?_
      refine NX.then ?_
      refine Tr.region_f (fun _ => false) ?_
      refine W.q rfl rfl rfl rfl (by decide) (Yd.mv rfl (.t rfl)) ?_
      refine W.q rfl rfl rfl rfl (by decide) (Yd.addU (a := s_12) (b := 1#32) rfl (.t rfl) .c) ?_
      refine W.q rfl rfl rfl rfl (by decide) (Yd.as rfl (.t rfl)) ?_
      refine W.end ?_
      refine NX.sub (env' := [(0, _), (1, _), (2, _), (7, _), (8, _)]) ⟨rfl, rfl, rfl, rfl, rfl, trivial⟩ ?_
      refine NX.sub (env' := [(0, _), (1, _), (2, _), (7, _), (8, _)]) ⟨rfl, rfl, rfl, rfl, rfl, trivial⟩ ?_
      exact NX.again n15 (s_12 + 1, (l6 ++ ([r16] : List Bool))) (Nat.lt_succ_self _) ⟨_, rfl, rfl, (fu_dec hns_12), ((hnx14 _).symm.trans hr)⟩

def syllogistref_Bools_k3 : Option (Bool) :=
  some true

def syllogistref_Bools_b7 (a_0 : List Bool) (b_1 : List Bool) (i_6 : Int) (nx8 : Unit → Option (Bool)) : Option (Bool) :=
  (geti a_0 i_6).bind fun y10 =>
  (geti b_1 i_6).bind fun y12 =>
  (bif (y10 != y12) then
  some false
  else
  nx8 ())

def syllogistref_Bools (a_0 : List Bool) (b_1 : List Bool) : Option (Bool) :=
  (bif ((a_0.length : Int) != (b_1.length : Int)) then
  some false
  else
  forK (σ := Unit) (fun i s nx_ => syllogistref_Bools_b7 a_0 b_1 i nx_) (fun _ => syllogistref_Bools_k3) ((a_0.length : Int) - (0 : Int)).toNat (0 : Int) ())

set_option maxRecDepth 100000 in
theorem syllogistref_Bools_ok (w0 : World) (m : Snap) (l : List HI) (ua_0 : Value) (a_0 : List Bool) (ha_0 : RS rB m ua_0 a_0) (ub_1 : Value) (b_1 : List Bool) (hb_1 : RS rB m ub_1 b_1) (r : Bool) (hr : syllogistref_Bools a_0 b_1 = some r) (w : World) (hc : cX w0 ⟨m, l⟩ w) :
    Calls Try.prog 14 [ua_0, ub_1].toArray w fun e w' => e = .returned (.bool r) ∧ cX w0 ⟨m, l⟩ w' := by
  unfold syllogistref_Bools at hr
  refine calls_of_Tr (N := 26) Try.func14 rfl hc rfl (Nat.le_of_ble_eq_true rfl) ?_
  refine Tr.seq ?_
  refine Tr.region_f (fun _ => false) ?_
  refine W.q rfl rfl rfl rfl (by decide) (Yd.as rfl .c) ?_
  refine W.end ?_
  refine NX.sub (env' := [(0, _), (1, _)]) ⟨rfl, rfl, trivial⟩ ?_
  refine NX.then ?_
  refine Tr.seq ?_
  refine Tr.seq ?_
  refine Tr.region_f (fun _ => false) ?_
  refine W.q rfl rfl rfl rfl (by decide) (Yd.mv rfl (.t rfl)) ?_
  refine W.q rfl rfl rfl rfl (by decide) (Yd.lenR ha_0 rfl Try.underlying23 (.t rfl)) ?_
  refine W.q rfl rfl rfl rfl (by decide) (Yd.mv rfl (.t rfl)) ?_
  refine W.q rfl rfl rfl rfl (by decide) (Yd.lenR hb_1 rfl Try.underlying23 (.t rfl)) ?_
  refine W.q rfl rfl rfl rfl (by decide) (Yd.neq rfl (.t rfl) (.t rfl)) ?_
  refine W.end ?_
  refine NX.sub (env' := [(0, _), (1, _), (10, _)]) ⟨rfl, rfl, rfl, trivial⟩ ?_
  refine NX.then ?_
  refine Tr.cond (.t rfl) (fun hb => ?_) (fun hb => ?_)
  · have hr := cond_t hb hr
    refine Tr.seq ?_
    refine Tr.region_f (fun _ => false) ?_
    refine W.q rfl rfl rfl rfl (by decide) (Yd.as rfl .c) ?_
    refine W.end ?_
    refine NX.sub (env' := [(4, _)]) ⟨rfl, trivial⟩ ?_
    refine NX.then ?_
    refine Tr.ret' (RT.then ?_)
    refine res1 rfl rfl ?_
    intro w hc
    cases hr
    exact ⟨rfl, hc⟩
  · have hr := cond_f hb hr
    refine Tr.skip' ?_
    refine NX.then ?_
    refine Tr.seq ?_
    refine Tr.seq ?_
    refine Tr.region_f (fun _ => false) ?_
    refine W.q rfl rfl rfl rfl (by decide) (Yd.as rfl .c) ?_
    refine W.end ?_
    refine NX.sub (env' := [(0, _), (1, _), (5, _)]) ⟨rfl, rfl, rfl, trivial⟩ ?_
    refine NX.then ?_
    refine Tr.join (S := fun env x => env = [] ∧ x = ⟨m, l⟩ ∧ syllogistref_Bools_k3 = some r) ?_ (fun hk4 => ?_)
    · rintro _ _ ⟨rfl, rfl, hr⟩
      unfold syllogistref_Bools_k3 at hr
      try dsimp only at hr
      refine NX.then ?_
      refine Tr.seq ?_
      refine Tr.region_f (fun _ => false) ?_
      refine W.q rfl rfl rfl rfl (by decide) (Yd.as rfl .c) ?_
      refine W.end ?_
      refine NX.sub (env' := [(4, _)]) ⟨rfl, trivial⟩ ?_
      refine NX.then ?_
      refine Tr.ret' ?_
      refine res1 rfl rfl ?_
      intro w hc
      cases hr
      exact ⟨rfl, hc⟩
    have hlen5 := (ha_0).2.1
    refine Tr.block ?_
    refine Tr.sub (env' := [(0, _), (1, _), (5, _)]) ⟨rfl, rfl, rfl, trivial⟩ ?_
    refine Tr.loop (S := fun n (z : Int × Unit) env x => match z with | (i_6, _) => env = [(0, ua_0), (1, ub_1), (5, .int .i64 i_6)] ∧ x = ⟨m, l⟩ ∧ n = ((a_0.length : Int) - i_6).toNat ∧ 0 ≤ i_6 ∧ forK (σ := Unit) (fun i s nx_ => syllogistref_Bools_b7 a_0 b_1 i nx_) (fun _ => syllogistref_Bools_k3) n i_6 () = some r) _ ((0 : Int), ()) ⟨rfl, rfl, rfl, (by omega), hr⟩ ?_
    rintro n9 ⟨i_6, _⟩ env x ⟨rfl, rfl, hni_6, h0i_6, hr⟩
    cases n9 with
    | zero =>
      simp only [forK] at hr
      refine Tr.seq ?_
      refine Tr.seq ?_
      refine Tr.region_f (fun _ => false) ?_
      refine W.q rfl rfl rfl rfl (by decide) (Yd.mv rfl (.t rfl)) ?_
      refine W.q rfl rfl rfl rfl (by decide) (Yd.mv rfl (.t rfl)) ?_
      refine W.q rfl rfl rfl rfl (by decide) (Yd.lenR ha_0 rfl Try.underlying23 (.t rfl)) ?_
      refine W.q rfl rfl rfl rfl (by decide) (Yd.lss rfl (.t rfl) (.t rfl)) ?_
      refine W.end ?_
      refine NX.sub (env' := [(0, _), (1, _), (5, _), (14, _)]) ⟨rfl, rfl, rfl, rfl, trivial⟩ ?_
      refine NX.then ?_
      refine Tr.cond (.t rfl) (fun hb => ?_) (fun hb => ?_)
      · exact absurd (hb.symm.trans (fr_end hni_6)) (by decide)
      ·
        refine Tr.exit' (EX.then (EX.then (EX.block ?_)))
        refine NX.sub (env' := []) trivial ?_
        exact hk4 _ _ ⟨rfl, rfl, hr⟩
    | succ n9 =>
      obtain ⟨nx8, hnx8, hr⟩ := forK_succ hr
      try dsimp only at hr
      unfold syllogistref_Bools_b7 at hr
      try dsimp only at hr
      have hlti_6 := fr_bnd hni_6
      refine Tr.seq ?_
      refine Tr.seq ?_
      refine Tr.region_f (fun _ => false) ?_
      refine W.q rfl rfl rfl rfl (by decide) (Yd.mv rfl (.t rfl)) ?_
      refine W.q rfl rfl rfl rfl (by decide) (Yd.mv rfl (.t rfl)) ?_
      refine W.q rfl rfl rfl rfl (by decide) (Yd.lenR ha_0 rfl Try.underlying23 (.t rfl)) ?_
      refine W.q rfl rfl rfl rfl (by decide) (Yd.lss rfl (.t rfl) (.t rfl)) ?_
      refine W.end ?_
      refine NX.sub (env' := [(0, _), (1, _), (5, _), (14, _)]) ⟨rfl, rfl, rfl, rfl, trivial⟩ ?_
      refine NX.then ?_
      refine Tr.cond (.t rfl) (fun hb => ?_) (fun hb => ?_)
      rotate_left
      · exact absurd (hb.symm.trans (fr_go hni_6)) (by decide)
      ·
        refine Tr.skip' ?_
        refine NX.then ?_
        refine Tr.seq ?_
        refine Tr.block ?_
        refine Tr.seq ?_
        obtain ⟨y10, hy11, hr⟩ := bind_some hr
        obtain ⟨y12, hy13, hr⟩ := bind_some hr
        refine Tr.region_x (fun _ => false) (fun _ => false) (Ord.of [0, 1, 2, 3, 4, 5, 6, 7, 8]) FM (by kernel_rfl) ?_
        refine W.q rfl rfl rfl rfl (by decide) (Yd.mv rfl (.t rfl)) ?_
        refine W.q rfl rfl rfl rfl (by decide) (Yd.mv rfl (.t rfl)) ?_
        refine W.q rfl rfl rfl rfl (by decide) (Yd.idxR ha_0 hy11 rfl Try.underlying23 SZ4 (.t rfl) (.t rfl)) ?_
        refine W.q rfl rfl rfl rfl (by decide) (Yd.ldF ha_0 (.refl _) hy11 rfl rfl ON4 (.t rfl)) ?_
        refine W.q rfl rfl rfl rfl (by decide) (Yd.mv rfl (.t rfl)) ?_
        refine W.q rfl rfl rfl rfl (by decide) (Yd.mv rfl (.t rfl)) ?_
        refine W.q rfl rfl rfl rfl (by decide) (Yd.idxR hb_1 hy13 rfl Try.underlying23 SZ4 (.t rfl) (.t rfl)) ?_
        refine W.q rfl rfl rfl rfl (by decide) (Yd.ldF hb_1 (.refl _) hy13 rfl rfl ON4 (.t rfl)) ?_
        refine W.q rfl rfl rfl rfl (by decide) (Yd.neqB Try.underlying4 rfl (.t rfl) (.t rfl)) ?_
        refine W.end ?_
        refine NX.sub (env' := [(0, _), (1, _), (5, _), (25, _)]) ⟨rfl, rfl, rfl, rfl, trivial⟩ ?_
        refine NX.then ?_
        refine Tr.cond (.t rfl) (fun hb => ?_) (fun hb => ?_)
        · have hr := cond_t hb hr
          refine Tr.seq ?_
          refine Tr.region_f (fun _ => false) ?_
          refine W.q rfl rfl rfl rfl (by decide) (Yd.as rfl .c) ?_
          refine W.end ?_
          refine NX.sub (env' := [(4, _)]) ⟨rfl, trivial⟩ ?_
          refine NX.then ?_
          refine Tr.ret' (RT.block (RT.then (RT.then (RT.block (RT.then ?_)))))
          refine res1 rfl rfl ?_
          intro w hc
          cases hr
          exact ⟨rfl, hc⟩
        · have hr := cond_f hb hr
          refine Tr.skip' ?_
          refine NX.block ?_
          refine NX.then ?_
          refine Tr.region_f (fun _ => false) ?_
          refine W.q rfl rfl rfl rfl (by decide) (Yd.mv rfl (.t rfl)) ?_
          refine W.q rfl rfl rfl rfl (by decide) (Yd.add rfl (.t rfl) .c) ?_
          refine W.q rfl rfl rfl rfl (by decide) (Yd.as rfl (.t rfl)) ?_
          refine W.end ?_
          refine NX.sub (env' := [(0, _), (1, _), (5, _)]) ⟨rfl, rfl, rfl, trivial⟩ ?_
          refine NX.sub (env' := [(0, _), (1, _), (5, _)]) ⟨rfl, rfl, rfl, trivial⟩ ?_
          have hw := w64_id (n := i_6 + 1) (by omega) (by omega)
          exact NX.again n9 (i_6 + 1, ()) (Nat.lt_succ_self _) ⟨(by rw [hw] <;> rfl), rfl, (fr_dec hni_6), (by omega), ((hnx8 _).symm.trans hr)⟩

def syllogistlaw_ChoiceReads (fuel : Nat) (n_0 : Int) (l_1 : List Branch) (root_2 : Int) : Option (Bool) :=
  (choice_Read fuel n_0 l_1 root_2).bind fun r1 =>
  (syllogistlaw_treeCode n_0 l_1 root_2).bind fun r5 =>
  (bif (r5 != (0 : Int)) then
  some (((r1.2 == r5) && ((r1.1.length : Int) == (0 : Int))))
  else
  (bif ((r1.2 == (0 : Int)) == true) then
  (syllogistref_Read fuel n_0 l_1 root_2).bind fun r8 =>
  (syllogistref_Bools r1.1 r8).bind fun r12 =>
  some (((r1.2 == (0 : Int)) && r12))
  else
  some (((r1.2 == (0 : Int)) && false))))

set_option maxRecDepth 100000 in
theorem syllogistlaw_ChoiceReads_ok (w0 : World) (m : Snap) (l : List HI) (fuel : Nat) (n_0 : Int) (ul_1 : Value) (l_1 : List Branch) (hl_1 : RS rBranch m ul_1 l_1) (root_2 : Int) (r : Bool) (hr : syllogistlaw_ChoiceReads fuel n_0 l_1 root_2 = some r) (w : World) (hc : cX w0 ⟨m, l⟩ w) :
    Calls Try.prog 3 [.int .i64 n_0, ul_1, .int .i64 root_2].toArray w fun e w' => e = .returned (.bool r) ∧ cX w0 ⟨m, l⟩ w' := by
  unfold syllogistlaw_ChoiceReads at hr
  refine calls_of_Tr (N := 41) Try.func3 rfl hc rfl (Nat.le_of_ble_eq_true rfl) ?_
  refine Tr.seq ?_
  refine Tr.region_f (fun _ => false) ?_
  refine W.q rfl rfl rfl rfl (by decide) (Yd.as rfl .c) ?_
  refine W.end ?_
  refine NX.sub (env' := [(0, _), (1, _), (2, _)]) ⟨rfl, rfl, rfl, trivial⟩ ?_
  refine NX.then ?_
  refine Tr.seq ?_
  obtain ⟨r1, hr2, hr⟩ := bind_some hr
  refine Tr.region_f (fun i => Nat.beq i 3) ?_
  refine W.q rfl rfl rfl rfl (by decide) (Yd.mv rfl (.t rfl)) ?_
  refine W.q rfl rfl rfl rfl (by decide) (Yd.mv rfl (.t rfl)) ?_
  refine W.q rfl rfl rfl rfl (by decide) (Yd.mv rfl (.t rfl)) ?_
  refine W.e rfl rfl rfl rfl (by decide) (Ef.call (R := fun z x' => ∃ v3 : Value, z = .tuple #[v3, .int .i64 r1.2] ∧ x' = ⟨m, hownT 4 1 encB v3 r1.1 :: l⟩) rfl Try.func12 rfl rfl (.cons (.t rfl) (.cons (.t rfl) (.cons (.t rfl) .nil))) (fun w hw => (choice_Read_ok w0 _ _ fuel n_0 _ _ hl_1 root_2 _ hr2 w hw).mono fun e w' ⟨v3, he, hc'⟩ => ⟨_, _, he, ⟨v3, rfl, rfl⟩, hc'⟩)) ?_
  rintro _ _ ⟨v3, rfl, rfl⟩
  refine ⟨.inl rfl, ?_⟩
  refine W.cast (m' := m) (l' := hownT 4 1 encB v3 _ :: l) rfl rfl ?_
  refine W.q rfl rfl rfl rfl (by decide) (Yd.mv rfl (.t rfl)) ?_
  refine W.q rfl rfl rfl rfl (by decide) (Yd.ext rfl (.t rfl) rfl) ?_
  refine W.q rfl rfl rfl rfl (by decide) (Yd.ext rfl (.t rfl) rfl) ?_
  refine W.q rfl rfl rfl rfl (by decide) (Yd.as rfl (.t rfl)) ?_
  refine W.q rfl rfl rfl rfl (by decide) (Yd.as rfl (.t rfl)) ?_
  refine W.end ?_
  refine NX.sub (env' := [(0, _), (1, _), (2, _), (7, _), (8, _)]) ⟨rfl, rfl, rfl, rfl, rfl, trivial⟩ ?_
  refine NX.then ?_
  refine Tr.seq ?_
  obtain ⟨r5, hr6, hr⟩ := bind_some hr
  refine Tr.region_f (fun _ => false) ?_
  refine W.q rfl rfl rfl rfl (by decide) (Yd.mv rfl (.t rfl)) ?_
  refine W.q rfl rfl rfl rfl (by decide) (Yd.mv rfl (.t rfl)) ?_
  refine W.q rfl rfl rfl rfl (by decide) (Yd.mv rfl (.t rfl)) ?_
  refine W.q rfl rfl rfl rfl (by decide) (Yd.call (v := .int .i64 r5) rfl Try.func13 rfl rfl (.cons (.t rfl) (.cons (.t rfl) (.cons (.t rfl) .nil))) (fun x' hx w hw => syllogistlaw_treeCode_ok w0 x'.m x'.l n_0 _ _ (hl_1.mono hx.1) root_2 _ hr6 w hw)) ?_
  refine W.q rfl rfl rfl rfl (by decide) (Yd.as rfl (.t rfl)) ?_
  refine W.end ?_
  refine NX.sub (env' := [(0, _), (1, _), (2, _), (7, _), (8, _), (9, _)]) ⟨rfl, rfl, rfl, rfl, rfl, rfl, trivial⟩ ?_
  refine NX.then ?_
  refine Tr.seq ?_
  refine Tr.seq ?_
  refine Tr.region_f (fun _ => false) ?_
  refine W.q rfl rfl rfl rfl (by decide) (Yd.mv rfl (.t rfl)) ?_
  refine W.q rfl rfl rfl rfl (by decide) (Yd.neq rfl (.t rfl) .c) ?_
  refine W.end ?_
  refine NX.sub (env' := [(0, _), (1, _), (2, _), (7, _), (8, _), (9, _), (22, _)]) ⟨rfl, rfl, rfl, rfl, rfl, rfl, rfl, trivial⟩ ?_
  refine NX.then ?_
  refine Tr.cond (.t rfl) (fun hb => ?_) (fun hb => ?_)
  · have hr := cond_t hb hr
    refine Tr.seq ?_
    refine Tr.region_f (fun _ => false) ?_
    refine W.q rfl rfl rfl rfl (by decide) (Yd.mv rfl (.t rfl)) ?_
    refine W.q rfl rfl rfl rfl (by decide) (Yd.mv rfl (.t rfl)) ?_
    refine W.q rfl rfl rfl rfl (by decide) (Yd.eql rfl (.t rfl) (.t rfl)) ?_
    refine W.q rfl rfl rfl rfl (by decide) (Yd.mv rfl (.t rfl)) ?_
    refine W.g rfl rfl rfl rfl rfl (.t rfl _) rfl (by decide) (fun hG => Yd.mv rfl (.t rfl)) ?_
    refine W.g rfl rfl rfl rfl rfl (.t rfl _) rfl (by decide) (fun hG => Yd.lenO (p := 0) rfl rfl Try.underlying23 (.g rfl hG)) ?_
    refine W.g rfl rfl rfl rfl rfl (.t rfl _) rfl (by decide) (fun hG => Yd.eql rfl (.g rfl hG) .c) ?_
    refine W.q rfl rfl rfl rfl (by decide) (Yd.and rfl (.t rfl) .c rfl rfl) ?_
    refine W.q rfl rfl rfl rfl (by decide) (Yd.as rfl (.t rfl)) ?_
    refine W.end ?_
    refine NX.sub (env' := [(6, _)]) ⟨rfl, trivial⟩ ?_
    refine NX.drop (l' := l) (.cons _ (.refl _)) ?_
    refine NX.then ?_
    refine Tr.ret' (RT.then ?_)
    refine res1 rfl rfl ?_
    intro w hc
    cases hr
    exact ⟨rfl, hc⟩
  · have hr := cond_f hb hr
    refine Tr.skip' ?_
    refine NX.then ?_
    refine Tr.seq ?_
    refine Tr.region_f (fun i => Nat.beq i 7) ?_
    refine W.q rfl rfl rfl rfl (by decide) (Yd.mv rfl (.t rfl)) ?_
    refine W.q rfl rfl rfl rfl (by decide) (Yd.eql rfl (.t rfl) .c) ?_
    refine W.q rfl rfl rfl rfl (by decide) (Yd.mv rfl (.t rfl)) ?_
    refine W.g rfl rfl rfl rfl rfl (.t rfl _) rfl (by decide) (fun hG => Yd.mv rfl (.t rfl)) ?_
    refine W.g rfl rfl rfl rfl rfl (.t rfl _) rfl (by decide) (fun hG => Yd.mv rfl (.t rfl)) ?_
    refine W.g rfl rfl rfl rfl rfl (.t rfl _) rfl (by decide) (fun hG => Yd.mv rfl (.t rfl)) ?_
    refine W.g rfl rfl rfl rfl rfl (.t rfl _) rfl (by decide) (fun hG => Yd.mv rfl (.t rfl)) ?_
    refine W.split (b := ((r1.2 == (0 : Int)) == true)) (fun hb7 => ?_) (fun hb7 => ?_)
    · have hr := cond_t hb7 hr
      obtain ⟨r8, hr9, hr⟩ := bind_some hr
      obtain ⟨r12, hr13, hr⟩ := bind_some hr
      refine W.ge rfl rfl rfl rfl rfl (.t rfl _) hb7 rfl (by decide) (Ef.call (R := fun z x' => ∃ v10 : Value, z = v10 ∧ x' = ⟨m, hownT 4 1 encB v10 r8 :: hownT 4 1 encB v3 r1.1 :: l⟩) rfl Try.func15 rfl rfl (.cons (.g rfl hb7) (.cons (.g rfl hb7) (.cons (.g rfl hb7) .nil))) (fun w hw => (syllogistref_Read_ok w0 _ _ fuel n_0 _ _ hl_1 root_2 _ hr9 w hw).mono fun e w' ⟨v10, he, hc'⟩ => ⟨_, _, he, ⟨v10, rfl, rfl⟩, hc'⟩)) ?_
      rintro v10 _ ⟨_, rfl, rfl⟩
      refine ⟨.inl rfl, ?_⟩
      refine W.cast (m' := m) (l' := hownT 4 1 encB v10 _ :: hownT 4 1 encB v3 _ :: l) rfl rfl ?_
      refine W.g rfl rfl rfl rfl rfl (.t rfl _) rfl (by decide) (fun hG => Yd.call (v := .bool r12) rfl Try.func14 rfl rfl (.cons (.g rfl hb7) (.cons (.t rfl) .nil)) (by intro x' hx w hw; obtain ⟨p0, p1, hp0, hp1⟩ := hx.at2 (a := 1) (b := 0) rfl rfl rfl; obtain ⟨m1, hm1, hc1, ⟨L1, hl0a, hl0b'⟩, hback1⟩ := cX_lend hw hp0 lone_own; obtain ⟨m2, hm2', hc2, ⟨L2, hl1a, hl1b⟩, hback2⟩ := cX_lend hc1 hp1 lone_own; have hm2 := hm1.trans hm2'; have hl0b : ∀ q ∈ L1, m2 q.1 = some q.2 := fun q hq => hm2' _ _ (hl0b' q hq); have hL1 : RS rB m2 _ _ := RS_of_own hl0a hl0b; have hL2 : RS rB m2 _ _ := RS_of_own hl1a hl1b; exact (syllogistref_Bools_ok w0 m2 _ _ _ hL1 _ _ hL2 _ hr13 w hc2).mono fun e w' ⟨he, hc'⟩ => ⟨he, (hback1 m1 _ _ w' (.refl _) hp0).2 ((hback2 m2 _ _ w' (.refl _) hp1).2 hc')⟩)) ?_
      refine W.q rfl rfl rfl rfl (by decide) (Yd.and rfl (.t rfl) .c rfl rfl) ?_
      refine W.q rfl rfl rfl rfl (by decide) (Yd.as rfl (.t rfl)) ?_
      refine W.end ?_
      refine NX.sub (env' := [(6, _)]) ⟨rfl, trivial⟩ ?_
      refine NX.drop (l' := l) (.cons _ (.cons _ (.refl _))) ?_
      refine NX.then ?_
      refine Tr.ret' ?_
      refine res1 rfl rfl ?_
      intro w hc
      cases hr
      exact ⟨rfl, hc⟩
    · have hr := cond_f hb7 hr
      refine W.gF rfl rfl rfl rfl (.t rfl _) hb7 rfl (by decide) (undef) ?_
      refine W.gF rfl rfl rfl rfl (.t rfl _) hb7 rfl (by decide) (.bool false) ?_
      refine W.q rfl rfl rfl rfl (by decide) (Yd.and rfl (.t rfl) .c rfl rfl) ?_
      refine W.q rfl rfl rfl rfl (by decide) (Yd.as rfl (.t rfl)) ?_
      refine W.end ?_
      refine NX.sub (env' := [(6, _)]) ⟨rfl, trivial⟩ ?_
      refine NX.drop (l' := l) (.cons _ (.refl _)) ?_
      refine NX.then ?_
      refine Tr.ret' ?_
      refine res1 rfl rfl ?_
      intro w hc
      cases hr
      exact ⟨rfl, hc⟩

def clause_wrong_c1 (c_0 : Clause) (cp_0 : Int) : Option (Bool) :=
  bif decide (0 ≤ cp_0) then
  some ((((c_0.yes ||| c_0.no) >>> cp_0.toNat) != 0#32)) else none

set_option maxRecDepth 100000 in
theorem clause_wrong_c1_ok (w0 : World) (m : Snap) (l : List HI) (c_0 : Clause) (fp0 fb0 : Nat) (cp_0 : Int) (hfp0 : l[fp0]? = some (hcells fb0 [.int .i64 cp_0] 3)) (r : Bool) (hr : clause_wrong_c1 c_0 cp_0 = some r) (w : World) (hc : cX w0 ⟨m, l⟩ w) :
    Calls Try.prog 63 [.agg #[.int .u32 (c_0.yes.toNat : Int), .int .u32 (c_0.no.toNat : Int)], bp fb0 0].toArray w fun e w' => e = .returned (.bool r) ∧ cX w0 ⟨m, l⟩ w' := by
  unfold clause_wrong_c1 at hr
  refine calls_of_Tr (N := 12) Try.func63 rfl hc rfl (Nat.le_of_ble_eq_true rfl) ?_
  refine Tr.seq ?_
  refine Tr.region_f (fun i => Nat.beq i 0) ?_
  refine W.e rfl rfl rfl rfl (by decide) (Ef.bx rfl (.t rfl) rfl) ?_
  rintro _ _ ⟨b1, rfl, rfl⟩
  refine ⟨.inl rfl, ?_⟩
  refine W.cast (m' := m) (l' := hcells b1 [_, _] 46 :: l) rfl rfl ?_
  refine W.q rfl rfl rfl rfl (by decide) (Yd.as rfl .c) ?_
  refine W.end ?_
  refine NX.sub (env' := [(1, _), (2, _)]) ⟨rfl, rfl, trivial⟩ ?_
  refine NX.then ?_
  refine Tr.seq ?_
  obtain ⟨hq3, hr⟩ := guard_some hr; replace hq3 := of_decide_eq_true hq3
  refine Tr.region_f (fun _ => false) ?_
  refine W.q rfl rfl rfl rfl (by decide) (Yd.fldB rfl Try.underlying46 rfl SZ41 rfl (.t rfl)) ?_
  refine W.q rfl rfl rfl rfl (by decide) (Yd.ldB (pos := 0) rfl rfl rfl ON41 (.t rfl)) ?_
  refine W.q rfl rfl rfl rfl (by decide) (Yd.fldB rfl Try.underlying46 rfl SZ41 rfl (.t rfl)) ?_
  refine W.q rfl rfl rfl rfl (by decide) (Yd.ldB (pos := 0) rfl rfl rfl ON41 (.t rfl)) ?_
  refine W.q rfl rfl rfl rfl (by decide) (Yd.orU (a := c_0.yes) (b := c_0.no) rfl (.t rfl) (.t rfl)) ?_
  refine W.q rfl rfl rfl rfl (by decide) (Yd.ldB (pos := (fp0 + 1)) hfp0 rfl rfl ON3 (.t rfl)) ?_
  refine W.q rfl rfl rfl rfl (by decide) (Yd.shrU (a := (c_0.yes ||| c_0.no)) rfl (.t rfl) (.t rfl) hq3) ?_
  refine W.q rfl rfl rfl rfl (by decide) (Yd.neqU (a := ((c_0.yes ||| c_0.no) >>> cp_0.toNat)) (b := 0#32) rfl (.t rfl) .c) ?_
  refine W.q rfl rfl rfl rfl (by decide) (Yd.as rfl (.t rfl)) ?_
  refine W.end ?_
  refine NX.sub (env' := [(3, _)]) ⟨rfl, trivial⟩ ?_
  refine NX.drop (l' := l) (.cons _ (.refl _)) ?_
  refine NX.then ?_
  refine Tr.ret' ?_
  refine res1 rfl rfl ?_
  intro w hc
  cases hr
  exact ⟨rfl, hc⟩

def slices_IndexFunc_SapiClauseapiClause_k3 : Option (Int) :=
  some ((-1 : Int))

def slices_IndexFunc_SapiClauseapiClause_b7 (s_0 : List Clause) (f_1 : Clause → Option Bool) (t_6 : Int) (nx8 : Unit → Option (Int)) : Option (Int) :=
  (geti s_0 t_6).bind fun y10 =>
  (f_1 y10).bind fun r12 =>
  (bif r12 then
  some t_6
  else
  nx8 ())

def slices_IndexFunc_SapiClauseapiClause (s_0 : List Clause) (f_1 : Clause → Option Bool) : Option (Int) :=
  forK (σ := Unit) (fun i s nx_ => slices_IndexFunc_SapiClauseapiClause_b7 s_0 f_1 i nx_) (fun _ => slices_IndexFunc_SapiClauseapiClause_k3) ((s_0.length : Int) - (0 : Int)).toNat (0 : Int) ()

set_option maxRecDepth 100000 in
theorem slices_IndexFunc_SapiClauseapiClause_ok (w0 : World) (m : Snap) (l : List HI) (us_0 : Value) (s_0 : List Clause) (hs_0 : RS rClause m us_0 s_0) (uf_1 : Value) (f_1 : Clause → Option Bool) (hf_1 : Fq Try.prog w0 ⟨m, l⟩ uf_1 (α := Clause) (β := Bool) (fun _ v a => v = .agg #[.int .u32 (a.yes.toNat : Int), .int .u32 (a.no.toNat : Int)]) (fun b => .bool b) f_1) (r : Int) (hr : slices_IndexFunc_SapiClauseapiClause s_0 f_1 = some r) (w : World) (hc : cX w0 ⟨m, l⟩ w) :
    Calls Try.prog 64 [us_0, uf_1].toArray w fun e w' => e = .returned (.int .i64 r) ∧ cX w0 ⟨m, l⟩ w' := by
  unfold slices_IndexFunc_SapiClauseapiClause at hr
  refine calls_of_Tr (N := 19) Try.func64 rfl hc rfl (Nat.le_of_ble_eq_true rfl) ?_
  refine Tr.seq ?_
  refine Tr.region_f (fun _ => false) ?_
  refine W.q rfl rfl rfl rfl (by decide) (Yd.as rfl .c) ?_
  refine W.end ?_
  refine NX.sub (env' := [(0, _), (1, _)]) ⟨rfl, rfl, trivial⟩ ?_
  refine NX.then ?_
  refine Tr.seq ?_
  refine Tr.seq ?_
  refine Tr.region_f (fun _ => false) ?_
  refine W.q rfl rfl rfl rfl (by decide) (Yd.mv rfl (.t rfl)) ?_
  refine W.q rfl rfl rfl rfl (by decide) (Yd.lenR hs_0 rfl Try.underlying40 (.t rfl)) ?_
  refine W.q rfl rfl rfl rfl (by decide) (Yd.mv rfl .c) ?_
  refine W.end ?_
  refine NX.sub (env' := [(0, _), (1, _), (7, _), (8, _)]) ⟨rfl, rfl, rfl, rfl, trivial⟩ ?_
  refine NX.then ?_
  refine Tr.join (S := fun env x => env = [] ∧ x = ⟨m, l⟩ ∧ slices_IndexFunc_SapiClauseapiClause_k3 = some r) ?_ (fun hk4 => ?_)
  · rintro _ _ ⟨rfl, rfl, hr⟩
    unfold slices_IndexFunc_SapiClauseapiClause_k3 at hr
    try dsimp only at hr
    refine NX.then ?_
    refine Tr.seq ?_
    refine Tr.region_f (fun _ => false) ?_
    refine W.q rfl rfl rfl rfl (by decide) (Yd.as rfl .c) ?_
    refine W.end ?_
    refine NX.sub (env' := [(4, _)]) ⟨rfl, trivial⟩ ?_
    refine NX.then ?_
    refine Tr.ret' ?_
    refine res1 rfl rfl ?_
    intro w hc
    cases hr
    exact ⟨rfl, hc⟩
  have hlen5 := (hs_0).2.1
  refine Tr.block ?_
  refine Tr.sub (env' := [(0, _), (1, _), (7, _), (8, _)]) ⟨rfl, rfl, rfl, rfl, trivial⟩ ?_
  refine Tr.loop (S := fun n (z : Int × Unit) env x => match z with | (t_6, _) => env = [(0, us_0), (1, uf_1), (7, .int .i64 ((s_0.length : Int))), (8, .int .i64 t_6)] ∧ x = ⟨m, l⟩ ∧ n = ((s_0.length : Int) - t_6).toNat ∧ 0 ≤ t_6 ∧ forK (σ := Unit) (fun i s nx_ => slices_IndexFunc_SapiClauseapiClause_b7 s_0 f_1 i nx_) (fun _ => slices_IndexFunc_SapiClauseapiClause_k3) n t_6 () = some r) _ ((0 : Int), ()) ⟨rfl, rfl, rfl, (by omega), hr⟩ ?_
  rintro n9 ⟨t_6, _⟩ env x ⟨rfl, rfl, hnt_6, h0t_6, hr⟩
  cases n9 with
  | zero =>
    simp only [forK] at hr
    refine Tr.seq ?_
    refine Tr.region_f (fun _ => false) ?_
    refine W.q rfl rfl rfl rfl (by decide) (Yd.lss rfl (.t rfl) (.t rfl)) ?_
    refine W.end ?_
    refine NX.sub (env' := [(0, _), (1, _), (7, _), (8, _), (9, _)]) ⟨rfl, rfl, rfl, rfl, rfl, trivial⟩ ?_
    refine NX.then ?_
    refine Tr.seq ?_
    refine Tr.cond (.t rfl) (fun hb => ?_) (fun hb => ?_)
    · exact absurd (hb.symm.trans (fr_end hnt_6)) (by decide)
    ·
      refine Tr.exit' (EX.then (EX.then (EX.block ?_)))
      refine NX.sub (env' := []) trivial ?_
      exact hk4 _ _ ⟨rfl, rfl, hr⟩
  | succ n9 =>
    obtain ⟨nx8, hnx8, hr⟩ := forK_succ hr
    try dsimp only at hr
    unfold slices_IndexFunc_SapiClauseapiClause_b7 at hr
    try dsimp only at hr
    have hltt_6 := fr_bnd hnt_6
    refine Tr.seq ?_
    refine Tr.region_f (fun _ => false) ?_
    refine W.q rfl rfl rfl rfl (by decide) (Yd.lss rfl (.t rfl) (.t rfl)) ?_
    refine W.end ?_
    refine NX.sub (env' := [(0, _), (1, _), (7, _), (8, _), (9, _)]) ⟨rfl, rfl, rfl, rfl, rfl, trivial⟩ ?_
    refine NX.then ?_
    refine Tr.seq ?_
    refine Tr.cond (.t rfl) (fun hb => ?_) (fun hb => ?_)
    rotate_left
    · exact absurd (hb.symm.trans (fr_go hnt_6)) (by decide)
    ·
      refine Tr.skip' ?_
      refine NX.then ?_
      refine Tr.seq ?_
      refine Tr.block ?_
      refine Tr.seq ?_
      refine Tr.region_f (fun _ => false) ?_
      refine W.q rfl rfl rfl rfl (by decide) (Yd.mv rfl (.t rfl)) ?_
      refine W.q rfl rfl rfl rfl (by decide) (Yd.as rfl (.t rfl)) ?_
      refine W.end ?_
      refine NX.sub (env' := [(0, _), (1, _), (7, _), (8, _), (5, _)]) ⟨rfl, rfl, rfl, rfl, rfl, trivial⟩ ?_
      refine NX.then ?_
      refine Tr.seq ?_
      obtain ⟨y10, hy11, hr⟩ := bind_some hr
      obtain ⟨r12, hr13, hr⟩ := bind_some hr
      refine Tr.region_f (fun _ => false) ?_
      refine W.q rfl rfl rfl rfl (by decide) (Yd.mv rfl (.t rfl)) ?_
      refine W.q rfl rfl rfl rfl (by decide) (Yd.mv rfl (.t rfl)) ?_
      refine W.q rfl rfl rfl rfl (by decide) (Yd.mv rfl (.t rfl)) ?_
      refine W.q rfl rfl rfl rfl (by decide) (Yd.idxR hs_0 hy11 rfl Try.underlying40 SZ46 (.t rfl) (.t rfl)) ?_
      refine W.q rfl rfl rfl rfl (by decide) (Yd.ldFs (us := [_, _]) hs_0 (.refl _) hy11 rfl rfl ON46 US46 SZ46 (.t rfl)) ?_
      refine W.q rfl rfl rfl rfl (by decide) (Yd.callF hf_1 ⟨(.refl _), [], rfl⟩ rfl (.t rfl) (.t rfl) (fun _ _ => rfl) hr13) ?_
      refine W.end ?_
      refine NX.sub (env' := [(0, _), (1, _), (7, _), (8, _), (5, _), (16, _)]) ⟨rfl, rfl, rfl, rfl, rfl, rfl, trivial⟩ ?_
      refine NX.then ?_
      refine Tr.cond (.t rfl) (fun hb => ?_) (fun hb => ?_)
      · have hr := cond_t hb hr
        refine Tr.seq ?_
        refine Tr.region_f (fun _ => false) ?_
        refine W.q rfl rfl rfl rfl (by decide) (Yd.mv rfl (.t rfl)) ?_
        refine W.q rfl rfl rfl rfl (by decide) (Yd.as rfl (.t rfl)) ?_
        refine W.end ?_
        refine NX.sub (env' := [(4, _)]) ⟨rfl, trivial⟩ ?_
        refine NX.then ?_
        refine Tr.ret' (RT.block (RT.then (RT.then (RT.block (RT.then ?_)))))
        refine res1 rfl rfl ?_
        intro w hc
        cases hr
        exact ⟨rfl, hc⟩
      · have hr := cond_f hb hr
        refine Tr.skip' ?_
        refine NX.block ?_
        refine NX.then ?_
        refine Tr.region_f (fun _ => false) ?_
        refine W.q rfl rfl rfl rfl (by decide) (Yd.add rfl (.t rfl) .c) ?_
        refine W.q rfl rfl rfl rfl (by decide) (Yd.mv rfl (.t rfl)) ?_
        refine W.end ?_
        refine NX.sub (env' := [(0, _), (1, _), (7, _), (8, _)]) ⟨rfl, rfl, rfl, rfl, trivial⟩ ?_
        refine NX.sub (env' := [(0, _), (1, _), (7, _), (8, _)]) ⟨rfl, rfl, rfl, rfl, trivial⟩ ?_
        have hw := w64_id (n := t_6 + 1) (by omega) (by omega)
        exact NX.again n9 (t_6 + 1, ()) (Nat.lt_succ_self _) ⟨(by rw [hw] <;> rfl), rfl, (fr_dec hnt_6), (by omega), ((hnx8 _).symm.trans hr)⟩

def slices_ContainsFunc_SapiClauseapiClause (s_0 : List Clause) (f_1 : Clause → Option Bool) : Option (Bool) :=
  (slices_IndexFunc_SapiClauseapiClause s_0 f_1).bind fun r1 =>
  some ((decide (r1 ≥ (0 : Int))))

set_option maxRecDepth 100000 in
theorem slices_ContainsFunc_SapiClauseapiClause_ok (w0 : World) (m : Snap) (l : List HI) (us_0 : Value) (s_0 : List Clause) (hs_0 : RS rClause m us_0 s_0) (uf_1 : Value) (f_1 : Clause → Option Bool) (hf_1 : Fq Try.prog w0 ⟨m, l⟩ uf_1 (α := Clause) (β := Bool) (fun _ v a => v = .agg #[.int .u32 (a.yes.toNat : Int), .int .u32 (a.no.toNat : Int)]) (fun b => .bool b) f_1) (r : Bool) (hr : slices_ContainsFunc_SapiClauseapiClause s_0 f_1 = some r) (w : World) (hc : cX w0 ⟨m, l⟩ w) :
    Calls Try.prog 45 [us_0, uf_1].toArray w fun e w' => e = .returned (.bool r) ∧ cX w0 ⟨m, l⟩ w' := by
  unfold slices_ContainsFunc_SapiClauseapiClause at hr
  refine calls_of_Tr (N := 9) Try.func45 rfl hc rfl (Nat.le_of_ble_eq_true rfl) ?_
  refine Tr.seq ?_
  refine Tr.region_f (fun _ => false) ?_
  refine W.q rfl rfl rfl rfl (by decide) (Yd.as rfl .c) ?_
  refine W.end ?_
  refine NX.sub (env' := [(0, _), (1, _)]) ⟨rfl, rfl, trivial⟩ ?_
  refine NX.then ?_
  refine Tr.seq ?_
  obtain ⟨r1, hr2, hr⟩ := bind_some hr
  refine Tr.region_f (fun _ => false) ?_
  refine W.q rfl rfl rfl rfl (by decide) (Yd.mv rfl (.t rfl)) ?_
  refine W.q rfl rfl rfl rfl (by decide) (Yd.mv rfl (.t rfl)) ?_
  refine W.q rfl rfl rfl rfl (by decide) (Yd.call (v := .int .i64 r1) rfl Try.func64 rfl rfl (.cons (.t rfl) (.cons (.t rfl) .nil)) (fun x' hx w hw => slices_IndexFunc_SapiClauseapiClause_ok w0 x'.m x'.l _ _ (hs_0.mono hx.1) _ f_1 (hf_1.mono (leX_trans _ _ _ ⟨(.refl _), [], rfl⟩ hx)) _ hr2 w hw)) ?_
  refine W.q rfl rfl rfl rfl (by decide) (Yd.geq rfl (.t rfl) .c) ?_
  refine W.q rfl rfl rfl rfl (by decide) (Yd.as rfl (.t rfl)) ?_
  refine W.end ?_
  refine NX.sub (env' := [(4, _)]) ⟨rfl, trivial⟩ ?_
  refine NX.then ?_
  refine Tr.ret' ?_
  refine res1 rfl rfl ?_
  intro w hc
  cases hr
  exact ⟨rfl, hc⟩

def clause_wrong (n_0 : Int) (l_1 : List Clause) : Option (Int) :=
  (bif (((decide (n_0 < (1 : Int))) || (decide (n_0 > (6 : Int)))) || (decide ((l_1.length : Int) > (16 : Int)))) then
  some ((1 : Int))
  else
  (slices_ContainsFunc_SapiClauseapiClause l_1 (fun a => clause_wrong_c1 a n_0)).bind fun r3 =>
  (bif r3 then
  some ((4 : Int))
  else
  some ((0 : Int))))

set_option maxRecDepth 100000 in
theorem clause_wrong_ok (w0 : World) (m : Snap) (l : List HI) (n_0 : Int) (ul_1 : Value) (l_1 : List Clause) (hl_1 : RS rClause m ul_1 l_1) (r : Int) (hr : clause_wrong n_0 l_1 = some r) (w : World) (hc : cX w0 ⟨m, l⟩ w) :
    Calls Try.prog 44 [.int .i64 n_0, ul_1].toArray w fun e w' => e = .returned (.int .i64 r) ∧ cX w0 ⟨m, l⟩ w' := by
  unfold clause_wrong at hr
  refine calls_of_Tr (N := 19) Try.func44 rfl hc rfl (Nat.le_of_ble_eq_true rfl) ?_
  refine Tr.seq ?_
  refine Tr.region_f (fun i => Nat.beq i 0) ?_
  refine W.e rfl rfl rfl rfl (by decide) (Ef.bx rfl (.t rfl) rfl) ?_
  rintro _ _ ⟨b1, rfl, rfl⟩
  refine ⟨.inl rfl, ?_⟩
  refine W.cast (m' := m) (l' := hcells b1 [_] 3 :: l) rfl rfl ?_
  refine W.q rfl rfl rfl rfl (by decide) (Yd.as rfl .c) ?_
  refine W.end ?_
  refine NX.sub (env' := [(1, _), (2, _)]) ⟨rfl, rfl, trivial⟩ ?_
  refine NX.then ?_
  refine Tr.seq ?_
  refine Tr.seq ?_
  refine Tr.region_f (fun _ => false) ?_
  refine W.q rfl rfl rfl rfl (by decide) (Yd.ldB (pos := 0) rfl rfl rfl ON3 (.t rfl)) ?_
  refine W.q rfl rfl rfl rfl (by decide) (Yd.lss rfl (.t rfl) .c) ?_
  refine W.q rfl rfl rfl rfl (by decide) (Yd.mv rfl (.t rfl)) ?_
  refine W.g rfl rfl rfl rfl rfl (.t rfl _) rfl (by decide) (fun hG => Yd.ldB (pos := 0) rfl rfl rfl ON3 (.t rfl)) ?_
  refine W.g rfl rfl rfl rfl rfl (.t rfl _) rfl (by decide) (fun hG => Yd.gtr rfl (.g rfl hG) .c) ?_
  refine W.q rfl rfl rfl rfl (by decide) (Yd.or rfl (.t rfl) .c rfl rfl) ?_
  refine W.q rfl rfl rfl rfl (by decide) (Yd.mv rfl (.t rfl)) ?_
  refine W.g rfl rfl rfl rfl rfl (.t rfl _) rfl (by decide) (fun hG => Yd.mv rfl (.t rfl)) ?_
  refine W.g rfl rfl rfl rfl rfl (.t rfl _) rfl (by decide) (fun hG => Yd.lenR hl_1 rfl Try.underlying40 (.g rfl hG)) ?_
  refine W.g rfl rfl rfl rfl rfl (.t rfl _) rfl (by decide) (fun hG => Yd.gtr rfl (.g rfl hG) .c) ?_
  refine W.q rfl rfl rfl rfl (by decide) (Yd.or rfl (.t rfl) .c rfl rfl) ?_
  refine W.end ?_
  refine NX.sub (env' := [(1, _), (2, _), (15, _)]) ⟨rfl, rfl, rfl, trivial⟩ ?_
  refine NX.then ?_
  refine Tr.cond (.t rfl) (fun hb => ?_) (fun hb => ?_)
  · have hr := cond_t hb hr
    refine Tr.seq ?_
    refine Tr.region_f (fun _ => false) ?_
    refine W.q rfl rfl rfl rfl (by decide) (Yd.as rfl .c) ?_
    refine W.end ?_
    refine NX.sub (env' := [(4, _)]) ⟨rfl, trivial⟩ ?_
    refine NX.drop (l' := l) (.cons _ (.refl _)) ?_
    refine NX.then ?_
    refine Tr.ret' (RT.then ?_)
    refine res1 rfl rfl ?_
    intro w hc
    cases hr
    exact ⟨rfl, hc⟩
  · have hr := cond_f hb hr
    refine Tr.skip' ?_
    refine NX.then ?_
    refine Tr.seq ?_
    refine Tr.seq ?_
    obtain ⟨r3, hr4, hr⟩ := bind_some hr
    refine Tr.region_f (fun _ => false) ?_
    refine W.q rfl rfl rfl rfl (by decide) (Yd.mv rfl (.t rfl)) ?_
    refine W.q rfl rfl rfl rfl (by decide) (Yd.mkf rfl (.cons (.t rfl) .nil)) ?_
    refine W.q rfl rfl rfl rfl (by decide) (Yd.call (v := .bool r3) rfl Try.func45 rfl rfl (.cons (.t rfl) (.cons (.t rfl) .nil)) (fun x' hx w hw => slices_ContainsFunc_SapiClauseapiClause_ok w0 x'.m x'.l _ _ (hl_1.mono hx.1) _ (fun a => clause_wrong_c1 a n_0) ⟨63, _, _, rfl, Try.func63, rfl, rfl, fun y hy w2 hw2 v a r2 hv hr2 => by obtain ⟨p5, hp5⟩ := (leX_trans _ _ _ hx hy).at (p := 0) rfl; obtain rfl := hv; exact clause_wrong_c1_ok w0 y.m y.l a p5 _ n_0 hp5 r2 hr2 w2 hw2⟩ _ hr4 w hw)) ?_
    refine W.end ?_
    refine NX.sub (env' := [(18, _)]) ⟨rfl, trivial⟩ ?_
    refine NX.drop (l' := l) (.cons _ (.refl _)) ?_
    refine NX.then ?_
    refine Tr.cond (.t rfl) (fun hb => ?_) (fun hb => ?_)
    · have hr := cond_t hb hr
      refine Tr.seq ?_
      refine Tr.region_f (fun _ => false) ?_
      refine W.q rfl rfl rfl rfl (by decide) (Yd.as rfl .c) ?_
      refine W.end ?_
      refine NX.sub (env' := [(4, _)]) ⟨rfl, trivial⟩ ?_
      refine NX.then ?_
      refine Tr.ret' (RT.then ?_)
      refine res1 rfl rfl ?_
      intro w hc
      cases hr
      exact ⟨rfl, hc⟩
    · have hr := cond_f hb hr
      refine Tr.skip' ?_
      refine NX.then ?_
      refine Tr.seq ?_
      refine Tr.region_f (fun _ => false) ?_
      refine W.q rfl rfl rfl rfl (by decide) (Yd.as rfl .c) ?_
      refine W.end ?_
      refine NX.sub (env' := [(4, _)]) ⟨rfl, trivial⟩ ?_
      refine NX.then ?_
      refine Tr.ret' ?_
      refine res1 rfl rfl ?_
      intro w hc
      cases hr
      exact ⟨rfl, hc⟩

def clause_Horn_c1 (c_0 : Clause) : Option (Bool) :=
  some (((c_0.yes &&& (c_0.yes - 1#32)) != 0#32))

set_option maxRecDepth 100000 in
theorem clause_Horn_c1_ok (w0 : World) (m : Snap) (l : List HI) (c_0 : Clause) (r : Bool) (hr : clause_Horn_c1 c_0 = some r) (w : World) (hc : cX w0 ⟨m, l⟩ w) :
    Calls Try.prog 46 [.agg #[.int .u32 (c_0.yes.toNat : Int), .int .u32 (c_0.no.toNat : Int)]].toArray w fun e w' => e = .returned (.bool r) ∧ cX w0 ⟨m, l⟩ w' := by
  unfold clause_Horn_c1 at hr
  refine calls_of_Tr (N := 10) Try.func46 rfl hc rfl (Nat.le_of_ble_eq_true rfl) ?_
  refine Tr.seq ?_
  refine Tr.region_f (fun i => Nat.beq i 0) ?_
  refine W.e rfl rfl rfl rfl (by decide) (Ef.bx rfl (.t rfl) rfl) ?_
  rintro _ _ ⟨b1, rfl, rfl⟩
  refine ⟨.inl rfl, ?_⟩
  refine W.cast (m' := m) (l' := hcells b1 [_, _] 46 :: l) rfl rfl ?_
  refine W.q rfl rfl rfl rfl (by decide) (Yd.as rfl .c) ?_
  refine W.end ?_
  refine NX.sub (env' := [(1, _)]) ⟨rfl, trivial⟩ ?_
  refine NX.then ?_
  refine Tr.seq ?_
  refine Tr.region_f (fun _ => false) ?_
  refine W.q rfl rfl rfl rfl (by decide) (Yd.fldB rfl Try.underlying46 rfl SZ41 rfl (.t rfl)) ?_
  refine W.q rfl rfl rfl rfl (by decide) (Yd.ldB (pos := 0) rfl rfl rfl ON41 (.t rfl)) ?_
  refine W.q rfl rfl rfl rfl (by decide) (Yd.fldB rfl Try.underlying46 rfl SZ41 rfl (.t rfl)) ?_
  refine W.q rfl rfl rfl rfl (by decide) (Yd.ldB (pos := 0) rfl rfl rfl ON41 (.t rfl)) ?_
  refine W.q rfl rfl rfl rfl (by decide) (Yd.subU (a := c_0.yes) (b := 1#32) rfl (.t rfl) .c) ?_
  refine W.q rfl rfl rfl rfl (by decide) (Yd.andU (a := c_0.yes) (b := (c_0.yes - 1#32)) rfl (.t rfl) (.t rfl)) ?_
  refine W.q rfl rfl rfl rfl (by decide) (Yd.neqU (a := (c_0.yes &&& (c_0.yes - 1#32))) (b := 0#32) rfl (.t rfl) .c) ?_
  refine W.q rfl rfl rfl rfl (by decide) (Yd.as rfl (.t rfl)) ?_
  refine W.end ?_
  refine NX.sub (env' := [(2, _)]) ⟨rfl, trivial⟩ ?_
  refine NX.drop (l' := l) (.cons _ (.refl _)) ?_
  refine NX.then ?_
  refine Tr.ret' ?_
  refine res1 rfl rfl ?_
  intro w hc
  cases hr
  exact ⟨rfl, hc⟩

def clause_Horn_k10 (s_9 : BitVec 32) : Option ((BitVec 32) × Int) :=
  some ((s_9, (0 : Int)))

def clause_Horn_k20 (s_7 : BitVec 32) (nx13 : (((BitVec 32) × Bool) → Option ((BitVec 32) × Int))) (s_19 : BitVec 32) : Option ((BitVec 32) × Int) :=
  nx13 (s_19, (s_19 != s_7))

def clause_Horn_b24 (l_1 : List Clause) (t_23 : Int) (s_17 : BitVec 32) (nx25 : (BitVec 32) → Option ((BitVec 32) × Int)) : Option ((BitVec 32) × Int) :=
  (geti l_1 t_23).bind fun y27 =>
  (bif (((y27.no &&& ~~~s_17) == 0#32) && ((y27.yes &&& s_17) == 0#32)) then
  (bif (y27.yes == 0#32) then
  some ((0#32, (5 : Int)))
  else
  nx25 (s_17 ||| y27.yes))
  else
  nx25 s_17)

def clause_Horn_b12 (l_1 : List Clause) (s_7 : BitVec 32) (more_8 : Bool) (nx13 : ((BitVec 32) × Bool) → Option ((BitVec 32) × Int)) : Option ((BitVec 32) × Int) :=
  (bif more_8 then
  forK (σ := (BitVec 32)) (fun i s nx_ => clause_Horn_b24 l_1 i s nx_) (fun s => clause_Horn_k20 s_7 nx13 s) ((l_1.length : Int) - (0 : Int)).toNat (0 : Int) s_7
  else
  clause_Horn_k10 s_7)

def clause_Horn (fuel : Nat) (n_0 : Int) (l_1 : List Clause) : Option ((BitVec 32) × Int) :=
  (clause_wrong n_0 l_1).bind fun r1 =>
  (bif (r1 != (0 : Int)) then
  some ((0#32, r1))
  else
  (slices_ContainsFunc_SapiClauseapiClause l_1 (fun a => clause_Horn_c1 a)).bind fun r3 =>
  (bif r3 then
  some ((0#32, (3 : Int)))
  else
  whileK (σ := (BitVec 32) × Bool) (fun s nx_ => clause_Horn_b12 l_1 s.1 s.2 nx_) fuel ((0#32), true)))

set_option maxRecDepth 100000 in
theorem clause_Horn_ok (w0 : World) (m : Snap) (l : List HI) (fuel : Nat) (n_0 : Int) (ul_1 : Value) (l_1 : List Clause) (hl_1 : RS rClause m ul_1 l_1) (r : (BitVec 32) × Int) (hr : clause_Horn fuel n_0 l_1 = some r) (w : World) (hc : cX w0 ⟨m, l⟩ w) :
    Calls Try.prog 21 [.int .i64 n_0, ul_1].toArray w fun e w' => e = .returned (.tuple #[.int .u32 (r.1.toNat : Int), .int .i64 r.2]) ∧ cX w0 ⟨m, l⟩ w' := by
  unfold clause_Horn at hr
  refine calls_of_Tr (N := 52) Try.func21 rfl hc rfl (Nat.le_of_ble_eq_true rfl) ?_
  refine Tr.seq ?_
  refine Tr.region_f (fun _ => false) ?_
  refine W.q rfl rfl rfl rfl (by decide) (Yd.as rfl .c) ?_
  refine W.q rfl rfl rfl rfl (by decide) (Yd.as rfl .c) ?_
  refine W.end ?_
  refine NX.sub (env' := [(0, _), (1, _)]) ⟨rfl, rfl, trivial⟩ ?_
  refine NX.then ?_
  refine Tr.seq ?_
  refine Tr.seq ?_
  obtain ⟨r1, hr2, hr⟩ := bind_some hr
  refine Tr.region_f (fun _ => false) ?_
  refine W.q rfl rfl rfl rfl (by decide) (Yd.mv rfl (.t rfl)) ?_
  refine W.q rfl rfl rfl rfl (by decide) (Yd.mv rfl (.t rfl)) ?_
  refine W.q rfl rfl rfl rfl (by decide) (Yd.call (v := .int .i64 r1) rfl Try.func44 rfl rfl (.cons (.t rfl) (.cons (.t rfl) .nil)) (fun x' hx w hw => clause_wrong_ok w0 x'.m x'.l n_0 _ _ (hl_1.mono hx.1) _ hr2 w hw)) ?_
  refine W.q rfl rfl rfl rfl (by decide) (Yd.as rfl (.t rfl)) ?_
  refine W.end ?_
  refine NX.sub (env' := [(1, _), (6, _)]) ⟨rfl, rfl, trivial⟩ ?_
  refine NX.then ?_
  refine Tr.seq ?_
  refine Tr.region_f (fun _ => false) ?_
  refine W.q rfl rfl rfl rfl (by decide) (Yd.mv rfl (.t rfl)) ?_
  refine W.q rfl rfl rfl rfl (by decide) (Yd.neq rfl (.t rfl) .c) ?_
  refine W.end ?_
  refine NX.sub (env' := [(1, _), (6, _), (16, _)]) ⟨rfl, rfl, rfl, trivial⟩ ?_
  refine NX.then ?_
  refine Tr.cond (.t rfl) (fun hb => ?_) (fun hb => ?_)
  · have hr := cond_t hb hr
    refine Tr.seq ?_
    refine Tr.region_f (fun _ => false) ?_
    refine W.q rfl rfl rfl rfl (by decide) (Yd.mv rfl (.t rfl)) ?_
    refine W.q rfl rfl rfl rfl (by decide) (Yd.as rfl .c) ?_
    refine W.q rfl rfl rfl rfl (by decide) (Yd.as rfl (.t rfl)) ?_
    refine W.end ?_
    refine NX.sub (env' := [(4, _), (5, _)]) ⟨rfl, rfl, trivial⟩ ?_
    refine NX.then ?_
    refine Tr.ret' (RT.then ?_)
    refine res2 rfl rfl rfl ?_
    intro w hc
    cases hr
    exact ⟨rfl, hc⟩
  · have hr := cond_f hb hr
    refine Tr.skip' ?_
    refine NX.then ?_
    refine Tr.seq ?_
    refine Tr.seq ?_
    obtain ⟨r3, hr4, hr⟩ := bind_some hr
    refine Tr.region_f (fun _ => false) ?_
    refine W.q rfl rfl rfl rfl (by decide) (Yd.mv rfl (.t rfl)) ?_
    refine W.q rfl rfl rfl rfl (by decide) (Yd.call (v := .bool r3) rfl Try.func45 rfl rfl (.cons (.t rfl) (.cons .f .nil)) (fun x' hx w hw => slices_ContainsFunc_SapiClauseapiClause_ok w0 x'.m x'.l _ _ (hl_1.mono hx.1) _ (fun a => clause_Horn_c1 a) ⟨46, _, _, rfl, Try.func46, rfl, rfl, fun y hy w2 hw2 v a r2 hv hr2 => by obtain rfl := hv; exact clause_Horn_c1_ok w0 y.m y.l a r2 hr2 w2 hw2⟩ _ hr4 w hw)) ?_
    refine W.end ?_
    refine NX.sub (env' := [(1, _), (19, _)]) ⟨rfl, rfl, trivial⟩ ?_
    refine NX.then ?_
    refine Tr.cond (.t rfl) (fun hb => ?_) (fun hb => ?_)
    · have hr := cond_t hb hr
      refine Tr.seq ?_
      refine Tr.region_f (fun _ => false) ?_
      refine W.q rfl rfl rfl rfl (by decide) (Yd.as rfl .c) ?_
      refine W.q rfl rfl rfl rfl (by decide) (Yd.as rfl .c) ?_
      refine W.end ?_
      refine NX.sub (env' := [(4, _), (5, _)]) ⟨rfl, rfl, trivial⟩ ?_
      refine NX.then ?_
      refine Tr.ret' (RT.then ?_)
      refine res2 rfl rfl rfl ?_
      intro w hc
      cases hr
      exact ⟨rfl, hc⟩
    · have hr := cond_f hb hr
      refine Tr.skip' ?_
      refine NX.then ?_
      refine Tr.seq ?_
      refine Tr.region_f (fun _ => false) ?_
      refine W.q rfl rfl rfl rfl (by decide) (Yd.as rfl .c) ?_
      refine W.end ?_
      refine NX.sub (env' := [(1, _), (7, _)]) ⟨rfl, rfl, trivial⟩ ?_
      refine NX.then ?_
      refine Tr.seq ?_
      refine Tr.seq ?_
      refine Tr.region_f (fun _ => false) ?_
      refine W.q rfl rfl rfl rfl (by decide) (Yd.as rfl .c) ?_
      refine W.end ?_
      refine NX.sub (env' := [(1, _), (7, _), (8, _)]) ⟨rfl, rfl, rfl, trivial⟩ ?_
      refine NX.then ?_
      refine Tr.join (S := fun env x => ∃ s_9 : BitVec 32, env = [(7, .int .u32 (s_9.toNat : Int))] ∧ x = ⟨m, l⟩ ∧ clause_Horn_k10 s_9 = some r) ?_ (fun hk11 => ?_)
      · rintro _ _ ⟨s_9, rfl, rfl, hr⟩
        unfold clause_Horn_k10 at hr
        try dsimp only at hr
        refine NX.then ?_
        refine Tr.seq ?_
        refine Tr.region_f (fun _ => false) ?_
        refine W.q rfl rfl rfl rfl (by decide) (Yd.mv rfl (.t rfl)) ?_
        refine W.q rfl rfl rfl rfl (by decide) (Yd.as rfl (.t rfl)) ?_
        refine W.q rfl rfl rfl rfl (by decide) (Yd.as rfl .c) ?_
        refine W.end ?_
        refine NX.sub (env' := [(4, _), (5, _)]) ⟨rfl, rfl, trivial⟩ ?_
        refine NX.then ?_
        refine Tr.ret' ?_
        refine res2 rfl rfl rfl ?_
        intro w hc
        cases hr
        exact ⟨rfl, hc⟩
      refine Tr.block ?_
      refine Tr.sub (env' := [(1, _), (7, _), (8, _)]) ⟨rfl, rfl, rfl, trivial⟩ ?_
      refine Tr.loop (S := fun n (z : (BitVec 32) × Bool) env x => match z with | (s_7, more_8) => env = [(1, ul_1), (7, .int .u32 (s_7.toNat : Int)), (8, .bool more_8)] ∧ x = ⟨m, l⟩ ∧ whileK (σ := (BitVec 32) × Bool) (fun s nx_ => clause_Horn_b12 l_1 s.1 s.2 nx_) n (s_7, more_8) = some r) _ (0#32, true) ⟨rfl, rfl, hr⟩ ?_
      rintro n14 ⟨s_7, more_8⟩ env x ⟨rfl, rfl, hr⟩
      cases n14 with
      | zero => simp [whileK] at hr
      | succ n14 =>
        obtain ⟨nx13, hnx13, hr⟩ := whileK_succ hr
        try dsimp only at hr
        unfold clause_Horn_b12 at hr
        try dsimp only at hr
        refine Tr.seq ?_
        refine Tr.seq ?_
        refine Tr.region_f (fun _ => false) ?_
        refine W.q rfl rfl rfl rfl (by decide) (Yd.mv rfl (.t rfl)) ?_
        refine W.end ?_
        refine NX.sub (env' := [(1, _), (7, _), (20, _)]) ⟨rfl, rfl, rfl, trivial⟩ ?_
        refine NX.then ?_
        refine Tr.cond (.t rfl) (fun hb => ?_) (fun hb => ?_)
        · have hr := cond_t hb hr
          refine Tr.skip' ?_
          refine NX.then ?_
          refine Tr.block ?_
          refine Tr.seq ?_
          refine Tr.region_f (fun _ => false) ?_
          refine W.q rfl rfl rfl rfl (by decide) (Yd.mv rfl (.t rfl)) ?_
          refine W.q rfl rfl rfl rfl (by decide) (Yd.as rfl (.t rfl)) ?_
          refine W.end ?_
          refine NX.sub (env' := [(1, _), (7, _), (9, _)]) ⟨rfl, rfl, rfl, trivial⟩ ?_
          refine NX.then ?_
          refine Tr.seq ?_
          refine Tr.seq ?_
          refine Tr.region_f (fun _ => false) ?_
          refine W.q rfl rfl rfl rfl (by decide) (Yd.mv rfl (.t rfl)) ?_
          refine W.q rfl rfl rfl rfl (by decide) (Yd.lenR hl_1 rfl Try.underlying40 (.t rfl)) ?_
          refine W.q rfl rfl rfl rfl (by decide) (Yd.mv rfl .c) ?_
          refine W.end ?_
          refine NX.sub (env' := [(1, _), (7, _), (9, _), (22, _), (23, _), (24, _)]) ⟨rfl, rfl, rfl, rfl, rfl, rfl, trivial⟩ ?_
          refine NX.then ?_
          refine Tr.join (S := fun env x => ∃ s_19 : BitVec 32, env = [(1, ul_1), (7, .int .u32 (s_19.toNat : Int)), (9, .int .u32 (s_7.toNat : Int))] ∧ x = ⟨m, l⟩ ∧ clause_Horn_k20 s_7 nx13 s_19 = some r) ?_ (fun hk21 => ?_)
          · rintro _ _ ⟨s_19, rfl, rfl, hr⟩
            unfold clause_Horn_k20 at hr
            try dsimp only at hr
            refine NX.then ?_
            refine Tr.region_f (fun _ => false) ?_
            refine W.q rfl rfl rfl rfl (by decide) (Yd.mv rfl (.t rfl)) ?_
            refine W.q rfl rfl rfl rfl (by decide) (Yd.mv rfl (.t rfl)) ?_
            refine W.q rfl rfl rfl rfl (by decide) (Yd.neqU (a := s_19) (b := s_7) rfl (.t rfl) (.t rfl)) ?_
            refine W.q rfl rfl rfl rfl (by decide) (Yd.as rfl (.t rfl)) ?_
            refine W.end ?_
            refine NX.sub (env' := [(1, _), (7, _), (8, _)]) ⟨rfl, rfl, rfl, trivial⟩ ?_
            refine NX.block ?_
            refine NX.sub (env' := [(1, _), (7, _), (8, _)]) ⟨rfl, rfl, rfl, trivial⟩ ?_
            exact NX.again n14 (s_19, (s_19 != s_7)) (Nat.lt_succ_self _) ⟨rfl, rfl, ((hnx13 _).symm.trans hr)⟩
          have hlen22 := (hl_1).2.1
          refine Tr.block ?_
          refine Tr.sub (env' := [(1, _), (7, _), (9, _), (22, _), (23, _), (24, _)]) ⟨rfl, rfl, rfl, rfl, rfl, rfl, trivial⟩ ?_
          refine Tr.loop (S := fun n (z : Int × (BitVec 32)) env x => match z with | (t_23, s_17) => env = [(1, ul_1), (7, .int .u32 (s_17.toNat : Int)), (9, .int .u32 (s_7.toNat : Int)), (22, ul_1), (23, .int .i64 ((l_1.length : Int))), (24, .int .i64 t_23)] ∧ x = ⟨m, l⟩ ∧ n = ((l_1.length : Int) - t_23).toNat ∧ 0 ≤ t_23 ∧ forK (σ := (BitVec 32)) (fun i s nx_ => clause_Horn_b24 l_1 i s nx_) (fun s => clause_Horn_k20 s_7 nx13 s) n t_23 s_17 = some r) _ ((0 : Int), s_7) ⟨rfl, rfl, rfl, (by omega), hr⟩ ?_
          rintro n26 ⟨t_23, s_17⟩ env x ⟨rfl, rfl, hnt_23, h0t_23, hr⟩
          cases n26 with
          | zero =>
            simp only [forK] at hr
            refine Tr.seq ?_
            refine Tr.region_f (fun _ => false) ?_
            refine W.q rfl rfl rfl rfl (by decide) (Yd.lss rfl (.t rfl) (.t rfl)) ?_
            refine W.end ?_
            refine NX.sub (env' := [(1, _), (7, _), (9, _), (22, _), (23, _), (24, _), (25, _)]) ⟨rfl, rfl, rfl, rfl, rfl, rfl, rfl, trivial⟩ ?_
            refine NX.then ?_
            refine Tr.seq ?_
            refine Tr.cond (.t rfl) (fun hb => ?_) (fun hb => ?_)
            · exact absurd (hb.symm.trans (fr_end hnt_23)) (by decide)
            ·
              refine Tr.exit' (EX.then (EX.then (EX.block ?_)))
              refine NX.sub (env' := [(1, _), (7, _), (9, _)]) ⟨rfl, rfl, rfl, trivial⟩ ?_
              exact hk21 _ _ ⟨_, rfl, rfl, hr⟩
          | succ n26 =>
            obtain ⟨nx25, hnx25, hr⟩ := forK_succ hr
            try dsimp only at hr
            unfold clause_Horn_b24 at hr
            try dsimp only at hr
            have hltt_23 := fr_bnd hnt_23
            refine Tr.seq ?_
            refine Tr.region_f (fun _ => false) ?_
            refine W.q rfl rfl rfl rfl (by decide) (Yd.lss rfl (.t rfl) (.t rfl)) ?_
            refine W.end ?_
            refine NX.sub (env' := [(1, _), (7, _), (9, _), (22, _), (23, _), (24, _), (25, _)]) ⟨rfl, rfl, rfl, rfl, rfl, rfl, rfl, trivial⟩ ?_
            refine NX.then ?_
            refine Tr.seq ?_
            refine Tr.cond (.t rfl) (fun hb => ?_) (fun hb => ?_)
            rotate_left
            · exact absurd (hb.symm.trans (fr_go hnt_23)) (by decide)
            ·
              refine Tr.skip' ?_
              refine NX.then ?_
              refine Tr.seq ?_
              refine Tr.block ?_
              refine Tr.seq ?_
              obtain ⟨y27, hy28, hr⟩ := bind_some hr
              refine Tr.region_f (fun i => Nat.beq i 2 || Nat.beq i 3) ?_
              refine W.q rfl rfl rfl rfl (by decide) (Yd.idxR hl_1 hy28 rfl Try.underlying40 SZ46 (.t rfl) (.t rfl)) ?_
              refine W.q rfl rfl rfl rfl (by decide) (Yd.ldFs (us := [_, _]) hl_1 (.refl _) hy28 rfl rfl ON46 US46 SZ46 (.t rfl)) ?_
              refine W.e rfl rfl rfl rfl (by decide) (Ef.al rfl ZR46 rfl) ?_
              rintro _ _ ⟨b29, rfl, rfl⟩
              refine ⟨.inl rfl, ?_⟩
              refine W.cast (m' := m) (l' := hcells b29 [_, _] 46 :: l) rfl rfl ?_
              refine W.s rfl rfl rfl rfl (Ef.stB (pos := 0) (us := [_, _]) (cs' := [_, _]) rfl rfl (.t rfl) (.t rfl) SZ46 rfl rfl rfl (Nat.le_of_ble_eq_true rfl) rfl) ?_
              rintro _ _ ⟨rfl, rfl⟩
              refine ⟨.inl rfl, ?_⟩
              refine W.cast (m' := m) (l' := hcells b29 [_, _] 46 :: l) rfl rfl ?_
              refine W.end ?_
              refine NX.sub (env' := [(1, _), (7, _), (9, _), (22, _), (23, _), (24, _), (11, _)]) ⟨rfl, rfl, rfl, rfl, rfl, rfl, rfl, trivial⟩ ?_
              refine NX.then ?_
              refine Tr.seq ?_
              refine Tr.region_f (fun _ => false) ?_
              refine W.q rfl rfl rfl rfl (by decide) (Yd.fldB rfl Try.underlying46 rfl SZ41 rfl (.t rfl)) ?_
              refine W.q rfl rfl rfl rfl (by decide) (Yd.ldB (pos := 0) rfl rfl rfl ON41 (.t rfl)) ?_
              refine W.q rfl rfl rfl rfl (by decide) (Yd.mv rfl (.t rfl)) ?_
              refine W.q rfl rfl rfl rfl (by decide) (Yd.andnU (a := y27.no) (b := s_17) rfl (.t rfl) (.t rfl)) ?_
              refine W.q rfl rfl rfl rfl (by decide) (Yd.eqlU (a := (y27.no &&& ~~~s_17)) (b := 0#32) rfl (.t rfl) .c) ?_
              refine W.q rfl rfl rfl rfl (by decide) (Yd.mv rfl (.t rfl)) ?_
              refine W.g rfl rfl rfl rfl rfl (.t rfl _) rfl (by decide) (fun hG => Yd.fldB rfl Try.underlying46 rfl SZ41 rfl (.t rfl)) ?_
              refine W.g rfl rfl rfl rfl rfl (.t rfl _) rfl (by decide) (fun hG => Yd.ldB (pos := 0) rfl rfl rfl ON41 (.g rfl hG)) ?_
              refine W.g rfl rfl rfl rfl rfl (.t rfl _) rfl (by decide) (fun hG => Yd.mv rfl (.t rfl)) ?_
              refine W.g rfl rfl rfl rfl rfl (.t rfl _) rfl (by decide) (fun hG => Yd.andU (a := y27.yes) (b := s_17) rfl (.g rfl hG) (.g rfl hG)) ?_
              refine W.g rfl rfl rfl rfl rfl (.t rfl _) rfl (by decide) (fun hG => Yd.eqlU (a := (y27.yes &&& s_17)) (b := 0#32) rfl (.g rfl hG) .c) ?_
              refine W.q rfl rfl rfl rfl (by decide) (Yd.and rfl (.t rfl) .c rfl rfl) ?_
              refine W.end ?_
              refine NX.sub (env' := [(1, _), (7, _), (9, _), (22, _), (23, _), (24, _), (11, _), (39, _)]) ⟨rfl, rfl, rfl, rfl, rfl, rfl, rfl, rfl, trivial⟩ ?_
              refine NX.then ?_
              refine Tr.cond (.t rfl) (fun hb => ?_) (fun hb => ?_)
              · have hr := cond_t hb hr
                refine Tr.seq ?_
                refine Tr.seq ?_
                refine Tr.region_f (fun _ => false) ?_
                refine W.q rfl rfl rfl rfl (by decide) (Yd.fldB rfl Try.underlying46 rfl SZ41 rfl (.t rfl)) ?_
                refine W.q rfl rfl rfl rfl (by decide) (Yd.ldB (pos := 0) rfl rfl rfl ON41 (.t rfl)) ?_
                refine W.q rfl rfl rfl rfl (by decide) (Yd.eqlU (a := y27.yes) (b := 0#32) rfl (.t rfl) .c) ?_
                refine W.end ?_
                refine NX.sub (env' := [(1, _), (7, _), (9, _), (22, _), (23, _), (24, _), (11, _), (42, _)]) ⟨rfl, rfl, rfl, rfl, rfl, rfl, rfl, rfl, trivial⟩ ?_
                refine NX.then ?_
                refine Tr.cond (.t rfl) (fun hb => ?_) (fun hb => ?_)
                · have hr := cond_t hb hr
                  refine Tr.seq ?_
                  refine Tr.region_f (fun _ => false) ?_
                  refine W.q rfl rfl rfl rfl (by decide) (Yd.as rfl .c) ?_
                  refine W.q rfl rfl rfl rfl (by decide) (Yd.as rfl .c) ?_
                  refine W.end ?_
                  refine NX.sub (env' := [(4, _), (5, _)]) ⟨rfl, rfl, trivial⟩ ?_
                  refine NX.drop (l' := l) (.cons _ (.refl _)) ?_
                  refine NX.then ?_
                  refine Tr.ret' (RT.then (RT.block (RT.then (RT.then (RT.block (RT.then (RT.block (RT.then (RT.block (RT.then ?_))))))))))
                  refine res2 rfl rfl rfl ?_
                  intro w hc
                  cases hr
                  exact ⟨rfl, hc⟩
                · have hr := cond_f hb hr
                  refine Tr.skip' ?_
                  refine NX.then ?_
                  refine Tr.region_f (fun _ => false) ?_
                  refine W.q rfl rfl rfl rfl (by decide) (Yd.mv rfl (.t rfl)) ?_
                  refine W.q rfl rfl rfl rfl (by decide) (Yd.fldB rfl Try.underlying46 rfl SZ41 rfl (.t rfl)) ?_
                  refine W.q rfl rfl rfl rfl (by decide) (Yd.ldB (pos := 0) rfl rfl rfl ON41 (.t rfl)) ?_
                  refine W.q rfl rfl rfl rfl (by decide) (Yd.orU (a := s_17) (b := y27.yes) rfl (.t rfl) (.t rfl)) ?_
                  refine W.q rfl rfl rfl rfl (by decide) (Yd.as rfl (.t rfl)) ?_
                  refine W.end ?_
                  refine NX.sub (env' := [(1, _), (7, _), (9, _), (22, _), (23, _), (24, _)]) ⟨rfl, rfl, rfl, rfl, rfl, rfl, trivial⟩ ?_
                  refine NX.drop (l' := l) (.cons _ (.refl _)) ?_
                  refine NX.block ?_
                  refine NX.then ?_
                  refine Tr.region_f (fun _ => false) ?_
                  refine W.q rfl rfl rfl rfl (by decide) (Yd.add rfl (.t rfl) .c) ?_
                  refine W.q rfl rfl rfl rfl (by decide) (Yd.mv rfl (.t rfl)) ?_
                  refine W.end ?_
                  refine NX.sub (env' := [(1, _), (7, _), (9, _), (22, _), (23, _), (24, _)]) ⟨rfl, rfl, rfl, rfl, rfl, rfl, trivial⟩ ?_
                  refine NX.sub (env' := [(1, _), (7, _), (9, _), (22, _), (23, _), (24, _)]) ⟨rfl, rfl, rfl, rfl, rfl, rfl, trivial⟩ ?_
                  have hw := w64_id (n := t_23 + 1) (by omega) (by omega)
                  exact NX.again n26 (t_23 + 1, (s_17 ||| y27.yes)) (Nat.lt_succ_self _) ⟨(by rw [hw] <;> rfl), rfl, (fr_dec hnt_23), (by omega), ((hnx25 _).symm.trans hr)⟩
              · have hr := cond_f hb hr
                refine Tr.skip' ?_
                refine NX.block ?_
                refine NX.then ?_
                refine Tr.region_f (fun _ => false) ?_
                refine W.q rfl rfl rfl rfl (by decide) (Yd.add rfl (.t rfl) .c) ?_
                refine W.q rfl rfl rfl rfl (by decide) (Yd.mv rfl (.t rfl)) ?_
                refine W.end ?_
                refine NX.sub (env' := [(1, _), (7, _), (9, _), (22, _), (23, _), (24, _)]) ⟨rfl, rfl, rfl, rfl, rfl, rfl, trivial⟩ ?_
                refine NX.drop (l' := l) (.cons _ (.refl _)) ?_
                refine NX.sub (env' := [(1, _), (7, _), (9, _), (22, _), (23, _), (24, _)]) ⟨rfl, rfl, rfl, rfl, rfl, rfl, trivial⟩ ?_
                have hw := w64_id (n := t_23 + 1) (by omega) (by omega)
                exact NX.again n26 (t_23 + 1, s_17) (Nat.lt_succ_self _) ⟨(by rw [hw] <;> rfl), rfl, (fr_dec hnt_23), (by omega), ((hnx25 _).symm.trans hr)⟩
        · have hr := cond_f hb hr
          refine Tr.exit' (EX.then (EX.then (EX.block ?_)))
          refine NX.sub (env' := [(7, _)]) ⟨rfl, trivial⟩ ?_
          exact hk11 _ _ ⟨_, rfl, rfl, hr⟩

def syllogistref_Fits (n_0 : Int) (s_1 : (BitVec 32)) : Option (Bool) :=
  some (((decide (n_0 ≥ (32 : Int))) || ((decide (n_0 ≥ (0 : Int))) && (decide (s_1 < (1#32 <<< ((BitVec.ofInt 64 n_0)).toNat))))))

set_option maxRecDepth 100000 in
theorem syllogistref_Fits_ok (w0 : World) (m : Snap) (l : List HI) (n_0 : Int) (s_1 : (BitVec 32)) (r : Bool) (hr : syllogistref_Fits n_0 s_1 = some r) (w : World) (hc : cX w0 ⟨m, l⟩ w) :
    Calls Try.prog 47 [.int .i64 n_0, .int .u32 (s_1.toNat : Int)].toArray w fun e w' => e = .returned (.bool r) ∧ cX w0 ⟨m, l⟩ w' := by
  unfold syllogistref_Fits at hr
  refine calls_of_Tr (N := 18) Try.func47 rfl hc rfl (Nat.le_of_ble_eq_true rfl) ?_
  refine Tr.seq ?_
  refine Tr.region_f (fun _ => false) ?_
  refine W.q rfl rfl rfl rfl (by decide) (Yd.as rfl .c) ?_
  refine W.end ?_
  refine NX.sub (env' := [(0, _), (1, _)]) ⟨rfl, rfl, trivial⟩ ?_
  refine NX.then ?_
  refine Tr.seq ?_
  refine Tr.region_f (fun _ => false) ?_
  refine W.q rfl rfl rfl rfl (by decide) (Yd.mv rfl (.t rfl)) ?_
  refine W.q rfl rfl rfl rfl (by decide) (Yd.geq rfl (.t rfl) .c) ?_
  refine W.q rfl rfl rfl rfl (by decide) (Yd.mv rfl (.t rfl)) ?_
  refine W.g rfl rfl rfl rfl rfl (.t rfl _) rfl (by decide) (fun hG => Yd.mv rfl (.t rfl)) ?_
  refine W.g rfl rfl rfl rfl rfl (.t rfl _) rfl (by decide) (fun hG => Yd.geq rfl (.g rfl hG) .c) ?_
  refine W.g rfl rfl rfl rfl rfl (.t rfl _) rfl (by decide) (fun hG => Yd.mv rfl (.g rfl hG)) ?_
  refine W.g rfl rfl rfl rfl rfl (.g rfl _) rfl (by decide) (fun hG => Yd.mv rfl (.t rfl)) ?_
  refine W.g rfl rfl rfl rfl rfl (.g rfl _) rfl (by decide) (fun hG => Yd.mv rfl (.t rfl)) ?_
  refine W.g rfl rfl rfl rfl rfl (.g rfl _) rfl (by decide) (fun hG => Yd.cvQ rfl US3 Try.underlying48 (.g rfl hG)) ?_
  refine W.g rfl rfl rfl rfl rfl (.g rfl _) rfl (by decide) (fun hG => Yd.shlU (a := 1#32) rfl .c (.g rfl hG) (Int.natCast_nonneg _)) ?_
  refine W.g rfl rfl rfl rfl rfl (.g rfl _) rfl (by decide) (fun hG => Yd.lssU (a := s_1) (b := (1#32 <<< ((BitVec.ofInt 64 n_0)).toNat)) rfl (.g rfl hG) (.g rfl hG)) ?_
  refine W.g rfl rfl rfl rfl rfl (.t rfl _) rfl (by decide) (fun hG => Yd.andG rfl (.g rfl hG) .c rfl rfl hG) ?_
  refine W.q rfl rfl rfl rfl (by decide) (Yd.or rfl (.t rfl) .c rfl rfl) ?_
  refine W.q rfl rfl rfl rfl (by decide) (Yd.as rfl (.t rfl)) ?_
  refine W.end ?_
  refine NX.sub (env' := [(4, _)]) ⟨rfl, trivial⟩ ?_
  refine NX.then ?_
  refine Tr.ret' ?_
  refine res1 rfl rfl ?_
  intro w hc
  cases hr
  exact ⟨rfl, hc⟩

def syllogistref_SatCheck_k3 : Option (Int) :=
  some ((0 : Int))

def syllogistref_SatCheck_b7 (n_0 : Int) (l_1 : List Clause) (t_6 : Int) (nx8 : Unit → Option (Int)) : Option (Int) :=
  (geti l_1 t_6).bind fun y10 =>
  (syllogistref_Fits n_0 y10.yes).bind fun r14 =>
  bif (!((!r14) == false) || (syllogistref_Fits n_0 y10.no).isSome) then
  (bif ((!r14) || (!(((syllogistref_Fits n_0 y10.no).getD false)))) then
  some ((4 : Int))
  else
  nx8 ()) else none

def syllogistref_SatCheck (n_0 : Int) (l_1 : List Clause) : Option (Int) :=
  (bif (((decide (n_0 < (1 : Int))) || (decide (n_0 > (6 : Int)))) || (decide ((l_1.length : Int) > (16 : Int)))) then
  some ((1 : Int))
  else
  forK (σ := Unit) (fun i s nx_ => syllogistref_SatCheck_b7 n_0 l_1 i nx_) (fun _ => syllogistref_SatCheck_k3) ((l_1.length : Int) - (0 : Int)).toNat (0 : Int) ())

set_option maxRecDepth 100000 in
theorem syllogistref_SatCheck_ok (w0 : World) (m : Snap) (l : List HI) (n_0 : Int) (ul_1 : Value) (l_1 : List Clause) (hl_1 : RS rClause m ul_1 l_1) (r : Int) (hr : syllogistref_SatCheck n_0 l_1 = some r) (w : World) (hc : cX w0 ⟨m, l⟩ w) :
    Calls Try.prog 22 [.int .i64 n_0, ul_1].toArray w fun e w' => e = .returned (.int .i64 r) ∧ cX w0 ⟨m, l⟩ w' := by
  unfold syllogistref_SatCheck at hr
  refine calls_of_Tr (N := 37) Try.func22 rfl hc rfl (Nat.le_of_ble_eq_true rfl) ?_
  refine Tr.seq ?_
  refine Tr.region_f (fun _ => false) ?_
  refine W.q rfl rfl rfl rfl (by decide) (Yd.as rfl .c) ?_
  refine W.end ?_
  refine NX.sub (env' := [(0, _), (1, _)]) ⟨rfl, rfl, trivial⟩ ?_
  refine NX.then ?_
  refine Tr.seq ?_
  refine Tr.seq ?_
  refine Tr.region_f (fun _ => false) ?_
  refine W.q rfl rfl rfl rfl (by decide) (Yd.mv rfl (.t rfl)) ?_
  refine W.q rfl rfl rfl rfl (by decide) (Yd.lss rfl (.t rfl) .c) ?_
  refine W.q rfl rfl rfl rfl (by decide) (Yd.mv rfl (.t rfl)) ?_
  refine W.g rfl rfl rfl rfl rfl (.t rfl _) rfl (by decide) (fun hG => Yd.mv rfl (.t rfl)) ?_
  refine W.g rfl rfl rfl rfl rfl (.t rfl _) rfl (by decide) (fun hG => Yd.gtr rfl (.g rfl hG) .c) ?_
  refine W.q rfl rfl rfl rfl (by decide) (Yd.or rfl (.t rfl) .c rfl rfl) ?_
  refine W.q rfl rfl rfl rfl (by decide) (Yd.mv rfl (.t rfl)) ?_
  refine W.g rfl rfl rfl rfl rfl (.t rfl _) rfl (by decide) (fun hG => Yd.mv rfl (.t rfl)) ?_
  refine W.g rfl rfl rfl rfl rfl (.t rfl _) rfl (by decide) (fun hG => Yd.lenR hl_1 rfl Try.underlying40 (.g rfl hG)) ?_
  refine W.g rfl rfl rfl rfl rfl (.t rfl _) rfl (by decide) (fun hG => Yd.gtr rfl (.g rfl hG) .c) ?_
  refine W.q rfl rfl rfl rfl (by decide) (Yd.or rfl (.t rfl) .c rfl rfl) ?_
  refine W.end ?_
  refine NX.sub (env' := [(0, _), (1, _), (17, _)]) ⟨rfl, rfl, rfl, trivial⟩ ?_
  refine NX.then ?_
  refine Tr.cond (.t rfl) (fun hb => ?_) (fun hb => ?_)
  · have hr := cond_t hb hr
    refine Tr.seq ?_
    refine Tr.region_f (fun _ => false) ?_
    refine W.q rfl rfl rfl rfl (by decide) (Yd.as rfl .c) ?_
    refine W.end ?_
    refine NX.sub (env' := [(4, _)]) ⟨rfl, trivial⟩ ?_
    refine NX.then ?_
    refine Tr.ret' (RT.then ?_)
    refine res1 rfl rfl ?_
    intro w hc
    cases hr
    exact ⟨rfl, hc⟩
  · have hr := cond_f hb hr
    refine Tr.skip' ?_
    refine NX.then ?_
    refine Tr.seq ?_
    refine Tr.seq ?_
    refine Tr.region_f (fun _ => false) ?_
    refine W.q rfl rfl rfl rfl (by decide) (Yd.mv rfl (.t rfl)) ?_
    refine W.q rfl rfl rfl rfl (by decide) (Yd.lenR hl_1 rfl Try.underlying40 (.t rfl)) ?_
    refine W.q rfl rfl rfl rfl (by decide) (Yd.mv rfl .c) ?_
    refine W.end ?_
    refine NX.sub (env' := [(0, _), (18, _), (19, _), (20, _)]) ⟨rfl, rfl, rfl, rfl, trivial⟩ ?_
    refine NX.then ?_
    refine Tr.join (S := fun env x => env = [] ∧ x = ⟨m, l⟩ ∧ syllogistref_SatCheck_k3 = some r) ?_ (fun hk4 => ?_)
    · rintro _ _ ⟨rfl, rfl, hr⟩
      unfold syllogistref_SatCheck_k3 at hr
      try dsimp only at hr
      refine NX.then ?_
      refine Tr.seq ?_
      refine Tr.region_f (fun _ => false) ?_
      refine W.q rfl rfl rfl rfl (by decide) (Yd.as rfl .c) ?_
      refine W.end ?_
      refine NX.sub (env' := [(4, _)]) ⟨rfl, trivial⟩ ?_
      refine NX.then ?_
      refine Tr.ret' ?_
      refine res1 rfl rfl ?_
      intro w hc
      cases hr
      exact ⟨rfl, hc⟩
    have hlen5 := (hl_1).2.1
    refine Tr.block ?_
    refine Tr.sub (env' := [(0, _), (18, _), (19, _), (20, _)]) ⟨rfl, rfl, rfl, rfl, trivial⟩ ?_
    refine Tr.loop (S := fun n (z : Int × Unit) env x => match z with | (t_6, _) => env = [(0, .int .i64 n_0), (18, ul_1), (19, .int .i64 ((l_1.length : Int))), (20, .int .i64 t_6)] ∧ x = ⟨m, l⟩ ∧ n = ((l_1.length : Int) - t_6).toNat ∧ 0 ≤ t_6 ∧ forK (σ := Unit) (fun i s nx_ => syllogistref_SatCheck_b7 n_0 l_1 i nx_) (fun _ => syllogistref_SatCheck_k3) n t_6 () = some r) _ ((0 : Int), ()) ⟨rfl, rfl, rfl, (by omega), hr⟩ ?_
    rintro n9 ⟨t_6, _⟩ env x ⟨rfl, rfl, hnt_6, h0t_6, hr⟩
    cases n9 with
    | zero =>
      simp only [forK] at hr
      refine Tr.seq ?_
      refine Tr.region_f (fun _ => false) ?_
      refine W.q rfl rfl rfl rfl (by decide) (Yd.lss rfl (.t rfl) (.t rfl)) ?_
      refine W.end ?_
      refine NX.sub (env' := [(0, _), (18, _), (19, _), (20, _), (21, _)]) ⟨rfl, rfl, rfl, rfl, rfl, trivial⟩ ?_
      refine NX.then ?_
      refine Tr.seq ?_
      refine Tr.cond (.t rfl) (fun hb => ?_) (fun hb => ?_)
      · exact absurd (hb.symm.trans (fr_end hnt_6)) (by decide)
      ·
        refine Tr.exit' (EX.then (EX.then (EX.block ?_)))
        refine NX.sub (env' := []) trivial ?_
        exact hk4 _ _ ⟨rfl, rfl, hr⟩
    | succ n9 =>
      obtain ⟨nx8, hnx8, hr⟩ := forK_succ hr
      try dsimp only at hr
      unfold syllogistref_SatCheck_b7 at hr
      try dsimp only at hr
      have hltt_6 := fr_bnd hnt_6
      refine Tr.seq ?_
      refine Tr.region_f (fun _ => false) ?_
      refine W.q rfl rfl rfl rfl (by decide) (Yd.lss rfl (.t rfl) (.t rfl)) ?_
      refine W.end ?_
      refine NX.sub (env' := [(0, _), (18, _), (19, _), (20, _), (21, _)]) ⟨rfl, rfl, rfl, rfl, rfl, trivial⟩ ?_
      refine NX.then ?_
      refine Tr.seq ?_
      refine Tr.cond (.t rfl) (fun hb => ?_) (fun hb => ?_)
      rotate_left
      · exact absurd (hb.symm.trans (fr_go hnt_6)) (by decide)
      ·
        refine Tr.skip' ?_
        refine NX.then ?_
        refine Tr.seq ?_
        refine Tr.block ?_
        refine Tr.seq ?_
        obtain ⟨y10, hy11, hr⟩ := bind_some hr
        refine Tr.region_f (fun i => Nat.beq i 2 || Nat.beq i 3) ?_
        refine W.q rfl rfl rfl rfl (by decide) (Yd.idxR hl_1 hy11 rfl Try.underlying40 SZ46 (.t rfl) (.t rfl)) ?_
        refine W.q rfl rfl rfl rfl (by decide) (Yd.ldFs (us := [_, _]) hl_1 (.refl _) hy11 rfl rfl ON46 US46 SZ46 (.t rfl)) ?_
        refine W.e rfl rfl rfl rfl (by decide) (Ef.al rfl ZR46 rfl) ?_
        rintro _ _ ⟨b12, rfl, rfl⟩
        refine ⟨.inl rfl, ?_⟩
        refine W.cast (m' := m) (l' := hcells b12 [_, _] 46 :: l) rfl rfl ?_
        refine W.s rfl rfl rfl rfl (Ef.stB (pos := 0) (us := [_, _]) (cs' := [_, _]) rfl rfl (.t rfl) (.t rfl) SZ46 rfl rfl rfl (Nat.le_of_ble_eq_true rfl) rfl) ?_
        rintro _ _ ⟨rfl, rfl⟩
        refine ⟨.inl rfl, ?_⟩
        refine W.cast (m' := m) (l' := hcells b12 [_, _] 46 :: l) rfl rfl ?_
        refine W.end ?_
        refine NX.sub (env' := [(0, _), (18, _), (19, _), (20, _), (6, _)]) ⟨rfl, rfl, rfl, rfl, rfl, trivial⟩ ?_
        refine NX.then ?_
        refine Tr.seq ?_
        obtain ⟨r14, hr15, hr⟩ := bind_some hr
        obtain ⟨ha16, hr⟩ := guard_some hr
        refine Tr.region_f (fun _ => false) ?_
        refine W.q rfl rfl rfl rfl (by decide) (Yd.mv rfl (.t rfl)) ?_
        refine W.q rfl rfl rfl rfl (by decide) (Yd.fldB rfl Try.underlying46 rfl SZ41 rfl (.t rfl)) ?_
        refine W.q rfl rfl rfl rfl (by decide) (Yd.ldB (pos := 0) rfl rfl rfl ON41 (.t rfl)) ?_
        refine W.q rfl rfl rfl rfl (by decide) (Yd.call (v := .bool r14) rfl Try.func47 rfl rfl (.cons (.t rfl) (.cons (.t rfl) .nil)) (fun x' hx w hw => syllogistref_Fits_ok w0 x'.m x'.l n_0 y10.yes _ hr15 w hw)) ?_
        refine W.q rfl rfl rfl rfl (by decide) (Yd.not rfl (.t rfl)) ?_
        refine W.q rfl rfl rfl rfl (by decide) (Yd.mv rfl (.t rfl)) ?_
        refine W.g rfl rfl rfl rfl rfl (.t rfl _) rfl (by decide) (fun hG => Yd.mv rfl (.t rfl)) ?_
        refine W.g rfl rfl rfl rfl rfl (.t rfl _) rfl (by decide) (fun hG => Yd.fldB rfl Try.underlying46 rfl SZ41 rfl (.t rfl)) ?_
        refine W.g rfl rfl rfl rfl rfl (.t rfl _) rfl (by decide) (fun hG => Yd.ldB (pos := 0) rfl rfl rfl ON41 (.g rfl hG)) ?_
        refine W.g rfl rfl rfl rfl rfl (.t rfl _) rfl (by decide) (fun hG => Yd.call (v := .bool ((((syllogistref_Fits n_0 y10.no).getD false)))) rfl Try.func47 rfl rfl (.cons (.g rfl hG) (.cons (.g rfl hG) .nil)) (fun x' hx w hw => syllogistref_Fits_ok w0 x'.m x'.l n_0 y10.no _ (gd_get (d := false) ha16 hG) w hw)) ?_
        refine W.g rfl rfl rfl rfl rfl (.t rfl _) rfl (by decide) (fun hG => Yd.not rfl (.g rfl hG)) ?_
        refine W.q rfl rfl rfl rfl (by decide) (Yd.or rfl (.t rfl) .c rfl rfl) ?_
        refine W.end ?_
        refine NX.sub (env' := [(0, _), (18, _), (19, _), (20, _), (35, _)]) ⟨rfl, rfl, rfl, rfl, rfl, trivial⟩ ?_
        refine NX.drop (l' := l) (.cons _ (.refl _)) ?_
        refine NX.then ?_
        refine Tr.cond (.t rfl) (fun hb => ?_) (fun hb => ?_)
        · have hr := cond_t hb hr
          refine Tr.seq ?_
          refine Tr.region_f (fun _ => false) ?_
          refine W.q rfl rfl rfl rfl (by decide) (Yd.as rfl .c) ?_
          refine W.end ?_
          refine NX.sub (env' := [(4, _)]) ⟨rfl, trivial⟩ ?_
          refine NX.then ?_
          refine Tr.ret' (RT.block (RT.then (RT.then (RT.block (RT.then ?_)))))
          refine res1 rfl rfl ?_
          intro w hc
          cases hr
          exact ⟨rfl, hc⟩
        · have hr := cond_f hb hr
          refine Tr.skip' ?_
          refine NX.block ?_
          refine NX.then ?_
          refine Tr.region_f (fun _ => false) ?_
          refine W.q rfl rfl rfl rfl (by decide) (Yd.add rfl (.t rfl) .c) ?_
          refine W.q rfl rfl rfl rfl (by decide) (Yd.mv rfl (.t rfl)) ?_
          refine W.end ?_
          refine NX.sub (env' := [(0, _), (18, _), (19, _), (20, _)]) ⟨rfl, rfl, rfl, rfl, trivial⟩ ?_
          refine NX.sub (env' := [(0, _), (18, _), (19, _), (20, _)]) ⟨rfl, rfl, rfl, rfl, trivial⟩ ?_
          have hw := w64_id (n := t_6 + 1) (by omega) (by omega)
          exact NX.again n9 (t_6 + 1, ()) (Nat.lt_succ_self _) ⟨(by rw [hw] <;> rfl), rfl, (fr_dec hnt_6), (by omega), ((hnx8 _).symm.trans hr)⟩

def syllogistref_Size_k6 (n_5 : Int) : Option (Int) :=
  some n_5

def syllogistref_Size_b9 (w_0 : (BitVec 32)) (i_8 : Int) (n_3 : Int) (nx10 : Int → Option (Int)) : Option (Int) :=
  (syllogistref_Bit w_0 i_8).bind fun r12 =>
  (bif r12 then
  nx10 (w64 (n_3 + (1 : Int)))
  else
  nx10 n_3)

def syllogistref_Size (w_0 : (BitVec 32)) : Option (Int) :=
  forK (σ := Int) (fun i s nx_ => syllogistref_Size_b9 w_0 i s nx_) (fun s => syllogistref_Size_k6 s) ((32 : Int) - (0 : Int)).toNat (0 : Int) ((0 : Int))

set_option maxRecDepth 100000 in
theorem syllogistref_Size_ok (w0 : World) (m : Snap) (l : List HI) (w_0 : (BitVec 32)) (r : Int) (hr : syllogistref_Size w_0 = some r) (w : World) (hc : cX w0 ⟨m, l⟩ w) :
    Calls Try.prog 23 [.int .u32 (w_0.toNat : Int)].toArray w fun e w' => e = .returned (.int .i64 r) ∧ cX w0 ⟨m, l⟩ w' := by
  unfold syllogistref_Size at hr
  refine calls_of_Tr (N := 15) Try.func23 rfl hc rfl (Nat.le_of_ble_eq_true rfl) ?_
  refine Tr.seq ?_
  refine Tr.region_f (fun _ => false) ?_
  refine W.q rfl rfl rfl rfl (by decide) (Yd.as rfl .c) ?_
  refine W.end ?_
  refine NX.sub (env' := [(0, _)]) ⟨rfl, trivial⟩ ?_
  refine NX.then ?_
  refine Tr.seq ?_
  refine Tr.region_f (fun _ => false) ?_
  refine W.q rfl rfl rfl rfl (by decide) (Yd.as rfl .c) ?_
  refine W.end ?_
  refine NX.sub (env' := [(0, _), (3, _)]) ⟨rfl, rfl, trivial⟩ ?_
  refine NX.then ?_
  refine Tr.seq ?_
  refine Tr.seq ?_
  refine Tr.region_f (fun _ => false) ?_
  refine W.q rfl rfl rfl rfl (by decide) (Yd.as rfl .c) ?_
  refine W.end ?_
  refine NX.sub (env' := [(0, _), (3, _), (4, _)]) ⟨rfl, rfl, rfl, trivial⟩ ?_
  refine NX.then ?_
  refine Tr.join (S := fun env x => ∃ n_5 : Int, env = [(3, .int .i64 n_5)] ∧ x = ⟨m, l⟩ ∧ syllogistref_Size_k6 n_5 = some r) ?_ (fun hk7 => ?_)
  · rintro _ _ ⟨n_5, rfl, rfl, hr⟩
    unfold syllogistref_Size_k6 at hr
    try dsimp only at hr
    refine NX.then ?_
    refine Tr.seq ?_
    refine Tr.region_f (fun _ => false) ?_
    refine W.q rfl rfl rfl rfl (by decide) (Yd.mv rfl (.t rfl)) ?_
    refine W.q rfl rfl rfl rfl (by decide) (Yd.as rfl (.t rfl)) ?_
    refine W.end ?_
    refine NX.sub (env' := [(2, _)]) ⟨rfl, trivial⟩ ?_
    refine NX.then ?_
    refine Tr.ret' ?_
    refine res1 rfl rfl ?_
    intro w hc
    cases hr
    exact ⟨rfl, hc⟩
  refine Tr.block ?_
  refine Tr.sub (env' := [(0, _), (3, _), (4, _)]) ⟨rfl, rfl, rfl, trivial⟩ ?_
  refine Tr.loop (S := fun n (z : Int × Int) env x => match z with | (i_8, n_3) => env = [(0, .int .u32 (w_0.toNat : Int)), (3, .int .i64 n_3), (4, .int .i64 i_8)] ∧ x = ⟨m, l⟩ ∧ n = ((32 : Int) - i_8).toNat ∧ 0 ≤ i_8 ∧ forK (σ := Int) (fun i s nx_ => syllogistref_Size_b9 w_0 i s nx_) (fun s => syllogistref_Size_k6 s) n i_8 n_3 = some r) _ ((0 : Int), (0 : Int)) ⟨rfl, rfl, rfl, (by omega), hr⟩ ?_
  rintro n11 ⟨i_8, n_3⟩ env x ⟨rfl, rfl, hni_8, h0i_8, hr⟩
  cases n11 with
  | zero =>
    simp only [forK] at hr
    refine Tr.seq ?_
    refine Tr.seq ?_
    refine Tr.region_f (fun _ => false) ?_
    refine W.q rfl rfl rfl rfl (by decide) (Yd.mv rfl (.t rfl)) ?_
    refine W.q rfl rfl rfl rfl (by decide) (Yd.lss rfl (.t rfl) .c) ?_
    refine W.end ?_
    refine NX.sub (env' := [(0, _), (3, _), (4, _), (6, _)]) ⟨rfl, rfl, rfl, rfl, trivial⟩ ?_
    refine NX.then ?_
    refine Tr.cond (.t rfl) (fun hb => ?_) (fun hb => ?_)
    · exact absurd (hb.symm.trans (fr_end hni_8)) (by decide)
    ·
      refine Tr.exit' (EX.then (EX.then (EX.block ?_)))
      refine NX.sub (env' := [(3, _)]) ⟨rfl, trivial⟩ ?_
      exact hk7 _ _ ⟨_, rfl, rfl, hr⟩
  | succ n11 =>
    obtain ⟨nx10, hnx10, hr⟩ := forK_succ hr
    try dsimp only at hr
    unfold syllogistref_Size_b9 at hr
    try dsimp only at hr
    have hlti_8 := fr_bnd hni_8
    refine Tr.seq ?_
    refine Tr.seq ?_
    refine Tr.region_f (fun _ => false) ?_
    refine W.q rfl rfl rfl rfl (by decide) (Yd.mv rfl (.t rfl)) ?_
    refine W.q rfl rfl rfl rfl (by decide) (Yd.lss rfl (.t rfl) .c) ?_
    refine W.end ?_
    refine NX.sub (env' := [(0, _), (3, _), (4, _), (6, _)]) ⟨rfl, rfl, rfl, rfl, trivial⟩ ?_
    refine NX.then ?_
    refine Tr.cond (.t rfl) (fun hb => ?_) (fun hb => ?_)
    rotate_left
    · exact absurd (hb.symm.trans (fr_go hni_8)) (by decide)
    ·
      refine Tr.skip' ?_
      refine NX.then ?_
      refine Tr.seq ?_
      refine Tr.block ?_
      refine Tr.seq ?_
      obtain ⟨r12, hr13, hr⟩ := bind_some hr
      refine Tr.region_f (fun _ => false) ?_
      refine W.q rfl rfl rfl rfl (by decide) (Yd.mv rfl (.t rfl)) ?_
      refine W.q rfl rfl rfl rfl (by decide) (Yd.mv rfl (.t rfl)) ?_
      refine W.q rfl rfl rfl rfl (by decide) (Yd.call (v := .bool r12) rfl Try.func33 rfl rfl (.cons (.t rfl) (.cons (.t rfl) .nil)) (fun x' hx w hw => syllogistref_Bit_ok w0 x'.m x'.l w_0 i_8 _ hr13 w hw)) ?_
      refine W.end ?_
      refine NX.sub (env' := [(0, _), (3, _), (4, _), (11, _)]) ⟨rfl, rfl, rfl, rfl, trivial⟩ ?_
      refine NX.then ?_
      refine Tr.cond (.t rfl) (fun hb => ?_) (fun hb => ?_)
      · have hr := cond_t hb hr
        refine Tr.region_f (fun _ => false) ?_
        refine W.q rfl rfl rfl rfl (by decide) (Yd.mv rfl (.t rfl)) ?_
        refine W.q rfl rfl rfl rfl (by decide) (Yd.add rfl (.t rfl) .c) ?_
        refine W.q rfl rfl rfl rfl (by decide) (Yd.as rfl (.t rfl)) ?_
        refine W.end ?_
        refine NX.sub (env' := [(0, _), (3, _), (4, _)]) ⟨rfl, rfl, rfl, trivial⟩ ?_
        refine NX.block ?_
        refine NX.then ?_
        refine Tr.region_f (fun _ => false) ?_
        refine W.q rfl rfl rfl rfl (by decide) (Yd.mv rfl (.t rfl)) ?_
        refine W.q rfl rfl rfl rfl (by decide) (Yd.add rfl (.t rfl) .c) ?_
        refine W.q rfl rfl rfl rfl (by decide) (Yd.as rfl (.t rfl)) ?_
        refine W.end ?_
        refine NX.sub (env' := [(0, _), (3, _), (4, _)]) ⟨rfl, rfl, rfl, trivial⟩ ?_
        refine NX.sub (env' := [(0, _), (3, _), (4, _)]) ⟨rfl, rfl, rfl, trivial⟩ ?_
        have hw := w64_id (n := i_8 + 1) (by omega) (by omega)
        exact NX.again n11 (i_8 + 1, (w64 (n_3 + (1 : Int)))) (Nat.lt_succ_self _) ⟨(by rw [hw] <;> rfl), rfl, (fr_dec hni_8), (by omega), ((hnx10 _).symm.trans hr)⟩
      · have hr := cond_f hb hr
        refine Tr.skip' ?_
        refine NX.block ?_
        refine NX.then ?_
        refine Tr.region_f (fun _ => false) ?_
        refine W.q rfl rfl rfl rfl (by decide) (Yd.mv rfl (.t rfl)) ?_
        refine W.q rfl rfl rfl rfl (by decide) (Yd.add rfl (.t rfl) .c) ?_
        refine W.q rfl rfl rfl rfl (by decide) (Yd.as rfl (.t rfl)) ?_
        refine W.end ?_
        refine NX.sub (env' := [(0, _), (3, _), (4, _)]) ⟨rfl, rfl, rfl, trivial⟩ ?_
        refine NX.sub (env' := [(0, _), (3, _), (4, _)]) ⟨rfl, rfl, rfl, trivial⟩ ?_
        have hw := w64_id (n := i_8 + 1) (by omega) (by omega)
        exact NX.again n11 (i_8 + 1, n_3) (Nat.lt_succ_self _) ⟨(by rw [hw] <;> rfl), rfl, (fr_dec hni_8), (by omega), ((hnx10 _).symm.trans hr)⟩

def syllogistref_In (a_0 : (BitVec 32)) (b_1 : (BitVec 32)) : Option (Bool) :=
  some (((a_0 ||| b_1) == b_1))

set_option maxRecDepth 100000 in
theorem syllogistref_In_ok (w0 : World) (m : Snap) (l : List HI) (a_0 : (BitVec 32)) (b_1 : (BitVec 32)) (r : Bool) (hr : syllogistref_In a_0 b_1 = some r) (w : World) (hc : cX w0 ⟨m, l⟩ w) :
    Calls Try.prog 48 [.int .u32 (a_0.toNat : Int), .int .u32 (b_1.toNat : Int)].toArray w fun e w' => e = .returned (.bool r) ∧ cX w0 ⟨m, l⟩ w' := by
  unfold syllogistref_In at hr
  refine calls_of_Tr (N := 10) Try.func48 rfl hc rfl (Nat.le_of_ble_eq_true rfl) ?_
  refine Tr.seq ?_
  refine Tr.region_f (fun _ => false) ?_
  refine W.q rfl rfl rfl rfl (by decide) (Yd.as rfl .c) ?_
  refine W.end ?_
  refine NX.sub (env' := [(0, _), (1, _)]) ⟨rfl, rfl, trivial⟩ ?_
  refine NX.then ?_
  refine Tr.seq ?_
  refine Tr.region_f (fun _ => false) ?_
  refine W.q rfl rfl rfl rfl (by decide) (Yd.mv rfl (.t rfl)) ?_
  refine W.q rfl rfl rfl rfl (by decide) (Yd.mv rfl (.t rfl)) ?_
  refine W.q rfl rfl rfl rfl (by decide) (Yd.orU (a := a_0) (b := b_1) rfl (.t rfl) (.t rfl)) ?_
  refine W.q rfl rfl rfl rfl (by decide) (Yd.mv rfl (.t rfl)) ?_
  refine W.q rfl rfl rfl rfl (by decide) (Yd.eqlU (a := (a_0 ||| b_1)) (b := b_1) rfl (.t rfl) (.t rfl)) ?_
  refine W.q rfl rfl rfl rfl (by decide) (Yd.as rfl (.t rfl)) ?_
  refine W.end ?_
  refine NX.sub (env' := [(4, _)]) ⟨rfl, trivial⟩ ?_
  refine NX.then ?_
  refine Tr.ret' ?_
  refine res1 rfl rfl ?_
  intro w hc
  cases hr
  exact ⟨rfl, hc⟩

def syllogistref_True_k3 : Option (Bool) :=
  some true

def syllogistref_True_b7 (l_0 : List Clause) (s_1 : (BitVec 32)) (t_6 : Int) (nx8 : Unit → Option (Bool)) : Option (Bool) :=
  (geti l_0 t_6).bind fun y10 =>
  bif (!(((y10.yes &&& s_1) == 0#32) == true) || (syllogistref_In y10.no s_1).isSome) then
  (bif (((y10.yes &&& s_1) == 0#32) && (((syllogistref_In y10.no s_1).getD false))) then
  some false
  else
  nx8 ()) else none

def syllogistref_True (l_0 : List Clause) (s_1 : (BitVec 32)) : Option (Bool) :=
  forK (σ := Unit) (fun i s nx_ => syllogistref_True_b7 l_0 s_1 i nx_) (fun _ => syllogistref_True_k3) ((l_0.length : Int) - (0 : Int)).toNat (0 : Int) ()

set_option maxRecDepth 100000 in
theorem syllogistref_True_ok (w0 : World) (m : Snap) (l : List HI) (ul_0 : Value) (l_0 : List Clause) (hl_0 : RS rClause m ul_0 l_0) (s_1 : (BitVec 32)) (r : Bool) (hr : syllogistref_True l_0 s_1 = some r) (w : World) (hc : cX w0 ⟨m, l⟩ w) :
    Calls Try.prog 24 [ul_0, .int .u32 (s_1.toNat : Int)].toArray w fun e w' => e = .returned (.bool r) ∧ cX w0 ⟨m, l⟩ w' := by
  unfold syllogistref_True at hr
  refine calls_of_Tr (N := 25) Try.func24 rfl hc rfl (Nat.le_of_ble_eq_true rfl) ?_
  refine Tr.seq ?_
  refine Tr.region_f (fun _ => false) ?_
  refine W.q rfl rfl rfl rfl (by decide) (Yd.as rfl .c) ?_
  refine W.end ?_
  refine NX.sub (env' := [(0, _), (1, _)]) ⟨rfl, rfl, trivial⟩ ?_
  refine NX.then ?_
  refine Tr.seq ?_
  refine Tr.seq ?_
  refine Tr.region_f (fun _ => false) ?_
  refine W.q rfl rfl rfl rfl (by decide) (Yd.mv rfl (.t rfl)) ?_
  refine W.q rfl rfl rfl rfl (by decide) (Yd.lenR hl_0 rfl Try.underlying40 (.t rfl)) ?_
  refine W.q rfl rfl rfl rfl (by decide) (Yd.mv rfl .c) ?_
  refine W.end ?_
  refine NX.sub (env' := [(1, _), (7, _), (8, _), (9, _)]) ⟨rfl, rfl, rfl, rfl, trivial⟩ ?_
  refine NX.then ?_
  refine Tr.join (S := fun env x => env = [] ∧ x = ⟨m, l⟩ ∧ syllogistref_True_k3 = some r) ?_ (fun hk4 => ?_)
  · rintro _ _ ⟨rfl, rfl, hr⟩
    unfold syllogistref_True_k3 at hr
    try dsimp only at hr
    refine NX.then ?_
    refine Tr.seq ?_
    refine Tr.region_f (fun _ => false) ?_
    refine W.q rfl rfl rfl rfl (by decide) (Yd.as rfl .c) ?_
    refine W.end ?_
    refine NX.sub (env' := [(4, _)]) ⟨rfl, trivial⟩ ?_
    refine NX.then ?_
    refine Tr.ret' ?_
    refine res1 rfl rfl ?_
    intro w hc
    cases hr
    exact ⟨rfl, hc⟩
  have hlen5 := (hl_0).2.1
  refine Tr.block ?_
  refine Tr.sub (env' := [(1, _), (7, _), (8, _), (9, _)]) ⟨rfl, rfl, rfl, rfl, trivial⟩ ?_
  refine Tr.loop (S := fun n (z : Int × Unit) env x => match z with | (t_6, _) => env = [(1, .int .u32 (s_1.toNat : Int)), (7, ul_0), (8, .int .i64 ((l_0.length : Int))), (9, .int .i64 t_6)] ∧ x = ⟨m, l⟩ ∧ n = ((l_0.length : Int) - t_6).toNat ∧ 0 ≤ t_6 ∧ forK (σ := Unit) (fun i s nx_ => syllogistref_True_b7 l_0 s_1 i nx_) (fun _ => syllogistref_True_k3) n t_6 () = some r) _ ((0 : Int), ()) ⟨rfl, rfl, rfl, (by omega), hr⟩ ?_
  rintro n9 ⟨t_6, _⟩ env x ⟨rfl, rfl, hnt_6, h0t_6, hr⟩
  cases n9 with
  | zero =>
    simp only [forK] at hr
    refine Tr.seq ?_
    refine Tr.region_f (fun _ => false) ?_
    refine W.q rfl rfl rfl rfl (by decide) (Yd.lss rfl (.t rfl) (.t rfl)) ?_
    refine W.end ?_
    refine NX.sub (env' := [(1, _), (7, _), (8, _), (9, _), (10, _)]) ⟨rfl, rfl, rfl, rfl, rfl, trivial⟩ ?_
    refine NX.then ?_
    refine Tr.seq ?_
    refine Tr.cond (.t rfl) (fun hb => ?_) (fun hb => ?_)
    · exact absurd (hb.symm.trans (fr_end hnt_6)) (by decide)
    ·
      refine Tr.exit' (EX.then (EX.then (EX.block ?_)))
      refine NX.sub (env' := []) trivial ?_
      exact hk4 _ _ ⟨rfl, rfl, hr⟩
  | succ n9 =>
    obtain ⟨nx8, hnx8, hr⟩ := forK_succ hr
    try dsimp only at hr
    unfold syllogistref_True_b7 at hr
    try dsimp only at hr
    have hltt_6 := fr_bnd hnt_6
    refine Tr.seq ?_
    refine Tr.region_f (fun _ => false) ?_
    refine W.q rfl rfl rfl rfl (by decide) (Yd.lss rfl (.t rfl) (.t rfl)) ?_
    refine W.end ?_
    refine NX.sub (env' := [(1, _), (7, _), (8, _), (9, _), (10, _)]) ⟨rfl, rfl, rfl, rfl, rfl, trivial⟩ ?_
    refine NX.then ?_
    refine Tr.seq ?_
    refine Tr.cond (.t rfl) (fun hb => ?_) (fun hb => ?_)
    rotate_left
    · exact absurd (hb.symm.trans (fr_go hnt_6)) (by decide)
    ·
      refine Tr.skip' ?_
      refine NX.then ?_
      refine Tr.seq ?_
      refine Tr.block ?_
      refine Tr.seq ?_
      obtain ⟨y10, hy11, hr⟩ := bind_some hr
      refine Tr.region_f (fun i => Nat.beq i 2 || Nat.beq i 3) ?_
      refine W.q rfl rfl rfl rfl (by decide) (Yd.idxR hl_0 hy11 rfl Try.underlying40 SZ46 (.t rfl) (.t rfl)) ?_
      refine W.q rfl rfl rfl rfl (by decide) (Yd.ldFs (us := [_, _]) hl_0 (.refl _) hy11 rfl rfl ON46 US46 SZ46 (.t rfl)) ?_
      refine W.e rfl rfl rfl rfl (by decide) (Ef.al rfl ZR46 rfl) ?_
      rintro _ _ ⟨b12, rfl, rfl⟩
      refine ⟨.inl rfl, ?_⟩
      refine W.cast (m' := m) (l' := hcells b12 [_, _] 46 :: l) rfl rfl ?_
      refine W.s rfl rfl rfl rfl (Ef.stB (pos := 0) (us := [_, _]) (cs' := [_, _]) rfl rfl (.t rfl) (.t rfl) SZ46 rfl rfl rfl (Nat.le_of_ble_eq_true rfl) rfl) ?_
      rintro _ _ ⟨rfl, rfl⟩
      refine ⟨.inl rfl, ?_⟩
      refine W.cast (m' := m) (l' := hcells b12 [_, _] 46 :: l) rfl rfl ?_
      refine W.end ?_
      refine NX.sub (env' := [(1, _), (7, _), (8, _), (9, _), (6, _)]) ⟨rfl, rfl, rfl, rfl, rfl, trivial⟩ ?_
      refine NX.then ?_
      refine Tr.seq ?_
      obtain ⟨ha14, hr⟩ := guard_some hr
      refine Tr.region_f (fun _ => false) ?_
      refine W.q rfl rfl rfl rfl (by decide) (Yd.fldB rfl Try.underlying46 rfl SZ41 rfl (.t rfl)) ?_
      refine W.q rfl rfl rfl rfl (by decide) (Yd.ldB (pos := 0) rfl rfl rfl ON41 (.t rfl)) ?_
      refine W.q rfl rfl rfl rfl (by decide) (Yd.mv rfl (.t rfl)) ?_
      refine W.q rfl rfl rfl rfl (by decide) (Yd.andU (a := y10.yes) (b := s_1) rfl (.t rfl) (.t rfl)) ?_
      refine W.q rfl rfl rfl rfl (by decide) (Yd.eqlU (a := (y10.yes &&& s_1)) (b := 0#32) rfl (.t rfl) .c) ?_
      refine W.q rfl rfl rfl rfl (by decide) (Yd.mv rfl (.t rfl)) ?_
      refine W.g rfl rfl rfl rfl rfl (.t rfl _) rfl (by decide) (fun hG => Yd.fldB rfl Try.underlying46 rfl SZ41 rfl (.t rfl)) ?_
      refine W.g rfl rfl rfl rfl rfl (.t rfl _) rfl (by decide) (fun hG => Yd.ldB (pos := 0) rfl rfl rfl ON41 (.g rfl hG)) ?_
      refine W.g rfl rfl rfl rfl rfl (.t rfl _) rfl (by decide) (fun hG => Yd.mv rfl (.t rfl)) ?_
      refine W.g rfl rfl rfl rfl rfl (.t rfl _) rfl (by decide) (fun hG => Yd.call (v := .bool ((((syllogistref_In y10.no s_1).getD false)))) rfl Try.func48 rfl rfl (.cons (.g rfl hG) (.cons (.g rfl hG) .nil)) (fun x' hx w hw => syllogistref_In_ok w0 x'.m x'.l y10.no s_1 _ (gd_get (d := false) ha14 hG) w hw)) ?_
      refine W.q rfl rfl rfl rfl (by decide) (Yd.and rfl (.t rfl) .c rfl rfl) ?_
      refine W.end ?_
      refine NX.sub (env' := [(1, _), (7, _), (8, _), (9, _), (23, _)]) ⟨rfl, rfl, rfl, rfl, rfl, trivial⟩ ?_
      refine NX.drop (l' := l) (.cons _ (.refl _)) ?_
      refine NX.then ?_
      refine Tr.cond (.t rfl) (fun hb => ?_) (fun hb => ?_)
      · have hr := cond_t hb hr
        refine Tr.seq ?_
        refine Tr.region_f (fun _ => false) ?_
        refine W.q rfl rfl rfl rfl (by decide) (Yd.as rfl .c) ?_
        refine W.end ?_
        refine NX.sub (env' := [(4, _)]) ⟨rfl, trivial⟩ ?_
        refine NX.then ?_
        refine Tr.ret' (RT.block (RT.then (RT.then (RT.block (RT.then ?_)))))
        refine res1 rfl rfl ?_
        intro w hc
        cases hr
        exact ⟨rfl, hc⟩
      · have hr := cond_f hb hr
        refine Tr.skip' ?_
        refine NX.block ?_
        refine NX.then ?_
        refine Tr.region_f (fun _ => false) ?_
        refine W.q rfl rfl rfl rfl (by decide) (Yd.add rfl (.t rfl) .c) ?_
        refine W.q rfl rfl rfl rfl (by decide) (Yd.mv rfl (.t rfl)) ?_
        refine W.end ?_
        refine NX.sub (env' := [(1, _), (7, _), (8, _), (9, _)]) ⟨rfl, rfl, rfl, rfl, trivial⟩ ?_
        refine NX.sub (env' := [(1, _), (7, _), (8, _), (9, _)]) ⟨rfl, rfl, rfl, rfl, trivial⟩ ?_
        have hw := w64_id (n := t_6 + 1) (by omega) (by omega)
        exact NX.again n9 (t_6 + 1, ()) (Nat.lt_succ_self _) ⟨(by rw [hw] <;> rfl), rfl, (fr_dec hnt_6), (by omega), ((hnx8 _).symm.trans hr)⟩

def syllogistlaw_ClauseHorns_k20 (r1 : (BitVec 32) × Int) (want_18 : BitVec 32) (some_19 : Bool) : Option (Bool) :=
  (bif (!some_19) then
  some (((r1.2 == (5 : Int)) && (r1.1 == 0#32)))
  else
  some (((r1.2 == (0 : Int)) && (r1.1 == want_18))))

def syllogistlaw_ClauseHorns_b23 (l_1 : List Clause) (t_22 : BitVec 32) (want_15 : BitVec 32) (some_16 : Bool) (nx24 : ((BitVec 32) × Bool) → Option (Bool)) : Option (Bool) :=
  (syllogistref_True l_1 t_22).bind fun r26 =>
  (bif r26 then
  nx24 ((want_15 &&& t_22), true)
  else
  nx24 (want_15, some_16))

def syllogistlaw_ClauseHorns_k10 (n_0 : Int) (l_1 : List Clause) (r1 : (BitVec 32) × Int) (x_9 : Int) : Option (Bool) :=
  (bif (x_9 != (0 : Int)) then
  some (((r1.2 == x_9) && (r1.1 == 0#32)))
  else
  forK (σ := (BitVec 32) × Bool) (fun i s nx_ => syllogistlaw_ClauseHorns_b23 l_1 i s.1 s.2 nx_) (fun s => syllogistlaw_ClauseHorns_k20 r1 s.1 s.2) (((1#32 <<< ((BitVec.ofInt 64 n_0)).toNat)).toNat - (0#32).toNat) 0#32 ((((1#32 <<< ((BitVec.ofInt 64 n_0)).toNat) - 1#32)), false))

def syllogistlaw_ClauseHorns_b30 (l_1 : List Clause) (t_29 : Int) (x_7 : Int) (nx31 : Int → Option (Bool)) : Option (Bool) :=
  (geti l_1 t_29).bind fun y33 =>
  bif (!((x_7 == (0 : Int)) == true) || (syllogistref_Size y33.yes).isSome) then
  (bif ((x_7 == (0 : Int)) && (decide ((((syllogistref_Size y33.yes).getD (0 : Int))) > (1 : Int)))) then
  nx31 (3 : Int)
  else
  nx31 x_7) else none

def syllogistlaw_ClauseHorns (fuel : Nat) (n_0 : Int) (l_1 : List Clause) : Option (Bool) :=
  (clause_Horn fuel n_0 l_1).bind fun r1 =>
  (syllogistref_SatCheck n_0 l_1).bind fun r3 =>
  forK (σ := Int) (fun i s nx_ => syllogistlaw_ClauseHorns_b30 l_1 i s nx_) (fun s => syllogistlaw_ClauseHorns_k10 n_0 l_1 r1 s) ((l_1.length : Int) - (0 : Int)).toNat (0 : Int) r3

set_option maxRecDepth 100000 in
theorem syllogistlaw_ClauseHorns_ok (w0 : World) (m : Snap) (l : List HI) (fuel : Nat) (n_0 : Int) (ul_1 : Value) (l_1 : List Clause) (hl_1 : RS rClause m ul_1 l_1) (r : Bool) (hr : syllogistlaw_ClauseHorns fuel n_0 l_1 = some r) (w : World) (hc : cX w0 ⟨m, l⟩ w) :
    Calls Try.prog 6 [.int .i64 n_0, ul_1].toArray w fun e w' => e = .returned (.bool r) ∧ cX w0 ⟨m, l⟩ w' := by
  unfold syllogistlaw_ClauseHorns at hr
  refine calls_of_Tr (N := 78) Try.func6 rfl hc rfl (Nat.le_of_ble_eq_true rfl) ?_
  refine Tr.seq ?_
  refine Tr.region_f (fun _ => false) ?_
  refine W.q rfl rfl rfl rfl (by decide) (Yd.as rfl .c) ?_
  refine W.end ?_
  refine NX.sub (env' := [(0, _), (1, _)]) ⟨rfl, rfl, trivial⟩ ?_
  refine NX.then ?_
  refine Tr.seq ?_
  obtain ⟨r1, hr2, hr⟩ := bind_some hr
  refine Tr.region_f (fun _ => false) ?_
  refine W.q rfl rfl rfl rfl (by decide) (Yd.mv rfl (.t rfl)) ?_
  refine W.q rfl rfl rfl rfl (by decide) (Yd.mv rfl (.t rfl)) ?_
  refine W.q rfl rfl rfl rfl (by decide) (Yd.call (v := .tuple #[.int .u32 (r1.1.toNat : Int), .int .i64 r1.2]) rfl Try.func21 rfl rfl (.cons (.t rfl) (.cons (.t rfl) .nil)) (fun x' hx w hw => clause_Horn_ok w0 x'.m x'.l fuel n_0 _ _ (hl_1.mono hx.1) _ hr2 w hw)) ?_
  refine W.q rfl rfl rfl rfl (by decide) (Yd.mv rfl (.t rfl)) ?_
  refine W.q rfl rfl rfl rfl (by decide) (Yd.ext rfl (.t rfl) rfl) ?_
  refine W.q rfl rfl rfl rfl (by decide) (Yd.ext rfl (.t rfl) rfl) ?_
  refine W.q rfl rfl rfl rfl (by decide) (Yd.as rfl (.t rfl)) ?_
  refine W.q rfl rfl rfl rfl (by decide) (Yd.as rfl (.t rfl)) ?_
  refine W.end ?_
  refine NX.sub (env' := [(0, _), (1, _), (5, _), (6, _)]) ⟨rfl, rfl, rfl, rfl, trivial⟩ ?_
  refine NX.then ?_
  refine Tr.seq ?_
  obtain ⟨r3, hr4, hr⟩ := bind_some hr
  refine Tr.region_f (fun _ => false) ?_
  refine W.q rfl rfl rfl rfl (by decide) (Yd.mv rfl (.t rfl)) ?_
  refine W.q rfl rfl rfl rfl (by decide) (Yd.mv rfl (.t rfl)) ?_
  refine W.q rfl rfl rfl rfl (by decide) (Yd.call (v := .int .i64 r3) rfl Try.func22 rfl rfl (.cons (.t rfl) (.cons (.t rfl) .nil)) (fun x' hx w hw => syllogistref_SatCheck_ok w0 x'.m x'.l n_0 _ _ (hl_1.mono hx.1) _ hr4 w hw)) ?_
  refine W.q rfl rfl rfl rfl (by decide) (Yd.as rfl (.t rfl)) ?_
  refine W.end ?_
  refine NX.sub (env' := [(0, _), (1, _), (5, _), (6, _), (7, _)]) ⟨rfl, rfl, rfl, rfl, rfl, trivial⟩ ?_
  refine NX.then ?_
  refine Tr.seq ?_
  refine Tr.seq ?_
  refine Tr.region_f (fun _ => false) ?_
  refine W.q rfl rfl rfl rfl (by decide) (Yd.mv rfl (.t rfl)) ?_
  refine W.q rfl rfl rfl rfl (by decide) (Yd.lenR hl_1 rfl Try.underlying40 (.t rfl)) ?_
  refine W.q rfl rfl rfl rfl (by decide) (Yd.mv rfl .c) ?_
  refine W.end ?_
  refine NX.sub (env' := [(0, _), (1, _), (5, _), (6, _), (7, _), (22, _), (23, _), (24, _)]) ⟨rfl, rfl, rfl, rfl, rfl, rfl, rfl, rfl, trivial⟩ ?_
  refine NX.then ?_
  refine Tr.join (S := fun env x => ∃ x_9 : Int, env = [(0, .int .i64 n_0), (1, ul_1), (5, .int .u32 (r1.1.toNat : Int)), (6, .int .i64 r1.2), (7, .int .i64 x_9)] ∧ x = ⟨m, l⟩ ∧ syllogistlaw_ClauseHorns_k10 n_0 l_1 r1 x_9 = some r) ?_ (fun hk11 => ?_)
  · rintro _ _ ⟨x_9, rfl, rfl, hr⟩
    unfold syllogistlaw_ClauseHorns_k10 at hr
    try dsimp only at hr
    refine NX.then ?_
    refine Tr.seq ?_
    refine Tr.seq ?_
    refine Tr.region_f (fun _ => false) ?_
    refine W.q rfl rfl rfl rfl (by decide) (Yd.mv rfl (.t rfl)) ?_
    refine W.q rfl rfl rfl rfl (by decide) (Yd.neq rfl (.t rfl) .c) ?_
    refine W.end ?_
    refine NX.sub (env' := [(0, _), (1, _), (5, _), (6, _), (7, _), (38, _)]) ⟨rfl, rfl, rfl, rfl, rfl, rfl, trivial⟩ ?_
    refine NX.then ?_
    refine Tr.cond (.t rfl) (fun hb => ?_) (fun hb => ?_)
    · have hr := cond_t hb hr
      refine Tr.seq ?_
      refine Tr.region_f (fun _ => false) ?_
      refine W.q rfl rfl rfl rfl (by decide) (Yd.mv rfl (.t rfl)) ?_
      refine W.q rfl rfl rfl rfl (by decide) (Yd.mv rfl (.t rfl)) ?_
      refine W.q rfl rfl rfl rfl (by decide) (Yd.eql rfl (.t rfl) (.t rfl)) ?_
      refine W.q rfl rfl rfl rfl (by decide) (Yd.mv rfl (.t rfl)) ?_
      refine W.g rfl rfl rfl rfl rfl (.t rfl _) rfl (by decide) (fun hG => Yd.mv rfl (.t rfl)) ?_
      refine W.g rfl rfl rfl rfl rfl (.t rfl _) rfl (by decide) (fun hG => Yd.eqlU (a := r1.1) (b := 0#32) rfl (.g rfl hG) .c) ?_
      refine W.q rfl rfl rfl rfl (by decide) (Yd.and rfl (.t rfl) .c rfl rfl) ?_
      refine W.q rfl rfl rfl rfl (by decide) (Yd.as rfl (.t rfl)) ?_
      refine W.end ?_
      refine NX.sub (env' := [(4, _)]) ⟨rfl, trivial⟩ ?_
      refine NX.then ?_
      refine Tr.ret' (RT.then ?_)
      refine res1 rfl rfl ?_
      intro w hc
      cases hr
      exact ⟨rfl, hc⟩
    · have hr := cond_f hb hr
      refine Tr.skip' ?_
      refine NX.then ?_
      refine Tr.seq ?_
      refine Tr.region_f (fun _ => false) ?_
      refine W.q rfl rfl rfl rfl (by decide) (Yd.mv rfl (.t rfl)) ?_
      refine W.q rfl rfl rfl rfl (by decide) (Yd.cvQ rfl US3 Try.underlying48 (.t rfl)) ?_
      refine W.q rfl rfl rfl rfl (by decide) (Yd.shlU (a := 1#32) rfl .c (.t rfl) (Int.natCast_nonneg _)) ?_
      refine W.q rfl rfl rfl rfl (by decide) (Yd.subU (a := (1#32 <<< ((BitVec.ofInt 64 n_0)).toNat)) (b := 1#32) rfl (.t rfl) .c) ?_
      refine W.q rfl rfl rfl rfl (by decide) (Yd.as rfl (.t rfl)) ?_
      refine W.end ?_
      refine NX.sub (env' := [(0, _), (1, _), (5, _), (6, _), (10, _)]) ⟨rfl, rfl, rfl, rfl, rfl, trivial⟩ ?_
      refine NX.then ?_
      refine Tr.seq ?_
      refine Tr.region_f (fun _ => false) ?_
      refine W.q rfl rfl rfl rfl (by decide) (Yd.as rfl .c) ?_
      refine W.end ?_
      refine NX.sub (env' := [(0, _), (1, _), (5, _), (6, _), (10, _), (11, _)]) ⟨rfl, rfl, rfl, rfl, rfl, rfl, trivial⟩ ?_
      refine NX.then ?_
      refine Tr.seq ?_
      refine Tr.seq ?_
      refine Tr.region_f (fun _ => false) ?_
      refine W.q rfl rfl rfl rfl (by decide) (Yd.as rfl .c) ?_
      refine W.end ?_
      refine NX.sub (env' := [(0, _), (1, _), (5, _), (6, _), (10, _), (11, _), (12, _)]) ⟨rfl, rfl, rfl, rfl, rfl, rfl, rfl, trivial⟩ ?_
      refine NX.then ?_
      refine Tr.join (S := fun env x => ∃ want_18 : BitVec 32, ∃ some_19 : Bool, env = [(5, .int .u32 (r1.1.toNat : Int)), (6, .int .i64 r1.2), (10, .int .u32 (want_18.toNat : Int)), (11, .bool some_19)] ∧ x = ⟨m, l⟩ ∧ syllogistlaw_ClauseHorns_k20 r1 want_18 some_19 = some r) ?_ (fun hk21 => ?_)
      · rintro _ _ ⟨want_18, some_19, rfl, rfl, hr⟩
        unfold syllogistlaw_ClauseHorns_k20 at hr
        try dsimp only at hr
        refine NX.then ?_
        refine Tr.seq ?_
        refine Tr.seq ?_
        refine Tr.region_f (fun _ => false) ?_
        refine W.q rfl rfl rfl rfl (by decide) (Yd.mv rfl (.t rfl)) ?_
        refine W.q rfl rfl rfl rfl (by decide) (Yd.not rfl (.t rfl)) ?_
        refine W.end ?_
        refine NX.sub (env' := [(5, _), (6, _), (10, _), (64, _)]) ⟨rfl, rfl, rfl, rfl, trivial⟩ ?_
        refine NX.then ?_
        refine Tr.cond (.t rfl) (fun hb => ?_) (fun hb => ?_)
        · have hr := cond_t hb hr
          refine Tr.seq ?_
          refine Tr.region_f (fun _ => false) ?_
          refine W.q rfl rfl rfl rfl (by decide) (Yd.mv rfl (.t rfl)) ?_
          refine W.q rfl rfl rfl rfl (by decide) (Yd.eql rfl (.t rfl) .c) ?_
          refine W.q rfl rfl rfl rfl (by decide) (Yd.mv rfl (.t rfl)) ?_
          refine W.g rfl rfl rfl rfl rfl (.t rfl _) rfl (by decide) (fun hG => Yd.mv rfl (.t rfl)) ?_
          refine W.g rfl rfl rfl rfl rfl (.t rfl _) rfl (by decide) (fun hG => Yd.eqlU (a := r1.1) (b := 0#32) rfl (.g rfl hG) .c) ?_
          refine W.q rfl rfl rfl rfl (by decide) (Yd.and rfl (.t rfl) .c rfl rfl) ?_
          refine W.q rfl rfl rfl rfl (by decide) (Yd.as rfl (.t rfl)) ?_
          refine W.end ?_
          refine NX.sub (env' := [(4, _)]) ⟨rfl, trivial⟩ ?_
          refine NX.then ?_
          refine Tr.ret' (RT.then ?_)
          refine res1 rfl rfl ?_
          intro w hc
          cases hr
          exact ⟨rfl, hc⟩
        · have hr := cond_f hb hr
          refine Tr.skip' ?_
          refine NX.then ?_
          refine Tr.seq ?_
          refine Tr.region_f (fun _ => false) ?_
          refine W.q rfl rfl rfl rfl (by decide) (Yd.mv rfl (.t rfl)) ?_
          refine W.q rfl rfl rfl rfl (by decide) (Yd.eql rfl (.t rfl) .c) ?_
          refine W.q rfl rfl rfl rfl (by decide) (Yd.mv rfl (.t rfl)) ?_
          refine W.g rfl rfl rfl rfl rfl (.t rfl _) rfl (by decide) (fun hG => Yd.mv rfl (.t rfl)) ?_
          refine W.g rfl rfl rfl rfl rfl (.t rfl _) rfl (by decide) (fun hG => Yd.mv rfl (.t rfl)) ?_
          refine W.g rfl rfl rfl rfl rfl (.t rfl _) rfl (by decide) (fun hG => Yd.eqlU (a := r1.1) (b := want_18) rfl (.g rfl hG) (.g rfl hG)) ?_
          refine W.q rfl rfl rfl rfl (by decide) (Yd.and rfl (.t rfl) .c rfl rfl) ?_
          refine W.q rfl rfl rfl rfl (by decide) (Yd.as rfl (.t rfl)) ?_
          refine W.end ?_
          refine NX.sub (env' := [(4, _)]) ⟨rfl, trivial⟩ ?_
          refine NX.then ?_
          refine Tr.ret' ?_
          refine res1 rfl rfl ?_
          intro w hc
          cases hr
          exact ⟨rfl, hc⟩
      refine Tr.block ?_
      refine Tr.sub (env' := [(0, _), (1, _), (5, _), (6, _), (10, _), (11, _), (12, _)]) ⟨rfl, rfl, rfl, rfl, rfl, rfl, rfl, trivial⟩ ?_
      refine Tr.loop (S := fun n (z : BitVec 32 × (BitVec 32) × Bool) env x => match z with | (t_22, want_15, some_16) => env = [(0, .int .i64 n_0), (1, ul_1), (5, .int .u32 (r1.1.toNat : Int)), (6, .int .i64 r1.2), (10, .int .u32 (want_15.toNat : Int)), (11, .bool some_16), (12, .int .u32 (t_22.toNat : Int))] ∧ x = ⟨m, l⟩ ∧ n = ((1#32 <<< ((BitVec.ofInt 64 n_0)).toNat)).toNat - t_22.toNat ∧ forK (σ := (BitVec 32) × Bool) (fun i s nx_ => syllogistlaw_ClauseHorns_b23 l_1 i s.1 s.2 nx_) (fun s => syllogistlaw_ClauseHorns_k20 r1 s.1 s.2) n t_22 (want_15, some_16) = some r) _ (0#32, ((1#32 <<< ((BitVec.ofInt 64 n_0)).toNat) - 1#32), false) ⟨rfl, rfl, rfl, hr⟩ ?_
      rintro n25 ⟨t_22, want_15, some_16⟩ env x ⟨rfl, rfl, hnt_22, hr⟩
      cases n25 with
      | zero =>
        simp only [forK] at hr
        refine Tr.seq ?_
        refine Tr.seq ?_
        refine Tr.region_f (fun _ => false) ?_
        refine W.q rfl rfl rfl rfl (by decide) (Yd.mv rfl (.t rfl)) ?_
        refine W.q rfl rfl rfl rfl (by decide) (Yd.mv rfl (.t rfl)) ?_
        refine W.q rfl rfl rfl rfl (by decide) (Yd.cvQ rfl US3 Try.underlying48 (.t rfl)) ?_
        refine W.q rfl rfl rfl rfl (by decide) (Yd.shlU (a := 1#32) rfl .c (.t rfl) (Int.natCast_nonneg _)) ?_
        refine W.q rfl rfl rfl rfl (by decide) (Yd.lssU (a := t_22) (b := (1#32 <<< ((BitVec.ofInt 64 n_0)).toNat)) rfl (.t rfl) (.t rfl)) ?_
        refine W.end ?_
        refine NX.sub (env' := [(0, _), (1, _), (5, _), (6, _), (10, _), (11, _), (12, _), (54, _)]) ⟨rfl, rfl, rfl, rfl, rfl, rfl, rfl, rfl, trivial⟩ ?_
        refine NX.then ?_
        refine Tr.cond (.t rfl) (fun hb => ?_) (fun hb => ?_)
        · exact absurd (hb.symm.trans (fu_end hnt_22)) (by decide)
        ·
          refine Tr.exit' (EX.then (EX.then (EX.block ?_)))
          refine NX.sub (env' := [(5, _), (6, _), (10, _), (11, _)]) ⟨rfl, rfl, rfl, rfl, trivial⟩ ?_
          exact hk21 _ _ ⟨_, _, rfl, rfl, hr⟩
      | succ n25 =>
        obtain ⟨nx24, hnx24, hr⟩ := forK_succ hr
        try dsimp only at hr
        unfold syllogistlaw_ClauseHorns_b23 at hr
        try dsimp only at hr
        refine Tr.seq ?_
        refine Tr.seq ?_
        refine Tr.region_f (fun _ => false) ?_
        refine W.q rfl rfl rfl rfl (by decide) (Yd.mv rfl (.t rfl)) ?_
        refine W.q rfl rfl rfl rfl (by decide) (Yd.mv rfl (.t rfl)) ?_
        refine W.q rfl rfl rfl rfl (by decide) (Yd.cvQ rfl US3 Try.underlying48 (.t rfl)) ?_
        refine W.q rfl rfl rfl rfl (by decide) (Yd.shlU (a := 1#32) rfl .c (.t rfl) (Int.natCast_nonneg _)) ?_
        refine W.q rfl rfl rfl rfl (by decide) (Yd.lssU (a := t_22) (b := (1#32 <<< ((BitVec.ofInt 64 n_0)).toNat)) rfl (.t rfl) (.t rfl)) ?_
        refine W.end ?_
        refine NX.sub (env' := [(0, _), (1, _), (5, _), (6, _), (10, _), (11, _), (12, _), (54, _)]) ⟨rfl, rfl, rfl, rfl, rfl, rfl, rfl, rfl, trivial⟩ ?_
        refine NX.then ?_
        refine Tr.cond (.t rfl) (fun hb => ?_) (fun hb => ?_)
        rotate_left
        · exact absurd (hb.symm.trans (fu_go hnt_22)) (by decide)
        ·
          refine Tr.skip' ?_
          refine NX.then ?_
          refine Tr.seq ?_
          refine Tr.block ?_
          refine Tr.seq ?_
          obtain ⟨r26, hr27, hr⟩ := bind_some hr
          refine Tr.region_f (fun _ => false) ?_
          refine W.q rfl rfl rfl rfl (by decide) (Yd.mv rfl (.t rfl)) ?_
          refine W.q rfl rfl rfl rfl (by decide) (Yd.mv rfl (.t rfl)) ?_
          refine W.q rfl rfl rfl rfl (by decide) (Yd.call (v := .bool r26) rfl Try.func24 rfl rfl (.cons (.t rfl) (.cons (.t rfl) .nil)) (fun x' hx w hw => syllogistref_True_ok w0 x'.m x'.l _ _ (hl_1.mono hx.1) t_22 _ hr27 w hw)) ?_
          refine W.end ?_
          refine NX.sub (env' := [(0, _), (1, _), (5, _), (6, _), (10, _), (11, _), (12, _), (59, _)]) ⟨rfl, rfl, rfl, rfl, rfl, rfl, rfl, rfl, trivial⟩ ?_
          refine NX.then ?_
          refine Tr.cond (.t rfl) (fun hb => ?_) (fun hb => ?_)
          · have hr := cond_t hb hr
            refine Tr.seq ?_
            refine Tr.region_f (fun _ => false) ?_
            refine W.q rfl rfl rfl rfl (by decide) (Yd.mv rfl (.t rfl)) ?_
            refine W.q rfl rfl rfl rfl (by decide) (Yd.mv rfl (.t rfl)) ?_
            refine W.q rfl rfl rfl rfl (by decide) (Yd.andU (a := want_15) (b := t_22) rfl (.t rfl) (.t rfl)) ?_
            refine W.q rfl rfl rfl rfl (by decide) (Yd.as rfl (.t rfl)) ?_
            refine W.end ?_
            refine NX.sub (env' := [(0, _), (1, _), (5, _), (6, _), (10, _), (12, _)]) ⟨rfl, rfl, rfl, rfl, rfl, rfl, trivial⟩ ?_
            refine NX.then ?_
            refine Tr.region_f (fun _ => false) ?_
            refine W.q rfl rfl rfl rfl (by decide) (Yd.as rfl .c) ?_
            refine W.end ?_
            refine NX.sub (env' := [(0, _), (1, _), (5, _), (6, _), (10, _), (12, _), (11, _)]) ⟨rfl, rfl, rfl, rfl, rfl, rfl, rfl, trivial⟩ ?_
            refine NX.block ?_
            refine NX.then ?_
            refine Tr.region_f (fun _ => false) ?_
            refine W.q rfl rfl rfl rfl (by decide) (Yd.mv rfl (.t rfl)) ?_
            refine W.q rfl rfl rfl rfl (by decide) (Yd.addU (a := t_22) (b := 1#32) rfl (.t rfl) .c) ?_
            refine W.q rfl rfl rfl rfl (by decide) (Yd.as rfl (.t rfl)) ?_
            refine W.end ?_
            refine NX.sub (env' := [(0, _), (1, _), (5, _), (6, _), (10, _), (12, _), (11, _)]) ⟨rfl, rfl, rfl, rfl, rfl, rfl, rfl, trivial⟩ ?_
            refine NX.sub (env' := [(0, _), (1, _), (5, _), (6, _), (10, _), (11, _), (12, _)]) ⟨rfl, rfl, rfl, rfl, rfl, rfl, rfl, trivial⟩ ?_
            exact NX.again n25 (t_22 + 1, (want_15 &&& t_22), true) (Nat.lt_succ_self _) ⟨rfl, rfl, (fu_dec hnt_22), ((hnx24 _).symm.trans hr)⟩
          · have hr := cond_f hb hr
            refine Tr.skip' ?_
            refine NX.block ?_
            refine NX.then ?_
            refine Tr.region_f (fun _ => false) ?_
            refine W.q rfl rfl rfl rfl (by decide) (Yd.mv rfl (.t rfl)) ?_
            refine W.q rfl rfl rfl rfl (by decide) (Yd.addU (a := t_22) (b := 1#32) rfl (.t rfl) .c) ?_
            refine W.q rfl rfl rfl rfl (by decide) (Yd.as rfl (.t rfl)) ?_
            refine W.end ?_
            refine NX.sub (env' := [(0, _), (1, _), (5, _), (6, _), (10, _), (11, _), (12, _)]) ⟨rfl, rfl, rfl, rfl, rfl, rfl, rfl, trivial⟩ ?_
            refine NX.sub (env' := [(0, _), (1, _), (5, _), (6, _), (10, _), (11, _), (12, _)]) ⟨rfl, rfl, rfl, rfl, rfl, rfl, rfl, trivial⟩ ?_
            exact NX.again n25 (t_22 + 1, want_15, some_16) (Nat.lt_succ_self _) ⟨rfl, rfl, (fu_dec hnt_22), ((hnx24 _).symm.trans hr)⟩
  have hlen28 := (hl_1).2.1
  refine Tr.block ?_
  refine Tr.sub (env' := [(0, _), (1, _), (5, _), (6, _), (7, _), (22, _), (23, _), (24, _)]) ⟨rfl, rfl, rfl, rfl, rfl, rfl, rfl, rfl, trivial⟩ ?_
  refine Tr.loop (S := fun n (z : Int × Int) env x => match z with | (t_29, x_7) => env = [(0, .int .i64 n_0), (1, ul_1), (5, .int .u32 (r1.1.toNat : Int)), (6, .int .i64 r1.2), (7, .int .i64 x_7), (22, ul_1), (23, .int .i64 ((l_1.length : Int))), (24, .int .i64 t_29)] ∧ x = ⟨m, l⟩ ∧ n = ((l_1.length : Int) - t_29).toNat ∧ 0 ≤ t_29 ∧ forK (σ := Int) (fun i s nx_ => syllogistlaw_ClauseHorns_b30 l_1 i s nx_) (fun s => syllogistlaw_ClauseHorns_k10 n_0 l_1 r1 s) n t_29 x_7 = some r) _ ((0 : Int), r3) ⟨rfl, rfl, rfl, (by omega), hr⟩ ?_
  rintro n32 ⟨t_29, x_7⟩ env x ⟨rfl, rfl, hnt_29, h0t_29, hr⟩
  cases n32 with
  | zero =>
    simp only [forK] at hr
    refine Tr.seq ?_
    refine Tr.region_f (fun _ => false) ?_
    refine W.q rfl rfl rfl rfl (by decide) (Yd.lss rfl (.t rfl) (.t rfl)) ?_
    refine W.end ?_
    refine NX.sub (env' := [(0, _), (1, _), (5, _), (6, _), (7, _), (22, _), (23, _), (24, _), (25, _)]) ⟨rfl, rfl, rfl, rfl, rfl, rfl, rfl, rfl, rfl, trivial⟩ ?_
    refine NX.then ?_
    refine Tr.seq ?_
    refine Tr.cond (.t rfl) (fun hb => ?_) (fun hb => ?_)
    · exact absurd (hb.symm.trans (fr_end hnt_29)) (by decide)
    ·
      refine Tr.exit' (EX.then (EX.then (EX.block ?_)))
      refine NX.sub (env' := [(0, _), (1, _), (5, _), (6, _), (7, _)]) ⟨rfl, rfl, rfl, rfl, rfl, trivial⟩ ?_
      exact hk11 _ _ ⟨_, rfl, rfl, hr⟩
  | succ n32 =>
    obtain ⟨nx31, hnx31, hr⟩ := forK_succ hr
    try dsimp only at hr
    unfold syllogistlaw_ClauseHorns_b30 at hr
    try dsimp only at hr
    have hltt_29 := fr_bnd hnt_29
    refine Tr.seq ?_
    refine Tr.region_f (fun _ => false) ?_
    refine W.q rfl rfl rfl rfl (by decide) (Yd.lss rfl (.t rfl) (.t rfl)) ?_
    refine W.end ?_
    refine NX.sub (env' := [(0, _), (1, _), (5, _), (6, _), (7, _), (22, _), (23, _), (24, _), (25, _)]) ⟨rfl, rfl, rfl, rfl, rfl, rfl, rfl, rfl, rfl, trivial⟩ ?_
    refine NX.then ?_
    refine Tr.seq ?_
    refine Tr.cond (.t rfl) (fun hb => ?_) (fun hb => ?_)
    rotate_left
    · exact absurd (hb.symm.trans (fr_go hnt_29)) (by decide)
    ·
      refine Tr.skip' ?_
      refine NX.then ?_
      refine Tr.seq ?_
      refine Tr.block ?_
      refine Tr.seq ?_
      obtain ⟨y33, hy34, hr⟩ := bind_some hr
      refine Tr.region_f (fun i => Nat.beq i 2 || Nat.beq i 3) ?_
      refine W.q rfl rfl rfl rfl (by decide) (Yd.idxR hl_1 hy34 rfl Try.underlying40 SZ46 (.t rfl) (.t rfl)) ?_
      refine W.q rfl rfl rfl rfl (by decide) (Yd.ldFs (us := [_, _]) hl_1 (.refl _) hy34 rfl rfl ON46 US46 SZ46 (.t rfl)) ?_
      refine W.e rfl rfl rfl rfl (by decide) (Ef.al rfl ZR46 rfl) ?_
      rintro _ _ ⟨b35, rfl, rfl⟩
      refine ⟨.inl rfl, ?_⟩
      refine W.cast (m' := m) (l' := hcells b35 [_, _] 46 :: l) rfl rfl ?_
      refine W.s rfl rfl rfl rfl (Ef.stB (pos := 0) (us := [_, _]) (cs' := [_, _]) rfl rfl (.t rfl) (.t rfl) SZ46 rfl rfl rfl (Nat.le_of_ble_eq_true rfl) rfl) ?_
      rintro _ _ ⟨rfl, rfl⟩
      refine ⟨.inl rfl, ?_⟩
      refine W.cast (m' := m) (l' := hcells b35 [_, _] 46 :: l) rfl rfl ?_
      refine W.end ?_
      refine NX.sub (env' := [(0, _), (1, _), (5, _), (6, _), (7, _), (22, _), (23, _), (24, _), (9, _)]) ⟨rfl, rfl, rfl, rfl, rfl, rfl, rfl, rfl, rfl, trivial⟩ ?_
      refine NX.then ?_
      refine Tr.seq ?_
      obtain ⟨ha37, hr⟩ := guard_some hr
      refine Tr.region_f (fun _ => false) ?_
      refine W.q rfl rfl rfl rfl (by decide) (Yd.mv rfl (.t rfl)) ?_
      refine W.q rfl rfl rfl rfl (by decide) (Yd.eql rfl (.t rfl) .c) ?_
      refine W.q rfl rfl rfl rfl (by decide) (Yd.mv rfl (.t rfl)) ?_
      refine W.g rfl rfl rfl rfl rfl (.t rfl _) rfl (by decide) (fun hG => Yd.fldB rfl Try.underlying46 rfl SZ41 rfl (.t rfl)) ?_
      refine W.g rfl rfl rfl rfl rfl (.t rfl _) rfl (by decide) (fun hG => Yd.ldB (pos := 0) rfl rfl rfl ON41 (.g rfl hG)) ?_
      refine W.g rfl rfl rfl rfl rfl (.t rfl _) rfl (by decide) (fun hG => Yd.call (v := .int .i64 ((((syllogistref_Size y33.yes).getD (0 : Int))))) rfl Try.func23 rfl rfl (.cons (.g rfl hG) .nil) (fun x' hx w hw => syllogistref_Size_ok w0 x'.m x'.l y33.yes _ (gd_get (d := (0 : Int)) ha37 hG) w hw)) ?_
      refine W.g rfl rfl rfl rfl rfl (.t rfl _) rfl (by decide) (fun hG => Yd.gtr rfl (.g rfl hG) .c) ?_
      refine W.q rfl rfl rfl rfl (by decide) (Yd.and rfl (.t rfl) .c rfl rfl) ?_
      refine W.end ?_
      refine NX.sub (env' := [(0, _), (1, _), (5, _), (6, _), (7, _), (22, _), (23, _), (24, _), (35, _)]) ⟨rfl, rfl, rfl, rfl, rfl, rfl, rfl, rfl, rfl, trivial⟩ ?_
      refine NX.drop (l' := l) (.cons _ (.refl _)) ?_
      refine NX.then ?_
      refine Tr.cond (.t rfl) (fun hb => ?_) (fun hb => ?_)
      · have hr := cond_t hb hr
        refine Tr.region_f (fun _ => false) ?_
        refine W.q rfl rfl rfl rfl (by decide) (Yd.as rfl .c) ?_
        refine W.end ?_
        refine NX.sub (env' := [(0, _), (1, _), (5, _), (6, _), (7, _), (22, _), (23, _), (24, _)]) ⟨rfl, rfl, rfl, rfl, rfl, rfl, rfl, rfl, trivial⟩ ?_
        refine NX.block ?_
        refine NX.then ?_
        refine Tr.region_f (fun _ => false) ?_
        refine W.q rfl rfl rfl rfl (by decide) (Yd.add rfl (.t rfl) .c) ?_
        refine W.q rfl rfl rfl rfl (by decide) (Yd.mv rfl (.t rfl)) ?_
        refine W.end ?_
        refine NX.sub (env' := [(0, _), (1, _), (5, _), (6, _), (7, _), (22, _), (23, _), (24, _)]) ⟨rfl, rfl, rfl, rfl, rfl, rfl, rfl, rfl, trivial⟩ ?_
        refine NX.sub (env' := [(0, _), (1, _), (5, _), (6, _), (7, _), (22, _), (23, _), (24, _)]) ⟨rfl, rfl, rfl, rfl, rfl, rfl, rfl, rfl, trivial⟩ ?_
        have hw := w64_id (n := t_29 + 1) (by omega) (by omega)
        exact NX.again n32 (t_29 + 1, (3 : Int)) (Nat.lt_succ_self _) ⟨(by rw [hw] <;> rfl), rfl, (fr_dec hnt_29), (by omega), ((hnx31 _).symm.trans hr)⟩
      · have hr := cond_f hb hr
        refine Tr.skip' ?_
        refine NX.block ?_
        refine NX.then ?_
        refine Tr.region_f (fun _ => false) ?_
        refine W.q rfl rfl rfl rfl (by decide) (Yd.add rfl (.t rfl) .c) ?_
        refine W.q rfl rfl rfl rfl (by decide) (Yd.mv rfl (.t rfl)) ?_
        refine W.end ?_
        refine NX.sub (env' := [(0, _), (1, _), (5, _), (6, _), (7, _), (22, _), (23, _), (24, _)]) ⟨rfl, rfl, rfl, rfl, rfl, rfl, rfl, rfl, trivial⟩ ?_
        refine NX.sub (env' := [(0, _), (1, _), (5, _), (6, _), (7, _), (22, _), (23, _), (24, _)]) ⟨rfl, rfl, rfl, rfl, rfl, rfl, rfl, rfl, trivial⟩ ?_
        have hw := w64_id (n := t_29 + 1) (by omega) (by omega)
        exact NX.again n32 (t_29 + 1, x_7) (Nat.lt_succ_self _) ⟨(by rw [hw] <;> rfl), rfl, (fr_dec hnt_29), (by omega), ((hnx31 _).symm.trans hr)⟩

def math_bits_OnesCount32 (x_0 : (BitVec 32)) : Option (Int) :=
  (geti tbl1024256 ((((x_0 >>> 24)).toNat : Int))).bind fun y1 =>
  (geti tbl1024256 (((((x_0 >>> 16) &&& 255#32)).toNat : Int))).bind fun y3 =>
  (geti tbl1024256 (((((x_0 >>> 8) &&& 255#32)).toNat : Int))).bind fun y5 =>
  (geti tbl1024256 ((((x_0 &&& 255#32)).toNat : Int))).bind fun y7 =>
  some ((((((y1 + y3) + y5) + y7)).toNat : Int))

set_option maxRecDepth 100000 in
theorem math_bits_OnesCount32_ok (w0 : World) (m : Snap) (l : List HI) (x_0 : (BitVec 32)) (r : Int) (hr : math_bits_OnesCount32 x_0 = some r) (w : World) (hc : cX w0 ⟨m, l⟩ w) :
    Calls Try.prog 65 [.int .u32 (x_0.toNat : Int)].toArray w fun e w' => e = .returned (.int .i64 r) ∧ cX w0 ⟨m, l⟩ w' := by
  unfold math_bits_OnesCount32 at hr
  refine calls_of_Tr (N := 21) Try.func65 rfl hc rfl (Nat.le_of_ble_eq_true rfl) ?_
  refine Tr.seq ?_
  refine Tr.region_f (fun _ => false) ?_
  refine W.q rfl rfl rfl rfl (by decide) (Yd.as rfl .c) ?_
  refine W.end ?_
  refine NX.sub (env' := [(0, _)]) ⟨rfl, trivial⟩ ?_
  refine NX.then ?_
  refine Tr.seq ?_
  obtain ⟨y1, hy2, hr⟩ := bind_some hr
  obtain ⟨y3, hy4, hr⟩ := bind_some hr
  obtain ⟨y5, hy6, hr⟩ := bind_some hr
  obtain ⟨y7, hy8, hr⟩ := bind_some hr
  refine Tr.region_x (fun _ => false) (fun _ => false) (Ord.of [0, 1, 2, 3, 4, 5, 6, 7, 8, 9, 10, 11, 12, 13, 14, 15, 16, 17, 18]) FM (by kernel_rfl) ?_
  refine W.q rfl rfl rfl rfl (by decide) (Yd.mv rfl (.t rfl)) ?_
  refine W.q rfl rfl rfl rfl (by decide) (Yd.shrU (a := x_0) rfl (.t rfl) .c (by decide)) ?_
  refine W.q rfl rfl rfl rfl (by decide) (Yd.ixS rfl Try.underlying9 .c (tb := tbl1024256) (by kernel_rfl) (.t rfl) hy2) ?_
  refine W.q rfl rfl rfl rfl (by decide) (Yd.mv rfl (.t rfl)) ?_
  refine W.q rfl rfl rfl rfl (by decide) (Yd.shrU (a := x_0) rfl (.t rfl) .c (by decide)) ?_
  refine W.q rfl rfl rfl rfl (by decide) (Yd.andU (a := (x_0 >>> 16)) (b := 255#32) rfl (.t rfl) .c) ?_
  refine W.q rfl rfl rfl rfl (by decide) (Yd.ixS rfl Try.underlying9 .c (tb := tbl1024256) (by kernel_rfl) (.t rfl) hy4) ?_
  refine W.q rfl rfl rfl rfl (by decide) (Yd.addY (a := y1) (b := y3) rfl (.t rfl) (.t rfl)) ?_
  refine W.q rfl rfl rfl rfl (by decide) (Yd.mv rfl (.t rfl)) ?_
  refine W.q rfl rfl rfl rfl (by decide) (Yd.shrU (a := x_0) rfl (.t rfl) .c (by decide)) ?_
  refine W.q rfl rfl rfl rfl (by decide) (Yd.andU (a := (x_0 >>> 8)) (b := 255#32) rfl (.t rfl) .c) ?_
  refine W.q rfl rfl rfl rfl (by decide) (Yd.ixS rfl Try.underlying9 .c (tb := tbl1024256) (by kernel_rfl) (.t rfl) hy6) ?_
  refine W.q rfl rfl rfl rfl (by decide) (Yd.addY (a := (y1 + y3)) (b := y5) rfl (.t rfl) (.t rfl)) ?_
  refine W.q rfl rfl rfl rfl (by decide) (Yd.mv rfl (.t rfl)) ?_
  refine W.q rfl rfl rfl rfl (by decide) (Yd.andU (a := x_0) (b := 255#32) rfl (.t rfl) .c) ?_
  refine W.q rfl rfl rfl rfl (by decide) (Yd.ixS rfl Try.underlying9 .c (tb := tbl1024256) (by kernel_rfl) (.t rfl) hy8) ?_
  refine W.q rfl rfl rfl rfl (by decide) (Yd.addY (a := ((y1 + y3) + y5)) (b := y7) rfl (.t rfl) (.t rfl)) ?_
  refine W.q rfl rfl rfl rfl (by decide) (Yd.cvBI (a := (((y1 + y3) + y5) + y7)) rfl US5 Try.underlying3 (.t rfl)) ?_
  refine W.q rfl rfl rfl rfl (by decide) (Yd.as rfl (.t rfl)) ?_
  refine W.end ?_
  refine NX.sub (env' := [(2, _)]) ⟨rfl, trivial⟩ ?_
  refine NX.then ?_
  refine Tr.ret' ?_
  refine res1 rfl rfl ?_
  intro w hc
  cases hr
  exact ⟨rfl, hc⟩

def math_bits_Len32_k3 (x_1 : BitVec 32) (n_2 : Int) : Option (Int) :=
  (bif (decide (x_1 ≥ 256#32)) then
  (geti tbl1793256 ((((BitVec.ofInt 8 (((x_1 >>> 8)).toNat : Int))).toNat : Int))).bind fun y5 =>
  some ((w64 ((w64 (n_2 + (8 : Int))) + (y5.toNat : Int))))
  else
  (geti tbl1793256 ((((BitVec.ofInt 8 (x_1.toNat : Int))).toNat : Int))).bind fun y7 =>
  some ((w64 (n_2 + (y7.toNat : Int)))))

def math_bits_Len32 (x_0 : (BitVec 32)) : Option (Int) :=
  (bif (decide (x_0 ≥ 65536#32)) then
  math_bits_Len32_k3 ((x_0 >>> 16)) ((16 : Int))
  else
  math_bits_Len32_k3 x_0 ((0 : Int)))

set_option maxRecDepth 100000 in
theorem math_bits_Len32_ok (w0 : World) (m : Snap) (l : List HI) (x_0 : (BitVec 32)) (r : Int) (hr : math_bits_Len32 x_0 = some r) (w : World) (hc : cX w0 ⟨m, l⟩ w) :
    Calls Try.prog 66 [.int .u32 (x_0.toNat : Int)].toArray w fun e w' => e = .returned (.int .i64 r) ∧ cX w0 ⟨m, l⟩ w' := by
  unfold math_bits_Len32 at hr
  refine calls_of_Tr (N := 19) Try.func66 rfl hc rfl (Nat.le_of_ble_eq_true rfl) ?_
  refine Tr.seq ?_
  refine Tr.region_f (fun _ => false) ?_
  refine W.q rfl rfl rfl rfl (by decide) (Yd.as rfl .c) ?_
  refine W.end ?_
  refine NX.sub (env' := [(0, _), (2, _)]) ⟨rfl, rfl, trivial⟩ ?_
  refine NX.then ?_
  refine Tr.seq ?_
  refine Tr.seq ?_
  refine Tr.region_f (fun _ => false) ?_
  refine W.q rfl rfl rfl rfl (by decide) (Yd.mv rfl (.t rfl)) ?_
  refine W.q rfl rfl rfl rfl (by decide) (Yd.geqU (a := x_0) (b := 65536#32) rfl (.t rfl) .c) ?_
  refine W.end ?_
  refine NX.sub (env' := [(0, _), (2, _), (4, _)]) ⟨rfl, rfl, rfl, trivial⟩ ?_
  refine NX.then ?_
  refine Tr.join (S := fun env x => ∃ x_1 : BitVec 32, ∃ n_2 : Int, env = [(0, .int .u32 (x_1.toNat : Int)), (2, .int .i64 n_2)] ∧ x = ⟨m, l⟩ ∧ math_bits_Len32_k3 x_1 n_2 = some r) ?_ (fun hk4 => ?_)
  · rintro _ _ ⟨x_1, n_2, rfl, rfl, hr⟩
    unfold math_bits_Len32_k3 at hr
    try dsimp only at hr
    refine NX.then ?_
    refine Tr.seq ?_
    refine Tr.seq ?_
    refine Tr.region_f (fun _ => false) ?_
    refine W.q rfl rfl rfl rfl (by decide) (Yd.mv rfl (.t rfl)) ?_
    refine W.q rfl rfl rfl rfl (by decide) (Yd.geqU (a := x_1) (b := 256#32) rfl (.t rfl) .c) ?_
    refine W.end ?_
    refine NX.sub (env' := [(0, _), (2, _), (8, _)]) ⟨rfl, rfl, rfl, trivial⟩ ?_
    refine NX.then ?_
    refine Tr.cond (.t rfl) (fun hb => ?_) (fun hb => ?_)
    · have hr := cond_t hb hr
      refine Tr.seq ?_
      refine Tr.region_f (fun _ => false) ?_
      refine W.q rfl rfl rfl rfl (by decide) (Yd.mv rfl (.t rfl)) ?_
      refine W.q rfl rfl rfl rfl (by decide) (Yd.shrU (a := x_1) rfl (.t rfl) .c (by decide)) ?_
      refine W.q rfl rfl rfl rfl (by decide) (Yd.as rfl (.t rfl)) ?_
      refine W.end ?_
      refine NX.sub (env' := [(0, _), (2, _)]) ⟨rfl, rfl, trivial⟩ ?_
      refine NX.then ?_
      refine Tr.region_f (fun _ => false) ?_
      refine W.q rfl rfl rfl rfl (by decide) (Yd.mv rfl (.t rfl)) ?_
      refine W.q rfl rfl rfl rfl (by decide) (Yd.add rfl (.t rfl) .c) ?_
      refine W.q rfl rfl rfl rfl (by decide) (Yd.as rfl (.t rfl)) ?_
      refine W.end ?_
      refine NX.sub (env' := [(0, _), (2, _)]) ⟨rfl, rfl, trivial⟩ ?_
      refine NX.then ?_
      refine Tr.seq ?_
      obtain ⟨y5, hy6, hr⟩ := bind_some hr
      refine Tr.region_f (fun _ => false) ?_
      refine W.q rfl rfl rfl rfl (by decide) (Yd.mv rfl (.t rfl)) ?_
      refine W.q rfl rfl rfl rfl (by decide) (Yd.mv rfl (.t rfl)) ?_
      refine W.q rfl rfl rfl rfl (by decide) (Yd.cvB rfl US41 Try.underlying5 (.t rfl)) ?_
      refine W.q rfl rfl rfl rfl (by decide) (Yd.ixS rfl Try.underlying9 .c (tb := tbl1793256) (by kernel_rfl) (.t rfl) hy6) ?_
      refine W.q rfl rfl rfl rfl (by decide) (Yd.cvBI (a := y5) rfl US5 Try.underlying3 (.t rfl)) ?_
      refine W.q rfl rfl rfl rfl (by decide) (Yd.add rfl (.t rfl) (.t rfl)) ?_
      refine W.q rfl rfl rfl rfl (by decide) (Yd.as rfl (.t rfl)) ?_
      refine W.end ?_
      refine NX.sub (env' := [(2, _)]) ⟨rfl, trivial⟩ ?_
      refine NX.then ?_
      refine Tr.ret' ?_
      refine res1 rfl rfl ?_
      intro w hc
      cases hr
      exact ⟨rfl, hc⟩
    · have hr := cond_f hb hr
      refine Tr.skip' ?_
      refine NX.then ?_
      refine Tr.seq ?_
      obtain ⟨y7, hy8, hr⟩ := bind_some hr
      refine Tr.region_f (fun _ => false) ?_
      refine W.q rfl rfl rfl rfl (by decide) (Yd.mv rfl (.t rfl)) ?_
      refine W.q rfl rfl rfl rfl (by decide) (Yd.mv rfl (.t rfl)) ?_
      refine W.q rfl rfl rfl rfl (by decide) (Yd.cvB rfl US41 Try.underlying5 (.t rfl)) ?_
      refine W.q rfl rfl rfl rfl (by decide) (Yd.ixS rfl Try.underlying9 .c (tb := tbl1793256) (by kernel_rfl) (.t rfl) hy8) ?_
      refine W.q rfl rfl rfl rfl (by decide) (Yd.cvBI (a := y7) rfl US5 Try.underlying3 (.t rfl)) ?_
      refine W.q rfl rfl rfl rfl (by decide) (Yd.add rfl (.t rfl) (.t rfl)) ?_
      refine W.q rfl rfl rfl rfl (by decide) (Yd.as rfl (.t rfl)) ?_
      refine W.end ?_
      refine NX.sub (env' := [(2, _)]) ⟨rfl, trivial⟩ ?_
      refine NX.then ?_
      refine Tr.ret' ?_
      refine res1 rfl rfl ?_
      intro w hc
      cases hr
      exact ⟨rfl, hc⟩
  refine Tr.cond (.t rfl) (fun hb => ?_) (fun hb => ?_)
  · have hr := cond_t hb hr
    refine Tr.seq ?_
    refine Tr.region_f (fun _ => false) ?_
    refine W.q rfl rfl rfl rfl (by decide) (Yd.mv rfl (.t rfl)) ?_
    refine W.q rfl rfl rfl rfl (by decide) (Yd.shrU (a := x_0) rfl (.t rfl) .c (by decide)) ?_
    refine W.q rfl rfl rfl rfl (by decide) (Yd.as rfl (.t rfl)) ?_
    refine W.end ?_
    refine NX.sub (env' := [(0, _)]) ⟨rfl, trivial⟩ ?_
    refine NX.then ?_
    refine Tr.region_f (fun _ => false) ?_
    refine W.q rfl rfl rfl rfl (by decide) (Yd.as rfl .c) ?_
    refine W.end ?_
    refine NX.sub (env' := [(0, _), (2, _)]) ⟨rfl, rfl, trivial⟩ ?_
    refine NX.sub (env' := [(0, _), (2, _)]) ⟨rfl, rfl, trivial⟩ ?_
    exact hk4 _ _ ⟨_, _, rfl, rfl, hr⟩
  · have hr := cond_f hb hr
    refine Tr.skip' ?_
    refine NX.sub (env' := [(0, _), (2, _)]) ⟨rfl, rfl, trivial⟩ ?_
    exact hk4 _ _ ⟨_, _, rfl, rfl, hr⟩
end Go.Proofs.Ytmggbhpieikdpaa.Sy
