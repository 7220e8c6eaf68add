/- Functions of the program as plain functions, and that the translation computes them; the conditions stand in each theorem. Printed by an own program. -/
import Derived.Test.YtmggbhpieikdpaaG1a
import Derived.Test.YtmggbhpieikdpaaProg
namespace Go.Proofs.Ytmggbhpieikdpaa.Sy
open Go
set_option linter.unusedVariables false
def clause_search_k10 (n_0 : Int) (l_1 : List Clause) (slf : (Int → (List Clause) → (BitVec 32) → (BitVec 32) → Option ((BitVec 32) × Bool))) (yes_8 : BitVec 32) (no_9 : BitVec 32) : Option ((BitVec 32) × Bool) :=
  (bif ((((1#32 <<< n_0.toNat) - 1#32) &&& ~~~(yes_8 ||| no_9)) == 0#32) then
  some ((yes_8, true))
  else
  (math_bits_Len32 ((((1#32 <<< n_0.toNat) - 1#32) &&& ~~~(yes_8 ||| no_9)))).bind fun r12 =>
  bif decide (0 ≤ (w64 (r12 - (1 : Int)))) then
  (slf n_0 l_1 yes_8 ((no_9 ||| (1#32 <<< ((w64 (r12 - (1 : Int)))).toNat)))).bind fun r15 =>
  (bif r15.2 then
  some ((r15.1, true))
  else
  (slf n_0 l_1 ((yes_8 ||| (1#32 <<< ((w64 (r12 - (1 : Int)))).toNat))) no_9).bind fun r17 =>
  some ((r17.1, r17.2))) else none)

def clause_search_k33 (nx20 : (((BitVec 32) × (BitVec 32) × Bool) → Option ((BitVec 32) × Bool))) (yes_30 : BitVec 32) (no_31 : BitVec 32) (more_32 : Bool) : Option ((BitVec 32) × Bool) :=
  nx20 (yes_30, no_31, more_32)

def clause_search_b37 (l_1 : List Clause) (t_36 : Int) (yes_26 : BitVec 32) (no_27 : BitVec 32) (more_28 : Bool) (nx38 : ((BitVec 32) × (BitVec 32) × Bool) → Option ((BitVec 32) × Bool)) : Option ((BitVec 32) × Bool) :=
  (geti l_1 t_36).bind fun y40 =>
  (bif (((y40.yes &&& yes_26) != 0#32) || ((y40.no &&& no_27) != 0#32)) then
  nx38 (yes_26, no_27, more_28)
  else
  (math_bits_OnesCount32 ((y40.yes &&& ~~~no_27))).bind fun r44 =>
  (math_bits_OnesCount32 ((y40.no &&& ~~~yes_26))).bind fun r46 =>
  (bif ((w64 (r44 + r46)) == (0 : Int)) then
  some ((0#32, false))
  else
  (bif ((w64 (r44 + r46)) == (1 : Int)) then
  nx38 ((yes_26 ||| (y40.yes &&& ~~~no_27)), (no_27 ||| (y40.no &&& ~~~yes_26)), true)
  else
  nx38 (yes_26, no_27, more_28))))

def clause_search_b19 (n_0 : Int) (l_1 : List Clause) (slf : (Int → (List Clause) → (BitVec 32) → (BitVec 32) → Option ((BitVec 32) × Bool))) (yes_5 : BitVec 32) (no_6 : BitVec 32) (more_7 : Bool) (nx20 : ((BitVec 32) × (BitVec 32) × Bool) → Option ((BitVec 32) × Bool)) : Option ((BitVec 32) × Bool) :=
  (bif more_7 then
  forK (σ := (BitVec 32) × (BitVec 32) × Bool) (fun i s nx_ => clause_search_b37 l_1 i s.1 s.2.1 s.2.2 nx_) (fun s => clause_search_k33 nx20 s.1 s.2.1 s.2.2) ((l_1.length : Int) - (0 : Int)).toNat (0 : Int) (yes_5, no_6, false)
  else
  clause_search_k10 n_0 l_1 slf yes_5 no_6)

def clause_search_s (slf : (Int → (List Clause) → (BitVec 32) → (BitVec 32) → Option ((BitVec 32) × Bool))) (fuel : Nat) (n_0 : Int) (l_1 : List Clause) (yes_2 : (BitVec 32)) (no_3 : (BitVec 32)) : Option ((BitVec 32) × Bool) :=
  bif decide (0 ≤ n_0) then
  whileK (σ := (BitVec 32) × (BitVec 32) × Bool) (fun s nx_ => clause_search_b19 n_0 l_1 slf s.1 s.2.1 s.2.2 nx_) fuel (yes_2, no_3, true) else none

def clause_search (fuel : Nat) (n_0 : Int) (l_1 : List Clause) (yes_2 : (BitVec 32)) (no_3 : (BitVec 32)) : Option ((BitVec 32) × Bool) :=
  match fuel with
  | 0 => none
  | fuel + 1 => clause_search_s (clause_search fuel) fuel n_0 l_1 yes_2 no_3

set_option maxRecDepth 100000 in
theorem clause_search_ok (w0 : World) (m : Snap) (l : List HI) (fuel : Nat) : ∀ (n_0 : Int) (ul_1 : Value) (l_1 : List Clause) (hl_1 : RS rClause m ul_1 l_1) (yes_2 : (BitVec 32)) (no_3 : (BitVec 32)) (r : (BitVec 32) × Bool) (_ : clause_search fuel n_0 l_1 yes_2 no_3 = some r) (w : World) (_ : cX w0 ⟨m, l⟩ w),
    Calls Try.prog 49 [.int .i64 n_0, ul_1, .int .u32 (yes_2.toNat : Int), .int .u32 (no_3.toNat : Int)].toArray w fun e w' => e = .returned (.tuple #[.int .u32 (r.1.toNat : Int), .bool r.2]) ∧ cX w0 ⟨m, l⟩ w' := by
  induction fuel generalizing m l with
  | zero => intro n_0 ul_1 l_1 hl_1 yes_2 no_3 r hr; simp [clause_search] at hr
  | succ fuel ih =>
  intro n_0 ul_1 l_1 hl_1 yes_2 no_3 r hr w hc
  replace hr : clause_search_s (clause_search fuel) fuel n_0 l_1 yes_2 no_3 = some r := hr
  obtain ⟨slf, hslf⟩ : ∃ f, f = clause_search fuel := ⟨_, rfl⟩
  rw [← hslf] at hr ih
  unfold clause_search_s at hr
  refine calls_of_Tr (N := 99) Try.func49 rfl hc rfl (Nat.le_of_ble_eq_true rfl) ?_
  refine Tr.seq ?_
  refine Tr.region_f (fun _ => false) ?_
  refine W.q rfl rfl rfl rfl (by decide) (Yd.as rfl .c) ?_
  refine W.q rfl rfl rfl rfl (by decide) (Yd.as rfl .c) ?_
  refine W.end ?_
  refine NX.sub (env' := [(0, _), (1, _), (2, _), (3, _)]) ⟨rfl, rfl, rfl, rfl, trivial⟩ ?_
  refine NX.then ?_
  refine Tr.seq ?_
  obtain ⟨hq1, hr⟩ := guard_some hr; replace hq1 := of_decide_eq_true hq1
  refine Tr.region_f (fun _ => false) ?_
  refine W.q rfl rfl rfl rfl (by decide) (Yd.mv rfl (.t rfl)) ?_
  refine W.q rfl rfl rfl rfl (by decide) (Yd.shlU (a := 1#32) rfl .c (.t rfl) hq1) ?_
  refine W.q rfl rfl rfl rfl (by decide) (Yd.subU (a := (1#32 <<< n_0.toNat)) (b := 1#32) rfl (.t rfl) .c) ?_
  refine W.q rfl rfl rfl rfl (by decide) (Yd.as rfl (.t rfl)) ?_
  refine W.end ?_
  refine NX.sub (env' := [(0, _), (1, _), (2, _), (3, _), (10, _)]) ⟨rfl, rfl, rfl, rfl, rfl, trivial⟩ ?_
  refine NX.then ?_
  refine Tr.seq ?_
  refine Tr.seq ?_
  refine Tr.region_f (fun _ => false) ?_
  refine W.q rfl rfl rfl rfl (by decide) (Yd.as rfl .c) ?_
  refine W.end ?_
  refine NX.sub (env' := [(0, _), (1, _), (2, _), (3, _), (10, _), (11, _)]) ⟨rfl, rfl, rfl, rfl, rfl, rfl, trivial⟩ ?_
  refine NX.then ?_
  refine Tr.join (S := fun env x => ∃ yes_8 : BitVec 32, ∃ no_9 : BitVec 32, env = [(0, .int .i64 n_0), (1, ul_1), (2, .int .u32 (yes_8.toNat : Int)), (3, .int .u32 (no_9.toNat : Int)), (10, .int .u32 ((((1#32 <<< n_0.toNat) - 1#32)).toNat : Int))] ∧ x = ⟨m, l⟩ ∧ clause_search_k10 n_0 l_1 slf yes_8 no_9 = some r) ?_ (fun hk11 => ?_)
  · rintro _ _ ⟨yes_8, no_9, rfl, rfl, hr⟩
    unfold clause_search_k10 at hr
    try dsimp only at hr
    refine NX.then ?_
    refine Tr.seq ?_
    refine Tr.region_f (fun _ => false) ?_
    refine W.q rfl rfl rfl rfl (by decide) (Yd.mv rfl (.t rfl)) ?_
    refine W.q rfl rfl rfl rfl (by decide) (Yd.mv rfl (.t rfl)) ?_
    refine W.q rfl rfl rfl rfl (by decide) (Yd.mv rfl (.t rfl)) ?_
    refine W.q rfl rfl rfl rfl (by decide) (Yd.orU (a := yes_8) (b := no_9) rfl (.t rfl) (.t rfl)) ?_
    refine W.q rfl rfl rfl rfl (by decide) (Yd.andnU (a := ((1#32 <<< n_0.toNat) - 1#32)) (b := (yes_8 ||| no_9)) rfl (.t rfl) (.t rfl)) ?_
    refine W.q rfl rfl rfl rfl (by decide) (Yd.as rfl (.t rfl)) ?_
    refine W.end ?_
    refine NX.sub (env' := [(0, _), (1, _), (2, _), (3, _), (16, _)]) ⟨rfl, rfl, rfl, rfl, rfl, trivial⟩ ?_
    refine NX.then ?_
    refine Tr.seq ?_
    refine Tr.seq ?_
    refine Tr.region_f (fun _ => false) ?_
    refine W.q rfl rfl rfl rfl (by decide) (Yd.mv rfl (.t rfl)) ?_
    refine W.q rfl rfl rfl rfl (by decide) (Yd.eqlU (a := (((1#32 <<< n_0.toNat) - 1#32) &&& ~~~(yes_8 ||| no_9))) (b := 0#32) rfl (.t rfl) .c) ?_
    refine W.end ?_
    refine NX.sub (env' := [(0, _), (1, _), (2, _), (3, _), (16, _), (72, _)]) ⟨rfl, rfl, rfl, rfl, rfl, rfl, trivial⟩ ?_
    refine NX.then ?_
    refine Tr.cond (.t rfl) (fun hb => ?_) (fun hb => ?_)
    · have hr := cond_t hb hr
      refine Tr.seq ?_
      refine Tr.region_f (fun _ => false) ?_
      refine W.q rfl rfl rfl rfl (by decide) (Yd.mv rfl (.t rfl)) ?_
      refine W.q rfl rfl rfl rfl (by decide) (Yd.as rfl (.t rfl)) ?_
      refine W.q rfl rfl rfl rfl (by decide) (Yd.as rfl .c) ?_
      refine W.end ?_
      refine NX.sub (env' := [(8, _), (9, _)]) ⟨rfl, rfl, trivial⟩ ?_
      refine NX.then ?_
      refine Tr.ret' (RT.then ?_)
      refine res2 rfl rfl rfl ?_
      intro w hc
      cases hr
      exact ⟨rfl, hc⟩
    · have hr := cond_f hb hr
      refine Tr.skip' ?_
      refine NX.then ?_
      refine Tr.seq ?_
      obtain ⟨r12, hr13, hr⟩ := bind_some hr
      obtain ⟨hq14, hr⟩ := guard_some hr; replace hq14 := of_decide_eq_true hq14
      refine Tr.region_f (fun _ => false) ?_
      refine W.q rfl rfl rfl rfl (by decide) (Yd.mv rfl (.t rfl)) ?_
      refine W.q rfl rfl rfl rfl (by decide) (Yd.call (v := .int .i64 r12) rfl Try.func66 rfl rfl (.cons (.t rfl) .nil) (fun x' hx w hw => math_bits_Len32_ok w0 x'.m x'.l ((((1#32 <<< n_0.toNat) - 1#32) &&& ~~~(yes_8 ||| no_9))) _ hr13 w hw)) ?_
      refine W.q rfl rfl rfl rfl (by decide) (Yd.sub rfl (.t rfl) .c) ?_
      refine W.q rfl rfl rfl rfl (by decide) (Yd.shlU (a := 1#32) rfl .c (.t rfl) hq14) ?_
      refine W.q rfl rfl rfl rfl (by decide) (Yd.as rfl (.t rfl)) ?_
      refine W.end ?_
      refine NX.sub (env' := [(0, _), (1, _), (2, _), (3, _), (17, _)]) ⟨rfl, rfl, rfl, rfl, rfl, trivial⟩ ?_
      refine NX.then ?_
      refine Tr.seq ?_
      refine Tr.seq ?_
      obtain ⟨r15, hr16, hr⟩ := bind_some hr
      refine Tr.region_f (fun _ => false) ?_
      refine W.q rfl rfl rfl rfl (by decide) (Yd.mv rfl (.t rfl)) ?_
      refine W.q rfl rfl rfl rfl (by decide) (Yd.mv rfl (.t rfl)) ?_
      refine W.q rfl rfl rfl rfl (by decide) (Yd.mv rfl (.t rfl)) ?_
      refine W.q rfl rfl rfl rfl (by decide) (Yd.mv rfl (.t rfl)) ?_
      refine W.q rfl rfl rfl rfl (by decide) (Yd.mv rfl (.t rfl)) ?_
      refine W.q rfl rfl rfl rfl (by decide) (Yd.orU (a := no_9) (b := (1#32 <<< ((w64 (r12 - (1 : Int)))).toNat)) rfl (.t rfl) (.t rfl)) ?_
      refine W.q rfl rfl rfl rfl (by decide) (Yd.call (v := .tuple #[.int .u32 (r15.1.toNat : Int), .bool r15.2]) rfl Try.func49 rfl rfl (.cons (.t rfl) (.cons (.t rfl) (.cons (.t rfl) (.cons (.t rfl) .nil)))) (fun x' hx w hw => ih x'.m x'.l n_0 _ _ (hl_1.mono hx.1) yes_8 ((no_9 ||| (1#32 <<< ((w64 (r12 - (1 : Int)))).toNat))) _ hr16 w hw)) ?_
      refine W.q rfl rfl rfl rfl (by decide) (Yd.mv rfl (.t rfl)) ?_
      refine W.q rfl rfl rfl rfl (by decide) (Yd.ext rfl (.t rfl) rfl) ?_
      refine W.q rfl rfl rfl rfl (by decide) (Yd.ext rfl (.t rfl) rfl) ?_
      refine W.q rfl rfl rfl rfl (by decide) (Yd.as rfl (.t rfl)) ?_
      refine W.q rfl rfl rfl rfl (by decide) (Yd.as rfl (.t rfl)) ?_
      refine W.end ?_
      refine NX.sub (env' := [(0, _), (1, _), (2, _), (3, _), (17, _), (18, _), (19, _)]) ⟨rfl, rfl, rfl, rfl, rfl, rfl, rfl, trivial⟩ ?_
      refine NX.then ?_
      refine Tr.seq ?_
      refine Tr.region_f (fun _ => false) ?_
      refine W.q rfl rfl rfl rfl (by decide) (Yd.mv rfl (.t rfl)) ?_
      refine W.end ?_
      refine NX.sub (env' := [(0, _), (1, _), (2, _), (3, _), (17, _), (18, _), (88, _)]) ⟨rfl, rfl, rfl, rfl, rfl, rfl, rfl, trivial⟩ ?_
      refine NX.then ?_
      refine Tr.cond (.t rfl) (fun hb => ?_) (fun hb => ?_)
      · have hr := cond_t hb hr
        refine Tr.seq ?_
        refine Tr.region_f (fun _ => false) ?_
        refine W.q rfl rfl rfl rfl (by decide) (Yd.mv rfl (.t rfl)) ?_
        refine W.q rfl rfl rfl rfl (by decide) (Yd.as rfl (.t rfl)) ?_
        refine W.q rfl rfl rfl rfl (by decide) (Yd.as rfl .c) ?_
        refine W.end ?_
        refine NX.sub (env' := [(8, _), (9, _)]) ⟨rfl, rfl, trivial⟩ ?_
        refine NX.then ?_
        refine Tr.ret' (RT.then ?_)
        refine res2 rfl rfl rfl ?_
        intro w hc
        cases hr
        exact ⟨rfl, hc⟩
      · have hr := cond_f hb hr
        refine Tr.skip' ?_
        refine NX.then ?_
        refine Tr.seq ?_
        obtain ⟨r17, hr18, hr⟩ := bind_some hr
        refine Tr.region_f (fun _ => false) ?_
        refine W.q rfl rfl rfl rfl (by decide) (Yd.mv rfl (.t rfl)) ?_
        refine W.q rfl rfl rfl rfl (by decide) (Yd.mv rfl (.t rfl)) ?_
        refine W.q rfl rfl rfl rfl (by decide) (Yd.mv rfl (.t rfl)) ?_
        refine W.q rfl rfl rfl rfl (by decide) (Yd.mv rfl (.t rfl)) ?_
        refine W.q rfl rfl rfl rfl (by decide) (Yd.orU (a := yes_8) (b := (1#32 <<< ((w64 (r12 - (1 : Int)))).toNat)) rfl (.t rfl) (.t rfl)) ?_
        refine W.q rfl rfl rfl rfl (by decide) (Yd.mv rfl (.t rfl)) ?_
        refine W.q rfl rfl rfl rfl (by decide) (Yd.call (v := .tuple #[.int .u32 (r17.1.toNat : Int), .bool r17.2]) rfl Try.func49 rfl rfl (.cons (.t rfl) (.cons (.t rfl) (.cons (.t rfl) (.cons (.t rfl) .nil)))) (fun x' hx w hw => ih x'.m x'.l n_0 _ _ (hl_1.mono hx.1) ((yes_8 ||| (1#32 <<< ((w64 (r12 - (1 : Int)))).toNat))) no_9 _ hr18 w hw)) ?_
        refine W.q rfl rfl rfl rfl (by decide) (Yd.ext rfl (.t rfl) rfl) ?_
        refine W.q rfl rfl rfl rfl (by decide) (Yd.ext rfl (.t rfl) rfl) ?_
        refine W.q rfl rfl rfl rfl (by decide) (Yd.as rfl (.t rfl)) ?_
        refine W.q rfl rfl rfl rfl (by decide) (Yd.as rfl (.t rfl)) ?_
        refine W.end ?_
        refine NX.sub (env' := [(8, _), (9, _)]) ⟨rfl, rfl, trivial⟩ ?_
        refine NX.then ?_
        refine Tr.ret' ?_
        refine res2 rfl rfl rfl ?_
        intro w hc
        cases hr
        exact ⟨rfl, hc⟩
  refine Tr.block ?_
  refine Tr.sub (env' := [(0, _), (1, _), (2, _), (3, _), (10, _), (11, _)]) ⟨rfl, rfl, rfl, rfl, rfl, rfl, trivial⟩ ?_
  refine Tr.loop (S := fun n (z : (BitVec 32) × (BitVec 32) × Bool) env x => match z with | (yes_5, no_6, more_7) => env = [(0, .int .i64 n_0), (1, ul_1), (2, .int .u32 (yes_5.toNat : Int)), (3, .int .u32 (no_6.toNat : Int)), (10, .int .u32 ((((1#32 <<< n_0.toNat) - 1#32)).toNat : Int)), (11, .bool more_7)] ∧ x = ⟨m, l⟩ ∧ whileK (σ := (BitVec 32) × (BitVec 32) × Bool) (fun s nx_ => clause_search_b19 n_0 l_1 slf s.1 s.2.1 s.2.2 nx_) n (yes_5, no_6, more_7) = some r) _ (yes_2, no_3, true) ⟨rfl, rfl, hr⟩ ?_
  rintro n21 ⟨yes_5, no_6, more_7⟩ env x ⟨rfl, rfl, hr⟩
  cases n21 with
  | zero => simp [whileK] at hr
  | succ n21 =>
    obtain ⟨nx20, hnx20, hr⟩ := whileK_succ hr
    try dsimp only at hr
    unfold clause_search_b19 at hr
    try dsimp only at hr
    refine Tr.seq ?_
    refine Tr.seq ?_
    refine Tr.region_f (fun _ => false) ?_
    refine W.q rfl rfl rfl rfl (by decide) (Yd.mv rfl (.t rfl)) ?_
    refine W.end ?_
    refine NX.sub (env' := [(0, _), (1, _), (2, _), (3, _), (10, _), (23, _)]) ⟨rfl, rfl, rfl, rfl, rfl, rfl, trivial⟩ ?_
    refine NX.then ?_
    refine Tr.cond (.t rfl) (fun hb => ?_) (fun hb => ?_)
    · have hr := cond_t hb hr
      refine Tr.skip' ?_
      refine NX.then ?_
      refine Tr.block ?_
      refine Tr.seq ?_
      refine Tr.region_f (fun _ => false) ?_
      refine W.q rfl rfl rfl rfl (by decide) (Yd.as rfl .c) ?_
      refine W.end ?_
      refine NX.sub (env' := [(0, _), (1, _), (2, _), (3, _), (10, _), (11, _)]) ⟨rfl, rfl, rfl, rfl, rfl, rfl, trivial⟩ ?_
      refine NX.then ?_
      refine Tr.seq ?_
      refine Tr.region_f (fun _ => false) ?_
      refine W.q rfl rfl rfl rfl (by decide) (Yd.mv rfl (.t rfl)) ?_
      refine W.q rfl rfl rfl rfl (by decide) (Yd.lenR hl_1 rfl Try.underlying40 (.t rfl)) ?_
      refine W.q rfl rfl rfl rfl (by decide) (Yd.mv rfl .c) ?_
      refine W.end ?_
      refine NX.sub (env' := [(0, _), (1, _), (2, _), (3, _), (10, _), (11, _), (24, _), (25, _), (26, _)]) ⟨rfl, rfl, rfl, rfl, rfl, rfl, rfl, rfl, rfl, trivial⟩ ?_
      refine NX.then ?_
      refine Tr.join (S := fun env x => ∃ yes_30 : BitVec 32, ∃ no_31 : BitVec 32, ∃ more_32 : Bool, env = [(0, .int .i64 n_0), (1, ul_1), (2, .int .u32 (yes_30.toNat : Int)), (3, .int .u32 (no_31.toNat : Int)), (10, .int .u32 ((((1#32 <<< n_0.toNat) - 1#32)).toNat : Int)), (11, .bool more_32)] ∧ x = ⟨m, l⟩ ∧ clause_search_k33 nx20 yes_30 no_31 more_32 = some r) ?_ (fun hk34 => ?_)
      · rintro _ _ ⟨yes_30, no_31, more_32, rfl, rfl, hr⟩
        unfold clause_search_k33 at hr
        try dsimp only at hr
        refine NX.block ?_
        refine NX.sub (env' := [(0, _), (1, _), (2, _), (3, _), (10, _), (11, _)]) ⟨rfl, rfl, rfl, rfl, rfl, rfl, trivial⟩ ?_
        exact NX.again n21 (yes_30, no_31, more_32) (Nat.lt_succ_self _) ⟨rfl, rfl, ((hnx20 _).symm.trans hr)⟩
      have hlen35 := (hl_1).2.1
      refine Tr.block ?_
      refine Tr.sub (env' := [(0, _), (1, _), (2, _), (3, _), (10, _), (11, _), (24, _), (25, _), (26, _)]) ⟨rfl, rfl, rfl, rfl, rfl, rfl, rfl, rfl, rfl, trivial⟩ ?_
      refine Tr.loop (S := fun n (z : Int × (BitVec 32) × (BitVec 32) × Bool) env x => match z with | (t_36, yes_26, no_27, more_28) => env = [(0, .int .i64 n_0), (1, ul_1), (2, .int .u32 (yes_26.toNat : Int)), (3, .int .u32 (no_27.toNat : Int)), (10, .int .u32 ((((1#32 <<< n_0.toNat) - 1#32)).toNat : Int)), (11, .bool more_28), (24, ul_1), (25, .int .i64 ((l_1.length : Int))), (26, .int .i64 t_36)] ∧ x = ⟨m, l⟩ ∧ n = ((l_1.length : Int) - t_36).toNat ∧ 0 ≤ t_36 ∧ forK (σ := (BitVec 32) × (BitVec 32) × Bool) (fun i s nx_ => clause_search_b37 l_1 i s.1 s.2.1 s.2.2 nx_) (fun s => clause_search_k33 nx20 s.1 s.2.1 s.2.2) n t_36 (yes_26, no_27, more_28) = some r) _ ((0 : Int), yes_5, no_6, false) ⟨rfl, rfl, rfl, (by omega), hr⟩ ?_
      rintro n39 ⟨t_36, yes_26, no_27, more_28⟩ env x ⟨rfl, rfl, hnt_36, h0t_36, hr⟩
      cases n39 with
      | zero =>
        simp only [forK] at hr
        refine Tr.seq ?_
        refine Tr.region_f (fun _ => false) ?_
        refine W.q rfl rfl rfl rfl (by decide) (Yd.lss rfl (.t rfl) (.t rfl)) ?_
        refine W.end ?_
        refine NX.sub (env' := [(0, _), (1, _), (2, _), (3, _), (10, _), (11, _), (24, _), (25, _), (26, _), (27, _)]) ⟨rfl, rfl, rfl, rfl, rfl, rfl, rfl, rfl, rfl, rfl, trivial⟩ ?_
        refine NX.then ?_
        refine Tr.seq ?_
        refine Tr.cond (.t rfl) (fun hb => ?_) (fun hb => ?_)
        · exact absurd (hb.symm.trans (fr_end hnt_36)) (by decide)
        ·
          refine Tr.exit' (EX.then (EX.then (EX.block ?_)))
          refine NX.sub (env' := [(0, _), (1, _), (2, _), (3, _), (10, _), (11, _)]) ⟨rfl, rfl, rfl, rfl, rfl, rfl, trivial⟩ ?_
          exact hk34 _ _ ⟨_, _, _, rfl, rfl, hr⟩
      | succ n39 =>
        obtain ⟨nx38, hnx38, hr⟩ := forK_succ hr
        try dsimp only at hr
        unfold clause_search_b37 at hr
        try dsimp only at hr
        have hltt_36 := fr_bnd hnt_36
        refine Tr.seq ?_
        refine Tr.region_f (fun _ => false) ?_
        refine W.q rfl rfl rfl rfl (by decide) (Yd.lss rfl (.t rfl) (.t rfl)) ?_
        refine W.end ?_
        refine NX.sub (env' := [(0, _), (1, _), (2, _), (3, _), (10, _), (11, _), (24, _), (25, _), (26, _), (27, _)]) ⟨rfl, rfl, rfl, rfl, rfl, rfl, rfl, rfl, rfl, rfl, trivial⟩ ?_
        refine NX.then ?_
        refine Tr.seq ?_
        refine Tr.cond (.t rfl) (fun hb => ?_) (fun hb => ?_)
        rotate_left
        · exact absurd (hb.symm.trans (fr_go hnt_36)) (by decide)
        ·
          refine Tr.skip' ?_
          refine NX.then ?_
          refine Tr.seq ?_
          refine Tr.block ?_
          refine Tr.seq ?_
          obtain ⟨y40, hy41, hr⟩ := bind_some hr
          refine Tr.region_f (fun i => Nat.beq i 2 || Nat.beq i 3) ?_
          refine W.q rfl rfl rfl rfl (by decide) (Yd.idxR hl_1 hy41 rfl Try.underlying40 SZ46 (.t rfl) (.t rfl)) ?_
          refine W.q rfl rfl rfl rfl (by decide) (Yd.ldFs (us := [_, _]) hl_1 (.refl _) hy41 rfl rfl ON46 US46 SZ46 (.t rfl)) ?_
          refine W.e rfl rfl rfl rfl (by decide) (Ef.al rfl ZR46 rfl) ?_
          rintro _ _ ⟨b42, rfl, rfl⟩
          refine ⟨.inl rfl, ?_⟩
          refine W.cast (m' := m) (l' := hcells b42 [_, _] 46 :: l) rfl rfl ?_
          refine W.s rfl rfl rfl rfl (Ef.stB (pos := 0) (us := [_, _]) (cs' := [_, _]) rfl rfl (.t rfl) (.t rfl) SZ46 rfl rfl rfl (Nat.le_of_ble_eq_true rfl) rfl) ?_
          rintro _ _ ⟨rfl, rfl⟩
          refine ⟨.inl rfl, ?_⟩
          refine W.cast (m' := m) (l' := hcells b42 [_, _] 46 :: l) rfl rfl ?_
          refine W.end ?_
          refine NX.sub (env' := [(0, _), (1, _), (2, _), (3, _), (10, _), (11, _), (24, _), (25, _), (26, _), (13, _)]) ⟨rfl, rfl, rfl, rfl, rfl, rfl, rfl, rfl, rfl, rfl, trivial⟩ ?_
          refine NX.then ?_
          refine Tr.seq ?_
          refine Tr.seq ?_
          refine Tr.region_f (fun _ => false) ?_
          refine W.q rfl rfl rfl rfl (by decide) (Yd.fldB rfl Try.underlying46 rfl SZ41 rfl (.t rfl)) ?_
          refine W.q rfl rfl rfl rfl (by decide) (Yd.ldB (pos := 0) rfl rfl rfl ON41 (.t rfl)) ?_
          refine W.q rfl rfl rfl rfl (by decide) (Yd.mv rfl (.t rfl)) ?_
          refine W.q rfl rfl rfl rfl (by decide) (Yd.andU (a := y40.yes) (b := yes_26) rfl (.t rfl) (.t rfl)) ?_
          refine W.q rfl rfl rfl rfl (by decide) (Yd.neqU (a := (y40.yes &&& yes_26)) (b := 0#32) rfl (.t rfl) .c) ?_
          refine W.q rfl rfl rfl rfl (by decide) (Yd.mv rfl (.t rfl)) ?_
          refine W.g rfl rfl rfl rfl rfl (.t rfl _) rfl (by decide) (fun hG => Yd.fldB rfl Try.underlying46 rfl SZ41 rfl (.t rfl)) ?_
          refine W.g rfl rfl rfl rfl rfl (.t rfl _) rfl (by decide) (fun hG => Yd.ldB (pos := 0) rfl rfl rfl ON41 (.g rfl hG)) ?_
          refine W.g rfl rfl rfl rfl rfl (.t rfl _) rfl (by decide) (fun hG => Yd.mv rfl (.t rfl)) ?_
          refine W.g rfl rfl rfl rfl rfl (.t rfl _) rfl (by decide) (fun hG => Yd.andU (a := y40.no) (b := no_27) rfl (.g rfl hG) (.g rfl hG)) ?_
          refine W.g rfl rfl rfl rfl rfl (.t rfl _) rfl (by decide) (fun hG => Yd.neqU (a := (y40.no &&& no_27)) (b := 0#32) rfl (.g rfl hG) .c) ?_
          refine W.q rfl rfl rfl rfl (by decide) (Yd.or rfl (.t rfl) .c rfl rfl) ?_
          refine W.end ?_
          refine NX.sub (env' := [(0, _), (1, _), (2, _), (3, _), (10, _), (11, _), (24, _), (25, _), (26, _), (13, _), (41, _)]) ⟨rfl, rfl, rfl, rfl, rfl, rfl, rfl, rfl, rfl, rfl, rfl, trivial⟩ ?_
          refine NX.then ?_
          refine Tr.cond (.t rfl) (fun hb => ?_) (fun hb => ?_)
          · have hr := cond_t hb hr
            refine Tr.exit' (EX.then (EX.block ?_))
            refine NX.then ?_
            refine Tr.region_f (fun _ => false) ?_
            refine W.q rfl rfl rfl rfl (by decide) (Yd.add rfl (.t rfl) .c) ?_
            refine W.q rfl rfl rfl rfl (by decide) (Yd.mv rfl (.t rfl)) ?_
            refine W.end ?_
            refine NX.sub (env' := [(0, _), (1, _), (2, _), (3, _), (10, _), (11, _), (24, _), (25, _), (26, _)]) ⟨rfl, rfl, rfl, rfl, rfl, rfl, rfl, rfl, rfl, trivial⟩ ?_
            refine NX.drop (l' := l) (.cons _ (.refl _)) ?_
            refine NX.sub (env' := [(0, _), (1, _), (2, _), (3, _), (10, _), (11, _), (24, _), (25, _), (26, _)]) ⟨rfl, rfl, rfl, rfl, rfl, rfl, rfl, rfl, rfl, trivial⟩ ?_
            have hw := w64_id (n := t_36 + 1) (by omega) (by omega)
            exact NX.again n39 (t_36 + 1, yes_26, no_27, more_28) (Nat.lt_succ_self _) ⟨(by rw [hw] <;> rfl), rfl, (fr_dec hnt_36), (by omega), ((hnx38 _).symm.trans hr)⟩
          · have hr := cond_f hb hr
            refine Tr.skip' ?_
            refine NX.then ?_
            refine Tr.seq ?_
            refine Tr.region_x (fun _ => false) (fun _ => false) (Ord.of [0, 1, 2, 3, 4, 5, 6, 7, 8, 9]) FM (by kernel_rfl) ?_
            refine W.q rfl rfl rfl rfl (by decide) (Yd.fldB rfl Try.underlying46 rfl SZ41 rfl (.t rfl)) ?_
            refine W.q rfl rfl rfl rfl (by decide) (Yd.ldB (pos := 0) rfl rfl rfl ON41 (.t rfl)) ?_
            refine W.q rfl rfl rfl rfl (by decide) (Yd.mv rfl (.t rfl)) ?_
            refine W.q rfl rfl rfl rfl (by decide) (Yd.andnU (a := y40.yes) (b := no_27) rfl (.t rfl) (.t rfl)) ?_
            refine W.q rfl rfl rfl rfl (by decide) (Yd.fldB rfl Try.underlying46 rfl SZ41 rfl (.t rfl)) ?_
            refine W.q rfl rfl rfl rfl (by decide) (Yd.ldB (pos := 0) rfl rfl rfl ON41 (.t rfl)) ?_
            refine W.q rfl rfl rfl rfl (by decide) (Yd.mv rfl (.t rfl)) ?_
            refine W.q rfl rfl rfl rfl (by decide) (Yd.andnU (a := y40.no) (b := yes_26) rfl (.t rfl) (.t rfl)) ?_
            refine W.q rfl rfl rfl rfl (by decide) (Yd.as rfl (.t rfl)) ?_
            refine W.q rfl rfl rfl rfl (by decide) (Yd.as rfl (.t rfl)) ?_
            refine W.end ?_
            refine NX.sub (env' := [(0, _), (1, _), (2, _), (3, _), (10, _), (11, _), (24, _), (25, _), (26, _), (14, _), (15, _)]) ⟨rfl, rfl, rfl, rfl, rfl, rfl, rfl, rfl, rfl, rfl, rfl, trivial⟩ ?_
            refine NX.drop (l' := l) (.cons _ (.refl _)) ?_
            refine NX.then ?_
            refine Tr.seq ?_
            obtain ⟨r44, hr45, hr⟩ := bind_some hr
            obtain ⟨r46, hr47, hr⟩ := bind_some hr
            refine Tr.region_f (fun _ => false) ?_
            refine W.q rfl rfl rfl rfl (by decide) (Yd.mv rfl (.t rfl)) ?_
            refine W.q rfl rfl rfl rfl (by decide) (Yd.call (v := .int .i64 r44) rfl Try.func65 rfl rfl (.cons (.t rfl) .nil) (fun x' hx w hw => math_bits_OnesCount32_ok w0 x'.m x'.l ((y40.yes &&& ~~~no_27)) _ hr45 w hw)) ?_
            refine W.q rfl rfl rfl rfl (by decide) (Yd.mv rfl (.t rfl)) ?_
            refine W.q rfl rfl rfl rfl (by decide) (Yd.call (v := .int .i64 r46) rfl Try.func65 rfl rfl (.cons (.t rfl) .nil) (fun x' hx w hw => math_bits_OnesCount32_ok w0 x'.m x'.l ((y40.no &&& ~~~yes_26)) _ hr47 w hw)) ?_
            refine W.q rfl rfl rfl rfl (by decide) (Yd.add rfl (.t rfl) (.t rfl)) ?_
            refine W.end ?_
            refine NX.sub (env' := [(0, _), (1, _), (2, _), (3, _), (10, _), (11, _), (24, _), (25, _), (26, _), (14, _), (15, _), (54, _)]) ⟨rfl, rfl, rfl, rfl, rfl, rfl, rfl, rfl, rfl, rfl, rfl, rfl, trivial⟩ ?_
            refine NX.then ?_
            refine Tr.block ?_
            refine Tr.seq ?_
            refine Tr.region_f (fun _ => false) ?_
            refine W.q rfl rfl rfl rfl (by decide) (Yd.eql rfl (.t rfl) .c) ?_
            refine W.q rfl rfl rfl rfl (by decide) (Yd.as rfl (.t rfl)) ?_
            refine W.end ?_
            refine NX.sub (env' := [(0, _), (1, _), (2, _), (3, _), (10, _), (11, _), (24, _), (25, _), (26, _), (14, _), (15, _), (54, _), (55, _)]) ⟨rfl, rfl, rfl, rfl, rfl, rfl, rfl, rfl, rfl, rfl, rfl, rfl, rfl, trivial⟩ ?_
            refine NX.then ?_
            refine Tr.cond (.t rfl) (fun hb => ?_) (fun hb => ?_)
            · have hr := cond_t hb hr
              refine Tr.seq ?_
              refine Tr.region_f (fun _ => false) ?_
              refine W.q rfl rfl rfl rfl (by decide) (Yd.as rfl .c) ?_
              refine W.q rfl rfl rfl rfl (by decide) (Yd.as rfl .c) ?_
              refine W.end ?_
              refine NX.sub (env' := [(8, _), (9, _)]) ⟨rfl, rfl, trivial⟩ ?_
              refine NX.then ?_
              refine Tr.ret' (RT.block (RT.block (RT.then (RT.then (RT.block (RT.block (RT.then (RT.block (RT.then ?_)))))))))
              refine res2 rfl rfl rfl ?_
              intro w hc
              cases hr
              exact ⟨rfl, hc⟩
            · have hr := cond_f hb hr
              refine Tr.seq ?_
              refine Tr.region_f (fun _ => false) ?_
              refine W.q rfl rfl rfl rfl (by decide) (Yd.eql rfl (.t rfl) .c) ?_
              refine W.q rfl rfl rfl rfl (by decide) (Yd.as rfl (.t rfl)) ?_
              refine W.end ?_
              refine NX.sub (env' := [(0, _), (1, _), (2, _), (3, _), (10, _), (11, _), (24, _), (25, _), (26, _), (14, _), (15, _), (57, _)]) ⟨rfl, rfl, rfl, rfl, rfl, rfl, rfl, rfl, rfl, rfl, rfl, rfl, trivial⟩ ?_
              refine NX.then ?_
              refine Tr.cond (.t rfl) (fun hb => ?_) (fun hb => ?_)
              · have hr := cond_t hb hr
                refine Tr.region_f (fun _ => false) ?_
                refine W.q rfl rfl rfl rfl (by decide) (Yd.mv rfl (.t rfl)) ?_
                refine W.q rfl rfl rfl rfl (by decide) (Yd.mv rfl (.t rfl)) ?_
                refine W.q rfl rfl rfl rfl (by decide) (Yd.orU (a := yes_26) (b := (y40.yes &&& ~~~no_27)) rfl (.t rfl) (.t rfl)) ?_
                refine W.q rfl rfl rfl rfl (by decide) (Yd.mv rfl (.t rfl)) ?_
                refine W.q rfl rfl rfl rfl (by decide) (Yd.mv rfl (.t rfl)) ?_
                refine W.q rfl rfl rfl rfl (by decide) (Yd.orU (a := no_27) (b := (y40.no &&& ~~~yes_26)) rfl (.t rfl) (.t rfl)) ?_
                refine W.q rfl rfl rfl rfl (by decide) (Yd.as rfl (.t rfl)) ?_
                refine W.q rfl rfl rfl rfl (by decide) (Yd.as rfl (.t rfl)) ?_
                refine W.q rfl rfl rfl rfl (by decide) (Yd.as rfl .c) ?_
                refine W.end ?_
                refine NX.sub (env' := [(0, _), (1, _), (2, _), (3, _), (10, _), (11, _), (24, _), (25, _), (26, _)]) ⟨rfl, rfl, rfl, rfl, rfl, rfl, rfl, rfl, rfl, trivial⟩ ?_
                refine NX.block ?_
                refine NX.block ?_
                refine NX.then ?_
                refine Tr.region_f (fun _ => false) ?_
                refine W.q rfl rfl rfl rfl (by decide) (Yd.add rfl (.t rfl) .c) ?_
                refine W.q rfl rfl rfl rfl (by decide) (Yd.mv rfl (.t rfl)) ?_
                refine W.end ?_
                refine NX.sub (env' := [(0, _), (1, _), (2, _), (3, _), (10, _), (11, _), (24, _), (25, _), (26, _)]) ⟨rfl, rfl, rfl, rfl, rfl, rfl, rfl, rfl, rfl, trivial⟩ ?_
                refine NX.sub (env' := [(0, _), (1, _), (2, _), (3, _), (10, _), (11, _), (24, _), (25, _), (26, _)]) ⟨rfl, rfl, rfl, rfl, rfl, rfl, rfl, rfl, rfl, trivial⟩ ?_
                have hw := w64_id (n := t_36 + 1) (by omega) (by omega)
                exact NX.again n39 (t_36 + 1, (yes_26 ||| (y40.yes &&& ~~~no_27)), (no_27 ||| (y40.no &&& ~~~yes_26)), true) (Nat.lt_succ_self _) ⟨(by rw [hw] <;> rfl), rfl, (fr_dec hnt_36), (by omega), ((hnx38 _).symm.trans hr)⟩
              · have hr := cond_f hb hr
                refine Tr.skip' ?_
                refine NX.block ?_
                refine NX.block ?_
                refine NX.then ?_
                refine Tr.region_f (fun _ => false) ?_
                refine W.q rfl rfl rfl rfl (by decide) (Yd.add rfl (.t rfl) .c) ?_
                refine W.q rfl rfl rfl rfl (by decide) (Yd.mv rfl (.t rfl)) ?_
                refine W.end ?_
                refine NX.sub (env' := [(0, _), (1, _), (2, _), (3, _), (10, _), (11, _), (24, _), (25, _), (26, _)]) ⟨rfl, rfl, rfl, rfl, rfl, rfl, rfl, rfl, rfl, trivial⟩ ?_
                refine NX.sub (env' := [(0, _), (1, _), (2, _), (3, _), (10, _), (11, _), (24, _), (25, _), (26, _)]) ⟨rfl, rfl, rfl, rfl, rfl, rfl, rfl, rfl, rfl, trivial⟩ ?_
                have hw := w64_id (n := t_36 + 1) (by omega) (by omega)
                exact NX.again n39 (t_36 + 1, yes_26, no_27, more_28) (Nat.lt_succ_self _) ⟨(by rw [hw] <;> rfl), rfl, (fr_dec hnt_36), (by omega), ((hnx38 _).symm.trans hr)⟩
    · have hr := cond_f hb hr
      refine Tr.exit' (EX.then (EX.then (EX.block ?_)))
      refine NX.sub (env' := [(0, _), (1, _), (2, _), (3, _), (10, _)]) ⟨rfl, rfl, rfl, rfl, rfl, trivial⟩ ?_
      exact hk11 _ _ ⟨_, _, rfl, rfl, hr⟩

def clause_Solve (fuel : Nat) (n_0 : Int) (l_1 : List Clause) : Option ((BitVec 32) × Int) :=
  (clause_wrong n_0 l_1).bind fun r1 =>
  (bif (r1 != (0 : Int)) then
  some ((0#32, r1))
  else
  (clause_search fuel n_0 l_1 (0#32) (0#32)).bind fun r3 =>
  (bif (!r3.2) then
  some ((0#32, (5 : Int)))
  else
  some ((r3.1, (0 : Int)))))

set_option maxRecDepth 100000 in
theorem clause_Solve_ok (w0 : World) (m : Snap) (l : List HI) (fuel : Nat) (n_0 : Int) (ul_1 : Value) (l_1 : List Clause) (hl_1 : RS rClause m ul_1 l_1) (r : (BitVec 32) × Int) (hr : clause_Solve fuel n_0 l_1 = some r) (w : World) (hc : cX w0 ⟨m, l⟩ w) :
    Calls Try.prog 25 [.int .i64 n_0, ul_1].toArray w fun e w' => e = .returned (.tuple #[.int .u32 (r.1.toNat : Int), .int .i64 r.2]) ∧ cX w0 ⟨m, l⟩ w' := by
  unfold clause_Solve at hr
  refine calls_of_Tr (N := 24) Try.func25 rfl hc rfl (Nat.le_of_ble_eq_true rfl) ?_
  refine Tr.seq ?_
  refine Tr.region_f (fun _ => false) ?_
  refine W.q rfl rfl rfl rfl (by decide) (Yd.as rfl .c) ?_
  refine W.q rfl rfl rfl rfl (by decide) (Yd.as rfl .c) ?_
  refine W.end ?_
  refine NX.sub (env' := [(0, _), (1, _)]) ⟨rfl, rfl, trivial⟩ ?_
  refine NX.then ?_
  refine Tr.seq ?_
  refine Tr.seq ?_
  obtain ⟨r1, hr2, hr⟩ := bind_some hr
  refine Tr.region_f (fun _ => false) ?_
  refine W.q rfl rfl rfl rfl (by decide) (Yd.mv rfl (.t rfl)) ?_
  refine W.q rfl rfl rfl rfl (by decide) (Yd.mv rfl (.t rfl)) ?_
  refine W.q rfl rfl rfl rfl (by decide) (Yd.call (v := .int .i64 r1) rfl Try.func44 rfl rfl (.cons (.t rfl) (.cons (.t rfl) .nil)) (fun x' hx w hw => clause_wrong_ok w0 x'.m x'.l n_0 _ _ (hl_1.mono hx.1) _ hr2 w hw)) ?_
  refine W.q rfl rfl rfl rfl (by decide) (Yd.as rfl (.t rfl)) ?_
  refine W.end ?_
  refine NX.sub (env' := [(0, _), (1, _), (6, _)]) ⟨rfl, rfl, rfl, trivial⟩ ?_
  refine NX.then ?_
  refine Tr.seq ?_
  refine Tr.region_f (fun _ => false) ?_
  refine W.q rfl rfl rfl rfl (by decide) (Yd.mv rfl (.t rfl)) ?_
  refine W.q rfl rfl rfl rfl (by decide) (Yd.neq rfl (.t rfl) .c) ?_
  refine W.end ?_
  refine NX.sub (env' := [(0, _), (1, _), (6, _), (13, _)]) ⟨rfl, rfl, rfl, rfl, trivial⟩ ?_
  refine NX.then ?_
  refine Tr.cond (.t rfl) (fun hb => ?_) (fun hb => ?_)
  · have hr := cond_t hb hr
    refine Tr.seq ?_
    refine Tr.region_f (fun _ => false) ?_
    refine W.q rfl rfl rfl rfl (by decide) (Yd.mv rfl (.t rfl)) ?_
    refine W.q rfl rfl rfl rfl (by decide) (Yd.as rfl .c) ?_
    refine W.q rfl rfl rfl rfl (by decide) (Yd.as rfl (.t rfl)) ?_
    refine W.end ?_
    refine NX.sub (env' := [(4, _), (5, _)]) ⟨rfl, rfl, trivial⟩ ?_
    refine NX.then ?_
    refine Tr.ret' (RT.then ?_)
    refine res2 rfl rfl rfl ?_
    intro w hc
    cases hr
    exact ⟨rfl, hc⟩
  · have hr := cond_f hb hr
    refine Tr.skip' ?_
    refine NX.then ?_
    refine Tr.seq ?_
    obtain ⟨r3, hr4, hr⟩ := bind_some hr
    refine Tr.region_f (fun _ => false) ?_
    refine W.q rfl rfl rfl rfl (by decide) (Yd.mv rfl (.t rfl)) ?_
    refine W.q rfl rfl rfl rfl (by decide) (Yd.mv rfl (.t rfl)) ?_
    refine W.q rfl rfl rfl rfl (by decide) (Yd.call (v := .tuple #[.int .u32 (r3.1.toNat : Int), .bool r3.2]) rfl Try.func49 rfl rfl (.cons (.t rfl) (.cons (.t rfl) (.cons .c (.cons .c .nil)))) (fun x' hx w hw => clause_search_ok w0 x'.m x'.l fuel n_0 _ _ (hl_1.mono hx.1) (0#32) (0#32) _ hr4 w hw)) ?_
    refine W.q rfl rfl rfl rfl (by decide) (Yd.mv rfl (.t rfl)) ?_
    refine W.q rfl rfl rfl rfl (by decide) (Yd.ext rfl (.t rfl) rfl) ?_
    refine W.q rfl rfl rfl rfl (by decide) (Yd.ext rfl (.t rfl) rfl) ?_
    refine W.q rfl rfl rfl rfl (by decide) (Yd.as rfl (.t rfl)) ?_
    refine W.q rfl rfl rfl rfl (by decide) (Yd.as rfl (.t rfl)) ?_
    refine W.end ?_
    refine NX.sub (env' := [(7, _), (8, _)]) ⟨rfl, rfl, trivial⟩ ?_
    refine NX.then ?_
    refine Tr.seq ?_
    refine Tr.seq ?_
    refine Tr.region_f (fun _ => false) ?_
    refine W.q rfl rfl rfl rfl (by decide) (Yd.mv rfl (.t rfl)) ?_
    refine W.q rfl rfl rfl rfl (by decide) (Yd.not rfl (.t rfl)) ?_
    refine W.end ?_
    refine NX.sub (env' := [(7, _), (22, _)]) ⟨rfl, rfl, trivial⟩ ?_
    refine NX.then ?_
    refine Tr.cond (.t rfl) (fun hb => ?_) (fun hb => ?_)
    · have hr := cond_t hb hr
      refine Tr.seq ?_
      refine Tr.region_f (fun _ => false) ?_
      refine W.q rfl rfl rfl rfl (by decide) (Yd.as rfl .c) ?_
      refine W.q rfl rfl rfl rfl (by decide) (Yd.as rfl .c) ?_
      refine W.end ?_
      refine NX.sub (env' := [(4, _), (5, _)]) ⟨rfl, rfl, trivial⟩ ?_
      refine NX.then ?_
      refine Tr.ret' (RT.then ?_)
      refine res2 rfl rfl rfl ?_
      intro w hc
      cases hr
      exact ⟨rfl, hc⟩
    · have hr := cond_f hb hr
      refine Tr.skip' ?_
      refine NX.then ?_
      refine Tr.seq ?_
      refine Tr.region_f (fun _ => false) ?_
      refine W.q rfl rfl rfl rfl (by decide) (Yd.mv rfl (.t rfl)) ?_
      refine W.q rfl rfl rfl rfl (by decide) (Yd.as rfl (.t rfl)) ?_
      refine W.q rfl rfl rfl rfl (by decide) (Yd.as rfl .c) ?_
      refine W.end ?_
      refine NX.sub (env' := [(4, _), (5, _)]) ⟨rfl, rfl, trivial⟩ ?_
      refine NX.then ?_
      refine Tr.ret' ?_
      refine res2 rfl rfl rfl ?_
      intro w hc
      cases hr
      exact ⟨rfl, hc⟩

def syllogistref_First_k3 : Option ((BitVec 32) × Bool) :=
  some ((0#32, false))

def syllogistref_First_b6 (l_1 : List Clause) (s_5 : BitVec 32) (nx7 : Unit → Option ((BitVec 32) × Bool)) : Option ((BitVec 32) × Bool) :=
  (syllogistref_True l_1 s_5).bind fun r9 =>
  (bif r9 then
  some ((s_5, true))
  else
  nx7 ())

def syllogistref_First (n_0 : Int) (l_1 : List Clause) : Option ((BitVec 32) × Bool) :=
  forK (σ := Unit) (fun i s nx_ => syllogistref_First_b6 l_1 i nx_) (fun _ => syllogistref_First_k3) (((1#32 <<< ((BitVec.ofInt 64 n_0)).toNat)).toNat - (0#32).toNat) 0#32 ()

set_option maxRecDepth 100000 in
theorem syllogistref_First_ok (w0 : World) (m : Snap) (l : List HI) (n_0 : Int) (ul_1 : Value) (l_1 : List Clause) (hl_1 : RS rClause m ul_1 l_1) (r : (BitVec 32) × Bool) (hr : syllogistref_First n_0 l_1 = some r) (w : World) (hc : cX w0 ⟨m, l⟩ w) :
    Calls Try.prog 26 [.int .i64 n_0, ul_1].toArray w fun e w' => e = .returned (.tuple #[.int .u32 (r.1.toNat : Int), .bool r.2]) ∧ cX w0 ⟨m, l⟩ w' := by
  unfold syllogistref_First at hr
  refine calls_of_Tr (N := 18) Try.func26 rfl hc rfl (Nat.le_of_ble_eq_true rfl) ?_
  refine Tr.seq ?_
  refine Tr.region_f (fun _ => false) ?_
  refine W.q rfl rfl rfl rfl (by decide) (Yd.as rfl .c) ?_
  refine W.q rfl rfl rfl rfl (by decide) (Yd.as rfl .c) ?_
  refine W.end ?_
  refine NX.sub (env' := [(0, _), (1, _)]) ⟨rfl, rfl, trivial⟩ ?_
  refine NX.then ?_
  refine Tr.seq ?_
  refine Tr.seq ?_
  refine Tr.region_f (fun _ => false) ?_
  refine W.q rfl rfl rfl rfl (by decide) (Yd.as rfl .c) ?_
  refine W.end ?_
  refine NX.sub (env' := [(0, _), (1, _), (6, _)]) ⟨rfl, rfl, rfl, trivial⟩ ?_
  refine NX.then ?_
  refine Tr.join (S := fun env x => env = [] ∧ x = ⟨m, l⟩ ∧ syllogistref_First_k3 = some r) ?_ (fun hk4 => ?_)
  · rintro _ _ ⟨rfl, rfl, hr⟩
    unfold syllogistref_First_k3 at hr
    try dsimp only at hr
    refine NX.then ?_
    refine Tr.seq ?_
    refine Tr.region_f (fun _ => false) ?_
    refine W.q rfl rfl rfl rfl (by decide) (Yd.as rfl .c) ?_
    refine W.q rfl rfl rfl rfl (by decide) (Yd.as rfl .c) ?_
    refine W.end ?_
    refine NX.sub (env' := [(4, _), (5, _)]) ⟨rfl, rfl, trivial⟩ ?_
    refine NX.then ?_
    refine Tr.ret' ?_
    refine res2 rfl rfl rfl ?_
    intro w hc
    cases hr
    exact ⟨rfl, hc⟩
  refine Tr.block ?_
  refine Tr.sub (env' := [(0, _), (1, _), (6, _)]) ⟨rfl, rfl, rfl, trivial⟩ ?_
  refine Tr.loop (S := fun n (z : BitVec 32 × Unit) env x => match z with | (s_5, _) => env = [(0, .int .i64 n_0), (1, ul_1), (6, .int .u32 (s_5.toNat : Int))] ∧ x = ⟨m, l⟩ ∧ n = ((1#32 <<< ((BitVec.ofInt 64 n_0)).toNat)).toNat - s_5.toNat ∧ forK (σ := Unit) (fun i s nx_ => syllogistref_First_b6 l_1 i nx_) (fun _ => syllogistref_First_k3) n s_5 () = some r) _ (0#32, ()) ⟨rfl, rfl, rfl, hr⟩ ?_
  rintro n8 ⟨s_5, _⟩ env x ⟨rfl, rfl, hns_5, hr⟩
  cases n8 with
  | zero =>
    simp only [forK] at hr
    refine Tr.seq ?_
    refine Tr.seq ?_
    refine Tr.region_f (fun _ => false) ?_
    refine W.q rfl rfl rfl rfl (by decide) (Yd.mv rfl (.t rfl)) ?_
    refine W.q rfl rfl rfl rfl (by decide) (Yd.mv rfl (.t rfl)) ?_
    refine W.q rfl rfl rfl rfl (by decide) (Yd.cvQ rfl US3 Try.underlying48 (.t rfl)) ?_
    refine W.q rfl rfl rfl rfl (by decide) (Yd.shlU (a := 1#32) rfl .c (.t rfl) (Int.natCast_nonneg _)) ?_
    refine W.q rfl rfl rfl rfl (by decide) (Yd.lssU (a := s_5) (b := (1#32 <<< ((BitVec.ofInt 64 n_0)).toNat)) rfl (.t rfl) (.t rfl)) ?_
    refine W.end ?_
    refine NX.sub (env' := [(0, _), (1, _), (6, _), (11, _)]) ⟨rfl, rfl, rfl, rfl, trivial⟩ ?_
    refine NX.then ?_
    refine Tr.cond (.t rfl) (fun hb => ?_) (fun hb => ?_)
    · exact absurd (hb.symm.trans (fu_end hns_5)) (by decide)
    ·
      refine Tr.exit' (EX.then (EX.then (EX.block ?_)))
      refine NX.sub (env' := []) trivial ?_
      exact hk4 _ _ ⟨rfl, rfl, hr⟩
  | succ n8 =>
    obtain ⟨nx7, hnx7, hr⟩ := forK_succ hr
    try dsimp only at hr
    unfold syllogistref_First_b6 at hr
    try dsimp only at hr
    refine Tr.seq ?_
    refine Tr.seq ?_
    refine Tr.region_f (fun _ => false) ?_
    refine W.q rfl rfl rfl rfl (by decide) (Yd.mv rfl (.t rfl)) ?_
    refine W.q rfl rfl rfl rfl (by decide) (Yd.mv rfl (.t rfl)) ?_
    refine W.q rfl rfl rfl rfl (by decide) (Yd.cvQ rfl US3 Try.underlying48 (.t rfl)) ?_
    refine W.q rfl rfl rfl rfl (by decide) (Yd.shlU (a := 1#32) rfl .c (.t rfl) (Int.natCast_nonneg _)) ?_
    refine W.q rfl rfl rfl rfl (by decide) (Yd.lssU (a := s_5) (b := (1#32 <<< ((BitVec.ofInt 64 n_0)).toNat)) rfl (.t rfl) (.t rfl)) ?_
    refine W.end ?_
    refine NX.sub (env' := [(0, _), (1, _), (6, _), (11, _)]) ⟨rfl, rfl, rfl, rfl, trivial⟩ ?_
    refine NX.then ?_
    refine Tr.cond (.t rfl) (fun hb => ?_) (fun hb => ?_)
    rotate_left
    · exact absurd (hb.symm.trans (fu_go hns_5)) (by decide)
    ·
      refine Tr.skip' ?_
      refine NX.then ?_
      refine Tr.seq ?_
      refine Tr.block ?_
      refine Tr.seq ?_
      obtain ⟨r9, hr10, hr⟩ := bind_some hr
      refine Tr.region_f (fun _ => false) ?_
      refine W.q rfl rfl rfl rfl (by decide) (Yd.mv rfl (.t rfl)) ?_
      refine W.q rfl rfl rfl rfl (by decide) (Yd.mv rfl (.t rfl)) ?_
      refine W.q rfl rfl rfl rfl (by decide) (Yd.call (v := .bool r9) rfl Try.func24 rfl rfl (.cons (.t rfl) (.cons (.t rfl) .nil)) (fun x' hx w hw => syllogistref_True_ok w0 x'.m x'.l _ _ (hl_1.mono hx.1) s_5 _ hr10 w hw)) ?_
      refine W.end ?_
      refine NX.sub (env' := [(0, _), (1, _), (6, _), (16, _)]) ⟨rfl, rfl, rfl, rfl, trivial⟩ ?_
      refine NX.then ?_
      refine Tr.cond (.t rfl) (fun hb => ?_) (fun hb => ?_)
      · have hr := cond_t hb hr
        refine Tr.seq ?_
        refine Tr.region_f (fun _ => false) ?_
        refine W.q rfl rfl rfl rfl (by decide) (Yd.mv rfl (.t rfl)) ?_
        refine W.q rfl rfl rfl rfl (by decide) (Yd.as rfl (.t rfl)) ?_
        refine W.q rfl rfl rfl rfl (by decide) (Yd.as rfl .c) ?_
        refine W.end ?_
        refine NX.sub (env' := [(4, _), (5, _)]) ⟨rfl, rfl, trivial⟩ ?_
        refine NX.then ?_
        refine Tr.ret' (RT.block (RT.then (RT.then (RT.block (RT.then ?_)))))
        refine res2 rfl rfl rfl ?_
        intro w hc
        cases hr
        exact ⟨rfl, hc⟩
      · have hr := cond_f hb hr
        refine Tr.skip' ?_
        refine NX.block ?_
        refine NX.then ?_
        refine Tr.region_f (fun _ => false) ?_
        refine W.q rfl rfl rfl rfl (by decide) (Yd.mv rfl (.t rfl)) ?_
        refine W.q rfl rfl rfl rfl (by decide) (Yd.addU (a := s_5) (b := 1#32) rfl (.t rfl) .c) ?_
        refine W.q rfl rfl rfl rfl (by decide) (Yd.as rfl (.t rfl)) ?_
        refine W.end ?_
        refine NX.sub (env' := [(0, _), (1, _), (6, _)]) ⟨rfl, rfl, rfl, trivial⟩ ?_
        refine NX.sub (env' := [(0, _), (1, _), (6, _)]) ⟨rfl, rfl, rfl, trivial⟩ ?_
        exact NX.again n8 (s_5 + 1, ()) (Nat.lt_succ_self _) ⟨rfl, rfl, (fu_dec hns_5), ((hnx7 _).symm.trans hr)⟩

def syllogistlaw_ClauseSolves (fuel : Nat) (n_0 : Int) (l_1 : List Clause) : Option (Bool) :=
  (clause_Solve fuel n_0 l_1).bind fun r1 =>
  (syllogistref_SatCheck n_0 l_1).bind fun r3 =>
  (bif (r3 != (0 : Int)) then
  some (((r1.2 == r3) && (r1.1 == 0#32)))
  else
  (syllogistref_First n_0 l_1).bind fun r5 =>
  (bif (!r5.2) then
  some (((r1.2 == (5 : Int)) && (r1.1 == 0#32)))
  else
  some (((r1.2 == (0 : Int)) && (r1.1 == r5.1)))))

set_option maxRecDepth 100000 in
theorem syllogistlaw_ClauseSolves_ok (w0 : World) (m : Snap) (l : List HI) (fuel : Nat) (n_0 : Int) (ul_1 : Value) (l_1 : List Clause) (hl_1 : RS rClause m ul_1 l_1) (r : Bool) (hr : syllogistlaw_ClauseSolves fuel n_0 l_1 = some r) (w : World) (hc : cX w0 ⟨m, l⟩ w) :
    Calls Try.prog 7 [.int .i64 n_0, ul_1].toArray w fun e w' => e = .returned (.bool r) ∧ cX w0 ⟨m, l⟩ w' := by
  unfold syllogistlaw_ClauseSolves at hr
  refine calls_of_Tr (N := 49) Try.func7 rfl hc rfl (Nat.le_of_ble_eq_true rfl) ?_
  refine Tr.seq ?_
  refine Tr.region_f (fun _ => false) ?_
  refine W.q rfl rfl rfl rfl (by decide) (Yd.as rfl .c) ?_
  refine W.end ?_
  refine NX.sub (env' := [(0, _), (1, _)]) ⟨rfl, rfl, trivial⟩ ?_
  refine NX.then ?_
  refine Tr.seq ?_
  obtain ⟨r1, hr2, hr⟩ := bind_some hr
  refine Tr.region_f (fun _ => false) ?_
  refine W.q rfl rfl rfl rfl (by decide) (Yd.mv rfl (.t rfl)) ?_
  refine W.q rfl rfl rfl rfl (by decide) (Yd.mv rfl (.t rfl)) ?_
  refine W.q rfl rfl rfl rfl (by decide) (Yd.call (v := .tuple #[.int .u32 (r1.1.toNat : Int), .int .i64 r1.2]) rfl Try.func25 rfl rfl (.cons (.t rfl) (.cons (.t rfl) .nil)) (fun x' hx w hw => clause_Solve_ok w0 x'.m x'.l fuel n_0 _ _ (hl_1.mono hx.1) _ hr2 w hw)) ?_
  refine W.q rfl rfl rfl rfl (by decide) (Yd.mv rfl (.t rfl)) ?_
  refine W.q rfl rfl rfl rfl (by decide) (Yd.ext rfl (.t rfl) rfl) ?_
  refine W.q rfl rfl rfl rfl (by decide) (Yd.ext rfl (.t rfl) rfl) ?_
  refine W.q rfl rfl rfl rfl (by decide) (Yd.as rfl (.t rfl)) ?_
  refine W.q rfl rfl rfl rfl (by decide) (Yd.as rfl (.t rfl)) ?_
  refine W.end ?_
  refine NX.sub (env' := [(0, _), (1, _), (5, _), (6, _)]) ⟨rfl, rfl, rfl, rfl, trivial⟩ ?_
  refine NX.then ?_
  refine Tr.seq ?_
  obtain ⟨r3, hr4, hr⟩ := bind_some hr
  refine Tr.region_f (fun _ => false) ?_
  refine W.q rfl rfl rfl rfl (by decide) (Yd.mv rfl (.t rfl)) ?_
  refine W.q rfl rfl rfl rfl (by decide) (Yd.mv rfl (.t rfl)) ?_
  refine W.q rfl rfl rfl rfl (by decide) (Yd.call (v := .int .i64 r3) rfl Try.func22 rfl rfl (.cons (.t rfl) (.cons (.t rfl) .nil)) (fun x' hx w hw => syllogistref_SatCheck_ok w0 x'.m x'.l n_0 _ _ (hl_1.mono hx.1) _ hr4 w hw)) ?_
  refine W.q rfl rfl rfl rfl (by decide) (Yd.as rfl (.t rfl)) ?_
  refine W.end ?_
  refine NX.sub (env' := [(0, _), (1, _), (5, _), (6, _), (7, _)]) ⟨rfl, rfl, rfl, rfl, rfl, trivial⟩ ?_
  refine NX.then ?_
  refine Tr.seq ?_
  refine Tr.seq ?_
  refine Tr.region_f (fun _ => false) ?_
  refine W.q rfl rfl rfl rfl (by decide) (Yd.mv rfl (.t rfl)) ?_
  refine W.q rfl rfl rfl rfl (by decide) (Yd.neq rfl (.t rfl) .c) ?_
  refine W.end ?_
  refine NX.sub (env' := [(0, _), (1, _), (5, _), (6, _), (7, _), (20, _)]) ⟨rfl, rfl, rfl, rfl, rfl, rfl, trivial⟩ ?_
  refine NX.then ?_
  refine Tr.cond (.t rfl) (fun hb => ?_) (fun hb => ?_)
  · have hr := cond_t hb hr
    refine Tr.seq ?_
    refine Tr.region_f (fun _ => false) ?_
    refine W.q rfl rfl rfl rfl (by decide) (Yd.mv rfl (.t rfl)) ?_
    refine W.q rfl rfl rfl rfl (by decide) (Yd.mv rfl (.t rfl)) ?_
    refine W.q rfl rfl rfl rfl (by decide) (Yd.eql rfl (.t rfl) (.t rfl)) ?_
    refine W.q rfl rfl rfl rfl (by decide) (Yd.mv rfl (.t rfl)) ?_
    refine W.g rfl rfl rfl rfl rfl (.t rfl _) rfl (by decide) (fun hG => Yd.mv rfl (.t rfl)) ?_
    refine W.g rfl rfl rfl rfl rfl (.t rfl _) rfl (by decide) (fun hG => Yd.eqlU (a := r1.1) (b := 0#32) rfl (.g rfl hG) .c) ?_
    refine W.q rfl rfl rfl rfl (by decide) (Yd.and rfl (.t rfl) .c rfl rfl) ?_
    refine W.q rfl rfl rfl rfl (by decide) (Yd.as rfl (.t rfl)) ?_
    refine W.end ?_
    refine NX.sub (env' := [(4, _)]) ⟨rfl, trivial⟩ ?_
    refine NX.then ?_
    refine Tr.ret' (RT.then ?_)
    refine res1 rfl rfl ?_
    intro w hc
    cases hr
    exact ⟨rfl, hc⟩
  · have hr := cond_f hb hr
    refine Tr.skip' ?_
    refine NX.then ?_
    refine Tr.seq ?_
    obtain ⟨r5, hr6, hr⟩ := bind_some hr
    refine Tr.region_f (fun _ => false) ?_
    refine W.q rfl rfl rfl rfl (by decide) (Yd.mv rfl (.t rfl)) ?_
    refine W.q rfl rfl rfl rfl (by decide) (Yd.mv rfl (.t rfl)) ?_
    refine W.q rfl rfl rfl rfl (by decide) (Yd.call (v := .tuple #[.int .u32 (r5.1.toNat : Int), .bool r5.2]) rfl Try.func26 rfl rfl (.cons (.t rfl) (.cons (.t rfl) .nil)) (fun x' hx w hw => syllogistref_First_ok w0 x'.m x'.l n_0 _ _ (hl_1.mono hx.1) _ hr6 w hw)) ?_
    refine W.q rfl rfl rfl rfl (by decide) (Yd.mv rfl (.t rfl)) ?_
    refine W.q rfl rfl rfl rfl (by decide) (Yd.ext rfl (.t rfl) rfl) ?_
    refine W.q rfl rfl rfl rfl (by decide) (Yd.ext rfl (.t rfl) rfl) ?_
    refine W.q rfl rfl rfl rfl (by decide) (Yd.as rfl (.t rfl)) ?_
    refine W.q rfl rfl rfl rfl (by decide) (Yd.as rfl (.t rfl)) ?_
    refine W.end ?_
    refine NX.sub (env' := [(5, _), (6, _), (8, _), (9, _)]) ⟨rfl, rfl, rfl, rfl, trivial⟩ ?_
    refine NX.then ?_
    refine Tr.seq ?_
    refine Tr.seq ?_
    refine Tr.region_f (fun _ => false) ?_
    refine W.q rfl rfl rfl rfl (by decide) (Yd.mv rfl (.t rfl)) ?_
    refine W.q rfl rfl rfl rfl (by decide) (Yd.not rfl (.t rfl)) ?_
    refine W.end ?_
    refine NX.sub (env' := [(5, _), (6, _), (8, _), (35, _)]) ⟨rfl, rfl, rfl, rfl, trivial⟩ ?_
    refine NX.then ?_
    refine Tr.cond (.t rfl) (fun hb => ?_) (fun hb => ?_)
    · have hr := cond_t hb hr
      refine Tr.seq ?_
      refine Tr.region_f (fun _ => false) ?_
      refine W.q rfl rfl rfl rfl (by decide) (Yd.mv rfl (.t rfl)) ?_
      refine W.q rfl rfl rfl rfl (by decide) (Yd.eql rfl (.t rfl) .c) ?_
      refine W.q rfl rfl rfl rfl (by decide) (Yd.mv rfl (.t rfl)) ?_
      refine W.g rfl rfl rfl rfl rfl (.t rfl _) rfl (by decide) (fun hG => Yd.mv rfl (.t rfl)) ?_
      refine W.g rfl rfl rfl rfl rfl (.t rfl _) rfl (by decide) (fun hG => Yd.eqlU (a := r1.1) (b := 0#32) rfl (.g rfl hG) .c) ?_
      refine W.q rfl rfl rfl rfl (by decide) (Yd.and rfl (.t rfl) .c rfl rfl) ?_
      refine W.q rfl rfl rfl rfl (by decide) (Yd.as rfl (.t rfl)) ?_
      refine W.end ?_
      refine NX.sub (env' := [(4, _)]) ⟨rfl, trivial⟩ ?_
      refine NX.then ?_
      refine Tr.ret' (RT.then ?_)
      refine res1 rfl rfl ?_
      intro w hc
      cases hr
      exact ⟨rfl, hc⟩
    · have hr := cond_f hb hr
      refine Tr.skip' ?_
      refine NX.then ?_
      refine Tr.seq ?_
      refine Tr.region_f (fun _ => false) ?_
      refine W.q rfl rfl rfl rfl (by decide) (Yd.mv rfl (.t rfl)) ?_
      refine W.q rfl rfl rfl rfl (by decide) (Yd.eql rfl (.t rfl) .c) ?_
      refine W.q rfl rfl rfl rfl (by decide) (Yd.mv rfl (.t rfl)) ?_
      refine W.g rfl rfl rfl rfl rfl (.t rfl _) rfl (by decide) (fun hG => Yd.mv rfl (.t rfl)) ?_
      refine W.g rfl rfl rfl rfl rfl (.t rfl _) rfl (by decide) (fun hG => Yd.mv rfl (.t rfl)) ?_
      refine W.g rfl rfl rfl rfl rfl (.t rfl _) rfl (by decide) (fun hG => Yd.eqlU (a := r1.1) (b := r5.1) rfl (.g rfl hG) (.g rfl hG)) ?_
      refine W.q rfl rfl rfl rfl (by decide) (Yd.and rfl (.t rfl) .c rfl rfl) ?_
      refine W.q rfl rfl rfl rfl (by decide) (Yd.as rfl (.t rfl)) ?_
      refine W.end ?_
      refine NX.sub (env' := [(4, _)]) ⟨rfl, trivial⟩ ?_
      refine NX.then ?_
      refine Tr.ret' ?_
      refine res1 rfl rfl ?_
      intro w hc
      cases hr
      exact ⟨rfl, hc⟩

def two_literals (n_0 : Int) (c_1 : Clause) : Option ((BitVec 32)) :=
  bif decide (0 ≤ n_0) then
  some ((c_1.yes ||| (c_1.no <<< n_0.toNat))) else none

set_option maxRecDepth 100000 in
theorem two_literals_ok (w0 : World) (m : Snap) (l : List HI) (n_0 : Int) (c_1 : Clause) (r : (BitVec 32)) (hr : two_literals n_0 c_1 = some r) (w : World) (hc : cX w0 ⟨m, l⟩ w) :
    Calls Try.prog 68 [.int .i64 n_0, .agg #[.int .u32 (c_1.yes.toNat : Int), .int .u32 (c_1.no.toNat : Int)]].toArray w fun e w' => e = .returned (.int .u32 (r.toNat : Int)) ∧ cX w0 ⟨m, l⟩ w' := by
  unfold two_literals at hr
  refine calls_of_Tr (N := 12) Try.func68 rfl hc rfl (Nat.le_of_ble_eq_true rfl) ?_
  refine Tr.seq ?_
  refine Tr.region_f (fun i => Nat.beq i 0) ?_
  refine W.e rfl rfl rfl rfl (by decide) (Ef.bx rfl (.t rfl) rfl) ?_
  rintro _ _ ⟨b1, rfl, rfl⟩
  refine ⟨.inl rfl, ?_⟩
  refine W.cast (m' := m) (l' := hcells b1 [_, _] 46 :: l) rfl rfl ?_
  refine W.q rfl rfl rfl rfl (by decide) (Yd.as rfl .c) ?_
  refine W.end ?_
  refine NX.sub (env' := [(0, _), (3, _)]) ⟨rfl, rfl, trivial⟩ ?_
  refine NX.then ?_
  refine Tr.seq ?_
  obtain ⟨hq3, hr⟩ := guard_some hr; replace hq3 := of_decide_eq_true hq3
  refine Tr.region_x (fun _ => false) (fun _ => false) (Ord.of [0, 1, 2, 3, 4, 5, 6, 7]) FM (by kernel_rfl) ?_
  refine W.q rfl rfl rfl rfl (by decide) (Yd.fldB rfl Try.underlying46 rfl SZ41 rfl (.t rfl)) ?_
  refine W.q rfl rfl rfl rfl (by decide) (Yd.ldB (pos := 0) rfl rfl rfl ON41 (.t rfl)) ?_
  refine W.q rfl rfl rfl rfl (by decide) (Yd.fldB rfl Try.underlying46 rfl SZ41 rfl (.t rfl)) ?_
  refine W.q rfl rfl rfl rfl (by decide) (Yd.ldB (pos := 0) rfl rfl rfl ON41 (.t rfl)) ?_
  refine W.q rfl rfl rfl rfl (by decide) (Yd.mv rfl (.t rfl)) ?_
  refine W.q rfl rfl rfl rfl (by decide) (Yd.shlU (a := c_1.no) rfl (.t rfl) (.t rfl) hq3) ?_
  refine W.q rfl rfl rfl rfl (by decide) (Yd.orU (a := c_1.yes) (b := (c_1.no <<< n_0.toNat)) rfl (.t rfl) (.t rfl)) ?_
  refine W.q rfl rfl rfl rfl (by decide) (Yd.as rfl (.t rfl)) ?_
  refine W.end ?_
  refine NX.sub (env' := [(4, _)]) ⟨rfl, trivial⟩ ?_
  refine NX.drop (l' := l) (.cons _ (.refl _)) ?_
  refine NX.then ?_
  refine Tr.ret' ?_
  refine res1 rfl rfl ?_
  intro w hc
  cases hr
  exact ⟨rfl, hc⟩

def two_reach_k36 (l34 : List (BitVec 32)) : Option ((List (BitVec 32)) × Int) :=
  some ((l34, (0 : Int)))

def two_reach_k51 (nx41 : ((List (BitVec 32)) → Option ((List (BitVec 32)) × Int))) (l49 : List (BitVec 32)) : Option ((List (BitVec 32)) × Int) :=
  nx41 l49

def two_reach_b55 (t_39 : Int) (t_54 : Int) (l47 : List (BitVec 32)) (nx56 : (List (BitVec 32)) → Option ((List (BitVec 32)) × Int)) : Option ((List (BitVec 32)) × Int) :=
  (geti l47 t_54).bind fun y58 =>
  (bif (((y58 >>> t_39.toNat) &&& 1#32) == 1#32) then
  (geti l47 t_54).bind fun y60 =>
  (geti l47 t_39).bind fun y62 =>
  nx56 (l47.set t_54.toNat ((y60 ||| y62)))
  else
  nx56 l47)

def two_reach_b40 (t_39 : Int) (l32 : List (BitVec 32)) (nx41 : (List (BitVec 32)) → Option ((List (BitVec 32)) × Int)) : Option ((List (BitVec 32)) × Int) :=
  forK (σ := (List (BitVec 32))) (fun i s nx_ => two_reach_b55 t_39 i s nx_) (fun s => two_reach_k51 nx41 s) ((l32.length : Int) - (0 : Int)).toNat (0 : Int) l32

def two_reach_k26 (l24 : List (BitVec 32)) : Option ((List (BitVec 32)) × Int) :=
  forK (σ := (List (BitVec 32))) (fun i s nx_ => two_reach_b40 i s nx_) (fun s => two_reach_k36 s) ((l24.length : Int) - (0 : Int)).toNat (0 : Int) l24

def two_reach_k85 (nx67 : ((List (BitVec 32)) → Option ((List (BitVec 32)) × Int))) (l83 : List (BitVec 32)) : Option ((List (BitVec 32)) × Int) :=
  nx67 l83

def two_reach_k93 (n_0 : Int) (t_88 : Int) (l81 : List (BitVec 32)) (nx90 : ((List (BitVec 32)) → Option ((List (BitVec 32)) × Int))) (other_92 : BitVec 32) : Option ((List (BitVec 32)) × Int) :=
  bif decide ((w64 ((2 : Int) * n_0)) ≠ 0) then
  (geti l81 ((((w64 (t_88 + n_0))).tmod ((w64 ((2 : Int) * n_0)))))).bind fun y96 =>
  nx90 (l81.set ((((w64 (t_88 + n_0))).tmod ((w64 ((2 : Int) * n_0))))).toNat ((y96 ||| other_92))) else none

def two_reach_b89 (n_0 : Int) (r73 : (BitVec 32)) (r75 : Int) (t_88 : Int) (l81 : List (BitVec 32)) (nx90 : (List (BitVec 32)) → Option ((List (BitVec 32)) × Int)) : Option ((List (BitVec 32)) × Int) :=
  (bif (((r73 >>> t_88.toNat) &&& 1#32) == 0#32) then
  nx90 l81
  else
  (bif (r75 == (1 : Int)) then
  two_reach_k93 n_0 t_88 l81 nx90 r73
  else
  two_reach_k93 n_0 t_88 l81 nx90 ((r73 &&& ~~~(1#32 <<< t_88.toNat)))))

def two_reach_b66 (n_0 : Int) (l_1 : List Clause) (t_65 : Int) (l22 : List (BitVec 32)) (nx67 : (List (BitVec 32)) → Option ((List (BitVec 32)) × Int)) : Option ((List (BitVec 32)) × Int) :=
  (geti l_1 t_65).bind fun y69 =>
  (two_literals n_0 (({ yes := y69.yes, no := y69.no } : Clause))).bind fun r73 =>
  (math_bits_OnesCount32 r73).bind fun r75 =>
  (bif ((r75 == (0 : Int)) || (decide (r75 > (2 : Int)))) then
  some (([], (3 : Int)))
  else
  forK (σ := (List (BitVec 32))) (fun i s nx_ => two_reach_b89 n_0 r73 r75 i s nx_) (fun s => two_reach_k85 nx67 s) ((l22.length : Int) - (0 : Int)).toNat (0 : Int) l22)

def two_reach_k16 (n_0 : Int) (l_1 : List Clause) (l14 : List (BitVec 32)) : Option ((List (BitVec 32)) × Int) :=
  forK (σ := (List (BitVec 32))) (fun i s nx_ => two_reach_b66 n_0 l_1 i s nx_) (fun s => two_reach_k26 s) ((l_1.length : Int) - (0 : Int)).toNat (0 : Int) l14

def two_reach_b100 (t_99 : Int) (l12 : List (BitVec 32)) (nx101 : (List (BitVec 32)) → Option ((List (BitVec 32)) × Int)) : Option ((List (BitVec 32)) × Int) :=
  (geti l12 t_99).bind fun y103 =>
  nx101 (l12.set t_99.toNat ((1#32 <<< t_99.toNat)))

def two_reach_k3 (n_0 : Int) (l_1 : List Clause) : Option ((List (BitVec 32)) × Int) :=
  bif decide (0 ≤ (w64 ((2 : Int) * n_0)) ∧ (w64 ((2 : Int) * n_0)) ≤ 1048576) then
  forK (σ := (List (BitVec 32))) (fun i s nx_ => two_reach_b100 i s nx_) (fun s => two_reach_k16 n_0 l_1 s) ((((List.replicate ((w64 ((2 : Int) * n_0))).toNat (0#32))).length : Int) - (0 : Int)).toNat (0 : Int) ((List.replicate ((w64 ((2 : Int) * n_0))).toNat (0#32))) else none

def two_reach_b107 (n_0 : Int) (l_1 : List Clause) (t_106 : Int) (nx108 : Unit → Option ((List (BitVec 32)) × Int)) : Option ((List (BitVec 32)) × Int) :=
  (geti l_1 t_106).bind fun y110 =>
  bif decide (0 ≤ n_0) then
  (bif (((y110.yes ||| y110.no) >>> n_0.toNat) != 0#32) then
  some (([], (4 : Int)))
  else
  nx108 ()) else none

def two_reach (n_0 : Int) (l_1 : List Clause) : Option ((List (BitVec 32)) × Int) :=
  (bif (((decide (n_0 < (1 : Int))) || (decide (n_0 > (6 : Int)))) || (decide ((l_1.length : Int) > (16 : Int)))) then
  some (([], (1 : Int)))
  else
  forK (σ := Unit) (fun i s nx_ => two_reach_b107 n_0 l_1 i nx_) (fun _ => two_reach_k3 n_0 l_1) ((l_1.length : Int) - (0 : Int)).toNat (0 : Int) ())

set_option maxRecDepth 100000 in
theorem two_reach_ok (w0 : World) (m : Snap) (l : List HI) (n_0 : Int) (ul_1 : Value) (l_1 : List Clause) (hl_1 : RS rClause m ul_1 l_1) (r : (List (BitVec 32)) × Int) (hr : two_reach n_0 l_1 = some r) (w : World) (hc : cX w0 ⟨m, l⟩ w) :
    Calls Try.prog 55 [.int .i64 n_0, ul_1].toArray w fun e w' => ∃ z0 : Value, e = .returned (.tuple #[z0, .int .i64 r.2]) ∧ cX w0 ⟨m, hownT 41 1 encU z0 r.1 :: l⟩ w' := by
  unfold two_reach at hr
  refine calls_of_Tr (N := 137) Try.func55 rfl hc rfl (Nat.le_of_ble_eq_true rfl) ?_
  refine Tr.seq ?_
  refine Tr.region_f (fun _ => false) ?_
  refine W.q rfl rfl rfl rfl (by decide) (Yd.as rfl .c) ?_
  refine W.q rfl rfl rfl rfl (by decide) (Yd.as rfl .c) ?_
  refine W.end ?_
  refine NX.sub (env' := [(0, _), (1, _)]) ⟨rfl, rfl, trivial⟩ ?_
  refine NX.then ?_
  refine Tr.seq ?_
  refine Tr.seq ?_
  refine Tr.region_f (fun _ => false) ?_
  refine W.q rfl rfl rfl rfl (by decide) (Yd.mv rfl (.t rfl)) ?_
  refine W.q rfl rfl rfl rfl (by decide) (Yd.lss rfl (.t rfl) .c) ?_
  refine W.q rfl rfl rfl rfl (by decide) (Yd.mv rfl (.t rfl)) ?_
  refine W.g rfl rfl rfl rfl rfl (.t rfl _) rfl (by decide) (fun hG => Yd.mv rfl (.t rfl)) ?_
  refine W.g rfl rfl rfl rfl rfl (.t rfl _) rfl (by decide) (fun hG => Yd.gtr rfl (.g rfl hG) .c) ?_
  refine W.q rfl rfl rfl rfl (by decide) (Yd.or rfl (.t rfl) .c rfl rfl) ?_
  refine W.q rfl rfl rfl rfl (by decide) (Yd.mv rfl (.t rfl)) ?_
  refine W.g rfl rfl rfl rfl rfl (.t rfl _) rfl (by decide) (fun hG => Yd.mv rfl (.t rfl)) ?_
  refine W.g rfl rfl rfl rfl rfl (.t rfl _) rfl (by decide) (fun hG => Yd.lenR hl_1 rfl Try.underlying40 (.g rfl hG)) ?_
  refine W.g rfl rfl rfl rfl rfl (.t rfl _) rfl (by decide) (fun hG => Yd.gtr rfl (.g rfl hG) .c) ?_
  refine W.q rfl rfl rfl rfl (by decide) (Yd.or rfl (.t rfl) .c rfl rfl) ?_
  refine W.end ?_
  refine NX.sub (env' := [(0, _), (1, _), (28, _)]) ⟨rfl, rfl, rfl, trivial⟩ ?_
  refine NX.then ?_
  refine Tr.cond (.t rfl) (fun hb => ?_) (fun hb => ?_)
  · have hr := cond_t hb hr
    refine Tr.seq ?_
    refine Tr.region_f (fun _ => false) ?_
    refine W.q rfl rfl rfl rfl (by decide) (Yd.as rfl .c) ?_
    refine W.q rfl rfl rfl rfl (by decide) (Yd.as rfl .c) ?_
    refine W.end ?_
    refine NX.sub (env' := [(4, _), (5, _)]) ⟨rfl, rfl, trivial⟩ ?_
    refine NX.then ?_
    refine Tr.ret' (RT.then ?_)
    refine res2 rfl rfl rfl ?_
    intro w hc
    cases hr
    exact ⟨_, rfl, (cX_nil hc)⟩
  · have hr := cond_f hb hr
    refine Tr.skip' ?_
    refine NX.then ?_
    refine Tr.seq ?_
    refine Tr.seq ?_
    refine Tr.region_f (fun _ => false) ?_
    refine W.q rfl rfl rfl rfl (by decide) (Yd.mv rfl (.t rfl)) ?_
    refine W.q rfl rfl rfl rfl (by decide) (Yd.lenR hl_1 rfl Try.underlying40 (.t rfl)) ?_
    refine W.q rfl rfl rfl rfl (by decide) (Yd.mv rfl .c) ?_
    refine W.end ?_
    refine NX.sub (env' := [(0, _), (1, _), (29, _), (30, _), (31, _)]) ⟨rfl, rfl, rfl, rfl, rfl, trivial⟩ ?_
    refine NX.then ?_
    refine Tr.join (S := fun env x => env = [(0, .int .i64 n_0), (1, ul_1)] ∧ x = ⟨m, l⟩ ∧ two_reach_k3 n_0 l_1 = some r) ?_ (fun hk4 => ?_)
    · rintro _ _ ⟨rfl, rfl, hr⟩
      unfold two_reach_k3 at hr
      try dsimp only at hr
      refine NX.then ?_
      refine Tr.seq ?_
      obtain ⟨hq5, hr⟩ := guard_some hr; replace hq5 := of_decide_eq_true hq5
      refine Tr.region_f (fun i => Nat.beq i 2) ?_
      refine W.q rfl rfl rfl rfl (by decide) (Yd.mv rfl (.t rfl)) ?_
      refine W.q rfl rfl rfl rfl (by decide) (Yd.mul rfl .c (.t rfl)) ?_
      refine W.e rfl rfl rfl rfl (by decide) (Ef.mkT (enc := encU) (0#32) IF41 rfl Try.underlying57 rfl rfl (by decide) (.t rfl) (.t rfl) (by omega) (by omega) (by omega)) ?_
      rintro v6 _ rfl
      refine ⟨.inl rfl, ?_⟩
      refine W.cast (m' := m) (l' := hownT 41 1 encU v6 _ :: l) rfl rfl ?_
      refine W.q rfl rfl rfl rfl (by decide) (Yd.as rfl (.t rfl)) ?_
      refine W.end ?_
      refine NX.sub (env' := [(0, _), (1, _), (8, _)]) ⟨rfl, rfl, rfl, trivial⟩ ?_
      refine NX.then ?_
      refine Tr.seq ?_
      refine Tr.seq ?_
      refine Tr.region_f (fun _ => false) ?_
      refine W.q rfl rfl rfl rfl (by decide) (Yd.mv rfl (.t rfl)) ?_
      refine W.q rfl rfl rfl rfl (by decide) (Yd.lenO (p := 0) rfl rfl Try.underlying57 (.t rfl)) ?_
      refine W.q rfl rfl rfl rfl (by decide) (Yd.mv rfl .c) ?_
      refine W.end ?_
      refine NX.sub (env' := [(0, _), (1, _), (8, _), (48, _), (49, _)]) ⟨rfl, rfl, rfl, rfl, rfl, trivial⟩ ?_
      refine NX.then ?_
      refine Tr.join (S := fun env x => ∃ l14 : List (BitVec 32), ∃ v15 : Value, env = [(0, .int .i64 n_0), (1, ul_1), (8, v15)] ∧ x = ⟨m, hownT 41 1 encU v15 l14 :: l⟩ ∧ two_reach_k16 n_0 l_1 l14 = some r) ?_ (fun hk17 => ?_)
      · rintro _ _ ⟨l14, v15, rfl, rfl, hr⟩
        unfold two_reach_k16 at hr
        try dsimp only at hr
        refine NX.then ?_
        refine Tr.seq ?_
        refine Tr.seq ?_
        refine Tr.region_f (fun _ => false) ?_
        refine W.q rfl rfl rfl rfl (by decide) (Yd.mv rfl (.t rfl)) ?_
        refine W.q rfl rfl rfl rfl (by decide) (Yd.lenR hl_1 rfl Try.underlying40 (.t rfl)) ?_
        refine W.q rfl rfl rfl rfl (by decide) (Yd.mv rfl .c) ?_
        refine W.end ?_
        refine NX.sub (env' := [(0, _), (8, _), (58, _), (59, _), (60, _)]) ⟨rfl, rfl, rfl, rfl, rfl, trivial⟩ ?_
        refine NX.then ?_
        refine Tr.join (S := fun env x => ∃ l24 : List (BitVec 32), ∃ v25 : Value, env = [(8, v25)] ∧ x = ⟨m, hownT 41 1 encU v25 l24 :: l⟩ ∧ two_reach_k26 l24 = some r) ?_ (fun hk27 => ?_)
        · rintro _ _ ⟨l24, v25, rfl, rfl, hr⟩
          unfold two_reach_k26 at hr
          try dsimp only at hr
          refine NX.then ?_
          refine Tr.seq ?_
          refine Tr.seq ?_
          refine Tr.region_f (fun _ => false) ?_
          refine W.q rfl rfl rfl rfl (by decide) (Yd.mv rfl (.t rfl)) ?_
          refine W.q rfl rfl rfl rfl (by decide) (Yd.lenO (p := 0) rfl rfl Try.underlying57 (.t rfl)) ?_
          refine W.q rfl rfl rfl rfl (by decide) (Yd.mv rfl .c) ?_
          refine W.end ?_
          refine NX.sub (env' := [(8, _), (107, _), (108, _)]) ⟨rfl, rfl, rfl, trivial⟩ ?_
          refine NX.then ?_
          refine Tr.join (S := fun env x => ∃ l34 : List (BitVec 32), ∃ v35 : Value, env = [(8, v35)] ∧ x = ⟨m, hownT 41 1 encU v35 l34 :: l⟩ ∧ two_reach_k36 l34 = some r) ?_ (fun hk37 => ?_)
          · rintro _ _ ⟨l34, v35, rfl, rfl, hr⟩
            unfold two_reach_k36 at hr
            try dsimp only at hr
            refine NX.then ?_
            refine Tr.seq ?_
            refine Tr.region_f (fun _ => false) ?_
            refine W.q rfl rfl rfl rfl (by decide) (Yd.mv rfl (.t rfl)) ?_
            refine W.q rfl rfl rfl rfl (by decide) (Yd.as rfl (.t rfl)) ?_
            refine W.q rfl rfl rfl rfl (by decide) (Yd.as rfl .c) ?_
            refine W.end ?_
            refine NX.sub (env' := [(4, _), (5, _)]) ⟨rfl, rfl, trivial⟩ ?_
            refine NX.then ?_
            refine Tr.ret' ?_
            refine res2 rfl rfl rfl ?_
            intro w hc
            cases hr
            exact ⟨_, rfl, hc⟩
          refine Tr.lenO (pos := 0) rfl (fun hlen38 => ?_)
          refine Tr.block ?_
          refine Tr.sub (env' := [(8, _), (107, _), (108, _)]) ⟨rfl, rfl, rfl, trivial⟩ ?_
          refine Tr.loop (S := fun n (z : Int × (List (BitVec 32))) env x => match z with | (t_39, l32) => ∃ v33 : Value, env = [(8, v33), (107, .int .i64 ((l24.length : Int))), (108, .int .i64 t_39)] ∧ x = ⟨m, hownT 41 1 encU v33 l32 :: l⟩ ∧ n = ((l24.length : Int) - t_39).toNat ∧ 0 ≤ t_39 ∧ forK (σ := (List (BitVec 32))) (fun i s nx_ => two_reach_b40 i s nx_) (fun s => two_reach_k36 s) n t_39 l32 = some r) _ ((0 : Int), l24) ⟨_, rfl, rfl, rfl, (by omega), hr⟩ ?_
          rintro n42 ⟨t_39, l32⟩ env x ⟨v33, rfl, rfl, hnt_39, h0t_39, hr⟩
          cases n42 with
          | zero =>
            simp only [forK] at hr
            refine Tr.seq ?_
            refine Tr.region_f (fun _ => false) ?_
            refine W.q rfl rfl rfl rfl (by decide) (Yd.lss rfl (.t rfl) (.t rfl)) ?_
            refine W.end ?_
            refine NX.sub (env' := [(8, _), (107, _), (108, _), (109, _)]) ⟨rfl, rfl, rfl, rfl, trivial⟩ ?_
            refine NX.then ?_
            refine Tr.seq ?_
            refine Tr.cond (.t rfl) (fun hb => ?_) (fun hb => ?_)
            · exact absurd (hb.symm.trans (fr_end hnt_39)) (by decide)
            ·
              refine Tr.exit' (EX.then (EX.then (EX.block ?_)))
              refine NX.sub (env' := [(8, _)]) ⟨rfl, trivial⟩ ?_
              exact hk37 _ _ ⟨_, _, rfl, rfl, hr⟩
          | succ n42 =>
            obtain ⟨nx41, hnx41, hr⟩ := forK_succ hr
            try dsimp only at hr
            unfold two_reach_b40 at hr
            try dsimp only at hr
            have hltt_39 := fr_bnd hnt_39
            refine Tr.seq ?_
            refine Tr.region_f (fun _ => false) ?_
            refine W.q rfl rfl rfl rfl (by decide) (Yd.lss rfl (.t rfl) (.t rfl)) ?_
            refine W.end ?_
            refine NX.sub (env' := [(8, _), (107, _), (108, _), (109, _)]) ⟨rfl, rfl, rfl, rfl, trivial⟩ ?_
            refine NX.then ?_
            refine Tr.seq ?_
            refine Tr.cond (.t rfl) (fun hb => ?_) (fun hb => ?_)
            rotate_left
            · exact absurd (hb.symm.trans (fr_go hnt_39)) (by decide)
            ·
              refine Tr.skip' ?_
              refine NX.then ?_
              refine Tr.seq ?_
              refine Tr.block ?_
              refine Tr.seq ?_
              refine Tr.region_f (fun _ => false) ?_
              refine W.q rfl rfl rfl rfl (by decide) (Yd.mv rfl (.t rfl)) ?_
              refine W.q rfl rfl rfl rfl (by decide) (Yd.as rfl (.t rfl)) ?_
              refine W.end ?_
              refine NX.sub (env' := [(8, _), (107, _), (108, _), (16, _)]) ⟨rfl, rfl, rfl, rfl, trivial⟩ ?_
              refine NX.then ?_
              refine Tr.seq ?_
              refine Tr.region_f (fun _ => false) ?_
              refine W.q rfl rfl rfl rfl (by decide) (Yd.mv rfl (.t rfl)) ?_
              refine W.q rfl rfl rfl rfl (by decide) (Yd.lenO (p := 0) rfl rfl Try.underlying57 (.t rfl)) ?_
              refine W.q rfl rfl rfl rfl (by decide) (Yd.mv rfl .c) ?_
              refine W.end ?_
              refine NX.sub (env' := [(8, _), (107, _), (108, _), (16, _), (112, _), (113, _)]) ⟨rfl, rfl, rfl, rfl, rfl, rfl, trivial⟩ ?_
              refine NX.then ?_
              refine Tr.join (S := fun env x => ∃ l49 : List (BitVec 32), ∃ v50 : Value, env = [(8, v50), (107, .int .i64 ((l24.length : Int))), (108, .int .i64 t_39)] ∧ x = ⟨m, hownT 41 1 encU v50 l49 :: l⟩ ∧ two_reach_k51 nx41 l49 = some r) ?_ (fun hk52 => ?_)
              · rintro _ _ ⟨l49, v50, rfl, rfl, hr⟩
                unfold two_reach_k51 at hr
                try dsimp only at hr
                refine NX.block ?_
                refine NX.then ?_
                refine Tr.region_f (fun _ => false) ?_
                refine W.q rfl rfl rfl rfl (by decide) (Yd.add rfl (.t rfl) .c) ?_
                refine W.q rfl rfl rfl rfl (by decide) (Yd.mv rfl (.t rfl)) ?_
                refine W.end ?_
                refine NX.sub (env' := [(8, _), (107, _), (108, _)]) ⟨rfl, rfl, rfl, trivial⟩ ?_
                refine NX.sub (env' := [(8, _), (107, _), (108, _)]) ⟨rfl, rfl, rfl, trivial⟩ ?_
                have hw := w64_id (n := t_39 + 1) (by omega) (by omega)
                exact NX.again n42 (t_39 + 1, l49) (Nat.lt_succ_self _) ⟨_, (by rw [hw] <;> rfl), rfl, (fr_dec hnt_39), (by omega), ((hnx41 _).symm.trans hr)⟩
              refine Tr.lenO (pos := 0) rfl (fun hlen53 => ?_)
              refine Tr.block ?_
              refine Tr.sub (env' := [(8, _), (16, _), (107, _), (108, _), (112, _), (113, _)]) ⟨rfl, rfl, rfl, rfl, rfl, rfl, trivial⟩ ?_
              refine Tr.loop (S := fun n (z : Int × (List (BitVec 32))) env x => match z with | (t_54, l47) => ∃ v48 : Value, env = [(8, v48), (16, .int .i64 t_39), (107, .int .i64 ((l24.length : Int))), (108, .int .i64 t_39), (112, .int .i64 ((l32.length : Int))), (113, .int .i64 t_54)] ∧ x = ⟨m, hownT 41 1 encU v48 l47 :: l⟩ ∧ n = ((l32.length : Int) - t_54).toNat ∧ 0 ≤ t_54 ∧ forK (σ := (List (BitVec 32))) (fun i s nx_ => two_reach_b55 t_39 i s nx_) (fun s => two_reach_k51 nx41 s) n t_54 l47 = some r) _ ((0 : Int), l32) ⟨_, rfl, rfl, rfl, (by omega), hr⟩ ?_
              rintro n57 ⟨t_54, l47⟩ env x ⟨v48, rfl, rfl, hnt_54, h0t_54, hr⟩
              cases n57 with
              | zero =>
                simp only [forK] at hr
                refine Tr.seq ?_
                refine Tr.region_f (fun _ => false) ?_
                refine W.q rfl rfl rfl rfl (by decide) (Yd.lss rfl (.t rfl) (.t rfl)) ?_
                refine W.end ?_
                refine NX.sub (env' := [(8, _), (16, _), (107, _), (108, _), (112, _), (113, _), (114, _)]) ⟨rfl, rfl, rfl, rfl, rfl, rfl, rfl, trivial⟩ ?_
                refine NX.then ?_
                refine Tr.seq ?_
                refine Tr.cond (.t rfl) (fun hb => ?_) (fun hb => ?_)
                · exact absurd (hb.symm.trans (fr_end hnt_54)) (by decide)
                ·
                  refine Tr.exit' (EX.then (EX.then (EX.block ?_)))
                  refine NX.sub (env' := [(8, _), (107, _), (108, _)]) ⟨rfl, rfl, rfl, trivial⟩ ?_
                  exact hk52 _ _ ⟨_, _, rfl, rfl, hr⟩
              | succ n57 =>
                obtain ⟨nx56, hnx56, hr⟩ := forK_succ hr
                try dsimp only at hr
                unfold two_reach_b55 at hr
                try dsimp only at hr
                have hltt_54 := fr_bnd hnt_54
                refine Tr.seq ?_
                refine Tr.region_f (fun _ => false) ?_
                refine W.q rfl rfl rfl rfl (by decide) (Yd.lss rfl (.t rfl) (.t rfl)) ?_
                refine W.end ?_
                refine NX.sub (env' := [(8, _), (16, _), (107, _), (108, _), (112, _), (113, _), (114, _)]) ⟨rfl, rfl, rfl, rfl, rfl, rfl, rfl, trivial⟩ ?_
                refine NX.then ?_
                refine Tr.seq ?_
                refine Tr.cond (.t rfl) (fun hb => ?_) (fun hb => ?_)
                rotate_left
                · exact absurd (hb.symm.trans (fr_go hnt_54)) (by decide)
                ·
                  refine Tr.skip' ?_
                  refine NX.then ?_
                  refine Tr.seq ?_
                  refine Tr.block ?_
                  refine Tr.seq ?_
                  refine Tr.region_f (fun _ => false) ?_
                  refine W.q rfl rfl rfl rfl (by decide) (Yd.mv rfl (.t rfl)) ?_
                  refine W.q rfl rfl rfl rfl (by decide) (Yd.as rfl (.t rfl)) ?_
                  refine W.end ?_
                  refine NX.sub (env' := [(8, _), (16, _), (107, _), (108, _), (112, _), (113, _), (17, _)]) ⟨rfl, rfl, rfl, rfl, rfl, rfl, rfl, trivial⟩ ?_
                  refine NX.then ?_
                  refine Tr.seq ?_
                  obtain ⟨y58, hy59, hr⟩ := bind_some hr
                  refine Tr.region_f (fun _ => false) ?_
                  refine W.q rfl rfl rfl rfl (by decide) (Yd.mv rfl (.t rfl)) ?_
                  refine W.q rfl rfl rfl rfl (by decide) (Yd.mv rfl (.t rfl)) ?_
                  refine W.q rfl rfl rfl rfl (by decide) (Yd.idxT (pos := 0) rfl hy59 rfl Try.underlying57 SZ41 (.t rfl) (.t rfl)) ?_
                  refine W.q rfl rfl rfl rfl (by decide) (Yd.ldT (enc := encU) (n := 1) (pos := 0) (fun _ => rfl) rfl hy59 rfl rfl ON41 (.t rfl)) ?_
                  refine W.q rfl rfl rfl rfl (by decide) (Yd.mv rfl (.t rfl)) ?_
                  refine W.q rfl rfl rfl rfl (by decide) (Yd.shrU (a := y58) rfl (.t rfl) (.t rfl) h0t_39) ?_
                  refine W.q rfl rfl rfl rfl (by decide) (Yd.andU (a := (y58 >>> t_39.toNat)) (b := 1#32) rfl (.t rfl) .c) ?_
                  refine W.q rfl rfl rfl rfl (by decide) (Yd.eqlU (a := ((y58 >>> t_39.toNat) &&& 1#32)) (b := 1#32) rfl (.t rfl) .c) ?_
                  refine W.end ?_
                  refine NX.sub (env' := [(8, _), (16, _), (107, _), (108, _), (112, _), (113, _), (17, _), (123, _)]) ⟨rfl, rfl, rfl, rfl, rfl, rfl, rfl, rfl, trivial⟩ ?_
                  refine NX.then ?_
                  refine Tr.cond (.t rfl) (fun hb => ?_) (fun hb => ?_)
                  · have hr := cond_t hb hr
                    obtain ⟨y60, hy61, hr⟩ := bind_some hr
                    obtain ⟨y62, hy63, hr⟩ := bind_some hr
                    refine Tr.region_x (fun i => Nat.beq i 10) (fun i => Nat.beq i 10) (Ord.of [0, 1, 2, 3, 4, 5, 6, 7, 8, 9, 10]) FM (by kernel_rfl) ?_
                    refine W.q rfl rfl rfl rfl (by decide) (Yd.mv rfl (.t rfl)) ?_
                    refine W.q rfl rfl rfl rfl (by decide) (Yd.mv rfl (.t rfl)) ?_
                    refine W.q rfl rfl rfl rfl (by decide) (Yd.idxT (pos := 0) rfl hy61 rfl Try.underlying57 SZ41 (.t rfl) (.t rfl)) ?_
                    refine W.q rfl rfl rfl rfl (by decide) (Yd.ldT (enc := encU) (n := 1) (pos := 0) (fun _ => rfl) rfl hy61 rfl rfl ON41 (.t rfl)) ?_
                    refine W.q rfl rfl rfl rfl (by decide) (Yd.mv rfl (.t rfl)) ?_
                    refine W.q rfl rfl rfl rfl (by decide) (Yd.mv rfl (.t rfl)) ?_
                    refine W.q rfl rfl rfl rfl (by decide) (Yd.idxT (pos := 0) rfl hy63 rfl Try.underlying57 SZ41 (.t rfl) (.t rfl)) ?_
                    refine W.q rfl rfl rfl rfl (by decide) (Yd.ldT (enc := encU) (n := 1) (pos := 0) (fun _ => rfl) rfl hy63 rfl rfl ON41 (.t rfl)) ?_
                    refine W.q rfl rfl rfl rfl (by decide) (Yd.orU (a := y60) (b := y62) rfl (.t rfl) (.t rfl)) ?_
                    refine W.q rfl rfl rfl rfl (by decide) (Yd.idxT (pos := 0) rfl hy61 rfl Try.underlying57 SZ41 (.t rfl) (.t rfl)) ?_
                    refine W.s rfl rfl rfl rfl (Ef.stT (enc := encU) (n := 1) (pos := 0) (y := (y60 ||| y62)) (us := [_]) (fun _ => rfl) rfl hy61 rfl (.t rfl) (.t rfl) SZ41 rfl rfl rfl (by decide)) ?_
                    rintro _ _ ⟨rfl, rfl⟩
                    refine ⟨.inl rfl, ?_⟩
                    refine W.cast (m' := m) (l' := hownT 41 1 encU v48 _ :: l) rfl rfl ?_
                    refine W.end ?_
                    refine NX.sub (env' := [(8, _), (16, _), (107, _), (108, _), (112, _), (113, _)]) ⟨rfl, rfl, rfl, rfl, rfl, rfl, trivial⟩ ?_
                    refine NX.block ?_
                    refine NX.then ?_
                    refine Tr.region_f (fun _ => false) ?_
                    refine W.q rfl rfl rfl rfl (by decide) (Yd.add rfl (.t rfl) .c) ?_
                    refine W.q rfl rfl rfl rfl (by decide) (Yd.mv rfl (.t rfl)) ?_
                    refine W.end ?_
                    refine NX.sub (env' := [(8, _), (16, _), (107, _), (108, _), (112, _), (113, _)]) ⟨rfl, rfl, rfl, rfl, rfl, rfl, trivial⟩ ?_
                    refine NX.sub (env' := [(8, _), (16, _), (107, _), (108, _), (112, _), (113, _)]) ⟨rfl, rfl, rfl, rfl, rfl, rfl, trivial⟩ ?_
                    have hw := w64_id (n := t_54 + 1) (by omega) (by omega)
                    exact NX.again n57 (t_54 + 1, (l47.set t_54.toNat ((y60 ||| y62)))) (Nat.lt_succ_self _) ⟨_, (by rw [hw] <;> rfl), rfl, (fr_dec hnt_54), (by omega), ((hnx56 _).symm.trans hr)⟩
                  · have hr := cond_f hb hr
                    refine Tr.skip' ?_
                    refine NX.block ?_
                    refine NX.then ?_
                    refine Tr.region_f (fun _ => false) ?_
                    refine W.q rfl rfl rfl rfl (by decide) (Yd.add rfl (.t rfl) .c) ?_
                    refine W.q rfl rfl rfl rfl (by decide) (Yd.mv rfl (.t rfl)) ?_
                    refine W.end ?_
                    refine NX.sub (env' := [(8, _), (16, _), (107, _), (108, _), (112, _), (113, _)]) ⟨rfl, rfl, rfl, rfl, rfl, rfl, trivial⟩ ?_
                    refine NX.sub (env' := [(8, _), (16, _), (107, _), (108, _), (112, _), (113, _)]) ⟨rfl, rfl, rfl, rfl, rfl, rfl, trivial⟩ ?_
                    have hw := w64_id (n := t_54 + 1) (by omega) (by omega)
                    exact NX.again n57 (t_54 + 1, l47) (Nat.lt_succ_self _) ⟨_, (by rw [hw] <;> rfl), rfl, (fr_dec hnt_54), (by omega), ((hnx56 _).symm.trans hr)⟩
        have hlen64 := (hl_1).2.1
        refine Tr.block ?_
        refine Tr.sub (env' := [(0, _), (8, _), (58, _), (59, _), (60, _)]) ⟨rfl, rfl, rfl, rfl, rfl, trivial⟩ ?_
        refine Tr.loop (S := fun n (z : Int × (List (BitVec 32))) env x => match z with | (t_65, l22) => ∃ v23 : Value, env = [(0, .int .i64 n_0), (8, v23), (58, ul_1), (59, .int .i64 ((l_1.length : Int))), (60, .int .i64 t_65)] ∧ x = ⟨m, hownT 41 1 encU v23 l22 :: l⟩ ∧ n = ((l_1.length : Int) - t_65).toNat ∧ 0 ≤ t_65 ∧ forK (σ := (List (BitVec 32))) (fun i s nx_ => two_reach_b66 n_0 l_1 i s nx_) (fun s => two_reach_k26 s) n t_65 l22 = some r) _ ((0 : Int), l14) ⟨_, rfl, rfl, rfl, (by omega), hr⟩ ?_
        rintro n68 ⟨t_65, l22⟩ env x ⟨v23, rfl, rfl, hnt_65, h0t_65, hr⟩
        cases n68 with
        | zero =>
          simp only [forK] at hr
          refine Tr.seq ?_
          refine Tr.region_f (fun _ => false) ?_
          refine W.q rfl rfl rfl rfl (by decide) (Yd.lss rfl (.t rfl) (.t rfl)) ?_
          refine W.end ?_
          refine NX.sub (env' := [(0, _), (8, _), (58, _), (59, _), (60, _), (61, _)]) ⟨rfl, rfl, rfl, rfl, rfl, rfl, trivial⟩ ?_
          refine NX.then ?_
          refine Tr.seq ?_
          refine Tr.cond (.t rfl) (fun hb => ?_) (fun hb => ?_)
          · exact absurd (hb.symm.trans (fr_end hnt_65)) (by decide)
          ·
            refine Tr.exit' (EX.then (EX.then (EX.block ?_)))
            refine NX.sub (env' := [(8, _)]) ⟨rfl, trivial⟩ ?_
            exact hk27 _ _ ⟨_, _, rfl, rfl, hr⟩
        | succ n68 =>
          obtain ⟨nx67, hnx67, hr⟩ := forK_succ hr
          try dsimp only at hr
          unfold two_reach_b66 at hr
          try dsimp only at hr
          have hltt_65 := fr_bnd hnt_65
          refine Tr.seq ?_
          refine Tr.region_f (fun _ => false) ?_
          refine W.q rfl rfl rfl rfl (by decide) (Yd.lss rfl (.t rfl) (.t rfl)) ?_
          refine W.end ?_
          refine NX.sub (env' := [(0, _), (8, _), (58, _), (59, _), (60, _), (61, _)]) ⟨rfl, rfl, rfl, rfl, rfl, rfl, trivial⟩ ?_
          refine NX.then ?_
          refine Tr.seq ?_
          refine Tr.cond (.t rfl) (fun hb => ?_) (fun hb => ?_)
          rotate_left
          · exact absurd (hb.symm.trans (fr_go hnt_65)) (by decide)
          ·
            refine Tr.skip' ?_
            refine NX.then ?_
            refine Tr.seq ?_
            refine Tr.block ?_
            refine Tr.seq ?_
            obtain ⟨y69, hy70, hr⟩ := bind_some hr
            refine Tr.region_f (fun i => Nat.beq i 2 || Nat.beq i 3) ?_
            refine W.q rfl rfl rfl rfl (by decide) (Yd.idxR hl_1 hy70 rfl Try.underlying40 SZ46 (.t rfl) (.t rfl)) ?_
            refine W.q rfl rfl rfl rfl (by decide) (Yd.ldFs (us := [_, _]) hl_1 (.refl _) hy70 rfl rfl ON46 US46 SZ46 (.t rfl)) ?_
            refine W.e rfl rfl rfl rfl (by decide) (Ef.al rfl ZR46 rfl) ?_
            rintro _ _ ⟨b71, rfl, rfl⟩
            refine ⟨.inl rfl, ?_⟩
            refine W.cast (m' := m) (l' := hcells b71 [_, _] 46 :: hownT 41 1 encU v23 _ :: l) rfl rfl ?_
            refine W.s rfl rfl rfl rfl (Ef.stB (pos := 0) (us := [_, _]) (cs' := [_, _]) rfl rfl (.t rfl) (.t rfl) SZ46 rfl rfl rfl (Nat.le_of_ble_eq_true rfl) rfl) ?_
            rintro _ _ ⟨rfl, rfl⟩
            refine ⟨.inl rfl, ?_⟩
            refine W.cast (m' := m) (l' := hcells b71 [_, _] 46 :: hownT 41 1 encU v23 _ :: l) rfl rfl ?_
            refine W.end ?_
            refine NX.sub (env' := [(0, _), (8, _), (58, _), (59, _), (60, _), (11, _)]) ⟨rfl, rfl, rfl, rfl, rfl, rfl, trivial⟩ ?_
            refine NX.then ?_
            refine Tr.seq ?_
            obtain ⟨r73, hr74, hr⟩ := bind_some hr
            refine Tr.region_f (fun _ => false) ?_
            refine W.q rfl rfl rfl rfl (by decide) (Yd.mv rfl (.t rfl)) ?_
            refine W.q rfl rfl rfl rfl (by decide) (Yd.ldBs (pos := 0) (us := [_, _]) rfl rfl rfl rfl ON46 US46 SZ46 (.t rfl)) ?_
            refine W.q rfl rfl rfl rfl (by decide) (Yd.call (v := .int .u32 (r73.toNat : Int)) rfl Try.func68 rfl rfl (.cons (.t rfl) (.cons (.t rfl) .nil)) (fun x' hx w hw => two_literals_ok w0 x'.m x'.l n_0 (({ yes := y69.yes, no := y69.no } : Clause)) _ hr74 w hw)) ?_
            refine W.q rfl rfl rfl rfl (by decide) (Yd.as rfl (.t rfl)) ?_
            refine W.end ?_
            refine NX.sub (env' := [(0, _), (8, _), (58, _), (59, _), (60, _), (12, _)]) ⟨rfl, rfl, rfl, rfl, rfl, rfl, trivial⟩ ?_
            refine NX.drop (l' := hownT 41 1 encU v23 _ :: l) (.cons _ (.cons_cons _ (.refl _))) ?_
            refine NX.then ?_
            refine Tr.seq ?_
            obtain ⟨r75, hr76, hr⟩ := bind_some hr
            refine Tr.region_f (fun _ => false) ?_
            refine W.q rfl rfl rfl rfl (by decide) (Yd.mv rfl (.t rfl)) ?_
            refine W.q rfl rfl rfl rfl (by decide) (Yd.call (v := .int .i64 r75) rfl Try.func65 rfl rfl (.cons (.t rfl) .nil) (fun x' hx w hw => math_bits_OnesCount32_ok w0 x'.m x'.l r73 _ hr76 w hw)) ?_
            refine W.q rfl rfl rfl rfl (by decide) (Yd.as rfl (.t rfl)) ?_
            refine W.end ?_
            refine NX.sub (env' := [(0, _), (8, _), (58, _), (59, _), (60, _), (12, _), (13, _)]) ⟨rfl, rfl, rfl, rfl, rfl, rfl, rfl, trivial⟩ ?_
            refine NX.then ?_
            refine Tr.seq ?_
            refine Tr.seq ?_
            refine Tr.region_f (fun _ => false) ?_
            refine W.q rfl rfl rfl rfl (by decide) (Yd.mv rfl (.t rfl)) ?_
            refine W.q rfl rfl rfl rfl (by decide) (Yd.eql rfl (.t rfl) .c) ?_
            refine W.q rfl rfl rfl rfl (by decide) (Yd.mv rfl (.t rfl)) ?_
            refine W.g rfl rfl rfl rfl rfl (.t rfl _) rfl (by decide) (fun hG => Yd.mv rfl (.t rfl)) ?_
            refine W.g rfl rfl rfl rfl rfl (.t rfl _) rfl (by decide) (fun hG => Yd.gtr rfl (.g rfl hG) .c) ?_
            refine W.q rfl rfl rfl rfl (by decide) (Yd.or rfl (.t rfl) .c rfl rfl) ?_
            refine W.end ?_
            refine NX.sub (env' := [(0, _), (8, _), (58, _), (59, _), (60, _), (12, _), (13, _), (74, _)]) ⟨rfl, rfl, rfl, rfl, rfl, rfl, rfl, rfl, trivial⟩ ?_
            refine NX.then ?_
            refine Tr.cond (.t rfl) (fun hb => ?_) (fun hb => ?_)
            · have hr := cond_t hb hr
              refine Tr.seq ?_
              refine Tr.region_f (fun _ => false) ?_
              refine W.q rfl rfl rfl rfl (by decide) (Yd.as rfl .c) ?_
              refine W.q rfl rfl rfl rfl (by decide) (Yd.as rfl .c) ?_
              refine W.end ?_
              refine NX.sub (env' := [(4, _), (5, _)]) ⟨rfl, rfl, trivial⟩ ?_
              refine NX.drop (l' := l) (.cons _ (.refl _)) ?_
              refine NX.then ?_
              refine Tr.ret' (RT.then (RT.block (RT.then (RT.then (RT.block (RT.then ?_))))))
              refine res2 rfl rfl rfl ?_
              intro w hc
              cases hr
              exact ⟨_, rfl, (cX_nil hc)⟩
            · have hr := cond_f hb hr
              refine Tr.skip' ?_
              refine NX.then ?_
              refine Tr.seq ?_
              refine Tr.region_f (fun _ => false) ?_
              refine W.q rfl rfl rfl rfl (by decide) (Yd.mv rfl (.t rfl)) ?_
              refine W.q rfl rfl rfl rfl (by decide) (Yd.lenO (p := 0) rfl rfl Try.underlying57 (.t rfl)) ?_
              refine W.q rfl rfl rfl rfl (by decide) (Yd.mv rfl .c) ?_
              refine W.end ?_
              refine NX.sub (env' := [(0, _), (8, _), (58, _), (59, _), (60, _), (12, _), (13, _), (76, _), (77, _)]) ⟨rfl, rfl, rfl, rfl, rfl, rfl, rfl, rfl, rfl, trivial⟩ ?_
              refine NX.then ?_
              refine Tr.join (S := fun env x => ∃ l83 : List (BitVec 32), ∃ v84 : Value, env = [(0, .int .i64 n_0), (8, v84), (58, ul_1), (59, .int .i64 ((l_1.length : Int))), (60, .int .i64 t_65)] ∧ x = ⟨m, hownT 41 1 encU v84 l83 :: l⟩ ∧ two_reach_k85 nx67 l83 = some r) ?_ (fun hk86 => ?_)
              · rintro _ _ ⟨l83, v84, rfl, rfl, hr⟩
                unfold two_reach_k85 at hr
                try dsimp only at hr
                refine NX.block ?_
                refine NX.then ?_
                refine Tr.region_f (fun _ => false) ?_
                refine W.q rfl rfl rfl rfl (by decide) (Yd.add rfl (.t rfl) .c) ?_
                refine W.q rfl rfl rfl rfl (by decide) (Yd.mv rfl (.t rfl)) ?_
                refine W.end ?_
                refine NX.sub (env' := [(0, _), (8, _), (58, _), (59, _), (60, _)]) ⟨rfl, rfl, rfl, rfl, rfl, trivial⟩ ?_
                refine NX.sub (env' := [(0, _), (8, _), (58, _), (59, _), (60, _)]) ⟨rfl, rfl, rfl, rfl, rfl, trivial⟩ ?_
                have hw := w64_id (n := t_65 + 1) (by omega) (by omega)
                exact NX.again n68 (t_65 + 1, l83) (Nat.lt_succ_self _) ⟨_, (by rw [hw] <;> rfl), rfl, (fr_dec hnt_65), (by omega), ((hnx67 _).symm.trans hr)⟩
              refine Tr.lenO (pos := 0) rfl (fun hlen87 => ?_)
              refine Tr.block ?_
              refine Tr.sub (env' := [(0, _), (8, _), (12, _), (13, _), (58, _), (59, _), (60, _), (76, _), (77, _)]) ⟨rfl, rfl, rfl, rfl, rfl, rfl, rfl, rfl, rfl, trivial⟩ ?_
              refine Tr.loop (S := fun n (z : Int × (List (BitVec 32))) env x => match z with | (t_88, l81) => ∃ v82 : Value, env = [(0, .int .i64 n_0), (8, v82), (12, .int .u32 (r73.toNat : Int)), (13, .int .i64 r75), (58, ul_1), (59, .int .i64 ((l_1.length : Int))), (60, .int .i64 t_65), (76, .int .i64 ((l22.length : Int))), (77, .int .i64 t_88)] ∧ x = ⟨m, hownT 41 1 encU v82 l81 :: l⟩ ∧ n = ((l22.length : Int) - t_88).toNat ∧ 0 ≤ t_88 ∧ forK (σ := (List (BitVec 32))) (fun i s nx_ => two_reach_b89 n_0 r73 r75 i s nx_) (fun s => two_reach_k85 nx67 s) n t_88 l81 = some r) _ ((0 : Int), l22) ⟨_, rfl, rfl, rfl, (by omega), hr⟩ ?_
              rintro n91 ⟨t_88, l81⟩ env x ⟨v82, rfl, rfl, hnt_88, h0t_88, hr⟩
              cases n91 with
              | zero =>
                simp only [forK] at hr
                refine Tr.seq ?_
                refine Tr.region_f (fun _ => false) ?_
                refine W.q rfl rfl rfl rfl (by decide) (Yd.lss rfl (.t rfl) (.t rfl)) ?_
                refine W.end ?_
                refine NX.sub (env' := [(0, _), (8, _), (12, _), (13, _), (58, _), (59, _), (60, _), (76, _), (77, _), (78, _)]) ⟨rfl, rfl, rfl, rfl, rfl, rfl, rfl, rfl, rfl, rfl, trivial⟩ ?_
                refine NX.then ?_
                refine Tr.seq ?_
                refine Tr.cond (.t rfl) (fun hb => ?_) (fun hb => ?_)
                · exact absurd (hb.symm.trans (fr_end hnt_88)) (by decide)
                ·
                  refine Tr.exit' (EX.then (EX.then (EX.block ?_)))
                  refine NX.sub (env' := [(0, _), (8, _), (58, _), (59, _), (60, _)]) ⟨rfl, rfl, rfl, rfl, rfl, trivial⟩ ?_
                  exact hk86 _ _ ⟨_, _, rfl, rfl, hr⟩
              | succ n91 =>
                obtain ⟨nx90, hnx90, hr⟩ := forK_succ hr
                try dsimp only at hr
                unfold two_reach_b89 at hr
                try dsimp only at hr
                have hltt_88 := fr_bnd hnt_88
                refine Tr.seq ?_
                refine Tr.region_f (fun _ => false) ?_
                refine W.q rfl rfl rfl rfl (by decide) (Yd.lss rfl (.t rfl) (.t rfl)) ?_
                refine W.end ?_
                refine NX.sub (env' := [(0, _), (8, _), (12, _), (13, _), (58, _), (59, _), (60, _), (76, _), (77, _), (78, _)]) ⟨rfl, rfl, rfl, rfl, rfl, rfl, rfl, rfl, rfl, rfl, trivial⟩ ?_
                refine NX.then ?_
                refine Tr.seq ?_
                refine Tr.cond (.t rfl) (fun hb => ?_) (fun hb => ?_)
                rotate_left
                · exact absurd (hb.symm.trans (fr_go hnt_88)) (by decide)
                ·
                  refine Tr.skip' ?_
                  refine NX.then ?_
                  refine Tr.seq ?_
                  refine Tr.block ?_
                  refine Tr.seq ?_
                  refine Tr.region_f (fun _ => false) ?_
                  refine W.q rfl rfl rfl rfl (by decide) (Yd.mv rfl (.t rfl)) ?_
                  refine W.q rfl rfl rfl rfl (by decide) (Yd.as rfl (.t rfl)) ?_
                  refine W.end ?_
                  refine NX.sub (env' := [(0, _), (8, _), (12, _), (13, _), (58, _), (59, _), (60, _), (76, _), (77, _), (14, _)]) ⟨rfl, rfl, rfl, rfl, rfl, rfl, rfl, rfl, rfl, rfl, trivial⟩ ?_
                  refine NX.then ?_
                  refine Tr.seq ?_
                  refine Tr.seq ?_
                  refine Tr.region_f (fun _ => false) ?_
                  refine W.q rfl rfl rfl rfl (by decide) (Yd.mv rfl (.t rfl)) ?_
                  refine W.q rfl rfl rfl rfl (by decide) (Yd.mv rfl (.t rfl)) ?_
                  refine W.q rfl rfl rfl rfl (by decide) (Yd.shrU (a := r73) rfl (.t rfl) (.t rfl) h0t_88) ?_
                  refine W.q rfl rfl rfl rfl (by decide) (Yd.andU (a := (r73 >>> t_88.toNat)) (b := 1#32) rfl (.t rfl) .c) ?_
                  refine W.q rfl rfl rfl rfl (by decide) (Yd.eqlU (a := ((r73 >>> t_88.toNat) &&& 1#32)) (b := 0#32) rfl (.t rfl) .c) ?_
                  refine W.end ?_
                  refine NX.sub (env' := [(0, _), (8, _), (12, _), (13, _), (58, _), (59, _), (60, _), (76, _), (77, _), (14, _), (84, _)]) ⟨rfl, rfl, rfl, rfl, rfl, rfl, rfl, rfl, rfl, rfl, rfl, trivial⟩ ?_
                  refine NX.then ?_
                  refine Tr.cond (.t rfl) (fun hb => ?_) (fun hb => ?_)
                  · have hr := cond_t hb hr
                    refine Tr.exit' (EX.then (EX.block ?_))
                    refine NX.then ?_
                    refine Tr.region_f (fun _ => false) ?_
                    refine W.q rfl rfl rfl rfl (by decide) (Yd.add rfl (.t rfl) .c) ?_
                    refine W.q rfl rfl rfl rfl (by decide) (Yd.mv rfl (.t rfl)) ?_
                    refine W.end ?_
                    refine NX.sub (env' := [(0, _), (8, _), (12, _), (13, _), (58, _), (59, _), (60, _), (76, _), (77, _)]) ⟨rfl, rfl, rfl, rfl, rfl, rfl, rfl, rfl, rfl, trivial⟩ ?_
                    refine NX.sub (env' := [(0, _), (8, _), (12, _), (13, _), (58, _), (59, _), (60, _), (76, _), (77, _)]) ⟨rfl, rfl, rfl, rfl, rfl, rfl, rfl, rfl, rfl, trivial⟩ ?_
                    have hw := w64_id (n := t_88 + 1) (by omega) (by omega)
                    exact NX.again n91 (t_88 + 1, l81) (Nat.lt_succ_self _) ⟨_, (by rw [hw] <;> rfl), rfl, (fr_dec hnt_88), (by omega), ((hnx90 _).symm.trans hr)⟩
                  · have hr := cond_f hb hr
                    refine Tr.skip' ?_
                    refine NX.then ?_
                    refine Tr.seq ?_
                    refine Tr.region_f (fun _ => false) ?_
                    refine W.q rfl rfl rfl rfl (by decide) (Yd.mv rfl (.t rfl)) ?_
                    refine W.q rfl rfl rfl rfl (by decide) (Yd.mv rfl (.t rfl)) ?_
                    refine W.q rfl rfl rfl rfl (by decide) (Yd.shlU (a := 1#32) rfl .c (.t rfl) h0t_88) ?_
                    refine W.q rfl rfl rfl rfl (by decide) (Yd.andnU (a := r73) (b := (1#32 <<< t_88.toNat)) rfl (.t rfl) (.t rfl)) ?_
                    refine W.q rfl rfl rfl rfl (by decide) (Yd.as rfl (.t rfl)) ?_
                    refine W.end ?_
                    refine NX.sub (env' := [(0, _), (8, _), (12, _), (13, _), (58, _), (59, _), (60, _), (76, _), (77, _), (14, _), (15, _)]) ⟨rfl, rfl, rfl, rfl, rfl, rfl, rfl, rfl, rfl, rfl, rfl, trivial⟩ ?_
                    refine NX.then ?_
                    refine Tr.seq ?_
                    refine Tr.seq ?_
                    refine Tr.region_f (fun _ => false) ?_
                    refine W.q rfl rfl rfl rfl (by decide) (Yd.mv rfl (.t rfl)) ?_
                    refine W.q rfl rfl rfl rfl (by decide) (Yd.eql rfl (.t rfl) .c) ?_
                    refine W.end ?_
                    refine NX.sub (env' := [(0, _), (8, _), (12, _), (13, _), (58, _), (59, _), (60, _), (76, _), (77, _), (14, _), (15, _), (90, _)]) ⟨rfl, rfl, rfl, rfl, rfl, rfl, rfl, rfl, rfl, rfl, rfl, rfl, trivial⟩ ?_
                    refine NX.then ?_
                    refine Tr.join (S := fun env x => ∃ other_92 : BitVec 32, env = [(0, .int .i64 n_0), (8, v82), (12, .int .u32 (r73.toNat : Int)), (13, .int .i64 r75), (58, ul_1), (59, .int .i64 ((l_1.length : Int))), (60, .int .i64 t_65), (76, .int .i64 ((l22.length : Int))), (77, .int .i64 t_88), (14, .int .i64 t_88), (15, .int .u32 (other_92.toNat : Int))] ∧ x = ⟨m, hownT 41 1 encU v82 l81 :: l⟩ ∧ two_reach_k93 n_0 t_88 l81 nx90 other_92 = some r) ?_ (fun hk94 => ?_)
                    · rintro _ _ ⟨other_92, rfl, rfl, hr⟩
                      unfold two_reach_k93 at hr
                      try dsimp only at hr
                      refine NX.then ?_
                      obtain ⟨hq95, hr⟩ := guard_some hr; replace hq95 := of_decide_eq_true hq95
                      obtain ⟨y96, hy97, hr⟩ := bind_some hr
                      refine Tr.region_f (fun i => Nat.beq i 12) ?_
                      refine W.q rfl rfl rfl rfl (by decide) (Yd.mv rfl (.t rfl)) ?_
                      refine W.q rfl rfl rfl rfl (by decide) (Yd.mv rfl (.t rfl)) ?_
                      refine W.q rfl rfl rfl rfl (by decide) (Yd.mv rfl (.t rfl)) ?_
                      refine W.q rfl rfl rfl rfl (by decide) (Yd.add rfl (.t rfl) (.t rfl)) ?_
                      refine W.q rfl rfl rfl rfl (by decide) (Yd.mv rfl (.t rfl)) ?_
                      refine W.q rfl rfl rfl rfl (by decide) (Yd.mul rfl .c (.t rfl)) ?_
                      refine W.q rfl rfl rfl rfl (by decide) (Yd.rem rfl (.t rfl) (.t rfl) hq95) ?_
                      refine W.q rfl rfl rfl rfl (by decide) (Yd.idxT (pos := 0) rfl hy97 rfl Try.underlying57 SZ41 (.t rfl) (.t rfl)) ?_
                      refine W.q rfl rfl rfl rfl (by decide) (Yd.ldT (enc := encU) (n := 1) (pos := 0) (fun _ => rfl) rfl hy97 rfl rfl ON41 (.t rfl)) ?_
                      refine W.q rfl rfl rfl rfl (by decide) (Yd.mv rfl (.t rfl)) ?_
                      refine W.q rfl rfl rfl rfl (by decide) (Yd.orU (a := y96) (b := other_92) rfl (.t rfl) (.t rfl)) ?_
                      refine W.q rfl rfl rfl rfl (by decide) (Yd.idxT (pos := 0) rfl hy97 rfl Try.underlying57 SZ41 (.t rfl) (.t rfl)) ?_
                      refine W.s rfl rfl rfl rfl (Ef.stT (enc := encU) (n := 1) (pos := 0) (y := (y96 ||| other_92)) (us := [_]) (fun _ => rfl) rfl hy97 rfl (.t rfl) (.t rfl) SZ41 rfl rfl rfl (by decide)) ?_
                      rintro _ _ ⟨rfl, rfl⟩
                      refine ⟨.inl rfl, ?_⟩
                      refine W.cast (m' := m) (l' := hownT 41 1 encU v82 _ :: l) rfl rfl ?_
                      refine W.end ?_
                      refine NX.sub (env' := [(0, _), (8, _), (12, _), (13, _), (58, _), (59, _), (60, _), (76, _), (77, _)]) ⟨rfl, rfl, rfl, rfl, rfl, rfl, rfl, rfl, rfl, trivial⟩ ?_
                      refine NX.block ?_
                      refine NX.then ?_
                      refine Tr.region_f (fun _ => false) ?_
                      refine W.q rfl rfl rfl rfl (by decide) (Yd.add rfl (.t rfl) .c) ?_
                      refine W.q rfl rfl rfl rfl (by decide) (Yd.mv rfl (.t rfl)) ?_
                      refine W.end ?_
                      refine NX.sub (env' := [(0, _), (8, _), (12, _), (13, _), (58, _), (59, _), (60, _), (76, _), (77, _)]) ⟨rfl, rfl, rfl, rfl, rfl, rfl, rfl, rfl, rfl, trivial⟩ ?_
                      refine NX.sub (env' := [(0, _), (8, _), (12, _), (13, _), (58, _), (59, _), (60, _), (76, _), (77, _)]) ⟨rfl, rfl, rfl, rfl, rfl, rfl, rfl, rfl, rfl, trivial⟩ ?_
                      have hw := w64_id (n := t_88 + 1) (by omega) (by omega)
                      exact NX.again n91 (t_88 + 1, (l81.set ((((w64 (t_88 + n_0))).tmod ((w64 ((2 : Int) * n_0))))).toNat ((y96 ||| other_92)))) (Nat.lt_succ_self _) ⟨_, (by rw [hw] <;> rfl), rfl, (fr_dec hnt_88), (by omega), ((hnx90 _).symm.trans hr)⟩
                    refine Tr.cond (.t rfl) (fun hb => ?_) (fun hb => ?_)
                    · have hr := cond_t hb hr
                      refine Tr.region_f (fun _ => false) ?_
                      refine W.q rfl rfl rfl rfl (by decide) (Yd.mv rfl (.t rfl)) ?_
                      refine W.q rfl rfl rfl rfl (by decide) (Yd.as rfl (.t rfl)) ?_
                      refine W.end ?_
                      refine NX.sub (env' := [(0, _), (8, _), (12, _), (13, _), (58, _), (59, _), (60, _), (76, _), (77, _), (14, _), (15, _)]) ⟨rfl, rfl, rfl, rfl, rfl, rfl, rfl, rfl, rfl, rfl, rfl, trivial⟩ ?_
                      refine NX.sub (env' := [(0, _), (8, _), (12, _), (13, _), (58, _), (59, _), (60, _), (76, _), (77, _), (14, _), (15, _)]) ⟨rfl, rfl, rfl, rfl, rfl, rfl, rfl, rfl, rfl, rfl, rfl, trivial⟩ ?_
                      exact hk94 _ _ ⟨_, rfl, rfl, hr⟩
                    · have hr := cond_f hb hr
                      refine Tr.skip' ?_
                      refine NX.sub (env' := [(0, _), (8, _), (12, _), (13, _), (58, _), (59, _), (60, _), (76, _), (77, _), (14, _), (15, _)]) ⟨rfl, rfl, rfl, rfl, rfl, rfl, rfl, rfl, rfl, rfl, rfl, trivial⟩ ?_
                      exact hk94 _ _ ⟨_, rfl, rfl, hr⟩
      refine Tr.lenO (pos := 0) rfl (fun hlen98 => ?_)
      refine Tr.block ?_
      refine Tr.sub (env' := [(0, _), (1, _), (8, _), (48, _), (49, _)]) ⟨rfl, rfl, rfl, rfl, rfl, trivial⟩ ?_
      refine Tr.loop (S := fun n (z : Int × (List (BitVec 32))) env x => match z with | (t_99, l12) => ∃ v13 : Value, env = [(0, .int .i64 n_0), (1, ul_1), (8, v13), (48, .int .i64 ((((List.replicate ((w64 ((2 : Int) * n_0))).toNat (0#32))).length : Int))), (49, .int .i64 t_99)] ∧ x = ⟨m, hownT 41 1 encU v13 l12 :: l⟩ ∧ n = ((((List.replicate ((w64 ((2 : Int) * n_0))).toNat (0#32))).length : Int) - t_99).toNat ∧ 0 ≤ t_99 ∧ forK (σ := (List (BitVec 32))) (fun i s nx_ => two_reach_b100 i s nx_) (fun s => two_reach_k16 n_0 l_1 s) n t_99 l12 = some r) _ ((0 : Int), (List.replicate ((w64 ((2 : Int) * n_0))).toNat (0#32))) ⟨_, rfl, rfl, rfl, (by omega), hr⟩ ?_
      rintro n102 ⟨t_99, l12⟩ env x ⟨v13, rfl, rfl, hnt_99, h0t_99, hr⟩
      cases n102 with
      | zero =>
        simp only [forK] at hr
        refine Tr.seq ?_
        refine Tr.region_f (fun _ => false) ?_
        refine W.q rfl rfl rfl rfl (by decide) (Yd.lss rfl (.t rfl) (.t rfl)) ?_
        refine W.end ?_
        refine NX.sub (env' := [(0, _), (1, _), (8, _), (48, _), (49, _), (50, _)]) ⟨rfl, rfl, rfl, rfl, rfl, rfl, trivial⟩ ?_
        refine NX.then ?_
        refine Tr.seq ?_
        refine Tr.cond (.t rfl) (fun hb => ?_) (fun hb => ?_)
        · exact absurd (hb.symm.trans (fr_end hnt_99)) (by decide)
        ·
          refine Tr.exit' (EX.then (EX.then (EX.block ?_)))
          refine NX.sub (env' := [(0, _), (1, _), (8, _)]) ⟨rfl, rfl, rfl, trivial⟩ ?_
          exact hk17 _ _ ⟨_, _, rfl, rfl, hr⟩
      | succ n102 =>
        obtain ⟨nx101, hnx101, hr⟩ := forK_succ hr
        try dsimp only at hr
        unfold two_reach_b100 at hr
        try dsimp only at hr
        have hltt_99 := fr_bnd hnt_99
        refine Tr.seq ?_
        refine Tr.region_f (fun _ => false) ?_
        refine W.q rfl rfl rfl rfl (by decide) (Yd.lss rfl (.t rfl) (.t rfl)) ?_
        refine W.end ?_
        refine NX.sub (env' := [(0, _), (1, _), (8, _), (48, _), (49, _), (50, _)]) ⟨rfl, rfl, rfl, rfl, rfl, rfl, trivial⟩ ?_
        refine NX.then ?_
        refine Tr.seq ?_
        refine Tr.cond (.t rfl) (fun hb => ?_) (fun hb => ?_)
        rotate_left
        · exact absurd (hb.symm.trans (fr_go hnt_99)) (by decide)
        ·
          refine Tr.skip' ?_
          refine NX.then ?_
          refine Tr.seq ?_
          refine Tr.block ?_
          refine Tr.seq ?_
          refine Tr.region_f (fun _ => false) ?_
          refine W.q rfl rfl rfl rfl (by decide) (Yd.mv rfl (.t rfl)) ?_
          refine W.q rfl rfl rfl rfl (by decide) (Yd.as rfl (.t rfl)) ?_
          refine W.end ?_
          refine NX.sub (env' := [(0, _), (1, _), (8, _), (48, _), (49, _), (9, _)]) ⟨rfl, rfl, rfl, rfl, rfl, rfl, trivial⟩ ?_
          refine NX.then ?_
          obtain ⟨y103, hy104, hr⟩ := bind_some hr
          refine Tr.region_f (fun i => Nat.beq i 5) ?_
          refine W.q rfl rfl rfl rfl (by decide) (Yd.mv rfl (.t rfl)) ?_
          refine W.q rfl rfl rfl rfl (by decide) (Yd.mv rfl (.t rfl)) ?_
          refine W.q rfl rfl rfl rfl (by decide) (Yd.mv rfl (.t rfl)) ?_
          refine W.q rfl rfl rfl rfl (by decide) (Yd.shlU (a := 1#32) rfl .c (.t rfl) h0t_99) ?_
          refine W.q rfl rfl rfl rfl (by decide) (Yd.idxT (pos := 0) rfl hy104 rfl Try.underlying57 SZ41 (.t rfl) (.t rfl)) ?_
          refine W.s rfl rfl rfl rfl (Ef.stT (enc := encU) (n := 1) (pos := 0) (y := (1#32 <<< t_99.toNat)) (us := [_]) (fun _ => rfl) rfl hy104 rfl (.t rfl) (.t rfl) SZ41 rfl rfl rfl (by decide)) ?_
          rintro _ _ ⟨rfl, rfl⟩
          refine ⟨.inl rfl, ?_⟩
          refine W.cast (m' := m) (l' := hownT 41 1 encU v13 _ :: l) rfl rfl ?_
          refine W.end ?_
          refine NX.sub (env' := [(0, _), (1, _), (8, _), (48, _), (49, _)]) ⟨rfl, rfl, rfl, rfl, rfl, trivial⟩ ?_
          refine NX.block ?_
          refine NX.then ?_
          refine Tr.region_f (fun _ => false) ?_
          refine W.q rfl rfl rfl rfl (by decide) (Yd.add rfl (.t rfl) .c) ?_
          refine W.q rfl rfl rfl rfl (by decide) (Yd.mv rfl (.t rfl)) ?_
          refine W.end ?_
          refine NX.sub (env' := [(0, _), (1, _), (8, _), (48, _), (49, _)]) ⟨rfl, rfl, rfl, rfl, rfl, trivial⟩ ?_
          refine NX.sub (env' := [(0, _), (1, _), (8, _), (48, _), (49, _)]) ⟨rfl, rfl, rfl, rfl, rfl, trivial⟩ ?_
          have hw := w64_id (n := t_99 + 1) (by omega) (by omega)
          exact NX.again n102 (t_99 + 1, (l12.set t_99.toNat ((1#32 <<< t_99.toNat)))) (Nat.lt_succ_self _) ⟨_, (by rw [hw] <;> rfl), rfl, (fr_dec hnt_99), (by omega), ((hnx101 _).symm.trans hr)⟩
    have hlen105 := (hl_1).2.1
    refine Tr.block ?_
    refine Tr.sub (env' := [(0, _), (1, _), (29, _), (30, _), (31, _)]) ⟨rfl, rfl, rfl, rfl, rfl, trivial⟩ ?_
    refine Tr.loop (S := fun n (z : Int × Unit) env x => match z with | (t_106, _) => env = [(0, .int .i64 n_0), (1, ul_1), (29, ul_1), (30, .int .i64 ((l_1.length : Int))), (31, .int .i64 t_106)] ∧ x = ⟨m, l⟩ ∧ n = ((l_1.length : Int) - t_106).toNat ∧ 0 ≤ t_106 ∧ forK (σ := Unit) (fun i s nx_ => two_reach_b107 n_0 l_1 i nx_) (fun _ => two_reach_k3 n_0 l_1) n t_106 () = some r) _ ((0 : Int), ()) ⟨rfl, rfl, rfl, (by omega), hr⟩ ?_
    rintro n109 ⟨t_106, _⟩ env x ⟨rfl, rfl, hnt_106, h0t_106, hr⟩
    cases n109 with
    | zero =>
      simp only [forK] at hr
      refine Tr.seq ?_
      refine Tr.region_f (fun _ => false) ?_
      refine W.q rfl rfl rfl rfl (by decide) (Yd.lss rfl (.t rfl) (.t rfl)) ?_
      refine W.end ?_
      refine NX.sub (env' := [(0, _), (1, _), (29, _), (30, _), (31, _), (32, _)]) ⟨rfl, rfl, rfl, rfl, rfl, rfl, trivial⟩ ?_
      refine NX.then ?_
      refine Tr.seq ?_
      refine Tr.cond (.t rfl) (fun hb => ?_) (fun hb => ?_)
      · exact absurd (hb.symm.trans (fr_end hnt_106)) (by decide)
      ·
        refine Tr.exit' (EX.then (EX.then (EX.block ?_)))
        refine NX.sub (env' := [(0, _), (1, _)]) ⟨rfl, rfl, trivial⟩ ?_
        exact hk4 _ _ ⟨rfl, rfl, hr⟩
    | succ n109 =>
      obtain ⟨nx108, hnx108, hr⟩ := forK_succ hr
      try dsimp only at hr
      unfold two_reach_b107 at hr
      try dsimp only at hr
      have hltt_106 := fr_bnd hnt_106
      refine Tr.seq ?_
      refine Tr.region_f (fun _ => false) ?_
      refine W.q rfl rfl rfl rfl (by decide) (Yd.lss rfl (.t rfl) (.t rfl)) ?_
      refine W.end ?_
      refine NX.sub (env' := [(0, _), (1, _), (29, _), (30, _), (31, _), (32, _)]) ⟨rfl, rfl, rfl, rfl, rfl, rfl, trivial⟩ ?_
      refine NX.then ?_
      refine Tr.seq ?_
      refine Tr.cond (.t rfl) (fun hb => ?_) (fun hb => ?_)
      rotate_left
      · exact absurd (hb.symm.trans (fr_go hnt_106)) (by decide)
      ·
        refine Tr.skip' ?_
        refine NX.then ?_
        refine Tr.seq ?_
        refine Tr.block ?_
        refine Tr.seq ?_
        obtain ⟨y110, hy111, hr⟩ := bind_some hr
        refine Tr.region_f (fun i => Nat.beq i 2 || Nat.beq i 3) ?_
        refine W.q rfl rfl rfl rfl (by decide) (Yd.idxR hl_1 hy111 rfl Try.underlying40 SZ46 (.t rfl) (.t rfl)) ?_
        refine W.q rfl rfl rfl rfl (by decide) (Yd.ldFs (us := [_, _]) hl_1 (.refl _) hy111 rfl rfl ON46 US46 SZ46 (.t rfl)) ?_
        refine W.e rfl rfl rfl rfl (by decide) (Ef.al rfl ZR46 rfl) ?_
        rintro _ _ ⟨b112, rfl, rfl⟩
        refine ⟨.inl rfl, ?_⟩
        refine W.cast (m' := m) (l' := hcells b112 [_, _] 46 :: l) rfl rfl ?_
        refine W.s rfl rfl rfl rfl (Ef.stB (pos := 0) (us := [_, _]) (cs' := [_, _]) rfl rfl (.t rfl) (.t rfl) SZ46 rfl rfl rfl (Nat.le_of_ble_eq_true rfl) rfl) ?_
        rintro _ _ ⟨rfl, rfl⟩
        refine ⟨.inl rfl, ?_⟩
        refine W.cast (m' := m) (l' := hcells b112 [_, _] 46 :: l) rfl rfl ?_
        refine W.end ?_
        refine NX.sub (env' := [(0, _), (1, _), (29, _), (30, _), (31, _), (7, _)]) ⟨rfl, rfl, rfl, rfl, rfl, rfl, trivial⟩ ?_
        refine NX.then ?_
        refine Tr.seq ?_
        obtain ⟨hq114, hr⟩ := guard_some hr; replace hq114 := of_decide_eq_true hq114
        refine Tr.region_f (fun _ => false) ?_
        refine W.q rfl rfl rfl rfl (by decide) (Yd.fldB rfl Try.underlying46 rfl SZ41 rfl (.t rfl)) ?_
        refine W.q rfl rfl rfl rfl (by decide) (Yd.ldB (pos := 0) rfl rfl rfl ON41 (.t rfl)) ?_
        refine W.q rfl rfl rfl rfl (by decide) (Yd.fldB rfl Try.underlying46 rfl SZ41 rfl (.t rfl)) ?_
        refine W.q rfl rfl rfl rfl (by decide) (Yd.ldB (pos := 0) rfl rfl rfl ON41 (.t rfl)) ?_
        refine W.q rfl rfl rfl rfl (by decide) (Yd.orU (a := y110.yes) (b := y110.no) rfl (.t rfl) (.t rfl)) ?_
        refine W.q rfl rfl rfl rfl (by decide) (Yd.mv rfl (.t rfl)) ?_
        refine W.q rfl rfl rfl rfl (by decide) (Yd.shrU (a := (y110.yes ||| y110.no)) rfl (.t rfl) (.t rfl) hq114) ?_
        refine W.q rfl rfl rfl rfl (by decide) (Yd.neqU (a := ((y110.yes ||| y110.no) >>> n_0.toNat)) (b := 0#32) rfl (.t rfl) .c) ?_
        refine W.end ?_
        refine NX.sub (env' := [(0, _), (1, _), (29, _), (30, _), (31, _), (42, _)]) ⟨rfl, rfl, rfl, rfl, rfl, rfl, trivial⟩ ?_
        refine NX.drop (l' := l) (.cons _ (.refl _)) ?_
        refine NX.then ?_
        refine Tr.cond (.t rfl) (fun hb => ?_) (fun hb => ?_)
        · have hr := cond_t hb hr
          refine Tr.seq ?_
          refine Tr.region_f (fun _ => false) ?_
          refine W.q rfl rfl rfl rfl (by decide) (Yd.as rfl .c) ?_
          refine W.q rfl rfl rfl rfl (by decide) (Yd.as rfl .c) ?_
          refine W.end ?_
          refine NX.sub (env' := [(4, _), (5, _)]) ⟨rfl, rfl, trivial⟩ ?_
          refine NX.then ?_
          refine Tr.ret' (RT.block (RT.then (RT.then (RT.block (RT.then ?_)))))
          refine res2 rfl rfl rfl ?_
          intro w hc
          cases hr
          exact ⟨_, rfl, (cX_nil hc)⟩
        · have hr := cond_f hb hr
          refine Tr.skip' ?_
          refine NX.block ?_
          refine NX.then ?_
          refine Tr.region_f (fun _ => false) ?_
          refine W.q rfl rfl rfl rfl (by decide) (Yd.add rfl (.t rfl) .c) ?_
          refine W.q rfl rfl rfl rfl (by decide) (Yd.mv rfl (.t rfl)) ?_
          refine W.end ?_
          refine NX.sub (env' := [(0, _), (1, _), (29, _), (30, _), (31, _)]) ⟨rfl, rfl, rfl, rfl, rfl, trivial⟩ ?_
          refine NX.sub (env' := [(0, _), (1, _), (29, _), (30, _), (31, _)]) ⟨rfl, rfl, rfl, rfl, rfl, trivial⟩ ?_
          have hw := w64_id (n := t_106 + 1) (by omega) (by omega)
          exact NX.again n109 (t_106 + 1, ()) (Nat.lt_succ_self _) ⟨(by rw [hw] <;> rfl), rfl, (fr_dec hnt_106), (by omega), ((hnx108 _).symm.trans hr)⟩

def two_Reach (n_0 : Int) (l_1 : List Clause) : Option ((List (BitVec 32)) × Int) :=
  (two_reach n_0 l_1).bind fun r1 =>
  some ((r1.1, r1.2))

set_option maxRecDepth 100000 in
theorem two_Reach_ok (w0 : World) (m : Snap) (l : List HI) (n_0 : Int) (ul_1 : Value) (l_1 : List Clause) (hl_1 : RS rClause m ul_1 l_1) (r : (List (BitVec 32)) × Int) (hr : two_Reach n_0 l_1 = some r) (w : World) (hc : cX w0 ⟨m, l⟩ w) :
    Calls Try.prog 29 [.int .i64 n_0, ul_1].toArray w fun e w' => ∃ z0 : Value, e = .returned (.tuple #[z0, .int .i64 r.2]) ∧ cX w0 ⟨m, hownT 41 1 encU z0 r.1 :: l⟩ w' := by
  unfold two_Reach at hr
  refine calls_of_Tr (N := 11) Try.func29 rfl hc rfl (Nat.le_of_ble_eq_true rfl) ?_
  refine Tr.seq ?_
  refine Tr.region_f (fun _ => false) ?_
  refine W.q rfl rfl rfl rfl (by decide) (Yd.as rfl .c) ?_
  refine W.q rfl rfl rfl rfl (by decide) (Yd.as rfl .c) ?_
  refine W.end ?_
  refine NX.sub (env' := [(0, _), (1, _)]) ⟨rfl, rfl, trivial⟩ ?_
  refine NX.then ?_
  refine Tr.seq ?_
  obtain ⟨r1, hr2, hr⟩ := bind_some hr
  refine Tr.region_f (fun i => Nat.beq i 2) ?_
  refine W.q rfl rfl rfl rfl (by decide) (Yd.mv rfl (.t rfl)) ?_
  refine W.q rfl rfl rfl rfl (by decide) (Yd.mv rfl (.t rfl)) ?_
  refine W.e rfl rfl rfl rfl (by decide) (Ef.call (R := fun z x' => ∃ v3 : Value, z = .tuple #[v3, .int .i64 r1.2] ∧ x' = ⟨m, hownT 41 1 encU v3 r1.1 :: l⟩) rfl Try.func55 rfl rfl (.cons (.t rfl) (.cons (.t rfl) .nil)) (fun w hw => (two_reach_ok w0 _ _ n_0 _ _ hl_1 _ hr2 w hw).mono fun e w' ⟨v3, he, hc'⟩ => ⟨_, _, he, ⟨v3, rfl, rfl⟩, hc'⟩)) ?_
  rintro _ _ ⟨v3, rfl, rfl⟩
  refine ⟨.inl rfl, ?_⟩
  refine W.cast (m' := m) (l' := hownT 41 1 encU v3 _ :: l) rfl rfl ?_
  refine W.q rfl rfl rfl rfl (by decide) (Yd.ext rfl (.t rfl) rfl) ?_
  refine W.q rfl rfl rfl rfl (by decide) (Yd.ext rfl (.t rfl) rfl) ?_
  refine W.q rfl rfl rfl rfl (by decide) (Yd.as rfl (.t rfl)) ?_
  refine W.q rfl rfl rfl rfl (by decide) (Yd.as rfl (.t rfl)) ?_
  refine W.end ?_
  refine NX.sub (env' := [(4, _), (5, _)]) ⟨rfl, rfl, trivial⟩ ?_
  refine NX.then ?_
  refine Tr.ret' ?_
  refine res2 rfl rfl rfl ?_
  intro w hc
  cases hr
  exact ⟨_, rfl, hc⟩

def syllogistref_TwoCheck_k8 (x_7 : Int) : Option (Int) :=
  some x_7

def syllogistref_TwoCheck_b12 (l_1 : List Clause) (t_11 : Int) (x_5 : Int) (nx13 : Int → Option (Int)) : Option (Int) :=
  (geti l_1 t_11).bind fun y15 =>
  (syllogistref_Size y15.yes).bind fun r19 =>
  (syllogistref_Size y15.no).bind fun r21 =>
  (bif ((x_5 == (0 : Int)) && ((decide ((w64 (r19 + r21)) < (1 : Int))) || (decide ((w64 (r19 + r21)) > (2 : Int))))) then
  nx13 (3 : Int)
  else
  nx13 x_5)

def syllogistref_TwoCheck (n_0 : Int) (l_1 : List Clause) : Option (Int) :=
  (syllogistref_SatCheck n_0 l_1).bind fun r1 =>
  forK (σ := Int) (fun i s nx_ => syllogistref_TwoCheck_b12 l_1 i s nx_) (fun s => syllogistref_TwoCheck_k8 s) ((l_1.length : Int) - (0 : Int)).toNat (0 : Int) r1

set_option maxRecDepth 100000 in
theorem syllogistref_TwoCheck_ok (w0 : World) (m : Snap) (l : List HI) (n_0 : Int) (ul_1 : Value) (l_1 : List Clause) (hl_1 : RS rClause m ul_1 l_1) (r : Int) (hr : syllogistref_TwoCheck n_0 l_1 = some r) (w : World) (hc : cX w0 ⟨m, l⟩ w) :
    Calls Try.prog 30 [.int .i64 n_0, ul_1].toArray w fun e w' => e = .returned (.int .i64 r) ∧ cX w0 ⟨m, l⟩ w' := by
  unfold syllogistref_TwoCheck at hr
  refine calls_of_Tr (N := 37) Try.func30 rfl hc rfl (Nat.le_of_ble_eq_true rfl) ?_
  refine Tr.seq ?_
  refine Tr.region_f (fun _ => false) ?_
  refine W.q rfl rfl rfl rfl (by decide) (Yd.as rfl .c) ?_
  refine W.end ?_
  refine NX.sub (env' := [(0, _), (1, _)]) ⟨rfl, rfl, trivial⟩ ?_
  refine NX.then ?_
  refine Tr.seq ?_
  obtain ⟨r1, hr2, hr⟩ := bind_some hr
  refine Tr.region_f (fun _ => false) ?_
  refine W.q rfl rfl rfl rfl (by decide) (Yd.mv rfl (.t rfl)) ?_
  refine W.q rfl rfl rfl rfl (by decide) (Yd.mv rfl (.t rfl)) ?_
  refine W.q rfl rfl rfl rfl (by decide) (Yd.call (v := .int .i64 r1) rfl Try.func22 rfl rfl (.cons (.t rfl) (.cons (.t rfl) .nil)) (fun x' hx w hw => syllogistref_SatCheck_ok w0 x'.m x'.l n_0 _ _ (hl_1.mono hx.1) _ hr2 w hw)) ?_
  refine W.q rfl rfl rfl rfl (by decide) (Yd.as rfl (.t rfl)) ?_
  refine W.end ?_
  refine NX.sub (env' := [(1, _), (5, _)]) ⟨rfl, rfl, trivial⟩ ?_
  refine NX.then ?_
  refine Tr.seq ?_
  refine Tr.seq ?_
  refine Tr.region_f (fun _ => false) ?_
  refine W.q rfl rfl rfl rfl (by decide) (Yd.mv rfl (.t rfl)) ?_
  refine W.q rfl rfl rfl rfl (by decide) (Yd.lenR hl_1 rfl Try.underlying40 (.t rfl)) ?_
  refine W.q rfl rfl rfl rfl (by decide) (Yd.mv rfl .c) ?_
  refine W.end ?_
  refine NX.sub (env' := [(5, _), (12, _), (13, _), (14, _)]) ⟨rfl, rfl, rfl, rfl, trivial⟩ ?_
  refine NX.then ?_
  refine Tr.join (S := fun env x => ∃ x_7 : Int, env = [(5, .int .i64 x_7)] ∧ x = ⟨m, l⟩ ∧ syllogistref_TwoCheck_k8 x_7 = some r) ?_ (fun hk9 => ?_)
  · rintro _ _ ⟨x_7, rfl, rfl, hr⟩
    unfold syllogistref_TwoCheck_k8 at hr
    try dsimp only at hr
    refine NX.then ?_
    refine Tr.seq ?_
    refine Tr.region_f (fun _ => false) ?_
    refine W.q rfl rfl rfl rfl (by decide) (Yd.mv rfl (.t rfl)) ?_
    refine W.q rfl rfl rfl rfl (by decide) (Yd.as rfl (.t rfl)) ?_
    refine W.end ?_
    refine NX.sub (env' := [(4, _)]) ⟨rfl, trivial⟩ ?_
    refine NX.then ?_
    refine Tr.ret' ?_
    refine res1 rfl rfl ?_
    intro w hc
    cases hr
    exact ⟨rfl, hc⟩
  have hlen10 := (hl_1).2.1
  refine Tr.block ?_
  refine Tr.sub (env' := [(5, _), (12, _), (13, _), (14, _)]) ⟨rfl, rfl, rfl, rfl, trivial⟩ ?_
  refine Tr.loop (S := fun n (z : Int × Int) env x => match z with | (t_11, x_5) => env = [(5, .int .i64 x_5), (12, ul_1), (13, .int .i64 ((l_1.length : Int))), (14, .int .i64 t_11)] ∧ x = ⟨m, l⟩ ∧ n = ((l_1.length : Int) - t_11).toNat ∧ 0 ≤ t_11 ∧ forK (σ := Int) (fun i s nx_ => syllogistref_TwoCheck_b12 l_1 i s nx_) (fun s => syllogistref_TwoCheck_k8 s) n t_11 x_5 = some r) _ ((0 : Int), r1) ⟨rfl, rfl, rfl, (by omega), hr⟩ ?_
  rintro n14 ⟨t_11, x_5⟩ env x ⟨rfl, rfl, hnt_11, h0t_11, hr⟩
  cases n14 with
  | zero =>
    simp only [forK] at hr
    refine Tr.seq ?_
    refine Tr.region_f (fun _ => false) ?_
    refine W.q rfl rfl rfl rfl (by decide) (Yd.lss rfl (.t rfl) (.t rfl)) ?_
    refine W.end ?_
    refine NX.sub (env' := [(5, _), (12, _), (13, _), (14, _), (15, _)]) ⟨rfl, rfl, rfl, rfl, rfl, trivial⟩ ?_
    refine NX.then ?_
    refine Tr.seq ?_
    refine Tr.cond (.t rfl) (fun hb => ?_) (fun hb => ?_)
    · exact absurd (hb.symm.trans (fr_end hnt_11)) (by decide)
    ·
      refine Tr.exit' (EX.then (EX.then (EX.block ?_)))
      refine NX.sub (env' := [(5, _)]) ⟨rfl, trivial⟩ ?_
      exact hk9 _ _ ⟨_, rfl, rfl, hr⟩
  | succ n14 =>
    obtain ⟨nx13, hnx13, hr⟩ := forK_succ hr
    try dsimp only at hr
    unfold syllogistref_TwoCheck_b12 at hr
    try dsimp only at hr
    have hltt_11 := fr_bnd hnt_11
    refine Tr.seq ?_
    refine Tr.region_f (fun _ => false) ?_
    refine W.q rfl rfl rfl rfl (by decide) (Yd.lss rfl (.t rfl) (.t rfl)) ?_
    refine W.end ?_
    refine NX.sub (env' := [(5, _), (12, _), (13, _), (14, _), (15, _)]) ⟨rfl, rfl, rfl, rfl, rfl, trivial⟩ ?_
    refine NX.then ?_
    refine Tr.seq ?_
    refine Tr.cond (.t rfl) (fun hb => ?_) (fun hb => ?_)
    rotate_left
    · exact absurd (hb.symm.trans (fr_go hnt_11)) (by decide)
    ·
      refine Tr.skip' ?_
      refine NX.then ?_
      refine Tr.seq ?_
      refine Tr.block ?_
      refine Tr.seq ?_
      obtain ⟨y15, hy16, hr⟩ := bind_some hr
      refine Tr.region_f (fun i => Nat.beq i 2 || Nat.beq i 3) ?_
      refine W.q rfl rfl rfl rfl (by decide) (Yd.idxR hl_1 hy16 rfl Try.underlying40 SZ46 (.t rfl) (.t rfl)) ?_
      refine W.q rfl rfl rfl rfl (by decide) (Yd.ldFs (us := [_, _]) hl_1 (.refl _) hy16 rfl rfl ON46 US46 SZ46 (.t rfl)) ?_
      refine W.e rfl rfl rfl rfl (by decide) (Ef.al rfl ZR46 rfl) ?_
      rintro _ _ ⟨b17, rfl, rfl⟩
      refine ⟨.inl rfl, ?_⟩
      refine W.cast (m' := m) (l' := hcells b17 [_, _] 46 :: l) rfl rfl ?_
      refine W.s rfl rfl rfl rfl (Ef.stB (pos := 0) (us := [_, _]) (cs' := [_, _]) rfl rfl (.t rfl) (.t rfl) SZ46 rfl rfl rfl (Nat.le_of_ble_eq_true rfl) rfl) ?_
      rintro _ _ ⟨rfl, rfl⟩
      refine ⟨.inl rfl, ?_⟩
      refine W.cast (m' := m) (l' := hcells b17 [_, _] 46 :: l) rfl rfl ?_
      refine W.end ?_
      refine NX.sub (env' := [(5, _), (12, _), (13, _), (14, _), (7, _)]) ⟨rfl, rfl, rfl, rfl, rfl, trivial⟩ ?_
      refine NX.then ?_
      refine Tr.seq ?_
      obtain ⟨r19, hr20, hr⟩ := bind_some hr
      obtain ⟨r21, hr22, hr⟩ := bind_some hr
      refine Tr.region_x (fun _ => false) (fun _ => false) (Ord.of [0, 1, 2, 3, 4, 5, 6, 7]) FM (by kernel_rfl) ?_
      refine W.q rfl rfl rfl rfl (by decide) (Yd.fldB rfl Try.underlying46 rfl SZ41 rfl (.t rfl)) ?_
      refine W.q rfl rfl rfl rfl (by decide) (Yd.ldB (pos := 0) rfl rfl rfl ON41 (.t rfl)) ?_
      refine W.q rfl rfl rfl rfl (by decide) (Yd.call (v := .int .i64 r19) rfl Try.func23 rfl rfl (.cons (.t rfl) .nil) (fun x' hx w hw => syllogistref_Size_ok w0 x'.m x'.l y15.yes _ hr20 w hw)) ?_
      refine W.q rfl rfl rfl rfl (by decide) (Yd.fldB rfl Try.underlying46 rfl SZ41 rfl (.t rfl)) ?_
      refine W.q rfl rfl rfl rfl (by decide) (Yd.ldB (pos := 0) rfl rfl rfl ON41 (.t rfl)) ?_
      refine W.q rfl rfl rfl rfl (by decide) (Yd.call (v := .int .i64 r21) rfl Try.func23 rfl rfl (.cons (.t rfl) .nil) (fun x' hx w hw => syllogistref_Size_ok w0 x'.m x'.l y15.no _ hr22 w hw)) ?_
      refine W.q rfl rfl rfl rfl (by decide) (Yd.add rfl (.t rfl) (.t rfl)) ?_
      refine W.q rfl rfl rfl rfl (by decide) (Yd.as rfl (.t rfl)) ?_
      refine W.end ?_
      refine NX.sub (env' := [(5, _), (12, _), (13, _), (14, _), (8, _)]) ⟨rfl, rfl, rfl, rfl, rfl, trivial⟩ ?_
      refine NX.drop (l' := l) (.cons _ (.refl _)) ?_
      refine NX.then ?_
      refine Tr.seq ?_
      refine Tr.region_f (fun _ => false) ?_
      refine W.q rfl rfl rfl rfl (by decide) (Yd.mv rfl (.t rfl)) ?_
      refine W.q rfl rfl rfl rfl (by decide) (Yd.eql rfl (.t rfl) .c) ?_
      refine W.q rfl rfl rfl rfl (by decide) (Yd.mv rfl (.t rfl)) ?_
      refine W.g rfl rfl rfl rfl rfl (.t rfl _) rfl (by decide) (fun hG => Yd.mv rfl (.t rfl)) ?_
      refine W.g rfl rfl rfl rfl rfl (.t rfl _) rfl (by decide) (fun hG => Yd.lss rfl (.g rfl hG) .c) ?_
      refine W.g rfl rfl rfl rfl rfl (.t rfl _) rfl (by decide) (fun hG => Yd.mv rfl (.g rfl hG)) ?_
      refine W.g rfl rfl rfl rfl rfl (.g rfl _) rfl (by decide) (fun hG => Yd.mv rfl (.t rfl)) ?_
      refine W.g rfl rfl rfl rfl rfl (.g rfl _) rfl (by decide) (fun hG => Yd.gtr rfl (.g rfl hG) .c) ?_
      refine W.g rfl rfl rfl rfl rfl (.t rfl _) rfl (by decide) (fun hG => Yd.orG rfl (.g rfl hG) .c rfl rfl hG) ?_
      refine W.q rfl rfl rfl rfl (by decide) (Yd.and rfl (.t rfl) .c rfl rfl) ?_
      refine W.end ?_
      refine NX.sub (env' := [(5, _), (12, _), (13, _), (14, _), (34, _)]) ⟨rfl, rfl, rfl, rfl, rfl, trivial⟩ ?_
      refine NX.then ?_
      refine Tr.cond (.t rfl) (fun hb => ?_) (fun hb => ?_)
      · have hr := cond_t hb hr
        refine Tr.region_f (fun _ => false) ?_
        refine W.q rfl rfl rfl rfl (by decide) (Yd.as rfl .c) ?_
        refine W.end ?_
        refine NX.sub (env' := [(5, _), (12, _), (13, _), (14, _)]) ⟨rfl, rfl, rfl, rfl, trivial⟩ ?_
        refine NX.block ?_
        refine NX.then ?_
        refine Tr.region_f (fun _ => false) ?_
        refine W.q rfl rfl rfl rfl (by decide) (Yd.add rfl (.t rfl) .c) ?_
        refine W.q rfl rfl rfl rfl (by decide) (Yd.mv rfl (.t rfl)) ?_
        refine W.end ?_
        refine NX.sub (env' := [(5, _), (12, _), (13, _), (14, _)]) ⟨rfl, rfl, rfl, rfl, trivial⟩ ?_
        refine NX.sub (env' := [(5, _), (12, _), (13, _), (14, _)]) ⟨rfl, rfl, rfl, rfl, trivial⟩ ?_
        have hw := w64_id (n := t_11 + 1) (by omega) (by omega)
        exact NX.again n14 (t_11 + 1, (3 : Int)) (Nat.lt_succ_self _) ⟨(by rw [hw] <;> rfl), rfl, (fr_dec hnt_11), (by omega), ((hnx13 _).symm.trans hr)⟩
      · have hr := cond_f hb hr
        refine Tr.skip' ?_
        refine NX.block ?_
        refine NX.then ?_
        refine Tr.region_f (fun _ => false) ?_
        refine W.q rfl rfl rfl rfl (by decide) (Yd.add rfl (.t rfl) .c) ?_
        refine W.q rfl rfl rfl rfl (by decide) (Yd.mv rfl (.t rfl)) ?_
        refine W.end ?_
        refine NX.sub (env' := [(5, _), (12, _), (13, _), (14, _)]) ⟨rfl, rfl, rfl, rfl, trivial⟩ ?_
        refine NX.sub (env' := [(5, _), (12, _), (13, _), (14, _)]) ⟨rfl, rfl, rfl, rfl, trivial⟩ ?_
        have hw := w64_id (n := t_11 + 1) (by omega) (by omega)
        exact NX.again n14 (t_11 + 1, x_5) (Nat.lt_succ_self _) ⟨(by rw [hw] <;> rfl), rfl, (fr_dec hnt_11), (by omega), ((hnx13 _).symm.trans hr)⟩

def syllogistref_Said_k15 (j_3 : Int) (l10 : List Int) (not_14 : Int) : Option (Bool) :=
  (bif ((l10.length : Int) == (1 : Int)) then
  (geti l10 ((0 : Int))).bind fun y17 =>
  some (((y17 == not_14) && (y17 == j_3)))
  else
  (geti l10 ((0 : Int))).bind fun y19 =>
  bif (!((y19 == not_14) == true) || (geti l10 ((1 : Int))).isSome) then
  bif (!(((y19 == not_14) && (((geti l10 ((1 : Int))).getD (0 : Int)) == j_3)) == false) || (geti l10 ((1 : Int))).isSome) then
  some ((((y19 == not_14) && (((geti l10 ((1 : Int))).getD (0 : Int)) == j_3)) || ((((geti l10 ((1 : Int))).getD (0 : Int)) == not_14) && (y19 == j_3)))) else none else none)

def syllogistref_Said_k12 (n_0 : Int) (i_2 : Int) (j_3 : Int) (l10 : List Int) : Option (Bool) :=
  (bif (decide (i_2 ≥ n_0)) then
  syllogistref_Said_k15 j_3 l10 ((w64 (i_2 - n_0)))
  else
  syllogistref_Said_k15 j_3 l10 ((w64 (i_2 + n_0))))

def syllogistref_Said_k32 (n_0 : Int) (c_1 : Clause) (v_24 : Int) (nx26 : ((List Int) → Option (Bool))) (l30 : List Int) : Option (Bool) :=
  (syllogistref_Bit c_1.no v_24).bind fun r34 =>
  (bif r34 then
  bif decide (l30.length + (([(w64 (v_24 + n_0))] : List Int)).length ≤ 17592186044416) then
  nx26 (l30 ++ ([(w64 (v_24 + n_0))] : List Int)) else none
  else
  nx26 l30)

def syllogistref_Said_b25 (n_0 : Int) (c_1 : Clause) (v_24 : Int) (l8 : List Int) (nx26 : (List Int) → Option (Bool)) : Option (Bool) :=
  (syllogistref_Bit c_1.yes v_24).bind fun r28 =>
  (bif r28 then
  bif decide (l8.length + (([v_24] : List Int)).length ≤ 17592186044416) then
  syllogistref_Said_k32 n_0 c_1 v_24 nx26 ((l8 ++ ([v_24] : List Int))) else none
  else
  syllogistref_Said_k32 n_0 c_1 v_24 nx26 l8)

def syllogistref_Said (n_0 : Int) (c_1 : Clause) (i_2 : Int) (j_3 : Int) : Option (Bool) :=
  bif decide (n_0 ≤ 9223372036854775807) then
  forK (σ := (List Int)) (fun i s nx_ => syllogistref_Said_b25 n_0 c_1 i s nx_) (fun s => syllogistref_Said_k12 n_0 i_2 j_3 s) (n_0 - (0 : Int)).toNat (0 : Int) (([] : List Int)) else none

set_option maxRecDepth 100000 in
theorem syllogistref_Said_ok (w0 : World) (m : Snap) (l : List HI) (n_0 : Int) (c_1 : Clause) (i_2 : Int) (j_3 : Int) (r : Bool) (hr : syllogistref_Said n_0 c_1 i_2 j_3 = some r) (w : World) (hc : cX w0 ⟨m, l⟩ w) :
    Calls Try.prog 56 [.int .i64 n_0, .agg #[.int .u32 (c_1.yes.toNat : Int), .int .u32 (c_1.no.toNat : Int)], .int .i64 i_2, .int .i64 j_3].toArray w fun e w' => e = .returned (.bool r) ∧ cX w0 ⟨m, l⟩ w' := by
  unfold syllogistref_Said at hr
  refine calls_of_Tr (N := 85) Try.func56 rfl hc rfl (Nat.le_of_ble_eq_true rfl) ?_
  refine Tr.seq ?_
  refine Tr.region_f (fun i => Nat.beq i 0) ?_
  refine W.e rfl rfl rfl rfl (by decide) (Ef.bx rfl (.t rfl) rfl) ?_
  rintro _ _ ⟨b1, rfl, rfl⟩
  refine ⟨.inl rfl, ?_⟩
  refine W.cast (m' := m) (l' := hcells b1 [_, _] 46 :: l) rfl rfl ?_
  refine W.q rfl rfl rfl rfl (by decide) (Yd.as rfl .c) ?_
  refine W.end ?_
  refine NX.sub (env' := [(0, _), (2, _), (3, _), (5, _)]) ⟨rfl, rfl, rfl, rfl, trivial⟩ ?_
  refine NX.then ?_
  refine Tr.seq ?_
  refine Tr.region_f (fun _ => false) ?_
  refine W.q rfl rfl rfl rfl (by decide) (Yd.as rfl .c) ?_
  refine W.end ?_
  refine NX.sub (env' := [(0, _), (2, _), (3, _), (5, _), (9, _)]) ⟨rfl, rfl, rfl, rfl, rfl, trivial⟩ ?_
  refine NX.then ?_
  refine Tr.seq ?_
  refine Tr.seq ?_
  refine Tr.region_f (fun _ => false) ?_
  refine W.q rfl rfl rfl rfl (by decide) (Yd.as rfl .c) ?_
  refine W.end ?_
  refine NX.sub (env' := [(0, _), (2, _), (3, _), (5, _), (9, _), (10, _)]) ⟨rfl, rfl, rfl, rfl, rfl, rfl, trivial⟩ ?_
  refine NX.then ?_
  refine Tr.addnil 3 1 ?_
  refine Tr.join (S := fun env x => ∃ l10 : List Int, ∃ v11 : Value, env = [(0, .int .i64 n_0), (2, .int .i64 i_2), (3, .int .i64 j_3), (9, v11)] ∧ x = ⟨m, hownT 3 1 encI v11 l10 :: l⟩ ∧ syllogistref_Said_k12 n_0 i_2 j_3 l10 = some r) ?_ (fun hk13 => ?_)
  · rintro _ _ ⟨l10, v11, rfl, rfl, hr⟩
    unfold syllogistref_Said_k12 at hr
    try dsimp only at hr
    refine NX.then ?_
    refine Tr.seq ?_
    refine Tr.region_f (fun _ => false) ?_
    refine W.q rfl rfl rfl rfl (by decide) (Yd.mv rfl (.t rfl)) ?_
    refine W.q rfl rfl rfl rfl (by decide) (Yd.mv rfl (.t rfl)) ?_
    refine W.q rfl rfl rfl rfl (by decide) (Yd.add rfl (.t rfl) (.t rfl)) ?_
    refine W.q rfl rfl rfl rfl (by decide) (Yd.as rfl (.t rfl)) ?_
    refine W.end ?_
    refine NX.sub (env' := [(0, _), (2, _), (3, _), (9, _), (11, _)]) ⟨rfl, rfl, rfl, rfl, rfl, trivial⟩ ?_
    refine NX.then ?_
    refine Tr.seq ?_
    refine Tr.seq ?_
    refine Tr.region_f (fun _ => false) ?_
    refine W.q rfl rfl rfl rfl (by decide) (Yd.mv rfl (.t rfl)) ?_
    refine W.q rfl rfl rfl rfl (by decide) (Yd.mv rfl (.t rfl)) ?_
    refine W.q rfl rfl rfl rfl (by decide) (Yd.geq rfl (.t rfl) (.t rfl)) ?_
    refine W.end ?_
    refine NX.sub (env' := [(0, _), (2, _), (3, _), (9, _), (11, _), (40, _)]) ⟨rfl, rfl, rfl, rfl, rfl, rfl, trivial⟩ ?_
    refine NX.then ?_
    refine Tr.join (S := fun env x => ∃ not_14 : Int, env = [(3, .int .i64 j_3), (9, v11), (11, .int .i64 not_14)] ∧ x = ⟨m, hownT 3 1 encI v11 l10 :: l⟩ ∧ syllogistref_Said_k15 j_3 l10 not_14 = some r) ?_ (fun hk16 => ?_)
    · rintro _ _ ⟨not_14, rfl, rfl, hr⟩
      unfold syllogistref_Said_k15 at hr
      try dsimp only at hr
      refine NX.then ?_
      refine Tr.seq ?_
      refine Tr.seq ?_
      refine Tr.region_f (fun _ => false) ?_
      refine W.q rfl rfl rfl rfl (by decide) (Yd.mv rfl (.t rfl)) ?_
      refine W.q rfl rfl rfl rfl (by decide) (Yd.lenO (p := 0) rfl rfl Try.underlying90 (.t rfl)) ?_
      refine W.q rfl rfl rfl rfl (by decide) (Yd.eql rfl (.t rfl) .c) ?_
      refine W.end ?_
      refine NX.sub (env' := [(3, _), (9, _), (11, _), (46, _)]) ⟨rfl, rfl, rfl, rfl, trivial⟩ ?_
      refine NX.then ?_
      refine Tr.cond (.t rfl) (fun hb => ?_) (fun hb => ?_)
      · have hr := cond_t hb hr
        refine Tr.seq ?_
        obtain ⟨y17, hy18, hr⟩ := bind_some hr
        refine Tr.region_f (fun _ => false) ?_
        refine W.q rfl rfl rfl rfl (by decide) (Yd.mv rfl (.t rfl)) ?_
        refine W.q rfl rfl rfl rfl (by decide) (Yd.idxT (pos := 0) rfl hy18 rfl Try.underlying90 SZ3 (.t rfl) .c) ?_
        refine W.q rfl rfl rfl rfl (by decide) (Yd.ldT (enc := encI) (n := 1) (pos := 0) (fun _ => rfl) rfl hy18 rfl rfl ON3 (.t rfl)) ?_
        refine W.q rfl rfl rfl rfl (by decide) (Yd.mv rfl (.t rfl)) ?_
        refine W.q rfl rfl rfl rfl (by decide) (Yd.eql rfl (.t rfl) (.t rfl)) ?_
        refine W.q rfl rfl rfl rfl (by decide) (Yd.mv rfl (.t rfl)) ?_
        refine W.g rfl rfl rfl rfl rfl (.t rfl _) rfl (by decide) (fun hG => Yd.mv rfl (.t rfl)) ?_
        refine W.g rfl rfl rfl rfl rfl (.t rfl _) rfl (by decide) (fun hG => Yd.idxT (pos := 0) rfl hy18 rfl Try.underlying90 SZ3 (.g rfl hG) .c) ?_
        refine W.g rfl rfl rfl rfl rfl (.t rfl _) rfl (by decide) (fun hG => Yd.ldT (enc := encI) (n := 1) (pos := 0) (fun _ => rfl) rfl hy18 rfl rfl ON3 (.g rfl hG)) ?_
        refine W.g rfl rfl rfl rfl rfl (.t rfl _) rfl (by decide) (fun hG => Yd.mv rfl (.t rfl)) ?_
        refine W.g rfl rfl rfl rfl rfl (.t rfl _) rfl (by decide) (fun hG => Yd.eql rfl (.g rfl hG) (.g rfl hG)) ?_
        refine W.q rfl rfl rfl rfl (by decide) (Yd.and rfl (.t rfl) .c rfl rfl) ?_
        refine W.q rfl rfl rfl rfl (by decide) (Yd.as rfl (.t rfl)) ?_
        refine W.end ?_
        refine NX.sub (env' := [(8, _)]) ⟨rfl, trivial⟩ ?_
        refine NX.drop (l' := l) (.cons _ (.refl _)) ?_
        refine NX.then ?_
        refine Tr.ret' (RT.then ?_)
        refine res1 rfl rfl ?_
        intro w hc
        cases hr
        exact ⟨rfl, hc⟩
      · have hr := cond_f hb hr
        refine Tr.skip' ?_
        refine NX.then ?_
        refine Tr.seq ?_
        obtain ⟨y19, hy20, hr⟩ := bind_some hr
        obtain ⟨ha21, hr⟩ := guard_some hr
        obtain ⟨ha22, hr⟩ := guard_some hr
        refine Tr.region_f (fun _ => false) ?_
        refine W.q rfl rfl rfl rfl (by decide) (Yd.mv rfl (.t rfl)) ?_
        refine W.q rfl rfl rfl rfl (by decide) (Yd.idxT (pos := 0) rfl hy20 rfl Try.underlying90 SZ3 (.t rfl) .c) ?_
        refine W.q rfl rfl rfl rfl (by decide) (Yd.ldT (enc := encI) (n := 1) (pos := 0) (fun _ => rfl) rfl hy20 rfl rfl ON3 (.t rfl)) ?_
        refine W.q rfl rfl rfl rfl (by decide) (Yd.mv rfl (.t rfl)) ?_
        refine W.q rfl rfl rfl rfl (by decide) (Yd.eql rfl (.t rfl) (.t rfl)) ?_
        refine W.q rfl rfl rfl rfl (by decide) (Yd.mv rfl (.t rfl)) ?_
        refine W.g rfl rfl rfl rfl rfl (.t rfl _) rfl (by decide) (fun hG => Yd.mv rfl (.t rfl)) ?_
        refine W.g rfl rfl rfl rfl rfl (.t rfl _) rfl (by decide) (fun hG => Yd.idxT (pos := 0) rfl (gd_get (d := (0 : Int)) ha21 hG) rfl Try.underlying90 SZ3 (.g rfl hG) .c) ?_
        refine W.g rfl rfl rfl rfl rfl (.t rfl _) rfl (by decide) (fun hG => Yd.ldT (enc := encI) (n := 1) (pos := 0) (fun _ => rfl) rfl (gd_get (d := (0 : Int)) ha21 hG) rfl rfl ON3 (.g rfl hG)) ?_
        refine W.g rfl rfl rfl rfl rfl (.t rfl _) rfl (by decide) (fun hG => Yd.mv rfl (.t rfl)) ?_
        refine W.g rfl rfl rfl rfl rfl (.t rfl _) rfl (by decide) (fun hG => Yd.eql rfl (.g rfl hG) (.g rfl hG)) ?_
        refine W.q rfl rfl rfl rfl (by decide) (Yd.and rfl (.t rfl) .c rfl rfl) ?_
        refine W.q rfl rfl rfl rfl (by decide) (Yd.mv rfl (.t rfl)) ?_
        refine W.g rfl rfl rfl rfl rfl (.t rfl _) rfl (by decide) (fun hG => Yd.mv rfl (.t rfl)) ?_
        refine W.g rfl rfl rfl rfl rfl (.t rfl _) rfl (by decide) (fun hG => Yd.idxT (pos := 0) rfl (gd_get (d := (0 : Int)) ha22 hG) rfl Try.underlying90 SZ3 (.g rfl hG) .c) ?_
        refine W.g rfl rfl rfl rfl rfl (.t rfl _) rfl (by decide) (fun hG => Yd.ldT (enc := encI) (n := 1) (pos := 0) (fun _ => rfl) rfl (gd_get (d := (0 : Int)) ha22 hG) rfl rfl ON3 (.g rfl hG)) ?_
        refine W.g rfl rfl rfl rfl rfl (.t rfl _) rfl (by decide) (fun hG => Yd.mv rfl (.t rfl)) ?_
        refine W.g rfl rfl rfl rfl rfl (.t rfl _) rfl (by decide) (fun hG => Yd.eql rfl (.g rfl hG) (.g rfl hG)) ?_
        refine W.g rfl rfl rfl rfl rfl (.t rfl _) rfl (by decide) (fun hG => Yd.mv rfl (.g rfl hG)) ?_
        refine W.g rfl rfl rfl rfl rfl (.g rfl _) rfl (by decide) (fun hG => Yd.mv rfl (.t rfl)) ?_
        refine W.g rfl rfl rfl rfl rfl (.g rfl _) rfl (by decide) (fun hG => Yd.idxT (pos := 0) rfl hy20 rfl Try.underlying90 SZ3 (.g rfl hG) .c) ?_
        refine W.g rfl rfl rfl rfl rfl (.g rfl _) rfl (by decide) (fun hG => Yd.ldT (enc := encI) (n := 1) (pos := 0) (fun _ => rfl) rfl hy20 rfl rfl ON3 (.g rfl hG)) ?_
        refine W.g rfl rfl rfl rfl rfl (.g rfl _) rfl (by decide) (fun hG => Yd.mv rfl (.t rfl)) ?_
        refine W.g rfl rfl rfl rfl rfl (.g rfl _) rfl (by decide) (fun hG => Yd.eql rfl (.g rfl hG) (.g rfl hG)) ?_
        refine W.g rfl rfl rfl rfl rfl (.t rfl _) rfl (by decide) (fun hG => Yd.andG rfl (.g rfl hG) .c rfl rfl hG) ?_
        refine W.q rfl rfl rfl rfl (by decide) (Yd.or rfl (.t rfl) .c rfl rfl) ?_
        refine W.q rfl rfl rfl rfl (by decide) (Yd.as rfl (.t rfl)) ?_
        refine W.end ?_
        refine NX.sub (env' := [(8, _)]) ⟨rfl, trivial⟩ ?_
        refine NX.drop (l' := l) (.cons _ (.refl _)) ?_
        refine NX.then ?_
        refine Tr.ret' ?_
        refine res1 rfl rfl ?_
        intro w hc
        cases hr
        exact ⟨rfl, hc⟩
    refine Tr.cond (.t rfl) (fun hb => ?_) (fun hb => ?_)
    · have hr := cond_t hb hr
      refine Tr.region_f (fun _ => false) ?_
      refine W.q rfl rfl rfl rfl (by decide) (Yd.mv rfl (.t rfl)) ?_
      refine W.q rfl rfl rfl rfl (by decide) (Yd.mv rfl (.t rfl)) ?_
      refine W.q rfl rfl rfl rfl (by decide) (Yd.sub rfl (.t rfl) (.t rfl)) ?_
      refine W.q rfl rfl rfl rfl (by decide) (Yd.as rfl (.t rfl)) ?_
      refine W.end ?_
      refine NX.sub (env' := [(3, _), (9, _), (11, _)]) ⟨rfl, rfl, rfl, trivial⟩ ?_
      refine NX.sub (env' := [(3, _), (9, _), (11, _)]) ⟨rfl, rfl, rfl, trivial⟩ ?_
      exact hk16 _ _ ⟨_, rfl, rfl, hr⟩
    · have hr := cond_f hb hr
      refine Tr.skip' ?_
      refine NX.sub (env' := [(3, _), (9, _), (11, _)]) ⟨rfl, rfl, rfl, trivial⟩ ?_
      exact hk16 _ _ ⟨_, rfl, rfl, hr⟩
  obtain ⟨hle23, hr⟩ := guard_some hr; replace hle23 := of_decide_eq_true hle23
  refine Tr.block ?_
  refine Tr.sub (env' := [(0, _), (2, _), (3, _), (5, _), (9, _), (10, _)]) ⟨rfl, rfl, rfl, rfl, rfl, rfl, trivial⟩ ?_
  refine Tr.loop (S := fun n (z : Int × (List Int)) env x => match z with | (v_24, l8) => ∃ v9 : Value, env = [(0, .int .i64 n_0), (2, .int .i64 i_2), (3, .int .i64 j_3), (5, bp b1 0), (9, v9), (10, .int .i64 v_24)] ∧ x = ⟨m, hownT 3 1 encI v9 l8 :: hcells b1 [.int .u32 (c_1.yes.toNat : Int), .int .u32 (c_1.no.toNat : Int)] 46 :: l⟩ ∧ n = (n_0 - v_24).toNat ∧ 0 ≤ v_24 ∧ forK (σ := (List Int)) (fun i s nx_ => syllogistref_Said_b25 n_0 c_1 i s nx_) (fun s => syllogistref_Said_k12 n_0 i_2 j_3 s) n v_24 l8 = some r) _ ((0 : Int), ([] : List Int)) ⟨_, rfl, rfl, rfl, (by omega), hr⟩ ?_
  rintro n27 ⟨v_24, l8⟩ env x ⟨v9, rfl, rfl, hnv_24, h0v_24, hr⟩
  cases n27 with
  | zero =>
    simp only [forK] at hr
    refine Tr.seq ?_
    refine Tr.seq ?_
    refine Tr.region_f (fun _ => false) ?_
    refine W.q rfl rfl rfl rfl (by decide) (Yd.mv rfl (.t rfl)) ?_
    refine W.q rfl rfl rfl rfl (by decide) (Yd.mv rfl (.t rfl)) ?_
    refine W.q rfl rfl rfl rfl (by decide) (Yd.lss rfl (.t rfl) (.t rfl)) ?_
    refine W.end ?_
    refine NX.sub (env' := [(0, _), (2, _), (3, _), (5, _), (9, _), (10, _), (14, _)]) ⟨rfl, rfl, rfl, rfl, rfl, rfl, rfl, trivial⟩ ?_
    refine NX.then ?_
    refine Tr.cond (.t rfl) (fun hb => ?_) (fun hb => ?_)
    · exact absurd (hb.symm.trans (fr_end hnv_24)) (by decide)
    ·
      refine Tr.exit' (EX.then (EX.then (EX.block ?_)))
      refine NX.sub (env' := [(0, _), (2, _), (3, _), (9, _)]) ⟨rfl, rfl, rfl, rfl, trivial⟩ ?_
      refine NX.drop (l' := hownT 3 1 encI v9 _ :: l) (.cons_cons _ (.cons _ (.refl _))) ?_
      exact hk13 _ _ ⟨_, _, rfl, rfl, hr⟩
  | succ n27 =>
    obtain ⟨nx26, hnx26, hr⟩ := forK_succ hr
    try dsimp only at hr
    unfold syllogistref_Said_b25 at hr
    try dsimp only at hr
    have hltv_24 := fr_bnd hnv_24
    refine Tr.seq ?_
    refine Tr.seq ?_
    refine Tr.region_f (fun _ => false) ?_
    refine W.q rfl rfl rfl rfl (by decide) (Yd.mv rfl (.t rfl)) ?_
    refine W.q rfl rfl rfl rfl (by decide) (Yd.mv rfl (.t rfl)) ?_
    refine W.q rfl rfl rfl rfl (by decide) (Yd.lss rfl (.t rfl) (.t rfl)) ?_
    refine W.end ?_
    refine NX.sub (env' := [(0, _), (2, _), (3, _), (5, _), (9, _), (10, _), (14, _)]) ⟨rfl, rfl, rfl, rfl, rfl, rfl, rfl, trivial⟩ ?_
    refine NX.then ?_
    refine Tr.cond (.t rfl) (fun hb => ?_) (fun hb => ?_)
    rotate_left
    · exact absurd (hb.symm.trans (fr_go hnv_24)) (by decide)
    ·
      refine Tr.skip' ?_
      refine NX.then ?_
      refine Tr.seq ?_
      refine Tr.block ?_
      refine Tr.seq ?_
      refine Tr.seq ?_
      obtain ⟨r28, hr29, hr⟩ := bind_some hr
      refine Tr.region_f (fun _ => false) ?_
      refine W.q rfl rfl rfl rfl (by decide) (Yd.fldB rfl Try.underlying46 rfl SZ41 rfl (.t rfl)) ?_
      refine W.q rfl rfl rfl rfl (by decide) (Yd.ldB (pos := 1) rfl rfl rfl ON41 (.t rfl)) ?_
      refine W.q rfl rfl rfl rfl (by decide) (Yd.mv rfl (.t rfl)) ?_
      refine W.q rfl rfl rfl rfl (by decide) (Yd.call (v := .bool r28) rfl Try.func33 rfl rfl (.cons (.t rfl) (.cons (.t rfl) .nil)) (fun x' hx w hw => syllogistref_Bit_ok w0 x'.m x'.l c_1.yes v_24 _ hr29 w hw)) ?_
      refine W.end ?_
      refine NX.sub (env' := [(0, _), (2, _), (3, _), (5, _), (9, _), (10, _), (20, _)]) ⟨rfl, rfl, rfl, rfl, rfl, rfl, rfl, trivial⟩ ?_
      refine NX.then ?_
      refine Tr.join (S := fun env x => ∃ l30 : List Int, ∃ v31 : Value, env = [(0, .int .i64 n_0), (2, .int .i64 i_2), (3, .int .i64 j_3), (5, bp b1 0), (9, v31), (10, .int .i64 v_24)] ∧ x = ⟨m, hownT 3 1 encI v31 l30 :: hcells b1 [.int .u32 (c_1.yes.toNat : Int), .int .u32 (c_1.no.toNat : Int)] 46 :: l⟩ ∧ syllogistref_Said_k32 n_0 c_1 v_24 nx26 l30 = some r) ?_ (fun hk33 => ?_)
      · rintro _ _ ⟨l30, v31, rfl, rfl, hr⟩
        unfold syllogistref_Said_k32 at hr
        try dsimp only at hr
        refine NX.then ?_
        refine Tr.seq ?_
        obtain ⟨r34, hr35, hr⟩ := bind_some hr
        refine Tr.region_f (fun _ => false) ?_
        refine W.q rfl rfl rfl rfl (by decide) (Yd.fldB rfl Try.underlying46 rfl SZ41 rfl (.t rfl)) ?_
        refine W.q rfl rfl rfl rfl (by decide) (Yd.ldB (pos := 1) rfl rfl rfl ON41 (.t rfl)) ?_
        refine W.q rfl rfl rfl rfl (by decide) (Yd.mv rfl (.t rfl)) ?_
        refine W.q rfl rfl rfl rfl (by decide) (Yd.call (v := .bool r34) rfl Try.func33 rfl rfl (.cons (.t rfl) (.cons (.t rfl) .nil)) (fun x' hx w hw => syllogistref_Bit_ok w0 x'.m x'.l c_1.no v_24 _ hr35 w hw)) ?_
        refine W.end ?_
        refine NX.sub (env' := [(0, _), (2, _), (3, _), (5, _), (9, _), (10, _), (28, _)]) ⟨rfl, rfl, rfl, rfl, rfl, rfl, rfl, trivial⟩ ?_
        refine NX.then ?_
        refine Tr.cond (.t rfl) (fun hb => ?_) (fun hb => ?_)
        · have hr := cond_t hb hr
          obtain ⟨hq39, hr⟩ := guard_some hr; replace hq39 := of_decide_eq_true hq39
          refine Tr.region_f (fun i => Nat.beq i 4 || Nat.beq i 5) ?_
          refine W.q rfl rfl rfl rfl (by decide) (Yd.mv rfl (.t rfl)) ?_
          refine W.q rfl rfl rfl rfl (by decide) (Yd.mv rfl (.t rfl)) ?_
          refine W.q rfl rfl rfl rfl (by decide) (Yd.mv rfl (.t rfl)) ?_
          refine W.q rfl rfl rfl rfl (by decide) (Yd.add rfl (.t rfl) (.t rfl)) ?_
          refine W.e rfl rfl rfl rfl (by decide) (Ef.bsT (enc := encI) (vs := [_]) (ys := [(w64 (v_24 + n_0))]) (fun _ => rfl) IF3 rfl Try.underlying90 (by decide) rfl (.cons (.t rfl) .nil) rfl rfl (by decide)) ?_
          rintro v36 _ rfl
          refine ⟨.inl rfl, ?_⟩
          refine W.cast (m' := m) (l' := hownT 3 1 encI v36 _ :: hownT 3 1 encI v31 _ :: hcells b1 [_, _] 46 :: l) rfl rfl ?_
          refine W.e rfl rfl rfl rfl (by decide) (Ef.apI (pos := 1) (enc := encI) (xs := l30) (ys := ([(w64 (v_24 + n_0))] : List Int)) (fun _ => rfl) IF3 rfl rfl Try.underlying90 rfl (by decide) (.t rfl) (.t rfl) (Src.own (pos := 0) rfl) (fun _ => rfl) (by omega) (by omega)) ?_
          rintro v38 _ rfl
          refine ⟨.inl rfl, ?_⟩
          refine W.cast (m' := m) (l' := hownT 3 1 encI v36 _ :: hownT 3 1 encI v38 _ :: hcells b1 [_, _] 46 :: l) rfl rfl ?_
          refine W.q rfl rfl rfl rfl (by decide) (Yd.as rfl (.t rfl)) ?_
          refine W.end ?_
          refine NX.sub (env' := [(0, _), (2, _), (3, _), (5, _), (9, _), (10, _)]) ⟨rfl, rfl, rfl, rfl, rfl, rfl, trivial⟩ ?_
          refine NX.drop (l' := hownT 3 1 encI v38 _ :: hcells b1 [_, _] 46 :: l) (.cons _ (.cons_cons _ (.cons_cons _ (.refl _)))) ?_
          refine NX.block ?_
          refine NX.then ?_
          refine Tr.region_f (fun _ => false) ?_
          refine W.q rfl rfl rfl rfl (by decide) (Yd.mv rfl (.t rfl)) ?_
          refine W.q rfl rfl rfl rfl (by decide) (Yd.add rfl (.t rfl) .c) ?_
          refine W.q rfl rfl rfl rfl (by decide) (Yd.as rfl (.t rfl)) ?_
          refine W.end ?_
          refine NX.sub (env' := [(0, _), (2, _), (3, _), (5, _), (9, _), (10, _)]) ⟨rfl, rfl, rfl, rfl, rfl, rfl, trivial⟩ ?_
          refine NX.sub (env' := [(0, _), (2, _), (3, _), (5, _), (9, _), (10, _)]) ⟨rfl, rfl, rfl, rfl, rfl, rfl, trivial⟩ ?_
          have hw := w64_id (n := v_24 + 1) (by omega) (by omega)
          exact NX.again n27 (v_24 + 1, (l30 ++ ([(w64 (v_24 + n_0))] : List Int))) (Nat.lt_succ_self _) ⟨_, (by rw [hw] <;> rfl), rfl, (fr_dec hnv_24), (by omega), ((hnx26 _).symm.trans hr)⟩
        · have hr := cond_f hb hr
          refine Tr.skip' ?_
          refine NX.block ?_
          refine NX.then ?_
          refine Tr.region_f (fun _ => false) ?_
          refine W.q rfl rfl rfl rfl (by decide) (Yd.mv rfl (.t rfl)) ?_
          refine W.q rfl rfl rfl rfl (by decide) (Yd.add rfl (.t rfl) .c) ?_
          refine W.q rfl rfl rfl rfl (by decide) (Yd.as rfl (.t rfl)) ?_
          refine W.end ?_
          refine NX.sub (env' := [(0, _), (2, _), (3, _), (5, _), (9, _), (10, _)]) ⟨rfl, rfl, rfl, rfl, rfl, rfl, trivial⟩ ?_
          refine NX.sub (env' := [(0, _), (2, _), (3, _), (5, _), (9, _), (10, _)]) ⟨rfl, rfl, rfl, rfl, rfl, rfl, trivial⟩ ?_
          have hw := w64_id (n := v_24 + 1) (by omega) (by omega)
          exact NX.again n27 (v_24 + 1, l30) (Nat.lt_succ_self _) ⟨_, (by rw [hw] <;> rfl), rfl, (fr_dec hnv_24), (by omega), ((hnx26 _).symm.trans hr)⟩
      refine Tr.cond (.t rfl) (fun hb => ?_) (fun hb => ?_)
      · have hr := cond_t hb hr
        obtain ⟨hq43, hr⟩ := guard_some hr; replace hq43 := of_decide_eq_true hq43
        refine Tr.region_f (fun i => Nat.beq i 2 || Nat.beq i 3) ?_
        refine W.q rfl rfl rfl rfl (by decide) (Yd.mv rfl (.t rfl)) ?_
        refine W.q rfl rfl rfl rfl (by decide) (Yd.mv rfl (.t rfl)) ?_
        refine W.e rfl rfl rfl rfl (by decide) (Ef.bsT (enc := encI) (vs := [_]) (ys := [v_24]) (fun _ => rfl) IF3 rfl Try.underlying90 (by decide) rfl (.cons (.t rfl) .nil) rfl rfl (by decide)) ?_
        rintro v40 _ rfl
        refine ⟨.inl rfl, ?_⟩
        refine W.cast (m' := m) (l' := hownT 3 1 encI v40 _ :: hownT 3 1 encI v9 _ :: hcells b1 [_, _] 46 :: l) rfl rfl ?_
        refine W.e rfl rfl rfl rfl (by decide) (Ef.apI (pos := 1) (enc := encI) (xs := l8) (ys := ([v_24] : List Int)) (fun _ => rfl) IF3 rfl rfl Try.underlying90 rfl (by decide) (.t rfl) (.t rfl) (Src.own (pos := 0) rfl) (fun _ => rfl) (by omega) (by omega)) ?_
        rintro v42 _ rfl
        refine ⟨.inl rfl, ?_⟩
        refine W.cast (m' := m) (l' := hownT 3 1 encI v40 _ :: hownT 3 1 encI v42 _ :: hcells b1 [_, _] 46 :: l) rfl rfl ?_
        refine W.q rfl rfl rfl rfl (by decide) (Yd.as rfl (.t rfl)) ?_
        refine W.end ?_
        refine NX.sub (env' := [(0, _), (2, _), (3, _), (5, _), (9, _), (10, _)]) ⟨rfl, rfl, rfl, rfl, rfl, rfl, trivial⟩ ?_
        refine NX.drop (l' := hownT 3 1 encI v42 _ :: hcells b1 [_, _] 46 :: l) (.cons _ (.cons_cons _ (.cons_cons _ (.refl _)))) ?_
        refine NX.sub (env' := [(0, _), (2, _), (3, _), (5, _), (9, _), (10, _)]) ⟨rfl, rfl, rfl, rfl, rfl, rfl, trivial⟩ ?_
        exact hk33 _ _ ⟨_, _, rfl, rfl, hr⟩
      · have hr := cond_f hb hr
        refine Tr.skip' ?_
        refine NX.sub (env' := [(0, _), (2, _), (3, _), (5, _), (9, _), (10, _)]) ⟨rfl, rfl, rfl, rfl, rfl, rfl, trivial⟩ ?_
        exact hk33 _ _ ⟨_, _, rfl, rfl, hr⟩

def syllogistref_Has_k3 : Option (Bool) :=
  some false

def syllogistref_Has_b7 (l_0 : List Int) (x_1 : Int) (t_6 : Int) (nx8 : Unit → Option (Bool)) : Option (Bool) :=
  (geti l_0 t_6).bind fun y10 =>
  (bif (x_1 == y10) then
  some true
  else
  nx8 ())

def syllogistref_Has (l_0 : List Int) (x_1 : Int) : Option (Bool) :=
  forK (σ := Unit) (fun i s nx_ => syllogistref_Has_b7 l_0 x_1 i nx_) (fun _ => syllogistref_Has_k3) ((l_0.length : Int) - (0 : Int)).toNat (0 : Int) ()

set_option maxRecDepth 100000 in
theorem syllogistref_Has_ok (w0 : World) (m : Snap) (l : List HI) (ul_0 : Value) (l_0 : List Int) (hl_0 : RS rI m ul_0 l_0) (x_1 : Int) (r : Bool) (hr : syllogistref_Has l_0 x_1 = some r) (w : World) (hc : cX w0 ⟨m, l⟩ w) :
    Calls Try.prog 57 [ul_0, .int .i64 x_1].toArray w fun e w' => e = .returned (.bool r) ∧ cX w0 ⟨m, l⟩ w' := by
  unfold syllogistref_Has at hr
  refine calls_of_Tr (N := 17) Try.func57 rfl hc rfl (Nat.le_of_ble_eq_true rfl) ?_
  refine Tr.seq ?_
  refine Tr.region_f (fun _ => false) ?_
  refine W.q rfl rfl rfl rfl (by decide) (Yd.as rfl .c) ?_
  refine W.end ?_
  refine NX.sub (env' := [(0, _), (1, _)]) ⟨rfl, rfl, trivial⟩ ?_
  refine NX.then ?_
  refine Tr.seq ?_
  refine Tr.seq ?_
  refine Tr.region_f (fun _ => false) ?_
  refine W.q rfl rfl rfl rfl (by decide) (Yd.mv rfl (.t rfl)) ?_
  refine W.q rfl rfl rfl rfl (by decide) (Yd.lenR hl_0 rfl Try.underlying90 (.t rfl)) ?_
  refine W.q rfl rfl rfl rfl (by decide) (Yd.mv rfl .c) ?_
  refine W.end ?_
  refine NX.sub (env' := [(1, _), (7, _), (8, _), (9, _)]) ⟨rfl, rfl, rfl, rfl, trivial⟩ ?_
  refine NX.then ?_
  refine Tr.join (S := fun env x => env = [] ∧ x = ⟨m, l⟩ ∧ syllogistref_Has_k3 = some r) ?_ (fun hk4 => ?_)
  · rintro _ _ ⟨rfl, rfl, hr⟩
    unfold syllogistref_Has_k3 at hr
    try dsimp only at hr
    refine NX.then ?_
    refine Tr.seq ?_
    refine Tr.region_f (fun _ => false) ?_
    refine W.q rfl rfl rfl rfl (by decide) (Yd.as rfl .c) ?_
    refine W.end ?_
    refine NX.sub (env' := [(4, _)]) ⟨rfl, trivial⟩ ?_
    refine NX.then ?_
    refine Tr.ret' ?_
    refine res1 rfl rfl ?_
    intro w hc
    cases hr
    exact ⟨rfl, hc⟩
  have hlen5 := (hl_0).2.1
  refine Tr.block ?_
  refine Tr.sub (env' := [(1, _), (7, _), (8, _), (9, _)]) ⟨rfl, rfl, rfl, rfl, trivial⟩ ?_
  refine Tr.loop (S := fun n (z : Int × Unit) env x => match z with | (t_6, _) => env = [(1, .int .i64 x_1), (7, ul_0), (8, .int .i64 ((l_0.length : Int))), (9, .int .i64 t_6)] ∧ x = ⟨m, l⟩ ∧ n = ((l_0.length : Int) - t_6).toNat ∧ 0 ≤ t_6 ∧ forK (σ := Unit) (fun i s nx_ => syllogistref_Has_b7 l_0 x_1 i nx_) (fun _ => syllogistref_Has_k3) n t_6 () = some r) _ ((0 : Int), ()) ⟨rfl, rfl, rfl, (by omega), hr⟩ ?_
  rintro n9 ⟨t_6, _⟩ env x ⟨rfl, rfl, hnt_6, h0t_6, hr⟩
  cases n9 with
  | zero =>
    simp only [forK] at hr
    refine Tr.seq ?_
    refine Tr.region_f (fun _ => false) ?_
    refine W.q rfl rfl rfl rfl (by decide) (Yd.lss rfl (.t rfl) (.t rfl)) ?_
    refine W.end ?_
    refine NX.sub (env' := [(1, _), (7, _), (8, _), (9, _), (10, _)]) ⟨rfl, rfl, rfl, rfl, rfl, trivial⟩ ?_
    refine NX.then ?_
    refine Tr.seq ?_
    refine Tr.cond (.t rfl) (fun hb => ?_) (fun hb => ?_)
    · exact absurd (hb.symm.trans (fr_end hnt_6)) (by decide)
    ·
      refine Tr.exit' (EX.then (EX.then (EX.block ?_)))
      refine NX.sub (env' := []) trivial ?_
      exact hk4 _ _ ⟨rfl, rfl, hr⟩
  | succ n9 =>
    obtain ⟨nx8, hnx8, hr⟩ := forK_succ hr
    try dsimp only at hr
    unfold syllogistref_Has_b7 at hr
    try dsimp only at hr
    have hltt_6 := fr_bnd hnt_6
    refine Tr.seq ?_
    refine Tr.region_f (fun _ => false) ?_
    refine W.q rfl rfl rfl rfl (by decide) (Yd.lss rfl (.t rfl) (.t rfl)) ?_
    refine W.end ?_
    refine NX.sub (env' := [(1, _), (7, _), (8, _), (9, _), (10, _)]) ⟨rfl, rfl, rfl, rfl, rfl, trivial⟩ ?_
    refine NX.then ?_
    refine Tr.seq ?_
    refine Tr.cond (.t rfl) (fun hb => ?_) (fun hb => ?_)
    rotate_left
    · exact absurd (hb.symm.trans (fr_go hnt_6)) (by decide)
    ·
      refine Tr.skip' ?_
      refine NX.then ?_
      refine Tr.seq ?_
      refine Tr.block ?_
      refine Tr.seq ?_
      obtain ⟨y10, hy11, hr⟩ := bind_some hr
      refine Tr.region_f (fun _ => false) ?_
      refine W.q rfl rfl rfl rfl (by decide) (Yd.idxR hl_0 hy11 rfl Try.underlying90 SZ3 (.t rfl) (.t rfl)) ?_
      refine W.q rfl rfl rfl rfl (by decide) (Yd.ldF hl_0 (.refl _) hy11 rfl rfl ON3 (.t rfl)) ?_
      refine W.q rfl rfl rfl rfl (by decide) (Yd.as rfl (.t rfl)) ?_
      refine W.end ?_
      refine NX.sub (env' := [(1, _), (7, _), (8, _), (9, _), (6, _)]) ⟨rfl, rfl, rfl, rfl, rfl, trivial⟩ ?_
      refine NX.then ?_
      refine Tr.seq ?_
      refine Tr.region_f (fun _ => false) ?_
      refine W.q rfl rfl rfl rfl (by decide) (Yd.mv rfl (.t rfl)) ?_
      refine W.q rfl rfl rfl rfl (by decide) (Yd.mv rfl (.t rfl)) ?_
      refine W.q rfl rfl rfl rfl (by decide) (Yd.eql rfl (.t rfl) (.t rfl)) ?_
      refine W.end ?_
      refine NX.sub (env' := [(1, _), (7, _), (8, _), (9, _), (15, _)]) ⟨rfl, rfl, rfl, rfl, rfl, trivial⟩ ?_
      refine NX.then ?_
      refine Tr.cond (.t rfl) (fun hb => ?_) (fun hb => ?_)
      · have hr := cond_t hb hr
        refine Tr.seq ?_
        refine Tr.region_f (fun _ => false) ?_
        refine W.q rfl rfl rfl rfl (by decide) (Yd.as rfl .c) ?_
        refine W.end ?_
        refine NX.sub (env' := [(4, _)]) ⟨rfl, trivial⟩ ?_
        refine NX.then ?_
        refine Tr.ret' (RT.block (RT.then (RT.then (RT.block (RT.then ?_)))))
        refine res1 rfl rfl ?_
        intro w hc
        cases hr
        exact ⟨rfl, hc⟩
      · have hr := cond_f hb hr
        refine Tr.skip' ?_
        refine NX.block ?_
        refine NX.then ?_
        refine Tr.region_f (fun _ => false) ?_
        refine W.q rfl rfl rfl rfl (by decide) (Yd.add rfl (.t rfl) .c) ?_
        refine W.q rfl rfl rfl rfl (by decide) (Yd.mv rfl (.t rfl)) ?_
        refine W.end ?_
        refine NX.sub (env' := [(1, _), (7, _), (8, _), (9, _)]) ⟨rfl, rfl, rfl, rfl, trivial⟩ ?_
        refine NX.sub (env' := [(1, _), (7, _), (8, _), (9, _)]) ⟨rfl, rfl, rfl, rfl, trivial⟩ ?_
        have hw := w64_id (n := t_6 + 1) (by omega) (by omega)
        exact NX.again n9 (t_6 + 1, ()) (Nat.lt_succ_self _) ⟨(by rw [hw] <;> rfl), rfl, (fr_dec hnt_6), (by omega), ((hnx8 _).symm.trans hr)⟩

def syllogistref_Reach_k14 (set_11 : BitVec 32) : Option ((BitVec 32)) :=
  some set_11

def syllogistref_Reach_k29 (set_7 : BitVec 32) (k_8 : Int) (nx17 : (((BitVec 32) × Int × (List Int)) → Option ((BitVec 32)))) (y19 : Int) (l27 : List Int) : Option ((BitVec 32)) :=
  nx17 ((set_7 ||| (1#32 <<< ((BitVec.ofInt 64 y19)).toNat)), (w64 (k_8 + (1 : Int))), l27)

def syllogistref_Reach_k44 (nx34 : ((List Int) → Option ((BitVec 32)))) (l42 : List Int) : Option ((BitVec 32)) :=
  nx34 l42

def syllogistref_Reach_b48 (n_0 : Int) (l_1 : List Clause) (k_8 : Int) (j_32 : Int) (t_47 : Int) (l40 : List Int) (nx49 : (List Int) → Option ((BitVec 32))) : Option ((BitVec 32)) :=
  (geti l_1 t_47).bind fun y51 =>
  (geti l40 k_8).bind fun y55 =>
  (syllogistref_Said n_0 (({ yes := y51.yes, no := y51.no } : Clause)) y55 j_32).bind fun r57 =>
  bif (!(r57 == true) || (syllogistref_Has l40 j_32).isSome) then
  (bif (r57 && (!(((syllogistref_Has l40 j_32).getD false)))) then
  bif decide (l40.length + (([j_32] : List Int)).length ≤ 17592186044416) then
  nx49 (l40 ++ ([j_32] : List Int)) else none
  else
  nx49 l40) else none

def syllogistref_Reach_b33 (n_0 : Int) (l_1 : List Clause) (k_8 : Int) (j_32 : Int) (l25 : List Int) (nx34 : (List Int) → Option ((BitVec 32))) : Option ((BitVec 32)) :=
  forK (σ := (List Int)) (fun i s nx_ => syllogistref_Reach_b48 n_0 l_1 k_8 j_32 i s nx_) (fun s => syllogistref_Reach_k44 nx34 s) ((l_1.length : Int) - (0 : Int)).toNat (0 : Int) l25

def syllogistref_Reach_b16 (n_0 : Int) (l_1 : List Clause) (set_7 : BitVec 32) (k_8 : Int) (l9 : List Int) (nx17 : ((BitVec 32) × Int × (List Int)) → Option ((BitVec 32))) : Option ((BitVec 32)) :=
  (bif (decide (k_8 < (l9.length : Int))) then
  (geti l9 k_8).bind fun y19 =>
  bif decide ((w64 (n_0 + n_0)) ≤ 9223372036854775807) then
  forK (σ := (List Int)) (fun i s nx_ => syllogistref_Reach_b33 n_0 l_1 k_8 i s nx_) (fun s => syllogistref_Reach_k29 set_7 k_8 nx17 y19 s) ((w64 (n_0 + n_0)) - (0 : Int)).toNat (0 : Int) l9 else none
  else
  syllogistref_Reach_k14 set_7)

def syllogistref_Reach (fuel : Nat) (n_0 : Int) (l_1 : List Clause) (i_2 : Int) : Option ((BitVec 32)) :=
  whileK (σ := (BitVec 32) × Int × (List Int)) (fun s nx_ => syllogistref_Reach_b16 n_0 l_1 s.1 s.2.1 s.2.2 nx_) fuel ((0#32), ((0 : Int)), (([i_2] : List Int)))

set_option maxRecDepth 100000 in
theorem syllogistref_Reach_ok (w0 : World) (m : Snap) (l : List HI) (fuel : Nat) (n_0 : Int) (ul_1 : Value) (l_1 : List Clause) (hl_1 : RS rClause m ul_1 l_1) (i_2 : Int) (r : (BitVec 32)) (hr : syllogistref_Reach fuel n_0 l_1 i_2 = some r) (w : World) (hc : cX w0 ⟨m, l⟩ w) :
    Calls Try.prog 31 [.int .i64 n_0, ul_1, .int .i64 i_2].toArray w fun e w' => e = .returned (.int .u32 (r.toNat : Int)) ∧ cX w0 ⟨m, l⟩ w' := by
  unfold syllogistref_Reach at hr
  refine calls_of_Tr (N := 62) Try.func31 rfl hc rfl (Nat.le_of_ble_eq_true rfl) ?_
  refine Tr.seq ?_
  refine Tr.region_f (fun _ => false) ?_
  refine W.q rfl rfl rfl rfl (by decide) (Yd.as rfl .c) ?_
  refine W.end ?_
  refine NX.sub (env' := [(0, _), (1, _), (2, _)]) ⟨rfl, rfl, rfl, trivial⟩ ?_
  refine NX.then ?_
  refine Tr.seq ?_
  refine Tr.region_f (fun i => Nat.beq i 1) ?_
  refine W.q rfl rfl rfl rfl (by decide) (Yd.mv rfl (.t rfl)) ?_
  refine W.e rfl rfl rfl rfl (by decide) (Ef.bsT (enc := encI) (vs := [_]) (ys := [i_2]) (fun _ => rfl) IF3 rfl Try.underlying90 (by decide) rfl (.cons (.t rfl) .nil) rfl rfl (by decide)) ?_
  rintro v1 _ rfl
  refine ⟨.inl rfl, ?_⟩
  refine W.cast (m' := m) (l' := hownT 3 1 encI v1 _ :: l) rfl rfl ?_
  refine W.q rfl rfl rfl rfl (by decide) (Yd.as rfl (.t rfl)) ?_
  refine W.end ?_
  refine NX.sub (env' := [(0, _), (1, _), (7, _)]) ⟨rfl, rfl, rfl, trivial⟩ ?_
  refine NX.then ?_
  refine Tr.seq ?_
  refine Tr.region_f (fun _ => false) ?_
  refine W.q rfl rfl rfl rfl (by decide) (Yd.as rfl .c) ?_
  refine W.end ?_
  refine NX.sub (env' := [(0, _), (1, _), (7, _), (8, _)]) ⟨rfl, rfl, rfl, rfl, trivial⟩ ?_
  refine NX.then ?_
  refine Tr.seq ?_
  refine Tr.seq ?_
  refine Tr.region_f (fun _ => false) ?_
  refine W.q rfl rfl rfl rfl (by decide) (Yd.as rfl .c) ?_
  refine W.end ?_
  refine NX.sub (env' := [(0, _), (1, _), (7, _), (8, _), (9, _)]) ⟨rfl, rfl, rfl, rfl, rfl, trivial⟩ ?_
  refine NX.then ?_
  refine Tr.join (S := fun env x => ∃ set_11 : BitVec 32, env = [(8, .int .u32 (set_11.toNat : Int))] ∧ x = ⟨m, l⟩ ∧ syllogistref_Reach_k14 set_11 = some r) ?_ (fun hk15 => ?_)
  · rintro _ _ ⟨set_11, rfl, rfl, hr⟩
    unfold syllogistref_Reach_k14 at hr
    try dsimp only at hr
    refine NX.then ?_
    refine Tr.seq ?_
    refine Tr.region_f (fun _ => false) ?_
    refine W.q rfl rfl rfl rfl (by decide) (Yd.mv rfl (.t rfl)) ?_
    refine W.q rfl rfl rfl rfl (by decide) (Yd.as rfl (.t rfl)) ?_
    refine W.end ?_
    refine NX.sub (env' := [(6, _)]) ⟨rfl, trivial⟩ ?_
    refine NX.then ?_
    refine Tr.ret' ?_
    refine res1 rfl rfl ?_
    intro w hc
    cases hr
    exact ⟨rfl, hc⟩
  refine Tr.block ?_
  refine Tr.sub (env' := [(0, _), (1, _), (7, _), (8, _), (9, _)]) ⟨rfl, rfl, rfl, rfl, rfl, trivial⟩ ?_
  refine Tr.loop (S := fun n (z : (BitVec 32) × Int × (List Int)) env x => match z with | (set_7, k_8, l9) => ∃ v10 : Value, env = [(0, .int .i64 n_0), (1, ul_1), (7, v10), (8, .int .u32 (set_7.toNat : Int)), (9, .int .i64 k_8)] ∧ x = ⟨m, hownT 3 1 encI v10 l9 :: l⟩ ∧ whileK (σ := (BitVec 32) × Int × (List Int)) (fun s nx_ => syllogistref_Reach_b16 n_0 l_1 s.1 s.2.1 s.2.2 nx_) n (set_7, k_8, l9) = some r) _ (0#32, (0 : Int), ([i_2] : List Int)) ⟨_, rfl, rfl, hr⟩ ?_
  rintro n18 ⟨set_7, k_8, l9⟩ env x ⟨v10, rfl, rfl, hr⟩
  cases n18 with
  | zero => simp [whileK] at hr
  | succ n18 =>
    obtain ⟨nx17, hnx17, hr⟩ := whileK_succ hr
    try dsimp only at hr
    unfold syllogistref_Reach_b16 at hr
    try dsimp only at hr
    refine Tr.seq ?_
    refine Tr.seq ?_
    refine Tr.region_f (fun _ => false) ?_
    refine W.q rfl rfl rfl rfl (by decide) (Yd.mv rfl (.t rfl)) ?_
    refine W.q rfl rfl rfl rfl (by decide) (Yd.mv rfl (.t rfl)) ?_
    refine W.q rfl rfl rfl rfl (by decide) (Yd.lenO (p := 0) rfl rfl Try.underlying90 (.t rfl)) ?_
    refine W.q rfl rfl rfl rfl (by decide) (Yd.lss rfl (.t rfl) (.t rfl)) ?_
    refine W.end ?_
    refine NX.sub (env' := [(0, _), (1, _), (7, _), (8, _), (9, _), (18, _)]) ⟨rfl, rfl, rfl, rfl, rfl, rfl, trivial⟩ ?_
    refine NX.then ?_
    refine Tr.cond (.t rfl) (fun hb => ?_) (fun hb => ?_)
    · have hr := cond_t hb hr
      refine Tr.skip' ?_
      refine NX.then ?_
      refine Tr.seq ?_
      refine Tr.block ?_
      refine Tr.seq ?_
      obtain ⟨y19, hy20, hr⟩ := bind_some hr
      refine Tr.region_f (fun _ => false) ?_
      refine W.q rfl rfl rfl rfl (by decide) (Yd.mv rfl (.t rfl)) ?_
      refine W.q rfl rfl rfl rfl (by decide) (Yd.mv rfl (.t rfl)) ?_
      refine W.q rfl rfl rfl rfl (by decide) (Yd.mv rfl (.t rfl)) ?_
      refine W.q rfl rfl rfl rfl (by decide) (Yd.idxT (pos := 0) rfl hy20 rfl Try.underlying90 SZ3 (.t rfl) (.t rfl)) ?_
      refine W.q rfl rfl rfl rfl (by decide) (Yd.ldT (enc := encI) (n := 1) (pos := 0) (fun _ => rfl) rfl hy20 rfl rfl ON3 (.t rfl)) ?_
      refine W.q rfl rfl rfl rfl (by decide) (Yd.cvQ rfl US3 Try.underlying48 (.t rfl)) ?_
      refine W.q rfl rfl rfl rfl (by decide) (Yd.shlU (a := 1#32) rfl .c (.t rfl) (Int.natCast_nonneg _)) ?_
      refine W.q rfl rfl rfl rfl (by decide) (Yd.orU (a := set_7) (b := (1#32 <<< ((BitVec.ofInt 64 y19)).toNat)) rfl (.t rfl) (.t rfl)) ?_
      refine W.q rfl rfl rfl rfl (by decide) (Yd.as rfl (.t rfl)) ?_
      refine W.end ?_
      refine NX.sub (env' := [(0, _), (1, _), (7, _), (8, _), (9, _)]) ⟨rfl, rfl, rfl, rfl, rfl, trivial⟩ ?_
      refine NX.then ?_
      refine Tr.seq ?_
      refine Tr.region_f (fun _ => false) ?_
      refine W.q rfl rfl rfl rfl (by decide) (Yd.as rfl .c) ?_
      refine W.end ?_
      refine NX.sub (env' := [(0, _), (1, _), (7, _), (8, _), (9, _), (10, _)]) ⟨rfl, rfl, rfl, rfl, rfl, rfl, trivial⟩ ?_
      refine NX.then ?_
      refine Tr.join (S := fun env x => ∃ l27 : List Int, ∃ v28 : Value, env = [(0, .int .i64 n_0), (1, ul_1), (7, v28), (8, .int .u32 (((set_7 ||| (1#32 <<< ((BitVec.ofInt 64 y19)).toNat))).toNat : Int)), (9, .int .i64 k_8)] ∧ x = ⟨m, hownT 3 1 encI v28 l27 :: l⟩ ∧ syllogistref_Reach_k29 set_7 k_8 nx17 y19 l27 = some r) ?_ (fun hk30 => ?_)
      · rintro _ _ ⟨l27, v28, rfl, rfl, hr⟩
        unfold syllogistref_Reach_k29 at hr
        try dsimp only at hr
        refine NX.block ?_
        refine NX.then ?_
        refine Tr.region_f (fun _ => false) ?_
        refine W.q rfl rfl rfl rfl (by decide) (Yd.mv rfl (.t rfl)) ?_
        refine W.q rfl rfl rfl rfl (by decide) (Yd.add rfl (.t rfl) .c) ?_
        refine W.q rfl rfl rfl rfl (by decide) (Yd.as rfl (.t rfl)) ?_
        refine W.end ?_
        refine NX.sub (env' := [(0, _), (1, _), (7, _), (8, _), (9, _)]) ⟨rfl, rfl, rfl, rfl, rfl, trivial⟩ ?_
        refine NX.sub (env' := [(0, _), (1, _), (7, _), (8, _), (9, _)]) ⟨rfl, rfl, rfl, rfl, rfl, trivial⟩ ?_
        exact NX.again n18 ((set_7 ||| (1#32 <<< ((BitVec.ofInt 64 y19)).toNat)), (w64 (k_8 + (1 : Int))), l27) (Nat.lt_succ_self _) ⟨_, rfl, rfl, ((hnx17 _).symm.trans hr)⟩
      obtain ⟨hle31, hr⟩ := guard_some hr; replace hle31 := of_decide_eq_true hle31
      refine Tr.block ?_
      refine Tr.sub (env' := [(0, _), (1, _), (7, _), (8, _), (9, _), (10, _)]) ⟨rfl, rfl, rfl, rfl, rfl, rfl, trivial⟩ ?_
      refine Tr.loop (S := fun n (z : Int × (List Int)) env x => match z with | (j_32, l25) => ∃ v26 : Value, env = [(0, .int .i64 n_0), (1, ul_1), (7, v26), (8, .int .u32 (((set_7 ||| (1#32 <<< ((BitVec.ofInt 64 y19)).toNat))).toNat : Int)), (9, .int .i64 k_8), (10, .int .i64 j_32)] ∧ x = ⟨m, hownT 3 1 encI v26 l25 :: l⟩ ∧ n = ((w64 (n_0 + n_0)) - j_32).toNat ∧ 0 ≤ j_32 ∧ forK (σ := (List Int)) (fun i s nx_ => syllogistref_Reach_b33 n_0 l_1 k_8 i s nx_) (fun s => syllogistref_Reach_k29 set_7 k_8 nx17 y19 s) n j_32 l25 = some r) _ ((0 : Int), l9) ⟨_, rfl, rfl, rfl, (by omega), hr⟩ ?_
      rintro n35 ⟨j_32, l25⟩ env x ⟨v26, rfl, rfl, hnj_32, h0j_32, hr⟩
      cases n35 with
      | zero =>
        simp only [forK] at hr
        refine Tr.seq ?_
        refine Tr.seq ?_
        refine Tr.region_f (fun _ => false) ?_
        refine W.q rfl rfl rfl rfl (by decide) (Yd.mv rfl (.t rfl)) ?_
        refine W.q rfl rfl rfl rfl (by decide) (Yd.mv rfl (.t rfl)) ?_
        refine W.q rfl rfl rfl rfl (by decide) (Yd.mv rfl (.t rfl)) ?_
        refine W.q rfl rfl rfl rfl (by decide) (Yd.add rfl (.t rfl) (.t rfl)) ?_
        refine W.q rfl rfl rfl rfl (by decide) (Yd.lss rfl (.t rfl) (.t rfl)) ?_
        refine W.end ?_
        refine NX.sub (env' := [(0, _), (1, _), (7, _), (8, _), (9, _), (10, _), (33, _)]) ⟨rfl, rfl, rfl, rfl, rfl, rfl, rfl, trivial⟩ ?_
        refine NX.then ?_
        refine Tr.cond (.t rfl) (fun hb => ?_) (fun hb => ?_)
        · exact absurd (hb.symm.trans (fr_end hnj_32)) (by decide)
        ·
          refine Tr.exit' (EX.then (EX.then (EX.block ?_)))
          refine NX.sub (env' := [(0, _), (1, _), (7, _), (8, _), (9, _)]) ⟨rfl, rfl, rfl, rfl, rfl, trivial⟩ ?_
          exact hk30 _ _ ⟨_, _, rfl, rfl, hr⟩
      | succ n35 =>
        obtain ⟨nx34, hnx34, hr⟩ := forK_succ hr
        try dsimp only at hr
        unfold syllogistref_Reach_b33 at hr
        try dsimp only at hr
        have hltj_32 := fr_bnd hnj_32
        refine Tr.seq ?_
        refine Tr.seq ?_
        refine Tr.region_f (fun _ => false) ?_
        refine W.q rfl rfl rfl rfl (by decide) (Yd.mv rfl (.t rfl)) ?_
        refine W.q rfl rfl rfl rfl (by decide) (Yd.mv rfl (.t rfl)) ?_
        refine W.q rfl rfl rfl rfl (by decide) (Yd.mv rfl (.t rfl)) ?_
        refine W.q rfl rfl rfl rfl (by decide) (Yd.add rfl (.t rfl) (.t rfl)) ?_
        refine W.q rfl rfl rfl rfl (by decide) (Yd.lss rfl (.t rfl) (.t rfl)) ?_
        refine W.end ?_
        refine NX.sub (env' := [(0, _), (1, _), (7, _), (8, _), (9, _), (10, _), (33, _)]) ⟨rfl, rfl, rfl, rfl, rfl, rfl, rfl, trivial⟩ ?_
        refine NX.then ?_
        refine Tr.cond (.t rfl) (fun hb => ?_) (fun hb => ?_)
        rotate_left
        · exact absurd (hb.symm.trans (fr_go hnj_32)) (by decide)
        ·
          refine Tr.skip' ?_
          refine NX.then ?_
          refine Tr.seq ?_
          refine Tr.block ?_
          refine Tr.seq ?_
          refine Tr.region_f (fun _ => false) ?_
          refine W.q rfl rfl rfl rfl (by decide) (Yd.mv rfl (.t rfl)) ?_
          refine W.q rfl rfl rfl rfl (by decide) (Yd.lenR hl_1 rfl Try.underlying40 (.t rfl)) ?_
          refine W.q rfl rfl rfl rfl (by decide) (Yd.mv rfl .c) ?_
          refine W.end ?_
          refine NX.sub (env' := [(0, _), (1, _), (7, _), (8, _), (9, _), (10, _), (36, _), (37, _), (38, _)]) ⟨rfl, rfl, rfl, rfl, rfl, rfl, rfl, rfl, rfl, trivial⟩ ?_
          refine NX.then ?_
          refine Tr.join (S := fun env x => ∃ l42 : List Int, ∃ v43 : Value, env = [(0, .int .i64 n_0), (1, ul_1), (7, v43), (8, .int .u32 (((set_7 ||| (1#32 <<< ((BitVec.ofInt 64 y19)).toNat))).toNat : Int)), (9, .int .i64 k_8), (10, .int .i64 j_32)] ∧ x = ⟨m, hownT 3 1 encI v43 l42 :: l⟩ ∧ syllogistref_Reach_k44 nx34 l42 = some r) ?_ (fun hk45 => ?_)
          · rintro _ _ ⟨l42, v43, rfl, rfl, hr⟩
            unfold syllogistref_Reach_k44 at hr
            try dsimp only at hr
            refine NX.block ?_
            refine NX.then ?_
            refine Tr.region_f (fun _ => false) ?_
            refine W.q rfl rfl rfl rfl (by decide) (Yd.mv rfl (.t rfl)) ?_
            refine W.q rfl rfl rfl rfl (by decide) (Yd.add rfl (.t rfl) .c) ?_
            refine W.q rfl rfl rfl rfl (by decide) (Yd.as rfl (.t rfl)) ?_
            refine W.end ?_
            refine NX.sub (env' := [(0, _), (1, _), (7, _), (8, _), (9, _), (10, _)]) ⟨rfl, rfl, rfl, rfl, rfl, rfl, trivial⟩ ?_
            refine NX.sub (env' := [(0, _), (1, _), (7, _), (8, _), (9, _), (10, _)]) ⟨rfl, rfl, rfl, rfl, rfl, rfl, trivial⟩ ?_
            have hw := w64_id (n := j_32 + 1) (by omega) (by omega)
            exact NX.again n35 (j_32 + 1, l42) (Nat.lt_succ_self _) ⟨_, (by rw [hw] <;> rfl), rfl, (fr_dec hnj_32), (by omega), ((hnx34 _).symm.trans hr)⟩
          have hlen46 := (hl_1).2.1
          refine Tr.block ?_
          refine Tr.sub (env' := [(0, _), (1, _), (7, _), (8, _), (9, _), (10, _), (36, _), (37, _), (38, _)]) ⟨rfl, rfl, rfl, rfl, rfl, rfl, rfl, rfl, rfl, trivial⟩ ?_
          refine Tr.loop (S := fun n (z : Int × (List Int)) env x => match z with | (t_47, l40) => ∃ v41 : Value, env = [(0, .int .i64 n_0), (1, ul_1), (7, v41), (8, .int .u32 (((set_7 ||| (1#32 <<< ((BitVec.ofInt 64 y19)).toNat))).toNat : Int)), (9, .int .i64 k_8), (10, .int .i64 j_32), (36, ul_1), (37, .int .i64 ((l_1.length : Int))), (38, .int .i64 t_47)] ∧ x = ⟨m, hownT 3 1 encI v41 l40 :: l⟩ ∧ n = ((l_1.length : Int) - t_47).toNat ∧ 0 ≤ t_47 ∧ forK (σ := (List Int)) (fun i s nx_ => syllogistref_Reach_b48 n_0 l_1 k_8 j_32 i s nx_) (fun s => syllogistref_Reach_k44 nx34 s) n t_47 l40 = some r) _ ((0 : Int), l25) ⟨_, rfl, rfl, rfl, (by omega), hr⟩ ?_
          rintro n50 ⟨t_47, l40⟩ env x ⟨v41, rfl, rfl, hnt_47, h0t_47, hr⟩
          cases n50 with
          | zero =>
            simp only [forK] at hr
            refine Tr.seq ?_
            refine Tr.region_f (fun _ => false) ?_
            refine W.q rfl rfl rfl rfl (by decide) (Yd.lss rfl (.t rfl) (.t rfl)) ?_
            refine W.end ?_
            refine NX.sub (env' := [(0, _), (1, _), (7, _), (8, _), (9, _), (10, _), (36, _), (37, _), (38, _), (39, _)]) ⟨rfl, rfl, rfl, rfl, rfl, rfl, rfl, rfl, rfl, rfl, trivial⟩ ?_
            refine NX.then ?_
            refine Tr.seq ?_
            refine Tr.cond (.t rfl) (fun hb => ?_) (fun hb => ?_)
            · exact absurd (hb.symm.trans (fr_end hnt_47)) (by decide)
            ·
              refine Tr.exit' (EX.then (EX.then (EX.block ?_)))
              refine NX.sub (env' := [(0, _), (1, _), (7, _), (8, _), (9, _), (10, _)]) ⟨rfl, rfl, rfl, rfl, rfl, rfl, trivial⟩ ?_
              exact hk45 _ _ ⟨_, _, rfl, rfl, hr⟩
          | succ n50 =>
            obtain ⟨nx49, hnx49, hr⟩ := forK_succ hr
            try dsimp only at hr
            unfold syllogistref_Reach_b48 at hr
            try dsimp only at hr
            have hltt_47 := fr_bnd hnt_47
            refine Tr.seq ?_
            refine Tr.region_f (fun _ => false) ?_
            refine W.q rfl rfl rfl rfl (by decide) (Yd.lss rfl (.t rfl) (.t rfl)) ?_
            refine W.end ?_
            refine NX.sub (env' := [(0, _), (1, _), (7, _), (8, _), (9, _), (10, _), (36, _), (37, _), (38, _), (39, _)]) ⟨rfl, rfl, rfl, rfl, rfl, rfl, rfl, rfl, rfl, rfl, trivial⟩ ?_
            refine NX.then ?_
            refine Tr.seq ?_
            refine Tr.cond (.t rfl) (fun hb => ?_) (fun hb => ?_)
            rotate_left
            · exact absurd (hb.symm.trans (fr_go hnt_47)) (by decide)
            ·
              refine Tr.skip' ?_
              refine NX.then ?_
              refine Tr.seq ?_
              refine Tr.block ?_
              refine Tr.seq ?_
              obtain ⟨y51, hy52, hr⟩ := bind_some hr
              refine Tr.region_f (fun i => Nat.beq i 2 || Nat.beq i 3) ?_
              refine W.q rfl rfl rfl rfl (by decide) (Yd.idxR hl_1 hy52 rfl Try.underlying40 SZ46 (.t rfl) (.t rfl)) ?_
              refine W.q rfl rfl rfl rfl (by decide) (Yd.ldFs (us := [_, _]) hl_1 (.refl _) hy52 rfl rfl ON46 US46 SZ46 (.t rfl)) ?_
              refine W.e rfl rfl rfl rfl (by decide) (Ef.al rfl ZR46 rfl) ?_
              rintro _ _ ⟨b53, rfl, rfl⟩
              refine ⟨.inl rfl, ?_⟩
              refine W.cast (m' := m) (l' := hcells b53 [_, _] 46 :: hownT 3 1 encI v41 _ :: l) rfl rfl ?_
              refine W.s rfl rfl rfl rfl (Ef.stB (pos := 0) (us := [_, _]) (cs' := [_, _]) rfl rfl (.t rfl) (.t rfl) SZ46 rfl rfl rfl (Nat.le_of_ble_eq_true rfl) rfl) ?_
              rintro _ _ ⟨rfl, rfl⟩
              refine ⟨.inl rfl, ?_⟩
              refine W.cast (m' := m) (l' := hcells b53 [_, _] 46 :: hownT 3 1 encI v41 _ :: l) rfl rfl ?_
              refine W.end ?_
              refine NX.sub (env' := [(0, _), (1, _), (7, _), (8, _), (9, _), (10, _), (36, _), (37, _), (38, _), (12, _)]) ⟨rfl, rfl, rfl, rfl, rfl, rfl, rfl, rfl, rfl, rfl, trivial⟩ ?_
              refine NX.then ?_
              refine Tr.seq ?_
              obtain ⟨y55, hy56, hr⟩ := bind_some hr
              obtain ⟨r57, hr58, hr⟩ := bind_some hr
              obtain ⟨ha59, hr⟩ := guard_some hr
              refine Tr.region_x (fun _ => false) (fun _ => false) (Ord.of [0, 1, 2, 3, 4, 5, 6, 7, 8, 9, 10, 11, 12, 13]) FM (by kernel_rfl) ?_
              refine W.q rfl rfl rfl rfl (by decide) (Yd.mv rfl (.t rfl)) ?_
              refine W.q rfl rfl rfl rfl (by decide) (Yd.ldBs (pos := 0) (us := [_, _]) rfl rfl rfl rfl ON46 US46 SZ46 (.t rfl)) ?_
              refine W.q rfl rfl rfl rfl (by decide) (Yd.mv rfl (.t rfl)) ?_
              refine W.q rfl rfl rfl rfl (by decide) (Yd.mv rfl (.t rfl)) ?_
              refine W.q rfl rfl rfl rfl (by decide) (Yd.idxT (pos := 1) rfl hy56 rfl Try.underlying90 SZ3 (.t rfl) (.t rfl)) ?_
              refine W.q rfl rfl rfl rfl (by decide) (Yd.ldT (enc := encI) (n := 1) (pos := 1) (fun _ => rfl) rfl hy56 rfl rfl ON3 (.t rfl)) ?_
              refine W.q rfl rfl rfl rfl (by decide) (Yd.mv rfl (.t rfl)) ?_
              refine W.q rfl rfl rfl rfl (by decide) (Yd.call (v := .bool r57) rfl Try.func56 rfl rfl (.cons (.t rfl) (.cons (.t rfl) (.cons (.t rfl) (.cons (.t rfl) .nil)))) (fun x' hx w hw => syllogistref_Said_ok w0 x'.m x'.l n_0 (({ yes := y51.yes, no := y51.no } : Clause)) y55 j_32 _ hr58 w hw)) ?_
              refine W.q rfl rfl rfl rfl (by decide) (Yd.mv rfl (.t rfl)) ?_
              refine W.g rfl rfl rfl rfl rfl (.t rfl _) rfl (by decide) (fun hG => Yd.mv rfl (.t rfl)) ?_
              refine W.g rfl rfl rfl rfl rfl (.t rfl _) rfl (by decide) (fun hG => Yd.mv rfl (.t rfl)) ?_
              refine W.g rfl rfl rfl rfl rfl (.t rfl _) rfl (by decide) (fun hG => Yd.call (v := .bool ((((syllogistref_Has l40 j_32).getD false)))) rfl Try.func57 rfl rfl (.cons (.g rfl hG) (.cons (.g rfl hG) .nil)) (by intro x' hx w hw; obtain ⟨p0, hp0⟩ := hx.at (p := 1) rfl; obtain ⟨m2, hm2, hc2, ⟨L2, hl1, hl2⟩, hback⟩ := cX_lend hw hp0 lone_own; have hL1 : RS rI m2 _ _ := RS_of_own hl1 hl2; exact (syllogistref_Has_ok w0 m2 _ _ _ hL1 j_32 _ (gd_get (d := false) ha59 hG) w hc2).mono fun e w' ⟨he, hc'⟩ => ⟨he, (hback m2 _ _ w' (.refl _) hp0).2 hc'⟩)) ?_
              refine W.g rfl rfl rfl rfl rfl (.t rfl _) rfl (by decide) (fun hG => Yd.not rfl (.g rfl hG)) ?_
              refine W.q rfl rfl rfl rfl (by decide) (Yd.and rfl (.t rfl) .c rfl rfl) ?_
              refine W.end ?_
              refine NX.sub (env' := [(0, _), (1, _), (7, _), (8, _), (9, _), (10, _), (36, _), (37, _), (38, _), (55, _)]) ⟨rfl, rfl, rfl, rfl, rfl, rfl, rfl, rfl, rfl, rfl, trivial⟩ ?_
              refine NX.drop (l' := hownT 3 1 encI v41 _ :: l) (.cons _ (.cons_cons _ (.refl _))) ?_
              refine NX.then ?_
              refine Tr.cond (.t rfl) (fun hb => ?_) (fun hb => ?_)
              · have hr := cond_t hb hr
                obtain ⟨hq63, hr⟩ := guard_some hr; replace hq63 := of_decide_eq_true hq63
                refine Tr.region_f (fun i => Nat.beq i 2 || Nat.beq i 3) ?_
                refine W.q rfl rfl rfl rfl (by decide) (Yd.mv rfl (.t rfl)) ?_
                refine W.q rfl rfl rfl rfl (by decide) (Yd.mv rfl (.t rfl)) ?_
                refine W.e rfl rfl rfl rfl (by decide) (Ef.bsT (enc := encI) (vs := [_]) (ys := [j_32]) (fun _ => rfl) IF3 rfl Try.underlying90 (by decide) rfl (.cons (.t rfl) .nil) rfl rfl (by decide)) ?_
                rintro v60 _ rfl
                refine ⟨.inl rfl, ?_⟩
                refine W.cast (m' := m) (l' := hownT 3 1 encI v60 _ :: hownT 3 1 encI v41 _ :: l) rfl rfl ?_
                refine W.e rfl rfl rfl rfl (by decide) (Ef.apI (pos := 1) (enc := encI) (xs := l40) (ys := ([j_32] : List Int)) (fun _ => rfl) IF3 rfl rfl Try.underlying90 rfl (by decide) (.t rfl) (.t rfl) (Src.own (pos := 0) rfl) (fun _ => rfl) (by omega) (by omega)) ?_
                rintro v62 _ rfl
                refine ⟨.inl rfl, ?_⟩
                refine W.cast (m' := m) (l' := hownT 3 1 encI v60 _ :: hownT 3 1 encI v62 _ :: l) rfl rfl ?_
                refine W.q rfl rfl rfl rfl (by decide) (Yd.as rfl (.t rfl)) ?_
                refine W.end ?_
                refine NX.sub (env' := [(0, _), (1, _), (7, _), (8, _), (9, _), (10, _), (36, _), (37, _), (38, _)]) ⟨rfl, rfl, rfl, rfl, rfl, rfl, rfl, rfl, rfl, trivial⟩ ?_
                refine NX.drop (l' := hownT 3 1 encI v62 _ :: l) (.cons _ (.cons_cons _ (.refl _))) ?_
                refine NX.block ?_
                refine NX.then ?_
                refine Tr.region_f (fun _ => false) ?_
                refine W.q rfl rfl rfl rfl (by decide) (Yd.add rfl (.t rfl) .c) ?_
                refine W.q rfl rfl rfl rfl (by decide) (Yd.mv rfl (.t rfl)) ?_
                refine W.end ?_
                refine NX.sub (env' := [(0, _), (1, _), (7, _), (8, _), (9, _), (10, _), (36, _), (37, _), (38, _)]) ⟨rfl, rfl, rfl, rfl, rfl, rfl, rfl, rfl, rfl, trivial⟩ ?_
                refine NX.sub (env' := [(0, _), (1, _), (7, _), (8, _), (9, _), (10, _), (36, _), (37, _), (38, _)]) ⟨rfl, rfl, rfl, rfl, rfl, rfl, rfl, rfl, rfl, trivial⟩ ?_
                have hw := w64_id (n := t_47 + 1) (by omega) (by omega)
                exact NX.again n50 (t_47 + 1, (l40 ++ ([j_32] : List Int))) (Nat.lt_succ_self _) ⟨_, (by rw [hw] <;> rfl), rfl, (fr_dec hnt_47), (by omega), ((hnx49 _).symm.trans hr)⟩
              · have hr := cond_f hb hr
                refine Tr.skip' ?_
                refine NX.block ?_
                refine NX.then ?_
                refine Tr.region_f (fun _ => false) ?_
                refine W.q rfl rfl rfl rfl (by decide) (Yd.add rfl (.t rfl) .c) ?_
                refine W.q rfl rfl rfl rfl (by decide) (Yd.mv rfl (.t rfl)) ?_
                refine W.end ?_
                refine NX.sub (env' := [(0, _), (1, _), (7, _), (8, _), (9, _), (10, _), (36, _), (37, _), (38, _)]) ⟨rfl, rfl, rfl, rfl, rfl, rfl, rfl, rfl, rfl, trivial⟩ ?_
                refine NX.sub (env' := [(0, _), (1, _), (7, _), (8, _), (9, _), (10, _), (36, _), (37, _), (38, _)]) ⟨rfl, rfl, rfl, rfl, rfl, rfl, rfl, rfl, rfl, trivial⟩ ?_
                have hw := w64_id (n := t_47 + 1) (by omega) (by omega)
                exact NX.again n50 (t_47 + 1, l40) (Nat.lt_succ_self _) ⟨_, (by rw [hw] <;> rfl), rfl, (fr_dec hnt_47), (by omega), ((hnx49 _).symm.trans hr)⟩
    · have hr := cond_f hb hr
      refine Tr.exit' (EX.then (EX.then (EX.block ?_)))
      refine NX.sub (env' := [(8, _)]) ⟨rfl, trivial⟩ ?_
      refine NX.drop (l' := l) (.cons _ (.refl _)) ?_
      exact hk15 _ _ ⟨_, rfl, rfl, hr⟩

def syllogistlaw_TwoReaches_k9 (r1 : (List (BitVec 32)) × Int) : Option (Bool) :=
  some ((r1.2 == (0 : Int)))

def syllogistlaw_TwoReaches_b13 (n_0 : Int) (l_1 : List Clause) (fuel : Nat) (r1 : (List (BitVec 32)) × Int) (i_12 : Int) (nx14 : Unit → Option (Bool)) : Option (Bool) :=
  (geti r1.1 i_12).bind fun y16 =>
  (syllogistref_Reach fuel n_0 l_1 i_12).bind fun r18 =>
  (bif (y16 != r18) then
  some false
  else
  nx14 ())

def syllogistlaw_TwoReaches (fuel : Nat) (n_0 : Int) (l_1 : List Clause) : Option (Bool) :=
  (two_Reach n_0 l_1).bind fun r1 =>
  (syllogistref_TwoCheck n_0 l_1).bind fun r5 =>
  (bif (r5 != (0 : Int)) then
  some (((r1.2 == r5) && ((r1.1.length : Int) == (0 : Int))))
  else
  (bif ((r1.1.length : Int) != (w64 (n_0 + n_0))) then
  some false
  else
  bif decide ((w64 (n_0 + n_0)) ≤ 9223372036854775807) then
  forK (σ := Unit) (fun i s nx_ => syllogistlaw_TwoReaches_b13 n_0 l_1 fuel r1 i nx_) (fun _ => syllogistlaw_TwoReaches_k9 r1) ((w64 (n_0 + n_0)) - (0 : Int)).toNat (0 : Int) () else none))

set_option maxRecDepth 100000 in
theorem syllogistlaw_TwoReaches_ok (w0 : World) (m : Snap) (l : List HI) (fuel : Nat) (n_0 : Int) (ul_1 : Value) (l_1 : List Clause) (hl_1 : RS rClause m ul_1 l_1) (r : Bool) (hr : syllogistlaw_TwoReaches fuel n_0 l_1 = some r) (w : World) (hc : cX w0 ⟨m, l⟩ w) :
    Calls Try.prog 9 [.int .i64 n_0, ul_1].toArray w fun e w' => e = .returned (.bool r) ∧ cX w0 ⟨m, l⟩ w' := by
  unfold syllogistlaw_TwoReaches at hr
  refine calls_of_Tr (N := 54) Try.func9 rfl hc rfl (Nat.le_of_ble_eq_true rfl) ?_
  refine Tr.seq ?_
  refine Tr.region_f (fun _ => false) ?_
  refine W.q rfl rfl rfl rfl (by decide) (Yd.as rfl .c) ?_
  refine W.end ?_
  refine NX.sub (env' := [(0, _), (1, _)]) ⟨rfl, rfl, trivial⟩ ?_
  refine NX.then ?_
  refine Tr.seq ?_
  obtain ⟨r1, hr2, hr⟩ := bind_some hr
  refine Tr.region_f (fun i => Nat.beq i 2) ?_
  refine W.q rfl rfl rfl rfl (by decide) (Yd.mv rfl (.t rfl)) ?_
  refine W.q rfl rfl rfl rfl (by decide) (Yd.mv rfl (.t rfl)) ?_
  refine W.e rfl rfl rfl rfl (by decide) (Ef.call (R := fun z x' => ∃ v3 : Value, z = .tuple #[v3, .int .i64 r1.2] ∧ x' = ⟨m, hownT 41 1 encU v3 r1.1 :: l⟩) rfl Try.func29 rfl rfl (.cons (.t rfl) (.cons (.t rfl) .nil)) (fun w hw => (two_Reach_ok w0 _ _ n_0 _ _ hl_1 _ hr2 w hw).mono fun e w' ⟨v3, he, hc'⟩ => ⟨_, _, he, ⟨v3, rfl, rfl⟩, hc'⟩)) ?_
  rintro _ _ ⟨v3, rfl, rfl⟩
  refine ⟨.inl rfl, ?_⟩
  refine W.cast (m' := m) (l' := hownT 41 1 encU v3 _ :: l) rfl rfl ?_
  refine W.q rfl rfl rfl rfl (by decide) (Yd.mv rfl (.t rfl)) ?_
  refine W.q rfl rfl rfl rfl (by decide) (Yd.ext rfl (.t rfl) rfl) ?_
  refine W.q rfl rfl rfl rfl (by decide) (Yd.ext rfl (.t rfl) rfl) ?_
  refine W.q rfl rfl rfl rfl (by decide) (Yd.as rfl (.t rfl)) ?_
  refine W.q rfl rfl rfl rfl (by decide) (Yd.as rfl (.t rfl)) ?_
  refine W.end ?_
  refine NX.sub (env' := [(0, _), (1, _), (5, _), (6, _)]) ⟨rfl, rfl, rfl, rfl, trivial⟩ ?_
  refine NX.then ?_
  refine Tr.seq ?_
  obtain ⟨r5, hr6, hr⟩ := bind_some hr
  refine Tr.region_f (fun _ => false) ?_
  refine W.q rfl rfl rfl rfl (by decide) (Yd.mv rfl (.t rfl)) ?_
  refine W.q rfl rfl rfl rfl (by decide) (Yd.mv rfl (.t rfl)) ?_
  refine W.q rfl rfl rfl rfl (by decide) (Yd.call (v := .int .i64 r5) rfl Try.func30 rfl rfl (.cons (.t rfl) (.cons (.t rfl) .nil)) (fun x' hx w hw => syllogistref_TwoCheck_ok w0 x'.m x'.l n_0 _ _ (hl_1.mono hx.1) _ hr6 w hw)) ?_
  refine W.q rfl rfl rfl rfl (by decide) (Yd.as rfl (.t rfl)) ?_
  refine W.end ?_
  refine NX.sub (env' := [(0, _), (1, _), (5, _), (6, _), (7, _)]) ⟨rfl, rfl, rfl, rfl, rfl, trivial⟩ ?_
  refine NX.then ?_
  refine Tr.seq ?_
  refine Tr.seq ?_
  refine Tr.region_f (fun _ => false) ?_
  refine W.q rfl rfl rfl rfl (by decide) (Yd.mv rfl (.t rfl)) ?_
  refine W.q rfl rfl rfl rfl (by decide) (Yd.neq rfl (.t rfl) .c) ?_
  refine W.end ?_
  refine NX.sub (env' := [(0, _), (1, _), (5, _), (6, _), (7, _), (19, _)]) ⟨rfl, rfl, rfl, rfl, rfl, rfl, trivial⟩ ?_
  refine NX.then ?_
  refine Tr.cond (.t rfl) (fun hb => ?_) (fun hb => ?_)
  · have hr := cond_t hb hr
    refine Tr.seq ?_
    refine Tr.region_f (fun _ => false) ?_
    refine W.q rfl rfl rfl rfl (by decide) (Yd.mv rfl (.t rfl)) ?_
    refine W.q rfl rfl rfl rfl (by decide) (Yd.mv rfl (.t rfl)) ?_
    refine W.q rfl rfl rfl rfl (by decide) (Yd.eql rfl (.t rfl) (.t rfl)) ?_
    refine W.q rfl rfl rfl rfl (by decide) (Yd.mv rfl (.t rfl)) ?_
    refine W.g rfl rfl rfl rfl rfl (.t rfl _) rfl (by decide) (fun hG => Yd.mv rfl (.t rfl)) ?_
    refine W.g rfl rfl rfl rfl rfl (.t rfl _) rfl (by decide) (fun hG => Yd.lenO (p := 0) rfl rfl Try.underlying57 (.g rfl hG)) ?_
    refine W.g rfl rfl rfl rfl rfl (.t rfl _) rfl (by decide) (fun hG => Yd.eql rfl (.g rfl hG) .c) ?_
    refine W.q rfl rfl rfl rfl (by decide) (Yd.and rfl (.t rfl) .c rfl rfl) ?_
    refine W.q rfl rfl rfl rfl (by decide) (Yd.as rfl (.t rfl)) ?_
    refine W.end ?_
    refine NX.sub (env' := [(4, _)]) ⟨rfl, trivial⟩ ?_
    refine NX.drop (l' := l) (.cons _ (.refl _)) ?_
    refine NX.then ?_
    refine Tr.ret' (RT.then ?_)
    refine res1 rfl rfl ?_
    intro w hc
    cases hr
    exact ⟨rfl, hc⟩
  · have hr := cond_f hb hr
    refine Tr.skip' ?_
    refine NX.then ?_
    refine Tr.seq ?_
    refine Tr.seq ?_
    refine Tr.region_f (fun _ => false) ?_
    refine W.q rfl rfl rfl rfl (by decide) (Yd.mv rfl (.t rfl)) ?_
    refine W.q rfl rfl rfl rfl (by decide) (Yd.lenO (p := 0) rfl rfl Try.underlying57 (.t rfl)) ?_
    refine W.q rfl rfl rfl rfl (by decide) (Yd.mv rfl (.t rfl)) ?_
    refine W.q rfl rfl rfl rfl (by decide) (Yd.mv rfl (.t rfl)) ?_
    refine W.q rfl rfl rfl rfl (by decide) (Yd.add rfl (.t rfl) (.t rfl)) ?_
    refine W.q rfl rfl rfl rfl (by decide) (Yd.neq rfl (.t rfl) (.t rfl)) ?_
    refine W.end ?_
    refine NX.sub (env' := [(0, _), (1, _), (5, _), (6, _), (33, _)]) ⟨rfl, rfl, rfl, rfl, rfl, trivial⟩ ?_
    refine NX.then ?_
    refine Tr.cond (.t rfl) (fun hb => ?_) (fun hb => ?_)
    · have hr := cond_t hb hr
      refine Tr.seq ?_
      refine Tr.region_f (fun _ => false) ?_
      refine W.q rfl rfl rfl rfl (by decide) (Yd.as rfl .c) ?_
      refine W.end ?_
      refine NX.sub (env' := [(4, _)]) ⟨rfl, trivial⟩ ?_
      refine NX.drop (l' := l) (.cons _ (.refl _)) ?_
      refine NX.then ?_
      refine Tr.ret' (RT.then ?_)
      refine res1 rfl rfl ?_
      intro w hc
      cases hr
      exact ⟨rfl, hc⟩
    · have hr := cond_f hb hr
      refine Tr.skip' ?_
      refine NX.then ?_
      refine Tr.seq ?_
      refine Tr.seq ?_
      refine Tr.region_f (fun _ => false) ?_
      refine W.q rfl rfl rfl rfl (by decide) (Yd.as rfl .c) ?_
      refine W.end ?_
      refine NX.sub (env' := [(0, _), (1, _), (5, _), (6, _), (8, _)]) ⟨rfl, rfl, rfl, rfl, rfl, trivial⟩ ?_
      refine NX.then ?_
      refine Tr.join (S := fun env x => env = [(6, .int .i64 r1.2)] ∧ x = ⟨m, l⟩ ∧ syllogistlaw_TwoReaches_k9 r1 = some r) ?_ (fun hk10 => ?_)
      · rintro _ _ ⟨rfl, rfl, hr⟩
        unfold syllogistlaw_TwoReaches_k9 at hr
        try dsimp only at hr
        refine NX.then ?_
        refine Tr.seq ?_
        refine Tr.region_f (fun _ => false) ?_
        refine W.q rfl rfl rfl rfl (by decide) (Yd.mv rfl (.t rfl)) ?_
        refine W.q rfl rfl rfl rfl (by decide) (Yd.eql rfl (.t rfl) .c) ?_
        refine W.q rfl rfl rfl rfl (by decide) (Yd.mv rfl (.t rfl)) ?_
        refine W.q rfl rfl rfl rfl (by decide) (Yd.pkc rfl (.t rfl) .c .c) ?_
        refine W.q rfl rfl rfl rfl (by decide) (Yd.as rfl (.t rfl)) ?_
        refine W.end ?_
        refine NX.sub (env' := [(4, _)]) ⟨rfl, trivial⟩ ?_
        refine NX.then ?_
        refine Tr.ret' ?_
        refine res1 rfl rfl ?_
        intro w hc
        cases hr
        exact ⟨rfl, hc⟩
      obtain ⟨hle11, hr⟩ := guard_some hr; replace hle11 := of_decide_eq_true hle11
      refine Tr.block ?_
      refine Tr.sub (env' := [(0, _), (1, _), (5, _), (6, _), (8, _)]) ⟨rfl, rfl, rfl, rfl, rfl, trivial⟩ ?_
      refine Tr.loop (S := fun n (z : Int × Unit) env x => match z with | (i_12, _) => env = [(0, .int .i64 n_0), (1, ul_1), (5, v3), (6, .int .i64 r1.2), (8, .int .i64 i_12)] ∧ x = ⟨m, hownT 41 1 encU v3 r1.1 :: l⟩ ∧ n = ((w64 (n_0 + n_0)) - i_12).toNat ∧ 0 ≤ i_12 ∧ forK (σ := Unit) (fun i s nx_ => syllogistlaw_TwoReaches_b13 n_0 l_1 fuel r1 i nx_) (fun _ => syllogistlaw_TwoReaches_k9 r1) n i_12 () = some r) _ ((0 : Int), ()) ⟨rfl, rfl, rfl, (by omega), hr⟩ ?_
      rintro n15 ⟨i_12, _⟩ env x ⟨rfl, rfl, hni_12, h0i_12, hr⟩
      cases n15 with
      | zero =>
        simp only [forK] at hr
        refine Tr.seq ?_
        refine Tr.seq ?_
        refine Tr.region_f (fun _ => false) ?_
        refine W.q rfl rfl rfl rfl (by decide) (Yd.mv rfl (.t rfl)) ?_
        refine W.q rfl rfl rfl rfl (by decide) (Yd.mv rfl (.t rfl)) ?_
        refine W.q rfl rfl rfl rfl (by decide) (Yd.mv rfl (.t rfl)) ?_
        refine W.q rfl rfl rfl rfl (by decide) (Yd.add rfl (.t rfl) (.t rfl)) ?_
        refine W.q rfl rfl rfl rfl (by decide) (Yd.lss rfl (.t rfl) (.t rfl)) ?_
        refine W.end ?_
        refine NX.sub (env' := [(0, _), (1, _), (5, _), (6, _), (8, _), (38, _)]) ⟨rfl, rfl, rfl, rfl, rfl, rfl, trivial⟩ ?_
        refine NX.then ?_
        refine Tr.cond (.t rfl) (fun hb => ?_) (fun hb => ?_)
        · exact absurd (hb.symm.trans (fr_end hni_12)) (by decide)
        ·
          refine Tr.exit' (EX.then (EX.then (EX.block ?_)))
          refine NX.sub (env' := [(6, _)]) ⟨rfl, trivial⟩ ?_
          refine NX.drop (l' := l) (.cons _ (.refl _)) ?_
          exact hk10 _ _ ⟨rfl, rfl, hr⟩
      | succ n15 =>
        obtain ⟨nx14, hnx14, hr⟩ := forK_succ hr
        try dsimp only at hr
        unfold syllogistlaw_TwoReaches_b13 at hr
        try dsimp only at hr
        have hlti_12 := fr_bnd hni_12
        refine Tr.seq ?_
        refine Tr.seq ?_
        refine Tr.region_f (fun _ => false) ?_
        refine W.q rfl rfl rfl rfl (by decide) (Yd.mv rfl (.t rfl)) ?_
        refine W.q rfl rfl rfl rfl (by decide) (Yd.mv rfl (.t rfl)) ?_
        refine W.q rfl rfl rfl rfl (by decide) (Yd.mv rfl (.t rfl)) ?_
        refine W.q rfl rfl rfl rfl (by decide) (Yd.add rfl (.t rfl) (.t rfl)) ?_
        refine W.q rfl rfl rfl rfl (by decide) (Yd.lss rfl (.t rfl) (.t rfl)) ?_
        refine W.end ?_
        refine NX.sub (env' := [(0, _), (1, _), (5, _), (6, _), (8, _), (38, _)]) ⟨rfl, rfl, rfl, rfl, rfl, rfl, trivial⟩ ?_
        refine NX.then ?_
        refine Tr.cond (.t rfl) (fun hb => ?_) (fun hb => ?_)
        rotate_left
        · exact absurd (hb.symm.trans (fr_go hni_12)) (by decide)
        ·
          refine Tr.skip' ?_
          refine NX.then ?_
          refine Tr.seq ?_
          refine Tr.block ?_
          refine Tr.seq ?_
          obtain ⟨y16, hy17, hr⟩ := bind_some hr
          obtain ⟨r18, hr19, hr⟩ := bind_some hr
          refine Tr.region_x (fun _ => false) (fun _ => false) (Ord.of [0, 1, 2, 3, 4, 5, 6, 7, 8]) FM (by kernel_rfl) ?_
          refine W.q rfl rfl rfl rfl (by decide) (Yd.mv rfl (.t rfl)) ?_
          refine W.q rfl rfl rfl rfl (by decide) (Yd.mv rfl (.t rfl)) ?_
          refine W.q rfl rfl rfl rfl (by decide) (Yd.idxT (pos := 0) rfl hy17 rfl Try.underlying57 SZ41 (.t rfl) (.t rfl)) ?_
          refine W.q rfl rfl rfl rfl (by decide) (Yd.ldT (enc := encU) (n := 1) (pos := 0) (fun _ => rfl) rfl hy17 rfl rfl ON41 (.t rfl)) ?_
          refine W.q rfl rfl rfl rfl (by decide) (Yd.mv rfl (.t rfl)) ?_
          refine W.q rfl rfl rfl rfl (by decide) (Yd.mv rfl (.t rfl)) ?_
          refine W.q rfl rfl rfl rfl (by decide) (Yd.mv rfl (.t rfl)) ?_
          refine W.q rfl rfl rfl rfl (by decide) (Yd.call (v := .int .u32 (r18.toNat : Int)) rfl Try.func31 rfl rfl (.cons (.t rfl) (.cons (.t rfl) (.cons (.t rfl) .nil))) (fun x' hx w hw => syllogistref_Reach_ok w0 x'.m x'.l fuel n_0 _ _ (hl_1.mono hx.1) i_12 _ hr19 w hw)) ?_
          refine W.q rfl rfl rfl rfl (by decide) (Yd.neqU (a := y16) (b := r18) rfl (.t rfl) (.t rfl)) ?_
          refine W.end ?_
          refine NX.sub (env' := [(0, _), (1, _), (5, _), (6, _), (8, _), (49, _)]) ⟨rfl, rfl, rfl, rfl, rfl, rfl, trivial⟩ ?_
          refine NX.then ?_
          refine Tr.cond (.t rfl) (fun hb => ?_) (fun hb => ?_)
          · have hr := cond_t hb hr
            refine Tr.seq ?_
            refine Tr.region_f (fun _ => false) ?_
            refine W.q rfl rfl rfl rfl (by decide) (Yd.as rfl .c) ?_
            refine W.end ?_
            refine NX.sub (env' := [(4, _)]) ⟨rfl, trivial⟩ ?_
            refine NX.drop (l' := l) (.cons _ (.refl _)) ?_
            refine NX.then ?_
            refine Tr.ret' (RT.block (RT.then (RT.then (RT.block (RT.then ?_)))))
            refine res1 rfl rfl ?_
            intro w hc
            cases hr
            exact ⟨rfl, hc⟩
          · have hr := cond_f hb hr
            refine Tr.skip' ?_
            refine NX.block ?_
            refine NX.then ?_
            refine Tr.region_f (fun _ => false) ?_
            refine W.q rfl rfl rfl rfl (by decide) (Yd.mv rfl (.t rfl)) ?_
            refine W.q rfl rfl rfl rfl (by decide) (Yd.add rfl (.t rfl) .c) ?_
            refine W.q rfl rfl rfl rfl (by decide) (Yd.as rfl (.t rfl)) ?_
            refine W.end ?_
            refine NX.sub (env' := [(0, _), (1, _), (5, _), (6, _), (8, _)]) ⟨rfl, rfl, rfl, rfl, rfl, trivial⟩ ?_
            refine NX.sub (env' := [(0, _), (1, _), (5, _), (6, _), (8, _)]) ⟨rfl, rfl, rfl, rfl, rfl, trivial⟩ ?_
            have hw := w64_id (n := i_12 + 1) (by omega) (by omega)
            exact NX.again n15 (i_12 + 1, ()) (Nat.lt_succ_self _) ⟨(by rw [hw] <;> rfl), rfl, (fr_dec hni_12), (by omega), ((hnx14 _).symm.trans hr)⟩

def two_stuck_k6 (s_5 : BitVec 32) : Option ((BitVec 32)) :=
  some s_5

def two_stuck_b10 (n_0 : Int) (to_1 : List (BitVec 32)) (t_9 : Int) (s_3 : BitVec 32) (nx11 : (BitVec 32) → Option ((BitVec 32))) : Option ((BitVec 32)) :=
  (geti to_1 t_9).bind fun y13 =>
  bif decide (0 ≤ (w64 (t_9 + n_0))) then
  (geti to_1 ((w64 (t_9 + n_0)))).bind fun y16 =>
  nx11 (s_3 ||| ((((y13 >>> ((w64 (t_9 + n_0))).toNat) &&& (y16 >>> t_9.toNat)) &&& 1#32) <<< t_9.toNat)) else none

def two_stuck (n_0 : Int) (to_1 : List (BitVec 32)) : Option ((BitVec 32)) :=
  bif decide (n_0 ≤ 9223372036854775807) then
  forK (σ := (BitVec 32)) (fun i s nx_ => two_stuck_b10 n_0 to_1 i s nx_) (fun s => two_stuck_k6 s) (n_0 - (0 : Int)).toNat (0 : Int) (0#32) else none

set_option maxRecDepth 100000 in
theorem two_stuck_ok (w0 : World) (m : Snap) (l : List HI) (n_0 : Int) (uto_1 : Value) (to_1 : List (BitVec 32)) (hto_1 : RS rU m uto_1 to_1) (r : (BitVec 32)) (hr : two_stuck n_0 to_1 = some r) (w : World) (hc : cX w0 ⟨m, l⟩ w) :
    Calls Try.prog 58 [.int .i64 n_0, uto_1].toArray w fun e w' => e = .returned (.int .u32 (r.toNat : Int)) ∧ cX w0 ⟨m, l⟩ w' := by
  unfold two_stuck at hr
  refine calls_of_Tr (N := 35) Try.func58 rfl hc rfl (Nat.le_of_ble_eq_true rfl) ?_
  refine Tr.seq ?_
  refine Tr.region_f (fun _ => false) ?_
  refine W.q rfl rfl rfl rfl (by decide) (Yd.as rfl .c) ?_
  refine W.end ?_
  refine NX.sub (env' := [(0, _), (1, _)]) ⟨rfl, rfl, trivial⟩ ?_
  refine NX.then ?_
  refine Tr.seq ?_
  refine Tr.region_f (fun _ => false) ?_
  refine W.q rfl rfl rfl rfl (by decide) (Yd.as rfl .c) ?_
  refine W.end ?_
  refine NX.sub (env' := [(0, _), (1, _), (5, _)]) ⟨rfl, rfl, rfl, trivial⟩ ?_
  refine NX.then ?_
  refine Tr.seq ?_
  refine Tr.seq ?_
  refine Tr.region_f (fun _ => false) ?_
  refine W.q rfl rfl rfl rfl (by decide) (Yd.mv rfl (.t rfl)) ?_
  refine W.q rfl rfl rfl rfl (by decide) (Yd.mv rfl .c) ?_
  refine W.end ?_
  refine NX.sub (env' := [(0, _), (1, _), (5, _), (7, _), (8, _)]) ⟨rfl, rfl, rfl, rfl, rfl, trivial⟩ ?_
  refine NX.then ?_
  refine Tr.join (S := fun env x => ∃ s_5 : BitVec 32, env = [(5, .int .u32 (s_5.toNat : Int))] ∧ x = ⟨m, l⟩ ∧ two_stuck_k6 s_5 = some r) ?_ (fun hk7 => ?_)
  · rintro _ _ ⟨s_5, rfl, rfl, hr⟩
    unfold two_stuck_k6 at hr
    try dsimp only at hr
    refine NX.then ?_
    refine Tr.seq ?_
    refine Tr.region_f (fun _ => false) ?_
    refine W.q rfl rfl rfl rfl (by decide) (Yd.mv rfl (.t rfl)) ?_
    refine W.q rfl rfl rfl rfl (by decide) (Yd.as rfl (.t rfl)) ?_
    refine W.end ?_
    refine NX.sub (env' := [(4, _)]) ⟨rfl, trivial⟩ ?_
    refine NX.then ?_
    refine Tr.ret' ?_
    refine res1 rfl rfl ?_
    intro w hc
    cases hr
    exact ⟨rfl, hc⟩
  obtain ⟨hle8, hr⟩ := guard_some hr; replace hle8 := of_decide_eq_true hle8
  refine Tr.block ?_
  refine Tr.sub (env' := [(0, _), (1, _), (5, _), (7, _), (8, _)]) ⟨rfl, rfl, rfl, rfl, rfl, trivial⟩ ?_
  refine Tr.loop (S := fun n (z : Int × (BitVec 32)) env x => match z with | (t_9, s_3) => env = [(0, .int .i64 n_0), (1, uto_1), (5, .int .u32 (s_3.toNat : Int)), (7, .int .i64 n_0), (8, .int .i64 t_9)] ∧ x = ⟨m, l⟩ ∧ n = (n_0 - t_9).toNat ∧ 0 ≤ t_9 ∧ forK (σ := (BitVec 32)) (fun i s nx_ => two_stuck_b10 n_0 to_1 i s nx_) (fun s => two_stuck_k6 s) n t_9 s_3 = some r) _ ((0 : Int), 0#32) ⟨rfl, rfl, rfl, (by omega), hr⟩ ?_
  rintro n12 ⟨t_9, s_3⟩ env x ⟨rfl, rfl, hnt_9, h0t_9, hr⟩
  cases n12 with
  | zero =>
    simp only [forK] at hr
    refine Tr.seq ?_
    refine Tr.region_f (fun _ => false) ?_
    refine W.q rfl rfl rfl rfl (by decide) (Yd.lss rfl (.t rfl) (.t rfl)) ?_
    refine W.end ?_
    refine NX.sub (env' := [(0, _), (1, _), (5, _), (7, _), (8, _), (9, _)]) ⟨rfl, rfl, rfl, rfl, rfl, rfl, trivial⟩ ?_
    refine NX.then ?_
    refine Tr.seq ?_
    refine Tr.cond (.t rfl) (fun hb => ?_) (fun hb => ?_)
    · exact absurd (hb.symm.trans (fr_end hnt_9)) (by decide)
    ·
      refine Tr.exit' (EX.then (EX.then (EX.block ?_)))
      refine NX.sub (env' := [(5, _)]) ⟨rfl, trivial⟩ ?_
      exact hk7 _ _ ⟨_, rfl, rfl, hr⟩
  | succ n12 =>
    obtain ⟨nx11, hnx11, hr⟩ := forK_succ hr
    try dsimp only at hr
    unfold two_stuck_b10 at hr
    try dsimp only at hr
    have hltt_9 := fr_bnd hnt_9
    refine Tr.seq ?_
    refine Tr.region_f (fun _ => false) ?_
    refine W.q rfl rfl rfl rfl (by decide) (Yd.lss rfl (.t rfl) (.t rfl)) ?_
    refine W.end ?_
    refine NX.sub (env' := [(0, _), (1, _), (5, _), (7, _), (8, _), (9, _)]) ⟨rfl, rfl, rfl, rfl, rfl, rfl, trivial⟩ ?_
    refine NX.then ?_
    refine Tr.seq ?_
    refine Tr.cond (.t rfl) (fun hb => ?_) (fun hb => ?_)
    rotate_left
    · exact absurd (hb.symm.trans (fr_go hnt_9)) (by decide)
    ·
      refine Tr.skip' ?_
      refine NX.then ?_
      refine Tr.seq ?_
      refine Tr.block ?_
      refine Tr.seq ?_
      refine Tr.region_f (fun _ => false) ?_
      refine W.q rfl rfl rfl rfl (by decide) (Yd.mv rfl (.t rfl)) ?_
      refine W.q rfl rfl rfl rfl (by decide) (Yd.as rfl (.t rfl)) ?_
      refine W.end ?_
      refine NX.sub (env' := [(0, _), (1, _), (5, _), (7, _), (8, _), (6, _)]) ⟨rfl, rfl, rfl, rfl, rfl, rfl, trivial⟩ ?_
      refine NX.then ?_
      obtain ⟨y13, hy14, hr⟩ := bind_some hr
      obtain ⟨hq15, hr⟩ := guard_some hr; replace hq15 := of_decide_eq_true hq15
      obtain ⟨y16, hy17, hr⟩ := bind_some hr
      refine Tr.region_x (fun _ => false) (fun _ => false) (Ord.of [0, 1, 2, 3, 4, 5, 6, 7, 8, 9, 10, 11, 12, 13, 14, 15, 16, 17, 18, 19, 20, 21, 22]) FM (by kernel_rfl) ?_
      refine W.q rfl rfl rfl rfl (by decide) (Yd.mv rfl (.t rfl)) ?_
      refine W.q rfl rfl rfl rfl (by decide) (Yd.mv rfl (.t rfl)) ?_
      refine W.q rfl rfl rfl rfl (by decide) (Yd.mv rfl (.t rfl)) ?_
      refine W.q rfl rfl rfl rfl (by decide) (Yd.idxR hto_1 hy14 rfl Try.underlying57 SZ41 (.t rfl) (.t rfl)) ?_
      refine W.q rfl rfl rfl rfl (by decide) (Yd.ldF hto_1 (.refl _) hy14 rfl rfl ON41 (.t rfl)) ?_
      refine W.q rfl rfl rfl rfl (by decide) (Yd.mv rfl (.t rfl)) ?_
      refine W.q rfl rfl rfl rfl (by decide) (Yd.mv rfl (.t rfl)) ?_
      refine W.q rfl rfl rfl rfl (by decide) (Yd.add rfl (.t rfl) (.t rfl)) ?_
      refine W.q rfl rfl rfl rfl (by decide) (Yd.shrU (a := y13) rfl (.t rfl) (.t rfl) hq15) ?_
      refine W.q rfl rfl rfl rfl (by decide) (Yd.mv rfl (.t rfl)) ?_
      refine W.q rfl rfl rfl rfl (by decide) (Yd.mv rfl (.t rfl)) ?_
      refine W.q rfl rfl rfl rfl (by decide) (Yd.mv rfl (.t rfl)) ?_
      refine W.q rfl rfl rfl rfl (by decide) (Yd.add rfl (.t rfl) (.t rfl)) ?_
      refine W.q rfl rfl rfl rfl (by decide) (Yd.idxR hto_1 hy17 rfl Try.underlying57 SZ41 (.t rfl) (.t rfl)) ?_
      refine W.q rfl rfl rfl rfl (by decide) (Yd.ldF hto_1 (.refl _) hy17 rfl rfl ON41 (.t rfl)) ?_
      refine W.q rfl rfl rfl rfl (by decide) (Yd.mv rfl (.t rfl)) ?_
      refine W.q rfl rfl rfl rfl (by decide) (Yd.shrU (a := y16) rfl (.t rfl) (.t rfl) h0t_9) ?_
      refine W.q rfl rfl rfl rfl (by decide) (Yd.andU (a := (y13 >>> ((w64 (t_9 + n_0))).toNat)) (b := (y16 >>> t_9.toNat)) rfl (.t rfl) (.t rfl)) ?_
      refine W.q rfl rfl rfl rfl (by decide) (Yd.andU (a := ((y13 >>> ((w64 (t_9 + n_0))).toNat) &&& (y16 >>> t_9.toNat))) (b := 1#32) rfl (.t rfl) .c) ?_
      refine W.q rfl rfl rfl rfl (by decide) (Yd.mv rfl (.t rfl)) ?_
      refine W.q rfl rfl rfl rfl (by decide) (Yd.shlU (a := (((y13 >>> ((w64 (t_9 + n_0))).toNat) &&& (y16 >>> t_9.toNat)) &&& 1#32)) rfl (.t rfl) (.t rfl) h0t_9) ?_
      refine W.q rfl rfl rfl rfl (by decide) (Yd.orU (a := s_3) (b := ((((y13 >>> ((w64 (t_9 + n_0))).toNat) &&& (y16 >>> t_9.toNat)) &&& 1#32) <<< t_9.toNat)) rfl (.t rfl) (.t rfl)) ?_
      refine W.q rfl rfl rfl rfl (by decide) (Yd.as rfl (.t rfl)) ?_
      refine W.end ?_
      refine NX.sub (env' := [(0, _), (1, _), (5, _), (7, _), (8, _)]) ⟨rfl, rfl, rfl, rfl, rfl, trivial⟩ ?_
      refine NX.block ?_
      refine NX.then ?_
      refine Tr.region_f (fun _ => false) ?_
      refine W.q rfl rfl rfl rfl (by decide) (Yd.add rfl (.t rfl) .c) ?_
      refine W.q rfl rfl rfl rfl (by decide) (Yd.mv rfl (.t rfl)) ?_
      refine W.end ?_
      refine NX.sub (env' := [(0, _), (1, _), (5, _), (7, _), (8, _)]) ⟨rfl, rfl, rfl, rfl, rfl, trivial⟩ ?_
      refine NX.sub (env' := [(0, _), (1, _), (5, _), (7, _), (8, _)]) ⟨rfl, rfl, rfl, rfl, rfl, trivial⟩ ?_
      have hw := w64_id (n := t_9 + 1) (by omega) (by omega)
      exact NX.again n12 (t_9 + 1, (s_3 ||| ((((y13 >>> ((w64 (t_9 + n_0))).toNat) &&& (y16 >>> t_9.toNat)) &&& 1#32) <<< t_9.toNat))) (Nat.lt_succ_self _) ⟨(by rw [hw] <;> rfl), rfl, (fr_dec hnt_9), (by omega), ((hnx11 _).symm.trans hr)⟩

def two_Stuck (n_0 : Int) (l_1 : List Clause) : Option ((BitVec 32) × Int) :=
  (two_reach n_0 l_1).bind fun r1 =>
  (bif (r1.2 != (0 : Int)) then
  some ((0#32, r1.2))
  else
  (two_stuck n_0 r1.1).bind fun r5 =>
  some ((r5, (0 : Int))))

set_option maxRecDepth 100000 in
theorem two_Stuck_ok (w0 : World) (m : Snap) (l : List HI) (n_0 : Int) (ul_1 : Value) (l_1 : List Clause) (hl_1 : RS rClause m ul_1 l_1) (r : (BitVec 32) × Int) (hr : two_Stuck n_0 l_1 = some r) (w : World) (hc : cX w0 ⟨m, l⟩ w) :
    Calls Try.prog 32 [.int .i64 n_0, ul_1].toArray w fun e w' => e = .returned (.tuple #[.int .u32 (r.1.toNat : Int), .int .i64 r.2]) ∧ cX w0 ⟨m, l⟩ w' := by
  unfold two_Stuck at hr
  refine calls_of_Tr (N := 20) Try.func32 rfl hc rfl (Nat.le_of_ble_eq_true rfl) ?_
  refine Tr.seq ?_
  refine Tr.region_f (fun _ => false) ?_
  refine W.q rfl rfl rfl rfl (by decide) (Yd.as rfl .c) ?_
  refine W.q rfl rfl rfl rfl (by decide) (Yd.as rfl .c) ?_
  refine W.end ?_
  refine NX.sub (env' := [(0, _), (1, _)]) ⟨rfl, rfl, trivial⟩ ?_
  refine NX.then ?_
  refine Tr.seq ?_
  obtain ⟨r1, hr2, hr⟩ := bind_some hr
  refine Tr.region_f (fun i => Nat.beq i 2) ?_
  refine W.q rfl rfl rfl rfl (by decide) (Yd.mv rfl (.t rfl)) ?_
  refine W.q rfl rfl rfl rfl (by decide) (Yd.mv rfl (.t rfl)) ?_
  refine W.e rfl rfl rfl rfl (by decide) (Ef.call (R := fun z x' => ∃ v3 : Value, z = .tuple #[v3, .int .i64 r1.2] ∧ x' = ⟨m, hownT 41 1 encU v3 r1.1 :: l⟩) rfl Try.func55 rfl rfl (.cons (.t rfl) (.cons (.t rfl) .nil)) (fun w hw => (two_reach_ok w0 _ _ n_0 _ _ hl_1 _ hr2 w hw).mono fun e w' ⟨v3, he, hc'⟩ => ⟨_, _, he, ⟨v3, rfl, rfl⟩, hc'⟩)) ?_
  rintro _ _ ⟨v3, rfl, rfl⟩
  refine ⟨.inl rfl, ?_⟩
  refine W.cast (m' := m) (l' := hownT 41 1 encU v3 _ :: l) rfl rfl ?_
  refine W.q rfl rfl rfl rfl (by decide) (Yd.mv rfl (.t rfl)) ?_
  refine W.q rfl rfl rfl rfl (by decide) (Yd.ext rfl (.t rfl) rfl) ?_
  refine W.q rfl rfl rfl rfl (by decide) (Yd.ext rfl (.t rfl) rfl) ?_
  refine W.q rfl rfl rfl rfl (by decide) (Yd.as rfl (.t rfl)) ?_
  refine W.q rfl rfl rfl rfl (by decide) (Yd.as rfl (.t rfl)) ?_
  refine W.end ?_
  refine NX.sub (env' := [(0, _), (6, _), (7, _)]) ⟨rfl, rfl, rfl, trivial⟩ ?_
  refine NX.then ?_
  refine Tr.seq ?_
  refine Tr.seq ?_
  refine Tr.region_f (fun _ => false) ?_
  refine W.q rfl rfl rfl rfl (by decide) (Yd.mv rfl (.t rfl)) ?_
  refine W.q rfl rfl rfl rfl (by decide) (Yd.neq rfl (.t rfl) .c) ?_
  refine W.end ?_
  refine NX.sub (env' := [(0, _), (6, _), (7, _), (15, _)]) ⟨rfl, rfl, rfl, rfl, trivial⟩ ?_
  refine NX.then ?_
  refine Tr.cond (.t rfl) (fun hb => ?_) (fun hb => ?_)
  · have hr := cond_t hb hr
    refine Tr.seq ?_
    refine Tr.region_f (fun _ => false) ?_
    refine W.q rfl rfl rfl rfl (by decide) (Yd.mv rfl (.t rfl)) ?_
    refine W.q rfl rfl rfl rfl (by decide) (Yd.as rfl .c) ?_
    refine W.q rfl rfl rfl rfl (by decide) (Yd.as rfl (.t rfl)) ?_
    refine W.end ?_
    refine NX.sub (env' := [(4, _), (5, _)]) ⟨rfl, rfl, trivial⟩ ?_
    refine NX.drop (l' := l) (.cons _ (.refl _)) ?_
    refine NX.then ?_
    refine Tr.ret' (RT.then ?_)
    refine res2 rfl rfl rfl ?_
    intro w hc
    cases hr
    exact ⟨rfl, hc⟩
  · have hr := cond_f hb hr
    refine Tr.skip' ?_
    refine NX.then ?_
    refine Tr.seq ?_
    obtain ⟨r5, hr6, hr⟩ := bind_some hr
    refine Tr.region_f (fun _ => false) ?_
    refine W.q rfl rfl rfl rfl (by decide) (Yd.mv rfl (.t rfl)) ?_
    refine W.q rfl rfl rfl rfl (by decide) (Yd.mv rfl (.t rfl)) ?_
    refine W.q rfl rfl rfl rfl (by decide) (Yd.call (v := .int .u32 (r5.toNat : Int)) rfl Try.func58 rfl rfl (.cons (.t rfl) (.cons (.t rfl) .nil)) (by intro x' hx w hw; obtain ⟨p0, hp0⟩ := hx.at (p := 0) rfl; obtain ⟨m2, hm2, hc2, ⟨L2, hl1, hl2⟩, hback⟩ := cX_lend hw hp0 lone_own; have hL1 : RS rU m2 _ _ := RS_of_own hl1 hl2; exact (two_stuck_ok w0 m2 _ n_0 _ _ hL1 _ hr6 w hc2).mono fun e w' ⟨he, hc'⟩ => ⟨he, (hback m2 _ _ w' (.refl _) hp0).2 hc'⟩)) ?_
    refine W.q rfl rfl rfl rfl (by decide) (Yd.as rfl (.t rfl)) ?_
    refine W.q rfl rfl rfl rfl (by decide) (Yd.as rfl .c) ?_
    refine W.end ?_
    refine NX.sub (env' := [(4, _), (5, _)]) ⟨rfl, rfl, trivial⟩ ?_
    refine NX.drop (l' := l) (.cons _ (.refl _)) ?_
    refine NX.then ?_
    refine Tr.ret' ?_
    refine res2 rfl rfl rfl ?_
    intro w hc
    cases hr
    exact ⟨rfl, hc⟩

def syllogistlaw_TwoStucks_k10 (r1 : (BitVec 32) × Int) (want_9 : BitVec 32) : Option (Bool) :=
  some (((r1.2 == (0 : Int)) && (r1.1 == want_9)))

def syllogistlaw_TwoStucks_b14 (n_0 : Int) (l_1 : List Clause) (fuel : Nat) (v_13 : Int) (want_7 : BitVec 32) (nx15 : (BitVec 32) → Option (Bool)) : Option (Bool) :=
  (syllogistref_Reach fuel n_0 l_1 v_13).bind fun r17 =>
  (syllogistref_Bit r17 ((w64 (v_13 + n_0)))).bind fun r19 =>
  bif (!(r19 == true) || (syllogistref_Reach fuel n_0 l_1 ((w64 (v_13 + n_0)))).isSome) then
  bif (!(r19 == true) || (syllogistref_Bit ((((syllogistref_Reach fuel n_0 l_1 ((w64 (v_13 + n_0)))).getD (0#32)))) v_13).isSome) then
  (bif (r19 && (((syllogistref_Bit ((((syllogistref_Reach fuel n_0 l_1 ((w64 (v_13 + n_0)))).getD (0#32)))) v_13).getD false))) then
  nx15 (want_7 + (1#32 <<< ((BitVec.ofInt 64 v_13)).toNat))
  else
  nx15 want_7) else none else none

def syllogistlaw_TwoStucks (fuel : Nat) (n_0 : Int) (l_1 : List Clause) : Option (Bool) :=
  (two_Stuck n_0 l_1).bind fun r1 =>
  (syllogistref_TwoCheck n_0 l_1).bind fun r3 =>
  (bif (r3 != (0 : Int)) then
  some (((r1.2 == r3) && (r1.1 == 0#32)))
  else
  bif decide (n_0 ≤ 9223372036854775807) then
  forK (σ := (BitVec 32)) (fun i s nx_ => syllogistlaw_TwoStucks_b14 n_0 l_1 fuel i s nx_) (fun s => syllogistlaw_TwoStucks_k10 r1 s) (n_0 - (0 : Int)).toNat (0 : Int) (0#32) else none)

set_option maxRecDepth 100000 in
theorem syllogistlaw_TwoStucks_ok (w0 : World) (m : Snap) (l : List HI) (fuel : Nat) (n_0 : Int) (ul_1 : Value) (l_1 : List Clause) (hl_1 : RS rClause m ul_1 l_1) (r : Bool) (hr : syllogistlaw_TwoStucks fuel n_0 l_1 = some r) (w : World) (hc : cX w0 ⟨m, l⟩ w) :
    Calls Try.prog 10 [.int .i64 n_0, ul_1].toArray w fun e w' => e = .returned (.bool r) ∧ cX w0 ⟨m, l⟩ w' := by
  unfold syllogistlaw_TwoStucks at hr
  refine calls_of_Tr (N := 63) Try.func10 rfl hc rfl (Nat.le_of_ble_eq_true rfl) ?_
  refine Tr.seq ?_
  refine Tr.region_f (fun _ => false) ?_
  refine W.q rfl rfl rfl rfl (by decide) (Yd.as rfl .c) ?_
  refine W.end ?_
  refine NX.sub (env' := [(0, _), (1, _)]) ⟨rfl, rfl, trivial⟩ ?_
  refine NX.then ?_
  refine Tr.seq ?_
  obtain ⟨r1, hr2, hr⟩ := bind_some hr
  refine Tr.region_f (fun _ => false) ?_
  refine W.q rfl rfl rfl rfl (by decide) (Yd.mv rfl (.t rfl)) ?_
  refine W.q rfl rfl rfl rfl (by decide) (Yd.mv rfl (.t rfl)) ?_
  refine W.q rfl rfl rfl rfl (by decide) (Yd.call (v := .tuple #[.int .u32 (r1.1.toNat : Int), .int .i64 r1.2]) rfl Try.func32 rfl rfl (.cons (.t rfl) (.cons (.t rfl) .nil)) (fun x' hx w hw => two_Stuck_ok w0 x'.m x'.l n_0 _ _ (hl_1.mono hx.1) _ hr2 w hw)) ?_
  refine W.q rfl rfl rfl rfl (by decide) (Yd.mv rfl (.t rfl)) ?_
  refine W.q rfl rfl rfl rfl (by decide) (Yd.ext rfl (.t rfl) rfl) ?_
  refine W.q rfl rfl rfl rfl (by decide) (Yd.ext rfl (.t rfl) rfl) ?_
  refine W.q rfl rfl rfl rfl (by decide) (Yd.as rfl (.t rfl)) ?_
  refine W.q rfl rfl rfl rfl (by decide) (Yd.as rfl (.t rfl)) ?_
  refine W.end ?_
  refine NX.sub (env' := [(0, _), (1, _), (5, _), (6, _)]) ⟨rfl, rfl, rfl, rfl, trivial⟩ ?_
  refine NX.then ?_
  refine Tr.seq ?_
  obtain ⟨r3, hr4, hr⟩ := bind_some hr
  refine Tr.region_f (fun _ => false) ?_
  refine W.q rfl rfl rfl rfl (by decide) (Yd.mv rfl (.t rfl)) ?_
  refine W.q rfl rfl rfl rfl (by decide) (Yd.mv rfl (.t rfl)) ?_
  refine W.q rfl rfl rfl rfl (by decide) (Yd.call (v := .int .i64 r3) rfl Try.func30 rfl rfl (.cons (.t rfl) (.cons (.t rfl) .nil)) (fun x' hx w hw => syllogistref_TwoCheck_ok w0 x'.m x'.l n_0 _ _ (hl_1.mono hx.1) _ hr4 w hw)) ?_
  refine W.q rfl rfl rfl rfl (by decide) (Yd.as rfl (.t rfl)) ?_
  refine W.end ?_
  refine NX.sub (env' := [(0, _), (1, _), (5, _), (6, _), (7, _)]) ⟨rfl, rfl, rfl, rfl, rfl, trivial⟩ ?_
  refine NX.then ?_
  refine Tr.seq ?_
  refine Tr.seq ?_
  refine Tr.region_f (fun _ => false) ?_
  refine W.q rfl rfl rfl rfl (by decide) (Yd.mv rfl (.t rfl)) ?_
  refine W.q rfl rfl rfl rfl (by decide) (Yd.neq rfl (.t rfl) .c) ?_
  refine W.end ?_
  refine NX.sub (env' := [(0, _), (1, _), (5, _), (6, _), (7, _), (20, _)]) ⟨rfl, rfl, rfl, rfl, rfl, rfl, trivial⟩ ?_
  refine NX.then ?_
  refine Tr.cond (.t rfl) (fun hb => ?_) (fun hb => ?_)
  · have hr := cond_t hb hr
    refine Tr.seq ?_
    refine Tr.region_f (fun _ => false) ?_
    refine W.q rfl rfl rfl rfl (by decide) (Yd.mv rfl (.t rfl)) ?_
    refine W.q rfl rfl rfl rfl (by decide) (Yd.mv rfl (.t rfl)) ?_
    refine W.q rfl rfl rfl rfl (by decide) (Yd.eql rfl (.t rfl) (.t rfl)) ?_
    refine W.q rfl rfl rfl rfl (by decide) (Yd.mv rfl (.t rfl)) ?_
    refine W.g rfl rfl rfl rfl rfl (.t rfl _) rfl (by decide) (fun hG => Yd.mv rfl (.t rfl)) ?_
    refine W.g rfl rfl rfl rfl rfl (.t rfl _) rfl (by decide) (fun hG => Yd.eqlU (a := r1.1) (b := 0#32) rfl (.g rfl hG) .c) ?_
    refine W.q rfl rfl rfl rfl (by decide) (Yd.and rfl (.t rfl) .c rfl rfl) ?_
    refine W.q rfl rfl rfl rfl (by decide) (Yd.as rfl (.t rfl)) ?_
    refine W.end ?_
    refine NX.sub (env' := [(4, _)]) ⟨rfl, trivial⟩ ?_
    refine NX.then ?_
    refine Tr.ret' (RT.then ?_)
    refine res1 rfl rfl ?_
    intro w hc
    cases hr
    exact ⟨rfl, hc⟩
  · have hr := cond_f hb hr
    refine Tr.skip' ?_
    refine NX.then ?_
    refine Tr.seq ?_
    refine Tr.region_f (fun _ => false) ?_
    refine W.q rfl rfl rfl rfl (by decide) (Yd.as rfl .c) ?_
    refine W.end ?_
    refine NX.sub (env' := [(0, _), (1, _), (5, _), (6, _), (8, _)]) ⟨rfl, rfl, rfl, rfl, rfl, trivial⟩ ?_
    refine NX.then ?_
    refine Tr.seq ?_
    refine Tr.seq ?_
    refine Tr.region_f (fun _ => false) ?_
    refine W.q rfl rfl rfl rfl (by decide) (Yd.as rfl .c) ?_
    refine W.end ?_
    refine NX.sub (env' := [(0, _), (1, _), (5, _), (6, _), (8, _), (9, _)]) ⟨rfl, rfl, rfl, rfl, rfl, rfl, trivial⟩ ?_
    refine NX.then ?_
    refine Tr.join (S := fun env x => ∃ want_9 : BitVec 32, env = [(5, .int .u32 (r1.1.toNat : Int)), (6, .int .i64 r1.2), (8, .int .u32 (want_9.toNat : Int))] ∧ x = ⟨m, l⟩ ∧ syllogistlaw_TwoStucks_k10 r1 want_9 = some r) ?_ (fun hk11 => ?_)
    · rintro _ _ ⟨want_9, rfl, rfl, hr⟩
      unfold syllogistlaw_TwoStucks_k10 at hr
      try dsimp only at hr
      refine NX.then ?_
      refine Tr.seq ?_
      refine Tr.region_f (fun _ => false) ?_
      refine W.q rfl rfl rfl rfl (by decide) (Yd.mv rfl (.t rfl)) ?_
      refine W.q rfl rfl rfl rfl (by decide) (Yd.eql rfl (.t rfl) .c) ?_
      refine W.q rfl rfl rfl rfl (by decide) (Yd.mv rfl (.t rfl)) ?_
      refine W.g rfl rfl rfl rfl rfl (.t rfl _) rfl (by decide) (fun hG => Yd.mv rfl (.t rfl)) ?_
      refine W.g rfl rfl rfl rfl rfl (.t rfl _) rfl (by decide) (fun hG => Yd.mv rfl (.t rfl)) ?_
      refine W.g rfl rfl rfl rfl rfl (.t rfl _) rfl (by decide) (fun hG => Yd.eqlU (a := r1.1) (b := want_9) rfl (.g rfl hG) (.g rfl hG)) ?_
      refine W.q rfl rfl rfl rfl (by decide) (Yd.and rfl (.t rfl) .c rfl rfl) ?_
      refine W.q rfl rfl rfl rfl (by decide) (Yd.as rfl (.t rfl)) ?_
      refine W.end ?_
      refine NX.sub (env' := [(4, _)]) ⟨rfl, trivial⟩ ?_
      refine NX.then ?_
      refine Tr.ret' ?_
      refine res1 rfl rfl ?_
      intro w hc
      cases hr
      exact ⟨rfl, hc⟩
    obtain ⟨hle12, hr⟩ := guard_some hr; replace hle12 := of_decide_eq_true hle12
    refine Tr.block ?_
    refine Tr.sub (env' := [(0, _), (1, _), (5, _), (6, _), (8, _), (9, _)]) ⟨rfl, rfl, rfl, rfl, rfl, rfl, trivial⟩ ?_
    refine Tr.loop (S := fun n (z : Int × (BitVec 32)) env x => match z with | (v_13, want_7) => env = [(0, .int .i64 n_0), (1, ul_1), (5, .int .u32 (r1.1.toNat : Int)), (6, .int .i64 r1.2), (8, .int .u32 (want_7.toNat : Int)), (9, .int .i64 v_13)] ∧ x = ⟨m, l⟩ ∧ n = (n_0 - v_13).toNat ∧ 0 ≤ v_13 ∧ forK (σ := (BitVec 32)) (fun i s nx_ => syllogistlaw_TwoStucks_b14 n_0 l_1 fuel i s nx_) (fun s => syllogistlaw_TwoStucks_k10 r1 s) n v_13 want_7 = some r) _ ((0 : Int), 0#32) ⟨rfl, rfl, rfl, (by omega), hr⟩ ?_
    rintro n16 ⟨v_13, want_7⟩ env x ⟨rfl, rfl, hnv_13, h0v_13, hr⟩
    cases n16 with
    | zero =>
      simp only [forK] at hr
      refine Tr.seq ?_
      refine Tr.seq ?_
      refine Tr.region_f (fun _ => false) ?_
      refine W.q rfl rfl rfl rfl (by decide) (Yd.mv rfl (.t rfl)) ?_
      refine W.q rfl rfl rfl rfl (by decide) (Yd.mv rfl (.t rfl)) ?_
      refine W.q rfl rfl rfl rfl (by decide) (Yd.lss rfl (.t rfl) (.t rfl)) ?_
      refine W.end ?_
      refine NX.sub (env' := [(0, _), (1, _), (5, _), (6, _), (8, _), (9, _), (30, _)]) ⟨rfl, rfl, rfl, rfl, rfl, rfl, rfl, trivial⟩ ?_
      refine NX.then ?_
      refine Tr.cond (.t rfl) (fun hb => ?_) (fun hb => ?_)
      · exact absurd (hb.symm.trans (fr_end hnv_13)) (by decide)
      ·
        refine Tr.exit' (EX.then (EX.then (EX.block ?_)))
        refine NX.sub (env' := [(5, _), (6, _), (8, _)]) ⟨rfl, rfl, rfl, trivial⟩ ?_
        exact hk11 _ _ ⟨_, rfl, rfl, hr⟩
    | succ n16 =>
      obtain ⟨nx15, hnx15, hr⟩ := forK_succ hr
      try dsimp only at hr
      unfold syllogistlaw_TwoStucks_b14 at hr
      try dsimp only at hr
      have hltv_13 := fr_bnd hnv_13
      refine Tr.seq ?_
      refine Tr.seq ?_
      refine Tr.region_f (fun _ => false) ?_
      refine W.q rfl rfl rfl rfl (by decide) (Yd.mv rfl (.t rfl)) ?_
      refine W.q rfl rfl rfl rfl (by decide) (Yd.mv rfl (.t rfl)) ?_
      refine W.q rfl rfl rfl rfl (by decide) (Yd.lss rfl (.t rfl) (.t rfl)) ?_
      refine W.end ?_
      refine NX.sub (env' := [(0, _), (1, _), (5, _), (6, _), (8, _), (9, _), (30, _)]) ⟨rfl, rfl, rfl, rfl, rfl, rfl, rfl, trivial⟩ ?_
      refine NX.then ?_
      refine Tr.cond (.t rfl) (fun hb => ?_) (fun hb => ?_)
      rotate_left
      · exact absurd (hb.symm.trans (fr_go hnv_13)) (by decide)
      ·
        refine Tr.skip' ?_
        refine NX.then ?_
        refine Tr.seq ?_
        refine Tr.block ?_
        refine Tr.seq ?_
        obtain ⟨r17, hr18, hr⟩ := bind_some hr
        obtain ⟨r19, hr20, hr⟩ := bind_some hr
        obtain ⟨ha21, hr⟩ := guard_some hr
        obtain ⟨ha22, hr⟩ := guard_some hr
        refine Tr.region_f (fun _ => false) ?_
        refine W.q rfl rfl rfl rfl (by decide) (Yd.mv rfl (.t rfl)) ?_
        refine W.q rfl rfl rfl rfl (by decide) (Yd.mv rfl (.t rfl)) ?_
        refine W.q rfl rfl rfl rfl (by decide) (Yd.mv rfl (.t rfl)) ?_
        refine W.q rfl rfl rfl rfl (by decide) (Yd.call (v := .int .u32 (r17.toNat : Int)) rfl Try.func31 rfl rfl (.cons (.t rfl) (.cons (.t rfl) (.cons (.t rfl) .nil))) (fun x' hx w hw => syllogistref_Reach_ok w0 x'.m x'.l fuel n_0 _ _ (hl_1.mono hx.1) v_13 _ hr18 w hw)) ?_
        refine W.q rfl rfl rfl rfl (by decide) (Yd.mv rfl (.t rfl)) ?_
        refine W.q rfl rfl rfl rfl (by decide) (Yd.mv rfl (.t rfl)) ?_
        refine W.q rfl rfl rfl rfl (by decide) (Yd.add rfl (.t rfl) (.t rfl)) ?_
        refine W.q rfl rfl rfl rfl (by decide) (Yd.call (v := .bool r19) rfl Try.func33 rfl rfl (.cons (.t rfl) (.cons (.t rfl) .nil)) (fun x' hx w hw => syllogistref_Bit_ok w0 x'.m x'.l r17 ((w64 (v_13 + n_0))) _ hr20 w hw)) ?_
        refine W.q rfl rfl rfl rfl (by decide) (Yd.mv rfl (.t rfl)) ?_
        refine W.g rfl rfl rfl rfl rfl (.t rfl _) rfl (by decide) (fun hG => Yd.mv rfl (.t rfl)) ?_
        refine W.g rfl rfl rfl rfl rfl (.t rfl _) rfl (by decide) (fun hG => Yd.mv rfl (.t rfl)) ?_
        refine W.g rfl rfl rfl rfl rfl (.t rfl _) rfl (by decide) (fun hG => Yd.mv rfl (.t rfl)) ?_
        refine W.g rfl rfl rfl rfl rfl (.t rfl _) rfl (by decide) (fun hG => Yd.mv rfl (.t rfl)) ?_
        refine W.g rfl rfl rfl rfl rfl (.t rfl _) rfl (by decide) (fun hG => Yd.add rfl (.g rfl hG) (.g rfl hG)) ?_
        refine W.g rfl rfl rfl rfl rfl (.t rfl _) rfl (by decide) (fun hG => Yd.call (v := .int .u32 (((((syllogistref_Reach fuel n_0 l_1 ((w64 (v_13 + n_0)))).getD (0#32)))).toNat : Int)) rfl Try.func31 rfl rfl (.cons (.g rfl hG) (.cons (.g rfl hG) (.cons (.g rfl hG) .nil))) (fun x' hx w hw => syllogistref_Reach_ok w0 x'.m x'.l fuel n_0 _ _ (hl_1.mono hx.1) ((w64 (v_13 + n_0))) _ (gd_get (d := (0#32)) ha21 hG) w hw)) ?_
        refine W.g rfl rfl rfl rfl rfl (.t rfl _) rfl (by decide) (fun hG => Yd.mv rfl (.t rfl)) ?_
        refine W.g rfl rfl rfl rfl rfl (.t rfl _) rfl (by decide) (fun hG => Yd.call (v := .bool ((((syllogistref_Bit ((((syllogistref_Reach fuel n_0 l_1 ((w64 (v_13 + n_0)))).getD (0#32)))) v_13).getD false)))) rfl Try.func33 rfl rfl (.cons (.g rfl hG) (.cons (.g rfl hG) .nil)) (fun x' hx w hw => syllogistref_Bit_ok w0 x'.m x'.l ((((syllogistref_Reach fuel n_0 l_1 ((w64 (v_13 + n_0)))).getD (0#32)))) v_13 _ (gd_get (d := false) ha22 hG) w hw)) ?_
        refine W.q rfl rfl rfl rfl (by decide) (Yd.and rfl (.t rfl) .c rfl rfl) ?_
        refine W.end ?_
        refine NX.sub (env' := [(0, _), (1, _), (5, _), (6, _), (8, _), (9, _), (50, _)]) ⟨rfl, rfl, rfl, rfl, rfl, rfl, rfl, trivial⟩ ?_
        refine NX.then ?_
        refine Tr.cond (.t rfl) (fun hb => ?_) (fun hb => ?_)
        · have hr := cond_t hb hr
          refine Tr.region_f (fun _ => false) ?_
          refine W.q rfl rfl rfl rfl (by decide) (Yd.mv rfl (.t rfl)) ?_
          refine W.q rfl rfl rfl rfl (by decide) (Yd.mv rfl (.t rfl)) ?_
          refine W.q rfl rfl rfl rfl (by decide) (Yd.cvQ rfl US3 Try.underlying48 (.t rfl)) ?_
          refine W.q rfl rfl rfl rfl (by decide) (Yd.shlU (a := 1#32) rfl .c (.t rfl) (Int.natCast_nonneg _)) ?_
          refine W.q rfl rfl rfl rfl (by decide) (Yd.addU (a := want_7) (b := (1#32 <<< ((BitVec.ofInt 64 v_13)).toNat)) rfl (.t rfl) (.t rfl)) ?_
          refine W.q rfl rfl rfl rfl (by decide) (Yd.as rfl (.t rfl)) ?_
          refine W.end ?_
          refine NX.sub (env' := [(0, _), (1, _), (5, _), (6, _), (8, _), (9, _)]) ⟨rfl, rfl, rfl, rfl, rfl, rfl, trivial⟩ ?_
          refine NX.block ?_
          refine NX.then ?_
          refine Tr.region_f (fun _ => false) ?_
          refine W.q rfl rfl rfl rfl (by decide) (Yd.mv rfl (.t rfl)) ?_
          refine W.q rfl rfl rfl rfl (by decide) (Yd.add rfl (.t rfl) .c) ?_
          refine W.q rfl rfl rfl rfl (by decide) (Yd.as rfl (.t rfl)) ?_
          refine W.end ?_
          refine NX.sub (env' := [(0, _), (1, _), (5, _), (6, _), (8, _), (9, _)]) ⟨rfl, rfl, rfl, rfl, rfl, rfl, trivial⟩ ?_
          refine NX.sub (env' := [(0, _), (1, _), (5, _), (6, _), (8, _), (9, _)]) ⟨rfl, rfl, rfl, rfl, rfl, rfl, trivial⟩ ?_
          have hw := w64_id (n := v_13 + 1) (by omega) (by omega)
          exact NX.again n16 (v_13 + 1, (want_7 + (1#32 <<< ((BitVec.ofInt 64 v_13)).toNat))) (Nat.lt_succ_self _) ⟨(by rw [hw] <;> rfl), rfl, (fr_dec hnv_13), (by omega), ((hnx15 _).symm.trans hr)⟩
        · have hr := cond_f hb hr
          refine Tr.skip' ?_
          refine NX.block ?_
          refine NX.then ?_
          refine Tr.region_f (fun _ => false) ?_
          refine W.q rfl rfl rfl rfl (by decide) (Yd.mv rfl (.t rfl)) ?_
          refine W.q rfl rfl rfl rfl (by decide) (Yd.add rfl (.t rfl) .c) ?_
          refine W.q rfl rfl rfl rfl (by decide) (Yd.as rfl (.t rfl)) ?_
          refine W.end ?_
          refine NX.sub (env' := [(0, _), (1, _), (5, _), (6, _), (8, _), (9, _)]) ⟨rfl, rfl, rfl, rfl, rfl, rfl, trivial⟩ ?_
          refine NX.sub (env' := [(0, _), (1, _), (5, _), (6, _), (8, _), (9, _)]) ⟨rfl, rfl, rfl, rfl, rfl, rfl, trivial⟩ ?_
          have hw := w64_id (n := v_13 + 1) (by omega) (by omega)
          exact NX.again n16 (v_13 + 1, want_7) (Nat.lt_succ_self _) ⟨(by rw [hw] <;> rfl), rfl, (fr_dec hnv_13), (by omega), ((hnx15 _).symm.trans hr)⟩
end Go.Proofs.Ytmggbhpieikdpaa.Sy
