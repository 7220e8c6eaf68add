/- Functions of the program as plain functions, and that the translation computes them; the conditions stand in each theorem. Printed by an own program. -/
import Derived.Test.YtohfiinnkoinlaaG1a
import Derived.Test.YtohfiinnkoinlaaProg
namespace Go.Proofs.Ytohfiinnkoinlaa.Sy
open Go
set_option linter.unusedVariables false
def syllogistlaw_FixRises (n_0 : Int) (f_1 : List (BitVec 32)) : Option (Bool) :=
  (fix_Rises n_0 f_1).bind fun r1 =>
  (syllogistref_MapCheck n_0 f_1).bind fun r3 =>
  (bif (r3 != (0 : Int)) then
  some (((r1.2 == r3) && (!r1.1)))
  else
  bif (!((r1.2 == (0 : Int)) == true) || (syllogistref_Rises f_1).isSome) then
  some (((r1.2 == (0 : Int)) && (r1.1 == (((syllogistref_Rises f_1).getD false))))) else none)

set_option maxRecDepth 100000 in
theorem syllogistlaw_FixRises_ok (w0 : World) (m : Snap) (l : List HI) (n_0 : Int) (uf_1 : Value) (f_1 : List (BitVec 32)) (hf_1 : RS rU m uf_1 f_1) (r : Bool) (hr : syllogistlaw_FixRises n_0 f_1 = some r) (w : World) (hc : cX w0 ⟨m, l⟩ w) :
    Calls Try.prog 9 [.int .i64 n_0, uf_1].toArray w fun e w' => e = .returned (.bool r) ∧ cX w0 ⟨m, l⟩ w' := by
  unfold syllogistlaw_FixRises at hr
  refine calls_of_Tr (N := 34) Try.func9 rfl hc rfl (Nat.le_of_ble_eq_true rfl) ?_
  refine Tr.seq ?_
  refine Tr.region_f (fun _ => false) ?_
  refine W.q rfl rfl rfl rfl (by decide) (Yd.as rfl .c) ?_
  refine W.end ?_
  refine NX.sub (env' := [(0, _), (1, _)]) ⟨rfl, rfl, trivial⟩ ?_
  refine NX.then ?_
  refine Tr.seq ?_
  obtain ⟨r1, hr2, hr⟩ := bind_some hr
  refine Tr.region_f (fun _ => false) ?_
  refine W.q rfl rfl rfl rfl (by decide) (Yd.mv rfl (.t rfl)) ?_
  refine W.q rfl rfl rfl rfl (by decide) (Yd.mv rfl (.t rfl)) ?_
  refine W.q rfl rfl rfl rfl (by decide) (Yd.call (v := .tuple #[.bool r1.1, .int .i64 r1.2]) rfl Try.func28 rfl rfl (.cons (.t rfl) (.cons (.t rfl) .nil)) (fun x' hx w hw => fix_Rises_ok w0 x'.m x'.l n_0 _ _ (hf_1.mono hx.1) _ hr2 w hw)) ?_
  refine W.q rfl rfl rfl rfl (by decide) (Yd.mv rfl (.t rfl)) ?_
  refine W.q rfl rfl rfl rfl (by decide) (Yd.ext rfl (.t rfl) rfl) ?_
  refine W.q rfl rfl rfl rfl (by decide) (Yd.ext rfl (.t rfl) rfl) ?_
  refine W.q rfl rfl rfl rfl (by decide) (Yd.as rfl (.t rfl)) ?_
  refine W.q rfl rfl rfl rfl (by decide) (Yd.as rfl (.t rfl)) ?_
  refine W.end ?_
  refine NX.sub (env' := [(0, _), (1, _), (5, _), (6, _)]) ⟨rfl, rfl, rfl, rfl, trivial⟩ ?_
  refine NX.then ?_
  refine Tr.seq ?_
  obtain ⟨r3, hr4, hr⟩ := bind_some hr
  refine Tr.region_f (fun _ => false) ?_
  refine W.q rfl rfl rfl rfl (by decide) (Yd.mv rfl (.t rfl)) ?_
  refine W.q rfl rfl rfl rfl (by decide) (Yd.mv rfl (.t rfl)) ?_
  refine W.q rfl rfl rfl rfl (by decide) (Yd.call (v := .int .i64 r3) rfl Try.func26 rfl rfl (.cons (.t rfl) (.cons (.t rfl) .nil)) (fun x' hx w hw => syllogistref_MapCheck_ok w0 x'.m x'.l n_0 _ _ (hf_1.mono hx.1) _ hr4 w hw)) ?_
  refine W.q rfl rfl rfl rfl (by decide) (Yd.as rfl (.t rfl)) ?_
  refine W.end ?_
  refine NX.sub (env' := [(1, _), (5, _), (6, _), (7, _)]) ⟨rfl, rfl, rfl, rfl, trivial⟩ ?_
  refine NX.then ?_
  refine Tr.seq ?_
  refine Tr.seq ?_
  refine Tr.region_f (fun _ => false) ?_
  refine W.q rfl rfl rfl rfl (by decide) (Yd.mv rfl (.t rfl)) ?_
  refine W.q rfl rfl rfl rfl (by decide) (Yd.neq rfl (.t rfl) .c) ?_
  refine W.end ?_
  refine NX.sub (env' := [(1, _), (5, _), (6, _), (7, _), (18, _)]) ⟨rfl, rfl, rfl, rfl, rfl, trivial⟩ ?_
  refine NX.then ?_
  refine Tr.cond (.t rfl) (fun hb => ?_) (fun hb => ?_)
  · have hr := cond_t hb hr
    refine Tr.seq ?_
    refine Tr.region_f (fun _ => false) ?_
    refine W.q rfl rfl rfl rfl (by decide) (Yd.mv rfl (.t rfl)) ?_
    refine W.q rfl rfl rfl rfl (by decide) (Yd.mv rfl (.t rfl)) ?_
    refine W.q rfl rfl rfl rfl (by decide) (Yd.eql rfl (.t rfl) (.t rfl)) ?_
    refine W.q rfl rfl rfl rfl (by decide) (Yd.mv rfl (.t rfl)) ?_
    refine W.g rfl rfl rfl rfl rfl (.t rfl _) rfl (by decide) (fun hG => Yd.mv rfl (.t rfl)) ?_
    refine W.g rfl rfl rfl rfl rfl (.t rfl _) rfl (by decide) (fun hG => Yd.not rfl (.g rfl hG)) ?_
    refine W.q rfl rfl rfl rfl (by decide) (Yd.and rfl (.t rfl) .c rfl rfl) ?_
    refine W.q rfl rfl rfl rfl (by decide) (Yd.as rfl (.t rfl)) ?_
    refine W.end ?_
    refine NX.sub (env' := [(4, _)]) ⟨rfl, trivial⟩ ?_
    refine NX.then ?_
    refine Tr.ret' (RT.then ?_)
    refine res1 rfl rfl ?_
    intro w hc
    cases hr
    exact ⟨rfl, hc⟩
  · have hr := cond_f hb hr
    refine Tr.skip' ?_
    refine NX.then ?_
    refine Tr.seq ?_
    obtain ⟨ha5, hr⟩ := guard_some hr
    refine Tr.region_f (fun _ => false) ?_
    refine W.q rfl rfl rfl rfl (by decide) (Yd.mv rfl (.t rfl)) ?_
    refine W.q rfl rfl rfl rfl (by decide) (Yd.eql rfl (.t rfl) .c) ?_
    refine W.q rfl rfl rfl rfl (by decide) (Yd.mv rfl (.t rfl)) ?_
    refine W.g rfl rfl rfl rfl rfl (.t rfl _) rfl (by decide) (fun hG => Yd.mv rfl (.t rfl)) ?_
    refine W.g rfl rfl rfl rfl rfl (.t rfl _) rfl (by decide) (fun hG => Yd.mv rfl (.t rfl)) ?_
    refine W.g rfl rfl rfl rfl rfl (.t rfl _) rfl (by decide) (fun hG => Yd.call (v := .bool ((((syllogistref_Rises f_1).getD false)))) rfl Try.func29 rfl rfl (.cons (.g rfl hG) .nil) (fun x' hx w hw => syllogistref_Rises_ok w0 x'.m x'.l _ _ (hf_1.mono hx.1) _ (gd_get (d := false) ha5 hG) w hw)) ?_
    refine W.g rfl rfl rfl rfl rfl (.t rfl _) rfl (by decide) (fun hG => Yd.eqlB Try.underlying4 rfl (.g rfl hG) (.g rfl hG)) ?_
    refine W.q rfl rfl rfl rfl (by decide) (Yd.and rfl (.t rfl) .c rfl rfl) ?_
    refine W.q rfl rfl rfl rfl (by decide) (Yd.as rfl (.t rfl)) ?_
    refine W.end ?_
    refine NX.sub (env' := [(4, _)]) ⟨rfl, trivial⟩ ?_
    refine NX.then ?_
    refine Tr.ret' ?_
    refine res1 rfl rfl ?_
    intro w hc
    cases hr
    exact ⟨rfl, hc⟩

def fix_from_k8 (s_7 : BitVec 32) : Option ((BitVec 32) × Int) :=
  some ((s_7, (0 : Int)))

def fix_from_b10 (f_1 : List (BitVec 32)) (s_6 : BitVec 32) (nx11 : (BitVec 32) → Option ((BitVec 32) × Int)) : Option ((BitVec 32) × Int) :=
  (geti f_1 ((s_6.toNat : Int))).bind fun y13 =>
  (bif (y13 != s_6) then
  (geti f_1 ((s_6.toNat : Int))).bind fun y15 =>
  nx11 y15
  else
  fix_from_k8 s_6)

def fix_from (fuel : Nat) (n_0 : Int) (f_1 : List (BitVec 32)) (s_2 : (BitVec 32)) : Option ((BitVec 32) × Int) :=
  (fix_wrong n_0 f_1).bind fun r1 =>
  (bif (r1 != (0 : Int)) then
  some ((0#32, r1))
  else
  (fix_rises n_0 f_1).bind fun r3 =>
  (bif (!r3) then
  some ((0#32, (5 : Int)))
  else
  whileK (σ := (BitVec 32)) (fun s nx_ => fix_from_b10 f_1 s nx_) fuel s_2))

set_option maxRecDepth 100000 in
theorem fix_from_ok (w0 : World) (m : Snap) (l : List HI) (fuel : Nat) (n_0 : Int) (uf_1 : Value) (f_1 : List (BitVec 32)) (hf_1 : RS rU m uf_1 f_1) (s_2 : (BitVec 32)) (r : (BitVec 32) × Int) (hr : fix_from fuel n_0 f_1 s_2 = some r) (w : World) (hc : cX w0 ⟨m, l⟩ w) :
    Calls Try.prog 40 [.int .i64 n_0, uf_1, .int .u32 (s_2.toNat : Int)].toArray w fun e w' => e = .returned (.tuple #[.int .u32 (r.1.toNat : Int), .int .i64 r.2]) ∧ cX w0 ⟨m, l⟩ w' := by
  unfold fix_from at hr
  refine calls_of_Tr (N := 30) Try.func40 rfl hc rfl (Nat.le_of_ble_eq_true rfl) ?_
  refine Tr.seq ?_
  refine Tr.region_f (fun _ => false) ?_
  refine W.q rfl rfl rfl rfl (by decide) (Yd.as rfl .c) ?_
  refine W.q rfl rfl rfl rfl (by decide) (Yd.as rfl .c) ?_
  refine W.end ?_
  refine NX.sub (env' := [(0, _), (1, _), (2, _)]) ⟨rfl, rfl, rfl, trivial⟩ ?_
  refine NX.then ?_
  refine Tr.seq ?_
  refine Tr.seq ?_
  obtain ⟨r1, hr2, hr⟩ := bind_some hr
  refine Tr.region_f (fun _ => false) ?_
  refine W.q rfl rfl rfl rfl (by decide) (Yd.mv rfl (.t rfl)) ?_
  refine W.q rfl rfl rfl rfl (by decide) (Yd.mv rfl (.t rfl)) ?_
  refine W.q rfl rfl rfl rfl (by decide) (Yd.call (v := .int .i64 r1) rfl Try.func38 rfl rfl (.cons (.t rfl) (.cons (.t rfl) .nil)) (fun x' hx w hw => fix_wrong_ok w0 x'.m x'.l n_0 _ _ (hf_1.mono hx.1) _ hr2 w hw)) ?_
  refine W.q rfl rfl rfl rfl (by decide) (Yd.as rfl (.t rfl)) ?_
  refine W.end ?_
  refine NX.sub (env' := [(0, _), (1, _), (2, _), (8, _)]) ⟨rfl, rfl, rfl, rfl, trivial⟩ ?_
  refine NX.then ?_
  refine Tr.seq ?_
  refine Tr.region_f (fun _ => false) ?_
  refine W.q rfl rfl rfl rfl (by decide) (Yd.mv rfl (.t rfl)) ?_
  refine W.q rfl rfl rfl rfl (by decide) (Yd.neq rfl (.t rfl) .c) ?_
  refine W.end ?_
  refine NX.sub (env' := [(0, _), (1, _), (2, _), (8, _), (13, _)]) ⟨rfl, rfl, rfl, rfl, rfl, trivial⟩ ?_
  refine NX.then ?_
  refine Tr.cond (.t rfl) (fun hb => ?_) (fun hb => ?_)
  · have hr := cond_t hb hr
    refine Tr.seq ?_
    refine Tr.region_f (fun _ => false) ?_
    refine W.q rfl rfl rfl rfl (by decide) (Yd.mv rfl (.t rfl)) ?_
    refine W.q rfl rfl rfl rfl (by decide) (Yd.as rfl .c) ?_
    refine W.q rfl rfl rfl rfl (by decide) (Yd.as rfl (.t rfl)) ?_
    refine W.end ?_
    refine NX.sub (env' := [(6, _), (7, _)]) ⟨rfl, rfl, trivial⟩ ?_
    refine NX.then ?_
    refine Tr.ret' (RT.then ?_)
    refine res2 rfl rfl rfl ?_
    intro w hc
    cases hr
    exact ⟨rfl, hc⟩
  · have hr := cond_f hb hr
    refine Tr.skip' ?_
    refine NX.then ?_
    refine Tr.seq ?_
    refine Tr.seq ?_
    obtain ⟨r3, hr4, hr⟩ := bind_some hr
    refine Tr.region_f (fun _ => false) ?_
    refine W.q rfl rfl rfl rfl (by decide) (Yd.mv rfl (.t rfl)) ?_
    refine W.q rfl rfl rfl rfl (by decide) (Yd.mv rfl (.t rfl)) ?_
    refine W.q rfl rfl rfl rfl (by decide) (Yd.call (v := .bool r3) rfl Try.func39 rfl rfl (.cons (.t rfl) (.cons (.t rfl) .nil)) (fun x' hx w hw => fix_rises_ok w0 x'.m x'.l n_0 _ _ (hf_1.mono hx.1) _ hr4 w hw)) ?_
    refine W.q rfl rfl rfl rfl (by decide) (Yd.not rfl (.t rfl)) ?_
    refine W.end ?_
    refine NX.sub (env' := [(1, _), (2, _), (18, _)]) ⟨rfl, rfl, rfl, trivial⟩ ?_
    refine NX.then ?_
    refine Tr.cond (.t rfl) (fun hb => ?_) (fun hb => ?_)
    · have hr := cond_t hb hr
      refine Tr.seq ?_
      refine Tr.region_f (fun _ => false) ?_
      refine W.q rfl rfl rfl rfl (by decide) (Yd.as rfl .c) ?_
      refine W.q rfl rfl rfl rfl (by decide) (Yd.as rfl .c) ?_
      refine W.end ?_
      refine NX.sub (env' := [(6, _), (7, _)]) ⟨rfl, rfl, trivial⟩ ?_
      refine NX.then ?_
      refine Tr.ret' (RT.then ?_)
      refine res2 rfl rfl rfl ?_
      intro w hc
      cases hr
      exact ⟨rfl, hc⟩
    · have hr := cond_f hb hr
      refine Tr.skip' ?_
      refine NX.then ?_
      refine Tr.seq ?_
      refine Tr.join (S := fun env x => ∃ s_7 : BitVec 32, env = [(2, .int .u32 (s_7.toNat : Int))] ∧ x = ⟨m, l⟩ ∧ fix_from_k8 s_7 = some r) ?_ (fun hk9 => ?_)
      · rintro _ _ ⟨s_7, rfl, rfl, hr⟩
        unfold fix_from_k8 at hr
        try dsimp only at hr
        refine NX.then ?_
        refine Tr.seq ?_
        refine Tr.region_f (fun _ => false) ?_
        refine W.q rfl rfl rfl rfl (by decide) (Yd.mv rfl (.t rfl)) ?_
        refine W.q rfl rfl rfl rfl (by decide) (Yd.as rfl (.t rfl)) ?_
        refine W.q rfl rfl rfl rfl (by decide) (Yd.as rfl .c) ?_
        refine W.end ?_
        refine NX.sub (env' := [(6, _), (7, _)]) ⟨rfl, rfl, trivial⟩ ?_
        refine NX.then ?_
        refine Tr.ret' ?_
        refine res2 rfl rfl rfl ?_
        intro w hc
        cases hr
        exact ⟨rfl, hc⟩
      refine Tr.block ?_
      refine Tr.sub (env' := [(1, _), (2, _)]) ⟨rfl, rfl, trivial⟩ ?_
      refine Tr.loop (S := fun n (z : (BitVec 32)) env x => match z with | s_6 => env = [(1, uf_1), (2, .int .u32 (s_6.toNat : Int))] ∧ x = ⟨m, l⟩ ∧ whileK (σ := (BitVec 32)) (fun s nx_ => fix_from_b10 f_1 s nx_) n s_6 = some r) _ s_2 ⟨rfl, rfl, hr⟩ ?_
      rintro n12 s_6 env x ⟨rfl, rfl, hr⟩
      cases n12 with
      | zero => simp [whileK] at hr
      | succ n12 =>
        obtain ⟨nx11, hnx11, hr⟩ := whileK_succ hr
        try dsimp only at hr
        unfold fix_from_b10 at hr
        try dsimp only at hr
        refine Tr.seq ?_
        refine Tr.seq ?_
        obtain ⟨y13, hy14, hr⟩ := bind_some hr
        refine Tr.region_f (fun _ => false) ?_
        refine W.q rfl rfl rfl rfl (by decide) (Yd.mv rfl (.t rfl)) ?_
        refine W.q rfl rfl rfl rfl (by decide) (Yd.mv rfl (.t rfl)) ?_
        refine W.q rfl rfl rfl rfl (by decide) (Yd.idxR hf_1 hy14 rfl Try.underlying36 SZ23 (.t rfl) (.t rfl)) ?_
        refine W.q rfl rfl rfl rfl (by decide) (Yd.ldF hf_1 (.refl _) hy14 rfl rfl ON23 (.t rfl)) ?_
        refine W.q rfl rfl rfl rfl (by decide) (Yd.mv rfl (.t rfl)) ?_
        refine W.q rfl rfl rfl rfl (by decide) (Yd.neqU rfl (.t rfl) (.t rfl)) ?_
        refine W.end ?_
        refine NX.sub (env' := [(1, _), (2, _), (24, _)]) ⟨rfl, rfl, rfl, trivial⟩ ?_
        refine NX.then ?_
        refine Tr.cond (.t rfl) (fun hb => ?_) (fun hb => ?_)
        · have hr := cond_t hb hr
          refine Tr.skip' ?_
          refine NX.then ?_
          refine Tr.block ?_
          obtain ⟨y15, hy16, hr⟩ := bind_some hr
          refine Tr.region_f (fun _ => false) ?_
          refine W.q rfl rfl rfl rfl (by decide) (Yd.mv rfl (.t rfl)) ?_
          refine W.q rfl rfl rfl rfl (by decide) (Yd.mv rfl (.t rfl)) ?_
          refine W.q rfl rfl rfl rfl (by decide) (Yd.idxR hf_1 hy16 rfl Try.underlying36 SZ23 (.t rfl) (.t rfl)) ?_
          refine W.q rfl rfl rfl rfl (by decide) (Yd.ldF hf_1 (.refl _) hy16 rfl rfl ON23 (.t rfl)) ?_
          refine W.q rfl rfl rfl rfl (by decide) (Yd.as rfl (.t rfl)) ?_
          refine W.end ?_
          refine NX.sub (env' := [(1, _), (2, _)]) ⟨rfl, rfl, trivial⟩ ?_
          refine NX.block ?_
          refine NX.sub (env' := [(1, _), (2, _)]) ⟨rfl, rfl, trivial⟩ ?_
          exact NX.again n12 y15 (Nat.lt_succ_self _) ⟨rfl, rfl, ((hnx11 _).symm.trans hr)⟩
        · have hr := cond_f hb hr
          refine Tr.exit' (EX.then (EX.then (EX.block ?_)))
          refine NX.sub (env' := [(2, _)]) ⟨rfl, trivial⟩ ?_
          exact hk9 _ _ ⟨_, rfl, rfl, hr⟩

def fix_Least (fuel : Nat) (n_0 : Int) (f_1 : List (BitVec 32)) : Option ((BitVec 32) × Int) :=
  (fix_from fuel n_0 f_1 (0#32)).bind fun r1 =>
  some ((r1.1, r1.2))

set_option maxRecDepth 100000 in
theorem fix_Least_ok (w0 : World) (m : Snap) (l : List HI) (fuel : Nat) (n_0 : Int) (uf_1 : Value) (f_1 : List (BitVec 32)) (hf_1 : RS rU m uf_1 f_1) (r : (BitVec 32) × Int) (hr : fix_Least fuel n_0 f_1 = some r) (w : World) (hc : cX w0 ⟨m, l⟩ w) :
    Calls Try.prog 30 [.int .i64 n_0, uf_1].toArray w fun e w' => e = .returned (.tuple #[.int .u32 (r.1.toNat : Int), .int .i64 r.2]) ∧ cX w0 ⟨m, l⟩ w' := by
  unfold fix_Least at hr
  refine calls_of_Tr (N := 11) Try.func30 rfl hc rfl (Nat.le_of_ble_eq_true rfl) ?_
  refine Tr.seq ?_
  refine Tr.region_f (fun _ => false) ?_
  refine W.q rfl rfl rfl rfl (by decide) (Yd.as rfl .c) ?_
  refine W.q rfl rfl rfl rfl (by decide) (Yd.as rfl .c) ?_
  refine W.end ?_
  refine NX.sub (env' := [(0, _), (1, _)]) ⟨rfl, rfl, trivial⟩ ?_
  refine NX.then ?_
  refine Tr.seq ?_
  obtain ⟨r1, hr2, hr⟩ := bind_some hr
  refine Tr.region_f (fun _ => false) ?_
  refine W.q rfl rfl rfl rfl (by decide) (Yd.mv rfl (.t rfl)) ?_
  refine W.q rfl rfl rfl rfl (by decide) (Yd.mv rfl (.t rfl)) ?_
  refine W.q rfl rfl rfl rfl (by decide) (Yd.call (v := .tuple #[.int .u32 (r1.1.toNat : Int), .int .i64 r1.2]) rfl Try.func40 rfl rfl (.cons (.t rfl) (.cons (.t rfl) (.cons .c .nil))) (fun x' hx w hw => fix_from_ok w0 x'.m x'.l fuel n_0 _ _ (hf_1.mono hx.1) (0#32) _ hr2 w hw)) ?_
  refine W.q rfl rfl rfl rfl (by decide) (Yd.ext rfl (.t rfl) rfl) ?_
  refine W.q rfl rfl rfl rfl (by decide) (Yd.ext rfl (.t rfl) rfl) ?_
  refine W.q rfl rfl rfl rfl (by decide) (Yd.as rfl (.t rfl)) ?_
  refine W.q rfl rfl rfl rfl (by decide) (Yd.as rfl (.t rfl)) ?_
  refine W.end ?_
  refine NX.sub (env' := [(4, _), (5, _)]) ⟨rfl, rfl, trivial⟩ ?_
  refine NX.then ?_
  refine Tr.ret' ?_
  refine res2 rfl rfl rfl ?_
  intro w hc
  cases hr
  exact ⟨rfl, hc⟩

def syllogistref_Fixed_k10 (l8 : List (BitVec 32)) : Option ((List (BitVec 32))) :=
  some l8

def syllogistref_Fixed_b14 (f_0 : List (BitVec 32)) (s_13 : Int) (l6 : List (BitVec 32)) (nx15 : (List (BitVec 32)) → Option ((List (BitVec 32)))) : Option ((List (BitVec 32))) :=
  (geti f_0 s_13).bind fun y17 =>
  (bif (y17 == (BitVec.ofInt 32 s_13)) then
  (geti f_0 s_13).bind fun y19 =>
  bif decide (l6.length + (([y19] : List (BitVec 32))).length ≤ 35184372088832) then
  nx15 (l6 ++ ([y19] : List (BitVec 32))) else none
  else
  nx15 l6)

def syllogistref_Fixed (f_0 : List (BitVec 32)) : Option ((List (BitVec 32))) :=
  forK (σ := (List (BitVec 32))) (fun i s nx_ => syllogistref_Fixed_b14 f_0 i s nx_) (fun s => syllogistref_Fixed_k10 s) ((f_0.length : Int) - (0 : Int)).toNat (0 : Int) (([] : List (BitVec 32)))

set_option maxRecDepth 100000 in
theorem syllogistref_Fixed_ok (w0 : World) (m : Snap) (l : List HI) (uf_0 : Value) (f_0 : List (BitVec 32)) (hf_0 : RS rU m uf_0 f_0) (r : (List (BitVec 32))) (hr : syllogistref_Fixed f_0 = some r) (w : World) (hc : cX w0 ⟨m, l⟩ w) :
    Calls Try.prog 27 [uf_0].toArray w fun e w' => ∃ z0 : Value, e = .returned (z0) ∧ cX w0 ⟨m, hownT 23 1 encU z0 r :: l⟩ w' := by
  unfold syllogistref_Fixed at hr
  refine calls_of_Tr (N := 26) Try.func27 rfl hc rfl (Nat.le_of_ble_eq_true rfl) ?_
  refine Tr.seq ?_
  refine Tr.region_f (fun _ => false) ?_
  refine W.q rfl rfl rfl rfl (by decide) (Yd.as rfl .c) ?_
  refine W.end ?_
  refine NX.sub (env' := [(0, _)]) ⟨rfl, trivial⟩ ?_
  refine NX.then ?_
  refine Tr.seq ?_
  refine Tr.region_f (fun _ => false) ?_
  refine W.q rfl rfl rfl rfl (by decide) (Yd.as rfl .c) ?_
  refine W.end ?_
  refine NX.sub (env' := [(0, _), (3, _)]) ⟨rfl, rfl, trivial⟩ ?_
  refine NX.then ?_
  refine Tr.seq ?_
  refine Tr.seq ?_
  refine Tr.region_f (fun _ => false) ?_
  refine W.q rfl rfl rfl rfl (by decide) (Yd.as rfl .c) ?_
  refine W.end ?_
  refine NX.sub (env' := [(0, _), (3, _), (4, _)]) ⟨rfl, rfl, rfl, trivial⟩ ?_
  refine NX.then ?_
  refine Tr.addnil 23 1 ?_
  refine Tr.join (S := fun env x => ∃ l8 : List (BitVec 32), ∃ v9 : Value, env = [(3, v9)] ∧ x = ⟨m, hownT 23 1 encU v9 l8 :: l⟩ ∧ syllogistref_Fixed_k10 l8 = some r) ?_ (fun hk11 => ?_)
  · rintro _ _ ⟨l8, v9, rfl, rfl, hr⟩
    unfold syllogistref_Fixed_k10 at hr
    try dsimp only at hr
    refine NX.then ?_
    refine Tr.seq ?_
    refine Tr.region_f (fun _ => false) ?_
    refine W.q rfl rfl rfl rfl (by decide) (Yd.mv rfl (.t rfl)) ?_
    refine W.q rfl rfl rfl rfl (by decide) (Yd.as rfl (.t rfl)) ?_
    refine W.end ?_
    refine NX.sub (env' := [(2, _)]) ⟨rfl, trivial⟩ ?_
    refine NX.then ?_
    refine Tr.ret' ?_
    refine res1 rfl rfl ?_
    intro w hc
    cases hr
    exact ⟨_, rfl, hc⟩
  have hlen12 := (hf_0).2.1
  refine Tr.block ?_
  refine Tr.sub (env' := [(0, _), (3, _), (4, _)]) ⟨rfl, rfl, rfl, trivial⟩ ?_
  refine Tr.loop (S := fun n (z : Int × (List (BitVec 32))) env x => match z with | (s_13, l6) => ∃ v7 : Value, env = [(0, uf_0), (3, v7), (4, .int .i64 s_13)] ∧ x = ⟨m, hownT 23 1 encU v7 l6 :: l⟩ ∧ n = ((f_0.length : Int) - s_13).toNat ∧ 0 ≤ s_13 ∧ forK (σ := (List (BitVec 32))) (fun i s nx_ => syllogistref_Fixed_b14 f_0 i s nx_) (fun s => syllogistref_Fixed_k10 s) n s_13 l6 = some r) _ ((0 : Int), ([] : List (BitVec 32))) ⟨_, rfl, rfl, rfl, (by omega), hr⟩ ?_
  rintro n16 ⟨s_13, l6⟩ env x ⟨v7, rfl, rfl, hns_13, h0s_13, hr⟩
  cases n16 with
  | zero =>
    simp only [forK] at hr
    refine Tr.seq ?_
    refine Tr.seq ?_
    refine Tr.region_f (fun _ => false) ?_
    refine W.q rfl rfl rfl rfl (by decide) (Yd.mv rfl (.t rfl)) ?_
    refine W.q rfl rfl rfl rfl (by decide) (Yd.mv rfl (.t rfl)) ?_
    refine W.q rfl rfl rfl rfl (by decide) (Yd.lenR hf_0 rfl Try.underlying36 (.t rfl)) ?_
    refine W.q rfl rfl rfl rfl (by decide) (Yd.lss rfl (.t rfl) (.t rfl)) ?_
    refine W.end ?_
    refine NX.sub (env' := [(0, _), (3, _), (4, _), (8, _)]) ⟨rfl, rfl, rfl, rfl, trivial⟩ ?_
    refine NX.then ?_
    refine Tr.cond (.t rfl) (fun hb => ?_) (fun hb => ?_)
    · exact absurd (hb.symm.trans (fr_end hns_13)) (by decide)
    ·
      refine Tr.exit' (EX.then (EX.then (EX.block ?_)))
      refine NX.sub (env' := [(3, _)]) ⟨rfl, trivial⟩ ?_
      exact hk11 _ _ ⟨_, _, rfl, rfl, hr⟩
  | succ n16 =>
    obtain ⟨nx15, hnx15, hr⟩ := forK_succ hr
    try dsimp only at hr
    unfold syllogistref_Fixed_b14 at hr
    try dsimp only at hr
    have hlts_13 := fr_bnd hns_13
    refine Tr.seq ?_
    refine Tr.seq ?_
    refine Tr.region_f (fun _ => false) ?_
    refine W.q rfl rfl rfl rfl (by decide) (Yd.mv rfl (.t rfl)) ?_
    refine W.q rfl rfl rfl rfl (by decide) (Yd.mv rfl (.t rfl)) ?_
    refine W.q rfl rfl rfl rfl (by decide) (Yd.lenR hf_0 rfl Try.underlying36 (.t rfl)) ?_
    refine W.q rfl rfl rfl rfl (by decide) (Yd.lss rfl (.t rfl) (.t rfl)) ?_
    refine W.end ?_
    refine NX.sub (env' := [(0, _), (3, _), (4, _), (8, _)]) ⟨rfl, rfl, rfl, rfl, trivial⟩ ?_
    refine NX.then ?_
    refine Tr.cond (.t rfl) (fun hb => ?_) (fun hb => ?_)
    rotate_left
    · exact absurd (hb.symm.trans (fr_go hns_13)) (by decide)
    ·
      refine Tr.skip' ?_
      refine NX.then ?_
      refine Tr.seq ?_
      refine Tr.block ?_
      refine Tr.seq ?_
      obtain ⟨y17, hy18, hr⟩ := bind_some hr
      refine Tr.region_f (fun _ => false) ?_
      refine W.q rfl rfl rfl rfl (by decide) (Yd.mv rfl (.t rfl)) ?_
      refine W.q rfl rfl rfl rfl (by decide) (Yd.mv rfl (.t rfl)) ?_
      refine W.q rfl rfl rfl rfl (by decide) (Yd.idxR hf_0 hy18 rfl Try.underlying36 SZ23 (.t rfl) (.t rfl)) ?_
      refine W.q rfl rfl rfl rfl (by decide) (Yd.ldF hf_0 (.refl _) hy18 rfl rfl ON23 (.t rfl)) ?_
      refine W.q rfl rfl rfl rfl (by decide) (Yd.mv rfl (.t rfl)) ?_
      refine W.q rfl rfl rfl rfl (by decide) (Yd.cvU rfl US3 Try.underlying23 (.t rfl)) ?_
      refine W.q rfl rfl rfl rfl (by decide) (Yd.eqlU rfl (.t rfl) (.t rfl)) ?_
      refine W.end ?_
      refine NX.sub (env' := [(0, _), (3, _), (4, _), (17, _)]) ⟨rfl, rfl, rfl, rfl, trivial⟩ ?_
      refine NX.then ?_
      refine Tr.cond (.t rfl) (fun hb => ?_) (fun hb => ?_)
      · have hr := cond_t hb hr
        obtain ⟨y19, hy20, hr⟩ := bind_some hr
        obtain ⟨hq24, hr⟩ := guard_some hr; replace hq24 := of_decide_eq_true hq24
        refine Tr.region_f (fun i => Nat.beq i 5 || Nat.beq i 6) ?_
        refine W.q rfl rfl rfl rfl (by decide) (Yd.mv rfl (.t rfl)) ?_
        refine W.q rfl rfl rfl rfl (by decide) (Yd.mv rfl (.t rfl)) ?_
        refine W.q rfl rfl rfl rfl (by decide) (Yd.mv rfl (.t rfl)) ?_
        refine W.q rfl rfl rfl rfl (by decide) (Yd.idxR hf_0 hy20 rfl Try.underlying36 SZ23 (.t rfl) (.t rfl)) ?_
        refine W.q rfl rfl rfl rfl (by decide) (Yd.ldF hf_0 (.refl _) hy20 rfl rfl ON23 (.t rfl)) ?_
        refine W.e rfl rfl rfl rfl (by decide) (Ef.bsT (enc := encU) (vs := [_]) (ys := [y19]) (fun _ => rfl) IF23 rfl Try.underlying36 (by decide) rfl (.cons (.t rfl) .nil) rfl rfl (by decide)) ?_
        rintro v21 _ rfl
        refine ⟨.inl rfl, ?_⟩
        refine W.cast (m' := m) (l' := hownT 23 1 encU v21 _ :: hownT 23 1 encU v7 _ :: l) rfl rfl ?_
        refine W.e rfl rfl rfl rfl (by decide) (Ef.apI (pos := 1) (enc := encU) (xs := l6) (ys := ([y19] : List (BitVec 32))) (fun _ => rfl) IF23 rfl rfl Try.underlying36 rfl (by decide) (.t rfl) (.t rfl) (Src.own (pos := 0) rfl) (fun _ => rfl) (by omega) (by omega)) ?_
        rintro v23 _ rfl
        refine ⟨.inl rfl, ?_⟩
        refine W.cast (m' := m) (l' := hownT 23 1 encU v21 _ :: hownT 23 1 encU v23 _ :: l) rfl rfl ?_
        refine W.q rfl rfl rfl rfl (by decide) (Yd.as rfl (.t rfl)) ?_
        refine W.end ?_
        refine NX.sub (env' := [(0, _), (3, _), (4, _)]) ⟨rfl, rfl, rfl, trivial⟩ ?_
        refine NX.drop (l' := hownT 23 1 encU v23 _ :: l) (.cons _ (.cons_cons _ (.refl _))) ?_
        refine NX.block ?_
        refine NX.then ?_
        refine Tr.region_f (fun _ => false) ?_
        refine W.q rfl rfl rfl rfl (by decide) (Yd.mv rfl (.t rfl)) ?_
        refine W.q rfl rfl rfl rfl (by decide) (Yd.add rfl (.t rfl) .c) ?_
        refine W.q rfl rfl rfl rfl (by decide) (Yd.as rfl (.t rfl)) ?_
        refine W.end ?_
        refine NX.sub (env' := [(0, _), (3, _), (4, _)]) ⟨rfl, rfl, rfl, trivial⟩ ?_
        refine NX.sub (env' := [(0, _), (3, _), (4, _)]) ⟨rfl, rfl, rfl, trivial⟩ ?_
        have hw := w64_id (n := s_13 + 1) (by omega) (by omega)
        exact NX.again n16 (s_13 + 1, (l6 ++ ([y19] : List (BitVec 32)))) (Nat.lt_succ_self _) ⟨_, (by rw [hw] <;> rfl), rfl, (fr_dec hns_13), (by omega), ((hnx15 _).symm.trans hr)⟩
      · have hr := cond_f hb hr
        refine Tr.skip' ?_
        refine NX.block ?_
        refine NX.then ?_
        refine Tr.region_f (fun _ => false) ?_
        refine W.q rfl rfl rfl rfl (by decide) (Yd.mv rfl (.t rfl)) ?_
        refine W.q rfl rfl rfl rfl (by decide) (Yd.add rfl (.t rfl) .c) ?_
        refine W.q rfl rfl rfl rfl (by decide) (Yd.as rfl (.t rfl)) ?_
        refine W.end ?_
        refine NX.sub (env' := [(0, _), (3, _), (4, _)]) ⟨rfl, rfl, rfl, trivial⟩ ?_
        refine NX.sub (env' := [(0, _), (3, _), (4, _)]) ⟨rfl, rfl, rfl, trivial⟩ ?_
        have hw := w64_id (n := s_13 + 1) (by omega) (by omega)
        exact NX.again n16 (s_13 + 1, l6) (Nat.lt_succ_self _) ⟨_, (by rw [hw] <;> rfl), rfl, (fr_dec hns_13), (by omega), ((hnx15 _).symm.trans hr)⟩

def syllogistlaw_FixLeasts_k18 (r1 : (BitVec 32) × Int) (is_17 : Bool) : Option (Bool) :=
  some (((r1.2 == (0 : Int)) && is_17))

def syllogistlaw_FixLeasts_b22 (r1 : (BitVec 32) × Int) (r9 : (List (BitVec 32))) (t_21 : Int) (is_15 : Bool) (nx23 : Bool → Option (Bool)) : Option (Bool) :=
  (geti r9 t_21).bind fun y25 =>
  (syllogistref_In r1.1 y25).bind fun r27 =>
  (bif (!r27) then
  some false
  else
  nx23 (is_15 || (y25 == r1.1)))

def syllogistlaw_FixLeasts_k7 (f_1 : List (BitVec 32)) (r1 : (BitVec 32) × Int) (x_6 : Int) : Option (Bool) :=
  (bif (x_6 != (0 : Int)) then
  some (((r1.2 == x_6) && (r1.1 == 0#32)))
  else
  (syllogistref_Fixed f_1).bind fun r9 =>
  forK (σ := Bool) (fun i s nx_ => syllogistlaw_FixLeasts_b22 r1 r9 i s nx_) (fun s => syllogistlaw_FixLeasts_k18 r1 s) ((r9.length : Int) - (0 : Int)).toNat (0 : Int) false)

def syllogistlaw_FixLeasts (fuel : Nat) (n_0 : Int) (f_1 : List (BitVec 32)) : Option (Bool) :=
  (fix_Least fuel n_0 f_1).bind fun r1 =>
  (syllogistref_MapCheck n_0 f_1).bind fun r3 =>
  bif (!((r3 == (0 : Int)) == true) || (syllogistref_Rises f_1).isSome) then
  (bif ((r3 == (0 : Int)) && (!(((syllogistref_Rises f_1).getD false)))) then
  syllogistlaw_FixLeasts_k7 f_1 r1 ((5 : Int))
  else
  syllogistlaw_FixLeasts_k7 f_1 r1 r3) else none

set_option maxRecDepth 100000 in
theorem syllogistlaw_FixLeasts_ok (w0 : World) (m : Snap) (l : List HI) (fuel : Nat) (n_0 : Int) (uf_1 : Value) (f_1 : List (BitVec 32)) (hf_1 : RS rU m uf_1 f_1) (r : Bool) (hr : syllogistlaw_FixLeasts fuel n_0 f_1 = some r) (w : World) (hc : cX w0 ⟨m, l⟩ w) :
    Calls Try.prog 10 [.int .i64 n_0, uf_1].toArray w fun e w' => e = .returned (.bool r) ∧ cX w0 ⟨m, l⟩ w' := by
  unfold syllogistlaw_FixLeasts at hr
  refine calls_of_Tr (N := 59) Try.func10 rfl hc rfl (Nat.le_of_ble_eq_true rfl) ?_
  refine Tr.seq ?_
  refine Tr.region_f (fun _ => false) ?_
  refine W.q rfl rfl rfl rfl (by decide) (Yd.as rfl .c) ?_
  refine W.end ?_
  refine NX.sub (env' := [(0, _), (1, _)]) ⟨rfl, rfl, trivial⟩ ?_
  refine NX.then ?_
  refine Tr.seq ?_
  obtain ⟨r1, hr2, hr⟩ := bind_some hr
  refine Tr.region_f (fun _ => false) ?_
  refine W.q rfl rfl rfl rfl (by decide) (Yd.mv rfl (.t rfl)) ?_
  refine W.q rfl rfl rfl rfl (by decide) (Yd.mv rfl (.t rfl)) ?_
  refine W.q rfl rfl rfl rfl (by decide) (Yd.call (v := .tuple #[.int .u32 (r1.1.toNat : Int), .int .i64 r1.2]) rfl Try.func30 rfl rfl (.cons (.t rfl) (.cons (.t rfl) .nil)) (fun x' hx w hw => fix_Least_ok w0 x'.m x'.l fuel n_0 _ _ (hf_1.mono hx.1) _ hr2 w hw)) ?_
  refine W.q rfl rfl rfl rfl (by decide) (Yd.mv rfl (.t rfl)) ?_
  refine W.q rfl rfl rfl rfl (by decide) (Yd.ext rfl (.t rfl) rfl) ?_
  refine W.q rfl rfl rfl rfl (by decide) (Yd.ext rfl (.t rfl) rfl) ?_
  refine W.q rfl rfl rfl rfl (by decide) (Yd.as rfl (.t rfl)) ?_
  refine W.q rfl rfl rfl rfl (by decide) (Yd.as rfl (.t rfl)) ?_
  refine W.end ?_
  refine NX.sub (env' := [(0, _), (1, _), (5, _), (6, _)]) ⟨rfl, rfl, rfl, rfl, trivial⟩ ?_
  refine NX.then ?_
  refine Tr.seq ?_
  obtain ⟨r3, hr4, hr⟩ := bind_some hr
  refine Tr.region_f (fun _ => false) ?_
  refine W.q rfl rfl rfl rfl (by decide) (Yd.mv rfl (.t rfl)) ?_
  refine W.q rfl rfl rfl rfl (by decide) (Yd.mv rfl (.t rfl)) ?_
  refine W.q rfl rfl rfl rfl (by decide) (Yd.call (v := .int .i64 r3) rfl Try.func26 rfl rfl (.cons (.t rfl) (.cons (.t rfl) .nil)) (fun x' hx w hw => syllogistref_MapCheck_ok w0 x'.m x'.l n_0 _ _ (hf_1.mono hx.1) _ hr4 w hw)) ?_
  refine W.q rfl rfl rfl rfl (by decide) (Yd.as rfl (.t rfl)) ?_
  refine W.end ?_
  refine NX.sub (env' := [(1, _), (5, _), (6, _), (7, _)]) ⟨rfl, rfl, rfl, rfl, trivial⟩ ?_
  refine NX.then ?_
  refine Tr.seq ?_
  refine Tr.seq ?_
  obtain ⟨ha5, hr⟩ := guard_some hr
  refine Tr.region_f (fun _ => false) ?_
  refine W.q rfl rfl rfl rfl (by decide) (Yd.mv rfl (.t rfl)) ?_
  refine W.q rfl rfl rfl rfl (by decide) (Yd.eql rfl (.t rfl) .c) ?_
  refine W.q rfl rfl rfl rfl (by decide) (Yd.mv rfl (.t rfl)) ?_
  refine W.g rfl rfl rfl rfl rfl (.t rfl _) rfl (by decide) (fun hG => Yd.mv rfl (.t rfl)) ?_
  refine W.g rfl rfl rfl rfl rfl (.t rfl _) rfl (by decide) (fun hG => Yd.call (v := .bool ((((syllogistref_Rises f_1).getD false)))) rfl Try.func29 rfl rfl (.cons (.g rfl hG) .nil) (fun x' hx w hw => syllogistref_Rises_ok w0 x'.m x'.l _ _ (hf_1.mono hx.1) _ (gd_get (d := false) ha5 hG) w hw)) ?_
  refine W.g rfl rfl rfl rfl rfl (.t rfl _) rfl (by decide) (fun hG => Yd.not rfl (.g rfl hG)) ?_
  refine W.q rfl rfl rfl rfl (by decide) (Yd.and rfl (.t rfl) .c rfl rfl) ?_
  refine W.end ?_
  refine NX.sub (env' := [(1, _), (5, _), (6, _), (7, _), (26, _)]) ⟨rfl, rfl, rfl, rfl, rfl, trivial⟩ ?_
  refine NX.then ?_
  refine Tr.join (S := fun env x => ∃ x_6 : Int, env = [(1, uf_1), (5, .int .u32 (r1.1.toNat : Int)), (6, .int .i64 r1.2), (7, .int .i64 x_6)] ∧ x = ⟨m, l⟩ ∧ syllogistlaw_FixLeasts_k7 f_1 r1 x_6 = some r) ?_ (fun hk8 => ?_)
  · rintro _ _ ⟨x_6, rfl, rfl, hr⟩
    unfold syllogistlaw_FixLeasts_k7 at hr
    try dsimp only at hr
    refine NX.then ?_
    refine Tr.seq ?_
    refine Tr.seq ?_
    refine Tr.region_f (fun _ => false) ?_
    refine W.q rfl rfl rfl rfl (by decide) (Yd.mv rfl (.t rfl)) ?_
    refine W.q rfl rfl rfl rfl (by decide) (Yd.neq rfl (.t rfl) .c) ?_
    refine W.end ?_
    refine NX.sub (env' := [(1, _), (5, _), (6, _), (7, _), (28, _)]) ⟨rfl, rfl, rfl, rfl, rfl, trivial⟩ ?_
    refine NX.then ?_
    refine Tr.cond (.t rfl) (fun hb => ?_) (fun hb => ?_)
    · have hr := cond_t hb hr
      refine Tr.seq ?_
      refine Tr.region_f (fun _ => false) ?_
      refine W.q rfl rfl rfl rfl (by decide) (Yd.mv rfl (.t rfl)) ?_
      refine W.q rfl rfl rfl rfl (by decide) (Yd.mv rfl (.t rfl)) ?_
      refine W.q rfl rfl rfl rfl (by decide) (Yd.eql rfl (.t rfl) (.t rfl)) ?_
      refine W.q rfl rfl rfl rfl (by decide) (Yd.mv rfl (.t rfl)) ?_
      refine W.g rfl rfl rfl rfl rfl (.t rfl _) rfl (by decide) (fun hG => Yd.mv rfl (.t rfl)) ?_
      refine W.g rfl rfl rfl rfl rfl (.t rfl _) rfl (by decide) (fun hG => Yd.eqlU (b := 0#32) rfl (.g rfl hG) .c) ?_
      refine W.q rfl rfl rfl rfl (by decide) (Yd.and rfl (.t rfl) .c rfl rfl) ?_
      refine W.q rfl rfl rfl rfl (by decide) (Yd.as rfl (.t rfl)) ?_
      refine W.end ?_
      refine NX.sub (env' := [(4, _)]) ⟨rfl, trivial⟩ ?_
      refine NX.then ?_
      refine Tr.ret' (RT.then ?_)
      refine res1 rfl rfl ?_
      intro w hc
      cases hr
      exact ⟨rfl, hc⟩
    · have hr := cond_f hb hr
      refine Tr.skip' ?_
      refine NX.then ?_
      refine Tr.seq ?_
      refine Tr.region_f (fun _ => false) ?_
      refine W.q rfl rfl rfl rfl (by decide) (Yd.as rfl .c) ?_
      refine W.end ?_
      refine NX.sub (env' := [(1, _), (5, _), (6, _), (8, _)]) ⟨rfl, rfl, rfl, rfl, trivial⟩ ?_
      refine NX.then ?_
      refine Tr.seq ?_
      refine Tr.seq ?_
      obtain ⟨r9, hr10, hr⟩ := bind_some hr
      refine Tr.region_f (fun i => Nat.beq i 1) ?_
      refine W.q rfl rfl rfl rfl (by decide) (Yd.mv rfl (.t rfl)) ?_
      refine W.e rfl rfl rfl rfl (by decide) (Ef.call (R := fun z x' => ∃ v11 : Value, z = v11 ∧ x' = ⟨m, hownT 23 1 encU v11 r9 :: l⟩) rfl Try.func27 rfl rfl (.cons (.t rfl) .nil) (fun w hw => (syllogistref_Fixed_ok w0 _ _ _ _ hf_1 _ hr10 w hw).mono fun e w' ⟨v11, he, hc'⟩ => ⟨_, _, he, ⟨v11, rfl, rfl⟩, hc'⟩)) ?_
      rintro v11 _ ⟨_, rfl, rfl⟩
      refine ⟨.inl rfl, ?_⟩
      refine W.cast (m' := m) (l' := hownT 23 1 encU v11 _ :: l) rfl rfl ?_
      refine W.q rfl rfl rfl rfl (by decide) (Yd.lenO (p := 0) rfl rfl Try.underlying36 (.t rfl)) ?_
      refine W.q rfl rfl rfl rfl (by decide) (Yd.mv rfl .c) ?_
      refine W.end ?_
      refine NX.sub (env' := [(5, _), (6, _), (8, _), (37, _), (38, _), (39, _)]) ⟨rfl, rfl, rfl, rfl, rfl, rfl, trivial⟩ ?_
      refine NX.then ?_
      refine Tr.join (S := fun env x => ∃ is_17 : Bool, env = [(6, .int .i64 r1.2), (8, .bool is_17)] ∧ x = ⟨m, l⟩ ∧ syllogistlaw_FixLeasts_k18 r1 is_17 = some r) ?_ (fun hk19 => ?_)
      · rintro _ _ ⟨is_17, rfl, rfl, hr⟩
        unfold syllogistlaw_FixLeasts_k18 at hr
        try dsimp only at hr
        refine NX.then ?_
        refine Tr.seq ?_
        refine Tr.region_f (fun _ => false) ?_
        refine W.q rfl rfl rfl rfl (by decide) (Yd.mv rfl (.t rfl)) ?_
        refine W.q rfl rfl rfl rfl (by decide) (Yd.eql rfl (.t rfl) .c) ?_
        refine W.q rfl rfl rfl rfl (by decide) (Yd.mv rfl (.t rfl)) ?_
        refine W.g rfl rfl rfl rfl rfl (.t rfl _) rfl (by decide) (fun hG => Yd.mv rfl (.t rfl)) ?_
        refine W.q rfl rfl rfl rfl (by decide) (Yd.and rfl (.t rfl) .c rfl rfl) ?_
        refine W.q rfl rfl rfl rfl (by decide) (Yd.as rfl (.t rfl)) ?_
        refine W.end ?_
        refine NX.sub (env' := [(4, _)]) ⟨rfl, trivial⟩ ?_
        refine NX.then ?_
        refine Tr.ret' ?_
        refine res1 rfl rfl ?_
        intro w hc
        cases hr
        exact ⟨rfl, hc⟩
      refine Tr.lenO (pos := 0) rfl (fun hlen20 => ?_)
      refine Tr.block ?_
      refine Tr.sub (env' := [(5, _), (6, _), (8, _), (37, _), (38, _), (39, _)]) ⟨rfl, rfl, rfl, rfl, rfl, rfl, trivial⟩ ?_
      refine Tr.loop (S := fun n (z : Int × Bool) env x => match z with | (t_21, is_15) => env = [(5, .int .u32 (r1.1.toNat : Int)), (6, .int .i64 r1.2), (8, .bool is_15), (37, v11), (38, .int .i64 ((r9.length : Int))), (39, .int .i64 t_21)] ∧ x = ⟨m, hownT 23 1 encU v11 r9 :: l⟩ ∧ n = ((r9.length : Int) - t_21).toNat ∧ 0 ≤ t_21 ∧ forK (σ := Bool) (fun i s nx_ => syllogistlaw_FixLeasts_b22 r1 r9 i s nx_) (fun s => syllogistlaw_FixLeasts_k18 r1 s) n t_21 is_15 = some r) _ ((0 : Int), false) ⟨rfl, rfl, rfl, (by omega), hr⟩ ?_
      rintro n24 ⟨t_21, is_15⟩ env x ⟨rfl, rfl, hnt_21, h0t_21, hr⟩
      cases n24 with
      | zero =>
        simp only [forK] at hr
        refine Tr.seq ?_
        refine Tr.region_f (fun _ => false) ?_
        refine W.q rfl rfl rfl rfl (by decide) (Yd.lss rfl (.t rfl) (.t rfl)) ?_
        refine W.end ?_
        refine NX.sub (env' := [(5, _), (6, _), (8, _), (37, _), (38, _), (39, _), (40, _)]) ⟨rfl, rfl, rfl, rfl, rfl, rfl, rfl, trivial⟩ ?_
        refine NX.then ?_
        refine Tr.seq ?_
        refine Tr.cond (.t rfl) (fun hb => ?_) (fun hb => ?_)
        · exact absurd (hb.symm.trans (fr_end hnt_21)) (by decide)
        ·
          refine Tr.exit' (EX.then (EX.then (EX.block ?_)))
          refine NX.sub (env' := [(6, _), (8, _)]) ⟨rfl, rfl, trivial⟩ ?_
          refine NX.drop (l' := l) (.cons _ (.refl _)) ?_
          exact hk19 _ _ ⟨_, rfl, rfl, hr⟩
      | succ n24 =>
        obtain ⟨nx23, hnx23, hr⟩ := forK_succ hr
        try dsimp only at hr
        unfold syllogistlaw_FixLeasts_b22 at hr
        try dsimp only at hr
        have hltt_21 := fr_bnd hnt_21
        refine Tr.seq ?_
        refine Tr.region_f (fun _ => false) ?_
        refine W.q rfl rfl rfl rfl (by decide) (Yd.lss rfl (.t rfl) (.t rfl)) ?_
        refine W.end ?_
        refine NX.sub (env' := [(5, _), (6, _), (8, _), (37, _), (38, _), (39, _), (40, _)]) ⟨rfl, rfl, rfl, rfl, rfl, rfl, rfl, trivial⟩ ?_
        refine NX.then ?_
        refine Tr.seq ?_
        refine Tr.cond (.t rfl) (fun hb => ?_) (fun hb => ?_)
        rotate_left
        · exact absurd (hb.symm.trans (fr_go hnt_21)) (by decide)
        ·
          refine Tr.skip' ?_
          refine NX.then ?_
          refine Tr.seq ?_
          refine Tr.block ?_
          refine Tr.seq ?_
          obtain ⟨y25, hy26, hr⟩ := bind_some hr
          refine Tr.region_f (fun _ => false) ?_
          refine W.q rfl rfl rfl rfl (by decide) (Yd.idxT (pos := 0) rfl hy26 rfl Try.underlying36 SZ23 (.t rfl) (.t rfl)) ?_
          refine W.q rfl rfl rfl rfl (by decide) (Yd.ldT (enc := encU) (n := 1) (pos := 0) (fun _ => rfl) rfl hy26 rfl rfl ON23 (.t rfl)) ?_
          refine W.q rfl rfl rfl rfl (by decide) (Yd.as rfl (.t rfl)) ?_
          refine W.end ?_
          refine NX.sub (env' := [(5, _), (6, _), (8, _), (37, _), (38, _), (39, _), (10, _)]) ⟨rfl, rfl, rfl, rfl, rfl, rfl, rfl, trivial⟩ ?_
          refine NX.then ?_
          refine Tr.seq ?_
          refine Tr.seq ?_
          obtain ⟨r27, hr28, hr⟩ := bind_some hr
          refine Tr.region_f (fun _ => false) ?_
          refine W.q rfl rfl rfl rfl (by decide) (Yd.mv rfl (.t rfl)) ?_
          refine W.q rfl rfl rfl rfl (by decide) (Yd.mv rfl (.t rfl)) ?_
          refine W.q rfl rfl rfl rfl (by decide) (Yd.call (v := .bool r27) rfl Try.func16 rfl rfl (.cons (.t rfl) (.cons (.t rfl) .nil)) (fun x' hx w hw => syllogistref_In_ok w0 x'.m x'.l r1.1 y25 _ hr28 w hw)) ?_
          refine W.q rfl rfl rfl rfl (by decide) (Yd.not rfl (.t rfl)) ?_
          refine W.end ?_
          refine NX.sub (env' := [(5, _), (6, _), (8, _), (37, _), (38, _), (39, _), (10, _), (46, _)]) ⟨rfl, rfl, rfl, rfl, rfl, rfl, rfl, rfl, trivial⟩ ?_
          refine NX.then ?_
          refine Tr.cond (.t rfl) (fun hb => ?_) (fun hb => ?_)
          · have hr := cond_t hb hr
            refine Tr.seq ?_
            refine Tr.region_f (fun _ => false) ?_
            refine W.q rfl rfl rfl rfl (by decide) (Yd.as rfl .c) ?_
            refine W.end ?_
            refine NX.sub (env' := [(4, _)]) ⟨rfl, trivial⟩ ?_
            refine NX.drop (l' := l) (.cons _ (.refl _)) ?_
            refine NX.then ?_
            refine Tr.ret' (RT.then (RT.block (RT.then (RT.then (RT.block (RT.then ?_))))))
            refine res1 rfl rfl ?_
            intro w hc
            cases hr
            exact ⟨rfl, hc⟩
          · have hr := cond_f hb hr
            refine Tr.skip' ?_
            refine NX.then ?_
            refine Tr.region_f (fun _ => false) ?_
            refine W.q rfl rfl rfl rfl (by decide) (Yd.mv rfl (.t rfl)) ?_
            refine W.q rfl rfl rfl rfl (by decide) (Yd.mv rfl (.t rfl)) ?_
            refine W.g rfl rfl rfl rfl rfl (.t rfl _) rfl (by decide) (fun hG => Yd.mv rfl (.t rfl)) ?_
            refine W.g rfl rfl rfl rfl rfl (.t rfl _) rfl (by decide) (fun hG => Yd.mv rfl (.t rfl)) ?_
            refine W.g rfl rfl rfl rfl rfl (.t rfl _) rfl (by decide) (fun hG => Yd.eqlU rfl (.g rfl hG) (.g rfl hG)) ?_
            refine W.q rfl rfl rfl rfl (by decide) (Yd.or rfl (.t rfl) .c rfl rfl) ?_
            refine W.q rfl rfl rfl rfl (by decide) (Yd.as rfl (.t rfl)) ?_
            refine W.end ?_
            refine NX.sub (env' := [(5, _), (6, _), (8, _), (37, _), (38, _), (39, _)]) ⟨rfl, rfl, rfl, rfl, rfl, rfl, trivial⟩ ?_
            refine NX.block ?_
            refine NX.then ?_
            refine Tr.region_f (fun _ => false) ?_
            refine W.q rfl rfl rfl rfl (by decide) (Yd.add rfl (.t rfl) .c) ?_
            refine W.q rfl rfl rfl rfl (by decide) (Yd.mv rfl (.t rfl)) ?_
            refine W.end ?_
            refine NX.sub (env' := [(5, _), (6, _), (8, _), (37, _), (38, _), (39, _)]) ⟨rfl, rfl, rfl, rfl, rfl, rfl, trivial⟩ ?_
            refine NX.sub (env' := [(5, _), (6, _), (8, _), (37, _), (38, _), (39, _)]) ⟨rfl, rfl, rfl, rfl, rfl, rfl, trivial⟩ ?_
            have hw := w64_id (n := t_21 + 1) (by omega) (by omega)
            exact NX.again n24 (t_21 + 1, (is_15 || (y25 == r1.1))) (Nat.lt_succ_self _) ⟨(by rw [hw] <;> rfl), rfl, (fr_dec hnt_21), (by omega), ((hnx23 _).symm.trans hr)⟩
  refine Tr.cond (.t rfl) (fun hb => ?_) (fun hb => ?_)
  · have hr := cond_t hb hr
    refine Tr.region_f (fun _ => false) ?_
    refine W.q rfl rfl rfl rfl (by decide) (Yd.as rfl .c) ?_
    refine W.end ?_
    refine NX.sub (env' := [(1, _), (5, _), (6, _), (7, _)]) ⟨rfl, rfl, rfl, rfl, trivial⟩ ?_
    refine NX.sub (env' := [(1, _), (5, _), (6, _), (7, _)]) ⟨rfl, rfl, rfl, rfl, trivial⟩ ?_
    exact hk8 _ _ ⟨_, rfl, rfl, hr⟩
  · have hr := cond_f hb hr
    refine Tr.skip' ?_
    refine NX.sub (env' := [(1, _), (5, _), (6, _), (7, _)]) ⟨rfl, rfl, rfl, rfl, trivial⟩ ?_
    exact hk8 _ _ ⟨_, rfl, rfl, hr⟩

def fix_Most (fuel : Nat) (n_0 : Int) (f_1 : List (BitVec 32)) : Option ((BitVec 32) × Int) :=
  (fix_from fuel n_0 f_1 ((BitVec.ofInt 32 ((w64 ((if (1 : Int) > (f_1.length : Int) then (1 : Int) else (f_1.length : Int)) - (1 : Int))))))).bind fun r1 =>
  some ((r1.1, r1.2))

set_option maxRecDepth 100000 in
theorem fix_Most_ok (w0 : World) (m : Snap) (l : List HI) (fuel : Nat) (n_0 : Int) (uf_1 : Value) (f_1 : List (BitVec 32)) (hf_1 : RS rU m uf_1 f_1) (r : (BitVec 32) × Int) (hr : fix_Most fuel n_0 f_1 = some r) (w : World) (hc : cX w0 ⟨m, l⟩ w) :
    Calls Try.prog 31 [.int .i64 n_0, uf_1].toArray w fun e w' => e = .returned (.tuple #[.int .u32 (r.1.toNat : Int), .int .i64 r.2]) ∧ cX w0 ⟨m, l⟩ w' := by
  unfold fix_Most at hr
  refine calls_of_Tr (N := 16) Try.func31 rfl hc rfl (Nat.le_of_ble_eq_true rfl) ?_
  refine Tr.seq ?_
  refine Tr.region_f (fun _ => false) ?_
  refine W.q rfl rfl rfl rfl (by decide) (Yd.as rfl .c) ?_
  refine W.q rfl rfl rfl rfl (by decide) (Yd.as rfl .c) ?_
  refine W.end ?_
  refine NX.sub (env' := [(0, _), (1, _)]) ⟨rfl, rfl, trivial⟩ ?_
  refine NX.then ?_
  refine Tr.seq ?_
  obtain ⟨r1, hr2, hr⟩ := bind_some hr
  refine Tr.region_f (fun _ => false) ?_
  refine W.q rfl rfl rfl rfl (by decide) (Yd.mv rfl (.t rfl)) ?_
  refine W.q rfl rfl rfl rfl (by decide) (Yd.mv rfl (.t rfl)) ?_
  refine W.q rfl rfl rfl rfl (by decide) (Yd.mv rfl (.t rfl)) ?_
  refine W.q rfl rfl rfl rfl (by decide) (Yd.lenR hf_1 rfl Try.underlying36 (.t rfl)) ?_
  refine W.q rfl rfl rfl rfl (by decide) (Yd.max2 rfl (.t rfl) .c) ?_
  refine W.q rfl rfl rfl rfl (by decide) (Yd.sub rfl (.t rfl) .c) ?_
  refine W.q rfl rfl rfl rfl (by decide) (Yd.cvU rfl US3 Try.underlying23 (.t rfl)) ?_
  refine W.q rfl rfl rfl rfl (by decide) (Yd.call (v := .tuple #[.int .u32 (r1.1.toNat : Int), .int .i64 r1.2]) rfl Try.func40 rfl rfl (.cons (.t rfl) (.cons (.t rfl) (.cons (.t rfl) .nil))) (fun x' hx w hw => fix_from_ok w0 x'.m x'.l fuel n_0 _ _ (hf_1.mono hx.1) ((BitVec.ofInt 32 ((w64 ((if (1 : Int) > (f_1.length : Int) then (1 : Int) else (f_1.length : Int)) - (1 : Int)))))) _ hr2 w hw)) ?_
  refine W.q rfl rfl rfl rfl (by decide) (Yd.ext rfl (.t rfl) rfl) ?_
  refine W.q rfl rfl rfl rfl (by decide) (Yd.ext rfl (.t rfl) rfl) ?_
  refine W.q rfl rfl rfl rfl (by decide) (Yd.as rfl (.t rfl)) ?_
  refine W.q rfl rfl rfl rfl (by decide) (Yd.as rfl (.t rfl)) ?_
  refine W.end ?_
  refine NX.sub (env' := [(4, _), (5, _)]) ⟨rfl, rfl, trivial⟩ ?_
  refine NX.then ?_
  refine Tr.ret' ?_
  refine res2 rfl rfl rfl ?_
  intro w hc
  cases hr
  exact ⟨rfl, hc⟩

def syllogistlaw_FixMosts_k18 (r1 : (BitVec 32) × Int) (is_17 : Bool) : Option (Bool) :=
  some (((r1.2 == (0 : Int)) && is_17))

def syllogistlaw_FixMosts_b22 (r1 : (BitVec 32) × Int) (r9 : (List (BitVec 32))) (t_21 : Int) (is_15 : Bool) (nx23 : Bool → Option (Bool)) : Option (Bool) :=
  (geti r9 t_21).bind fun y25 =>
  (syllogistref_In y25 r1.1).bind fun r27 =>
  (bif (!r27) then
  some false
  else
  nx23 (is_15 || (y25 == r1.1)))

def syllogistlaw_FixMosts_k7 (f_1 : List (BitVec 32)) (r1 : (BitVec 32) × Int) (x_6 : Int) : Option (Bool) :=
  (bif (x_6 != (0 : Int)) then
  some (((r1.2 == x_6) && (r1.1 == 0#32)))
  else
  (syllogistref_Fixed f_1).bind fun r9 =>
  forK (σ := Bool) (fun i s nx_ => syllogistlaw_FixMosts_b22 r1 r9 i s nx_) (fun s => syllogistlaw_FixMosts_k18 r1 s) ((r9.length : Int) - (0 : Int)).toNat (0 : Int) false)

def syllogistlaw_FixMosts (fuel : Nat) (n_0 : Int) (f_1 : List (BitVec 32)) : Option (Bool) :=
  (fix_Most fuel n_0 f_1).bind fun r1 =>
  (syllogistref_MapCheck n_0 f_1).bind fun r3 =>
  bif (!((r3 == (0 : Int)) == true) || (syllogistref_Rises f_1).isSome) then
  (bif ((r3 == (0 : Int)) && (!(((syllogistref_Rises f_1).getD false)))) then
  syllogistlaw_FixMosts_k7 f_1 r1 ((5 : Int))
  else
  syllogistlaw_FixMosts_k7 f_1 r1 r3) else none

set_option maxRecDepth 100000 in
theorem syllogistlaw_FixMosts_ok (w0 : World) (m : Snap) (l : List HI) (fuel : Nat) (n_0 : Int) (uf_1 : Value) (f_1 : List (BitVec 32)) (hf_1 : RS rU m uf_1 f_1) (r : Bool) (hr : syllogistlaw_FixMosts fuel n_0 f_1 = some r) (w : World) (hc : cX w0 ⟨m, l⟩ w) :
    Calls Try.prog 11 [.int .i64 n_0, uf_1].toArray w fun e w' => e = .returned (.bool r) ∧ cX w0 ⟨m, l⟩ w' := by
  unfold syllogistlaw_FixMosts at hr
  refine calls_of_Tr (N := 59) Try.func11 rfl hc rfl (Nat.le_of_ble_eq_true rfl) ?_
  refine Tr.seq ?_
  refine Tr.region_f (fun _ => false) ?_
  refine W.q rfl rfl rfl rfl (by decide) (Yd.as rfl .c) ?_
  refine W.end ?_
  refine NX.sub (env' := [(0, _), (1, _)]) ⟨rfl, rfl, trivial⟩ ?_
  refine NX.then ?_
  refine Tr.seq ?_
  obtain ⟨r1, hr2, hr⟩ := bind_some hr
  refine Tr.region_f (fun _ => false) ?_
  refine W.q rfl rfl rfl rfl (by decide) (Yd.mv rfl (.t rfl)) ?_
  refine W.q rfl rfl rfl rfl (by decide) (Yd.mv rfl (.t rfl)) ?_
  refine W.q rfl rfl rfl rfl (by decide) (Yd.call (v := .tuple #[.int .u32 (r1.1.toNat : Int), .int .i64 r1.2]) rfl Try.func31 rfl rfl (.cons (.t rfl) (.cons (.t rfl) .nil)) (fun x' hx w hw => fix_Most_ok w0 x'.m x'.l fuel n_0 _ _ (hf_1.mono hx.1) _ hr2 w hw)) ?_
  refine W.q rfl rfl rfl rfl (by decide) (Yd.mv rfl (.t rfl)) ?_
  refine W.q rfl rfl rfl rfl (by decide) (Yd.ext rfl (.t rfl) rfl) ?_
  refine W.q rfl rfl rfl rfl (by decide) (Yd.ext rfl (.t rfl) rfl) ?_
  refine W.q rfl rfl rfl rfl (by decide) (Yd.as rfl (.t rfl)) ?_
  refine W.q rfl rfl rfl rfl (by decide) (Yd.as rfl (.t rfl)) ?_
  refine W.end ?_
  refine NX.sub (env' := [(0, _), (1, _), (5, _), (6, _)]) ⟨rfl, rfl, rfl, rfl, trivial⟩ ?_
  refine NX.then ?_
  refine Tr.seq ?_
  obtain ⟨r3, hr4, hr⟩ := bind_some hr
  refine Tr.region_f (fun _ => false) ?_
  refine W.q rfl rfl rfl rfl (by decide) (Yd.mv rfl (.t rfl)) ?_
  refine W.q rfl rfl rfl rfl (by decide) (Yd.mv rfl (.t rfl)) ?_
  refine W.q rfl rfl rfl rfl (by decide) (Yd.call (v := .int .i64 r3) rfl Try.func26 rfl rfl (.cons (.t rfl) (.cons (.t rfl) .nil)) (fun x' hx w hw => syllogistref_MapCheck_ok w0 x'.m x'.l n_0 _ _ (hf_1.mono hx.1) _ hr4 w hw)) ?_
  refine W.q rfl rfl rfl rfl (by decide) (Yd.as rfl (.t rfl)) ?_
  refine W.end ?_
  refine NX.sub (env' := [(1, _), (5, _), (6, _), (7, _)]) ⟨rfl, rfl, rfl, rfl, trivial⟩ ?_
  refine NX.then ?_
  refine Tr.seq ?_
  refine Tr.seq ?_
  obtain ⟨ha5, hr⟩ := guard_some hr
  refine Tr.region_f (fun _ => false) ?_
  refine W.q rfl rfl rfl rfl (by decide) (Yd.mv rfl (.t rfl)) ?_
  refine W.q rfl rfl rfl rfl (by decide) (Yd.eql rfl (.t rfl) .c) ?_
  refine W.q rfl rfl rfl rfl (by decide) (Yd.mv rfl (.t rfl)) ?_
  refine W.g rfl rfl rfl rfl rfl (.t rfl _) rfl (by decide) (fun hG => Yd.mv rfl (.t rfl)) ?_
  refine W.g rfl rfl rfl rfl rfl (.t rfl _) rfl (by decide) (fun hG => Yd.call (v := .bool ((((syllogistref_Rises f_1).getD false)))) rfl Try.func29 rfl rfl (.cons (.g rfl hG) .nil) (fun x' hx w hw => syllogistref_Rises_ok w0 x'.m x'.l _ _ (hf_1.mono hx.1) _ (gd_get (d := false) ha5 hG) w hw)) ?_
  refine W.g rfl rfl rfl rfl rfl (.t rfl _) rfl (by decide) (fun hG => Yd.not rfl (.g rfl hG)) ?_
  refine W.q rfl rfl rfl rfl (by decide) (Yd.and rfl (.t rfl) .c rfl rfl) ?_
  refine W.end ?_
  refine NX.sub (env' := [(1, _), (5, _), (6, _), (7, _), (26, _)]) ⟨rfl, rfl, rfl, rfl, rfl, trivial⟩ ?_
  refine NX.then ?_
  refine Tr.join (S := fun env x => ∃ x_6 : Int, env = [(1, uf_1), (5, .int .u32 (r1.1.toNat : Int)), (6, .int .i64 r1.2), (7, .int .i64 x_6)] ∧ x = ⟨m, l⟩ ∧ syllogistlaw_FixMosts_k7 f_1 r1 x_6 = some r) ?_ (fun hk8 => ?_)
  · rintro _ _ ⟨x_6, rfl, rfl, hr⟩
    unfold syllogistlaw_FixMosts_k7 at hr
    try dsimp only at hr
    refine NX.then ?_
    refine Tr.seq ?_
    refine Tr.seq ?_
    refine Tr.region_f (fun _ => false) ?_
    refine W.q rfl rfl rfl rfl (by decide) (Yd.mv rfl (.t rfl)) ?_
    refine W.q rfl rfl rfl rfl (by decide) (Yd.neq rfl (.t rfl) .c) ?_
    refine W.end ?_
    refine NX.sub (env' := [(1, _), (5, _), (6, _), (7, _), (28, _)]) ⟨rfl, rfl, rfl, rfl, rfl, trivial⟩ ?_
    refine NX.then ?_
    refine Tr.cond (.t rfl) (fun hb => ?_) (fun hb => ?_)
    · have hr := cond_t hb hr
      refine Tr.seq ?_
      refine Tr.region_f (fun _ => false) ?_
      refine W.q rfl rfl rfl rfl (by decide) (Yd.mv rfl (.t rfl)) ?_
      refine W.q rfl rfl rfl rfl (by decide) (Yd.mv rfl (.t rfl)) ?_
      refine W.q rfl rfl rfl rfl (by decide) (Yd.eql rfl (.t rfl) (.t rfl)) ?_
      refine W.q rfl rfl rfl rfl (by decide) (Yd.mv rfl (.t rfl)) ?_
      refine W.g rfl rfl rfl rfl rfl (.t rfl _) rfl (by decide) (fun hG => Yd.mv rfl (.t rfl)) ?_
      refine W.g rfl rfl rfl rfl rfl (.t rfl _) rfl (by decide) (fun hG => Yd.eqlU (b := 0#32) rfl (.g rfl hG) .c) ?_
      refine W.q rfl rfl rfl rfl (by decide) (Yd.and rfl (.t rfl) .c rfl rfl) ?_
      refine W.q rfl rfl rfl rfl (by decide) (Yd.as rfl (.t rfl)) ?_
      refine W.end ?_
      refine NX.sub (env' := [(4, _)]) ⟨rfl, trivial⟩ ?_
      refine NX.then ?_
      refine Tr.ret' (RT.then ?_)
      refine res1 rfl rfl ?_
      intro w hc
      cases hr
      exact ⟨rfl, hc⟩
    · have hr := cond_f hb hr
      refine Tr.skip' ?_
      refine NX.then ?_
      refine Tr.seq ?_
      refine Tr.region_f (fun _ => false) ?_
      refine W.q rfl rfl rfl rfl (by decide) (Yd.as rfl .c) ?_
      refine W.end ?_
      refine NX.sub (env' := [(1, _), (5, _), (6, _), (8, _)]) ⟨rfl, rfl, rfl, rfl, trivial⟩ ?_
      refine NX.then ?_
      refine Tr.seq ?_
      refine Tr.seq ?_
      obtain ⟨r9, hr10, hr⟩ := bind_some hr
      refine Tr.region_f (fun i => Nat.beq i 1) ?_
      refine W.q rfl rfl rfl rfl (by decide) (Yd.mv rfl (.t rfl)) ?_
      refine W.e rfl rfl rfl rfl (by decide) (Ef.call (R := fun z x' => ∃ v11 : Value, z = v11 ∧ x' = ⟨m, hownT 23 1 encU v11 r9 :: l⟩) rfl Try.func27 rfl rfl (.cons (.t rfl) .nil) (fun w hw => (syllogistref_Fixed_ok w0 _ _ _ _ hf_1 _ hr10 w hw).mono fun e w' ⟨v11, he, hc'⟩ => ⟨_, _, he, ⟨v11, rfl, rfl⟩, hc'⟩)) ?_
      rintro v11 _ ⟨_, rfl, rfl⟩
      refine ⟨.inl rfl, ?_⟩
      refine W.cast (m' := m) (l' := hownT 23 1 encU v11 _ :: l) rfl rfl ?_
      refine W.q rfl rfl rfl rfl (by decide) (Yd.lenO (p := 0) rfl rfl Try.underlying36 (.t rfl)) ?_
      refine W.q rfl rfl rfl rfl (by decide) (Yd.mv rfl .c) ?_
      refine W.end ?_
      refine NX.sub (env' := [(5, _), (6, _), (8, _), (37, _), (38, _), (39, _)]) ⟨rfl, rfl, rfl, rfl, rfl, rfl, trivial⟩ ?_
      refine NX.then ?_
      refine Tr.join (S := fun env x => ∃ is_17 : Bool, env = [(6, .int .i64 r1.2), (8, .bool is_17)] ∧ x = ⟨m, l⟩ ∧ syllogistlaw_FixMosts_k18 r1 is_17 = some r) ?_ (fun hk19 => ?_)
      · rintro _ _ ⟨is_17, rfl, rfl, hr⟩
        unfold syllogistlaw_FixMosts_k18 at hr
        try dsimp only at hr
        refine NX.then ?_
        refine Tr.seq ?_
        refine Tr.region_f (fun _ => false) ?_
        refine W.q rfl rfl rfl rfl (by decide) (Yd.mv rfl (.t rfl)) ?_
        refine W.q rfl rfl rfl rfl (by decide) (Yd.eql rfl (.t rfl) .c) ?_
        refine W.q rfl rfl rfl rfl (by decide) (Yd.mv rfl (.t rfl)) ?_
        refine W.g rfl rfl rfl rfl rfl (.t rfl _) rfl (by decide) (fun hG => Yd.mv rfl (.t rfl)) ?_
        refine W.q rfl rfl rfl rfl (by decide) (Yd.and rfl (.t rfl) .c rfl rfl) ?_
        refine W.q rfl rfl rfl rfl (by decide) (Yd.as rfl (.t rfl)) ?_
        refine W.end ?_
        refine NX.sub (env' := [(4, _)]) ⟨rfl, trivial⟩ ?_
        refine NX.then ?_
        refine Tr.ret' ?_
        refine res1 rfl rfl ?_
        intro w hc
        cases hr
        exact ⟨rfl, hc⟩
      refine Tr.lenO (pos := 0) rfl (fun hlen20 => ?_)
      refine Tr.block ?_
      refine Tr.sub (env' := [(5, _), (6, _), (8, _), (37, _), (38, _), (39, _)]) ⟨rfl, rfl, rfl, rfl, rfl, rfl, trivial⟩ ?_
      refine Tr.loop (S := fun n (z : Int × Bool) env x => match z with | (t_21, is_15) => env = [(5, .int .u32 (r1.1.toNat : Int)), (6, .int .i64 r1.2), (8, .bool is_15), (37, v11), (38, .int .i64 ((r9.length : Int))), (39, .int .i64 t_21)] ∧ x = ⟨m, hownT 23 1 encU v11 r9 :: l⟩ ∧ n = ((r9.length : Int) - t_21).toNat ∧ 0 ≤ t_21 ∧ forK (σ := Bool) (fun i s nx_ => syllogistlaw_FixMosts_b22 r1 r9 i s nx_) (fun s => syllogistlaw_FixMosts_k18 r1 s) n t_21 is_15 = some r) _ ((0 : Int), false) ⟨rfl, rfl, rfl, (by omega), hr⟩ ?_
      rintro n24 ⟨t_21, is_15⟩ env x ⟨rfl, rfl, hnt_21, h0t_21, hr⟩
      cases n24 with
      | zero =>
        simp only [forK] at hr
        refine Tr.seq ?_
        refine Tr.region_f (fun _ => false) ?_
        refine W.q rfl rfl rfl rfl (by decide) (Yd.lss rfl (.t rfl) (.t rfl)) ?_
        refine W.end ?_
        refine NX.sub (env' := [(5, _), (6, _), (8, _), (37, _), (38, _), (39, _), (40, _)]) ⟨rfl, rfl, rfl, rfl, rfl, rfl, rfl, trivial⟩ ?_
        refine NX.then ?_
        refine Tr.seq ?_
        refine Tr.cond (.t rfl) (fun hb => ?_) (fun hb => ?_)
        · exact absurd (hb.symm.trans (fr_end hnt_21)) (by decide)
        ·
          refine Tr.exit' (EX.then (EX.then (EX.block ?_)))
          refine NX.sub (env' := [(6, _), (8, _)]) ⟨rfl, rfl, trivial⟩ ?_
          refine NX.drop (l' := l) (.cons _ (.refl _)) ?_
          exact hk19 _ _ ⟨_, rfl, rfl, hr⟩
      | succ n24 =>
        obtain ⟨nx23, hnx23, hr⟩ := forK_succ hr
        try dsimp only at hr
        unfold syllogistlaw_FixMosts_b22 at hr
        try dsimp only at hr
        have hltt_21 := fr_bnd hnt_21
        refine Tr.seq ?_
        refine Tr.region_f (fun _ => false) ?_
        refine W.q rfl rfl rfl rfl (by decide) (Yd.lss rfl (.t rfl) (.t rfl)) ?_
        refine W.end ?_
        refine NX.sub (env' := [(5, _), (6, _), (8, _), (37, _), (38, _), (39, _), (40, _)]) ⟨rfl, rfl, rfl, rfl, rfl, rfl, rfl, trivial⟩ ?_
        refine NX.then ?_
        refine Tr.seq ?_
        refine Tr.cond (.t rfl) (fun hb => ?_) (fun hb => ?_)
        rotate_left
        · exact absurd (hb.symm.trans (fr_go hnt_21)) (by decide)
        ·
          refine Tr.skip' ?_
          refine NX.then ?_
          refine Tr.seq ?_
          refine Tr.block ?_
          refine Tr.seq ?_
          obtain ⟨y25, hy26, hr⟩ := bind_some hr
          refine Tr.region_f (fun _ => false) ?_
          refine W.q rfl rfl rfl rfl (by decide) (Yd.idxT (pos := 0) rfl hy26 rfl Try.underlying36 SZ23 (.t rfl) (.t rfl)) ?_
          refine W.q rfl rfl rfl rfl (by decide) (Yd.ldT (enc := encU) (n := 1) (pos := 0) (fun _ => rfl) rfl hy26 rfl rfl ON23 (.t rfl)) ?_
          refine W.q rfl rfl rfl rfl (by decide) (Yd.as rfl (.t rfl)) ?_
          refine W.end ?_
          refine NX.sub (env' := [(5, _), (6, _), (8, _), (37, _), (38, _), (39, _), (10, _)]) ⟨rfl, rfl, rfl, rfl, rfl, rfl, rfl, trivial⟩ ?_
          refine NX.then ?_
          refine Tr.seq ?_
          refine Tr.seq ?_
          obtain ⟨r27, hr28, hr⟩ := bind_some hr
          refine Tr.region_f (fun _ => false) ?_
          refine W.q rfl rfl rfl rfl (by decide) (Yd.mv rfl (.t rfl)) ?_
          refine W.q rfl rfl rfl rfl (by decide) (Yd.mv rfl (.t rfl)) ?_
          refine W.q rfl rfl rfl rfl (by decide) (Yd.call (v := .bool r27) rfl Try.func16 rfl rfl (.cons (.t rfl) (.cons (.t rfl) .nil)) (fun x' hx w hw => syllogistref_In_ok w0 x'.m x'.l y25 r1.1 _ hr28 w hw)) ?_
          refine W.q rfl rfl rfl rfl (by decide) (Yd.not rfl (.t rfl)) ?_
          refine W.end ?_
          refine NX.sub (env' := [(5, _), (6, _), (8, _), (37, _), (38, _), (39, _), (10, _), (46, _)]) ⟨rfl, rfl, rfl, rfl, rfl, rfl, rfl, rfl, trivial⟩ ?_
          refine NX.then ?_
          refine Tr.cond (.t rfl) (fun hb => ?_) (fun hb => ?_)
          · have hr := cond_t hb hr
            refine Tr.seq ?_
            refine Tr.region_f (fun _ => false) ?_
            refine W.q rfl rfl rfl rfl (by decide) (Yd.as rfl .c) ?_
            refine W.end ?_
            refine NX.sub (env' := [(4, _)]) ⟨rfl, trivial⟩ ?_
            refine NX.drop (l' := l) (.cons _ (.refl _)) ?_
            refine NX.then ?_
            refine Tr.ret' (RT.then (RT.block (RT.then (RT.then (RT.block (RT.then ?_))))))
            refine res1 rfl rfl ?_
            intro w hc
            cases hr
            exact ⟨rfl, hc⟩
          · have hr := cond_f hb hr
            refine Tr.skip' ?_
            refine NX.then ?_
            refine Tr.region_f (fun _ => false) ?_
            refine W.q rfl rfl rfl rfl (by decide) (Yd.mv rfl (.t rfl)) ?_
            refine W.q rfl rfl rfl rfl (by decide) (Yd.mv rfl (.t rfl)) ?_
            refine W.g rfl rfl rfl rfl rfl (.t rfl _) rfl (by decide) (fun hG => Yd.mv rfl (.t rfl)) ?_
            refine W.g rfl rfl rfl rfl rfl (.t rfl _) rfl (by decide) (fun hG => Yd.mv rfl (.t rfl)) ?_
            refine W.g rfl rfl rfl rfl rfl (.t rfl _) rfl (by decide) (fun hG => Yd.eqlU rfl (.g rfl hG) (.g rfl hG)) ?_
            refine W.q rfl rfl rfl rfl (by decide) (Yd.or rfl (.t rfl) .c rfl rfl) ?_
            refine W.q rfl rfl rfl rfl (by decide) (Yd.as rfl (.t rfl)) ?_
            refine W.end ?_
            refine NX.sub (env' := [(5, _), (6, _), (8, _), (37, _), (38, _), (39, _)]) ⟨rfl, rfl, rfl, rfl, rfl, rfl, trivial⟩ ?_
            refine NX.block ?_
            refine NX.then ?_
            refine Tr.region_f (fun _ => false) ?_
            refine W.q rfl rfl rfl rfl (by decide) (Yd.add rfl (.t rfl) .c) ?_
            refine W.q rfl rfl rfl rfl (by decide) (Yd.mv rfl (.t rfl)) ?_
            refine W.end ?_
            refine NX.sub (env' := [(5, _), (6, _), (8, _), (37, _), (38, _), (39, _)]) ⟨rfl, rfl, rfl, rfl, rfl, rfl, trivial⟩ ?_
            refine NX.sub (env' := [(5, _), (6, _), (8, _), (37, _), (38, _), (39, _)]) ⟨rfl, rfl, rfl, rfl, rfl, rfl, trivial⟩ ?_
            have hw := w64_id (n := t_21 + 1) (by omega) (by omega)
            exact NX.again n24 (t_21 + 1, (is_15 || (y25 == r1.1))) (Nat.lt_succ_self _) ⟨(by rw [hw] <;> rfl), rfl, (fr_dec hnt_21), (by omega), ((hnx23 _).symm.trans hr)⟩
  refine Tr.cond (.t rfl) (fun hb => ?_) (fun hb => ?_)
  · have hr := cond_t hb hr
    refine Tr.region_f (fun _ => false) ?_
    refine W.q rfl rfl rfl rfl (by decide) (Yd.as rfl .c) ?_
    refine W.end ?_
    refine NX.sub (env' := [(1, _), (5, _), (6, _), (7, _)]) ⟨rfl, rfl, rfl, rfl, trivial⟩ ?_
    refine NX.sub (env' := [(1, _), (5, _), (6, _), (7, _)]) ⟨rfl, rfl, rfl, rfl, trivial⟩ ?_
    exact hk8 _ _ ⟨_, rfl, rfl, hr⟩
  · have hr := cond_f hb hr
    refine Tr.skip' ?_
    refine NX.sub (env' := [(1, _), (5, _), (6, _), (7, _)]) ⟨rfl, rfl, rfl, rfl, trivial⟩ ?_
    exact hk8 _ _ ⟨_, rfl, rfl, hr⟩
end Go.Proofs.Ytohfiinnkoinlaa.Sy
