/- Functions of the program as plain functions, and that the translation computes them; the conditions stand in each theorem. Printed by an own program. -/
import Derived.Test.YtjpoedjmoobapaaSyX
import Derived.Test.YtjpoedjmoobapaaT
import Derived.Test.YtjpoedjmoobapaaProg
namespace Go.Proofs.Ytjpoedjmoobapaa.Sy
open Go
set_option linter.unusedVariables false
theorem ON3 : one Try.prog 3 = true := by kernel_rfl
theorem SZ31 : (Try.prog.info? 31).map (·.size) = some 1 := by kernel_rfl
theorem ON31 : one Try.prog 31 = true := by kernel_rfl
theorem ON22 : one Try.prog 22 = true := by kernel_rfl
theorem IF31 : (Try.prog.info? 31).map (fun i => (i.zero, i.size, i.bytes)) = some (some (.int .u32 0), 1, 4) := by kernel_rfl
theorem IF5 : (Try.prog.info? 5).map (fun i => (i.zero, i.size, i.bytes)) = some (some (.int .u8 0), 1, 1) := by kernel_rfl
theorem US31 : (Try.prog.underlying 31).isSome = true := by kernel_rfl
theorem US90 : (Try.prog.underlying 90).isSome = true := by kernel_rfl
theorem US3 : (Try.prog.underlying 3).isSome = true := by kernel_rfl
theorem US56 : (Try.prog.underlying 56).isSome = true := by kernel_rfl
theorem IF3 : (Try.prog.info? 3).map (fun i => (i.zero, i.size, i.bytes)) = some (some (.int .i64 0), 1, 8) := by kernel_rfl
theorem SZ3 : (Try.prog.info? 3).map (·.size) = some 1 := by kernel_rfl
theorem IN3 : (Try.prog.info? 3).isSome = true := by kernel_rfl
theorem SZ5 : (Try.prog.info? 5).map (·.size) = some 1 := by kernel_rfl
theorem ON5 : one Try.prog 5 = true := by kernel_rfl
theorem US5 : (Try.prog.underlying 5).isSome = true := by kernel_rfl
theorem IF34 : (Try.prog.info? 34).map (fun i => (i.zero, i.size, i.bytes)) = some (some (.slice none 0 0), 1, 24) := by kernel_rfl
theorem SZ34 : (Try.prog.info? 34).map (·.size) = some 1 := by kernel_rfl
theorem ON34 : one Try.prog 34 = true := by kernel_rfl
theorem FM : Try.prog.follows .mixedOrders = true := by kernel_rfl

def share_lost_c1 (s_0 : (BitVec 32)) (cp_0 : Int) : Option (Bool) :=
  bif decide (0 ≤ cp_0) then
  some (((s_0 >>> cp_0.toNat) != 0#32)) else none

set_option maxRecDepth 100000 in
set_option maxHeartbeats 4000000 in
theorem share_lost_c1_ok (w0 : World) (m : Snap) (l : List HI) (s_0 : (BitVec 32)) (fp0 fb0 : Nat) (cp_0 : Int) (hfp0 : l[fp0]? = some (hcells fb0 [.int .i64 cp_0] 3)) (r : Bool) (hr : share_lost_c1 s_0 cp_0 = some r) (w : World) (hc : cX w0 ⟨m, l⟩ w) :
    Calls Try.prog 39 [.int .u32 (s_0.toNat : Int), bp fb0 0].toArray w fun e w' => e = .returned (.bool r) ∧ cX w0 ⟨m, l⟩ w' := by
  unfold share_lost_c1 at hr
  refine calls_of_Tr (N := 8) Try.func39 rfl hc rfl (Nat.le_of_ble_eq_true rfl) ?_
  refine Tr.seq ?_
  refine Tr.region_f (fun _ => false) ?_
  refine W.q rfl rfl rfl rfl (by decide) (Yd.as rfl .c) ?_
  refine W.end ?_
  refine NX.sub (env' := [(0, _), (1, _)]) ⟨rfl, rfl, trivial⟩ ?_
  refine NX.then ?_
  refine Tr.seq ?_
  obtain ⟨hq1, hr⟩ := guard_some hr; replace hq1 := of_decide_eq_true hq1
  refine Tr.region_f (fun _ => false) ?_
  refine W.q rfl rfl rfl rfl (by decide) (Yd.mv rfl (.t rfl)) ?_
  refine W.q rfl rfl rfl rfl (by decide) (Yd.ldB (pos := fp0) hfp0 rfl rfl ON3 (.t rfl)) ?_
  refine W.q rfl rfl rfl rfl (by decide) (Yd.shrU (a := s_0) rfl (.t rfl) (.t rfl) hq1) ?_
  refine W.q rfl rfl rfl rfl (by decide) (Yd.neqU (a := (s_0 >>> cp_0.toNat)) (b := 0#32) rfl (.t rfl) .c) ?_
  refine W.q rfl rfl rfl rfl (by decide) (Yd.as rfl (.t rfl)) ?_
  refine W.end ?_
  refine NX.sub (env' := [(3, _)]) ⟨rfl, trivial⟩ ?_
  refine NX.then ?_
  refine Tr.ret' ?_
  refine res1 rfl rfl ?_
  intro w hc
  cases hr
  exact ⟨rfl, hc⟩

def slices_IndexFunc_Suint32uint32_k3 : Option (Int) :=
  some ((-1 : Int))

def slices_IndexFunc_Suint32uint32_b7 (s_0 : List (BitVec 32)) (f_1 : (BitVec 32) → Option Bool) (t_6 : Int) (nx8 : Unit → Option (Int)) : Option (Int) :=
  (geti s_0 t_6).bind fun y10 =>
  (f_1 y10).bind fun r12 =>
  (bif r12 then
  some t_6
  else
  nx8 ())

def slices_IndexFunc_Suint32uint32 (s_0 : List (BitVec 32)) (f_1 : (BitVec 32) → Option Bool) : Option (Int) :=
  forK (σ := Unit) (fun i s nx_ => slices_IndexFunc_Suint32uint32_b7 s_0 f_1 i nx_) (fun _ => slices_IndexFunc_Suint32uint32_k3) ((s_0.length : Int) - (0 : Int)).toNat (0 : Int) ()

set_option maxRecDepth 100000 in
set_option maxHeartbeats 4000000 in
theorem slices_IndexFunc_Suint32uint32_ok (w0 : World) (m : Snap) (l : List HI) (us_0 : Value) (s_0 : List (BitVec 32)) (hs_0 : RS rU m us_0 s_0) (uf_1 : Value) (f_1 : (BitVec 32) → Option Bool) (hf_1 : Fq Try.prog w0 ⟨m, l⟩ uf_1 (α := (BitVec 32)) (β := Bool) (fun _ v a => v = .int .u32 (a.toNat : Int)) (fun b => .bool b) f_1) (r : Int) (hr : slices_IndexFunc_Suint32uint32 s_0 f_1 = some r) (w : World) (hc : cX w0 ⟨m, l⟩ w) :
    Calls Try.prog 45 [us_0, uf_1].toArray w fun e w' => e = .returned (.int .i64 r) ∧ cX w0 ⟨m, l⟩ w' := by
  unfold slices_IndexFunc_Suint32uint32 at hr
  refine calls_of_Tr (N := 19) Try.func45 rfl hc rfl (Nat.le_of_ble_eq_true rfl) ?_
  refine Tr.seq ?_
  refine Tr.region_f (fun _ => false) ?_
  refine W.q rfl rfl rfl rfl (by decide) (Yd.as rfl .c) ?_
  refine W.end ?_
  refine NX.sub (env' := [(0, _), (1, _)]) ⟨rfl, rfl, trivial⟩ ?_
  refine NX.then ?_
  refine Tr.seq ?_
  refine Tr.seq ?_
  refine Tr.region_f (fun _ => false) ?_
  refine W.q rfl rfl rfl rfl (by decide) (Yd.mv rfl (.t rfl)) ?_
  refine W.q rfl rfl rfl rfl (by decide) (Yd.lenR hs_0 rfl Try.underlying22 (.t rfl)) ?_
  refine W.q rfl rfl rfl rfl (by decide) (Yd.mv rfl .c) ?_
  refine W.end ?_
  refine NX.sub (env' := [(0, _), (1, _), (7, _), (8, _)]) ⟨rfl, rfl, rfl, rfl, trivial⟩ ?_
  refine NX.then ?_
  refine Tr.join (S := fun env x => env = [] ∧ x = ⟨m, l⟩ ∧ slices_IndexFunc_Suint32uint32_k3 = some r) ?_ (fun hk4 => ?_)
  · rintro _ _ ⟨rfl, rfl, hr⟩
    unfold slices_IndexFunc_Suint32uint32_k3 at hr
    try dsimp only at hr
    refine NX.then ?_
    refine Tr.seq ?_
    refine Tr.region_f (fun _ => false) ?_
    refine W.q rfl rfl rfl rfl (by decide) (Yd.as rfl .c) ?_
    refine W.end ?_
    refine NX.sub (env' := [(4, _)]) ⟨rfl, trivial⟩ ?_
    refine NX.then ?_
    refine Tr.ret' ?_
    refine res1 rfl rfl ?_
    intro w hc
    cases hr
    exact ⟨rfl, hc⟩
  have hlen5 := (hs_0).2.1
  refine Tr.block ?_
  refine Tr.sub (env' := [(0, _), (1, _), (7, _), (8, _)]) ⟨rfl, rfl, rfl, rfl, trivial⟩ ?_
  refine Tr.loop (S := fun n (z : Int × Unit) env x => match z with | (t_6, _) => env = [(0, us_0), (1, uf_1), (7, .int .i64 ((s_0.length : Int))), (8, .int .i64 t_6)] ∧ x = ⟨m, l⟩ ∧ n = ((s_0.length : Int) - t_6).toNat ∧ 0 ≤ t_6 ∧ forK (σ := Unit) (fun i s nx_ => slices_IndexFunc_Suint32uint32_b7 s_0 f_1 i nx_) (fun _ => slices_IndexFunc_Suint32uint32_k3) n t_6 () = some r) _ ((0 : Int), ()) ⟨rfl, rfl, rfl, (by omega), hr⟩ ?_
  rintro n9 ⟨t_6, _⟩ env x ⟨rfl, rfl, hnt_6, h0t_6, hr⟩
  cases n9 with
  | zero =>
    simp only [forK] at hr
    refine Tr.seq ?_
    refine Tr.region_f (fun _ => false) ?_
    refine W.q rfl rfl rfl rfl (by decide) (Yd.lss rfl (.t rfl) (.t rfl)) ?_
    refine W.end ?_
    refine NX.sub (env' := [(0, _), (1, _), (7, _), (8, _), (9, _)]) ⟨rfl, rfl, rfl, rfl, rfl, trivial⟩ ?_
    refine NX.then ?_
    refine Tr.seq ?_
    refine Tr.cond (.t rfl) (fun hb => ?_) (fun hb => ?_)
    · exact absurd (hb.symm.trans (fr_end hnt_6)) (by decide)
    ·
      refine Tr.exit' (EX.then (EX.then (EX.block ?_)))
      refine NX.sub (env' := []) trivial ?_
      exact hk4 _ _ ⟨rfl, rfl, hr⟩
  | succ n9 =>
    obtain ⟨nx8, hnx8, hr⟩ := forK_succ hr
    try dsimp only at hr
    unfold slices_IndexFunc_Suint32uint32_b7 at hr
    try dsimp only at hr
    have hltt_6 := fr_bnd hnt_6
    refine Tr.seq ?_
    refine Tr.region_f (fun _ => false) ?_
    refine W.q rfl rfl rfl rfl (by decide) (Yd.lss rfl (.t rfl) (.t rfl)) ?_
    refine W.end ?_
    refine NX.sub (env' := [(0, _), (1, _), (7, _), (8, _), (9, _)]) ⟨rfl, rfl, rfl, rfl, rfl, trivial⟩ ?_
    refine NX.then ?_
    refine Tr.seq ?_
    refine Tr.cond (.t rfl) (fun hb => ?_) (fun hb => ?_)
    rotate_left
    · exact absurd (hb.symm.trans (fr_go hnt_6)) (by decide)
    ·
      refine Tr.skip' ?_
      refine NX.then ?_
      refine Tr.seq ?_
      refine Tr.block ?_
      refine Tr.seq ?_
      refine Tr.region_f (fun _ => false) ?_
      refine W.q rfl rfl rfl rfl (by decide) (Yd.mv rfl (.t rfl)) ?_
      refine W.q rfl rfl rfl rfl (by decide) (Yd.as rfl (.t rfl)) ?_
      refine W.end ?_
      refine NX.sub (env' := [(0, _), (1, _), (7, _), (8, _), (5, _)]) ⟨rfl, rfl, rfl, rfl, rfl, trivial⟩ ?_
      refine NX.then ?_
      refine Tr.seq ?_
      obtain ⟨y10, hy11, hr⟩ := bind_some hr
      obtain ⟨r12, hr13, hr⟩ := bind_some hr
      refine Tr.region_f (fun _ => false) ?_
      refine W.q rfl rfl rfl rfl (by decide) (Yd.mv rfl (.t rfl)) ?_
      refine W.q rfl rfl rfl rfl (by decide) (Yd.mv rfl (.t rfl)) ?_
      refine W.q rfl rfl rfl rfl (by decide) (Yd.mv rfl (.t rfl)) ?_
      refine W.q rfl rfl rfl rfl (by decide) (Yd.idxR hs_0 hy11 rfl Try.underlying22 SZ31 (.t rfl) (.t rfl)) ?_
      refine W.q rfl rfl rfl rfl (by decide) (Yd.ldF hs_0 (.refl _) hy11 rfl rfl ON31 (.t rfl)) ?_
      refine W.q rfl rfl rfl rfl (by decide) (Yd.callF hf_1 ⟨(.refl _), [], rfl⟩ rfl (.t rfl) (.t rfl) (fun _ _ => rfl) hr13) ?_
      refine W.end ?_
      refine NX.sub (env' := [(0, _), (1, _), (7, _), (8, _), (5, _), (16, _)]) ⟨rfl, rfl, rfl, rfl, rfl, rfl, trivial⟩ ?_
      refine NX.then ?_
      refine Tr.cond (.t rfl) (fun hb => ?_) (fun hb => ?_)
      · have hr := cond_t hb hr
        refine Tr.seq ?_
        refine Tr.region_f (fun _ => false) ?_
        refine W.q rfl rfl rfl rfl (by decide) (Yd.mv rfl (.t rfl)) ?_
        refine W.q rfl rfl rfl rfl (by decide) (Yd.as rfl (.t rfl)) ?_
        refine W.end ?_
        refine NX.sub (env' := [(4, _)]) ⟨rfl, trivial⟩ ?_
        refine NX.then ?_
        refine Tr.ret' (RT.block (RT.then (RT.then (RT.block (RT.then ?_)))))
        refine res1 rfl rfl ?_
        intro w hc
        cases hr
        exact ⟨rfl, hc⟩
      · have hr := cond_f hb hr
        refine Tr.skip' ?_
        refine NX.block ?_
        refine NX.then ?_
        refine Tr.region_f (fun _ => false) ?_
        refine W.q rfl rfl rfl rfl (by decide) (Yd.add rfl (.t rfl) .c) ?_
        refine W.q rfl rfl rfl rfl (by decide) (Yd.mv rfl (.t rfl)) ?_
        refine W.end ?_
        refine NX.sub (env' := [(0, _), (1, _), (7, _), (8, _)]) ⟨rfl, rfl, rfl, rfl, trivial⟩ ?_
        refine NX.sub (env' := [(0, _), (1, _), (7, _), (8, _)]) ⟨rfl, rfl, rfl, rfl, trivial⟩ ?_
        have hw := w64_id (n := t_6 + 1) (by omega) (by omega)
        exact NX.again n9 (t_6 + 1, ()) (Nat.lt_succ_self _) ⟨(by rw [hw] <;> rfl), rfl, (fr_dec hnt_6), (by omega), ((hnx8 _).symm.trans hr)⟩

def slices_ContainsFunc_Suint32uint32 (s_0 : List (BitVec 32)) (f_1 : (BitVec 32) → Option Bool) : Option (Bool) :=
  (slices_IndexFunc_Suint32uint32 s_0 f_1).bind fun r1 =>
  some ((decide (r1 ≥ (0 : Int))))

set_option maxRecDepth 100000 in
set_option maxHeartbeats 4000000 in
theorem slices_ContainsFunc_Suint32uint32_ok (w0 : World) (m : Snap) (l : List HI) (us_0 : Value) (s_0 : List (BitVec 32)) (hs_0 : RS rU m us_0 s_0) (uf_1 : Value) (f_1 : (BitVec 32) → Option Bool) (hf_1 : Fq Try.prog w0 ⟨m, l⟩ uf_1 (α := (BitVec 32)) (β := Bool) (fun _ v a => v = .int .u32 (a.toNat : Int)) (fun b => .bool b) f_1) (r : Bool) (hr : slices_ContainsFunc_Suint32uint32 s_0 f_1 = some r) (w : World) (hc : cX w0 ⟨m, l⟩ w) :
    Calls Try.prog 33 [us_0, uf_1].toArray w fun e w' => e = .returned (.bool r) ∧ cX w0 ⟨m, l⟩ w' := by
  unfold slices_ContainsFunc_Suint32uint32 at hr
  refine calls_of_Tr (N := 9) Try.func33 rfl hc rfl (Nat.le_of_ble_eq_true rfl) ?_
  refine Tr.seq ?_
  refine Tr.region_f (fun _ => false) ?_
  refine W.q rfl rfl rfl rfl (by decide) (Yd.as rfl .c) ?_
  refine W.end ?_
  refine NX.sub (env' := [(0, _), (1, _)]) ⟨rfl, rfl, trivial⟩ ?_
  refine NX.then ?_
  refine Tr.seq ?_
  obtain ⟨r1, hr2, hr⟩ := bind_some hr
  refine Tr.region_f (fun _ => false) ?_
  refine W.q rfl rfl rfl rfl (by decide) (Yd.mv rfl (.t rfl)) ?_
  refine W.q rfl rfl rfl rfl (by decide) (Yd.mv rfl (.t rfl)) ?_
  refine W.q rfl rfl rfl rfl (by decide) (Yd.call (v := .int .i64 r1) rfl Try.func45 rfl rfl (.cons (.t rfl) (.cons (.t rfl) .nil)) (fun x' hx w hw => slices_IndexFunc_Suint32uint32_ok w0 x'.m x'.l _ _ (hs_0.mono hx.1) _ f_1 (hf_1.mono (leX_trans _ _ _ ⟨(.refl _), [], rfl⟩ hx)) _ hr2 w hw)) ?_
  refine W.q rfl rfl rfl rfl (by decide) (Yd.geq rfl (.t rfl) .c) ?_
  refine W.q rfl rfl rfl rfl (by decide) (Yd.as rfl (.t rfl)) ?_
  refine W.end ?_
  refine NX.sub (env' := [(4, _)]) ⟨rfl, trivial⟩ ?_
  refine NX.then ?_
  refine Tr.ret' ?_
  refine res1 rfl rfl ?_
  intro w hc
  cases hr
  exact ⟨rfl, hc⟩

def share_lost_c2_c1 (s_0 : (BitVec 32)) (cp_0 : (BitVec 32)) : Option (Bool) :=
  some (((s_0 &&& ~~~cp_0) == 0#32))

set_option maxRecDepth 100000 in
set_option maxHeartbeats 4000000 in
theorem share_lost_c2_c1_ok (w0 : World) (m : Snap) (l : List HI) (s_0 : (BitVec 32)) (fp0 fb0 : Nat) (cp_0 : (BitVec 32)) (hfp0 : l[fp0]? = some (hcells fb0 [.int .u32 (cp_0.toNat : Int)] 31)) (r : Bool) (hr : share_lost_c2_c1 s_0 cp_0 = some r) (w : World) (hc : cX w0 ⟨m, l⟩ w) :
    Calls Try.prog 41 [.int .u32 (s_0.toNat : Int), bp fb0 0].toArray w fun e w' => e = .returned (.bool r) ∧ cX w0 ⟨m, l⟩ w' := by
  unfold share_lost_c2_c1 at hr
  refine calls_of_Tr (N := 8) Try.func41 rfl hc rfl (Nat.le_of_ble_eq_true rfl) ?_
  refine Tr.seq ?_
  refine Tr.region_f (fun _ => false) ?_
  refine W.q rfl rfl rfl rfl (by decide) (Yd.as rfl .c) ?_
  refine W.end ?_
  refine NX.sub (env' := [(0, _), (1, _)]) ⟨rfl, rfl, trivial⟩ ?_
  refine NX.then ?_
  refine Tr.seq ?_
  refine Tr.region_f (fun _ => false) ?_
  refine W.q rfl rfl rfl rfl (by decide) (Yd.mv rfl (.t rfl)) ?_
  refine W.q rfl rfl rfl rfl (by decide) (Yd.ldB (pos := fp0) hfp0 rfl rfl ON31 (.t rfl)) ?_
  refine W.q rfl rfl rfl rfl (by decide) (Yd.andnU (a := s_0) (b := cp_0) rfl (.t rfl) (.t rfl)) ?_
  refine W.q rfl rfl rfl rfl (by decide) (Yd.eqlU (a := (s_0 &&& ~~~cp_0)) (b := 0#32) rfl (.t rfl) .c) ?_
  refine W.q rfl rfl rfl rfl (by decide) (Yd.as rfl (.t rfl)) ?_
  refine W.end ?_
  refine NX.sub (env' := [(3, _)]) ⟨rfl, trivial⟩ ?_
  refine NX.then ?_
  refine Tr.ret' ?_
  refine res1 rfl rfl ?_
  intro w hc
  cases hr
  exact ⟨rfl, hc⟩

def share_lost_c2 (who_0 : (BitVec 32)) (cp_0 : List (BitVec 32)) : Option (Bool) :=
  (slices_ContainsFunc_Suint32uint32 cp_0 (fun a => share_lost_c2_c1 a who_0)).bind fun r3 =>
  some ((!r3))

set_option maxRecDepth 100000 in
set_option maxHeartbeats 4000000 in
theorem share_lost_c2_ok (w0 : World) (m : Snap) (l : List HI) (who_0 : (BitVec 32)) (fp0 fb0 : Nat) (uc_0 : Value) (cp_0 : List (BitVec 32)) (hc_0 : RS rU m uc_0 cp_0) (hfp0 : l[fp0]? = some (hcells fb0 [uc_0] 22)) (r : Bool) (hr : share_lost_c2 who_0 cp_0 = some r) (w : World) (hc : cX w0 ⟨m, l⟩ w) :
    Calls Try.prog 40 [.int .u32 (who_0.toNat : Int), bp fb0 0].toArray w fun e w' => e = .returned (.bool r) ∧ cX w0 ⟨m, l⟩ w' := by
  unfold share_lost_c2 at hr
  refine calls_of_Tr (N := 8) Try.func40 rfl hc rfl (Nat.le_of_ble_eq_true rfl) ?_
  refine Tr.seq ?_
  refine Tr.region_f (fun i => Nat.beq i 0) ?_
  refine W.e rfl rfl rfl rfl (by decide) (Ef.bx rfl (.t rfl) rfl) ?_
  rintro _ _ ⟨b1, rfl, rfl⟩
  refine ⟨.inl rfl, ?_⟩
  refine W.cast (m' := m) (l' := hcells b1 [_] 31 :: l) rfl rfl ?_
  refine W.q rfl rfl rfl rfl (by decide) (Yd.as rfl .c) ?_
  refine W.end ?_
  refine NX.sub (env' := [(1, _), (2, _)]) ⟨rfl, rfl, trivial⟩ ?_
  refine NX.then ?_
  refine Tr.seq ?_
  obtain ⟨r3, hr4, hr⟩ := bind_some hr
  refine Tr.region_f (fun _ => false) ?_
  refine W.q rfl rfl rfl rfl (by decide) (Yd.ldB (pos := (fp0 + 1)) hfp0 rfl rfl ON22 (.t rfl)) ?_
  refine W.q rfl rfl rfl rfl (by decide) (Yd.mkf rfl (.cons (.t rfl) .nil)) ?_
  refine W.q rfl rfl rfl rfl (by decide) (Yd.call (v := .bool r3) rfl Try.func33 rfl rfl (.cons (.t rfl) (.cons (.t rfl) .nil)) (fun x' hx w hw => slices_ContainsFunc_Suint32uint32_ok w0 x'.m x'.l _ _ (hc_0.mono hx.1) _ (fun a => share_lost_c2_c1 a who_0) ⟨41, _, _, rfl, Try.func41, rfl, rfl, fun y hy w2 hw2 v a r2 hv hr2 => by obtain ⟨p5, hp5⟩ := (leX_trans _ _ _ hx hy).at (p := 0) rfl; obtain rfl := hv; exact share_lost_c2_c1_ok w0 y.m y.l a p5 _ who_0 hp5 r2 hr2 w2 hw2⟩ _ hr4 w hw)) ?_
  refine W.q rfl rfl rfl rfl (by decide) (Yd.not rfl (.t rfl)) ?_
  refine W.q rfl rfl rfl rfl (by decide) (Yd.as rfl (.t rfl)) ?_
  refine W.end ?_
  refine NX.sub (env' := [(3, _)]) ⟨rfl, trivial⟩ ?_
  refine NX.drop (l' := l) (.cons _ (.refl _)) ?_
  refine NX.then ?_
  refine Tr.ret' ?_
  refine res1 rfl rfl ?_
  intro w hc
  cases hr
  exact ⟨rfl, hc⟩

def share_lost_k17 (l15 : List (BitVec 32)) : Option ((List (BitVec 32)) × Int) :=
  some ((l15, (0 : Int)))

def share_lost_k32 (t_21 : BitVec 32) (l13 : List (BitVec 32)) (nx23 : ((List (BitVec 32)) → Option ((List (BitVec 32)) × Int))) (most_31 : Bool) : Option ((List (BitVec 32)) × Int) :=
  (bif most_31 then
  bif decide (l13.length + (([t_21] : List (BitVec 32))).length ≤ 35184372088832) then
  nx23 (l13 ++ ([t_21] : List (BitVec 32))) else none
  else
  nx23 l13)

def share_lost_b40 (sets_1 : List (BitVec 32)) (t_21 : BitVec 32) (t_39 : Int) (most_29 : Bool) (nx41 : Bool → Option ((List (BitVec 32)) × Int)) : Option ((List (BitVec 32)) × Int) :=
  bif (!((most_29 == true) && ((((t_21 >>> t_39.toNat) &&& 1#32) == 1#32) == false)) || (share_lost_c2 ((t_21 ||| (1#32 <<< t_39.toNat))) sets_1).isSome) then
  nx41 (most_29 && ((((t_21 >>> t_39.toNat) &&& 1#32) == 1#32) || (!(((share_lost_c2 ((t_21 ||| (1#32 <<< t_39.toNat))) sets_1).getD false))))) else none

def share_lost_b22 (n_0 : Int) (sets_1 : List (BitVec 32)) (t_21 : BitVec 32) (l13 : List (BitVec 32)) (nx23 : (List (BitVec 32)) → Option ((List (BitVec 32)) × Int)) : Option ((List (BitVec 32)) × Int) :=
  (share_lost_c2 t_21 sets_1).bind fun r25 =>
  bif decide (n_0 ≤ 9223372036854775807) then
  forK (σ := Bool) (fun i s nx_ => share_lost_b40 sets_1 t_21 i s nx_) (fun s => share_lost_k32 t_21 l13 nx23 s) (n_0 - (0 : Int)).toNat (0 : Int) r25 else none

def share_lost (n_0 : Int) (sets_1 : List (BitVec 32)) : Option ((List (BitVec 32)) × Int) :=
  (bif (((decide (n_0 < (1 : Int))) || (decide (n_0 > (6 : Int)))) || (decide ((sets_1.length : Int) > (10 : Int)))) then
  some (([], (1 : Int)))
  else
  (slices_ContainsFunc_Suint32uint32 sets_1 (fun a => share_lost_c1 a n_0)).bind fun r5 =>
  (bif r5 then
  some (([], (4 : Int)))
  else
  bif decide (0 ≤ n_0) then
  forK (σ := (List (BitVec 32))) (fun i s nx_ => share_lost_b22 n_0 sets_1 i s nx_) (fun s => share_lost_k17 s) (((1#32 <<< n_0.toNat)).toNat - (0#32).toNat) 0#32 (([] : List (BitVec 32))) else none))

set_option maxRecDepth 100000 in
set_option maxHeartbeats 4000000 in
theorem share_lost_ok (w0 : World) (m : Snap) (l : List HI) (n_0 : Int) (usets_1 : Value) (sets_1 : List (BitVec 32)) (hsets_1 : RS rU m usets_1 sets_1) (r : (List (BitVec 32)) × Int) (hr : share_lost n_0 sets_1 = some r) (w : World) (hc : cX w0 ⟨m, l⟩ w) :
    Calls Try.prog 22 [.int .i64 n_0, usets_1].toArray w fun e w' => ∃ z0 : Value, ∃ m1 : Snap, e = .returned (.tuple #[z0, .int .i64 r.2]) ∧ Sle m m1 ∧ RS rU m1 z0 r.1 ∧ cX w0 ⟨m1, l⟩ w' := by
  unfold share_lost at hr
  refine calls_of_Tr (N := 63) Try.func22 rfl hc rfl (Nat.le_of_ble_eq_true rfl) ?_
  refine Tr.seq ?_
  refine Tr.region_f (fun i => Nat.beq i 0 || Nat.beq i 1) ?_
  refine W.e rfl rfl rfl rfl (by decide) (Ef.bx rfl (.t rfl) rfl) ?_
  rintro _ _ ⟨b1, rfl, rfl⟩
  refine ⟨.inl rfl, ?_⟩
  refine W.cast (m' := m) (l' := hcells b1 [_] 3 :: l) rfl rfl ?_
  refine W.e rfl rfl rfl rfl (by decide) (Ef.bx (us := [usets_1]) rfl (.t rfl) (RS.cells hsets_1)) ?_
  rintro _ _ ⟨b3, rfl, rfl⟩
  refine ⟨.inl rfl, ?_⟩
  refine W.cast (m' := m) (l' := hcells b3 [_] 22 :: hcells b1 [_] 3 :: l) rfl rfl ?_
  refine W.q rfl rfl rfl rfl (by decide) (Yd.as rfl .c) ?_
  refine W.q rfl rfl rfl rfl (by decide) (Yd.as rfl .c) ?_
  refine W.end ?_
  refine NX.sub (env' := [(2, _), (3, _)]) ⟨rfl, rfl, trivial⟩ ?_
  refine NX.then ?_
  refine Tr.seq ?_
  refine Tr.seq ?_
  refine Tr.region_f (fun _ => false) ?_
  refine W.q rfl rfl rfl rfl (by decide) (Yd.ldB (pos := 1) rfl rfl rfl ON3 (.t rfl)) ?_
  refine W.q rfl rfl rfl rfl (by decide) (Yd.lss rfl (.t rfl) .c) ?_
  refine W.q rfl rfl rfl rfl (by decide) (Yd.mv rfl (.t rfl)) ?_
  refine W.g rfl rfl rfl rfl rfl (.t rfl _) rfl (by decide) (fun hG => Yd.ldB (pos := 1) rfl rfl rfl ON3 (.t rfl)) ?_
  refine W.g rfl rfl rfl rfl rfl (.t rfl _) rfl (by decide) (fun hG => Yd.gtr rfl (.g rfl hG) .c) ?_
  refine W.q rfl rfl rfl rfl (by decide) (Yd.or rfl (.t rfl) .c rfl rfl) ?_
  refine W.q rfl rfl rfl rfl (by decide) (Yd.mv rfl (.t rfl)) ?_
  refine W.g rfl rfl rfl rfl rfl (.t rfl _) rfl (by decide) (fun hG => Yd.ldB (pos := 0) rfl rfl rfl ON22 (.t rfl)) ?_
  refine W.g rfl rfl rfl rfl rfl (.t rfl _) rfl (by decide) (fun hG => Yd.lenR hsets_1 rfl Try.underlying22 (.g rfl hG)) ?_
  refine W.g rfl rfl rfl rfl rfl (.t rfl _) rfl (by decide) (fun hG => Yd.gtr rfl (.g rfl hG) .c) ?_
  refine W.q rfl rfl rfl rfl (by decide) (Yd.or rfl (.t rfl) .c rfl rfl) ?_
  refine W.end ?_
  refine NX.sub (env' := [(2, _), (3, _), (21, _)]) ⟨rfl, rfl, rfl, trivial⟩ ?_
  refine NX.then ?_
  refine Tr.cond (.t rfl) (fun hb => ?_) (fun hb => ?_)
  · have hr := cond_t hb hr
    refine Tr.seq ?_
    refine Tr.region_f (fun _ => false) ?_
    refine W.q rfl rfl rfl rfl (by decide) (Yd.as rfl .c) ?_
    refine W.q rfl rfl rfl rfl (by decide) (Yd.as rfl .c) ?_
    refine W.end ?_
    refine NX.sub (env' := [(4, _), (5, _)]) ⟨rfl, rfl, trivial⟩ ?_
    refine NX.drop (l' := l) (.cons _ (.cons _ (.refl _))) ?_
    refine NX.then ?_
    refine Tr.ret' (RT.then ?_)
    refine res2 rfl rfl rfl ?_
    intro w hc
    cases hr
    exact ⟨_, _, rfl, (.refl _), (RS.nil _ _), hc⟩
  · have hr := cond_f hb hr
    refine Tr.skip' ?_
    refine NX.then ?_
    refine Tr.seq ?_
    refine Tr.seq ?_
    obtain ⟨r5, hr6, hr⟩ := bind_some hr
    refine Tr.region_f (fun _ => false) ?_
    refine W.q rfl rfl rfl rfl (by decide) (Yd.ldB (pos := 0) rfl rfl rfl ON22 (.t rfl)) ?_
    refine W.q rfl rfl rfl rfl (by decide) (Yd.mkf rfl (.cons (.t rfl) .nil)) ?_
    refine W.q rfl rfl rfl rfl (by decide) (Yd.call (v := .bool r5) rfl Try.func33 rfl rfl (.cons (.t rfl) (.cons (.t rfl) .nil)) (fun x' hx w hw => slices_ContainsFunc_Suint32uint32_ok w0 x'.m x'.l _ _ (hsets_1.mono hx.1) _ (fun a => share_lost_c1 a n_0) ⟨39, _, _, rfl, Try.func39, rfl, rfl, fun y hy w2 hw2 v a r2 hv hr2 => by obtain ⟨p5, hp5⟩ := (leX_trans _ _ _ hx hy).at (p := 1) rfl; obtain rfl := hv; exact share_lost_c1_ok w0 y.m y.l a p5 _ n_0 hp5 r2 hr2 w2 hw2⟩ _ hr6 w hw)) ?_
    refine W.end ?_
    refine NX.sub (env' := [(2, _), (3, _), (24, _)]) ⟨rfl, rfl, rfl, trivial⟩ ?_
    refine NX.then ?_
    refine Tr.cond (.t rfl) (fun hb => ?_) (fun hb => ?_)
    · have hr := cond_t hb hr
      refine Tr.seq ?_
      refine Tr.region_f (fun _ => false) ?_
      refine W.q rfl rfl rfl rfl (by decide) (Yd.as rfl .c) ?_
      refine W.q rfl rfl rfl rfl (by decide) (Yd.as rfl .c) ?_
      refine W.end ?_
      refine NX.sub (env' := [(4, _), (5, _)]) ⟨rfl, rfl, trivial⟩ ?_
      refine NX.drop (l' := l) (.cons _ (.cons _ (.refl _))) ?_
      refine NX.then ?_
      refine Tr.ret' (RT.then ?_)
      refine res2 rfl rfl rfl ?_
      intro w hc
      cases hr
      exact ⟨_, _, rfl, (.refl _), (RS.nil _ _), hc⟩
    · have hr := cond_f hb hr
      refine Tr.skip' ?_
      refine NX.then ?_
      refine Tr.seq ?_
      refine Tr.region_f (fun _ => false) ?_
      refine W.q rfl rfl rfl rfl (by decide) (Yd.mkf rfl (.cons (.t rfl) .nil)) ?_
      refine W.q rfl rfl rfl rfl (by decide) (Yd.as rfl (.t rfl)) ?_
      refine W.end ?_
      refine NX.sub (env' := [(2, _), (6, _)]) ⟨rfl, rfl, trivial⟩ ?_
      refine NX.then ?_
      refine Tr.seq ?_
      refine Tr.region_f (fun _ => false) ?_
      refine W.q rfl rfl rfl rfl (by decide) (Yd.as rfl .c) ?_
      refine W.end ?_
      refine NX.sub (env' := [(2, _), (6, _), (7, _)]) ⟨rfl, rfl, rfl, trivial⟩ ?_
      refine NX.then ?_
      refine Tr.seq ?_
      refine Tr.seq ?_
      obtain ⟨hq7, hr⟩ := guard_some hr; replace hq7 := of_decide_eq_true hq7
      refine Tr.region_f (fun _ => false) ?_
      refine W.q rfl rfl rfl rfl (by decide) (Yd.ldB (pos := 1) rfl rfl rfl ON3 (.t rfl)) ?_
      refine W.q rfl rfl rfl rfl (by decide) (Yd.shlU (a := 1#32) rfl .c (.t rfl) hq7) ?_
      refine W.q rfl rfl rfl rfl (by decide) (Yd.mv rfl .c) ?_
      refine W.end ?_
      refine NX.sub (env' := [(2, _), (6, _), (7, _), (27, _), (28, _)]) ⟨rfl, rfl, rfl, rfl, rfl, trivial⟩ ?_
      refine NX.then ?_
      refine Tr.addnil 31 1 ?_
      refine Tr.join (S := fun env x => ∃ l15 : List (BitVec 32), ∃ v16 : Value, env = [(7, v16)] ∧ x = ⟨m, hownT 31 1 encU v16 l15 :: l⟩ ∧ share_lost_k17 l15 = some r) ?_ (fun hk18 => ?_)
      · rintro _ _ ⟨l15, v16, rfl, rfl, hr⟩
        unfold share_lost_k17 at hr
        try dsimp only at hr
        refine NX.then ?_
        refine Tr.seq ?_
        refine Tr.region_f (fun _ => false) ?_
        refine W.q rfl rfl rfl rfl (by decide) (Yd.mv rfl (.t rfl)) ?_
        refine W.q rfl rfl rfl rfl (by decide) (Yd.as rfl (.t rfl)) ?_
        refine W.q rfl rfl rfl rfl (by decide) (Yd.as rfl .c) ?_
        refine W.end ?_
        refine NX.sub (env' := [(4, _), (5, _)]) ⟨rfl, rfl, trivial⟩ ?_
        refine NX.then ?_
        refine Tr.ret' ?_
        refine res2 rfl rfl rfl ?_
        intro w hc
        cases hr
        obtain ⟨m19, hsm19, hu20, hc⟩ := cX_freeze (enc := encU) (n := 1) (p := 0) (fun _ => rfl) hc rfl
        have hsets_1 := hsets_1.mono hsm19
        exact ⟨_, _, rfl, hsm19, hu20, hc⟩
      refine Tr.block ?_
      refine Tr.sub (env' := [(2, _), (6, _), (7, _), (27, _), (28, _)]) ⟨rfl, rfl, rfl, rfl, rfl, trivial⟩ ?_
      refine Tr.loop (S := fun n (z : BitVec 32 × (List (BitVec 32))) env x => match z with | (t_21, l13) => ∃ v14 : Value, env = [(2, bp b1 0), (6, .func (.func 40) #[] #[bp b3 0]), (7, v14), (27, .int .u32 (((1#32 <<< n_0.toNat)).toNat : Int)), (28, .int .u32 (t_21.toNat : Int))] ∧ x = ⟨m, hownT 31 1 encU v14 l13 :: hcells b3 [usets_1] 22 :: hcells b1 [.int .i64 n_0] 3 :: l⟩ ∧ n = ((1#32 <<< n_0.toNat)).toNat - t_21.toNat ∧ forK (σ := (List (BitVec 32))) (fun i s nx_ => share_lost_b22 n_0 sets_1 i s nx_) (fun s => share_lost_k17 s) n t_21 l13 = some r) _ (0#32, ([] : List (BitVec 32))) ⟨_, rfl, rfl, rfl, hr⟩ ?_
      rintro n24 ⟨t_21, l13⟩ env x ⟨v14, rfl, rfl, hnt_21, hr⟩
      cases n24 with
      | zero =>
        simp only [forK] at hr
        refine Tr.seq ?_
        refine Tr.region_f (fun _ => false) ?_
        refine W.q rfl rfl rfl rfl (by decide) (Yd.lssU (a := t_21) (b := (1#32 <<< n_0.toNat)) rfl (.t rfl) (.t rfl)) ?_
        refine W.end ?_
        refine NX.sub (env' := [(2, _), (6, _), (7, _), (27, _), (28, _), (29, _)]) ⟨rfl, rfl, rfl, rfl, rfl, rfl, trivial⟩ ?_
        refine NX.then ?_
        refine Tr.seq ?_
        refine Tr.cond (.t rfl) (fun hb => ?_) (fun hb => ?_)
        · exact absurd (hb.symm.trans (fu_end hnt_21)) (by decide)
        ·
          refine Tr.exit' (EX.then (EX.then (EX.block ?_)))
          refine NX.sub (env' := [(7, _)]) ⟨rfl, trivial⟩ ?_
          refine NX.drop (l' := hownT 31 1 encU v14 _ :: l) (.cons_cons _ (.cons _ (.cons _ (.refl _)))) ?_
          exact hk18 _ _ ⟨_, _, rfl, rfl, hr⟩
      | succ n24 =>
        obtain ⟨nx23, hnx23, hr⟩ := forK_succ hr
        try dsimp only at hr
        unfold share_lost_b22 at hr
        try dsimp only at hr
        refine Tr.seq ?_
        refine Tr.region_f (fun _ => false) ?_
        refine W.q rfl rfl rfl rfl (by decide) (Yd.lssU (a := t_21) (b := (1#32 <<< n_0.toNat)) rfl (.t rfl) (.t rfl)) ?_
        refine W.end ?_
        refine NX.sub (env' := [(2, _), (6, _), (7, _), (27, _), (28, _), (29, _)]) ⟨rfl, rfl, rfl, rfl, rfl, rfl, trivial⟩ ?_
        refine NX.then ?_
        refine Tr.seq ?_
        refine Tr.cond (.t rfl) (fun hb => ?_) (fun hb => ?_)
        rotate_left
        · exact absurd (hb.symm.trans (fu_go hnt_21)) (by decide)
        ·
          refine Tr.skip' ?_
          refine NX.then ?_
          refine Tr.seq ?_
          refine Tr.block ?_
          refine Tr.seq ?_
          refine Tr.region_f (fun _ => false) ?_
          refine W.q rfl rfl rfl rfl (by decide) (Yd.mv rfl (.t rfl)) ?_
          refine W.q rfl rfl rfl rfl (by decide) (Yd.as rfl (.t rfl)) ?_
          refine W.end ?_
          refine NX.sub (env' := [(2, _), (6, _), (7, _), (27, _), (28, _), (8, _)]) ⟨rfl, rfl, rfl, rfl, rfl, rfl, trivial⟩ ?_
          refine NX.then ?_
          refine Tr.seq ?_
          obtain ⟨r25, hr26, hr⟩ := bind_some hr
          refine Tr.region_f (fun _ => false) ?_
          refine W.q rfl rfl rfl rfl (by decide) (Yd.mv rfl (.t rfl)) ?_
          refine W.q rfl rfl rfl rfl (by decide) (Yd.mv rfl (.t rfl)) ?_
          refine W.q rfl rfl rfl rfl (by decide) (Yd.callC (v := .bool r25) rfl (.t rfl) Try.func40 rfl rfl (.cons (.t rfl) .nil) (by intro x' hx w hw; obtain ⟨p5, hp5⟩ := hx.at (p := 1) rfl; exact share_lost_c2_ok w0 x'.m x'.l t_21 p5 _ _ _ (hsets_1.mono hx.1) hp5 _ hr26 w hw)) ?_
          refine W.q rfl rfl rfl rfl (by decide) (Yd.as rfl (.t rfl)) ?_
          refine W.end ?_
          refine NX.sub (env' := [(2, _), (6, _), (7, _), (27, _), (28, _), (8, _), (9, _)]) ⟨rfl, rfl, rfl, rfl, rfl, rfl, rfl, trivial⟩ ?_
          refine NX.then ?_
          refine Tr.seq ?_
          refine Tr.seq ?_
          refine Tr.region_f (fun _ => false) ?_
          refine W.q rfl rfl rfl rfl (by decide) (Yd.ldB (pos := 2) rfl rfl rfl ON3 (.t rfl)) ?_
          refine W.q rfl rfl rfl rfl (by decide) (Yd.mv rfl .c) ?_
          refine W.end ?_
          refine NX.sub (env' := [(2, _), (6, _), (7, _), (27, _), (28, _), (8, _), (9, _), (34, _), (35, _)]) ⟨rfl, rfl, rfl, rfl, rfl, rfl, rfl, rfl, rfl, trivial⟩ ?_
          refine NX.then ?_
          refine Tr.join (S := fun env x => ∃ most_31 : Bool, env = [(2, bp b1 0), (6, .func (.func 40) #[] #[bp b3 0]), (7, v14), (27, .int .u32 (((1#32 <<< n_0.toNat)).toNat : Int)), (28, .int .u32 (t_21.toNat : Int)), (8, .int .u32 (t_21.toNat : Int)), (9, .bool most_31)] ∧ x = ⟨m, hownT 31 1 encU v14 l13 :: hcells b3 [usets_1] 22 :: hcells b1 [.int .i64 n_0] 3 :: l⟩ ∧ share_lost_k32 t_21 l13 nx23 most_31 = some r) ?_ (fun hk33 => ?_)
          · rintro _ _ ⟨most_31, rfl, rfl, hr⟩
            unfold share_lost_k32 at hr
            try dsimp only at hr
            refine NX.then ?_
            refine Tr.seq ?_
            refine Tr.region_f (fun _ => false) ?_
            refine W.q rfl rfl rfl rfl (by decide) (Yd.mv rfl (.t rfl)) ?_
            refine W.end ?_
            refine NX.sub (env' := [(2, _), (6, _), (7, _), (27, _), (28, _), (8, _), (56, _)]) ⟨rfl, rfl, rfl, rfl, rfl, rfl, rfl, trivial⟩ ?_
            refine NX.then ?_
            refine Tr.cond (.t rfl) (fun hb => ?_) (fun hb => ?_)
            · have hr := cond_t hb hr
              obtain ⟨hq37, hr⟩ := guard_some hr; replace hq37 := of_decide_eq_true hq37
              refine Tr.region_f (fun i => Nat.beq i 2 || Nat.beq i 3) ?_
              refine W.q rfl rfl rfl rfl (by decide) (Yd.mv rfl (.t rfl)) ?_
              refine W.q rfl rfl rfl rfl (by decide) (Yd.mv rfl (.t rfl)) ?_
              refine W.e rfl rfl rfl rfl (by decide) (Ef.bsT (enc := encU) (vs := [_]) (ys := [t_21]) (fun _ => rfl) IF31 rfl Try.underlying22 (by decide) rfl (.cons (.t rfl) .nil) rfl rfl (by decide)) ?_
              rintro v34 _ rfl
              refine ⟨.inl rfl, ?_⟩
              refine W.cast (m' := m) (l' := hownT 31 1 encU v34 _ :: hownT 31 1 encU v14 _ :: hcells b3 [_] 22 :: hcells b1 [_] 3 :: l) rfl rfl ?_
              refine W.e rfl rfl rfl rfl (by decide) (Ef.apI (pos := 1) (enc := encU) (xs := l13) (ys := ([t_21] : List (BitVec 32))) (fun _ => rfl) IF31 rfl rfl Try.underlying22 rfl (by decide) (.t rfl) (.t rfl) (Src.own (pos := 0) rfl) (fun _ => rfl) (by omega) (by omega)) ?_
              rintro v36 _ rfl
              refine ⟨.inl rfl, ?_⟩
              refine W.cast (m' := m) (l' := hownT 31 1 encU v34 _ :: hownT 31 1 encU v36 _ :: hcells b3 [_] 22 :: hcells b1 [_] 3 :: l) rfl rfl ?_
              refine W.q rfl rfl rfl rfl (by decide) (Yd.as rfl (.t rfl)) ?_
              refine W.end ?_
              refine NX.sub (env' := [(2, _), (6, _), (7, _), (27, _), (28, _)]) ⟨rfl, rfl, rfl, rfl, rfl, trivial⟩ ?_
              refine NX.drop (l' := hownT 31 1 encU v36 _ :: hcells b3 [_] 22 :: hcells b1 [_] 3 :: l) (.cons _ (.cons_cons _ (.cons_cons _ (.cons_cons _ (.refl _))))) ?_
              refine NX.block ?_
              refine NX.then ?_
              refine Tr.region_f (fun _ => false) ?_
              refine W.q rfl rfl rfl rfl (by decide) (Yd.addU (a := t_21) (b := 1#32) rfl (.t rfl) .c) ?_
              refine W.q rfl rfl rfl rfl (by decide) (Yd.mv rfl (.t rfl)) ?_
              refine W.end ?_
              refine NX.sub (env' := [(2, _), (6, _), (7, _), (27, _), (28, _)]) ⟨rfl, rfl, rfl, rfl, rfl, trivial⟩ ?_
              refine NX.sub (env' := [(2, _), (6, _), (7, _), (27, _), (28, _)]) ⟨rfl, rfl, rfl, rfl, rfl, trivial⟩ ?_
              exact NX.again n24 (t_21 + 1, (l13 ++ ([t_21] : List (BitVec 32)))) (Nat.lt_succ_self _) ⟨_, rfl, rfl, (fu_dec hnt_21), ((hnx23 _).symm.trans hr)⟩
            · have hr := cond_f hb hr
              refine Tr.skip' ?_
              refine NX.block ?_
              refine NX.then ?_
              refine Tr.region_f (fun _ => false) ?_
              refine W.q rfl rfl rfl rfl (by decide) (Yd.addU (a := t_21) (b := 1#32) rfl (.t rfl) .c) ?_
              refine W.q rfl rfl rfl rfl (by decide) (Yd.mv rfl (.t rfl)) ?_
              refine W.end ?_
              refine NX.sub (env' := [(2, _), (6, _), (7, _), (27, _), (28, _)]) ⟨rfl, rfl, rfl, rfl, rfl, trivial⟩ ?_
              refine NX.sub (env' := [(2, _), (6, _), (7, _), (27, _), (28, _)]) ⟨rfl, rfl, rfl, rfl, rfl, trivial⟩ ?_
              exact NX.again n24 (t_21 + 1, l13) (Nat.lt_succ_self _) ⟨_, rfl, rfl, (fu_dec hnt_21), ((hnx23 _).symm.trans hr)⟩
          obtain ⟨hle38, hr⟩ := guard_some hr; replace hle38 := of_decide_eq_true hle38
          refine Tr.block ?_
          refine Tr.sub (env' := [(2, _), (6, _), (7, _), (8, _), (9, _), (27, _), (28, _), (34, _), (35, _)]) ⟨rfl, rfl, rfl, rfl, rfl, rfl, rfl, rfl, rfl, trivial⟩ ?_
          refine Tr.loop (S := fun n (z : Int × Bool) env x => match z with | (t_39, most_29) => env = [(2, bp b1 0), (6, .func (.func 40) #[] #[bp b3 0]), (7, v14), (8, .int .u32 (t_21.toNat : Int)), (9, .bool most_29), (27, .int .u32 (((1#32 <<< n_0.toNat)).toNat : Int)), (28, .int .u32 (t_21.toNat : Int)), (34, .int .i64 n_0), (35, .int .i64 t_39)] ∧ x = ⟨m, hownT 31 1 encU v14 l13 :: hcells b3 [usets_1] 22 :: hcells b1 [.int .i64 n_0] 3 :: l⟩ ∧ n = (n_0 - t_39).toNat ∧ 0 ≤ t_39 ∧ forK (σ := Bool) (fun i s nx_ => share_lost_b40 sets_1 t_21 i s nx_) (fun s => share_lost_k32 t_21 l13 nx23 s) n t_39 most_29 = some r) _ ((0 : Int), r25) ⟨rfl, rfl, rfl, (by omega), hr⟩ ?_
          rintro n42 ⟨t_39, most_29⟩ env x ⟨rfl, rfl, hnt_39, h0t_39, hr⟩
          cases n42 with
          | zero =>
            simp only [forK] at hr
            refine Tr.seq ?_
            refine Tr.region_f (fun _ => false) ?_
            refine W.q rfl rfl rfl rfl (by decide) (Yd.lss rfl (.t rfl) (.t rfl)) ?_
            refine W.end ?_
            refine NX.sub (env' := [(2, _), (6, _), (7, _), (8, _), (9, _), (27, _), (28, _), (34, _), (35, _), (36, _)]) ⟨rfl, rfl, rfl, rfl, rfl, rfl, rfl, rfl, rfl, rfl, trivial⟩ ?_
            refine NX.then ?_
            refine Tr.seq ?_
            refine Tr.cond (.t rfl) (fun hb => ?_) (fun hb => ?_)
            · exact absurd (hb.symm.trans (fr_end hnt_39)) (by decide)
            ·
              refine Tr.exit' (EX.then (EX.then (EX.block ?_)))
              refine NX.sub (env' := [(2, _), (6, _), (7, _), (27, _), (28, _), (8, _), (9, _)]) ⟨rfl, rfl, rfl, rfl, rfl, rfl, rfl, trivial⟩ ?_
              exact hk33 _ _ ⟨_, rfl, rfl, hr⟩
          | succ n42 =>
            obtain ⟨nx41, hnx41, hr⟩ := forK_succ hr
            try dsimp only at hr
            unfold share_lost_b40 at hr
            try dsimp only at hr
            have hltt_39 := fr_bnd hnt_39
            refine Tr.seq ?_
            refine Tr.region_f (fun _ => false) ?_
            refine W.q rfl rfl rfl rfl (by decide) (Yd.lss rfl (.t rfl) (.t rfl)) ?_
            refine W.end ?_
            refine NX.sub (env' := [(2, _), (6, _), (7, _), (8, _), (9, _), (27, _), (28, _), (34, _), (35, _), (36, _)]) ⟨rfl, rfl, rfl, rfl, rfl, rfl, rfl, rfl, rfl, rfl, trivial⟩ ?_
            refine NX.then ?_
            refine Tr.seq ?_
            refine Tr.cond (.t rfl) (fun hb => ?_) (fun hb => ?_)
            rotate_left
            · exact absurd (hb.symm.trans (fr_go hnt_39)) (by decide)
            ·
              refine Tr.skip' ?_
              refine NX.then ?_
              refine Tr.seq ?_
              refine Tr.block ?_
              refine Tr.seq ?_
              refine Tr.region_f (fun _ => false) ?_
              refine W.q rfl rfl rfl rfl (by decide) (Yd.mv rfl (.t rfl)) ?_
              refine W.q rfl rfl rfl rfl (by decide) (Yd.as rfl (.t rfl)) ?_
              refine W.end ?_
              refine NX.sub (env' := [(2, _), (6, _), (7, _), (8, _), (9, _), (27, _), (28, _), (34, _), (35, _), (10, _)]) ⟨rfl, rfl, rfl, rfl, rfl, rfl, rfl, rfl, rfl, rfl, trivial⟩ ?_
              refine NX.then ?_
              obtain ⟨ha43, hr⟩ := guard_some hr
              refine Tr.region_f (fun _ => false) ?_
              refine W.q rfl rfl rfl rfl (by decide) (Yd.mv rfl (.t rfl)) ?_
              refine W.q rfl rfl rfl rfl (by decide) (Yd.mv rfl (.t rfl)) ?_
              refine W.g rfl rfl rfl rfl rfl (.t rfl _) rfl (by decide) (fun hG => Yd.mv rfl (.t rfl)) ?_
              refine W.g rfl rfl rfl rfl rfl (.t rfl _) rfl (by decide) (fun hG => Yd.mv rfl (.t rfl)) ?_
              refine W.g rfl rfl rfl rfl rfl (.t rfl _) rfl (by decide) (fun hG => Yd.shrU (a := t_21) rfl (.g rfl hG) (.g rfl hG) h0t_39) ?_
              refine W.g rfl rfl rfl rfl rfl (.t rfl _) rfl (by decide) (fun hG => Yd.andU (a := (t_21 >>> t_39.toNat)) (b := 1#32) rfl (.g rfl hG) .c) ?_
              refine W.g rfl rfl rfl rfl rfl (.t rfl _) rfl (by decide) (fun hG => Yd.eqlU (a := ((t_21 >>> t_39.toNat) &&& 1#32)) (b := 1#32) rfl (.g rfl hG) .c) ?_
              refine W.g rfl rfl rfl rfl rfl (.t rfl _) rfl (by decide) (fun hG => Yd.mv rfl (.g rfl hG)) ?_
              refine W.g rfl rfl rfl rfl rfl (.g rfl _) rfl (by decide) (fun hG => Yd.mv rfl (.t rfl)) ?_
              refine W.g rfl rfl rfl rfl rfl (.g rfl _) rfl (by decide) (fun hG => Yd.mv rfl (.t rfl)) ?_
              refine W.g rfl rfl rfl rfl rfl (.g rfl _) rfl (by decide) (fun hG => Yd.mv rfl (.t rfl)) ?_
              refine W.g rfl rfl rfl rfl rfl (.g rfl _) rfl (by decide) (fun hG => Yd.shlU (a := 1#32) rfl .c (.g rfl hG) h0t_39) ?_
              refine W.g rfl rfl rfl rfl rfl (.g rfl _) rfl (by decide) (fun hG => Yd.orU (a := t_21) (b := (1#32 <<< t_39.toNat)) rfl (.g rfl hG) (.g rfl hG)) ?_
              refine W.g rfl rfl rfl rfl rfl (.g rfl _) rfl (by decide) (fun hG => Yd.callC (v := .bool ((((share_lost_c2 ((t_21 ||| (1#32 <<< t_39.toNat))) sets_1).getD false)))) rfl (.g rfl hG) Try.func40 rfl rfl (.cons (.g rfl hG) .nil) (by intro x' hx w hw; obtain ⟨p5, hp5⟩ := hx.at (p := 1) rfl; exact share_lost_c2_ok w0 x'.m x'.l ((t_21 ||| (1#32 <<< t_39.toNat))) p5 _ _ _ (hsets_1.mono hx.1) hp5 _ (gd_get (d := false) ha43 hG) w hw)) ?_
              refine W.g rfl rfl rfl rfl rfl (.g rfl _) rfl (by decide) (fun hG => Yd.not rfl (.g rfl hG)) ?_
              refine W.g rfl rfl rfl rfl rfl (.t rfl _) rfl (by decide) (fun hG => Yd.orG rfl (.g rfl hG) .c rfl rfl hG) ?_
              refine W.q rfl rfl rfl rfl (by decide) (Yd.and rfl (.t rfl) .c rfl rfl) ?_
              refine W.q rfl rfl rfl rfl (by decide) (Yd.as rfl (.t rfl)) ?_
              refine W.end ?_
              refine NX.sub (env' := [(2, _), (6, _), (7, _), (8, _), (9, _), (27, _), (28, _), (34, _), (35, _)]) ⟨rfl, rfl, rfl, rfl, rfl, rfl, rfl, rfl, rfl, trivial⟩ ?_
              refine NX.block ?_
              refine NX.then ?_
              refine Tr.region_f (fun _ => false) ?_
              refine W.q rfl rfl rfl rfl (by decide) (Yd.add rfl (.t rfl) .c) ?_
              refine W.q rfl rfl rfl rfl (by decide) (Yd.mv rfl (.t rfl)) ?_
              refine W.end ?_
              refine NX.sub (env' := [(2, _), (6, _), (7, _), (8, _), (9, _), (27, _), (28, _), (34, _), (35, _)]) ⟨rfl, rfl, rfl, rfl, rfl, rfl, rfl, rfl, rfl, trivial⟩ ?_
              refine NX.sub (env' := [(2, _), (6, _), (7, _), (8, _), (9, _), (27, _), (28, _), (34, _), (35, _)]) ⟨rfl, rfl, rfl, rfl, rfl, rfl, rfl, rfl, rfl, trivial⟩ ?_
              have hw := w64_id (n := t_39 + 1) (by omega) (by omega)
              exact NX.again n42 (t_39 + 1, (most_29 && ((((t_21 >>> t_39.toNat) &&& 1#32) == 1#32) || (!(((share_lost_c2 ((t_21 ||| (1#32 <<< t_39.toNat))) sets_1).getD false)))))) (Nat.lt_succ_self _) ⟨(by rw [hw] <;> rfl), rfl, (fr_dec hnt_39), (by omega), ((hnx41 _).symm.trans hr)⟩

def share_none (n_0 : Int) (l_1 : List (BitVec 32)) : Option (Bool) :=
  bif (!(((l_1.length : Int) == (0 : Int)) == false) || (geti l_1 ((w64 ((l_1.length : Int) - (1 : Int))))).isSome) then
  bif (!(((l_1.length : Int) == (0 : Int)) == false) || decide (0 ≤ n_0)) then
  some ((((l_1.length : Int) == (0 : Int)) || (((geti l_1 ((w64 ((l_1.length : Int) - (1 : Int))))).getD (0#32)) == ((1#32 <<< n_0.toNat) - 1#32)))) else none else none

set_option maxRecDepth 100000 in
set_option maxHeartbeats 4000000 in
theorem share_none_ok (w0 : World) (m : Snap) (l : List HI) (n_0 : Int) (ul_1 : Value) (l_1 : List (BitVec 32)) (hl_1 : RS rU m ul_1 l_1) (r : Bool) (hr : share_none n_0 l_1 = some r) (w : World) (hc : cX w0 ⟨m, l⟩ w) :
    Calls Try.prog 28 [.int .i64 n_0, ul_1].toArray w fun e w' => e = .returned (.bool r) ∧ cX w0 ⟨m, l⟩ w' := by
  unfold share_none at hr
  refine calls_of_Tr (N := 20) Try.func28 rfl hc rfl (Nat.le_of_ble_eq_true rfl) ?_
  refine Tr.seq ?_
  refine Tr.region_f (fun _ => false) ?_
  refine W.q rfl rfl rfl rfl (by decide) (Yd.as rfl .c) ?_
  refine W.end ?_
  refine NX.sub (env' := [(0, _), (1, _)]) ⟨rfl, rfl, trivial⟩ ?_
  refine NX.then ?_
  refine Tr.seq ?_
  obtain ⟨ha1, hr⟩ := guard_some hr
  obtain ⟨hq2, hr⟩ := guard_some hr
  refine Tr.region_x (fun _ => false) (fun _ => false) (Ord.of [0, 1, 2, 3, 4, 5, 6, 7, 8, 9, 10, 11, 12, 13, 14, 15]) FM (by kernel_rfl) ?_
  refine W.q rfl rfl rfl rfl (by decide) (Yd.mv rfl (.t rfl)) ?_
  refine W.q rfl rfl rfl rfl (by decide) (Yd.lenR hl_1 rfl Try.underlying22 (.t rfl)) ?_
  refine W.q rfl rfl rfl rfl (by decide) (Yd.eql rfl (.t rfl) .c) ?_
  refine W.q rfl rfl rfl rfl (by decide) (Yd.mv rfl (.t rfl)) ?_
  refine W.g rfl rfl rfl rfl rfl (.t rfl _) rfl (by decide) (fun hG => Yd.mv rfl (.t rfl)) ?_
  refine W.g rfl rfl rfl rfl rfl (.t rfl _) rfl (by decide) (fun hG => Yd.mv rfl (.t rfl)) ?_
  refine W.g rfl rfl rfl rfl rfl (.t rfl _) rfl (by decide) (fun hG => Yd.lenR hl_1 rfl Try.underlying22 (.g rfl hG)) ?_
  refine W.g rfl rfl rfl rfl rfl (.t rfl _) rfl (by decide) (fun hG => Yd.sub rfl (.g rfl hG) .c) ?_
  refine W.g rfl rfl rfl rfl rfl (.t rfl _) rfl (by decide) (fun hG => Yd.idxR hl_1 (gd_get (d := (0#32)) ha1 hG) rfl Try.underlying22 SZ31 (.g rfl hG) (.g rfl hG)) ?_
  refine W.g rfl rfl rfl rfl rfl (.t rfl _) rfl (by decide) (fun hG => Yd.ldF hl_1 (.refl _) (gd_get (d := (0#32)) ha1 hG) rfl rfl ON31 (.g rfl hG)) ?_
  refine W.g rfl rfl rfl rfl rfl (.t rfl _) rfl (by decide) (fun hG => Yd.mv rfl (.t rfl)) ?_
  refine W.g rfl rfl rfl rfl rfl (.t rfl _) rfl (by decide) (fun hG => Yd.shlU (a := 1#32) rfl .c (.g rfl hG) (gd_dec hq2 hG)) ?_
  refine W.g rfl rfl rfl rfl rfl (.t rfl _) rfl (by decide) (fun hG => Yd.subU (a := (1#32 <<< n_0.toNat)) (b := 1#32) rfl (.g rfl hG) .c) ?_
  refine W.g rfl rfl rfl rfl rfl (.t rfl _) rfl (by decide) (fun hG => Yd.eqlU (a := ((geti l_1 ((w64 ((l_1.length : Int) - (1 : Int))))).getD (0#32))) (b := ((1#32 <<< n_0.toNat) - 1#32)) rfl (.g rfl hG) (.g rfl hG)) ?_
  refine W.q rfl rfl rfl rfl (by decide) (Yd.or rfl (.t rfl) .c rfl rfl) ?_
  refine W.q rfl rfl rfl rfl (by decide) (Yd.as rfl (.t rfl)) ?_
  refine W.end ?_
  refine NX.sub (env' := [(4, _)]) ⟨rfl, trivial⟩ ?_
  refine NX.then ?_
  refine Tr.ret' ?_
  refine res1 rfl rfl ?_
  intro w hc
  cases hr
  exact ⟨rfl, hc⟩

def slices_Clone_Sbytebyte (s_0 : List (BitVec 8)) : Option ((List (BitVec 8))) :=
  bif decide ((([] : List (BitVec 8))).length + s_0.length ≤ 140737488355328) then
  some ((([] : List (BitVec 8)) ++ s_0)) else none

set_option maxRecDepth 100000 in
set_option maxHeartbeats 4000000 in
theorem slices_Clone_Sbytebyte_ok (w0 : World) (m : Snap) (l : List HI) (us_0 : Value) (s_0 : List (BitVec 8)) (hs_0 : RS rY m us_0 s_0) (r : (List (BitVec 8))) (hr : slices_Clone_Sbytebyte s_0 = some r) (w : World) (hc : cX w0 ⟨m, l⟩ w) :
    Calls Try.prog 30 [us_0].toArray w fun e w' => ∃ z0 : Value, e = .returned (z0) ∧ cX w0 ⟨m, hownT 5 1 encY z0 r :: l⟩ w' := by
  unfold slices_Clone_Sbytebyte at hr
  refine calls_of_Tr (N := 8) Try.func30 rfl hc rfl (Nat.le_of_ble_eq_true rfl) ?_
  refine Tr.seq ?_
  refine Tr.region_f (fun _ => false) ?_
  refine W.q rfl rfl rfl rfl (by decide) (Yd.as rfl .c) ?_
  refine W.end ?_
  refine NX.sub (env' := [(0, _)]) ⟨rfl, trivial⟩ ?_
  refine NX.then ?_
  refine Tr.seq ?_
  refine Tr.seq ?_
  refine Tr.region_f (fun _ => false) ?_
  refine W.q rfl rfl rfl rfl (by decide) (Yd.mv rfl (.t rfl)) ?_
  refine W.q rfl rfl rfl rfl (by decide) (Yd.eqnil hs_0 rfl Try.underlying39 (.t rfl) .c) ?_
  refine W.end ?_
  refine NX.sub (env' := [(0, _), (4, _)]) ⟨rfl, rfl, trivial⟩ ?_
  refine NX.then ?_
  refine Tr.cond (.t rfl) (fun hb => ?_) (fun hb => ?_)
  · obtain rfl : s_0 = [] := RS.nil_of hs_0 hb
    have hr : some ([]) = some r := hr
    refine Tr.seq ?_
    refine Tr.region_f (fun _ => false) ?_
    refine W.q rfl rfl rfl rfl (by decide) (Yd.as rfl .c) ?_
    refine W.end ?_
    refine NX.sub (env' := [(2, _)]) ⟨rfl, trivial⟩ ?_
    refine NX.then ?_
    refine Tr.ret' (RT.then ?_)
    refine res1 rfl rfl ?_
    intro w hc
    cases hr
    exact ⟨_, rfl, (cX_nil hc)⟩
  ·
    refine Tr.skip' ?_
    refine NX.then ?_
    refine Tr.seq ?_
    obtain ⟨hq4, hr⟩ := guard_some hr; replace hq4 := of_decide_eq_true hq4
    refine Tr.region_f (fun i => Nat.beq i 0 || Nat.beq i 2) ?_
    refine W.e rfl rfl rfl rfl (by decide) (Ef.bsT (enc := encY) (vs := []) (ys := []) (fun _ => rfl) IF5 rfl Try.underlying39 (by decide) rfl .nil rfl rfl (by decide)) ?_
    rintro v1 _ rfl
    refine ⟨.inl rfl, ?_⟩
    refine W.cast (m' := m) (l' := hownT 5 1 encY v1 _ :: l) rfl rfl ?_
    refine W.q rfl rfl rfl rfl (by decide) (Yd.mv rfl (.t rfl)) ?_
    refine W.e rfl rfl rfl rfl (by decide) (Ef.apI (pos := 0) (enc := encY) (xs := ([] : List (BitVec 8))) (ys := s_0) (fun _ => rfl) IF5 rfl rfl Try.underlying39 rfl (by decide) (.t rfl) (.t rfl) (Src.rs (by decide) (.refl _) hs_0) (fun _ => rfl) (by omega) (by omega)) ?_
    rintro v3 _ rfl
    refine ⟨.inl rfl, ?_⟩
    refine W.cast (m' := m) (l' := hownT 5 1 encY v3 _ :: l) rfl rfl ?_
    refine W.q rfl rfl rfl rfl (by decide) (Yd.as rfl (.t rfl)) ?_
    refine W.end ?_
    refine NX.sub (env' := [(2, _)]) ⟨rfl, trivial⟩ ?_
    refine NX.then ?_
    refine Tr.ret' ?_
    refine res1 rfl rfl ?_
    intro w hc
    cases hr
    exact ⟨_, rfl, hc⟩

def math_bits_Mul32 (x_0 : (BitVec 32)) (y_1 : (BitVec 32)) : Option ((BitVec 32) × (BitVec 32)) :=
  some (((BitVec.ofInt 32 (((((BitVec.ofInt 64 (x_0.toNat : Int)) * (BitVec.ofInt 64 (y_1.toNat : Int))) >>> 32)).toNat : Int)), (BitVec.ofInt 32 ((((BitVec.ofInt 64 (x_0.toNat : Int)) * (BitVec.ofInt 64 (y_1.toNat : Int)))).toNat : Int))))

set_option maxRecDepth 100000 in
set_option maxHeartbeats 4000000 in
theorem math_bits_Mul32_ok (w0 : World) (m : Snap) (l : List HI) (x_0 : (BitVec 32)) (y_1 : (BitVec 32)) (r : (BitVec 32) × (BitVec 32)) (hr : math_bits_Mul32 x_0 y_1 = some r) (w : World) (hc : cX w0 ⟨m, l⟩ w) :
    Calls Try.prog 50 [.int .u32 (x_0.toNat : Int), .int .u32 (y_1.toNat : Int)].toArray w fun e w' => e = .returned (.tuple #[.int .u32 (r.1.toNat : Int), .int .u32 (r.2.toNat : Int)]) ∧ cX w0 ⟨m, l⟩ w' := by
  unfold math_bits_Mul32 at hr
  refine calls_of_Tr (N := 17) Try.func50 rfl hc rfl (Nat.le_of_ble_eq_true rfl) ?_
  refine Tr.seq ?_
  refine Tr.region_f (fun _ => false) ?_
  refine W.q rfl rfl rfl rfl (by decide) (Yd.as rfl .c) ?_
  refine W.q rfl rfl rfl rfl (by decide) (Yd.as rfl .c) ?_
  refine W.end ?_
  refine NX.sub (env' := [(0, _), (1, _)]) ⟨rfl, rfl, trivial⟩ ?_
  refine NX.then ?_
  refine Tr.seq ?_
  refine Tr.region_f (fun _ => false) ?_
  refine W.q rfl rfl rfl rfl (by decide) (Yd.mv rfl (.t rfl)) ?_
  refine W.q rfl rfl rfl rfl (by decide) (Yd.cvQ rfl US31 Try.underlying90 (.t rfl)) ?_
  refine W.q rfl rfl rfl rfl (by decide) (Yd.mv rfl (.t rfl)) ?_
  refine W.q rfl rfl rfl rfl (by decide) (Yd.cvQ rfl US31 Try.underlying90 (.t rfl)) ?_
  refine W.q rfl rfl rfl rfl (by decide) (Yd.mulQ (a := (BitVec.ofInt 64 (x_0.toNat : Int))) (b := (BitVec.ofInt 64 (y_1.toNat : Int))) rfl (.t rfl) (.t rfl)) ?_
  refine W.q rfl rfl rfl rfl (by decide) (Yd.as rfl (.t rfl)) ?_
  refine W.end ?_
  refine NX.sub (env' := [(6, _)]) ⟨rfl, trivial⟩ ?_
  refine NX.then ?_
  refine Tr.seq ?_
  refine Tr.region_f (fun _ => false) ?_
  refine W.q rfl rfl rfl rfl (by decide) (Yd.mv rfl (.t rfl)) ?_
  refine W.q rfl rfl rfl rfl (by decide) (Yd.shrQ (a := ((BitVec.ofInt 64 (x_0.toNat : Int)) * (BitVec.ofInt 64 (y_1.toNat : Int)))) rfl (.t rfl) .c (by decide)) ?_
  refine W.q rfl rfl rfl rfl (by decide) (Yd.cvU rfl US90 Try.underlying31 (.t rfl)) ?_
  refine W.q rfl rfl rfl rfl (by decide) (Yd.mv rfl (.t rfl)) ?_
  refine W.q rfl rfl rfl rfl (by decide) (Yd.cvU rfl US90 Try.underlying31 (.t rfl)) ?_
  refine W.q rfl rfl rfl rfl (by decide) (Yd.as rfl (.t rfl)) ?_
  refine W.q rfl rfl rfl rfl (by decide) (Yd.as rfl (.t rfl)) ?_
  refine W.end ?_
  refine NX.sub (env' := [(4, _), (5, _)]) ⟨rfl, rfl, trivial⟩ ?_
  refine NX.then ?_
  refine Tr.ret' ?_
  refine res2 rfl rfl rfl ?_
  intro w hc
  cases hr
  exact ⟨rfl, hc⟩

def math_bits_Mul64 (x_0 : (BitVec 64)) (y_1 : (BitVec 64)) : Option ((BitVec 64) × (BitVec 64)) :=
  some ((((((x_0 >>> 32) * (y_1 >>> 32)) + ((((x_0 >>> 32) * (y_1 &&& 4294967295#64)) + (((x_0 &&& 4294967295#64) * (y_1 &&& 4294967295#64)) >>> 32)) >>> 32)) + ((((((x_0 >>> 32) * (y_1 &&& 4294967295#64)) + (((x_0 &&& 4294967295#64) * (y_1 &&& 4294967295#64)) >>> 32)) &&& 4294967295#64) + ((x_0 &&& 4294967295#64) * (y_1 >>> 32))) >>> 32)), (x_0 * y_1)))

set_option maxRecDepth 100000 in
set_option maxHeartbeats 4000000 in
theorem math_bits_Mul64_ok (w0 : World) (m : Snap) (l : List HI) (x_0 : (BitVec 64)) (y_1 : (BitVec 64)) (r : (BitVec 64) × (BitVec 64)) (hr : math_bits_Mul64 x_0 y_1 = some r) (w : World) (hc : cX w0 ⟨m, l⟩ w) :
    Calls Try.prog 51 [.int .u64 (x_0.toNat : Int), .int .u64 (y_1.toNat : Int)].toArray w fun e w' => e = .returned (.tuple #[.int .u64 (r.1.toNat : Int), .int .u64 (r.2.toNat : Int)]) ∧ cX w0 ⟨m, l⟩ w' := by
  unfold math_bits_Mul64 at hr
  refine calls_of_Tr (N := 51) Try.func51 rfl hc rfl (Nat.le_of_ble_eq_true rfl) ?_
  refine Tr.seq ?_
  refine Tr.region_f (fun _ => false) ?_
  refine W.q rfl rfl rfl rfl (by decide) (Yd.as rfl .c) ?_
  refine W.q rfl rfl rfl rfl (by decide) (Yd.as rfl .c) ?_
  refine W.end ?_
  refine NX.sub (env' := [(0, _), (1, _)]) ⟨rfl, rfl, trivial⟩ ?_
  refine NX.then ?_
  refine Tr.seq ?_
  refine Tr.region_f (fun _ => false) ?_
  refine W.q rfl rfl rfl rfl (by decide) (Yd.mv rfl (.t rfl)) ?_
  refine W.q rfl rfl rfl rfl (by decide) (Yd.andQ (a := x_0) (b := 4294967295#64) rfl (.t rfl) .c) ?_
  refine W.q rfl rfl rfl rfl (by decide) (Yd.as rfl (.t rfl)) ?_
  refine W.end ?_
  refine NX.sub (env' := [(0, _), (1, _), (6, _)]) ⟨rfl, rfl, rfl, trivial⟩ ?_
  refine NX.then ?_
  refine Tr.seq ?_
  refine Tr.region_f (fun _ => false) ?_
  refine W.q rfl rfl rfl rfl (by decide) (Yd.mv rfl (.t rfl)) ?_
  refine W.q rfl rfl rfl rfl (by decide) (Yd.shrQ (a := x_0) rfl (.t rfl) .c (by decide)) ?_
  refine W.q rfl rfl rfl rfl (by decide) (Yd.as rfl (.t rfl)) ?_
  refine W.end ?_
  refine NX.sub (env' := [(0, _), (1, _), (6, _), (7, _)]) ⟨rfl, rfl, rfl, rfl, trivial⟩ ?_
  refine NX.then ?_
  refine Tr.seq ?_
  refine Tr.region_f (fun _ => false) ?_
  refine W.q rfl rfl rfl rfl (by decide) (Yd.mv rfl (.t rfl)) ?_
  refine W.q rfl rfl rfl rfl (by decide) (Yd.andQ (a := y_1) (b := 4294967295#64) rfl (.t rfl) .c) ?_
  refine W.q rfl rfl rfl rfl (by decide) (Yd.as rfl (.t rfl)) ?_
  refine W.end ?_
  refine NX.sub (env' := [(0, _), (1, _), (6, _), (7, _), (8, _)]) ⟨rfl, rfl, rfl, rfl, rfl, trivial⟩ ?_
  refine NX.then ?_
  refine Tr.seq ?_
  refine Tr.region_f (fun _ => false) ?_
  refine W.q rfl rfl rfl rfl (by decide) (Yd.mv rfl (.t rfl)) ?_
  refine W.q rfl rfl rfl rfl (by decide) (Yd.shrQ (a := y_1) rfl (.t rfl) .c (by decide)) ?_
  refine W.q rfl rfl rfl rfl (by decide) (Yd.as rfl (.t rfl)) ?_
  refine W.end ?_
  refine NX.sub (env' := [(0, _), (1, _), (6, _), (7, _), (8, _), (9, _)]) ⟨rfl, rfl, rfl, rfl, rfl, rfl, trivial⟩ ?_
  refine NX.then ?_
  refine Tr.seq ?_
  refine Tr.region_f (fun _ => false) ?_
  refine W.q rfl rfl rfl rfl (by decide) (Yd.mv rfl (.t rfl)) ?_
  refine W.q rfl rfl rfl rfl (by decide) (Yd.mv rfl (.t rfl)) ?_
  refine W.q rfl rfl rfl rfl (by decide) (Yd.mulQ (a := (x_0 &&& 4294967295#64)) (b := (y_1 &&& 4294967295#64)) rfl (.t rfl) (.t rfl)) ?_
  refine W.q rfl rfl rfl rfl (by decide) (Yd.as rfl (.t rfl)) ?_
  refine W.end ?_
  refine NX.sub (env' := [(0, _), (1, _), (6, _), (7, _), (8, _), (9, _), (10, _)]) ⟨rfl, rfl, rfl, rfl, rfl, rfl, rfl, trivial⟩ ?_
  refine NX.then ?_
  refine Tr.seq ?_
  refine Tr.region_f (fun _ => false) ?_
  refine W.q rfl rfl rfl rfl (by decide) (Yd.mv rfl (.t rfl)) ?_
  refine W.q rfl rfl rfl rfl (by decide) (Yd.mv rfl (.t rfl)) ?_
  refine W.q rfl rfl rfl rfl (by decide) (Yd.mulQ (a := (x_0 >>> 32)) (b := (y_1 &&& 4294967295#64)) rfl (.t rfl) (.t rfl)) ?_
  refine W.q rfl rfl rfl rfl (by decide) (Yd.mv rfl (.t rfl)) ?_
  refine W.q rfl rfl rfl rfl (by decide) (Yd.shrQ (a := ((x_0 &&& 4294967295#64) * (y_1 &&& 4294967295#64))) rfl (.t rfl) .c (by decide)) ?_
  refine W.q rfl rfl rfl rfl (by decide) (Yd.addQ (a := ((x_0 >>> 32) * (y_1 &&& 4294967295#64))) (b := (((x_0 &&& 4294967295#64) * (y_1 &&& 4294967295#64)) >>> 32)) rfl (.t rfl) (.t rfl)) ?_
  refine W.q rfl rfl rfl rfl (by decide) (Yd.as rfl (.t rfl)) ?_
  refine W.end ?_
  refine NX.sub (env' := [(0, _), (1, _), (6, _), (7, _), (9, _), (11, _)]) ⟨rfl, rfl, rfl, rfl, rfl, rfl, trivial⟩ ?_
  refine NX.then ?_
  refine Tr.seq ?_
  refine Tr.region_f (fun _ => false) ?_
  refine W.q rfl rfl rfl rfl (by decide) (Yd.mv rfl (.t rfl)) ?_
  refine W.q rfl rfl rfl rfl (by decide) (Yd.andQ (a := (((x_0 >>> 32) * (y_1 &&& 4294967295#64)) + (((x_0 &&& 4294967295#64) * (y_1 &&& 4294967295#64)) >>> 32))) (b := 4294967295#64) rfl (.t rfl) .c) ?_
  refine W.q rfl rfl rfl rfl (by decide) (Yd.as rfl (.t rfl)) ?_
  refine W.end ?_
  refine NX.sub (env' := [(0, _), (1, _), (6, _), (7, _), (9, _), (11, _), (12, _)]) ⟨rfl, rfl, rfl, rfl, rfl, rfl, rfl, trivial⟩ ?_
  refine NX.then ?_
  refine Tr.seq ?_
  refine Tr.region_f (fun _ => false) ?_
  refine W.q rfl rfl rfl rfl (by decide) (Yd.mv rfl (.t rfl)) ?_
  refine W.q rfl rfl rfl rfl (by decide) (Yd.shrQ (a := (((x_0 >>> 32) * (y_1 &&& 4294967295#64)) + (((x_0 &&& 4294967295#64) * (y_1 &&& 4294967295#64)) >>> 32))) rfl (.t rfl) .c (by decide)) ?_
  refine W.q rfl rfl rfl rfl (by decide) (Yd.as rfl (.t rfl)) ?_
  refine W.end ?_
  refine NX.sub (env' := [(0, _), (1, _), (6, _), (7, _), (9, _), (12, _), (13, _)]) ⟨rfl, rfl, rfl, rfl, rfl, rfl, rfl, trivial⟩ ?_
  refine NX.then ?_
  refine Tr.seq ?_
  refine Tr.region_f (fun _ => false) ?_
  refine W.q rfl rfl rfl rfl (by decide) (Yd.mv rfl (.t rfl)) ?_
  refine W.q rfl rfl rfl rfl (by decide) (Yd.mv rfl (.t rfl)) ?_
  refine W.q rfl rfl rfl rfl (by decide) (Yd.mv rfl (.t rfl)) ?_
  refine W.q rfl rfl rfl rfl (by decide) (Yd.mulQ (a := (x_0 &&& 4294967295#64)) (b := (y_1 >>> 32)) rfl (.t rfl) (.t rfl)) ?_
  refine W.q rfl rfl rfl rfl (by decide) (Yd.addQ (a := ((((x_0 >>> 32) * (y_1 &&& 4294967295#64)) + (((x_0 &&& 4294967295#64) * (y_1 &&& 4294967295#64)) >>> 32)) &&& 4294967295#64)) (b := ((x_0 &&& 4294967295#64) * (y_1 >>> 32))) rfl (.t rfl) (.t rfl)) ?_
  refine W.q rfl rfl rfl rfl (by decide) (Yd.as rfl (.t rfl)) ?_
  refine W.end ?_
  refine NX.sub (env' := [(0, _), (1, _), (7, _), (9, _), (12, _), (13, _)]) ⟨rfl, rfl, rfl, rfl, rfl, rfl, trivial⟩ ?_
  refine NX.then ?_
  refine Tr.seq ?_
  refine Tr.region_f (fun _ => false) ?_
  refine W.q rfl rfl rfl rfl (by decide) (Yd.mv rfl (.t rfl)) ?_
  refine W.q rfl rfl rfl rfl (by decide) (Yd.mv rfl (.t rfl)) ?_
  refine W.q rfl rfl rfl rfl (by decide) (Yd.mulQ (a := (x_0 >>> 32)) (b := (y_1 >>> 32)) rfl (.t rfl) (.t rfl)) ?_
  refine W.q rfl rfl rfl rfl (by decide) (Yd.mv rfl (.t rfl)) ?_
  refine W.q rfl rfl rfl rfl (by decide) (Yd.addQ (a := ((x_0 >>> 32) * (y_1 >>> 32))) (b := ((((x_0 >>> 32) * (y_1 &&& 4294967295#64)) + (((x_0 &&& 4294967295#64) * (y_1 &&& 4294967295#64)) >>> 32)) >>> 32)) rfl (.t rfl) (.t rfl)) ?_
  refine W.q rfl rfl rfl rfl (by decide) (Yd.mv rfl (.t rfl)) ?_
  refine W.q rfl rfl rfl rfl (by decide) (Yd.shrQ (a := (((((x_0 >>> 32) * (y_1 &&& 4294967295#64)) + (((x_0 &&& 4294967295#64) * (y_1 &&& 4294967295#64)) >>> 32)) &&& 4294967295#64) + ((x_0 &&& 4294967295#64) * (y_1 >>> 32)))) rfl (.t rfl) .c (by decide)) ?_
  refine W.q rfl rfl rfl rfl (by decide) (Yd.addQ (a := (((x_0 >>> 32) * (y_1 >>> 32)) + ((((x_0 >>> 32) * (y_1 &&& 4294967295#64)) + (((x_0 &&& 4294967295#64) * (y_1 &&& 4294967295#64)) >>> 32)) >>> 32))) (b := ((((((x_0 >>> 32) * (y_1 &&& 4294967295#64)) + (((x_0 &&& 4294967295#64) * (y_1 &&& 4294967295#64)) >>> 32)) &&& 4294967295#64) + ((x_0 &&& 4294967295#64) * (y_1 >>> 32))) >>> 32)) rfl (.t rfl) (.t rfl)) ?_
  refine W.q rfl rfl rfl rfl (by decide) (Yd.as rfl (.t rfl)) ?_
  refine W.end ?_
  refine NX.sub (env' := [(0, _), (1, _), (4, _)]) ⟨rfl, rfl, rfl, trivial⟩ ?_
  refine NX.then ?_
  refine Tr.seq ?_
  refine Tr.region_f (fun _ => false) ?_
  refine W.q rfl rfl rfl rfl (by decide) (Yd.mv rfl (.t rfl)) ?_
  refine W.q rfl rfl rfl rfl (by decide) (Yd.mv rfl (.t rfl)) ?_
  refine W.q rfl rfl rfl rfl (by decide) (Yd.mulQ (a := x_0) (b := y_1) rfl (.t rfl) (.t rfl)) ?_
  refine W.q rfl rfl rfl rfl (by decide) (Yd.as rfl (.t rfl)) ?_
  refine W.end ?_
  refine NX.sub (env' := [(4, _), (5, _)]) ⟨rfl, rfl, trivial⟩ ?_
  refine NX.then ?_
  refine Tr.ret' ?_
  refine res2 rfl rfl rfl ?_
  intro w hc
  cases hr
  exact ⟨rfl, hc⟩

def math_bits_Mul (x_0 : (BitVec 64)) (y_1 : (BitVec 64)) : Option ((BitVec 64) × (BitVec 64)) :=
  (math_bits_Mul64 x_0 y_1).bind fun r1 =>
  some ((r1.1, r1.2))

set_option maxRecDepth 100000 in
set_option maxHeartbeats 4000000 in
theorem math_bits_Mul_ok (w0 : World) (m : Snap) (l : List HI) (x_0 : (BitVec 64)) (y_1 : (BitVec 64)) (r : (BitVec 64) × (BitVec 64)) (hr : math_bits_Mul x_0 y_1 = some r) (w : World) (hc : cX w0 ⟨m, l⟩ w) :
    Calls Try.prog 44 [.int .u64 (x_0.toNat : Int), .int .u64 (y_1.toNat : Int)].toArray w fun e w' => e = .returned (.tuple #[.int .u64 (r.1.toNat : Int), .int .u64 (r.2.toNat : Int)]) ∧ cX w0 ⟨m, l⟩ w' := by
  unfold math_bits_Mul at hr
  refine calls_of_Tr (N := 30) Try.func44 rfl hc rfl (Nat.le_of_ble_eq_true rfl) ?_
  refine Tr.seq ?_
  refine Tr.region_f (fun _ => false) ?_
  refine W.q rfl rfl rfl rfl (by decide) (Yd.as rfl .c) ?_
  refine W.q rfl rfl rfl rfl (by decide) (Yd.as rfl .c) ?_
  refine W.end ?_
  refine NX.sub (env' := [(0, _), (1, _)]) ⟨rfl, rfl, trivial⟩ ?_
  refine NX.then ?_
  refine Tr.seq ?_
  refine Tr.cond .c (fun hb => ?_) (fun hb => ?_)
  · exact absurd hb (by decide)
  ·
    refine Tr.skip' ?_
    refine NX.then ?_
    refine Tr.seq ?_
    obtain ⟨r1, hr2, hr⟩ := bind_some hr
    refine Tr.region_f (fun _ => false) ?_
    refine W.q rfl rfl rfl rfl (by decide) (Yd.mv rfl (.t rfl)) ?_
    refine W.q rfl rfl rfl rfl (by decide) (Yd.mv rfl (.t rfl)) ?_
    refine W.q rfl rfl rfl rfl (by decide) (Yd.call (v := .tuple #[.int .u64 (r1.1.toNat : Int), .int .u64 (r1.2.toNat : Int)]) rfl Try.func51 rfl rfl (.cons (.t rfl) (.cons (.t rfl) .nil)) (fun x' hx w hw => math_bits_Mul64_ok w0 x'.m x'.l x_0 y_1 _ hr2 w hw)) ?_
    refine W.q rfl rfl rfl rfl (by decide) (Yd.mv rfl (.t rfl)) ?_
    refine W.q rfl rfl rfl rfl (by decide) (Yd.ext rfl (.t rfl) rfl) ?_
    refine W.q rfl rfl rfl rfl (by decide) (Yd.ext rfl (.t rfl) rfl) ?_
    refine W.q rfl rfl rfl rfl (by decide) (Yd.as rfl (.t rfl)) ?_
    refine W.q rfl rfl rfl rfl (by decide) (Yd.as rfl (.t rfl)) ?_
    refine W.end ?_
    refine NX.sub (env' := [(8, _), (9, _)]) ⟨rfl, rfl, trivial⟩ ?_
    refine NX.then ?_
    refine Tr.seq ?_
    refine Tr.region_f (fun _ => false) ?_
    refine W.q rfl rfl rfl rfl (by decide) (Yd.mv rfl (.t rfl)) ?_
    refine W.q rfl rfl rfl rfl (by decide) (Yd.mv rfl (.t rfl)) ?_
    refine W.q rfl rfl rfl rfl (by decide) (Yd.as rfl (.t rfl)) ?_
    refine W.q rfl rfl rfl rfl (by decide) (Yd.as rfl (.t rfl)) ?_
    refine W.end ?_
    refine NX.sub (env' := [(4, _), (5, _)]) ⟨rfl, rfl, trivial⟩ ?_
    refine NX.then ?_
    refine Tr.ret' ?_
    refine res2 rfl rfl rfl ?_
    intro w hc
    cases hr
    exact ⟨rfl, hc⟩

def slices_Repeat_Sintint_k14 (l12 : List Int) : Option ((List Int)) :=
  some l12

def slices_Repeat_Sintint_b16 (n_9 : Int) (l10 : List Int) (nx17 : (Int × (List Int)) → Option ((List Int))) : Option ((List Int)) :=
  (bif (decide (n_9 < (l10.length : Int))) then
  bif decide (0 ≤ n_9 ∧ n_9 ≤ (l10.length : Int)) then
  nx17 ((w64 (n_9 + ((Nat.min ((l10.take (n_9.toNat))).length (l10.length - n_9.toNat) : Nat) : Int))), (cpl n_9.toNat l10 ((l10.take (n_9.toNat))))) else none
  else
  slices_Repeat_Sintint_k14 l10)

def slices_Repeat_Sintint (fuel : Nat) (x_0 : List Int) (count_1 : Int) : Option ((List Int)) :=
  (bif (decide (count_1 < (0 : Int))) then
  none
  else
  (math_bits_Mul ((BitVec.ofInt 64 ((x_0.length : Int)))) ((BitVec.ofInt 64 count_1))).bind fun r1 =>
  (bif ((decide (r1.1 > 0#64)) || (decide (r1.2 > 9223372036854775807#64))) then
  none
  else
  bif decide (0 ≤ (w64 (r1.2.toNat : Int)) ∧ (w64 (r1.2.toNat : Int)) ≤ 1048576) then
  whileK (σ := Int × (List Int)) (fun s nx_ => slices_Repeat_Sintint_b16 s.1 s.2 nx_) fuel ((((Nat.min x_0.length (((List.replicate ((w64 (r1.2.toNat : Int))).toNat (0 : Int))).length - 0) : Nat) : Int)), ((cpl 0 ((List.replicate ((w64 (r1.2.toNat : Int))).toNat (0 : Int))) x_0))) else none))

set_option maxRecDepth 100000 in
set_option maxHeartbeats 4000000 in
theorem slices_Repeat_Sintint_ok (w0 : World) (m : Snap) (l : List HI) (fuel : Nat) (ux_0 : Value) (x_0 : List Int) (hx_0 : RS rI m ux_0 x_0) (count_1 : Int) (r : (List Int)) (hr : slices_Repeat_Sintint fuel x_0 count_1 = some r) (w : World) (hc : cX w0 ⟨m, l⟩ w) :
    Calls Try.prog 31 [ux_0, .int .i64 count_1].toArray w fun e w' => ∃ z0 : Value, e = .returned (z0) ∧ cX w0 ⟨m, hownT 3 1 encI z0 r :: l⟩ w' := by
  unfold slices_Repeat_Sintint at hr
  refine calls_of_Tr (N := 48) Try.func31 rfl hc rfl (Nat.le_of_ble_eq_true rfl) ?_
  refine Tr.seq ?_
  refine Tr.region_f (fun _ => false) ?_
  refine W.q rfl rfl rfl rfl (by decide) (Yd.as rfl .c) ?_
  refine W.end ?_
  refine NX.sub (env' := [(0, _), (1, _)]) ⟨rfl, rfl, trivial⟩ ?_
  refine NX.then ?_
  refine Tr.seq ?_
  refine Tr.seq ?_
  refine Tr.region_f (fun _ => false) ?_
  refine W.q rfl rfl rfl rfl (by decide) (Yd.mv rfl (.t rfl)) ?_
  refine W.q rfl rfl rfl rfl (by decide) (Yd.lss rfl (.t rfl) .c) ?_
  refine W.end ?_
  refine NX.sub (env' := [(0, _), (1, _), (10, _)]) ⟨rfl, rfl, rfl, trivial⟩ ?_
  refine NX.then ?_
  refine Tr.cond (.t rfl) (fun hb => ?_) (fun hb => ?_)
  · have hr := cond_t hb hr
    cases hr
  · have hr := cond_f hb hr
    refine Tr.skip' ?_
    refine NX.then ?_
    refine Tr.seq ?_
    obtain ⟨r1, hr2, hr⟩ := bind_some hr
    refine Tr.region_f (fun _ => false) ?_
    refine W.q rfl rfl rfl rfl (by decide) (Yd.mv rfl (.t rfl)) ?_
    refine W.q rfl rfl rfl rfl (by decide) (Yd.lenR hx_0 rfl Try.underlying34 (.t rfl)) ?_
    refine W.q rfl rfl rfl rfl (by decide) (Yd.cvQ rfl US3 Try.underlying56 (.t rfl)) ?_
    refine W.q rfl rfl rfl rfl (by decide) (Yd.mv rfl (.t rfl)) ?_
    refine W.q rfl rfl rfl rfl (by decide) (Yd.cvQ rfl US3 Try.underlying56 (.t rfl)) ?_
    refine W.q rfl rfl rfl rfl (by decide) (Yd.call (v := .tuple #[.int .u64 (r1.1.toNat : Int), .int .u64 (r1.2.toNat : Int)]) rfl Try.func44 rfl rfl (.cons (.t rfl) (.cons (.t rfl) .nil)) (fun x' hx w hw => math_bits_Mul_ok w0 x'.m x'.l ((BitVec.ofInt 64 ((x_0.length : Int)))) ((BitVec.ofInt 64 count_1)) _ hr2 w hw)) ?_
    refine W.q rfl rfl rfl rfl (by decide) (Yd.mv rfl (.t rfl)) ?_
    refine W.q rfl rfl rfl rfl (by decide) (Yd.ext rfl (.t rfl) rfl) ?_
    refine W.q rfl rfl rfl rfl (by decide) (Yd.ext rfl (.t rfl) rfl) ?_
    refine W.q rfl rfl rfl rfl (by decide) (Yd.as rfl (.t rfl)) ?_
    refine W.q rfl rfl rfl rfl (by decide) (Yd.as rfl (.t rfl)) ?_
    refine W.end ?_
    refine NX.sub (env' := [(0, _), (5, _), (6, _)]) ⟨rfl, rfl, rfl, trivial⟩ ?_
    refine NX.then ?_
    refine Tr.seq ?_
    refine Tr.seq ?_
    refine Tr.region_f (fun _ => false) ?_
    refine W.q rfl rfl rfl rfl (by decide) (Yd.mv rfl (.t rfl)) ?_
    refine W.q rfl rfl rfl rfl (by decide) (Yd.gtrU (a := r1.1) (b := 0#64) rfl (.t rfl) .c) ?_
    refine W.q rfl rfl rfl rfl (by decide) (Yd.mv rfl (.t rfl)) ?_
    refine W.g rfl rfl rfl rfl rfl (.t rfl _) rfl (by decide) (fun hG => Yd.mv rfl (.t rfl)) ?_
    refine W.g rfl rfl rfl rfl rfl (.t rfl _) rfl (by decide) (fun hG => Yd.gtrU (a := r1.2) (b := 9223372036854775807#64) rfl (.g rfl hG) .c) ?_
    refine W.q rfl rfl rfl rfl (by decide) (Yd.or rfl (.t rfl) .c rfl rfl) ?_
    refine W.end ?_
    refine NX.sub (env' := [(0, _), (6, _), (26, _)]) ⟨rfl, rfl, rfl, trivial⟩ ?_
    refine NX.then ?_
    refine Tr.cond (.t rfl) (fun hb => ?_) (fun hb => ?_)
    · have hr := cond_t hb hr
      cases hr
    · have hr := cond_f hb hr
      refine Tr.skip' ?_
      refine NX.then ?_
      refine Tr.seq ?_
      obtain ⟨hq3, hr⟩ := guard_some hr; replace hq3 := of_decide_eq_true hq3
      refine Tr.region_f (fun i => Nat.beq i 2) ?_
      refine W.q rfl rfl rfl rfl (by decide) (Yd.mv rfl (.t rfl)) ?_
      refine W.q rfl rfl rfl rfl (by decide) (Yd.cvI rfl US56 Try.underlying3 (.t rfl)) ?_
      refine W.e rfl rfl rfl rfl (by decide) (Ef.mkT (enc := encI) (0 : Int) IF3 rfl Try.underlying34 rfl rfl (by decide) (.t rfl) (.t rfl) (by omega) (by omega) (by omega)) ?_
      rintro v4 _ rfl
      refine ⟨.inl rfl, ?_⟩
      refine W.cast (m' := m) (l' := hownT 3 1 encI v4 _ :: l) rfl rfl ?_
      refine W.q rfl rfl rfl rfl (by decide) (Yd.as rfl (.t rfl)) ?_
      refine W.end ?_
      refine NX.sub (env' := [(0, _), (7, _)]) ⟨rfl, rfl, trivial⟩ ?_
      refine NX.then ?_
      refine Tr.seq ?_
      refine Tr.region_f (fun i => Nat.beq i 2) ?_
      refine W.q rfl rfl rfl rfl (by decide) (Yd.mv rfl (.t rfl)) ?_
      refine W.q rfl rfl rfl rfl (by decide) (Yd.mv rfl (.t rfl)) ?_
      refine W.e rfl rfl rfl rfl (by decide) (Ef.cpT (enc := encI) (n := 1) (fun _ => rfl) (pos := 0) (xs := (List.replicate ((w64 (r1.2.toNat : Int))).toNat (0 : Int))) (ys := x_0) (by decide) rfl rfl Try.underlying34 SZ3 (.t rfl) (.t rfl) (Src.rs (by decide) (.refl _) hx_0) (fun _ => rfl)) ?_
      rintro _ _ ⟨rfl, rfl⟩
      refine ⟨.inl rfl, ?_⟩
      refine W.cast (m' := m) (l' := hownT 3 1 encI v4 _ :: l) rfl rfl ?_
      refine W.q rfl rfl rfl rfl (by decide) (Yd.as rfl (.t rfl)) ?_
      refine W.end ?_
      refine NX.sub (env' := [(7, _), (8, _)]) ⟨rfl, rfl, trivial⟩ ?_
      refine NX.then ?_
      refine Tr.seq ?_
      refine Tr.join (S := fun env x => ∃ l12 : List Int, ∃ v13 : Value, env = [(7, v13)] ∧ x = ⟨m, hownT 3 1 encI v13 l12 :: l⟩ ∧ slices_Repeat_Sintint_k14 l12 = some r) ?_ (fun hk15 => ?_)
      · rintro _ _ ⟨l12, v13, rfl, rfl, hr⟩
        unfold slices_Repeat_Sintint_k14 at hr
        try dsimp only at hr
        refine NX.then ?_
        refine Tr.seq ?_
        refine Tr.region_f (fun _ => false) ?_
        refine W.q rfl rfl rfl rfl (by decide) (Yd.mv rfl (.t rfl)) ?_
        refine W.q rfl rfl rfl rfl (by decide) (Yd.as rfl (.t rfl)) ?_
        refine W.end ?_
        refine NX.sub (env' := [(4, _)]) ⟨rfl, trivial⟩ ?_
        refine NX.then ?_
        refine Tr.ret' ?_
        refine res1 rfl rfl ?_
        intro w hc
        cases hr
        exact ⟨_, rfl, hc⟩
      refine Tr.block ?_
      refine Tr.sub (env' := [(7, _), (8, _)]) ⟨rfl, rfl, trivial⟩ ?_
      refine Tr.loop (S := fun n (z : Int × (List Int)) env x => match z with | (n_9, l10) => ∃ v11 : Value, env = [(7, v11), (8, .int .i64 n_9)] ∧ x = ⟨m, hownT 3 1 encI v11 l10 :: l⟩ ∧ whileK (σ := Int × (List Int)) (fun s nx_ => slices_Repeat_Sintint_b16 s.1 s.2 nx_) n (n_9, l10) = some r) _ (((Nat.min x_0.length (((List.replicate ((w64 (r1.2.toNat : Int))).toNat (0 : Int))).length - 0) : Nat) : Int), (cpl 0 ((List.replicate ((w64 (r1.2.toNat : Int))).toNat (0 : Int))) x_0)) ⟨_, rfl, rfl, hr⟩ ?_
      rintro n18 ⟨n_9, l10⟩ env x ⟨v11, rfl, rfl, hr⟩
      cases n18 with
      | zero => simp [whileK] at hr
      | succ n18 =>
        obtain ⟨nx17, hnx17, hr⟩ := whileK_succ hr
        try dsimp only at hr
        unfold slices_Repeat_Sintint_b16 at hr
        try dsimp only at hr
        refine Tr.seq ?_
        refine Tr.seq ?_
        refine Tr.region_f (fun _ => false) ?_
        refine W.q rfl rfl rfl rfl (by decide) (Yd.mv rfl (.t rfl)) ?_
        refine W.q rfl rfl rfl rfl (by decide) (Yd.mv rfl (.t rfl)) ?_
        refine W.q rfl rfl rfl rfl (by decide) (Yd.lenO (p := 0) rfl rfl Try.underlying34 (.t rfl)) ?_
        refine W.q rfl rfl rfl rfl (by decide) (Yd.lss rfl (.t rfl) (.t rfl)) ?_
        refine W.end ?_
        refine NX.sub (env' := [(7, _), (8, _), (37, _)]) ⟨rfl, rfl, rfl, trivial⟩ ?_
        refine NX.then ?_
        refine Tr.cond (.t rfl) (fun hb => ?_) (fun hb => ?_)
        · have hr := cond_t hb hr
          refine Tr.skip' ?_
          refine NX.then ?_
          refine Tr.block ?_
          obtain ⟨hq19, hr⟩ := guard_some hr; replace hq19 := of_decide_eq_true hq19
          refine Tr.region_x (fun i => Nat.beq i 7) (fun i => Nat.beq i 0 || Nat.beq i 7) (Ord.of [0, 1, 2, 3, 4, 5, 6, 7, 8, 9]) FM (by kernel_rfl) ?_
          refine W.p rfl rfl rfl rfl (by decide) (fun _ => Yd.mv rfl (.t rfl)) ?_
          refine W.q rfl rfl rfl rfl (by decide) (Yd.mv rfl (.t rfl)) ?_
          refine W.q rfl rfl rfl rfl (by decide) (Yd.mv rfl (.t rfl)) ?_
          refine W.q rfl rfl rfl rfl (by decide) (Yd.slFrom (pos := 0) rfl rfl Try.underlying34 SZ3 (.t rfl) (.t rfl) hq19.1 hq19.2) ?_
          refine W.q rfl rfl rfl rfl (by decide) (Yd.mv rfl (.t rfl)) ?_
          refine W.q rfl rfl rfl rfl (by decide) (Yd.mv rfl (.t rfl)) ?_
          refine W.q rfl rfl rfl rfl (by decide) (Yd.slTo (pos := 0) rfl rfl Try.underlying34 (Option.some_get IN3).symm (.t rfl) (.t rfl) hq19.1 hq19.2) ?_
          refine W.e rfl rfl rfl rfl (by decide) (Ef.cpF (enc := encI) (n := 1) (fun _ => rfl) (pos := 0) (lo := n_9.toNat) (xs := l10) (ys := (l10.take (n_9.toNat))) (by decide) rfl (by omega) rfl Try.underlying34 SZ3 (.t rfl) (.t rfl) (Src.toT (enc := encI) (n := 1) (fun _ => rfl) (pos := 0) (h := n_9.toNat) (xs := l10) rfl (by omega)) (fun _ => rfl)) ?_
          rintro _ _ ⟨rfl, rfl⟩
          refine ⟨.inl rfl, ?_⟩
          refine W.cast (m' := m) (l' := hownT 3 1 encI v11 _ :: l) rfl rfl ?_
          refine W.q rfl rfl rfl rfl (by decide) (Yd.add rfl (.t rfl) (.t rfl)) ?_
          refine W.q rfl rfl rfl rfl (by decide) (Yd.as rfl (.t rfl)) ?_
          refine W.end ?_
          refine NX.sub (env' := [(7, _), (8, _)]) ⟨rfl, rfl, trivial⟩ ?_
          refine NX.block ?_
          refine NX.sub (env' := [(7, _), (8, _)]) ⟨rfl, rfl, trivial⟩ ?_
          exact NX.again n18 ((w64 (n_9 + ((Nat.min ((l10.take (n_9.toNat))).length (l10.length - n_9.toNat) : Nat) : Int))), (cpl n_9.toNat l10 ((l10.take (n_9.toNat))))) (Nat.lt_succ_self _) ⟨_, rfl, rfl, ((hnx17 _).symm.trans hr)⟩
        · have hr := cond_f hb hr
          refine Tr.exit' (EX.then (EX.then (EX.block ?_)))
          refine NX.sub (env' := [(7, _)]) ⟨rfl, trivial⟩ ?_
          exact hk15 _ _ ⟨_, _, rfl, rfl, hr⟩

def share_Deal_k41 (l36 : List (List Int)) : Option ((List (List Int)) × Int) :=
  some ((l36, (0 : Int)))

def share_Deal_k64 (l31 : List (List Int)) (nx48 : ((List (List Int)) → Option ((List (List Int)) × Int))) (l62 : List Int) : Option ((List (List Int)) × Int) :=
  bif decide (l31.length + 1 ≤ 5864062014805) then
  nx48 (l31 ++ [l62]) else none

def share_Deal_b74 (r1 : (List (BitVec 32)) × Int) (r8 : (List (BitVec 8))) (secret_16 : BitVec 8) (t_46 : Int) (t_73 : Int) (l60 : List Int) (nx75 : (List Int) → Option ((List (List Int)) × Int)) : Option ((List (List Int)) × Int) :=
  (geti r1.1 t_73).bind fun y77 =>
  (bif (((y77 >>> t_46.toNat) &&& 1#32) == 0#32) then
  (geti ((r8 ++ ([secret_16] : List (BitVec 8)))) t_73).bind fun y79 =>
  (geti l60 t_73).bind fun y81 =>
  nx75 (l60.set t_73.toNat ((y79.toNat : Int)))
  else
  nx75 l60)

def share_Deal_b47 (fuel : Nat) (r1 : (List (BitVec 32)) × Int) (r8 : (List (BitVec 8))) (secret_16 : BitVec 8) (t_46 : Int) (l31 : List (List Int)) (nx48 : (List (List Int)) → Option ((List (List Int)) × Int)) : Option ((List (List Int)) × Int) :=
  (slices_Repeat_Sintint fuel (([(-1 : Int)] : List Int)) ((r1.1.length : Int))).bind fun r52 =>
  forK (σ := (List Int)) (fun i s nx_ => share_Deal_b74 r1 r8 secret_16 t_46 i s nx_) (fun s => share_Deal_k64 l31 nx48 s) ((r1.1.length : Int) - (0 : Int)).toNat (0 : Int) r52

def share_Deal_k17 (n_0 : Int) (fuel : Nat) (r1 : (List (BitVec 32)) × Int) (r8 : (List (BitVec 8))) (secret_16 : BitVec 8) : Option ((List (List Int)) × Int) :=
  bif decide (r8.length + (([secret_16] : List (BitVec 8))).length ≤ 140737488355328) then
  bif decide (n_0 ≤ 9223372036854775807) then
  forK (σ := (List (List Int))) (fun i s nx_ => share_Deal_b47 fuel r1 r8 secret_16 i s nx_) (fun s => share_Deal_k41 s) (n_0 - (0 : Int)).toNat (0 : Int) (([] : List (List Int))) else none else none

def share_Deal_b85 (dice_3 : List (BitVec 8)) (t_84 : Int) (secret_14 : BitVec 8) (nx86 : (BitVec 8) → Option ((List (List Int)) × Int)) : Option ((List (List Int)) × Int) :=
  (geti dice_3 t_84).bind fun y88 =>
  nx86 (secret_14 ^^^ y88)

def share_Deal (fuel : Nat) (n_0 : Int) (sets_1 : List (BitVec 32)) (secret_2 : (BitVec 8)) (dice_3 : List (BitVec 8)) : Option ((List (List Int)) × Int) :=
  (share_lost n_0 sets_1).bind fun r1 =>
  (bif (r1.2 != (0 : Int)) then
  some (([], r1.2))
  else
  (share_none n_0 r1.1).bind fun r6 =>
  (bif r6 then
  some (([], (5 : Int)))
  else
  (bif ((dice_3.length : Int) != (w64 ((r1.1.length : Int) - (1 : Int)))) then
  some (([], (3 : Int)))
  else
  (slices_Clone_Sbytebyte dice_3).bind fun r8 =>
  forK (σ := (BitVec 8)) (fun i s nx_ => share_Deal_b85 dice_3 i s nx_) (fun s => share_Deal_k17 n_0 fuel r1 r8 s) ((dice_3.length : Int) - (0 : Int)).toNat (0 : Int) secret_2)))

set_option maxRecDepth 100000 in
set_option maxHeartbeats 4000000 in
theorem share_Deal_ok (w0 : World) (m : Snap) (l : List HI) (fuel : Nat) (n_0 : Int) (usets_1 : Value) (sets_1 : List (BitVec 32)) (hsets_1 : RS rU m usets_1 sets_1) (secret_2 : (BitVec 8)) (udice_3 : Value) (dice_3 : List (BitVec 8)) (hdice_3 : RS rY m udice_3 dice_3) (r : (List (List Int)) × Int) (hr : share_Deal fuel n_0 sets_1 secret_2 dice_3 = some r) (w : World) (hc : cX w0 ⟨m, l⟩ w) :
    Calls Try.prog 15 [.int .i64 n_0, usets_1, .int .u8 (secret_2.toNat : Int), udice_3].toArray w fun e w' => ∃ z0 : Value, ∃ m1 : Snap, e = .returned (.tuple #[z0, .int .i64 r.2]) ∧ Sle m m1 ∧ RS (Rp.slice rI) m1 z0 r.1 ∧ cX w0 ⟨m1, l⟩ w' := by
  unfold share_Deal at hr
  refine calls_of_Tr (N := 92) Try.func15 rfl hc rfl (Nat.le_of_ble_eq_true rfl) ?_
  refine Tr.seq ?_
  refine Tr.region_f (fun _ => false) ?_
  refine W.q rfl rfl rfl rfl (by decide) (Yd.as rfl .c) ?_
  refine W.q rfl rfl rfl rfl (by decide) (Yd.as rfl .c) ?_
  refine W.end ?_
  refine NX.sub (env' := [(0, _), (1, _), (2, _), (3, _)]) ⟨rfl, rfl, rfl, rfl, trivial⟩ ?_
  refine NX.then ?_
  refine Tr.seq ?_
  obtain ⟨r1, hr2, hr⟩ := bind_some hr
  refine Tr.region_f (fun i => Nat.beq i 2) ?_
  refine W.q rfl rfl rfl rfl (by decide) (Yd.mv rfl (.t rfl)) ?_
  refine W.q rfl rfl rfl rfl (by decide) (Yd.mv rfl (.t rfl)) ?_
  refine W.e rfl rfl rfl rfl (by decide) (Ef.call (R := fun z x' => ∃ u3 : Value, ∃ m4 : Snap, z = .tuple #[u3, .int .i64 r1.2] ∧ x' = ⟨m4, l⟩ ∧ Sle m m4 ∧ RS rU m4 u3 r1.1) rfl Try.func22 rfl rfl (.cons (.t rfl) (.cons (.t rfl) .nil)) (fun w hw => (share_lost_ok w0 _ _ n_0 _ _ hsets_1 _ hr2 w hw).mono fun e w' ⟨u3, m4, he, hm', hu5, hc'⟩ => ⟨_, _, he, ⟨u3, m4, rfl, rfl, hm', hu5⟩, hc'⟩)) ?_
  rintro _ _ ⟨u3, m4, rfl, rfl, hsm4, hu5⟩
  have hsets_1 := hsets_1.mono hsm4
  have hdice_3 := hdice_3.mono hsm4
  refine ⟨.inl rfl, ?_⟩
  refine W.cast (m' := m4) (l' := l) rfl rfl ?_
  refine W.q rfl rfl rfl rfl (by decide) (Yd.mv rfl (.t rfl)) ?_
  refine W.q rfl rfl rfl rfl (by decide) (Yd.ext rfl (.t rfl) rfl) ?_
  refine W.q rfl rfl rfl rfl (by decide) (Yd.ext rfl (.t rfl) rfl) ?_
  refine W.q rfl rfl rfl rfl (by decide) (Yd.as rfl (.t rfl)) ?_
  refine W.q rfl rfl rfl rfl (by decide) (Yd.as rfl (.t rfl)) ?_
  refine W.end ?_
  refine NX.sub (env' := [(0, _), (2, _), (3, _), (10, _), (11, _)]) ⟨rfl, rfl, rfl, rfl, rfl, trivial⟩ ?_
  refine NX.then ?_
  refine Tr.seq ?_
  refine Tr.block ?_
  refine Tr.seq ?_
  refine Tr.region_f (fun _ => false) ?_
  refine W.q rfl rfl rfl rfl (by decide) (Yd.mv rfl (.t rfl)) ?_
  refine W.q rfl rfl rfl rfl (by decide) (Yd.neq rfl (.t rfl) .c) ?_
  refine W.q rfl rfl rfl rfl (by decide) (Yd.as rfl (.t rfl)) ?_
  refine W.end ?_
  refine NX.sub (env' := [(0, _), (2, _), (3, _), (10, _), (11, _), (26, _)]) ⟨rfl, rfl, rfl, rfl, rfl, rfl, trivial⟩ ?_
  refine NX.then ?_
  refine Tr.cond (.t rfl) (fun hb => ?_) (fun hb => ?_)
  · have hr := cond_t hb hr
    refine Tr.seq ?_
    refine Tr.region_f (fun _ => false) ?_
    refine W.q rfl rfl rfl rfl (by decide) (Yd.mv rfl (.t rfl)) ?_
    refine W.q rfl rfl rfl rfl (by decide) (Yd.as rfl .c) ?_
    refine W.q rfl rfl rfl rfl (by decide) (Yd.as rfl (.t rfl)) ?_
    refine W.end ?_
    refine NX.sub (env' := [(8, _), (9, _)]) ⟨rfl, rfl, trivial⟩ ?_
    refine NX.then ?_
    refine Tr.ret' (RT.block (RT.then ?_))
    refine res2 rfl rfl rfl ?_
    intro w hc
    cases hr
    exact ⟨_, _, rfl, hsm4, (RS.nil _ _), hc⟩
  · have hr := cond_f hb hr
    refine Tr.seq ?_
    obtain ⟨r6, hr7, hr⟩ := bind_some hr
    refine Tr.region_f (fun _ => false) ?_
    refine W.q rfl rfl rfl rfl (by decide) (Yd.mv rfl (.t rfl)) ?_
    refine W.q rfl rfl rfl rfl (by decide) (Yd.mv rfl (.t rfl)) ?_
    refine W.q rfl rfl rfl rfl (by decide) (Yd.call (v := .bool r6) rfl Try.func28 rfl rfl (.cons (.t rfl) (.cons (.t rfl) .nil)) (fun x' hx w hw => share_none_ok w0 x'.m x'.l n_0 _ _ (hu5.mono hx.1) _ hr7 w hw)) ?_
    refine W.q rfl rfl rfl rfl (by decide) (Yd.as rfl (.t rfl)) ?_
    refine W.end ?_
    refine NX.sub (env' := [(0, _), (2, _), (3, _), (10, _), (30, _)]) ⟨rfl, rfl, rfl, rfl, rfl, trivial⟩ ?_
    refine NX.then ?_
    refine Tr.cond (.t rfl) (fun hb => ?_) (fun hb => ?_)
    · have hr := cond_t hb hr
      refine Tr.seq ?_
      refine Tr.region_f (fun _ => false) ?_
      refine W.q rfl rfl rfl rfl (by decide) (Yd.as rfl .c) ?_
      refine W.q rfl rfl rfl rfl (by decide) (Yd.as rfl .c) ?_
      refine W.end ?_
      refine NX.sub (env' := [(8, _), (9, _)]) ⟨rfl, rfl, trivial⟩ ?_
      refine NX.then ?_
      refine Tr.ret' (RT.block (RT.then ?_))
      refine res2 rfl rfl rfl ?_
      intro w hc
      cases hr
      exact ⟨_, _, rfl, hsm4, (RS.nil _ _), hc⟩
    · have hr := cond_f hb hr
      refine Tr.seq ?_
      refine Tr.region_f (fun _ => false) ?_
      refine W.q rfl rfl rfl rfl (by decide) (Yd.mv rfl (.t rfl)) ?_
      refine W.q rfl rfl rfl rfl (by decide) (Yd.lenR hdice_3 rfl Try.underlying39 (.t rfl)) ?_
      refine W.q rfl rfl rfl rfl (by decide) (Yd.mv rfl (.t rfl)) ?_
      refine W.q rfl rfl rfl rfl (by decide) (Yd.lenR hu5 rfl Try.underlying22 (.t rfl)) ?_
      refine W.q rfl rfl rfl rfl (by decide) (Yd.sub rfl (.t rfl) .c) ?_
      refine W.q rfl rfl rfl rfl (by decide) (Yd.neq rfl (.t rfl) (.t rfl)) ?_
      refine W.q rfl rfl rfl rfl (by decide) (Yd.as rfl (.t rfl)) ?_
      refine W.end ?_
      refine NX.sub (env' := [(0, _), (2, _), (3, _), (10, _), (34, _)]) ⟨rfl, rfl, rfl, rfl, rfl, trivial⟩ ?_
      refine NX.then ?_
      refine Tr.cond (.t rfl) (fun hb => ?_) (fun hb => ?_)
      · have hr := cond_t hb hr
        refine Tr.seq ?_
        refine Tr.region_f (fun _ => false) ?_
        refine W.q rfl rfl rfl rfl (by decide) (Yd.as rfl .c) ?_
        refine W.q rfl rfl rfl rfl (by decide) (Yd.as rfl .c) ?_
        refine W.end ?_
        refine NX.sub (env' := [(8, _), (9, _)]) ⟨rfl, rfl, trivial⟩ ?_
        refine NX.then ?_
        refine Tr.ret' (RT.block (RT.then ?_))
        refine res2 rfl rfl rfl ?_
        intro w hc
        cases hr
        exact ⟨_, _, rfl, hsm4, (RS.nil _ _), hc⟩
      · have hr := cond_f hb hr
        refine Tr.skip' ?_
        refine NX.block ?_
        refine NX.then ?_
        refine Tr.seq ?_
        obtain ⟨r8, hr9, hr⟩ := bind_some hr
        refine Tr.region_f (fun i => Nat.beq i 1) ?_
        refine W.q rfl rfl rfl rfl (by decide) (Yd.mv rfl (.t rfl)) ?_
        refine W.e rfl rfl rfl rfl (by decide) (Ef.call (R := fun z x' => ∃ v10 : Value, z = v10 ∧ x' = ⟨m4, hownT 5 1 encY v10 r8 :: l⟩) rfl Try.func30 rfl rfl (.cons (.t rfl) .nil) (fun w hw => (slices_Clone_Sbytebyte_ok w0 _ _ _ _ hdice_3 _ hr9 w hw).mono fun e w' ⟨v10, he, hc'⟩ => ⟨_, _, he, ⟨v10, rfl, rfl⟩, hc'⟩)) ?_
        rintro v10 _ ⟨_, rfl, rfl⟩
        refine ⟨.inl rfl, ?_⟩
        refine W.cast (m' := m4) (l' := hownT 5 1 encY v10 _ :: l) rfl rfl ?_
        refine W.q rfl rfl rfl rfl (by decide) (Yd.as rfl (.t rfl)) ?_
        refine W.end ?_
        refine NX.sub (env' := [(0, _), (2, _), (3, _), (10, _), (12, _)]) ⟨rfl, rfl, rfl, rfl, rfl, trivial⟩ ?_
        refine NX.then ?_
        refine Tr.seq ?_
        refine Tr.seq ?_
        refine Tr.region_f (fun _ => false) ?_
        refine W.q rfl rfl rfl rfl (by decide) (Yd.mv rfl (.t rfl)) ?_
        refine W.q rfl rfl rfl rfl (by decide) (Yd.lenR hdice_3 rfl Try.underlying39 (.t rfl)) ?_
        refine W.q rfl rfl rfl rfl (by decide) (Yd.mv rfl .c) ?_
        refine W.end ?_
        refine NX.sub (env' := [(0, _), (2, _), (10, _), (12, _), (43, _), (44, _), (45, _)]) ⟨rfl, rfl, rfl, rfl, rfl, rfl, rfl, trivial⟩ ?_
        refine NX.then ?_
        refine Tr.join (S := fun env x => ∃ secret_16 : BitVec 8, env = [(0, .int .i64 n_0), (2, .int .u8 (secret_16.toNat : Int)), (10, u3), (12, v10)] ∧ x = ⟨m4, hownT 5 1 encY v10 r8 :: l⟩ ∧ share_Deal_k17 n_0 fuel r1 r8 secret_16 = some r) ?_ (fun hk18 => ?_)
        · rintro _ _ ⟨secret_16, rfl, rfl, hr⟩
          unfold share_Deal_k17 at hr
          try dsimp only at hr
          refine NX.then ?_
          refine Tr.seq ?_
          obtain ⟨hq22, hr⟩ := guard_some hr; replace hq22 := of_decide_eq_true hq22
          refine Tr.region_f (fun i => Nat.beq i 2 || Nat.beq i 3) ?_
          refine W.q rfl rfl rfl rfl (by decide) (Yd.mv rfl (.t rfl)) ?_
          refine W.q rfl rfl rfl rfl (by decide) (Yd.mv rfl (.t rfl)) ?_
          refine W.e rfl rfl rfl rfl (by decide) (Ef.bsT (enc := encY) (vs := [_]) (ys := [secret_16]) (fun _ => rfl) IF5 rfl Try.underlying39 (by decide) rfl (.cons (.t rfl) .nil) rfl rfl (by decide)) ?_
          rintro v19 _ rfl
          refine ⟨.inl rfl, ?_⟩
          refine W.cast (m' := m4) (l' := hownT 5 1 encY v19 _ :: hownT 5 1 encY v10 _ :: l) rfl rfl ?_
          refine W.e rfl rfl rfl rfl (by decide) (Ef.apI (pos := 1) (enc := encY) (xs := r8) (ys := ([secret_16] : List (BitVec 8))) (fun _ => rfl) IF5 rfl rfl Try.underlying39 rfl (by decide) (.t rfl) (.t rfl) (Src.own (pos := 0) rfl) (fun _ => rfl) (by omega) (by omega)) ?_
          rintro v21 _ rfl
          refine ⟨.inl rfl, ?_⟩
          refine W.cast (m' := m4) (l' := hownT 5 1 encY v19 _ :: hownT 5 1 encY v21 _ :: l) rfl rfl ?_
          refine W.q rfl rfl rfl rfl (by decide) (Yd.as rfl (.t rfl)) ?_
          refine W.end ?_
          refine NX.sub (env' := [(0, _), (10, _), (12, _)]) ⟨rfl, rfl, rfl, trivial⟩ ?_
          refine NX.drop (l' := hownT 5 1 encY v21 _ :: l) (.cons _ (.cons_cons _ (.refl _))) ?_
          refine NX.then ?_
          refine Tr.seq ?_
          refine Tr.region_f (fun _ => false) ?_
          refine W.q rfl rfl rfl rfl (by decide) (Yd.as rfl .c) ?_
          refine W.end ?_
          refine NX.sub (env' := [(0, _), (10, _), (12, _), (15, _)]) ⟨rfl, rfl, rfl, rfl, trivial⟩ ?_
          refine NX.then ?_
          refine Tr.seq ?_
          refine Tr.seq ?_
          refine Tr.region_f (fun _ => false) ?_
          refine W.q rfl rfl rfl rfl (by decide) (Yd.mv rfl (.t rfl)) ?_
          refine W.q rfl rfl rfl rfl (by decide) (Yd.mv rfl .c) ?_
          refine W.end ?_
          refine NX.sub (env' := [(10, _), (12, _), (15, _), (57, _), (58, _)]) ⟨rfl, rfl, rfl, rfl, rfl, trivial⟩ ?_
          refine NX.then ?_
          refine Tr.addnil 34 1 ?_
          refine Tr.join (S := fun env x => ∃ l36 : List (List Int), ∃ m40 : Snap, ∃ v37 : Value, ∃ us38 : List Value, Sle m4 m40 ∧ Rows rI m40 us38 l36 ∧ env = [(15, v37)] ∧ x = ⟨m40, hown 34 1 v37 l36.length us38 :: l⟩ ∧ share_Deal_k41 l36 = some r) ?_ (fun hk42 => ?_)
          · rintro _ _ ⟨l36, m40, v37, us38, hsm40, hw39, rfl, rfl, hr⟩
            unfold share_Deal_k41 at hr
            try dsimp only at hr
            have hsets_1 := hsets_1.mono hsm40
            have hdice_3 := hdice_3.mono hsm40
            have hu5 := hu5.mono hsm40
            refine NX.then ?_
            refine Tr.seq ?_
            refine Tr.region_f (fun _ => false) ?_
            refine W.q rfl rfl rfl rfl (by decide) (Yd.mv rfl (.t rfl)) ?_
            refine W.q rfl rfl rfl rfl (by decide) (Yd.as rfl (.t rfl)) ?_
            refine W.q rfl rfl rfl rfl (by decide) (Yd.as rfl .c) ?_
            refine W.end ?_
            refine NX.sub (env' := [(8, _), (9, _)]) ⟨rfl, rfl, trivial⟩ ?_
            refine NX.then ?_
            refine Tr.ret' ?_
            refine res2 rfl rfl rfl ?_
            intro w hc
            cases hr
            obtain ⟨m43, hsm43, hu44, hc⟩ := cX_freezeR (p := 0) hc hw39 rfl
            have hsets_1 := hsets_1.mono hsm43
            have hdice_3 := hdice_3.mono hsm43
            have hu5 := hu5.mono hsm43
            have hw39 := hw39.mono hsm43
            exact ⟨_, _, rfl, ((hsm4.trans hsm40).trans hsm43), hu44, hc⟩
          obtain ⟨hle45, hr⟩ := guard_some hr; replace hle45 := of_decide_eq_true hle45
          refine Tr.block ?_
          refine Tr.sub (env' := [(10, _), (12, _), (15, _), (57, _), (58, _)]) ⟨rfl, rfl, rfl, rfl, rfl, trivial⟩ ?_
          refine Tr.loop (S := fun n (z : Int × (List (List Int))) env x => match z with | (t_46, l31) => ∃ m35 : Snap, ∃ v32 : Value, ∃ us33 : List Value, Sle m4 m35 ∧ Rows rI m35 us33 l31 ∧ env = [(10, u3), (12, v21), (15, v32), (57, .int .i64 n_0), (58, .int .i64 t_46)] ∧ x = ⟨m35, hown 34 1 v32 l31.length us33 :: hownT 5 1 encY v21 ((r8 ++ ([secret_16] : List (BitVec 8)))) :: l⟩ ∧ n = (n_0 - t_46).toNat ∧ 0 ≤ t_46 ∧ forK (σ := (List (List Int))) (fun i s nx_ => share_Deal_b47 fuel r1 r8 secret_16 i s nx_) (fun s => share_Deal_k41 s) n t_46 l31 = some r) _ ((0 : Int), ([] : List (List Int))) ⟨_, _, _, (.refl _), (Rows.nil _ _), rfl, rfl, rfl, (by omega), hr⟩ ?_
          rintro n49 ⟨t_46, l31⟩ env x ⟨m35, v32, us33, hsm35, hw34, rfl, rfl, hnt_46, h0t_46, hr⟩
          have hsets_1 := hsets_1.mono hsm35
          have hdice_3 := hdice_3.mono hsm35
          have hu5 := hu5.mono hsm35
          cases n49 with
          | zero =>
            simp only [forK] at hr
            refine Tr.seq ?_
            refine Tr.region_f (fun _ => false) ?_
            refine W.q rfl rfl rfl rfl (by decide) (Yd.lss rfl (.t rfl) (.t rfl)) ?_
            refine W.end ?_
            refine NX.sub (env' := [(10, _), (12, _), (15, _), (57, _), (58, _), (59, _)]) ⟨rfl, rfl, rfl, rfl, rfl, rfl, trivial⟩ ?_
            refine NX.then ?_
            refine Tr.seq ?_
            refine Tr.cond (.t rfl) (fun hb => ?_) (fun hb => ?_)
            · exact absurd (hb.symm.trans (fr_end hnt_46)) (by decide)
            ·
              refine Tr.exit' (EX.then (EX.then (EX.block ?_)))
              refine NX.sub (env' := [(15, _)]) ⟨rfl, trivial⟩ ?_
              refine NX.drop (l' := hown 34 1 v32 _ _ :: l) (.cons_cons _ (.cons _ (.refl _))) ?_
              exact hk42 _ _ ⟨_, _, _, _, hsm35, hw34, rfl, rfl, hr⟩
          | succ n49 =>
            obtain ⟨nx48, hnx48, hr⟩ := forK_succ hr
            try dsimp only at hr
            unfold share_Deal_b47 at hr
            try dsimp only at hr
            have hltt_46 := fr_bnd hnt_46
            refine Tr.seq ?_
            refine Tr.region_f (fun _ => false) ?_
            refine W.q rfl rfl rfl rfl (by decide) (Yd.lss rfl (.t rfl) (.t rfl)) ?_
            refine W.end ?_
            refine NX.sub (env' := [(10, _), (12, _), (15, _), (57, _), (58, _), (59, _)]) ⟨rfl, rfl, rfl, rfl, rfl, rfl, trivial⟩ ?_
            refine NX.then ?_
            refine Tr.seq ?_
            refine Tr.cond (.t rfl) (fun hb => ?_) (fun hb => ?_)
            rotate_left
            · exact absurd (hb.symm.trans (fr_go hnt_46)) (by decide)
            ·
              refine Tr.skip' ?_
              refine NX.then ?_
              refine Tr.seq ?_
              refine Tr.block ?_
              refine Tr.seq ?_
              refine Tr.region_f (fun _ => false) ?_
              refine W.q rfl rfl rfl rfl (by decide) (Yd.mv rfl (.t rfl)) ?_
              refine W.q rfl rfl rfl rfl (by decide) (Yd.as rfl (.t rfl)) ?_
              refine W.end ?_
              refine NX.sub (env' := [(10, _), (12, _), (15, _), (57, _), (58, _), (16, _)]) ⟨rfl, rfl, rfl, rfl, rfl, rfl, trivial⟩ ?_
              refine NX.then ?_
              refine Tr.seq ?_
              obtain ⟨r52, hr53, hr⟩ := bind_some hr
              refine Tr.region_f (fun i => Nat.beq i 0 || Nat.beq i 3) ?_
              refine W.e rfl rfl rfl rfl (by decide) (Ef.bsT (enc := encI) (vs := [_]) (ys := [(-1 : Int)]) (fun _ => rfl) IF3 rfl Try.underlying34 (by decide) rfl (.cons .c .nil) rfl rfl (by decide)) ?_
              rintro v50 _ rfl
              refine ⟨.inl rfl, ?_⟩
              refine W.cast (m' := m35) (l' := hownT 3 1 encI v50 _ :: hown 34 1 v32 _ _ :: hownT 5 1 encY v21 _ :: l) rfl rfl ?_
              refine W.q rfl rfl rfl rfl (by decide) (Yd.mv rfl (.t rfl)) ?_
              refine W.q rfl rfl rfl rfl (by decide) (Yd.lenR hu5 rfl Try.underlying22 (.t rfl)) ?_
              refine W.e rfl rfl rfl rfl (by decide) (Ef.call (R := fun z x' => ∃ v54 : Value, z = v54 ∧ x' = ⟨m35, hownT 3 1 encI v54 r52 :: hownT 3 1 encI v50 (([(-1 : Int)] : List Int)) :: hown 34 1 v32 l31.length us33 :: hownT 5 1 encY v21 ((r8 ++ ([secret_16] : List (BitVec 8)))) :: l⟩) rfl Try.func31 rfl rfl (.cons (.t rfl) (.cons (.t rfl) .nil)) (by intro w hw; obtain ⟨m2, hm2, hc2, ⟨L2, hl1, hl2⟩, hback⟩ := cX_lend (p := 0) hw rfl lone_own; have hL1 : RS rI m2 _ _ := RS_of_own hl1 hl2; exact (slices_Repeat_Sintint_ok w0 m2 _ fuel _ _ hL1 ((r1.1.length : Int)) _ hr53 w hc2).mono fun e w' ⟨v54, he, hc'⟩ => ⟨_, _, he, ⟨v54, rfl, rfl⟩, (hback m2 _ 1 w' (.refl _) rfl).2 hc'⟩)) ?_
              rintro v54 _ ⟨_, rfl, rfl⟩
              refine ⟨.inl rfl, ?_⟩
              refine W.cast (m' := m35) (l' := hownT 3 1 encI v54 _ :: hownT 3 1 encI v50 _ :: hown 34 1 v32 _ _ :: hownT 5 1 encY v21 _ :: l) rfl rfl ?_
              refine W.q rfl rfl rfl rfl (by decide) (Yd.as rfl (.t rfl)) ?_
              refine W.end ?_
              refine NX.sub (env' := [(10, _), (12, _), (15, _), (57, _), (58, _), (16, _), (17, _)]) ⟨rfl, rfl, rfl, rfl, rfl, rfl, rfl, trivial⟩ ?_
              refine NX.drop (l' := hownT 3 1 encI v54 _ :: hown 34 1 v32 _ _ :: hownT 5 1 encY v21 _ :: l) (.cons_cons _ (.cons _ (.cons_cons _ (.cons_cons _ (.refl _))))) ?_
              refine NX.then ?_
              refine Tr.seq ?_
              refine Tr.seq ?_
              refine Tr.region_f (fun _ => false) ?_
              refine W.q rfl rfl rfl rfl (by decide) (Yd.mv rfl (.t rfl)) ?_
              refine W.q rfl rfl rfl rfl (by decide) (Yd.lenR hu5 rfl Try.underlying22 (.t rfl)) ?_
              refine W.q rfl rfl rfl rfl (by decide) (Yd.mv rfl .c) ?_
              refine W.end ?_
              refine NX.sub (env' := [(10, _), (12, _), (15, _), (57, _), (58, _), (16, _), (17, _), (65, _), (66, _), (67, _)]) ⟨rfl, rfl, rfl, rfl, rfl, rfl, rfl, rfl, rfl, rfl, trivial⟩ ?_
              refine NX.then ?_
              refine Tr.join (S := fun env x => ∃ l62 : List Int, ∃ v63 : Value, env = [(10, u3), (12, v21), (15, v32), (57, .int .i64 n_0), (58, .int .i64 t_46), (17, v63)] ∧ x = ⟨m35, hownT 3 1 encI v63 l62 :: hown 34 1 v32 l31.length us33 :: hownT 5 1 encY v21 ((r8 ++ ([secret_16] : List (BitVec 8)))) :: l⟩ ∧ share_Deal_k64 l31 nx48 l62 = some r) ?_ (fun hk65 => ?_)
              · rintro _ _ ⟨l62, v63, rfl, rfl, hr⟩
                unfold share_Deal_k64 at hr
                try dsimp only at hr
                refine NX.then ?_
                refine Tr.freezeT (enc := encI) (n := 1) (pos := 0) (xs := l62) (fun _ => rfl) rfl (fun m66 hsm66 hu67 => ?_)
                have hsets_1 := hsets_1.mono hsm66
                have hdice_3 := hdice_3.mono hsm66
                have hu5 := hu5.mono hsm66
                have hw34 := hw34.mono hsm66
                refine Tr.cast (m' := m66) (l' := hown 34 1 v32 _ _ :: hownT 5 1 encY v21 _ :: l) rfl rfl ?_
                obtain ⟨hq71, hr⟩ := guard_some hr; replace hq71 := of_decide_eq_true hq71
                refine Tr.region_f (fun i => Nat.beq i 2 || Nat.beq i 3) ?_
                refine W.q rfl rfl rfl rfl (by decide) (Yd.mv rfl (.t rfl)) ?_
                refine W.q rfl rfl rfl rfl (by decide) (Yd.mv rfl (.t rfl)) ?_
                refine W.e rfl rfl rfl rfl (by decide) (Ef.bsR hu67 IF34 rfl Try.underlying30 (.cons (.t rfl) .nil)) ?_
                rintro v68 _ rfl
                refine ⟨.inl rfl, ?_⟩
                refine W.cast (m' := m66) (l' := hown 34 1 v68 _ _ :: hown 34 1 v32 _ _ :: hownT 5 1 encY v21 _ :: l) rfl rfl ?_
                refine W.e rfl rfl rfl rfl (by decide) (Ef.apR (pos := 1) (pos2 := 0) IF34 rfl hu67 rfl rfl Try.underlying30 rfl (.t rfl) (.t rfl) (by omega) (by omega)) ?_
                rintro v70 _ rfl
                refine ⟨.inl rfl, ?_⟩
                refine W.cast (m' := m66) (l' := hown 34 1 v68 _ _ :: hown 34 1 v70 _ _ :: hownT 5 1 encY v21 _ :: l) rfl rfl ?_
                refine W.q rfl rfl rfl rfl (by decide) (Yd.as rfl (.t rfl)) ?_
                refine W.end ?_
                refine NX.sub (env' := [(10, _), (12, _), (15, _), (57, _), (58, _)]) ⟨rfl, rfl, rfl, rfl, rfl, trivial⟩ ?_
                refine NX.drop (l' := hown 34 1 v70 _ _ :: hownT 5 1 encY v21 _ :: l) (.cons _ (.cons_cons _ (.cons_cons _ (.refl _)))) ?_
                refine NX.block ?_
                refine NX.then ?_
                refine Tr.region_f (fun _ => false) ?_
                refine W.q rfl rfl rfl rfl (by decide) (Yd.add rfl (.t rfl) .c) ?_
                refine W.q rfl rfl rfl rfl (by decide) (Yd.mv rfl (.t rfl)) ?_
                refine W.end ?_
                refine NX.sub (env' := [(10, _), (12, _), (15, _), (57, _), (58, _)]) ⟨rfl, rfl, rfl, rfl, rfl, trivial⟩ ?_
                refine NX.sub (env' := [(10, _), (12, _), (15, _), (57, _), (58, _)]) ⟨rfl, rfl, rfl, rfl, rfl, trivial⟩ ?_
                have hw := w64_id (n := t_46 + 1) (by omega) (by omega)
                exact NX.again n49 (t_46 + 1, (l31 ++ [l62])) (Nat.lt_succ_self _) ⟨_, _, _, (hsm35.trans hsm66), (Rows.snoc hw34 hu67), (by rw [hw] <;> rfl), rfl, (fr_dec hnt_46), (by omega), ((hnx48 _).symm.trans hr)⟩
              have hlen72 := (hu5).2.1
              refine Tr.block ?_
              refine Tr.sub (env' := [(10, _), (12, _), (15, _), (16, _), (17, _), (57, _), (58, _), (65, _), (66, _), (67, _)]) ⟨rfl, rfl, rfl, rfl, rfl, rfl, rfl, rfl, rfl, rfl, trivial⟩ ?_
              refine Tr.loop (S := fun n (z : Int × (List Int)) env x => match z with | (t_73, l60) => ∃ v61 : Value, env = [(10, u3), (12, v21), (15, v32), (16, .int .i64 t_46), (17, v61), (57, .int .i64 n_0), (58, .int .i64 t_46), (65, u3), (66, .int .i64 ((r1.1.length : Int))), (67, .int .i64 t_73)] ∧ x = ⟨m35, hownT 3 1 encI v61 l60 :: hown 34 1 v32 l31.length us33 :: hownT 5 1 encY v21 ((r8 ++ ([secret_16] : List (BitVec 8)))) :: l⟩ ∧ n = ((r1.1.length : Int) - t_73).toNat ∧ 0 ≤ t_73 ∧ forK (σ := (List Int)) (fun i s nx_ => share_Deal_b74 r1 r8 secret_16 t_46 i s nx_) (fun s => share_Deal_k64 l31 nx48 s) n t_73 l60 = some r) _ ((0 : Int), r52) ⟨_, rfl, rfl, rfl, (by omega), hr⟩ ?_
              rintro n76 ⟨t_73, l60⟩ env x ⟨v61, rfl, rfl, hnt_73, h0t_73, hr⟩
              cases n76 with
              | zero =>
                simp only [forK] at hr
                refine Tr.seq ?_
                refine Tr.region_f (fun _ => false) ?_
                refine W.q rfl rfl rfl rfl (by decide) (Yd.lss rfl (.t rfl) (.t rfl)) ?_
                refine W.end ?_
                refine NX.sub (env' := [(10, _), (12, _), (15, _), (16, _), (17, _), (57, _), (58, _), (65, _), (66, _), (67, _), (68, _)]) ⟨rfl, rfl, rfl, rfl, rfl, rfl, rfl, rfl, rfl, rfl, rfl, trivial⟩ ?_
                refine NX.then ?_
                refine Tr.seq ?_
                refine Tr.cond (.t rfl) (fun hb => ?_) (fun hb => ?_)
                · exact absurd (hb.symm.trans (fr_end hnt_73)) (by decide)
                ·
                  refine Tr.exit' (EX.then (EX.then (EX.block ?_)))
                  refine NX.sub (env' := [(10, _), (12, _), (15, _), (57, _), (58, _), (17, _)]) ⟨rfl, rfl, rfl, rfl, rfl, rfl, trivial⟩ ?_
                  exact hk65 _ _ ⟨_, _, rfl, rfl, hr⟩
              | succ n76 =>
                obtain ⟨nx75, hnx75, hr⟩ := forK_succ hr
                try dsimp only at hr
                unfold share_Deal_b74 at hr
                try dsimp only at hr
                have hltt_73 := fr_bnd hnt_73
                refine Tr.seq ?_
                refine Tr.region_f (fun _ => false) ?_
                refine W.q rfl rfl rfl rfl (by decide) (Yd.lss rfl (.t rfl) (.t rfl)) ?_
                refine W.end ?_
                refine NX.sub (env' := [(10, _), (12, _), (15, _), (16, _), (17, _), (57, _), (58, _), (65, _), (66, _), (67, _), (68, _)]) ⟨rfl, rfl, rfl, rfl, rfl, rfl, rfl, rfl, rfl, rfl, rfl, trivial⟩ ?_
                refine NX.then ?_
                refine Tr.seq ?_
                refine Tr.cond (.t rfl) (fun hb => ?_) (fun hb => ?_)
                rotate_left
                · exact absurd (hb.symm.trans (fr_go hnt_73)) (by decide)
                ·
                  refine Tr.skip' ?_
                  refine NX.then ?_
                  refine Tr.seq ?_
                  refine Tr.block ?_
                  refine Tr.seq ?_
                  obtain ⟨y77, hy78, hr⟩ := bind_some hr
                  refine Tr.region_f (fun _ => false) ?_
                  refine W.q rfl rfl rfl rfl (by decide) (Yd.mv rfl (.t rfl)) ?_
                  refine W.q rfl rfl rfl rfl (by decide) (Yd.idxR hu5 hy78 rfl Try.underlying22 SZ31 (.t rfl) (.t rfl)) ?_
                  refine W.q rfl rfl rfl rfl (by decide) (Yd.ldF hu5 (.refl _) hy78 rfl rfl ON31 (.t rfl)) ?_
                  refine W.q rfl rfl rfl rfl (by decide) (Yd.as rfl (.t rfl)) ?_
                  refine W.q rfl rfl rfl rfl (by decide) (Yd.as rfl (.t rfl)) ?_
                  refine W.end ?_
                  refine NX.sub (env' := [(10, _), (12, _), (15, _), (16, _), (17, _), (57, _), (58, _), (65, _), (66, _), (67, _), (18, _), (19, _)]) ⟨rfl, rfl, rfl, rfl, rfl, rfl, rfl, rfl, rfl, rfl, rfl, rfl, trivial⟩ ?_
                  refine NX.then ?_
                  refine Tr.seq ?_
                  refine Tr.region_f (fun _ => false) ?_
                  refine W.q rfl rfl rfl rfl (by decide) (Yd.mv rfl (.t rfl)) ?_
                  refine W.q rfl rfl rfl rfl (by decide) (Yd.mv rfl (.t rfl)) ?_
                  refine W.q rfl rfl rfl rfl (by decide) (Yd.shrU (a := y77) rfl (.t rfl) (.t rfl) h0t_46) ?_
                  refine W.q rfl rfl rfl rfl (by decide) (Yd.andU (a := (y77 >>> t_46.toNat)) (b := 1#32) rfl (.t rfl) .c) ?_
                  refine W.q rfl rfl rfl rfl (by decide) (Yd.eqlU (a := ((y77 >>> t_46.toNat) &&& 1#32)) (b := 0#32) rfl (.t rfl) .c) ?_
                  refine W.end ?_
                  refine NX.sub (env' := [(10, _), (12, _), (15, _), (16, _), (17, _), (57, _), (58, _), (65, _), (66, _), (67, _), (18, _), (76, _)]) ⟨rfl, rfl, rfl, rfl, rfl, rfl, rfl, rfl, rfl, rfl, rfl, rfl, trivial⟩ ?_
                  refine NX.then ?_
                  refine Tr.cond (.t rfl) (fun hb => ?_) (fun hb => ?_)
                  · have hr := cond_t hb hr
                    obtain ⟨y79, hy80, hr⟩ := bind_some hr
                    obtain ⟨y81, hy82, hr⟩ := bind_some hr
                    refine Tr.region_f (fun i => Nat.beq i 8) ?_
                    refine W.q rfl rfl rfl rfl (by decide) (Yd.mv rfl (.t rfl)) ?_
                    refine W.q rfl rfl rfl rfl (by decide) (Yd.mv rfl (.t rfl)) ?_
                    refine W.q rfl rfl rfl rfl (by decide) (Yd.mv rfl (.t rfl)) ?_
                    refine W.q rfl rfl rfl rfl (by decide) (Yd.mv rfl (.t rfl)) ?_
                    refine W.q rfl rfl rfl rfl (by decide) (Yd.idxT (pos := 2) rfl hy80 rfl Try.underlying39 SZ5 (.t rfl) (.t rfl)) ?_
                    refine W.q rfl rfl rfl rfl (by decide) (Yd.ldT (enc := encY) (n := 1) (pos := 2) (fun _ => rfl) rfl hy80 rfl rfl ON5 (.t rfl)) ?_
                    refine W.q rfl rfl rfl rfl (by decide) (Yd.cvBI (a := y79) rfl US5 Try.underlying3 (.t rfl)) ?_
                    refine W.q rfl rfl rfl rfl (by decide) (Yd.idxT (pos := 0) rfl hy82 rfl Try.underlying34 SZ3 (.t rfl) (.t rfl)) ?_
                    refine W.s rfl rfl rfl rfl (Ef.stT (enc := encI) (n := 1) (pos := 0) (y := (y79.toNat : Int)) (us := [_]) (fun _ => rfl) rfl hy82 rfl (.t rfl) (.t rfl) SZ3 rfl rfl rfl (by decide)) ?_
                    rintro _ _ ⟨rfl, rfl⟩
                    refine ⟨.inl rfl, ?_⟩
                    refine W.cast (m' := m35) (l' := hownT 3 1 encI v61 _ :: hown 34 1 v32 _ _ :: hownT 5 1 encY v21 _ :: l) rfl rfl ?_
                    refine W.end ?_
                    refine NX.sub (env' := [(10, _), (12, _), (15, _), (16, _), (17, _), (57, _), (58, _), (65, _), (66, _), (67, _)]) ⟨rfl, rfl, rfl, rfl, rfl, rfl, rfl, rfl, rfl, rfl, trivial⟩ ?_
                    refine NX.block ?_
                    refine NX.then ?_
                    refine Tr.region_f (fun _ => false) ?_
                    refine W.q rfl rfl rfl rfl (by decide) (Yd.add rfl (.t rfl) .c) ?_
                    refine W.q rfl rfl rfl rfl (by decide) (Yd.mv rfl (.t rfl)) ?_
                    refine W.end ?_
                    refine NX.sub (env' := [(10, _), (12, _), (15, _), (16, _), (17, _), (57, _), (58, _), (65, _), (66, _), (67, _)]) ⟨rfl, rfl, rfl, rfl, rfl, rfl, rfl, rfl, rfl, rfl, trivial⟩ ?_
                    refine NX.sub (env' := [(10, _), (12, _), (15, _), (16, _), (17, _), (57, _), (58, _), (65, _), (66, _), (67, _)]) ⟨rfl, rfl, rfl, rfl, rfl, rfl, rfl, rfl, rfl, rfl, trivial⟩ ?_
                    have hw := w64_id (n := t_73 + 1) (by omega) (by omega)
                    exact NX.again n76 (t_73 + 1, (l60.set t_73.toNat ((y79.toNat : Int)))) (Nat.lt_succ_self _) ⟨_, (by rw [hw] <;> rfl), rfl, (fr_dec hnt_73), (by omega), ((hnx75 _).symm.trans hr)⟩
                  · have hr := cond_f hb hr
                    refine Tr.skip' ?_
                    refine NX.block ?_
                    refine NX.then ?_
                    refine Tr.region_f (fun _ => false) ?_
                    refine W.q rfl rfl rfl rfl (by decide) (Yd.add rfl (.t rfl) .c) ?_
                    refine W.q rfl rfl rfl rfl (by decide) (Yd.mv rfl (.t rfl)) ?_
                    refine W.end ?_
                    refine NX.sub (env' := [(10, _), (12, _), (15, _), (16, _), (17, _), (57, _), (58, _), (65, _), (66, _), (67, _)]) ⟨rfl, rfl, rfl, rfl, rfl, rfl, rfl, rfl, rfl, rfl, trivial⟩ ?_
                    refine NX.sub (env' := [(10, _), (12, _), (15, _), (16, _), (17, _), (57, _), (58, _), (65, _), (66, _), (67, _)]) ⟨rfl, rfl, rfl, rfl, rfl, rfl, rfl, rfl, rfl, rfl, trivial⟩ ?_
                    have hw := w64_id (n := t_73 + 1) (by omega) (by omega)
                    exact NX.again n76 (t_73 + 1, l60) (Nat.lt_succ_self _) ⟨_, (by rw [hw] <;> rfl), rfl, (fr_dec hnt_73), (by omega), ((hnx75 _).symm.trans hr)⟩
        have hlen83 := (hdice_3).2.1
        refine Tr.block ?_
        refine Tr.sub (env' := [(0, _), (2, _), (10, _), (12, _), (43, _), (44, _), (45, _)]) ⟨rfl, rfl, rfl, rfl, rfl, rfl, rfl, trivial⟩ ?_
        refine Tr.loop (S := fun n (z : Int × (BitVec 8)) env x => match z with | (t_84, secret_14) => env = [(0, .int .i64 n_0), (2, .int .u8 (secret_14.toNat : Int)), (10, u3), (12, v10), (43, udice_3), (44, .int .i64 ((dice_3.length : Int))), (45, .int .i64 t_84)] ∧ x = ⟨m4, hownT 5 1 encY v10 r8 :: l⟩ ∧ n = ((dice_3.length : Int) - t_84).toNat ∧ 0 ≤ t_84 ∧ forK (σ := (BitVec 8)) (fun i s nx_ => share_Deal_b85 dice_3 i s nx_) (fun s => share_Deal_k17 n_0 fuel r1 r8 s) n t_84 secret_14 = some r) _ ((0 : Int), secret_2) ⟨rfl, rfl, rfl, (by omega), hr⟩ ?_
        rintro n87 ⟨t_84, secret_14⟩ env x ⟨rfl, rfl, hnt_84, h0t_84, hr⟩
        cases n87 with
        | zero =>
          simp only [forK] at hr
          refine Tr.seq ?_
          refine Tr.region_f (fun _ => false) ?_
          refine W.q rfl rfl rfl rfl (by decide) (Yd.lss rfl (.t rfl) (.t rfl)) ?_
          refine W.end ?_
          refine NX.sub (env' := [(0, _), (2, _), (10, _), (12, _), (43, _), (44, _), (45, _), (46, _)]) ⟨rfl, rfl, rfl, rfl, rfl, rfl, rfl, rfl, trivial⟩ ?_
          refine NX.then ?_
          refine Tr.seq ?_
          refine Tr.cond (.t rfl) (fun hb => ?_) (fun hb => ?_)
          · exact absurd (hb.symm.trans (fr_end hnt_84)) (by decide)
          ·
            refine Tr.exit' (EX.then (EX.then (EX.block ?_)))
            refine NX.sub (env' := [(0, _), (2, _), (10, _), (12, _)]) ⟨rfl, rfl, rfl, rfl, trivial⟩ ?_
            exact hk18 _ _ ⟨_, rfl, rfl, hr⟩
        | succ n87 =>
          obtain ⟨nx86, hnx86, hr⟩ := forK_succ hr
          try dsimp only at hr
          unfold share_Deal_b85 at hr
          try dsimp only at hr
          have hltt_84 := fr_bnd hnt_84
          refine Tr.seq ?_
          refine Tr.region_f (fun _ => false) ?_
          refine W.q rfl rfl rfl rfl (by decide) (Yd.lss rfl (.t rfl) (.t rfl)) ?_
          refine W.end ?_
          refine NX.sub (env' := [(0, _), (2, _), (10, _), (12, _), (43, _), (44, _), (45, _), (46, _)]) ⟨rfl, rfl, rfl, rfl, rfl, rfl, rfl, rfl, trivial⟩ ?_
          refine NX.then ?_
          refine Tr.seq ?_
          refine Tr.cond (.t rfl) (fun hb => ?_) (fun hb => ?_)
          rotate_left
          · exact absurd (hb.symm.trans (fr_go hnt_84)) (by decide)
          ·
            refine Tr.skip' ?_
            refine NX.then ?_
            refine Tr.seq ?_
            refine Tr.block ?_
            refine Tr.seq ?_
            obtain ⟨y88, hy89, hr⟩ := bind_some hr
            refine Tr.region_f (fun _ => false) ?_
            refine W.q rfl rfl rfl rfl (by decide) (Yd.idxR hdice_3 hy89 rfl Try.underlying39 SZ5 (.t rfl) (.t rfl)) ?_
            refine W.q rfl rfl rfl rfl (by decide) (Yd.ldF hdice_3 (.refl _) hy89 rfl rfl ON5 (.t rfl)) ?_
            refine W.q rfl rfl rfl rfl (by decide) (Yd.as rfl (.t rfl)) ?_
            refine W.end ?_
            refine NX.sub (env' := [(0, _), (2, _), (10, _), (12, _), (43, _), (44, _), (45, _), (14, _)]) ⟨rfl, rfl, rfl, rfl, rfl, rfl, rfl, rfl, trivial⟩ ?_
            refine NX.then ?_
            refine Tr.region_f (fun _ => false) ?_
            refine W.q rfl rfl rfl rfl (by decide) (Yd.mv rfl (.t rfl)) ?_
            refine W.q rfl rfl rfl rfl (by decide) (Yd.mv rfl (.t rfl)) ?_
            refine W.q rfl rfl rfl rfl (by decide) (Yd.xorY (a := secret_14) (b := y88) rfl (.t rfl) (.t rfl)) ?_
            refine W.q rfl rfl rfl rfl (by decide) (Yd.as rfl (.t rfl)) ?_
            refine W.end ?_
            refine NX.sub (env' := [(0, _), (2, _), (10, _), (12, _), (43, _), (44, _), (45, _)]) ⟨rfl, rfl, rfl, rfl, rfl, rfl, rfl, trivial⟩ ?_
            refine NX.block ?_
            refine NX.then ?_
            refine Tr.region_f (fun _ => false) ?_
            refine W.q rfl rfl rfl rfl (by decide) (Yd.add rfl (.t rfl) .c) ?_
            refine W.q rfl rfl rfl rfl (by decide) (Yd.mv rfl (.t rfl)) ?_
            refine W.end ?_
            refine NX.sub (env' := [(0, _), (2, _), (10, _), (12, _), (43, _), (44, _), (45, _)]) ⟨rfl, rfl, rfl, rfl, rfl, rfl, rfl, trivial⟩ ?_
            refine NX.sub (env' := [(0, _), (2, _), (10, _), (12, _), (43, _), (44, _), (45, _)]) ⟨rfl, rfl, rfl, rfl, rfl, rfl, rfl, trivial⟩ ?_
            have hw := w64_id (n := t_84 + 1) (by omega) (by omega)
            exact NX.again n87 (t_84 + 1, (secret_14 ^^^ y88)) (Nat.lt_succ_self _) ⟨(by rw [hw] <;> rfl), rfl, (fr_dec hnt_84), (by omega), ((hnx86 _).symm.trans hr)⟩

def syllogistref_Fits (n_0 : Int) (s_1 : (BitVec 32)) : Option (Bool) :=
  some (((decide (n_0 ≥ (32 : Int))) || ((decide (n_0 ≥ (0 : Int))) && (decide (s_1 < (1#32 <<< ((BitVec.ofInt 64 n_0)).toNat))))))

set_option maxRecDepth 100000 in
set_option maxHeartbeats 4000000 in
theorem syllogistref_Fits_ok (w0 : World) (m : Snap) (l : List HI) (n_0 : Int) (s_1 : (BitVec 32)) (r : Bool) (hr : syllogistref_Fits n_0 s_1 = some r) (w : World) (hc : cX w0 ⟨m, l⟩ w) :
    Calls Try.prog 13 [.int .i64 n_0, .int .u32 (s_1.toNat : Int)].toArray w fun e w' => e = .returned (.bool r) ∧ cX w0 ⟨m, l⟩ w' := by
  unfold syllogistref_Fits at hr
  refine calls_of_Tr (N := 18) Try.func13 rfl hc rfl (Nat.le_of_ble_eq_true rfl) ?_
  refine Tr.seq ?_
  refine Tr.region_f (fun _ => false) ?_
  refine W.q rfl rfl rfl rfl (by decide) (Yd.as rfl .c) ?_
  refine W.end ?_
  refine NX.sub (env' := [(0, _), (1, _)]) ⟨rfl, rfl, trivial⟩ ?_
  refine NX.then ?_
  refine Tr.seq ?_
  refine Tr.region_f (fun _ => false) ?_
  refine W.q rfl rfl rfl rfl (by decide) (Yd.mv rfl (.t rfl)) ?_
  refine W.q rfl rfl rfl rfl (by decide) (Yd.geq rfl (.t rfl) .c) ?_
  refine W.q rfl rfl rfl rfl (by decide) (Yd.mv rfl (.t rfl)) ?_
  refine W.g rfl rfl rfl rfl rfl (.t rfl _) rfl (by decide) (fun hG => Yd.mv rfl (.t rfl)) ?_
  refine W.g rfl rfl rfl rfl rfl (.t rfl _) rfl (by decide) (fun hG => Yd.geq rfl (.g rfl hG) .c) ?_
  refine W.g rfl rfl rfl rfl rfl (.t rfl _) rfl (by decide) (fun hG => Yd.mv rfl (.g rfl hG)) ?_
  refine W.g rfl rfl rfl rfl rfl (.g rfl _) rfl (by decide) (fun hG => Yd.mv rfl (.t rfl)) ?_
  refine W.g rfl rfl rfl rfl rfl (.g rfl _) rfl (by decide) (fun hG => Yd.mv rfl (.t rfl)) ?_
  refine W.g rfl rfl rfl rfl rfl (.g rfl _) rfl (by decide) (fun hG => Yd.cvQ rfl US3 Try.underlying56 (.g rfl hG)) ?_
  refine W.g rfl rfl rfl rfl rfl (.g rfl _) rfl (by decide) (fun hG => Yd.shlU (a := 1#32) rfl .c (.g rfl hG) (Int.natCast_nonneg _)) ?_
  refine W.g rfl rfl rfl rfl rfl (.g rfl _) rfl (by decide) (fun hG => Yd.lssU (a := s_1) (b := (1#32 <<< ((BitVec.ofInt 64 n_0)).toNat)) rfl (.g rfl hG) (.g rfl hG)) ?_
  refine W.g rfl rfl rfl rfl rfl (.t rfl _) rfl (by decide) (fun hG => Yd.andG rfl (.g rfl hG) .c rfl rfl hG) ?_
  refine W.q rfl rfl rfl rfl (by decide) (Yd.or rfl (.t rfl) .c rfl rfl) ?_
  refine W.q rfl rfl rfl rfl (by decide) (Yd.as rfl (.t rfl)) ?_
  refine W.end ?_
  refine NX.sub (env' := [(4, _)]) ⟨rfl, trivial⟩ ?_
  refine NX.then ?_
  refine Tr.ret' ?_
  refine res1 rfl rfl ?_
  intro w hc
  cases hr
  exact ⟨rfl, hc⟩

def syllogistref_SetsCheck_k3 : Option (Int) :=
  some ((0 : Int))

def syllogistref_SetsCheck_b7 (n_0 : Int) (sets_1 : List (BitVec 32)) (t_6 : Int) (nx8 : Unit → Option (Int)) : Option (Int) :=
  (geti sets_1 t_6).bind fun y10 =>
  (syllogistref_Fits n_0 y10).bind fun r12 =>
  (bif (!r12) then
  some ((4 : Int))
  else
  nx8 ())

def syllogistref_SetsCheck (n_0 : Int) (sets_1 : List (BitVec 32)) : Option (Int) :=
  (bif (((decide (n_0 < (1 : Int))) || (decide (n_0 > (6 : Int)))) || (decide ((sets_1.length : Int) > (10 : Int)))) then
  some ((1 : Int))
  else
  forK (σ := Unit) (fun i s nx_ => syllogistref_SetsCheck_b7 n_0 sets_1 i nx_) (fun _ => syllogistref_SetsCheck_k3) ((sets_1.length : Int) - (0 : Int)).toNat (0 : Int) ())

set_option maxRecDepth 100000 in
set_option maxHeartbeats 4000000 in
theorem syllogistref_SetsCheck_ok (w0 : World) (m : Snap) (l : List HI) (n_0 : Int) (usets_1 : Value) (sets_1 : List (BitVec 32)) (hsets_1 : RS rU m usets_1 sets_1) (r : Int) (hr : syllogistref_SetsCheck n_0 sets_1 = some r) (w : World) (hc : cX w0 ⟨m, l⟩ w) :
    Calls Try.prog 8 [.int .i64 n_0, usets_1].toArray w fun e w' => e = .returned (.int .i64 r) ∧ cX w0 ⟨m, l⟩ w' := by
  unfold syllogistref_SetsCheck at hr
  refine calls_of_Tr (N := 29) Try.func8 rfl hc rfl (Nat.le_of_ble_eq_true rfl) ?_
  refine Tr.seq ?_
  refine Tr.region_f (fun _ => false) ?_
  refine W.q rfl rfl rfl rfl (by decide) (Yd.as rfl .c) ?_
  refine W.end ?_
  refine NX.sub (env' := [(0, _), (1, _)]) ⟨rfl, rfl, trivial⟩ ?_
  refine NX.then ?_
  refine Tr.seq ?_
  refine Tr.seq ?_
  refine Tr.region_f (fun _ => false) ?_
  refine W.q rfl rfl rfl rfl (by decide) (Yd.mv rfl (.t rfl)) ?_
  refine W.q rfl rfl rfl rfl (by decide) (Yd.lss rfl (.t rfl) .c) ?_
  refine W.q rfl rfl rfl rfl (by decide) (Yd.mv rfl (.t rfl)) ?_
  refine W.g rfl rfl rfl rfl rfl (.t rfl _) rfl (by decide) (fun hG => Yd.mv rfl (.t rfl)) ?_
  refine W.g rfl rfl rfl rfl rfl (.t rfl _) rfl (by decide) (fun hG => Yd.gtr rfl (.g rfl hG) .c) ?_
  refine W.q rfl rfl rfl rfl (by decide) (Yd.or rfl (.t rfl) .c rfl rfl) ?_
  refine W.q rfl rfl rfl rfl (by decide) (Yd.mv rfl (.t rfl)) ?_
  refine W.g rfl rfl rfl rfl rfl (.t rfl _) rfl (by decide) (fun hG => Yd.mv rfl (.t rfl)) ?_
  refine W.g rfl rfl rfl rfl rfl (.t rfl _) rfl (by decide) (fun hG => Yd.lenR hsets_1 rfl Try.underlying22 (.g rfl hG)) ?_
  refine W.g rfl rfl rfl rfl rfl (.t rfl _) rfl (by decide) (fun hG => Yd.gtr rfl (.g rfl hG) .c) ?_
  refine W.q rfl rfl rfl rfl (by decide) (Yd.or rfl (.t rfl) .c rfl rfl) ?_
  refine W.end ?_
  refine NX.sub (env' := [(0, _), (1, _), (17, _)]) ⟨rfl, rfl, rfl, trivial⟩ ?_
  refine NX.then ?_
  refine Tr.cond (.t rfl) (fun hb => ?_) (fun hb => ?_)
  · have hr := cond_t hb hr
    refine Tr.seq ?_
    refine Tr.region_f (fun _ => false) ?_
    refine W.q rfl rfl rfl rfl (by decide) (Yd.as rfl .c) ?_
    refine W.end ?_
    refine NX.sub (env' := [(4, _)]) ⟨rfl, trivial⟩ ?_
    refine NX.then ?_
    refine Tr.ret' (RT.then ?_)
    refine res1 rfl rfl ?_
    intro w hc
    cases hr
    exact ⟨rfl, hc⟩
  · have hr := cond_f hb hr
    refine Tr.skip' ?_
    refine NX.then ?_
    refine Tr.seq ?_
    refine Tr.seq ?_
    refine Tr.region_f (fun _ => false) ?_
    refine W.q rfl rfl rfl rfl (by decide) (Yd.mv rfl (.t rfl)) ?_
    refine W.q rfl rfl rfl rfl (by decide) (Yd.lenR hsets_1 rfl Try.underlying22 (.t rfl)) ?_
    refine W.q rfl rfl rfl rfl (by decide) (Yd.mv rfl .c) ?_
    refine W.end ?_
    refine NX.sub (env' := [(0, _), (18, _), (19, _), (20, _)]) ⟨rfl, rfl, rfl, rfl, trivial⟩ ?_
    refine NX.then ?_
    refine Tr.join (S := fun env x => env = [] ∧ x = ⟨m, l⟩ ∧ syllogistref_SetsCheck_k3 = some r) ?_ (fun hk4 => ?_)
    · rintro _ _ ⟨rfl, rfl, hr⟩
      unfold syllogistref_SetsCheck_k3 at hr
      try dsimp only at hr
      refine NX.then ?_
      refine Tr.seq ?_
      refine Tr.region_f (fun _ => false) ?_
      refine W.q rfl rfl rfl rfl (by decide) (Yd.as rfl .c) ?_
      refine W.end ?_
      refine NX.sub (env' := [(4, _)]) ⟨rfl, trivial⟩ ?_
      refine NX.then ?_
      refine Tr.ret' ?_
      refine res1 rfl rfl ?_
      intro w hc
      cases hr
      exact ⟨rfl, hc⟩
    have hlen5 := (hsets_1).2.1
    refine Tr.block ?_
    refine Tr.sub (env' := [(0, _), (18, _), (19, _), (20, _)]) ⟨rfl, rfl, rfl, rfl, trivial⟩ ?_
    refine Tr.loop (S := fun n (z : Int × Unit) env x => match z with | (t_6, _) => env = [(0, .int .i64 n_0), (18, usets_1), (19, .int .i64 ((sets_1.length : Int))), (20, .int .i64 t_6)] ∧ x = ⟨m, l⟩ ∧ n = ((sets_1.length : Int) - t_6).toNat ∧ 0 ≤ t_6 ∧ forK (σ := Unit) (fun i s nx_ => syllogistref_SetsCheck_b7 n_0 sets_1 i nx_) (fun _ => syllogistref_SetsCheck_k3) n t_6 () = some r) _ ((0 : Int), ()) ⟨rfl, rfl, rfl, (by omega), hr⟩ ?_
    rintro n9 ⟨t_6, _⟩ env x ⟨rfl, rfl, hnt_6, h0t_6, hr⟩
    cases n9 with
    | zero =>
      simp only [forK] at hr
      refine Tr.seq ?_
      refine Tr.region_f (fun _ => false) ?_
      refine W.q rfl rfl rfl rfl (by decide) (Yd.lss rfl (.t rfl) (.t rfl)) ?_
      refine W.end ?_
      refine NX.sub (env' := [(0, _), (18, _), (19, _), (20, _), (21, _)]) ⟨rfl, rfl, rfl, rfl, rfl, trivial⟩ ?_
      refine NX.then ?_
      refine Tr.seq ?_
      refine Tr.cond (.t rfl) (fun hb => ?_) (fun hb => ?_)
      · exact absurd (hb.symm.trans (fr_end hnt_6)) (by decide)
      ·
        refine Tr.exit' (EX.then (EX.then (EX.block ?_)))
        refine NX.sub (env' := []) trivial ?_
        exact hk4 _ _ ⟨rfl, rfl, hr⟩
    | succ n9 =>
      obtain ⟨nx8, hnx8, hr⟩ := forK_succ hr
      try dsimp only at hr
      unfold syllogistref_SetsCheck_b7 at hr
      try dsimp only at hr
      have hltt_6 := fr_bnd hnt_6
      refine Tr.seq ?_
      refine Tr.region_f (fun _ => false) ?_
      refine W.q rfl rfl rfl rfl (by decide) (Yd.lss rfl (.t rfl) (.t rfl)) ?_
      refine W.end ?_
      refine NX.sub (env' := [(0, _), (18, _), (19, _), (20, _), (21, _)]) ⟨rfl, rfl, rfl, rfl, rfl, trivial⟩ ?_
      refine NX.then ?_
      refine Tr.seq ?_
      refine Tr.cond (.t rfl) (fun hb => ?_) (fun hb => ?_)
      rotate_left
      · exact absurd (hb.symm.trans (fr_go hnt_6)) (by decide)
      ·
        refine Tr.skip' ?_
        refine NX.then ?_
        refine Tr.seq ?_
        refine Tr.block ?_
        refine Tr.seq ?_
        obtain ⟨y10, hy11, hr⟩ := bind_some hr
        refine Tr.region_f (fun _ => false) ?_
        refine W.q rfl rfl rfl rfl (by decide) (Yd.idxR hsets_1 hy11 rfl Try.underlying22 SZ31 (.t rfl) (.t rfl)) ?_
        refine W.q rfl rfl rfl rfl (by decide) (Yd.ldF hsets_1 (.refl _) hy11 rfl rfl ON31 (.t rfl)) ?_
        refine W.q rfl rfl rfl rfl (by decide) (Yd.as rfl (.t rfl)) ?_
        refine W.end ?_
        refine NX.sub (env' := [(0, _), (18, _), (19, _), (20, _), (6, _)]) ⟨rfl, rfl, rfl, rfl, rfl, trivial⟩ ?_
        refine NX.then ?_
        refine Tr.seq ?_
        obtain ⟨r12, hr13, hr⟩ := bind_some hr
        refine Tr.region_f (fun _ => false) ?_
        refine W.q rfl rfl rfl rfl (by decide) (Yd.mv rfl (.t rfl)) ?_
        refine W.q rfl rfl rfl rfl (by decide) (Yd.mv rfl (.t rfl)) ?_
        refine W.q rfl rfl rfl rfl (by decide) (Yd.call (v := .bool r12) rfl Try.func13 rfl rfl (.cons (.t rfl) (.cons (.t rfl) .nil)) (fun x' hx w hw => syllogistref_Fits_ok w0 x'.m x'.l n_0 y10 _ hr13 w hw)) ?_
        refine W.q rfl rfl rfl rfl (by decide) (Yd.not rfl (.t rfl)) ?_
        refine W.end ?_
        refine NX.sub (env' := [(0, _), (18, _), (19, _), (20, _), (27, _)]) ⟨rfl, rfl, rfl, rfl, rfl, trivial⟩ ?_
        refine NX.then ?_
        refine Tr.cond (.t rfl) (fun hb => ?_) (fun hb => ?_)
        · have hr := cond_t hb hr
          refine Tr.seq ?_
          refine Tr.region_f (fun _ => false) ?_
          refine W.q rfl rfl rfl rfl (by decide) (Yd.as rfl .c) ?_
          refine W.end ?_
          refine NX.sub (env' := [(4, _)]) ⟨rfl, trivial⟩ ?_
          refine NX.then ?_
          refine Tr.ret' (RT.block (RT.then (RT.then (RT.block (RT.then ?_)))))
          refine res1 rfl rfl ?_
          intro w hc
          cases hr
          exact ⟨rfl, hc⟩
        · have hr := cond_f hb hr
          refine Tr.skip' ?_
          refine NX.block ?_
          refine NX.then ?_
          refine Tr.region_f (fun _ => false) ?_
          refine W.q rfl rfl rfl rfl (by decide) (Yd.add rfl (.t rfl) .c) ?_
          refine W.q rfl rfl rfl rfl (by decide) (Yd.mv rfl (.t rfl)) ?_
          refine W.end ?_
          refine NX.sub (env' := [(0, _), (18, _), (19, _), (20, _)]) ⟨rfl, rfl, rfl, rfl, trivial⟩ ?_
          refine NX.sub (env' := [(0, _), (18, _), (19, _), (20, _)]) ⟨rfl, rfl, rfl, rfl, trivial⟩ ?_
          have hw := w64_id (n := t_6 + 1) (by omega) (by omega)
          exact NX.again n9 (t_6 + 1, ()) (Nat.lt_succ_self _) ⟨(by rw [hw] <;> rfl), rfl, (fr_dec hnt_6), (by omega), ((hnx8 _).symm.trans hr)⟩

def syllogistref_In (a_0 : (BitVec 32)) (b_1 : (BitVec 32)) : Option (Bool) :=
  some (((a_0 ||| b_1) == b_1))

set_option maxRecDepth 100000 in
set_option maxHeartbeats 4000000 in
theorem syllogistref_In_ok (w0 : World) (m : Snap) (l : List HI) (a_0 : (BitVec 32)) (b_1 : (BitVec 32)) (r : Bool) (hr : syllogistref_In a_0 b_1 = some r) (w : World) (hc : cX w0 ⟨m, l⟩ w) :
    Calls Try.prog 24 [.int .u32 (a_0.toNat : Int), .int .u32 (b_1.toNat : Int)].toArray w fun e w' => e = .returned (.bool r) ∧ cX w0 ⟨m, l⟩ w' := by
  unfold syllogistref_In at hr
  refine calls_of_Tr (N := 10) Try.func24 rfl hc rfl (Nat.le_of_ble_eq_true rfl) ?_
  refine Tr.seq ?_
  refine Tr.region_f (fun _ => false) ?_
  refine W.q rfl rfl rfl rfl (by decide) (Yd.as rfl .c) ?_
  refine W.end ?_
  refine NX.sub (env' := [(0, _), (1, _)]) ⟨rfl, rfl, trivial⟩ ?_
  refine NX.then ?_
  refine Tr.seq ?_
  refine Tr.region_f (fun _ => false) ?_
  refine W.q rfl rfl rfl rfl (by decide) (Yd.mv rfl (.t rfl)) ?_
  refine W.q rfl rfl rfl rfl (by decide) (Yd.mv rfl (.t rfl)) ?_
  refine W.q rfl rfl rfl rfl (by decide) (Yd.orU (a := a_0) (b := b_1) rfl (.t rfl) (.t rfl)) ?_
  refine W.q rfl rfl rfl rfl (by decide) (Yd.mv rfl (.t rfl)) ?_
  refine W.q rfl rfl rfl rfl (by decide) (Yd.eqlU (a := (a_0 ||| b_1)) (b := b_1) rfl (.t rfl) (.t rfl)) ?_
  refine W.q rfl rfl rfl rfl (by decide) (Yd.as rfl (.t rfl)) ?_
  refine W.end ?_
  refine NX.sub (env' := [(4, _)]) ⟨rfl, trivial⟩ ?_
  refine NX.then ?_
  refine Tr.ret' ?_
  refine res1 rfl rfl ?_
  intro w hc
  cases hr
  exact ⟨rfl, hc⟩

def syllogistref_Lost_k3 : Option (Bool) :=
  some true

def syllogistref_Lost_b7 (sets_0 : List (BitVec 32)) (who_1 : (BitVec 32)) (t_6 : Int) (nx8 : Unit → Option (Bool)) : Option (Bool) :=
  (geti sets_0 t_6).bind fun y10 =>
  (syllogistref_In y10 who_1).bind fun r12 =>
  (bif r12 then
  some false
  else
  nx8 ())

def syllogistref_Lost (sets_0 : List (BitVec 32)) (who_1 : (BitVec 32)) : Option (Bool) :=
  forK (σ := Unit) (fun i s nx_ => syllogistref_Lost_b7 sets_0 who_1 i nx_) (fun _ => syllogistref_Lost_k3) ((sets_0.length : Int) - (0 : Int)).toNat (0 : Int) ()

set_option maxRecDepth 100000 in
set_option maxHeartbeats 4000000 in
theorem syllogistref_Lost_ok (w0 : World) (m : Snap) (l : List HI) (usets_0 : Value) (sets_0 : List (BitVec 32)) (hsets_0 : RS rU m usets_0 sets_0) (who_1 : (BitVec 32)) (r : Bool) (hr : syllogistref_Lost sets_0 who_1 = some r) (w : World) (hc : cX w0 ⟨m, l⟩ w) :
    Calls Try.prog 23 [usets_0, .int .u32 (who_1.toNat : Int)].toArray w fun e w' => e = .returned (.bool r) ∧ cX w0 ⟨m, l⟩ w' := by
  unfold syllogistref_Lost at hr
  refine calls_of_Tr (N := 17) Try.func23 rfl hc rfl (Nat.le_of_ble_eq_true rfl) ?_
  refine Tr.seq ?_
  refine Tr.region_f (fun _ => false) ?_
  refine W.q rfl rfl rfl rfl (by decide) (Yd.as rfl .c) ?_
  refine W.end ?_
  refine NX.sub (env' := [(0, _), (1, _)]) ⟨rfl, rfl, trivial⟩ ?_
  refine NX.then ?_
  refine Tr.seq ?_
  refine Tr.seq ?_
  refine Tr.region_f (fun _ => false) ?_
  refine W.q rfl rfl rfl rfl (by decide) (Yd.mv rfl (.t rfl)) ?_
  refine W.q rfl rfl rfl rfl (by decide) (Yd.lenR hsets_0 rfl Try.underlying22 (.t rfl)) ?_
  refine W.q rfl rfl rfl rfl (by decide) (Yd.mv rfl .c) ?_
  refine W.end ?_
  refine NX.sub (env' := [(1, _), (7, _), (8, _), (9, _)]) ⟨rfl, rfl, rfl, rfl, trivial⟩ ?_
  refine NX.then ?_
  refine Tr.join (S := fun env x => env = [] ∧ x = ⟨m, l⟩ ∧ syllogistref_Lost_k3 = some r) ?_ (fun hk4 => ?_)
  · rintro _ _ ⟨rfl, rfl, hr⟩
    unfold syllogistref_Lost_k3 at hr
    try dsimp only at hr
    refine NX.then ?_
    refine Tr.seq ?_
    refine Tr.region_f (fun _ => false) ?_
    refine W.q rfl rfl rfl rfl (by decide) (Yd.as rfl .c) ?_
    refine W.end ?_
    refine NX.sub (env' := [(4, _)]) ⟨rfl, trivial⟩ ?_
    refine NX.then ?_
    refine Tr.ret' ?_
    refine res1 rfl rfl ?_
    intro w hc
    cases hr
    exact ⟨rfl, hc⟩
  have hlen5 := (hsets_0).2.1
  refine Tr.block ?_
  refine Tr.sub (env' := [(1, _), (7, _), (8, _), (9, _)]) ⟨rfl, rfl, rfl, rfl, trivial⟩ ?_
  refine Tr.loop (S := fun n (z : Int × Unit) env x => match z with | (t_6, _) => env = [(1, .int .u32 (who_1.toNat : Int)), (7, usets_0), (8, .int .i64 ((sets_0.length : Int))), (9, .int .i64 t_6)] ∧ x = ⟨m, l⟩ ∧ n = ((sets_0.length : Int) - t_6).toNat ∧ 0 ≤ t_6 ∧ forK (σ := Unit) (fun i s nx_ => syllogistref_Lost_b7 sets_0 who_1 i nx_) (fun _ => syllogistref_Lost_k3) n t_6 () = some r) _ ((0 : Int), ()) ⟨rfl, rfl, rfl, (by omega), hr⟩ ?_
  rintro n9 ⟨t_6, _⟩ env x ⟨rfl, rfl, hnt_6, h0t_6, hr⟩
  cases n9 with
  | zero =>
    simp only [forK] at hr
    refine Tr.seq ?_
    refine Tr.region_f (fun _ => false) ?_
    refine W.q rfl rfl rfl rfl (by decide) (Yd.lss rfl (.t rfl) (.t rfl)) ?_
    refine W.end ?_
    refine NX.sub (env' := [(1, _), (7, _), (8, _), (9, _), (10, _)]) ⟨rfl, rfl, rfl, rfl, rfl, trivial⟩ ?_
    refine NX.then ?_
    refine Tr.seq ?_
    refine Tr.cond (.t rfl) (fun hb => ?_) (fun hb => ?_)
    · exact absurd (hb.symm.trans (fr_end hnt_6)) (by decide)
    ·
      refine Tr.exit' (EX.then (EX.then (EX.block ?_)))
      refine NX.sub (env' := []) trivial ?_
      exact hk4 _ _ ⟨rfl, rfl, hr⟩
  | succ n9 =>
    obtain ⟨nx8, hnx8, hr⟩ := forK_succ hr
    try dsimp only at hr
    unfold syllogistref_Lost_b7 at hr
    try dsimp only at hr
    have hltt_6 := fr_bnd hnt_6
    refine Tr.seq ?_
    refine Tr.region_f (fun _ => false) ?_
    refine W.q rfl rfl rfl rfl (by decide) (Yd.lss rfl (.t rfl) (.t rfl)) ?_
    refine W.end ?_
    refine NX.sub (env' := [(1, _), (7, _), (8, _), (9, _), (10, _)]) ⟨rfl, rfl, rfl, rfl, rfl, trivial⟩ ?_
    refine NX.then ?_
    refine Tr.seq ?_
    refine Tr.cond (.t rfl) (fun hb => ?_) (fun hb => ?_)
    rotate_left
    · exact absurd (hb.symm.trans (fr_go hnt_6)) (by decide)
    ·
      refine Tr.skip' ?_
      refine NX.then ?_
      refine Tr.seq ?_
      refine Tr.block ?_
      refine Tr.seq ?_
      obtain ⟨y10, hy11, hr⟩ := bind_some hr
      refine Tr.region_f (fun _ => false) ?_
      refine W.q rfl rfl rfl rfl (by decide) (Yd.idxR hsets_0 hy11 rfl Try.underlying22 SZ31 (.t rfl) (.t rfl)) ?_
      refine W.q rfl rfl rfl rfl (by decide) (Yd.ldF hsets_0 (.refl _) hy11 rfl rfl ON31 (.t rfl)) ?_
      refine W.q rfl rfl rfl rfl (by decide) (Yd.as rfl (.t rfl)) ?_
      refine W.end ?_
      refine NX.sub (env' := [(1, _), (7, _), (8, _), (9, _), (6, _)]) ⟨rfl, rfl, rfl, rfl, rfl, trivial⟩ ?_
      refine NX.then ?_
      refine Tr.seq ?_
      obtain ⟨r12, hr13, hr⟩ := bind_some hr
      refine Tr.region_f (fun _ => false) ?_
      refine W.q rfl rfl rfl rfl (by decide) (Yd.mv rfl (.t rfl)) ?_
      refine W.q rfl rfl rfl rfl (by decide) (Yd.mv rfl (.t rfl)) ?_
      refine W.q rfl rfl rfl rfl (by decide) (Yd.call (v := .bool r12) rfl Try.func24 rfl rfl (.cons (.t rfl) (.cons (.t rfl) .nil)) (fun x' hx w hw => syllogistref_In_ok w0 x'.m x'.l y10 who_1 _ hr13 w hw)) ?_
      refine W.end ?_
      refine NX.sub (env' := [(1, _), (7, _), (8, _), (9, _), (15, _)]) ⟨rfl, rfl, rfl, rfl, rfl, trivial⟩ ?_
      refine NX.then ?_
      refine Tr.cond (.t rfl) (fun hb => ?_) (fun hb => ?_)
      · have hr := cond_t hb hr
        refine Tr.seq ?_
        refine Tr.region_f (fun _ => false) ?_
        refine W.q rfl rfl rfl rfl (by decide) (Yd.as rfl .c) ?_
        refine W.end ?_
        refine NX.sub (env' := [(4, _)]) ⟨rfl, trivial⟩ ?_
        refine NX.then ?_
        refine Tr.ret' (RT.block (RT.then (RT.then (RT.block (RT.then ?_)))))
        refine res1 rfl rfl ?_
        intro w hc
        cases hr
        exact ⟨rfl, hc⟩
      · have hr := cond_f hb hr
        refine Tr.skip' ?_
        refine NX.block ?_
        refine NX.then ?_
        refine Tr.region_f (fun _ => false) ?_
        refine W.q rfl rfl rfl rfl (by decide) (Yd.add rfl (.t rfl) .c) ?_
        refine W.q rfl rfl rfl rfl (by decide) (Yd.mv rfl (.t rfl)) ?_
        refine W.end ?_
        refine NX.sub (env' := [(1, _), (7, _), (8, _), (9, _)]) ⟨rfl, rfl, rfl, rfl, trivial⟩ ?_
        refine NX.sub (env' := [(1, _), (7, _), (8, _), (9, _)]) ⟨rfl, rfl, rfl, rfl, trivial⟩ ?_
        have hw := w64_id (n := t_6 + 1) (by omega) (by omega)
        exact NX.again n9 (t_6 + 1, ()) (Nat.lt_succ_self _) ⟨(by rw [hw] <;> rfl), rfl, (fr_dec hnt_6), (by omega), ((hnx8 _).symm.trans hr)⟩

def syllogistref_MostLost_k10 (l8 : List (BitVec 32)) : Option ((List (BitVec 32))) :=
  some l8

def syllogistref_MostLost_k23 (who_12 : BitVec 32) (l6 : List (BitVec 32)) (nx14 : ((List (BitVec 32)) → Option ((List (BitVec 32))))) (ok_22 : Bool) : Option ((List (BitVec 32))) :=
  (bif ok_22 then
  bif decide (l6.length + (([who_12] : List (BitVec 32))).length ≤ 35184372088832) then
  nx14 (l6 ++ ([who_12] : List (BitVec 32))) else none
  else
  nx14 l6)

def syllogistref_MostLost_b30 (sets_1 : List (BitVec 32)) (who_12 : BitVec 32) (more_29 : BitVec 32) (ok_20 : Bool) (nx31 : Bool → Option ((List (BitVec 32)))) : Option ((List (BitVec 32))) :=
  bif (!((more_29 != who_12) == true) || (syllogistref_In who_12 more_29).isSome) then
  bif (!(((more_29 != who_12) && (((syllogistref_In who_12 more_29).getD false))) == true) || (syllogistref_Lost sets_1 more_29).isSome) then
  (bif (((more_29 != who_12) && (((syllogistref_In who_12 more_29).getD false))) && (((syllogistref_Lost sets_1 more_29).getD false))) then
  nx31 false
  else
  nx31 ok_20) else none else none

def syllogistref_MostLost_b13 (n_0 : Int) (sets_1 : List (BitVec 32)) (who_12 : BitVec 32) (l6 : List (BitVec 32)) (nx14 : (List (BitVec 32)) → Option ((List (BitVec 32)))) : Option ((List (BitVec 32))) :=
  (syllogistref_Lost sets_1 who_12).bind fun r16 =>
  forK (σ := Bool) (fun i s nx_ => syllogistref_MostLost_b30 sets_1 who_12 i s nx_) (fun s => syllogistref_MostLost_k23 who_12 l6 nx14 s) (((1#32 <<< ((BitVec.ofInt 64 n_0)).toNat)).toNat - (0#32).toNat) 0#32 r16

def syllogistref_MostLost (n_0 : Int) (sets_1 : List (BitVec 32)) : Option ((List (BitVec 32))) :=
  forK (σ := (List (BitVec 32))) (fun i s nx_ => syllogistref_MostLost_b13 n_0 sets_1 i s nx_) (fun s => syllogistref_MostLost_k10 s) (((1#32 <<< ((BitVec.ofInt 64 n_0)).toNat)).toNat - (0#32).toNat) 0#32 (([] : List (BitVec 32)))

set_option maxRecDepth 100000 in
set_option maxHeartbeats 4000000 in
theorem syllogistref_MostLost_ok (w0 : World) (m : Snap) (l : List HI) (n_0 : Int) (usets_1 : Value) (sets_1 : List (BitVec 32)) (hsets_1 : RS rU m usets_1 sets_1) (r : (List (BitVec 32))) (hr : syllogistref_MostLost n_0 sets_1 = some r) (w : World) (hc : cX w0 ⟨m, l⟩ w) :
    Calls Try.prog 10 [.int .i64 n_0, usets_1].toArray w fun e w' => ∃ z0 : Value, e = .returned (z0) ∧ cX w0 ⟨m, hownT 31 1 encU z0 r :: l⟩ w' := by
  unfold syllogistref_MostLost at hr
  refine calls_of_Tr (N := 45) Try.func10 rfl hc rfl (Nat.le_of_ble_eq_true rfl) ?_
  refine Tr.seq ?_
  refine Tr.region_f (fun _ => false) ?_
  refine W.q rfl rfl rfl rfl (by decide) (Yd.as rfl .c) ?_
  refine W.end ?_
  refine NX.sub (env' := [(0, _), (1, _)]) ⟨rfl, rfl, trivial⟩ ?_
  refine NX.then ?_
  refine Tr.seq ?_
  refine Tr.region_f (fun _ => false) ?_
  refine W.q rfl rfl rfl rfl (by decide) (Yd.as rfl .c) ?_
  refine W.end ?_
  refine NX.sub (env' := [(0, _), (1, _), (5, _)]) ⟨rfl, rfl, rfl, trivial⟩ ?_
  refine NX.then ?_
  refine Tr.seq ?_
  refine Tr.seq ?_
  refine Tr.region_f (fun _ => false) ?_
  refine W.q rfl rfl rfl rfl (by decide) (Yd.as rfl .c) ?_
  refine W.end ?_
  refine NX.sub (env' := [(0, _), (1, _), (5, _), (6, _)]) ⟨rfl, rfl, rfl, rfl, trivial⟩ ?_
  refine NX.then ?_
  refine Tr.addnil 31 1 ?_
  refine Tr.join (S := fun env x => ∃ l8 : List (BitVec 32), ∃ v9 : Value, env = [(5, v9)] ∧ x = ⟨m, hownT 31 1 encU v9 l8 :: l⟩ ∧ syllogistref_MostLost_k10 l8 = some r) ?_ (fun hk11 => ?_)
  · rintro _ _ ⟨l8, v9, rfl, rfl, hr⟩
    unfold syllogistref_MostLost_k10 at hr
    try dsimp only at hr
    refine NX.then ?_
    refine Tr.seq ?_
    refine Tr.region_f (fun _ => false) ?_
    refine W.q rfl rfl rfl rfl (by decide) (Yd.mv rfl (.t rfl)) ?_
    refine W.q rfl rfl rfl rfl (by decide) (Yd.as rfl (.t rfl)) ?_
    refine W.end ?_
    refine NX.sub (env' := [(4, _)]) ⟨rfl, trivial⟩ ?_
    refine NX.then ?_
    refine Tr.ret' ?_
    refine res1 rfl rfl ?_
    intro w hc
    cases hr
    exact ⟨_, rfl, hc⟩
  refine Tr.block ?_
  refine Tr.sub (env' := [(0, _), (1, _), (5, _), (6, _)]) ⟨rfl, rfl, rfl, rfl, trivial⟩ ?_
  refine Tr.loop (S := fun n (z : BitVec 32 × (List (BitVec 32))) env x => match z with | (who_12, l6) => ∃ v7 : Value, env = [(0, .int .i64 n_0), (1, usets_1), (5, v7), (6, .int .u32 (who_12.toNat : Int))] ∧ x = ⟨m, hownT 31 1 encU v7 l6 :: l⟩ ∧ n = ((1#32 <<< ((BitVec.ofInt 64 n_0)).toNat)).toNat - who_12.toNat ∧ forK (σ := (List (BitVec 32))) (fun i s nx_ => syllogistref_MostLost_b13 n_0 sets_1 i s nx_) (fun s => syllogistref_MostLost_k10 s) n who_12 l6 = some r) _ (0#32, ([] : List (BitVec 32))) ⟨_, rfl, rfl, rfl, hr⟩ ?_
  rintro n15 ⟨who_12, l6⟩ env x ⟨v7, rfl, rfl, hnwho_12, hr⟩
  cases n15 with
  | zero =>
    simp only [forK] at hr
    refine Tr.seq ?_
    refine Tr.seq ?_
    refine Tr.region_f (fun _ => false) ?_
    refine W.q rfl rfl rfl rfl (by decide) (Yd.mv rfl (.t rfl)) ?_
    refine W.q rfl rfl rfl rfl (by decide) (Yd.mv rfl (.t rfl)) ?_
    refine W.q rfl rfl rfl rfl (by decide) (Yd.cvQ rfl US3 Try.underlying56 (.t rfl)) ?_
    refine W.q rfl rfl rfl rfl (by decide) (Yd.shlU (a := 1#32) rfl .c (.t rfl) (Int.natCast_nonneg _)) ?_
    refine W.q rfl rfl rfl rfl (by decide) (Yd.lssU (a := who_12) (b := (1#32 <<< ((BitVec.ofInt 64 n_0)).toNat)) rfl (.t rfl) (.t rfl)) ?_
    refine W.end ?_
    refine NX.sub (env' := [(0, _), (1, _), (5, _), (6, _), (13, _)]) ⟨rfl, rfl, rfl, rfl, rfl, trivial⟩ ?_
    refine NX.then ?_
    refine Tr.cond (.t rfl) (fun hb => ?_) (fun hb => ?_)
    · exact absurd (hb.symm.trans (fu_end hnwho_12)) (by decide)
    ·
      refine Tr.exit' (EX.then (EX.then (EX.block ?_)))
      refine NX.sub (env' := [(5, _)]) ⟨rfl, trivial⟩ ?_
      exact hk11 _ _ ⟨_, _, rfl, rfl, hr⟩
  | succ n15 =>
    obtain ⟨nx14, hnx14, hr⟩ := forK_succ hr
    try dsimp only at hr
    unfold syllogistref_MostLost_b13 at hr
    try dsimp only at hr
    refine Tr.seq ?_
    refine Tr.seq ?_
    refine Tr.region_f (fun _ => false) ?_
    refine W.q rfl rfl rfl rfl (by decide) (Yd.mv rfl (.t rfl)) ?_
    refine W.q rfl rfl rfl rfl (by decide) (Yd.mv rfl (.t rfl)) ?_
    refine W.q rfl rfl rfl rfl (by decide) (Yd.cvQ rfl US3 Try.underlying56 (.t rfl)) ?_
    refine W.q rfl rfl rfl rfl (by decide) (Yd.shlU (a := 1#32) rfl .c (.t rfl) (Int.natCast_nonneg _)) ?_
    refine W.q rfl rfl rfl rfl (by decide) (Yd.lssU (a := who_12) (b := (1#32 <<< ((BitVec.ofInt 64 n_0)).toNat)) rfl (.t rfl) (.t rfl)) ?_
    refine W.end ?_
    refine NX.sub (env' := [(0, _), (1, _), (5, _), (6, _), (13, _)]) ⟨rfl, rfl, rfl, rfl, rfl, trivial⟩ ?_
    refine NX.then ?_
    refine Tr.cond (.t rfl) (fun hb => ?_) (fun hb => ?_)
    rotate_left
    · exact absurd (hb.symm.trans (fu_go hnwho_12)) (by decide)
    ·
      refine Tr.skip' ?_
      refine NX.then ?_
      refine Tr.seq ?_
      refine Tr.block ?_
      refine Tr.seq ?_
      obtain ⟨r16, hr17, hr⟩ := bind_some hr
      refine Tr.region_f (fun _ => false) ?_
      refine W.q rfl rfl rfl rfl (by decide) (Yd.mv rfl (.t rfl)) ?_
      refine W.q rfl rfl rfl rfl (by decide) (Yd.mv rfl (.t rfl)) ?_
      refine W.q rfl rfl rfl rfl (by decide) (Yd.call (v := .bool r16) rfl Try.func23 rfl rfl (.cons (.t rfl) (.cons (.t rfl) .nil)) (fun x' hx w hw => syllogistref_Lost_ok w0 x'.m x'.l _ _ (hsets_1.mono hx.1) who_12 _ hr17 w hw)) ?_
      refine W.q rfl rfl rfl rfl (by decide) (Yd.as rfl (.t rfl)) ?_
      refine W.end ?_
      refine NX.sub (env' := [(0, _), (1, _), (5, _), (6, _), (7, _)]) ⟨rfl, rfl, rfl, rfl, rfl, trivial⟩ ?_
      refine NX.then ?_
      refine Tr.seq ?_
      refine Tr.seq ?_
      refine Tr.region_f (fun _ => false) ?_
      refine W.q rfl rfl rfl rfl (by decide) (Yd.as rfl .c) ?_
      refine W.end ?_
      refine NX.sub (env' := [(0, _), (1, _), (5, _), (6, _), (7, _), (8, _)]) ⟨rfl, rfl, rfl, rfl, rfl, rfl, trivial⟩ ?_
      refine NX.then ?_
      refine Tr.join (S := fun env x => ∃ ok_22 : Bool, env = [(0, .int .i64 n_0), (1, usets_1), (5, v7), (6, .int .u32 (who_12.toNat : Int)), (7, .bool ok_22)] ∧ x = ⟨m, hownT 31 1 encU v7 l6 :: l⟩ ∧ syllogistref_MostLost_k23 who_12 l6 nx14 ok_22 = some r) ?_ (fun hk24 => ?_)
      · rintro _ _ ⟨ok_22, rfl, rfl, hr⟩
        unfold syllogistref_MostLost_k23 at hr
        try dsimp only at hr
        refine NX.then ?_
        refine Tr.seq ?_
        refine Tr.region_f (fun _ => false) ?_
        refine W.q rfl rfl rfl rfl (by decide) (Yd.mv rfl (.t rfl)) ?_
        refine W.end ?_
        refine NX.sub (env' := [(0, _), (1, _), (5, _), (6, _), (39, _)]) ⟨rfl, rfl, rfl, rfl, rfl, trivial⟩ ?_
        refine NX.then ?_
        refine Tr.cond (.t rfl) (fun hb => ?_) (fun hb => ?_)
        · have hr := cond_t hb hr
          obtain ⟨hq28, hr⟩ := guard_some hr; replace hq28 := of_decide_eq_true hq28
          refine Tr.region_f (fun i => Nat.beq i 2 || Nat.beq i 3) ?_
          refine W.q rfl rfl rfl rfl (by decide) (Yd.mv rfl (.t rfl)) ?_
          refine W.q rfl rfl rfl rfl (by decide) (Yd.mv rfl (.t rfl)) ?_
          refine W.e rfl rfl rfl rfl (by decide) (Ef.bsT (enc := encU) (vs := [_]) (ys := [who_12]) (fun _ => rfl) IF31 rfl Try.underlying22 (by decide) rfl (.cons (.t rfl) .nil) rfl rfl (by decide)) ?_
          rintro v25 _ rfl
          refine ⟨.inl rfl, ?_⟩
          refine W.cast (m' := m) (l' := hownT 31 1 encU v25 _ :: hownT 31 1 encU v7 _ :: l) rfl rfl ?_
          refine W.e rfl rfl rfl rfl (by decide) (Ef.apI (pos := 1) (enc := encU) (xs := l6) (ys := ([who_12] : List (BitVec 32))) (fun _ => rfl) IF31 rfl rfl Try.underlying22 rfl (by decide) (.t rfl) (.t rfl) (Src.own (pos := 0) rfl) (fun _ => rfl) (by omega) (by omega)) ?_
          rintro v27 _ rfl
          refine ⟨.inl rfl, ?_⟩
          refine W.cast (m' := m) (l' := hownT 31 1 encU v25 _ :: hownT 31 1 encU v27 _ :: l) rfl rfl ?_
          refine W.q rfl rfl rfl rfl (by decide) (Yd.as rfl (.t rfl)) ?_
          refine W.end ?_
          refine NX.sub (env' := [(0, _), (1, _), (5, _), (6, _)]) ⟨rfl, rfl, rfl, rfl, trivial⟩ ?_
          refine NX.drop (l' := hownT 31 1 encU v27 _ :: l) (.cons _ (.cons_cons _ (.refl _))) ?_
          refine NX.block ?_
          refine NX.then ?_
          refine Tr.region_f (fun _ => false) ?_
          refine W.q rfl rfl rfl rfl (by decide) (Yd.mv rfl (.t rfl)) ?_
          refine W.q rfl rfl rfl rfl (by decide) (Yd.addU (a := who_12) (b := 1#32) rfl (.t rfl) .c) ?_
          refine W.q rfl rfl rfl rfl (by decide) (Yd.as rfl (.t rfl)) ?_
          refine W.end ?_
          refine NX.sub (env' := [(0, _), (1, _), (5, _), (6, _)]) ⟨rfl, rfl, rfl, rfl, trivial⟩ ?_
          refine NX.sub (env' := [(0, _), (1, _), (5, _), (6, _)]) ⟨rfl, rfl, rfl, rfl, trivial⟩ ?_
          exact NX.again n15 (who_12 + 1, (l6 ++ ([who_12] : List (BitVec 32)))) (Nat.lt_succ_self _) ⟨_, rfl, rfl, (fu_dec hnwho_12), ((hnx14 _).symm.trans hr)⟩
        · have hr := cond_f hb hr
          refine Tr.skip' ?_
          refine NX.block ?_
          refine NX.then ?_
          refine Tr.region_f (fun _ => false) ?_
          refine W.q rfl rfl rfl rfl (by decide) (Yd.mv rfl (.t rfl)) ?_
          refine W.q rfl rfl rfl rfl (by decide) (Yd.addU (a := who_12) (b := 1#32) rfl (.t rfl) .c) ?_
          refine W.q rfl rfl rfl rfl (by decide) (Yd.as rfl (.t rfl)) ?_
          refine W.end ?_
          refine NX.sub (env' := [(0, _), (1, _), (5, _), (6, _)]) ⟨rfl, rfl, rfl, rfl, trivial⟩ ?_
          refine NX.sub (env' := [(0, _), (1, _), (5, _), (6, _)]) ⟨rfl, rfl, rfl, rfl, trivial⟩ ?_
          exact NX.again n15 (who_12 + 1, l6) (Nat.lt_succ_self _) ⟨_, rfl, rfl, (fu_dec hnwho_12), ((hnx14 _).symm.trans hr)⟩
      refine Tr.block ?_
      refine Tr.sub (env' := [(0, _), (1, _), (5, _), (6, _), (7, _), (8, _)]) ⟨rfl, rfl, rfl, rfl, rfl, rfl, trivial⟩ ?_
      refine Tr.loop (S := fun n (z : BitVec 32 × Bool) env x => match z with | (more_29, ok_20) => env = [(0, .int .i64 n_0), (1, usets_1), (5, v7), (6, .int .u32 (who_12.toNat : Int)), (7, .bool ok_20), (8, .int .u32 (more_29.toNat : Int))] ∧ x = ⟨m, hownT 31 1 encU v7 l6 :: l⟩ ∧ n = ((1#32 <<< ((BitVec.ofInt 64 n_0)).toNat)).toNat - more_29.toNat ∧ forK (σ := Bool) (fun i s nx_ => syllogistref_MostLost_b30 sets_1 who_12 i s nx_) (fun s => syllogistref_MostLost_k23 who_12 l6 nx14 s) n more_29 ok_20 = some r) _ (0#32, r16) ⟨rfl, rfl, rfl, hr⟩ ?_
      rintro n32 ⟨more_29, ok_20⟩ env x ⟨rfl, rfl, hnmore_29, hr⟩
      cases n32 with
      | zero =>
        simp only [forK] at hr
        refine Tr.seq ?_
        refine Tr.seq ?_
        refine Tr.region_f (fun _ => false) ?_
        refine W.q rfl rfl rfl rfl (by decide) (Yd.mv rfl (.t rfl)) ?_
        refine W.q rfl rfl rfl rfl (by decide) (Yd.mv rfl (.t rfl)) ?_
        refine W.q rfl rfl rfl rfl (by decide) (Yd.cvQ rfl US3 Try.underlying56 (.t rfl)) ?_
        refine W.q rfl rfl rfl rfl (by decide) (Yd.shlU (a := 1#32) rfl .c (.t rfl) (Int.natCast_nonneg _)) ?_
        refine W.q rfl rfl rfl rfl (by decide) (Yd.lssU (a := more_29) (b := (1#32 <<< ((BitVec.ofInt 64 n_0)).toNat)) rfl (.t rfl) (.t rfl)) ?_
        refine W.end ?_
        refine NX.sub (env' := [(0, _), (1, _), (5, _), (6, _), (7, _), (8, _), (23, _)]) ⟨rfl, rfl, rfl, rfl, rfl, rfl, rfl, trivial⟩ ?_
        refine NX.then ?_
        refine Tr.cond (.t rfl) (fun hb => ?_) (fun hb => ?_)
        · exact absurd (hb.symm.trans (fu_end hnmore_29)) (by decide)
        ·
          refine Tr.exit' (EX.then (EX.then (EX.block ?_)))
          refine NX.sub (env' := [(0, _), (1, _), (5, _), (6, _), (7, _)]) ⟨rfl, rfl, rfl, rfl, rfl, trivial⟩ ?_
          exact hk24 _ _ ⟨_, rfl, rfl, hr⟩
      | succ n32 =>
        obtain ⟨nx31, hnx31, hr⟩ := forK_succ hr
        try dsimp only at hr
        unfold syllogistref_MostLost_b30 at hr
        try dsimp only at hr
        refine Tr.seq ?_
        refine Tr.seq ?_
        refine Tr.region_f (fun _ => false) ?_
        refine W.q rfl rfl rfl rfl (by decide) (Yd.mv rfl (.t rfl)) ?_
        refine W.q rfl rfl rfl rfl (by decide) (Yd.mv rfl (.t rfl)) ?_
        refine W.q rfl rfl rfl rfl (by decide) (Yd.cvQ rfl US3 Try.underlying56 (.t rfl)) ?_
        refine W.q rfl rfl rfl rfl (by decide) (Yd.shlU (a := 1#32) rfl .c (.t rfl) (Int.natCast_nonneg _)) ?_
        refine W.q rfl rfl rfl rfl (by decide) (Yd.lssU (a := more_29) (b := (1#32 <<< ((BitVec.ofInt 64 n_0)).toNat)) rfl (.t rfl) (.t rfl)) ?_
        refine W.end ?_
        refine NX.sub (env' := [(0, _), (1, _), (5, _), (6, _), (7, _), (8, _), (23, _)]) ⟨rfl, rfl, rfl, rfl, rfl, rfl, rfl, trivial⟩ ?_
        refine NX.then ?_
        refine Tr.cond (.t rfl) (fun hb => ?_) (fun hb => ?_)
        rotate_left
        · exact absurd (hb.symm.trans (fu_go hnmore_29)) (by decide)
        ·
          refine Tr.skip' ?_
          refine NX.then ?_
          refine Tr.seq ?_
          refine Tr.block ?_
          refine Tr.seq ?_
          obtain ⟨ha33, hr⟩ := guard_some hr
          obtain ⟨ha34, hr⟩ := guard_some hr
          refine Tr.region_f (fun _ => false) ?_
          refine W.q rfl rfl rfl rfl (by decide) (Yd.mv rfl (.t rfl)) ?_
          refine W.q rfl rfl rfl rfl (by decide) (Yd.mv rfl (.t rfl)) ?_
          refine W.q rfl rfl rfl rfl (by decide) (Yd.neqU (a := more_29) (b := who_12) rfl (.t rfl) (.t rfl)) ?_
          refine W.q rfl rfl rfl rfl (by decide) (Yd.mv rfl (.t rfl)) ?_
          refine W.g rfl rfl rfl rfl rfl (.t rfl _) rfl (by decide) (fun hG => Yd.mv rfl (.t rfl)) ?_
          refine W.g rfl rfl rfl rfl rfl (.t rfl _) rfl (by decide) (fun hG => Yd.mv rfl (.t rfl)) ?_
          refine W.g rfl rfl rfl rfl rfl (.t rfl _) rfl (by decide) (fun hG => Yd.call (v := .bool ((((syllogistref_In who_12 more_29).getD false)))) rfl Try.func24 rfl rfl (.cons (.g rfl hG) (.cons (.g rfl hG) .nil)) (fun x' hx w hw => syllogistref_In_ok w0 x'.m x'.l who_12 more_29 _ (gd_get (d := false) ha33 hG) w hw)) ?_
          refine W.q rfl rfl rfl rfl (by decide) (Yd.and rfl (.t rfl) .c rfl rfl) ?_
          refine W.q rfl rfl rfl rfl (by decide) (Yd.mv rfl (.t rfl)) ?_
          refine W.g rfl rfl rfl rfl rfl (.t rfl _) rfl (by decide) (fun hG => Yd.mv rfl (.t rfl)) ?_
          refine W.g rfl rfl rfl rfl rfl (.t rfl _) rfl (by decide) (fun hG => Yd.mv rfl (.t rfl)) ?_
          refine W.g rfl rfl rfl rfl rfl (.t rfl _) rfl (by decide) (fun hG => Yd.call (v := .bool ((((syllogistref_Lost sets_1 more_29).getD false)))) rfl Try.func23 rfl rfl (.cons (.g rfl hG) (.cons (.g rfl hG) .nil)) (fun x' hx w hw => syllogistref_Lost_ok w0 x'.m x'.l _ _ (hsets_1.mono hx.1) more_29 _ (gd_get (d := false) ha34 hG) w hw)) ?_
          refine W.q rfl rfl rfl rfl (by decide) (Yd.and rfl (.t rfl) .c rfl rfl) ?_
          refine W.end ?_
          refine NX.sub (env' := [(0, _), (1, _), (5, _), (6, _), (7, _), (8, _), (38, _)]) ⟨rfl, rfl, rfl, rfl, rfl, rfl, rfl, trivial⟩ ?_
          refine NX.then ?_
          refine Tr.cond (.t rfl) (fun hb => ?_) (fun hb => ?_)
          · have hr := cond_t hb hr
            refine Tr.region_f (fun _ => false) ?_
            refine W.q rfl rfl rfl rfl (by decide) (Yd.as rfl .c) ?_
            refine W.end ?_
            refine NX.sub (env' := [(0, _), (1, _), (5, _), (6, _), (7, _), (8, _)]) ⟨rfl, rfl, rfl, rfl, rfl, rfl, trivial⟩ ?_
            refine NX.block ?_
            refine NX.then ?_
            refine Tr.region_f (fun _ => false) ?_
            refine W.q rfl rfl rfl rfl (by decide) (Yd.mv rfl (.t rfl)) ?_
            refine W.q rfl rfl rfl rfl (by decide) (Yd.addU (a := more_29) (b := 1#32) rfl (.t rfl) .c) ?_
            refine W.q rfl rfl rfl rfl (by decide) (Yd.as rfl (.t rfl)) ?_
            refine W.end ?_
            refine NX.sub (env' := [(0, _), (1, _), (5, _), (6, _), (7, _), (8, _)]) ⟨rfl, rfl, rfl, rfl, rfl, rfl, trivial⟩ ?_
            refine NX.sub (env' := [(0, _), (1, _), (5, _), (6, _), (7, _), (8, _)]) ⟨rfl, rfl, rfl, rfl, rfl, rfl, trivial⟩ ?_
            exact NX.again n32 (more_29 + 1, false) (Nat.lt_succ_self _) ⟨rfl, rfl, (fu_dec hnmore_29), ((hnx31 _).symm.trans hr)⟩
          · have hr := cond_f hb hr
            refine Tr.skip' ?_
            refine NX.block ?_
            refine NX.then ?_
            refine Tr.region_f (fun _ => false) ?_
            refine W.q rfl rfl rfl rfl (by decide) (Yd.mv rfl (.t rfl)) ?_
            refine W.q rfl rfl rfl rfl (by decide) (Yd.addU (a := more_29) (b := 1#32) rfl (.t rfl) .c) ?_
            refine W.q rfl rfl rfl rfl (by decide) (Yd.as rfl (.t rfl)) ?_
            refine W.end ?_
            refine NX.sub (env' := [(0, _), (1, _), (5, _), (6, _), (7, _), (8, _)]) ⟨rfl, rfl, rfl, rfl, rfl, rfl, trivial⟩ ?_
            refine NX.sub (env' := [(0, _), (1, _), (5, _), (6, _), (7, _), (8, _)]) ⟨rfl, rfl, rfl, rfl, rfl, rfl, trivial⟩ ?_
            exact NX.again n32 (more_29 + 1, ok_20) (Nat.lt_succ_self _) ⟨rfl, rfl, (fu_dec hnmore_29), ((hnx31 _).symm.trans hr)⟩

def syllogistref_Deals (n_0 : Int) (sets_1 : List (BitVec 32)) : Option (Bool) :=
  (syllogistref_MostLost n_0 sets_1).bind fun r1 =>
  bif (!((decide ((r1.length : Int) > (0 : Int))) == true) || (syllogistref_Lost sets_1 (((1#32 <<< ((BitVec.ofInt 64 n_0)).toNat) - 1#32))).isSome) then
  some (((decide ((r1.length : Int) > (0 : Int))) && (!(((syllogistref_Lost sets_1 (((1#32 <<< ((BitVec.ofInt 64 n_0)).toNat) - 1#32))).getD false))))) else none

set_option maxRecDepth 100000 in
set_option maxHeartbeats 4000000 in
theorem syllogistref_Deals_ok (w0 : World) (m : Snap) (l : List HI) (n_0 : Int) (usets_1 : Value) (sets_1 : List (BitVec 32)) (hsets_1 : RS rU m usets_1 sets_1) (r : Bool) (hr : syllogistref_Deals n_0 sets_1 = some r) (w : World) (hc : cX w0 ⟨m, l⟩ w) :
    Calls Try.prog 12 [.int .i64 n_0, usets_1].toArray w fun e w' => e = .returned (.bool r) ∧ cX w0 ⟨m, l⟩ w' := by
  unfold syllogistref_Deals at hr
  refine calls_of_Tr (N := 19) Try.func12 rfl hc rfl (Nat.le_of_ble_eq_true rfl) ?_
  refine Tr.seq ?_
  refine Tr.region_f (fun _ => false) ?_
  refine W.q rfl rfl rfl rfl (by decide) (Yd.as rfl .c) ?_
  refine W.end ?_
  refine NX.sub (env' := [(0, _), (1, _)]) ⟨rfl, rfl, trivial⟩ ?_
  refine NX.then ?_
  refine Tr.seq ?_
  obtain ⟨r1, hr2, hr⟩ := bind_some hr
  obtain ⟨ha5, hr⟩ := guard_some hr
  refine Tr.region_f (fun i => Nat.beq i 2) ?_
  refine W.q rfl rfl rfl rfl (by decide) (Yd.mv rfl (.t rfl)) ?_
  refine W.q rfl rfl rfl rfl (by decide) (Yd.mv rfl (.t rfl)) ?_
  refine W.e rfl rfl rfl rfl (by decide) (Ef.call (R := fun z x' => ∃ v3 : Value, z = v3 ∧ x' = ⟨m, hownT 31 1 encU v3 r1 :: l⟩) rfl Try.func10 rfl rfl (.cons (.t rfl) (.cons (.t rfl) .nil)) (fun w hw => (syllogistref_MostLost_ok w0 _ _ n_0 _ _ hsets_1 _ hr2 w hw).mono fun e w' ⟨v3, he, hc'⟩ => ⟨_, _, he, ⟨v3, rfl, rfl⟩, hc'⟩)) ?_
  rintro v3 _ ⟨_, rfl, rfl⟩
  refine ⟨.inl rfl, ?_⟩
  refine W.cast (m' := m) (l' := hownT 31 1 encU v3 _ :: l) rfl rfl ?_
  refine W.q rfl rfl rfl rfl (by decide) (Yd.lenO (p := 0) rfl rfl Try.underlying22 (.t rfl)) ?_
  refine W.q rfl rfl rfl rfl (by decide) (Yd.gtr rfl (.t rfl) .c) ?_
  refine W.q rfl rfl rfl rfl (by decide) (Yd.mv rfl (.t rfl)) ?_
  refine W.g rfl rfl rfl rfl rfl (.t rfl _) rfl (by decide) (fun hG => Yd.mv rfl (.t rfl)) ?_
  refine W.g rfl rfl rfl rfl rfl (.t rfl _) rfl (by decide) (fun hG => Yd.mv rfl (.t rfl)) ?_
  refine W.g rfl rfl rfl rfl rfl (.t rfl _) rfl (by decide) (fun hG => Yd.cvQ rfl US3 Try.underlying56 (.g rfl hG)) ?_
  refine W.g rfl rfl rfl rfl rfl (.t rfl _) rfl (by decide) (fun hG => Yd.shlU (a := 1#32) rfl .c (.g rfl hG) (Int.natCast_nonneg _)) ?_
  refine W.g rfl rfl rfl rfl rfl (.t rfl _) rfl (by decide) (fun hG => Yd.subU (a := (1#32 <<< ((BitVec.ofInt 64 n_0)).toNat)) (b := 1#32) rfl (.g rfl hG) .c) ?_
  refine W.g rfl rfl rfl rfl rfl (.t rfl _) rfl (by decide) (fun hG => Yd.call (v := .bool ((((syllogistref_Lost sets_1 (((1#32 <<< ((BitVec.ofInt 64 n_0)).toNat) - 1#32))).getD false)))) rfl Try.func23 rfl rfl (.cons (.g rfl hG) (.cons (.g rfl hG) .nil)) (fun x' hx w hw => syllogistref_Lost_ok w0 x'.m x'.l _ _ (hsets_1.mono hx.1) (((1#32 <<< ((BitVec.ofInt 64 n_0)).toNat) - 1#32)) _ (gd_get (d := false) ha5 hG) w hw)) ?_
  refine W.g rfl rfl rfl rfl rfl (.t rfl _) rfl (by decide) (fun hG => Yd.not rfl (.g rfl hG)) ?_
  refine W.q rfl rfl rfl rfl (by decide) (Yd.and rfl (.t rfl) .c rfl rfl) ?_
  refine W.q rfl rfl rfl rfl (by decide) (Yd.as rfl (.t rfl)) ?_
  refine W.end ?_
  refine NX.sub (env' := [(4, _)]) ⟨rfl, trivial⟩ ?_
  refine NX.drop (l' := l) (.cons _ (.refl _)) ?_
  refine NX.then ?_
  refine Tr.ret' ?_
  refine res1 rfl rfl ?_
  intro w hc
  cases hr
  exact ⟨rfl, hc⟩

def syllogistref_Bit (w_0 : (BitVec 32)) (i_1 : Int) : Option (Bool) :=
  some ((((decide (i_1 ≥ (0 : Int))) && (decide (i_1 < (32 : Int)))) && ((w_0 &&& (1#32 <<< ((BitVec.ofInt 64 i_1)).toNat)) != 0#32)))

set_option maxRecDepth 100000 in
set_option maxHeartbeats 4000000 in
theorem syllogistref_Bit_ok (w0 : World) (m : Snap) (l : List HI) (w_0 : (BitVec 32)) (i_1 : Int) (r : Bool) (hr : syllogistref_Bit w_0 i_1 = some r) (w : World) (hc : cX w0 ⟨m, l⟩ w) :
    Calls Try.prog 16 [.int .u32 (w_0.toNat : Int), .int .i64 i_1].toArray w fun e w' => e = .returned (.bool r) ∧ cX w0 ⟨m, l⟩ w' := by
  unfold syllogistref_Bit at hr
  refine calls_of_Tr (N := 19) Try.func16 rfl hc rfl (Nat.le_of_ble_eq_true rfl) ?_
  refine Tr.seq ?_
  refine Tr.region_f (fun _ => false) ?_
  refine W.q rfl rfl rfl rfl (by decide) (Yd.as rfl .c) ?_
  refine W.end ?_
  refine NX.sub (env' := [(0, _), (1, _)]) ⟨rfl, rfl, trivial⟩ ?_
  refine NX.then ?_
  refine Tr.seq ?_
  refine Tr.region_f (fun _ => false) ?_
  refine W.q rfl rfl rfl rfl (by decide) (Yd.mv rfl (.t rfl)) ?_
  refine W.q rfl rfl rfl rfl (by decide) (Yd.geq rfl (.t rfl) .c) ?_
  refine W.q rfl rfl rfl rfl (by decide) (Yd.mv rfl (.t rfl)) ?_
  refine W.g rfl rfl rfl rfl rfl (.t rfl _) rfl (by decide) (fun hG => Yd.mv rfl (.t rfl)) ?_
  refine W.g rfl rfl rfl rfl rfl (.t rfl _) rfl (by decide) (fun hG => Yd.lss rfl (.g rfl hG) .c) ?_
  refine W.q rfl rfl rfl rfl (by decide) (Yd.and rfl (.t rfl) .c rfl rfl) ?_
  refine W.q rfl rfl rfl rfl (by decide) (Yd.mv rfl (.t rfl)) ?_
  refine W.g rfl rfl rfl rfl rfl (.t rfl _) rfl (by decide) (fun hG => Yd.mv rfl (.t rfl)) ?_
  refine W.g rfl rfl rfl rfl rfl (.t rfl _) rfl (by decide) (fun hG => Yd.mv rfl (.t rfl)) ?_
  refine W.g rfl rfl rfl rfl rfl (.t rfl _) rfl (by decide) (fun hG => Yd.cvQ rfl US3 Try.underlying56 (.g rfl hG)) ?_
  refine W.g rfl rfl rfl rfl rfl (.t rfl _) rfl (by decide) (fun hG => Yd.shlU (a := 1#32) rfl .c (.g rfl hG) (Int.natCast_nonneg _)) ?_
  refine W.g rfl rfl rfl rfl rfl (.t rfl _) rfl (by decide) (fun hG => Yd.andU (a := w_0) (b := (1#32 <<< ((BitVec.ofInt 64 i_1)).toNat)) rfl (.g rfl hG) (.g rfl hG)) ?_
  refine W.g rfl rfl rfl rfl rfl (.t rfl _) rfl (by decide) (fun hG => Yd.neqU (a := (w_0 &&& (1#32 <<< ((BitVec.ofInt 64 i_1)).toNat))) (b := 0#32) rfl (.g rfl hG) .c) ?_
  refine W.q rfl rfl rfl rfl (by decide) (Yd.and rfl (.t rfl) .c rfl rfl) ?_
  refine W.q rfl rfl rfl rfl (by decide) (Yd.as rfl (.t rfl)) ?_
  refine W.end ?_
  refine NX.sub (env' := [(4, _)]) ⟨rfl, trivial⟩ ?_
  refine NX.then ?_
  refine Tr.ret' ?_
  refine res1 rfl rfl ?_
  intro w hc
  cases hr
  exact ⟨rfl, hc⟩

def syllogistref_Ints_k3 : Option (Bool) :=
  some true

def syllogistref_Ints_b7 (a_0 : List Int) (b_1 : List Int) (i_6 : Int) (nx8 : Unit → Option (Bool)) : Option (Bool) :=
  (geti a_0 i_6).bind fun y10 =>
  (geti b_1 i_6).bind fun y12 =>
  (bif (y10 != y12) then
  some false
  else
  nx8 ())

def syllogistref_Ints (a_0 : List Int) (b_1 : List Int) : Option (Bool) :=
  (bif ((a_0.length : Int) != (b_1.length : Int)) then
  some false
  else
  forK (σ := Unit) (fun i s nx_ => syllogistref_Ints_b7 a_0 b_1 i nx_) (fun _ => syllogistref_Ints_k3) ((a_0.length : Int) - (0 : Int)).toNat (0 : Int) ())

set_option maxRecDepth 100000 in
set_option maxHeartbeats 4000000 in
theorem syllogistref_Ints_ok (w0 : World) (m : Snap) (l : List HI) (ua_0 : Value) (a_0 : List Int) (ha_0 : RS rI m ua_0 a_0) (ub_1 : Value) (b_1 : List Int) (hb_1 : RS rI m ub_1 b_1) (r : Bool) (hr : syllogistref_Ints a_0 b_1 = some r) (w : World) (hc : cX w0 ⟨m, l⟩ w) :
    Calls Try.prog 17 [ua_0, ub_1].toArray w fun e w' => e = .returned (.bool r) ∧ cX w0 ⟨m, l⟩ w' := by
  unfold syllogistref_Ints at hr
  refine calls_of_Tr (N := 26) Try.func17 rfl hc rfl (Nat.le_of_ble_eq_true rfl) ?_
  refine Tr.seq ?_
  refine Tr.region_f (fun _ => false) ?_
  refine W.q rfl rfl rfl rfl (by decide) (Yd.as rfl .c) ?_
  refine W.end ?_
  refine NX.sub (env' := [(0, _), (1, _)]) ⟨rfl, rfl, trivial⟩ ?_
  refine NX.then ?_
  refine Tr.seq ?_
  refine Tr.seq ?_
  refine Tr.region_f (fun _ => false) ?_
  refine W.q rfl rfl rfl rfl (by decide) (Yd.mv rfl (.t rfl)) ?_
  refine W.q rfl rfl rfl rfl (by decide) (Yd.lenR ha_0 rfl Try.underlying34 (.t rfl)) ?_
  refine W.q rfl rfl rfl rfl (by decide) (Yd.mv rfl (.t rfl)) ?_
  refine W.q rfl rfl rfl rfl (by decide) (Yd.lenR hb_1 rfl Try.underlying34 (.t rfl)) ?_
  refine W.q rfl rfl rfl rfl (by decide) (Yd.neq rfl (.t rfl) (.t rfl)) ?_
  refine W.end ?_
  refine NX.sub (env' := [(0, _), (1, _), (10, _)]) ⟨rfl, rfl, rfl, trivial⟩ ?_
  refine NX.then ?_
  refine Tr.cond (.t rfl) (fun hb => ?_) (fun hb => ?_)
  · have hr := cond_t hb hr
    refine Tr.seq ?_
    refine Tr.region_f (fun _ => false) ?_
    refine W.q rfl rfl rfl rfl (by decide) (Yd.as rfl .c) ?_
    refine W.end ?_
    refine NX.sub (env' := [(4, _)]) ⟨rfl, trivial⟩ ?_
    refine NX.then ?_
    refine Tr.ret' (RT.then ?_)
    refine res1 rfl rfl ?_
    intro w hc
    cases hr
    exact ⟨rfl, hc⟩
  · have hr := cond_f hb hr
    refine Tr.skip' ?_
    refine NX.then ?_
    refine Tr.seq ?_
    refine Tr.seq ?_
    refine Tr.region_f (fun _ => false) ?_
    refine W.q rfl rfl rfl rfl (by decide) (Yd.as rfl .c) ?_
    refine W.end ?_
    refine NX.sub (env' := [(0, _), (1, _), (5, _)]) ⟨rfl, rfl, rfl, trivial⟩ ?_
    refine NX.then ?_
    refine Tr.join (S := fun env x => env = [] ∧ x = ⟨m, l⟩ ∧ syllogistref_Ints_k3 = some r) ?_ (fun hk4 => ?_)
    · rintro _ _ ⟨rfl, rfl, hr⟩
      unfold syllogistref_Ints_k3 at hr
      try dsimp only at hr
      refine NX.then ?_
      refine Tr.seq ?_
      refine Tr.region_f (fun _ => false) ?_
      refine W.q rfl rfl rfl rfl (by decide) (Yd.as rfl .c) ?_
      refine W.end ?_
      refine NX.sub (env' := [(4, _)]) ⟨rfl, trivial⟩ ?_
      refine NX.then ?_
      refine Tr.ret' ?_
      refine res1 rfl rfl ?_
      intro w hc
      cases hr
      exact ⟨rfl, hc⟩
    have hlen5 := (ha_0).2.1
    refine Tr.block ?_
    refine Tr.sub (env' := [(0, _), (1, _), (5, _)]) ⟨rfl, rfl, rfl, trivial⟩ ?_
    refine Tr.loop (S := fun n (z : Int × Unit) env x => match z with | (i_6, _) => env = [(0, ua_0), (1, ub_1), (5, .int .i64 i_6)] ∧ x = ⟨m, l⟩ ∧ n = ((a_0.length : Int) - i_6).toNat ∧ 0 ≤ i_6 ∧ forK (σ := Unit) (fun i s nx_ => syllogistref_Ints_b7 a_0 b_1 i nx_) (fun _ => syllogistref_Ints_k3) n i_6 () = some r) _ ((0 : Int), ()) ⟨rfl, rfl, rfl, (by omega), hr⟩ ?_
    rintro n9 ⟨i_6, _⟩ env x ⟨rfl, rfl, hni_6, h0i_6, hr⟩
    cases n9 with
    | zero =>
      simp only [forK] at hr
      refine Tr.seq ?_
      refine Tr.seq ?_
      refine Tr.region_f (fun _ => false) ?_
      refine W.q rfl rfl rfl rfl (by decide) (Yd.mv rfl (.t rfl)) ?_
      refine W.q rfl rfl rfl rfl (by decide) (Yd.mv rfl (.t rfl)) ?_
      refine W.q rfl rfl rfl rfl (by decide) (Yd.lenR ha_0 rfl Try.underlying34 (.t rfl)) ?_
      refine W.q rfl rfl rfl rfl (by decide) (Yd.lss rfl (.t rfl) (.t rfl)) ?_
      refine W.end ?_
      refine NX.sub (env' := [(0, _), (1, _), (5, _), (14, _)]) ⟨rfl, rfl, rfl, rfl, trivial⟩ ?_
      refine NX.then ?_
      refine Tr.cond (.t rfl) (fun hb => ?_) (fun hb => ?_)
      · exact absurd (hb.symm.trans (fr_end hni_6)) (by decide)
      ·
        refine Tr.exit' (EX.then (EX.then (EX.block ?_)))
        refine NX.sub (env' := []) trivial ?_
        exact hk4 _ _ ⟨rfl, rfl, hr⟩
    | succ n9 =>
      obtain ⟨nx8, hnx8, hr⟩ := forK_succ hr
      try dsimp only at hr
      unfold syllogistref_Ints_b7 at hr
      try dsimp only at hr
      have hlti_6 := fr_bnd hni_6
      refine Tr.seq ?_
      refine Tr.seq ?_
      refine Tr.region_f (fun _ => false) ?_
      refine W.q rfl rfl rfl rfl (by decide) (Yd.mv rfl (.t rfl)) ?_
      refine W.q rfl rfl rfl rfl (by decide) (Yd.mv rfl (.t rfl)) ?_
      refine W.q rfl rfl rfl rfl (by decide) (Yd.lenR ha_0 rfl Try.underlying34 (.t rfl)) ?_
      refine W.q rfl rfl rfl rfl (by decide) (Yd.lss rfl (.t rfl) (.t rfl)) ?_
      refine W.end ?_
      refine NX.sub (env' := [(0, _), (1, _), (5, _), (14, _)]) ⟨rfl, rfl, rfl, rfl, trivial⟩ ?_
      refine NX.then ?_
      refine Tr.cond (.t rfl) (fun hb => ?_) (fun hb => ?_)
      rotate_left
      · exact absurd (hb.symm.trans (fr_go hni_6)) (by decide)
      ·
        refine Tr.skip' ?_
        refine NX.then ?_
        refine Tr.seq ?_
        refine Tr.block ?_
        refine Tr.seq ?_
        obtain ⟨y10, hy11, hr⟩ := bind_some hr
        obtain ⟨y12, hy13, hr⟩ := bind_some hr
        refine Tr.region_x (fun _ => false) (fun _ => false) (Ord.of [0, 1, 2, 3, 4, 5, 6, 7, 8]) FM (by kernel_rfl) ?_
        refine W.q rfl rfl rfl rfl (by decide) (Yd.mv rfl (.t rfl)) ?_
        refine W.q rfl rfl rfl rfl (by decide) (Yd.mv rfl (.t rfl)) ?_
        refine W.q rfl rfl rfl rfl (by decide) (Yd.idxR ha_0 hy11 rfl Try.underlying34 SZ3 (.t rfl) (.t rfl)) ?_
        refine W.q rfl rfl rfl rfl (by decide) (Yd.ldF ha_0 (.refl _) hy11 rfl rfl ON3 (.t rfl)) ?_
        refine W.q rfl rfl rfl rfl (by decide) (Yd.mv rfl (.t rfl)) ?_
        refine W.q rfl rfl rfl rfl (by decide) (Yd.mv rfl (.t rfl)) ?_
        refine W.q rfl rfl rfl rfl (by decide) (Yd.idxR hb_1 hy13 rfl Try.underlying34 SZ3 (.t rfl) (.t rfl)) ?_
        refine W.q rfl rfl rfl rfl (by decide) (Yd.ldF hb_1 (.refl _) hy13 rfl rfl ON3 (.t rfl)) ?_
        refine W.q rfl rfl rfl rfl (by decide) (Yd.neq rfl (.t rfl) (.t rfl)) ?_
        refine W.end ?_
        refine NX.sub (env' := [(0, _), (1, _), (5, _), (25, _)]) ⟨rfl, rfl, rfl, rfl, trivial⟩ ?_
        refine NX.then ?_
        refine Tr.cond (.t rfl) (fun hb => ?_) (fun hb => ?_)
        · have hr := cond_t hb hr
          refine Tr.seq ?_
          refine Tr.region_f (fun _ => false) ?_
          refine W.q rfl rfl rfl rfl (by decide) (Yd.as rfl .c) ?_
          refine W.end ?_
          refine NX.sub (env' := [(4, _)]) ⟨rfl, trivial⟩ ?_
          refine NX.then ?_
          refine Tr.ret' (RT.block (RT.then (RT.then (RT.block (RT.then ?_)))))
          refine res1 rfl rfl ?_
          intro w hc
          cases hr
          exact ⟨rfl, hc⟩
        · have hr := cond_f hb hr
          refine Tr.skip' ?_
          refine NX.block ?_
          refine NX.then ?_
          refine Tr.region_f (fun _ => false) ?_
          refine W.q rfl rfl rfl rfl (by decide) (Yd.mv rfl (.t rfl)) ?_
          refine W.q rfl rfl rfl rfl (by decide) (Yd.add rfl (.t rfl) .c) ?_
          refine W.q rfl rfl rfl rfl (by decide) (Yd.as rfl (.t rfl)) ?_
          refine W.end ?_
          refine NX.sub (env' := [(0, _), (1, _), (5, _)]) ⟨rfl, rfl, rfl, trivial⟩ ?_
          refine NX.sub (env' := [(0, _), (1, _), (5, _)]) ⟨rfl, rfl, rfl, trivial⟩ ?_
          have hw := w64_id (n := i_6 + 1) (by omega) (by omega)
          exact NX.again n9 (i_6 + 1, ()) (Nat.lt_succ_self _) ⟨(by rw [hw] <;> rfl), rfl, (fr_dec hni_6), (by omega), ((hnx8 _).symm.trans hr)⟩
end Go.Proofs.Ytjpoedjmoobapaa.Sy
