/- Functions of the program as plain functions, and that the translation computes them; the conditions stand in each theorem. Printed by an own program. -/
import Derived.Test.YtjpoedjmoobapaaT
import Derived.Test.YtjpoedjmoobapaaProg
namespace Go.Proofs.Ytjpoedjmoobapaa.Sy
open Go
set_option linter.unusedVariables false
theorem ON3 : one Try.prog 3 = true := by kernel_rfl
theorem SZ31 : (Try.prog.info? 31).map (·.size) = some 1 := by kernel_rfl
theorem ON31 : one Try.prog 31 = true := by kernel_rfl
theorem ON22 : one Try.prog 22 = true := by kernel_rfl
theorem IF31 : (Try.prog.info? 31).map (fun i => (i.zero, i.size, i.bytes)) = some (some (.int .u32 0), 1, 4) := by kernel_rfl
theorem US3 : (Try.prog.underlying 3).isSome = true := by kernel_rfl
theorem FM : Try.prog.follows .mixedOrders = true := by kernel_rfl

def share_lost_c1 (s_0 : (BitVec 32)) (cp_0 : Int) : Option (Bool) :=
  bif decide (0 ≤ cp_0) then
  some (((s_0 >>> cp_0.toNat) != 0#32)) else none

set_option maxRecDepth 100000 in
theorem share_lost_c1_ok (w0 : World) (m : Snap) (l : List HI) (s_0 : (BitVec 32)) (fp0 fb0 : Nat) (cp_0 : Int) (hfp0 : l[fp0]? = some (hcells fb0 [.int .i64 cp_0] 3)) (r : Bool) (hr : share_lost_c1 s_0 cp_0 = some r) (w : World) (hc : cX w0 ⟨m, l⟩ w) :
    Calls Try.prog 39 [.int .u32 (s_0.toNat : Int), bp fb0 0].toArray w fun e w' => e = .returned (.bool r) ∧ cX w0 ⟨m, l⟩ w' := by
  unfold share_lost_c1 at hr
  refine calls_of_Tr (N := 8) Try.func39 rfl hc rfl (Nat.le_of_ble_eq_true rfl) ?_
  refine Tr.seq ?_
  refine Tr.region_f (fun _ => false) ?_
  refine W.q rfl rfl rfl rfl (by decide) (Yd.as rfl .c) ?_
  refine W.end ?_
  refine NX.sub (env' := [(0, _), (1, _)]) ⟨rfl, rfl, trivial⟩ ?_
  refine NX.then ?_
  refine Tr.seq ?_
  obtain ⟨hq1, hr⟩ := guard_some hr; replace hq1 := of_decide_eq_true hq1
  refine Tr.region_f (fun _ => false) ?_
  refine W.q rfl rfl rfl rfl (by decide) (Yd.mv rfl (.t rfl)) ?_
  refine W.q rfl rfl rfl rfl (by decide) (Yd.ldB (pos := fp0) hfp0 rfl rfl ON3 (.t rfl)) ?_
  refine W.q rfl rfl rfl rfl (by decide) (Yd.shrU (a := s_0) rfl (.t rfl) (.t rfl) hq1) ?_
  refine W.q rfl rfl rfl rfl (by decide) (Yd.neqU (a := (s_0 >>> cp_0.toNat)) (b := 0#32) rfl (.t rfl) .c) ?_
  refine W.q rfl rfl rfl rfl (by decide) (Yd.as rfl (.t rfl)) ?_
  refine W.end ?_
  refine NX.sub (env' := [(3, _)]) ⟨rfl, trivial⟩ ?_
  refine NX.then ?_
  refine Tr.ret' ?_
  refine res1 rfl rfl ?_
  intro w hc
  cases hr
  exact ⟨rfl, hc⟩

def slices_IndexFunc_Suint32uint32_k3 : Option (Int) :=
  some ((-1 : Int))

def slices_IndexFunc_Suint32uint32_b7 (s_0 : List (BitVec 32)) (f_1 : (BitVec 32) → Option Bool) (t_6 : Int) (nx8 : Unit → Option (Int)) : Option (Int) :=
  (geti s_0 t_6).bind fun y10 =>
  (f_1 y10).bind fun r12 =>
  (bif r12 then
  some t_6
  else
  nx8 ())

def slices_IndexFunc_Suint32uint32 (s_0 : List (BitVec 32)) (f_1 : (BitVec 32) → Option Bool) : Option (Int) :=
  forK (σ := Unit) (fun i s nx_ => slices_IndexFunc_Suint32uint32_b7 s_0 f_1 i nx_) (fun _ => slices_IndexFunc_Suint32uint32_k3) ((s_0.length : Int) - (0 : Int)).toNat (0 : Int) ()

set_option maxRecDepth 100000 in
theorem slices_IndexFunc_Suint32uint32_ok (w0 : World) (m : Snap) (l : List HI) (us_0 : Value) (s_0 : List (BitVec 32)) (hs_0 : RS rU m us_0 s_0) (uf_1 : Value) (f_1 : (BitVec 32) → Option Bool) (hf_1 : Fq Try.prog w0 ⟨m, l⟩ uf_1 (α := (BitVec 32)) (β := Bool) (fun _ v a => v = .int .u32 (a.toNat : Int)) (fun b => .bool b) f_1) (r : Int) (hr : slices_IndexFunc_Suint32uint32 s_0 f_1 = some r) (w : World) (hc : cX w0 ⟨m, l⟩ w) :
    Calls Try.prog 45 [us_0, uf_1].toArray w fun e w' => e = .returned (.int .i64 r) ∧ cX w0 ⟨m, l⟩ w' := by
  unfold slices_IndexFunc_Suint32uint32 at hr
  refine calls_of_Tr (N := 19) Try.func45 rfl hc rfl (Nat.le_of_ble_eq_true rfl) ?_
  refine Tr.seq ?_
  refine Tr.region_f (fun _ => false) ?_
  refine W.q rfl rfl rfl rfl (by decide) (Yd.as rfl .c) ?_
  refine W.end ?_
  refine NX.sub (env' := [(0, _), (1, _)]) ⟨rfl, rfl, trivial⟩ ?_
  refine NX.then ?_
  refine Tr.seq ?_
  refine Tr.seq ?_
  refine Tr.region_f (fun _ => false) ?_
  refine W.q rfl rfl rfl rfl (by decide) (Yd.mv rfl (.t rfl)) ?_
  refine W.q rfl rfl rfl rfl (by decide) (Yd.lenR hs_0 rfl Try.underlying22 (.t rfl)) ?_
  refine W.q rfl rfl rfl rfl (by decide) (Yd.mv rfl .c) ?_
  refine W.end ?_
  refine NX.sub (env' := [(0, _), (1, _), (7, _), (8, _)]) ⟨rfl, rfl, rfl, rfl, trivial⟩ ?_
  refine NX.then ?_
  refine Tr.join (S := fun env x => env = [] ∧ x = ⟨m, l⟩ ∧ slices_IndexFunc_Suint32uint32_k3 = some r) ?_ (fun hk4 => ?_)
  · rintro _ _ ⟨rfl, rfl, hr⟩
    unfold slices_IndexFunc_Suint32uint32_k3 at hr
    try dsimp only at hr
    refine NX.then ?_
    refine Tr.seq ?_
    refine Tr.region_f (fun _ => false) ?_
    refine W.q rfl rfl rfl rfl (by decide) (Yd.as rfl .c) ?_
    refine W.end ?_
    refine NX.sub (env' := [(4, _)]) ⟨rfl, trivial⟩ ?_
    refine NX.then ?_
    refine Tr.ret' ?_
    refine res1 rfl rfl ?_
    intro w hc
    cases hr
    exact ⟨rfl, hc⟩
  have hlen5 := (hs_0).2.1
  refine Tr.block ?_
  refine Tr.sub (env' := [(0, _), (1, _), (7, _), (8, _)]) ⟨rfl, rfl, rfl, rfl, trivial⟩ ?_
  refine Tr.loop (S := fun n (z : Int × Unit) env x => match z with | (t_6, _) => env = [(0, us_0), (1, uf_1), (7, .int .i64 ((s_0.length : Int))), (8, .int .i64 t_6)] ∧ x = ⟨m, l⟩ ∧ n = ((s_0.length : Int) - t_6).toNat ∧ 0 ≤ t_6 ∧ forK (σ := Unit) (fun i s nx_ => slices_IndexFunc_Suint32uint32_b7 s_0 f_1 i nx_) (fun _ => slices_IndexFunc_Suint32uint32_k3) n t_6 () = some r) _ ((0 : Int), ()) ⟨rfl, rfl, rfl, (by omega), hr⟩ ?_
  rintro n9 ⟨t_6, _⟩ env x ⟨rfl, rfl, hnt_6, h0t_6, hr⟩
  cases n9 with
  | zero =>
    simp only [forK] at hr
    refine Tr.seq ?_
    refine Tr.region_f (fun _ => false) ?_
    refine W.q rfl rfl rfl rfl (by decide) (Yd.lss rfl (.t rfl) (.t rfl)) ?_
    refine W.end ?_
    refine NX.sub (env' := [(0, _), (1, _), (7, _), (8, _), (9, _)]) ⟨rfl, rfl, rfl, rfl, rfl, trivial⟩ ?_
    refine NX.then ?_
    refine Tr.seq ?_
    refine Tr.cond (.t rfl) (fun hb => ?_) (fun hb => ?_)
    · exact absurd (hb.symm.trans (fr_end hnt_6)) (by decide)
    ·
      refine Tr.exit' (EX.then (EX.then (EX.block ?_)))
      refine NX.sub (env' := []) trivial ?_
      exact hk4 _ _ ⟨rfl, rfl, hr⟩
  | succ n9 =>
    obtain ⟨nx8, hnx8, hr⟩ := forK_succ hr
    try dsimp only at hr
    unfold slices_IndexFunc_Suint32uint32_b7 at hr
    try dsimp only at hr
    have hltt_6 := fr_bnd hnt_6
    refine Tr.seq ?_
    refine Tr.region_f (fun _ => false) ?_
    refine W.q rfl rfl rfl rfl (by decide) (Yd.lss rfl (.t rfl) (.t rfl)) ?_
    refine W.end ?_
    refine NX.sub (env' := [(0, _), (1, _), (7, _), (8, _), (9, _)]) ⟨rfl, rfl, rfl, rfl, rfl, trivial⟩ ?_
    refine NX.then ?_
    refine Tr.seq ?_
    refine Tr.cond (.t rfl) (fun hb => ?_) (fun hb => ?_)
    rotate_left
    · exact absurd (hb.symm.trans (fr_go hnt_6)) (by decide)
    ·
      refine Tr.skip' ?_
      refine NX.then ?_
      refine Tr.seq ?_
      refine Tr.block ?_
      refine Tr.seq ?_
      refine Tr.region_f (fun _ => false) ?_
      refine W.q rfl rfl rfl rfl (by decide) (Yd.mv rfl (.t rfl)) ?_
      refine W.q rfl rfl rfl rfl (by decide) (Yd.as rfl (.t rfl)) ?_
      refine W.end ?_
      refine NX.sub (env' := [(0, _), (1, _), (7, _), (8, _), (5, _)]) ⟨rfl, rfl, rfl, rfl, rfl, trivial⟩ ?_
      refine NX.then ?_
      refine Tr.seq ?_
      obtain ⟨y10, hy11, hr⟩ := bind_some hr
      obtain ⟨r12, hr13, hr⟩ := bind_some hr
      refine Tr.region_f (fun _ => false) ?_
      refine W.q rfl rfl rfl rfl (by decide) (Yd.mv rfl (.t rfl)) ?_
      refine W.q rfl rfl rfl rfl (by decide) (Yd.mv rfl (.t rfl)) ?_
      refine W.q rfl rfl rfl rfl (by decide) (Yd.mv rfl (.t rfl)) ?_
      refine W.q rfl rfl rfl rfl (by decide) (Yd.idxR hs_0 hy11 rfl Try.underlying22 SZ31 (.t rfl) (.t rfl)) ?_
      refine W.q rfl rfl rfl rfl (by decide) (Yd.ldF hs_0 (.refl _) hy11 rfl rfl ON31 (.t rfl)) ?_
      refine W.q rfl rfl rfl rfl (by decide) (Yd.callF hf_1 ⟨(.refl _), [], rfl⟩ rfl (.t rfl) (.t rfl) (fun _ _ => rfl) hr13) ?_
      refine W.end ?_
      refine NX.sub (env' := [(0, _), (1, _), (7, _), (8, _), (5, _), (16, _)]) ⟨rfl, rfl, rfl, rfl, rfl, rfl, trivial⟩ ?_
      refine NX.then ?_
      refine Tr.cond (.t rfl) (fun hb => ?_) (fun hb => ?_)
      · have hr := cond_t hb hr
        refine Tr.seq ?_
        refine Tr.region_f (fun _ => false) ?_
        refine W.q rfl rfl rfl rfl (by decide) (Yd.mv rfl (.t rfl)) ?_
        refine W.q rfl rfl rfl rfl (by decide) (Yd.as rfl (.t rfl)) ?_
        refine W.end ?_
        refine NX.sub (env' := [(4, _)]) ⟨rfl, trivial⟩ ?_
        refine NX.then ?_
        refine Tr.ret' (RT.block (RT.then (RT.then (RT.block (RT.then ?_)))))
        refine res1 rfl rfl ?_
        intro w hc
        cases hr
        exact ⟨rfl, hc⟩
      · have hr := cond_f hb hr
        refine Tr.skip' ?_
        refine NX.block ?_
        refine NX.then ?_
        refine Tr.region_f (fun _ => false) ?_
        refine W.q rfl rfl rfl rfl (by decide) (Yd.add rfl (.t rfl) .c) ?_
        refine W.q rfl rfl rfl rfl (by decide) (Yd.mv rfl (.t rfl)) ?_
        refine W.end ?_
        refine NX.sub (env' := [(0, _), (1, _), (7, _), (8, _)]) ⟨rfl, rfl, rfl, rfl, trivial⟩ ?_
        refine NX.sub (env' := [(0, _), (1, _), (7, _), (8, _)]) ⟨rfl, rfl, rfl, rfl, trivial⟩ ?_
        have hw := w64_id (n := t_6 + 1) (by omega) (by omega)
        exact NX.again n9 (t_6 + 1, ()) (Nat.lt_succ_self _) ⟨(by rw [hw] <;> rfl), rfl, (fr_dec hnt_6), (by omega), ((hnx8 _).symm.trans hr)⟩

def slices_ContainsFunc_Suint32uint32 (s_0 : List (BitVec 32)) (f_1 : (BitVec 32) → Option Bool) : Option (Bool) :=
  (slices_IndexFunc_Suint32uint32 s_0 f_1).bind fun r1 =>
  some ((decide (r1 ≥ (0 : Int))))

set_option maxRecDepth 100000 in
theorem slices_ContainsFunc_Suint32uint32_ok (w0 : World) (m : Snap) (l : List HI) (us_0 : Value) (s_0 : List (BitVec 32)) (hs_0 : RS rU m us_0 s_0) (uf_1 : Value) (f_1 : (BitVec 32) → Option Bool) (hf_1 : Fq Try.prog w0 ⟨m, l⟩ uf_1 (α := (BitVec 32)) (β := Bool) (fun _ v a => v = .int .u32 (a.toNat : Int)) (fun b => .bool b) f_1) (r : Bool) (hr : slices_ContainsFunc_Suint32uint32 s_0 f_1 = some r) (w : World) (hc : cX w0 ⟨m, l⟩ w) :
    Calls Try.prog 33 [us_0, uf_1].toArray w fun e w' => e = .returned (.bool r) ∧ cX w0 ⟨m, l⟩ w' := by
  unfold slices_ContainsFunc_Suint32uint32 at hr
  refine calls_of_Tr (N := 9) Try.func33 rfl hc rfl (Nat.le_of_ble_eq_true rfl) ?_
  refine Tr.seq ?_
  refine Tr.region_f (fun _ => false) ?_
  refine W.q rfl rfl rfl rfl (by decide) (Yd.as rfl .c) ?_
  refine W.end ?_
  refine NX.sub (env' := [(0, _), (1, _)]) ⟨rfl, rfl, trivial⟩ ?_
  refine NX.then ?_
  refine Tr.seq ?_
  obtain ⟨r1, hr2, hr⟩ := bind_some hr
  refine Tr.region_f (fun _ => false) ?_
  refine W.q rfl rfl rfl rfl (by decide) (Yd.mv rfl (.t rfl)) ?_
  refine W.q rfl rfl rfl rfl (by decide) (Yd.mv rfl (.t rfl)) ?_
  refine W.q rfl rfl rfl rfl (by decide) (Yd.call (v := .int .i64 r1) rfl Try.func45 rfl rfl (.cons (.t rfl) (.cons (.t rfl) .nil)) (fun x' hx w hw => slices_IndexFunc_Suint32uint32_ok w0 x'.m x'.l _ _ (hs_0.mono hx.1) _ f_1 (hf_1.mono (leX_trans _ _ _ ⟨(.refl _), [], rfl⟩ hx)) _ hr2 w hw)) ?_
  refine W.q rfl rfl rfl rfl (by decide) (Yd.geq rfl (.t rfl) .c) ?_
  refine W.q rfl rfl rfl rfl (by decide) (Yd.as rfl (.t rfl)) ?_
  refine W.end ?_
  refine NX.sub (env' := [(4, _)]) ⟨rfl, trivial⟩ ?_
  refine NX.then ?_
  refine Tr.ret' ?_
  refine res1 rfl rfl ?_
  intro w hc
  cases hr
  exact ⟨rfl, hc⟩

def share_lost_c2_c1 (s_0 : (BitVec 32)) (cp_0 : (BitVec 32)) : Option (Bool) :=
  some (((s_0 &&& ~~~cp_0) == 0#32))

set_option maxRecDepth 100000 in
theorem share_lost_c2_c1_ok (w0 : World) (m : Snap) (l : List HI) (s_0 : (BitVec 32)) (fp0 fb0 : Nat) (cp_0 : (BitVec 32)) (hfp0 : l[fp0]? = some (hcells fb0 [.int .u32 (cp_0.toNat : Int)] 31)) (r : Bool) (hr : share_lost_c2_c1 s_0 cp_0 = some r) (w : World) (hc : cX w0 ⟨m, l⟩ w) :
    Calls Try.prog 41 [.int .u32 (s_0.toNat : Int), bp fb0 0].toArray w fun e w' => e = .returned (.bool r) ∧ cX w0 ⟨m, l⟩ w' := by
  unfold share_lost_c2_c1 at hr
  refine calls_of_Tr (N := 8) Try.func41 rfl hc rfl (Nat.le_of_ble_eq_true rfl) ?_
  refine Tr.seq ?_
  refine Tr.region_f (fun _ => false) ?_
  refine W.q rfl rfl rfl rfl (by decide) (Yd.as rfl .c) ?_
  refine W.end ?_
  refine NX.sub (env' := [(0, _), (1, _)]) ⟨rfl, rfl, trivial⟩ ?_
  refine NX.then ?_
  refine Tr.seq ?_
  refine Tr.region_f (fun _ => false) ?_
  refine W.q rfl rfl rfl rfl (by decide) (Yd.mv rfl (.t rfl)) ?_
  refine W.q rfl rfl rfl rfl (by decide) (Yd.ldB (pos := fp0) hfp0 rfl rfl ON31 (.t rfl)) ?_
  refine W.q rfl rfl rfl rfl (by decide) (Yd.andnU (a := s_0) (b := cp_0) rfl (.t rfl) (.t rfl)) ?_
  refine W.q rfl rfl rfl rfl (by decide) (Yd.eqlU (a := (s_0 &&& ~~~cp_0)) (b := 0#32) rfl (.t rfl) .c) ?_
  refine W.q rfl rfl rfl rfl (by decide) (Yd.as rfl (.t rfl)) ?_
  refine W.end ?_
  refine NX.sub (env' := [(3, _)]) ⟨rfl, trivial⟩ ?_
  refine NX.then ?_
  refine Tr.ret' ?_
  refine res1 rfl rfl ?_
  intro w hc
  cases hr
  exact ⟨rfl, hc⟩

def share_lost_c2 (who_0 : (BitVec 32)) (cp_0 : List (BitVec 32)) : Option (Bool) :=
  (slices_ContainsFunc_Suint32uint32 cp_0 (fun a => share_lost_c2_c1 a who_0)).bind fun r3 =>
  some ((!r3))

set_option maxRecDepth 100000 in
theorem share_lost_c2_ok (w0 : World) (m : Snap) (l : List HI) (who_0 : (BitVec 32)) (fp0 fb0 : Nat) (uc_0 : Value) (cp_0 : List (BitVec 32)) (hc_0 : RS rU m uc_0 cp_0) (hfp0 : l[fp0]? = some (hcells fb0 [uc_0] 22)) (r : Bool) (hr : share_lost_c2 who_0 cp_0 = some r) (w : World) (hc : cX w0 ⟨m, l⟩ w) :
    Calls Try.prog 40 [.int .u32 (who_0.toNat : Int), bp fb0 0].toArray w fun e w' => e = .returned (.bool r) ∧ cX w0 ⟨m, l⟩ w' := by
  unfold share_lost_c2 at hr
  refine calls_of_Tr (N := 8) Try.func40 rfl hc rfl (Nat.le_of_ble_eq_true rfl) ?_
  refine Tr.seq ?_
  refine Tr.region_f (fun i => Nat.beq i 0) ?_
  refine W.e rfl rfl rfl rfl (by decide) (Ef.bx rfl (.t rfl) rfl) ?_
  rintro _ _ ⟨b1, rfl, rfl⟩
  refine ⟨.inl rfl, ?_⟩
  refine W.cast (m' := m) (l' := hcells b1 [_] 31 :: l) rfl rfl ?_
  refine W.q rfl rfl rfl rfl (by decide) (Yd.as rfl .c) ?_
  refine W.end ?_
  refine NX.sub (env' := [(1, _), (2, _)]) ⟨rfl, rfl, trivial⟩ ?_
  refine NX.then ?_
  refine Tr.seq ?_
  obtain ⟨r3, hr4, hr⟩ := bind_some hr
  refine Tr.region_f (fun _ => false) ?_
  refine W.q rfl rfl rfl rfl (by decide) (Yd.ldB (pos := (fp0 + 1)) hfp0 rfl rfl ON22 (.t rfl)) ?_
  refine W.q rfl rfl rfl rfl (by decide) (Yd.mkf rfl (.cons (.t rfl) .nil)) ?_
  refine W.q rfl rfl rfl rfl (by decide) (Yd.call (v := .bool r3) rfl Try.func33 rfl rfl (.cons (.t rfl) (.cons (.t rfl) .nil)) (fun x' hx w hw => slices_ContainsFunc_Suint32uint32_ok w0 x'.m x'.l _ _ (hc_0.mono hx.1) _ (fun a => share_lost_c2_c1 a who_0) ⟨41, _, _, rfl, Try.func41, rfl, rfl, fun y hy w2 hw2 v a r2 hv hr2 => by obtain ⟨p5, hp5⟩ := (leX_trans _ _ _ hx hy).at (p := 0) rfl; obtain rfl := hv; exact share_lost_c2_c1_ok w0 y.m y.l a p5 _ who_0 hp5 r2 hr2 w2 hw2⟩ _ hr4 w hw)) ?_
  refine W.q rfl rfl rfl rfl (by decide) (Yd.not rfl (.t rfl)) ?_
  refine W.q rfl rfl rfl rfl (by decide) (Yd.as rfl (.t rfl)) ?_
  refine W.end ?_
  refine NX.sub (env' := [(3, _)]) ⟨rfl, trivial⟩ ?_
  refine NX.drop (l' := l) (.cons _ (.refl _)) ?_
  refine NX.then ?_
  refine Tr.ret' ?_
  refine res1 rfl rfl ?_
  intro w hc
  cases hr
  exact ⟨rfl, hc⟩

def share_lost_k17 (l15 : List (BitVec 32)) : Option ((List (BitVec 32)) × Int) :=
  some ((l15, (0 : Int)))

def share_lost_k30 (t_19 : BitVec 32) (l13 : List (BitVec 32)) (nx21 : ((List (BitVec 32)) → Option ((List (BitVec 32)) × Int))) (most_29 : Bool) : Option ((List (BitVec 32)) × Int) :=
  (bif most_29 then
  bif decide (l13.length + (([t_19] : List (BitVec 32))).length ≤ 35184372088832) then
  nx21 (l13 ++ ([t_19] : List (BitVec 32))) else none
  else
  nx21 l13)

def share_lost_b38 (sets_1 : List (BitVec 32)) (t_19 : BitVec 32) (t_37 : Int) (most_27 : Bool) (nx39 : Bool → Option ((List (BitVec 32)) × Int)) : Option ((List (BitVec 32)) × Int) :=
  bif (!((most_27 == true) && ((((t_19 >>> t_37.toNat) &&& 1#32) == 1#32) == false)) || (share_lost_c2 ((t_19 ||| (1#32 <<< t_37.toNat))) sets_1).isSome) then
  nx39 (most_27 && ((((t_19 >>> t_37.toNat) &&& 1#32) == 1#32) || (!(((share_lost_c2 ((t_19 ||| (1#32 <<< t_37.toNat))) sets_1).getD false))))) else none

def share_lost_b20 (n_0 : Int) (sets_1 : List (BitVec 32)) (t_19 : BitVec 32) (l13 : List (BitVec 32)) (nx21 : (List (BitVec 32)) → Option ((List (BitVec 32)) × Int)) : Option ((List (BitVec 32)) × Int) :=
  (share_lost_c2 t_19 sets_1).bind fun r23 =>
  bif decide (n_0 ≤ 9223372036854775807) then
  forK (σ := Bool) (fun i s nx_ => share_lost_b38 sets_1 t_19 i s nx_) (fun s => share_lost_k30 t_19 l13 nx21 s) (n_0 - (0 : Int)).toNat (0 : Int) r23 else none

def share_lost (n_0 : Int) (sets_1 : List (BitVec 32)) : Option ((List (BitVec 32)) × Int) :=
  (bif (((decide (n_0 < (1 : Int))) || (decide (n_0 > (6 : Int)))) || (decide ((sets_1.length : Int) > (10 : Int)))) then
  some (([], (1 : Int)))
  else
  (slices_ContainsFunc_Suint32uint32 sets_1 (fun a => share_lost_c1 a n_0)).bind fun r5 =>
  (bif r5 then
  some (([], (4 : Int)))
  else
  bif decide (0 ≤ n_0) then
  forK (σ := (List (BitVec 32))) (fun i s nx_ => share_lost_b20 n_0 sets_1 i s nx_) (fun s => share_lost_k17 s) (((1#32 <<< n_0.toNat)).toNat - (0#32).toNat) 0#32 (([] : List (BitVec 32))) else none))

set_option maxRecDepth 100000 in
theorem share_lost_ok (w0 : World) (m : Snap) (l : List HI) (n_0 : Int) (usets_1 : Value) (sets_1 : List (BitVec 32)) (hsets_1 : RS rU m usets_1 sets_1) (r : (List (BitVec 32)) × Int) (hr : share_lost n_0 sets_1 = some r) (w : World) (hc : cX w0 ⟨m, l⟩ w) :
    Calls Try.prog 22 [.int .i64 n_0, usets_1].toArray w fun e w' => ∃ z0 : Value, e = .returned (.tuple #[z0, .int .i64 r.2]) ∧ cX w0 ⟨m, hownT 31 1 encU z0 r.1 :: l⟩ w' := by
  unfold share_lost at hr
  refine calls_of_Tr (N := 63) Try.func22 rfl hc rfl (Nat.le_of_ble_eq_true rfl) ?_
  refine Tr.seq ?_
  refine Tr.region_f (fun i => Nat.beq i 0 || Nat.beq i 1) ?_
  refine W.e rfl rfl rfl rfl (by decide) (Ef.bx rfl (.t rfl) rfl) ?_
  rintro _ _ ⟨b1, rfl, rfl⟩
  refine ⟨.inl rfl, ?_⟩
  refine W.cast (m' := m) (l' := hcells b1 [_] 3 :: l) rfl rfl ?_
  refine W.e rfl rfl rfl rfl (by decide) (Ef.bx (us := [usets_1]) rfl (.t rfl) (RS.cells hsets_1)) ?_
  rintro _ _ ⟨b3, rfl, rfl⟩
  refine ⟨.inl rfl, ?_⟩
  refine W.cast (m' := m) (l' := hcells b3 [_] 22 :: hcells b1 [_] 3 :: l) rfl rfl ?_
  refine W.q rfl rfl rfl rfl (by decide) (Yd.as rfl .c) ?_
  refine W.q rfl rfl rfl rfl (by decide) (Yd.as rfl .c) ?_
  refine W.end ?_
  refine NX.sub (env' := [(2, _), (3, _)]) ⟨rfl, rfl, trivial⟩ ?_
  refine NX.then ?_
  refine Tr.seq ?_
  refine Tr.seq ?_
  refine Tr.region_f (fun _ => false) ?_
  refine W.q rfl rfl rfl rfl (by decide) (Yd.ldB (pos := 1) rfl rfl rfl ON3 (.t rfl)) ?_
  refine W.q rfl rfl rfl rfl (by decide) (Yd.lss rfl (.t rfl) .c) ?_
  refine W.q rfl rfl rfl rfl (by decide) (Yd.mv rfl (.t rfl)) ?_
  refine W.g rfl rfl rfl rfl rfl (.t rfl _) rfl (by decide) (fun hG => Yd.ldB (pos := 1) rfl rfl rfl ON3 (.t rfl)) ?_
  refine W.g rfl rfl rfl rfl rfl (.t rfl _) rfl (by decide) (fun hG => Yd.gtr rfl (.g rfl hG) .c) ?_
  refine W.q rfl rfl rfl rfl (by decide) (Yd.or rfl (.t rfl) .c rfl rfl) ?_
  refine W.q rfl rfl rfl rfl (by decide) (Yd.mv rfl (.t rfl)) ?_
  refine W.g rfl rfl rfl rfl rfl (.t rfl _) rfl (by decide) (fun hG => Yd.ldB (pos := 0) rfl rfl rfl ON22 (.t rfl)) ?_
  refine W.g rfl rfl rfl rfl rfl (.t rfl _) rfl (by decide) (fun hG => Yd.lenR hsets_1 rfl Try.underlying22 (.g rfl hG)) ?_
  refine W.g rfl rfl rfl rfl rfl (.t rfl _) rfl (by decide) (fun hG => Yd.gtr rfl (.g rfl hG) .c) ?_
  refine W.q rfl rfl rfl rfl (by decide) (Yd.or rfl (.t rfl) .c rfl rfl) ?_
  refine W.end ?_
  refine NX.sub (env' := [(2, _), (3, _), (21, _)]) ⟨rfl, rfl, rfl, trivial⟩ ?_
  refine NX.then ?_
  refine Tr.cond (.t rfl) (fun hb => ?_) (fun hb => ?_)
  · have hr := cond_t hb hr
    refine Tr.seq ?_
    refine Tr.region_f (fun _ => false) ?_
    refine W.q rfl rfl rfl rfl (by decide) (Yd.as rfl .c) ?_
    refine W.q rfl rfl rfl rfl (by decide) (Yd.as rfl .c) ?_
    refine W.end ?_
    refine NX.sub (env' := [(4, _), (5, _)]) ⟨rfl, rfl, trivial⟩ ?_
    refine NX.drop (l' := l) (.cons _ (.cons _ (.refl _))) ?_
    refine NX.then ?_
    refine Tr.ret' (RT.then ?_)
    refine res2 rfl rfl rfl ?_
    intro w hc
    cases hr
    exact ⟨_, rfl, (cX_nil hc)⟩
  · have hr := cond_f hb hr
    refine Tr.skip' ?_
    refine NX.then ?_
    refine Tr.seq ?_
    refine Tr.seq ?_
    obtain ⟨r5, hr6, hr⟩ := bind_some hr
    refine Tr.region_f (fun _ => false) ?_
    refine W.q rfl rfl rfl rfl (by decide) (Yd.ldB (pos := 0) rfl rfl rfl ON22 (.t rfl)) ?_
    refine W.q rfl rfl rfl rfl (by decide) (Yd.mkf rfl (.cons (.t rfl) .nil)) ?_
    refine W.q rfl rfl rfl rfl (by decide) (Yd.call (v := .bool r5) rfl Try.func33 rfl rfl (.cons (.t rfl) (.cons (.t rfl) .nil)) (fun x' hx w hw => slices_ContainsFunc_Suint32uint32_ok w0 x'.m x'.l _ _ (hsets_1.mono hx.1) _ (fun a => share_lost_c1 a n_0) ⟨39, _, _, rfl, Try.func39, rfl, rfl, fun y hy w2 hw2 v a r2 hv hr2 => by obtain ⟨p5, hp5⟩ := (leX_trans _ _ _ hx hy).at (p := 1) rfl; obtain rfl := hv; exact share_lost_c1_ok w0 y.m y.l a p5 _ n_0 hp5 r2 hr2 w2 hw2⟩ _ hr6 w hw)) ?_
    refine W.end ?_
    refine NX.sub (env' := [(2, _), (3, _), (24, _)]) ⟨rfl, rfl, rfl, trivial⟩ ?_
    refine NX.then ?_
    refine Tr.cond (.t rfl) (fun hb => ?_) (fun hb => ?_)
    · have hr := cond_t hb hr
      refine Tr.seq ?_
      refine Tr.region_f (fun _ => false) ?_
      refine W.q rfl rfl rfl rfl (by decide) (Yd.as rfl .c) ?_
      refine W.q rfl rfl rfl rfl (by decide) (Yd.as rfl .c) ?_
      refine W.end ?_
      refine NX.sub (env' := [(4, _), (5, _)]) ⟨rfl, rfl, trivial⟩ ?_
      refine NX.drop (l' := l) (.cons _ (.cons _ (.refl _))) ?_
      refine NX.then ?_
      refine Tr.ret' (RT.then ?_)
      refine res2 rfl rfl rfl ?_
      intro w hc
      cases hr
      exact ⟨_, rfl, (cX_nil hc)⟩
    · have hr := cond_f hb hr
      refine Tr.skip' ?_
      refine NX.then ?_
      refine Tr.seq ?_
      refine Tr.region_f (fun _ => false) ?_
      refine W.q rfl rfl rfl rfl (by decide) (Yd.mkf rfl (.cons (.t rfl) .nil)) ?_
      refine W.q rfl rfl rfl rfl (by decide) (Yd.as rfl (.t rfl)) ?_
      refine W.end ?_
      refine NX.sub (env' := [(2, _), (6, _)]) ⟨rfl, rfl, trivial⟩ ?_
      refine NX.then ?_
      refine Tr.seq ?_
      refine Tr.region_f (fun _ => false) ?_
      refine W.q rfl rfl rfl rfl (by decide) (Yd.as rfl .c) ?_
      refine W.end ?_
      refine NX.sub (env' := [(2, _), (6, _), (7, _)]) ⟨rfl, rfl, rfl, trivial⟩ ?_
      refine NX.then ?_
      refine Tr.seq ?_
      refine Tr.seq ?_
      obtain ⟨hq7, hr⟩ := guard_some hr; replace hq7 := of_decide_eq_true hq7
      refine Tr.region_f (fun _ => false) ?_
      refine W.q rfl rfl rfl rfl (by decide) (Yd.ldB (pos := 1) rfl rfl rfl ON3 (.t rfl)) ?_
      refine W.q rfl rfl rfl rfl (by decide) (Yd.shlU (a := 1#32) rfl .c (.t rfl) hq7) ?_
      refine W.q rfl rfl rfl rfl (by decide) (Yd.mv rfl .c) ?_
      refine W.end ?_
      refine NX.sub (env' := [(2, _), (6, _), (7, _), (27, _), (28, _)]) ⟨rfl, rfl, rfl, rfl, rfl, trivial⟩ ?_
      refine NX.then ?_
      refine Tr.addnil 31 1 ?_
      refine Tr.join (S := fun env x => ∃ l15 : List (BitVec 32), ∃ v16 : Value, env = [(7, v16)] ∧ x = ⟨m, hownT 31 1 encU v16 l15 :: l⟩ ∧ share_lost_k17 l15 = some r) ?_ (fun hk18 => ?_)
      · rintro _ _ ⟨l15, v16, rfl, rfl, hr⟩
        unfold share_lost_k17 at hr
        try dsimp only at hr
        refine NX.then ?_
        refine Tr.seq ?_
        refine Tr.region_f (fun _ => false) ?_
        refine W.q rfl rfl rfl rfl (by decide) (Yd.mv rfl (.t rfl)) ?_
        refine W.q rfl rfl rfl rfl (by decide) (Yd.as rfl (.t rfl)) ?_
        refine W.q rfl rfl rfl rfl (by decide) (Yd.as rfl .c) ?_
        refine W.end ?_
        refine NX.sub (env' := [(4, _), (5, _)]) ⟨rfl, rfl, trivial⟩ ?_
        refine NX.then ?_
        refine Tr.ret' ?_
        refine res2 rfl rfl rfl ?_
        intro w hc
        cases hr
        exact ⟨_, rfl, hc⟩
      refine Tr.block ?_
      refine Tr.sub (env' := [(2, _), (6, _), (7, _), (27, _), (28, _)]) ⟨rfl, rfl, rfl, rfl, rfl, trivial⟩ ?_
      refine Tr.loop (S := fun n (z : BitVec 32 × (List (BitVec 32))) env x => match z with | (t_19, l13) => ∃ v14 : Value, env = [(2, bp b1 0), (6, .func (.func 40) #[] #[bp b3 0]), (7, v14), (27, .int .u32 (((1#32 <<< n_0.toNat)).toNat : Int)), (28, .int .u32 (t_19.toNat : Int))] ∧ x = ⟨m, hownT 31 1 encU v14 l13 :: hcells b3 [usets_1] 22 :: hcells b1 [.int .i64 n_0] 3 :: l⟩ ∧ n = ((1#32 <<< n_0.toNat)).toNat - t_19.toNat ∧ forK (σ := (List (BitVec 32))) (fun i s nx_ => share_lost_b20 n_0 sets_1 i s nx_) (fun s => share_lost_k17 s) n t_19 l13 = some r) _ (0#32, ([] : List (BitVec 32))) ⟨_, rfl, rfl, rfl, hr⟩ ?_
      rintro n22 ⟨t_19, l13⟩ env x ⟨v14, rfl, rfl, hnt_19, hr⟩
      cases n22 with
      | zero =>
        simp only [forK] at hr
        refine Tr.seq ?_
        refine Tr.region_f (fun _ => false) ?_
        refine W.q rfl rfl rfl rfl (by decide) (Yd.lssU (a := t_19) (b := (1#32 <<< n_0.toNat)) rfl (.t rfl) (.t rfl)) ?_
        refine W.end ?_
        refine NX.sub (env' := [(2, _), (6, _), (7, _), (27, _), (28, _), (29, _)]) ⟨rfl, rfl, rfl, rfl, rfl, rfl, trivial⟩ ?_
        refine NX.then ?_
        refine Tr.seq ?_
        refine Tr.cond (.t rfl) (fun hb => ?_) (fun hb => ?_)
        · exact absurd (hb.symm.trans (fu_end hnt_19)) (by decide)
        ·
          refine Tr.exit' (EX.then (EX.then (EX.block ?_)))
          refine NX.sub (env' := [(7, _)]) ⟨rfl, trivial⟩ ?_
          refine NX.drop (l' := hownT 31 1 encU v14 _ :: l) (.cons_cons _ (.cons _ (.cons _ (.refl _)))) ?_
          exact hk18 _ _ ⟨_, _, rfl, rfl, hr⟩
      | succ n22 =>
        obtain ⟨nx21, hnx21, hr⟩ := forK_succ hr
        try dsimp only at hr
        unfold share_lost_b20 at hr
        try dsimp only at hr
        refine Tr.seq ?_
        refine Tr.region_f (fun _ => false) ?_
        refine W.q rfl rfl rfl rfl (by decide) (Yd.lssU (a := t_19) (b := (1#32 <<< n_0.toNat)) rfl (.t rfl) (.t rfl)) ?_
        refine W.end ?_
        refine NX.sub (env' := [(2, _), (6, _), (7, _), (27, _), (28, _), (29, _)]) ⟨rfl, rfl, rfl, rfl, rfl, rfl, trivial⟩ ?_
        refine NX.then ?_
        refine Tr.seq ?_
        refine Tr.cond (.t rfl) (fun hb => ?_) (fun hb => ?_)
        rotate_left
        · exact absurd (hb.symm.trans (fu_go hnt_19)) (by decide)
        ·
          refine Tr.skip' ?_
          refine NX.then ?_
          refine Tr.seq ?_
          refine Tr.block ?_
          refine Tr.seq ?_
          refine Tr.region_f (fun _ => false) ?_
          refine W.q rfl rfl rfl rfl (by decide) (Yd.mv rfl (.t rfl)) ?_
          refine W.q rfl rfl rfl rfl (by decide) (Yd.as rfl (.t rfl)) ?_
          refine W.end ?_
          refine NX.sub (env' := [(2, _), (6, _), (7, _), (27, _), (28, _), (8, _)]) ⟨rfl, rfl, rfl, rfl, rfl, rfl, trivial⟩ ?_
          refine NX.then ?_
          refine Tr.seq ?_
          obtain ⟨r23, hr24, hr⟩ := bind_some hr
          refine Tr.region_f (fun _ => false) ?_
          refine W.q rfl rfl rfl rfl (by decide) (Yd.mv rfl (.t rfl)) ?_
          refine W.q rfl rfl rfl rfl (by decide) (Yd.mv rfl (.t rfl)) ?_
          refine W.q rfl rfl rfl rfl (by decide) (Yd.callC (v := .bool r23) rfl (.t rfl) Try.func40 rfl rfl (.cons (.t rfl) .nil) (by intro x' hx w hw; obtain ⟨p5, hp5⟩ := hx.at (p := 1) rfl; exact share_lost_c2_ok w0 x'.m x'.l t_19 p5 _ _ _ (hsets_1.mono hx.1) hp5 _ hr24 w hw)) ?_
          refine W.q rfl rfl rfl rfl (by decide) (Yd.as rfl (.t rfl)) ?_
          refine W.end ?_
          refine NX.sub (env' := [(2, _), (6, _), (7, _), (27, _), (28, _), (8, _), (9, _)]) ⟨rfl, rfl, rfl, rfl, rfl, rfl, rfl, trivial⟩ ?_
          refine NX.then ?_
          refine Tr.seq ?_
          refine Tr.seq ?_
          refine Tr.region_f (fun _ => false) ?_
          refine W.q rfl rfl rfl rfl (by decide) (Yd.ldB (pos := 2) rfl rfl rfl ON3 (.t rfl)) ?_
          refine W.q rfl rfl rfl rfl (by decide) (Yd.mv rfl .c) ?_
          refine W.end ?_
          refine NX.sub (env' := [(2, _), (6, _), (7, _), (27, _), (28, _), (8, _), (9, _), (34, _), (35, _)]) ⟨rfl, rfl, rfl, rfl, rfl, rfl, rfl, rfl, rfl, trivial⟩ ?_
          refine NX.then ?_
          refine Tr.join (S := fun env x => ∃ most_29 : Bool, env = [(2, bp b1 0), (6, .func (.func 40) #[] #[bp b3 0]), (7, v14), (27, .int .u32 (((1#32 <<< n_0.toNat)).toNat : Int)), (28, .int .u32 (t_19.toNat : Int)), (8, .int .u32 (t_19.toNat : Int)), (9, .bool most_29)] ∧ x = ⟨m, hownT 31 1 encU v14 l13 :: hcells b3 [usets_1] 22 :: hcells b1 [.int .i64 n_0] 3 :: l⟩ ∧ share_lost_k30 t_19 l13 nx21 most_29 = some r) ?_ (fun hk31 => ?_)
          · rintro _ _ ⟨most_29, rfl, rfl, hr⟩
            unfold share_lost_k30 at hr
            try dsimp only at hr
            refine NX.then ?_
            refine Tr.seq ?_
            refine Tr.region_f (fun _ => false) ?_
            refine W.q rfl rfl rfl rfl (by decide) (Yd.mv rfl (.t rfl)) ?_
            refine W.end ?_
            refine NX.sub (env' := [(2, _), (6, _), (7, _), (27, _), (28, _), (8, _), (56, _)]) ⟨rfl, rfl, rfl, rfl, rfl, rfl, rfl, trivial⟩ ?_
            refine NX.then ?_
            refine Tr.cond (.t rfl) (fun hb => ?_) (fun hb => ?_)
            · have hr := cond_t hb hr
              obtain ⟨hq35, hr⟩ := guard_some hr; replace hq35 := of_decide_eq_true hq35
              refine Tr.region_f (fun i => Nat.beq i 2 || Nat.beq i 3) ?_
              refine W.q rfl rfl rfl rfl (by decide) (Yd.mv rfl (.t rfl)) ?_
              refine W.q rfl rfl rfl rfl (by decide) (Yd.mv rfl (.t rfl)) ?_
              refine W.e rfl rfl rfl rfl (by decide) (Ef.bsT (enc := encU) (vs := [_]) (ys := [t_19]) (fun _ => rfl) IF31 rfl Try.underlying22 (by decide) rfl (.cons (.t rfl) .nil) rfl rfl (by decide)) ?_
              rintro v32 _ rfl
              refine ⟨.inl rfl, ?_⟩
              refine W.cast (m' := m) (l' := hownT 31 1 encU v32 _ :: hownT 31 1 encU v14 _ :: hcells b3 [_] 22 :: hcells b1 [_] 3 :: l) rfl rfl ?_
              refine W.e rfl rfl rfl rfl (by decide) (Ef.apI (pos := 1) (enc := encU) (xs := l13) (ys := ([t_19] : List (BitVec 32))) (fun _ => rfl) IF31 rfl rfl Try.underlying22 rfl (by decide) (.t rfl) (.t rfl) (Src.own (pos := 0) rfl) (fun _ => rfl) (by omega) (by omega)) ?_
              rintro v34 _ rfl
              refine ⟨.inl rfl, ?_⟩
              refine W.cast (m' := m) (l' := hownT 31 1 encU v32 _ :: hownT 31 1 encU v34 _ :: hcells b3 [_] 22 :: hcells b1 [_] 3 :: l) rfl rfl ?_
              refine W.q rfl rfl rfl rfl (by decide) (Yd.as rfl (.t rfl)) ?_
              refine W.end ?_
              refine NX.sub (env' := [(2, _), (6, _), (7, _), (27, _), (28, _)]) ⟨rfl, rfl, rfl, rfl, rfl, trivial⟩ ?_
              refine NX.drop (l' := hownT 31 1 encU v34 _ :: hcells b3 [_] 22 :: hcells b1 [_] 3 :: l) (.cons _ (.cons_cons _ (.cons_cons _ (.cons_cons _ (.refl _))))) ?_
              refine NX.block ?_
              refine NX.then ?_
              refine Tr.region_f (fun _ => false) ?_
              refine W.q rfl rfl rfl rfl (by decide) (Yd.addU (a := t_19) (b := 1#32) rfl (.t rfl) .c) ?_
              refine W.q rfl rfl rfl rfl (by decide) (Yd.mv rfl (.t rfl)) ?_
              refine W.end ?_
              refine NX.sub (env' := [(2, _), (6, _), (7, _), (27, _), (28, _)]) ⟨rfl, rfl, rfl, rfl, rfl, trivial⟩ ?_
              refine NX.sub (env' := [(2, _), (6, _), (7, _), (27, _), (28, _)]) ⟨rfl, rfl, rfl, rfl, rfl, trivial⟩ ?_
              exact NX.again n22 (t_19 + 1, (l13 ++ ([t_19] : List (BitVec 32)))) (Nat.lt_succ_self _) ⟨_, rfl, rfl, (fu_dec hnt_19), ((hnx21 _).symm.trans hr)⟩
            · have hr := cond_f hb hr
              refine Tr.skip' ?_
              refine NX.block ?_
              refine NX.then ?_
              refine Tr.region_f (fun _ => false) ?_
              refine W.q rfl rfl rfl rfl (by decide) (Yd.addU (a := t_19) (b := 1#32) rfl (.t rfl) .c) ?_
              refine W.q rfl rfl rfl rfl (by decide) (Yd.mv rfl (.t rfl)) ?_
              refine W.end ?_
              refine NX.sub (env' := [(2, _), (6, _), (7, _), (27, _), (28, _)]) ⟨rfl, rfl, rfl, rfl, rfl, trivial⟩ ?_
              refine NX.sub (env' := [(2, _), (6, _), (7, _), (27, _), (28, _)]) ⟨rfl, rfl, rfl, rfl, rfl, trivial⟩ ?_
              exact NX.again n22 (t_19 + 1, l13) (Nat.lt_succ_self _) ⟨_, rfl, rfl, (fu_dec hnt_19), ((hnx21 _).symm.trans hr)⟩
          obtain ⟨hle36, hr⟩ := guard_some hr; replace hle36 := of_decide_eq_true hle36
          refine Tr.block ?_
          refine Tr.sub (env' := [(2, _), (6, _), (7, _), (8, _), (9, _), (27, _), (28, _), (34, _), (35, _)]) ⟨rfl, rfl, rfl, rfl, rfl, rfl, rfl, rfl, rfl, trivial⟩ ?_
          refine Tr.loop (S := fun n (z : Int × Bool) env x => match z with | (t_37, most_27) => env = [(2, bp b1 0), (6, .func (.func 40) #[] #[bp b3 0]), (7, v14), (8, .int .u32 (t_19.toNat : Int)), (9, .bool most_27), (27, .int .u32 (((1#32 <<< n_0.toNat)).toNat : Int)), (28, .int .u32 (t_19.toNat : Int)), (34, .int .i64 n_0), (35, .int .i64 t_37)] ∧ x = ⟨m, hownT 31 1 encU v14 l13 :: hcells b3 [usets_1] 22 :: hcells b1 [.int .i64 n_0] 3 :: l⟩ ∧ n = (n_0 - t_37).toNat ∧ 0 ≤ t_37 ∧ forK (σ := Bool) (fun i s nx_ => share_lost_b38 sets_1 t_19 i s nx_) (fun s => share_lost_k30 t_19 l13 nx21 s) n t_37 most_27 = some r) _ ((0 : Int), r23) ⟨rfl, rfl, rfl, (by omega), hr⟩ ?_
          rintro n40 ⟨t_37, most_27⟩ env x ⟨rfl, rfl, hnt_37, h0t_37, hr⟩
          cases n40 with
          | zero =>
            simp only [forK] at hr
            refine Tr.seq ?_
            refine Tr.region_f (fun _ => false) ?_
            refine W.q rfl rfl rfl rfl (by decide) (Yd.lss rfl (.t rfl) (.t rfl)) ?_
            refine W.end ?_
            refine NX.sub (env' := [(2, _), (6, _), (7, _), (8, _), (9, _), (27, _), (28, _), (34, _), (35, _), (36, _)]) ⟨rfl, rfl, rfl, rfl, rfl, rfl, rfl, rfl, rfl, rfl, trivial⟩ ?_
            refine NX.then ?_
            refine Tr.seq ?_
            refine Tr.cond (.t rfl) (fun hb => ?_) (fun hb => ?_)
            · exact absurd (hb.symm.trans (fr_end hnt_37)) (by decide)
            ·
              refine Tr.exit' (EX.then (EX.then (EX.block ?_)))
              refine NX.sub (env' := [(2, _), (6, _), (7, _), (27, _), (28, _), (8, _), (9, _)]) ⟨rfl, rfl, rfl, rfl, rfl, rfl, rfl, trivial⟩ ?_
              exact hk31 _ _ ⟨_, rfl, rfl, hr⟩
          | succ n40 =>
            obtain ⟨nx39, hnx39, hr⟩ := forK_succ hr
            try dsimp only at hr
            unfold share_lost_b38 at hr
            try dsimp only at hr
            have hltt_37 := fr_bnd hnt_37
            refine Tr.seq ?_
            refine Tr.region_f (fun _ => false) ?_
            refine W.q rfl rfl rfl rfl (by decide) (Yd.lss rfl (.t rfl) (.t rfl)) ?_
            refine W.end ?_
            refine NX.sub (env' := [(2, _), (6, _), (7, _), (8, _), (9, _), (27, _), (28, _), (34, _), (35, _), (36, _)]) ⟨rfl, rfl, rfl, rfl, rfl, rfl, rfl, rfl, rfl, rfl, trivial⟩ ?_
            refine NX.then ?_
            refine Tr.seq ?_
            refine Tr.cond (.t rfl) (fun hb => ?_) (fun hb => ?_)
            rotate_left
            · exact absurd (hb.symm.trans (fr_go hnt_37)) (by decide)
            ·
              refine Tr.skip' ?_
              refine NX.then ?_
              refine Tr.seq ?_
              refine Tr.block ?_
              refine Tr.seq ?_
              refine Tr.region_f (fun _ => false) ?_
              refine W.q rfl rfl rfl rfl (by decide) (Yd.mv rfl (.t rfl)) ?_
              refine W.q rfl rfl rfl rfl (by decide) (Yd.as rfl (.t rfl)) ?_
              refine W.end ?_
              refine NX.sub (env' := [(2, _), (6, _), (7, _), (8, _), (9, _), (27, _), (28, _), (34, _), (35, _), (10, _)]) ⟨rfl, rfl, rfl, rfl, rfl, rfl, rfl, rfl, rfl, rfl, trivial⟩ ?_
              refine NX.then ?_
              obtain ⟨ha41, hr⟩ := guard_some hr
              refine Tr.region_f (fun _ => false) ?_
              refine W.q rfl rfl rfl rfl (by decide) (Yd.mv rfl (.t rfl)) ?_
              refine W.q rfl rfl rfl rfl (by decide) (Yd.mv rfl (.t rfl)) ?_
              refine W.g rfl rfl rfl rfl rfl (.t rfl _) rfl (by decide) (fun hG => Yd.mv rfl (.t rfl)) ?_
              refine W.g rfl rfl rfl rfl rfl (.t rfl _) rfl (by decide) (fun hG => Yd.mv rfl (.t rfl)) ?_
              refine W.g rfl rfl rfl rfl rfl (.t rfl _) rfl (by decide) (fun hG => Yd.shrU (a := t_19) rfl (.g rfl hG) (.g rfl hG) h0t_37) ?_
              refine W.g rfl rfl rfl rfl rfl (.t rfl _) rfl (by decide) (fun hG => Yd.andU (a := (t_19 >>> t_37.toNat)) (b := 1#32) rfl (.g rfl hG) .c) ?_
              refine W.g rfl rfl rfl rfl rfl (.t rfl _) rfl (by decide) (fun hG => Yd.eqlU (a := ((t_19 >>> t_37.toNat) &&& 1#32)) (b := 1#32) rfl (.g rfl hG) .c) ?_
              refine W.g rfl rfl rfl rfl rfl (.t rfl _) rfl (by decide) (fun hG => Yd.mv rfl (.g rfl hG)) ?_
              refine W.g rfl rfl rfl rfl rfl (.g rfl _) rfl (by decide) (fun hG => Yd.mv rfl (.t rfl)) ?_
              refine W.g rfl rfl rfl rfl rfl (.g rfl _) rfl (by decide) (fun hG => Yd.mv rfl (.t rfl)) ?_
              refine W.g rfl rfl rfl rfl rfl (.g rfl _) rfl (by decide) (fun hG => Yd.mv rfl (.t rfl)) ?_
              refine W.g rfl rfl rfl rfl rfl (.g rfl _) rfl (by decide) (fun hG => Yd.shlU (a := 1#32) rfl .c (.g rfl hG) h0t_37) ?_
              refine W.g rfl rfl rfl rfl rfl (.g rfl _) rfl (by decide) (fun hG => Yd.orU (a := t_19) (b := (1#32 <<< t_37.toNat)) rfl (.g rfl hG) (.g rfl hG)) ?_
              refine W.g rfl rfl rfl rfl rfl (.g rfl _) rfl (by decide) (fun hG => Yd.callC (v := .bool ((((share_lost_c2 ((t_19 ||| (1#32 <<< t_37.toNat))) sets_1).getD false)))) rfl (.g rfl hG) Try.func40 rfl rfl (.cons (.g rfl hG) .nil) (by intro x' hx w hw; obtain ⟨p5, hp5⟩ := hx.at (p := 1) rfl; exact share_lost_c2_ok w0 x'.m x'.l ((t_19 ||| (1#32 <<< t_37.toNat))) p5 _ _ _ (hsets_1.mono hx.1) hp5 _ (gd_get (d := false) ha41 hG) w hw)) ?_
              refine W.g rfl rfl rfl rfl rfl (.g rfl _) rfl (by decide) (fun hG => Yd.not rfl (.g rfl hG)) ?_
              refine W.g rfl rfl rfl rfl rfl (.t rfl _) rfl (by decide) (fun hG => Yd.orG rfl (.g rfl hG) .c rfl rfl hG) ?_
              refine W.q rfl rfl rfl rfl (by decide) (Yd.and rfl (.t rfl) .c rfl rfl) ?_
              refine W.q rfl rfl rfl rfl (by decide) (Yd.as rfl (.t rfl)) ?_
              refine W.end ?_
              refine NX.sub (env' := [(2, _), (6, _), (7, _), (8, _), (9, _), (27, _), (28, _), (34, _), (35, _)]) ⟨rfl, rfl, rfl, rfl, rfl, rfl, rfl, rfl, rfl, trivial⟩ ?_
              refine NX.block ?_
              refine NX.then ?_
              refine Tr.region_f (fun _ => false) ?_
              refine W.q rfl rfl rfl rfl (by decide) (Yd.add rfl (.t rfl) .c) ?_
              refine W.q rfl rfl rfl rfl (by decide) (Yd.mv rfl (.t rfl)) ?_
              refine W.end ?_
              refine NX.sub (env' := [(2, _), (6, _), (7, _), (8, _), (9, _), (27, _), (28, _), (34, _), (35, _)]) ⟨rfl, rfl, rfl, rfl, rfl, rfl, rfl, rfl, rfl, trivial⟩ ?_
              refine NX.sub (env' := [(2, _), (6, _), (7, _), (8, _), (9, _), (27, _), (28, _), (34, _), (35, _)]) ⟨rfl, rfl, rfl, rfl, rfl, rfl, rfl, rfl, rfl, trivial⟩ ?_
              have hw := w64_id (n := t_37 + 1) (by omega) (by omega)
              exact NX.again n40 (t_37 + 1, (most_27 && ((((t_19 >>> t_37.toNat) &&& 1#32) == 1#32) || (!(((share_lost_c2 ((t_19 ||| (1#32 <<< t_37.toNat))) sets_1).getD false)))))) (Nat.lt_succ_self _) ⟨(by rw [hw] <;> rfl), rfl, (fr_dec hnt_37), (by omega), ((hnx39 _).symm.trans hr)⟩

def share_Lost (n_0 : Int) (sets_1 : List (BitVec 32)) : Option ((List (BitVec 32)) × Int) :=
  (share_lost n_0 sets_1).bind fun r1 =>
  some ((r1.1, r1.2))

set_option maxRecDepth 100000 in
theorem share_Lost_ok (w0 : World) (m : Snap) (l : List HI) (n_0 : Int) (usets_1 : Value) (sets_1 : List (BitVec 32)) (hsets_1 : RS rU m usets_1 sets_1) (r : (List (BitVec 32)) × Int) (hr : share_Lost n_0 sets_1 = some r) (w : World) (hc : cX w0 ⟨m, l⟩ w) :
    Calls Try.prog 7 [.int .i64 n_0, usets_1].toArray w fun e w' => ∃ z0 : Value, e = .returned (.tuple #[z0, .int .i64 r.2]) ∧ cX w0 ⟨m, hownT 31 1 encU z0 r.1 :: l⟩ w' := by
  unfold share_Lost at hr
  refine calls_of_Tr (N := 11) Try.func7 rfl hc rfl (Nat.le_of_ble_eq_true rfl) ?_
  refine Tr.seq ?_
  refine Tr.region_f (fun _ => false) ?_
  refine W.q rfl rfl rfl rfl (by decide) (Yd.as rfl .c) ?_
  refine W.q rfl rfl rfl rfl (by decide) (Yd.as rfl .c) ?_
  refine W.end ?_
  refine NX.sub (env' := [(0, _), (1, _)]) ⟨rfl, rfl, trivial⟩ ?_
  refine NX.then ?_
  refine Tr.seq ?_
  obtain ⟨r1, hr2, hr⟩ := bind_some hr
  refine Tr.region_f (fun i => Nat.beq i 2) ?_
  refine W.q rfl rfl rfl rfl (by decide) (Yd.mv rfl (.t rfl)) ?_
  refine W.q rfl rfl rfl rfl (by decide) (Yd.mv rfl (.t rfl)) ?_
  refine W.e rfl rfl rfl rfl (by decide) (Ef.call (R := fun z x' => ∃ v3 : Value, z = .tuple #[v3, .int .i64 r1.2] ∧ x' = ⟨m, hownT 31 1 encU v3 r1.1 :: l⟩) rfl Try.func22 rfl rfl (.cons (.t rfl) (.cons (.t rfl) .nil)) (fun w hw => (share_lost_ok w0 _ _ n_0 _ _ hsets_1 _ hr2 w hw).mono fun e w' ⟨v3, he, hc'⟩ => ⟨_, _, he, ⟨v3, rfl, rfl⟩, hc'⟩)) ?_
  rintro _ _ ⟨v3, rfl, rfl⟩
  refine ⟨.inl rfl, ?_⟩
  refine W.cast (m' := m) (l' := hownT 31 1 encU v3 _ :: l) rfl rfl ?_
  refine W.q rfl rfl rfl rfl (by decide) (Yd.ext rfl (.t rfl) rfl) ?_
  refine W.q rfl rfl rfl rfl (by decide) (Yd.ext rfl (.t rfl) rfl) ?_
  refine W.q rfl rfl rfl rfl (by decide) (Yd.as rfl (.t rfl)) ?_
  refine W.q rfl rfl rfl rfl (by decide) (Yd.as rfl (.t rfl)) ?_
  refine W.end ?_
  refine NX.sub (env' := [(4, _), (5, _)]) ⟨rfl, rfl, trivial⟩ ?_
  refine NX.then ?_
  refine Tr.ret' ?_
  refine res2 rfl rfl rfl ?_
  intro w hc
  cases hr
  exact ⟨_, rfl, hc⟩

def syllogistref_Fits (n_0 : Int) (s_1 : (BitVec 32)) : Option (Bool) :=
  some (((decide (n_0 ≥ (32 : Int))) || ((decide (n_0 ≥ (0 : Int))) && (decide (s_1 < (1#32 <<< ((BitVec.ofInt 64 n_0)).toNat))))))

set_option maxRecDepth 100000 in
theorem syllogistref_Fits_ok (w0 : World) (m : Snap) (l : List HI) (n_0 : Int) (s_1 : (BitVec 32)) (r : Bool) (hr : syllogistref_Fits n_0 s_1 = some r) (w : World) (hc : cX w0 ⟨m, l⟩ w) :
    Calls Try.prog 13 [.int .i64 n_0, .int .u32 (s_1.toNat : Int)].toArray w fun e w' => e = .returned (.bool r) ∧ cX w0 ⟨m, l⟩ w' := by
  unfold syllogistref_Fits at hr
  refine calls_of_Tr (N := 18) Try.func13 rfl hc rfl (Nat.le_of_ble_eq_true rfl) ?_
  refine Tr.seq ?_
  refine Tr.region_f (fun _ => false) ?_
  refine W.q rfl rfl rfl rfl (by decide) (Yd.as rfl .c) ?_
  refine W.end ?_
  refine NX.sub (env' := [(0, _), (1, _)]) ⟨rfl, rfl, trivial⟩ ?_
  refine NX.then ?_
  refine Tr.seq ?_
  refine Tr.region_f (fun _ => false) ?_
  refine W.q rfl rfl rfl rfl (by decide) (Yd.mv rfl (.t rfl)) ?_
  refine W.q rfl rfl rfl rfl (by decide) (Yd.geq rfl (.t rfl) .c) ?_
  refine W.q rfl rfl rfl rfl (by decide) (Yd.mv rfl (.t rfl)) ?_
  refine W.g rfl rfl rfl rfl rfl (.t rfl _) rfl (by decide) (fun hG => Yd.mv rfl (.t rfl)) ?_
  refine W.g rfl rfl rfl rfl rfl (.t rfl _) rfl (by decide) (fun hG => Yd.geq rfl (.g rfl hG) .c) ?_
  refine W.g rfl rfl rfl rfl rfl (.t rfl _) rfl (by decide) (fun hG => Yd.mv rfl (.g rfl hG)) ?_
  refine W.g rfl rfl rfl rfl rfl (.g rfl _) rfl (by decide) (fun hG => Yd.mv rfl (.t rfl)) ?_
  refine W.g rfl rfl rfl rfl rfl (.g rfl _) rfl (by decide) (fun hG => Yd.mv rfl (.t rfl)) ?_
  refine W.g rfl rfl rfl rfl rfl (.g rfl _) rfl (by decide) (fun hG => Yd.cvQ rfl US3 Try.underlying56 (.g rfl hG)) ?_
  refine W.g rfl rfl rfl rfl rfl (.g rfl _) rfl (by decide) (fun hG => Yd.shlU (a := 1#32) rfl .c (.g rfl hG) (Int.natCast_nonneg _)) ?_
  refine W.g rfl rfl rfl rfl rfl (.g rfl _) rfl (by decide) (fun hG => Yd.lssU (a := s_1) (b := (1#32 <<< ((BitVec.ofInt 64 n_0)).toNat)) rfl (.g rfl hG) (.g rfl hG)) ?_
  refine W.g rfl rfl rfl rfl rfl (.t rfl _) rfl (by decide) (fun hG => Yd.andG rfl (.g rfl hG) .c rfl rfl hG) ?_
  refine W.q rfl rfl rfl rfl (by decide) (Yd.or rfl (.t rfl) .c rfl rfl) ?_
  refine W.q rfl rfl rfl rfl (by decide) (Yd.as rfl (.t rfl)) ?_
  refine W.end ?_
  refine NX.sub (env' := [(4, _)]) ⟨rfl, trivial⟩ ?_
  refine NX.then ?_
  refine Tr.ret' ?_
  refine res1 rfl rfl ?_
  intro w hc
  cases hr
  exact ⟨rfl, hc⟩

def syllogistref_SetsCheck_k3 : Option (Int) :=
  some ((0 : Int))

def syllogistref_SetsCheck_b7 (n_0 : Int) (sets_1 : List (BitVec 32)) (t_6 : Int) (nx8 : Unit → Option (Int)) : Option (Int) :=
  (geti sets_1 t_6).bind fun y10 =>
  (syllogistref_Fits n_0 y10).bind fun r12 =>
  (bif (!r12) then
  some ((4 : Int))
  else
  nx8 ())

def syllogistref_SetsCheck (n_0 : Int) (sets_1 : List (BitVec 32)) : Option (Int) :=
  (bif (((decide (n_0 < (1 : Int))) || (decide (n_0 > (6 : Int)))) || (decide ((sets_1.length : Int) > (10 : Int)))) then
  some ((1 : Int))
  else
  forK (σ := Unit) (fun i s nx_ => syllogistref_SetsCheck_b7 n_0 sets_1 i nx_) (fun _ => syllogistref_SetsCheck_k3) ((sets_1.length : Int) - (0 : Int)).toNat (0 : Int) ())

set_option maxRecDepth 100000 in
theorem syllogistref_SetsCheck_ok (w0 : World) (m : Snap) (l : List HI) (n_0 : Int) (usets_1 : Value) (sets_1 : List (BitVec 32)) (hsets_1 : RS rU m usets_1 sets_1) (r : Int) (hr : syllogistref_SetsCheck n_0 sets_1 = some r) (w : World) (hc : cX w0 ⟨m, l⟩ w) :
    Calls Try.prog 8 [.int .i64 n_0, usets_1].toArray w fun e w' => e = .returned (.int .i64 r) ∧ cX w0 ⟨m, l⟩ w' := by
  unfold syllogistref_SetsCheck at hr
  refine calls_of_Tr (N := 29) Try.func8 rfl hc rfl (Nat.le_of_ble_eq_true rfl) ?_
  refine Tr.seq ?_
  refine Tr.region_f (fun _ => false) ?_
  refine W.q rfl rfl rfl rfl (by decide) (Yd.as rfl .c) ?_
  refine W.end ?_
  refine NX.sub (env' := [(0, _), (1, _)]) ⟨rfl, rfl, trivial⟩ ?_
  refine NX.then ?_
  refine Tr.seq ?_
  refine Tr.seq ?_
  refine Tr.region_f (fun _ => false) ?_
  refine W.q rfl rfl rfl rfl (by decide) (Yd.mv rfl (.t rfl)) ?_
  refine W.q rfl rfl rfl rfl (by decide) (Yd.lss rfl (.t rfl) .c) ?_
  refine W.q rfl rfl rfl rfl (by decide) (Yd.mv rfl (.t rfl)) ?_
  refine W.g rfl rfl rfl rfl rfl (.t rfl _) rfl (by decide) (fun hG => Yd.mv rfl (.t rfl)) ?_
  refine W.g rfl rfl rfl rfl rfl (.t rfl _) rfl (by decide) (fun hG => Yd.gtr rfl (.g rfl hG) .c) ?_
  refine W.q rfl rfl rfl rfl (by decide) (Yd.or rfl (.t rfl) .c rfl rfl) ?_
  refine W.q rfl rfl rfl rfl (by decide) (Yd.mv rfl (.t rfl)) ?_
  refine W.g rfl rfl rfl rfl rfl (.t rfl _) rfl (by decide) (fun hG => Yd.mv rfl (.t rfl)) ?_
  refine W.g rfl rfl rfl rfl rfl (.t rfl _) rfl (by decide) (fun hG => Yd.lenR hsets_1 rfl Try.underlying22 (.g rfl hG)) ?_
  refine W.g rfl rfl rfl rfl rfl (.t rfl _) rfl (by decide) (fun hG => Yd.gtr rfl (.g rfl hG) .c) ?_
  refine W.q rfl rfl rfl rfl (by decide) (Yd.or rfl (.t rfl) .c rfl rfl) ?_
  refine W.end ?_
  refine NX.sub (env' := [(0, _), (1, _), (17, _)]) ⟨rfl, rfl, rfl, trivial⟩ ?_
  refine NX.then ?_
  refine Tr.cond (.t rfl) (fun hb => ?_) (fun hb => ?_)
  · have hr := cond_t hb hr
    refine Tr.seq ?_
    refine Tr.region_f (fun _ => false) ?_
    refine W.q rfl rfl rfl rfl (by decide) (Yd.as rfl .c) ?_
    refine W.end ?_
    refine NX.sub (env' := [(4, _)]) ⟨rfl, trivial⟩ ?_
    refine NX.then ?_
    refine Tr.ret' (RT.then ?_)
    refine res1 rfl rfl ?_
    intro w hc
    cases hr
    exact ⟨rfl, hc⟩
  · have hr := cond_f hb hr
    refine Tr.skip' ?_
    refine NX.then ?_
    refine Tr.seq ?_
    refine Tr.seq ?_
    refine Tr.region_f (fun _ => false) ?_
    refine W.q rfl rfl rfl rfl (by decide) (Yd.mv rfl (.t rfl)) ?_
    refine W.q rfl rfl rfl rfl (by decide) (Yd.lenR hsets_1 rfl Try.underlying22 (.t rfl)) ?_
    refine W.q rfl rfl rfl rfl (by decide) (Yd.mv rfl .c) ?_
    refine W.end ?_
    refine NX.sub (env' := [(0, _), (18, _), (19, _), (20, _)]) ⟨rfl, rfl, rfl, rfl, trivial⟩ ?_
    refine NX.then ?_
    refine Tr.join (S := fun env x => env = [] ∧ x = ⟨m, l⟩ ∧ syllogistref_SetsCheck_k3 = some r) ?_ (fun hk4 => ?_)
    · rintro _ _ ⟨rfl, rfl, hr⟩
      unfold syllogistref_SetsCheck_k3 at hr
      try dsimp only at hr
      refine NX.then ?_
      refine Tr.seq ?_
      refine Tr.region_f (fun _ => false) ?_
      refine W.q rfl rfl rfl rfl (by decide) (Yd.as rfl .c) ?_
      refine W.end ?_
      refine NX.sub (env' := [(4, _)]) ⟨rfl, trivial⟩ ?_
      refine NX.then ?_
      refine Tr.ret' ?_
      refine res1 rfl rfl ?_
      intro w hc
      cases hr
      exact ⟨rfl, hc⟩
    have hlen5 := (hsets_1).2.1
    refine Tr.block ?_
    refine Tr.sub (env' := [(0, _), (18, _), (19, _), (20, _)]) ⟨rfl, rfl, rfl, rfl, trivial⟩ ?_
    refine Tr.loop (S := fun n (z : Int × Unit) env x => match z with | (t_6, _) => env = [(0, .int .i64 n_0), (18, usets_1), (19, .int .i64 ((sets_1.length : Int))), (20, .int .i64 t_6)] ∧ x = ⟨m, l⟩ ∧ n = ((sets_1.length : Int) - t_6).toNat ∧ 0 ≤ t_6 ∧ forK (σ := Unit) (fun i s nx_ => syllogistref_SetsCheck_b7 n_0 sets_1 i nx_) (fun _ => syllogistref_SetsCheck_k3) n t_6 () = some r) _ ((0 : Int), ()) ⟨rfl, rfl, rfl, (by omega), hr⟩ ?_
    rintro n9 ⟨t_6, _⟩ env x ⟨rfl, rfl, hnt_6, h0t_6, hr⟩
    cases n9 with
    | zero =>
      simp only [forK] at hr
      refine Tr.seq ?_
      refine Tr.region_f (fun _ => false) ?_
      refine W.q rfl rfl rfl rfl (by decide) (Yd.lss rfl (.t rfl) (.t rfl)) ?_
      refine W.end ?_
      refine NX.sub (env' := [(0, _), (18, _), (19, _), (20, _), (21, _)]) ⟨rfl, rfl, rfl, rfl, rfl, trivial⟩ ?_
      refine NX.then ?_
      refine Tr.seq ?_
      refine Tr.cond (.t rfl) (fun hb => ?_) (fun hb => ?_)
      · exact absurd (hb.symm.trans (fr_end hnt_6)) (by decide)
      ·
        refine Tr.exit' (EX.then (EX.then (EX.block ?_)))
        refine NX.sub (env' := []) trivial ?_
        exact hk4 _ _ ⟨rfl, rfl, hr⟩
    | succ n9 =>
      obtain ⟨nx8, hnx8, hr⟩ := forK_succ hr
      try dsimp only at hr
      unfold syllogistref_SetsCheck_b7 at hr
      try dsimp only at hr
      have hltt_6 := fr_bnd hnt_6
      refine Tr.seq ?_
      refine Tr.region_f (fun _ => false) ?_
      refine W.q rfl rfl rfl rfl (by decide) (Yd.lss rfl (.t rfl) (.t rfl)) ?_
      refine W.end ?_
      refine NX.sub (env' := [(0, _), (18, _), (19, _), (20, _), (21, _)]) ⟨rfl, rfl, rfl, rfl, rfl, trivial⟩ ?_
      refine NX.then ?_
      refine Tr.seq ?_
      refine Tr.cond (.t rfl) (fun hb => ?_) (fun hb => ?_)
      rotate_left
      · exact absurd (hb.symm.trans (fr_go hnt_6)) (by decide)
      ·
        refine Tr.skip' ?_
        refine NX.then ?_
        refine Tr.seq ?_
        refine Tr.block ?_
        refine Tr.seq ?_
        obtain ⟨y10, hy11, hr⟩ := bind_some hr
        refine Tr.region_f (fun _ => false) ?_
        refine W.q rfl rfl rfl rfl (by decide) (Yd.idxR hsets_1 hy11 rfl Try.underlying22 SZ31 (.t rfl) (.t rfl)) ?_
        refine W.q rfl rfl rfl rfl (by decide) (Yd.ldF hsets_1 (.refl _) hy11 rfl rfl ON31 (.t rfl)) ?_
        refine W.q rfl rfl rfl rfl (by decide) (Yd.as rfl (.t rfl)) ?_
        refine W.end ?_
        refine NX.sub (env' := [(0, _), (18, _), (19, _), (20, _), (6, _)]) ⟨rfl, rfl, rfl, rfl, rfl, trivial⟩ ?_
        refine NX.then ?_
        refine Tr.seq ?_
        obtain ⟨r12, hr13, hr⟩ := bind_some hr
        refine Tr.region_f (fun _ => false) ?_
        refine W.q rfl rfl rfl rfl (by decide) (Yd.mv rfl (.t rfl)) ?_
        refine W.q rfl rfl rfl rfl (by decide) (Yd.mv rfl (.t rfl)) ?_
        refine W.q rfl rfl rfl rfl (by decide) (Yd.call (v := .bool r12) rfl Try.func13 rfl rfl (.cons (.t rfl) (.cons (.t rfl) .nil)) (fun x' hx w hw => syllogistref_Fits_ok w0 x'.m x'.l n_0 y10 _ hr13 w hw)) ?_
        refine W.q rfl rfl rfl rfl (by decide) (Yd.not rfl (.t rfl)) ?_
        refine W.end ?_
        refine NX.sub (env' := [(0, _), (18, _), (19, _), (20, _), (27, _)]) ⟨rfl, rfl, rfl, rfl, rfl, trivial⟩ ?_
        refine NX.then ?_
        refine Tr.cond (.t rfl) (fun hb => ?_) (fun hb => ?_)
        · have hr := cond_t hb hr
          refine Tr.seq ?_
          refine Tr.region_f (fun _ => false) ?_
          refine W.q rfl rfl rfl rfl (by decide) (Yd.as rfl .c) ?_
          refine W.end ?_
          refine NX.sub (env' := [(4, _)]) ⟨rfl, trivial⟩ ?_
          refine NX.then ?_
          refine Tr.ret' (RT.block (RT.then (RT.then (RT.block (RT.then ?_)))))
          refine res1 rfl rfl ?_
          intro w hc
          cases hr
          exact ⟨rfl, hc⟩
        · have hr := cond_f hb hr
          refine Tr.skip' ?_
          refine NX.block ?_
          refine NX.then ?_
          refine Tr.region_f (fun _ => false) ?_
          refine W.q rfl rfl rfl rfl (by decide) (Yd.add rfl (.t rfl) .c) ?_
          refine W.q rfl rfl rfl rfl (by decide) (Yd.mv rfl (.t rfl)) ?_
          refine W.end ?_
          refine NX.sub (env' := [(0, _), (18, _), (19, _), (20, _)]) ⟨rfl, rfl, rfl, rfl, trivial⟩ ?_
          refine NX.sub (env' := [(0, _), (18, _), (19, _), (20, _)]) ⟨rfl, rfl, rfl, rfl, trivial⟩ ?_
          have hw := w64_id (n := t_6 + 1) (by omega) (by omega)
          exact NX.again n9 (t_6 + 1, ()) (Nat.lt_succ_self _) ⟨(by rw [hw] <;> rfl), rfl, (fr_dec hnt_6), (by omega), ((hnx8 _).symm.trans hr)⟩

def syllogistref_In (a_0 : (BitVec 32)) (b_1 : (BitVec 32)) : Option (Bool) :=
  some (((a_0 ||| b_1) == b_1))

set_option maxRecDepth 100000 in
theorem syllogistref_In_ok (w0 : World) (m : Snap) (l : List HI) (a_0 : (BitVec 32)) (b_1 : (BitVec 32)) (r : Bool) (hr : syllogistref_In a_0 b_1 = some r) (w : World) (hc : cX w0 ⟨m, l⟩ w) :
    Calls Try.prog 24 [.int .u32 (a_0.toNat : Int), .int .u32 (b_1.toNat : Int)].toArray w fun e w' => e = .returned (.bool r) ∧ cX w0 ⟨m, l⟩ w' := by
  unfold syllogistref_In at hr
  refine calls_of_Tr (N := 10) Try.func24 rfl hc rfl (Nat.le_of_ble_eq_true rfl) ?_
  refine Tr.seq ?_
  refine Tr.region_f (fun _ => false) ?_
  refine W.q rfl rfl rfl rfl (by decide) (Yd.as rfl .c) ?_
  refine W.end ?_
  refine NX.sub (env' := [(0, _), (1, _)]) ⟨rfl, rfl, trivial⟩ ?_
  refine NX.then ?_
  refine Tr.seq ?_
  refine Tr.region_f (fun _ => false) ?_
  refine W.q rfl rfl rfl rfl (by decide) (Yd.mv rfl (.t rfl)) ?_
  refine W.q rfl rfl rfl rfl (by decide) (Yd.mv rfl (.t rfl)) ?_
  refine W.q rfl rfl rfl rfl (by decide) (Yd.orU (a := a_0) (b := b_1) rfl (.t rfl) (.t rfl)) ?_
  refine W.q rfl rfl rfl rfl (by decide) (Yd.mv rfl (.t rfl)) ?_
  refine W.q rfl rfl rfl rfl (by decide) (Yd.eqlU (a := (a_0 ||| b_1)) (b := b_1) rfl (.t rfl) (.t rfl)) ?_
  refine W.q rfl rfl rfl rfl (by decide) (Yd.as rfl (.t rfl)) ?_
  refine W.end ?_
  refine NX.sub (env' := [(4, _)]) ⟨rfl, trivial⟩ ?_
  refine NX.then ?_
  refine Tr.ret' ?_
  refine res1 rfl rfl ?_
  intro w hc
  cases hr
  exact ⟨rfl, hc⟩

def syllogistref_Lost_k3 : Option (Bool) :=
  some true

def syllogistref_Lost_b7 (sets_0 : List (BitVec 32)) (who_1 : (BitVec 32)) (t_6 : Int) (nx8 : Unit → Option (Bool)) : Option (Bool) :=
  (geti sets_0 t_6).bind fun y10 =>
  (syllogistref_In y10 who_1).bind fun r12 =>
  (bif r12 then
  some false
  else
  nx8 ())

def syllogistref_Lost (sets_0 : List (BitVec 32)) (who_1 : (BitVec 32)) : Option (Bool) :=
  forK (σ := Unit) (fun i s nx_ => syllogistref_Lost_b7 sets_0 who_1 i nx_) (fun _ => syllogistref_Lost_k3) ((sets_0.length : Int) - (0 : Int)).toNat (0 : Int) ()

set_option maxRecDepth 100000 in
theorem syllogistref_Lost_ok (w0 : World) (m : Snap) (l : List HI) (usets_0 : Value) (sets_0 : List (BitVec 32)) (hsets_0 : RS rU m usets_0 sets_0) (who_1 : (BitVec 32)) (r : Bool) (hr : syllogistref_Lost sets_0 who_1 = some r) (w : World) (hc : cX w0 ⟨m, l⟩ w) :
    Calls Try.prog 23 [usets_0, .int .u32 (who_1.toNat : Int)].toArray w fun e w' => e = .returned (.bool r) ∧ cX w0 ⟨m, l⟩ w' := by
  unfold syllogistref_Lost at hr
  refine calls_of_Tr (N := 17) Try.func23 rfl hc rfl (Nat.le_of_ble_eq_true rfl) ?_
  refine Tr.seq ?_
  refine Tr.region_f (fun _ => false) ?_
  refine W.q rfl rfl rfl rfl (by decide) (Yd.as rfl .c) ?_
  refine W.end ?_
  refine NX.sub (env' := [(0, _), (1, _)]) ⟨rfl, rfl, trivial⟩ ?_
  refine NX.then ?_
  refine Tr.seq ?_
  refine Tr.seq ?_
  refine Tr.region_f (fun _ => false) ?_
  refine W.q rfl rfl rfl rfl (by decide) (Yd.mv rfl (.t rfl)) ?_
  refine W.q rfl rfl rfl rfl (by decide) (Yd.lenR hsets_0 rfl Try.underlying22 (.t rfl)) ?_
  refine W.q rfl rfl rfl rfl (by decide) (Yd.mv rfl .c) ?_
  refine W.end ?_
  refine NX.sub (env' := [(1, _), (7, _), (8, _), (9, _)]) ⟨rfl, rfl, rfl, rfl, trivial⟩ ?_
  refine NX.then ?_
  refine Tr.join (S := fun env x => env = [] ∧ x = ⟨m, l⟩ ∧ syllogistref_Lost_k3 = some r) ?_ (fun hk4 => ?_)
  · rintro _ _ ⟨rfl, rfl, hr⟩
    unfold syllogistref_Lost_k3 at hr
    try dsimp only at hr
    refine NX.then ?_
    refine Tr.seq ?_
    refine Tr.region_f (fun _ => false) ?_
    refine W.q rfl rfl rfl rfl (by decide) (Yd.as rfl .c) ?_
    refine W.end ?_
    refine NX.sub (env' := [(4, _)]) ⟨rfl, trivial⟩ ?_
    refine NX.then ?_
    refine Tr.ret' ?_
    refine res1 rfl rfl ?_
    intro w hc
    cases hr
    exact ⟨rfl, hc⟩
  have hlen5 := (hsets_0).2.1
  refine Tr.block ?_
  refine Tr.sub (env' := [(1, _), (7, _), (8, _), (9, _)]) ⟨rfl, rfl, rfl, rfl, trivial⟩ ?_
  refine Tr.loop (S := fun n (z : Int × Unit) env x => match z with | (t_6, _) => env = [(1, .int .u32 (who_1.toNat : Int)), (7, usets_0), (8, .int .i64 ((sets_0.length : Int))), (9, .int .i64 t_6)] ∧ x = ⟨m, l⟩ ∧ n = ((sets_0.length : Int) - t_6).toNat ∧ 0 ≤ t_6 ∧ forK (σ := Unit) (fun i s nx_ => syllogistref_Lost_b7 sets_0 who_1 i nx_) (fun _ => syllogistref_Lost_k3) n t_6 () = some r) _ ((0 : Int), ()) ⟨rfl, rfl, rfl, (by omega), hr⟩ ?_
  rintro n9 ⟨t_6, _⟩ env x ⟨rfl, rfl, hnt_6, h0t_6, hr⟩
  cases n9 with
  | zero =>
    simp only [forK] at hr
    refine Tr.seq ?_
    refine Tr.region_f (fun _ => false) ?_
    refine W.q rfl rfl rfl rfl (by decide) (Yd.lss rfl (.t rfl) (.t rfl)) ?_
    refine W.end ?_
    refine NX.sub (env' := [(1, _), (7, _), (8, _), (9, _), (10, _)]) ⟨rfl, rfl, rfl, rfl, rfl, trivial⟩ ?_
    refine NX.then ?_
    refine Tr.seq ?_
    refine Tr.cond (.t rfl) (fun hb => ?_) (fun hb => ?_)
    · exact absurd (hb.symm.trans (fr_end hnt_6)) (by decide)
    ·
      refine Tr.exit' (EX.then (EX.then (EX.block ?_)))
      refine NX.sub (env' := []) trivial ?_
      exact hk4 _ _ ⟨rfl, rfl, hr⟩
  | succ n9 =>
    obtain ⟨nx8, hnx8, hr⟩ := forK_succ hr
    try dsimp only at hr
    unfold syllogistref_Lost_b7 at hr
    try dsimp only at hr
    have hltt_6 := fr_bnd hnt_6
    refine Tr.seq ?_
    refine Tr.region_f (fun _ => false) ?_
    refine W.q rfl rfl rfl rfl (by decide) (Yd.lss rfl (.t rfl) (.t rfl)) ?_
    refine W.end ?_
    refine NX.sub (env' := [(1, _), (7, _), (8, _), (9, _), (10, _)]) ⟨rfl, rfl, rfl, rfl, rfl, trivial⟩ ?_
    refine NX.then ?_
    refine Tr.seq ?_
    refine Tr.cond (.t rfl) (fun hb => ?_) (fun hb => ?_)
    rotate_left
    · exact absurd (hb.symm.trans (fr_go hnt_6)) (by decide)
    ·
      refine Tr.skip' ?_
      refine NX.then ?_
      refine Tr.seq ?_
      refine Tr.block ?_
      refine Tr.seq ?_
      obtain ⟨y10, hy11, hr⟩ := bind_some hr
      refine Tr.region_f (fun _ => false) ?_
      refine W.q rfl rfl rfl rfl (by decide) (Yd.idxR hsets_0 hy11 rfl Try.underlying22 SZ31 (.t rfl) (.t rfl)) ?_
      refine W.q rfl rfl rfl rfl (by decide) (Yd.ldF hsets_0 (.refl _) hy11 rfl rfl ON31 (.t rfl)) ?_
      refine W.q rfl rfl rfl rfl (by decide) (Yd.as rfl (.t rfl)) ?_
      refine W.end ?_
      refine NX.sub (env' := [(1, _), (7, _), (8, _), (9, _), (6, _)]) ⟨rfl, rfl, rfl, rfl, rfl, trivial⟩ ?_
      refine NX.then ?_
      refine Tr.seq ?_
      obtain ⟨r12, hr13, hr⟩ := bind_some hr
      refine Tr.region_f (fun _ => false) ?_
      refine W.q rfl rfl rfl rfl (by decide) (Yd.mv rfl (.t rfl)) ?_
      refine W.q rfl rfl rfl rfl (by decide) (Yd.mv rfl (.t rfl)) ?_
      refine W.q rfl rfl rfl rfl (by decide) (Yd.call (v := .bool r12) rfl Try.func24 rfl rfl (.cons (.t rfl) (.cons (.t rfl) .nil)) (fun x' hx w hw => syllogistref_In_ok w0 x'.m x'.l y10 who_1 _ hr13 w hw)) ?_
      refine W.end ?_
      refine NX.sub (env' := [(1, _), (7, _), (8, _), (9, _), (15, _)]) ⟨rfl, rfl, rfl, rfl, rfl, trivial⟩ ?_
      refine NX.then ?_
      refine Tr.cond (.t rfl) (fun hb => ?_) (fun hb => ?_)
      · have hr := cond_t hb hr
        refine Tr.seq ?_
        refine Tr.region_f (fun _ => false) ?_
        refine W.q rfl rfl rfl rfl (by decide) (Yd.as rfl .c) ?_
        refine W.end ?_
        refine NX.sub (env' := [(4, _)]) ⟨rfl, trivial⟩ ?_
        refine NX.then ?_
        refine Tr.ret' (RT.block (RT.then (RT.then (RT.block (RT.then ?_)))))
        refine res1 rfl rfl ?_
        intro w hc
        cases hr
        exact ⟨rfl, hc⟩
      · have hr := cond_f hb hr
        refine Tr.skip' ?_
        refine NX.block ?_
        refine NX.then ?_
        refine Tr.region_f (fun _ => false) ?_
        refine W.q rfl rfl rfl rfl (by decide) (Yd.add rfl (.t rfl) .c) ?_
        refine W.q rfl rfl rfl rfl (by decide) (Yd.mv rfl (.t rfl)) ?_
        refine W.end ?_
        refine NX.sub (env' := [(1, _), (7, _), (8, _), (9, _)]) ⟨rfl, rfl, rfl, rfl, trivial⟩ ?_
        refine NX.sub (env' := [(1, _), (7, _), (8, _), (9, _)]) ⟨rfl, rfl, rfl, rfl, trivial⟩ ?_
        have hw := w64_id (n := t_6 + 1) (by omega) (by omega)
        exact NX.again n9 (t_6 + 1, ()) (Nat.lt_succ_self _) ⟨(by rw [hw] <;> rfl), rfl, (fr_dec hnt_6), (by omega), ((hnx8 _).symm.trans hr)⟩

def syllogistref_MostLost_k10 (l8 : List (BitVec 32)) : Option ((List (BitVec 32))) :=
  some l8

def syllogistref_MostLost_k23 (who_12 : BitVec 32) (l6 : List (BitVec 32)) (nx14 : ((List (BitVec 32)) → Option ((List (BitVec 32))))) (ok_22 : Bool) : Option ((List (BitVec 32))) :=
  (bif ok_22 then
  bif decide (l6.length + (([who_12] : List (BitVec 32))).length ≤ 35184372088832) then
  nx14 (l6 ++ ([who_12] : List (BitVec 32))) else none
  else
  nx14 l6)

def syllogistref_MostLost_b30 (sets_1 : List (BitVec 32)) (who_12 : BitVec 32) (more_29 : BitVec 32) (ok_20 : Bool) (nx31 : Bool → Option ((List (BitVec 32)))) : Option ((List (BitVec 32))) :=
  bif (!((more_29 != who_12) == true) || (syllogistref_In who_12 more_29).isSome) then
  bif (!(((more_29 != who_12) && (((syllogistref_In who_12 more_29).getD false))) == true) || (syllogistref_Lost sets_1 more_29).isSome) then
  (bif (((more_29 != who_12) && (((syllogistref_In who_12 more_29).getD false))) && (((syllogistref_Lost sets_1 more_29).getD false))) then
  nx31 false
  else
  nx31 ok_20) else none else none

def syllogistref_MostLost_b13 (n_0 : Int) (sets_1 : List (BitVec 32)) (who_12 : BitVec 32) (l6 : List (BitVec 32)) (nx14 : (List (BitVec 32)) → Option ((List (BitVec 32)))) : Option ((List (BitVec 32))) :=
  (syllogistref_Lost sets_1 who_12).bind fun r16 =>
  forK (σ := Bool) (fun i s nx_ => syllogistref_MostLost_b30 sets_1 who_12 i s nx_) (fun s => syllogistref_MostLost_k23 who_12 l6 nx14 s) (((1#32 <<< ((BitVec.ofInt 64 n_0)).toNat)).toNat - (0#32).toNat) 0#32 r16

def syllogistref_MostLost (n_0 : Int) (sets_1 : List (BitVec 32)) : Option ((List (BitVec 32))) :=
  forK (σ := (List (BitVec 32))) (fun i s nx_ => syllogistref_MostLost_b13 n_0 sets_1 i s nx_) (fun s => syllogistref_MostLost_k10 s) (((1#32 <<< ((BitVec.ofInt 64 n_0)).toNat)).toNat - (0#32).toNat) 0#32 (([] : List (BitVec 32)))

set_option maxRecDepth 100000 in
theorem syllogistref_MostLost_ok (w0 : World) (m : Snap) (l : List HI) (n_0 : Int) (usets_1 : Value) (sets_1 : List (BitVec 32)) (hsets_1 : RS rU m usets_1 sets_1) (r : (List (BitVec 32))) (hr : syllogistref_MostLost n_0 sets_1 = some r) (w : World) (hc : cX w0 ⟨m, l⟩ w) :
    Calls Try.prog 10 [.int .i64 n_0, usets_1].toArray w fun e w' => ∃ z0 : Value, e = .returned (z0) ∧ cX w0 ⟨m, hownT 31 1 encU z0 r :: l⟩ w' := by
  unfold syllogistref_MostLost at hr
  refine calls_of_Tr (N := 45) Try.func10 rfl hc rfl (Nat.le_of_ble_eq_true rfl) ?_
  refine Tr.seq ?_
  refine Tr.region_f (fun _ => false) ?_
  refine W.q rfl rfl rfl rfl (by decide) (Yd.as rfl .c) ?_
  refine W.end ?_
  refine NX.sub (env' := [(0, _), (1, _)]) ⟨rfl, rfl, trivial⟩ ?_
  refine NX.then ?_
  refine Tr.seq ?_
  refine Tr.region_f (fun _ => false) ?_
  refine W.q rfl rfl rfl rfl (by decide) (Yd.as rfl .c) ?_
  refine W.end ?_
  refine NX.sub (env' := [(0, _), (1, _), (5, _)]) ⟨rfl, rfl, rfl, trivial⟩ ?_
  refine NX.then ?_
  refine Tr.seq ?_
  refine Tr.seq ?_
  refine Tr.region_f (fun _ => false) ?_
  refine W.q rfl rfl rfl rfl (by decide) (Yd.as rfl .c) ?_
  refine W.end ?_
  refine NX.sub (env' := [(0, _), (1, _), (5, _), (6, _)]) ⟨rfl, rfl, rfl, rfl, trivial⟩ ?_
  refine NX.then ?_
  refine Tr.addnil 31 1 ?_
  refine Tr.join (S := fun env x => ∃ l8 : List (BitVec 32), ∃ v9 : Value, env = [(5, v9)] ∧ x = ⟨m, hownT 31 1 encU v9 l8 :: l⟩ ∧ syllogistref_MostLost_k10 l8 = some r) ?_ (fun hk11 => ?_)
  · rintro _ _ ⟨l8, v9, rfl, rfl, hr⟩
    unfold syllogistref_MostLost_k10 at hr
    try dsimp only at hr
    refine NX.then ?_
    refine Tr.seq ?_
    refine Tr.region_f (fun _ => false) ?_
    refine W.q rfl rfl rfl rfl (by decide) (Yd.mv rfl (.t rfl)) ?_
    refine W.q rfl rfl rfl rfl (by decide) (Yd.as rfl (.t rfl)) ?_
    refine W.end ?_
    refine NX.sub (env' := [(4, _)]) ⟨rfl, trivial⟩ ?_
    refine NX.then ?_
    refine Tr.ret' ?_
    refine res1 rfl rfl ?_
    intro w hc
    cases hr
    exact ⟨_, rfl, hc⟩
  refine Tr.block ?_
  refine Tr.sub (env' := [(0, _), (1, _), (5, _), (6, _)]) ⟨rfl, rfl, rfl, rfl, trivial⟩ ?_
  refine Tr.loop (S := fun n (z : BitVec 32 × (List (BitVec 32))) env x => match z with | (who_12, l6) => ∃ v7 : Value, env = [(0, .int .i64 n_0), (1, usets_1), (5, v7), (6, .int .u32 (who_12.toNat : Int))] ∧ x = ⟨m, hownT 31 1 encU v7 l6 :: l⟩ ∧ n = ((1#32 <<< ((BitVec.ofInt 64 n_0)).toNat)).toNat - who_12.toNat ∧ forK (σ := (List (BitVec 32))) (fun i s nx_ => syllogistref_MostLost_b13 n_0 sets_1 i s nx_) (fun s => syllogistref_MostLost_k10 s) n who_12 l6 = some r) _ (0#32, ([] : List (BitVec 32))) ⟨_, rfl, rfl, rfl, hr⟩ ?_
  rintro n15 ⟨who_12, l6⟩ env x ⟨v7, rfl, rfl, hnwho_12, hr⟩
  cases n15 with
  | zero =>
    simp only [forK] at hr
    refine Tr.seq ?_
    refine Tr.seq ?_
    refine Tr.region_f (fun _ => false) ?_
    refine W.q rfl rfl rfl rfl (by decide) (Yd.mv rfl (.t rfl)) ?_
    refine W.q rfl rfl rfl rfl (by decide) (Yd.mv rfl (.t rfl)) ?_
    refine W.q rfl rfl rfl rfl (by decide) (Yd.cvQ rfl US3 Try.underlying56 (.t rfl)) ?_
    refine W.q rfl rfl rfl rfl (by decide) (Yd.shlU (a := 1#32) rfl .c (.t rfl) (Int.natCast_nonneg _)) ?_
    refine W.q rfl rfl rfl rfl (by decide) (Yd.lssU (a := who_12) (b := (1#32 <<< ((BitVec.ofInt 64 n_0)).toNat)) rfl (.t rfl) (.t rfl)) ?_
    refine W.end ?_
    refine NX.sub (env' := [(0, _), (1, _), (5, _), (6, _), (13, _)]) ⟨rfl, rfl, rfl, rfl, rfl, trivial⟩ ?_
    refine NX.then ?_
    refine Tr.cond (.t rfl) (fun hb => ?_) (fun hb => ?_)
    · exact absurd (hb.symm.trans (fu_end hnwho_12)) (by decide)
    ·
      refine Tr.exit' (EX.then (EX.then (EX.block ?_)))
      refine NX.sub (env' := [(5, _)]) ⟨rfl, trivial⟩ ?_
      exact hk11 _ _ ⟨_, _, rfl, rfl, hr⟩
  | succ n15 =>
    obtain ⟨nx14, hnx14, hr⟩ := forK_succ hr
    try dsimp only at hr
    unfold syllogistref_MostLost_b13 at hr
    try dsimp only at hr
    refine Tr.seq ?_
    refine Tr.seq ?_
    refine Tr.region_f (fun _ => false) ?_
    refine W.q rfl rfl rfl rfl (by decide) (Yd.mv rfl (.t rfl)) ?_
    refine W.q rfl rfl rfl rfl (by decide) (Yd.mv rfl (.t rfl)) ?_
    refine W.q rfl rfl rfl rfl (by decide) (Yd.cvQ rfl US3 Try.underlying56 (.t rfl)) ?_
    refine W.q rfl rfl rfl rfl (by decide) (Yd.shlU (a := 1#32) rfl .c (.t rfl) (Int.natCast_nonneg _)) ?_
    refine W.q rfl rfl rfl rfl (by decide) (Yd.lssU (a := who_12) (b := (1#32 <<< ((BitVec.ofInt 64 n_0)).toNat)) rfl (.t rfl) (.t rfl)) ?_
    refine W.end ?_
    refine NX.sub (env' := [(0, _), (1, _), (5, _), (6, _), (13, _)]) ⟨rfl, rfl, rfl, rfl, rfl, trivial⟩ ?_
    refine NX.then ?_
    refine Tr.cond (.t rfl) (fun hb => ?_) (fun hb => ?_)
    rotate_left
    · exact absurd (hb.symm.trans (fu_go hnwho_12)) (by decide)
    ·
      refine Tr.skip' ?_
      refine NX.then ?_
      refine Tr.seq ?_
      refine Tr.block ?_
      refine Tr.seq ?_
      obtain ⟨r16, hr17, hr⟩ := bind_some hr
      refine Tr.region_f (fun _ => false) ?_
      refine W.q rfl rfl rfl rfl (by decide) (Yd.mv rfl (.t rfl)) ?_
      refine W.q rfl rfl rfl rfl (by decide) (Yd.mv rfl (.t rfl)) ?_
      refine W.q rfl rfl rfl rfl (by decide) (Yd.call (v := .bool r16) rfl Try.func23 rfl rfl (.cons (.t rfl) (.cons (.t rfl) .nil)) (fun x' hx w hw => syllogistref_Lost_ok w0 x'.m x'.l _ _ (hsets_1.mono hx.1) who_12 _ hr17 w hw)) ?_
      refine W.q rfl rfl rfl rfl (by decide) (Yd.as rfl (.t rfl)) ?_
      refine W.end ?_
      refine NX.sub (env' := [(0, _), (1, _), (5, _), (6, _), (7, _)]) ⟨rfl, rfl, rfl, rfl, rfl, trivial⟩ ?_
      refine NX.then ?_
      refine Tr.seq ?_
      refine Tr.seq ?_
      refine Tr.region_f (fun _ => false) ?_
      refine W.q rfl rfl rfl rfl (by decide) (Yd.as rfl .c) ?_
      refine W.end ?_
      refine NX.sub (env' := [(0, _), (1, _), (5, _), (6, _), (7, _), (8, _)]) ⟨rfl, rfl, rfl, rfl, rfl, rfl, trivial⟩ ?_
      refine NX.then ?_
      refine Tr.join (S := fun env x => ∃ ok_22 : Bool, env = [(0, .int .i64 n_0), (1, usets_1), (5, v7), (6, .int .u32 (who_12.toNat : Int)), (7, .bool ok_22)] ∧ x = ⟨m, hownT 31 1 encU v7 l6 :: l⟩ ∧ syllogistref_MostLost_k23 who_12 l6 nx14 ok_22 = some r) ?_ (fun hk24 => ?_)
      · rintro _ _ ⟨ok_22, rfl, rfl, hr⟩
        unfold syllogistref_MostLost_k23 at hr
        try dsimp only at hr
        refine NX.then ?_
        refine Tr.seq ?_
        refine Tr.region_f (fun _ => false) ?_
        refine W.q rfl rfl rfl rfl (by decide) (Yd.mv rfl (.t rfl)) ?_
        refine W.end ?_
        refine NX.sub (env' := [(0, _), (1, _), (5, _), (6, _), (39, _)]) ⟨rfl, rfl, rfl, rfl, rfl, trivial⟩ ?_
        refine NX.then ?_
        refine Tr.cond (.t rfl) (fun hb => ?_) (fun hb => ?_)
        · have hr := cond_t hb hr
          obtain ⟨hq28, hr⟩ := guard_some hr; replace hq28 := of_decide_eq_true hq28
          refine Tr.region_f (fun i => Nat.beq i 2 || Nat.beq i 3) ?_
          refine W.q rfl rfl rfl rfl (by decide) (Yd.mv rfl (.t rfl)) ?_
          refine W.q rfl rfl rfl rfl (by decide) (Yd.mv rfl (.t rfl)) ?_
          refine W.e rfl rfl rfl rfl (by decide) (Ef.bsT (enc := encU) (vs := [_]) (ys := [who_12]) (fun _ => rfl) IF31 rfl Try.underlying22 (by decide) rfl (.cons (.t rfl) .nil) rfl rfl (by decide)) ?_
          rintro v25 _ rfl
          refine ⟨.inl rfl, ?_⟩
          refine W.cast (m' := m) (l' := hownT 31 1 encU v25 _ :: hownT 31 1 encU v7 _ :: l) rfl rfl ?_
          refine W.e rfl rfl rfl rfl (by decide) (Ef.apI (pos := 1) (enc := encU) (xs := l6) (ys := ([who_12] : List (BitVec 32))) (fun _ => rfl) IF31 rfl rfl Try.underlying22 rfl (by decide) (.t rfl) (.t rfl) (Src.own (pos := 0) rfl) (fun _ => rfl) (by omega) (by omega)) ?_
          rintro v27 _ rfl
          refine ⟨.inl rfl, ?_⟩
          refine W.cast (m' := m) (l' := hownT 31 1 encU v25 _ :: hownT 31 1 encU v27 _ :: l) rfl rfl ?_
          refine W.q rfl rfl rfl rfl (by decide) (Yd.as rfl (.t rfl)) ?_
          refine W.end ?_
          refine NX.sub (env' := [(0, _), (1, _), (5, _), (6, _)]) ⟨rfl, rfl, rfl, rfl, trivial⟩ ?_
          refine NX.drop (l' := hownT 31 1 encU v27 _ :: l) (.cons _ (.cons_cons _ (.refl _))) ?_
          refine NX.block ?_
          refine NX.then ?_
          refine Tr.region_f (fun _ => false) ?_
          refine W.q rfl rfl rfl rfl (by decide) (Yd.mv rfl (.t rfl)) ?_
          refine W.q rfl rfl rfl rfl (by decide) (Yd.addU (a := who_12) (b := 1#32) rfl (.t rfl) .c) ?_
          refine W.q rfl rfl rfl rfl (by decide) (Yd.as rfl (.t rfl)) ?_
          refine W.end ?_
          refine NX.sub (env' := [(0, _), (1, _), (5, _), (6, _)]) ⟨rfl, rfl, rfl, rfl, trivial⟩ ?_
          refine NX.sub (env' := [(0, _), (1, _), (5, _), (6, _)]) ⟨rfl, rfl, rfl, rfl, trivial⟩ ?_
          exact NX.again n15 (who_12 + 1, (l6 ++ ([who_12] : List (BitVec 32)))) (Nat.lt_succ_self _) ⟨_, rfl, rfl, (fu_dec hnwho_12), ((hnx14 _).symm.trans hr)⟩
        · have hr := cond_f hb hr
          refine Tr.skip' ?_
          refine NX.block ?_
          refine NX.then ?_
          refine Tr.region_f (fun _ => false) ?_
          refine W.q rfl rfl rfl rfl (by decide) (Yd.mv rfl (.t rfl)) ?_
          refine W.q rfl rfl rfl rfl (by decide) (Yd.addU (a := who_12) (b := 1#32) rfl (.t rfl) .c) ?_
          refine W.q rfl rfl rfl rfl (by decide) (Yd.as rfl (.t rfl)) ?_
          refine W.end ?_
          refine NX.sub (env' := [(0, _), (1, _), (5, _), (6, _)]) ⟨rfl, rfl, rfl, rfl, trivial⟩ ?_
          refine NX.sub (env' := [(0, _), (1, _), (5, _), (6, _)]) ⟨rfl, rfl, rfl, rfl, trivial⟩ ?_
          exact NX.again n15 (who_12 + 1, l6) (Nat.lt_succ_self _) ⟨_, rfl, rfl, (fu_dec hnwho_12), ((hnx14 _).symm.trans hr)⟩
      refine Tr.block ?_
      refine Tr.sub (env' := [(0, _), (1, _), (5, _), (6, _), (7, _), (8, _)]) ⟨rfl, rfl, rfl, rfl, rfl, rfl, trivial⟩ ?_
      refine Tr.loop (S := fun n (z : BitVec 32 × Bool) env x => match z with | (more_29, ok_20) => env = [(0, .int .i64 n_0), (1, usets_1), (5, v7), (6, .int .u32 (who_12.toNat : Int)), (7, .bool ok_20), (8, .int .u32 (more_29.toNat : Int))] ∧ x = ⟨m, hownT 31 1 encU v7 l6 :: l⟩ ∧ n = ((1#32 <<< ((BitVec.ofInt 64 n_0)).toNat)).toNat - more_29.toNat ∧ forK (σ := Bool) (fun i s nx_ => syllogistref_MostLost_b30 sets_1 who_12 i s nx_) (fun s => syllogistref_MostLost_k23 who_12 l6 nx14 s) n more_29 ok_20 = some r) _ (0#32, r16) ⟨rfl, rfl, rfl, hr⟩ ?_
      rintro n32 ⟨more_29, ok_20⟩ env x ⟨rfl, rfl, hnmore_29, hr⟩
      cases n32 with
      | zero =>
        simp only [forK] at hr
        refine Tr.seq ?_
        refine Tr.seq ?_
        refine Tr.region_f (fun _ => false) ?_
        refine W.q rfl rfl rfl rfl (by decide) (Yd.mv rfl (.t rfl)) ?_
        refine W.q rfl rfl rfl rfl (by decide) (Yd.mv rfl (.t rfl)) ?_
        refine W.q rfl rfl rfl rfl (by decide) (Yd.cvQ rfl US3 Try.underlying56 (.t rfl)) ?_
        refine W.q rfl rfl rfl rfl (by decide) (Yd.shlU (a := 1#32) rfl .c (.t rfl) (Int.natCast_nonneg _)) ?_
        refine W.q rfl rfl rfl rfl (by decide) (Yd.lssU (a := more_29) (b := (1#32 <<< ((BitVec.ofInt 64 n_0)).toNat)) rfl (.t rfl) (.t rfl)) ?_
        refine W.end ?_
        refine NX.sub (env' := [(0, _), (1, _), (5, _), (6, _), (7, _), (8, _), (23, _)]) ⟨rfl, rfl, rfl, rfl, rfl, rfl, rfl, trivial⟩ ?_
        refine NX.then ?_
        refine Tr.cond (.t rfl) (fun hb => ?_) (fun hb => ?_)
        · exact absurd (hb.symm.trans (fu_end hnmore_29)) (by decide)
        ·
          refine Tr.exit' (EX.then (EX.then (EX.block ?_)))
          refine NX.sub (env' := [(0, _), (1, _), (5, _), (6, _), (7, _)]) ⟨rfl, rfl, rfl, rfl, rfl, trivial⟩ ?_
          exact hk24 _ _ ⟨_, rfl, rfl, hr⟩
      | succ n32 =>
        obtain ⟨nx31, hnx31, hr⟩ := forK_succ hr
        try dsimp only at hr
        unfold syllogistref_MostLost_b30 at hr
        try dsimp only at hr
        refine Tr.seq ?_
        refine Tr.seq ?_
        refine Tr.region_f (fun _ => false) ?_
        refine W.q rfl rfl rfl rfl (by decide) (Yd.mv rfl (.t rfl)) ?_
        refine W.q rfl rfl rfl rfl (by decide) (Yd.mv rfl (.t rfl)) ?_
        refine W.q rfl rfl rfl rfl (by decide) (Yd.cvQ rfl US3 Try.underlying56 (.t rfl)) ?_
        refine W.q rfl rfl rfl rfl (by decide) (Yd.shlU (a := 1#32) rfl .c (.t rfl) (Int.natCast_nonneg _)) ?_
        refine W.q rfl rfl rfl rfl (by decide) (Yd.lssU (a := more_29) (b := (1#32 <<< ((BitVec.ofInt 64 n_0)).toNat)) rfl (.t rfl) (.t rfl)) ?_
        refine W.end ?_
        refine NX.sub (env' := [(0, _), (1, _), (5, _), (6, _), (7, _), (8, _), (23, _)]) ⟨rfl, rfl, rfl, rfl, rfl, rfl, rfl, trivial⟩ ?_
        refine NX.then ?_
        refine Tr.cond (.t rfl) (fun hb => ?_) (fun hb => ?_)
        rotate_left
        · exact absurd (hb.symm.trans (fu_go hnmore_29)) (by decide)
        ·
          refine Tr.skip' ?_
          refine NX.then ?_
          refine Tr.seq ?_
          refine Tr.block ?_
          refine Tr.seq ?_
          obtain ⟨ha33, hr⟩ := guard_some hr
          obtain ⟨ha34, hr⟩ := guard_some hr
          refine Tr.region_f (fun _ => false) ?_
          refine W.q rfl rfl rfl rfl (by decide) (Yd.mv rfl (.t rfl)) ?_
          refine W.q rfl rfl rfl rfl (by decide) (Yd.mv rfl (.t rfl)) ?_
          refine W.q rfl rfl rfl rfl (by decide) (Yd.neqU (a := more_29) (b := who_12) rfl (.t rfl) (.t rfl)) ?_
          refine W.q rfl rfl rfl rfl (by decide) (Yd.mv rfl (.t rfl)) ?_
          refine W.g rfl rfl rfl rfl rfl (.t rfl _) rfl (by decide) (fun hG => Yd.mv rfl (.t rfl)) ?_
          refine W.g rfl rfl rfl rfl rfl (.t rfl _) rfl (by decide) (fun hG => Yd.mv rfl (.t rfl)) ?_
          refine W.g rfl rfl rfl rfl rfl (.t rfl _) rfl (by decide) (fun hG => Yd.call (v := .bool ((((syllogistref_In who_12 more_29).getD false)))) rfl Try.func24 rfl rfl (.cons (.g rfl hG) (.cons (.g rfl hG) .nil)) (fun x' hx w hw => syllogistref_In_ok w0 x'.m x'.l who_12 more_29 _ (gd_get (d := false) ha33 hG) w hw)) ?_
          refine W.q rfl rfl rfl rfl (by decide) (Yd.and rfl (.t rfl) .c rfl rfl) ?_
          refine W.q rfl rfl rfl rfl (by decide) (Yd.mv rfl (.t rfl)) ?_
          refine W.g rfl rfl rfl rfl rfl (.t rfl _) rfl (by decide) (fun hG => Yd.mv rfl (.t rfl)) ?_
          refine W.g rfl rfl rfl rfl rfl (.t rfl _) rfl (by decide) (fun hG => Yd.mv rfl (.t rfl)) ?_
          refine W.g rfl rfl rfl rfl rfl (.t rfl _) rfl (by decide) (fun hG => Yd.call (v := .bool ((((syllogistref_Lost sets_1 more_29).getD false)))) rfl Try.func23 rfl rfl (.cons (.g rfl hG) (.cons (.g rfl hG) .nil)) (fun x' hx w hw => syllogistref_Lost_ok w0 x'.m x'.l _ _ (hsets_1.mono hx.1) more_29 _ (gd_get (d := false) ha34 hG) w hw)) ?_
          refine W.q rfl rfl rfl rfl (by decide) (Yd.and rfl (.t rfl) .c rfl rfl) ?_
          refine W.end ?_
          refine NX.sub (env' := [(0, _), (1, _), (5, _), (6, _), (7, _), (8, _), (38, _)]) ⟨rfl, rfl, rfl, rfl, rfl, rfl, rfl, trivial⟩ ?_
          refine NX.then ?_
          refine Tr.cond (.t rfl) (fun hb => ?_) (fun hb => ?_)
          · have hr := cond_t hb hr
            refine Tr.region_f (fun _ => false) ?_
            refine W.q rfl rfl rfl rfl (by decide) (Yd.as rfl .c) ?_
            refine W.end ?_
            refine NX.sub (env' := [(0, _), (1, _), (5, _), (6, _), (7, _), (8, _)]) ⟨rfl, rfl, rfl, rfl, rfl, rfl, trivial⟩ ?_
            refine NX.block ?_
            refine NX.then ?_
            refine Tr.region_f (fun _ => false) ?_
            refine W.q rfl rfl rfl rfl (by decide) (Yd.mv rfl (.t rfl)) ?_
            refine W.q rfl rfl rfl rfl (by decide) (Yd.addU (a := more_29) (b := 1#32) rfl (.t rfl) .c) ?_
            refine W.q rfl rfl rfl rfl (by decide) (Yd.as rfl (.t rfl)) ?_
            refine W.end ?_
            refine NX.sub (env' := [(0, _), (1, _), (5, _), (6, _), (7, _), (8, _)]) ⟨rfl, rfl, rfl, rfl, rfl, rfl, trivial⟩ ?_
            refine NX.sub (env' := [(0, _), (1, _), (5, _), (6, _), (7, _), (8, _)]) ⟨rfl, rfl, rfl, rfl, rfl, rfl, trivial⟩ ?_
            exact NX.again n32 (more_29 + 1, false) (Nat.lt_succ_self _) ⟨rfl, rfl, (fu_dec hnmore_29), ((hnx31 _).symm.trans hr)⟩
          · have hr := cond_f hb hr
            refine Tr.skip' ?_
            refine NX.block ?_
            refine NX.then ?_
            refine Tr.region_f (fun _ => false) ?_
            refine W.q rfl rfl rfl rfl (by decide) (Yd.mv rfl (.t rfl)) ?_
            refine W.q rfl rfl rfl rfl (by decide) (Yd.addU (a := more_29) (b := 1#32) rfl (.t rfl) .c) ?_
            refine W.q rfl rfl rfl rfl (by decide) (Yd.as rfl (.t rfl)) ?_
            refine W.end ?_
            refine NX.sub (env' := [(0, _), (1, _), (5, _), (6, _), (7, _), (8, _)]) ⟨rfl, rfl, rfl, rfl, rfl, rfl, trivial⟩ ?_
            refine NX.sub (env' := [(0, _), (1, _), (5, _), (6, _), (7, _), (8, _)]) ⟨rfl, rfl, rfl, rfl, rfl, rfl, trivial⟩ ?_
            exact NX.again n32 (more_29 + 1, ok_20) (Nat.lt_succ_self _) ⟨rfl, rfl, (fu_dec hnmore_29), ((hnx31 _).symm.trans hr)⟩

def syllogistref_Words_k3 : Option (Bool) :=
  some true

def syllogistref_Words_b7 (a_0 : List (BitVec 32)) (b_1 : List (BitVec 32)) (i_6 : Int) (nx8 : Unit → Option (Bool)) : Option (Bool) :=
  (geti a_0 i_6).bind fun y10 =>
  (geti b_1 i_6).bind fun y12 =>
  (bif (y10 != y12) then
  some false
  else
  nx8 ())

def syllogistref_Words (a_0 : List (BitVec 32)) (b_1 : List (BitVec 32)) : Option (Bool) :=
  (bif ((a_0.length : Int) != (b_1.length : Int)) then
  some false
  else
  forK (σ := Unit) (fun i s nx_ => syllogistref_Words_b7 a_0 b_1 i nx_) (fun _ => syllogistref_Words_k3) ((a_0.length : Int) - (0 : Int)).toNat (0 : Int) ())

set_option maxRecDepth 100000 in
theorem syllogistref_Words_ok (w0 : World) (m : Snap) (l : List HI) (ua_0 : Value) (a_0 : List (BitVec 32)) (ha_0 : RS rU m ua_0 a_0) (ub_1 : Value) (b_1 : List (BitVec 32)) (hb_1 : RS rU m ub_1 b_1) (r : Bool) (hr : syllogistref_Words a_0 b_1 = some r) (w : World) (hc : cX w0 ⟨m, l⟩ w) :
    Calls Try.prog 9 [ua_0, ub_1].toArray w fun e w' => e = .returned (.bool r) ∧ cX w0 ⟨m, l⟩ w' := by
  unfold syllogistref_Words at hr
  refine calls_of_Tr (N := 26) Try.func9 rfl hc rfl (Nat.le_of_ble_eq_true rfl) ?_
  refine Tr.seq ?_
  refine Tr.region_f (fun _ => false) ?_
  refine W.q rfl rfl rfl rfl (by decide) (Yd.as rfl .c) ?_
  refine W.end ?_
  refine NX.sub (env' := [(0, _), (1, _)]) ⟨rfl, rfl, trivial⟩ ?_
  refine NX.then ?_
  refine Tr.seq ?_
  refine Tr.seq ?_
  refine Tr.region_f (fun _ => false) ?_
  refine W.q rfl rfl rfl rfl (by decide) (Yd.mv rfl (.t rfl)) ?_
  refine W.q rfl rfl rfl rfl (by decide) (Yd.lenR ha_0 rfl Try.underlying22 (.t rfl)) ?_
  refine W.q rfl rfl rfl rfl (by decide) (Yd.mv rfl (.t rfl)) ?_
  refine W.q rfl rfl rfl rfl (by decide) (Yd.lenR hb_1 rfl Try.underlying22 (.t rfl)) ?_
  refine W.q rfl rfl rfl rfl (by decide) (Yd.neq rfl (.t rfl) (.t rfl)) ?_
  refine W.end ?_
  refine NX.sub (env' := [(0, _), (1, _), (10, _)]) ⟨rfl, rfl, rfl, trivial⟩ ?_
  refine NX.then ?_
  refine Tr.cond (.t rfl) (fun hb => ?_) (fun hb => ?_)
  · have hr := cond_t hb hr
    refine Tr.seq ?_
    refine Tr.region_f (fun _ => false) ?_
    refine W.q rfl rfl rfl rfl (by decide) (Yd.as rfl .c) ?_
    refine W.end ?_
    refine NX.sub (env' := [(4, _)]) ⟨rfl, trivial⟩ ?_
    refine NX.then ?_
    refine Tr.ret' (RT.then ?_)
    refine res1 rfl rfl ?_
    intro w hc
    cases hr
    exact ⟨rfl, hc⟩
  · have hr := cond_f hb hr
    refine Tr.skip' ?_
    refine NX.then ?_
    refine Tr.seq ?_
    refine Tr.seq ?_
    refine Tr.region_f (fun _ => false) ?_
    refine W.q rfl rfl rfl rfl (by decide) (Yd.as rfl .c) ?_
    refine W.end ?_
    refine NX.sub (env' := [(0, _), (1, _), (5, _)]) ⟨rfl, rfl, rfl, trivial⟩ ?_
    refine NX.then ?_
    refine Tr.join (S := fun env x => env = [] ∧ x = ⟨m, l⟩ ∧ syllogistref_Words_k3 = some r) ?_ (fun hk4 => ?_)
    · rintro _ _ ⟨rfl, rfl, hr⟩
      unfold syllogistref_Words_k3 at hr
      try dsimp only at hr
      refine NX.then ?_
      refine Tr.seq ?_
      refine Tr.region_f (fun _ => false) ?_
      refine W.q rfl rfl rfl rfl (by decide) (Yd.as rfl .c) ?_
      refine W.end ?_
      refine NX.sub (env' := [(4, _)]) ⟨rfl, trivial⟩ ?_
      refine NX.then ?_
      refine Tr.ret' ?_
      refine res1 rfl rfl ?_
      intro w hc
      cases hr
      exact ⟨rfl, hc⟩
    have hlen5 := (ha_0).2.1
    refine Tr.block ?_
    refine Tr.sub (env' := [(0, _), (1, _), (5, _)]) ⟨rfl, rfl, rfl, trivial⟩ ?_
    refine Tr.loop (S := fun n (z : Int × Unit) env x => match z with | (i_6, _) => env = [(0, ua_0), (1, ub_1), (5, .int .i64 i_6)] ∧ x = ⟨m, l⟩ ∧ n = ((a_0.length : Int) - i_6).toNat ∧ 0 ≤ i_6 ∧ forK (σ := Unit) (fun i s nx_ => syllogistref_Words_b7 a_0 b_1 i nx_) (fun _ => syllogistref_Words_k3) n i_6 () = some r) _ ((0 : Int), ()) ⟨rfl, rfl, rfl, (by omega), hr⟩ ?_
    rintro n9 ⟨i_6, _⟩ env x ⟨rfl, rfl, hni_6, h0i_6, hr⟩
    cases n9 with
    | zero =>
      simp only [forK] at hr
      refine Tr.seq ?_
      refine Tr.seq ?_
      refine Tr.region_f (fun _ => false) ?_
      refine W.q rfl rfl rfl rfl (by decide) (Yd.mv rfl (.t rfl)) ?_
      refine W.q rfl rfl rfl rfl (by decide) (Yd.mv rfl (.t rfl)) ?_
      refine W.q rfl rfl rfl rfl (by decide) (Yd.lenR ha_0 rfl Try.underlying22 (.t rfl)) ?_
      refine W.q rfl rfl rfl rfl (by decide) (Yd.lss rfl (.t rfl) (.t rfl)) ?_
      refine W.end ?_
      refine NX.sub (env' := [(0, _), (1, _), (5, _), (14, _)]) ⟨rfl, rfl, rfl, rfl, trivial⟩ ?_
      refine NX.then ?_
      refine Tr.cond (.t rfl) (fun hb => ?_) (fun hb => ?_)
      · exact absurd (hb.symm.trans (fr_end hni_6)) (by decide)
      ·
        refine Tr.exit' (EX.then (EX.then (EX.block ?_)))
        refine NX.sub (env' := []) trivial ?_
        exact hk4 _ _ ⟨rfl, rfl, hr⟩
    | succ n9 =>
      obtain ⟨nx8, hnx8, hr⟩ := forK_succ hr
      try dsimp only at hr
      unfold syllogistref_Words_b7 at hr
      try dsimp only at hr
      have hlti_6 := fr_bnd hni_6
      refine Tr.seq ?_
      refine Tr.seq ?_
      refine Tr.region_f (fun _ => false) ?_
      refine W.q rfl rfl rfl rfl (by decide) (Yd.mv rfl (.t rfl)) ?_
      refine W.q rfl rfl rfl rfl (by decide) (Yd.mv rfl (.t rfl)) ?_
      refine W.q rfl rfl rfl rfl (by decide) (Yd.lenR ha_0 rfl Try.underlying22 (.t rfl)) ?_
      refine W.q rfl rfl rfl rfl (by decide) (Yd.lss rfl (.t rfl) (.t rfl)) ?_
      refine W.end ?_
      refine NX.sub (env' := [(0, _), (1, _), (5, _), (14, _)]) ⟨rfl, rfl, rfl, rfl, trivial⟩ ?_
      refine NX.then ?_
      refine Tr.cond (.t rfl) (fun hb => ?_) (fun hb => ?_)
      rotate_left
      · exact absurd (hb.symm.trans (fr_go hni_6)) (by decide)
      ·
        refine Tr.skip' ?_
        refine NX.then ?_
        refine Tr.seq ?_
        refine Tr.block ?_
        refine Tr.seq ?_
        obtain ⟨y10, hy11, hr⟩ := bind_some hr
        obtain ⟨y12, hy13, hr⟩ := bind_some hr
        refine Tr.region_x (fun _ => false) (fun _ => false) (Ord.of [0, 1, 2, 3, 4, 5, 6, 7, 8]) FM (by kernel_rfl) ?_
        refine W.q rfl rfl rfl rfl (by decide) (Yd.mv rfl (.t rfl)) ?_
        refine W.q rfl rfl rfl rfl (by decide) (Yd.mv rfl (.t rfl)) ?_
        refine W.q rfl rfl rfl rfl (by decide) (Yd.idxR ha_0 hy11 rfl Try.underlying22 SZ31 (.t rfl) (.t rfl)) ?_
        refine W.q rfl rfl rfl rfl (by decide) (Yd.ldF ha_0 (.refl _) hy11 rfl rfl ON31 (.t rfl)) ?_
        refine W.q rfl rfl rfl rfl (by decide) (Yd.mv rfl (.t rfl)) ?_
        refine W.q rfl rfl rfl rfl (by decide) (Yd.mv rfl (.t rfl)) ?_
        refine W.q rfl rfl rfl rfl (by decide) (Yd.idxR hb_1 hy13 rfl Try.underlying22 SZ31 (.t rfl) (.t rfl)) ?_
        refine W.q rfl rfl rfl rfl (by decide) (Yd.ldF hb_1 (.refl _) hy13 rfl rfl ON31 (.t rfl)) ?_
        refine W.q rfl rfl rfl rfl (by decide) (Yd.neqU (a := y10) (b := y12) rfl (.t rfl) (.t rfl)) ?_
        refine W.end ?_
        refine NX.sub (env' := [(0, _), (1, _), (5, _), (25, _)]) ⟨rfl, rfl, rfl, rfl, trivial⟩ ?_
        refine NX.then ?_
        refine Tr.cond (.t rfl) (fun hb => ?_) (fun hb => ?_)
        · have hr := cond_t hb hr
          refine Tr.seq ?_
          refine Tr.region_f (fun _ => false) ?_
          refine W.q rfl rfl rfl rfl (by decide) (Yd.as rfl .c) ?_
          refine W.end ?_
          refine NX.sub (env' := [(4, _)]) ⟨rfl, trivial⟩ ?_
          refine NX.then ?_
          refine Tr.ret' (RT.block (RT.then (RT.then (RT.block (RT.then ?_)))))
          refine res1 rfl rfl ?_
          intro w hc
          cases hr
          exact ⟨rfl, hc⟩
        · have hr := cond_f hb hr
          refine Tr.skip' ?_
          refine NX.block ?_
          refine NX.then ?_
          refine Tr.region_f (fun _ => false) ?_
          refine W.q rfl rfl rfl rfl (by decide) (Yd.mv rfl (.t rfl)) ?_
          refine W.q rfl rfl rfl rfl (by decide) (Yd.add rfl (.t rfl) .c) ?_
          refine W.q rfl rfl rfl rfl (by decide) (Yd.as rfl (.t rfl)) ?_
          refine W.end ?_
          refine NX.sub (env' := [(0, _), (1, _), (5, _)]) ⟨rfl, rfl, rfl, trivial⟩ ?_
          refine NX.sub (env' := [(0, _), (1, _), (5, _)]) ⟨rfl, rfl, rfl, trivial⟩ ?_
          have hw := w64_id (n := i_6 + 1) (by omega) (by omega)
          exact NX.again n9 (i_6 + 1, ()) (Nat.lt_succ_self _) ⟨(by rw [hw] <;> rfl), rfl, (fr_dec hni_6), (by omega), ((hnx8 _).symm.trans hr)⟩

def syllogistlaw_ShareLost (n_0 : Int) (sets_1 : List (BitVec 32)) : Option (Bool) :=
  (share_Lost n_0 sets_1).bind fun r1 =>
  (syllogistref_SetsCheck n_0 sets_1).bind fun r5 =>
  (bif (r5 != (0 : Int)) then
  some (((r1.2 == r5) && ((r1.1.length : Int) == (0 : Int))))
  else
  (bif ((r1.2 == (0 : Int)) == true) then
  (syllogistref_MostLost n_0 sets_1).bind fun r8 =>
  (syllogistref_Words r1.1 r8).bind fun r12 =>
  some (((r1.2 == (0 : Int)) && r12))
  else
  some (((r1.2 == (0 : Int)) && false))))

set_option maxRecDepth 100000 in
theorem syllogistlaw_ShareLost_ok (w0 : World) (m : Snap) (l : List HI) (n_0 : Int) (usets_1 : Value) (sets_1 : List (BitVec 32)) (hsets_1 : RS rU m usets_1 sets_1) (r : Bool) (hr : syllogistlaw_ShareLost n_0 sets_1 = some r) (w : World) (hc : cX w0 ⟨m, l⟩ w) :
    Calls Try.prog 3 [.int .i64 n_0, usets_1].toArray w fun e w' => e = .returned (.bool r) ∧ cX w0 ⟨m, l⟩ w' := by
  unfold syllogistlaw_ShareLost at hr
  refine calls_of_Tr (N := 36) Try.func3 rfl hc rfl (Nat.le_of_ble_eq_true rfl) ?_
  refine Tr.seq ?_
  refine Tr.region_f (fun _ => false) ?_
  refine W.q rfl rfl rfl rfl (by decide) (Yd.as rfl .c) ?_
  refine W.end ?_
  refine NX.sub (env' := [(0, _), (1, _)]) ⟨rfl, rfl, trivial⟩ ?_
  refine NX.then ?_
  refine Tr.seq ?_
  obtain ⟨r1, hr2, hr⟩ := bind_some hr
  refine Tr.region_f (fun i => Nat.beq i 2) ?_
  refine W.q rfl rfl rfl rfl (by decide) (Yd.mv rfl (.t rfl)) ?_
  refine W.q rfl rfl rfl rfl (by decide) (Yd.mv rfl (.t rfl)) ?_
  refine W.e rfl rfl rfl rfl (by decide) (Ef.call (R := fun z x' => ∃ v3 : Value, z = .tuple #[v3, .int .i64 r1.2] ∧ x' = ⟨m, hownT 31 1 encU v3 r1.1 :: l⟩) rfl Try.func7 rfl rfl (.cons (.t rfl) (.cons (.t rfl) .nil)) (fun w hw => (share_Lost_ok w0 _ _ n_0 _ _ hsets_1 _ hr2 w hw).mono fun e w' ⟨v3, he, hc'⟩ => ⟨_, _, he, ⟨v3, rfl, rfl⟩, hc'⟩)) ?_
  rintro _ _ ⟨v3, rfl, rfl⟩
  refine ⟨.inl rfl, ?_⟩
  refine W.cast (m' := m) (l' := hownT 31 1 encU v3 _ :: l) rfl rfl ?_
  refine W.q rfl rfl rfl rfl (by decide) (Yd.mv rfl (.t rfl)) ?_
  refine W.q rfl rfl rfl rfl (by decide) (Yd.ext rfl (.t rfl) rfl) ?_
  refine W.q rfl rfl rfl rfl (by decide) (Yd.ext rfl (.t rfl) rfl) ?_
  refine W.q rfl rfl rfl rfl (by decide) (Yd.as rfl (.t rfl)) ?_
  refine W.q rfl rfl rfl rfl (by decide) (Yd.as rfl (.t rfl)) ?_
  refine W.end ?_
  refine NX.sub (env' := [(0, _), (1, _), (5, _), (6, _)]) ⟨rfl, rfl, rfl, rfl, trivial⟩ ?_
  refine NX.then ?_
  refine Tr.seq ?_
  obtain ⟨r5, hr6, hr⟩ := bind_some hr
  refine Tr.region_f (fun _ => false) ?_
  refine W.q rfl rfl rfl rfl (by decide) (Yd.mv rfl (.t rfl)) ?_
  refine W.q rfl rfl rfl rfl (by decide) (Yd.mv rfl (.t rfl)) ?_
  refine W.q rfl rfl rfl rfl (by decide) (Yd.call (v := .int .i64 r5) rfl Try.func8 rfl rfl (.cons (.t rfl) (.cons (.t rfl) .nil)) (fun x' hx w hw => syllogistref_SetsCheck_ok w0 x'.m x'.l n_0 _ _ (hsets_1.mono hx.1) _ hr6 w hw)) ?_
  refine W.q rfl rfl rfl rfl (by decide) (Yd.as rfl (.t rfl)) ?_
  refine W.end ?_
  refine NX.sub (env' := [(0, _), (1, _), (5, _), (6, _), (7, _)]) ⟨rfl, rfl, rfl, rfl, rfl, trivial⟩ ?_
  refine NX.then ?_
  refine Tr.seq ?_
  refine Tr.seq ?_
  refine Tr.region_f (fun _ => false) ?_
  refine W.q rfl rfl rfl rfl (by decide) (Yd.mv rfl (.t rfl)) ?_
  refine W.q rfl rfl rfl rfl (by decide) (Yd.neq rfl (.t rfl) .c) ?_
  refine W.end ?_
  refine NX.sub (env' := [(0, _), (1, _), (5, _), (6, _), (7, _), (18, _)]) ⟨rfl, rfl, rfl, rfl, rfl, rfl, trivial⟩ ?_
  refine NX.then ?_
  refine Tr.cond (.t rfl) (fun hb => ?_) (fun hb => ?_)
  · have hr := cond_t hb hr
    refine Tr.seq ?_
    refine Tr.region_f (fun _ => false) ?_
    refine W.q rfl rfl rfl rfl (by decide) (Yd.mv rfl (.t rfl)) ?_
    refine W.q rfl rfl rfl rfl (by decide) (Yd.mv rfl (.t rfl)) ?_
    refine W.q rfl rfl rfl rfl (by decide) (Yd.eql rfl (.t rfl) (.t rfl)) ?_
    refine W.q rfl rfl rfl rfl (by decide) (Yd.mv rfl (.t rfl)) ?_
    refine W.g rfl rfl rfl rfl rfl (.t rfl _) rfl (by decide) (fun hG => Yd.mv rfl (.t rfl)) ?_
    refine W.g rfl rfl rfl rfl rfl (.t rfl _) rfl (by decide) (fun hG => Yd.lenO (p := 0) rfl rfl Try.underlying22 (.g rfl hG)) ?_
    refine W.g rfl rfl rfl rfl rfl (.t rfl _) rfl (by decide) (fun hG => Yd.eql rfl (.g rfl hG) .c) ?_
    refine W.q rfl rfl rfl rfl (by decide) (Yd.and rfl (.t rfl) .c rfl rfl) ?_
    refine W.q rfl rfl rfl rfl (by decide) (Yd.as rfl (.t rfl)) ?_
    refine W.end ?_
    refine NX.sub (env' := [(4, _)]) ⟨rfl, trivial⟩ ?_
    refine NX.drop (l' := l) (.cons _ (.refl _)) ?_
    refine NX.then ?_
    refine Tr.ret' (RT.then ?_)
    refine res1 rfl rfl ?_
    intro w hc
    cases hr
    exact ⟨rfl, hc⟩
  · have hr := cond_f hb hr
    refine Tr.skip' ?_
    refine NX.then ?_
    refine Tr.seq ?_
    refine Tr.region_f (fun i => Nat.beq i 6) ?_
    refine W.q rfl rfl rfl rfl (by decide) (Yd.mv rfl (.t rfl)) ?_
    refine W.q rfl rfl rfl rfl (by decide) (Yd.eql rfl (.t rfl) .c) ?_
    refine W.q rfl rfl rfl rfl (by decide) (Yd.mv rfl (.t rfl)) ?_
    refine W.g rfl rfl rfl rfl rfl (.t rfl _) rfl (by decide) (fun hG => Yd.mv rfl (.t rfl)) ?_
    refine W.g rfl rfl rfl rfl rfl (.t rfl _) rfl (by decide) (fun hG => Yd.mv rfl (.t rfl)) ?_
    refine W.g rfl rfl rfl rfl rfl (.t rfl _) rfl (by decide) (fun hG => Yd.mv rfl (.t rfl)) ?_
    refine W.split (b := ((r1.2 == (0 : Int)) == true)) (fun hb7 => ?_) (fun hb7 => ?_)
    · have hr := cond_t hb7 hr
      obtain ⟨r8, hr9, hr⟩ := bind_some hr
      obtain ⟨r12, hr13, hr⟩ := bind_some hr
      refine W.ge rfl rfl rfl rfl rfl (.t rfl _) hb7 rfl (by decide) (Ef.call (R := fun z x' => ∃ v10 : Value, z = v10 ∧ x' = ⟨m, hownT 31 1 encU v10 r8 :: hownT 31 1 encU v3 r1.1 :: l⟩) rfl Try.func10 rfl rfl (.cons (.g rfl hb7) (.cons (.g rfl hb7) .nil)) (fun w hw => (syllogistref_MostLost_ok w0 _ _ n_0 _ _ hsets_1 _ hr9 w hw).mono fun e w' ⟨v10, he, hc'⟩ => ⟨_, _, he, ⟨v10, rfl, rfl⟩, hc'⟩)) ?_
      rintro v10 _ ⟨_, rfl, rfl⟩
      refine ⟨.inl rfl, ?_⟩
      refine W.cast (m' := m) (l' := hownT 31 1 encU v10 _ :: hownT 31 1 encU v3 _ :: l) rfl rfl ?_
      refine W.g rfl rfl rfl rfl rfl (.t rfl _) rfl (by decide) (fun hG => Yd.call (v := .bool r12) rfl Try.func9 rfl rfl (.cons (.g rfl hb7) (.cons (.t rfl) .nil)) (by intro x' hx w hw; obtain ⟨p0, p1, hp0, hp1⟩ := hx.at2 (a := 1) (b := 0) rfl rfl rfl; obtain ⟨m1, hm1, hc1, ⟨L1, hl0a, hl0b'⟩, hback1⟩ := cX_lend hw hp0 lone_own; obtain ⟨m2, hm2', hc2, ⟨L2, hl1a, hl1b⟩, hback2⟩ := cX_lend hc1 hp1 lone_own; have hm2 := hm1.trans hm2'; have hl0b : ∀ q ∈ L1, m2 q.1 = some q.2 := fun q hq => hm2' _ _ (hl0b' q hq); have hL1 : RS rU m2 _ _ := RS_of_own hl0a hl0b; have hL2 : RS rU m2 _ _ := RS_of_own hl1a hl1b; exact (syllogistref_Words_ok w0 m2 _ _ _ hL1 _ _ hL2 _ hr13 w hc2).mono fun e w' ⟨he, hc'⟩ => ⟨he, (hback1 m1 _ _ w' (.refl _) hp0).2 ((hback2 m2 _ _ w' (.refl _) hp1).2 hc')⟩)) ?_
      refine W.q rfl rfl rfl rfl (by decide) (Yd.and rfl (.t rfl) .c rfl rfl) ?_
      refine W.q rfl rfl rfl rfl (by decide) (Yd.as rfl (.t rfl)) ?_
      refine W.end ?_
      refine NX.sub (env' := [(4, _)]) ⟨rfl, trivial⟩ ?_
      refine NX.drop (l' := l) (.cons _ (.cons _ (.refl _))) ?_
      refine NX.then ?_
      refine Tr.ret' ?_
      refine res1 rfl rfl ?_
      intro w hc
      cases hr
      exact ⟨rfl, hc⟩
    · have hr := cond_f hb7 hr
      refine W.gF rfl rfl rfl rfl (.t rfl _) hb7 rfl (by decide) (undef) ?_
      refine W.gF rfl rfl rfl rfl (.t rfl _) hb7 rfl (by decide) (.bool false) ?_
      refine W.q rfl rfl rfl rfl (by decide) (Yd.and rfl (.t rfl) .c rfl rfl) ?_
      refine W.q rfl rfl rfl rfl (by decide) (Yd.as rfl (.t rfl)) ?_
      refine W.end ?_
      refine NX.sub (env' := [(4, _)]) ⟨rfl, trivial⟩ ?_
      refine NX.drop (l' := l) (.cons _ (.refl _)) ?_
      refine NX.then ?_
      refine Tr.ret' ?_
      refine res1 rfl rfl ?_
      intro w hc
      cases hr
      exact ⟨rfl, hc⟩
end Go.Proofs.Ytjpoedjmoobapaa.Sy
