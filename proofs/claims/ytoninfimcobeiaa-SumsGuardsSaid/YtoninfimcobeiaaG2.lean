/- Functions of the program as plain functions, and that the translation computes them; the conditions stand in each theorem. Printed by an own program. -/
import Derived.Test.YtoninfimcobeiaaSyU
import Derived.Test.YtoninfimcobeiaaT
import Derived.Test.YtoninfimcobeiaaProg
namespace Go.Proofs.Ytoninfimcobeiaa.Sy
open Go
set_option linter.unusedVariables false
theorem ON3 : one Try.prog 3 = true := by kernel_rfl
theorem SZ23 : (Try.prog.info? 23).map (·.size) = some 1 := by kernel_rfl
theorem ON23 : one Try.prog 23 = true := by kernel_rfl
theorem US23 : (Try.prog.underlying 23).isSome = true := by kernel_rfl
def tbl1793256 : List (BitVec 8) := [0#8, 1#8, 2#8, 2#8, 3#8, 3#8, 3#8, 3#8, 4#8, 4#8, 4#8, 4#8, 4#8, 4#8, 4#8, 4#8, 5#8, 5#8, 5#8, 5#8, 5#8, 5#8, 5#8, 5#8, 5#8, 5#8, 5#8, 5#8, 5#8, 5#8, 5#8, 5#8, 6#8, 6#8, 6#8, 6#8, 6#8, 6#8, 6#8, 6#8, 6#8, 6#8, 6#8, 6#8, 6#8, 6#8, 6#8, 6#8, 6#8, 6#8, 6#8, 6#8, 6#8, 6#8, 6#8, 6#8, 6#8, 6#8, 6#8, 6#8, 6#8, 6#8, 6#8, 6#8, 7#8, 7#8, 7#8, 7#8, 7#8, 7#8, 7#8, 7#8, 7#8, 7#8, 7#8, 7#8, 7#8, 7#8, 7#8, 7#8, 7#8, 7#8, 7#8, 7#8, 7#8, 7#8, 7#8, 7#8, 7#8, 7#8, 7#8, 7#8, 7#8, 7#8, 7#8, 7#8, 7#8, 7#8, 7#8, 7#8, 7#8, 7#8, 7#8, 7#8, 7#8, 7#8, 7#8, 7#8, 7#8, 7#8, 7#8, 7#8, 7#8, 7#8, 7#8, 7#8, 7#8, 7#8, 7#8, 7#8, 7#8, 7#8, 7#8, 7#8, 7#8, 7#8, 7#8, 7#8, 8#8, 8#8, 8#8, 8#8, 8#8, 8#8, 8#8, 8#8, 8#8, 8#8, 8#8, 8#8, 8#8, 8#8, 8#8, 8#8, 8#8, 8#8, 8#8, 8#8, 8#8, 8#8, 8#8, 8#8, 8#8, 8#8, 8#8, 8#8, 8#8, 8#8, 8#8, 8#8, 8#8, 8#8, 8#8, 8#8, 8#8, 8#8, 8#8, 8#8, 8#8, 8#8, 8#8, 8#8, 8#8, 8#8, 8#8, 8#8, 8#8, 8#8, 8#8, 8#8, 8#8, 8#8, 8#8, 8#8, 8#8, 8#8, 8#8, 8#8, 8#8, 8#8, 8#8, 8#8, 8#8, 8#8, 8#8, 8#8, 8#8, 8#8, 8#8, 8#8, 8#8, 8#8, 8#8, 8#8, 8#8, 8#8, 8#8, 8#8, 8#8, 8#8, 8#8, 8#8, 8#8, 8#8, 8#8, 8#8, 8#8, 8#8, 8#8, 8#8, 8#8, 8#8, 8#8, 8#8, 8#8, 8#8, 8#8, 8#8, 8#8, 8#8, 8#8, 8#8, 8#8, 8#8, 8#8, 8#8, 8#8, 8#8, 8#8, 8#8, 8#8, 8#8, 8#8, 8#8, 8#8, 8#8, 8#8, 8#8, 8#8, 8#8, 8#8, 8#8, 8#8, 8#8, 8#8, 8#8]
theorem US5 : (Try.prog.underlying 5).isSome = true := by kernel_rfl
structure T78 where
  l : List SumsRow
  zero : List (BitVec 32)
def P78 (m : Snap) (z : Value) : Option T78 → Prop
  | none => z = .pointer none
  | some x => ∃ (b : Nat) (u0 u1 : Value), z = bp b 0 ∧ Bk m b 78 [u0, u1] ∧ RS rSumsRow m u0 x.l ∧ RS rU m u1 x.zero
theorem P78.mono {m m' : Snap} {z : Value} {o : Option T78} (hm : Sle m m') (h : P78 m z o) : P78 m' z o := by
  cases o with
  | none => exact h
  | some x =>
    obtain ⟨b, u0, u1, hz, hb, h0, h1⟩ := h
    exact ⟨b, u0, u1, hz, hb.mono hm, h0.mono hm, h1.mono hm⟩
theorem ZR85 : (Try.prog.info? 85).bind (·.zero) = some (.agg #[.int .u32 0, .int .u32 0]) := by kernel_rfl
theorem SZ76 : (Try.prog.info? 76).map (·.size) = some 1 := by kernel_rfl
theorem ON76 : one Try.prog 76 = true := by kernel_rfl
theorem SZ85 : (Try.prog.info? 85).map (·.size) = some 2 := by kernel_rfl
theorem ON85 : one Try.prog 85 = false := by kernel_rfl
theorem US85 : (Try.prog.underlying 85).isSome = true := by kernel_rfl
theorem ZI78 : (Try.prog.info? 78).bind (·.zero) = some (.agg #[.slice none 0 0, .slice none 0 0]) := by kernel_rfl
theorem PL78 : plS Try.prog 78 = some [(0, 1), (1, 1)] := by kernel_rfl
theorem ZI85 : (Try.prog.info? 85).bind (·.zero) = some (.agg #[.int .u32 0, .int .u32 0]) := by kernel_rfl
theorem PL85 : plS Try.prog 85 = some [(0, 1), (1, 1)] := by kernel_rfl
theorem SZ42 : (Try.prog.info? 42).map (·.size) = some 1 := by kernel_rfl
theorem ON42 : one Try.prog 42 = true := by kernel_rfl
theorem IF23 : (Try.prog.info? 23).map (fun i => (i.zero, i.size, i.bytes)) = some (some (.int .u32 0), 1, 4) := by kernel_rfl
theorem IF85 : (Try.prog.info? 85).map (fun i => (i.zero, i.size, i.bytes)) = some (some (.agg #[.int .u32 0, .int .u32 0]), 2, 8) := by kernel_rfl
theorem US3 : (Try.prog.underlying 3).isSome = true := by kernel_rfl
theorem IN23 : (Try.prog.info? 23).isSome = true := by kernel_rfl
theorem IF24 : (Try.prog.info? 24).map (fun i => (i.zero, i.size, i.bytes)) = some (some (.int .i64 0), 1, 8) := by kernel_rfl
theorem SZ24 : (Try.prog.info? 24).map (·.size) = some 1 := by kernel_rfl
theorem ON24 : one Try.prog 24 = true := by kernel_rfl
theorem FM : Try.prog.follows .mixedOrders = true := by kernel_rfl

def sums_wrong_c1 (q_0 : (BitVec 32)) (cp_0 : Int) : Option (Bool) :=
  bif decide (0 ≤ cp_0) then
  some (((q_0 >>> cp_0.toNat) != 0#32)) else none

set_option maxRecDepth 100000 in
set_option maxHeartbeats 4000000 in
theorem sums_wrong_c1_ok (w0 : World) (m : Snap) (l : List HI) (q_0 : (BitVec 32)) (fp0 fb0 : Nat) (cp_0 : Int) (hfp0 : l[fp0]? = some (hcells fb0 [.int .i64 cp_0] 3)) (r : Bool) (hr : sums_wrong_c1 q_0 cp_0 = some r) (w : World) (hc : cX w0 ⟨m, l⟩ w) :
    Calls Try.prog 65 [.int .u32 (q_0.toNat : Int), bp fb0 0].toArray w fun e w' => e = .returned (.bool r) ∧ cX w0 ⟨m, l⟩ w' := by
  unfold sums_wrong_c1 at hr
  refine calls_of_Tr (N := 8) Try.func65 rfl hc rfl (Nat.le_of_ble_eq_true rfl) ?_
  refine Tr.seq ?_
  refine Tr.region_f (fun _ => false) ?_
  refine W.q rfl rfl rfl rfl (by decide) (Yd.as rfl .c) ?_
  refine W.end ?_
  refine NX.sub (env' := [(0, _), (1, _)]) ⟨rfl, rfl, trivial⟩ ?_
  refine NX.then ?_
  refine Tr.seq ?_
  obtain ⟨hq1, hr⟩ := guard_some hr; replace hq1 := of_decide_eq_true hq1
  refine Tr.region_f (fun _ => false) ?_
  refine W.q rfl rfl rfl rfl (by decide) (Yd.mv rfl (.t rfl)) ?_
  refine W.q rfl rfl rfl rfl (by decide) (Yd.ldB (pos := fp0) hfp0 rfl rfl ON3 (.t rfl)) ?_
  refine W.q rfl rfl rfl rfl (by decide) (Yd.shrU (a := q_0) rfl (.t rfl) (.t rfl) hq1) ?_
  refine W.q rfl rfl rfl rfl (by decide) (Yd.neqU (a := (q_0 >>> cp_0.toNat)) (b := 0#32) rfl (.t rfl) .c) ?_
  refine W.q rfl rfl rfl rfl (by decide) (Yd.as rfl (.t rfl)) ?_
  refine W.end ?_
  refine NX.sub (env' := [(3, _)]) ⟨rfl, trivial⟩ ?_
  refine NX.then ?_
  refine Tr.ret' ?_
  refine res1 rfl rfl ?_
  intro w hc
  cases hr
  exact ⟨rfl, hc⟩

def slices_IndexFunc_Suint32uint32_k3 : Option (Int) :=
  some ((-1 : Int))

def slices_IndexFunc_Suint32uint32_b7 (s_0 : List (BitVec 32)) (f_1 : (BitVec 32) → Option Bool) (t_6 : Int) (nx8 : Unit → Option (Int)) : Option (Int) :=
  (geti s_0 t_6).bind fun y10 =>
  (f_1 y10).bind fun r12 =>
  (bif r12 then
  some t_6
  else
  nx8 ())

def slices_IndexFunc_Suint32uint32 (s_0 : List (BitVec 32)) (f_1 : (BitVec 32) → Option Bool) : Option (Int) :=
  forK (σ := Unit) (fun i s nx_ => slices_IndexFunc_Suint32uint32_b7 s_0 f_1 i nx_) (fun _ => slices_IndexFunc_Suint32uint32_k3) ((s_0.length : Int) - (0 : Int)).toNat (0 : Int) ()

set_option maxRecDepth 100000 in
set_option maxHeartbeats 4000000 in
theorem slices_IndexFunc_Suint32uint32_ok (w0 : World) (m : Snap) (l : List HI) (us_0 : Value) (s_0 : List (BitVec 32)) (hs_0 : RS rU m us_0 s_0) (uf_1 : Value) (f_1 : (BitVec 32) → Option Bool) (hf_1 : Fq Try.prog w0 ⟨m, l⟩ uf_1 (α := (BitVec 32)) (β := Bool) (fun _ v a => v = .int .u32 (a.toNat : Int)) (fun b => .bool b) f_1) (r : Int) (hr : slices_IndexFunc_Suint32uint32 s_0 f_1 = some r) (w : World) (hc : cX w0 ⟨m, l⟩ w) :
    Calls Try.prog 69 [us_0, uf_1].toArray w fun e w' => e = .returned (.int .i64 r) ∧ cX w0 ⟨m, l⟩ w' := by
  unfold slices_IndexFunc_Suint32uint32 at hr
  refine calls_of_Tr (N := 19) Try.func69 rfl hc rfl (Nat.le_of_ble_eq_true rfl) ?_
  refine Tr.seq ?_
  refine Tr.region_f (fun _ => false) ?_
  refine W.q rfl rfl rfl rfl (by decide) (Yd.as rfl .c) ?_
  refine W.end ?_
  refine NX.sub (env' := [(0, _), (1, _)]) ⟨rfl, rfl, trivial⟩ ?_
  refine NX.then ?_
  refine Tr.seq ?_
  refine Tr.seq ?_
  refine Tr.region_f (fun _ => false) ?_
  refine W.q rfl rfl rfl rfl (by decide) (Yd.mv rfl (.t rfl)) ?_
  refine W.q rfl rfl rfl rfl (by decide) (Yd.lenR hs_0 rfl Try.underlying42 (.t rfl)) ?_
  refine W.q rfl rfl rfl rfl (by decide) (Yd.mv rfl .c) ?_
  refine W.end ?_
  refine NX.sub (env' := [(0, _), (1, _), (7, _), (8, _)]) ⟨rfl, rfl, rfl, rfl, trivial⟩ ?_
  refine NX.then ?_
  refine Tr.join (S := fun env x => env = [] ∧ x = ⟨m, l⟩ ∧ slices_IndexFunc_Suint32uint32_k3 = some r) ?_ (fun hk4 => ?_)
  · rintro _ _ ⟨rfl, rfl, hr⟩
    unfold slices_IndexFunc_Suint32uint32_k3 at hr
    try dsimp only at hr
    refine NX.then ?_
    refine Tr.seq ?_
    refine Tr.region_f (fun _ => false) ?_
    refine W.q rfl rfl rfl rfl (by decide) (Yd.as rfl .c) ?_
    refine W.end ?_
    refine NX.sub (env' := [(4, _)]) ⟨rfl, trivial⟩ ?_
    refine NX.then ?_
    refine Tr.ret' ?_
    refine res1 rfl rfl ?_
    intro w hc
    cases hr
    exact ⟨rfl, hc⟩
  have hlen5 := (hs_0).2.1
  refine Tr.block ?_
  refine Tr.sub (env' := [(0, _), (1, _), (7, _), (8, _)]) ⟨rfl, rfl, rfl, rfl, trivial⟩ ?_
  refine Tr.loop (S := fun n (z : Int × Unit) env x => match z with | (t_6, _) => env = [(0, us_0), (1, uf_1), (7, .int .i64 ((s_0.length : Int))), (8, .int .i64 t_6)] ∧ x = ⟨m, l⟩ ∧ n = ((s_0.length : Int) - t_6).toNat ∧ 0 ≤ t_6 ∧ forK (σ := Unit) (fun i s nx_ => slices_IndexFunc_Suint32uint32_b7 s_0 f_1 i nx_) (fun _ => slices_IndexFunc_Suint32uint32_k3) n t_6 () = some r) _ ((0 : Int), ()) ⟨rfl, rfl, rfl, (by omega), hr⟩ ?_
  rintro n9 ⟨t_6, _⟩ env x ⟨rfl, rfl, hnt_6, h0t_6, hr⟩
  cases n9 with
  | zero =>
    simp only [forK] at hr
    refine Tr.seq ?_
    refine Tr.region_f (fun _ => false) ?_
    refine W.q rfl rfl rfl rfl (by decide) (Yd.lss rfl (.t rfl) (.t rfl)) ?_
    refine W.end ?_
    refine NX.sub (env' := [(0, _), (1, _), (7, _), (8, _), (9, _)]) ⟨rfl, rfl, rfl, rfl, rfl, trivial⟩ ?_
    refine NX.then ?_
    refine Tr.seq ?_
    refine Tr.cond (.t rfl) (fun hb => ?_) (fun hb => ?_)
    · exact absurd (hb.symm.trans (fr_end hnt_6)) (by decide)
    ·
      refine Tr.exit' (EX.then (EX.then (EX.block ?_)))
      refine NX.sub (env' := []) trivial ?_
      exact hk4 _ _ ⟨rfl, rfl, hr⟩
  | succ n9 =>
    obtain ⟨nx8, hnx8, hr⟩ := forK_succ hr
    try dsimp only at hr
    unfold slices_IndexFunc_Suint32uint32_b7 at hr
    try dsimp only at hr
    have hltt_6 := fr_bnd hnt_6
    refine Tr.seq ?_
    refine Tr.region_f (fun _ => false) ?_
    refine W.q rfl rfl rfl rfl (by decide) (Yd.lss rfl (.t rfl) (.t rfl)) ?_
    refine W.end ?_
    refine NX.sub (env' := [(0, _), (1, _), (7, _), (8, _), (9, _)]) ⟨rfl, rfl, rfl, rfl, rfl, trivial⟩ ?_
    refine NX.then ?_
    refine Tr.seq ?_
    refine Tr.cond (.t rfl) (fun hb => ?_) (fun hb => ?_)
    rotate_left
    · exact absurd (hb.symm.trans (fr_go hnt_6)) (by decide)
    ·
      refine Tr.skip' ?_
      refine NX.then ?_
      refine Tr.seq ?_
      refine Tr.block ?_
      refine Tr.seq ?_
      refine Tr.region_f (fun _ => false) ?_
      refine W.q rfl rfl rfl rfl (by decide) (Yd.mv rfl (.t rfl)) ?_
      refine W.q rfl rfl rfl rfl (by decide) (Yd.as rfl (.t rfl)) ?_
      refine W.end ?_
      refine NX.sub (env' := [(0, _), (1, _), (7, _), (8, _), (5, _)]) ⟨rfl, rfl, rfl, rfl, rfl, trivial⟩ ?_
      refine NX.then ?_
      refine Tr.seq ?_
      obtain ⟨y10, hy11, hr⟩ := bind_some hr
      obtain ⟨r12, hr13, hr⟩ := bind_some hr
      refine Tr.region_f (fun _ => false) ?_
      refine W.q rfl rfl rfl rfl (by decide) (Yd.mv rfl (.t rfl)) ?_
      refine W.q rfl rfl rfl rfl (by decide) (Yd.mv rfl (.t rfl)) ?_
      refine W.q rfl rfl rfl rfl (by decide) (Yd.mv rfl (.t rfl)) ?_
      refine W.q rfl rfl rfl rfl (by decide) (Yd.idxR hs_0 hy11 rfl Try.underlying42 SZ23 (.t rfl) (.t rfl)) ?_
      refine W.q rfl rfl rfl rfl (by decide) (Yd.ldF hs_0 (.refl _) hy11 rfl rfl ON23 (.t rfl)) ?_
      refine W.q rfl rfl rfl rfl (by decide) (Yd.callF hf_1 ⟨(.refl _), [], rfl⟩ rfl (.t rfl) (.t rfl) (fun _ _ => rfl) hr13) ?_
      refine W.end ?_
      refine NX.sub (env' := [(0, _), (1, _), (7, _), (8, _), (5, _), (16, _)]) ⟨rfl, rfl, rfl, rfl, rfl, rfl, trivial⟩ ?_
      refine NX.then ?_
      refine Tr.cond (.t rfl) (fun hb => ?_) (fun hb => ?_)
      · have hr := cond_t hb hr
        refine Tr.seq ?_
        refine Tr.region_f (fun _ => false) ?_
        refine W.q rfl rfl rfl rfl (by decide) (Yd.mv rfl (.t rfl)) ?_
        refine W.q rfl rfl rfl rfl (by decide) (Yd.as rfl (.t rfl)) ?_
        refine W.end ?_
        refine NX.sub (env' := [(4, _)]) ⟨rfl, trivial⟩ ?_
        refine NX.then ?_
        refine Tr.ret' (RT.block (RT.then (RT.then (RT.block (RT.then ?_)))))
        refine res1 rfl rfl ?_
        intro w hc
        cases hr
        exact ⟨rfl, hc⟩
      · have hr := cond_f hb hr
        refine Tr.skip' ?_
        refine NX.block ?_
        refine NX.then ?_
        refine Tr.region_f (fun _ => false) ?_
        refine W.q rfl rfl rfl rfl (by decide) (Yd.add rfl (.t rfl) .c) ?_
        refine W.q rfl rfl rfl rfl (by decide) (Yd.mv rfl (.t rfl)) ?_
        refine W.end ?_
        refine NX.sub (env' := [(0, _), (1, _), (7, _), (8, _)]) ⟨rfl, rfl, rfl, rfl, trivial⟩ ?_
        refine NX.sub (env' := [(0, _), (1, _), (7, _), (8, _)]) ⟨rfl, rfl, rfl, rfl, trivial⟩ ?_
        have hw := w64_id (n := t_6 + 1) (by omega) (by omega)
        exact NX.again n9 (t_6 + 1, ()) (Nat.lt_succ_self _) ⟨(by rw [hw] <;> rfl), rfl, (fr_dec hnt_6), (by omega), ((hnx8 _).symm.trans hr)⟩

def slices_ContainsFunc_Suint32uint32 (s_0 : List (BitVec 32)) (f_1 : (BitVec 32) → Option Bool) : Option (Bool) :=
  (slices_IndexFunc_Suint32uint32 s_0 f_1).bind fun r1 =>
  some ((decide (r1 ≥ (0 : Int))))

set_option maxRecDepth 100000 in
set_option maxHeartbeats 4000000 in
theorem slices_ContainsFunc_Suint32uint32_ok (w0 : World) (m : Snap) (l : List HI) (us_0 : Value) (s_0 : List (BitVec 32)) (hs_0 : RS rU m us_0 s_0) (uf_1 : Value) (f_1 : (BitVec 32) → Option Bool) (hf_1 : Fq Try.prog w0 ⟨m, l⟩ uf_1 (α := (BitVec 32)) (β := Bool) (fun _ v a => v = .int .u32 (a.toNat : Int)) (fun b => .bool b) f_1) (r : Bool) (hr : slices_ContainsFunc_Suint32uint32 s_0 f_1 = some r) (w : World) (hc : cX w0 ⟨m, l⟩ w) :
    Calls Try.prog 62 [us_0, uf_1].toArray w fun e w' => e = .returned (.bool r) ∧ cX w0 ⟨m, l⟩ w' := by
  unfold slices_ContainsFunc_Suint32uint32 at hr
  refine calls_of_Tr (N := 9) Try.func62 rfl hc rfl (Nat.le_of_ble_eq_true rfl) ?_
  refine Tr.seq ?_
  refine Tr.region_f (fun _ => false) ?_
  refine W.q rfl rfl rfl rfl (by decide) (Yd.as rfl .c) ?_
  refine W.end ?_
  refine NX.sub (env' := [(0, _), (1, _)]) ⟨rfl, rfl, trivial⟩ ?_
  refine NX.then ?_
  refine Tr.seq ?_
  obtain ⟨r1, hr2, hr⟩ := bind_some hr
  refine Tr.region_f (fun _ => false) ?_
  refine W.q rfl rfl rfl rfl (by decide) (Yd.mv rfl (.t rfl)) ?_
  refine W.q rfl rfl rfl rfl (by decide) (Yd.mv rfl (.t rfl)) ?_
  refine W.q rfl rfl rfl rfl (by decide) (Yd.call (v := .int .i64 r1) rfl Try.func69 rfl rfl (.cons (.t rfl) (.cons (.t rfl) .nil)) (fun x' hx w hw => slices_IndexFunc_Suint32uint32_ok w0 x'.m x'.l _ _ (hs_0.mono hx.1) _ f_1 (hf_1.mono (leX_trans _ _ _ ⟨(.refl _), [], rfl⟩ hx)) _ hr2 w hw)) ?_
  refine W.q rfl rfl rfl rfl (by decide) (Yd.geq rfl (.t rfl) .c) ?_
  refine W.q rfl rfl rfl rfl (by decide) (Yd.as rfl (.t rfl)) ?_
  refine W.end ?_
  refine NX.sub (env' := [(4, _)]) ⟨rfl, trivial⟩ ?_
  refine NX.then ?_
  refine Tr.ret' ?_
  refine res1 rfl rfl ?_
  intro w hc
  cases hr
  exact ⟨rfl, hc⟩

def sums_wrong (n_0 : Int) (asked_1 : List (BitVec 32)) (s_2 : (BitVec 32)) : Option (Int) :=
  (bif (((decide (n_0 < (1 : Int))) || (decide (n_0 > (8 : Int)))) || (decide ((asked_1.length : Int) > (12 : Int)))) then
  some ((1 : Int))
  else
  (slices_ContainsFunc_Suint32uint32 asked_1 (fun a => sums_wrong_c1 a n_0)).bind fun r3 =>
  bif (!(r3 == false) || decide (0 ≤ n_0)) then
  (bif (r3 || ((s_2 >>> n_0.toNat) != 0#32)) then
  some ((4 : Int))
  else
  some ((0 : Int))) else none)

set_option maxRecDepth 100000 in
set_option maxHeartbeats 4000000 in
theorem sums_wrong_ok (w0 : World) (m : Snap) (l : List HI) (n_0 : Int) (uasked_1 : Value) (asked_1 : List (BitVec 32)) (hasked_1 : RS rU m uasked_1 asked_1) (s_2 : (BitVec 32)) (r : Int) (hr : sums_wrong n_0 asked_1 s_2 = some r) (w : World) (hc : cX w0 ⟨m, l⟩ w) :
    Calls Try.prog 49 [.int .i64 n_0, uasked_1, .int .u32 (s_2.toNat : Int)].toArray w fun e w' => e = .returned (.int .i64 r) ∧ cX w0 ⟨m, l⟩ w' := by
  unfold sums_wrong at hr
  refine calls_of_Tr (N := 27) Try.func49 rfl hc rfl (Nat.le_of_ble_eq_true rfl) ?_
  refine Tr.seq ?_
  refine Tr.region_f (fun i => Nat.beq i 0) ?_
  refine W.e rfl rfl rfl rfl (by decide) (Ef.bx rfl (.t rfl) rfl) ?_
  rintro _ _ ⟨b1, rfl, rfl⟩
  refine ⟨.inl rfl, ?_⟩
  refine W.cast (m' := m) (l' := hcells b1 [_] 3 :: l) rfl rfl ?_
  refine W.q rfl rfl rfl rfl (by decide) (Yd.as rfl .c) ?_
  refine W.end ?_
  refine NX.sub (env' := [(1, _), (2, _), (3, _)]) ⟨rfl, rfl, rfl, trivial⟩ ?_
  refine NX.then ?_
  refine Tr.seq ?_
  refine Tr.seq ?_
  refine Tr.region_f (fun _ => false) ?_
  refine W.q rfl rfl rfl rfl (by decide) (Yd.ldB (pos := 0) rfl rfl rfl ON3 (.t rfl)) ?_
  refine W.q rfl rfl rfl rfl (by decide) (Yd.lss rfl (.t rfl) .c) ?_
  refine W.q rfl rfl rfl rfl (by decide) (Yd.mv rfl (.t rfl)) ?_
  refine W.g rfl rfl rfl rfl rfl (.t rfl _) rfl (by decide) (fun hG => Yd.ldB (pos := 0) rfl rfl rfl ON3 (.t rfl)) ?_
  refine W.g rfl rfl rfl rfl rfl (.t rfl _) rfl (by decide) (fun hG => Yd.gtr rfl (.g rfl hG) .c) ?_
  refine W.q rfl rfl rfl rfl (by decide) (Yd.or rfl (.t rfl) .c rfl rfl) ?_
  refine W.q rfl rfl rfl rfl (by decide) (Yd.mv rfl (.t rfl)) ?_
  refine W.g rfl rfl rfl rfl rfl (.t rfl _) rfl (by decide) (fun hG => Yd.mv rfl (.t rfl)) ?_
  refine W.g rfl rfl rfl rfl rfl (.t rfl _) rfl (by decide) (fun hG => Yd.lenR hasked_1 rfl Try.underlying42 (.g rfl hG)) ?_
  refine W.g rfl rfl rfl rfl rfl (.t rfl _) rfl (by decide) (fun hG => Yd.gtr rfl (.g rfl hG) .c) ?_
  refine W.q rfl rfl rfl rfl (by decide) (Yd.or rfl (.t rfl) .c rfl rfl) ?_
  refine W.end ?_
  refine NX.sub (env' := [(1, _), (2, _), (3, _), (17, _)]) ⟨rfl, rfl, rfl, rfl, trivial⟩ ?_
  refine NX.then ?_
  refine Tr.cond (.t rfl) (fun hb => ?_) (fun hb => ?_)
  · have hr := cond_t hb hr
    refine Tr.seq ?_
    refine Tr.region_f (fun _ => false) ?_
    refine W.q rfl rfl rfl rfl (by decide) (Yd.as rfl .c) ?_
    refine W.end ?_
    refine NX.sub (env' := [(6, _)]) ⟨rfl, trivial⟩ ?_
    refine NX.drop (l' := l) (.cons _ (.refl _)) ?_
    refine NX.then ?_
    refine Tr.ret' (RT.then ?_)
    refine res1 rfl rfl ?_
    intro w hc
    cases hr
    exact ⟨rfl, hc⟩
  · have hr := cond_f hb hr
    refine Tr.skip' ?_
    refine NX.then ?_
    refine Tr.seq ?_
    refine Tr.seq ?_
    obtain ⟨r3, hr4, hr⟩ := bind_some hr
    obtain ⟨hq5, hr⟩ := guard_some hr
    refine Tr.region_f (fun _ => false) ?_
    refine W.q rfl rfl rfl rfl (by decide) (Yd.mv rfl (.t rfl)) ?_
    refine W.q rfl rfl rfl rfl (by decide) (Yd.mkf rfl (.cons (.t rfl) .nil)) ?_
    refine W.q rfl rfl rfl rfl (by decide) (Yd.call (v := .bool r3) rfl Try.func62 rfl rfl (.cons (.t rfl) (.cons (.t rfl) .nil)) (fun x' hx w hw => slices_ContainsFunc_Suint32uint32_ok w0 x'.m x'.l _ _ (hasked_1.mono hx.1) _ (fun a => sums_wrong_c1 a n_0) ⟨65, _, _, rfl, Try.func65, rfl, rfl, fun y hy w2 hw2 v a r2 hv hr2 => by obtain ⟨p5, hp5⟩ := (leX_trans _ _ _ hx hy).at (p := 0) rfl; obtain rfl := hv; exact sums_wrong_c1_ok w0 y.m y.l a p5 _ n_0 hp5 r2 hr2 w2 hw2⟩ _ hr4 w hw)) ?_
    refine W.q rfl rfl rfl rfl (by decide) (Yd.mv rfl (.t rfl)) ?_
    refine W.g rfl rfl rfl rfl rfl (.t rfl _) rfl (by decide) (fun hG => Yd.mv rfl (.t rfl)) ?_
    refine W.g rfl rfl rfl rfl rfl (.t rfl _) rfl (by decide) (fun hG => Yd.ldB (pos := 0) rfl rfl rfl ON3 (.t rfl)) ?_
    refine W.g rfl rfl rfl rfl rfl (.t rfl _) rfl (by decide) (fun hG => Yd.shrU (a := s_2) rfl (.g rfl hG) (.g rfl hG) (gd_dec hq5 hG)) ?_
    refine W.g rfl rfl rfl rfl rfl (.t rfl _) rfl (by decide) (fun hG => Yd.neqU (a := (s_2 >>> n_0.toNat)) (b := 0#32) rfl (.g rfl hG) .c) ?_
    refine W.q rfl rfl rfl rfl (by decide) (Yd.or rfl (.t rfl) .c rfl rfl) ?_
    refine W.end ?_
    refine NX.sub (env' := [(26, _)]) ⟨rfl, trivial⟩ ?_
    refine NX.drop (l' := l) (.cons _ (.refl _)) ?_
    refine NX.then ?_
    refine Tr.cond (.t rfl) (fun hb => ?_) (fun hb => ?_)
    · have hr := cond_t hb hr
      refine Tr.seq ?_
      refine Tr.region_f (fun _ => false) ?_
      refine W.q rfl rfl rfl rfl (by decide) (Yd.as rfl .c) ?_
      refine W.end ?_
      refine NX.sub (env' := [(6, _)]) ⟨rfl, trivial⟩ ?_
      refine NX.then ?_
      refine Tr.ret' (RT.then ?_)
      refine res1 rfl rfl ?_
      intro w hc
      cases hr
      exact ⟨rfl, hc⟩
    · have hr := cond_f hb hr
      refine Tr.skip' ?_
      refine NX.then ?_
      refine Tr.seq ?_
      refine Tr.region_f (fun _ => false) ?_
      refine W.q rfl rfl rfl rfl (by decide) (Yd.as rfl .c) ?_
      refine W.end ?_
      refine NX.sub (env' := [(6, _)]) ⟨rfl, trivial⟩ ?_
      refine NX.then ?_
      refine Tr.ret' ?_
      refine res1 rfl rfl ?_
      intro w hc
      cases hr
      exact ⟨rfl, hc⟩

def math_bits_Len32_k3 (x_1 : BitVec 32) (n_2 : Int) : Option (Int) :=
  (bif (decide (x_1 ≥ 256#32)) then
  (geti tbl1793256 ((((BitVec.ofInt 8 (((x_1 >>> 8)).toNat : Int))).toNat : Int))).bind fun y5 =>
  some ((w64 ((w64 (n_2 + (8 : Int))) + (y5.toNat : Int))))
  else
  (geti tbl1793256 ((((BitVec.ofInt 8 (x_1.toNat : Int))).toNat : Int))).bind fun y7 =>
  some ((w64 (n_2 + (y7.toNat : Int)))))

def math_bits_Len32 (x_0 : (BitVec 32)) : Option (Int) :=
  (bif (decide (x_0 ≥ 65536#32)) then
  math_bits_Len32_k3 ((x_0 >>> 16)) ((16 : Int))
  else
  math_bits_Len32_k3 x_0 ((0 : Int)))

set_option maxRecDepth 100000 in
set_option maxHeartbeats 4000000 in
theorem math_bits_Len32_ok (w0 : World) (m : Snap) (l : List HI) (x_0 : (BitVec 32)) (r : Int) (hr : math_bits_Len32 x_0 = some r) (w : World) (hc : cX w0 ⟨m, l⟩ w) :
    Calls Try.prog 56 [.int .u32 (x_0.toNat : Int)].toArray w fun e w' => e = .returned (.int .i64 r) ∧ cX w0 ⟨m, l⟩ w' := by
  unfold math_bits_Len32 at hr
  refine calls_of_Tr (N := 19) Try.func56 rfl hc rfl (Nat.le_of_ble_eq_true rfl) ?_
  refine Tr.seq ?_
  refine Tr.region_f (fun _ => false) ?_
  refine W.q rfl rfl rfl rfl (by decide) (Yd.as rfl .c) ?_
  refine W.end ?_
  refine NX.sub (env' := [(0, _), (2, _)]) ⟨rfl, rfl, trivial⟩ ?_
  refine NX.then ?_
  refine Tr.seq ?_
  refine Tr.seq ?_
  refine Tr.region_f (fun _ => false) ?_
  refine W.q rfl rfl rfl rfl (by decide) (Yd.mv rfl (.t rfl)) ?_
  refine W.q rfl rfl rfl rfl (by decide) (Yd.geqU (a := x_0) (b := 65536#32) rfl (.t rfl) .c) ?_
  refine W.end ?_
  refine NX.sub (env' := [(0, _), (2, _), (4, _)]) ⟨rfl, rfl, rfl, trivial⟩ ?_
  refine NX.then ?_
  refine Tr.join (S := fun env x => ∃ x_1 : BitVec 32, ∃ n_2 : Int, env = [(0, .int .u32 (x_1.toNat : Int)), (2, .int .i64 n_2)] ∧ x = ⟨m, l⟩ ∧ math_bits_Len32_k3 x_1 n_2 = some r) ?_ (fun hk4 => ?_)
  · rintro _ _ ⟨x_1, n_2, rfl, rfl, hr⟩
    unfold math_bits_Len32_k3 at hr
    try dsimp only at hr
    refine NX.then ?_
    refine Tr.seq ?_
    refine Tr.seq ?_
    refine Tr.region_f (fun _ => false) ?_
    refine W.q rfl rfl rfl rfl (by decide) (Yd.mv rfl (.t rfl)) ?_
    refine W.q rfl rfl rfl rfl (by decide) (Yd.geqU (a := x_1) (b := 256#32) rfl (.t rfl) .c) ?_
    refine W.end ?_
    refine NX.sub (env' := [(0, _), (2, _), (8, _)]) ⟨rfl, rfl, rfl, trivial⟩ ?_
    refine NX.then ?_
    refine Tr.cond (.t rfl) (fun hb => ?_) (fun hb => ?_)
    · have hr := cond_t hb hr
      refine Tr.seq ?_
      refine Tr.region_f (fun _ => false) ?_
      refine W.q rfl rfl rfl rfl (by decide) (Yd.mv rfl (.t rfl)) ?_
      refine W.q rfl rfl rfl rfl (by decide) (Yd.shrU (a := x_1) rfl (.t rfl) .c (by decide)) ?_
      refine W.q rfl rfl rfl rfl (by decide) (Yd.as rfl (.t rfl)) ?_
      refine W.end ?_
      refine NX.sub (env' := [(0, _), (2, _)]) ⟨rfl, rfl, trivial⟩ ?_
      refine NX.then ?_
      refine Tr.region_f (fun _ => false) ?_
      refine W.q rfl rfl rfl rfl (by decide) (Yd.mv rfl (.t rfl)) ?_
      refine W.q rfl rfl rfl rfl (by decide) (Yd.add rfl (.t rfl) .c) ?_
      refine W.q rfl rfl rfl rfl (by decide) (Yd.as rfl (.t rfl)) ?_
      refine W.end ?_
      refine NX.sub (env' := [(0, _), (2, _)]) ⟨rfl, rfl, trivial⟩ ?_
      refine NX.then ?_
      refine Tr.seq ?_
      obtain ⟨y5, hy6, hr⟩ := bind_some hr
      refine Tr.region_f (fun _ => false) ?_
      refine W.q rfl rfl rfl rfl (by decide) (Yd.mv rfl (.t rfl)) ?_
      refine W.q rfl rfl rfl rfl (by decide) (Yd.mv rfl (.t rfl)) ?_
      refine W.q rfl rfl rfl rfl (by decide) (Yd.cvB rfl US23 Try.underlying5 (.t rfl)) ?_
      refine W.q rfl rfl rfl rfl (by decide) (Yd.ixS rfl Try.underlying9 .c (tb := tbl1793256) (by kernel_rfl) (.t rfl) hy6) ?_
      refine W.q rfl rfl rfl rfl (by decide) (Yd.cvBI (a := y5) rfl US5 Try.underlying3 (.t rfl)) ?_
      refine W.q rfl rfl rfl rfl (by decide) (Yd.add rfl (.t rfl) (.t rfl)) ?_
      refine W.q rfl rfl rfl rfl (by decide) (Yd.as rfl (.t rfl)) ?_
      refine W.end ?_
      refine NX.sub (env' := [(2, _)]) ⟨rfl, trivial⟩ ?_
      refine NX.then ?_
      refine Tr.ret' ?_
      refine res1 rfl rfl ?_
      intro w hc
      cases hr
      exact ⟨rfl, hc⟩
    · have hr := cond_f hb hr
      refine Tr.skip' ?_
      refine NX.then ?_
      refine Tr.seq ?_
      obtain ⟨y7, hy8, hr⟩ := bind_some hr
      refine Tr.region_f (fun _ => false) ?_
      refine W.q rfl rfl rfl rfl (by decide) (Yd.mv rfl (.t rfl)) ?_
      refine W.q rfl rfl rfl rfl (by decide) (Yd.mv rfl (.t rfl)) ?_
      refine W.q rfl rfl rfl rfl (by decide) (Yd.cvB rfl US23 Try.underlying5 (.t rfl)) ?_
      refine W.q rfl rfl rfl rfl (by decide) (Yd.ixS rfl Try.underlying9 .c (tb := tbl1793256) (by kernel_rfl) (.t rfl) hy8) ?_
      refine W.q rfl rfl rfl rfl (by decide) (Yd.cvBI (a := y7) rfl US5 Try.underlying3 (.t rfl)) ?_
      refine W.q rfl rfl rfl rfl (by decide) (Yd.add rfl (.t rfl) (.t rfl)) ?_
      refine W.q rfl rfl rfl rfl (by decide) (Yd.as rfl (.t rfl)) ?_
      refine W.end ?_
      refine NX.sub (env' := [(2, _)]) ⟨rfl, trivial⟩ ?_
      refine NX.then ?_
      refine Tr.ret' ?_
      refine res1 rfl rfl ?_
      intro w hc
      cases hr
      exact ⟨rfl, hc⟩
  refine Tr.cond (.t rfl) (fun hb => ?_) (fun hb => ?_)
  · have hr := cond_t hb hr
    refine Tr.seq ?_
    refine Tr.region_f (fun _ => false) ?_
    refine W.q rfl rfl rfl rfl (by decide) (Yd.mv rfl (.t rfl)) ?_
    refine W.q rfl rfl rfl rfl (by decide) (Yd.shrU (a := x_0) rfl (.t rfl) .c (by decide)) ?_
    refine W.q rfl rfl rfl rfl (by decide) (Yd.as rfl (.t rfl)) ?_
    refine W.end ?_
    refine NX.sub (env' := [(0, _)]) ⟨rfl, trivial⟩ ?_
    refine NX.then ?_
    refine Tr.region_f (fun _ => false) ?_
    refine W.q rfl rfl rfl rfl (by decide) (Yd.as rfl .c) ?_
    refine W.end ?_
    refine NX.sub (env' := [(0, _), (2, _)]) ⟨rfl, rfl, trivial⟩ ?_
    refine NX.sub (env' := [(0, _), (2, _)]) ⟨rfl, rfl, trivial⟩ ?_
    exact hk4 _ _ ⟨_, _, rfl, rfl, hr⟩
  · have hr := cond_f hb hr
    refine Tr.skip' ?_
    refine NX.sub (env' := [(0, _), (2, _)]) ⟨rfl, rfl, trivial⟩ ?_
    exact hk4 _ _ ⟨_, _, rfl, rfl, hr⟩

def sums_base_less_k23 (c21 : BitVec 32) (c22 : BitVec 32) : Option (SumsRow) :=
  some (({ set_ := c21, by_ := c22 } : SumsRow))

def sums_base_less_b27 (x5 : T78) (t_26 : Int) (c19 : BitVec 32) (c20 : BitVec 32) (nx28 : ((BitVec 32) × (BitVec 32)) → Option (SumsRow)) : Option (SumsRow) :=
  (geti x5.l t_26).bind fun y30 =>
  (math_bits_Len32 y30.set_).bind fun r34 =>
  bif decide (0 ≤ (w64 (r34 - (1 : Int)))) then
  (bif (((c19 >>> ((w64 (r34 - (1 : Int)))).toNat) &&& 1#32) == 1#32) then
  nx28 ((c19 ^^^ y30.set_), (c20 ^^^ y30.by_))
  else
  nx28 (c19, c20)) else none

def sums_base_less (b_0 : Option T78) (r_1 : SumsRow) : Option (SumsRow) :=
  (b_0).bind fun x5 =>
  forK (σ := (BitVec 32) × (BitVec 32)) (fun i s nx_ => sums_base_less_b27 x5 i s.1 s.2 nx_) (fun s => sums_base_less_k23 s.1 s.2) ((x5.l.length : Int) - (0 : Int)).toNat (0 : Int) (r_1.set_, r_1.by_)

set_option maxRecDepth 100000 in
set_option maxHeartbeats 4000000 in
theorem sums_base_less_ok (w0 : World) (m : Snap) (l : List HI) (ub_0 : Value) (b_0 : Option T78) (hb_0 : P78 m ub_0 b_0) (r_1 : SumsRow) (r : SumsRow) (hr : sums_base_less b_0 r_1 = some r) (w : World) (hc : cX w0 ⟨m, l⟩ w) :
    Calls Try.prog 54 [ub_0, .agg #[.int .u32 (r_1.set_.toNat : Int), .int .u32 (r_1.by_.toNat : Int)]].toArray w fun e w' => e = .returned (.agg #[.int .u32 (r.set_.toNat : Int), .int .u32 (r.by_.toNat : Int)]) ∧ cX w0 ⟨m, l⟩ w' := by
  unfold sums_base_less at hr
  refine calls_of_Tr (N := 39) Try.func54 rfl hc rfl (Nat.le_of_ble_eq_true rfl) ?_
  refine Tr.seq ?_
  refine Tr.region_f (fun i => Nat.beq i 0 || Nat.beq i 1) ?_
  refine W.e rfl rfl rfl rfl (by decide) (Ef.bx rfl (.t rfl) rfl) ?_
  rintro _ _ ⟨b1, rfl, rfl⟩
  refine ⟨.inl rfl, ?_⟩
  refine W.cast (m' := m) (l' := hcells b1 [_, _] 85 :: l) rfl rfl ?_
  refine W.e rfl rfl rfl rfl (by decide) (Ef.al rfl ZR85 rfl) ?_
  rintro _ _ ⟨b3, rfl, rfl⟩
  refine ⟨.inl rfl, ?_⟩
  refine W.cast (m' := m) (l' := hcells b3 [_, _] 85 :: hcells b1 [_, _] 85 :: l) rfl rfl ?_
  refine W.end ?_
  refine NX.sub (env' := [(0, _), (3, _), (4, _)]) ⟨rfl, rfl, rfl, trivial⟩ ?_
  refine NX.then ?_
  refine Tr.seq ?_
  refine Tr.seq ?_
  obtain ⟨x5, hn6, hr⟩ := bind_some hr
  refine Tr.region_f (fun _ => false) ?_
  refine W.q rfl rfl rfl rfl (by decide) (Yd.mv rfl (.t rfl)) ?_
  have hp7 := hb_0; rw [hn6] at hp7; obtain ⟨b9, u11, u13, hz8, hb10, hu12, hu14⟩ := hp7; subst hz8
  refine W.q rfl rfl rfl rfl (by decide) (Yd.nilc rfl (.t rfl)) ?_
  refine W.q rfl rfl rfl rfl (by decide) (Yd.fldB rfl Try.underlying78 rfl SZ76 rfl (.t rfl)) ?_
  refine W.q rfl rfl rfl rfl (by decide) (Yd.ldK hb10 rfl rfl ON76 (.t rfl)) ?_
  refine W.q rfl rfl rfl rfl (by decide) (Yd.lenR hu12 rfl Try.underlying76 (.t rfl)) ?_
  refine W.q rfl rfl rfl rfl (by decide) (Yd.mv rfl .c) ?_
  refine W.end ?_
  refine NX.sub (env' := [(3, _), (4, _), (10, _), (11, _), (12, _)]) ⟨rfl, rfl, rfl, rfl, rfl, trivial⟩ ?_
  refine NX.then ?_
  refine Tr.join (S := fun env x => ∃ c21 : BitVec 32, ∃ c22 : BitVec 32, env = [(3, bp b1 0), (4, bp b3 0)] ∧ x = ⟨m, hcells b3 [.int .u32 (((0#32)).toNat : Int), .int .u32 (((0#32)).toNat : Int)] 85 :: hcells b1 [.int .u32 (c21.toNat : Int), .int .u32 (c22.toNat : Int)] 85 :: l⟩ ∧ sums_base_less_k23 c21 c22 = some r) ?_ (fun hk24 => ?_)
  · rintro _ _ ⟨c21, c22, rfl, rfl, hr⟩
    unfold sums_base_less_k23 at hr
    try dsimp only at hr
    refine NX.then ?_
    refine Tr.seq ?_
    refine Tr.region_f (fun i => Nat.beq i 1) ?_
    refine W.q rfl rfl rfl rfl (by decide) (Yd.ldBs (pos := 1) (us := [_, _]) rfl rfl rfl rfl ON85 US85 SZ85 (.t rfl)) ?_
    refine W.s rfl rfl rfl rfl (Ef.stB (pos := 0) (us := [_, _]) (cs' := [_, _]) rfl rfl (.t rfl) (.t rfl) SZ85 rfl rfl rfl (Nat.le_of_ble_eq_true rfl) rfl) ?_
    rintro _ _ ⟨rfl, rfl⟩
    refine ⟨.inl rfl, ?_⟩
    refine W.cast (m' := m) (l' := hcells b3 [_, _] 85 :: hcells b1 [_, _] 85 :: l) rfl rfl ?_
    refine W.end ?_
    refine NX.sub (env' := [(4, _)]) ⟨rfl, trivial⟩ ?_
    refine NX.drop (l' := hcells b3 [_, _] 85 :: l) (.cons_cons _ (.cons _ (.refl _))) ?_
    refine NX.then ?_
    refine Tr.ret' ?_
    refine resV1 rfl (Rv.cs (pos := 0) rfl rfl rfl ON85 US85 SZ85) ?_
    intro w hc
    cases hr
    exact ⟨rfl, (cX_sub (.cons _ (.refl _)) hc)⟩
  have hlen25 := (hu12).2.1
  refine Tr.block ?_
  refine Tr.sub (env' := [(3, _), (4, _), (10, _), (11, _), (12, _)]) ⟨rfl, rfl, rfl, rfl, rfl, trivial⟩ ?_
  refine Tr.loop (S := fun n (z : Int × (BitVec 32) × (BitVec 32)) env x => match z with | (t_26, c19, c20) => env = [(3, bp b1 0), (4, bp b3 0), (10, u11), (11, .int .i64 ((x5.l.length : Int))), (12, .int .i64 t_26)] ∧ x = ⟨m, hcells b3 [.int .u32 (((0#32)).toNat : Int), .int .u32 (((0#32)).toNat : Int)] 85 :: hcells b1 [.int .u32 (c19.toNat : Int), .int .u32 (c20.toNat : Int)] 85 :: l⟩ ∧ n = ((x5.l.length : Int) - t_26).toNat ∧ 0 ≤ t_26 ∧ forK (σ := (BitVec 32) × (BitVec 32)) (fun i s nx_ => sums_base_less_b27 x5 i s.1 s.2 nx_) (fun s => sums_base_less_k23 s.1 s.2) n t_26 (c19, c20) = some r) _ ((0 : Int), r_1.set_, r_1.by_) ⟨rfl, rfl, rfl, (by omega), hr⟩ ?_
  rintro n29 ⟨t_26, c19, c20⟩ env x ⟨rfl, rfl, hnt_26, h0t_26, hr⟩
  cases n29 with
  | zero =>
    simp only [forK] at hr
    refine Tr.seq ?_
    refine Tr.region_f (fun _ => false) ?_
    refine W.q rfl rfl rfl rfl (by decide) (Yd.lss rfl (.t rfl) (.t rfl)) ?_
    refine W.end ?_
    refine NX.sub (env' := [(3, _), (4, _), (10, _), (11, _), (12, _), (13, _)]) ⟨rfl, rfl, rfl, rfl, rfl, rfl, trivial⟩ ?_
    refine NX.then ?_
    refine Tr.seq ?_
    refine Tr.cond (.t rfl) (fun hb => ?_) (fun hb => ?_)
    · exact absurd (hb.symm.trans (fr_end hnt_26)) (by decide)
    ·
      refine Tr.exit' (EX.then (EX.then (EX.block ?_)))
      refine NX.sub (env' := [(3, _), (4, _)]) ⟨rfl, rfl, trivial⟩ ?_
      exact hk24 _ _ ⟨_, _, rfl, rfl, hr⟩
  | succ n29 =>
    obtain ⟨nx28, hnx28, hr⟩ := forK_succ hr
    try dsimp only at hr
    unfold sums_base_less_b27 at hr
    try dsimp only at hr
    have hltt_26 := fr_bnd hnt_26
    refine Tr.seq ?_
    refine Tr.region_f (fun _ => false) ?_
    refine W.q rfl rfl rfl rfl (by decide) (Yd.lss rfl (.t rfl) (.t rfl)) ?_
    refine W.end ?_
    refine NX.sub (env' := [(3, _), (4, _), (10, _), (11, _), (12, _), (13, _)]) ⟨rfl, rfl, rfl, rfl, rfl, rfl, trivial⟩ ?_
    refine NX.then ?_
    refine Tr.seq ?_
    refine Tr.cond (.t rfl) (fun hb => ?_) (fun hb => ?_)
    rotate_left
    · exact absurd (hb.symm.trans (fr_go hnt_26)) (by decide)
    ·
      refine Tr.skip' ?_
      refine NX.then ?_
      refine Tr.seq ?_
      refine Tr.block ?_
      refine Tr.seq ?_
      obtain ⟨y30, hy31, hr⟩ := bind_some hr
      refine Tr.region_f (fun i => Nat.beq i 2 || Nat.beq i 3) ?_
      refine W.q rfl rfl rfl rfl (by decide) (Yd.idxR hu12 hy31 rfl Try.underlying76 SZ85 (.t rfl) (.t rfl)) ?_
      refine W.q rfl rfl rfl rfl (by decide) (Yd.ldFs (us := [_, _]) hu12 (.refl _) hy31 rfl rfl ON85 US85 SZ85 (.t rfl)) ?_
      refine W.e rfl rfl rfl rfl (by decide) (Ef.al rfl ZR85 rfl) ?_
      rintro _ _ ⟨b32, rfl, rfl⟩
      refine ⟨.inl rfl, ?_⟩
      refine W.cast (m' := m) (l' := hcells b32 [_, _] 85 :: hcells b3 [_, _] 85 :: hcells b1 [_, _] 85 :: l) rfl rfl ?_
      refine W.s rfl rfl rfl rfl (Ef.stB (pos := 0) (us := [_, _]) (cs' := [_, _]) rfl rfl (.t rfl) (.t rfl) SZ85 rfl rfl rfl (Nat.le_of_ble_eq_true rfl) rfl) ?_
      rintro _ _ ⟨rfl, rfl⟩
      refine ⟨.inl rfl, ?_⟩
      refine W.cast (m' := m) (l' := hcells b32 [_, _] 85 :: hcells b3 [_, _] 85 :: hcells b1 [_, _] 85 :: l) rfl rfl ?_
      refine W.end ?_
      refine NX.sub (env' := [(3, _), (4, _), (10, _), (11, _), (12, _), (6, _)]) ⟨rfl, rfl, rfl, rfl, rfl, rfl, trivial⟩ ?_
      refine NX.then ?_
      refine Tr.seq ?_
      obtain ⟨r34, hr35, hr⟩ := bind_some hr
      obtain ⟨hq36, hr⟩ := guard_some hr; replace hq36 := of_decide_eq_true hq36
      refine Tr.region_x (fun _ => false) (fun _ => false) (Ord.of [0, 1, 2, 3, 4, 5, 6, 7, 8]) FM (by kernel_rfl) ?_
      refine W.q rfl rfl rfl rfl (by decide) (Yd.fldB rfl Try.underlying85 rfl SZ23 rfl (.t rfl)) ?_
      refine W.q rfl rfl rfl rfl (by decide) (Yd.ldB (pos := 2) rfl rfl rfl ON23 (.t rfl)) ?_
      refine W.q rfl rfl rfl rfl (by decide) (Yd.fldB rfl Try.underlying85 rfl SZ23 rfl (.t rfl)) ?_
      refine W.q rfl rfl rfl rfl (by decide) (Yd.ldB (pos := 0) rfl rfl rfl ON23 (.t rfl)) ?_
      refine W.q rfl rfl rfl rfl (by decide) (Yd.call (v := .int .i64 r34) rfl Try.func56 rfl rfl (.cons (.t rfl) .nil) (fun x' hx w hw => math_bits_Len32_ok w0 x'.m x'.l y30.set_ _ hr35 w hw)) ?_
      refine W.q rfl rfl rfl rfl (by decide) (Yd.sub rfl (.t rfl) .c) ?_
      refine W.q rfl rfl rfl rfl (by decide) (Yd.shrU (a := c19) rfl (.t rfl) (.t rfl) hq36) ?_
      refine W.q rfl rfl rfl rfl (by decide) (Yd.andU (a := (c19 >>> ((w64 (r34 - (1 : Int)))).toNat)) (b := 1#32) rfl (.t rfl) .c) ?_
      refine W.q rfl rfl rfl rfl (by decide) (Yd.eqlU (a := ((c19 >>> ((w64 (r34 - (1 : Int)))).toNat) &&& 1#32)) (b := 1#32) rfl (.t rfl) .c) ?_
      refine W.end ?_
      refine NX.sub (env' := [(3, _), (4, _), (10, _), (11, _), (12, _), (6, _), (24, _)]) ⟨rfl, rfl, rfl, rfl, rfl, rfl, rfl, trivial⟩ ?_
      refine NX.then ?_
      refine Tr.cond (.t rfl) (fun hb => ?_) (fun hb => ?_)
      · have hr := cond_t hb hr
        refine Tr.seq ?_
        refine Tr.region_f (fun i => Nat.beq i 6) ?_
        refine W.q rfl rfl rfl rfl (by decide) (Yd.fldB rfl Try.underlying85 rfl SZ23 rfl (.t rfl)) ?_
        refine W.q rfl rfl rfl rfl (by decide) (Yd.ldB (pos := 2) rfl rfl rfl ON23 (.t rfl)) ?_
        refine W.q rfl rfl rfl rfl (by decide) (Yd.fldB rfl Try.underlying85 rfl SZ23 rfl (.t rfl)) ?_
        refine W.q rfl rfl rfl rfl (by decide) (Yd.ldB (pos := 0) rfl rfl rfl ON23 (.t rfl)) ?_
        refine W.q rfl rfl rfl rfl (by decide) (Yd.xorU (a := c19) (b := y30.set_) rfl (.t rfl) (.t rfl)) ?_
        refine W.q rfl rfl rfl rfl (by decide) (Yd.fldB rfl Try.underlying85 rfl SZ23 rfl (.t rfl)) ?_
        refine W.s rfl rfl rfl rfl (Ef.stB (pos := 2) (us := [_]) (cs' := [_, _]) rfl rfl (.t rfl) (.t rfl) SZ23 rfl rfl rfl (Nat.le_of_ble_eq_true rfl) rfl) ?_
        rintro _ _ ⟨rfl, rfl⟩
        refine ⟨.inl rfl, ?_⟩
        refine W.cast (m' := m) (l' := hcells b32 [_, _] 85 :: hcells b3 [_, _] 85 :: hcells b1 [_, _] 85 :: l) rfl rfl ?_
        refine W.end ?_
        refine NX.sub (env' := [(3, _), (4, _), (10, _), (11, _), (12, _), (6, _)]) ⟨rfl, rfl, rfl, rfl, rfl, rfl, trivial⟩ ?_
        refine NX.then ?_
        refine Tr.region_f (fun i => Nat.beq i 6) ?_
        refine W.q rfl rfl rfl rfl (by decide) (Yd.fldB rfl Try.underlying85 rfl SZ23 rfl (.t rfl)) ?_
        refine W.q rfl rfl rfl rfl (by decide) (Yd.ldB (pos := 2) rfl rfl rfl ON23 (.t rfl)) ?_
        refine W.q rfl rfl rfl rfl (by decide) (Yd.fldB rfl Try.underlying85 rfl SZ23 rfl (.t rfl)) ?_
        refine W.q rfl rfl rfl rfl (by decide) (Yd.ldB (pos := 0) rfl rfl rfl ON23 (.t rfl)) ?_
        refine W.q rfl rfl rfl rfl (by decide) (Yd.xorU (a := c20) (b := y30.by_) rfl (.t rfl) (.t rfl)) ?_
        refine W.q rfl rfl rfl rfl (by decide) (Yd.fldB rfl Try.underlying85 rfl SZ23 rfl (.t rfl)) ?_
        refine W.s rfl rfl rfl rfl (Ef.stB (pos := 2) (us := [_]) (cs' := [_, _]) rfl rfl (.t rfl) (.t rfl) SZ23 rfl rfl rfl (Nat.le_of_ble_eq_true rfl) rfl) ?_
        rintro _ _ ⟨rfl, rfl⟩
        refine ⟨.inl rfl, ?_⟩
        refine W.cast (m' := m) (l' := hcells b32 [_, _] 85 :: hcells b3 [_, _] 85 :: hcells b1 [_, _] 85 :: l) rfl rfl ?_
        refine W.end ?_
        refine NX.sub (env' := [(3, _), (4, _), (10, _), (11, _), (12, _)]) ⟨rfl, rfl, rfl, rfl, rfl, trivial⟩ ?_
        refine NX.drop (l' := hcells b3 [_, _] 85 :: hcells b1 [_, _] 85 :: l) (.cons _ (.cons_cons _ (.cons_cons _ (.refl _)))) ?_
        refine NX.block ?_
        refine NX.then ?_
        refine Tr.region_f (fun _ => false) ?_
        refine W.q rfl rfl rfl rfl (by decide) (Yd.add rfl (.t rfl) .c) ?_
        refine W.q rfl rfl rfl rfl (by decide) (Yd.mv rfl (.t rfl)) ?_
        refine W.end ?_
        refine NX.sub (env' := [(3, _), (4, _), (10, _), (11, _), (12, _)]) ⟨rfl, rfl, rfl, rfl, rfl, trivial⟩ ?_
        refine NX.sub (env' := [(3, _), (4, _), (10, _), (11, _), (12, _)]) ⟨rfl, rfl, rfl, rfl, rfl, trivial⟩ ?_
        have hw := w64_id (n := t_26 + 1) (by omega) (by omega)
        exact NX.again n29 (t_26 + 1, (c19 ^^^ y30.set_), (c20 ^^^ y30.by_)) (Nat.lt_succ_self _) ⟨(by rw [hw] <;> rfl), rfl, (fr_dec hnt_26), (by omega), ((hnx28 _).symm.trans hr)⟩
      · have hr := cond_f hb hr
        refine Tr.skip' ?_
        refine NX.block ?_
        refine NX.then ?_
        refine Tr.region_f (fun _ => false) ?_
        refine W.q rfl rfl rfl rfl (by decide) (Yd.add rfl (.t rfl) .c) ?_
        refine W.q rfl rfl rfl rfl (by decide) (Yd.mv rfl (.t rfl)) ?_
        refine W.end ?_
        refine NX.sub (env' := [(3, _), (4, _), (10, _), (11, _), (12, _)]) ⟨rfl, rfl, rfl, rfl, rfl, trivial⟩ ?_
        refine NX.drop (l' := hcells b3 [_, _] 85 :: hcells b1 [_, _] 85 :: l) (.cons _ (.cons_cons _ (.cons_cons _ (.refl _)))) ?_
        refine NX.sub (env' := [(3, _), (4, _), (10, _), (11, _), (12, _)]) ⟨rfl, rfl, rfl, rfl, rfl, trivial⟩ ?_
        have hw := w64_id (n := t_26 + 1) (by omega) (by omega)
        exact NX.again n29 (t_26 + 1, c19, c20) (Nat.lt_succ_self _) ⟨(by rw [hw] <;> rfl), rfl, (fr_dec hnt_26), (by omega), ((hnx28 _).symm.trans hr)⟩

def sums_build_k19 (l15 : List (BitVec 32)) (l17 : List SumsRow) : Option ((Option T78)) :=
  some ((some { l := l17, zero := l15 } : Option T78))

def sums_build_k47 (l11 : List (BitVec 32)) (nx25 : (((List (BitVec 32)) × (List SumsRow)) → Option ((Option T78)))) (r29 : SumsRow) (l45 : List SumsRow) : Option ((Option T78)) :=
  bif decide (l45.length + (([({ set_ := r29.set_, by_ := r29.by_ } : SumsRow)] : List SumsRow)).length ≤ 17592186044416) then
  nx25 (l11, (l45 ++ ([({ set_ := r29.set_, by_ := r29.by_ } : SumsRow)] : List SumsRow))) else none

def sums_build_b55 (r29 : SumsRow) (r37 : Int) (t_54 : Int) (l43 : List SumsRow) (nx56 : (List SumsRow) → Option ((Option T78))) : Option ((Option T78)) :=
  (geti l43 t_54).bind fun y58 =>
  bif decide (0 ≤ (w64 (r37 - (1 : Int)))) then
  (bif (((y58.set_ >>> ((w64 (r37 - (1 : Int)))).toNat) &&& 1#32) == 1#32) then
  (geti l43 t_54).bind fun y63 =>
  nx56 (l43.set t_54.toNat (({ set_ := (y58.set_ ^^^ r29.set_), by_ := (y58.by_ ^^^ r29.by_) } : SumsRow)))
  else
  nx56 l43) else none

def sums_build_b24 (asked_0 : List (BitVec 32)) (t_23 : Int) (l11 : List (BitVec 32)) (l13 : List SumsRow) (nx25 : ((List (BitVec 32)) × (List SumsRow)) → Option ((Option T78))) : Option ((Option T78)) :=
  (geti asked_0 t_23).bind fun y27 =>
  (sums_base_less (some { l := l13, zero := l11 } : Option T78) (({ set_ := y27, by_ := (1#32 <<< t_23.toNat) } : SumsRow))).bind fun r29 =>
  (bif (r29.set_ == 0#32) then
  bif decide (l11.length + (([r29.by_] : List (BitVec 32))).length ≤ 35184372088832) then
  nx25 ((l11 ++ ([r29.by_] : List (BitVec 32))), l13) else none
  else
  (math_bits_Len32 r29.set_).bind fun r37 =>
  forK (σ := (List SumsRow)) (fun i s nx_ => sums_build_b55 r29 r37 i s nx_) (fun s => sums_build_k47 l11 nx25 r29 s) ((l13.length : Int) - (0 : Int)).toNat (0 : Int) l13)

def sums_build (asked_0 : List (BitVec 32)) : Option ((Option T78)) :=
  forK (σ := (List (BitVec 32)) × (List SumsRow)) (fun i s nx_ => sums_build_b24 asked_0 i s.1 s.2 nx_) (fun s => sums_build_k19 s.1 s.2) ((asked_0.length : Int) - (0 : Int)).toNat (0 : Int) ((([] : List (BitVec 32))), (([] : List SumsRow)))

set_option maxRecDepth 100000 in
set_option maxHeartbeats 4000000 in
theorem sums_build_ok (w0 : World) (m : Snap) (l : List HI) (uasked_0 : Value) (asked_0 : List (BitVec 32)) (hasked_0 : RS rU m uasked_0 asked_0) (r : (Option T78)) (hr : sums_build asked_0 = some r) (w : World) (hc : cX w0 ⟨m, l⟩ w) :
    Calls Try.prog 50 [uasked_0].toArray w fun e w' => ∃ z0 : Value, ∃ m1 : Snap, e = .returned (z0) ∧ Sle m m1 ∧ P78 m1 z0 r ∧ cX w0 ⟨m1, l⟩ w' := by
  unfold sums_build at hr
  refine calls_of_Tr (N := 89) Try.func50 rfl hc rfl (Nat.le_of_ble_eq_true rfl) ?_
  refine Tr.seq ?_
  refine Tr.region_f (fun _ => false) ?_
  refine W.q rfl rfl rfl rfl (by decide) (Yd.as rfl .c) ?_
  refine W.end ?_
  refine NX.sub (env' := [(0, _)]) ⟨rfl, trivial⟩ ?_
  refine NX.then ?_
  refine Tr.seq ?_
  refine Tr.addnil 85 2 ?_
  refine Tr.cast (m' := m) (l' := hownT 85 2 SumsRow.enc (.slice none 0 0) (([] : List SumsRow)) :: l) rfl rfl ?_
  refine Tr.addnil 23 1 ?_
  refine Tr.cast (m' := m) (l' := hownT 23 1 encU (.slice none 0 0) (([] : List (BitVec 32))) :: hownT 85 2 SumsRow.enc (.slice none 0 0) (([] : List SumsRow)) :: l) rfl rfl ?_
  refine Tr.region_f (fun i => Nat.beq i 1) ?_
  refine W.q rfl rfl rfl rfl (by decide) (Yd.bld (cells := [(.slice none 0 0), (.slice none 0 0)]) rfl ZI78 PL78 .nil rfl) ?_
  refine W.e rfl rfl rfl rfl (by decide) (Ef.bx rfl (.t rfl) rfl) ?_
  rintro _ _ ⟨b3, rfl, rfl⟩
  refine ⟨.inl rfl, ?_⟩
  refine W.cast (m' := m) (l' := hcells b3 [_, _] 78 :: hownT 23 1 encU (.slice none 0 0) (([] : List (BitVec 32))) :: hownT 85 2 SumsRow.enc (.slice none 0 0) (([] : List SumsRow)) :: l) rfl rfl ?_
  refine W.q rfl rfl rfl rfl (by decide) (Yd.as rfl (.t rfl)) ?_
  refine W.end ?_
  refine NX.sub (env' := [(0, _), (3, _)]) ⟨rfl, rfl, trivial⟩ ?_
  refine NX.then ?_
  refine Tr.seq ?_
  refine Tr.seq ?_
  refine Tr.region_f (fun _ => false) ?_
  refine W.q rfl rfl rfl rfl (by decide) (Yd.mv rfl (.t rfl)) ?_
  refine W.q rfl rfl rfl rfl (by decide) (Yd.lenR hasked_0 rfl Try.underlying42 (.t rfl)) ?_
  refine W.q rfl rfl rfl rfl (by decide) (Yd.mv rfl .c) ?_
  refine W.end ?_
  refine NX.sub (env' := [(3, _), (12, _), (13, _), (14, _)]) ⟨rfl, rfl, rfl, rfl, trivial⟩ ?_
  refine NX.then ?_
  refine Tr.join (S := fun env x => ∃ l15 : List (BitVec 32), ∃ l17 : List SumsRow, ∃ v16 : Value, ∃ v18 : Value, env = [(3, bp b3 0)] ∧ x = ⟨m, hcells b3 [v18, v16] 78 :: hownT 23 1 encU v16 l15 :: hownT 85 2 SumsRow.enc v18 l17 :: l⟩ ∧ sums_build_k19 l15 l17 = some r) ?_ (fun hk20 => ?_)
  · rintro _ _ ⟨l15, l17, v16, v18, rfl, rfl, hr⟩
    unfold sums_build_k19 at hr
    try dsimp only at hr
    refine NX.then ?_
    refine Tr.seq ?_
    refine Tr.region_f (fun _ => false) ?_
    refine W.q rfl rfl rfl rfl (by decide) (Yd.mv rfl (.t rfl)) ?_
    refine W.q rfl rfl rfl rfl (by decide) (Yd.as rfl (.t rfl)) ?_
    refine W.end ?_
    refine NX.sub (env' := [(2, _)]) ⟨rfl, trivial⟩ ?_
    refine NX.then ?_
    refine Tr.ret' ?_
    refine res1 rfl rfl ?_
    intro w hc
    cases hr
    obtain ⟨m21, hsm21, hL, hc⟩ := cX_freezeP (A := [_, _, _]) hc
    obtain ⟨Lp1, hl1, hi1⟩ := (lent_at (p := 2) hL rfl)
    have hf1 : RS rSumsRow m21 _ _ := RS_of_own hl1 hi1
    obtain ⟨Lp2, hl2, hi2⟩ := (lent_at (p := 1) hL rfl)
    have hf2 : RS rU m21 _ _ := RS_of_own hl2 hi2
    have hB := Bk.of (lent_at (p := 0) hL rfl)
    have hP : P78 m21 (bp b3 0) (some { l := l17, zero := l15 } : Option T78) := ⟨_, _, _, rfl, hB, hf1, hf2⟩
    exact ⟨_, _, rfl, hsm21, hP, hc⟩
  have hlen22 := (hasked_0).2.1
  refine Tr.block ?_
  refine Tr.sub (env' := [(3, _), (12, _), (13, _), (14, _)]) ⟨rfl, rfl, rfl, rfl, trivial⟩ ?_
  refine Tr.loop (S := fun n (z : Int × (List (BitVec 32)) × (List SumsRow)) env x => match z with | (t_23, l11, l13) => ∃ v12 : Value, ∃ v14 : Value, env = [(3, bp b3 0), (12, uasked_0), (13, .int .i64 ((asked_0.length : Int))), (14, .int .i64 t_23)] ∧ x = ⟨m, hcells b3 [v14, v12] 78 :: hownT 23 1 encU v12 l11 :: hownT 85 2 SumsRow.enc v14 l13 :: l⟩ ∧ n = ((asked_0.length : Int) - t_23).toNat ∧ 0 ≤ t_23 ∧ forK (σ := (List (BitVec 32)) × (List SumsRow)) (fun i s nx_ => sums_build_b24 asked_0 i s.1 s.2 nx_) (fun s => sums_build_k19 s.1 s.2) n t_23 (l11, l13) = some r) _ ((0 : Int), ([] : List (BitVec 32)), ([] : List SumsRow)) ⟨_, _, rfl, rfl, rfl, (by omega), hr⟩ ?_
  rintro n26 ⟨t_23, l11, l13⟩ env x ⟨v12, v14, rfl, rfl, hnt_23, h0t_23, hr⟩
  cases n26 with
  | zero =>
    simp only [forK] at hr
    refine Tr.seq ?_
    refine Tr.region_f (fun _ => false) ?_
    refine W.q rfl rfl rfl rfl (by decide) (Yd.lss rfl (.t rfl) (.t rfl)) ?_
    refine W.end ?_
    refine NX.sub (env' := [(3, _), (12, _), (13, _), (14, _), (15, _)]) ⟨rfl, rfl, rfl, rfl, rfl, trivial⟩ ?_
    refine NX.then ?_
    refine Tr.seq ?_
    refine Tr.cond (.t rfl) (fun hb => ?_) (fun hb => ?_)
    · exact absurd (hb.symm.trans (fr_end hnt_23)) (by decide)
    ·
      refine Tr.exit' (EX.then (EX.then (EX.block ?_)))
      refine NX.sub (env' := [(3, _)]) ⟨rfl, trivial⟩ ?_
      exact hk20 _ _ ⟨_, _, _, _, rfl, rfl, hr⟩
  | succ n26 =>
    obtain ⟨nx25, hnx25, hr⟩ := forK_succ hr
    try dsimp only at hr
    unfold sums_build_b24 at hr
    try dsimp only at hr
    have hltt_23 := fr_bnd hnt_23
    refine Tr.seq ?_
    refine Tr.region_f (fun _ => false) ?_
    refine W.q rfl rfl rfl rfl (by decide) (Yd.lss rfl (.t rfl) (.t rfl)) ?_
    refine W.end ?_
    refine NX.sub (env' := [(3, _), (12, _), (13, _), (14, _), (15, _)]) ⟨rfl, rfl, rfl, rfl, rfl, trivial⟩ ?_
    refine NX.then ?_
    refine Tr.seq ?_
    refine Tr.cond (.t rfl) (fun hb => ?_) (fun hb => ?_)
    rotate_left
    · exact absurd (hb.symm.trans (fr_go hnt_23)) (by decide)
    ·
      refine Tr.skip' ?_
      refine NX.then ?_
      refine Tr.seq ?_
      refine Tr.block ?_
      refine Tr.seq ?_
      obtain ⟨y27, hy28, hr⟩ := bind_some hr
      refine Tr.region_f (fun _ => false) ?_
      refine W.q rfl rfl rfl rfl (by decide) (Yd.mv rfl (.t rfl)) ?_
      refine W.q rfl rfl rfl rfl (by decide) (Yd.idxR hasked_0 hy28 rfl Try.underlying42 SZ23 (.t rfl) (.t rfl)) ?_
      refine W.q rfl rfl rfl rfl (by decide) (Yd.ldF hasked_0 (.refl _) hy28 rfl rfl ON23 (.t rfl)) ?_
      refine W.q rfl rfl rfl rfl (by decide) (Yd.as rfl (.t rfl)) ?_
      refine W.q rfl rfl rfl rfl (by decide) (Yd.as rfl (.t rfl)) ?_
      refine W.end ?_
      refine NX.sub (env' := [(3, _), (12, _), (13, _), (14, _), (4, _), (5, _)]) ⟨rfl, rfl, rfl, rfl, rfl, rfl, trivial⟩ ?_
      refine NX.then ?_
      refine Tr.seq ?_
      obtain ⟨r29, hr30, hr⟩ := bind_some hr
      refine Tr.region_f (fun i => Nat.beq i 6 || Nat.beq i 7) ?_
      refine W.q rfl rfl rfl rfl (by decide) (Yd.mv rfl (.t rfl)) ?_
      refine W.q rfl rfl rfl rfl (by decide) (Yd.mv rfl (.t rfl)) ?_
      refine W.q rfl rfl rfl rfl (by decide) (Yd.mv rfl (.t rfl)) ?_
      refine W.q rfl rfl rfl rfl (by decide) (Yd.shlU (a := 1#32) rfl .c (.t rfl) h0t_23) ?_
      refine W.q rfl rfl rfl rfl (by decide) (Yd.bld (cells := [.int .u32 (y27.toNat : Int), .int .u32 (((1#32 <<< t_23.toNat)).toNat : Int)]) rfl ZI85 PL85 (.cons (.t rfl) (.cons (.t rfl) .nil)) rfl) ?_
      refine W.q rfl rfl rfl rfl (by decide) (Yd.call (v := .agg #[.int .u32 (r29.set_.toNat : Int), .int .u32 (r29.by_.toNat : Int)]) rfl Try.func54 rfl rfl (.cons (.t rfl) (.cons (.t rfl) .nil)) (by intro x' hx w hw; obtain ⟨m2, hm2, hL, hc2, hback⟩ := cX_lendAll (m := x'.m) (l := x'.l) hw; obtain ⟨p1, hp1⟩ := hx.at (p := 2) rfl; obtain ⟨Lp1, hl1, hi1⟩ := (lent_at hL hp1); have hf1 : RS rSumsRow m2 _ _ := RS_of_own hl1 hi1; obtain ⟨p2, hp2⟩ := hx.at (p := 1) rfl; obtain ⟨Lp2, hl2, hi2⟩ := (lent_at hL hp2); have hf2 : RS rU m2 _ _ := RS_of_own hl2 hi2; obtain ⟨p0, hp0⟩ := hx.at (p := 0) rfl; have hB := Bk.of (lent_at hL hp0); have hP : P78 m2 (bp b3 0) (some { l := l13, zero := l11 } : Option T78) := ⟨_, _, _, rfl, hB, hf1, hf2⟩; exact (sums_base_less_ok w0 m2 [] _ _ hP (({ set_ := y27, by_ := (1#32 <<< t_23.toNat) } : SumsRow)) _ hr30 w hc2).mono fun e w' ⟨he, hc'⟩ => ⟨he, hback [] w' hc'⟩)) ?_
      refine W.e rfl rfl rfl rfl (by decide) (Ef.al rfl ZR85 rfl) ?_
      rintro _ _ ⟨b31, rfl, rfl⟩
      refine ⟨.inl rfl, ?_⟩
      refine W.cast (m' := m) (l' := hcells b31 [_, _] 85 :: hcells b3 [_, _] 78 :: hownT 23 1 encU v12 _ :: hownT 85 2 SumsRow.enc v14 _ :: l) rfl rfl ?_
      refine W.s rfl rfl rfl rfl (Ef.stB (pos := 0) (us := [_, _]) (cs' := [_, _]) rfl rfl (.t rfl) (.t rfl) SZ85 rfl rfl rfl (Nat.le_of_ble_eq_true rfl) rfl) ?_
      rintro _ _ ⟨rfl, rfl⟩
      refine ⟨.inl rfl, ?_⟩
      refine W.cast (m' := m) (l' := hcells b31 [_, _] 85 :: hcells b3 [_, _] 78 :: hownT 23 1 encU v12 _ :: hownT 85 2 SumsRow.enc v14 _ :: l) rfl rfl ?_
      refine W.end ?_
      refine NX.sub (env' := [(3, _), (12, _), (13, _), (14, _), (6, _)]) ⟨rfl, rfl, rfl, rfl, rfl, trivial⟩ ?_
      refine NX.then ?_
      refine Tr.seq ?_
      refine Tr.seq ?_
      refine Tr.region_f (fun _ => false) ?_
      refine W.q rfl rfl rfl rfl (by decide) (Yd.fldB rfl Try.underlying85 rfl SZ23 rfl (.t rfl)) ?_
      refine W.q rfl rfl rfl rfl (by decide) (Yd.ldB (pos := 0) rfl rfl rfl ON23 (.t rfl)) ?_
      refine W.q rfl rfl rfl rfl (by decide) (Yd.eqlU (a := r29.set_) (b := 0#32) rfl (.t rfl) .c) ?_
      refine W.end ?_
      refine NX.sub (env' := [(3, _), (12, _), (13, _), (14, _), (6, _), (27, _)]) ⟨rfl, rfl, rfl, rfl, rfl, rfl, trivial⟩ ?_
      refine NX.then ?_
      refine Tr.cond (.t rfl) (fun hb => ?_) (fun hb => ?_)
      · have hr := cond_t hb hr
        refine Tr.seq ?_
        obtain ⟨hq36, hr⟩ := guard_some hr; replace hq36 := of_decide_eq_true hq36
        refine Tr.region_x (fun i => Nat.beq i 7 || Nat.beq i 8 || Nat.beq i 11) (fun i => Nat.beq i 0 || Nat.beq i 8 || Nat.beq i 11) (Ord.of [0, 1, 2, 3, 4, 5, 6, 7, 8, 9, 10, 11]) FM (by kernel_rfl) ?_
        refine W.p rfl rfl rfl rfl (by decide) (fun _ => Yd.mv rfl (.t rfl)) ?_
        refine W.q rfl rfl rfl rfl (by decide) (Yd.mv rfl (.t rfl)) ?_
        refine W.q rfl rfl rfl rfl (by decide) (Yd.nilc rfl (.t rfl)) ?_
        refine W.q rfl rfl rfl rfl (by decide) (Yd.fldB rfl Try.underlying78 rfl SZ42 rfl (.t rfl)) ?_
        refine W.q rfl rfl rfl rfl (by decide) (Yd.ldB (pos := 1) rfl rfl rfl ON42 (.t rfl)) ?_
        refine W.q rfl rfl rfl rfl (by decide) (Yd.fldB rfl Try.underlying85 rfl SZ23 rfl (.t rfl)) ?_
        refine W.q rfl rfl rfl rfl (by decide) (Yd.ldB (pos := 0) rfl rfl rfl ON23 (.t rfl)) ?_
        refine W.e rfl rfl rfl rfl (by decide) (Ef.bsT (enc := encU) (vs := [_]) (ys := [r29.by_]) (fun _ => rfl) IF23 rfl Try.underlying42 (by decide) rfl (.cons (.t rfl) .nil) rfl rfl (by decide)) ?_
        rintro v33 _ rfl
        refine ⟨.inr ⟨.refl _, [_], rfl⟩, ?_⟩
        refine W.cast (m' := m) (l' := hownT 23 1 encU v33 _ :: hcells b31 [_, _] 85 :: hcells b3 [_, _] 78 :: hownT 23 1 encU v12 _ :: hownT 85 2 SumsRow.enc v14 _ :: l) rfl rfl ?_
        refine W.e rfl rfl rfl rfl (by decide) (Ef.apI (pos := 3) (enc := encU) (xs := l11) (ys := ([r29.by_] : List (BitVec 32))) (fun _ => rfl) IF23 rfl rfl Try.underlying42 rfl (by decide) (.t rfl) (.t rfl) (Src.own (pos := 0) rfl) (fun _ => rfl) (by omega) (by omega)) ?_
        rintro v35 _ rfl
        refine ⟨.inl rfl, ?_⟩
        refine W.cast (m' := m) (l' := hownT 23 1 encU v33 _ :: hcells b31 [_, _] 85 :: hcells b3 [_, _] 78 :: hownT 23 1 encU v35 _ :: hownT 85 2 SumsRow.enc v14 _ :: l) rfl rfl ?_
        refine W.q rfl rfl rfl rfl (by decide) (Yd.nilc rfl (.t rfl)) ?_
        refine W.q rfl rfl rfl rfl (by decide) (Yd.fldB rfl Try.underlying78 rfl SZ42 rfl (.t rfl)) ?_
        refine W.s rfl rfl rfl rfl (Ef.stBo (pos := 2) (pos2 := 3) (cs' := [_, _]) rfl rfl rfl (.t rfl) (.t rfl) SZ42 (Nat.le_of_ble_eq_true rfl) rfl) ?_
        rintro _ _ ⟨rfl, rfl⟩
        refine ⟨.inl rfl, ?_⟩
        refine W.cast (m' := m) (l' := hownT 23 1 encU v33 _ :: hcells b31 [_, _] 85 :: hcells b3 [_, _] 78 :: hownT 23 1 encU v35 _ :: hownT 85 2 SumsRow.enc v14 _ :: l) rfl rfl ?_
        refine W.end ?_
        refine NX.sub (env' := [(3, _), (12, _), (13, _), (14, _)]) ⟨rfl, rfl, rfl, rfl, trivial⟩ ?_
        refine NX.drop (l' := hcells b3 [_, _] 78 :: hownT 23 1 encU v35 _ :: hownT 85 2 SumsRow.enc v14 _ :: l) (.cons _ (.cons _ (.cons_cons _ (.cons_cons _ (.cons_cons _ (.refl _)))))) ?_
        refine NX.then ?_
        refine Tr.exit' (EX.then (EX.block ?_))
        refine NX.then ?_
        refine Tr.region_f (fun _ => false) ?_
        refine W.q rfl rfl rfl rfl (by decide) (Yd.add rfl (.t rfl) .c) ?_
        refine W.q rfl rfl rfl rfl (by decide) (Yd.mv rfl (.t rfl)) ?_
        refine W.end ?_
        refine NX.sub (env' := [(3, _), (12, _), (13, _), (14, _)]) ⟨rfl, rfl, rfl, rfl, trivial⟩ ?_
        refine NX.sub (env' := [(3, _), (12, _), (13, _), (14, _)]) ⟨rfl, rfl, rfl, rfl, trivial⟩ ?_
        have hw := w64_id (n := t_23 + 1) (by omega) (by omega)
        exact NX.again n26 (t_23 + 1, (l11 ++ ([r29.by_] : List (BitVec 32))), l13) (Nat.lt_succ_self _) ⟨_, _, (by rw [hw] <;> rfl), rfl, (fr_dec hnt_23), (by omega), ((hnx25 _).symm.trans hr)⟩
      · have hr := cond_f hb hr
        refine Tr.skip' ?_
        refine NX.then ?_
        refine Tr.seq ?_
        obtain ⟨r37, hr38, hr⟩ := bind_some hr
        refine Tr.region_f (fun _ => false) ?_
        refine W.q rfl rfl rfl rfl (by decide) (Yd.fldB rfl Try.underlying85 rfl SZ23 rfl (.t rfl)) ?_
        refine W.q rfl rfl rfl rfl (by decide) (Yd.ldB (pos := 0) rfl rfl rfl ON23 (.t rfl)) ?_
        refine W.q rfl rfl rfl rfl (by decide) (Yd.call (v := .int .i64 r37) rfl Try.func56 rfl rfl (.cons (.t rfl) .nil) (fun x' hx w hw => math_bits_Len32_ok w0 x'.m x'.l r29.set_ _ hr38 w hw)) ?_
        refine W.q rfl rfl rfl rfl (by decide) (Yd.sub rfl (.t rfl) .c) ?_
        refine W.q rfl rfl rfl rfl (by decide) (Yd.as rfl (.t rfl)) ?_
        refine W.end ?_
        refine NX.sub (env' := [(3, _), (12, _), (13, _), (14, _), (6, _), (7, _)]) ⟨rfl, rfl, rfl, rfl, rfl, rfl, trivial⟩ ?_
        refine NX.then ?_
        refine Tr.seq ?_
        refine Tr.seq ?_
        refine Tr.region_f (fun _ => false) ?_
        refine W.q rfl rfl rfl rfl (by decide) (Yd.mv rfl (.t rfl)) ?_
        refine W.q rfl rfl rfl rfl (by decide) (Yd.nilc rfl (.t rfl)) ?_
        refine W.q rfl rfl rfl rfl (by decide) (Yd.fldB rfl Try.underlying78 rfl SZ76 rfl (.t rfl)) ?_
        refine W.q rfl rfl rfl rfl (by decide) (Yd.ldB (pos := 1) rfl rfl rfl ON76 (.t rfl)) ?_
        refine W.q rfl rfl rfl rfl (by decide) (Yd.lenO (p := 3) rfl rfl Try.underlying76 (.t rfl)) ?_
        refine W.q rfl rfl rfl rfl (by decide) (Yd.mv rfl .c) ?_
        refine W.end ?_
        refine NX.sub (env' := [(3, _), (12, _), (13, _), (14, _), (6, _), (7, _), (46, _), (47, _), (48, _)]) ⟨rfl, rfl, rfl, rfl, rfl, rfl, rfl, rfl, rfl, trivial⟩ ?_
        refine NX.then ?_
        refine Tr.join (S := fun env x => ∃ l45 : List SumsRow, ∃ v46 : Value, env = [(3, bp b3 0), (12, uasked_0), (13, .int .i64 ((asked_0.length : Int))), (14, .int .i64 t_23), (6, bp b31 0)] ∧ x = ⟨m, hcells b31 [.int .u32 (r29.set_.toNat : Int), .int .u32 (r29.by_.toNat : Int)] 85 :: hcells b3 [v46, v12] 78 :: hownT 23 1 encU v12 l11 :: hownT 85 2 SumsRow.enc v46 l45 :: l⟩ ∧ sums_build_k47 l11 nx25 r29 l45 = some r) ?_ (fun hk48 => ?_)
        · rintro _ _ ⟨l45, v46, rfl, rfl, hr⟩
          unfold sums_build_k47 at hr
          try dsimp only at hr
          refine NX.then ?_
          obtain ⟨hq52, hr⟩ := guard_some hr; replace hq52 := of_decide_eq_true hq52
          refine Tr.region_x (fun i => Nat.beq i 6 || Nat.beq i 7 || Nat.beq i 10) (fun i => Nat.beq i 0 || Nat.beq i 7 || Nat.beq i 10) (Ord.of [0, 1, 2, 3, 4, 5, 6, 7, 8, 9, 10]) FM (by kernel_rfl) ?_
          refine W.p rfl rfl rfl rfl (by decide) (fun _ => Yd.mv rfl (.t rfl)) ?_
          refine W.q rfl rfl rfl rfl (by decide) (Yd.mv rfl (.t rfl)) ?_
          refine W.q rfl rfl rfl rfl (by decide) (Yd.nilc rfl (.t rfl)) ?_
          refine W.q rfl rfl rfl rfl (by decide) (Yd.fldB rfl Try.underlying78 rfl SZ76 rfl (.t rfl)) ?_
          refine W.q rfl rfl rfl rfl (by decide) (Yd.ldB (pos := 1) rfl rfl rfl ON76 (.t rfl)) ?_
          refine W.q rfl rfl rfl rfl (by decide) (Yd.ldBs (pos := 0) (us := [_, _]) rfl rfl rfl rfl ON85 US85 SZ85 (.t rfl)) ?_
          refine W.e rfl rfl rfl rfl (by decide) (Ef.bsT (enc := SumsRow.enc) (vs := [_]) (ys := [({ set_ := r29.set_, by_ := r29.by_ } : SumsRow)]) (fun _ => rfl) IF85 rfl Try.underlying76 (by decide) rfl (.cons (.t rfl) .nil) rfl rfl (by decide)) ?_
          rintro v49 _ rfl
          refine ⟨.inr ⟨.refl _, [_], rfl⟩, ?_⟩
          refine W.cast (m' := m) (l' := hownT 85 2 SumsRow.enc v49 _ :: hcells b31 [_, _] 85 :: hcells b3 [_, _] 78 :: hownT 23 1 encU v12 _ :: hownT 85 2 SumsRow.enc v46 _ :: l) rfl rfl ?_
          refine W.e rfl rfl rfl rfl (by decide) (Ef.apI (pos := 4) (enc := SumsRow.enc) (xs := l45) (ys := ([({ set_ := r29.set_, by_ := r29.by_ } : SumsRow)] : List SumsRow)) (fun _ => rfl) IF85 rfl rfl Try.underlying76 rfl (by decide) (.t rfl) (.t rfl) (Src.own (pos := 0) rfl) (fun _ => rfl) (by omega) (by omega)) ?_
          rintro v51 _ rfl
          refine ⟨.inl rfl, ?_⟩
          refine W.cast (m' := m) (l' := hownT 85 2 SumsRow.enc v49 _ :: hcells b31 [_, _] 85 :: hcells b3 [_, _] 78 :: hownT 23 1 encU v12 _ :: hownT 85 2 SumsRow.enc v51 _ :: l) rfl rfl ?_
          refine W.q rfl rfl rfl rfl (by decide) (Yd.nilc rfl (.t rfl)) ?_
          refine W.q rfl rfl rfl rfl (by decide) (Yd.fldB rfl Try.underlying78 rfl SZ76 rfl (.t rfl)) ?_
          refine W.s rfl rfl rfl rfl (Ef.stBo (pos := 2) (pos2 := 4) (cs' := [_, _]) rfl rfl rfl (.t rfl) (.t rfl) SZ76 (Nat.le_of_ble_eq_true rfl) rfl) ?_
          rintro _ _ ⟨rfl, rfl⟩
          refine ⟨.inl rfl, ?_⟩
          refine W.cast (m' := m) (l' := hownT 85 2 SumsRow.enc v49 _ :: hcells b31 [_, _] 85 :: hcells b3 [_, _] 78 :: hownT 23 1 encU v12 _ :: hownT 85 2 SumsRow.enc v51 _ :: l) rfl rfl ?_
          refine W.end ?_
          refine NX.sub (env' := [(3, _), (12, _), (13, _), (14, _)]) ⟨rfl, rfl, rfl, rfl, trivial⟩ ?_
          refine NX.drop (l' := hcells b3 [_, _] 78 :: hownT 23 1 encU v12 _ :: hownT 85 2 SumsRow.enc v51 _ :: l) (.cons _ (.cons _ (.cons_cons _ (.cons_cons _ (.cons_cons _ (.refl _)))))) ?_
          refine NX.block ?_
          refine NX.then ?_
          refine Tr.region_f (fun _ => false) ?_
          refine W.q rfl rfl rfl rfl (by decide) (Yd.add rfl (.t rfl) .c) ?_
          refine W.q rfl rfl rfl rfl (by decide) (Yd.mv rfl (.t rfl)) ?_
          refine W.end ?_
          refine NX.sub (env' := [(3, _), (12, _), (13, _), (14, _)]) ⟨rfl, rfl, rfl, rfl, trivial⟩ ?_
          refine NX.sub (env' := [(3, _), (12, _), (13, _), (14, _)]) ⟨rfl, rfl, rfl, rfl, trivial⟩ ?_
          have hw := w64_id (n := t_23 + 1) (by omega) (by omega)
          exact NX.again n26 (t_23 + 1, l11, (l45 ++ ([({ set_ := r29.set_, by_ := r29.by_ } : SumsRow)] : List SumsRow))) (Nat.lt_succ_self _) ⟨_, _, (by rw [hw] <;> rfl), rfl, (fr_dec hnt_23), (by omega), ((hnx25 _).symm.trans hr)⟩
        refine Tr.lenO (pos := 3) rfl (fun hlen53 => ?_)
        refine Tr.block ?_
        refine Tr.sub (env' := [(3, _), (6, _), (7, _), (12, _), (13, _), (14, _), (46, _), (47, _), (48, _)]) ⟨rfl, rfl, rfl, rfl, rfl, rfl, rfl, rfl, rfl, trivial⟩ ?_
        refine Tr.loop (S := fun n (z : Int × (List SumsRow)) env x => match z with | (t_54, l43) => ∃ v44 : Value, env = [(3, bp b3 0), (6, bp b31 0), (7, .int .i64 ((w64 (r37 - (1 : Int))))), (12, uasked_0), (13, .int .i64 ((asked_0.length : Int))), (14, .int .i64 t_23), (46, v44), (47, .int .i64 ((l13.length : Int))), (48, .int .i64 t_54)] ∧ x = ⟨m, hcells b31 [.int .u32 (r29.set_.toNat : Int), .int .u32 (r29.by_.toNat : Int)] 85 :: hcells b3 [v44, v12] 78 :: hownT 23 1 encU v12 l11 :: hownT 85 2 SumsRow.enc v44 l43 :: l⟩ ∧ n = ((l13.length : Int) - t_54).toNat ∧ 0 ≤ t_54 ∧ forK (σ := (List SumsRow)) (fun i s nx_ => sums_build_b55 r29 r37 i s nx_) (fun s => sums_build_k47 l11 nx25 r29 s) n t_54 l43 = some r) _ ((0 : Int), l13) ⟨_, rfl, rfl, rfl, (by omega), hr⟩ ?_
        rintro n57 ⟨t_54, l43⟩ env x ⟨v44, rfl, rfl, hnt_54, h0t_54, hr⟩
        cases n57 with
        | zero =>
          simp only [forK] at hr
          refine Tr.seq ?_
          refine Tr.region_f (fun _ => false) ?_
          refine W.q rfl rfl rfl rfl (by decide) (Yd.lss rfl (.t rfl) (.t rfl)) ?_
          refine W.end ?_
          refine NX.sub (env' := [(3, _), (6, _), (7, _), (12, _), (13, _), (14, _), (46, _), (47, _), (48, _), (49, _)]) ⟨rfl, rfl, rfl, rfl, rfl, rfl, rfl, rfl, rfl, rfl, trivial⟩ ?_
          refine NX.then ?_
          refine Tr.seq ?_
          refine Tr.cond (.t rfl) (fun hb => ?_) (fun hb => ?_)
          · exact absurd (hb.symm.trans (fr_end hnt_54)) (by decide)
          ·
            refine Tr.exit' (EX.then (EX.then (EX.block ?_)))
            refine NX.sub (env' := [(3, _), (12, _), (13, _), (14, _), (6, _)]) ⟨rfl, rfl, rfl, rfl, rfl, trivial⟩ ?_
            exact hk48 _ _ ⟨_, _, rfl, rfl, hr⟩
        | succ n57 =>
          obtain ⟨nx56, hnx56, hr⟩ := forK_succ hr
          try dsimp only at hr
          unfold sums_build_b55 at hr
          try dsimp only at hr
          have hltt_54 := fr_bnd hnt_54
          refine Tr.seq ?_
          refine Tr.region_f (fun _ => false) ?_
          refine W.q rfl rfl rfl rfl (by decide) (Yd.lss rfl (.t rfl) (.t rfl)) ?_
          refine W.end ?_
          refine NX.sub (env' := [(3, _), (6, _), (7, _), (12, _), (13, _), (14, _), (46, _), (47, _), (48, _), (49, _)]) ⟨rfl, rfl, rfl, rfl, rfl, rfl, rfl, rfl, rfl, rfl, trivial⟩ ?_
          refine NX.then ?_
          refine Tr.seq ?_
          refine Tr.cond (.t rfl) (fun hb => ?_) (fun hb => ?_)
          rotate_left
          · exact absurd (hb.symm.trans (fr_go hnt_54)) (by decide)
          ·
            refine Tr.skip' ?_
            refine NX.then ?_
            refine Tr.seq ?_
            refine Tr.block ?_
            refine Tr.seq ?_
            obtain ⟨y58, hy59, hr⟩ := bind_some hr
            refine Tr.region_f (fun i => Nat.beq i 3 || Nat.beq i 5) ?_
            refine W.q rfl rfl rfl rfl (by decide) (Yd.mv rfl (.t rfl)) ?_
            refine W.q rfl rfl rfl rfl (by decide) (Yd.idxT (pos := 3) rfl hy59 rfl Try.underlying76 SZ85 (.t rfl) (.t rfl)) ?_
            refine W.q rfl rfl rfl rfl (by decide) (Yd.ldTs (enc := SumsRow.enc) (n := 2) (pos := 3) (us := [_, _]) (fun _ => rfl) rfl hy59 rfl (by decide) rfl ON85 US85 SZ85 (.t rfl)) ?_
            refine W.e rfl rfl rfl rfl (by decide) (Ef.al rfl ZR85 rfl) ?_
            rintro _ _ ⟨b60, rfl, rfl⟩
            refine ⟨.inl rfl, ?_⟩
            refine W.cast (m' := m) (l' := hcells b60 [_, _] 85 :: hcells b31 [_, _] 85 :: hcells b3 [_, _] 78 :: hownT 23 1 encU v12 _ :: hownT 85 2 SumsRow.enc v44 _ :: l) rfl rfl ?_
            refine W.q rfl rfl rfl rfl (by decide) (Yd.as rfl (.t rfl)) ?_
            refine W.s rfl rfl rfl rfl (Ef.stB (pos := 0) (us := [_, _]) (cs' := [_, _]) rfl rfl (.t rfl) (.t rfl) SZ85 rfl rfl rfl (Nat.le_of_ble_eq_true rfl) rfl) ?_
            rintro _ _ ⟨rfl, rfl⟩
            refine ⟨.inl rfl, ?_⟩
            refine W.cast (m' := m) (l' := hcells b60 [_, _] 85 :: hcells b31 [_, _] 85 :: hcells b3 [_, _] 78 :: hownT 23 1 encU v12 _ :: hownT 85 2 SumsRow.enc v44 _ :: l) rfl rfl ?_
            refine W.end ?_
            refine NX.sub (env' := [(3, _), (6, _), (7, _), (12, _), (13, _), (14, _), (46, _), (47, _), (48, _), (9, _), (8, _)]) ⟨rfl, rfl, rfl, rfl, rfl, rfl, rfl, rfl, rfl, rfl, rfl, trivial⟩ ?_
            refine NX.then ?_
            refine Tr.seq ?_
            obtain ⟨hq62, hr⟩ := guard_some hr; replace hq62 := of_decide_eq_true hq62
            refine Tr.region_f (fun _ => false) ?_
            refine W.q rfl rfl rfl rfl (by decide) (Yd.fldB rfl Try.underlying85 rfl SZ23 rfl (.t rfl)) ?_
            refine W.q rfl rfl rfl rfl (by decide) (Yd.ldB (pos := 0) rfl rfl rfl ON23 (.t rfl)) ?_
            refine W.q rfl rfl rfl rfl (by decide) (Yd.mv rfl (.t rfl)) ?_
            refine W.q rfl rfl rfl rfl (by decide) (Yd.shrU (a := y58.set_) rfl (.t rfl) (.t rfl) hq62) ?_
            refine W.q rfl rfl rfl rfl (by decide) (Yd.andU (a := (y58.set_ >>> ((w64 (r37 - (1 : Int)))).toNat)) (b := 1#32) rfl (.t rfl) .c) ?_
            refine W.q rfl rfl rfl rfl (by decide) (Yd.eqlU (a := ((y58.set_ >>> ((w64 (r37 - (1 : Int)))).toNat) &&& 1#32)) (b := 1#32) rfl (.t rfl) .c) ?_
            refine W.end ?_
            refine NX.sub (env' := [(3, _), (6, _), (7, _), (12, _), (13, _), (14, _), (46, _), (47, _), (48, _), (9, _), (8, _), (58, _)]) ⟨rfl, rfl, rfl, rfl, rfl, rfl, rfl, rfl, rfl, rfl, rfl, rfl, trivial⟩ ?_
            refine NX.then ?_
            refine Tr.cond (.t rfl) (fun hb => ?_) (fun hb => ?_)
            · have hr := cond_t hb hr
              obtain ⟨y63, hy64, hr⟩ := bind_some hr
              refine Tr.region_x (fun i => Nat.beq i 17) (fun i => Nat.beq i 17) (Ord.of [0, 1, 2, 3, 4, 5, 6, 7, 8, 9, 10, 11, 12, 13, 14, 15, 16, 17]) FM (by kernel_rfl) ?_
              refine W.q rfl rfl rfl rfl (by decide) (Yd.mv rfl (.t rfl)) ?_
              refine W.q rfl rfl rfl rfl (by decide) (Yd.nilc rfl (.t rfl)) ?_
              refine W.q rfl rfl rfl rfl (by decide) (Yd.fldB rfl Try.underlying78 rfl SZ76 rfl (.t rfl)) ?_
              refine W.q rfl rfl rfl rfl (by decide) (Yd.ldB (pos := 2) rfl rfl rfl ON76 (.t rfl)) ?_
              refine W.q rfl rfl rfl rfl (by decide) (Yd.mv rfl (.t rfl)) ?_
              refine W.q rfl rfl rfl rfl (by decide) (Yd.fldB rfl Try.underlying85 rfl SZ23 rfl (.t rfl)) ?_
              refine W.q rfl rfl rfl rfl (by decide) (Yd.ldB (pos := 0) rfl rfl rfl ON23 (.t rfl)) ?_
              refine W.q rfl rfl rfl rfl (by decide) (Yd.fldB rfl Try.underlying85 rfl SZ23 rfl (.t rfl)) ?_
              refine W.q rfl rfl rfl rfl (by decide) (Yd.ldB (pos := 1) rfl rfl rfl ON23 (.t rfl)) ?_
              refine W.q rfl rfl rfl rfl (by decide) (Yd.xorU (a := y58.set_) (b := r29.set_) rfl (.t rfl) (.t rfl)) ?_
              refine W.q rfl rfl rfl rfl (by decide) (Yd.fldB rfl Try.underlying85 rfl SZ23 rfl (.t rfl)) ?_
              refine W.q rfl rfl rfl rfl (by decide) (Yd.ldB (pos := 0) rfl rfl rfl ON23 (.t rfl)) ?_
              refine W.q rfl rfl rfl rfl (by decide) (Yd.fldB rfl Try.underlying85 rfl SZ23 rfl (.t rfl)) ?_
              refine W.q rfl rfl rfl rfl (by decide) (Yd.ldB (pos := 1) rfl rfl rfl ON23 (.t rfl)) ?_
              refine W.q rfl rfl rfl rfl (by decide) (Yd.xorU (a := y58.by_) (b := r29.by_) rfl (.t rfl) (.t rfl)) ?_
              refine W.q rfl rfl rfl rfl (by decide) (Yd.bld (cells := [.int .u32 (((y58.set_ ^^^ r29.set_)).toNat : Int), .int .u32 (((y58.by_ ^^^ r29.by_)).toNat : Int)]) rfl ZI85 PL85 (.cons (.t rfl) (.cons (.t rfl) .nil)) rfl) ?_
              refine W.q rfl rfl rfl rfl (by decide) (Yd.idxT (pos := 4) rfl hy64 rfl Try.underlying76 SZ85 (.t rfl) (.t rfl)) ?_
              refine W.s rfl rfl rfl rfl (Ef.stT (enc := SumsRow.enc) (n := 2) (pos := 4) (y := ({ set_ := (y58.set_ ^^^ r29.set_), by_ := (y58.by_ ^^^ r29.by_) } : SumsRow)) (us := [_, _]) (fun _ => rfl) rfl hy64 rfl (.t rfl) (.t rfl) SZ85 rfl rfl rfl (by decide)) ?_
              rintro _ _ ⟨rfl, rfl⟩
              refine ⟨.inl rfl, ?_⟩
              refine W.cast (m' := m) (l' := hcells b60 [_, _] 85 :: hcells b31 [_, _] 85 :: hcells b3 [_, _] 78 :: hownT 23 1 encU v12 _ :: hownT 85 2 SumsRow.enc v44 _ :: l) rfl rfl ?_
              refine W.end ?_
              refine NX.sub (env' := [(3, _), (6, _), (7, _), (12, _), (13, _), (14, _), (46, _), (47, _), (48, _)]) ⟨rfl, rfl, rfl, rfl, rfl, rfl, rfl, rfl, rfl, trivial⟩ ?_
              refine NX.drop (l' := hcells b31 [_, _] 85 :: hcells b3 [_, _] 78 :: hownT 23 1 encU v12 _ :: hownT 85 2 SumsRow.enc v44 _ :: l) (.cons _ (.cons_cons _ (.cons_cons _ (.cons_cons _ (.cons_cons _ (.refl _)))))) ?_
              refine NX.block ?_
              refine NX.then ?_
              refine Tr.region_f (fun _ => false) ?_
              refine W.q rfl rfl rfl rfl (by decide) (Yd.add rfl (.t rfl) .c) ?_
              refine W.q rfl rfl rfl rfl (by decide) (Yd.mv rfl (.t rfl)) ?_
              refine W.end ?_
              refine NX.sub (env' := [(3, _), (6, _), (7, _), (12, _), (13, _), (14, _), (46, _), (47, _), (48, _)]) ⟨rfl, rfl, rfl, rfl, rfl, rfl, rfl, rfl, rfl, trivial⟩ ?_
              refine NX.sub (env' := [(3, _), (6, _), (7, _), (12, _), (13, _), (14, _), (46, _), (47, _), (48, _)]) ⟨rfl, rfl, rfl, rfl, rfl, rfl, rfl, rfl, rfl, trivial⟩ ?_
              have hw := w64_id (n := t_54 + 1) (by omega) (by omega)
              exact NX.again n57 (t_54 + 1, (l43.set t_54.toNat (({ set_ := (y58.set_ ^^^ r29.set_), by_ := (y58.by_ ^^^ r29.by_) } : SumsRow)))) (Nat.lt_succ_self _) ⟨_, (by rw [hw] <;> rfl), rfl, (fr_dec hnt_54), (by omega), ((hnx56 _).symm.trans hr)⟩
            · have hr := cond_f hb hr
              refine Tr.skip' ?_
              refine NX.block ?_
              refine NX.then ?_
              refine Tr.region_f (fun _ => false) ?_
              refine W.q rfl rfl rfl rfl (by decide) (Yd.add rfl (.t rfl) .c) ?_
              refine W.q rfl rfl rfl rfl (by decide) (Yd.mv rfl (.t rfl)) ?_
              refine W.end ?_
              refine NX.sub (env' := [(3, _), (6, _), (7, _), (12, _), (13, _), (14, _), (46, _), (47, _), (48, _)]) ⟨rfl, rfl, rfl, rfl, rfl, rfl, rfl, rfl, rfl, trivial⟩ ?_
              refine NX.drop (l' := hcells b31 [_, _] 85 :: hcells b3 [_, _] 78 :: hownT 23 1 encU v12 _ :: hownT 85 2 SumsRow.enc v44 _ :: l) (.cons _ (.cons_cons _ (.cons_cons _ (.cons_cons _ (.cons_cons _ (.refl _)))))) ?_
              refine NX.sub (env' := [(3, _), (6, _), (7, _), (12, _), (13, _), (14, _), (46, _), (47, _), (48, _)]) ⟨rfl, rfl, rfl, rfl, rfl, rfl, rfl, rfl, rfl, trivial⟩ ?_
              have hw := w64_id (n := t_54 + 1) (by omega) (by omega)
              exact NX.again n57 (t_54 + 1, l43) (Nat.lt_succ_self _) ⟨_, (by rw [hw] <;> rfl), rfl, (fr_dec hnt_54), (by omega), ((hnx56 _).symm.trans hr)⟩

def sums_base_told_k16 (out_15 : BitVec 32) : Option ((BitVec 32)) :=
  some out_15

def sums_base_told_b20 (x1 : T78) (t_19 : Int) (out_13 : BitVec 32) (nx21 : (BitVec 32) → Option ((BitVec 32))) : Option ((BitVec 32)) :=
  (geti x1.l t_19).bind fun y23 =>
  (bif ((y23.set_ &&& (y23.set_ - 1#32)) == 0#32) then
  nx21 (out_13 ||| y23.set_)
  else
  nx21 out_13)

def sums_base_told (b_0 : Option T78) : Option ((BitVec 32)) :=
  (b_0).bind fun x1 =>
  forK (σ := (BitVec 32)) (fun i s nx_ => sums_base_told_b20 x1 i s nx_) (fun s => sums_base_told_k16 s) ((x1.l.length : Int) - (0 : Int)).toNat (0 : Int) (0#32)

set_option maxRecDepth 100000 in
set_option maxHeartbeats 4000000 in
theorem sums_base_told_ok (w0 : World) (m : Snap) (l : List HI) (ub_0 : Value) (b_0 : Option T78) (hb_0 : P78 m ub_0 b_0) (r : (BitVec 32)) (hr : sums_base_told b_0 = some r) (w : World) (hc : cX w0 ⟨m, l⟩ w) :
    Calls Try.prog 52 [ub_0].toArray w fun e w' => e = .returned (.int .u32 (r.toNat : Int)) ∧ cX w0 ⟨m, l⟩ w' := by
  unfold sums_base_told at hr
  refine calls_of_Tr (N := 28) Try.func52 rfl hc rfl (Nat.le_of_ble_eq_true rfl) ?_
  refine Tr.seq ?_
  refine Tr.region_f (fun _ => false) ?_
  refine W.q rfl rfl rfl rfl (by decide) (Yd.as rfl .c) ?_
  refine W.end ?_
  refine NX.sub (env' := [(0, _)]) ⟨rfl, trivial⟩ ?_
  refine NX.then ?_
  refine Tr.seq ?_
  refine Tr.region_f (fun _ => false) ?_
  refine W.q rfl rfl rfl rfl (by decide) (Yd.as rfl .c) ?_
  refine W.end ?_
  refine NX.sub (env' := [(0, _), (3, _)]) ⟨rfl, rfl, trivial⟩ ?_
  refine NX.then ?_
  refine Tr.seq ?_
  refine Tr.seq ?_
  obtain ⟨x1, hn2, hr⟩ := bind_some hr
  refine Tr.region_f (fun _ => false) ?_
  refine W.q rfl rfl rfl rfl (by decide) (Yd.mv rfl (.t rfl)) ?_
  have hp3 := hb_0; rw [hn2] at hp3; obtain ⟨b5, u7, u9, hz4, hb6, hu8, hu10⟩ := hp3; subst hz4
  refine W.q rfl rfl rfl rfl (by decide) (Yd.nilc rfl (.t rfl)) ?_
  refine W.q rfl rfl rfl rfl (by decide) (Yd.fldB rfl Try.underlying78 rfl SZ76 rfl (.t rfl)) ?_
  refine W.q rfl rfl rfl rfl (by decide) (Yd.ldK hb6 rfl rfl ON76 (.t rfl)) ?_
  refine W.q rfl rfl rfl rfl (by decide) (Yd.lenR hu8 rfl Try.underlying76 (.t rfl)) ?_
  refine W.q rfl rfl rfl rfl (by decide) (Yd.mv rfl .c) ?_
  refine W.end ?_
  refine NX.sub (env' := [(3, _), (9, _), (10, _), (11, _)]) ⟨rfl, rfl, rfl, rfl, trivial⟩ ?_
  refine NX.then ?_
  refine Tr.join (S := fun env x => ∃ out_15 : BitVec 32, env = [(3, .int .u32 (out_15.toNat : Int))] ∧ x = ⟨m, l⟩ ∧ sums_base_told_k16 out_15 = some r) ?_ (fun hk17 => ?_)
  · rintro _ _ ⟨out_15, rfl, rfl, hr⟩
    unfold sums_base_told_k16 at hr
    try dsimp only at hr
    refine NX.then ?_
    refine Tr.seq ?_
    refine Tr.region_f (fun _ => false) ?_
    refine W.q rfl rfl rfl rfl (by decide) (Yd.mv rfl (.t rfl)) ?_
    refine W.q rfl rfl rfl rfl (by decide) (Yd.as rfl (.t rfl)) ?_
    refine W.end ?_
    refine NX.sub (env' := [(2, _)]) ⟨rfl, trivial⟩ ?_
    refine NX.then ?_
    refine Tr.ret' ?_
    refine res1 rfl rfl ?_
    intro w hc
    cases hr
    exact ⟨rfl, hc⟩
  have hlen18 := (hu8).2.1
  refine Tr.block ?_
  refine Tr.sub (env' := [(3, _), (9, _), (10, _), (11, _)]) ⟨rfl, rfl, rfl, rfl, trivial⟩ ?_
  refine Tr.loop (S := fun n (z : Int × (BitVec 32)) env x => match z with | (t_19, out_13) => env = [(3, .int .u32 (out_13.toNat : Int)), (9, u7), (10, .int .i64 ((x1.l.length : Int))), (11, .int .i64 t_19)] ∧ x = ⟨m, l⟩ ∧ n = ((x1.l.length : Int) - t_19).toNat ∧ 0 ≤ t_19 ∧ forK (σ := (BitVec 32)) (fun i s nx_ => sums_base_told_b20 x1 i s nx_) (fun s => sums_base_told_k16 s) n t_19 out_13 = some r) _ ((0 : Int), 0#32) ⟨rfl, rfl, rfl, (by omega), hr⟩ ?_
  rintro n22 ⟨t_19, out_13⟩ env x ⟨rfl, rfl, hnt_19, h0t_19, hr⟩
  cases n22 with
  | zero =>
    simp only [forK] at hr
    refine Tr.seq ?_
    refine Tr.region_f (fun _ => false) ?_
    refine W.q rfl rfl rfl rfl (by decide) (Yd.lss rfl (.t rfl) (.t rfl)) ?_
    refine W.end ?_
    refine NX.sub (env' := [(3, _), (9, _), (10, _), (11, _), (12, _)]) ⟨rfl, rfl, rfl, rfl, rfl, trivial⟩ ?_
    refine NX.then ?_
    refine Tr.seq ?_
    refine Tr.cond (.t rfl) (fun hb => ?_) (fun hb => ?_)
    · exact absurd (hb.symm.trans (fr_end hnt_19)) (by decide)
    ·
      refine Tr.exit' (EX.then (EX.then (EX.block ?_)))
      refine NX.sub (env' := [(3, _)]) ⟨rfl, trivial⟩ ?_
      exact hk17 _ _ ⟨_, rfl, rfl, hr⟩
  | succ n22 =>
    obtain ⟨nx21, hnx21, hr⟩ := forK_succ hr
    try dsimp only at hr
    unfold sums_base_told_b20 at hr
    try dsimp only at hr
    have hltt_19 := fr_bnd hnt_19
    refine Tr.seq ?_
    refine Tr.region_f (fun _ => false) ?_
    refine W.q rfl rfl rfl rfl (by decide) (Yd.lss rfl (.t rfl) (.t rfl)) ?_
    refine W.end ?_
    refine NX.sub (env' := [(3, _), (9, _), (10, _), (11, _), (12, _)]) ⟨rfl, rfl, rfl, rfl, rfl, trivial⟩ ?_
    refine NX.then ?_
    refine Tr.seq ?_
    refine Tr.cond (.t rfl) (fun hb => ?_) (fun hb => ?_)
    rotate_left
    · exact absurd (hb.symm.trans (fr_go hnt_19)) (by decide)
    ·
      refine Tr.skip' ?_
      refine NX.then ?_
      refine Tr.seq ?_
      refine Tr.block ?_
      refine Tr.seq ?_
      obtain ⟨y23, hy24, hr⟩ := bind_some hr
      refine Tr.region_f (fun i => Nat.beq i 2 || Nat.beq i 3) ?_
      refine W.q rfl rfl rfl rfl (by decide) (Yd.idxR hu8 hy24 rfl Try.underlying76 SZ85 (.t rfl) (.t rfl)) ?_
      refine W.q rfl rfl rfl rfl (by decide) (Yd.ldFs (us := [_, _]) hu8 (.refl _) hy24 rfl rfl ON85 US85 SZ85 (.t rfl)) ?_
      refine W.e rfl rfl rfl rfl (by decide) (Ef.al rfl ZR85 rfl) ?_
      rintro _ _ ⟨b25, rfl, rfl⟩
      refine ⟨.inl rfl, ?_⟩
      refine W.cast (m' := m) (l' := hcells b25 [_, _] 85 :: l) rfl rfl ?_
      refine W.s rfl rfl rfl rfl (Ef.stB (pos := 0) (us := [_, _]) (cs' := [_, _]) rfl rfl (.t rfl) (.t rfl) SZ85 rfl rfl rfl (Nat.le_of_ble_eq_true rfl) rfl) ?_
      rintro _ _ ⟨rfl, rfl⟩
      refine ⟨.inl rfl, ?_⟩
      refine W.cast (m' := m) (l' := hcells b25 [_, _] 85 :: l) rfl rfl ?_
      refine W.end ?_
      refine NX.sub (env' := [(3, _), (9, _), (10, _), (11, _), (5, _)]) ⟨rfl, rfl, rfl, rfl, rfl, trivial⟩ ?_
      refine NX.then ?_
      refine Tr.seq ?_
      refine Tr.region_f (fun _ => false) ?_
      refine W.q rfl rfl rfl rfl (by decide) (Yd.fldB rfl Try.underlying85 rfl SZ23 rfl (.t rfl)) ?_
      refine W.q rfl rfl rfl rfl (by decide) (Yd.ldB (pos := 0) rfl rfl rfl ON23 (.t rfl)) ?_
      refine W.q rfl rfl rfl rfl (by decide) (Yd.fldB rfl Try.underlying85 rfl SZ23 rfl (.t rfl)) ?_
      refine W.q rfl rfl rfl rfl (by decide) (Yd.ldB (pos := 0) rfl rfl rfl ON23 (.t rfl)) ?_
      refine W.q rfl rfl rfl rfl (by decide) (Yd.subU (a := y23.set_) (b := 1#32) rfl (.t rfl) .c) ?_
      refine W.q rfl rfl rfl rfl (by decide) (Yd.andU (a := y23.set_) (b := (y23.set_ - 1#32)) rfl (.t rfl) (.t rfl)) ?_
      refine W.q rfl rfl rfl rfl (by decide) (Yd.eqlU (a := (y23.set_ &&& (y23.set_ - 1#32))) (b := 0#32) rfl (.t rfl) .c) ?_
      refine W.end ?_
      refine NX.sub (env' := [(3, _), (9, _), (10, _), (11, _), (5, _), (21, _)]) ⟨rfl, rfl, rfl, rfl, rfl, rfl, trivial⟩ ?_
      refine NX.then ?_
      refine Tr.cond (.t rfl) (fun hb => ?_) (fun hb => ?_)
      · have hr := cond_t hb hr
        refine Tr.region_f (fun _ => false) ?_
        refine W.q rfl rfl rfl rfl (by decide) (Yd.mv rfl (.t rfl)) ?_
        refine W.q rfl rfl rfl rfl (by decide) (Yd.fldB rfl Try.underlying85 rfl SZ23 rfl (.t rfl)) ?_
        refine W.q rfl rfl rfl rfl (by decide) (Yd.ldB (pos := 0) rfl rfl rfl ON23 (.t rfl)) ?_
        refine W.q rfl rfl rfl rfl (by decide) (Yd.orU (a := out_13) (b := y23.set_) rfl (.t rfl) (.t rfl)) ?_
        refine W.q rfl rfl rfl rfl (by decide) (Yd.as rfl (.t rfl)) ?_
        refine W.end ?_
        refine NX.sub (env' := [(3, _), (9, _), (10, _), (11, _)]) ⟨rfl, rfl, rfl, rfl, trivial⟩ ?_
        refine NX.drop (l' := l) (.cons _ (.refl _)) ?_
        refine NX.block ?_
        refine NX.then ?_
        refine Tr.region_f (fun _ => false) ?_
        refine W.q rfl rfl rfl rfl (by decide) (Yd.add rfl (.t rfl) .c) ?_
        refine W.q rfl rfl rfl rfl (by decide) (Yd.mv rfl (.t rfl)) ?_
        refine W.end ?_
        refine NX.sub (env' := [(3, _), (9, _), (10, _), (11, _)]) ⟨rfl, rfl, rfl, rfl, trivial⟩ ?_
        refine NX.sub (env' := [(3, _), (9, _), (10, _), (11, _)]) ⟨rfl, rfl, rfl, rfl, trivial⟩ ?_
        have hw := w64_id (n := t_19 + 1) (by omega) (by omega)
        exact NX.again n22 (t_19 + 1, (out_13 ||| y23.set_)) (Nat.lt_succ_self _) ⟨(by rw [hw] <;> rfl), rfl, (fr_dec hnt_19), (by omega), ((hnx21 _).symm.trans hr)⟩
      · have hr := cond_f hb hr
        refine Tr.skip' ?_
        refine NX.block ?_
        refine NX.then ?_
        refine Tr.region_f (fun _ => false) ?_
        refine W.q rfl rfl rfl rfl (by decide) (Yd.add rfl (.t rfl) .c) ?_
        refine W.q rfl rfl rfl rfl (by decide) (Yd.mv rfl (.t rfl)) ?_
        refine W.end ?_
        refine NX.sub (env' := [(3, _), (9, _), (10, _), (11, _)]) ⟨rfl, rfl, rfl, rfl, trivial⟩ ?_
        refine NX.drop (l' := l) (.cons _ (.refl _)) ?_
        refine NX.sub (env' := [(3, _), (9, _), (10, _), (11, _)]) ⟨rfl, rfl, rfl, rfl, trivial⟩ ?_
        have hw := w64_id (n := t_19 + 1) (by omega) (by omega)
        exact NX.again n22 (t_19 + 1, out_13) (Nat.lt_succ_self _) ⟨(by rw [hw] <;> rfl), rfl, (fr_dec hnt_19), (by omega), ((hnx21 _).symm.trans hr)⟩

def sums_Told (n_0 : Int) (asked_1 : List (BitVec 32)) : Option ((BitVec 32) × Int) :=
  (sums_wrong n_0 asked_1 (0#32)).bind fun r1 =>
  (bif (r1 != (0 : Int)) then
  some ((0#32, r1))
  else
  (sums_build asked_1).bind fun r3 =>
  (sums_base_told r3).bind fun r8 =>
  some ((r8, (0 : Int))))

set_option maxRecDepth 100000 in
set_option maxHeartbeats 4000000 in
theorem sums_Told_ok (w0 : World) (m : Snap) (l : List HI) (n_0 : Int) (uasked_1 : Value) (asked_1 : List (BitVec 32)) (hasked_1 : RS rU m uasked_1 asked_1) (r : (BitVec 32) × Int) (hr : sums_Told n_0 asked_1 = some r) (w : World) (hc : cX w0 ⟨m, l⟩ w) :
    Calls Try.prog 29 [.int .i64 n_0, uasked_1].toArray w fun e w' => e = .returned (.tuple #[.int .u32 (r.1.toNat : Int), .int .i64 r.2]) ∧ cX w0 ⟨m, l⟩ w' := by
  unfold sums_Told at hr
  refine calls_of_Tr (N := 16) Try.func29 rfl hc rfl (Nat.le_of_ble_eq_true rfl) ?_
  refine Tr.seq ?_
  refine Tr.region_f (fun _ => false) ?_
  refine W.q rfl rfl rfl rfl (by decide) (Yd.as rfl .c) ?_
  refine W.q rfl rfl rfl rfl (by decide) (Yd.as rfl .c) ?_
  refine W.end ?_
  refine NX.sub (env' := [(0, _), (1, _)]) ⟨rfl, rfl, trivial⟩ ?_
  refine NX.then ?_
  refine Tr.seq ?_
  refine Tr.seq ?_
  obtain ⟨r1, hr2, hr⟩ := bind_some hr
  refine Tr.region_f (fun _ => false) ?_
  refine W.q rfl rfl rfl rfl (by decide) (Yd.mv rfl (.t rfl)) ?_
  refine W.q rfl rfl rfl rfl (by decide) (Yd.mv rfl (.t rfl)) ?_
  refine W.q rfl rfl rfl rfl (by decide) (Yd.call (v := .int .i64 r1) rfl Try.func49 rfl rfl (.cons (.t rfl) (.cons (.t rfl) (.cons .c .nil))) (fun x' hx w hw => sums_wrong_ok w0 x'.m x'.l n_0 _ _ (hasked_1.mono hx.1) (0#32) _ hr2 w hw)) ?_
  refine W.q rfl rfl rfl rfl (by decide) (Yd.as rfl (.t rfl)) ?_
  refine W.end ?_
  refine NX.sub (env' := [(1, _), (6, _)]) ⟨rfl, rfl, trivial⟩ ?_
  refine NX.then ?_
  refine Tr.seq ?_
  refine Tr.region_f (fun _ => false) ?_
  refine W.q rfl rfl rfl rfl (by decide) (Yd.mv rfl (.t rfl)) ?_
  refine W.q rfl rfl rfl rfl (by decide) (Yd.neq rfl (.t rfl) .c) ?_
  refine W.end ?_
  refine NX.sub (env' := [(1, _), (6, _), (11, _)]) ⟨rfl, rfl, rfl, trivial⟩ ?_
  refine NX.then ?_
  refine Tr.cond (.t rfl) (fun hb => ?_) (fun hb => ?_)
  · have hr := cond_t hb hr
    refine Tr.seq ?_
    refine Tr.region_f (fun _ => false) ?_
    refine W.q rfl rfl rfl rfl (by decide) (Yd.mv rfl (.t rfl)) ?_
    refine W.q rfl rfl rfl rfl (by decide) (Yd.as rfl .c) ?_
    refine W.q rfl rfl rfl rfl (by decide) (Yd.as rfl (.t rfl)) ?_
    refine W.end ?_
    refine NX.sub (env' := [(4, _), (5, _)]) ⟨rfl, rfl, trivial⟩ ?_
    refine NX.then ?_
    refine Tr.ret' (RT.then ?_)
    refine res2 rfl rfl rfl ?_
    intro w hc
    cases hr
    exact ⟨rfl, hc⟩
  · have hr := cond_f hb hr
    refine Tr.skip' ?_
    refine NX.then ?_
    refine Tr.seq ?_
    obtain ⟨r3, hr4, hr⟩ := bind_some hr
    obtain ⟨r8, hr9, hr⟩ := bind_some hr
    refine Tr.region_f (fun i => Nat.beq i 1) ?_
    refine W.q rfl rfl rfl rfl (by decide) (Yd.mv rfl (.t rfl)) ?_
    refine W.e rfl rfl rfl rfl (by decide) (Ef.call (R := fun z x' => ∃ u5 : Value, ∃ m6 : Snap, z = u5 ∧ x' = ⟨m6, l⟩ ∧ Sle m m6 ∧ P78 m6 u5 r3) rfl Try.func50 rfl rfl (.cons (.t rfl) .nil) (fun w hw => (sums_build_ok w0 _ _ _ _ hasked_1 _ hr4 w hw).mono fun e w' ⟨u5, m6, he, hm', hu7, hc'⟩ => ⟨_, _, he, ⟨u5, m6, rfl, rfl, hm', hu7⟩, hc'⟩)) ?_
    rintro u5 _ ⟨_, m6, rfl, rfl, hsm6, hu7⟩
    have hasked_1 := hasked_1.mono hsm6
    refine ⟨.inl rfl, ?_⟩
    refine W.cast (m' := m6) (l' := l) rfl rfl ?_
    refine W.q rfl rfl rfl rfl (by decide) (Yd.call (v := .int .u32 (r8.toNat : Int)) rfl Try.func52 rfl rfl (.cons (.t rfl) .nil) (fun x' hx w hw => sums_base_told_ok w0 x'.m x'.l _ _ (hu7.mono hx.1) _ hr9 w hw)) ?_
    refine W.q rfl rfl rfl rfl (by decide) (Yd.as rfl (.t rfl)) ?_
    refine W.q rfl rfl rfl rfl (by decide) (Yd.as rfl .c) ?_
    refine W.end ?_
    refine NX.sub (env' := [(4, _), (5, _)]) ⟨rfl, rfl, trivial⟩ ?_
    refine NX.then ?_
    refine Tr.ret' ?_
    refine res2 rfl rfl rfl ?_
    intro w hc
    cases hr
    exact ⟨rfl, (cX_le (x := ⟨m, _⟩) ⟨hsm6, [], rfl⟩ hc)⟩

def syllogistref_Fits (n_0 : Int) (s_1 : (BitVec 32)) : Option (Bool) :=
  some (((decide (n_0 ≥ (32 : Int))) || ((decide (n_0 ≥ (0 : Int))) && (decide (s_1 < (1#32 <<< ((BitVec.ofInt 64 n_0)).toNat))))))

set_option maxRecDepth 100000 in
set_option maxHeartbeats 4000000 in
theorem syllogistref_Fits_ok (w0 : World) (m : Snap) (l : List HI) (n_0 : Int) (s_1 : (BitVec 32)) (r : Bool) (hr : syllogistref_Fits n_0 s_1 = some r) (w : World) (hc : cX w0 ⟨m, l⟩ w) :
    Calls Try.prog 45 [.int .i64 n_0, .int .u32 (s_1.toNat : Int)].toArray w fun e w' => e = .returned (.bool r) ∧ cX w0 ⟨m, l⟩ w' := by
  unfold syllogistref_Fits at hr
  refine calls_of_Tr (N := 18) Try.func45 rfl hc rfl (Nat.le_of_ble_eq_true rfl) ?_
  refine Tr.seq ?_
  refine Tr.region_f (fun _ => false) ?_
  refine W.q rfl rfl rfl rfl (by decide) (Yd.as rfl .c) ?_
  refine W.end ?_
  refine NX.sub (env' := [(0, _), (1, _)]) ⟨rfl, rfl, trivial⟩ ?_
  refine NX.then ?_
  refine Tr.seq ?_
  refine Tr.region_f (fun _ => false) ?_
  refine W.q rfl rfl rfl rfl (by decide) (Yd.mv rfl (.t rfl)) ?_
  refine W.q rfl rfl rfl rfl (by decide) (Yd.geq rfl (.t rfl) .c) ?_
  refine W.q rfl rfl rfl rfl (by decide) (Yd.mv rfl (.t rfl)) ?_
  refine W.g rfl rfl rfl rfl rfl (.t rfl _) rfl (by decide) (fun hG => Yd.mv rfl (.t rfl)) ?_
  refine W.g rfl rfl rfl rfl rfl (.t rfl _) rfl (by decide) (fun hG => Yd.geq rfl (.g rfl hG) .c) ?_
  refine W.g rfl rfl rfl rfl rfl (.t rfl _) rfl (by decide) (fun hG => Yd.mv rfl (.g rfl hG)) ?_
  refine W.g rfl rfl rfl rfl rfl (.g rfl _) rfl (by decide) (fun hG => Yd.mv rfl (.t rfl)) ?_
  refine W.g rfl rfl rfl rfl rfl (.g rfl _) rfl (by decide) (fun hG => Yd.mv rfl (.t rfl)) ?_
  refine W.g rfl rfl rfl rfl rfl (.g rfl _) rfl (by decide) (fun hG => Yd.cvQ rfl US3 Try.underlying72 (.g rfl hG)) ?_
  refine W.g rfl rfl rfl rfl rfl (.g rfl _) rfl (by decide) (fun hG => Yd.shlU (a := 1#32) rfl .c (.g rfl hG) (Int.natCast_nonneg _)) ?_
  refine W.g rfl rfl rfl rfl rfl (.g rfl _) rfl (by decide) (fun hG => Yd.lssU (a := s_1) (b := (1#32 <<< ((BitVec.ofInt 64 n_0)).toNat)) rfl (.g rfl hG) (.g rfl hG)) ?_
  refine W.g rfl rfl rfl rfl rfl (.t rfl _) rfl (by decide) (fun hG => Yd.andG rfl (.g rfl hG) .c rfl rfl hG) ?_
  refine W.q rfl rfl rfl rfl (by decide) (Yd.or rfl (.t rfl) .c rfl rfl) ?_
  refine W.q rfl rfl rfl rfl (by decide) (Yd.as rfl (.t rfl)) ?_
  refine W.end ?_
  refine NX.sub (env' := [(4, _)]) ⟨rfl, trivial⟩ ?_
  refine NX.then ?_
  refine Tr.ret' ?_
  refine res1 rfl rfl ?_
  intro w hc
  cases hr
  exact ⟨rfl, hc⟩

def syllogistref_AskedCheck_k3 (n_0 : Int) (s_2 : (BitVec 32)) : Option (Int) :=
  (syllogistref_Fits n_0 s_2).bind fun r5 =>
  (bif (!r5) then
  some ((4 : Int))
  else
  some ((0 : Int)))

def syllogistref_AskedCheck_b9 (n_0 : Int) (asked_1 : List (BitVec 32)) (t_8 : Int) (nx10 : Unit → Option (Int)) : Option (Int) :=
  (geti asked_1 t_8).bind fun y12 =>
  (syllogistref_Fits n_0 y12).bind fun r14 =>
  (bif (!r14) then
  some ((4 : Int))
  else
  nx10 ())

def syllogistref_AskedCheck (n_0 : Int) (asked_1 : List (BitVec 32)) (s_2 : (BitVec 32)) : Option (Int) :=
  (bif (((decide (n_0 < (1 : Int))) || (decide (n_0 > (8 : Int)))) || (decide ((asked_1.length : Int) > (12 : Int)))) then
  some ((1 : Int))
  else
  forK (σ := Unit) (fun i s nx_ => syllogistref_AskedCheck_b9 n_0 asked_1 i nx_) (fun _ => syllogistref_AskedCheck_k3 n_0 s_2) ((asked_1.length : Int) - (0 : Int)).toNat (0 : Int) ())

set_option maxRecDepth 100000 in
set_option maxHeartbeats 4000000 in
theorem syllogistref_AskedCheck_ok (w0 : World) (m : Snap) (l : List HI) (n_0 : Int) (uasked_1 : Value) (asked_1 : List (BitVec 32)) (hasked_1 : RS rU m uasked_1 asked_1) (s_2 : (BitVec 32)) (r : Int) (hr : syllogistref_AskedCheck n_0 asked_1 s_2 = some r) (w : World) (hc : cX w0 ⟨m, l⟩ w) :
    Calls Try.prog 27 [.int .i64 n_0, uasked_1, .int .u32 (s_2.toNat : Int)].toArray w fun e w' => e = .returned (.int .i64 r) ∧ cX w0 ⟨m, l⟩ w' := by
  unfold syllogistref_AskedCheck at hr
  refine calls_of_Tr (N := 35) Try.func27 rfl hc rfl (Nat.le_of_ble_eq_true rfl) ?_
  refine Tr.seq ?_
  refine Tr.region_f (fun _ => false) ?_
  refine W.q rfl rfl rfl rfl (by decide) (Yd.as rfl .c) ?_
  refine W.end ?_
  refine NX.sub (env' := [(0, _), (1, _), (2, _)]) ⟨rfl, rfl, rfl, trivial⟩ ?_
  refine NX.then ?_
  refine Tr.seq ?_
  refine Tr.seq ?_
  refine Tr.region_f (fun _ => false) ?_
  refine W.q rfl rfl rfl rfl (by decide) (Yd.mv rfl (.t rfl)) ?_
  refine W.q rfl rfl rfl rfl (by decide) (Yd.lss rfl (.t rfl) .c) ?_
  refine W.q rfl rfl rfl rfl (by decide) (Yd.mv rfl (.t rfl)) ?_
  refine W.g rfl rfl rfl rfl rfl (.t rfl _) rfl (by decide) (fun hG => Yd.mv rfl (.t rfl)) ?_
  refine W.g rfl rfl rfl rfl rfl (.t rfl _) rfl (by decide) (fun hG => Yd.gtr rfl (.g rfl hG) .c) ?_
  refine W.q rfl rfl rfl rfl (by decide) (Yd.or rfl (.t rfl) .c rfl rfl) ?_
  refine W.q rfl rfl rfl rfl (by decide) (Yd.mv rfl (.t rfl)) ?_
  refine W.g rfl rfl rfl rfl rfl (.t rfl _) rfl (by decide) (fun hG => Yd.mv rfl (.t rfl)) ?_
  refine W.g rfl rfl rfl rfl rfl (.t rfl _) rfl (by decide) (fun hG => Yd.lenR hasked_1 rfl Try.underlying42 (.g rfl hG)) ?_
  refine W.g rfl rfl rfl rfl rfl (.t rfl _) rfl (by decide) (fun hG => Yd.gtr rfl (.g rfl hG) .c) ?_
  refine W.q rfl rfl rfl rfl (by decide) (Yd.or rfl (.t rfl) .c rfl rfl) ?_
  refine W.end ?_
  refine NX.sub (env' := [(0, _), (1, _), (2, _), (19, _)]) ⟨rfl, rfl, rfl, rfl, trivial⟩ ?_
  refine NX.then ?_
  refine Tr.cond (.t rfl) (fun hb => ?_) (fun hb => ?_)
  · have hr := cond_t hb hr
    refine Tr.seq ?_
    refine Tr.region_f (fun _ => false) ?_
    refine W.q rfl rfl rfl rfl (by decide) (Yd.as rfl .c) ?_
    refine W.end ?_
    refine NX.sub (env' := [(6, _)]) ⟨rfl, trivial⟩ ?_
    refine NX.then ?_
    refine Tr.ret' (RT.then ?_)
    refine res1 rfl rfl ?_
    intro w hc
    cases hr
    exact ⟨rfl, hc⟩
  · have hr := cond_f hb hr
    refine Tr.skip' ?_
    refine NX.then ?_
    refine Tr.seq ?_
    refine Tr.seq ?_
    refine Tr.region_f (fun _ => false) ?_
    refine W.q rfl rfl rfl rfl (by decide) (Yd.mv rfl (.t rfl)) ?_
    refine W.q rfl rfl rfl rfl (by decide) (Yd.lenR hasked_1 rfl Try.underlying42 (.t rfl)) ?_
    refine W.q rfl rfl rfl rfl (by decide) (Yd.mv rfl .c) ?_
    refine W.end ?_
    refine NX.sub (env' := [(0, _), (2, _), (20, _), (21, _), (22, _)]) ⟨rfl, rfl, rfl, rfl, rfl, trivial⟩ ?_
    refine NX.then ?_
    refine Tr.join (S := fun env x => env = [(0, .int .i64 n_0), (2, .int .u32 (s_2.toNat : Int))] ∧ x = ⟨m, l⟩ ∧ syllogistref_AskedCheck_k3 n_0 s_2 = some r) ?_ (fun hk4 => ?_)
    · rintro _ _ ⟨rfl, rfl, hr⟩
      unfold syllogistref_AskedCheck_k3 at hr
      try dsimp only at hr
      refine NX.then ?_
      refine Tr.seq ?_
      refine Tr.seq ?_
      obtain ⟨r5, hr6, hr⟩ := bind_some hr
      refine Tr.region_f (fun _ => false) ?_
      refine W.q rfl rfl rfl rfl (by decide) (Yd.mv rfl (.t rfl)) ?_
      refine W.q rfl rfl rfl rfl (by decide) (Yd.mv rfl (.t rfl)) ?_
      refine W.q rfl rfl rfl rfl (by decide) (Yd.call (v := .bool r5) rfl Try.func45 rfl rfl (.cons (.t rfl) (.cons (.t rfl) .nil)) (fun x' hx w hw => syllogistref_Fits_ok w0 x'.m x'.l n_0 s_2 _ hr6 w hw)) ?_
      refine W.q rfl rfl rfl rfl (by decide) (Yd.not rfl (.t rfl)) ?_
      refine W.end ?_
      refine NX.sub (env' := [(34, _)]) ⟨rfl, trivial⟩ ?_
      refine NX.then ?_
      refine Tr.cond (.t rfl) (fun hb => ?_) (fun hb => ?_)
      · have hr := cond_t hb hr
        refine Tr.seq ?_
        refine Tr.region_f (fun _ => false) ?_
        refine W.q rfl rfl rfl rfl (by decide) (Yd.as rfl .c) ?_
        refine W.end ?_
        refine NX.sub (env' := [(6, _)]) ⟨rfl, trivial⟩ ?_
        refine NX.then ?_
        refine Tr.ret' (RT.then ?_)
        refine res1 rfl rfl ?_
        intro w hc
        cases hr
        exact ⟨rfl, hc⟩
      · have hr := cond_f hb hr
        refine Tr.skip' ?_
        refine NX.then ?_
        refine Tr.seq ?_
        refine Tr.region_f (fun _ => false) ?_
        refine W.q rfl rfl rfl rfl (by decide) (Yd.as rfl .c) ?_
        refine W.end ?_
        refine NX.sub (env' := [(6, _)]) ⟨rfl, trivial⟩ ?_
        refine NX.then ?_
        refine Tr.ret' ?_
        refine res1 rfl rfl ?_
        intro w hc
        cases hr
        exact ⟨rfl, hc⟩
    have hlen7 := (hasked_1).2.1
    refine Tr.block ?_
    refine Tr.sub (env' := [(0, _), (2, _), (20, _), (21, _), (22, _)]) ⟨rfl, rfl, rfl, rfl, rfl, trivial⟩ ?_
    refine Tr.loop (S := fun n (z : Int × Unit) env x => match z with | (t_8, _) => env = [(0, .int .i64 n_0), (2, .int .u32 (s_2.toNat : Int)), (20, uasked_1), (21, .int .i64 ((asked_1.length : Int))), (22, .int .i64 t_8)] ∧ x = ⟨m, l⟩ ∧ n = ((asked_1.length : Int) - t_8).toNat ∧ 0 ≤ t_8 ∧ forK (σ := Unit) (fun i s nx_ => syllogistref_AskedCheck_b9 n_0 asked_1 i nx_) (fun _ => syllogistref_AskedCheck_k3 n_0 s_2) n t_8 () = some r) _ ((0 : Int), ()) ⟨rfl, rfl, rfl, (by omega), hr⟩ ?_
    rintro n11 ⟨t_8, _⟩ env x ⟨rfl, rfl, hnt_8, h0t_8, hr⟩
    cases n11 with
    | zero =>
      simp only [forK] at hr
      refine Tr.seq ?_
      refine Tr.region_f (fun _ => false) ?_
      refine W.q rfl rfl rfl rfl (by decide) (Yd.lss rfl (.t rfl) (.t rfl)) ?_
      refine W.end ?_
      refine NX.sub (env' := [(0, _), (2, _), (20, _), (21, _), (22, _), (23, _)]) ⟨rfl, rfl, rfl, rfl, rfl, rfl, trivial⟩ ?_
      refine NX.then ?_
      refine Tr.seq ?_
      refine Tr.cond (.t rfl) (fun hb => ?_) (fun hb => ?_)
      · exact absurd (hb.symm.trans (fr_end hnt_8)) (by decide)
      ·
        refine Tr.exit' (EX.then (EX.then (EX.block ?_)))
        refine NX.sub (env' := [(0, _), (2, _)]) ⟨rfl, rfl, trivial⟩ ?_
        exact hk4 _ _ ⟨rfl, rfl, hr⟩
    | succ n11 =>
      obtain ⟨nx10, hnx10, hr⟩ := forK_succ hr
      try dsimp only at hr
      unfold syllogistref_AskedCheck_b9 at hr
      try dsimp only at hr
      have hltt_8 := fr_bnd hnt_8
      refine Tr.seq ?_
      refine Tr.region_f (fun _ => false) ?_
      refine W.q rfl rfl rfl rfl (by decide) (Yd.lss rfl (.t rfl) (.t rfl)) ?_
      refine W.end ?_
      refine NX.sub (env' := [(0, _), (2, _), (20, _), (21, _), (22, _), (23, _)]) ⟨rfl, rfl, rfl, rfl, rfl, rfl, trivial⟩ ?_
      refine NX.then ?_
      refine Tr.seq ?_
      refine Tr.cond (.t rfl) (fun hb => ?_) (fun hb => ?_)
      rotate_left
      · exact absurd (hb.symm.trans (fr_go hnt_8)) (by decide)
      ·
        refine Tr.skip' ?_
        refine NX.then ?_
        refine Tr.seq ?_
        refine Tr.block ?_
        refine Tr.seq ?_
        obtain ⟨y12, hy13, hr⟩ := bind_some hr
        refine Tr.region_f (fun _ => false) ?_
        refine W.q rfl rfl rfl rfl (by decide) (Yd.idxR hasked_1 hy13 rfl Try.underlying42 SZ23 (.t rfl) (.t rfl)) ?_
        refine W.q rfl rfl rfl rfl (by decide) (Yd.ldF hasked_1 (.refl _) hy13 rfl rfl ON23 (.t rfl)) ?_
        refine W.q rfl rfl rfl rfl (by decide) (Yd.as rfl (.t rfl)) ?_
        refine W.end ?_
        refine NX.sub (env' := [(0, _), (2, _), (20, _), (21, _), (22, _), (8, _)]) ⟨rfl, rfl, rfl, rfl, rfl, rfl, trivial⟩ ?_
        refine NX.then ?_
        refine Tr.seq ?_
        obtain ⟨r14, hr15, hr⟩ := bind_some hr
        refine Tr.region_f (fun _ => false) ?_
        refine W.q rfl rfl rfl rfl (by decide) (Yd.mv rfl (.t rfl)) ?_
        refine W.q rfl rfl rfl rfl (by decide) (Yd.mv rfl (.t rfl)) ?_
        refine W.q rfl rfl rfl rfl (by decide) (Yd.call (v := .bool r14) rfl Try.func45 rfl rfl (.cons (.t rfl) (.cons (.t rfl) .nil)) (fun x' hx w hw => syllogistref_Fits_ok w0 x'.m x'.l n_0 y12 _ hr15 w hw)) ?_
        refine W.q rfl rfl rfl rfl (by decide) (Yd.not rfl (.t rfl)) ?_
        refine W.end ?_
        refine NX.sub (env' := [(0, _), (2, _), (20, _), (21, _), (22, _), (29, _)]) ⟨rfl, rfl, rfl, rfl, rfl, rfl, trivial⟩ ?_
        refine NX.then ?_
        refine Tr.cond (.t rfl) (fun hb => ?_) (fun hb => ?_)
        · have hr := cond_t hb hr
          refine Tr.seq ?_
          refine Tr.region_f (fun _ => false) ?_
          refine W.q rfl rfl rfl rfl (by decide) (Yd.as rfl .c) ?_
          refine W.end ?_
          refine NX.sub (env' := [(6, _)]) ⟨rfl, trivial⟩ ?_
          refine NX.then ?_
          refine Tr.ret' (RT.block (RT.then (RT.then (RT.block (RT.then ?_)))))
          refine res1 rfl rfl ?_
          intro w hc
          cases hr
          exact ⟨rfl, hc⟩
        · have hr := cond_f hb hr
          refine Tr.skip' ?_
          refine NX.block ?_
          refine NX.then ?_
          refine Tr.region_f (fun _ => false) ?_
          refine W.q rfl rfl rfl rfl (by decide) (Yd.add rfl (.t rfl) .c) ?_
          refine W.q rfl rfl rfl rfl (by decide) (Yd.mv rfl (.t rfl)) ?_
          refine W.end ?_
          refine NX.sub (env' := [(0, _), (2, _), (20, _), (21, _), (22, _)]) ⟨rfl, rfl, rfl, rfl, rfl, trivial⟩ ?_
          refine NX.sub (env' := [(0, _), (2, _), (20, _), (21, _), (22, _)]) ⟨rfl, rfl, rfl, rfl, rfl, trivial⟩ ?_
          have hw := w64_id (n := t_8 + 1) (by omega) (by omega)
          exact NX.again n11 (t_8 + 1, ()) (Nat.lt_succ_self _) ⟨(by rw [hw] <;> rfl), rfl, (fr_dec hnt_8), (by omega), ((hnx10 _).symm.trans hr)⟩

def syllogistref_Bit (w_0 : (BitVec 32)) (i_1 : Int) : Option (Bool) :=
  some ((((decide (i_1 ≥ (0 : Int))) && (decide (i_1 < (32 : Int)))) && ((w_0 &&& (1#32 <<< ((BitVec.ofInt 64 i_1)).toNat)) != 0#32)))

set_option maxRecDepth 100000 in
set_option maxHeartbeats 4000000 in
theorem syllogistref_Bit_ok (w0 : World) (m : Snap) (l : List HI) (w_0 : (BitVec 32)) (i_1 : Int) (r : Bool) (hr : syllogistref_Bit w_0 i_1 = some r) (w : World) (hc : cX w0 ⟨m, l⟩ w) :
    Calls Try.prog 17 [.int .u32 (w_0.toNat : Int), .int .i64 i_1].toArray w fun e w' => e = .returned (.bool r) ∧ cX w0 ⟨m, l⟩ w' := by
  unfold syllogistref_Bit at hr
  refine calls_of_Tr (N := 19) Try.func17 rfl hc rfl (Nat.le_of_ble_eq_true rfl) ?_
  refine Tr.seq ?_
  refine Tr.region_f (fun _ => false) ?_
  refine W.q rfl rfl rfl rfl (by decide) (Yd.as rfl .c) ?_
  refine W.end ?_
  refine NX.sub (env' := [(0, _), (1, _)]) ⟨rfl, rfl, trivial⟩ ?_
  refine NX.then ?_
  refine Tr.seq ?_
  refine Tr.region_f (fun _ => false) ?_
  refine W.q rfl rfl rfl rfl (by decide) (Yd.mv rfl (.t rfl)) ?_
  refine W.q rfl rfl rfl rfl (by decide) (Yd.geq rfl (.t rfl) .c) ?_
  refine W.q rfl rfl rfl rfl (by decide) (Yd.mv rfl (.t rfl)) ?_
  refine W.g rfl rfl rfl rfl rfl (.t rfl _) rfl (by decide) (fun hG => Yd.mv rfl (.t rfl)) ?_
  refine W.g rfl rfl rfl rfl rfl (.t rfl _) rfl (by decide) (fun hG => Yd.lss rfl (.g rfl hG) .c) ?_
  refine W.q rfl rfl rfl rfl (by decide) (Yd.and rfl (.t rfl) .c rfl rfl) ?_
  refine W.q rfl rfl rfl rfl (by decide) (Yd.mv rfl (.t rfl)) ?_
  refine W.g rfl rfl rfl rfl rfl (.t rfl _) rfl (by decide) (fun hG => Yd.mv rfl (.t rfl)) ?_
  refine W.g rfl rfl rfl rfl rfl (.t rfl _) rfl (by decide) (fun hG => Yd.mv rfl (.t rfl)) ?_
  refine W.g rfl rfl rfl rfl rfl (.t rfl _) rfl (by decide) (fun hG => Yd.cvQ rfl US3 Try.underlying72 (.g rfl hG)) ?_
  refine W.g rfl rfl rfl rfl rfl (.t rfl _) rfl (by decide) (fun hG => Yd.shlU (a := 1#32) rfl .c (.g rfl hG) (Int.natCast_nonneg _)) ?_
  refine W.g rfl rfl rfl rfl rfl (.t rfl _) rfl (by decide) (fun hG => Yd.andU (a := w_0) (b := (1#32 <<< ((BitVec.ofInt 64 i_1)).toNat)) rfl (.g rfl hG) (.g rfl hG)) ?_
  refine W.g rfl rfl rfl rfl rfl (.t rfl _) rfl (by decide) (fun hG => Yd.neqU (a := (w_0 &&& (1#32 <<< ((BitVec.ofInt 64 i_1)).toNat))) (b := 0#32) rfl (.g rfl hG) .c) ?_
  refine W.q rfl rfl rfl rfl (by decide) (Yd.and rfl (.t rfl) .c rfl rfl) ?_
  refine W.q rfl rfl rfl rfl (by decide) (Yd.as rfl (.t rfl)) ?_
  refine W.end ?_
  refine NX.sub (env' := [(4, _)]) ⟨rfl, trivial⟩ ?_
  refine NX.then ?_
  refine Tr.ret' ?_
  refine res1 rfl rfl ?_
  intro w hc
  cases hr
  exact ⟨rfl, hc⟩

def syllogistref_Sum_k6 (s_5 : BitVec 32) : Option ((BitVec 32)) :=
  some s_5

def syllogistref_Sum_b10 (asked_0 : List (BitVec 32)) (by_1 : (BitVec 32)) (t_9 : Int) (s_3 : BitVec 32) (nx11 : (BitVec 32) → Option ((BitVec 32))) : Option ((BitVec 32)) :=
  (geti asked_0 t_9).bind fun y13 =>
  (syllogistref_Bit by_1 t_9).bind fun r15 =>
  (bif r15 then
  nx11 (s_3 ^^^ y13)
  else
  nx11 s_3)

def syllogistref_Sum (asked_0 : List (BitVec 32)) (by_1 : (BitVec 32)) : Option ((BitVec 32)) :=
  forK (σ := (BitVec 32)) (fun i s nx_ => syllogistref_Sum_b10 asked_0 by_1 i s nx_) (fun s => syllogistref_Sum_k6 s) ((asked_0.length : Int) - (0 : Int)).toNat (0 : Int) (0#32)

set_option maxRecDepth 100000 in
set_option maxHeartbeats 4000000 in
theorem syllogistref_Sum_ok (w0 : World) (m : Snap) (l : List HI) (uasked_0 : Value) (asked_0 : List (BitVec 32)) (hasked_0 : RS rU m uasked_0 asked_0) (by_1 : (BitVec 32)) (r : (BitVec 32)) (hr : syllogistref_Sum asked_0 by_1 = some r) (w : World) (hc : cX w0 ⟨m, l⟩ w) :
    Calls Try.prog 57 [uasked_0, .int .u32 (by_1.toNat : Int)].toArray w fun e w' => e = .returned (.int .u32 (r.toNat : Int)) ∧ cX w0 ⟨m, l⟩ w' := by
  unfold syllogistref_Sum at hr
  refine calls_of_Tr (N := 23) Try.func57 rfl hc rfl (Nat.le_of_ble_eq_true rfl) ?_
  refine Tr.seq ?_
  refine Tr.region_f (fun _ => false) ?_
  refine W.q rfl rfl rfl rfl (by decide) (Yd.as rfl .c) ?_
  refine W.end ?_
  refine NX.sub (env' := [(0, _), (1, _)]) ⟨rfl, rfl, trivial⟩ ?_
  refine NX.then ?_
  refine Tr.seq ?_
  refine Tr.region_f (fun _ => false) ?_
  refine W.q rfl rfl rfl rfl (by decide) (Yd.as rfl .c) ?_
  refine W.end ?_
  refine NX.sub (env' := [(0, _), (1, _), (5, _)]) ⟨rfl, rfl, rfl, trivial⟩ ?_
  refine NX.then ?_
  refine Tr.seq ?_
  refine Tr.seq ?_
  refine Tr.region_f (fun _ => false) ?_
  refine W.q rfl rfl rfl rfl (by decide) (Yd.mv rfl (.t rfl)) ?_
  refine W.q rfl rfl rfl rfl (by decide) (Yd.lenR hasked_0 rfl Try.underlying42 (.t rfl)) ?_
  refine W.q rfl rfl rfl rfl (by decide) (Yd.mv rfl .c) ?_
  refine W.end ?_
  refine NX.sub (env' := [(1, _), (5, _), (8, _), (9, _), (10, _)]) ⟨rfl, rfl, rfl, rfl, rfl, trivial⟩ ?_
  refine NX.then ?_
  refine Tr.join (S := fun env x => ∃ s_5 : BitVec 32, env = [(5, .int .u32 (s_5.toNat : Int))] ∧ x = ⟨m, l⟩ ∧ syllogistref_Sum_k6 s_5 = some r) ?_ (fun hk7 => ?_)
  · rintro _ _ ⟨s_5, rfl, rfl, hr⟩
    unfold syllogistref_Sum_k6 at hr
    try dsimp only at hr
    refine NX.then ?_
    refine Tr.seq ?_
    refine Tr.region_f (fun _ => false) ?_
    refine W.q rfl rfl rfl rfl (by decide) (Yd.mv rfl (.t rfl)) ?_
    refine W.q rfl rfl rfl rfl (by decide) (Yd.as rfl (.t rfl)) ?_
    refine W.end ?_
    refine NX.sub (env' := [(4, _)]) ⟨rfl, trivial⟩ ?_
    refine NX.then ?_
    refine Tr.ret' ?_
    refine res1 rfl rfl ?_
    intro w hc
    cases hr
    exact ⟨rfl, hc⟩
  have hlen8 := (hasked_0).2.1
  refine Tr.block ?_
  refine Tr.sub (env' := [(1, _), (5, _), (8, _), (9, _), (10, _)]) ⟨rfl, rfl, rfl, rfl, rfl, trivial⟩ ?_
  refine Tr.loop (S := fun n (z : Int × (BitVec 32)) env x => match z with | (t_9, s_3) => env = [(1, .int .u32 (by_1.toNat : Int)), (5, .int .u32 (s_3.toNat : Int)), (8, uasked_0), (9, .int .i64 ((asked_0.length : Int))), (10, .int .i64 t_9)] ∧ x = ⟨m, l⟩ ∧ n = ((asked_0.length : Int) - t_9).toNat ∧ 0 ≤ t_9 ∧ forK (σ := (BitVec 32)) (fun i s nx_ => syllogistref_Sum_b10 asked_0 by_1 i s nx_) (fun s => syllogistref_Sum_k6 s) n t_9 s_3 = some r) _ ((0 : Int), 0#32) ⟨rfl, rfl, rfl, (by omega), hr⟩ ?_
  rintro n12 ⟨t_9, s_3⟩ env x ⟨rfl, rfl, hnt_9, h0t_9, hr⟩
  cases n12 with
  | zero =>
    simp only [forK] at hr
    refine Tr.seq ?_
    refine Tr.region_f (fun _ => false) ?_
    refine W.q rfl rfl rfl rfl (by decide) (Yd.lss rfl (.t rfl) (.t rfl)) ?_
    refine W.end ?_
    refine NX.sub (env' := [(1, _), (5, _), (8, _), (9, _), (10, _), (11, _)]) ⟨rfl, rfl, rfl, rfl, rfl, rfl, trivial⟩ ?_
    refine NX.then ?_
    refine Tr.seq ?_
    refine Tr.cond (.t rfl) (fun hb => ?_) (fun hb => ?_)
    · exact absurd (hb.symm.trans (fr_end hnt_9)) (by decide)
    ·
      refine Tr.exit' (EX.then (EX.then (EX.block ?_)))
      refine NX.sub (env' := [(5, _)]) ⟨rfl, trivial⟩ ?_
      exact hk7 _ _ ⟨_, rfl, rfl, hr⟩
  | succ n12 =>
    obtain ⟨nx11, hnx11, hr⟩ := forK_succ hr
    try dsimp only at hr
    unfold syllogistref_Sum_b10 at hr
    try dsimp only at hr
    have hltt_9 := fr_bnd hnt_9
    refine Tr.seq ?_
    refine Tr.region_f (fun _ => false) ?_
    refine W.q rfl rfl rfl rfl (by decide) (Yd.lss rfl (.t rfl) (.t rfl)) ?_
    refine W.end ?_
    refine NX.sub (env' := [(1, _), (5, _), (8, _), (9, _), (10, _), (11, _)]) ⟨rfl, rfl, rfl, rfl, rfl, rfl, trivial⟩ ?_
    refine NX.then ?_
    refine Tr.seq ?_
    refine Tr.cond (.t rfl) (fun hb => ?_) (fun hb => ?_)
    rotate_left
    · exact absurd (hb.symm.trans (fr_go hnt_9)) (by decide)
    ·
      refine Tr.skip' ?_
      refine NX.then ?_
      refine Tr.seq ?_
      refine Tr.block ?_
      refine Tr.seq ?_
      obtain ⟨y13, hy14, hr⟩ := bind_some hr
      refine Tr.region_f (fun _ => false) ?_
      refine W.q rfl rfl rfl rfl (by decide) (Yd.mv rfl (.t rfl)) ?_
      refine W.q rfl rfl rfl rfl (by decide) (Yd.idxR hasked_0 hy14 rfl Try.underlying42 SZ23 (.t rfl) (.t rfl)) ?_
      refine W.q rfl rfl rfl rfl (by decide) (Yd.ldF hasked_0 (.refl _) hy14 rfl rfl ON23 (.t rfl)) ?_
      refine W.q rfl rfl rfl rfl (by decide) (Yd.as rfl (.t rfl)) ?_
      refine W.q rfl rfl rfl rfl (by decide) (Yd.as rfl (.t rfl)) ?_
      refine W.end ?_
      refine NX.sub (env' := [(1, _), (5, _), (8, _), (9, _), (10, _), (6, _), (7, _)]) ⟨rfl, rfl, rfl, rfl, rfl, rfl, rfl, trivial⟩ ?_
      refine NX.then ?_
      refine Tr.seq ?_
      obtain ⟨r15, hr16, hr⟩ := bind_some hr
      refine Tr.region_f (fun _ => false) ?_
      refine W.q rfl rfl rfl rfl (by decide) (Yd.mv rfl (.t rfl)) ?_
      refine W.q rfl rfl rfl rfl (by decide) (Yd.mv rfl (.t rfl)) ?_
      refine W.q rfl rfl rfl rfl (by decide) (Yd.call (v := .bool r15) rfl Try.func17 rfl rfl (.cons (.t rfl) (.cons (.t rfl) .nil)) (fun x' hx w hw => syllogistref_Bit_ok w0 x'.m x'.l by_1 t_9 _ hr16 w hw)) ?_
      refine W.end ?_
      refine NX.sub (env' := [(1, _), (5, _), (8, _), (9, _), (10, _), (7, _), (17, _)]) ⟨rfl, rfl, rfl, rfl, rfl, rfl, rfl, trivial⟩ ?_
      refine NX.then ?_
      refine Tr.cond (.t rfl) (fun hb => ?_) (fun hb => ?_)
      · have hr := cond_t hb hr
        refine Tr.region_f (fun _ => false) ?_
        refine W.q rfl rfl rfl rfl (by decide) (Yd.mv rfl (.t rfl)) ?_
        refine W.q rfl rfl rfl rfl (by decide) (Yd.mv rfl (.t rfl)) ?_
        refine W.q rfl rfl rfl rfl (by decide) (Yd.xorU (a := s_3) (b := y13) rfl (.t rfl) (.t rfl)) ?_
        refine W.q rfl rfl rfl rfl (by decide) (Yd.as rfl (.t rfl)) ?_
        refine W.end ?_
        refine NX.sub (env' := [(1, _), (5, _), (8, _), (9, _), (10, _)]) ⟨rfl, rfl, rfl, rfl, rfl, trivial⟩ ?_
        refine NX.block ?_
        refine NX.then ?_
        refine Tr.region_f (fun _ => false) ?_
        refine W.q rfl rfl rfl rfl (by decide) (Yd.add rfl (.t rfl) .c) ?_
        refine W.q rfl rfl rfl rfl (by decide) (Yd.mv rfl (.t rfl)) ?_
        refine W.end ?_
        refine NX.sub (env' := [(1, _), (5, _), (8, _), (9, _), (10, _)]) ⟨rfl, rfl, rfl, rfl, rfl, trivial⟩ ?_
        refine NX.sub (env' := [(1, _), (5, _), (8, _), (9, _), (10, _)]) ⟨rfl, rfl, rfl, rfl, rfl, trivial⟩ ?_
        have hw := w64_id (n := t_9 + 1) (by omega) (by omega)
        exact NX.again n12 (t_9 + 1, (s_3 ^^^ y13)) (Nat.lt_succ_self _) ⟨(by rw [hw] <;> rfl), rfl, (fr_dec hnt_9), (by omega), ((hnx11 _).symm.trans hr)⟩
      · have hr := cond_f hb hr
        refine Tr.skip' ?_
        refine NX.block ?_
        refine NX.then ?_
        refine Tr.region_f (fun _ => false) ?_
        refine W.q rfl rfl rfl rfl (by decide) (Yd.add rfl (.t rfl) .c) ?_
        refine W.q rfl rfl rfl rfl (by decide) (Yd.mv rfl (.t rfl)) ?_
        refine W.end ?_
        refine NX.sub (env' := [(1, _), (5, _), (8, _), (9, _), (10, _)]) ⟨rfl, rfl, rfl, rfl, rfl, trivial⟩ ?_
        refine NX.sub (env' := [(1, _), (5, _), (8, _), (9, _), (10, _)]) ⟨rfl, rfl, rfl, rfl, rfl, trivial⟩ ?_
        have hw := w64_id (n := t_9 + 1) (by omega) (by omega)
        exact NX.again n12 (t_9 + 1, s_3) (Nat.lt_succ_self _) ⟨(by rw [hw] <;> rfl), rfl, (fr_dec hnt_9), (by omega), ((hnx11 _).symm.trans hr)⟩

def syllogistref_By_k3 : Option ((BitVec 32) × Bool) :=
  some ((0#32, false))

def syllogistref_By_b6 (asked_0 : List (BitVec 32)) (s_1 : (BitVec 32)) (by_5 : BitVec 32) (nx7 : Unit → Option ((BitVec 32) × Bool)) : Option ((BitVec 32) × Bool) :=
  (syllogistref_Sum asked_0 by_5).bind fun r9 =>
  (bif (r9 == s_1) then
  some ((by_5, true))
  else
  nx7 ())

def syllogistref_By (asked_0 : List (BitVec 32)) (s_1 : (BitVec 32)) : Option ((BitVec 32) × Bool) :=
  forK (σ := Unit) (fun i s nx_ => syllogistref_By_b6 asked_0 s_1 i nx_) (fun _ => syllogistref_By_k3) (((1#32 <<< ((BitVec.ofInt 64 ((asked_0.length : Int)))).toNat)).toNat - (0#32).toNat) 0#32 ()

set_option maxRecDepth 100000 in
set_option maxHeartbeats 4000000 in
theorem syllogistref_By_ok (w0 : World) (m : Snap) (l : List HI) (uasked_0 : Value) (asked_0 : List (BitVec 32)) (hasked_0 : RS rU m uasked_0 asked_0) (s_1 : (BitVec 32)) (r : (BitVec 32) × Bool) (hr : syllogistref_By asked_0 s_1 = some r) (w : World) (hc : cX w0 ⟨m, l⟩ w) :
    Calls Try.prog 34 [uasked_0, .int .u32 (s_1.toNat : Int)].toArray w fun e w' => e = .returned (.tuple #[.int .u32 (r.1.toNat : Int), .bool r.2]) ∧ cX w0 ⟨m, l⟩ w' := by
  unfold syllogistref_By at hr
  refine calls_of_Tr (N := 21) Try.func34 rfl hc rfl (Nat.le_of_ble_eq_true rfl) ?_
  refine Tr.seq ?_
  refine Tr.region_f (fun _ => false) ?_
  refine W.q rfl rfl rfl rfl (by decide) (Yd.as rfl .c) ?_
  refine W.q rfl rfl rfl rfl (by decide) (Yd.as rfl .c) ?_
  refine W.end ?_
  refine NX.sub (env' := [(0, _), (1, _)]) ⟨rfl, rfl, trivial⟩ ?_
  refine NX.then ?_
  refine Tr.seq ?_
  refine Tr.seq ?_
  refine Tr.region_f (fun _ => false) ?_
  refine W.q rfl rfl rfl rfl (by decide) (Yd.as rfl .c) ?_
  refine W.end ?_
  refine NX.sub (env' := [(0, _), (1, _), (6, _)]) ⟨rfl, rfl, rfl, trivial⟩ ?_
  refine NX.then ?_
  refine Tr.join (S := fun env x => env = [] ∧ x = ⟨m, l⟩ ∧ syllogistref_By_k3 = some r) ?_ (fun hk4 => ?_)
  · rintro _ _ ⟨rfl, rfl, hr⟩
    unfold syllogistref_By_k3 at hr
    try dsimp only at hr
    refine NX.then ?_
    refine Tr.seq ?_
    refine Tr.region_f (fun _ => false) ?_
    refine W.q rfl rfl rfl rfl (by decide) (Yd.as rfl .c) ?_
    refine W.q rfl rfl rfl rfl (by decide) (Yd.as rfl .c) ?_
    refine W.end ?_
    refine NX.sub (env' := [(4, _), (5, _)]) ⟨rfl, rfl, trivial⟩ ?_
    refine NX.then ?_
    refine Tr.ret' ?_
    refine res2 rfl rfl rfl ?_
    intro w hc
    cases hr
    exact ⟨rfl, hc⟩
  refine Tr.block ?_
  refine Tr.sub (env' := [(0, _), (1, _), (6, _)]) ⟨rfl, rfl, rfl, trivial⟩ ?_
  refine Tr.loop (S := fun n (z : BitVec 32 × Unit) env x => match z with | (by_5, _) => env = [(0, uasked_0), (1, .int .u32 (s_1.toNat : Int)), (6, .int .u32 (by_5.toNat : Int))] ∧ x = ⟨m, l⟩ ∧ n = ((1#32 <<< ((BitVec.ofInt 64 ((asked_0.length : Int)))).toNat)).toNat - by_5.toNat ∧ forK (σ := Unit) (fun i s nx_ => syllogistref_By_b6 asked_0 s_1 i nx_) (fun _ => syllogistref_By_k3) n by_5 () = some r) _ (0#32, ()) ⟨rfl, rfl, rfl, hr⟩ ?_
  rintro n8 ⟨by_5, _⟩ env x ⟨rfl, rfl, hnby_5, hr⟩
  cases n8 with
  | zero =>
    simp only [forK] at hr
    refine Tr.seq ?_
    refine Tr.seq ?_
    refine Tr.region_f (fun _ => false) ?_
    refine W.q rfl rfl rfl rfl (by decide) (Yd.mv rfl (.t rfl)) ?_
    refine W.q rfl rfl rfl rfl (by decide) (Yd.mv rfl (.t rfl)) ?_
    refine W.q rfl rfl rfl rfl (by decide) (Yd.lenR hasked_0 rfl Try.underlying42 (.t rfl)) ?_
    refine W.q rfl rfl rfl rfl (by decide) (Yd.cvQ rfl US3 Try.underlying72 (.t rfl)) ?_
    refine W.q rfl rfl rfl rfl (by decide) (Yd.shlU (a := 1#32) rfl .c (.t rfl) (Int.natCast_nonneg _)) ?_
    refine W.q rfl rfl rfl rfl (by decide) (Yd.lssU (a := by_5) (b := (1#32 <<< ((BitVec.ofInt 64 ((asked_0.length : Int)))).toNat)) rfl (.t rfl) (.t rfl)) ?_
    refine W.end ?_
    refine NX.sub (env' := [(0, _), (1, _), (6, _), (12, _)]) ⟨rfl, rfl, rfl, rfl, trivial⟩ ?_
    refine NX.then ?_
    refine Tr.cond (.t rfl) (fun hb => ?_) (fun hb => ?_)
    · exact absurd (hb.symm.trans (fu_end hnby_5)) (by decide)
    ·
      refine Tr.exit' (EX.then (EX.then (EX.block ?_)))
      refine NX.sub (env' := []) trivial ?_
      exact hk4 _ _ ⟨rfl, rfl, hr⟩
  | succ n8 =>
    obtain ⟨nx7, hnx7, hr⟩ := forK_succ hr
    try dsimp only at hr
    unfold syllogistref_By_b6 at hr
    try dsimp only at hr
    refine Tr.seq ?_
    refine Tr.seq ?_
    refine Tr.region_f (fun _ => false) ?_
    refine W.q rfl rfl rfl rfl (by decide) (Yd.mv rfl (.t rfl)) ?_
    refine W.q rfl rfl rfl rfl (by decide) (Yd.mv rfl (.t rfl)) ?_
    refine W.q rfl rfl rfl rfl (by decide) (Yd.lenR hasked_0 rfl Try.underlying42 (.t rfl)) ?_
    refine W.q rfl rfl rfl rfl (by decide) (Yd.cvQ rfl US3 Try.underlying72 (.t rfl)) ?_
    refine W.q rfl rfl rfl rfl (by decide) (Yd.shlU (a := 1#32) rfl .c (.t rfl) (Int.natCast_nonneg _)) ?_
    refine W.q rfl rfl rfl rfl (by decide) (Yd.lssU (a := by_5) (b := (1#32 <<< ((BitVec.ofInt 64 ((asked_0.length : Int)))).toNat)) rfl (.t rfl) (.t rfl)) ?_
    refine W.end ?_
    refine NX.sub (env' := [(0, _), (1, _), (6, _), (12, _)]) ⟨rfl, rfl, rfl, rfl, trivial⟩ ?_
    refine NX.then ?_
    refine Tr.cond (.t rfl) (fun hb => ?_) (fun hb => ?_)
    rotate_left
    · exact absurd (hb.symm.trans (fu_go hnby_5)) (by decide)
    ·
      refine Tr.skip' ?_
      refine NX.then ?_
      refine Tr.seq ?_
      refine Tr.block ?_
      refine Tr.seq ?_
      obtain ⟨r9, hr10, hr⟩ := bind_some hr
      refine Tr.region_f (fun _ => false) ?_
      refine W.q rfl rfl rfl rfl (by decide) (Yd.mv rfl (.t rfl)) ?_
      refine W.q rfl rfl rfl rfl (by decide) (Yd.mv rfl (.t rfl)) ?_
      refine W.q rfl rfl rfl rfl (by decide) (Yd.call (v := .int .u32 (r9.toNat : Int)) rfl Try.func57 rfl rfl (.cons (.t rfl) (.cons (.t rfl) .nil)) (fun x' hx w hw => syllogistref_Sum_ok w0 x'.m x'.l _ _ (hasked_0.mono hx.1) by_5 _ hr10 w hw)) ?_
      refine W.q rfl rfl rfl rfl (by decide) (Yd.mv rfl (.t rfl)) ?_
      refine W.q rfl rfl rfl rfl (by decide) (Yd.eqlU (a := r9) (b := s_1) rfl (.t rfl) (.t rfl)) ?_
      refine W.end ?_
      refine NX.sub (env' := [(0, _), (1, _), (6, _), (19, _)]) ⟨rfl, rfl, rfl, rfl, trivial⟩ ?_
      refine NX.then ?_
      refine Tr.cond (.t rfl) (fun hb => ?_) (fun hb => ?_)
      · have hr := cond_t hb hr
        refine Tr.seq ?_
        refine Tr.region_f (fun _ => false) ?_
        refine W.q rfl rfl rfl rfl (by decide) (Yd.mv rfl (.t rfl)) ?_
        refine W.q rfl rfl rfl rfl (by decide) (Yd.as rfl (.t rfl)) ?_
        refine W.q rfl rfl rfl rfl (by decide) (Yd.as rfl .c) ?_
        refine W.end ?_
        refine NX.sub (env' := [(4, _), (5, _)]) ⟨rfl, rfl, trivial⟩ ?_
        refine NX.then ?_
        refine Tr.ret' (RT.block (RT.then (RT.then (RT.block (RT.then ?_)))))
        refine res2 rfl rfl rfl ?_
        intro w hc
        cases hr
        exact ⟨rfl, hc⟩
      · have hr := cond_f hb hr
        refine Tr.skip' ?_
        refine NX.block ?_
        refine NX.then ?_
        refine Tr.region_f (fun _ => false) ?_
        refine W.q rfl rfl rfl rfl (by decide) (Yd.mv rfl (.t rfl)) ?_
        refine W.q rfl rfl rfl rfl (by decide) (Yd.addU (a := by_5) (b := 1#32) rfl (.t rfl) .c) ?_
        refine W.q rfl rfl rfl rfl (by decide) (Yd.as rfl (.t rfl)) ?_
        refine W.end ?_
        refine NX.sub (env' := [(0, _), (1, _), (6, _)]) ⟨rfl, rfl, rfl, trivial⟩ ?_
        refine NX.sub (env' := [(0, _), (1, _), (6, _)]) ⟨rfl, rfl, rfl, trivial⟩ ?_
        exact NX.again n8 (by_5 + 1, ()) (Nat.lt_succ_self _) ⟨rfl, rfl, (fu_dec hnby_5), ((hnx7 _).symm.trans hr)⟩

def syllogistref_Told_k6 (out_5 : BitVec 32) : Option ((BitVec 32)) :=
  some out_5

def syllogistref_Told_b10 (asked_1 : List (BitVec 32)) (i_9 : Int) (out_3 : BitVec 32) (nx11 : (BitVec 32) → Option ((BitVec 32))) : Option ((BitVec 32)) :=
  (syllogistref_By asked_1 ((1#32 <<< ((BitVec.ofInt 64 i_9)).toNat))).bind fun r13 =>
  (bif r13.2 then
  nx11 (out_3 + (1#32 <<< ((BitVec.ofInt 64 i_9)).toNat))
  else
  nx11 out_3)

def syllogistref_Told (n_0 : Int) (asked_1 : List (BitVec 32)) : Option ((BitVec 32)) :=
  bif decide (n_0 ≤ 9223372036854775807) then
  forK (σ := (BitVec 32)) (fun i s nx_ => syllogistref_Told_b10 asked_1 i s nx_) (fun s => syllogistref_Told_k6 s) (n_0 - (0 : Int)).toNat (0 : Int) (0#32) else none

set_option maxRecDepth 100000 in
set_option maxHeartbeats 4000000 in
theorem syllogistref_Told_ok (w0 : World) (m : Snap) (l : List HI) (n_0 : Int) (uasked_1 : Value) (asked_1 : List (BitVec 32)) (hasked_1 : RS rU m uasked_1 asked_1) (r : (BitVec 32)) (hr : syllogistref_Told n_0 asked_1 = some r) (w : World) (hc : cX w0 ⟨m, l⟩ w) :
    Calls Try.prog 30 [.int .i64 n_0, uasked_1].toArray w fun e w' => e = .returned (.int .u32 (r.toNat : Int)) ∧ cX w0 ⟨m, l⟩ w' := by
  unfold syllogistref_Told at hr
  refine calls_of_Tr (N := 29) Try.func30 rfl hc rfl (Nat.le_of_ble_eq_true rfl) ?_
  refine Tr.seq ?_
  refine Tr.region_f (fun _ => false) ?_
  refine W.q rfl rfl rfl rfl (by decide) (Yd.as rfl .c) ?_
  refine W.end ?_
  refine NX.sub (env' := [(0, _), (1, _)]) ⟨rfl, rfl, trivial⟩ ?_
  refine NX.then ?_
  refine Tr.seq ?_
  refine Tr.region_f (fun _ => false) ?_
  refine W.q rfl rfl rfl rfl (by decide) (Yd.as rfl .c) ?_
  refine W.end ?_
  refine NX.sub (env' := [(0, _), (1, _), (5, _)]) ⟨rfl, rfl, rfl, trivial⟩ ?_
  refine NX.then ?_
  refine Tr.seq ?_
  refine Tr.seq ?_
  refine Tr.region_f (fun _ => false) ?_
  refine W.q rfl rfl rfl rfl (by decide) (Yd.as rfl .c) ?_
  refine W.end ?_
  refine NX.sub (env' := [(0, _), (1, _), (5, _), (6, _)]) ⟨rfl, rfl, rfl, rfl, trivial⟩ ?_
  refine NX.then ?_
  refine Tr.join (S := fun env x => ∃ out_5 : BitVec 32, env = [(5, .int .u32 (out_5.toNat : Int))] ∧ x = ⟨m, l⟩ ∧ syllogistref_Told_k6 out_5 = some r) ?_ (fun hk7 => ?_)
  · rintro _ _ ⟨out_5, rfl, rfl, hr⟩
    unfold syllogistref_Told_k6 at hr
    try dsimp only at hr
    refine NX.then ?_
    refine Tr.seq ?_
    refine Tr.region_f (fun _ => false) ?_
    refine W.q rfl rfl rfl rfl (by decide) (Yd.mv rfl (.t rfl)) ?_
    refine W.q rfl rfl rfl rfl (by decide) (Yd.as rfl (.t rfl)) ?_
    refine W.end ?_
    refine NX.sub (env' := [(4, _)]) ⟨rfl, trivial⟩ ?_
    refine NX.then ?_
    refine Tr.ret' ?_
    refine res1 rfl rfl ?_
    intro w hc
    cases hr
    exact ⟨rfl, hc⟩
  obtain ⟨hle8, hr⟩ := guard_some hr; replace hle8 := of_decide_eq_true hle8
  refine Tr.block ?_
  refine Tr.sub (env' := [(0, _), (1, _), (5, _), (6, _)]) ⟨rfl, rfl, rfl, rfl, trivial⟩ ?_
  refine Tr.loop (S := fun n (z : Int × (BitVec 32)) env x => match z with | (i_9, out_3) => env = [(0, .int .i64 n_0), (1, uasked_1), (5, .int .u32 (out_3.toNat : Int)), (6, .int .i64 i_9)] ∧ x = ⟨m, l⟩ ∧ n = (n_0 - i_9).toNat ∧ 0 ≤ i_9 ∧ forK (σ := (BitVec 32)) (fun i s nx_ => syllogistref_Told_b10 asked_1 i s nx_) (fun s => syllogistref_Told_k6 s) n i_9 out_3 = some r) _ ((0 : Int), 0#32) ⟨rfl, rfl, rfl, (by omega), hr⟩ ?_
  rintro n12 ⟨i_9, out_3⟩ env x ⟨rfl, rfl, hni_9, h0i_9, hr⟩
  cases n12 with
  | zero =>
    simp only [forK] at hr
    refine Tr.seq ?_
    refine Tr.seq ?_
    refine Tr.region_f (fun _ => false) ?_
    refine W.q rfl rfl rfl rfl (by decide) (Yd.mv rfl (.t rfl)) ?_
    refine W.q rfl rfl rfl rfl (by decide) (Yd.mv rfl (.t rfl)) ?_
    refine W.q rfl rfl rfl rfl (by decide) (Yd.lss rfl (.t rfl) (.t rfl)) ?_
    refine W.end ?_
    refine NX.sub (env' := [(0, _), (1, _), (5, _), (6, _), (11, _)]) ⟨rfl, rfl, rfl, rfl, rfl, trivial⟩ ?_
    refine NX.then ?_
    refine Tr.cond (.t rfl) (fun hb => ?_) (fun hb => ?_)
    · exact absurd (hb.symm.trans (fr_end hni_9)) (by decide)
    ·
      refine Tr.exit' (EX.then (EX.then (EX.block ?_)))
      refine NX.sub (env' := [(5, _)]) ⟨rfl, trivial⟩ ?_
      exact hk7 _ _ ⟨_, rfl, rfl, hr⟩
  | succ n12 =>
    obtain ⟨nx11, hnx11, hr⟩ := forK_succ hr
    try dsimp only at hr
    unfold syllogistref_Told_b10 at hr
    try dsimp only at hr
    have hlti_9 := fr_bnd hni_9
    refine Tr.seq ?_
    refine Tr.seq ?_
    refine Tr.region_f (fun _ => false) ?_
    refine W.q rfl rfl rfl rfl (by decide) (Yd.mv rfl (.t rfl)) ?_
    refine W.q rfl rfl rfl rfl (by decide) (Yd.mv rfl (.t rfl)) ?_
    refine W.q rfl rfl rfl rfl (by decide) (Yd.lss rfl (.t rfl) (.t rfl)) ?_
    refine W.end ?_
    refine NX.sub (env' := [(0, _), (1, _), (5, _), (6, _), (11, _)]) ⟨rfl, rfl, rfl, rfl, rfl, trivial⟩ ?_
    refine NX.then ?_
    refine Tr.cond (.t rfl) (fun hb => ?_) (fun hb => ?_)
    rotate_left
    · exact absurd (hb.symm.trans (fr_go hni_9)) (by decide)
    ·
      refine Tr.skip' ?_
      refine NX.then ?_
      refine Tr.seq ?_
      refine Tr.block ?_
      refine Tr.seq ?_
      obtain ⟨r13, hr14, hr⟩ := bind_some hr
      refine Tr.region_f (fun _ => false) ?_
      refine W.q rfl rfl rfl rfl (by decide) (Yd.mv rfl (.t rfl)) ?_
      refine W.q rfl rfl rfl rfl (by decide) (Yd.mv rfl (.t rfl)) ?_
      refine W.q rfl rfl rfl rfl (by decide) (Yd.cvQ rfl US3 Try.underlying72 (.t rfl)) ?_
      refine W.q rfl rfl rfl rfl (by decide) (Yd.shlU (a := 1#32) rfl .c (.t rfl) (Int.natCast_nonneg _)) ?_
      refine W.q rfl rfl rfl rfl (by decide) (Yd.call (v := .tuple #[.int .u32 (r13.1.toNat : Int), .bool r13.2]) rfl Try.func34 rfl rfl (.cons (.t rfl) (.cons (.t rfl) .nil)) (fun x' hx w hw => syllogistref_By_ok w0 x'.m x'.l _ _ (hasked_1.mono hx.1) ((1#32 <<< ((BitVec.ofInt 64 i_9)).toNat)) _ hr14 w hw)) ?_
      refine W.q rfl rfl rfl rfl (by decide) (Yd.mv rfl (.t rfl)) ?_
      refine W.q rfl rfl rfl rfl (by decide) (Yd.ext rfl (.t rfl) rfl) ?_
      refine W.q rfl rfl rfl rfl (by decide) (Yd.ext rfl (.t rfl) rfl) ?_
      refine W.q rfl rfl rfl rfl (by decide) (Yd.as rfl (.t rfl)) ?_
      refine W.q rfl rfl rfl rfl (by decide) (Yd.as rfl (.t rfl)) ?_
      refine W.end ?_
      refine NX.sub (env' := [(0, _), (1, _), (5, _), (6, _), (8, _)]) ⟨rfl, rfl, rfl, rfl, rfl, trivial⟩ ?_
      refine NX.then ?_
      refine Tr.seq ?_
      refine Tr.region_f (fun _ => false) ?_
      refine W.q rfl rfl rfl rfl (by decide) (Yd.mv rfl (.t rfl)) ?_
      refine W.end ?_
      refine NX.sub (env' := [(0, _), (1, _), (5, _), (6, _), (22, _)]) ⟨rfl, rfl, rfl, rfl, rfl, trivial⟩ ?_
      refine NX.then ?_
      refine Tr.cond (.t rfl) (fun hb => ?_) (fun hb => ?_)
      · have hr := cond_t hb hr
        refine Tr.region_f (fun _ => false) ?_
        refine W.q rfl rfl rfl rfl (by decide) (Yd.mv rfl (.t rfl)) ?_
        refine W.q rfl rfl rfl rfl (by decide) (Yd.mv rfl (.t rfl)) ?_
        refine W.q rfl rfl rfl rfl (by decide) (Yd.cvQ rfl US3 Try.underlying72 (.t rfl)) ?_
        refine W.q rfl rfl rfl rfl (by decide) (Yd.shlU (a := 1#32) rfl .c (.t rfl) (Int.natCast_nonneg _)) ?_
        refine W.q rfl rfl rfl rfl (by decide) (Yd.addU (a := out_3) (b := (1#32 <<< ((BitVec.ofInt 64 i_9)).toNat)) rfl (.t rfl) (.t rfl)) ?_
        refine W.q rfl rfl rfl rfl (by decide) (Yd.as rfl (.t rfl)) ?_
        refine W.end ?_
        refine NX.sub (env' := [(0, _), (1, _), (5, _), (6, _)]) ⟨rfl, rfl, rfl, rfl, trivial⟩ ?_
        refine NX.block ?_
        refine NX.then ?_
        refine Tr.region_f (fun _ => false) ?_
        refine W.q rfl rfl rfl rfl (by decide) (Yd.mv rfl (.t rfl)) ?_
        refine W.q rfl rfl rfl rfl (by decide) (Yd.add rfl (.t rfl) .c) ?_
        refine W.q rfl rfl rfl rfl (by decide) (Yd.as rfl (.t rfl)) ?_
        refine W.end ?_
        refine NX.sub (env' := [(0, _), (1, _), (5, _), (6, _)]) ⟨rfl, rfl, rfl, rfl, trivial⟩ ?_
        refine NX.sub (env' := [(0, _), (1, _), (5, _), (6, _)]) ⟨rfl, rfl, rfl, rfl, trivial⟩ ?_
        have hw := w64_id (n := i_9 + 1) (by omega) (by omega)
        exact NX.again n12 (i_9 + 1, (out_3 + (1#32 <<< ((BitVec.ofInt 64 i_9)).toNat))) (Nat.lt_succ_self _) ⟨(by rw [hw] <;> rfl), rfl, (fr_dec hni_9), (by omega), ((hnx11 _).symm.trans hr)⟩
      · have hr := cond_f hb hr
        refine Tr.skip' ?_
        refine NX.block ?_
        refine NX.then ?_
        refine Tr.region_f (fun _ => false) ?_
        refine W.q rfl rfl rfl rfl (by decide) (Yd.mv rfl (.t rfl)) ?_
        refine W.q rfl rfl rfl rfl (by decide) (Yd.add rfl (.t rfl) .c) ?_
        refine W.q rfl rfl rfl rfl (by decide) (Yd.as rfl (.t rfl)) ?_
        refine W.end ?_
        refine NX.sub (env' := [(0, _), (1, _), (5, _), (6, _)]) ⟨rfl, rfl, rfl, rfl, trivial⟩ ?_
        refine NX.sub (env' := [(0, _), (1, _), (5, _), (6, _)]) ⟨rfl, rfl, rfl, rfl, trivial⟩ ?_
        have hw := w64_id (n := i_9 + 1) (by omega) (by omega)
        exact NX.again n12 (i_9 + 1, out_3) (Nat.lt_succ_self _) ⟨(by rw [hw] <;> rfl), rfl, (fr_dec hni_9), (by omega), ((hnx11 _).symm.trans hr)⟩

def syllogistlaw_SumsTold (n_0 : Int) (asked_1 : List (BitVec 32)) : Option (Bool) :=
  (sums_Told n_0 asked_1).bind fun r1 =>
  (syllogistref_AskedCheck n_0 asked_1 (0#32)).bind fun r3 =>
  (bif (r3 != (0 : Int)) then
  some (((r1.2 == r3) && (r1.1 == 0#32)))
  else
  bif (!((r1.2 == (0 : Int)) == true) || (syllogistref_Told n_0 asked_1).isSome) then
  some (((r1.2 == (0 : Int)) && (r1.1 == (((syllogistref_Told n_0 asked_1).getD (0#32)))))) else none)

set_option maxRecDepth 100000 in
set_option maxHeartbeats 4000000 in
theorem syllogistlaw_SumsTold_ok (w0 : World) (m : Snap) (l : List HI) (n_0 : Int) (uasked_1 : Value) (asked_1 : List (BitVec 32)) (hasked_1 : RS rU m uasked_1 asked_1) (r : Bool) (hr : syllogistlaw_SumsTold n_0 asked_1 = some r) (w : World) (hc : cX w0 ⟨m, l⟩ w) :
    Calls Try.prog 9 [.int .i64 n_0, uasked_1].toArray w fun e w' => e = .returned (.bool r) ∧ cX w0 ⟨m, l⟩ w' := by
  unfold syllogistlaw_SumsTold at hr
  refine calls_of_Tr (N := 35) Try.func9 rfl hc rfl (Nat.le_of_ble_eq_true rfl) ?_
  refine Tr.seq ?_
  refine Tr.region_f (fun _ => false) ?_
  refine W.q rfl rfl rfl rfl (by decide) (Yd.as rfl .c) ?_
  refine W.end ?_
  refine NX.sub (env' := [(0, _), (1, _)]) ⟨rfl, rfl, trivial⟩ ?_
  refine NX.then ?_
  refine Tr.seq ?_
  obtain ⟨r1, hr2, hr⟩ := bind_some hr
  refine Tr.region_f (fun _ => false) ?_
  refine W.q rfl rfl rfl rfl (by decide) (Yd.mv rfl (.t rfl)) ?_
  refine W.q rfl rfl rfl rfl (by decide) (Yd.mv rfl (.t rfl)) ?_
  refine W.q rfl rfl rfl rfl (by decide) (Yd.call (v := .tuple #[.int .u32 (r1.1.toNat : Int), .int .i64 r1.2]) rfl Try.func29 rfl rfl (.cons (.t rfl) (.cons (.t rfl) .nil)) (fun x' hx w hw => sums_Told_ok w0 x'.m x'.l n_0 _ _ (hasked_1.mono hx.1) _ hr2 w hw)) ?_
  refine W.q rfl rfl rfl rfl (by decide) (Yd.mv rfl (.t rfl)) ?_
  refine W.q rfl rfl rfl rfl (by decide) (Yd.ext rfl (.t rfl) rfl) ?_
  refine W.q rfl rfl rfl rfl (by decide) (Yd.ext rfl (.t rfl) rfl) ?_
  refine W.q rfl rfl rfl rfl (by decide) (Yd.as rfl (.t rfl)) ?_
  refine W.q rfl rfl rfl rfl (by decide) (Yd.as rfl (.t rfl)) ?_
  refine W.end ?_
  refine NX.sub (env' := [(0, _), (1, _), (5, _), (6, _)]) ⟨rfl, rfl, rfl, rfl, trivial⟩ ?_
  refine NX.then ?_
  refine Tr.seq ?_
  obtain ⟨r3, hr4, hr⟩ := bind_some hr
  refine Tr.region_f (fun _ => false) ?_
  refine W.q rfl rfl rfl rfl (by decide) (Yd.mv rfl (.t rfl)) ?_
  refine W.q rfl rfl rfl rfl (by decide) (Yd.mv rfl (.t rfl)) ?_
  refine W.q rfl rfl rfl rfl (by decide) (Yd.call (v := .int .i64 r3) rfl Try.func27 rfl rfl (.cons (.t rfl) (.cons (.t rfl) (.cons .c .nil))) (fun x' hx w hw => syllogistref_AskedCheck_ok w0 x'.m x'.l n_0 _ _ (hasked_1.mono hx.1) (0#32) _ hr4 w hw)) ?_
  refine W.q rfl rfl rfl rfl (by decide) (Yd.as rfl (.t rfl)) ?_
  refine W.end ?_
  refine NX.sub (env' := [(0, _), (1, _), (5, _), (6, _), (7, _)]) ⟨rfl, rfl, rfl, rfl, rfl, trivial⟩ ?_
  refine NX.then ?_
  refine Tr.seq ?_
  refine Tr.seq ?_
  refine Tr.region_f (fun _ => false) ?_
  refine W.q rfl rfl rfl rfl (by decide) (Yd.mv rfl (.t rfl)) ?_
  refine W.q rfl rfl rfl rfl (by decide) (Yd.neq rfl (.t rfl) .c) ?_
  refine W.end ?_
  refine NX.sub (env' := [(0, _), (1, _), (5, _), (6, _), (7, _), (18, _)]) ⟨rfl, rfl, rfl, rfl, rfl, rfl, trivial⟩ ?_
  refine NX.then ?_
  refine Tr.cond (.t rfl) (fun hb => ?_) (fun hb => ?_)
  · have hr := cond_t hb hr
    refine Tr.seq ?_
    refine Tr.region_f (fun _ => false) ?_
    refine W.q rfl rfl rfl rfl (by decide) (Yd.mv rfl (.t rfl)) ?_
    refine W.q rfl rfl rfl rfl (by decide) (Yd.mv rfl (.t rfl)) ?_
    refine W.q rfl rfl rfl rfl (by decide) (Yd.eql rfl (.t rfl) (.t rfl)) ?_
    refine W.q rfl rfl rfl rfl (by decide) (Yd.mv rfl (.t rfl)) ?_
    refine W.g rfl rfl rfl rfl rfl (.t rfl _) rfl (by decide) (fun hG => Yd.mv rfl (.t rfl)) ?_
    refine W.g rfl rfl rfl rfl rfl (.t rfl _) rfl (by decide) (fun hG => Yd.eqlU (a := r1.1) (b := 0#32) rfl (.g rfl hG) .c) ?_
    refine W.q rfl rfl rfl rfl (by decide) (Yd.and rfl (.t rfl) .c rfl rfl) ?_
    refine W.q rfl rfl rfl rfl (by decide) (Yd.as rfl (.t rfl)) ?_
    refine W.end ?_
    refine NX.sub (env' := [(4, _)]) ⟨rfl, trivial⟩ ?_
    refine NX.then ?_
    refine Tr.ret' (RT.then ?_)
    refine res1 rfl rfl ?_
    intro w hc
    cases hr
    exact ⟨rfl, hc⟩
  · have hr := cond_f hb hr
    refine Tr.skip' ?_
    refine NX.then ?_
    refine Tr.seq ?_
    obtain ⟨ha5, hr⟩ := guard_some hr
    refine Tr.region_f (fun _ => false) ?_
    refine W.q rfl rfl rfl rfl (by decide) (Yd.mv rfl (.t rfl)) ?_
    refine W.q rfl rfl rfl rfl (by decide) (Yd.eql rfl (.t rfl) .c) ?_
    refine W.q rfl rfl rfl rfl (by decide) (Yd.mv rfl (.t rfl)) ?_
    refine W.g rfl rfl rfl rfl rfl (.t rfl _) rfl (by decide) (fun hG => Yd.mv rfl (.t rfl)) ?_
    refine W.g rfl rfl rfl rfl rfl (.t rfl _) rfl (by decide) (fun hG => Yd.mv rfl (.t rfl)) ?_
    refine W.g rfl rfl rfl rfl rfl (.t rfl _) rfl (by decide) (fun hG => Yd.mv rfl (.t rfl)) ?_
    refine W.g rfl rfl rfl rfl rfl (.t rfl _) rfl (by decide) (fun hG => Yd.call (v := .int .u32 (((((syllogistref_Told n_0 asked_1).getD (0#32)))).toNat : Int)) rfl Try.func30 rfl rfl (.cons (.g rfl hG) (.cons (.g rfl hG) .nil)) (fun x' hx w hw => syllogistref_Told_ok w0 x'.m x'.l n_0 _ _ (hasked_1.mono hx.1) _ (gd_get (d := (0#32)) ha5 hG) w hw)) ?_
    refine W.g rfl rfl rfl rfl rfl (.t rfl _) rfl (by decide) (fun hG => Yd.eqlU (a := r1.1) (b := (((syllogistref_Told n_0 asked_1).getD (0#32)))) rfl (.g rfl hG) (.g rfl hG)) ?_
    refine W.q rfl rfl rfl rfl (by decide) (Yd.and rfl (.t rfl) .c rfl rfl) ?_
    refine W.q rfl rfl rfl rfl (by decide) (Yd.as rfl (.t rfl)) ?_
    refine W.end ?_
    refine NX.sub (env' := [(4, _)]) ⟨rfl, trivial⟩ ?_
    refine NX.then ?_
    refine Tr.ret' ?_
    refine res1 rfl rfl ?_
    intro w hc
    cases hr
    exact ⟨rfl, hc⟩

def slices_Clip_Suint32uint32 (s_0 : List (BitVec 32)) : Option (Unit) :=
  some (())

set_option maxRecDepth 100000 in
set_option maxHeartbeats 4000000 in
theorem slices_Clip_Suint32uint32_ok (w0 : World) (m : Snap) (l : List HI) (us_0 : Value) (s_0 : List (BitVec 32)) (hs_0 : RS rU m us_0 s_0) (r : Unit) (hr : slices_Clip_Suint32uint32 s_0 = some r) (w : World) (hc : cX w0 ⟨m, l⟩ w) :
    Calls Try.prog 53 [us_0].toArray w fun e w' => e = .returned ((slCap us_0)) ∧ cX w0 ⟨m, l⟩ w' := by
  unfold slices_Clip_Suint32uint32 at hr
  refine calls_of_Tr (N := 9) Try.func53 rfl hc rfl (Nat.le_of_ble_eq_true rfl) ?_
  refine Tr.seq ?_
  refine Tr.region_f (fun _ => false) ?_
  refine W.q rfl rfl rfl rfl (by decide) (Yd.as rfl .c) ?_
  refine W.end ?_
  refine NX.sub (env' := [(0, _)]) ⟨rfl, trivial⟩ ?_
  refine NX.then ?_
  refine Tr.seq ?_
  refine Tr.region_f (fun _ => false) ?_
  refine W.q rfl rfl rfl rfl (by decide) (Yd.mv rfl (.t rfl)) ?_
  refine W.q rfl rfl rfl rfl (by decide) (Yd.mv rfl (.t rfl)) ?_
  refine W.q rfl rfl rfl rfl (by decide) (Yd.lenR hs_0 rfl Try.underlying42 (.t rfl)) ?_
  refine W.q rfl rfl rfl rfl (by decide) (Yd.mv rfl (.t rfl)) ?_
  refine W.q rfl rfl rfl rfl (by decide) (Yd.lenR hs_0 rfl Try.underlying42 (.t rfl)) ?_
  refine W.q rfl rfl rfl rfl (by decide) (Yd.slCap hs_0 rfl Try.underlying42 (Option.some_get IN23).symm (.t rfl) (.t rfl) (.t rfl)) ?_
  refine W.q rfl rfl rfl rfl (by decide) (Yd.as rfl (.t rfl)) ?_
  refine W.end ?_
  refine NX.sub (env' := [(2, _)]) ⟨rfl, trivial⟩ ?_
  refine NX.then ?_
  refine Tr.ret' ?_
  refine res1 rfl rfl ?_
  intro w hc
  cases hr
  exact ⟨rfl, hc⟩

def sums_Guard_k38 (l35 : List Int) : Option ((List Int) × Int) :=
  some ((l35, (0 : Int)))

def sums_Guard_b42 (script_1 : List (BitVec 32)) (t_41 : Int) (given_28 : List (BitVec 32)) (l32 : List Int) (nx43 : ((List (BitVec 32)) × (List Int)) → Option ((List Int) × Int)) : Option ((List Int) × Int) :=
  (geti script_1 t_41).bind fun y45 =>
  (slices_Clip_Suint32uint32 given_28).bind fun r47 =>
  bif decide (1 ≤ (([y45] : List (BitVec 32))).length ∧ given_28.length + (([y45] : List (BitVec 32))).length ≤ 35184372088832) then
  (sums_build ((given_28 ++ ([y45] : List (BitVec 32))))).bind fun r56 =>
  (sums_base_told r56).bind fun r61 =>
  (bif (r61 != 0#32) then
  bif decide (l32.length + (([(7 : Int)] : List Int)).length ≤ 17592186044416) then
  nx43 (given_28, (l32 ++ ([(7 : Int)] : List Int))) else none
  else
  bif decide (l32.length + (([(0 : Int)] : List Int)).length ≤ 17592186044416) then
  nx43 ((given_28 ++ ([y45] : List (BitVec 32))), (l32 ++ ([(0 : Int)] : List Int))) else none) else none

def sums_Guard (n_0 : Int) (script_1 : List (BitVec 32)) : Option ((List Int) × Int) :=
  (sums_wrong n_0 script_1 (0#32)).bind fun r1 =>
  (bif (r1 != (0 : Int)) then
  some (([], r1))
  else
  forK (σ := (List (BitVec 32)) × (List Int)) (fun i s nx_ => sums_Guard_b42 script_1 i s.1 s.2 nx_) (fun s => sums_Guard_k38 s.2) ((script_1.length : Int) - (0 : Int)).toNat (0 : Int) ((([] : List (BitVec 32))), (([] : List Int))))

set_option maxRecDepth 100000 in
set_option maxHeartbeats 4000000 in
theorem sums_Guard_ok (w0 : World) (m : Snap) (l : List HI) (n_0 : Int) (uscript_1 : Value) (script_1 : List (BitVec 32)) (hscript_1 : RS rU m uscript_1 script_1) (r : (List Int) × Int) (hr : sums_Guard n_0 script_1 = some r) (w : World) (hc : cX w0 ⟨m, l⟩ w) :
    Calls Try.prog 31 [.int .i64 n_0, uscript_1].toArray w fun e w' => ∃ z0 : Value, e = .returned (.tuple #[z0, .int .i64 r.2]) ∧ cX w0 ⟨m, hownT 24 1 encI z0 r.1 :: l⟩ w' := by
  unfold sums_Guard at hr
  refine calls_of_Tr (N := 42) Try.func31 rfl hc rfl (Nat.le_of_ble_eq_true rfl) ?_
  refine Tr.seq ?_
  refine Tr.region_f (fun _ => false) ?_
  refine W.q rfl rfl rfl rfl (by decide) (Yd.as rfl .c) ?_
  refine W.q rfl rfl rfl rfl (by decide) (Yd.as rfl .c) ?_
  refine W.end ?_
  refine NX.sub (env' := [(0, _), (1, _)]) ⟨rfl, rfl, trivial⟩ ?_
  refine NX.then ?_
  refine Tr.seq ?_
  refine Tr.seq ?_
  obtain ⟨r1, hr2, hr⟩ := bind_some hr
  refine Tr.region_f (fun _ => false) ?_
  refine W.q rfl rfl rfl rfl (by decide) (Yd.mv rfl (.t rfl)) ?_
  refine W.q rfl rfl rfl rfl (by decide) (Yd.mv rfl (.t rfl)) ?_
  refine W.q rfl rfl rfl rfl (by decide) (Yd.call (v := .int .i64 r1) rfl Try.func49 rfl rfl (.cons (.t rfl) (.cons (.t rfl) (.cons .c .nil))) (fun x' hx w hw => sums_wrong_ok w0 x'.m x'.l n_0 _ _ (hscript_1.mono hx.1) (0#32) _ hr2 w hw)) ?_
  refine W.q rfl rfl rfl rfl (by decide) (Yd.as rfl (.t rfl)) ?_
  refine W.end ?_
  refine NX.sub (env' := [(1, _), (6, _)]) ⟨rfl, rfl, trivial⟩ ?_
  refine NX.then ?_
  refine Tr.seq ?_
  refine Tr.region_f (fun _ => false) ?_
  refine W.q rfl rfl rfl rfl (by decide) (Yd.mv rfl (.t rfl)) ?_
  refine W.q rfl rfl rfl rfl (by decide) (Yd.neq rfl (.t rfl) .c) ?_
  refine W.end ?_
  refine NX.sub (env' := [(1, _), (6, _), (16, _)]) ⟨rfl, rfl, rfl, trivial⟩ ?_
  refine NX.then ?_
  refine Tr.cond (.t rfl) (fun hb => ?_) (fun hb => ?_)
  · have hr := cond_t hb hr
    refine Tr.seq ?_
    refine Tr.region_f (fun _ => false) ?_
    refine W.q rfl rfl rfl rfl (by decide) (Yd.mv rfl (.t rfl)) ?_
    refine W.q rfl rfl rfl rfl (by decide) (Yd.as rfl .c) ?_
    refine W.q rfl rfl rfl rfl (by decide) (Yd.as rfl (.t rfl)) ?_
    refine W.end ?_
    refine NX.sub (env' := [(4, _), (5, _)]) ⟨rfl, rfl, trivial⟩ ?_
    refine NX.then ?_
    refine Tr.ret' (RT.then ?_)
    refine res2 rfl rfl rfl ?_
    intro w hc
    cases hr
    exact ⟨_, rfl, (cX_nil hc)⟩
  · have hr := cond_f hb hr
    refine Tr.skip' ?_
    refine NX.then ?_
    refine Tr.seq ?_
    refine Tr.region_f (fun _ => false) ?_
    refine W.q rfl rfl rfl rfl (by decide) (Yd.as rfl .c) ?_
    refine W.end ?_
    refine NX.sub (env' := [(1, _), (7, _)]) ⟨rfl, rfl, trivial⟩ ?_
    refine NX.then ?_
    refine Tr.seq ?_
    refine Tr.region_f (fun _ => false) ?_
    refine W.q rfl rfl rfl rfl (by decide) (Yd.as rfl .c) ?_
    refine W.end ?_
    refine NX.sub (env' := [(1, _), (7, _), (8, _)]) ⟨rfl, rfl, rfl, trivial⟩ ?_
    refine NX.then ?_
    refine Tr.seq ?_
    refine Tr.seq ?_
    refine Tr.region_f (fun _ => false) ?_
    refine W.q rfl rfl rfl rfl (by decide) (Yd.mv rfl (.t rfl)) ?_
    refine W.q rfl rfl rfl rfl (by decide) (Yd.lenR hscript_1 rfl Try.underlying42 (.t rfl)) ?_
    refine W.q rfl rfl rfl rfl (by decide) (Yd.mv rfl .c) ?_
    refine W.end ?_
    refine NX.sub (env' := [(7, _), (8, _), (18, _), (19, _), (20, _)]) ⟨rfl, rfl, rfl, rfl, rfl, trivial⟩ ?_
    refine NX.then ?_
    refine Tr.addnil 23 1 ?_
    refine Tr.addnil 24 1 ?_
    refine Tr.freezeT (enc := encU) (n := 1) (pos := 1) (xs := ([] : List (BitVec 32))) (fun _ => rfl) rfl (fun m19 hsm19 hu20 => ?_)
    have hscript_1 := hscript_1.mono hsm19
    refine Tr.cast (m' := m19) (l' := hownT 24 1 encI (.slice none 0 0) (([] : List Int)) :: l) rfl rfl ?_
    refine Tr.join (S := fun env x => ∃ l35 : List Int, ∃ m37 : Snap, ∃ v36 : Value, Sle m19 m37 ∧ env = [(8, v36)] ∧ x = ⟨m37, hownT 24 1 encI v36 l35 :: l⟩ ∧ sums_Guard_k38 l35 = some r) ?_ (fun hk39 => ?_)
    · rintro _ _ ⟨l35, m37, v36, hsm37, rfl, rfl, hr⟩
      unfold sums_Guard_k38 at hr
      try dsimp only at hr
      have hscript_1 := hscript_1.mono hsm37
      have hu20 := hu20.mono hsm37
      refine NX.then ?_
      refine Tr.seq ?_
      refine Tr.region_f (fun _ => false) ?_
      refine W.q rfl rfl rfl rfl (by decide) (Yd.mv rfl (.t rfl)) ?_
      refine W.q rfl rfl rfl rfl (by decide) (Yd.as rfl (.t rfl)) ?_
      refine W.q rfl rfl rfl rfl (by decide) (Yd.as rfl .c) ?_
      refine W.end ?_
      refine NX.sub (env' := [(4, _), (5, _)]) ⟨rfl, rfl, trivial⟩ ?_
      refine NX.then ?_
      refine Tr.ret' ?_
      refine res2 rfl rfl rfl ?_
      intro w hc
      cases hr
      exact ⟨_, rfl, (cX_le (x := ⟨m, _⟩) ⟨(hsm19.trans hsm37), [], rfl⟩ hc)⟩
    have hlen40 := (hscript_1).2.1
    refine Tr.block ?_
    refine Tr.sub (env' := [(7, _), (8, _), (18, _), (19, _), (20, _)]) ⟨rfl, rfl, rfl, rfl, rfl, trivial⟩ ?_
    refine Tr.loop (S := fun n (z : Int × (List (BitVec 32)) × (List Int)) env x => match z with | (t_41, given_28, l32) => ∃ m34 : Snap, ∃ u29 : Value, ∃ v33 : Value, Sle m19 m34 ∧ RS rU m34 u29 given_28 ∧ env = [(7, u29), (8, v33), (18, uscript_1), (19, .int .i64 ((script_1.length : Int))), (20, .int .i64 t_41)] ∧ x = ⟨m34, hownT 24 1 encI v33 l32 :: l⟩ ∧ n = ((script_1.length : Int) - t_41).toNat ∧ 0 ≤ t_41 ∧ forK (σ := (List (BitVec 32)) × (List Int)) (fun i s nx_ => sums_Guard_b42 script_1 i s.1 s.2 nx_) (fun s => sums_Guard_k38 s.2) n t_41 (given_28, l32) = some r) _ ((0 : Int), ([] : List (BitVec 32)), ([] : List Int)) ⟨_, _, _, (.refl _), hu20, rfl, rfl, rfl, (by omega), hr⟩ ?_
    rintro n44 ⟨t_41, given_28, l32⟩ env x ⟨m34, u29, v33, hsm34, hu30, rfl, rfl, hnt_41, h0t_41, hr⟩
    have hscript_1 := hscript_1.mono hsm34
    have hu20 := hu20.mono hsm34
    cases n44 with
    | zero =>
      simp only [forK] at hr
      refine Tr.seq ?_
      refine Tr.region_f (fun _ => false) ?_
      refine W.q rfl rfl rfl rfl (by decide) (Yd.lss rfl (.t rfl) (.t rfl)) ?_
      refine W.end ?_
      refine NX.sub (env' := [(7, _), (8, _), (18, _), (19, _), (20, _), (21, _)]) ⟨rfl, rfl, rfl, rfl, rfl, rfl, trivial⟩ ?_
      refine NX.then ?_
      refine Tr.seq ?_
      refine Tr.cond (.t rfl) (fun hb => ?_) (fun hb => ?_)
      · exact absurd (hb.symm.trans (fr_end hnt_41)) (by decide)
      ·
        refine Tr.exit' (EX.then (EX.then (EX.block ?_)))
        refine NX.sub (env' := [(8, _)]) ⟨rfl, trivial⟩ ?_
        exact hk39 _ _ ⟨_, _, _, hsm34, rfl, rfl, hr⟩
    | succ n44 =>
      obtain ⟨nx43, hnx43, hr⟩ := forK_succ hr
      try dsimp only at hr
      unfold sums_Guard_b42 at hr
      try dsimp only at hr
      have hltt_41 := fr_bnd hnt_41
      refine Tr.seq ?_
      refine Tr.region_f (fun _ => false) ?_
      refine W.q rfl rfl rfl rfl (by decide) (Yd.lss rfl (.t rfl) (.t rfl)) ?_
      refine W.end ?_
      refine NX.sub (env' := [(7, _), (8, _), (18, _), (19, _), (20, _), (21, _)]) ⟨rfl, rfl, rfl, rfl, rfl, rfl, trivial⟩ ?_
      refine NX.then ?_
      refine Tr.seq ?_
      refine Tr.cond (.t rfl) (fun hb => ?_) (fun hb => ?_)
      rotate_left
      · exact absurd (hb.symm.trans (fr_go hnt_41)) (by decide)
      ·
        refine Tr.skip' ?_
        refine NX.then ?_
        refine Tr.seq ?_
        refine Tr.block ?_
        refine Tr.seq ?_
        obtain ⟨y45, hy46, hr⟩ := bind_some hr
        refine Tr.region_f (fun _ => false) ?_
        refine W.q rfl rfl rfl rfl (by decide) (Yd.idxR hscript_1 hy46 rfl Try.underlying42 SZ23 (.t rfl) (.t rfl)) ?_
        refine W.q rfl rfl rfl rfl (by decide) (Yd.ldF hscript_1 (.refl _) hy46 rfl rfl ON23 (.t rfl)) ?_
        refine W.q rfl rfl rfl rfl (by decide) (Yd.as rfl (.t rfl)) ?_
        refine W.end ?_
        refine NX.sub (env' := [(7, _), (8, _), (18, _), (19, _), (20, _), (10, _)]) ⟨rfl, rfl, rfl, rfl, rfl, rfl, trivial⟩ ?_
        refine NX.then ?_
        refine Tr.seq ?_
        obtain ⟨r47, hr48, hr⟩ := bind_some hr
        obtain ⟨hq53, hr⟩ := guard_some hr; replace hq53 := of_decide_eq_true hq53
        refine Tr.region_f (fun i => Nat.beq i 3 || Nat.beq i 4) ?_
        refine W.q rfl rfl rfl rfl (by decide) (Yd.mv rfl (.t rfl)) ?_
        refine W.q rfl rfl rfl rfl (by decide) (Yd.call (v := (slCap u29)) rfl Try.func53 rfl rfl (.cons (.t rfl) .nil) (fun x' hx w hw => slices_Clip_Suint32uint32_ok w0 x'.m x'.l _ _ (hu30.mono hx.1) _ hr48 w hw)) ?_
        refine W.q rfl rfl rfl rfl (by decide) (Yd.mv rfl (.t rfl)) ?_
        refine W.e rfl rfl rfl rfl (by decide) (Ef.bsT (enc := encU) (vs := [_]) (ys := [y45]) (fun _ => rfl) IF23 rfl Try.underlying42 (by decide) rfl (.cons (.t rfl) .nil) rfl rfl (by decide)) ?_
        rintro v49 _ rfl
        refine ⟨.inl rfl, ?_⟩
        refine W.cast (m' := m34) (l' := hownT 23 1 encU v49 _ :: hownT 24 1 encI v33 _ :: l) rfl rfl ?_
        refine W.e rfl rfl rfl rfl (by decide) (Ef.apCT (enc := encU) (n := 1) (u := u29) (xs := given_28) (ys := ([y45] : List (BitVec 32))) (fun _ => rfl) IF23 hu30 (.refl _) rfl Try.underlying42 rfl (by decide) (.t rfl) (.t rfl) (Src.own (pos := 0) rfl) hq53.1 (by omega) (by omega)) ?_
        rintro v51 _ rfl
        refine ⟨.inl rfl, ?_⟩
        refine W.cast (m' := m34) (l' := hownT 23 1 encU v51 _ :: hownT 23 1 encU v49 _ :: hownT 24 1 encI v33 _ :: l) rfl rfl ?_
        refine W.q rfl rfl rfl rfl (by decide) (Yd.as rfl (.t rfl)) ?_
        refine W.end ?_
        refine NX.sub (env' := [(7, _), (8, _), (18, _), (19, _), (20, _), (11, _)]) ⟨rfl, rfl, rfl, rfl, rfl, rfl, trivial⟩ ?_
        refine NX.drop (l' := hownT 23 1 encU v51 _ :: hownT 24 1 encI v33 _ :: l) (.cons_cons _ (.cons _ (.cons_cons _ (.refl _)))) ?_
        refine NX.then ?_
        refine Tr.seq ?_
        refine Tr.seq ?_
        refine Tr.freezeT (enc := encU) (n := 1) (pos := 0) (xs := (given_28 ++ ([y45] : List (BitVec 32)))) (fun _ => rfl) rfl (fun m54 hsm54 hu55 => ?_)
        have hscript_1 := hscript_1.mono hsm54
        have hu20 := hu20.mono hsm54
        have hu30 := hu30.mono hsm54
        refine Tr.cast (m' := m54) (l' := hownT 24 1 encI v33 _ :: l) rfl rfl ?_
        obtain ⟨r56, hr57, hr⟩ := bind_some hr
        obtain ⟨r61, hr62, hr⟩ := bind_some hr
        refine Tr.region_f (fun i => Nat.beq i 1) ?_
        refine W.q rfl rfl rfl rfl (by decide) (Yd.mv rfl (.t rfl)) ?_
        refine W.e rfl rfl rfl rfl (by decide) (Ef.call (R := fun z x' => ∃ u58 : Value, ∃ m59 : Snap, z = u58 ∧ x' = ⟨m59, hownT 24 1 encI v33 l32 :: l⟩ ∧ Sle m54 m59 ∧ P78 m59 u58 r56) rfl Try.func50 rfl rfl (.cons (.t rfl) .nil) (fun w hw => (sums_build_ok w0 _ _ _ _ hu55 _ hr57 w hw).mono fun e w' ⟨u58, m59, he, hm', hu60, hc'⟩ => ⟨_, _, he, ⟨u58, m59, rfl, rfl, hm', hu60⟩, hc'⟩)) ?_
        rintro u58 _ ⟨_, m59, rfl, rfl, hsm59, hu60⟩
        have hscript_1 := hscript_1.mono hsm59
        have hu20 := hu20.mono hsm59
        have hu30 := hu30.mono hsm59
        have hu55 := hu55.mono hsm59
        refine ⟨.inl rfl, ?_⟩
        refine W.cast (m' := m59) (l' := hownT 24 1 encI v33 _ :: l) rfl rfl ?_
        refine W.q rfl rfl rfl rfl (by decide) (Yd.call (v := .int .u32 (r61.toNat : Int)) rfl Try.func52 rfl rfl (.cons (.t rfl) .nil) (fun x' hx w hw => sums_base_told_ok w0 x'.m x'.l _ _ (hu60.mono hx.1) _ hr62 w hw)) ?_
        refine W.q rfl rfl rfl rfl (by decide) (Yd.neqU (a := r61) (b := 0#32) rfl (.t rfl) .c) ?_
        refine W.end ?_
        refine NX.sub (env' := [(7, _), (8, _), (18, _), (19, _), (20, _), (11, _), (32, _)]) ⟨rfl, rfl, rfl, rfl, rfl, rfl, rfl, trivial⟩ ?_
        refine NX.then ?_
        refine Tr.cond (.t rfl) (fun hb => ?_) (fun hb => ?_)
        · have hr := cond_t hb hr
          refine Tr.seq ?_
          obtain ⟨hq66, hr⟩ := guard_some hr; replace hq66 := of_decide_eq_true hq66
          refine Tr.region_f (fun i => Nat.beq i 1 || Nat.beq i 2) ?_
          refine W.q rfl rfl rfl rfl (by decide) (Yd.mv rfl (.t rfl)) ?_
          refine W.e rfl rfl rfl rfl (by decide) (Ef.bsT (enc := encI) (vs := [_]) (ys := [(7 : Int)]) (fun _ => rfl) IF24 rfl Try.underlying50 (by decide) rfl (.cons .c .nil) rfl rfl (by decide)) ?_
          rintro v63 _ rfl
          refine ⟨.inl rfl, ?_⟩
          refine W.cast (m' := m59) (l' := hownT 24 1 encI v63 _ :: hownT 24 1 encI v33 _ :: l) rfl rfl ?_
          refine W.e rfl rfl rfl rfl (by decide) (Ef.apI (pos := 1) (enc := encI) (xs := l32) (ys := ([(7 : Int)] : List Int)) (fun _ => rfl) IF24 rfl rfl Try.underlying50 rfl (by decide) (.t rfl) (.t rfl) (Src.own (pos := 0) rfl) (fun _ => rfl) (by omega) (by omega)) ?_
          rintro v65 _ rfl
          refine ⟨.inl rfl, ?_⟩
          refine W.cast (m' := m59) (l' := hownT 24 1 encI v63 _ :: hownT 24 1 encI v65 _ :: l) rfl rfl ?_
          refine W.q rfl rfl rfl rfl (by decide) (Yd.as rfl (.t rfl)) ?_
          refine W.end ?_
          refine NX.sub (env' := [(7, _), (8, _), (18, _), (19, _), (20, _)]) ⟨rfl, rfl, rfl, rfl, rfl, trivial⟩ ?_
          refine NX.drop (l' := hownT 24 1 encI v65 _ :: l) (.cons _ (.cons_cons _ (.refl _))) ?_
          refine NX.then ?_
          refine Tr.exit' (EX.then (EX.block ?_))
          refine NX.then ?_
          refine Tr.region_f (fun _ => false) ?_
          refine W.q rfl rfl rfl rfl (by decide) (Yd.add rfl (.t rfl) .c) ?_
          refine W.q rfl rfl rfl rfl (by decide) (Yd.mv rfl (.t rfl)) ?_
          refine W.end ?_
          refine NX.sub (env' := [(7, _), (8, _), (18, _), (19, _), (20, _)]) ⟨rfl, rfl, rfl, rfl, rfl, trivial⟩ ?_
          refine NX.sub (env' := [(7, _), (8, _), (18, _), (19, _), (20, _)]) ⟨rfl, rfl, rfl, rfl, rfl, trivial⟩ ?_
          have hw := w64_id (n := t_41 + 1) (by omega) (by omega)
          exact NX.again n44 (t_41 + 1, given_28, (l32 ++ ([(7 : Int)] : List Int))) (Nat.lt_succ_self _) ⟨_, _, _, ((hsm34.trans hsm54).trans hsm59), hu30, (by rw [hw] <;> rfl), rfl, (fr_dec hnt_41), (by omega), ((hnx43 _).symm.trans hr)⟩
        · have hr := cond_f hb hr
          refine Tr.skip' ?_
          refine NX.then ?_
          refine Tr.seq ?_
          refine Tr.region_f (fun _ => false) ?_
          refine W.q rfl rfl rfl rfl (by decide) (Yd.mv rfl (.t rfl)) ?_
          refine W.q rfl rfl rfl rfl (by decide) (Yd.as rfl (.t rfl)) ?_
          refine W.end ?_
          refine NX.sub (env' := [(7, _), (8, _), (18, _), (19, _), (20, _)]) ⟨rfl, rfl, rfl, rfl, rfl, trivial⟩ ?_
          refine NX.then ?_
          obtain ⟨hq70, hr⟩ := guard_some hr; replace hq70 := of_decide_eq_true hq70
          refine Tr.region_f (fun i => Nat.beq i 1 || Nat.beq i 2) ?_
          refine W.q rfl rfl rfl rfl (by decide) (Yd.mv rfl (.t rfl)) ?_
          refine W.e rfl rfl rfl rfl (by decide) (Ef.bsT (enc := encI) (vs := [_]) (ys := [(0 : Int)]) (fun _ => rfl) IF24 rfl Try.underlying50 (by decide) rfl (.cons .c .nil) rfl rfl (by decide)) ?_
          rintro v67 _ rfl
          refine ⟨.inl rfl, ?_⟩
          refine W.cast (m' := m59) (l' := hownT 24 1 encI v67 _ :: hownT 24 1 encI v33 _ :: l) rfl rfl ?_
          refine W.e rfl rfl rfl rfl (by decide) (Ef.apI (pos := 1) (enc := encI) (xs := l32) (ys := ([(0 : Int)] : List Int)) (fun _ => rfl) IF24 rfl rfl Try.underlying50 rfl (by decide) (.t rfl) (.t rfl) (Src.own (pos := 0) rfl) (fun _ => rfl) (by omega) (by omega)) ?_
          rintro v69 _ rfl
          refine ⟨.inl rfl, ?_⟩
          refine W.cast (m' := m59) (l' := hownT 24 1 encI v67 _ :: hownT 24 1 encI v69 _ :: l) rfl rfl ?_
          refine W.q rfl rfl rfl rfl (by decide) (Yd.as rfl (.t rfl)) ?_
          refine W.end ?_
          refine NX.sub (env' := [(7, _), (8, _), (18, _), (19, _), (20, _)]) ⟨rfl, rfl, rfl, rfl, rfl, trivial⟩ ?_
          refine NX.drop (l' := hownT 24 1 encI v69 _ :: l) (.cons _ (.cons_cons _ (.refl _))) ?_
          refine NX.block ?_
          refine NX.then ?_
          refine Tr.region_f (fun _ => false) ?_
          refine W.q rfl rfl rfl rfl (by decide) (Yd.add rfl (.t rfl) .c) ?_
          refine W.q rfl rfl rfl rfl (by decide) (Yd.mv rfl (.t rfl)) ?_
          refine W.end ?_
          refine NX.sub (env' := [(7, _), (8, _), (18, _), (19, _), (20, _)]) ⟨rfl, rfl, rfl, rfl, rfl, trivial⟩ ?_
          refine NX.sub (env' := [(7, _), (8, _), (18, _), (19, _), (20, _)]) ⟨rfl, rfl, rfl, rfl, rfl, trivial⟩ ?_
          have hw := w64_id (n := t_41 + 1) (by omega) (by omega)
          exact NX.again n44 (t_41 + 1, (given_28 ++ ([y45] : List (BitVec 32))), (l32 ++ ([(0 : Int)] : List Int))) (Nat.lt_succ_self _) ⟨_, _, _, ((hsm34.trans hsm54).trans hsm59), hu55, (by rw [hw] <;> rfl), rfl, (fr_dec hnt_41), (by omega), ((hnx43 _).symm.trans hr)⟩

def syllogistref_Codes_k3 : Option (Bool) :=
  some true

def syllogistref_Codes_b7 (a_0 : List Int) (b_1 : List Int) (i_6 : Int) (nx8 : Unit → Option (Bool)) : Option (Bool) :=
  (geti a_0 i_6).bind fun y10 =>
  (geti b_1 i_6).bind fun y12 =>
  (bif (y10 != y12) then
  some false
  else
  nx8 ())

def syllogistref_Codes (a_0 : List Int) (b_1 : List Int) : Option (Bool) :=
  (bif ((a_0.length : Int) != (b_1.length : Int)) then
  some false
  else
  forK (σ := Unit) (fun i s nx_ => syllogistref_Codes_b7 a_0 b_1 i nx_) (fun _ => syllogistref_Codes_k3) ((a_0.length : Int) - (0 : Int)).toNat (0 : Int) ())

set_option maxRecDepth 100000 in
set_option maxHeartbeats 4000000 in
theorem syllogistref_Codes_ok (w0 : World) (m : Snap) (l : List HI) (ua_0 : Value) (a_0 : List Int) (ha_0 : RS rI m ua_0 a_0) (ub_1 : Value) (b_1 : List Int) (hb_1 : RS rI m ub_1 b_1) (r : Bool) (hr : syllogistref_Codes a_0 b_1 = some r) (w : World) (hc : cX w0 ⟨m, l⟩ w) :
    Calls Try.prog 32 [ua_0, ub_1].toArray w fun e w' => e = .returned (.bool r) ∧ cX w0 ⟨m, l⟩ w' := by
  unfold syllogistref_Codes at hr
  refine calls_of_Tr (N := 26) Try.func32 rfl hc rfl (Nat.le_of_ble_eq_true rfl) ?_
  refine Tr.seq ?_
  refine Tr.region_f (fun _ => false) ?_
  refine W.q rfl rfl rfl rfl (by decide) (Yd.as rfl .c) ?_
  refine W.end ?_
  refine NX.sub (env' := [(0, _), (1, _)]) ⟨rfl, rfl, trivial⟩ ?_
  refine NX.then ?_
  refine Tr.seq ?_
  refine Tr.seq ?_
  refine Tr.region_f (fun _ => false) ?_
  refine W.q rfl rfl rfl rfl (by decide) (Yd.mv rfl (.t rfl)) ?_
  refine W.q rfl rfl rfl rfl (by decide) (Yd.lenR ha_0 rfl Try.underlying50 (.t rfl)) ?_
  refine W.q rfl rfl rfl rfl (by decide) (Yd.mv rfl (.t rfl)) ?_
  refine W.q rfl rfl rfl rfl (by decide) (Yd.lenR hb_1 rfl Try.underlying50 (.t rfl)) ?_
  refine W.q rfl rfl rfl rfl (by decide) (Yd.neq rfl (.t rfl) (.t rfl)) ?_
  refine W.end ?_
  refine NX.sub (env' := [(0, _), (1, _), (10, _)]) ⟨rfl, rfl, rfl, trivial⟩ ?_
  refine NX.then ?_
  refine Tr.cond (.t rfl) (fun hb => ?_) (fun hb => ?_)
  · have hr := cond_t hb hr
    refine Tr.seq ?_
    refine Tr.region_f (fun _ => false) ?_
    refine W.q rfl rfl rfl rfl (by decide) (Yd.as rfl .c) ?_
    refine W.end ?_
    refine NX.sub (env' := [(4, _)]) ⟨rfl, trivial⟩ ?_
    refine NX.then ?_
    refine Tr.ret' (RT.then ?_)
    refine res1 rfl rfl ?_
    intro w hc
    cases hr
    exact ⟨rfl, hc⟩
  · have hr := cond_f hb hr
    refine Tr.skip' ?_
    refine NX.then ?_
    refine Tr.seq ?_
    refine Tr.seq ?_
    refine Tr.region_f (fun _ => false) ?_
    refine W.q rfl rfl rfl rfl (by decide) (Yd.as rfl .c) ?_
    refine W.end ?_
    refine NX.sub (env' := [(0, _), (1, _), (5, _)]) ⟨rfl, rfl, rfl, trivial⟩ ?_
    refine NX.then ?_
    refine Tr.join (S := fun env x => env = [] ∧ x = ⟨m, l⟩ ∧ syllogistref_Codes_k3 = some r) ?_ (fun hk4 => ?_)
    · rintro _ _ ⟨rfl, rfl, hr⟩
      unfold syllogistref_Codes_k3 at hr
      try dsimp only at hr
      refine NX.then ?_
      refine Tr.seq ?_
      refine Tr.region_f (fun _ => false) ?_
      refine W.q rfl rfl rfl rfl (by decide) (Yd.as rfl .c) ?_
      refine W.end ?_
      refine NX.sub (env' := [(4, _)]) ⟨rfl, trivial⟩ ?_
      refine NX.then ?_
      refine Tr.ret' ?_
      refine res1 rfl rfl ?_
      intro w hc
      cases hr
      exact ⟨rfl, hc⟩
    have hlen5 := (ha_0).2.1
    refine Tr.block ?_
    refine Tr.sub (env' := [(0, _), (1, _), (5, _)]) ⟨rfl, rfl, rfl, trivial⟩ ?_
    refine Tr.loop (S := fun n (z : Int × Unit) env x => match z with | (i_6, _) => env = [(0, ua_0), (1, ub_1), (5, .int .i64 i_6)] ∧ x = ⟨m, l⟩ ∧ n = ((a_0.length : Int) - i_6).toNat ∧ 0 ≤ i_6 ∧ forK (σ := Unit) (fun i s nx_ => syllogistref_Codes_b7 a_0 b_1 i nx_) (fun _ => syllogistref_Codes_k3) n i_6 () = some r) _ ((0 : Int), ()) ⟨rfl, rfl, rfl, (by omega), hr⟩ ?_
    rintro n9 ⟨i_6, _⟩ env x ⟨rfl, rfl, hni_6, h0i_6, hr⟩
    cases n9 with
    | zero =>
      simp only [forK] at hr
      refine Tr.seq ?_
      refine Tr.seq ?_
      refine Tr.region_f (fun _ => false) ?_
      refine W.q rfl rfl rfl rfl (by decide) (Yd.mv rfl (.t rfl)) ?_
      refine W.q rfl rfl rfl rfl (by decide) (Yd.mv rfl (.t rfl)) ?_
      refine W.q rfl rfl rfl rfl (by decide) (Yd.lenR ha_0 rfl Try.underlying50 (.t rfl)) ?_
      refine W.q rfl rfl rfl rfl (by decide) (Yd.lss rfl (.t rfl) (.t rfl)) ?_
      refine W.end ?_
      refine NX.sub (env' := [(0, _), (1, _), (5, _), (14, _)]) ⟨rfl, rfl, rfl, rfl, trivial⟩ ?_
      refine NX.then ?_
      refine Tr.cond (.t rfl) (fun hb => ?_) (fun hb => ?_)
      · exact absurd (hb.symm.trans (fr_end hni_6)) (by decide)
      ·
        refine Tr.exit' (EX.then (EX.then (EX.block ?_)))
        refine NX.sub (env' := []) trivial ?_
        exact hk4 _ _ ⟨rfl, rfl, hr⟩
    | succ n9 =>
      obtain ⟨nx8, hnx8, hr⟩ := forK_succ hr
      try dsimp only at hr
      unfold syllogistref_Codes_b7 at hr
      try dsimp only at hr
      have hlti_6 := fr_bnd hni_6
      refine Tr.seq ?_
      refine Tr.seq ?_
      refine Tr.region_f (fun _ => false) ?_
      refine W.q rfl rfl rfl rfl (by decide) (Yd.mv rfl (.t rfl)) ?_
      refine W.q rfl rfl rfl rfl (by decide) (Yd.mv rfl (.t rfl)) ?_
      refine W.q rfl rfl rfl rfl (by decide) (Yd.lenR ha_0 rfl Try.underlying50 (.t rfl)) ?_
      refine W.q rfl rfl rfl rfl (by decide) (Yd.lss rfl (.t rfl) (.t rfl)) ?_
      refine W.end ?_
      refine NX.sub (env' := [(0, _), (1, _), (5, _), (14, _)]) ⟨rfl, rfl, rfl, rfl, trivial⟩ ?_
      refine NX.then ?_
      refine Tr.cond (.t rfl) (fun hb => ?_) (fun hb => ?_)
      rotate_left
      · exact absurd (hb.symm.trans (fr_go hni_6)) (by decide)
      ·
        refine Tr.skip' ?_
        refine NX.then ?_
        refine Tr.seq ?_
        refine Tr.block ?_
        refine Tr.seq ?_
        obtain ⟨y10, hy11, hr⟩ := bind_some hr
        obtain ⟨y12, hy13, hr⟩ := bind_some hr
        refine Tr.region_x (fun _ => false) (fun _ => false) (Ord.of [0, 1, 2, 3, 4, 5, 6, 7, 8]) FM (by kernel_rfl) ?_
        refine W.q rfl rfl rfl rfl (by decide) (Yd.mv rfl (.t rfl)) ?_
        refine W.q rfl rfl rfl rfl (by decide) (Yd.mv rfl (.t rfl)) ?_
        refine W.q rfl rfl rfl rfl (by decide) (Yd.idxR ha_0 hy11 rfl Try.underlying50 SZ24 (.t rfl) (.t rfl)) ?_
        refine W.q rfl rfl rfl rfl (by decide) (Yd.ldF ha_0 (.refl _) hy11 rfl rfl ON24 (.t rfl)) ?_
        refine W.q rfl rfl rfl rfl (by decide) (Yd.mv rfl (.t rfl)) ?_
        refine W.q rfl rfl rfl rfl (by decide) (Yd.mv rfl (.t rfl)) ?_
        refine W.q rfl rfl rfl rfl (by decide) (Yd.idxR hb_1 hy13 rfl Try.underlying50 SZ24 (.t rfl) (.t rfl)) ?_
        refine W.q rfl rfl rfl rfl (by decide) (Yd.ldF hb_1 (.refl _) hy13 rfl rfl ON24 (.t rfl)) ?_
        refine W.q rfl rfl rfl rfl (by decide) (Yd.neq rfl (.t rfl) (.t rfl)) ?_
        refine W.end ?_
        refine NX.sub (env' := [(0, _), (1, _), (5, _), (25, _)]) ⟨rfl, rfl, rfl, rfl, trivial⟩ ?_
        refine NX.then ?_
        refine Tr.cond (.t rfl) (fun hb => ?_) (fun hb => ?_)
        · have hr := cond_t hb hr
          refine Tr.seq ?_
          refine Tr.region_f (fun _ => false) ?_
          refine W.q rfl rfl rfl rfl (by decide) (Yd.as rfl .c) ?_
          refine W.end ?_
          refine NX.sub (env' := [(4, _)]) ⟨rfl, trivial⟩ ?_
          refine NX.then ?_
          refine Tr.ret' (RT.block (RT.then (RT.then (RT.block (RT.then ?_)))))
          refine res1 rfl rfl ?_
          intro w hc
          cases hr
          exact ⟨rfl, hc⟩
        · have hr := cond_f hb hr
          refine Tr.skip' ?_
          refine NX.block ?_
          refine NX.then ?_
          refine Tr.region_f (fun _ => false) ?_
          refine W.q rfl rfl rfl rfl (by decide) (Yd.mv rfl (.t rfl)) ?_
          refine W.q rfl rfl rfl rfl (by decide) (Yd.add rfl (.t rfl) .c) ?_
          refine W.q rfl rfl rfl rfl (by decide) (Yd.as rfl (.t rfl)) ?_
          refine W.end ?_
          refine NX.sub (env' := [(0, _), (1, _), (5, _)]) ⟨rfl, rfl, rfl, trivial⟩ ?_
          refine NX.sub (env' := [(0, _), (1, _), (5, _)]) ⟨rfl, rfl, rfl, trivial⟩ ?_
          have hw := w64_id (n := i_6 + 1) (by omega) (by omega)
          exact NX.again n9 (i_6 + 1, ()) (Nat.lt_succ_self _) ⟨(by rw [hw] <;> rfl), rfl, (fr_dec hni_6), (by omega), ((hnx8 _).symm.trans hr)⟩

def syllogistlaw_SumsGuards_k42 (r1 : (List Int) × Int) (l39 : List Int) : Option (Bool) :=
  bif (!((r1.2 == (0 : Int)) == true) || (syllogistref_Codes r1.1 l39).isSome) then
  some (((r1.2 == (0 : Int)) && (((syllogistref_Codes r1.1 l39).getD false)))) else none

def syllogistlaw_SumsGuards_b47 (n_0 : Int) (script_1 : List (BitVec 32)) (t_46 : Int) (given_32 : List (BitVec 32)) (l36 : List Int) (nx48 : ((List (BitVec 32)) × (List Int)) → Option (Bool)) : Option (Bool) :=
  (geti script_1 t_46).bind fun y50 =>
  bif decide ((([] : List (BitVec 32))).length + given_32.length ≤ 35184372088832) then
  bif decide (((([] : List (BitVec 32)) ++ given_32)).length + (([y50] : List (BitVec 32))).length ≤ 35184372088832) then
  (syllogistref_Told n_0 (((([] : List (BitVec 32)) ++ given_32) ++ ([y50] : List (BitVec 32))))).bind fun r60 =>
  (bif (r60 != 0#32) then
  bif decide (l36.length + (([(7 : Int)] : List Int)).length ≤ 17592186044416) then
  nx48 (given_32, (l36 ++ ([(7 : Int)] : List Int))) else none
  else
  bif decide (l36.length + (([(0 : Int)] : List Int)).length ≤ 17592186044416) then
  nx48 (((([] : List (BitVec 32)) ++ given_32) ++ ([y50] : List (BitVec 32))), (l36 ++ ([(0 : Int)] : List Int))) else none) else none else none

def syllogistlaw_SumsGuards (n_0 : Int) (script_1 : List (BitVec 32)) : Option (Bool) :=
  (sums_Guard n_0 script_1).bind fun r1 =>
  (syllogistref_AskedCheck n_0 script_1 (0#32)).bind fun r5 =>
  (bif (r5 != (0 : Int)) then
  some (((r1.2 == r5) && ((r1.1.length : Int) == (0 : Int))))
  else
  forK (σ := (List (BitVec 32)) × (List Int)) (fun i s nx_ => syllogistlaw_SumsGuards_b47 n_0 script_1 i s.1 s.2 nx_) (fun s => syllogistlaw_SumsGuards_k42 r1 s.2) ((script_1.length : Int) - (0 : Int)).toNat (0 : Int) ((([] : List (BitVec 32))), (([] : List Int))))

set_option maxRecDepth 100000 in
set_option maxHeartbeats 4000000 in
theorem syllogistlaw_SumsGuards_ok (w0 : World) (m : Snap) (l : List HI) (n_0 : Int) (uscript_1 : Value) (script_1 : List (BitVec 32)) (hscript_1 : RS rU m uscript_1 script_1) (r : Bool) (hr : syllogistlaw_SumsGuards n_0 script_1 = some r) (w : World) (hc : cX w0 ⟨m, l⟩ w) :
    Calls Try.prog 10 [.int .i64 n_0, uscript_1].toArray w fun e w' => e = .returned (.bool r) ∧ cX w0 ⟨m, l⟩ w' := by
  unfold syllogistlaw_SumsGuards at hr
  refine calls_of_Tr (N := 63) Try.func10 rfl hc rfl (Nat.le_of_ble_eq_true rfl) ?_
  refine Tr.seq ?_
  refine Tr.region_f (fun _ => false) ?_
  refine W.q rfl rfl rfl rfl (by decide) (Yd.as rfl .c) ?_
  refine W.end ?_
  refine NX.sub (env' := [(0, _), (1, _)]) ⟨rfl, rfl, trivial⟩ ?_
  refine NX.then ?_
  refine Tr.seq ?_
  obtain ⟨r1, hr2, hr⟩ := bind_some hr
  refine Tr.region_f (fun i => Nat.beq i 2) ?_
  refine W.q rfl rfl rfl rfl (by decide) (Yd.mv rfl (.t rfl)) ?_
  refine W.q rfl rfl rfl rfl (by decide) (Yd.mv rfl (.t rfl)) ?_
  refine W.e rfl rfl rfl rfl (by decide) (Ef.call (R := fun z x' => ∃ v3 : Value, z = .tuple #[v3, .int .i64 r1.2] ∧ x' = ⟨m, hownT 24 1 encI v3 r1.1 :: l⟩) rfl Try.func31 rfl rfl (.cons (.t rfl) (.cons (.t rfl) .nil)) (fun w hw => (sums_Guard_ok w0 _ _ n_0 _ _ hscript_1 _ hr2 w hw).mono fun e w' ⟨v3, he, hc'⟩ => ⟨_, _, he, ⟨v3, rfl, rfl⟩, hc'⟩)) ?_
  rintro _ _ ⟨v3, rfl, rfl⟩
  refine ⟨.inl rfl, ?_⟩
  refine W.cast (m' := m) (l' := hownT 24 1 encI v3 _ :: l) rfl rfl ?_
  refine W.q rfl rfl rfl rfl (by decide) (Yd.mv rfl (.t rfl)) ?_
  refine W.q rfl rfl rfl rfl (by decide) (Yd.ext rfl (.t rfl) rfl) ?_
  refine W.q rfl rfl rfl rfl (by decide) (Yd.ext rfl (.t rfl) rfl) ?_
  refine W.q rfl rfl rfl rfl (by decide) (Yd.as rfl (.t rfl)) ?_
  refine W.q rfl rfl rfl rfl (by decide) (Yd.as rfl (.t rfl)) ?_
  refine W.end ?_
  refine NX.sub (env' := [(0, _), (1, _), (5, _), (6, _)]) ⟨rfl, rfl, rfl, rfl, trivial⟩ ?_
  refine NX.then ?_
  refine Tr.seq ?_
  obtain ⟨r5, hr6, hr⟩ := bind_some hr
  refine Tr.region_f (fun _ => false) ?_
  refine W.q rfl rfl rfl rfl (by decide) (Yd.mv rfl (.t rfl)) ?_
  refine W.q rfl rfl rfl rfl (by decide) (Yd.mv rfl (.t rfl)) ?_
  refine W.q rfl rfl rfl rfl (by decide) (Yd.call (v := .int .i64 r5) rfl Try.func27 rfl rfl (.cons (.t rfl) (.cons (.t rfl) (.cons .c .nil))) (fun x' hx w hw => syllogistref_AskedCheck_ok w0 x'.m x'.l n_0 _ _ (hscript_1.mono hx.1) (0#32) _ hr6 w hw)) ?_
  refine W.q rfl rfl rfl rfl (by decide) (Yd.as rfl (.t rfl)) ?_
  refine W.end ?_
  refine NX.sub (env' := [(0, _), (1, _), (5, _), (6, _), (7, _)]) ⟨rfl, rfl, rfl, rfl, rfl, trivial⟩ ?_
  refine NX.then ?_
  refine Tr.seq ?_
  refine Tr.seq ?_
  refine Tr.region_f (fun _ => false) ?_
  refine W.q rfl rfl rfl rfl (by decide) (Yd.mv rfl (.t rfl)) ?_
  refine W.q rfl rfl rfl rfl (by decide) (Yd.neq rfl (.t rfl) .c) ?_
  refine W.end ?_
  refine NX.sub (env' := [(0, _), (1, _), (5, _), (6, _), (7, _), (23, _)]) ⟨rfl, rfl, rfl, rfl, rfl, rfl, trivial⟩ ?_
  refine NX.then ?_
  refine Tr.cond (.t rfl) (fun hb => ?_) (fun hb => ?_)
  · have hr := cond_t hb hr
    refine Tr.seq ?_
    refine Tr.region_f (fun _ => false) ?_
    refine W.q rfl rfl rfl rfl (by decide) (Yd.mv rfl (.t rfl)) ?_
    refine W.q rfl rfl rfl rfl (by decide) (Yd.mv rfl (.t rfl)) ?_
    refine W.q rfl rfl rfl rfl (by decide) (Yd.eql rfl (.t rfl) (.t rfl)) ?_
    refine W.q rfl rfl rfl rfl (by decide) (Yd.mv rfl (.t rfl)) ?_
    refine W.g rfl rfl rfl rfl rfl (.t rfl _) rfl (by decide) (fun hG => Yd.mv rfl (.t rfl)) ?_
    refine W.g rfl rfl rfl rfl rfl (.t rfl _) rfl (by decide) (fun hG => Yd.lenO (p := 0) rfl rfl Try.underlying50 (.g rfl hG)) ?_
    refine W.g rfl rfl rfl rfl rfl (.t rfl _) rfl (by decide) (fun hG => Yd.eql rfl (.g rfl hG) .c) ?_
    refine W.q rfl rfl rfl rfl (by decide) (Yd.and rfl (.t rfl) .c rfl rfl) ?_
    refine W.q rfl rfl rfl rfl (by decide) (Yd.as rfl (.t rfl)) ?_
    refine W.end ?_
    refine NX.sub (env' := [(4, _)]) ⟨rfl, trivial⟩ ?_
    refine NX.drop (l' := l) (.cons _ (.refl _)) ?_
    refine NX.then ?_
    refine Tr.ret' (RT.then ?_)
    refine res1 rfl rfl ?_
    intro w hc
    cases hr
    exact ⟨rfl, hc⟩
  · have hr := cond_f hb hr
    refine Tr.skip' ?_
    refine NX.then ?_
    refine Tr.seq ?_
    refine Tr.region_f (fun _ => false) ?_
    refine W.q rfl rfl rfl rfl (by decide) (Yd.as rfl .c) ?_
    refine W.end ?_
    refine NX.sub (env' := [(0, _), (1, _), (5, _), (6, _), (8, _)]) ⟨rfl, rfl, rfl, rfl, rfl, trivial⟩ ?_
    refine NX.then ?_
    refine Tr.seq ?_
    refine Tr.region_f (fun _ => false) ?_
    refine W.q rfl rfl rfl rfl (by decide) (Yd.as rfl .c) ?_
    refine W.end ?_
    refine NX.sub (env' := [(0, _), (1, _), (5, _), (6, _), (8, _), (9, _)]) ⟨rfl, rfl, rfl, rfl, rfl, rfl, trivial⟩ ?_
    refine NX.then ?_
    refine Tr.seq ?_
    refine Tr.seq ?_
    refine Tr.region_f (fun _ => false) ?_
    refine W.q rfl rfl rfl rfl (by decide) (Yd.mv rfl (.t rfl)) ?_
    refine W.q rfl rfl rfl rfl (by decide) (Yd.lenR hscript_1 rfl Try.underlying42 (.t rfl)) ?_
    refine W.q rfl rfl rfl rfl (by decide) (Yd.mv rfl .c) ?_
    refine W.end ?_
    refine NX.sub (env' := [(0, _), (5, _), (6, _), (8, _), (9, _), (32, _), (33, _), (34, _)]) ⟨rfl, rfl, rfl, rfl, rfl, rfl, rfl, rfl, trivial⟩ ?_
    refine NX.then ?_
    refine Tr.addnil 23 1 ?_
    refine Tr.addnil 24 1 ?_
    refine Tr.freezeT (enc := encU) (n := 1) (pos := 1) (xs := ([] : List (BitVec 32))) (fun _ => rfl) rfl (fun m23 hsm23 hu24 => ?_)
    have hscript_1 := hscript_1.mono hsm23
    refine Tr.cast (m' := m23) (l' := hownT 24 1 encI (.slice none 0 0) (([] : List Int)) :: hownT 24 1 encI v3 _ :: l) rfl rfl ?_
    refine Tr.join (S := fun env x => ∃ l39 : List Int, ∃ m41 : Snap, ∃ v40 : Value, Sle m23 m41 ∧ env = [(5, v3), (6, .int .i64 r1.2), (9, v40)] ∧ x = ⟨m41, hownT 24 1 encI v40 l39 :: hownT 24 1 encI v3 r1.1 :: l⟩ ∧ syllogistlaw_SumsGuards_k42 r1 l39 = some r) ?_ (fun hk43 => ?_)
    · rintro _ _ ⟨l39, m41, v40, hsm41, rfl, rfl, hr⟩
      unfold syllogistlaw_SumsGuards_k42 at hr
      try dsimp only at hr
      have hscript_1 := hscript_1.mono hsm41
      have hu24 := hu24.mono hsm41
      refine NX.then ?_
      refine Tr.seq ?_
      obtain ⟨ha44, hr⟩ := guard_some hr
      refine Tr.region_f (fun _ => false) ?_
      refine W.q rfl rfl rfl rfl (by decide) (Yd.mv rfl (.t rfl)) ?_
      refine W.q rfl rfl rfl rfl (by decide) (Yd.eql rfl (.t rfl) .c) ?_
      refine W.q rfl rfl rfl rfl (by decide) (Yd.mv rfl (.t rfl)) ?_
      refine W.g rfl rfl rfl rfl rfl (.t rfl _) rfl (by decide) (fun hG => Yd.mv rfl (.t rfl)) ?_
      refine W.g rfl rfl rfl rfl rfl (.t rfl _) rfl (by decide) (fun hG => Yd.mv rfl (.t rfl)) ?_
      refine W.g rfl rfl rfl rfl rfl (.t rfl _) rfl (by decide) (fun hG => Yd.call (v := .bool ((((syllogistref_Codes r1.1 l39).getD false)))) rfl Try.func32 rfl rfl (.cons (.g rfl hG) (.cons (.g rfl hG) .nil)) (by intro x' hx w hw; obtain ⟨p0, p1, hp0, hp1⟩ := hx.at2 (a := 1) (b := 0) rfl rfl rfl; obtain ⟨m1, hm1, hc1, ⟨L1, hl0a, hl0b'⟩, hback1⟩ := cX_lend hw hp0 lone_own; obtain ⟨m2, hm2', hc2, ⟨L2, hl1a, hl1b⟩, hback2⟩ := cX_lend hc1 hp1 lone_own; have hm2 := hm1.trans hm2'; have hl0b : ∀ q ∈ L1, m2 q.1 = some q.2 := fun q hq => hm2' _ _ (hl0b' q hq); have hL1 : RS rI m2 _ _ := RS_of_own hl0a hl0b; have hL2 : RS rI m2 _ _ := RS_of_own hl1a hl1b; exact (syllogistref_Codes_ok w0 m2 _ _ _ hL1 _ _ hL2 _ (gd_get (d := false) ha44 hG) w hc2).mono fun e w' ⟨he, hc'⟩ => ⟨he, (hback1 m1 _ _ w' (.refl _) hp0).2 ((hback2 m2 _ _ w' (.refl _) hp1).2 hc')⟩)) ?_
      refine W.q rfl rfl rfl rfl (by decide) (Yd.and rfl (.t rfl) .c rfl rfl) ?_
      refine W.q rfl rfl rfl rfl (by decide) (Yd.as rfl (.t rfl)) ?_
      refine W.end ?_
      refine NX.sub (env' := [(4, _)]) ⟨rfl, trivial⟩ ?_
      refine NX.drop (l' := l) (.cons _ (.cons _ (.refl _))) ?_
      refine NX.then ?_
      refine Tr.ret' ?_
      refine res1 rfl rfl ?_
      intro w hc
      cases hr
      exact ⟨rfl, (cX_le (x := ⟨m, _⟩) ⟨(hsm23.trans hsm41), [], rfl⟩ hc)⟩
    have hlen45 := (hscript_1).2.1
    refine Tr.block ?_
    refine Tr.sub (env' := [(0, _), (5, _), (6, _), (8, _), (9, _), (32, _), (33, _), (34, _)]) ⟨rfl, rfl, rfl, rfl, rfl, rfl, rfl, rfl, trivial⟩ ?_
    refine Tr.loop (S := fun n (z : Int × (List (BitVec 32)) × (List Int)) env x => match z with | (t_46, given_32, l36) => ∃ m38 : Snap, ∃ u33 : Value, ∃ v37 : Value, Sle m23 m38 ∧ RS rU m38 u33 given_32 ∧ env = [(0, .int .i64 n_0), (5, v3), (6, .int .i64 r1.2), (8, u33), (9, v37), (32, uscript_1), (33, .int .i64 ((script_1.length : Int))), (34, .int .i64 t_46)] ∧ x = ⟨m38, hownT 24 1 encI v37 l36 :: hownT 24 1 encI v3 r1.1 :: l⟩ ∧ n = ((script_1.length : Int) - t_46).toNat ∧ 0 ≤ t_46 ∧ forK (σ := (List (BitVec 32)) × (List Int)) (fun i s nx_ => syllogistlaw_SumsGuards_b47 n_0 script_1 i s.1 s.2 nx_) (fun s => syllogistlaw_SumsGuards_k42 r1 s.2) n t_46 (given_32, l36) = some r) _ ((0 : Int), ([] : List (BitVec 32)), ([] : List Int)) ⟨_, _, _, (.refl _), hu24, rfl, rfl, rfl, (by omega), hr⟩ ?_
    rintro n49 ⟨t_46, given_32, l36⟩ env x ⟨m38, u33, v37, hsm38, hu34, rfl, rfl, hnt_46, h0t_46, hr⟩
    have hscript_1 := hscript_1.mono hsm38
    have hu24 := hu24.mono hsm38
    cases n49 with
    | zero =>
      simp only [forK] at hr
      refine Tr.seq ?_
      refine Tr.region_f (fun _ => false) ?_
      refine W.q rfl rfl rfl rfl (by decide) (Yd.lss rfl (.t rfl) (.t rfl)) ?_
      refine W.end ?_
      refine NX.sub (env' := [(0, _), (5, _), (6, _), (8, _), (9, _), (32, _), (33, _), (34, _), (35, _)]) ⟨rfl, rfl, rfl, rfl, rfl, rfl, rfl, rfl, rfl, trivial⟩ ?_
      refine NX.then ?_
      refine Tr.seq ?_
      refine Tr.cond (.t rfl) (fun hb => ?_) (fun hb => ?_)
      · exact absurd (hb.symm.trans (fr_end hnt_46)) (by decide)
      ·
        refine Tr.exit' (EX.then (EX.then (EX.block ?_)))
        refine NX.sub (env' := [(5, _), (6, _), (9, _)]) ⟨rfl, rfl, rfl, trivial⟩ ?_
        exact hk43 _ _ ⟨_, _, _, hsm38, rfl, rfl, hr⟩
    | succ n49 =>
      obtain ⟨nx48, hnx48, hr⟩ := forK_succ hr
      try dsimp only at hr
      unfold syllogistlaw_SumsGuards_b47 at hr
      try dsimp only at hr
      have hltt_46 := fr_bnd hnt_46
      refine Tr.seq ?_
      refine Tr.region_f (fun _ => false) ?_
      refine W.q rfl rfl rfl rfl (by decide) (Yd.lss rfl (.t rfl) (.t rfl)) ?_
      refine W.end ?_
      refine NX.sub (env' := [(0, _), (5, _), (6, _), (8, _), (9, _), (32, _), (33, _), (34, _), (35, _)]) ⟨rfl, rfl, rfl, rfl, rfl, rfl, rfl, rfl, rfl, trivial⟩ ?_
      refine NX.then ?_
      refine Tr.seq ?_
      refine Tr.cond (.t rfl) (fun hb => ?_) (fun hb => ?_)
      rotate_left
      · exact absurd (hb.symm.trans (fr_go hnt_46)) (by decide)
      ·
        refine Tr.skip' ?_
        refine NX.then ?_
        refine Tr.seq ?_
        refine Tr.block ?_
        refine Tr.seq ?_
        obtain ⟨y50, hy51, hr⟩ := bind_some hr
        refine Tr.region_f (fun _ => false) ?_
        refine W.q rfl rfl rfl rfl (by decide) (Yd.idxR hscript_1 hy51 rfl Try.underlying42 SZ23 (.t rfl) (.t rfl)) ?_
        refine W.q rfl rfl rfl rfl (by decide) (Yd.ldF hscript_1 (.refl _) hy51 rfl rfl ON23 (.t rfl)) ?_
        refine W.q rfl rfl rfl rfl (by decide) (Yd.as rfl (.t rfl)) ?_
        refine W.end ?_
        refine NX.sub (env' := [(0, _), (5, _), (6, _), (8, _), (9, _), (32, _), (33, _), (34, _), (11, _)]) ⟨rfl, rfl, rfl, rfl, rfl, rfl, rfl, rfl, rfl, trivial⟩ ?_
        refine NX.then ?_
        refine Tr.seq ?_
        obtain ⟨hq55, hr⟩ := guard_some hr; replace hq55 := of_decide_eq_true hq55
        obtain ⟨hq59, hr⟩ := guard_some hr; replace hq59 := of_decide_eq_true hq59
        refine Tr.region_f (fun i => Nat.beq i 0 || Nat.beq i 2 || Nat.beq i 4 || Nat.beq i 5) ?_
        refine W.e rfl rfl rfl rfl (by decide) (Ef.bsT (enc := encU) (vs := []) (ys := []) (fun _ => rfl) IF23 rfl Try.underlying42 (by decide) rfl .nil rfl rfl (by decide)) ?_
        rintro v52 _ rfl
        refine ⟨.inl rfl, ?_⟩
        refine W.cast (m' := m38) (l' := hownT 23 1 encU v52 _ :: hownT 24 1 encI v37 _ :: hownT 24 1 encI v3 _ :: l) rfl rfl ?_
        refine W.q rfl rfl rfl rfl (by decide) (Yd.mv rfl (.t rfl)) ?_
        refine W.e rfl rfl rfl rfl (by decide) (Ef.apI (pos := 0) (enc := encU) (xs := ([] : List (BitVec 32))) (ys := given_32) (fun _ => rfl) IF23 rfl rfl Try.underlying42 rfl (by decide) (.t rfl) (.t rfl) (Src.rs (by decide) (.refl _) hu34) (fun _ => rfl) (by omega) (by omega)) ?_
        rintro v54 _ rfl
        refine ⟨.inl rfl, ?_⟩
        refine W.cast (m' := m38) (l' := hownT 23 1 encU v54 _ :: hownT 24 1 encI v37 _ :: hownT 24 1 encI v3 _ :: l) rfl rfl ?_
        refine W.q rfl rfl rfl rfl (by decide) (Yd.mv rfl (.t rfl)) ?_
        refine W.e rfl rfl rfl rfl (by decide) (Ef.bsT (enc := encU) (vs := [_]) (ys := [y50]) (fun _ => rfl) IF23 rfl Try.underlying42 (by decide) rfl (.cons (.t rfl) .nil) rfl rfl (by decide)) ?_
        rintro v56 _ rfl
        refine ⟨.inl rfl, ?_⟩
        refine W.cast (m' := m38) (l' := hownT 23 1 encU v56 _ :: hownT 23 1 encU v54 _ :: hownT 24 1 encI v37 _ :: hownT 24 1 encI v3 _ :: l) rfl rfl ?_
        refine W.e rfl rfl rfl rfl (by decide) (Ef.apI (pos := 1) (enc := encU) (xs := (([] : List (BitVec 32)) ++ given_32)) (ys := ([y50] : List (BitVec 32))) (fun _ => rfl) IF23 rfl rfl Try.underlying42 rfl (by decide) (.t rfl) (.t rfl) (Src.own (pos := 0) rfl) (fun _ => rfl) (by omega) (by omega)) ?_
        rintro v58 _ rfl
        refine ⟨.inl rfl, ?_⟩
        refine W.cast (m' := m38) (l' := hownT 23 1 encU v56 _ :: hownT 23 1 encU v58 _ :: hownT 24 1 encI v37 _ :: hownT 24 1 encI v3 _ :: l) rfl rfl ?_
        refine W.q rfl rfl rfl rfl (by decide) (Yd.as rfl (.t rfl)) ?_
        refine W.end ?_
        refine NX.sub (env' := [(0, _), (5, _), (6, _), (8, _), (9, _), (32, _), (33, _), (34, _), (12, _)]) ⟨rfl, rfl, rfl, rfl, rfl, rfl, rfl, rfl, rfl, trivial⟩ ?_
        refine NX.drop (l' := hownT 23 1 encU v58 _ :: hownT 24 1 encI v37 _ :: hownT 24 1 encI v3 _ :: l) (.cons _ (.cons_cons _ (.cons_cons _ (.cons_cons _ (.refl _))))) ?_
        refine NX.then ?_
        refine Tr.seq ?_
        obtain ⟨r60, hr61, hr⟩ := bind_some hr
        refine Tr.region_f (fun _ => false) ?_
        refine W.q rfl rfl rfl rfl (by decide) (Yd.mv rfl (.t rfl)) ?_
        refine W.q rfl rfl rfl rfl (by decide) (Yd.mv rfl (.t rfl)) ?_
        refine W.q rfl rfl rfl rfl (by decide) (Yd.call (v := .int .u32 (r60.toNat : Int)) rfl Try.func30 rfl rfl (.cons (.t rfl) (.cons (.t rfl) .nil)) (by intro x' hx w hw; obtain ⟨p0, hp0⟩ := hx.at (p := 0) rfl; obtain ⟨m2, hm2, hc2, ⟨L2, hl1, hl2⟩, hback⟩ := cX_lend hw hp0 lone_own; have hL1 : RS rU m2 _ _ := RS_of_own hl1 hl2; exact (syllogistref_Told_ok w0 m2 _ n_0 _ _ hL1 _ hr61 w hc2).mono fun e w' ⟨he, hc'⟩ => ⟨he, (hback m2 _ _ w' (.refl _) hp0).2 hc'⟩)) ?_
        refine W.q rfl rfl rfl rfl (by decide) (Yd.neqU (a := r60) (b := 0#32) rfl (.t rfl) .c) ?_
        refine W.end ?_
        refine NX.sub (env' := [(0, _), (5, _), (6, _), (8, _), (9, _), (32, _), (33, _), (34, _), (12, _), (47, _)]) ⟨rfl, rfl, rfl, rfl, rfl, rfl, rfl, rfl, rfl, rfl, trivial⟩ ?_
        refine NX.then ?_
        refine Tr.cond (.t rfl) (fun hb => ?_) (fun hb => ?_)
        · have hr := cond_t hb hr
          obtain ⟨hq65, hr⟩ := guard_some hr; replace hq65 := of_decide_eq_true hq65
          refine Tr.region_f (fun i => Nat.beq i 1 || Nat.beq i 2) ?_
          refine W.q rfl rfl rfl rfl (by decide) (Yd.mv rfl (.t rfl)) ?_
          refine W.e rfl rfl rfl rfl (by decide) (Ef.bsT (enc := encI) (vs := [_]) (ys := [(7 : Int)]) (fun _ => rfl) IF24 rfl Try.underlying50 (by decide) rfl (.cons .c .nil) rfl rfl (by decide)) ?_
          rintro v62 _ rfl
          refine ⟨.inl rfl, ?_⟩
          refine W.cast (m' := m38) (l' := hownT 24 1 encI v62 _ :: hownT 23 1 encU v58 _ :: hownT 24 1 encI v37 _ :: hownT 24 1 encI v3 _ :: l) rfl rfl ?_
          refine W.e rfl rfl rfl rfl (by decide) (Ef.apI (pos := 2) (enc := encI) (xs := l36) (ys := ([(7 : Int)] : List Int)) (fun _ => rfl) IF24 rfl rfl Try.underlying50 rfl (by decide) (.t rfl) (.t rfl) (Src.own (pos := 0) rfl) (fun _ => rfl) (by omega) (by omega)) ?_
          rintro v64 _ rfl
          refine ⟨.inl rfl, ?_⟩
          refine W.cast (m' := m38) (l' := hownT 24 1 encI v62 _ :: hownT 23 1 encU v58 _ :: hownT 24 1 encI v64 _ :: hownT 24 1 encI v3 _ :: l) rfl rfl ?_
          refine W.q rfl rfl rfl rfl (by decide) (Yd.as rfl (.t rfl)) ?_
          refine W.end ?_
          refine NX.sub (env' := [(0, _), (5, _), (6, _), (8, _), (9, _), (32, _), (33, _), (34, _)]) ⟨rfl, rfl, rfl, rfl, rfl, rfl, rfl, rfl, trivial⟩ ?_
          refine NX.drop (l' := hownT 24 1 encI v64 _ :: hownT 24 1 encI v3 _ :: l) (.cons _ (.cons _ (.cons_cons _ (.cons_cons _ (.refl _))))) ?_
          refine NX.block ?_
          refine NX.then ?_
          refine Tr.region_f (fun _ => false) ?_
          refine W.q rfl rfl rfl rfl (by decide) (Yd.add rfl (.t rfl) .c) ?_
          refine W.q rfl rfl rfl rfl (by decide) (Yd.mv rfl (.t rfl)) ?_
          refine W.end ?_
          refine NX.sub (env' := [(0, _), (5, _), (6, _), (8, _), (9, _), (32, _), (33, _), (34, _)]) ⟨rfl, rfl, rfl, rfl, rfl, rfl, rfl, rfl, trivial⟩ ?_
          refine NX.sub (env' := [(0, _), (5, _), (6, _), (8, _), (9, _), (32, _), (33, _), (34, _)]) ⟨rfl, rfl, rfl, rfl, rfl, rfl, rfl, rfl, trivial⟩ ?_
          have hw := w64_id (n := t_46 + 1) (by omega) (by omega)
          exact NX.again n49 (t_46 + 1, given_32, (l36 ++ ([(7 : Int)] : List Int))) (Nat.lt_succ_self _) ⟨_, _, _, hsm38, hu34, (by rw [hw] <;> rfl), rfl, (fr_dec hnt_46), (by omega), ((hnx48 _).symm.trans hr)⟩
        · have hr := cond_f hb hr
          refine Tr.seq ?_
          obtain ⟨hq69, hr⟩ := guard_some hr; replace hq69 := of_decide_eq_true hq69
          refine Tr.region_f (fun i => Nat.beq i 1 || Nat.beq i 2) ?_
          refine W.q rfl rfl rfl rfl (by decide) (Yd.mv rfl (.t rfl)) ?_
          refine W.e rfl rfl rfl rfl (by decide) (Ef.bsT (enc := encI) (vs := [_]) (ys := [(0 : Int)]) (fun _ => rfl) IF24 rfl Try.underlying50 (by decide) rfl (.cons .c .nil) rfl rfl (by decide)) ?_
          rintro v66 _ rfl
          refine ⟨.inl rfl, ?_⟩
          refine W.cast (m' := m38) (l' := hownT 24 1 encI v66 _ :: hownT 23 1 encU v58 _ :: hownT 24 1 encI v37 _ :: hownT 24 1 encI v3 _ :: l) rfl rfl ?_
          refine W.e rfl rfl rfl rfl (by decide) (Ef.apI (pos := 2) (enc := encI) (xs := l36) (ys := ([(0 : Int)] : List Int)) (fun _ => rfl) IF24 rfl rfl Try.underlying50 rfl (by decide) (.t rfl) (.t rfl) (Src.own (pos := 0) rfl) (fun _ => rfl) (by omega) (by omega)) ?_
          rintro v68 _ rfl
          refine ⟨.inl rfl, ?_⟩
          refine W.cast (m' := m38) (l' := hownT 24 1 encI v66 _ :: hownT 23 1 encU v58 _ :: hownT 24 1 encI v68 _ :: hownT 24 1 encI v3 _ :: l) rfl rfl ?_
          refine W.q rfl rfl rfl rfl (by decide) (Yd.as rfl (.t rfl)) ?_
          refine W.end ?_
          refine NX.sub (env' := [(0, _), (5, _), (6, _), (9, _), (32, _), (33, _), (34, _), (12, _)]) ⟨rfl, rfl, rfl, rfl, rfl, rfl, rfl, rfl, trivial⟩ ?_
          refine NX.drop (l' := hownT 23 1 encU v58 _ :: hownT 24 1 encI v68 _ :: hownT 24 1 encI v3 _ :: l) (.cons _ (.cons_cons _ (.cons_cons _ (.cons_cons _ (.refl _))))) ?_
          refine NX.then ?_
          refine Tr.region_f (fun _ => false) ?_
          refine W.q rfl rfl rfl rfl (by decide) (Yd.mv rfl (.t rfl)) ?_
          refine W.q rfl rfl rfl rfl (by decide) (Yd.as rfl (.t rfl)) ?_
          refine W.end ?_
          refine NX.sub (env' := [(0, _), (5, _), (6, _), (9, _), (32, _), (33, _), (34, _), (8, _)]) ⟨rfl, rfl, rfl, rfl, rfl, rfl, rfl, rfl, trivial⟩ ?_
          refine NX.block ?_
          refine NX.then ?_
          refine Tr.region_f (fun _ => false) ?_
          refine W.q rfl rfl rfl rfl (by decide) (Yd.add rfl (.t rfl) .c) ?_
          refine W.q rfl rfl rfl rfl (by decide) (Yd.mv rfl (.t rfl)) ?_
          refine W.end ?_
          refine NX.sub (env' := [(0, _), (5, _), (6, _), (9, _), (32, _), (33, _), (34, _), (8, _)]) ⟨rfl, rfl, rfl, rfl, rfl, rfl, rfl, rfl, trivial⟩ ?_
          refine NX.freezeT (enc := encU) (n := 1) (pos := 0) (xs := ((([] : List (BitVec 32)) ++ given_32) ++ ([y50] : List (BitVec 32)))) (fun _ => rfl) rfl (fun m70 hsm70 hu71 => ?_)
          have hscript_1 := hscript_1.mono hsm70
          have hu24 := hu24.mono hsm70
          have hu34 := hu34.mono hsm70
          refine NX.cast (m' := m70) (l' := hownT 24 1 encI v68 _ :: hownT 24 1 encI v3 _ :: l) rfl rfl ?_
          refine NX.sub (env' := [(0, _), (5, _), (6, _), (8, _), (9, _), (32, _), (33, _), (34, _)]) ⟨rfl, rfl, rfl, rfl, rfl, rfl, rfl, rfl, trivial⟩ ?_
          have hw := w64_id (n := t_46 + 1) (by omega) (by omega)
          exact NX.again n49 (t_46 + 1, ((([] : List (BitVec 32)) ++ given_32) ++ ([y50] : List (BitVec 32))), (l36 ++ ([(0 : Int)] : List Int))) (Nat.lt_succ_self _) ⟨_, _, _, (hsm38.trans hsm70), hu71, (by rw [hw] <;> rfl), rfl, (fr_dec hnt_46), (by omega), ((hnx48 _).symm.trans hr)⟩
end Go.Proofs.Ytoninfimcobeiaa.Sy
