/- Functions of the program as plain functions, and that the translation computes them; the conditions stand in each theorem. Printed by an own program. -/
import Derived.Test.YtajgcmeegencoaaSyZ
import Derived.Test.YtajgcmeegencoaaSyT
import Derived.Test.YtajgcmeegencoaaT
import Derived.Test.YtajgcmeegencoaaProg
namespace Go.Proofs.Ytajgcmeegencoaa.Sy
open Go
set_option linter.unusedVariables false
theorem ON22 : one Try.prog 22 = true := by kernel_rfl
theorem SZ3 : (Try.prog.info? 3).map (·.size) = some 1 := by kernel_rfl
theorem ON3 : one Try.prog 3 = true := by kernel_rfl
structure T38 where
  firm : List Int
  class_ : List Int
  read : List (BitVec 32)
  knows : List (BitVec 32)
  from_ : List (BitVec 32)
def P38 (m : Snap) (z : Value) : Option T38 → Prop
  | none => z = .pointer none
  | some x => ∃ (b : Nat) (u0 u1 u2 u3 u4 : Value), z = bp b 0 ∧ Bk m b 38 [u0, u1, u2, u3, u4] ∧ RS rI m u0 x.firm ∧ RS rI m u1 x.class_ ∧ RS rU m u2 x.read ∧ RS rU m u3 x.knows ∧ RS rU m u4 x.from_
theorem P38.mono {m m' : Snap} {z : Value} {o : Option T38} (hm : Sle m m') (h : P38 m z o) : P38 m' z o := by
  cases o with
  | none => exact h
  | some x =>
    obtain ⟨b, u0, u1, u2, u3, u4, hz, hb, h0, h1, h2, h3, h4⟩ := h
    exact ⟨b, u0, u1, u2, u3, u4, hz, hb.mono hm, h0.mono hm, h1.mono hm, h2.mono hm, h3.mono hm, h4.mono hm⟩
theorem ON36 : one Try.prog 36 = true := by kernel_rfl
theorem SZ22 : (Try.prog.info? 22).map (·.size) = some 1 := by kernel_rfl
theorem SZ25 : (Try.prog.info? 25).map (·.size) = some 1 := by kernel_rfl
theorem ON25 : one Try.prog 25 = true := by kernel_rfl
theorem SZ39 : (Try.prog.info? 39).map (·.size) = some 1 := by kernel_rfl
theorem ON39 : one Try.prog 39 = true := by kernel_rfl
theorem ZR3 : (Try.prog.info? 3).bind (·.zero) = some (.int .i64 0) := by kernel_rfl
theorem ZR27 : (Try.prog.info? 27).bind (·.zero) = some (.agg #[.slice none 0 0, .slice none 0 0, .slice none 0 0]) := by kernel_rfl
theorem ZI27 : (Try.prog.info? 27).bind (·.zero) = some (.agg #[.slice none 0 0, .slice none 0 0, .slice none 0 0]) := by kernel_rfl
theorem PL27 : plS Try.prog 27 = some [(0, 1), (1, 1), (2, 1)] := by kernel_rfl
theorem SZ27 : (Try.prog.info? 27).map (·.size) = some 3 := by kernel_rfl
theorem ON27 : one Try.prog 27 = false := by kernel_rfl
theorem US27 : (Try.prog.underlying 27).isSome = true := by kernel_rfl
theorem IF39 : (Try.prog.info? 39).map (fun i => (i.zero, i.size, i.bytes)) = some (some (.int .u32 0), 1, 4) := by kernel_rfl
theorem ZI38 : (Try.prog.info? 38).bind (·.zero) = some (.agg #[.slice none 0 0, .slice none 0 0, .slice none 0 0, .slice none 0 0, .slice none 0 0]) := by kernel_rfl
theorem PL38 : plS Try.prog 38 = some [(0, 1), (1, 1), (2, 1), (3, 1), (4, 1)] := by kernel_rfl
theorem SZ43 : (Try.prog.info? 43).map (·.size) = some 6 := by kernel_rfl
theorem ON43 : one Try.prog 43 = false := by kernel_rfl
theorem US43 : (Try.prog.underlying 43).isSome = true := by kernel_rfl
theorem ZR43 : (Try.prog.info? 43).bind (·.zero) = some (.agg #[.int .i64 0, .int .i64 0, .int .i64 0, .int .i64 0, .int .u32 0, .int .i64 0]) := by kernel_rfl
theorem IF28 : (Try.prog.info? 28).map (fun i => (i.zero, i.size, i.bytes)) = some (some (.int .i64 0), 1, 8) := by kernel_rfl
theorem IF22 : (Try.prog.info? 22).map (fun i => (i.zero, i.size, i.bytes)) = some (some (.slice none 0 0), 1, 24) := by kernel_rfl
theorem US3 : (Try.prog.underlying 3).isSome = true := by kernel_rfl
theorem IF3 : (Try.prog.info? 3).map (fun i => (i.zero, i.size, i.bytes)) = some (some (.int .i64 0), 1, 8) := by kernel_rfl
theorem SZ24 : (Try.prog.info? 24).map (·.size) = some 1 := by kernel_rfl
theorem ON24 : one Try.prog 24 = true := by kernel_rfl
theorem SZ28 : (Try.prog.info? 28).map (·.size) = some 1 := by kernel_rfl
theorem ON28 : one Try.prog 28 = true := by kernel_rfl
theorem FM : Try.prog.follows .mixedOrders = true := by kernel_rfl

def wall_wrong_c1 (f_0 : Int) (cp_0 : List Int) : Option (Bool) :=
  some (((decide (f_0 < (-1 : Int))) || (decide (f_0 ≥ (cp_0.length : Int)))))

set_option maxRecDepth 100000 in
set_option maxHeartbeats 4000000 in
theorem wall_wrong_c1_ok (w0 : World) (m : Snap) (l : List HI) (f_0 : Int) (fp0 fb0 : Nat) (uc_0 : Value) (cp_0 : List Int) (hc_0 : RS rI m uc_0 cp_0) (hfp0 : l[fp0]? = some (hcells fb0 [uc_0] 22)) (r : Bool) (hr : wall_wrong_c1 f_0 cp_0 = some r) (w : World) (hc : cX w0 ⟨m, l⟩ w) :
    Calls Try.prog 13 [.int .i64 f_0, bp fb0 0].toArray w fun e w' => e = .returned (.bool r) ∧ cX w0 ⟨m, l⟩ w' := by
  unfold wall_wrong_c1 at hr
  refine calls_of_Tr (N := 12) Try.func13 rfl hc rfl (Nat.le_of_ble_eq_true rfl) ?_
  refine Tr.seq ?_
  refine Tr.region_f (fun _ => false) ?_
  refine W.q rfl rfl rfl rfl (by decide) (Yd.as rfl .c) ?_
  refine W.end ?_
  refine NX.sub (env' := [(0, _), (1, _)]) ⟨rfl, rfl, trivial⟩ ?_
  refine NX.then ?_
  refine Tr.seq ?_
  refine Tr.region_f (fun _ => false) ?_
  refine W.q rfl rfl rfl rfl (by decide) (Yd.mv rfl (.t rfl)) ?_
  refine W.q rfl rfl rfl rfl (by decide) (Yd.lss rfl (.t rfl) .c) ?_
  refine W.q rfl rfl rfl rfl (by decide) (Yd.mv rfl (.t rfl)) ?_
  refine W.g rfl rfl rfl rfl rfl (.t rfl _) rfl (by decide) (fun hG => Yd.mv rfl (.t rfl)) ?_
  refine W.g rfl rfl rfl rfl rfl (.t rfl _) rfl (by decide) (fun hG => Yd.ldB (pos := fp0) hfp0 rfl rfl ON22 (.t rfl)) ?_
  refine W.g rfl rfl rfl rfl rfl (.t rfl _) rfl (by decide) (fun hG => Yd.lenR hc_0 rfl Try.underlying22 (.g rfl hG)) ?_
  refine W.g rfl rfl rfl rfl rfl (.t rfl _) rfl (by decide) (fun hG => Yd.geq rfl (.g rfl hG) (.g rfl hG)) ?_
  refine W.q rfl rfl rfl rfl (by decide) (Yd.or rfl (.t rfl) .c rfl rfl) ?_
  refine W.q rfl rfl rfl rfl (by decide) (Yd.as rfl (.t rfl)) ?_
  refine W.end ?_
  refine NX.sub (env' := [(3, _)]) ⟨rfl, trivial⟩ ?_
  refine NX.then ?_
  refine Tr.ret' ?_
  refine res1 rfl rfl ?_
  intro w hc
  cases hr
  exact ⟨rfl, hc⟩

def slices_IndexFunc_Sintint_k3 : Option (Int) :=
  some ((-1 : Int))

def slices_IndexFunc_Sintint_b7 (s_0 : List Int) (f_1 : Int → Option Bool) (t_6 : Int) (nx8 : Unit → Option (Int)) : Option (Int) :=
  (geti s_0 t_6).bind fun y10 =>
  (f_1 y10).bind fun r12 =>
  (bif r12 then
  some t_6
  else
  nx8 ())

def slices_IndexFunc_Sintint (s_0 : List Int) (f_1 : Int → Option Bool) : Option (Int) :=
  forK (σ := Unit) (fun i s nx_ => slices_IndexFunc_Sintint_b7 s_0 f_1 i nx_) (fun _ => slices_IndexFunc_Sintint_k3) ((s_0.length : Int) - (0 : Int)).toNat (0 : Int) ()

set_option maxRecDepth 100000 in
set_option maxHeartbeats 4000000 in
theorem slices_IndexFunc_Sintint_ok (w0 : World) (m : Snap) (l : List HI) (us_0 : Value) (s_0 : List Int) (hs_0 : RS rI m us_0 s_0) (uf_1 : Value) (f_1 : Int → Option Bool) (hf_1 : Fq Try.prog w0 ⟨m, l⟩ uf_1 (α := Int) (β := Bool) (fun _ v a => v = .int .i64 a) (fun b => .bool b) f_1) (r : Int) (hr : slices_IndexFunc_Sintint s_0 f_1 = some r) (w : World) (hc : cX w0 ⟨m, l⟩ w) :
    Calls Try.prog 17 [us_0, uf_1].toArray w fun e w' => e = .returned (.int .i64 r) ∧ cX w0 ⟨m, l⟩ w' := by
  unfold slices_IndexFunc_Sintint at hr
  refine calls_of_Tr (N := 19) Try.func17 rfl hc rfl (Nat.le_of_ble_eq_true rfl) ?_
  refine Tr.seq ?_
  refine Tr.region_f (fun _ => false) ?_
  refine W.q rfl rfl rfl rfl (by decide) (Yd.as rfl .c) ?_
  refine W.end ?_
  refine NX.sub (env' := [(0, _), (1, _)]) ⟨rfl, rfl, trivial⟩ ?_
  refine NX.then ?_
  refine Tr.seq ?_
  refine Tr.seq ?_
  refine Tr.region_f (fun _ => false) ?_
  refine W.q rfl rfl rfl rfl (by decide) (Yd.mv rfl (.t rfl)) ?_
  refine W.q rfl rfl rfl rfl (by decide) (Yd.lenR hs_0 rfl Try.underlying22 (.t rfl)) ?_
  refine W.q rfl rfl rfl rfl (by decide) (Yd.mv rfl .c) ?_
  refine W.end ?_
  refine NX.sub (env' := [(0, _), (1, _), (7, _), (8, _)]) ⟨rfl, rfl, rfl, rfl, trivial⟩ ?_
  refine NX.then ?_
  refine Tr.join (S := fun env x => env = [] ∧ x = ⟨m, l⟩ ∧ slices_IndexFunc_Sintint_k3 = some r) ?_ (fun hk4 => ?_)
  · rintro _ _ ⟨rfl, rfl, hr⟩
    unfold slices_IndexFunc_Sintint_k3 at hr
    try dsimp only at hr
    refine NX.then ?_
    refine Tr.seq ?_
    refine Tr.region_f (fun _ => false) ?_
    refine W.q rfl rfl rfl rfl (by decide) (Yd.as rfl .c) ?_
    refine W.end ?_
    refine NX.sub (env' := [(4, _)]) ⟨rfl, trivial⟩ ?_
    refine NX.then ?_
    refine Tr.ret' ?_
    refine res1 rfl rfl ?_
    intro w hc
    cases hr
    exact ⟨rfl, hc⟩
  have hlen5 := (hs_0).2.1
  refine Tr.block ?_
  refine Tr.sub (env' := [(0, _), (1, _), (7, _), (8, _)]) ⟨rfl, rfl, rfl, rfl, trivial⟩ ?_
  refine Tr.loop (S := fun n (z : Int × Unit) env x => match z with | (t_6, _) => env = [(0, us_0), (1, uf_1), (7, .int .i64 ((s_0.length : Int))), (8, .int .i64 t_6)] ∧ x = ⟨m, l⟩ ∧ n = ((s_0.length : Int) - t_6).toNat ∧ 0 ≤ t_6 ∧ forK (σ := Unit) (fun i s nx_ => slices_IndexFunc_Sintint_b7 s_0 f_1 i nx_) (fun _ => slices_IndexFunc_Sintint_k3) n t_6 () = some r) _ ((0 : Int), ()) ⟨rfl, rfl, rfl, (by omega), hr⟩ ?_
  rintro n9 ⟨t_6, _⟩ env x ⟨rfl, rfl, hnt_6, h0t_6, hr⟩
  cases n9 with
  | zero =>
    simp only [forK] at hr
    refine Tr.seq ?_
    refine Tr.region_f (fun _ => false) ?_
    refine W.q rfl rfl rfl rfl (by decide) (Yd.lss rfl (.t rfl) (.t rfl)) ?_
    refine W.end ?_
    refine NX.sub (env' := [(0, _), (1, _), (7, _), (8, _), (9, _)]) ⟨rfl, rfl, rfl, rfl, rfl, trivial⟩ ?_
    refine NX.then ?_
    refine Tr.seq ?_
    refine Tr.cond (.t rfl) (fun hb => ?_) (fun hb => ?_)
    · exact absurd (hb.symm.trans (fr_end hnt_6)) (by decide)
    ·
      refine Tr.exit' (EX.then (EX.then (EX.block ?_)))
      refine NX.sub (env' := []) trivial ?_
      exact hk4 _ _ ⟨rfl, rfl, hr⟩
  | succ n9 =>
    obtain ⟨nx8, hnx8, hr⟩ := forK_succ hr
    try dsimp only at hr
    unfold slices_IndexFunc_Sintint_b7 at hr
    try dsimp only at hr
    have hltt_6 := fr_bnd hnt_6
    refine Tr.seq ?_
    refine Tr.region_f (fun _ => false) ?_
    refine W.q rfl rfl rfl rfl (by decide) (Yd.lss rfl (.t rfl) (.t rfl)) ?_
    refine W.end ?_
    refine NX.sub (env' := [(0, _), (1, _), (7, _), (8, _), (9, _)]) ⟨rfl, rfl, rfl, rfl, rfl, trivial⟩ ?_
    refine NX.then ?_
    refine Tr.seq ?_
    refine Tr.cond (.t rfl) (fun hb => ?_) (fun hb => ?_)
    rotate_left
    · exact absurd (hb.symm.trans (fr_go hnt_6)) (by decide)
    ·
      refine Tr.skip' ?_
      refine NX.then ?_
      refine Tr.seq ?_
      refine Tr.block ?_
      refine Tr.seq ?_
      refine Tr.region_f (fun _ => false) ?_
      refine W.q rfl rfl rfl rfl (by decide) (Yd.mv rfl (.t rfl)) ?_
      refine W.q rfl rfl rfl rfl (by decide) (Yd.as rfl (.t rfl)) ?_
      refine W.end ?_
      refine NX.sub (env' := [(0, _), (1, _), (7, _), (8, _), (5, _)]) ⟨rfl, rfl, rfl, rfl, rfl, trivial⟩ ?_
      refine NX.then ?_
      refine Tr.seq ?_
      obtain ⟨y10, hy11, hr⟩ := bind_some hr
      obtain ⟨r12, hr13, hr⟩ := bind_some hr
      refine Tr.region_f (fun _ => false) ?_
      refine W.q rfl rfl rfl rfl (by decide) (Yd.mv rfl (.t rfl)) ?_
      refine W.q rfl rfl rfl rfl (by decide) (Yd.mv rfl (.t rfl)) ?_
      refine W.q rfl rfl rfl rfl (by decide) (Yd.mv rfl (.t rfl)) ?_
      refine W.q rfl rfl rfl rfl (by decide) (Yd.idxR hs_0 hy11 rfl Try.underlying22 SZ3 (.t rfl) (.t rfl)) ?_
      refine W.q rfl rfl rfl rfl (by decide) (Yd.ldF hs_0 (.refl _) hy11 rfl rfl ON3 (.t rfl)) ?_
      refine W.q rfl rfl rfl rfl (by decide) (Yd.callF hf_1 ⟨(.refl _), [], rfl⟩ rfl (.t rfl) (.t rfl) (fun _ _ => rfl) hr13) ?_
      refine W.end ?_
      refine NX.sub (env' := [(0, _), (1, _), (7, _), (8, _), (5, _), (16, _)]) ⟨rfl, rfl, rfl, rfl, rfl, rfl, trivial⟩ ?_
      refine NX.then ?_
      refine Tr.cond (.t rfl) (fun hb => ?_) (fun hb => ?_)
      · have hr := cond_t hb hr
        refine Tr.seq ?_
        refine Tr.region_f (fun _ => false) ?_
        refine W.q rfl rfl rfl rfl (by decide) (Yd.mv rfl (.t rfl)) ?_
        refine W.q rfl rfl rfl rfl (by decide) (Yd.as rfl (.t rfl)) ?_
        refine W.end ?_
        refine NX.sub (env' := [(4, _)]) ⟨rfl, trivial⟩ ?_
        refine NX.then ?_
        refine Tr.ret' (RT.block (RT.then (RT.then (RT.block (RT.then ?_)))))
        refine res1 rfl rfl ?_
        intro w hc
        cases hr
        exact ⟨rfl, hc⟩
      · have hr := cond_f hb hr
        refine Tr.skip' ?_
        refine NX.block ?_
        refine NX.then ?_
        refine Tr.region_f (fun _ => false) ?_
        refine W.q rfl rfl rfl rfl (by decide) (Yd.add rfl (.t rfl) .c) ?_
        refine W.q rfl rfl rfl rfl (by decide) (Yd.mv rfl (.t rfl)) ?_
        refine W.end ?_
        refine NX.sub (env' := [(0, _), (1, _), (7, _), (8, _)]) ⟨rfl, rfl, rfl, rfl, trivial⟩ ?_
        refine NX.sub (env' := [(0, _), (1, _), (7, _), (8, _)]) ⟨rfl, rfl, rfl, rfl, trivial⟩ ?_
        have hw := w64_id (n := t_6 + 1) (by omega) (by omega)
        exact NX.again n9 (t_6 + 1, ()) (Nat.lt_succ_self _) ⟨(by rw [hw] <;> rfl), rfl, (fr_dec hnt_6), (by omega), ((hnx8 _).symm.trans hr)⟩

def slices_ContainsFunc_Sintint (s_0 : List Int) (f_1 : Int → Option Bool) : Option (Bool) :=
  (slices_IndexFunc_Sintint s_0 f_1).bind fun r1 =>
  some ((decide (r1 ≥ (0 : Int))))

set_option maxRecDepth 100000 in
set_option maxHeartbeats 4000000 in
theorem slices_ContainsFunc_Sintint_ok (w0 : World) (m : Snap) (l : List HI) (us_0 : Value) (s_0 : List Int) (hs_0 : RS rI m us_0 s_0) (uf_1 : Value) (f_1 : Int → Option Bool) (hf_1 : Fq Try.prog w0 ⟨m, l⟩ uf_1 (α := Int) (β := Bool) (fun _ v a => v = .int .i64 a) (fun b => .bool b) f_1) (r : Bool) (hr : slices_ContainsFunc_Sintint s_0 f_1 = some r) (w : World) (hc : cX w0 ⟨m, l⟩ w) :
    Calls Try.prog 12 [us_0, uf_1].toArray w fun e w' => e = .returned (.bool r) ∧ cX w0 ⟨m, l⟩ w' := by
  unfold slices_ContainsFunc_Sintint at hr
  refine calls_of_Tr (N := 9) Try.func12 rfl hc rfl (Nat.le_of_ble_eq_true rfl) ?_
  refine Tr.seq ?_
  refine Tr.region_f (fun _ => false) ?_
  refine W.q rfl rfl rfl rfl (by decide) (Yd.as rfl .c) ?_
  refine W.end ?_
  refine NX.sub (env' := [(0, _), (1, _)]) ⟨rfl, rfl, trivial⟩ ?_
  refine NX.then ?_
  refine Tr.seq ?_
  obtain ⟨r1, hr2, hr⟩ := bind_some hr
  refine Tr.region_f (fun _ => false) ?_
  refine W.q rfl rfl rfl rfl (by decide) (Yd.mv rfl (.t rfl)) ?_
  refine W.q rfl rfl rfl rfl (by decide) (Yd.mv rfl (.t rfl)) ?_
  refine W.q rfl rfl rfl rfl (by decide) (Yd.call (v := .int .i64 r1) rfl Try.func17 rfl rfl (.cons (.t rfl) (.cons (.t rfl) .nil)) (fun x' hx w hw => slices_IndexFunc_Sintint_ok w0 x'.m x'.l _ _ (hs_0.mono hx.1) _ f_1 (hf_1.mono (leX_trans _ _ _ ⟨(.refl _), [], rfl⟩ hx)) _ hr2 w hw)) ?_
  refine W.q rfl rfl rfl rfl (by decide) (Yd.geq rfl (.t rfl) .c) ?_
  refine W.q rfl rfl rfl rfl (by decide) (Yd.as rfl (.t rfl)) ?_
  refine W.end ?_
  refine NX.sub (env' := [(4, _)]) ⟨rfl, trivial⟩ ?_
  refine NX.then ?_
  refine Tr.ret' ?_
  refine res1 rfl rfl ?_
  intro w hc
  cases hr
  exact ⟨rfl, hc⟩

def wall_wrong (firm_0 : List Int) (class_1 : List Int) : Option (Int) :=
  (bif ((decide ((firm_0.length : Int) > (8 : Int))) || (decide ((class_1.length : Int) > (8 : Int)))) then
  some ((1 : Int))
  else
  (slices_ContainsFunc_Sintint firm_0 (fun a => wall_wrong_c1 a class_1)).bind fun r3 =>
  (bif r3 then
  some ((2 : Int))
  else
  some ((0 : Int))))

set_option maxRecDepth 100000 in
set_option maxHeartbeats 4000000 in
theorem wall_wrong_ok (w0 : World) (m : Snap) (l : List HI) (ufirm_0 : Value) (firm_0 : List Int) (hfirm_0 : RS rI m ufirm_0 firm_0) (uclass_1 : Value) (class_1 : List Int) (hclass_1 : RS rI m uclass_1 class_1) (r : Int) (hr : wall_wrong firm_0 class_1 = some r) (w : World) (hc : cX w0 ⟨m, l⟩ w) :
    Calls Try.prog 9 [ufirm_0, uclass_1].toArray w fun e w' => e = .returned (.int .i64 r) ∧ cX w0 ⟨m, l⟩ w' := by
  unfold wall_wrong at hr
  refine calls_of_Tr (N := 16) Try.func9 rfl hc rfl (Nat.le_of_ble_eq_true rfl) ?_
  refine Tr.seq ?_
  refine Tr.region_f (fun i => Nat.beq i 0) ?_
  refine W.e rfl rfl rfl rfl (by decide) (Ef.bx (us := [uclass_1]) rfl (.t rfl) (RS.cells hclass_1)) ?_
  rintro _ _ ⟨b1, rfl, rfl⟩
  refine ⟨.inl rfl, ?_⟩
  refine W.cast (m' := m) (l' := hcells b1 [_] 22 :: l) rfl rfl ?_
  refine W.q rfl rfl rfl rfl (by decide) (Yd.as rfl .c) ?_
  refine W.end ?_
  refine NX.sub (env' := [(0, _), (3, _)]) ⟨rfl, rfl, trivial⟩ ?_
  refine NX.then ?_
  refine Tr.seq ?_
  refine Tr.seq ?_
  refine Tr.region_f (fun _ => false) ?_
  refine W.q rfl rfl rfl rfl (by decide) (Yd.mv rfl (.t rfl)) ?_
  refine W.q rfl rfl rfl rfl (by decide) (Yd.lenR hfirm_0 rfl Try.underlying22 (.t rfl)) ?_
  refine W.q rfl rfl rfl rfl (by decide) (Yd.gtr rfl (.t rfl) .c) ?_
  refine W.q rfl rfl rfl rfl (by decide) (Yd.mv rfl (.t rfl)) ?_
  refine W.g rfl rfl rfl rfl rfl (.t rfl _) rfl (by decide) (fun hG => Yd.ldB (pos := 0) rfl rfl rfl ON22 (.t rfl)) ?_
  refine W.g rfl rfl rfl rfl rfl (.t rfl _) rfl (by decide) (fun hG => Yd.lenR hclass_1 rfl Try.underlying22 (.g rfl hG)) ?_
  refine W.g rfl rfl rfl rfl rfl (.t rfl _) rfl (by decide) (fun hG => Yd.gtr rfl (.g rfl hG) .c) ?_
  refine W.q rfl rfl rfl rfl (by decide) (Yd.or rfl (.t rfl) .c rfl rfl) ?_
  refine W.end ?_
  refine NX.sub (env' := [(0, _), (3, _), (12, _)]) ⟨rfl, rfl, rfl, trivial⟩ ?_
  refine NX.then ?_
  refine Tr.cond (.t rfl) (fun hb => ?_) (fun hb => ?_)
  · have hr := cond_t hb hr
    refine Tr.seq ?_
    refine Tr.region_f (fun _ => false) ?_
    refine W.q rfl rfl rfl rfl (by decide) (Yd.as rfl .c) ?_
    refine W.end ?_
    refine NX.sub (env' := [(4, _)]) ⟨rfl, trivial⟩ ?_
    refine NX.drop (l' := l) (.cons _ (.refl _)) ?_
    refine NX.then ?_
    refine Tr.ret' (RT.then ?_)
    refine res1 rfl rfl ?_
    intro w hc
    cases hr
    exact ⟨rfl, hc⟩
  · have hr := cond_f hb hr
    refine Tr.skip' ?_
    refine NX.then ?_
    refine Tr.seq ?_
    refine Tr.seq ?_
    obtain ⟨r3, hr4, hr⟩ := bind_some hr
    refine Tr.region_f (fun _ => false) ?_
    refine W.q rfl rfl rfl rfl (by decide) (Yd.mv rfl (.t rfl)) ?_
    refine W.q rfl rfl rfl rfl (by decide) (Yd.mkf rfl (.cons (.t rfl) .nil)) ?_
    refine W.q rfl rfl rfl rfl (by decide) (Yd.call (v := .bool r3) rfl Try.func12 rfl rfl (.cons (.t rfl) (.cons (.t rfl) .nil)) (fun x' hx w hw => slices_ContainsFunc_Sintint_ok w0 x'.m x'.l _ _ (hfirm_0.mono hx.1) _ (fun a => wall_wrong_c1 a class_1) ⟨13, _, _, rfl, Try.func13, rfl, rfl, fun y hy w2 hw2 v a r2 hv hr2 => by obtain ⟨p5, hp5⟩ := (leX_trans _ _ _ hx hy).at (p := 0) rfl; obtain rfl := hv; exact wall_wrong_c1_ok w0 y.m y.l a p5 _ _ _ (hclass_1.mono (hx.1.trans hy.1)) hp5 r2 hr2 w2 hw2⟩ _ hr4 w hw)) ?_
    refine W.end ?_
    refine NX.sub (env' := [(15, _)]) ⟨rfl, trivial⟩ ?_
    refine NX.drop (l' := l) (.cons _ (.refl _)) ?_
    refine NX.then ?_
    refine Tr.cond (.t rfl) (fun hb => ?_) (fun hb => ?_)
    · have hr := cond_t hb hr
      refine Tr.seq ?_
      refine Tr.region_f (fun _ => false) ?_
      refine W.q rfl rfl rfl rfl (by decide) (Yd.as rfl .c) ?_
      refine W.end ?_
      refine NX.sub (env' := [(4, _)]) ⟨rfl, trivial⟩ ?_
      refine NX.then ?_
      refine Tr.ret' (RT.then ?_)
      refine res1 rfl rfl ?_
      intro w hc
      cases hr
      exact ⟨rfl, hc⟩
    · have hr := cond_f hb hr
      refine Tr.skip' ?_
      refine NX.then ?_
      refine Tr.seq ?_
      refine Tr.region_f (fun _ => false) ?_
      refine W.q rfl rfl rfl rfl (by decide) (Yd.as rfl .c) ?_
      refine W.end ?_
      refine NX.sub (env' := [(4, _)]) ⟨rfl, trivial⟩ ?_
      refine NX.then ?_
      refine Tr.ret' ?_
      refine res1 rfl rfl ?_
      intro w hc
      cases hr
      exact ⟨rfl, hc⟩

def wall_state_do_c1 (f_0 : Int) (cp_0 : Int) (cp_1 : T38) : Option (Bool) :=
  bif (!((f_0 != cp_0) == true) || (geti cp_1.class_ f_0).isSome) then
  bif (!((f_0 != cp_0) == true) || (geti cp_1.class_ cp_0).isSome) then
  some (((f_0 != cp_0) && (((geti cp_1.class_ f_0).getD (0 : Int)) == ((geti cp_1.class_ cp_0).getD (0 : Int))))) else none else none

set_option maxRecDepth 100000 in
set_option maxHeartbeats 4000000 in
theorem wall_state_do_c1_ok (w0 : World) (m : Snap) (l : List HI) (f_0 : Int) (fb0 : Nat) (cp_0 : Int) (hK0 : Bk m fb0 3 [.int .i64 cp_0]) (fb1 gb1 : Nat) (cp_1 : T38) (uk1_0 : Value) (hk1_0 : RS rI m uk1_0 cp_1.firm) (uk1_1 : Value) (hk1_1 : RS rI m uk1_1 cp_1.class_) (uk1_2 : Value) (hk1_2 : RS rU m uk1_2 cp_1.read) (uk1_3 : Value) (hk1_3 : RS rU m uk1_3 cp_1.knows) (uk1_4 : Value) (hk1_4 : RS rU m uk1_4 cp_1.from_) (hB1 : Bk m gb1 38 [uk1_0, uk1_1, uk1_2, uk1_3, uk1_4]) (hK1 : Bk m fb1 36 [bp gb1 0]) (r : Bool) (hr : wall_state_do_c1 f_0 cp_0 cp_1 = some r) (w : World) (hc : cX w0 ⟨m, l⟩ w) :
    Calls Try.prog 15 [.int .i64 f_0, bp fb0 0, bp fb1 0].toArray w fun e w' => e = .returned (.bool r) ∧ cX w0 ⟨m, l⟩ w' := by
  unfold wall_state_do_c1 at hr
  refine calls_of_Tr (N := 25) Try.func15 rfl hc rfl (Nat.le_of_ble_eq_true rfl) ?_
  refine Tr.seq ?_
  refine Tr.region_f (fun _ => false) ?_
  refine W.q rfl rfl rfl rfl (by decide) (Yd.as rfl .c) ?_
  refine W.end ?_
  refine NX.sub (env' := [(0, _), (1, _), (2, _)]) ⟨rfl, rfl, rfl, trivial⟩ ?_
  refine NX.then ?_
  refine Tr.seq ?_
  obtain ⟨ha1, hr⟩ := guard_some hr
  obtain ⟨ha2, hr⟩ := guard_some hr
  refine Tr.region_x (fun _ => false) (fun _ => false) (Ord.of [0, 1, 2, 3, 4, 5, 6, 7, 8, 9, 10, 11, 12, 13, 14, 15, 16, 17, 18, 19, 20]) FM (by kernel_rfl) ?_
  refine W.q rfl rfl rfl rfl (by decide) (Yd.mv rfl (.t rfl)) ?_
  refine W.q rfl rfl rfl rfl (by decide) (Yd.ldK hK0 rfl rfl ON3 (.t rfl)) ?_
  refine W.q rfl rfl rfl rfl (by decide) (Yd.neq rfl (.t rfl) (.t rfl)) ?_
  refine W.q rfl rfl rfl rfl (by decide) (Yd.mv rfl (.t rfl)) ?_
  refine W.g rfl rfl rfl rfl rfl (.t rfl _) rfl (by decide) (fun hG => Yd.ldK hK1 rfl rfl ON36 (.t rfl)) ?_
  refine W.g rfl rfl rfl rfl rfl (.t rfl _) rfl (by decide) (fun hG => Yd.nilc rfl (.g rfl hG)) ?_
  refine W.g rfl rfl rfl rfl rfl (.t rfl _) rfl (by decide) (fun hG => Yd.fldB rfl Try.underlying38 rfl SZ22 rfl (.g rfl hG)) ?_
  refine W.g rfl rfl rfl rfl rfl (.t rfl _) rfl (by decide) (fun hG => Yd.ldK hB1 rfl rfl ON22 (.g rfl hG)) ?_
  refine W.g rfl rfl rfl rfl rfl (.t rfl _) rfl (by decide) (fun hG => Yd.mv rfl (.t rfl)) ?_
  refine W.g rfl rfl rfl rfl rfl (.t rfl _) rfl (by decide) (fun hG => Yd.idxR hk1_1 (gd_get (d := (0 : Int)) ha1 hG) rfl Try.underlying22 SZ3 (.g rfl hG) (.g rfl hG)) ?_
  refine W.g rfl rfl rfl rfl rfl (.t rfl _) rfl (by decide) (fun hG => Yd.ldF hk1_1 (.refl _) (gd_get (d := (0 : Int)) ha1 hG) rfl rfl ON3 (.g rfl hG)) ?_
  refine W.g rfl rfl rfl rfl rfl (.t rfl _) rfl (by decide) (fun hG => Yd.ldK hK1 rfl rfl ON36 (.t rfl)) ?_
  refine W.g rfl rfl rfl rfl rfl (.t rfl _) rfl (by decide) (fun hG => Yd.nilc rfl (.g rfl hG)) ?_
  refine W.g rfl rfl rfl rfl rfl (.t rfl _) rfl (by decide) (fun hG => Yd.fldB rfl Try.underlying38 rfl SZ22 rfl (.g rfl hG)) ?_
  refine W.g rfl rfl rfl rfl rfl (.t rfl _) rfl (by decide) (fun hG => Yd.ldK hB1 rfl rfl ON22 (.g rfl hG)) ?_
  refine W.g rfl rfl rfl rfl rfl (.t rfl _) rfl (by decide) (fun hG => Yd.ldK hK0 rfl rfl ON3 (.t rfl)) ?_
  refine W.g rfl rfl rfl rfl rfl (.t rfl _) rfl (by decide) (fun hG => Yd.idxR hk1_1 (gd_get (d := (0 : Int)) ha2 hG) rfl Try.underlying22 SZ3 (.g rfl hG) (.g rfl hG)) ?_
  refine W.g rfl rfl rfl rfl rfl (.t rfl _) rfl (by decide) (fun hG => Yd.ldF hk1_1 (.refl _) (gd_get (d := (0 : Int)) ha2 hG) rfl rfl ON3 (.g rfl hG)) ?_
  refine W.g rfl rfl rfl rfl rfl (.t rfl _) rfl (by decide) (fun hG => Yd.eql rfl (.g rfl hG) (.g rfl hG)) ?_
  refine W.q rfl rfl rfl rfl (by decide) (Yd.and rfl (.t rfl) .c rfl rfl) ?_
  refine W.q rfl rfl rfl rfl (by decide) (Yd.as rfl (.t rfl)) ?_
  refine W.end ?_
  refine NX.sub (env' := [(4, _)]) ⟨rfl, trivial⟩ ?_
  refine NX.then ?_
  refine Tr.ret' ?_
  refine res1 rfl rfl ?_
  intro w hc
  cases hr
  exact ⟨rfl, hc⟩

def wall_state_any_k19 : Option (Bool) :=
  some false

def wall_state_any_b23 (i_1 : Int) (so_2 : Int → Option Bool) (x1 : T38) (t_22 : Int) (nx24 : Unit → Option (Bool)) : Option (Bool) :=
  (geti x1.firm t_22).bind fun y26 =>
  (geti x1.read i_1).bind fun y28 =>
  bif (!(((((y28 >>> t_22.toNat) &&& 1#32) == 1#32) && (decide (y26 ≥ (0 : Int)))) == true) || (so_2 y26).isSome) then
  (bif (((((y28 >>> t_22.toNat) &&& 1#32) == 1#32) && (decide (y26 ≥ (0 : Int)))) && ((so_2 y26).getD false)) then
  some true
  else
  nx24 ()) else none

def wall_state_any (s_0 : Option T38) (i_1 : Int) (so_2 : Int → Option Bool) : Option (Bool) :=
  (s_0).bind fun x1 =>
  forK (σ := Unit) (fun i s nx_ => wall_state_any_b23 i_1 so_2 x1 i nx_) (fun _ => wall_state_any_k19) ((x1.firm.length : Int) - (0 : Int)).toNat (0 : Int) ()

set_option maxRecDepth 100000 in
set_option maxHeartbeats 4000000 in
theorem wall_state_any_ok (w0 : World) (m : Snap) (l : List HI) (us_0 : Value) (s_0 : Option T38) (hs_0 : P38 m us_0 s_0) (i_1 : Int) (uso_2 : Value) (so_2 : Int → Option Bool) (hso_2 : Fq Try.prog w0 ⟨m, l⟩ uso_2 (α := Int) (β := Bool) (fun _ v a => v = .int .i64 a) (fun b => .bool b) so_2) (r : Bool) (hr : wall_state_any s_0 i_1 so_2 = some r) (w : World) (hc : cX w0 ⟨m, l⟩ w) :
    Calls Try.prog 14 [us_0, .int .i64 i_1, uso_2].toArray w fun e w' => e = .returned (.bool r) ∧ cX w0 ⟨m, l⟩ w' := by
  unfold wall_state_any at hr
  refine calls_of_Tr (N := 40) Try.func14 rfl hc rfl (Nat.le_of_ble_eq_true rfl) ?_
  refine Tr.seq ?_
  refine Tr.region_f (fun _ => false) ?_
  refine W.q rfl rfl rfl rfl (by decide) (Yd.as rfl .c) ?_
  refine W.end ?_
  refine NX.sub (env' := [(0, _), (1, _), (2, _)]) ⟨rfl, rfl, rfl, trivial⟩ ?_
  refine NX.then ?_
  refine Tr.seq ?_
  refine Tr.seq ?_
  obtain ⟨x1, hn2, hr⟩ := bind_some hr
  refine Tr.region_f (fun _ => false) ?_
  refine W.q rfl rfl rfl rfl (by decide) (Yd.mv rfl (.t rfl)) ?_
  have hp3 := hs_0; rw [hn2] at hp3; obtain ⟨b5, u7, u9, u11, u13, u15, hz4, hb6, hu8, hu10, hu12, hu14, hu16⟩ := hp3; subst hz4
  refine W.q rfl rfl rfl rfl (by decide) (Yd.nilc rfl (.t rfl)) ?_
  refine W.q rfl rfl rfl rfl (by decide) (Yd.fldB rfl Try.underlying38 rfl SZ22 rfl (.t rfl)) ?_
  refine W.q rfl rfl rfl rfl (by decide) (Yd.ldK hb6 rfl rfl ON22 (.t rfl)) ?_
  refine W.q rfl rfl rfl rfl (by decide) (Yd.lenR hu8 rfl Try.underlying22 (.t rfl)) ?_
  refine W.q rfl rfl rfl rfl (by decide) (Yd.mv rfl .c) ?_
  refine W.end ?_
  refine NX.sub (env' := [(0, _), (1, _), (2, _), (12, _), (13, _), (14, _)]) ⟨rfl, rfl, rfl, rfl, rfl, rfl, trivial⟩ ?_
  refine NX.then ?_
  refine Tr.join (S := fun env x => env = [] ∧ x = ⟨m, l⟩ ∧ wall_state_any_k19 = some r) ?_ (fun hk20 => ?_)
  · rintro _ _ ⟨rfl, rfl, hr⟩
    unfold wall_state_any_k19 at hr
    try dsimp only at hr
    refine NX.then ?_
    refine Tr.seq ?_
    refine Tr.region_f (fun _ => false) ?_
    refine W.q rfl rfl rfl rfl (by decide) (Yd.as rfl .c) ?_
    refine W.end ?_
    refine NX.sub (env' := [(6, _)]) ⟨rfl, trivial⟩ ?_
    refine NX.then ?_
    refine Tr.ret' ?_
    refine res1 rfl rfl ?_
    intro w hc
    cases hr
    exact ⟨rfl, hc⟩
  have hlen21 := (hu8).2.1
  refine Tr.block ?_
  refine Tr.sub (env' := [(0, _), (1, _), (2, _), (12, _), (13, _), (14, _)]) ⟨rfl, rfl, rfl, rfl, rfl, rfl, trivial⟩ ?_
  refine Tr.loop (S := fun n (z : Int × Unit) env x => match z with | (t_22, _) => env = [(0, bp b5 0), (1, .int .i64 i_1), (2, uso_2), (12, u7), (13, .int .i64 ((x1.firm.length : Int))), (14, .int .i64 t_22)] ∧ x = ⟨m, l⟩ ∧ n = ((x1.firm.length : Int) - t_22).toNat ∧ 0 ≤ t_22 ∧ forK (σ := Unit) (fun i s nx_ => wall_state_any_b23 i_1 so_2 x1 i nx_) (fun _ => wall_state_any_k19) n t_22 () = some r) _ ((0 : Int), ()) ⟨rfl, rfl, rfl, (by omega), hr⟩ ?_
  rintro n25 ⟨t_22, _⟩ env x ⟨rfl, rfl, hnt_22, h0t_22, hr⟩
  cases n25 with
  | zero =>
    simp only [forK] at hr
    refine Tr.seq ?_
    refine Tr.region_f (fun _ => false) ?_
    refine W.q rfl rfl rfl rfl (by decide) (Yd.lss rfl (.t rfl) (.t rfl)) ?_
    refine W.end ?_
    refine NX.sub (env' := [(0, _), (1, _), (2, _), (12, _), (13, _), (14, _), (15, _)]) ⟨rfl, rfl, rfl, rfl, rfl, rfl, rfl, trivial⟩ ?_
    refine NX.then ?_
    refine Tr.seq ?_
    refine Tr.cond (.t rfl) (fun hb => ?_) (fun hb => ?_)
    · exact absurd (hb.symm.trans (fr_end hnt_22)) (by decide)
    ·
      refine Tr.exit' (EX.then (EX.then (EX.block ?_)))
      refine NX.sub (env' := []) trivial ?_
      exact hk20 _ _ ⟨rfl, rfl, hr⟩
  | succ n25 =>
    obtain ⟨nx24, hnx24, hr⟩ := forK_succ hr
    try dsimp only at hr
    unfold wall_state_any_b23 at hr
    try dsimp only at hr
    have hltt_22 := fr_bnd hnt_22
    refine Tr.seq ?_
    refine Tr.region_f (fun _ => false) ?_
    refine W.q rfl rfl rfl rfl (by decide) (Yd.lss rfl (.t rfl) (.t rfl)) ?_
    refine W.end ?_
    refine NX.sub (env' := [(0, _), (1, _), (2, _), (12, _), (13, _), (14, _), (15, _)]) ⟨rfl, rfl, rfl, rfl, rfl, rfl, rfl, trivial⟩ ?_
    refine NX.then ?_
    refine Tr.seq ?_
    refine Tr.cond (.t rfl) (fun hb => ?_) (fun hb => ?_)
    rotate_left
    · exact absurd (hb.symm.trans (fr_go hnt_22)) (by decide)
    ·
      refine Tr.skip' ?_
      refine NX.then ?_
      refine Tr.seq ?_
      refine Tr.block ?_
      refine Tr.seq ?_
      obtain ⟨y26, hy27, hr⟩ := bind_some hr
      refine Tr.region_f (fun _ => false) ?_
      refine W.q rfl rfl rfl rfl (by decide) (Yd.mv rfl (.t rfl)) ?_
      refine W.q rfl rfl rfl rfl (by decide) (Yd.idxR hu8 hy27 rfl Try.underlying22 SZ3 (.t rfl) (.t rfl)) ?_
      refine W.q rfl rfl rfl rfl (by decide) (Yd.ldF hu8 (.refl _) hy27 rfl rfl ON3 (.t rfl)) ?_
      refine W.q rfl rfl rfl rfl (by decide) (Yd.as rfl (.t rfl)) ?_
      refine W.q rfl rfl rfl rfl (by decide) (Yd.as rfl (.t rfl)) ?_
      refine W.end ?_
      refine NX.sub (env' := [(0, _), (1, _), (2, _), (12, _), (13, _), (14, _), (7, _), (8, _)]) ⟨rfl, rfl, rfl, rfl, rfl, rfl, rfl, rfl, trivial⟩ ?_
      refine NX.then ?_
      refine Tr.seq ?_
      obtain ⟨y28, hy29, hr⟩ := bind_some hr
      obtain ⟨ha30, hr⟩ := guard_some hr
      refine Tr.region_f (fun _ => false) ?_
      refine W.q rfl rfl rfl rfl (by decide) (Yd.mv rfl (.t rfl)) ?_
      refine W.q rfl rfl rfl rfl (by decide) (Yd.nilc rfl (.t rfl)) ?_
      refine W.q rfl rfl rfl rfl (by decide) (Yd.fldB rfl Try.underlying38 rfl SZ25 rfl (.t rfl)) ?_
      refine W.q rfl rfl rfl rfl (by decide) (Yd.ldK hb6 rfl rfl ON25 (.t rfl)) ?_
      refine W.q rfl rfl rfl rfl (by decide) (Yd.mv rfl (.t rfl)) ?_
      refine W.q rfl rfl rfl rfl (by decide) (Yd.idxR hu12 hy29 rfl Try.underlying25 SZ39 (.t rfl) (.t rfl)) ?_
      refine W.q rfl rfl rfl rfl (by decide) (Yd.ldF hu12 (.refl _) hy29 rfl rfl ON39 (.t rfl)) ?_
      refine W.q rfl rfl rfl rfl (by decide) (Yd.mv rfl (.t rfl)) ?_
      refine W.q rfl rfl rfl rfl (by decide) (Yd.shrU (a := y28) rfl (.t rfl) (.t rfl) h0t_22) ?_
      refine W.q rfl rfl rfl rfl (by decide) (Yd.andU (a := (y28 >>> t_22.toNat)) (b := 1#32) rfl (.t rfl) .c) ?_
      refine W.q rfl rfl rfl rfl (by decide) (Yd.eqlU (a := ((y28 >>> t_22.toNat) &&& 1#32)) (b := 1#32) rfl (.t rfl) .c) ?_
      refine W.q rfl rfl rfl rfl (by decide) (Yd.mv rfl (.t rfl)) ?_
      refine W.g rfl rfl rfl rfl rfl (.t rfl _) rfl (by decide) (fun hG => Yd.mv rfl (.t rfl)) ?_
      refine W.g rfl rfl rfl rfl rfl (.t rfl _) rfl (by decide) (fun hG => Yd.geq rfl (.g rfl hG) .c) ?_
      refine W.q rfl rfl rfl rfl (by decide) (Yd.and rfl (.t rfl) .c rfl rfl) ?_
      refine W.q rfl rfl rfl rfl (by decide) (Yd.mv rfl (.t rfl)) ?_
      refine W.g rfl rfl rfl rfl rfl (.t rfl _) rfl (by decide) (fun hG => Yd.mv rfl (.t rfl)) ?_
      refine W.g rfl rfl rfl rfl rfl (.t rfl _) rfl (by decide) (fun hG => Yd.mv rfl (.t rfl)) ?_
      refine W.g rfl rfl rfl rfl rfl (.t rfl _) rfl (by decide) (fun hG => Yd.callF hso_2 ⟨(.refl _), [], rfl⟩ rfl (.g rfl hG) (.g rfl hG) (fun _ _ => rfl) (gd_get (d := false) ha30 hG)) ?_
      refine W.q rfl rfl rfl rfl (by decide) (Yd.and rfl (.t rfl) .c rfl rfl) ?_
      refine W.end ?_
      refine NX.sub (env' := [(0, _), (1, _), (2, _), (12, _), (13, _), (14, _), (38, _)]) ⟨rfl, rfl, rfl, rfl, rfl, rfl, rfl, trivial⟩ ?_
      refine NX.then ?_
      refine Tr.cond (.t rfl) (fun hb => ?_) (fun hb => ?_)
      · have hr := cond_t hb hr
        refine Tr.seq ?_
        refine Tr.region_f (fun _ => false) ?_
        refine W.q rfl rfl rfl rfl (by decide) (Yd.as rfl .c) ?_
        refine W.end ?_
        refine NX.sub (env' := [(6, _)]) ⟨rfl, trivial⟩ ?_
        refine NX.then ?_
        refine Tr.ret' (RT.block (RT.then (RT.then (RT.block (RT.then ?_)))))
        refine res1 rfl rfl ?_
        intro w hc
        cases hr
        exact ⟨rfl, hc⟩
      · have hr := cond_f hb hr
        refine Tr.skip' ?_
        refine NX.block ?_
        refine NX.then ?_
        refine Tr.region_f (fun _ => false) ?_
        refine W.q rfl rfl rfl rfl (by decide) (Yd.add rfl (.t rfl) .c) ?_
        refine W.q rfl rfl rfl rfl (by decide) (Yd.mv rfl (.t rfl)) ?_
        refine W.end ?_
        refine NX.sub (env' := [(0, _), (1, _), (2, _), (12, _), (13, _), (14, _)]) ⟨rfl, rfl, rfl, rfl, rfl, rfl, trivial⟩ ?_
        refine NX.sub (env' := [(0, _), (1, _), (2, _), (12, _), (13, _), (14, _)]) ⟨rfl, rfl, rfl, rfl, rfl, rfl, trivial⟩ ?_
        have hw := w64_id (n := t_22 + 1) (by omega) (by omega)
        exact NX.again n25 (t_22 + 1, ()) (Nat.lt_succ_self _) ⟨(by rw [hw] <;> rfl), rfl, (fr_dec hnt_22), (by omega), ((hnx24 _).symm.trans hr)⟩

def wall_state_do_c2 (f_0 : Int) (cp_0 : Int) : Option (Bool) :=
  some ((f_0 != cp_0))

set_option maxRecDepth 100000 in
set_option maxHeartbeats 4000000 in
theorem wall_state_do_c2_ok (w0 : World) (m : Snap) (l : List HI) (f_0 : Int) (fb0 : Nat) (cp_0 : Int) (hK0 : Bk m fb0 3 [.int .i64 cp_0]) (r : Bool) (hr : wall_state_do_c2 f_0 cp_0 = some r) (w : World) (hc : cX w0 ⟨m, l⟩ w) :
    Calls Try.prog 16 [.int .i64 f_0, bp fb0 0].toArray w fun e w' => e = .returned (.bool r) ∧ cX w0 ⟨m, l⟩ w' := by
  unfold wall_state_do_c2 at hr
  refine calls_of_Tr (N := 7) Try.func16 rfl hc rfl (Nat.le_of_ble_eq_true rfl) ?_
  refine Tr.seq ?_
  refine Tr.region_f (fun _ => false) ?_
  refine W.q rfl rfl rfl rfl (by decide) (Yd.as rfl .c) ?_
  refine W.end ?_
  refine NX.sub (env' := [(0, _), (1, _)]) ⟨rfl, rfl, trivial⟩ ?_
  refine NX.then ?_
  refine Tr.seq ?_
  refine Tr.region_f (fun _ => false) ?_
  refine W.q rfl rfl rfl rfl (by decide) (Yd.mv rfl (.t rfl)) ?_
  refine W.q rfl rfl rfl rfl (by decide) (Yd.ldK hK0 rfl rfl ON3 (.t rfl)) ?_
  refine W.q rfl rfl rfl rfl (by decide) (Yd.neq rfl (.t rfl) (.t rfl)) ?_
  refine W.q rfl rfl rfl rfl (by decide) (Yd.as rfl (.t rfl)) ?_
  refine W.end ?_
  refine NX.sub (env' := [(3, _)]) ⟨rfl, trivial⟩ ?_
  refine NX.then ?_
  refine Tr.ret' ?_
  refine res1 rfl rfl ?_
  intro w hc
  cases hr
  exact ⟨rfl, hc⟩

def wall_state_do (s_0 : T38) (d_1 : Deed) : Option (Int × T38) :=
  (bif ((d_1.kind != (1 : Int)) && (d_1.kind != (2 : Int))) then
  some (((6 : Int), ({ firm := s_0.firm, class_ := s_0.class_, read := s_0.read, knows := s_0.knows, from_ := s_0.from_ } : T38)))
  else
  (bif ((((decide (d_1.by_ < (0 : Int))) || (decide (d_1.by_ ≥ (s_0.read.length : Int)))) || (decide (d_1.to < (0 : Int)))) || (decide (d_1.to ≥ (s_0.firm.length : Int)))) then
  some (((2 : Int), ({ firm := s_0.firm, class_ := s_0.class_, read := s_0.read, knows := s_0.knows, from_ := s_0.from_ } : T38)))
  else
  (geti s_0.firm d_1.to).bind fun y5 =>
  (bif (d_1.kind == (1 : Int)) then
  bif (!((decide (y5 ≥ (0 : Int))) == true) || (wall_state_any (some { firm := s_0.firm, class_ := s_0.class_, read := s_0.read, knows := s_0.knows, from_ := s_0.from_ } : Option T38) d_1.by_ (fun a => wall_state_do_c1 a y5 (({ firm := s_0.firm, class_ := s_0.class_, read := s_0.read, knows := s_0.knows, from_ := s_0.from_ } : T38)))).isSome) then
  (bif ((decide (y5 ≥ (0 : Int))) && (((wall_state_any (some { firm := s_0.firm, class_ := s_0.class_, read := s_0.read, knows := s_0.knows, from_ := s_0.from_ } : Option T38) d_1.by_ (fun a => wall_state_do_c1 a y5 (({ firm := s_0.firm, class_ := s_0.class_, read := s_0.read, knows := s_0.knows, from_ := s_0.from_ } : T38)))).getD false))) then
  some (((7 : Int), ({ firm := s_0.firm, class_ := s_0.class_, read := s_0.read, knows := s_0.knows, from_ := s_0.from_ } : T38)))
  else
  (geti s_0.read d_1.by_).bind fun y10 =>
  bif decide (0 ≤ d_1.to) then
  (geti s_0.knows d_1.by_).bind fun y13 =>
  (geti s_0.from_ d_1.to).bind fun y15 =>
  some (((0 : Int), ({ firm := s_0.firm, class_ := s_0.class_, read := (s_0.read.set d_1.by_.toNat ((y10 ||| (1#32 <<< d_1.to.toNat)))), knows := (s_0.knows.set d_1.by_.toNat ((y13 ||| y15))), from_ := s_0.from_ } : T38))) else none) else none
  else
  (wall_state_any (some { firm := s_0.firm, class_ := s_0.class_, read := s_0.read, knows := s_0.knows, from_ := s_0.from_ } : Option T38) d_1.by_ (fun a => wall_state_do_c2 a y5)).bind fun r17 =>
  (bif r17 then
  some (((7 : Int), ({ firm := s_0.firm, class_ := s_0.class_, read := s_0.read, knows := s_0.knows, from_ := s_0.from_ } : T38)))
  else
  (geti s_0.from_ d_1.to).bind fun y19 =>
  (geti s_0.knows d_1.by_).bind fun y21 =>
  some (((0 : Int), ({ firm := s_0.firm, class_ := s_0.class_, read := s_0.read, knows := s_0.knows, from_ := (s_0.from_.set d_1.to.toNat ((y19 ||| y21))) } : T38)))))))

set_option maxRecDepth 100000 in
set_option maxHeartbeats 4000000 in
theorem wall_state_do_ok (w0 : World) (m : Snap) (l : List HI) (bs_0 : Nat) (s_0 : T38) (us_0_0 : Value) (hs_0_0 : RS rI m us_0_0 s_0.firm) (us_0_1 : Value) (hs_0_1 : RS rI m us_0_1 s_0.class_) (us_0_2 : Value) (us_0_3 : Value) (us_0_4 : Value) (d_1 : Deed) (r : Int × T38) (hr : wall_state_do s_0 d_1 = some r) (w : World) (hc : cX w0 ⟨m, hcells bs_0 [us_0_0, us_0_1, us_0_2, us_0_3, us_0_4] 38 :: hownT 39 1 encU us_0_2 s_0.read :: hownT 39 1 encU us_0_3 s_0.knows :: hownT 39 1 encU us_0_4 s_0.from_ :: l⟩ w) :
    Calls Try.prog 10 [bp bs_0 0, .agg #[.int .i64 d_1.kind, .int .i64 d_1.by_, .int .i64 d_1.to, .int .i64 d_1.label.level, .int .u32 (d_1.label.parts.toNat : Int), .int .i64 d_1.val]].toArray w fun e w' => e = .returned (.int .i64 r.1) ∧ cX w0 ⟨m, hcells bs_0 [us_0_0, us_0_1, us_0_2, us_0_3, us_0_4] 38 :: hownT 39 1 encU us_0_2 r.2.read :: hownT 39 1 encU us_0_3 r.2.knows :: hownT 39 1 encU us_0_4 r.2.from_ :: l⟩ w' := by
  unfold wall_state_do at hr
  refine calls_of_Tr (N := 118) Try.func10 rfl hc rfl (Nat.le_of_ble_eq_true rfl) ?_
  refine Tr.seq ?_
  refine Tr.region_f (fun i => Nat.beq i 0 || Nat.beq i 1) ?_
  refine W.e rfl rfl rfl rfl (by decide) (Ef.bx rfl (.t rfl) rfl) ?_
  rintro _ _ ⟨b1, rfl, rfl⟩
  refine ⟨.inl rfl, ?_⟩
  refine W.cast (m' := m) (l' := hcells b1 [_] 36 :: hcells bs_0 [_, _, _, _, _] 38 :: hownT 39 1 encU us_0_2 _ :: hownT 39 1 encU us_0_3 _ :: hownT 39 1 encU us_0_4 _ :: l) rfl rfl ?_
  refine W.e rfl rfl rfl rfl (by decide) (Ef.bx rfl (.t rfl) rfl) ?_
  rintro _ _ ⟨b3, rfl, rfl⟩
  refine ⟨.inl rfl, ?_⟩
  refine W.cast (m' := m) (l' := hcells b3 [_, _, _, _, _, _] 43 :: hcells b1 [_] 36 :: hcells bs_0 [_, _, _, _, _] 38 :: hownT 39 1 encU us_0_2 _ :: hownT 39 1 encU us_0_3 _ :: hownT 39 1 encU us_0_4 _ :: l) rfl rfl ?_
  refine W.q rfl rfl rfl rfl (by decide) (Yd.as rfl .c) ?_
  refine W.end ?_
  refine NX.sub (env' := [(2, _), (3, _)]) ⟨rfl, rfl, trivial⟩ ?_
  refine NX.then ?_
  refine Tr.seq ?_
  refine Tr.block ?_
  refine Tr.seq ?_
  refine Tr.region_f (fun _ => false) ?_
  refine W.q rfl rfl rfl rfl (by decide) (Yd.fldB rfl Try.underlying43 rfl SZ3 rfl (.t rfl)) ?_
  refine W.q rfl rfl rfl rfl (by decide) (Yd.ldB (pos := 0) rfl rfl rfl ON3 (.t rfl)) ?_
  refine W.q rfl rfl rfl rfl (by decide) (Yd.neq rfl (.t rfl) .c) ?_
  refine W.q rfl rfl rfl rfl (by decide) (Yd.mv rfl (.t rfl)) ?_
  refine W.g rfl rfl rfl rfl rfl (.t rfl _) rfl (by decide) (fun hG => Yd.fldB rfl Try.underlying43 rfl SZ3 rfl (.t rfl)) ?_
  refine W.g rfl rfl rfl rfl rfl (.t rfl _) rfl (by decide) (fun hG => Yd.ldB (pos := 0) rfl rfl rfl ON3 (.g rfl hG)) ?_
  refine W.g rfl rfl rfl rfl rfl (.t rfl _) rfl (by decide) (fun hG => Yd.neq rfl (.g rfl hG) .c) ?_
  refine W.q rfl rfl rfl rfl (by decide) (Yd.and rfl (.t rfl) .c rfl rfl) ?_
  refine W.q rfl rfl rfl rfl (by decide) (Yd.as rfl (.t rfl)) ?_
  refine W.end ?_
  refine NX.sub (env' := [(2, _), (3, _), (6, _)]) ⟨rfl, rfl, rfl, trivial⟩ ?_
  refine NX.then ?_
  refine Tr.cond (.t rfl) (fun hb => ?_) (fun hb => ?_)
  · have hr := cond_t hb hr
    refine Tr.seq ?_
    refine Tr.region_f (fun _ => false) ?_
    refine W.q rfl rfl rfl rfl (by decide) (Yd.as rfl .c) ?_
    refine W.end ?_
    refine NX.sub (env' := [(4, _)]) ⟨rfl, trivial⟩ ?_
    refine NX.drop (l' := hcells bs_0 [_, _, _, _, _] 38 :: hownT 39 1 encU us_0_2 _ :: hownT 39 1 encU us_0_3 _ :: hownT 39 1 encU us_0_4 _ :: l) (.cons _ (.cons _ (.cons_cons _ (.cons_cons _ (.cons_cons _ (.cons_cons _ (.refl _))))))) ?_
    refine NX.then ?_
    refine Tr.ret' (RT.block (RT.then ?_))
    refine res1 rfl rfl ?_
    intro w hc
    cases hr
    exact ⟨rfl, hc⟩
  · have hr := cond_f hb hr
    refine Tr.seq ?_
    refine Tr.region_x (fun _ => false) (fun _ => false) (Ord.of [0, 1, 2, 3, 4, 5, 6, 7, 8, 9, 10, 11, 12, 13, 14, 15, 16, 17, 18, 19, 20, 21, 22, 23, 24, 25, 26, 27, 28]) FM (by kernel_rfl) ?_
    refine W.q rfl rfl rfl rfl (by decide) (Yd.fldB rfl Try.underlying43 rfl SZ3 rfl (.t rfl)) ?_
    refine W.q rfl rfl rfl rfl (by decide) (Yd.ldB (pos := 0) rfl rfl rfl ON3 (.t rfl)) ?_
    refine W.q rfl rfl rfl rfl (by decide) (Yd.lss rfl (.t rfl) .c) ?_
    refine W.q rfl rfl rfl rfl (by decide) (Yd.mv rfl (.t rfl)) ?_
    refine W.g rfl rfl rfl rfl rfl (.t rfl _) rfl (by decide) (fun hG => Yd.fldB rfl Try.underlying43 rfl SZ3 rfl (.t rfl)) ?_
    refine W.g rfl rfl rfl rfl rfl (.t rfl _) rfl (by decide) (fun hG => Yd.ldB (pos := 0) rfl rfl rfl ON3 (.g rfl hG)) ?_
    refine W.g rfl rfl rfl rfl rfl (.t rfl _) rfl (by decide) (fun hG => Yd.ldB (pos := 1) rfl rfl rfl ON36 (.t rfl)) ?_
    refine W.g rfl rfl rfl rfl rfl (.t rfl _) rfl (by decide) (fun hG => Yd.nilc rfl (.g rfl hG)) ?_
    refine W.g rfl rfl rfl rfl rfl (.t rfl _) rfl (by decide) (fun hG => Yd.fldB rfl Try.underlying38 rfl SZ25 rfl (.g rfl hG)) ?_
    refine W.g rfl rfl rfl rfl rfl (.t rfl _) rfl (by decide) (fun hG => Yd.ldB (pos := 2) rfl rfl rfl ON25 (.g rfl hG)) ?_
    refine W.g rfl rfl rfl rfl rfl (.t rfl _) rfl (by decide) (fun hG => Yd.lenO (p := 3) rfl rfl Try.underlying25 (.g rfl hG)) ?_
    refine W.g rfl rfl rfl rfl rfl (.t rfl _) rfl (by decide) (fun hG => Yd.geq rfl (.g rfl hG) (.g rfl hG)) ?_
    refine W.q rfl rfl rfl rfl (by decide) (Yd.or rfl (.t rfl) .c rfl rfl) ?_
    refine W.q rfl rfl rfl rfl (by decide) (Yd.mv rfl (.t rfl)) ?_
    refine W.g rfl rfl rfl rfl rfl (.t rfl _) rfl (by decide) (fun hG => Yd.fldB rfl Try.underlying43 rfl SZ3 rfl (.t rfl)) ?_
    refine W.g rfl rfl rfl rfl rfl (.t rfl _) rfl (by decide) (fun hG => Yd.ldB (pos := 0) rfl rfl rfl ON3 (.g rfl hG)) ?_
    refine W.g rfl rfl rfl rfl rfl (.t rfl _) rfl (by decide) (fun hG => Yd.lss rfl (.g rfl hG) .c) ?_
    refine W.q rfl rfl rfl rfl (by decide) (Yd.or rfl (.t rfl) .c rfl rfl) ?_
    refine W.q rfl rfl rfl rfl (by decide) (Yd.mv rfl (.t rfl)) ?_
    refine W.g rfl rfl rfl rfl rfl (.t rfl _) rfl (by decide) (fun hG => Yd.fldB rfl Try.underlying43 rfl SZ3 rfl (.t rfl)) ?_
    refine W.g rfl rfl rfl rfl rfl (.t rfl _) rfl (by decide) (fun hG => Yd.ldB (pos := 0) rfl rfl rfl ON3 (.g rfl hG)) ?_
    refine W.g rfl rfl rfl rfl rfl (.t rfl _) rfl (by decide) (fun hG => Yd.ldB (pos := 1) rfl rfl rfl ON36 (.t rfl)) ?_
    refine W.g rfl rfl rfl rfl rfl (.t rfl _) rfl (by decide) (fun hG => Yd.nilc rfl (.g rfl hG)) ?_
    refine W.g rfl rfl rfl rfl rfl (.t rfl _) rfl (by decide) (fun hG => Yd.fldB rfl Try.underlying38 rfl SZ22 rfl (.g rfl hG)) ?_
    refine W.g rfl rfl rfl rfl rfl (.t rfl _) rfl (by decide) (fun hG => Yd.ldB (pos := 2) rfl rfl rfl ON22 (.g rfl hG)) ?_
    refine W.g rfl rfl rfl rfl rfl (.t rfl _) rfl (by decide) (fun hG => Yd.lenR hs_0_0 rfl Try.underlying22 (.g rfl hG)) ?_
    refine W.g rfl rfl rfl rfl rfl (.t rfl _) rfl (by decide) (fun hG => Yd.geq rfl (.g rfl hG) (.g rfl hG)) ?_
    refine W.q rfl rfl rfl rfl (by decide) (Yd.or rfl (.t rfl) .c rfl rfl) ?_
    refine W.q rfl rfl rfl rfl (by decide) (Yd.as rfl (.t rfl)) ?_
    refine W.end ?_
    refine NX.sub (env' := [(2, _), (3, _), (15, _)]) ⟨rfl, rfl, rfl, trivial⟩ ?_
    refine NX.then ?_
    refine Tr.cond (.t rfl) (fun hb => ?_) (fun hb => ?_)
    · have hr := cond_t hb hr
      refine Tr.seq ?_
      refine Tr.region_f (fun _ => false) ?_
      refine W.q rfl rfl rfl rfl (by decide) (Yd.as rfl .c) ?_
      refine W.end ?_
      refine NX.sub (env' := [(4, _)]) ⟨rfl, trivial⟩ ?_
      refine NX.drop (l' := hcells bs_0 [_, _, _, _, _] 38 :: hownT 39 1 encU us_0_2 _ :: hownT 39 1 encU us_0_3 _ :: hownT 39 1 encU us_0_4 _ :: l) (.cons _ (.cons _ (.cons_cons _ (.cons_cons _ (.cons_cons _ (.cons_cons _ (.refl _))))))) ?_
      refine NX.then ?_
      refine Tr.ret' (RT.block (RT.then ?_))
      refine res1 rfl rfl ?_
      intro w hc
      cases hr
      exact ⟨rfl, hc⟩
    · have hr := cond_f hb hr
      refine Tr.skip' ?_
      refine NX.block ?_
      refine NX.then ?_
      refine Tr.seq ?_
      obtain ⟨y5, hy6, hr⟩ := bind_some hr
      refine Tr.region_x (fun i => Nat.beq i 8 || Nat.beq i 9) (fun i => Nat.beq i 9) (Ord.of [0, 1, 2, 3, 4, 5, 6, 7, 8, 9]) FM (by kernel_rfl) ?_
      refine W.q rfl rfl rfl rfl (by decide) (Yd.ldB (pos := 1) rfl rfl rfl ON36 (.t rfl)) ?_
      refine W.q rfl rfl rfl rfl (by decide) (Yd.nilc rfl (.t rfl)) ?_
      refine W.q rfl rfl rfl rfl (by decide) (Yd.fldB rfl Try.underlying38 rfl SZ22 rfl (.t rfl)) ?_
      refine W.q rfl rfl rfl rfl (by decide) (Yd.ldB (pos := 2) rfl rfl rfl ON22 (.t rfl)) ?_
      refine W.q rfl rfl rfl rfl (by decide) (Yd.fldB rfl Try.underlying43 rfl SZ3 rfl (.t rfl)) ?_
      refine W.q rfl rfl rfl rfl (by decide) (Yd.ldB (pos := 0) rfl rfl rfl ON3 (.t rfl)) ?_
      refine W.q rfl rfl rfl rfl (by decide) (Yd.idxR hs_0_0 hy6 rfl Try.underlying22 SZ3 (.t rfl) (.t rfl)) ?_
      refine W.q rfl rfl rfl rfl (by decide) (Yd.ldF hs_0_0 (.refl _) hy6 rfl rfl ON3 (.t rfl)) ?_
      refine W.e rfl rfl rfl rfl (by decide) (Ef.al rfl ZR3 rfl) ?_
      rintro _ _ ⟨b7, rfl, rfl⟩
      refine ⟨.inr ⟨.refl _, [_], rfl⟩, ?_⟩
      refine W.cast (m' := m) (l' := hcells b7 [_] 3 :: hcells b3 [_, _, _, _, _, _] 43 :: hcells b1 [_] 36 :: hcells bs_0 [_, _, _, _, _] 38 :: hownT 39 1 encU us_0_2 _ :: hownT 39 1 encU us_0_3 _ :: hownT 39 1 encU us_0_4 _ :: l) rfl rfl ?_
      refine W.s rfl rfl rfl rfl (Ef.stB (pos := 0) (us := [_]) (cs' := [_]) rfl rfl (.t rfl) (.t rfl) SZ3 rfl rfl rfl (Nat.le_of_ble_eq_true rfl) rfl) ?_
      rintro _ _ ⟨rfl, rfl⟩
      refine ⟨.inl rfl, ?_⟩
      refine W.cast (m' := m) (l' := hcells b7 [_] 3 :: hcells b3 [_, _, _, _, _, _] 43 :: hcells b1 [_] 36 :: hcells bs_0 [_, _, _, _, _] 38 :: hownT 39 1 encU us_0_2 _ :: hownT 39 1 encU us_0_3 _ :: hownT 39 1 encU us_0_4 _ :: l) rfl rfl ?_
      refine W.end ?_
      refine NX.sub (env' := [(2, _), (3, _), (5, _)]) ⟨rfl, rfl, rfl, trivial⟩ ?_
      refine NX.then ?_
      refine Tr.seq ?_
      refine Tr.seq ?_
      refine Tr.region_f (fun _ => false) ?_
      refine W.q rfl rfl rfl rfl (by decide) (Yd.fldB rfl Try.underlying43 rfl SZ3 rfl (.t rfl)) ?_
      refine W.q rfl rfl rfl rfl (by decide) (Yd.ldB (pos := 1) rfl rfl rfl ON3 (.t rfl)) ?_
      refine W.q rfl rfl rfl rfl (by decide) (Yd.eql rfl (.t rfl) .c) ?_
      refine W.end ?_
      refine NX.sub (env' := [(2, _), (3, _), (5, _), (54, _)]) ⟨rfl, rfl, rfl, rfl, trivial⟩ ?_
      refine NX.then ?_
      refine Tr.cond (.t rfl) (fun hb => ?_) (fun hb => ?_)
      · have hr := cond_t hb hr
        refine Tr.seq ?_
        refine Tr.seq ?_
        obtain ⟨ha9, hr⟩ := guard_some hr
        refine Tr.region_f (fun _ => false) ?_
        refine W.q rfl rfl rfl rfl (by decide) (Yd.ldB (pos := 0) rfl rfl rfl ON3 (.t rfl)) ?_
        refine W.q rfl rfl rfl rfl (by decide) (Yd.geq rfl (.t rfl) .c) ?_
        refine W.q rfl rfl rfl rfl (by decide) (Yd.mv rfl (.t rfl)) ?_
        refine W.g rfl rfl rfl rfl rfl (.t rfl _) rfl (by decide) (fun hG => Yd.ldB (pos := 2) rfl rfl rfl ON36 (.t rfl)) ?_
        refine W.g rfl rfl rfl rfl rfl (.t rfl _) rfl (by decide) (fun hG => Yd.fldB rfl Try.underlying43 rfl SZ3 rfl (.t rfl)) ?_
        refine W.g rfl rfl rfl rfl rfl (.t rfl _) rfl (by decide) (fun hG => Yd.ldB (pos := 1) rfl rfl rfl ON3 (.g rfl hG)) ?_
        refine W.g rfl rfl rfl rfl rfl (.t rfl _) rfl (by decide) (fun hG => Yd.mkf rfl (.cons (.t rfl) (.cons (.t rfl) .nil))) ?_
        refine W.g rfl rfl rfl rfl rfl (.t rfl _) rfl (by decide) (fun hG => Yd.call (v := .bool ((((wall_state_any (some { firm := s_0.firm, class_ := s_0.class_, read := s_0.read, knows := s_0.knows, from_ := s_0.from_ } : Option T38) d_1.by_ (fun a => wall_state_do_c1 a y5 (({ firm := s_0.firm, class_ := s_0.class_, read := s_0.read, knows := s_0.knows, from_ := s_0.from_ } : T38)))).getD false)))) rfl Try.func14 rfl rfl (.cons (.g rfl hG) (.cons (.g rfl hG) (.cons (.g rfl hG) .nil))) (by intro x' hx w hw; obtain ⟨m2, hm2, hL, hc2, hback⟩ := cX_lendAll (m := x'.m) (l := x'.l) hw; obtain ⟨p3, hp3⟩ := hx.at (p := 4) rfl; obtain ⟨Lp3, hl3, hi3⟩ := (lent_at hL hp3); have hf3 : RS rU m2 _ _ := RS_of_own hl3 hi3; obtain ⟨p4, hp4⟩ := hx.at (p := 5) rfl; obtain ⟨Lp4, hl4, hi4⟩ := (lent_at hL hp4); have hf4 : RS rU m2 _ _ := RS_of_own hl4 hi4; obtain ⟨p5, hp5⟩ := hx.at (p := 6) rfl; obtain ⟨Lp5, hl5, hi5⟩ := (lent_at hL hp5); have hf5 : RS rU m2 _ _ := RS_of_own hl5 hi5; obtain ⟨p0, hp0⟩ := hx.at (p := 3) rfl; have hB := Bk.of (lent_at hL hp0); have hP : P38 m2 (bp bs_0 0) (some { firm := s_0.firm, class_ := s_0.class_, read := s_0.read, knows := s_0.knows, from_ := s_0.from_ } : Option T38) := ⟨_, _, _, _, _, _, rfl, hB, (hs_0_0.mono (hx.1.trans hm2)), (hs_0_1.mono (hx.1.trans hm2)), hf3, hf4, hf5⟩; obtain ⟨pk0, hpk0⟩ := hx.at (p := 0) rfl; have hbk0 := Bk.of (lent_at hL hpk0); obtain ⟨pk1, hpk1⟩ := hx.at (p := 2) rfl; have hbk1 := Bk.of (lent_at hL hpk1); exact (wall_state_any_ok w0 m2 [] _ _ hP d_1.by_ _ (fun a => wall_state_do_c1 a y5 (({ firm := s_0.firm, class_ := s_0.class_, read := s_0.read, knows := s_0.knows, from_ := s_0.from_ } : T38))) ⟨15, _, _, rfl, Try.func15, rfl, rfl, fun y hy w2 hw2 v a r2 hv hr2 => by obtain rfl := hv; exact wall_state_do_c1_ok w0 y.m y.l a _ y5 (hbk0.mono hy.1) _ _ (({ firm := s_0.firm, class_ := s_0.class_, read := s_0.read, knows := s_0.knows, from_ := s_0.from_ } : T38)) _ ((hs_0_0.mono (hx.1.trans hm2)).mono hy.1) _ ((hs_0_1.mono (hx.1.trans hm2)).mono hy.1) _ (hf3.mono hy.1) _ (hf4.mono hy.1) _ (hf5.mono hy.1) (hB.mono hy.1) (hbk1.mono hy.1) r2 hr2 w2 hw2⟩ _ (gd_get (d := false) ha9 hG) w hc2).mono fun e w' ⟨he, hc'⟩ => ⟨he, hback [] w' hc'⟩)) ?_
        refine W.q rfl rfl rfl rfl (by decide) (Yd.and rfl (.t rfl) .c rfl rfl) ?_
        refine W.end ?_
        refine NX.sub (env' := [(2, _), (3, _), (63, _)]) ⟨rfl, rfl, rfl, trivial⟩ ?_
        refine NX.drop (l' := hcells b3 [_, _, _, _, _, _] 43 :: hcells b1 [_] 36 :: hcells bs_0 [_, _, _, _, _] 38 :: hownT 39 1 encU us_0_2 _ :: hownT 39 1 encU us_0_3 _ :: hownT 39 1 encU us_0_4 _ :: l) (.cons _ (.cons_cons _ (.cons_cons _ (.cons_cons _ (.cons_cons _ (.cons_cons _ (.cons_cons _ (.refl _)))))))) ?_
        refine NX.then ?_
        refine Tr.cond (.t rfl) (fun hb => ?_) (fun hb => ?_)
        · have hr := cond_t hb hr
          refine Tr.seq ?_
          refine Tr.region_f (fun _ => false) ?_
          refine W.q rfl rfl rfl rfl (by decide) (Yd.as rfl .c) ?_
          refine W.end ?_
          refine NX.sub (env' := [(4, _)]) ⟨rfl, trivial⟩ ?_
          refine NX.drop (l' := hcells bs_0 [_, _, _, _, _] 38 :: hownT 39 1 encU us_0_2 _ :: hownT 39 1 encU us_0_3 _ :: hownT 39 1 encU us_0_4 _ :: l) (.cons _ (.cons _ (.cons_cons _ (.cons_cons _ (.cons_cons _ (.cons_cons _ (.refl _))))))) ?_
          refine NX.then ?_
          refine Tr.ret' (RT.then (RT.then ?_))
          refine res1 rfl rfl ?_
          intro w hc
          cases hr
          exact ⟨rfl, hc⟩
        · have hr := cond_f hb hr
          refine Tr.skip' ?_
          refine NX.then ?_
          refine Tr.seq ?_
          obtain ⟨y10, hy11, hr⟩ := bind_some hr
          obtain ⟨hq12, hr⟩ := guard_some hr; replace hq12 := of_decide_eq_true hq12
          refine Tr.region_x (fun i => Nat.beq i 13) (fun i => Nat.beq i 13) (Ord.of [0, 1, 2, 3, 4, 5, 6, 7, 8, 9, 10, 11, 12, 13]) FM (by kernel_rfl) ?_
          refine W.q rfl rfl rfl rfl (by decide) (Yd.ldB (pos := 1) rfl rfl rfl ON36 (.t rfl)) ?_
          refine W.q rfl rfl rfl rfl (by decide) (Yd.nilc rfl (.t rfl)) ?_
          refine W.q rfl rfl rfl rfl (by decide) (Yd.fldB rfl Try.underlying38 rfl SZ25 rfl (.t rfl)) ?_
          refine W.q rfl rfl rfl rfl (by decide) (Yd.ldB (pos := 2) rfl rfl rfl ON25 (.t rfl)) ?_
          refine W.q rfl rfl rfl rfl (by decide) (Yd.fldB rfl Try.underlying43 rfl SZ3 rfl (.t rfl)) ?_
          refine W.q rfl rfl rfl rfl (by decide) (Yd.ldB (pos := 0) rfl rfl rfl ON3 (.t rfl)) ?_
          refine W.q rfl rfl rfl rfl (by decide) (Yd.idxT (pos := 3) rfl hy11 rfl Try.underlying25 SZ39 (.t rfl) (.t rfl)) ?_
          refine W.q rfl rfl rfl rfl (by decide) (Yd.ldT (enc := encU) (n := 1) (pos := 3) (fun _ => rfl) rfl hy11 rfl rfl ON39 (.t rfl)) ?_
          refine W.q rfl rfl rfl rfl (by decide) (Yd.fldB rfl Try.underlying43 rfl SZ3 rfl (.t rfl)) ?_
          refine W.q rfl rfl rfl rfl (by decide) (Yd.ldB (pos := 0) rfl rfl rfl ON3 (.t rfl)) ?_
          refine W.q rfl rfl rfl rfl (by decide) (Yd.shlU (a := 1#32) rfl .c (.t rfl) hq12) ?_
          refine W.q rfl rfl rfl rfl (by decide) (Yd.orU (a := y10) (b := (1#32 <<< d_1.to.toNat)) rfl (.t rfl) (.t rfl)) ?_
          refine W.q rfl rfl rfl rfl (by decide) (Yd.idxT (pos := 3) rfl hy11 rfl Try.underlying25 SZ39 (.t rfl) (.t rfl)) ?_
          refine W.s rfl rfl rfl rfl (Ef.stT (enc := encU) (n := 1) (pos := 3) (y := (y10 ||| (1#32 <<< d_1.to.toNat))) (us := [_]) (fun _ => rfl) rfl hy11 rfl (.t rfl) (.t rfl) SZ39 rfl rfl rfl (by decide)) ?_
          rintro _ _ ⟨rfl, rfl⟩
          refine ⟨.inl rfl, ?_⟩
          refine W.cast (m' := m) (l' := hcells b3 [_, _, _, _, _, _] 43 :: hcells b1 [_] 36 :: hcells bs_0 [_, _, _, _, _] 38 :: hownT 39 1 encU us_0_2 _ :: hownT 39 1 encU us_0_3 _ :: hownT 39 1 encU us_0_4 _ :: l) rfl rfl ?_
          refine W.end ?_
          refine NX.sub (env' := [(2, _), (3, _)]) ⟨rfl, rfl, trivial⟩ ?_
          refine NX.then ?_
          refine Tr.seq ?_
          obtain ⟨y13, hy14, hr⟩ := bind_some hr
          obtain ⟨y15, hy16, hr⟩ := bind_some hr
          refine Tr.region_x (fun i => Nat.beq i 18) (fun i => Nat.beq i 18) (Ord.of [0, 1, 2, 3, 4, 5, 6, 7, 8, 9, 10, 11, 12, 13, 14, 15, 16, 17, 18]) FM (by kernel_rfl) ?_
          refine W.q rfl rfl rfl rfl (by decide) (Yd.ldB (pos := 1) rfl rfl rfl ON36 (.t rfl)) ?_
          refine W.q rfl rfl rfl rfl (by decide) (Yd.nilc rfl (.t rfl)) ?_
          refine W.q rfl rfl rfl rfl (by decide) (Yd.fldB rfl Try.underlying38 rfl SZ25 rfl (.t rfl)) ?_
          refine W.q rfl rfl rfl rfl (by decide) (Yd.ldB (pos := 2) rfl rfl rfl ON25 (.t rfl)) ?_
          refine W.q rfl rfl rfl rfl (by decide) (Yd.fldB rfl Try.underlying43 rfl SZ3 rfl (.t rfl)) ?_
          refine W.q rfl rfl rfl rfl (by decide) (Yd.ldB (pos := 0) rfl rfl rfl ON3 (.t rfl)) ?_
          refine W.q rfl rfl rfl rfl (by decide) (Yd.idxT (pos := 4) rfl hy14 rfl Try.underlying25 SZ39 (.t rfl) (.t rfl)) ?_
          refine W.q rfl rfl rfl rfl (by decide) (Yd.ldT (enc := encU) (n := 1) (pos := 4) (fun _ => rfl) rfl hy14 rfl rfl ON39 (.t rfl)) ?_
          refine W.q rfl rfl rfl rfl (by decide) (Yd.ldB (pos := 1) rfl rfl rfl ON36 (.t rfl)) ?_
          refine W.q rfl rfl rfl rfl (by decide) (Yd.nilc rfl (.t rfl)) ?_
          refine W.q rfl rfl rfl rfl (by decide) (Yd.fldB rfl Try.underlying38 rfl SZ25 rfl (.t rfl)) ?_
          refine W.q rfl rfl rfl rfl (by decide) (Yd.ldB (pos := 2) rfl rfl rfl ON25 (.t rfl)) ?_
          refine W.q rfl rfl rfl rfl (by decide) (Yd.fldB rfl Try.underlying43 rfl SZ3 rfl (.t rfl)) ?_
          refine W.q rfl rfl rfl rfl (by decide) (Yd.ldB (pos := 0) rfl rfl rfl ON3 (.t rfl)) ?_
          refine W.q rfl rfl rfl rfl (by decide) (Yd.idxT (pos := 5) rfl hy16 rfl Try.underlying25 SZ39 (.t rfl) (.t rfl)) ?_
          refine W.q rfl rfl rfl rfl (by decide) (Yd.ldT (enc := encU) (n := 1) (pos := 5) (fun _ => rfl) rfl hy16 rfl rfl ON39 (.t rfl)) ?_
          refine W.q rfl rfl rfl rfl (by decide) (Yd.orU (a := y13) (b := y15) rfl (.t rfl) (.t rfl)) ?_
          refine W.q rfl rfl rfl rfl (by decide) (Yd.idxT (pos := 4) rfl hy14 rfl Try.underlying25 SZ39 (.t rfl) (.t rfl)) ?_
          refine W.s rfl rfl rfl rfl (Ef.stT (enc := encU) (n := 1) (pos := 4) (y := (y13 ||| y15)) (us := [_]) (fun _ => rfl) rfl hy14 rfl (.t rfl) (.t rfl) SZ39 rfl rfl rfl (by decide)) ?_
          rintro _ _ ⟨rfl, rfl⟩
          refine ⟨.inl rfl, ?_⟩
          refine W.cast (m' := m) (l' := hcells b3 [_, _, _, _, _, _] 43 :: hcells b1 [_] 36 :: hcells bs_0 [_, _, _, _, _] 38 :: hownT 39 1 encU us_0_2 _ :: hownT 39 1 encU us_0_3 _ :: hownT 39 1 encU us_0_4 _ :: l) rfl rfl ?_
          refine W.end ?_
          refine NX.sub (env' := []) trivial ?_
          refine NX.drop (l' := hcells bs_0 [_, _, _, _, _] 38 :: hownT 39 1 encU us_0_2 _ :: hownT 39 1 encU us_0_3 _ :: hownT 39 1 encU us_0_4 _ :: l) (.cons _ (.cons _ (.cons_cons _ (.cons_cons _ (.cons_cons _ (.cons_cons _ (.refl _))))))) ?_
          refine NX.then ?_
          refine Tr.seq ?_
          refine Tr.region_f (fun _ => false) ?_
          refine W.q rfl rfl rfl rfl (by decide) (Yd.as rfl .c) ?_
          refine W.end ?_
          refine NX.sub (env' := [(4, _)]) ⟨rfl, trivial⟩ ?_
          refine NX.then ?_
          refine Tr.ret' (RT.then ?_)
          refine res1 rfl rfl ?_
          intro w hc
          cases hr
          exact ⟨rfl, hc⟩
      · have hr := cond_f hb hr
        refine Tr.skip' ?_
        refine NX.then ?_
        refine Tr.seq ?_
        refine Tr.seq ?_
        obtain ⟨r17, hr18, hr⟩ := bind_some hr
        refine Tr.region_f (fun _ => false) ?_
        refine W.q rfl rfl rfl rfl (by decide) (Yd.ldB (pos := 2) rfl rfl rfl ON36 (.t rfl)) ?_
        refine W.q rfl rfl rfl rfl (by decide) (Yd.fldB rfl Try.underlying43 rfl SZ3 rfl (.t rfl)) ?_
        refine W.q rfl rfl rfl rfl (by decide) (Yd.ldB (pos := 1) rfl rfl rfl ON3 (.t rfl)) ?_
        refine W.q rfl rfl rfl rfl (by decide) (Yd.mkf rfl (.cons (.t rfl) .nil)) ?_
        refine W.q rfl rfl rfl rfl (by decide) (Yd.call (v := .bool r17) rfl Try.func14 rfl rfl (.cons (.t rfl) (.cons (.t rfl) (.cons (.t rfl) .nil))) (by intro x' hx w hw; obtain ⟨m2, hm2, hL, hc2, hback⟩ := cX_lendAll (m := x'.m) (l := x'.l) hw; obtain ⟨p3, hp3⟩ := hx.at (p := 4) rfl; obtain ⟨Lp3, hl3, hi3⟩ := (lent_at hL hp3); have hf3 : RS rU m2 _ _ := RS_of_own hl3 hi3; obtain ⟨p4, hp4⟩ := hx.at (p := 5) rfl; obtain ⟨Lp4, hl4, hi4⟩ := (lent_at hL hp4); have hf4 : RS rU m2 _ _ := RS_of_own hl4 hi4; obtain ⟨p5, hp5⟩ := hx.at (p := 6) rfl; obtain ⟨Lp5, hl5, hi5⟩ := (lent_at hL hp5); have hf5 : RS rU m2 _ _ := RS_of_own hl5 hi5; obtain ⟨p0, hp0⟩ := hx.at (p := 3) rfl; have hB := Bk.of (lent_at hL hp0); have hP : P38 m2 (bp bs_0 0) (some { firm := s_0.firm, class_ := s_0.class_, read := s_0.read, knows := s_0.knows, from_ := s_0.from_ } : Option T38) := ⟨_, _, _, _, _, _, rfl, hB, (hs_0_0.mono (hx.1.trans hm2)), (hs_0_1.mono (hx.1.trans hm2)), hf3, hf4, hf5⟩; obtain ⟨pk0, hpk0⟩ := hx.at (p := 0) rfl; have hbk0 := Bk.of (lent_at hL hpk0); exact (wall_state_any_ok w0 m2 [] _ _ hP d_1.by_ _ (fun a => wall_state_do_c2 a y5) ⟨16, _, _, rfl, Try.func16, rfl, rfl, fun y hy w2 hw2 v a r2 hv hr2 => by obtain rfl := hv; exact wall_state_do_c2_ok w0 y.m y.l a _ y5 (hbk0.mono hy.1) r2 hr2 w2 hw2⟩ _ hr18 w hc2).mono fun e w' ⟨he, hc'⟩ => ⟨he, hback [] w' hc'⟩)) ?_
        refine W.end ?_
        refine NX.sub (env' := [(2, _), (3, _), (99, _)]) ⟨rfl, rfl, rfl, trivial⟩ ?_
        refine NX.drop (l' := hcells b3 [_, _, _, _, _, _] 43 :: hcells b1 [_] 36 :: hcells bs_0 [_, _, _, _, _] 38 :: hownT 39 1 encU us_0_2 _ :: hownT 39 1 encU us_0_3 _ :: hownT 39 1 encU us_0_4 _ :: l) (.cons _ (.cons_cons _ (.cons_cons _ (.cons_cons _ (.cons_cons _ (.cons_cons _ (.cons_cons _ (.refl _)))))))) ?_
        refine NX.then ?_
        refine Tr.cond (.t rfl) (fun hb => ?_) (fun hb => ?_)
        · have hr := cond_t hb hr
          refine Tr.seq ?_
          refine Tr.region_f (fun _ => false) ?_
          refine W.q rfl rfl rfl rfl (by decide) (Yd.as rfl .c) ?_
          refine W.end ?_
          refine NX.sub (env' := [(4, _)]) ⟨rfl, trivial⟩ ?_
          refine NX.drop (l' := hcells bs_0 [_, _, _, _, _] 38 :: hownT 39 1 encU us_0_2 _ :: hownT 39 1 encU us_0_3 _ :: hownT 39 1 encU us_0_4 _ :: l) (.cons _ (.cons _ (.cons_cons _ (.cons_cons _ (.cons_cons _ (.cons_cons _ (.refl _))))))) ?_
          refine NX.then ?_
          refine Tr.ret' (RT.then ?_)
          refine res1 rfl rfl ?_
          intro w hc
          cases hr
          exact ⟨rfl, hc⟩
        · have hr := cond_f hb hr
          refine Tr.skip' ?_
          refine NX.then ?_
          refine Tr.seq ?_
          obtain ⟨y19, hy20, hr⟩ := bind_some hr
          obtain ⟨y21, hy22, hr⟩ := bind_some hr
          refine Tr.region_x (fun i => Nat.beq i 18) (fun i => Nat.beq i 18) (Ord.of [0, 1, 2, 3, 4, 5, 6, 7, 8, 9, 10, 11, 12, 13, 14, 15, 16, 17, 18]) FM (by kernel_rfl) ?_
          refine W.q rfl rfl rfl rfl (by decide) (Yd.ldB (pos := 1) rfl rfl rfl ON36 (.t rfl)) ?_
          refine W.q rfl rfl rfl rfl (by decide) (Yd.nilc rfl (.t rfl)) ?_
          refine W.q rfl rfl rfl rfl (by decide) (Yd.fldB rfl Try.underlying38 rfl SZ25 rfl (.t rfl)) ?_
          refine W.q rfl rfl rfl rfl (by decide) (Yd.ldB (pos := 2) rfl rfl rfl ON25 (.t rfl)) ?_
          refine W.q rfl rfl rfl rfl (by decide) (Yd.fldB rfl Try.underlying43 rfl SZ3 rfl (.t rfl)) ?_
          refine W.q rfl rfl rfl rfl (by decide) (Yd.ldB (pos := 0) rfl rfl rfl ON3 (.t rfl)) ?_
          refine W.q rfl rfl rfl rfl (by decide) (Yd.idxT (pos := 5) rfl hy20 rfl Try.underlying25 SZ39 (.t rfl) (.t rfl)) ?_
          refine W.q rfl rfl rfl rfl (by decide) (Yd.ldT (enc := encU) (n := 1) (pos := 5) (fun _ => rfl) rfl hy20 rfl rfl ON39 (.t rfl)) ?_
          refine W.q rfl rfl rfl rfl (by decide) (Yd.ldB (pos := 1) rfl rfl rfl ON36 (.t rfl)) ?_
          refine W.q rfl rfl rfl rfl (by decide) (Yd.nilc rfl (.t rfl)) ?_
          refine W.q rfl rfl rfl rfl (by decide) (Yd.fldB rfl Try.underlying38 rfl SZ25 rfl (.t rfl)) ?_
          refine W.q rfl rfl rfl rfl (by decide) (Yd.ldB (pos := 2) rfl rfl rfl ON25 (.t rfl)) ?_
          refine W.q rfl rfl rfl rfl (by decide) (Yd.fldB rfl Try.underlying43 rfl SZ3 rfl (.t rfl)) ?_
          refine W.q rfl rfl rfl rfl (by decide) (Yd.ldB (pos := 0) rfl rfl rfl ON3 (.t rfl)) ?_
          refine W.q rfl rfl rfl rfl (by decide) (Yd.idxT (pos := 4) rfl hy22 rfl Try.underlying25 SZ39 (.t rfl) (.t rfl)) ?_
          refine W.q rfl rfl rfl rfl (by decide) (Yd.ldT (enc := encU) (n := 1) (pos := 4) (fun _ => rfl) rfl hy22 rfl rfl ON39 (.t rfl)) ?_
          refine W.q rfl rfl rfl rfl (by decide) (Yd.orU (a := y19) (b := y21) rfl (.t rfl) (.t rfl)) ?_
          refine W.q rfl rfl rfl rfl (by decide) (Yd.idxT (pos := 5) rfl hy20 rfl Try.underlying25 SZ39 (.t rfl) (.t rfl)) ?_
          refine W.s rfl rfl rfl rfl (Ef.stT (enc := encU) (n := 1) (pos := 5) (y := (y19 ||| y21)) (us := [_]) (fun _ => rfl) rfl hy20 rfl (.t rfl) (.t rfl) SZ39 rfl rfl rfl (by decide)) ?_
          rintro _ _ ⟨rfl, rfl⟩
          refine ⟨.inl rfl, ?_⟩
          refine W.cast (m' := m) (l' := hcells b3 [_, _, _, _, _, _] 43 :: hcells b1 [_] 36 :: hcells bs_0 [_, _, _, _, _] 38 :: hownT 39 1 encU us_0_2 _ :: hownT 39 1 encU us_0_3 _ :: hownT 39 1 encU us_0_4 _ :: l) rfl rfl ?_
          refine W.end ?_
          refine NX.sub (env' := []) trivial ?_
          refine NX.drop (l' := hcells bs_0 [_, _, _, _, _] 38 :: hownT 39 1 encU us_0_2 _ :: hownT 39 1 encU us_0_3 _ :: hownT 39 1 encU us_0_4 _ :: l) (.cons _ (.cons _ (.cons_cons _ (.cons_cons _ (.cons_cons _ (.cons_cons _ (.refl _))))))) ?_
          refine NX.then ?_
          refine Tr.seq ?_
          refine Tr.region_f (fun _ => false) ?_
          refine W.q rfl rfl rfl rfl (by decide) (Yd.as rfl .c) ?_
          refine W.end ?_
          refine NX.sub (env' := [(4, _)]) ⟨rfl, trivial⟩ ?_
          refine NX.then ?_
          refine Tr.ret' ?_
          refine res1 rfl rfl ?_
          intro w hc
          cases hr
          exact ⟨rfl, hc⟩

def wall_Play_k488 (l480 : List Int) (l482 : List (BitVec 32)) (l484 : List (BitVec 32)) (l486 : List (BitVec 32)) : Option (Walled × Int) :=
  some ((({ codes := l480, read := l484, src := l486 } : Walled), (0 : Int)))

def wall_Play_b498 (firm_1 : List Int) (class_2 : List Int) (script_3 : List Deed) (t_497 : Int) (l472 : List Int) (l474 : List (BitVec 32)) (l476 : List (BitVec 32)) (l478 : List (BitVec 32)) (nx499 : ((List Int) × (List (BitVec 32)) × (List (BitVec 32)) × (List (BitVec 32))) → Option (Walled × Int)) : Option (Walled × Int) :=
  (geti script_3 t_497).bind fun y501 =>
  (wall_state_do (({ firm := firm_1, class_ := class_2, read := l476, knows := l474, from_ := l478 } : T38)) (({ kind := y501.kind, by_ := y501.by_, to := y501.to, label := ({ level := y501.label.level, parts := y501.label.parts } : Label), val := y501.val } : Deed))).bind fun r505 =>
  bif decide (l472.length + (([r505.1] : List Int)).length ≤ 17592186044416) then
  nx499 ((l472 ++ ([r505.1] : List Int)), r505.2.knows, r505.2.read, r505.2.from_) else none

def wall_Play_k459 (who_0 : Int) (firm_1 : List Int) (class_2 : List Int) (script_3 : List Deed) (l457 : List (BitVec 32)) : Option (Walled × Int) :=
  forK (σ := (List Int) × (List (BitVec 32)) × (List (BitVec 32)) × (List (BitVec 32))) (fun i s nx_ => wall_Play_b498 firm_1 class_2 script_3 i s.1 s.2.1 s.2.2.1 s.2.2.2 nx_) (fun s => wall_Play_k488 s.1 s.2.1 s.2.2.1 s.2.2.2) ((script_3.length : Int) - (0 : Int)).toNat (0 : Int) ((([] : List Int)), ((List.replicate who_0.toNat (0#32))), ((List.replicate who_0.toNat (0#32))), l457)

def wall_Play_b513 (t_512 : Int) (l455 : List (BitVec 32)) (nx514 : (List (BitVec 32)) → Option (Walled × Int)) : Option (Walled × Int) :=
  bif decide (l455.length + (([(1#32 <<< t_512.toNat)] : List (BitVec 32))).length ≤ 35184372088832) then
  nx514 (l455 ++ ([(1#32 <<< t_512.toNat)] : List (BitVec 32))) else none

def wall_Play (who_0 : Int) (firm_1 : List Int) (class_2 : List Int) (script_3 : List Deed) : Option (Walled × Int) :=
  (bif (((decide (who_0 < (1 : Int))) || (decide (who_0 > (5 : Int)))) || (decide ((script_3.length : Int) > (30 : Int)))) then
  some ((({ codes := ([] : List Int), read := ([] : List (BitVec 32)), src := ([] : List (BitVec 32)) } : Walled), (1 : Int)))
  else
  (wall_wrong firm_1 class_2).bind fun r12 =>
  (bif (r12 != (0 : Int)) then
  some ((({ codes := ([] : List Int), read := ([] : List (BitVec 32)), src := ([] : List (BitVec 32)) } : Walled), r12))
  else
  bif decide (0 ≤ who_0 ∧ who_0 ≤ 1048576) then
  bif decide ((firm_1.length : Int) ≤ 9223372036854775807) then
  forK (σ := (List (BitVec 32))) (fun i s nx_ => wall_Play_b513 i s nx_) (fun s => wall_Play_k459 who_0 firm_1 class_2 script_3 s) ((firm_1.length : Int) - (0 : Int)).toNat (0 : Int) (([] : List (BitVec 32))) else none else none))

set_option maxRecDepth 100000 in
set_option maxHeartbeats 4000000 in
theorem wall_Play_ok (w0 : World) (m : Snap) (l : List HI) (who_0 : Int) (ufirm_1 : Value) (firm_1 : List Int) (hfirm_1 : RS rI m ufirm_1 firm_1) (uclass_2 : Value) (class_2 : List Int) (hclass_2 : RS rI m uclass_2 class_2) (uscript_3 : Value) (script_3 : List Deed) (hscript_3 : RS rDeed m uscript_3 script_3) (r : Walled × Int) (hr : wall_Play who_0 firm_1 class_2 script_3 = some r) (w : World) (hc : cX w0 ⟨m, l⟩ w) :
    Calls Try.prog 4 [.int .i64 who_0, ufirm_1, uclass_2, uscript_3].toArray w fun e w' => ∃ z0 : Value, ∃ z1 : Value, ∃ z2 : Value, ∃ m1 : Snap, e = .returned (.tuple #[.agg #[z0, z1, z2], .int .i64 r.2]) ∧ Sle m m1 ∧ RS rI m1 z0 r.1.codes ∧ RS rU m1 z1 r.1.read ∧ RS rU m1 z2 r.1.src ∧ cX w0 ⟨m1, l⟩ w' := by
  unfold wall_Play at hr
  refine calls_of_Tr (N := 83) Try.func4 rfl hc rfl (Nat.le_of_ble_eq_true rfl) ?_
  refine Tr.seq ?_
  refine Tr.addnil 28 1 ?_
  refine Tr.cast (m' := m) (l' := hownT 28 1 encI (.slice none 0 0) (([] : List Int)) :: l) rfl rfl ?_
  refine Tr.addnil 39 1 ?_
  refine Tr.cast (m' := m) (l' := hownT 39 1 encU (.slice none 0 0) (([] : List (BitVec 32))) :: hownT 28 1 encI (.slice none 0 0) (([] : List Int)) :: l) rfl rfl ?_
  refine Tr.addnil 39 1 ?_
  refine Tr.cast (m' := m) (l' := hownT 39 1 encU (.slice none 0 0) (([] : List (BitVec 32))) :: hownT 39 1 encU (.slice none 0 0) (([] : List (BitVec 32))) :: hownT 28 1 encI (.slice none 0 0) (([] : List Int)) :: l) rfl rfl ?_
  refine Tr.region_f (fun i => Nat.beq i 0) ?_
  refine W.e rfl rfl rfl rfl (by decide) (Ef.al rfl ZR27 rfl) ?_
  rintro _ _ ⟨b4, rfl, rfl⟩
  refine ⟨.inl rfl, ?_⟩
  refine W.cast (m' := m) (l' := hcells b4 [_, _, _] 27 :: hownT 39 1 encU (.slice none 0 0) (([] : List (BitVec 32))) :: hownT 39 1 encU (.slice none 0 0) (([] : List (BitVec 32))) :: hownT 28 1 encI (.slice none 0 0) (([] : List Int)) :: l) rfl rfl ?_
  refine W.q rfl rfl rfl rfl (by decide) (Yd.as rfl .c) ?_
  refine W.end ?_
  refine NX.sub (env' := [(0, _), (1, _), (2, _), (3, _), (8, _)]) ⟨rfl, rfl, rfl, rfl, rfl, trivial⟩ ?_
  refine NX.then ?_
  refine Tr.seq ?_
  refine Tr.seq ?_
  refine Tr.region_f (fun _ => false) ?_
  refine W.q rfl rfl rfl rfl (by decide) (Yd.mv rfl (.t rfl)) ?_
  refine W.q rfl rfl rfl rfl (by decide) (Yd.lss rfl (.t rfl) .c) ?_
  refine W.q rfl rfl rfl rfl (by decide) (Yd.mv rfl (.t rfl)) ?_
  refine W.g rfl rfl rfl rfl rfl (.t rfl _) rfl (by decide) (fun hG => Yd.mv rfl (.t rfl)) ?_
  refine W.g rfl rfl rfl rfl rfl (.t rfl _) rfl (by decide) (fun hG => Yd.gtr rfl (.g rfl hG) .c) ?_
  refine W.q rfl rfl rfl rfl (by decide) (Yd.or rfl (.t rfl) .c rfl rfl) ?_
  refine W.q rfl rfl rfl rfl (by decide) (Yd.mv rfl (.t rfl)) ?_
  refine W.g rfl rfl rfl rfl rfl (.t rfl _) rfl (by decide) (fun hG => Yd.mv rfl (.t rfl)) ?_
  refine W.g rfl rfl rfl rfl rfl (.t rfl _) rfl (by decide) (fun hG => Yd.lenR hscript_3 rfl Try.underlying23 (.g rfl hG)) ?_
  refine W.g rfl rfl rfl rfl rfl (.t rfl _) rfl (by decide) (fun hG => Yd.gtr rfl (.g rfl hG) .c) ?_
  refine W.q rfl rfl rfl rfl (by decide) (Yd.or rfl (.t rfl) .c rfl rfl) ?_
  refine W.end ?_
  refine NX.sub (env' := [(0, _), (1, _), (2, _), (3, _), (8, _), (26, _)]) ⟨rfl, rfl, rfl, rfl, rfl, rfl, trivial⟩ ?_
  refine NX.then ?_
  refine Tr.cond (.t rfl) (fun hb => ?_) (fun hb => ?_)
  · have hr := cond_t hb hr
    refine Tr.seq ?_
    refine Tr.region_f (fun i => Nat.beq i 1) ?_
    refine W.q rfl rfl rfl rfl (by decide) (Yd.bld (cells := [.slice none 0 0, .slice none 0 0, .slice none 0 0]) rfl ZI27 PL27 .nil rfl) ?_
    refine W.s rfl rfl rfl rfl (Ef.stB (pos := 0) (us := [_, _, _]) (cs' := [_, _, _]) rfl rfl (.t rfl) (.t rfl) SZ27 rfl rfl rfl (Nat.le_of_ble_eq_true rfl) rfl) ?_
    rintro _ _ ⟨rfl, rfl⟩
    refine ⟨.inl rfl, ?_⟩
    refine W.cast (m' := m) (l' := hcells b4 [_, _, _] 27 :: hownT 39 1 encU (.slice none 0 0) (([] : List (BitVec 32))) :: hownT 39 1 encU (.slice none 0 0) (([] : List (BitVec 32))) :: hownT 28 1 encI (.slice none 0 0) (([] : List Int)) :: l) rfl rfl ?_
    refine W.q rfl rfl rfl rfl (by decide) (Yd.as rfl .c) ?_
    refine W.end ?_
    refine NX.sub (env' := [(8, _), (9, _)]) ⟨rfl, rfl, trivial⟩ ?_
    refine NX.then ?_
    refine Tr.ret' (RT.then ?_)
    refine resV2 rfl (Rv.cs (pos := 0) rfl rfl rfl ON27 US27 SZ27) (Rv.t rfl) ?_
    intro w hc
    cases hr
    obtain ⟨m6, hsm6, hu7, hc⟩ := cX_freeze (enc := encI) (n := 1) (p := 3) (fun _ => rfl) hc rfl
    have hfirm_1 := hfirm_1.mono hsm6
    have hclass_2 := hclass_2.mono hsm6
    have hscript_3 := hscript_3.mono hsm6
    obtain ⟨m8, hsm8, hu9, hc⟩ := cX_freeze (enc := encU) (n := 1) (p := 2) (fun _ => rfl) hc rfl
    have hfirm_1 := hfirm_1.mono hsm8
    have hclass_2 := hclass_2.mono hsm8
    have hscript_3 := hscript_3.mono hsm8
    have hu7 := hu7.mono hsm8
    obtain ⟨m10, hsm10, hu11, hc⟩ := cX_freeze (enc := encU) (n := 1) (p := 1) (fun _ => rfl) hc rfl
    have hfirm_1 := hfirm_1.mono hsm10
    have hclass_2 := hclass_2.mono hsm10
    have hscript_3 := hscript_3.mono hsm10
    have hu7 := hu7.mono hsm10
    have hu9 := hu9.mono hsm10
    exact ⟨_, _, _, _, rfl, ((hsm6.trans hsm8).trans hsm10), hu7, hu9, hu11, (cX_sub (.cons _ (.refl _)) hc)⟩
  · have hr := cond_f hb hr
    refine Tr.skip' ?_
    refine NX.then ?_
    refine Tr.seq ?_
    refine Tr.seq ?_
    obtain ⟨r12, hr13, hr⟩ := bind_some hr
    refine Tr.region_f (fun _ => false) ?_
    refine W.q rfl rfl rfl rfl (by decide) (Yd.mv rfl (.t rfl)) ?_
    refine W.q rfl rfl rfl rfl (by decide) (Yd.mv rfl (.t rfl)) ?_
    refine W.q rfl rfl rfl rfl (by decide) (Yd.call (v := .int .i64 r12) rfl Try.func9 rfl rfl (.cons (.t rfl) (.cons (.t rfl) .nil)) (fun x' hx w hw => wall_wrong_ok w0 x'.m x'.l _ _ (hfirm_1.mono hx.1) _ _ (hclass_2.mono hx.1) _ hr13 w hw)) ?_
    refine W.q rfl rfl rfl rfl (by decide) (Yd.as rfl (.t rfl)) ?_
    refine W.end ?_
    refine NX.sub (env' := [(0, _), (1, _), (2, _), (3, _), (8, _), (10, _)]) ⟨rfl, rfl, rfl, rfl, rfl, rfl, trivial⟩ ?_
    refine NX.then ?_
    refine Tr.seq ?_
    refine Tr.region_f (fun _ => false) ?_
    refine W.q rfl rfl rfl rfl (by decide) (Yd.mv rfl (.t rfl)) ?_
    refine W.q rfl rfl rfl rfl (by decide) (Yd.neq rfl (.t rfl) .c) ?_
    refine W.end ?_
    refine NX.sub (env' := [(0, _), (1, _), (2, _), (3, _), (8, _), (10, _), (32, _)]) ⟨rfl, rfl, rfl, rfl, rfl, rfl, rfl, trivial⟩ ?_
    refine NX.then ?_
    refine Tr.cond (.t rfl) (fun hb => ?_) (fun hb => ?_)
    · have hr := cond_t hb hr
      refine Tr.seq ?_
      refine Tr.region_f (fun i => Nat.beq i 2) ?_
      refine W.q rfl rfl rfl rfl (by decide) (Yd.bld (cells := [.slice none 0 0, .slice none 0 0, .slice none 0 0]) rfl ZI27 PL27 .nil rfl) ?_
      refine W.q rfl rfl rfl rfl (by decide) (Yd.mv rfl (.t rfl)) ?_
      refine W.s rfl rfl rfl rfl (Ef.stB (pos := 0) (us := [_, _, _]) (cs' := [_, _, _]) rfl rfl (.t rfl) (.t rfl) SZ27 rfl rfl rfl (Nat.le_of_ble_eq_true rfl) rfl) ?_
      rintro _ _ ⟨rfl, rfl⟩
      refine ⟨.inl rfl, ?_⟩
      refine W.cast (m' := m) (l' := hcells b4 [_, _, _] 27 :: hownT 39 1 encU (.slice none 0 0) (([] : List (BitVec 32))) :: hownT 39 1 encU (.slice none 0 0) (([] : List (BitVec 32))) :: hownT 28 1 encI (.slice none 0 0) (([] : List Int)) :: l) rfl rfl ?_
      refine W.q rfl rfl rfl rfl (by decide) (Yd.as rfl (.t rfl)) ?_
      refine W.end ?_
      refine NX.sub (env' := [(8, _), (9, _)]) ⟨rfl, rfl, trivial⟩ ?_
      refine NX.then ?_
      refine Tr.ret' (RT.then ?_)
      refine resV2 rfl (Rv.cs (pos := 0) rfl rfl rfl ON27 US27 SZ27) (Rv.t rfl) ?_
      intro w hc
      cases hr
      obtain ⟨m14, hsm14, hu15, hc⟩ := cX_freeze (enc := encI) (n := 1) (p := 3) (fun _ => rfl) hc rfl
      have hfirm_1 := hfirm_1.mono hsm14
      have hclass_2 := hclass_2.mono hsm14
      have hscript_3 := hscript_3.mono hsm14
      obtain ⟨m16, hsm16, hu17, hc⟩ := cX_freeze (enc := encU) (n := 1) (p := 2) (fun _ => rfl) hc rfl
      have hfirm_1 := hfirm_1.mono hsm16
      have hclass_2 := hclass_2.mono hsm16
      have hscript_3 := hscript_3.mono hsm16
      have hu15 := hu15.mono hsm16
      obtain ⟨m18, hsm18, hu19, hc⟩ := cX_freeze (enc := encU) (n := 1) (p := 1) (fun _ => rfl) hc rfl
      have hfirm_1 := hfirm_1.mono hsm18
      have hclass_2 := hclass_2.mono hsm18
      have hscript_3 := hscript_3.mono hsm18
      have hu15 := hu15.mono hsm18
      have hu17 := hu17.mono hsm18
      exact ⟨_, _, _, _, rfl, ((hsm14.trans hsm16).trans hsm18), hu15, hu17, hu19, (cX_sub (.cons _ (.refl _)) hc)⟩
    · have hr := cond_f hb hr
      refine Tr.skip' ?_
      refine NX.then ?_
      refine Tr.seq ?_
      refine Tr.addnil 39 1 ?_
      refine Tr.cast (m' := m) (l' := hownT 39 1 encU (.slice none 0 0) (([] : List (BitVec 32))) :: hcells b4 [(.slice none 0 0), (.slice none 0 0), (.slice none 0 0)] 27 :: hownT 39 1 encU (.slice none 0 0) (([] : List (BitVec 32))) :: hownT 39 1 encU (.slice none 0 0) (([] : List (BitVec 32))) :: hownT 28 1 encI (.slice none 0 0) (([] : List Int)) :: l) rfl rfl ?_
      refine Tr.join (S := fun env x => ∃ b351 : Nat, ∃ v191 : Value, ∃ v271 : Value, env = [(1, ufirm_1), (3, uscript_3), (8, bp b4 0), (11, bp b351 0)] ∧ x = ⟨m, hcells b351 [ufirm_1, uclass_2, v191, v271, (.slice none 0 0)] 38 :: hownT 39 1 encU v271 ((List.replicate who_0.toNat (0#32))) :: hownT 39 1 encU v191 ((List.replicate who_0.toNat (0#32))) :: hownT 39 1 encU (.slice none 0 0) (([] : List (BitVec 32))) :: hcells b4 [(.slice none 0 0), (.slice none 0 0), (.slice none 0 0)] 27 :: hownT 39 1 encU (.slice none 0 0) (([] : List (BitVec 32))) :: hownT 39 1 encU (.slice none 0 0) (([] : List (BitVec 32))) :: hownT 28 1 encI (.slice none 0 0) (([] : List Int)) :: l⟩ ∧ (bif decide ((firm_1.length : Int) ≤ 9223372036854775807) then
  forK (σ := (List (BitVec 32))) (fun i s nx_ => wall_Play_b513 i s nx_) (fun s => wall_Play_k459 who_0 firm_1 class_2 script_3 s) ((firm_1.length : Int) - (0 : Int)).toNat (0 : Int) (([] : List (BitVec 32))) else none) = some r) ?_ (fun hk391 => ?_)
      · rintro _ _ ⟨b351, v191, v271, rfl, rfl, hr⟩
        refine NX.then ?_
        refine Tr.seq ?_
        refine Tr.seq ?_
        refine Tr.region_f (fun _ => false) ?_
        refine W.q rfl rfl rfl rfl (by decide) (Yd.mv rfl (.t rfl)) ?_
        refine W.q rfl rfl rfl rfl (by decide) (Yd.lenR hfirm_1 rfl Try.underlying22 (.t rfl)) ?_
        refine W.q rfl rfl rfl rfl (by decide) (Yd.mv rfl .c) ?_
        refine W.end ?_
        refine NX.sub (env' := [(3, _), (8, _), (11, _), (44, _), (45, _)]) ⟨rfl, rfl, rfl, rfl, rfl, trivial⟩ ?_
        refine NX.then ?_
        refine Tr.join (S := fun env x => ∃ l457 : List (BitVec 32), ∃ v458 : Value, env = [(3, uscript_3), (8, bp b4 0), (11, bp b351 0)] ∧ x = ⟨m, hcells b351 [ufirm_1, uclass_2, v191, v271, v458] 38 :: hownT 39 1 encU v271 ((List.replicate who_0.toNat (0#32))) :: hownT 39 1 encU v191 ((List.replicate who_0.toNat (0#32))) :: hownT 39 1 encU v458 l457 :: hcells b4 [(.slice none 0 0), (.slice none 0 0), (.slice none 0 0)] 27 :: hownT 39 1 encU (.slice none 0 0) (([] : List (BitVec 32))) :: hownT 39 1 encU (.slice none 0 0) (([] : List (BitVec 32))) :: hownT 28 1 encI (.slice none 0 0) (([] : List Int)) :: l⟩ ∧ wall_Play_k459 who_0 firm_1 class_2 script_3 l457 = some r) ?_ (fun hk460 => ?_)
        · rintro _ _ ⟨l457, v458, rfl, rfl, hr⟩
          unfold wall_Play_k459 at hr
          try dsimp only at hr
          refine NX.then ?_
          refine Tr.seq ?_
          refine Tr.region_f (fun _ => false) ?_
          refine W.q rfl rfl rfl rfl (by decide) (Yd.as rfl .c) ?_
          refine W.end ?_
          refine NX.sub (env' := [(3, _), (8, _), (11, _), (13, _)]) ⟨rfl, rfl, rfl, rfl, trivial⟩ ?_
          refine NX.then ?_
          refine Tr.seq ?_
          refine Tr.seq ?_
          refine Tr.region_f (fun _ => false) ?_
          refine W.q rfl rfl rfl rfl (by decide) (Yd.mv rfl (.t rfl)) ?_
          refine W.q rfl rfl rfl rfl (by decide) (Yd.lenR hscript_3 rfl Try.underlying23 (.t rfl)) ?_
          refine W.q rfl rfl rfl rfl (by decide) (Yd.mv rfl .c) ?_
          refine W.end ?_
          refine NX.sub (env' := [(8, _), (11, _), (13, _), (60, _), (61, _), (62, _)]) ⟨rfl, rfl, rfl, rfl, rfl, rfl, trivial⟩ ?_
          refine NX.then ?_
          refine Tr.addnil 28 1 ?_
          refine Tr.join (S := fun env x => ∃ l480 : List Int, ∃ l482 : List (BitVec 32), ∃ l484 : List (BitVec 32), ∃ l486 : List (BitVec 32), ∃ v481 : Value, ∃ v483 : Value, ∃ v485 : Value, ∃ v487 : Value, env = [(8, bp b4 0), (11, bp b351 0), (13, v481)] ∧ x = ⟨m, hownT 28 1 encI v481 l480 :: hcells b351 [ufirm_1, uclass_2, v485, v483, v487] 38 :: hownT 39 1 encU v483 l482 :: hownT 39 1 encU v485 l484 :: hownT 39 1 encU v487 l486 :: hcells b4 [(.slice none 0 0), (.slice none 0 0), (.slice none 0 0)] 27 :: hownT 39 1 encU (.slice none 0 0) (([] : List (BitVec 32))) :: hownT 39 1 encU (.slice none 0 0) (([] : List (BitVec 32))) :: hownT 28 1 encI (.slice none 0 0) (([] : List Int)) :: l⟩ ∧ wall_Play_k488 l480 l482 l484 l486 = some r) ?_ (fun hk489 => ?_)
          · rintro _ _ ⟨l480, l482, l484, l486, v481, v483, v485, v487, rfl, rfl, hr⟩
            unfold wall_Play_k488 at hr
            try dsimp only at hr
            refine NX.then ?_
            refine Tr.seq ?_
            refine Tr.region_x (fun i => Nat.beq i 10) (fun i => Nat.beq i 10) (Ord.of [0, 1, 2, 3, 4, 5, 6, 7, 8, 9, 10, 11]) FM (by kernel_rfl) ?_
            refine W.q rfl rfl rfl rfl (by decide) (Yd.mv rfl (.t rfl)) ?_
            refine W.q rfl rfl rfl rfl (by decide) (Yd.mv rfl (.t rfl)) ?_
            refine W.q rfl rfl rfl rfl (by decide) (Yd.nilc rfl (.t rfl)) ?_
            refine W.q rfl rfl rfl rfl (by decide) (Yd.fldB rfl Try.underlying38 rfl SZ25 rfl (.t rfl)) ?_
            refine W.q rfl rfl rfl rfl (by decide) (Yd.ldB (pos := 1) rfl rfl rfl ON25 (.t rfl)) ?_
            refine W.q rfl rfl rfl rfl (by decide) (Yd.mv rfl (.t rfl)) ?_
            refine W.q rfl rfl rfl rfl (by decide) (Yd.nilc rfl (.t rfl)) ?_
            refine W.q rfl rfl rfl rfl (by decide) (Yd.fldB rfl Try.underlying38 rfl SZ25 rfl (.t rfl)) ?_
            refine W.q rfl rfl rfl rfl (by decide) (Yd.ldB (pos := 1) rfl rfl rfl ON25 (.t rfl)) ?_
            refine W.q rfl rfl rfl rfl (by decide) (Yd.bld3 (cells := [v481, v485, v487]) (Sl.own (p := 0) rfl) (Sl.own (p := 3) rfl) (Sl.own (p := 4) rfl) rfl ZI27 PL27 (.cons (.t rfl) (.cons (.t rfl) (.cons (.t rfl) .nil))) (by rintro ⟨_, _, _, rfl⟩; rintro ⟨_, _, _, rfl⟩; rintro ⟨_, _, _, rfl⟩; rfl)) ?_
            refine W.s rfl rfl rfl rfl (Ef.stBs (pos := 5) (us := [v481, v485, v487]) (cs' := [_, _, _]) (.cons (On.own (pos := 0) rfl) (.cons (On.own (pos := 3) rfl) (.cons (On.own (pos := 4) rfl) .nil))) rfl rfl (.t rfl) (.t rfl) SZ27 rfl rfl (Nat.le_of_ble_eq_true rfl) rfl) ?_
            rintro _ _ ⟨rfl, rfl⟩
            refine ⟨.inl rfl, ?_⟩
            refine W.cast (m' := m) (l' := hownT 28 1 encI v481 _ :: hcells b351 [_, _, _, _, _] 38 :: hownT 39 1 encU v483 _ :: hownT 39 1 encU v485 _ :: hownT 39 1 encU v487 _ :: hcells b4 [_, _, _] 27 :: hownT 39 1 encU (.slice none 0 0) (([] : List (BitVec 32))) :: hownT 39 1 encU (.slice none 0 0) (([] : List (BitVec 32))) :: hownT 28 1 encI (.slice none 0 0) (([] : List Int)) :: l) rfl rfl ?_
            refine W.q rfl rfl rfl rfl (by decide) (Yd.as rfl .c) ?_
            refine W.end ?_
            refine NX.sub (env' := [(8, _), (9, _)]) ⟨rfl, rfl, trivial⟩ ?_
            refine NX.drop (l' := hownT 28 1 encI v481 _ :: hownT 39 1 encU v485 _ :: hownT 39 1 encU v487 _ :: hcells b4 [_, _, _] 27 :: l) (.cons_cons _ (.cons _ (.cons _ (.cons_cons _ (.cons_cons _ (.cons_cons _ (.cons _ (.cons _ (.cons _ (.refl _)))))))))) ?_
            refine NX.then ?_
            refine Tr.ret' ?_
            refine resV2 rfl (Rv.cs (pos := 3) rfl rfl rfl ON27 US27 SZ27) (Rv.t rfl) ?_
            intro w hc
            cases hr
            obtain ⟨m490, hsm490, hu491, hc⟩ := cX_freeze (enc := encI) (n := 1) (p := 0) (fun _ => rfl) hc rfl
            have hfirm_1 := hfirm_1.mono hsm490
            have hclass_2 := hclass_2.mono hsm490
            have hscript_3 := hscript_3.mono hsm490
            obtain ⟨m492, hsm492, hu493, hc⟩ := cX_freeze (enc := encU) (n := 1) (p := 0) (fun _ => rfl) hc rfl
            have hfirm_1 := hfirm_1.mono hsm492
            have hclass_2 := hclass_2.mono hsm492
            have hscript_3 := hscript_3.mono hsm492
            have hu491 := hu491.mono hsm492
            obtain ⟨m494, hsm494, hu495, hc⟩ := cX_freeze (enc := encU) (n := 1) (p := 0) (fun _ => rfl) hc rfl
            have hfirm_1 := hfirm_1.mono hsm494
            have hclass_2 := hclass_2.mono hsm494
            have hscript_3 := hscript_3.mono hsm494
            have hu491 := hu491.mono hsm494
            have hu493 := hu493.mono hsm494
            exact ⟨_, _, _, _, rfl, ((hsm490.trans hsm492).trans hsm494), hu491, hu493, hu495, (cX_sub (.cons _ (.refl _)) hc)⟩
          have hlen496 := (hscript_3).2.1
          refine Tr.block ?_
          refine Tr.sub (env' := [(8, _), (11, _), (13, _), (60, _), (61, _), (62, _)]) ⟨rfl, rfl, rfl, rfl, rfl, rfl, trivial⟩ ?_
          refine Tr.loop (S := fun n (z : Int × (List Int) × (List (BitVec 32)) × (List (BitVec 32)) × (List (BitVec 32))) env x => match z with | (t_497, l472, l474, l476, l478) => ∃ v473 : Value, ∃ v475 : Value, ∃ v477 : Value, ∃ v479 : Value, env = [(8, bp b4 0), (11, bp b351 0), (13, v473), (60, uscript_3), (61, .int .i64 ((script_3.length : Int))), (62, .int .i64 t_497)] ∧ x = ⟨m, hownT 28 1 encI v473 l472 :: hcells b351 [ufirm_1, uclass_2, v477, v475, v479] 38 :: hownT 39 1 encU v475 l474 :: hownT 39 1 encU v477 l476 :: hownT 39 1 encU v479 l478 :: hcells b4 [(.slice none 0 0), (.slice none 0 0), (.slice none 0 0)] 27 :: hownT 39 1 encU (.slice none 0 0) (([] : List (BitVec 32))) :: hownT 39 1 encU (.slice none 0 0) (([] : List (BitVec 32))) :: hownT 28 1 encI (.slice none 0 0) (([] : List Int)) :: l⟩ ∧ n = ((script_3.length : Int) - t_497).toNat ∧ 0 ≤ t_497 ∧ forK (σ := (List Int) × (List (BitVec 32)) × (List (BitVec 32)) × (List (BitVec 32))) (fun i s nx_ => wall_Play_b498 firm_1 class_2 script_3 i s.1 s.2.1 s.2.2.1 s.2.2.2 nx_) (fun s => wall_Play_k488 s.1 s.2.1 s.2.2.1 s.2.2.2) n t_497 (l472, l474, l476, l478) = some r) _ ((0 : Int), ([] : List Int), (List.replicate who_0.toNat (0#32)), (List.replicate who_0.toNat (0#32)), l457) ⟨_, _, _, _, rfl, rfl, rfl, (by omega), hr⟩ ?_
          rintro n500 ⟨t_497, l472, l474, l476, l478⟩ env x ⟨v473, v475, v477, v479, rfl, rfl, hnt_497, h0t_497, hr⟩
          cases n500 with
          | zero =>
            simp only [forK] at hr
            refine Tr.seq ?_
            refine Tr.region_f (fun _ => false) ?_
            refine W.q rfl rfl rfl rfl (by decide) (Yd.lss rfl (.t rfl) (.t rfl)) ?_
            refine W.end ?_
            refine NX.sub (env' := [(8, _), (11, _), (13, _), (60, _), (61, _), (62, _), (63, _)]) ⟨rfl, rfl, rfl, rfl, rfl, rfl, rfl, trivial⟩ ?_
            refine NX.then ?_
            refine Tr.seq ?_
            refine Tr.cond (.t rfl) (fun hb => ?_) (fun hb => ?_)
            · exact absurd (hb.symm.trans (fr_end hnt_497)) (by decide)
            ·
              refine Tr.exit' (EX.then (EX.then (EX.block ?_)))
              refine NX.sub (env' := [(8, _), (11, _), (13, _)]) ⟨rfl, rfl, rfl, trivial⟩ ?_
              exact hk489 _ _ ⟨_, _, _, _, _, _, _, _, rfl, rfl, hr⟩
          | succ n500 =>
            obtain ⟨nx499, hnx499, hr⟩ := forK_succ hr
            try dsimp only at hr
            unfold wall_Play_b498 at hr
            try dsimp only at hr
            have hltt_497 := fr_bnd hnt_497
            refine Tr.seq ?_
            refine Tr.region_f (fun _ => false) ?_
            refine W.q rfl rfl rfl rfl (by decide) (Yd.lss rfl (.t rfl) (.t rfl)) ?_
            refine W.end ?_
            refine NX.sub (env' := [(8, _), (11, _), (13, _), (60, _), (61, _), (62, _), (63, _)]) ⟨rfl, rfl, rfl, rfl, rfl, rfl, rfl, trivial⟩ ?_
            refine NX.then ?_
            refine Tr.seq ?_
            refine Tr.cond (.t rfl) (fun hb => ?_) (fun hb => ?_)
            rotate_left
            · exact absurd (hb.symm.trans (fr_go hnt_497)) (by decide)
            ·
              refine Tr.skip' ?_
              refine NX.then ?_
              refine Tr.seq ?_
              refine Tr.block ?_
              refine Tr.seq ?_
              obtain ⟨y501, hy502, hr⟩ := bind_some hr
              refine Tr.region_f (fun i => Nat.beq i 2 || Nat.beq i 3) ?_
              refine W.q rfl rfl rfl rfl (by decide) (Yd.idxR hscript_3 hy502 rfl Try.underlying23 SZ43 (.t rfl) (.t rfl)) ?_
              refine W.q rfl rfl rfl rfl (by decide) (Yd.ldFs (us := [_, _, _, _, _, _]) hscript_3 (.refl _) hy502 rfl rfl ON43 US43 SZ43 (.t rfl)) ?_
              refine W.e rfl rfl rfl rfl (by decide) (Ef.al rfl ZR43 rfl) ?_
              rintro _ _ ⟨b503, rfl, rfl⟩
              refine ⟨.inl rfl, ?_⟩
              refine W.cast (m' := m) (l' := hcells b503 [_, _, _, _, _, _] 43 :: hownT 28 1 encI v473 _ :: hcells b351 [_, _, _, _, _] 38 :: hownT 39 1 encU v475 _ :: hownT 39 1 encU v477 _ :: hownT 39 1 encU v479 _ :: hcells b4 [_, _, _] 27 :: hownT 39 1 encU (.slice none 0 0) (([] : List (BitVec 32))) :: hownT 39 1 encU (.slice none 0 0) (([] : List (BitVec 32))) :: hownT 28 1 encI (.slice none 0 0) (([] : List Int)) :: l) rfl rfl ?_
              refine W.s rfl rfl rfl rfl (Ef.stB (pos := 0) (us := [_, _, _, _, _, _]) (cs' := [_, _, _, _, _, _]) rfl rfl (.t rfl) (.t rfl) SZ43 rfl rfl rfl (Nat.le_of_ble_eq_true rfl) rfl) ?_
              rintro _ _ ⟨rfl, rfl⟩
              refine ⟨.inl rfl, ?_⟩
              refine W.cast (m' := m) (l' := hcells b503 [_, _, _, _, _, _] 43 :: hownT 28 1 encI v473 _ :: hcells b351 [_, _, _, _, _] 38 :: hownT 39 1 encU v475 _ :: hownT 39 1 encU v477 _ :: hownT 39 1 encU v479 _ :: hcells b4 [_, _, _] 27 :: hownT 39 1 encU (.slice none 0 0) (([] : List (BitVec 32))) :: hownT 39 1 encU (.slice none 0 0) (([] : List (BitVec 32))) :: hownT 28 1 encI (.slice none 0 0) (([] : List Int)) :: l) rfl rfl ?_
              refine W.end ?_
              refine NX.sub (env' := [(8, _), (11, _), (13, _), (60, _), (61, _), (62, _), (15, _)]) ⟨rfl, rfl, rfl, rfl, rfl, rfl, rfl, trivial⟩ ?_
              refine NX.then ?_
              obtain ⟨r505, hr506, hr⟩ := bind_some hr
              obtain ⟨hq510, hr⟩ := guard_some hr; replace hq510 := of_decide_eq_true hq510
              refine Tr.region_f (fun i => Nat.beq i 3 || Nat.beq i 4 || Nat.beq i 5) ?_
              refine W.q rfl rfl rfl rfl (by decide) (Yd.mv rfl (.t rfl)) ?_
              refine W.q rfl rfl rfl rfl (by decide) (Yd.mv rfl (.t rfl)) ?_
              refine W.q rfl rfl rfl rfl (by decide) (Yd.ldBs (pos := 0) (us := [_, _, _, _, _, _]) rfl rfl rfl rfl ON43 US43 SZ43 (.t rfl)) ?_
              refine W.e rfl rfl rfl rfl (by decide) (Ef.call (R := fun z x' => z = .int .i64 r505.1 ∧ x' = ⟨m, hcells b351 [ufirm_1, uclass_2, v477, v475, v479] 38 :: hownT 39 1 encU v477 r505.2.read :: hownT 39 1 encU v475 r505.2.knows :: hownT 39 1 encU v479 r505.2.from_ :: hcells b503 [.int .i64 y501.kind, .int .i64 y501.by_, .int .i64 y501.to, .int .i64 y501.label.level, .int .u32 (y501.label.parts.toNat : Int), .int .i64 y501.val] 43 :: hownT 28 1 encI v473 l472 :: hcells b4 [(.slice none 0 0), (.slice none 0 0), (.slice none 0 0)] 27 :: hownT 39 1 encU (.slice none 0 0) (([] : List (BitVec 32))) :: hownT 39 1 encU (.slice none 0 0) (([] : List (BitVec 32))) :: hownT 28 1 encI (.slice none 0 0) (([] : List Int)) :: l⟩) rfl Try.func10 rfl rfl (.cons (.t rfl) (.cons (.t rfl) .nil)) (by intro w hw; replace hw := cX_front (p := 5) hw rfl; replace hw := cX_front (p := 4) hw rfl; replace hw := cX_front (p := 5) hw rfl; replace hw := cX_front (p := 5) hw rfl; exact (wall_state_do_ok w0 _ _ _ (({ firm := firm_1, class_ := class_2, read := l476, knows := l474, from_ := l478 } : T38)) _ hfirm_1 _ hclass_2 _ _ _ (({ kind := y501.kind, by_ := y501.by_, to := y501.to, label := ({ level := y501.label.level, parts := y501.label.parts } : Label), val := y501.val } : Deed)) _ hr506 w hw).mono fun e w' ⟨he, hc'⟩ => ⟨_, _, he, ⟨rfl, rfl⟩, hc'⟩)) ?_
              rintro _ _ ⟨rfl, rfl⟩
              refine ⟨.inl rfl, ?_⟩
              refine W.cast (m' := m) (l' := hcells b351 [_, _, _, _, _] 38 :: hownT 39 1 encU v477 _ :: hownT 39 1 encU v475 _ :: hownT 39 1 encU v479 _ :: hcells b503 [_, _, _, _, _, _] 43 :: hownT 28 1 encI v473 _ :: hcells b4 [_, _, _] 27 :: hownT 39 1 encU (.slice none 0 0) (([] : List (BitVec 32))) :: hownT 39 1 encU (.slice none 0 0) (([] : List (BitVec 32))) :: hownT 28 1 encI (.slice none 0 0) (([] : List Int)) :: l) rfl rfl ?_
              refine W.e rfl rfl rfl rfl (by decide) (Ef.bsT (enc := encI) (vs := [_]) (ys := [r505.1]) (fun _ => rfl) IF28 rfl Try.underlying24 (by decide) rfl (.cons (.t rfl) .nil) rfl rfl (by decide)) ?_
              rintro v507 _ rfl
              refine ⟨.inl rfl, ?_⟩
              refine W.cast (m' := m) (l' := hownT 28 1 encI v507 _ :: hcells b351 [_, _, _, _, _] 38 :: hownT 39 1 encU v477 _ :: hownT 39 1 encU v475 _ :: hownT 39 1 encU v479 _ :: hcells b503 [_, _, _, _, _, _] 43 :: hownT 28 1 encI v473 _ :: hcells b4 [_, _, _] 27 :: hownT 39 1 encU (.slice none 0 0) (([] : List (BitVec 32))) :: hownT 39 1 encU (.slice none 0 0) (([] : List (BitVec 32))) :: hownT 28 1 encI (.slice none 0 0) (([] : List Int)) :: l) rfl rfl ?_
              refine W.e rfl rfl rfl rfl (by decide) (Ef.apI (pos := 6) (enc := encI) (xs := l472) (ys := ([r505.1] : List Int)) (fun _ => rfl) IF28 rfl rfl Try.underlying24 rfl (by decide) (.t rfl) (.t rfl) (Src.own (pos := 0) rfl) (fun _ => rfl) (by omega) (by omega)) ?_
              rintro v509 _ rfl
              refine ⟨.inl rfl, ?_⟩
              refine W.cast (m' := m) (l' := hownT 28 1 encI v507 _ :: hcells b351 [_, _, _, _, _] 38 :: hownT 39 1 encU v477 _ :: hownT 39 1 encU v475 _ :: hownT 39 1 encU v479 _ :: hcells b503 [_, _, _, _, _, _] 43 :: hownT 28 1 encI v509 _ :: hcells b4 [_, _, _] 27 :: hownT 39 1 encU (.slice none 0 0) (([] : List (BitVec 32))) :: hownT 39 1 encU (.slice none 0 0) (([] : List (BitVec 32))) :: hownT 28 1 encI (.slice none 0 0) (([] : List Int)) :: l) rfl rfl ?_
              refine W.q rfl rfl rfl rfl (by decide) (Yd.as rfl (.t rfl)) ?_
              refine W.end ?_
              refine NX.sub (env' := [(8, _), (11, _), (13, _), (60, _), (61, _), (62, _)]) ⟨rfl, rfl, rfl, rfl, rfl, rfl, trivial⟩ ?_
              refine NX.drop (l' := hcells b351 [_, _, _, _, _] 38 :: hownT 39 1 encU v477 _ :: hownT 39 1 encU v475 _ :: hownT 39 1 encU v479 _ :: hownT 28 1 encI v509 _ :: hcells b4 [_, _, _] 27 :: hownT 39 1 encU (.slice none 0 0) (([] : List (BitVec 32))) :: hownT 39 1 encU (.slice none 0 0) (([] : List (BitVec 32))) :: hownT 28 1 encI (.slice none 0 0) (([] : List Int)) :: l) (.cons _ (.cons_cons _ (.cons_cons _ (.cons_cons _ (.cons_cons _ (.cons _ (.cons_cons _ (.cons_cons _ (.cons_cons _ (.cons_cons _ (.cons_cons _ (.refl _)))))))))))) ?_
              refine NX.block ?_
              refine NX.then ?_
              refine Tr.region_f (fun _ => false) ?_
              refine W.q rfl rfl rfl rfl (by decide) (Yd.add rfl (.t rfl) .c) ?_
              refine W.q rfl rfl rfl rfl (by decide) (Yd.mv rfl (.t rfl)) ?_
              refine W.end ?_
              refine NX.sub (env' := [(8, _), (11, _), (13, _), (60, _), (61, _), (62, _)]) ⟨rfl, rfl, rfl, rfl, rfl, rfl, trivial⟩ ?_
              refine NX.sub (env' := [(8, _), (11, _), (13, _), (60, _), (61, _), (62, _)]) ⟨rfl, rfl, rfl, rfl, rfl, rfl, trivial⟩ ?_
              refine NX.imp (fun w hw => cX_front (p := 8) hw rfl) ?_
              refine NX.imp (fun w hw => cX_front (p := 8) hw rfl) ?_
              refine NX.imp (fun w hw => cX_front (p := 8) hw rfl) ?_
              refine NX.imp (fun w hw => cX_front (p := 8) hw rfl) ?_
              refine NX.imp (fun w hw => cX_front (p := 7) hw rfl) ?_
              refine NX.imp (fun w hw => cX_front (p := 6) hw rfl) ?_
              refine NX.imp (fun w hw => cX_front (p := 7) hw rfl) ?_
              refine NX.imp (fun w hw => cX_front (p := 7) hw rfl) ?_
              refine NX.imp (fun w hw => cX_front (p := 8) hw rfl) ?_
              refine NX.cast (m' := m) (l' := hownT 28 1 encI v509 _ :: hcells b351 [_, _, _, _, _] 38 :: hownT 39 1 encU v475 _ :: hownT 39 1 encU v477 _ :: hownT 39 1 encU v479 _ :: hcells b4 [_, _, _] 27 :: hownT 39 1 encU (.slice none 0 0) (([] : List (BitVec 32))) :: hownT 39 1 encU (.slice none 0 0) (([] : List (BitVec 32))) :: hownT 28 1 encI (.slice none 0 0) (([] : List Int)) :: l) rfl rfl ?_
              have hw := w64_id (n := t_497 + 1) (by omega) (by omega)
              exact NX.again n500 (t_497 + 1, (l472 ++ ([r505.1] : List Int)), r505.2.knows, r505.2.read, r505.2.from_) (Nat.lt_succ_self _) ⟨_, _, _, _, (by rw [hw] <;> rfl), rfl, (fr_dec hnt_497), (by omega), ((hnx499 _).symm.trans hr)⟩
        obtain ⟨hle511, hr⟩ := guard_some hr; replace hle511 := of_decide_eq_true hle511
        refine Tr.block ?_
        refine Tr.sub (env' := [(3, _), (8, _), (11, _), (44, _), (45, _)]) ⟨rfl, rfl, rfl, rfl, rfl, trivial⟩ ?_
        refine Tr.loop (S := fun n (z : Int × (List (BitVec 32))) env x => match z with | (t_512, l455) => ∃ v456 : Value, env = [(3, uscript_3), (8, bp b4 0), (11, bp b351 0), (44, .int .i64 ((firm_1.length : Int))), (45, .int .i64 t_512)] ∧ x = ⟨m, hcells b351 [ufirm_1, uclass_2, v191, v271, v456] 38 :: hownT 39 1 encU v271 ((List.replicate who_0.toNat (0#32))) :: hownT 39 1 encU v191 ((List.replicate who_0.toNat (0#32))) :: hownT 39 1 encU v456 l455 :: hcells b4 [(.slice none 0 0), (.slice none 0 0), (.slice none 0 0)] 27 :: hownT 39 1 encU (.slice none 0 0) (([] : List (BitVec 32))) :: hownT 39 1 encU (.slice none 0 0) (([] : List (BitVec 32))) :: hownT 28 1 encI (.slice none 0 0) (([] : List Int)) :: l⟩ ∧ n = ((firm_1.length : Int) - t_512).toNat ∧ 0 ≤ t_512 ∧ forK (σ := (List (BitVec 32))) (fun i s nx_ => wall_Play_b513 i s nx_) (fun s => wall_Play_k459 who_0 firm_1 class_2 script_3 s) n t_512 l455 = some r) _ ((0 : Int), ([] : List (BitVec 32))) ⟨_, rfl, rfl, rfl, (by omega), hr⟩ ?_
        rintro n515 ⟨t_512, l455⟩ env x ⟨v456, rfl, rfl, hnt_512, h0t_512, hr⟩
        cases n515 with
        | zero =>
          simp only [forK] at hr
          refine Tr.seq ?_
          refine Tr.region_f (fun _ => false) ?_
          refine W.q rfl rfl rfl rfl (by decide) (Yd.lss rfl (.t rfl) (.t rfl)) ?_
          refine W.end ?_
          refine NX.sub (env' := [(3, _), (8, _), (11, _), (44, _), (45, _), (46, _)]) ⟨rfl, rfl, rfl, rfl, rfl, rfl, trivial⟩ ?_
          refine NX.then ?_
          refine Tr.seq ?_
          refine Tr.cond (.t rfl) (fun hb => ?_) (fun hb => ?_)
          · exact absurd (hb.symm.trans (fr_end hnt_512)) (by decide)
          ·
            refine Tr.exit' (EX.then (EX.then (EX.block ?_)))
            refine NX.sub (env' := [(3, _), (8, _), (11, _)]) ⟨rfl, rfl, rfl, trivial⟩ ?_
            exact hk460 _ _ ⟨_, _, rfl, rfl, hr⟩
        | succ n515 =>
          obtain ⟨nx514, hnx514, hr⟩ := forK_succ hr
          try dsimp only at hr
          unfold wall_Play_b513 at hr
          try dsimp only at hr
          have hltt_512 := fr_bnd hnt_512
          refine Tr.seq ?_
          refine Tr.region_f (fun _ => false) ?_
          refine W.q rfl rfl rfl rfl (by decide) (Yd.lss rfl (.t rfl) (.t rfl)) ?_
          refine W.end ?_
          refine NX.sub (env' := [(3, _), (8, _), (11, _), (44, _), (45, _), (46, _)]) ⟨rfl, rfl, rfl, rfl, rfl, rfl, trivial⟩ ?_
          refine NX.then ?_
          refine Tr.seq ?_
          refine Tr.cond (.t rfl) (fun hb => ?_) (fun hb => ?_)
          rotate_left
          · exact absurd (hb.symm.trans (fr_go hnt_512)) (by decide)
          ·
            refine Tr.skip' ?_
            refine NX.then ?_
            refine Tr.seq ?_
            refine Tr.block ?_
            refine Tr.seq ?_
            refine Tr.region_f (fun _ => false) ?_
            refine W.q rfl rfl rfl rfl (by decide) (Yd.mv rfl (.t rfl)) ?_
            refine W.q rfl rfl rfl rfl (by decide) (Yd.as rfl (.t rfl)) ?_
            refine W.end ?_
            refine NX.sub (env' := [(3, _), (8, _), (11, _), (44, _), (45, _), (12, _)]) ⟨rfl, rfl, rfl, rfl, rfl, rfl, trivial⟩ ?_
            refine NX.then ?_
            obtain ⟨hq519, hr⟩ := guard_some hr; replace hq519 := of_decide_eq_true hq519
            refine Tr.region_x (fun i => Nat.beq i 7 || Nat.beq i 8 || Nat.beq i 11) (fun i => Nat.beq i 0 || Nat.beq i 8 || Nat.beq i 11) (Ord.of [0, 1, 2, 3, 4, 5, 6, 7, 8, 9, 10, 11]) FM (by kernel_rfl) ?_
            refine W.p rfl rfl rfl rfl (by decide) (fun _ => Yd.mv rfl (.t rfl)) ?_
            refine W.q rfl rfl rfl rfl (by decide) (Yd.mv rfl (.t rfl)) ?_
            refine W.q rfl rfl rfl rfl (by decide) (Yd.nilc rfl (.t rfl)) ?_
            refine W.q rfl rfl rfl rfl (by decide) (Yd.fldB rfl Try.underlying38 rfl SZ25 rfl (.t rfl)) ?_
            refine W.q rfl rfl rfl rfl (by decide) (Yd.ldB (pos := 0) rfl rfl rfl ON25 (.t rfl)) ?_
            refine W.q rfl rfl rfl rfl (by decide) (Yd.mv rfl (.t rfl)) ?_
            refine W.q rfl rfl rfl rfl (by decide) (Yd.shlU (a := 1#32) rfl .c (.t rfl) h0t_512) ?_
            refine W.e rfl rfl rfl rfl (by decide) (Ef.bsT (enc := encU) (vs := [_]) (ys := [(1#32 <<< t_512.toNat)]) (fun _ => rfl) IF39 rfl Try.underlying25 (by decide) rfl (.cons (.t rfl) .nil) rfl rfl (by decide)) ?_
            rintro v516 _ rfl
            refine ⟨.inr ⟨.refl _, [_], rfl⟩, ?_⟩
            refine W.cast (m' := m) (l' := hownT 39 1 encU v516 _ :: hcells b351 [_, _, _, _, _] 38 :: hownT 39 1 encU v271 _ :: hownT 39 1 encU v191 _ :: hownT 39 1 encU v456 _ :: hcells b4 [_, _, _] 27 :: hownT 39 1 encU (.slice none 0 0) (([] : List (BitVec 32))) :: hownT 39 1 encU (.slice none 0 0) (([] : List (BitVec 32))) :: hownT 28 1 encI (.slice none 0 0) (([] : List Int)) :: l) rfl rfl ?_
            refine W.e rfl rfl rfl rfl (by decide) (Ef.apI (pos := 4) (enc := encU) (xs := l455) (ys := ([(1#32 <<< t_512.toNat)] : List (BitVec 32))) (fun _ => rfl) IF39 rfl rfl Try.underlying25 rfl (by decide) (.t rfl) (.t rfl) (Src.own (pos := 0) rfl) (fun _ => rfl) (by omega) (by omega)) ?_
            rintro v518 _ rfl
            refine ⟨.inl rfl, ?_⟩
            refine W.cast (m' := m) (l' := hownT 39 1 encU v516 _ :: hcells b351 [_, _, _, _, _] 38 :: hownT 39 1 encU v271 _ :: hownT 39 1 encU v191 _ :: hownT 39 1 encU v518 _ :: hcells b4 [_, _, _] 27 :: hownT 39 1 encU (.slice none 0 0) (([] : List (BitVec 32))) :: hownT 39 1 encU (.slice none 0 0) (([] : List (BitVec 32))) :: hownT 28 1 encI (.slice none 0 0) (([] : List Int)) :: l) rfl rfl ?_
            refine W.q rfl rfl rfl rfl (by decide) (Yd.nilc rfl (.t rfl)) ?_
            refine W.q rfl rfl rfl rfl (by decide) (Yd.fldB rfl Try.underlying38 rfl SZ25 rfl (.t rfl)) ?_
            refine W.s rfl rfl rfl rfl (Ef.stBo (pos := 1) (pos2 := 4) (cs' := [_, _, _, _, _]) rfl rfl rfl (.t rfl) (.t rfl) SZ25 (Nat.le_of_ble_eq_true rfl) rfl) ?_
            rintro _ _ ⟨rfl, rfl⟩
            refine ⟨.inl rfl, ?_⟩
            refine W.cast (m' := m) (l' := hownT 39 1 encU v516 _ :: hcells b351 [_, _, _, _, _] 38 :: hownT 39 1 encU v271 _ :: hownT 39 1 encU v191 _ :: hownT 39 1 encU v518 _ :: hcells b4 [_, _, _] 27 :: hownT 39 1 encU (.slice none 0 0) (([] : List (BitVec 32))) :: hownT 39 1 encU (.slice none 0 0) (([] : List (BitVec 32))) :: hownT 28 1 encI (.slice none 0 0) (([] : List Int)) :: l) rfl rfl ?_
            refine W.end ?_
            refine NX.sub (env' := [(3, _), (8, _), (11, _), (44, _), (45, _)]) ⟨rfl, rfl, rfl, rfl, rfl, trivial⟩ ?_
            refine NX.drop (l' := hcells b351 [_, _, _, _, _] 38 :: hownT 39 1 encU v271 _ :: hownT 39 1 encU v191 _ :: hownT 39 1 encU v518 _ :: hcells b4 [_, _, _] 27 :: hownT 39 1 encU (.slice none 0 0) (([] : List (BitVec 32))) :: hownT 39 1 encU (.slice none 0 0) (([] : List (BitVec 32))) :: hownT 28 1 encI (.slice none 0 0) (([] : List Int)) :: l) (.cons _ (.cons_cons _ (.cons_cons _ (.cons_cons _ (.cons_cons _ (.cons_cons _ (.cons_cons _ (.cons_cons _ (.cons_cons _ (.refl _)))))))))) ?_
            refine NX.block ?_
            refine NX.then ?_
            refine Tr.region_f (fun _ => false) ?_
            refine W.q rfl rfl rfl rfl (by decide) (Yd.add rfl (.t rfl) .c) ?_
            refine W.q rfl rfl rfl rfl (by decide) (Yd.mv rfl (.t rfl)) ?_
            refine W.end ?_
            refine NX.sub (env' := [(3, _), (8, _), (11, _), (44, _), (45, _)]) ⟨rfl, rfl, rfl, rfl, rfl, trivial⟩ ?_
            refine NX.sub (env' := [(3, _), (8, _), (11, _), (44, _), (45, _)]) ⟨rfl, rfl, rfl, rfl, rfl, trivial⟩ ?_
            have hw := w64_id (n := t_512 + 1) (by omega) (by omega)
            exact NX.again n515 (t_512 + 1, (l455 ++ ([(1#32 <<< t_512.toNat)] : List (BitVec 32)))) (Nat.lt_succ_self _) ⟨_, (by rw [hw] <;> rfl), rfl, (fr_dec hnt_512), (by omega), ((hnx514 _).symm.trans hr)⟩
      obtain ⟨hq191, hr⟩ := guard_some hr; replace hq191 := of_decide_eq_true hq191
      refine Tr.region_x (fun i => Nat.beq i 3 || Nat.beq i 5 || Nat.beq i 7) (fun _ => false) (.one 0 (.one 1 (.one 2 (.one 4 (.two 3 5 (Ord.of [5, 6, 7, 8]) (Ord.of [3, 6, 7, 8])))))) FM (by kernel_rfl) ?_
      refine W.q rfl rfl rfl rfl (by decide) (Yd.mv rfl (.t rfl)) ?_
      refine W.q rfl rfl rfl rfl (by decide) (Yd.mv rfl (.t rfl)) ?_
      refine W.q rfl rfl rfl rfl (by decide) (Yd.mv rfl (.t rfl)) ?_
      refine W.q rfl rfl rfl rfl (by decide) (Yd.mv rfl (.t rfl)) ?_
      refine W.two ?_ ?_
      ·
        refine W.e rfl rfl rfl rfl (by decide) (Ef.mkT (enc := encU) (0#32) IF39 rfl Try.underlying25 rfl rfl (by decide) (.t rfl) (.t rfl) (by omega) (by omega) (by omega)) ?_
        rintro v191 _ rfl
        refine ⟨.inr ⟨.refl _, [_], rfl⟩, ?_⟩
        refine W.cast (m' := m) (l' := hownT 39 1 encU v191 _ :: hownT 39 1 encU (.slice none 0 0) (([] : List (BitVec 32))) :: hcells b4 [_, _, _] 27 :: hownT 39 1 encU (.slice none 0 0) (([] : List (BitVec 32))) :: hownT 39 1 encU (.slice none 0 0) (([] : List (BitVec 32))) :: hownT 28 1 encI (.slice none 0 0) (([] : List Int)) :: l) rfl rfl ?_
        refine W.e rfl rfl rfl rfl (by decide) (Ef.mkT (enc := encU) (0#32) IF39 rfl Try.underlying25 rfl rfl (by decide) (.t rfl) (.t rfl) (by omega) (by omega) (by omega)) ?_
        rintro v271 _ rfl
        refine ⟨.inr ⟨.refl _, [_], rfl⟩, ?_⟩
        refine W.cast (m' := m) (l' := hownT 39 1 encU v271 _ :: hownT 39 1 encU v191 _ :: hownT 39 1 encU (.slice none 0 0) (([] : List (BitVec 32))) :: hcells b4 [_, _, _] 27 :: hownT 39 1 encU (.slice none 0 0) (([] : List (BitVec 32))) :: hownT 39 1 encU (.slice none 0 0) (([] : List (BitVec 32))) :: hownT 28 1 encI (.slice none 0 0) (([] : List Int)) :: l) rfl rfl ?_
        refine W.q rfl rfl rfl rfl (by decide) (Yd.bld4 (cells := [ufirm_1, uclass_2, v191, v271, (.slice none 0 0)]) (Sl.ro hfirm_1) (Sl.ro hclass_2) (Sl.own (p := 1) rfl) (Sl.own (p := 0) rfl) rfl ZI38 PL38 (.cons (.t rfl) (.cons (.t rfl) (.cons (.t rfl) (.cons (.t rfl) .nil)))) (by rintro ⟨_, _, _, rfl⟩; rintro ⟨_, _, _, rfl⟩; rintro ⟨_, _, _, rfl⟩; rintro ⟨_, _, _, rfl⟩; rfl)) ?_
        refine W.e rfl rfl rfl rfl (by decide) (Ef.bx rfl (.t rfl) rfl) ?_
        rintro _ _ ⟨b351, rfl, rfl⟩
        refine ⟨.inr ⟨.refl _, [_], rfl⟩, ?_⟩
        refine W.cast (m' := m) (l' := hcells b351 [_, _, _, _, _] 38 :: hownT 39 1 encU v271 _ :: hownT 39 1 encU v191 _ :: hownT 39 1 encU (.slice none 0 0) (([] : List (BitVec 32))) :: hcells b4 [_, _, _] 27 :: hownT 39 1 encU (.slice none 0 0) (([] : List (BitVec 32))) :: hownT 39 1 encU (.slice none 0 0) (([] : List (BitVec 32))) :: hownT 28 1 encI (.slice none 0 0) (([] : List Int)) :: l) rfl rfl ?_
        refine W.q rfl rfl rfl rfl (by decide) (Yd.as rfl (.t rfl)) ?_
        refine W.end ?_
        refine NX.sub (env' := [(1, _), (3, _), (8, _), (11, _)]) ⟨rfl, rfl, rfl, rfl, trivial⟩ ?_
        exact hk391 _ _ ⟨_, _, _, rfl, rfl, hr⟩
      ·
        refine W.e rfl rfl rfl rfl (by decide) (Ef.mkT (enc := encU) (0#32) IF39 rfl Try.underlying25 rfl rfl (by decide) (.t rfl) (.t rfl) (by omega) (by omega) (by omega)) ?_
        rintro v271 _ rfl
        refine ⟨.inr ⟨.refl _, [_], rfl⟩, ?_⟩
        refine W.cast (m' := m) (l' := hownT 39 1 encU v271 _ :: hownT 39 1 encU (.slice none 0 0) (([] : List (BitVec 32))) :: hcells b4 [_, _, _] 27 :: hownT 39 1 encU (.slice none 0 0) (([] : List (BitVec 32))) :: hownT 39 1 encU (.slice none 0 0) (([] : List (BitVec 32))) :: hownT 28 1 encI (.slice none 0 0) (([] : List Int)) :: l) rfl rfl ?_
        refine W.e rfl rfl rfl rfl (by decide) (Ef.mkT (enc := encU) (0#32) IF39 rfl Try.underlying25 rfl rfl (by decide) (.t rfl) (.t rfl) (by omega) (by omega) (by omega)) ?_
        rintro v191 _ rfl
        refine ⟨.inr ⟨.refl _, [_], rfl⟩, ?_⟩
        refine W.cast (m' := m) (l' := hownT 39 1 encU v191 _ :: hownT 39 1 encU v271 _ :: hownT 39 1 encU (.slice none 0 0) (([] : List (BitVec 32))) :: hcells b4 [_, _, _] 27 :: hownT 39 1 encU (.slice none 0 0) (([] : List (BitVec 32))) :: hownT 39 1 encU (.slice none 0 0) (([] : List (BitVec 32))) :: hownT 28 1 encI (.slice none 0 0) (([] : List Int)) :: l) rfl rfl ?_
        refine W.q rfl rfl rfl rfl (by decide) (Yd.bld4 (cells := [ufirm_1, uclass_2, v191, v271, (.slice none 0 0)]) (Sl.ro hfirm_1) (Sl.ro hclass_2) (Sl.own (p := 0) rfl) (Sl.own (p := 1) rfl) rfl ZI38 PL38 (.cons (.t rfl) (.cons (.t rfl) (.cons (.t rfl) (.cons (.t rfl) .nil)))) (by rintro ⟨_, _, _, rfl⟩; rintro ⟨_, _, _, rfl⟩; rintro ⟨_, _, _, rfl⟩; rintro ⟨_, _, _, rfl⟩; rfl)) ?_
        refine W.e rfl rfl rfl rfl (by decide) (Ef.bx rfl (.t rfl) rfl) ?_
        rintro _ _ ⟨b351, rfl, rfl⟩
        refine ⟨.inr ⟨.refl _, [_], rfl⟩, ?_⟩
        refine W.cast (m' := m) (l' := hcells b351 [_, _, _, _, _] 38 :: hownT 39 1 encU v191 _ :: hownT 39 1 encU v271 _ :: hownT 39 1 encU (.slice none 0 0) (([] : List (BitVec 32))) :: hcells b4 [_, _, _] 27 :: hownT 39 1 encU (.slice none 0 0) (([] : List (BitVec 32))) :: hownT 39 1 encU (.slice none 0 0) (([] : List (BitVec 32))) :: hownT 28 1 encI (.slice none 0 0) (([] : List Int)) :: l) rfl rfl ?_
        refine W.q rfl rfl rfl rfl (by decide) (Yd.as rfl (.t rfl)) ?_
        refine W.end ?_
        refine NX.imp (fun w hw => cX_front (p := 7) hw rfl) ?_
        refine NX.imp (fun w hw => cX_front (p := 7) hw rfl) ?_
        refine NX.imp (fun w hw => cX_front (p := 7) hw rfl) ?_
        refine NX.imp (fun w hw => cX_front (p := 7) hw rfl) ?_
        refine NX.imp (fun w hw => cX_front (p := 7) hw rfl) ?_
        refine NX.imp (fun w hw => cX_front (p := 6) hw rfl) ?_
        refine NX.imp (fun w hw => cX_front (p := 7) hw rfl) ?_
        refine NX.imp (fun w hw => cX_front (p := 7) hw rfl) ?_
        refine NX.cast (m' := m) (l' := hcells b351 [_, _, _, _, _] 38 :: hownT 39 1 encU v271 _ :: hownT 39 1 encU v191 _ :: hownT 39 1 encU (.slice none 0 0) (([] : List (BitVec 32))) :: hcells b4 [_, _, _] 27 :: hownT 39 1 encU (.slice none 0 0) (([] : List (BitVec 32))) :: hownT 39 1 encU (.slice none 0 0) (([] : List (BitVec 32))) :: hownT 28 1 encI (.slice none 0 0) (([] : List Int)) :: l) rfl rfl ?_
        refine NX.sub (env' := [(1, _), (3, _), (8, _), (11, _)]) ⟨rfl, rfl, rfl, rfl, trivial⟩ ?_
        exact hk391 _ _ ⟨_, _, _, rfl, rfl, hr⟩

def syllogistref_FirmsCheck_k3 : Option (Int) :=
  some ((0 : Int))

def syllogistref_FirmsCheck_b7 (firm_0 : List Int) (class_1 : List Int) (t_6 : Int) (nx8 : Unit → Option (Int)) : Option (Int) :=
  (geti firm_0 t_6).bind fun y10 =>
  (bif ((decide (y10 < (-1 : Int))) || (decide (y10 ≥ (class_1.length : Int)))) then
  some ((2 : Int))
  else
  nx8 ())

def syllogistref_FirmsCheck (firm_0 : List Int) (class_1 : List Int) : Option (Int) :=
  (bif ((decide ((firm_0.length : Int) > (8 : Int))) || (decide ((class_1.length : Int) > (8 : Int)))) then
  some ((1 : Int))
  else
  forK (σ := Unit) (fun i s nx_ => syllogistref_FirmsCheck_b7 firm_0 class_1 i nx_) (fun _ => syllogistref_FirmsCheck_k3) ((firm_0.length : Int) - (0 : Int)).toNat (0 : Int) ())

set_option maxRecDepth 100000 in
set_option maxHeartbeats 4000000 in
theorem syllogistref_FirmsCheck_ok (w0 : World) (m : Snap) (l : List HI) (ufirm_0 : Value) (firm_0 : List Int) (hfirm_0 : RS rI m ufirm_0 firm_0) (uclass_1 : Value) (class_1 : List Int) (hclass_1 : RS rI m uclass_1 class_1) (r : Int) (hr : syllogistref_FirmsCheck firm_0 class_1 = some r) (w : World) (hc : cX w0 ⟨m, l⟩ w) :
    Calls Try.prog 5 [ufirm_0, uclass_1].toArray w fun e w' => e = .returned (.int .i64 r) ∧ cX w0 ⟨m, l⟩ w' := by
  unfold syllogistref_FirmsCheck at hr
  refine calls_of_Tr (N := 30) Try.func5 rfl hc rfl (Nat.le_of_ble_eq_true rfl) ?_
  refine Tr.seq ?_
  refine Tr.region_f (fun _ => false) ?_
  refine W.q rfl rfl rfl rfl (by decide) (Yd.as rfl .c) ?_
  refine W.end ?_
  refine NX.sub (env' := [(0, _), (1, _)]) ⟨rfl, rfl, trivial⟩ ?_
  refine NX.then ?_
  refine Tr.seq ?_
  refine Tr.seq ?_
  refine Tr.region_f (fun _ => false) ?_
  refine W.q rfl rfl rfl rfl (by decide) (Yd.mv rfl (.t rfl)) ?_
  refine W.q rfl rfl rfl rfl (by decide) (Yd.lenR hfirm_0 rfl Try.underlying22 (.t rfl)) ?_
  refine W.q rfl rfl rfl rfl (by decide) (Yd.gtr rfl (.t rfl) .c) ?_
  refine W.q rfl rfl rfl rfl (by decide) (Yd.mv rfl (.t rfl)) ?_
  refine W.g rfl rfl rfl rfl rfl (.t rfl _) rfl (by decide) (fun hG => Yd.mv rfl (.t rfl)) ?_
  refine W.g rfl rfl rfl rfl rfl (.t rfl _) rfl (by decide) (fun hG => Yd.lenR hclass_1 rfl Try.underlying22 (.g rfl hG)) ?_
  refine W.g rfl rfl rfl rfl rfl (.t rfl _) rfl (by decide) (fun hG => Yd.gtr rfl (.g rfl hG) .c) ?_
  refine W.q rfl rfl rfl rfl (by decide) (Yd.or rfl (.t rfl) .c rfl rfl) ?_
  refine W.end ?_
  refine NX.sub (env' := [(0, _), (1, _), (14, _)]) ⟨rfl, rfl, rfl, trivial⟩ ?_
  refine NX.then ?_
  refine Tr.cond (.t rfl) (fun hb => ?_) (fun hb => ?_)
  · have hr := cond_t hb hr
    refine Tr.seq ?_
    refine Tr.region_f (fun _ => false) ?_
    refine W.q rfl rfl rfl rfl (by decide) (Yd.as rfl .c) ?_
    refine W.end ?_
    refine NX.sub (env' := [(4, _)]) ⟨rfl, trivial⟩ ?_
    refine NX.then ?_
    refine Tr.ret' (RT.then ?_)
    refine res1 rfl rfl ?_
    intro w hc
    cases hr
    exact ⟨rfl, hc⟩
  · have hr := cond_f hb hr
    refine Tr.skip' ?_
    refine NX.then ?_
    refine Tr.seq ?_
    refine Tr.seq ?_
    refine Tr.region_f (fun _ => false) ?_
    refine W.q rfl rfl rfl rfl (by decide) (Yd.mv rfl (.t rfl)) ?_
    refine W.q rfl rfl rfl rfl (by decide) (Yd.lenR hfirm_0 rfl Try.underlying22 (.t rfl)) ?_
    refine W.q rfl rfl rfl rfl (by decide) (Yd.mv rfl .c) ?_
    refine W.end ?_
    refine NX.sub (env' := [(1, _), (15, _), (16, _), (17, _)]) ⟨rfl, rfl, rfl, rfl, trivial⟩ ?_
    refine NX.then ?_
    refine Tr.join (S := fun env x => env = [] ∧ x = ⟨m, l⟩ ∧ syllogistref_FirmsCheck_k3 = some r) ?_ (fun hk4 => ?_)
    · rintro _ _ ⟨rfl, rfl, hr⟩
      unfold syllogistref_FirmsCheck_k3 at hr
      try dsimp only at hr
      refine NX.then ?_
      refine Tr.seq ?_
      refine Tr.region_f (fun _ => false) ?_
      refine W.q rfl rfl rfl rfl (by decide) (Yd.as rfl .c) ?_
      refine W.end ?_
      refine NX.sub (env' := [(4, _)]) ⟨rfl, trivial⟩ ?_
      refine NX.then ?_
      refine Tr.ret' ?_
      refine res1 rfl rfl ?_
      intro w hc
      cases hr
      exact ⟨rfl, hc⟩
    have hlen5 := (hfirm_0).2.1
    refine Tr.block ?_
    refine Tr.sub (env' := [(1, _), (15, _), (16, _), (17, _)]) ⟨rfl, rfl, rfl, rfl, trivial⟩ ?_
    refine Tr.loop (S := fun n (z : Int × Unit) env x => match z with | (t_6, _) => env = [(1, uclass_1), (15, ufirm_0), (16, .int .i64 ((firm_0.length : Int))), (17, .int .i64 t_6)] ∧ x = ⟨m, l⟩ ∧ n = ((firm_0.length : Int) - t_6).toNat ∧ 0 ≤ t_6 ∧ forK (σ := Unit) (fun i s nx_ => syllogistref_FirmsCheck_b7 firm_0 class_1 i nx_) (fun _ => syllogistref_FirmsCheck_k3) n t_6 () = some r) _ ((0 : Int), ()) ⟨rfl, rfl, rfl, (by omega), hr⟩ ?_
    rintro n9 ⟨t_6, _⟩ env x ⟨rfl, rfl, hnt_6, h0t_6, hr⟩
    cases n9 with
    | zero =>
      simp only [forK] at hr
      refine Tr.seq ?_
      refine Tr.region_f (fun _ => false) ?_
      refine W.q rfl rfl rfl rfl (by decide) (Yd.lss rfl (.t rfl) (.t rfl)) ?_
      refine W.end ?_
      refine NX.sub (env' := [(1, _), (15, _), (16, _), (17, _), (18, _)]) ⟨rfl, rfl, rfl, rfl, rfl, trivial⟩ ?_
      refine NX.then ?_
      refine Tr.seq ?_
      refine Tr.cond (.t rfl) (fun hb => ?_) (fun hb => ?_)
      · exact absurd (hb.symm.trans (fr_end hnt_6)) (by decide)
      ·
        refine Tr.exit' (EX.then (EX.then (EX.block ?_)))
        refine NX.sub (env' := []) trivial ?_
        exact hk4 _ _ ⟨rfl, rfl, hr⟩
    | succ n9 =>
      obtain ⟨nx8, hnx8, hr⟩ := forK_succ hr
      try dsimp only at hr
      unfold syllogistref_FirmsCheck_b7 at hr
      try dsimp only at hr
      have hltt_6 := fr_bnd hnt_6
      refine Tr.seq ?_
      refine Tr.region_f (fun _ => false) ?_
      refine W.q rfl rfl rfl rfl (by decide) (Yd.lss rfl (.t rfl) (.t rfl)) ?_
      refine W.end ?_
      refine NX.sub (env' := [(1, _), (15, _), (16, _), (17, _), (18, _)]) ⟨rfl, rfl, rfl, rfl, rfl, trivial⟩ ?_
      refine NX.then ?_
      refine Tr.seq ?_
      refine Tr.cond (.t rfl) (fun hb => ?_) (fun hb => ?_)
      rotate_left
      · exact absurd (hb.symm.trans (fr_go hnt_6)) (by decide)
      ·
        refine Tr.skip' ?_
        refine NX.then ?_
        refine Tr.seq ?_
        refine Tr.block ?_
        refine Tr.seq ?_
        obtain ⟨y10, hy11, hr⟩ := bind_some hr
        refine Tr.region_f (fun _ => false) ?_
        refine W.q rfl rfl rfl rfl (by decide) (Yd.idxR hfirm_0 hy11 rfl Try.underlying22 SZ3 (.t rfl) (.t rfl)) ?_
        refine W.q rfl rfl rfl rfl (by decide) (Yd.ldF hfirm_0 (.refl _) hy11 rfl rfl ON3 (.t rfl)) ?_
        refine W.q rfl rfl rfl rfl (by decide) (Yd.as rfl (.t rfl)) ?_
        refine W.end ?_
        refine NX.sub (env' := [(1, _), (15, _), (16, _), (17, _), (6, _)]) ⟨rfl, rfl, rfl, rfl, rfl, trivial⟩ ?_
        refine NX.then ?_
        refine Tr.seq ?_
        refine Tr.region_f (fun _ => false) ?_
        refine W.q rfl rfl rfl rfl (by decide) (Yd.mv rfl (.t rfl)) ?_
        refine W.q rfl rfl rfl rfl (by decide) (Yd.lss rfl (.t rfl) .c) ?_
        refine W.q rfl rfl rfl rfl (by decide) (Yd.mv rfl (.t rfl)) ?_
        refine W.g rfl rfl rfl rfl rfl (.t rfl _) rfl (by decide) (fun hG => Yd.mv rfl (.t rfl)) ?_
        refine W.g rfl rfl rfl rfl rfl (.t rfl _) rfl (by decide) (fun hG => Yd.mv rfl (.t rfl)) ?_
        refine W.g rfl rfl rfl rfl rfl (.t rfl _) rfl (by decide) (fun hG => Yd.lenR hclass_1 rfl Try.underlying22 (.g rfl hG)) ?_
        refine W.g rfl rfl rfl rfl rfl (.t rfl _) rfl (by decide) (fun hG => Yd.geq rfl (.g rfl hG) (.g rfl hG)) ?_
        refine W.q rfl rfl rfl rfl (by decide) (Yd.or rfl (.t rfl) .c rfl rfl) ?_
        refine W.end ?_
        refine NX.sub (env' := [(1, _), (15, _), (16, _), (17, _), (28, _)]) ⟨rfl, rfl, rfl, rfl, rfl, trivial⟩ ?_
        refine NX.then ?_
        refine Tr.cond (.t rfl) (fun hb => ?_) (fun hb => ?_)
        · have hr := cond_t hb hr
          refine Tr.seq ?_
          refine Tr.region_f (fun _ => false) ?_
          refine W.q rfl rfl rfl rfl (by decide) (Yd.as rfl .c) ?_
          refine W.end ?_
          refine NX.sub (env' := [(4, _)]) ⟨rfl, trivial⟩ ?_
          refine NX.then ?_
          refine Tr.ret' (RT.block (RT.then (RT.then (RT.block (RT.then ?_)))))
          refine res1 rfl rfl ?_
          intro w hc
          cases hr
          exact ⟨rfl, hc⟩
        · have hr := cond_f hb hr
          refine Tr.skip' ?_
          refine NX.block ?_
          refine NX.then ?_
          refine Tr.region_f (fun _ => false) ?_
          refine W.q rfl rfl rfl rfl (by decide) (Yd.add rfl (.t rfl) .c) ?_
          refine W.q rfl rfl rfl rfl (by decide) (Yd.mv rfl (.t rfl)) ?_
          refine W.end ?_
          refine NX.sub (env' := [(1, _), (15, _), (16, _), (17, _)]) ⟨rfl, rfl, rfl, rfl, trivial⟩ ?_
          refine NX.sub (env' := [(1, _), (15, _), (16, _), (17, _)]) ⟨rfl, rfl, rfl, rfl, trivial⟩ ?_
          have hw := w64_id (n := t_6 + 1) (by omega) (by omega)
          exact NX.again n9 (t_6 + 1, ()) (Nat.lt_succ_self _) ⟨(by rw [hw] <;> rfl), rfl, (fr_dec hnt_6), (by omega), ((hnx8 _).symm.trans hr)⟩

def syllogistref_Has_k3 : Option (Bool) :=
  some false

def syllogistref_Has_b7 (l_0 : List Int) (x_1 : Int) (t_6 : Int) (nx8 : Unit → Option (Bool)) : Option (Bool) :=
  (geti l_0 t_6).bind fun y10 =>
  (bif (x_1 == y10) then
  some true
  else
  nx8 ())

def syllogistref_Has (l_0 : List Int) (x_1 : Int) : Option (Bool) :=
  forK (σ := Unit) (fun i s nx_ => syllogistref_Has_b7 l_0 x_1 i nx_) (fun _ => syllogistref_Has_k3) ((l_0.length : Int) - (0 : Int)).toNat (0 : Int) ()

set_option maxRecDepth 100000 in
set_option maxHeartbeats 4000000 in
theorem syllogistref_Has_ok (w0 : World) (m : Snap) (l : List HI) (ul_0 : Value) (l_0 : List Int) (hl_0 : RS rI m ul_0 l_0) (x_1 : Int) (r : Bool) (hr : syllogistref_Has l_0 x_1 = some r) (w : World) (hc : cX w0 ⟨m, l⟩ w) :
    Calls Try.prog 11 [ul_0, .int .i64 x_1].toArray w fun e w' => e = .returned (.bool r) ∧ cX w0 ⟨m, l⟩ w' := by
  unfold syllogistref_Has at hr
  refine calls_of_Tr (N := 17) Try.func11 rfl hc rfl (Nat.le_of_ble_eq_true rfl) ?_
  refine Tr.seq ?_
  refine Tr.region_f (fun _ => false) ?_
  refine W.q rfl rfl rfl rfl (by decide) (Yd.as rfl .c) ?_
  refine W.end ?_
  refine NX.sub (env' := [(0, _), (1, _)]) ⟨rfl, rfl, trivial⟩ ?_
  refine NX.then ?_
  refine Tr.seq ?_
  refine Tr.seq ?_
  refine Tr.region_f (fun _ => false) ?_
  refine W.q rfl rfl rfl rfl (by decide) (Yd.mv rfl (.t rfl)) ?_
  refine W.q rfl rfl rfl rfl (by decide) (Yd.lenR hl_0 rfl Try.underlying22 (.t rfl)) ?_
  refine W.q rfl rfl rfl rfl (by decide) (Yd.mv rfl .c) ?_
  refine W.end ?_
  refine NX.sub (env' := [(1, _), (7, _), (8, _), (9, _)]) ⟨rfl, rfl, rfl, rfl, trivial⟩ ?_
  refine NX.then ?_
  refine Tr.join (S := fun env x => env = [] ∧ x = ⟨m, l⟩ ∧ syllogistref_Has_k3 = some r) ?_ (fun hk4 => ?_)
  · rintro _ _ ⟨rfl, rfl, hr⟩
    unfold syllogistref_Has_k3 at hr
    try dsimp only at hr
    refine NX.then ?_
    refine Tr.seq ?_
    refine Tr.region_f (fun _ => false) ?_
    refine W.q rfl rfl rfl rfl (by decide) (Yd.as rfl .c) ?_
    refine W.end ?_
    refine NX.sub (env' := [(4, _)]) ⟨rfl, trivial⟩ ?_
    refine NX.then ?_
    refine Tr.ret' ?_
    refine res1 rfl rfl ?_
    intro w hc
    cases hr
    exact ⟨rfl, hc⟩
  have hlen5 := (hl_0).2.1
  refine Tr.block ?_
  refine Tr.sub (env' := [(1, _), (7, _), (8, _), (9, _)]) ⟨rfl, rfl, rfl, rfl, trivial⟩ ?_
  refine Tr.loop (S := fun n (z : Int × Unit) env x => match z with | (t_6, _) => env = [(1, .int .i64 x_1), (7, ul_0), (8, .int .i64 ((l_0.length : Int))), (9, .int .i64 t_6)] ∧ x = ⟨m, l⟩ ∧ n = ((l_0.length : Int) - t_6).toNat ∧ 0 ≤ t_6 ∧ forK (σ := Unit) (fun i s nx_ => syllogistref_Has_b7 l_0 x_1 i nx_) (fun _ => syllogistref_Has_k3) n t_6 () = some r) _ ((0 : Int), ()) ⟨rfl, rfl, rfl, (by omega), hr⟩ ?_
  rintro n9 ⟨t_6, _⟩ env x ⟨rfl, rfl, hnt_6, h0t_6, hr⟩
  cases n9 with
  | zero =>
    simp only [forK] at hr
    refine Tr.seq ?_
    refine Tr.region_f (fun _ => false) ?_
    refine W.q rfl rfl rfl rfl (by decide) (Yd.lss rfl (.t rfl) (.t rfl)) ?_
    refine W.end ?_
    refine NX.sub (env' := [(1, _), (7, _), (8, _), (9, _), (10, _)]) ⟨rfl, rfl, rfl, rfl, rfl, trivial⟩ ?_
    refine NX.then ?_
    refine Tr.seq ?_
    refine Tr.cond (.t rfl) (fun hb => ?_) (fun hb => ?_)
    · exact absurd (hb.symm.trans (fr_end hnt_6)) (by decide)
    ·
      refine Tr.exit' (EX.then (EX.then (EX.block ?_)))
      refine NX.sub (env' := []) trivial ?_
      exact hk4 _ _ ⟨rfl, rfl, hr⟩
  | succ n9 =>
    obtain ⟨nx8, hnx8, hr⟩ := forK_succ hr
    try dsimp only at hr
    unfold syllogistref_Has_b7 at hr
    try dsimp only at hr
    have hltt_6 := fr_bnd hnt_6
    refine Tr.seq ?_
    refine Tr.region_f (fun _ => false) ?_
    refine W.q rfl rfl rfl rfl (by decide) (Yd.lss rfl (.t rfl) (.t rfl)) ?_
    refine W.end ?_
    refine NX.sub (env' := [(1, _), (7, _), (8, _), (9, _), (10, _)]) ⟨rfl, rfl, rfl, rfl, rfl, trivial⟩ ?_
    refine NX.then ?_
    refine Tr.seq ?_
    refine Tr.cond (.t rfl) (fun hb => ?_) (fun hb => ?_)
    rotate_left
    · exact absurd (hb.symm.trans (fr_go hnt_6)) (by decide)
    ·
      refine Tr.skip' ?_
      refine NX.then ?_
      refine Tr.seq ?_
      refine Tr.block ?_
      refine Tr.seq ?_
      obtain ⟨y10, hy11, hr⟩ := bind_some hr
      refine Tr.region_f (fun _ => false) ?_
      refine W.q rfl rfl rfl rfl (by decide) (Yd.idxR hl_0 hy11 rfl Try.underlying22 SZ3 (.t rfl) (.t rfl)) ?_
      refine W.q rfl rfl rfl rfl (by decide) (Yd.ldF hl_0 (.refl _) hy11 rfl rfl ON3 (.t rfl)) ?_
      refine W.q rfl rfl rfl rfl (by decide) (Yd.as rfl (.t rfl)) ?_
      refine W.end ?_
      refine NX.sub (env' := [(1, _), (7, _), (8, _), (9, _), (6, _)]) ⟨rfl, rfl, rfl, rfl, rfl, trivial⟩ ?_
      refine NX.then ?_
      refine Tr.seq ?_
      refine Tr.region_f (fun _ => false) ?_
      refine W.q rfl rfl rfl rfl (by decide) (Yd.mv rfl (.t rfl)) ?_
      refine W.q rfl rfl rfl rfl (by decide) (Yd.mv rfl (.t rfl)) ?_
      refine W.q rfl rfl rfl rfl (by decide) (Yd.eql rfl (.t rfl) (.t rfl)) ?_
      refine W.end ?_
      refine NX.sub (env' := [(1, _), (7, _), (8, _), (9, _), (15, _)]) ⟨rfl, rfl, rfl, rfl, rfl, trivial⟩ ?_
      refine NX.then ?_
      refine Tr.cond (.t rfl) (fun hb => ?_) (fun hb => ?_)
      · have hr := cond_t hb hr
        refine Tr.seq ?_
        refine Tr.region_f (fun _ => false) ?_
        refine W.q rfl rfl rfl rfl (by decide) (Yd.as rfl .c) ?_
        refine W.end ?_
        refine NX.sub (env' := [(4, _)]) ⟨rfl, trivial⟩ ?_
        refine NX.then ?_
        refine Tr.ret' (RT.block (RT.then (RT.then (RT.block (RT.then ?_)))))
        refine res1 rfl rfl ?_
        intro w hc
        cases hr
        exact ⟨rfl, hc⟩
      · have hr := cond_f hb hr
        refine Tr.skip' ?_
        refine NX.block ?_
        refine NX.then ?_
        refine Tr.region_f (fun _ => false) ?_
        refine W.q rfl rfl rfl rfl (by decide) (Yd.add rfl (.t rfl) .c) ?_
        refine W.q rfl rfl rfl rfl (by decide) (Yd.mv rfl (.t rfl)) ?_
        refine W.end ?_
        refine NX.sub (env' := [(1, _), (7, _), (8, _), (9, _)]) ⟨rfl, rfl, rfl, rfl, trivial⟩ ?_
        refine NX.sub (env' := [(1, _), (7, _), (8, _), (9, _)]) ⟨rfl, rfl, rfl, rfl, trivial⟩ ?_
        have hw := w64_id (n := t_6 + 1) (by omega) (by omega)
        exact NX.again n9 (t_6 + 1, ()) (Nat.lt_succ_self _) ⟨(by rw [hw] <;> rfl), rfl, (fr_dec hnt_6), (by omega), ((hnx8 _).symm.trans hr)⟩
end Go.Proofs.Ytajgcmeegencoaa.Sy
