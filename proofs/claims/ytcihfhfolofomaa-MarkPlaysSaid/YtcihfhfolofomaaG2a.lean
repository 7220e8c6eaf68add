/- Functions of the program as plain functions, and that the translation computes them; the conditions stand in each theorem. Printed by an own program. -/
import Derived.Test.YtcihfhfolofomaaSyU
import Derived.Test.YtcihfhfolofomaaT
import Derived.Test.YtcihfhfolofomaaProg
namespace Go.Proofs.Ytcihfhfolofomaa.Sy
open Go
set_option linter.unusedVariables false
theorem SZ22 : (Try.prog.info? 22).map (·.size) = some 1 := by kernel_rfl
theorem ON22 : one Try.prog 22 = true := by kernel_rfl
theorem IN65 : (Try.prog.info? 65).isSome = true := by kernel_rfl
theorem IF65 : (Try.prog.info? 65).map (fun i => (i.zero, i.size, i.bytes)) = some (some (.agg #[.int .i64 0, .int .u32 0]), 2, 16) := by kernel_rfl
theorem SZ3 : (Try.prog.info? 3).map (·.size) = some 1 := by kernel_rfl
theorem ON3 : one Try.prog 3 = true := by kernel_rfl
theorem SZ63 : (Try.prog.info? 63).map (·.size) = some 1 := by kernel_rfl
theorem ON63 : one Try.prog 63 = true := by kernel_rfl
theorem IF22 : (Try.prog.info? 22).map (fun i => (i.zero, i.size, i.bytes)) = some (some (.slice none 0 0), 1, 24) := by kernel_rfl
theorem SZ65 : (Try.prog.info? 65).map (·.size) = some 2 := by kernel_rfl
theorem ON65 : one Try.prog 65 = false := by kernel_rfl
theorem US65 : (Try.prog.underlying 65).isSome = true := by kernel_rfl
theorem ZR65 : (Try.prog.info? 65).bind (·.zero) = some (.agg #[.int .i64 0, .int .u32 0]) := by kernel_rfl
theorem ZI65 : (Try.prog.info? 65).bind (·.zero) = some (.agg #[.int .i64 0, .int .u32 0]) := by kernel_rfl
theorem PL65 : plS Try.prog 65 = some [(0, 1), (1, 1)] := by kernel_rfl
structure T27 where
  codes : List Int
  marks : List Label
  src : List (BitVec 32)
def P27 (m : Snap) (z : Value) : Option T27 → Prop
  | none => z = .pointer none
  | some x => ∃ (b : Nat) (u0 u1 u2 : Value), z = bp b 0 ∧ Bk m b 27 [u0, u1, u2] ∧ RS rI m u0 x.codes ∧ RS rLabel m u1 x.marks ∧ RS rU m u2 x.src
theorem P27.mono {m m' : Snap} {z : Value} {o : Option T27} (hm : Sle m m') (h : P27 m z o) : P27 m' z o := by
  cases o with
  | none => exact h
  | some x =>
    obtain ⟨b, u0, u1, u2, hz, hb, h0, h1, h2⟩ := h
    exact ⟨b, u0, u1, u2, hz, hb.mono hm, h0.mono hm, h1.mono hm, h2.mono hm⟩
theorem ON25 : one Try.prog 25 = true := by kernel_rfl
theorem SZ25 : (Try.prog.info? 25).map (·.size) = some 1 := by kernel_rfl
theorem ZR27 : (Try.prog.info? 27).bind (·.zero) = some (.agg #[.slice none 0 0, .slice none 0 0, .slice none 0 0]) := by kernel_rfl
theorem ZI27 : (Try.prog.info? 27).bind (·.zero) = some (.agg #[.slice none 0 0, .slice none 0 0, .slice none 0 0]) := by kernel_rfl
theorem PL27 : plS Try.prog 27 = some [(0, 1), (1, 1), (2, 1)] := by kernel_rfl
theorem SZ27 : (Try.prog.info? 27).map (·.size) = some 3 := by kernel_rfl
theorem ON27 : one Try.prog 27 = false := by kernel_rfl
theorem US27 : (Try.prog.underlying 27).isSome = true := by kernel_rfl
theorem IF63 : (Try.prog.info? 63).map (fun i => (i.zero, i.size, i.bytes)) = some (some (.int .u32 0), 1, 4) := by kernel_rfl
theorem ZR25 : (Try.prog.info? 25).bind (·.zero) = some (.slice none 0 0) := by kernel_rfl
theorem SZ67 : (Try.prog.info? 67).map (·.size) = some 6 := by kernel_rfl
theorem ON67 : one Try.prog 67 = false := by kernel_rfl
theorem US67 : (Try.prog.underlying 67).isSome = true := by kernel_rfl
theorem ZR67 : (Try.prog.info? 67).bind (·.zero) = some (.agg #[.int .i64 0, .int .i64 0, .int .i64 0, .int .i64 0, .int .u32 0, .int .i64 0]) := by kernel_rfl
theorem SZ24 : (Try.prog.info? 24).map (·.size) = some 1 := by kernel_rfl
theorem ON24 : one Try.prog 24 = true := by kernel_rfl
theorem IF28 : (Try.prog.info? 28).map (fun i => (i.zero, i.size, i.bytes)) = some (some (.int .i64 0), 1, 8) := by kernel_rfl
theorem US3 : (Try.prog.underlying 3).isSome = true := by kernel_rfl
theorem SZ28 : (Try.prog.info? 28).map (·.size) = some 1 := by kernel_rfl
theorem ON28 : one Try.prog 28 = true := by kernel_rfl
theorem GU65 : Try.prog.eqGuardType Try.prog.depth 65 = false := by kernel_rfl
theorem ST65 : Try.prog.stoodInHeld 65 = false := by kernel_rfl
theorem US63 : (Try.prog.underlying 63).isSome = true := by kernel_rfl
theorem EQ65 (w : World) (x0 : Int) (x1 : BitVec 32) (y0 : Int) (y1 : BitVec 32) : (binOp .eql 65 (.agg #[.int .i64 x0, .int .u32 (x1.toNat : Int)]) (.agg #[.int .i64 y0, .int .u32 (y1.toNat : Int)])).run Try.prog w = .ok (.bool ((x0 == y0) && ((x1 == y1) && true))) w :=
  eq_s w Try.underlying65 ST65 (fun d => (eqf_cons w rfl (part_one w ON3 rfl) (part_one w ON3 rfl) (run_equalIn_int w _ _ _ _ _ _ Try.underlying3) (eqf_cons w rfl (part_one w ON63 rfl) (part_one w ON63 rfl) (eq_u w Try.underlying63) (eqf_nil w))))
theorem FM : Try.prog.follows .mixedOrders = true := by kernel_rfl

def slices_Grow_SapiLabelapiLabel_fnil (n_1 : Int) : Option (Unit) :=
  (bif (decide (n_1 < (0 : Int))) then
  none
  else
  (bif (decide ((w64 (n_1 - (w64 ((0 : Int) - ((([] : List Label)).length : Int))))) > (0 : Int))) then
  bif decide (0 < (w64 (n_1 - (w64 ((0 : Int) - ((([] : List Label)).length : Int))))) ∧ (w64 (n_1 - (w64 ((0 : Int) - ((([] : List Label)).length : Int))))) ≤ 140737488355328 ∧ ((w64 (n_1 - (w64 ((0 : Int) - ((([] : List Label)).length : Int)))))).toNat * 16 ≤ 140737488355328) then
  some (()) else none
  else
  some (())))

set_option maxRecDepth 100000 in
set_option maxHeartbeats 4000000 in
theorem slices_Grow_SapiLabelapiLabel_fnil_ok (w0 : World) (m : Snap) (l : List HI) (n_1 : Int) (r : Unit) (hr : slices_Grow_SapiLabelapiLabel_fnil n_1 = some r) (w : World) (hc : cX w0 ⟨m, l⟩ w) :
    Calls Try.prog 68 [.slice none 0 0, .int .i64 n_1].toArray w fun e w' => ∃ z0 : Value, e = .returned (z0) ∧ cX w0 ⟨m, hown 65 2 z0 0 [] :: l⟩ w' := by
  unfold slices_Grow_SapiLabelapiLabel_fnil at hr
  refine calls_of_Tr (N := 27) Try.func68 rfl hc rfl (Nat.le_of_ble_eq_true rfl) ?_
  refine Tr.addnil 65 2 ?_
  refine Tr.seq ?_
  refine Tr.region_f (fun _ => false) ?_
  refine W.q rfl rfl rfl rfl (by decide) (Yd.as rfl .c) ?_
  refine W.end ?_
  refine NX.sub (env' := [(0, _), (1, _)]) ⟨rfl, rfl, trivial⟩ ?_
  refine NX.then ?_
  refine Tr.seq ?_
  refine Tr.seq ?_
  refine Tr.region_f (fun _ => false) ?_
  refine W.q rfl rfl rfl rfl (by decide) (Yd.mv rfl (.t rfl)) ?_
  refine W.q rfl rfl rfl rfl (by decide) (Yd.lss rfl (.t rfl) .c) ?_
  refine W.end ?_
  refine NX.sub (env' := [(0, _), (1, _), (6, _)]) ⟨rfl, rfl, rfl, trivial⟩ ?_
  refine NX.then ?_
  refine Tr.cond (.t rfl) (fun hb => ?_) (fun hb => ?_)
  · have hr := cond_t hb hr
    cases hr
  · have hr := cond_f hb hr
    refine Tr.skip' ?_
    refine NX.then ?_
    refine Tr.seq ?_
    refine Tr.seq ?_
    refine Tr.region_f (fun _ => false) ?_
    refine W.q rfl rfl rfl rfl (by decide) (Yd.mv rfl (.t rfl)) ?_
    refine W.q rfl rfl rfl rfl (by decide) (Yd.mv rfl (.t rfl)) ?_
    refine W.q rfl rfl rfl rfl (by decide) (Yd.cap rfl Try.underlying22 (.t rfl)) ?_
    refine W.q rfl rfl rfl rfl (by decide) (Yd.mv rfl (.t rfl)) ?_
    refine W.q rfl rfl rfl rfl (by decide) (Yd.lenO (p := 0) rfl rfl Try.underlying22 (.t rfl)) ?_
    refine W.q rfl rfl rfl rfl (by decide) (Yd.sub rfl (.t rfl) (.t rfl)) ?_
    refine W.q rfl rfl rfl rfl (by decide) (Yd.sub rfl (.t rfl) (.t rfl)) ?_
    refine W.q rfl rfl rfl rfl (by decide) (Yd.as rfl (.t rfl)) ?_
    refine W.end ?_
    refine NX.sub (env' := [(0, _), (1, _)]) ⟨rfl, rfl, trivial⟩ ?_
    refine NX.then ?_
    refine Tr.seq ?_
    refine Tr.region_f (fun _ => false) ?_
    refine W.q rfl rfl rfl rfl (by decide) (Yd.mv rfl (.t rfl)) ?_
    refine W.q rfl rfl rfl rfl (by decide) (Yd.gtr rfl (.t rfl) .c) ?_
    refine W.end ?_
    refine NX.sub (env' := [(0, _), (1, _), (16, _)]) ⟨rfl, rfl, rfl, trivial⟩ ?_
    refine NX.then ?_
    refine Tr.cond (.t rfl) (fun hb => ?_) (fun hb => ?_)
    · have hr := cond_t hb hr
      obtain ⟨hq4, hr⟩ := guard_some hr; replace hq4 := of_decide_eq_true hq4
      refine Tr.region_f (fun i => Nat.beq i 5) ?_
      refine W.q rfl rfl rfl rfl (by decide) (Yd.mv rfl (.t rfl)) ?_
      refine W.q rfl rfl rfl rfl (by decide) (Yd.mv rfl (.t rfl)) ?_
      refine W.q rfl rfl rfl rfl (by decide) (Yd.cap rfl Try.underlying22 (.t rfl)) ?_
      refine W.q rfl rfl rfl rfl (by decide) (Yd.slTo (pos := 0) rfl rfl Try.underlying22 (Option.some_get IN65).symm (.t rfl) (.t rfl) (by decide) (Int.natCast_nonneg _)) ?_
      refine W.q rfl rfl rfl rfl (by decide) (Yd.mv rfl (.t rfl)) ?_
      refine W.e rfl rfl rfl rfl (by decide) (Ef.apMk (pos := 0) IF65 rfl rfl Try.underlying22 Try.underlying3 rfl (by decide) (.t rfl) (.t rfl) hq4) ?_
      rintro v2 _ ⟨cs3, rfl⟩
      refine ⟨.inl rfl, ?_⟩
      refine W.cast (m' := m) (l' := hown 65 2 v2 (((w64 (n_1 - (w64 ((0 : Int) - ((([] : List Label)).length : Int)))))).toNat) cs3 :: l) rfl rfl ?_
      refine W.q rfl rfl rfl rfl (by decide) (Yd.mv rfl (.t rfl)) ?_
      refine W.q rfl rfl rfl rfl (by decide) (Yd.len rfl Try.underlying22 (.t rfl)) ?_
      refine W.q rfl rfl rfl rfl (by decide) (Yd.slTo (pos := 0) rfl rfl Try.underlying22 (Option.some_get IN65).symm (.t rfl) (.t rfl) (by decide) (Int.natCast_nonneg _)) ?_
      refine W.q rfl rfl rfl rfl (by decide) (Yd.as rfl (.t rfl)) ?_
      refine W.end ?_
      refine NX.imp (fun w hw => cX_sl0 (p := 0) rfl hw) ?_
      refine NX.cast (m' := m) (l' := hownT 65 2 Label.enc (slTo v2 0) (([] : List Label)) :: l) rfl rfl ?_
      refine NX.sub (env' := [(0, _)]) ⟨rfl, trivial⟩ ?_
      refine NX.then ?_
      refine Tr.seq ?_
      refine Tr.region_f (fun _ => false) ?_
      refine W.q rfl rfl rfl rfl (by decide) (Yd.mv rfl (.t rfl)) ?_
      refine W.q rfl rfl rfl rfl (by decide) (Yd.as rfl (.t rfl)) ?_
      refine W.end ?_
      refine NX.sub (env' := [(4, _)]) ⟨rfl, trivial⟩ ?_
      refine NX.then ?_
      refine Tr.ret' ?_
      refine res1 rfl rfl ?_
      intro w hc
      cases hr
      exact ⟨_, rfl, hc⟩
    · have hr := cond_f hb hr
      refine Tr.skip' ?_
      refine NX.then ?_
      refine Tr.seq ?_
      refine Tr.region_f (fun _ => false) ?_
      refine W.q rfl rfl rfl rfl (by decide) (Yd.mv rfl (.t rfl)) ?_
      refine W.q rfl rfl rfl rfl (by decide) (Yd.as rfl (.t rfl)) ?_
      refine W.end ?_
      refine NX.sub (env' := [(4, _)]) ⟨rfl, trivial⟩ ?_
      refine NX.then ?_
      refine Tr.ret' ?_
      refine res1 rfl rfl ?_
      intro w hc
      cases hr
      exact ⟨_, rfl, hc⟩

def slices_Concat_SapiLabelapiLabel_k20 (l18 : List Label) : Option ((List Label)) :=
  some l18

def slices_Concat_SapiLabelapiLabel_b24 (slices_0 : List (List Label)) (t_23 : Int) (l16 : List Label) (nx25 : (List Label) → Option ((List Label))) : Option ((List Label)) :=
  (geti slices_0 t_23).bind fun y27 =>
  bif decide (l16.length + y27.length ≤ 8796093022208) then
  nx25 (l16 ++ y27) else none

def slices_Concat_SapiLabelapiLabel_k6 (slices_0 : List (List Label)) (size_5 : Int) : Option ((List Label)) :=
  (slices_Grow_SapiLabelapiLabel_fnil size_5).bind fun r8 =>
  forK (σ := (List Label)) (fun i s nx_ => slices_Concat_SapiLabelapiLabel_b24 slices_0 i s nx_) (fun s => slices_Concat_SapiLabelapiLabel_k20 s) ((slices_0.length : Int) - (0 : Int)).toNat (0 : Int) (([] : List Label))

def slices_Concat_SapiLabelapiLabel_b36 (slices_0 : List (List Label)) (t_35 : Int) (size_3 : Int) (nx37 : Int → Option ((List Label))) : Option ((List Label)) :=
  (geti slices_0 t_35).bind fun y39 =>
  (bif (decide ((w64 (size_3 + (y39.length : Int))) < (0 : Int))) then
  none
  else
  nx37 (w64 (size_3 + (y39.length : Int))))

def slices_Concat_SapiLabelapiLabel (slices_0 : List (List Label)) : Option ((List Label)) :=
  forK (σ := Int) (fun i s nx_ => slices_Concat_SapiLabelapiLabel_b36 slices_0 i s nx_) (fun s => slices_Concat_SapiLabelapiLabel_k6 slices_0 s) ((slices_0.length : Int) - (0 : Int)).toNat (0 : Int) ((0 : Int))

set_option maxRecDepth 100000 in
set_option maxHeartbeats 4000000 in
theorem slices_Concat_SapiLabelapiLabel_ok (w0 : World) (m : Snap) (l : List HI) (uslices_0 : Value) (slices_0 : List (List Label)) (hslices_0 : RS (Rp.slice rLabel) m uslices_0 slices_0) (r : (List Label)) (hr : slices_Concat_SapiLabelapiLabel slices_0 = some r) (w : World) (hc : cX w0 ⟨m, l⟩ w) :
    Calls Try.prog 54 [uslices_0].toArray w fun e w' => ∃ z0 : Value, e = .returned (z0) ∧ cX w0 ⟨m, hownT 65 2 Label.enc z0 r :: l⟩ w' := by
  unfold slices_Concat_SapiLabelapiLabel at hr
  refine calls_of_Tr (N := 36) Try.func54 rfl hc rfl (Nat.le_of_ble_eq_true rfl) ?_
  refine Tr.seq ?_
  refine Tr.region_f (fun _ => false) ?_
  refine W.q rfl rfl rfl rfl (by decide) (Yd.as rfl .c) ?_
  refine W.end ?_
  refine NX.sub (env' := [(0, _)]) ⟨rfl, trivial⟩ ?_
  refine NX.then ?_
  refine Tr.seq ?_
  refine Tr.region_f (fun _ => false) ?_
  refine W.q rfl rfl rfl rfl (by decide) (Yd.as rfl .c) ?_
  refine W.end ?_
  refine NX.sub (env' := [(0, _), (3, _)]) ⟨rfl, rfl, trivial⟩ ?_
  refine NX.then ?_
  refine Tr.seq ?_
  refine Tr.seq ?_
  refine Tr.region_f (fun _ => false) ?_
  refine W.q rfl rfl rfl rfl (by decide) (Yd.mv rfl (.t rfl)) ?_
  refine W.q rfl rfl rfl rfl (by decide) (Yd.lenR hslices_0 rfl Try.underlying72 (.t rfl)) ?_
  refine W.q rfl rfl rfl rfl (by decide) (Yd.mv rfl .c) ?_
  refine W.end ?_
  refine NX.sub (env' := [(0, _), (3, _), (9, _), (10, _), (11, _)]) ⟨rfl, rfl, rfl, rfl, rfl, trivial⟩ ?_
  refine NX.then ?_
  refine Tr.join (S := fun env x => ∃ size_5 : Int, env = [(0, uslices_0), (3, .int .i64 size_5)] ∧ x = ⟨m, l⟩ ∧ slices_Concat_SapiLabelapiLabel_k6 slices_0 size_5 = some r) ?_ (fun hk7 => ?_)
  · rintro _ _ ⟨size_5, rfl, rfl, hr⟩
    unfold slices_Concat_SapiLabelapiLabel_k6 at hr
    try dsimp only at hr
    refine NX.then ?_
    refine Tr.seq ?_
    obtain ⟨r8, hr9, hr⟩ := bind_some hr
    refine Tr.region_f (fun i => Nat.beq i 1) ?_
    refine W.q rfl rfl rfl rfl (by decide) (Yd.mv rfl (.t rfl)) ?_
    refine W.e rfl rfl rfl rfl (by decide) (Ef.call (R := fun z x' => ∃ v10 : Value, z = v10 ∧ x' = ⟨m, hownT 65 2 Label.enc v10 (([] : List Label)) :: l⟩) rfl Try.func68 rfl rfl (.cons .c (.cons (.t rfl) .nil)) (fun w hw => (slices_Grow_SapiLabelapiLabel_fnil_ok w0 _ _ size_5 _ hr9 w hw).mono fun e w' ⟨v10, he, hc'⟩ => ⟨_, _, he, ⟨v10, rfl, rfl⟩, hc'⟩)) ?_
    rintro v10 _ ⟨_, rfl, rfl⟩
    refine ⟨.inl rfl, ?_⟩
    refine W.cast (m' := m) (l' := hownT 65 2 Label.enc v10 _ :: l) rfl rfl ?_
    refine W.q rfl rfl rfl rfl (by decide) (Yd.as rfl (.t rfl)) ?_
    refine W.end ?_
    refine NX.sub (env' := [(0, _), (6, _)]) ⟨rfl, rfl, trivial⟩ ?_
    refine NX.then ?_
    refine Tr.seq ?_
    refine Tr.seq ?_
    refine Tr.region_f (fun _ => false) ?_
    refine W.q rfl rfl rfl rfl (by decide) (Yd.mv rfl (.t rfl)) ?_
    refine W.q rfl rfl rfl rfl (by decide) (Yd.lenR hslices_0 rfl Try.underlying72 (.t rfl)) ?_
    refine W.q rfl rfl rfl rfl (by decide) (Yd.mv rfl .c) ?_
    refine W.end ?_
    refine NX.sub (env' := [(6, _), (25, _), (26, _), (27, _)]) ⟨rfl, rfl, rfl, rfl, trivial⟩ ?_
    refine NX.then ?_
    refine Tr.join (S := fun env x => ∃ l18 : List Label, ∃ v19 : Value, env = [(6, v19)] ∧ x = ⟨m, hownT 65 2 Label.enc v19 l18 :: l⟩ ∧ slices_Concat_SapiLabelapiLabel_k20 l18 = some r) ?_ (fun hk21 => ?_)
    · rintro _ _ ⟨l18, v19, rfl, rfl, hr⟩
      unfold slices_Concat_SapiLabelapiLabel_k20 at hr
      try dsimp only at hr
      refine NX.then ?_
      refine Tr.seq ?_
      refine Tr.region_f (fun _ => false) ?_
      refine W.q rfl rfl rfl rfl (by decide) (Yd.mv rfl (.t rfl)) ?_
      refine W.q rfl rfl rfl rfl (by decide) (Yd.as rfl (.t rfl)) ?_
      refine W.end ?_
      refine NX.sub (env' := [(2, _)]) ⟨rfl, trivial⟩ ?_
      refine NX.then ?_
      refine Tr.ret' ?_
      refine res1 rfl rfl ?_
      intro w hc
      cases hr
      exact ⟨_, rfl, hc⟩
    have hlen22 := (hslices_0).2.1
    refine Tr.block ?_
    refine Tr.sub (env' := [(6, _), (25, _), (26, _), (27, _)]) ⟨rfl, rfl, rfl, rfl, trivial⟩ ?_
    refine Tr.loop (S := fun n (z : Int × (List Label)) env x => match z with | (t_23, l16) => ∃ v17 : Value, env = [(6, v17), (25, uslices_0), (26, .int .i64 ((slices_0.length : Int))), (27, .int .i64 t_23)] ∧ x = ⟨m, hownT 65 2 Label.enc v17 l16 :: l⟩ ∧ n = ((slices_0.length : Int) - t_23).toNat ∧ 0 ≤ t_23 ∧ forK (σ := (List Label)) (fun i s nx_ => slices_Concat_SapiLabelapiLabel_b24 slices_0 i s nx_) (fun s => slices_Concat_SapiLabelapiLabel_k20 s) n t_23 l16 = some r) _ ((0 : Int), ([] : List Label)) ⟨_, rfl, rfl, rfl, (by omega), hr⟩ ?_
    rintro n26 ⟨t_23, l16⟩ env x ⟨v17, rfl, rfl, hnt_23, h0t_23, hr⟩
    cases n26 with
    | zero =>
      simp only [forK] at hr
      refine Tr.seq ?_
      refine Tr.region_f (fun _ => false) ?_
      refine W.q rfl rfl rfl rfl (by decide) (Yd.lss rfl (.t rfl) (.t rfl)) ?_
      refine W.end ?_
      refine NX.sub (env' := [(6, _), (25, _), (26, _), (27, _), (28, _)]) ⟨rfl, rfl, rfl, rfl, rfl, trivial⟩ ?_
      refine NX.then ?_
      refine Tr.seq ?_
      refine Tr.cond (.t rfl) (fun hb => ?_) (fun hb => ?_)
      · exact absurd (hb.symm.trans (fr_end hnt_23)) (by decide)
      ·
        refine Tr.exit' (EX.then (EX.then (EX.block ?_)))
        refine NX.sub (env' := [(6, _)]) ⟨rfl, trivial⟩ ?_
        exact hk21 _ _ ⟨_, _, rfl, rfl, hr⟩
    | succ n26 =>
      obtain ⟨nx25, hnx25, hr⟩ := forK_succ hr
      try dsimp only at hr
      unfold slices_Concat_SapiLabelapiLabel_b24 at hr
      try dsimp only at hr
      have hltt_23 := fr_bnd hnt_23
      refine Tr.seq ?_
      refine Tr.region_f (fun _ => false) ?_
      refine W.q rfl rfl rfl rfl (by decide) (Yd.lss rfl (.t rfl) (.t rfl)) ?_
      refine W.end ?_
      refine NX.sub (env' := [(6, _), (25, _), (26, _), (27, _), (28, _)]) ⟨rfl, rfl, rfl, rfl, rfl, trivial⟩ ?_
      refine NX.then ?_
      refine Tr.seq ?_
      refine Tr.cond (.t rfl) (fun hb => ?_) (fun hb => ?_)
      rotate_left
      · exact absurd (hb.symm.trans (fr_go hnt_23)) (by decide)
      ·
        refine Tr.skip' ?_
        refine NX.then ?_
        refine Tr.seq ?_
        refine Tr.block ?_
        refine Tr.seq ?_
        obtain ⟨y27, hy28, hr⟩ := bind_some hr
        refine Tr.region_f (fun _ => false) ?_
        refine W.q rfl rfl rfl rfl (by decide) (Yd.idxR hslices_0 hy28 rfl Try.underlying72 SZ22 (.t rfl) (.t rfl)) ?_
        obtain ⟨u29, hu30, hat31⟩ := hslices_0.row hy28
        refine W.q rfl rfl rfl rfl (by decide) (Yd.ldRow hat31 (.refl _) rfl ON22 (.t rfl)) ?_
        refine W.q rfl rfl rfl rfl (by decide) (Yd.as rfl (.t rfl)) ?_
        refine W.end ?_
        refine NX.sub (env' := [(6, _), (25, _), (26, _), (27, _), (8, _)]) ⟨rfl, rfl, rfl, rfl, rfl, trivial⟩ ?_
        refine NX.then ?_
        obtain ⟨hq33, hr⟩ := guard_some hr; replace hq33 := of_decide_eq_true hq33
        refine Tr.region_f (fun i => Nat.beq i 2) ?_
        refine W.q rfl rfl rfl rfl (by decide) (Yd.mv rfl (.t rfl)) ?_
        refine W.q rfl rfl rfl rfl (by decide) (Yd.mv rfl (.t rfl)) ?_
        refine W.e rfl rfl rfl rfl (by decide) (Ef.apI (pos := 0) (enc := Label.enc) (xs := l16) (ys := y27) (fun _ => rfl) IF65 rfl rfl Try.underlying22 rfl (by decide) (.t rfl) (.t rfl) (Src.rs (by decide) (.refl _) hu30) (fun _ => rfl) (by omega) (by omega)) ?_
        rintro v32 _ rfl
        refine ⟨.inl rfl, ?_⟩
        refine W.cast (m' := m) (l' := hownT 65 2 Label.enc v32 _ :: l) rfl rfl ?_
        refine W.q rfl rfl rfl rfl (by decide) (Yd.as rfl (.t rfl)) ?_
        refine W.end ?_
        refine NX.sub (env' := [(6, _), (25, _), (26, _), (27, _)]) ⟨rfl, rfl, rfl, rfl, trivial⟩ ?_
        refine NX.block ?_
        refine NX.then ?_
        refine Tr.region_f (fun _ => false) ?_
        refine W.q rfl rfl rfl rfl (by decide) (Yd.add rfl (.t rfl) .c) ?_
        refine W.q rfl rfl rfl rfl (by decide) (Yd.mv rfl (.t rfl)) ?_
        refine W.end ?_
        refine NX.sub (env' := [(6, _), (25, _), (26, _), (27, _)]) ⟨rfl, rfl, rfl, rfl, trivial⟩ ?_
        refine NX.sub (env' := [(6, _), (25, _), (26, _), (27, _)]) ⟨rfl, rfl, rfl, rfl, trivial⟩ ?_
        have hw := w64_id (n := t_23 + 1) (by omega) (by omega)
        exact NX.again n26 (t_23 + 1, (l16 ++ y27)) (Nat.lt_succ_self _) ⟨_, (by rw [hw] <;> rfl), rfl, (fr_dec hnt_23), (by omega), ((hnx25 _).symm.trans hr)⟩
  have hlen34 := (hslices_0).2.1
  refine Tr.block ?_
  refine Tr.sub (env' := [(0, _), (3, _), (9, _), (10, _), (11, _)]) ⟨rfl, rfl, rfl, rfl, rfl, trivial⟩ ?_
  refine Tr.loop (S := fun n (z : Int × Int) env x => match z with | (t_35, size_3) => env = [(0, uslices_0), (3, .int .i64 size_3), (9, uslices_0), (10, .int .i64 ((slices_0.length : Int))), (11, .int .i64 t_35)] ∧ x = ⟨m, l⟩ ∧ n = ((slices_0.length : Int) - t_35).toNat ∧ 0 ≤ t_35 ∧ forK (σ := Int) (fun i s nx_ => slices_Concat_SapiLabelapiLabel_b36 slices_0 i s nx_) (fun s => slices_Concat_SapiLabelapiLabel_k6 slices_0 s) n t_35 size_3 = some r) _ ((0 : Int), (0 : Int)) ⟨rfl, rfl, rfl, (by omega), hr⟩ ?_
  rintro n38 ⟨t_35, size_3⟩ env x ⟨rfl, rfl, hnt_35, h0t_35, hr⟩
  cases n38 with
  | zero =>
    simp only [forK] at hr
    refine Tr.seq ?_
    refine Tr.region_f (fun _ => false) ?_
    refine W.q rfl rfl rfl rfl (by decide) (Yd.lss rfl (.t rfl) (.t rfl)) ?_
    refine W.end ?_
    refine NX.sub (env' := [(0, _), (3, _), (9, _), (10, _), (11, _), (12, _)]) ⟨rfl, rfl, rfl, rfl, rfl, rfl, trivial⟩ ?_
    refine NX.then ?_
    refine Tr.seq ?_
    refine Tr.cond (.t rfl) (fun hb => ?_) (fun hb => ?_)
    · exact absurd (hb.symm.trans (fr_end hnt_35)) (by decide)
    ·
      refine Tr.exit' (EX.then (EX.then (EX.block ?_)))
      refine NX.sub (env' := [(0, _), (3, _)]) ⟨rfl, rfl, trivial⟩ ?_
      exact hk7 _ _ ⟨_, rfl, rfl, hr⟩
  | succ n38 =>
    obtain ⟨nx37, hnx37, hr⟩ := forK_succ hr
    try dsimp only at hr
    unfold slices_Concat_SapiLabelapiLabel_b36 at hr
    try dsimp only at hr
    have hltt_35 := fr_bnd hnt_35
    refine Tr.seq ?_
    refine Tr.region_f (fun _ => false) ?_
    refine W.q rfl rfl rfl rfl (by decide) (Yd.lss rfl (.t rfl) (.t rfl)) ?_
    refine W.end ?_
    refine NX.sub (env' := [(0, _), (3, _), (9, _), (10, _), (11, _), (12, _)]) ⟨rfl, rfl, rfl, rfl, rfl, rfl, trivial⟩ ?_
    refine NX.then ?_
    refine Tr.seq ?_
    refine Tr.cond (.t rfl) (fun hb => ?_) (fun hb => ?_)
    rotate_left
    · exact absurd (hb.symm.trans (fr_go hnt_35)) (by decide)
    ·
      refine Tr.skip' ?_
      refine NX.then ?_
      refine Tr.seq ?_
      refine Tr.block ?_
      refine Tr.seq ?_
      obtain ⟨y39, hy40, hr⟩ := bind_some hr
      refine Tr.region_f (fun _ => false) ?_
      refine W.q rfl rfl rfl rfl (by decide) (Yd.idxR hslices_0 hy40 rfl Try.underlying72 SZ22 (.t rfl) (.t rfl)) ?_
      obtain ⟨u41, hu42, hat43⟩ := hslices_0.row hy40
      refine W.q rfl rfl rfl rfl (by decide) (Yd.ldRow hat43 (.refl _) rfl ON22 (.t rfl)) ?_
      refine W.q rfl rfl rfl rfl (by decide) (Yd.as rfl (.t rfl)) ?_
      refine W.end ?_
      refine NX.sub (env' := [(0, _), (3, _), (9, _), (10, _), (11, _), (5, _)]) ⟨rfl, rfl, rfl, rfl, rfl, rfl, trivial⟩ ?_
      refine NX.then ?_
      refine Tr.seq ?_
      refine Tr.region_f (fun _ => false) ?_
      refine W.q rfl rfl rfl rfl (by decide) (Yd.mv rfl (.t rfl)) ?_
      refine W.q rfl rfl rfl rfl (by decide) (Yd.mv rfl (.t rfl)) ?_
      refine W.q rfl rfl rfl rfl (by decide) (Yd.lenR hu42 rfl Try.underlying22 (.t rfl)) ?_
      refine W.q rfl rfl rfl rfl (by decide) (Yd.add rfl (.t rfl) (.t rfl)) ?_
      refine W.q rfl rfl rfl rfl (by decide) (Yd.as rfl (.t rfl)) ?_
      refine W.end ?_
      refine NX.sub (env' := [(0, _), (3, _), (9, _), (10, _), (11, _)]) ⟨rfl, rfl, rfl, rfl, rfl, trivial⟩ ?_
      refine NX.then ?_
      refine Tr.seq ?_
      refine Tr.region_f (fun _ => false) ?_
      refine W.q rfl rfl rfl rfl (by decide) (Yd.mv rfl (.t rfl)) ?_
      refine W.q rfl rfl rfl rfl (by decide) (Yd.lss rfl (.t rfl) .c) ?_
      refine W.end ?_
      refine NX.sub (env' := [(0, _), (3, _), (9, _), (10, _), (11, _), (20, _)]) ⟨rfl, rfl, rfl, rfl, rfl, rfl, trivial⟩ ?_
      refine NX.then ?_
      refine Tr.cond (.t rfl) (fun hb => ?_) (fun hb => ?_)
      · have hr := cond_t hb hr
        cases hr
      · have hr := cond_f hb hr
        refine Tr.skip' ?_
        refine NX.block ?_
        refine NX.then ?_
        refine Tr.region_f (fun _ => false) ?_
        refine W.q rfl rfl rfl rfl (by decide) (Yd.add rfl (.t rfl) .c) ?_
        refine W.q rfl rfl rfl rfl (by decide) (Yd.mv rfl (.t rfl)) ?_
        refine W.end ?_
        refine NX.sub (env' := [(0, _), (3, _), (9, _), (10, _), (11, _)]) ⟨rfl, rfl, rfl, rfl, rfl, trivial⟩ ?_
        refine NX.sub (env' := [(0, _), (3, _), (9, _), (10, _), (11, _)]) ⟨rfl, rfl, rfl, rfl, rfl, trivial⟩ ?_
        have hw := w64_id (n := t_35 + 1) (by omega) (by omega)
        exact NX.again n38 (t_35 + 1, (w64 (size_3 + (y39.length : Int)))) (Nat.lt_succ_self _) ⟨(by rw [hw] <;> rfl), rfl, (fr_dec hnt_35), (by omega), ((hnx37 _).symm.trans hr)⟩

def label_Check (a_0 : Label) : Option (Int) :=
  (bif (((decide (a_0.level < (0 : Int))) || (decide (a_0.level > (3 : Int)))) || (decide (a_0.parts ≥ 32#32))) then
  some ((4 : Int))
  else
  some ((0 : Int)))

set_option maxRecDepth 100000 in
set_option maxHeartbeats 4000000 in
theorem label_Check_ok (w0 : World) (m : Snap) (l : List HI) (a_0 : Label) (r : Int) (hr : label_Check a_0 = some r) (w : World) (hc : cX w0 ⟨m, l⟩ w) :
    Calls Try.prog 55 [.agg #[.int .i64 a_0.level, .int .u32 (a_0.parts.toNat : Int)]].toArray w fun e w' => e = .returned (.int .i64 r) ∧ cX w0 ⟨m, l⟩ w' := by
  unfold label_Check at hr
  refine calls_of_Tr (N := 16) Try.func55 rfl hc rfl (Nat.le_of_ble_eq_true rfl) ?_
  refine Tr.seq ?_
  refine Tr.region_f (fun i => Nat.beq i 0) ?_
  refine W.e rfl rfl rfl rfl (by decide) (Ef.bx rfl (.t rfl) rfl) ?_
  rintro _ _ ⟨b1, rfl, rfl⟩
  refine ⟨.inl rfl, ?_⟩
  refine W.cast (m' := m) (l' := hcells b1 [_, _] 65 :: l) rfl rfl ?_
  refine W.q rfl rfl rfl rfl (by decide) (Yd.as rfl .c) ?_
  refine W.end ?_
  refine NX.sub (env' := [(1, _)]) ⟨rfl, trivial⟩ ?_
  refine NX.then ?_
  refine Tr.seq ?_
  refine Tr.seq ?_
  refine Tr.region_f (fun _ => false) ?_
  refine W.q rfl rfl rfl rfl (by decide) (Yd.fldB rfl Try.underlying65 rfl SZ3 rfl (.t rfl)) ?_
  refine W.q rfl rfl rfl rfl (by decide) (Yd.ldB (pos := 0) rfl rfl rfl ON3 (.t rfl)) ?_
  refine W.q rfl rfl rfl rfl (by decide) (Yd.lss rfl (.t rfl) .c) ?_
  refine W.q rfl rfl rfl rfl (by decide) (Yd.mv rfl (.t rfl)) ?_
  refine W.g rfl rfl rfl rfl rfl (.t rfl _) rfl (by decide) (fun hG => Yd.fldB rfl Try.underlying65 rfl SZ3 rfl (.t rfl)) ?_
  refine W.g rfl rfl rfl rfl rfl (.t rfl _) rfl (by decide) (fun hG => Yd.ldB (pos := 0) rfl rfl rfl ON3 (.g rfl hG)) ?_
  refine W.g rfl rfl rfl rfl rfl (.t rfl _) rfl (by decide) (fun hG => Yd.gtr rfl (.g rfl hG) .c) ?_
  refine W.q rfl rfl rfl rfl (by decide) (Yd.or rfl (.t rfl) .c rfl rfl) ?_
  refine W.q rfl rfl rfl rfl (by decide) (Yd.mv rfl (.t rfl)) ?_
  refine W.g rfl rfl rfl rfl rfl (.t rfl _) rfl (by decide) (fun hG => Yd.fldB rfl Try.underlying65 rfl SZ63 rfl (.t rfl)) ?_
  refine W.g rfl rfl rfl rfl rfl (.t rfl _) rfl (by decide) (fun hG => Yd.ldB (pos := 0) rfl rfl rfl ON63 (.g rfl hG)) ?_
  refine W.g rfl rfl rfl rfl rfl (.t rfl _) rfl (by decide) (fun hG => Yd.geqU (a := a_0.parts) (b := 32#32) rfl (.g rfl hG) .c) ?_
  refine W.q rfl rfl rfl rfl (by decide) (Yd.or rfl (.t rfl) .c rfl rfl) ?_
  refine W.end ?_
  refine NX.sub (env' := [(15, _)]) ⟨rfl, trivial⟩ ?_
  refine NX.drop (l' := l) (.cons _ (.refl _)) ?_
  refine NX.then ?_
  refine Tr.cond (.t rfl) (fun hb => ?_) (fun hb => ?_)
  · have hr := cond_t hb hr
    refine Tr.seq ?_
    refine Tr.region_f (fun _ => false) ?_
    refine W.q rfl rfl rfl rfl (by decide) (Yd.as rfl .c) ?_
    refine W.end ?_
    refine NX.sub (env' := [(2, _)]) ⟨rfl, trivial⟩ ?_
    refine NX.then ?_
    refine Tr.ret' (RT.then ?_)
    refine res1 rfl rfl ?_
    intro w hc
    cases hr
    exact ⟨rfl, hc⟩
  · have hr := cond_f hb hr
    refine Tr.skip' ?_
    refine NX.then ?_
    refine Tr.seq ?_
    refine Tr.region_f (fun _ => false) ?_
    refine W.q rfl rfl rfl rfl (by decide) (Yd.as rfl .c) ?_
    refine W.end ?_
    refine NX.sub (env' := [(2, _)]) ⟨rfl, trivial⟩ ?_
    refine NX.then ?_
    refine Tr.ret' ?_
    refine res1 rfl rfl ?_
    intro w hc
    cases hr
    exact ⟨rfl, hc⟩

def mark_Wrong_k9 : Option (Int) :=
  some ((0 : Int))

def mark_Wrong_b13 (r3 : (List Label)) (t_12 : Int) (nx14 : Unit → Option (Int)) : Option (Int) :=
  (geti r3 t_12).bind fun y16 =>
  (label_Check (({ level := y16.level, parts := y16.parts } : Label))).bind fun r20 =>
  (bif (r20 != (0 : Int)) then
  some r20
  else
  nx14 ())

def mark_Wrong (clear_0 : List Label) (things_1 : List Label) (deeds_2 : Int) : Option (Int) :=
  (bif ((((decide ((clear_0.length : Int) < (1 : Int))) || (decide ((clear_0.length : Int) > (5 : Int)))) || (decide ((things_1.length : Int) > (8 : Int)))) || (decide (deeds_2 > (30 : Int)))) then
  some ((1 : Int))
  else
  (slices_Concat_SapiLabelapiLabel (([clear_0, things_1] : List (List Label)))).bind fun r3 =>
  forK (σ := Unit) (fun i s nx_ => mark_Wrong_b13 r3 i nx_) (fun _ => mark_Wrong_k9) ((r3.length : Int) - (0 : Int)).toNat (0 : Int) ())

set_option maxRecDepth 100000 in
set_option maxHeartbeats 4000000 in
theorem mark_Wrong_ok (w0 : World) (m : Snap) (l : List HI) (uclear_0 : Value) (clear_0 : List Label) (hclear_0 : RS rLabel m uclear_0 clear_0) (uthings_1 : Value) (things_1 : List Label) (hthings_1 : RS rLabel m uthings_1 things_1) (deeds_2 : Int) (r : Int) (hr : mark_Wrong clear_0 things_1 deeds_2 = some r) (w : World) (hc : cX w0 ⟨m, l⟩ w) :
    Calls Try.prog 31 [uclear_0, uthings_1, .int .i64 deeds_2].toArray w fun e w' => e = .returned (.int .i64 r) ∧ cX w0 ⟨m, l⟩ w' := by
  unfold mark_Wrong at hr
  refine calls_of_Tr (N := 42) Try.func31 rfl hc rfl (Nat.le_of_ble_eq_true rfl) ?_
  refine Tr.seq ?_
  refine Tr.region_f (fun _ => false) ?_
  refine W.q rfl rfl rfl rfl (by decide) (Yd.as rfl .c) ?_
  refine W.end ?_
  refine NX.sub (env' := [(0, _), (1, _), (2, _)]) ⟨rfl, rfl, rfl, trivial⟩ ?_
  refine NX.then ?_
  refine Tr.seq ?_
  refine Tr.seq ?_
  refine Tr.region_f (fun _ => false) ?_
  refine W.q rfl rfl rfl rfl (by decide) (Yd.mv rfl (.t rfl)) ?_
  refine W.q rfl rfl rfl rfl (by decide) (Yd.lenR hclear_0 rfl Try.underlying22 (.t rfl)) ?_
  refine W.q rfl rfl rfl rfl (by decide) (Yd.lss rfl (.t rfl) .c) ?_
  refine W.q rfl rfl rfl rfl (by decide) (Yd.mv rfl (.t rfl)) ?_
  refine W.g rfl rfl rfl rfl rfl (.t rfl _) rfl (by decide) (fun hG => Yd.mv rfl (.t rfl)) ?_
  refine W.g rfl rfl rfl rfl rfl (.t rfl _) rfl (by decide) (fun hG => Yd.lenR hclear_0 rfl Try.underlying22 (.g rfl hG)) ?_
  refine W.g rfl rfl rfl rfl rfl (.t rfl _) rfl (by decide) (fun hG => Yd.gtr rfl (.g rfl hG) .c) ?_
  refine W.q rfl rfl rfl rfl (by decide) (Yd.or rfl (.t rfl) .c rfl rfl) ?_
  refine W.q rfl rfl rfl rfl (by decide) (Yd.mv rfl (.t rfl)) ?_
  refine W.g rfl rfl rfl rfl rfl (.t rfl _) rfl (by decide) (fun hG => Yd.mv rfl (.t rfl)) ?_
  refine W.g rfl rfl rfl rfl rfl (.t rfl _) rfl (by decide) (fun hG => Yd.lenR hthings_1 rfl Try.underlying22 (.g rfl hG)) ?_
  refine W.g rfl rfl rfl rfl rfl (.t rfl _) rfl (by decide) (fun hG => Yd.gtr rfl (.g rfl hG) .c) ?_
  refine W.q rfl rfl rfl rfl (by decide) (Yd.or rfl (.t rfl) .c rfl rfl) ?_
  refine W.q rfl rfl rfl rfl (by decide) (Yd.mv rfl (.t rfl)) ?_
  refine W.g rfl rfl rfl rfl rfl (.t rfl _) rfl (by decide) (fun hG => Yd.mv rfl (.t rfl)) ?_
  refine W.g rfl rfl rfl rfl rfl (.t rfl _) rfl (by decide) (fun hG => Yd.gtr rfl (.g rfl hG) .c) ?_
  refine W.q rfl rfl rfl rfl (by decide) (Yd.or rfl (.t rfl) .c rfl rfl) ?_
  refine W.end ?_
  refine NX.sub (env' := [(0, _), (1, _), (26, _)]) ⟨rfl, rfl, rfl, trivial⟩ ?_
  refine NX.then ?_
  refine Tr.cond (.t rfl) (fun hb => ?_) (fun hb => ?_)
  · have hr := cond_t hb hr
    refine Tr.seq ?_
    refine Tr.region_f (fun _ => false) ?_
    refine W.q rfl rfl rfl rfl (by decide) (Yd.as rfl .c) ?_
    refine W.end ?_
    refine NX.sub (env' := [(6, _)]) ⟨rfl, trivial⟩ ?_
    refine NX.then ?_
    refine Tr.ret' (RT.then ?_)
    refine res1 rfl rfl ?_
    intro w hc
    cases hr
    exact ⟨rfl, hc⟩
  · have hr := cond_f hb hr
    refine Tr.skip' ?_
    refine NX.then ?_
    refine Tr.seq ?_
    refine Tr.seq ?_
    obtain ⟨r3, hr4, hr⟩ := bind_some hr
    refine Tr.region_f (fun i => Nat.beq i 2 || Nat.beq i 3) ?_
    refine W.q rfl rfl rfl rfl (by decide) (Yd.mv rfl (.t rfl)) ?_
    refine W.q rfl rfl rfl rfl (by decide) (Yd.mv rfl (.t rfl)) ?_
    refine W.e rfl rfl rfl rfl (by decide) (Ef.bsRs (us := [uclear_0, uthings_1]) (xss := [clear_0, things_1]) (Rows.snoc (Rows.snoc (Rows.nil _ _) hclear_0) hthings_1) IF22 rfl Try.underlying72 rfl (.cons (.t rfl) (.cons (.t rfl) .nil)) rfl (by decide)) ?_
    rintro v1 _ rfl
    refine ⟨.inl rfl, ?_⟩
    refine W.cast (m' := m) (l' := hown 22 1 v1 _ _ :: l) rfl rfl ?_
    refine W.e rfl rfl rfl rfl (by decide) (Ef.call (R := fun z x' => ∃ v5 : Value, z = v5 ∧ x' = ⟨m, hownT 65 2 Label.enc v5 r3 :: hown 22 1 v1 (([clear_0, things_1] : List (List Label))).length ([uclear_0, uthings_1] : List Value) :: l⟩) rfl Try.func54 rfl rfl (.cons (.t rfl) .nil) (by intro w hw; obtain ⟨m2, hm2, hc2, ⟨L2, hl1, hl2⟩, hback⟩ := cX_lend (p := 0) hw rfl lone_own; have hL1 := RS_of_rows hl1 ((Rows.snoc (Rows.snoc (Rows.nil _ _) hclear_0) hthings_1).mono hm2) hl2; exact (slices_Concat_SapiLabelapiLabel_ok w0 m2 _ _ _ hL1 _ hr4 w hc2).mono fun e w' ⟨v5, he, hc'⟩ => ⟨_, _, he, ⟨v5, rfl, rfl⟩, (hback m2 _ 1 w' (.refl _) rfl).2 hc'⟩)) ?_
    rintro v5 _ ⟨_, rfl, rfl⟩
    refine ⟨.inl rfl, ?_⟩
    refine W.cast (m' := m) (l' := hownT 65 2 Label.enc v5 _ :: hown 22 1 v1 _ _ :: l) rfl rfl ?_
    refine W.q rfl rfl rfl rfl (by decide) (Yd.lenO (p := 0) rfl rfl Try.underlying22 (.t rfl)) ?_
    refine W.q rfl rfl rfl rfl (by decide) (Yd.mv rfl .c) ?_
    refine W.end ?_
    refine NX.sub (env' := [(30, _), (31, _), (32, _)]) ⟨rfl, rfl, rfl, trivial⟩ ?_
    refine NX.drop (l' := hownT 65 2 Label.enc v5 _ :: l) (.cons_cons _ (.cons _ (.refl _))) ?_
    refine NX.then ?_
    refine Tr.join (S := fun env x => env = [] ∧ x = ⟨m, l⟩ ∧ mark_Wrong_k9 = some r) ?_ (fun hk10 => ?_)
    · rintro _ _ ⟨rfl, rfl, hr⟩
      unfold mark_Wrong_k9 at hr
      try dsimp only at hr
      refine NX.then ?_
      refine Tr.seq ?_
      refine Tr.region_f (fun _ => false) ?_
      refine W.q rfl rfl rfl rfl (by decide) (Yd.as rfl .c) ?_
      refine W.end ?_
      refine NX.sub (env' := [(6, _)]) ⟨rfl, trivial⟩ ?_
      refine NX.then ?_
      refine Tr.ret' ?_
      refine res1 rfl rfl ?_
      intro w hc
      cases hr
      exact ⟨rfl, hc⟩
    refine Tr.lenO (pos := 0) rfl (fun hlen11 => ?_)
    refine Tr.block ?_
    refine Tr.sub (env' := [(30, _), (31, _), (32, _)]) ⟨rfl, rfl, rfl, trivial⟩ ?_
    refine Tr.loop (S := fun n (z : Int × Unit) env x => match z with | (t_12, _) => env = [(30, v5), (31, .int .i64 ((r3.length : Int))), (32, .int .i64 t_12)] ∧ x = ⟨m, hownT 65 2 Label.enc v5 r3 :: l⟩ ∧ n = ((r3.length : Int) - t_12).toNat ∧ 0 ≤ t_12 ∧ forK (σ := Unit) (fun i s nx_ => mark_Wrong_b13 r3 i nx_) (fun _ => mark_Wrong_k9) n t_12 () = some r) _ ((0 : Int), ()) ⟨rfl, rfl, rfl, (by omega), hr⟩ ?_
    rintro n15 ⟨t_12, _⟩ env x ⟨rfl, rfl, hnt_12, h0t_12, hr⟩
    cases n15 with
    | zero =>
      simp only [forK] at hr
      refine Tr.seq ?_
      refine Tr.region_f (fun _ => false) ?_
      refine W.q rfl rfl rfl rfl (by decide) (Yd.lss rfl (.t rfl) (.t rfl)) ?_
      refine W.end ?_
      refine NX.sub (env' := [(30, _), (31, _), (32, _), (33, _)]) ⟨rfl, rfl, rfl, rfl, trivial⟩ ?_
      refine NX.then ?_
      refine Tr.seq ?_
      refine Tr.cond (.t rfl) (fun hb => ?_) (fun hb => ?_)
      · exact absurd (hb.symm.trans (fr_end hnt_12)) (by decide)
      ·
        refine Tr.exit' (EX.then (EX.then (EX.block ?_)))
        refine NX.sub (env' := []) trivial ?_
        refine NX.drop (l' := l) (.cons _ (.refl _)) ?_
        exact hk10 _ _ ⟨rfl, rfl, hr⟩
    | succ n15 =>
      obtain ⟨nx14, hnx14, hr⟩ := forK_succ hr
      try dsimp only at hr
      unfold mark_Wrong_b13 at hr
      try dsimp only at hr
      have hltt_12 := fr_bnd hnt_12
      refine Tr.seq ?_
      refine Tr.region_f (fun _ => false) ?_
      refine W.q rfl rfl rfl rfl (by decide) (Yd.lss rfl (.t rfl) (.t rfl)) ?_
      refine W.end ?_
      refine NX.sub (env' := [(30, _), (31, _), (32, _), (33, _)]) ⟨rfl, rfl, rfl, rfl, trivial⟩ ?_
      refine NX.then ?_
      refine Tr.seq ?_
      refine Tr.cond (.t rfl) (fun hb => ?_) (fun hb => ?_)
      rotate_left
      · exact absurd (hb.symm.trans (fr_go hnt_12)) (by decide)
      ·
        refine Tr.skip' ?_
        refine NX.then ?_
        refine Tr.seq ?_
        refine Tr.block ?_
        refine Tr.seq ?_
        obtain ⟨y16, hy17, hr⟩ := bind_some hr
        refine Tr.region_f (fun i => Nat.beq i 2 || Nat.beq i 3) ?_
        refine W.q rfl rfl rfl rfl (by decide) (Yd.idxT (pos := 0) rfl hy17 rfl Try.underlying22 SZ65 (.t rfl) (.t rfl)) ?_
        refine W.q rfl rfl rfl rfl (by decide) (Yd.ldTs (enc := Label.enc) (n := 2) (pos := 0) (us := [_, _]) (fun _ => rfl) rfl hy17 rfl (by decide) rfl ON65 US65 SZ65 (.t rfl)) ?_
        refine W.e rfl rfl rfl rfl (by decide) (Ef.al rfl ZR65 rfl) ?_
        rintro _ _ ⟨b18, rfl, rfl⟩
        refine ⟨.inl rfl, ?_⟩
        refine W.cast (m' := m) (l' := hcells b18 [_, _] 65 :: hownT 65 2 Label.enc v5 _ :: l) rfl rfl ?_
        refine W.s rfl rfl rfl rfl (Ef.stB (pos := 0) (us := [_, _]) (cs' := [_, _]) rfl rfl (.t rfl) (.t rfl) SZ65 rfl rfl rfl (Nat.le_of_ble_eq_true rfl) rfl) ?_
        rintro _ _ ⟨rfl, rfl⟩
        refine ⟨.inl rfl, ?_⟩
        refine W.cast (m' := m) (l' := hcells b18 [_, _] 65 :: hownT 65 2 Label.enc v5 _ :: l) rfl rfl ?_
        refine W.end ?_
        refine NX.sub (env' := [(30, _), (31, _), (32, _), (8, _)]) ⟨rfl, rfl, rfl, rfl, trivial⟩ ?_
        refine NX.then ?_
        refine Tr.seq ?_
        obtain ⟨r20, hr21, hr⟩ := bind_some hr
        refine Tr.region_f (fun _ => false) ?_
        refine W.q rfl rfl rfl rfl (by decide) (Yd.ldBs (pos := 0) (us := [_, _]) rfl rfl rfl rfl ON65 US65 SZ65 (.t rfl)) ?_
        refine W.q rfl rfl rfl rfl (by decide) (Yd.call (v := .int .i64 r20) rfl Try.func55 rfl rfl (.cons (.t rfl) .nil) (fun x' hx w hw => label_Check_ok w0 x'.m x'.l (({ level := y16.level, parts := y16.parts } : Label)) _ hr21 w hw)) ?_
        refine W.q rfl rfl rfl rfl (by decide) (Yd.as rfl (.t rfl)) ?_
        refine W.end ?_
        refine NX.sub (env' := [(30, _), (31, _), (32, _), (9, _)]) ⟨rfl, rfl, rfl, rfl, trivial⟩ ?_
        refine NX.drop (l' := hownT 65 2 Label.enc v5 _ :: l) (.cons _ (.cons_cons _ (.refl _))) ?_
        refine NX.then ?_
        refine Tr.seq ?_
        refine Tr.region_f (fun _ => false) ?_
        refine W.q rfl rfl rfl rfl (by decide) (Yd.mv rfl (.t rfl)) ?_
        refine W.q rfl rfl rfl rfl (by decide) (Yd.neq rfl (.t rfl) .c) ?_
        refine W.end ?_
        refine NX.sub (env' := [(30, _), (31, _), (32, _), (9, _), (39, _)]) ⟨rfl, rfl, rfl, rfl, rfl, trivial⟩ ?_
        refine NX.then ?_
        refine Tr.cond (.t rfl) (fun hb => ?_) (fun hb => ?_)
        · have hr := cond_t hb hr
          refine Tr.seq ?_
          refine Tr.region_f (fun _ => false) ?_
          refine W.q rfl rfl rfl rfl (by decide) (Yd.mv rfl (.t rfl)) ?_
          refine W.q rfl rfl rfl rfl (by decide) (Yd.as rfl (.t rfl)) ?_
          refine W.end ?_
          refine NX.sub (env' := [(6, _)]) ⟨rfl, trivial⟩ ?_
          refine NX.drop (l' := l) (.cons _ (.refl _)) ?_
          refine NX.then ?_
          refine Tr.ret' (RT.block (RT.then (RT.then (RT.block (RT.then ?_)))))
          refine res1 rfl rfl ?_
          intro w hc
          cases hr
          exact ⟨rfl, hc⟩
        · have hr := cond_f hb hr
          refine Tr.skip' ?_
          refine NX.block ?_
          refine NX.then ?_
          refine Tr.region_f (fun _ => false) ?_
          refine W.q rfl rfl rfl rfl (by decide) (Yd.add rfl (.t rfl) .c) ?_
          refine W.q rfl rfl rfl rfl (by decide) (Yd.mv rfl (.t rfl)) ?_
          refine W.end ?_
          refine NX.sub (env' := [(30, _), (31, _), (32, _)]) ⟨rfl, rfl, rfl, trivial⟩ ?_
          refine NX.sub (env' := [(30, _), (31, _), (32, _)]) ⟨rfl, rfl, rfl, trivial⟩ ?_
          have hw := w64_id (n := t_12 + 1) (by omega) (by omega)
          exact NX.again n15 (t_12 + 1, ()) (Nat.lt_succ_self _) ⟨(by rw [hw] <;> rfl), rfl, (fr_dec hnt_12), (by omega), ((hnx14 _).symm.trans hr)⟩

def label_Least (a_0 : Label) (b_1 : Label) : Option (Bool) :=
  some (((decide (a_0.level ≤ b_1.level)) && ((a_0.parts &&& ~~~b_1.parts) == 0#32)))

set_option maxRecDepth 100000 in
set_option maxHeartbeats 4000000 in
theorem label_Least_ok (w0 : World) (m : Snap) (l : List HI) (a_0 : Label) (b_1 : Label) (r : Bool) (hr : label_Least a_0 b_1 = some r) (w : World) (hc : cX w0 ⟨m, l⟩ w) :
    Calls Try.prog 33 [.agg #[.int .i64 a_0.level, .int .u32 (a_0.parts.toNat : Int)], .agg #[.int .i64 b_1.level, .int .u32 (b_1.parts.toNat : Int)]].toArray w fun e w' => e = .returned (.bool r) ∧ cX w0 ⟨m, l⟩ w' := by
  unfold label_Least at hr
  refine calls_of_Tr (N := 18) Try.func33 rfl hc rfl (Nat.le_of_ble_eq_true rfl) ?_
  refine Tr.seq ?_
  refine Tr.region_f (fun i => Nat.beq i 0 || Nat.beq i 1) ?_
  refine W.e rfl rfl rfl rfl (by decide) (Ef.bx rfl (.t rfl) rfl) ?_
  rintro _ _ ⟨b1, rfl, rfl⟩
  refine ⟨.inl rfl, ?_⟩
  refine W.cast (m' := m) (l' := hcells b1 [_, _] 65 :: l) rfl rfl ?_
  refine W.e rfl rfl rfl rfl (by decide) (Ef.bx rfl (.t rfl) rfl) ?_
  rintro _ _ ⟨b3, rfl, rfl⟩
  refine ⟨.inl rfl, ?_⟩
  refine W.cast (m' := m) (l' := hcells b3 [_, _] 65 :: hcells b1 [_, _] 65 :: l) rfl rfl ?_
  refine W.q rfl rfl rfl rfl (by decide) (Yd.as rfl .c) ?_
  refine W.end ?_
  refine NX.sub (env' := [(2, _), (3, _)]) ⟨rfl, rfl, trivial⟩ ?_
  refine NX.then ?_
  refine Tr.seq ?_
  refine Tr.region_f (fun _ => false) ?_
  refine W.q rfl rfl rfl rfl (by decide) (Yd.fldB rfl Try.underlying65 rfl SZ3 rfl (.t rfl)) ?_
  refine W.q rfl rfl rfl rfl (by decide) (Yd.ldB (pos := 1) rfl rfl rfl ON3 (.t rfl)) ?_
  refine W.q rfl rfl rfl rfl (by decide) (Yd.fldB rfl Try.underlying65 rfl SZ3 rfl (.t rfl)) ?_
  refine W.q rfl rfl rfl rfl (by decide) (Yd.ldB (pos := 0) rfl rfl rfl ON3 (.t rfl)) ?_
  refine W.q rfl rfl rfl rfl (by decide) (Yd.leq rfl (.t rfl) (.t rfl)) ?_
  refine W.q rfl rfl rfl rfl (by decide) (Yd.mv rfl (.t rfl)) ?_
  refine W.g rfl rfl rfl rfl rfl (.t rfl _) rfl (by decide) (fun hG => Yd.fldB rfl Try.underlying65 rfl SZ63 rfl (.t rfl)) ?_
  refine W.g rfl rfl rfl rfl rfl (.t rfl _) rfl (by decide) (fun hG => Yd.ldB (pos := 1) rfl rfl rfl ON63 (.g rfl hG)) ?_
  refine W.g rfl rfl rfl rfl rfl (.t rfl _) rfl (by decide) (fun hG => Yd.fldB rfl Try.underlying65 rfl SZ63 rfl (.t rfl)) ?_
  refine W.g rfl rfl rfl rfl rfl (.t rfl _) rfl (by decide) (fun hG => Yd.ldB (pos := 0) rfl rfl rfl ON63 (.g rfl hG)) ?_
  refine W.g rfl rfl rfl rfl rfl (.t rfl _) rfl (by decide) (fun hG => Yd.andnU (a := a_0.parts) (b := b_1.parts) rfl (.g rfl hG) (.g rfl hG)) ?_
  refine W.g rfl rfl rfl rfl rfl (.t rfl _) rfl (by decide) (fun hG => Yd.eqlU (a := (a_0.parts &&& ~~~b_1.parts)) (b := 0#32) rfl (.g rfl hG) .c) ?_
  refine W.q rfl rfl rfl rfl (by decide) (Yd.and rfl (.t rfl) .c rfl rfl) ?_
  refine W.q rfl rfl rfl rfl (by decide) (Yd.as rfl (.t rfl)) ?_
  refine W.end ?_
  refine NX.sub (env' := [(4, _)]) ⟨rfl, trivial⟩ ?_
  refine NX.drop (l' := l) (.cons _ (.cons _ (.refl _))) ?_
  refine NX.then ?_
  refine Tr.ret' ?_
  refine res1 rfl rfl ?_
  intro w hc
  cases hr
  exact ⟨rfl, hc⟩

def label_All (a_0 : Label) (b_1 : Label) : Option (Label) :=
  some (({ level := (if b_1.level > a_0.level then b_1.level else a_0.level), parts := (a_0.parts ||| b_1.parts) } : Label))

set_option maxRecDepth 100000 in
set_option maxHeartbeats 4000000 in
theorem label_All_ok (w0 : World) (m : Snap) (l : List HI) (a_0 : Label) (b_1 : Label) (r : Label) (hr : label_All a_0 b_1 = some r) (w : World) (hc : cX w0 ⟨m, l⟩ w) :
    Calls Try.prog 34 [.agg #[.int .i64 a_0.level, .int .u32 (a_0.parts.toNat : Int)], .agg #[.int .i64 b_1.level, .int .u32 (b_1.parts.toNat : Int)]].toArray w fun e w' => e = .returned (.agg #[.int .i64 r.level, .int .u32 (r.parts.toNat : Int)]) ∧ cX w0 ⟨m, l⟩ w' := by
  unfold label_All at hr
  refine calls_of_Tr (N := 16) Try.func34 rfl hc rfl (Nat.le_of_ble_eq_true rfl) ?_
  refine Tr.seq ?_
  refine Tr.region_f (fun i => Nat.beq i 0 || Nat.beq i 1 || Nat.beq i 2) ?_
  refine W.e rfl rfl rfl rfl (by decide) (Ef.bx rfl (.t rfl) rfl) ?_
  rintro _ _ ⟨b1, rfl, rfl⟩
  refine ⟨.inl rfl, ?_⟩
  refine W.cast (m' := m) (l' := hcells b1 [_, _] 65 :: l) rfl rfl ?_
  refine W.e rfl rfl rfl rfl (by decide) (Ef.bx rfl (.t rfl) rfl) ?_
  rintro _ _ ⟨b3, rfl, rfl⟩
  refine ⟨.inl rfl, ?_⟩
  refine W.cast (m' := m) (l' := hcells b3 [_, _] 65 :: hcells b1 [_, _] 65 :: l) rfl rfl ?_
  refine W.e rfl rfl rfl rfl (by decide) (Ef.al rfl ZR65 rfl) ?_
  rintro _ _ ⟨b5, rfl, rfl⟩
  refine ⟨.inl rfl, ?_⟩
  refine W.cast (m' := m) (l' := hcells b5 [_, _] 65 :: hcells b3 [_, _] 65 :: hcells b1 [_, _] 65 :: l) rfl rfl ?_
  refine W.end ?_
  refine NX.sub (env' := [(2, _), (3, _), (4, _)]) ⟨rfl, rfl, rfl, trivial⟩ ?_
  refine NX.then ?_
  refine Tr.seq ?_
  refine Tr.region_f (fun i => Nat.beq i 11) ?_
  refine W.q rfl rfl rfl rfl (by decide) (Yd.fldB rfl Try.underlying65 rfl SZ3 rfl (.t rfl)) ?_
  refine W.q rfl rfl rfl rfl (by decide) (Yd.ldB (pos := 2) rfl rfl rfl ON3 (.t rfl)) ?_
  refine W.q rfl rfl rfl rfl (by decide) (Yd.fldB rfl Try.underlying65 rfl SZ3 rfl (.t rfl)) ?_
  refine W.q rfl rfl rfl rfl (by decide) (Yd.ldB (pos := 1) rfl rfl rfl ON3 (.t rfl)) ?_
  refine W.q rfl rfl rfl rfl (by decide) (Yd.max2 rfl (.t rfl) (.t rfl)) ?_
  refine W.q rfl rfl rfl rfl (by decide) (Yd.fldB rfl Try.underlying65 rfl SZ63 rfl (.t rfl)) ?_
  refine W.q rfl rfl rfl rfl (by decide) (Yd.ldB (pos := 2) rfl rfl rfl ON63 (.t rfl)) ?_
  refine W.q rfl rfl rfl rfl (by decide) (Yd.fldB rfl Try.underlying65 rfl SZ63 rfl (.t rfl)) ?_
  refine W.q rfl rfl rfl rfl (by decide) (Yd.ldB (pos := 1) rfl rfl rfl ON63 (.t rfl)) ?_
  refine W.q rfl rfl rfl rfl (by decide) (Yd.orU (a := a_0.parts) (b := b_1.parts) rfl (.t rfl) (.t rfl)) ?_
  refine W.q rfl rfl rfl rfl (by decide) (Yd.bld (cells := [.int .i64 ((if b_1.level > a_0.level then b_1.level else a_0.level)), .int .u32 (((a_0.parts ||| b_1.parts)).toNat : Int)]) rfl ZI65 PL65 (.cons (.t rfl) (.cons (.t rfl) .nil)) rfl) ?_
  refine W.s rfl rfl rfl rfl (Ef.stB (pos := 0) (us := [_, _]) (cs' := [_, _]) rfl rfl (.t rfl) (.t rfl) SZ65 rfl rfl rfl (Nat.le_of_ble_eq_true rfl) rfl) ?_
  rintro _ _ ⟨rfl, rfl⟩
  refine ⟨.inl rfl, ?_⟩
  refine W.cast (m' := m) (l' := hcells b5 [_, _] 65 :: hcells b3 [_, _] 65 :: hcells b1 [_, _] 65 :: l) rfl rfl ?_
  refine W.end ?_
  refine NX.sub (env' := [(4, _)]) ⟨rfl, trivial⟩ ?_
  refine NX.drop (l' := hcells b5 [_, _] 65 :: l) (.cons_cons _ (.cons _ (.cons _ (.refl _)))) ?_
  refine NX.then ?_
  refine Tr.ret' ?_
  refine resV1 rfl (Rv.cs (pos := 0) rfl rfl rfl ON65 US65 SZ65) ?_
  intro w hc
  cases hr
  exact ⟨rfl, (cX_sub (.cons _ (.refl _)) hc)⟩

def mark_Play_c1 (d_0 : Deed) (cp_0 : (List Label)) (cp_1 : (List Label)) (cp_2 : T27) (cp_3 : (List (BitVec 32))) : Option (Int × T27 × (List (BitVec 32))) :=
  (bif ((decide (d_0.kind < (1 : Int))) || (decide (d_0.kind > (3 : Int)))) then
  some (((6 : Int), ({ codes := cp_2.codes, marks := cp_2.marks, src := cp_2.src } : T27), cp_3))
  else
  (bif (((decide (d_0.by_ < (0 : Int))) || (decide (d_0.by_ ≥ (cp_0.length : Int)))) || ((d_0.kind != (3 : Int)) && ((decide (d_0.to < (0 : Int))) || (decide (d_0.to ≥ (cp_1.length : Int)))))) then
  some (((2 : Int), ({ codes := cp_2.codes, marks := cp_2.marks, src := cp_2.src } : T27), cp_3))
  else
  (bif (d_0.kind == (3 : Int)) then
  (geti cp_2.marks d_0.by_).bind fun y3 =>
  (geti cp_3 d_0.by_).bind fun y5 =>
  some (((0 : Int), ({ codes := cp_2.codes, marks := (cp_2.marks.set d_0.by_.toNat (({ level := (0 : Int), parts := (0#32) } : Label))), src := cp_2.src } : T27), (cp_3.set d_0.by_.toNat (0#32))))
  else
  (geti cp_2.marks d_0.by_).bind fun y7 =>
  (geti cp_1 d_0.to).bind fun y9 =>
  (bif (d_0.kind == (2 : Int)) then
  (geti cp_2.marks d_0.by_).bind fun y13 =>
  (label_Least y13 (({ level := y9.level, parts := y9.parts } : Label))).bind fun r15 =>
  (bif (!r15) then
  some (((7 : Int), ({ codes := cp_2.codes, marks := cp_2.marks, src := cp_2.src } : T27), cp_3))
  else
  (geti cp_2.src d_0.to).bind fun y17 =>
  (geti cp_3 d_0.by_).bind fun y19 =>
  some (((0 : Int), ({ codes := cp_2.codes, marks := cp_2.marks, src := (cp_2.src.set d_0.to.toNat ((y17 ||| y19))) } : T27), cp_3)))
  else
  (geti cp_2.marks d_0.by_).bind fun y21 =>
  (label_All y21 (({ level := y9.level, parts := y9.parts } : Label))).bind fun r23 =>
  (geti cp_0 d_0.by_).bind fun y27 =>
  (label_Least (({ level := r23.level, parts := r23.parts } : Label)) y27).bind fun r29 =>
  (bif (!r29) then
  some (((7 : Int), ({ codes := cp_2.codes, marks := cp_2.marks, src := cp_2.src } : T27), cp_3))
  else
  (geti cp_2.marks d_0.by_).bind fun y31 =>
  (geti cp_3 d_0.by_).bind fun y33 =>
  (geti cp_2.src d_0.to).bind fun y35 =>
  some (((0 : Int), ({ codes := cp_2.codes, marks := (cp_2.marks.set d_0.by_.toNat (({ level := r23.level, parts := r23.parts } : Label))), src := cp_2.src } : T27), (cp_3.set d_0.by_.toNat ((y33 ||| y35))))))))))

set_option maxRecDepth 100000 in
set_option maxHeartbeats 4000000 in
theorem mark_Play_c1_ok (w0 : World) (m : Snap) (l : List HI) (d_0 : Deed) (fb0 : Nat) (cp_0 : (List Label)) (uc0_0 : Value) (hc0_0 : RS rLabel m uc0_0 cp_0) (fb1 : Nat) (cp_1 : (List Label)) (uc1_0 : Value) (hc1_0 : RS rLabel m uc1_0 cp_1) (fb2 : Nat) (cp_2 : T27) (uc2_0 : Value) (uc2_1 : Value) (uc2_2 : Value) (fb3 : Nat) (cp_3 : (List (BitVec 32))) (uc3_0 : Value) (r : Int × T27 × (List (BitVec 32))) (hr : mark_Play_c1 d_0 cp_0 cp_1 cp_2 cp_3 = some r) (w : World) (hc : cX w0 ⟨m, hcells fb0 [uc0_0] 22 :: hcells fb1 [uc1_0] 22 :: hcells fb2 [uc2_0, uc2_1, uc2_2] 27 :: hownT 28 1 encI uc2_0 cp_2.codes :: hownT 65 2 Label.enc uc2_1 cp_2.marks :: hownT 63 1 encU uc2_2 cp_2.src :: hcells fb3 [uc3_0] 25 :: hownT 63 1 encU uc3_0 cp_3 :: l⟩ w) :
    Calls Try.prog 32 [.agg #[.int .i64 d_0.kind, .int .i64 d_0.by_, .int .i64 d_0.to, .int .i64 d_0.label.level, .int .u32 (d_0.label.parts.toNat : Int), .int .i64 d_0.val], bp fb0 0, bp fb1 0, bp fb2 0, bp fb3 0].toArray w fun e w' => e = .returned (.int .i64 r.1) ∧ cX w0 ⟨m, hcells fb0 [uc0_0] 22 :: hcells fb1 [uc1_0] 22 :: hcells fb2 [uc2_0, uc2_1, uc2_2] 27 :: hownT 28 1 encI uc2_0 r.2.1.codes :: hownT 65 2 Label.enc uc2_1 r.2.1.marks :: hownT 63 1 encU uc2_2 r.2.1.src :: hcells fb3 [uc3_0] 25 :: hownT 63 1 encU uc3_0 r.2.2 :: l⟩ w' := by
  unfold mark_Play_c1 at hr
  refine calls_of_Tr (N := 122) Try.func32 rfl hc rfl (Nat.le_of_ble_eq_true rfl) ?_
  refine Tr.seq ?_
  refine Tr.region_f (fun i => Nat.beq i 0) ?_
  refine W.e rfl rfl rfl rfl (by decide) (Ef.bx rfl (.t rfl) rfl) ?_
  rintro _ _ ⟨b1, rfl, rfl⟩
  refine ⟨.inl rfl, ?_⟩
  refine W.cast (m' := m) (l' := hcells b1 [_, _, _, _, _, _] 67 :: hcells fb0 [_] 22 :: hcells fb1 [_] 22 :: hcells fb2 [_, _, _] 27 :: hownT 28 1 encI uc2_0 _ :: hownT 65 2 Label.enc uc2_1 _ :: hownT 63 1 encU uc2_2 _ :: hcells fb3 [_] 25 :: hownT 63 1 encU uc3_0 _ :: l) rfl rfl ?_
  refine W.q rfl rfl rfl rfl (by decide) (Yd.as rfl .c) ?_
  refine W.end ?_
  refine NX.sub (env' := [(1, _), (2, _), (3, _), (4, _), (5, _)]) ⟨rfl, rfl, rfl, rfl, rfl, trivial⟩ ?_
  refine NX.then ?_
  refine Tr.seq ?_
  refine Tr.block ?_
  refine Tr.seq ?_
  refine Tr.region_f (fun _ => false) ?_
  refine W.q rfl rfl rfl rfl (by decide) (Yd.fldB rfl Try.underlying67 rfl SZ3 rfl (.t rfl)) ?_
  refine W.q rfl rfl rfl rfl (by decide) (Yd.ldB (pos := 0) rfl rfl rfl ON3 (.t rfl)) ?_
  refine W.q rfl rfl rfl rfl (by decide) (Yd.lss rfl (.t rfl) .c) ?_
  refine W.q rfl rfl rfl rfl (by decide) (Yd.mv rfl (.t rfl)) ?_
  refine W.g rfl rfl rfl rfl rfl (.t rfl _) rfl (by decide) (fun hG => Yd.fldB rfl Try.underlying67 rfl SZ3 rfl (.t rfl)) ?_
  refine W.g rfl rfl rfl rfl rfl (.t rfl _) rfl (by decide) (fun hG => Yd.ldB (pos := 0) rfl rfl rfl ON3 (.g rfl hG)) ?_
  refine W.g rfl rfl rfl rfl rfl (.t rfl _) rfl (by decide) (fun hG => Yd.gtr rfl (.g rfl hG) .c) ?_
  refine W.q rfl rfl rfl rfl (by decide) (Yd.or rfl (.t rfl) .c rfl rfl) ?_
  refine W.q rfl rfl rfl rfl (by decide) (Yd.as rfl (.t rfl)) ?_
  refine W.end ?_
  refine NX.sub (env' := [(1, _), (2, _), (3, _), (4, _), (5, _), (10, _)]) ⟨rfl, rfl, rfl, rfl, rfl, rfl, trivial⟩ ?_
  refine NX.then ?_
  refine Tr.cond (.t rfl) (fun hb => ?_) (fun hb => ?_)
  · have hr := cond_t hb hr
    refine Tr.seq ?_
    refine Tr.region_f (fun _ => false) ?_
    refine W.q rfl rfl rfl rfl (by decide) (Yd.as rfl .c) ?_
    refine W.end ?_
    refine NX.sub (env' := [(6, _)]) ⟨rfl, trivial⟩ ?_
    refine NX.drop (l' := hcells fb0 [_] 22 :: hcells fb1 [_] 22 :: hcells fb2 [_, _, _] 27 :: hownT 28 1 encI uc2_0 _ :: hownT 65 2 Label.enc uc2_1 _ :: hownT 63 1 encU uc2_2 _ :: hcells fb3 [_] 25 :: hownT 63 1 encU uc3_0 _ :: l) (.cons _ (.cons_cons _ (.cons_cons _ (.cons_cons _ (.cons_cons _ (.cons_cons _ (.cons_cons _ (.cons_cons _ (.cons_cons _ (.refl _)))))))))) ?_
    refine NX.then ?_
    refine Tr.ret' (RT.block (RT.then ?_))
    refine res1 rfl rfl ?_
    intro w hc
    cases hr
    exact ⟨rfl, hc⟩
  · have hr := cond_f hb hr
    refine Tr.seq ?_
    refine Tr.region_f (fun _ => false) ?_
    refine W.q rfl rfl rfl rfl (by decide) (Yd.fldB rfl Try.underlying67 rfl SZ3 rfl (.t rfl)) ?_
    refine W.q rfl rfl rfl rfl (by decide) (Yd.ldB (pos := 0) rfl rfl rfl ON3 (.t rfl)) ?_
    refine W.q rfl rfl rfl rfl (by decide) (Yd.lss rfl (.t rfl) .c) ?_
    refine W.q rfl rfl rfl rfl (by decide) (Yd.mv rfl (.t rfl)) ?_
    refine W.g rfl rfl rfl rfl rfl (.t rfl _) rfl (by decide) (fun hG => Yd.fldB rfl Try.underlying67 rfl SZ3 rfl (.t rfl)) ?_
    refine W.g rfl rfl rfl rfl rfl (.t rfl _) rfl (by decide) (fun hG => Yd.ldB (pos := 0) rfl rfl rfl ON3 (.g rfl hG)) ?_
    refine W.g rfl rfl rfl rfl rfl (.t rfl _) rfl (by decide) (fun hG => Yd.ldB (pos := 1) rfl rfl rfl ON22 (.t rfl)) ?_
    refine W.g rfl rfl rfl rfl rfl (.t rfl _) rfl (by decide) (fun hG => Yd.lenR hc0_0 rfl Try.underlying22 (.g rfl hG)) ?_
    refine W.g rfl rfl rfl rfl rfl (.t rfl _) rfl (by decide) (fun hG => Yd.geq rfl (.g rfl hG) (.g rfl hG)) ?_
    refine W.q rfl rfl rfl rfl (by decide) (Yd.or rfl (.t rfl) .c rfl rfl) ?_
    refine W.q rfl rfl rfl rfl (by decide) (Yd.mv rfl (.t rfl)) ?_
    refine W.g rfl rfl rfl rfl rfl (.t rfl _) rfl (by decide) (fun hG => Yd.fldB rfl Try.underlying67 rfl SZ3 rfl (.t rfl)) ?_
    refine W.g rfl rfl rfl rfl rfl (.t rfl _) rfl (by decide) (fun hG => Yd.ldB (pos := 0) rfl rfl rfl ON3 (.g rfl hG)) ?_
    refine W.g rfl rfl rfl rfl rfl (.t rfl _) rfl (by decide) (fun hG => Yd.neq rfl (.g rfl hG) .c) ?_
    refine W.g rfl rfl rfl rfl rfl (.t rfl _) rfl (by decide) (fun hG => Yd.mv rfl (.g rfl hG)) ?_
    refine W.g rfl rfl rfl rfl rfl (.g rfl _) rfl (by decide) (fun hG => Yd.fldB rfl Try.underlying67 rfl SZ3 rfl (.t rfl)) ?_
    refine W.g rfl rfl rfl rfl rfl (.g rfl _) rfl (by decide) (fun hG => Yd.ldB (pos := 0) rfl rfl rfl ON3 (.g rfl hG)) ?_
    refine W.g rfl rfl rfl rfl rfl (.g rfl _) rfl (by decide) (fun hG => Yd.lss rfl (.g rfl hG) .c) ?_
    refine W.g rfl rfl rfl rfl rfl (.g rfl _) rfl (by decide) (fun hG => Yd.mv rfl (.g rfl hG)) ?_
    refine W.g rfl rfl rfl rfl rfl (.g rfl _) rfl (by decide) (fun hG => Yd.fldB rfl Try.underlying67 rfl SZ3 rfl (.t rfl)) ?_
    refine W.g rfl rfl rfl rfl rfl (.g rfl _) rfl (by decide) (fun hG => Yd.ldB (pos := 0) rfl rfl rfl ON3 (.g rfl hG)) ?_
    refine W.g rfl rfl rfl rfl rfl (.g rfl _) rfl (by decide) (fun hG => Yd.ldB (pos := 2) rfl rfl rfl ON22 (.t rfl)) ?_
    refine W.g rfl rfl rfl rfl rfl (.g rfl _) rfl (by decide) (fun hG => Yd.lenR hc1_0 rfl Try.underlying22 (.g rfl hG)) ?_
    refine W.g rfl rfl rfl rfl rfl (.g rfl _) rfl (by decide) (fun hG => Yd.geq rfl (.g rfl hG) (.g rfl hG)) ?_
    refine W.g rfl rfl rfl rfl rfl (.g rfl _) rfl (by decide) (fun hG => Yd.orG rfl (.g rfl hG) .c rfl rfl hG) ?_
    refine W.g rfl rfl rfl rfl rfl (.t rfl _) rfl (by decide) (fun hG => Yd.andG rfl (.g rfl hG) .c rfl rfl hG) ?_
    refine W.q rfl rfl rfl rfl (by decide) (Yd.or rfl (.t rfl) .c rfl rfl) ?_
    refine W.q rfl rfl rfl rfl (by decide) (Yd.as rfl (.t rfl)) ?_
    refine W.end ?_
    refine NX.sub (env' := [(1, _), (2, _), (3, _), (4, _), (5, _), (19, _)]) ⟨rfl, rfl, rfl, rfl, rfl, rfl, trivial⟩ ?_
    refine NX.then ?_
    refine Tr.cond (.t rfl) (fun hb => ?_) (fun hb => ?_)
    · have hr := cond_t hb hr
      refine Tr.seq ?_
      refine Tr.region_f (fun _ => false) ?_
      refine W.q rfl rfl rfl rfl (by decide) (Yd.as rfl .c) ?_
      refine W.end ?_
      refine NX.sub (env' := [(6, _)]) ⟨rfl, trivial⟩ ?_
      refine NX.drop (l' := hcells fb0 [_] 22 :: hcells fb1 [_] 22 :: hcells fb2 [_, _, _] 27 :: hownT 28 1 encI uc2_0 _ :: hownT 65 2 Label.enc uc2_1 _ :: hownT 63 1 encU uc2_2 _ :: hcells fb3 [_] 25 :: hownT 63 1 encU uc3_0 _ :: l) (.cons _ (.cons_cons _ (.cons_cons _ (.cons_cons _ (.cons_cons _ (.cons_cons _ (.cons_cons _ (.cons_cons _ (.cons_cons _ (.refl _)))))))))) ?_
      refine NX.then ?_
      refine Tr.ret' (RT.block (RT.then ?_))
      refine res1 rfl rfl ?_
      intro w hc
      cases hr
      exact ⟨rfl, hc⟩
    · have hr := cond_f hb hr
      refine Tr.seq ?_
      refine Tr.region_f (fun _ => false) ?_
      refine W.q rfl rfl rfl rfl (by decide) (Yd.fldB rfl Try.underlying67 rfl SZ3 rfl (.t rfl)) ?_
      refine W.q rfl rfl rfl rfl (by decide) (Yd.ldB (pos := 0) rfl rfl rfl ON3 (.t rfl)) ?_
      refine W.q rfl rfl rfl rfl (by decide) (Yd.eql rfl (.t rfl) .c) ?_
      refine W.q rfl rfl rfl rfl (by decide) (Yd.as rfl (.t rfl)) ?_
      refine W.end ?_
      refine NX.sub (env' := [(1, _), (2, _), (3, _), (4, _), (5, _), (47, _)]) ⟨rfl, rfl, rfl, rfl, rfl, rfl, trivial⟩ ?_
      refine NX.then ?_
      refine Tr.cond (.t rfl) (fun hb => ?_) (fun hb => ?_)
      · have hr := cond_t hb hr
        refine Tr.seq ?_
        obtain ⟨y3, hy4, hr⟩ := bind_some hr
        obtain ⟨y5, hy6, hr⟩ := bind_some hr
        refine Tr.region_xJ (fun x => Sle m x.m ∧ (∃ p : Nat, x.l[p]? = some (hcells fb3 [uc3_0] 25)) ∧ (∃ p : Nat, x.l[p]? = some (hcells b1 [.int .i64 d_0.kind, .int .i64 d_0.by_, .int .i64 d_0.to, .int .i64 d_0.label.level, .int .u32 (d_0.label.parts.toNat : Int), .int .i64 d_0.val] 67)) ∧ True) (fun _ _ hx h => by obtain ⟨hm, ⟨_, h0⟩, ⟨_, h1⟩, _⟩ := h; exact ⟨hm.trans hx.1, hx.at h0, hx.at h1, trivial⟩) (fun i => Nat.beq i 9) (fun i => Nat.beq i 4 || Nat.beq i 6) (fun i => Nat.beq i 9 || Nat.beq i 11) (fun i => Nat.beq i 4 || Nat.beq i 5 || Nat.beq i 6 || Nat.beq i 9 || Nat.beq i 11) (Ord.of [0, 1, 2, 3, 4, 5, 6, 7, 8, 9, 10, 11]) FM (by kernel_rfl) ?_
        refine W.q rfl rfl rfl rfl (by decide) (Yd.fldB rfl Try.underlying27 rfl SZ22 rfl (.t rfl)) ?_
        refine W.q rfl rfl rfl rfl (by decide) (Yd.ldB (pos := 3) rfl rfl rfl ON22 (.t rfl)) ?_
        refine W.q rfl rfl rfl rfl (by decide) (Yd.fldB rfl Try.underlying67 rfl SZ3 rfl (.t rfl)) ?_
        refine W.q rfl rfl rfl rfl (by decide) (Yd.ldB (pos := 0) rfl rfl rfl ON3 (.t rfl)) ?_
        refine W.pJ rfl rfl rfl rfl (by decide) (fun _ h => by obtain ⟨jhm, ⟨jp0, jhp0⟩, ⟨jp1, jhp1⟩, _⟩ := h; exact Yd.ldB (pos := jp0) jhp0 rfl rfl ON25 (.t rfl)) ⟨(.refl _), ⟨7, rfl⟩, ⟨0, rfl⟩, trivial⟩ rfl ?_
        refine W.p rfl rfl rfl rfl (by decide) (fun _ => Yd.fldB rfl Try.underlying67 rfl SZ3 rfl (.t rfl)) ?_
        refine W.pJ rfl rfl rfl rfl (by decide) (fun _ h => by obtain ⟨jhm, ⟨jp0, jhp0⟩, ⟨jp1, jhp1⟩, _⟩ := h; exact Yd.ldB (pos := jp1) jhp1 rfl rfl ON3 (.t rfl)) ⟨(.refl _), ⟨7, rfl⟩, ⟨0, rfl⟩, trivial⟩ rfl ?_
        refine W.q rfl rfl rfl rfl (by decide) (Yd.bld (cells := [.int .i64 ((0 : Int)), .int .u32 (((0#32)).toNat : Int)]) rfl ZI65 PL65 .nil rfl) ?_
        refine W.q rfl rfl rfl rfl (by decide) (Yd.idxT (pos := 5) rfl hy4 rfl Try.underlying22 SZ65 (.t rfl) (.t rfl)) ?_
        refine W.s rfl rfl rfl rfl (Ef.stT (enc := Label.enc) (n := 2) (pos := 5) (y := ({ level := (0 : Int), parts := (0#32) } : Label)) (us := [_, _]) (fun _ => rfl) rfl hy4 rfl (.t rfl) (.t rfl) SZ65 rfl rfl rfl (by decide)) ?_ (hJ := by rintro _ _ ⟨rfl, rfl⟩; exact fun _ => ⟨(.refl _), ⟨7, rfl⟩, ⟨0, rfl⟩, trivial⟩)
        rintro _ _ ⟨rfl, rfl⟩
        refine ⟨.inl rfl, ?_⟩
        refine W.cast (m' := m) (l' := hcells b1 [_, _, _, _, _, _] 67 :: hcells fb0 [_] 22 :: hcells fb1 [_] 22 :: hcells fb2 [_, _, _] 27 :: hownT 28 1 encI uc2_0 _ :: hownT 65 2 Label.enc uc2_1 _ :: hownT 63 1 encU uc2_2 _ :: hcells fb3 [_] 25 :: hownT 63 1 encU uc3_0 _ :: l) rfl rfl ?_
        refine W.q rfl rfl rfl rfl (by decide) (Yd.idxT (pos := 8) rfl hy6 rfl Try.underlying25 SZ63 (.t rfl) (.t rfl)) ?_
        refine W.s rfl rfl rfl rfl (Ef.stT (enc := encU) (n := 1) (pos := 8) (y := 0#32) (us := [_]) (fun _ => rfl) rfl hy6 rfl (.t rfl) .c SZ63 rfl rfl rfl (by decide)) ?_ (hJ := fun _ _ _ h => absurd (show false = true from h) (by decide))
        rintro _ _ ⟨rfl, rfl⟩
        refine ⟨.inl rfl, ?_⟩
        refine W.cast (m' := m) (l' := hcells b1 [_, _, _, _, _, _] 67 :: hcells fb0 [_] 22 :: hcells fb1 [_] 22 :: hcells fb2 [_, _, _] 27 :: hownT 28 1 encI uc2_0 _ :: hownT 65 2 Label.enc uc2_1 _ :: hownT 63 1 encU uc2_2 _ :: hcells fb3 [_] 25 :: hownT 63 1 encU uc3_0 _ :: l) rfl rfl ?_
        refine W.end ?_
        refine NX.sub (env' := []) trivial ?_
        refine NX.drop (l' := hcells fb0 [_] 22 :: hcells fb1 [_] 22 :: hcells fb2 [_, _, _] 27 :: hownT 28 1 encI uc2_0 _ :: hownT 65 2 Label.enc uc2_1 _ :: hownT 63 1 encU uc2_2 _ :: hcells fb3 [_] 25 :: hownT 63 1 encU uc3_0 _ :: l) (.cons _ (.cons_cons _ (.cons_cons _ (.cons_cons _ (.cons_cons _ (.cons_cons _ (.cons_cons _ (.cons_cons _ (.cons_cons _ (.refl _)))))))))) ?_
        refine NX.then ?_
        refine Tr.seq ?_
        refine Tr.region_f (fun _ => false) ?_
        refine W.q rfl rfl rfl rfl (by decide) (Yd.as rfl .c) ?_
        refine W.end ?_
        refine NX.sub (env' := [(6, _)]) ⟨rfl, trivial⟩ ?_
        refine NX.then ?_
        refine Tr.ret' (RT.block (RT.then ?_))
        refine res1 rfl rfl ?_
        intro w hc
        cases hr
        exact ⟨rfl, hc⟩
      · have hr := cond_f hb hr
        refine Tr.skip' ?_
        refine NX.block ?_
        refine NX.then ?_
        refine Tr.seq ?_
        obtain ⟨y7, hy8, hr⟩ := bind_some hr
        obtain ⟨y9, hy10, hr⟩ := bind_some hr
        refine Tr.region_x (fun i => Nat.beq i 10 || Nat.beq i 12) (fun i => Nat.beq i 12) (Ord.of [0, 1, 2, 3, 4, 5, 6, 7, 8, 9, 10, 11, 12]) FM (by kernel_rfl) ?_
        refine W.q rfl rfl rfl rfl (by decide) (Yd.fldB rfl Try.underlying27 rfl SZ22 rfl (.t rfl)) ?_
        refine W.q rfl rfl rfl rfl (by decide) (Yd.ldB (pos := 3) rfl rfl rfl ON22 (.t rfl)) ?_
        refine W.q rfl rfl rfl rfl (by decide) (Yd.fldB rfl Try.underlying67 rfl SZ3 rfl (.t rfl)) ?_
        refine W.q rfl rfl rfl rfl (by decide) (Yd.ldB (pos := 0) rfl rfl rfl ON3 (.t rfl)) ?_
        refine W.q rfl rfl rfl rfl (by decide) (Yd.idxT (pos := 5) rfl hy8 rfl Try.underlying22 SZ65 (.t rfl) (.t rfl)) ?_
        refine W.q rfl rfl rfl rfl (by decide) (Yd.ldB (pos := 2) rfl rfl rfl ON22 (.t rfl)) ?_
        refine W.q rfl rfl rfl rfl (by decide) (Yd.fldB rfl Try.underlying67 rfl SZ3 rfl (.t rfl)) ?_
        refine W.q rfl rfl rfl rfl (by decide) (Yd.ldB (pos := 0) rfl rfl rfl ON3 (.t rfl)) ?_
        refine W.q rfl rfl rfl rfl (by decide) (Yd.idxR hc1_0 hy10 rfl Try.underlying22 SZ65 (.t rfl) (.t rfl)) ?_
        refine W.q rfl rfl rfl rfl (by decide) (Yd.ldFs (us := [_, _]) hc1_0 (.refl _) hy10 rfl rfl ON65 US65 SZ65 (.t rfl)) ?_
        refine W.e rfl rfl rfl rfl (by decide) (Ef.al rfl ZR65 rfl) ?_
        rintro _ _ ⟨b11, rfl, rfl⟩
        refine ⟨.inr ⟨.refl _, [_], rfl⟩, ?_⟩
        refine W.cast (m' := m) (l' := hcells b11 [_, _] 65 :: hcells b1 [_, _, _, _, _, _] 67 :: hcells fb0 [_] 22 :: hcells fb1 [_] 22 :: hcells fb2 [_, _, _] 27 :: hownT 28 1 encI uc2_0 _ :: hownT 65 2 Label.enc uc2_1 _ :: hownT 63 1 encU uc2_2 _ :: hcells fb3 [_] 25 :: hownT 63 1 encU uc3_0 _ :: l) rfl rfl ?_
        refine W.q rfl rfl rfl rfl (by decide) (Yd.as rfl (.t rfl)) ?_
        refine W.s rfl rfl rfl rfl (Ef.stB (pos := 0) (us := [_, _]) (cs' := [_, _]) rfl rfl (.t rfl) (.t rfl) SZ65 rfl rfl rfl (Nat.le_of_ble_eq_true rfl) rfl) ?_
        rintro _ _ ⟨rfl, rfl⟩
        refine ⟨.inl rfl, ?_⟩
        refine W.cast (m' := m) (l' := hcells b11 [_, _] 65 :: hcells b1 [_, _, _, _, _, _] 67 :: hcells fb0 [_] 22 :: hcells fb1 [_] 22 :: hcells fb2 [_, _, _] 27 :: hownT 28 1 encI uc2_0 _ :: hownT 65 2 Label.enc uc2_1 _ :: hownT 63 1 encU uc2_2 _ :: hcells fb3 [_] 25 :: hownT 63 1 encU uc3_0 _ :: l) rfl rfl ?_
        refine W.end ?_
        refine NX.sub (env' := [(1, _), (3, _), (4, _), (5, _), (8, _), (7, _)]) ⟨rfl, rfl, rfl, rfl, rfl, rfl, trivial⟩ ?_
        refine NX.then ?_
        refine Tr.seq ?_
        refine Tr.seq ?_
        refine Tr.region_f (fun _ => false) ?_
        refine W.q rfl rfl rfl rfl (by decide) (Yd.fldB rfl Try.underlying67 rfl SZ3 rfl (.t rfl)) ?_
        refine W.q rfl rfl rfl rfl (by decide) (Yd.ldB (pos := 1) rfl rfl rfl ON3 (.t rfl)) ?_
        refine W.q rfl rfl rfl rfl (by decide) (Yd.eql rfl (.t rfl) .c) ?_
        refine W.end ?_
        refine NX.sub (env' := [(1, _), (3, _), (4, _), (5, _), (8, _), (7, _), (73, _)]) ⟨rfl, rfl, rfl, rfl, rfl, rfl, rfl, trivial⟩ ?_
        refine NX.then ?_
        refine Tr.cond (.t rfl) (fun hb => ?_) (fun hb => ?_)
        · have hr := cond_t hb hr
          refine Tr.seq ?_
          refine Tr.seq ?_
          obtain ⟨y13, hy14, hr⟩ := bind_some hr
          obtain ⟨r15, hr16, hr⟩ := bind_some hr
          refine Tr.region_x (fun _ => false) (fun _ => false) (Ord.of [0, 1, 2, 3, 4, 5]) FM (by kernel_rfl) ?_
          refine W.q rfl rfl rfl rfl (by decide) (Yd.mv rfl (.t rfl)) ?_
          refine W.q rfl rfl rfl rfl (by decide) (Yd.nilA (pos := 6) (xs := cp_2.marks) rfl hy14 rfl (.t rfl)) ?_
          refine W.q rfl rfl rfl rfl (by decide) (Yd.ldTs (enc := Label.enc) (n := 2) (pos := 6) (us := [_, _]) (fun _ => rfl) rfl hy14 rfl (by decide) rfl ON65 US65 SZ65 (.t rfl)) ?_
          refine W.q rfl rfl rfl rfl (by decide) (Yd.ldBs (pos := 0) (us := [_, _]) rfl rfl rfl rfl ON65 US65 SZ65 (.t rfl)) ?_
          refine W.q rfl rfl rfl rfl (by decide) (Yd.call (v := .bool r15) rfl Try.func33 rfl rfl (.cons (.t rfl) (.cons (.t rfl) .nil)) (fun x' hx w hw => label_Least_ok w0 x'.m x'.l y13 (({ level := y9.level, parts := y9.parts } : Label)) _ hr16 w hw)) ?_
          refine W.q rfl rfl rfl rfl (by decide) (Yd.not rfl (.t rfl)) ?_
          refine W.end ?_
          refine NX.sub (env' := [(3, _), (4, _), (5, _), (79, _)]) ⟨rfl, rfl, rfl, rfl, trivial⟩ ?_
          refine NX.drop (l' := hcells b1 [_, _, _, _, _, _] 67 :: hcells fb0 [_] 22 :: hcells fb1 [_] 22 :: hcells fb2 [_, _, _] 27 :: hownT 28 1 encI uc2_0 _ :: hownT 65 2 Label.enc uc2_1 _ :: hownT 63 1 encU uc2_2 _ :: hcells fb3 [_] 25 :: hownT 63 1 encU uc3_0 _ :: l) (.cons _ (.cons_cons _ (.cons_cons _ (.cons_cons _ (.cons_cons _ (.cons_cons _ (.cons_cons _ (.cons_cons _ (.cons_cons _ (.cons_cons _ (.refl _))))))))))) ?_
          refine NX.then ?_
          refine Tr.cond (.t rfl) (fun hb => ?_) (fun hb => ?_)
          · have hr := cond_t hb hr
            refine Tr.seq ?_
            refine Tr.region_f (fun _ => false) ?_
            refine W.q rfl rfl rfl rfl (by decide) (Yd.as rfl .c) ?_
            refine W.end ?_
            refine NX.sub (env' := [(6, _)]) ⟨rfl, trivial⟩ ?_
            refine NX.drop (l' := hcells fb0 [_] 22 :: hcells fb1 [_] 22 :: hcells fb2 [_, _, _] 27 :: hownT 28 1 encI uc2_0 _ :: hownT 65 2 Label.enc uc2_1 _ :: hownT 63 1 encU uc2_2 _ :: hcells fb3 [_] 25 :: hownT 63 1 encU uc3_0 _ :: l) (.cons _ (.cons_cons _ (.cons_cons _ (.cons_cons _ (.cons_cons _ (.cons_cons _ (.cons_cons _ (.cons_cons _ (.cons_cons _ (.refl _)))))))))) ?_
            refine NX.then ?_
            refine Tr.ret' (RT.then (RT.then ?_))
            refine res1 rfl rfl ?_
            intro w hc
            cases hr
            exact ⟨rfl, hc⟩
          · have hr := cond_f hb hr
            refine Tr.skip' ?_
            refine NX.then ?_
            refine Tr.seq ?_
            obtain ⟨y17, hy18, hr⟩ := bind_some hr
            obtain ⟨y19, hy20, hr⟩ := bind_some hr
            refine Tr.region_x (fun i => Nat.beq i 13) (fun i => Nat.beq i 13) (Ord.of [0, 1, 2, 3, 4, 5, 6, 7, 8, 9, 10, 11, 12, 13]) FM (by kernel_rfl) ?_
            refine W.q rfl rfl rfl rfl (by decide) (Yd.fldB rfl Try.underlying27 rfl SZ25 rfl (.t rfl)) ?_
            refine W.q rfl rfl rfl rfl (by decide) (Yd.ldB (pos := 3) rfl rfl rfl ON25 (.t rfl)) ?_
            refine W.q rfl rfl rfl rfl (by decide) (Yd.fldB rfl Try.underlying67 rfl SZ3 rfl (.t rfl)) ?_
            refine W.q rfl rfl rfl rfl (by decide) (Yd.ldB (pos := 0) rfl rfl rfl ON3 (.t rfl)) ?_
            refine W.q rfl rfl rfl rfl (by decide) (Yd.idxT (pos := 6) rfl hy18 rfl Try.underlying25 SZ63 (.t rfl) (.t rfl)) ?_
            refine W.q rfl rfl rfl rfl (by decide) (Yd.ldT (enc := encU) (n := 1) (pos := 6) (fun _ => rfl) rfl hy18 rfl rfl ON63 (.t rfl)) ?_
            refine W.q rfl rfl rfl rfl (by decide) (Yd.ldB (pos := 7) rfl rfl rfl ON25 (.t rfl)) ?_
            refine W.q rfl rfl rfl rfl (by decide) (Yd.fldB rfl Try.underlying67 rfl SZ3 rfl (.t rfl)) ?_
            refine W.q rfl rfl rfl rfl (by decide) (Yd.ldB (pos := 0) rfl rfl rfl ON3 (.t rfl)) ?_
            refine W.q rfl rfl rfl rfl (by decide) (Yd.idxT (pos := 8) rfl hy20 rfl Try.underlying25 SZ63 (.t rfl) (.t rfl)) ?_
            refine W.q rfl rfl rfl rfl (by decide) (Yd.ldT (enc := encU) (n := 1) (pos := 8) (fun _ => rfl) rfl hy20 rfl rfl ON63 (.t rfl)) ?_
            refine W.q rfl rfl rfl rfl (by decide) (Yd.orU (a := y17) (b := y19) rfl (.t rfl) (.t rfl)) ?_
            refine W.q rfl rfl rfl rfl (by decide) (Yd.idxT (pos := 6) rfl hy18 rfl Try.underlying25 SZ63 (.t rfl) (.t rfl)) ?_
            refine W.s rfl rfl rfl rfl (Ef.stT (enc := encU) (n := 1) (pos := 6) (y := (y17 ||| y19)) (us := [_]) (fun _ => rfl) rfl hy18 rfl (.t rfl) (.t rfl) SZ63 rfl rfl rfl (by decide)) ?_
            rintro _ _ ⟨rfl, rfl⟩
            refine ⟨.inl rfl, ?_⟩
            refine W.cast (m' := m) (l' := hcells b1 [_, _, _, _, _, _] 67 :: hcells fb0 [_] 22 :: hcells fb1 [_] 22 :: hcells fb2 [_, _, _] 27 :: hownT 28 1 encI uc2_0 _ :: hownT 65 2 Label.enc uc2_1 _ :: hownT 63 1 encU uc2_2 _ :: hcells fb3 [_] 25 :: hownT 63 1 encU uc3_0 _ :: l) rfl rfl ?_
            refine W.end ?_
            refine NX.sub (env' := []) trivial ?_
            refine NX.drop (l' := hcells fb0 [_] 22 :: hcells fb1 [_] 22 :: hcells fb2 [_, _, _] 27 :: hownT 28 1 encI uc2_0 _ :: hownT 65 2 Label.enc uc2_1 _ :: hownT 63 1 encU uc2_2 _ :: hcells fb3 [_] 25 :: hownT 63 1 encU uc3_0 _ :: l) (.cons _ (.cons_cons _ (.cons_cons _ (.cons_cons _ (.cons_cons _ (.cons_cons _ (.cons_cons _ (.cons_cons _ (.cons_cons _ (.refl _)))))))))) ?_
            refine NX.then ?_
            refine Tr.seq ?_
            refine Tr.region_f (fun _ => false) ?_
            refine W.q rfl rfl rfl rfl (by decide) (Yd.as rfl .c) ?_
            refine W.end ?_
            refine NX.sub (env' := [(6, _)]) ⟨rfl, trivial⟩ ?_
            refine NX.then ?_
            refine Tr.ret' (RT.then ?_)
            refine res1 rfl rfl ?_
            intro w hc
            cases hr
            exact ⟨rfl, hc⟩
        · have hr := cond_f hb hr
          refine Tr.skip' ?_
          refine NX.then ?_
          refine Tr.seq ?_
          obtain ⟨y21, hy22, hr⟩ := bind_some hr
          obtain ⟨r23, hr24, hr⟩ := bind_some hr
          refine Tr.region_x (fun i => Nat.beq i 5 || Nat.beq i 6) (fun i => Nat.beq i 6) (Ord.of [0, 1, 2, 3, 4, 5, 6]) FM (by kernel_rfl) ?_
          refine W.q rfl rfl rfl rfl (by decide) (Yd.mv rfl (.t rfl)) ?_
          refine W.q rfl rfl rfl rfl (by decide) (Yd.nilA (pos := 6) (xs := cp_2.marks) rfl hy22 rfl (.t rfl)) ?_
          refine W.q rfl rfl rfl rfl (by decide) (Yd.ldTs (enc := Label.enc) (n := 2) (pos := 6) (us := [_, _]) (fun _ => rfl) rfl hy22 rfl (by decide) rfl ON65 US65 SZ65 (.t rfl)) ?_
          refine W.q rfl rfl rfl rfl (by decide) (Yd.ldBs (pos := 0) (us := [_, _]) rfl rfl rfl rfl ON65 US65 SZ65 (.t rfl)) ?_
          refine W.q rfl rfl rfl rfl (by decide) (Yd.call (v := .agg #[.int .i64 r23.level, .int .u32 (r23.parts.toNat : Int)]) rfl Try.func34 rfl rfl (.cons (.t rfl) (.cons (.t rfl) .nil)) (fun x' hx w hw => label_All_ok w0 x'.m x'.l y21 (({ level := y9.level, parts := y9.parts } : Label)) _ hr24 w hw)) ?_
          refine W.e rfl rfl rfl rfl (by decide) (Ef.al rfl ZR65 rfl) ?_
          rintro _ _ ⟨b25, rfl, rfl⟩
          refine ⟨.inr ⟨.refl _, [_], rfl⟩, ?_⟩
          refine W.cast (m' := m) (l' := hcells b25 [_, _] 65 :: hcells b11 [_, _] 65 :: hcells b1 [_, _, _, _, _, _] 67 :: hcells fb0 [_] 22 :: hcells fb1 [_] 22 :: hcells fb2 [_, _, _] 27 :: hownT 28 1 encI uc2_0 _ :: hownT 65 2 Label.enc uc2_1 _ :: hownT 63 1 encU uc2_2 _ :: hcells fb3 [_] 25 :: hownT 63 1 encU uc3_0 _ :: l) rfl rfl ?_
          refine W.s rfl rfl rfl rfl (Ef.stB (pos := 0) (us := [_, _]) (cs' := [_, _]) rfl rfl (.t rfl) (.t rfl) SZ65 rfl rfl rfl (Nat.le_of_ble_eq_true rfl) rfl) ?_
          rintro _ _ ⟨rfl, rfl⟩
          refine ⟨.inl rfl, ?_⟩
          refine W.cast (m' := m) (l' := hcells b25 [_, _] 65 :: hcells b11 [_, _] 65 :: hcells b1 [_, _, _, _, _, _] 67 :: hcells fb0 [_] 22 :: hcells fb1 [_] 22 :: hcells fb2 [_, _, _] 27 :: hownT 28 1 encI uc2_0 _ :: hownT 65 2 Label.enc uc2_1 _ :: hownT 63 1 encU uc2_2 _ :: hcells fb3 [_] 25 :: hownT 63 1 encU uc3_0 _ :: l) rfl rfl ?_
          refine W.end ?_
          refine NX.sub (env' := [(1, _), (3, _), (4, _), (5, _), (7, _), (9, _)]) ⟨rfl, rfl, rfl, rfl, rfl, rfl, trivial⟩ ?_
          refine NX.drop (l' := hcells b25 [_, _] 65 :: hcells b1 [_, _, _, _, _, _] 67 :: hcells fb0 [_] 22 :: hcells fb1 [_] 22 :: hcells fb2 [_, _, _] 27 :: hownT 28 1 encI uc2_0 _ :: hownT 65 2 Label.enc uc2_1 _ :: hownT 63 1 encU uc2_2 _ :: hcells fb3 [_] 25 :: hownT 63 1 encU uc3_0 _ :: l) (.cons_cons _ (.cons _ (.cons_cons _ (.cons_cons _ (.cons_cons _ (.cons_cons _ (.cons_cons _ (.cons_cons _ (.cons_cons _ (.cons_cons _ (.cons_cons _ (.refl _)))))))))))) ?_
          refine NX.then ?_
          refine Tr.seq ?_
          refine Tr.seq ?_
          obtain ⟨y27, hy28, hr⟩ := bind_some hr
          obtain ⟨r29, hr30, hr⟩ := bind_some hr
          refine Tr.region_x (fun _ => false) (fun _ => false) (Ord.of [0, 1, 2, 3, 4, 5, 6, 7]) FM (by kernel_rfl) ?_
          refine W.q rfl rfl rfl rfl (by decide) (Yd.ldBs (pos := 0) (us := [_, _]) rfl rfl rfl rfl ON65 US65 SZ65 (.t rfl)) ?_
          refine W.q rfl rfl rfl rfl (by decide) (Yd.ldB (pos := 2) rfl rfl rfl ON22 (.t rfl)) ?_
          refine W.q rfl rfl rfl rfl (by decide) (Yd.fldB rfl Try.underlying67 rfl SZ3 rfl (.t rfl)) ?_
          refine W.q rfl rfl rfl rfl (by decide) (Yd.ldB (pos := 1) rfl rfl rfl ON3 (.t rfl)) ?_
          refine W.q rfl rfl rfl rfl (by decide) (Yd.idxR hc0_0 hy28 rfl Try.underlying22 SZ65 (.t rfl) (.t rfl)) ?_
          refine W.q rfl rfl rfl rfl (by decide) (Yd.ldFs (us := [_, _]) hc0_0 (.refl _) hy28 rfl rfl ON65 US65 SZ65 (.t rfl)) ?_
          refine W.q rfl rfl rfl rfl (by decide) (Yd.call (v := .bool r29) rfl Try.func33 rfl rfl (.cons (.t rfl) (.cons (.t rfl) .nil)) (fun x' hx w hw => label_Least_ok w0 x'.m x'.l (({ level := r23.level, parts := r23.parts } : Label)) y27 _ hr30 w hw)) ?_
          refine W.q rfl rfl rfl rfl (by decide) (Yd.not rfl (.t rfl)) ?_
          refine W.end ?_
          refine NX.sub (env' := [(3, _), (4, _), (5, _), (7, _), (9, _), (105, _)]) ⟨rfl, rfl, rfl, rfl, rfl, rfl, trivial⟩ ?_
          refine NX.then ?_
          refine Tr.cond (.t rfl) (fun hb => ?_) (fun hb => ?_)
          · have hr := cond_t hb hr
            refine Tr.seq ?_
            refine Tr.region_f (fun _ => false) ?_
            refine W.q rfl rfl rfl rfl (by decide) (Yd.as rfl .c) ?_
            refine W.end ?_
            refine NX.sub (env' := [(6, _)]) ⟨rfl, trivial⟩ ?_
            refine NX.drop (l' := hcells fb0 [_] 22 :: hcells fb1 [_] 22 :: hcells fb2 [_, _, _] 27 :: hownT 28 1 encI uc2_0 _ :: hownT 65 2 Label.enc uc2_1 _ :: hownT 63 1 encU uc2_2 _ :: hcells fb3 [_] 25 :: hownT 63 1 encU uc3_0 _ :: l) (.cons _ (.cons _ (.cons_cons _ (.cons_cons _ (.cons_cons _ (.cons_cons _ (.cons_cons _ (.cons_cons _ (.cons_cons _ (.cons_cons _ (.refl _))))))))))) ?_
            refine NX.then ?_
            refine Tr.ret' (RT.then ?_)
            refine res1 rfl rfl ?_
            intro w hc
            cases hr
            exact ⟨rfl, hc⟩
          · have hr := cond_f hb hr
            refine Tr.skip' ?_
            refine NX.then ?_
            refine Tr.seq ?_
            obtain ⟨y31, hy32, hr⟩ := bind_some hr
            refine Tr.region_f (fun i => Nat.beq i 3) ?_
            refine W.q rfl rfl rfl rfl (by decide) (Yd.mv rfl (.t rfl)) ?_
            refine W.q rfl rfl rfl rfl (by decide) (Yd.ldBs (pos := 0) (us := [_, _]) rfl rfl rfl rfl ON65 US65 SZ65 (.t rfl)) ?_
            refine W.q rfl rfl rfl rfl (by decide) (Yd.nilA (pos := 6) (xs := cp_2.marks) rfl hy32 rfl (.t rfl)) ?_
            refine W.s rfl rfl rfl rfl (Ef.stT (enc := Label.enc) (n := 2) (pos := 6) (y := ({ level := r23.level, parts := r23.parts } : Label)) (us := [_, _]) (fun _ => rfl) rfl hy32 rfl (.t rfl) (.t rfl) SZ65 rfl rfl rfl (by decide)) ?_
            rintro _ _ ⟨rfl, rfl⟩
            refine ⟨.inl rfl, ?_⟩
            refine W.cast (m' := m) (l' := hcells b25 [_, _] 65 :: hcells b1 [_, _, _, _, _, _] 67 :: hcells fb0 [_] 22 :: hcells fb1 [_] 22 :: hcells fb2 [_, _, _] 27 :: hownT 28 1 encI uc2_0 _ :: hownT 65 2 Label.enc uc2_1 _ :: hownT 63 1 encU uc2_2 _ :: hcells fb3 [_] 25 :: hownT 63 1 encU uc3_0 _ :: l) rfl rfl ?_
            refine W.end ?_
            refine NX.sub (env' := [(3, _), (4, _), (5, _)]) ⟨rfl, rfl, rfl, trivial⟩ ?_
            refine NX.drop (l' := hcells b1 [_, _, _, _, _, _] 67 :: hcells fb0 [_] 22 :: hcells fb1 [_] 22 :: hcells fb2 [_, _, _] 27 :: hownT 28 1 encI uc2_0 _ :: hownT 65 2 Label.enc uc2_1 _ :: hownT 63 1 encU uc2_2 _ :: hcells fb3 [_] 25 :: hownT 63 1 encU uc3_0 _ :: l) (.cons _ (.cons_cons _ (.cons_cons _ (.cons_cons _ (.cons_cons _ (.cons_cons _ (.cons_cons _ (.cons_cons _ (.cons_cons _ (.cons_cons _ (.refl _))))))))))) ?_
            refine NX.then ?_
            refine Tr.seq ?_
            obtain ⟨y33, hy34, hr⟩ := bind_some hr
            obtain ⟨y35, hy36, hr⟩ := bind_some hr
            refine Tr.region_x (fun i => Nat.beq i 13) (fun i => Nat.beq i 13) (Ord.of [0, 1, 2, 3, 4, 5, 6, 7, 8, 9, 10, 11, 12, 13]) FM (by kernel_rfl) ?_
            refine W.q rfl rfl rfl rfl (by decide) (Yd.ldB (pos := 7) rfl rfl rfl ON25 (.t rfl)) ?_
            refine W.q rfl rfl rfl rfl (by decide) (Yd.fldB rfl Try.underlying67 rfl SZ3 rfl (.t rfl)) ?_
            refine W.q rfl rfl rfl rfl (by decide) (Yd.ldB (pos := 0) rfl rfl rfl ON3 (.t rfl)) ?_
            refine W.q rfl rfl rfl rfl (by decide) (Yd.idxT (pos := 8) rfl hy34 rfl Try.underlying25 SZ63 (.t rfl) (.t rfl)) ?_
            refine W.q rfl rfl rfl rfl (by decide) (Yd.ldT (enc := encU) (n := 1) (pos := 8) (fun _ => rfl) rfl hy34 rfl rfl ON63 (.t rfl)) ?_
            refine W.q rfl rfl rfl rfl (by decide) (Yd.fldB rfl Try.underlying27 rfl SZ25 rfl (.t rfl)) ?_
            refine W.q rfl rfl rfl rfl (by decide) (Yd.ldB (pos := 3) rfl rfl rfl ON25 (.t rfl)) ?_
            refine W.q rfl rfl rfl rfl (by decide) (Yd.fldB rfl Try.underlying67 rfl SZ3 rfl (.t rfl)) ?_
            refine W.q rfl rfl rfl rfl (by decide) (Yd.ldB (pos := 0) rfl rfl rfl ON3 (.t rfl)) ?_
            refine W.q rfl rfl rfl rfl (by decide) (Yd.idxT (pos := 6) rfl hy36 rfl Try.underlying25 SZ63 (.t rfl) (.t rfl)) ?_
            refine W.q rfl rfl rfl rfl (by decide) (Yd.ldT (enc := encU) (n := 1) (pos := 6) (fun _ => rfl) rfl hy36 rfl rfl ON63 (.t rfl)) ?_
            refine W.q rfl rfl rfl rfl (by decide) (Yd.orU (a := y33) (b := y35) rfl (.t rfl) (.t rfl)) ?_
            refine W.q rfl rfl rfl rfl (by decide) (Yd.idxT (pos := 8) rfl hy34 rfl Try.underlying25 SZ63 (.t rfl) (.t rfl)) ?_
            refine W.s rfl rfl rfl rfl (Ef.stT (enc := encU) (n := 1) (pos := 8) (y := (y33 ||| y35)) (us := [_]) (fun _ => rfl) rfl hy34 rfl (.t rfl) (.t rfl) SZ63 rfl rfl rfl (by decide)) ?_
            rintro _ _ ⟨rfl, rfl⟩
            refine ⟨.inl rfl, ?_⟩
            refine W.cast (m' := m) (l' := hcells b1 [_, _, _, _, _, _] 67 :: hcells fb0 [_] 22 :: hcells fb1 [_] 22 :: hcells fb2 [_, _, _] 27 :: hownT 28 1 encI uc2_0 _ :: hownT 65 2 Label.enc uc2_1 _ :: hownT 63 1 encU uc2_2 _ :: hcells fb3 [_] 25 :: hownT 63 1 encU uc3_0 _ :: l) rfl rfl ?_
            refine W.end ?_
            refine NX.sub (env' := []) trivial ?_
            refine NX.drop (l' := hcells fb0 [_] 22 :: hcells fb1 [_] 22 :: hcells fb2 [_, _, _] 27 :: hownT 28 1 encI uc2_0 _ :: hownT 65 2 Label.enc uc2_1 _ :: hownT 63 1 encU uc2_2 _ :: hcells fb3 [_] 25 :: hownT 63 1 encU uc3_0 _ :: l) (.cons _ (.cons_cons _ (.cons_cons _ (.cons_cons _ (.cons_cons _ (.cons_cons _ (.cons_cons _ (.cons_cons _ (.cons_cons _ (.refl _)))))))))) ?_
            refine NX.then ?_
            refine Tr.seq ?_
            refine Tr.region_f (fun _ => false) ?_
            refine W.q rfl rfl rfl rfl (by decide) (Yd.as rfl .c) ?_
            refine W.end ?_
            refine NX.sub (env' := [(6, _)]) ⟨rfl, trivial⟩ ?_
            refine NX.then ?_
            refine Tr.ret' ?_
            refine res1 rfl rfl ?_
            intro w hc
            cases hr
            exact ⟨rfl, hc⟩

def mark_Play_k492 (l486 : List (BitVec 32)) (l488 : List Label) (l490 : List Int) : Option (Marked × Int) :=
  some ((({ codes := l490, marks := l488, src := l486 } : Marked), (0 : Int)))

def mark_Play_b502 (clear_0 : List Label) (things_1 : List Label) (script_2 : List Deed) (t_501 : Int) (l476 : List (BitVec 32)) (l478 : List (BitVec 32)) (l480 : List Label) (l482 : List Int) (nx503 : ((List (BitVec 32)) × (List (BitVec 32)) × (List Label) × (List Int)) → Option (Marked × Int)) : Option (Marked × Int) :=
  (geti script_2 t_501).bind fun y505 =>
  (mark_Play_c1 (({ kind := y505.kind, by_ := y505.by_, to := y505.to, label := ({ level := y505.label.level, parts := y505.label.parts } : Label), val := y505.val } : Deed)) clear_0 things_1 (({ codes := l482, marks := l480, src := l478 } : T27)) l476).bind fun r509 =>
  bif decide (r509.2.1.codes.length + (([r509.1] : List Int)).length ≤ 17592186044416) then
  nx503 (r509.2.2, r509.2.1.src, r509.2.1.marks, (r509.2.1.codes ++ ([r509.1] : List Int))) else none

def mark_Play_k459 (clear_0 : List Label) (things_1 : List Label) (script_2 : List Deed) (l457 : List (BitVec 32)) : Option (Marked × Int) :=
  bif decide (0 ≤ (clear_0.length : Int) ∧ (clear_0.length : Int) ≤ 1048576) then
  forK (σ := (List (BitVec 32)) × (List (BitVec 32)) × (List Label) × (List Int)) (fun i s nx_ => mark_Play_b502 clear_0 things_1 script_2 i s.1 s.2.1 s.2.2.1 s.2.2.2 nx_) (fun s => mark_Play_k492 s.2.1 s.2.2.1 s.2.2.2) ((script_2.length : Int) - (0 : Int)).toNat (0 : Int) (((List.replicate ((clear_0.length : Int)).toNat (0#32))), l457, ((List.replicate ((clear_0.length : Int)).toNat ({ level := (0 : Int), parts := (0#32) } : Label))), (([] : List Int))) else none

def mark_Play_b520 (t_519 : Int) (l455 : List (BitVec 32)) (nx521 : (List (BitVec 32)) → Option (Marked × Int)) : Option (Marked × Int) :=
  (geti l455 t_519).bind fun y523 =>
  nx521 (l455.set t_519.toNat ((1#32 <<< t_519.toNat)))

def mark_Play (clear_0 : List Label) (things_1 : List Label) (script_2 : List Deed) : Option (Marked × Int) :=
  (mark_Wrong clear_0 things_1 ((script_2.length : Int))).bind fun r10 =>
  (bif (r10 != (0 : Int)) then
  some ((({ codes := ([] : List Int), marks := ([] : List Label), src := ([] : List (BitVec 32)) } : Marked), r10))
  else
  bif decide (0 ≤ (clear_0.length : Int) ∧ (clear_0.length : Int) ≤ 1048576) then
  bif decide (0 ≤ (things_1.length : Int) ∧ (things_1.length : Int) ≤ 1048576) then
  bif decide ((things_1.length : Int) ≤ 9223372036854775807) then
  forK (σ := (List (BitVec 32))) (fun i s nx_ => mark_Play_b520 i s nx_) (fun s => mark_Play_k459 clear_0 things_1 script_2 s) ((things_1.length : Int) - (0 : Int)).toNat (0 : Int) ((List.replicate ((things_1.length : Int)).toNat (0#32))) else none else none else none)

set_option maxRecDepth 100000 in
set_option maxHeartbeats 4000000 in
theorem mark_Play_ok (w0 : World) (m : Snap) (l : List HI) (uclear_0 : Value) (clear_0 : List Label) (hclear_0 : RS rLabel m uclear_0 clear_0) (uthings_1 : Value) (things_1 : List Label) (hthings_1 : RS rLabel m uthings_1 things_1) (uscript_2 : Value) (script_2 : List Deed) (hscript_2 : RS rDeed m uscript_2 script_2) (r : Marked × Int) (hr : mark_Play clear_0 things_1 script_2 = some r) (w : World) (hc : cX w0 ⟨m, l⟩ w) :
    Calls Try.prog 10 [uclear_0, uthings_1, uscript_2].toArray w fun e w' => ∃ z0 : Value, ∃ z1 : Value, ∃ z2 : Value, ∃ m1 : Snap, e = .returned (.tuple #[.agg #[z0, z1, z2], .int .i64 r.2]) ∧ Sle m m1 ∧ RS rI m1 z0 r.1.codes ∧ RS rLabel m1 z1 r.1.marks ∧ RS rU m1 z2 r.1.src ∧ cX w0 ⟨m1, l⟩ w' := by
  unfold mark_Play at hr
  refine calls_of_Tr (N := 63) Try.func10 rfl hc rfl (Nat.le_of_ble_eq_true rfl) ?_
  refine Tr.seq ?_
  refine Tr.addnil 28 1 ?_
  refine Tr.cast (m' := m) (l' := hownT 28 1 encI (.slice none 0 0) (([] : List Int)) :: l) rfl rfl ?_
  refine Tr.addnil 65 2 ?_
  refine Tr.cast (m' := m) (l' := hownT 65 2 Label.enc (.slice none 0 0) (([] : List Label)) :: hownT 28 1 encI (.slice none 0 0) (([] : List Int)) :: l) rfl rfl ?_
  refine Tr.addnil 63 1 ?_
  refine Tr.cast (m' := m) (l' := hownT 63 1 encU (.slice none 0 0) (([] : List (BitVec 32))) :: hownT 65 2 Label.enc (.slice none 0 0) (([] : List Label)) :: hownT 28 1 encI (.slice none 0 0) (([] : List Int)) :: l) rfl rfl ?_
  refine Tr.region_f (fun i => Nat.beq i 0 || Nat.beq i 1 || Nat.beq i 2) ?_
  refine W.e rfl rfl rfl rfl (by decide) (Ef.bx (us := [uclear_0]) rfl (.t rfl) (RS.cells hclear_0)) ?_
  rintro _ _ ⟨b4, rfl, rfl⟩
  refine ⟨.inl rfl, ?_⟩
  refine W.cast (m' := m) (l' := hcells b4 [_] 22 :: hownT 63 1 encU (.slice none 0 0) (([] : List (BitVec 32))) :: hownT 65 2 Label.enc (.slice none 0 0) (([] : List Label)) :: hownT 28 1 encI (.slice none 0 0) (([] : List Int)) :: l) rfl rfl ?_
  refine W.e rfl rfl rfl rfl (by decide) (Ef.bx (us := [uthings_1]) rfl (.t rfl) (RS.cells hthings_1)) ?_
  rintro _ _ ⟨b6, rfl, rfl⟩
  refine ⟨.inl rfl, ?_⟩
  refine W.cast (m' := m) (l' := hcells b6 [_] 22 :: hcells b4 [_] 22 :: hownT 63 1 encU (.slice none 0 0) (([] : List (BitVec 32))) :: hownT 65 2 Label.enc (.slice none 0 0) (([] : List Label)) :: hownT 28 1 encI (.slice none 0 0) (([] : List Int)) :: l) rfl rfl ?_
  refine W.e rfl rfl rfl rfl (by decide) (Ef.al rfl ZR27 rfl) ?_
  rintro _ _ ⟨b8, rfl, rfl⟩
  refine ⟨.inl rfl, ?_⟩
  refine W.cast (m' := m) (l' := hcells b8 [_, _, _] 27 :: hcells b6 [_] 22 :: hcells b4 [_] 22 :: hownT 63 1 encU (.slice none 0 0) (([] : List (BitVec 32))) :: hownT 65 2 Label.enc (.slice none 0 0) (([] : List Label)) :: hownT 28 1 encI (.slice none 0 0) (([] : List Int)) :: l) rfl rfl ?_
  refine W.q rfl rfl rfl rfl (by decide) (Yd.as rfl .c) ?_
  refine W.end ?_
  refine NX.sub (env' := [(2, _), (3, _), (4, _), (6, _)]) ⟨rfl, rfl, rfl, rfl, trivial⟩ ?_
  refine NX.then ?_
  refine Tr.seq ?_
  refine Tr.seq ?_
  obtain ⟨r10, hr11, hr⟩ := bind_some hr
  refine Tr.region_f (fun _ => false) ?_
  refine W.q rfl rfl rfl rfl (by decide) (Yd.ldB (pos := 2) rfl rfl rfl ON22 (.t rfl)) ?_
  refine W.q rfl rfl rfl rfl (by decide) (Yd.ldB (pos := 1) rfl rfl rfl ON22 (.t rfl)) ?_
  refine W.q rfl rfl rfl rfl (by decide) (Yd.mv rfl (.t rfl)) ?_
  refine W.q rfl rfl rfl rfl (by decide) (Yd.lenR hscript_2 rfl Try.underlying23 (.t rfl)) ?_
  refine W.q rfl rfl rfl rfl (by decide) (Yd.call (v := .int .i64 r10) rfl Try.func31 rfl rfl (.cons (.t rfl) (.cons (.t rfl) (.cons (.t rfl) .nil))) (fun x' hx w hw => mark_Wrong_ok w0 x'.m x'.l _ _ (hclear_0.mono hx.1) _ _ (hthings_1.mono hx.1) ((script_2.length : Int)) _ hr11 w hw)) ?_
  refine W.q rfl rfl rfl rfl (by decide) (Yd.as rfl (.t rfl)) ?_
  refine W.end ?_
  refine NX.sub (env' := [(2, _), (3, _), (4, _), (6, _), (8, _)]) ⟨rfl, rfl, rfl, rfl, rfl, trivial⟩ ?_
  refine NX.then ?_
  refine Tr.seq ?_
  refine Tr.region_f (fun _ => false) ?_
  refine W.q rfl rfl rfl rfl (by decide) (Yd.mv rfl (.t rfl)) ?_
  refine W.q rfl rfl rfl rfl (by decide) (Yd.neq rfl (.t rfl) .c) ?_
  refine W.end ?_
  refine NX.sub (env' := [(2, _), (3, _), (4, _), (6, _), (8, _), (21, _)]) ⟨rfl, rfl, rfl, rfl, rfl, rfl, trivial⟩ ?_
  refine NX.then ?_
  refine Tr.cond (.t rfl) (fun hb => ?_) (fun hb => ?_)
  · have hr := cond_t hb hr
    refine Tr.seq ?_
    refine Tr.region_f (fun i => Nat.beq i 2) ?_
    refine W.q rfl rfl rfl rfl (by decide) (Yd.bld (cells := [.slice none 0 0, .slice none 0 0, .slice none 0 0]) rfl ZI27 PL27 .nil rfl) ?_
    refine W.q rfl rfl rfl rfl (by decide) (Yd.mv rfl (.t rfl)) ?_
    refine W.s rfl rfl rfl rfl (Ef.stB (pos := 0) (us := [_, _, _]) (cs' := [_, _, _]) rfl rfl (.t rfl) (.t rfl) SZ27 rfl rfl rfl (Nat.le_of_ble_eq_true rfl) rfl) ?_
    rintro _ _ ⟨rfl, rfl⟩
    refine ⟨.inl rfl, ?_⟩
    refine W.cast (m' := m) (l' := hcells b8 [_, _, _] 27 :: hcells b6 [_] 22 :: hcells b4 [_] 22 :: hownT 63 1 encU (.slice none 0 0) (([] : List (BitVec 32))) :: hownT 65 2 Label.enc (.slice none 0 0) (([] : List Label)) :: hownT 28 1 encI (.slice none 0 0) (([] : List Int)) :: l) rfl rfl ?_
    refine W.q rfl rfl rfl rfl (by decide) (Yd.as rfl (.t rfl)) ?_
    refine W.end ?_
    refine NX.sub (env' := [(6, _), (7, _)]) ⟨rfl, rfl, trivial⟩ ?_
    refine NX.drop (l' := hcells b8 [_, _, _] 27 :: hownT 63 1 encU (.slice none 0 0) (([] : List (BitVec 32))) :: hownT 65 2 Label.enc (.slice none 0 0) (([] : List Label)) :: hownT 28 1 encI (.slice none 0 0) (([] : List Int)) :: l) (.cons_cons _ (.cons _ (.cons _ (.cons_cons _ (.cons_cons _ (.cons_cons _ (.refl _))))))) ?_
    refine NX.then ?_
    refine Tr.ret' (RT.then ?_)
    refine resV2 rfl (Rv.cs (pos := 0) rfl rfl rfl ON27 US27 SZ27) (Rv.t rfl) ?_
    intro w hc
    cases hr
    obtain ⟨m12, hsm12, hu13, hc⟩ := cX_freeze (enc := encI) (n := 1) (p := 3) (fun _ => rfl) hc rfl
    have hclear_0 := hclear_0.mono hsm12
    have hthings_1 := hthings_1.mono hsm12
    have hscript_2 := hscript_2.mono hsm12
    obtain ⟨m14, hsm14, hu15, hc⟩ := cX_freeze (enc := Label.enc) (n := 2) (p := 2) (fun _ => rfl) hc rfl
    have hclear_0 := hclear_0.mono hsm14
    have hthings_1 := hthings_1.mono hsm14
    have hscript_2 := hscript_2.mono hsm14
    have hu13 := hu13.mono hsm14
    obtain ⟨m16, hsm16, hu17, hc⟩ := cX_freeze (enc := encU) (n := 1) (p := 1) (fun _ => rfl) hc rfl
    have hclear_0 := hclear_0.mono hsm16
    have hthings_1 := hthings_1.mono hsm16
    have hscript_2 := hscript_2.mono hsm16
    have hu13 := hu13.mono hsm16
    have hu15 := hu15.mono hsm16
    exact ⟨_, _, _, _, rfl, ((hsm12.trans hsm14).trans hsm16), hu13, hu15, hu17, (cX_sub (.cons _ (.refl _)) hc)⟩
  · have hr := cond_f hb hr
    refine Tr.skip' ?_
    refine NX.then ?_
    refine Tr.seq ?_
    refine Tr.addnil 28 1 ?_
    refine Tr.cast (m' := m) (l' := hownT 28 1 encI (.slice none 0 0) (([] : List Int)) :: hcells b8 [(.slice none 0 0), (.slice none 0 0), (.slice none 0 0)] 27 :: hcells b6 [uthings_1] 22 :: hcells b4 [uclear_0] 22 :: hownT 63 1 encU (.slice none 0 0) (([] : List (BitVec 32))) :: hownT 65 2 Label.enc (.slice none 0 0) (([] : List Label)) :: hownT 28 1 encI (.slice none 0 0) (([] : List Int)) :: l) rfl rfl ?_
    refine Tr.addnil 65 2 ?_
    refine Tr.cast (m' := m) (l' := hownT 65 2 Label.enc (.slice none 0 0) (([] : List Label)) :: hownT 28 1 encI (.slice none 0 0) (([] : List Int)) :: hcells b8 [(.slice none 0 0), (.slice none 0 0), (.slice none 0 0)] 27 :: hcells b6 [uthings_1] 22 :: hcells b4 [uclear_0] 22 :: hownT 63 1 encU (.slice none 0 0) (([] : List (BitVec 32))) :: hownT 65 2 Label.enc (.slice none 0 0) (([] : List Label)) :: hownT 28 1 encI (.slice none 0 0) (([] : List Int)) :: l) rfl rfl ?_
    refine Tr.addnil 63 1 ?_
    refine Tr.cast (m' := m) (l' := hownT 63 1 encU (.slice none 0 0) (([] : List (BitVec 32))) :: hownT 65 2 Label.enc (.slice none 0 0) (([] : List Label)) :: hownT 28 1 encI (.slice none 0 0) (([] : List Int)) :: hcells b8 [(.slice none 0 0), (.slice none 0 0), (.slice none 0 0)] 27 :: hcells b6 [uthings_1] 22 :: hcells b4 [uclear_0] 22 :: hownT 63 1 encU (.slice none 0 0) (([] : List (BitVec 32))) :: hownT 65 2 Label.enc (.slice none 0 0) (([] : List Label)) :: hownT 28 1 encI (.slice none 0 0) (([] : List Int)) :: l) rfl rfl ?_
    refine Tr.join (S := fun env x => ∃ b351 : Nat, ∃ v151 : Value, ∃ v271 : Value, env = [(2, uscript_2), (3, bp b4 0), (4, bp b6 0), (6, bp b8 0), (9, bp b351 0)] ∧ x = ⟨m, hcells b351 [(.slice none 0 0), v151, v271] 27 :: hownT 63 1 encU v271 ((List.replicate ((things_1.length : Int)).toNat (0#32))) :: hownT 65 2 Label.enc v151 ((List.replicate ((clear_0.length : Int)).toNat ({ level := (0 : Int), parts := (0#32) } : Label))) :: hownT 28 1 encI (.slice none 0 0) (([] : List Int)) :: hcells b8 [(.slice none 0 0), (.slice none 0 0), (.slice none 0 0)] 27 :: hcells b6 [uthings_1] 22 :: hcells b4 [uclear_0] 22 :: hownT 63 1 encU (.slice none 0 0) (([] : List (BitVec 32))) :: hownT 65 2 Label.enc (.slice none 0 0) (([] : List Label)) :: hownT 28 1 encI (.slice none 0 0) (([] : List Int)) :: l⟩ ∧ (bif decide ((things_1.length : Int) ≤ 9223372036854775807) then
  forK (σ := (List (BitVec 32))) (fun i s nx_ => mark_Play_b520 i s nx_) (fun s => mark_Play_k459 clear_0 things_1 script_2 s) ((things_1.length : Int) - (0 : Int)).toNat (0 : Int) ((List.replicate ((things_1.length : Int)).toNat (0#32))) else none) = some r) ?_ (fun hk391 => ?_)
    · rintro _ _ ⟨b351, v151, v271, rfl, rfl, hr⟩
      refine NX.then ?_
      refine Tr.seq ?_
      refine Tr.seq ?_
      refine Tr.region_f (fun _ => false) ?_
      refine W.q rfl rfl rfl rfl (by decide) (Yd.ldB (pos := 5) rfl rfl rfl ON22 (.t rfl)) ?_
      refine W.q rfl rfl rfl rfl (by decide) (Yd.lenR hthings_1 rfl Try.underlying22 (.t rfl)) ?_
      refine W.q rfl rfl rfl rfl (by decide) (Yd.mv rfl .c) ?_
      refine W.end ?_
      refine NX.sub (env' := [(2, _), (3, _), (4, _), (6, _), (9, _), (32, _), (33, _)]) ⟨rfl, rfl, rfl, rfl, rfl, rfl, rfl, trivial⟩ ?_
      refine NX.then ?_
      refine Tr.join (S := fun env x => ∃ l457 : List (BitVec 32), ∃ v458 : Value, env = [(2, uscript_2), (3, bp b4 0), (4, bp b6 0), (6, bp b8 0), (9, bp b351 0)] ∧ x = ⟨m, hcells b351 [(.slice none 0 0), v151, v458] 27 :: hownT 63 1 encU v458 l457 :: hownT 65 2 Label.enc v151 ((List.replicate ((clear_0.length : Int)).toNat ({ level := (0 : Int), parts := (0#32) } : Label))) :: hownT 28 1 encI (.slice none 0 0) (([] : List Int)) :: hcells b8 [(.slice none 0 0), (.slice none 0 0), (.slice none 0 0)] 27 :: hcells b6 [uthings_1] 22 :: hcells b4 [uclear_0] 22 :: hownT 63 1 encU (.slice none 0 0) (([] : List (BitVec 32))) :: hownT 65 2 Label.enc (.slice none 0 0) (([] : List Label)) :: hownT 28 1 encI (.slice none 0 0) (([] : List Int)) :: l⟩ ∧ mark_Play_k459 clear_0 things_1 script_2 l457 = some r) ?_ (fun hk460 => ?_)
      · rintro _ _ ⟨l457, v458, rfl, rfl, hr⟩
        unfold mark_Play_k459 at hr
        try dsimp only at hr
        refine NX.then ?_
        refine Tr.seq ?_
        obtain ⟨hq461, hr⟩ := guard_some hr; replace hq461 := of_decide_eq_true hq461
        refine Tr.region_f (fun i => Nat.beq i 2 || Nat.beq i 3 || Nat.beq i 4) ?_
        refine W.q rfl rfl rfl rfl (by decide) (Yd.ldB (pos := 6) rfl rfl rfl ON22 (.t rfl)) ?_
        refine W.q rfl rfl rfl rfl (by decide) (Yd.lenR hclear_0 rfl Try.underlying22 (.t rfl)) ?_
        refine W.e rfl rfl rfl rfl (by decide) (Ef.mkT (enc := encU) (0#32) IF63 rfl Try.underlying25 rfl rfl (by decide) (.t rfl) (.t rfl) (by omega) (by omega) (by omega)) ?_
        rintro v462 _ rfl
        refine ⟨.inl rfl, ?_⟩
        refine W.cast (m' := m) (l' := hownT 63 1 encU v462 _ :: hcells b351 [_, _, _] 27 :: hownT 63 1 encU v458 _ :: hownT 65 2 Label.enc v151 _ :: hownT 28 1 encI (.slice none 0 0) (([] : List Int)) :: hcells b8 [_, _, _] 27 :: hcells b6 [_] 22 :: hcells b4 [_] 22 :: hownT 63 1 encU (.slice none 0 0) (([] : List (BitVec 32))) :: hownT 65 2 Label.enc (.slice none 0 0) (([] : List Label)) :: hownT 28 1 encI (.slice none 0 0) (([] : List Int)) :: l) rfl rfl ?_
        refine W.e rfl rfl rfl rfl (by decide) (Ef.al rfl ZR25 rfl) ?_
        rintro _ _ ⟨b464, rfl, rfl⟩
        refine ⟨.inl rfl, ?_⟩
        refine W.cast (m' := m) (l' := hcells b464 [_] 25 :: hownT 63 1 encU v462 _ :: hcells b351 [_, _, _] 27 :: hownT 63 1 encU v458 _ :: hownT 65 2 Label.enc v151 _ :: hownT 28 1 encI (.slice none 0 0) (([] : List Int)) :: hcells b8 [_, _, _] 27 :: hcells b6 [_] 22 :: hcells b4 [_] 22 :: hownT 63 1 encU (.slice none 0 0) (([] : List (BitVec 32))) :: hownT 65 2 Label.enc (.slice none 0 0) (([] : List Label)) :: hownT 28 1 encI (.slice none 0 0) (([] : List Int)) :: l) rfl rfl ?_
        refine W.s rfl rfl rfl rfl (Ef.stBo (pos := 0) (pos2 := 1) (cs' := [_]) rfl rfl rfl (.t rfl) (.t rfl) SZ25 (Nat.le_of_ble_eq_true rfl) rfl) ?_
        rintro _ _ ⟨rfl, rfl⟩
        refine ⟨.inl rfl, ?_⟩
        refine W.cast (m' := m) (l' := hcells b464 [_] 25 :: hownT 63 1 encU v462 _ :: hcells b351 [_, _, _] 27 :: hownT 63 1 encU v458 _ :: hownT 65 2 Label.enc v151 _ :: hownT 28 1 encI (.slice none 0 0) (([] : List Int)) :: hcells b8 [_, _, _] 27 :: hcells b6 [_] 22 :: hcells b4 [_] 22 :: hownT 63 1 encU (.slice none 0 0) (([] : List (BitVec 32))) :: hownT 65 2 Label.enc (.slice none 0 0) (([] : List Label)) :: hownT 28 1 encI (.slice none 0 0) (([] : List Int)) :: l) rfl rfl ?_
        refine W.end ?_
        refine NX.sub (env' := [(2, _), (3, _), (4, _), (6, _), (9, _), (11, _)]) ⟨rfl, rfl, rfl, rfl, rfl, rfl, trivial⟩ ?_
        refine NX.then ?_
        refine Tr.seq ?_
        refine Tr.region_f (fun _ => false) ?_
        refine W.q rfl rfl rfl rfl (by decide) (Yd.mkf rfl (.cons (.t rfl) (.cons (.t rfl) (.cons (.t rfl) (.cons (.t rfl) .nil))))) ?_
        refine W.q rfl rfl rfl rfl (by decide) (Yd.as rfl (.t rfl)) ?_
        refine W.end ?_
        refine NX.sub (env' := [(2, _), (6, _), (9, _), (12, _)]) ⟨rfl, rfl, rfl, rfl, trivial⟩ ?_
        refine NX.then ?_
        refine Tr.seq ?_
        refine Tr.seq ?_
        refine Tr.region_f (fun _ => false) ?_
        refine W.q rfl rfl rfl rfl (by decide) (Yd.mv rfl (.t rfl)) ?_
        refine W.q rfl rfl rfl rfl (by decide) (Yd.lenR hscript_2 rfl Try.underlying23 (.t rfl)) ?_
        refine W.q rfl rfl rfl rfl (by decide) (Yd.mv rfl .c) ?_
        refine W.end ?_
        refine NX.sub (env' := [(6, _), (9, _), (12, _), (47, _), (48, _), (49, _)]) ⟨rfl, rfl, rfl, rfl, rfl, rfl, trivial⟩ ?_
        refine NX.then ?_
        refine Tr.join (S := fun env x => ∃ l486 : List (BitVec 32), ∃ l488 : List Label, ∃ l490 : List Int, ∃ v487 : Value, ∃ v489 : Value, ∃ v491 : Value, env = [(6, bp b8 0), (9, bp b351 0)] ∧ x = ⟨m, hcells b351 [v491, v489, v487] 27 :: hownT 63 1 encU v487 l486 :: hownT 65 2 Label.enc v489 l488 :: hownT 28 1 encI v491 l490 :: hcells b8 [(.slice none 0 0), (.slice none 0 0), (.slice none 0 0)] 27 :: hownT 63 1 encU (.slice none 0 0) (([] : List (BitVec 32))) :: hownT 65 2 Label.enc (.slice none 0 0) (([] : List Label)) :: hownT 28 1 encI (.slice none 0 0) (([] : List Int)) :: l⟩ ∧ mark_Play_k492 l486 l488 l490 = some r) ?_ (fun hk493 => ?_)
        · rintro _ _ ⟨l486, l488, l490, v487, v489, v491, rfl, rfl, hr⟩
          unfold mark_Play_k492 at hr
          try dsimp only at hr
          refine NX.then ?_
          refine Tr.seq ?_
          refine Tr.region_f (fun i => Nat.beq i 1) ?_
          refine W.q rfl rfl rfl rfl (by decide) (Yd.ldBs (pos := 0) (us := [_, _, _]) rfl rfl rfl rfl ON27 US27 SZ27 (.t rfl)) ?_
          refine W.s rfl rfl rfl rfl (Ef.stBs (pos := 4) (us := [v491, v489, v487]) (cs' := [_, _, _]) (.cons (On.own (pos := 3) rfl) (.cons (On.own (pos := 2) rfl) (.cons (On.own (pos := 1) rfl) .nil))) rfl rfl (.t rfl) (.t rfl) SZ27 rfl rfl (Nat.le_of_ble_eq_true rfl) rfl) ?_
          rintro _ _ ⟨rfl, rfl⟩
          refine ⟨.inl rfl, ?_⟩
          refine W.cast (m' := m) (l' := hcells b351 [_, _, _] 27 :: hownT 63 1 encU v487 _ :: hownT 65 2 Label.enc v489 _ :: hownT 28 1 encI v491 _ :: hcells b8 [_, _, _] 27 :: hownT 63 1 encU (.slice none 0 0) (([] : List (BitVec 32))) :: hownT 65 2 Label.enc (.slice none 0 0) (([] : List Label)) :: hownT 28 1 encI (.slice none 0 0) (([] : List Int)) :: l) rfl rfl ?_
          refine W.q rfl rfl rfl rfl (by decide) (Yd.as rfl .c) ?_
          refine W.end ?_
          refine NX.sub (env' := [(6, _), (7, _)]) ⟨rfl, rfl, trivial⟩ ?_
          refine NX.drop (l' := hownT 63 1 encU v487 _ :: hownT 65 2 Label.enc v489 _ :: hownT 28 1 encI v491 _ :: hcells b8 [_, _, _] 27 :: l) (.cons _ (.cons_cons _ (.cons_cons _ (.cons_cons _ (.cons_cons _ (.cons _ (.cons _ (.cons _ (.refl _))))))))) ?_
          refine NX.then ?_
          refine Tr.ret' ?_
          refine resV2 rfl (Rv.cs (pos := 3) rfl rfl rfl ON27 US27 SZ27) (Rv.t rfl) ?_
          intro w hc
          cases hr
          obtain ⟨m494, hsm494, hu495, hc⟩ := cX_freeze (enc := encI) (n := 1) (p := 2) (fun _ => rfl) hc rfl
          have hclear_0 := hclear_0.mono hsm494
          have hthings_1 := hthings_1.mono hsm494
          have hscript_2 := hscript_2.mono hsm494
          obtain ⟨m496, hsm496, hu497, hc⟩ := cX_freeze (enc := Label.enc) (n := 2) (p := 1) (fun _ => rfl) hc rfl
          have hclear_0 := hclear_0.mono hsm496
          have hthings_1 := hthings_1.mono hsm496
          have hscript_2 := hscript_2.mono hsm496
          have hu495 := hu495.mono hsm496
          obtain ⟨m498, hsm498, hu499, hc⟩ := cX_freeze (enc := encU) (n := 1) (p := 0) (fun _ => rfl) hc rfl
          have hclear_0 := hclear_0.mono hsm498
          have hthings_1 := hthings_1.mono hsm498
          have hscript_2 := hscript_2.mono hsm498
          have hu495 := hu495.mono hsm498
          have hu497 := hu497.mono hsm498
          exact ⟨_, _, _, _, rfl, ((hsm494.trans hsm496).trans hsm498), hu495, hu497, hu499, (cX_sub (.cons _ (.refl _)) hc)⟩
        have hlen500 := (hscript_2).2.1
        refine Tr.block ?_
        refine Tr.sub (env' := [(6, _), (9, _), (12, _), (47, _), (48, _), (49, _)]) ⟨rfl, rfl, rfl, rfl, rfl, rfl, trivial⟩ ?_
        refine Tr.loop (S := fun n (z : Int × (List (BitVec 32)) × (List (BitVec 32)) × (List Label) × (List Int)) env x => match z with | (t_501, l476, l478, l480, l482) => ∃ v477 : Value, ∃ v479 : Value, ∃ v481 : Value, ∃ v483 : Value, env = [(6, bp b8 0), (9, bp b351 0), (12, .func (.func 32) #[] #[bp b4 0, bp b6 0, bp b351 0, bp b464 0]), (47, uscript_2), (48, .int .i64 ((script_2.length : Int))), (49, .int .i64 t_501)] ∧ x = ⟨m, hcells b464 [v477] 25 :: hownT 63 1 encU v477 l476 :: hcells b351 [v483, v481, v479] 27 :: hownT 63 1 encU v479 l478 :: hownT 65 2 Label.enc v481 l480 :: hownT 28 1 encI v483 l482 :: hcells b8 [(.slice none 0 0), (.slice none 0 0), (.slice none 0 0)] 27 :: hcells b6 [uthings_1] 22 :: hcells b4 [uclear_0] 22 :: hownT 63 1 encU (.slice none 0 0) (([] : List (BitVec 32))) :: hownT 65 2 Label.enc (.slice none 0 0) (([] : List Label)) :: hownT 28 1 encI (.slice none 0 0) (([] : List Int)) :: l⟩ ∧ n = ((script_2.length : Int) - t_501).toNat ∧ 0 ≤ t_501 ∧ forK (σ := (List (BitVec 32)) × (List (BitVec 32)) × (List Label) × (List Int)) (fun i s nx_ => mark_Play_b502 clear_0 things_1 script_2 i s.1 s.2.1 s.2.2.1 s.2.2.2 nx_) (fun s => mark_Play_k492 s.2.1 s.2.2.1 s.2.2.2) n t_501 (l476, l478, l480, l482) = some r) _ ((0 : Int), (List.replicate ((clear_0.length : Int)).toNat (0#32)), l457, (List.replicate ((clear_0.length : Int)).toNat ({ level := (0 : Int), parts := (0#32) } : Label)), ([] : List Int)) ⟨_, _, _, _, rfl, rfl, rfl, (by omega), hr⟩ ?_
        rintro n504 ⟨t_501, l476, l478, l480, l482⟩ env x ⟨v477, v479, v481, v483, rfl, rfl, hnt_501, h0t_501, hr⟩
        cases n504 with
        | zero =>
          simp only [forK] at hr
          refine Tr.seq ?_
          refine Tr.region_f (fun _ => false) ?_
          refine W.q rfl rfl rfl rfl (by decide) (Yd.lss rfl (.t rfl) (.t rfl)) ?_
          refine W.end ?_
          refine NX.sub (env' := [(6, _), (9, _), (12, _), (47, _), (48, _), (49, _), (50, _)]) ⟨rfl, rfl, rfl, rfl, rfl, rfl, rfl, trivial⟩ ?_
          refine NX.then ?_
          refine Tr.seq ?_
          refine Tr.cond (.t rfl) (fun hb => ?_) (fun hb => ?_)
          · exact absurd (hb.symm.trans (fr_end hnt_501)) (by decide)
          ·
            refine Tr.exit' (EX.then (EX.then (EX.block ?_)))
            refine NX.sub (env' := [(6, _), (9, _)]) ⟨rfl, rfl, trivial⟩ ?_
            refine NX.drop (l' := hcells b351 [_, _, _] 27 :: hownT 63 1 encU v479 _ :: hownT 65 2 Label.enc v481 _ :: hownT 28 1 encI v483 _ :: hcells b8 [_, _, _] 27 :: hownT 63 1 encU (.slice none 0 0) (([] : List (BitVec 32))) :: hownT 65 2 Label.enc (.slice none 0 0) (([] : List Label)) :: hownT 28 1 encI (.slice none 0 0) (([] : List Int)) :: l) (.cons _ (.cons _ (.cons_cons _ (.cons_cons _ (.cons_cons _ (.cons_cons _ (.cons_cons _ (.cons _ (.cons _ (.cons_cons _ (.cons_cons _ (.cons_cons _ (.refl _))))))))))))) ?_
            exact hk493 _ _ ⟨_, _, _, _, _, _, rfl, rfl, hr⟩
        | succ n504 =>
          obtain ⟨nx503, hnx503, hr⟩ := forK_succ hr
          try dsimp only at hr
          unfold mark_Play_b502 at hr
          try dsimp only at hr
          have hltt_501 := fr_bnd hnt_501
          refine Tr.seq ?_
          refine Tr.region_f (fun _ => false) ?_
          refine W.q rfl rfl rfl rfl (by decide) (Yd.lss rfl (.t rfl) (.t rfl)) ?_
          refine W.end ?_
          refine NX.sub (env' := [(6, _), (9, _), (12, _), (47, _), (48, _), (49, _), (50, _)]) ⟨rfl, rfl, rfl, rfl, rfl, rfl, rfl, trivial⟩ ?_
          refine NX.then ?_
          refine Tr.seq ?_
          refine Tr.cond (.t rfl) (fun hb => ?_) (fun hb => ?_)
          rotate_left
          · exact absurd (hb.symm.trans (fr_go hnt_501)) (by decide)
          ·
            refine Tr.skip' ?_
            refine NX.then ?_
            refine Tr.seq ?_
            refine Tr.block ?_
            refine Tr.seq ?_
            obtain ⟨y505, hy506, hr⟩ := bind_some hr
            refine Tr.region_f (fun i => Nat.beq i 2 || Nat.beq i 3) ?_
            refine W.q rfl rfl rfl rfl (by decide) (Yd.idxR hscript_2 hy506 rfl Try.underlying23 SZ67 (.t rfl) (.t rfl)) ?_
            refine W.q rfl rfl rfl rfl (by decide) (Yd.ldFs (us := [_, _, _, _, _, _]) hscript_2 (.refl _) hy506 rfl rfl ON67 US67 SZ67 (.t rfl)) ?_
            refine W.e rfl rfl rfl rfl (by decide) (Ef.al rfl ZR67 rfl) ?_
            rintro _ _ ⟨b507, rfl, rfl⟩
            refine ⟨.inl rfl, ?_⟩
            refine W.cast (m' := m) (l' := hcells b507 [_, _, _, _, _, _] 67 :: hcells b464 [_] 25 :: hownT 63 1 encU v477 _ :: hcells b351 [_, _, _] 27 :: hownT 63 1 encU v479 _ :: hownT 65 2 Label.enc v481 _ :: hownT 28 1 encI v483 _ :: hcells b8 [_, _, _] 27 :: hcells b6 [_] 22 :: hcells b4 [_] 22 :: hownT 63 1 encU (.slice none 0 0) (([] : List (BitVec 32))) :: hownT 65 2 Label.enc (.slice none 0 0) (([] : List Label)) :: hownT 28 1 encI (.slice none 0 0) (([] : List Int)) :: l) rfl rfl ?_
            refine W.s rfl rfl rfl rfl (Ef.stB (pos := 0) (us := [_, _, _, _, _, _]) (cs' := [_, _, _, _, _, _]) rfl rfl (.t rfl) (.t rfl) SZ67 rfl rfl rfl (Nat.le_of_ble_eq_true rfl) rfl) ?_
            rintro _ _ ⟨rfl, rfl⟩
            refine ⟨.inl rfl, ?_⟩
            refine W.cast (m' := m) (l' := hcells b507 [_, _, _, _, _, _] 67 :: hcells b464 [_] 25 :: hownT 63 1 encU v477 _ :: hcells b351 [_, _, _] 27 :: hownT 63 1 encU v479 _ :: hownT 65 2 Label.enc v481 _ :: hownT 28 1 encI v483 _ :: hcells b8 [_, _, _] 27 :: hcells b6 [_] 22 :: hcells b4 [_] 22 :: hownT 63 1 encU (.slice none 0 0) (([] : List (BitVec 32))) :: hownT 65 2 Label.enc (.slice none 0 0) (([] : List Label)) :: hownT 28 1 encI (.slice none 0 0) (([] : List Int)) :: l) rfl rfl ?_
            refine W.end ?_
            refine NX.sub (env' := [(6, _), (9, _), (12, _), (47, _), (48, _), (49, _), (14, _)]) ⟨rfl, rfl, rfl, rfl, rfl, rfl, rfl, trivial⟩ ?_
            refine NX.then ?_
            obtain ⟨r509, hr510, hr⟩ := bind_some hr
            obtain ⟨hq514, hr⟩ := guard_some hr; replace hq514 := of_decide_eq_true hq514
            refine Tr.region_xJ (fun x => Sle m x.m ∧ (∃ p : Nat, x.l[p]? = some (hcells b351 [v483, v481, v479] 27)) ∧ True) (fun _ _ hx h => by obtain ⟨hm, ⟨_, h0⟩, _⟩ := h; exact ⟨hm.trans hx.1, hx.at h0, trivial⟩) (fun i => Nat.beq i 4) (fun i => Nat.beq i 1) (fun i => Nat.beq i 4 || Nat.beq i 5 || Nat.beq i 6 || Nat.beq i 8) (fun i => Nat.beq i 0 || Nat.beq i 1 || Nat.beq i 4 || Nat.beq i 6 || Nat.beq i 8) (Ord.of [0, 1, 2, 3, 4, 5, 6, 7, 8]) FM (by kernel_rfl) ?_
            refine W.p rfl rfl rfl rfl (by decide) (fun _ => Yd.fldB rfl Try.underlying27 rfl SZ24 rfl (.t rfl)) ?_
            refine W.pJ rfl rfl rfl rfl (by decide) (fun _ h => by obtain ⟨jhm, ⟨jp0, jhp0⟩, _⟩ := h; exact Yd.ldB (pos := jp0) jhp0 rfl rfl ON24 (.t rfl)) ⟨(.refl _), ⟨3, rfl⟩, trivial⟩ rfl ?_
            refine W.q rfl rfl rfl rfl (by decide) (Yd.mv rfl (.t rfl)) ?_
            refine W.q rfl rfl rfl rfl (by decide) (Yd.ldBs (pos := 0) (us := [_, _, _, _, _, _]) rfl rfl rfl rfl ON67 US67 SZ67 (.t rfl)) ?_
            refine W.e rfl rfl rfl rfl (by decide) (Ef.callC (caps := [bp b4 0, bp b6 0, bp b351 0, bp b464 0]) (R := fun z x' => z = .int .i64 r509.1 ∧ x' = ⟨m, hcells b4 [uclear_0] 22 :: hcells b6 [uthings_1] 22 :: hcells b351 [v483, v481, v479] 27 :: hownT 28 1 encI v483 r509.2.1.codes :: hownT 65 2 Label.enc v481 r509.2.1.marks :: hownT 63 1 encU v479 r509.2.1.src :: hcells b464 [v477] 25 :: hownT 63 1 encU v477 r509.2.2 :: hcells b507 [.int .i64 y505.kind, .int .i64 y505.by_, .int .i64 y505.to, .int .i64 y505.label.level, .int .u32 (y505.label.parts.toNat : Int), .int .i64 y505.val] 67 :: hcells b8 [(.slice none 0 0), (.slice none 0 0), (.slice none 0 0)] 27 :: hownT 63 1 encU (.slice none 0 0) (([] : List (BitVec 32))) :: hownT 65 2 Label.enc (.slice none 0 0) (([] : List Label)) :: hownT 28 1 encI (.slice none 0 0) (([] : List Int)) :: l⟩) rfl (.t rfl) Try.func32 rfl rfl (.cons (.t rfl) .nil) (by intro w hw; replace hw := cX_front (p := 2) hw rfl; replace hw := cX_front (p := 2) hw rfl; replace hw := cX_front (p := 4) hw rfl; replace hw := cX_front (p := 5) hw rfl; replace hw := cX_front (p := 6) hw rfl; replace hw := cX_front (p := 6) hw rfl; replace hw := cX_front (p := 8) hw rfl; replace hw := cX_front (p := 9) hw rfl; exact (mark_Play_c1_ok w0 _ _  (({ kind := y505.kind, by_ := y505.by_, to := y505.to, label := ({ level := y505.label.level, parts := y505.label.parts } : Label), val := y505.val } : Deed)) _ _ _ hclear_0 _ _ _ hthings_1 _ _ _ _ _ _ _ _ _ hr510 w hw).mono fun e w' ⟨he, hc'⟩ => ⟨_, _, he, ⟨rfl, rfl⟩, hc'⟩)) ?_ (hJ := by rintro _ _ ⟨rfl, rfl⟩; exact fun _ => ⟨(.refl _), ⟨2, rfl⟩, trivial⟩)
            rintro _ _ ⟨rfl, rfl⟩
            refine ⟨.inl rfl, ?_⟩
            refine W.cast (m' := m) (l' := hcells b4 [_] 22 :: hcells b6 [_] 22 :: hcells b351 [_, _, _] 27 :: hownT 28 1 encI v483 _ :: hownT 65 2 Label.enc v481 _ :: hownT 63 1 encU v479 _ :: hcells b464 [_] 25 :: hownT 63 1 encU v477 _ :: hcells b507 [_, _, _, _, _, _] 67 :: hcells b8 [_, _, _] 27 :: hownT 63 1 encU (.slice none 0 0) (([] : List (BitVec 32))) :: hownT 65 2 Label.enc (.slice none 0 0) (([] : List Label)) :: hownT 28 1 encI (.slice none 0 0) (([] : List Int)) :: l) rfl rfl ?_
            refine W.e rfl rfl rfl rfl (by decide) (Ef.bsT (enc := encI) (vs := [_]) (ys := [r509.1]) (fun _ => rfl) IF28 rfl Try.underlying24 (by decide) rfl (.cons (.t rfl) .nil) rfl rfl (by decide)) ?_ (hJ := fun _ _ _ h => absurd (show false = true from h) (by decide))
            rintro v515 _ rfl
            refine ⟨.inr ⟨.refl _, [_], rfl⟩, ?_⟩
            refine W.cast (m' := m) (l' := hownT 28 1 encI v515 _ :: hcells b4 [_] 22 :: hcells b6 [_] 22 :: hcells b351 [_, _, _] 27 :: hownT 28 1 encI v483 _ :: hownT 65 2 Label.enc v481 _ :: hownT 63 1 encU v479 _ :: hcells b464 [_] 25 :: hownT 63 1 encU v477 _ :: hcells b507 [_, _, _, _, _, _] 67 :: hcells b8 [_, _, _] 27 :: hownT 63 1 encU (.slice none 0 0) (([] : List (BitVec 32))) :: hownT 65 2 Label.enc (.slice none 0 0) (([] : List Label)) :: hownT 28 1 encI (.slice none 0 0) (([] : List Int)) :: l) rfl rfl ?_
            refine W.e rfl rfl rfl rfl (by decide) (Ef.apI (pos := 4) (enc := encI) (xs := r509.2.1.codes) (ys := ([r509.1] : List Int)) (fun _ => rfl) IF28 rfl rfl Try.underlying24 rfl (by decide) (.t rfl) (.t rfl) (Src.own (pos := 0) rfl) (fun _ => rfl) (by omega) (by omega)) ?_ (hJ := fun _ _ _ h => absurd (show false = true from h) (by decide))
            rintro v517 _ rfl
            refine ⟨.inl rfl, ?_⟩
            refine W.cast (m' := m) (l' := hownT 28 1 encI v515 _ :: hcells b4 [_] 22 :: hcells b6 [_] 22 :: hcells b351 [_, _, _] 27 :: hownT 28 1 encI v517 _ :: hownT 65 2 Label.enc v481 _ :: hownT 63 1 encU v479 _ :: hcells b464 [_] 25 :: hownT 63 1 encU v477 _ :: hcells b507 [_, _, _, _, _, _] 67 :: hcells b8 [_, _, _] 27 :: hownT 63 1 encU (.slice none 0 0) (([] : List (BitVec 32))) :: hownT 65 2 Label.enc (.slice none 0 0) (([] : List Label)) :: hownT 28 1 encI (.slice none 0 0) (([] : List Int)) :: l) rfl rfl ?_
            refine W.q rfl rfl rfl rfl (by decide) (Yd.fldB rfl Try.underlying27 rfl SZ24 rfl (.t rfl)) ?_
            refine W.s rfl rfl rfl rfl (Ef.stBo (pos := 3) (pos2 := 4) (cs' := [_, _, _]) rfl rfl rfl (.t rfl) (.t rfl) SZ24 (Nat.le_of_ble_eq_true rfl) rfl) ?_ (hJ := fun _ _ _ h => absurd (show false = true from h) (by decide))
            rintro _ _ ⟨rfl, rfl⟩
            refine ⟨.inl rfl, ?_⟩
            refine W.cast (m' := m) (l' := hownT 28 1 encI v515 _ :: hcells b4 [_] 22 :: hcells b6 [_] 22 :: hcells b351 [_, _, _] 27 :: hownT 28 1 encI v517 _ :: hownT 65 2 Label.enc v481 _ :: hownT 63 1 encU v479 _ :: hcells b464 [_] 25 :: hownT 63 1 encU v477 _ :: hcells b507 [_, _, _, _, _, _] 67 :: hcells b8 [_, _, _] 27 :: hownT 63 1 encU (.slice none 0 0) (([] : List (BitVec 32))) :: hownT 65 2 Label.enc (.slice none 0 0) (([] : List Label)) :: hownT 28 1 encI (.slice none 0 0) (([] : List Int)) :: l) rfl rfl ?_
            refine W.end ?_
            refine NX.sub (env' := [(6, _), (9, _), (12, _), (47, _), (48, _), (49, _)]) ⟨rfl, rfl, rfl, rfl, rfl, rfl, trivial⟩ ?_
            refine NX.drop (l' := hcells b4 [_] 22 :: hcells b6 [_] 22 :: hcells b351 [_, _, _] 27 :: hownT 28 1 encI v517 _ :: hownT 65 2 Label.enc v481 _ :: hownT 63 1 encU v479 _ :: hcells b464 [_] 25 :: hownT 63 1 encU v477 _ :: hcells b8 [_, _, _] 27 :: hownT 63 1 encU (.slice none 0 0) (([] : List (BitVec 32))) :: hownT 65 2 Label.enc (.slice none 0 0) (([] : List Label)) :: hownT 28 1 encI (.slice none 0 0) (([] : List Int)) :: l) (.cons _ (.cons_cons _ (.cons_cons _ (.cons_cons _ (.cons_cons _ (.cons_cons _ (.cons_cons _ (.cons_cons _ (.cons_cons _ (.cons _ (.cons_cons _ (.cons_cons _ (.cons_cons _ (.cons_cons _ (.refl _))))))))))))))) ?_
            refine NX.block ?_
            refine NX.then ?_
            refine Tr.region_f (fun _ => false) ?_
            refine W.q rfl rfl rfl rfl (by decide) (Yd.add rfl (.t rfl) .c) ?_
            refine W.q rfl rfl rfl rfl (by decide) (Yd.mv rfl (.t rfl)) ?_
            refine W.end ?_
            refine NX.sub (env' := [(6, _), (9, _), (12, _), (47, _), (48, _), (49, _)]) ⟨rfl, rfl, rfl, rfl, rfl, rfl, trivial⟩ ?_
            refine NX.sub (env' := [(6, _), (9, _), (12, _), (47, _), (48, _), (49, _)]) ⟨rfl, rfl, rfl, rfl, rfl, rfl, trivial⟩ ?_
            refine NX.imp (fun w hw => cX_front (p := 11) hw rfl) ?_
            refine NX.imp (fun w hw => cX_front (p := 11) hw rfl) ?_
            refine NX.imp (fun w hw => cX_front (p := 11) hw rfl) ?_
            refine NX.imp (fun w hw => cX_front (p := 3) hw rfl) ?_
            refine NX.imp (fun w hw => cX_front (p := 4) hw rfl) ?_
            refine NX.imp (fun w hw => cX_front (p := 11) hw rfl) ?_
            refine NX.imp (fun w hw => cX_front (p := 7) hw rfl) ?_
            refine NX.imp (fun w hw => cX_front (p := 8) hw rfl) ?_
            refine NX.imp (fun w hw => cX_front (p := 9) hw rfl) ?_
            refine NX.imp (fun w hw => cX_front (p := 9) hw rfl) ?_
            refine NX.imp (fun w hw => cX_front (p := 11) hw rfl) ?_
            refine NX.imp (fun w hw => cX_front (p := 11) hw rfl) ?_
            refine NX.cast (m' := m) (l' := hcells b464 [_] 25 :: hownT 63 1 encU v477 _ :: hcells b351 [_, _, _] 27 :: hownT 63 1 encU v479 _ :: hownT 65 2 Label.enc v481 _ :: hownT 28 1 encI v517 _ :: hcells b8 [_, _, _] 27 :: hcells b6 [_] 22 :: hcells b4 [_] 22 :: hownT 63 1 encU (.slice none 0 0) (([] : List (BitVec 32))) :: hownT 65 2 Label.enc (.slice none 0 0) (([] : List Label)) :: hownT 28 1 encI (.slice none 0 0) (([] : List Int)) :: l) rfl rfl ?_
            have hw := w64_id (n := t_501 + 1) (by omega) (by omega)
            exact NX.again n504 (t_501 + 1, r509.2.2, r509.2.1.src, r509.2.1.marks, (r509.2.1.codes ++ ([r509.1] : List Int))) (Nat.lt_succ_self _) ⟨_, _, _, _, (by rw [hw] <;> rfl), rfl, (fr_dec hnt_501), (by omega), ((hnx503 _).symm.trans hr)⟩
      obtain ⟨hle518, hr⟩ := guard_some hr; replace hle518 := of_decide_eq_true hle518
      refine Tr.block ?_
      refine Tr.sub (env' := [(2, _), (3, _), (4, _), (6, _), (9, _), (32, _), (33, _)]) ⟨rfl, rfl, rfl, rfl, rfl, rfl, rfl, trivial⟩ ?_
      refine Tr.loop (S := fun n (z : Int × (List (BitVec 32))) env x => match z with | (t_519, l455) => ∃ v456 : Value, env = [(2, uscript_2), (3, bp b4 0), (4, bp b6 0), (6, bp b8 0), (9, bp b351 0), (32, .int .i64 ((things_1.length : Int))), (33, .int .i64 t_519)] ∧ x = ⟨m, hcells b351 [(.slice none 0 0), v151, v456] 27 :: hownT 63 1 encU v456 l455 :: hownT 65 2 Label.enc v151 ((List.replicate ((clear_0.length : Int)).toNat ({ level := (0 : Int), parts := (0#32) } : Label))) :: hownT 28 1 encI (.slice none 0 0) (([] : List Int)) :: hcells b8 [(.slice none 0 0), (.slice none 0 0), (.slice none 0 0)] 27 :: hcells b6 [uthings_1] 22 :: hcells b4 [uclear_0] 22 :: hownT 63 1 encU (.slice none 0 0) (([] : List (BitVec 32))) :: hownT 65 2 Label.enc (.slice none 0 0) (([] : List Label)) :: hownT 28 1 encI (.slice none 0 0) (([] : List Int)) :: l⟩ ∧ n = ((things_1.length : Int) - t_519).toNat ∧ 0 ≤ t_519 ∧ forK (σ := (List (BitVec 32))) (fun i s nx_ => mark_Play_b520 i s nx_) (fun s => mark_Play_k459 clear_0 things_1 script_2 s) n t_519 l455 = some r) _ ((0 : Int), (List.replicate ((things_1.length : Int)).toNat (0#32))) ⟨_, rfl, rfl, rfl, (by omega), hr⟩ ?_
      rintro n522 ⟨t_519, l455⟩ env x ⟨v456, rfl, rfl, hnt_519, h0t_519, hr⟩
      cases n522 with
      | zero =>
        simp only [forK] at hr
        refine Tr.seq ?_
        refine Tr.region_f (fun _ => false) ?_
        refine W.q rfl rfl rfl rfl (by decide) (Yd.lss rfl (.t rfl) (.t rfl)) ?_
        refine W.end ?_
        refine NX.sub (env' := [(2, _), (3, _), (4, _), (6, _), (9, _), (32, _), (33, _), (34, _)]) ⟨rfl, rfl, rfl, rfl, rfl, rfl, rfl, rfl, trivial⟩ ?_
        refine NX.then ?_
        refine Tr.seq ?_
        refine Tr.cond (.t rfl) (fun hb => ?_) (fun hb => ?_)
        · exact absurd (hb.symm.trans (fr_end hnt_519)) (by decide)
        ·
          refine Tr.exit' (EX.then (EX.then (EX.block ?_)))
          refine NX.sub (env' := [(2, _), (3, _), (4, _), (6, _), (9, _)]) ⟨rfl, rfl, rfl, rfl, rfl, trivial⟩ ?_
          exact hk460 _ _ ⟨_, _, rfl, rfl, hr⟩
      | succ n522 =>
        obtain ⟨nx521, hnx521, hr⟩ := forK_succ hr
        try dsimp only at hr
        unfold mark_Play_b520 at hr
        try dsimp only at hr
        have hltt_519 := fr_bnd hnt_519
        refine Tr.seq ?_
        refine Tr.region_f (fun _ => false) ?_
        refine W.q rfl rfl rfl rfl (by decide) (Yd.lss rfl (.t rfl) (.t rfl)) ?_
        refine W.end ?_
        refine NX.sub (env' := [(2, _), (3, _), (4, _), (6, _), (9, _), (32, _), (33, _), (34, _)]) ⟨rfl, rfl, rfl, rfl, rfl, rfl, rfl, rfl, trivial⟩ ?_
        refine NX.then ?_
        refine Tr.seq ?_
        refine Tr.cond (.t rfl) (fun hb => ?_) (fun hb => ?_)
        rotate_left
        · exact absurd (hb.symm.trans (fr_go hnt_519)) (by decide)
        ·
          refine Tr.skip' ?_
          refine NX.then ?_
          refine Tr.seq ?_
          refine Tr.block ?_
          refine Tr.seq ?_
          refine Tr.region_f (fun _ => false) ?_
          refine W.q rfl rfl rfl rfl (by decide) (Yd.mv rfl (.t rfl)) ?_
          refine W.q rfl rfl rfl rfl (by decide) (Yd.as rfl (.t rfl)) ?_
          refine W.end ?_
          refine NX.sub (env' := [(2, _), (3, _), (4, _), (6, _), (9, _), (32, _), (33, _), (10, _)]) ⟨rfl, rfl, rfl, rfl, rfl, rfl, rfl, rfl, trivial⟩ ?_
          refine NX.then ?_
          obtain ⟨y523, hy524, hr⟩ := bind_some hr
          refine Tr.region_x (fun i => Nat.beq i 6) (fun i => Nat.beq i 6) (Ord.of [0, 1, 2, 3, 4, 5, 6]) FM (by kernel_rfl) ?_
          refine W.q rfl rfl rfl rfl (by decide) (Yd.fldB rfl Try.underlying27 rfl SZ25 rfl (.t rfl)) ?_
          refine W.q rfl rfl rfl rfl (by decide) (Yd.ldB (pos := 0) rfl rfl rfl ON25 (.t rfl)) ?_
          refine W.q rfl rfl rfl rfl (by decide) (Yd.mv rfl (.t rfl)) ?_
          refine W.q rfl rfl rfl rfl (by decide) (Yd.mv rfl (.t rfl)) ?_
          refine W.q rfl rfl rfl rfl (by decide) (Yd.shlU (a := 1#32) rfl .c (.t rfl) h0t_519) ?_
          refine W.q rfl rfl rfl rfl (by decide) (Yd.idxT (pos := 1) rfl hy524 rfl Try.underlying25 SZ63 (.t rfl) (.t rfl)) ?_
          refine W.s rfl rfl rfl rfl (Ef.stT (enc := encU) (n := 1) (pos := 1) (y := (1#32 <<< t_519.toNat)) (us := [_]) (fun _ => rfl) rfl hy524 rfl (.t rfl) (.t rfl) SZ63 rfl rfl rfl (by decide)) ?_
          rintro _ _ ⟨rfl, rfl⟩
          refine ⟨.inl rfl, ?_⟩
          refine W.cast (m' := m) (l' := hcells b351 [_, _, _] 27 :: hownT 63 1 encU v456 _ :: hownT 65 2 Label.enc v151 _ :: hownT 28 1 encI (.slice none 0 0) (([] : List Int)) :: hcells b8 [_, _, _] 27 :: hcells b6 [_] 22 :: hcells b4 [_] 22 :: hownT 63 1 encU (.slice none 0 0) (([] : List (BitVec 32))) :: hownT 65 2 Label.enc (.slice none 0 0) (([] : List Label)) :: hownT 28 1 encI (.slice none 0 0) (([] : List Int)) :: l) rfl rfl ?_
          refine W.end ?_
          refine NX.sub (env' := [(2, _), (3, _), (4, _), (6, _), (9, _), (32, _), (33, _)]) ⟨rfl, rfl, rfl, rfl, rfl, rfl, rfl, trivial⟩ ?_
          refine NX.block ?_
          refine NX.then ?_
          refine Tr.region_f (fun _ => false) ?_
          refine W.q rfl rfl rfl rfl (by decide) (Yd.add rfl (.t rfl) .c) ?_
          refine W.q rfl rfl rfl rfl (by decide) (Yd.mv rfl (.t rfl)) ?_
          refine W.end ?_
          refine NX.sub (env' := [(2, _), (3, _), (4, _), (6, _), (9, _), (32, _), (33, _)]) ⟨rfl, rfl, rfl, rfl, rfl, rfl, rfl, trivial⟩ ?_
          refine NX.sub (env' := [(2, _), (3, _), (4, _), (6, _), (9, _), (32, _), (33, _)]) ⟨rfl, rfl, rfl, rfl, rfl, rfl, rfl, trivial⟩ ?_
          have hw := w64_id (n := t_519 + 1) (by omega) (by omega)
          exact NX.again n522 (t_519 + 1, (l455.set t_519.toNat ((1#32 <<< t_519.toNat)))) (Nat.lt_succ_self _) ⟨_, (by rw [hw] <;> rfl), rfl, (fr_dec hnt_519), (by omega), ((hnx521 _).symm.trans hr)⟩
    obtain ⟨hq151, hr⟩ := guard_some hr; replace hq151 := of_decide_eq_true hq151
    obtain ⟨hq271, hr⟩ := guard_some hr; replace hq271 := of_decide_eq_true hq271
    refine Tr.region_x (fun i => Nat.beq i 2 || Nat.beq i 5 || Nat.beq i 7 || Nat.beq i 8) (fun i => Nat.beq i 8) (.one 0 (.one 1 (.one 3 (.one 4 (.three 2 5 7 (.two 5 7 (Ord.of [6, 7, 8]) (Ord.of [5, 6, 8])) (.two 2 7 (Ord.of [6, 7, 8]) (Ord.of [2, 6, 8])) (.two 2 5 (Ord.of [5, 6, 8]) (Ord.of [2, 6, 8]))))))) FM (by kernel_rfl) ?_
    refine W.q rfl rfl rfl rfl (by decide) (Yd.ldB (pos := 5) rfl rfl rfl ON22 (.t rfl)) ?_
    refine W.q rfl rfl rfl rfl (by decide) (Yd.lenR hclear_0 rfl Try.underlying22 (.t rfl)) ?_
    refine W.q rfl rfl rfl rfl (by decide) (Yd.ldB (pos := 4) rfl rfl rfl ON22 (.t rfl)) ?_
    refine W.q rfl rfl rfl rfl (by decide) (Yd.lenR hthings_1 rfl Try.underlying22 (.t rfl)) ?_
    refine W.three ?_ ?_ ?_
    ·
      refine W.e rfl rfl rfl rfl (by decide) (Ef.mkT (enc := Label.enc) ({ level := (0 : Int), parts := (0#32) } : Label) IF65 rfl Try.underlying22 rfl rfl (by decide) (.t rfl) (.t rfl) (by omega) (by omega) (by omega)) ?_
      rintro v151 _ rfl
      refine ⟨.inr ⟨.refl _, [_], rfl⟩, ?_⟩
      refine W.cast (m' := m) (l' := hownT 65 2 Label.enc v151 _ :: hownT 63 1 encU (.slice none 0 0) (([] : List (BitVec 32))) :: hownT 65 2 Label.enc (.slice none 0 0) (([] : List Label)) :: hownT 28 1 encI (.slice none 0 0) (([] : List Int)) :: hcells b8 [_, _, _] 27 :: hcells b6 [_] 22 :: hcells b4 [_] 22 :: hownT 63 1 encU (.slice none 0 0) (([] : List (BitVec 32))) :: hownT 65 2 Label.enc (.slice none 0 0) (([] : List Label)) :: hownT 28 1 encI (.slice none 0 0) (([] : List Int)) :: l) rfl rfl ?_
      refine W.two ?_ ?_
      ·
        refine W.e rfl rfl rfl rfl (by decide) (Ef.mkT (enc := encU) (0#32) IF63 rfl Try.underlying25 rfl rfl (by decide) (.t rfl) (.t rfl) (by omega) (by omega) (by omega)) ?_
        rintro v271 _ rfl
        refine ⟨.inr ⟨.refl _, [_], rfl⟩, ?_⟩
        refine W.cast (m' := m) (l' := hownT 63 1 encU v271 _ :: hownT 65 2 Label.enc v151 _ :: hownT 63 1 encU (.slice none 0 0) (([] : List (BitVec 32))) :: hownT 65 2 Label.enc (.slice none 0 0) (([] : List Label)) :: hownT 28 1 encI (.slice none 0 0) (([] : List Int)) :: hcells b8 [_, _, _] 27 :: hcells b6 [_] 22 :: hcells b4 [_] 22 :: hownT 63 1 encU (.slice none 0 0) (([] : List (BitVec 32))) :: hownT 65 2 Label.enc (.slice none 0 0) (([] : List Label)) :: hownT 28 1 encI (.slice none 0 0) (([] : List Int)) :: l) rfl rfl ?_
        refine W.q rfl rfl rfl rfl (by decide) (Yd.bld2 (cells := [.slice none 0 0, v151, v271]) (Sl.own (p := 1) rfl) (Sl.own (p := 0) rfl) rfl ZI27 PL27 (.cons (.t rfl) (.cons (.t rfl) .nil)) (by rintro ⟨_, _, _, rfl⟩; rintro ⟨_, _, _, rfl⟩; rfl)) ?_
        refine W.e rfl rfl rfl rfl (by decide) (Ef.al rfl ZR27 rfl) ?_
        rintro _ _ ⟨b351, rfl, rfl⟩
        refine ⟨.inr ⟨.refl _, [_], rfl⟩, ?_⟩
        refine W.cast (m' := m) (l' := hcells b351 [_, _, _] 27 :: hownT 63 1 encU v271 _ :: hownT 65 2 Label.enc v151 _ :: hownT 63 1 encU (.slice none 0 0) (([] : List (BitVec 32))) :: hownT 65 2 Label.enc (.slice none 0 0) (([] : List Label)) :: hownT 28 1 encI (.slice none 0 0) (([] : List Int)) :: hcells b8 [_, _, _] 27 :: hcells b6 [_] 22 :: hcells b4 [_] 22 :: hownT 63 1 encU (.slice none 0 0) (([] : List (BitVec 32))) :: hownT 65 2 Label.enc (.slice none 0 0) (([] : List Label)) :: hownT 28 1 encI (.slice none 0 0) (([] : List Int)) :: l) rfl rfl ?_
        refine W.s rfl rfl rfl rfl (Ef.stBs (pos := 0) (us := [(.slice none 0 0), v151, v271]) (cs' := [_, _, _]) (.cons (On.own (pos := 5) rfl) (.cons (On.own (pos := 2) rfl) (.cons (On.own (pos := 1) rfl) .nil))) rfl rfl (.t rfl) (.t rfl) SZ27 rfl rfl (Nat.le_of_ble_eq_true rfl) rfl) ?_
        rintro _ _ ⟨rfl, rfl⟩
        refine ⟨.inl rfl, ?_⟩
        refine W.cast (m' := m) (l' := hcells b351 [_, _, _] 27 :: hownT 63 1 encU v271 _ :: hownT 65 2 Label.enc v151 _ :: hownT 63 1 encU (.slice none 0 0) (([] : List (BitVec 32))) :: hownT 65 2 Label.enc (.slice none 0 0) (([] : List Label)) :: hownT 28 1 encI (.slice none 0 0) (([] : List Int)) :: hcells b8 [_, _, _] 27 :: hcells b6 [_] 22 :: hcells b4 [_] 22 :: hownT 63 1 encU (.slice none 0 0) (([] : List (BitVec 32))) :: hownT 65 2 Label.enc (.slice none 0 0) (([] : List Label)) :: hownT 28 1 encI (.slice none 0 0) (([] : List Int)) :: l) rfl rfl ?_
        refine W.end ?_
        refine NX.sub (env' := [(2, _), (3, _), (4, _), (6, _), (9, _)]) ⟨rfl, rfl, rfl, rfl, rfl, trivial⟩ ?_
        refine NX.drop (l' := hcells b351 [_, _, _] 27 :: hownT 63 1 encU v271 _ :: hownT 65 2 Label.enc v151 _ :: hownT 28 1 encI (.slice none 0 0) (([] : List Int)) :: hcells b8 [_, _, _] 27 :: hcells b6 [_] 22 :: hcells b4 [_] 22 :: hownT 63 1 encU (.slice none 0 0) (([] : List (BitVec 32))) :: hownT 65 2 Label.enc (.slice none 0 0) (([] : List Label)) :: hownT 28 1 encI (.slice none 0 0) (([] : List Int)) :: l) (.cons_cons _ (.cons_cons _ (.cons_cons _ (.cons _ (.cons _ (.cons_cons _ (.cons_cons _ (.cons_cons _ (.cons_cons _ (.cons_cons _ (.cons_cons _ (.cons_cons _ (.refl _))))))))))))) ?_
        exact hk391 _ _ ⟨_, _, _, rfl, rfl, hr⟩
      ·
        refine W.e rfl rfl rfl rfl (by decide) (Ef.al rfl ZR27 rfl) ?_
        rintro _ _ ⟨b351, rfl, rfl⟩
        refine ⟨.inr ⟨.refl _, [_], rfl⟩, ?_⟩
        refine W.cast (m' := m) (l' := hcells b351 [_, _, _] 27 :: hownT 65 2 Label.enc v151 _ :: hownT 63 1 encU (.slice none 0 0) (([] : List (BitVec 32))) :: hownT 65 2 Label.enc (.slice none 0 0) (([] : List Label)) :: hownT 28 1 encI (.slice none 0 0) (([] : List Int)) :: hcells b8 [_, _, _] 27 :: hcells b6 [_] 22 :: hcells b4 [_] 22 :: hownT 63 1 encU (.slice none 0 0) (([] : List (BitVec 32))) :: hownT 65 2 Label.enc (.slice none 0 0) (([] : List Label)) :: hownT 28 1 encI (.slice none 0 0) (([] : List Int)) :: l) rfl rfl ?_
        refine W.e rfl rfl rfl rfl (by decide) (Ef.mkT (enc := encU) (0#32) IF63 rfl Try.underlying25 rfl rfl (by decide) (.t rfl) (.t rfl) (by omega) (by omega) (by omega)) ?_
        rintro v271 _ rfl
        refine ⟨.inr ⟨.refl _, [_], rfl⟩, ?_⟩
        refine W.cast (m' := m) (l' := hownT 63 1 encU v271 _ :: hcells b351 [_, _, _] 27 :: hownT 65 2 Label.enc v151 _ :: hownT 63 1 encU (.slice none 0 0) (([] : List (BitVec 32))) :: hownT 65 2 Label.enc (.slice none 0 0) (([] : List Label)) :: hownT 28 1 encI (.slice none 0 0) (([] : List Int)) :: hcells b8 [_, _, _] 27 :: hcells b6 [_] 22 :: hcells b4 [_] 22 :: hownT 63 1 encU (.slice none 0 0) (([] : List (BitVec 32))) :: hownT 65 2 Label.enc (.slice none 0 0) (([] : List Label)) :: hownT 28 1 encI (.slice none 0 0) (([] : List Int)) :: l) rfl rfl ?_
        refine W.q rfl rfl rfl rfl (by decide) (Yd.bld2 (cells := [.slice none 0 0, v151, v271]) (Sl.own (p := 2) rfl) (Sl.own (p := 0) rfl) rfl ZI27 PL27 (.cons (.t rfl) (.cons (.t rfl) .nil)) (by rintro ⟨_, _, _, rfl⟩; rintro ⟨_, _, _, rfl⟩; rfl)) ?_
        refine W.s rfl rfl rfl rfl (Ef.stBs (pos := 1) (us := [(.slice none 0 0), v151, v271]) (cs' := [_, _, _]) (.cons (On.own (pos := 5) rfl) (.cons (On.own (pos := 2) rfl) (.cons (On.own (pos := 0) rfl) .nil))) rfl rfl (.t rfl) (.t rfl) SZ27 rfl rfl (Nat.le_of_ble_eq_true rfl) rfl) ?_
        rintro _ _ ⟨rfl, rfl⟩
        refine ⟨.inl rfl, ?_⟩
        refine W.cast (m' := m) (l' := hownT 63 1 encU v271 _ :: hcells b351 [_, _, _] 27 :: hownT 65 2 Label.enc v151 _ :: hownT 63 1 encU (.slice none 0 0) (([] : List (BitVec 32))) :: hownT 65 2 Label.enc (.slice none 0 0) (([] : List Label)) :: hownT 28 1 encI (.slice none 0 0) (([] : List Int)) :: hcells b8 [_, _, _] 27 :: hcells b6 [_] 22 :: hcells b4 [_] 22 :: hownT 63 1 encU (.slice none 0 0) (([] : List (BitVec 32))) :: hownT 65 2 Label.enc (.slice none 0 0) (([] : List Label)) :: hownT 28 1 encI (.slice none 0 0) (([] : List Int)) :: l) rfl rfl ?_
        refine W.end ?_
        refine NX.imp (fun w hw => cX_front (p := 11) hw rfl) ?_
        refine NX.imp (fun w hw => cX_front (p := 11) hw rfl) ?_
        refine NX.imp (fun w hw => cX_front (p := 11) hw rfl) ?_
        refine NX.imp (fun w hw => cX_front (p := 11) hw rfl) ?_
        refine NX.imp (fun w hw => cX_front (p := 11) hw rfl) ?_
        refine NX.imp (fun w hw => cX_front (p := 11) hw rfl) ?_
        refine NX.imp (fun w hw => cX_front (p := 11) hw rfl) ?_
        refine NX.imp (fun w hw => cX_front (p := 11) hw rfl) ?_
        refine NX.imp (fun w hw => cX_front (p := 11) hw rfl) ?_
        refine NX.imp (fun w hw => cX_front (p := 11) hw rfl) ?_
        refine NX.imp (fun w hw => cX_front (p := 10) hw rfl) ?_
        refine NX.imp (fun w hw => cX_front (p := 11) hw rfl) ?_
        refine NX.cast (m' := m) (l' := hcells b351 [_, _, _] 27 :: hownT 63 1 encU v271 _ :: hownT 65 2 Label.enc v151 _ :: hownT 63 1 encU (.slice none 0 0) (([] : List (BitVec 32))) :: hownT 65 2 Label.enc (.slice none 0 0) (([] : List Label)) :: hownT 28 1 encI (.slice none 0 0) (([] : List Int)) :: hcells b8 [_, _, _] 27 :: hcells b6 [_] 22 :: hcells b4 [_] 22 :: hownT 63 1 encU (.slice none 0 0) (([] : List (BitVec 32))) :: hownT 65 2 Label.enc (.slice none 0 0) (([] : List Label)) :: hownT 28 1 encI (.slice none 0 0) (([] : List Int)) :: l) rfl rfl ?_
        refine NX.sub (env' := [(2, _), (3, _), (4, _), (6, _), (9, _)]) ⟨rfl, rfl, rfl, rfl, rfl, trivial⟩ ?_
        refine NX.drop (l' := hcells b351 [_, _, _] 27 :: hownT 63 1 encU v271 _ :: hownT 65 2 Label.enc v151 _ :: hownT 28 1 encI (.slice none 0 0) (([] : List Int)) :: hcells b8 [_, _, _] 27 :: hcells b6 [_] 22 :: hcells b4 [_] 22 :: hownT 63 1 encU (.slice none 0 0) (([] : List (BitVec 32))) :: hownT 65 2 Label.enc (.slice none 0 0) (([] : List Label)) :: hownT 28 1 encI (.slice none 0 0) (([] : List Int)) :: l) (.cons_cons _ (.cons_cons _ (.cons_cons _ (.cons _ (.cons _ (.cons_cons _ (.cons_cons _ (.cons_cons _ (.cons_cons _ (.cons_cons _ (.cons_cons _ (.cons_cons _ (.refl _))))))))))))) ?_
        exact hk391 _ _ ⟨_, _, _, rfl, rfl, hr⟩
    ·
      refine W.e rfl rfl rfl rfl (by decide) (Ef.mkT (enc := encU) (0#32) IF63 rfl Try.underlying25 rfl rfl (by decide) (.t rfl) (.t rfl) (by omega) (by omega) (by omega)) ?_
      rintro v271 _ rfl
      refine ⟨.inr ⟨.refl _, [_], rfl⟩, ?_⟩
      refine W.cast (m' := m) (l' := hownT 63 1 encU v271 _ :: hownT 63 1 encU (.slice none 0 0) (([] : List (BitVec 32))) :: hownT 65 2 Label.enc (.slice none 0 0) (([] : List Label)) :: hownT 28 1 encI (.slice none 0 0) (([] : List Int)) :: hcells b8 [_, _, _] 27 :: hcells b6 [_] 22 :: hcells b4 [_] 22 :: hownT 63 1 encU (.slice none 0 0) (([] : List (BitVec 32))) :: hownT 65 2 Label.enc (.slice none 0 0) (([] : List Label)) :: hownT 28 1 encI (.slice none 0 0) (([] : List Int)) :: l) rfl rfl ?_
      refine W.two ?_ ?_
      ·
        refine W.e rfl rfl rfl rfl (by decide) (Ef.mkT (enc := Label.enc) ({ level := (0 : Int), parts := (0#32) } : Label) IF65 rfl Try.underlying22 rfl rfl (by decide) (.t rfl) (.t rfl) (by omega) (by omega) (by omega)) ?_
        rintro v151 _ rfl
        refine ⟨.inr ⟨.refl _, [_], rfl⟩, ?_⟩
        refine W.cast (m' := m) (l' := hownT 65 2 Label.enc v151 _ :: hownT 63 1 encU v271 _ :: hownT 63 1 encU (.slice none 0 0) (([] : List (BitVec 32))) :: hownT 65 2 Label.enc (.slice none 0 0) (([] : List Label)) :: hownT 28 1 encI (.slice none 0 0) (([] : List Int)) :: hcells b8 [_, _, _] 27 :: hcells b6 [_] 22 :: hcells b4 [_] 22 :: hownT 63 1 encU (.slice none 0 0) (([] : List (BitVec 32))) :: hownT 65 2 Label.enc (.slice none 0 0) (([] : List Label)) :: hownT 28 1 encI (.slice none 0 0) (([] : List Int)) :: l) rfl rfl ?_
        refine W.q rfl rfl rfl rfl (by decide) (Yd.bld2 (cells := [.slice none 0 0, v151, v271]) (Sl.own (p := 0) rfl) (Sl.own (p := 1) rfl) rfl ZI27 PL27 (.cons (.t rfl) (.cons (.t rfl) .nil)) (by rintro ⟨_, _, _, rfl⟩; rintro ⟨_, _, _, rfl⟩; rfl)) ?_
        refine W.e rfl rfl rfl rfl (by decide) (Ef.al rfl ZR27 rfl) ?_
        rintro _ _ ⟨b351, rfl, rfl⟩
        refine ⟨.inr ⟨.refl _, [_], rfl⟩, ?_⟩
        refine W.cast (m' := m) (l' := hcells b351 [_, _, _] 27 :: hownT 65 2 Label.enc v151 _ :: hownT 63 1 encU v271 _ :: hownT 63 1 encU (.slice none 0 0) (([] : List (BitVec 32))) :: hownT 65 2 Label.enc (.slice none 0 0) (([] : List Label)) :: hownT 28 1 encI (.slice none 0 0) (([] : List Int)) :: hcells b8 [_, _, _] 27 :: hcells b6 [_] 22 :: hcells b4 [_] 22 :: hownT 63 1 encU (.slice none 0 0) (([] : List (BitVec 32))) :: hownT 65 2 Label.enc (.slice none 0 0) (([] : List Label)) :: hownT 28 1 encI (.slice none 0 0) (([] : List Int)) :: l) rfl rfl ?_
        refine W.s rfl rfl rfl rfl (Ef.stBs (pos := 0) (us := [(.slice none 0 0), v151, v271]) (cs' := [_, _, _]) (.cons (On.own (pos := 5) rfl) (.cons (On.own (pos := 1) rfl) (.cons (On.own (pos := 2) rfl) .nil))) rfl rfl (.t rfl) (.t rfl) SZ27 rfl rfl (Nat.le_of_ble_eq_true rfl) rfl) ?_
        rintro _ _ ⟨rfl, rfl⟩
        refine ⟨.inl rfl, ?_⟩
        refine W.cast (m' := m) (l' := hcells b351 [_, _, _] 27 :: hownT 65 2 Label.enc v151 _ :: hownT 63 1 encU v271 _ :: hownT 63 1 encU (.slice none 0 0) (([] : List (BitVec 32))) :: hownT 65 2 Label.enc (.slice none 0 0) (([] : List Label)) :: hownT 28 1 encI (.slice none 0 0) (([] : List Int)) :: hcells b8 [_, _, _] 27 :: hcells b6 [_] 22 :: hcells b4 [_] 22 :: hownT 63 1 encU (.slice none 0 0) (([] : List (BitVec 32))) :: hownT 65 2 Label.enc (.slice none 0 0) (([] : List Label)) :: hownT 28 1 encI (.slice none 0 0) (([] : List Int)) :: l) rfl rfl ?_
        refine W.end ?_
        refine NX.imp (fun w hw => cX_front (p := 11) hw rfl) ?_
        refine NX.imp (fun w hw => cX_front (p := 11) hw rfl) ?_
        refine NX.imp (fun w hw => cX_front (p := 11) hw rfl) ?_
        refine NX.imp (fun w hw => cX_front (p := 11) hw rfl) ?_
        refine NX.imp (fun w hw => cX_front (p := 11) hw rfl) ?_
        refine NX.imp (fun w hw => cX_front (p := 11) hw rfl) ?_
        refine NX.imp (fun w hw => cX_front (p := 11) hw rfl) ?_
        refine NX.imp (fun w hw => cX_front (p := 11) hw rfl) ?_
        refine NX.imp (fun w hw => cX_front (p := 11) hw rfl) ?_
        refine NX.imp (fun w hw => cX_front (p := 10) hw rfl) ?_
        refine NX.imp (fun w hw => cX_front (p := 11) hw rfl) ?_
        refine NX.imp (fun w hw => cX_front (p := 11) hw rfl) ?_
        refine NX.cast (m' := m) (l' := hcells b351 [_, _, _] 27 :: hownT 63 1 encU v271 _ :: hownT 65 2 Label.enc v151 _ :: hownT 63 1 encU (.slice none 0 0) (([] : List (BitVec 32))) :: hownT 65 2 Label.enc (.slice none 0 0) (([] : List Label)) :: hownT 28 1 encI (.slice none 0 0) (([] : List Int)) :: hcells b8 [_, _, _] 27 :: hcells b6 [_] 22 :: hcells b4 [_] 22 :: hownT 63 1 encU (.slice none 0 0) (([] : List (BitVec 32))) :: hownT 65 2 Label.enc (.slice none 0 0) (([] : List Label)) :: hownT 28 1 encI (.slice none 0 0) (([] : List Int)) :: l) rfl rfl ?_
        refine NX.sub (env' := [(2, _), (3, _), (4, _), (6, _), (9, _)]) ⟨rfl, rfl, rfl, rfl, rfl, trivial⟩ ?_
        refine NX.drop (l' := hcells b351 [_, _, _] 27 :: hownT 63 1 encU v271 _ :: hownT 65 2 Label.enc v151 _ :: hownT 28 1 encI (.slice none 0 0) (([] : List Int)) :: hcells b8 [_, _, _] 27 :: hcells b6 [_] 22 :: hcells b4 [_] 22 :: hownT 63 1 encU (.slice none 0 0) (([] : List (BitVec 32))) :: hownT 65 2 Label.enc (.slice none 0 0) (([] : List Label)) :: hownT 28 1 encI (.slice none 0 0) (([] : List Int)) :: l) (.cons_cons _ (.cons_cons _ (.cons_cons _ (.cons _ (.cons _ (.cons_cons _ (.cons_cons _ (.cons_cons _ (.cons_cons _ (.cons_cons _ (.cons_cons _ (.cons_cons _ (.refl _))))))))))))) ?_
        exact hk391 _ _ ⟨_, _, _, rfl, rfl, hr⟩
      ·
        refine W.e rfl rfl rfl rfl (by decide) (Ef.al rfl ZR27 rfl) ?_
        rintro _ _ ⟨b351, rfl, rfl⟩
        refine ⟨.inr ⟨.refl _, [_], rfl⟩, ?_⟩
        refine W.cast (m' := m) (l' := hcells b351 [_, _, _] 27 :: hownT 63 1 encU v271 _ :: hownT 63 1 encU (.slice none 0 0) (([] : List (BitVec 32))) :: hownT 65 2 Label.enc (.slice none 0 0) (([] : List Label)) :: hownT 28 1 encI (.slice none 0 0) (([] : List Int)) :: hcells b8 [_, _, _] 27 :: hcells b6 [_] 22 :: hcells b4 [_] 22 :: hownT 63 1 encU (.slice none 0 0) (([] : List (BitVec 32))) :: hownT 65 2 Label.enc (.slice none 0 0) (([] : List Label)) :: hownT 28 1 encI (.slice none 0 0) (([] : List Int)) :: l) rfl rfl ?_
        refine W.e rfl rfl rfl rfl (by decide) (Ef.mkT (enc := Label.enc) ({ level := (0 : Int), parts := (0#32) } : Label) IF65 rfl Try.underlying22 rfl rfl (by decide) (.t rfl) (.t rfl) (by omega) (by omega) (by omega)) ?_
        rintro v151 _ rfl
        refine ⟨.inr ⟨.refl _, [_], rfl⟩, ?_⟩
        refine W.cast (m' := m) (l' := hownT 65 2 Label.enc v151 _ :: hcells b351 [_, _, _] 27 :: hownT 63 1 encU v271 _ :: hownT 63 1 encU (.slice none 0 0) (([] : List (BitVec 32))) :: hownT 65 2 Label.enc (.slice none 0 0) (([] : List Label)) :: hownT 28 1 encI (.slice none 0 0) (([] : List Int)) :: hcells b8 [_, _, _] 27 :: hcells b6 [_] 22 :: hcells b4 [_] 22 :: hownT 63 1 encU (.slice none 0 0) (([] : List (BitVec 32))) :: hownT 65 2 Label.enc (.slice none 0 0) (([] : List Label)) :: hownT 28 1 encI (.slice none 0 0) (([] : List Int)) :: l) rfl rfl ?_
        refine W.q rfl rfl rfl rfl (by decide) (Yd.bld2 (cells := [.slice none 0 0, v151, v271]) (Sl.own (p := 0) rfl) (Sl.own (p := 2) rfl) rfl ZI27 PL27 (.cons (.t rfl) (.cons (.t rfl) .nil)) (by rintro ⟨_, _, _, rfl⟩; rintro ⟨_, _, _, rfl⟩; rfl)) ?_
        refine W.s rfl rfl rfl rfl (Ef.stBs (pos := 1) (us := [(.slice none 0 0), v151, v271]) (cs' := [_, _, _]) (.cons (On.own (pos := 5) rfl) (.cons (On.own (pos := 0) rfl) (.cons (On.own (pos := 2) rfl) .nil))) rfl rfl (.t rfl) (.t rfl) SZ27 rfl rfl (Nat.le_of_ble_eq_true rfl) rfl) ?_
        rintro _ _ ⟨rfl, rfl⟩
        refine ⟨.inl rfl, ?_⟩
        refine W.cast (m' := m) (l' := hownT 65 2 Label.enc v151 _ :: hcells b351 [_, _, _] 27 :: hownT 63 1 encU v271 _ :: hownT 63 1 encU (.slice none 0 0) (([] : List (BitVec 32))) :: hownT 65 2 Label.enc (.slice none 0 0) (([] : List Label)) :: hownT 28 1 encI (.slice none 0 0) (([] : List Int)) :: hcells b8 [_, _, _] 27 :: hcells b6 [_] 22 :: hcells b4 [_] 22 :: hownT 63 1 encU (.slice none 0 0) (([] : List (BitVec 32))) :: hownT 65 2 Label.enc (.slice none 0 0) (([] : List Label)) :: hownT 28 1 encI (.slice none 0 0) (([] : List Int)) :: l) rfl rfl ?_
        refine W.end ?_
        refine NX.imp (fun w hw => cX_front (p := 11) hw rfl) ?_
        refine NX.imp (fun w hw => cX_front (p := 11) hw rfl) ?_
        refine NX.imp (fun w hw => cX_front (p := 11) hw rfl) ?_
        refine NX.imp (fun w hw => cX_front (p := 11) hw rfl) ?_
        refine NX.imp (fun w hw => cX_front (p := 11) hw rfl) ?_
        refine NX.imp (fun w hw => cX_front (p := 11) hw rfl) ?_
        refine NX.imp (fun w hw => cX_front (p := 11) hw rfl) ?_
        refine NX.imp (fun w hw => cX_front (p := 11) hw rfl) ?_
        refine NX.imp (fun w hw => cX_front (p := 11) hw rfl) ?_
        refine NX.imp (fun w hw => cX_front (p := 9) hw rfl) ?_
        refine NX.imp (fun w hw => cX_front (p := 11) hw rfl) ?_
        refine NX.imp (fun w hw => cX_front (p := 11) hw rfl) ?_
        refine NX.cast (m' := m) (l' := hcells b351 [_, _, _] 27 :: hownT 63 1 encU v271 _ :: hownT 65 2 Label.enc v151 _ :: hownT 63 1 encU (.slice none 0 0) (([] : List (BitVec 32))) :: hownT 65 2 Label.enc (.slice none 0 0) (([] : List Label)) :: hownT 28 1 encI (.slice none 0 0) (([] : List Int)) :: hcells b8 [_, _, _] 27 :: hcells b6 [_] 22 :: hcells b4 [_] 22 :: hownT 63 1 encU (.slice none 0 0) (([] : List (BitVec 32))) :: hownT 65 2 Label.enc (.slice none 0 0) (([] : List Label)) :: hownT 28 1 encI (.slice none 0 0) (([] : List Int)) :: l) rfl rfl ?_
        refine NX.sub (env' := [(2, _), (3, _), (4, _), (6, _), (9, _)]) ⟨rfl, rfl, rfl, rfl, rfl, trivial⟩ ?_
        refine NX.drop (l' := hcells b351 [_, _, _] 27 :: hownT 63 1 encU v271 _ :: hownT 65 2 Label.enc v151 _ :: hownT 28 1 encI (.slice none 0 0) (([] : List Int)) :: hcells b8 [_, _, _] 27 :: hcells b6 [_] 22 :: hcells b4 [_] 22 :: hownT 63 1 encU (.slice none 0 0) (([] : List (BitVec 32))) :: hownT 65 2 Label.enc (.slice none 0 0) (([] : List Label)) :: hownT 28 1 encI (.slice none 0 0) (([] : List Int)) :: l) (.cons_cons _ (.cons_cons _ (.cons_cons _ (.cons _ (.cons _ (.cons_cons _ (.cons_cons _ (.cons_cons _ (.cons_cons _ (.cons_cons _ (.cons_cons _ (.cons_cons _ (.refl _))))))))))))) ?_
        exact hk391 _ _ ⟨_, _, _, rfl, rfl, hr⟩
    ·
      refine W.e rfl rfl rfl rfl (by decide) (Ef.al rfl ZR27 rfl) ?_
      rintro _ _ ⟨b351, rfl, rfl⟩
      refine ⟨.inr ⟨.refl _, [_], rfl⟩, ?_⟩
      refine W.cast (m' := m) (l' := hcells b351 [_, _, _] 27 :: hownT 63 1 encU (.slice none 0 0) (([] : List (BitVec 32))) :: hownT 65 2 Label.enc (.slice none 0 0) (([] : List Label)) :: hownT 28 1 encI (.slice none 0 0) (([] : List Int)) :: hcells b8 [_, _, _] 27 :: hcells b6 [_] 22 :: hcells b4 [_] 22 :: hownT 63 1 encU (.slice none 0 0) (([] : List (BitVec 32))) :: hownT 65 2 Label.enc (.slice none 0 0) (([] : List Label)) :: hownT 28 1 encI (.slice none 0 0) (([] : List Int)) :: l) rfl rfl ?_
      refine W.two ?_ ?_
      ·
        refine W.e rfl rfl rfl rfl (by decide) (Ef.mkT (enc := Label.enc) ({ level := (0 : Int), parts := (0#32) } : Label) IF65 rfl Try.underlying22 rfl rfl (by decide) (.t rfl) (.t rfl) (by omega) (by omega) (by omega)) ?_
        rintro v151 _ rfl
        refine ⟨.inr ⟨.refl _, [_], rfl⟩, ?_⟩
        refine W.cast (m' := m) (l' := hownT 65 2 Label.enc v151 _ :: hcells b351 [_, _, _] 27 :: hownT 63 1 encU (.slice none 0 0) (([] : List (BitVec 32))) :: hownT 65 2 Label.enc (.slice none 0 0) (([] : List Label)) :: hownT 28 1 encI (.slice none 0 0) (([] : List Int)) :: hcells b8 [_, _, _] 27 :: hcells b6 [_] 22 :: hcells b4 [_] 22 :: hownT 63 1 encU (.slice none 0 0) (([] : List (BitVec 32))) :: hownT 65 2 Label.enc (.slice none 0 0) (([] : List Label)) :: hownT 28 1 encI (.slice none 0 0) (([] : List Int)) :: l) rfl rfl ?_
        refine W.e rfl rfl rfl rfl (by decide) (Ef.mkT (enc := encU) (0#32) IF63 rfl Try.underlying25 rfl rfl (by decide) (.t rfl) (.t rfl) (by omega) (by omega) (by omega)) ?_
        rintro v271 _ rfl
        refine ⟨.inr ⟨.refl _, [_], rfl⟩, ?_⟩
        refine W.cast (m' := m) (l' := hownT 63 1 encU v271 _ :: hownT 65 2 Label.enc v151 _ :: hcells b351 [_, _, _] 27 :: hownT 63 1 encU (.slice none 0 0) (([] : List (BitVec 32))) :: hownT 65 2 Label.enc (.slice none 0 0) (([] : List Label)) :: hownT 28 1 encI (.slice none 0 0) (([] : List Int)) :: hcells b8 [_, _, _] 27 :: hcells b6 [_] 22 :: hcells b4 [_] 22 :: hownT 63 1 encU (.slice none 0 0) (([] : List (BitVec 32))) :: hownT 65 2 Label.enc (.slice none 0 0) (([] : List Label)) :: hownT 28 1 encI (.slice none 0 0) (([] : List Int)) :: l) rfl rfl ?_
        refine W.q rfl rfl rfl rfl (by decide) (Yd.bld2 (cells := [.slice none 0 0, v151, v271]) (Sl.own (p := 1) rfl) (Sl.own (p := 0) rfl) rfl ZI27 PL27 (.cons (.t rfl) (.cons (.t rfl) .nil)) (by rintro ⟨_, _, _, rfl⟩; rintro ⟨_, _, _, rfl⟩; rfl)) ?_
        refine W.s rfl rfl rfl rfl (Ef.stBs (pos := 2) (us := [(.slice none 0 0), v151, v271]) (cs' := [_, _, _]) (.cons (On.own (pos := 5) rfl) (.cons (On.own (pos := 1) rfl) (.cons (On.own (pos := 0) rfl) .nil))) rfl rfl (.t rfl) (.t rfl) SZ27 rfl rfl (Nat.le_of_ble_eq_true rfl) rfl) ?_
        rintro _ _ ⟨rfl, rfl⟩
        refine ⟨.inl rfl, ?_⟩
        refine W.cast (m' := m) (l' := hownT 63 1 encU v271 _ :: hownT 65 2 Label.enc v151 _ :: hcells b351 [_, _, _] 27 :: hownT 63 1 encU (.slice none 0 0) (([] : List (BitVec 32))) :: hownT 65 2 Label.enc (.slice none 0 0) (([] : List Label)) :: hownT 28 1 encI (.slice none 0 0) (([] : List Int)) :: hcells b8 [_, _, _] 27 :: hcells b6 [_] 22 :: hcells b4 [_] 22 :: hownT 63 1 encU (.slice none 0 0) (([] : List (BitVec 32))) :: hownT 65 2 Label.enc (.slice none 0 0) (([] : List Label)) :: hownT 28 1 encI (.slice none 0 0) (([] : List Int)) :: l) rfl rfl ?_
        refine W.end ?_
        refine NX.imp (fun w hw => cX_front (p := 11) hw rfl) ?_
        refine NX.imp (fun w hw => cX_front (p := 11) hw rfl) ?_
        refine NX.imp (fun w hw => cX_front (p := 11) hw rfl) ?_
        refine NX.imp (fun w hw => cX_front (p := 11) hw rfl) ?_
        refine NX.imp (fun w hw => cX_front (p := 11) hw rfl) ?_
        refine NX.imp (fun w hw => cX_front (p := 11) hw rfl) ?_
        refine NX.imp (fun w hw => cX_front (p := 11) hw rfl) ?_
        refine NX.imp (fun w hw => cX_front (p := 11) hw rfl) ?_
        refine NX.imp (fun w hw => cX_front (p := 11) hw rfl) ?_
        refine NX.imp (fun w hw => cX_front (p := 10) hw rfl) ?_
        refine NX.imp (fun w hw => cX_front (p := 10) hw rfl) ?_
        refine NX.imp (fun w hw => cX_front (p := 11) hw rfl) ?_
        refine NX.cast (m' := m) (l' := hcells b351 [_, _, _] 27 :: hownT 63 1 encU v271 _ :: hownT 65 2 Label.enc v151 _ :: hownT 63 1 encU (.slice none 0 0) (([] : List (BitVec 32))) :: hownT 65 2 Label.enc (.slice none 0 0) (([] : List Label)) :: hownT 28 1 encI (.slice none 0 0) (([] : List Int)) :: hcells b8 [_, _, _] 27 :: hcells b6 [_] 22 :: hcells b4 [_] 22 :: hownT 63 1 encU (.slice none 0 0) (([] : List (BitVec 32))) :: hownT 65 2 Label.enc (.slice none 0 0) (([] : List Label)) :: hownT 28 1 encI (.slice none 0 0) (([] : List Int)) :: l) rfl rfl ?_
        refine NX.sub (env' := [(2, _), (3, _), (4, _), (6, _), (9, _)]) ⟨rfl, rfl, rfl, rfl, rfl, trivial⟩ ?_
        refine NX.drop (l' := hcells b351 [_, _, _] 27 :: hownT 63 1 encU v271 _ :: hownT 65 2 Label.enc v151 _ :: hownT 28 1 encI (.slice none 0 0) (([] : List Int)) :: hcells b8 [_, _, _] 27 :: hcells b6 [_] 22 :: hcells b4 [_] 22 :: hownT 63 1 encU (.slice none 0 0) (([] : List (BitVec 32))) :: hownT 65 2 Label.enc (.slice none 0 0) (([] : List Label)) :: hownT 28 1 encI (.slice none 0 0) (([] : List Int)) :: l) (.cons_cons _ (.cons_cons _ (.cons_cons _ (.cons _ (.cons _ (.cons_cons _ (.cons_cons _ (.cons_cons _ (.cons_cons _ (.cons_cons _ (.cons_cons _ (.cons_cons _ (.refl _))))))))))))) ?_
        exact hk391 _ _ ⟨_, _, _, rfl, rfl, hr⟩
      ·
        refine W.e rfl rfl rfl rfl (by decide) (Ef.mkT (enc := encU) (0#32) IF63 rfl Try.underlying25 rfl rfl (by decide) (.t rfl) (.t rfl) (by omega) (by omega) (by omega)) ?_
        rintro v271 _ rfl
        refine ⟨.inr ⟨.refl _, [_], rfl⟩, ?_⟩
        refine W.cast (m' := m) (l' := hownT 63 1 encU v271 _ :: hcells b351 [_, _, _] 27 :: hownT 63 1 encU (.slice none 0 0) (([] : List (BitVec 32))) :: hownT 65 2 Label.enc (.slice none 0 0) (([] : List Label)) :: hownT 28 1 encI (.slice none 0 0) (([] : List Int)) :: hcells b8 [_, _, _] 27 :: hcells b6 [_] 22 :: hcells b4 [_] 22 :: hownT 63 1 encU (.slice none 0 0) (([] : List (BitVec 32))) :: hownT 65 2 Label.enc (.slice none 0 0) (([] : List Label)) :: hownT 28 1 encI (.slice none 0 0) (([] : List Int)) :: l) rfl rfl ?_
        refine W.e rfl rfl rfl rfl (by decide) (Ef.mkT (enc := Label.enc) ({ level := (0 : Int), parts := (0#32) } : Label) IF65 rfl Try.underlying22 rfl rfl (by decide) (.t rfl) (.t rfl) (by omega) (by omega) (by omega)) ?_
        rintro v151 _ rfl
        refine ⟨.inr ⟨.refl _, [_], rfl⟩, ?_⟩
        refine W.cast (m' := m) (l' := hownT 65 2 Label.enc v151 _ :: hownT 63 1 encU v271 _ :: hcells b351 [_, _, _] 27 :: hownT 63 1 encU (.slice none 0 0) (([] : List (BitVec 32))) :: hownT 65 2 Label.enc (.slice none 0 0) (([] : List Label)) :: hownT 28 1 encI (.slice none 0 0) (([] : List Int)) :: hcells b8 [_, _, _] 27 :: hcells b6 [_] 22 :: hcells b4 [_] 22 :: hownT 63 1 encU (.slice none 0 0) (([] : List (BitVec 32))) :: hownT 65 2 Label.enc (.slice none 0 0) (([] : List Label)) :: hownT 28 1 encI (.slice none 0 0) (([] : List Int)) :: l) rfl rfl ?_
        refine W.q rfl rfl rfl rfl (by decide) (Yd.bld2 (cells := [.slice none 0 0, v151, v271]) (Sl.own (p := 0) rfl) (Sl.own (p := 1) rfl) rfl ZI27 PL27 (.cons (.t rfl) (.cons (.t rfl) .nil)) (by rintro ⟨_, _, _, rfl⟩; rintro ⟨_, _, _, rfl⟩; rfl)) ?_
        refine W.s rfl rfl rfl rfl (Ef.stBs (pos := 2) (us := [(.slice none 0 0), v151, v271]) (cs' := [_, _, _]) (.cons (On.own (pos := 5) rfl) (.cons (On.own (pos := 0) rfl) (.cons (On.own (pos := 1) rfl) .nil))) rfl rfl (.t rfl) (.t rfl) SZ27 rfl rfl (Nat.le_of_ble_eq_true rfl) rfl) ?_
        rintro _ _ ⟨rfl, rfl⟩
        refine ⟨.inl rfl, ?_⟩
        refine W.cast (m' := m) (l' := hownT 65 2 Label.enc v151 _ :: hownT 63 1 encU v271 _ :: hcells b351 [_, _, _] 27 :: hownT 63 1 encU (.slice none 0 0) (([] : List (BitVec 32))) :: hownT 65 2 Label.enc (.slice none 0 0) (([] : List Label)) :: hownT 28 1 encI (.slice none 0 0) (([] : List Int)) :: hcells b8 [_, _, _] 27 :: hcells b6 [_] 22 :: hcells b4 [_] 22 :: hownT 63 1 encU (.slice none 0 0) (([] : List (BitVec 32))) :: hownT 65 2 Label.enc (.slice none 0 0) (([] : List Label)) :: hownT 28 1 encI (.slice none 0 0) (([] : List Int)) :: l) rfl rfl ?_
        refine W.end ?_
        refine NX.imp (fun w hw => cX_front (p := 11) hw rfl) ?_
        refine NX.imp (fun w hw => cX_front (p := 11) hw rfl) ?_
        refine NX.imp (fun w hw => cX_front (p := 11) hw rfl) ?_
        refine NX.imp (fun w hw => cX_front (p := 11) hw rfl) ?_
        refine NX.imp (fun w hw => cX_front (p := 11) hw rfl) ?_
        refine NX.imp (fun w hw => cX_front (p := 11) hw rfl) ?_
        refine NX.imp (fun w hw => cX_front (p := 11) hw rfl) ?_
        refine NX.imp (fun w hw => cX_front (p := 11) hw rfl) ?_
        refine NX.imp (fun w hw => cX_front (p := 11) hw rfl) ?_
        refine NX.imp (fun w hw => cX_front (p := 9) hw rfl) ?_
        refine NX.imp (fun w hw => cX_front (p := 10) hw rfl) ?_
        refine NX.imp (fun w hw => cX_front (p := 11) hw rfl) ?_
        refine NX.cast (m' := m) (l' := hcells b351 [_, _, _] 27 :: hownT 63 1 encU v271 _ :: hownT 65 2 Label.enc v151 _ :: hownT 63 1 encU (.slice none 0 0) (([] : List (BitVec 32))) :: hownT 65 2 Label.enc (.slice none 0 0) (([] : List Label)) :: hownT 28 1 encI (.slice none 0 0) (([] : List Int)) :: hcells b8 [_, _, _] 27 :: hcells b6 [_] 22 :: hcells b4 [_] 22 :: hownT 63 1 encU (.slice none 0 0) (([] : List (BitVec 32))) :: hownT 65 2 Label.enc (.slice none 0 0) (([] : List Label)) :: hownT 28 1 encI (.slice none 0 0) (([] : List Int)) :: l) rfl rfl ?_
        refine NX.sub (env' := [(2, _), (3, _), (4, _), (6, _), (9, _)]) ⟨rfl, rfl, rfl, rfl, rfl, trivial⟩ ?_
        refine NX.drop (l' := hcells b351 [_, _, _] 27 :: hownT 63 1 encU v271 _ :: hownT 65 2 Label.enc v151 _ :: hownT 28 1 encI (.slice none 0 0) (([] : List Int)) :: hcells b8 [_, _, _] 27 :: hcells b6 [_] 22 :: hcells b4 [_] 22 :: hownT 63 1 encU (.slice none 0 0) (([] : List (BitVec 32))) :: hownT 65 2 Label.enc (.slice none 0 0) (([] : List Label)) :: hownT 28 1 encI (.slice none 0 0) (([] : List Int)) :: l) (.cons_cons _ (.cons_cons _ (.cons_cons _ (.cons _ (.cons _ (.cons_cons _ (.cons_cons _ (.cons_cons _ (.cons_cons _ (.cons_cons _ (.cons_cons _ (.cons_cons _ (.refl _))))))))))))) ?_
        exact hk391 _ _ ⟨_, _, _, rfl, rfl, hr⟩

def syllogistref_Fits (n_0 : Int) (s_1 : (BitVec 32)) : Option (Bool) :=
  some (((decide (n_0 ≥ (32 : Int))) || ((decide (n_0 ≥ (0 : Int))) && (decide (s_1 < (1#32 <<< ((BitVec.ofInt 64 n_0)).toNat))))))

set_option maxRecDepth 100000 in
set_option maxHeartbeats 4000000 in
theorem syllogistref_Fits_ok (w0 : World) (m : Snap) (l : List HI) (n_0 : Int) (s_1 : (BitVec 32)) (r : Bool) (hr : syllogistref_Fits n_0 s_1 = some r) (w : World) (hc : cX w0 ⟨m, l⟩ w) :
    Calls Try.prog 56 [.int .i64 n_0, .int .u32 (s_1.toNat : Int)].toArray w fun e w' => e = .returned (.bool r) ∧ cX w0 ⟨m, l⟩ w' := by
  unfold syllogistref_Fits at hr
  refine calls_of_Tr (N := 18) Try.func56 rfl hc rfl (Nat.le_of_ble_eq_true rfl) ?_
  refine Tr.seq ?_
  refine Tr.region_f (fun _ => false) ?_
  refine W.q rfl rfl rfl rfl (by decide) (Yd.as rfl .c) ?_
  refine W.end ?_
  refine NX.sub (env' := [(0, _), (1, _)]) ⟨rfl, rfl, trivial⟩ ?_
  refine NX.then ?_
  refine Tr.seq ?_
  refine Tr.region_f (fun _ => false) ?_
  refine W.q rfl rfl rfl rfl (by decide) (Yd.mv rfl (.t rfl)) ?_
  refine W.q rfl rfl rfl rfl (by decide) (Yd.geq rfl (.t rfl) .c) ?_
  refine W.q rfl rfl rfl rfl (by decide) (Yd.mv rfl (.t rfl)) ?_
  refine W.g rfl rfl rfl rfl rfl (.t rfl _) rfl (by decide) (fun hG => Yd.mv rfl (.t rfl)) ?_
  refine W.g rfl rfl rfl rfl rfl (.t rfl _) rfl (by decide) (fun hG => Yd.geq rfl (.g rfl hG) .c) ?_
  refine W.g rfl rfl rfl rfl rfl (.t rfl _) rfl (by decide) (fun hG => Yd.mv rfl (.g rfl hG)) ?_
  refine W.g rfl rfl rfl rfl rfl (.g rfl _) rfl (by decide) (fun hG => Yd.mv rfl (.t rfl)) ?_
  refine W.g rfl rfl rfl rfl rfl (.g rfl _) rfl (by decide) (fun hG => Yd.mv rfl (.t rfl)) ?_
  refine W.g rfl rfl rfl rfl rfl (.g rfl _) rfl (by decide) (fun hG => Yd.cvQ rfl US3 Try.underlying74 (.g rfl hG)) ?_
  refine W.g rfl rfl rfl rfl rfl (.g rfl _) rfl (by decide) (fun hG => Yd.shlU (a := 1#32) rfl .c (.g rfl hG) (Int.natCast_nonneg _)) ?_
  refine W.g rfl rfl rfl rfl rfl (.g rfl _) rfl (by decide) (fun hG => Yd.lssU (a := s_1) (b := (1#32 <<< ((BitVec.ofInt 64 n_0)).toNat)) rfl (.g rfl hG) (.g rfl hG)) ?_
  refine W.g rfl rfl rfl rfl rfl (.t rfl _) rfl (by decide) (fun hG => Yd.andG rfl (.g rfl hG) .c rfl rfl hG) ?_
  refine W.q rfl rfl rfl rfl (by decide) (Yd.or rfl (.t rfl) .c rfl rfl) ?_
  refine W.q rfl rfl rfl rfl (by decide) (Yd.as rfl (.t rfl)) ?_
  refine W.end ?_
  refine NX.sub (env' := [(4, _)]) ⟨rfl, trivial⟩ ?_
  refine NX.then ?_
  refine Tr.ret' ?_
  refine res1 rfl rfl ?_
  intro w hc
  cases hr
  exact ⟨rfl, hc⟩

def syllogistref_LabelCheck (a_0 : Label) : Option (Int) :=
  bif (!(((decide (a_0.level < (0 : Int))) || (decide (a_0.level > (3 : Int)))) == false) || (syllogistref_Fits ((5 : Int)) a_0.parts).isSome) then
  (bif (((decide (a_0.level < (0 : Int))) || (decide (a_0.level > (3 : Int)))) || (!(((syllogistref_Fits ((5 : Int)) a_0.parts).getD false)))) then
  some ((4 : Int))
  else
  some ((0 : Int))) else none

set_option maxRecDepth 100000 in
set_option maxHeartbeats 4000000 in
theorem syllogistref_LabelCheck_ok (w0 : World) (m : Snap) (l : List HI) (a_0 : Label) (r : Int) (hr : syllogistref_LabelCheck a_0 = some r) (w : World) (hc : cX w0 ⟨m, l⟩ w) :
    Calls Try.prog 35 [.agg #[.int .i64 a_0.level, .int .u32 (a_0.parts.toNat : Int)]].toArray w fun e w' => e = .returned (.int .i64 r) ∧ cX w0 ⟨m, l⟩ w' := by
  unfold syllogistref_LabelCheck at hr
  refine calls_of_Tr (N := 17) Try.func35 rfl hc rfl (Nat.le_of_ble_eq_true rfl) ?_
  refine Tr.seq ?_
  refine Tr.region_f (fun i => Nat.beq i 0) ?_
  refine W.e rfl rfl rfl rfl (by decide) (Ef.bx rfl (.t rfl) rfl) ?_
  rintro _ _ ⟨b1, rfl, rfl⟩
  refine ⟨.inl rfl, ?_⟩
  refine W.cast (m' := m) (l' := hcells b1 [_, _] 65 :: l) rfl rfl ?_
  refine W.q rfl rfl rfl rfl (by decide) (Yd.as rfl .c) ?_
  refine W.end ?_
  refine NX.sub (env' := [(1, _)]) ⟨rfl, trivial⟩ ?_
  refine NX.then ?_
  refine Tr.seq ?_
  refine Tr.seq ?_
  obtain ⟨ha3, hr⟩ := guard_some hr
  refine Tr.region_f (fun _ => false) ?_
  refine W.q rfl rfl rfl rfl (by decide) (Yd.fldB rfl Try.underlying65 rfl SZ3 rfl (.t rfl)) ?_
  refine W.q rfl rfl rfl rfl (by decide) (Yd.ldB (pos := 0) rfl rfl rfl ON3 (.t rfl)) ?_
  refine W.q rfl rfl rfl rfl (by decide) (Yd.lss rfl (.t rfl) .c) ?_
  refine W.q rfl rfl rfl rfl (by decide) (Yd.mv rfl (.t rfl)) ?_
  refine W.g rfl rfl rfl rfl rfl (.t rfl _) rfl (by decide) (fun hG => Yd.fldB rfl Try.underlying65 rfl SZ3 rfl (.t rfl)) ?_
  refine W.g rfl rfl rfl rfl rfl (.t rfl _) rfl (by decide) (fun hG => Yd.ldB (pos := 0) rfl rfl rfl ON3 (.g rfl hG)) ?_
  refine W.g rfl rfl rfl rfl rfl (.t rfl _) rfl (by decide) (fun hG => Yd.gtr rfl (.g rfl hG) .c) ?_
  refine W.q rfl rfl rfl rfl (by decide) (Yd.or rfl (.t rfl) .c rfl rfl) ?_
  refine W.q rfl rfl rfl rfl (by decide) (Yd.mv rfl (.t rfl)) ?_
  refine W.g rfl rfl rfl rfl rfl (.t rfl _) rfl (by decide) (fun hG => Yd.fldB rfl Try.underlying65 rfl SZ63 rfl (.t rfl)) ?_
  refine W.g rfl rfl rfl rfl rfl (.t rfl _) rfl (by decide) (fun hG => Yd.ldB (pos := 0) rfl rfl rfl ON63 (.g rfl hG)) ?_
  refine W.g rfl rfl rfl rfl rfl (.t rfl _) rfl (by decide) (fun hG => Yd.call (v := .bool ((((syllogistref_Fits ((5 : Int)) a_0.parts).getD false)))) rfl Try.func56 rfl rfl (.cons .c (.cons (.g rfl hG) .nil)) (fun x' hx w hw => syllogistref_Fits_ok w0 x'.m x'.l ((5 : Int)) a_0.parts _ (gd_get (d := false) ha3 hG) w hw)) ?_
  refine W.g rfl rfl rfl rfl rfl (.t rfl _) rfl (by decide) (fun hG => Yd.not rfl (.g rfl hG)) ?_
  refine W.q rfl rfl rfl rfl (by decide) (Yd.or rfl (.t rfl) .c rfl rfl) ?_
  refine W.end ?_
  refine NX.sub (env' := [(16, _)]) ⟨rfl, trivial⟩ ?_
  refine NX.drop (l' := l) (.cons _ (.refl _)) ?_
  refine NX.then ?_
  refine Tr.cond (.t rfl) (fun hb => ?_) (fun hb => ?_)
  · have hr := cond_t hb hr
    refine Tr.seq ?_
    refine Tr.region_f (fun _ => false) ?_
    refine W.q rfl rfl rfl rfl (by decide) (Yd.as rfl .c) ?_
    refine W.end ?_
    refine NX.sub (env' := [(2, _)]) ⟨rfl, trivial⟩ ?_
    refine NX.then ?_
    refine Tr.ret' (RT.then ?_)
    refine res1 rfl rfl ?_
    intro w hc
    cases hr
    exact ⟨rfl, hc⟩
  · have hr := cond_f hb hr
    refine Tr.skip' ?_
    refine NX.then ?_
    refine Tr.seq ?_
    refine Tr.region_f (fun _ => false) ?_
    refine W.q rfl rfl rfl rfl (by decide) (Yd.as rfl .c) ?_
    refine W.end ?_
    refine NX.sub (env' := [(2, _)]) ⟨rfl, trivial⟩ ?_
    refine NX.then ?_
    refine Tr.ret' ?_
    refine res1 rfl rfl ?_
    intro w hc
    cases hr
    exact ⟨rfl, hc⟩

def syllogistref_MarkCheck_k5 : Option (Int) :=
  some ((0 : Int))

def syllogistref_MarkCheck_k19 (nx10 : (Unit → Option (Int))) : Option (Int) :=
  nx10 ()

def syllogistref_MarkCheck_b23 (y12 : (List Label)) (t_22 : Int) (nx24 : Unit → Option (Int)) : Option (Int) :=
  (geti y12 t_22).bind fun y26 =>
  (syllogistref_LabelCheck (({ level := y26.level, parts := y26.parts } : Label))).bind fun r30 =>
  (bif (r30 != (0 : Int)) then
  some ((4 : Int))
  else
  nx24 ())

def syllogistref_MarkCheck_b9 (clear_0 : List Label) (things_1 : List Label) (t_8 : Int) (nx10 : Unit → Option (Int)) : Option (Int) :=
  (geti (([clear_0, things_1] : List (List Label))) t_8).bind fun y12 =>
  forK (σ := Unit) (fun i s nx_ => syllogistref_MarkCheck_b23 y12 i nx_) (fun _ => syllogistref_MarkCheck_k19 nx10) ((y12.length : Int) - (0 : Int)).toNat (0 : Int) ()

def syllogistref_MarkCheck (clear_0 : List Label) (things_1 : List Label) (deeds_2 : Int) : Option (Int) :=
  (bif ((((decide ((clear_0.length : Int) < (1 : Int))) || (decide ((clear_0.length : Int) > (5 : Int)))) || (decide ((things_1.length : Int) > (8 : Int)))) || (decide (deeds_2 > (30 : Int)))) then
  some ((1 : Int))
  else
  forK (σ := Unit) (fun i s nx_ => syllogistref_MarkCheck_b9 clear_0 things_1 i nx_) (fun _ => syllogistref_MarkCheck_k5) (((([clear_0, things_1] : List (List Label))).length : Int) - (0 : Int)).toNat (0 : Int) ())

set_option maxRecDepth 100000 in
set_option maxHeartbeats 4000000 in
theorem syllogistref_MarkCheck_ok (w0 : World) (m : Snap) (l : List HI) (uclear_0 : Value) (clear_0 : List Label) (hclear_0 : RS rLabel m uclear_0 clear_0) (uthings_1 : Value) (things_1 : List Label) (hthings_1 : RS rLabel m uthings_1 things_1) (deeds_2 : Int) (r : Int) (hr : syllogistref_MarkCheck clear_0 things_1 deeds_2 = some r) (w : World) (hc : cX w0 ⟨m, l⟩ w) :
    Calls Try.prog 11 [uclear_0, uthings_1, .int .i64 deeds_2].toArray w fun e w' => e = .returned (.int .i64 r) ∧ cX w0 ⟨m, l⟩ w' := by
  unfold syllogistref_MarkCheck at hr
  refine calls_of_Tr (N := 47) Try.func11 rfl hc rfl (Nat.le_of_ble_eq_true rfl) ?_
  refine Tr.seq ?_
  refine Tr.region_f (fun _ => false) ?_
  refine W.q rfl rfl rfl rfl (by decide) (Yd.as rfl .c) ?_
  refine W.end ?_
  refine NX.sub (env' := [(0, _), (1, _), (2, _)]) ⟨rfl, rfl, rfl, trivial⟩ ?_
  refine NX.then ?_
  refine Tr.seq ?_
  refine Tr.seq ?_
  refine Tr.region_f (fun _ => false) ?_
  refine W.q rfl rfl rfl rfl (by decide) (Yd.mv rfl (.t rfl)) ?_
  refine W.q rfl rfl rfl rfl (by decide) (Yd.lenR hclear_0 rfl Try.underlying22 (.t rfl)) ?_
  refine W.q rfl rfl rfl rfl (by decide) (Yd.lss rfl (.t rfl) .c) ?_
  refine W.q rfl rfl rfl rfl (by decide) (Yd.mv rfl (.t rfl)) ?_
  refine W.g rfl rfl rfl rfl rfl (.t rfl _) rfl (by decide) (fun hG => Yd.mv rfl (.t rfl)) ?_
  refine W.g rfl rfl rfl rfl rfl (.t rfl _) rfl (by decide) (fun hG => Yd.lenR hclear_0 rfl Try.underlying22 (.g rfl hG)) ?_
  refine W.g rfl rfl rfl rfl rfl (.t rfl _) rfl (by decide) (fun hG => Yd.gtr rfl (.g rfl hG) .c) ?_
  refine W.q rfl rfl rfl rfl (by decide) (Yd.or rfl (.t rfl) .c rfl rfl) ?_
  refine W.q rfl rfl rfl rfl (by decide) (Yd.mv rfl (.t rfl)) ?_
  refine W.g rfl rfl rfl rfl rfl (.t rfl _) rfl (by decide) (fun hG => Yd.mv rfl (.t rfl)) ?_
  refine W.g rfl rfl rfl rfl rfl (.t rfl _) rfl (by decide) (fun hG => Yd.lenR hthings_1 rfl Try.underlying22 (.g rfl hG)) ?_
  refine W.g rfl rfl rfl rfl rfl (.t rfl _) rfl (by decide) (fun hG => Yd.gtr rfl (.g rfl hG) .c) ?_
  refine W.q rfl rfl rfl rfl (by decide) (Yd.or rfl (.t rfl) .c rfl rfl) ?_
  refine W.q rfl rfl rfl rfl (by decide) (Yd.mv rfl (.t rfl)) ?_
  refine W.g rfl rfl rfl rfl rfl (.t rfl _) rfl (by decide) (fun hG => Yd.mv rfl (.t rfl)) ?_
  refine W.g rfl rfl rfl rfl rfl (.t rfl _) rfl (by decide) (fun hG => Yd.gtr rfl (.g rfl hG) .c) ?_
  refine W.q rfl rfl rfl rfl (by decide) (Yd.or rfl (.t rfl) .c rfl rfl) ?_
  refine W.end ?_
  refine NX.sub (env' := [(0, _), (1, _), (27, _)]) ⟨rfl, rfl, rfl, trivial⟩ ?_
  refine NX.then ?_
  refine Tr.cond (.t rfl) (fun hb => ?_) (fun hb => ?_)
  · have hr := cond_t hb hr
    refine Tr.seq ?_
    refine Tr.region_f (fun _ => false) ?_
    refine W.q rfl rfl rfl rfl (by decide) (Yd.as rfl .c) ?_
    refine W.end ?_
    refine NX.sub (env' := [(6, _)]) ⟨rfl, trivial⟩ ?_
    refine NX.then ?_
    refine Tr.ret' (RT.then ?_)
    refine res1 rfl rfl ?_
    intro w hc
    cases hr
    exact ⟨rfl, hc⟩
  · have hr := cond_f hb hr
    refine Tr.skip' ?_
    refine NX.then ?_
    refine Tr.seq ?_
    refine Tr.seq ?_
    refine Tr.region_f (fun i => Nat.beq i 2) ?_
    refine W.q rfl rfl rfl rfl (by decide) (Yd.mv rfl (.t rfl)) ?_
    refine W.q rfl rfl rfl rfl (by decide) (Yd.mv rfl (.t rfl)) ?_
    refine W.e rfl rfl rfl rfl (by decide) (Ef.bsRs (us := [uclear_0, uthings_1]) (xss := [clear_0, things_1]) (Rows.snoc (Rows.snoc (Rows.nil _ _) hclear_0) hthings_1) IF22 rfl Try.underlying72 rfl (.cons (.t rfl) (.cons (.t rfl) .nil)) rfl (by decide)) ?_
    rintro v1 _ rfl
    refine ⟨.inl rfl, ?_⟩
    refine W.cast (m' := m) (l' := hown 22 1 v1 _ _ :: l) rfl rfl ?_
    refine W.q rfl rfl rfl rfl (by decide) (Yd.lenO (p := 0) rfl rfl Try.underlying72 (.t rfl)) ?_
    refine W.q rfl rfl rfl rfl (by decide) (Yd.mv rfl .c) ?_
    refine W.end ?_
    refine NX.sub (env' := [(30, _), (31, _), (32, _)]) ⟨rfl, rfl, rfl, trivial⟩ ?_
    refine NX.then ?_
    refine Tr.join (S := fun env x => env = [] ∧ x = ⟨m, l⟩ ∧ syllogistref_MarkCheck_k5 = some r) ?_ (fun hk6 => ?_)
    · rintro _ _ ⟨rfl, rfl, hr⟩
      unfold syllogistref_MarkCheck_k5 at hr
      try dsimp only at hr
      refine NX.then ?_
      refine Tr.seq ?_
      refine Tr.region_f (fun _ => false) ?_
      refine W.q rfl rfl rfl rfl (by decide) (Yd.as rfl .c) ?_
      refine W.end ?_
      refine NX.sub (env' := [(6, _)]) ⟨rfl, trivial⟩ ?_
      refine NX.then ?_
      refine Tr.ret' ?_
      refine res1 rfl rfl ?_
      intro w hc
      cases hr
      exact ⟨rfl, hc⟩
    refine Tr.lenO (pos := 0) rfl (fun hlen7 => ?_)
    refine Tr.block ?_
    refine Tr.sub (env' := [(30, _), (31, _), (32, _)]) ⟨rfl, rfl, rfl, trivial⟩ ?_
    refine Tr.loop (S := fun n (z : Int × Unit) env x => match z with | (t_8, _) => env = [(30, v1), (31, .int .i64 (((([clear_0, things_1] : List (List Label))).length : Int))), (32, .int .i64 t_8)] ∧ x = ⟨m, hown 22 1 v1 (([clear_0, things_1] : List (List Label))).length ([uclear_0, uthings_1] : List Value) :: l⟩ ∧ n = (((([clear_0, things_1] : List (List Label))).length : Int) - t_8).toNat ∧ 0 ≤ t_8 ∧ forK (σ := Unit) (fun i s nx_ => syllogistref_MarkCheck_b9 clear_0 things_1 i nx_) (fun _ => syllogistref_MarkCheck_k5) n t_8 () = some r) _ ((0 : Int), ()) ⟨rfl, rfl, rfl, (by omega), hr⟩ ?_
    rintro n11 ⟨t_8, _⟩ env x ⟨rfl, rfl, hnt_8, h0t_8, hr⟩
    cases n11 with
    | zero =>
      simp only [forK] at hr
      refine Tr.seq ?_
      refine Tr.region_f (fun _ => false) ?_
      refine W.q rfl rfl rfl rfl (by decide) (Yd.lss rfl (.t rfl) (.t rfl)) ?_
      refine W.end ?_
      refine NX.sub (env' := [(30, _), (31, _), (32, _), (33, _)]) ⟨rfl, rfl, rfl, rfl, trivial⟩ ?_
      refine NX.then ?_
      refine Tr.seq ?_
      refine Tr.cond (.t rfl) (fun hb => ?_) (fun hb => ?_)
      · exact absurd (hb.symm.trans (fr_end hnt_8)) (by decide)
      ·
        refine Tr.exit' (EX.then (EX.then (EX.block ?_)))
        refine NX.sub (env' := []) trivial ?_
        refine NX.drop (l' := l) (.cons _ (.refl _)) ?_
        exact hk6 _ _ ⟨rfl, rfl, hr⟩
    | succ n11 =>
      obtain ⟨nx10, hnx10, hr⟩ := forK_succ hr
      try dsimp only at hr
      unfold syllogistref_MarkCheck_b9 at hr
      try dsimp only at hr
      have hltt_8 := fr_bnd hnt_8
      refine Tr.seq ?_
      refine Tr.region_f (fun _ => false) ?_
      refine W.q rfl rfl rfl rfl (by decide) (Yd.lss rfl (.t rfl) (.t rfl)) ?_
      refine W.end ?_
      refine NX.sub (env' := [(30, _), (31, _), (32, _), (33, _)]) ⟨rfl, rfl, rfl, rfl, trivial⟩ ?_
      refine NX.then ?_
      refine Tr.seq ?_
      refine Tr.cond (.t rfl) (fun hb => ?_) (fun hb => ?_)
      rotate_left
      · exact absurd (hb.symm.trans (fr_go hnt_8)) (by decide)
      ·
        refine Tr.skip' ?_
        refine NX.then ?_
        refine Tr.seq ?_
        refine Tr.block ?_
        refine Tr.seq ?_
        obtain ⟨y12, hy13, hr⟩ := bind_some hr
        refine Tr.region_f (fun _ => false) ?_
        refine W.q rfl rfl rfl rfl (by decide) (Yd.idxO (pos := 0) (xs := ([clear_0, things_1] : List (List Label))) rfl hy13 rfl Try.underlying72 SZ22 (.t rfl) (.t rfl)) ?_
        obtain ⟨u14, hu15, hu16⟩ := Rows.get (Rows.snoc (Rows.snoc (Rows.nil _ _) hclear_0) hthings_1) hy13
        refine W.q rfl rfl rfl rfl (by decide) (Yd.ldU (pos := 0) rfl hu15 rfl ON22 (.t rfl)) ?_
        refine W.q rfl rfl rfl rfl (by decide) (Yd.as rfl (.t rfl)) ?_
        refine W.end ?_
        refine NX.sub (env' := [(30, _), (31, _), (32, _), (8, _)]) ⟨rfl, rfl, rfl, rfl, trivial⟩ ?_
        refine NX.then ?_
        refine Tr.seq ?_
        refine Tr.region_f (fun _ => false) ?_
        refine W.q rfl rfl rfl rfl (by decide) (Yd.mv rfl (.t rfl)) ?_
        refine W.q rfl rfl rfl rfl (by decide) (Yd.lenR hu16 rfl Try.underlying22 (.t rfl)) ?_
        refine W.q rfl rfl rfl rfl (by decide) (Yd.mv rfl .c) ?_
        refine W.end ?_
        refine NX.sub (env' := [(30, _), (31, _), (32, _), (36, _), (37, _), (38, _)]) ⟨rfl, rfl, rfl, rfl, rfl, rfl, trivial⟩ ?_
        refine NX.then ?_
        refine Tr.join (S := fun env x => env = [(30, v1), (31, .int .i64 (((([clear_0, things_1] : List (List Label))).length : Int))), (32, .int .i64 t_8)] ∧ x = ⟨m, hown 22 1 v1 (([clear_0, things_1] : List (List Label))).length ([uclear_0, uthings_1] : List Value) :: l⟩ ∧ syllogistref_MarkCheck_k19 nx10 = some r) ?_ (fun hk20 => ?_)
        · rintro _ _ ⟨rfl, rfl, hr⟩
          unfold syllogistref_MarkCheck_k19 at hr
          try dsimp only at hr
          refine NX.block ?_
          refine NX.then ?_
          refine Tr.region_f (fun _ => false) ?_
          refine W.q rfl rfl rfl rfl (by decide) (Yd.add rfl (.t rfl) .c) ?_
          refine W.q rfl rfl rfl rfl (by decide) (Yd.mv rfl (.t rfl)) ?_
          refine W.end ?_
          refine NX.sub (env' := [(30, _), (31, _), (32, _)]) ⟨rfl, rfl, rfl, trivial⟩ ?_
          refine NX.sub (env' := [(30, _), (31, _), (32, _)]) ⟨rfl, rfl, rfl, trivial⟩ ?_
          have hw := w64_id (n := t_8 + 1) (by omega) (by omega)
          exact NX.again n11 (t_8 + 1, ()) (Nat.lt_succ_self _) ⟨(by rw [hw] <;> rfl), rfl, (fr_dec hnt_8), (by omega), ((hnx10 _).symm.trans hr)⟩
        have hlen21 := (hu16).2.1
        refine Tr.block ?_
        refine Tr.sub (env' := [(30, _), (31, _), (32, _), (36, _), (37, _), (38, _)]) ⟨rfl, rfl, rfl, rfl, rfl, rfl, trivial⟩ ?_
        refine Tr.loop (S := fun n (z : Int × Unit) env x => match z with | (t_22, _) => env = [(30, v1), (31, .int .i64 (((([clear_0, things_1] : List (List Label))).length : Int))), (32, .int .i64 t_8), (36, u14), (37, .int .i64 ((y12.length : Int))), (38, .int .i64 t_22)] ∧ x = ⟨m, hown 22 1 v1 (([clear_0, things_1] : List (List Label))).length ([uclear_0, uthings_1] : List Value) :: l⟩ ∧ n = ((y12.length : Int) - t_22).toNat ∧ 0 ≤ t_22 ∧ forK (σ := Unit) (fun i s nx_ => syllogistref_MarkCheck_b23 y12 i nx_) (fun _ => syllogistref_MarkCheck_k19 nx10) n t_22 () = some r) _ ((0 : Int), ()) ⟨rfl, rfl, rfl, (by omega), hr⟩ ?_
        rintro n25 ⟨t_22, _⟩ env x ⟨rfl, rfl, hnt_22, h0t_22, hr⟩
        cases n25 with
        | zero =>
          simp only [forK] at hr
          refine Tr.seq ?_
          refine Tr.region_f (fun _ => false) ?_
          refine W.q rfl rfl rfl rfl (by decide) (Yd.lss rfl (.t rfl) (.t rfl)) ?_
          refine W.end ?_
          refine NX.sub (env' := [(30, _), (31, _), (32, _), (36, _), (37, _), (38, _), (39, _)]) ⟨rfl, rfl, rfl, rfl, rfl, rfl, rfl, trivial⟩ ?_
          refine NX.then ?_
          refine Tr.seq ?_
          refine Tr.cond (.t rfl) (fun hb => ?_) (fun hb => ?_)
          · exact absurd (hb.symm.trans (fr_end hnt_22)) (by decide)
          ·
            refine Tr.exit' (EX.then (EX.then (EX.block ?_)))
            refine NX.sub (env' := [(30, _), (31, _), (32, _)]) ⟨rfl, rfl, rfl, trivial⟩ ?_
            exact hk20 _ _ ⟨rfl, rfl, hr⟩
        | succ n25 =>
          obtain ⟨nx24, hnx24, hr⟩ := forK_succ hr
          try dsimp only at hr
          unfold syllogistref_MarkCheck_b23 at hr
          try dsimp only at hr
          have hltt_22 := fr_bnd hnt_22
          refine Tr.seq ?_
          refine Tr.region_f (fun _ => false) ?_
          refine W.q rfl rfl rfl rfl (by decide) (Yd.lss rfl (.t rfl) (.t rfl)) ?_
          refine W.end ?_
          refine NX.sub (env' := [(30, _), (31, _), (32, _), (36, _), (37, _), (38, _), (39, _)]) ⟨rfl, rfl, rfl, rfl, rfl, rfl, rfl, trivial⟩ ?_
          refine NX.then ?_
          refine Tr.seq ?_
          refine Tr.cond (.t rfl) (fun hb => ?_) (fun hb => ?_)
          rotate_left
          · exact absurd (hb.symm.trans (fr_go hnt_22)) (by decide)
          ·
            refine Tr.skip' ?_
            refine NX.then ?_
            refine Tr.seq ?_
            refine Tr.block ?_
            refine Tr.seq ?_
            obtain ⟨y26, hy27, hr⟩ := bind_some hr
            refine Tr.region_f (fun i => Nat.beq i 2 || Nat.beq i 3) ?_
            refine W.q rfl rfl rfl rfl (by decide) (Yd.idxR hu16 hy27 rfl Try.underlying22 SZ65 (.t rfl) (.t rfl)) ?_
            refine W.q rfl rfl rfl rfl (by decide) (Yd.ldFs (us := [_, _]) hu16 (.refl _) hy27 rfl rfl ON65 US65 SZ65 (.t rfl)) ?_
            refine W.e rfl rfl rfl rfl (by decide) (Ef.al rfl ZR65 rfl) ?_
            rintro _ _ ⟨b28, rfl, rfl⟩
            refine ⟨.inl rfl, ?_⟩
            refine W.cast (m' := m) (l' := hcells b28 [_, _] 65 :: hown 22 1 v1 _ _ :: l) rfl rfl ?_
            refine W.s rfl rfl rfl rfl (Ef.stB (pos := 0) (us := [_, _]) (cs' := [_, _]) rfl rfl (.t rfl) (.t rfl) SZ65 rfl rfl rfl (Nat.le_of_ble_eq_true rfl) rfl) ?_
            rintro _ _ ⟨rfl, rfl⟩
            refine ⟨.inl rfl, ?_⟩
            refine W.cast (m' := m) (l' := hcells b28 [_, _] 65 :: hown 22 1 v1 _ _ :: l) rfl rfl ?_
            refine W.end ?_
            refine NX.sub (env' := [(30, _), (31, _), (32, _), (36, _), (37, _), (38, _), (10, _)]) ⟨rfl, rfl, rfl, rfl, rfl, rfl, rfl, trivial⟩ ?_
            refine NX.then ?_
            refine Tr.seq ?_
            obtain ⟨r30, hr31, hr⟩ := bind_some hr
            refine Tr.region_f (fun _ => false) ?_
            refine W.q rfl rfl rfl rfl (by decide) (Yd.ldBs (pos := 0) (us := [_, _]) rfl rfl rfl rfl ON65 US65 SZ65 (.t rfl)) ?_
            refine W.q rfl rfl rfl rfl (by decide) (Yd.call (v := .int .i64 r30) rfl Try.func35 rfl rfl (.cons (.t rfl) .nil) (fun x' hx w hw => syllogistref_LabelCheck_ok w0 x'.m x'.l (({ level := y26.level, parts := y26.parts } : Label)) _ hr31 w hw)) ?_
            refine W.q rfl rfl rfl rfl (by decide) (Yd.neq rfl (.t rfl) .c) ?_
            refine W.end ?_
            refine NX.sub (env' := [(30, _), (31, _), (32, _), (36, _), (37, _), (38, _), (44, _)]) ⟨rfl, rfl, rfl, rfl, rfl, rfl, rfl, trivial⟩ ?_
            refine NX.drop (l' := hown 22 1 v1 _ _ :: l) (.cons _ (.cons_cons _ (.refl _))) ?_
            refine NX.then ?_
            refine Tr.cond (.t rfl) (fun hb => ?_) (fun hb => ?_)
            · have hr := cond_t hb hr
              refine Tr.seq ?_
              refine Tr.region_f (fun _ => false) ?_
              refine W.q rfl rfl rfl rfl (by decide) (Yd.as rfl .c) ?_
              refine W.end ?_
              refine NX.sub (env' := [(6, _)]) ⟨rfl, trivial⟩ ?_
              refine NX.drop (l' := l) (.cons _ (.refl _)) ?_
              refine NX.then ?_
              refine Tr.ret' (RT.block (RT.then (RT.then (RT.block (RT.block (RT.then (RT.then (RT.block (RT.then ?_)))))))))
              refine res1 rfl rfl ?_
              intro w hc
              cases hr
              exact ⟨rfl, hc⟩
            · have hr := cond_f hb hr
              refine Tr.skip' ?_
              refine NX.block ?_
              refine NX.then ?_
              refine Tr.region_f (fun _ => false) ?_
              refine W.q rfl rfl rfl rfl (by decide) (Yd.add rfl (.t rfl) .c) ?_
              refine W.q rfl rfl rfl rfl (by decide) (Yd.mv rfl (.t rfl)) ?_
              refine W.end ?_
              refine NX.sub (env' := [(30, _), (31, _), (32, _), (36, _), (37, _), (38, _)]) ⟨rfl, rfl, rfl, rfl, rfl, rfl, trivial⟩ ?_
              refine NX.sub (env' := [(30, _), (31, _), (32, _), (36, _), (37, _), (38, _)]) ⟨rfl, rfl, rfl, rfl, rfl, rfl, trivial⟩ ?_
              have hw := w64_id (n := t_22 + 1) (by omega) (by omega)
              exact NX.again n25 (t_22 + 1, ()) (Nat.lt_succ_self _) ⟨(by rw [hw] <;> rfl), rfl, (fr_dec hnt_22), (by omega), ((hnx24 _).symm.trans hr)⟩

def syllogistref_Common_k8 (a_0 : Label) (b_1 : Label) (c7 : Int) : Option (Label) :=
  some (({ level := c7, parts := (a_0.parts &&& b_1.parts) } : Label))

def syllogistref_Common (a_0 : Label) (b_1 : Label) : Option (Label) :=
  (bif (decide (a_0.level > b_1.level)) then
  syllogistref_Common_k8 a_0 b_1 b_1.level
  else
  syllogistref_Common_k8 a_0 b_1 a_0.level)

set_option maxRecDepth 100000 in
set_option maxHeartbeats 4000000 in
theorem syllogistref_Common_ok (w0 : World) (m : Snap) (l : List HI) (a_0 : Label) (b_1 : Label) (r : Label) (hr : syllogistref_Common a_0 b_1 = some r) (w : World) (hc : cX w0 ⟨m, l⟩ w) :
    Calls Try.prog 36 [.agg #[.int .i64 a_0.level, .int .u32 (a_0.parts.toNat : Int)], .agg #[.int .i64 b_1.level, .int .u32 (b_1.parts.toNat : Int)]].toArray w fun e w' => e = .returned (.agg #[.int .i64 r.level, .int .u32 (r.parts.toNat : Int)]) ∧ cX w0 ⟨m, l⟩ w' := by
  unfold syllogistref_Common at hr
  refine calls_of_Tr (N := 20) Try.func36 rfl hc rfl (Nat.le_of_ble_eq_true rfl) ?_
  refine Tr.seq ?_
  refine Tr.region_f (fun i => Nat.beq i 0 || Nat.beq i 1 || Nat.beq i 2) ?_
  refine W.e rfl rfl rfl rfl (by decide) (Ef.bx rfl (.t rfl) rfl) ?_
  rintro _ _ ⟨b1, rfl, rfl⟩
  refine ⟨.inl rfl, ?_⟩
  refine W.cast (m' := m) (l' := hcells b1 [_, _] 65 :: l) rfl rfl ?_
  refine W.e rfl rfl rfl rfl (by decide) (Ef.bx rfl (.t rfl) rfl) ?_
  rintro _ _ ⟨b3, rfl, rfl⟩
  refine ⟨.inl rfl, ?_⟩
  refine W.cast (m' := m) (l' := hcells b3 [_, _] 65 :: hcells b1 [_, _] 65 :: l) rfl rfl ?_
  refine W.e rfl rfl rfl rfl (by decide) (Ef.al rfl ZR65 rfl) ?_
  rintro _ _ ⟨b5, rfl, rfl⟩
  refine ⟨.inl rfl, ?_⟩
  refine W.cast (m' := m) (l' := hcells b5 [_, _] 65 :: hcells b3 [_, _] 65 :: hcells b1 [_, _] 65 :: l) rfl rfl ?_
  refine W.end ?_
  refine NX.sub (env' := [(2, _), (3, _), (4, _)]) ⟨rfl, rfl, rfl, trivial⟩ ?_
  refine NX.then ?_
  refine Tr.seq ?_
  refine Tr.seq ?_
  refine Tr.region_f (fun _ => false) ?_
  refine W.q rfl rfl rfl rfl (by decide) (Yd.fldB rfl Try.underlying65 rfl SZ3 rfl (.t rfl)) ?_
  refine W.q rfl rfl rfl rfl (by decide) (Yd.ldB (pos := 2) rfl rfl rfl ON3 (.t rfl)) ?_
  refine W.q rfl rfl rfl rfl (by decide) (Yd.fldB rfl Try.underlying65 rfl SZ3 rfl (.t rfl)) ?_
  refine W.q rfl rfl rfl rfl (by decide) (Yd.ldB (pos := 1) rfl rfl rfl ON3 (.t rfl)) ?_
  refine W.q rfl rfl rfl rfl (by decide) (Yd.gtr rfl (.t rfl) (.t rfl)) ?_
  refine W.end ?_
  refine NX.sub (env' := [(2, _), (3, _), (4, _), (9, _)]) ⟨rfl, rfl, rfl, rfl, trivial⟩ ?_
  refine NX.then ?_
  refine Tr.join (S := fun env x => ∃ c7 : Int, env = [(2, bp b1 0), (3, bp b3 0), (4, bp b5 0)] ∧ x = ⟨m, hcells b5 [.int .i64 ((0 : Int)), .int .u32 (((0#32)).toNat : Int)] 65 :: hcells b3 [.int .i64 b_1.level, .int .u32 (b_1.parts.toNat : Int)] 65 :: hcells b1 [.int .i64 c7, .int .u32 (a_0.parts.toNat : Int)] 65 :: l⟩ ∧ syllogistref_Common_k8 a_0 b_1 c7 = some r) ?_ (fun hk9 => ?_)
  · rintro _ _ ⟨c7, rfl, rfl, hr⟩
    unfold syllogistref_Common_k8 at hr
    try dsimp only at hr
    refine NX.then ?_
    refine Tr.seq ?_
    refine Tr.region_f (fun i => Nat.beq i 6) ?_
    refine W.q rfl rfl rfl rfl (by decide) (Yd.fldB rfl Try.underlying65 rfl SZ63 rfl (.t rfl)) ?_
    refine W.q rfl rfl rfl rfl (by decide) (Yd.ldB (pos := 2) rfl rfl rfl ON63 (.t rfl)) ?_
    refine W.q rfl rfl rfl rfl (by decide) (Yd.fldB rfl Try.underlying65 rfl SZ63 rfl (.t rfl)) ?_
    refine W.q rfl rfl rfl rfl (by decide) (Yd.ldB (pos := 1) rfl rfl rfl ON63 (.t rfl)) ?_
    refine W.q rfl rfl rfl rfl (by decide) (Yd.andU (a := a_0.parts) (b := b_1.parts) rfl (.t rfl) (.t rfl)) ?_
    refine W.q rfl rfl rfl rfl (by decide) (Yd.fldB rfl Try.underlying65 rfl SZ63 rfl (.t rfl)) ?_
    refine W.s rfl rfl rfl rfl (Ef.stB (pos := 2) (us := [_]) (cs' := [_, _]) rfl rfl (.t rfl) (.t rfl) SZ63 rfl rfl rfl (Nat.le_of_ble_eq_true rfl) rfl) ?_
    rintro _ _ ⟨rfl, rfl⟩
    refine ⟨.inl rfl, ?_⟩
    refine W.cast (m' := m) (l' := hcells b5 [_, _] 65 :: hcells b3 [_, _] 65 :: hcells b1 [_, _] 65 :: l) rfl rfl ?_
    refine W.end ?_
    refine NX.sub (env' := [(2, _), (4, _)]) ⟨rfl, rfl, trivial⟩ ?_
    refine NX.drop (l' := hcells b5 [_, _] 65 :: hcells b1 [_, _] 65 :: l) (.cons_cons _ (.cons _ (.cons_cons _ (.refl _)))) ?_
    refine NX.then ?_
    refine Tr.seq ?_
    refine Tr.region_f (fun i => Nat.beq i 1) ?_
    refine W.q rfl rfl rfl rfl (by decide) (Yd.ldBs (pos := 1) (us := [_, _]) rfl rfl rfl rfl ON65 US65 SZ65 (.t rfl)) ?_
    refine W.s rfl rfl rfl rfl (Ef.stB (pos := 0) (us := [_, _]) (cs' := [_, _]) rfl rfl (.t rfl) (.t rfl) SZ65 rfl rfl rfl (Nat.le_of_ble_eq_true rfl) rfl) ?_
    rintro _ _ ⟨rfl, rfl⟩
    refine ⟨.inl rfl, ?_⟩
    refine W.cast (m' := m) (l' := hcells b5 [_, _] 65 :: hcells b1 [_, _] 65 :: l) rfl rfl ?_
    refine W.end ?_
    refine NX.sub (env' := [(4, _)]) ⟨rfl, trivial⟩ ?_
    refine NX.drop (l' := hcells b5 [_, _] 65 :: l) (.cons_cons _ (.cons _ (.refl _))) ?_
    refine NX.then ?_
    refine Tr.ret' ?_
    refine resV1 rfl (Rv.cs (pos := 0) rfl rfl rfl ON65 US65 SZ65) ?_
    intro w hc
    cases hr
    exact ⟨rfl, (cX_sub (.cons _ (.refl _)) hc)⟩
  refine Tr.cond (.t rfl) (fun hb => ?_) (fun hb => ?_)
  · have hr := cond_t hb hr
    refine Tr.region_f (fun i => Nat.beq i 3) ?_
    refine W.q rfl rfl rfl rfl (by decide) (Yd.fldB rfl Try.underlying65 rfl SZ3 rfl (.t rfl)) ?_
    refine W.q rfl rfl rfl rfl (by decide) (Yd.ldB (pos := 1) rfl rfl rfl ON3 (.t rfl)) ?_
    refine W.q rfl rfl rfl rfl (by decide) (Yd.fldB rfl Try.underlying65 rfl SZ3 rfl (.t rfl)) ?_
    refine W.s rfl rfl rfl rfl (Ef.stB (pos := 2) (us := [_]) (cs' := [_, _]) rfl rfl (.t rfl) (.t rfl) SZ3 rfl rfl rfl (Nat.le_of_ble_eq_true rfl) rfl) ?_
    rintro _ _ ⟨rfl, rfl⟩
    refine ⟨.inl rfl, ?_⟩
    refine W.cast (m' := m) (l' := hcells b5 [_, _] 65 :: hcells b3 [_, _] 65 :: hcells b1 [_, _] 65 :: l) rfl rfl ?_
    refine W.end ?_
    refine NX.sub (env' := [(2, _), (3, _), (4, _)]) ⟨rfl, rfl, rfl, trivial⟩ ?_
    refine NX.sub (env' := [(2, _), (3, _), (4, _)]) ⟨rfl, rfl, rfl, trivial⟩ ?_
    exact hk9 _ _ ⟨_, rfl, rfl, hr⟩
  · have hr := cond_f hb hr
    refine Tr.skip' ?_
    refine NX.sub (env' := [(2, _), (3, _), (4, _)]) ⟨rfl, rfl, rfl, trivial⟩ ?_
    exact hk9 _ _ ⟨_, rfl, rfl, hr⟩

def syllogistref_Both_k8 (a_0 : Label) (b_1 : Label) (c7 : Int) : Option (Label) :=
  some (({ level := c7, parts := (a_0.parts ||| b_1.parts) } : Label))

def syllogistref_Both (a_0 : Label) (b_1 : Label) : Option (Label) :=
  (bif (decide (a_0.level < b_1.level)) then
  syllogistref_Both_k8 a_0 b_1 b_1.level
  else
  syllogistref_Both_k8 a_0 b_1 a_0.level)

set_option maxRecDepth 100000 in
set_option maxHeartbeats 4000000 in
theorem syllogistref_Both_ok (w0 : World) (m : Snap) (l : List HI) (a_0 : Label) (b_1 : Label) (r : Label) (hr : syllogistref_Both a_0 b_1 = some r) (w : World) (hc : cX w0 ⟨m, l⟩ w) :
    Calls Try.prog 37 [.agg #[.int .i64 a_0.level, .int .u32 (a_0.parts.toNat : Int)], .agg #[.int .i64 b_1.level, .int .u32 (b_1.parts.toNat : Int)]].toArray w fun e w' => e = .returned (.agg #[.int .i64 r.level, .int .u32 (r.parts.toNat : Int)]) ∧ cX w0 ⟨m, l⟩ w' := by
  unfold syllogistref_Both at hr
  refine calls_of_Tr (N := 20) Try.func37 rfl hc rfl (Nat.le_of_ble_eq_true rfl) ?_
  refine Tr.seq ?_
  refine Tr.region_f (fun i => Nat.beq i 0 || Nat.beq i 1 || Nat.beq i 2) ?_
  refine W.e rfl rfl rfl rfl (by decide) (Ef.bx rfl (.t rfl) rfl) ?_
  rintro _ _ ⟨b1, rfl, rfl⟩
  refine ⟨.inl rfl, ?_⟩
  refine W.cast (m' := m) (l' := hcells b1 [_, _] 65 :: l) rfl rfl ?_
  refine W.e rfl rfl rfl rfl (by decide) (Ef.bx rfl (.t rfl) rfl) ?_
  rintro _ _ ⟨b3, rfl, rfl⟩
  refine ⟨.inl rfl, ?_⟩
  refine W.cast (m' := m) (l' := hcells b3 [_, _] 65 :: hcells b1 [_, _] 65 :: l) rfl rfl ?_
  refine W.e rfl rfl rfl rfl (by decide) (Ef.al rfl ZR65 rfl) ?_
  rintro _ _ ⟨b5, rfl, rfl⟩
  refine ⟨.inl rfl, ?_⟩
  refine W.cast (m' := m) (l' := hcells b5 [_, _] 65 :: hcells b3 [_, _] 65 :: hcells b1 [_, _] 65 :: l) rfl rfl ?_
  refine W.end ?_
  refine NX.sub (env' := [(2, _), (3, _), (4, _)]) ⟨rfl, rfl, rfl, trivial⟩ ?_
  refine NX.then ?_
  refine Tr.seq ?_
  refine Tr.seq ?_
  refine Tr.region_f (fun _ => false) ?_
  refine W.q rfl rfl rfl rfl (by decide) (Yd.fldB rfl Try.underlying65 rfl SZ3 rfl (.t rfl)) ?_
  refine W.q rfl rfl rfl rfl (by decide) (Yd.ldB (pos := 2) rfl rfl rfl ON3 (.t rfl)) ?_
  refine W.q rfl rfl rfl rfl (by decide) (Yd.fldB rfl Try.underlying65 rfl SZ3 rfl (.t rfl)) ?_
  refine W.q rfl rfl rfl rfl (by decide) (Yd.ldB (pos := 1) rfl rfl rfl ON3 (.t rfl)) ?_
  refine W.q rfl rfl rfl rfl (by decide) (Yd.lss rfl (.t rfl) (.t rfl)) ?_
  refine W.end ?_
  refine NX.sub (env' := [(2, _), (3, _), (4, _), (9, _)]) ⟨rfl, rfl, rfl, rfl, trivial⟩ ?_
  refine NX.then ?_
  refine Tr.join (S := fun env x => ∃ c7 : Int, env = [(2, bp b1 0), (3, bp b3 0), (4, bp b5 0)] ∧ x = ⟨m, hcells b5 [.int .i64 ((0 : Int)), .int .u32 (((0#32)).toNat : Int)] 65 :: hcells b3 [.int .i64 b_1.level, .int .u32 (b_1.parts.toNat : Int)] 65 :: hcells b1 [.int .i64 c7, .int .u32 (a_0.parts.toNat : Int)] 65 :: l⟩ ∧ syllogistref_Both_k8 a_0 b_1 c7 = some r) ?_ (fun hk9 => ?_)
  · rintro _ _ ⟨c7, rfl, rfl, hr⟩
    unfold syllogistref_Both_k8 at hr
    try dsimp only at hr
    refine NX.then ?_
    refine Tr.seq ?_
    refine Tr.region_f (fun i => Nat.beq i 6) ?_
    refine W.q rfl rfl rfl rfl (by decide) (Yd.fldB rfl Try.underlying65 rfl SZ63 rfl (.t rfl)) ?_
    refine W.q rfl rfl rfl rfl (by decide) (Yd.ldB (pos := 2) rfl rfl rfl ON63 (.t rfl)) ?_
    refine W.q rfl rfl rfl rfl (by decide) (Yd.fldB rfl Try.underlying65 rfl SZ63 rfl (.t rfl)) ?_
    refine W.q rfl rfl rfl rfl (by decide) (Yd.ldB (pos := 1) rfl rfl rfl ON63 (.t rfl)) ?_
    refine W.q rfl rfl rfl rfl (by decide) (Yd.orU (a := a_0.parts) (b := b_1.parts) rfl (.t rfl) (.t rfl)) ?_
    refine W.q rfl rfl rfl rfl (by decide) (Yd.fldB rfl Try.underlying65 rfl SZ63 rfl (.t rfl)) ?_
    refine W.s rfl rfl rfl rfl (Ef.stB (pos := 2) (us := [_]) (cs' := [_, _]) rfl rfl (.t rfl) (.t rfl) SZ63 rfl rfl rfl (Nat.le_of_ble_eq_true rfl) rfl) ?_
    rintro _ _ ⟨rfl, rfl⟩
    refine ⟨.inl rfl, ?_⟩
    refine W.cast (m' := m) (l' := hcells b5 [_, _] 65 :: hcells b3 [_, _] 65 :: hcells b1 [_, _] 65 :: l) rfl rfl ?_
    refine W.end ?_
    refine NX.sub (env' := [(2, _), (4, _)]) ⟨rfl, rfl, trivial⟩ ?_
    refine NX.drop (l' := hcells b5 [_, _] 65 :: hcells b1 [_, _] 65 :: l) (.cons_cons _ (.cons _ (.cons_cons _ (.refl _)))) ?_
    refine NX.then ?_
    refine Tr.seq ?_
    refine Tr.region_f (fun i => Nat.beq i 1) ?_
    refine W.q rfl rfl rfl rfl (by decide) (Yd.ldBs (pos := 1) (us := [_, _]) rfl rfl rfl rfl ON65 US65 SZ65 (.t rfl)) ?_
    refine W.s rfl rfl rfl rfl (Ef.stB (pos := 0) (us := [_, _]) (cs' := [_, _]) rfl rfl (.t rfl) (.t rfl) SZ65 rfl rfl rfl (Nat.le_of_ble_eq_true rfl) rfl) ?_
    rintro _ _ ⟨rfl, rfl⟩
    refine ⟨.inl rfl, ?_⟩
    refine W.cast (m' := m) (l' := hcells b5 [_, _] 65 :: hcells b1 [_, _] 65 :: l) rfl rfl ?_
    refine W.end ?_
    refine NX.sub (env' := [(4, _)]) ⟨rfl, trivial⟩ ?_
    refine NX.drop (l' := hcells b5 [_, _] 65 :: l) (.cons_cons _ (.cons _ (.refl _))) ?_
    refine NX.then ?_
    refine Tr.ret' ?_
    refine resV1 rfl (Rv.cs (pos := 0) rfl rfl rfl ON65 US65 SZ65) ?_
    intro w hc
    cases hr
    exact ⟨rfl, (cX_sub (.cons _ (.refl _)) hc)⟩
  refine Tr.cond (.t rfl) (fun hb => ?_) (fun hb => ?_)
  · have hr := cond_t hb hr
    refine Tr.region_f (fun i => Nat.beq i 3) ?_
    refine W.q rfl rfl rfl rfl (by decide) (Yd.fldB rfl Try.underlying65 rfl SZ3 rfl (.t rfl)) ?_
    refine W.q rfl rfl rfl rfl (by decide) (Yd.ldB (pos := 1) rfl rfl rfl ON3 (.t rfl)) ?_
    refine W.q rfl rfl rfl rfl (by decide) (Yd.fldB rfl Try.underlying65 rfl SZ3 rfl (.t rfl)) ?_
    refine W.s rfl rfl rfl rfl (Ef.stB (pos := 2) (us := [_]) (cs' := [_, _]) rfl rfl (.t rfl) (.t rfl) SZ3 rfl rfl rfl (Nat.le_of_ble_eq_true rfl) rfl) ?_
    rintro _ _ ⟨rfl, rfl⟩
    refine ⟨.inl rfl, ?_⟩
    refine W.cast (m' := m) (l' := hcells b5 [_, _] 65 :: hcells b3 [_, _] 65 :: hcells b1 [_, _] 65 :: l) rfl rfl ?_
    refine W.end ?_
    refine NX.sub (env' := [(2, _), (3, _), (4, _)]) ⟨rfl, rfl, rfl, trivial⟩ ?_
    refine NX.sub (env' := [(2, _), (3, _), (4, _)]) ⟨rfl, rfl, rfl, trivial⟩ ?_
    exact hk9 _ _ ⟨_, rfl, rfl, hr⟩
  · have hr := cond_f hb hr
    refine Tr.skip' ?_
    refine NX.sub (env' := [(2, _), (3, _), (4, _)]) ⟨rfl, rfl, rfl, trivial⟩ ?_
    exact hk9 _ _ ⟨_, rfl, rfl, hr⟩

def syllogistref_In (a_0 : (BitVec 32)) (b_1 : (BitVec 32)) : Option (Bool) :=
  some (((a_0 ||| b_1) == b_1))

set_option maxRecDepth 100000 in
set_option maxHeartbeats 4000000 in
theorem syllogistref_In_ok (w0 : World) (m : Snap) (l : List HI) (a_0 : (BitVec 32)) (b_1 : (BitVec 32)) (r : Bool) (hr : syllogistref_In a_0 b_1 = some r) (w : World) (hc : cX w0 ⟨m, l⟩ w) :
    Calls Try.prog 57 [.int .u32 (a_0.toNat : Int), .int .u32 (b_1.toNat : Int)].toArray w fun e w' => e = .returned (.bool r) ∧ cX w0 ⟨m, l⟩ w' := by
  unfold syllogistref_In at hr
  refine calls_of_Tr (N := 10) Try.func57 rfl hc rfl (Nat.le_of_ble_eq_true rfl) ?_
  refine Tr.seq ?_
  refine Tr.region_f (fun _ => false) ?_
  refine W.q rfl rfl rfl rfl (by decide) (Yd.as rfl .c) ?_
  refine W.end ?_
  refine NX.sub (env' := [(0, _), (1, _)]) ⟨rfl, rfl, trivial⟩ ?_
  refine NX.then ?_
  refine Tr.seq ?_
  refine Tr.region_f (fun _ => false) ?_
  refine W.q rfl rfl rfl rfl (by decide) (Yd.mv rfl (.t rfl)) ?_
  refine W.q rfl rfl rfl rfl (by decide) (Yd.mv rfl (.t rfl)) ?_
  refine W.q rfl rfl rfl rfl (by decide) (Yd.orU (a := a_0) (b := b_1) rfl (.t rfl) (.t rfl)) ?_
  refine W.q rfl rfl rfl rfl (by decide) (Yd.mv rfl (.t rfl)) ?_
  refine W.q rfl rfl rfl rfl (by decide) (Yd.eqlU (a := (a_0 ||| b_1)) (b := b_1) rfl (.t rfl) (.t rfl)) ?_
  refine W.q rfl rfl rfl rfl (by decide) (Yd.as rfl (.t rfl)) ?_
  refine W.end ?_
  refine NX.sub (env' := [(4, _)]) ⟨rfl, trivial⟩ ?_
  refine NX.then ?_
  refine Tr.ret' ?_
  refine res1 rfl rfl ?_
  intro w hc
  cases hr
  exact ⟨rfl, hc⟩

def syllogistref_Below (a_0 : Label) (b_1 : Label) : Option (Bool) :=
  bif (!((decide (a_0.level ≤ b_1.level)) == true) || (syllogistref_In a_0.parts b_1.parts).isSome) then
  some (((decide (a_0.level ≤ b_1.level)) && (((syllogistref_In a_0.parts b_1.parts).getD false)))) else none

set_option maxRecDepth 100000 in
set_option maxHeartbeats 4000000 in
theorem syllogistref_Below_ok (w0 : World) (m : Snap) (l : List HI) (a_0 : Label) (b_1 : Label) (r : Bool) (hr : syllogistref_Below a_0 b_1 = some r) (w : World) (hc : cX w0 ⟨m, l⟩ w) :
    Calls Try.prog 38 [.agg #[.int .i64 a_0.level, .int .u32 (a_0.parts.toNat : Int)], .agg #[.int .i64 b_1.level, .int .u32 (b_1.parts.toNat : Int)]].toArray w fun e w' => e = .returned (.bool r) ∧ cX w0 ⟨m, l⟩ w' := by
  unfold syllogistref_Below at hr
  refine calls_of_Tr (N := 17) Try.func38 rfl hc rfl (Nat.le_of_ble_eq_true rfl) ?_
  refine Tr.seq ?_
  refine Tr.region_f (fun i => Nat.beq i 0 || Nat.beq i 1) ?_
  refine W.e rfl rfl rfl rfl (by decide) (Ef.bx rfl (.t rfl) rfl) ?_
  rintro _ _ ⟨b1, rfl, rfl⟩
  refine ⟨.inl rfl, ?_⟩
  refine W.cast (m' := m) (l' := hcells b1 [_, _] 65 :: l) rfl rfl ?_
  refine W.e rfl rfl rfl rfl (by decide) (Ef.bx rfl (.t rfl) rfl) ?_
  rintro _ _ ⟨b3, rfl, rfl⟩
  refine ⟨.inl rfl, ?_⟩
  refine W.cast (m' := m) (l' := hcells b3 [_, _] 65 :: hcells b1 [_, _] 65 :: l) rfl rfl ?_
  refine W.q rfl rfl rfl rfl (by decide) (Yd.as rfl .c) ?_
  refine W.end ?_
  refine NX.sub (env' := [(2, _), (3, _)]) ⟨rfl, rfl, trivial⟩ ?_
  refine NX.then ?_
  refine Tr.seq ?_
  obtain ⟨ha5, hr⟩ := guard_some hr
  refine Tr.region_f (fun _ => false) ?_
  refine W.q rfl rfl rfl rfl (by decide) (Yd.fldB rfl Try.underlying65 rfl SZ3 rfl (.t rfl)) ?_
  refine W.q rfl rfl rfl rfl (by decide) (Yd.ldB (pos := 1) rfl rfl rfl ON3 (.t rfl)) ?_
  refine W.q rfl rfl rfl rfl (by decide) (Yd.fldB rfl Try.underlying65 rfl SZ3 rfl (.t rfl)) ?_
  refine W.q rfl rfl rfl rfl (by decide) (Yd.ldB (pos := 0) rfl rfl rfl ON3 (.t rfl)) ?_
  refine W.q rfl rfl rfl rfl (by decide) (Yd.leq rfl (.t rfl) (.t rfl)) ?_
  refine W.q rfl rfl rfl rfl (by decide) (Yd.mv rfl (.t rfl)) ?_
  refine W.g rfl rfl rfl rfl rfl (.t rfl _) rfl (by decide) (fun hG => Yd.fldB rfl Try.underlying65 rfl SZ63 rfl (.t rfl)) ?_
  refine W.g rfl rfl rfl rfl rfl (.t rfl _) rfl (by decide) (fun hG => Yd.ldB (pos := 1) rfl rfl rfl ON63 (.g rfl hG)) ?_
  refine W.g rfl rfl rfl rfl rfl (.t rfl _) rfl (by decide) (fun hG => Yd.fldB rfl Try.underlying65 rfl SZ63 rfl (.t rfl)) ?_
  refine W.g rfl rfl rfl rfl rfl (.t rfl _) rfl (by decide) (fun hG => Yd.ldB (pos := 0) rfl rfl rfl ON63 (.g rfl hG)) ?_
  refine W.g rfl rfl rfl rfl rfl (.t rfl _) rfl (by decide) (fun hG => Yd.call (v := .bool ((((syllogistref_In a_0.parts b_1.parts).getD false)))) rfl Try.func57 rfl rfl (.cons (.g rfl hG) (.cons (.g rfl hG) .nil)) (fun x' hx w hw => syllogistref_In_ok w0 x'.m x'.l a_0.parts b_1.parts _ (gd_get (d := false) ha5 hG) w hw)) ?_
  refine W.q rfl rfl rfl rfl (by decide) (Yd.and rfl (.t rfl) .c rfl rfl) ?_
  refine W.q rfl rfl rfl rfl (by decide) (Yd.as rfl (.t rfl)) ?_
  refine W.end ?_
  refine NX.sub (env' := [(4, _)]) ⟨rfl, trivial⟩ ?_
  refine NX.drop (l' := l) (.cons _ (.cons _ (.refl _))) ?_
  refine NX.then ?_
  refine Tr.ret' ?_
  refine res1 rfl rfl ?_
  intro w hc
  cases hr
  exact ⟨rfl, hc⟩
end Go.Proofs.Ytcihfhfolofomaa.Sy
