/- Functions of the program as plain functions, and that the translation computes them; the conditions stand in each theorem. Printed by an own program. -/
import Derived.Test.YtcihfhfolofomaaSyU
import Derived.Test.YtcihfhfolofomaaT
import Derived.Test.YtcihfhfolofomaaProg
namespace Go.Proofs.Ytcihfhfolofomaa.Sy
open Go
set_option linter.unusedVariables false
theorem SZ22 : (Try.prog.info? 22).map (·.size) = some 1 := by kernel_rfl
theorem ON22 : one Try.prog 22 = true := by kernel_rfl
theorem IN65 : (Try.prog.info? 65).isSome = true := by kernel_rfl
theorem IF65 : (Try.prog.info? 65).map (fun i => (i.zero, i.size, i.bytes)) = some (some (.agg #[.int .i64 0, .int .u32 0]), 2, 16) := by kernel_rfl
theorem SZ3 : (Try.prog.info? 3).map (·.size) = some 1 := by kernel_rfl
theorem ON3 : one Try.prog 3 = true := by kernel_rfl
theorem SZ63 : (Try.prog.info? 63).map (·.size) = some 1 := by kernel_rfl
theorem ON63 : one Try.prog 63 = true := by kernel_rfl
theorem IF22 : (Try.prog.info? 22).map (fun i => (i.zero, i.size, i.bytes)) = some (some (.slice none 0 0), 1, 24) := by kernel_rfl
theorem SZ65 : (Try.prog.info? 65).map (·.size) = some 2 := by kernel_rfl
theorem ON65 : one Try.prog 65 = false := by kernel_rfl
theorem US65 : (Try.prog.underlying 65).isSome = true := by kernel_rfl
theorem ZR65 : (Try.prog.info? 65).bind (·.zero) = some (.agg #[.int .i64 0, .int .u32 0]) := by kernel_rfl
structure T78 where
  clear : List Label
  things : List Label
  marks : List Label
  knows : List (BitVec 32)
  from_ : List (BitVec 32)
def P78 (m : Snap) (z : Value) : Option T78 → Prop
  | none => z = .pointer none
  | some x => ∃ (b : Nat) (u0 u1 u2 u3 u4 : Value), z = bp b 0 ∧ Bk m b 78 [u0, u1, u2, u3, u4] ∧ RS rLabel m u0 x.clear ∧ RS rLabel m u1 x.things ∧ RS rLabel m u2 x.marks ∧ RS rU m u3 x.knows ∧ RS rU m u4 x.from_
theorem P78.mono {m m' : Snap} {z : Value} {o : Option T78} (hm : Sle m m') (h : P78 m z o) : P78 m' z o := by
  cases o with
  | none => exact h
  | some x =>
    obtain ⟨b, u0, u1, u2, u3, u4, hz, hb, h0, h1, h2, h3, h4⟩ := h
    exact ⟨b, u0, u1, u2, u3, u4, hz, hb.mono hm, h0.mono hm, h1.mono hm, h2.mono hm, h3.mono hm, h4.mono hm⟩
theorem ZI65 : (Try.prog.info? 65).bind (·.zero) = some (.agg #[.int .i64 0, .int .u32 0]) := by kernel_rfl
theorem PL65 : plS Try.prog 65 = some [(0, 1), (1, 1)] := by kernel_rfl
theorem SZ25 : (Try.prog.info? 25).map (·.size) = some 1 := by kernel_rfl
theorem ON25 : one Try.prog 25 = true := by kernel_rfl
theorem ZR27 : (Try.prog.info? 27).bind (·.zero) = some (.agg #[.slice none 0 0, .slice none 0 0, .slice none 0 0]) := by kernel_rfl
theorem ZI27 : (Try.prog.info? 27).bind (·.zero) = some (.agg #[.slice none 0 0, .slice none 0 0, .slice none 0 0]) := by kernel_rfl
theorem PL27 : plS Try.prog 27 = some [(0, 1), (1, 1), (2, 1)] := by kernel_rfl
theorem SZ27 : (Try.prog.info? 27).map (·.size) = some 3 := by kernel_rfl
theorem ON27 : one Try.prog 27 = false := by kernel_rfl
theorem US27 : (Try.prog.underlying 27).isSome = true := by kernel_rfl
theorem IF63 : (Try.prog.info? 63).map (fun i => (i.zero, i.size, i.bytes)) = some (some (.int .u32 0), 1, 4) := by kernel_rfl
theorem ZI78 : (Try.prog.info? 78).bind (·.zero) = some (.agg #[.slice none 0 0, .slice none 0 0, .slice none 0 0, .slice none 0 0, .slice none 0 0]) := by kernel_rfl
theorem PL78 : plS Try.prog 78 = some [(0, 1), (1, 1), (2, 1), (3, 1), (4, 1)] := by kernel_rfl
theorem SZ67 : (Try.prog.info? 67).map (·.size) = some 6 := by kernel_rfl
theorem ON67 : one Try.prog 67 = false := by kernel_rfl
theorem US67 : (Try.prog.underlying 67).isSome = true := by kernel_rfl
theorem ZR67 : (Try.prog.info? 67).bind (·.zero) = some (.agg #[.int .i64 0, .int .i64 0, .int .i64 0, .int .i64 0, .int .u32 0, .int .i64 0]) := by kernel_rfl
theorem IF28 : (Try.prog.info? 28).map (fun i => (i.zero, i.size, i.bytes)) = some (some (.int .i64 0), 1, 8) := by kernel_rfl
theorem US3 : (Try.prog.underlying 3).isSome = true := by kernel_rfl
theorem SZ24 : (Try.prog.info? 24).map (·.size) = some 1 := by kernel_rfl
theorem ON24 : one Try.prog 24 = true := by kernel_rfl
theorem SZ28 : (Try.prog.info? 28).map (·.size) = some 1 := by kernel_rfl
theorem ON28 : one Try.prog 28 = true := by kernel_rfl
theorem GU65 : Try.prog.eqGuardType Try.prog.depth 65 = false := by kernel_rfl
theorem ST65 : Try.prog.stoodInHeld 65 = false := by kernel_rfl
theorem US63 : (Try.prog.underlying 63).isSome = true := by kernel_rfl
theorem EQ65 (w : World) (x0 : Int) (x1 : BitVec 32) (y0 : Int) (y1 : BitVec 32) : (binOp .eql 65 (.agg #[.int .i64 x0, .int .u32 (x1.toNat : Int)]) (.agg #[.int .i64 y0, .int .u32 (y1.toNat : Int)])).run Try.prog w = .ok (.bool ((x0 == y0) && ((x1 == y1) && true))) w :=
  eq_s w Try.underlying65 ST65 (fun d => (eqf_cons w rfl (part_one w ON3 rfl) (part_one w ON3 rfl) (run_equalIn_int w _ _ _ _ _ _ Try.underlying3) (eqf_cons w rfl (part_one w ON63 rfl) (part_one w ON63 rfl) (eq_u w Try.underlying63) (eqf_nil w))))
theorem FM : Try.prog.follows .mixedOrders = true := by kernel_rfl

def slices_Grow_SapiLabelapiLabel_fnil (n_1 : Int) : Option (Unit) :=
  (bif (decide (n_1 < (0 : Int))) then
  none
  else
  (bif (decide ((w64 (n_1 - (w64 ((0 : Int) - ((([] : List Label)).length : Int))))) > (0 : Int))) then
  bif decide (0 < (w64 (n_1 - (w64 ((0 : Int) - ((([] : List Label)).length : Int))))) ∧ (w64 (n_1 - (w64 ((0 : Int) - ((([] : List Label)).length : Int))))) ≤ 140737488355328 ∧ ((w64 (n_1 - (w64 ((0 : Int) - ((([] : List Label)).length : Int)))))).toNat * 16 ≤ 140737488355328) then
  some (()) else none
  else
  some (())))

set_option maxRecDepth 100000 in
theorem slices_Grow_SapiLabelapiLabel_fnil_ok (w0 : World) (m : Snap) (l : List HI) (n_1 : Int) (r : Unit) (hr : slices_Grow_SapiLabelapiLabel_fnil n_1 = some r) (w : World) (hc : cX w0 ⟨m, l⟩ w) :
    Calls Try.prog 68 [.slice none 0 0, .int .i64 n_1].toArray w fun e w' => ∃ z0 : Value, e = .returned (z0) ∧ cX w0 ⟨m, hown 65 2 z0 0 [] :: l⟩ w' := by
  unfold slices_Grow_SapiLabelapiLabel_fnil at hr
  refine calls_of_Tr (N := 27) Try.func68 rfl hc rfl (Nat.le_of_ble_eq_true rfl) ?_
  refine Tr.addnil 65 2 ?_
  refine Tr.seq ?_
  refine Tr.region_f (fun _ => false) ?_
  refine W.q rfl rfl rfl rfl (by decide) (Yd.as rfl .c) ?_
  refine W.end ?_
  refine NX.sub (env' := [(0, _), (1, _)]) ⟨rfl, rfl, trivial⟩ ?_
  refine NX.then ?_
  refine Tr.seq ?_
  refine Tr.seq ?_
  refine Tr.region_f (fun _ => false) ?_
  refine W.q rfl rfl rfl rfl (by decide) (Yd.mv rfl (.t rfl)) ?_
  refine W.q rfl rfl rfl rfl (by decide) (Yd.lss rfl (.t rfl) .c) ?_
  refine W.end ?_
  refine NX.sub (env' := [(0, _), (1, _), (6, _)]) ⟨rfl, rfl, rfl, trivial⟩ ?_
  refine NX.then ?_
  refine Tr.cond (.t rfl) (fun hb => ?_) (fun hb => ?_)
  · have hr := cond_t hb hr
    cases hr
  · have hr := cond_f hb hr
    refine Tr.skip' ?_
    refine NX.then ?_
    refine Tr.seq ?_
    refine Tr.seq ?_
    refine Tr.region_f (fun _ => false) ?_
    refine W.q rfl rfl rfl rfl (by decide) (Yd.mv rfl (.t rfl)) ?_
    refine W.q rfl rfl rfl rfl (by decide) (Yd.mv rfl (.t rfl)) ?_
    refine W.q rfl rfl rfl rfl (by decide) (Yd.cap rfl Try.underlying22 (.t rfl)) ?_
    refine W.q rfl rfl rfl rfl (by decide) (Yd.mv rfl (.t rfl)) ?_
    refine W.q rfl rfl rfl rfl (by decide) (Yd.lenO (p := 0) rfl rfl Try.underlying22 (.t rfl)) ?_
    refine W.q rfl rfl rfl rfl (by decide) (Yd.sub rfl (.t rfl) (.t rfl)) ?_
    refine W.q rfl rfl rfl rfl (by decide) (Yd.sub rfl (.t rfl) (.t rfl)) ?_
    refine W.q rfl rfl rfl rfl (by decide) (Yd.as rfl (.t rfl)) ?_
    refine W.end ?_
    refine NX.sub (env' := [(0, _), (1, _)]) ⟨rfl, rfl, trivial⟩ ?_
    refine NX.then ?_
    refine Tr.seq ?_
    refine Tr.region_f (fun _ => false) ?_
    refine W.q rfl rfl rfl rfl (by decide) (Yd.mv rfl (.t rfl)) ?_
    refine W.q rfl rfl rfl rfl (by decide) (Yd.gtr rfl (.t rfl) .c) ?_
    refine W.end ?_
    refine NX.sub (env' := [(0, _), (1, _), (16, _)]) ⟨rfl, rfl, rfl, trivial⟩ ?_
    refine NX.then ?_
    refine Tr.cond (.t rfl) (fun hb => ?_) (fun hb => ?_)
    · have hr := cond_t hb hr
      obtain ⟨hq4, hr⟩ := guard_some hr; replace hq4 := of_decide_eq_true hq4
      refine Tr.region_f (fun i => Nat.beq i 5) ?_
      refine W.q rfl rfl rfl rfl (by decide) (Yd.mv rfl (.t rfl)) ?_
      refine W.q rfl rfl rfl rfl (by decide) (Yd.mv rfl (.t rfl)) ?_
      refine W.q rfl rfl rfl rfl (by decide) (Yd.cap rfl Try.underlying22 (.t rfl)) ?_
      refine W.q rfl rfl rfl rfl (by decide) (Yd.slTo (pos := 0) rfl rfl Try.underlying22 (Option.some_get IN65).symm (.t rfl) (.t rfl) (by decide) (Int.natCast_nonneg _)) ?_
      refine W.q rfl rfl rfl rfl (by decide) (Yd.mv rfl (.t rfl)) ?_
      refine W.e rfl rfl rfl rfl (by decide) (Ef.apMk (pos := 0) IF65 rfl rfl Try.underlying22 Try.underlying3 rfl (by decide) (.t rfl) (.t rfl) hq4) ?_
      rintro v2 _ ⟨cs3, rfl⟩
      refine ⟨.inl rfl, ?_⟩
      refine W.cast (m' := m) (l' := hown 65 2 v2 (((w64 (n_1 - (w64 ((0 : Int) - ((([] : List Label)).length : Int)))))).toNat) cs3 :: l) rfl rfl ?_
      refine W.q rfl rfl rfl rfl (by decide) (Yd.mv rfl (.t rfl)) ?_
      refine W.q rfl rfl rfl rfl (by decide) (Yd.len rfl Try.underlying22 (.t rfl)) ?_
      refine W.q rfl rfl rfl rfl (by decide) (Yd.slTo (pos := 0) rfl rfl Try.underlying22 (Option.some_get IN65).symm (.t rfl) (.t rfl) (by decide) (Int.natCast_nonneg _)) ?_
      refine W.q rfl rfl rfl rfl (by decide) (Yd.as rfl (.t rfl)) ?_
      refine W.end ?_
      refine NX.imp (fun w hw => cX_sl0 (p := 0) rfl hw) ?_
      refine NX.cast (m' := m) (l' := hownT 65 2 Label.enc (slTo v2 0) (([] : List Label)) :: l) rfl rfl ?_
      refine NX.sub (env' := [(0, _)]) ⟨rfl, trivial⟩ ?_
      refine NX.then ?_
      refine Tr.seq ?_
      refine Tr.region_f (fun _ => false) ?_
      refine W.q rfl rfl rfl rfl (by decide) (Yd.mv rfl (.t rfl)) ?_
      refine W.q rfl rfl rfl rfl (by decide) (Yd.as rfl (.t rfl)) ?_
      refine W.end ?_
      refine NX.sub (env' := [(4, _)]) ⟨rfl, trivial⟩ ?_
      refine NX.then ?_
      refine Tr.ret' ?_
      refine res1 rfl rfl ?_
      intro w hc
      cases hr
      exact ⟨_, rfl, hc⟩
    · have hr := cond_f hb hr
      refine Tr.skip' ?_
      refine NX.then ?_
      refine Tr.seq ?_
      refine Tr.region_f (fun _ => false) ?_
      refine W.q rfl rfl rfl rfl (by decide) (Yd.mv rfl (.t rfl)) ?_
      refine W.q rfl rfl rfl rfl (by decide) (Yd.as rfl (.t rfl)) ?_
      refine W.end ?_
      refine NX.sub (env' := [(4, _)]) ⟨rfl, trivial⟩ ?_
      refine NX.then ?_
      refine Tr.ret' ?_
      refine res1 rfl rfl ?_
      intro w hc
      cases hr
      exact ⟨_, rfl, hc⟩

def slices_Concat_SapiLabelapiLabel_k20 (l18 : List Label) : Option ((List Label)) :=
  some l18

def slices_Concat_SapiLabelapiLabel_b24 (slices_0 : List (List Label)) (t_23 : Int) (l16 : List Label) (nx25 : (List Label) → Option ((List Label))) : Option ((List Label)) :=
  (geti slices_0 t_23).bind fun y27 =>
  bif decide (l16.length + y27.length ≤ 8796093022208) then
  nx25 (l16 ++ y27) else none

def slices_Concat_SapiLabelapiLabel_k6 (slices_0 : List (List Label)) (size_5 : Int) : Option ((List Label)) :=
  (slices_Grow_SapiLabelapiLabel_fnil size_5).bind fun r8 =>
  forK (σ := (List Label)) (fun i s nx_ => slices_Concat_SapiLabelapiLabel_b24 slices_0 i s nx_) (fun s => slices_Concat_SapiLabelapiLabel_k20 s) ((slices_0.length : Int) - (0 : Int)).toNat (0 : Int) (([] : List Label))

def slices_Concat_SapiLabelapiLabel_b36 (slices_0 : List (List Label)) (t_35 : Int) (size_3 : Int) (nx37 : Int → Option ((List Label))) : Option ((List Label)) :=
  (geti slices_0 t_35).bind fun y39 =>
  (bif (decide ((w64 (size_3 + (y39.length : Int))) < (0 : Int))) then
  none
  else
  nx37 (w64 (size_3 + (y39.length : Int))))

def slices_Concat_SapiLabelapiLabel (slices_0 : List (List Label)) : Option ((List Label)) :=
  forK (σ := Int) (fun i s nx_ => slices_Concat_SapiLabelapiLabel_b36 slices_0 i s nx_) (fun s => slices_Concat_SapiLabelapiLabel_k6 slices_0 s) ((slices_0.length : Int) - (0 : Int)).toNat (0 : Int) ((0 : Int))

set_option maxRecDepth 100000 in
theorem slices_Concat_SapiLabelapiLabel_ok (w0 : World) (m : Snap) (l : List HI) (uslices_0 : Value) (slices_0 : List (List Label)) (hslices_0 : RS (Rp.slice rLabel) m uslices_0 slices_0) (r : (List Label)) (hr : slices_Concat_SapiLabelapiLabel slices_0 = some r) (w : World) (hc : cX w0 ⟨m, l⟩ w) :
    Calls Try.prog 54 [uslices_0].toArray w fun e w' => ∃ z0 : Value, e = .returned (z0) ∧ cX w0 ⟨m, hownT 65 2 Label.enc z0 r :: l⟩ w' := by
  unfold slices_Concat_SapiLabelapiLabel at hr
  refine calls_of_Tr (N := 36) Try.func54 rfl hc rfl (Nat.le_of_ble_eq_true rfl) ?_
  refine Tr.seq ?_
  refine Tr.region_f (fun _ => false) ?_
  refine W.q rfl rfl rfl rfl (by decide) (Yd.as rfl .c) ?_
  refine W.end ?_
  refine NX.sub (env' := [(0, _)]) ⟨rfl, trivial⟩ ?_
  refine NX.then ?_
  refine Tr.seq ?_
  refine Tr.region_f (fun _ => false) ?_
  refine W.q rfl rfl rfl rfl (by decide) (Yd.as rfl .c) ?_
  refine W.end ?_
  refine NX.sub (env' := [(0, _), (3, _)]) ⟨rfl, rfl, trivial⟩ ?_
  refine NX.then ?_
  refine Tr.seq ?_
  refine Tr.seq ?_
  refine Tr.region_f (fun _ => false) ?_
  refine W.q rfl rfl rfl rfl (by decide) (Yd.mv rfl (.t rfl)) ?_
  refine W.q rfl rfl rfl rfl (by decide) (Yd.lenR hslices_0 rfl Try.underlying72 (.t rfl)) ?_
  refine W.q rfl rfl rfl rfl (by decide) (Yd.mv rfl .c) ?_
  refine W.end ?_
  refine NX.sub (env' := [(0, _), (3, _), (9, _), (10, _), (11, _)]) ⟨rfl, rfl, rfl, rfl, rfl, trivial⟩ ?_
  refine NX.then ?_
  refine Tr.join (S := fun env x => ∃ size_5 : Int, env = [(0, uslices_0), (3, .int .i64 size_5)] ∧ x = ⟨m, l⟩ ∧ slices_Concat_SapiLabelapiLabel_k6 slices_0 size_5 = some r) ?_ (fun hk7 => ?_)
  · rintro _ _ ⟨size_5, rfl, rfl, hr⟩
    unfold slices_Concat_SapiLabelapiLabel_k6 at hr
    try dsimp only at hr
    refine NX.then ?_
    refine Tr.seq ?_
    obtain ⟨r8, hr9, hr⟩ := bind_some hr
    refine Tr.region_f (fun i => Nat.beq i 1) ?_
    refine W.q rfl rfl rfl rfl (by decide) (Yd.mv rfl (.t rfl)) ?_
    refine W.e rfl rfl rfl rfl (by decide) (Ef.call (R := fun z x' => ∃ v10 : Value, z = v10 ∧ x' = ⟨m, hownT 65 2 Label.enc v10 (([] : List Label)) :: l⟩) rfl Try.func68 rfl rfl (.cons .c (.cons (.t rfl) .nil)) (fun w hw => (slices_Grow_SapiLabelapiLabel_fnil_ok w0 _ _ size_5 _ hr9 w hw).mono fun e w' ⟨v10, he, hc'⟩ => ⟨_, _, he, ⟨v10, rfl, rfl⟩, hc'⟩)) ?_
    rintro v10 _ ⟨_, rfl, rfl⟩
    refine ⟨.inl rfl, ?_⟩
    refine W.cast (m' := m) (l' := hownT 65 2 Label.enc v10 _ :: l) rfl rfl ?_
    refine W.q rfl rfl rfl rfl (by decide) (Yd.as rfl (.t rfl)) ?_
    refine W.end ?_
    refine NX.sub (env' := [(0, _), (6, _)]) ⟨rfl, rfl, trivial⟩ ?_
    refine NX.then ?_
    refine Tr.seq ?_
    refine Tr.seq ?_
    refine Tr.region_f (fun _ => false) ?_
    refine W.q rfl rfl rfl rfl (by decide) (Yd.mv rfl (.t rfl)) ?_
    refine W.q rfl rfl rfl rfl (by decide) (Yd.lenR hslices_0 rfl Try.underlying72 (.t rfl)) ?_
    refine W.q rfl rfl rfl rfl (by decide) (Yd.mv rfl .c) ?_
    refine W.end ?_
    refine NX.sub (env' := [(6, _), (25, _), (26, _), (27, _)]) ⟨rfl, rfl, rfl, rfl, trivial⟩ ?_
    refine NX.then ?_
    refine Tr.join (S := fun env x => ∃ l18 : List Label, ∃ v19 : Value, env = [(6, v19)] ∧ x = ⟨m, hownT 65 2 Label.enc v19 l18 :: l⟩ ∧ slices_Concat_SapiLabelapiLabel_k20 l18 = some r) ?_ (fun hk21 => ?_)
    · rintro _ _ ⟨l18, v19, rfl, rfl, hr⟩
      unfold slices_Concat_SapiLabelapiLabel_k20 at hr
      try dsimp only at hr
      refine NX.then ?_
      refine Tr.seq ?_
      refine Tr.region_f (fun _ => false) ?_
      refine W.q rfl rfl rfl rfl (by decide) (Yd.mv rfl (.t rfl)) ?_
      refine W.q rfl rfl rfl rfl (by decide) (Yd.as rfl (.t rfl)) ?_
      refine W.end ?_
      refine NX.sub (env' := [(2, _)]) ⟨rfl, trivial⟩ ?_
      refine NX.then ?_
      refine Tr.ret' ?_
      refine res1 rfl rfl ?_
      intro w hc
      cases hr
      exact ⟨_, rfl, hc⟩
    have hlen22 := (hslices_0).2.1
    refine Tr.block ?_
    refine Tr.sub (env' := [(6, _), (25, _), (26, _), (27, _)]) ⟨rfl, rfl, rfl, rfl, trivial⟩ ?_
    refine Tr.loop (S := fun n (z : Int × (List Label)) env x => match z with | (t_23, l16) => ∃ v17 : Value, env = [(6, v17), (25, uslices_0), (26, .int .i64 ((slices_0.length : Int))), (27, .int .i64 t_23)] ∧ x = ⟨m, hownT 65 2 Label.enc v17 l16 :: l⟩ ∧ n = ((slices_0.length : Int) - t_23).toNat ∧ 0 ≤ t_23 ∧ forK (σ := (List Label)) (fun i s nx_ => slices_Concat_SapiLabelapiLabel_b24 slices_0 i s nx_) (fun s => slices_Concat_SapiLabelapiLabel_k20 s) n t_23 l16 = some r) _ ((0 : Int), ([] : List Label)) ⟨_, rfl, rfl, rfl, (by omega), hr⟩ ?_
    rintro n26 ⟨t_23, l16⟩ env x ⟨v17, rfl, rfl, hnt_23, h0t_23, hr⟩
    cases n26 with
    | zero =>
      simp only [forK] at hr
      refine Tr.seq ?_
      refine Tr.region_f (fun _ => false) ?_
      refine W.q rfl rfl rfl rfl (by decide) (Yd.lss rfl (.t rfl) (.t rfl)) ?_
      refine W.end ?_
      refine NX.sub (env' := [(6, _), (25, _), (26, _), (27, _), (28, _)]) ⟨rfl, rfl, rfl, rfl, rfl, trivial⟩ ?_
      refine NX.then ?_
      refine Tr.seq ?_
      refine Tr.cond (.t rfl) (fun hb => ?_) (fun hb => ?_)
      · exact absurd (hb.symm.trans (fr_end hnt_23)) (by decide)
      ·
        refine Tr.exit' (EX.then (EX.then (EX.block ?_)))
        refine NX.sub (env' := [(6, _)]) ⟨rfl, trivial⟩ ?_
        exact hk21 _ _ ⟨_, _, rfl, rfl, hr⟩
    | succ n26 =>
      obtain ⟨nx25, hnx25, hr⟩ := forK_succ hr
      try dsimp only at hr
      unfold slices_Concat_SapiLabelapiLabel_b24 at hr
      try dsimp only at hr
      have hltt_23 := fr_bnd hnt_23
      refine Tr.seq ?_
      refine Tr.region_f (fun _ => false) ?_
      refine W.q rfl rfl rfl rfl (by decide) (Yd.lss rfl (.t rfl) (.t rfl)) ?_
      refine W.end ?_
      refine NX.sub (env' := [(6, _), (25, _), (26, _), (27, _), (28, _)]) ⟨rfl, rfl, rfl, rfl, rfl, trivial⟩ ?_
      refine NX.then ?_
      refine Tr.seq ?_
      refine Tr.cond (.t rfl) (fun hb => ?_) (fun hb => ?_)
      rotate_left
      · exact absurd (hb.symm.trans (fr_go hnt_23)) (by decide)
      ·
        refine Tr.skip' ?_
        refine NX.then ?_
        refine Tr.seq ?_
        refine Tr.block ?_
        refine Tr.seq ?_
        obtain ⟨y27, hy28, hr⟩ := bind_some hr
        refine Tr.region_f (fun _ => false) ?_
        refine W.q rfl rfl rfl rfl (by decide) (Yd.idxR hslices_0 hy28 rfl Try.underlying72 SZ22 (.t rfl) (.t rfl)) ?_
        obtain ⟨u29, hu30, hat31⟩ := hslices_0.row hy28
        refine W.q rfl rfl rfl rfl (by decide) (Yd.ldRow hat31 (.refl _) rfl ON22 (.t rfl)) ?_
        refine W.q rfl rfl rfl rfl (by decide) (Yd.as rfl (.t rfl)) ?_
        refine W.end ?_
        refine NX.sub (env' := [(6, _), (25, _), (26, _), (27, _), (8, _)]) ⟨rfl, rfl, rfl, rfl, rfl, trivial⟩ ?_
        refine NX.then ?_
        obtain ⟨hq33, hr⟩ := guard_some hr; replace hq33 := of_decide_eq_true hq33
        refine Tr.region_f (fun i => Nat.beq i 2) ?_
        refine W.q rfl rfl rfl rfl (by decide) (Yd.mv rfl (.t rfl)) ?_
        refine W.q rfl rfl rfl rfl (by decide) (Yd.mv rfl (.t rfl)) ?_
        refine W.e rfl rfl rfl rfl (by decide) (Ef.apI (pos := 0) (enc := Label.enc) (xs := l16) (ys := y27) (fun _ => rfl) IF65 rfl rfl Try.underlying22 rfl (by decide) (.t rfl) (.t rfl) (Src.rs (by decide) (.refl _) hu30) (fun _ => rfl) (by omega) (by omega)) ?_
        rintro v32 _ rfl
        refine ⟨.inl rfl, ?_⟩
        refine W.cast (m' := m) (l' := hownT 65 2 Label.enc v32 _ :: l) rfl rfl ?_
        refine W.q rfl rfl rfl rfl (by decide) (Yd.as rfl (.t rfl)) ?_
        refine W.end ?_
        refine NX.sub (env' := [(6, _), (25, _), (26, _), (27, _)]) ⟨rfl, rfl, rfl, rfl, trivial⟩ ?_
        refine NX.block ?_
        refine NX.then ?_
        refine Tr.region_f (fun _ => false) ?_
        refine W.q rfl rfl rfl rfl (by decide) (Yd.add rfl (.t rfl) .c) ?_
        refine W.q rfl rfl rfl rfl (by decide) (Yd.mv rfl (.t rfl)) ?_
        refine W.end ?_
        refine NX.sub (env' := [(6, _), (25, _), (26, _), (27, _)]) ⟨rfl, rfl, rfl, rfl, trivial⟩ ?_
        refine NX.sub (env' := [(6, _), (25, _), (26, _), (27, _)]) ⟨rfl, rfl, rfl, rfl, trivial⟩ ?_
        have hw := w64_id (n := t_23 + 1) (by omega) (by omega)
        exact NX.again n26 (t_23 + 1, (l16 ++ y27)) (Nat.lt_succ_self _) ⟨_, (by rw [hw] <;> rfl), rfl, (fr_dec hnt_23), (by omega), ((hnx25 _).symm.trans hr)⟩
  have hlen34 := (hslices_0).2.1
  refine Tr.block ?_
  refine Tr.sub (env' := [(0, _), (3, _), (9, _), (10, _), (11, _)]) ⟨rfl, rfl, rfl, rfl, rfl, trivial⟩ ?_
  refine Tr.loop (S := fun n (z : Int × Int) env x => match z with | (t_35, size_3) => env = [(0, uslices_0), (3, .int .i64 size_3), (9, uslices_0), (10, .int .i64 ((slices_0.length : Int))), (11, .int .i64 t_35)] ∧ x = ⟨m, l⟩ ∧ n = ((slices_0.length : Int) - t_35).toNat ∧ 0 ≤ t_35 ∧ forK (σ := Int) (fun i s nx_ => slices_Concat_SapiLabelapiLabel_b36 slices_0 i s nx_) (fun s => slices_Concat_SapiLabelapiLabel_k6 slices_0 s) n t_35 size_3 = some r) _ ((0 : Int), (0 : Int)) ⟨rfl, rfl, rfl, (by omega), hr⟩ ?_
  rintro n38 ⟨t_35, size_3⟩ env x ⟨rfl, rfl, hnt_35, h0t_35, hr⟩
  cases n38 with
  | zero =>
    simp only [forK] at hr
    refine Tr.seq ?_
    refine Tr.region_f (fun _ => false) ?_
    refine W.q rfl rfl rfl rfl (by decide) (Yd.lss rfl (.t rfl) (.t rfl)) ?_
    refine W.end ?_
    refine NX.sub (env' := [(0, _), (3, _), (9, _), (10, _), (11, _), (12, _)]) ⟨rfl, rfl, rfl, rfl, rfl, rfl, trivial⟩ ?_
    refine NX.then ?_
    refine Tr.seq ?_
    refine Tr.cond (.t rfl) (fun hb => ?_) (fun hb => ?_)
    · exact absurd (hb.symm.trans (fr_end hnt_35)) (by decide)
    ·
      refine Tr.exit' (EX.then (EX.then (EX.block ?_)))
      refine NX.sub (env' := [(0, _), (3, _)]) ⟨rfl, rfl, trivial⟩ ?_
      exact hk7 _ _ ⟨_, rfl, rfl, hr⟩
  | succ n38 =>
    obtain ⟨nx37, hnx37, hr⟩ := forK_succ hr
    try dsimp only at hr
    unfold slices_Concat_SapiLabelapiLabel_b36 at hr
    try dsimp only at hr
    have hltt_35 := fr_bnd hnt_35
    refine Tr.seq ?_
    refine Tr.region_f (fun _ => false) ?_
    refine W.q rfl rfl rfl rfl (by decide) (Yd.lss rfl (.t rfl) (.t rfl)) ?_
    refine W.end ?_
    refine NX.sub (env' := [(0, _), (3, _), (9, _), (10, _), (11, _), (12, _)]) ⟨rfl, rfl, rfl, rfl, rfl, rfl, trivial⟩ ?_
    refine NX.then ?_
    refine Tr.seq ?_
    refine Tr.cond (.t rfl) (fun hb => ?_) (fun hb => ?_)
    rotate_left
    · exact absurd (hb.symm.trans (fr_go hnt_35)) (by decide)
    ·
      refine Tr.skip' ?_
      refine NX.then ?_
      refine Tr.seq ?_
      refine Tr.block ?_
      refine Tr.seq ?_
      obtain ⟨y39, hy40, hr⟩ := bind_some hr
      refine Tr.region_f (fun _ => false) ?_
      refine W.q rfl rfl rfl rfl (by decide) (Yd.idxR hslices_0 hy40 rfl Try.underlying72 SZ22 (.t rfl) (.t rfl)) ?_
      obtain ⟨u41, hu42, hat43⟩ := hslices_0.row hy40
      refine W.q rfl rfl rfl rfl (by decide) (Yd.ldRow hat43 (.refl _) rfl ON22 (.t rfl)) ?_
      refine W.q rfl rfl rfl rfl (by decide) (Yd.as rfl (.t rfl)) ?_
      refine W.end ?_
      refine NX.sub (env' := [(0, _), (3, _), (9, _), (10, _), (11, _), (5, _)]) ⟨rfl, rfl, rfl, rfl, rfl, rfl, trivial⟩ ?_
      refine NX.then ?_
      refine Tr.seq ?_
      refine Tr.region_f (fun _ => false) ?_
      refine W.q rfl rfl rfl rfl (by decide) (Yd.mv rfl (.t rfl)) ?_
      refine W.q rfl rfl rfl rfl (by decide) (Yd.mv rfl (.t rfl)) ?_
      refine W.q rfl rfl rfl rfl (by decide) (Yd.lenR hu42 rfl Try.underlying22 (.t rfl)) ?_
      refine W.q rfl rfl rfl rfl (by decide) (Yd.add rfl (.t rfl) (.t rfl)) ?_
      refine W.q rfl rfl rfl rfl (by decide) (Yd.as rfl (.t rfl)) ?_
      refine W.end ?_
      refine NX.sub (env' := [(0, _), (3, _), (9, _), (10, _), (11, _)]) ⟨rfl, rfl, rfl, rfl, rfl, trivial⟩ ?_
      refine NX.then ?_
      refine Tr.seq ?_
      refine Tr.region_f (fun _ => false) ?_
      refine W.q rfl rfl rfl rfl (by decide) (Yd.mv rfl (.t rfl)) ?_
      refine W.q rfl rfl rfl rfl (by decide) (Yd.lss rfl (.t rfl) .c) ?_
      refine W.end ?_
      refine NX.sub (env' := [(0, _), (3, _), (9, _), (10, _), (11, _), (20, _)]) ⟨rfl, rfl, rfl, rfl, rfl, rfl, trivial⟩ ?_
      refine NX.then ?_
      refine Tr.cond (.t rfl) (fun hb => ?_) (fun hb => ?_)
      · have hr := cond_t hb hr
        cases hr
      · have hr := cond_f hb hr
        refine Tr.skip' ?_
        refine NX.block ?_
        refine NX.then ?_
        refine Tr.region_f (fun _ => false) ?_
        refine W.q rfl rfl rfl rfl (by decide) (Yd.add rfl (.t rfl) .c) ?_
        refine W.q rfl rfl rfl rfl (by decide) (Yd.mv rfl (.t rfl)) ?_
        refine W.end ?_
        refine NX.sub (env' := [(0, _), (3, _), (9, _), (10, _), (11, _)]) ⟨rfl, rfl, rfl, rfl, rfl, trivial⟩ ?_
        refine NX.sub (env' := [(0, _), (3, _), (9, _), (10, _), (11, _)]) ⟨rfl, rfl, rfl, rfl, rfl, trivial⟩ ?_
        have hw := w64_id (n := t_35 + 1) (by omega) (by omega)
        exact NX.again n38 (t_35 + 1, (w64 (size_3 + (y39.length : Int)))) (Nat.lt_succ_self _) ⟨(by rw [hw] <;> rfl), rfl, (fr_dec hnt_35), (by omega), ((hnx37 _).symm.trans hr)⟩

def label_Check (a_0 : Label) : Option (Int) :=
  (bif (((decide (a_0.level < (0 : Int))) || (decide (a_0.level > (3 : Int)))) || (decide (a_0.parts ≥ 32#32))) then
  some ((4 : Int))
  else
  some ((0 : Int)))

set_option maxRecDepth 100000 in
theorem label_Check_ok (w0 : World) (m : Snap) (l : List HI) (a_0 : Label) (r : Int) (hr : label_Check a_0 = some r) (w : World) (hc : cX w0 ⟨m, l⟩ w) :
    Calls Try.prog 55 [.agg #[.int .i64 a_0.level, .int .u32 (a_0.parts.toNat : Int)]].toArray w fun e w' => e = .returned (.int .i64 r) ∧ cX w0 ⟨m, l⟩ w' := by
  unfold label_Check at hr
  refine calls_of_Tr (N := 16) Try.func55 rfl hc rfl (Nat.le_of_ble_eq_true rfl) ?_
  refine Tr.seq ?_
  refine Tr.region_f (fun i => Nat.beq i 0) ?_
  refine W.e rfl rfl rfl rfl (by decide) (Ef.bx rfl (.t rfl) rfl) ?_
  rintro _ _ ⟨b1, rfl, rfl⟩
  refine ⟨.inl rfl, ?_⟩
  refine W.cast (m' := m) (l' := hcells b1 [_, _] 65 :: l) rfl rfl ?_
  refine W.q rfl rfl rfl rfl (by decide) (Yd.as rfl .c) ?_
  refine W.end ?_
  refine NX.sub (env' := [(1, _)]) ⟨rfl, trivial⟩ ?_
  refine NX.then ?_
  refine Tr.seq ?_
  refine Tr.seq ?_
  refine Tr.region_f (fun _ => false) ?_
  refine W.q rfl rfl rfl rfl (by decide) (Yd.fldB rfl Try.underlying65 rfl SZ3 rfl (.t rfl)) ?_
  refine W.q rfl rfl rfl rfl (by decide) (Yd.ldB (pos := 0) rfl rfl rfl ON3 (.t rfl)) ?_
  refine W.q rfl rfl rfl rfl (by decide) (Yd.lss rfl (.t rfl) .c) ?_
  refine W.q rfl rfl rfl rfl (by decide) (Yd.mv rfl (.t rfl)) ?_
  refine W.g rfl rfl rfl rfl rfl (.t rfl _) rfl (by decide) (fun hG => Yd.fldB rfl Try.underlying65 rfl SZ3 rfl (.t rfl)) ?_
  refine W.g rfl rfl rfl rfl rfl (.t rfl _) rfl (by decide) (fun hG => Yd.ldB (pos := 0) rfl rfl rfl ON3 (.g rfl hG)) ?_
  refine W.g rfl rfl rfl rfl rfl (.t rfl _) rfl (by decide) (fun hG => Yd.gtr rfl (.g rfl hG) .c) ?_
  refine W.q rfl rfl rfl rfl (by decide) (Yd.or rfl (.t rfl) .c rfl rfl) ?_
  refine W.q rfl rfl rfl rfl (by decide) (Yd.mv rfl (.t rfl)) ?_
  refine W.g rfl rfl rfl rfl rfl (.t rfl _) rfl (by decide) (fun hG => Yd.fldB rfl Try.underlying65 rfl SZ63 rfl (.t rfl)) ?_
  refine W.g rfl rfl rfl rfl rfl (.t rfl _) rfl (by decide) (fun hG => Yd.ldB (pos := 0) rfl rfl rfl ON63 (.g rfl hG)) ?_
  refine W.g rfl rfl rfl rfl rfl (.t rfl _) rfl (by decide) (fun hG => Yd.geqU (a := a_0.parts) (b := 32#32) rfl (.g rfl hG) .c) ?_
  refine W.q rfl rfl rfl rfl (by decide) (Yd.or rfl (.t rfl) .c rfl rfl) ?_
  refine W.end ?_
  refine NX.sub (env' := [(15, _)]) ⟨rfl, trivial⟩ ?_
  refine NX.drop (l' := l) (.cons _ (.refl _)) ?_
  refine NX.then ?_
  refine Tr.cond (.t rfl) (fun hb => ?_) (fun hb => ?_)
  · have hr := cond_t hb hr
    refine Tr.seq ?_
    refine Tr.region_f (fun _ => false) ?_
    refine W.q rfl rfl rfl rfl (by decide) (Yd.as rfl .c) ?_
    refine W.end ?_
    refine NX.sub (env' := [(2, _)]) ⟨rfl, trivial⟩ ?_
    refine NX.then ?_
    refine Tr.ret' (RT.then ?_)
    refine res1 rfl rfl ?_
    intro w hc
    cases hr
    exact ⟨rfl, hc⟩
  · have hr := cond_f hb hr
    refine Tr.skip' ?_
    refine NX.then ?_
    refine Tr.seq ?_
    refine Tr.region_f (fun _ => false) ?_
    refine W.q rfl rfl rfl rfl (by decide) (Yd.as rfl .c) ?_
    refine W.end ?_
    refine NX.sub (env' := [(2, _)]) ⟨rfl, trivial⟩ ?_
    refine NX.then ?_
    refine Tr.ret' ?_
    refine res1 rfl rfl ?_
    intro w hc
    cases hr
    exact ⟨rfl, hc⟩

def mark_Wrong_k9 : Option (Int) :=
  some ((0 : Int))

def mark_Wrong_b13 (r3 : (List Label)) (t_12 : Int) (nx14 : Unit → Option (Int)) : Option (Int) :=
  (geti r3 t_12).bind fun y16 =>
  (label_Check (({ level := y16.level, parts := y16.parts } : Label))).bind fun r20 =>
  (bif (r20 != (0 : Int)) then
  some r20
  else
  nx14 ())

def mark_Wrong (clear_0 : List Label) (things_1 : List Label) (deeds_2 : Int) : Option (Int) :=
  (bif ((((decide ((clear_0.length : Int) < (1 : Int))) || (decide ((clear_0.length : Int) > (5 : Int)))) || (decide ((things_1.length : Int) > (8 : Int)))) || (decide (deeds_2 > (30 : Int)))) then
  some ((1 : Int))
  else
  (slices_Concat_SapiLabelapiLabel (([clear_0, things_1] : List (List Label)))).bind fun r3 =>
  forK (σ := Unit) (fun i s nx_ => mark_Wrong_b13 r3 i nx_) (fun _ => mark_Wrong_k9) ((r3.length : Int) - (0 : Int)).toNat (0 : Int) ())

set_option maxRecDepth 100000 in
theorem mark_Wrong_ok (w0 : World) (m : Snap) (l : List HI) (uclear_0 : Value) (clear_0 : List Label) (hclear_0 : RS rLabel m uclear_0 clear_0) (uthings_1 : Value) (things_1 : List Label) (hthings_1 : RS rLabel m uthings_1 things_1) (deeds_2 : Int) (r : Int) (hr : mark_Wrong clear_0 things_1 deeds_2 = some r) (w : World) (hc : cX w0 ⟨m, l⟩ w) :
    Calls Try.prog 31 [uclear_0, uthings_1, .int .i64 deeds_2].toArray w fun e w' => e = .returned (.int .i64 r) ∧ cX w0 ⟨m, l⟩ w' := by
  unfold mark_Wrong at hr
  refine calls_of_Tr (N := 42) Try.func31 rfl hc rfl (Nat.le_of_ble_eq_true rfl) ?_
  refine Tr.seq ?_
  refine Tr.region_f (fun _ => false) ?_
  refine W.q rfl rfl rfl rfl (by decide) (Yd.as rfl .c) ?_
  refine W.end ?_
  refine NX.sub (env' := [(0, _), (1, _), (2, _)]) ⟨rfl, rfl, rfl, trivial⟩ ?_
  refine NX.then ?_
  refine Tr.seq ?_
  refine Tr.seq ?_
  refine Tr.region_f (fun _ => false) ?_
  refine W.q rfl rfl rfl rfl (by decide) (Yd.mv rfl (.t rfl)) ?_
  refine W.q rfl rfl rfl rfl (by decide) (Yd.lenR hclear_0 rfl Try.underlying22 (.t rfl)) ?_
  refine W.q rfl rfl rfl rfl (by decide) (Yd.lss rfl (.t rfl) .c) ?_
  refine W.q rfl rfl rfl rfl (by decide) (Yd.mv rfl (.t rfl)) ?_
  refine W.g rfl rfl rfl rfl rfl (.t rfl _) rfl (by decide) (fun hG => Yd.mv rfl (.t rfl)) ?_
  refine W.g rfl rfl rfl rfl rfl (.t rfl _) rfl (by decide) (fun hG => Yd.lenR hclear_0 rfl Try.underlying22 (.g rfl hG)) ?_
  refine W.g rfl rfl rfl rfl rfl (.t rfl _) rfl (by decide) (fun hG => Yd.gtr rfl (.g rfl hG) .c) ?_
  refine W.q rfl rfl rfl rfl (by decide) (Yd.or rfl (.t rfl) .c rfl rfl) ?_
  refine W.q rfl rfl rfl rfl (by decide) (Yd.mv rfl (.t rfl)) ?_
  refine W.g rfl rfl rfl rfl rfl (.t rfl _) rfl (by decide) (fun hG => Yd.mv rfl (.t rfl)) ?_
  refine W.g rfl rfl rfl rfl rfl (.t rfl _) rfl (by decide) (fun hG => Yd.lenR hthings_1 rfl Try.underlying22 (.g rfl hG)) ?_
  refine W.g rfl rfl rfl rfl rfl (.t rfl _) rfl (by decide) (fun hG => Yd.gtr rfl (.g rfl hG) .c) ?_
  refine W.q rfl rfl rfl rfl (by decide) (Yd.or rfl (.t rfl) .c rfl rfl) ?_
  refine W.q rfl rfl rfl rfl (by decide) (Yd.mv rfl (.t rfl)) ?_
  refine W.g rfl rfl rfl rfl rfl (.t rfl _) rfl (by decide) (fun hG => Yd.mv rfl (.t rfl)) ?_
  refine W.g rfl rfl rfl rfl rfl (.t rfl _) rfl (by decide) (fun hG => Yd.gtr rfl (.g rfl hG) .c) ?_
  refine W.q rfl rfl rfl rfl (by decide) (Yd.or rfl (.t rfl) .c rfl rfl) ?_
  refine W.end ?_
  refine NX.sub (env' := [(0, _), (1, _), (26, _)]) ⟨rfl, rfl, rfl, trivial⟩ ?_
  refine NX.then ?_
  refine Tr.cond (.t rfl) (fun hb => ?_) (fun hb => ?_)
  · have hr := cond_t hb hr
    refine Tr.seq ?_
    refine Tr.region_f (fun _ => false) ?_
    refine W.q rfl rfl rfl rfl (by decide) (Yd.as rfl .c) ?_
    refine W.end ?_
    refine NX.sub (env' := [(6, _)]) ⟨rfl, trivial⟩ ?_
    refine NX.then ?_
    refine Tr.ret' (RT.then ?_)
    refine res1 rfl rfl ?_
    intro w hc
    cases hr
    exact ⟨rfl, hc⟩
  · have hr := cond_f hb hr
    refine Tr.skip' ?_
    refine NX.then ?_
    refine Tr.seq ?_
    refine Tr.seq ?_
    obtain ⟨r3, hr4, hr⟩ := bind_some hr
    refine Tr.region_f (fun i => Nat.beq i 2 || Nat.beq i 3) ?_
    refine W.q rfl rfl rfl rfl (by decide) (Yd.mv rfl (.t rfl)) ?_
    refine W.q rfl rfl rfl rfl (by decide) (Yd.mv rfl (.t rfl)) ?_
    refine W.e rfl rfl rfl rfl (by decide) (Ef.bsRs (us := [uclear_0, uthings_1]) (xss := [clear_0, things_1]) (Rows.snoc (Rows.snoc (Rows.nil _ _) hclear_0) hthings_1) IF22 rfl Try.underlying72 rfl (.cons (.t rfl) (.cons (.t rfl) .nil)) rfl (by decide)) ?_
    rintro v1 _ rfl
    refine ⟨.inl rfl, ?_⟩
    refine W.cast (m' := m) (l' := hown 22 1 v1 _ _ :: l) rfl rfl ?_
    refine W.e rfl rfl rfl rfl (by decide) (Ef.call (R := fun z x' => ∃ v5 : Value, z = v5 ∧ x' = ⟨m, hownT 65 2 Label.enc v5 r3 :: hown 22 1 v1 (([clear_0, things_1] : List (List Label))).length ([uclear_0, uthings_1] : List Value) :: l⟩) rfl Try.func54 rfl rfl (.cons (.t rfl) .nil) (by intro w hw; obtain ⟨m2, hm2, hc2, ⟨L2, hl1, hl2⟩, hback⟩ := cX_lend (p := 0) hw rfl lone_own; have hL1 := RS_of_rows hl1 ((Rows.snoc (Rows.snoc (Rows.nil _ _) hclear_0) hthings_1).mono hm2) hl2; exact (slices_Concat_SapiLabelapiLabel_ok w0 m2 _ _ _ hL1 _ hr4 w hc2).mono fun e w' ⟨v5, he, hc'⟩ => ⟨_, _, he, ⟨v5, rfl, rfl⟩, (hback m2 _ 1 w' (.refl _) rfl).2 hc'⟩)) ?_
    rintro v5 _ ⟨_, rfl, rfl⟩
    refine ⟨.inl rfl, ?_⟩
    refine W.cast (m' := m) (l' := hownT 65 2 Label.enc v5 _ :: hown 22 1 v1 _ _ :: l) rfl rfl ?_
    refine W.q rfl rfl rfl rfl (by decide) (Yd.lenO (p := 0) rfl rfl Try.underlying22 (.t rfl)) ?_
    refine W.q rfl rfl rfl rfl (by decide) (Yd.mv rfl .c) ?_
    refine W.end ?_
    refine NX.sub (env' := [(30, _), (31, _), (32, _)]) ⟨rfl, rfl, rfl, trivial⟩ ?_
    refine NX.drop (l' := hownT 65 2 Label.enc v5 _ :: l) (.cons_cons _ (.cons _ (.refl _))) ?_
    refine NX.then ?_
    refine Tr.join (S := fun env x => env = [] ∧ x = ⟨m, l⟩ ∧ mark_Wrong_k9 = some r) ?_ (fun hk10 => ?_)
    · rintro _ _ ⟨rfl, rfl, hr⟩
      unfold mark_Wrong_k9 at hr
      try dsimp only at hr
      refine NX.then ?_
      refine Tr.seq ?_
      refine Tr.region_f (fun _ => false) ?_
      refine W.q rfl rfl rfl rfl (by decide) (Yd.as rfl .c) ?_
      refine W.end ?_
      refine NX.sub (env' := [(6, _)]) ⟨rfl, trivial⟩ ?_
      refine NX.then ?_
      refine Tr.ret' ?_
      refine res1 rfl rfl ?_
      intro w hc
      cases hr
      exact ⟨rfl, hc⟩
    refine Tr.lenO (pos := 0) rfl (fun hlen11 => ?_)
    refine Tr.block ?_
    refine Tr.sub (env' := [(30, _), (31, _), (32, _)]) ⟨rfl, rfl, rfl, trivial⟩ ?_
    refine Tr.loop (S := fun n (z : Int × Unit) env x => match z with | (t_12, _) => env = [(30, v5), (31, .int .i64 ((r3.length : Int))), (32, .int .i64 t_12)] ∧ x = ⟨m, hownT 65 2 Label.enc v5 r3 :: l⟩ ∧ n = ((r3.length : Int) - t_12).toNat ∧ 0 ≤ t_12 ∧ forK (σ := Unit) (fun i s nx_ => mark_Wrong_b13 r3 i nx_) (fun _ => mark_Wrong_k9) n t_12 () = some r) _ ((0 : Int), ()) ⟨rfl, rfl, rfl, (by omega), hr⟩ ?_
    rintro n15 ⟨t_12, _⟩ env x ⟨rfl, rfl, hnt_12, h0t_12, hr⟩
    cases n15 with
    | zero =>
      simp only [forK] at hr
      refine Tr.seq ?_
      refine Tr.region_f (fun _ => false) ?_
      refine W.q rfl rfl rfl rfl (by decide) (Yd.lss rfl (.t rfl) (.t rfl)) ?_
      refine W.end ?_
      refine NX.sub (env' := [(30, _), (31, _), (32, _), (33, _)]) ⟨rfl, rfl, rfl, rfl, trivial⟩ ?_
      refine NX.then ?_
      refine Tr.seq ?_
      refine Tr.cond (.t rfl) (fun hb => ?_) (fun hb => ?_)
      · exact absurd (hb.symm.trans (fr_end hnt_12)) (by decide)
      ·
        refine Tr.exit' (EX.then (EX.then (EX.block ?_)))
        refine NX.sub (env' := []) trivial ?_
        refine NX.drop (l' := l) (.cons _ (.refl _)) ?_
        exact hk10 _ _ ⟨rfl, rfl, hr⟩
    | succ n15 =>
      obtain ⟨nx14, hnx14, hr⟩ := forK_succ hr
      try dsimp only at hr
      unfold mark_Wrong_b13 at hr
      try dsimp only at hr
      have hltt_12 := fr_bnd hnt_12
      refine Tr.seq ?_
      refine Tr.region_f (fun _ => false) ?_
      refine W.q rfl rfl rfl rfl (by decide) (Yd.lss rfl (.t rfl) (.t rfl)) ?_
      refine W.end ?_
      refine NX.sub (env' := [(30, _), (31, _), (32, _), (33, _)]) ⟨rfl, rfl, rfl, rfl, trivial⟩ ?_
      refine NX.then ?_
      refine Tr.seq ?_
      refine Tr.cond (.t rfl) (fun hb => ?_) (fun hb => ?_)
      rotate_left
      · exact absurd (hb.symm.trans (fr_go hnt_12)) (by decide)
      ·
        refine Tr.skip' ?_
        refine NX.then ?_
        refine Tr.seq ?_
        refine Tr.block ?_
        refine Tr.seq ?_
        obtain ⟨y16, hy17, hr⟩ := bind_some hr
        refine Tr.region_f (fun i => Nat.beq i 2 || Nat.beq i 3) ?_
        refine W.q rfl rfl rfl rfl (by decide) (Yd.idxT (pos := 0) rfl hy17 rfl Try.underlying22 SZ65 (.t rfl) (.t rfl)) ?_
        refine W.q rfl rfl rfl rfl (by decide) (Yd.ldTs (enc := Label.enc) (n := 2) (pos := 0) (us := [_, _]) (fun _ => rfl) rfl hy17 rfl (by decide) rfl ON65 US65 SZ65 (.t rfl)) ?_
        refine W.e rfl rfl rfl rfl (by decide) (Ef.al rfl ZR65 rfl) ?_
        rintro _ _ ⟨b18, rfl, rfl⟩
        refine ⟨.inl rfl, ?_⟩
        refine W.cast (m' := m) (l' := hcells b18 [_, _] 65 :: hownT 65 2 Label.enc v5 _ :: l) rfl rfl ?_
        refine W.s rfl rfl rfl rfl (Ef.stB (pos := 0) (us := [_, _]) (cs' := [_, _]) rfl rfl (.t rfl) (.t rfl) SZ65 rfl rfl rfl (Nat.le_of_ble_eq_true rfl) rfl) ?_
        rintro _ _ ⟨rfl, rfl⟩
        refine ⟨.inl rfl, ?_⟩
        refine W.cast (m' := m) (l' := hcells b18 [_, _] 65 :: hownT 65 2 Label.enc v5 _ :: l) rfl rfl ?_
        refine W.end ?_
        refine NX.sub (env' := [(30, _), (31, _), (32, _), (8, _)]) ⟨rfl, rfl, rfl, rfl, trivial⟩ ?_
        refine NX.then ?_
        refine Tr.seq ?_
        obtain ⟨r20, hr21, hr⟩ := bind_some hr
        refine Tr.region_f (fun _ => false) ?_
        refine W.q rfl rfl rfl rfl (by decide) (Yd.ldBs (pos := 0) (us := [_, _]) rfl rfl rfl rfl ON65 US65 SZ65 (.t rfl)) ?_
        refine W.q rfl rfl rfl rfl (by decide) (Yd.call (v := .int .i64 r20) rfl Try.func55 rfl rfl (.cons (.t rfl) .nil) (fun x' hx w hw => label_Check_ok w0 x'.m x'.l (({ level := y16.level, parts := y16.parts } : Label)) _ hr21 w hw)) ?_
        refine W.q rfl rfl rfl rfl (by decide) (Yd.as rfl (.t rfl)) ?_
        refine W.end ?_
        refine NX.sub (env' := [(30, _), (31, _), (32, _), (9, _)]) ⟨rfl, rfl, rfl, rfl, trivial⟩ ?_
        refine NX.drop (l' := hownT 65 2 Label.enc v5 _ :: l) (.cons _ (.cons_cons _ (.refl _))) ?_
        refine NX.then ?_
        refine Tr.seq ?_
        refine Tr.region_f (fun _ => false) ?_
        refine W.q rfl rfl rfl rfl (by decide) (Yd.mv rfl (.t rfl)) ?_
        refine W.q rfl rfl rfl rfl (by decide) (Yd.neq rfl (.t rfl) .c) ?_
        refine W.end ?_
        refine NX.sub (env' := [(30, _), (31, _), (32, _), (9, _), (39, _)]) ⟨rfl, rfl, rfl, rfl, rfl, trivial⟩ ?_
        refine NX.then ?_
        refine Tr.cond (.t rfl) (fun hb => ?_) (fun hb => ?_)
        · have hr := cond_t hb hr
          refine Tr.seq ?_
          refine Tr.region_f (fun _ => false) ?_
          refine W.q rfl rfl rfl rfl (by decide) (Yd.mv rfl (.t rfl)) ?_
          refine W.q rfl rfl rfl rfl (by decide) (Yd.as rfl (.t rfl)) ?_
          refine W.end ?_
          refine NX.sub (env' := [(6, _)]) ⟨rfl, trivial⟩ ?_
          refine NX.drop (l' := l) (.cons _ (.refl _)) ?_
          refine NX.then ?_
          refine Tr.ret' (RT.block (RT.then (RT.then (RT.block (RT.then ?_)))))
          refine res1 rfl rfl ?_
          intro w hc
          cases hr
          exact ⟨rfl, hc⟩
        · have hr := cond_f hb hr
          refine Tr.skip' ?_
          refine NX.block ?_
          refine NX.then ?_
          refine Tr.region_f (fun _ => false) ?_
          refine W.q rfl rfl rfl rfl (by decide) (Yd.add rfl (.t rfl) .c) ?_
          refine W.q rfl rfl rfl rfl (by decide) (Yd.mv rfl (.t rfl)) ?_
          refine W.end ?_
          refine NX.sub (env' := [(30, _), (31, _), (32, _)]) ⟨rfl, rfl, rfl, trivial⟩ ?_
          refine NX.sub (env' := [(30, _), (31, _), (32, _)]) ⟨rfl, rfl, rfl, trivial⟩ ?_
          have hw := w64_id (n := t_12 + 1) (by omega) (by omega)
          exact NX.again n15 (t_12 + 1, ()) (Nat.lt_succ_self _) ⟨(by rw [hw] <;> rfl), rfl, (fr_dec hnt_12), (by omega), ((hnx14 _).symm.trans hr)⟩

def slices_Clone_SapiLabelapiLabel (s_0 : List Label) : Option ((List Label)) :=
  bif decide ((([] : List Label)).length + s_0.length ≤ 8796093022208) then
  some ((([] : List Label) ++ s_0)) else none

set_option maxRecDepth 100000 in
theorem slices_Clone_SapiLabelapiLabel_ok (w0 : World) (m : Snap) (l : List HI) (us_0 : Value) (s_0 : List Label) (hs_0 : RS rLabel m us_0 s_0) (r : (List Label)) (hr : slices_Clone_SapiLabelapiLabel s_0 = some r) (w : World) (hc : cX w0 ⟨m, l⟩ w) :
    Calls Try.prog 39 [us_0].toArray w fun e w' => ∃ z0 : Value, e = .returned (z0) ∧ cX w0 ⟨m, hownT 65 2 Label.enc z0 r :: l⟩ w' := by
  unfold slices_Clone_SapiLabelapiLabel at hr
  refine calls_of_Tr (N := 8) Try.func39 rfl hc rfl (Nat.le_of_ble_eq_true rfl) ?_
  refine Tr.seq ?_
  refine Tr.region_f (fun _ => false) ?_
  refine W.q rfl rfl rfl rfl (by decide) (Yd.as rfl .c) ?_
  refine W.end ?_
  refine NX.sub (env' := [(0, _)]) ⟨rfl, trivial⟩ ?_
  refine NX.then ?_
  refine Tr.seq ?_
  refine Tr.seq ?_
  refine Tr.region_f (fun _ => false) ?_
  refine W.q rfl rfl rfl rfl (by decide) (Yd.mv rfl (.t rfl)) ?_
  refine W.q rfl rfl rfl rfl (by decide) (Yd.eqnil hs_0 rfl Try.underlying22 (.t rfl) .c) ?_
  refine W.end ?_
  refine NX.sub (env' := [(0, _), (4, _)]) ⟨rfl, rfl, trivial⟩ ?_
  refine NX.then ?_
  refine Tr.cond (.t rfl) (fun hb => ?_) (fun hb => ?_)
  · obtain rfl : s_0 = [] := RS.nil_of hs_0 hb
    have hr : some ([]) = some r := hr
    refine Tr.seq ?_
    refine Tr.region_f (fun _ => false) ?_
    refine W.q rfl rfl rfl rfl (by decide) (Yd.as rfl .c) ?_
    refine W.end ?_
    refine NX.sub (env' := [(2, _)]) ⟨rfl, trivial⟩ ?_
    refine NX.then ?_
    refine Tr.ret' (RT.then ?_)
    refine res1 rfl rfl ?_
    intro w hc
    cases hr
    exact ⟨_, rfl, (cX_nil hc)⟩
  ·
    refine Tr.skip' ?_
    refine NX.then ?_
    refine Tr.seq ?_
    obtain ⟨hq4, hr⟩ := guard_some hr; replace hq4 := of_decide_eq_true hq4
    refine Tr.region_f (fun i => Nat.beq i 0 || Nat.beq i 2) ?_
    refine W.e rfl rfl rfl rfl (by decide) (Ef.bsT (enc := Label.enc) (vs := []) (ys := []) (fun _ => rfl) IF65 rfl Try.underlying22 (by decide) rfl .nil rfl rfl (by decide)) ?_
    rintro v1 _ rfl
    refine ⟨.inl rfl, ?_⟩
    refine W.cast (m' := m) (l' := hownT 65 2 Label.enc v1 _ :: l) rfl rfl ?_
    refine W.q rfl rfl rfl rfl (by decide) (Yd.mv rfl (.t rfl)) ?_
    refine W.e rfl rfl rfl rfl (by decide) (Ef.apI (pos := 0) (enc := Label.enc) (xs := ([] : List Label)) (ys := s_0) (fun _ => rfl) IF65 rfl rfl Try.underlying22 rfl (by decide) (.t rfl) (.t rfl) (Src.rs (by decide) (.refl _) hs_0) (fun _ => rfl) (by omega) (by omega)) ?_
    rintro v3 _ rfl
    refine ⟨.inl rfl, ?_⟩
    refine W.cast (m' := m) (l' := hownT 65 2 Label.enc v3 _ :: l) rfl rfl ?_
    refine W.q rfl rfl rfl rfl (by decide) (Yd.as rfl (.t rfl)) ?_
    refine W.end ?_
    refine NX.sub (env' := [(2, _)]) ⟨rfl, trivial⟩ ?_
    refine NX.then ?_
    refine Tr.ret' ?_
    refine res1 rfl rfl ?_
    intro w hc
    cases hr
    exact ⟨_, rfl, hc⟩

def low_state_read (s_0 : T78) (i_1 : Int) (k_2 : Int) : Option (T78) :=
  (geti s_0.marks i_1).bind fun y251 =>
  (geti s_0.things k_2).bind fun y531 =>
  (geti s_0.marks i_1).bind fun y791 =>
  (geti s_0.knows i_1).bind fun y793 =>
  (geti s_0.from_ k_2).bind fun y795 =>
  some (({ clear := s_0.clear, things := s_0.things, marks := (s_0.marks.set i_1.toNat (({ level := (if y531.level < y251.level then y531.level else y251.level), parts := (y251.parts &&& y531.parts) } : Label))), knows := (s_0.knows.set i_1.toNat ((y793 ||| y795))), from_ := s_0.from_ } : T78))

set_option maxRecDepth 100000 in
theorem low_state_read_ok (w0 : World) (m : Snap) (l : List HI) (bs_0 : Nat) (s_0 : T78) (us_0_0 : Value) (hs_0_0 : RS rLabel m us_0_0 s_0.clear) (us_0_1 : Value) (hs_0_1 : RS rLabel m us_0_1 s_0.things) (us_0_2 : Value) (us_0_3 : Value) (us_0_4 : Value) (i_1 : Int) (k_2 : Int) (r : T78) (hr : low_state_read s_0 i_1 k_2 = some r) (w : World) (hc : cX w0 ⟨m, hcells bs_0 [us_0_0, us_0_1, us_0_2, us_0_3, us_0_4] 78 :: hownT 65 2 Label.enc us_0_2 s_0.marks :: hownT 63 1 encU us_0_3 s_0.knows :: hownT 63 1 encU us_0_4 s_0.from_ :: l⟩ w) :
    Calls Try.prog 58 [bp bs_0 0, .int .i64 i_1, .int .i64 k_2].toArray w fun e w' => ∃ q0 : Value, ∃ q1 : Value, ∃ q2 : Value, e = .returned (.tuple #[]) ∧ cX w0 ⟨m, hcells bs_0 [us_0_0, us_0_1, q0, q1, q2] 78 :: hownT 65 2 Label.enc q0 r.marks :: hownT 63 1 encU q1 r.knows :: hownT 63 1 encU q2 r.from_ :: l⟩ w' := by
  unfold low_state_read at hr
  refine calls_of_Tr (N := 55) Try.func58 rfl hc rfl (Nat.le_of_ble_eq_true rfl) ?_
  refine Tr.seq ?_
  obtain ⟨y251, hy252, hr⟩ := bind_some hr
  obtain ⟨y531, hy532, hr⟩ := bind_some hr
  refine Tr.region_xJ (fun x => Sle m x.m ∧ (∃ p : Nat, x.l[p]? = some (hcells bs_0 [us_0_0, us_0_1, us_0_2, us_0_3, us_0_4] 78)) ∧ True) (fun _ _ hx h => by obtain ⟨hm, ⟨_, h0⟩, _⟩ := h; exact ⟨hm.trans hx.1, hx.at h0, trivial⟩) (fun i => Nat.beq i 16) (fun i => Nat.beq i 10 || Nat.beq i 13) (fun i => Nat.beq i 14 || Nat.beq i 15 || Nat.beq i 16 || Nat.beq i 17) (fun i => Nat.beq i 7 || Nat.beq i 8 || Nat.beq i 9 || Nat.beq i 10 || Nat.beq i 11 || Nat.beq i 12 || Nat.beq i 13 || Nat.beq i 16 || Nat.beq i 17) (.one 0 (.one 1 (.one 2 (.one 3 (.one 4 (.one 5 (.one 6 (.one 7 (.one 8 (.one 9 (.one 10 (.one 11 (.one 12 (.one 13 (.two 14 15 (Ord.of [15, 16, 17]) (Ord.of [14, 16, 17])))))))))))))))) FM (by kernel_rfl) ?_
  refine W.q rfl rfl rfl rfl (by decide) (Yd.mv rfl (.t rfl)) ?_
  refine W.q rfl rfl rfl rfl (by decide) (Yd.nilc rfl (.t rfl)) ?_
  refine W.q rfl rfl rfl rfl (by decide) (Yd.fldB rfl Try.underlying78 rfl SZ22 rfl (.t rfl)) ?_
  refine W.q rfl rfl rfl rfl (by decide) (Yd.ldB (pos := 0) rfl rfl rfl ON22 (.t rfl)) ?_
  refine W.q rfl rfl rfl rfl (by decide) (Yd.mv rfl (.t rfl)) ?_
  refine W.q rfl rfl rfl rfl (by decide) (Yd.idxT (pos := 1) rfl hy252 rfl Try.underlying22 SZ65 (.t rfl) (.t rfl)) ?_
  refine W.q rfl rfl rfl rfl (by decide) (Yd.ldTs (enc := Label.enc) (n := 2) (pos := 1) (us := [_, _]) (fun _ => rfl) rfl hy252 rfl (by decide) rfl ON65 US65 SZ65 (.t rfl)) ?_
  refine W.p rfl rfl rfl rfl (by decide) (fun _ => Yd.mv rfl (.t rfl)) ?_
  refine W.p rfl rfl rfl rfl (by decide) (fun _ => Yd.nilc rfl (.t rfl)) ?_
  refine W.p rfl rfl rfl rfl (by decide) (fun _ => Yd.fldB rfl Try.underlying78 rfl SZ22 rfl (.t rfl)) ?_
  refine W.pJ rfl rfl rfl rfl (by decide) (fun _ h => by obtain ⟨jhm, ⟨jp0, jhp0⟩, _⟩ := h; exact Yd.ldB (pos := jp0) jhp0 rfl rfl ON22 (.t rfl)) ⟨(.refl _), ⟨0, rfl⟩, trivial⟩ rfl ?_
  refine W.p rfl rfl rfl rfl (by decide) (fun _ => Yd.mv rfl (.t rfl)) ?_
  refine W.p rfl rfl rfl rfl (by decide) (fun _ => Yd.idxR hs_0_1 hy532 rfl Try.underlying22 SZ65 (.t rfl) (.t rfl)) ?_
  refine W.pJ rfl rfl rfl rfl (by decide) (fun _ h => by obtain ⟨jhm, ⟨jp0, jhp0⟩, _⟩ := h; exact Yd.ldFs (us := [_, _]) hs_0_1 jhm hy532 rfl rfl ON65 US65 SZ65 (.t rfl)) ⟨(.refl _), ⟨0, rfl⟩, trivial⟩ rfl ?_
  refine W.two ?_ ?_
  ·
    refine W.e rfl rfl rfl rfl (by decide) (Ef.al rfl ZR65 rfl) ?_ (hJ := fun _ _ _ h => absurd (show false = true from h) (by decide))
    rintro _ _ ⟨b611, rfl, rfl⟩
    refine ⟨.inr ⟨.refl _, [_], rfl⟩, ?_⟩
    refine W.cast (m' := m) (l' := hcells b611 [_, _] 65 :: hcells bs_0 [_, _, _, _, _] 78 :: hownT 65 2 Label.enc us_0_2 _ :: hownT 63 1 encU us_0_3 _ :: hownT 63 1 encU us_0_4 _ :: l) rfl rfl ?_
    refine W.e rfl rfl rfl rfl (by decide) (Ef.al rfl ZR65 rfl) ?_ (hJ := fun _ _ _ h => absurd (show false = true from h) (by decide))
    rintro _ _ ⟨b651, rfl, rfl⟩
    refine ⟨.inr ⟨.refl _, [_], rfl⟩, ?_⟩
    refine W.cast (m' := m) (l' := hcells b651 [_, _] 65 :: hcells b611 [_, _] 65 :: hcells bs_0 [_, _, _, _, _] 78 :: hownT 65 2 Label.enc us_0_2 _ :: hownT 63 1 encU us_0_3 _ :: hownT 63 1 encU us_0_4 _ :: l) rfl rfl ?_
    refine W.s rfl rfl rfl rfl (Ef.stB (pos := 1) (us := [_, _]) (cs' := [_, _]) rfl rfl (.t rfl) (.t rfl) SZ65 rfl rfl rfl (Nat.le_of_ble_eq_true rfl) rfl) ?_ (hJ := by rintro _ _ ⟨rfl, rfl⟩; exact fun _ => ⟨(.refl _), ⟨2, rfl⟩, trivial⟩)
    rintro _ _ ⟨rfl, rfl⟩
    refine ⟨.inl rfl, ?_⟩
    refine W.cast (m' := m) (l' := hcells b651 [_, _] 65 :: hcells b611 [_, _] 65 :: hcells bs_0 [_, _, _, _, _] 78 :: hownT 65 2 Label.enc us_0_2 _ :: hownT 63 1 encU us_0_3 _ :: hownT 63 1 encU us_0_4 _ :: l) rfl rfl ?_
    refine W.s rfl rfl rfl rfl (Ef.stB (pos := 0) (us := [_, _]) (cs' := [_, _]) rfl rfl (.t rfl) (.t rfl) SZ65 rfl rfl rfl (Nat.le_of_ble_eq_true rfl) rfl) ?_ (hJ := fun _ _ _ h => absurd (show false = true from h) (by decide))
    rintro _ _ ⟨rfl, rfl⟩
    refine ⟨.inl rfl, ?_⟩
    refine W.cast (m' := m) (l' := hcells b651 [_, _] 65 :: hcells b611 [_, _] 65 :: hcells bs_0 [_, _, _, _, _] 78 :: hownT 65 2 Label.enc us_0_2 _ :: hownT 63 1 encU us_0_3 _ :: hownT 63 1 encU us_0_4 _ :: l) rfl rfl ?_
    refine W.end ?_
    refine NX.sub (env' := [(0, _), (1, _), (2, _), (6, _), (7, _)]) ⟨rfl, rfl, rfl, rfl, rfl, trivial⟩ ?_
    refine NX.then ?_
    refine Tr.seq ?_
    obtain ⟨y791, hy792, hr⟩ := bind_some hr
    refine Tr.region_x (fun i => Nat.beq i 17) (fun i => Nat.beq i 17) (Ord.of [0, 1, 2, 3, 4, 5, 6, 7, 8, 9, 10, 11, 12, 13, 14, 15, 16, 17]) FM (by kernel_rfl) ?_
    refine W.q rfl rfl rfl rfl (by decide) (Yd.mv rfl (.t rfl)) ?_
    refine W.q rfl rfl rfl rfl (by decide) (Yd.nilc rfl (.t rfl)) ?_
    refine W.q rfl rfl rfl rfl (by decide) (Yd.fldB rfl Try.underlying78 rfl SZ22 rfl (.t rfl)) ?_
    refine W.q rfl rfl rfl rfl (by decide) (Yd.ldB (pos := 2) rfl rfl rfl ON22 (.t rfl)) ?_
    refine W.q rfl rfl rfl rfl (by decide) (Yd.mv rfl (.t rfl)) ?_
    refine W.q rfl rfl rfl rfl (by decide) (Yd.fldB rfl Try.underlying65 rfl SZ3 rfl (.t rfl)) ?_
    refine W.q rfl rfl rfl rfl (by decide) (Yd.ldB (pos := 1) rfl rfl rfl ON3 (.t rfl)) ?_
    refine W.q rfl rfl rfl rfl (by decide) (Yd.fldB rfl Try.underlying65 rfl SZ3 rfl (.t rfl)) ?_
    refine W.q rfl rfl rfl rfl (by decide) (Yd.ldB (pos := 0) rfl rfl rfl ON3 (.t rfl)) ?_
    refine W.q rfl rfl rfl rfl (by decide) (Yd.min2 rfl (.t rfl) (.t rfl)) ?_
    refine W.q rfl rfl rfl rfl (by decide) (Yd.fldB rfl Try.underlying65 rfl SZ63 rfl (.t rfl)) ?_
    refine W.q rfl rfl rfl rfl (by decide) (Yd.ldB (pos := 1) rfl rfl rfl ON63 (.t rfl)) ?_
    refine W.q rfl rfl rfl rfl (by decide) (Yd.fldB rfl Try.underlying65 rfl SZ63 rfl (.t rfl)) ?_
    refine W.q rfl rfl rfl rfl (by decide) (Yd.ldB (pos := 0) rfl rfl rfl ON63 (.t rfl)) ?_
    refine W.q rfl rfl rfl rfl (by decide) (Yd.andU (a := y251.parts) (b := y531.parts) rfl (.t rfl) (.t rfl)) ?_
    refine W.q rfl rfl rfl rfl (by decide) (Yd.bld (cells := [.int .i64 ((if y531.level < y251.level then y531.level else y251.level)), .int .u32 (((y251.parts &&& y531.parts)).toNat : Int)]) rfl ZI65 PL65 (.cons (.t rfl) (.cons (.t rfl) .nil)) rfl) ?_
    refine W.q rfl rfl rfl rfl (by decide) (Yd.idxT (pos := 3) rfl hy792 rfl Try.underlying22 SZ65 (.t rfl) (.t rfl)) ?_
    refine W.s rfl rfl rfl rfl (Ef.stT (enc := Label.enc) (n := 2) (pos := 3) (y := ({ level := (if y531.level < y251.level then y531.level else y251.level), parts := (y251.parts &&& y531.parts) } : Label)) (us := [_, _]) (fun _ => rfl) rfl hy792 rfl (.t rfl) (.t rfl) SZ65 rfl rfl rfl (by decide)) ?_
    rintro _ _ ⟨rfl, rfl⟩
    refine ⟨.inl rfl, ?_⟩
    refine W.cast (m' := m) (l' := hcells b651 [_, _] 65 :: hcells b611 [_, _] 65 :: hcells bs_0 [_, _, _, _, _] 78 :: hownT 65 2 Label.enc us_0_2 _ :: hownT 63 1 encU us_0_3 _ :: hownT 63 1 encU us_0_4 _ :: l) rfl rfl ?_
    refine W.end ?_
    refine NX.sub (env' := [(0, _), (1, _), (2, _)]) ⟨rfl, rfl, rfl, trivial⟩ ?_
    refine NX.drop (l' := hcells bs_0 [_, _, _, _, _] 78 :: hownT 65 2 Label.enc us_0_2 _ :: hownT 63 1 encU us_0_3 _ :: hownT 63 1 encU us_0_4 _ :: l) (.cons _ (.cons _ (.cons_cons _ (.cons_cons _ (.cons_cons _ (.cons_cons _ (.refl _))))))) ?_
    refine NX.then ?_
    obtain ⟨y793, hy794, hr⟩ := bind_some hr
    obtain ⟨y795, hy796, hr⟩ := bind_some hr
    refine Tr.region_x (fun i => Nat.beq i 16) (fun i => Nat.beq i 16) (Ord.of [0, 1, 2, 3, 4, 5, 6, 7, 8, 9, 10, 11, 12, 13, 14, 15, 16]) FM (by kernel_rfl) ?_
    refine W.q rfl rfl rfl rfl (by decide) (Yd.mv rfl (.t rfl)) ?_
    refine W.q rfl rfl rfl rfl (by decide) (Yd.nilc rfl (.t rfl)) ?_
    refine W.q rfl rfl rfl rfl (by decide) (Yd.fldB rfl Try.underlying78 rfl SZ25 rfl (.t rfl)) ?_
    refine W.q rfl rfl rfl rfl (by decide) (Yd.ldB (pos := 0) rfl rfl rfl ON25 (.t rfl)) ?_
    refine W.q rfl rfl rfl rfl (by decide) (Yd.mv rfl (.t rfl)) ?_
    refine W.q rfl rfl rfl rfl (by decide) (Yd.idxT (pos := 2) rfl hy794 rfl Try.underlying25 SZ63 (.t rfl) (.t rfl)) ?_
    refine W.q rfl rfl rfl rfl (by decide) (Yd.ldT (enc := encU) (n := 1) (pos := 2) (fun _ => rfl) rfl hy794 rfl rfl ON63 (.t rfl)) ?_
    refine W.q rfl rfl rfl rfl (by decide) (Yd.mv rfl (.t rfl)) ?_
    refine W.q rfl rfl rfl rfl (by decide) (Yd.nilc rfl (.t rfl)) ?_
    refine W.q rfl rfl rfl rfl (by decide) (Yd.fldB rfl Try.underlying78 rfl SZ25 rfl (.t rfl)) ?_
    refine W.q rfl rfl rfl rfl (by decide) (Yd.ldB (pos := 0) rfl rfl rfl ON25 (.t rfl)) ?_
    refine W.q rfl rfl rfl rfl (by decide) (Yd.mv rfl (.t rfl)) ?_
    refine W.q rfl rfl rfl rfl (by decide) (Yd.idxT (pos := 3) rfl hy796 rfl Try.underlying25 SZ63 (.t rfl) (.t rfl)) ?_
    refine W.q rfl rfl rfl rfl (by decide) (Yd.ldT (enc := encU) (n := 1) (pos := 3) (fun _ => rfl) rfl hy796 rfl rfl ON63 (.t rfl)) ?_
    refine W.q rfl rfl rfl rfl (by decide) (Yd.orU (a := y793) (b := y795) rfl (.t rfl) (.t rfl)) ?_
    refine W.q rfl rfl rfl rfl (by decide) (Yd.idxT (pos := 2) rfl hy794 rfl Try.underlying25 SZ63 (.t rfl) (.t rfl)) ?_
    refine W.s rfl rfl rfl rfl (Ef.stT (enc := encU) (n := 1) (pos := 2) (y := (y793 ||| y795)) (us := [_]) (fun _ => rfl) rfl hy794 rfl (.t rfl) (.t rfl) SZ63 rfl rfl rfl (by decide)) ?_
    rintro _ _ ⟨rfl, rfl⟩
    refine ⟨.inl rfl, ?_⟩
    refine W.cast (m' := m) (l' := hcells bs_0 [_, _, _, _, _] 78 :: hownT 65 2 Label.enc us_0_2 _ :: hownT 63 1 encU us_0_3 _ :: hownT 63 1 encU us_0_4 _ :: l) rfl rfl ?_
    refine W.end ?_
    refine NX.sub (env' := []) trivial ?_
    refine NX.ret ?_
    refine res0 rfl ?_
    intro w hc
    cases hr
    exact ⟨_, _, _, rfl, hc⟩
  ·
    refine W.e rfl rfl rfl rfl (by decide) (Ef.al rfl ZR65 rfl) ?_ (hJ := fun _ _ _ h => absurd (show false = true from h) (by decide))
    rintro _ _ ⟨b651, rfl, rfl⟩
    refine ⟨.inr ⟨.refl _, [_], rfl⟩, ?_⟩
    refine W.cast (m' := m) (l' := hcells b651 [_, _] 65 :: hcells bs_0 [_, _, _, _, _] 78 :: hownT 65 2 Label.enc us_0_2 _ :: hownT 63 1 encU us_0_3 _ :: hownT 63 1 encU us_0_4 _ :: l) rfl rfl ?_
    refine W.e rfl rfl rfl rfl (by decide) (Ef.al rfl ZR65 rfl) ?_ (hJ := fun _ _ _ h => absurd (show false = true from h) (by decide))
    rintro _ _ ⟨b611, rfl, rfl⟩
    refine ⟨.inr ⟨.refl _, [_], rfl⟩, ?_⟩
    refine W.cast (m' := m) (l' := hcells b611 [_, _] 65 :: hcells b651 [_, _] 65 :: hcells bs_0 [_, _, _, _, _] 78 :: hownT 65 2 Label.enc us_0_2 _ :: hownT 63 1 encU us_0_3 _ :: hownT 63 1 encU us_0_4 _ :: l) rfl rfl ?_
    refine W.s rfl rfl rfl rfl (Ef.stB (pos := 0) (us := [_, _]) (cs' := [_, _]) rfl rfl (.t rfl) (.t rfl) SZ65 rfl rfl rfl (Nat.le_of_ble_eq_true rfl) rfl) ?_ (hJ := by rintro _ _ ⟨rfl, rfl⟩; exact fun _ => ⟨(.refl _), ⟨2, rfl⟩, trivial⟩)
    rintro _ _ ⟨rfl, rfl⟩
    refine ⟨.inl rfl, ?_⟩
    refine W.cast (m' := m) (l' := hcells b611 [_, _] 65 :: hcells b651 [_, _] 65 :: hcells bs_0 [_, _, _, _, _] 78 :: hownT 65 2 Label.enc us_0_2 _ :: hownT 63 1 encU us_0_3 _ :: hownT 63 1 encU us_0_4 _ :: l) rfl rfl ?_
    refine W.s rfl rfl rfl rfl (Ef.stB (pos := 1) (us := [_, _]) (cs' := [_, _]) rfl rfl (.t rfl) (.t rfl) SZ65 rfl rfl rfl (Nat.le_of_ble_eq_true rfl) rfl) ?_ (hJ := fun _ _ _ h => absurd (show false = true from h) (by decide))
    rintro _ _ ⟨rfl, rfl⟩
    refine ⟨.inl rfl, ?_⟩
    refine W.cast (m' := m) (l' := hcells b611 [_, _] 65 :: hcells b651 [_, _] 65 :: hcells bs_0 [_, _, _, _, _] 78 :: hownT 65 2 Label.enc us_0_2 _ :: hownT 63 1 encU us_0_3 _ :: hownT 63 1 encU us_0_4 _ :: l) rfl rfl ?_
    refine W.end ?_
    refine NX.imp (fun w hw => cX_front (p := 5) hw rfl) ?_
    refine NX.imp (fun w hw => cX_front (p := 5) hw rfl) ?_
    refine NX.imp (fun w hw => cX_front (p := 5) hw rfl) ?_
    refine NX.imp (fun w hw => cX_front (p := 5) hw rfl) ?_
    refine NX.imp (fun w hw => cX_front (p := 4) hw rfl) ?_
    refine NX.imp (fun w hw => cX_front (p := 5) hw rfl) ?_
    refine NX.cast (m' := m) (l' := hcells b651 [_, _] 65 :: hcells b611 [_, _] 65 :: hcells bs_0 [_, _, _, _, _] 78 :: hownT 65 2 Label.enc us_0_2 _ :: hownT 63 1 encU us_0_3 _ :: hownT 63 1 encU us_0_4 _ :: l) rfl rfl ?_
    refine NX.sub (env' := [(0, _), (1, _), (2, _), (7, _), (6, _)]) ⟨rfl, rfl, rfl, rfl, rfl, trivial⟩ ?_
    refine NX.then ?_
    refine Tr.seq ?_
    obtain ⟨y791, hy792, hr⟩ := bind_some hr
    refine Tr.region_x (fun i => Nat.beq i 17) (fun i => Nat.beq i 17) (Ord.of [0, 1, 2, 3, 4, 5, 6, 7, 8, 9, 10, 11, 12, 13, 14, 15, 16, 17]) FM (by kernel_rfl) ?_
    refine W.q rfl rfl rfl rfl (by decide) (Yd.mv rfl (.t rfl)) ?_
    refine W.q rfl rfl rfl rfl (by decide) (Yd.nilc rfl (.t rfl)) ?_
    refine W.q rfl rfl rfl rfl (by decide) (Yd.fldB rfl Try.underlying78 rfl SZ22 rfl (.t rfl)) ?_
    refine W.q rfl rfl rfl rfl (by decide) (Yd.ldB (pos := 2) rfl rfl rfl ON22 (.t rfl)) ?_
    refine W.q rfl rfl rfl rfl (by decide) (Yd.mv rfl (.t rfl)) ?_
    refine W.q rfl rfl rfl rfl (by decide) (Yd.fldB rfl Try.underlying65 rfl SZ3 rfl (.t rfl)) ?_
    refine W.q rfl rfl rfl rfl (by decide) (Yd.ldB (pos := 1) rfl rfl rfl ON3 (.t rfl)) ?_
    refine W.q rfl rfl rfl rfl (by decide) (Yd.fldB rfl Try.underlying65 rfl SZ3 rfl (.t rfl)) ?_
    refine W.q rfl rfl rfl rfl (by decide) (Yd.ldB (pos := 0) rfl rfl rfl ON3 (.t rfl)) ?_
    refine W.q rfl rfl rfl rfl (by decide) (Yd.min2 rfl (.t rfl) (.t rfl)) ?_
    refine W.q rfl rfl rfl rfl (by decide) (Yd.fldB rfl Try.underlying65 rfl SZ63 rfl (.t rfl)) ?_
    refine W.q rfl rfl rfl rfl (by decide) (Yd.ldB (pos := 1) rfl rfl rfl ON63 (.t rfl)) ?_
    refine W.q rfl rfl rfl rfl (by decide) (Yd.fldB rfl Try.underlying65 rfl SZ63 rfl (.t rfl)) ?_
    refine W.q rfl rfl rfl rfl (by decide) (Yd.ldB (pos := 0) rfl rfl rfl ON63 (.t rfl)) ?_
    refine W.q rfl rfl rfl rfl (by decide) (Yd.andU (a := y251.parts) (b := y531.parts) rfl (.t rfl) (.t rfl)) ?_
    refine W.q rfl rfl rfl rfl (by decide) (Yd.bld (cells := [.int .i64 ((if y531.level < y251.level then y531.level else y251.level)), .int .u32 (((y251.parts &&& y531.parts)).toNat : Int)]) rfl ZI65 PL65 (.cons (.t rfl) (.cons (.t rfl) .nil)) rfl) ?_
    refine W.q rfl rfl rfl rfl (by decide) (Yd.idxT (pos := 3) rfl hy792 rfl Try.underlying22 SZ65 (.t rfl) (.t rfl)) ?_
    refine W.s rfl rfl rfl rfl (Ef.stT (enc := Label.enc) (n := 2) (pos := 3) (y := ({ level := (if y531.level < y251.level then y531.level else y251.level), parts := (y251.parts &&& y531.parts) } : Label)) (us := [_, _]) (fun _ => rfl) rfl hy792 rfl (.t rfl) (.t rfl) SZ65 rfl rfl rfl (by decide)) ?_
    rintro _ _ ⟨rfl, rfl⟩
    refine ⟨.inl rfl, ?_⟩
    refine W.cast (m' := m) (l' := hcells b651 [_, _] 65 :: hcells b611 [_, _] 65 :: hcells bs_0 [_, _, _, _, _] 78 :: hownT 65 2 Label.enc us_0_2 _ :: hownT 63 1 encU us_0_3 _ :: hownT 63 1 encU us_0_4 _ :: l) rfl rfl ?_
    refine W.end ?_
    refine NX.sub (env' := [(0, _), (1, _), (2, _)]) ⟨rfl, rfl, rfl, trivial⟩ ?_
    refine NX.drop (l' := hcells bs_0 [_, _, _, _, _] 78 :: hownT 65 2 Label.enc us_0_2 _ :: hownT 63 1 encU us_0_3 _ :: hownT 63 1 encU us_0_4 _ :: l) (.cons _ (.cons _ (.cons_cons _ (.cons_cons _ (.cons_cons _ (.cons_cons _ (.refl _))))))) ?_
    refine NX.then ?_
    obtain ⟨y793, hy794, hr⟩ := bind_some hr
    obtain ⟨y795, hy796, hr⟩ := bind_some hr
    refine Tr.region_x (fun i => Nat.beq i 16) (fun i => Nat.beq i 16) (Ord.of [0, 1, 2, 3, 4, 5, 6, 7, 8, 9, 10, 11, 12, 13, 14, 15, 16]) FM (by kernel_rfl) ?_
    refine W.q rfl rfl rfl rfl (by decide) (Yd.mv rfl (.t rfl)) ?_
    refine W.q rfl rfl rfl rfl (by decide) (Yd.nilc rfl (.t rfl)) ?_
    refine W.q rfl rfl rfl rfl (by decide) (Yd.fldB rfl Try.underlying78 rfl SZ25 rfl (.t rfl)) ?_
    refine W.q rfl rfl rfl rfl (by decide) (Yd.ldB (pos := 0) rfl rfl rfl ON25 (.t rfl)) ?_
    refine W.q rfl rfl rfl rfl (by decide) (Yd.mv rfl (.t rfl)) ?_
    refine W.q rfl rfl rfl rfl (by decide) (Yd.idxT (pos := 2) rfl hy794 rfl Try.underlying25 SZ63 (.t rfl) (.t rfl)) ?_
    refine W.q rfl rfl rfl rfl (by decide) (Yd.ldT (enc := encU) (n := 1) (pos := 2) (fun _ => rfl) rfl hy794 rfl rfl ON63 (.t rfl)) ?_
    refine W.q rfl rfl rfl rfl (by decide) (Yd.mv rfl (.t rfl)) ?_
    refine W.q rfl rfl rfl rfl (by decide) (Yd.nilc rfl (.t rfl)) ?_
    refine W.q rfl rfl rfl rfl (by decide) (Yd.fldB rfl Try.underlying78 rfl SZ25 rfl (.t rfl)) ?_
    refine W.q rfl rfl rfl rfl (by decide) (Yd.ldB (pos := 0) rfl rfl rfl ON25 (.t rfl)) ?_
    refine W.q rfl rfl rfl rfl (by decide) (Yd.mv rfl (.t rfl)) ?_
    refine W.q rfl rfl rfl rfl (by decide) (Yd.idxT (pos := 3) rfl hy796 rfl Try.underlying25 SZ63 (.t rfl) (.t rfl)) ?_
    refine W.q rfl rfl rfl rfl (by decide) (Yd.ldT (enc := encU) (n := 1) (pos := 3) (fun _ => rfl) rfl hy796 rfl rfl ON63 (.t rfl)) ?_
    refine W.q rfl rfl rfl rfl (by decide) (Yd.orU (a := y793) (b := y795) rfl (.t rfl) (.t rfl)) ?_
    refine W.q rfl rfl rfl rfl (by decide) (Yd.idxT (pos := 2) rfl hy794 rfl Try.underlying25 SZ63 (.t rfl) (.t rfl)) ?_
    refine W.s rfl rfl rfl rfl (Ef.stT (enc := encU) (n := 1) (pos := 2) (y := (y793 ||| y795)) (us := [_]) (fun _ => rfl) rfl hy794 rfl (.t rfl) (.t rfl) SZ63 rfl rfl rfl (by decide)) ?_
    rintro _ _ ⟨rfl, rfl⟩
    refine ⟨.inl rfl, ?_⟩
    refine W.cast (m' := m) (l' := hcells bs_0 [_, _, _, _, _] 78 :: hownT 65 2 Label.enc us_0_2 _ :: hownT 63 1 encU us_0_3 _ :: hownT 63 1 encU us_0_4 _ :: l) rfl rfl ?_
    refine W.end ?_
    refine NX.sub (env' := []) trivial ?_
    refine NX.ret ?_
    refine res0 rfl ?_
    intro w hc
    cases hr
    exact ⟨_, _, _, rfl, hc⟩

def label_Least (a_0 : Label) (b_1 : Label) : Option (Bool) :=
  some (((decide (a_0.level ≤ b_1.level)) && ((a_0.parts &&& ~~~b_1.parts) == 0#32)))

set_option maxRecDepth 100000 in
theorem label_Least_ok (w0 : World) (m : Snap) (l : List HI) (a_0 : Label) (b_1 : Label) (r : Bool) (hr : label_Least a_0 b_1 = some r) (w : World) (hc : cX w0 ⟨m, l⟩ w) :
    Calls Try.prog 33 [.agg #[.int .i64 a_0.level, .int .u32 (a_0.parts.toNat : Int)], .agg #[.int .i64 b_1.level, .int .u32 (b_1.parts.toNat : Int)]].toArray w fun e w' => e = .returned (.bool r) ∧ cX w0 ⟨m, l⟩ w' := by
  unfold label_Least at hr
  refine calls_of_Tr (N := 18) Try.func33 rfl hc rfl (Nat.le_of_ble_eq_true rfl) ?_
  refine Tr.seq ?_
  refine Tr.region_f (fun i => Nat.beq i 0 || Nat.beq i 1) ?_
  refine W.e rfl rfl rfl rfl (by decide) (Ef.bx rfl (.t rfl) rfl) ?_
  rintro _ _ ⟨b1, rfl, rfl⟩
  refine ⟨.inl rfl, ?_⟩
  refine W.cast (m' := m) (l' := hcells b1 [_, _] 65 :: l) rfl rfl ?_
  refine W.e rfl rfl rfl rfl (by decide) (Ef.bx rfl (.t rfl) rfl) ?_
  rintro _ _ ⟨b3, rfl, rfl⟩
  refine ⟨.inl rfl, ?_⟩
  refine W.cast (m' := m) (l' := hcells b3 [_, _] 65 :: hcells b1 [_, _] 65 :: l) rfl rfl ?_
  refine W.q rfl rfl rfl rfl (by decide) (Yd.as rfl .c) ?_
  refine W.end ?_
  refine NX.sub (env' := [(2, _), (3, _)]) ⟨rfl, rfl, trivial⟩ ?_
  refine NX.then ?_
  refine Tr.seq ?_
  refine Tr.region_f (fun _ => false) ?_
  refine W.q rfl rfl rfl rfl (by decide) (Yd.fldB rfl Try.underlying65 rfl SZ3 rfl (.t rfl)) ?_
  refine W.q rfl rfl rfl rfl (by decide) (Yd.ldB (pos := 1) rfl rfl rfl ON3 (.t rfl)) ?_
  refine W.q rfl rfl rfl rfl (by decide) (Yd.fldB rfl Try.underlying65 rfl SZ3 rfl (.t rfl)) ?_
  refine W.q rfl rfl rfl rfl (by decide) (Yd.ldB (pos := 0) rfl rfl rfl ON3 (.t rfl)) ?_
  refine W.q rfl rfl rfl rfl (by decide) (Yd.leq rfl (.t rfl) (.t rfl)) ?_
  refine W.q rfl rfl rfl rfl (by decide) (Yd.mv rfl (.t rfl)) ?_
  refine W.g rfl rfl rfl rfl rfl (.t rfl _) rfl (by decide) (fun hG => Yd.fldB rfl Try.underlying65 rfl SZ63 rfl (.t rfl)) ?_
  refine W.g rfl rfl rfl rfl rfl (.t rfl _) rfl (by decide) (fun hG => Yd.ldB (pos := 1) rfl rfl rfl ON63 (.g rfl hG)) ?_
  refine W.g rfl rfl rfl rfl rfl (.t rfl _) rfl (by decide) (fun hG => Yd.fldB rfl Try.underlying65 rfl SZ63 rfl (.t rfl)) ?_
  refine W.g rfl rfl rfl rfl rfl (.t rfl _) rfl (by decide) (fun hG => Yd.ldB (pos := 0) rfl rfl rfl ON63 (.g rfl hG)) ?_
  refine W.g rfl rfl rfl rfl rfl (.t rfl _) rfl (by decide) (fun hG => Yd.andnU (a := a_0.parts) (b := b_1.parts) rfl (.g rfl hG) (.g rfl hG)) ?_
  refine W.g rfl rfl rfl rfl rfl (.t rfl _) rfl (by decide) (fun hG => Yd.eqlU (a := (a_0.parts &&& ~~~b_1.parts)) (b := 0#32) rfl (.g rfl hG) .c) ?_
  refine W.q rfl rfl rfl rfl (by decide) (Yd.and rfl (.t rfl) .c rfl rfl) ?_
  refine W.q rfl rfl rfl rfl (by decide) (Yd.as rfl (.t rfl)) ?_
  refine W.end ?_
  refine NX.sub (env' := [(4, _)]) ⟨rfl, trivial⟩ ?_
  refine NX.drop (l' := l) (.cons _ (.cons _ (.refl _))) ?_
  refine NX.then ?_
  refine Tr.ret' ?_
  refine res1 rfl rfl ?_
  intro w hc
  cases hr
  exact ⟨rfl, hc⟩

def low_state_do (s_0 : T78) (d_1 : Deed) : Option (Int × T78) :=
  (bif ((decide (d_1.kind < (1 : Int))) || (decide (d_1.kind > (3 : Int)))) then
  some (((6 : Int), ({ clear := s_0.clear, things := s_0.things, marks := s_0.marks, knows := s_0.knows, from_ := s_0.from_ } : T78)))
  else
  (bif (((decide (d_1.by_ < (0 : Int))) || (decide (d_1.by_ ≥ (s_0.clear.length : Int)))) || ((d_1.kind != (3 : Int)) && ((decide (d_1.to < (0 : Int))) || (decide (d_1.to ≥ (s_0.things.length : Int)))))) then
  some (((2 : Int), ({ clear := s_0.clear, things := s_0.things, marks := s_0.marks, knows := s_0.knows, from_ := s_0.from_ } : T78)))
  else
  (bif (d_1.kind == (1 : Int)) then
  (low_state_read (({ clear := s_0.clear, things := s_0.things, marks := s_0.marks, knows := s_0.knows, from_ := s_0.from_ } : T78)) d_1.by_ d_1.to).bind fun r3 =>
  some (((0 : Int), ({ clear := s_0.clear, things := s_0.things, marks := r3.marks, knows := r3.knows, from_ := r3.from_ } : T78)))
  else
  (bif (d_1.kind == (2 : Int)) then
  (geti s_0.things d_1.to).bind fun y8 =>
  (geti s_0.marks d_1.by_).bind fun y10 =>
  (label_Least y8 y10).bind fun r12 =>
  (bif (!r12) then
  some (((7 : Int), ({ clear := s_0.clear, things := s_0.things, marks := s_0.marks, knows := s_0.knows, from_ := s_0.from_ } : T78)))
  else
  (geti s_0.from_ d_1.to).bind fun y14 =>
  (geti s_0.knows d_1.by_).bind fun y16 =>
  some (((0 : Int), ({ clear := s_0.clear, things := s_0.things, marks := s_0.marks, knows := s_0.knows, from_ := (s_0.from_.set d_1.to.toNat ((y14 ||| y16))) } : T78))))
  else
  (bif (d_1.kind == (3 : Int)) then
  (geti s_0.clear d_1.by_).bind fun y18 =>
  (geti s_0.marks d_1.by_).bind fun y20 =>
  (geti s_0.knows d_1.by_).bind fun y22 =>
  some (((0 : Int), ({ clear := s_0.clear, things := s_0.things, marks := (s_0.marks.set d_1.by_.toNat y18), knows := (s_0.knows.set d_1.by_.toNat (0#32)), from_ := s_0.from_ } : T78)))
  else
  some (((0 : Int), ({ clear := s_0.clear, things := s_0.things, marks := s_0.marks, knows := s_0.knows, from_ := s_0.from_ } : T78))))))))

set_option maxRecDepth 100000 in
theorem low_state_do_ok (w0 : World) (m : Snap) (l : List HI) (bs_0 : Nat) (s_0 : T78) (us_0_0 : Value) (hs_0_0 : RS rLabel m us_0_0 s_0.clear) (us_0_1 : Value) (hs_0_1 : RS rLabel m us_0_1 s_0.things) (us_0_2 : Value) (us_0_3 : Value) (us_0_4 : Value) (d_1 : Deed) (r : Int × T78) (hr : low_state_do s_0 d_1 = some r) (w : World) (hc : cX w0 ⟨m, hcells bs_0 [us_0_0, us_0_1, us_0_2, us_0_3, us_0_4] 78 :: hownT 65 2 Label.enc us_0_2 s_0.marks :: hownT 63 1 encU us_0_3 s_0.knows :: hownT 63 1 encU us_0_4 s_0.from_ :: l⟩ w) :
    Calls Try.prog 40 [bp bs_0 0, .agg #[.int .i64 d_1.kind, .int .i64 d_1.by_, .int .i64 d_1.to, .int .i64 d_1.label.level, .int .u32 (d_1.label.parts.toNat : Int), .int .i64 d_1.val]].toArray w fun e w' => ∃ q0 : Value, ∃ q1 : Value, ∃ q2 : Value, e = .returned (.int .i64 r.1) ∧ cX w0 ⟨m, hcells bs_0 [us_0_0, us_0_1, q0, q1, q2] 78 :: hownT 65 2 Label.enc q0 r.2.marks :: hownT 63 1 encU q1 r.2.knows :: hownT 63 1 encU q2 r.2.from_ :: l⟩ w' := by
  unfold low_state_do at hr
  refine calls_of_Tr (N := 120) Try.func40 rfl hc rfl (Nat.le_of_ble_eq_true rfl) ?_
  refine Tr.seq ?_
  refine Tr.region_f (fun i => Nat.beq i 0) ?_
  refine W.e rfl rfl rfl rfl (by decide) (Ef.bx rfl (.t rfl) rfl) ?_
  rintro _ _ ⟨b1, rfl, rfl⟩
  refine ⟨.inl rfl, ?_⟩
  refine W.cast (m' := m) (l' := hcells b1 [_, _, _, _, _, _] 67 :: hcells bs_0 [_, _, _, _, _] 78 :: hownT 65 2 Label.enc us_0_2 _ :: hownT 63 1 encU us_0_3 _ :: hownT 63 1 encU us_0_4 _ :: l) rfl rfl ?_
  refine W.q rfl rfl rfl rfl (by decide) (Yd.as rfl .c) ?_
  refine W.end ?_
  refine NX.sub (env' := [(0, _), (3, _)]) ⟨rfl, rfl, trivial⟩ ?_
  refine NX.then ?_
  refine Tr.seq ?_
  refine Tr.block ?_
  refine Tr.seq ?_
  refine Tr.region_f (fun _ => false) ?_
  refine W.q rfl rfl rfl rfl (by decide) (Yd.fldB rfl Try.underlying67 rfl SZ3 rfl (.t rfl)) ?_
  refine W.q rfl rfl rfl rfl (by decide) (Yd.ldB (pos := 0) rfl rfl rfl ON3 (.t rfl)) ?_
  refine W.q rfl rfl rfl rfl (by decide) (Yd.lss rfl (.t rfl) .c) ?_
  refine W.q rfl rfl rfl rfl (by decide) (Yd.mv rfl (.t rfl)) ?_
  refine W.g rfl rfl rfl rfl rfl (.t rfl _) rfl (by decide) (fun hG => Yd.fldB rfl Try.underlying67 rfl SZ3 rfl (.t rfl)) ?_
  refine W.g rfl rfl rfl rfl rfl (.t rfl _) rfl (by decide) (fun hG => Yd.ldB (pos := 0) rfl rfl rfl ON3 (.g rfl hG)) ?_
  refine W.g rfl rfl rfl rfl rfl (.t rfl _) rfl (by decide) (fun hG => Yd.gtr rfl (.g rfl hG) .c) ?_
  refine W.q rfl rfl rfl rfl (by decide) (Yd.or rfl (.t rfl) .c rfl rfl) ?_
  refine W.q rfl rfl rfl rfl (by decide) (Yd.as rfl (.t rfl)) ?_
  refine W.end ?_
  refine NX.sub (env' := [(0, _), (3, _), (5, _)]) ⟨rfl, rfl, rfl, trivial⟩ ?_
  refine NX.then ?_
  refine Tr.cond (.t rfl) (fun hb => ?_) (fun hb => ?_)
  · have hr := cond_t hb hr
    refine Tr.seq ?_
    refine Tr.region_f (fun _ => false) ?_
    refine W.q rfl rfl rfl rfl (by decide) (Yd.as rfl .c) ?_
    refine W.end ?_
    refine NX.sub (env' := [(4, _)]) ⟨rfl, trivial⟩ ?_
    refine NX.drop (l' := hcells bs_0 [_, _, _, _, _] 78 :: hownT 65 2 Label.enc us_0_2 _ :: hownT 63 1 encU us_0_3 _ :: hownT 63 1 encU us_0_4 _ :: l) (.cons _ (.cons_cons _ (.cons_cons _ (.cons_cons _ (.cons_cons _ (.refl _)))))) ?_
    refine NX.then ?_
    refine Tr.ret' (RT.block (RT.then ?_))
    refine res1 rfl rfl ?_
    intro w hc
    cases hr
    exact ⟨_, _, _, rfl, hc⟩
  · have hr := cond_f hb hr
    refine Tr.seq ?_
    refine Tr.region_x (fun _ => false) (fun _ => false) (Ord.of [0, 1, 2, 3, 4, 5, 6, 7, 8, 9, 10, 11, 12, 13, 14, 15, 16, 17, 18, 19, 20, 21, 22, 23, 24, 25, 26, 27, 28, 29, 30, 31, 32, 33]) FM (by kernel_rfl) ?_
    refine W.q rfl rfl rfl rfl (by decide) (Yd.fldB rfl Try.underlying67 rfl SZ3 rfl (.t rfl)) ?_
    refine W.q rfl rfl rfl rfl (by decide) (Yd.ldB (pos := 0) rfl rfl rfl ON3 (.t rfl)) ?_
    refine W.q rfl rfl rfl rfl (by decide) (Yd.lss rfl (.t rfl) .c) ?_
    refine W.q rfl rfl rfl rfl (by decide) (Yd.mv rfl (.t rfl)) ?_
    refine W.g rfl rfl rfl rfl rfl (.t rfl _) rfl (by decide) (fun hG => Yd.fldB rfl Try.underlying67 rfl SZ3 rfl (.t rfl)) ?_
    refine W.g rfl rfl rfl rfl rfl (.t rfl _) rfl (by decide) (fun hG => Yd.ldB (pos := 0) rfl rfl rfl ON3 (.g rfl hG)) ?_
    refine W.g rfl rfl rfl rfl rfl (.t rfl _) rfl (by decide) (fun hG => Yd.mv rfl (.t rfl)) ?_
    refine W.g rfl rfl rfl rfl rfl (.t rfl _) rfl (by decide) (fun hG => Yd.nilc rfl (.g rfl hG)) ?_
    refine W.g rfl rfl rfl rfl rfl (.t rfl _) rfl (by decide) (fun hG => Yd.fldB rfl Try.underlying78 rfl SZ22 rfl (.g rfl hG)) ?_
    refine W.g rfl rfl rfl rfl rfl (.t rfl _) rfl (by decide) (fun hG => Yd.ldB (pos := 1) rfl rfl rfl ON22 (.g rfl hG)) ?_
    refine W.g rfl rfl rfl rfl rfl (.t rfl _) rfl (by decide) (fun hG => Yd.lenR hs_0_0 rfl Try.underlying22 (.g rfl hG)) ?_
    refine W.g rfl rfl rfl rfl rfl (.t rfl _) rfl (by decide) (fun hG => Yd.geq rfl (.g rfl hG) (.g rfl hG)) ?_
    refine W.q rfl rfl rfl rfl (by decide) (Yd.or rfl (.t rfl) .c rfl rfl) ?_
    refine W.q rfl rfl rfl rfl (by decide) (Yd.mv rfl (.t rfl)) ?_
    refine W.g rfl rfl rfl rfl rfl (.t rfl _) rfl (by decide) (fun hG => Yd.fldB rfl Try.underlying67 rfl SZ3 rfl (.t rfl)) ?_
    refine W.g rfl rfl rfl rfl rfl (.t rfl _) rfl (by decide) (fun hG => Yd.ldB (pos := 0) rfl rfl rfl ON3 (.g rfl hG)) ?_
    refine W.g rfl rfl rfl rfl rfl (.t rfl _) rfl (by decide) (fun hG => Yd.neq rfl (.g rfl hG) .c) ?_
    refine W.g rfl rfl rfl rfl rfl (.t rfl _) rfl (by decide) (fun hG => Yd.mv rfl (.g rfl hG)) ?_
    refine W.g rfl rfl rfl rfl rfl (.g rfl _) rfl (by decide) (fun hG => Yd.fldB rfl Try.underlying67 rfl SZ3 rfl (.t rfl)) ?_
    refine W.g rfl rfl rfl rfl rfl (.g rfl _) rfl (by decide) (fun hG => Yd.ldB (pos := 0) rfl rfl rfl ON3 (.g rfl hG)) ?_
    refine W.g rfl rfl rfl rfl rfl (.g rfl _) rfl (by decide) (fun hG => Yd.lss rfl (.g rfl hG) .c) ?_
    refine W.g rfl rfl rfl rfl rfl (.g rfl _) rfl (by decide) (fun hG => Yd.mv rfl (.g rfl hG)) ?_
    refine W.g rfl rfl rfl rfl rfl (.g rfl _) rfl (by decide) (fun hG => Yd.fldB rfl Try.underlying67 rfl SZ3 rfl (.t rfl)) ?_
    refine W.g rfl rfl rfl rfl rfl (.g rfl _) rfl (by decide) (fun hG => Yd.ldB (pos := 0) rfl rfl rfl ON3 (.g rfl hG)) ?_
    refine W.g rfl rfl rfl rfl rfl (.g rfl _) rfl (by decide) (fun hG => Yd.mv rfl (.t rfl)) ?_
    refine W.g rfl rfl rfl rfl rfl (.g rfl _) rfl (by decide) (fun hG => Yd.nilc rfl (.g rfl hG)) ?_
    refine W.g rfl rfl rfl rfl rfl (.g rfl _) rfl (by decide) (fun hG => Yd.fldB rfl Try.underlying78 rfl SZ22 rfl (.g rfl hG)) ?_
    refine W.g rfl rfl rfl rfl rfl (.g rfl _) rfl (by decide) (fun hG => Yd.ldB (pos := 1) rfl rfl rfl ON22 (.g rfl hG)) ?_
    refine W.g rfl rfl rfl rfl rfl (.g rfl _) rfl (by decide) (fun hG => Yd.lenR hs_0_1 rfl Try.underlying22 (.g rfl hG)) ?_
    refine W.g rfl rfl rfl rfl rfl (.g rfl _) rfl (by decide) (fun hG => Yd.geq rfl (.g rfl hG) (.g rfl hG)) ?_
    refine W.g rfl rfl rfl rfl rfl (.g rfl _) rfl (by decide) (fun hG => Yd.orG rfl (.g rfl hG) .c rfl rfl hG) ?_
    refine W.g rfl rfl rfl rfl rfl (.t rfl _) rfl (by decide) (fun hG => Yd.andG rfl (.g rfl hG) .c rfl rfl hG) ?_
    refine W.q rfl rfl rfl rfl (by decide) (Yd.or rfl (.t rfl) .c rfl rfl) ?_
    refine W.q rfl rfl rfl rfl (by decide) (Yd.as rfl (.t rfl)) ?_
    refine W.end ?_
    refine NX.sub (env' := [(0, _), (3, _), (14, _)]) ⟨rfl, rfl, rfl, trivial⟩ ?_
    refine NX.then ?_
    refine Tr.cond (.t rfl) (fun hb => ?_) (fun hb => ?_)
    · have hr := cond_t hb hr
      refine Tr.seq ?_
      refine Tr.region_f (fun _ => false) ?_
      refine W.q rfl rfl rfl rfl (by decide) (Yd.as rfl .c) ?_
      refine W.end ?_
      refine NX.sub (env' := [(4, _)]) ⟨rfl, trivial⟩ ?_
      refine NX.drop (l' := hcells bs_0 [_, _, _, _, _] 78 :: hownT 65 2 Label.enc us_0_2 _ :: hownT 63 1 encU us_0_3 _ :: hownT 63 1 encU us_0_4 _ :: l) (.cons _ (.cons_cons _ (.cons_cons _ (.cons_cons _ (.cons_cons _ (.refl _)))))) ?_
      refine NX.then ?_
      refine Tr.ret' (RT.block (RT.then ?_))
      refine res1 rfl rfl ?_
      intro w hc
      cases hr
      exact ⟨_, _, _, rfl, hc⟩
    · have hr := cond_f hb hr
      refine Tr.skip' ?_
      refine NX.block ?_
      refine NX.then ?_
      refine Tr.seq ?_
      refine Tr.seq ?_
      refine Tr.region_f (fun _ => false) ?_
      refine W.q rfl rfl rfl rfl (by decide) (Yd.fldB rfl Try.underlying67 rfl SZ3 rfl (.t rfl)) ?_
      refine W.q rfl rfl rfl rfl (by decide) (Yd.ldB (pos := 0) rfl rfl rfl ON3 (.t rfl)) ?_
      refine W.end ?_
      refine NX.sub (env' := [(0, _), (3, _), (49, _)]) ⟨rfl, rfl, rfl, trivial⟩ ?_
      refine NX.then ?_
      refine Tr.block ?_
      refine Tr.seq ?_
      refine Tr.region_f (fun _ => false) ?_
      refine W.q rfl rfl rfl rfl (by decide) (Yd.eql rfl (.t rfl) .c) ?_
      refine W.q rfl rfl rfl rfl (by decide) (Yd.as rfl (.t rfl)) ?_
      refine W.end ?_
      refine NX.sub (env' := [(0, _), (3, _), (49, _), (50, _)]) ⟨rfl, rfl, rfl, rfl, trivial⟩ ?_
      refine NX.then ?_
      refine Tr.cond (.t rfl) (fun hb => ?_) (fun hb => ?_)
      · have hr := cond_t hb hr
        obtain ⟨r3, hr4, hr⟩ := bind_some hr
        refine Tr.region_f (fun i => Nat.beq i 5) ?_
        refine W.q rfl rfl rfl rfl (by decide) (Yd.mv rfl (.t rfl)) ?_
        refine W.q rfl rfl rfl rfl (by decide) (Yd.fldB rfl Try.underlying67 rfl SZ3 rfl (.t rfl)) ?_
        refine W.q rfl rfl rfl rfl (by decide) (Yd.ldB (pos := 0) rfl rfl rfl ON3 (.t rfl)) ?_
        refine W.q rfl rfl rfl rfl (by decide) (Yd.fldB rfl Try.underlying67 rfl SZ3 rfl (.t rfl)) ?_
        refine W.q rfl rfl rfl rfl (by decide) (Yd.ldB (pos := 0) rfl rfl rfl ON3 (.t rfl)) ?_
        refine W.e rfl rfl rfl rfl (by decide) (Ef.call (R := fun z x' => ∃ v5 : Value, ∃ v6 : Value, ∃ v7 : Value, z = .tuple #[] ∧ x' = ⟨m, hcells bs_0 [us_0_0, us_0_1, v5, v6, v7] 78 :: hownT 65 2 Label.enc v5 r3.marks :: hownT 63 1 encU v6 r3.knows :: hownT 63 1 encU v7 r3.from_ :: hcells b1 [.int .i64 d_1.kind, .int .i64 d_1.by_, .int .i64 d_1.to, .int .i64 d_1.label.level, .int .u32 (d_1.label.parts.toNat : Int), .int .i64 d_1.val] 67 :: l⟩) rfl Try.func58 rfl rfl (.cons (.t rfl) (.cons (.t rfl) (.cons (.t rfl) .nil))) (by intro w hw; replace hw := cX_front (p := 4) hw rfl; replace hw := cX_front (p := 4) hw rfl; replace hw := cX_front (p := 4) hw rfl; replace hw := cX_front (p := 4) hw rfl; exact (low_state_read_ok w0 _ _ _ _ _ hs_0_0 _ hs_0_1 _ _ _ d_1.by_ d_1.to _ hr4 w hw).mono fun e w' ⟨v5, v6, v7, he, hc'⟩ => ⟨_, _, he, ⟨v5, v6, v7, rfl, rfl⟩, hc'⟩)) ?_
        rintro _ _ ⟨v5, v6, v7, rfl, rfl⟩
        refine ⟨.inl rfl, ?_⟩
        refine W.cast (m' := m) (l' := hcells bs_0 [_, _, _, _, _] 78 :: hownT 65 2 Label.enc v5 _ :: hownT 63 1 encU v6 _ :: hownT 63 1 encU v7 _ :: hcells b1 [_, _, _, _, _, _] 67 :: l) rfl rfl ?_
        refine W.end ?_
        refine NX.sub (env' := []) trivial ?_
        refine NX.drop (l' := hcells bs_0 [_, _, _, _, _] 78 :: hownT 65 2 Label.enc v5 _ :: hownT 63 1 encU v6 _ :: hownT 63 1 encU v7 _ :: l) (.cons_cons _ (.cons_cons _ (.cons_cons _ (.cons_cons _ (.cons _ (.refl _)))))) ?_
        refine NX.block ?_
        refine NX.then ?_
        refine Tr.seq ?_
        refine Tr.region_f (fun _ => false) ?_
        refine W.q rfl rfl rfl rfl (by decide) (Yd.as rfl .c) ?_
        refine W.end ?_
        refine NX.sub (env' := [(4, _)]) ⟨rfl, trivial⟩ ?_
        refine NX.then ?_
        refine Tr.ret' ?_
        refine res1 rfl rfl ?_
        intro w hc
        cases hr
        exact ⟨_, _, _, rfl, hc⟩
      · have hr := cond_f hb hr
        refine Tr.seq ?_
        refine Tr.region_f (fun _ => false) ?_
        refine W.q rfl rfl rfl rfl (by decide) (Yd.eql rfl (.t rfl) .c) ?_
        refine W.q rfl rfl rfl rfl (by decide) (Yd.as rfl (.t rfl)) ?_
        refine W.end ?_
        refine NX.sub (env' := [(0, _), (3, _), (49, _), (58, _)]) ⟨rfl, rfl, rfl, rfl, trivial⟩ ?_
        refine NX.then ?_
        refine Tr.cond (.t rfl) (fun hb => ?_) (fun hb => ?_)
        · have hr := cond_t hb hr
          refine Tr.seq ?_
          refine Tr.seq ?_
          obtain ⟨y8, hy9, hr⟩ := bind_some hr
          obtain ⟨y10, hy11, hr⟩ := bind_some hr
          obtain ⟨r12, hr13, hr⟩ := bind_some hr
          refine Tr.region_x (fun _ => false) (fun _ => false) (Ord.of [0, 1, 2, 3, 4, 5, 6, 7, 8, 9, 10, 11, 12, 13, 14, 15, 16, 17]) FM (by kernel_rfl) ?_
          refine W.q rfl rfl rfl rfl (by decide) (Yd.mv rfl (.t rfl)) ?_
          refine W.q rfl rfl rfl rfl (by decide) (Yd.nilc rfl (.t rfl)) ?_
          refine W.q rfl rfl rfl rfl (by decide) (Yd.fldB rfl Try.underlying78 rfl SZ22 rfl (.t rfl)) ?_
          refine W.q rfl rfl rfl rfl (by decide) (Yd.ldB (pos := 1) rfl rfl rfl ON22 (.t rfl)) ?_
          refine W.q rfl rfl rfl rfl (by decide) (Yd.fldB rfl Try.underlying67 rfl SZ3 rfl (.t rfl)) ?_
          refine W.q rfl rfl rfl rfl (by decide) (Yd.ldB (pos := 0) rfl rfl rfl ON3 (.t rfl)) ?_
          refine W.q rfl rfl rfl rfl (by decide) (Yd.idxR hs_0_1 hy9 rfl Try.underlying22 SZ65 (.t rfl) (.t rfl)) ?_
          refine W.q rfl rfl rfl rfl (by decide) (Yd.ldFs (us := [_, _]) hs_0_1 (.refl _) hy9 rfl rfl ON65 US65 SZ65 (.t rfl)) ?_
          refine W.q rfl rfl rfl rfl (by decide) (Yd.mv rfl (.t rfl)) ?_
          refine W.q rfl rfl rfl rfl (by decide) (Yd.nilc rfl (.t rfl)) ?_
          refine W.q rfl rfl rfl rfl (by decide) (Yd.fldB rfl Try.underlying78 rfl SZ22 rfl (.t rfl)) ?_
          refine W.q rfl rfl rfl rfl (by decide) (Yd.ldB (pos := 1) rfl rfl rfl ON22 (.t rfl)) ?_
          refine W.q rfl rfl rfl rfl (by decide) (Yd.fldB rfl Try.underlying67 rfl SZ3 rfl (.t rfl)) ?_
          refine W.q rfl rfl rfl rfl (by decide) (Yd.ldB (pos := 0) rfl rfl rfl ON3 (.t rfl)) ?_
          refine W.q rfl rfl rfl rfl (by decide) (Yd.idxT (pos := 2) rfl hy11 rfl Try.underlying22 SZ65 (.t rfl) (.t rfl)) ?_
          refine W.q rfl rfl rfl rfl (by decide) (Yd.ldTs (enc := Label.enc) (n := 2) (pos := 2) (us := [_, _]) (fun _ => rfl) rfl hy11 rfl (by decide) rfl ON65 US65 SZ65 (.t rfl)) ?_
          refine W.q rfl rfl rfl rfl (by decide) (Yd.call (v := .bool r12) rfl Try.func33 rfl rfl (.cons (.t rfl) (.cons (.t rfl) .nil)) (fun x' hx w hw => label_Least_ok w0 x'.m x'.l y8 y10 _ hr13 w hw)) ?_
          refine W.q rfl rfl rfl rfl (by decide) (Yd.not rfl (.t rfl)) ?_
          refine W.end ?_
          refine NX.sub (env' := [(0, _), (3, _), (77, _)]) ⟨rfl, rfl, rfl, trivial⟩ ?_
          refine NX.then ?_
          refine Tr.cond (.t rfl) (fun hb => ?_) (fun hb => ?_)
          · have hr := cond_t hb hr
            refine Tr.seq ?_
            refine Tr.region_f (fun _ => false) ?_
            refine W.q rfl rfl rfl rfl (by decide) (Yd.as rfl .c) ?_
            refine W.end ?_
            refine NX.sub (env' := [(4, _)]) ⟨rfl, trivial⟩ ?_
            refine NX.drop (l' := hcells bs_0 [_, _, _, _, _] 78 :: hownT 65 2 Label.enc us_0_2 _ :: hownT 63 1 encU us_0_3 _ :: hownT 63 1 encU us_0_4 _ :: l) (.cons _ (.cons_cons _ (.cons_cons _ (.cons_cons _ (.cons_cons _ (.refl _)))))) ?_
            refine NX.then ?_
            refine Tr.ret' (RT.then (RT.block (RT.then ?_)))
            refine res1 rfl rfl ?_
            intro w hc
            cases hr
            exact ⟨_, _, _, rfl, hc⟩
          · have hr := cond_f hb hr
            refine Tr.skip' ?_
            refine NX.then ?_
            obtain ⟨y14, hy15, hr⟩ := bind_some hr
            obtain ⟨y16, hy17, hr⟩ := bind_some hr
            refine Tr.region_x (fun i => Nat.beq i 18) (fun i => Nat.beq i 18) (Ord.of [0, 1, 2, 3, 4, 5, 6, 7, 8, 9, 10, 11, 12, 13, 14, 15, 16, 17, 18]) FM (by kernel_rfl) ?_
            refine W.q rfl rfl rfl rfl (by decide) (Yd.mv rfl (.t rfl)) ?_
            refine W.q rfl rfl rfl rfl (by decide) (Yd.nilc rfl (.t rfl)) ?_
            refine W.q rfl rfl rfl rfl (by decide) (Yd.fldB rfl Try.underlying78 rfl SZ25 rfl (.t rfl)) ?_
            refine W.q rfl rfl rfl rfl (by decide) (Yd.ldB (pos := 1) rfl rfl rfl ON25 (.t rfl)) ?_
            refine W.q rfl rfl rfl rfl (by decide) (Yd.fldB rfl Try.underlying67 rfl SZ3 rfl (.t rfl)) ?_
            refine W.q rfl rfl rfl rfl (by decide) (Yd.ldB (pos := 0) rfl rfl rfl ON3 (.t rfl)) ?_
            refine W.q rfl rfl rfl rfl (by decide) (Yd.idxT (pos := 4) rfl hy15 rfl Try.underlying25 SZ63 (.t rfl) (.t rfl)) ?_
            refine W.q rfl rfl rfl rfl (by decide) (Yd.ldT (enc := encU) (n := 1) (pos := 4) (fun _ => rfl) rfl hy15 rfl rfl ON63 (.t rfl)) ?_
            refine W.q rfl rfl rfl rfl (by decide) (Yd.mv rfl (.t rfl)) ?_
            refine W.q rfl rfl rfl rfl (by decide) (Yd.nilc rfl (.t rfl)) ?_
            refine W.q rfl rfl rfl rfl (by decide) (Yd.fldB rfl Try.underlying78 rfl SZ25 rfl (.t rfl)) ?_
            refine W.q rfl rfl rfl rfl (by decide) (Yd.ldB (pos := 1) rfl rfl rfl ON25 (.t rfl)) ?_
            refine W.q rfl rfl rfl rfl (by decide) (Yd.fldB rfl Try.underlying67 rfl SZ3 rfl (.t rfl)) ?_
            refine W.q rfl rfl rfl rfl (by decide) (Yd.ldB (pos := 0) rfl rfl rfl ON3 (.t rfl)) ?_
            refine W.q rfl rfl rfl rfl (by decide) (Yd.idxT (pos := 3) rfl hy17 rfl Try.underlying25 SZ63 (.t rfl) (.t rfl)) ?_
            refine W.q rfl rfl rfl rfl (by decide) (Yd.ldT (enc := encU) (n := 1) (pos := 3) (fun _ => rfl) rfl hy17 rfl rfl ON63 (.t rfl)) ?_
            refine W.q rfl rfl rfl rfl (by decide) (Yd.orU (a := y14) (b := y16) rfl (.t rfl) (.t rfl)) ?_
            refine W.q rfl rfl rfl rfl (by decide) (Yd.idxT (pos := 4) rfl hy15 rfl Try.underlying25 SZ63 (.t rfl) (.t rfl)) ?_
            refine W.s rfl rfl rfl rfl (Ef.stT (enc := encU) (n := 1) (pos := 4) (y := (y14 ||| y16)) (us := [_]) (fun _ => rfl) rfl hy15 rfl (.t rfl) (.t rfl) SZ63 rfl rfl rfl (by decide)) ?_
            rintro _ _ ⟨rfl, rfl⟩
            refine ⟨.inl rfl, ?_⟩
            refine W.cast (m' := m) (l' := hcells b1 [_, _, _, _, _, _] 67 :: hcells bs_0 [_, _, _, _, _] 78 :: hownT 65 2 Label.enc us_0_2 _ :: hownT 63 1 encU us_0_3 _ :: hownT 63 1 encU us_0_4 _ :: l) rfl rfl ?_
            refine W.end ?_
            refine NX.sub (env' := []) trivial ?_
            refine NX.drop (l' := hcells bs_0 [_, _, _, _, _] 78 :: hownT 65 2 Label.enc us_0_2 _ :: hownT 63 1 encU us_0_3 _ :: hownT 63 1 encU us_0_4 _ :: l) (.cons _ (.cons_cons _ (.cons_cons _ (.cons_cons _ (.cons_cons _ (.refl _)))))) ?_
            refine NX.block ?_
            refine NX.then ?_
            refine Tr.seq ?_
            refine Tr.region_f (fun _ => false) ?_
            refine W.q rfl rfl rfl rfl (by decide) (Yd.as rfl .c) ?_
            refine W.end ?_
            refine NX.sub (env' := [(4, _)]) ⟨rfl, trivial⟩ ?_
            refine NX.then ?_
            refine Tr.ret' ?_
            refine res1 rfl rfl ?_
            intro w hc
            cases hr
            exact ⟨_, _, _, rfl, hc⟩
        · have hr := cond_f hb hr
          refine Tr.seq ?_
          refine Tr.region_f (fun _ => false) ?_
          refine W.q rfl rfl rfl rfl (by decide) (Yd.eql rfl (.t rfl) .c) ?_
          refine W.q rfl rfl rfl rfl (by decide) (Yd.as rfl (.t rfl)) ?_
          refine W.end ?_
          refine NX.sub (env' := [(0, _), (3, _), (96, _)]) ⟨rfl, rfl, rfl, trivial⟩ ?_
          refine NX.then ?_
          refine Tr.cond (.t rfl) (fun hb => ?_) (fun hb => ?_)
          · have hr := cond_t hb hr
            obtain ⟨y18, hy19, hr⟩ := bind_some hr
            obtain ⟨y20, hy21, hr⟩ := bind_some hr
            obtain ⟨y22, hy23, hr⟩ := bind_some hr
            refine Tr.region_xJ (fun x => Sle m x.m ∧ (∃ p : Nat, x.l[p]? = some (hcells b1 [.int .i64 d_1.kind, .int .i64 d_1.by_, .int .i64 d_1.to, .int .i64 d_1.label.level, .int .u32 (d_1.label.parts.toNat : Int), .int .i64 d_1.val] 67)) ∧ True) (fun _ _ hx h => by obtain ⟨hm, ⟨_, h0⟩, _⟩ := h; exact ⟨hm.trans hx.1, hx.at h0, trivial⟩) (fun i => Nat.beq i 21) (fun i => Nat.beq i 11) (fun i => Nat.beq i 21 || Nat.beq i 23) (fun i => Nat.beq i 10 || Nat.beq i 11 || Nat.beq i 21 || Nat.beq i 23) (Ord.of [0, 1, 2, 3, 4, 5, 6, 7, 8, 9, 10, 11, 12, 13, 14, 15, 16, 17, 18, 19, 20, 21, 22, 23]) FM (by kernel_rfl) ?_
            refine W.q rfl rfl rfl rfl (by decide) (Yd.mv rfl (.t rfl)) ?_
            refine W.q rfl rfl rfl rfl (by decide) (Yd.nilc rfl (.t rfl)) ?_
            refine W.q rfl rfl rfl rfl (by decide) (Yd.fldB rfl Try.underlying78 rfl SZ22 rfl (.t rfl)) ?_
            refine W.q rfl rfl rfl rfl (by decide) (Yd.ldB (pos := 1) rfl rfl rfl ON22 (.t rfl)) ?_
            refine W.q rfl rfl rfl rfl (by decide) (Yd.fldB rfl Try.underlying67 rfl SZ3 rfl (.t rfl)) ?_
            refine W.q rfl rfl rfl rfl (by decide) (Yd.ldB (pos := 0) rfl rfl rfl ON3 (.t rfl)) ?_
            refine W.q rfl rfl rfl rfl (by decide) (Yd.mv rfl (.t rfl)) ?_
            refine W.q rfl rfl rfl rfl (by decide) (Yd.nilc rfl (.t rfl)) ?_
            refine W.q rfl rfl rfl rfl (by decide) (Yd.fldB rfl Try.underlying78 rfl SZ25 rfl (.t rfl)) ?_
            refine W.q rfl rfl rfl rfl (by decide) (Yd.ldB (pos := 1) rfl rfl rfl ON25 (.t rfl)) ?_
            refine W.p rfl rfl rfl rfl (by decide) (fun _ => Yd.fldB rfl Try.underlying67 rfl SZ3 rfl (.t rfl)) ?_
            refine W.pJ rfl rfl rfl rfl (by decide) (fun _ h => by obtain ⟨jhm, ⟨jp0, jhp0⟩, _⟩ := h; exact Yd.ldB (pos := jp0) jhp0 rfl rfl ON3 (.t rfl)) ⟨(.refl _), ⟨0, rfl⟩, trivial⟩ rfl ?_
            refine W.q rfl rfl rfl rfl (by decide) (Yd.mv rfl (.t rfl)) ?_
            refine W.q rfl rfl rfl rfl (by decide) (Yd.nilc rfl (.t rfl)) ?_
            refine W.q rfl rfl rfl rfl (by decide) (Yd.fldB rfl Try.underlying78 rfl SZ22 rfl (.t rfl)) ?_
            refine W.q rfl rfl rfl rfl (by decide) (Yd.ldB (pos := 1) rfl rfl rfl ON22 (.t rfl)) ?_
            refine W.q rfl rfl rfl rfl (by decide) (Yd.fldB rfl Try.underlying67 rfl SZ3 rfl (.t rfl)) ?_
            refine W.q rfl rfl rfl rfl (by decide) (Yd.ldB (pos := 0) rfl rfl rfl ON3 (.t rfl)) ?_
            refine W.q rfl rfl rfl rfl (by decide) (Yd.idxR hs_0_0 hy19 rfl Try.underlying22 SZ65 (.t rfl) (.t rfl)) ?_
            refine W.q rfl rfl rfl rfl (by decide) (Yd.ldFs (us := [_, _]) hs_0_0 (.refl _) hy19 rfl rfl ON65 US65 SZ65 (.t rfl)) ?_
            refine W.q rfl rfl rfl rfl (by decide) (Yd.idxT (pos := 2) rfl hy21 rfl Try.underlying22 SZ65 (.t rfl) (.t rfl)) ?_
            refine W.s rfl rfl rfl rfl (Ef.stT (enc := Label.enc) (n := 2) (pos := 2) (y := y18) (us := [_, _]) (fun _ => rfl) rfl hy21 rfl (.t rfl) (.t rfl) SZ65 rfl rfl rfl (by decide)) ?_ (hJ := by rintro _ _ ⟨rfl, rfl⟩; exact fun _ => ⟨(.refl _), ⟨0, rfl⟩, trivial⟩)
            rintro _ _ ⟨rfl, rfl⟩
            refine ⟨.inl rfl, ?_⟩
            refine W.cast (m' := m) (l' := hcells b1 [_, _, _, _, _, _] 67 :: hcells bs_0 [_, _, _, _, _] 78 :: hownT 65 2 Label.enc us_0_2 _ :: hownT 63 1 encU us_0_3 _ :: hownT 63 1 encU us_0_4 _ :: l) rfl rfl ?_
            refine W.q rfl rfl rfl rfl (by decide) (Yd.idxT (pos := 3) rfl hy23 rfl Try.underlying25 SZ63 (.t rfl) (.t rfl)) ?_
            refine W.s rfl rfl rfl rfl (Ef.stT (enc := encU) (n := 1) (pos := 3) (y := 0#32) (us := [_]) (fun _ => rfl) rfl hy23 rfl (.t rfl) .c SZ63 rfl rfl rfl (by decide)) ?_ (hJ := fun _ _ _ h => absurd (show false = true from h) (by decide))
            rintro _ _ ⟨rfl, rfl⟩
            refine ⟨.inl rfl, ?_⟩
            refine W.cast (m' := m) (l' := hcells b1 [_, _, _, _, _, _] 67 :: hcells bs_0 [_, _, _, _, _] 78 :: hownT 65 2 Label.enc us_0_2 _ :: hownT 63 1 encU us_0_3 _ :: hownT 63 1 encU us_0_4 _ :: l) rfl rfl ?_
            refine W.end ?_
            refine NX.sub (env' := []) trivial ?_
            refine NX.drop (l' := hcells bs_0 [_, _, _, _, _] 78 :: hownT 65 2 Label.enc us_0_2 _ :: hownT 63 1 encU us_0_3 _ :: hownT 63 1 encU us_0_4 _ :: l) (.cons _ (.cons_cons _ (.cons_cons _ (.cons_cons _ (.cons_cons _ (.refl _)))))) ?_
            refine NX.block ?_
            refine NX.then ?_
            refine Tr.seq ?_
            refine Tr.region_f (fun _ => false) ?_
            refine W.q rfl rfl rfl rfl (by decide) (Yd.as rfl .c) ?_
            refine W.end ?_
            refine NX.sub (env' := [(4, _)]) ⟨rfl, trivial⟩ ?_
            refine NX.then ?_
            refine Tr.ret' ?_
            refine res1 rfl rfl ?_
            intro w hc
            cases hr
            exact ⟨_, _, _, rfl, hc⟩
          · have hr := cond_f hb hr
            refine Tr.skip' ?_
            refine NX.block ?_
            refine NX.then ?_
            refine Tr.seq ?_
            refine Tr.region_f (fun _ => false) ?_
            refine W.q rfl rfl rfl rfl (by decide) (Yd.as rfl .c) ?_
            refine W.end ?_
            refine NX.sub (env' := [(4, _)]) ⟨rfl, trivial⟩ ?_
            refine NX.drop (l' := hcells bs_0 [_, _, _, _, _] 78 :: hownT 65 2 Label.enc us_0_2 _ :: hownT 63 1 encU us_0_3 _ :: hownT 63 1 encU us_0_4 _ :: l) (.cons _ (.cons_cons _ (.cons_cons _ (.cons_cons _ (.cons_cons _ (.refl _)))))) ?_
            refine NX.then ?_
            refine Tr.ret' ?_
            refine res1 rfl rfl ?_
            intro w hc
            cases hr
            exact ⟨_, _, _, rfl, hc⟩

def low_Play_k522 (l514 : List Int) (l516 : List (BitVec 32)) (l518 : List Label) (l520 : List (BitVec 32)) : Option (Marked × Int) :=
  some ((({ codes := l514, marks := l518, src := l520 } : Marked), (0 : Int)))

def low_Play_b532 (clear_0 : List Label) (things_1 : List Label) (script_2 : List Deed) (t_531 : Int) (l506 : List Int) (l508 : List (BitVec 32)) (l510 : List Label) (l512 : List (BitVec 32)) (nx533 : ((List Int) × (List (BitVec 32)) × (List Label) × (List (BitVec 32))) → Option (Marked × Int)) : Option (Marked × Int) :=
  (geti script_2 t_531).bind fun y535 =>
  (low_state_do (({ clear := clear_0, things := things_1, marks := l510, knows := l508, from_ := l512 } : T78)) (({ kind := y535.kind, by_ := y535.by_, to := y535.to, label := ({ level := y535.label.level, parts := y535.label.parts } : Label), val := y535.val } : Deed))).bind fun r539 =>
  bif decide (l506.length + (([r539.1] : List Int)).length ≤ 17592186044416) then
  nx533 ((l506 ++ ([r539.1] : List Int)), r539.2.knows, r539.2.marks, r539.2.from_) else none

def low_Play_k493 (clear_0 : List Label) (things_1 : List Label) (script_2 : List Deed) (r185 : (List Label)) (l491 : List (BitVec 32)) : Option (Marked × Int) :=
  forK (σ := (List Int) × (List (BitVec 32)) × (List Label) × (List (BitVec 32))) (fun i s nx_ => low_Play_b532 clear_0 things_1 script_2 i s.1 s.2.1 s.2.2.1 s.2.2.2 nx_) (fun s => low_Play_k522 s.1 s.2.1 s.2.2.1 s.2.2.2) ((script_2.length : Int) - (0 : Int)).toNat (0 : Int) ((([] : List Int)), ((List.replicate ((clear_0.length : Int)).toNat (0#32))), r185, l491)

def low_Play_b550 (t_549 : Int) (l489 : List (BitVec 32)) (nx551 : (List (BitVec 32)) → Option (Marked × Int)) : Option (Marked × Int) :=
  bif decide (l489.length + (([(1#32 <<< t_549.toNat)] : List (BitVec 32))).length ≤ 35184372088832) then
  nx551 (l489 ++ ([(1#32 <<< t_549.toNat)] : List (BitVec 32))) else none

def low_Play (clear_0 : List Label) (things_1 : List Label) (script_2 : List Deed) : Option (Marked × Int) :=
  (mark_Wrong clear_0 things_1 ((script_2.length : Int))).bind fun r6 =>
  (bif (r6 != (0 : Int)) then
  some ((({ codes := ([] : List Int), marks := ([] : List Label), src := ([] : List (BitVec 32)) } : Marked), r6))
  else
  (slices_Clone_SapiLabelapiLabel clear_0).bind fun r185 =>
  bif decide (0 ≤ (clear_0.length : Int) ∧ (clear_0.length : Int) ≤ 1048576) then
  bif decide ((things_1.length : Int) ≤ 9223372036854775807) then
  forK (σ := (List (BitVec 32))) (fun i s nx_ => low_Play_b550 i s nx_) (fun s => low_Play_k493 clear_0 things_1 script_2 r185 s) ((things_1.length : Int) - (0 : Int)).toNat (0 : Int) (([] : List (BitVec 32))) else none else none)

set_option maxRecDepth 100000 in
theorem low_Play_ok (w0 : World) (m : Snap) (l : List HI) (uclear_0 : Value) (clear_0 : List Label) (hclear_0 : RS rLabel m uclear_0 clear_0) (uthings_1 : Value) (things_1 : List Label) (hthings_1 : RS rLabel m uthings_1 things_1) (uscript_2 : Value) (script_2 : List Deed) (hscript_2 : RS rDeed m uscript_2 script_2) (r : Marked × Int) (hr : low_Play clear_0 things_1 script_2 = some r) (w : World) (hc : cX w0 ⟨m, l⟩ w) :
    Calls Try.prog 16 [uclear_0, uthings_1, uscript_2].toArray w fun e w' => ∃ z0 : Value, ∃ z1 : Value, ∃ z2 : Value, ∃ m1 : Snap, e = .returned (.tuple #[.agg #[z0, z1, z2], .int .i64 r.2]) ∧ Sle m m1 ∧ RS rI m1 z0 r.1.codes ∧ RS rLabel m1 z1 r.1.marks ∧ RS rU m1 z2 r.1.src ∧ cX w0 ⟨m1, l⟩ w' := by
  unfold low_Play at hr
  refine calls_of_Tr (N := 72) Try.func16 rfl hc rfl (Nat.le_of_ble_eq_true rfl) ?_
  refine Tr.seq ?_
  refine Tr.addnil 28 1 ?_
  refine Tr.cast (m' := m) (l' := hownT 28 1 encI (.slice none 0 0) (([] : List Int)) :: l) rfl rfl ?_
  refine Tr.addnil 65 2 ?_
  refine Tr.cast (m' := m) (l' := hownT 65 2 Label.enc (.slice none 0 0) (([] : List Label)) :: hownT 28 1 encI (.slice none 0 0) (([] : List Int)) :: l) rfl rfl ?_
  refine Tr.addnil 63 1 ?_
  refine Tr.cast (m' := m) (l' := hownT 63 1 encU (.slice none 0 0) (([] : List (BitVec 32))) :: hownT 65 2 Label.enc (.slice none 0 0) (([] : List Label)) :: hownT 28 1 encI (.slice none 0 0) (([] : List Int)) :: l) rfl rfl ?_
  refine Tr.region_f (fun i => Nat.beq i 0) ?_
  refine W.e rfl rfl rfl rfl (by decide) (Ef.al rfl ZR27 rfl) ?_
  rintro _ _ ⟨b4, rfl, rfl⟩
  refine ⟨.inl rfl, ?_⟩
  refine W.cast (m' := m) (l' := hcells b4 [_, _, _] 27 :: hownT 63 1 encU (.slice none 0 0) _ :: hownT 65 2 Label.enc (.slice none 0 0) _ :: hownT 28 1 encI (.slice none 0 0) _ :: l) rfl rfl ?_
  refine W.q rfl rfl rfl rfl (by decide) (Yd.as rfl .c) ?_
  refine W.end ?_
  refine NX.sub (env' := [(0, _), (1, _), (2, _), (6, _)]) ⟨rfl, rfl, rfl, rfl, trivial⟩ ?_
  refine NX.then ?_
  refine Tr.seq ?_
  refine Tr.seq ?_
  obtain ⟨r6, hr7, hr⟩ := bind_some hr
  refine Tr.region_f (fun _ => false) ?_
  refine W.q rfl rfl rfl rfl (by decide) (Yd.mv rfl (.t rfl)) ?_
  refine W.q rfl rfl rfl rfl (by decide) (Yd.mv rfl (.t rfl)) ?_
  refine W.q rfl rfl rfl rfl (by decide) (Yd.mv rfl (.t rfl)) ?_
  refine W.q rfl rfl rfl rfl (by decide) (Yd.lenR hscript_2 rfl Try.underlying23 (.t rfl)) ?_
  refine W.q rfl rfl rfl rfl (by decide) (Yd.call (v := .int .i64 r6) rfl Try.func31 rfl rfl (.cons (.t rfl) (.cons (.t rfl) (.cons (.t rfl) .nil))) (fun x' hx w hw => mark_Wrong_ok w0 x'.m x'.l _ _ (hclear_0.mono hx.1) _ _ (hthings_1.mono hx.1) ((script_2.length : Int)) _ hr7 w hw)) ?_
  refine W.q rfl rfl rfl rfl (by decide) (Yd.as rfl (.t rfl)) ?_
  refine W.end ?_
  refine NX.sub (env' := [(0, _), (1, _), (2, _), (6, _), (8, _)]) ⟨rfl, rfl, rfl, rfl, rfl, trivial⟩ ?_
  refine NX.then ?_
  refine Tr.seq ?_
  refine Tr.region_f (fun _ => false) ?_
  refine W.q rfl rfl rfl rfl (by decide) (Yd.mv rfl (.t rfl)) ?_
  refine W.q rfl rfl rfl rfl (by decide) (Yd.neq rfl (.t rfl) .c) ?_
  refine W.end ?_
  refine NX.sub (env' := [(0, _), (1, _), (2, _), (6, _), (8, _), (20, _)]) ⟨rfl, rfl, rfl, rfl, rfl, rfl, trivial⟩ ?_
  refine NX.then ?_
  refine Tr.cond (.t rfl) (fun hb => ?_) (fun hb => ?_)
  · have hr := cond_t hb hr
    refine Tr.seq ?_
    refine Tr.region_f (fun i => Nat.beq i 2) ?_
    refine W.q rfl rfl rfl rfl (by decide) (Yd.bld (cells := [.slice none 0 0, .slice none 0 0, .slice none 0 0]) rfl ZI27 PL27 .nil rfl) ?_
    refine W.q rfl rfl rfl rfl (by decide) (Yd.mv rfl (.t rfl)) ?_
    refine W.s rfl rfl rfl rfl (Ef.stB (pos := 0) (us := [_, _, _]) (cs' := [_, _, _]) rfl rfl (.t rfl) (.t rfl) SZ27 rfl rfl rfl (Nat.le_of_ble_eq_true rfl) rfl) ?_
    rintro _ _ ⟨rfl, rfl⟩
    refine ⟨.inl rfl, ?_⟩
    refine W.cast (m' := m) (l' := hcells b4 [_, _, _] 27 :: hownT 63 1 encU (.slice none 0 0) _ :: hownT 65 2 Label.enc (.slice none 0 0) _ :: hownT 28 1 encI (.slice none 0 0) _ :: l) rfl rfl ?_
    refine W.q rfl rfl rfl rfl (by decide) (Yd.as rfl (.t rfl)) ?_
    refine W.end ?_
    refine NX.sub (env' := [(6, _), (7, _)]) ⟨rfl, rfl, trivial⟩ ?_
    refine NX.then ?_
    refine Tr.ret' (RT.then ?_)
    refine resV2 rfl (Rv.cs (pos := 0) rfl rfl rfl ON27 US27 SZ27) (Rv.t rfl) ?_
    intro w hc
    cases hr
    obtain ⟨m8, hsm8, hu9, hc⟩ := cX_freeze (enc := encI) (n := 1) (p := 3) (fun _ => rfl) hc rfl
    have hclear_0 := hclear_0.mono hsm8
    have hthings_1 := hthings_1.mono hsm8
    have hscript_2 := hscript_2.mono hsm8
    obtain ⟨m10, hsm10, hu11, hc⟩ := cX_freeze (enc := Label.enc) (n := 2) (p := 2) (fun _ => rfl) hc rfl
    have hclear_0 := hclear_0.mono hsm10
    have hthings_1 := hthings_1.mono hsm10
    have hscript_2 := hscript_2.mono hsm10
    have hu9 := hu9.mono hsm10
    obtain ⟨m12, hsm12, hu13, hc⟩ := cX_freeze (enc := encU) (n := 1) (p := 1) (fun _ => rfl) hc rfl
    have hclear_0 := hclear_0.mono hsm12
    have hthings_1 := hthings_1.mono hsm12
    have hscript_2 := hscript_2.mono hsm12
    have hu9 := hu9.mono hsm12
    have hu11 := hu11.mono hsm12
    exact ⟨_, _, _, _, rfl, ((hsm8.trans hsm10).trans hsm12), hu9, hu11, hu13, (cX_sub (.cons _ (.refl _)) hc)⟩
  · have hr := cond_f hb hr
    refine Tr.skip' ?_
    refine NX.then ?_
    refine Tr.seq ?_
    refine Tr.addnil 63 1 ?_
    refine Tr.cast (m' := m) (l' := hownT 63 1 encU (.slice none 0 0) (([] : List (BitVec 32))) :: hcells b4 [(.slice none 0 0), (.slice none 0 0), (.slice none 0 0)] 27 :: hownT 63 1 encU (.slice none 0 0) (([] : List (BitVec 32))) :: hownT 65 2 Label.enc (.slice none 0 0) (([] : List Label)) :: hownT 28 1 encI (.slice none 0 0) (([] : List Int)) :: l) rfl rfl ?_
    obtain ⟨r185, hr186, hr⟩ := bind_some hr
    obtain ⟨hq305, hr⟩ := guard_some hr; replace hq305 := of_decide_eq_true hq305
    refine Tr.region_x (fun i => Nat.beq i 3 || Nat.beq i 6 || Nat.beq i 8) (fun _ => false) (.one 0 (.one 1 (.one 2 (.one 4 (.one 5 (.two 3 6 (Ord.of [6, 7, 8, 9]) (Ord.of [3, 7, 8, 9]))))))) FM (by kernel_rfl) ?_
    refine W.q rfl rfl rfl rfl (by decide) (Yd.mv rfl (.t rfl)) ?_
    refine W.q rfl rfl rfl rfl (by decide) (Yd.mv rfl (.t rfl)) ?_
    refine W.q rfl rfl rfl rfl (by decide) (Yd.mv rfl (.t rfl)) ?_
    refine W.q rfl rfl rfl rfl (by decide) (Yd.mv rfl (.t rfl)) ?_
    refine W.q rfl rfl rfl rfl (by decide) (Yd.lenR hclear_0 rfl Try.underlying22 (.t rfl)) ?_
    refine W.two ?_ ?_
    ·
      refine W.e rfl rfl rfl rfl (by decide) (Ef.call (R := fun z x' => ∃ v185 : Value, z = v185 ∧ x' = ⟨m, hownT 65 2 Label.enc v185 r185 :: hownT 63 1 encU (.slice none 0 0) (([] : List (BitVec 32))) :: hcells b4 [(.slice none 0 0), (.slice none 0 0), (.slice none 0 0)] 27 :: hownT 63 1 encU (.slice none 0 0) (([] : List (BitVec 32))) :: hownT 65 2 Label.enc (.slice none 0 0) (([] : List Label)) :: hownT 28 1 encI (.slice none 0 0) (([] : List Int)) :: l⟩) rfl Try.func39 rfl rfl (.cons (.t rfl) .nil) (fun w hw => (slices_Clone_SapiLabelapiLabel_ok w0 _ _ _ _ hclear_0 _ hr186 w hw).mono fun e w' ⟨v185, he, hc'⟩ => ⟨_, _, he, ⟨v185, rfl, rfl⟩, hc'⟩)) ?_
      rintro v185 _ ⟨_, rfl, rfl⟩
      refine ⟨.inr ⟨.refl _, [_], rfl⟩, ?_⟩
      refine W.cast (m' := m) (l' := hownT 65 2 Label.enc v185 _ :: hownT 63 1 encU (.slice none 0 0) _ :: hcells b4 [_, _, _] 27 :: hownT 63 1 encU (.slice none 0 0) _ :: hownT 65 2 Label.enc (.slice none 0 0) _ :: hownT 28 1 encI (.slice none 0 0) _ :: l) rfl rfl ?_
      refine W.e rfl rfl rfl rfl (by decide) (Ef.mkT (enc := encU) (0#32) IF63 rfl Try.underlying25 rfl rfl (by decide) (.t rfl) (.t rfl) (by omega) (by omega) (by omega)) ?_
      rintro v305 _ rfl
      refine ⟨.inr ⟨.refl _, [_], rfl⟩, ?_⟩
      refine W.cast (m' := m) (l' := hownT 63 1 encU v305 _ :: hownT 65 2 Label.enc v185 _ :: hownT 63 1 encU (.slice none 0 0) _ :: hcells b4 [_, _, _] 27 :: hownT 63 1 encU (.slice none 0 0) _ :: hownT 65 2 Label.enc (.slice none 0 0) _ :: hownT 28 1 encI (.slice none 0 0) _ :: l) rfl rfl ?_
      refine W.q rfl rfl rfl rfl (by decide) (Yd.bld4 (cells := [uclear_0, uthings_1, v185, v305, (.slice none 0 0)]) (Sl.ro hclear_0) (Sl.ro hthings_1) (Sl.own (p := 1) rfl) (Sl.own (p := 0) rfl) rfl ZI78 PL78 (.cons (.t rfl) (.cons (.t rfl) (.cons (.t rfl) (.cons (.t rfl) .nil)))) (by rintro ⟨_, _, _, rfl⟩; rintro ⟨_, _, _, rfl⟩; rintro ⟨_, _, _, rfl⟩; rintro ⟨_, _, _, rfl⟩; rfl)) ?_
      refine W.e rfl rfl rfl rfl (by decide) (Ef.bx rfl (.t rfl) rfl) ?_
      rintro _ _ ⟨b385, rfl, rfl⟩
      refine ⟨.inr ⟨.refl _, [_], rfl⟩, ?_⟩
      refine W.cast (m' := m) (l' := hcells b385 [_, _, _, _, _] 78 :: hownT 63 1 encU v305 _ :: hownT 65 2 Label.enc v185 _ :: hownT 63 1 encU (.slice none 0 0) _ :: hcells b4 [_, _, _] 27 :: hownT 63 1 encU (.slice none 0 0) _ :: hownT 65 2 Label.enc (.slice none 0 0) _ :: hownT 28 1 encI (.slice none 0 0) _ :: l) rfl rfl ?_
      refine W.q rfl rfl rfl rfl (by decide) (Yd.as rfl (.t rfl)) ?_
      refine W.end ?_
      refine NX.sub (env' := [(1, _), (2, _), (6, _), (9, _)]) ⟨rfl, rfl, rfl, rfl, trivial⟩ ?_
      refine NX.then ?_
      refine Tr.seq ?_
      refine Tr.seq ?_
      refine Tr.region_f (fun _ => false) ?_
      refine W.q rfl rfl rfl rfl (by decide) (Yd.mv rfl (.t rfl)) ?_
      refine W.q rfl rfl rfl rfl (by decide) (Yd.lenR hthings_1 rfl Try.underlying22 (.t rfl)) ?_
      refine W.q rfl rfl rfl rfl (by decide) (Yd.mv rfl .c) ?_
      refine W.end ?_
      refine NX.sub (env' := [(2, _), (6, _), (9, _), (33, _), (34, _)]) ⟨rfl, rfl, rfl, rfl, rfl, trivial⟩ ?_
      refine NX.then ?_
      refine Tr.join (S := fun env x => ∃ l491 : List (BitVec 32), ∃ v492 : Value, env = [(2, uscript_2), (6, bp b4 0), (9, bp b385 0)] ∧ x = ⟨m, hcells b385 [uclear_0, uthings_1, v185, v305, v492] 78 :: hownT 63 1 encU v305 ((List.replicate ((clear_0.length : Int)).toNat (0#32))) :: hownT 65 2 Label.enc v185 r185 :: hownT 63 1 encU v492 l491 :: hcells b4 [(.slice none 0 0), (.slice none 0 0), (.slice none 0 0)] 27 :: hownT 63 1 encU (.slice none 0 0) (([] : List (BitVec 32))) :: hownT 65 2 Label.enc (.slice none 0 0) (([] : List Label)) :: hownT 28 1 encI (.slice none 0 0) (([] : List Int)) :: l⟩ ∧ low_Play_k493 clear_0 things_1 script_2 r185 l491 = some r) ?_ (fun hk494 => ?_)
      · rintro _ _ ⟨l491, v492, rfl, rfl, hr⟩
        unfold low_Play_k493 at hr
        try dsimp only at hr
        refine NX.then ?_
        refine Tr.seq ?_
        refine Tr.region_f (fun _ => false) ?_
        refine W.q rfl rfl rfl rfl (by decide) (Yd.as rfl .c) ?_
        refine W.end ?_
        refine NX.sub (env' := [(2, _), (6, _), (9, _), (11, _)]) ⟨rfl, rfl, rfl, rfl, trivial⟩ ?_
        refine NX.then ?_
        refine Tr.seq ?_
        refine Tr.seq ?_
        refine Tr.region_f (fun _ => false) ?_
        refine W.q rfl rfl rfl rfl (by decide) (Yd.mv rfl (.t rfl)) ?_
        refine W.q rfl rfl rfl rfl (by decide) (Yd.lenR hscript_2 rfl Try.underlying23 (.t rfl)) ?_
        refine W.q rfl rfl rfl rfl (by decide) (Yd.mv rfl .c) ?_
        refine W.end ?_
        refine NX.sub (env' := [(6, _), (9, _), (11, _), (49, _), (50, _), (51, _)]) ⟨rfl, rfl, rfl, rfl, rfl, rfl, trivial⟩ ?_
        refine NX.then ?_
        refine Tr.addnil 28 1 ?_
        refine Tr.join (S := fun env x => ∃ l514 : List Int, ∃ l516 : List (BitVec 32), ∃ l518 : List Label, ∃ l520 : List (BitVec 32), ∃ v515 : Value, ∃ v517 : Value, ∃ v519 : Value, ∃ v521 : Value, env = [(6, bp b4 0), (9, bp b385 0), (11, v515)] ∧ x = ⟨m, hownT 28 1 encI v515 l514 :: hcells b385 [uclear_0, uthings_1, v519, v517, v521] 78 :: hownT 63 1 encU v517 l516 :: hownT 65 2 Label.enc v519 l518 :: hownT 63 1 encU v521 l520 :: hcells b4 [(.slice none 0 0), (.slice none 0 0), (.slice none 0 0)] 27 :: hownT 63 1 encU (.slice none 0 0) (([] : List (BitVec 32))) :: hownT 65 2 Label.enc (.slice none 0 0) (([] : List Label)) :: hownT 28 1 encI (.slice none 0 0) (([] : List Int)) :: l⟩ ∧ low_Play_k522 l514 l516 l518 l520 = some r) ?_ (fun hk523 => ?_)
        · rintro _ _ ⟨l514, l516, l518, l520, v515, v517, v519, v521, rfl, rfl, hr⟩
          unfold low_Play_k522 at hr
          try dsimp only at hr
          refine NX.then ?_
          refine Tr.seq ?_
          refine Tr.region_x (fun i => Nat.beq i 10) (fun i => Nat.beq i 10) (Ord.of [0, 1, 2, 3, 4, 5, 6, 7, 8, 9, 10, 11]) FM (by kernel_rfl) ?_
          refine W.q rfl rfl rfl rfl (by decide) (Yd.mv rfl (.t rfl)) ?_
          refine W.q rfl rfl rfl rfl (by decide) (Yd.mv rfl (.t rfl)) ?_
          refine W.q rfl rfl rfl rfl (by decide) (Yd.nilc rfl (.t rfl)) ?_
          refine W.q rfl rfl rfl rfl (by decide) (Yd.fldB rfl Try.underlying78 rfl SZ22 rfl (.t rfl)) ?_
          refine W.q rfl rfl rfl rfl (by decide) (Yd.ldB (pos := 1) rfl rfl rfl ON22 (.t rfl)) ?_
          refine W.q rfl rfl rfl rfl (by decide) (Yd.mv rfl (.t rfl)) ?_
          refine W.q rfl rfl rfl rfl (by decide) (Yd.nilc rfl (.t rfl)) ?_
          refine W.q rfl rfl rfl rfl (by decide) (Yd.fldB rfl Try.underlying78 rfl SZ25 rfl (.t rfl)) ?_
          refine W.q rfl rfl rfl rfl (by decide) (Yd.ldB (pos := 1) rfl rfl rfl ON25 (.t rfl)) ?_
          refine W.q rfl rfl rfl rfl (by decide) (Yd.bld3 (cells := [v515, v519, v521]) (Sl.own (p := 0) rfl) (Sl.own (p := 3) rfl) (Sl.own (p := 4) rfl) rfl ZI27 PL27 (.cons (.t rfl) (.cons (.t rfl) (.cons (.t rfl) .nil))) (by rintro ⟨_, _, _, rfl⟩; rintro ⟨_, _, _, rfl⟩; rintro ⟨_, _, _, rfl⟩; rfl)) ?_
          refine W.s rfl rfl rfl rfl (Ef.stBs (pos := 5) (us := [v515, v519, v521]) (cs' := [_, _, _]) (.cons (On.own (pos := 0) rfl) (.cons (On.own (pos := 3) rfl) (.cons (On.own (pos := 4) rfl) .nil))) rfl rfl (.t rfl) (.t rfl) SZ27 rfl rfl (Nat.le_of_ble_eq_true rfl) rfl) ?_
          rintro _ _ ⟨rfl, rfl⟩
          refine ⟨.inl rfl, ?_⟩
          refine W.cast (m' := m) (l' := hownT 28 1 encI v515 _ :: hcells b385 [_, _, _, _, _] 78 :: hownT 63 1 encU v517 _ :: hownT 65 2 Label.enc v519 _ :: hownT 63 1 encU v521 _ :: hcells b4 [_, _, _] 27 :: hownT 63 1 encU (.slice none 0 0) _ :: hownT 65 2 Label.enc (.slice none 0 0) _ :: hownT 28 1 encI (.slice none 0 0) _ :: l) rfl rfl ?_
          refine W.q rfl rfl rfl rfl (by decide) (Yd.as rfl .c) ?_
          refine W.end ?_
          refine NX.sub (env' := [(6, _), (7, _)]) ⟨rfl, rfl, trivial⟩ ?_
          refine NX.drop (l' := hownT 28 1 encI v515 _ :: hownT 65 2 Label.enc v519 _ :: hownT 63 1 encU v521 _ :: hcells b4 [_, _, _] 27 :: l) (.cons_cons _ (.cons _ (.cons _ (.cons_cons _ (.cons_cons _ (.cons_cons _ (.cons _ (.cons _ (.cons _ (.refl _)))))))))) ?_
          refine NX.then ?_
          refine Tr.ret' ?_
          refine resV2 rfl (Rv.cs (pos := 3) rfl rfl rfl ON27 US27 SZ27) (Rv.t rfl) ?_
          intro w hc
          cases hr
          obtain ⟨m524, hsm524, hu525, hc⟩ := cX_freeze (enc := encI) (n := 1) (p := 0) (fun _ => rfl) hc rfl
          have hclear_0 := hclear_0.mono hsm524
          have hthings_1 := hthings_1.mono hsm524
          have hscript_2 := hscript_2.mono hsm524
          obtain ⟨m526, hsm526, hu527, hc⟩ := cX_freeze (enc := Label.enc) (n := 2) (p := 0) (fun _ => rfl) hc rfl
          have hclear_0 := hclear_0.mono hsm526
          have hthings_1 := hthings_1.mono hsm526
          have hscript_2 := hscript_2.mono hsm526
          have hu525 := hu525.mono hsm526
          obtain ⟨m528, hsm528, hu529, hc⟩ := cX_freeze (enc := encU) (n := 1) (p := 0) (fun _ => rfl) hc rfl
          have hclear_0 := hclear_0.mono hsm528
          have hthings_1 := hthings_1.mono hsm528
          have hscript_2 := hscript_2.mono hsm528
          have hu525 := hu525.mono hsm528
          have hu527 := hu527.mono hsm528
          exact ⟨_, _, _, _, rfl, ((hsm524.trans hsm526).trans hsm528), hu525, hu527, hu529, (cX_sub (.cons _ (.refl _)) hc)⟩
        have hlen530 := (hscript_2).2.1
        refine Tr.block ?_
        refine Tr.sub (env' := [(6, _), (9, _), (11, _), (49, _), (50, _), (51, _)]) ⟨rfl, rfl, rfl, rfl, rfl, rfl, trivial⟩ ?_
        refine Tr.loop (S := fun n (z : Int × (List Int) × (List (BitVec 32)) × (List Label) × (List (BitVec 32))) env x => match z with | (t_531, l506, l508, l510, l512) => ∃ v507 : Value, ∃ v509 : Value, ∃ v511 : Value, ∃ v513 : Value, env = [(6, bp b4 0), (9, bp b385 0), (11, v507), (49, uscript_2), (50, .int .i64 ((script_2.length : Int))), (51, .int .i64 t_531)] ∧ x = ⟨m, hownT 28 1 encI v507 l506 :: hcells b385 [uclear_0, uthings_1, v511, v509, v513] 78 :: hownT 63 1 encU v509 l508 :: hownT 65 2 Label.enc v511 l510 :: hownT 63 1 encU v513 l512 :: hcells b4 [(.slice none 0 0), (.slice none 0 0), (.slice none 0 0)] 27 :: hownT 63 1 encU (.slice none 0 0) (([] : List (BitVec 32))) :: hownT 65 2 Label.enc (.slice none 0 0) (([] : List Label)) :: hownT 28 1 encI (.slice none 0 0) (([] : List Int)) :: l⟩ ∧ n = ((script_2.length : Int) - t_531).toNat ∧ 0 ≤ t_531 ∧ forK (σ := (List Int) × (List (BitVec 32)) × (List Label) × (List (BitVec 32))) (fun i s nx_ => low_Play_b532 clear_0 things_1 script_2 i s.1 s.2.1 s.2.2.1 s.2.2.2 nx_) (fun s => low_Play_k522 s.1 s.2.1 s.2.2.1 s.2.2.2) n t_531 (l506, l508, l510, l512) = some r) _ ((0 : Int), ([] : List Int), (List.replicate ((clear_0.length : Int)).toNat (0#32)), r185, l491) ⟨_, _, _, _, rfl, rfl, rfl, (by omega), hr⟩ ?_
        rintro n534 ⟨t_531, l506, l508, l510, l512⟩ env x ⟨v507, v509, v511, v513, rfl, rfl, hnt_531, h0t_531, hr⟩
        cases n534 with
        | zero =>
          simp only [forK] at hr
          refine Tr.seq ?_
          refine Tr.region_f (fun _ => false) ?_
          refine W.q rfl rfl rfl rfl (by decide) (Yd.lss rfl (.t rfl) (.t rfl)) ?_
          refine W.end ?_
          refine NX.sub (env' := [(6, _), (9, _), (11, _), (49, _), (50, _), (51, _), (52, _)]) ⟨rfl, rfl, rfl, rfl, rfl, rfl, rfl, trivial⟩ ?_
          refine NX.then ?_
          refine Tr.seq ?_
          refine Tr.cond (.t rfl) (fun hb => ?_) (fun hb => ?_)
          · exact absurd (hb.symm.trans (fr_end hnt_531)) (by decide)
          ·
            refine Tr.exit' (EX.then (EX.then (EX.block ?_)))
            refine NX.sub (env' := [(6, _), (9, _), (11, _)]) ⟨rfl, rfl, rfl, trivial⟩ ?_
            exact hk523 _ _ ⟨_, _, _, _, _, _, _, _, rfl, rfl, hr⟩
        | succ n534 =>
          obtain ⟨nx533, hnx533, hr⟩ := forK_succ hr
          try dsimp only at hr
          unfold low_Play_b532 at hr
          try dsimp only at hr
          have hltt_531 := fr_bnd hnt_531
          refine Tr.seq ?_
          refine Tr.region_f (fun _ => false) ?_
          refine W.q rfl rfl rfl rfl (by decide) (Yd.lss rfl (.t rfl) (.t rfl)) ?_
          refine W.end ?_
          refine NX.sub (env' := [(6, _), (9, _), (11, _), (49, _), (50, _), (51, _), (52, _)]) ⟨rfl, rfl, rfl, rfl, rfl, rfl, rfl, trivial⟩ ?_
          refine NX.then ?_
          refine Tr.seq ?_
          refine Tr.cond (.t rfl) (fun hb => ?_) (fun hb => ?_)
          rotate_left
          · exact absurd (hb.symm.trans (fr_go hnt_531)) (by decide)
          ·
            refine Tr.skip' ?_
            refine NX.then ?_
            refine Tr.seq ?_
            refine Tr.block ?_
            refine Tr.seq ?_
            obtain ⟨y535, hy536, hr⟩ := bind_some hr
            refine Tr.region_f (fun i => Nat.beq i 2 || Nat.beq i 3) ?_
            refine W.q rfl rfl rfl rfl (by decide) (Yd.idxR hscript_2 hy536 rfl Try.underlying23 SZ67 (.t rfl) (.t rfl)) ?_
            refine W.q rfl rfl rfl rfl (by decide) (Yd.ldFs (us := [_, _, _, _, _, _]) hscript_2 (.refl _) hy536 rfl rfl ON67 US67 SZ67 (.t rfl)) ?_
            refine W.e rfl rfl rfl rfl (by decide) (Ef.al rfl ZR67 rfl) ?_
            rintro _ _ ⟨b537, rfl, rfl⟩
            refine ⟨.inl rfl, ?_⟩
            refine W.cast (m' := m) (l' := hcells b537 [_, _, _, _, _, _] 67 :: hownT 28 1 encI v507 _ :: hcells b385 [_, _, _, _, _] 78 :: hownT 63 1 encU v509 _ :: hownT 65 2 Label.enc v511 _ :: hownT 63 1 encU v513 _ :: hcells b4 [_, _, _] 27 :: hownT 63 1 encU (.slice none 0 0) _ :: hownT 65 2 Label.enc (.slice none 0 0) _ :: hownT 28 1 encI (.slice none 0 0) _ :: l) rfl rfl ?_
            refine W.s rfl rfl rfl rfl (Ef.stB (pos := 0) (us := [_, _, _, _, _, _]) (cs' := [_, _, _, _, _, _]) rfl rfl (.t rfl) (.t rfl) SZ67 rfl rfl rfl (Nat.le_of_ble_eq_true rfl) rfl) ?_
            rintro _ _ ⟨rfl, rfl⟩
            refine ⟨.inl rfl, ?_⟩
            refine W.cast (m' := m) (l' := hcells b537 [_, _, _, _, _, _] 67 :: hownT 28 1 encI v507 _ :: hcells b385 [_, _, _, _, _] 78 :: hownT 63 1 encU v509 _ :: hownT 65 2 Label.enc v511 _ :: hownT 63 1 encU v513 _ :: hcells b4 [_, _, _] 27 :: hownT 63 1 encU (.slice none 0 0) _ :: hownT 65 2 Label.enc (.slice none 0 0) _ :: hownT 28 1 encI (.slice none 0 0) _ :: l) rfl rfl ?_
            refine W.end ?_
            refine NX.sub (env' := [(6, _), (9, _), (11, _), (49, _), (50, _), (51, _), (13, _)]) ⟨rfl, rfl, rfl, rfl, rfl, rfl, rfl, trivial⟩ ?_
            refine NX.then ?_
            obtain ⟨r539, hr540, hr⟩ := bind_some hr
            obtain ⟨hq547, hr⟩ := guard_some hr; replace hq547 := of_decide_eq_true hq547
            refine Tr.region_f (fun i => Nat.beq i 3 || Nat.beq i 4 || Nat.beq i 5) ?_
            refine W.q rfl rfl rfl rfl (by decide) (Yd.mv rfl (.t rfl)) ?_
            refine W.q rfl rfl rfl rfl (by decide) (Yd.mv rfl (.t rfl)) ?_
            refine W.q rfl rfl rfl rfl (by decide) (Yd.ldBs (pos := 0) (us := [_, _, _, _, _, _]) rfl rfl rfl rfl ON67 US67 SZ67 (.t rfl)) ?_
            refine W.e rfl rfl rfl rfl (by decide) (Ef.call (R := fun z x' => ∃ v541 : Value, ∃ v542 : Value, ∃ v543 : Value, z = .int .i64 r539.1 ∧ x' = ⟨m, hcells b385 [uclear_0, uthings_1, v541, v542, v543] 78 :: hownT 65 2 Label.enc v541 r539.2.marks :: hownT 63 1 encU v542 r539.2.knows :: hownT 63 1 encU v543 r539.2.from_ :: hcells b537 [.int .i64 y535.kind, .int .i64 y535.by_, .int .i64 y535.to, .int .i64 y535.label.level, .int .u32 (y535.label.parts.toNat : Int), .int .i64 y535.val] 67 :: hownT 28 1 encI v507 l506 :: hcells b4 [(.slice none 0 0), (.slice none 0 0), (.slice none 0 0)] 27 :: hownT 63 1 encU (.slice none 0 0) (([] : List (BitVec 32))) :: hownT 65 2 Label.enc (.slice none 0 0) (([] : List Label)) :: hownT 28 1 encI (.slice none 0 0) (([] : List Int)) :: l⟩) rfl Try.func40 rfl rfl (.cons (.t rfl) (.cons (.t rfl) .nil)) (by intro w hw; replace hw := cX_front (p := 5) hw rfl; replace hw := cX_front (p := 4) hw rfl; replace hw := cX_front (p := 5) hw rfl; replace hw := cX_front (p := 5) hw rfl; exact (low_state_do_ok w0 _ _ _ _ _ hclear_0 _ hthings_1 _ _ _ (({ kind := y535.kind, by_ := y535.by_, to := y535.to, label := ({ level := y535.label.level, parts := y535.label.parts } : Label), val := y535.val } : Deed)) _ hr540 w hw).mono fun e w' ⟨v541, v542, v543, he, hc'⟩ => ⟨_, _, he, ⟨v541, v542, v543, rfl, rfl⟩, hc'⟩)) ?_
            rintro _ _ ⟨v541, v542, v543, rfl, rfl⟩
            refine ⟨.inl rfl, ?_⟩
            refine W.cast (m' := m) (l' := hcells b385 [_, _, _, _, _] 78 :: hownT 65 2 Label.enc v541 _ :: hownT 63 1 encU v542 _ :: hownT 63 1 encU v543 _ :: hcells b537 [_, _, _, _, _, _] 67 :: hownT 28 1 encI v507 _ :: hcells b4 [_, _, _] 27 :: hownT 63 1 encU (.slice none 0 0) _ :: hownT 65 2 Label.enc (.slice none 0 0) _ :: hownT 28 1 encI (.slice none 0 0) _ :: l) rfl rfl ?_
            refine W.e rfl rfl rfl rfl (by decide) (Ef.bsT (enc := encI) (vs := [_]) (ys := [r539.1]) (fun _ => rfl) IF28 rfl Try.underlying24 (by decide) rfl (.cons (.t rfl) .nil) rfl rfl (by decide)) ?_
            rintro v544 _ rfl
            refine ⟨.inl rfl, ?_⟩
            refine W.cast (m' := m) (l' := hownT 28 1 encI v544 _ :: hcells b385 [_, _, _, _, _] 78 :: hownT 65 2 Label.enc v541 _ :: hownT 63 1 encU v542 _ :: hownT 63 1 encU v543 _ :: hcells b537 [_, _, _, _, _, _] 67 :: hownT 28 1 encI v507 _ :: hcells b4 [_, _, _] 27 :: hownT 63 1 encU (.slice none 0 0) _ :: hownT 65 2 Label.enc (.slice none 0 0) _ :: hownT 28 1 encI (.slice none 0 0) _ :: l) rfl rfl ?_
            refine W.e rfl rfl rfl rfl (by decide) (Ef.apI (pos := 6) (enc := encI) (xs := l506) (ys := ([r539.1] : List Int)) (fun _ => rfl) IF28 rfl rfl Try.underlying24 rfl (by decide) (.t rfl) (.t rfl) (Src.own (pos := 0) rfl) (fun _ => rfl) (by omega) (by omega)) ?_
            rintro v546 _ rfl
            refine ⟨.inl rfl, ?_⟩
            refine W.cast (m' := m) (l' := hownT 28 1 encI v544 _ :: hcells b385 [_, _, _, _, _] 78 :: hownT 65 2 Label.enc v541 _ :: hownT 63 1 encU v542 _ :: hownT 63 1 encU v543 _ :: hcells b537 [_, _, _, _, _, _] 67 :: hownT 28 1 encI v546 _ :: hcells b4 [_, _, _] 27 :: hownT 63 1 encU (.slice none 0 0) _ :: hownT 65 2 Label.enc (.slice none 0 0) _ :: hownT 28 1 encI (.slice none 0 0) _ :: l) rfl rfl ?_
            refine W.q rfl rfl rfl rfl (by decide) (Yd.as rfl (.t rfl)) ?_
            refine W.end ?_
            refine NX.sub (env' := [(6, _), (9, _), (11, _), (49, _), (50, _), (51, _)]) ⟨rfl, rfl, rfl, rfl, rfl, rfl, trivial⟩ ?_
            refine NX.drop (l' := hcells b385 [_, _, _, _, _] 78 :: hownT 65 2 Label.enc v541 _ :: hownT 63 1 encU v542 _ :: hownT 63 1 encU v543 _ :: hownT 28 1 encI v546 _ :: hcells b4 [_, _, _] 27 :: hownT 63 1 encU (.slice none 0 0) _ :: hownT 65 2 Label.enc (.slice none 0 0) _ :: hownT 28 1 encI (.slice none 0 0) _ :: l) (.cons _ (.cons_cons _ (.cons_cons _ (.cons_cons _ (.cons_cons _ (.cons _ (.cons_cons _ (.cons_cons _ (.cons_cons _ (.cons_cons _ (.cons_cons _ (.refl _)))))))))))) ?_
            refine NX.block ?_
            refine NX.then ?_
            refine Tr.region_f (fun _ => false) ?_
            refine W.q rfl rfl rfl rfl (by decide) (Yd.add rfl (.t rfl) .c) ?_
            refine W.q rfl rfl rfl rfl (by decide) (Yd.mv rfl (.t rfl)) ?_
            refine W.end ?_
            refine NX.sub (env' := [(6, _), (9, _), (11, _), (49, _), (50, _), (51, _)]) ⟨rfl, rfl, rfl, rfl, rfl, rfl, trivial⟩ ?_
            refine NX.sub (env' := [(6, _), (9, _), (11, _), (49, _), (50, _), (51, _)]) ⟨rfl, rfl, rfl, rfl, rfl, rfl, trivial⟩ ?_
            refine NX.imp (fun w hw => cX_front (p := 8) hw rfl) ?_
            refine NX.imp (fun w hw => cX_front (p := 8) hw rfl) ?_
            refine NX.imp (fun w hw => cX_front (p := 8) hw rfl) ?_
            refine NX.imp (fun w hw => cX_front (p := 8) hw rfl) ?_
            refine NX.imp (fun w hw => cX_front (p := 7) hw rfl) ?_
            refine NX.imp (fun w hw => cX_front (p := 6) hw rfl) ?_
            refine NX.imp (fun w hw => cX_front (p := 7) hw rfl) ?_
            refine NX.imp (fun w hw => cX_front (p := 7) hw rfl) ?_
            refine NX.imp (fun w hw => cX_front (p := 8) hw rfl) ?_
            refine NX.cast (m' := m) (l' := hownT 28 1 encI v546 _ :: hcells b385 [_, _, _, _, _] 78 :: hownT 63 1 encU v542 _ :: hownT 65 2 Label.enc v541 _ :: hownT 63 1 encU v543 _ :: hcells b4 [_, _, _] 27 :: hownT 63 1 encU (.slice none 0 0) _ :: hownT 65 2 Label.enc (.slice none 0 0) _ :: hownT 28 1 encI (.slice none 0 0) _ :: l) rfl rfl ?_
            have hw := w64_id (n := t_531 + 1) (by omega) (by omega)
            exact NX.again n534 (t_531 + 1, (l506 ++ ([r539.1] : List Int)), r539.2.knows, r539.2.marks, r539.2.from_) (Nat.lt_succ_self _) ⟨_, _, _, _, (by rw [hw] <;> rfl), rfl, (fr_dec hnt_531), (by omega), ((hnx533 _).symm.trans hr)⟩
      obtain ⟨hle548, hr⟩ := guard_some hr; replace hle548 := of_decide_eq_true hle548
      refine Tr.block ?_
      refine Tr.sub (env' := [(2, _), (6, _), (9, _), (33, _), (34, _)]) ⟨rfl, rfl, rfl, rfl, rfl, trivial⟩ ?_
      refine Tr.loop (S := fun n (z : Int × (List (BitVec 32))) env x => match z with | (t_549, l489) => ∃ v490 : Value, env = [(2, uscript_2), (6, bp b4 0), (9, bp b385 0), (33, .int .i64 ((things_1.length : Int))), (34, .int .i64 t_549)] ∧ x = ⟨m, hcells b385 [uclear_0, uthings_1, v185, v305, v490] 78 :: hownT 63 1 encU v305 ((List.replicate ((clear_0.length : Int)).toNat (0#32))) :: hownT 65 2 Label.enc v185 r185 :: hownT 63 1 encU v490 l489 :: hcells b4 [(.slice none 0 0), (.slice none 0 0), (.slice none 0 0)] 27 :: hownT 63 1 encU (.slice none 0 0) (([] : List (BitVec 32))) :: hownT 65 2 Label.enc (.slice none 0 0) (([] : List Label)) :: hownT 28 1 encI (.slice none 0 0) (([] : List Int)) :: l⟩ ∧ n = ((things_1.length : Int) - t_549).toNat ∧ 0 ≤ t_549 ∧ forK (σ := (List (BitVec 32))) (fun i s nx_ => low_Play_b550 i s nx_) (fun s => low_Play_k493 clear_0 things_1 script_2 r185 s) n t_549 l489 = some r) _ ((0 : Int), ([] : List (BitVec 32))) ⟨_, rfl, rfl, rfl, (by omega), hr⟩ ?_
      rintro n552 ⟨t_549, l489⟩ env x ⟨v490, rfl, rfl, hnt_549, h0t_549, hr⟩
      cases n552 with
      | zero =>
        simp only [forK] at hr
        refine Tr.seq ?_
        refine Tr.region_f (fun _ => false) ?_
        refine W.q rfl rfl rfl rfl (by decide) (Yd.lss rfl (.t rfl) (.t rfl)) ?_
        refine W.end ?_
        refine NX.sub (env' := [(2, _), (6, _), (9, _), (33, _), (34, _), (35, _)]) ⟨rfl, rfl, rfl, rfl, rfl, rfl, trivial⟩ ?_
        refine NX.then ?_
        refine Tr.seq ?_
        refine Tr.cond (.t rfl) (fun hb => ?_) (fun hb => ?_)
        · exact absurd (hb.symm.trans (fr_end hnt_549)) (by decide)
        ·
          refine Tr.exit' (EX.then (EX.then (EX.block ?_)))
          refine NX.sub (env' := [(2, _), (6, _), (9, _)]) ⟨rfl, rfl, rfl, trivial⟩ ?_
          exact hk494 _ _ ⟨_, _, rfl, rfl, hr⟩
      | succ n552 =>
        obtain ⟨nx551, hnx551, hr⟩ := forK_succ hr
        try dsimp only at hr
        unfold low_Play_b550 at hr
        try dsimp only at hr
        have hltt_549 := fr_bnd hnt_549
        refine Tr.seq ?_
        refine Tr.region_f (fun _ => false) ?_
        refine W.q rfl rfl rfl rfl (by decide) (Yd.lss rfl (.t rfl) (.t rfl)) ?_
        refine W.end ?_
        refine NX.sub (env' := [(2, _), (6, _), (9, _), (33, _), (34, _), (35, _)]) ⟨rfl, rfl, rfl, rfl, rfl, rfl, trivial⟩ ?_
        refine NX.then ?_
        refine Tr.seq ?_
        refine Tr.cond (.t rfl) (fun hb => ?_) (fun hb => ?_)
        rotate_left
        · exact absurd (hb.symm.trans (fr_go hnt_549)) (by decide)
        ·
          refine Tr.skip' ?_
          refine NX.then ?_
          refine Tr.seq ?_
          refine Tr.block ?_
          refine Tr.seq ?_
          refine Tr.region_f (fun _ => false) ?_
          refine W.q rfl rfl rfl rfl (by decide) (Yd.mv rfl (.t rfl)) ?_
          refine W.q rfl rfl rfl rfl (by decide) (Yd.as rfl (.t rfl)) ?_
          refine W.end ?_
          refine NX.sub (env' := [(2, _), (6, _), (9, _), (33, _), (34, _), (10, _)]) ⟨rfl, rfl, rfl, rfl, rfl, rfl, trivial⟩ ?_
          refine NX.then ?_
          obtain ⟨hq556, hr⟩ := guard_some hr; replace hq556 := of_decide_eq_true hq556
          refine Tr.region_x (fun i => Nat.beq i 7 || Nat.beq i 8 || Nat.beq i 11) (fun i => Nat.beq i 0 || Nat.beq i 8 || Nat.beq i 11) (Ord.of [0, 1, 2, 3, 4, 5, 6, 7, 8, 9, 10, 11]) FM (by kernel_rfl) ?_
          refine W.p rfl rfl rfl rfl (by decide) (fun _ => Yd.mv rfl (.t rfl)) ?_
          refine W.q rfl rfl rfl rfl (by decide) (Yd.mv rfl (.t rfl)) ?_
          refine W.q rfl rfl rfl rfl (by decide) (Yd.nilc rfl (.t rfl)) ?_
          refine W.q rfl rfl rfl rfl (by decide) (Yd.fldB rfl Try.underlying78 rfl SZ25 rfl (.t rfl)) ?_
          refine W.q rfl rfl rfl rfl (by decide) (Yd.ldB (pos := 0) rfl rfl rfl ON25 (.t rfl)) ?_
          refine W.q rfl rfl rfl rfl (by decide) (Yd.mv rfl (.t rfl)) ?_
          refine W.q rfl rfl rfl rfl (by decide) (Yd.shlU (a := 1#32) rfl .c (.t rfl) h0t_549) ?_
          refine W.e rfl rfl rfl rfl (by decide) (Ef.bsT (enc := encU) (vs := [_]) (ys := [(1#32 <<< t_549.toNat)]) (fun _ => rfl) IF63 rfl Try.underlying25 (by decide) rfl (.cons (.t rfl) .nil) rfl rfl (by decide)) ?_
          rintro v553 _ rfl
          refine ⟨.inr ⟨.refl _, [_], rfl⟩, ?_⟩
          refine W.cast (m' := m) (l' := hownT 63 1 encU v553 _ :: hcells b385 [_, _, _, _, _] 78 :: hownT 63 1 encU v305 _ :: hownT 65 2 Label.enc v185 _ :: hownT 63 1 encU v490 _ :: hcells b4 [_, _, _] 27 :: hownT 63 1 encU (.slice none 0 0) _ :: hownT 65 2 Label.enc (.slice none 0 0) _ :: hownT 28 1 encI (.slice none 0 0) _ :: l) rfl rfl ?_
          refine W.e rfl rfl rfl rfl (by decide) (Ef.apI (pos := 4) (enc := encU) (xs := l489) (ys := ([(1#32 <<< t_549.toNat)] : List (BitVec 32))) (fun _ => rfl) IF63 rfl rfl Try.underlying25 rfl (by decide) (.t rfl) (.t rfl) (Src.own (pos := 0) rfl) (fun _ => rfl) (by omega) (by omega)) ?_
          rintro v555 _ rfl
          refine ⟨.inl rfl, ?_⟩
          refine W.cast (m' := m) (l' := hownT 63 1 encU v553 _ :: hcells b385 [_, _, _, _, _] 78 :: hownT 63 1 encU v305 _ :: hownT 65 2 Label.enc v185 _ :: hownT 63 1 encU v555 _ :: hcells b4 [_, _, _] 27 :: hownT 63 1 encU (.slice none 0 0) _ :: hownT 65 2 Label.enc (.slice none 0 0) _ :: hownT 28 1 encI (.slice none 0 0) _ :: l) rfl rfl ?_
          refine W.q rfl rfl rfl rfl (by decide) (Yd.nilc rfl (.t rfl)) ?_
          refine W.q rfl rfl rfl rfl (by decide) (Yd.fldB rfl Try.underlying78 rfl SZ25 rfl (.t rfl)) ?_
          refine W.s rfl rfl rfl rfl (Ef.stBo (pos := 1) (pos2 := 4) (cs' := [_, _, _, _, _]) rfl rfl rfl (.t rfl) (.t rfl) SZ25 (Nat.le_of_ble_eq_true rfl) rfl) ?_
          rintro _ _ ⟨rfl, rfl⟩
          refine ⟨.inl rfl, ?_⟩
          refine W.cast (m' := m) (l' := hownT 63 1 encU v553 _ :: hcells b385 [_, _, _, _, _] 78 :: hownT 63 1 encU v305 _ :: hownT 65 2 Label.enc v185 _ :: hownT 63 1 encU v555 _ :: hcells b4 [_, _, _] 27 :: hownT 63 1 encU (.slice none 0 0) _ :: hownT 65 2 Label.enc (.slice none 0 0) _ :: hownT 28 1 encI (.slice none 0 0) _ :: l) rfl rfl ?_
          refine W.end ?_
          refine NX.sub (env' := [(2, _), (6, _), (9, _), (33, _), (34, _)]) ⟨rfl, rfl, rfl, rfl, rfl, trivial⟩ ?_
          refine NX.drop (l' := hcells b385 [_, _, _, _, _] 78 :: hownT 63 1 encU v305 _ :: hownT 65 2 Label.enc v185 _ :: hownT 63 1 encU v555 _ :: hcells b4 [_, _, _] 27 :: hownT 63 1 encU (.slice none 0 0) _ :: hownT 65 2 Label.enc (.slice none 0 0) _ :: hownT 28 1 encI (.slice none 0 0) _ :: l) (.cons _ (.cons_cons _ (.cons_cons _ (.cons_cons _ (.cons_cons _ (.cons_cons _ (.cons_cons _ (.cons_cons _ (.cons_cons _ (.refl _)))))))))) ?_
          refine NX.block ?_
          refine NX.then ?_
          refine Tr.region_f (fun _ => false) ?_
          refine W.q rfl rfl rfl rfl (by decide) (Yd.add rfl (.t rfl) .c) ?_
          refine W.q rfl rfl rfl rfl (by decide) (Yd.mv rfl (.t rfl)) ?_
          refine W.end ?_
          refine NX.sub (env' := [(2, _), (6, _), (9, _), (33, _), (34, _)]) ⟨rfl, rfl, rfl, rfl, rfl, trivial⟩ ?_
          refine NX.sub (env' := [(2, _), (6, _), (9, _), (33, _), (34, _)]) ⟨rfl, rfl, rfl, rfl, rfl, trivial⟩ ?_
          have hw := w64_id (n := t_549 + 1) (by omega) (by omega)
          exact NX.again n552 (t_549 + 1, (l489 ++ ([(1#32 <<< t_549.toNat)] : List (BitVec 32)))) (Nat.lt_succ_self _) ⟨_, (by rw [hw] <;> rfl), rfl, (fr_dec hnt_549), (by omega), ((hnx551 _).symm.trans hr)⟩
    ·
      refine W.e rfl rfl rfl rfl (by decide) (Ef.mkT (enc := encU) (0#32) IF63 rfl Try.underlying25 rfl rfl (by decide) (.t rfl) (.t rfl) (by omega) (by omega) (by omega)) ?_
      rintro v305 _ rfl
      refine ⟨.inr ⟨.refl _, [_], rfl⟩, ?_⟩
      refine W.cast (m' := m) (l' := hownT 63 1 encU v305 _ :: hownT 63 1 encU (.slice none 0 0) _ :: hcells b4 [_, _, _] 27 :: hownT 63 1 encU (.slice none 0 0) _ :: hownT 65 2 Label.enc (.slice none 0 0) _ :: hownT 28 1 encI (.slice none 0 0) _ :: l) rfl rfl ?_
      refine W.e rfl rfl rfl rfl (by decide) (Ef.call (R := fun z x' => ∃ v185 : Value, z = v185 ∧ x' = ⟨m, hownT 65 2 Label.enc v185 r185 :: hownT 63 1 encU v305 ((List.replicate ((clear_0.length : Int)).toNat (0#32))) :: hownT 63 1 encU (.slice none 0 0) (([] : List (BitVec 32))) :: hcells b4 [(.slice none 0 0), (.slice none 0 0), (.slice none 0 0)] 27 :: hownT 63 1 encU (.slice none 0 0) (([] : List (BitVec 32))) :: hownT 65 2 Label.enc (.slice none 0 0) (([] : List Label)) :: hownT 28 1 encI (.slice none 0 0) (([] : List Int)) :: l⟩) rfl Try.func39 rfl rfl (.cons (.t rfl) .nil) (fun w hw => (slices_Clone_SapiLabelapiLabel_ok w0 _ _ _ _ hclear_0 _ hr186 w hw).mono fun e w' ⟨v185, he, hc'⟩ => ⟨_, _, he, ⟨v185, rfl, rfl⟩, hc'⟩)) ?_
      rintro v185 _ ⟨_, rfl, rfl⟩
      refine ⟨.inr ⟨.refl _, [_], rfl⟩, ?_⟩
      refine W.cast (m' := m) (l' := hownT 65 2 Label.enc v185 _ :: hownT 63 1 encU v305 _ :: hownT 63 1 encU (.slice none 0 0) _ :: hcells b4 [_, _, _] 27 :: hownT 63 1 encU (.slice none 0 0) _ :: hownT 65 2 Label.enc (.slice none 0 0) _ :: hownT 28 1 encI (.slice none 0 0) _ :: l) rfl rfl ?_
      refine W.q rfl rfl rfl rfl (by decide) (Yd.bld4 (cells := [uclear_0, uthings_1, v185, v305, (.slice none 0 0)]) (Sl.ro hclear_0) (Sl.ro hthings_1) (Sl.own (p := 0) rfl) (Sl.own (p := 1) rfl) rfl ZI78 PL78 (.cons (.t rfl) (.cons (.t rfl) (.cons (.t rfl) (.cons (.t rfl) .nil)))) (by rintro ⟨_, _, _, rfl⟩; rintro ⟨_, _, _, rfl⟩; rintro ⟨_, _, _, rfl⟩; rintro ⟨_, _, _, rfl⟩; rfl)) ?_
      refine W.e rfl rfl rfl rfl (by decide) (Ef.bx rfl (.t rfl) rfl) ?_
      rintro _ _ ⟨b385, rfl, rfl⟩
      refine ⟨.inr ⟨.refl _, [_], rfl⟩, ?_⟩
      refine W.cast (m' := m) (l' := hcells b385 [_, _, _, _, _] 78 :: hownT 65 2 Label.enc v185 _ :: hownT 63 1 encU v305 _ :: hownT 63 1 encU (.slice none 0 0) _ :: hcells b4 [_, _, _] 27 :: hownT 63 1 encU (.slice none 0 0) _ :: hownT 65 2 Label.enc (.slice none 0 0) _ :: hownT 28 1 encI (.slice none 0 0) _ :: l) rfl rfl ?_
      refine W.q rfl rfl rfl rfl (by decide) (Yd.as rfl (.t rfl)) ?_
      refine W.end ?_
      refine NX.imp (fun w hw => cX_front (p := 7) hw rfl) ?_
      refine NX.imp (fun w hw => cX_front (p := 7) hw rfl) ?_
      refine NX.imp (fun w hw => cX_front (p := 7) hw rfl) ?_
      refine NX.imp (fun w hw => cX_front (p := 7) hw rfl) ?_
      refine NX.imp (fun w hw => cX_front (p := 7) hw rfl) ?_
      refine NX.imp (fun w hw => cX_front (p := 6) hw rfl) ?_
      refine NX.imp (fun w hw => cX_front (p := 7) hw rfl) ?_
      refine NX.imp (fun w hw => cX_front (p := 7) hw rfl) ?_
      refine NX.cast (m' := m) (l' := hcells b385 [_, _, _, _, _] 78 :: hownT 63 1 encU v305 _ :: hownT 65 2 Label.enc v185 _ :: hownT 63 1 encU (.slice none 0 0) _ :: hcells b4 [_, _, _] 27 :: hownT 63 1 encU (.slice none 0 0) _ :: hownT 65 2 Label.enc (.slice none 0 0) _ :: hownT 28 1 encI (.slice none 0 0) _ :: l) rfl rfl ?_
      refine NX.sub (env' := [(1, _), (2, _), (6, _), (9, _)]) ⟨rfl, rfl, rfl, rfl, trivial⟩ ?_
      refine NX.then ?_
      refine Tr.seq ?_
      refine Tr.seq ?_
      refine Tr.region_f (fun _ => false) ?_
      refine W.q rfl rfl rfl rfl (by decide) (Yd.mv rfl (.t rfl)) ?_
      refine W.q rfl rfl rfl rfl (by decide) (Yd.lenR hthings_1 rfl Try.underlying22 (.t rfl)) ?_
      refine W.q rfl rfl rfl rfl (by decide) (Yd.mv rfl .c) ?_
      refine W.end ?_
      refine NX.sub (env' := [(2, _), (6, _), (9, _), (33, _), (34, _)]) ⟨rfl, rfl, rfl, rfl, rfl, trivial⟩ ?_
      refine NX.then ?_
      refine Tr.join (S := fun env x => ∃ l491 : List (BitVec 32), ∃ v492 : Value, env = [(2, uscript_2), (6, bp b4 0), (9, bp b385 0)] ∧ x = ⟨m, hcells b385 [uclear_0, uthings_1, v185, v305, v492] 78 :: hownT 63 1 encU v305 ((List.replicate ((clear_0.length : Int)).toNat (0#32))) :: hownT 65 2 Label.enc v185 r185 :: hownT 63 1 encU v492 l491 :: hcells b4 [(.slice none 0 0), (.slice none 0 0), (.slice none 0 0)] 27 :: hownT 63 1 encU (.slice none 0 0) (([] : List (BitVec 32))) :: hownT 65 2 Label.enc (.slice none 0 0) (([] : List Label)) :: hownT 28 1 encI (.slice none 0 0) (([] : List Int)) :: l⟩ ∧ low_Play_k493 clear_0 things_1 script_2 r185 l491 = some r) ?_ (fun hk494 => ?_)
      · rintro _ _ ⟨l491, v492, rfl, rfl, hr⟩
        unfold low_Play_k493 at hr
        try dsimp only at hr
        refine NX.then ?_
        refine Tr.seq ?_
        refine Tr.region_f (fun _ => false) ?_
        refine W.q rfl rfl rfl rfl (by decide) (Yd.as rfl .c) ?_
        refine W.end ?_
        refine NX.sub (env' := [(2, _), (6, _), (9, _), (11, _)]) ⟨rfl, rfl, rfl, rfl, trivial⟩ ?_
        refine NX.then ?_
        refine Tr.seq ?_
        refine Tr.seq ?_
        refine Tr.region_f (fun _ => false) ?_
        refine W.q rfl rfl rfl rfl (by decide) (Yd.mv rfl (.t rfl)) ?_
        refine W.q rfl rfl rfl rfl (by decide) (Yd.lenR hscript_2 rfl Try.underlying23 (.t rfl)) ?_
        refine W.q rfl rfl rfl rfl (by decide) (Yd.mv rfl .c) ?_
        refine W.end ?_
        refine NX.sub (env' := [(6, _), (9, _), (11, _), (49, _), (50, _), (51, _)]) ⟨rfl, rfl, rfl, rfl, rfl, rfl, trivial⟩ ?_
        refine NX.then ?_
        refine Tr.addnil 28 1 ?_
        refine Tr.join (S := fun env x => ∃ l514 : List Int, ∃ l516 : List (BitVec 32), ∃ l518 : List Label, ∃ l520 : List (BitVec 32), ∃ v515 : Value, ∃ v517 : Value, ∃ v519 : Value, ∃ v521 : Value, env = [(6, bp b4 0), (9, bp b385 0), (11, v515)] ∧ x = ⟨m, hownT 28 1 encI v515 l514 :: hcells b385 [uclear_0, uthings_1, v519, v517, v521] 78 :: hownT 63 1 encU v517 l516 :: hownT 65 2 Label.enc v519 l518 :: hownT 63 1 encU v521 l520 :: hcells b4 [(.slice none 0 0), (.slice none 0 0), (.slice none 0 0)] 27 :: hownT 63 1 encU (.slice none 0 0) (([] : List (BitVec 32))) :: hownT 65 2 Label.enc (.slice none 0 0) (([] : List Label)) :: hownT 28 1 encI (.slice none 0 0) (([] : List Int)) :: l⟩ ∧ low_Play_k522 l514 l516 l518 l520 = some r) ?_ (fun hk523 => ?_)
        · rintro _ _ ⟨l514, l516, l518, l520, v515, v517, v519, v521, rfl, rfl, hr⟩
          unfold low_Play_k522 at hr
          try dsimp only at hr
          refine NX.then ?_
          refine Tr.seq ?_
          refine Tr.region_x (fun i => Nat.beq i 10) (fun i => Nat.beq i 10) (Ord.of [0, 1, 2, 3, 4, 5, 6, 7, 8, 9, 10, 11]) FM (by kernel_rfl) ?_
          refine W.q rfl rfl rfl rfl (by decide) (Yd.mv rfl (.t rfl)) ?_
          refine W.q rfl rfl rfl rfl (by decide) (Yd.mv rfl (.t rfl)) ?_
          refine W.q rfl rfl rfl rfl (by decide) (Yd.nilc rfl (.t rfl)) ?_
          refine W.q rfl rfl rfl rfl (by decide) (Yd.fldB rfl Try.underlying78 rfl SZ22 rfl (.t rfl)) ?_
          refine W.q rfl rfl rfl rfl (by decide) (Yd.ldB (pos := 1) rfl rfl rfl ON22 (.t rfl)) ?_
          refine W.q rfl rfl rfl rfl (by decide) (Yd.mv rfl (.t rfl)) ?_
          refine W.q rfl rfl rfl rfl (by decide) (Yd.nilc rfl (.t rfl)) ?_
          refine W.q rfl rfl rfl rfl (by decide) (Yd.fldB rfl Try.underlying78 rfl SZ25 rfl (.t rfl)) ?_
          refine W.q rfl rfl rfl rfl (by decide) (Yd.ldB (pos := 1) rfl rfl rfl ON25 (.t rfl)) ?_
          refine W.q rfl rfl rfl rfl (by decide) (Yd.bld3 (cells := [v515, v519, v521]) (Sl.own (p := 0) rfl) (Sl.own (p := 3) rfl) (Sl.own (p := 4) rfl) rfl ZI27 PL27 (.cons (.t rfl) (.cons (.t rfl) (.cons (.t rfl) .nil))) (by rintro ⟨_, _, _, rfl⟩; rintro ⟨_, _, _, rfl⟩; rintro ⟨_, _, _, rfl⟩; rfl)) ?_
          refine W.s rfl rfl rfl rfl (Ef.stBs (pos := 5) (us := [v515, v519, v521]) (cs' := [_, _, _]) (.cons (On.own (pos := 0) rfl) (.cons (On.own (pos := 3) rfl) (.cons (On.own (pos := 4) rfl) .nil))) rfl rfl (.t rfl) (.t rfl) SZ27 rfl rfl (Nat.le_of_ble_eq_true rfl) rfl) ?_
          rintro _ _ ⟨rfl, rfl⟩
          refine ⟨.inl rfl, ?_⟩
          refine W.cast (m' := m) (l' := hownT 28 1 encI v515 _ :: hcells b385 [_, _, _, _, _] 78 :: hownT 63 1 encU v517 _ :: hownT 65 2 Label.enc v519 _ :: hownT 63 1 encU v521 _ :: hcells b4 [_, _, _] 27 :: hownT 63 1 encU (.slice none 0 0) _ :: hownT 65 2 Label.enc (.slice none 0 0) _ :: hownT 28 1 encI (.slice none 0 0) _ :: l) rfl rfl ?_
          refine W.q rfl rfl rfl rfl (by decide) (Yd.as rfl .c) ?_
          refine W.end ?_
          refine NX.sub (env' := [(6, _), (7, _)]) ⟨rfl, rfl, trivial⟩ ?_
          refine NX.drop (l' := hownT 28 1 encI v515 _ :: hownT 65 2 Label.enc v519 _ :: hownT 63 1 encU v521 _ :: hcells b4 [_, _, _] 27 :: l) (.cons_cons _ (.cons _ (.cons _ (.cons_cons _ (.cons_cons _ (.cons_cons _ (.cons _ (.cons _ (.cons _ (.refl _)))))))))) ?_
          refine NX.then ?_
          refine Tr.ret' ?_
          refine resV2 rfl (Rv.cs (pos := 3) rfl rfl rfl ON27 US27 SZ27) (Rv.t rfl) ?_
          intro w hc
          cases hr
          obtain ⟨m524, hsm524, hu525, hc⟩ := cX_freeze (enc := encI) (n := 1) (p := 0) (fun _ => rfl) hc rfl
          have hclear_0 := hclear_0.mono hsm524
          have hthings_1 := hthings_1.mono hsm524
          have hscript_2 := hscript_2.mono hsm524
          obtain ⟨m526, hsm526, hu527, hc⟩ := cX_freeze (enc := Label.enc) (n := 2) (p := 0) (fun _ => rfl) hc rfl
          have hclear_0 := hclear_0.mono hsm526
          have hthings_1 := hthings_1.mono hsm526
          have hscript_2 := hscript_2.mono hsm526
          have hu525 := hu525.mono hsm526
          obtain ⟨m528, hsm528, hu529, hc⟩ := cX_freeze (enc := encU) (n := 1) (p := 0) (fun _ => rfl) hc rfl
          have hclear_0 := hclear_0.mono hsm528
          have hthings_1 := hthings_1.mono hsm528
          have hscript_2 := hscript_2.mono hsm528
          have hu525 := hu525.mono hsm528
          have hu527 := hu527.mono hsm528
          exact ⟨_, _, _, _, rfl, ((hsm524.trans hsm526).trans hsm528), hu525, hu527, hu529, (cX_sub (.cons _ (.refl _)) hc)⟩
        have hlen530 := (hscript_2).2.1
        refine Tr.block ?_
        refine Tr.sub (env' := [(6, _), (9, _), (11, _), (49, _), (50, _), (51, _)]) ⟨rfl, rfl, rfl, rfl, rfl, rfl, trivial⟩ ?_
        refine Tr.loop (S := fun n (z : Int × (List Int) × (List (BitVec 32)) × (List Label) × (List (BitVec 32))) env x => match z with | (t_531, l506, l508, l510, l512) => ∃ v507 : Value, ∃ v509 : Value, ∃ v511 : Value, ∃ v513 : Value, env = [(6, bp b4 0), (9, bp b385 0), (11, v507), (49, uscript_2), (50, .int .i64 ((script_2.length : Int))), (51, .int .i64 t_531)] ∧ x = ⟨m, hownT 28 1 encI v507 l506 :: hcells b385 [uclear_0, uthings_1, v511, v509, v513] 78 :: hownT 63 1 encU v509 l508 :: hownT 65 2 Label.enc v511 l510 :: hownT 63 1 encU v513 l512 :: hcells b4 [(.slice none 0 0), (.slice none 0 0), (.slice none 0 0)] 27 :: hownT 63 1 encU (.slice none 0 0) (([] : List (BitVec 32))) :: hownT 65 2 Label.enc (.slice none 0 0) (([] : List Label)) :: hownT 28 1 encI (.slice none 0 0) (([] : List Int)) :: l⟩ ∧ n = ((script_2.length : Int) - t_531).toNat ∧ 0 ≤ t_531 ∧ forK (σ := (List Int) × (List (BitVec 32)) × (List Label) × (List (BitVec 32))) (fun i s nx_ => low_Play_b532 clear_0 things_1 script_2 i s.1 s.2.1 s.2.2.1 s.2.2.2 nx_) (fun s => low_Play_k522 s.1 s.2.1 s.2.2.1 s.2.2.2) n t_531 (l506, l508, l510, l512) = some r) _ ((0 : Int), ([] : List Int), (List.replicate ((clear_0.length : Int)).toNat (0#32)), r185, l491) ⟨_, _, _, _, rfl, rfl, rfl, (by omega), hr⟩ ?_
        rintro n534 ⟨t_531, l506, l508, l510, l512⟩ env x ⟨v507, v509, v511, v513, rfl, rfl, hnt_531, h0t_531, hr⟩
        cases n534 with
        | zero =>
          simp only [forK] at hr
          refine Tr.seq ?_
          refine Tr.region_f (fun _ => false) ?_
          refine W.q rfl rfl rfl rfl (by decide) (Yd.lss rfl (.t rfl) (.t rfl)) ?_
          refine W.end ?_
          refine NX.sub (env' := [(6, _), (9, _), (11, _), (49, _), (50, _), (51, _), (52, _)]) ⟨rfl, rfl, rfl, rfl, rfl, rfl, rfl, trivial⟩ ?_
          refine NX.then ?_
          refine Tr.seq ?_
          refine Tr.cond (.t rfl) (fun hb => ?_) (fun hb => ?_)
          · exact absurd (hb.symm.trans (fr_end hnt_531)) (by decide)
          ·
            refine Tr.exit' (EX.then (EX.then (EX.block ?_)))
            refine NX.sub (env' := [(6, _), (9, _), (11, _)]) ⟨rfl, rfl, rfl, trivial⟩ ?_
            exact hk523 _ _ ⟨_, _, _, _, _, _, _, _, rfl, rfl, hr⟩
        | succ n534 =>
          obtain ⟨nx533, hnx533, hr⟩ := forK_succ hr
          try dsimp only at hr
          unfold low_Play_b532 at hr
          try dsimp only at hr
          have hltt_531 := fr_bnd hnt_531
          refine Tr.seq ?_
          refine Tr.region_f (fun _ => false) ?_
          refine W.q rfl rfl rfl rfl (by decide) (Yd.lss rfl (.t rfl) (.t rfl)) ?_
          refine W.end ?_
          refine NX.sub (env' := [(6, _), (9, _), (11, _), (49, _), (50, _), (51, _), (52, _)]) ⟨rfl, rfl, rfl, rfl, rfl, rfl, rfl, trivial⟩ ?_
          refine NX.then ?_
          refine Tr.seq ?_
          refine Tr.cond (.t rfl) (fun hb => ?_) (fun hb => ?_)
          rotate_left
          · exact absurd (hb.symm.trans (fr_go hnt_531)) (by decide)
          ·
            refine Tr.skip' ?_
            refine NX.then ?_
            refine Tr.seq ?_
            refine Tr.block ?_
            refine Tr.seq ?_
            obtain ⟨y535, hy536, hr⟩ := bind_some hr
            refine Tr.region_f (fun i => Nat.beq i 2 || Nat.beq i 3) ?_
            refine W.q rfl rfl rfl rfl (by decide) (Yd.idxR hscript_2 hy536 rfl Try.underlying23 SZ67 (.t rfl) (.t rfl)) ?_
            refine W.q rfl rfl rfl rfl (by decide) (Yd.ldFs (us := [_, _, _, _, _, _]) hscript_2 (.refl _) hy536 rfl rfl ON67 US67 SZ67 (.t rfl)) ?_
            refine W.e rfl rfl rfl rfl (by decide) (Ef.al rfl ZR67 rfl) ?_
            rintro _ _ ⟨b537, rfl, rfl⟩
            refine ⟨.inl rfl, ?_⟩
            refine W.cast (m' := m) (l' := hcells b537 [_, _, _, _, _, _] 67 :: hownT 28 1 encI v507 _ :: hcells b385 [_, _, _, _, _] 78 :: hownT 63 1 encU v509 _ :: hownT 65 2 Label.enc v511 _ :: hownT 63 1 encU v513 _ :: hcells b4 [_, _, _] 27 :: hownT 63 1 encU (.slice none 0 0) _ :: hownT 65 2 Label.enc (.slice none 0 0) _ :: hownT 28 1 encI (.slice none 0 0) _ :: l) rfl rfl ?_
            refine W.s rfl rfl rfl rfl (Ef.stB (pos := 0) (us := [_, _, _, _, _, _]) (cs' := [_, _, _, _, _, _]) rfl rfl (.t rfl) (.t rfl) SZ67 rfl rfl rfl (Nat.le_of_ble_eq_true rfl) rfl) ?_
            rintro _ _ ⟨rfl, rfl⟩
            refine ⟨.inl rfl, ?_⟩
            refine W.cast (m' := m) (l' := hcells b537 [_, _, _, _, _, _] 67 :: hownT 28 1 encI v507 _ :: hcells b385 [_, _, _, _, _] 78 :: hownT 63 1 encU v509 _ :: hownT 65 2 Label.enc v511 _ :: hownT 63 1 encU v513 _ :: hcells b4 [_, _, _] 27 :: hownT 63 1 encU (.slice none 0 0) _ :: hownT 65 2 Label.enc (.slice none 0 0) _ :: hownT 28 1 encI (.slice none 0 0) _ :: l) rfl rfl ?_
            refine W.end ?_
            refine NX.sub (env' := [(6, _), (9, _), (11, _), (49, _), (50, _), (51, _), (13, _)]) ⟨rfl, rfl, rfl, rfl, rfl, rfl, rfl, trivial⟩ ?_
            refine NX.then ?_
            obtain ⟨r539, hr540, hr⟩ := bind_some hr
            obtain ⟨hq547, hr⟩ := guard_some hr; replace hq547 := of_decide_eq_true hq547
            refine Tr.region_f (fun i => Nat.beq i 3 || Nat.beq i 4 || Nat.beq i 5) ?_
            refine W.q rfl rfl rfl rfl (by decide) (Yd.mv rfl (.t rfl)) ?_
            refine W.q rfl rfl rfl rfl (by decide) (Yd.mv rfl (.t rfl)) ?_
            refine W.q rfl rfl rfl rfl (by decide) (Yd.ldBs (pos := 0) (us := [_, _, _, _, _, _]) rfl rfl rfl rfl ON67 US67 SZ67 (.t rfl)) ?_
            refine W.e rfl rfl rfl rfl (by decide) (Ef.call (R := fun z x' => ∃ v541 : Value, ∃ v542 : Value, ∃ v543 : Value, z = .int .i64 r539.1 ∧ x' = ⟨m, hcells b385 [uclear_0, uthings_1, v541, v542, v543] 78 :: hownT 65 2 Label.enc v541 r539.2.marks :: hownT 63 1 encU v542 r539.2.knows :: hownT 63 1 encU v543 r539.2.from_ :: hcells b537 [.int .i64 y535.kind, .int .i64 y535.by_, .int .i64 y535.to, .int .i64 y535.label.level, .int .u32 (y535.label.parts.toNat : Int), .int .i64 y535.val] 67 :: hownT 28 1 encI v507 l506 :: hcells b4 [(.slice none 0 0), (.slice none 0 0), (.slice none 0 0)] 27 :: hownT 63 1 encU (.slice none 0 0) (([] : List (BitVec 32))) :: hownT 65 2 Label.enc (.slice none 0 0) (([] : List Label)) :: hownT 28 1 encI (.slice none 0 0) (([] : List Int)) :: l⟩) rfl Try.func40 rfl rfl (.cons (.t rfl) (.cons (.t rfl) .nil)) (by intro w hw; replace hw := cX_front (p := 5) hw rfl; replace hw := cX_front (p := 4) hw rfl; replace hw := cX_front (p := 5) hw rfl; replace hw := cX_front (p := 5) hw rfl; exact (low_state_do_ok w0 _ _ _ _ _ hclear_0 _ hthings_1 _ _ _ (({ kind := y535.kind, by_ := y535.by_, to := y535.to, label := ({ level := y535.label.level, parts := y535.label.parts } : Label), val := y535.val } : Deed)) _ hr540 w hw).mono fun e w' ⟨v541, v542, v543, he, hc'⟩ => ⟨_, _, he, ⟨v541, v542, v543, rfl, rfl⟩, hc'⟩)) ?_
            rintro _ _ ⟨v541, v542, v543, rfl, rfl⟩
            refine ⟨.inl rfl, ?_⟩
            refine W.cast (m' := m) (l' := hcells b385 [_, _, _, _, _] 78 :: hownT 65 2 Label.enc v541 _ :: hownT 63 1 encU v542 _ :: hownT 63 1 encU v543 _ :: hcells b537 [_, _, _, _, _, _] 67 :: hownT 28 1 encI v507 _ :: hcells b4 [_, _, _] 27 :: hownT 63 1 encU (.slice none 0 0) _ :: hownT 65 2 Label.enc (.slice none 0 0) _ :: hownT 28 1 encI (.slice none 0 0) _ :: l) rfl rfl ?_
            refine W.e rfl rfl rfl rfl (by decide) (Ef.bsT (enc := encI) (vs := [_]) (ys := [r539.1]) (fun _ => rfl) IF28 rfl Try.underlying24 (by decide) rfl (.cons (.t rfl) .nil) rfl rfl (by decide)) ?_
            rintro v544 _ rfl
            refine ⟨.inl rfl, ?_⟩
            refine W.cast (m' := m) (l' := hownT 28 1 encI v544 _ :: hcells b385 [_, _, _, _, _] 78 :: hownT 65 2 Label.enc v541 _ :: hownT 63 1 encU v542 _ :: hownT 63 1 encU v543 _ :: hcells b537 [_, _, _, _, _, _] 67 :: hownT 28 1 encI v507 _ :: hcells b4 [_, _, _] 27 :: hownT 63 1 encU (.slice none 0 0) _ :: hownT 65 2 Label.enc (.slice none 0 0) _ :: hownT 28 1 encI (.slice none 0 0) _ :: l) rfl rfl ?_
            refine W.e rfl rfl rfl rfl (by decide) (Ef.apI (pos := 6) (enc := encI) (xs := l506) (ys := ([r539.1] : List Int)) (fun _ => rfl) IF28 rfl rfl Try.underlying24 rfl (by decide) (.t rfl) (.t rfl) (Src.own (pos := 0) rfl) (fun _ => rfl) (by omega) (by omega)) ?_
            rintro v546 _ rfl
            refine ⟨.inl rfl, ?_⟩
            refine W.cast (m' := m) (l' := hownT 28 1 encI v544 _ :: hcells b385 [_, _, _, _, _] 78 :: hownT 65 2 Label.enc v541 _ :: hownT 63 1 encU v542 _ :: hownT 63 1 encU v543 _ :: hcells b537 [_, _, _, _, _, _] 67 :: hownT 28 1 encI v546 _ :: hcells b4 [_, _, _] 27 :: hownT 63 1 encU (.slice none 0 0) _ :: hownT 65 2 Label.enc (.slice none 0 0) _ :: hownT 28 1 encI (.slice none 0 0) _ :: l) rfl rfl ?_
            refine W.q rfl rfl rfl rfl (by decide) (Yd.as rfl (.t rfl)) ?_
            refine W.end ?_
            refine NX.sub (env' := [(6, _), (9, _), (11, _), (49, _), (50, _), (51, _)]) ⟨rfl, rfl, rfl, rfl, rfl, rfl, trivial⟩ ?_
            refine NX.drop (l' := hcells b385 [_, _, _, _, _] 78 :: hownT 65 2 Label.enc v541 _ :: hownT 63 1 encU v542 _ :: hownT 63 1 encU v543 _ :: hownT 28 1 encI v546 _ :: hcells b4 [_, _, _] 27 :: hownT 63 1 encU (.slice none 0 0) _ :: hownT 65 2 Label.enc (.slice none 0 0) _ :: hownT 28 1 encI (.slice none 0 0) _ :: l) (.cons _ (.cons_cons _ (.cons_cons _ (.cons_cons _ (.cons_cons _ (.cons _ (.cons_cons _ (.cons_cons _ (.cons_cons _ (.cons_cons _ (.cons_cons _ (.refl _)))))))))))) ?_
            refine NX.block ?_
            refine NX.then ?_
            refine Tr.region_f (fun _ => false) ?_
            refine W.q rfl rfl rfl rfl (by decide) (Yd.add rfl (.t rfl) .c) ?_
            refine W.q rfl rfl rfl rfl (by decide) (Yd.mv rfl (.t rfl)) ?_
            refine W.end ?_
            refine NX.sub (env' := [(6, _), (9, _), (11, _), (49, _), (50, _), (51, _)]) ⟨rfl, rfl, rfl, rfl, rfl, rfl, trivial⟩ ?_
            refine NX.sub (env' := [(6, _), (9, _), (11, _), (49, _), (50, _), (51, _)]) ⟨rfl, rfl, rfl, rfl, rfl, rfl, trivial⟩ ?_
            refine NX.imp (fun w hw => cX_front (p := 8) hw rfl) ?_
            refine NX.imp (fun w hw => cX_front (p := 8) hw rfl) ?_
            refine NX.imp (fun w hw => cX_front (p := 8) hw rfl) ?_
            refine NX.imp (fun w hw => cX_front (p := 8) hw rfl) ?_
            refine NX.imp (fun w hw => cX_front (p := 7) hw rfl) ?_
            refine NX.imp (fun w hw => cX_front (p := 6) hw rfl) ?_
            refine NX.imp (fun w hw => cX_front (p := 7) hw rfl) ?_
            refine NX.imp (fun w hw => cX_front (p := 7) hw rfl) ?_
            refine NX.imp (fun w hw => cX_front (p := 8) hw rfl) ?_
            refine NX.cast (m' := m) (l' := hownT 28 1 encI v546 _ :: hcells b385 [_, _, _, _, _] 78 :: hownT 63 1 encU v542 _ :: hownT 65 2 Label.enc v541 _ :: hownT 63 1 encU v543 _ :: hcells b4 [_, _, _] 27 :: hownT 63 1 encU (.slice none 0 0) _ :: hownT 65 2 Label.enc (.slice none 0 0) _ :: hownT 28 1 encI (.slice none 0 0) _ :: l) rfl rfl ?_
            have hw := w64_id (n := t_531 + 1) (by omega) (by omega)
            exact NX.again n534 (t_531 + 1, (l506 ++ ([r539.1] : List Int)), r539.2.knows, r539.2.marks, r539.2.from_) (Nat.lt_succ_self _) ⟨_, _, _, _, (by rw [hw] <;> rfl), rfl, (fr_dec hnt_531), (by omega), ((hnx533 _).symm.trans hr)⟩
      obtain ⟨hle548, hr⟩ := guard_some hr; replace hle548 := of_decide_eq_true hle548
      refine Tr.block ?_
      refine Tr.sub (env' := [(2, _), (6, _), (9, _), (33, _), (34, _)]) ⟨rfl, rfl, rfl, rfl, rfl, trivial⟩ ?_
      refine Tr.loop (S := fun n (z : Int × (List (BitVec 32))) env x => match z with | (t_549, l489) => ∃ v490 : Value, env = [(2, uscript_2), (6, bp b4 0), (9, bp b385 0), (33, .int .i64 ((things_1.length : Int))), (34, .int .i64 t_549)] ∧ x = ⟨m, hcells b385 [uclear_0, uthings_1, v185, v305, v490] 78 :: hownT 63 1 encU v305 ((List.replicate ((clear_0.length : Int)).toNat (0#32))) :: hownT 65 2 Label.enc v185 r185 :: hownT 63 1 encU v490 l489 :: hcells b4 [(.slice none 0 0), (.slice none 0 0), (.slice none 0 0)] 27 :: hownT 63 1 encU (.slice none 0 0) (([] : List (BitVec 32))) :: hownT 65 2 Label.enc (.slice none 0 0) (([] : List Label)) :: hownT 28 1 encI (.slice none 0 0) (([] : List Int)) :: l⟩ ∧ n = ((things_1.length : Int) - t_549).toNat ∧ 0 ≤ t_549 ∧ forK (σ := (List (BitVec 32))) (fun i s nx_ => low_Play_b550 i s nx_) (fun s => low_Play_k493 clear_0 things_1 script_2 r185 s) n t_549 l489 = some r) _ ((0 : Int), ([] : List (BitVec 32))) ⟨_, rfl, rfl, rfl, (by omega), hr⟩ ?_
      rintro n552 ⟨t_549, l489⟩ env x ⟨v490, rfl, rfl, hnt_549, h0t_549, hr⟩
      cases n552 with
      | zero =>
        simp only [forK] at hr
        refine Tr.seq ?_
        refine Tr.region_f (fun _ => false) ?_
        refine W.q rfl rfl rfl rfl (by decide) (Yd.lss rfl (.t rfl) (.t rfl)) ?_
        refine W.end ?_
        refine NX.sub (env' := [(2, _), (6, _), (9, _), (33, _), (34, _), (35, _)]) ⟨rfl, rfl, rfl, rfl, rfl, rfl, trivial⟩ ?_
        refine NX.then ?_
        refine Tr.seq ?_
        refine Tr.cond (.t rfl) (fun hb => ?_) (fun hb => ?_)
        · exact absurd (hb.symm.trans (fr_end hnt_549)) (by decide)
        ·
          refine Tr.exit' (EX.then (EX.then (EX.block ?_)))
          refine NX.sub (env' := [(2, _), (6, _), (9, _)]) ⟨rfl, rfl, rfl, trivial⟩ ?_
          exact hk494 _ _ ⟨_, _, rfl, rfl, hr⟩
      | succ n552 =>
        obtain ⟨nx551, hnx551, hr⟩ := forK_succ hr
        try dsimp only at hr
        unfold low_Play_b550 at hr
        try dsimp only at hr
        have hltt_549 := fr_bnd hnt_549
        refine Tr.seq ?_
        refine Tr.region_f (fun _ => false) ?_
        refine W.q rfl rfl rfl rfl (by decide) (Yd.lss rfl (.t rfl) (.t rfl)) ?_
        refine W.end ?_
        refine NX.sub (env' := [(2, _), (6, _), (9, _), (33, _), (34, _), (35, _)]) ⟨rfl, rfl, rfl, rfl, rfl, rfl, trivial⟩ ?_
        refine NX.then ?_
        refine Tr.seq ?_
        refine Tr.cond (.t rfl) (fun hb => ?_) (fun hb => ?_)
        rotate_left
        · exact absurd (hb.symm.trans (fr_go hnt_549)) (by decide)
        ·
          refine Tr.skip' ?_
          refine NX.then ?_
          refine Tr.seq ?_
          refine Tr.block ?_
          refine Tr.seq ?_
          refine Tr.region_f (fun _ => false) ?_
          refine W.q rfl rfl rfl rfl (by decide) (Yd.mv rfl (.t rfl)) ?_
          refine W.q rfl rfl rfl rfl (by decide) (Yd.as rfl (.t rfl)) ?_
          refine W.end ?_
          refine NX.sub (env' := [(2, _), (6, _), (9, _), (33, _), (34, _), (10, _)]) ⟨rfl, rfl, rfl, rfl, rfl, rfl, trivial⟩ ?_
          refine NX.then ?_
          obtain ⟨hq556, hr⟩ := guard_some hr; replace hq556 := of_decide_eq_true hq556
          refine Tr.region_x (fun i => Nat.beq i 7 || Nat.beq i 8 || Nat.beq i 11) (fun i => Nat.beq i 0 || Nat.beq i 8 || Nat.beq i 11) (Ord.of [0, 1, 2, 3, 4, 5, 6, 7, 8, 9, 10, 11]) FM (by kernel_rfl) ?_
          refine W.p rfl rfl rfl rfl (by decide) (fun _ => Yd.mv rfl (.t rfl)) ?_
          refine W.q rfl rfl rfl rfl (by decide) (Yd.mv rfl (.t rfl)) ?_
          refine W.q rfl rfl rfl rfl (by decide) (Yd.nilc rfl (.t rfl)) ?_
          refine W.q rfl rfl rfl rfl (by decide) (Yd.fldB rfl Try.underlying78 rfl SZ25 rfl (.t rfl)) ?_
          refine W.q rfl rfl rfl rfl (by decide) (Yd.ldB (pos := 0) rfl rfl rfl ON25 (.t rfl)) ?_
          refine W.q rfl rfl rfl rfl (by decide) (Yd.mv rfl (.t rfl)) ?_
          refine W.q rfl rfl rfl rfl (by decide) (Yd.shlU (a := 1#32) rfl .c (.t rfl) h0t_549) ?_
          refine W.e rfl rfl rfl rfl (by decide) (Ef.bsT (enc := encU) (vs := [_]) (ys := [(1#32 <<< t_549.toNat)]) (fun _ => rfl) IF63 rfl Try.underlying25 (by decide) rfl (.cons (.t rfl) .nil) rfl rfl (by decide)) ?_
          rintro v553 _ rfl
          refine ⟨.inr ⟨.refl _, [_], rfl⟩, ?_⟩
          refine W.cast (m' := m) (l' := hownT 63 1 encU v553 _ :: hcells b385 [_, _, _, _, _] 78 :: hownT 63 1 encU v305 _ :: hownT 65 2 Label.enc v185 _ :: hownT 63 1 encU v490 _ :: hcells b4 [_, _, _] 27 :: hownT 63 1 encU (.slice none 0 0) _ :: hownT 65 2 Label.enc (.slice none 0 0) _ :: hownT 28 1 encI (.slice none 0 0) _ :: l) rfl rfl ?_
          refine W.e rfl rfl rfl rfl (by decide) (Ef.apI (pos := 4) (enc := encU) (xs := l489) (ys := ([(1#32 <<< t_549.toNat)] : List (BitVec 32))) (fun _ => rfl) IF63 rfl rfl Try.underlying25 rfl (by decide) (.t rfl) (.t rfl) (Src.own (pos := 0) rfl) (fun _ => rfl) (by omega) (by omega)) ?_
          rintro v555 _ rfl
          refine ⟨.inl rfl, ?_⟩
          refine W.cast (m' := m) (l' := hownT 63 1 encU v553 _ :: hcells b385 [_, _, _, _, _] 78 :: hownT 63 1 encU v305 _ :: hownT 65 2 Label.enc v185 _ :: hownT 63 1 encU v555 _ :: hcells b4 [_, _, _] 27 :: hownT 63 1 encU (.slice none 0 0) _ :: hownT 65 2 Label.enc (.slice none 0 0) _ :: hownT 28 1 encI (.slice none 0 0) _ :: l) rfl rfl ?_
          refine W.q rfl rfl rfl rfl (by decide) (Yd.nilc rfl (.t rfl)) ?_
          refine W.q rfl rfl rfl rfl (by decide) (Yd.fldB rfl Try.underlying78 rfl SZ25 rfl (.t rfl)) ?_
          refine W.s rfl rfl rfl rfl (Ef.stBo (pos := 1) (pos2 := 4) (cs' := [_, _, _, _, _]) rfl rfl rfl (.t rfl) (.t rfl) SZ25 (Nat.le_of_ble_eq_true rfl) rfl) ?_
          rintro _ _ ⟨rfl, rfl⟩
          refine ⟨.inl rfl, ?_⟩
          refine W.cast (m' := m) (l' := hownT 63 1 encU v553 _ :: hcells b385 [_, _, _, _, _] 78 :: hownT 63 1 encU v305 _ :: hownT 65 2 Label.enc v185 _ :: hownT 63 1 encU v555 _ :: hcells b4 [_, _, _] 27 :: hownT 63 1 encU (.slice none 0 0) _ :: hownT 65 2 Label.enc (.slice none 0 0) _ :: hownT 28 1 encI (.slice none 0 0) _ :: l) rfl rfl ?_
          refine W.end ?_
          refine NX.sub (env' := [(2, _), (6, _), (9, _), (33, _), (34, _)]) ⟨rfl, rfl, rfl, rfl, rfl, trivial⟩ ?_
          refine NX.drop (l' := hcells b385 [_, _, _, _, _] 78 :: hownT 63 1 encU v305 _ :: hownT 65 2 Label.enc v185 _ :: hownT 63 1 encU v555 _ :: hcells b4 [_, _, _] 27 :: hownT 63 1 encU (.slice none 0 0) _ :: hownT 65 2 Label.enc (.slice none 0 0) _ :: hownT 28 1 encI (.slice none 0 0) _ :: l) (.cons _ (.cons_cons _ (.cons_cons _ (.cons_cons _ (.cons_cons _ (.cons_cons _ (.cons_cons _ (.cons_cons _ (.cons_cons _ (.refl _)))))))))) ?_
          refine NX.block ?_
          refine NX.then ?_
          refine Tr.region_f (fun _ => false) ?_
          refine W.q rfl rfl rfl rfl (by decide) (Yd.add rfl (.t rfl) .c) ?_
          refine W.q rfl rfl rfl rfl (by decide) (Yd.mv rfl (.t rfl)) ?_
          refine W.end ?_
          refine NX.sub (env' := [(2, _), (6, _), (9, _), (33, _), (34, _)]) ⟨rfl, rfl, rfl, rfl, rfl, trivial⟩ ?_
          refine NX.sub (env' := [(2, _), (6, _), (9, _), (33, _), (34, _)]) ⟨rfl, rfl, rfl, rfl, rfl, trivial⟩ ?_
          have hw := w64_id (n := t_549 + 1) (by omega) (by omega)
          exact NX.again n552 (t_549 + 1, (l489 ++ ([(1#32 <<< t_549.toNat)] : List (BitVec 32)))) (Nat.lt_succ_self _) ⟨_, (by rw [hw] <;> rfl), rfl, (fr_dec hnt_549), (by omega), ((hnx551 _).symm.trans hr)⟩

def syllogistref_Fits (n_0 : Int) (s_1 : (BitVec 32)) : Option (Bool) :=
  some (((decide (n_0 ≥ (32 : Int))) || ((decide (n_0 ≥ (0 : Int))) && (decide (s_1 < (1#32 <<< ((BitVec.ofInt 64 n_0)).toNat))))))

set_option maxRecDepth 100000 in
theorem syllogistref_Fits_ok (w0 : World) (m : Snap) (l : List HI) (n_0 : Int) (s_1 : (BitVec 32)) (r : Bool) (hr : syllogistref_Fits n_0 s_1 = some r) (w : World) (hc : cX w0 ⟨m, l⟩ w) :
    Calls Try.prog 56 [.int .i64 n_0, .int .u32 (s_1.toNat : Int)].toArray w fun e w' => e = .returned (.bool r) ∧ cX w0 ⟨m, l⟩ w' := by
  unfold syllogistref_Fits at hr
  refine calls_of_Tr (N := 18) Try.func56 rfl hc rfl (Nat.le_of_ble_eq_true rfl) ?_
  refine Tr.seq ?_
  refine Tr.region_f (fun _ => false) ?_
  refine W.q rfl rfl rfl rfl (by decide) (Yd.as rfl .c) ?_
  refine W.end ?_
  refine NX.sub (env' := [(0, _), (1, _)]) ⟨rfl, rfl, trivial⟩ ?_
  refine NX.then ?_
  refine Tr.seq ?_
  refine Tr.region_f (fun _ => false) ?_
  refine W.q rfl rfl rfl rfl (by decide) (Yd.mv rfl (.t rfl)) ?_
  refine W.q rfl rfl rfl rfl (by decide) (Yd.geq rfl (.t rfl) .c) ?_
  refine W.q rfl rfl rfl rfl (by decide) (Yd.mv rfl (.t rfl)) ?_
  refine W.g rfl rfl rfl rfl rfl (.t rfl _) rfl (by decide) (fun hG => Yd.mv rfl (.t rfl)) ?_
  refine W.g rfl rfl rfl rfl rfl (.t rfl _) rfl (by decide) (fun hG => Yd.geq rfl (.g rfl hG) .c) ?_
  refine W.g rfl rfl rfl rfl rfl (.t rfl _) rfl (by decide) (fun hG => Yd.mv rfl (.g rfl hG)) ?_
  refine W.g rfl rfl rfl rfl rfl (.g rfl _) rfl (by decide) (fun hG => Yd.mv rfl (.t rfl)) ?_
  refine W.g rfl rfl rfl rfl rfl (.g rfl _) rfl (by decide) (fun hG => Yd.mv rfl (.t rfl)) ?_
  refine W.g rfl rfl rfl rfl rfl (.g rfl _) rfl (by decide) (fun hG => Yd.cvQ rfl US3 Try.underlying74 (.g rfl hG)) ?_
  refine W.g rfl rfl rfl rfl rfl (.g rfl _) rfl (by decide) (fun hG => Yd.shlU (a := 1#32) rfl .c (.g rfl hG) (Int.natCast_nonneg _)) ?_
  refine W.g rfl rfl rfl rfl rfl (.g rfl _) rfl (by decide) (fun hG => Yd.lssU (a := s_1) (b := (1#32 <<< ((BitVec.ofInt 64 n_0)).toNat)) rfl (.g rfl hG) (.g rfl hG)) ?_
  refine W.g rfl rfl rfl rfl rfl (.t rfl _) rfl (by decide) (fun hG => Yd.andG rfl (.g rfl hG) .c rfl rfl hG) ?_
  refine W.q rfl rfl rfl rfl (by decide) (Yd.or rfl (.t rfl) .c rfl rfl) ?_
  refine W.q rfl rfl rfl rfl (by decide) (Yd.as rfl (.t rfl)) ?_
  refine W.end ?_
  refine NX.sub (env' := [(4, _)]) ⟨rfl, trivial⟩ ?_
  refine NX.then ?_
  refine Tr.ret' ?_
  refine res1 rfl rfl ?_
  intro w hc
  cases hr
  exact ⟨rfl, hc⟩

def syllogistref_LabelCheck (a_0 : Label) : Option (Int) :=
  bif (!(((decide (a_0.level < (0 : Int))) || (decide (a_0.level > (3 : Int)))) == false) || (syllogistref_Fits ((5 : Int)) a_0.parts).isSome) then
  (bif (((decide (a_0.level < (0 : Int))) || (decide (a_0.level > (3 : Int)))) || (!(((syllogistref_Fits ((5 : Int)) a_0.parts).getD false)))) then
  some ((4 : Int))
  else
  some ((0 : Int))) else none

set_option maxRecDepth 100000 in
theorem syllogistref_LabelCheck_ok (w0 : World) (m : Snap) (l : List HI) (a_0 : Label) (r : Int) (hr : syllogistref_LabelCheck a_0 = some r) (w : World) (hc : cX w0 ⟨m, l⟩ w) :
    Calls Try.prog 35 [.agg #[.int .i64 a_0.level, .int .u32 (a_0.parts.toNat : Int)]].toArray w fun e w' => e = .returned (.int .i64 r) ∧ cX w0 ⟨m, l⟩ w' := by
  unfold syllogistref_LabelCheck at hr
  refine calls_of_Tr (N := 17) Try.func35 rfl hc rfl (Nat.le_of_ble_eq_true rfl) ?_
  refine Tr.seq ?_
  refine Tr.region_f (fun i => Nat.beq i 0) ?_
  refine W.e rfl rfl rfl rfl (by decide) (Ef.bx rfl (.t rfl) rfl) ?_
  rintro _ _ ⟨b1, rfl, rfl⟩
  refine ⟨.inl rfl, ?_⟩
  refine W.cast (m' := m) (l' := hcells b1 [_, _] 65 :: l) rfl rfl ?_
  refine W.q rfl rfl rfl rfl (by decide) (Yd.as rfl .c) ?_
  refine W.end ?_
  refine NX.sub (env' := [(1, _)]) ⟨rfl, trivial⟩ ?_
  refine NX.then ?_
  refine Tr.seq ?_
  refine Tr.seq ?_
  obtain ⟨ha3, hr⟩ := guard_some hr
  refine Tr.region_f (fun _ => false) ?_
  refine W.q rfl rfl rfl rfl (by decide) (Yd.fldB rfl Try.underlying65 rfl SZ3 rfl (.t rfl)) ?_
  refine W.q rfl rfl rfl rfl (by decide) (Yd.ldB (pos := 0) rfl rfl rfl ON3 (.t rfl)) ?_
  refine W.q rfl rfl rfl rfl (by decide) (Yd.lss rfl (.t rfl) .c) ?_
  refine W.q rfl rfl rfl rfl (by decide) (Yd.mv rfl (.t rfl)) ?_
  refine W.g rfl rfl rfl rfl rfl (.t rfl _) rfl (by decide) (fun hG => Yd.fldB rfl Try.underlying65 rfl SZ3 rfl (.t rfl)) ?_
  refine W.g rfl rfl rfl rfl rfl (.t rfl _) rfl (by decide) (fun hG => Yd.ldB (pos := 0) rfl rfl rfl ON3 (.g rfl hG)) ?_
  refine W.g rfl rfl rfl rfl rfl (.t rfl _) rfl (by decide) (fun hG => Yd.gtr rfl (.g rfl hG) .c) ?_
  refine W.q rfl rfl rfl rfl (by decide) (Yd.or rfl (.t rfl) .c rfl rfl) ?_
  refine W.q rfl rfl rfl rfl (by decide) (Yd.mv rfl (.t rfl)) ?_
  refine W.g rfl rfl rfl rfl rfl (.t rfl _) rfl (by decide) (fun hG => Yd.fldB rfl Try.underlying65 rfl SZ63 rfl (.t rfl)) ?_
  refine W.g rfl rfl rfl rfl rfl (.t rfl _) rfl (by decide) (fun hG => Yd.ldB (pos := 0) rfl rfl rfl ON63 (.g rfl hG)) ?_
  refine W.g rfl rfl rfl rfl rfl (.t rfl _) rfl (by decide) (fun hG => Yd.call (v := .bool ((((syllogistref_Fits ((5 : Int)) a_0.parts).getD false)))) rfl Try.func56 rfl rfl (.cons .c (.cons (.g rfl hG) .nil)) (fun x' hx w hw => syllogistref_Fits_ok w0 x'.m x'.l ((5 : Int)) a_0.parts _ (gd_get (d := false) ha3 hG) w hw)) ?_
  refine W.g rfl rfl rfl rfl rfl (.t rfl _) rfl (by decide) (fun hG => Yd.not rfl (.g rfl hG)) ?_
  refine W.q rfl rfl rfl rfl (by decide) (Yd.or rfl (.t rfl) .c rfl rfl) ?_
  refine W.end ?_
  refine NX.sub (env' := [(16, _)]) ⟨rfl, trivial⟩ ?_
  refine NX.drop (l' := l) (.cons _ (.refl _)) ?_
  refine NX.then ?_
  refine Tr.cond (.t rfl) (fun hb => ?_) (fun hb => ?_)
  · have hr := cond_t hb hr
    refine Tr.seq ?_
    refine Tr.region_f (fun _ => false) ?_
    refine W.q rfl rfl rfl rfl (by decide) (Yd.as rfl .c) ?_
    refine W.end ?_
    refine NX.sub (env' := [(2, _)]) ⟨rfl, trivial⟩ ?_
    refine NX.then ?_
    refine Tr.ret' (RT.then ?_)
    refine res1 rfl rfl ?_
    intro w hc
    cases hr
    exact ⟨rfl, hc⟩
  · have hr := cond_f hb hr
    refine Tr.skip' ?_
    refine NX.then ?_
    refine Tr.seq ?_
    refine Tr.region_f (fun _ => false) ?_
    refine W.q rfl rfl rfl rfl (by decide) (Yd.as rfl .c) ?_
    refine W.end ?_
    refine NX.sub (env' := [(2, _)]) ⟨rfl, trivial⟩ ?_
    refine NX.then ?_
    refine Tr.ret' ?_
    refine res1 rfl rfl ?_
    intro w hc
    cases hr
    exact ⟨rfl, hc⟩

def syllogistref_MarkCheck_k5 : Option (Int) :=
  some ((0 : Int))

def syllogistref_MarkCheck_k19 (nx10 : (Unit → Option (Int))) : Option (Int) :=
  nx10 ()

def syllogistref_MarkCheck_b23 (y12 : (List Label)) (t_22 : Int) (nx24 : Unit → Option (Int)) : Option (Int) :=
  (geti y12 t_22).bind fun y26 =>
  (syllogistref_LabelCheck (({ level := y26.level, parts := y26.parts } : Label))).bind fun r30 =>
  (bif (r30 != (0 : Int)) then
  some ((4 : Int))
  else
  nx24 ())

def syllogistref_MarkCheck_b9 (clear_0 : List Label) (things_1 : List Label) (t_8 : Int) (nx10 : Unit → Option (Int)) : Option (Int) :=
  (geti (([clear_0, things_1] : List (List Label))) t_8).bind fun y12 =>
  forK (σ := Unit) (fun i s nx_ => syllogistref_MarkCheck_b23 y12 i nx_) (fun _ => syllogistref_MarkCheck_k19 nx10) ((y12.length : Int) - (0 : Int)).toNat (0 : Int) ()

def syllogistref_MarkCheck (clear_0 : List Label) (things_1 : List Label) (deeds_2 : Int) : Option (Int) :=
  (bif ((((decide ((clear_0.length : Int) < (1 : Int))) || (decide ((clear_0.length : Int) > (5 : Int)))) || (decide ((things_1.length : Int) > (8 : Int)))) || (decide (deeds_2 > (30 : Int)))) then
  some ((1 : Int))
  else
  forK (σ := Unit) (fun i s nx_ => syllogistref_MarkCheck_b9 clear_0 things_1 i nx_) (fun _ => syllogistref_MarkCheck_k5) (((([clear_0, things_1] : List (List Label))).length : Int) - (0 : Int)).toNat (0 : Int) ())

set_option maxRecDepth 100000 in
theorem syllogistref_MarkCheck_ok (w0 : World) (m : Snap) (l : List HI) (uclear_0 : Value) (clear_0 : List Label) (hclear_0 : RS rLabel m uclear_0 clear_0) (uthings_1 : Value) (things_1 : List Label) (hthings_1 : RS rLabel m uthings_1 things_1) (deeds_2 : Int) (r : Int) (hr : syllogistref_MarkCheck clear_0 things_1 deeds_2 = some r) (w : World) (hc : cX w0 ⟨m, l⟩ w) :
    Calls Try.prog 11 [uclear_0, uthings_1, .int .i64 deeds_2].toArray w fun e w' => e = .returned (.int .i64 r) ∧ cX w0 ⟨m, l⟩ w' := by
  unfold syllogistref_MarkCheck at hr
  refine calls_of_Tr (N := 47) Try.func11 rfl hc rfl (Nat.le_of_ble_eq_true rfl) ?_
  refine Tr.seq ?_
  refine Tr.region_f (fun _ => false) ?_
  refine W.q rfl rfl rfl rfl (by decide) (Yd.as rfl .c) ?_
  refine W.end ?_
  refine NX.sub (env' := [(0, _), (1, _), (2, _)]) ⟨rfl, rfl, rfl, trivial⟩ ?_
  refine NX.then ?_
  refine Tr.seq ?_
  refine Tr.seq ?_
  refine Tr.region_f (fun _ => false) ?_
  refine W.q rfl rfl rfl rfl (by decide) (Yd.mv rfl (.t rfl)) ?_
  refine W.q rfl rfl rfl rfl (by decide) (Yd.lenR hclear_0 rfl Try.underlying22 (.t rfl)) ?_
  refine W.q rfl rfl rfl rfl (by decide) (Yd.lss rfl (.t rfl) .c) ?_
  refine W.q rfl rfl rfl rfl (by decide) (Yd.mv rfl (.t rfl)) ?_
  refine W.g rfl rfl rfl rfl rfl (.t rfl _) rfl (by decide) (fun hG => Yd.mv rfl (.t rfl)) ?_
  refine W.g rfl rfl rfl rfl rfl (.t rfl _) rfl (by decide) (fun hG => Yd.lenR hclear_0 rfl Try.underlying22 (.g rfl hG)) ?_
  refine W.g rfl rfl rfl rfl rfl (.t rfl _) rfl (by decide) (fun hG => Yd.gtr rfl (.g rfl hG) .c) ?_
  refine W.q rfl rfl rfl rfl (by decide) (Yd.or rfl (.t rfl) .c rfl rfl) ?_
  refine W.q rfl rfl rfl rfl (by decide) (Yd.mv rfl (.t rfl)) ?_
  refine W.g rfl rfl rfl rfl rfl (.t rfl _) rfl (by decide) (fun hG => Yd.mv rfl (.t rfl)) ?_
  refine W.g rfl rfl rfl rfl rfl (.t rfl _) rfl (by decide) (fun hG => Yd.lenR hthings_1 rfl Try.underlying22 (.g rfl hG)) ?_
  refine W.g rfl rfl rfl rfl rfl (.t rfl _) rfl (by decide) (fun hG => Yd.gtr rfl (.g rfl hG) .c) ?_
  refine W.q rfl rfl rfl rfl (by decide) (Yd.or rfl (.t rfl) .c rfl rfl) ?_
  refine W.q rfl rfl rfl rfl (by decide) (Yd.mv rfl (.t rfl)) ?_
  refine W.g rfl rfl rfl rfl rfl (.t rfl _) rfl (by decide) (fun hG => Yd.mv rfl (.t rfl)) ?_
  refine W.g rfl rfl rfl rfl rfl (.t rfl _) rfl (by decide) (fun hG => Yd.gtr rfl (.g rfl hG) .c) ?_
  refine W.q rfl rfl rfl rfl (by decide) (Yd.or rfl (.t rfl) .c rfl rfl) ?_
  refine W.end ?_
  refine NX.sub (env' := [(0, _), (1, _), (27, _)]) ⟨rfl, rfl, rfl, trivial⟩ ?_
  refine NX.then ?_
  refine Tr.cond (.t rfl) (fun hb => ?_) (fun hb => ?_)
  · have hr := cond_t hb hr
    refine Tr.seq ?_
    refine Tr.region_f (fun _ => false) ?_
    refine W.q rfl rfl rfl rfl (by decide) (Yd.as rfl .c) ?_
    refine W.end ?_
    refine NX.sub (env' := [(6, _)]) ⟨rfl, trivial⟩ ?_
    refine NX.then ?_
    refine Tr.ret' (RT.then ?_)
    refine res1 rfl rfl ?_
    intro w hc
    cases hr
    exact ⟨rfl, hc⟩
  · have hr := cond_f hb hr
    refine Tr.skip' ?_
    refine NX.then ?_
    refine Tr.seq ?_
    refine Tr.seq ?_
    refine Tr.region_f (fun i => Nat.beq i 2) ?_
    refine W.q rfl rfl rfl rfl (by decide) (Yd.mv rfl (.t rfl)) ?_
    refine W.q rfl rfl rfl rfl (by decide) (Yd.mv rfl (.t rfl)) ?_
    refine W.e rfl rfl rfl rfl (by decide) (Ef.bsRs (us := [uclear_0, uthings_1]) (xss := [clear_0, things_1]) (Rows.snoc (Rows.snoc (Rows.nil _ _) hclear_0) hthings_1) IF22 rfl Try.underlying72 rfl (.cons (.t rfl) (.cons (.t rfl) .nil)) rfl (by decide)) ?_
    rintro v1 _ rfl
    refine ⟨.inl rfl, ?_⟩
    refine W.cast (m' := m) (l' := hown 22 1 v1 _ _ :: l) rfl rfl ?_
    refine W.q rfl rfl rfl rfl (by decide) (Yd.lenO (p := 0) rfl rfl Try.underlying72 (.t rfl)) ?_
    refine W.q rfl rfl rfl rfl (by decide) (Yd.mv rfl .c) ?_
    refine W.end ?_
    refine NX.sub (env' := [(30, _), (31, _), (32, _)]) ⟨rfl, rfl, rfl, trivial⟩ ?_
    refine NX.then ?_
    refine Tr.join (S := fun env x => env = [] ∧ x = ⟨m, l⟩ ∧ syllogistref_MarkCheck_k5 = some r) ?_ (fun hk6 => ?_)
    · rintro _ _ ⟨rfl, rfl, hr⟩
      unfold syllogistref_MarkCheck_k5 at hr
      try dsimp only at hr
      refine NX.then ?_
      refine Tr.seq ?_
      refine Tr.region_f (fun _ => false) ?_
      refine W.q rfl rfl rfl rfl (by decide) (Yd.as rfl .c) ?_
      refine W.end ?_
      refine NX.sub (env' := [(6, _)]) ⟨rfl, trivial⟩ ?_
      refine NX.then ?_
      refine Tr.ret' ?_
      refine res1 rfl rfl ?_
      intro w hc
      cases hr
      exact ⟨rfl, hc⟩
    refine Tr.lenO (pos := 0) rfl (fun hlen7 => ?_)
    refine Tr.block ?_
    refine Tr.sub (env' := [(30, _), (31, _), (32, _)]) ⟨rfl, rfl, rfl, trivial⟩ ?_
    refine Tr.loop (S := fun n (z : Int × Unit) env x => match z with | (t_8, _) => env = [(30, v1), (31, .int .i64 (((([clear_0, things_1] : List (List Label))).length : Int))), (32, .int .i64 t_8)] ∧ x = ⟨m, hown 22 1 v1 (([clear_0, things_1] : List (List Label))).length ([uclear_0, uthings_1] : List Value) :: l⟩ ∧ n = (((([clear_0, things_1] : List (List Label))).length : Int) - t_8).toNat ∧ 0 ≤ t_8 ∧ forK (σ := Unit) (fun i s nx_ => syllogistref_MarkCheck_b9 clear_0 things_1 i nx_) (fun _ => syllogistref_MarkCheck_k5) n t_8 () = some r) _ ((0 : Int), ()) ⟨rfl, rfl, rfl, (by omega), hr⟩ ?_
    rintro n11 ⟨t_8, _⟩ env x ⟨rfl, rfl, hnt_8, h0t_8, hr⟩
    cases n11 with
    | zero =>
      simp only [forK] at hr
      refine Tr.seq ?_
      refine Tr.region_f (fun _ => false) ?_
      refine W.q rfl rfl rfl rfl (by decide) (Yd.lss rfl (.t rfl) (.t rfl)) ?_
      refine W.end ?_
      refine NX.sub (env' := [(30, _), (31, _), (32, _), (33, _)]) ⟨rfl, rfl, rfl, rfl, trivial⟩ ?_
      refine NX.then ?_
      refine Tr.seq ?_
      refine Tr.cond (.t rfl) (fun hb => ?_) (fun hb => ?_)
      · exact absurd (hb.symm.trans (fr_end hnt_8)) (by decide)
      ·
        refine Tr.exit' (EX.then (EX.then (EX.block ?_)))
        refine NX.sub (env' := []) trivial ?_
        refine NX.drop (l' := l) (.cons _ (.refl _)) ?_
        exact hk6 _ _ ⟨rfl, rfl, hr⟩
    | succ n11 =>
      obtain ⟨nx10, hnx10, hr⟩ := forK_succ hr
      try dsimp only at hr
      unfold syllogistref_MarkCheck_b9 at hr
      try dsimp only at hr
      have hltt_8 := fr_bnd hnt_8
      refine Tr.seq ?_
      refine Tr.region_f (fun _ => false) ?_
      refine W.q rfl rfl rfl rfl (by decide) (Yd.lss rfl (.t rfl) (.t rfl)) ?_
      refine W.end ?_
      refine NX.sub (env' := [(30, _), (31, _), (32, _), (33, _)]) ⟨rfl, rfl, rfl, rfl, trivial⟩ ?_
      refine NX.then ?_
      refine Tr.seq ?_
      refine Tr.cond (.t rfl) (fun hb => ?_) (fun hb => ?_)
      rotate_left
      · exact absurd (hb.symm.trans (fr_go hnt_8)) (by decide)
      ·
        refine Tr.skip' ?_
        refine NX.then ?_
        refine Tr.seq ?_
        refine Tr.block ?_
        refine Tr.seq ?_
        obtain ⟨y12, hy13, hr⟩ := bind_some hr
        refine Tr.region_f (fun _ => false) ?_
        refine W.q rfl rfl rfl rfl (by decide) (Yd.idxO (pos := 0) (xs := ([clear_0, things_1] : List (List Label))) rfl hy13 rfl Try.underlying72 SZ22 (.t rfl) (.t rfl)) ?_
        obtain ⟨u14, hu15, hu16⟩ := Rows.get (Rows.snoc (Rows.snoc (Rows.nil _ _) hclear_0) hthings_1) hy13
        refine W.q rfl rfl rfl rfl (by decide) (Yd.ldU (pos := 0) rfl hu15 rfl ON22 (.t rfl)) ?_
        refine W.q rfl rfl rfl rfl (by decide) (Yd.as rfl (.t rfl)) ?_
        refine W.end ?_
        refine NX.sub (env' := [(30, _), (31, _), (32, _), (8, _)]) ⟨rfl, rfl, rfl, rfl, trivial⟩ ?_
        refine NX.then ?_
        refine Tr.seq ?_
        refine Tr.region_f (fun _ => false) ?_
        refine W.q rfl rfl rfl rfl (by decide) (Yd.mv rfl (.t rfl)) ?_
        refine W.q rfl rfl rfl rfl (by decide) (Yd.lenR hu16 rfl Try.underlying22 (.t rfl)) ?_
        refine W.q rfl rfl rfl rfl (by decide) (Yd.mv rfl .c) ?_
        refine W.end ?_
        refine NX.sub (env' := [(30, _), (31, _), (32, _), (36, _), (37, _), (38, _)]) ⟨rfl, rfl, rfl, rfl, rfl, rfl, trivial⟩ ?_
        refine NX.then ?_
        refine Tr.join (S := fun env x => env = [(30, v1), (31, .int .i64 (((([clear_0, things_1] : List (List Label))).length : Int))), (32, .int .i64 t_8)] ∧ x = ⟨m, hown 22 1 v1 (([clear_0, things_1] : List (List Label))).length ([uclear_0, uthings_1] : List Value) :: l⟩ ∧ syllogistref_MarkCheck_k19 nx10 = some r) ?_ (fun hk20 => ?_)
        · rintro _ _ ⟨rfl, rfl, hr⟩
          unfold syllogistref_MarkCheck_k19 at hr
          try dsimp only at hr
          refine NX.block ?_
          refine NX.then ?_
          refine Tr.region_f (fun _ => false) ?_
          refine W.q rfl rfl rfl rfl (by decide) (Yd.add rfl (.t rfl) .c) ?_
          refine W.q rfl rfl rfl rfl (by decide) (Yd.mv rfl (.t rfl)) ?_
          refine W.end ?_
          refine NX.sub (env' := [(30, _), (31, _), (32, _)]) ⟨rfl, rfl, rfl, trivial⟩ ?_
          refine NX.sub (env' := [(30, _), (31, _), (32, _)]) ⟨rfl, rfl, rfl, trivial⟩ ?_
          have hw := w64_id (n := t_8 + 1) (by omega) (by omega)
          exact NX.again n11 (t_8 + 1, ()) (Nat.lt_succ_self _) ⟨(by rw [hw] <;> rfl), rfl, (fr_dec hnt_8), (by omega), ((hnx10 _).symm.trans hr)⟩
        have hlen21 := (hu16).2.1
        refine Tr.block ?_
        refine Tr.sub (env' := [(30, _), (31, _), (32, _), (36, _), (37, _), (38, _)]) ⟨rfl, rfl, rfl, rfl, rfl, rfl, trivial⟩ ?_
        refine Tr.loop (S := fun n (z : Int × Unit) env x => match z with | (t_22, _) => env = [(30, v1), (31, .int .i64 (((([clear_0, things_1] : List (List Label))).length : Int))), (32, .int .i64 t_8), (36, u14), (37, .int .i64 ((y12.length : Int))), (38, .int .i64 t_22)] ∧ x = ⟨m, hown 22 1 v1 (([clear_0, things_1] : List (List Label))).length ([uclear_0, uthings_1] : List Value) :: l⟩ ∧ n = ((y12.length : Int) - t_22).toNat ∧ 0 ≤ t_22 ∧ forK (σ := Unit) (fun i s nx_ => syllogistref_MarkCheck_b23 y12 i nx_) (fun _ => syllogistref_MarkCheck_k19 nx10) n t_22 () = some r) _ ((0 : Int), ()) ⟨rfl, rfl, rfl, (by omega), hr⟩ ?_
        rintro n25 ⟨t_22, _⟩ env x ⟨rfl, rfl, hnt_22, h0t_22, hr⟩
        cases n25 with
        | zero =>
          simp only [forK] at hr
          refine Tr.seq ?_
          refine Tr.region_f (fun _ => false) ?_
          refine W.q rfl rfl rfl rfl (by decide) (Yd.lss rfl (.t rfl) (.t rfl)) ?_
          refine W.end ?_
          refine NX.sub (env' := [(30, _), (31, _), (32, _), (36, _), (37, _), (38, _), (39, _)]) ⟨rfl, rfl, rfl, rfl, rfl, rfl, rfl, trivial⟩ ?_
          refine NX.then ?_
          refine Tr.seq ?_
          refine Tr.cond (.t rfl) (fun hb => ?_) (fun hb => ?_)
          · exact absurd (hb.symm.trans (fr_end hnt_22)) (by decide)
          ·
            refine Tr.exit' (EX.then (EX.then (EX.block ?_)))
            refine NX.sub (env' := [(30, _), (31, _), (32, _)]) ⟨rfl, rfl, rfl, trivial⟩ ?_
            exact hk20 _ _ ⟨rfl, rfl, hr⟩
        | succ n25 =>
          obtain ⟨nx24, hnx24, hr⟩ := forK_succ hr
          try dsimp only at hr
          unfold syllogistref_MarkCheck_b23 at hr
          try dsimp only at hr
          have hltt_22 := fr_bnd hnt_22
          refine Tr.seq ?_
          refine Tr.region_f (fun _ => false) ?_
          refine W.q rfl rfl rfl rfl (by decide) (Yd.lss rfl (.t rfl) (.t rfl)) ?_
          refine W.end ?_
          refine NX.sub (env' := [(30, _), (31, _), (32, _), (36, _), (37, _), (38, _), (39, _)]) ⟨rfl, rfl, rfl, rfl, rfl, rfl, rfl, trivial⟩ ?_
          refine NX.then ?_
          refine Tr.seq ?_
          refine Tr.cond (.t rfl) (fun hb => ?_) (fun hb => ?_)
          rotate_left
          · exact absurd (hb.symm.trans (fr_go hnt_22)) (by decide)
          ·
            refine Tr.skip' ?_
            refine NX.then ?_
            refine Tr.seq ?_
            refine Tr.block ?_
            refine Tr.seq ?_
            obtain ⟨y26, hy27, hr⟩ := bind_some hr
            refine Tr.region_f (fun i => Nat.beq i 2 || Nat.beq i 3) ?_
            refine W.q rfl rfl rfl rfl (by decide) (Yd.idxR hu16 hy27 rfl Try.underlying22 SZ65 (.t rfl) (.t rfl)) ?_
            refine W.q rfl rfl rfl rfl (by decide) (Yd.ldFs (us := [_, _]) hu16 (.refl _) hy27 rfl rfl ON65 US65 SZ65 (.t rfl)) ?_
            refine W.e rfl rfl rfl rfl (by decide) (Ef.al rfl ZR65 rfl) ?_
            rintro _ _ ⟨b28, rfl, rfl⟩
            refine ⟨.inl rfl, ?_⟩
            refine W.cast (m' := m) (l' := hcells b28 [_, _] 65 :: hown 22 1 v1 _ _ :: l) rfl rfl ?_
            refine W.s rfl rfl rfl rfl (Ef.stB (pos := 0) (us := [_, _]) (cs' := [_, _]) rfl rfl (.t rfl) (.t rfl) SZ65 rfl rfl rfl (Nat.le_of_ble_eq_true rfl) rfl) ?_
            rintro _ _ ⟨rfl, rfl⟩
            refine ⟨.inl rfl, ?_⟩
            refine W.cast (m' := m) (l' := hcells b28 [_, _] 65 :: hown 22 1 v1 _ _ :: l) rfl rfl ?_
            refine W.end ?_
            refine NX.sub (env' := [(30, _), (31, _), (32, _), (36, _), (37, _), (38, _), (10, _)]) ⟨rfl, rfl, rfl, rfl, rfl, rfl, rfl, trivial⟩ ?_
            refine NX.then ?_
            refine Tr.seq ?_
            obtain ⟨r30, hr31, hr⟩ := bind_some hr
            refine Tr.region_f (fun _ => false) ?_
            refine W.q rfl rfl rfl rfl (by decide) (Yd.ldBs (pos := 0) (us := [_, _]) rfl rfl rfl rfl ON65 US65 SZ65 (.t rfl)) ?_
            refine W.q rfl rfl rfl rfl (by decide) (Yd.call (v := .int .i64 r30) rfl Try.func35 rfl rfl (.cons (.t rfl) .nil) (fun x' hx w hw => syllogistref_LabelCheck_ok w0 x'.m x'.l (({ level := y26.level, parts := y26.parts } : Label)) _ hr31 w hw)) ?_
            refine W.q rfl rfl rfl rfl (by decide) (Yd.neq rfl (.t rfl) .c) ?_
            refine W.end ?_
            refine NX.sub (env' := [(30, _), (31, _), (32, _), (36, _), (37, _), (38, _), (44, _)]) ⟨rfl, rfl, rfl, rfl, rfl, rfl, rfl, trivial⟩ ?_
            refine NX.drop (l' := hown 22 1 v1 _ _ :: l) (.cons _ (.cons_cons _ (.refl _))) ?_
            refine NX.then ?_
            refine Tr.cond (.t rfl) (fun hb => ?_) (fun hb => ?_)
            · have hr := cond_t hb hr
              refine Tr.seq ?_
              refine Tr.region_f (fun _ => false) ?_
              refine W.q rfl rfl rfl rfl (by decide) (Yd.as rfl .c) ?_
              refine W.end ?_
              refine NX.sub (env' := [(6, _)]) ⟨rfl, trivial⟩ ?_
              refine NX.drop (l' := l) (.cons _ (.refl _)) ?_
              refine NX.then ?_
              refine Tr.ret' (RT.block (RT.then (RT.then (RT.block (RT.block (RT.then (RT.then (RT.block (RT.then ?_)))))))))
              refine res1 rfl rfl ?_
              intro w hc
              cases hr
              exact ⟨rfl, hc⟩
            · have hr := cond_f hb hr
              refine Tr.skip' ?_
              refine NX.block ?_
              refine NX.then ?_
              refine Tr.region_f (fun _ => false) ?_
              refine W.q rfl rfl rfl rfl (by decide) (Yd.add rfl (.t rfl) .c) ?_
              refine W.q rfl rfl rfl rfl (by decide) (Yd.mv rfl (.t rfl)) ?_
              refine W.end ?_
              refine NX.sub (env' := [(30, _), (31, _), (32, _), (36, _), (37, _), (38, _)]) ⟨rfl, rfl, rfl, rfl, rfl, rfl, trivial⟩ ?_
              refine NX.sub (env' := [(30, _), (31, _), (32, _), (36, _), (37, _), (38, _)]) ⟨rfl, rfl, rfl, rfl, rfl, rfl, trivial⟩ ?_
              have hw := w64_id (n := t_22 + 1) (by omega) (by omega)
              exact NX.again n25 (t_22 + 1, ()) (Nat.lt_succ_self _) ⟨(by rw [hw] <;> rfl), rfl, (fr_dec hnt_22), (by omega), ((hnx24 _).symm.trans hr)⟩

def syllogistref_Common_k8 (a_0 : Label) (b_1 : Label) (c7 : Int) : Option (Label) :=
  some (({ level := c7, parts := (a_0.parts &&& b_1.parts) } : Label))

def syllogistref_Common (a_0 : Label) (b_1 : Label) : Option (Label) :=
  (bif (decide (a_0.level > b_1.level)) then
  syllogistref_Common_k8 a_0 b_1 b_1.level
  else
  syllogistref_Common_k8 a_0 b_1 a_0.level)

set_option maxRecDepth 100000 in
theorem syllogistref_Common_ok (w0 : World) (m : Snap) (l : List HI) (a_0 : Label) (b_1 : Label) (r : Label) (hr : syllogistref_Common a_0 b_1 = some r) (w : World) (hc : cX w0 ⟨m, l⟩ w) :
    Calls Try.prog 36 [.agg #[.int .i64 a_0.level, .int .u32 (a_0.parts.toNat : Int)], .agg #[.int .i64 b_1.level, .int .u32 (b_1.parts.toNat : Int)]].toArray w fun e w' => e = .returned (.agg #[.int .i64 r.level, .int .u32 (r.parts.toNat : Int)]) ∧ cX w0 ⟨m, l⟩ w' := by
  unfold syllogistref_Common at hr
  refine calls_of_Tr (N := 20) Try.func36 rfl hc rfl (Nat.le_of_ble_eq_true rfl) ?_
  refine Tr.seq ?_
  refine Tr.region_f (fun i => Nat.beq i 0 || Nat.beq i 1 || Nat.beq i 2) ?_
  refine W.e rfl rfl rfl rfl (by decide) (Ef.bx rfl (.t rfl) rfl) ?_
  rintro _ _ ⟨b1, rfl, rfl⟩
  refine ⟨.inl rfl, ?_⟩
  refine W.cast (m' := m) (l' := hcells b1 [_, _] 65 :: l) rfl rfl ?_
  refine W.e rfl rfl rfl rfl (by decide) (Ef.bx rfl (.t rfl) rfl) ?_
  rintro _ _ ⟨b3, rfl, rfl⟩
  refine ⟨.inl rfl, ?_⟩
  refine W.cast (m' := m) (l' := hcells b3 [_, _] 65 :: hcells b1 [_, _] 65 :: l) rfl rfl ?_
  refine W.e rfl rfl rfl rfl (by decide) (Ef.al rfl ZR65 rfl) ?_
  rintro _ _ ⟨b5, rfl, rfl⟩
  refine ⟨.inl rfl, ?_⟩
  refine W.cast (m' := m) (l' := hcells b5 [_, _] 65 :: hcells b3 [_, _] 65 :: hcells b1 [_, _] 65 :: l) rfl rfl ?_
  refine W.end ?_
  refine NX.sub (env' := [(2, _), (3, _), (4, _)]) ⟨rfl, rfl, rfl, trivial⟩ ?_
  refine NX.then ?_
  refine Tr.seq ?_
  refine Tr.seq ?_
  refine Tr.region_f (fun _ => false) ?_
  refine W.q rfl rfl rfl rfl (by decide) (Yd.fldB rfl Try.underlying65 rfl SZ3 rfl (.t rfl)) ?_
  refine W.q rfl rfl rfl rfl (by decide) (Yd.ldB (pos := 2) rfl rfl rfl ON3 (.t rfl)) ?_
  refine W.q rfl rfl rfl rfl (by decide) (Yd.fldB rfl Try.underlying65 rfl SZ3 rfl (.t rfl)) ?_
  refine W.q rfl rfl rfl rfl (by decide) (Yd.ldB (pos := 1) rfl rfl rfl ON3 (.t rfl)) ?_
  refine W.q rfl rfl rfl rfl (by decide) (Yd.gtr rfl (.t rfl) (.t rfl)) ?_
  refine W.end ?_
  refine NX.sub (env' := [(2, _), (3, _), (4, _), (9, _)]) ⟨rfl, rfl, rfl, rfl, trivial⟩ ?_
  refine NX.then ?_
  refine Tr.join (S := fun env x => ∃ c7 : Int, env = [(2, bp b1 0), (3, bp b3 0), (4, bp b5 0)] ∧ x = ⟨m, hcells b5 [.int .i64 ((0 : Int)), .int .u32 (((0#32)).toNat : Int)] 65 :: hcells b3 [.int .i64 b_1.level, .int .u32 (b_1.parts.toNat : Int)] 65 :: hcells b1 [.int .i64 c7, .int .u32 (a_0.parts.toNat : Int)] 65 :: l⟩ ∧ syllogistref_Common_k8 a_0 b_1 c7 = some r) ?_ (fun hk9 => ?_)
  · rintro _ _ ⟨c7, rfl, rfl, hr⟩
    unfold syllogistref_Common_k8 at hr
    try dsimp only at hr
    refine NX.then ?_
    refine Tr.seq ?_
    refine Tr.region_f (fun i => Nat.beq i 6) ?_
    refine W.q rfl rfl rfl rfl (by decide) (Yd.fldB rfl Try.underlying65 rfl SZ63 rfl (.t rfl)) ?_
    refine W.q rfl rfl rfl rfl (by decide) (Yd.ldB (pos := 2) rfl rfl rfl ON63 (.t rfl)) ?_
    refine W.q rfl rfl rfl rfl (by decide) (Yd.fldB rfl Try.underlying65 rfl SZ63 rfl (.t rfl)) ?_
    refine W.q rfl rfl rfl rfl (by decide) (Yd.ldB (pos := 1) rfl rfl rfl ON63 (.t rfl)) ?_
    refine W.q rfl rfl rfl rfl (by decide) (Yd.andU (a := a_0.parts) (b := b_1.parts) rfl (.t rfl) (.t rfl)) ?_
    refine W.q rfl rfl rfl rfl (by decide) (Yd.fldB rfl Try.underlying65 rfl SZ63 rfl (.t rfl)) ?_
    refine W.s rfl rfl rfl rfl (Ef.stB (pos := 2) (us := [_]) (cs' := [_, _]) rfl rfl (.t rfl) (.t rfl) SZ63 rfl rfl rfl (Nat.le_of_ble_eq_true rfl) rfl) ?_
    rintro _ _ ⟨rfl, rfl⟩
    refine ⟨.inl rfl, ?_⟩
    refine W.cast (m' := m) (l' := hcells b5 [_, _] 65 :: hcells b3 [_, _] 65 :: hcells b1 [_, _] 65 :: l) rfl rfl ?_
    refine W.end ?_
    refine NX.sub (env' := [(2, _), (4, _)]) ⟨rfl, rfl, trivial⟩ ?_
    refine NX.drop (l' := hcells b5 [_, _] 65 :: hcells b1 [_, _] 65 :: l) (.cons_cons _ (.cons _ (.cons_cons _ (.refl _)))) ?_
    refine NX.then ?_
    refine Tr.seq ?_
    refine Tr.region_f (fun i => Nat.beq i 1) ?_
    refine W.q rfl rfl rfl rfl (by decide) (Yd.ldBs (pos := 1) (us := [_, _]) rfl rfl rfl rfl ON65 US65 SZ65 (.t rfl)) ?_
    refine W.s rfl rfl rfl rfl (Ef.stB (pos := 0) (us := [_, _]) (cs' := [_, _]) rfl rfl (.t rfl) (.t rfl) SZ65 rfl rfl rfl (Nat.le_of_ble_eq_true rfl) rfl) ?_
    rintro _ _ ⟨rfl, rfl⟩
    refine ⟨.inl rfl, ?_⟩
    refine W.cast (m' := m) (l' := hcells b5 [_, _] 65 :: hcells b1 [_, _] 65 :: l) rfl rfl ?_
    refine W.end ?_
    refine NX.sub (env' := [(4, _)]) ⟨rfl, trivial⟩ ?_
    refine NX.drop (l' := hcells b5 [_, _] 65 :: l) (.cons_cons _ (.cons _ (.refl _))) ?_
    refine NX.then ?_
    refine Tr.ret' ?_
    refine resV1 rfl (Rv.cs (pos := 0) rfl rfl rfl ON65 US65 SZ65) ?_
    intro w hc
    cases hr
    exact ⟨rfl, (cX_sub (.cons _ (.refl _)) hc)⟩
  refine Tr.cond (.t rfl) (fun hb => ?_) (fun hb => ?_)
  · have hr := cond_t hb hr
    refine Tr.region_f (fun i => Nat.beq i 3) ?_
    refine W.q rfl rfl rfl rfl (by decide) (Yd.fldB rfl Try.underlying65 rfl SZ3 rfl (.t rfl)) ?_
    refine W.q rfl rfl rfl rfl (by decide) (Yd.ldB (pos := 1) rfl rfl rfl ON3 (.t rfl)) ?_
    refine W.q rfl rfl rfl rfl (by decide) (Yd.fldB rfl Try.underlying65 rfl SZ3 rfl (.t rfl)) ?_
    refine W.s rfl rfl rfl rfl (Ef.stB (pos := 2) (us := [_]) (cs' := [_, _]) rfl rfl (.t rfl) (.t rfl) SZ3 rfl rfl rfl (Nat.le_of_ble_eq_true rfl) rfl) ?_
    rintro _ _ ⟨rfl, rfl⟩
    refine ⟨.inl rfl, ?_⟩
    refine W.cast (m' := m) (l' := hcells b5 [_, _] 65 :: hcells b3 [_, _] 65 :: hcells b1 [_, _] 65 :: l) rfl rfl ?_
    refine W.end ?_
    refine NX.sub (env' := [(2, _), (3, _), (4, _)]) ⟨rfl, rfl, rfl, trivial⟩ ?_
    refine NX.sub (env' := [(2, _), (3, _), (4, _)]) ⟨rfl, rfl, rfl, trivial⟩ ?_
    exact hk9 _ _ ⟨_, rfl, rfl, hr⟩
  · have hr := cond_f hb hr
    refine Tr.skip' ?_
    refine NX.sub (env' := [(2, _), (3, _), (4, _)]) ⟨rfl, rfl, rfl, trivial⟩ ?_
    exact hk9 _ _ ⟨_, rfl, rfl, hr⟩

def syllogistref_Both_k8 (a_0 : Label) (b_1 : Label) (c7 : Int) : Option (Label) :=
  some (({ level := c7, parts := (a_0.parts ||| b_1.parts) } : Label))

def syllogistref_Both (a_0 : Label) (b_1 : Label) : Option (Label) :=
  (bif (decide (a_0.level < b_1.level)) then
  syllogistref_Both_k8 a_0 b_1 b_1.level
  else
  syllogistref_Both_k8 a_0 b_1 a_0.level)

set_option maxRecDepth 100000 in
theorem syllogistref_Both_ok (w0 : World) (m : Snap) (l : List HI) (a_0 : Label) (b_1 : Label) (r : Label) (hr : syllogistref_Both a_0 b_1 = some r) (w : World) (hc : cX w0 ⟨m, l⟩ w) :
    Calls Try.prog 37 [.agg #[.int .i64 a_0.level, .int .u32 (a_0.parts.toNat : Int)], .agg #[.int .i64 b_1.level, .int .u32 (b_1.parts.toNat : Int)]].toArray w fun e w' => e = .returned (.agg #[.int .i64 r.level, .int .u32 (r.parts.toNat : Int)]) ∧ cX w0 ⟨m, l⟩ w' := by
  unfold syllogistref_Both at hr
  refine calls_of_Tr (N := 20) Try.func37 rfl hc rfl (Nat.le_of_ble_eq_true rfl) ?_
  refine Tr.seq ?_
  refine Tr.region_f (fun i => Nat.beq i 0 || Nat.beq i 1 || Nat.beq i 2) ?_
  refine W.e rfl rfl rfl rfl (by decide) (Ef.bx rfl (.t rfl) rfl) ?_
  rintro _ _ ⟨b1, rfl, rfl⟩
  refine ⟨.inl rfl, ?_⟩
  refine W.cast (m' := m) (l' := hcells b1 [_, _] 65 :: l) rfl rfl ?_
  refine W.e rfl rfl rfl rfl (by decide) (Ef.bx rfl (.t rfl) rfl) ?_
  rintro _ _ ⟨b3, rfl, rfl⟩
  refine ⟨.inl rfl, ?_⟩
  refine W.cast (m' := m) (l' := hcells b3 [_, _] 65 :: hcells b1 [_, _] 65 :: l) rfl rfl ?_
  refine W.e rfl rfl rfl rfl (by decide) (Ef.al rfl ZR65 rfl) ?_
  rintro _ _ ⟨b5, rfl, rfl⟩
  refine ⟨.inl rfl, ?_⟩
  refine W.cast (m' := m) (l' := hcells b5 [_, _] 65 :: hcells b3 [_, _] 65 :: hcells b1 [_, _] 65 :: l) rfl rfl ?_
  refine W.end ?_
  refine NX.sub (env' := [(2, _), (3, _), (4, _)]) ⟨rfl, rfl, rfl, trivial⟩ ?_
  refine NX.then ?_
  refine Tr.seq ?_
  refine Tr.seq ?_
  refine Tr.region_f (fun _ => false) ?_
  refine W.q rfl rfl rfl rfl (by decide) (Yd.fldB rfl Try.underlying65 rfl SZ3 rfl (.t rfl)) ?_
  refine W.q rfl rfl rfl rfl (by decide) (Yd.ldB (pos := 2) rfl rfl rfl ON3 (.t rfl)) ?_
  refine W.q rfl rfl rfl rfl (by decide) (Yd.fldB rfl Try.underlying65 rfl SZ3 rfl (.t rfl)) ?_
  refine W.q rfl rfl rfl rfl (by decide) (Yd.ldB (pos := 1) rfl rfl rfl ON3 (.t rfl)) ?_
  refine W.q rfl rfl rfl rfl (by decide) (Yd.lss rfl (.t rfl) (.t rfl)) ?_
  refine W.end ?_
  refine NX.sub (env' := [(2, _), (3, _), (4, _), (9, _)]) ⟨rfl, rfl, rfl, rfl, trivial⟩ ?_
  refine NX.then ?_
  refine Tr.join (S := fun env x => ∃ c7 : Int, env = [(2, bp b1 0), (3, bp b3 0), (4, bp b5 0)] ∧ x = ⟨m, hcells b5 [.int .i64 ((0 : Int)), .int .u32 (((0#32)).toNat : Int)] 65 :: hcells b3 [.int .i64 b_1.level, .int .u32 (b_1.parts.toNat : Int)] 65 :: hcells b1 [.int .i64 c7, .int .u32 (a_0.parts.toNat : Int)] 65 :: l⟩ ∧ syllogistref_Both_k8 a_0 b_1 c7 = some r) ?_ (fun hk9 => ?_)
  · rintro _ _ ⟨c7, rfl, rfl, hr⟩
    unfold syllogistref_Both_k8 at hr
    try dsimp only at hr
    refine NX.then ?_
    refine Tr.seq ?_
    refine Tr.region_f (fun i => Nat.beq i 6) ?_
    refine W.q rfl rfl rfl rfl (by decide) (Yd.fldB rfl Try.underlying65 rfl SZ63 rfl (.t rfl)) ?_
    refine W.q rfl rfl rfl rfl (by decide) (Yd.ldB (pos := 2) rfl rfl rfl ON63 (.t rfl)) ?_
    refine W.q rfl rfl rfl rfl (by decide) (Yd.fldB rfl Try.underlying65 rfl SZ63 rfl (.t rfl)) ?_
    refine W.q rfl rfl rfl rfl (by decide) (Yd.ldB (pos := 1) rfl rfl rfl ON63 (.t rfl)) ?_
    refine W.q rfl rfl rfl rfl (by decide) (Yd.orU (a := a_0.parts) (b := b_1.parts) rfl (.t rfl) (.t rfl)) ?_
    refine W.q rfl rfl rfl rfl (by decide) (Yd.fldB rfl Try.underlying65 rfl SZ63 rfl (.t rfl)) ?_
    refine W.s rfl rfl rfl rfl (Ef.stB (pos := 2) (us := [_]) (cs' := [_, _]) rfl rfl (.t rfl) (.t rfl) SZ63 rfl rfl rfl (Nat.le_of_ble_eq_true rfl) rfl) ?_
    rintro _ _ ⟨rfl, rfl⟩
    refine ⟨.inl rfl, ?_⟩
    refine W.cast (m' := m) (l' := hcells b5 [_, _] 65 :: hcells b3 [_, _] 65 :: hcells b1 [_, _] 65 :: l) rfl rfl ?_
    refine W.end ?_
    refine NX.sub (env' := [(2, _), (4, _)]) ⟨rfl, rfl, trivial⟩ ?_
    refine NX.drop (l' := hcells b5 [_, _] 65 :: hcells b1 [_, _] 65 :: l) (.cons_cons _ (.cons _ (.cons_cons _ (.refl _)))) ?_
    refine NX.then ?_
    refine Tr.seq ?_
    refine Tr.region_f (fun i => Nat.beq i 1) ?_
    refine W.q rfl rfl rfl rfl (by decide) (Yd.ldBs (pos := 1) (us := [_, _]) rfl rfl rfl rfl ON65 US65 SZ65 (.t rfl)) ?_
    refine W.s rfl rfl rfl rfl (Ef.stB (pos := 0) (us := [_, _]) (cs' := [_, _]) rfl rfl (.t rfl) (.t rfl) SZ65 rfl rfl rfl (Nat.le_of_ble_eq_true rfl) rfl) ?_
    rintro _ _ ⟨rfl, rfl⟩
    refine ⟨.inl rfl, ?_⟩
    refine W.cast (m' := m) (l' := hcells b5 [_, _] 65 :: hcells b1 [_, _] 65 :: l) rfl rfl ?_
    refine W.end ?_
    refine NX.sub (env' := [(4, _)]) ⟨rfl, trivial⟩ ?_
    refine NX.drop (l' := hcells b5 [_, _] 65 :: l) (.cons_cons _ (.cons _ (.refl _))) ?_
    refine NX.then ?_
    refine Tr.ret' ?_
    refine resV1 rfl (Rv.cs (pos := 0) rfl rfl rfl ON65 US65 SZ65) ?_
    intro w hc
    cases hr
    exact ⟨rfl, (cX_sub (.cons _ (.refl _)) hc)⟩
  refine Tr.cond (.t rfl) (fun hb => ?_) (fun hb => ?_)
  · have hr := cond_t hb hr
    refine Tr.region_f (fun i => Nat.beq i 3) ?_
    refine W.q rfl rfl rfl rfl (by decide) (Yd.fldB rfl Try.underlying65 rfl SZ3 rfl (.t rfl)) ?_
    refine W.q rfl rfl rfl rfl (by decide) (Yd.ldB (pos := 1) rfl rfl rfl ON3 (.t rfl)) ?_
    refine W.q rfl rfl rfl rfl (by decide) (Yd.fldB rfl Try.underlying65 rfl SZ3 rfl (.t rfl)) ?_
    refine W.s rfl rfl rfl rfl (Ef.stB (pos := 2) (us := [_]) (cs' := [_, _]) rfl rfl (.t rfl) (.t rfl) SZ3 rfl rfl rfl (Nat.le_of_ble_eq_true rfl) rfl) ?_
    rintro _ _ ⟨rfl, rfl⟩
    refine ⟨.inl rfl, ?_⟩
    refine W.cast (m' := m) (l' := hcells b5 [_, _] 65 :: hcells b3 [_, _] 65 :: hcells b1 [_, _] 65 :: l) rfl rfl ?_
    refine W.end ?_
    refine NX.sub (env' := [(2, _), (3, _), (4, _)]) ⟨rfl, rfl, rfl, trivial⟩ ?_
    refine NX.sub (env' := [(2, _), (3, _), (4, _)]) ⟨rfl, rfl, rfl, trivial⟩ ?_
    exact hk9 _ _ ⟨_, rfl, rfl, hr⟩
  · have hr := cond_f hb hr
    refine Tr.skip' ?_
    refine NX.sub (env' := [(2, _), (3, _), (4, _)]) ⟨rfl, rfl, rfl, trivial⟩ ?_
    exact hk9 _ _ ⟨_, rfl, rfl, hr⟩

def syllogistref_In (a_0 : (BitVec 32)) (b_1 : (BitVec 32)) : Option (Bool) :=
  some (((a_0 ||| b_1) == b_1))

set_option maxRecDepth 100000 in
theorem syllogistref_In_ok (w0 : World) (m : Snap) (l : List HI) (a_0 : (BitVec 32)) (b_1 : (BitVec 32)) (r : Bool) (hr : syllogistref_In a_0 b_1 = some r) (w : World) (hc : cX w0 ⟨m, l⟩ w) :
    Calls Try.prog 57 [.int .u32 (a_0.toNat : Int), .int .u32 (b_1.toNat : Int)].toArray w fun e w' => e = .returned (.bool r) ∧ cX w0 ⟨m, l⟩ w' := by
  unfold syllogistref_In at hr
  refine calls_of_Tr (N := 10) Try.func57 rfl hc rfl (Nat.le_of_ble_eq_true rfl) ?_
  refine Tr.seq ?_
  refine Tr.region_f (fun _ => false) ?_
  refine W.q rfl rfl rfl rfl (by decide) (Yd.as rfl .c) ?_
  refine W.end ?_
  refine NX.sub (env' := [(0, _), (1, _)]) ⟨rfl, rfl, trivial⟩ ?_
  refine NX.then ?_
  refine Tr.seq ?_
  refine Tr.region_f (fun _ => false) ?_
  refine W.q rfl rfl rfl rfl (by decide) (Yd.mv rfl (.t rfl)) ?_
  refine W.q rfl rfl rfl rfl (by decide) (Yd.mv rfl (.t rfl)) ?_
  refine W.q rfl rfl rfl rfl (by decide) (Yd.orU (a := a_0) (b := b_1) rfl (.t rfl) (.t rfl)) ?_
  refine W.q rfl rfl rfl rfl (by decide) (Yd.mv rfl (.t rfl)) ?_
  refine W.q rfl rfl rfl rfl (by decide) (Yd.eqlU (a := (a_0 ||| b_1)) (b := b_1) rfl (.t rfl) (.t rfl)) ?_
  refine W.q rfl rfl rfl rfl (by decide) (Yd.as rfl (.t rfl)) ?_
  refine W.end ?_
  refine NX.sub (env' := [(4, _)]) ⟨rfl, trivial⟩ ?_
  refine NX.then ?_
  refine Tr.ret' ?_
  refine res1 rfl rfl ?_
  intro w hc
  cases hr
  exact ⟨rfl, hc⟩

def syllogistref_Below (a_0 : Label) (b_1 : Label) : Option (Bool) :=
  bif (!((decide (a_0.level ≤ b_1.level)) == true) || (syllogistref_In a_0.parts b_1.parts).isSome) then
  some (((decide (a_0.level ≤ b_1.level)) && (((syllogistref_In a_0.parts b_1.parts).getD false)))) else none

set_option maxRecDepth 100000 in
theorem syllogistref_Below_ok (w0 : World) (m : Snap) (l : List HI) (a_0 : Label) (b_1 : Label) (r : Bool) (hr : syllogistref_Below a_0 b_1 = some r) (w : World) (hc : cX w0 ⟨m, l⟩ w) :
    Calls Try.prog 38 [.agg #[.int .i64 a_0.level, .int .u32 (a_0.parts.toNat : Int)], .agg #[.int .i64 b_1.level, .int .u32 (b_1.parts.toNat : Int)]].toArray w fun e w' => e = .returned (.bool r) ∧ cX w0 ⟨m, l⟩ w' := by
  unfold syllogistref_Below at hr
  refine calls_of_Tr (N := 17) Try.func38 rfl hc rfl (Nat.le_of_ble_eq_true rfl) ?_
  refine Tr.seq ?_
  refine Tr.region_f (fun i => Nat.beq i 0 || Nat.beq i 1) ?_
  refine W.e rfl rfl rfl rfl (by decide) (Ef.bx rfl (.t rfl) rfl) ?_
  rintro _ _ ⟨b1, rfl, rfl⟩
  refine ⟨.inl rfl, ?_⟩
  refine W.cast (m' := m) (l' := hcells b1 [_, _] 65 :: l) rfl rfl ?_
  refine W.e rfl rfl rfl rfl (by decide) (Ef.bx rfl (.t rfl) rfl) ?_
  rintro _ _ ⟨b3, rfl, rfl⟩
  refine ⟨.inl rfl, ?_⟩
  refine W.cast (m' := m) (l' := hcells b3 [_, _] 65 :: hcells b1 [_, _] 65 :: l) rfl rfl ?_
  refine W.q rfl rfl rfl rfl (by decide) (Yd.as rfl .c) ?_
  refine W.end ?_
  refine NX.sub (env' := [(2, _), (3, _)]) ⟨rfl, rfl, trivial⟩ ?_
  refine NX.then ?_
  refine Tr.seq ?_
  obtain ⟨ha5, hr⟩ := guard_some hr
  refine Tr.region_f (fun _ => false) ?_
  refine W.q rfl rfl rfl rfl (by decide) (Yd.fldB rfl Try.underlying65 rfl SZ3 rfl (.t rfl)) ?_
  refine W.q rfl rfl rfl rfl (by decide) (Yd.ldB (pos := 1) rfl rfl rfl ON3 (.t rfl)) ?_
  refine W.q rfl rfl rfl rfl (by decide) (Yd.fldB rfl Try.underlying65 rfl SZ3 rfl (.t rfl)) ?_
  refine W.q rfl rfl rfl rfl (by decide) (Yd.ldB (pos := 0) rfl rfl rfl ON3 (.t rfl)) ?_
  refine W.q rfl rfl rfl rfl (by decide) (Yd.leq rfl (.t rfl) (.t rfl)) ?_
  refine W.q rfl rfl rfl rfl (by decide) (Yd.mv rfl (.t rfl)) ?_
  refine W.g rfl rfl rfl rfl rfl (.t rfl _) rfl (by decide) (fun hG => Yd.fldB rfl Try.underlying65 rfl SZ63 rfl (.t rfl)) ?_
  refine W.g rfl rfl rfl rfl rfl (.t rfl _) rfl (by decide) (fun hG => Yd.ldB (pos := 1) rfl rfl rfl ON63 (.g rfl hG)) ?_
  refine W.g rfl rfl rfl rfl rfl (.t rfl _) rfl (by decide) (fun hG => Yd.fldB rfl Try.underlying65 rfl SZ63 rfl (.t rfl)) ?_
  refine W.g rfl rfl rfl rfl rfl (.t rfl _) rfl (by decide) (fun hG => Yd.ldB (pos := 0) rfl rfl rfl ON63 (.g rfl hG)) ?_
  refine W.g rfl rfl rfl rfl rfl (.t rfl _) rfl (by decide) (fun hG => Yd.call (v := .bool ((((syllogistref_In a_0.parts b_1.parts).getD false)))) rfl Try.func57 rfl rfl (.cons (.g rfl hG) (.cons (.g rfl hG) .nil)) (fun x' hx w hw => syllogistref_In_ok w0 x'.m x'.l a_0.parts b_1.parts _ (gd_get (d := false) ha5 hG) w hw)) ?_
  refine W.q rfl rfl rfl rfl (by decide) (Yd.and rfl (.t rfl) .c rfl rfl) ?_
  refine W.q rfl rfl rfl rfl (by decide) (Yd.as rfl (.t rfl)) ?_
  refine W.end ?_
  refine NX.sub (env' := [(4, _)]) ⟨rfl, trivial⟩ ?_
  refine NX.drop (l' := l) (.cons _ (.cons _ (.refl _))) ?_
  refine NX.then ?_
  refine Tr.ret' ?_
  refine res1 rfl rfl ?_
  intro w hc
  cases hr
  exact ⟨rfl, hc⟩
end Go.Proofs.Ytcihfhfolofomaa.Sy
