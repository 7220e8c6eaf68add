/- Functions of the program as plain functions, and that the translation computes them; the conditions stand in each theorem. Printed by an own program. -/
import Derived.Test.YtcihfhfolofomaaSyU
import Derived.Test.YtcihfhfolofomaaT
import Derived.Test.YtcihfhfolofomaaProg
namespace Go.Proofs.Ytcihfhfolofomaa.Sy
open Go
set_option linter.unusedVariables false
theorem SZ86 : (Try.prog.info? 86).map (·.size) = some 7 := by kernel_rfl
theorem ON86 : one Try.prog 86 = false := by kernel_rfl
theorem US86 : (Try.prog.underlying 86).isSome = true := by kernel_rfl
theorem ZR86 : (Try.prog.info? 86).bind (·.zero) = some (.agg #[.int .i64 0, .int .i64 0, .int .i64 0, .int .i64 0, .int .i64 0, .slice none 0 0, .slice none 0 0]) := by kernel_rfl
theorem SZ37 : (Try.prog.info? 37).map (·.size) = some 1 := by kernel_rfl
theorem ON37 : one Try.prog 37 = true := by kernel_rfl
theorem IF37 : (Try.prog.info? 37).map (fun i => (i.zero, i.size, i.bytes)) = some (some (.slice none 0 0), 1, 24) := by kernel_rfl
theorem ON3 : one Try.prog 3 = true := by kernel_rfl
theorem SZ3 : (Try.prog.info? 3).map (·.size) = some 1 := by kernel_rfl
theorem IF3 : (Try.prog.info? 3).map (fun i => (i.zero, i.size, i.bytes)) = some (some (.int .i64 0), 1, 8) := by kernel_rfl
theorem SZ63 : (Try.prog.info? 63).map (·.size) = some 1 := by kernel_rfl
theorem ON63 : one Try.prog 63 = true := by kernel_rfl
theorem SZ65 : (Try.prog.info? 65).map (·.size) = some 2 := by kernel_rfl
theorem ON65 : one Try.prog 65 = false := by kernel_rfl
theorem US65 : (Try.prog.underlying 65).isSome = true := by kernel_rfl
theorem ZR65 : (Try.prog.info? 65).bind (·.zero) = some (.agg #[.int .i64 0, .int .u32 0]) := by kernel_rfl
theorem IF65 : (Try.prog.info? 65).map (fun i => (i.zero, i.size, i.bytes)) = some (some (.agg #[.int .i64 0, .int .u32 0]), 2, 16) := by kernel_rfl
theorem ZI65 : (Try.prog.info? 65).bind (·.zero) = some (.agg #[.int .i64 0, .int .u32 0]) := by kernel_rfl
theorem PL65 : plS Try.prog 65 = some [(0, 1), (1, 1)] := by kernel_rfl
theorem ON22 : one Try.prog 22 = true := by kernel_rfl
theorem US3 : (Try.prog.underlying 3).isSome = true := by kernel_rfl
theorem ZI67 : (Try.prog.info? 67).bind (·.zero) = some (.agg #[.int .i64 0, .int .i64 0, .int .i64 0, .int .i64 0, .int .u32 0, .int .i64 0]) := by kernel_rfl
theorem PL67 : plS Try.prog 67 = some [(0, 1), (1, 1), (2, 1), (3, 2), (5, 1)] := by kernel_rfl
theorem IF67 : (Try.prog.info? 67).map (fun i => (i.zero, i.size, i.bytes)) = some (some (.agg #[.int .i64 0, .int .i64 0, .int .i64 0, .int .i64 0, .int .u32 0, .int .i64 0]), 6, 48) := by kernel_rfl
theorem SZ67 : (Try.prog.info? 67).map (·.size) = some 6 := by kernel_rfl
theorem ON67 : one Try.prog 67 = false := by kernel_rfl
theorem US67 : (Try.prog.underlying 67).isSome = true := by kernel_rfl
theorem ZR67 : (Try.prog.info? 67).bind (·.zero) = some (.agg #[.int .i64 0, .int .i64 0, .int .i64 0, .int .i64 0, .int .u32 0, .int .i64 0]) := by kernel_rfl
theorem GU65 : Try.prog.eqGuardType Try.prog.depth 65 = false := by kernel_rfl
theorem ST65 : Try.prog.stoodInHeld 65 = false := by kernel_rfl
theorem US63 : (Try.prog.underlying 63).isSome = true := by kernel_rfl
theorem EQ65 (w : World) (x0 : Int) (x1 : BitVec 32) (y0 : Int) (y1 : BitVec 32) : (binOp .eql 65 (.agg #[.int .i64 x0, .int .u32 (x1.toNat : Int)]) (.agg #[.int .i64 y0, .int .u32 (y1.toNat : Int)])).run Try.prog w = .ok (.bool ((x0 == y0) && ((x1 == y1) && true))) w :=
  eq_s w Try.underlying65 ST65 (fun d => (eqf_cons w rfl (part_one w ON3 rfl) (part_one w ON3 rfl) (run_equalIn_int w _ _ _ _ _ _ Try.underlying3) (eqf_cons w rfl (part_one w ON63 rfl) (part_one w ON63 rfl) (eq_u w Try.underlying63) (eqf_nil w))))
theorem FM : Try.prog.follows .mixedOrders = true := by kernel_rfl

def flow_size_k9 (many_7 : Int) (most_8 : Int) : Option (Int × Int) :=
  some ((many_7, most_8))

def flow_size_k35 (nx14 : ((Int × Int) → Option (Int × Int))) (many_33 : Int) (most_34 : Int) : Option (Int × Int) :=
  nx14 (many_33, most_34)

def flow_size_b39 (deep_1 : Int) (slf : ((List Line) → Int → Option (Int × Int))) (y16 : Line) (t_38 : Int) (many_30 : Int) (most_31 : Int) (nx40 : (Int × Int) → Option (Int × Int)) : Option (Int × Int) :=
  (geti (([y16.body, y16.els] : List (List Line))) t_38).bind fun y42 =>
  (bif (decide ((y42.length : Int) > (0 : Int))) then
  (slf y42 ((w64 (deep_1 + (1 : Int))))).bind fun r47 =>
  nx40 ((w64 (many_30 + r47.1)), (if r47.2 > most_31 then r47.2 else most_31))
  else
  nx40 (many_30, most_31))

def flow_size_b13 (l_0 : List Line) (deep_1 : Int) (slf : ((List Line) → Int → Option (Int × Int))) (t_12 : Int) (many_4 : Int) (most_5 : Int) (nx14 : (Int × Int) → Option (Int × Int)) : Option (Int × Int) :=
  (geti l_0 t_12).bind fun y16 =>
  forK (σ := Int × Int) (fun i s nx_ => flow_size_b39 deep_1 slf y16 i s.1 s.2 nx_) (fun s => flow_size_k35 nx14 s.1 s.2) (((([y16.body, y16.els] : List (List Line))).length : Int) - (0 : Int)).toNat (0 : Int) (many_4, most_5)

def flow_size_s (slf : ((List Line) → Int → Option (Int × Int))) (l_0 : List Line) (deep_1 : Int) : Option (Int × Int) :=
  (bif ((decide ((l_0.length : Int) > (12 : Int))) || (decide (deep_1 > (4 : Int)))) then
  some (((l_0.length : Int), deep_1))
  else
  forK (σ := Int × Int) (fun i s nx_ => flow_size_b13 l_0 deep_1 slf i s.1 s.2 nx_) (fun s => flow_size_k9 s.1 s.2) ((l_0.length : Int) - (0 : Int)).toNat (0 : Int) (((l_0.length : Int)), deep_1))

def flow_size (fuel : Nat) (l_0 : List Line) (deep_1 : Int) : Option (Int × Int) :=
  match fuel with
  | 0 => none
  | fuel + 1 => flow_size_s (flow_size fuel) l_0 deep_1

set_option maxRecDepth 100000 in
set_option maxHeartbeats 4000000 in
theorem flow_size_ok (w0 : World) (m : Snap) (l : List HI) (fuel : Nat) : ∀ (ul_0 : Value) (l_0 : List Line) (hl_0 : RS rLine m ul_0 l_0) (deep_1 : Int) (r : Int × Int) (_ : flow_size fuel l_0 deep_1 = some r) (w : World) (_ : cX w0 ⟨m, l⟩ w),
    Calls Try.prog 59 [ul_0, .int .i64 deep_1].toArray w fun e w' => e = .returned (.tuple #[.int .i64 r.1, .int .i64 r.2]) ∧ cX w0 ⟨m, l⟩ w' := by
  induction fuel generalizing m l with
  | zero => intro ul_0 l_0 hl_0 deep_1 r hr; simp [flow_size] at hr
  | succ fuel ih =>
  intro ul_0 l_0 hl_0 deep_1 r hr w hc
  replace hr : flow_size_s (flow_size fuel) l_0 deep_1 = some r := hr
  obtain ⟨slf, hslf⟩ : ∃ f, f = flow_size fuel := ⟨_, rfl⟩
  rw [← hslf] at hr ih
  unfold flow_size_s at hr
  refine calls_of_Tr (N := 61) Try.func59 rfl hc rfl (Nat.le_of_ble_eq_true rfl) ?_
  refine Tr.seq ?_
  refine Tr.region_f (fun _ => false) ?_
  refine W.q rfl rfl rfl rfl (by decide) (Yd.as rfl .c) ?_
  refine W.q rfl rfl rfl rfl (by decide) (Yd.as rfl .c) ?_
  refine W.end ?_
  refine NX.sub (env' := [(0, _), (1, _)]) ⟨rfl, rfl, trivial⟩ ?_
  refine NX.then ?_
  refine Tr.seq ?_
  refine Tr.region_f (fun _ => false) ?_
  refine W.q rfl rfl rfl rfl (by decide) (Yd.mv rfl (.t rfl)) ?_
  refine W.q rfl rfl rfl rfl (by decide) (Yd.lenR hl_0 rfl Try.underlying37 (.t rfl)) ?_
  refine W.q rfl rfl rfl rfl (by decide) (Yd.mv rfl (.t rfl)) ?_
  refine W.q rfl rfl rfl rfl (by decide) (Yd.as rfl (.t rfl)) ?_
  refine W.q rfl rfl rfl rfl (by decide) (Yd.as rfl (.t rfl)) ?_
  refine W.end ?_
  refine NX.sub (env' := [(0, _), (1, _), (6, _), (7, _)]) ⟨rfl, rfl, rfl, rfl, trivial⟩ ?_
  refine NX.then ?_
  refine Tr.seq ?_
  refine Tr.seq ?_
  refine Tr.region_f (fun _ => false) ?_
  refine W.q rfl rfl rfl rfl (by decide) (Yd.mv rfl (.t rfl)) ?_
  refine W.q rfl rfl rfl rfl (by decide) (Yd.gtr rfl (.t rfl) .c) ?_
  refine W.q rfl rfl rfl rfl (by decide) (Yd.mv rfl (.t rfl)) ?_
  refine W.g rfl rfl rfl rfl rfl (.t rfl _) rfl (by decide) (fun hG => Yd.mv rfl (.t rfl)) ?_
  refine W.g rfl rfl rfl rfl rfl (.t rfl _) rfl (by decide) (fun hG => Yd.gtr rfl (.g rfl hG) .c) ?_
  refine W.q rfl rfl rfl rfl (by decide) (Yd.or rfl (.t rfl) .c rfl rfl) ?_
  refine W.end ?_
  refine NX.sub (env' := [(0, _), (1, _), (6, _), (7, _), (22, _)]) ⟨rfl, rfl, rfl, rfl, rfl, trivial⟩ ?_
  refine NX.then ?_
  refine Tr.cond (.t rfl) (fun hb => ?_) (fun hb => ?_)
  · have hr := cond_t hb hr
    refine Tr.seq ?_
    refine Tr.region_f (fun _ => false) ?_
    refine W.q rfl rfl rfl rfl (by decide) (Yd.mv rfl (.t rfl)) ?_
    refine W.q rfl rfl rfl rfl (by decide) (Yd.mv rfl (.t rfl)) ?_
    refine W.q rfl rfl rfl rfl (by decide) (Yd.as rfl (.t rfl)) ?_
    refine W.q rfl rfl rfl rfl (by decide) (Yd.as rfl (.t rfl)) ?_
    refine W.end ?_
    refine NX.sub (env' := [(4, _), (5, _)]) ⟨rfl, rfl, trivial⟩ ?_
    refine NX.then ?_
    refine Tr.ret' (RT.then ?_)
    refine res2 rfl rfl rfl ?_
    intro w hc
    cases hr
    exact ⟨rfl, hc⟩
  · have hr := cond_f hb hr
    refine Tr.skip' ?_
    refine NX.then ?_
    refine Tr.seq ?_
    refine Tr.seq ?_
    refine Tr.region_f (fun _ => false) ?_
    refine W.q rfl rfl rfl rfl (by decide) (Yd.mv rfl (.t rfl)) ?_
    refine W.q rfl rfl rfl rfl (by decide) (Yd.lenR hl_0 rfl Try.underlying37 (.t rfl)) ?_
    refine W.q rfl rfl rfl rfl (by decide) (Yd.mv rfl .c) ?_
    refine W.end ?_
    refine NX.sub (env' := [(1, _), (6, _), (7, _), (25, _), (26, _), (27, _)]) ⟨rfl, rfl, rfl, rfl, rfl, rfl, trivial⟩ ?_
    refine NX.then ?_
    refine Tr.join (S := fun env x => ∃ many_7 : Int, ∃ most_8 : Int, env = [(6, .int .i64 many_7), (7, .int .i64 most_8)] ∧ x = ⟨m, l⟩ ∧ flow_size_k9 many_7 most_8 = some r) ?_ (fun hk10 => ?_)
    · rintro _ _ ⟨many_7, most_8, rfl, rfl, hr⟩
      unfold flow_size_k9 at hr
      try dsimp only at hr
      refine NX.then ?_
      refine Tr.seq ?_
      refine Tr.region_f (fun _ => false) ?_
      refine W.q rfl rfl rfl rfl (by decide) (Yd.mv rfl (.t rfl)) ?_
      refine W.q rfl rfl rfl rfl (by decide) (Yd.mv rfl (.t rfl)) ?_
      refine W.q rfl rfl rfl rfl (by decide) (Yd.as rfl (.t rfl)) ?_
      refine W.q rfl rfl rfl rfl (by decide) (Yd.as rfl (.t rfl)) ?_
      refine W.end ?_
      refine NX.sub (env' := [(4, _), (5, _)]) ⟨rfl, rfl, trivial⟩ ?_
      refine NX.then ?_
      refine Tr.ret' ?_
      refine res2 rfl rfl rfl ?_
      intro w hc
      cases hr
      exact ⟨rfl, hc⟩
    have hlen11 := (hl_0).2.1
    refine Tr.block ?_
    refine Tr.sub (env' := [(1, _), (6, _), (7, _), (25, _), (26, _), (27, _)]) ⟨rfl, rfl, rfl, rfl, rfl, rfl, trivial⟩ ?_
    refine Tr.loop (S := fun n (z : Int × Int × Int) env x => match z with | (t_12, many_4, most_5) => env = [(1, .int .i64 deep_1), (6, .int .i64 many_4), (7, .int .i64 most_5), (25, ul_0), (26, .int .i64 ((l_0.length : Int))), (27, .int .i64 t_12)] ∧ x = ⟨m, l⟩ ∧ n = ((l_0.length : Int) - t_12).toNat ∧ 0 ≤ t_12 ∧ forK (σ := Int × Int) (fun i s nx_ => flow_size_b13 l_0 deep_1 slf i s.1 s.2 nx_) (fun s => flow_size_k9 s.1 s.2) n t_12 (many_4, most_5) = some r) _ ((0 : Int), (l_0.length : Int), deep_1) ⟨rfl, rfl, rfl, (by omega), hr⟩ ?_
    rintro n15 ⟨t_12, many_4, most_5⟩ env x ⟨rfl, rfl, hnt_12, h0t_12, hr⟩
    cases n15 with
    | zero =>
      simp only [forK] at hr
      refine Tr.seq ?_
      refine Tr.region_f (fun _ => false) ?_
      refine W.q rfl rfl rfl rfl (by decide) (Yd.lss rfl (.t rfl) (.t rfl)) ?_
      refine W.end ?_
      refine NX.sub (env' := [(1, _), (6, _), (7, _), (25, _), (26, _), (27, _), (28, _)]) ⟨rfl, rfl, rfl, rfl, rfl, rfl, rfl, trivial⟩ ?_
      refine NX.then ?_
      refine Tr.seq ?_
      refine Tr.cond (.t rfl) (fun hb => ?_) (fun hb => ?_)
      · exact absurd (hb.symm.trans (fr_end hnt_12)) (by decide)
      ·
        refine Tr.exit' (EX.then (EX.then (EX.block ?_)))
        refine NX.sub (env' := [(6, _), (7, _)]) ⟨rfl, rfl, trivial⟩ ?_
        exact hk10 _ _ ⟨_, _, rfl, rfl, hr⟩
    | succ n15 =>
      obtain ⟨nx14, hnx14, hr⟩ := forK_succ hr
      try dsimp only at hr
      unfold flow_size_b13 at hr
      try dsimp only at hr
      have hltt_12 := fr_bnd hnt_12
      refine Tr.seq ?_
      refine Tr.region_f (fun _ => false) ?_
      refine W.q rfl rfl rfl rfl (by decide) (Yd.lss rfl (.t rfl) (.t rfl)) ?_
      refine W.end ?_
      refine NX.sub (env' := [(1, _), (6, _), (7, _), (25, _), (26, _), (27, _), (28, _)]) ⟨rfl, rfl, rfl, rfl, rfl, rfl, rfl, trivial⟩ ?_
      refine NX.then ?_
      refine Tr.seq ?_
      refine Tr.cond (.t rfl) (fun hb => ?_) (fun hb => ?_)
      rotate_left
      · exact absurd (hb.symm.trans (fr_go hnt_12)) (by decide)
      ·
        refine Tr.skip' ?_
        refine NX.then ?_
        refine Tr.seq ?_
        refine Tr.block ?_
        refine Tr.seq ?_
        obtain ⟨y16, hy17, hr⟩ := bind_some hr
        refine Tr.region_f (fun i => Nat.beq i 2 || Nat.beq i 3) ?_
        refine W.q rfl rfl rfl rfl (by decide) (Yd.idxR hl_0 hy17 rfl Try.underlying37 SZ86 (.t rfl) (.t rfl)) ?_
        obtain ⟨_, ⟨u18, u20, rfl, hu19, hu21⟩, hat22⟩ := rLine_el hl_0 hy17
        refine W.q rfl rfl rfl rfl (by decide) (Yd.ldRs hat22 (.refl _) rfl ON86 US86 SZ86 rfl (.t rfl)) ?_
        refine W.e rfl rfl rfl rfl (by decide) (Ef.al rfl ZR86 rfl) ?_
        rintro _ _ ⟨b23, rfl, rfl⟩
        refine ⟨.inl rfl, ?_⟩
        refine W.cast (m' := m) (l' := hcells b23 [_, _, _, _, _, _, _] 86 :: l) rfl rfl ?_
        refine W.s rfl rfl rfl rfl (Ef.stBs (pos := 0) (us := [.int .i64 y16.kind, .int .i64 y16.to, .int .i64 y16.a, .int .i64 y16.b, .int .i64 y16.val, u18, u20]) (cs' := [_, _, _, _, _, _, _]) (.cons (On.lit rfl) (.cons (On.lit rfl) (.cons (On.lit rfl) (.cons (On.lit rfl) (.cons (On.lit rfl) (.cons (On.ro hu19) (.cons (On.ro hu21) .nil))))))) rfl rfl (.t rfl) (.t rfl) SZ86 rfl rfl (Nat.le_of_ble_eq_true rfl) rfl) ?_
        rintro _ _ ⟨rfl, rfl⟩
        refine ⟨.inl rfl, ?_⟩
        refine W.cast (m' := m) (l' := hcells b23 [_, _, _, _, _, _, _] 86 :: l) rfl rfl ?_
        refine W.end ?_
        refine NX.sub (env' := [(1, _), (6, _), (7, _), (25, _), (26, _), (27, _), (9, _)]) ⟨rfl, rfl, rfl, rfl, rfl, rfl, rfl, trivial⟩ ?_
        refine NX.then ?_
        refine Tr.seq ?_
        refine Tr.region_f (fun i => Nat.beq i 4) ?_
        refine W.q rfl rfl rfl rfl (by decide) (Yd.fldB rfl Try.underlying86 rfl SZ37 rfl (.t rfl)) ?_
        refine W.q rfl rfl rfl rfl (by decide) (Yd.ldB (pos := 0) rfl rfl rfl ON37 (.t rfl)) ?_
        refine W.q rfl rfl rfl rfl (by decide) (Yd.fldB rfl Try.underlying86 rfl SZ37 rfl (.t rfl)) ?_
        refine W.q rfl rfl rfl rfl (by decide) (Yd.ldB (pos := 0) rfl rfl rfl ON37 (.t rfl)) ?_
        refine W.e rfl rfl rfl rfl (by decide) (Ef.bsRs (us := [u18, u20]) (xss := [y16.body, y16.els]) (Rows.snoc (Rows.snoc (Rows.nil _ _) hu19) hu21) IF37 rfl Try.underlying105 rfl (.cons (.t rfl) (.cons (.t rfl) .nil)) rfl (by decide)) ?_
        rintro v25 _ rfl
        refine ⟨.inl rfl, ?_⟩
        refine W.cast (m' := m) (l' := hown 37 1 v25 _ _ :: hcells b23 [_, _, _, _, _, _, _] 86 :: l) rfl rfl ?_
        refine W.q rfl rfl rfl rfl (by decide) (Yd.lenO (p := 0) rfl rfl Try.underlying105 (.t rfl)) ?_
        refine W.q rfl rfl rfl rfl (by decide) (Yd.mv rfl .c) ?_
        refine W.end ?_
        refine NX.sub (env' := [(1, _), (6, _), (7, _), (25, _), (26, _), (27, _), (35, _), (36, _), (37, _)]) ⟨rfl, rfl, rfl, rfl, rfl, rfl, rfl, rfl, rfl, trivial⟩ ?_
        refine NX.drop (l' := hown 37 1 v25 _ _ :: l) (.cons_cons _ (.cons _ (.refl _))) ?_
        refine NX.then ?_
        refine Tr.join (S := fun env x => ∃ many_33 : Int, ∃ most_34 : Int, env = [(1, .int .i64 deep_1), (6, .int .i64 many_33), (7, .int .i64 most_34), (25, ul_0), (26, .int .i64 ((l_0.length : Int))), (27, .int .i64 t_12)] ∧ x = ⟨m, l⟩ ∧ flow_size_k35 nx14 many_33 most_34 = some r) ?_ (fun hk36 => ?_)
        · rintro _ _ ⟨many_33, most_34, rfl, rfl, hr⟩
          unfold flow_size_k35 at hr
          try dsimp only at hr
          refine NX.block ?_
          refine NX.then ?_
          refine Tr.region_f (fun _ => false) ?_
          refine W.q rfl rfl rfl rfl (by decide) (Yd.add rfl (.t rfl) .c) ?_
          refine W.q rfl rfl rfl rfl (by decide) (Yd.mv rfl (.t rfl)) ?_
          refine W.end ?_
          refine NX.sub (env' := [(1, _), (6, _), (7, _), (25, _), (26, _), (27, _)]) ⟨rfl, rfl, rfl, rfl, rfl, rfl, trivial⟩ ?_
          refine NX.sub (env' := [(1, _), (6, _), (7, _), (25, _), (26, _), (27, _)]) ⟨rfl, rfl, rfl, rfl, rfl, rfl, trivial⟩ ?_
          have hw := w64_id (n := t_12 + 1) (by omega) (by omega)
          exact NX.again n15 (t_12 + 1, many_33, most_34) (Nat.lt_succ_self _) ⟨(by rw [hw] <;> rfl), rfl, (fr_dec hnt_12), (by omega), ((hnx14 _).symm.trans hr)⟩
        refine Tr.lenO (pos := 0) rfl (fun hlen37 => ?_)
        refine Tr.block ?_
        refine Tr.sub (env' := [(1, _), (6, _), (7, _), (25, _), (26, _), (27, _), (35, _), (36, _), (37, _)]) ⟨rfl, rfl, rfl, rfl, rfl, rfl, rfl, rfl, rfl, trivial⟩ ?_
        refine Tr.loop (S := fun n (z : Int × Int × Int) env x => match z with | (t_38, many_30, most_31) => env = [(1, .int .i64 deep_1), (6, .int .i64 many_30), (7, .int .i64 most_31), (25, ul_0), (26, .int .i64 ((l_0.length : Int))), (27, .int .i64 t_12), (35, v25), (36, .int .i64 (((([y16.body, y16.els] : List (List Line))).length : Int))), (37, .int .i64 t_38)] ∧ x = ⟨m, hown 37 1 v25 (([y16.body, y16.els] : List (List Line))).length ([u18, u20] : List Value) :: l⟩ ∧ n = (((([y16.body, y16.els] : List (List Line))).length : Int) - t_38).toNat ∧ 0 ≤ t_38 ∧ forK (σ := Int × Int) (fun i s nx_ => flow_size_b39 deep_1 slf y16 i s.1 s.2 nx_) (fun s => flow_size_k35 nx14 s.1 s.2) n t_38 (many_30, most_31) = some r) _ ((0 : Int), many_4, most_5) ⟨rfl, rfl, rfl, (by omega), hr⟩ ?_
        rintro n41 ⟨t_38, many_30, most_31⟩ env x ⟨rfl, rfl, hnt_38, h0t_38, hr⟩
        cases n41 with
        | zero =>
          simp only [forK] at hr
          refine Tr.seq ?_
          refine Tr.region_f (fun _ => false) ?_
          refine W.q rfl rfl rfl rfl (by decide) (Yd.lss rfl (.t rfl) (.t rfl)) ?_
          refine W.end ?_
          refine NX.sub (env' := [(1, _), (6, _), (7, _), (25, _), (26, _), (27, _), (35, _), (36, _), (37, _), (38, _)]) ⟨rfl, rfl, rfl, rfl, rfl, rfl, rfl, rfl, rfl, rfl, trivial⟩ ?_
          refine NX.then ?_
          refine Tr.seq ?_
          refine Tr.cond (.t rfl) (fun hb => ?_) (fun hb => ?_)
          · exact absurd (hb.symm.trans (fr_end hnt_38)) (by decide)
          ·
            refine Tr.exit' (EX.then (EX.then (EX.block ?_)))
            refine NX.sub (env' := [(1, _), (6, _), (7, _), (25, _), (26, _), (27, _)]) ⟨rfl, rfl, rfl, rfl, rfl, rfl, trivial⟩ ?_
            refine NX.drop (l' := l) (.cons _ (.refl _)) ?_
            exact hk36 _ _ ⟨_, _, rfl, rfl, hr⟩
        | succ n41 =>
          obtain ⟨nx40, hnx40, hr⟩ := forK_succ hr
          try dsimp only at hr
          unfold flow_size_b39 at hr
          try dsimp only at hr
          have hltt_38 := fr_bnd hnt_38
          refine Tr.seq ?_
          refine Tr.region_f (fun _ => false) ?_
          refine W.q rfl rfl rfl rfl (by decide) (Yd.lss rfl (.t rfl) (.t rfl)) ?_
          refine W.end ?_
          refine NX.sub (env' := [(1, _), (6, _), (7, _), (25, _), (26, _), (27, _), (35, _), (36, _), (37, _), (38, _)]) ⟨rfl, rfl, rfl, rfl, rfl, rfl, rfl, rfl, rfl, rfl, trivial⟩ ?_
          refine NX.then ?_
          refine Tr.seq ?_
          refine Tr.cond (.t rfl) (fun hb => ?_) (fun hb => ?_)
          rotate_left
          · exact absurd (hb.symm.trans (fr_go hnt_38)) (by decide)
          ·
            refine Tr.skip' ?_
            refine NX.then ?_
            refine Tr.seq ?_
            refine Tr.block ?_
            refine Tr.seq ?_
            obtain ⟨y42, hy43, hr⟩ := bind_some hr
            refine Tr.region_f (fun _ => false) ?_
            refine W.q rfl rfl rfl rfl (by decide) (Yd.idxO (pos := 0) (xs := ([y16.body, y16.els] : List (List Line))) rfl hy43 rfl Try.underlying105 SZ37 (.t rfl) (.t rfl)) ?_
            obtain ⟨u44, hu45, hu46⟩ := Rows.get (Rows.snoc (Rows.snoc (Rows.nil _ _) hu19) hu21) hy43
            refine W.q rfl rfl rfl rfl (by decide) (Yd.ldU (pos := 0) rfl hu45 rfl ON37 (.t rfl)) ?_
            refine W.q rfl rfl rfl rfl (by decide) (Yd.as rfl (.t rfl)) ?_
            refine W.end ?_
            refine NX.sub (env' := [(1, _), (6, _), (7, _), (25, _), (26, _), (27, _), (35, _), (36, _), (37, _), (11, _)]) ⟨rfl, rfl, rfl, rfl, rfl, rfl, rfl, rfl, rfl, rfl, trivial⟩ ?_
            refine NX.then ?_
            refine Tr.seq ?_
            refine Tr.region_f (fun _ => false) ?_
            refine W.q rfl rfl rfl rfl (by decide) (Yd.mv rfl (.t rfl)) ?_
            refine W.q rfl rfl rfl rfl (by decide) (Yd.lenR hu46 rfl Try.underlying37 (.t rfl)) ?_
            refine W.q rfl rfl rfl rfl (by decide) (Yd.gtr rfl (.t rfl) .c) ?_
            refine W.end ?_
            refine NX.sub (env' := [(1, _), (6, _), (7, _), (25, _), (26, _), (27, _), (35, _), (36, _), (37, _), (11, _), (43, _)]) ⟨rfl, rfl, rfl, rfl, rfl, rfl, rfl, rfl, rfl, rfl, rfl, trivial⟩ ?_
            refine NX.then ?_
            refine Tr.cond (.t rfl) (fun hb => ?_) (fun hb => ?_)
            · have hr := cond_t hb hr
              refine Tr.seq ?_
              obtain ⟨r47, hr48, hr⟩ := bind_some hr
              refine Tr.region_f (fun _ => false) ?_
              refine W.q rfl rfl rfl rfl (by decide) (Yd.mv rfl (.t rfl)) ?_
              refine W.q rfl rfl rfl rfl (by decide) (Yd.mv rfl (.t rfl)) ?_
              refine W.q rfl rfl rfl rfl (by decide) (Yd.add rfl (.t rfl) .c) ?_
              refine W.q rfl rfl rfl rfl (by decide) (Yd.call (v := .tuple #[.int .i64 r47.1, .int .i64 r47.2]) rfl Try.func59 rfl rfl (.cons (.t rfl) (.cons (.t rfl) .nil)) (fun x' hx w hw => ih x'.m x'.l _ _ (hu46.mono hx.1) ((w64 (deep_1 + (1 : Int)))) _ hr48 w hw)) ?_
              refine W.q rfl rfl rfl rfl (by decide) (Yd.mv rfl (.t rfl)) ?_
              refine W.q rfl rfl rfl rfl (by decide) (Yd.ext rfl (.t rfl) rfl) ?_
              refine W.q rfl rfl rfl rfl (by decide) (Yd.ext rfl (.t rfl) rfl) ?_
              refine W.q rfl rfl rfl rfl (by decide) (Yd.as rfl (.t rfl)) ?_
              refine W.q rfl rfl rfl rfl (by decide) (Yd.as rfl (.t rfl)) ?_
              refine W.end ?_
              refine NX.sub (env' := [(1, _), (6, _), (7, _), (25, _), (26, _), (27, _), (35, _), (36, _), (37, _), (12, _), (13, _)]) ⟨rfl, rfl, rfl, rfl, rfl, rfl, rfl, rfl, rfl, rfl, rfl, trivial⟩ ?_
              refine NX.then ?_
              refine Tr.region_f (fun _ => false) ?_
              refine W.q rfl rfl rfl rfl (by decide) (Yd.mv rfl (.t rfl)) ?_
              refine W.q rfl rfl rfl rfl (by decide) (Yd.mv rfl (.t rfl)) ?_
              refine W.q rfl rfl rfl rfl (by decide) (Yd.add rfl (.t rfl) (.t rfl)) ?_
              refine W.q rfl rfl rfl rfl (by decide) (Yd.mv rfl (.t rfl)) ?_
              refine W.q rfl rfl rfl rfl (by decide) (Yd.mv rfl (.t rfl)) ?_
              refine W.q rfl rfl rfl rfl (by decide) (Yd.max2 rfl (.t rfl) (.t rfl)) ?_
              refine W.q rfl rfl rfl rfl (by decide) (Yd.as rfl (.t rfl)) ?_
              refine W.q rfl rfl rfl rfl (by decide) (Yd.as rfl (.t rfl)) ?_
              refine W.end ?_
              refine NX.sub (env' := [(1, _), (6, _), (7, _), (25, _), (26, _), (27, _), (35, _), (36, _), (37, _)]) ⟨rfl, rfl, rfl, rfl, rfl, rfl, rfl, rfl, rfl, trivial⟩ ?_
              refine NX.block ?_
              refine NX.then ?_
              refine Tr.region_f (fun _ => false) ?_
              refine W.q rfl rfl rfl rfl (by decide) (Yd.add rfl (.t rfl) .c) ?_
              refine W.q rfl rfl rfl rfl (by decide) (Yd.mv rfl (.t rfl)) ?_
              refine W.end ?_
              refine NX.sub (env' := [(1, _), (6, _), (7, _), (25, _), (26, _), (27, _), (35, _), (36, _), (37, _)]) ⟨rfl, rfl, rfl, rfl, rfl, rfl, rfl, rfl, rfl, trivial⟩ ?_
              refine NX.sub (env' := [(1, _), (6, _), (7, _), (25, _), (26, _), (27, _), (35, _), (36, _), (37, _)]) ⟨rfl, rfl, rfl, rfl, rfl, rfl, rfl, rfl, rfl, trivial⟩ ?_
              have hw := w64_id (n := t_38 + 1) (by omega) (by omega)
              exact NX.again n41 (t_38 + 1, (w64 (many_30 + r47.1)), (if r47.2 > most_31 then r47.2 else most_31)) (Nat.lt_succ_self _) ⟨(by rw [hw] <;> rfl), rfl, (fr_dec hnt_38), (by omega), ((hnx40 _).symm.trans hr)⟩
            · have hr := cond_f hb hr
              refine Tr.skip' ?_
              refine NX.block ?_
              refine NX.then ?_
              refine Tr.region_f (fun _ => false) ?_
              refine W.q rfl rfl rfl rfl (by decide) (Yd.add rfl (.t rfl) .c) ?_
              refine W.q rfl rfl rfl rfl (by decide) (Yd.mv rfl (.t rfl)) ?_
              refine W.end ?_
              refine NX.sub (env' := [(1, _), (6, _), (7, _), (25, _), (26, _), (27, _), (35, _), (36, _), (37, _)]) ⟨rfl, rfl, rfl, rfl, rfl, rfl, rfl, rfl, rfl, trivial⟩ ?_
              refine NX.sub (env' := [(1, _), (6, _), (7, _), (25, _), (26, _), (27, _), (35, _), (36, _), (37, _)]) ⟨rfl, rfl, rfl, rfl, rfl, rfl, rfl, rfl, rfl, trivial⟩ ?_
              have hw := w64_id (n := t_38 + 1) (by omega) (by omega)
              exact NX.again n41 (t_38 + 1, many_30, most_31) (Nat.lt_succ_self _) ⟨(by rw [hw] <;> rfl), rfl, (fr_dec hnt_38), (by omega), ((hnx40 _).symm.trans hr)⟩

def flow_lines_c1 (i_0 : Int) (cp_0 : Int) : Option (Bool) :=
  some (((decide (i_0 ≥ (0 : Int))) && (decide (i_0 < cp_0))))

set_option maxRecDepth 100000 in
set_option maxHeartbeats 4000000 in
theorem flow_lines_c1_ok (w0 : World) (m : Snap) (l : List HI) (i_0 : Int) (fp0 fb0 : Nat) (cp_0 : Int) (hfp0 : l[fp0]? = some (hcells fb0 [.int .i64 cp_0] 3)) (r : Bool) (hr : flow_lines_c1 i_0 cp_0 = some r) (w : World) (hc : cX w0 ⟨m, l⟩ w) :
    Calls Try.prog 69 [.int .i64 i_0, bp fb0 0].toArray w fun e w' => e = .returned (.bool r) ∧ cX w0 ⟨m, l⟩ w' := by
  unfold flow_lines_c1 at hr
  refine calls_of_Tr (N := 11) Try.func69 rfl hc rfl (Nat.le_of_ble_eq_true rfl) ?_
  refine Tr.seq ?_
  refine Tr.region_f (fun _ => false) ?_
  refine W.q rfl rfl rfl rfl (by decide) (Yd.as rfl .c) ?_
  refine W.end ?_
  refine NX.sub (env' := [(0, _), (1, _)]) ⟨rfl, rfl, trivial⟩ ?_
  refine NX.then ?_
  refine Tr.seq ?_
  refine Tr.region_f (fun _ => false) ?_
  refine W.q rfl rfl rfl rfl (by decide) (Yd.mv rfl (.t rfl)) ?_
  refine W.q rfl rfl rfl rfl (by decide) (Yd.geq rfl (.t rfl) .c) ?_
  refine W.q rfl rfl rfl rfl (by decide) (Yd.mv rfl (.t rfl)) ?_
  refine W.g rfl rfl rfl rfl rfl (.t rfl _) rfl (by decide) (fun hG => Yd.mv rfl (.t rfl)) ?_
  refine W.g rfl rfl rfl rfl rfl (.t rfl _) rfl (by decide) (fun hG => Yd.ldB (pos := fp0) hfp0 rfl rfl ON3 (.t rfl)) ?_
  refine W.g rfl rfl rfl rfl rfl (.t rfl _) rfl (by decide) (fun hG => Yd.lss rfl (.g rfl hG) (.g rfl hG)) ?_
  refine W.q rfl rfl rfl rfl (by decide) (Yd.and rfl (.t rfl) .c rfl rfl) ?_
  refine W.q rfl rfl rfl rfl (by decide) (Yd.as rfl (.t rfl)) ?_
  refine W.end ?_
  refine NX.sub (env' := [(3, _)]) ⟨rfl, trivial⟩ ?_
  refine NX.then ?_
  refine Tr.ret' ?_
  refine res1 rfl rfl ?_
  intro w hc
  cases hr
  exact ⟨rfl, hc⟩

def flow_lines_k5 : Option (Int) :=
  some ((0 : Int))

def flow_lines_k31 (nx10 : (Unit → Option (Int))) : Option (Int) :=
  nx10 ()

def flow_lines_b35 (n_0 : Int) (slf : (Int → (List Line) → Option (Int))) (y12 : Line) (t_34 : Int) (nx36 : Unit → Option (Int)) : Option (Int) :=
  (geti (([y12.body, y12.els] : List (List Line))) t_34).bind fun y38 =>
  (slf n_0 y38).bind fun r43 =>
  (bif (r43 != (0 : Int)) then
  some r43
  else
  nx36 ())

def flow_lines_k25 (n_0 : Int) (slf : (Int → (List Line) → Option (Int))) (nx10 : (Unit → Option (Int))) (y12 : Line) (t_24 : Bool) : Option (Int) :=
  (bif t_24 then
  some ((2 : Int))
  else
  forK (σ := Unit) (fun i s nx_ => flow_lines_b35 n_0 slf y12 i nx_) (fun _ => flow_lines_k31 nx10) (((([y12.body, y12.els] : List (List Line))).length : Int) - (0 : Int)).toNat (0 : Int) ())

def flow_lines_b9 (n_0 : Int) (l_1 : List Line) (slf : (Int → (List Line) → Option (Int))) (t_8 : Int) (nx10 : Unit → Option (Int)) : Option (Int) :=
  (geti l_1 t_8).bind fun y12 =>
  (bif ((decide (y12.kind < (1 : Int))) || (decide (y12.kind > (3 : Int)))) then
  some ((6 : Int))
  else
  bif (!((y12.kind == (1 : Int)) == true) || (flow_lines_c1 y12.to n_0).isSome) then
  bif (!((((y12.kind == (1 : Int)) == true) && ((!(((flow_lines_c1 y12.to n_0).getD false))) == false)) && ((y12.a != (-1 : Int)) == true)) || (flow_lines_c1 y12.a n_0).isSome) then
  bif (!((((y12.kind == (1 : Int)) == true) && (((!(((flow_lines_c1 y12.to n_0).getD false))) || ((y12.a != (-1 : Int)) && (!(((flow_lines_c1 y12.a n_0).getD false))))) == false)) && ((y12.b != (-1 : Int)) == true)) || (flow_lines_c1 y12.b n_0).isSome) then
  (bif ((y12.kind == (1 : Int)) && (((!(((flow_lines_c1 y12.to n_0).getD false))) || ((y12.a != (-1 : Int)) && (!(((flow_lines_c1 y12.a n_0).getD false))))) || ((y12.b != (-1 : Int)) && (!(((flow_lines_c1 y12.b n_0).getD false)))))) then
  flow_lines_k25 n_0 slf nx10 y12 (((y12.kind == (1 : Int)) && (((!(((flow_lines_c1 y12.to n_0).getD false))) || ((y12.a != (-1 : Int)) && (!(((flow_lines_c1 y12.a n_0).getD false))))) || ((y12.b != (-1 : Int)) && (!(((flow_lines_c1 y12.b n_0).getD false)))))))
  else
  bif (!((y12.kind != (1 : Int)) == true) || (flow_lines_c1 y12.a n_0).isSome) then
  flow_lines_k25 n_0 slf nx10 y12 (((y12.kind != (1 : Int)) && (!(((flow_lines_c1 y12.a n_0).getD false))))) else none) else none else none else none)

def flow_lines_s (slf : (Int → (List Line) → Option (Int))) (n_0 : Int) (l_1 : List Line) : Option (Int) :=
  forK (σ := Unit) (fun i s nx_ => flow_lines_b9 n_0 l_1 slf i nx_) (fun _ => flow_lines_k5) ((l_1.length : Int) - (0 : Int)).toNat (0 : Int) ()

def flow_lines (fuel : Nat) (n_0 : Int) (l_1 : List Line) : Option (Int) :=
  match fuel with
  | 0 => none
  | fuel + 1 => flow_lines_s (flow_lines fuel) n_0 l_1

set_option maxRecDepth 100000 in
set_option maxHeartbeats 4000000 in
theorem flow_lines_ok (w0 : World) (m : Snap) (l : List HI) (fuel : Nat) : ∀ (n_0 : Int) (ul_1 : Value) (l_1 : List Line) (hl_1 : RS rLine m ul_1 l_1) (r : Int) (_ : flow_lines fuel n_0 l_1 = some r) (w : World) (_ : cX w0 ⟨m, l⟩ w),
    Calls Try.prog 60 [.int .i64 n_0, ul_1].toArray w fun e w' => e = .returned (.int .i64 r) ∧ cX w0 ⟨m, l⟩ w' := by
  induction fuel generalizing m l with
  | zero => intro n_0 ul_1 l_1 hl_1 r hr; simp [flow_lines] at hr
  | succ fuel ih =>
  intro n_0 ul_1 l_1 hl_1 r hr w hc
  replace hr : flow_lines_s (flow_lines fuel) n_0 l_1 = some r := hr
  obtain ⟨slf, hslf⟩ : ∃ f, f = flow_lines fuel := ⟨_, rfl⟩
  rw [← hslf] at hr ih
  unfold flow_lines_s at hr
  refine calls_of_Tr (N := 90) Try.func60 rfl hc rfl (Nat.le_of_ble_eq_true rfl) ?_
  refine Tr.seq ?_
  refine Tr.region_f (fun i => Nat.beq i 0) ?_
  refine W.e rfl rfl rfl rfl (by decide) (Ef.bx rfl (.t rfl) rfl) ?_
  rintro _ _ ⟨b1, rfl, rfl⟩
  refine ⟨.inl rfl, ?_⟩
  refine W.cast (m' := m) (l' := hcells b1 [_] 3 :: l) rfl rfl ?_
  refine W.q rfl rfl rfl rfl (by decide) (Yd.as rfl .c) ?_
  refine W.end ?_
  refine NX.sub (env' := [(1, _), (2, _)]) ⟨rfl, rfl, trivial⟩ ?_
  refine NX.then ?_
  refine Tr.seq ?_
  refine Tr.region_f (fun _ => false) ?_
  refine W.q rfl rfl rfl rfl (by decide) (Yd.mkf rfl (.cons (.t rfl) .nil)) ?_
  refine W.q rfl rfl rfl rfl (by decide) (Yd.as rfl (.t rfl)) ?_
  refine W.end ?_
  refine NX.sub (env' := [(1, _), (2, _), (5, _)]) ⟨rfl, rfl, rfl, trivial⟩ ?_
  refine NX.then ?_
  refine Tr.seq ?_
  refine Tr.seq ?_
  refine Tr.region_f (fun _ => false) ?_
  refine W.q rfl rfl rfl rfl (by decide) (Yd.mv rfl (.t rfl)) ?_
  refine W.q rfl rfl rfl rfl (by decide) (Yd.lenR hl_1 rfl Try.underlying37 (.t rfl)) ?_
  refine W.q rfl rfl rfl rfl (by decide) (Yd.mv rfl .c) ?_
  refine W.end ?_
  refine NX.sub (env' := [(2, _), (5, _), (12, _), (13, _), (14, _)]) ⟨rfl, rfl, rfl, rfl, rfl, trivial⟩ ?_
  refine NX.then ?_
  refine Tr.join (S := fun env x => env = [] ∧ x = ⟨m, l⟩ ∧ flow_lines_k5 = some r) ?_ (fun hk6 => ?_)
  · rintro _ _ ⟨rfl, rfl, hr⟩
    unfold flow_lines_k5 at hr
    try dsimp only at hr
    refine NX.then ?_
    refine Tr.seq ?_
    refine Tr.region_f (fun _ => false) ?_
    refine W.q rfl rfl rfl rfl (by decide) (Yd.as rfl .c) ?_
    refine W.end ?_
    refine NX.sub (env' := [(4, _)]) ⟨rfl, trivial⟩ ?_
    refine NX.then ?_
    refine Tr.ret' ?_
    refine res1 rfl rfl ?_
    intro w hc
    cases hr
    exact ⟨rfl, hc⟩
  have hlen7 := (hl_1).2.1
  refine Tr.block ?_
  refine Tr.sub (env' := [(2, _), (5, _), (12, _), (13, _), (14, _)]) ⟨rfl, rfl, rfl, rfl, rfl, trivial⟩ ?_
  refine Tr.loop (S := fun n (z : Int × Unit) env x => match z with | (t_8, _) => env = [(2, bp b1 0), (5, .func (.func 69) #[] #[bp b1 0]), (12, ul_1), (13, .int .i64 ((l_1.length : Int))), (14, .int .i64 t_8)] ∧ x = ⟨m, hcells b1 [.int .i64 n_0] 3 :: l⟩ ∧ n = ((l_1.length : Int) - t_8).toNat ∧ 0 ≤ t_8 ∧ forK (σ := Unit) (fun i s nx_ => flow_lines_b9 n_0 l_1 slf i nx_) (fun _ => flow_lines_k5) n t_8 () = some r) _ ((0 : Int), ()) ⟨rfl, rfl, rfl, (by omega), hr⟩ ?_
  rintro n11 ⟨t_8, _⟩ env x ⟨rfl, rfl, hnt_8, h0t_8, hr⟩
  cases n11 with
  | zero =>
    simp only [forK] at hr
    refine Tr.seq ?_
    refine Tr.region_f (fun _ => false) ?_
    refine W.q rfl rfl rfl rfl (by decide) (Yd.lss rfl (.t rfl) (.t rfl)) ?_
    refine W.end ?_
    refine NX.sub (env' := [(2, _), (5, _), (12, _), (13, _), (14, _), (15, _)]) ⟨rfl, rfl, rfl, rfl, rfl, rfl, trivial⟩ ?_
    refine NX.then ?_
    refine Tr.seq ?_
    refine Tr.cond (.t rfl) (fun hb => ?_) (fun hb => ?_)
    · exact absurd (hb.symm.trans (fr_end hnt_8)) (by decide)
    ·
      refine Tr.exit' (EX.then (EX.then (EX.block ?_)))
      refine NX.sub (env' := []) trivial ?_
      refine NX.drop (l' := l) (.cons _ (.refl _)) ?_
      exact hk6 _ _ ⟨rfl, rfl, hr⟩
  | succ n11 =>
    obtain ⟨nx10, hnx10, hr⟩ := forK_succ hr
    try dsimp only at hr
    unfold flow_lines_b9 at hr
    try dsimp only at hr
    have hltt_8 := fr_bnd hnt_8
    refine Tr.seq ?_
    refine Tr.region_f (fun _ => false) ?_
    refine W.q rfl rfl rfl rfl (by decide) (Yd.lss rfl (.t rfl) (.t rfl)) ?_
    refine W.end ?_
    refine NX.sub (env' := [(2, _), (5, _), (12, _), (13, _), (14, _), (15, _)]) ⟨rfl, rfl, rfl, rfl, rfl, rfl, trivial⟩ ?_
    refine NX.then ?_
    refine Tr.seq ?_
    refine Tr.cond (.t rfl) (fun hb => ?_) (fun hb => ?_)
    rotate_left
    · exact absurd (hb.symm.trans (fr_go hnt_8)) (by decide)
    ·
      refine Tr.skip' ?_
      refine NX.then ?_
      refine Tr.seq ?_
      refine Tr.block ?_
      refine Tr.seq ?_
      obtain ⟨y12, hy13, hr⟩ := bind_some hr
      refine Tr.region_f (fun i => Nat.beq i 2 || Nat.beq i 3) ?_
      refine W.q rfl rfl rfl rfl (by decide) (Yd.idxR hl_1 hy13 rfl Try.underlying37 SZ86 (.t rfl) (.t rfl)) ?_
      obtain ⟨_, ⟨u14, u16, rfl, hu15, hu17⟩, hat18⟩ := rLine_el hl_1 hy13
      refine W.q rfl rfl rfl rfl (by decide) (Yd.ldRs hat18 (.refl _) rfl ON86 US86 SZ86 rfl (.t rfl)) ?_
      refine W.e rfl rfl rfl rfl (by decide) (Ef.al rfl ZR86 rfl) ?_
      rintro _ _ ⟨b19, rfl, rfl⟩
      refine ⟨.inl rfl, ?_⟩
      refine W.cast (m' := m) (l' := hcells b19 [_, _, _, _, _, _, _] 86 :: hcells b1 [_] 3 :: l) rfl rfl ?_
      refine W.s rfl rfl rfl rfl (Ef.stBs (pos := 0) (us := [.int .i64 y12.kind, .int .i64 y12.to, .int .i64 y12.a, .int .i64 y12.b, .int .i64 y12.val, u14, u16]) (cs' := [_, _, _, _, _, _, _]) (.cons (On.lit rfl) (.cons (On.lit rfl) (.cons (On.lit rfl) (.cons (On.lit rfl) (.cons (On.lit rfl) (.cons (On.ro hu15) (.cons (On.ro hu17) .nil))))))) rfl rfl (.t rfl) (.t rfl) SZ86 rfl rfl (Nat.le_of_ble_eq_true rfl) rfl) ?_
      rintro _ _ ⟨rfl, rfl⟩
      refine ⟨.inl rfl, ?_⟩
      refine W.cast (m' := m) (l' := hcells b19 [_, _, _, _, _, _, _] 86 :: hcells b1 [_] 3 :: l) rfl rfl ?_
      refine W.end ?_
      refine NX.sub (env' := [(2, _), (5, _), (12, _), (13, _), (14, _), (7, _)]) ⟨rfl, rfl, rfl, rfl, rfl, rfl, trivial⟩ ?_
      refine NX.then ?_
      refine Tr.seq ?_
      refine Tr.block ?_
      refine Tr.seq ?_
      refine Tr.region_f (fun _ => false) ?_
      refine W.q rfl rfl rfl rfl (by decide) (Yd.fldB rfl Try.underlying86 rfl SZ3 rfl (.t rfl)) ?_
      refine W.q rfl rfl rfl rfl (by decide) (Yd.ldB (pos := 0) rfl rfl rfl ON3 (.t rfl)) ?_
      refine W.q rfl rfl rfl rfl (by decide) (Yd.lss rfl (.t rfl) .c) ?_
      refine W.q rfl rfl rfl rfl (by decide) (Yd.mv rfl (.t rfl)) ?_
      refine W.g rfl rfl rfl rfl rfl (.t rfl _) rfl (by decide) (fun hG => Yd.fldB rfl Try.underlying86 rfl SZ3 rfl (.t rfl)) ?_
      refine W.g rfl rfl rfl rfl rfl (.t rfl _) rfl (by decide) (fun hG => Yd.ldB (pos := 0) rfl rfl rfl ON3 (.g rfl hG)) ?_
      refine W.g rfl rfl rfl rfl rfl (.t rfl _) rfl (by decide) (fun hG => Yd.gtr rfl (.g rfl hG) .c) ?_
      refine W.q rfl rfl rfl rfl (by decide) (Yd.or rfl (.t rfl) .c rfl rfl) ?_
      refine W.q rfl rfl rfl rfl (by decide) (Yd.as rfl (.t rfl)) ?_
      refine W.end ?_
      refine NX.sub (env' := [(2, _), (5, _), (12, _), (13, _), (14, _), (7, _), (18, _)]) ⟨rfl, rfl, rfl, rfl, rfl, rfl, rfl, trivial⟩ ?_
      refine NX.then ?_
      refine Tr.cond (.t rfl) (fun hb => ?_) (fun hb => ?_)
      · have hr := cond_t hb hr
        refine Tr.seq ?_
        refine Tr.region_f (fun _ => false) ?_
        refine W.q rfl rfl rfl rfl (by decide) (Yd.as rfl .c) ?_
        refine W.end ?_
        refine NX.sub (env' := [(4, _)]) ⟨rfl, trivial⟩ ?_
        refine NX.drop (l' := l) (.cons _ (.cons _ (.refl _))) ?_
        refine NX.then ?_
        refine Tr.ret' (RT.block (RT.then (RT.block (RT.then (RT.then (RT.block (RT.then ?_)))))))
        refine res1 rfl rfl ?_
        intro w hc
        cases hr
        exact ⟨rfl, hc⟩
      · have hr := cond_f hb hr
        refine Tr.seq ?_
        refine Tr.seq ?_
        obtain ⟨ha21, hr⟩ := guard_some hr
        obtain ⟨ha22, hr⟩ := guard_some hr
        obtain ⟨ha23, hr⟩ := guard_some hr
        refine Tr.region_f (fun _ => false) ?_
        refine W.q rfl rfl rfl rfl (by decide) (Yd.fldB rfl Try.underlying86 rfl SZ3 rfl (.t rfl)) ?_
        refine W.q rfl rfl rfl rfl (by decide) (Yd.ldB (pos := 0) rfl rfl rfl ON3 (.t rfl)) ?_
        refine W.q rfl rfl rfl rfl (by decide) (Yd.eql rfl (.t rfl) .c) ?_
        refine W.q rfl rfl rfl rfl (by decide) (Yd.mv rfl (.t rfl)) ?_
        refine W.g rfl rfl rfl rfl rfl (.t rfl _) rfl (by decide) (fun hG => Yd.mv rfl (.t rfl)) ?_
        refine W.g rfl rfl rfl rfl rfl (.t rfl _) rfl (by decide) (fun hG => Yd.fldB rfl Try.underlying86 rfl SZ3 rfl (.t rfl)) ?_
        refine W.g rfl rfl rfl rfl rfl (.t rfl _) rfl (by decide) (fun hG => Yd.ldB (pos := 0) rfl rfl rfl ON3 (.g rfl hG)) ?_
        refine W.g rfl rfl rfl rfl rfl (.t rfl _) rfl (by decide) (fun hG => Yd.callC (v := .bool ((((flow_lines_c1 y12.to n_0).getD false)))) rfl (.g rfl hG) Try.func69 rfl rfl (.cons (.g rfl hG) .nil) (by intro x' hx w hw; obtain ⟨p5, hp5⟩ := hx.at (p := 1) rfl; exact flow_lines_c1_ok w0 x'.m x'.l y12.to p5 _ n_0 hp5 _ (gd_get (d := false) ha21 hG) w hw)) ?_
        refine W.g rfl rfl rfl rfl rfl (.t rfl _) rfl (by decide) (fun hG => Yd.not rfl (.g rfl hG)) ?_
        refine W.g rfl rfl rfl rfl rfl (.t rfl _) rfl (by decide) (fun hG => Yd.mv rfl (.g rfl hG)) ?_
        refine W.g rfl rfl rfl rfl rfl (.g rfl _) rfl (by decide) (fun hG => Yd.fldB rfl Try.underlying86 rfl SZ3 rfl (.t rfl)) ?_
        refine W.g rfl rfl rfl rfl rfl (.g rfl _) rfl (by decide) (fun hG => Yd.ldB (pos := 0) rfl rfl rfl ON3 (.g rfl hG)) ?_
        refine W.g rfl rfl rfl rfl rfl (.g rfl _) rfl (by decide) (fun hG => Yd.neq rfl (.g rfl hG) .c) ?_
        refine W.g rfl rfl rfl rfl rfl (.g rfl _) rfl (by decide) (fun hG => Yd.mv rfl (.g rfl hG)) ?_
        refine W.g rfl rfl rfl rfl rfl (.g rfl _) rfl (by decide) (fun hG => Yd.mv rfl (.t rfl)) ?_
        refine W.g rfl rfl rfl rfl rfl (.g rfl _) rfl (by decide) (fun hG => Yd.fldB rfl Try.underlying86 rfl SZ3 rfl (.t rfl)) ?_
        refine W.g rfl rfl rfl rfl rfl (.g rfl _) rfl (by decide) (fun hG => Yd.ldB (pos := 0) rfl rfl rfl ON3 (.g rfl hG)) ?_
        refine W.g rfl rfl rfl rfl rfl (.g rfl _) rfl (by decide) (fun hG => Yd.callC (v := .bool ((((flow_lines_c1 y12.a n_0).getD false)))) rfl (.g rfl hG) Try.func69 rfl rfl (.cons (.g rfl hG) .nil) (by intro x' hx w hw; obtain ⟨p5, hp5⟩ := hx.at (p := 1) rfl; exact flow_lines_c1_ok w0 x'.m x'.l y12.a p5 _ n_0 hp5 _ (gd_get (d := false) ha22 hG) w hw)) ?_
        refine W.g rfl rfl rfl rfl rfl (.g rfl _) rfl (by decide) (fun hG => Yd.not rfl (.g rfl hG)) ?_
        refine W.g rfl rfl rfl rfl rfl (.g rfl _) rfl (by decide) (fun hG => Yd.andG rfl (.g rfl hG) .c rfl rfl hG) ?_
        refine W.g rfl rfl rfl rfl rfl (.t rfl _) rfl (by decide) (fun hG => Yd.orG rfl (.g rfl hG) .c rfl rfl hG) ?_
        refine W.g rfl rfl rfl rfl rfl (.t rfl _) rfl (by decide) (fun hG => Yd.mv rfl (.g rfl hG)) ?_
        refine W.g rfl rfl rfl rfl rfl (.g rfl _) rfl (by decide) (fun hG => Yd.fldB rfl Try.underlying86 rfl SZ3 rfl (.t rfl)) ?_
        refine W.g rfl rfl rfl rfl rfl (.g rfl _) rfl (by decide) (fun hG => Yd.ldB (pos := 0) rfl rfl rfl ON3 (.g rfl hG)) ?_
        refine W.g rfl rfl rfl rfl rfl (.g rfl _) rfl (by decide) (fun hG => Yd.neq rfl (.g rfl hG) .c) ?_
        refine W.g rfl rfl rfl rfl rfl (.g rfl _) rfl (by decide) (fun hG => Yd.mv rfl (.g rfl hG)) ?_
        refine W.g rfl rfl rfl rfl rfl (.g rfl _) rfl (by decide) (fun hG => Yd.mv rfl (.t rfl)) ?_
        refine W.g rfl rfl rfl rfl rfl (.g rfl _) rfl (by decide) (fun hG => Yd.fldB rfl Try.underlying86 rfl SZ3 rfl (.t rfl)) ?_
        refine W.g rfl rfl rfl rfl rfl (.g rfl _) rfl (by decide) (fun hG => Yd.ldB (pos := 0) rfl rfl rfl ON3 (.g rfl hG)) ?_
        refine W.g rfl rfl rfl rfl rfl (.g rfl _) rfl (by decide) (fun hG => Yd.callC (v := .bool ((((flow_lines_c1 y12.b n_0).getD false)))) rfl (.g rfl hG) Try.func69 rfl rfl (.cons (.g rfl hG) .nil) (by intro x' hx w hw; obtain ⟨p5, hp5⟩ := hx.at (p := 1) rfl; exact flow_lines_c1_ok w0 x'.m x'.l y12.b p5 _ n_0 hp5 _ (gd_get (d := false) ha23 hG) w hw)) ?_
        refine W.g rfl rfl rfl rfl rfl (.g rfl _) rfl (by decide) (fun hG => Yd.not rfl (.g rfl hG)) ?_
        refine W.g rfl rfl rfl rfl rfl (.g rfl _) rfl (by decide) (fun hG => Yd.andG rfl (.g rfl hG) .c rfl rfl hG) ?_
        refine W.g rfl rfl rfl rfl rfl (.t rfl _) rfl (by decide) (fun hG => Yd.orG rfl (.g rfl hG) .c rfl rfl hG) ?_
        refine W.q rfl rfl rfl rfl (by decide) (Yd.and rfl (.t rfl) .c rfl rfl) ?_
        refine W.q rfl rfl rfl rfl (by decide) (Yd.as rfl (.t rfl)) ?_
        refine W.end ?_
        refine NX.sub (env' := [(2, _), (5, _), (12, _), (13, _), (14, _), (7, _), (27, _)]) ⟨rfl, rfl, rfl, rfl, rfl, rfl, rfl, trivial⟩ ?_
        refine NX.then ?_
        refine Tr.join (S := fun env x => ∃ t_24 : Bool, env = [(2, bp b1 0), (5, .func (.func 69) #[] #[bp b1 0]), (12, ul_1), (13, .int .i64 ((l_1.length : Int))), (14, .int .i64 t_8), (7, bp b19 0), (27, .bool t_24)] ∧ x = ⟨m, hcells b19 [.int .i64 y12.kind, .int .i64 y12.to, .int .i64 y12.a, .int .i64 y12.b, .int .i64 y12.val, u14, u16] 86 :: hcells b1 [.int .i64 n_0] 3 :: l⟩ ∧ flow_lines_k25 n_0 slf nx10 y12 t_24 = some r) ?_ (fun hk26 => ?_)
        · rintro _ _ ⟨t_24, rfl, rfl, hr⟩
          unfold flow_lines_k25 at hr
          try dsimp only at hr
          refine NX.then ?_
          refine Tr.cond (.t rfl) (fun hb => ?_) (fun hb => ?_)
          · have hr := cond_t hb hr
            refine Tr.seq ?_
            refine Tr.region_f (fun _ => false) ?_
            refine W.q rfl rfl rfl rfl (by decide) (Yd.as rfl .c) ?_
            refine W.end ?_
            refine NX.sub (env' := [(4, _)]) ⟨rfl, trivial⟩ ?_
            refine NX.drop (l' := l) (.cons _ (.cons _ (.refl _))) ?_
            refine NX.then ?_
            refine Tr.ret' (RT.block (RT.then (RT.block (RT.then (RT.then (RT.block (RT.then ?_)))))))
            refine res1 rfl rfl ?_
            intro w hc
            cases hr
            exact ⟨rfl, hc⟩
          · have hr := cond_f hb hr
            refine Tr.skip' ?_
            refine NX.block ?_
            refine NX.then ?_
            refine Tr.seq ?_
            refine Tr.region_f (fun i => Nat.beq i 4) ?_
            refine W.q rfl rfl rfl rfl (by decide) (Yd.fldB rfl Try.underlying86 rfl SZ37 rfl (.t rfl)) ?_
            refine W.q rfl rfl rfl rfl (by decide) (Yd.ldB (pos := 0) rfl rfl rfl ON37 (.t rfl)) ?_
            refine W.q rfl rfl rfl rfl (by decide) (Yd.fldB rfl Try.underlying86 rfl SZ37 rfl (.t rfl)) ?_
            refine W.q rfl rfl rfl rfl (by decide) (Yd.ldB (pos := 0) rfl rfl rfl ON37 (.t rfl)) ?_
            refine W.e rfl rfl rfl rfl (by decide) (Ef.bsRs (us := [u14, u16]) (xss := [y12.body, y12.els]) (Rows.snoc (Rows.snoc (Rows.nil _ _) hu15) hu17) IF37 rfl Try.underlying105 rfl (.cons (.t rfl) (.cons (.t rfl) .nil)) rfl (by decide)) ?_
            rintro v27 _ rfl
            refine ⟨.inl rfl, ?_⟩
            refine W.cast (m' := m) (l' := hown 37 1 v27 _ _ :: hcells b19 [_, _, _, _, _, _, _] 86 :: hcells b1 [_] 3 :: l) rfl rfl ?_
            refine W.q rfl rfl rfl rfl (by decide) (Yd.lenO (p := 0) rfl rfl Try.underlying105 (.t rfl)) ?_
            refine W.q rfl rfl rfl rfl (by decide) (Yd.mv rfl .c) ?_
            refine W.end ?_
            refine NX.sub (env' := [(2, _), (5, _), (12, _), (13, _), (14, _), (76, _), (77, _), (78, _)]) ⟨rfl, rfl, rfl, rfl, rfl, rfl, rfl, rfl, trivial⟩ ?_
            refine NX.drop (l' := hown 37 1 v27 _ _ :: hcells b1 [_] 3 :: l) (.cons_cons _ (.cons _ (.cons_cons _ (.refl _)))) ?_
            refine NX.then ?_
            refine Tr.join (S := fun env x => env = [(2, bp b1 0), (5, .func (.func 69) #[] #[bp b1 0]), (12, ul_1), (13, .int .i64 ((l_1.length : Int))), (14, .int .i64 t_8)] ∧ x = ⟨m, hcells b1 [.int .i64 n_0] 3 :: l⟩ ∧ flow_lines_k31 nx10 = some r) ?_ (fun hk32 => ?_)
            · rintro _ _ ⟨rfl, rfl, hr⟩
              unfold flow_lines_k31 at hr
              try dsimp only at hr
              refine NX.block ?_
              refine NX.then ?_
              refine Tr.region_f (fun _ => false) ?_
              refine W.q rfl rfl rfl rfl (by decide) (Yd.add rfl (.t rfl) .c) ?_
              refine W.q rfl rfl rfl rfl (by decide) (Yd.mv rfl (.t rfl)) ?_
              refine W.end ?_
              refine NX.sub (env' := [(2, _), (5, _), (12, _), (13, _), (14, _)]) ⟨rfl, rfl, rfl, rfl, rfl, trivial⟩ ?_
              refine NX.sub (env' := [(2, _), (5, _), (12, _), (13, _), (14, _)]) ⟨rfl, rfl, rfl, rfl, rfl, trivial⟩ ?_
              have hw := w64_id (n := t_8 + 1) (by omega) (by omega)
              exact NX.again n11 (t_8 + 1, ()) (Nat.lt_succ_self _) ⟨(by rw [hw] <;> rfl), rfl, (fr_dec hnt_8), (by omega), ((hnx10 _).symm.trans hr)⟩
            refine Tr.lenO (pos := 0) rfl (fun hlen33 => ?_)
            refine Tr.block ?_
            refine Tr.sub (env' := [(2, _), (5, _), (12, _), (13, _), (14, _), (76, _), (77, _), (78, _)]) ⟨rfl, rfl, rfl, rfl, rfl, rfl, rfl, rfl, trivial⟩ ?_
            refine Tr.loop (S := fun n (z : Int × Unit) env x => match z with | (t_34, _) => env = [(2, bp b1 0), (5, .func (.func 69) #[] #[bp b1 0]), (12, ul_1), (13, .int .i64 ((l_1.length : Int))), (14, .int .i64 t_8), (76, v27), (77, .int .i64 (((([y12.body, y12.els] : List (List Line))).length : Int))), (78, .int .i64 t_34)] ∧ x = ⟨m, hown 37 1 v27 (([y12.body, y12.els] : List (List Line))).length ([u14, u16] : List Value) :: hcells b1 [.int .i64 n_0] 3 :: l⟩ ∧ n = (((([y12.body, y12.els] : List (List Line))).length : Int) - t_34).toNat ∧ 0 ≤ t_34 ∧ forK (σ := Unit) (fun i s nx_ => flow_lines_b35 n_0 slf y12 i nx_) (fun _ => flow_lines_k31 nx10) n t_34 () = some r) _ ((0 : Int), ()) ⟨rfl, rfl, rfl, (by omega), hr⟩ ?_
            rintro n37 ⟨t_34, _⟩ env x ⟨rfl, rfl, hnt_34, h0t_34, hr⟩
            cases n37 with
            | zero =>
              simp only [forK] at hr
              refine Tr.seq ?_
              refine Tr.region_f (fun _ => false) ?_
              refine W.q rfl rfl rfl rfl (by decide) (Yd.lss rfl (.t rfl) (.t rfl)) ?_
              refine W.end ?_
              refine NX.sub (env' := [(2, _), (5, _), (12, _), (13, _), (14, _), (76, _), (77, _), (78, _), (79, _)]) ⟨rfl, rfl, rfl, rfl, rfl, rfl, rfl, rfl, rfl, trivial⟩ ?_
              refine NX.then ?_
              refine Tr.seq ?_
              refine Tr.cond (.t rfl) (fun hb => ?_) (fun hb => ?_)
              · exact absurd (hb.symm.trans (fr_end hnt_34)) (by decide)
              ·
                refine Tr.exit' (EX.then (EX.then (EX.block ?_)))
                refine NX.sub (env' := [(2, _), (5, _), (12, _), (13, _), (14, _)]) ⟨rfl, rfl, rfl, rfl, rfl, trivial⟩ ?_
                refine NX.drop (l' := hcells b1 [_] 3 :: l) (.cons _ (.cons_cons _ (.refl _))) ?_
                exact hk32 _ _ ⟨rfl, rfl, hr⟩
            | succ n37 =>
              obtain ⟨nx36, hnx36, hr⟩ := forK_succ hr
              try dsimp only at hr
              unfold flow_lines_b35 at hr
              try dsimp only at hr
              have hltt_34 := fr_bnd hnt_34
              refine Tr.seq ?_
              refine Tr.region_f (fun _ => false) ?_
              refine W.q rfl rfl rfl rfl (by decide) (Yd.lss rfl (.t rfl) (.t rfl)) ?_
              refine W.end ?_
              refine NX.sub (env' := [(2, _), (5, _), (12, _), (13, _), (14, _), (76, _), (77, _), (78, _), (79, _)]) ⟨rfl, rfl, rfl, rfl, rfl, rfl, rfl, rfl, rfl, trivial⟩ ?_
              refine NX.then ?_
              refine Tr.seq ?_
              refine Tr.cond (.t rfl) (fun hb => ?_) (fun hb => ?_)
              rotate_left
              · exact absurd (hb.symm.trans (fr_go hnt_34)) (by decide)
              ·
                refine Tr.skip' ?_
                refine NX.then ?_
                refine Tr.seq ?_
                refine Tr.block ?_
                refine Tr.seq ?_
                obtain ⟨y38, hy39, hr⟩ := bind_some hr
                refine Tr.region_f (fun _ => false) ?_
                refine W.q rfl rfl rfl rfl (by decide) (Yd.idxO (pos := 0) (xs := ([y12.body, y12.els] : List (List Line))) rfl hy39 rfl Try.underlying105 SZ37 (.t rfl) (.t rfl)) ?_
                obtain ⟨u40, hu41, hu42⟩ := Rows.get (Rows.snoc (Rows.snoc (Rows.nil _ _) hu15) hu17) hy39
                refine W.q rfl rfl rfl rfl (by decide) (Yd.ldU (pos := 0) rfl hu41 rfl ON37 (.t rfl)) ?_
                refine W.q rfl rfl rfl rfl (by decide) (Yd.as rfl (.t rfl)) ?_
                refine W.end ?_
                refine NX.sub (env' := [(2, _), (5, _), (12, _), (13, _), (14, _), (76, _), (77, _), (78, _), (9, _)]) ⟨rfl, rfl, rfl, rfl, rfl, rfl, rfl, rfl, rfl, trivial⟩ ?_
                refine NX.then ?_
                refine Tr.seq ?_
                obtain ⟨r43, hr44, hr⟩ := bind_some hr
                refine Tr.region_f (fun _ => false) ?_
                refine W.q rfl rfl rfl rfl (by decide) (Yd.ldB (pos := 1) rfl rfl rfl ON3 (.t rfl)) ?_
                refine W.q rfl rfl rfl rfl (by decide) (Yd.mv rfl (.t rfl)) ?_
                refine W.q rfl rfl rfl rfl (by decide) (Yd.call (v := .int .i64 r43) rfl Try.func60 rfl rfl (.cons (.t rfl) (.cons (.t rfl) .nil)) (fun x' hx w hw => ih x'.m x'.l n_0 _ _ (hu42.mono hx.1) _ hr44 w hw)) ?_
                refine W.q rfl rfl rfl rfl (by decide) (Yd.as rfl (.t rfl)) ?_
                refine W.end ?_
                refine NX.sub (env' := [(2, _), (5, _), (12, _), (13, _), (14, _), (76, _), (77, _), (78, _), (10, _)]) ⟨rfl, rfl, rfl, rfl, rfl, rfl, rfl, rfl, rfl, trivial⟩ ?_
                refine NX.then ?_
                refine Tr.seq ?_
                refine Tr.region_f (fun _ => false) ?_
                refine W.q rfl rfl rfl rfl (by decide) (Yd.mv rfl (.t rfl)) ?_
                refine W.q rfl rfl rfl rfl (by decide) (Yd.neq rfl (.t rfl) .c) ?_
                refine W.end ?_
                refine NX.sub (env' := [(2, _), (5, _), (12, _), (13, _), (14, _), (76, _), (77, _), (78, _), (10, _), (86, _)]) ⟨rfl, rfl, rfl, rfl, rfl, rfl, rfl, rfl, rfl, rfl, trivial⟩ ?_
                refine NX.then ?_
                refine Tr.cond (.t rfl) (fun hb => ?_) (fun hb => ?_)
                · have hr := cond_t hb hr
                  refine Tr.seq ?_
                  refine Tr.region_f (fun _ => false) ?_
                  refine W.q rfl rfl rfl rfl (by decide) (Yd.mv rfl (.t rfl)) ?_
                  refine W.q rfl rfl rfl rfl (by decide) (Yd.as rfl (.t rfl)) ?_
                  refine W.end ?_
                  refine NX.sub (env' := [(4, _)]) ⟨rfl, trivial⟩ ?_
                  refine NX.drop (l' := l) (.cons _ (.cons _ (.refl _))) ?_
                  refine NX.then ?_
                  refine Tr.ret' (RT.block (RT.then (RT.then (RT.block (RT.block (RT.then (RT.then (RT.block (RT.then ?_)))))))))
                  refine res1 rfl rfl ?_
                  intro w hc
                  cases hr
                  exact ⟨rfl, hc⟩
                · have hr := cond_f hb hr
                  refine Tr.skip' ?_
                  refine NX.block ?_
                  refine NX.then ?_
                  refine Tr.region_f (fun _ => false) ?_
                  refine W.q rfl rfl rfl rfl (by decide) (Yd.add rfl (.t rfl) .c) ?_
                  refine W.q rfl rfl rfl rfl (by decide) (Yd.mv rfl (.t rfl)) ?_
                  refine W.end ?_
                  refine NX.sub (env' := [(2, _), (5, _), (12, _), (13, _), (14, _), (76, _), (77, _), (78, _)]) ⟨rfl, rfl, rfl, rfl, rfl, rfl, rfl, rfl, trivial⟩ ?_
                  refine NX.sub (env' := [(2, _), (5, _), (12, _), (13, _), (14, _), (76, _), (77, _), (78, _)]) ⟨rfl, rfl, rfl, rfl, rfl, rfl, rfl, rfl, trivial⟩ ?_
                  have hw := w64_id (n := t_34 + 1) (by omega) (by omega)
                  exact NX.again n37 (t_34 + 1, ()) (Nat.lt_succ_self _) ⟨(by rw [hw] <;> rfl), rfl, (fr_dec hnt_34), (by omega), ((hnx36 _).symm.trans hr)⟩
        refine Tr.cond (.t rfl) (fun hb => ?_) (fun hb => ?_)
        · have hr := cond_t hb hr
          refine Tr.skip' ?_
          refine NX.sub (env' := [(2, _), (5, _), (12, _), (13, _), (14, _), (7, _), (27, _)]) ⟨rfl, rfl, rfl, rfl, rfl, rfl, rfl, trivial⟩ ?_
          exact hk26 _ _ ⟨_, rfl, rfl, hr⟩
        · have hr := cond_f hb hr
          obtain ⟨ha45, hr⟩ := guard_some hr
          refine Tr.region_f (fun _ => false) ?_
          refine W.q rfl rfl rfl rfl (by decide) (Yd.fldB rfl Try.underlying86 rfl SZ3 rfl (.t rfl)) ?_
          refine W.q rfl rfl rfl rfl (by decide) (Yd.ldB (pos := 0) rfl rfl rfl ON3 (.t rfl)) ?_
          refine W.q rfl rfl rfl rfl (by decide) (Yd.neq rfl (.t rfl) .c) ?_
          refine W.q rfl rfl rfl rfl (by decide) (Yd.mv rfl (.t rfl)) ?_
          refine W.g rfl rfl rfl rfl rfl (.t rfl _) rfl (by decide) (fun hG => Yd.mv rfl (.t rfl)) ?_
          refine W.g rfl rfl rfl rfl rfl (.t rfl _) rfl (by decide) (fun hG => Yd.fldB rfl Try.underlying86 rfl SZ3 rfl (.t rfl)) ?_
          refine W.g rfl rfl rfl rfl rfl (.t rfl _) rfl (by decide) (fun hG => Yd.ldB (pos := 0) rfl rfl rfl ON3 (.g rfl hG)) ?_
          refine W.g rfl rfl rfl rfl rfl (.t rfl _) rfl (by decide) (fun hG => Yd.callC (v := .bool ((((flow_lines_c1 y12.a n_0).getD false)))) rfl (.g rfl hG) Try.func69 rfl rfl (.cons (.g rfl hG) .nil) (by intro x' hx w hw; obtain ⟨p5, hp5⟩ := hx.at (p := 1) rfl; exact flow_lines_c1_ok w0 x'.m x'.l y12.a p5 _ n_0 hp5 _ (gd_get (d := false) ha45 hG) w hw)) ?_
          refine W.g rfl rfl rfl rfl rfl (.t rfl _) rfl (by decide) (fun hG => Yd.not rfl (.g rfl hG)) ?_
          refine W.q rfl rfl rfl rfl (by decide) (Yd.and rfl (.t rfl) .c rfl rfl) ?_
          refine W.q rfl rfl rfl rfl (by decide) (Yd.as rfl (.t rfl)) ?_
          refine W.end ?_
          refine NX.sub (env' := [(2, _), (5, _), (12, _), (13, _), (14, _), (7, _), (27, _)]) ⟨rfl, rfl, rfl, rfl, rfl, rfl, rfl, trivial⟩ ?_
          refine NX.sub (env' := [(2, _), (5, _), (12, _), (13, _), (14, _), (7, _), (27, _)]) ⟨rfl, rfl, rfl, rfl, rfl, rfl, rfl, trivial⟩ ?_
          exact hk26 _ _ ⟨_, rfl, rfl, hr⟩

def flow_wrong (fuel : Nat) (n_0 : Int) (prog_1 : List Line) : Option (Int) :=
  (flow_size fuel prog_1 ((1 : Int))).bind fun r1 =>
  (bif ((((decide (n_0 < (1 : Int))) || (decide (n_0 > (6 : Int)))) || (decide (r1.1 > (12 : Int)))) || (decide (r1.2 > (4 : Int)))) then
  some ((1 : Int))
  else
  (flow_lines fuel n_0 prog_1).bind fun r3 =>
  some r3)

set_option maxRecDepth 100000 in
set_option maxHeartbeats 4000000 in
theorem flow_wrong_ok (w0 : World) (m : Snap) (l : List HI) (fuel : Nat) (n_0 : Int) (uprog_1 : Value) (prog_1 : List Line) (hprog_1 : RS rLine m uprog_1 prog_1) (r : Int) (hr : flow_wrong fuel n_0 prog_1 = some r) (w : World) (hc : cX w0 ⟨m, l⟩ w) :
    Calls Try.prog 41 [.int .i64 n_0, uprog_1].toArray w fun e w' => e = .returned (.int .i64 r) ∧ cX w0 ⟨m, l⟩ w' := by
  unfold flow_wrong at hr
  refine calls_of_Tr (N := 29) Try.func41 rfl hc rfl (Nat.le_of_ble_eq_true rfl) ?_
  refine Tr.seq ?_
  refine Tr.region_f (fun _ => false) ?_
  refine W.q rfl rfl rfl rfl (by decide) (Yd.as rfl .c) ?_
  refine W.end ?_
  refine NX.sub (env' := [(0, _), (1, _)]) ⟨rfl, rfl, trivial⟩ ?_
  refine NX.then ?_
  refine Tr.seq ?_
  obtain ⟨r1, hr2, hr⟩ := bind_some hr
  refine Tr.region_f (fun _ => false) ?_
  refine W.q rfl rfl rfl rfl (by decide) (Yd.mv rfl (.t rfl)) ?_
  refine W.q rfl rfl rfl rfl (by decide) (Yd.call (v := .tuple #[.int .i64 r1.1, .int .i64 r1.2]) rfl Try.func59 rfl rfl (.cons (.t rfl) (.cons .c .nil)) (fun x' hx w hw => flow_size_ok w0 x'.m x'.l fuel _ _ (hprog_1.mono hx.1) ((1 : Int)) _ hr2 w hw)) ?_
  refine W.q rfl rfl rfl rfl (by decide) (Yd.mv rfl (.t rfl)) ?_
  refine W.q rfl rfl rfl rfl (by decide) (Yd.ext rfl (.t rfl) rfl) ?_
  refine W.q rfl rfl rfl rfl (by decide) (Yd.ext rfl (.t rfl) rfl) ?_
  refine W.q rfl rfl rfl rfl (by decide) (Yd.as rfl (.t rfl)) ?_
  refine W.q rfl rfl rfl rfl (by decide) (Yd.as rfl (.t rfl)) ?_
  refine W.end ?_
  refine NX.sub (env' := [(0, _), (1, _), (5, _), (6, _)]) ⟨rfl, rfl, rfl, rfl, trivial⟩ ?_
  refine NX.then ?_
  refine Tr.seq ?_
  refine Tr.seq ?_
  refine Tr.region_f (fun _ => false) ?_
  refine W.q rfl rfl rfl rfl (by decide) (Yd.mv rfl (.t rfl)) ?_
  refine W.q rfl rfl rfl rfl (by decide) (Yd.lss rfl (.t rfl) .c) ?_
  refine W.q rfl rfl rfl rfl (by decide) (Yd.mv rfl (.t rfl)) ?_
  refine W.g rfl rfl rfl rfl rfl (.t rfl _) rfl (by decide) (fun hG => Yd.mv rfl (.t rfl)) ?_
  refine W.g rfl rfl rfl rfl rfl (.t rfl _) rfl (by decide) (fun hG => Yd.gtr rfl (.g rfl hG) .c) ?_
  refine W.q rfl rfl rfl rfl (by decide) (Yd.or rfl (.t rfl) .c rfl rfl) ?_
  refine W.q rfl rfl rfl rfl (by decide) (Yd.mv rfl (.t rfl)) ?_
  refine W.g rfl rfl rfl rfl rfl (.t rfl _) rfl (by decide) (fun hG => Yd.mv rfl (.t rfl)) ?_
  refine W.g rfl rfl rfl rfl rfl (.t rfl _) rfl (by decide) (fun hG => Yd.gtr rfl (.g rfl hG) .c) ?_
  refine W.q rfl rfl rfl rfl (by decide) (Yd.or rfl (.t rfl) .c rfl rfl) ?_
  refine W.q rfl rfl rfl rfl (by decide) (Yd.mv rfl (.t rfl)) ?_
  refine W.g rfl rfl rfl rfl rfl (.t rfl _) rfl (by decide) (fun hG => Yd.mv rfl (.t rfl)) ?_
  refine W.g rfl rfl rfl rfl rfl (.t rfl _) rfl (by decide) (fun hG => Yd.gtr rfl (.g rfl hG) .c) ?_
  refine W.q rfl rfl rfl rfl (by decide) (Yd.or rfl (.t rfl) .c rfl rfl) ?_
  refine W.end ?_
  refine NX.sub (env' := [(0, _), (1, _), (25, _)]) ⟨rfl, rfl, rfl, trivial⟩ ?_
  refine NX.then ?_
  refine Tr.cond (.t rfl) (fun hb => ?_) (fun hb => ?_)
  · have hr := cond_t hb hr
    refine Tr.seq ?_
    refine Tr.region_f (fun _ => false) ?_
    refine W.q rfl rfl rfl rfl (by decide) (Yd.as rfl .c) ?_
    refine W.end ?_
    refine NX.sub (env' := [(4, _)]) ⟨rfl, trivial⟩ ?_
    refine NX.then ?_
    refine Tr.ret' (RT.then ?_)
    refine res1 rfl rfl ?_
    intro w hc
    cases hr
    exact ⟨rfl, hc⟩
  · have hr := cond_f hb hr
    refine Tr.skip' ?_
    refine NX.then ?_
    refine Tr.seq ?_
    obtain ⟨r3, hr4, hr⟩ := bind_some hr
    refine Tr.region_f (fun _ => false) ?_
    refine W.q rfl rfl rfl rfl (by decide) (Yd.mv rfl (.t rfl)) ?_
    refine W.q rfl rfl rfl rfl (by decide) (Yd.mv rfl (.t rfl)) ?_
    refine W.q rfl rfl rfl rfl (by decide) (Yd.call (v := .int .i64 r3) rfl Try.func60 rfl rfl (.cons (.t rfl) (.cons (.t rfl) .nil)) (fun x' hx w hw => flow_lines_ok w0 x'.m x'.l fuel n_0 _ _ (hprog_1.mono hx.1) _ hr4 w hw)) ?_
    refine W.q rfl rfl rfl rfl (by decide) (Yd.as rfl (.t rfl)) ?_
    refine W.end ?_
    refine NX.sub (env' := [(4, _)]) ⟨rfl, trivial⟩ ?_
    refine NX.then ?_
    refine Tr.ret' ?_
    refine res1 rfl rfl ?_
    intro w hc
    cases hr
    exact ⟨rfl, hc⟩

def slices_IndexFunc_Sintint_k3 : Option (Int) :=
  some ((-1 : Int))

def slices_IndexFunc_Sintint_b7 (s_0 : List Int) (f_1 : Int → Option Bool) (t_6 : Int) (nx8 : Unit → Option (Int)) : Option (Int) :=
  (geti s_0 t_6).bind fun y10 =>
  (f_1 y10).bind fun r12 =>
  (bif r12 then
  some t_6
  else
  nx8 ())

def slices_IndexFunc_Sintint (s_0 : List Int) (f_1 : Int → Option Bool) : Option (Int) :=
  forK (σ := Unit) (fun i s nx_ => slices_IndexFunc_Sintint_b7 s_0 f_1 i nx_) (fun _ => slices_IndexFunc_Sintint_k3) ((s_0.length : Int) - (0 : Int)).toNat (0 : Int) ()

set_option maxRecDepth 100000 in
set_option maxHeartbeats 4000000 in
theorem slices_IndexFunc_Sintint_ok (w0 : World) (m : Snap) (l : List HI) (us_0 : Value) (s_0 : List Int) (hs_0 : RS rI m us_0 s_0) (uf_1 : Value) (f_1 : Int → Option Bool) (hf_1 : Fq Try.prog w0 ⟨m, l⟩ uf_1 (α := Int) (β := Bool) (fun _ v a => v = .int .i64 a) (fun b => .bool b) f_1) (r : Int) (hr : slices_IndexFunc_Sintint s_0 f_1 = some r) (w : World) (hc : cX w0 ⟨m, l⟩ w) :
    Calls Try.prog 61 [us_0, uf_1].toArray w fun e w' => e = .returned (.int .i64 r) ∧ cX w0 ⟨m, l⟩ w' := by
  unfold slices_IndexFunc_Sintint at hr
  refine calls_of_Tr (N := 19) Try.func61 rfl hc rfl (Nat.le_of_ble_eq_true rfl) ?_
  refine Tr.seq ?_
  refine Tr.region_f (fun _ => false) ?_
  refine W.q rfl rfl rfl rfl (by decide) (Yd.as rfl .c) ?_
  refine W.end ?_
  refine NX.sub (env' := [(0, _), (1, _)]) ⟨rfl, rfl, trivial⟩ ?_
  refine NX.then ?_
  refine Tr.seq ?_
  refine Tr.seq ?_
  refine Tr.region_f (fun _ => false) ?_
  refine W.q rfl rfl rfl rfl (by decide) (Yd.mv rfl (.t rfl)) ?_
  refine W.q rfl rfl rfl rfl (by decide) (Yd.lenR hs_0 rfl Try.underlying38 (.t rfl)) ?_
  refine W.q rfl rfl rfl rfl (by decide) (Yd.mv rfl .c) ?_
  refine W.end ?_
  refine NX.sub (env' := [(0, _), (1, _), (7, _), (8, _)]) ⟨rfl, rfl, rfl, rfl, trivial⟩ ?_
  refine NX.then ?_
  refine Tr.join (S := fun env x => env = [] ∧ x = ⟨m, l⟩ ∧ slices_IndexFunc_Sintint_k3 = some r) ?_ (fun hk4 => ?_)
  · rintro _ _ ⟨rfl, rfl, hr⟩
    unfold slices_IndexFunc_Sintint_k3 at hr
    try dsimp only at hr
    refine NX.then ?_
    refine Tr.seq ?_
    refine Tr.region_f (fun _ => false) ?_
    refine W.q rfl rfl rfl rfl (by decide) (Yd.as rfl .c) ?_
    refine W.end ?_
    refine NX.sub (env' := [(4, _)]) ⟨rfl, trivial⟩ ?_
    refine NX.then ?_
    refine Tr.ret' ?_
    refine res1 rfl rfl ?_
    intro w hc
    cases hr
    exact ⟨rfl, hc⟩
  have hlen5 := (hs_0).2.1
  refine Tr.block ?_
  refine Tr.sub (env' := [(0, _), (1, _), (7, _), (8, _)]) ⟨rfl, rfl, rfl, rfl, trivial⟩ ?_
  refine Tr.loop (S := fun n (z : Int × Unit) env x => match z with | (t_6, _) => env = [(0, us_0), (1, uf_1), (7, .int .i64 ((s_0.length : Int))), (8, .int .i64 t_6)] ∧ x = ⟨m, l⟩ ∧ n = ((s_0.length : Int) - t_6).toNat ∧ 0 ≤ t_6 ∧ forK (σ := Unit) (fun i s nx_ => slices_IndexFunc_Sintint_b7 s_0 f_1 i nx_) (fun _ => slices_IndexFunc_Sintint_k3) n t_6 () = some r) _ ((0 : Int), ()) ⟨rfl, rfl, rfl, (by omega), hr⟩ ?_
  rintro n9 ⟨t_6, _⟩ env x ⟨rfl, rfl, hnt_6, h0t_6, hr⟩
  cases n9 with
  | zero =>
    simp only [forK] at hr
    refine Tr.seq ?_
    refine Tr.region_f (fun _ => false) ?_
    refine W.q rfl rfl rfl rfl (by decide) (Yd.lss rfl (.t rfl) (.t rfl)) ?_
    refine W.end ?_
    refine NX.sub (env' := [(0, _), (1, _), (7, _), (8, _), (9, _)]) ⟨rfl, rfl, rfl, rfl, rfl, trivial⟩ ?_
    refine NX.then ?_
    refine Tr.seq ?_
    refine Tr.cond (.t rfl) (fun hb => ?_) (fun hb => ?_)
    · exact absurd (hb.symm.trans (fr_end hnt_6)) (by decide)
    ·
      refine Tr.exit' (EX.then (EX.then (EX.block ?_)))
      refine NX.sub (env' := []) trivial ?_
      exact hk4 _ _ ⟨rfl, rfl, hr⟩
  | succ n9 =>
    obtain ⟨nx8, hnx8, hr⟩ := forK_succ hr
    try dsimp only at hr
    unfold slices_IndexFunc_Sintint_b7 at hr
    try dsimp only at hr
    have hltt_6 := fr_bnd hnt_6
    refine Tr.seq ?_
    refine Tr.region_f (fun _ => false) ?_
    refine W.q rfl rfl rfl rfl (by decide) (Yd.lss rfl (.t rfl) (.t rfl)) ?_
    refine W.end ?_
    refine NX.sub (env' := [(0, _), (1, _), (7, _), (8, _), (9, _)]) ⟨rfl, rfl, rfl, rfl, rfl, trivial⟩ ?_
    refine NX.then ?_
    refine Tr.seq ?_
    refine Tr.cond (.t rfl) (fun hb => ?_) (fun hb => ?_)
    rotate_left
    · exact absurd (hb.symm.trans (fr_go hnt_6)) (by decide)
    ·
      refine Tr.skip' ?_
      refine NX.then ?_
      refine Tr.seq ?_
      refine Tr.block ?_
      refine Tr.seq ?_
      refine Tr.region_f (fun _ => false) ?_
      refine W.q rfl rfl rfl rfl (by decide) (Yd.mv rfl (.t rfl)) ?_
      refine W.q rfl rfl rfl rfl (by decide) (Yd.as rfl (.t rfl)) ?_
      refine W.end ?_
      refine NX.sub (env' := [(0, _), (1, _), (7, _), (8, _), (5, _)]) ⟨rfl, rfl, rfl, rfl, rfl, trivial⟩ ?_
      refine NX.then ?_
      refine Tr.seq ?_
      obtain ⟨y10, hy11, hr⟩ := bind_some hr
      obtain ⟨r12, hr13, hr⟩ := bind_some hr
      refine Tr.region_f (fun _ => false) ?_
      refine W.q rfl rfl rfl rfl (by decide) (Yd.mv rfl (.t rfl)) ?_
      refine W.q rfl rfl rfl rfl (by decide) (Yd.mv rfl (.t rfl)) ?_
      refine W.q rfl rfl rfl rfl (by decide) (Yd.mv rfl (.t rfl)) ?_
      refine W.q rfl rfl rfl rfl (by decide) (Yd.idxR hs_0 hy11 rfl Try.underlying38 SZ3 (.t rfl) (.t rfl)) ?_
      refine W.q rfl rfl rfl rfl (by decide) (Yd.ldF hs_0 (.refl _) hy11 rfl rfl ON3 (.t rfl)) ?_
      refine W.q rfl rfl rfl rfl (by decide) (Yd.callF hf_1 ⟨(.refl _), [], rfl⟩ rfl (.t rfl) (.t rfl) (fun _ _ => rfl) hr13) ?_
      refine W.end ?_
      refine NX.sub (env' := [(0, _), (1, _), (7, _), (8, _), (5, _), (16, _)]) ⟨rfl, rfl, rfl, rfl, rfl, rfl, trivial⟩ ?_
      refine NX.then ?_
      refine Tr.cond (.t rfl) (fun hb => ?_) (fun hb => ?_)
      · have hr := cond_t hb hr
        refine Tr.seq ?_
        refine Tr.region_f (fun _ => false) ?_
        refine W.q rfl rfl rfl rfl (by decide) (Yd.mv rfl (.t rfl)) ?_
        refine W.q rfl rfl rfl rfl (by decide) (Yd.as rfl (.t rfl)) ?_
        refine W.end ?_
        refine NX.sub (env' := [(4, _)]) ⟨rfl, trivial⟩ ?_
        refine NX.then ?_
        refine Tr.ret' (RT.block (RT.then (RT.then (RT.block (RT.then ?_)))))
        refine res1 rfl rfl ?_
        intro w hc
        cases hr
        exact ⟨rfl, hc⟩
      · have hr := cond_f hb hr
        refine Tr.skip' ?_
        refine NX.block ?_
        refine NX.then ?_
        refine Tr.region_f (fun _ => false) ?_
        refine W.q rfl rfl rfl rfl (by decide) (Yd.add rfl (.t rfl) .c) ?_
        refine W.q rfl rfl rfl rfl (by decide) (Yd.mv rfl (.t rfl)) ?_
        refine W.end ?_
        refine NX.sub (env' := [(0, _), (1, _), (7, _), (8, _)]) ⟨rfl, rfl, rfl, rfl, trivial⟩ ?_
        refine NX.sub (env' := [(0, _), (1, _), (7, _), (8, _)]) ⟨rfl, rfl, rfl, rfl, trivial⟩ ?_
        have hw := w64_id (n := t_6 + 1) (by omega) (by omega)
        exact NX.again n9 (t_6 + 1, ()) (Nat.lt_succ_self _) ⟨(by rw [hw] <;> rfl), rfl, (fr_dec hnt_6), (by omega), ((hnx8 _).symm.trans hr)⟩

def slices_ContainsFunc_Sintint (s_0 : List Int) (f_1 : Int → Option Bool) : Option (Bool) :=
  (slices_IndexFunc_Sintint s_0 f_1).bind fun r1 =>
  some ((decide (r1 ≥ (0 : Int))))

set_option maxRecDepth 100000 in
set_option maxHeartbeats 4000000 in
theorem slices_ContainsFunc_Sintint_ok (w0 : World) (m : Snap) (l : List HI) (us_0 : Value) (s_0 : List Int) (hs_0 : RS rI m us_0 s_0) (uf_1 : Value) (f_1 : Int → Option Bool) (hf_1 : Fq Try.prog w0 ⟨m, l⟩ uf_1 (α := Int) (β := Bool) (fun _ v a => v = .int .i64 a) (fun b => .bool b) f_1) (r : Bool) (hr : slices_ContainsFunc_Sintint s_0 f_1 = some r) (w : World) (hc : cX w0 ⟨m, l⟩ w) :
    Calls Try.prog 42 [us_0, uf_1].toArray w fun e w' => e = .returned (.bool r) ∧ cX w0 ⟨m, l⟩ w' := by
  unfold slices_ContainsFunc_Sintint at hr
  refine calls_of_Tr (N := 9) Try.func42 rfl hc rfl (Nat.le_of_ble_eq_true rfl) ?_
  refine Tr.seq ?_
  refine Tr.region_f (fun _ => false) ?_
  refine W.q rfl rfl rfl rfl (by decide) (Yd.as rfl .c) ?_
  refine W.end ?_
  refine NX.sub (env' := [(0, _), (1, _)]) ⟨rfl, rfl, trivial⟩ ?_
  refine NX.then ?_
  refine Tr.seq ?_
  obtain ⟨r1, hr2, hr⟩ := bind_some hr
  refine Tr.region_f (fun _ => false) ?_
  refine W.q rfl rfl rfl rfl (by decide) (Yd.mv rfl (.t rfl)) ?_
  refine W.q rfl rfl rfl rfl (by decide) (Yd.mv rfl (.t rfl)) ?_
  refine W.q rfl rfl rfl rfl (by decide) (Yd.call (v := .int .i64 r1) rfl Try.func61 rfl rfl (.cons (.t rfl) (.cons (.t rfl) .nil)) (fun x' hx w hw => slices_IndexFunc_Sintint_ok w0 x'.m x'.l _ _ (hs_0.mono hx.1) _ f_1 (hf_1.mono (leX_trans _ _ _ ⟨(.refl _), [], rfl⟩ hx)) _ hr2 w hw)) ?_
  refine W.q rfl rfl rfl rfl (by decide) (Yd.geq rfl (.t rfl) .c) ?_
  refine W.q rfl rfl rfl rfl (by decide) (Yd.as rfl (.t rfl)) ?_
  refine W.end ?_
  refine NX.sub (env' := [(4, _)]) ⟨rfl, trivial⟩ ?_
  refine NX.then ?_
  refine Tr.ret' ?_
  refine res1 rfl rfl ?_
  intro w hc
  cases hr
  exact ⟨rfl, hc⟩

def flow_Run_c1 (x_0 : Int) : Option (Bool) :=
  some (((decide (x_0 < (0 : Int))) || (decide (x_0 > (7 : Int)))))

set_option maxRecDepth 100000 in
set_option maxHeartbeats 4000000 in
theorem flow_Run_c1_ok (w0 : World) (m : Snap) (l : List HI) (x_0 : Int) (r : Bool) (hr : flow_Run_c1 x_0 = some r) (w : World) (hc : cX w0 ⟨m, l⟩ w) :
    Calls Try.prog 43 [.int .i64 x_0].toArray w fun e w' => e = .returned (.bool r) ∧ cX w0 ⟨m, l⟩ w' := by
  unfold flow_Run_c1 at hr
  refine calls_of_Tr (N := 9) Try.func43 rfl hc rfl (Nat.le_of_ble_eq_true rfl) ?_
  refine Tr.seq ?_
  refine Tr.region_f (fun _ => false) ?_
  refine W.q rfl rfl rfl rfl (by decide) (Yd.as rfl .c) ?_
  refine W.end ?_
  refine NX.sub (env' := [(0, _)]) ⟨rfl, trivial⟩ ?_
  refine NX.then ?_
  refine Tr.seq ?_
  refine Tr.region_f (fun _ => false) ?_
  refine W.q rfl rfl rfl rfl (by decide) (Yd.mv rfl (.t rfl)) ?_
  refine W.q rfl rfl rfl rfl (by decide) (Yd.lss rfl (.t rfl) .c) ?_
  refine W.q rfl rfl rfl rfl (by decide) (Yd.mv rfl (.t rfl)) ?_
  refine W.g rfl rfl rfl rfl rfl (.t rfl _) rfl (by decide) (fun hG => Yd.mv rfl (.t rfl)) ?_
  refine W.g rfl rfl rfl rfl rfl (.t rfl _) rfl (by decide) (fun hG => Yd.gtr rfl (.g rfl hG) .c) ?_
  refine W.q rfl rfl rfl rfl (by decide) (Yd.or rfl (.t rfl) .c rfl rfl) ?_
  refine W.q rfl rfl rfl rfl (by decide) (Yd.as rfl (.t rfl)) ?_
  refine W.end ?_
  refine NX.sub (env' := [(2, _)]) ⟨rfl, trivial⟩ ?_
  refine NX.then ?_
  refine Tr.ret' ?_
  refine res1 rfl rfl ?_
  intro w hc
  cases hr
  exact ⟨rfl, hc⟩

def slices_Clone_Sintint (s_0 : List Int) : Option ((List Int)) :=
  bif decide ((([] : List Int)).length + s_0.length ≤ 17592186044416) then
  some ((([] : List Int) ++ s_0)) else none

set_option maxRecDepth 100000 in
set_option maxHeartbeats 4000000 in
theorem slices_Clone_Sintint_ok (w0 : World) (m : Snap) (l : List HI) (us_0 : Value) (s_0 : List Int) (hs_0 : RS rI m us_0 s_0) (r : (List Int)) (hr : slices_Clone_Sintint s_0 = some r) (w : World) (hc : cX w0 ⟨m, l⟩ w) :
    Calls Try.prog 44 [us_0].toArray w fun e w' => ∃ z0 : Value, e = .returned (z0) ∧ cX w0 ⟨m, hownT 3 1 encI z0 r :: l⟩ w' := by
  unfold slices_Clone_Sintint at hr
  refine calls_of_Tr (N := 8) Try.func44 rfl hc rfl (Nat.le_of_ble_eq_true rfl) ?_
  refine Tr.seq ?_
  refine Tr.region_f (fun _ => false) ?_
  refine W.q rfl rfl rfl rfl (by decide) (Yd.as rfl .c) ?_
  refine W.end ?_
  refine NX.sub (env' := [(0, _)]) ⟨rfl, trivial⟩ ?_
  refine NX.then ?_
  refine Tr.seq ?_
  refine Tr.seq ?_
  refine Tr.region_f (fun _ => false) ?_
  refine W.q rfl rfl rfl rfl (by decide) (Yd.mv rfl (.t rfl)) ?_
  refine W.q rfl rfl rfl rfl (by decide) (Yd.eqnil hs_0 rfl Try.underlying38 (.t rfl) .c) ?_
  refine W.end ?_
  refine NX.sub (env' := [(0, _), (4, _)]) ⟨rfl, rfl, trivial⟩ ?_
  refine NX.then ?_
  refine Tr.cond (.t rfl) (fun hb => ?_) (fun hb => ?_)
  · obtain rfl : s_0 = [] := RS.nil_of hs_0 hb
    have hr : some ([]) = some r := hr
    refine Tr.seq ?_
    refine Tr.region_f (fun _ => false) ?_
    refine W.q rfl rfl rfl rfl (by decide) (Yd.as rfl .c) ?_
    refine W.end ?_
    refine NX.sub (env' := [(2, _)]) ⟨rfl, trivial⟩ ?_
    refine NX.then ?_
    refine Tr.ret' (RT.then ?_)
    refine res1 rfl rfl ?_
    intro w hc
    cases hr
    exact ⟨_, rfl, (cX_nil hc)⟩
  ·
    refine Tr.skip' ?_
    refine NX.then ?_
    refine Tr.seq ?_
    obtain ⟨hq4, hr⟩ := guard_some hr; replace hq4 := of_decide_eq_true hq4
    refine Tr.region_f (fun i => Nat.beq i 0 || Nat.beq i 2) ?_
    refine W.e rfl rfl rfl rfl (by decide) (Ef.bsT (enc := encI) (vs := []) (ys := []) (fun _ => rfl) IF3 rfl Try.underlying38 (by decide) rfl .nil rfl rfl (by decide)) ?_
    rintro v1 _ rfl
    refine ⟨.inl rfl, ?_⟩
    refine W.cast (m' := m) (l' := hownT 3 1 encI v1 _ :: l) rfl rfl ?_
    refine W.q rfl rfl rfl rfl (by decide) (Yd.mv rfl (.t rfl)) ?_
    refine W.e rfl rfl rfl rfl (by decide) (Ef.apI (pos := 0) (enc := encI) (xs := ([] : List Int)) (ys := s_0) (fun _ => rfl) IF3 rfl rfl Try.underlying38 rfl (by decide) (.t rfl) (.t rfl) (Src.rs (by decide) (.refl _) hs_0) (fun _ => rfl) (by omega) (by omega)) ?_
    rintro v3 _ rfl
    refine ⟨.inl rfl, ?_⟩
    refine W.cast (m' := m) (l' := hownT 3 1 encI v3 _ :: l) rfl rfl ?_
    refine W.q rfl rfl rfl rfl (by decide) (Yd.as rfl (.t rfl)) ?_
    refine W.end ?_
    refine NX.sub (env' := [(2, _)]) ⟨rfl, trivial⟩ ?_
    refine NX.then ?_
    refine Tr.ret' ?_
    refine res1 rfl rfl ?_
    intro w hc
    cases hr
    exact ⟨_, rfl, hc⟩

def flow_val (vars_0 : List Int) (i_1 : Int) : Option (Int) :=
  (bif (decide (i_1 < (0 : Int))) then
  some ((0 : Int))
  else
  (geti vars_0 i_1).bind fun y1 =>
  some y1)

set_option maxRecDepth 100000 in
set_option maxHeartbeats 4000000 in
theorem flow_val_ok (w0 : World) (m : Snap) (l : List HI) (uvars_0 : Value) (vars_0 : List Int) (hvars_0 : RS rI m uvars_0 vars_0) (i_1 : Int) (r : Int) (hr : flow_val vars_0 i_1 = some r) (w : World) (hc : cX w0 ⟨m, l⟩ w) :
    Calls Try.prog 62 [uvars_0, .int .i64 i_1].toArray w fun e w' => e = .returned (.int .i64 r) ∧ cX w0 ⟨m, l⟩ w' := by
  unfold flow_val at hr
  refine calls_of_Tr (N := 11) Try.func62 rfl hc rfl (Nat.le_of_ble_eq_true rfl) ?_
  refine Tr.seq ?_
  refine Tr.region_f (fun _ => false) ?_
  refine W.q rfl rfl rfl rfl (by decide) (Yd.as rfl .c) ?_
  refine W.end ?_
  refine NX.sub (env' := [(0, _), (1, _)]) ⟨rfl, rfl, trivial⟩ ?_
  refine NX.then ?_
  refine Tr.seq ?_
  refine Tr.seq ?_
  refine Tr.region_f (fun _ => false) ?_
  refine W.q rfl rfl rfl rfl (by decide) (Yd.mv rfl (.t rfl)) ?_
  refine W.q rfl rfl rfl rfl (by decide) (Yd.lss rfl (.t rfl) .c) ?_
  refine W.end ?_
  refine NX.sub (env' := [(0, _), (1, _), (6, _)]) ⟨rfl, rfl, rfl, trivial⟩ ?_
  refine NX.then ?_
  refine Tr.cond (.t rfl) (fun hb => ?_) (fun hb => ?_)
  · have hr := cond_t hb hr
    refine Tr.seq ?_
    refine Tr.region_f (fun _ => false) ?_
    refine W.q rfl rfl rfl rfl (by decide) (Yd.as rfl .c) ?_
    refine W.end ?_
    refine NX.sub (env' := [(4, _)]) ⟨rfl, trivial⟩ ?_
    refine NX.then ?_
    refine Tr.ret' (RT.then ?_)
    refine res1 rfl rfl ?_
    intro w hc
    cases hr
    exact ⟨rfl, hc⟩
  · have hr := cond_f hb hr
    refine Tr.skip' ?_
    refine NX.then ?_
    refine Tr.seq ?_
    obtain ⟨y1, hy2, hr⟩ := bind_some hr
    refine Tr.region_f (fun _ => false) ?_
    refine W.q rfl rfl rfl rfl (by decide) (Yd.mv rfl (.t rfl)) ?_
    refine W.q rfl rfl rfl rfl (by decide) (Yd.mv rfl (.t rfl)) ?_
    refine W.q rfl rfl rfl rfl (by decide) (Yd.idxR hvars_0 hy2 rfl Try.underlying38 SZ3 (.t rfl) (.t rfl)) ?_
    refine W.q rfl rfl rfl rfl (by decide) (Yd.ldF hvars_0 (.refl _) hy2 rfl rfl ON3 (.t rfl)) ?_
    refine W.q rfl rfl rfl rfl (by decide) (Yd.as rfl (.t rfl)) ?_
    refine W.end ?_
    refine NX.sub (env' := [(4, _)]) ⟨rfl, trivial⟩ ?_
    refine NX.then ?_
    refine Tr.ret' ?_
    refine res1 rfl rfl ?_
    intro w hc
    cases hr
    exact ⟨rfl, hc⟩

def flow_run_k6 (l5 : List Int) : Option ((List Int)) :=
  some l5

def flow_run_k41 (nx11 : ((List Int) → Option ((List Int)))) (l40 : List Int) : Option ((List Int)) :=
  nx11 l40

def flow_run_b45 (slf : ((List Line) → (List Int) → Option ((List Int)))) (y13 : Line) (t_44 : Int) (l39 : List Int) (nx46 : (List Int) → Option ((List Int))) : Option ((List Int)) :=
  (slf y13.body l39).bind fun r48 =>
  nx46 r48

def flow_run_b10 (l_0 : List Line) (slf : ((List Line) → (List Int) → Option ((List Int)))) (t_9 : Int) (l4 : List Int) (nx11 : (List Int) → Option ((List Int))) : Option ((List Int)) :=
  (geti l_0 t_9).bind fun y13 =>
  (bif (y13.kind == (1 : Int)) then
  (flow_val l4 y13.a).bind fun r22 =>
  (flow_val l4 y13.b).bind fun r24 =>
  (geti l4 y13.to).bind fun y26 =>
  nx11 (l4.set y13.to.toNat ((iand ((w64 ((w64 (r22 + r24)) + (iand y13.val ((7 : Int)))))) ((7 : Int)))))
  else
  (bif (y13.kind == (2 : Int)) then
  (geti l4 y13.a).bind fun y28 =>
  (bif (y28 != (0 : Int)) then
  (slf y13.body l4).bind fun r30 =>
  nx11 r30
  else
  (slf y13.els l4).bind fun r32 =>
  nx11 r32)
  else
  (bif (y13.kind == (3 : Int)) then
  (geti l4 y13.a).bind fun y34 =>
  bif decide (y34 ≤ 9223372036854775807) then
  forK (σ := (List Int)) (fun i s nx_ => flow_run_b45 slf y13 i s nx_) (fun s => flow_run_k41 nx11 s) (y34 - (0 : Int)).toNat (0 : Int) l4 else none
  else
  nx11 l4)))

def flow_run_s (slf : ((List Line) → (List Int) → Option ((List Int)))) (l_0 : List Line) (vars_1 : List Int) : Option ((List Int)) :=
  forK (σ := (List Int)) (fun i s nx_ => flow_run_b10 l_0 slf i s nx_) (fun s => flow_run_k6 s) ((l_0.length : Int) - (0 : Int)).toNat (0 : Int) vars_1

def flow_run (fuel : Nat) (l_0 : List Line) (vars_1 : List Int) : Option ((List Int)) :=
  match fuel with
  | 0 => none
  | fuel + 1 => flow_run_s (flow_run fuel) l_0 vars_1

set_option maxRecDepth 100000 in
set_option maxHeartbeats 4000000 in
theorem flow_run_ok (w0 : World) (m : Snap) (l : List HI) (fuel : Nat) : ∀ (ul_0 : Value) (l_0 : List Line) (hl_0 : RS rLine m ul_0 l_0) (uvars_1 : Value) (vars_1 : List Int) (r : (List Int)) (_ : flow_run fuel l_0 vars_1 = some r) (w : World) (_ : cX w0 ⟨m, hownT 3 1 encI uvars_1 vars_1 :: l⟩ w),
    Calls Try.prog 45 [ul_0, uvars_1].toArray w fun e w' => e = .returned (.tuple #[]) ∧ cX w0 ⟨m, hownT 3 1 encI uvars_1 r :: l⟩ w' := by
  induction fuel generalizing m l with
  | zero => intro ul_0 l_0 hl_0 uvars_1 vars_1 r hr; simp [flow_run] at hr
  | succ fuel ih =>
  intro ul_0 l_0 hl_0 uvars_1 vars_1 r hr w hc
  replace hr : flow_run_s (flow_run fuel) l_0 vars_1 = some r := hr
  obtain ⟨slf, hslf⟩ : ∃ f, f = flow_run fuel := ⟨_, rfl⟩
  rw [← hslf] at hr ih
  unfold flow_run_s at hr
  refine calls_of_Tr (N := 65) Try.func45 rfl hc rfl (Nat.le_of_ble_eq_true rfl) ?_
  refine Tr.seq ?_
  refine Tr.region_f (fun _ => false) ?_
  refine W.q rfl rfl rfl rfl (by decide) (Yd.mv rfl (.t rfl)) ?_
  refine W.q rfl rfl rfl rfl (by decide) (Yd.lenR hl_0 rfl Try.underlying37 (.t rfl)) ?_
  refine W.q rfl rfl rfl rfl (by decide) (Yd.mv rfl .c) ?_
  refine W.end ?_
  refine NX.sub (env' := [(1, _), (6, _), (7, _), (8, _)]) ⟨rfl, rfl, rfl, rfl, trivial⟩ ?_
  refine NX.then ?_
  refine Tr.join (S := fun env x => ∃ l5 : List Int, env = [] ∧ x = ⟨m, hownT 3 1 encI uvars_1 l5 :: l⟩ ∧ flow_run_k6 l5 = some r) ?_ (fun hk7 => ?_)
  · rintro _ _ ⟨l5, rfl, rfl, hr⟩
    unfold flow_run_k6 at hr
    try dsimp only at hr
    refine NX.ret ?_
    refine res0 rfl ?_
    intro w hc
    cases hr
    exact ⟨rfl, hc⟩
  have hlen8 := (hl_0).2.1
  refine Tr.block ?_
  refine Tr.sub (env' := [(1, _), (6, _), (7, _), (8, _)]) ⟨rfl, rfl, rfl, rfl, trivial⟩ ?_
  refine Tr.loop (S := fun n (z : Int × (List Int)) env x => match z with | (t_9, l4) => env = [(1, uvars_1), (6, ul_0), (7, .int .i64 ((l_0.length : Int))), (8, .int .i64 t_9)] ∧ x = ⟨m, hownT 3 1 encI uvars_1 l4 :: l⟩ ∧ n = ((l_0.length : Int) - t_9).toNat ∧ 0 ≤ t_9 ∧ forK (σ := (List Int)) (fun i s nx_ => flow_run_b10 l_0 slf i s nx_) (fun s => flow_run_k6 s) n t_9 l4 = some r) _ ((0 : Int), vars_1) ⟨rfl, rfl, rfl, (by omega), hr⟩ ?_
  rintro n12 ⟨t_9, l4⟩ env x ⟨rfl, rfl, hnt_9, h0t_9, hr⟩
  cases n12 with
  | zero =>
    simp only [forK] at hr
    refine Tr.seq ?_
    refine Tr.region_f (fun _ => false) ?_
    refine W.q rfl rfl rfl rfl (by decide) (Yd.lss rfl (.t rfl) (.t rfl)) ?_
    refine W.end ?_
    refine NX.sub (env' := [(1, _), (6, _), (7, _), (8, _), (9, _)]) ⟨rfl, rfl, rfl, rfl, rfl, trivial⟩ ?_
    refine NX.then ?_
    refine Tr.seq ?_
    refine Tr.cond (.t rfl) (fun hb => ?_) (fun hb => ?_)
    · exact absurd (hb.symm.trans (fr_end hnt_9)) (by decide)
    ·
      refine Tr.exit' (EX.then (EX.then (EX.block ?_)))
      refine NX.sub (env' := []) trivial ?_
      exact hk7 _ _ ⟨_, rfl, rfl, hr⟩
  | succ n12 =>
    obtain ⟨nx11, hnx11, hr⟩ := forK_succ hr
    try dsimp only at hr
    unfold flow_run_b10 at hr
    try dsimp only at hr
    have hltt_9 := fr_bnd hnt_9
    refine Tr.seq ?_
    refine Tr.region_f (fun _ => false) ?_
    refine W.q rfl rfl rfl rfl (by decide) (Yd.lss rfl (.t rfl) (.t rfl)) ?_
    refine W.end ?_
    refine NX.sub (env' := [(1, _), (6, _), (7, _), (8, _), (9, _)]) ⟨rfl, rfl, rfl, rfl, rfl, trivial⟩ ?_
    refine NX.then ?_
    refine Tr.seq ?_
    refine Tr.cond (.t rfl) (fun hb => ?_) (fun hb => ?_)
    rotate_left
    · exact absurd (hb.symm.trans (fr_go hnt_9)) (by decide)
    ·
      refine Tr.skip' ?_
      refine NX.then ?_
      refine Tr.seq ?_
      refine Tr.block ?_
      refine Tr.seq ?_
      obtain ⟨y13, hy14, hr⟩ := bind_some hr
      refine Tr.region_f (fun i => Nat.beq i 2 || Nat.beq i 3) ?_
      refine W.q rfl rfl rfl rfl (by decide) (Yd.idxR hl_0 hy14 rfl Try.underlying37 SZ86 (.t rfl) (.t rfl)) ?_
      obtain ⟨_, ⟨u15, u17, rfl, hu16, hu18⟩, hat19⟩ := rLine_el hl_0 hy14
      refine W.q rfl rfl rfl rfl (by decide) (Yd.ldRs hat19 (.refl _) rfl ON86 US86 SZ86 rfl (.t rfl)) ?_
      refine W.e rfl rfl rfl rfl (by decide) (Ef.al rfl ZR86 rfl) ?_
      rintro _ _ ⟨b20, rfl, rfl⟩
      refine ⟨.inl rfl, ?_⟩
      refine W.cast (m' := m) (l' := hcells b20 [_, _, _, _, _, _, _] 86 :: hownT 3 1 encI uvars_1 _ :: l) rfl rfl ?_
      refine W.s rfl rfl rfl rfl (Ef.stBs (pos := 0) (us := [.int .i64 y13.kind, .int .i64 y13.to, .int .i64 y13.a, .int .i64 y13.b, .int .i64 y13.val, u15, u17]) (cs' := [_, _, _, _, _, _, _]) (.cons (On.lit rfl) (.cons (On.lit rfl) (.cons (On.lit rfl) (.cons (On.lit rfl) (.cons (On.lit rfl) (.cons (On.ro hu16) (.cons (On.ro hu18) .nil))))))) rfl rfl (.t rfl) (.t rfl) SZ86 rfl rfl (Nat.le_of_ble_eq_true rfl) rfl) ?_
      rintro _ _ ⟨rfl, rfl⟩
      refine ⟨.inl rfl, ?_⟩
      refine W.cast (m' := m) (l' := hcells b20 [_, _, _, _, _, _, _] 86 :: hownT 3 1 encI uvars_1 _ :: l) rfl rfl ?_
      refine W.end ?_
      refine NX.sub (env' := [(1, _), (6, _), (7, _), (8, _), (5, _)]) ⟨rfl, rfl, rfl, rfl, rfl, trivial⟩ ?_
      refine NX.then ?_
      refine Tr.seq ?_
      refine Tr.region_f (fun _ => false) ?_
      refine W.q rfl rfl rfl rfl (by decide) (Yd.fldB rfl Try.underlying86 rfl SZ3 rfl (.t rfl)) ?_
      refine W.q rfl rfl rfl rfl (by decide) (Yd.ldB (pos := 0) rfl rfl rfl ON3 (.t rfl)) ?_
      refine W.end ?_
      refine NX.sub (env' := [(1, _), (6, _), (7, _), (8, _), (5, _), (13, _)]) ⟨rfl, rfl, rfl, rfl, rfl, rfl, trivial⟩ ?_
      refine NX.then ?_
      refine Tr.block ?_
      refine Tr.seq ?_
      refine Tr.region_f (fun _ => false) ?_
      refine W.q rfl rfl rfl rfl (by decide) (Yd.eql rfl (.t rfl) .c) ?_
      refine W.q rfl rfl rfl rfl (by decide) (Yd.as rfl (.t rfl)) ?_
      refine W.end ?_
      refine NX.sub (env' := [(1, _), (6, _), (7, _), (8, _), (5, _), (13, _), (14, _)]) ⟨rfl, rfl, rfl, rfl, rfl, rfl, rfl, trivial⟩ ?_
      refine NX.then ?_
      refine Tr.cond (.t rfl) (fun hb => ?_) (fun hb => ?_)
      · have hr := cond_t hb hr
        obtain ⟨r22, hr23, hr⟩ := bind_some hr
        obtain ⟨r24, hr25, hr⟩ := bind_some hr
        obtain ⟨y26, hy27, hr⟩ := bind_some hr
        refine Tr.region_x (fun i => Nat.beq i 18) (fun i => Nat.beq i 18) (Ord.of [0, 1, 2, 3, 4, 5, 6, 7, 8, 9, 10, 11, 12, 13, 14, 15, 16, 17, 18]) FM (by kernel_rfl) ?_
        refine W.q rfl rfl rfl rfl (by decide) (Yd.mv rfl (.t rfl)) ?_
        refine W.q rfl rfl rfl rfl (by decide) (Yd.fldB rfl Try.underlying86 rfl SZ3 rfl (.t rfl)) ?_
        refine W.q rfl rfl rfl rfl (by decide) (Yd.ldB (pos := 0) rfl rfl rfl ON3 (.t rfl)) ?_
        refine W.q rfl rfl rfl rfl (by decide) (Yd.mv rfl (.t rfl)) ?_
        refine W.q rfl rfl rfl rfl (by decide) (Yd.fldB rfl Try.underlying86 rfl SZ3 rfl (.t rfl)) ?_
        refine W.q rfl rfl rfl rfl (by decide) (Yd.ldB (pos := 0) rfl rfl rfl ON3 (.t rfl)) ?_
        refine W.q rfl rfl rfl rfl (by decide) (Yd.call (v := .int .i64 r22) rfl Try.func62 rfl rfl (.cons (.t rfl) (.cons (.t rfl) .nil)) (by intro x' hx w hw; obtain ⟨p0, hp0⟩ := hx.at (p := 1) rfl; obtain ⟨m2, hm2, hc2, ⟨L2, hl1, hl2⟩, hback⟩ := cX_lend hw hp0 lone_own; have hL1 : RS rI m2 _ _ := RS_of_own hl1 hl2; exact (flow_val_ok w0 m2 _ _ _ hL1 y13.a _ hr23 w hc2).mono fun e w' ⟨he, hc'⟩ => ⟨he, (hback m2 _ _ w' (.refl _) hp0).2 hc'⟩)) ?_
        refine W.q rfl rfl rfl rfl (by decide) (Yd.mv rfl (.t rfl)) ?_
        refine W.q rfl rfl rfl rfl (by decide) (Yd.fldB rfl Try.underlying86 rfl SZ3 rfl (.t rfl)) ?_
        refine W.q rfl rfl rfl rfl (by decide) (Yd.ldB (pos := 0) rfl rfl rfl ON3 (.t rfl)) ?_
        refine W.q rfl rfl rfl rfl (by decide) (Yd.call (v := .int .i64 r24) rfl Try.func62 rfl rfl (.cons (.t rfl) (.cons (.t rfl) .nil)) (by intro x' hx w hw; obtain ⟨p0, hp0⟩ := hx.at (p := 1) rfl; obtain ⟨m2, hm2, hc2, ⟨L2, hl1, hl2⟩, hback⟩ := cX_lend hw hp0 lone_own; have hL1 : RS rI m2 _ _ := RS_of_own hl1 hl2; exact (flow_val_ok w0 m2 _ _ _ hL1 y13.b _ hr25 w hc2).mono fun e w' ⟨he, hc'⟩ => ⟨he, (hback m2 _ _ w' (.refl _) hp0).2 hc'⟩)) ?_
        refine W.q rfl rfl rfl rfl (by decide) (Yd.add rfl (.t rfl) (.t rfl)) ?_
        refine W.q rfl rfl rfl rfl (by decide) (Yd.fldB rfl Try.underlying86 rfl SZ3 rfl (.t rfl)) ?_
        refine W.q rfl rfl rfl rfl (by decide) (Yd.ldB (pos := 0) rfl rfl rfl ON3 (.t rfl)) ?_
        refine W.q rfl rfl rfl rfl (by decide) (Yd.andI rfl (.t rfl) .c) ?_
        refine W.q rfl rfl rfl rfl (by decide) (Yd.add rfl (.t rfl) (.t rfl)) ?_
        refine W.q rfl rfl rfl rfl (by decide) (Yd.andI rfl (.t rfl) .c) ?_
        refine W.q rfl rfl rfl rfl (by decide) (Yd.idxT (pos := 1) rfl hy27 rfl Try.underlying38 SZ3 (.t rfl) (.t rfl)) ?_
        refine W.s rfl rfl rfl rfl (Ef.stT (enc := encI) (n := 1) (pos := 1) (y := (iand ((w64 ((w64 (r22 + r24)) + (iand y13.val ((7 : Int)))))) ((7 : Int)))) (us := [_]) (fun _ => rfl) rfl hy27 rfl (.t rfl) (.t rfl) SZ3 rfl rfl rfl (by decide)) ?_
        rintro _ _ ⟨rfl, rfl⟩
        refine ⟨.inl rfl, ?_⟩
        refine W.cast (m' := m) (l' := hcells b20 [_, _, _, _, _, _, _] 86 :: hownT 3 1 encI uvars_1 _ :: l) rfl rfl ?_
        refine W.end ?_
        refine NX.sub (env' := [(1, _), (6, _), (7, _), (8, _)]) ⟨rfl, rfl, rfl, rfl, trivial⟩ ?_
        refine NX.drop (l' := hownT 3 1 encI uvars_1 _ :: l) (.cons _ (.cons_cons _ (.refl _))) ?_
        refine NX.block ?_
        refine NX.block ?_
        refine NX.then ?_
        refine Tr.region_f (fun _ => false) ?_
        refine W.q rfl rfl rfl rfl (by decide) (Yd.add rfl (.t rfl) .c) ?_
        refine W.q rfl rfl rfl rfl (by decide) (Yd.mv rfl (.t rfl)) ?_
        refine W.end ?_
        refine NX.sub (env' := [(1, _), (6, _), (7, _), (8, _)]) ⟨rfl, rfl, rfl, rfl, trivial⟩ ?_
        refine NX.sub (env' := [(1, _), (6, _), (7, _), (8, _)]) ⟨rfl, rfl, rfl, rfl, trivial⟩ ?_
        have hw := w64_id (n := t_9 + 1) (by omega) (by omega)
        exact NX.again n12 (t_9 + 1, (l4.set y13.to.toNat ((iand ((w64 ((w64 (r22 + r24)) + (iand y13.val ((7 : Int)))))) ((7 : Int)))))) (Nat.lt_succ_self _) ⟨(by rw [hw] <;> rfl), rfl, (fr_dec hnt_9), (by omega), ((hnx11 _).symm.trans hr)⟩
      · have hr := cond_f hb hr
        refine Tr.seq ?_
        refine Tr.region_f (fun _ => false) ?_
        refine W.q rfl rfl rfl rfl (by decide) (Yd.eql rfl (.t rfl) .c) ?_
        refine W.q rfl rfl rfl rfl (by decide) (Yd.as rfl (.t rfl)) ?_
        refine W.end ?_
        refine NX.sub (env' := [(1, _), (6, _), (7, _), (8, _), (5, _), (13, _), (34, _)]) ⟨rfl, rfl, rfl, rfl, rfl, rfl, rfl, trivial⟩ ?_
        refine NX.then ?_
        refine Tr.cond (.t rfl) (fun hb => ?_) (fun hb => ?_)
        · have hr := cond_t hb hr
          refine Tr.seq ?_
          obtain ⟨y28, hy29, hr⟩ := bind_some hr
          refine Tr.region_f (fun _ => false) ?_
          refine W.q rfl rfl rfl rfl (by decide) (Yd.mv rfl (.t rfl)) ?_
          refine W.q rfl rfl rfl rfl (by decide) (Yd.fldB rfl Try.underlying86 rfl SZ3 rfl (.t rfl)) ?_
          refine W.q rfl rfl rfl rfl (by decide) (Yd.ldB (pos := 0) rfl rfl rfl ON3 (.t rfl)) ?_
          refine W.q rfl rfl rfl rfl (by decide) (Yd.idxT (pos := 1) rfl hy29 rfl Try.underlying38 SZ3 (.t rfl) (.t rfl)) ?_
          refine W.q rfl rfl rfl rfl (by decide) (Yd.ldT (enc := encI) (n := 1) (pos := 1) (fun _ => rfl) rfl hy29 rfl rfl ON3 (.t rfl)) ?_
          refine W.q rfl rfl rfl rfl (by decide) (Yd.neq rfl (.t rfl) .c) ?_
          refine W.end ?_
          refine NX.sub (env' := [(1, _), (6, _), (7, _), (8, _), (5, _), (41, _)]) ⟨rfl, rfl, rfl, rfl, rfl, rfl, trivial⟩ ?_
          refine NX.then ?_
          refine Tr.cond (.t rfl) (fun hb => ?_) (fun hb => ?_)
          · have hr := cond_t hb hr
            obtain ⟨r30, hr31, hr⟩ := bind_some hr
            refine Tr.region_f (fun i => Nat.beq i 3) ?_
            refine W.q rfl rfl rfl rfl (by decide) (Yd.fldB rfl Try.underlying86 rfl SZ37 rfl (.t rfl)) ?_
            refine W.q rfl rfl rfl rfl (by decide) (Yd.ldB (pos := 0) rfl rfl rfl ON37 (.t rfl)) ?_
            refine W.q rfl rfl rfl rfl (by decide) (Yd.mv rfl (.t rfl)) ?_
            refine W.e rfl rfl rfl rfl (by decide) (Ef.call (R := fun z x' => z = .tuple #[] ∧ x' = ⟨m, hcells b20 [.int .i64 y13.kind, .int .i64 y13.to, .int .i64 y13.a, .int .i64 y13.b, .int .i64 y13.val, u15, u17] 86 :: hownT 3 1 encI uvars_1 r30 :: l⟩) rfl Try.func45 rfl rfl (.cons (.t rfl) (.cons (.t rfl) .nil)) (fun w hw => (ih _ _ _ _ hu16 _ _ _ hr31 w (cX_front (p := 1) hw rfl)).mono fun e w' ⟨he, hc'⟩ => ⟨_, _, he, ⟨rfl, rfl⟩, cX_back (p := 1) hc' rfl⟩)) ?_
            rintro _ _ ⟨rfl, rfl⟩
            refine ⟨.inl rfl, ?_⟩
            refine W.cast (m' := m) (l' := hcells b20 [_, _, _, _, _, _, _] 86 :: hownT 3 1 encI uvars_1 _ :: l) rfl rfl ?_
            refine W.end ?_
            refine NX.sub (env' := [(1, _), (6, _), (7, _), (8, _)]) ⟨rfl, rfl, rfl, rfl, trivial⟩ ?_
            refine NX.drop (l' := hownT 3 1 encI uvars_1 _ :: l) (.cons _ (.cons_cons _ (.refl _))) ?_
            refine NX.block ?_
            refine NX.block ?_
            refine NX.then ?_
            refine Tr.region_f (fun _ => false) ?_
            refine W.q rfl rfl rfl rfl (by decide) (Yd.add rfl (.t rfl) .c) ?_
            refine W.q rfl rfl rfl rfl (by decide) (Yd.mv rfl (.t rfl)) ?_
            refine W.end ?_
            refine NX.sub (env' := [(1, _), (6, _), (7, _), (8, _)]) ⟨rfl, rfl, rfl, rfl, trivial⟩ ?_
            refine NX.sub (env' := [(1, _), (6, _), (7, _), (8, _)]) ⟨rfl, rfl, rfl, rfl, trivial⟩ ?_
            have hw := w64_id (n := t_9 + 1) (by omega) (by omega)
            exact NX.again n12 (t_9 + 1, r30) (Nat.lt_succ_self _) ⟨(by rw [hw] <;> rfl), rfl, (fr_dec hnt_9), (by omega), ((hnx11 _).symm.trans hr)⟩
          · have hr := cond_f hb hr
            obtain ⟨r32, hr33, hr⟩ := bind_some hr
            refine Tr.region_f (fun i => Nat.beq i 3) ?_
            refine W.q rfl rfl rfl rfl (by decide) (Yd.fldB rfl Try.underlying86 rfl SZ37 rfl (.t rfl)) ?_
            refine W.q rfl rfl rfl rfl (by decide) (Yd.ldB (pos := 0) rfl rfl rfl ON37 (.t rfl)) ?_
            refine W.q rfl rfl rfl rfl (by decide) (Yd.mv rfl (.t rfl)) ?_
            refine W.e rfl rfl rfl rfl (by decide) (Ef.call (R := fun z x' => z = .tuple #[] ∧ x' = ⟨m, hcells b20 [.int .i64 y13.kind, .int .i64 y13.to, .int .i64 y13.a, .int .i64 y13.b, .int .i64 y13.val, u15, u17] 86 :: hownT 3 1 encI uvars_1 r32 :: l⟩) rfl Try.func45 rfl rfl (.cons (.t rfl) (.cons (.t rfl) .nil)) (fun w hw => (ih _ _ _ _ hu18 _ _ _ hr33 w (cX_front (p := 1) hw rfl)).mono fun e w' ⟨he, hc'⟩ => ⟨_, _, he, ⟨rfl, rfl⟩, cX_back (p := 1) hc' rfl⟩)) ?_
            rintro _ _ ⟨rfl, rfl⟩
            refine ⟨.inl rfl, ?_⟩
            refine W.cast (m' := m) (l' := hcells b20 [_, _, _, _, _, _, _] 86 :: hownT 3 1 encI uvars_1 _ :: l) rfl rfl ?_
            refine W.end ?_
            refine NX.sub (env' := [(1, _), (6, _), (7, _), (8, _)]) ⟨rfl, rfl, rfl, rfl, trivial⟩ ?_
            refine NX.drop (l' := hownT 3 1 encI uvars_1 _ :: l) (.cons _ (.cons_cons _ (.refl _))) ?_
            refine NX.block ?_
            refine NX.block ?_
            refine NX.then ?_
            refine Tr.region_f (fun _ => false) ?_
            refine W.q rfl rfl rfl rfl (by decide) (Yd.add rfl (.t rfl) .c) ?_
            refine W.q rfl rfl rfl rfl (by decide) (Yd.mv rfl (.t rfl)) ?_
            refine W.end ?_
            refine NX.sub (env' := [(1, _), (6, _), (7, _), (8, _)]) ⟨rfl, rfl, rfl, rfl, trivial⟩ ?_
            refine NX.sub (env' := [(1, _), (6, _), (7, _), (8, _)]) ⟨rfl, rfl, rfl, rfl, trivial⟩ ?_
            have hw := w64_id (n := t_9 + 1) (by omega) (by omega)
            exact NX.again n12 (t_9 + 1, r32) (Nat.lt_succ_self _) ⟨(by rw [hw] <;> rfl), rfl, (fr_dec hnt_9), (by omega), ((hnx11 _).symm.trans hr)⟩
        · have hr := cond_f hb hr
          refine Tr.seq ?_
          refine Tr.region_f (fun _ => false) ?_
          refine W.q rfl rfl rfl rfl (by decide) (Yd.eql rfl (.t rfl) .c) ?_
          refine W.q rfl rfl rfl rfl (by decide) (Yd.as rfl (.t rfl)) ?_
          refine W.end ?_
          refine NX.sub (env' := [(1, _), (6, _), (7, _), (8, _), (5, _), (50, _)]) ⟨rfl, rfl, rfl, rfl, rfl, rfl, trivial⟩ ?_
          refine NX.then ?_
          refine Tr.cond (.t rfl) (fun hb => ?_) (fun hb => ?_)
          · have hr := cond_t hb hr
            refine Tr.seq ?_
            obtain ⟨y34, hy35, hr⟩ := bind_some hr
            refine Tr.region_f (fun _ => false) ?_
            refine W.q rfl rfl rfl rfl (by decide) (Yd.mv rfl (.t rfl)) ?_
            refine W.q rfl rfl rfl rfl (by decide) (Yd.fldB rfl Try.underlying86 rfl SZ3 rfl (.t rfl)) ?_
            refine W.q rfl rfl rfl rfl (by decide) (Yd.ldB (pos := 0) rfl rfl rfl ON3 (.t rfl)) ?_
            refine W.q rfl rfl rfl rfl (by decide) (Yd.idxT (pos := 1) rfl hy35 rfl Try.underlying38 SZ3 (.t rfl) (.t rfl)) ?_
            refine W.q rfl rfl rfl rfl (by decide) (Yd.ldT (enc := encI) (n := 1) (pos := 1) (fun _ => rfl) rfl hy35 rfl rfl ON3 (.t rfl)) ?_
            refine W.q rfl rfl rfl rfl (by decide) (Yd.mv rfl .c) ?_
            refine W.end ?_
            refine NX.sub (env' := [(1, _), (6, _), (7, _), (8, _), (5, _), (56, _), (57, _)]) ⟨rfl, rfl, rfl, rfl, rfl, rfl, rfl, trivial⟩ ?_
            refine NX.then ?_
            refine Tr.join (S := fun env x => ∃ l40 : List Int, env = [(1, uvars_1), (6, ul_0), (7, .int .i64 ((l_0.length : Int))), (8, .int .i64 t_9)] ∧ x = ⟨m, hownT 3 1 encI uvars_1 l40 :: l⟩ ∧ flow_run_k41 nx11 l40 = some r) ?_ (fun hk42 => ?_)
            · rintro _ _ ⟨l40, rfl, rfl, hr⟩
              unfold flow_run_k41 at hr
              try dsimp only at hr
              refine NX.block ?_
              refine NX.block ?_
              refine NX.then ?_
              refine Tr.region_f (fun _ => false) ?_
              refine W.q rfl rfl rfl rfl (by decide) (Yd.add rfl (.t rfl) .c) ?_
              refine W.q rfl rfl rfl rfl (by decide) (Yd.mv rfl (.t rfl)) ?_
              refine W.end ?_
              refine NX.sub (env' := [(1, _), (6, _), (7, _), (8, _)]) ⟨rfl, rfl, rfl, rfl, trivial⟩ ?_
              refine NX.sub (env' := [(1, _), (6, _), (7, _), (8, _)]) ⟨rfl, rfl, rfl, rfl, trivial⟩ ?_
              have hw := w64_id (n := t_9 + 1) (by omega) (by omega)
              exact NX.again n12 (t_9 + 1, l40) (Nat.lt_succ_self _) ⟨(by rw [hw] <;> rfl), rfl, (fr_dec hnt_9), (by omega), ((hnx11 _).symm.trans hr)⟩
            obtain ⟨hle43, hr⟩ := guard_some hr; replace hle43 := of_decide_eq_true hle43
            refine Tr.block ?_
            refine Tr.sub (env' := [(1, _), (5, _), (6, _), (7, _), (8, _), (56, _), (57, _)]) ⟨rfl, rfl, rfl, rfl, rfl, rfl, rfl, trivial⟩ ?_
            refine Tr.loop (S := fun n (z : Int × (List Int)) env x => match z with | (t_44, l39) => env = [(1, uvars_1), (5, bp b20 0), (6, ul_0), (7, .int .i64 ((l_0.length : Int))), (8, .int .i64 t_9), (56, .int .i64 y34), (57, .int .i64 t_44)] ∧ x = ⟨m, hcells b20 [.int .i64 y13.kind, .int .i64 y13.to, .int .i64 y13.a, .int .i64 y13.b, .int .i64 y13.val, u15, u17] 86 :: hownT 3 1 encI uvars_1 l39 :: l⟩ ∧ n = (y34 - t_44).toNat ∧ 0 ≤ t_44 ∧ forK (σ := (List Int)) (fun i s nx_ => flow_run_b45 slf y13 i s nx_) (fun s => flow_run_k41 nx11 s) n t_44 l39 = some r) _ ((0 : Int), l4) ⟨rfl, rfl, rfl, (by omega), hr⟩ ?_
            rintro n47 ⟨t_44, l39⟩ env x ⟨rfl, rfl, hnt_44, h0t_44, hr⟩
            cases n47 with
            | zero =>
              simp only [forK] at hr
              refine Tr.seq ?_
              refine Tr.region_f (fun _ => false) ?_
              refine W.q rfl rfl rfl rfl (by decide) (Yd.lss rfl (.t rfl) (.t rfl)) ?_
              refine W.end ?_
              refine NX.sub (env' := [(1, _), (5, _), (6, _), (7, _), (8, _), (56, _), (57, _), (58, _)]) ⟨rfl, rfl, rfl, rfl, rfl, rfl, rfl, rfl, trivial⟩ ?_
              refine NX.then ?_
              refine Tr.seq ?_
              refine Tr.cond (.t rfl) (fun hb => ?_) (fun hb => ?_)
              · exact absurd (hb.symm.trans (fr_end hnt_44)) (by decide)
              ·
                refine Tr.exit' (EX.then (EX.then (EX.block ?_)))
                refine NX.sub (env' := [(1, _), (6, _), (7, _), (8, _)]) ⟨rfl, rfl, rfl, rfl, trivial⟩ ?_
                refine NX.drop (l' := hownT 3 1 encI uvars_1 _ :: l) (.cons _ (.cons_cons _ (.refl _))) ?_
                exact hk42 _ _ ⟨_, rfl, rfl, hr⟩
            | succ n47 =>
              obtain ⟨nx46, hnx46, hr⟩ := forK_succ hr
              try dsimp only at hr
              unfold flow_run_b45 at hr
              try dsimp only at hr
              have hltt_44 := fr_bnd hnt_44
              refine Tr.seq ?_
              refine Tr.region_f (fun _ => false) ?_
              refine W.q rfl rfl rfl rfl (by decide) (Yd.lss rfl (.t rfl) (.t rfl)) ?_
              refine W.end ?_
              refine NX.sub (env' := [(1, _), (5, _), (6, _), (7, _), (8, _), (56, _), (57, _), (58, _)]) ⟨rfl, rfl, rfl, rfl, rfl, rfl, rfl, rfl, trivial⟩ ?_
              refine NX.then ?_
              refine Tr.seq ?_
              refine Tr.cond (.t rfl) (fun hb => ?_) (fun hb => ?_)
              rotate_left
              · exact absurd (hb.symm.trans (fr_go hnt_44)) (by decide)
              ·
                refine Tr.skip' ?_
                refine NX.then ?_
                refine Tr.seq ?_
                refine Tr.block ?_
                obtain ⟨r48, hr49, hr⟩ := bind_some hr
                refine Tr.region_f (fun i => Nat.beq i 3) ?_
                refine W.q rfl rfl rfl rfl (by decide) (Yd.fldB rfl Try.underlying86 rfl SZ37 rfl (.t rfl)) ?_
                refine W.q rfl rfl rfl rfl (by decide) (Yd.ldB (pos := 0) rfl rfl rfl ON37 (.t rfl)) ?_
                refine W.q rfl rfl rfl rfl (by decide) (Yd.mv rfl (.t rfl)) ?_
                refine W.e rfl rfl rfl rfl (by decide) (Ef.call (R := fun z x' => z = .tuple #[] ∧ x' = ⟨m, hcells b20 [.int .i64 y13.kind, .int .i64 y13.to, .int .i64 y13.a, .int .i64 y13.b, .int .i64 y13.val, u15, u17] 86 :: hownT 3 1 encI uvars_1 r48 :: l⟩) rfl Try.func45 rfl rfl (.cons (.t rfl) (.cons (.t rfl) .nil)) (fun w hw => (ih _ _ _ _ hu16 _ _ _ hr49 w (cX_front (p := 1) hw rfl)).mono fun e w' ⟨he, hc'⟩ => ⟨_, _, he, ⟨rfl, rfl⟩, cX_back (p := 1) hc' rfl⟩)) ?_
                rintro _ _ ⟨rfl, rfl⟩
                refine ⟨.inl rfl, ?_⟩
                refine W.cast (m' := m) (l' := hcells b20 [_, _, _, _, _, _, _] 86 :: hownT 3 1 encI uvars_1 _ :: l) rfl rfl ?_
                refine W.end ?_
                refine NX.sub (env' := [(1, _), (5, _), (6, _), (7, _), (8, _), (56, _), (57, _)]) ⟨rfl, rfl, rfl, rfl, rfl, rfl, rfl, trivial⟩ ?_
                refine NX.block ?_
                refine NX.then ?_
                refine Tr.region_f (fun _ => false) ?_
                refine W.q rfl rfl rfl rfl (by decide) (Yd.add rfl (.t rfl) .c) ?_
                refine W.q rfl rfl rfl rfl (by decide) (Yd.mv rfl (.t rfl)) ?_
                refine W.end ?_
                refine NX.sub (env' := [(1, _), (5, _), (6, _), (7, _), (8, _), (56, _), (57, _)]) ⟨rfl, rfl, rfl, rfl, rfl, rfl, rfl, trivial⟩ ?_
                refine NX.sub (env' := [(1, _), (5, _), (6, _), (7, _), (8, _), (56, _), (57, _)]) ⟨rfl, rfl, rfl, rfl, rfl, rfl, rfl, trivial⟩ ?_
                have hw := w64_id (n := t_44 + 1) (by omega) (by omega)
                exact NX.again n47 (t_44 + 1, r48) (Nat.lt_succ_self _) ⟨(by rw [hw] <;> rfl), rfl, (fr_dec hnt_44), (by omega), ((hnx46 _).symm.trans hr)⟩
          · have hr := cond_f hb hr
            refine Tr.skip' ?_
            refine NX.block ?_
            refine NX.block ?_
            refine NX.then ?_
            refine Tr.region_f (fun _ => false) ?_
            refine W.q rfl rfl rfl rfl (by decide) (Yd.add rfl (.t rfl) .c) ?_
            refine W.q rfl rfl rfl rfl (by decide) (Yd.mv rfl (.t rfl)) ?_
            refine W.end ?_
            refine NX.sub (env' := [(1, _), (6, _), (7, _), (8, _)]) ⟨rfl, rfl, rfl, rfl, trivial⟩ ?_
            refine NX.drop (l' := hownT 3 1 encI uvars_1 _ :: l) (.cons _ (.cons_cons _ (.refl _))) ?_
            refine NX.sub (env' := [(1, _), (6, _), (7, _), (8, _)]) ⟨rfl, rfl, rfl, rfl, trivial⟩ ?_
            have hw := w64_id (n := t_9 + 1) (by omega) (by omega)
            exact NX.again n12 (t_9 + 1, l4) (Nat.lt_succ_self _) ⟨(by rw [hw] <;> rfl), rfl, (fr_dec hnt_9), (by omega), ((hnx11 _).symm.trans hr)⟩

def flow_Run (fuel : Nat) (n_0 : Int) (prog_1 : List Line) (vars_2 : List Int) : Option ((List Int) × Int) :=
  (flow_wrong fuel n_0 prog_1).bind fun r1 =>
  (bif (r1 != (0 : Int)) then
  some (([], r1))
  else
  (bif ((vars_2.length : Int) != n_0) then
  some (([], (3 : Int)))
  else
  (slices_ContainsFunc_Sintint vars_2 (fun a => flow_Run_c1 a)).bind fun r3 =>
  (bif r3 then
  some (([], (4 : Int)))
  else
  (slices_Clone_Sintint vars_2).bind fun r5 =>
  (flow_run fuel prog_1 r5).bind fun r9 =>
  some ((r9, (0 : Int))))))

set_option maxRecDepth 100000 in
set_option maxHeartbeats 4000000 in
theorem flow_Run_ok (w0 : World) (m : Snap) (l : List HI) (fuel : Nat) (n_0 : Int) (uprog_1 : Value) (prog_1 : List Line) (hprog_1 : RS rLine m uprog_1 prog_1) (uvars_2 : Value) (vars_2 : List Int) (hvars_2 : RS rI m uvars_2 vars_2) (r : (List Int) × Int) (hr : flow_Run fuel n_0 prog_1 vars_2 = some r) (w : World) (hc : cX w0 ⟨m, l⟩ w) :
    Calls Try.prog 17 [.int .i64 n_0, uprog_1, uvars_2].toArray w fun e w' => ∃ z0 : Value, e = .returned (.tuple #[z0, .int .i64 r.2]) ∧ cX w0 ⟨m, hownT 3 1 encI z0 r.1 :: l⟩ w' := by
  unfold flow_Run at hr
  refine calls_of_Tr (N := 27) Try.func17 rfl hc rfl (Nat.le_of_ble_eq_true rfl) ?_
  refine Tr.seq ?_
  refine Tr.region_f (fun _ => false) ?_
  refine W.q rfl rfl rfl rfl (by decide) (Yd.as rfl .c) ?_
  refine W.q rfl rfl rfl rfl (by decide) (Yd.as rfl .c) ?_
  refine W.end ?_
  refine NX.sub (env' := [(0, _), (1, _), (2, _)]) ⟨rfl, rfl, rfl, trivial⟩ ?_
  refine NX.then ?_
  refine Tr.seq ?_
  refine Tr.seq ?_
  obtain ⟨r1, hr2, hr⟩ := bind_some hr
  refine Tr.region_f (fun _ => false) ?_
  refine W.q rfl rfl rfl rfl (by decide) (Yd.mv rfl (.t rfl)) ?_
  refine W.q rfl rfl rfl rfl (by decide) (Yd.mv rfl (.t rfl)) ?_
  refine W.q rfl rfl rfl rfl (by decide) (Yd.call (v := .int .i64 r1) rfl Try.func41 rfl rfl (.cons (.t rfl) (.cons (.t rfl) .nil)) (fun x' hx w hw => flow_wrong_ok w0 x'.m x'.l fuel n_0 _ _ (hprog_1.mono hx.1) _ hr2 w hw)) ?_
  refine W.q rfl rfl rfl rfl (by decide) (Yd.as rfl (.t rfl)) ?_
  refine W.end ?_
  refine NX.sub (env' := [(0, _), (1, _), (2, _), (8, _)]) ⟨rfl, rfl, rfl, rfl, trivial⟩ ?_
  refine NX.then ?_
  refine Tr.seq ?_
  refine Tr.region_f (fun _ => false) ?_
  refine W.q rfl rfl rfl rfl (by decide) (Yd.mv rfl (.t rfl)) ?_
  refine W.q rfl rfl rfl rfl (by decide) (Yd.neq rfl (.t rfl) .c) ?_
  refine W.end ?_
  refine NX.sub (env' := [(0, _), (1, _), (2, _), (8, _), (13, _)]) ⟨rfl, rfl, rfl, rfl, rfl, trivial⟩ ?_
  refine NX.then ?_
  refine Tr.cond (.t rfl) (fun hb => ?_) (fun hb => ?_)
  · have hr := cond_t hb hr
    refine Tr.seq ?_
    refine Tr.region_f (fun _ => false) ?_
    refine W.q rfl rfl rfl rfl (by decide) (Yd.mv rfl (.t rfl)) ?_
    refine W.q rfl rfl rfl rfl (by decide) (Yd.as rfl .c) ?_
    refine W.q rfl rfl rfl rfl (by decide) (Yd.as rfl (.t rfl)) ?_
    refine W.end ?_
    refine NX.sub (env' := [(6, _), (7, _)]) ⟨rfl, rfl, trivial⟩ ?_
    refine NX.then ?_
    refine Tr.ret' (RT.then ?_)
    refine res2 rfl rfl rfl ?_
    intro w hc
    cases hr
    exact ⟨_, rfl, (cX_nil hc)⟩
  · have hr := cond_f hb hr
    refine Tr.skip' ?_
    refine NX.then ?_
    refine Tr.seq ?_
    refine Tr.seq ?_
    refine Tr.region_f (fun _ => false) ?_
    refine W.q rfl rfl rfl rfl (by decide) (Yd.mv rfl (.t rfl)) ?_
    refine W.q rfl rfl rfl rfl (by decide) (Yd.lenR hvars_2 rfl Try.underlying38 (.t rfl)) ?_
    refine W.q rfl rfl rfl rfl (by decide) (Yd.mv rfl (.t rfl)) ?_
    refine W.q rfl rfl rfl rfl (by decide) (Yd.neq rfl (.t rfl) (.t rfl)) ?_
    refine W.end ?_
    refine NX.sub (env' := [(1, _), (2, _), (18, _)]) ⟨rfl, rfl, rfl, trivial⟩ ?_
    refine NX.then ?_
    refine Tr.cond (.t rfl) (fun hb => ?_) (fun hb => ?_)
    · have hr := cond_t hb hr
      refine Tr.seq ?_
      refine Tr.region_f (fun _ => false) ?_
      refine W.q rfl rfl rfl rfl (by decide) (Yd.as rfl .c) ?_
      refine W.q rfl rfl rfl rfl (by decide) (Yd.as rfl .c) ?_
      refine W.end ?_
      refine NX.sub (env' := [(6, _), (7, _)]) ⟨rfl, rfl, trivial⟩ ?_
      refine NX.then ?_
      refine Tr.ret' (RT.then ?_)
      refine res2 rfl rfl rfl ?_
      intro w hc
      cases hr
      exact ⟨_, rfl, (cX_nil hc)⟩
    · have hr := cond_f hb hr
      refine Tr.skip' ?_
      refine NX.then ?_
      refine Tr.seq ?_
      refine Tr.seq ?_
      obtain ⟨r3, hr4, hr⟩ := bind_some hr
      refine Tr.region_f (fun _ => false) ?_
      refine W.q rfl rfl rfl rfl (by decide) (Yd.mv rfl (.t rfl)) ?_
      refine W.q rfl rfl rfl rfl (by decide) (Yd.call (v := .bool r3) rfl Try.func42 rfl rfl (.cons (.t rfl) (.cons .f .nil)) (fun x' hx w hw => slices_ContainsFunc_Sintint_ok w0 x'.m x'.l _ _ (hvars_2.mono hx.1) _ (fun a => flow_Run_c1 a) ⟨43, _, _, rfl, Try.func43, rfl, rfl, fun y hy w2 hw2 v a r2 hv hr2 => by obtain rfl := hv; exact flow_Run_c1_ok w0 y.m y.l a r2 hr2 w2 hw2⟩ _ hr4 w hw)) ?_
      refine W.end ?_
      refine NX.sub (env' := [(1, _), (2, _), (20, _)]) ⟨rfl, rfl, rfl, trivial⟩ ?_
      refine NX.then ?_
      refine Tr.cond (.t rfl) (fun hb => ?_) (fun hb => ?_)
      · have hr := cond_t hb hr
        refine Tr.seq ?_
        refine Tr.region_f (fun _ => false) ?_
        refine W.q rfl rfl rfl rfl (by decide) (Yd.as rfl .c) ?_
        refine W.q rfl rfl rfl rfl (by decide) (Yd.as rfl .c) ?_
        refine W.end ?_
        refine NX.sub (env' := [(6, _), (7, _)]) ⟨rfl, rfl, trivial⟩ ?_
        refine NX.then ?_
        refine Tr.ret' (RT.then ?_)
        refine res2 rfl rfl rfl ?_
        intro w hc
        cases hr
        exact ⟨_, rfl, (cX_nil hc)⟩
      · have hr := cond_f hb hr
        refine Tr.skip' ?_
        refine NX.then ?_
        refine Tr.seq ?_
        obtain ⟨r5, hr6, hr⟩ := bind_some hr
        refine Tr.region_f (fun i => Nat.beq i 1) ?_
        refine W.q rfl rfl rfl rfl (by decide) (Yd.mv rfl (.t rfl)) ?_
        refine W.e rfl rfl rfl rfl (by decide) (Ef.call (R := fun z x' => ∃ v7 : Value, z = v7 ∧ x' = ⟨m, hownT 3 1 encI v7 r5 :: l⟩) rfl Try.func44 rfl rfl (.cons (.t rfl) .nil) (fun w hw => (slices_Clone_Sintint_ok w0 _ _ _ _ hvars_2 _ hr6 w hw).mono fun e w' ⟨v7, he, hc'⟩ => ⟨_, _, he, ⟨v7, rfl, rfl⟩, hc'⟩)) ?_
        rintro v7 _ ⟨_, rfl, rfl⟩
        refine ⟨.inl rfl, ?_⟩
        refine W.cast (m' := m) (l' := hownT 3 1 encI v7 _ :: l) rfl rfl ?_
        refine W.q rfl rfl rfl rfl (by decide) (Yd.as rfl (.t rfl)) ?_
        refine W.end ?_
        refine NX.sub (env' := [(1, _), (2, _)]) ⟨rfl, rfl, trivial⟩ ?_
        refine NX.then ?_
        refine Tr.seq ?_
        obtain ⟨r9, hr10, hr⟩ := bind_some hr
        refine Tr.region_f (fun i => Nat.beq i 2) ?_
        refine W.q rfl rfl rfl rfl (by decide) (Yd.mv rfl (.t rfl)) ?_
        refine W.q rfl rfl rfl rfl (by decide) (Yd.mv rfl (.t rfl)) ?_
        refine W.e rfl rfl rfl rfl (by decide) (Ef.call (R := fun z x' => z = .tuple #[] ∧ x' = ⟨m, hownT 3 1 encI v7 r9 :: l⟩) rfl Try.func45 rfl rfl (.cons (.t rfl) (.cons (.t rfl) .nil)) (fun w hw => (flow_run_ok w0 _ _ fuel _ _ hprog_1 _ _ _ hr10 w (cX_front (p := 0) hw rfl)).mono fun e w' ⟨he, hc'⟩ => ⟨_, _, he, ⟨rfl, rfl⟩, cX_back (p := 0) hc' rfl⟩)) ?_
        rintro _ _ ⟨rfl, rfl⟩
        refine ⟨.inl rfl, ?_⟩
        refine W.cast (m' := m) (l' := hownT 3 1 encI v7 _ :: l) rfl rfl ?_
        refine W.end ?_
        refine NX.sub (env' := [(2, _)]) ⟨rfl, trivial⟩ ?_
        refine NX.then ?_
        refine Tr.seq ?_
        refine Tr.region_f (fun _ => false) ?_
        refine W.q rfl rfl rfl rfl (by decide) (Yd.mv rfl (.t rfl)) ?_
        refine W.q rfl rfl rfl rfl (by decide) (Yd.as rfl (.t rfl)) ?_
        refine W.q rfl rfl rfl rfl (by decide) (Yd.as rfl .c) ?_
        refine W.end ?_
        refine NX.sub (env' := [(6, _), (7, _)]) ⟨rfl, rfl, trivial⟩ ?_
        refine NX.then ?_
        refine Tr.ret' ?_
        refine res2 rfl rfl rfl ?_
        intro w hc
        cases hr
        exact ⟨_, rfl, hc⟩

def syllogistref_Lines_k9 (many_7 : Int) (most_8 : Int) : Option (Int × Int) :=
  some ((many_7, most_8))

def syllogistref_Lines_b13 (prog_0 : List Line) (deep_1 : Int) (slf : ((List Line) → Int → Option (Int × Int))) (t_12 : Int) (many_4 : Int) (most_5 : Int) (nx14 : (Int × Int) → Option (Int × Int)) : Option (Int × Int) :=
  (geti prog_0 t_12).bind fun y16 =>
  (slf y16.body ((w64 (deep_1 + (1 : Int))))).bind fun r25 =>
  (slf y16.els ((w64 (deep_1 + (1 : Int))))).bind fun r27 =>
  (bif (decide (r25.2 > most_5)) then
  (bif (decide (r27.2 > r25.2)) then
  nx14 ((w64 ((w64 (many_4 + r25.1)) + r27.1)), r27.2)
  else
  nx14 ((w64 ((w64 (many_4 + r25.1)) + r27.1)), r25.2))
  else
  (bif (decide (r27.2 > most_5)) then
  nx14 ((w64 ((w64 (many_4 + r25.1)) + r27.1)), r27.2)
  else
  nx14 ((w64 ((w64 (many_4 + r25.1)) + r27.1)), most_5)))

def syllogistref_Lines_s (slf : ((List Line) → Int → Option (Int × Int))) (prog_0 : List Line) (deep_1 : Int) : Option (Int × Int) :=
  (bif ((prog_0.length : Int) == (0 : Int)) then
  some (((0 : Int), (w64 (deep_1 - (1 : Int)))))
  else
  (bif ((decide (deep_1 > (4 : Int))) || (decide ((prog_0.length : Int) > (12 : Int)))) then
  some (((prog_0.length : Int), deep_1))
  else
  forK (σ := Int × Int) (fun i s nx_ => syllogistref_Lines_b13 prog_0 deep_1 slf i s.1 s.2 nx_) (fun s => syllogistref_Lines_k9 s.1 s.2) ((prog_0.length : Int) - (0 : Int)).toNat (0 : Int) (((prog_0.length : Int)), deep_1)))

def syllogistref_Lines (fuel : Nat) (prog_0 : List Line) (deep_1 : Int) : Option (Int × Int) :=
  match fuel with
  | 0 => none
  | fuel + 1 => syllogistref_Lines_s (syllogistref_Lines fuel) prog_0 deep_1

set_option maxRecDepth 100000 in
set_option maxHeartbeats 4000000 in
theorem syllogistref_Lines_ok (w0 : World) (m : Snap) (l : List HI) (fuel : Nat) : ∀ (uprog_0 : Value) (prog_0 : List Line) (hprog_0 : RS rLine m uprog_0 prog_0) (deep_1 : Int) (r : Int × Int) (_ : syllogistref_Lines fuel prog_0 deep_1 = some r) (w : World) (_ : cX w0 ⟨m, l⟩ w),
    Calls Try.prog 46 [uprog_0, .int .i64 deep_1].toArray w fun e w' => e = .returned (.tuple #[.int .i64 r.1, .int .i64 r.2]) ∧ cX w0 ⟨m, l⟩ w' := by
  induction fuel generalizing m l with
  | zero => intro uprog_0 prog_0 hprog_0 deep_1 r hr; simp [syllogistref_Lines] at hr
  | succ fuel ih =>
  intro uprog_0 prog_0 hprog_0 deep_1 r hr w hc
  replace hr : syllogistref_Lines_s (syllogistref_Lines fuel) prog_0 deep_1 = some r := hr
  obtain ⟨slf, hslf⟩ : ∃ f, f = syllogistref_Lines fuel := ⟨_, rfl⟩
  rw [← hslf] at hr ih
  unfold syllogistref_Lines_s at hr
  refine calls_of_Tr (N := 68) Try.func46 rfl hc rfl (Nat.le_of_ble_eq_true rfl) ?_
  refine Tr.seq ?_
  refine Tr.region_f (fun _ => false) ?_
  refine W.q rfl rfl rfl rfl (by decide) (Yd.as rfl .c) ?_
  refine W.q rfl rfl rfl rfl (by decide) (Yd.as rfl .c) ?_
  refine W.end ?_
  refine NX.sub (env' := [(0, _), (1, _)]) ⟨rfl, rfl, trivial⟩ ?_
  refine NX.then ?_
  refine Tr.seq ?_
  refine Tr.seq ?_
  refine Tr.region_f (fun _ => false) ?_
  refine W.q rfl rfl rfl rfl (by decide) (Yd.mv rfl (.t rfl)) ?_
  refine W.q rfl rfl rfl rfl (by decide) (Yd.lenR hprog_0 rfl Try.underlying37 (.t rfl)) ?_
  refine W.q rfl rfl rfl rfl (by decide) (Yd.eql rfl (.t rfl) .c) ?_
  refine W.end ?_
  refine NX.sub (env' := [(0, _), (1, _), (16, _)]) ⟨rfl, rfl, rfl, trivial⟩ ?_
  refine NX.then ?_
  refine Tr.cond (.t rfl) (fun hb => ?_) (fun hb => ?_)
  · have hr := cond_t hb hr
    refine Tr.seq ?_
    refine Tr.region_f (fun _ => false) ?_
    refine W.q rfl rfl rfl rfl (by decide) (Yd.mv rfl (.t rfl)) ?_
    refine W.q rfl rfl rfl rfl (by decide) (Yd.sub rfl (.t rfl) .c) ?_
    refine W.q rfl rfl rfl rfl (by decide) (Yd.as rfl .c) ?_
    refine W.q rfl rfl rfl rfl (by decide) (Yd.as rfl (.t rfl)) ?_
    refine W.end ?_
    refine NX.sub (env' := [(4, _), (5, _)]) ⟨rfl, rfl, trivial⟩ ?_
    refine NX.then ?_
    refine Tr.ret' (RT.then ?_)
    refine res2 rfl rfl rfl ?_
    intro w hc
    cases hr
    exact ⟨rfl, hc⟩
  · have hr := cond_f hb hr
    refine Tr.skip' ?_
    refine NX.then ?_
    refine Tr.seq ?_
    refine Tr.region_f (fun _ => false) ?_
    refine W.q rfl rfl rfl rfl (by decide) (Yd.mv rfl (.t rfl)) ?_
    refine W.q rfl rfl rfl rfl (by decide) (Yd.lenR hprog_0 rfl Try.underlying37 (.t rfl)) ?_
    refine W.q rfl rfl rfl rfl (by decide) (Yd.as rfl (.t rfl)) ?_
    refine W.end ?_
    refine NX.sub (env' := [(0, _), (1, _), (6, _)]) ⟨rfl, rfl, rfl, trivial⟩ ?_
    refine NX.then ?_
    refine Tr.seq ?_
    refine Tr.region_f (fun _ => false) ?_
    refine W.q rfl rfl rfl rfl (by decide) (Yd.mv rfl (.t rfl)) ?_
    refine W.q rfl rfl rfl rfl (by decide) (Yd.as rfl (.t rfl)) ?_
    refine W.end ?_
    refine NX.sub (env' := [(0, _), (1, _), (6, _), (7, _)]) ⟨rfl, rfl, rfl, rfl, trivial⟩ ?_
    refine NX.then ?_
    refine Tr.seq ?_
    refine Tr.seq ?_
    refine Tr.region_f (fun _ => false) ?_
    refine W.q rfl rfl rfl rfl (by decide) (Yd.mv rfl (.t rfl)) ?_
    refine W.q rfl rfl rfl rfl (by decide) (Yd.gtr rfl (.t rfl) .c) ?_
    refine W.q rfl rfl rfl rfl (by decide) (Yd.mv rfl (.t rfl)) ?_
    refine W.g rfl rfl rfl rfl rfl (.t rfl _) rfl (by decide) (fun hG => Yd.mv rfl (.t rfl)) ?_
    refine W.g rfl rfl rfl rfl rfl (.t rfl _) rfl (by decide) (fun hG => Yd.gtr rfl (.g rfl hG) .c) ?_
    refine W.q rfl rfl rfl rfl (by decide) (Yd.or rfl (.t rfl) .c rfl rfl) ?_
    refine W.end ?_
    refine NX.sub (env' := [(0, _), (1, _), (6, _), (7, _), (27, _)]) ⟨rfl, rfl, rfl, rfl, rfl, trivial⟩ ?_
    refine NX.then ?_
    refine Tr.cond (.t rfl) (fun hb => ?_) (fun hb => ?_)
    · have hr := cond_t hb hr
      refine Tr.seq ?_
      refine Tr.region_f (fun _ => false) ?_
      refine W.q rfl rfl rfl rfl (by decide) (Yd.mv rfl (.t rfl)) ?_
      refine W.q rfl rfl rfl rfl (by decide) (Yd.mv rfl (.t rfl)) ?_
      refine W.q rfl rfl rfl rfl (by decide) (Yd.as rfl (.t rfl)) ?_
      refine W.q rfl rfl rfl rfl (by decide) (Yd.as rfl (.t rfl)) ?_
      refine W.end ?_
      refine NX.sub (env' := [(4, _), (5, _)]) ⟨rfl, rfl, trivial⟩ ?_
      refine NX.then ?_
      refine Tr.ret' (RT.then ?_)
      refine res2 rfl rfl rfl ?_
      intro w hc
      cases hr
      exact ⟨rfl, hc⟩
    · have hr := cond_f hb hr
      refine Tr.skip' ?_
      refine NX.then ?_
      refine Tr.seq ?_
      refine Tr.seq ?_
      refine Tr.region_f (fun _ => false) ?_
      refine W.q rfl rfl rfl rfl (by decide) (Yd.mv rfl (.t rfl)) ?_
      refine W.q rfl rfl rfl rfl (by decide) (Yd.lenR hprog_0 rfl Try.underlying37 (.t rfl)) ?_
      refine W.q rfl rfl rfl rfl (by decide) (Yd.mv rfl .c) ?_
      refine W.end ?_
      refine NX.sub (env' := [(1, _), (6, _), (7, _), (30, _), (31, _), (32, _)]) ⟨rfl, rfl, rfl, rfl, rfl, rfl, trivial⟩ ?_
      refine NX.then ?_
      refine Tr.join (S := fun env x => ∃ many_7 : Int, ∃ most_8 : Int, env = [(6, .int .i64 many_7), (7, .int .i64 most_8)] ∧ x = ⟨m, l⟩ ∧ syllogistref_Lines_k9 many_7 most_8 = some r) ?_ (fun hk10 => ?_)
      · rintro _ _ ⟨many_7, most_8, rfl, rfl, hr⟩
        unfold syllogistref_Lines_k9 at hr
        try dsimp only at hr
        refine NX.then ?_
        refine Tr.seq ?_
        refine Tr.region_f (fun _ => false) ?_
        refine W.q rfl rfl rfl rfl (by decide) (Yd.mv rfl (.t rfl)) ?_
        refine W.q rfl rfl rfl rfl (by decide) (Yd.mv rfl (.t rfl)) ?_
        refine W.q rfl rfl rfl rfl (by decide) (Yd.as rfl (.t rfl)) ?_
        refine W.q rfl rfl rfl rfl (by decide) (Yd.as rfl (.t rfl)) ?_
        refine W.end ?_
        refine NX.sub (env' := [(4, _), (5, _)]) ⟨rfl, rfl, trivial⟩ ?_
        refine NX.then ?_
        refine Tr.ret' ?_
        refine res2 rfl rfl rfl ?_
        intro w hc
        cases hr
        exact ⟨rfl, hc⟩
      have hlen11 := (hprog_0).2.1
      refine Tr.block ?_
      refine Tr.sub (env' := [(1, _), (6, _), (7, _), (30, _), (31, _), (32, _)]) ⟨rfl, rfl, rfl, rfl, rfl, rfl, trivial⟩ ?_
      refine Tr.loop (S := fun n (z : Int × Int × Int) env x => match z with | (t_12, many_4, most_5) => env = [(1, .int .i64 deep_1), (6, .int .i64 many_4), (7, .int .i64 most_5), (30, uprog_0), (31, .int .i64 ((prog_0.length : Int))), (32, .int .i64 t_12)] ∧ x = ⟨m, l⟩ ∧ n = ((prog_0.length : Int) - t_12).toNat ∧ 0 ≤ t_12 ∧ forK (σ := Int × Int) (fun i s nx_ => syllogistref_Lines_b13 prog_0 deep_1 slf i s.1 s.2 nx_) (fun s => syllogistref_Lines_k9 s.1 s.2) n t_12 (many_4, most_5) = some r) _ ((0 : Int), (prog_0.length : Int), deep_1) ⟨rfl, rfl, rfl, (by omega), hr⟩ ?_
      rintro n15 ⟨t_12, many_4, most_5⟩ env x ⟨rfl, rfl, hnt_12, h0t_12, hr⟩
      cases n15 with
      | zero =>
        simp only [forK] at hr
        refine Tr.seq ?_
        refine Tr.region_f (fun _ => false) ?_
        refine W.q rfl rfl rfl rfl (by decide) (Yd.lss rfl (.t rfl) (.t rfl)) ?_
        refine W.end ?_
        refine NX.sub (env' := [(1, _), (6, _), (7, _), (30, _), (31, _), (32, _), (33, _)]) ⟨rfl, rfl, rfl, rfl, rfl, rfl, rfl, trivial⟩ ?_
        refine NX.then ?_
        refine Tr.seq ?_
        refine Tr.cond (.t rfl) (fun hb => ?_) (fun hb => ?_)
        · exact absurd (hb.symm.trans (fr_end hnt_12)) (by decide)
        ·
          refine Tr.exit' (EX.then (EX.then (EX.block ?_)))
          refine NX.sub (env' := [(6, _), (7, _)]) ⟨rfl, rfl, trivial⟩ ?_
          exact hk10 _ _ ⟨_, _, rfl, rfl, hr⟩
      | succ n15 =>
        obtain ⟨nx14, hnx14, hr⟩ := forK_succ hr
        try dsimp only at hr
        unfold syllogistref_Lines_b13 at hr
        try dsimp only at hr
        have hltt_12 := fr_bnd hnt_12
        refine Tr.seq ?_
        refine Tr.region_f (fun _ => false) ?_
        refine W.q rfl rfl rfl rfl (by decide) (Yd.lss rfl (.t rfl) (.t rfl)) ?_
        refine W.end ?_
        refine NX.sub (env' := [(1, _), (6, _), (7, _), (30, _), (31, _), (32, _), (33, _)]) ⟨rfl, rfl, rfl, rfl, rfl, rfl, rfl, trivial⟩ ?_
        refine NX.then ?_
        refine Tr.seq ?_
        refine Tr.cond (.t rfl) (fun hb => ?_) (fun hb => ?_)
        rotate_left
        · exact absurd (hb.symm.trans (fr_go hnt_12)) (by decide)
        ·
          refine Tr.skip' ?_
          refine NX.then ?_
          refine Tr.seq ?_
          refine Tr.block ?_
          refine Tr.seq ?_
          obtain ⟨y16, hy17, hr⟩ := bind_some hr
          refine Tr.region_f (fun i => Nat.beq i 2 || Nat.beq i 3) ?_
          refine W.q rfl rfl rfl rfl (by decide) (Yd.idxR hprog_0 hy17 rfl Try.underlying37 SZ86 (.t rfl) (.t rfl)) ?_
          obtain ⟨_, ⟨u18, u20, rfl, hu19, hu21⟩, hat22⟩ := rLine_el hprog_0 hy17
          refine W.q rfl rfl rfl rfl (by decide) (Yd.ldRs hat22 (.refl _) rfl ON86 US86 SZ86 rfl (.t rfl)) ?_
          refine W.e rfl rfl rfl rfl (by decide) (Ef.al rfl ZR86 rfl) ?_
          rintro _ _ ⟨b23, rfl, rfl⟩
          refine ⟨.inl rfl, ?_⟩
          refine W.cast (m' := m) (l' := hcells b23 [_, _, _, _, _, _, _] 86 :: l) rfl rfl ?_
          refine W.s rfl rfl rfl rfl (Ef.stBs (pos := 0) (us := [.int .i64 y16.kind, .int .i64 y16.to, .int .i64 y16.a, .int .i64 y16.b, .int .i64 y16.val, u18, u20]) (cs' := [_, _, _, _, _, _, _]) (.cons (On.lit rfl) (.cons (On.lit rfl) (.cons (On.lit rfl) (.cons (On.lit rfl) (.cons (On.lit rfl) (.cons (On.ro hu19) (.cons (On.ro hu21) .nil))))))) rfl rfl (.t rfl) (.t rfl) SZ86 rfl rfl (Nat.le_of_ble_eq_true rfl) rfl) ?_
          rintro _ _ ⟨rfl, rfl⟩
          refine ⟨.inl rfl, ?_⟩
          refine W.cast (m' := m) (l' := hcells b23 [_, _, _, _, _, _, _] 86 :: l) rfl rfl ?_
          refine W.end ?_
          refine NX.sub (env' := [(1, _), (6, _), (7, _), (30, _), (31, _), (32, _), (9, _)]) ⟨rfl, rfl, rfl, rfl, rfl, rfl, rfl, trivial⟩ ?_
          refine NX.then ?_
          refine Tr.seq ?_
          obtain ⟨r25, hr26, hr⟩ := bind_some hr
          refine Tr.region_f (fun _ => false) ?_
          refine W.q rfl rfl rfl rfl (by decide) (Yd.fldB rfl Try.underlying86 rfl SZ37 rfl (.t rfl)) ?_
          refine W.q rfl rfl rfl rfl (by decide) (Yd.ldB (pos := 0) rfl rfl rfl ON37 (.t rfl)) ?_
          refine W.q rfl rfl rfl rfl (by decide) (Yd.mv rfl (.t rfl)) ?_
          refine W.q rfl rfl rfl rfl (by decide) (Yd.add rfl (.t rfl) .c) ?_
          refine W.q rfl rfl rfl rfl (by decide) (Yd.call (v := .tuple #[.int .i64 r25.1, .int .i64 r25.2]) rfl Try.func46 rfl rfl (.cons (.t rfl) (.cons (.t rfl) .nil)) (fun x' hx w hw => ih x'.m x'.l _ _ (hu19.mono hx.1) ((w64 (deep_1 + (1 : Int)))) _ hr26 w hw)) ?_
          refine W.q rfl rfl rfl rfl (by decide) (Yd.mv rfl (.t rfl)) ?_
          refine W.q rfl rfl rfl rfl (by decide) (Yd.ext rfl (.t rfl) rfl) ?_
          refine W.q rfl rfl rfl rfl (by decide) (Yd.ext rfl (.t rfl) rfl) ?_
          refine W.q rfl rfl rfl rfl (by decide) (Yd.as rfl (.t rfl)) ?_
          refine W.q rfl rfl rfl rfl (by decide) (Yd.as rfl (.t rfl)) ?_
          refine W.end ?_
          refine NX.sub (env' := [(1, _), (6, _), (7, _), (30, _), (31, _), (32, _), (9, _), (10, _), (11, _)]) ⟨rfl, rfl, rfl, rfl, rfl, rfl, rfl, rfl, rfl, trivial⟩ ?_
          refine NX.then ?_
          refine Tr.seq ?_
          obtain ⟨r27, hr28, hr⟩ := bind_some hr
          refine Tr.region_f (fun _ => false) ?_
          refine W.q rfl rfl rfl rfl (by decide) (Yd.fldB rfl Try.underlying86 rfl SZ37 rfl (.t rfl)) ?_
          refine W.q rfl rfl rfl rfl (by decide) (Yd.ldB (pos := 0) rfl rfl rfl ON37 (.t rfl)) ?_
          refine W.q rfl rfl rfl rfl (by decide) (Yd.mv rfl (.t rfl)) ?_
          refine W.q rfl rfl rfl rfl (by decide) (Yd.add rfl (.t rfl) .c) ?_
          refine W.q rfl rfl rfl rfl (by decide) (Yd.call (v := .tuple #[.int .i64 r27.1, .int .i64 r27.2]) rfl Try.func46 rfl rfl (.cons (.t rfl) (.cons (.t rfl) .nil)) (fun x' hx w hw => ih x'.m x'.l _ _ (hu21.mono hx.1) ((w64 (deep_1 + (1 : Int)))) _ hr28 w hw)) ?_
          refine W.q rfl rfl rfl rfl (by decide) (Yd.mv rfl (.t rfl)) ?_
          refine W.q rfl rfl rfl rfl (by decide) (Yd.ext rfl (.t rfl) rfl) ?_
          refine W.q rfl rfl rfl rfl (by decide) (Yd.ext rfl (.t rfl) rfl) ?_
          refine W.q rfl rfl rfl rfl (by decide) (Yd.as rfl (.t rfl)) ?_
          refine W.q rfl rfl rfl rfl (by decide) (Yd.as rfl (.t rfl)) ?_
          refine W.end ?_
          refine NX.sub (env' := [(1, _), (6, _), (7, _), (30, _), (31, _), (32, _), (10, _), (11, _), (12, _), (13, _)]) ⟨rfl, rfl, rfl, rfl, rfl, rfl, rfl, rfl, rfl, rfl, trivial⟩ ?_
          refine NX.drop (l' := l) (.cons _ (.refl _)) ?_
          refine NX.then ?_
          refine Tr.seq ?_
          refine Tr.region_f (fun _ => false) ?_
          refine W.q rfl rfl rfl rfl (by decide) (Yd.mv rfl (.t rfl)) ?_
          refine W.q rfl rfl rfl rfl (by decide) (Yd.mv rfl (.t rfl)) ?_
          refine W.q rfl rfl rfl rfl (by decide) (Yd.add rfl (.t rfl) (.t rfl)) ?_
          refine W.q rfl rfl rfl rfl (by decide) (Yd.mv rfl (.t rfl)) ?_
          refine W.q rfl rfl rfl rfl (by decide) (Yd.add rfl (.t rfl) (.t rfl)) ?_
          refine W.q rfl rfl rfl rfl (by decide) (Yd.as rfl (.t rfl)) ?_
          refine W.end ?_
          refine NX.sub (env' := [(1, _), (6, _), (7, _), (30, _), (31, _), (32, _), (11, _), (13, _)]) ⟨rfl, rfl, rfl, rfl, rfl, rfl, rfl, rfl, trivial⟩ ?_
          refine NX.then ?_
          refine Tr.seq ?_
          refine Tr.seq ?_
          refine Tr.region_f (fun _ => false) ?_
          refine W.q rfl rfl rfl rfl (by decide) (Yd.mv rfl (.t rfl)) ?_
          refine W.q rfl rfl rfl rfl (by decide) (Yd.mv rfl (.t rfl)) ?_
          refine W.q rfl rfl rfl rfl (by decide) (Yd.gtr rfl (.t rfl) (.t rfl)) ?_
          refine W.end ?_
          refine NX.sub (env' := [(1, _), (6, _), (7, _), (30, _), (31, _), (32, _), (11, _), (13, _), (59, _)]) ⟨rfl, rfl, rfl, rfl, rfl, rfl, rfl, rfl, rfl, trivial⟩ ?_
          refine NX.then ?_
          refine Tr.cond (.t rfl) (fun hb => ?_) (fun hb => ?_)
          · have hr := cond_t hb hr
            refine Tr.region_f (fun _ => false) ?_
            refine W.q rfl rfl rfl rfl (by decide) (Yd.mv rfl (.t rfl)) ?_
            refine W.q rfl rfl rfl rfl (by decide) (Yd.as rfl (.t rfl)) ?_
            refine W.end ?_
            refine NX.sub (env' := [(1, _), (6, _), (7, _), (30, _), (31, _), (32, _), (13, _)]) ⟨rfl, rfl, rfl, rfl, rfl, rfl, rfl, trivial⟩ ?_
            refine NX.then ?_
            refine Tr.seq ?_
            refine Tr.region_f (fun _ => false) ?_
            refine W.q rfl rfl rfl rfl (by decide) (Yd.mv rfl (.t rfl)) ?_
            refine W.q rfl rfl rfl rfl (by decide) (Yd.mv rfl (.t rfl)) ?_
            refine W.q rfl rfl rfl rfl (by decide) (Yd.gtr rfl (.t rfl) (.t rfl)) ?_
            refine W.end ?_
            refine NX.sub (env' := [(1, _), (6, _), (7, _), (30, _), (31, _), (32, _), (13, _), (63, _)]) ⟨rfl, rfl, rfl, rfl, rfl, rfl, rfl, rfl, trivial⟩ ?_
            refine NX.then ?_
            refine Tr.cond (.t rfl) (fun hb => ?_) (fun hb => ?_)
            · have hr := cond_t hb hr
              refine Tr.region_f (fun _ => false) ?_
              refine W.q rfl rfl rfl rfl (by decide) (Yd.mv rfl (.t rfl)) ?_
              refine W.q rfl rfl rfl rfl (by decide) (Yd.as rfl (.t rfl)) ?_
              refine W.end ?_
              refine NX.sub (env' := [(1, _), (6, _), (7, _), (30, _), (31, _), (32, _)]) ⟨rfl, rfl, rfl, rfl, rfl, rfl, trivial⟩ ?_
              refine NX.block ?_
              refine NX.then ?_
              refine Tr.region_f (fun _ => false) ?_
              refine W.q rfl rfl rfl rfl (by decide) (Yd.add rfl (.t rfl) .c) ?_
              refine W.q rfl rfl rfl rfl (by decide) (Yd.mv rfl (.t rfl)) ?_
              refine W.end ?_
              refine NX.sub (env' := [(1, _), (6, _), (7, _), (30, _), (31, _), (32, _)]) ⟨rfl, rfl, rfl, rfl, rfl, rfl, trivial⟩ ?_
              refine NX.sub (env' := [(1, _), (6, _), (7, _), (30, _), (31, _), (32, _)]) ⟨rfl, rfl, rfl, rfl, rfl, rfl, trivial⟩ ?_
              have hw := w64_id (n := t_12 + 1) (by omega) (by omega)
              exact NX.again n15 (t_12 + 1, (w64 ((w64 (many_4 + r25.1)) + r27.1)), r27.2) (Nat.lt_succ_self _) ⟨(by rw [hw] <;> rfl), rfl, (fr_dec hnt_12), (by omega), ((hnx14 _).symm.trans hr)⟩
            · have hr := cond_f hb hr
              refine Tr.skip' ?_
              refine NX.block ?_
              refine NX.then ?_
              refine Tr.region_f (fun _ => false) ?_
              refine W.q rfl rfl rfl rfl (by decide) (Yd.add rfl (.t rfl) .c) ?_
              refine W.q rfl rfl rfl rfl (by decide) (Yd.mv rfl (.t rfl)) ?_
              refine W.end ?_
              refine NX.sub (env' := [(1, _), (6, _), (7, _), (30, _), (31, _), (32, _)]) ⟨rfl, rfl, rfl, rfl, rfl, rfl, trivial⟩ ?_
              refine NX.sub (env' := [(1, _), (6, _), (7, _), (30, _), (31, _), (32, _)]) ⟨rfl, rfl, rfl, rfl, rfl, rfl, trivial⟩ ?_
              have hw := w64_id (n := t_12 + 1) (by omega) (by omega)
              exact NX.again n15 (t_12 + 1, (w64 ((w64 (many_4 + r25.1)) + r27.1)), r25.2) (Nat.lt_succ_self _) ⟨(by rw [hw] <;> rfl), rfl, (fr_dec hnt_12), (by omega), ((hnx14 _).symm.trans hr)⟩
          · have hr := cond_f hb hr
            refine Tr.skip' ?_
            refine NX.then ?_
            refine Tr.seq ?_
            refine Tr.region_f (fun _ => false) ?_
            refine W.q rfl rfl rfl rfl (by decide) (Yd.mv rfl (.t rfl)) ?_
            refine W.q rfl rfl rfl rfl (by decide) (Yd.mv rfl (.t rfl)) ?_
            refine W.q rfl rfl rfl rfl (by decide) (Yd.gtr rfl (.t rfl) (.t rfl)) ?_
            refine W.end ?_
            refine NX.sub (env' := [(1, _), (6, _), (7, _), (30, _), (31, _), (32, _), (13, _), (63, _)]) ⟨rfl, rfl, rfl, rfl, rfl, rfl, rfl, rfl, trivial⟩ ?_
            refine NX.then ?_
            refine Tr.cond (.t rfl) (fun hb => ?_) (fun hb => ?_)
            · have hr := cond_t hb hr
              refine Tr.region_f (fun _ => false) ?_
              refine W.q rfl rfl rfl rfl (by decide) (Yd.mv rfl (.t rfl)) ?_
              refine W.q rfl rfl rfl rfl (by decide) (Yd.as rfl (.t rfl)) ?_
              refine W.end ?_
              refine NX.sub (env' := [(1, _), (6, _), (7, _), (30, _), (31, _), (32, _)]) ⟨rfl, rfl, rfl, rfl, rfl, rfl, trivial⟩ ?_
              refine NX.block ?_
              refine NX.then ?_
              refine Tr.region_f (fun _ => false) ?_
              refine W.q rfl rfl rfl rfl (by decide) (Yd.add rfl (.t rfl) .c) ?_
              refine W.q rfl rfl rfl rfl (by decide) (Yd.mv rfl (.t rfl)) ?_
              refine W.end ?_
              refine NX.sub (env' := [(1, _), (6, _), (7, _), (30, _), (31, _), (32, _)]) ⟨rfl, rfl, rfl, rfl, rfl, rfl, trivial⟩ ?_
              refine NX.sub (env' := [(1, _), (6, _), (7, _), (30, _), (31, _), (32, _)]) ⟨rfl, rfl, rfl, rfl, rfl, rfl, trivial⟩ ?_
              have hw := w64_id (n := t_12 + 1) (by omega) (by omega)
              exact NX.again n15 (t_12 + 1, (w64 ((w64 (many_4 + r25.1)) + r27.1)), r27.2) (Nat.lt_succ_self _) ⟨(by rw [hw] <;> rfl), rfl, (fr_dec hnt_12), (by omega), ((hnx14 _).symm.trans hr)⟩
            · have hr := cond_f hb hr
              refine Tr.skip' ?_
              refine NX.block ?_
              refine NX.then ?_
              refine Tr.region_f (fun _ => false) ?_
              refine W.q rfl rfl rfl rfl (by decide) (Yd.add rfl (.t rfl) .c) ?_
              refine W.q rfl rfl rfl rfl (by decide) (Yd.mv rfl (.t rfl)) ?_
              refine W.end ?_
              refine NX.sub (env' := [(1, _), (6, _), (7, _), (30, _), (31, _), (32, _)]) ⟨rfl, rfl, rfl, rfl, rfl, rfl, trivial⟩ ?_
              refine NX.sub (env' := [(1, _), (6, _), (7, _), (30, _), (31, _), (32, _)]) ⟨rfl, rfl, rfl, rfl, rfl, rfl, trivial⟩ ?_
              have hw := w64_id (n := t_12 + 1) (by omega) (by omega)
              exact NX.again n15 (t_12 + 1, (w64 ((w64 (many_4 + r25.1)) + r27.1)), most_5) (Nat.lt_succ_self _) ⟨(by rw [hw] <;> rfl), rfl, (fr_dec hnt_12), (by omega), ((hnx14 _).symm.trans hr)⟩

def syllogistref_LinesCheck_k3 : Option (Int) :=
  some ((0 : Int))

def syllogistref_LinesCheck_k20 (n_0 : Int) (slf : (Int → (List Line) → Option (Int))) (nx8 : (Unit → Option (Int))) (y10 : Line) (bad_19 : Bool) : Option (Int) :=
  (bif bad_19 then
  some ((2 : Int))
  else
  (slf n_0 y10.body).bind fun r22 =>
  (bif (r22 == (0 : Int)) then
  (slf n_0 y10.els).bind fun r24 =>
  (bif (r24 != (0 : Int)) then
  some r24
  else
  nx8 ())
  else
  (bif (r22 != (0 : Int)) then
  some r22
  else
  nx8 ())))

def syllogistref_LinesCheck_b7 (n_0 : Int) (prog_1 : List Line) (slf : (Int → (List Line) → Option (Int))) (t_6 : Int) (nx8 : Unit → Option (Int)) : Option (Int) :=
  (geti prog_1 t_6).bind fun y10 =>
  (bif (((y10.kind != (1 : Int)) && (y10.kind != (2 : Int))) && (y10.kind != (3 : Int))) then
  some ((6 : Int))
  else
  (bif (y10.kind == (1 : Int)) then
  syllogistref_LinesCheck_k20 n_0 slf nx8 y10 (((((((decide (y10.to < (0 : Int))) || (decide (y10.to ≥ n_0))) || (decide (y10.a < (-1 : Int)))) || (decide (y10.a ≥ n_0))) || (decide (y10.b < (-1 : Int)))) || (decide (y10.b ≥ n_0))))
  else
  syllogistref_LinesCheck_k20 n_0 slf nx8 y10 (((decide (y10.a < (0 : Int))) || (decide (y10.a ≥ n_0))))))

def syllogistref_LinesCheck_s (slf : (Int → (List Line) → Option (Int))) (n_0 : Int) (prog_1 : List Line) : Option (Int) :=
  forK (σ := Unit) (fun i s nx_ => syllogistref_LinesCheck_b7 n_0 prog_1 slf i nx_) (fun _ => syllogistref_LinesCheck_k3) ((prog_1.length : Int) - (0 : Int)).toNat (0 : Int) ()

def syllogistref_LinesCheck (fuel : Nat) (n_0 : Int) (prog_1 : List Line) : Option (Int) :=
  match fuel with
  | 0 => none
  | fuel + 1 => syllogistref_LinesCheck_s (syllogistref_LinesCheck fuel) n_0 prog_1

set_option maxRecDepth 100000 in
set_option maxHeartbeats 4000000 in
theorem syllogistref_LinesCheck_ok (w0 : World) (m : Snap) (l : List HI) (fuel : Nat) : ∀ (n_0 : Int) (uprog_1 : Value) (prog_1 : List Line) (hprog_1 : RS rLine m uprog_1 prog_1) (r : Int) (_ : syllogistref_LinesCheck fuel n_0 prog_1 = some r) (w : World) (_ : cX w0 ⟨m, l⟩ w),
    Calls Try.prog 47 [.int .i64 n_0, uprog_1].toArray w fun e w' => e = .returned (.int .i64 r) ∧ cX w0 ⟨m, l⟩ w' := by
  induction fuel generalizing m l with
  | zero => intro n_0 uprog_1 prog_1 hprog_1 r hr; simp [syllogistref_LinesCheck] at hr
  | succ fuel ih =>
  intro n_0 uprog_1 prog_1 hprog_1 r hr w hc
  replace hr : syllogistref_LinesCheck_s (syllogistref_LinesCheck fuel) n_0 prog_1 = some r := hr
  obtain ⟨slf, hslf⟩ : ∃ f, f = syllogistref_LinesCheck fuel := ⟨_, rfl⟩
  rw [← hslf] at hr ih
  unfold syllogistref_LinesCheck_s at hr
  refine calls_of_Tr (N := 86) Try.func47 rfl hc rfl (Nat.le_of_ble_eq_true rfl) ?_
  refine Tr.seq ?_
  refine Tr.region_f (fun _ => false) ?_
  refine W.q rfl rfl rfl rfl (by decide) (Yd.as rfl .c) ?_
  refine W.end ?_
  refine NX.sub (env' := [(0, _), (1, _)]) ⟨rfl, rfl, trivial⟩ ?_
  refine NX.then ?_
  refine Tr.seq ?_
  refine Tr.seq ?_
  refine Tr.region_f (fun _ => false) ?_
  refine W.q rfl rfl rfl rfl (by decide) (Yd.mv rfl (.t rfl)) ?_
  refine W.q rfl rfl rfl rfl (by decide) (Yd.lenR hprog_1 rfl Try.underlying37 (.t rfl)) ?_
  refine W.q rfl rfl rfl rfl (by decide) (Yd.mv rfl .c) ?_
  refine W.end ?_
  refine NX.sub (env' := [(0, _), (9, _), (10, _), (11, _)]) ⟨rfl, rfl, rfl, rfl, trivial⟩ ?_
  refine NX.then ?_
  refine Tr.join (S := fun env x => env = [] ∧ x = ⟨m, l⟩ ∧ syllogistref_LinesCheck_k3 = some r) ?_ (fun hk4 => ?_)
  · rintro _ _ ⟨rfl, rfl, hr⟩
    unfold syllogistref_LinesCheck_k3 at hr
    try dsimp only at hr
    refine NX.then ?_
    refine Tr.seq ?_
    refine Tr.region_f (fun _ => false) ?_
    refine W.q rfl rfl rfl rfl (by decide) (Yd.as rfl .c) ?_
    refine W.end ?_
    refine NX.sub (env' := [(4, _)]) ⟨rfl, trivial⟩ ?_
    refine NX.then ?_
    refine Tr.ret' ?_
    refine res1 rfl rfl ?_
    intro w hc
    cases hr
    exact ⟨rfl, hc⟩
  have hlen5 := (hprog_1).2.1
  refine Tr.block ?_
  refine Tr.sub (env' := [(0, _), (9, _), (10, _), (11, _)]) ⟨rfl, rfl, rfl, rfl, trivial⟩ ?_
  refine Tr.loop (S := fun n (z : Int × Unit) env x => match z with | (t_6, _) => env = [(0, .int .i64 n_0), (9, uprog_1), (10, .int .i64 ((prog_1.length : Int))), (11, .int .i64 t_6)] ∧ x = ⟨m, l⟩ ∧ n = ((prog_1.length : Int) - t_6).toNat ∧ 0 ≤ t_6 ∧ forK (σ := Unit) (fun i s nx_ => syllogistref_LinesCheck_b7 n_0 prog_1 slf i nx_) (fun _ => syllogistref_LinesCheck_k3) n t_6 () = some r) _ ((0 : Int), ()) ⟨rfl, rfl, rfl, (by omega), hr⟩ ?_
  rintro n9 ⟨t_6, _⟩ env x ⟨rfl, rfl, hnt_6, h0t_6, hr⟩
  cases n9 with
  | zero =>
    simp only [forK] at hr
    refine Tr.seq ?_
    refine Tr.region_f (fun _ => false) ?_
    refine W.q rfl rfl rfl rfl (by decide) (Yd.lss rfl (.t rfl) (.t rfl)) ?_
    refine W.end ?_
    refine NX.sub (env' := [(0, _), (9, _), (10, _), (11, _), (12, _)]) ⟨rfl, rfl, rfl, rfl, rfl, trivial⟩ ?_
    refine NX.then ?_
    refine Tr.seq ?_
    refine Tr.cond (.t rfl) (fun hb => ?_) (fun hb => ?_)
    · exact absurd (hb.symm.trans (fr_end hnt_6)) (by decide)
    ·
      refine Tr.exit' (EX.then (EX.then (EX.block ?_)))
      refine NX.sub (env' := []) trivial ?_
      exact hk4 _ _ ⟨rfl, rfl, hr⟩
  | succ n9 =>
    obtain ⟨nx8, hnx8, hr⟩ := forK_succ hr
    try dsimp only at hr
    unfold syllogistref_LinesCheck_b7 at hr
    try dsimp only at hr
    have hltt_6 := fr_bnd hnt_6
    refine Tr.seq ?_
    refine Tr.region_f (fun _ => false) ?_
    refine W.q rfl rfl rfl rfl (by decide) (Yd.lss rfl (.t rfl) (.t rfl)) ?_
    refine W.end ?_
    refine NX.sub (env' := [(0, _), (9, _), (10, _), (11, _), (12, _)]) ⟨rfl, rfl, rfl, rfl, rfl, trivial⟩ ?_
    refine NX.then ?_
    refine Tr.seq ?_
    refine Tr.cond (.t rfl) (fun hb => ?_) (fun hb => ?_)
    rotate_left
    · exact absurd (hb.symm.trans (fr_go hnt_6)) (by decide)
    ·
      refine Tr.skip' ?_
      refine NX.then ?_
      refine Tr.seq ?_
      refine Tr.block ?_
      refine Tr.seq ?_
      obtain ⟨y10, hy11, hr⟩ := bind_some hr
      refine Tr.region_f (fun i => Nat.beq i 2 || Nat.beq i 3) ?_
      refine W.q rfl rfl rfl rfl (by decide) (Yd.idxR hprog_1 hy11 rfl Try.underlying37 SZ86 (.t rfl) (.t rfl)) ?_
      obtain ⟨_, ⟨u12, u14, rfl, hu13, hu15⟩, hat16⟩ := rLine_el hprog_1 hy11
      refine W.q rfl rfl rfl rfl (by decide) (Yd.ldRs hat16 (.refl _) rfl ON86 US86 SZ86 rfl (.t rfl)) ?_
      refine W.e rfl rfl rfl rfl (by decide) (Ef.al rfl ZR86 rfl) ?_
      rintro _ _ ⟨b17, rfl, rfl⟩
      refine ⟨.inl rfl, ?_⟩
      refine W.cast (m' := m) (l' := hcells b17 [_, _, _, _, _, _, _] 86 :: l) rfl rfl ?_
      refine W.s rfl rfl rfl rfl (Ef.stBs (pos := 0) (us := [.int .i64 y10.kind, .int .i64 y10.to, .int .i64 y10.a, .int .i64 y10.b, .int .i64 y10.val, u12, u14]) (cs' := [_, _, _, _, _, _, _]) (.cons (On.lit rfl) (.cons (On.lit rfl) (.cons (On.lit rfl) (.cons (On.lit rfl) (.cons (On.lit rfl) (.cons (On.ro hu13) (.cons (On.ro hu15) .nil))))))) rfl rfl (.t rfl) (.t rfl) SZ86 rfl rfl (Nat.le_of_ble_eq_true rfl) rfl) ?_
      rintro _ _ ⟨rfl, rfl⟩
      refine ⟨.inl rfl, ?_⟩
      refine W.cast (m' := m) (l' := hcells b17 [_, _, _, _, _, _, _] 86 :: l) rfl rfl ?_
      refine W.end ?_
      refine NX.sub (env' := [(0, _), (9, _), (10, _), (11, _), (6, _)]) ⟨rfl, rfl, rfl, rfl, rfl, trivial⟩ ?_
      refine NX.then ?_
      refine Tr.seq ?_
      refine Tr.seq ?_
      refine Tr.region_f (fun _ => false) ?_
      refine W.q rfl rfl rfl rfl (by decide) (Yd.fldB rfl Try.underlying86 rfl SZ3 rfl (.t rfl)) ?_
      refine W.q rfl rfl rfl rfl (by decide) (Yd.ldB (pos := 0) rfl rfl rfl ON3 (.t rfl)) ?_
      refine W.q rfl rfl rfl rfl (by decide) (Yd.neq rfl (.t rfl) .c) ?_
      refine W.q rfl rfl rfl rfl (by decide) (Yd.mv rfl (.t rfl)) ?_
      refine W.g rfl rfl rfl rfl rfl (.t rfl _) rfl (by decide) (fun hG => Yd.fldB rfl Try.underlying86 rfl SZ3 rfl (.t rfl)) ?_
      refine W.g rfl rfl rfl rfl rfl (.t rfl _) rfl (by decide) (fun hG => Yd.ldB (pos := 0) rfl rfl rfl ON3 (.g rfl hG)) ?_
      refine W.g rfl rfl rfl rfl rfl (.t rfl _) rfl (by decide) (fun hG => Yd.neq rfl (.g rfl hG) .c) ?_
      refine W.q rfl rfl rfl rfl (by decide) (Yd.and rfl (.t rfl) .c rfl rfl) ?_
      refine W.q rfl rfl rfl rfl (by decide) (Yd.mv rfl (.t rfl)) ?_
      refine W.g rfl rfl rfl rfl rfl (.t rfl _) rfl (by decide) (fun hG => Yd.fldB rfl Try.underlying86 rfl SZ3 rfl (.t rfl)) ?_
      refine W.g rfl rfl rfl rfl rfl (.t rfl _) rfl (by decide) (fun hG => Yd.ldB (pos := 0) rfl rfl rfl ON3 (.g rfl hG)) ?_
      refine W.g rfl rfl rfl rfl rfl (.t rfl _) rfl (by decide) (fun hG => Yd.neq rfl (.g rfl hG) .c) ?_
      refine W.q rfl rfl rfl rfl (by decide) (Yd.and rfl (.t rfl) .c rfl rfl) ?_
      refine W.end ?_
      refine NX.sub (env' := [(0, _), (9, _), (10, _), (11, _), (6, _), (27, _)]) ⟨rfl, rfl, rfl, rfl, rfl, rfl, trivial⟩ ?_
      refine NX.then ?_
      refine Tr.cond (.t rfl) (fun hb => ?_) (fun hb => ?_)
      · have hr := cond_t hb hr
        refine Tr.seq ?_
        refine Tr.region_f (fun _ => false) ?_
        refine W.q rfl rfl rfl rfl (by decide) (Yd.as rfl .c) ?_
        refine W.end ?_
        refine NX.sub (env' := [(4, _)]) ⟨rfl, trivial⟩ ?_
        refine NX.drop (l' := l) (.cons _ (.refl _)) ?_
        refine NX.then ?_
        refine Tr.ret' (RT.then (RT.block (RT.then (RT.then (RT.block (RT.then ?_))))))
        refine res1 rfl rfl ?_
        intro w hc
        cases hr
        exact ⟨rfl, hc⟩
      · have hr := cond_f hb hr
        refine Tr.skip' ?_
        refine NX.then ?_
        refine Tr.seq ?_
        refine Tr.region_f (fun _ => false) ?_
        refine W.q rfl rfl rfl rfl (by decide) (Yd.fldB rfl Try.underlying86 rfl SZ3 rfl (.t rfl)) ?_
        refine W.q rfl rfl rfl rfl (by decide) (Yd.ldB (pos := 0) rfl rfl rfl ON3 (.t rfl)) ?_
        refine W.q rfl rfl rfl rfl (by decide) (Yd.lss rfl (.t rfl) .c) ?_
        refine W.q rfl rfl rfl rfl (by decide) (Yd.mv rfl (.t rfl)) ?_
        refine W.g rfl rfl rfl rfl rfl (.t rfl _) rfl (by decide) (fun hG => Yd.fldB rfl Try.underlying86 rfl SZ3 rfl (.t rfl)) ?_
        refine W.g rfl rfl rfl rfl rfl (.t rfl _) rfl (by decide) (fun hG => Yd.ldB (pos := 0) rfl rfl rfl ON3 (.g rfl hG)) ?_
        refine W.g rfl rfl rfl rfl rfl (.t rfl _) rfl (by decide) (fun hG => Yd.mv rfl (.t rfl)) ?_
        refine W.g rfl rfl rfl rfl rfl (.t rfl _) rfl (by decide) (fun hG => Yd.geq rfl (.g rfl hG) (.g rfl hG)) ?_
        refine W.q rfl rfl rfl rfl (by decide) (Yd.or rfl (.t rfl) .c rfl rfl) ?_
        refine W.q rfl rfl rfl rfl (by decide) (Yd.as rfl (.t rfl)) ?_
        refine W.end ?_
        refine NX.sub (env' := [(0, _), (9, _), (10, _), (11, _), (6, _), (7, _)]) ⟨rfl, rfl, rfl, rfl, rfl, rfl, trivial⟩ ?_
        refine NX.then ?_
        refine Tr.seq ?_
        refine Tr.seq ?_
        refine Tr.region_f (fun _ => false) ?_
        refine W.q rfl rfl rfl rfl (by decide) (Yd.fldB rfl Try.underlying86 rfl SZ3 rfl (.t rfl)) ?_
        refine W.q rfl rfl rfl rfl (by decide) (Yd.ldB (pos := 0) rfl rfl rfl ON3 (.t rfl)) ?_
        refine W.q rfl rfl rfl rfl (by decide) (Yd.eql rfl (.t rfl) .c) ?_
        refine W.end ?_
        refine NX.sub (env' := [(0, _), (9, _), (10, _), (11, _), (6, _), (7, _), (39, _)]) ⟨rfl, rfl, rfl, rfl, rfl, rfl, rfl, trivial⟩ ?_
        refine NX.then ?_
        refine Tr.join (S := fun env x => ∃ bad_19 : Bool, env = [(0, .int .i64 n_0), (9, uprog_1), (10, .int .i64 ((prog_1.length : Int))), (11, .int .i64 t_6), (6, bp b17 0), (7, .bool bad_19)] ∧ x = ⟨m, hcells b17 [.int .i64 y10.kind, .int .i64 y10.to, .int .i64 y10.a, .int .i64 y10.b, .int .i64 y10.val, u12, u14] 86 :: l⟩ ∧ syllogistref_LinesCheck_k20 n_0 slf nx8 y10 bad_19 = some r) ?_ (fun hk21 => ?_)
        · rintro _ _ ⟨bad_19, rfl, rfl, hr⟩
          unfold syllogistref_LinesCheck_k20 at hr
          try dsimp only at hr
          refine NX.then ?_
          refine Tr.seq ?_
          refine Tr.seq ?_
          refine Tr.region_f (fun _ => false) ?_
          refine W.q rfl rfl rfl rfl (by decide) (Yd.mv rfl (.t rfl)) ?_
          refine W.end ?_
          refine NX.sub (env' := [(0, _), (9, _), (10, _), (11, _), (6, _), (71, _)]) ⟨rfl, rfl, rfl, rfl, rfl, rfl, trivial⟩ ?_
          refine NX.then ?_
          refine Tr.cond (.t rfl) (fun hb => ?_) (fun hb => ?_)
          · have hr := cond_t hb hr
            refine Tr.seq ?_
            refine Tr.region_f (fun _ => false) ?_
            refine W.q rfl rfl rfl rfl (by decide) (Yd.as rfl .c) ?_
            refine W.end ?_
            refine NX.sub (env' := [(4, _)]) ⟨rfl, trivial⟩ ?_
            refine NX.drop (l' := l) (.cons _ (.refl _)) ?_
            refine NX.then ?_
            refine Tr.ret' (RT.then (RT.block (RT.then (RT.then (RT.block (RT.then ?_))))))
            refine res1 rfl rfl ?_
            intro w hc
            cases hr
            exact ⟨rfl, hc⟩
          · have hr := cond_f hb hr
            refine Tr.skip' ?_
            refine NX.then ?_
            refine Tr.seq ?_
            obtain ⟨r22, hr23, hr⟩ := bind_some hr
            refine Tr.region_f (fun _ => false) ?_
            refine W.q rfl rfl rfl rfl (by decide) (Yd.mv rfl (.t rfl)) ?_
            refine W.q rfl rfl rfl rfl (by decide) (Yd.fldB rfl Try.underlying86 rfl SZ37 rfl (.t rfl)) ?_
            refine W.q rfl rfl rfl rfl (by decide) (Yd.ldB (pos := 0) rfl rfl rfl ON37 (.t rfl)) ?_
            refine W.q rfl rfl rfl rfl (by decide) (Yd.call (v := .int .i64 r22) rfl Try.func47 rfl rfl (.cons (.t rfl) (.cons (.t rfl) .nil)) (fun x' hx w hw => ih x'.m x'.l n_0 _ _ (hu13.mono hx.1) _ hr23 w hw)) ?_
            refine W.q rfl rfl rfl rfl (by decide) (Yd.as rfl (.t rfl)) ?_
            refine W.end ?_
            refine NX.sub (env' := [(0, _), (9, _), (10, _), (11, _), (6, _), (8, _)]) ⟨rfl, rfl, rfl, rfl, rfl, rfl, trivial⟩ ?_
            refine NX.then ?_
            refine Tr.seq ?_
            refine Tr.seq ?_
            refine Tr.region_f (fun _ => false) ?_
            refine W.q rfl rfl rfl rfl (by decide) (Yd.mv rfl (.t rfl)) ?_
            refine W.q rfl rfl rfl rfl (by decide) (Yd.eql rfl (.t rfl) .c) ?_
            refine W.end ?_
            refine NX.sub (env' := [(0, _), (9, _), (10, _), (11, _), (6, _), (8, _), (77, _)]) ⟨rfl, rfl, rfl, rfl, rfl, rfl, rfl, trivial⟩ ?_
            refine NX.then ?_
            refine Tr.cond (.t rfl) (fun hb => ?_) (fun hb => ?_)
            · have hr := cond_t hb hr
              obtain ⟨r24, hr25, hr⟩ := bind_some hr
              refine Tr.region_f (fun _ => false) ?_
              refine W.q rfl rfl rfl rfl (by decide) (Yd.mv rfl (.t rfl)) ?_
              refine W.q rfl rfl rfl rfl (by decide) (Yd.fldB rfl Try.underlying86 rfl SZ37 rfl (.t rfl)) ?_
              refine W.q rfl rfl rfl rfl (by decide) (Yd.ldB (pos := 0) rfl rfl rfl ON37 (.t rfl)) ?_
              refine W.q rfl rfl rfl rfl (by decide) (Yd.call (v := .int .i64 r24) rfl Try.func47 rfl rfl (.cons (.t rfl) (.cons (.t rfl) .nil)) (fun x' hx w hw => ih x'.m x'.l n_0 _ _ (hu15.mono hx.1) _ hr25 w hw)) ?_
              refine W.q rfl rfl rfl rfl (by decide) (Yd.as rfl (.t rfl)) ?_
              refine W.end ?_
              refine NX.sub (env' := [(0, _), (9, _), (10, _), (11, _), (8, _)]) ⟨rfl, rfl, rfl, rfl, rfl, trivial⟩ ?_
              refine NX.drop (l' := l) (.cons _ (.refl _)) ?_
              refine NX.then ?_
              refine Tr.seq ?_
              refine Tr.region_f (fun _ => false) ?_
              refine W.q rfl rfl rfl rfl (by decide) (Yd.mv rfl (.t rfl)) ?_
              refine W.q rfl rfl rfl rfl (by decide) (Yd.neq rfl (.t rfl) .c) ?_
              refine W.end ?_
              refine NX.sub (env' := [(0, _), (9, _), (10, _), (11, _), (8, _), (83, _)]) ⟨rfl, rfl, rfl, rfl, rfl, rfl, trivial⟩ ?_
              refine NX.then ?_
              refine Tr.cond (.t rfl) (fun hb => ?_) (fun hb => ?_)
              · have hr := cond_t hb hr
                refine Tr.seq ?_
                refine Tr.region_f (fun _ => false) ?_
                refine W.q rfl rfl rfl rfl (by decide) (Yd.mv rfl (.t rfl)) ?_
                refine W.q rfl rfl rfl rfl (by decide) (Yd.as rfl (.t rfl)) ?_
                refine W.end ?_
                refine NX.sub (env' := [(4, _)]) ⟨rfl, trivial⟩ ?_
                refine NX.then ?_
                refine Tr.ret' (RT.block (RT.then (RT.then (RT.block (RT.then ?_)))))
                refine res1 rfl rfl ?_
                intro w hc
                cases hr
                exact ⟨rfl, hc⟩
              · have hr := cond_f hb hr
                refine Tr.skip' ?_
                refine NX.block ?_
                refine NX.then ?_
                refine Tr.region_f (fun _ => false) ?_
                refine W.q rfl rfl rfl rfl (by decide) (Yd.add rfl (.t rfl) .c) ?_
                refine W.q rfl rfl rfl rfl (by decide) (Yd.mv rfl (.t rfl)) ?_
                refine W.end ?_
                refine NX.sub (env' := [(0, _), (9, _), (10, _), (11, _)]) ⟨rfl, rfl, rfl, rfl, trivial⟩ ?_
                refine NX.sub (env' := [(0, _), (9, _), (10, _), (11, _)]) ⟨rfl, rfl, rfl, rfl, trivial⟩ ?_
                have hw := w64_id (n := t_6 + 1) (by omega) (by omega)
                exact NX.again n9 (t_6 + 1, ()) (Nat.lt_succ_self _) ⟨(by rw [hw] <;> rfl), rfl, (fr_dec hnt_6), (by omega), ((hnx8 _).symm.trans hr)⟩
            · have hr := cond_f hb hr
              refine Tr.skip' ?_
              refine NX.then ?_
              refine Tr.seq ?_
              refine Tr.region_f (fun _ => false) ?_
              refine W.q rfl rfl rfl rfl (by decide) (Yd.mv rfl (.t rfl)) ?_
              refine W.q rfl rfl rfl rfl (by decide) (Yd.neq rfl (.t rfl) .c) ?_
              refine W.end ?_
              refine NX.sub (env' := [(0, _), (9, _), (10, _), (11, _), (8, _), (83, _)]) ⟨rfl, rfl, rfl, rfl, rfl, rfl, trivial⟩ ?_
              refine NX.drop (l' := l) (.cons _ (.refl _)) ?_
              refine NX.then ?_
              refine Tr.cond (.t rfl) (fun hb => ?_) (fun hb => ?_)
              · have hr := cond_t hb hr
                refine Tr.seq ?_
                refine Tr.region_f (fun _ => false) ?_
                refine W.q rfl rfl rfl rfl (by decide) (Yd.mv rfl (.t rfl)) ?_
                refine W.q rfl rfl rfl rfl (by decide) (Yd.as rfl (.t rfl)) ?_
                refine W.end ?_
                refine NX.sub (env' := [(4, _)]) ⟨rfl, trivial⟩ ?_
                refine NX.then ?_
                refine Tr.ret' (RT.block (RT.then (RT.then (RT.block (RT.then ?_)))))
                refine res1 rfl rfl ?_
                intro w hc
                cases hr
                exact ⟨rfl, hc⟩
              · have hr := cond_f hb hr
                refine Tr.skip' ?_
                refine NX.block ?_
                refine NX.then ?_
                refine Tr.region_f (fun _ => false) ?_
                refine W.q rfl rfl rfl rfl (by decide) (Yd.add rfl (.t rfl) .c) ?_
                refine W.q rfl rfl rfl rfl (by decide) (Yd.mv rfl (.t rfl)) ?_
                refine W.end ?_
                refine NX.sub (env' := [(0, _), (9, _), (10, _), (11, _)]) ⟨rfl, rfl, rfl, rfl, trivial⟩ ?_
                refine NX.sub (env' := [(0, _), (9, _), (10, _), (11, _)]) ⟨rfl, rfl, rfl, rfl, trivial⟩ ?_
                have hw := w64_id (n := t_6 + 1) (by omega) (by omega)
                exact NX.again n9 (t_6 + 1, ()) (Nat.lt_succ_self _) ⟨(by rw [hw] <;> rfl), rfl, (fr_dec hnt_6), (by omega), ((hnx8 _).symm.trans hr)⟩
        refine Tr.cond (.t rfl) (fun hb => ?_) (fun hb => ?_)
        · have hr := cond_t hb hr
          refine Tr.region_f (fun _ => false) ?_
          refine W.q rfl rfl rfl rfl (by decide) (Yd.fldB rfl Try.underlying86 rfl SZ3 rfl (.t rfl)) ?_
          refine W.q rfl rfl rfl rfl (by decide) (Yd.ldB (pos := 0) rfl rfl rfl ON3 (.t rfl)) ?_
          refine W.q rfl rfl rfl rfl (by decide) (Yd.lss rfl (.t rfl) .c) ?_
          refine W.q rfl rfl rfl rfl (by decide) (Yd.mv rfl (.t rfl)) ?_
          refine W.g rfl rfl rfl rfl rfl (.t rfl _) rfl (by decide) (fun hG => Yd.fldB rfl Try.underlying86 rfl SZ3 rfl (.t rfl)) ?_
          refine W.g rfl rfl rfl rfl rfl (.t rfl _) rfl (by decide) (fun hG => Yd.ldB (pos := 0) rfl rfl rfl ON3 (.g rfl hG)) ?_
          refine W.g rfl rfl rfl rfl rfl (.t rfl _) rfl (by decide) (fun hG => Yd.mv rfl (.t rfl)) ?_
          refine W.g rfl rfl rfl rfl rfl (.t rfl _) rfl (by decide) (fun hG => Yd.geq rfl (.g rfl hG) (.g rfl hG)) ?_
          refine W.q rfl rfl rfl rfl (by decide) (Yd.or rfl (.t rfl) .c rfl rfl) ?_
          refine W.q rfl rfl rfl rfl (by decide) (Yd.mv rfl (.t rfl)) ?_
          refine W.g rfl rfl rfl rfl rfl (.t rfl _) rfl (by decide) (fun hG => Yd.fldB rfl Try.underlying86 rfl SZ3 rfl (.t rfl)) ?_
          refine W.g rfl rfl rfl rfl rfl (.t rfl _) rfl (by decide) (fun hG => Yd.ldB (pos := 0) rfl rfl rfl ON3 (.g rfl hG)) ?_
          refine W.g rfl rfl rfl rfl rfl (.t rfl _) rfl (by decide) (fun hG => Yd.lss rfl (.g rfl hG) .c) ?_
          refine W.q rfl rfl rfl rfl (by decide) (Yd.or rfl (.t rfl) .c rfl rfl) ?_
          refine W.q rfl rfl rfl rfl (by decide) (Yd.mv rfl (.t rfl)) ?_
          refine W.g rfl rfl rfl rfl rfl (.t rfl _) rfl (by decide) (fun hG => Yd.fldB rfl Try.underlying86 rfl SZ3 rfl (.t rfl)) ?_
          refine W.g rfl rfl rfl rfl rfl (.t rfl _) rfl (by decide) (fun hG => Yd.ldB (pos := 0) rfl rfl rfl ON3 (.g rfl hG)) ?_
          refine W.g rfl rfl rfl rfl rfl (.t rfl _) rfl (by decide) (fun hG => Yd.mv rfl (.t rfl)) ?_
          refine W.g rfl rfl rfl rfl rfl (.t rfl _) rfl (by decide) (fun hG => Yd.geq rfl (.g rfl hG) (.g rfl hG)) ?_
          refine W.q rfl rfl rfl rfl (by decide) (Yd.or rfl (.t rfl) .c rfl rfl) ?_
          refine W.q rfl rfl rfl rfl (by decide) (Yd.mv rfl (.t rfl)) ?_
          refine W.g rfl rfl rfl rfl rfl (.t rfl _) rfl (by decide) (fun hG => Yd.fldB rfl Try.underlying86 rfl SZ3 rfl (.t rfl)) ?_
          refine W.g rfl rfl rfl rfl rfl (.t rfl _) rfl (by decide) (fun hG => Yd.ldB (pos := 0) rfl rfl rfl ON3 (.g rfl hG)) ?_
          refine W.g rfl rfl rfl rfl rfl (.t rfl _) rfl (by decide) (fun hG => Yd.lss rfl (.g rfl hG) .c) ?_
          refine W.q rfl rfl rfl rfl (by decide) (Yd.or rfl (.t rfl) .c rfl rfl) ?_
          refine W.q rfl rfl rfl rfl (by decide) (Yd.mv rfl (.t rfl)) ?_
          refine W.g rfl rfl rfl rfl rfl (.t rfl _) rfl (by decide) (fun hG => Yd.fldB rfl Try.underlying86 rfl SZ3 rfl (.t rfl)) ?_
          refine W.g rfl rfl rfl rfl rfl (.t rfl _) rfl (by decide) (fun hG => Yd.ldB (pos := 0) rfl rfl rfl ON3 (.g rfl hG)) ?_
          refine W.g rfl rfl rfl rfl rfl (.t rfl _) rfl (by decide) (fun hG => Yd.mv rfl (.t rfl)) ?_
          refine W.g rfl rfl rfl rfl rfl (.t rfl _) rfl (by decide) (fun hG => Yd.geq rfl (.g rfl hG) (.g rfl hG)) ?_
          refine W.q rfl rfl rfl rfl (by decide) (Yd.or rfl (.t rfl) .c rfl rfl) ?_
          refine W.q rfl rfl rfl rfl (by decide) (Yd.as rfl (.t rfl)) ?_
          refine W.end ?_
          refine NX.sub (env' := [(0, _), (9, _), (10, _), (11, _), (6, _), (7, _)]) ⟨rfl, rfl, rfl, rfl, rfl, rfl, trivial⟩ ?_
          refine NX.sub (env' := [(0, _), (9, _), (10, _), (11, _), (6, _), (7, _)]) ⟨rfl, rfl, rfl, rfl, rfl, rfl, trivial⟩ ?_
          exact hk21 _ _ ⟨_, rfl, rfl, hr⟩
        · have hr := cond_f hb hr
          refine Tr.skip' ?_
          refine NX.sub (env' := [(0, _), (9, _), (10, _), (11, _), (6, _), (7, _)]) ⟨rfl, rfl, rfl, rfl, rfl, rfl, trivial⟩ ?_
          exact hk21 _ _ ⟨_, rfl, rfl, hr⟩

def syllogistref_ProgCheck (fuel : Nat) (n_0 : Int) (prog_1 : List Line) : Option (Int) :=
  (syllogistref_Lines fuel prog_1 ((1 : Int))).bind fun r1 =>
  (bif ((((decide (n_0 < (1 : Int))) || (decide (n_0 > (6 : Int)))) || (decide (r1.1 > (12 : Int)))) || (decide (r1.2 > (4 : Int)))) then
  some ((1 : Int))
  else
  (syllogistref_LinesCheck fuel n_0 prog_1).bind fun r3 =>
  some r3)

set_option maxRecDepth 100000 in
set_option maxHeartbeats 4000000 in
theorem syllogistref_ProgCheck_ok (w0 : World) (m : Snap) (l : List HI) (fuel : Nat) (n_0 : Int) (uprog_1 : Value) (prog_1 : List Line) (hprog_1 : RS rLine m uprog_1 prog_1) (r : Int) (hr : syllogistref_ProgCheck fuel n_0 prog_1 = some r) (w : World) (hc : cX w0 ⟨m, l⟩ w) :
    Calls Try.prog 18 [.int .i64 n_0, uprog_1].toArray w fun e w' => e = .returned (.int .i64 r) ∧ cX w0 ⟨m, l⟩ w' := by
  unfold syllogistref_ProgCheck at hr
  refine calls_of_Tr (N := 29) Try.func18 rfl hc rfl (Nat.le_of_ble_eq_true rfl) ?_
  refine Tr.seq ?_
  refine Tr.region_f (fun _ => false) ?_
  refine W.q rfl rfl rfl rfl (by decide) (Yd.as rfl .c) ?_
  refine W.end ?_
  refine NX.sub (env' := [(0, _), (1, _)]) ⟨rfl, rfl, trivial⟩ ?_
  refine NX.then ?_
  refine Tr.seq ?_
  obtain ⟨r1, hr2, hr⟩ := bind_some hr
  refine Tr.region_f (fun _ => false) ?_
  refine W.q rfl rfl rfl rfl (by decide) (Yd.mv rfl (.t rfl)) ?_
  refine W.q rfl rfl rfl rfl (by decide) (Yd.call (v := .tuple #[.int .i64 r1.1, .int .i64 r1.2]) rfl Try.func46 rfl rfl (.cons (.t rfl) (.cons .c .nil)) (fun x' hx w hw => syllogistref_Lines_ok w0 x'.m x'.l fuel _ _ (hprog_1.mono hx.1) ((1 : Int)) _ hr2 w hw)) ?_
  refine W.q rfl rfl rfl rfl (by decide) (Yd.mv rfl (.t rfl)) ?_
  refine W.q rfl rfl rfl rfl (by decide) (Yd.ext rfl (.t rfl) rfl) ?_
  refine W.q rfl rfl rfl rfl (by decide) (Yd.ext rfl (.t rfl) rfl) ?_
  refine W.q rfl rfl rfl rfl (by decide) (Yd.as rfl (.t rfl)) ?_
  refine W.q rfl rfl rfl rfl (by decide) (Yd.as rfl (.t rfl)) ?_
  refine W.end ?_
  refine NX.sub (env' := [(0, _), (1, _), (5, _), (6, _)]) ⟨rfl, rfl, rfl, rfl, trivial⟩ ?_
  refine NX.then ?_
  refine Tr.seq ?_
  refine Tr.seq ?_
  refine Tr.region_f (fun _ => false) ?_
  refine W.q rfl rfl rfl rfl (by decide) (Yd.mv rfl (.t rfl)) ?_
  refine W.q rfl rfl rfl rfl (by decide) (Yd.lss rfl (.t rfl) .c) ?_
  refine W.q rfl rfl rfl rfl (by decide) (Yd.mv rfl (.t rfl)) ?_
  refine W.g rfl rfl rfl rfl rfl (.t rfl _) rfl (by decide) (fun hG => Yd.mv rfl (.t rfl)) ?_
  refine W.g rfl rfl rfl rfl rfl (.t rfl _) rfl (by decide) (fun hG => Yd.gtr rfl (.g rfl hG) .c) ?_
  refine W.q rfl rfl rfl rfl (by decide) (Yd.or rfl (.t rfl) .c rfl rfl) ?_
  refine W.q rfl rfl rfl rfl (by decide) (Yd.mv rfl (.t rfl)) ?_
  refine W.g rfl rfl rfl rfl rfl (.t rfl _) rfl (by decide) (fun hG => Yd.mv rfl (.t rfl)) ?_
  refine W.g rfl rfl rfl rfl rfl (.t rfl _) rfl (by decide) (fun hG => Yd.gtr rfl (.g rfl hG) .c) ?_
  refine W.q rfl rfl rfl rfl (by decide) (Yd.or rfl (.t rfl) .c rfl rfl) ?_
  refine W.q rfl rfl rfl rfl (by decide) (Yd.mv rfl (.t rfl)) ?_
  refine W.g rfl rfl rfl rfl rfl (.t rfl _) rfl (by decide) (fun hG => Yd.mv rfl (.t rfl)) ?_
  refine W.g rfl rfl rfl rfl rfl (.t rfl _) rfl (by decide) (fun hG => Yd.gtr rfl (.g rfl hG) .c) ?_
  refine W.q rfl rfl rfl rfl (by decide) (Yd.or rfl (.t rfl) .c rfl rfl) ?_
  refine W.end ?_
  refine NX.sub (env' := [(0, _), (1, _), (25, _)]) ⟨rfl, rfl, rfl, trivial⟩ ?_
  refine NX.then ?_
  refine Tr.cond (.t rfl) (fun hb => ?_) (fun hb => ?_)
  · have hr := cond_t hb hr
    refine Tr.seq ?_
    refine Tr.region_f (fun _ => false) ?_
    refine W.q rfl rfl rfl rfl (by decide) (Yd.as rfl .c) ?_
    refine W.end ?_
    refine NX.sub (env' := [(4, _)]) ⟨rfl, trivial⟩ ?_
    refine NX.then ?_
    refine Tr.ret' (RT.then ?_)
    refine res1 rfl rfl ?_
    intro w hc
    cases hr
    exact ⟨rfl, hc⟩
  · have hr := cond_f hb hr
    refine Tr.skip' ?_
    refine NX.then ?_
    refine Tr.seq ?_
    obtain ⟨r3, hr4, hr⟩ := bind_some hr
    refine Tr.region_f (fun _ => false) ?_
    refine W.q rfl rfl rfl rfl (by decide) (Yd.mv rfl (.t rfl)) ?_
    refine W.q rfl rfl rfl rfl (by decide) (Yd.mv rfl (.t rfl)) ?_
    refine W.q rfl rfl rfl rfl (by decide) (Yd.call (v := .int .i64 r3) rfl Try.func47 rfl rfl (.cons (.t rfl) (.cons (.t rfl) .nil)) (fun x' hx w hw => syllogistref_LinesCheck_ok w0 x'.m x'.l fuel n_0 _ _ (hprog_1.mono hx.1) _ hr4 w hw)) ?_
    refine W.q rfl rfl rfl rfl (by decide) (Yd.as rfl (.t rfl)) ?_
    refine W.end ?_
    refine NX.sub (env' := [(4, _)]) ⟨rfl, trivial⟩ ?_
    refine NX.then ?_
    refine Tr.ret' ?_
    refine res1 rfl rfl ?_
    intro w hc
    cases hr
    exact ⟨rfl, hc⟩

def syllogistref_Run_k15 (vars_11 : List Int) : Option ((List Int)) :=
  some vars_11

def syllogistref_Run_k35 (vars_6 : List Int) (nx20 : ((List Int) → Option ((List Int)))) (y22 : Line) (sum_34 : Int) : Option ((List Int)) :=
  bif decide ((([] : List Int)).length + vars_6.length ≤ 17592186044416) then
  (geti ((([] : List Int) ++ vars_6)) y22.to).bind fun y41 =>
  nx20 (((([] : List Int) ++ vars_6)).set y22.to.toNat ((((w64 (sum_34 + (8 : Int)))).tmod ((8 : Int))))) else none

def syllogistref_Run_k32 (vars_6 : List Int) (nx20 : ((List Int) → Option ((List Int)))) (y22 : Line) (sum_31 : Int) : Option ((List Int)) :=
  (bif (decide (y22.b ≥ (0 : Int))) then
  (geti vars_6 y22.b).bind fun y45 =>
  syllogistref_Run_k35 vars_6 nx20 y22 ((w64 (sum_31 + y45)))
  else
  syllogistref_Run_k35 vars_6 nx20 y22 sum_31)

def syllogistref_Run_k77 (nx20 : ((List Int) → Option ((List Int)))) (vars_73 : List Int) : Option ((List Int)) :=
  nx20 vars_73

def syllogistref_Run_b79 (slf : ((List Line) → (List Int) → Option ((List Int)))) (nx20 : ((List Int) → Option ((List Int)))) (y22 : Line) (vars_68 : List Int) (k_71 : Int) (nx80 : ((List Int) × Int) → Option ((List Int))) : Option ((List Int)) :=
  (bif (decide (k_71 > (0 : Int))) then
  (slf y22.body vars_68).bind fun r82 =>
  nx80 (r82, (w64 (k_71 - (1 : Int))))
  else
  syllogistref_Run_k77 nx20 vars_68)

def syllogistref_Run_b19 (prog_0 : List Line) (slf : ((List Line) → (List Int) → Option ((List Int)))) (fuel : Nat) (t_18 : Int) (vars_6 : List Int) (nx20 : (List Int) → Option ((List Int))) : Option ((List Int)) :=
  (geti prog_0 t_18).bind fun y22 =>
  (bif (y22.kind == (1 : Int)) then
  (bif (decide (y22.a ≥ (0 : Int))) then
  (geti vars_6 y22.a).bind fun y47 =>
  syllogistref_Run_k32 vars_6 nx20 y22 ((w64 ((y22.val.tmod ((8 : Int))) + y47)))
  else
  syllogistref_Run_k32 vars_6 nx20 y22 ((y22.val.tmod ((8 : Int)))))
  else
  (bif (y22.kind == (2 : Int)) then
  (geti vars_6 y22.a).bind fun y49 =>
  (bif (y49 != (0 : Int)) then
  (slf y22.body vars_6).bind fun r51 =>
  nx20 r51
  else
  (slf y22.els vars_6).bind fun r56 =>
  nx20 r56)
  else
  (bif (y22.kind == (3 : Int)) then
  (geti vars_6 y22.a).bind fun y61 =>
  whileK (σ := (List Int) × Int) (fun s nx_ => syllogistref_Run_b79 slf nx20 y22 s.1 s.2 nx_) fuel (vars_6, y61)
  else
  nx20 vars_6)))

def syllogistref_Run_s (slf : ((List Line) → (List Int) → Option ((List Int)))) (fuel : Nat) (prog_0 : List Line) (vars_1 : List Int) : Option ((List Int)) :=
  forK (σ := (List Int)) (fun i s nx_ => syllogistref_Run_b19 prog_0 slf fuel i s nx_) (fun s => syllogistref_Run_k15 s) ((prog_0.length : Int) - (0 : Int)).toNat (0 : Int) vars_1

def syllogistref_Run (fuel : Nat) (prog_0 : List Line) (vars_1 : List Int) : Option ((List Int)) :=
  match fuel with
  | 0 => none
  | fuel + 1 => syllogistref_Run_s (syllogistref_Run fuel) fuel prog_0 vars_1

set_option maxRecDepth 100000 in
set_option maxHeartbeats 4000000 in
theorem syllogistref_Run_ok (w0 : World) (m : Snap) (l : List HI) (fuel : Nat) : ∀ (uprog_0 : Value) (prog_0 : List Line) (hprog_0 : RS rLine m uprog_0 prog_0) (uvars_1 : Value) (vars_1 : List Int) (hvars_1 : RS rI m uvars_1 vars_1) (r : (List Int)) (_ : syllogistref_Run fuel prog_0 vars_1 = some r) (w : World) (_ : cX w0 ⟨m, l⟩ w),
    Calls Try.prog 20 [uprog_0, uvars_1].toArray w fun e w' => ∃ z0 : Value, ∃ m1 : Snap, e = .returned (z0) ∧ Sle m m1 ∧ RS rI m1 z0 r ∧ cX w0 ⟨m1, l⟩ w' := by
  induction fuel generalizing m l with
  | zero => intro uprog_0 prog_0 hprog_0 uvars_1 vars_1 hvars_1 r hr; simp [syllogistref_Run] at hr
  | succ fuel ih =>
  intro uprog_0 prog_0 hprog_0 uvars_1 vars_1 hvars_1 r hr w hc
  replace hr : syllogistref_Run_s (syllogistref_Run fuel) fuel prog_0 vars_1 = some r := hr
  obtain ⟨slf, hslf⟩ : ∃ f, f = syllogistref_Run fuel := ⟨_, rfl⟩
  rw [← hslf] at hr ih
  unfold syllogistref_Run_s at hr
  refine calls_of_Tr (N := 85) Try.func20 rfl hc rfl (Nat.le_of_ble_eq_true rfl) ?_
  refine Tr.seq ?_
  refine Tr.region_f (fun _ => false) ?_
  refine W.q rfl rfl rfl rfl (by decide) (Yd.as rfl .c) ?_
  refine W.end ?_
  refine NX.sub (env' := [(0, _), (1, _)]) ⟨rfl, rfl, trivial⟩ ?_
  refine NX.then ?_
  refine Tr.seq ?_
  refine Tr.seq ?_
  refine Tr.region_f (fun _ => false) ?_
  refine W.q rfl rfl rfl rfl (by decide) (Yd.mv rfl (.t rfl)) ?_
  refine W.q rfl rfl rfl rfl (by decide) (Yd.lenR hprog_0 rfl Try.underlying37 (.t rfl)) ?_
  refine W.q rfl rfl rfl rfl (by decide) (Yd.mv rfl .c) ?_
  refine W.end ?_
  refine NX.sub (env' := [(1, _), (9, _), (10, _), (11, _)]) ⟨rfl, rfl, rfl, rfl, trivial⟩ ?_
  refine NX.then ?_
  refine Tr.join (S := fun env x => ∃ vars_11 : List Int, ∃ m14 : Snap, ∃ u12 : Value, Sle m m14 ∧ RS rI m14 u12 vars_11 ∧ env = [(1, u12)] ∧ x = ⟨m14, l⟩ ∧ syllogistref_Run_k15 vars_11 = some r) ?_ (fun hk16 => ?_)
  · rintro _ _ ⟨vars_11, m14, u12, hsm14, hu13, rfl, rfl, hr⟩
    unfold syllogistref_Run_k15 at hr
    try dsimp only at hr
    have hprog_0 := hprog_0.mono hsm14
    have hvars_1 := hvars_1.mono hsm14
    refine NX.then ?_
    refine Tr.seq ?_
    refine Tr.region_f (fun _ => false) ?_
    refine W.q rfl rfl rfl rfl (by decide) (Yd.mv rfl (.t rfl)) ?_
    refine W.q rfl rfl rfl rfl (by decide) (Yd.as rfl (.t rfl)) ?_
    refine W.end ?_
    refine NX.sub (env' := [(4, _)]) ⟨rfl, trivial⟩ ?_
    refine NX.then ?_
    refine Tr.ret' ?_
    refine res1 rfl rfl ?_
    intro w hc
    cases hr
    exact ⟨_, _, rfl, hsm14, hu13, hc⟩
  have hlen17 := (hprog_0).2.1
  refine Tr.block ?_
  refine Tr.sub (env' := [(1, _), (9, _), (10, _), (11, _)]) ⟨rfl, rfl, rfl, rfl, trivial⟩ ?_
  refine Tr.loop (S := fun n (z : Int × (List Int)) env x => match z with | (t_18, vars_6) => ∃ m10 : Snap, ∃ u7 : Value, Sle m m10 ∧ RS rI m10 u7 vars_6 ∧ env = [(1, u7), (9, uprog_0), (10, .int .i64 ((prog_0.length : Int))), (11, .int .i64 t_18)] ∧ x = ⟨m10, l⟩ ∧ n = ((prog_0.length : Int) - t_18).toNat ∧ 0 ≤ t_18 ∧ forK (σ := (List Int)) (fun i s nx_ => syllogistref_Run_b19 prog_0 slf fuel i s nx_) (fun s => syllogistref_Run_k15 s) n t_18 vars_6 = some r) _ ((0 : Int), vars_1) ⟨_, _, (.refl _), hvars_1, rfl, rfl, rfl, (by omega), hr⟩ ?_
  rintro n21 ⟨t_18, vars_6⟩ env x ⟨m10, u7, hsm10, hu8, rfl, rfl, hnt_18, h0t_18, hr⟩
  have hprog_0 := hprog_0.mono hsm10
  have hvars_1 := hvars_1.mono hsm10
  cases n21 with
  | zero =>
    simp only [forK] at hr
    refine Tr.seq ?_
    refine Tr.region_f (fun _ => false) ?_
    refine W.q rfl rfl rfl rfl (by decide) (Yd.lss rfl (.t rfl) (.t rfl)) ?_
    refine W.end ?_
    refine NX.sub (env' := [(1, _), (9, _), (10, _), (11, _), (12, _)]) ⟨rfl, rfl, rfl, rfl, rfl, trivial⟩ ?_
    refine NX.then ?_
    refine Tr.seq ?_
    refine Tr.cond (.t rfl) (fun hb => ?_) (fun hb => ?_)
    · exact absurd (hb.symm.trans (fr_end hnt_18)) (by decide)
    ·
      refine Tr.exit' (EX.then (EX.then (EX.block ?_)))
      refine NX.sub (env' := [(1, _)]) ⟨rfl, trivial⟩ ?_
      exact hk16 _ _ ⟨_, _, _, hsm10, hu8, rfl, rfl, hr⟩
  | succ n21 =>
    obtain ⟨nx20, hnx20, hr⟩ := forK_succ hr
    try dsimp only at hr
    unfold syllogistref_Run_b19 at hr
    try dsimp only at hr
    have hltt_18 := fr_bnd hnt_18
    refine Tr.seq ?_
    refine Tr.region_f (fun _ => false) ?_
    refine W.q rfl rfl rfl rfl (by decide) (Yd.lss rfl (.t rfl) (.t rfl)) ?_
    refine W.end ?_
    refine NX.sub (env' := [(1, _), (9, _), (10, _), (11, _), (12, _)]) ⟨rfl, rfl, rfl, rfl, rfl, trivial⟩ ?_
    refine NX.then ?_
    refine Tr.seq ?_
    refine Tr.cond (.t rfl) (fun hb => ?_) (fun hb => ?_)
    rotate_left
    · exact absurd (hb.symm.trans (fr_go hnt_18)) (by decide)
    ·
      refine Tr.skip' ?_
      refine NX.then ?_
      refine Tr.seq ?_
      refine Tr.block ?_
      refine Tr.seq ?_
      obtain ⟨y22, hy23, hr⟩ := bind_some hr
      refine Tr.region_f (fun i => Nat.beq i 2 || Nat.beq i 3) ?_
      refine W.q rfl rfl rfl rfl (by decide) (Yd.idxR hprog_0 hy23 rfl Try.underlying37 SZ86 (.t rfl) (.t rfl)) ?_
      obtain ⟨_, ⟨u24, u26, rfl, hu25, hu27⟩, hat28⟩ := rLine_el hprog_0 hy23
      refine W.q rfl rfl rfl rfl (by decide) (Yd.ldRs hat28 (.refl _) rfl ON86 US86 SZ86 rfl (.t rfl)) ?_
      refine W.e rfl rfl rfl rfl (by decide) (Ef.al rfl ZR86 rfl) ?_
      rintro _ _ ⟨b29, rfl, rfl⟩
      refine ⟨.inl rfl, ?_⟩
      refine W.cast (m' := m10) (l' := hcells b29 [_, _, _, _, _, _, _] 86 :: l) rfl rfl ?_
      refine W.s rfl rfl rfl rfl (Ef.stBs (pos := 0) (us := [.int .i64 y22.kind, .int .i64 y22.to, .int .i64 y22.a, .int .i64 y22.b, .int .i64 y22.val, u24, u26]) (cs' := [_, _, _, _, _, _, _]) (.cons (On.lit rfl) (.cons (On.lit rfl) (.cons (On.lit rfl) (.cons (On.lit rfl) (.cons (On.lit rfl) (.cons (On.ro hu25) (.cons (On.ro hu27) .nil))))))) rfl rfl (.t rfl) (.t rfl) SZ86 rfl rfl (Nat.le_of_ble_eq_true rfl) rfl) ?_
      rintro _ _ ⟨rfl, rfl⟩
      refine ⟨.inl rfl, ?_⟩
      refine W.cast (m' := m10) (l' := hcells b29 [_, _, _, _, _, _, _] 86 :: l) rfl rfl ?_
      refine W.end ?_
      refine NX.sub (env' := [(1, _), (9, _), (10, _), (11, _), (6, _)]) ⟨rfl, rfl, rfl, rfl, rfl, trivial⟩ ?_
      refine NX.then ?_
      refine Tr.seq ?_
      refine Tr.region_f (fun _ => false) ?_
      refine W.q rfl rfl rfl rfl (by decide) (Yd.fldB rfl Try.underlying86 rfl SZ3 rfl (.t rfl)) ?_
      refine W.q rfl rfl rfl rfl (by decide) (Yd.ldB (pos := 0) rfl rfl rfl ON3 (.t rfl)) ?_
      refine W.end ?_
      refine NX.sub (env' := [(1, _), (9, _), (10, _), (11, _), (6, _), (16, _)]) ⟨rfl, rfl, rfl, rfl, rfl, rfl, trivial⟩ ?_
      refine NX.then ?_
      refine Tr.block ?_
      refine Tr.seq ?_
      refine Tr.region_f (fun _ => false) ?_
      refine W.q rfl rfl rfl rfl (by decide) (Yd.eql rfl (.t rfl) .c) ?_
      refine W.q rfl rfl rfl rfl (by decide) (Yd.as rfl (.t rfl)) ?_
      refine W.end ?_
      refine NX.sub (env' := [(1, _), (9, _), (10, _), (11, _), (6, _), (16, _), (17, _)]) ⟨rfl, rfl, rfl, rfl, rfl, rfl, rfl, trivial⟩ ?_
      refine NX.then ?_
      refine Tr.cond (.t rfl) (fun hb => ?_) (fun hb => ?_)
      · have hr := cond_t hb hr
        refine Tr.seq ?_
        refine Tr.region_f (fun _ => false) ?_
        refine W.q rfl rfl rfl rfl (by decide) (Yd.fldB rfl Try.underlying86 rfl SZ3 rfl (.t rfl)) ?_
        refine W.q rfl rfl rfl rfl (by decide) (Yd.ldB (pos := 0) rfl rfl rfl ON3 (.t rfl)) ?_
        refine W.q rfl rfl rfl rfl (by decide) (Yd.rem rfl (.t rfl) .c (by decide)) ?_
        refine W.q rfl rfl rfl rfl (by decide) (Yd.as rfl (.t rfl)) ?_
        refine W.end ?_
        refine NX.sub (env' := [(1, _), (9, _), (10, _), (11, _), (6, _), (7, _)]) ⟨rfl, rfl, rfl, rfl, rfl, rfl, trivial⟩ ?_
        refine NX.then ?_
        refine Tr.seq ?_
        refine Tr.seq ?_
        refine Tr.region_f (fun _ => false) ?_
        refine W.q rfl rfl rfl rfl (by decide) (Yd.fldB rfl Try.underlying86 rfl SZ3 rfl (.t rfl)) ?_
        refine W.q rfl rfl rfl rfl (by decide) (Yd.ldB (pos := 0) rfl rfl rfl ON3 (.t rfl)) ?_
        refine W.q rfl rfl rfl rfl (by decide) (Yd.geq rfl (.t rfl) .c) ?_
        refine W.end ?_
        refine NX.sub (env' := [(1, _), (9, _), (10, _), (11, _), (6, _), (7, _), (24, _)]) ⟨rfl, rfl, rfl, rfl, rfl, rfl, rfl, trivial⟩ ?_
        refine NX.then ?_
        refine Tr.join (S := fun env x => ∃ sum_31 : Int, env = [(1, u7), (9, uprog_0), (10, .int .i64 ((prog_0.length : Int))), (11, .int .i64 t_18), (6, bp b29 0), (7, .int .i64 sum_31)] ∧ x = ⟨m10, hcells b29 [.int .i64 y22.kind, .int .i64 y22.to, .int .i64 y22.a, .int .i64 y22.b, .int .i64 y22.val, u24, u26] 86 :: l⟩ ∧ syllogistref_Run_k32 vars_6 nx20 y22 sum_31 = some r) ?_ (fun hk33 => ?_)
        · rintro _ _ ⟨sum_31, rfl, rfl, hr⟩
          unfold syllogistref_Run_k32 at hr
          try dsimp only at hr
          refine NX.then ?_
          refine Tr.seq ?_
          refine Tr.seq ?_
          refine Tr.region_f (fun _ => false) ?_
          refine W.q rfl rfl rfl rfl (by decide) (Yd.fldB rfl Try.underlying86 rfl SZ3 rfl (.t rfl)) ?_
          refine W.q rfl rfl rfl rfl (by decide) (Yd.ldB (pos := 0) rfl rfl rfl ON3 (.t rfl)) ?_
          refine W.q rfl rfl rfl rfl (by decide) (Yd.geq rfl (.t rfl) .c) ?_
          refine W.end ?_
          refine NX.sub (env' := [(1, _), (9, _), (10, _), (11, _), (6, _), (7, _), (34, _)]) ⟨rfl, rfl, rfl, rfl, rfl, rfl, rfl, trivial⟩ ?_
          refine NX.then ?_
          refine Tr.join (S := fun env x => ∃ sum_34 : Int, env = [(1, u7), (9, uprog_0), (10, .int .i64 ((prog_0.length : Int))), (11, .int .i64 t_18), (6, bp b29 0), (7, .int .i64 sum_34)] ∧ x = ⟨m10, hcells b29 [.int .i64 y22.kind, .int .i64 y22.to, .int .i64 y22.a, .int .i64 y22.b, .int .i64 y22.val, u24, u26] 86 :: l⟩ ∧ syllogistref_Run_k35 vars_6 nx20 y22 sum_34 = some r) ?_ (fun hk36 => ?_)
          · rintro _ _ ⟨sum_34, rfl, rfl, hr⟩
            unfold syllogistref_Run_k35 at hr
            try dsimp only at hr
            refine NX.then ?_
            refine Tr.seq ?_
            obtain ⟨hq40, hr⟩ := guard_some hr; replace hq40 := of_decide_eq_true hq40
            refine Tr.region_f (fun i => Nat.beq i 0 || Nat.beq i 2) ?_
            refine W.e rfl rfl rfl rfl (by decide) (Ef.bsT (enc := encI) (vs := []) (ys := []) (fun _ => rfl) IF3 rfl Try.underlying38 (by decide) rfl .nil rfl rfl (by decide)) ?_
            rintro v37 _ rfl
            refine ⟨.inl rfl, ?_⟩
            refine W.cast (m' := m10) (l' := hownT 3 1 encI v37 _ :: hcells b29 [_, _, _, _, _, _, _] 86 :: l) rfl rfl ?_
            refine W.q rfl rfl rfl rfl (by decide) (Yd.mv rfl (.t rfl)) ?_
            refine W.e rfl rfl rfl rfl (by decide) (Ef.apI (pos := 0) (enc := encI) (xs := ([] : List Int)) (ys := vars_6) (fun _ => rfl) IF3 rfl rfl Try.underlying38 rfl (by decide) (.t rfl) (.t rfl) (Src.rs (by decide) (.refl _) hu8) (fun _ => rfl) (by omega) (by omega)) ?_
            rintro v39 _ rfl
            refine ⟨.inl rfl, ?_⟩
            refine W.cast (m' := m10) (l' := hownT 3 1 encI v39 _ :: hcells b29 [_, _, _, _, _, _, _] 86 :: l) rfl rfl ?_
            refine W.q rfl rfl rfl rfl (by decide) (Yd.as rfl (.t rfl)) ?_
            refine W.end ?_
            refine NX.sub (env' := [(1, _), (9, _), (10, _), (11, _), (6, _), (7, _)]) ⟨rfl, rfl, rfl, rfl, rfl, rfl, trivial⟩ ?_
            refine NX.then ?_
            obtain ⟨y41, hy42, hr⟩ := bind_some hr
            refine Tr.region_f (fun i => Nat.beq i 7) ?_
            refine W.q rfl rfl rfl rfl (by decide) (Yd.mv rfl (.t rfl)) ?_
            refine W.q rfl rfl rfl rfl (by decide) (Yd.fldB rfl Try.underlying86 rfl SZ3 rfl (.t rfl)) ?_
            refine W.q rfl rfl rfl rfl (by decide) (Yd.ldB (pos := 1) rfl rfl rfl ON3 (.t rfl)) ?_
            refine W.q rfl rfl rfl rfl (by decide) (Yd.mv rfl (.t rfl)) ?_
            refine W.q rfl rfl rfl rfl (by decide) (Yd.add rfl (.t rfl) .c) ?_
            refine W.q rfl rfl rfl rfl (by decide) (Yd.rem rfl (.t rfl) .c (by decide)) ?_
            refine W.q rfl rfl rfl rfl (by decide) (Yd.idxT (pos := 0) rfl hy42 rfl Try.underlying38 SZ3 (.t rfl) (.t rfl)) ?_
            refine W.s rfl rfl rfl rfl (Ef.stT (enc := encI) (n := 1) (pos := 0) (y := (((w64 (sum_34 + (8 : Int)))).tmod ((8 : Int)))) (us := [_]) (fun _ => rfl) rfl hy42 rfl (.t rfl) (.t rfl) SZ3 rfl rfl rfl (by decide)) ?_
            rintro _ _ ⟨rfl, rfl⟩
            refine ⟨.inl rfl, ?_⟩
            refine W.cast (m' := m10) (l' := hownT 3 1 encI v39 _ :: hcells b29 [_, _, _, _, _, _, _] 86 :: l) rfl rfl ?_
            refine W.end ?_
            refine NX.sub (env' := [(1, _), (9, _), (10, _), (11, _)]) ⟨rfl, rfl, rfl, rfl, trivial⟩ ?_
            refine NX.drop (l' := hownT 3 1 encI v39 _ :: l) (.cons_cons _ (.cons _ (.refl _))) ?_
            refine NX.block ?_
            refine NX.block ?_
            refine NX.then ?_
            refine Tr.region_f (fun _ => false) ?_
            refine W.q rfl rfl rfl rfl (by decide) (Yd.add rfl (.t rfl) .c) ?_
            refine W.q rfl rfl rfl rfl (by decide) (Yd.mv rfl (.t rfl)) ?_
            refine W.end ?_
            refine NX.sub (env' := [(1, _), (9, _), (10, _), (11, _)]) ⟨rfl, rfl, rfl, rfl, trivial⟩ ?_
            refine NX.freezeT (enc := encI) (n := 1) (pos := 0) (xs := (((([] : List Int) ++ vars_6)).set y22.to.toNat ((((w64 (sum_34 + (8 : Int)))).tmod ((8 : Int)))))) (fun _ => rfl) rfl (fun m43 hsm43 hu44 => ?_)
            have hprog_0 := hprog_0.mono hsm43
            have hvars_1 := hvars_1.mono hsm43
            have hu8 := hu8.mono hsm43
            have hu25 := hu25.mono hsm43
            have hu27 := hu27.mono hsm43
            refine NX.cast (m' := m43) (l' := l) rfl rfl ?_
            refine NX.sub (env' := [(1, _), (9, _), (10, _), (11, _)]) ⟨rfl, rfl, rfl, rfl, trivial⟩ ?_
            have hw := w64_id (n := t_18 + 1) (by omega) (by omega)
            exact NX.again n21 (t_18 + 1, (((([] : List Int) ++ vars_6)).set y22.to.toNat ((((w64 (sum_34 + (8 : Int)))).tmod ((8 : Int)))))) (Nat.lt_succ_self _) ⟨_, _, (hsm10.trans hsm43), hu44, (by rw [hw] <;> rfl), rfl, (fr_dec hnt_18), (by omega), ((hnx20 _).symm.trans hr)⟩
          refine Tr.cond (.t rfl) (fun hb => ?_) (fun hb => ?_)
          · have hr := cond_t hb hr
            obtain ⟨y45, hy46, hr⟩ := bind_some hr
            refine Tr.region_f (fun _ => false) ?_
            refine W.q rfl rfl rfl rfl (by decide) (Yd.mv rfl (.t rfl)) ?_
            refine W.q rfl rfl rfl rfl (by decide) (Yd.mv rfl (.t rfl)) ?_
            refine W.q rfl rfl rfl rfl (by decide) (Yd.fldB rfl Try.underlying86 rfl SZ3 rfl (.t rfl)) ?_
            refine W.q rfl rfl rfl rfl (by decide) (Yd.ldB (pos := 0) rfl rfl rfl ON3 (.t rfl)) ?_
            refine W.q rfl rfl rfl rfl (by decide) (Yd.idxR hu8 hy46 rfl Try.underlying38 SZ3 (.t rfl) (.t rfl)) ?_
            refine W.q rfl rfl rfl rfl (by decide) (Yd.ldF hu8 (.refl _) hy46 rfl rfl ON3 (.t rfl)) ?_
            refine W.q rfl rfl rfl rfl (by decide) (Yd.add rfl (.t rfl) (.t rfl)) ?_
            refine W.q rfl rfl rfl rfl (by decide) (Yd.as rfl (.t rfl)) ?_
            refine W.end ?_
            refine NX.sub (env' := [(1, _), (9, _), (10, _), (11, _), (6, _), (7, _)]) ⟨rfl, rfl, rfl, rfl, rfl, rfl, trivial⟩ ?_
            refine NX.sub (env' := [(1, _), (9, _), (10, _), (11, _), (6, _), (7, _)]) ⟨rfl, rfl, rfl, rfl, rfl, rfl, trivial⟩ ?_
            exact hk36 _ _ ⟨_, rfl, rfl, hr⟩
          · have hr := cond_f hb hr
            refine Tr.skip' ?_
            refine NX.sub (env' := [(1, _), (9, _), (10, _), (11, _), (6, _), (7, _)]) ⟨rfl, rfl, rfl, rfl, rfl, rfl, trivial⟩ ?_
            exact hk36 _ _ ⟨_, rfl, rfl, hr⟩
        refine Tr.cond (.t rfl) (fun hb => ?_) (fun hb => ?_)
        · have hr := cond_t hb hr
          obtain ⟨y47, hy48, hr⟩ := bind_some hr
          refine Tr.region_f (fun _ => false) ?_
          refine W.q rfl rfl rfl rfl (by decide) (Yd.mv rfl (.t rfl)) ?_
          refine W.q rfl rfl rfl rfl (by decide) (Yd.mv rfl (.t rfl)) ?_
          refine W.q rfl rfl rfl rfl (by decide) (Yd.fldB rfl Try.underlying86 rfl SZ3 rfl (.t rfl)) ?_
          refine W.q rfl rfl rfl rfl (by decide) (Yd.ldB (pos := 0) rfl rfl rfl ON3 (.t rfl)) ?_
          refine W.q rfl rfl rfl rfl (by decide) (Yd.idxR hu8 hy48 rfl Try.underlying38 SZ3 (.t rfl) (.t rfl)) ?_
          refine W.q rfl rfl rfl rfl (by decide) (Yd.ldF hu8 (.refl _) hy48 rfl rfl ON3 (.t rfl)) ?_
          refine W.q rfl rfl rfl rfl (by decide) (Yd.add rfl (.t rfl) (.t rfl)) ?_
          refine W.q rfl rfl rfl rfl (by decide) (Yd.as rfl (.t rfl)) ?_
          refine W.end ?_
          refine NX.sub (env' := [(1, _), (9, _), (10, _), (11, _), (6, _), (7, _)]) ⟨rfl, rfl, rfl, rfl, rfl, rfl, trivial⟩ ?_
          refine NX.sub (env' := [(1, _), (9, _), (10, _), (11, _), (6, _), (7, _)]) ⟨rfl, rfl, rfl, rfl, rfl, rfl, trivial⟩ ?_
          exact hk33 _ _ ⟨_, rfl, rfl, hr⟩
        · have hr := cond_f hb hr
          refine Tr.skip' ?_
          refine NX.sub (env' := [(1, _), (9, _), (10, _), (11, _), (6, _), (7, _)]) ⟨rfl, rfl, rfl, rfl, rfl, rfl, trivial⟩ ?_
          exact hk33 _ _ ⟨_, rfl, rfl, hr⟩
      · have hr := cond_f hb hr
        refine Tr.seq ?_
        refine Tr.region_f (fun _ => false) ?_
        refine W.q rfl rfl rfl rfl (by decide) (Yd.eql rfl (.t rfl) .c) ?_
        refine W.q rfl rfl rfl rfl (by decide) (Yd.as rfl (.t rfl)) ?_
        refine W.end ?_
        refine NX.sub (env' := [(1, _), (9, _), (10, _), (11, _), (6, _), (16, _), (52, _)]) ⟨rfl, rfl, rfl, rfl, rfl, rfl, rfl, trivial⟩ ?_
        refine NX.then ?_
        refine Tr.cond (.t rfl) (fun hb => ?_) (fun hb => ?_)
        · have hr := cond_t hb hr
          refine Tr.seq ?_
          obtain ⟨y49, hy50, hr⟩ := bind_some hr
          refine Tr.region_f (fun _ => false) ?_
          refine W.q rfl rfl rfl rfl (by decide) (Yd.mv rfl (.t rfl)) ?_
          refine W.q rfl rfl rfl rfl (by decide) (Yd.fldB rfl Try.underlying86 rfl SZ3 rfl (.t rfl)) ?_
          refine W.q rfl rfl rfl rfl (by decide) (Yd.ldB (pos := 0) rfl rfl rfl ON3 (.t rfl)) ?_
          refine W.q rfl rfl rfl rfl (by decide) (Yd.idxR hu8 hy50 rfl Try.underlying38 SZ3 (.t rfl) (.t rfl)) ?_
          refine W.q rfl rfl rfl rfl (by decide) (Yd.ldF hu8 (.refl _) hy50 rfl rfl ON3 (.t rfl)) ?_
          refine W.q rfl rfl rfl rfl (by decide) (Yd.neq rfl (.t rfl) .c) ?_
          refine W.end ?_
          refine NX.sub (env' := [(1, _), (9, _), (10, _), (11, _), (6, _), (59, _)]) ⟨rfl, rfl, rfl, rfl, rfl, rfl, trivial⟩ ?_
          refine NX.then ?_
          refine Tr.cond (.t rfl) (fun hb => ?_) (fun hb => ?_)
          · have hr := cond_t hb hr
            obtain ⟨r51, hr52, hr⟩ := bind_some hr
            refine Tr.region_f (fun i => Nat.beq i 3) ?_
            refine W.q rfl rfl rfl rfl (by decide) (Yd.fldB rfl Try.underlying86 rfl SZ37 rfl (.t rfl)) ?_
            refine W.q rfl rfl rfl rfl (by decide) (Yd.ldB (pos := 0) rfl rfl rfl ON37 (.t rfl)) ?_
            refine W.q rfl rfl rfl rfl (by decide) (Yd.mv rfl (.t rfl)) ?_
            refine W.e rfl rfl rfl rfl (by decide) (Ef.call (R := fun z x' => ∃ u53 : Value, ∃ m54 : Snap, z = u53 ∧ x' = ⟨m54, hcells b29 [.int .i64 y22.kind, .int .i64 y22.to, .int .i64 y22.a, .int .i64 y22.b, .int .i64 y22.val, u24, u26] 86 :: l⟩ ∧ Sle m10 m54 ∧ RS rI m54 u53 r51) rfl Try.func20 rfl rfl (.cons (.t rfl) (.cons (.t rfl) .nil)) (fun w hw => (ih _ _ _ _ hu25 _ _ hu8 _ hr52 w hw).mono fun e w' ⟨u53, m54, he, hm', hu55, hc'⟩ => ⟨_, _, he, ⟨u53, m54, rfl, rfl, hm', hu55⟩, hc'⟩)) ?_
            rintro u53 _ ⟨_, m54, rfl, rfl, hsm54, hu55⟩
            have hprog_0 := hprog_0.mono hsm54
            have hvars_1 := hvars_1.mono hsm54
            have hu8 := hu8.mono hsm54
            have hu25 := hu25.mono hsm54
            have hu27 := hu27.mono hsm54
            refine ⟨.inl rfl, ?_⟩
            refine W.cast (m' := m54) (l' := hcells b29 [_, _, _, _, _, _, _] 86 :: l) rfl rfl ?_
            refine W.q rfl rfl rfl rfl (by decide) (Yd.as rfl (.t rfl)) ?_
            refine W.end ?_
            refine NX.sub (env' := [(1, _), (9, _), (10, _), (11, _)]) ⟨rfl, rfl, rfl, rfl, trivial⟩ ?_
            refine NX.drop (l' := l) (.cons _ (.refl _)) ?_
            refine NX.block ?_
            refine NX.block ?_
            refine NX.then ?_
            refine Tr.region_f (fun _ => false) ?_
            refine W.q rfl rfl rfl rfl (by decide) (Yd.add rfl (.t rfl) .c) ?_
            refine W.q rfl rfl rfl rfl (by decide) (Yd.mv rfl (.t rfl)) ?_
            refine W.end ?_
            refine NX.sub (env' := [(1, _), (9, _), (10, _), (11, _)]) ⟨rfl, rfl, rfl, rfl, trivial⟩ ?_
            refine NX.sub (env' := [(1, _), (9, _), (10, _), (11, _)]) ⟨rfl, rfl, rfl, rfl, trivial⟩ ?_
            have hw := w64_id (n := t_18 + 1) (by omega) (by omega)
            exact NX.again n21 (t_18 + 1, r51) (Nat.lt_succ_self _) ⟨_, _, (hsm10.trans hsm54), hu55, (by rw [hw] <;> rfl), rfl, (fr_dec hnt_18), (by omega), ((hnx20 _).symm.trans hr)⟩
          · have hr := cond_f hb hr
            obtain ⟨r56, hr57, hr⟩ := bind_some hr
            refine Tr.region_f (fun i => Nat.beq i 3) ?_
            refine W.q rfl rfl rfl rfl (by decide) (Yd.fldB rfl Try.underlying86 rfl SZ37 rfl (.t rfl)) ?_
            refine W.q rfl rfl rfl rfl (by decide) (Yd.ldB (pos := 0) rfl rfl rfl ON37 (.t rfl)) ?_
            refine W.q rfl rfl rfl rfl (by decide) (Yd.mv rfl (.t rfl)) ?_
            refine W.e rfl rfl rfl rfl (by decide) (Ef.call (R := fun z x' => ∃ u58 : Value, ∃ m59 : Snap, z = u58 ∧ x' = ⟨m59, hcells b29 [.int .i64 y22.kind, .int .i64 y22.to, .int .i64 y22.a, .int .i64 y22.b, .int .i64 y22.val, u24, u26] 86 :: l⟩ ∧ Sle m10 m59 ∧ RS rI m59 u58 r56) rfl Try.func20 rfl rfl (.cons (.t rfl) (.cons (.t rfl) .nil)) (fun w hw => (ih _ _ _ _ hu27 _ _ hu8 _ hr57 w hw).mono fun e w' ⟨u58, m59, he, hm', hu60, hc'⟩ => ⟨_, _, he, ⟨u58, m59, rfl, rfl, hm', hu60⟩, hc'⟩)) ?_
            rintro u58 _ ⟨_, m59, rfl, rfl, hsm59, hu60⟩
            have hprog_0 := hprog_0.mono hsm59
            have hvars_1 := hvars_1.mono hsm59
            have hu8 := hu8.mono hsm59
            have hu25 := hu25.mono hsm59
            have hu27 := hu27.mono hsm59
            refine ⟨.inl rfl, ?_⟩
            refine W.cast (m' := m59) (l' := hcells b29 [_, _, _, _, _, _, _] 86 :: l) rfl rfl ?_
            refine W.q rfl rfl rfl rfl (by decide) (Yd.as rfl (.t rfl)) ?_
            refine W.end ?_
            refine NX.sub (env' := [(1, _), (9, _), (10, _), (11, _)]) ⟨rfl, rfl, rfl, rfl, trivial⟩ ?_
            refine NX.drop (l' := l) (.cons _ (.refl _)) ?_
            refine NX.block ?_
            refine NX.block ?_
            refine NX.then ?_
            refine Tr.region_f (fun _ => false) ?_
            refine W.q rfl rfl rfl rfl (by decide) (Yd.add rfl (.t rfl) .c) ?_
            refine W.q rfl rfl rfl rfl (by decide) (Yd.mv rfl (.t rfl)) ?_
            refine W.end ?_
            refine NX.sub (env' := [(1, _), (9, _), (10, _), (11, _)]) ⟨rfl, rfl, rfl, rfl, trivial⟩ ?_
            refine NX.sub (env' := [(1, _), (9, _), (10, _), (11, _)]) ⟨rfl, rfl, rfl, rfl, trivial⟩ ?_
            have hw := w64_id (n := t_18 + 1) (by omega) (by omega)
            exact NX.again n21 (t_18 + 1, r56) (Nat.lt_succ_self _) ⟨_, _, (hsm10.trans hsm59), hu60, (by rw [hw] <;> rfl), rfl, (fr_dec hnt_18), (by omega), ((hnx20 _).symm.trans hr)⟩
        · have hr := cond_f hb hr
          refine Tr.seq ?_
          refine Tr.region_f (fun _ => false) ?_
          refine W.q rfl rfl rfl rfl (by decide) (Yd.eql rfl (.t rfl) .c) ?_
          refine W.q rfl rfl rfl rfl (by decide) (Yd.as rfl (.t rfl)) ?_
          refine W.end ?_
          refine NX.sub (env' := [(1, _), (9, _), (10, _), (11, _), (6, _), (68, _)]) ⟨rfl, rfl, rfl, rfl, rfl, rfl, trivial⟩ ?_
          refine NX.then ?_
          refine Tr.cond (.t rfl) (fun hb => ?_) (fun hb => ?_)
          · have hr := cond_t hb hr
            refine Tr.seq ?_
            obtain ⟨y61, hy62, hr⟩ := bind_some hr
            refine Tr.region_f (fun _ => false) ?_
            refine W.q rfl rfl rfl rfl (by decide) (Yd.mv rfl (.t rfl)) ?_
            refine W.q rfl rfl rfl rfl (by decide) (Yd.fldB rfl Try.underlying86 rfl SZ3 rfl (.t rfl)) ?_
            refine W.q rfl rfl rfl rfl (by decide) (Yd.ldB (pos := 0) rfl rfl rfl ON3 (.t rfl)) ?_
            refine W.q rfl rfl rfl rfl (by decide) (Yd.idxR hu8 hy62 rfl Try.underlying38 SZ3 (.t rfl) (.t rfl)) ?_
            refine W.q rfl rfl rfl rfl (by decide) (Yd.ldF hu8 (.refl _) hy62 rfl rfl ON3 (.t rfl)) ?_
            refine W.q rfl rfl rfl rfl (by decide) (Yd.as rfl (.t rfl)) ?_
            refine W.end ?_
            refine NX.sub (env' := [(1, _), (9, _), (10, _), (11, _), (6, _), (8, _)]) ⟨rfl, rfl, rfl, rfl, rfl, rfl, trivial⟩ ?_
            refine NX.then ?_
            refine Tr.join (S := fun env x => ∃ vars_73 : List Int, ∃ m76 : Snap, ∃ u74 : Value, Sle m10 m76 ∧ RS rI m76 u74 vars_73 ∧ env = [(1, u74), (9, uprog_0), (10, .int .i64 ((prog_0.length : Int))), (11, .int .i64 t_18)] ∧ x = ⟨m76, l⟩ ∧ syllogistref_Run_k77 nx20 vars_73 = some r) ?_ (fun hk78 => ?_)
            · rintro _ _ ⟨vars_73, m76, u74, hsm76, hu75, rfl, rfl, hr⟩
              unfold syllogistref_Run_k77 at hr
              try dsimp only at hr
              have hprog_0 := hprog_0.mono hsm76
              have hvars_1 := hvars_1.mono hsm76
              have hu8 := hu8.mono hsm76
              have hu25 := hu25.mono hsm76
              have hu27 := hu27.mono hsm76
              refine NX.block ?_
              refine NX.block ?_
              refine NX.then ?_
              refine Tr.region_f (fun _ => false) ?_
              refine W.q rfl rfl rfl rfl (by decide) (Yd.add rfl (.t rfl) .c) ?_
              refine W.q rfl rfl rfl rfl (by decide) (Yd.mv rfl (.t rfl)) ?_
              refine W.end ?_
              refine NX.sub (env' := [(1, _), (9, _), (10, _), (11, _)]) ⟨rfl, rfl, rfl, rfl, trivial⟩ ?_
              refine NX.sub (env' := [(1, _), (9, _), (10, _), (11, _)]) ⟨rfl, rfl, rfl, rfl, trivial⟩ ?_
              have hw := w64_id (n := t_18 + 1) (by omega) (by omega)
              exact NX.again n21 (t_18 + 1, vars_73) (Nat.lt_succ_self _) ⟨_, _, (hsm10.trans hsm76), hu75, (by rw [hw] <;> rfl), rfl, (fr_dec hnt_18), (by omega), ((hnx20 _).symm.trans hr)⟩
            refine Tr.block ?_
            refine Tr.sub (env' := [(1, _), (6, _), (8, _), (9, _), (10, _), (11, _)]) ⟨rfl, rfl, rfl, rfl, rfl, rfl, trivial⟩ ?_
            refine Tr.loop (S := fun n (z : (List Int) × Int) env x => match z with | (vars_68, k_71) => ∃ m72 : Snap, ∃ u69 : Value, Sle m10 m72 ∧ RS rI m72 u69 vars_68 ∧ env = [(1, u69), (6, bp b29 0), (8, .int .i64 k_71), (9, uprog_0), (10, .int .i64 ((prog_0.length : Int))), (11, .int .i64 t_18)] ∧ x = ⟨m72, hcells b29 [.int .i64 y22.kind, .int .i64 y22.to, .int .i64 y22.a, .int .i64 y22.b, .int .i64 y22.val, u24, u26] 86 :: l⟩ ∧ whileK (σ := (List Int) × Int) (fun s nx_ => syllogistref_Run_b79 slf nx20 y22 s.1 s.2 nx_) n (vars_68, k_71) = some r) _ (vars_6, y61) ⟨_, _, (.refl _), hu8, rfl, rfl, hr⟩ ?_
            rintro n81 ⟨vars_68, k_71⟩ env x ⟨m72, u69, hsm72, hu70, rfl, rfl, hr⟩
            have hprog_0 := hprog_0.mono hsm72
            have hvars_1 := hvars_1.mono hsm72
            have hu8 := hu8.mono hsm72
            have hu25 := hu25.mono hsm72
            have hu27 := hu27.mono hsm72
            cases n81 with
            | zero => simp [whileK] at hr
            | succ n81 =>
              obtain ⟨nx80, hnx80, hr⟩ := whileK_succ hr
              try dsimp only at hr
              unfold syllogistref_Run_b79 at hr
              try dsimp only at hr
              refine Tr.seq ?_
              refine Tr.seq ?_
              refine Tr.region_f (fun _ => false) ?_
              refine W.q rfl rfl rfl rfl (by decide) (Yd.mv rfl (.t rfl)) ?_
              refine W.q rfl rfl rfl rfl (by decide) (Yd.gtr rfl (.t rfl) .c) ?_
              refine W.end ?_
              refine NX.sub (env' := [(1, _), (6, _), (8, _), (9, _), (10, _), (11, _), (76, _)]) ⟨rfl, rfl, rfl, rfl, rfl, rfl, rfl, trivial⟩ ?_
              refine NX.then ?_
              refine Tr.cond (.t rfl) (fun hb => ?_) (fun hb => ?_)
              · have hr := cond_t hb hr
                refine Tr.skip' ?_
                refine NX.then ?_
                refine Tr.seq ?_
                refine Tr.block ?_
                obtain ⟨r82, hr83, hr⟩ := bind_some hr
                refine Tr.region_f (fun i => Nat.beq i 3) ?_
                refine W.q rfl rfl rfl rfl (by decide) (Yd.fldB rfl Try.underlying86 rfl SZ37 rfl (.t rfl)) ?_
                refine W.q rfl rfl rfl rfl (by decide) (Yd.ldB (pos := 0) rfl rfl rfl ON37 (.t rfl)) ?_
                refine W.q rfl rfl rfl rfl (by decide) (Yd.mv rfl (.t rfl)) ?_
                refine W.e rfl rfl rfl rfl (by decide) (Ef.call (R := fun z x' => ∃ u84 : Value, ∃ m85 : Snap, z = u84 ∧ x' = ⟨m85, hcells b29 [.int .i64 y22.kind, .int .i64 y22.to, .int .i64 y22.a, .int .i64 y22.b, .int .i64 y22.val, u24, u26] 86 :: l⟩ ∧ Sle m72 m85 ∧ RS rI m85 u84 r82) rfl Try.func20 rfl rfl (.cons (.t rfl) (.cons (.t rfl) .nil)) (fun w hw => (ih _ _ _ _ hu25 _ _ hu70 _ hr83 w hw).mono fun e w' ⟨u84, m85, he, hm', hu86, hc'⟩ => ⟨_, _, he, ⟨u84, m85, rfl, rfl, hm', hu86⟩, hc'⟩)) ?_
                rintro u84 _ ⟨_, m85, rfl, rfl, hsm85, hu86⟩
                have hprog_0 := hprog_0.mono hsm85
                have hvars_1 := hvars_1.mono hsm85
                have hu8 := hu8.mono hsm85
                have hu25 := hu25.mono hsm85
                have hu27 := hu27.mono hsm85
                have hu70 := hu70.mono hsm85
                refine ⟨.inl rfl, ?_⟩
                refine W.cast (m' := m85) (l' := hcells b29 [_, _, _, _, _, _, _] 86 :: l) rfl rfl ?_
                refine W.q rfl rfl rfl rfl (by decide) (Yd.as rfl (.t rfl)) ?_
                refine W.end ?_
                refine NX.sub (env' := [(1, _), (6, _), (8, _), (9, _), (10, _), (11, _)]) ⟨rfl, rfl, rfl, rfl, rfl, rfl, trivial⟩ ?_
                refine NX.block ?_
                refine NX.then ?_
                refine Tr.region_f (fun _ => false) ?_
                refine W.q rfl rfl rfl rfl (by decide) (Yd.mv rfl (.t rfl)) ?_
                refine W.q rfl rfl rfl rfl (by decide) (Yd.sub rfl (.t rfl) .c) ?_
                refine W.q rfl rfl rfl rfl (by decide) (Yd.as rfl (.t rfl)) ?_
                refine W.end ?_
                refine NX.sub (env' := [(1, _), (6, _), (8, _), (9, _), (10, _), (11, _)]) ⟨rfl, rfl, rfl, rfl, rfl, rfl, trivial⟩ ?_
                refine NX.sub (env' := [(1, _), (6, _), (8, _), (9, _), (10, _), (11, _)]) ⟨rfl, rfl, rfl, rfl, rfl, rfl, trivial⟩ ?_
                exact NX.again n81 (r82, (w64 (k_71 - (1 : Int)))) (Nat.lt_succ_self _) ⟨_, _, (hsm72.trans hsm85), hu86, rfl, rfl, ((hnx80 _).symm.trans hr)⟩
              · have hr := cond_f hb hr
                refine Tr.exit' (EX.then (EX.then (EX.block ?_)))
                refine NX.sub (env' := [(1, _), (9, _), (10, _), (11, _)]) ⟨rfl, rfl, rfl, rfl, trivial⟩ ?_
                refine NX.drop (l' := l) (.cons _ (.refl _)) ?_
                exact hk78 _ _ ⟨_, _, _, hsm72, hu70, rfl, rfl, hr⟩
          · have hr := cond_f hb hr
            refine Tr.skip' ?_
            refine NX.block ?_
            refine NX.block ?_
            refine NX.then ?_
            refine Tr.region_f (fun _ => false) ?_
            refine W.q rfl rfl rfl rfl (by decide) (Yd.add rfl (.t rfl) .c) ?_
            refine W.q rfl rfl rfl rfl (by decide) (Yd.mv rfl (.t rfl)) ?_
            refine W.end ?_
            refine NX.sub (env' := [(1, _), (9, _), (10, _), (11, _)]) ⟨rfl, rfl, rfl, rfl, trivial⟩ ?_
            refine NX.drop (l' := l) (.cons _ (.refl _)) ?_
            refine NX.sub (env' := [(1, _), (9, _), (10, _), (11, _)]) ⟨rfl, rfl, rfl, rfl, trivial⟩ ?_
            have hw := w64_id (n := t_18 + 1) (by omega) (by omega)
            exact NX.again n21 (t_18 + 1, vars_6) (Nat.lt_succ_self _) ⟨_, _, hsm10, hu8, (by rw [hw] <;> rfl), rfl, (fr_dec hnt_18), (by omega), ((hnx20 _).symm.trans hr)⟩

def syllogistref_Ints_k3 : Option (Bool) :=
  some true

def syllogistref_Ints_b7 (a_0 : List Int) (b_1 : List Int) (i_6 : Int) (nx8 : Unit → Option (Bool)) : Option (Bool) :=
  (geti a_0 i_6).bind fun y10 =>
  (geti b_1 i_6).bind fun y12 =>
  (bif (y10 != y12) then
  some false
  else
  nx8 ())

def syllogistref_Ints (a_0 : List Int) (b_1 : List Int) : Option (Bool) :=
  (bif ((a_0.length : Int) != (b_1.length : Int)) then
  some false
  else
  forK (σ := Unit) (fun i s nx_ => syllogistref_Ints_b7 a_0 b_1 i nx_) (fun _ => syllogistref_Ints_k3) ((a_0.length : Int) - (0 : Int)).toNat (0 : Int) ())

set_option maxRecDepth 100000 in
set_option maxHeartbeats 4000000 in
theorem syllogistref_Ints_ok (w0 : World) (m : Snap) (l : List HI) (ua_0 : Value) (a_0 : List Int) (ha_0 : RS rI m ua_0 a_0) (ub_1 : Value) (b_1 : List Int) (hb_1 : RS rI m ub_1 b_1) (r : Bool) (hr : syllogistref_Ints a_0 b_1 = some r) (w : World) (hc : cX w0 ⟨m, l⟩ w) :
    Calls Try.prog 19 [ua_0, ub_1].toArray w fun e w' => e = .returned (.bool r) ∧ cX w0 ⟨m, l⟩ w' := by
  unfold syllogistref_Ints at hr
  refine calls_of_Tr (N := 26) Try.func19 rfl hc rfl (Nat.le_of_ble_eq_true rfl) ?_
  refine Tr.seq ?_
  refine Tr.region_f (fun _ => false) ?_
  refine W.q rfl rfl rfl rfl (by decide) (Yd.as rfl .c) ?_
  refine W.end ?_
  refine NX.sub (env' := [(0, _), (1, _)]) ⟨rfl, rfl, trivial⟩ ?_
  refine NX.then ?_
  refine Tr.seq ?_
  refine Tr.seq ?_
  refine Tr.region_f (fun _ => false) ?_
  refine W.q rfl rfl rfl rfl (by decide) (Yd.mv rfl (.t rfl)) ?_
  refine W.q rfl rfl rfl rfl (by decide) (Yd.lenR ha_0 rfl Try.underlying38 (.t rfl)) ?_
  refine W.q rfl rfl rfl rfl (by decide) (Yd.mv rfl (.t rfl)) ?_
  refine W.q rfl rfl rfl rfl (by decide) (Yd.lenR hb_1 rfl Try.underlying38 (.t rfl)) ?_
  refine W.q rfl rfl rfl rfl (by decide) (Yd.neq rfl (.t rfl) (.t rfl)) ?_
  refine W.end ?_
  refine NX.sub (env' := [(0, _), (1, _), (10, _)]) ⟨rfl, rfl, rfl, trivial⟩ ?_
  refine NX.then ?_
  refine Tr.cond (.t rfl) (fun hb => ?_) (fun hb => ?_)
  · have hr := cond_t hb hr
    refine Tr.seq ?_
    refine Tr.region_f (fun _ => false) ?_
    refine W.q rfl rfl rfl rfl (by decide) (Yd.as rfl .c) ?_
    refine W.end ?_
    refine NX.sub (env' := [(4, _)]) ⟨rfl, trivial⟩ ?_
    refine NX.then ?_
    refine Tr.ret' (RT.then ?_)
    refine res1 rfl rfl ?_
    intro w hc
    cases hr
    exact ⟨rfl, hc⟩
  · have hr := cond_f hb hr
    refine Tr.skip' ?_
    refine NX.then ?_
    refine Tr.seq ?_
    refine Tr.seq ?_
    refine Tr.region_f (fun _ => false) ?_
    refine W.q rfl rfl rfl rfl (by decide) (Yd.as rfl .c) ?_
    refine W.end ?_
    refine NX.sub (env' := [(0, _), (1, _), (5, _)]) ⟨rfl, rfl, rfl, trivial⟩ ?_
    refine NX.then ?_
    refine Tr.join (S := fun env x => env = [] ∧ x = ⟨m, l⟩ ∧ syllogistref_Ints_k3 = some r) ?_ (fun hk4 => ?_)
    · rintro _ _ ⟨rfl, rfl, hr⟩
      unfold syllogistref_Ints_k3 at hr
      try dsimp only at hr
      refine NX.then ?_
      refine Tr.seq ?_
      refine Tr.region_f (fun _ => false) ?_
      refine W.q rfl rfl rfl rfl (by decide) (Yd.as rfl .c) ?_
      refine W.end ?_
      refine NX.sub (env' := [(4, _)]) ⟨rfl, trivial⟩ ?_
      refine NX.then ?_
      refine Tr.ret' ?_
      refine res1 rfl rfl ?_
      intro w hc
      cases hr
      exact ⟨rfl, hc⟩
    have hlen5 := (ha_0).2.1
    refine Tr.block ?_
    refine Tr.sub (env' := [(0, _), (1, _), (5, _)]) ⟨rfl, rfl, rfl, trivial⟩ ?_
    refine Tr.loop (S := fun n (z : Int × Unit) env x => match z with | (i_6, _) => env = [(0, ua_0), (1, ub_1), (5, .int .i64 i_6)] ∧ x = ⟨m, l⟩ ∧ n = ((a_0.length : Int) - i_6).toNat ∧ 0 ≤ i_6 ∧ forK (σ := Unit) (fun i s nx_ => syllogistref_Ints_b7 a_0 b_1 i nx_) (fun _ => syllogistref_Ints_k3) n i_6 () = some r) _ ((0 : Int), ()) ⟨rfl, rfl, rfl, (by omega), hr⟩ ?_
    rintro n9 ⟨i_6, _⟩ env x ⟨rfl, rfl, hni_6, h0i_6, hr⟩
    cases n9 with
    | zero =>
      simp only [forK] at hr
      refine Tr.seq ?_
      refine Tr.seq ?_
      refine Tr.region_f (fun _ => false) ?_
      refine W.q rfl rfl rfl rfl (by decide) (Yd.mv rfl (.t rfl)) ?_
      refine W.q rfl rfl rfl rfl (by decide) (Yd.mv rfl (.t rfl)) ?_
      refine W.q rfl rfl rfl rfl (by decide) (Yd.lenR ha_0 rfl Try.underlying38 (.t rfl)) ?_
      refine W.q rfl rfl rfl rfl (by decide) (Yd.lss rfl (.t rfl) (.t rfl)) ?_
      refine W.end ?_
      refine NX.sub (env' := [(0, _), (1, _), (5, _), (14, _)]) ⟨rfl, rfl, rfl, rfl, trivial⟩ ?_
      refine NX.then ?_
      refine Tr.cond (.t rfl) (fun hb => ?_) (fun hb => ?_)
      · exact absurd (hb.symm.trans (fr_end hni_6)) (by decide)
      ·
        refine Tr.exit' (EX.then (EX.then (EX.block ?_)))
        refine NX.sub (env' := []) trivial ?_
        exact hk4 _ _ ⟨rfl, rfl, hr⟩
    | succ n9 =>
      obtain ⟨nx8, hnx8, hr⟩ := forK_succ hr
      try dsimp only at hr
      unfold syllogistref_Ints_b7 at hr
      try dsimp only at hr
      have hlti_6 := fr_bnd hni_6
      refine Tr.seq ?_
      refine Tr.seq ?_
      refine Tr.region_f (fun _ => false) ?_
      refine W.q rfl rfl rfl rfl (by decide) (Yd.mv rfl (.t rfl)) ?_
      refine W.q rfl rfl rfl rfl (by decide) (Yd.mv rfl (.t rfl)) ?_
      refine W.q rfl rfl rfl rfl (by decide) (Yd.lenR ha_0 rfl Try.underlying38 (.t rfl)) ?_
      refine W.q rfl rfl rfl rfl (by decide) (Yd.lss rfl (.t rfl) (.t rfl)) ?_
      refine W.end ?_
      refine NX.sub (env' := [(0, _), (1, _), (5, _), (14, _)]) ⟨rfl, rfl, rfl, rfl, trivial⟩ ?_
      refine NX.then ?_
      refine Tr.cond (.t rfl) (fun hb => ?_) (fun hb => ?_)
      rotate_left
      · exact absurd (hb.symm.trans (fr_go hni_6)) (by decide)
      ·
        refine Tr.skip' ?_
        refine NX.then ?_
        refine Tr.seq ?_
        refine Tr.block ?_
        refine Tr.seq ?_
        obtain ⟨y10, hy11, hr⟩ := bind_some hr
        obtain ⟨y12, hy13, hr⟩ := bind_some hr
        refine Tr.region_x (fun _ => false) (fun _ => false) (Ord.of [0, 1, 2, 3, 4, 5, 6, 7, 8]) FM (by kernel_rfl) ?_
        refine W.q rfl rfl rfl rfl (by decide) (Yd.mv rfl (.t rfl)) ?_
        refine W.q rfl rfl rfl rfl (by decide) (Yd.mv rfl (.t rfl)) ?_
        refine W.q rfl rfl rfl rfl (by decide) (Yd.idxR ha_0 hy11 rfl Try.underlying38 SZ3 (.t rfl) (.t rfl)) ?_
        refine W.q rfl rfl rfl rfl (by decide) (Yd.ldF ha_0 (.refl _) hy11 rfl rfl ON3 (.t rfl)) ?_
        refine W.q rfl rfl rfl rfl (by decide) (Yd.mv rfl (.t rfl)) ?_
        refine W.q rfl rfl rfl rfl (by decide) (Yd.mv rfl (.t rfl)) ?_
        refine W.q rfl rfl rfl rfl (by decide) (Yd.idxR hb_1 hy13 rfl Try.underlying38 SZ3 (.t rfl) (.t rfl)) ?_
        refine W.q rfl rfl rfl rfl (by decide) (Yd.ldF hb_1 (.refl _) hy13 rfl rfl ON3 (.t rfl)) ?_
        refine W.q rfl rfl rfl rfl (by decide) (Yd.neq rfl (.t rfl) (.t rfl)) ?_
        refine W.end ?_
        refine NX.sub (env' := [(0, _), (1, _), (5, _), (25, _)]) ⟨rfl, rfl, rfl, rfl, trivial⟩ ?_
        refine NX.then ?_
        refine Tr.cond (.t rfl) (fun hb => ?_) (fun hb => ?_)
        · have hr := cond_t hb hr
          refine Tr.seq ?_
          refine Tr.region_f (fun _ => false) ?_
          refine W.q rfl rfl rfl rfl (by decide) (Yd.as rfl .c) ?_
          refine W.end ?_
          refine NX.sub (env' := [(4, _)]) ⟨rfl, trivial⟩ ?_
          refine NX.then ?_
          refine Tr.ret' (RT.block (RT.then (RT.then (RT.block (RT.then ?_)))))
          refine res1 rfl rfl ?_
          intro w hc
          cases hr
          exact ⟨rfl, hc⟩
        · have hr := cond_f hb hr
          refine Tr.skip' ?_
          refine NX.block ?_
          refine NX.then ?_
          refine Tr.region_f (fun _ => false) ?_
          refine W.q rfl rfl rfl rfl (by decide) (Yd.mv rfl (.t rfl)) ?_
          refine W.q rfl rfl rfl rfl (by decide) (Yd.add rfl (.t rfl) .c) ?_
          refine W.q rfl rfl rfl rfl (by decide) (Yd.as rfl (.t rfl)) ?_
          refine W.end ?_
          refine NX.sub (env' := [(0, _), (1, _), (5, _)]) ⟨rfl, rfl, rfl, trivial⟩ ?_
          refine NX.sub (env' := [(0, _), (1, _), (5, _)]) ⟨rfl, rfl, rfl, trivial⟩ ?_
          have hw := w64_id (n := i_6 + 1) (by omega) (by omega)
          exact NX.again n9 (i_6 + 1, ()) (Nat.lt_succ_self _) ⟨(by rw [hw] <;> rfl), rfl, (fr_dec hni_6), (by omega), ((hnx8 _).symm.trans hr)⟩

def syllogistlaw_FlowRuns_k15 (prog_1 : List Line) (vars_2 : List Int) (fuel : Nat) (r1 : (List Int) × Int) (x_14 : Int) : Option (Bool) :=
  (bif (x_14 != (0 : Int)) then
  some (((r1.2 == x_14) && ((r1.1.length : Int) == (0 : Int))))
  else
  (bif ((r1.2 == (0 : Int)) == true) then
  (syllogistref_Run fuel prog_1 vars_2).bind fun r18 =>
  (syllogistref_Ints r1.1 r18).bind fun r23 =>
  some (((r1.2 == (0 : Int)) && r23))
  else
  some (((r1.2 == (0 : Int)) && false))))

def syllogistlaw_FlowRuns_b27 (vars_2 : List Int) (t_26 : Int) (x_12 : Int) (nx28 : Int → Option (Bool)) : Option (Bool) :=
  (geti vars_2 t_26).bind fun y30 =>
  (bif ((x_12 == (0 : Int)) && ((decide (y30 < (0 : Int))) || (decide (y30 > (7 : Int))))) then
  nx28 (4 : Int)
  else
  nx28 x_12)

def syllogistlaw_FlowRuns_k8 (prog_1 : List Line) (vars_2 : List Int) (fuel : Nat) (r1 : (List Int) × Int) (x_7 : Int) : Option (Bool) :=
  forK (σ := Int) (fun i s nx_ => syllogistlaw_FlowRuns_b27 vars_2 i s nx_) (fun s => syllogistlaw_FlowRuns_k15 prog_1 vars_2 fuel r1 s) ((vars_2.length : Int) - (0 : Int)).toNat (0 : Int) x_7

def syllogistlaw_FlowRuns (fuel : Nat) (n_0 : Int) (prog_1 : List Line) (vars_2 : List Int) : Option (Bool) :=
  (flow_Run fuel n_0 prog_1 vars_2).bind fun r1 =>
  (syllogistref_ProgCheck fuel n_0 prog_1).bind fun r5 =>
  (bif ((r5 == (0 : Int)) && ((vars_2.length : Int) != n_0)) then
  syllogistlaw_FlowRuns_k8 prog_1 vars_2 fuel r1 ((3 : Int))
  else
  syllogistlaw_FlowRuns_k8 prog_1 vars_2 fuel r1 r5)

set_option maxRecDepth 100000 in
set_option maxHeartbeats 4000000 in
theorem syllogistlaw_FlowRuns_ok (w0 : World) (m : Snap) (l : List HI) (fuel : Nat) (n_0 : Int) (uprog_1 : Value) (prog_1 : List Line) (hprog_1 : RS rLine m uprog_1 prog_1) (uvars_2 : Value) (vars_2 : List Int) (hvars_2 : RS rI m uvars_2 vars_2) (r : Bool) (hr : syllogistlaw_FlowRuns fuel n_0 prog_1 vars_2 = some r) (w : World) (hc : cX w0 ⟨m, l⟩ w) :
    Calls Try.prog 5 [.int .i64 n_0, uprog_1, uvars_2].toArray w fun e w' => e = .returned (.bool r) ∧ cX w0 ⟨m, l⟩ w' := by
  unfold syllogistlaw_FlowRuns at hr
  refine calls_of_Tr (N := 66) Try.func5 rfl hc rfl (Nat.le_of_ble_eq_true rfl) ?_
  refine Tr.seq ?_
  refine Tr.region_f (fun _ => false) ?_
  refine W.q rfl rfl rfl rfl (by decide) (Yd.as rfl .c) ?_
  refine W.end ?_
  refine NX.sub (env' := [(0, _), (1, _), (2, _)]) ⟨rfl, rfl, rfl, trivial⟩ ?_
  refine NX.then ?_
  refine Tr.seq ?_
  obtain ⟨r1, hr2, hr⟩ := bind_some hr
  refine Tr.region_f (fun i => Nat.beq i 3) ?_
  refine W.q rfl rfl rfl rfl (by decide) (Yd.mv rfl (.t rfl)) ?_
  refine W.q rfl rfl rfl rfl (by decide) (Yd.mv rfl (.t rfl)) ?_
  refine W.q rfl rfl rfl rfl (by decide) (Yd.mv rfl (.t rfl)) ?_
  refine W.e rfl rfl rfl rfl (by decide) (Ef.call (R := fun z x' => ∃ v3 : Value, z = .tuple #[v3, .int .i64 r1.2] ∧ x' = ⟨m, hownT 3 1 encI v3 r1.1 :: l⟩) rfl Try.func17 rfl rfl (.cons (.t rfl) (.cons (.t rfl) (.cons (.t rfl) .nil))) (fun w hw => (flow_Run_ok w0 _ _ fuel n_0 _ _ hprog_1 _ _ hvars_2 _ hr2 w hw).mono fun e w' ⟨v3, he, hc'⟩ => ⟨_, _, he, ⟨v3, rfl, rfl⟩, hc'⟩)) ?_
  rintro _ _ ⟨v3, rfl, rfl⟩
  refine ⟨.inl rfl, ?_⟩
  refine W.cast (m' := m) (l' := hownT 3 1 encI v3 _ :: l) rfl rfl ?_
  refine W.q rfl rfl rfl rfl (by decide) (Yd.mv rfl (.t rfl)) ?_
  refine W.q rfl rfl rfl rfl (by decide) (Yd.ext rfl (.t rfl) rfl) ?_
  refine W.q rfl rfl rfl rfl (by decide) (Yd.ext rfl (.t rfl) rfl) ?_
  refine W.q rfl rfl rfl rfl (by decide) (Yd.as rfl (.t rfl)) ?_
  refine W.q rfl rfl rfl rfl (by decide) (Yd.as rfl (.t rfl)) ?_
  refine W.end ?_
  refine NX.sub (env' := [(0, _), (1, _), (2, _), (7, _), (8, _)]) ⟨rfl, rfl, rfl, rfl, rfl, trivial⟩ ?_
  refine NX.then ?_
  refine Tr.seq ?_
  obtain ⟨r5, hr6, hr⟩ := bind_some hr
  refine Tr.region_f (fun _ => false) ?_
  refine W.q rfl rfl rfl rfl (by decide) (Yd.mv rfl (.t rfl)) ?_
  refine W.q rfl rfl rfl rfl (by decide) (Yd.mv rfl (.t rfl)) ?_
  refine W.q rfl rfl rfl rfl (by decide) (Yd.call (v := .int .i64 r5) rfl Try.func18 rfl rfl (.cons (.t rfl) (.cons (.t rfl) .nil)) (fun x' hx w hw => syllogistref_ProgCheck_ok w0 x'.m x'.l fuel n_0 _ _ (hprog_1.mono hx.1) _ hr6 w hw)) ?_
  refine W.q rfl rfl rfl rfl (by decide) (Yd.as rfl (.t rfl)) ?_
  refine W.end ?_
  refine NX.sub (env' := [(0, _), (1, _), (2, _), (7, _), (8, _), (9, _)]) ⟨rfl, rfl, rfl, rfl, rfl, rfl, trivial⟩ ?_
  refine NX.then ?_
  refine Tr.seq ?_
  refine Tr.seq ?_
  refine Tr.region_f (fun _ => false) ?_
  refine W.q rfl rfl rfl rfl (by decide) (Yd.mv rfl (.t rfl)) ?_
  refine W.q rfl rfl rfl rfl (by decide) (Yd.eql rfl (.t rfl) .c) ?_
  refine W.q rfl rfl rfl rfl (by decide) (Yd.mv rfl (.t rfl)) ?_
  refine W.g rfl rfl rfl rfl rfl (.t rfl _) rfl (by decide) (fun hG => Yd.mv rfl (.t rfl)) ?_
  refine W.g rfl rfl rfl rfl rfl (.t rfl _) rfl (by decide) (fun hG => Yd.lenR hvars_2 rfl Try.underlying38 (.g rfl hG)) ?_
  refine W.g rfl rfl rfl rfl rfl (.t rfl _) rfl (by decide) (fun hG => Yd.mv rfl (.t rfl)) ?_
  refine W.g rfl rfl rfl rfl rfl (.t rfl _) rfl (by decide) (fun hG => Yd.neq rfl (.g rfl hG) (.g rfl hG)) ?_
  refine W.q rfl rfl rfl rfl (by decide) (Yd.and rfl (.t rfl) .c rfl rfl) ?_
  refine W.end ?_
  refine NX.sub (env' := [(1, _), (2, _), (7, _), (8, _), (9, _), (29, _)]) ⟨rfl, rfl, rfl, rfl, rfl, rfl, trivial⟩ ?_
  refine NX.then ?_
  refine Tr.join (S := fun env x => ∃ x_7 : Int, env = [(1, uprog_1), (2, uvars_2), (7, v3), (8, .int .i64 r1.2), (9, .int .i64 x_7)] ∧ x = ⟨m, hownT 3 1 encI v3 r1.1 :: l⟩ ∧ syllogistlaw_FlowRuns_k8 prog_1 vars_2 fuel r1 x_7 = some r) ?_ (fun hk9 => ?_)
  · rintro _ _ ⟨x_7, rfl, rfl, hr⟩
    unfold syllogistlaw_FlowRuns_k8 at hr
    try dsimp only at hr
    refine NX.then ?_
    refine Tr.seq ?_
    refine Tr.seq ?_
    refine Tr.region_f (fun _ => false) ?_
    refine W.q rfl rfl rfl rfl (by decide) (Yd.mv rfl (.t rfl)) ?_
    refine W.q rfl rfl rfl rfl (by decide) (Yd.lenR hvars_2 rfl Try.underlying38 (.t rfl)) ?_
    refine W.q rfl rfl rfl rfl (by decide) (Yd.mv rfl .c) ?_
    refine W.end ?_
    refine NX.sub (env' := [(1, _), (2, _), (7, _), (8, _), (9, _), (30, _), (31, _), (32, _)]) ⟨rfl, rfl, rfl, rfl, rfl, rfl, rfl, rfl, trivial⟩ ?_
    refine NX.then ?_
    refine Tr.join (S := fun env x => ∃ x_14 : Int, env = [(1, uprog_1), (2, uvars_2), (7, v3), (8, .int .i64 r1.2), (9, .int .i64 x_14)] ∧ x = ⟨m, hownT 3 1 encI v3 r1.1 :: l⟩ ∧ syllogistlaw_FlowRuns_k15 prog_1 vars_2 fuel r1 x_14 = some r) ?_ (fun hk16 => ?_)
    · rintro _ _ ⟨x_14, rfl, rfl, hr⟩
      unfold syllogistlaw_FlowRuns_k15 at hr
      try dsimp only at hr
      refine NX.then ?_
      refine Tr.seq ?_
      refine Tr.seq ?_
      refine Tr.region_f (fun _ => false) ?_
      refine W.q rfl rfl rfl rfl (by decide) (Yd.mv rfl (.t rfl)) ?_
      refine W.q rfl rfl rfl rfl (by decide) (Yd.neq rfl (.t rfl) .c) ?_
      refine W.end ?_
      refine NX.sub (env' := [(1, _), (2, _), (7, _), (8, _), (9, _), (48, _)]) ⟨rfl, rfl, rfl, rfl, rfl, rfl, trivial⟩ ?_
      refine NX.then ?_
      refine Tr.cond (.t rfl) (fun hb => ?_) (fun hb => ?_)
      · have hr := cond_t hb hr
        refine Tr.seq ?_
        refine Tr.region_f (fun _ => false) ?_
        refine W.q rfl rfl rfl rfl (by decide) (Yd.mv rfl (.t rfl)) ?_
        refine W.q rfl rfl rfl rfl (by decide) (Yd.mv rfl (.t rfl)) ?_
        refine W.q rfl rfl rfl rfl (by decide) (Yd.eql rfl (.t rfl) (.t rfl)) ?_
        refine W.q rfl rfl rfl rfl (by decide) (Yd.mv rfl (.t rfl)) ?_
        refine W.g rfl rfl rfl rfl rfl (.t rfl _) rfl (by decide) (fun hG => Yd.mv rfl (.t rfl)) ?_
        refine W.g rfl rfl rfl rfl rfl (.t rfl _) rfl (by decide) (fun hG => Yd.lenO (p := 0) rfl rfl Try.underlying38 (.g rfl hG)) ?_
        refine W.g rfl rfl rfl rfl rfl (.t rfl _) rfl (by decide) (fun hG => Yd.eql rfl (.g rfl hG) .c) ?_
        refine W.q rfl rfl rfl rfl (by decide) (Yd.and rfl (.t rfl) .c rfl rfl) ?_
        refine W.q rfl rfl rfl rfl (by decide) (Yd.as rfl (.t rfl)) ?_
        refine W.end ?_
        refine NX.sub (env' := [(6, _)]) ⟨rfl, trivial⟩ ?_
        refine NX.drop (l' := l) (.cons _ (.refl _)) ?_
        refine NX.then ?_
        refine Tr.ret' (RT.then ?_)
        refine res1 rfl rfl ?_
        intro w hc
        cases hr
        exact ⟨rfl, hc⟩
      · have hr := cond_f hb hr
        refine Tr.skip' ?_
        refine NX.then ?_
        refine Tr.seq ?_
        refine Tr.region_f (fun i => Nat.beq i 6) ?_
        refine W.q rfl rfl rfl rfl (by decide) (Yd.mv rfl (.t rfl)) ?_
        refine W.q rfl rfl rfl rfl (by decide) (Yd.eql rfl (.t rfl) .c) ?_
        refine W.q rfl rfl rfl rfl (by decide) (Yd.mv rfl (.t rfl)) ?_
        refine W.g rfl rfl rfl rfl rfl (.t rfl _) rfl (by decide) (fun hG => Yd.mv rfl (.t rfl)) ?_
        refine W.g rfl rfl rfl rfl rfl (.t rfl _) rfl (by decide) (fun hG => Yd.mv rfl (.t rfl)) ?_
        refine W.g rfl rfl rfl rfl rfl (.t rfl _) rfl (by decide) (fun hG => Yd.mv rfl (.t rfl)) ?_
        refine W.split (b := ((r1.2 == (0 : Int)) == true)) (fun hb17 => ?_) (fun hb17 => ?_)
        · have hr := cond_t hb17 hr
          obtain ⟨r18, hr19, hr⟩ := bind_some hr
          obtain ⟨r23, hr24, hr⟩ := bind_some hr
          refine W.ge rfl rfl rfl rfl rfl (.t rfl _) hb17 rfl (by decide) (Ef.call (R := fun z x' => ∃ u20 : Value, ∃ m21 : Snap, z = u20 ∧ x' = ⟨m21, hownT 3 1 encI v3 r1.1 :: l⟩ ∧ Sle m m21 ∧ RS rI m21 u20 r18) rfl Try.func20 rfl rfl (.cons (.g rfl hb17) (.cons (.g rfl hb17) .nil)) (fun w hw => (syllogistref_Run_ok w0 _ _ fuel _ _ hprog_1 _ _ hvars_2 _ hr19 w hw).mono fun e w' ⟨u20, m21, he, hm', hu22, hc'⟩ => ⟨_, _, he, ⟨u20, m21, rfl, rfl, hm', hu22⟩, hc'⟩)) ?_
          rintro u20 _ ⟨_, m21, rfl, rfl, hsm21, hu22⟩
          have hprog_1 := hprog_1.mono hsm21
          have hvars_2 := hvars_2.mono hsm21
          refine ⟨.inl rfl, ?_⟩
          refine W.cast (m' := m21) (l' := hownT 3 1 encI v3 _ :: l) rfl rfl ?_
          refine W.g rfl rfl rfl rfl rfl (.t rfl _) rfl (by decide) (fun hG => Yd.call (v := .bool r23) rfl Try.func19 rfl rfl (.cons (.g rfl hb17) (.cons (.t rfl) .nil)) (by intro x' hx w hw; obtain ⟨p0, hp0⟩ := hx.at (p := 0) rfl; obtain ⟨m2, hm2, hc2, ⟨L2, hl1, hl2⟩, hback⟩ := cX_lend hw hp0 lone_own; have hL1 : RS rI m2 _ _ := RS_of_own hl1 hl2; exact (syllogistref_Ints_ok w0 m2 _ _ _ hL1 _ _ (hu22.mono (hx.1.trans hm2)) _ hr24 w hc2).mono fun e w' ⟨he, hc'⟩ => ⟨he, (hback m2 _ _ w' (.refl _) hp0).2 hc'⟩)) ?_
          refine W.q rfl rfl rfl rfl (by decide) (Yd.and rfl (.t rfl) .c rfl rfl) ?_
          refine W.q rfl rfl rfl rfl (by decide) (Yd.as rfl (.t rfl)) ?_
          refine W.end ?_
          refine NX.sub (env' := [(6, _)]) ⟨rfl, trivial⟩ ?_
          refine NX.drop (l' := l) (.cons _ (.refl _)) ?_
          refine NX.then ?_
          refine Tr.ret' ?_
          refine res1 rfl rfl ?_
          intro w hc
          cases hr
          exact ⟨rfl, (cX_le (x := ⟨m, _⟩) ⟨hsm21, [], rfl⟩ hc)⟩
        · have hr := cond_f hb17 hr
          refine W.gF rfl rfl rfl rfl (.t rfl _) hb17 rfl (by decide) (undef) ?_
          refine W.gF rfl rfl rfl rfl (.t rfl _) hb17 rfl (by decide) (.bool false) ?_
          refine W.q rfl rfl rfl rfl (by decide) (Yd.and rfl (.t rfl) .c rfl rfl) ?_
          refine W.q rfl rfl rfl rfl (by decide) (Yd.as rfl (.t rfl)) ?_
          refine W.end ?_
          refine NX.sub (env' := [(6, _)]) ⟨rfl, trivial⟩ ?_
          refine NX.drop (l' := l) (.cons _ (.refl _)) ?_
          refine NX.then ?_
          refine Tr.ret' ?_
          refine res1 rfl rfl ?_
          intro w hc
          cases hr
          exact ⟨rfl, hc⟩
    have hlen25 := (hvars_2).2.1
    refine Tr.block ?_
    refine Tr.sub (env' := [(1, _), (2, _), (7, _), (8, _), (9, _), (30, _), (31, _), (32, _)]) ⟨rfl, rfl, rfl, rfl, rfl, rfl, rfl, rfl, trivial⟩ ?_
    refine Tr.loop (S := fun n (z : Int × Int) env x => match z with | (t_26, x_12) => env = [(1, uprog_1), (2, uvars_2), (7, v3), (8, .int .i64 r1.2), (9, .int .i64 x_12), (30, uvars_2), (31, .int .i64 ((vars_2.length : Int))), (32, .int .i64 t_26)] ∧ x = ⟨m, hownT 3 1 encI v3 r1.1 :: l⟩ ∧ n = ((vars_2.length : Int) - t_26).toNat ∧ 0 ≤ t_26 ∧ forK (σ := Int) (fun i s nx_ => syllogistlaw_FlowRuns_b27 vars_2 i s nx_) (fun s => syllogistlaw_FlowRuns_k15 prog_1 vars_2 fuel r1 s) n t_26 x_12 = some r) _ ((0 : Int), x_7) ⟨rfl, rfl, rfl, (by omega), hr⟩ ?_
    rintro n29 ⟨t_26, x_12⟩ env x ⟨rfl, rfl, hnt_26, h0t_26, hr⟩
    cases n29 with
    | zero =>
      simp only [forK] at hr
      refine Tr.seq ?_
      refine Tr.region_f (fun _ => false) ?_
      refine W.q rfl rfl rfl rfl (by decide) (Yd.lss rfl (.t rfl) (.t rfl)) ?_
      refine W.end ?_
      refine NX.sub (env' := [(1, _), (2, _), (7, _), (8, _), (9, _), (30, _), (31, _), (32, _), (33, _)]) ⟨rfl, rfl, rfl, rfl, rfl, rfl, rfl, rfl, rfl, trivial⟩ ?_
      refine NX.then ?_
      refine Tr.seq ?_
      refine Tr.cond (.t rfl) (fun hb => ?_) (fun hb => ?_)
      · exact absurd (hb.symm.trans (fr_end hnt_26)) (by decide)
      ·
        refine Tr.exit' (EX.then (EX.then (EX.block ?_)))
        refine NX.sub (env' := [(1, _), (2, _), (7, _), (8, _), (9, _)]) ⟨rfl, rfl, rfl, rfl, rfl, trivial⟩ ?_
        exact hk16 _ _ ⟨_, rfl, rfl, hr⟩
    | succ n29 =>
      obtain ⟨nx28, hnx28, hr⟩ := forK_succ hr
      try dsimp only at hr
      unfold syllogistlaw_FlowRuns_b27 at hr
      try dsimp only at hr
      have hltt_26 := fr_bnd hnt_26
      refine Tr.seq ?_
      refine Tr.region_f (fun _ => false) ?_
      refine W.q rfl rfl rfl rfl (by decide) (Yd.lss rfl (.t rfl) (.t rfl)) ?_
      refine W.end ?_
      refine NX.sub (env' := [(1, _), (2, _), (7, _), (8, _), (9, _), (30, _), (31, _), (32, _), (33, _)]) ⟨rfl, rfl, rfl, rfl, rfl, rfl, rfl, rfl, rfl, trivial⟩ ?_
      refine NX.then ?_
      refine Tr.seq ?_
      refine Tr.cond (.t rfl) (fun hb => ?_) (fun hb => ?_)
      rotate_left
      · exact absurd (hb.symm.trans (fr_go hnt_26)) (by decide)
      ·
        refine Tr.skip' ?_
        refine NX.then ?_
        refine Tr.seq ?_
        refine Tr.block ?_
        refine Tr.seq ?_
        obtain ⟨y30, hy31, hr⟩ := bind_some hr
        refine Tr.region_f (fun _ => false) ?_
        refine W.q rfl rfl rfl rfl (by decide) (Yd.idxR hvars_2 hy31 rfl Try.underlying38 SZ3 (.t rfl) (.t rfl)) ?_
        refine W.q rfl rfl rfl rfl (by decide) (Yd.ldF hvars_2 (.refl _) hy31 rfl rfl ON3 (.t rfl)) ?_
        refine W.q rfl rfl rfl rfl (by decide) (Yd.as rfl (.t rfl)) ?_
        refine W.end ?_
        refine NX.sub (env' := [(1, _), (2, _), (7, _), (8, _), (9, _), (30, _), (31, _), (32, _), (11, _)]) ⟨rfl, rfl, rfl, rfl, rfl, rfl, rfl, rfl, rfl, trivial⟩ ?_
        refine NX.then ?_
        refine Tr.seq ?_
        refine Tr.region_f (fun _ => false) ?_
        refine W.q rfl rfl rfl rfl (by decide) (Yd.mv rfl (.t rfl)) ?_
        refine W.q rfl rfl rfl rfl (by decide) (Yd.eql rfl (.t rfl) .c) ?_
        refine W.q rfl rfl rfl rfl (by decide) (Yd.mv rfl (.t rfl)) ?_
        refine W.g rfl rfl rfl rfl rfl (.t rfl _) rfl (by decide) (fun hG => Yd.mv rfl (.t rfl)) ?_
        refine W.g rfl rfl rfl rfl rfl (.t rfl _) rfl (by decide) (fun hG => Yd.lss rfl (.g rfl hG) .c) ?_
        refine W.g rfl rfl rfl rfl rfl (.t rfl _) rfl (by decide) (fun hG => Yd.mv rfl (.g rfl hG)) ?_
        refine W.g rfl rfl rfl rfl rfl (.g rfl _) rfl (by decide) (fun hG => Yd.mv rfl (.t rfl)) ?_
        refine W.g rfl rfl rfl rfl rfl (.g rfl _) rfl (by decide) (fun hG => Yd.gtr rfl (.g rfl hG) .c) ?_
        refine W.g rfl rfl rfl rfl rfl (.t rfl _) rfl (by decide) (fun hG => Yd.orG rfl (.g rfl hG) .c rfl rfl hG) ?_
        refine W.q rfl rfl rfl rfl (by decide) (Yd.and rfl (.t rfl) .c rfl rfl) ?_
        refine W.end ?_
        refine NX.sub (env' := [(1, _), (2, _), (7, _), (8, _), (9, _), (30, _), (31, _), (32, _), (45, _)]) ⟨rfl, rfl, rfl, rfl, rfl, rfl, rfl, rfl, rfl, trivial⟩ ?_
        refine NX.then ?_
        refine Tr.cond (.t rfl) (fun hb => ?_) (fun hb => ?_)
        · have hr := cond_t hb hr
          refine Tr.region_f (fun _ => false) ?_
          refine W.q rfl rfl rfl rfl (by decide) (Yd.as rfl .c) ?_
          refine W.end ?_
          refine NX.sub (env' := [(1, _), (2, _), (7, _), (8, _), (9, _), (30, _), (31, _), (32, _)]) ⟨rfl, rfl, rfl, rfl, rfl, rfl, rfl, rfl, trivial⟩ ?_
          refine NX.block ?_
          refine NX.then ?_
          refine Tr.region_f (fun _ => false) ?_
          refine W.q rfl rfl rfl rfl (by decide) (Yd.add rfl (.t rfl) .c) ?_
          refine W.q rfl rfl rfl rfl (by decide) (Yd.mv rfl (.t rfl)) ?_
          refine W.end ?_
          refine NX.sub (env' := [(1, _), (2, _), (7, _), (8, _), (9, _), (30, _), (31, _), (32, _)]) ⟨rfl, rfl, rfl, rfl, rfl, rfl, rfl, rfl, trivial⟩ ?_
          refine NX.sub (env' := [(1, _), (2, _), (7, _), (8, _), (9, _), (30, _), (31, _), (32, _)]) ⟨rfl, rfl, rfl, rfl, rfl, rfl, rfl, rfl, trivial⟩ ?_
          have hw := w64_id (n := t_26 + 1) (by omega) (by omega)
          exact NX.again n29 (t_26 + 1, (4 : Int)) (Nat.lt_succ_self _) ⟨(by rw [hw] <;> rfl), rfl, (fr_dec hnt_26), (by omega), ((hnx28 _).symm.trans hr)⟩
        · have hr := cond_f hb hr
          refine Tr.skip' ?_
          refine NX.block ?_
          refine NX.then ?_
          refine Tr.region_f (fun _ => false) ?_
          refine W.q rfl rfl rfl rfl (by decide) (Yd.add rfl (.t rfl) .c) ?_
          refine W.q rfl rfl rfl rfl (by decide) (Yd.mv rfl (.t rfl)) ?_
          refine W.end ?_
          refine NX.sub (env' := [(1, _), (2, _), (7, _), (8, _), (9, _), (30, _), (31, _), (32, _)]) ⟨rfl, rfl, rfl, rfl, rfl, rfl, rfl, rfl, trivial⟩ ?_
          refine NX.sub (env' := [(1, _), (2, _), (7, _), (8, _), (9, _), (30, _), (31, _), (32, _)]) ⟨rfl, rfl, rfl, rfl, rfl, rfl, rfl, rfl, trivial⟩ ?_
          have hw := w64_id (n := t_26 + 1) (by omega) (by omega)
          exact NX.again n29 (t_26 + 1, x_12) (Nat.lt_succ_self _) ⟨(by rw [hw] <;> rfl), rfl, (fr_dec hnt_26), (by omega), ((hnx28 _).symm.trans hr)⟩
  refine Tr.cond (.t rfl) (fun hb => ?_) (fun hb => ?_)
  · have hr := cond_t hb hr
    refine Tr.region_f (fun _ => false) ?_
    refine W.q rfl rfl rfl rfl (by decide) (Yd.as rfl .c) ?_
    refine W.end ?_
    refine NX.sub (env' := [(1, _), (2, _), (7, _), (8, _), (9, _)]) ⟨rfl, rfl, rfl, rfl, rfl, trivial⟩ ?_
    refine NX.sub (env' := [(1, _), (2, _), (7, _), (8, _), (9, _)]) ⟨rfl, rfl, rfl, rfl, rfl, trivial⟩ ?_
    exact hk9 _ _ ⟨_, rfl, rfl, hr⟩
  · have hr := cond_f hb hr
    refine Tr.skip' ?_
    refine NX.sub (env' := [(1, _), (2, _), (7, _), (8, _), (9, _)]) ⟨rfl, rfl, rfl, rfl, rfl, trivial⟩ ?_
    exact hk9 _ _ ⟨_, rfl, rfl, hr⟩

def label_Check (a_0 : Label) : Option (Int) :=
  (bif (((decide (a_0.level < (0 : Int))) || (decide (a_0.level > (3 : Int)))) || (decide (a_0.parts ≥ 32#32))) then
  some ((4 : Int))
  else
  some ((0 : Int)))

set_option maxRecDepth 100000 in
set_option maxHeartbeats 4000000 in
theorem label_Check_ok (w0 : World) (m : Snap) (l : List HI) (a_0 : Label) (r : Int) (hr : label_Check a_0 = some r) (w : World) (hc : cX w0 ⟨m, l⟩ w) :
    Calls Try.prog 55 [.agg #[.int .i64 a_0.level, .int .u32 (a_0.parts.toNat : Int)]].toArray w fun e w' => e = .returned (.int .i64 r) ∧ cX w0 ⟨m, l⟩ w' := by
  unfold label_Check at hr
  refine calls_of_Tr (N := 16) Try.func55 rfl hc rfl (Nat.le_of_ble_eq_true rfl) ?_
  refine Tr.seq ?_
  refine Tr.region_f (fun i => Nat.beq i 0) ?_
  refine W.e rfl rfl rfl rfl (by decide) (Ef.bx rfl (.t rfl) rfl) ?_
  rintro _ _ ⟨b1, rfl, rfl⟩
  refine ⟨.inl rfl, ?_⟩
  refine W.cast (m' := m) (l' := hcells b1 [_, _] 65 :: l) rfl rfl ?_
  refine W.q rfl rfl rfl rfl (by decide) (Yd.as rfl .c) ?_
  refine W.end ?_
  refine NX.sub (env' := [(1, _)]) ⟨rfl, trivial⟩ ?_
  refine NX.then ?_
  refine Tr.seq ?_
  refine Tr.seq ?_
  refine Tr.region_f (fun _ => false) ?_
  refine W.q rfl rfl rfl rfl (by decide) (Yd.fldB rfl Try.underlying65 rfl SZ3 rfl (.t rfl)) ?_
  refine W.q rfl rfl rfl rfl (by decide) (Yd.ldB (pos := 0) rfl rfl rfl ON3 (.t rfl)) ?_
  refine W.q rfl rfl rfl rfl (by decide) (Yd.lss rfl (.t rfl) .c) ?_
  refine W.q rfl rfl rfl rfl (by decide) (Yd.mv rfl (.t rfl)) ?_
  refine W.g rfl rfl rfl rfl rfl (.t rfl _) rfl (by decide) (fun hG => Yd.fldB rfl Try.underlying65 rfl SZ3 rfl (.t rfl)) ?_
  refine W.g rfl rfl rfl rfl rfl (.t rfl _) rfl (by decide) (fun hG => Yd.ldB (pos := 0) rfl rfl rfl ON3 (.g rfl hG)) ?_
  refine W.g rfl rfl rfl rfl rfl (.t rfl _) rfl (by decide) (fun hG => Yd.gtr rfl (.g rfl hG) .c) ?_
  refine W.q rfl rfl rfl rfl (by decide) (Yd.or rfl (.t rfl) .c rfl rfl) ?_
  refine W.q rfl rfl rfl rfl (by decide) (Yd.mv rfl (.t rfl)) ?_
  refine W.g rfl rfl rfl rfl rfl (.t rfl _) rfl (by decide) (fun hG => Yd.fldB rfl Try.underlying65 rfl SZ63 rfl (.t rfl)) ?_
  refine W.g rfl rfl rfl rfl rfl (.t rfl _) rfl (by decide) (fun hG => Yd.ldB (pos := 0) rfl rfl rfl ON63 (.g rfl hG)) ?_
  refine W.g rfl rfl rfl rfl rfl (.t rfl _) rfl (by decide) (fun hG => Yd.geqU (a := a_0.parts) (b := 32#32) rfl (.g rfl hG) .c) ?_
  refine W.q rfl rfl rfl rfl (by decide) (Yd.or rfl (.t rfl) .c rfl rfl) ?_
  refine W.end ?_
  refine NX.sub (env' := [(15, _)]) ⟨rfl, trivial⟩ ?_
  refine NX.drop (l' := l) (.cons _ (.refl _)) ?_
  refine NX.then ?_
  refine Tr.cond (.t rfl) (fun hb => ?_) (fun hb => ?_)
  · have hr := cond_t hb hr
    refine Tr.seq ?_
    refine Tr.region_f (fun _ => false) ?_
    refine W.q rfl rfl rfl rfl (by decide) (Yd.as rfl .c) ?_
    refine W.end ?_
    refine NX.sub (env' := [(2, _)]) ⟨rfl, trivial⟩ ?_
    refine NX.then ?_
    refine Tr.ret' (RT.then ?_)
    refine res1 rfl rfl ?_
    intro w hc
    cases hr
    exact ⟨rfl, hc⟩
  · have hr := cond_f hb hr
    refine Tr.skip' ?_
    refine NX.then ?_
    refine Tr.seq ?_
    refine Tr.region_f (fun _ => false) ?_
    refine W.q rfl rfl rfl rfl (by decide) (Yd.as rfl .c) ?_
    refine W.end ?_
    refine NX.sub (env' := [(2, _)]) ⟨rfl, trivial⟩ ?_
    refine NX.then ?_
    refine Tr.ret' ?_
    refine res1 rfl rfl ?_
    intro w hc
    cases hr
    exact ⟨rfl, hc⟩
end Go.Proofs.Ytcihfhfolofomaa.Sy
