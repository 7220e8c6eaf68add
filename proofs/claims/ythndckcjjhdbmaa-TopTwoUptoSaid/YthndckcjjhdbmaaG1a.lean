/- Functions of the program as plain functions, and that the translation computes them; the conditions stand in each theorem. Printed by an own program. -/
import Derived.Test.YthndckcjjhdbmaaSyZ
import Derived.Test.YthndckcjjhdbmaaT
import Derived.Test.YthndckcjjhdbmaaProg
namespace Go.Proofs.Ythndckcjjhdbmaa.Sy
open Go
set_option linter.unusedVariables false
theorem SZ3 : (Try.prog.info? 3).map (·.size) = some 1 := by kernel_rfl
theorem ON3 : one Try.prog 3 = true := by kernel_rfl
theorem SZ23 : (Try.prog.info? 23).map (·.size) = some 1 := by kernel_rfl
theorem ON23 : one Try.prog 23 = true := by kernel_rfl
theorem SZ42 : (Try.prog.info? 42).map (·.size) = some 4 := by kernel_rfl
theorem ON42 : one Try.prog 42 = false := by kernel_rfl
theorem US42 : (Try.prog.underlying 42).isSome = true := by kernel_rfl
theorem ZR42 : (Try.prog.info? 42).bind (·.zero) = some (.agg #[.int .i64 0, .int .i64 0, .int .i64 0, .int .u32 0]) := by kernel_rfl
theorem SZ25 : (Try.prog.info? 25).map (·.size) = some 2 := by kernel_rfl
theorem ON25 : one Try.prog 25 = false := by kernel_rfl
theorem US25 : (Try.prog.underlying 25).isSome = true := by kernel_rfl
theorem IF3 : (Try.prog.info? 3).map (fun i => (i.zero, i.size, i.bytes)) = some (some (.int .i64 0), 1, 8) := by kernel_rfl
theorem IF42 : (Try.prog.info? 42).map (fun i => (i.zero, i.size, i.bytes)) = some (some (.agg #[.int .i64 0, .int .i64 0, .int .i64 0, .int .u32 0]), 4, 32) := by kernel_rfl
theorem US3 : (Try.prog.underlying 3).isSome = true := by kernel_rfl
theorem SZ4 : (Try.prog.info? 4).map (·.size) = some 1 := by kernel_rfl
theorem ON4 : one Try.prog 4 = true := by kernel_rfl
theorem ZI42 : (Try.prog.info? 42).bind (·.zero) = some (.agg #[.int .i64 0, .int .i64 0, .int .i64 0, .int .u32 0]) := by kernel_rfl
theorem PL42 : plS Try.prog 42 = some [(0, 1), (1, 1), (2, 2)] := by kernel_rfl
theorem IF4 : (Try.prog.info? 4).map (fun i => (i.zero, i.size, i.bytes)) = some (some (.bool false), 1, 1) := by kernel_rfl
theorem GU42 : Try.prog.eqGuardType Try.prog.depth 42 = false := by kernel_rfl
theorem ST25 : Try.prog.stoodInHeld 25 = false := by kernel_rfl
theorem ST42 : Try.prog.stoodInHeld 42 = false := by kernel_rfl
theorem US23 : (Try.prog.underlying 23).isSome = true := by kernel_rfl
theorem EQ42 (w : World) (x0 : Int) (x1 : Int) (x2 : Int) (x3 : BitVec 32) (y0 : Int) (y1 : Int) (y2 : Int) (y3 : BitVec 32) : (binOp .eql 42 (.agg #[.int .i64 x0, .int .i64 x1, .int .i64 x2, .int .u32 (x3.toNat : Int)]) (.agg #[.int .i64 y0, .int .i64 y1, .int .i64 y2, .int .u32 (y3.toNat : Int)])).run Try.prog w = .ok (.bool ((x0 == y0) && ((x1 == y1) && (((x2 == y2) && ((x3 == y3) && true)) && true)))) w :=
  eq_s w Try.underlying42 ST42 (fun d => (eqf_cons w rfl (part_one w ON3 rfl) (part_one w ON3 rfl) (run_equalIn_int w _ _ _ _ _ _ Try.underlying3) (eqf_cons w rfl (part_one w ON3 rfl) (part_one w ON3 rfl) (run_equalIn_int w _ _ _ _ _ _ Try.underlying3) (eqf_cons w rfl (part_agg w ON25 US25 SZ25) (part_agg w ON25 US25 SZ25) (eq_in w Try.underlying25 ST25 (eqf_cons w rfl (part_one w ON3 rfl) (part_one w ON3 rfl) (run_equalIn_int w _ _ _ _ _ _ Try.underlying3) (eqf_cons w rfl (part_one w ON23 rfl) (part_one w ON23 rfl) (eq_u w Try.underlying23) (eqf_nil w)))) (eqf_nil w)))))
theorem FM : Try.prog.follows .mixedOrders = true := by kernel_rfl
theorem SZ33 : (Try.prog.info? 33).map (·.size) = some 1 := by kernel_rfl
theorem ON33 : one Try.prog 33 = true := by kernel_rfl
theorem IN3 : (Try.prog.info? 3).isSome = true := by kernel_rfl
theorem GU25 : Try.prog.eqGuardType Try.prog.depth 25 = false := by kernel_rfl
theorem EQ25 (w : World) (x0 : Int) (x1 : BitVec 32) (y0 : Int) (y1 : BitVec 32) : (binOp .eql 25 (.agg #[.int .i64 x0, .int .u32 (x1.toNat : Int)]) (.agg #[.int .i64 y0, .int .u32 (y1.toNat : Int)])).run Try.prog w = .ok (.bool ((x0 == y0) && ((x1 == y1) && true))) w :=
  eq_s w Try.underlying25 ST25 (fun d => (eqf_cons w rfl (part_one w ON3 rfl) (part_one w ON3 rfl) (run_equalIn_int w _ _ _ _ _ _ Try.underlying3) (eqf_cons w rfl (part_one w ON23 rfl) (part_one w ON23 rfl) (eq_u w Try.underlying23) (eqf_nil w))))
theorem ON47 : one Try.prog 47 = false := by kernel_rfl
theorem US47 : (Try.prog.underlying 47).isSome = true := by kernel_rfl
theorem SZ47 : (Try.prog.info? 47).map (·.size) = some 5 := by kernel_rfl
theorem ZR47 : (Try.prog.info? 47).bind (·.zero) = some (.agg #[.int .i64 0, .int .i64 0, .int .u32 0, .slice none 0 0, .int .i64 0]) := by kernel_rfl
theorem IF26 : (Try.prog.info? 26).map (fun i => (i.zero, i.size, i.bytes)) = some (some (.int .i64 0), 1, 8) := by kernel_rfl
theorem SZ26 : (Try.prog.info? 26).map (·.size) = some 1 := by kernel_rfl
theorem ON26 : one Try.prog 26 = true := by kernel_rfl
theorem MK47 {m : Snap} (x : Stroke) {u2 : Value} (h2 : RS rI m u2 x.path) : (rStroke).r m [.int .i64 x.kind, .int .i64 x.who.level, .int .u32 (x.who.parts.toNat : Int), u2, .int .i64 x.text] x := ⟨u2, rfl, h2⟩
theorem OC47 : OneC rStroke := by rintro m cs x ⟨u2, rfl, ⟨⟨_, _, rfl, _⟩, _⟩⟩; rfl
theorem IF47 : (Try.prog.info? 47).map (fun i => (i.zero, i.size, i.bytes)) = some (some (.agg #[.int .i64 0, .int .i64 0, .int .u32 0, .slice none 0 0, .int .i64 0]), 5, 56) := by kernel_rfl
theorem ZI47 : (Try.prog.info? 47).bind (·.zero) = some (.agg #[.int .i64 0, .int .i64 0, .int .u32 0, .slice none 0 0, .int .i64 0]) := by kernel_rfl
theorem PL47 : plS Try.prog 47 = some [(0, 1), (1, 2), (3, 1), (4, 1)] := by kernel_rfl
theorem ZI25 : (Try.prog.info? 25).bind (·.zero) = some (.agg #[.int .i64 0, .int .u32 0]) := by kernel_rfl
theorem PL25 : plS Try.prog 25 = some [(0, 1), (1, 1)] := by kernel_rfl
theorem SZ5 : (Try.prog.info? 5).map (·.size) = some 1 := by kernel_rfl
theorem ON5 : one Try.prog 5 = true := by kernel_rfl
theorem US5 : (Try.prog.underlying 5).isSome = true := by kernel_rfl
theorem IN47 : (Try.prog.info? 47).isSome = true := by kernel_rfl

def label_Check (a_0 : Label) : Option (Int) :=
  (bif (((decide (a_0.level < (0 : Int))) || (decide (a_0.level > (3 : Int)))) || (decide (a_0.parts ≥ 32#32))) then
  some ((4 : Int))
  else
  some ((0 : Int)))

set_option maxRecDepth 100000 in
set_option maxHeartbeats 4000000 in
theorem label_Check_ok (w0 : World) (m : Snap) (l : List HI) (a_0 : Label) (r : Int) (hr : label_Check a_0 = some r) (w : World) (hc : cX w0 ⟨m, l⟩ w) :
    Calls Try.prog 32 [.agg #[.int .i64 a_0.level, .int .u32 (a_0.parts.toNat : Int)]].toArray w fun e w' => e = .returned (.int .i64 r) ∧ cX w0 ⟨m, l⟩ w' := by
  unfold label_Check at hr
  refine calls_of_Tr (N := 16) Try.func32 rfl hc rfl (Nat.le_of_ble_eq_true rfl) ?_
  refine Tr.seq ?_
  refine Tr.region_f (fun i => Nat.beq i 0) ?_
  refine W.e rfl rfl rfl rfl (by decide) (Ef.bx rfl (.t rfl) rfl) ?_
  rintro _ _ ⟨b1, rfl, rfl⟩
  refine ⟨.inl rfl, ?_⟩
  refine W.cast (m' := m) (l' := hcells b1 [_, _] 25 :: l) rfl rfl ?_
  refine W.q rfl rfl rfl rfl (by decide) (Yd.as rfl .c) ?_
  refine W.end ?_
  refine NX.sub (env' := [(1, _)]) ⟨rfl, trivial⟩ ?_
  refine NX.then ?_
  refine Tr.seq ?_
  refine Tr.seq ?_
  refine Tr.region_f (fun _ => false) ?_
  refine W.q rfl rfl rfl rfl (by decide) (Yd.fldB rfl Try.underlying25 rfl SZ3 rfl (.t rfl)) ?_
  refine W.q rfl rfl rfl rfl (by decide) (Yd.ldB (pos := 0) rfl rfl rfl ON3 (.t rfl)) ?_
  refine W.q rfl rfl rfl rfl (by decide) (Yd.lss rfl (.t rfl) .c) ?_
  refine W.q rfl rfl rfl rfl (by decide) (Yd.mv rfl (.t rfl)) ?_
  refine W.g rfl rfl rfl rfl rfl (.t rfl _) rfl (by decide) (fun hG => Yd.fldB rfl Try.underlying25 rfl SZ3 rfl (.t rfl)) ?_
  refine W.g rfl rfl rfl rfl rfl (.t rfl _) rfl (by decide) (fun hG => Yd.ldB (pos := 0) rfl rfl rfl ON3 (.g rfl hG)) ?_
  refine W.g rfl rfl rfl rfl rfl (.t rfl _) rfl (by decide) (fun hG => Yd.gtr rfl (.g rfl hG) .c) ?_
  refine W.q rfl rfl rfl rfl (by decide) (Yd.or rfl (.t rfl) .c rfl rfl) ?_
  refine W.q rfl rfl rfl rfl (by decide) (Yd.mv rfl (.t rfl)) ?_
  refine W.g rfl rfl rfl rfl rfl (.t rfl _) rfl (by decide) (fun hG => Yd.fldB rfl Try.underlying25 rfl SZ23 rfl (.t rfl)) ?_
  refine W.g rfl rfl rfl rfl rfl (.t rfl _) rfl (by decide) (fun hG => Yd.ldB (pos := 0) rfl rfl rfl ON23 (.g rfl hG)) ?_
  refine W.g rfl rfl rfl rfl rfl (.t rfl _) rfl (by decide) (fun hG => Yd.geqU (a := a_0.parts) (b := 32#32) rfl (.g rfl hG) .c) ?_
  refine W.q rfl rfl rfl rfl (by decide) (Yd.or rfl (.t rfl) .c rfl rfl) ?_
  refine W.end ?_
  refine NX.sub (env' := [(15, _)]) ⟨rfl, trivial⟩ ?_
  refine NX.drop (l' := l) (.cons _ (.refl _)) ?_
  refine NX.then ?_
  refine Tr.cond (.t rfl) (fun hb => ?_) (fun hb => ?_)
  · have hr := cond_t hb hr
    refine Tr.seq ?_
    refine Tr.region_f (fun _ => false) ?_
    refine W.q rfl rfl rfl rfl (by decide) (Yd.as rfl .c) ?_
    refine W.end ?_
    refine NX.sub (env' := [(2, _)]) ⟨rfl, trivial⟩ ?_
    refine NX.then ?_
    refine Tr.ret' (RT.then ?_)
    refine res1 rfl rfl ?_
    intro w hc
    cases hr
    exact ⟨rfl, hc⟩
  · have hr := cond_f hb hr
    refine Tr.skip' ?_
    refine NX.then ?_
    refine Tr.seq ?_
    refine Tr.region_f (fun _ => false) ?_
    refine W.q rfl rfl rfl rfl (by decide) (Yd.as rfl .c) ?_
    refine W.end ?_
    refine NX.sub (env' := [(2, _)]) ⟨rfl, trivial⟩ ?_
    refine NX.then ?_
    refine Tr.ret' ?_
    refine res1 rfl rfl ?_
    intro w hc
    cases hr
    exact ⟨rfl, hc⟩

def label_Least (a_0 : Label) (b_1 : Label) : Option (Bool) :=
  some (((decide (a_0.level ≤ b_1.level)) && ((a_0.parts &&& ~~~b_1.parts) == 0#32)))

set_option maxRecDepth 100000 in
set_option maxHeartbeats 4000000 in
theorem label_Least_ok (w0 : World) (m : Snap) (l : List HI) (a_0 : Label) (b_1 : Label) (r : Bool) (hr : label_Least a_0 b_1 = some r) (w : World) (hc : cX w0 ⟨m, l⟩ w) :
    Calls Try.prog 33 [.agg #[.int .i64 a_0.level, .int .u32 (a_0.parts.toNat : Int)], .agg #[.int .i64 b_1.level, .int .u32 (b_1.parts.toNat : Int)]].toArray w fun e w' => e = .returned (.bool r) ∧ cX w0 ⟨m, l⟩ w' := by
  unfold label_Least at hr
  refine calls_of_Tr (N := 18) Try.func33 rfl hc rfl (Nat.le_of_ble_eq_true rfl) ?_
  refine Tr.seq ?_
  refine Tr.region_f (fun i => Nat.beq i 0 || Nat.beq i 1) ?_
  refine W.e rfl rfl rfl rfl (by decide) (Ef.bx rfl (.t rfl) rfl) ?_
  rintro _ _ ⟨b1, rfl, rfl⟩
  refine ⟨.inl rfl, ?_⟩
  refine W.cast (m' := m) (l' := hcells b1 [_, _] 25 :: l) rfl rfl ?_
  refine W.e rfl rfl rfl rfl (by decide) (Ef.bx rfl (.t rfl) rfl) ?_
  rintro _ _ ⟨b3, rfl, rfl⟩
  refine ⟨.inl rfl, ?_⟩
  refine W.cast (m' := m) (l' := hcells b3 [_, _] 25 :: hcells b1 [_, _] 25 :: l) rfl rfl ?_
  refine W.q rfl rfl rfl rfl (by decide) (Yd.as rfl .c) ?_
  refine W.end ?_
  refine NX.sub (env' := [(2, _), (3, _)]) ⟨rfl, rfl, trivial⟩ ?_
  refine NX.then ?_
  refine Tr.seq ?_
  refine Tr.region_f (fun _ => false) ?_
  refine W.q rfl rfl rfl rfl (by decide) (Yd.fldB rfl Try.underlying25 rfl SZ3 rfl (.t rfl)) ?_
  refine W.q rfl rfl rfl rfl (by decide) (Yd.ldB (pos := 1) rfl rfl rfl ON3 (.t rfl)) ?_
  refine W.q rfl rfl rfl rfl (by decide) (Yd.fldB rfl Try.underlying25 rfl SZ3 rfl (.t rfl)) ?_
  refine W.q rfl rfl rfl rfl (by decide) (Yd.ldB (pos := 0) rfl rfl rfl ON3 (.t rfl)) ?_
  refine W.q rfl rfl rfl rfl (by decide) (Yd.leq rfl (.t rfl) (.t rfl)) ?_
  refine W.q rfl rfl rfl rfl (by decide) (Yd.mv rfl (.t rfl)) ?_
  refine W.g rfl rfl rfl rfl rfl (.t rfl _) rfl (by decide) (fun hG => Yd.fldB rfl Try.underlying25 rfl SZ23 rfl (.t rfl)) ?_
  refine W.g rfl rfl rfl rfl rfl (.t rfl _) rfl (by decide) (fun hG => Yd.ldB (pos := 1) rfl rfl rfl ON23 (.g rfl hG)) ?_
  refine W.g rfl rfl rfl rfl rfl (.t rfl _) rfl (by decide) (fun hG => Yd.fldB rfl Try.underlying25 rfl SZ23 rfl (.t rfl)) ?_
  refine W.g rfl rfl rfl rfl rfl (.t rfl _) rfl (by decide) (fun hG => Yd.ldB (pos := 0) rfl rfl rfl ON23 (.g rfl hG)) ?_
  refine W.g rfl rfl rfl rfl rfl (.t rfl _) rfl (by decide) (fun hG => Yd.andnU (a := a_0.parts) (b := b_1.parts) rfl (.g rfl hG) (.g rfl hG)) ?_
  refine W.g rfl rfl rfl rfl rfl (.t rfl _) rfl (by decide) (fun hG => Yd.eqlU (a := (a_0.parts &&& ~~~b_1.parts)) (b := 0#32) rfl (.g rfl hG) .c) ?_
  refine W.q rfl rfl rfl rfl (by decide) (Yd.and rfl (.t rfl) .c rfl rfl) ?_
  refine W.q rfl rfl rfl rfl (by decide) (Yd.as rfl (.t rfl)) ?_
  refine W.end ?_
  refine NX.sub (env' := [(4, _)]) ⟨rfl, trivial⟩ ?_
  refine NX.drop (l' := l) (.cons _ (.cons _ (.refl _))) ?_
  refine NX.then ?_
  refine Tr.ret' ?_
  refine res1 rfl rfl ?_
  intro w hc
  cases hr
  exact ⟨rfl, hc⟩

def page_Check_k3 : Option (Int) :=
  some ((0 : Int))

def page_Check_b7 (l_0 : List Leaf) (t_6 : Int) (nx8 : Unit → Option (Int)) : Option (Int) :=
  (geti l_0 t_6).bind fun y10 =>
  (label_Check (({ level := y10.label.level, parts := y10.label.parts } : Label))).bind fun r14 =>
  (bif (r14 != (0 : Int)) then
  some r14
  else
  (bif ((decide (y10.up < (-1 : Int))) || (decide (y10.up ≥ t_6))) then
  some ((2 : Int))
  else
  bif (!((decide (y10.up ≥ (0 : Int))) == true) || (geti l_0 y10.up).isSome) then
  bif (!((decide (y10.up ≥ (0 : Int))) == true) || (label_Least ((((geti l_0 y10.up).getD ({ up := (0 : Int), text := (0 : Int), label := ({ level := (0 : Int), parts := (0#32) } : Label) } : Leaf))).label) (({ level := y10.label.level, parts := y10.label.parts } : Label))).isSome) then
  (bif ((decide (y10.up ≥ (0 : Int))) && (!(((label_Least ((((geti l_0 y10.up).getD ({ up := (0 : Int), text := (0 : Int), label := ({ level := (0 : Int), parts := (0#32) } : Label) } : Leaf))).label) (({ level := y10.label.level, parts := y10.label.parts } : Label))).getD false)))) then
  some ((3 : Int))
  else
  nx8 ()) else none else none))

def page_Check (l_0 : List Leaf) : Option (Int) :=
  (bif (decide ((l_0.length : Int) > (40 : Int))) then
  some ((1 : Int))
  else
  forK (σ := Unit) (fun i s nx_ => page_Check_b7 l_0 i nx_) (fun _ => page_Check_k3) ((l_0.length : Int) - (0 : Int)).toNat (0 : Int) ())

set_option maxRecDepth 100000 in
set_option maxHeartbeats 4000000 in
theorem page_Check_ok (w0 : World) (m : Snap) (l : List HI) (ul_0 : Value) (l_0 : List Leaf) (hl_0 : RS rLeaf m ul_0 l_0) (r : Int) (hr : page_Check l_0 = some r) (w : World) (hc : cX w0 ⟨m, l⟩ w) :
    Calls Try.prog 31 [ul_0].toArray w fun e w' => e = .returned (.int .i64 r) ∧ cX w0 ⟨m, l⟩ w' := by
  unfold page_Check at hr
  refine calls_of_Tr (N := 47) Try.func31 rfl hc rfl (Nat.le_of_ble_eq_true rfl) ?_
  refine Tr.seq ?_
  refine Tr.region_f (fun _ => false) ?_
  refine W.q rfl rfl rfl rfl (by decide) (Yd.as rfl .c) ?_
  refine W.end ?_
  refine NX.sub (env' := [(0, _)]) ⟨rfl, trivial⟩ ?_
  refine NX.then ?_
  refine Tr.seq ?_
  refine Tr.seq ?_
  refine Tr.region_f (fun _ => false) ?_
  refine W.q rfl rfl rfl rfl (by decide) (Yd.mv rfl (.t rfl)) ?_
  refine W.q rfl rfl rfl rfl (by decide) (Yd.lenR hl_0 rfl Try.underlying22 (.t rfl)) ?_
  refine W.q rfl rfl rfl rfl (by decide) (Yd.gtr rfl (.t rfl) .c) ?_
  refine W.end ?_
  refine NX.sub (env' := [(0, _), (8, _)]) ⟨rfl, rfl, trivial⟩ ?_
  refine NX.then ?_
  refine Tr.cond (.t rfl) (fun hb => ?_) (fun hb => ?_)
  · have hr := cond_t hb hr
    refine Tr.seq ?_
    refine Tr.region_f (fun _ => false) ?_
    refine W.q rfl rfl rfl rfl (by decide) (Yd.as rfl .c) ?_
    refine W.end ?_
    refine NX.sub (env' := [(2, _)]) ⟨rfl, trivial⟩ ?_
    refine NX.then ?_
    refine Tr.ret' (RT.then ?_)
    refine res1 rfl rfl ?_
    intro w hc
    cases hr
    exact ⟨rfl, hc⟩
  · have hr := cond_f hb hr
    refine Tr.skip' ?_
    refine NX.then ?_
    refine Tr.seq ?_
    refine Tr.seq ?_
    refine Tr.region_f (fun _ => false) ?_
    refine W.q rfl rfl rfl rfl (by decide) (Yd.mv rfl (.t rfl)) ?_
    refine W.q rfl rfl rfl rfl (by decide) (Yd.lenR hl_0 rfl Try.underlying22 (.t rfl)) ?_
    refine W.q rfl rfl rfl rfl (by decide) (Yd.mv rfl .c) ?_
    refine W.end ?_
    refine NX.sub (env' := [(0, _), (9, _), (10, _), (11, _)]) ⟨rfl, rfl, rfl, rfl, trivial⟩ ?_
    refine NX.then ?_
    refine Tr.join (S := fun env x => env = [] ∧ x = ⟨m, l⟩ ∧ page_Check_k3 = some r) ?_ (fun hk4 => ?_)
    · rintro _ _ ⟨rfl, rfl, hr⟩
      unfold page_Check_k3 at hr
      try dsimp only at hr
      refine NX.then ?_
      refine Tr.seq ?_
      refine Tr.region_f (fun _ => false) ?_
      refine W.q rfl rfl rfl rfl (by decide) (Yd.as rfl .c) ?_
      refine W.end ?_
      refine NX.sub (env' := [(2, _)]) ⟨rfl, trivial⟩ ?_
      refine NX.then ?_
      refine Tr.ret' ?_
      refine res1 rfl rfl ?_
      intro w hc
      cases hr
      exact ⟨rfl, hc⟩
    have hlen5 := (hl_0).2.1
    refine Tr.block ?_
    refine Tr.sub (env' := [(0, _), (9, _), (10, _), (11, _)]) ⟨rfl, rfl, rfl, rfl, trivial⟩ ?_
    refine Tr.loop (S := fun n (z : Int × Unit) env x => match z with | (t_6, _) => env = [(0, ul_0), (9, ul_0), (10, .int .i64 ((l_0.length : Int))), (11, .int .i64 t_6)] ∧ x = ⟨m, l⟩ ∧ n = ((l_0.length : Int) - t_6).toNat ∧ 0 ≤ t_6 ∧ forK (σ := Unit) (fun i s nx_ => page_Check_b7 l_0 i nx_) (fun _ => page_Check_k3) n t_6 () = some r) _ ((0 : Int), ()) ⟨rfl, rfl, rfl, (by omega), hr⟩ ?_
    rintro n9 ⟨t_6, _⟩ env x ⟨rfl, rfl, hnt_6, h0t_6, hr⟩
    cases n9 with
    | zero =>
      simp only [forK] at hr
      refine Tr.seq ?_
      refine Tr.region_f (fun _ => false) ?_
      refine W.q rfl rfl rfl rfl (by decide) (Yd.lss rfl (.t rfl) (.t rfl)) ?_
      refine W.end ?_
      refine NX.sub (env' := [(0, _), (9, _), (10, _), (11, _), (12, _)]) ⟨rfl, rfl, rfl, rfl, rfl, trivial⟩ ?_
      refine NX.then ?_
      refine Tr.seq ?_
      refine Tr.cond (.t rfl) (fun hb => ?_) (fun hb => ?_)
      · exact absurd (hb.symm.trans (fr_end hnt_6)) (by decide)
      ·
        refine Tr.exit' (EX.then (EX.then (EX.block ?_)))
        refine NX.sub (env' := []) trivial ?_
        exact hk4 _ _ ⟨rfl, rfl, hr⟩
    | succ n9 =>
      obtain ⟨nx8, hnx8, hr⟩ := forK_succ hr
      try dsimp only at hr
      unfold page_Check_b7 at hr
      try dsimp only at hr
      have hltt_6 := fr_bnd hnt_6
      refine Tr.seq ?_
      refine Tr.region_f (fun _ => false) ?_
      refine W.q rfl rfl rfl rfl (by decide) (Yd.lss rfl (.t rfl) (.t rfl)) ?_
      refine W.end ?_
      refine NX.sub (env' := [(0, _), (9, _), (10, _), (11, _), (12, _)]) ⟨rfl, rfl, rfl, rfl, rfl, trivial⟩ ?_
      refine NX.then ?_
      refine Tr.seq ?_
      refine Tr.cond (.t rfl) (fun hb => ?_) (fun hb => ?_)
      rotate_left
      · exact absurd (hb.symm.trans (fr_go hnt_6)) (by decide)
      ·
        refine Tr.skip' ?_
        refine NX.then ?_
        refine Tr.seq ?_
        refine Tr.block ?_
        refine Tr.seq ?_
        obtain ⟨y10, hy11, hr⟩ := bind_some hr
        refine Tr.region_f (fun i => Nat.beq i 3 || Nat.beq i 5) ?_
        refine W.q rfl rfl rfl rfl (by decide) (Yd.mv rfl (.t rfl)) ?_
        refine W.q rfl rfl rfl rfl (by decide) (Yd.idxR hl_0 hy11 rfl Try.underlying22 SZ42 (.t rfl) (.t rfl)) ?_
        refine W.q rfl rfl rfl rfl (by decide) (Yd.ldFs (us := [_, _, _, _]) hl_0 (.refl _) hy11 rfl rfl ON42 US42 SZ42 (.t rfl)) ?_
        refine W.e rfl rfl rfl rfl (by decide) (Ef.al rfl ZR42 rfl) ?_
        rintro _ _ ⟨b12, rfl, rfl⟩
        refine ⟨.inl rfl, ?_⟩
        refine W.cast (m' := m) (l' := hcells b12 [_, _, _, _] 42 :: l) rfl rfl ?_
        refine W.q rfl rfl rfl rfl (by decide) (Yd.as rfl (.t rfl)) ?_
        refine W.s rfl rfl rfl rfl (Ef.stB (pos := 0) (us := [_, _, _, _]) (cs' := [_, _, _, _]) rfl rfl (.t rfl) (.t rfl) SZ42 rfl rfl rfl (Nat.le_of_ble_eq_true rfl) rfl) ?_
        rintro _ _ ⟨rfl, rfl⟩
        refine ⟨.inl rfl, ?_⟩
        refine W.cast (m' := m) (l' := hcells b12 [_, _, _, _] 42 :: l) rfl rfl ?_
        refine W.end ?_
        refine NX.sub (env' := [(0, _), (9, _), (10, _), (11, _), (4, _), (3, _)]) ⟨rfl, rfl, rfl, rfl, rfl, rfl, trivial⟩ ?_
        refine NX.then ?_
        refine Tr.seq ?_
        refine Tr.seq ?_
        obtain ⟨r14, hr15, hr⟩ := bind_some hr
        refine Tr.region_f (fun _ => false) ?_
        refine W.q rfl rfl rfl rfl (by decide) (Yd.fldB rfl Try.underlying42 rfl SZ25 rfl (.t rfl)) ?_
        refine W.q rfl rfl rfl rfl (by decide) (Yd.ldBs (pos := 0) (us := [_, _]) rfl rfl rfl rfl ON25 US25 SZ25 (.t rfl)) ?_
        refine W.q rfl rfl rfl rfl (by decide) (Yd.call (v := .int .i64 r14) rfl Try.func32 rfl rfl (.cons (.t rfl) .nil) (fun x' hx w hw => label_Check_ok w0 x'.m x'.l (({ level := y10.label.level, parts := y10.label.parts } : Label)) _ hr15 w hw)) ?_
        refine W.q rfl rfl rfl rfl (by decide) (Yd.as rfl (.t rfl)) ?_
        refine W.end ?_
        refine NX.sub (env' := [(0, _), (9, _), (10, _), (11, _), (4, _), (3, _), (5, _)]) ⟨rfl, rfl, rfl, rfl, rfl, rfl, rfl, trivial⟩ ?_
        refine NX.then ?_
        refine Tr.seq ?_
        refine Tr.region_f (fun _ => false) ?_
        refine W.q rfl rfl rfl rfl (by decide) (Yd.mv rfl (.t rfl)) ?_
        refine W.q rfl rfl rfl rfl (by decide) (Yd.neq rfl (.t rfl) .c) ?_
        refine W.end ?_
        refine NX.sub (env' := [(0, _), (9, _), (10, _), (11, _), (4, _), (3, _), (5, _), (20, _)]) ⟨rfl, rfl, rfl, rfl, rfl, rfl, rfl, rfl, trivial⟩ ?_
        refine NX.then ?_
        refine Tr.cond (.t rfl) (fun hb => ?_) (fun hb => ?_)
        · have hr := cond_t hb hr
          refine Tr.seq ?_
          refine Tr.region_f (fun _ => false) ?_
          refine W.q rfl rfl rfl rfl (by decide) (Yd.mv rfl (.t rfl)) ?_
          refine W.q rfl rfl rfl rfl (by decide) (Yd.as rfl (.t rfl)) ?_
          refine W.end ?_
          refine NX.sub (env' := [(2, _)]) ⟨rfl, trivial⟩ ?_
          refine NX.drop (l' := l) (.cons _ (.refl _)) ?_
          refine NX.then ?_
          refine Tr.ret' (RT.then (RT.block (RT.then (RT.then (RT.block (RT.then ?_))))))
          refine res1 rfl rfl ?_
          intro w hc
          cases hr
          exact ⟨rfl, hc⟩
        · have hr := cond_f hb hr
          refine Tr.skip' ?_
          refine NX.then ?_
          refine Tr.seq ?_
          refine Tr.seq ?_
          refine Tr.region_f (fun _ => false) ?_
          refine W.q rfl rfl rfl rfl (by decide) (Yd.fldB rfl Try.underlying42 rfl SZ3 rfl (.t rfl)) ?_
          refine W.q rfl rfl rfl rfl (by decide) (Yd.ldB (pos := 0) rfl rfl rfl ON3 (.t rfl)) ?_
          refine W.q rfl rfl rfl rfl (by decide) (Yd.lss rfl (.t rfl) .c) ?_
          refine W.q rfl rfl rfl rfl (by decide) (Yd.mv rfl (.t rfl)) ?_
          refine W.g rfl rfl rfl rfl rfl (.t rfl _) rfl (by decide) (fun hG => Yd.fldB rfl Try.underlying42 rfl SZ3 rfl (.t rfl)) ?_
          refine W.g rfl rfl rfl rfl rfl (.t rfl _) rfl (by decide) (fun hG => Yd.ldB (pos := 0) rfl rfl rfl ON3 (.g rfl hG)) ?_
          refine W.g rfl rfl rfl rfl rfl (.t rfl _) rfl (by decide) (fun hG => Yd.mv rfl (.t rfl)) ?_
          refine W.g rfl rfl rfl rfl rfl (.t rfl _) rfl (by decide) (fun hG => Yd.geq rfl (.g rfl hG) (.g rfl hG)) ?_
          refine W.q rfl rfl rfl rfl (by decide) (Yd.or rfl (.t rfl) .c rfl rfl) ?_
          refine W.end ?_
          refine NX.sub (env' := [(0, _), (9, _), (10, _), (11, _), (4, _), (30, _)]) ⟨rfl, rfl, rfl, rfl, rfl, rfl, trivial⟩ ?_
          refine NX.then ?_
          refine Tr.cond (.t rfl) (fun hb => ?_) (fun hb => ?_)
          · have hr := cond_t hb hr
            refine Tr.seq ?_
            refine Tr.region_f (fun _ => false) ?_
            refine W.q rfl rfl rfl rfl (by decide) (Yd.as rfl .c) ?_
            refine W.end ?_
            refine NX.sub (env' := [(2, _)]) ⟨rfl, trivial⟩ ?_
            refine NX.drop (l' := l) (.cons _ (.refl _)) ?_
            refine NX.then ?_
            refine Tr.ret' (RT.then (RT.block (RT.then (RT.then (RT.block (RT.then ?_))))))
            refine res1 rfl rfl ?_
            intro w hc
            cases hr
            exact ⟨rfl, hc⟩
          · have hr := cond_f hb hr
            refine Tr.skip' ?_
            refine NX.then ?_
            refine Tr.seq ?_
            obtain ⟨ha16, hr⟩ := guard_some hr
            obtain ⟨ha17, hr⟩ := guard_some hr
            refine Tr.region_x (fun _ => false) (fun _ => false) (Ord.of [0, 1, 2, 3, 4, 5, 6, 7, 8, 9, 10, 11, 12, 13, 14]) FM (by kernel_rfl) ?_
            refine W.q rfl rfl rfl rfl (by decide) (Yd.fldB rfl Try.underlying42 rfl SZ3 rfl (.t rfl)) ?_
            refine W.q rfl rfl rfl rfl (by decide) (Yd.ldB (pos := 0) rfl rfl rfl ON3 (.t rfl)) ?_
            refine W.q rfl rfl rfl rfl (by decide) (Yd.geq rfl (.t rfl) .c) ?_
            refine W.q rfl rfl rfl rfl (by decide) (Yd.mv rfl (.t rfl)) ?_
            refine W.g rfl rfl rfl rfl rfl (.t rfl _) rfl (by decide) (fun hG => Yd.mv rfl (.t rfl)) ?_
            refine W.g rfl rfl rfl rfl rfl (.t rfl _) rfl (by decide) (fun hG => Yd.fldB rfl Try.underlying42 rfl SZ3 rfl (.t rfl)) ?_
            refine W.g rfl rfl rfl rfl rfl (.t rfl _) rfl (by decide) (fun hG => Yd.ldB (pos := 0) rfl rfl rfl ON3 (.g rfl hG)) ?_
            refine W.g rfl rfl rfl rfl rfl (.t rfl _) rfl (by decide) (fun hG => Yd.idxR hl_0 (gd_get (d := ({ up := (0 : Int), text := (0 : Int), label := ({ level := (0 : Int), parts := (0#32) } : Label) } : Leaf)) ha16 hG) rfl Try.underlying22 SZ42 (.g rfl hG) (.g rfl hG)) ?_
            refine W.g rfl rfl rfl rfl rfl (.t rfl _) rfl (by decide) (fun hG => Yd.fldA rfl Try.underlying42 rfl SZ25 rfl (adr_head hl_0 (gd_get (d := ({ up := (0 : Int), text := (0 : Int), label := ({ level := (0 : Int), parts := (0#32) } : Label) } : Leaf)) ha16 hG)) (.g rfl hG)) ?_
            refine W.g rfl rfl rfl rfl rfl (.t rfl _) rfl (by decide) (fun hG => Yd.ldFp (us := [_, _]) hl_0 (.refl _) (gd_get (d := ({ up := (0 : Int), text := (0 : Int), label := ({ level := (0 : Int), parts := (0#32) } : Label) } : Leaf)) ha16 hG) rfl rfl rfl ON25 US25 SZ25 (.g rfl hG)) ?_
            refine W.g rfl rfl rfl rfl rfl (.t rfl _) rfl (by decide) (fun hG => Yd.fldB rfl Try.underlying42 rfl SZ25 rfl (.t rfl)) ?_
            refine W.g rfl rfl rfl rfl rfl (.t rfl _) rfl (by decide) (fun hG => Yd.ldBs (pos := 0) (us := [_, _]) rfl rfl rfl rfl ON25 US25 SZ25 (.g rfl hG)) ?_
            refine W.g rfl rfl rfl rfl rfl (.t rfl _) rfl (by decide) (fun hG => Yd.call (v := .bool ((((label_Least ((((geti l_0 y10.up).getD ({ up := (0 : Int), text := (0 : Int), label := ({ level := (0 : Int), parts := (0#32) } : Label) } : Leaf))).label) (({ level := y10.label.level, parts := y10.label.parts } : Label))).getD false)))) rfl Try.func33 rfl rfl (.cons (.g rfl hG) (.cons (.g rfl hG) .nil)) (fun x' hx w hw => label_Least_ok w0 x'.m x'.l ((((geti l_0 y10.up).getD ({ up := (0 : Int), text := (0 : Int), label := ({ level := (0 : Int), parts := (0#32) } : Label) } : Leaf))).label) (({ level := y10.label.level, parts := y10.label.parts } : Label)) _ (gd_get (d := false) ha17 hG) w hw)) ?_
            refine W.g rfl rfl rfl rfl rfl (.t rfl _) rfl (by decide) (fun hG => Yd.not rfl (.g rfl hG)) ?_
            refine W.q rfl rfl rfl rfl (by decide) (Yd.and rfl (.t rfl) .c rfl rfl) ?_
            refine W.end ?_
            refine NX.sub (env' := [(0, _), (9, _), (10, _), (11, _), (45, _)]) ⟨rfl, rfl, rfl, rfl, rfl, trivial⟩ ?_
            refine NX.drop (l' := l) (.cons _ (.refl _)) ?_
            refine NX.then ?_
            refine Tr.cond (.t rfl) (fun hb => ?_) (fun hb => ?_)
            · have hr := cond_t hb hr
              refine Tr.seq ?_
              refine Tr.region_f (fun _ => false) ?_
              refine W.q rfl rfl rfl rfl (by decide) (Yd.as rfl .c) ?_
              refine W.end ?_
              refine NX.sub (env' := [(2, _)]) ⟨rfl, trivial⟩ ?_
              refine NX.then ?_
              refine Tr.ret' (RT.block (RT.then (RT.then (RT.block (RT.then ?_)))))
              refine res1 rfl rfl ?_
              intro w hc
              cases hr
              exact ⟨rfl, hc⟩
            · have hr := cond_f hb hr
              refine Tr.skip' ?_
              refine NX.block ?_
              refine NX.then ?_
              refine Tr.region_f (fun _ => false) ?_
              refine W.q rfl rfl rfl rfl (by decide) (Yd.add rfl (.t rfl) .c) ?_
              refine W.q rfl rfl rfl rfl (by decide) (Yd.mv rfl (.t rfl)) ?_
              refine W.end ?_
              refine NX.sub (env' := [(0, _), (9, _), (10, _), (11, _)]) ⟨rfl, rfl, rfl, rfl, trivial⟩ ?_
              refine NX.sub (env' := [(0, _), (9, _), (10, _), (11, _)]) ⟨rfl, rfl, rfl, rfl, trivial⟩ ?_
              have hw := w64_id (n := t_6 + 1) (by omega) (by omega)
              exact NX.again n9 (t_6 + 1, ()) (Nat.lt_succ_self _) ⟨(by rw [hw] <;> rfl), rfl, (fr_dec hnt_6), (by omega), ((hnx8 _).symm.trans hr)⟩

def page_View_k25 (l21 : List Leaf) : Option ((List Leaf) × Int) :=
  some ((l21, (0 : Int)))

def page_View_b29 (l_0 : List Leaf) (who_1 : Label) (t_28 : Int) (l17 : List Leaf) (l19 : List Int) (nx30 : ((List Leaf) × (List Int)) → Option ((List Leaf) × Int)) : Option ((List Leaf) × Int) :=
  (geti l_0 t_28).bind fun y32 =>
  (label_Least (({ level := y32.label.level, parts := y32.label.parts } : Label)) (({ level := who_1.level, parts := who_1.parts } : Label))).bind fun r36 =>
  (bif (!r36) then
  nx30 (l17, l19)
  else
  (geti l19 t_28).bind fun y38 =>
  (bif (decide (y32.up ≥ (0 : Int))) then
  (geti ((l19.set t_28.toNat ((l17.length : Int)))) y32.up).bind fun y40 =>
  bif decide (l17.length + (([({ up := y40, text := y32.text, label := ({ level := y32.label.level, parts := y32.label.parts } : Label) } : Leaf)] : List Leaf)).length ≤ 4398046511104) then
  nx30 ((l17 ++ ([({ up := y40, text := y32.text, label := ({ level := y32.label.level, parts := y32.label.parts } : Label) } : Leaf)] : List Leaf)), (l19.set t_28.toNat ((l17.length : Int)))) else none
  else
  bif decide (l17.length + (([({ up := y32.up, text := y32.text, label := ({ level := y32.label.level, parts := y32.label.parts } : Label) } : Leaf)] : List Leaf)).length ≤ 4398046511104) then
  nx30 ((l17 ++ ([({ up := y32.up, text := y32.text, label := ({ level := y32.label.level, parts := y32.label.parts } : Label) } : Leaf)] : List Leaf)), (l19.set t_28.toNat ((l17.length : Int)))) else none))

def page_View (l_0 : List Leaf) (who_1 : Label) : Option ((List Leaf) × Int) :=
  (page_Check l_0).bind fun r3 =>
  (bif (r3 != (0 : Int)) then
  some (([], r3))
  else
  (label_Check (({ level := who_1.level, parts := who_1.parts } : Label))).bind fun r5 =>
  (bif (r5 != (0 : Int)) then
  some (([], r5))
  else
  bif decide (0 ≤ (l_0.length : Int) ∧ (l_0.length : Int) ≤ 1048576) then
  forK (σ := (List Leaf) × (List Int)) (fun i s nx_ => page_View_b29 l_0 who_1 i s.1 s.2 nx_) (fun s => page_View_k25 s.1) ((l_0.length : Int) - (0 : Int)).toNat (0 : Int) ((([] : List Leaf)), ((List.replicate ((l_0.length : Int)).toNat (0 : Int)))) else none))

set_option maxRecDepth 100000 in
set_option maxHeartbeats 4000000 in
theorem page_View_ok (w0 : World) (m : Snap) (l : List HI) (ul_0 : Value) (l_0 : List Leaf) (hl_0 : RS rLeaf m ul_0 l_0) (who_1 : Label) (r : (List Leaf) × Int) (hr : page_View l_0 who_1 = some r) (w : World) (hc : cX w0 ⟨m, l⟩ w) :
    Calls Try.prog 12 [ul_0, .agg #[.int .i64 who_1.level, .int .u32 (who_1.parts.toNat : Int)]].toArray w fun e w' => ∃ z0 : Value, e = .returned (.tuple #[z0, .int .i64 r.2]) ∧ cX w0 ⟨m, hownT 42 4 Leaf.enc z0 r.1 :: l⟩ w' := by
  unfold page_View at hr
  refine calls_of_Tr (N := 57) Try.func12 rfl hc rfl (Nat.le_of_ble_eq_true rfl) ?_
  refine Tr.seq ?_
  refine Tr.region_f (fun i => Nat.beq i 0) ?_
  refine W.e rfl rfl rfl rfl (by decide) (Ef.bx rfl (.t rfl) rfl) ?_
  rintro _ _ ⟨b1, rfl, rfl⟩
  refine ⟨.inl rfl, ?_⟩
  refine W.cast (m' := m) (l' := hcells b1 [_, _] 25 :: l) rfl rfl ?_
  refine W.q rfl rfl rfl rfl (by decide) (Yd.as rfl .c) ?_
  refine W.q rfl rfl rfl rfl (by decide) (Yd.as rfl .c) ?_
  refine W.end ?_
  refine NX.sub (env' := [(0, _), (3, _)]) ⟨rfl, rfl, trivial⟩ ?_
  refine NX.then ?_
  refine Tr.seq ?_
  refine Tr.seq ?_
  obtain ⟨r3, hr4, hr⟩ := bind_some hr
  refine Tr.region_f (fun _ => false) ?_
  refine W.q rfl rfl rfl rfl (by decide) (Yd.mv rfl (.t rfl)) ?_
  refine W.q rfl rfl rfl rfl (by decide) (Yd.call (v := .int .i64 r3) rfl Try.func31 rfl rfl (.cons (.t rfl) .nil) (fun x' hx w hw => page_Check_ok w0 x'.m x'.l _ _ (hl_0.mono hx.1) _ hr4 w hw)) ?_
  refine W.q rfl rfl rfl rfl (by decide) (Yd.as rfl (.t rfl)) ?_
  refine W.end ?_
  refine NX.sub (env' := [(0, _), (3, _), (6, _)]) ⟨rfl, rfl, rfl, trivial⟩ ?_
  refine NX.then ?_
  refine Tr.seq ?_
  refine Tr.region_f (fun _ => false) ?_
  refine W.q rfl rfl rfl rfl (by decide) (Yd.mv rfl (.t rfl)) ?_
  refine W.q rfl rfl rfl rfl (by decide) (Yd.neq rfl (.t rfl) .c) ?_
  refine W.end ?_
  refine NX.sub (env' := [(0, _), (3, _), (6, _), (15, _)]) ⟨rfl, rfl, rfl, rfl, trivial⟩ ?_
  refine NX.then ?_
  refine Tr.cond (.t rfl) (fun hb => ?_) (fun hb => ?_)
  · have hr := cond_t hb hr
    refine Tr.seq ?_
    refine Tr.region_f (fun _ => false) ?_
    refine W.q rfl rfl rfl rfl (by decide) (Yd.mv rfl (.t rfl)) ?_
    refine W.q rfl rfl rfl rfl (by decide) (Yd.as rfl .c) ?_
    refine W.q rfl rfl rfl rfl (by decide) (Yd.as rfl (.t rfl)) ?_
    refine W.end ?_
    refine NX.sub (env' := [(4, _), (5, _)]) ⟨rfl, rfl, trivial⟩ ?_
    refine NX.drop (l' := l) (.cons _ (.refl _)) ?_
    refine NX.then ?_
    refine Tr.ret' (RT.then ?_)
    refine res2 rfl rfl rfl ?_
    intro w hc
    cases hr
    exact ⟨_, rfl, (cX_nil hc)⟩
  · have hr := cond_f hb hr
    refine Tr.skip' ?_
    refine NX.then ?_
    refine Tr.seq ?_
    refine Tr.seq ?_
    obtain ⟨r5, hr6, hr⟩ := bind_some hr
    refine Tr.region_f (fun _ => false) ?_
    refine W.q rfl rfl rfl rfl (by decide) (Yd.ldBs (pos := 0) (us := [_, _]) rfl rfl rfl rfl ON25 US25 SZ25 (.t rfl)) ?_
    refine W.q rfl rfl rfl rfl (by decide) (Yd.call (v := .int .i64 r5) rfl Try.func32 rfl rfl (.cons (.t rfl) .nil) (fun x' hx w hw => label_Check_ok w0 x'.m x'.l (({ level := who_1.level, parts := who_1.parts } : Label)) _ hr6 w hw)) ?_
    refine W.q rfl rfl rfl rfl (by decide) (Yd.as rfl (.t rfl)) ?_
    refine W.end ?_
    refine NX.sub (env' := [(0, _), (3, _), (7, _)]) ⟨rfl, rfl, rfl, trivial⟩ ?_
    refine NX.then ?_
    refine Tr.seq ?_
    refine Tr.region_f (fun _ => false) ?_
    refine W.q rfl rfl rfl rfl (by decide) (Yd.mv rfl (.t rfl)) ?_
    refine W.q rfl rfl rfl rfl (by decide) (Yd.neq rfl (.t rfl) .c) ?_
    refine W.end ?_
    refine NX.sub (env' := [(0, _), (3, _), (7, _), (20, _)]) ⟨rfl, rfl, rfl, rfl, trivial⟩ ?_
    refine NX.then ?_
    refine Tr.cond (.t rfl) (fun hb => ?_) (fun hb => ?_)
    · have hr := cond_t hb hr
      refine Tr.seq ?_
      refine Tr.region_f (fun _ => false) ?_
      refine W.q rfl rfl rfl rfl (by decide) (Yd.mv rfl (.t rfl)) ?_
      refine W.q rfl rfl rfl rfl (by decide) (Yd.as rfl .c) ?_
      refine W.q rfl rfl rfl rfl (by decide) (Yd.as rfl (.t rfl)) ?_
      refine W.end ?_
      refine NX.sub (env' := [(4, _), (5, _)]) ⟨rfl, rfl, trivial⟩ ?_
      refine NX.drop (l' := l) (.cons _ (.refl _)) ?_
      refine NX.then ?_
      refine Tr.ret' (RT.then ?_)
      refine res2 rfl rfl rfl ?_
      intro w hc
      cases hr
      exact ⟨_, rfl, (cX_nil hc)⟩
    · have hr := cond_f hb hr
      refine Tr.skip' ?_
      refine NX.then ?_
      refine Tr.seq ?_
      obtain ⟨hq7, hr⟩ := guard_some hr; replace hq7 := of_decide_eq_true hq7
      refine Tr.region_f (fun i => Nat.beq i 2) ?_
      refine W.q rfl rfl rfl rfl (by decide) (Yd.mv rfl (.t rfl)) ?_
      refine W.q rfl rfl rfl rfl (by decide) (Yd.lenR hl_0 rfl Try.underlying22 (.t rfl)) ?_
      refine W.e rfl rfl rfl rfl (by decide) (Ef.mkT (enc := encI) (0 : Int) IF3 rfl Try.underlying33 rfl rfl (by decide) (.t rfl) (.t rfl) (by omega) (by omega) (by omega)) ?_
      rintro v8 _ rfl
      refine ⟨.inl rfl, ?_⟩
      refine W.cast (m' := m) (l' := hownT 3 1 encI v8 _ :: hcells b1 [_, _] 25 :: l) rfl rfl ?_
      refine W.q rfl rfl rfl rfl (by decide) (Yd.as rfl (.t rfl)) ?_
      refine W.end ?_
      refine NX.sub (env' := [(0, _), (3, _), (8, _)]) ⟨rfl, rfl, rfl, trivial⟩ ?_
      refine NX.then ?_
      refine Tr.seq ?_
      refine Tr.region_f (fun _ => false) ?_
      refine W.q rfl rfl rfl rfl (by decide) (Yd.as rfl .c) ?_
      refine W.end ?_
      refine NX.sub (env' := [(0, _), (3, _), (8, _), (9, _)]) ⟨rfl, rfl, rfl, rfl, trivial⟩ ?_
      refine NX.then ?_
      refine Tr.seq ?_
      refine Tr.seq ?_
      refine Tr.region_f (fun _ => false) ?_
      refine W.q rfl rfl rfl rfl (by decide) (Yd.mv rfl (.t rfl)) ?_
      refine W.q rfl rfl rfl rfl (by decide) (Yd.lenR hl_0 rfl Try.underlying22 (.t rfl)) ?_
      refine W.q rfl rfl rfl rfl (by decide) (Yd.mv rfl .c) ?_
      refine W.end ?_
      refine NX.sub (env' := [(3, _), (8, _), (9, _), (25, _), (26, _), (27, _)]) ⟨rfl, rfl, rfl, rfl, rfl, rfl, trivial⟩ ?_
      refine NX.then ?_
      refine Tr.addnil 42 4 ?_
      refine Tr.join (S := fun env x => ∃ l21 : List Leaf, ∃ v22 : Value, env = [(9, v22)] ∧ x = ⟨m, hownT 42 4 Leaf.enc v22 l21 :: l⟩ ∧ page_View_k25 l21 = some r) ?_ (fun hk26 => ?_)
      · rintro _ _ ⟨l21, v22, rfl, rfl, hr⟩
        unfold page_View_k25 at hr
        try dsimp only at hr
        refine NX.then ?_
        refine Tr.seq ?_
        refine Tr.region_f (fun _ => false) ?_
        refine W.q rfl rfl rfl rfl (by decide) (Yd.mv rfl (.t rfl)) ?_
        refine W.q rfl rfl rfl rfl (by decide) (Yd.as rfl (.t rfl)) ?_
        refine W.q rfl rfl rfl rfl (by decide) (Yd.as rfl .c) ?_
        refine W.end ?_
        refine NX.sub (env' := [(4, _), (5, _)]) ⟨rfl, rfl, trivial⟩ ?_
        refine NX.then ?_
        refine Tr.ret' ?_
        refine res2 rfl rfl rfl ?_
        intro w hc
        cases hr
        exact ⟨_, rfl, hc⟩
      have hlen27 := (hl_0).2.1
      refine Tr.block ?_
      refine Tr.sub (env' := [(3, _), (8, _), (9, _), (25, _), (26, _), (27, _)]) ⟨rfl, rfl, rfl, rfl, rfl, rfl, trivial⟩ ?_
      refine Tr.loop (S := fun n (z : Int × (List Leaf) × (List Int)) env x => match z with | (t_28, l17, l19) => ∃ v18 : Value, ∃ v20 : Value, env = [(3, bp b1 0), (8, v20), (9, v18), (25, ul_0), (26, .int .i64 ((l_0.length : Int))), (27, .int .i64 t_28)] ∧ x = ⟨m, hownT 42 4 Leaf.enc v18 l17 :: hownT 3 1 encI v20 l19 :: hcells b1 [.int .i64 who_1.level, .int .u32 (who_1.parts.toNat : Int)] 25 :: l⟩ ∧ n = ((l_0.length : Int) - t_28).toNat ∧ 0 ≤ t_28 ∧ forK (σ := (List Leaf) × (List Int)) (fun i s nx_ => page_View_b29 l_0 who_1 i s.1 s.2 nx_) (fun s => page_View_k25 s.1) n t_28 (l17, l19) = some r) _ ((0 : Int), ([] : List Leaf), (List.replicate ((l_0.length : Int)).toNat (0 : Int))) ⟨_, _, rfl, rfl, rfl, (by omega), hr⟩ ?_
      rintro n31 ⟨t_28, l17, l19⟩ env x ⟨v18, v20, rfl, rfl, hnt_28, h0t_28, hr⟩
      cases n31 with
      | zero =>
        simp only [forK] at hr
        refine Tr.seq ?_
        refine Tr.region_f (fun _ => false) ?_
        refine W.q rfl rfl rfl rfl (by decide) (Yd.lss rfl (.t rfl) (.t rfl)) ?_
        refine W.end ?_
        refine NX.sub (env' := [(3, _), (8, _), (9, _), (25, _), (26, _), (27, _), (28, _)]) ⟨rfl, rfl, rfl, rfl, rfl, rfl, rfl, trivial⟩ ?_
        refine NX.then ?_
        refine Tr.seq ?_
        refine Tr.cond (.t rfl) (fun hb => ?_) (fun hb => ?_)
        · exact absurd (hb.symm.trans (fr_end hnt_28)) (by decide)
        ·
          refine Tr.exit' (EX.then (EX.then (EX.block ?_)))
          refine NX.sub (env' := [(9, _)]) ⟨rfl, trivial⟩ ?_
          refine NX.drop (l' := hownT 42 4 Leaf.enc v18 _ :: l) (.cons_cons _ (.cons _ (.cons _ (.refl _)))) ?_
          exact hk26 _ _ ⟨_, _, rfl, rfl, hr⟩
      | succ n31 =>
        obtain ⟨nx30, hnx30, hr⟩ := forK_succ hr
        try dsimp only at hr
        unfold page_View_b29 at hr
        try dsimp only at hr
        have hltt_28 := fr_bnd hnt_28
        refine Tr.seq ?_
        refine Tr.region_f (fun _ => false) ?_
        refine W.q rfl rfl rfl rfl (by decide) (Yd.lss rfl (.t rfl) (.t rfl)) ?_
        refine W.end ?_
        refine NX.sub (env' := [(3, _), (8, _), (9, _), (25, _), (26, _), (27, _), (28, _)]) ⟨rfl, rfl, rfl, rfl, rfl, rfl, rfl, trivial⟩ ?_
        refine NX.then ?_
        refine Tr.seq ?_
        refine Tr.cond (.t rfl) (fun hb => ?_) (fun hb => ?_)
        rotate_left
        · exact absurd (hb.symm.trans (fr_go hnt_28)) (by decide)
        ·
          refine Tr.skip' ?_
          refine NX.then ?_
          refine Tr.seq ?_
          refine Tr.block ?_
          refine Tr.seq ?_
          obtain ⟨y32, hy33, hr⟩ := bind_some hr
          refine Tr.region_f (fun i => Nat.beq i 3 || Nat.beq i 5) ?_
          refine W.q rfl rfl rfl rfl (by decide) (Yd.mv rfl (.t rfl)) ?_
          refine W.q rfl rfl rfl rfl (by decide) (Yd.idxR hl_0 hy33 rfl Try.underlying22 SZ42 (.t rfl) (.t rfl)) ?_
          refine W.q rfl rfl rfl rfl (by decide) (Yd.ldFs (us := [_, _, _, _]) hl_0 (.refl _) hy33 rfl rfl ON42 US42 SZ42 (.t rfl)) ?_
          refine W.e rfl rfl rfl rfl (by decide) (Ef.al rfl ZR42 rfl) ?_
          rintro _ _ ⟨b34, rfl, rfl⟩
          refine ⟨.inl rfl, ?_⟩
          refine W.cast (m' := m) (l' := hcells b34 [_, _, _, _] 42 :: hownT 42 4 Leaf.enc v18 _ :: hownT 3 1 encI v20 _ :: hcells b1 [_, _] 25 :: l) rfl rfl ?_
          refine W.q rfl rfl rfl rfl (by decide) (Yd.as rfl (.t rfl)) ?_
          refine W.s rfl rfl rfl rfl (Ef.stB (pos := 0) (us := [_, _, _, _]) (cs' := [_, _, _, _]) rfl rfl (.t rfl) (.t rfl) SZ42 rfl rfl rfl (Nat.le_of_ble_eq_true rfl) rfl) ?_
          rintro _ _ ⟨rfl, rfl⟩
          refine ⟨.inl rfl, ?_⟩
          refine W.cast (m' := m) (l' := hcells b34 [_, _, _, _] 42 :: hownT 42 4 Leaf.enc v18 _ :: hownT 3 1 encI v20 _ :: hcells b1 [_, _] 25 :: l) rfl rfl ?_
          refine W.end ?_
          refine NX.sub (env' := [(3, _), (8, _), (9, _), (25, _), (26, _), (27, _), (11, _), (10, _)]) ⟨rfl, rfl, rfl, rfl, rfl, rfl, rfl, rfl, trivial⟩ ?_
          refine NX.then ?_
          refine Tr.seq ?_
          refine Tr.seq ?_
          obtain ⟨r36, hr37, hr⟩ := bind_some hr
          refine Tr.region_f (fun _ => false) ?_
          refine W.q rfl rfl rfl rfl (by decide) (Yd.fldB rfl Try.underlying42 rfl SZ25 rfl (.t rfl)) ?_
          refine W.q rfl rfl rfl rfl (by decide) (Yd.ldBs (pos := 0) (us := [_, _]) rfl rfl rfl rfl ON25 US25 SZ25 (.t rfl)) ?_
          refine W.q rfl rfl rfl rfl (by decide) (Yd.ldBs (pos := 3) (us := [_, _]) rfl rfl rfl rfl ON25 US25 SZ25 (.t rfl)) ?_
          refine W.q rfl rfl rfl rfl (by decide) (Yd.call (v := .bool r36) rfl Try.func33 rfl rfl (.cons (.t rfl) (.cons (.t rfl) .nil)) (fun x' hx w hw => label_Least_ok w0 x'.m x'.l (({ level := y32.label.level, parts := y32.label.parts } : Label)) (({ level := who_1.level, parts := who_1.parts } : Label)) _ hr37 w hw)) ?_
          refine W.q rfl rfl rfl rfl (by decide) (Yd.not rfl (.t rfl)) ?_
          refine W.end ?_
          refine NX.sub (env' := [(3, _), (8, _), (9, _), (25, _), (26, _), (27, _), (11, _), (10, _), (36, _)]) ⟨rfl, rfl, rfl, rfl, rfl, rfl, rfl, rfl, rfl, trivial⟩ ?_
          refine NX.then ?_
          refine Tr.cond (.t rfl) (fun hb => ?_) (fun hb => ?_)
          · have hr := cond_t hb hr
            refine Tr.exit' (EX.then (EX.block ?_))
            refine NX.then ?_
            refine Tr.region_f (fun _ => false) ?_
            refine W.q rfl rfl rfl rfl (by decide) (Yd.add rfl (.t rfl) .c) ?_
            refine W.q rfl rfl rfl rfl (by decide) (Yd.mv rfl (.t rfl)) ?_
            refine W.end ?_
            refine NX.sub (env' := [(3, _), (8, _), (9, _), (25, _), (26, _), (27, _)]) ⟨rfl, rfl, rfl, rfl, rfl, rfl, trivial⟩ ?_
            refine NX.drop (l' := hownT 42 4 Leaf.enc v18 _ :: hownT 3 1 encI v20 _ :: hcells b1 [_, _] 25 :: l) (.cons _ (.cons_cons _ (.cons_cons _ (.cons_cons _ (.refl _))))) ?_
            refine NX.sub (env' := [(3, _), (8, _), (9, _), (25, _), (26, _), (27, _)]) ⟨rfl, rfl, rfl, rfl, rfl, rfl, trivial⟩ ?_
            have hw := w64_id (n := t_28 + 1) (by omega) (by omega)
            exact NX.again n31 (t_28 + 1, l17, l19) (Nat.lt_succ_self _) ⟨_, _, (by rw [hw] <;> rfl), rfl, (fr_dec hnt_28), (by omega), ((hnx30 _).symm.trans hr)⟩
          · have hr := cond_f hb hr
            refine Tr.skip' ?_
            refine NX.then ?_
            refine Tr.seq ?_
            obtain ⟨y38, hy39, hr⟩ := bind_some hr
            refine Tr.region_f (fun i => Nat.beq i 5) ?_
            refine W.q rfl rfl rfl rfl (by decide) (Yd.mv rfl (.t rfl)) ?_
            refine W.q rfl rfl rfl rfl (by decide) (Yd.mv rfl (.t rfl)) ?_
            refine W.q rfl rfl rfl rfl (by decide) (Yd.mv rfl (.t rfl)) ?_
            refine W.q rfl rfl rfl rfl (by decide) (Yd.lenO (p := 1) rfl rfl Try.underlying22 (.t rfl)) ?_
            refine W.q rfl rfl rfl rfl (by decide) (Yd.idxT (pos := 2) rfl hy39 rfl Try.underlying33 SZ3 (.t rfl) (.t rfl)) ?_
            refine W.s rfl rfl rfl rfl (Ef.stT (enc := encI) (n := 1) (pos := 2) (y := (l17.length : Int)) (us := [_]) (fun _ => rfl) rfl hy39 rfl (.t rfl) (.t rfl) SZ3 rfl rfl rfl (by decide)) ?_
            rintro _ _ ⟨rfl, rfl⟩
            refine ⟨.inl rfl, ?_⟩
            refine W.cast (m' := m) (l' := hcells b34 [_, _, _, _] 42 :: hownT 42 4 Leaf.enc v18 _ :: hownT 3 1 encI v20 _ :: hcells b1 [_, _] 25 :: l) rfl rfl ?_
            refine W.end ?_
            refine NX.sub (env' := [(3, _), (8, _), (9, _), (25, _), (26, _), (27, _), (11, _)]) ⟨rfl, rfl, rfl, rfl, rfl, rfl, rfl, trivial⟩ ?_
            refine NX.then ?_
            refine Tr.seq ?_
            refine Tr.seq ?_
            refine Tr.region_f (fun _ => false) ?_
            refine W.q rfl rfl rfl rfl (by decide) (Yd.fldB rfl Try.underlying42 rfl SZ3 rfl (.t rfl)) ?_
            refine W.q rfl rfl rfl rfl (by decide) (Yd.ldB (pos := 0) rfl rfl rfl ON3 (.t rfl)) ?_
            refine W.q rfl rfl rfl rfl (by decide) (Yd.geq rfl (.t rfl) .c) ?_
            refine W.end ?_
            refine NX.sub (env' := [(3, _), (8, _), (9, _), (25, _), (26, _), (27, _), (11, _), (44, _)]) ⟨rfl, rfl, rfl, rfl, rfl, rfl, rfl, rfl, trivial⟩ ?_
            refine NX.then ?_
            refine Tr.cond (.t rfl) (fun hb => ?_) (fun hb => ?_)
            · have hr := cond_t hb hr
              obtain ⟨y40, hy41, hr⟩ := bind_some hr
              refine Tr.region_f (fun i => Nat.beq i 6) ?_
              refine W.q rfl rfl rfl rfl (by decide) (Yd.mv rfl (.t rfl)) ?_
              refine W.q rfl rfl rfl rfl (by decide) (Yd.fldB rfl Try.underlying42 rfl SZ3 rfl (.t rfl)) ?_
              refine W.q rfl rfl rfl rfl (by decide) (Yd.ldB (pos := 0) rfl rfl rfl ON3 (.t rfl)) ?_
              refine W.q rfl rfl rfl rfl (by decide) (Yd.idxT (pos := 2) rfl hy41 rfl Try.underlying33 SZ3 (.t rfl) (.t rfl)) ?_
              refine W.q rfl rfl rfl rfl (by decide) (Yd.ldT (enc := encI) (n := 1) (pos := 2) (fun _ => rfl) rfl hy41 rfl rfl ON3 (.t rfl)) ?_
              refine W.q rfl rfl rfl rfl (by decide) (Yd.fldB rfl Try.underlying42 rfl SZ3 rfl (.t rfl)) ?_
              refine W.s rfl rfl rfl rfl (Ef.stB (pos := 0) (us := [_]) (cs' := [_, _, _, _]) rfl rfl (.t rfl) (.t rfl) SZ3 rfl rfl rfl (Nat.le_of_ble_eq_true rfl) rfl) ?_
              rintro _ _ ⟨rfl, rfl⟩
              refine ⟨.inl rfl, ?_⟩
              refine W.cast (m' := m) (l' := hcells b34 [_, _, _, _] 42 :: hownT 42 4 Leaf.enc v18 _ :: hownT 3 1 encI v20 _ :: hcells b1 [_, _] 25 :: l) rfl rfl ?_
              refine W.end ?_
              refine NX.sub (env' := [(3, _), (8, _), (9, _), (25, _), (26, _), (27, _), (11, _)]) ⟨rfl, rfl, rfl, rfl, rfl, rfl, rfl, trivial⟩ ?_
              refine NX.then ?_
              obtain ⟨hq45, hr⟩ := guard_some hr; replace hq45 := of_decide_eq_true hq45
              refine Tr.region_f (fun i => Nat.beq i 2 || Nat.beq i 3) ?_
              refine W.q rfl rfl rfl rfl (by decide) (Yd.mv rfl (.t rfl)) ?_
              refine W.q rfl rfl rfl rfl (by decide) (Yd.ldBs (pos := 0) (us := [_, _, _, _]) rfl rfl rfl rfl ON42 US42 SZ42 (.t rfl)) ?_
              refine W.e rfl rfl rfl rfl (by decide) (Ef.bsT (enc := Leaf.enc) (vs := [_]) (ys := [({ up := y40, text := y32.text, label := ({ level := y32.label.level, parts := y32.label.parts } : Label) } : Leaf)]) (fun _ => rfl) IF42 rfl Try.underlying22 (by decide) rfl (.cons (.t rfl) .nil) rfl rfl (by decide)) ?_
              rintro v42 _ rfl
              refine ⟨.inl rfl, ?_⟩
              refine W.cast (m' := m) (l' := hownT 42 4 Leaf.enc v42 _ :: hcells b34 [_, _, _, _] 42 :: hownT 42 4 Leaf.enc v18 _ :: hownT 3 1 encI v20 _ :: hcells b1 [_, _] 25 :: l) rfl rfl ?_
              refine W.e rfl rfl rfl rfl (by decide) (Ef.apI (pos := 2) (enc := Leaf.enc) (xs := l17) (ys := ([({ up := y40, text := y32.text, label := ({ level := y32.label.level, parts := y32.label.parts } : Label) } : Leaf)] : List Leaf)) (fun _ => rfl) IF42 rfl rfl Try.underlying22 rfl (by decide) (.t rfl) (.t rfl) (Src.own (pos := 0) rfl) (fun _ => rfl) (by omega) (by omega)) ?_
              rintro v44 _ rfl
              refine ⟨.inl rfl, ?_⟩
              refine W.cast (m' := m) (l' := hownT 42 4 Leaf.enc v42 _ :: hcells b34 [_, _, _, _] 42 :: hownT 42 4 Leaf.enc v44 _ :: hownT 3 1 encI v20 _ :: hcells b1 [_, _] 25 :: l) rfl rfl ?_
              refine W.q rfl rfl rfl rfl (by decide) (Yd.as rfl (.t rfl)) ?_
              refine W.end ?_
              refine NX.sub (env' := [(3, _), (8, _), (9, _), (25, _), (26, _), (27, _)]) ⟨rfl, rfl, rfl, rfl, rfl, rfl, trivial⟩ ?_
              refine NX.drop (l' := hownT 42 4 Leaf.enc v44 _ :: hownT 3 1 encI v20 _ :: hcells b1 [_, _] 25 :: l) (.cons _ (.cons _ (.cons_cons _ (.cons_cons _ (.cons_cons _ (.refl _)))))) ?_
              refine NX.block ?_
              refine NX.then ?_
              refine Tr.region_f (fun _ => false) ?_
              refine W.q rfl rfl rfl rfl (by decide) (Yd.add rfl (.t rfl) .c) ?_
              refine W.q rfl rfl rfl rfl (by decide) (Yd.mv rfl (.t rfl)) ?_
              refine W.end ?_
              refine NX.sub (env' := [(3, _), (8, _), (9, _), (25, _), (26, _), (27, _)]) ⟨rfl, rfl, rfl, rfl, rfl, rfl, trivial⟩ ?_
              refine NX.sub (env' := [(3, _), (8, _), (9, _), (25, _), (26, _), (27, _)]) ⟨rfl, rfl, rfl, rfl, rfl, rfl, trivial⟩ ?_
              have hw := w64_id (n := t_28 + 1) (by omega) (by omega)
              exact NX.again n31 (t_28 + 1, (l17 ++ ([({ up := y40, text := y32.text, label := ({ level := y32.label.level, parts := y32.label.parts } : Label) } : Leaf)] : List Leaf)), (l19.set t_28.toNat ((l17.length : Int)))) (Nat.lt_succ_self _) ⟨_, _, (by rw [hw] <;> rfl), rfl, (fr_dec hnt_28), (by omega), ((hnx30 _).symm.trans hr)⟩
            · have hr := cond_f hb hr
              refine Tr.skip' ?_
              refine NX.then ?_
              obtain ⟨hq49, hr⟩ := guard_some hr; replace hq49 := of_decide_eq_true hq49
              refine Tr.region_f (fun i => Nat.beq i 2 || Nat.beq i 3) ?_
              refine W.q rfl rfl rfl rfl (by decide) (Yd.mv rfl (.t rfl)) ?_
              refine W.q rfl rfl rfl rfl (by decide) (Yd.ldBs (pos := 0) (us := [_, _, _, _]) rfl rfl rfl rfl ON42 US42 SZ42 (.t rfl)) ?_
              refine W.e rfl rfl rfl rfl (by decide) (Ef.bsT (enc := Leaf.enc) (vs := [_]) (ys := [({ up := y32.up, text := y32.text, label := ({ level := y32.label.level, parts := y32.label.parts } : Label) } : Leaf)]) (fun _ => rfl) IF42 rfl Try.underlying22 (by decide) rfl (.cons (.t rfl) .nil) rfl rfl (by decide)) ?_
              rintro v46 _ rfl
              refine ⟨.inl rfl, ?_⟩
              refine W.cast (m' := m) (l' := hownT 42 4 Leaf.enc v46 _ :: hcells b34 [_, _, _, _] 42 :: hownT 42 4 Leaf.enc v18 _ :: hownT 3 1 encI v20 _ :: hcells b1 [_, _] 25 :: l) rfl rfl ?_
              refine W.e rfl rfl rfl rfl (by decide) (Ef.apI (pos := 2) (enc := Leaf.enc) (xs := l17) (ys := ([({ up := y32.up, text := y32.text, label := ({ level := y32.label.level, parts := y32.label.parts } : Label) } : Leaf)] : List Leaf)) (fun _ => rfl) IF42 rfl rfl Try.underlying22 rfl (by decide) (.t rfl) (.t rfl) (Src.own (pos := 0) rfl) (fun _ => rfl) (by omega) (by omega)) ?_
              rintro v48 _ rfl
              refine ⟨.inl rfl, ?_⟩
              refine W.cast (m' := m) (l' := hownT 42 4 Leaf.enc v46 _ :: hcells b34 [_, _, _, _] 42 :: hownT 42 4 Leaf.enc v48 _ :: hownT 3 1 encI v20 _ :: hcells b1 [_, _] 25 :: l) rfl rfl ?_
              refine W.q rfl rfl rfl rfl (by decide) (Yd.as rfl (.t rfl)) ?_
              refine W.end ?_
              refine NX.sub (env' := [(3, _), (8, _), (9, _), (25, _), (26, _), (27, _)]) ⟨rfl, rfl, rfl, rfl, rfl, rfl, trivial⟩ ?_
              refine NX.drop (l' := hownT 42 4 Leaf.enc v48 _ :: hownT 3 1 encI v20 _ :: hcells b1 [_, _] 25 :: l) (.cons _ (.cons _ (.cons_cons _ (.cons_cons _ (.cons_cons _ (.refl _)))))) ?_
              refine NX.block ?_
              refine NX.then ?_
              refine Tr.region_f (fun _ => false) ?_
              refine W.q rfl rfl rfl rfl (by decide) (Yd.add rfl (.t rfl) .c) ?_
              refine W.q rfl rfl rfl rfl (by decide) (Yd.mv rfl (.t rfl)) ?_
              refine W.end ?_
              refine NX.sub (env' := [(3, _), (8, _), (9, _), (25, _), (26, _), (27, _)]) ⟨rfl, rfl, rfl, rfl, rfl, rfl, trivial⟩ ?_
              refine NX.sub (env' := [(3, _), (8, _), (9, _), (25, _), (26, _), (27, _)]) ⟨rfl, rfl, rfl, rfl, rfl, rfl, trivial⟩ ?_
              have hw := w64_id (n := t_28 + 1) (by omega) (by omega)
              exact NX.again n31 (t_28 + 1, (l17 ++ ([({ up := y32.up, text := y32.text, label := ({ level := y32.label.level, parts := y32.label.parts } : Label) } : Leaf)] : List Leaf)), (l19.set t_28.toNat ((l17.length : Int)))) (Nat.lt_succ_self _) ⟨_, _, (by rw [hw] <;> rfl), rfl, (fr_dec hnt_28), (by omega), ((hnx30 _).symm.trans hr)⟩

def syllogistref_Fits (n_0 : Int) (s_1 : (BitVec 32)) : Option (Bool) :=
  some (((decide (n_0 ≥ (32 : Int))) || ((decide (n_0 ≥ (0 : Int))) && (decide (s_1 < (1#32 <<< ((BitVec.ofInt 64 n_0)).toNat))))))

set_option maxRecDepth 100000 in
set_option maxHeartbeats 4000000 in
theorem syllogistref_Fits_ok (w0 : World) (m : Snap) (l : List HI) (n_0 : Int) (s_1 : (BitVec 32)) (r : Bool) (hr : syllogistref_Fits n_0 s_1 = some r) (w : World) (hc : cX w0 ⟨m, l⟩ w) :
    Calls Try.prog 46 [.int .i64 n_0, .int .u32 (s_1.toNat : Int)].toArray w fun e w' => e = .returned (.bool r) ∧ cX w0 ⟨m, l⟩ w' := by
  unfold syllogistref_Fits at hr
  refine calls_of_Tr (N := 18) Try.func46 rfl hc rfl (Nat.le_of_ble_eq_true rfl) ?_
  refine Tr.seq ?_
  refine Tr.region_f (fun _ => false) ?_
  refine W.q rfl rfl rfl rfl (by decide) (Yd.as rfl .c) ?_
  refine W.end ?_
  refine NX.sub (env' := [(0, _), (1, _)]) ⟨rfl, rfl, trivial⟩ ?_
  refine NX.then ?_
  refine Tr.seq ?_
  refine Tr.region_f (fun _ => false) ?_
  refine W.q rfl rfl rfl rfl (by decide) (Yd.mv rfl (.t rfl)) ?_
  refine W.q rfl rfl rfl rfl (by decide) (Yd.geq rfl (.t rfl) .c) ?_
  refine W.q rfl rfl rfl rfl (by decide) (Yd.mv rfl (.t rfl)) ?_
  refine W.g rfl rfl rfl rfl rfl (.t rfl _) rfl (by decide) (fun hG => Yd.mv rfl (.t rfl)) ?_
  refine W.g rfl rfl rfl rfl rfl (.t rfl _) rfl (by decide) (fun hG => Yd.geq rfl (.g rfl hG) .c) ?_
  refine W.g rfl rfl rfl rfl rfl (.t rfl _) rfl (by decide) (fun hG => Yd.mv rfl (.g rfl hG)) ?_
  refine W.g rfl rfl rfl rfl rfl (.g rfl _) rfl (by decide) (fun hG => Yd.mv rfl (.t rfl)) ?_
  refine W.g rfl rfl rfl rfl rfl (.g rfl _) rfl (by decide) (fun hG => Yd.mv rfl (.t rfl)) ?_
  refine W.g rfl rfl rfl rfl rfl (.g rfl _) rfl (by decide) (fun hG => Yd.cvQ rfl US3 Try.underlying77 (.g rfl hG)) ?_
  refine W.g rfl rfl rfl rfl rfl (.g rfl _) rfl (by decide) (fun hG => Yd.shlU (a := 1#32) rfl .c (.g rfl hG) (Int.natCast_nonneg _)) ?_
  refine W.g rfl rfl rfl rfl rfl (.g rfl _) rfl (by decide) (fun hG => Yd.lssU (a := s_1) (b := (1#32 <<< ((BitVec.ofInt 64 n_0)).toNat)) rfl (.g rfl hG) (.g rfl hG)) ?_
  refine W.g rfl rfl rfl rfl rfl (.t rfl _) rfl (by decide) (fun hG => Yd.andG rfl (.g rfl hG) .c rfl rfl hG) ?_
  refine W.q rfl rfl rfl rfl (by decide) (Yd.or rfl (.t rfl) .c rfl rfl) ?_
  refine W.q rfl rfl rfl rfl (by decide) (Yd.as rfl (.t rfl)) ?_
  refine W.end ?_
  refine NX.sub (env' := [(4, _)]) ⟨rfl, trivial⟩ ?_
  refine NX.then ?_
  refine Tr.ret' ?_
  refine res1 rfl rfl ?_
  intro w hc
  cases hr
  exact ⟨rfl, hc⟩

def syllogistref_LabelCheck (a_0 : Label) : Option (Int) :=
  bif (!(((decide (a_0.level < (0 : Int))) || (decide (a_0.level > (3 : Int)))) == false) || (syllogistref_Fits ((5 : Int)) a_0.parts).isSome) then
  (bif (((decide (a_0.level < (0 : Int))) || (decide (a_0.level > (3 : Int)))) || (!(((syllogistref_Fits ((5 : Int)) a_0.parts).getD false)))) then
  some ((4 : Int))
  else
  some ((0 : Int))) else none

set_option maxRecDepth 100000 in
set_option maxHeartbeats 4000000 in
theorem syllogistref_LabelCheck_ok (w0 : World) (m : Snap) (l : List HI) (a_0 : Label) (r : Int) (hr : syllogistref_LabelCheck a_0 = some r) (w : World) (hc : cX w0 ⟨m, l⟩ w) :
    Calls Try.prog 28 [.agg #[.int .i64 a_0.level, .int .u32 (a_0.parts.toNat : Int)]].toArray w fun e w' => e = .returned (.int .i64 r) ∧ cX w0 ⟨m, l⟩ w' := by
  unfold syllogistref_LabelCheck at hr
  refine calls_of_Tr (N := 17) Try.func28 rfl hc rfl (Nat.le_of_ble_eq_true rfl) ?_
  refine Tr.seq ?_
  refine Tr.region_f (fun i => Nat.beq i 0) ?_
  refine W.e rfl rfl rfl rfl (by decide) (Ef.bx rfl (.t rfl) rfl) ?_
  rintro _ _ ⟨b1, rfl, rfl⟩
  refine ⟨.inl rfl, ?_⟩
  refine W.cast (m' := m) (l' := hcells b1 [_, _] 25 :: l) rfl rfl ?_
  refine W.q rfl rfl rfl rfl (by decide) (Yd.as rfl .c) ?_
  refine W.end ?_
  refine NX.sub (env' := [(1, _)]) ⟨rfl, trivial⟩ ?_
  refine NX.then ?_
  refine Tr.seq ?_
  refine Tr.seq ?_
  obtain ⟨ha3, hr⟩ := guard_some hr
  refine Tr.region_f (fun _ => false) ?_
  refine W.q rfl rfl rfl rfl (by decide) (Yd.fldB rfl Try.underlying25 rfl SZ3 rfl (.t rfl)) ?_
  refine W.q rfl rfl rfl rfl (by decide) (Yd.ldB (pos := 0) rfl rfl rfl ON3 (.t rfl)) ?_
  refine W.q rfl rfl rfl rfl (by decide) (Yd.lss rfl (.t rfl) .c) ?_
  refine W.q rfl rfl rfl rfl (by decide) (Yd.mv rfl (.t rfl)) ?_
  refine W.g rfl rfl rfl rfl rfl (.t rfl _) rfl (by decide) (fun hG => Yd.fldB rfl Try.underlying25 rfl SZ3 rfl (.t rfl)) ?_
  refine W.g rfl rfl rfl rfl rfl (.t rfl _) rfl (by decide) (fun hG => Yd.ldB (pos := 0) rfl rfl rfl ON3 (.g rfl hG)) ?_
  refine W.g rfl rfl rfl rfl rfl (.t rfl _) rfl (by decide) (fun hG => Yd.gtr rfl (.g rfl hG) .c) ?_
  refine W.q rfl rfl rfl rfl (by decide) (Yd.or rfl (.t rfl) .c rfl rfl) ?_
  refine W.q rfl rfl rfl rfl (by decide) (Yd.mv rfl (.t rfl)) ?_
  refine W.g rfl rfl rfl rfl rfl (.t rfl _) rfl (by decide) (fun hG => Yd.fldB rfl Try.underlying25 rfl SZ23 rfl (.t rfl)) ?_
  refine W.g rfl rfl rfl rfl rfl (.t rfl _) rfl (by decide) (fun hG => Yd.ldB (pos := 0) rfl rfl rfl ON23 (.g rfl hG)) ?_
  refine W.g rfl rfl rfl rfl rfl (.t rfl _) rfl (by decide) (fun hG => Yd.call (v := .bool ((((syllogistref_Fits ((5 : Int)) a_0.parts).getD false)))) rfl Try.func46 rfl rfl (.cons .c (.cons (.g rfl hG) .nil)) (fun x' hx w hw => syllogistref_Fits_ok w0 x'.m x'.l ((5 : Int)) a_0.parts _ (gd_get (d := false) ha3 hG) w hw)) ?_
  refine W.g rfl rfl rfl rfl rfl (.t rfl _) rfl (by decide) (fun hG => Yd.not rfl (.g rfl hG)) ?_
  refine W.q rfl rfl rfl rfl (by decide) (Yd.or rfl (.t rfl) .c rfl rfl) ?_
  refine W.end ?_
  refine NX.sub (env' := [(16, _)]) ⟨rfl, trivial⟩ ?_
  refine NX.drop (l' := l) (.cons _ (.refl _)) ?_
  refine NX.then ?_
  refine Tr.cond (.t rfl) (fun hb => ?_) (fun hb => ?_)
  · have hr := cond_t hb hr
    refine Tr.seq ?_
    refine Tr.region_f (fun _ => false) ?_
    refine W.q rfl rfl rfl rfl (by decide) (Yd.as rfl .c) ?_
    refine W.end ?_
    refine NX.sub (env' := [(2, _)]) ⟨rfl, trivial⟩ ?_
    refine NX.then ?_
    refine Tr.ret' (RT.then ?_)
    refine res1 rfl rfl ?_
    intro w hc
    cases hr
    exact ⟨rfl, hc⟩
  · have hr := cond_f hb hr
    refine Tr.skip' ?_
    refine NX.then ?_
    refine Tr.seq ?_
    refine Tr.region_f (fun _ => false) ?_
    refine W.q rfl rfl rfl rfl (by decide) (Yd.as rfl .c) ?_
    refine W.end ?_
    refine NX.sub (env' := [(2, _)]) ⟨rfl, trivial⟩ ?_
    refine NX.then ?_
    refine Tr.ret' ?_
    refine res1 rfl rfl ?_
    intro w hc
    cases hr
    exact ⟨rfl, hc⟩

def syllogistref_In (a_0 : (BitVec 32)) (b_1 : (BitVec 32)) : Option (Bool) :=
  some (((a_0 ||| b_1) == b_1))

set_option maxRecDepth 100000 in
set_option maxHeartbeats 4000000 in
theorem syllogistref_In_ok (w0 : World) (m : Snap) (l : List HI) (a_0 : (BitVec 32)) (b_1 : (BitVec 32)) (r : Bool) (hr : syllogistref_In a_0 b_1 = some r) (w : World) (hc : cX w0 ⟨m, l⟩ w) :
    Calls Try.prog 41 [.int .u32 (a_0.toNat : Int), .int .u32 (b_1.toNat : Int)].toArray w fun e w' => e = .returned (.bool r) ∧ cX w0 ⟨m, l⟩ w' := by
  unfold syllogistref_In at hr
  refine calls_of_Tr (N := 10) Try.func41 rfl hc rfl (Nat.le_of_ble_eq_true rfl) ?_
  refine Tr.seq ?_
  refine Tr.region_f (fun _ => false) ?_
  refine W.q rfl rfl rfl rfl (by decide) (Yd.as rfl .c) ?_
  refine W.end ?_
  refine NX.sub (env' := [(0, _), (1, _)]) ⟨rfl, rfl, trivial⟩ ?_
  refine NX.then ?_
  refine Tr.seq ?_
  refine Tr.region_f (fun _ => false) ?_
  refine W.q rfl rfl rfl rfl (by decide) (Yd.mv rfl (.t rfl)) ?_
  refine W.q rfl rfl rfl rfl (by decide) (Yd.mv rfl (.t rfl)) ?_
  refine W.q rfl rfl rfl rfl (by decide) (Yd.orU (a := a_0) (b := b_1) rfl (.t rfl) (.t rfl)) ?_
  refine W.q rfl rfl rfl rfl (by decide) (Yd.mv rfl (.t rfl)) ?_
  refine W.q rfl rfl rfl rfl (by decide) (Yd.eqlU (a := (a_0 ||| b_1)) (b := b_1) rfl (.t rfl) (.t rfl)) ?_
  refine W.q rfl rfl rfl rfl (by decide) (Yd.as rfl (.t rfl)) ?_
  refine W.end ?_
  refine NX.sub (env' := [(4, _)]) ⟨rfl, trivial⟩ ?_
  refine NX.then ?_
  refine Tr.ret' ?_
  refine res1 rfl rfl ?_
  intro w hc
  cases hr
  exact ⟨rfl, hc⟩

def syllogistref_Below (a_0 : Label) (b_1 : Label) : Option (Bool) :=
  bif (!((decide (a_0.level ≤ b_1.level)) == true) || (syllogistref_In a_0.parts b_1.parts).isSome) then
  some (((decide (a_0.level ≤ b_1.level)) && (((syllogistref_In a_0.parts b_1.parts).getD false)))) else none

set_option maxRecDepth 100000 in
set_option maxHeartbeats 4000000 in
theorem syllogistref_Below_ok (w0 : World) (m : Snap) (l : List HI) (a_0 : Label) (b_1 : Label) (r : Bool) (hr : syllogistref_Below a_0 b_1 = some r) (w : World) (hc : cX w0 ⟨m, l⟩ w) :
    Calls Try.prog 19 [.agg #[.int .i64 a_0.level, .int .u32 (a_0.parts.toNat : Int)], .agg #[.int .i64 b_1.level, .int .u32 (b_1.parts.toNat : Int)]].toArray w fun e w' => e = .returned (.bool r) ∧ cX w0 ⟨m, l⟩ w' := by
  unfold syllogistref_Below at hr
  refine calls_of_Tr (N := 17) Try.func19 rfl hc rfl (Nat.le_of_ble_eq_true rfl) ?_
  refine Tr.seq ?_
  refine Tr.region_f (fun i => Nat.beq i 0 || Nat.beq i 1) ?_
  refine W.e rfl rfl rfl rfl (by decide) (Ef.bx rfl (.t rfl) rfl) ?_
  rintro _ _ ⟨b1, rfl, rfl⟩
  refine ⟨.inl rfl, ?_⟩
  refine W.cast (m' := m) (l' := hcells b1 [_, _] 25 :: l) rfl rfl ?_
  refine W.e rfl rfl rfl rfl (by decide) (Ef.bx rfl (.t rfl) rfl) ?_
  rintro _ _ ⟨b3, rfl, rfl⟩
  refine ⟨.inl rfl, ?_⟩
  refine W.cast (m' := m) (l' := hcells b3 [_, _] 25 :: hcells b1 [_, _] 25 :: l) rfl rfl ?_
  refine W.q rfl rfl rfl rfl (by decide) (Yd.as rfl .c) ?_
  refine W.end ?_
  refine NX.sub (env' := [(2, _), (3, _)]) ⟨rfl, rfl, trivial⟩ ?_
  refine NX.then ?_
  refine Tr.seq ?_
  obtain ⟨ha5, hr⟩ := guard_some hr
  refine Tr.region_f (fun _ => false) ?_
  refine W.q rfl rfl rfl rfl (by decide) (Yd.fldB rfl Try.underlying25 rfl SZ3 rfl (.t rfl)) ?_
  refine W.q rfl rfl rfl rfl (by decide) (Yd.ldB (pos := 1) rfl rfl rfl ON3 (.t rfl)) ?_
  refine W.q rfl rfl rfl rfl (by decide) (Yd.fldB rfl Try.underlying25 rfl SZ3 rfl (.t rfl)) ?_
  refine W.q rfl rfl rfl rfl (by decide) (Yd.ldB (pos := 0) rfl rfl rfl ON3 (.t rfl)) ?_
  refine W.q rfl rfl rfl rfl (by decide) (Yd.leq rfl (.t rfl) (.t rfl)) ?_
  refine W.q rfl rfl rfl rfl (by decide) (Yd.mv rfl (.t rfl)) ?_
  refine W.g rfl rfl rfl rfl rfl (.t rfl _) rfl (by decide) (fun hG => Yd.fldB rfl Try.underlying25 rfl SZ23 rfl (.t rfl)) ?_
  refine W.g rfl rfl rfl rfl rfl (.t rfl _) rfl (by decide) (fun hG => Yd.ldB (pos := 1) rfl rfl rfl ON23 (.g rfl hG)) ?_
  refine W.g rfl rfl rfl rfl rfl (.t rfl _) rfl (by decide) (fun hG => Yd.fldB rfl Try.underlying25 rfl SZ23 rfl (.t rfl)) ?_
  refine W.g rfl rfl rfl rfl rfl (.t rfl _) rfl (by decide) (fun hG => Yd.ldB (pos := 0) rfl rfl rfl ON23 (.g rfl hG)) ?_
  refine W.g rfl rfl rfl rfl rfl (.t rfl _) rfl (by decide) (fun hG => Yd.call (v := .bool ((((syllogistref_In a_0.parts b_1.parts).getD false)))) rfl Try.func41 rfl rfl (.cons (.g rfl hG) (.cons (.g rfl hG) .nil)) (fun x' hx w hw => syllogistref_In_ok w0 x'.m x'.l a_0.parts b_1.parts _ (gd_get (d := false) ha5 hG) w hw)) ?_
  refine W.q rfl rfl rfl rfl (by decide) (Yd.and rfl (.t rfl) .c rfl rfl) ?_
  refine W.q rfl rfl rfl rfl (by decide) (Yd.as rfl (.t rfl)) ?_
  refine W.end ?_
  refine NX.sub (env' := [(4, _)]) ⟨rfl, trivial⟩ ?_
  refine NX.drop (l' := l) (.cons _ (.cons _ (.refl _))) ?_
  refine NX.then ?_
  refine Tr.ret' ?_
  refine res1 rfl rfl ?_
  intro w hc
  cases hr
  exact ⟨rfl, hc⟩

def syllogistref_PageCheck_k3 : Option (Int) :=
  some ((0 : Int))

def syllogistref_PageCheck_b7 (l_0 : List Leaf) (t_6 : Int) (nx8 : Unit → Option (Int)) : Option (Int) :=
  (geti l_0 t_6).bind fun y10 =>
  (syllogistref_LabelCheck (({ level := y10.label.level, parts := y10.label.parts } : Label))).bind fun r14 =>
  (bif (r14 != (0 : Int)) then
  some ((4 : Int))
  else
  (bif ((decide (y10.up < (-1 : Int))) || (decide (y10.up ≥ t_6))) then
  some ((2 : Int))
  else
  bif (!((decide (y10.up ≥ (0 : Int))) == true) || (geti l_0 y10.up).isSome) then
  bif (!((decide (y10.up ≥ (0 : Int))) == true) || (syllogistref_Below ((((geti l_0 y10.up).getD ({ up := (0 : Int), text := (0 : Int), label := ({ level := (0 : Int), parts := (0#32) } : Label) } : Leaf))).label) (({ level := y10.label.level, parts := y10.label.parts } : Label))).isSome) then
  (bif ((decide (y10.up ≥ (0 : Int))) && (!(((syllogistref_Below ((((geti l_0 y10.up).getD ({ up := (0 : Int), text := (0 : Int), label := ({ level := (0 : Int), parts := (0#32) } : Label) } : Leaf))).label) (({ level := y10.label.level, parts := y10.label.parts } : Label))).getD false)))) then
  some ((3 : Int))
  else
  nx8 ()) else none else none))

def syllogistref_PageCheck (l_0 : List Leaf) : Option (Int) :=
  (bif (decide ((l_0.length : Int) > (40 : Int))) then
  some ((1 : Int))
  else
  forK (σ := Unit) (fun i s nx_ => syllogistref_PageCheck_b7 l_0 i nx_) (fun _ => syllogistref_PageCheck_k3) ((l_0.length : Int) - (0 : Int)).toNat (0 : Int) ())

set_option maxRecDepth 100000 in
set_option maxHeartbeats 4000000 in
theorem syllogistref_PageCheck_ok (w0 : World) (m : Snap) (l : List HI) (ul_0 : Value) (l_0 : List Leaf) (hl_0 : RS rLeaf m ul_0 l_0) (r : Int) (hr : syllogistref_PageCheck l_0 = some r) (w : World) (hc : cX w0 ⟨m, l⟩ w) :
    Calls Try.prog 34 [ul_0].toArray w fun e w' => e = .returned (.int .i64 r) ∧ cX w0 ⟨m, l⟩ w' := by
  unfold syllogistref_PageCheck at hr
  refine calls_of_Tr (N := 44) Try.func34 rfl hc rfl (Nat.le_of_ble_eq_true rfl) ?_
  refine Tr.seq ?_
  refine Tr.region_f (fun _ => false) ?_
  refine W.q rfl rfl rfl rfl (by decide) (Yd.as rfl .c) ?_
  refine W.end ?_
  refine NX.sub (env' := [(0, _)]) ⟨rfl, trivial⟩ ?_
  refine NX.then ?_
  refine Tr.seq ?_
  refine Tr.seq ?_
  refine Tr.region_f (fun _ => false) ?_
  refine W.q rfl rfl rfl rfl (by decide) (Yd.mv rfl (.t rfl)) ?_
  refine W.q rfl rfl rfl rfl (by decide) (Yd.lenR hl_0 rfl Try.underlying22 (.t rfl)) ?_
  refine W.q rfl rfl rfl rfl (by decide) (Yd.gtr rfl (.t rfl) .c) ?_
  refine W.end ?_
  refine NX.sub (env' := [(0, _), (7, _)]) ⟨rfl, rfl, trivial⟩ ?_
  refine NX.then ?_
  refine Tr.cond (.t rfl) (fun hb => ?_) (fun hb => ?_)
  · have hr := cond_t hb hr
    refine Tr.seq ?_
    refine Tr.region_f (fun _ => false) ?_
    refine W.q rfl rfl rfl rfl (by decide) (Yd.as rfl .c) ?_
    refine W.end ?_
    refine NX.sub (env' := [(2, _)]) ⟨rfl, trivial⟩ ?_
    refine NX.then ?_
    refine Tr.ret' (RT.then ?_)
    refine res1 rfl rfl ?_
    intro w hc
    cases hr
    exact ⟨rfl, hc⟩
  · have hr := cond_f hb hr
    refine Tr.skip' ?_
    refine NX.then ?_
    refine Tr.seq ?_
    refine Tr.seq ?_
    refine Tr.region_f (fun _ => false) ?_
    refine W.q rfl rfl rfl rfl (by decide) (Yd.mv rfl (.t rfl)) ?_
    refine W.q rfl rfl rfl rfl (by decide) (Yd.lenR hl_0 rfl Try.underlying22 (.t rfl)) ?_
    refine W.q rfl rfl rfl rfl (by decide) (Yd.mv rfl .c) ?_
    refine W.end ?_
    refine NX.sub (env' := [(0, _), (8, _), (9, _), (10, _)]) ⟨rfl, rfl, rfl, rfl, trivial⟩ ?_
    refine NX.then ?_
    refine Tr.join (S := fun env x => env = [] ∧ x = ⟨m, l⟩ ∧ syllogistref_PageCheck_k3 = some r) ?_ (fun hk4 => ?_)
    · rintro _ _ ⟨rfl, rfl, hr⟩
      unfold syllogistref_PageCheck_k3 at hr
      try dsimp only at hr
      refine NX.then ?_
      refine Tr.seq ?_
      refine Tr.region_f (fun _ => false) ?_
      refine W.q rfl rfl rfl rfl (by decide) (Yd.as rfl .c) ?_
      refine W.end ?_
      refine NX.sub (env' := [(2, _)]) ⟨rfl, trivial⟩ ?_
      refine NX.then ?_
      refine Tr.ret' ?_
      refine res1 rfl rfl ?_
      intro w hc
      cases hr
      exact ⟨rfl, hc⟩
    have hlen5 := (hl_0).2.1
    refine Tr.block ?_
    refine Tr.sub (env' := [(0, _), (8, _), (9, _), (10, _)]) ⟨rfl, rfl, rfl, rfl, trivial⟩ ?_
    refine Tr.loop (S := fun n (z : Int × Unit) env x => match z with | (t_6, _) => env = [(0, ul_0), (8, ul_0), (9, .int .i64 ((l_0.length : Int))), (10, .int .i64 t_6)] ∧ x = ⟨m, l⟩ ∧ n = ((l_0.length : Int) - t_6).toNat ∧ 0 ≤ t_6 ∧ forK (σ := Unit) (fun i s nx_ => syllogistref_PageCheck_b7 l_0 i nx_) (fun _ => syllogistref_PageCheck_k3) n t_6 () = some r) _ ((0 : Int), ()) ⟨rfl, rfl, rfl, (by omega), hr⟩ ?_
    rintro n9 ⟨t_6, _⟩ env x ⟨rfl, rfl, hnt_6, h0t_6, hr⟩
    cases n9 with
    | zero =>
      simp only [forK] at hr
      refine Tr.seq ?_
      refine Tr.region_f (fun _ => false) ?_
      refine W.q rfl rfl rfl rfl (by decide) (Yd.lss rfl (.t rfl) (.t rfl)) ?_
      refine W.end ?_
      refine NX.sub (env' := [(0, _), (8, _), (9, _), (10, _), (11, _)]) ⟨rfl, rfl, rfl, rfl, rfl, trivial⟩ ?_
      refine NX.then ?_
      refine Tr.seq ?_
      refine Tr.cond (.t rfl) (fun hb => ?_) (fun hb => ?_)
      · exact absurd (hb.symm.trans (fr_end hnt_6)) (by decide)
      ·
        refine Tr.exit' (EX.then (EX.then (EX.block ?_)))
        refine NX.sub (env' := []) trivial ?_
        exact hk4 _ _ ⟨rfl, rfl, hr⟩
    | succ n9 =>
      obtain ⟨nx8, hnx8, hr⟩ := forK_succ hr
      try dsimp only at hr
      unfold syllogistref_PageCheck_b7 at hr
      try dsimp only at hr
      have hltt_6 := fr_bnd hnt_6
      refine Tr.seq ?_
      refine Tr.region_f (fun _ => false) ?_
      refine W.q rfl rfl rfl rfl (by decide) (Yd.lss rfl (.t rfl) (.t rfl)) ?_
      refine W.end ?_
      refine NX.sub (env' := [(0, _), (8, _), (9, _), (10, _), (11, _)]) ⟨rfl, rfl, rfl, rfl, rfl, trivial⟩ ?_
      refine NX.then ?_
      refine Tr.seq ?_
      refine Tr.cond (.t rfl) (fun hb => ?_) (fun hb => ?_)
      rotate_left
      · exact absurd (hb.symm.trans (fr_go hnt_6)) (by decide)
      ·
        refine Tr.skip' ?_
        refine NX.then ?_
        refine Tr.seq ?_
        refine Tr.block ?_
        refine Tr.seq ?_
        obtain ⟨y10, hy11, hr⟩ := bind_some hr
        refine Tr.region_f (fun i => Nat.beq i 3 || Nat.beq i 5) ?_
        refine W.q rfl rfl rfl rfl (by decide) (Yd.mv rfl (.t rfl)) ?_
        refine W.q rfl rfl rfl rfl (by decide) (Yd.idxR hl_0 hy11 rfl Try.underlying22 SZ42 (.t rfl) (.t rfl)) ?_
        refine W.q rfl rfl rfl rfl (by decide) (Yd.ldFs (us := [_, _, _, _]) hl_0 (.refl _) hy11 rfl rfl ON42 US42 SZ42 (.t rfl)) ?_
        refine W.e rfl rfl rfl rfl (by decide) (Ef.al rfl ZR42 rfl) ?_
        rintro _ _ ⟨b12, rfl, rfl⟩
        refine ⟨.inl rfl, ?_⟩
        refine W.cast (m' := m) (l' := hcells b12 [_, _, _, _] 42 :: l) rfl rfl ?_
        refine W.q rfl rfl rfl rfl (by decide) (Yd.as rfl (.t rfl)) ?_
        refine W.s rfl rfl rfl rfl (Ef.stB (pos := 0) (us := [_, _, _, _]) (cs' := [_, _, _, _]) rfl rfl (.t rfl) (.t rfl) SZ42 rfl rfl rfl (Nat.le_of_ble_eq_true rfl) rfl) ?_
        rintro _ _ ⟨rfl, rfl⟩
        refine ⟨.inl rfl, ?_⟩
        refine W.cast (m' := m) (l' := hcells b12 [_, _, _, _] 42 :: l) rfl rfl ?_
        refine W.end ?_
        refine NX.sub (env' := [(0, _), (8, _), (9, _), (10, _), (4, _), (3, _)]) ⟨rfl, rfl, rfl, rfl, rfl, rfl, trivial⟩ ?_
        refine NX.then ?_
        refine Tr.seq ?_
        refine Tr.seq ?_
        obtain ⟨r14, hr15, hr⟩ := bind_some hr
        refine Tr.region_f (fun _ => false) ?_
        refine W.q rfl rfl rfl rfl (by decide) (Yd.fldB rfl Try.underlying42 rfl SZ25 rfl (.t rfl)) ?_
        refine W.q rfl rfl rfl rfl (by decide) (Yd.ldBs (pos := 0) (us := [_, _]) rfl rfl rfl rfl ON25 US25 SZ25 (.t rfl)) ?_
        refine W.q rfl rfl rfl rfl (by decide) (Yd.call (v := .int .i64 r14) rfl Try.func28 rfl rfl (.cons (.t rfl) .nil) (fun x' hx w hw => syllogistref_LabelCheck_ok w0 x'.m x'.l (({ level := y10.label.level, parts := y10.label.parts } : Label)) _ hr15 w hw)) ?_
        refine W.q rfl rfl rfl rfl (by decide) (Yd.neq rfl (.t rfl) .c) ?_
        refine W.end ?_
        refine NX.sub (env' := [(0, _), (8, _), (9, _), (10, _), (4, _), (3, _), (18, _)]) ⟨rfl, rfl, rfl, rfl, rfl, rfl, rfl, trivial⟩ ?_
        refine NX.then ?_
        refine Tr.cond (.t rfl) (fun hb => ?_) (fun hb => ?_)
        · have hr := cond_t hb hr
          refine Tr.seq ?_
          refine Tr.region_f (fun _ => false) ?_
          refine W.q rfl rfl rfl rfl (by decide) (Yd.as rfl .c) ?_
          refine W.end ?_
          refine NX.sub (env' := [(2, _)]) ⟨rfl, trivial⟩ ?_
          refine NX.drop (l' := l) (.cons _ (.refl _)) ?_
          refine NX.then ?_
          refine Tr.ret' (RT.then (RT.block (RT.then (RT.then (RT.block (RT.then ?_))))))
          refine res1 rfl rfl ?_
          intro w hc
          cases hr
          exact ⟨rfl, hc⟩
        · have hr := cond_f hb hr
          refine Tr.skip' ?_
          refine NX.then ?_
          refine Tr.seq ?_
          refine Tr.seq ?_
          refine Tr.region_f (fun _ => false) ?_
          refine W.q rfl rfl rfl rfl (by decide) (Yd.fldB rfl Try.underlying42 rfl SZ3 rfl (.t rfl)) ?_
          refine W.q rfl rfl rfl rfl (by decide) (Yd.ldB (pos := 0) rfl rfl rfl ON3 (.t rfl)) ?_
          refine W.q rfl rfl rfl rfl (by decide) (Yd.lss rfl (.t rfl) .c) ?_
          refine W.q rfl rfl rfl rfl (by decide) (Yd.mv rfl (.t rfl)) ?_
          refine W.g rfl rfl rfl rfl rfl (.t rfl _) rfl (by decide) (fun hG => Yd.fldB rfl Try.underlying42 rfl SZ3 rfl (.t rfl)) ?_
          refine W.g rfl rfl rfl rfl rfl (.t rfl _) rfl (by decide) (fun hG => Yd.ldB (pos := 0) rfl rfl rfl ON3 (.g rfl hG)) ?_
          refine W.g rfl rfl rfl rfl rfl (.t rfl _) rfl (by decide) (fun hG => Yd.mv rfl (.t rfl)) ?_
          refine W.g rfl rfl rfl rfl rfl (.t rfl _) rfl (by decide) (fun hG => Yd.geq rfl (.g rfl hG) (.g rfl hG)) ?_
          refine W.q rfl rfl rfl rfl (by decide) (Yd.or rfl (.t rfl) .c rfl rfl) ?_
          refine W.end ?_
          refine NX.sub (env' := [(0, _), (8, _), (9, _), (10, _), (4, _), (27, _)]) ⟨rfl, rfl, rfl, rfl, rfl, rfl, trivial⟩ ?_
          refine NX.then ?_
          refine Tr.cond (.t rfl) (fun hb => ?_) (fun hb => ?_)
          · have hr := cond_t hb hr
            refine Tr.seq ?_
            refine Tr.region_f (fun _ => false) ?_
            refine W.q rfl rfl rfl rfl (by decide) (Yd.as rfl .c) ?_
            refine W.end ?_
            refine NX.sub (env' := [(2, _)]) ⟨rfl, trivial⟩ ?_
            refine NX.drop (l' := l) (.cons _ (.refl _)) ?_
            refine NX.then ?_
            refine Tr.ret' (RT.then (RT.block (RT.then (RT.then (RT.block (RT.then ?_))))))
            refine res1 rfl rfl ?_
            intro w hc
            cases hr
            exact ⟨rfl, hc⟩
          · have hr := cond_f hb hr
            refine Tr.skip' ?_
            refine NX.then ?_
            refine Tr.seq ?_
            obtain ⟨ha16, hr⟩ := guard_some hr
            obtain ⟨ha17, hr⟩ := guard_some hr
            refine Tr.region_x (fun _ => false) (fun _ => false) (Ord.of [0, 1, 2, 3, 4, 5, 6, 7, 8, 9, 10, 11, 12, 13, 14]) FM (by kernel_rfl) ?_
            refine W.q rfl rfl rfl rfl (by decide) (Yd.fldB rfl Try.underlying42 rfl SZ3 rfl (.t rfl)) ?_
            refine W.q rfl rfl rfl rfl (by decide) (Yd.ldB (pos := 0) rfl rfl rfl ON3 (.t rfl)) ?_
            refine W.q rfl rfl rfl rfl (by decide) (Yd.geq rfl (.t rfl) .c) ?_
            refine W.q rfl rfl rfl rfl (by decide) (Yd.mv rfl (.t rfl)) ?_
            refine W.g rfl rfl rfl rfl rfl (.t rfl _) rfl (by decide) (fun hG => Yd.mv rfl (.t rfl)) ?_
            refine W.g rfl rfl rfl rfl rfl (.t rfl _) rfl (by decide) (fun hG => Yd.fldB rfl Try.underlying42 rfl SZ3 rfl (.t rfl)) ?_
            refine W.g rfl rfl rfl rfl rfl (.t rfl _) rfl (by decide) (fun hG => Yd.ldB (pos := 0) rfl rfl rfl ON3 (.g rfl hG)) ?_
            refine W.g rfl rfl rfl rfl rfl (.t rfl _) rfl (by decide) (fun hG => Yd.idxR hl_0 (gd_get (d := ({ up := (0 : Int), text := (0 : Int), label := ({ level := (0 : Int), parts := (0#32) } : Label) } : Leaf)) ha16 hG) rfl Try.underlying22 SZ42 (.g rfl hG) (.g rfl hG)) ?_
            refine W.g rfl rfl rfl rfl rfl (.t rfl _) rfl (by decide) (fun hG => Yd.fldA rfl Try.underlying42 rfl SZ25 rfl (adr_head hl_0 (gd_get (d := ({ up := (0 : Int), text := (0 : Int), label := ({ level := (0 : Int), parts := (0#32) } : Label) } : Leaf)) ha16 hG)) (.g rfl hG)) ?_
            refine W.g rfl rfl rfl rfl rfl (.t rfl _) rfl (by decide) (fun hG => Yd.ldFp (us := [_, _]) hl_0 (.refl _) (gd_get (d := ({ up := (0 : Int), text := (0 : Int), label := ({ level := (0 : Int), parts := (0#32) } : Label) } : Leaf)) ha16 hG) rfl rfl rfl ON25 US25 SZ25 (.g rfl hG)) ?_
            refine W.g rfl rfl rfl rfl rfl (.t rfl _) rfl (by decide) (fun hG => Yd.fldB rfl Try.underlying42 rfl SZ25 rfl (.t rfl)) ?_
            refine W.g rfl rfl rfl rfl rfl (.t rfl _) rfl (by decide) (fun hG => Yd.ldBs (pos := 0) (us := [_, _]) rfl rfl rfl rfl ON25 US25 SZ25 (.g rfl hG)) ?_
            refine W.g rfl rfl rfl rfl rfl (.t rfl _) rfl (by decide) (fun hG => Yd.call (v := .bool ((((syllogistref_Below ((((geti l_0 y10.up).getD ({ up := (0 : Int), text := (0 : Int), label := ({ level := (0 : Int), parts := (0#32) } : Label) } : Leaf))).label) (({ level := y10.label.level, parts := y10.label.parts } : Label))).getD false)))) rfl Try.func19 rfl rfl (.cons (.g rfl hG) (.cons (.g rfl hG) .nil)) (fun x' hx w hw => syllogistref_Below_ok w0 x'.m x'.l ((((geti l_0 y10.up).getD ({ up := (0 : Int), text := (0 : Int), label := ({ level := (0 : Int), parts := (0#32) } : Label) } : Leaf))).label) (({ level := y10.label.level, parts := y10.label.parts } : Label)) _ (gd_get (d := false) ha17 hG) w hw)) ?_
            refine W.g rfl rfl rfl rfl rfl (.t rfl _) rfl (by decide) (fun hG => Yd.not rfl (.g rfl hG)) ?_
            refine W.q rfl rfl rfl rfl (by decide) (Yd.and rfl (.t rfl) .c rfl rfl) ?_
            refine W.end ?_
            refine NX.sub (env' := [(0, _), (8, _), (9, _), (10, _), (42, _)]) ⟨rfl, rfl, rfl, rfl, rfl, trivial⟩ ?_
            refine NX.drop (l' := l) (.cons _ (.refl _)) ?_
            refine NX.then ?_
            refine Tr.cond (.t rfl) (fun hb => ?_) (fun hb => ?_)
            · have hr := cond_t hb hr
              refine Tr.seq ?_
              refine Tr.region_f (fun _ => false) ?_
              refine W.q rfl rfl rfl rfl (by decide) (Yd.as rfl .c) ?_
              refine W.end ?_
              refine NX.sub (env' := [(2, _)]) ⟨rfl, trivial⟩ ?_
              refine NX.then ?_
              refine Tr.ret' (RT.block (RT.then (RT.then (RT.block (RT.then ?_)))))
              refine res1 rfl rfl ?_
              intro w hc
              cases hr
              exact ⟨rfl, hc⟩
            · have hr := cond_f hb hr
              refine Tr.skip' ?_
              refine NX.block ?_
              refine NX.then ?_
              refine Tr.region_f (fun _ => false) ?_
              refine W.q rfl rfl rfl rfl (by decide) (Yd.add rfl (.t rfl) .c) ?_
              refine W.q rfl rfl rfl rfl (by decide) (Yd.mv rfl (.t rfl)) ?_
              refine W.end ?_
              refine NX.sub (env' := [(0, _), (8, _), (9, _), (10, _)]) ⟨rfl, rfl, rfl, rfl, trivial⟩ ?_
              refine NX.sub (env' := [(0, _), (8, _), (9, _), (10, _)]) ⟨rfl, rfl, rfl, rfl, trivial⟩ ?_
              have hw := w64_id (n := t_6 + 1) (by omega) (by omega)
              exact NX.again n9 (t_6 + 1, ()) (Nat.lt_succ_self _) ⟨(by rw [hw] <;> rfl), rfl, (fr_dec hnt_6), (by omega), ((hnx8 _).symm.trans hr)⟩

def syllogistlaw_pageCode (l_0 : List Leaf) (who_1 : Label) : Option (Int) :=
  (syllogistref_PageCheck l_0).bind fun r3 =>
  (bif (r3 == (0 : Int)) then
  (syllogistref_LabelCheck (({ level := who_1.level, parts := who_1.parts } : Label))).bind fun r5 =>
  some r5
  else
  some r3)

set_option maxRecDepth 100000 in
set_option maxHeartbeats 4000000 in
theorem syllogistlaw_pageCode_ok (w0 : World) (m : Snap) (l : List HI) (ul_0 : Value) (l_0 : List Leaf) (hl_0 : RS rLeaf m ul_0 l_0) (who_1 : Label) (r : Int) (hr : syllogistlaw_pageCode l_0 who_1 = some r) (w : World) (hc : cX w0 ⟨m, l⟩ w) :
    Calls Try.prog 13 [ul_0, .agg #[.int .i64 who_1.level, .int .u32 (who_1.parts.toNat : Int)]].toArray w fun e w' => e = .returned (.int .i64 r) ∧ cX w0 ⟨m, l⟩ w' := by
  unfold syllogistlaw_pageCode at hr
  refine calls_of_Tr (N := 13) Try.func13 rfl hc rfl (Nat.le_of_ble_eq_true rfl) ?_
  refine Tr.seq ?_
  refine Tr.region_f (fun i => Nat.beq i 0) ?_
  refine W.e rfl rfl rfl rfl (by decide) (Ef.bx rfl (.t rfl) rfl) ?_
  rintro _ _ ⟨b1, rfl, rfl⟩
  refine ⟨.inl rfl, ?_⟩
  refine W.cast (m' := m) (l' := hcells b1 [_, _] 25 :: l) rfl rfl ?_
  refine W.q rfl rfl rfl rfl (by decide) (Yd.as rfl .c) ?_
  refine W.end ?_
  refine NX.sub (env' := [(0, _), (3, _)]) ⟨rfl, rfl, trivial⟩ ?_
  refine NX.then ?_
  refine Tr.seq ?_
  obtain ⟨r3, hr4, hr⟩ := bind_some hr
  refine Tr.region_f (fun _ => false) ?_
  refine W.q rfl rfl rfl rfl (by decide) (Yd.mv rfl (.t rfl)) ?_
  refine W.q rfl rfl rfl rfl (by decide) (Yd.call (v := .int .i64 r3) rfl Try.func34 rfl rfl (.cons (.t rfl) .nil) (fun x' hx w hw => syllogistref_PageCheck_ok w0 x'.m x'.l _ _ (hl_0.mono hx.1) _ hr4 w hw)) ?_
  refine W.q rfl rfl rfl rfl (by decide) (Yd.as rfl (.t rfl)) ?_
  refine W.end ?_
  refine NX.sub (env' := [(3, _), (5, _)]) ⟨rfl, rfl, trivial⟩ ?_
  refine NX.then ?_
  refine Tr.seq ?_
  refine Tr.seq ?_
  refine Tr.region_f (fun _ => false) ?_
  refine W.q rfl rfl rfl rfl (by decide) (Yd.mv rfl (.t rfl)) ?_
  refine W.q rfl rfl rfl rfl (by decide) (Yd.eql rfl (.t rfl) .c) ?_
  refine W.end ?_
  refine NX.sub (env' := [(3, _), (5, _), (9, _)]) ⟨rfl, rfl, rfl, trivial⟩ ?_
  refine NX.then ?_
  refine Tr.cond (.t rfl) (fun hb => ?_) (fun hb => ?_)
  · have hr := cond_t hb hr
    obtain ⟨r5, hr6, hr⟩ := bind_some hr
    refine Tr.region_f (fun _ => false) ?_
    refine W.q rfl rfl rfl rfl (by decide) (Yd.ldBs (pos := 0) (us := [_, _]) rfl rfl rfl rfl ON25 US25 SZ25 (.t rfl)) ?_
    refine W.q rfl rfl rfl rfl (by decide) (Yd.call (v := .int .i64 r5) rfl Try.func28 rfl rfl (.cons (.t rfl) .nil) (fun x' hx w hw => syllogistref_LabelCheck_ok w0 x'.m x'.l (({ level := who_1.level, parts := who_1.parts } : Label)) _ hr6 w hw)) ?_
    refine W.q rfl rfl rfl rfl (by decide) (Yd.as rfl (.t rfl)) ?_
    refine W.end ?_
    refine NX.sub (env' := [(5, _)]) ⟨rfl, trivial⟩ ?_
    refine NX.drop (l' := l) (.cons _ (.refl _)) ?_
    refine NX.then ?_
    refine Tr.seq ?_
    refine Tr.region_f (fun _ => false) ?_
    refine W.q rfl rfl rfl rfl (by decide) (Yd.mv rfl (.t rfl)) ?_
    refine W.q rfl rfl rfl rfl (by decide) (Yd.as rfl (.t rfl)) ?_
    refine W.end ?_
    refine NX.sub (env' := [(4, _)]) ⟨rfl, trivial⟩ ?_
    refine NX.then ?_
    refine Tr.ret' ?_
    refine res1 rfl rfl ?_
    intro w hc
    cases hr
    exact ⟨rfl, hc⟩
  · have hr := cond_f hb hr
    refine Tr.skip' ?_
    refine NX.then ?_
    refine Tr.seq ?_
    refine Tr.region_f (fun _ => false) ?_
    refine W.q rfl rfl rfl rfl (by decide) (Yd.mv rfl (.t rfl)) ?_
    refine W.q rfl rfl rfl rfl (by decide) (Yd.as rfl (.t rfl)) ?_
    refine W.end ?_
    refine NX.sub (env' := [(4, _)]) ⟨rfl, trivial⟩ ?_
    refine NX.drop (l' := l) (.cons _ (.refl _)) ?_
    refine NX.then ?_
    refine Tr.ret' ?_
    refine res1 rfl rfl ?_
    intro w hc
    cases hr
    exact ⟨rfl, hc⟩

def syllogistref_Keep_k10 (l8 : List Leaf) : Option ((List Leaf)) :=
  some l8

def syllogistref_Keep_k31 (l6 : List Leaf) (nx15 : ((List Leaf) → Option ((List Leaf)))) (y17 : Leaf) (up_30 : Int) : Option ((List Leaf)) :=
  bif decide (l6.length + (([({ up := up_30, text := y17.text, label := ({ level := y17.label.level, parts := y17.label.parts } : Label) } : Leaf)] : List Leaf)).length ≤ 4398046511104) then
  nx15 (l6 ++ ([({ up := up_30, text := y17.text, label := ({ level := y17.label.level, parts := y17.label.parts } : Label) } : Leaf)] : List Leaf)) else none

def syllogistref_Keep_k28 (l6 : List Leaf) (nx15 : ((List Leaf) → Option ((List Leaf)))) (y17 : Leaf) (up_27 : Int) : Option ((List Leaf)) :=
  (bif (decide (y17.up < (0 : Int))) then
  syllogistref_Keep_k31 l6 nx15 y17 ((-1 : Int))
  else
  syllogistref_Keep_k31 l6 nx15 y17 up_27)

def syllogistref_Keep_b37 (so_1 : List Bool) (l6 : List Leaf) (nx15 : ((List Leaf) → Option ((List Leaf)))) (y17 : Leaf) (up_25 : Int) (j_26 : Int) (nx38 : (Int × Int) → Option ((List Leaf))) : Option ((List Leaf)) :=
  (bif (decide (j_26 ≤ y17.up)) then
  (geti so_1 j_26).bind fun y40 =>
  (bif y40 then
  nx38 ((w64 (up_25 + (1 : Int))), (w64 (j_26 + (1 : Int))))
  else
  nx38 (up_25, (w64 (j_26 + (1 : Int)))))
  else
  syllogistref_Keep_k28 l6 nx15 y17 up_25)

def syllogistref_Keep_b14 (l_0 : List Leaf) (so_1 : List Bool) (fuel : Nat) (t_13 : Int) (l6 : List Leaf) (nx15 : (List Leaf) → Option ((List Leaf))) : Option ((List Leaf)) :=
  (geti l_0 t_13).bind fun y17 =>
  (geti so_1 t_13).bind fun y21 =>
  (bif (!y21) then
  nx15 l6
  else
  whileK (σ := Int × Int) (fun s nx_ => syllogistref_Keep_b37 so_1 l6 nx15 y17 s.1 s.2 nx_) fuel (((-1 : Int)), ((0 : Int))))

def syllogistref_Keep (fuel : Nat) (l_0 : List Leaf) (so_1 : List Bool) : Option ((List Leaf)) :=
  forK (σ := (List Leaf)) (fun i s nx_ => syllogistref_Keep_b14 l_0 so_1 fuel i s nx_) (fun s => syllogistref_Keep_k10 s) ((l_0.length : Int) - (0 : Int)).toNat (0 : Int) (([] : List Leaf))

set_option maxRecDepth 100000 in
set_option maxHeartbeats 4000000 in
theorem syllogistref_Keep_ok (w0 : World) (m : Snap) (l : List HI) (fuel : Nat) (ul_0 : Value) (l_0 : List Leaf) (hl_0 : RS rLeaf m ul_0 l_0) (uso_1 : Value) (so_1 : List Bool) (hso_1 : RS rB m uso_1 so_1) (r : (List Leaf)) (hr : syllogistref_Keep fuel l_0 so_1 = some r) (w : World) (hc : cX w0 ⟨m, l⟩ w) :
    Calls Try.prog 35 [ul_0, uso_1].toArray w fun e w' => ∃ z0 : Value, e = .returned (z0) ∧ cX w0 ⟨m, hownT 42 4 Leaf.enc z0 r :: l⟩ w' := by
  unfold syllogistref_Keep at hr
  refine calls_of_Tr (N := 48) Try.func35 rfl hc rfl (Nat.le_of_ble_eq_true rfl) ?_
  refine Tr.seq ?_
  refine Tr.region_f (fun _ => false) ?_
  refine W.q rfl rfl rfl rfl (by decide) (Yd.as rfl .c) ?_
  refine W.end ?_
  refine NX.sub (env' := [(0, _), (1, _)]) ⟨rfl, rfl, trivial⟩ ?_
  refine NX.then ?_
  refine Tr.seq ?_
  refine Tr.region_f (fun _ => false) ?_
  refine W.q rfl rfl rfl rfl (by decide) (Yd.as rfl .c) ?_
  refine W.end ?_
  refine NX.sub (env' := [(0, _), (1, _), (5, _)]) ⟨rfl, rfl, rfl, trivial⟩ ?_
  refine NX.then ?_
  refine Tr.seq ?_
  refine Tr.seq ?_
  refine Tr.region_f (fun _ => false) ?_
  refine W.q rfl rfl rfl rfl (by decide) (Yd.mv rfl (.t rfl)) ?_
  refine W.q rfl rfl rfl rfl (by decide) (Yd.lenR hl_0 rfl Try.underlying22 (.t rfl)) ?_
  refine W.q rfl rfl rfl rfl (by decide) (Yd.mv rfl .c) ?_
  refine W.end ?_
  refine NX.sub (env' := [(1, _), (5, _), (10, _), (11, _), (12, _)]) ⟨rfl, rfl, rfl, rfl, rfl, trivial⟩ ?_
  refine NX.then ?_
  refine Tr.addnil 42 4 ?_
  refine Tr.join (S := fun env x => ∃ l8 : List Leaf, ∃ v9 : Value, env = [(5, v9)] ∧ x = ⟨m, hownT 42 4 Leaf.enc v9 l8 :: l⟩ ∧ syllogistref_Keep_k10 l8 = some r) ?_ (fun hk11 => ?_)
  · rintro _ _ ⟨l8, v9, rfl, rfl, hr⟩
    unfold syllogistref_Keep_k10 at hr
    try dsimp only at hr
    refine NX.then ?_
    refine Tr.seq ?_
    refine Tr.region_f (fun _ => false) ?_
    refine W.q rfl rfl rfl rfl (by decide) (Yd.mv rfl (.t rfl)) ?_
    refine W.q rfl rfl rfl rfl (by decide) (Yd.as rfl (.t rfl)) ?_
    refine W.end ?_
    refine NX.sub (env' := [(4, _)]) ⟨rfl, trivial⟩ ?_
    refine NX.then ?_
    refine Tr.ret' ?_
    refine res1 rfl rfl ?_
    intro w hc
    cases hr
    exact ⟨_, rfl, hc⟩
  have hlen12 := (hl_0).2.1
  refine Tr.block ?_
  refine Tr.sub (env' := [(1, _), (5, _), (10, _), (11, _), (12, _)]) ⟨rfl, rfl, rfl, rfl, rfl, trivial⟩ ?_
  refine Tr.loop (S := fun n (z : Int × (List Leaf)) env x => match z with | (t_13, l6) => ∃ v7 : Value, env = [(1, uso_1), (5, v7), (10, ul_0), (11, .int .i64 ((l_0.length : Int))), (12, .int .i64 t_13)] ∧ x = ⟨m, hownT 42 4 Leaf.enc v7 l6 :: l⟩ ∧ n = ((l_0.length : Int) - t_13).toNat ∧ 0 ≤ t_13 ∧ forK (σ := (List Leaf)) (fun i s nx_ => syllogistref_Keep_b14 l_0 so_1 fuel i s nx_) (fun s => syllogistref_Keep_k10 s) n t_13 l6 = some r) _ ((0 : Int), ([] : List Leaf)) ⟨_, rfl, rfl, rfl, (by omega), hr⟩ ?_
  rintro n16 ⟨t_13, l6⟩ env x ⟨v7, rfl, rfl, hnt_13, h0t_13, hr⟩
  cases n16 with
  | zero =>
    simp only [forK] at hr
    refine Tr.seq ?_
    refine Tr.region_f (fun _ => false) ?_
    refine W.q rfl rfl rfl rfl (by decide) (Yd.lss rfl (.t rfl) (.t rfl)) ?_
    refine W.end ?_
    refine NX.sub (env' := [(1, _), (5, _), (10, _), (11, _), (12, _), (13, _)]) ⟨rfl, rfl, rfl, rfl, rfl, rfl, trivial⟩ ?_
    refine NX.then ?_
    refine Tr.seq ?_
    refine Tr.cond (.t rfl) (fun hb => ?_) (fun hb => ?_)
    · exact absurd (hb.symm.trans (fr_end hnt_13)) (by decide)
    ·
      refine Tr.exit' (EX.then (EX.then (EX.block ?_)))
      refine NX.sub (env' := [(5, _)]) ⟨rfl, trivial⟩ ?_
      exact hk11 _ _ ⟨_, _, rfl, rfl, hr⟩
  | succ n16 =>
    obtain ⟨nx15, hnx15, hr⟩ := forK_succ hr
    try dsimp only at hr
    unfold syllogistref_Keep_b14 at hr
    try dsimp only at hr
    have hltt_13 := fr_bnd hnt_13
    refine Tr.seq ?_
    refine Tr.region_f (fun _ => false) ?_
    refine W.q rfl rfl rfl rfl (by decide) (Yd.lss rfl (.t rfl) (.t rfl)) ?_
    refine W.end ?_
    refine NX.sub (env' := [(1, _), (5, _), (10, _), (11, _), (12, _), (13, _)]) ⟨rfl, rfl, rfl, rfl, rfl, rfl, trivial⟩ ?_
    refine NX.then ?_
    refine Tr.seq ?_
    refine Tr.cond (.t rfl) (fun hb => ?_) (fun hb => ?_)
    rotate_left
    · exact absurd (hb.symm.trans (fr_go hnt_13)) (by decide)
    ·
      refine Tr.skip' ?_
      refine NX.then ?_
      refine Tr.seq ?_
      refine Tr.block ?_
      refine Tr.seq ?_
      obtain ⟨y17, hy18, hr⟩ := bind_some hr
      refine Tr.region_f (fun i => Nat.beq i 3 || Nat.beq i 5) ?_
      refine W.q rfl rfl rfl rfl (by decide) (Yd.mv rfl (.t rfl)) ?_
      refine W.q rfl rfl rfl rfl (by decide) (Yd.idxR hl_0 hy18 rfl Try.underlying22 SZ42 (.t rfl) (.t rfl)) ?_
      refine W.q rfl rfl rfl rfl (by decide) (Yd.ldFs (us := [_, _, _, _]) hl_0 (.refl _) hy18 rfl rfl ON42 US42 SZ42 (.t rfl)) ?_
      refine W.e rfl rfl rfl rfl (by decide) (Ef.al rfl ZR42 rfl) ?_
      rintro _ _ ⟨b19, rfl, rfl⟩
      refine ⟨.inl rfl, ?_⟩
      refine W.cast (m' := m) (l' := hcells b19 [_, _, _, _] 42 :: hownT 42 4 Leaf.enc v7 _ :: l) rfl rfl ?_
      refine W.q rfl rfl rfl rfl (by decide) (Yd.as rfl (.t rfl)) ?_
      refine W.s rfl rfl rfl rfl (Ef.stB (pos := 0) (us := [_, _, _, _]) (cs' := [_, _, _, _]) rfl rfl (.t rfl) (.t rfl) SZ42 rfl rfl rfl (Nat.le_of_ble_eq_true rfl) rfl) ?_
      rintro _ _ ⟨rfl, rfl⟩
      refine ⟨.inl rfl, ?_⟩
      refine W.cast (m' := m) (l' := hcells b19 [_, _, _, _] 42 :: hownT 42 4 Leaf.enc v7 _ :: l) rfl rfl ?_
      refine W.end ?_
      refine NX.sub (env' := [(1, _), (5, _), (10, _), (11, _), (12, _), (7, _), (6, _)]) ⟨rfl, rfl, rfl, rfl, rfl, rfl, rfl, trivial⟩ ?_
      refine NX.then ?_
      refine Tr.seq ?_
      refine Tr.seq ?_
      obtain ⟨y21, hy22, hr⟩ := bind_some hr
      refine Tr.region_f (fun _ => false) ?_
      refine W.q rfl rfl rfl rfl (by decide) (Yd.mv rfl (.t rfl)) ?_
      refine W.q rfl rfl rfl rfl (by decide) (Yd.mv rfl (.t rfl)) ?_
      refine W.q rfl rfl rfl rfl (by decide) (Yd.idxR hso_1 hy22 rfl Try.underlying66 SZ4 (.t rfl) (.t rfl)) ?_
      refine W.q rfl rfl rfl rfl (by decide) (Yd.ldF hso_1 (.refl _) hy22 rfl rfl ON4 (.t rfl)) ?_
      refine W.q rfl rfl rfl rfl (by decide) (Yd.not rfl (.t rfl)) ?_
      refine W.end ?_
      refine NX.sub (env' := [(1, _), (5, _), (10, _), (11, _), (12, _), (7, _), (21, _)]) ⟨rfl, rfl, rfl, rfl, rfl, rfl, rfl, trivial⟩ ?_
      refine NX.then ?_
      refine Tr.cond (.t rfl) (fun hb => ?_) (fun hb => ?_)
      · have hr := cond_t hb hr
        refine Tr.exit' (EX.then (EX.block ?_))
        refine NX.then ?_
        refine Tr.region_f (fun _ => false) ?_
        refine W.q rfl rfl rfl rfl (by decide) (Yd.add rfl (.t rfl) .c) ?_
        refine W.q rfl rfl rfl rfl (by decide) (Yd.mv rfl (.t rfl)) ?_
        refine W.end ?_
        refine NX.sub (env' := [(1, _), (5, _), (10, _), (11, _), (12, _)]) ⟨rfl, rfl, rfl, rfl, rfl, trivial⟩ ?_
        refine NX.drop (l' := hownT 42 4 Leaf.enc v7 _ :: l) (.cons _ (.cons_cons _ (.refl _))) ?_
        refine NX.sub (env' := [(1, _), (5, _), (10, _), (11, _), (12, _)]) ⟨rfl, rfl, rfl, rfl, rfl, trivial⟩ ?_
        have hw := w64_id (n := t_13 + 1) (by omega) (by omega)
        exact NX.again n16 (t_13 + 1, l6) (Nat.lt_succ_self _) ⟨_, (by rw [hw] <;> rfl), rfl, (fr_dec hnt_13), (by omega), ((hnx15 _).symm.trans hr)⟩
      · have hr := cond_f hb hr
        refine Tr.skip' ?_
        refine NX.then ?_
        refine Tr.seq ?_
        refine Tr.region_f (fun _ => false) ?_
        refine W.q rfl rfl rfl rfl (by decide) (Yd.as rfl .c) ?_
        refine W.end ?_
        refine NX.sub (env' := [(1, _), (5, _), (10, _), (11, _), (12, _), (7, _), (8, _)]) ⟨rfl, rfl, rfl, rfl, rfl, rfl, rfl, trivial⟩ ?_
        refine NX.then ?_
        refine Tr.seq ?_
        refine Tr.seq ?_
        refine Tr.region_f (fun _ => false) ?_
        refine W.q rfl rfl rfl rfl (by decide) (Yd.as rfl .c) ?_
        refine W.end ?_
        refine NX.sub (env' := [(1, _), (5, _), (10, _), (11, _), (12, _), (7, _), (8, _), (9, _)]) ⟨rfl, rfl, rfl, rfl, rfl, rfl, rfl, rfl, trivial⟩ ?_
        refine NX.then ?_
        refine Tr.join (S := fun env x => ∃ up_27 : Int, env = [(1, uso_1), (5, v7), (10, ul_0), (11, .int .i64 ((l_0.length : Int))), (12, .int .i64 t_13), (7, bp b19 0), (8, .int .i64 up_27)] ∧ x = ⟨m, hcells b19 [.int .i64 y17.up, .int .i64 y17.text, .int .i64 y17.label.level, .int .u32 (y17.label.parts.toNat : Int)] 42 :: hownT 42 4 Leaf.enc v7 l6 :: l⟩ ∧ syllogistref_Keep_k28 l6 nx15 y17 up_27 = some r) ?_ (fun hk29 => ?_)
        · rintro _ _ ⟨up_27, rfl, rfl, hr⟩
          unfold syllogistref_Keep_k28 at hr
          try dsimp only at hr
          refine NX.then ?_
          refine Tr.seq ?_
          refine Tr.seq ?_
          refine Tr.region_f (fun _ => false) ?_
          refine W.q rfl rfl rfl rfl (by decide) (Yd.fldB rfl Try.underlying42 rfl SZ3 rfl (.t rfl)) ?_
          refine W.q rfl rfl rfl rfl (by decide) (Yd.ldB (pos := 0) rfl rfl rfl ON3 (.t rfl)) ?_
          refine W.q rfl rfl rfl rfl (by decide) (Yd.lss rfl (.t rfl) .c) ?_
          refine W.end ?_
          refine NX.sub (env' := [(1, _), (5, _), (10, _), (11, _), (12, _), (7, _), (8, _), (36, _)]) ⟨rfl, rfl, rfl, rfl, rfl, rfl, rfl, rfl, trivial⟩ ?_
          refine NX.then ?_
          refine Tr.join (S := fun env x => ∃ up_30 : Int, env = [(1, uso_1), (5, v7), (10, ul_0), (11, .int .i64 ((l_0.length : Int))), (12, .int .i64 t_13), (7, bp b19 0), (8, .int .i64 up_30)] ∧ x = ⟨m, hcells b19 [.int .i64 y17.up, .int .i64 y17.text, .int .i64 y17.label.level, .int .u32 (y17.label.parts.toNat : Int)] 42 :: hownT 42 4 Leaf.enc v7 l6 :: l⟩ ∧ syllogistref_Keep_k31 l6 nx15 y17 up_30 = some r) ?_ (fun hk32 => ?_)
          · rintro _ _ ⟨up_30, rfl, rfl, hr⟩
            unfold syllogistref_Keep_k31 at hr
            try dsimp only at hr
            refine NX.then ?_
            obtain ⟨hq36, hr⟩ := guard_some hr; replace hq36 := of_decide_eq_true hq36
            refine Tr.region_f (fun i => Nat.beq i 7 || Nat.beq i 8) ?_
            refine W.q rfl rfl rfl rfl (by decide) (Yd.mv rfl (.t rfl)) ?_
            refine W.q rfl rfl rfl rfl (by decide) (Yd.mv rfl (.t rfl)) ?_
            refine W.q rfl rfl rfl rfl (by decide) (Yd.fldB rfl Try.underlying42 rfl SZ3 rfl (.t rfl)) ?_
            refine W.q rfl rfl rfl rfl (by decide) (Yd.ldB (pos := 0) rfl rfl rfl ON3 (.t rfl)) ?_
            refine W.q rfl rfl rfl rfl (by decide) (Yd.fldB rfl Try.underlying42 rfl SZ25 rfl (.t rfl)) ?_
            refine W.q rfl rfl rfl rfl (by decide) (Yd.ldBs (pos := 0) (us := [_, _]) rfl rfl rfl rfl ON25 US25 SZ25 (.t rfl)) ?_
            refine W.q rfl rfl rfl rfl (by decide) (Yd.bld (cells := [.int .i64 up_30, .int .i64 y17.text, .int .i64 y17.label.level, .int .u32 (y17.label.parts.toNat : Int)]) rfl ZI42 PL42 (.cons (.t rfl) (.cons (.t rfl) (.cons (.t rfl) .nil))) rfl) ?_
            refine W.e rfl rfl rfl rfl (by decide) (Ef.bsT (enc := Leaf.enc) (vs := [_]) (ys := [({ up := up_30, text := y17.text, label := ({ level := y17.label.level, parts := y17.label.parts } : Label) } : Leaf)]) (fun _ => rfl) IF42 rfl Try.underlying22 (by decide) rfl (.cons (.t rfl) .nil) rfl rfl (by decide)) ?_
            rintro v33 _ rfl
            refine ⟨.inl rfl, ?_⟩
            refine W.cast (m' := m) (l' := hownT 42 4 Leaf.enc v33 _ :: hcells b19 [_, _, _, _] 42 :: hownT 42 4 Leaf.enc v7 _ :: l) rfl rfl ?_
            refine W.e rfl rfl rfl rfl (by decide) (Ef.apI (pos := 2) (enc := Leaf.enc) (xs := l6) (ys := ([({ up := up_30, text := y17.text, label := ({ level := y17.label.level, parts := y17.label.parts } : Label) } : Leaf)] : List Leaf)) (fun _ => rfl) IF42 rfl rfl Try.underlying22 rfl (by decide) (.t rfl) (.t rfl) (Src.own (pos := 0) rfl) (fun _ => rfl) (by omega) (by omega)) ?_
            rintro v35 _ rfl
            refine ⟨.inl rfl, ?_⟩
            refine W.cast (m' := m) (l' := hownT 42 4 Leaf.enc v33 _ :: hcells b19 [_, _, _, _] 42 :: hownT 42 4 Leaf.enc v35 _ :: l) rfl rfl ?_
            refine W.q rfl rfl rfl rfl (by decide) (Yd.as rfl (.t rfl)) ?_
            refine W.end ?_
            refine NX.sub (env' := [(1, _), (5, _), (10, _), (11, _), (12, _)]) ⟨rfl, rfl, rfl, rfl, rfl, trivial⟩ ?_
            refine NX.drop (l' := hownT 42 4 Leaf.enc v35 _ :: l) (.cons _ (.cons _ (.cons_cons _ (.refl _)))) ?_
            refine NX.block ?_
            refine NX.then ?_
            refine Tr.region_f (fun _ => false) ?_
            refine W.q rfl rfl rfl rfl (by decide) (Yd.add rfl (.t rfl) .c) ?_
            refine W.q rfl rfl rfl rfl (by decide) (Yd.mv rfl (.t rfl)) ?_
            refine W.end ?_
            refine NX.sub (env' := [(1, _), (5, _), (10, _), (11, _), (12, _)]) ⟨rfl, rfl, rfl, rfl, rfl, trivial⟩ ?_
            refine NX.sub (env' := [(1, _), (5, _), (10, _), (11, _), (12, _)]) ⟨rfl, rfl, rfl, rfl, rfl, trivial⟩ ?_
            have hw := w64_id (n := t_13 + 1) (by omega) (by omega)
            exact NX.again n16 (t_13 + 1, (l6 ++ ([({ up := up_30, text := y17.text, label := ({ level := y17.label.level, parts := y17.label.parts } : Label) } : Leaf)] : List Leaf))) (Nat.lt_succ_self _) ⟨_, (by rw [hw] <;> rfl), rfl, (fr_dec hnt_13), (by omega), ((hnx15 _).symm.trans hr)⟩
          refine Tr.cond (.t rfl) (fun hb => ?_) (fun hb => ?_)
          · have hr := cond_t hb hr
            refine Tr.region_f (fun _ => false) ?_
            refine W.q rfl rfl rfl rfl (by decide) (Yd.as rfl .c) ?_
            refine W.end ?_
            refine NX.sub (env' := [(1, _), (5, _), (10, _), (11, _), (12, _), (7, _), (8, _)]) ⟨rfl, rfl, rfl, rfl, rfl, rfl, rfl, trivial⟩ ?_
            refine NX.sub (env' := [(1, _), (5, _), (10, _), (11, _), (12, _), (7, _), (8, _)]) ⟨rfl, rfl, rfl, rfl, rfl, rfl, rfl, trivial⟩ ?_
            exact hk32 _ _ ⟨_, rfl, rfl, hr⟩
          · have hr := cond_f hb hr
            refine Tr.skip' ?_
            refine NX.sub (env' := [(1, _), (5, _), (10, _), (11, _), (12, _), (7, _), (8, _)]) ⟨rfl, rfl, rfl, rfl, rfl, rfl, rfl, trivial⟩ ?_
            exact hk32 _ _ ⟨_, rfl, rfl, hr⟩
        refine Tr.block ?_
        refine Tr.sub (env' := [(1, _), (5, _), (7, _), (8, _), (9, _), (10, _), (11, _), (12, _)]) ⟨rfl, rfl, rfl, rfl, rfl, rfl, rfl, rfl, trivial⟩ ?_
        refine Tr.loop (S := fun n (z : Int × Int) env x => match z with | (up_25, j_26) => env = [(1, uso_1), (5, v7), (7, bp b19 0), (8, .int .i64 up_25), (9, .int .i64 j_26), (10, ul_0), (11, .int .i64 ((l_0.length : Int))), (12, .int .i64 t_13)] ∧ x = ⟨m, hcells b19 [.int .i64 y17.up, .int .i64 y17.text, .int .i64 y17.label.level, .int .u32 (y17.label.parts.toNat : Int)] 42 :: hownT 42 4 Leaf.enc v7 l6 :: l⟩ ∧ whileK (σ := Int × Int) (fun s nx_ => syllogistref_Keep_b37 so_1 l6 nx15 y17 s.1 s.2 nx_) n (up_25, j_26) = some r) _ ((-1 : Int), (0 : Int)) ⟨rfl, rfl, hr⟩ ?_
        rintro n39 ⟨up_25, j_26⟩ env x ⟨rfl, rfl, hr⟩
        cases n39 with
        | zero => simp [whileK] at hr
        | succ n39 =>
          obtain ⟨nx38, hnx38, hr⟩ := whileK_succ hr
          try dsimp only at hr
          unfold syllogistref_Keep_b37 at hr
          try dsimp only at hr
          refine Tr.seq ?_
          refine Tr.seq ?_
          refine Tr.region_f (fun _ => false) ?_
          refine W.q rfl rfl rfl rfl (by decide) (Yd.mv rfl (.t rfl)) ?_
          refine W.q rfl rfl rfl rfl (by decide) (Yd.fldB rfl Try.underlying42 rfl SZ3 rfl (.t rfl)) ?_
          refine W.q rfl rfl rfl rfl (by decide) (Yd.ldB (pos := 0) rfl rfl rfl ON3 (.t rfl)) ?_
          refine W.q rfl rfl rfl rfl (by decide) (Yd.leq rfl (.t rfl) (.t rfl)) ?_
          refine W.end ?_
          refine NX.sub (env' := [(1, _), (5, _), (7, _), (8, _), (9, _), (10, _), (11, _), (12, _), (25, _)]) ⟨rfl, rfl, rfl, rfl, rfl, rfl, rfl, rfl, rfl, trivial⟩ ?_
          refine NX.then ?_
          refine Tr.cond (.t rfl) (fun hb => ?_) (fun hb => ?_)
          · have hr := cond_t hb hr
            refine Tr.skip' ?_
            refine NX.then ?_
            refine Tr.seq ?_
            refine Tr.block ?_
            refine Tr.seq ?_
            obtain ⟨y40, hy41, hr⟩ := bind_some hr
            refine Tr.region_f (fun _ => false) ?_
            refine W.q rfl rfl rfl rfl (by decide) (Yd.mv rfl (.t rfl)) ?_
            refine W.q rfl rfl rfl rfl (by decide) (Yd.mv rfl (.t rfl)) ?_
            refine W.q rfl rfl rfl rfl (by decide) (Yd.idxR hso_1 hy41 rfl Try.underlying66 SZ4 (.t rfl) (.t rfl)) ?_
            refine W.q rfl rfl rfl rfl (by decide) (Yd.ldF hso_1 (.refl _) hy41 rfl rfl ON4 (.t rfl)) ?_
            refine W.end ?_
            refine NX.sub (env' := [(1, _), (5, _), (7, _), (8, _), (9, _), (10, _), (11, _), (12, _), (31, _)]) ⟨rfl, rfl, rfl, rfl, rfl, rfl, rfl, rfl, rfl, trivial⟩ ?_
            refine NX.then ?_
            refine Tr.cond (.t rfl) (fun hb => ?_) (fun hb => ?_)
            · have hr := cond_t hb hr
              refine Tr.region_f (fun _ => false) ?_
              refine W.q rfl rfl rfl rfl (by decide) (Yd.mv rfl (.t rfl)) ?_
              refine W.q rfl rfl rfl rfl (by decide) (Yd.add rfl (.t rfl) .c) ?_
              refine W.q rfl rfl rfl rfl (by decide) (Yd.as rfl (.t rfl)) ?_
              refine W.end ?_
              refine NX.sub (env' := [(1, _), (5, _), (7, _), (8, _), (9, _), (10, _), (11, _), (12, _)]) ⟨rfl, rfl, rfl, rfl, rfl, rfl, rfl, rfl, trivial⟩ ?_
              refine NX.block ?_
              refine NX.then ?_
              refine Tr.region_f (fun _ => false) ?_
              refine W.q rfl rfl rfl rfl (by decide) (Yd.mv rfl (.t rfl)) ?_
              refine W.q rfl rfl rfl rfl (by decide) (Yd.add rfl (.t rfl) .c) ?_
              refine W.q rfl rfl rfl rfl (by decide) (Yd.as rfl (.t rfl)) ?_
              refine W.end ?_
              refine NX.sub (env' := [(1, _), (5, _), (7, _), (8, _), (9, _), (10, _), (11, _), (12, _)]) ⟨rfl, rfl, rfl, rfl, rfl, rfl, rfl, rfl, trivial⟩ ?_
              refine NX.sub (env' := [(1, _), (5, _), (7, _), (8, _), (9, _), (10, _), (11, _), (12, _)]) ⟨rfl, rfl, rfl, rfl, rfl, rfl, rfl, rfl, trivial⟩ ?_
              exact NX.again n39 ((w64 (up_25 + (1 : Int))), (w64 (j_26 + (1 : Int)))) (Nat.lt_succ_self _) ⟨rfl, rfl, ((hnx38 _).symm.trans hr)⟩
            · have hr := cond_f hb hr
              refine Tr.skip' ?_
              refine NX.block ?_
              refine NX.then ?_
              refine Tr.region_f (fun _ => false) ?_
              refine W.q rfl rfl rfl rfl (by decide) (Yd.mv rfl (.t rfl)) ?_
              refine W.q rfl rfl rfl rfl (by decide) (Yd.add rfl (.t rfl) .c) ?_
              refine W.q rfl rfl rfl rfl (by decide) (Yd.as rfl (.t rfl)) ?_
              refine W.end ?_
              refine NX.sub (env' := [(1, _), (5, _), (7, _), (8, _), (9, _), (10, _), (11, _), (12, _)]) ⟨rfl, rfl, rfl, rfl, rfl, rfl, rfl, rfl, trivial⟩ ?_
              refine NX.sub (env' := [(1, _), (5, _), (7, _), (8, _), (9, _), (10, _), (11, _), (12, _)]) ⟨rfl, rfl, rfl, rfl, rfl, rfl, rfl, rfl, trivial⟩ ?_
              exact NX.again n39 (up_25, (w64 (j_26 + (1 : Int)))) (Nat.lt_succ_self _) ⟨rfl, rfl, ((hnx38 _).symm.trans hr)⟩
          · have hr := cond_f hb hr
            refine Tr.exit' (EX.then (EX.then (EX.block ?_)))
            refine NX.sub (env' := [(1, _), (5, _), (10, _), (11, _), (12, _), (7, _), (8, _)]) ⟨rfl, rfl, rfl, rfl, rfl, rfl, rfl, trivial⟩ ?_
            exact hk29 _ _ ⟨_, rfl, rfl, hr⟩

def syllogistref_View_k14 (l_0 : List Leaf) (fuel : Nat) (l12 : List Bool) : Option ((List Leaf)) :=
  (syllogistref_Keep fuel l_0 l12).bind fun r16 =>
  some r16

def syllogistref_View_b22 (l_0 : List Leaf) (who_1 : Label) (t_21 : Int) (l10 : List Bool) (nx23 : (List Bool) → Option ((List Leaf))) : Option ((List Leaf)) :=
  (geti l_0 t_21).bind fun y25 =>
  (syllogistref_Below (({ level := y25.label.level, parts := y25.label.parts } : Label)) (({ level := who_1.level, parts := who_1.parts } : Label))).bind fun r29 =>
  (geti l10 t_21).bind fun y31 =>
  nx23 (l10.set t_21.toNat r29)

def syllogistref_View (fuel : Nat) (l_0 : List Leaf) (who_1 : Label) : Option ((List Leaf)) :=
  bif decide (0 ≤ (l_0.length : Int) ∧ (l_0.length : Int) ≤ 1048576) then
  forK (σ := (List Bool)) (fun i s nx_ => syllogistref_View_b22 l_0 who_1 i s nx_) (fun s => syllogistref_View_k14 l_0 fuel s) ((l_0.length : Int) - (0 : Int)).toNat (0 : Int) ((List.replicate ((l_0.length : Int)).toNat false)) else none

set_option maxRecDepth 100000 in
set_option maxHeartbeats 4000000 in
theorem syllogistref_View_ok (w0 : World) (m : Snap) (l : List HI) (fuel : Nat) (ul_0 : Value) (l_0 : List Leaf) (hl_0 : RS rLeaf m ul_0 l_0) (who_1 : Label) (r : (List Leaf)) (hr : syllogistref_View fuel l_0 who_1 = some r) (w : World) (hc : cX w0 ⟨m, l⟩ w) :
    Calls Try.prog 15 [ul_0, .agg #[.int .i64 who_1.level, .int .u32 (who_1.parts.toNat : Int)]].toArray w fun e w' => ∃ z0 : Value, e = .returned (z0) ∧ cX w0 ⟨m, hownT 42 4 Leaf.enc z0 r :: l⟩ w' := by
  unfold syllogistref_View at hr
  refine calls_of_Tr (N := 29) Try.func15 rfl hc rfl (Nat.le_of_ble_eq_true rfl) ?_
  refine Tr.seq ?_
  refine Tr.region_f (fun i => Nat.beq i 0) ?_
  refine W.e rfl rfl rfl rfl (by decide) (Ef.bx rfl (.t rfl) rfl) ?_
  rintro _ _ ⟨b1, rfl, rfl⟩
  refine ⟨.inl rfl, ?_⟩
  refine W.cast (m' := m) (l' := hcells b1 [_, _] 25 :: l) rfl rfl ?_
  refine W.q rfl rfl rfl rfl (by decide) (Yd.as rfl .c) ?_
  refine W.end ?_
  refine NX.sub (env' := [(0, _), (3, _)]) ⟨rfl, rfl, trivial⟩ ?_
  refine NX.then ?_
  refine Tr.seq ?_
  obtain ⟨hq3, hr⟩ := guard_some hr; replace hq3 := of_decide_eq_true hq3
  refine Tr.region_f (fun i => Nat.beq i 2) ?_
  refine W.q rfl rfl rfl rfl (by decide) (Yd.mv rfl (.t rfl)) ?_
  refine W.q rfl rfl rfl rfl (by decide) (Yd.lenR hl_0 rfl Try.underlying22 (.t rfl)) ?_
  refine W.e rfl rfl rfl rfl (by decide) (Ef.mkT (enc := encB) false IF4 rfl Try.underlying66 rfl rfl (by decide) (.t rfl) (.t rfl) (by omega) (by omega) (by omega)) ?_
  rintro v4 _ rfl
  refine ⟨.inl rfl, ?_⟩
  refine W.cast (m' := m) (l' := hownT 4 1 encB v4 _ :: hcells b1 [_, _] 25 :: l) rfl rfl ?_
  refine W.q rfl rfl rfl rfl (by decide) (Yd.as rfl (.t rfl)) ?_
  refine W.end ?_
  refine NX.sub (env' := [(0, _), (3, _), (5, _)]) ⟨rfl, rfl, rfl, trivial⟩ ?_
  refine NX.then ?_
  refine Tr.seq ?_
  refine Tr.seq ?_
  refine Tr.region_f (fun _ => false) ?_
  refine W.q rfl rfl rfl rfl (by decide) (Yd.mv rfl (.t rfl)) ?_
  refine W.q rfl rfl rfl rfl (by decide) (Yd.lenR hl_0 rfl Try.underlying22 (.t rfl)) ?_
  refine W.q rfl rfl rfl rfl (by decide) (Yd.mv rfl .c) ?_
  refine W.end ?_
  refine NX.sub (env' := [(0, _), (3, _), (5, _), (11, _), (12, _), (13, _)]) ⟨rfl, rfl, rfl, rfl, rfl, rfl, trivial⟩ ?_
  refine NX.then ?_
  refine Tr.join (S := fun env x => ∃ l12 : List Bool, ∃ v13 : Value, env = [(0, ul_0), (5, v13)] ∧ x = ⟨m, hownT 4 1 encB v13 l12 :: l⟩ ∧ syllogistref_View_k14 l_0 fuel l12 = some r) ?_ (fun hk15 => ?_)
  · rintro _ _ ⟨l12, v13, rfl, rfl, hr⟩
    unfold syllogistref_View_k14 at hr
    try dsimp only at hr
    refine NX.then ?_
    refine Tr.seq ?_
    obtain ⟨r16, hr17, hr⟩ := bind_some hr
    refine Tr.region_f (fun i => Nat.beq i 2) ?_
    refine W.q rfl rfl rfl rfl (by decide) (Yd.mv rfl (.t rfl)) ?_
    refine W.q rfl rfl rfl rfl (by decide) (Yd.mv rfl (.t rfl)) ?_
    refine W.e rfl rfl rfl rfl (by decide) (Ef.call (R := fun z x' => ∃ v18 : Value, z = v18 ∧ x' = ⟨m, hownT 42 4 Leaf.enc v18 r16 :: hownT 4 1 encB v13 l12 :: l⟩) rfl Try.func35 rfl rfl (.cons (.t rfl) (.cons (.t rfl) .nil)) (by intro w hw; obtain ⟨m2, hm2, hc2, ⟨L2, hl1, hl2⟩, hback⟩ := cX_lend (p := 0) hw rfl lone_own; have hL1 : RS rB m2 _ _ := RS_of_own hl1 hl2; exact (syllogistref_Keep_ok w0 m2 _ fuel _ _ (hl_0.mono hm2) _ _ hL1 _ hr17 w hc2).mono fun e w' ⟨v18, he, hc'⟩ => ⟨_, _, he, ⟨v18, rfl, rfl⟩, (hback m2 _ 1 w' (.refl _) rfl).2 hc'⟩)) ?_
    rintro v18 _ ⟨_, rfl, rfl⟩
    refine ⟨.inl rfl, ?_⟩
    refine W.cast (m' := m) (l' := hownT 42 4 Leaf.enc v18 _ :: hownT 4 1 encB v13 _ :: l) rfl rfl ?_
    refine W.q rfl rfl rfl rfl (by decide) (Yd.as rfl (.t rfl)) ?_
    refine W.end ?_
    refine NX.sub (env' := [(4, _)]) ⟨rfl, trivial⟩ ?_
    refine NX.drop (l' := hownT 42 4 Leaf.enc v18 _ :: l) (.cons_cons _ (.cons _ (.refl _))) ?_
    refine NX.then ?_
    refine Tr.ret' ?_
    refine res1 rfl rfl ?_
    intro w hc
    cases hr
    exact ⟨_, rfl, hc⟩
  have hlen20 := (hl_0).2.1
  refine Tr.block ?_
  refine Tr.sub (env' := [(0, _), (3, _), (5, _), (11, _), (12, _), (13, _)]) ⟨rfl, rfl, rfl, rfl, rfl, rfl, trivial⟩ ?_
  refine Tr.loop (S := fun n (z : Int × (List Bool)) env x => match z with | (t_21, l10) => ∃ v11 : Value, env = [(0, ul_0), (3, bp b1 0), (5, v11), (11, ul_0), (12, .int .i64 ((l_0.length : Int))), (13, .int .i64 t_21)] ∧ x = ⟨m, hownT 4 1 encB v11 l10 :: hcells b1 [.int .i64 who_1.level, .int .u32 (who_1.parts.toNat : Int)] 25 :: l⟩ ∧ n = ((l_0.length : Int) - t_21).toNat ∧ 0 ≤ t_21 ∧ forK (σ := (List Bool)) (fun i s nx_ => syllogistref_View_b22 l_0 who_1 i s nx_) (fun s => syllogistref_View_k14 l_0 fuel s) n t_21 l10 = some r) _ ((0 : Int), (List.replicate ((l_0.length : Int)).toNat false)) ⟨_, rfl, rfl, rfl, (by omega), hr⟩ ?_
  rintro n24 ⟨t_21, l10⟩ env x ⟨v11, rfl, rfl, hnt_21, h0t_21, hr⟩
  cases n24 with
  | zero =>
    simp only [forK] at hr
    refine Tr.seq ?_
    refine Tr.region_f (fun _ => false) ?_
    refine W.q rfl rfl rfl rfl (by decide) (Yd.lss rfl (.t rfl) (.t rfl)) ?_
    refine W.end ?_
    refine NX.sub (env' := [(0, _), (3, _), (5, _), (11, _), (12, _), (13, _), (14, _)]) ⟨rfl, rfl, rfl, rfl, rfl, rfl, rfl, trivial⟩ ?_
    refine NX.then ?_
    refine Tr.seq ?_
    refine Tr.cond (.t rfl) (fun hb => ?_) (fun hb => ?_)
    · exact absurd (hb.symm.trans (fr_end hnt_21)) (by decide)
    ·
      refine Tr.exit' (EX.then (EX.then (EX.block ?_)))
      refine NX.sub (env' := [(0, _), (5, _)]) ⟨rfl, rfl, trivial⟩ ?_
      refine NX.drop (l' := hownT 4 1 encB v11 _ :: l) (.cons_cons _ (.cons _ (.refl _))) ?_
      exact hk15 _ _ ⟨_, _, rfl, rfl, hr⟩
  | succ n24 =>
    obtain ⟨nx23, hnx23, hr⟩ := forK_succ hr
    try dsimp only at hr
    unfold syllogistref_View_b22 at hr
    try dsimp only at hr
    have hltt_21 := fr_bnd hnt_21
    refine Tr.seq ?_
    refine Tr.region_f (fun _ => false) ?_
    refine W.q rfl rfl rfl rfl (by decide) (Yd.lss rfl (.t rfl) (.t rfl)) ?_
    refine W.end ?_
    refine NX.sub (env' := [(0, _), (3, _), (5, _), (11, _), (12, _), (13, _), (14, _)]) ⟨rfl, rfl, rfl, rfl, rfl, rfl, rfl, trivial⟩ ?_
    refine NX.then ?_
    refine Tr.seq ?_
    refine Tr.cond (.t rfl) (fun hb => ?_) (fun hb => ?_)
    rotate_left
    · exact absurd (hb.symm.trans (fr_go hnt_21)) (by decide)
    ·
      refine Tr.skip' ?_
      refine NX.then ?_
      refine Tr.seq ?_
      refine Tr.block ?_
      refine Tr.seq ?_
      obtain ⟨y25, hy26, hr⟩ := bind_some hr
      refine Tr.region_f (fun i => Nat.beq i 3 || Nat.beq i 5) ?_
      refine W.q rfl rfl rfl rfl (by decide) (Yd.mv rfl (.t rfl)) ?_
      refine W.q rfl rfl rfl rfl (by decide) (Yd.idxR hl_0 hy26 rfl Try.underlying22 SZ42 (.t rfl) (.t rfl)) ?_
      refine W.q rfl rfl rfl rfl (by decide) (Yd.ldFs (us := [_, _, _, _]) hl_0 (.refl _) hy26 rfl rfl ON42 US42 SZ42 (.t rfl)) ?_
      refine W.e rfl rfl rfl rfl (by decide) (Ef.al rfl ZR42 rfl) ?_
      rintro _ _ ⟨b27, rfl, rfl⟩
      refine ⟨.inl rfl, ?_⟩
      refine W.cast (m' := m) (l' := hcells b27 [_, _, _, _] 42 :: hownT 4 1 encB v11 _ :: hcells b1 [_, _] 25 :: l) rfl rfl ?_
      refine W.q rfl rfl rfl rfl (by decide) (Yd.as rfl (.t rfl)) ?_
      refine W.s rfl rfl rfl rfl (Ef.stB (pos := 0) (us := [_, _, _, _]) (cs' := [_, _, _, _]) rfl rfl (.t rfl) (.t rfl) SZ42 rfl rfl rfl (Nat.le_of_ble_eq_true rfl) rfl) ?_
      rintro _ _ ⟨rfl, rfl⟩
      refine ⟨.inl rfl, ?_⟩
      refine W.cast (m' := m) (l' := hcells b27 [_, _, _, _] 42 :: hownT 4 1 encB v11 _ :: hcells b1 [_, _] 25 :: l) rfl rfl ?_
      refine W.end ?_
      refine NX.sub (env' := [(0, _), (3, _), (5, _), (11, _), (12, _), (13, _), (7, _), (6, _)]) ⟨rfl, rfl, rfl, rfl, rfl, rfl, rfl, rfl, trivial⟩ ?_
      refine NX.then ?_
      obtain ⟨r29, hr30, hr⟩ := bind_some hr
      obtain ⟨y31, hy32, hr⟩ := bind_some hr
      refine Tr.region_f (fun i => Nat.beq i 7) ?_
      refine W.q rfl rfl rfl rfl (by decide) (Yd.mv rfl (.t rfl)) ?_
      refine W.q rfl rfl rfl rfl (by decide) (Yd.mv rfl (.t rfl)) ?_
      refine W.q rfl rfl rfl rfl (by decide) (Yd.fldB rfl Try.underlying42 rfl SZ25 rfl (.t rfl)) ?_
      refine W.q rfl rfl rfl rfl (by decide) (Yd.ldBs (pos := 0) (us := [_, _]) rfl rfl rfl rfl ON25 US25 SZ25 (.t rfl)) ?_
      refine W.q rfl rfl rfl rfl (by decide) (Yd.ldBs (pos := 2) (us := [_, _]) rfl rfl rfl rfl ON25 US25 SZ25 (.t rfl)) ?_
      refine W.q rfl rfl rfl rfl (by decide) (Yd.call (v := .bool r29) rfl Try.func19 rfl rfl (.cons (.t rfl) (.cons (.t rfl) .nil)) (fun x' hx w hw => syllogistref_Below_ok w0 x'.m x'.l (({ level := y25.label.level, parts := y25.label.parts } : Label)) (({ level := who_1.level, parts := who_1.parts } : Label)) _ hr30 w hw)) ?_
      refine W.q rfl rfl rfl rfl (by decide) (Yd.idxT (pos := 1) rfl hy32 rfl Try.underlying66 SZ4 (.t rfl) (.t rfl)) ?_
      refine W.s rfl rfl rfl rfl (Ef.stT (enc := encB) (n := 1) (pos := 1) (y := r29) (us := [_]) (fun _ => rfl) rfl hy32 rfl (.t rfl) (.t rfl) SZ4 rfl rfl rfl (by decide)) ?_
      rintro _ _ ⟨rfl, rfl⟩
      refine ⟨.inl rfl, ?_⟩
      refine W.cast (m' := m) (l' := hcells b27 [_, _, _, _] 42 :: hownT 4 1 encB v11 _ :: hcells b1 [_, _] 25 :: l) rfl rfl ?_
      refine W.end ?_
      refine NX.sub (env' := [(0, _), (3, _), (5, _), (11, _), (12, _), (13, _)]) ⟨rfl, rfl, rfl, rfl, rfl, rfl, trivial⟩ ?_
      refine NX.drop (l' := hownT 4 1 encB v11 _ :: hcells b1 [_, _] 25 :: l) (.cons _ (.cons_cons _ (.cons_cons _ (.refl _)))) ?_
      refine NX.block ?_
      refine NX.then ?_
      refine Tr.region_f (fun _ => false) ?_
      refine W.q rfl rfl rfl rfl (by decide) (Yd.add rfl (.t rfl) .c) ?_
      refine W.q rfl rfl rfl rfl (by decide) (Yd.mv rfl (.t rfl)) ?_
      refine W.end ?_
      refine NX.sub (env' := [(0, _), (3, _), (5, _), (11, _), (12, _), (13, _)]) ⟨rfl, rfl, rfl, rfl, rfl, rfl, trivial⟩ ?_
      refine NX.sub (env' := [(0, _), (3, _), (5, _), (11, _), (12, _), (13, _)]) ⟨rfl, rfl, rfl, rfl, rfl, rfl, trivial⟩ ?_
      have hw := w64_id (n := t_21 + 1) (by omega) (by omega)
      exact NX.again n24 (t_21 + 1, (l10.set t_21.toNat r29)) (Nat.lt_succ_self _) ⟨_, (by rw [hw] <;> rfl), rfl, (fr_dec hnt_21), (by omega), ((hnx23 _).symm.trans hr)⟩

def syllogistref_Leaves_k3 : Option (Bool) :=
  some true

def syllogistref_Leaves_b7 (a_0 : List Leaf) (b_1 : List Leaf) (i_6 : Int) (nx8 : Unit → Option (Bool)) : Option (Bool) :=
  (geti a_0 i_6).bind fun y10 =>
  (geti b_1 i_6).bind fun y12 =>
  (bif (!((y10.up == y12.up) && ((y10.text == y12.text) && (((y10.label.level == y12.label.level) && ((y10.label.parts == y12.label.parts) && true)) && true)))) then
  some false
  else
  nx8 ())

def syllogistref_Leaves (a_0 : List Leaf) (b_1 : List Leaf) : Option (Bool) :=
  (bif ((a_0.length : Int) != (b_1.length : Int)) then
  some false
  else
  forK (σ := Unit) (fun i s nx_ => syllogistref_Leaves_b7 a_0 b_1 i nx_) (fun _ => syllogistref_Leaves_k3) ((a_0.length : Int) - (0 : Int)).toNat (0 : Int) ())

set_option maxRecDepth 100000 in
set_option maxHeartbeats 4000000 in
theorem syllogistref_Leaves_ok (w0 : World) (m : Snap) (l : List HI) (ua_0 : Value) (a_0 : List Leaf) (ha_0 : RS rLeaf m ua_0 a_0) (ub_1 : Value) (b_1 : List Leaf) (hb_1 : RS rLeaf m ub_1 b_1) (r : Bool) (hr : syllogistref_Leaves a_0 b_1 = some r) (w : World) (hc : cX w0 ⟨m, l⟩ w) :
    Calls Try.prog 14 [ua_0, ub_1].toArray w fun e w' => e = .returned (.bool r) ∧ cX w0 ⟨m, l⟩ w' := by
  unfold syllogistref_Leaves at hr
  refine calls_of_Tr (N := 26) Try.func14 rfl hc rfl (Nat.le_of_ble_eq_true rfl) ?_
  refine Tr.seq ?_
  refine Tr.region_f (fun _ => false) ?_
  refine W.q rfl rfl rfl rfl (by decide) (Yd.as rfl .c) ?_
  refine W.end ?_
  refine NX.sub (env' := [(0, _), (1, _)]) ⟨rfl, rfl, trivial⟩ ?_
  refine NX.then ?_
  refine Tr.seq ?_
  refine Tr.seq ?_
  refine Tr.region_f (fun _ => false) ?_
  refine W.q rfl rfl rfl rfl (by decide) (Yd.mv rfl (.t rfl)) ?_
  refine W.q rfl rfl rfl rfl (by decide) (Yd.lenR ha_0 rfl Try.underlying22 (.t rfl)) ?_
  refine W.q rfl rfl rfl rfl (by decide) (Yd.mv rfl (.t rfl)) ?_
  refine W.q rfl rfl rfl rfl (by decide) (Yd.lenR hb_1 rfl Try.underlying22 (.t rfl)) ?_
  refine W.q rfl rfl rfl rfl (by decide) (Yd.neq rfl (.t rfl) (.t rfl)) ?_
  refine W.end ?_
  refine NX.sub (env' := [(0, _), (1, _), (10, _)]) ⟨rfl, rfl, rfl, trivial⟩ ?_
  refine NX.then ?_
  refine Tr.cond (.t rfl) (fun hb => ?_) (fun hb => ?_)
  · have hr := cond_t hb hr
    refine Tr.seq ?_
    refine Tr.region_f (fun _ => false) ?_
    refine W.q rfl rfl rfl rfl (by decide) (Yd.as rfl .c) ?_
    refine W.end ?_
    refine NX.sub (env' := [(4, _)]) ⟨rfl, trivial⟩ ?_
    refine NX.then ?_
    refine Tr.ret' (RT.then ?_)
    refine res1 rfl rfl ?_
    intro w hc
    cases hr
    exact ⟨rfl, hc⟩
  · have hr := cond_f hb hr
    refine Tr.skip' ?_
    refine NX.then ?_
    refine Tr.seq ?_
    refine Tr.seq ?_
    refine Tr.region_f (fun _ => false) ?_
    refine W.q rfl rfl rfl rfl (by decide) (Yd.as rfl .c) ?_
    refine W.end ?_
    refine NX.sub (env' := [(0, _), (1, _), (5, _)]) ⟨rfl, rfl, rfl, trivial⟩ ?_
    refine NX.then ?_
    refine Tr.join (S := fun env x => env = [] ∧ x = ⟨m, l⟩ ∧ syllogistref_Leaves_k3 = some r) ?_ (fun hk4 => ?_)
    · rintro _ _ ⟨rfl, rfl, hr⟩
      unfold syllogistref_Leaves_k3 at hr
      try dsimp only at hr
      refine NX.then ?_
      refine Tr.seq ?_
      refine Tr.region_f (fun _ => false) ?_
      refine W.q rfl rfl rfl rfl (by decide) (Yd.as rfl .c) ?_
      refine W.end ?_
      refine NX.sub (env' := [(4, _)]) ⟨rfl, trivial⟩ ?_
      refine NX.then ?_
      refine Tr.ret' ?_
      refine res1 rfl rfl ?_
      intro w hc
      cases hr
      exact ⟨rfl, hc⟩
    have hlen5 := (ha_0).2.1
    refine Tr.block ?_
    refine Tr.sub (env' := [(0, _), (1, _), (5, _)]) ⟨rfl, rfl, rfl, trivial⟩ ?_
    refine Tr.loop (S := fun n (z : Int × Unit) env x => match z with | (i_6, _) => env = [(0, ua_0), (1, ub_1), (5, .int .i64 i_6)] ∧ x = ⟨m, l⟩ ∧ n = ((a_0.length : Int) - i_6).toNat ∧ 0 ≤ i_6 ∧ forK (σ := Unit) (fun i s nx_ => syllogistref_Leaves_b7 a_0 b_1 i nx_) (fun _ => syllogistref_Leaves_k3) n i_6 () = some r) _ ((0 : Int), ()) ⟨rfl, rfl, rfl, (by omega), hr⟩ ?_
    rintro n9 ⟨i_6, _⟩ env x ⟨rfl, rfl, hni_6, h0i_6, hr⟩
    cases n9 with
    | zero =>
      simp only [forK] at hr
      refine Tr.seq ?_
      refine Tr.seq ?_
      refine Tr.region_f (fun _ => false) ?_
      refine W.q rfl rfl rfl rfl (by decide) (Yd.mv rfl (.t rfl)) ?_
      refine W.q rfl rfl rfl rfl (by decide) (Yd.mv rfl (.t rfl)) ?_
      refine W.q rfl rfl rfl rfl (by decide) (Yd.lenR ha_0 rfl Try.underlying22 (.t rfl)) ?_
      refine W.q rfl rfl rfl rfl (by decide) (Yd.lss rfl (.t rfl) (.t rfl)) ?_
      refine W.end ?_
      refine NX.sub (env' := [(0, _), (1, _), (5, _), (14, _)]) ⟨rfl, rfl, rfl, rfl, trivial⟩ ?_
      refine NX.then ?_
      refine Tr.cond (.t rfl) (fun hb => ?_) (fun hb => ?_)
      · exact absurd (hb.symm.trans (fr_end hni_6)) (by decide)
      ·
        refine Tr.exit' (EX.then (EX.then (EX.block ?_)))
        refine NX.sub (env' := []) trivial ?_
        exact hk4 _ _ ⟨rfl, rfl, hr⟩
    | succ n9 =>
      obtain ⟨nx8, hnx8, hr⟩ := forK_succ hr
      try dsimp only at hr
      unfold syllogistref_Leaves_b7 at hr
      try dsimp only at hr
      have hlti_6 := fr_bnd hni_6
      refine Tr.seq ?_
      refine Tr.seq ?_
      refine Tr.region_f (fun _ => false) ?_
      refine W.q rfl rfl rfl rfl (by decide) (Yd.mv rfl (.t rfl)) ?_
      refine W.q rfl rfl rfl rfl (by decide) (Yd.mv rfl (.t rfl)) ?_
      refine W.q rfl rfl rfl rfl (by decide) (Yd.lenR ha_0 rfl Try.underlying22 (.t rfl)) ?_
      refine W.q rfl rfl rfl rfl (by decide) (Yd.lss rfl (.t rfl) (.t rfl)) ?_
      refine W.end ?_
      refine NX.sub (env' := [(0, _), (1, _), (5, _), (14, _)]) ⟨rfl, rfl, rfl, rfl, trivial⟩ ?_
      refine NX.then ?_
      refine Tr.cond (.t rfl) (fun hb => ?_) (fun hb => ?_)
      rotate_left
      · exact absurd (hb.symm.trans (fr_go hni_6)) (by decide)
      ·
        refine Tr.skip' ?_
        refine NX.then ?_
        refine Tr.seq ?_
        refine Tr.block ?_
        refine Tr.seq ?_
        obtain ⟨y10, hy11, hr⟩ := bind_some hr
        obtain ⟨y12, hy13, hr⟩ := bind_some hr
        refine Tr.region_x (fun _ => false) (fun _ => false) (Ord.of [0, 1, 2, 3, 4, 5, 6, 7, 8]) FM (by kernel_rfl) ?_
        refine W.q rfl rfl rfl rfl (by decide) (Yd.mv rfl (.t rfl)) ?_
        refine W.q rfl rfl rfl rfl (by decide) (Yd.mv rfl (.t rfl)) ?_
        refine W.q rfl rfl rfl rfl (by decide) (Yd.idxR ha_0 hy11 rfl Try.underlying22 SZ42 (.t rfl) (.t rfl)) ?_
        refine W.q rfl rfl rfl rfl (by decide) (Yd.ldFs (us := [_, _, _, _]) ha_0 (.refl _) hy11 rfl rfl ON42 US42 SZ42 (.t rfl)) ?_
        refine W.q rfl rfl rfl rfl (by decide) (Yd.mv rfl (.t rfl)) ?_
        refine W.q rfl rfl rfl rfl (by decide) (Yd.mv rfl (.t rfl)) ?_
        refine W.q rfl rfl rfl rfl (by decide) (Yd.idxR hb_1 hy13 rfl Try.underlying22 SZ42 (.t rfl) (.t rfl)) ?_
        refine W.q rfl rfl rfl rfl (by decide) (Yd.ldFs (us := [_, _, _, _]) hb_1 (.refl _) hy13 rfl rfl ON42 US42 SZ42 (.t rfl)) ?_
        refine W.q rfl rfl rfl rfl (by decide) (Yd.neA rfl GU42 (fun w => ne_of_eq (EQ42 w y10.up y10.text y10.label.level y10.label.parts y12.up y12.text y12.label.level y12.label.parts)) (.t rfl) (.t rfl)) ?_
        refine W.end ?_
        refine NX.sub (env' := [(0, _), (1, _), (5, _), (25, _)]) ⟨rfl, rfl, rfl, rfl, trivial⟩ ?_
        refine NX.then ?_
        refine Tr.cond (.t rfl) (fun hb => ?_) (fun hb => ?_)
        · have hr := cond_t hb hr
          refine Tr.seq ?_
          refine Tr.region_f (fun _ => false) ?_
          refine W.q rfl rfl rfl rfl (by decide) (Yd.as rfl .c) ?_
          refine W.end ?_
          refine NX.sub (env' := [(4, _)]) ⟨rfl, trivial⟩ ?_
          refine NX.then ?_
          refine Tr.ret' (RT.block (RT.then (RT.then (RT.block (RT.then ?_)))))
          refine res1 rfl rfl ?_
          intro w hc
          cases hr
          exact ⟨rfl, hc⟩
        · have hr := cond_f hb hr
          refine Tr.skip' ?_
          refine NX.block ?_
          refine NX.then ?_
          refine Tr.region_f (fun _ => false) ?_
          refine W.q rfl rfl rfl rfl (by decide) (Yd.mv rfl (.t rfl)) ?_
          refine W.q rfl rfl rfl rfl (by decide) (Yd.add rfl (.t rfl) .c) ?_
          refine W.q rfl rfl rfl rfl (by decide) (Yd.as rfl (.t rfl)) ?_
          refine W.end ?_
          refine NX.sub (env' := [(0, _), (1, _), (5, _)]) ⟨rfl, rfl, rfl, trivial⟩ ?_
          refine NX.sub (env' := [(0, _), (1, _), (5, _)]) ⟨rfl, rfl, rfl, trivial⟩ ?_
          have hw := w64_id (n := i_6 + 1) (by omega) (by omega)
          exact NX.again n9 (i_6 + 1, ()) (Nat.lt_succ_self _) ⟨(by rw [hw] <;> rfl), rfl, (fr_dec hni_6), (by omega), ((hnx8 _).symm.trans hr)⟩

def syllogistlaw_PageViews (fuel : Nat) (l_0 : List Leaf) (who_1 : Label) : Option (Bool) :=
  (page_View l_0 (({ level := who_1.level, parts := who_1.parts } : Label))).bind fun r3 =>
  (syllogistlaw_pageCode l_0 (({ level := who_1.level, parts := who_1.parts } : Label))).bind fun r7 =>
  (bif (r7 != (0 : Int)) then
  some (((r3.2 == r7) && ((r3.1.length : Int) == (0 : Int))))
  else
  (bif ((r3.2 == (0 : Int)) == true) then
  (syllogistref_View fuel l_0 (({ level := who_1.level, parts := who_1.parts } : Label))).bind fun r10 =>
  (syllogistref_Leaves r3.1 r10).bind fun r14 =>
  some (((r3.2 == (0 : Int)) && r14))
  else
  some (((r3.2 == (0 : Int)) && false))))

set_option maxRecDepth 100000 in
set_option maxHeartbeats 4000000 in
theorem syllogistlaw_PageViews_ok (w0 : World) (m : Snap) (l : List HI) (fuel : Nat) (ul_0 : Value) (l_0 : List Leaf) (hl_0 : RS rLeaf m ul_0 l_0) (who_1 : Label) (r : Bool) (hr : syllogistlaw_PageViews fuel l_0 who_1 = some r) (w : World) (hc : cX w0 ⟨m, l⟩ w) :
    Calls Try.prog 3 [ul_0, .agg #[.int .i64 who_1.level, .int .u32 (who_1.parts.toNat : Int)]].toArray w fun e w' => e = .returned (.bool r) ∧ cX w0 ⟨m, l⟩ w' := by
  unfold syllogistlaw_PageViews at hr
  refine calls_of_Tr (N := 36) Try.func3 rfl hc rfl (Nat.le_of_ble_eq_true rfl) ?_
  refine Tr.seq ?_
  refine Tr.region_f (fun i => Nat.beq i 0) ?_
  refine W.e rfl rfl rfl rfl (by decide) (Ef.bx rfl (.t rfl) rfl) ?_
  rintro _ _ ⟨b1, rfl, rfl⟩
  refine ⟨.inl rfl, ?_⟩
  refine W.cast (m' := m) (l' := hcells b1 [_, _] 25 :: l) rfl rfl ?_
  refine W.q rfl rfl rfl rfl (by decide) (Yd.as rfl .c) ?_
  refine W.end ?_
  refine NX.sub (env' := [(0, _), (3, _)]) ⟨rfl, rfl, trivial⟩ ?_
  refine NX.then ?_
  refine Tr.seq ?_
  obtain ⟨r3, hr4, hr⟩ := bind_some hr
  refine Tr.region_f (fun i => Nat.beq i 2) ?_
  refine W.q rfl rfl rfl rfl (by decide) (Yd.mv rfl (.t rfl)) ?_
  refine W.q rfl rfl rfl rfl (by decide) (Yd.ldBs (pos := 0) (us := [_, _]) rfl rfl rfl rfl ON25 US25 SZ25 (.t rfl)) ?_
  refine W.e rfl rfl rfl rfl (by decide) (Ef.call (R := fun z x' => ∃ v5 : Value, z = .tuple #[v5, .int .i64 r3.2] ∧ x' = ⟨m, hownT 42 4 Leaf.enc v5 r3.1 :: hcells b1 [.int .i64 who_1.level, .int .u32 (who_1.parts.toNat : Int)] 25 :: l⟩) rfl Try.func12 rfl rfl (.cons (.t rfl) (.cons (.t rfl) .nil)) (fun w hw => (page_View_ok w0 _ _ _ _ hl_0 (({ level := who_1.level, parts := who_1.parts } : Label)) _ hr4 w hw).mono fun e w' ⟨v5, he, hc'⟩ => ⟨_, _, he, ⟨v5, rfl, rfl⟩, hc'⟩)) ?_
  rintro _ _ ⟨v5, rfl, rfl⟩
  refine ⟨.inl rfl, ?_⟩
  refine W.cast (m' := m) (l' := hownT 42 4 Leaf.enc v5 _ :: hcells b1 [_, _] 25 :: l) rfl rfl ?_
  refine W.q rfl rfl rfl rfl (by decide) (Yd.mv rfl (.t rfl)) ?_
  refine W.q rfl rfl rfl rfl (by decide) (Yd.ext rfl (.t rfl) rfl) ?_
  refine W.q rfl rfl rfl rfl (by decide) (Yd.ext rfl (.t rfl) rfl) ?_
  refine W.q rfl rfl rfl rfl (by decide) (Yd.as rfl (.t rfl)) ?_
  refine W.q rfl rfl rfl rfl (by decide) (Yd.as rfl (.t rfl)) ?_
  refine W.end ?_
  refine NX.sub (env' := [(0, _), (3, _), (5, _), (6, _)]) ⟨rfl, rfl, rfl, rfl, trivial⟩ ?_
  refine NX.then ?_
  refine Tr.seq ?_
  obtain ⟨r7, hr8, hr⟩ := bind_some hr
  refine Tr.region_f (fun _ => false) ?_
  refine W.q rfl rfl rfl rfl (by decide) (Yd.mv rfl (.t rfl)) ?_
  refine W.q rfl rfl rfl rfl (by decide) (Yd.ldBs (pos := 1) (us := [_, _]) rfl rfl rfl rfl ON25 US25 SZ25 (.t rfl)) ?_
  refine W.q rfl rfl rfl rfl (by decide) (Yd.call (v := .int .i64 r7) rfl Try.func13 rfl rfl (.cons (.t rfl) (.cons (.t rfl) .nil)) (fun x' hx w hw => syllogistlaw_pageCode_ok w0 x'.m x'.l _ _ (hl_0.mono hx.1) (({ level := who_1.level, parts := who_1.parts } : Label)) _ hr8 w hw)) ?_
  refine W.q rfl rfl rfl rfl (by decide) (Yd.as rfl (.t rfl)) ?_
  refine W.end ?_
  refine NX.sub (env' := [(0, _), (3, _), (5, _), (6, _), (7, _)]) ⟨rfl, rfl, rfl, rfl, rfl, trivial⟩ ?_
  refine NX.then ?_
  refine Tr.seq ?_
  refine Tr.seq ?_
  refine Tr.region_f (fun _ => false) ?_
  refine W.q rfl rfl rfl rfl (by decide) (Yd.mv rfl (.t rfl)) ?_
  refine W.q rfl rfl rfl rfl (by decide) (Yd.neq rfl (.t rfl) .c) ?_
  refine W.end ?_
  refine NX.sub (env' := [(0, _), (3, _), (5, _), (6, _), (7, _), (18, _)]) ⟨rfl, rfl, rfl, rfl, rfl, rfl, trivial⟩ ?_
  refine NX.then ?_
  refine Tr.cond (.t rfl) (fun hb => ?_) (fun hb => ?_)
  · have hr := cond_t hb hr
    refine Tr.seq ?_
    refine Tr.region_f (fun _ => false) ?_
    refine W.q rfl rfl rfl rfl (by decide) (Yd.mv rfl (.t rfl)) ?_
    refine W.q rfl rfl rfl rfl (by decide) (Yd.mv rfl (.t rfl)) ?_
    refine W.q rfl rfl rfl rfl (by decide) (Yd.eql rfl (.t rfl) (.t rfl)) ?_
    refine W.q rfl rfl rfl rfl (by decide) (Yd.mv rfl (.t rfl)) ?_
    refine W.g rfl rfl rfl rfl rfl (.t rfl _) rfl (by decide) (fun hG => Yd.mv rfl (.t rfl)) ?_
    refine W.g rfl rfl rfl rfl rfl (.t rfl _) rfl (by decide) (fun hG => Yd.lenO (p := 0) rfl rfl Try.underlying22 (.g rfl hG)) ?_
    refine W.g rfl rfl rfl rfl rfl (.t rfl _) rfl (by decide) (fun hG => Yd.eql rfl (.g rfl hG) .c) ?_
    refine W.q rfl rfl rfl rfl (by decide) (Yd.and rfl (.t rfl) .c rfl rfl) ?_
    refine W.q rfl rfl rfl rfl (by decide) (Yd.as rfl (.t rfl)) ?_
    refine W.end ?_
    refine NX.sub (env' := [(4, _)]) ⟨rfl, trivial⟩ ?_
    refine NX.drop (l' := l) (.cons _ (.cons _ (.refl _))) ?_
    refine NX.then ?_
    refine Tr.ret' (RT.then ?_)
    refine res1 rfl rfl ?_
    intro w hc
    cases hr
    exact ⟨rfl, hc⟩
  · have hr := cond_f hb hr
    refine Tr.skip' ?_
    refine NX.then ?_
    refine Tr.seq ?_
    refine Tr.region_f (fun i => Nat.beq i 6) ?_
    refine W.q rfl rfl rfl rfl (by decide) (Yd.mv rfl (.t rfl)) ?_
    refine W.q rfl rfl rfl rfl (by decide) (Yd.eql rfl (.t rfl) .c) ?_
    refine W.q rfl rfl rfl rfl (by decide) (Yd.mv rfl (.t rfl)) ?_
    refine W.g rfl rfl rfl rfl rfl (.t rfl _) rfl (by decide) (fun hG => Yd.mv rfl (.t rfl)) ?_
    refine W.g rfl rfl rfl rfl rfl (.t rfl _) rfl (by decide) (fun hG => Yd.mv rfl (.t rfl)) ?_
    refine W.g rfl rfl rfl rfl rfl (.t rfl _) rfl (by decide) (fun hG => Yd.ldBs (pos := 1) (us := [_, _]) rfl rfl rfl rfl ON25 US25 SZ25 (.t rfl)) ?_
    refine W.split (b := ((r3.2 == (0 : Int)) == true)) (fun hb9 => ?_) (fun hb9 => ?_)
    · have hr := cond_t hb9 hr
      obtain ⟨r10, hr11, hr⟩ := bind_some hr
      obtain ⟨r14, hr15, hr⟩ := bind_some hr
      refine W.ge rfl rfl rfl rfl rfl (.t rfl _) hb9 rfl (by decide) (Ef.call (R := fun z x' => ∃ v12 : Value, z = v12 ∧ x' = ⟨m, hownT 42 4 Leaf.enc v12 r10 :: hownT 42 4 Leaf.enc v5 r3.1 :: hcells b1 [.int .i64 who_1.level, .int .u32 (who_1.parts.toNat : Int)] 25 :: l⟩) rfl Try.func15 rfl rfl (.cons (.g rfl hb9) (.cons (.g rfl hb9) .nil)) (fun w hw => (syllogistref_View_ok w0 _ _ fuel _ _ hl_0 (({ level := who_1.level, parts := who_1.parts } : Label)) _ hr11 w hw).mono fun e w' ⟨v12, he, hc'⟩ => ⟨_, _, he, ⟨v12, rfl, rfl⟩, hc'⟩)) ?_
      rintro v12 _ ⟨_, rfl, rfl⟩
      refine ⟨.inl rfl, ?_⟩
      refine W.cast (m' := m) (l' := hownT 42 4 Leaf.enc v12 _ :: hownT 42 4 Leaf.enc v5 _ :: hcells b1 [_, _] 25 :: l) rfl rfl ?_
      refine W.g rfl rfl rfl rfl rfl (.t rfl _) rfl (by decide) (fun hG => Yd.call (v := .bool r14) rfl Try.func14 rfl rfl (.cons (.g rfl hb9) (.cons (.t rfl) .nil)) (by intro x' hx w hw; obtain ⟨p0, p1, hp0, hp1⟩ := hx.at2 (a := 1) (b := 0) rfl rfl rfl; obtain ⟨m1, hm1, hc1, ⟨L1, hl0a, hl0b'⟩, hback1⟩ := cX_lend hw hp0 lone_own; obtain ⟨m2, hm2', hc2, ⟨L2, hl1a, hl1b⟩, hback2⟩ := cX_lend hc1 hp1 lone_own; have hm2 := hm1.trans hm2'; have hl0b : ∀ q ∈ L1, m2 q.1 = some q.2 := fun q hq => hm2' _ _ (hl0b' q hq); have hL1 : RS rLeaf m2 _ _ := RS_of_own hl0a hl0b; have hL2 : RS rLeaf m2 _ _ := RS_of_own hl1a hl1b; exact (syllogistref_Leaves_ok w0 m2 _ _ _ hL1 _ _ hL2 _ hr15 w hc2).mono fun e w' ⟨he, hc'⟩ => ⟨he, (hback1 m1 _ _ w' (.refl _) hp0).2 ((hback2 m2 _ _ w' (.refl _) hp1).2 hc')⟩)) ?_
      refine W.q rfl rfl rfl rfl (by decide) (Yd.and rfl (.t rfl) .c rfl rfl) ?_
      refine W.q rfl rfl rfl rfl (by decide) (Yd.as rfl (.t rfl)) ?_
      refine W.end ?_
      refine NX.sub (env' := [(4, _)]) ⟨rfl, trivial⟩ ?_
      refine NX.drop (l' := l) (.cons _ (.cons _ (.cons _ (.refl _)))) ?_
      refine NX.then ?_
      refine Tr.ret' ?_
      refine res1 rfl rfl ?_
      intro w hc
      cases hr
      exact ⟨rfl, hc⟩
    · have hr := cond_f hb9 hr
      refine W.gF rfl rfl rfl rfl (.t rfl _) hb9 rfl (by decide) (undef) ?_
      refine W.gF rfl rfl rfl rfl (.t rfl _) hb9 rfl (by decide) (.bool false) ?_
      refine W.q rfl rfl rfl rfl (by decide) (Yd.and rfl (.t rfl) .c rfl rfl) ?_
      refine W.q rfl rfl rfl rfl (by decide) (Yd.as rfl (.t rfl)) ?_
      refine W.end ?_
      refine NX.sub (env' := [(4, _)]) ⟨rfl, trivial⟩ ?_
      refine NX.drop (l' := l) (.cons _ (.cons _ (.refl _))) ?_
      refine NX.then ?_
      refine Tr.ret' ?_
      refine res1 rfl rfl ?_
      intro w hc
      cases hr
      exact ⟨rfl, hc⟩

def place_wrong (l_0 : List Leaf) (who_1 : Label) : Option (Int) :=
  (page_Check l_0).bind fun r3 =>
  (bif (r3 != (0 : Int)) then
  some r3
  else
  (label_Check (({ level := who_1.level, parts := who_1.parts } : Label))).bind fun r5 =>
  some r5)

set_option maxRecDepth 100000 in
set_option maxHeartbeats 4000000 in
theorem place_wrong_ok (w0 : World) (m : Snap) (l : List HI) (ul_0 : Value) (l_0 : List Leaf) (hl_0 : RS rLeaf m ul_0 l_0) (who_1 : Label) (r : Int) (hr : place_wrong l_0 who_1 = some r) (w : World) (hc : cX w0 ⟨m, l⟩ w) :
    Calls Try.prog 36 [ul_0, .agg #[.int .i64 who_1.level, .int .u32 (who_1.parts.toNat : Int)]].toArray w fun e w' => e = .returned (.int .i64 r) ∧ cX w0 ⟨m, l⟩ w' := by
  unfold place_wrong at hr
  refine calls_of_Tr (N := 13) Try.func36 rfl hc rfl (Nat.le_of_ble_eq_true rfl) ?_
  refine Tr.seq ?_
  refine Tr.region_f (fun i => Nat.beq i 0) ?_
  refine W.e rfl rfl rfl rfl (by decide) (Ef.bx rfl (.t rfl) rfl) ?_
  rintro _ _ ⟨b1, rfl, rfl⟩
  refine ⟨.inl rfl, ?_⟩
  refine W.cast (m' := m) (l' := hcells b1 [_, _] 25 :: l) rfl rfl ?_
  refine W.q rfl rfl rfl rfl (by decide) (Yd.as rfl .c) ?_
  refine W.end ?_
  refine NX.sub (env' := [(0, _), (3, _)]) ⟨rfl, rfl, trivial⟩ ?_
  refine NX.then ?_
  refine Tr.seq ?_
  refine Tr.seq ?_
  obtain ⟨r3, hr4, hr⟩ := bind_some hr
  refine Tr.region_f (fun _ => false) ?_
  refine W.q rfl rfl rfl rfl (by decide) (Yd.mv rfl (.t rfl)) ?_
  refine W.q rfl rfl rfl rfl (by decide) (Yd.call (v := .int .i64 r3) rfl Try.func31 rfl rfl (.cons (.t rfl) .nil) (fun x' hx w hw => page_Check_ok w0 x'.m x'.l _ _ (hl_0.mono hx.1) _ hr4 w hw)) ?_
  refine W.q rfl rfl rfl rfl (by decide) (Yd.as rfl (.t rfl)) ?_
  refine W.end ?_
  refine NX.sub (env' := [(3, _), (5, _)]) ⟨rfl, rfl, trivial⟩ ?_
  refine NX.then ?_
  refine Tr.seq ?_
  refine Tr.region_f (fun _ => false) ?_
  refine W.q rfl rfl rfl rfl (by decide) (Yd.mv rfl (.t rfl)) ?_
  refine W.q rfl rfl rfl rfl (by decide) (Yd.neq rfl (.t rfl) .c) ?_
  refine W.end ?_
  refine NX.sub (env' := [(3, _), (5, _), (9, _)]) ⟨rfl, rfl, rfl, trivial⟩ ?_
  refine NX.then ?_
  refine Tr.cond (.t rfl) (fun hb => ?_) (fun hb => ?_)
  · have hr := cond_t hb hr
    refine Tr.seq ?_
    refine Tr.region_f (fun _ => false) ?_
    refine W.q rfl rfl rfl rfl (by decide) (Yd.mv rfl (.t rfl)) ?_
    refine W.q rfl rfl rfl rfl (by decide) (Yd.as rfl (.t rfl)) ?_
    refine W.end ?_
    refine NX.sub (env' := [(4, _)]) ⟨rfl, trivial⟩ ?_
    refine NX.drop (l' := l) (.cons _ (.refl _)) ?_
    refine NX.then ?_
    refine Tr.ret' (RT.then ?_)
    refine res1 rfl rfl ?_
    intro w hc
    cases hr
    exact ⟨rfl, hc⟩
  · have hr := cond_f hb hr
    refine Tr.skip' ?_
    refine NX.then ?_
    refine Tr.seq ?_
    obtain ⟨r5, hr6, hr⟩ := bind_some hr
    refine Tr.region_f (fun _ => false) ?_
    refine W.q rfl rfl rfl rfl (by decide) (Yd.ldBs (pos := 0) (us := [_, _]) rfl rfl rfl rfl ON25 US25 SZ25 (.t rfl)) ?_
    refine W.q rfl rfl rfl rfl (by decide) (Yd.call (v := .int .i64 r5) rfl Try.func32 rfl rfl (.cons (.t rfl) .nil) (fun x' hx w hw => label_Check_ok w0 x'.m x'.l (({ level := who_1.level, parts := who_1.parts } : Label)) _ hr6 w hw)) ?_
    refine W.q rfl rfl rfl rfl (by decide) (Yd.as rfl (.t rfl)) ?_
    refine W.end ?_
    refine NX.sub (env' := [(4, _)]) ⟨rfl, trivial⟩ ?_
    refine NX.drop (l' := l) (.cons _ (.refl _)) ?_
    refine NX.then ?_
    refine Tr.ret' ?_
    refine res1 rfl rfl ?_
    intro w hc
    cases hr
    exact ⟨rfl, hc⟩

def place_Below_k12 (l10 : List Int) : Option ((List Int)) :=
  some l10

def place_Below_b16 (l_0 : List Leaf) (who_1 : Label) (up_2 : Int) (t_15 : Int) (l8 : List Int) (nx17 : (List Int) → Option ((List Int))) : Option ((List Int)) :=
  (geti l_0 t_15).bind fun y19 =>
  bif (!((y19.up == up_2) == true) || (label_Least (({ level := y19.label.level, parts := y19.label.parts } : Label)) (({ level := who_1.level, parts := who_1.parts } : Label))).isSome) then
  (bif ((y19.up == up_2) && (((label_Least (({ level := y19.label.level, parts := y19.label.parts } : Label)) (({ level := who_1.level, parts := who_1.parts } : Label))).getD false))) then
  bif decide (l8.length + (([t_15] : List Int)).length ≤ 17592186044416) then
  nx17 (l8 ++ ([t_15] : List Int)) else none
  else
  nx17 l8) else none

def place_Below (l_0 : List Leaf) (who_1 : Label) (up_2 : Int) : Option ((List Int)) :=
  forK (σ := (List Int)) (fun i s nx_ => place_Below_b16 l_0 who_1 up_2 i s nx_) (fun s => place_Below_k12 s) ((l_0.length : Int) - (0 : Int)).toNat (0 : Int) (([] : List Int))

set_option maxRecDepth 100000 in
set_option maxHeartbeats 4000000 in
theorem place_Below_ok (w0 : World) (m : Snap) (l : List HI) (ul_0 : Value) (l_0 : List Leaf) (hl_0 : RS rLeaf m ul_0 l_0) (who_1 : Label) (up_2 : Int) (r : (List Int)) (hr : place_Below l_0 who_1 up_2 = some r) (w : World) (hc : cX w0 ⟨m, l⟩ w) :
    Calls Try.prog 39 [ul_0, .agg #[.int .i64 who_1.level, .int .u32 (who_1.parts.toNat : Int)], .int .i64 up_2].toArray w fun e w' => ∃ z0 : Value, e = .returned (z0) ∧ cX w0 ⟨m, hownT 3 1 encI z0 r :: l⟩ w' := by
  unfold place_Below at hr
  refine calls_of_Tr (N := 33) Try.func39 rfl hc rfl (Nat.le_of_ble_eq_true rfl) ?_
  refine Tr.seq ?_
  refine Tr.region_f (fun i => Nat.beq i 0) ?_
  refine W.e rfl rfl rfl rfl (by decide) (Ef.bx rfl (.t rfl) rfl) ?_
  rintro _ _ ⟨b1, rfl, rfl⟩
  refine ⟨.inl rfl, ?_⟩
  refine W.cast (m' := m) (l' := hcells b1 [_, _] 25 :: l) rfl rfl ?_
  refine W.q rfl rfl rfl rfl (by decide) (Yd.as rfl .c) ?_
  refine W.end ?_
  refine NX.sub (env' := [(0, _), (2, _), (4, _)]) ⟨rfl, rfl, rfl, trivial⟩ ?_
  refine NX.then ?_
  refine Tr.seq ?_
  refine Tr.region_f (fun _ => false) ?_
  refine W.q rfl rfl rfl rfl (by decide) (Yd.as rfl .c) ?_
  refine W.end ?_
  refine NX.sub (env' := [(0, _), (2, _), (4, _), (7, _)]) ⟨rfl, rfl, rfl, rfl, trivial⟩ ?_
  refine NX.then ?_
  refine Tr.seq ?_
  refine Tr.seq ?_
  refine Tr.region_f (fun _ => false) ?_
  refine W.q rfl rfl rfl rfl (by decide) (Yd.mv rfl (.t rfl)) ?_
  refine W.q rfl rfl rfl rfl (by decide) (Yd.lenR hl_0 rfl Try.underlying22 (.t rfl)) ?_
  refine W.q rfl rfl rfl rfl (by decide) (Yd.mv rfl .c) ?_
  refine W.end ?_
  refine NX.sub (env' := [(2, _), (4, _), (7, _), (10, _), (11, _), (12, _)]) ⟨rfl, rfl, rfl, rfl, rfl, rfl, trivial⟩ ?_
  refine NX.then ?_
  refine Tr.addnil 3 1 ?_
  refine Tr.join (S := fun env x => ∃ l10 : List Int, ∃ v11 : Value, env = [(7, v11)] ∧ x = ⟨m, hownT 3 1 encI v11 l10 :: l⟩ ∧ place_Below_k12 l10 = some r) ?_ (fun hk13 => ?_)
  · rintro _ _ ⟨l10, v11, rfl, rfl, hr⟩
    unfold place_Below_k12 at hr
    try dsimp only at hr
    refine NX.then ?_
    refine Tr.seq ?_
    refine Tr.region_f (fun _ => false) ?_
    refine W.q rfl rfl rfl rfl (by decide) (Yd.mv rfl (.t rfl)) ?_
    refine W.q rfl rfl rfl rfl (by decide) (Yd.as rfl (.t rfl)) ?_
    refine W.end ?_
    refine NX.sub (env' := [(6, _)]) ⟨rfl, trivial⟩ ?_
    refine NX.then ?_
    refine Tr.ret' ?_
    refine res1 rfl rfl ?_
    intro w hc
    cases hr
    exact ⟨_, rfl, hc⟩
  have hlen14 := (hl_0).2.1
  refine Tr.block ?_
  refine Tr.sub (env' := [(2, _), (4, _), (7, _), (10, _), (11, _), (12, _)]) ⟨rfl, rfl, rfl, rfl, rfl, rfl, trivial⟩ ?_
  refine Tr.loop (S := fun n (z : Int × (List Int)) env x => match z with | (t_15, l8) => ∃ v9 : Value, env = [(2, .int .i64 up_2), (4, bp b1 0), (7, v9), (10, ul_0), (11, .int .i64 ((l_0.length : Int))), (12, .int .i64 t_15)] ∧ x = ⟨m, hownT 3 1 encI v9 l8 :: hcells b1 [.int .i64 who_1.level, .int .u32 (who_1.parts.toNat : Int)] 25 :: l⟩ ∧ n = ((l_0.length : Int) - t_15).toNat ∧ 0 ≤ t_15 ∧ forK (σ := (List Int)) (fun i s nx_ => place_Below_b16 l_0 who_1 up_2 i s nx_) (fun s => place_Below_k12 s) n t_15 l8 = some r) _ ((0 : Int), ([] : List Int)) ⟨_, rfl, rfl, rfl, (by omega), hr⟩ ?_
  rintro n18 ⟨t_15, l8⟩ env x ⟨v9, rfl, rfl, hnt_15, h0t_15, hr⟩
  cases n18 with
  | zero =>
    simp only [forK] at hr
    refine Tr.seq ?_
    refine Tr.region_f (fun _ => false) ?_
    refine W.q rfl rfl rfl rfl (by decide) (Yd.lss rfl (.t rfl) (.t rfl)) ?_
    refine W.end ?_
    refine NX.sub (env' := [(2, _), (4, _), (7, _), (10, _), (11, _), (12, _), (13, _)]) ⟨rfl, rfl, rfl, rfl, rfl, rfl, rfl, trivial⟩ ?_
    refine NX.then ?_
    refine Tr.seq ?_
    refine Tr.cond (.t rfl) (fun hb => ?_) (fun hb => ?_)
    · exact absurd (hb.symm.trans (fr_end hnt_15)) (by decide)
    ·
      refine Tr.exit' (EX.then (EX.then (EX.block ?_)))
      refine NX.sub (env' := [(7, _)]) ⟨rfl, trivial⟩ ?_
      refine NX.drop (l' := hownT 3 1 encI v9 _ :: l) (.cons_cons _ (.cons _ (.refl _))) ?_
      exact hk13 _ _ ⟨_, _, rfl, rfl, hr⟩
  | succ n18 =>
    obtain ⟨nx17, hnx17, hr⟩ := forK_succ hr
    try dsimp only at hr
    unfold place_Below_b16 at hr
    try dsimp only at hr
    have hltt_15 := fr_bnd hnt_15
    refine Tr.seq ?_
    refine Tr.region_f (fun _ => false) ?_
    refine W.q rfl rfl rfl rfl (by decide) (Yd.lss rfl (.t rfl) (.t rfl)) ?_
    refine W.end ?_
    refine NX.sub (env' := [(2, _), (4, _), (7, _), (10, _), (11, _), (12, _), (13, _)]) ⟨rfl, rfl, rfl, rfl, rfl, rfl, rfl, trivial⟩ ?_
    refine NX.then ?_
    refine Tr.seq ?_
    refine Tr.cond (.t rfl) (fun hb => ?_) (fun hb => ?_)
    rotate_left
    · exact absurd (hb.symm.trans (fr_go hnt_15)) (by decide)
    ·
      refine Tr.skip' ?_
      refine NX.then ?_
      refine Tr.seq ?_
      refine Tr.block ?_
      refine Tr.seq ?_
      obtain ⟨y19, hy20, hr⟩ := bind_some hr
      refine Tr.region_f (fun i => Nat.beq i 3 || Nat.beq i 5) ?_
      refine W.q rfl rfl rfl rfl (by decide) (Yd.mv rfl (.t rfl)) ?_
      refine W.q rfl rfl rfl rfl (by decide) (Yd.idxR hl_0 hy20 rfl Try.underlying22 SZ42 (.t rfl) (.t rfl)) ?_
      refine W.q rfl rfl rfl rfl (by decide) (Yd.ldFs (us := [_, _, _, _]) hl_0 (.refl _) hy20 rfl rfl ON42 US42 SZ42 (.t rfl)) ?_
      refine W.e rfl rfl rfl rfl (by decide) (Ef.al rfl ZR42 rfl) ?_
      rintro _ _ ⟨b21, rfl, rfl⟩
      refine ⟨.inl rfl, ?_⟩
      refine W.cast (m' := m) (l' := hcells b21 [_, _, _, _] 42 :: hownT 3 1 encI v9 _ :: hcells b1 [_, _] 25 :: l) rfl rfl ?_
      refine W.q rfl rfl rfl rfl (by decide) (Yd.as rfl (.t rfl)) ?_
      refine W.s rfl rfl rfl rfl (Ef.stB (pos := 0) (us := [_, _, _, _]) (cs' := [_, _, _, _]) rfl rfl (.t rfl) (.t rfl) SZ42 rfl rfl rfl (Nat.le_of_ble_eq_true rfl) rfl) ?_
      rintro _ _ ⟨rfl, rfl⟩
      refine ⟨.inl rfl, ?_⟩
      refine W.cast (m' := m) (l' := hcells b21 [_, _, _, _] 42 :: hownT 3 1 encI v9 _ :: hcells b1 [_, _] 25 :: l) rfl rfl ?_
      refine W.end ?_
      refine NX.sub (env' := [(2, _), (4, _), (7, _), (10, _), (11, _), (12, _), (9, _), (8, _)]) ⟨rfl, rfl, rfl, rfl, rfl, rfl, rfl, rfl, trivial⟩ ?_
      refine NX.then ?_
      refine Tr.seq ?_
      obtain ⟨ha23, hr⟩ := guard_some hr
      refine Tr.region_f (fun _ => false) ?_
      refine W.q rfl rfl rfl rfl (by decide) (Yd.fldB rfl Try.underlying42 rfl SZ3 rfl (.t rfl)) ?_
      refine W.q rfl rfl rfl rfl (by decide) (Yd.ldB (pos := 0) rfl rfl rfl ON3 (.t rfl)) ?_
      refine W.q rfl rfl rfl rfl (by decide) (Yd.mv rfl (.t rfl)) ?_
      refine W.q rfl rfl rfl rfl (by decide) (Yd.eql rfl (.t rfl) (.t rfl)) ?_
      refine W.q rfl rfl rfl rfl (by decide) (Yd.mv rfl (.t rfl)) ?_
      refine W.g rfl rfl rfl rfl rfl (.t rfl _) rfl (by decide) (fun hG => Yd.fldB rfl Try.underlying42 rfl SZ25 rfl (.t rfl)) ?_
      refine W.g rfl rfl rfl rfl rfl (.t rfl _) rfl (by decide) (fun hG => Yd.ldBs (pos := 0) (us := [_, _]) rfl rfl rfl rfl ON25 US25 SZ25 (.g rfl hG)) ?_
      refine W.g rfl rfl rfl rfl rfl (.t rfl _) rfl (by decide) (fun hG => Yd.ldBs (pos := 2) (us := [_, _]) rfl rfl rfl rfl ON25 US25 SZ25 (.t rfl)) ?_
      refine W.g rfl rfl rfl rfl rfl (.t rfl _) rfl (by decide) (fun hG => Yd.call (v := .bool ((((label_Least (({ level := y19.label.level, parts := y19.label.parts } : Label)) (({ level := who_1.level, parts := who_1.parts } : Label))).getD false)))) rfl Try.func33 rfl rfl (.cons (.g rfl hG) (.cons (.g rfl hG) .nil)) (fun x' hx w hw => label_Least_ok w0 x'.m x'.l (({ level := y19.label.level, parts := y19.label.parts } : Label)) (({ level := who_1.level, parts := who_1.parts } : Label)) _ (gd_get (d := false) ha23 hG) w hw)) ?_
      refine W.q rfl rfl rfl rfl (by decide) (Yd.and rfl (.t rfl) .c rfl rfl) ?_
      refine W.end ?_
      refine NX.sub (env' := [(2, _), (4, _), (7, _), (10, _), (11, _), (12, _), (8, _), (26, _)]) ⟨rfl, rfl, rfl, rfl, rfl, rfl, rfl, rfl, trivial⟩ ?_
      refine NX.drop (l' := hownT 3 1 encI v9 _ :: hcells b1 [_, _] 25 :: l) (.cons _ (.cons_cons _ (.cons_cons _ (.refl _)))) ?_
      refine NX.then ?_
      refine Tr.cond (.t rfl) (fun hb => ?_) (fun hb => ?_)
      · have hr := cond_t hb hr
        obtain ⟨hq27, hr⟩ := guard_some hr; replace hq27 := of_decide_eq_true hq27
        refine Tr.region_f (fun i => Nat.beq i 2 || Nat.beq i 3) ?_
        refine W.q rfl rfl rfl rfl (by decide) (Yd.mv rfl (.t rfl)) ?_
        refine W.q rfl rfl rfl rfl (by decide) (Yd.mv rfl (.t rfl)) ?_
        refine W.e rfl rfl rfl rfl (by decide) (Ef.bsT (enc := encI) (vs := [_]) (ys := [t_15]) (fun _ => rfl) IF3 rfl Try.underlying33 (by decide) rfl (.cons (.t rfl) .nil) rfl rfl (by decide)) ?_
        rintro v24 _ rfl
        refine ⟨.inl rfl, ?_⟩
        refine W.cast (m' := m) (l' := hownT 3 1 encI v24 _ :: hownT 3 1 encI v9 _ :: hcells b1 [_, _] 25 :: l) rfl rfl ?_
        refine W.e rfl rfl rfl rfl (by decide) (Ef.apI (pos := 1) (enc := encI) (xs := l8) (ys := ([t_15] : List Int)) (fun _ => rfl) IF3 rfl rfl Try.underlying33 rfl (by decide) (.t rfl) (.t rfl) (Src.own (pos := 0) rfl) (fun _ => rfl) (by omega) (by omega)) ?_
        rintro v26 _ rfl
        refine ⟨.inl rfl, ?_⟩
        refine W.cast (m' := m) (l' := hownT 3 1 encI v24 _ :: hownT 3 1 encI v26 _ :: hcells b1 [_, _] 25 :: l) rfl rfl ?_
        refine W.q rfl rfl rfl rfl (by decide) (Yd.as rfl (.t rfl)) ?_
        refine W.end ?_
        refine NX.sub (env' := [(2, _), (4, _), (7, _), (10, _), (11, _), (12, _)]) ⟨rfl, rfl, rfl, rfl, rfl, rfl, trivial⟩ ?_
        refine NX.drop (l' := hownT 3 1 encI v26 _ :: hcells b1 [_, _] 25 :: l) (.cons _ (.cons_cons _ (.cons_cons _ (.refl _)))) ?_
        refine NX.block ?_
        refine NX.then ?_
        refine Tr.region_f (fun _ => false) ?_
        refine W.q rfl rfl rfl rfl (by decide) (Yd.add rfl (.t rfl) .c) ?_
        refine W.q rfl rfl rfl rfl (by decide) (Yd.mv rfl (.t rfl)) ?_
        refine W.end ?_
        refine NX.sub (env' := [(2, _), (4, _), (7, _), (10, _), (11, _), (12, _)]) ⟨rfl, rfl, rfl, rfl, rfl, rfl, trivial⟩ ?_
        refine NX.sub (env' := [(2, _), (4, _), (7, _), (10, _), (11, _), (12, _)]) ⟨rfl, rfl, rfl, rfl, rfl, rfl, trivial⟩ ?_
        have hw := w64_id (n := t_15 + 1) (by omega) (by omega)
        exact NX.again n18 (t_15 + 1, (l8 ++ ([t_15] : List Int))) (Nat.lt_succ_self _) ⟨_, (by rw [hw] <;> rfl), rfl, (fr_dec hnt_15), (by omega), ((hnx17 _).symm.trans hr)⟩
      · have hr := cond_f hb hr
        refine Tr.skip' ?_
        refine NX.block ?_
        refine NX.then ?_
        refine Tr.region_f (fun _ => false) ?_
        refine W.q rfl rfl rfl rfl (by decide) (Yd.add rfl (.t rfl) .c) ?_
        refine W.q rfl rfl rfl rfl (by decide) (Yd.mv rfl (.t rfl)) ?_
        refine W.end ?_
        refine NX.sub (env' := [(2, _), (4, _), (7, _), (10, _), (11, _), (12, _)]) ⟨rfl, rfl, rfl, rfl, rfl, rfl, trivial⟩ ?_
        refine NX.sub (env' := [(2, _), (4, _), (7, _), (10, _), (11, _), (12, _)]) ⟨rfl, rfl, rfl, rfl, rfl, rfl, trivial⟩ ?_
        have hw := w64_id (n := t_15 + 1) (by omega) (by omega)
        exact NX.again n18 (t_15 + 1, l8) (Nat.lt_succ_self _) ⟨_, (by rw [hw] <;> rfl), rfl, (fr_dec hnt_15), (by omega), ((hnx17 _).symm.trans hr)⟩

def place_Go_k8 (at_7 : Int) : Option (Int × Bool) :=
  some ((at_7, true))

def place_Go_b12 (l_0 : List Leaf) (who_1 : Label) (path_2 : List Int) (t_11 : Int) (at_5 : Int) (nx13 : Int → Option (Int × Bool)) : Option (Int × Bool) :=
  (geti path_2 t_11).bind fun y15 =>
  (place_Below l_0 (({ level := who_1.level, parts := who_1.parts } : Label)) at_5).bind fun r17 =>
  (bif ((decide (y15 < (0 : Int))) || (decide (y15 ≥ (r17.length : Int)))) then
  some (((0 : Int), false))
  else
  (geti r17 y15).bind fun y21 =>
  nx13 y21)

def place_Go (l_0 : List Leaf) (who_1 : Label) (path_2 : List Int) : Option (Int × Bool) :=
  forK (σ := Int) (fun i s nx_ => place_Go_b12 l_0 who_1 path_2 i s nx_) (fun s => place_Go_k8 s) ((path_2.length : Int) - (0 : Int)).toNat (0 : Int) ((-1 : Int))

set_option maxRecDepth 100000 in
set_option maxHeartbeats 4000000 in
theorem place_Go_ok (w0 : World) (m : Snap) (l : List HI) (ul_0 : Value) (l_0 : List Leaf) (hl_0 : RS rLeaf m ul_0 l_0) (who_1 : Label) (upath_2 : Value) (path_2 : List Int) (hpath_2 : RS rI m upath_2 path_2) (r : Int × Bool) (hr : place_Go l_0 who_1 path_2 = some r) (w : World) (hc : cX w0 ⟨m, l⟩ w) :
    Calls Try.prog 37 [ul_0, .agg #[.int .i64 who_1.level, .int .u32 (who_1.parts.toNat : Int)], upath_2].toArray w fun e w' => e = .returned (.tuple #[.int .i64 r.1, .bool r.2]) ∧ cX w0 ⟨m, l⟩ w' := by
  unfold place_Go at hr
  refine calls_of_Tr (N := 36) Try.func37 rfl hc rfl (Nat.le_of_ble_eq_true rfl) ?_
  refine Tr.seq ?_
  refine Tr.region_f (fun i => Nat.beq i 0) ?_
  refine W.e rfl rfl rfl rfl (by decide) (Ef.bx rfl (.t rfl) rfl) ?_
  rintro _ _ ⟨b1, rfl, rfl⟩
  refine ⟨.inl rfl, ?_⟩
  refine W.cast (m' := m) (l' := hcells b1 [_, _] 25 :: l) rfl rfl ?_
  refine W.q rfl rfl rfl rfl (by decide) (Yd.as rfl .c) ?_
  refine W.q rfl rfl rfl rfl (by decide) (Yd.as rfl .c) ?_
  refine W.end ?_
  refine NX.sub (env' := [(0, _), (2, _), (4, _)]) ⟨rfl, rfl, rfl, trivial⟩ ?_
  refine NX.then ?_
  refine Tr.seq ?_
  refine Tr.region_f (fun _ => false) ?_
  refine W.q rfl rfl rfl rfl (by decide) (Yd.as rfl .c) ?_
  refine W.end ?_
  refine NX.sub (env' := [(0, _), (2, _), (4, _), (8, _)]) ⟨rfl, rfl, rfl, rfl, trivial⟩ ?_
  refine NX.then ?_
  refine Tr.seq ?_
  refine Tr.seq ?_
  refine Tr.region_f (fun _ => false) ?_
  refine W.q rfl rfl rfl rfl (by decide) (Yd.mv rfl (.t rfl)) ?_
  refine W.q rfl rfl rfl rfl (by decide) (Yd.lenR hpath_2 rfl Try.underlying33 (.t rfl)) ?_
  refine W.q rfl rfl rfl rfl (by decide) (Yd.mv rfl .c) ?_
  refine W.end ?_
  refine NX.sub (env' := [(0, _), (4, _), (8, _), (12, _), (13, _), (14, _)]) ⟨rfl, rfl, rfl, rfl, rfl, rfl, trivial⟩ ?_
  refine NX.then ?_
  refine Tr.join (S := fun env x => ∃ at_7 : Int, env = [(8, .int .i64 at_7)] ∧ x = ⟨m, l⟩ ∧ place_Go_k8 at_7 = some r) ?_ (fun hk9 => ?_)
  · rintro _ _ ⟨at_7, rfl, rfl, hr⟩
    unfold place_Go_k8 at hr
    try dsimp only at hr
    refine NX.then ?_
    refine Tr.seq ?_
    refine Tr.region_f (fun _ => false) ?_
    refine W.q rfl rfl rfl rfl (by decide) (Yd.mv rfl (.t rfl)) ?_
    refine W.q rfl rfl rfl rfl (by decide) (Yd.as rfl (.t rfl)) ?_
    refine W.q rfl rfl rfl rfl (by decide) (Yd.as rfl .c) ?_
    refine W.end ?_
    refine NX.sub (env' := [(6, _), (7, _)]) ⟨rfl, rfl, trivial⟩ ?_
    refine NX.then ?_
    refine Tr.ret' ?_
    refine res2 rfl rfl rfl ?_
    intro w hc
    cases hr
    exact ⟨rfl, hc⟩
  have hlen10 := (hpath_2).2.1
  refine Tr.block ?_
  refine Tr.sub (env' := [(0, _), (4, _), (8, _), (12, _), (13, _), (14, _)]) ⟨rfl, rfl, rfl, rfl, rfl, rfl, trivial⟩ ?_
  refine Tr.loop (S := fun n (z : Int × Int) env x => match z with | (t_11, at_5) => env = [(0, ul_0), (4, bp b1 0), (8, .int .i64 at_5), (12, upath_2), (13, .int .i64 ((path_2.length : Int))), (14, .int .i64 t_11)] ∧ x = ⟨m, hcells b1 [.int .i64 who_1.level, .int .u32 (who_1.parts.toNat : Int)] 25 :: l⟩ ∧ n = ((path_2.length : Int) - t_11).toNat ∧ 0 ≤ t_11 ∧ forK (σ := Int) (fun i s nx_ => place_Go_b12 l_0 who_1 path_2 i s nx_) (fun s => place_Go_k8 s) n t_11 at_5 = some r) _ ((0 : Int), (-1 : Int)) ⟨rfl, rfl, rfl, (by omega), hr⟩ ?_
  rintro n14 ⟨t_11, at_5⟩ env x ⟨rfl, rfl, hnt_11, h0t_11, hr⟩
  cases n14 with
  | zero =>
    simp only [forK] at hr
    refine Tr.seq ?_
    refine Tr.region_f (fun _ => false) ?_
    refine W.q rfl rfl rfl rfl (by decide) (Yd.lss rfl (.t rfl) (.t rfl)) ?_
    refine W.end ?_
    refine NX.sub (env' := [(0, _), (4, _), (8, _), (12, _), (13, _), (14, _), (15, _)]) ⟨rfl, rfl, rfl, rfl, rfl, rfl, rfl, trivial⟩ ?_
    refine NX.then ?_
    refine Tr.seq ?_
    refine Tr.cond (.t rfl) (fun hb => ?_) (fun hb => ?_)
    · exact absurd (hb.symm.trans (fr_end hnt_11)) (by decide)
    ·
      refine Tr.exit' (EX.then (EX.then (EX.block ?_)))
      refine NX.sub (env' := [(8, _)]) ⟨rfl, trivial⟩ ?_
      refine NX.drop (l' := l) (.cons _ (.refl _)) ?_
      exact hk9 _ _ ⟨_, rfl, rfl, hr⟩
  | succ n14 =>
    obtain ⟨nx13, hnx13, hr⟩ := forK_succ hr
    try dsimp only at hr
    unfold place_Go_b12 at hr
    try dsimp only at hr
    have hltt_11 := fr_bnd hnt_11
    refine Tr.seq ?_
    refine Tr.region_f (fun _ => false) ?_
    refine W.q rfl rfl rfl rfl (by decide) (Yd.lss rfl (.t rfl) (.t rfl)) ?_
    refine W.end ?_
    refine NX.sub (env' := [(0, _), (4, _), (8, _), (12, _), (13, _), (14, _), (15, _)]) ⟨rfl, rfl, rfl, rfl, rfl, rfl, rfl, trivial⟩ ?_
    refine NX.then ?_
    refine Tr.seq ?_
    refine Tr.cond (.t rfl) (fun hb => ?_) (fun hb => ?_)
    rotate_left
    · exact absurd (hb.symm.trans (fr_go hnt_11)) (by decide)
    ·
      refine Tr.skip' ?_
      refine NX.then ?_
      refine Tr.seq ?_
      refine Tr.block ?_
      refine Tr.seq ?_
      obtain ⟨y15, hy16, hr⟩ := bind_some hr
      refine Tr.region_f (fun _ => false) ?_
      refine W.q rfl rfl rfl rfl (by decide) (Yd.idxR hpath_2 hy16 rfl Try.underlying33 SZ3 (.t rfl) (.t rfl)) ?_
      refine W.q rfl rfl rfl rfl (by decide) (Yd.ldF hpath_2 (.refl _) hy16 rfl rfl ON3 (.t rfl)) ?_
      refine W.q rfl rfl rfl rfl (by decide) (Yd.as rfl (.t rfl)) ?_
      refine W.end ?_
      refine NX.sub (env' := [(0, _), (4, _), (8, _), (12, _), (13, _), (14, _), (10, _)]) ⟨rfl, rfl, rfl, rfl, rfl, rfl, rfl, trivial⟩ ?_
      refine NX.then ?_
      refine Tr.seq ?_
      obtain ⟨r17, hr18, hr⟩ := bind_some hr
      refine Tr.region_f (fun i => Nat.beq i 3) ?_
      refine W.q rfl rfl rfl rfl (by decide) (Yd.mv rfl (.t rfl)) ?_
      refine W.q rfl rfl rfl rfl (by decide) (Yd.ldBs (pos := 0) (us := [_, _]) rfl rfl rfl rfl ON25 US25 SZ25 (.t rfl)) ?_
      refine W.q rfl rfl rfl rfl (by decide) (Yd.mv rfl (.t rfl)) ?_
      refine W.e rfl rfl rfl rfl (by decide) (Ef.call (R := fun z x' => ∃ v19 : Value, z = v19 ∧ x' = ⟨m, hownT 3 1 encI v19 r17 :: hcells b1 [.int .i64 who_1.level, .int .u32 (who_1.parts.toNat : Int)] 25 :: l⟩) rfl Try.func39 rfl rfl (.cons (.t rfl) (.cons (.t rfl) (.cons (.t rfl) .nil))) (fun w hw => (place_Below_ok w0 _ _ _ _ hl_0 (({ level := who_1.level, parts := who_1.parts } : Label)) at_5 _ hr18 w hw).mono fun e w' ⟨v19, he, hc'⟩ => ⟨_, _, he, ⟨v19, rfl, rfl⟩, hc'⟩)) ?_
      rintro v19 _ ⟨_, rfl, rfl⟩
      refine ⟨.inl rfl, ?_⟩
      refine W.cast (m' := m) (l' := hownT 3 1 encI v19 _ :: hcells b1 [_, _] 25 :: l) rfl rfl ?_
      refine W.q rfl rfl rfl rfl (by decide) (Yd.as rfl (.t rfl)) ?_
      refine W.end ?_
      refine NX.sub (env' := [(0, _), (4, _), (12, _), (13, _), (14, _), (10, _), (11, _)]) ⟨rfl, rfl, rfl, rfl, rfl, rfl, rfl, trivial⟩ ?_
      refine NX.then ?_
      refine Tr.seq ?_
      refine Tr.seq ?_
      refine Tr.region_f (fun _ => false) ?_
      refine W.q rfl rfl rfl rfl (by decide) (Yd.mv rfl (.t rfl)) ?_
      refine W.q rfl rfl rfl rfl (by decide) (Yd.lss rfl (.t rfl) .c) ?_
      refine W.q rfl rfl rfl rfl (by decide) (Yd.mv rfl (.t rfl)) ?_
      refine W.g rfl rfl rfl rfl rfl (.t rfl _) rfl (by decide) (fun hG => Yd.mv rfl (.t rfl)) ?_
      refine W.g rfl rfl rfl rfl rfl (.t rfl _) rfl (by decide) (fun hG => Yd.mv rfl (.t rfl)) ?_
      refine W.g rfl rfl rfl rfl rfl (.t rfl _) rfl (by decide) (fun hG => Yd.lenO (p := 0) rfl rfl Try.underlying33 (.g rfl hG)) ?_
      refine W.g rfl rfl rfl rfl rfl (.t rfl _) rfl (by decide) (fun hG => Yd.geq rfl (.g rfl hG) (.g rfl hG)) ?_
      refine W.q rfl rfl rfl rfl (by decide) (Yd.or rfl (.t rfl) .c rfl rfl) ?_
      refine W.end ?_
      refine NX.sub (env' := [(0, _), (4, _), (12, _), (13, _), (14, _), (10, _), (11, _), (29, _)]) ⟨rfl, rfl, rfl, rfl, rfl, rfl, rfl, rfl, trivial⟩ ?_
      refine NX.then ?_
      refine Tr.cond (.t rfl) (fun hb => ?_) (fun hb => ?_)
      · have hr := cond_t hb hr
        refine Tr.seq ?_
        refine Tr.region_f (fun _ => false) ?_
        refine W.q rfl rfl rfl rfl (by decide) (Yd.as rfl .c) ?_
        refine W.q rfl rfl rfl rfl (by decide) (Yd.as rfl .c) ?_
        refine W.end ?_
        refine NX.sub (env' := [(6, _), (7, _)]) ⟨rfl, rfl, trivial⟩ ?_
        refine NX.drop (l' := l) (.cons _ (.cons _ (.refl _))) ?_
        refine NX.then ?_
        refine Tr.ret' (RT.then (RT.block (RT.then (RT.then (RT.block (RT.then ?_))))))
        refine res2 rfl rfl rfl ?_
        intro w hc
        cases hr
        exact ⟨rfl, hc⟩
      · have hr := cond_f hb hr
        refine Tr.skip' ?_
        refine NX.then ?_
        obtain ⟨y21, hy22, hr⟩ := bind_some hr
        refine Tr.region_f (fun _ => false) ?_
        refine W.q rfl rfl rfl rfl (by decide) (Yd.mv rfl (.t rfl)) ?_
        refine W.q rfl rfl rfl rfl (by decide) (Yd.mv rfl (.t rfl)) ?_
        refine W.q rfl rfl rfl rfl (by decide) (Yd.idxT (pos := 0) rfl hy22 rfl Try.underlying33 SZ3 (.t rfl) (.t rfl)) ?_
        refine W.q rfl rfl rfl rfl (by decide) (Yd.ldT (enc := encI) (n := 1) (pos := 0) (fun _ => rfl) rfl hy22 rfl rfl ON3 (.t rfl)) ?_
        refine W.q rfl rfl rfl rfl (by decide) (Yd.as rfl (.t rfl)) ?_
        refine W.end ?_
        refine NX.sub (env' := [(0, _), (4, _), (12, _), (13, _), (14, _), (8, _)]) ⟨rfl, rfl, rfl, rfl, rfl, rfl, trivial⟩ ?_
        refine NX.drop (l' := hcells b1 [_, _] 25 :: l) (.cons _ (.cons_cons _ (.refl _))) ?_
        refine NX.block ?_
        refine NX.then ?_
        refine Tr.region_f (fun _ => false) ?_
        refine W.q rfl rfl rfl rfl (by decide) (Yd.add rfl (.t rfl) .c) ?_
        refine W.q rfl rfl rfl rfl (by decide) (Yd.mv rfl (.t rfl)) ?_
        refine W.end ?_
        refine NX.sub (env' := [(0, _), (4, _), (12, _), (13, _), (14, _), (8, _)]) ⟨rfl, rfl, rfl, rfl, rfl, rfl, trivial⟩ ?_
        refine NX.sub (env' := [(0, _), (4, _), (8, _), (12, _), (13, _), (14, _)]) ⟨rfl, rfl, rfl, rfl, rfl, rfl, trivial⟩ ?_
        have hw := w64_id (n := t_11 + 1) (by omega) (by omega)
        exact NX.again n14 (t_11 + 1, y21) (Nat.lt_succ_self _) ⟨(by rw [hw] <;> rfl), rfl, (fr_dec hnt_11), (by omega), ((hnx13 _).symm.trans hr)⟩

def place_Find (l_0 : List Leaf) (who_1 : Label) (path_2 : List Int) : Option (Int × Int) :=
  (place_wrong l_0 (({ level := who_1.level, parts := who_1.parts } : Label))).bind fun r3 =>
  (bif (r3 != (0 : Int)) then
  some (((0 : Int), r3))
  else
  (place_Go l_0 (({ level := who_1.level, parts := who_1.parts } : Label)) path_2).bind fun r5 =>
  (bif ((!r5.2) || ((path_2.length : Int) == (0 : Int))) then
  some (((0 : Int), (5 : Int)))
  else
  some ((r5.1, (0 : Int)))))

set_option maxRecDepth 100000 in
set_option maxHeartbeats 4000000 in
theorem place_Find_ok (w0 : World) (m : Snap) (l : List HI) (ul_0 : Value) (l_0 : List Leaf) (hl_0 : RS rLeaf m ul_0 l_0) (who_1 : Label) (upath_2 : Value) (path_2 : List Int) (hpath_2 : RS rI m upath_2 path_2) (r : Int × Int) (hr : place_Find l_0 who_1 path_2 = some r) (w : World) (hc : cX w0 ⟨m, l⟩ w) :
    Calls Try.prog 16 [ul_0, .agg #[.int .i64 who_1.level, .int .u32 (who_1.parts.toNat : Int)], upath_2].toArray w fun e w' => e = .returned (.tuple #[.int .i64 r.1, .int .i64 r.2]) ∧ cX w0 ⟨m, l⟩ w' := by
  unfold place_Find at hr
  refine calls_of_Tr (N := 32) Try.func16 rfl hc rfl (Nat.le_of_ble_eq_true rfl) ?_
  refine Tr.seq ?_
  refine Tr.region_f (fun i => Nat.beq i 0) ?_
  refine W.e rfl rfl rfl rfl (by decide) (Ef.bx rfl (.t rfl) rfl) ?_
  rintro _ _ ⟨b1, rfl, rfl⟩
  refine ⟨.inl rfl, ?_⟩
  refine W.cast (m' := m) (l' := hcells b1 [_, _] 25 :: l) rfl rfl ?_
  refine W.q rfl rfl rfl rfl (by decide) (Yd.as rfl .c) ?_
  refine W.q rfl rfl rfl rfl (by decide) (Yd.as rfl .c) ?_
  refine W.end ?_
  refine NX.sub (env' := [(0, _), (2, _), (4, _)]) ⟨rfl, rfl, rfl, trivial⟩ ?_
  refine NX.then ?_
  refine Tr.seq ?_
  refine Tr.seq ?_
  obtain ⟨r3, hr4, hr⟩ := bind_some hr
  refine Tr.region_f (fun _ => false) ?_
  refine W.q rfl rfl rfl rfl (by decide) (Yd.mv rfl (.t rfl)) ?_
  refine W.q rfl rfl rfl rfl (by decide) (Yd.ldBs (pos := 0) (us := [_, _]) rfl rfl rfl rfl ON25 US25 SZ25 (.t rfl)) ?_
  refine W.q rfl rfl rfl rfl (by decide) (Yd.call (v := .int .i64 r3) rfl Try.func36 rfl rfl (.cons (.t rfl) (.cons (.t rfl) .nil)) (fun x' hx w hw => place_wrong_ok w0 x'.m x'.l _ _ (hl_0.mono hx.1) (({ level := who_1.level, parts := who_1.parts } : Label)) _ hr4 w hw)) ?_
  refine W.q rfl rfl rfl rfl (by decide) (Yd.as rfl (.t rfl)) ?_
  refine W.end ?_
  refine NX.sub (env' := [(0, _), (2, _), (4, _), (8, _)]) ⟨rfl, rfl, rfl, rfl, trivial⟩ ?_
  refine NX.then ?_
  refine Tr.seq ?_
  refine Tr.region_f (fun _ => false) ?_
  refine W.q rfl rfl rfl rfl (by decide) (Yd.mv rfl (.t rfl)) ?_
  refine W.q rfl rfl rfl rfl (by decide) (Yd.neq rfl (.t rfl) .c) ?_
  refine W.end ?_
  refine NX.sub (env' := [(0, _), (2, _), (4, _), (8, _), (15, _)]) ⟨rfl, rfl, rfl, rfl, rfl, trivial⟩ ?_
  refine NX.then ?_
  refine Tr.cond (.t rfl) (fun hb => ?_) (fun hb => ?_)
  · have hr := cond_t hb hr
    refine Tr.seq ?_
    refine Tr.region_f (fun _ => false) ?_
    refine W.q rfl rfl rfl rfl (by decide) (Yd.mv rfl (.t rfl)) ?_
    refine W.q rfl rfl rfl rfl (by decide) (Yd.as rfl .c) ?_
    refine W.q rfl rfl rfl rfl (by decide) (Yd.as rfl (.t rfl)) ?_
    refine W.end ?_
    refine NX.sub (env' := [(6, _), (7, _)]) ⟨rfl, rfl, trivial⟩ ?_
    refine NX.drop (l' := l) (.cons _ (.refl _)) ?_
    refine NX.then ?_
    refine Tr.ret' (RT.then ?_)
    refine res2 rfl rfl rfl ?_
    intro w hc
    cases hr
    exact ⟨rfl, hc⟩
  · have hr := cond_f hb hr
    refine Tr.skip' ?_
    refine NX.then ?_
    refine Tr.seq ?_
    obtain ⟨r5, hr6, hr⟩ := bind_some hr
    refine Tr.region_f (fun _ => false) ?_
    refine W.q rfl rfl rfl rfl (by decide) (Yd.mv rfl (.t rfl)) ?_
    refine W.q rfl rfl rfl rfl (by decide) (Yd.ldBs (pos := 0) (us := [_, _]) rfl rfl rfl rfl ON25 US25 SZ25 (.t rfl)) ?_
    refine W.q rfl rfl rfl rfl (by decide) (Yd.mv rfl (.t rfl)) ?_
    refine W.q rfl rfl rfl rfl (by decide) (Yd.call (v := .tuple #[.int .i64 r5.1, .bool r5.2]) rfl Try.func37 rfl rfl (.cons (.t rfl) (.cons (.t rfl) (.cons (.t rfl) .nil))) (fun x' hx w hw => place_Go_ok w0 x'.m x'.l _ _ (hl_0.mono hx.1) (({ level := who_1.level, parts := who_1.parts } : Label)) _ _ (hpath_2.mono hx.1) _ hr6 w hw)) ?_
    refine W.q rfl rfl rfl rfl (by decide) (Yd.mv rfl (.t rfl)) ?_
    refine W.q rfl rfl rfl rfl (by decide) (Yd.ext rfl (.t rfl) rfl) ?_
    refine W.q rfl rfl rfl rfl (by decide) (Yd.ext rfl (.t rfl) rfl) ?_
    refine W.q rfl rfl rfl rfl (by decide) (Yd.as rfl (.t rfl)) ?_
    refine W.q rfl rfl rfl rfl (by decide) (Yd.as rfl (.t rfl)) ?_
    refine W.end ?_
    refine NX.sub (env' := [(2, _), (9, _), (10, _)]) ⟨rfl, rfl, rfl, trivial⟩ ?_
    refine NX.drop (l' := l) (.cons _ (.refl _)) ?_
    refine NX.then ?_
    refine Tr.seq ?_
    refine Tr.seq ?_
    refine Tr.region_f (fun _ => false) ?_
    refine W.q rfl rfl rfl rfl (by decide) (Yd.mv rfl (.t rfl)) ?_
    refine W.q rfl rfl rfl rfl (by decide) (Yd.not rfl (.t rfl)) ?_
    refine W.q rfl rfl rfl rfl (by decide) (Yd.mv rfl (.t rfl)) ?_
    refine W.g rfl rfl rfl rfl rfl (.t rfl _) rfl (by decide) (fun hG => Yd.mv rfl (.t rfl)) ?_
    refine W.g rfl rfl rfl rfl rfl (.t rfl _) rfl (by decide) (fun hG => Yd.lenR hpath_2 rfl Try.underlying33 (.g rfl hG)) ?_
    refine W.g rfl rfl rfl rfl rfl (.t rfl _) rfl (by decide) (fun hG => Yd.eql rfl (.g rfl hG) .c) ?_
    refine W.q rfl rfl rfl rfl (by decide) (Yd.or rfl (.t rfl) .c rfl rfl) ?_
    refine W.end ?_
    refine NX.sub (env' := [(9, _), (30, _)]) ⟨rfl, rfl, trivial⟩ ?_
    refine NX.then ?_
    refine Tr.cond (.t rfl) (fun hb => ?_) (fun hb => ?_)
    · have hr := cond_t hb hr
      refine Tr.seq ?_
      refine Tr.region_f (fun _ => false) ?_
      refine W.q rfl rfl rfl rfl (by decide) (Yd.as rfl .c) ?_
      refine W.q rfl rfl rfl rfl (by decide) (Yd.as rfl .c) ?_
      refine W.end ?_
      refine NX.sub (env' := [(6, _), (7, _)]) ⟨rfl, rfl, trivial⟩ ?_
      refine NX.then ?_
      refine Tr.ret' (RT.then ?_)
      refine res2 rfl rfl rfl ?_
      intro w hc
      cases hr
      exact ⟨rfl, hc⟩
    · have hr := cond_f hb hr
      refine Tr.skip' ?_
      refine NX.then ?_
      refine Tr.seq ?_
      refine Tr.region_f (fun _ => false) ?_
      refine W.q rfl rfl rfl rfl (by decide) (Yd.mv rfl (.t rfl)) ?_
      refine W.q rfl rfl rfl rfl (by decide) (Yd.as rfl (.t rfl)) ?_
      refine W.q rfl rfl rfl rfl (by decide) (Yd.as rfl .c) ?_
      refine W.end ?_
      refine NX.sub (env' := [(6, _), (7, _)]) ⟨rfl, rfl, trivial⟩ ?_
      refine NX.then ?_
      refine Tr.ret' ?_
      refine res2 rfl rfl rfl ?_
      intro w hc
      cases hr
      exact ⟨rfl, hc⟩

def syllogistref_PathOf_k8 (l_0 : List Leaf) (who_1 : Label) (k_2 : Int) (slf : ((List Leaf) → Label → Int → Option ((List Int)))) (n_7 : Int) : Option ((List Int)) :=
  (geti l_0 k_2).bind fun y220 =>
  (slf l_0 (({ level := who_1.level, parts := who_1.parts } : Label)) y220.up).bind fun r340 =>
  bif decide (r340.length + (([n_7] : List Int)).length ≤ 17592186044416) then
  some ((r340 ++ ([n_7] : List Int))) else none

def syllogistref_PathOf_b562 (l_0 : List Leaf) (who_1 : Label) (k_2 : Int) (i_561 : Int) (n_5 : Int) (nx563 : Int → Option ((List Int))) : Option ((List Int)) :=
  (geti l_0 i_561).bind fun y565 =>
  (geti l_0 k_2).bind fun y567 =>
  bif (!((y565.up == y567.up) == true) || (syllogistref_Below y565.label (({ level := who_1.level, parts := who_1.parts } : Label))).isSome) then
  (bif ((y565.up == y567.up) && (((syllogistref_Below y565.label (({ level := who_1.level, parts := who_1.parts } : Label))).getD false))) then
  nx563 (w64 (n_5 + (1 : Int)))
  else
  nx563 n_5) else none

def syllogistref_PathOf_s (slf : ((List Leaf) → Label → Int → Option ((List Int)))) (l_0 : List Leaf) (who_1 : Label) (k_2 : Int) : Option ((List Int)) :=
  (bif (decide (k_2 < (0 : Int))) then
  some ([])
  else
  bif decide (k_2 ≤ 9223372036854775807) then
  forK (σ := Int) (fun i s nx_ => syllogistref_PathOf_b562 l_0 who_1 k_2 i s nx_) (fun s => syllogistref_PathOf_k8 l_0 who_1 k_2 slf s) (k_2 - (0 : Int)).toNat (0 : Int) ((0 : Int)) else none)

def syllogistref_PathOf (fuel : Nat) (l_0 : List Leaf) (who_1 : Label) (k_2 : Int) : Option ((List Int)) :=
  match fuel with
  | 0 => none
  | fuel + 1 => syllogistref_PathOf_s (syllogistref_PathOf fuel) l_0 who_1 k_2

set_option maxRecDepth 100000 in
set_option maxHeartbeats 4000000 in
theorem syllogistref_PathOf_ok (w0 : World) (m : Snap) (l : List HI) (fuel : Nat) : ∀ (ul_0 : Value) (l_0 : List Leaf) (hl_0 : RS rLeaf m ul_0 l_0) (who_1 : Label) (k_2 : Int) (r : (List Int)) (_ : syllogistref_PathOf fuel l_0 who_1 k_2 = some r) (w : World) (_ : cX w0 ⟨m, l⟩ w),
    Calls Try.prog 21 [ul_0, .agg #[.int .i64 who_1.level, .int .u32 (who_1.parts.toNat : Int)], .int .i64 k_2].toArray w fun e w' => ∃ z0 : Value, e = .returned (z0) ∧ cX w0 ⟨m, hownT 3 1 encI z0 r :: l⟩ w' := by
  induction fuel generalizing m l with
  | zero => intro ul_0 l_0 hl_0 who_1 k_2 r hr; simp [syllogistref_PathOf] at hr
  | succ fuel ih =>
  intro ul_0 l_0 hl_0 who_1 k_2 r hr w hc
  replace hr : syllogistref_PathOf_s (syllogistref_PathOf fuel) l_0 who_1 k_2 = some r := hr
  obtain ⟨slf, hslf⟩ : ∃ f, f = syllogistref_PathOf fuel := ⟨_, rfl⟩
  rw [← hslf] at hr ih
  unfold syllogistref_PathOf_s at hr
  refine calls_of_Tr (N := 49) Try.func21 rfl hc rfl (Nat.le_of_ble_eq_true rfl) ?_
  refine Tr.seq ?_
  refine Tr.region_f (fun i => Nat.beq i 0) ?_
  refine W.e rfl rfl rfl rfl (by decide) (Ef.bx rfl (.t rfl) rfl) ?_
  rintro _ _ ⟨b1, rfl, rfl⟩
  refine ⟨.inl rfl, ?_⟩
  refine W.cast (m' := m) (l' := hcells b1 [_, _] 25 :: l) rfl rfl ?_
  refine W.q rfl rfl rfl rfl (by decide) (Yd.as rfl .c) ?_
  refine W.end ?_
  refine NX.sub (env' := [(0, _), (2, _), (4, _)]) ⟨rfl, rfl, rfl, trivial⟩ ?_
  refine NX.then ?_
  refine Tr.seq ?_
  refine Tr.seq ?_
  refine Tr.region_f (fun _ => false) ?_
  refine W.q rfl rfl rfl rfl (by decide) (Yd.mv rfl (.t rfl)) ?_
  refine W.q rfl rfl rfl rfl (by decide) (Yd.lss rfl (.t rfl) .c) ?_
  refine W.end ?_
  refine NX.sub (env' := [(0, _), (2, _), (4, _), (10, _)]) ⟨rfl, rfl, rfl, rfl, trivial⟩ ?_
  refine NX.then ?_
  refine Tr.cond (.t rfl) (fun hb => ?_) (fun hb => ?_)
  · have hr := cond_t hb hr
    refine Tr.seq ?_
    refine Tr.region_f (fun _ => false) ?_
    refine W.q rfl rfl rfl rfl (by decide) (Yd.as rfl .c) ?_
    refine W.end ?_
    refine NX.sub (env' := [(6, _)]) ⟨rfl, trivial⟩ ?_
    refine NX.drop (l' := l) (.cons _ (.refl _)) ?_
    refine NX.then ?_
    refine Tr.ret' (RT.then ?_)
    refine res1 rfl rfl ?_
    intro w hc
    cases hr
    exact ⟨_, rfl, (cX_nil hc)⟩
  · have hr := cond_f hb hr
    refine Tr.skip' ?_
    refine NX.then ?_
    refine Tr.seq ?_
    refine Tr.region_f (fun _ => false) ?_
    refine W.q rfl rfl rfl rfl (by decide) (Yd.as rfl .c) ?_
    refine W.end ?_
    refine NX.sub (env' := [(0, _), (2, _), (4, _), (7, _)]) ⟨rfl, rfl, rfl, rfl, trivial⟩ ?_
    refine NX.then ?_
    refine Tr.seq ?_
    refine Tr.seq ?_
    refine Tr.region_f (fun _ => false) ?_
    refine W.q rfl rfl rfl rfl (by decide) (Yd.as rfl .c) ?_
    refine W.end ?_
    refine NX.sub (env' := [(0, _), (2, _), (4, _), (7, _), (8, _)]) ⟨rfl, rfl, rfl, rfl, rfl, trivial⟩ ?_
    refine NX.then ?_
    refine Tr.join (S := fun env x => ∃ n_7 : Int, env = [(0, ul_0), (2, .int .i64 k_2), (4, bp b1 0), (7, .int .i64 n_7)] ∧ x = ⟨m, hcells b1 [.int .i64 who_1.level, .int .u32 (who_1.parts.toNat : Int)] 25 :: l⟩ ∧ syllogistref_PathOf_k8 l_0 who_1 k_2 slf n_7 = some r) ?_ (fun hk9 => ?_)
    · rintro _ _ ⟨n_7, rfl, rfl, hr⟩
      unfold syllogistref_PathOf_k8 at hr
      try dsimp only at hr
      refine NX.then ?_
      refine Tr.seq ?_
      refine Tr.join (S := fun env x => ∃ r340 : (List Int), ∃ v460 : Value, env = [(6, v460)] ∧ x = ⟨m, hownT 3 1 encI v460 ((r340 ++ ([n_7] : List Int))) :: l⟩ ∧ (some ((r340 ++ ([n_7] : List Int)))) = some r) ?_ (fun hk500 => ?_)
      · rintro _ _ ⟨r340, v460, rfl, rfl, hr⟩
        refine NX.then ?_
        refine Tr.ret' ?_
        refine res1 rfl rfl ?_
        intro w hc
        cases hr
        exact ⟨_, rfl, hc⟩
      obtain ⟨y220, hy221, hr⟩ := bind_some hr
      obtain ⟨r340, hr341, hr⟩ := bind_some hr
      obtain ⟨hq461, hr⟩ := guard_some hr; replace hq461 := of_decide_eq_true hq461
      refine Tr.region_x (fun i => Nat.beq i 7 || Nat.beq i 9 || Nat.beq i 10) (fun i => Nat.beq i 10) (.one 0 (.one 1 (.one 2 (.one 3 (.one 4 (.one 5 (.one 6 (.one 8 (.two 7 9 (Ord.of [9, 10, 11]) (Ord.of [7, 10, 11])))))))))) FM (by kernel_rfl) ?_
      refine W.q rfl rfl rfl rfl (by decide) (Yd.mv rfl (.t rfl)) ?_
      refine W.q rfl rfl rfl rfl (by decide) (Yd.ldBs (pos := 0) (us := [_, _]) rfl rfl rfl rfl ON25 US25 SZ25 (.t rfl)) ?_
      refine W.q rfl rfl rfl rfl (by decide) (Yd.mv rfl (.t rfl)) ?_
      refine W.q rfl rfl rfl rfl (by decide) (Yd.mv rfl (.t rfl)) ?_
      refine W.q rfl rfl rfl rfl (by decide) (Yd.idxR hl_0 hy221 rfl Try.underlying22 SZ42 (.t rfl) (.t rfl)) ?_
      refine W.q rfl rfl rfl rfl (by decide) (Yd.fldA rfl Try.underlying42 rfl SZ3 rfl (adr_head hl_0 hy221) (.t rfl)) ?_
      refine W.q rfl rfl rfl rfl (by decide) (Yd.ldFf hl_0 (.refl _) hy221 rfl rfl ON3 (.t rfl)) ?_
      refine W.q rfl rfl rfl rfl (by decide) (Yd.mv rfl (.t rfl)) ?_
      refine W.two ?_ ?_
      ·
        refine W.e rfl rfl rfl rfl (by decide) (Ef.call (R := fun z x' => ∃ v340 : Value, z = v340 ∧ x' = ⟨m, hownT 3 1 encI v340 r340 :: hcells b1 [.int .i64 who_1.level, .int .u32 (who_1.parts.toNat : Int)] 25 :: l⟩) rfl Try.func21 rfl rfl (.cons (.t rfl) (.cons (.t rfl) (.cons (.t rfl) .nil))) (fun w hw => (ih _ _ _ _ hl_0 (({ level := who_1.level, parts := who_1.parts } : Label)) y220.up _ hr341 w hw).mono fun e w' ⟨v340, he, hc'⟩ => ⟨_, _, he, ⟨v340, rfl, rfl⟩, hc'⟩)) ?_
        rintro v340 _ ⟨_, rfl, rfl⟩
        refine ⟨.inr ⟨.refl _, [_], rfl⟩, ?_⟩
        refine W.cast (m' := m) (l' := hownT 3 1 encI v340 _ :: hcells b1 [_, _] 25 :: l) rfl rfl ?_
        refine W.e rfl rfl rfl rfl (by decide) (Ef.bsT (enc := encI) (vs := [_]) (ys := [n_7]) (fun _ => rfl) IF3 rfl Try.underlying33 (by decide) rfl (.cons (.t rfl) .nil) rfl rfl (by decide)) ?_
        rintro v420 _ rfl
        refine ⟨.inr ⟨.refl _, [_], rfl⟩, ?_⟩
        refine W.cast (m' := m) (l' := hownT 3 1 encI v420 _ :: hownT 3 1 encI v340 _ :: hcells b1 [_, _] 25 :: l) rfl rfl ?_
        refine W.e rfl rfl rfl rfl (by decide) (Ef.apI (pos := 1) (enc := encI) (xs := r340) (ys := ([n_7] : List Int)) (fun _ => rfl) IF3 rfl rfl Try.underlying33 rfl (by decide) (.t rfl) (.t rfl) (Src.own (pos := 0) rfl) (fun _ => rfl) (by omega) (by omega)) ?_
        rintro v460 _ rfl
        refine ⟨.inl rfl, ?_⟩
        refine W.cast (m' := m) (l' := hownT 3 1 encI v420 _ :: hownT 3 1 encI v460 _ :: hcells b1 [_, _] 25 :: l) rfl rfl ?_
        refine W.q rfl rfl rfl rfl (by decide) (Yd.as rfl (.t rfl)) ?_
        refine W.end ?_
        refine NX.sub (env' := [(6, _)]) ⟨rfl, trivial⟩ ?_
        refine NX.drop (l' := hownT 3 1 encI v460 _ :: l) (.cons _ (.cons_cons _ (.cons _ (.refl _)))) ?_
        exact hk500 _ _ ⟨_, _, rfl, rfl, hr⟩
      ·
        refine W.e rfl rfl rfl rfl (by decide) (Ef.bsT (enc := encI) (vs := [_]) (ys := [n_7]) (fun _ => rfl) IF3 rfl Try.underlying33 (by decide) rfl (.cons (.t rfl) .nil) rfl rfl (by decide)) ?_
        rintro v420 _ rfl
        refine ⟨.inr ⟨.refl _, [_], rfl⟩, ?_⟩
        refine W.cast (m' := m) (l' := hownT 3 1 encI v420 _ :: hcells b1 [_, _] 25 :: l) rfl rfl ?_
        refine W.e rfl rfl rfl rfl (by decide) (Ef.call (R := fun z x' => ∃ v340 : Value, z = v340 ∧ x' = ⟨m, hownT 3 1 encI v340 r340 :: hownT 3 1 encI v420 (([n_7] : List Int)) :: hcells b1 [.int .i64 who_1.level, .int .u32 (who_1.parts.toNat : Int)] 25 :: l⟩) rfl Try.func21 rfl rfl (.cons (.t rfl) (.cons (.t rfl) (.cons (.t rfl) .nil))) (fun w hw => (ih _ _ _ _ hl_0 (({ level := who_1.level, parts := who_1.parts } : Label)) y220.up _ hr341 w hw).mono fun e w' ⟨v340, he, hc'⟩ => ⟨_, _, he, ⟨v340, rfl, rfl⟩, hc'⟩)) ?_
        rintro v340 _ ⟨_, rfl, rfl⟩
        refine ⟨.inr ⟨.refl _, [_], rfl⟩, ?_⟩
        refine W.cast (m' := m) (l' := hownT 3 1 encI v340 _ :: hownT 3 1 encI v420 _ :: hcells b1 [_, _] 25 :: l) rfl rfl ?_
        refine W.e rfl rfl rfl rfl (by decide) (Ef.apI (pos := 0) (enc := encI) (xs := r340) (ys := ([n_7] : List Int)) (fun _ => rfl) IF3 rfl rfl Try.underlying33 rfl (by decide) (.t rfl) (.t rfl) (Src.own (pos := 1) rfl) (fun _ => rfl) (by omega) (by omega)) ?_
        rintro v460 _ rfl
        refine ⟨.inl rfl, ?_⟩
        refine W.cast (m' := m) (l' := hownT 3 1 encI v460 _ :: hownT 3 1 encI v420 _ :: hcells b1 [_, _] 25 :: l) rfl rfl ?_
        refine W.q rfl rfl rfl rfl (by decide) (Yd.as rfl (.t rfl)) ?_
        refine W.end ?_
        refine NX.imp (fun w hw => cX_front (p := 2) hw rfl) ?_
        refine NX.imp (fun w hw => cX_front (p := 1) hw rfl) ?_
        refine NX.imp (fun w hw => cX_front (p := 2) hw rfl) ?_
        refine NX.cast (m' := m) (l' := hownT 3 1 encI v420 _ :: hownT 3 1 encI v460 _ :: hcells b1 [_, _] 25 :: l) rfl rfl ?_
        refine NX.sub (env' := [(6, _)]) ⟨rfl, trivial⟩ ?_
        refine NX.drop (l' := hownT 3 1 encI v460 _ :: l) (.cons _ (.cons_cons _ (.cons _ (.refl _)))) ?_
        exact hk500 _ _ ⟨_, _, rfl, rfl, hr⟩
    obtain ⟨hle560, hr⟩ := guard_some hr; replace hle560 := of_decide_eq_true hle560
    refine Tr.block ?_
    refine Tr.sub (env' := [(0, _), (2, _), (4, _), (7, _), (8, _)]) ⟨rfl, rfl, rfl, rfl, rfl, trivial⟩ ?_
    refine Tr.loop (S := fun n (z : Int × Int) env x => match z with | (i_561, n_5) => env = [(0, ul_0), (2, .int .i64 k_2), (4, bp b1 0), (7, .int .i64 n_5), (8, .int .i64 i_561)] ∧ x = ⟨m, hcells b1 [.int .i64 who_1.level, .int .u32 (who_1.parts.toNat : Int)] 25 :: l⟩ ∧ n = (k_2 - i_561).toNat ∧ 0 ≤ i_561 ∧ forK (σ := Int) (fun i s nx_ => syllogistref_PathOf_b562 l_0 who_1 k_2 i s nx_) (fun s => syllogistref_PathOf_k8 l_0 who_1 k_2 slf s) n i_561 n_5 = some r) _ ((0 : Int), (0 : Int)) ⟨rfl, rfl, rfl, (by omega), hr⟩ ?_
    rintro n564 ⟨i_561, n_5⟩ env x ⟨rfl, rfl, hni_561, h0i_561, hr⟩
    cases n564 with
    | zero =>
      simp only [forK] at hr
      refine Tr.seq ?_
      refine Tr.seq ?_
      refine Tr.region_f (fun _ => false) ?_
      refine W.q rfl rfl rfl rfl (by decide) (Yd.mv rfl (.t rfl)) ?_
      refine W.q rfl rfl rfl rfl (by decide) (Yd.mv rfl (.t rfl)) ?_
      refine W.q rfl rfl rfl rfl (by decide) (Yd.lss rfl (.t rfl) (.t rfl)) ?_
      refine W.end ?_
      refine NX.sub (env' := [(0, _), (2, _), (4, _), (7, _), (8, _), (13, _)]) ⟨rfl, rfl, rfl, rfl, rfl, rfl, trivial⟩ ?_
      refine NX.then ?_
      refine Tr.cond (.t rfl) (fun hb => ?_) (fun hb => ?_)
      · exact absurd (hb.symm.trans (fr_end hni_561)) (by decide)
      ·
        refine Tr.exit' (EX.then (EX.then (EX.block ?_)))
        refine NX.sub (env' := [(0, _), (2, _), (4, _), (7, _)]) ⟨rfl, rfl, rfl, rfl, trivial⟩ ?_
        exact hk9 _ _ ⟨_, rfl, rfl, hr⟩
    | succ n564 =>
      obtain ⟨nx563, hnx563, hr⟩ := forK_succ hr
      try dsimp only at hr
      unfold syllogistref_PathOf_b562 at hr
      try dsimp only at hr
      have hlti_561 := fr_bnd hni_561
      refine Tr.seq ?_
      refine Tr.seq ?_
      refine Tr.region_f (fun _ => false) ?_
      refine W.q rfl rfl rfl rfl (by decide) (Yd.mv rfl (.t rfl)) ?_
      refine W.q rfl rfl rfl rfl (by decide) (Yd.mv rfl (.t rfl)) ?_
      refine W.q rfl rfl rfl rfl (by decide) (Yd.lss rfl (.t rfl) (.t rfl)) ?_
      refine W.end ?_
      refine NX.sub (env' := [(0, _), (2, _), (4, _), (7, _), (8, _), (13, _)]) ⟨rfl, rfl, rfl, rfl, rfl, rfl, trivial⟩ ?_
      refine NX.then ?_
      refine Tr.cond (.t rfl) (fun hb => ?_) (fun hb => ?_)
      rotate_left
      · exact absurd (hb.symm.trans (fr_go hni_561)) (by decide)
      ·
        refine Tr.skip' ?_
        refine NX.then ?_
        refine Tr.seq ?_
        refine Tr.block ?_
        refine Tr.seq ?_
        obtain ⟨y565, hy566, hr⟩ := bind_some hr
        obtain ⟨y567, hy568, hr⟩ := bind_some hr
        obtain ⟨ha569, hr⟩ := guard_some hr
        refine Tr.region_x (fun _ => false) (fun _ => false) (Ord.of [0, 1, 2, 3, 4, 5, 6, 7, 8, 9, 10, 11, 12, 13, 14, 15, 16, 17, 18, 19]) FM (by kernel_rfl) ?_
        refine W.q rfl rfl rfl rfl (by decide) (Yd.mv rfl (.t rfl)) ?_
        refine W.q rfl rfl rfl rfl (by decide) (Yd.mv rfl (.t rfl)) ?_
        refine W.q rfl rfl rfl rfl (by decide) (Yd.idxR hl_0 hy566 rfl Try.underlying22 SZ42 (.t rfl) (.t rfl)) ?_
        refine W.q rfl rfl rfl rfl (by decide) (Yd.fldA rfl Try.underlying42 rfl SZ3 rfl (adr_head hl_0 hy566) (.t rfl)) ?_
        refine W.q rfl rfl rfl rfl (by decide) (Yd.ldFf hl_0 (.refl _) hy566 rfl rfl ON3 (.t rfl)) ?_
        refine W.q rfl rfl rfl rfl (by decide) (Yd.mv rfl (.t rfl)) ?_
        refine W.q rfl rfl rfl rfl (by decide) (Yd.mv rfl (.t rfl)) ?_
        refine W.q rfl rfl rfl rfl (by decide) (Yd.idxR hl_0 hy568 rfl Try.underlying22 SZ42 (.t rfl) (.t rfl)) ?_
        refine W.q rfl rfl rfl rfl (by decide) (Yd.fldA rfl Try.underlying42 rfl SZ3 rfl (adr_head hl_0 hy568) (.t rfl)) ?_
        refine W.q rfl rfl rfl rfl (by decide) (Yd.ldFf hl_0 (.refl _) hy568 rfl rfl ON3 (.t rfl)) ?_
        refine W.q rfl rfl rfl rfl (by decide) (Yd.eql rfl (.t rfl) (.t rfl)) ?_
        refine W.q rfl rfl rfl rfl (by decide) (Yd.mv rfl (.t rfl)) ?_
        refine W.g rfl rfl rfl rfl rfl (.t rfl _) rfl (by decide) (fun hG => Yd.mv rfl (.t rfl)) ?_
        refine W.g rfl rfl rfl rfl rfl (.t rfl _) rfl (by decide) (fun hG => Yd.mv rfl (.t rfl)) ?_
        refine W.g rfl rfl rfl rfl rfl (.t rfl _) rfl (by decide) (fun hG => Yd.idxR hl_0 hy566 rfl Try.underlying22 SZ42 (.g rfl hG) (.g rfl hG)) ?_
        refine W.g rfl rfl rfl rfl rfl (.t rfl _) rfl (by decide) (fun hG => Yd.fldA rfl Try.underlying42 rfl SZ25 rfl (adr_head hl_0 hy566) (.g rfl hG)) ?_
        refine W.g rfl rfl rfl rfl rfl (.t rfl _) rfl (by decide) (fun hG => Yd.ldFp (us := [_, _]) hl_0 (.refl _) hy566 rfl rfl rfl ON25 US25 SZ25 (.g rfl hG)) ?_
        refine W.g rfl rfl rfl rfl rfl (.t rfl _) rfl (by decide) (fun hG => Yd.ldBs (pos := 0) (us := [_, _]) rfl rfl rfl rfl ON25 US25 SZ25 (.t rfl)) ?_
        refine W.g rfl rfl rfl rfl rfl (.t rfl _) rfl (by decide) (fun hG => Yd.call (v := .bool ((((syllogistref_Below y565.label (({ level := who_1.level, parts := who_1.parts } : Label))).getD false)))) rfl Try.func19 rfl rfl (.cons (.g rfl hG) (.cons (.g rfl hG) .nil)) (fun x' hx w hw => syllogistref_Below_ok w0 x'.m x'.l y565.label (({ level := who_1.level, parts := who_1.parts } : Label)) _ (gd_get (d := false) ha569 hG) w hw)) ?_
        refine W.q rfl rfl rfl rfl (by decide) (Yd.and rfl (.t rfl) .c rfl rfl) ?_
        refine W.end ?_
        refine NX.sub (env' := [(0, _), (2, _), (4, _), (7, _), (8, _), (35, _)]) ⟨rfl, rfl, rfl, rfl, rfl, rfl, trivial⟩ ?_
        refine NX.then ?_
        refine Tr.cond (.t rfl) (fun hb => ?_) (fun hb => ?_)
        · have hr := cond_t hb hr
          refine Tr.region_f (fun _ => false) ?_
          refine W.q rfl rfl rfl rfl (by decide) (Yd.mv rfl (.t rfl)) ?_
          refine W.q rfl rfl rfl rfl (by decide) (Yd.add rfl (.t rfl) .c) ?_
          refine W.q rfl rfl rfl rfl (by decide) (Yd.as rfl (.t rfl)) ?_
          refine W.end ?_
          refine NX.sub (env' := [(0, _), (2, _), (4, _), (7, _), (8, _)]) ⟨rfl, rfl, rfl, rfl, rfl, trivial⟩ ?_
          refine NX.block ?_
          refine NX.then ?_
          refine Tr.region_f (fun _ => false) ?_
          refine W.q rfl rfl rfl rfl (by decide) (Yd.mv rfl (.t rfl)) ?_
          refine W.q rfl rfl rfl rfl (by decide) (Yd.add rfl (.t rfl) .c) ?_
          refine W.q rfl rfl rfl rfl (by decide) (Yd.as rfl (.t rfl)) ?_
          refine W.end ?_
          refine NX.sub (env' := [(0, _), (2, _), (4, _), (7, _), (8, _)]) ⟨rfl, rfl, rfl, rfl, rfl, trivial⟩ ?_
          refine NX.sub (env' := [(0, _), (2, _), (4, _), (7, _), (8, _)]) ⟨rfl, rfl, rfl, rfl, rfl, trivial⟩ ?_
          have hw := w64_id (n := i_561 + 1) (by omega) (by omega)
          exact NX.again n564 (i_561 + 1, (w64 (n_5 + (1 : Int)))) (Nat.lt_succ_self _) ⟨(by rw [hw] <;> rfl), rfl, (fr_dec hni_561), (by omega), ((hnx563 _).symm.trans hr)⟩
        · have hr := cond_f hb hr
          refine Tr.skip' ?_
          refine NX.block ?_
          refine NX.then ?_
          refine Tr.region_f (fun _ => false) ?_
          refine W.q rfl rfl rfl rfl (by decide) (Yd.mv rfl (.t rfl)) ?_
          refine W.q rfl rfl rfl rfl (by decide) (Yd.add rfl (.t rfl) .c) ?_
          refine W.q rfl rfl rfl rfl (by decide) (Yd.as rfl (.t rfl)) ?_
          refine W.end ?_
          refine NX.sub (env' := [(0, _), (2, _), (4, _), (7, _), (8, _)]) ⟨rfl, rfl, rfl, rfl, rfl, trivial⟩ ?_
          refine NX.sub (env' := [(0, _), (2, _), (4, _), (7, _), (8, _)]) ⟨rfl, rfl, rfl, rfl, rfl, trivial⟩ ?_
          have hw := w64_id (n := i_561 + 1) (by omega) (by omega)
          exact NX.again n564 (i_561 + 1, n_5) (Nat.lt_succ_self _) ⟨(by rw [hw] <;> rfl), rfl, (fr_dec hni_561), (by omega), ((hnx563 _).symm.trans hr)⟩

def syllogistref_Ints_k3 : Option (Bool) :=
  some true

def syllogistref_Ints_b7 (a_0 : List Int) (b_1 : List Int) (i_6 : Int) (nx8 : Unit → Option (Bool)) : Option (Bool) :=
  (geti a_0 i_6).bind fun y10 =>
  (geti b_1 i_6).bind fun y12 =>
  (bif (y10 != y12) then
  some false
  else
  nx8 ())

def syllogistref_Ints (a_0 : List Int) (b_1 : List Int) : Option (Bool) :=
  (bif ((a_0.length : Int) != (b_1.length : Int)) then
  some false
  else
  forK (σ := Unit) (fun i s nx_ => syllogistref_Ints_b7 a_0 b_1 i nx_) (fun _ => syllogistref_Ints_k3) ((a_0.length : Int) - (0 : Int)).toNat (0 : Int) ())

set_option maxRecDepth 100000 in
set_option maxHeartbeats 4000000 in
theorem syllogistref_Ints_ok (w0 : World) (m : Snap) (l : List HI) (ua_0 : Value) (a_0 : List Int) (ha_0 : RS rI m ua_0 a_0) (ub_1 : Value) (b_1 : List Int) (hb_1 : RS rI m ub_1 b_1) (r : Bool) (hr : syllogistref_Ints a_0 b_1 = some r) (w : World) (hc : cX w0 ⟨m, l⟩ w) :
    Calls Try.prog 20 [ua_0, ub_1].toArray w fun e w' => e = .returned (.bool r) ∧ cX w0 ⟨m, l⟩ w' := by
  unfold syllogistref_Ints at hr
  refine calls_of_Tr (N := 26) Try.func20 rfl hc rfl (Nat.le_of_ble_eq_true rfl) ?_
  refine Tr.seq ?_
  refine Tr.region_f (fun _ => false) ?_
  refine W.q rfl rfl rfl rfl (by decide) (Yd.as rfl .c) ?_
  refine W.end ?_
  refine NX.sub (env' := [(0, _), (1, _)]) ⟨rfl, rfl, trivial⟩ ?_
  refine NX.then ?_
  refine Tr.seq ?_
  refine Tr.seq ?_
  refine Tr.region_f (fun _ => false) ?_
  refine W.q rfl rfl rfl rfl (by decide) (Yd.mv rfl (.t rfl)) ?_
  refine W.q rfl rfl rfl rfl (by decide) (Yd.lenR ha_0 rfl Try.underlying33 (.t rfl)) ?_
  refine W.q rfl rfl rfl rfl (by decide) (Yd.mv rfl (.t rfl)) ?_
  refine W.q rfl rfl rfl rfl (by decide) (Yd.lenR hb_1 rfl Try.underlying33 (.t rfl)) ?_
  refine W.q rfl rfl rfl rfl (by decide) (Yd.neq rfl (.t rfl) (.t rfl)) ?_
  refine W.end ?_
  refine NX.sub (env' := [(0, _), (1, _), (10, _)]) ⟨rfl, rfl, rfl, trivial⟩ ?_
  refine NX.then ?_
  refine Tr.cond (.t rfl) (fun hb => ?_) (fun hb => ?_)
  · have hr := cond_t hb hr
    refine Tr.seq ?_
    refine Tr.region_f (fun _ => false) ?_
    refine W.q rfl rfl rfl rfl (by decide) (Yd.as rfl .c) ?_
    refine W.end ?_
    refine NX.sub (env' := [(4, _)]) ⟨rfl, trivial⟩ ?_
    refine NX.then ?_
    refine Tr.ret' (RT.then ?_)
    refine res1 rfl rfl ?_
    intro w hc
    cases hr
    exact ⟨rfl, hc⟩
  · have hr := cond_f hb hr
    refine Tr.skip' ?_
    refine NX.then ?_
    refine Tr.seq ?_
    refine Tr.seq ?_
    refine Tr.region_f (fun _ => false) ?_
    refine W.q rfl rfl rfl rfl (by decide) (Yd.as rfl .c) ?_
    refine W.end ?_
    refine NX.sub (env' := [(0, _), (1, _), (5, _)]) ⟨rfl, rfl, rfl, trivial⟩ ?_
    refine NX.then ?_
    refine Tr.join (S := fun env x => env = [] ∧ x = ⟨m, l⟩ ∧ syllogistref_Ints_k3 = some r) ?_ (fun hk4 => ?_)
    · rintro _ _ ⟨rfl, rfl, hr⟩
      unfold syllogistref_Ints_k3 at hr
      try dsimp only at hr
      refine NX.then ?_
      refine Tr.seq ?_
      refine Tr.region_f (fun _ => false) ?_
      refine W.q rfl rfl rfl rfl (by decide) (Yd.as rfl .c) ?_
      refine W.end ?_
      refine NX.sub (env' := [(4, _)]) ⟨rfl, trivial⟩ ?_
      refine NX.then ?_
      refine Tr.ret' ?_
      refine res1 rfl rfl ?_
      intro w hc
      cases hr
      exact ⟨rfl, hc⟩
    have hlen5 := (ha_0).2.1
    refine Tr.block ?_
    refine Tr.sub (env' := [(0, _), (1, _), (5, _)]) ⟨rfl, rfl, rfl, trivial⟩ ?_
    refine Tr.loop (S := fun n (z : Int × Unit) env x => match z with | (i_6, _) => env = [(0, ua_0), (1, ub_1), (5, .int .i64 i_6)] ∧ x = ⟨m, l⟩ ∧ n = ((a_0.length : Int) - i_6).toNat ∧ 0 ≤ i_6 ∧ forK (σ := Unit) (fun i s nx_ => syllogistref_Ints_b7 a_0 b_1 i nx_) (fun _ => syllogistref_Ints_k3) n i_6 () = some r) _ ((0 : Int), ()) ⟨rfl, rfl, rfl, (by omega), hr⟩ ?_
    rintro n9 ⟨i_6, _⟩ env x ⟨rfl, rfl, hni_6, h0i_6, hr⟩
    cases n9 with
    | zero =>
      simp only [forK] at hr
      refine Tr.seq ?_
      refine Tr.seq ?_
      refine Tr.region_f (fun _ => false) ?_
      refine W.q rfl rfl rfl rfl (by decide) (Yd.mv rfl (.t rfl)) ?_
      refine W.q rfl rfl rfl rfl (by decide) (Yd.mv rfl (.t rfl)) ?_
      refine W.q rfl rfl rfl rfl (by decide) (Yd.lenR ha_0 rfl Try.underlying33 (.t rfl)) ?_
      refine W.q rfl rfl rfl rfl (by decide) (Yd.lss rfl (.t rfl) (.t rfl)) ?_
      refine W.end ?_
      refine NX.sub (env' := [(0, _), (1, _), (5, _), (14, _)]) ⟨rfl, rfl, rfl, rfl, trivial⟩ ?_
      refine NX.then ?_
      refine Tr.cond (.t rfl) (fun hb => ?_) (fun hb => ?_)
      · exact absurd (hb.symm.trans (fr_end hni_6)) (by decide)
      ·
        refine Tr.exit' (EX.then (EX.then (EX.block ?_)))
        refine NX.sub (env' := []) trivial ?_
        exact hk4 _ _ ⟨rfl, rfl, hr⟩
    | succ n9 =>
      obtain ⟨nx8, hnx8, hr⟩ := forK_succ hr
      try dsimp only at hr
      unfold syllogistref_Ints_b7 at hr
      try dsimp only at hr
      have hlti_6 := fr_bnd hni_6
      refine Tr.seq ?_
      refine Tr.seq ?_
      refine Tr.region_f (fun _ => false) ?_
      refine W.q rfl rfl rfl rfl (by decide) (Yd.mv rfl (.t rfl)) ?_
      refine W.q rfl rfl rfl rfl (by decide) (Yd.mv rfl (.t rfl)) ?_
      refine W.q rfl rfl rfl rfl (by decide) (Yd.lenR ha_0 rfl Try.underlying33 (.t rfl)) ?_
      refine W.q rfl rfl rfl rfl (by decide) (Yd.lss rfl (.t rfl) (.t rfl)) ?_
      refine W.end ?_
      refine NX.sub (env' := [(0, _), (1, _), (5, _), (14, _)]) ⟨rfl, rfl, rfl, rfl, trivial⟩ ?_
      refine NX.then ?_
      refine Tr.cond (.t rfl) (fun hb => ?_) (fun hb => ?_)
      rotate_left
      · exact absurd (hb.symm.trans (fr_go hni_6)) (by decide)
      ·
        refine Tr.skip' ?_
        refine NX.then ?_
        refine Tr.seq ?_
        refine Tr.block ?_
        refine Tr.seq ?_
        obtain ⟨y10, hy11, hr⟩ := bind_some hr
        obtain ⟨y12, hy13, hr⟩ := bind_some hr
        refine Tr.region_x (fun _ => false) (fun _ => false) (Ord.of [0, 1, 2, 3, 4, 5, 6, 7, 8]) FM (by kernel_rfl) ?_
        refine W.q rfl rfl rfl rfl (by decide) (Yd.mv rfl (.t rfl)) ?_
        refine W.q rfl rfl rfl rfl (by decide) (Yd.mv rfl (.t rfl)) ?_
        refine W.q rfl rfl rfl rfl (by decide) (Yd.idxR ha_0 hy11 rfl Try.underlying33 SZ3 (.t rfl) (.t rfl)) ?_
        refine W.q rfl rfl rfl rfl (by decide) (Yd.ldF ha_0 (.refl _) hy11 rfl rfl ON3 (.t rfl)) ?_
        refine W.q rfl rfl rfl rfl (by decide) (Yd.mv rfl (.t rfl)) ?_
        refine W.q rfl rfl rfl rfl (by decide) (Yd.mv rfl (.t rfl)) ?_
        refine W.q rfl rfl rfl rfl (by decide) (Yd.idxR hb_1 hy13 rfl Try.underlying33 SZ3 (.t rfl) (.t rfl)) ?_
        refine W.q rfl rfl rfl rfl (by decide) (Yd.ldF hb_1 (.refl _) hy13 rfl rfl ON3 (.t rfl)) ?_
        refine W.q rfl rfl rfl rfl (by decide) (Yd.neq rfl (.t rfl) (.t rfl)) ?_
        refine W.end ?_
        refine NX.sub (env' := [(0, _), (1, _), (5, _), (25, _)]) ⟨rfl, rfl, rfl, rfl, trivial⟩ ?_
        refine NX.then ?_
        refine Tr.cond (.t rfl) (fun hb => ?_) (fun hb => ?_)
        · have hr := cond_t hb hr
          refine Tr.seq ?_
          refine Tr.region_f (fun _ => false) ?_
          refine W.q rfl rfl rfl rfl (by decide) (Yd.as rfl .c) ?_
          refine W.end ?_
          refine NX.sub (env' := [(4, _)]) ⟨rfl, trivial⟩ ?_
          refine NX.then ?_
          refine Tr.ret' (RT.block (RT.then (RT.then (RT.block (RT.then ?_)))))
          refine res1 rfl rfl ?_
          intro w hc
          cases hr
          exact ⟨rfl, hc⟩
        · have hr := cond_f hb hr
          refine Tr.skip' ?_
          refine NX.block ?_
          refine NX.then ?_
          refine Tr.region_f (fun _ => false) ?_
          refine W.q rfl rfl rfl rfl (by decide) (Yd.mv rfl (.t rfl)) ?_
          refine W.q rfl rfl rfl rfl (by decide) (Yd.add rfl (.t rfl) .c) ?_
          refine W.q rfl rfl rfl rfl (by decide) (Yd.as rfl (.t rfl)) ?_
          refine W.end ?_
          refine NX.sub (env' := [(0, _), (1, _), (5, _)]) ⟨rfl, rfl, rfl, trivial⟩ ?_
          refine NX.sub (env' := [(0, _), (1, _), (5, _)]) ⟨rfl, rfl, rfl, trivial⟩ ?_
          have hw := w64_id (n := i_6 + 1) (by omega) (by omega)
          exact NX.again n9 (i_6 + 1, ()) (Nat.lt_succ_self _) ⟨(by rw [hw] <;> rfl), rfl, (fr_dec hni_6), (by omega), ((hnx8 _).symm.trans hr)⟩

def syllogistref_Found_k5 : Option (Int) :=
  some ((-1 : Int))

def syllogistref_Found_b9 (l_0 : List Leaf) (who_1 : Label) (path_2 : List Int) (fuel : Nat) (k_8 : Int) (nx10 : Unit → Option (Int)) : Option (Int) :=
  (geti l_0 k_8).bind fun y12 =>
  (syllogistref_Below y12.label (({ level := who_1.level, parts := who_1.parts } : Label))).bind fun r14 =>
  (bif (r14 == true) then
  (syllogistref_PathOf fuel l_0 (({ level := who_1.level, parts := who_1.parts } : Label)) k_8).bind fun r17 =>
  (syllogistref_Ints r17 path_2).bind fun r21 =>
  (bif (r14 && r21) then
  some k_8
  else
  nx10 ())
  else
  (bif (r14 && false) then
  some k_8
  else
  nx10 ()))

def syllogistref_Found (fuel : Nat) (l_0 : List Leaf) (who_1 : Label) (path_2 : List Int) : Option (Int) :=
  forK (σ := Unit) (fun i s nx_ => syllogistref_Found_b9 l_0 who_1 path_2 fuel i nx_) (fun _ => syllogistref_Found_k5) ((l_0.length : Int) - (0 : Int)).toNat (0 : Int) ()

set_option maxRecDepth 100000 in
set_option maxHeartbeats 4000000 in
theorem syllogistref_Found_ok (w0 : World) (m : Snap) (l : List HI) (fuel : Nat) (ul_0 : Value) (l_0 : List Leaf) (hl_0 : RS rLeaf m ul_0 l_0) (who_1 : Label) (upath_2 : Value) (path_2 : List Int) (hpath_2 : RS rI m upath_2 path_2) (r : Int) (hr : syllogistref_Found fuel l_0 who_1 path_2 = some r) (w : World) (hc : cX w0 ⟨m, l⟩ w) :
    Calls Try.prog 17 [ul_0, .agg #[.int .i64 who_1.level, .int .u32 (who_1.parts.toNat : Int)], upath_2].toArray w fun e w' => e = .returned (.int .i64 r) ∧ cX w0 ⟨m, l⟩ w' := by
  unfold syllogistref_Found at hr
  refine calls_of_Tr (N := 30) Try.func17 rfl hc rfl (Nat.le_of_ble_eq_true rfl) ?_
  refine Tr.seq ?_
  refine Tr.region_f (fun i => Nat.beq i 0) ?_
  refine W.e rfl rfl rfl rfl (by decide) (Ef.bx rfl (.t rfl) rfl) ?_
  rintro _ _ ⟨b1, rfl, rfl⟩
  refine ⟨.inl rfl, ?_⟩
  refine W.cast (m' := m) (l' := hcells b1 [_, _] 25 :: l) rfl rfl ?_
  refine W.q rfl rfl rfl rfl (by decide) (Yd.as rfl .c) ?_
  refine W.end ?_
  refine NX.sub (env' := [(0, _), (2, _), (4, _)]) ⟨rfl, rfl, rfl, trivial⟩ ?_
  refine NX.then ?_
  refine Tr.seq ?_
  refine Tr.seq ?_
  refine Tr.region_f (fun _ => false) ?_
  refine W.q rfl rfl rfl rfl (by decide) (Yd.as rfl .c) ?_
  refine W.end ?_
  refine NX.sub (env' := [(0, _), (2, _), (4, _), (7, _)]) ⟨rfl, rfl, rfl, rfl, trivial⟩ ?_
  refine NX.then ?_
  refine Tr.join (S := fun env x => env = [] ∧ x = ⟨m, l⟩ ∧ syllogistref_Found_k5 = some r) ?_ (fun hk6 => ?_)
  · rintro _ _ ⟨rfl, rfl, hr⟩
    unfold syllogistref_Found_k5 at hr
    try dsimp only at hr
    refine NX.then ?_
    refine Tr.seq ?_
    refine Tr.region_f (fun _ => false) ?_
    refine W.q rfl rfl rfl rfl (by decide) (Yd.as rfl .c) ?_
    refine W.end ?_
    refine NX.sub (env' := [(6, _)]) ⟨rfl, trivial⟩ ?_
    refine NX.then ?_
    refine Tr.ret' ?_
    refine res1 rfl rfl ?_
    intro w hc
    cases hr
    exact ⟨rfl, hc⟩
  have hlen7 := (hl_0).2.1
  refine Tr.block ?_
  refine Tr.sub (env' := [(0, _), (2, _), (4, _), (7, _)]) ⟨rfl, rfl, rfl, rfl, trivial⟩ ?_
  refine Tr.loop (S := fun n (z : Int × Unit) env x => match z with | (k_8, _) => env = [(0, ul_0), (2, upath_2), (4, bp b1 0), (7, .int .i64 k_8)] ∧ x = ⟨m, hcells b1 [.int .i64 who_1.level, .int .u32 (who_1.parts.toNat : Int)] 25 :: l⟩ ∧ n = ((l_0.length : Int) - k_8).toNat ∧ 0 ≤ k_8 ∧ forK (σ := Unit) (fun i s nx_ => syllogistref_Found_b9 l_0 who_1 path_2 fuel i nx_) (fun _ => syllogistref_Found_k5) n k_8 () = some r) _ ((0 : Int), ()) ⟨rfl, rfl, rfl, (by omega), hr⟩ ?_
  rintro n11 ⟨k_8, _⟩ env x ⟨rfl, rfl, hnk_8, h0k_8, hr⟩
  cases n11 with
  | zero =>
    simp only [forK] at hr
    refine Tr.seq ?_
    refine Tr.seq ?_
    refine Tr.region_f (fun _ => false) ?_
    refine W.q rfl rfl rfl rfl (by decide) (Yd.mv rfl (.t rfl)) ?_
    refine W.q rfl rfl rfl rfl (by decide) (Yd.mv rfl (.t rfl)) ?_
    refine W.q rfl rfl rfl rfl (by decide) (Yd.lenR hl_0 rfl Try.underlying22 (.t rfl)) ?_
    refine W.q rfl rfl rfl rfl (by decide) (Yd.lss rfl (.t rfl) (.t rfl)) ?_
    refine W.end ?_
    refine NX.sub (env' := [(0, _), (2, _), (4, _), (7, _), (11, _)]) ⟨rfl, rfl, rfl, rfl, rfl, trivial⟩ ?_
    refine NX.then ?_
    refine Tr.cond (.t rfl) (fun hb => ?_) (fun hb => ?_)
    · exact absurd (hb.symm.trans (fr_end hnk_8)) (by decide)
    ·
      refine Tr.exit' (EX.then (EX.then (EX.block ?_)))
      refine NX.sub (env' := []) trivial ?_
      refine NX.drop (l' := l) (.cons _ (.refl _)) ?_
      exact hk6 _ _ ⟨rfl, rfl, hr⟩
  | succ n11 =>
    obtain ⟨nx10, hnx10, hr⟩ := forK_succ hr
    try dsimp only at hr
    unfold syllogistref_Found_b9 at hr
    try dsimp only at hr
    have hltk_8 := fr_bnd hnk_8
    refine Tr.seq ?_
    refine Tr.seq ?_
    refine Tr.region_f (fun _ => false) ?_
    refine W.q rfl rfl rfl rfl (by decide) (Yd.mv rfl (.t rfl)) ?_
    refine W.q rfl rfl rfl rfl (by decide) (Yd.mv rfl (.t rfl)) ?_
    refine W.q rfl rfl rfl rfl (by decide) (Yd.lenR hl_0 rfl Try.underlying22 (.t rfl)) ?_
    refine W.q rfl rfl rfl rfl (by decide) (Yd.lss rfl (.t rfl) (.t rfl)) ?_
    refine W.end ?_
    refine NX.sub (env' := [(0, _), (2, _), (4, _), (7, _), (11, _)]) ⟨rfl, rfl, rfl, rfl, rfl, trivial⟩ ?_
    refine NX.then ?_
    refine Tr.cond (.t rfl) (fun hb => ?_) (fun hb => ?_)
    rotate_left
    · exact absurd (hb.symm.trans (fr_go hnk_8)) (by decide)
    ·
      refine Tr.skip' ?_
      refine NX.then ?_
      refine Tr.seq ?_
      refine Tr.block ?_
      refine Tr.seq ?_
      obtain ⟨y12, hy13, hr⟩ := bind_some hr
      obtain ⟨r14, hr15, hr⟩ := bind_some hr
      refine Tr.region_x (fun i => Nat.beq i 11) (fun _ => false) (Ord.of [0, 1, 2, 3, 4, 5, 6, 7, 8, 9, 10, 12, 11, 13, 14]) FM (by kernel_rfl) ?_
      refine W.q rfl rfl rfl rfl (by decide) (Yd.mv rfl (.t rfl)) ?_
      refine W.q rfl rfl rfl rfl (by decide) (Yd.mv rfl (.t rfl)) ?_
      refine W.q rfl rfl rfl rfl (by decide) (Yd.idxR hl_0 hy13 rfl Try.underlying22 SZ42 (.t rfl) (.t rfl)) ?_
      refine W.q rfl rfl rfl rfl (by decide) (Yd.fldA rfl Try.underlying42 rfl SZ25 rfl (adr_head hl_0 hy13) (.t rfl)) ?_
      refine W.q rfl rfl rfl rfl (by decide) (Yd.ldFp (us := [_, _]) hl_0 (.refl _) hy13 rfl rfl rfl ON25 US25 SZ25 (.t rfl)) ?_
      refine W.q rfl rfl rfl rfl (by decide) (Yd.ldBs (pos := 0) (us := [_, _]) rfl rfl rfl rfl ON25 US25 SZ25 (.t rfl)) ?_
      refine W.q rfl rfl rfl rfl (by decide) (Yd.call (v := .bool r14) rfl Try.func19 rfl rfl (.cons (.t rfl) (.cons (.t rfl) .nil)) (fun x' hx w hw => syllogistref_Below_ok w0 x'.m x'.l y12.label (({ level := who_1.level, parts := who_1.parts } : Label)) _ hr15 w hw)) ?_
      refine W.q rfl rfl rfl rfl (by decide) (Yd.mv rfl (.t rfl)) ?_
      refine W.g rfl rfl rfl rfl rfl (.t rfl _) rfl (by decide) (fun hG => Yd.mv rfl (.t rfl)) ?_
      refine W.g rfl rfl rfl rfl rfl (.t rfl _) rfl (by decide) (fun hG => Yd.ldBs (pos := 0) (us := [_, _]) rfl rfl rfl rfl ON25 US25 SZ25 (.t rfl)) ?_
      refine W.g rfl rfl rfl rfl rfl (.t rfl _) rfl (by decide) (fun hG => Yd.mv rfl (.t rfl)) ?_
      refine W.g rfl rfl rfl rfl rfl (.t rfl _) rfl (by decide) (fun hG => Yd.mv rfl (.t rfl)) ?_
      refine W.split (b := (r14 == true)) (fun hb16 => ?_) (fun hb16 => ?_)
      · have hr := cond_t hb16 hr
        obtain ⟨r17, hr18, hr⟩ := bind_some hr
        obtain ⟨r21, hr22, hr⟩ := bind_some hr
        refine W.ge rfl rfl rfl rfl rfl (.t rfl _) hb16 rfl (by decide) (Ef.call (R := fun z x' => ∃ v19 : Value, z = v19 ∧ x' = ⟨m, hownT 3 1 encI v19 r17 :: hcells b1 [.int .i64 who_1.level, .int .u32 (who_1.parts.toNat : Int)] 25 :: l⟩) rfl Try.func21 rfl rfl (.cons (.g rfl hb16) (.cons (.g rfl hb16) (.cons (.g rfl hb16) .nil))) (fun w hw => (syllogistref_PathOf_ok w0 _ _ fuel _ _ hl_0 (({ level := who_1.level, parts := who_1.parts } : Label)) k_8 _ hr18 w hw).mono fun e w' ⟨v19, he, hc'⟩ => ⟨_, _, he, ⟨v19, rfl, rfl⟩, hc'⟩)) ?_
        rintro v19 _ ⟨_, rfl, rfl⟩
        refine ⟨.inr ⟨.refl _, [_], rfl⟩, ?_⟩
        refine W.cast (m' := m) (l' := hownT 3 1 encI v19 _ :: hcells b1 [_, _] 25 :: l) rfl rfl ?_
        refine W.g rfl rfl rfl rfl rfl (.t rfl _) rfl (by decide) (fun hG => Yd.call (v := .bool r21) rfl Try.func20 rfl rfl (.cons (.t rfl) (.cons (.g rfl hb16) .nil)) (by intro x' hx w hw; obtain ⟨p0, hp0⟩ := hx.at (p := 0) rfl; obtain ⟨m2, hm2, hc2, ⟨L2, hl1, hl2⟩, hback⟩ := cX_lend hw hp0 lone_own; have hL1 : RS rI m2 _ _ := RS_of_own hl1 hl2; exact (syllogistref_Ints_ok w0 m2 _ _ _ hL1 _ _ (hpath_2.mono (hx.1.trans hm2)) _ hr22 w hc2).mono fun e w' ⟨he, hc'⟩ => ⟨he, (hback m2 _ _ w' (.refl _) hp0).2 hc'⟩)) ?_
        refine W.q rfl rfl rfl rfl (by decide) (Yd.and rfl (.t rfl) .c rfl rfl) ?_
        refine W.end ?_
        refine NX.sub (env' := [(0, _), (2, _), (4, _), (7, _), (28, _)]) ⟨rfl, rfl, rfl, rfl, rfl, trivial⟩ ?_
        refine NX.drop (l' := hcells b1 [_, _] 25 :: l) (.cons _ (.cons_cons _ (.refl _))) ?_
        refine NX.then ?_
        refine Tr.cond (.t rfl) (fun hb => ?_) (fun hb => ?_)
        · have hr := cond_t hb hr
          refine Tr.seq ?_
          refine Tr.region_f (fun _ => false) ?_
          refine W.q rfl rfl rfl rfl (by decide) (Yd.mv rfl (.t rfl)) ?_
          refine W.q rfl rfl rfl rfl (by decide) (Yd.as rfl (.t rfl)) ?_
          refine W.end ?_
          refine NX.sub (env' := [(6, _)]) ⟨rfl, trivial⟩ ?_
          refine NX.drop (l' := l) (.cons _ (.refl _)) ?_
          refine NX.then ?_
          refine Tr.ret' (RT.block (RT.then (RT.then (RT.block (RT.then ?_)))))
          refine res1 rfl rfl ?_
          intro w hc
          cases hr
          exact ⟨rfl, hc⟩
        · have hr := cond_f hb hr
          refine Tr.skip' ?_
          refine NX.block ?_
          refine NX.then ?_
          refine Tr.region_f (fun _ => false) ?_
          refine W.q rfl rfl rfl rfl (by decide) (Yd.mv rfl (.t rfl)) ?_
          refine W.q rfl rfl rfl rfl (by decide) (Yd.add rfl (.t rfl) .c) ?_
          refine W.q rfl rfl rfl rfl (by decide) (Yd.as rfl (.t rfl)) ?_
          refine W.end ?_
          refine NX.sub (env' := [(0, _), (2, _), (4, _), (7, _)]) ⟨rfl, rfl, rfl, rfl, trivial⟩ ?_
          refine NX.sub (env' := [(0, _), (2, _), (4, _), (7, _)]) ⟨rfl, rfl, rfl, rfl, trivial⟩ ?_
          have hw := w64_id (n := k_8 + 1) (by omega) (by omega)
          exact NX.again n11 (k_8 + 1, ()) (Nat.lt_succ_self _) ⟨(by rw [hw] <;> rfl), rfl, (fr_dec hnk_8), (by omega), ((hnx10 _).symm.trans hr)⟩
      · have hr := cond_f hb16 hr
        refine W.gF rfl rfl rfl rfl (.t rfl _) hb16 rfl (by decide) (undef) ?_
        refine W.gF rfl rfl rfl rfl (.t rfl _) hb16 rfl (by decide) (.bool false) ?_
        refine W.q rfl rfl rfl rfl (by decide) (Yd.and rfl (.t rfl) .c rfl rfl) ?_
        refine W.end ?_
        refine NX.sub (env' := [(0, _), (2, _), (4, _), (7, _), (28, _)]) ⟨rfl, rfl, rfl, rfl, rfl, trivial⟩ ?_
        refine NX.then ?_
        refine Tr.cond (.t rfl) (fun hb => ?_) (fun hb => ?_)
        · have hr := cond_t hb hr
          refine Tr.seq ?_
          refine Tr.region_f (fun _ => false) ?_
          refine W.q rfl rfl rfl rfl (by decide) (Yd.mv rfl (.t rfl)) ?_
          refine W.q rfl rfl rfl rfl (by decide) (Yd.as rfl (.t rfl)) ?_
          refine W.end ?_
          refine NX.sub (env' := [(6, _)]) ⟨rfl, trivial⟩ ?_
          refine NX.drop (l' := l) (.cons _ (.refl _)) ?_
          refine NX.then ?_
          refine Tr.ret' (RT.block (RT.then (RT.then (RT.block (RT.then ?_)))))
          refine res1 rfl rfl ?_
          intro w hc
          cases hr
          exact ⟨rfl, hc⟩
        · have hr := cond_f hb hr
          refine Tr.skip' ?_
          refine NX.block ?_
          refine NX.then ?_
          refine Tr.region_f (fun _ => false) ?_
          refine W.q rfl rfl rfl rfl (by decide) (Yd.mv rfl (.t rfl)) ?_
          refine W.q rfl rfl rfl rfl (by decide) (Yd.add rfl (.t rfl) .c) ?_
          refine W.q rfl rfl rfl rfl (by decide) (Yd.as rfl (.t rfl)) ?_
          refine W.end ?_
          refine NX.sub (env' := [(0, _), (2, _), (4, _), (7, _)]) ⟨rfl, rfl, rfl, rfl, trivial⟩ ?_
          refine NX.sub (env' := [(0, _), (2, _), (4, _), (7, _)]) ⟨rfl, rfl, rfl, rfl, trivial⟩ ?_
          have hw := w64_id (n := k_8 + 1) (by omega) (by omega)
          exact NX.again n11 (k_8 + 1, ()) (Nat.lt_succ_self _) ⟨(by rw [hw] <;> rfl), rfl, (fr_dec hnk_8), (by omega), ((hnx10 _).symm.trans hr)⟩

def syllogistlaw_PlaceFinds_k9 (l_0 : List Leaf) (who_1 : Label) (path_2 : List Int) (fuel : Nat) (r3 : Int × Int) (x_8 : Int) : Option (Bool) :=
  (bif (x_8 != (0 : Int)) then
  some (((r3.2 == x_8) && (r3.1 == (0 : Int))))
  else
  bif (!((r3.2 == (0 : Int)) == true) || (syllogistref_Found fuel l_0 (({ level := who_1.level, parts := who_1.parts } : Label)) path_2).isSome) then
  some (((r3.2 == (0 : Int)) && (r3.1 == (((syllogistref_Found fuel l_0 (({ level := who_1.level, parts := who_1.parts } : Label)) path_2).getD (0 : Int)))))) else none)

def syllogistlaw_PlaceFinds (fuel : Nat) (l_0 : List Leaf) (who_1 : Label) (path_2 : List Int) : Option (Bool) :=
  (place_Find l_0 (({ level := who_1.level, parts := who_1.parts } : Label)) path_2).bind fun r3 =>
  (syllogistlaw_pageCode l_0 (({ level := who_1.level, parts := who_1.parts } : Label))).bind fun r5 =>
  bif (!((r5 == (0 : Int)) == true) || (syllogistref_Found fuel l_0 (({ level := who_1.level, parts := who_1.parts } : Label)) path_2).isSome) then
  (bif ((r5 == (0 : Int)) && (decide ((((syllogistref_Found fuel l_0 (({ level := who_1.level, parts := who_1.parts } : Label)) path_2).getD (0 : Int))) < (0 : Int)))) then
  syllogistlaw_PlaceFinds_k9 l_0 who_1 path_2 fuel r3 ((5 : Int))
  else
  syllogistlaw_PlaceFinds_k9 l_0 who_1 path_2 fuel r3 r5) else none

set_option maxRecDepth 100000 in
set_option maxHeartbeats 4000000 in
theorem syllogistlaw_PlaceFinds_ok (w0 : World) (m : Snap) (l : List HI) (fuel : Nat) (ul_0 : Value) (l_0 : List Leaf) (hl_0 : RS rLeaf m ul_0 l_0) (who_1 : Label) (upath_2 : Value) (path_2 : List Int) (hpath_2 : RS rI m upath_2 path_2) (r : Bool) (hr : syllogistlaw_PlaceFinds fuel l_0 who_1 path_2 = some r) (w : World) (hc : cX w0 ⟨m, l⟩ w) :
    Calls Try.prog 4 [ul_0, .agg #[.int .i64 who_1.level, .int .u32 (who_1.parts.toNat : Int)], upath_2].toArray w fun e w' => e = .returned (.bool r) ∧ cX w0 ⟨m, l⟩ w' := by
  unfold syllogistlaw_PlaceFinds at hr
  refine calls_of_Tr (N := 48) Try.func4 rfl hc rfl (Nat.le_of_ble_eq_true rfl) ?_
  refine Tr.seq ?_
  refine Tr.region_f (fun i => Nat.beq i 0) ?_
  refine W.e rfl rfl rfl rfl (by decide) (Ef.bx rfl (.t rfl) rfl) ?_
  rintro _ _ ⟨b1, rfl, rfl⟩
  refine ⟨.inl rfl, ?_⟩
  refine W.cast (m' := m) (l' := hcells b1 [_, _] 25 :: l) rfl rfl ?_
  refine W.q rfl rfl rfl rfl (by decide) (Yd.as rfl .c) ?_
  refine W.end ?_
  refine NX.sub (env' := [(0, _), (2, _), (4, _)]) ⟨rfl, rfl, rfl, trivial⟩ ?_
  refine NX.then ?_
  refine Tr.seq ?_
  obtain ⟨r3, hr4, hr⟩ := bind_some hr
  refine Tr.region_f (fun _ => false) ?_
  refine W.q rfl rfl rfl rfl (by decide) (Yd.mv rfl (.t rfl)) ?_
  refine W.q rfl rfl rfl rfl (by decide) (Yd.ldBs (pos := 0) (us := [_, _]) rfl rfl rfl rfl ON25 US25 SZ25 (.t rfl)) ?_
  refine W.q rfl rfl rfl rfl (by decide) (Yd.mv rfl (.t rfl)) ?_
  refine W.q rfl rfl rfl rfl (by decide) (Yd.call (v := .tuple #[.int .i64 r3.1, .int .i64 r3.2]) rfl Try.func16 rfl rfl (.cons (.t rfl) (.cons (.t rfl) (.cons (.t rfl) .nil))) (fun x' hx w hw => place_Find_ok w0 x'.m x'.l _ _ (hl_0.mono hx.1) (({ level := who_1.level, parts := who_1.parts } : Label)) _ _ (hpath_2.mono hx.1) _ hr4 w hw)) ?_
  refine W.q rfl rfl rfl rfl (by decide) (Yd.mv rfl (.t rfl)) ?_
  refine W.q rfl rfl rfl rfl (by decide) (Yd.ext rfl (.t rfl) rfl) ?_
  refine W.q rfl rfl rfl rfl (by decide) (Yd.ext rfl (.t rfl) rfl) ?_
  refine W.q rfl rfl rfl rfl (by decide) (Yd.as rfl (.t rfl)) ?_
  refine W.q rfl rfl rfl rfl (by decide) (Yd.as rfl (.t rfl)) ?_
  refine W.end ?_
  refine NX.sub (env' := [(0, _), (2, _), (4, _), (7, _), (8, _)]) ⟨rfl, rfl, rfl, rfl, rfl, trivial⟩ ?_
  refine NX.then ?_
  refine Tr.seq ?_
  obtain ⟨r5, hr6, hr⟩ := bind_some hr
  refine Tr.region_f (fun _ => false) ?_
  refine W.q rfl rfl rfl rfl (by decide) (Yd.mv rfl (.t rfl)) ?_
  refine W.q rfl rfl rfl rfl (by decide) (Yd.ldBs (pos := 0) (us := [_, _]) rfl rfl rfl rfl ON25 US25 SZ25 (.t rfl)) ?_
  refine W.q rfl rfl rfl rfl (by decide) (Yd.call (v := .int .i64 r5) rfl Try.func13 rfl rfl (.cons (.t rfl) (.cons (.t rfl) .nil)) (fun x' hx w hw => syllogistlaw_pageCode_ok w0 x'.m x'.l _ _ (hl_0.mono hx.1) (({ level := who_1.level, parts := who_1.parts } : Label)) _ hr6 w hw)) ?_
  refine W.q rfl rfl rfl rfl (by decide) (Yd.as rfl (.t rfl)) ?_
  refine W.end ?_
  refine NX.sub (env' := [(0, _), (2, _), (4, _), (7, _), (8, _), (9, _)]) ⟨rfl, rfl, rfl, rfl, rfl, rfl, trivial⟩ ?_
  refine NX.then ?_
  refine Tr.seq ?_
  refine Tr.seq ?_
  obtain ⟨ha7, hr⟩ := guard_some hr
  refine Tr.region_f (fun _ => false) ?_
  refine W.q rfl rfl rfl rfl (by decide) (Yd.mv rfl (.t rfl)) ?_
  refine W.q rfl rfl rfl rfl (by decide) (Yd.eql rfl (.t rfl) .c) ?_
  refine W.q rfl rfl rfl rfl (by decide) (Yd.mv rfl (.t rfl)) ?_
  refine W.g rfl rfl rfl rfl rfl (.t rfl _) rfl (by decide) (fun hG => Yd.mv rfl (.t rfl)) ?_
  refine W.g rfl rfl rfl rfl rfl (.t rfl _) rfl (by decide) (fun hG => Yd.ldBs (pos := 0) (us := [_, _]) rfl rfl rfl rfl ON25 US25 SZ25 (.t rfl)) ?_
  refine W.g rfl rfl rfl rfl rfl (.t rfl _) rfl (by decide) (fun hG => Yd.mv rfl (.t rfl)) ?_
  refine W.g rfl rfl rfl rfl rfl (.t rfl _) rfl (by decide) (fun hG => Yd.call (v := .int .i64 ((((syllogistref_Found fuel l_0 (({ level := who_1.level, parts := who_1.parts } : Label)) path_2).getD (0 : Int))))) rfl Try.func17 rfl rfl (.cons (.g rfl hG) (.cons (.g rfl hG) (.cons (.g rfl hG) .nil))) (fun x' hx w hw => syllogistref_Found_ok w0 x'.m x'.l fuel _ _ (hl_0.mono hx.1) (({ level := who_1.level, parts := who_1.parts } : Label)) _ _ (hpath_2.mono hx.1) _ (gd_get (d := (0 : Int)) ha7 hG) w hw)) ?_
  refine W.g rfl rfl rfl rfl rfl (.t rfl _) rfl (by decide) (fun hG => Yd.lss rfl (.g rfl hG) .c) ?_
  refine W.q rfl rfl rfl rfl (by decide) (Yd.and rfl (.t rfl) .c rfl rfl) ?_
  refine W.end ?_
  refine NX.sub (env' := [(0, _), (2, _), (4, _), (7, _), (8, _), (9, _), (28, _)]) ⟨rfl, rfl, rfl, rfl, rfl, rfl, rfl, trivial⟩ ?_
  refine NX.then ?_
  refine Tr.join (S := fun env x => ∃ x_8 : Int, env = [(0, ul_0), (2, upath_2), (4, bp b1 0), (7, .int .i64 r3.1), (8, .int .i64 r3.2), (9, .int .i64 x_8)] ∧ x = ⟨m, hcells b1 [.int .i64 who_1.level, .int .u32 (who_1.parts.toNat : Int)] 25 :: l⟩ ∧ syllogistlaw_PlaceFinds_k9 l_0 who_1 path_2 fuel r3 x_8 = some r) ?_ (fun hk10 => ?_)
  · rintro _ _ ⟨x_8, rfl, rfl, hr⟩
    unfold syllogistlaw_PlaceFinds_k9 at hr
    try dsimp only at hr
    refine NX.then ?_
    refine Tr.seq ?_
    refine Tr.seq ?_
    refine Tr.region_f (fun _ => false) ?_
    refine W.q rfl rfl rfl rfl (by decide) (Yd.mv rfl (.t rfl)) ?_
    refine W.q rfl rfl rfl rfl (by decide) (Yd.neq rfl (.t rfl) .c) ?_
    refine W.end ?_
    refine NX.sub (env' := [(0, _), (2, _), (4, _), (7, _), (8, _), (9, _), (30, _)]) ⟨rfl, rfl, rfl, rfl, rfl, rfl, rfl, trivial⟩ ?_
    refine NX.then ?_
    refine Tr.cond (.t rfl) (fun hb => ?_) (fun hb => ?_)
    · have hr := cond_t hb hr
      refine Tr.seq ?_
      refine Tr.region_f (fun _ => false) ?_
      refine W.q rfl rfl rfl rfl (by decide) (Yd.mv rfl (.t rfl)) ?_
      refine W.q rfl rfl rfl rfl (by decide) (Yd.mv rfl (.t rfl)) ?_
      refine W.q rfl rfl rfl rfl (by decide) (Yd.eql rfl (.t rfl) (.t rfl)) ?_
      refine W.q rfl rfl rfl rfl (by decide) (Yd.mv rfl (.t rfl)) ?_
      refine W.g rfl rfl rfl rfl rfl (.t rfl _) rfl (by decide) (fun hG => Yd.mv rfl (.t rfl)) ?_
      refine W.g rfl rfl rfl rfl rfl (.t rfl _) rfl (by decide) (fun hG => Yd.eql rfl (.g rfl hG) .c) ?_
      refine W.q rfl rfl rfl rfl (by decide) (Yd.and rfl (.t rfl) .c rfl rfl) ?_
      refine W.q rfl rfl rfl rfl (by decide) (Yd.as rfl (.t rfl)) ?_
      refine W.end ?_
      refine NX.sub (env' := [(6, _)]) ⟨rfl, trivial⟩ ?_
      refine NX.drop (l' := l) (.cons _ (.refl _)) ?_
      refine NX.then ?_
      refine Tr.ret' (RT.then ?_)
      refine res1 rfl rfl ?_
      intro w hc
      cases hr
      exact ⟨rfl, hc⟩
    · have hr := cond_f hb hr
      refine Tr.skip' ?_
      refine NX.then ?_
      refine Tr.seq ?_
      obtain ⟨ha11, hr⟩ := guard_some hr
      refine Tr.region_f (fun _ => false) ?_
      refine W.q rfl rfl rfl rfl (by decide) (Yd.mv rfl (.t rfl)) ?_
      refine W.q rfl rfl rfl rfl (by decide) (Yd.eql rfl (.t rfl) .c) ?_
      refine W.q rfl rfl rfl rfl (by decide) (Yd.mv rfl (.t rfl)) ?_
      refine W.g rfl rfl rfl rfl rfl (.t rfl _) rfl (by decide) (fun hG => Yd.mv rfl (.t rfl)) ?_
      refine W.g rfl rfl rfl rfl rfl (.t rfl _) rfl (by decide) (fun hG => Yd.mv rfl (.t rfl)) ?_
      refine W.g rfl rfl rfl rfl rfl (.t rfl _) rfl (by decide) (fun hG => Yd.ldBs (pos := 0) (us := [_, _]) rfl rfl rfl rfl ON25 US25 SZ25 (.t rfl)) ?_
      refine W.g rfl rfl rfl rfl rfl (.t rfl _) rfl (by decide) (fun hG => Yd.mv rfl (.t rfl)) ?_
      refine W.g rfl rfl rfl rfl rfl (.t rfl _) rfl (by decide) (fun hG => Yd.call (v := .int .i64 ((((syllogistref_Found fuel l_0 (({ level := who_1.level, parts := who_1.parts } : Label)) path_2).getD (0 : Int))))) rfl Try.func17 rfl rfl (.cons (.g rfl hG) (.cons (.g rfl hG) (.cons (.g rfl hG) .nil))) (fun x' hx w hw => syllogistref_Found_ok w0 x'.m x'.l fuel _ _ (hl_0.mono hx.1) (({ level := who_1.level, parts := who_1.parts } : Label)) _ _ (hpath_2.mono hx.1) _ (gd_get (d := (0 : Int)) ha11 hG) w hw)) ?_
      refine W.g rfl rfl rfl rfl rfl (.t rfl _) rfl (by decide) (fun hG => Yd.eql rfl (.g rfl hG) (.g rfl hG)) ?_
      refine W.q rfl rfl rfl rfl (by decide) (Yd.and rfl (.t rfl) .c rfl rfl) ?_
      refine W.q rfl rfl rfl rfl (by decide) (Yd.as rfl (.t rfl)) ?_
      refine W.end ?_
      refine NX.sub (env' := [(6, _)]) ⟨rfl, trivial⟩ ?_
      refine NX.drop (l' := l) (.cons _ (.refl _)) ?_
      refine NX.then ?_
      refine Tr.ret' ?_
      refine res1 rfl rfl ?_
      intro w hc
      cases hr
      exact ⟨rfl, hc⟩
  refine Tr.cond (.t rfl) (fun hb => ?_) (fun hb => ?_)
  · have hr := cond_t hb hr
    refine Tr.region_f (fun _ => false) ?_
    refine W.q rfl rfl rfl rfl (by decide) (Yd.as rfl .c) ?_
    refine W.end ?_
    refine NX.sub (env' := [(0, _), (2, _), (4, _), (7, _), (8, _), (9, _)]) ⟨rfl, rfl, rfl, rfl, rfl, rfl, trivial⟩ ?_
    refine NX.sub (env' := [(0, _), (2, _), (4, _), (7, _), (8, _), (9, _)]) ⟨rfl, rfl, rfl, rfl, rfl, rfl, trivial⟩ ?_
    exact hk10 _ _ ⟨_, rfl, rfl, hr⟩
  · have hr := cond_f hb hr
    refine Tr.skip' ?_
    refine NX.sub (env' := [(0, _), (2, _), (4, _), (7, _), (8, _), (9, _)]) ⟨rfl, rfl, rfl, rfl, rfl, rfl, trivial⟩ ?_
    exact hk10 _ _ ⟨_, rfl, rfl, hr⟩

def slices_Clone_SapiLeafapiLeaf (s_0 : List Leaf) : Option ((List Leaf)) :=
  bif decide ((([] : List Leaf)).length + s_0.length ≤ 4398046511104) then
  some ((([] : List Leaf) ++ s_0)) else none

set_option maxRecDepth 100000 in
set_option maxHeartbeats 4000000 in
theorem slices_Clone_SapiLeafapiLeaf_ok (w0 : World) (m : Snap) (l : List HI) (us_0 : Value) (s_0 : List Leaf) (hs_0 : RS rLeaf m us_0 s_0) (r : (List Leaf)) (hr : slices_Clone_SapiLeafapiLeaf s_0 = some r) (w : World) (hc : cX w0 ⟨m, l⟩ w) :
    Calls Try.prog 44 [us_0].toArray w fun e w' => ∃ z0 : Value, e = .returned (z0) ∧ cX w0 ⟨m, hownT 42 4 Leaf.enc z0 r :: l⟩ w' := by
  unfold slices_Clone_SapiLeafapiLeaf at hr
  refine calls_of_Tr (N := 8) Try.func44 rfl hc rfl (Nat.le_of_ble_eq_true rfl) ?_
  refine Tr.seq ?_
  refine Tr.region_f (fun _ => false) ?_
  refine W.q rfl rfl rfl rfl (by decide) (Yd.as rfl .c) ?_
  refine W.end ?_
  refine NX.sub (env' := [(0, _)]) ⟨rfl, trivial⟩ ?_
  refine NX.then ?_
  refine Tr.seq ?_
  refine Tr.seq ?_
  refine Tr.region_f (fun _ => false) ?_
  refine W.q rfl rfl rfl rfl (by decide) (Yd.mv rfl (.t rfl)) ?_
  refine W.q rfl rfl rfl rfl (by decide) (Yd.eqnil hs_0 rfl Try.underlying22 (.t rfl) .c) ?_
  refine W.end ?_
  refine NX.sub (env' := [(0, _), (4, _)]) ⟨rfl, rfl, trivial⟩ ?_
  refine NX.then ?_
  refine Tr.cond (.t rfl) (fun hb => ?_) (fun hb => ?_)
  · obtain rfl : s_0 = [] := RS.nil_of hs_0 hb
    have hr : some ([]) = some r := hr
    refine Tr.seq ?_
    refine Tr.region_f (fun _ => false) ?_
    refine W.q rfl rfl rfl rfl (by decide) (Yd.as rfl .c) ?_
    refine W.end ?_
    refine NX.sub (env' := [(2, _)]) ⟨rfl, trivial⟩ ?_
    refine NX.then ?_
    refine Tr.ret' (RT.then ?_)
    refine res1 rfl rfl ?_
    intro w hc
    cases hr
    exact ⟨_, rfl, (cX_nil hc)⟩
  ·
    refine Tr.skip' ?_
    refine NX.then ?_
    refine Tr.seq ?_
    obtain ⟨hq4, hr⟩ := guard_some hr; replace hq4 := of_decide_eq_true hq4
    refine Tr.region_f (fun i => Nat.beq i 0 || Nat.beq i 2) ?_
    refine W.e rfl rfl rfl rfl (by decide) (Ef.bsT (enc := Leaf.enc) (vs := []) (ys := []) (fun _ => rfl) IF42 rfl Try.underlying22 (by decide) rfl .nil rfl rfl (by decide)) ?_
    rintro v1 _ rfl
    refine ⟨.inl rfl, ?_⟩
    refine W.cast (m' := m) (l' := hownT 42 4 Leaf.enc v1 _ :: l) rfl rfl ?_
    refine W.q rfl rfl rfl rfl (by decide) (Yd.mv rfl (.t rfl)) ?_
    refine W.e rfl rfl rfl rfl (by decide) (Ef.apI (pos := 0) (enc := Leaf.enc) (xs := ([] : List Leaf)) (ys := s_0) (fun _ => rfl) IF42 rfl rfl Try.underlying22 rfl (by decide) (.t rfl) (.t rfl) (Src.rs (by decide) (.refl _) hs_0) (fun _ => rfl) (by omega) (by omega)) ?_
    rintro v3 _ rfl
    refine ⟨.inl rfl, ?_⟩
    refine W.cast (m' := m) (l' := hownT 42 4 Leaf.enc v3 _ :: l) rfl rfl ?_
    refine W.q rfl rfl rfl rfl (by decide) (Yd.as rfl (.t rfl)) ?_
    refine W.end ?_
    refine NX.sub (env' := [(2, _)]) ⟨rfl, trivial⟩ ?_
    refine NX.then ?_
    refine Tr.ret' ?_
    refine res1 rfl rfl ?_
    intro w hc
    cases hr
    exact ⟨_, rfl, hc⟩
end Go.Proofs.Ythndckcjjhdbmaa.Sy
