/- Functions of the program as plain functions, and that the translation computes them; the conditions stand in each theorem. Printed by an own program. -/
import Derived.Test.YthdbfajfomgbkaaSyZ
import Derived.Test.YthdbfajfomgbkaaSyMp
import Derived.Test.YthdbfajfomgbkaaSyMr
import Derived.Test.YthdbfajfomgbkaaT
import Derived.Test.YthdbfajfomgbkaaProg
namespace Go.Proofs.Ythdbfajfomgbkaa.Sy
open Go
set_option linter.unusedVariables false
theorem SZ47 : (Try.prog.info? 47).map (·.size) = some 3 := by kernel_rfl
theorem ON47 : one Try.prog 47 = false := by kernel_rfl
theorem US47 : (Try.prog.underlying 47).isSome = true := by kernel_rfl
theorem ZR47 : (Try.prog.info? 47).bind (·.zero) = some (.agg #[.int .i64 0, .int .i64 0, .int .i64 0]) := by kernel_rfl
theorem SZ3 : (Try.prog.info? 3).map (·.size) = some 1 := by kernel_rfl
theorem ON3 : one Try.prog 3 = true := by kernel_rfl
theorem IF3 : (Try.prog.info? 3).map (fun i => (i.zero, i.size, i.bytes)) = some (some (.int .i64 0), 1, 8) := by kernel_rfl
structure T36 where
  l : List Branch
  known : List (Branch × Int)
abbrev ek47 (x : Branch) : Value := .agg #[.int .i64 x.var, .int .i64 x.low, .int .i64 x.high]
theorem GU47 : Try.prog.eqGuardType Try.prog.depth 47 = false := by kernel_rfl
theorem ST47 : Try.prog.stoodInHeld 47 = false := by kernel_rfl
theorem US3 : (Try.prog.underlying 3).isSome = true := by kernel_rfl
theorem EQ47 (w : World) (x0 : Int) (x1 : Int) (x2 : Int) (y0 : Int) (y1 : Int) (y2 : Int) : (binOp .eql 47 (.agg #[.int .i64 x0, .int .i64 x1, .int .i64 x2]) (.agg #[.int .i64 y0, .int .i64 y1, .int .i64 y2])).run Try.prog w = .ok (.bool ((x0 == y0) && ((x1 == y1) && ((x2 == y2) && true)))) w :=
  eq_s w Try.underlying47 ST47 (fun d => (eqf_cons w rfl (part_one w ON3 rfl) (part_one w ON3 rfl) (run_equalIn_int w _ _ _ _ _ _ Try.underlying3) (eqf_cons w rfl (part_one w ON3 rfl) (part_one w ON3 rfl) (run_equalIn_int w _ _ _ _ _ _ Try.underlying3) (eqf_cons w rfl (part_one w ON3 rfl) (part_one w ON3 rfl) (run_equalIn_int w _ _ _ _ _ _ Try.underlying3) (eqf_nil w)))))
theorem EM47 (w : World) (x0 : Int) (x1 : Int) (x2 : Int) (y0 : Int) (y1 : Int) (y2 : Int) : (Op.equal 47 (.agg #[.int .i64 x0, .int .i64 x1, .int .i64 x2]) (.agg #[.int .i64 y0, .int .i64 y1, .int .i64 y2])).run Try.prog w = .ok (((x0 == y0) && ((x1 == y1) && ((x2 == y2) && true)))) w :=
  eq_in w (d := 9999) Try.underlying47 ST47 ((eqf_cons w rfl (part_one w ON3 rfl) (part_one w ON3 rfl) (run_equalIn_int w _ _ _ _ _ _ Try.underlying3) (eqf_cons w rfl (part_one w ON3 rfl) (part_one w ON3 rfl) (run_equalIn_int w _ _ _ _ _ _ Try.underlying3) (eqf_cons w rfl (part_one w ON3 rfl) (part_one w ON3 rfl) (run_equalIn_int w _ _ _ _ _ _ Try.underlying3) (eqf_nil w)))))
instance : DecidableEq Branch := fun a b => decidable_of_decidable_of_iff (p := (a.var = b.var ∧ a.low = b.low ∧ a.high = b.high)) ⟨fun h => by cases a; cases b; simp_all, fun h => by subst h; simp⟩
theorem MK47 : MK Try.prog 47 ek47 :=
  MK.struct Try.underlying47 (fun w em x => by
      rw [show (10000 : Nat) = 9998 + 1 + 1 from rfl, Instr.checkKey]
      have hp3 : ∀ (cs : Array Value) (off : Nat) (v : Value), cs[off]? = some v → (part 3 cs off).run Try.prog w = .ok v w := fun cs off v h => part_one w ON3 h
      have hk3 : ∀ k : Int, (Instr.checkKey em (9998 + 1) 3 (.int .i64 k)).run Try.prog w = .ok () w := fun k => by rw [Instr.checkKey]; simp [run_underlying Try.underlying3]
      simp [run_underlying Try.underlying47, hp3, hk3])
    (fun x => by simp [Instr.sameBits]) (fun w x y => by
      rw [EM47 w]
      congr 1
      cases x; cases y
      rw [Bool.eq_iff_iff]; simp)
abbrev ev3 (n : Int) : Value := .int .i64 n
theorem SZ34 : (Try.prog.info? 34).map (·.size) = some 1 := by kernel_rfl
theorem ON34 : one Try.prog 34 = true := by kernel_rfl
theorem SZ22 : (Try.prog.info? 22).map (·.size) = some 1 := by kernel_rfl
theorem ON22 : one Try.prog 22 = true := by kernel_rfl
theorem IF47 : (Try.prog.info? 47).map (fun i => (i.zero, i.size, i.bytes)) = some (some (.agg #[.int .i64 0, .int .i64 0, .int .i64 0]), 3, 24) := by kernel_rfl
structure T39 where
  maker : T36
  a : List Branch
  b : List Branch
  done : List ((Int × Int) × Int)
abbrev ek51 : Int × Int → Value := ekP
theorem MK51 : MK Try.prog 51 ek51 := MK.pair Try.underlying51 Try.underlying3 SZ3
theorem SZ37 : (Try.prog.info? 37).map (·.size) = some 1 := by kernel_rfl
theorem ON37 : one Try.prog 37 = true := by kernel_rfl
theorem ZI51 : (Try.prog.info? 51).bind (·.zero) = some (.agg #[.int .i64 0, .int .i64 0]) := by kernel_rfl
theorem PA51 : plA Try.prog 51 = some 1 := by kernel_rfl
theorem SZ36 : (Try.prog.info? 36).map (·.size) = some 2 := by kernel_rfl
theorem ZI47 : (Try.prog.info? 47).bind (·.zero) = some (.agg #[.int .i64 0, .int .i64 0, .int .i64 0]) := by kernel_rfl
theorem PL47 : plS Try.prog 47 = some [(0, 1), (1, 1), (2, 1)] := by kernel_rfl
theorem ON56 : one Try.prog 56 = true := by kernel_rfl
theorem ON55 : one Try.prog 55 = true := by kernel_rfl
theorem ZI36 : (Try.prog.info? 36).bind (·.zero) = some (.agg #[.slice none 0 0, .map none]) := by kernel_rfl
theorem PL36 : plS Try.prog 36 = some [(0, 1), (1, 1)] := by kernel_rfl
theorem ZR55 : (Try.prog.info? 55).bind (·.zero) = some (.pointer none) := by kernel_rfl
theorem SZ55 : (Try.prog.info? 55).map (·.size) = some 1 := by kernel_rfl
theorem ZR56 : (Try.prog.info? 56).bind (·.zero) = some (.nilFunc) := by kernel_rfl
theorem SZ56 : (Try.prog.info? 56).map (·.size) = some 1 := by kernel_rfl
theorem ZI39 : (Try.prog.info? 39).bind (·.zero) = some (.agg #[.slice none 0 0, .map none, .slice none 0 0, .slice none 0 0, .map none]) := by kernel_rfl
theorem PL39 : plS Try.prog 39 = some [(0, 2), (2, 1), (3, 1), (4, 1)] := by kernel_rfl
theorem IF4 : (Try.prog.info? 4).map (fun i => (i.zero, i.size, i.bytes)) = some (some (.bool false), 1, 1) := by kernel_rfl
theorem SZ4 : (Try.prog.info? 4).map (·.size) = some 1 := by kernel_rfl
theorem ON4 : one Try.prog 4 = true := by kernel_rfl
theorem FM : Try.prog.follows .mixedOrders = true := by kernel_rfl

def choice_wrong_k3 (l_1 : List Branch) (root_2 : Int) : Option (Int) :=
  (bif ((decide (root_2 < (0 : Int))) || (decide (root_2 > (w64 ((l_1.length : Int) + (1 : Int)))))) then
  some ((2 : Int))
  else
  some ((0 : Int)))

def choice_wrong_k18 (nx8 : (Unit → Option (Int))) : Option (Int) :=
  nx8 ()

def choice_wrong_b22 (l_1 : List Branch) (t_6 : Int) (y10 : Branch) (t_21 : Int) (nx23 : Unit → Option (Int)) : Option (Int) :=
  (geti (([y10.low, y10.high] : List Int)) t_21).bind fun y25 =>
  bif (!((((decide (y25 < (0 : Int))) || (decide (y25 > (w64 (t_6 + (1 : Int)))))) == false) && ((decide (y25 > (1 : Int))) == true)) || (geti l_1 ((w64 (y25 - (2 : Int))))).isSome) then
  (bif (((decide (y25 < (0 : Int))) || (decide (y25 > (w64 (t_6 + (1 : Int)))))) || ((decide (y25 > (1 : Int))) && (decide ((((geti l_1 ((w64 (y25 - (2 : Int))))).getD ({ var := (0 : Int), low := (0 : Int), high := (0 : Int) } : Branch))).var ≤ y10.var)))) then
  some ((3 : Int))
  else
  nx23 ()) else none

def choice_wrong_b7 (n_0 : Int) (l_1 : List Branch) (t_6 : Int) (nx8 : Unit → Option (Int)) : Option (Int) :=
  (geti l_1 t_6).bind fun y10 =>
  (bif ((decide (y10.var < (0 : Int))) || (decide (y10.var ≥ n_0))) then
  some ((4 : Int))
  else
  forK (σ := Unit) (fun i s nx_ => choice_wrong_b22 l_1 t_6 y10 i nx_) (fun _ => choice_wrong_k18 nx8) (((([y10.low, y10.high] : List Int)).length : Int) - (0 : Int)).toNat (0 : Int) ())

def choice_wrong (n_0 : Int) (l_1 : List Branch) (root_2 : Int) : Option (Int) :=
  forK (σ := Unit) (fun i s nx_ => choice_wrong_b7 n_0 l_1 i nx_) (fun _ => choice_wrong_k3 l_1 root_2) ((l_1.length : Int) - (0 : Int)).toNat (0 : Int) ()

set_option maxRecDepth 100000 in
set_option maxHeartbeats 4000000 in
theorem choice_wrong_ok (w0 : World) (m : Snap) (l : List HI) (n_0 : Int) (ul_1 : Value) (l_1 : List Branch) (hl_1 : RS rBranch m ul_1 l_1) (root_2 : Int) (r : Int) (hr : choice_wrong n_0 l_1 root_2 = some r) (w : World) (hc : cX w0 ⟨m, l⟩ w) :
    Calls Try.prog 9 [.int .i64 n_0, ul_1, .int .i64 root_2].toArray w fun e w' => e = .returned (.int .i64 r) ∧ cX w0 ⟨m, l⟩ w' := by
  unfold choice_wrong at hr
  refine calls_of_Tr (N := 71) Try.func9 rfl hc rfl (Nat.le_of_ble_eq_true rfl) ?_
  refine Tr.seq ?_
  refine Tr.region_f (fun _ => false) ?_
  refine W.q rfl rfl rfl rfl (by decide) (Yd.as rfl .c) ?_
  refine W.end ?_
  refine NX.sub (env' := [(0, _), (1, _), (2, _)]) ⟨rfl, rfl, rfl, trivial⟩ ?_
  refine NX.then ?_
  refine Tr.seq ?_
  refine Tr.seq ?_
  refine Tr.region_f (fun _ => false) ?_
  refine W.q rfl rfl rfl rfl (by decide) (Yd.mv rfl (.t rfl)) ?_
  refine W.q rfl rfl rfl rfl (by decide) (Yd.lenR hl_1 rfl Try.underlying22 (.t rfl)) ?_
  refine W.q rfl rfl rfl rfl (by decide) (Yd.mv rfl .c) ?_
  refine W.end ?_
  refine NX.sub (env' := [(0, _), (1, _), (2, _), (11, _), (12, _), (13, _)]) ⟨rfl, rfl, rfl, rfl, rfl, rfl, trivial⟩ ?_
  refine NX.then ?_
  refine Tr.join (S := fun env x => env = [(1, ul_1), (2, .int .i64 root_2)] ∧ x = ⟨m, l⟩ ∧ choice_wrong_k3 l_1 root_2 = some r) ?_ (fun hk4 => ?_)
  · rintro _ _ ⟨rfl, rfl, hr⟩
    unfold choice_wrong_k3 at hr
    try dsimp only at hr
    refine NX.then ?_
    refine Tr.seq ?_
    refine Tr.seq ?_
    refine Tr.region_f (fun _ => false) ?_
    refine W.q rfl rfl rfl rfl (by decide) (Yd.mv rfl (.t rfl)) ?_
    refine W.q rfl rfl rfl rfl (by decide) (Yd.lss rfl (.t rfl) .c) ?_
    refine W.q rfl rfl rfl rfl (by decide) (Yd.mv rfl (.t rfl)) ?_
    refine W.g rfl rfl rfl rfl rfl (.t rfl _) rfl (by decide) (fun hG => Yd.mv rfl (.t rfl)) ?_
    refine W.g rfl rfl rfl rfl rfl (.t rfl _) rfl (by decide) (fun hG => Yd.mv rfl (.t rfl)) ?_
    refine W.g rfl rfl rfl rfl rfl (.t rfl _) rfl (by decide) (fun hG => Yd.lenR hl_1 rfl Try.underlying22 (.g rfl hG)) ?_
    refine W.g rfl rfl rfl rfl rfl (.t rfl _) rfl (by decide) (fun hG => Yd.add rfl (.g rfl hG) .c) ?_
    refine W.g rfl rfl rfl rfl rfl (.t rfl _) rfl (by decide) (fun hG => Yd.gtr rfl (.g rfl hG) (.g rfl hG)) ?_
    refine W.q rfl rfl rfl rfl (by decide) (Yd.or rfl (.t rfl) .c rfl rfl) ?_
    refine W.end ?_
    refine NX.sub (env' := [(70, _)]) ⟨rfl, trivial⟩ ?_
    refine NX.then ?_
    refine Tr.cond (.t rfl) (fun hb => ?_) (fun hb => ?_)
    · have hr := cond_t hb hr
      refine Tr.seq ?_
      refine Tr.region_f (fun _ => false) ?_
      refine W.q rfl rfl rfl rfl (by decide) (Yd.as rfl .c) ?_
      refine W.end ?_
      refine NX.sub (env' := [(6, _)]) ⟨rfl, trivial⟩ ?_
      refine NX.then ?_
      refine Tr.ret' (RT.then ?_)
      refine res1 rfl rfl ?_
      intro w hc
      cases hr
      exact ⟨rfl, hc⟩
    · have hr := cond_f hb hr
      refine Tr.skip' ?_
      refine NX.then ?_
      refine Tr.seq ?_
      refine Tr.region_f (fun _ => false) ?_
      refine W.q rfl rfl rfl rfl (by decide) (Yd.as rfl .c) ?_
      refine W.end ?_
      refine NX.sub (env' := [(6, _)]) ⟨rfl, trivial⟩ ?_
      refine NX.then ?_
      refine Tr.ret' ?_
      refine res1 rfl rfl ?_
      intro w hc
      cases hr
      exact ⟨rfl, hc⟩
  have hlen5 := (hl_1).2.1
  refine Tr.block ?_
  refine Tr.sub (env' := [(0, _), (1, _), (2, _), (11, _), (12, _), (13, _)]) ⟨rfl, rfl, rfl, rfl, rfl, rfl, trivial⟩ ?_
  refine Tr.loop (S := fun n (z : Int × Unit) env x => match z with | (t_6, _) => env = [(0, .int .i64 n_0), (1, ul_1), (2, .int .i64 root_2), (11, ul_1), (12, .int .i64 ((l_1.length : Int))), (13, .int .i64 t_6)] ∧ x = ⟨m, l⟩ ∧ n = ((l_1.length : Int) - t_6).toNat ∧ 0 ≤ t_6 ∧ forK (σ := Unit) (fun i s nx_ => choice_wrong_b7 n_0 l_1 i nx_) (fun _ => choice_wrong_k3 l_1 root_2) n t_6 () = some r) _ ((0 : Int), ()) ⟨rfl, rfl, rfl, (by omega), hr⟩ ?_
  rintro n9 ⟨t_6, _⟩ env x ⟨rfl, rfl, hnt_6, h0t_6, hr⟩
  cases n9 with
  | zero =>
    simp only [forK] at hr
    refine Tr.seq ?_
    refine Tr.region_f (fun _ => false) ?_
    refine W.q rfl rfl rfl rfl (by decide) (Yd.lss rfl (.t rfl) (.t rfl)) ?_
    refine W.end ?_
    refine NX.sub (env' := [(0, _), (1, _), (2, _), (11, _), (12, _), (13, _), (14, _)]) ⟨rfl, rfl, rfl, rfl, rfl, rfl, rfl, trivial⟩ ?_
    refine NX.then ?_
    refine Tr.seq ?_
    refine Tr.cond (.t rfl) (fun hb => ?_) (fun hb => ?_)
    · exact absurd (hb.symm.trans (fr_end hnt_6)) (by decide)
    ·
      refine Tr.exit' (EX.then (EX.then (EX.block ?_)))
      refine NX.sub (env' := [(1, _), (2, _)]) ⟨rfl, rfl, trivial⟩ ?_
      exact hk4 _ _ ⟨rfl, rfl, hr⟩
  | succ n9 =>
    obtain ⟨nx8, hnx8, hr⟩ := forK_succ hr
    try dsimp only at hr
    unfold choice_wrong_b7 at hr
    try dsimp only at hr
    have hltt_6 := fr_bnd hnt_6
    refine Tr.seq ?_
    refine Tr.region_f (fun _ => false) ?_
    refine W.q rfl rfl rfl rfl (by decide) (Yd.lss rfl (.t rfl) (.t rfl)) ?_
    refine W.end ?_
    refine NX.sub (env' := [(0, _), (1, _), (2, _), (11, _), (12, _), (13, _), (14, _)]) ⟨rfl, rfl, rfl, rfl, rfl, rfl, rfl, trivial⟩ ?_
    refine NX.then ?_
    refine Tr.seq ?_
    refine Tr.cond (.t rfl) (fun hb => ?_) (fun hb => ?_)
    rotate_left
    · exact absurd (hb.symm.trans (fr_go hnt_6)) (by decide)
    ·
      refine Tr.skip' ?_
      refine NX.then ?_
      refine Tr.seq ?_
      refine Tr.block ?_
      refine Tr.seq ?_
      obtain ⟨y10, hy11, hr⟩ := bind_some hr
      refine Tr.region_f (fun i => Nat.beq i 3 || Nat.beq i 5) ?_
      refine W.q rfl rfl rfl rfl (by decide) (Yd.mv rfl (.t rfl)) ?_
      refine W.q rfl rfl rfl rfl (by decide) (Yd.idxR hl_1 hy11 rfl Try.underlying22 SZ47 (.t rfl) (.t rfl)) ?_
      refine W.q rfl rfl rfl rfl (by decide) (Yd.ldFs (us := [_, _, _]) hl_1 (.refl _) hy11 rfl rfl ON47 US47 SZ47 (.t rfl)) ?_
      refine W.e rfl rfl rfl rfl (by decide) (Ef.al rfl ZR47 rfl) ?_
      rintro _ _ ⟨b12, rfl, rfl⟩
      refine ⟨.inl rfl, ?_⟩
      refine W.cast (m' := m) (l' := hcells b12 [_, _, _] 47 :: l) rfl rfl ?_
      refine W.q rfl rfl rfl rfl (by decide) (Yd.as rfl (.t rfl)) ?_
      refine W.s rfl rfl rfl rfl (Ef.stB (pos := 0) (us := [_, _, _]) (cs' := [_, _, _]) rfl rfl (.t rfl) (.t rfl) SZ47 rfl rfl rfl (Nat.le_of_ble_eq_true rfl) rfl) ?_
      rintro _ _ ⟨rfl, rfl⟩
      refine ⟨.inl rfl, ?_⟩
      refine W.cast (m' := m) (l' := hcells b12 [_, _, _] 47 :: l) rfl rfl ?_
      refine W.end ?_
      refine NX.sub (env' := [(0, _), (1, _), (2, _), (11, _), (12, _), (13, _), (8, _), (7, _)]) ⟨rfl, rfl, rfl, rfl, rfl, rfl, rfl, rfl, trivial⟩ ?_
      refine NX.then ?_
      refine Tr.seq ?_
      refine Tr.seq ?_
      refine Tr.region_f (fun _ => false) ?_
      refine W.q rfl rfl rfl rfl (by decide) (Yd.fldB rfl Try.underlying47 rfl SZ3 rfl (.t rfl)) ?_
      refine W.q rfl rfl rfl rfl (by decide) (Yd.ldB (pos := 0) rfl rfl rfl ON3 (.t rfl)) ?_
      refine W.q rfl rfl rfl rfl (by decide) (Yd.lss rfl (.t rfl) .c) ?_
      refine W.q rfl rfl rfl rfl (by decide) (Yd.mv rfl (.t rfl)) ?_
      refine W.g rfl rfl rfl rfl rfl (.t rfl _) rfl (by decide) (fun hG => Yd.fldB rfl Try.underlying47 rfl SZ3 rfl (.t rfl)) ?_
      refine W.g rfl rfl rfl rfl rfl (.t rfl _) rfl (by decide) (fun hG => Yd.ldB (pos := 0) rfl rfl rfl ON3 (.g rfl hG)) ?_
      refine W.g rfl rfl rfl rfl rfl (.t rfl _) rfl (by decide) (fun hG => Yd.mv rfl (.t rfl)) ?_
      refine W.g rfl rfl rfl rfl rfl (.t rfl _) rfl (by decide) (fun hG => Yd.geq rfl (.g rfl hG) (.g rfl hG)) ?_
      refine W.q rfl rfl rfl rfl (by decide) (Yd.or rfl (.t rfl) .c rfl rfl) ?_
      refine W.end ?_
      refine NX.sub (env' := [(0, _), (1, _), (2, _), (11, _), (12, _), (13, _), (8, _), (7, _), (26, _)]) ⟨rfl, rfl, rfl, rfl, rfl, rfl, rfl, rfl, rfl, trivial⟩ ?_
      refine NX.then ?_
      refine Tr.cond (.t rfl) (fun hb => ?_) (fun hb => ?_)
      · have hr := cond_t hb hr
        refine Tr.seq ?_
        refine Tr.region_f (fun _ => false) ?_
        refine W.q rfl rfl rfl rfl (by decide) (Yd.as rfl .c) ?_
        refine W.end ?_
        refine NX.sub (env' := [(6, _)]) ⟨rfl, trivial⟩ ?_
        refine NX.drop (l' := l) (.cons _ (.refl _)) ?_
        refine NX.then ?_
        refine Tr.ret' (RT.then (RT.block (RT.then (RT.then (RT.block (RT.then ?_))))))
        refine res1 rfl rfl ?_
        intro w hc
        cases hr
        exact ⟨rfl, hc⟩
      · have hr := cond_f hb hr
        refine Tr.skip' ?_
        refine NX.then ?_
        refine Tr.seq ?_
        refine Tr.region_f (fun i => Nat.beq i 4) ?_
        refine W.q rfl rfl rfl rfl (by decide) (Yd.fldB rfl Try.underlying47 rfl SZ3 rfl (.t rfl)) ?_
        refine W.q rfl rfl rfl rfl (by decide) (Yd.ldB (pos := 0) rfl rfl rfl ON3 (.t rfl)) ?_
        refine W.q rfl rfl rfl rfl (by decide) (Yd.fldB rfl Try.underlying47 rfl SZ3 rfl (.t rfl)) ?_
        refine W.q rfl rfl rfl rfl (by decide) (Yd.ldB (pos := 0) rfl rfl rfl ON3 (.t rfl)) ?_
        refine W.e rfl rfl rfl rfl (by decide) (Ef.bsT (enc := encI) (vs := [_, _]) (ys := [y10.low, y10.high]) (fun _ => rfl) IF3 rfl Try.underlying48 (by decide) rfl (.cons (.t rfl) (.cons (.t rfl) .nil)) rfl rfl (by decide)) ?_
        rintro v14 _ rfl
        refine ⟨.inl rfl, ?_⟩
        refine W.cast (m' := m) (l' := hownT 3 1 encI v14 _ :: hcells b12 [_, _, _] 47 :: l) rfl rfl ?_
        refine W.q rfl rfl rfl rfl (by decide) (Yd.lenO (p := 0) rfl rfl Try.underlying48 (.t rfl)) ?_
        refine W.q rfl rfl rfl rfl (by decide) (Yd.mv rfl .c) ?_
        refine W.end ?_
        refine NX.sub (env' := [(0, _), (1, _), (2, _), (11, _), (12, _), (13, _), (8, _), (7, _), (31, _), (32, _), (33, _)]) ⟨rfl, rfl, rfl, rfl, rfl, rfl, rfl, rfl, rfl, rfl, rfl, trivial⟩ ?_
        refine NX.then ?_
        refine Tr.join (S := fun env x => env = [(0, .int .i64 n_0), (1, ul_1), (2, .int .i64 root_2), (11, ul_1), (12, .int .i64 ((l_1.length : Int))), (13, .int .i64 t_6)] ∧ x = ⟨m, l⟩ ∧ choice_wrong_k18 nx8 = some r) ?_ (fun hk19 => ?_)
        · rintro _ _ ⟨rfl, rfl, hr⟩
          unfold choice_wrong_k18 at hr
          try dsimp only at hr
          refine NX.block ?_
          refine NX.then ?_
          refine Tr.region_f (fun _ => false) ?_
          refine W.q rfl rfl rfl rfl (by decide) (Yd.add rfl (.t rfl) .c) ?_
          refine W.q rfl rfl rfl rfl (by decide) (Yd.mv rfl (.t rfl)) ?_
          refine W.end ?_
          refine NX.sub (env' := [(0, _), (1, _), (2, _), (11, _), (12, _), (13, _)]) ⟨rfl, rfl, rfl, rfl, rfl, rfl, trivial⟩ ?_
          refine NX.sub (env' := [(0, _), (1, _), (2, _), (11, _), (12, _), (13, _)]) ⟨rfl, rfl, rfl, rfl, rfl, rfl, trivial⟩ ?_
          have hw := w64_id (n := t_6 + 1) (by omega) (by omega)
          exact NX.again n9 (t_6 + 1, ()) (Nat.lt_succ_self _) ⟨(by rw [hw] <;> rfl), rfl, (fr_dec hnt_6), (by omega), ((hnx8 _).symm.trans hr)⟩
        refine Tr.lenO (pos := 0) rfl (fun hlen20 => ?_)
        refine Tr.block ?_
        refine Tr.sub (env' := [(0, _), (1, _), (2, _), (7, _), (8, _), (11, _), (12, _), (13, _), (31, _), (32, _), (33, _)]) ⟨rfl, rfl, rfl, rfl, rfl, rfl, rfl, rfl, rfl, rfl, rfl, trivial⟩ ?_
        refine Tr.loop (S := fun n (z : Int × Unit) env x => match z with | (t_21, _) => env = [(0, .int .i64 n_0), (1, ul_1), (2, .int .i64 root_2), (7, .int .i64 t_6), (8, bp b12 0), (11, ul_1), (12, .int .i64 ((l_1.length : Int))), (13, .int .i64 t_6), (31, v14), (32, .int .i64 (((([y10.low, y10.high] : List Int)).length : Int))), (33, .int .i64 t_21)] ∧ x = ⟨m, hownT 3 1 encI v14 (([y10.low, y10.high] : List Int)) :: hcells b12 [.int .i64 y10.var, .int .i64 y10.low, .int .i64 y10.high] 47 :: l⟩ ∧ n = (((([y10.low, y10.high] : List Int)).length : Int) - t_21).toNat ∧ 0 ≤ t_21 ∧ forK (σ := Unit) (fun i s nx_ => choice_wrong_b22 l_1 t_6 y10 i nx_) (fun _ => choice_wrong_k18 nx8) n t_21 () = some r) _ ((0 : Int), ()) ⟨rfl, rfl, rfl, (by omega), hr⟩ ?_
        rintro n24 ⟨t_21, _⟩ env x ⟨rfl, rfl, hnt_21, h0t_21, hr⟩
        cases n24 with
        | zero =>
          simp only [forK] at hr
          refine Tr.seq ?_
          refine Tr.region_f (fun _ => false) ?_
          refine W.q rfl rfl rfl rfl (by decide) (Yd.lss rfl (.t rfl) (.t rfl)) ?_
          refine W.end ?_
          refine NX.sub (env' := [(0, _), (1, _), (2, _), (7, _), (8, _), (11, _), (12, _), (13, _), (31, _), (32, _), (33, _), (34, _)]) ⟨rfl, rfl, rfl, rfl, rfl, rfl, rfl, rfl, rfl, rfl, rfl, rfl, trivial⟩ ?_
          refine NX.then ?_
          refine Tr.seq ?_
          refine Tr.cond (.t rfl) (fun hb => ?_) (fun hb => ?_)
          · exact absurd (hb.symm.trans (fr_end hnt_21)) (by decide)
          ·
            refine Tr.exit' (EX.then (EX.then (EX.block ?_)))
            refine NX.sub (env' := [(0, _), (1, _), (2, _), (11, _), (12, _), (13, _)]) ⟨rfl, rfl, rfl, rfl, rfl, rfl, trivial⟩ ?_
            refine NX.drop (l' := l) (.cons _ (.cons _ (.refl _))) ?_
            exact hk19 _ _ ⟨rfl, rfl, hr⟩
        | succ n24 =>
          obtain ⟨nx23, hnx23, hr⟩ := forK_succ hr
          try dsimp only at hr
          unfold choice_wrong_b22 at hr
          try dsimp only at hr
          have hltt_21 := fr_bnd hnt_21
          refine Tr.seq ?_
          refine Tr.region_f (fun _ => false) ?_
          refine W.q rfl rfl rfl rfl (by decide) (Yd.lss rfl (.t rfl) (.t rfl)) ?_
          refine W.end ?_
          refine NX.sub (env' := [(0, _), (1, _), (2, _), (7, _), (8, _), (11, _), (12, _), (13, _), (31, _), (32, _), (33, _), (34, _)]) ⟨rfl, rfl, rfl, rfl, rfl, rfl, rfl, rfl, rfl, rfl, rfl, rfl, trivial⟩ ?_
          refine NX.then ?_
          refine Tr.seq ?_
          refine Tr.cond (.t rfl) (fun hb => ?_) (fun hb => ?_)
          rotate_left
          · exact absurd (hb.symm.trans (fr_go hnt_21)) (by decide)
          ·
            refine Tr.skip' ?_
            refine NX.then ?_
            refine Tr.seq ?_
            refine Tr.block ?_
            refine Tr.seq ?_
            obtain ⟨y25, hy26, hr⟩ := bind_some hr
            refine Tr.region_f (fun _ => false) ?_
            refine W.q rfl rfl rfl rfl (by decide) (Yd.idxT (pos := 0) rfl hy26 rfl Try.underlying48 SZ3 (.t rfl) (.t rfl)) ?_
            refine W.q rfl rfl rfl rfl (by decide) (Yd.ldT (enc := encI) (n := 1) (pos := 0) (fun _ => rfl) rfl hy26 rfl rfl ON3 (.t rfl)) ?_
            refine W.q rfl rfl rfl rfl (by decide) (Yd.as rfl (.t rfl)) ?_
            refine W.end ?_
            refine NX.sub (env' := [(0, _), (1, _), (2, _), (7, _), (8, _), (11, _), (12, _), (13, _), (31, _), (32, _), (33, _), (10, _)]) ⟨rfl, rfl, rfl, rfl, rfl, rfl, rfl, rfl, rfl, rfl, rfl, rfl, trivial⟩ ?_
            refine NX.then ?_
            refine Tr.seq ?_
            obtain ⟨ha27, hr⟩ := guard_some hr
            refine Tr.region_x (fun _ => false) (fun _ => false) (Ord.of [0, 1, 2, 3, 4, 5, 6, 7, 8, 9, 10, 11, 12, 13, 14, 15, 16, 17, 18, 19, 20, 21, 22]) FM (by kernel_rfl) ?_
            refine W.q rfl rfl rfl rfl (by decide) (Yd.mv rfl (.t rfl)) ?_
            refine W.q rfl rfl rfl rfl (by decide) (Yd.lss rfl (.t rfl) .c) ?_
            refine W.q rfl rfl rfl rfl (by decide) (Yd.mv rfl (.t rfl)) ?_
            refine W.g rfl rfl rfl rfl rfl (.t rfl _) rfl (by decide) (fun hG => Yd.mv rfl (.t rfl)) ?_
            refine W.g rfl rfl rfl rfl rfl (.t rfl _) rfl (by decide) (fun hG => Yd.mv rfl (.t rfl)) ?_
            refine W.g rfl rfl rfl rfl rfl (.t rfl _) rfl (by decide) (fun hG => Yd.add rfl (.g rfl hG) .c) ?_
            refine W.g rfl rfl rfl rfl rfl (.t rfl _) rfl (by decide) (fun hG => Yd.gtr rfl (.g rfl hG) (.g rfl hG)) ?_
            refine W.q rfl rfl rfl rfl (by decide) (Yd.or rfl (.t rfl) .c rfl rfl) ?_
            refine W.q rfl rfl rfl rfl (by decide) (Yd.mv rfl (.t rfl)) ?_
            refine W.g rfl rfl rfl rfl rfl (.t rfl _) rfl (by decide) (fun hG => Yd.mv rfl (.t rfl)) ?_
            refine W.g rfl rfl rfl rfl rfl (.t rfl _) rfl (by decide) (fun hG => Yd.gtr rfl (.g rfl hG) .c) ?_
            refine W.g rfl rfl rfl rfl rfl (.t rfl _) rfl (by decide) (fun hG => Yd.mv rfl (.g rfl hG)) ?_
            refine W.g rfl rfl rfl rfl rfl (.g rfl _) rfl (by decide) (fun hG => Yd.mv rfl (.t rfl)) ?_
            refine W.g rfl rfl rfl rfl rfl (.g rfl _) rfl (by decide) (fun hG => Yd.mv rfl (.t rfl)) ?_
            refine W.g rfl rfl rfl rfl rfl (.g rfl _) rfl (by decide) (fun hG => Yd.sub rfl (.g rfl hG) .c) ?_
            refine W.g rfl rfl rfl rfl rfl (.g rfl _) rfl (by decide) (fun hG => Yd.idxR hl_1 (gd_get (d := ({ var := (0 : Int), low := (0 : Int), high := (0 : Int) } : Branch)) ha27 hG) rfl Try.underlying22 SZ47 (.g rfl hG) (.g rfl hG)) ?_
            refine W.g rfl rfl rfl rfl rfl (.g rfl _) rfl (by decide) (fun hG => Yd.fldA rfl Try.underlying47 rfl SZ3 rfl (adr_head hl_1 (gd_get (d := ({ var := (0 : Int), low := (0 : Int), high := (0 : Int) } : Branch)) ha27 hG)) (.g rfl hG)) ?_
            refine W.g rfl rfl rfl rfl rfl (.g rfl _) rfl (by decide) (fun hG => Yd.ldFf hl_1 (.refl _) (gd_get (d := ({ var := (0 : Int), low := (0 : Int), high := (0 : Int) } : Branch)) ha27 hG) rfl rfl ON3 (.g rfl hG)) ?_
            refine W.g rfl rfl rfl rfl rfl (.g rfl _) rfl (by decide) (fun hG => Yd.fldB rfl Try.underlying47 rfl SZ3 rfl (.t rfl)) ?_
            refine W.g rfl rfl rfl rfl rfl (.g rfl _) rfl (by decide) (fun hG => Yd.ldB (pos := 1) rfl rfl rfl ON3 (.g rfl hG)) ?_
            refine W.g rfl rfl rfl rfl rfl (.g rfl _) rfl (by decide) (fun hG => Yd.leq rfl (.g rfl hG) (.g rfl hG)) ?_
            refine W.g rfl rfl rfl rfl rfl (.t rfl _) rfl (by decide) (fun hG => Yd.andG rfl (.g rfl hG) .c rfl rfl hG) ?_
            refine W.q rfl rfl rfl rfl (by decide) (Yd.or rfl (.t rfl) .c rfl rfl) ?_
            refine W.end ?_
            refine NX.sub (env' := [(0, _), (1, _), (2, _), (7, _), (8, _), (11, _), (12, _), (13, _), (31, _), (32, _), (33, _), (59, _)]) ⟨rfl, rfl, rfl, rfl, rfl, rfl, rfl, rfl, rfl, rfl, rfl, rfl, trivial⟩ ?_
            refine NX.then ?_
            refine Tr.cond (.t rfl) (fun hb => ?_) (fun hb => ?_)
            · have hr := cond_t hb hr
              refine Tr.seq ?_
              refine Tr.region_f (fun _ => false) ?_
              refine W.q rfl rfl rfl rfl (by decide) (Yd.as rfl .c) ?_
              refine W.end ?_
              refine NX.sub (env' := [(6, _)]) ⟨rfl, trivial⟩ ?_
              refine NX.drop (l' := l) (.cons _ (.cons _ (.refl _))) ?_
              refine NX.then ?_
              refine Tr.ret' (RT.block (RT.then (RT.then (RT.block (RT.block (RT.then (RT.then (RT.block (RT.then ?_)))))))))
              refine res1 rfl rfl ?_
              intro w hc
              cases hr
              exact ⟨rfl, hc⟩
            · have hr := cond_f hb hr
              refine Tr.skip' ?_
              refine NX.block ?_
              refine NX.then ?_
              refine Tr.region_f (fun _ => false) ?_
              refine W.q rfl rfl rfl rfl (by decide) (Yd.add rfl (.t rfl) .c) ?_
              refine W.q rfl rfl rfl rfl (by decide) (Yd.mv rfl (.t rfl)) ?_
              refine W.end ?_
              refine NX.sub (env' := [(0, _), (1, _), (2, _), (7, _), (8, _), (11, _), (12, _), (13, _), (31, _), (32, _), (33, _)]) ⟨rfl, rfl, rfl, rfl, rfl, rfl, rfl, rfl, rfl, rfl, rfl, trivial⟩ ?_
              refine NX.sub (env' := [(0, _), (1, _), (2, _), (7, _), (8, _), (11, _), (12, _), (13, _), (31, _), (32, _), (33, _)]) ⟨rfl, rfl, rfl, rfl, rfl, rfl, rfl, rfl, rfl, rfl, rfl, trivial⟩ ?_
              have hw := w64_id (n := t_21 + 1) (by omega) (by omega)
              exact NX.again n24 (t_21 + 1, ()) (Nat.lt_succ_self _) ⟨(by rw [hw] <;> rfl), rfl, (fr_dec hnt_21), (by omega), ((hnx23 _).symm.trans hr)⟩

def choice_top (l_0 : List Branch) (k_1 : Int) (n_2 : Int) : Option (Int) :=
  (bif (decide (k_1 < (2 : Int))) then
  some n_2
  else
  (geti l_0 ((w64 (k_1 - (2 : Int))))).bind fun y1 =>
  some y1.var)

set_option maxRecDepth 100000 in
set_option maxHeartbeats 4000000 in
theorem choice_top_ok (w0 : World) (m : Snap) (l : List HI) (ul_0 : Value) (l_0 : List Branch) (hl_0 : RS rBranch m ul_0 l_0) (k_1 : Int) (n_2 : Int) (r : Int) (hr : choice_top l_0 k_1 n_2 = some r) (w : World) (hc : cX w0 ⟨m, l⟩ w) :
    Calls Try.prog 15 [ul_0, .int .i64 k_1, .int .i64 n_2].toArray w fun e w' => e = .returned (.int .i64 r) ∧ cX w0 ⟨m, l⟩ w' := by
  unfold choice_top at hr
  refine calls_of_Tr (N := 16) Try.func15 rfl hc rfl (Nat.le_of_ble_eq_true rfl) ?_
  refine Tr.seq ?_
  refine Tr.region_f (fun _ => false) ?_
  refine W.q rfl rfl rfl rfl (by decide) (Yd.as rfl .c) ?_
  refine W.end ?_
  refine NX.sub (env' := [(0, _), (1, _), (2, _)]) ⟨rfl, rfl, rfl, trivial⟩ ?_
  refine NX.then ?_
  refine Tr.seq ?_
  refine Tr.seq ?_
  refine Tr.region_f (fun _ => false) ?_
  refine W.q rfl rfl rfl rfl (by decide) (Yd.mv rfl (.t rfl)) ?_
  refine W.q rfl rfl rfl rfl (by decide) (Yd.lss rfl (.t rfl) .c) ?_
  refine W.end ?_
  refine NX.sub (env' := [(0, _), (1, _), (2, _), (8, _)]) ⟨rfl, rfl, rfl, rfl, trivial⟩ ?_
  refine NX.then ?_
  refine Tr.cond (.t rfl) (fun hb => ?_) (fun hb => ?_)
  · have hr := cond_t hb hr
    refine Tr.seq ?_
    refine Tr.region_f (fun _ => false) ?_
    refine W.q rfl rfl rfl rfl (by decide) (Yd.mv rfl (.t rfl)) ?_
    refine W.q rfl rfl rfl rfl (by decide) (Yd.as rfl (.t rfl)) ?_
    refine W.end ?_
    refine NX.sub (env' := [(6, _)]) ⟨rfl, trivial⟩ ?_
    refine NX.then ?_
    refine Tr.ret' (RT.then ?_)
    refine res1 rfl rfl ?_
    intro w hc
    cases hr
    exact ⟨rfl, hc⟩
  · have hr := cond_f hb hr
    refine Tr.skip' ?_
    refine NX.then ?_
    refine Tr.seq ?_
    obtain ⟨y1, hy2, hr⟩ := bind_some hr
    refine Tr.region_f (fun _ => false) ?_
    refine W.q rfl rfl rfl rfl (by decide) (Yd.mv rfl (.t rfl)) ?_
    refine W.q rfl rfl rfl rfl (by decide) (Yd.mv rfl (.t rfl)) ?_
    refine W.q rfl rfl rfl rfl (by decide) (Yd.sub rfl (.t rfl) .c) ?_
    refine W.q rfl rfl rfl rfl (by decide) (Yd.idxR hl_0 hy2 rfl Try.underlying22 SZ47 (.t rfl) (.t rfl)) ?_
    refine W.q rfl rfl rfl rfl (by decide) (Yd.fldA rfl Try.underlying47 rfl SZ3 rfl (adr_head hl_0 hy2) (.t rfl)) ?_
    refine W.q rfl rfl rfl rfl (by decide) (Yd.ldFf hl_0 (.refl _) hy2 rfl rfl ON3 (.t rfl)) ?_
    refine W.q rfl rfl rfl rfl (by decide) (Yd.as rfl (.t rfl)) ?_
    refine W.end ?_
    refine NX.sub (env' := [(6, _)]) ⟨rfl, trivial⟩ ?_
    refine NX.then ?_
    refine Tr.ret' ?_
    refine res1 rfl rfl ?_
    intro w hc
    cases hr
    exact ⟨rfl, hc⟩

def choice_down (l_0 : List Branch) (k_1 : Int) (v_2 : Int) : Option (Int × Int) :=
  bif (!((decide (k_1 < (2 : Int))) == false) || (geti l_0 ((w64 (k_1 - (2 : Int))))).isSome) then
  (bif ((decide (k_1 < (2 : Int))) || ((((geti l_0 ((w64 (k_1 - (2 : Int))))).getD ({ var := (0 : Int), low := (0 : Int), high := (0 : Int) } : Branch))).var != v_2)) then
  some ((k_1, k_1))
  else
  (geti l_0 ((w64 (k_1 - (2 : Int))))).bind fun y2 =>
  some ((y2.low, y2.high))) else none

set_option maxRecDepth 100000 in
set_option maxHeartbeats 4000000 in
theorem choice_down_ok (w0 : World) (m : Snap) (l : List HI) (ul_0 : Value) (l_0 : List Branch) (hl_0 : RS rBranch m ul_0 l_0) (k_1 : Int) (v_2 : Int) (r : Int × Int) (hr : choice_down l_0 k_1 v_2 = some r) (w : World) (hc : cX w0 ⟨m, l⟩ w) :
    Calls Try.prog 16 [ul_0, .int .i64 k_1, .int .i64 v_2].toArray w fun e w' => e = .returned (.tuple #[.int .i64 r.1, .int .i64 r.2]) ∧ cX w0 ⟨m, l⟩ w' := by
  unfold choice_down at hr
  refine calls_of_Tr (N := 34) Try.func16 rfl hc rfl (Nat.le_of_ble_eq_true rfl) ?_
  refine Tr.seq ?_
  refine Tr.region_f (fun _ => false) ?_
  refine W.q rfl rfl rfl rfl (by decide) (Yd.as rfl .c) ?_
  refine W.q rfl rfl rfl rfl (by decide) (Yd.as rfl .c) ?_
  refine W.end ?_
  refine NX.sub (env' := [(0, _), (1, _), (2, _)]) ⟨rfl, rfl, rfl, trivial⟩ ?_
  refine NX.then ?_
  refine Tr.seq ?_
  refine Tr.seq ?_
  obtain ⟨ha1, hr⟩ := guard_some hr
  refine Tr.region_f (fun _ => false) ?_
  refine W.q rfl rfl rfl rfl (by decide) (Yd.mv rfl (.t rfl)) ?_
  refine W.q rfl rfl rfl rfl (by decide) (Yd.lss rfl (.t rfl) .c) ?_
  refine W.q rfl rfl rfl rfl (by decide) (Yd.mv rfl (.t rfl)) ?_
  refine W.g rfl rfl rfl rfl rfl (.t rfl _) rfl (by decide) (fun hG => Yd.mv rfl (.t rfl)) ?_
  refine W.g rfl rfl rfl rfl rfl (.t rfl _) rfl (by decide) (fun hG => Yd.mv rfl (.t rfl)) ?_
  refine W.g rfl rfl rfl rfl rfl (.t rfl _) rfl (by decide) (fun hG => Yd.sub rfl (.g rfl hG) .c) ?_
  refine W.g rfl rfl rfl rfl rfl (.t rfl _) rfl (by decide) (fun hG => Yd.idxR hl_0 (gd_get (d := ({ var := (0 : Int), low := (0 : Int), high := (0 : Int) } : Branch)) ha1 hG) rfl Try.underlying22 SZ47 (.g rfl hG) (.g rfl hG)) ?_
  refine W.g rfl rfl rfl rfl rfl (.t rfl _) rfl (by decide) (fun hG => Yd.fldA rfl Try.underlying47 rfl SZ3 rfl (adr_head hl_0 (gd_get (d := ({ var := (0 : Int), low := (0 : Int), high := (0 : Int) } : Branch)) ha1 hG)) (.g rfl hG)) ?_
  refine W.g rfl rfl rfl rfl rfl (.t rfl _) rfl (by decide) (fun hG => Yd.ldFf hl_0 (.refl _) (gd_get (d := ({ var := (0 : Int), low := (0 : Int), high := (0 : Int) } : Branch)) ha1 hG) rfl rfl ON3 (.g rfl hG)) ?_
  refine W.g rfl rfl rfl rfl rfl (.t rfl _) rfl (by decide) (fun hG => Yd.mv rfl (.t rfl)) ?_
  refine W.g rfl rfl rfl rfl rfl (.t rfl _) rfl (by decide) (fun hG => Yd.neq rfl (.g rfl hG) (.g rfl hG)) ?_
  refine W.q rfl rfl rfl rfl (by decide) (Yd.or rfl (.t rfl) .c rfl rfl) ?_
  refine W.end ?_
  refine NX.sub (env' := [(0, _), (1, _), (19, _)]) ⟨rfl, rfl, rfl, trivial⟩ ?_
  refine NX.then ?_
  refine Tr.cond (.t rfl) (fun hb => ?_) (fun hb => ?_)
  · have hr := cond_t hb hr
    refine Tr.seq ?_
    refine Tr.region_f (fun _ => false) ?_
    refine W.q rfl rfl rfl rfl (by decide) (Yd.mv rfl (.t rfl)) ?_
    refine W.q rfl rfl rfl rfl (by decide) (Yd.mv rfl (.t rfl)) ?_
    refine W.q rfl rfl rfl rfl (by decide) (Yd.as rfl (.t rfl)) ?_
    refine W.q rfl rfl rfl rfl (by decide) (Yd.as rfl (.t rfl)) ?_
    refine W.end ?_
    refine NX.sub (env' := [(6, _), (7, _)]) ⟨rfl, rfl, trivial⟩ ?_
    refine NX.then ?_
    refine Tr.ret' (RT.then ?_)
    refine res2 rfl rfl rfl ?_
    intro w hc
    cases hr
    exact ⟨rfl, hc⟩
  · have hr := cond_f hb hr
    refine Tr.skip' ?_
    refine NX.then ?_
    refine Tr.seq ?_
    obtain ⟨y2, hy3, hr⟩ := bind_some hr
    refine Tr.region_x (fun _ => false) (fun _ => false) (Ord.of [0, 1, 2, 3, 4, 5, 6, 7, 8, 9, 10, 11, 12, 13]) FM (by kernel_rfl) ?_
    refine W.q rfl rfl rfl rfl (by decide) (Yd.mv rfl (.t rfl)) ?_
    refine W.q rfl rfl rfl rfl (by decide) (Yd.mv rfl (.t rfl)) ?_
    refine W.q rfl rfl rfl rfl (by decide) (Yd.sub rfl (.t rfl) .c) ?_
    refine W.q rfl rfl rfl rfl (by decide) (Yd.idxR hl_0 hy3 rfl Try.underlying22 SZ47 (.t rfl) (.t rfl)) ?_
    refine W.q rfl rfl rfl rfl (by decide) (Yd.fldA rfl Try.underlying47 rfl SZ3 rfl (adr_head hl_0 hy3) (.t rfl)) ?_
    refine W.q rfl rfl rfl rfl (by decide) (Yd.ldFf hl_0 (.refl _) hy3 rfl rfl ON3 (.t rfl)) ?_
    refine W.q rfl rfl rfl rfl (by decide) (Yd.mv rfl (.t rfl)) ?_
    refine W.q rfl rfl rfl rfl (by decide) (Yd.mv rfl (.t rfl)) ?_
    refine W.q rfl rfl rfl rfl (by decide) (Yd.sub rfl (.t rfl) .c) ?_
    refine W.q rfl rfl rfl rfl (by decide) (Yd.idxR hl_0 hy3 rfl Try.underlying22 SZ47 (.t rfl) (.t rfl)) ?_
    refine W.q rfl rfl rfl rfl (by decide) (Yd.fldA rfl Try.underlying47 rfl SZ3 rfl (adr_head hl_0 hy3) (.t rfl)) ?_
    refine W.q rfl rfl rfl rfl (by decide) (Yd.ldFf hl_0 (.refl _) hy3 rfl rfl ON3 (.t rfl)) ?_
    refine W.q rfl rfl rfl rfl (by decide) (Yd.as rfl (.t rfl)) ?_
    refine W.q rfl rfl rfl rfl (by decide) (Yd.as rfl (.t rfl)) ?_
    refine W.end ?_
    refine NX.sub (env' := [(6, _), (7, _)]) ⟨rfl, rfl, trivial⟩ ?_
    refine NX.then ?_
    refine Tr.ret' ?_
    refine res2 rfl rfl rfl ?_
    intro w hc
    cases hr
    exact ⟨rfl, hc⟩

def choice_maker_put (m_0 : T36) (b_1 : Branch) : Option (Int × T36) :=
  (bif (b_1.low == b_1.high) then
  some ((b_1.low, ({ l := m_0.l, known := m_0.known } : T36)))
  else
  (bif (!(mget m_0.known (({ var := b_1.var, low := b_1.low, high := b_1.high } : Branch))).isSome) then
  bif decide (m_0.l.length + (([({ var := b_1.var, low := b_1.low, high := b_1.high } : Branch)] : List Branch)).length ≤ 5864062014805) then
  some (((w64 ((((m_0.l ++ ([({ var := b_1.var, low := b_1.low, high := b_1.high } : Branch)] : List Branch))).length : Int) + (1 : Int))), ({ l := (m_0.l ++ ([({ var := b_1.var, low := b_1.low, high := b_1.high } : Branch)] : List Branch)), known := (mput m_0.known (({ var := b_1.var, low := b_1.low, high := b_1.high } : Branch)) ((w64 ((((m_0.l ++ ([({ var := b_1.var, low := b_1.low, high := b_1.high } : Branch)] : List Branch))).length : Int) + (1 : Int))))) } : T36))) else none
  else
  some ((((mget m_0.known (({ var := b_1.var, low := b_1.low, high := b_1.high } : Branch))).getD (0 : Int)), ({ l := m_0.l, known := m_0.known } : T36)))))

set_option maxRecDepth 100000 in
set_option maxHeartbeats 4000000 in
theorem choice_maker_put_ok (w0 : World) (m : Snap) (l : List HI) (bm_0 : Nat) (m_0 : T36) (um_0_0 : Value) (mbm_0_1 : Nat) (xt0 : List Value) (tt0 : Nat) (b_1 : Branch) (r : Int × T36) (hr : choice_maker_put m_0 b_1 = some r) (w : World) (hc : cX w0 ⟨m, hcells bm_0 (um_0_0 :: (.map (some mbm_0_1)) :: xt0) tt0 :: hownT 47 3 Branch.enc um_0_0 m_0.l :: hmap mbm_0_1 ek47 ev3 m_0.known :: l⟩ w) :
    Calls Try.prog 17 [bp bm_0 0, .agg #[.int .i64 b_1.var, .int .i64 b_1.low, .int .i64 b_1.high]].toArray w fun e w' => ∃ q0 : Value, e = .returned (.int .i64 r.1) ∧ cX w0 ⟨m, hcells bm_0 (q0 :: (.map (some mbm_0_1)) :: xt0) tt0 :: hownT 47 3 Branch.enc q0 r.2.l :: hmap mbm_0_1 ek47 ev3 r.2.known :: l⟩ w' := by
  unfold choice_maker_put at hr
  refine calls_of_Tr (N := 48) Try.func17 rfl hc rfl (Nat.le_of_ble_eq_true rfl) ?_
  refine Tr.seq ?_
  refine Tr.region_f (fun i => Nat.beq i 0) ?_
  refine W.e rfl rfl rfl rfl (by decide) (Ef.bx rfl (.t rfl) rfl) ?_
  rintro _ _ ⟨b1, rfl, rfl⟩
  refine ⟨.inl rfl, ?_⟩
  refine W.cast (m' := m) (l' := hcells b1 [_, _, _] 47 :: hcells bm_0 (_ :: _ :: xt0) tt0 :: hownT 47 3 Branch.enc um_0_0 _ :: hmap mbm_0_1 ek47 ev3 _ :: l) rfl rfl ?_
  refine W.q rfl rfl rfl rfl (by decide) (Yd.as rfl .c) ?_
  refine W.end ?_
  refine NX.sub (env' := [(0, _), (3, _)]) ⟨rfl, rfl, trivial⟩ ?_
  refine NX.then ?_
  refine Tr.seq ?_
  refine Tr.seq ?_
  refine Tr.region_f (fun _ => false) ?_
  refine W.q rfl rfl rfl rfl (by decide) (Yd.fldB rfl Try.underlying47 rfl SZ3 rfl (.t rfl)) ?_
  refine W.q rfl rfl rfl rfl (by decide) (Yd.ldB (pos := 0) rfl rfl rfl ON3 (.t rfl)) ?_
  refine W.q rfl rfl rfl rfl (by decide) (Yd.fldB rfl Try.underlying47 rfl SZ3 rfl (.t rfl)) ?_
  refine W.q rfl rfl rfl rfl (by decide) (Yd.ldB (pos := 0) rfl rfl rfl ON3 (.t rfl)) ?_
  refine W.q rfl rfl rfl rfl (by decide) (Yd.eql rfl (.t rfl) (.t rfl)) ?_
  refine W.end ?_
  refine NX.sub (env' := [(0, _), (3, _), (11, _)]) ⟨rfl, rfl, rfl, trivial⟩ ?_
  refine NX.then ?_
  refine Tr.cond (.t rfl) (fun hb => ?_) (fun hb => ?_)
  · have hr := cond_t hb hr
    refine Tr.seq ?_
    refine Tr.region_f (fun _ => false) ?_
    refine W.q rfl rfl rfl rfl (by decide) (Yd.fldB rfl Try.underlying47 rfl SZ3 rfl (.t rfl)) ?_
    refine W.q rfl rfl rfl rfl (by decide) (Yd.ldB (pos := 0) rfl rfl rfl ON3 (.t rfl)) ?_
    refine W.q rfl rfl rfl rfl (by decide) (Yd.as rfl (.t rfl)) ?_
    refine W.end ?_
    refine NX.sub (env' := [(4, _)]) ⟨rfl, trivial⟩ ?_
    refine NX.drop (l' := hcells bm_0 (_ :: _ :: xt0) tt0 :: hownT 47 3 Branch.enc um_0_0 _ :: hmap mbm_0_1 ek47 ev3 _ :: l) (.cons _ (.cons_cons _ (.cons_cons _ (.cons_cons _ (.refl _))))) ?_
    refine NX.then ?_
    refine Tr.ret' (RT.then ?_)
    refine res1 rfl rfl ?_
    intro w hc
    cases hr
    exact ⟨_, rfl, hc⟩
  · have hr := cond_f hb hr
    refine Tr.skip' ?_
    refine NX.then ?_
    refine Tr.seq ?_
    refine Tr.region_x (fun _ => false) (fun _ => false) (Ord.of [0, 1, 2, 3, 4, 5, 6, 7, 8, 9, 10]) FM (by kernel_rfl) ?_
    refine W.q rfl rfl rfl rfl (by decide) (Yd.mv rfl (.t rfl)) ?_
    refine W.q rfl rfl rfl rfl (by decide) (Yd.nilc rfl (.t rfl)) ?_
    refine W.q rfl rfl rfl rfl (by decide) (Yd.fldB rfl Try.underlying36 rfl SZ34 rfl (.t rfl)) ?_
    refine W.q rfl rfl rfl rfl (by decide) (Yd.ldB (pos := 1) rfl rfl rfl ON34 (.t rfl)) ?_
    refine W.q rfl rfl rfl rfl (by decide) (Yd.ldBs (pos := 0) (us := [_, _, _]) rfl rfl rfl rfl ON47 US47 SZ47 (.t rfl)) ?_
    refine W.q rfl rfl rfl rfl (by decide) (Yd.mlook2E MK47 (pos := 3) (k := ({ var := b_1.var, low := b_1.low, high := b_1.high } : Branch)) (d := (0 : Int)) rfl rfl Try.underlying34 IF3 (.t rfl) (.t rfl)) ?_
    refine W.q rfl rfl rfl rfl (by decide) (Yd.mv rfl (.t rfl)) ?_
    refine W.q rfl rfl rfl rfl (by decide) (Yd.ext rfl (.t rfl) rfl) ?_
    refine W.q rfl rfl rfl rfl (by decide) (Yd.ext rfl (.t rfl) rfl) ?_
    refine W.q rfl rfl rfl rfl (by decide) (Yd.as rfl (.t rfl)) ?_
    refine W.q rfl rfl rfl rfl (by decide) (Yd.as rfl (.t rfl)) ?_
    refine W.end ?_
    refine NX.sub (env' := [(0, _), (3, _), (5, _), (6, _)]) ⟨rfl, rfl, rfl, rfl, trivial⟩ ?_
    refine NX.then ?_
    refine Tr.seq ?_
    refine Tr.seq ?_
    refine Tr.region_f (fun _ => false) ?_
    refine W.q rfl rfl rfl rfl (by decide) (Yd.mv rfl (.t rfl)) ?_
    refine W.q rfl rfl rfl rfl (by decide) (Yd.not rfl (.t rfl)) ?_
    refine W.end ?_
    refine NX.sub (env' := [(0, _), (3, _), (5, _), (24, _)]) ⟨rfl, rfl, rfl, rfl, trivial⟩ ?_
    refine NX.then ?_
    refine Tr.cond (.t rfl) (fun hb => ?_) (fun hb => ?_)
    · have hr := cond_t hb hr
      refine Tr.seq ?_
      obtain ⟨hq6, hr⟩ := guard_some hr; replace hq6 := of_decide_eq_true hq6
      refine Tr.region_x (fun i => Nat.beq i 6 || Nat.beq i 7 || Nat.beq i 10) (fun i => Nat.beq i 0 || Nat.beq i 7 || Nat.beq i 10) (Ord.of [0, 1, 2, 3, 4, 5, 6, 7, 8, 9, 10]) FM (by kernel_rfl) ?_
      refine W.p rfl rfl rfl rfl (by decide) (fun _ => Yd.mv rfl (.t rfl)) ?_
      refine W.q rfl rfl rfl rfl (by decide) (Yd.mv rfl (.t rfl)) ?_
      refine W.q rfl rfl rfl rfl (by decide) (Yd.nilc rfl (.t rfl)) ?_
      refine W.q rfl rfl rfl rfl (by decide) (Yd.fldB rfl Try.underlying36 rfl SZ22 rfl (.t rfl)) ?_
      refine W.q rfl rfl rfl rfl (by decide) (Yd.ldB (pos := 1) rfl rfl rfl ON22 (.t rfl)) ?_
      refine W.q rfl rfl rfl rfl (by decide) (Yd.ldBs (pos := 0) (us := [_, _, _]) rfl rfl rfl rfl ON47 US47 SZ47 (.t rfl)) ?_
      refine W.e rfl rfl rfl rfl (by decide) (Ef.bsT (enc := Branch.enc) (vs := [_]) (ys := [({ var := b_1.var, low := b_1.low, high := b_1.high } : Branch)]) (fun _ => rfl) IF47 rfl Try.underlying22 (by decide) rfl (.cons (.t rfl) .nil) rfl rfl (by decide)) ?_
      rintro v3 _ rfl
      refine ⟨.inr ⟨.refl _, [_], rfl⟩, ?_⟩
      refine W.cast (m' := m) (l' := hownT 47 3 Branch.enc v3 _ :: hcells b1 [_, _, _] 47 :: hcells bm_0 (_ :: _ :: xt0) tt0 :: hownT 47 3 Branch.enc um_0_0 _ :: hmap mbm_0_1 ek47 ev3 _ :: l) rfl rfl ?_
      refine W.e rfl rfl rfl rfl (by decide) (Ef.apI (pos := 3) (enc := Branch.enc) (xs := m_0.l) (ys := ([({ var := b_1.var, low := b_1.low, high := b_1.high } : Branch)] : List Branch)) (fun _ => rfl) IF47 rfl rfl Try.underlying22 rfl (by decide) (.t rfl) (.t rfl) (Src.own (pos := 0) rfl) (fun _ => rfl) (by omega) (by omega)) ?_
      rintro v5 _ rfl
      refine ⟨.inl rfl, ?_⟩
      refine W.cast (m' := m) (l' := hownT 47 3 Branch.enc v3 _ :: hcells b1 [_, _, _] 47 :: hcells bm_0 (_ :: _ :: xt0) tt0 :: hownT 47 3 Branch.enc v5 _ :: hmap mbm_0_1 ek47 ev3 _ :: l) rfl rfl ?_
      refine W.q rfl rfl rfl rfl (by decide) (Yd.nilc rfl (.t rfl)) ?_
      refine W.q rfl rfl rfl rfl (by decide) (Yd.fldB rfl Try.underlying36 rfl SZ22 rfl (.t rfl)) ?_
      refine W.s rfl rfl rfl rfl (Ef.stBo (pos := 2) (pos2 := 3) (cs' := (_ :: _ :: xt0)) rfl rfl rfl (.t rfl) (.t rfl) SZ22 (Nat.le_of_ble_eq_true rfl) rfl) ?_
      rintro _ _ ⟨rfl, rfl⟩
      refine ⟨.inl rfl, ?_⟩
      refine W.cast (m' := m) (l' := hownT 47 3 Branch.enc v3 _ :: hcells b1 [_, _, _] 47 :: hcells bm_0 (_ :: _ :: xt0) tt0 :: hownT 47 3 Branch.enc v5 _ :: hmap mbm_0_1 ek47 ev3 _ :: l) rfl rfl ?_
      refine W.end ?_
      refine NX.sub (env' := [(0, _), (3, _)]) ⟨rfl, rfl, trivial⟩ ?_
      refine NX.drop (l' := hcells b1 [_, _, _] 47 :: hcells bm_0 (_ :: _ :: xt0) tt0 :: hownT 47 3 Branch.enc v5 _ :: hmap mbm_0_1 ek47 ev3 _ :: l) (.cons _ (.cons_cons _ (.cons_cons _ (.cons_cons _ (.cons_cons _ (.refl _)))))) ?_
      refine NX.then ?_
      refine Tr.seq ?_
      refine Tr.region_f (fun _ => false) ?_
      refine W.q rfl rfl rfl rfl (by decide) (Yd.mv rfl (.t rfl)) ?_
      refine W.q rfl rfl rfl rfl (by decide) (Yd.nilc rfl (.t rfl)) ?_
      refine W.q rfl rfl rfl rfl (by decide) (Yd.fldB rfl Try.underlying36 rfl SZ22 rfl (.t rfl)) ?_
      refine W.q rfl rfl rfl rfl (by decide) (Yd.ldB (pos := 1) rfl rfl rfl ON22 (.t rfl)) ?_
      refine W.q rfl rfl rfl rfl (by decide) (Yd.lenO (p := 2) rfl rfl Try.underlying22 (.t rfl)) ?_
      refine W.q rfl rfl rfl rfl (by decide) (Yd.add rfl (.t rfl) .c) ?_
      refine W.q rfl rfl rfl rfl (by decide) (Yd.as rfl (.t rfl)) ?_
      refine W.end ?_
      refine NX.sub (env' := [(0, _), (3, _), (5, _)]) ⟨rfl, rfl, rfl, trivial⟩ ?_
      refine NX.then ?_
      refine Tr.region_x (fun i => Nat.beq i 6) (fun i => Nat.beq i 6) (Ord.of [0, 1, 2, 3, 4, 5, 6]) FM (by kernel_rfl) ?_
      refine W.q rfl rfl rfl rfl (by decide) (Yd.mv rfl (.t rfl)) ?_
      refine W.q rfl rfl rfl rfl (by decide) (Yd.nilc rfl (.t rfl)) ?_
      refine W.q rfl rfl rfl rfl (by decide) (Yd.fldB rfl Try.underlying36 rfl SZ34 rfl (.t rfl)) ?_
      refine W.q rfl rfl rfl rfl (by decide) (Yd.ldB (pos := 1) rfl rfl rfl ON34 (.t rfl)) ?_
      refine W.q rfl rfl rfl rfl (by decide) (Yd.ldBs (pos := 0) (us := [_, _, _]) rfl rfl rfl rfl ON47 US47 SZ47 (.t rfl)) ?_
      refine W.q rfl rfl rfl rfl (by decide) (Yd.mv rfl (.t rfl)) ?_
      refine W.s rfl rfl rfl rfl (Ef.mset MK47 (pos := 3) (k := ({ var := b_1.var, low := b_1.low, high := b_1.high } : Branch)) (v := (w64 ((((m_0.l ++ ([({ var := b_1.var, low := b_1.low, high := b_1.high } : Branch)] : List Branch))).length : Int) + (1 : Int)))) rfl rfl Try.underlying34 (.t rfl) (.t rfl) (.t rfl)) ?_
      rintro _ _ ⟨rfl, rfl⟩
      refine ⟨.inl rfl, ?_⟩
      refine W.cast (m' := m) (l' := hcells b1 [_, _, _] 47 :: hcells bm_0 (_ :: _ :: xt0) tt0 :: hownT 47 3 Branch.enc v5 _ :: hmap mbm_0_1 ek47 ev3 _ :: l) rfl rfl ?_
      refine W.end ?_
      refine NX.sub (env' := [(5, _)]) ⟨rfl, trivial⟩ ?_
      refine NX.drop (l' := hcells bm_0 (_ :: _ :: xt0) tt0 :: hownT 47 3 Branch.enc v5 _ :: hmap mbm_0_1 ek47 ev3 _ :: l) (.cons _ (.cons_cons _ (.cons_cons _ (.cons_cons _ (.refl _))))) ?_
      refine NX.then ?_
      refine Tr.seq ?_
      refine Tr.region_f (fun _ => false) ?_
      refine W.q rfl rfl rfl rfl (by decide) (Yd.mv rfl (.t rfl)) ?_
      refine W.q rfl rfl rfl rfl (by decide) (Yd.as rfl (.t rfl)) ?_
      refine W.end ?_
      refine NX.sub (env' := [(4, _)]) ⟨rfl, trivial⟩ ?_
      refine NX.then ?_
      refine Tr.ret' ?_
      refine res1 rfl rfl ?_
      intro w hc
      cases hr
      exact ⟨_, rfl, hc⟩
    · have hr := cond_f hb hr
      refine Tr.skip' ?_
      refine NX.then ?_
      refine Tr.seq ?_
      refine Tr.region_f (fun _ => false) ?_
      refine W.q rfl rfl rfl rfl (by decide) (Yd.mv rfl (.t rfl)) ?_
      refine W.q rfl rfl rfl rfl (by decide) (Yd.as rfl (.t rfl)) ?_
      refine W.end ?_
      refine NX.sub (env' := [(4, _)]) ⟨rfl, trivial⟩ ?_
      refine NX.drop (l' := hcells bm_0 (_ :: _ :: xt0) tt0 :: hownT 47 3 Branch.enc um_0_0 _ :: hmap mbm_0_1 ek47 ev3 _ :: l) (.cons _ (.cons_cons _ (.cons_cons _ (.cons_cons _ (.refl _))))) ?_
      refine NX.then ?_
      refine Tr.ret' ?_
      refine res1 rfl rfl ?_
      intro w hc
      cases hr
      exact ⟨_, rfl, hc⟩

def choice_both_and_s (slf : (T39 → Int → Int → Int → Option (Int × T39))) (t_0 : T39) (x_1 : Int) (y_2 : Int) (n_3 : Int) : Option (Int × T39) :=
  (bif ((x_1 == (0 : Int)) || (y_2 == (0 : Int))) then
  some (((0 : Int), ({ maker := ({ l := t_0.maker.l, known := t_0.maker.known } : T36), a := t_0.a, b := t_0.b, done := t_0.done } : T39)))
  else
  (choice_top t_0.a x_1 n_3).bind fun r1 =>
  (choice_top t_0.b y_2 n_3).bind fun r3 =>
  (bif ((if r3 < r1 then r3 else r1) == n_3) then
  some (((1 : Int), ({ maker := ({ l := t_0.maker.l, known := t_0.maker.known } : T36), a := t_0.a, b := t_0.b, done := t_0.done } : T39)))
  else
  (bif (mget t_0.done ((x_1, y_2))).isSome then
  some ((((mget t_0.done ((x_1, y_2))).getD (0 : Int)), ({ maker := ({ l := t_0.maker.l, known := t_0.maker.known } : T36), a := t_0.a, b := t_0.b, done := t_0.done } : T39)))
  else
  (choice_down t_0.a x_1 ((if r3 < r1 then r3 else r1))).bind fun r5 =>
  (choice_down t_0.b y_2 ((if r3 < r1 then r3 else r1))).bind fun r7 =>
  (slf (({ maker := ({ l := t_0.maker.l, known := t_0.maker.known } : T36), a := t_0.a, b := t_0.b, done := t_0.done } : T39)) r5.1 r7.1 n_3).bind fun r9 =>
  (slf (({ maker := ({ l := r9.2.maker.l, known := r9.2.maker.known } : T36), a := t_0.a, b := t_0.b, done := r9.2.done } : T39)) r5.2 r7.2 n_3).bind fun r12 =>
  (choice_maker_put (({ l := r12.2.maker.l, known := r12.2.maker.known } : T36)) (({ var := (if r3 < r1 then r3 else r1), low := r9.1, high := r12.1 } : Branch))).bind fun r15 =>
  some ((r15.1, ({ maker := ({ l := r15.2.l, known := r15.2.known } : T36), a := t_0.a, b := t_0.b, done := (mput r12.2.done ((x_1, y_2)) r15.1) } : T39))))))

def choice_both_and (fuel : Nat) (t_0 : T39) (x_1 : Int) (y_2 : Int) (n_3 : Int) : Option (Int × T39) :=
  match fuel with
  | 0 => none
  | fuel + 1 => choice_both_and_s (choice_both_and fuel) t_0 x_1 y_2 n_3

set_option maxRecDepth 100000 in
set_option maxHeartbeats 4000000 in
theorem choice_both_and_ok (w0 : World) (m : Snap) (l : List HI) (fuel : Nat) : ∀ (bt_0 : Nat) (t_0 : T39) (ut_0_0 : Value) (mbt_0_1 : Nat) (ut_0_2 : Value) (ht_0_2 : RS rBranch m ut_0_2 t_0.a) (ut_0_3 : Value) (ht_0_3 : RS rBranch m ut_0_3 t_0.b) (mbt_0_4 : Nat) (x_1 : Int) (y_2 : Int) (n_3 : Int) (r : Int × T39) (_ : choice_both_and fuel t_0 x_1 y_2 n_3 = some r) (w : World) (_ : cX w0 ⟨m, hcells bt_0 [ut_0_0, (.map (some mbt_0_1)), ut_0_2, ut_0_3, (.map (some mbt_0_4))] 39 :: hownT 47 3 Branch.enc ut_0_0 t_0.maker.l :: hmap mbt_0_1 ek47 ev3 t_0.maker.known :: hmap mbt_0_4 ek51 ev3 t_0.done :: l⟩ w),
    Calls Try.prog 10 [bp bt_0 0, .int .i64 x_1, .int .i64 y_2, .int .i64 n_3].toArray w fun e w' => ∃ q0 : Value, e = .returned (.int .i64 r.1) ∧ cX w0 ⟨m, hcells bt_0 [q0, (.map (some mbt_0_1)), ut_0_2, ut_0_3, (.map (some mbt_0_4))] 39 :: hownT 47 3 Branch.enc q0 r.2.maker.l :: hmap mbt_0_1 ek47 ev3 r.2.maker.known :: hmap mbt_0_4 ek51 ev3 r.2.done :: l⟩ w' := by
  induction fuel generalizing m l with
  | zero => intro bt_0 t_0 ut_0_0 mbt_0_1 ut_0_2 ht_0_2 ut_0_3 ht_0_3 mbt_0_4 x_1 y_2 n_3 r hr; simp [choice_both_and] at hr
  | succ fuel ih =>
  intro bt_0 t_0 ut_0_0 mbt_0_1 ut_0_2 ht_0_2 ut_0_3 ht_0_3 mbt_0_4 x_1 y_2 n_3 r hr w hc
  replace hr : choice_both_and_s (choice_both_and fuel) t_0 x_1 y_2 n_3 = some r := hr
  obtain ⟨slf, hslf⟩ : ∃ f, f = choice_both_and fuel := ⟨_, rfl⟩
  rw [← hslf] at hr ih
  unfold choice_both_and_s at hr
  refine calls_of_Tr (N := 101) Try.func10 rfl hc rfl (Nat.le_of_ble_eq_true rfl) ?_
  refine Tr.seq ?_
  refine Tr.region_f (fun _ => false) ?_
  refine W.q rfl rfl rfl rfl (by decide) (Yd.as rfl .c) ?_
  refine W.end ?_
  refine NX.sub (env' := [(0, _), (1, _), (2, _), (3, _)]) ⟨rfl, rfl, rfl, rfl, trivial⟩ ?_
  refine NX.then ?_
  refine Tr.seq ?_
  refine Tr.seq ?_
  refine Tr.region_f (fun _ => false) ?_
  refine W.q rfl rfl rfl rfl (by decide) (Yd.mv rfl (.t rfl)) ?_
  refine W.q rfl rfl rfl rfl (by decide) (Yd.eql rfl (.t rfl) .c) ?_
  refine W.q rfl rfl rfl rfl (by decide) (Yd.mv rfl (.t rfl)) ?_
  refine W.g rfl rfl rfl rfl rfl (.t rfl _) rfl (by decide) (fun hG => Yd.mv rfl (.t rfl)) ?_
  refine W.g rfl rfl rfl rfl rfl (.t rfl _) rfl (by decide) (fun hG => Yd.eql rfl (.g rfl hG) .c) ?_
  refine W.q rfl rfl rfl rfl (by decide) (Yd.or rfl (.t rfl) .c rfl rfl) ?_
  refine W.end ?_
  refine NX.sub (env' := [(0, _), (1, _), (2, _), (3, _), (23, _)]) ⟨rfl, rfl, rfl, rfl, rfl, trivial⟩ ?_
  refine NX.then ?_
  refine Tr.cond (.t rfl) (fun hb => ?_) (fun hb => ?_)
  · have hr := cond_t hb hr
    refine Tr.seq ?_
    refine Tr.region_f (fun _ => false) ?_
    refine W.q rfl rfl rfl rfl (by decide) (Yd.as rfl .c) ?_
    refine W.end ?_
    refine NX.sub (env' := [(8, _)]) ⟨rfl, trivial⟩ ?_
    refine NX.then ?_
    refine Tr.ret' (RT.then ?_)
    refine res1 rfl rfl ?_
    intro w hc
    cases hr
    exact ⟨_, rfl, hc⟩
  · have hr := cond_f hb hr
    refine Tr.skip' ?_
    refine NX.then ?_
    refine Tr.seq ?_
    obtain ⟨r1, hr2, hr⟩ := bind_some hr
    obtain ⟨r3, hr4, hr⟩ := bind_some hr
    refine Tr.region_x (fun _ => false) (fun _ => false) (Ord.of [0, 1, 2, 3, 4, 5, 6, 7, 8, 9, 10, 11, 12, 13, 14, 15]) FM (by kernel_rfl) ?_
    refine W.q rfl rfl rfl rfl (by decide) (Yd.mv rfl (.t rfl)) ?_
    refine W.q rfl rfl rfl rfl (by decide) (Yd.nilc rfl (.t rfl)) ?_
    refine W.q rfl rfl rfl rfl (by decide) (Yd.fldB rfl Try.underlying39 rfl SZ22 rfl (.t rfl)) ?_
    refine W.q rfl rfl rfl rfl (by decide) (Yd.ldB (pos := 0) rfl rfl rfl ON22 (.t rfl)) ?_
    refine W.q rfl rfl rfl rfl (by decide) (Yd.mv rfl (.t rfl)) ?_
    refine W.q rfl rfl rfl rfl (by decide) (Yd.mv rfl (.t rfl)) ?_
    refine W.q rfl rfl rfl rfl (by decide) (Yd.call (v := .int .i64 r1) rfl Try.func15 rfl rfl (.cons (.t rfl) (.cons (.t rfl) (.cons (.t rfl) .nil))) (fun x' hx w hw => choice_top_ok w0 x'.m x'.l _ _ (ht_0_2.mono hx.1) x_1 n_3 _ hr2 w hw)) ?_
    refine W.q rfl rfl rfl rfl (by decide) (Yd.mv rfl (.t rfl)) ?_
    refine W.q rfl rfl rfl rfl (by decide) (Yd.nilc rfl (.t rfl)) ?_
    refine W.q rfl rfl rfl rfl (by decide) (Yd.fldB rfl Try.underlying39 rfl SZ22 rfl (.t rfl)) ?_
    refine W.q rfl rfl rfl rfl (by decide) (Yd.ldB (pos := 0) rfl rfl rfl ON22 (.t rfl)) ?_
    refine W.q rfl rfl rfl rfl (by decide) (Yd.mv rfl (.t rfl)) ?_
    refine W.q rfl rfl rfl rfl (by decide) (Yd.mv rfl (.t rfl)) ?_
    refine W.q rfl rfl rfl rfl (by decide) (Yd.call (v := .int .i64 r3) rfl Try.func15 rfl rfl (.cons (.t rfl) (.cons (.t rfl) (.cons (.t rfl) .nil))) (fun x' hx w hw => choice_top_ok w0 x'.m x'.l _ _ (ht_0_3.mono hx.1) y_2 n_3 _ hr4 w hw)) ?_
    refine W.q rfl rfl rfl rfl (by decide) (Yd.min2 rfl (.t rfl) (.t rfl)) ?_
    refine W.q rfl rfl rfl rfl (by decide) (Yd.as rfl (.t rfl)) ?_
    refine W.end ?_
    refine NX.sub (env' := [(0, _), (1, _), (2, _), (3, _), (9, _)]) ⟨rfl, rfl, rfl, rfl, rfl, trivial⟩ ?_
    refine NX.then ?_
    refine Tr.seq ?_
    refine Tr.seq ?_
    refine Tr.region_f (fun _ => false) ?_
    refine W.q rfl rfl rfl rfl (by decide) (Yd.mv rfl (.t rfl)) ?_
    refine W.q rfl rfl rfl rfl (by decide) (Yd.mv rfl (.t rfl)) ?_
    refine W.q rfl rfl rfl rfl (by decide) (Yd.eql rfl (.t rfl) (.t rfl)) ?_
    refine W.end ?_
    refine NX.sub (env' := [(0, _), (1, _), (2, _), (3, _), (9, _), (41, _)]) ⟨rfl, rfl, rfl, rfl, rfl, rfl, trivial⟩ ?_
    refine NX.then ?_
    refine Tr.cond (.t rfl) (fun hb => ?_) (fun hb => ?_)
    · have hr := cond_t hb hr
      refine Tr.seq ?_
      refine Tr.region_f (fun _ => false) ?_
      refine W.q rfl rfl rfl rfl (by decide) (Yd.as rfl .c) ?_
      refine W.end ?_
      refine NX.sub (env' := [(8, _)]) ⟨rfl, trivial⟩ ?_
      refine NX.then ?_
      refine Tr.ret' (RT.then ?_)
      refine res1 rfl rfl ?_
      intro w hc
      cases hr
      exact ⟨_, rfl, hc⟩
    · have hr := cond_f hb hr
      refine Tr.skip' ?_
      refine NX.then ?_
      refine Tr.seq ?_
      refine Tr.seq ?_
      refine Tr.region_f (fun _ => false) ?_
      refine W.q rfl rfl rfl rfl (by decide) (Yd.mv rfl (.t rfl)) ?_
      refine W.q rfl rfl rfl rfl (by decide) (Yd.nilc rfl (.t rfl)) ?_
      refine W.q rfl rfl rfl rfl (by decide) (Yd.fldB rfl Try.underlying39 rfl SZ37 rfl (.t rfl)) ?_
      refine W.q rfl rfl rfl rfl (by decide) (Yd.ldB (pos := 0) rfl rfl rfl ON37 (.t rfl)) ?_
      refine W.q rfl rfl rfl rfl (by decide) (Yd.mv rfl (.t rfl)) ?_
      refine W.q rfl rfl rfl rfl (by decide) (Yd.mv rfl (.t rfl)) ?_
      refine W.q rfl rfl rfl rfl (by decide) (Yd.bldA (cells := [.int .i64 x_1, .int .i64 y_2]) rfl ZI51 PA51 (.cons (.t rfl) (.cons (.t rfl) .nil)) rfl) ?_
      refine W.q rfl rfl rfl rfl (by decide) (Yd.mlook2E MK51 (pos := 3) (k := (x_1, y_2)) (d := (0 : Int)) rfl rfl Try.underlying37 IF3 (.t rfl) (.t rfl)) ?_
      refine W.q rfl rfl rfl rfl (by decide) (Yd.mv rfl (.t rfl)) ?_
      refine W.q rfl rfl rfl rfl (by decide) (Yd.ext rfl (.t rfl) rfl) ?_
      refine W.q rfl rfl rfl rfl (by decide) (Yd.ext rfl (.t rfl) rfl) ?_
      refine W.q rfl rfl rfl rfl (by decide) (Yd.as rfl (.t rfl)) ?_
      refine W.q rfl rfl rfl rfl (by decide) (Yd.as rfl (.t rfl)) ?_
      refine W.end ?_
      refine NX.sub (env' := [(0, _), (1, _), (2, _), (3, _), (9, _), (10, _), (11, _)]) ⟨rfl, rfl, rfl, rfl, rfl, rfl, rfl, trivial⟩ ?_
      refine NX.then ?_
      refine Tr.seq ?_
      refine Tr.region_f (fun _ => false) ?_
      refine W.q rfl rfl rfl rfl (by decide) (Yd.mv rfl (.t rfl)) ?_
      refine W.end ?_
      refine NX.sub (env' := [(0, _), (1, _), (2, _), (3, _), (9, _), (10, _), (53, _)]) ⟨rfl, rfl, rfl, rfl, rfl, rfl, rfl, trivial⟩ ?_
      refine NX.then ?_
      refine Tr.cond (.t rfl) (fun hb => ?_) (fun hb => ?_)
      · have hr := cond_t hb hr
        refine Tr.seq ?_
        refine Tr.region_f (fun _ => false) ?_
        refine W.q rfl rfl rfl rfl (by decide) (Yd.mv rfl (.t rfl)) ?_
        refine W.q rfl rfl rfl rfl (by decide) (Yd.as rfl (.t rfl)) ?_
        refine W.end ?_
        refine NX.sub (env' := [(8, _)]) ⟨rfl, trivial⟩ ?_
        refine NX.then ?_
        refine Tr.ret' (RT.then ?_)
        refine res1 rfl rfl ?_
        intro w hc
        cases hr
        exact ⟨_, rfl, hc⟩
      · have hr := cond_f hb hr
        refine Tr.skip' ?_
        refine NX.then ?_
        refine Tr.seq ?_
        obtain ⟨r5, hr6, hr⟩ := bind_some hr
        refine Tr.region_f (fun _ => false) ?_
        refine W.q rfl rfl rfl rfl (by decide) (Yd.mv rfl (.t rfl)) ?_
        refine W.q rfl rfl rfl rfl (by decide) (Yd.nilc rfl (.t rfl)) ?_
        refine W.q rfl rfl rfl rfl (by decide) (Yd.fldB rfl Try.underlying39 rfl SZ22 rfl (.t rfl)) ?_
        refine W.q rfl rfl rfl rfl (by decide) (Yd.ldB (pos := 0) rfl rfl rfl ON22 (.t rfl)) ?_
        refine W.q rfl rfl rfl rfl (by decide) (Yd.mv rfl (.t rfl)) ?_
        refine W.q rfl rfl rfl rfl (by decide) (Yd.mv rfl (.t rfl)) ?_
        refine W.q rfl rfl rfl rfl (by decide) (Yd.call (v := .tuple #[.int .i64 r5.1, .int .i64 r5.2]) rfl Try.func16 rfl rfl (.cons (.t rfl) (.cons (.t rfl) (.cons (.t rfl) .nil))) (fun x' hx w hw => choice_down_ok w0 x'.m x'.l _ _ (ht_0_2.mono hx.1) x_1 ((if r3 < r1 then r3 else r1)) _ hr6 w hw)) ?_
        refine W.q rfl rfl rfl rfl (by decide) (Yd.mv rfl (.t rfl)) ?_
        refine W.q rfl rfl rfl rfl (by decide) (Yd.ext rfl (.t rfl) rfl) ?_
        refine W.q rfl rfl rfl rfl (by decide) (Yd.ext rfl (.t rfl) rfl) ?_
        refine W.q rfl rfl rfl rfl (by decide) (Yd.as rfl (.t rfl)) ?_
        refine W.q rfl rfl rfl rfl (by decide) (Yd.as rfl (.t rfl)) ?_
        refine W.end ?_
        refine NX.sub (env' := [(0, _), (1, _), (2, _), (3, _), (9, _), (12, _), (13, _)]) ⟨rfl, rfl, rfl, rfl, rfl, rfl, rfl, trivial⟩ ?_
        refine NX.then ?_
        refine Tr.seq ?_
        obtain ⟨r7, hr8, hr⟩ := bind_some hr
        refine Tr.region_f (fun _ => false) ?_
        refine W.q rfl rfl rfl rfl (by decide) (Yd.mv rfl (.t rfl)) ?_
        refine W.q rfl rfl rfl rfl (by decide) (Yd.nilc rfl (.t rfl)) ?_
        refine W.q rfl rfl rfl rfl (by decide) (Yd.fldB rfl Try.underlying39 rfl SZ22 rfl (.t rfl)) ?_
        refine W.q rfl rfl rfl rfl (by decide) (Yd.ldB (pos := 0) rfl rfl rfl ON22 (.t rfl)) ?_
        refine W.q rfl rfl rfl rfl (by decide) (Yd.mv rfl (.t rfl)) ?_
        refine W.q rfl rfl rfl rfl (by decide) (Yd.mv rfl (.t rfl)) ?_
        refine W.q rfl rfl rfl rfl (by decide) (Yd.call (v := .tuple #[.int .i64 r7.1, .int .i64 r7.2]) rfl Try.func16 rfl rfl (.cons (.t rfl) (.cons (.t rfl) (.cons (.t rfl) .nil))) (fun x' hx w hw => choice_down_ok w0 x'.m x'.l _ _ (ht_0_3.mono hx.1) y_2 ((if r3 < r1 then r3 else r1)) _ hr8 w hw)) ?_
        refine W.q rfl rfl rfl rfl (by decide) (Yd.mv rfl (.t rfl)) ?_
        refine W.q rfl rfl rfl rfl (by decide) (Yd.ext rfl (.t rfl) rfl) ?_
        refine W.q rfl rfl rfl rfl (by decide) (Yd.ext rfl (.t rfl) rfl) ?_
        refine W.q rfl rfl rfl rfl (by decide) (Yd.as rfl (.t rfl)) ?_
        refine W.q rfl rfl rfl rfl (by decide) (Yd.as rfl (.t rfl)) ?_
        refine W.end ?_
        refine NX.sub (env' := [(0, _), (1, _), (2, _), (3, _), (9, _), (12, _), (13, _), (14, _), (15, _)]) ⟨rfl, rfl, rfl, rfl, rfl, rfl, rfl, rfl, rfl, trivial⟩ ?_
        refine NX.then ?_
        refine Tr.seq ?_
        obtain ⟨r9, hr10, hr⟩ := bind_some hr
        refine Tr.region_f (fun i => Nat.beq i 4) ?_
        refine W.q rfl rfl rfl rfl (by decide) (Yd.mv rfl (.t rfl)) ?_
        refine W.q rfl rfl rfl rfl (by decide) (Yd.mv rfl (.t rfl)) ?_
        refine W.q rfl rfl rfl rfl (by decide) (Yd.mv rfl (.t rfl)) ?_
        refine W.q rfl rfl rfl rfl (by decide) (Yd.mv rfl (.t rfl)) ?_
        refine W.e rfl rfl rfl rfl (by decide) (Ef.call (R := fun z x' => ∃ v11 : Value, z = .int .i64 r9.1 ∧ x' = ⟨m, hcells bt_0 [v11, (.map (some mbt_0_1)), ut_0_2, ut_0_3, (.map (some mbt_0_4))] 39 :: hownT 47 3 Branch.enc v11 r9.2.maker.l :: hmap mbt_0_1 ek47 ev3 r9.2.maker.known :: hmap mbt_0_4 ek51 ev3 r9.2.done :: l⟩) rfl Try.func10 rfl rfl (.cons (.t rfl) (.cons (.t rfl) (.cons (.t rfl) (.cons (.t rfl) .nil)))) (by intro w hw; replace hw := cX_front (p := 3) hw rfl; replace hw := cX_front (p := 3) hw rfl; replace hw := cX_front (p := 3) hw rfl; replace hw := cX_front (p := 3) hw rfl; exact (ih _ _ _ (({ maker := ({ l := t_0.maker.l, known := t_0.maker.known } : T36), a := t_0.a, b := t_0.b, done := t_0.done } : T39)) _ _ _ ht_0_2 _ ht_0_3 _ r5.1 r7.1 n_3 _ hr10 w hw).mono fun e w' ⟨v11, he, hc'⟩ => ⟨_, _, he, ⟨v11, rfl, rfl⟩, hc'⟩)) ?_
        rintro _ _ ⟨v11, rfl, rfl⟩
        refine ⟨.inl rfl, ?_⟩
        refine W.cast (m' := m) (l' := hcells bt_0 [_, _, _, _, _] 39 :: hownT 47 3 Branch.enc v11 _ :: hmap mbt_0_1 ek47 ev3 _ :: hmap mbt_0_4 ek51 ev3 _ :: l) rfl rfl ?_
        refine W.q rfl rfl rfl rfl (by decide) (Yd.as rfl (.t rfl)) ?_
        refine W.end ?_
        refine NX.sub (env' := [(0, _), (1, _), (2, _), (3, _), (9, _), (13, _), (15, _), (16, _)]) ⟨rfl, rfl, rfl, rfl, rfl, rfl, rfl, rfl, trivial⟩ ?_
        refine NX.then ?_
        refine Tr.seq ?_
        obtain ⟨r12, hr13, hr⟩ := bind_some hr
        obtain ⟨r15, hr16, hr⟩ := bind_some hr
        refine Tr.region_x (fun i => Nat.beq i 9 || Nat.beq i 11) (fun i => Nat.beq i 0 || Nat.beq i 1 || Nat.beq i 2 || Nat.beq i 3 || Nat.beq i 4 || Nat.beq i 9 || Nat.beq i 11) (Ord.of [0, 1, 2, 3, 4, 5, 6, 7, 8, 9, 10, 11, 12]) FM (by kernel_rfl) ?_
        refine W.p rfl rfl rfl rfl (by decide) (fun _ => Yd.mv rfl (.t rfl)) ?_
        refine W.p rfl rfl rfl rfl (by decide) (fun _ => Yd.nilc rfl (.t rfl)) ?_
        refine W.p rfl rfl rfl rfl (by decide) (fun _ => Yd.fldB rfl Try.underlying39 rfl SZ36 rfl (.t rfl)) ?_
        refine W.p rfl rfl rfl rfl (by decide) (fun _ => Yd.mv rfl (.t rfl)) ?_
        refine W.p rfl rfl rfl rfl (by decide) (fun _ => Yd.mv rfl (.t rfl)) ?_
        refine W.q rfl rfl rfl rfl (by decide) (Yd.mv rfl (.t rfl)) ?_
        refine W.q rfl rfl rfl rfl (by decide) (Yd.mv rfl (.t rfl)) ?_
        refine W.q rfl rfl rfl rfl (by decide) (Yd.mv rfl (.t rfl)) ?_
        refine W.q rfl rfl rfl rfl (by decide) (Yd.mv rfl (.t rfl)) ?_
        refine W.e rfl rfl rfl rfl (by decide) (Ef.call (R := fun z x' => ∃ v18 : Value, z = .int .i64 r12.1 ∧ x' = ⟨m, hcells bt_0 [v18, (.map (some mbt_0_1)), ut_0_2, ut_0_3, (.map (some mbt_0_4))] 39 :: hownT 47 3 Branch.enc v18 r12.2.maker.l :: hmap mbt_0_1 ek47 ev3 r12.2.maker.known :: hmap mbt_0_4 ek51 ev3 r12.2.done :: l⟩) rfl Try.func10 rfl rfl (.cons (.t rfl) (.cons (.t rfl) (.cons (.t rfl) (.cons (.t rfl) .nil)))) (by intro w hw; replace hw := cX_front (p := 3) hw rfl; replace hw := cX_front (p := 3) hw rfl; replace hw := cX_front (p := 3) hw rfl; replace hw := cX_front (p := 3) hw rfl; exact (ih _ _ _ (({ maker := ({ l := r9.2.maker.l, known := r9.2.maker.known } : T36), a := t_0.a, b := t_0.b, done := r9.2.done } : T39)) _ _ _ ht_0_2 _ ht_0_3 _ r5.2 r7.2 n_3 _ hr13 w hw).mono fun e w' ⟨v18, he, hc'⟩ => ⟨_, _, he, ⟨v18, rfl, rfl⟩, hc'⟩)) ?_
        rintro _ _ ⟨v18, rfl, rfl⟩
        refine ⟨.inl rfl, ?_⟩
        refine W.cast (m' := m) (l' := hcells bt_0 [_, _, _, _, _] 39 :: hownT 47 3 Branch.enc v18 _ :: hmap mbt_0_1 ek47 ev3 _ :: hmap mbt_0_4 ek51 ev3 _ :: l) rfl rfl ?_
        refine W.q rfl rfl rfl rfl (by decide) (Yd.bld (cells := [.int .i64 ((if r3 < r1 then r3 else r1)), .int .i64 r9.1, .int .i64 r12.1]) rfl ZI47 PL47 (.cons (.t rfl) (.cons (.t rfl) (.cons (.t rfl) .nil))) rfl) ?_
        refine W.e rfl rfl rfl rfl (by decide) (Ef.call (R := fun z x' => ∃ v19 : Value, z = .int .i64 r15.1 ∧ x' = ⟨m, hcells bt_0 [v19, (.map (some mbt_0_1)), ut_0_2, ut_0_3, (.map (some mbt_0_4))] 39 :: hownT 47 3 Branch.enc v19 r15.2.l :: hmap mbt_0_1 ek47 ev3 r15.2.known :: hmap mbt_0_4 ek51 ev3 r12.2.done :: l⟩) rfl Try.func17 rfl rfl (.cons (.t rfl) (.cons (.t rfl) .nil)) (by intro w hw; replace hw := cX_front (p := 2) hw rfl; replace hw := cX_front (p := 2) hw rfl; replace hw := cX_front (p := 2) hw rfl; exact (choice_maker_put_ok w0 _ _ _ _ _ _ _ _ (({ var := (if r3 < r1 then r3 else r1), low := r9.1, high := r12.1 } : Branch)) _ hr16 w hw).mono fun e w' ⟨v19, he, hc'⟩ => ⟨_, _, he, ⟨v19, rfl, rfl⟩, hc'⟩)) ?_
        rintro _ _ ⟨v19, rfl, rfl⟩
        refine ⟨.inl rfl, ?_⟩
        refine W.cast (m' := m) (l' := hcells bt_0 [_, _, _, _, _] 39 :: hownT 47 3 Branch.enc v19 _ :: hmap mbt_0_1 ek47 ev3 _ :: hmap mbt_0_4 ek51 ev3 _ :: l) rfl rfl ?_
        refine W.q rfl rfl rfl rfl (by decide) (Yd.as rfl (.t rfl)) ?_
        refine W.end ?_
        refine NX.sub (env' := [(0, _), (1, _), (2, _), (17, _)]) ⟨rfl, rfl, rfl, rfl, trivial⟩ ?_
        refine NX.then ?_
        refine Tr.seq ?_
        refine Tr.region_f (fun i => Nat.beq i 8) ?_
        refine W.q rfl rfl rfl rfl (by decide) (Yd.mv rfl (.t rfl)) ?_
        refine W.q rfl rfl rfl rfl (by decide) (Yd.nilc rfl (.t rfl)) ?_
        refine W.q rfl rfl rfl rfl (by decide) (Yd.fldB rfl Try.underlying39 rfl SZ37 rfl (.t rfl)) ?_
        refine W.q rfl rfl rfl rfl (by decide) (Yd.ldB (pos := 0) rfl rfl rfl ON37 (.t rfl)) ?_
        refine W.q rfl rfl rfl rfl (by decide) (Yd.mv rfl (.t rfl)) ?_
        refine W.q rfl rfl rfl rfl (by decide) (Yd.mv rfl (.t rfl)) ?_
        refine W.q rfl rfl rfl rfl (by decide) (Yd.bldA (cells := [.int .i64 x_1, .int .i64 y_2]) rfl ZI51 PA51 (.cons (.t rfl) (.cons (.t rfl) .nil)) rfl) ?_
        refine W.q rfl rfl rfl rfl (by decide) (Yd.mv rfl (.t rfl)) ?_
        refine W.s rfl rfl rfl rfl (Ef.mset MK51 (pos := 3) (k := (x_1, y_2)) (v := r15.1) rfl rfl Try.underlying37 (.t rfl) (.t rfl) (.t rfl)) ?_
        rintro _ _ ⟨rfl, rfl⟩
        refine ⟨.inl rfl, ?_⟩
        refine W.cast (m' := m) (l' := hcells bt_0 [_, _, _, _, _] 39 :: hownT 47 3 Branch.enc v19 _ :: hmap mbt_0_1 ek47 ev3 _ :: hmap mbt_0_4 ek51 ev3 _ :: l) rfl rfl ?_
        refine W.end ?_
        refine NX.sub (env' := [(17, _)]) ⟨rfl, trivial⟩ ?_
        refine NX.then ?_
        refine Tr.seq ?_
        refine Tr.region_f (fun _ => false) ?_
        refine W.q rfl rfl rfl rfl (by decide) (Yd.mv rfl (.t rfl)) ?_
        refine W.q rfl rfl rfl rfl (by decide) (Yd.as rfl (.t rfl)) ?_
        refine W.end ?_
        refine NX.sub (env' := [(8, _)]) ⟨rfl, trivial⟩ ?_
        refine NX.then ?_
        refine Tr.ret' ?_
        refine res1 rfl rfl ?_
        intro w hc
        cases hr
        exact ⟨_, rfl, hc⟩

def choice_small_c1_s (slf : (Int → (List Branch) → T36 → Option (Int × T36))) (k_0 : Int) (cp_0 : (List Branch)) (cp_2 : T36) : Option (Int × T36) :=
  (bif (decide (k_0 < (2 : Int))) then
  some ((k_0, ({ l := cp_2.l, known := cp_2.known } : T36)))
  else
  (geti cp_0 ((w64 (k_0 - (2 : Int))))).bind fun y1 =>
  (slf y1.low cp_0 (({ l := cp_2.l, known := cp_2.known } : T36))).bind fun r5 =>
  (slf y1.high cp_0 (({ l := r5.2.l, known := r5.2.known } : T36))).bind fun r8 =>
  (choice_maker_put (({ l := r8.2.l, known := r8.2.known } : T36)) (({ var := y1.var, low := r5.1, high := r8.1 } : Branch))).bind fun r11 =>
  some ((r11.1, ({ l := r11.2.l, known := r11.2.known } : T36))))

def choice_small_c1 (fuel : Nat) (k_0 : Int) (cp_0 : (List Branch)) (cp_2 : T36) : Option (Int × T36) :=
  match fuel with
  | 0 => none
  | fuel + 1 => choice_small_c1_s (choice_small_c1 fuel) k_0 cp_0 cp_2

set_option maxRecDepth 100000 in
set_option maxHeartbeats 4000000 in
theorem choice_small_c1_ok (w0 : World) (m : Snap) (l : List HI) (fuel : Nat) : ∀ (k_0 : Int) (fb0 : Nat) (cp_0 : (List Branch)) (uc0 : Value) (hc0 : RS rBranch m uc0 cp_0) (fb1 : Nat) (fb2 : Nat) (gb2 : Nat) (cp_2 : T36) (uc2_0 : Value) (mc2_1 : Nat) (xt2 : List Value) (tt2 : Nat) (r : Int × T36) (_ : choice_small_c1 fuel k_0 cp_0 cp_2 = some r) (w : World) (_ : cX w0 ⟨m, hcells fb0 [uc0] 22 :: hcells fb1 [.func (.func 18) #[] #[bp fb0 0, bp fb1 0, bp fb2 0]] 56 :: hcells fb2 [bp gb2 0] 55 :: hcells gb2 (uc2_0 :: (.map (some mc2_1)) :: xt2) tt2 :: hownT 47 3 Branch.enc uc2_0 cp_2.l :: hmap mc2_1 ek47 ev3 cp_2.known :: l⟩ w),
    Calls Try.prog 18 [.int .i64 k_0, bp fb0 0, bp fb1 0, bp fb2 0].toArray w fun e w' => ∃ q0 : Value, e = .returned (.int .i64 r.1) ∧ cX w0 ⟨m, hcells fb0 [uc0] 22 :: hcells fb1 [.func (.func 18) #[] #[bp fb0 0, bp fb1 0, bp fb2 0]] 56 :: hcells fb2 [bp gb2 0] 55 :: hcells gb2 (q0 :: (.map (some mc2_1)) :: xt2) tt2 :: hownT 47 3 Branch.enc q0 r.2.l :: hmap mc2_1 ek47 ev3 r.2.known :: l⟩ w' := by
  induction fuel generalizing m l with
  | zero => intro k_0 fb0 cp_0 uc0 hc0 fb1 fb2 gb2 cp_2 uc2_0 mc2_1 xt2 tt2 r hr; simp [choice_small_c1] at hr
  | succ fuel ih =>
  intro k_0 fb0 cp_0 uc0 hc0 fb1 fb2 gb2 cp_2 uc2_0 mc2_1 xt2 tt2 r hr w hc
  replace hr : choice_small_c1_s (choice_small_c1 fuel) k_0 cp_0 cp_2 = some r := hr
  obtain ⟨slf, hslf⟩ : ∃ f, f = choice_small_c1 fuel := ⟨_, rfl⟩
  rw [← hslf] at hr ih
  unfold choice_small_c1_s at hr
  refine calls_of_Tr (N := 28) Try.func18 rfl hc rfl (Nat.le_of_ble_eq_true rfl) ?_
  refine Tr.seq ?_
  refine Tr.region_f (fun _ => false) ?_
  refine W.q rfl rfl rfl rfl (by decide) (Yd.as rfl .c) ?_
  refine W.end ?_
  refine NX.sub (env' := [(0, _), (1, _), (2, _), (3, _)]) ⟨rfl, rfl, rfl, rfl, trivial⟩ ?_
  refine NX.then ?_
  refine Tr.seq ?_
  refine Tr.seq ?_
  refine Tr.region_f (fun _ => false) ?_
  refine W.q rfl rfl rfl rfl (by decide) (Yd.mv rfl (.t rfl)) ?_
  refine W.q rfl rfl rfl rfl (by decide) (Yd.lss rfl (.t rfl) .c) ?_
  refine W.end ?_
  refine NX.sub (env' := [(0, _), (1, _), (2, _), (3, _), (8, _)]) ⟨rfl, rfl, rfl, rfl, rfl, trivial⟩ ?_
  refine NX.then ?_
  refine Tr.cond (.t rfl) (fun hb => ?_) (fun hb => ?_)
  · have hr := cond_t hb hr
    refine Tr.seq ?_
    refine Tr.region_f (fun _ => false) ?_
    refine W.q rfl rfl rfl rfl (by decide) (Yd.mv rfl (.t rfl)) ?_
    refine W.q rfl rfl rfl rfl (by decide) (Yd.as rfl (.t rfl)) ?_
    refine W.end ?_
    refine NX.sub (env' := [(5, _)]) ⟨rfl, trivial⟩ ?_
    refine NX.then ?_
    refine Tr.ret' (RT.then ?_)
    refine res1 rfl rfl ?_
    intro w hc
    cases hr
    exact ⟨_, rfl, hc⟩
  · have hr := cond_f hb hr
    refine Tr.skip' ?_
    refine NX.then ?_
    refine Tr.seq ?_
    obtain ⟨y1, hy2, hr⟩ := bind_some hr
    refine Tr.region_f (fun i => Nat.beq i 5 || Nat.beq i 6) ?_
    refine W.q rfl rfl rfl rfl (by decide) (Yd.ldB (pos := 0) rfl rfl rfl ON22 (.t rfl)) ?_
    refine W.q rfl rfl rfl rfl (by decide) (Yd.mv rfl (.t rfl)) ?_
    refine W.q rfl rfl rfl rfl (by decide) (Yd.sub rfl (.t rfl) .c) ?_
    refine W.q rfl rfl rfl rfl (by decide) (Yd.idxR hc0 hy2 rfl Try.underlying22 SZ47 (.t rfl) (.t rfl)) ?_
    refine W.q rfl rfl rfl rfl (by decide) (Yd.ldFs (us := [_, _, _]) hc0 (.refl _) hy2 rfl rfl ON47 US47 SZ47 (.t rfl)) ?_
    refine W.e rfl rfl rfl rfl (by decide) (Ef.al rfl ZR47 rfl) ?_
    rintro _ _ ⟨b3, rfl, rfl⟩
    refine ⟨.inl rfl, ?_⟩
    refine W.cast (m' := m) (l' := hcells b3 [_, _, _] 47 :: hcells fb0 [_] 22 :: hcells fb1 [_] 56 :: hcells fb2 [_] 55 :: hcells gb2 (_ :: _ :: xt2) tt2 :: hownT 47 3 Branch.enc uc2_0 _ :: hmap mc2_1 ek47 ev3 _ :: l) rfl rfl ?_
    refine W.s rfl rfl rfl rfl (Ef.stB (pos := 0) (us := [_, _, _]) (cs' := [_, _, _]) rfl rfl (.t rfl) (.t rfl) SZ47 rfl rfl rfl (Nat.le_of_ble_eq_true rfl) rfl) ?_
    rintro _ _ ⟨rfl, rfl⟩
    refine ⟨.inl rfl, ?_⟩
    refine W.cast (m' := m) (l' := hcells b3 [_, _, _] 47 :: hcells fb0 [_] 22 :: hcells fb1 [_] 56 :: hcells fb2 [_] 55 :: hcells gb2 (_ :: _ :: xt2) tt2 :: hownT 47 3 Branch.enc uc2_0 _ :: hmap mc2_1 ek47 ev3 _ :: l) rfl rfl ?_
    refine W.end ?_
    refine NX.sub (env' := [(2, _), (3, _), (6, _)]) ⟨rfl, rfl, rfl, trivial⟩ ?_
    refine NX.then ?_
    refine Tr.seq ?_
    obtain ⟨r5, hr6, hr⟩ := bind_some hr
    refine Tr.region_f (fun i => Nat.beq i 3 || Nat.beq i 5) ?_
    refine W.q rfl rfl rfl rfl (by decide) (Yd.ldB (pos := 2) rfl rfl rfl ON56 (.t rfl)) ?_
    refine W.q rfl rfl rfl rfl (by decide) (Yd.fldB rfl Try.underlying47 rfl SZ3 rfl (.t rfl)) ?_
    refine W.q rfl rfl rfl rfl (by decide) (Yd.ldB (pos := 0) rfl rfl rfl ON3 (.t rfl)) ?_
    refine W.e rfl rfl rfl rfl (by decide) (Ef.callC (caps := [bp fb0 0, bp fb1 0, bp fb2 0]) (R := fun z x' => ∃ v7 : Value, z = .int .i64 r5.1 ∧ x' = ⟨m, hcells fb0 [uc0] 22 :: hcells fb1 [.func (.func 18) #[] #[bp fb0 0, bp fb1 0, bp fb2 0]] 56 :: hcells fb2 [bp gb2 0] 55 :: hcells gb2 (v7 :: (.map (some mc2_1)) :: xt2) tt2 :: hownT 47 3 Branch.enc v7 r5.2.l :: hmap mc2_1 ek47 ev3 r5.2.known :: hcells b3 [.int .i64 y1.var, .int .i64 y1.low, .int .i64 y1.high] 47 :: l⟩) rfl (.t rfl) Try.func18 rfl rfl (.cons (.t rfl) .nil) (by intro w hw; replace hw := cX_front (p := 6) hw rfl; replace hw := cX_front (p := 6) hw rfl; replace hw := cX_front (p := 6) hw rfl; replace hw := cX_front (p := 6) hw rfl; replace hw := cX_front (p := 6) hw rfl; replace hw := cX_front (p := 6) hw rfl; exact (ih _ _  y1.low _ _ _ hc0 _ _ _ _ _ _ _ _ _ hr6 w hw).mono fun e w' ⟨v7, he, hc'⟩ => ⟨_, _, he, ⟨v7, rfl, rfl⟩, hc'⟩)) ?_
    rintro _ _ ⟨v7, rfl, rfl⟩
    refine ⟨.inl rfl, ?_⟩
    refine W.cast (m' := m) (l' := hcells fb0 [_] 22 :: hcells fb1 [_] 56 :: hcells fb2 [_] 55 :: hcells gb2 (_ :: _ :: xt2) tt2 :: hownT 47 3 Branch.enc v7 _ :: hmap mc2_1 ek47 ev3 _ :: hcells b3 [_, _, _] 47 :: l) rfl rfl ?_
    refine W.q rfl rfl rfl rfl (by decide) (Yd.fldB rfl Try.underlying47 rfl SZ3 rfl (.t rfl)) ?_
    refine W.s rfl rfl rfl rfl (Ef.stB (pos := 6) (us := [_]) (cs' := [_, _, _]) rfl rfl (.t rfl) (.t rfl) SZ3 rfl rfl rfl (Nat.le_of_ble_eq_true rfl) rfl) ?_
    rintro _ _ ⟨rfl, rfl⟩
    refine ⟨.inl rfl, ?_⟩
    refine W.cast (m' := m) (l' := hcells fb0 [_] 22 :: hcells fb1 [_] 56 :: hcells fb2 [_] 55 :: hcells gb2 (_ :: _ :: xt2) tt2 :: hownT 47 3 Branch.enc v7 _ :: hmap mc2_1 ek47 ev3 _ :: hcells b3 [_, _, _] 47 :: l) rfl rfl ?_
    refine W.end ?_
    refine NX.sub (env' := [(2, _), (3, _), (6, _)]) ⟨rfl, rfl, rfl, trivial⟩ ?_
    refine NX.then ?_
    refine Tr.seq ?_
    obtain ⟨r8, hr9, hr⟩ := bind_some hr
    refine Tr.region_f (fun i => Nat.beq i 3 || Nat.beq i 5) ?_
    refine W.q rfl rfl rfl rfl (by decide) (Yd.ldB (pos := 1) rfl rfl rfl ON56 (.t rfl)) ?_
    refine W.q rfl rfl rfl rfl (by decide) (Yd.fldB rfl Try.underlying47 rfl SZ3 rfl (.t rfl)) ?_
    refine W.q rfl rfl rfl rfl (by decide) (Yd.ldB (pos := 6) rfl rfl rfl ON3 (.t rfl)) ?_
    refine W.e rfl rfl rfl rfl (by decide) (Ef.callC (caps := [bp fb0 0, bp fb1 0, bp fb2 0]) (R := fun z x' => ∃ v10 : Value, z = .int .i64 r8.1 ∧ x' = ⟨m, hcells fb0 [uc0] 22 :: hcells fb1 [.func (.func 18) #[] #[bp fb0 0, bp fb1 0, bp fb2 0]] 56 :: hcells fb2 [bp gb2 0] 55 :: hcells gb2 (v10 :: (.map (some mc2_1)) :: xt2) tt2 :: hownT 47 3 Branch.enc v10 r8.2.l :: hmap mc2_1 ek47 ev3 r8.2.known :: hcells b3 [.int .i64 y1.var, .int .i64 r5.1, .int .i64 y1.high] 47 :: l⟩) rfl (.t rfl) Try.func18 rfl rfl (.cons (.t rfl) .nil) (by intro w hw; replace hw := cX_front (p := 5) hw rfl; replace hw := cX_front (p := 5) hw rfl; replace hw := cX_front (p := 5) hw rfl; replace hw := cX_front (p := 5) hw rfl; replace hw := cX_front (p := 5) hw rfl; replace hw := cX_front (p := 5) hw rfl; exact (ih _ _  y1.high _ _ _ hc0 _ _ _ _ _ _ _ _ _ hr9 w hw).mono fun e w' ⟨v10, he, hc'⟩ => ⟨_, _, he, ⟨v10, rfl, rfl⟩, hc'⟩)) ?_
    rintro _ _ ⟨v10, rfl, rfl⟩
    refine ⟨.inl rfl, ?_⟩
    refine W.cast (m' := m) (l' := hcells fb0 [_] 22 :: hcells fb1 [_] 56 :: hcells fb2 [_] 55 :: hcells gb2 (_ :: _ :: xt2) tt2 :: hownT 47 3 Branch.enc v10 _ :: hmap mc2_1 ek47 ev3 _ :: hcells b3 [_, _, _] 47 :: l) rfl rfl ?_
    refine W.q rfl rfl rfl rfl (by decide) (Yd.fldB rfl Try.underlying47 rfl SZ3 rfl (.t rfl)) ?_
    refine W.s rfl rfl rfl rfl (Ef.stB (pos := 6) (us := [_]) (cs' := [_, _, _]) rfl rfl (.t rfl) (.t rfl) SZ3 rfl rfl rfl (Nat.le_of_ble_eq_true rfl) rfl) ?_
    rintro _ _ ⟨rfl, rfl⟩
    refine ⟨.inl rfl, ?_⟩
    refine W.cast (m' := m) (l' := hcells fb0 [_] 22 :: hcells fb1 [_] 56 :: hcells fb2 [_] 55 :: hcells gb2 (_ :: _ :: xt2) tt2 :: hownT 47 3 Branch.enc v10 _ :: hmap mc2_1 ek47 ev3 _ :: hcells b3 [_, _, _] 47 :: l) rfl rfl ?_
    refine W.end ?_
    refine NX.sub (env' := [(3, _), (6, _)]) ⟨rfl, rfl, trivial⟩ ?_
    refine NX.then ?_
    refine Tr.seq ?_
    obtain ⟨r11, hr12, hr⟩ := bind_some hr
    refine Tr.region_f (fun i => Nat.beq i 2) ?_
    refine W.q rfl rfl rfl rfl (by decide) (Yd.ldB (pos := 2) rfl rfl rfl ON55 (.t rfl)) ?_
    refine W.q rfl rfl rfl rfl (by decide) (Yd.ldBs (pos := 6) (us := [_, _, _]) rfl rfl rfl rfl ON47 US47 SZ47 (.t rfl)) ?_
    refine W.e rfl rfl rfl rfl (by decide) (Ef.call (R := fun z x' => ∃ v13 : Value, z = .int .i64 r11.1 ∧ x' = ⟨m, hcells gb2 (v13 :: (.map (some mc2_1)) :: xt2) tt2 :: hownT 47 3 Branch.enc v13 r11.2.l :: hmap mc2_1 ek47 ev3 r11.2.known :: hcells fb0 [uc0] 22 :: hcells fb1 [.func (.func 18) #[] #[bp fb0 0, bp fb1 0, bp fb2 0]] 56 :: hcells fb2 [bp gb2 0] 55 :: hcells b3 [.int .i64 y1.var, .int .i64 r5.1, .int .i64 r8.1] 47 :: l⟩) rfl Try.func17 rfl rfl (.cons (.t rfl) (.cons (.t rfl) .nil)) (by intro w hw; replace hw := cX_front (p := 5) hw rfl; replace hw := cX_front (p := 5) hw rfl; replace hw := cX_front (p := 5) hw rfl; exact (choice_maker_put_ok w0 _ _ _ _ _ _ _ _ (({ var := y1.var, low := r5.1, high := r8.1 } : Branch)) _ hr12 w hw).mono fun e w' ⟨v13, he, hc'⟩ => ⟨_, _, he, ⟨v13, rfl, rfl⟩, hc'⟩)) ?_
    rintro _ _ ⟨v13, rfl, rfl⟩
    refine ⟨.inl rfl, ?_⟩
    refine W.cast (m' := m) (l' := hcells gb2 (_ :: _ :: xt2) tt2 :: hownT 47 3 Branch.enc v13 _ :: hmap mc2_1 ek47 ev3 _ :: hcells fb0 [_] 22 :: hcells fb1 [_] 56 :: hcells fb2 [_] 55 :: hcells b3 [_, _, _] 47 :: l) rfl rfl ?_
    refine W.q rfl rfl rfl rfl (by decide) (Yd.as rfl (.t rfl)) ?_
    refine W.end ?_
    refine NX.sub (env' := [(5, _)]) ⟨rfl, trivial⟩ ?_
    refine NX.drop (l' := hcells gb2 (_ :: _ :: xt2) tt2 :: hownT 47 3 Branch.enc v13 _ :: hmap mc2_1 ek47 ev3 _ :: hcells fb0 [_] 22 :: hcells fb1 [_] 56 :: hcells fb2 [_] 55 :: l) (.cons_cons _ (.cons_cons _ (.cons_cons _ (.cons_cons _ (.cons_cons _ (.cons_cons _ (.cons _ (.refl _)))))))) ?_
    refine NX.then ?_
    refine Tr.ret' ?_
    refine res1 rfl rfl ?_
    intro w hc
    cases hr
    replace hc := cX_front (p := 2) hc rfl
    replace hc := cX_front (p := 2) hc rfl
    replace hc := cX_front (p := 2) hc rfl
    replace hc := cX_front (p := 5) hc rfl
    replace hc := cX_front (p := 5) hc rfl
    replace hc := cX_front (p := 5) hc rfl
    replace hc : cX w0 ⟨m, hcells fb0 [_] 22 :: hcells fb1 [_] 56 :: hcells fb2 [_] 55 :: hcells gb2 (_ :: _ :: xt2) tt2 :: hownT 47 3 Branch.enc v13 _ :: hmap mc2_1 ek47 ev3 _ :: l⟩ w := hc
    exact ⟨_, rfl, hc⟩

def choice_small (fuel : Nat) (l_0 : List Branch) (root_1 : Int) : Option ((List Branch) × Int) :=
  (choice_small_c1 fuel root_1 l_0 (({ l := ([] : List Branch), known := ([] : List (Branch × Int)) } : T36))).bind fun r12 =>
  some ((r12.2.l, r12.1))

set_option maxRecDepth 100000 in
set_option maxHeartbeats 4000000 in
theorem choice_small_ok (w0 : World) (m : Snap) (l : List HI) (fuel : Nat) (ul_0 : Value) (l_0 : List Branch) (hl_0 : RS rBranch m ul_0 l_0) (root_1 : Int) (r : (List Branch) × Int) (hr : choice_small fuel l_0 root_1 = some r) (w : World) (hc : cX w0 ⟨m, l⟩ w) :
    Calls Try.prog 11 [ul_0, .int .i64 root_1].toArray w fun e w' => ∃ z0 : Value, e = .returned (.tuple #[z0, .int .i64 r.2]) ∧ cX w0 ⟨m, hownT 47 3 Branch.enc z0 r.1 :: l⟩ w' := by
  unfold choice_small at hr
  refine calls_of_Tr (N := 20) Try.func11 rfl hc rfl (Nat.le_of_ble_eq_true rfl) ?_
  refine Tr.seq ?_
  refine Tr.region_f (fun i => Nat.beq i 0) ?_
  refine W.e rfl rfl rfl rfl (by decide) (Ef.bx (us := [ul_0]) rfl (.t rfl) (RS.cells hl_0)) ?_
  rintro _ _ ⟨b1, rfl, rfl⟩
  refine ⟨.inl rfl, ?_⟩
  refine W.cast (m' := m) (l' := hcells b1 [_] 22 :: l) rfl rfl ?_
  refine W.q rfl rfl rfl rfl (by decide) (Yd.as rfl .c) ?_
  refine W.q rfl rfl rfl rfl (by decide) (Yd.as rfl .c) ?_
  refine W.end ?_
  refine NX.sub (env' := [(1, _), (2, _)]) ⟨rfl, rfl, trivial⟩ ?_
  refine NX.then ?_
  refine Tr.seq ?_
  refine Tr.addnil 47 3 ?_
  refine Tr.cast (m' := m) (l' := hownT 47 3 Branch.enc (.slice none 0 0) (([] : List Branch)) :: hcells b1 [ul_0] 22 :: l) rfl rfl ?_
  refine Tr.region_f (fun i => Nat.beq i 0 || Nat.beq i 2 || Nat.beq i 3 || Nat.beq i 4) ?_
  refine W.e rfl rfl rfl rfl (by decide) (Ef.mkMap (ν := Int) ek47 ev3 rfl) ?_
  rintro _ _ ⟨b4, rfl, rfl⟩
  refine ⟨.inl rfl, ?_⟩
  refine W.cast (m' := m) (l' := hmap b4 ek47 ev3 _ :: hownT 47 3 Branch.enc (.slice none 0 0) (([] : List Branch)) :: hcells b1 [_] 22 :: l) rfl rfl ?_
  refine W.q rfl rfl rfl rfl (by decide) (Yd.bld (cells := [(.slice none 0 0), (.map (some b4))]) rfl ZI36 PL36 (.cons (.t rfl) .nil) rfl) ?_
  refine W.e rfl rfl rfl rfl (by decide) (Ef.bx rfl (.t rfl) rfl) ?_
  rintro _ _ ⟨b6, rfl, rfl⟩
  refine ⟨.inl rfl, ?_⟩
  refine W.cast (m' := m) (l' := hcells b6 [_, _] 36 :: hmap b4 ek47 ev3 _ :: hownT 47 3 Branch.enc (.slice none 0 0) (([] : List Branch)) :: hcells b1 [_] 22 :: l) rfl rfl ?_
  refine W.e rfl rfl rfl rfl (by decide) (Ef.al rfl ZR55 rfl) ?_
  rintro _ _ ⟨b8, rfl, rfl⟩
  refine ⟨.inl rfl, ?_⟩
  refine W.cast (m' := m) (l' := hcells b8 [_] 55 :: hcells b6 [_, _] 36 :: hmap b4 ek47 ev3 _ :: hownT 47 3 Branch.enc (.slice none 0 0) (([] : List Branch)) :: hcells b1 [_] 22 :: l) rfl rfl ?_
  refine W.s rfl rfl rfl rfl (Ef.stB (pos := 0) (us := [_]) (cs' := [_]) rfl rfl (.t rfl) (.t rfl) SZ55 rfl rfl rfl (Nat.le_of_ble_eq_true rfl) rfl) ?_
  rintro _ _ ⟨rfl, rfl⟩
  refine ⟨.inl rfl, ?_⟩
  refine W.cast (m' := m) (l' := hcells b8 [_] 55 :: hcells b6 [_, _] 36 :: hmap b4 ek47 ev3 _ :: hownT 47 3 Branch.enc (.slice none 0 0) (([] : List Branch)) :: hcells b1 [_] 22 :: l) rfl rfl ?_
  refine W.end ?_
  refine NX.sub (env' := [(1, _), (2, _), (6, _)]) ⟨rfl, rfl, rfl, trivial⟩ ?_
  refine NX.then ?_
  refine Tr.seq ?_
  refine Tr.region_f (fun i => Nat.beq i 0) ?_
  refine W.e rfl rfl rfl rfl (by decide) (Ef.al rfl ZR56 rfl) ?_
  rintro _ _ ⟨b10, rfl, rfl⟩
  refine ⟨.inl rfl, ?_⟩
  refine W.cast (m' := m) (l' := hcells b10 [_] 56 :: hcells b8 [_] 55 :: hcells b6 [_, _] 36 :: hmap b4 ek47 ev3 _ :: hownT 47 3 Branch.enc (.slice none 0 0) (([] : List Branch)) :: hcells b1 [_] 22 :: l) rfl rfl ?_
  refine W.end ?_
  refine NX.sub (env' := [(1, _), (2, _), (6, _), (7, _)]) ⟨rfl, rfl, rfl, rfl, trivial⟩ ?_
  refine NX.then ?_
  refine Tr.seq ?_
  refine Tr.region_f (fun i => Nat.beq i 1) ?_
  refine W.q rfl rfl rfl rfl (by decide) (Yd.mkf rfl (.cons (.t rfl) (.cons (.t rfl) (.cons (.t rfl) .nil)))) ?_
  refine W.s rfl rfl rfl rfl (Ef.stB (pos := 0) (us := [_]) (cs' := [_]) rfl rfl (.t rfl) (.t rfl) SZ56 rfl rfl rfl (Nat.le_of_ble_eq_true rfl) rfl) ?_
  rintro _ _ ⟨rfl, rfl⟩
  refine ⟨.inl rfl, ?_⟩
  refine W.cast (m' := m) (l' := hcells b10 [_] 56 :: hcells b8 [_] 55 :: hcells b6 [_, _] 36 :: hmap b4 ek47 ev3 _ :: hownT 47 3 Branch.enc (.slice none 0 0) (([] : List Branch)) :: hcells b1 [_] 22 :: l) rfl rfl ?_
  refine W.end ?_
  refine NX.sub (env' := [(1, _), (6, _), (7, _)]) ⟨rfl, rfl, rfl, trivial⟩ ?_
  refine NX.then ?_
  refine Tr.seq ?_
  obtain ⟨r12, hr13, hr⟩ := bind_some hr
  refine Tr.region_f (fun i => Nat.beq i 2) ?_
  refine W.q rfl rfl rfl rfl (by decide) (Yd.ldB (pos := 0) rfl rfl rfl ON56 (.t rfl)) ?_
  refine W.q rfl rfl rfl rfl (by decide) (Yd.mv rfl (.t rfl)) ?_
  refine W.e rfl rfl rfl rfl (by decide) (Ef.callC (caps := [bp b1 0, bp b10 0, bp b8 0]) (R := fun z x' => ∃ v14 : Value, z = .int .i64 r12.1 ∧ x' = ⟨m, hcells b1 [ul_0] 22 :: hcells b10 [.func (.func 18) #[] #[bp b1 0, bp b10 0, bp b8 0]] 56 :: hcells b8 [bp b6 0] 55 :: hcells b6 [v14, (.map (some b4))] 36 :: hownT 47 3 Branch.enc v14 r12.2.l :: hmap b4 ek47 ev3 r12.2.known :: l⟩) rfl (.t rfl) Try.func18 rfl rfl (.cons (.t rfl) .nil) (by intro w hw; replace hw := cX_front (p := 3) hw rfl; replace hw := cX_front (p := 4) hw rfl; replace hw := cX_front (p := 4) hw rfl; replace hw := cX_front (p := 4) hw rfl; replace hw := cX_front (p := 4) hw rfl; replace hw := cX_front (p := 5) hw rfl; exact (choice_small_c1_ok w0 _ _ fuel  root_1 _ _ _ hl_0 _ _ _ _ _ _ _ _ _ hr13 w hw).mono fun e w' ⟨v14, he, hc'⟩ => ⟨_, _, he, ⟨v14, rfl, rfl⟩, hc'⟩)) ?_
  rintro _ _ ⟨v14, rfl, rfl⟩
  refine ⟨.inl rfl, ?_⟩
  refine W.cast (m' := m) (l' := hcells b1 [_] 22 :: hcells b10 [_] 56 :: hcells b8 [_] 55 :: hcells b6 [_, _] 36 :: hownT 47 3 Branch.enc v14 _ :: hmap b4 ek47 ev3 _ :: l) rfl rfl ?_
  refine W.q rfl rfl rfl rfl (by decide) (Yd.as rfl (.t rfl)) ?_
  refine W.end ?_
  refine NX.sub (env' := [(1, _), (6, _)]) ⟨rfl, rfl, trivial⟩ ?_
  refine NX.drop (l' := hcells b8 [_] 55 :: hcells b6 [_, _] 36 :: hownT 47 3 Branch.enc v14 _ :: hmap b4 ek47 ev3 _ :: l) (.cons _ (.cons _ (.cons_cons _ (.cons_cons _ (.cons_cons _ (.cons_cons _ (.refl _))))))) ?_
  refine NX.then ?_
  refine Tr.seq ?_
  refine Tr.region_f (fun _ => false) ?_
  refine W.q rfl rfl rfl rfl (by decide) (Yd.ldB (pos := 0) rfl rfl rfl ON55 (.t rfl)) ?_
  refine W.q rfl rfl rfl rfl (by decide) (Yd.nilc rfl (.t rfl)) ?_
  refine W.q rfl rfl rfl rfl (by decide) (Yd.fldB rfl Try.underlying36 rfl SZ22 rfl (.t rfl)) ?_
  refine W.q rfl rfl rfl rfl (by decide) (Yd.ldB (pos := 1) rfl rfl rfl ON22 (.t rfl)) ?_
  refine W.q rfl rfl rfl rfl (by decide) (Yd.mv rfl (.t rfl)) ?_
  refine W.q rfl rfl rfl rfl (by decide) (Yd.as rfl (.t rfl)) ?_
  refine W.q rfl rfl rfl rfl (by decide) (Yd.as rfl (.t rfl)) ?_
  refine W.end ?_
  refine NX.sub (env' := [(4, _), (5, _)]) ⟨rfl, rfl, trivial⟩ ?_
  refine NX.drop (l' := hownT 47 3 Branch.enc v14 _ :: l) (.cons _ (.cons _ (.cons_cons _ (.cons _ (.refl _))))) ?_
  refine NX.then ?_
  refine Tr.ret' ?_
  refine res2 rfl rfl rfl ?_
  intro w hc
  cases hr
  exact ⟨_, rfl, hc⟩

def choice_And (fuel : Nat) (n_0 : Int) (a_1 : List Branch) (x_2 : Int) (b_3 : List Branch) (y_4 : Int) : Option ((List Branch) × Int × Int) :=
  (bif ((((decide (n_0 < (0 : Int))) || (decide (n_0 > (4 : Int)))) || (decide ((a_1.length : Int) > (20 : Int)))) || (decide ((b_3.length : Int) > (20 : Int)))) then
  some (([], (0 : Int), (1 : Int)))
  else
  (choice_wrong n_0 a_1 x_2).bind fun r1 =>
  (bif (r1 != (0 : Int)) then
  some (([], (0 : Int), r1))
  else
  (choice_wrong n_0 b_3 y_4).bind fun r3 =>
  (bif (r3 != (0 : Int)) then
  some (([], (0 : Int), r3))
  else
  (choice_both_and fuel (({ maker := ({ l := ([] : List Branch), known := ([] : List (Branch × Int)) } : T36), a := a_1, b := b_3, done := ([] : List ((Int × Int) × Int)) } : T39)) x_2 y_4 n_0).bind fun r12 =>
  (choice_small fuel r12.2.maker.l r12.1).bind fun r15 =>
  some ((r15.1, r15.2, (0 : Int))))))

set_option maxRecDepth 100000 in
set_option maxHeartbeats 4000000 in
theorem choice_And_ok (w0 : World) (m : Snap) (l : List HI) (fuel : Nat) (n_0 : Int) (ua_1 : Value) (a_1 : List Branch) (ha_1 : RS rBranch m ua_1 a_1) (x_2 : Int) (ub_3 : Value) (b_3 : List Branch) (hb_3 : RS rBranch m ub_3 b_3) (y_4 : Int) (r : (List Branch) × Int × Int) (hr : choice_And fuel n_0 a_1 x_2 b_3 y_4 = some r) (w : World) (hc : cX w0 ⟨m, l⟩ w) :
    Calls Try.prog 4 [.int .i64 n_0, ua_1, .int .i64 x_2, ub_3, .int .i64 y_4].toArray w fun e w' => ∃ z0 : Value, e = .returned (.tuple #[z0, .int .i64 r.2.1, .int .i64 r.2.2]) ∧ cX w0 ⟨m, hownT 47 3 Branch.enc z0 r.1 :: l⟩ w' := by
  unfold choice_And at hr
  refine calls_of_Tr (N := 72) Try.func4 rfl hc rfl (Nat.le_of_ble_eq_true rfl) ?_
  refine Tr.seq ?_
  refine Tr.region_f (fun _ => false) ?_
  refine W.q rfl rfl rfl rfl (by decide) (Yd.as rfl .c) ?_
  refine W.q rfl rfl rfl rfl (by decide) (Yd.as rfl .c) ?_
  refine W.q rfl rfl rfl rfl (by decide) (Yd.as rfl .c) ?_
  refine W.end ?_
  refine NX.sub (env' := [(0, _), (1, _), (2, _), (3, _), (4, _)]) ⟨rfl, rfl, rfl, rfl, rfl, trivial⟩ ?_
  refine NX.then ?_
  refine Tr.seq ?_
  refine Tr.seq ?_
  refine Tr.region_f (fun _ => false) ?_
  refine W.q rfl rfl rfl rfl (by decide) (Yd.mv rfl (.t rfl)) ?_
  refine W.q rfl rfl rfl rfl (by decide) (Yd.lss rfl (.t rfl) .c) ?_
  refine W.q rfl rfl rfl rfl (by decide) (Yd.mv rfl (.t rfl)) ?_
  refine W.g rfl rfl rfl rfl rfl (.t rfl _) rfl (by decide) (fun hG => Yd.mv rfl (.t rfl)) ?_
  refine W.g rfl rfl rfl rfl rfl (.t rfl _) rfl (by decide) (fun hG => Yd.gtr rfl (.g rfl hG) .c) ?_
  refine W.q rfl rfl rfl rfl (by decide) (Yd.or rfl (.t rfl) .c rfl rfl) ?_
  refine W.q rfl rfl rfl rfl (by decide) (Yd.mv rfl (.t rfl)) ?_
  refine W.g rfl rfl rfl rfl rfl (.t rfl _) rfl (by decide) (fun hG => Yd.mv rfl (.t rfl)) ?_
  refine W.g rfl rfl rfl rfl rfl (.t rfl _) rfl (by decide) (fun hG => Yd.lenR ha_1 rfl Try.underlying22 (.g rfl hG)) ?_
  refine W.g rfl rfl rfl rfl rfl (.t rfl _) rfl (by decide) (fun hG => Yd.gtr rfl (.g rfl hG) .c) ?_
  refine W.q rfl rfl rfl rfl (by decide) (Yd.or rfl (.t rfl) .c rfl rfl) ?_
  refine W.q rfl rfl rfl rfl (by decide) (Yd.mv rfl (.t rfl)) ?_
  refine W.g rfl rfl rfl rfl rfl (.t rfl _) rfl (by decide) (fun hG => Yd.mv rfl (.t rfl)) ?_
  refine W.g rfl rfl rfl rfl rfl (.t rfl _) rfl (by decide) (fun hG => Yd.lenR hb_3 rfl Try.underlying22 (.g rfl hG)) ?_
  refine W.g rfl rfl rfl rfl rfl (.t rfl _) rfl (by decide) (fun hG => Yd.gtr rfl (.g rfl hG) .c) ?_
  refine W.q rfl rfl rfl rfl (by decide) (Yd.or rfl (.t rfl) .c rfl rfl) ?_
  refine W.end ?_
  refine NX.sub (env' := [(0, _), (1, _), (2, _), (3, _), (4, _), (33, _)]) ⟨rfl, rfl, rfl, rfl, rfl, rfl, trivial⟩ ?_
  refine NX.then ?_
  refine Tr.cond (.t rfl) (fun hb => ?_) (fun hb => ?_)
  · have hr := cond_t hb hr
    refine Tr.seq ?_
    refine Tr.region_f (fun _ => false) ?_
    refine W.q rfl rfl rfl rfl (by decide) (Yd.as rfl .c) ?_
    refine W.q rfl rfl rfl rfl (by decide) (Yd.as rfl .c) ?_
    refine W.q rfl rfl rfl rfl (by decide) (Yd.as rfl .c) ?_
    refine W.end ?_
    refine NX.sub (env' := [(10, _), (11, _), (12, _)]) ⟨rfl, rfl, rfl, trivial⟩ ?_
    refine NX.then ?_
    refine Tr.ret' (RT.then ?_)
    refine res3 rfl rfl rfl rfl ?_
    intro w hc
    cases hr
    exact ⟨_, rfl, (cX_nil hc)⟩
  · have hr := cond_f hb hr
    refine Tr.skip' ?_
    refine NX.then ?_
    refine Tr.seq ?_
    refine Tr.seq ?_
    obtain ⟨r1, hr2, hr⟩ := bind_some hr
    refine Tr.region_f (fun _ => false) ?_
    refine W.q rfl rfl rfl rfl (by decide) (Yd.mv rfl (.t rfl)) ?_
    refine W.q rfl rfl rfl rfl (by decide) (Yd.mv rfl (.t rfl)) ?_
    refine W.q rfl rfl rfl rfl (by decide) (Yd.mv rfl (.t rfl)) ?_
    refine W.q rfl rfl rfl rfl (by decide) (Yd.call (v := .int .i64 r1) rfl Try.func9 rfl rfl (.cons (.t rfl) (.cons (.t rfl) (.cons (.t rfl) .nil))) (fun x' hx w hw => choice_wrong_ok w0 x'.m x'.l n_0 _ _ (ha_1.mono hx.1) x_2 _ hr2 w hw)) ?_
    refine W.q rfl rfl rfl rfl (by decide) (Yd.as rfl (.t rfl)) ?_
    refine W.end ?_
    refine NX.sub (env' := [(0, _), (1, _), (2, _), (3, _), (4, _), (13, _)]) ⟨rfl, rfl, rfl, rfl, rfl, rfl, trivial⟩ ?_
    refine NX.then ?_
    refine Tr.seq ?_
    refine Tr.region_f (fun _ => false) ?_
    refine W.q rfl rfl rfl rfl (by decide) (Yd.mv rfl (.t rfl)) ?_
    refine W.q rfl rfl rfl rfl (by decide) (Yd.neq rfl (.t rfl) .c) ?_
    refine W.end ?_
    refine NX.sub (env' := [(0, _), (1, _), (2, _), (3, _), (4, _), (13, _), (39, _)]) ⟨rfl, rfl, rfl, rfl, rfl, rfl, rfl, trivial⟩ ?_
    refine NX.then ?_
    refine Tr.cond (.t rfl) (fun hb => ?_) (fun hb => ?_)
    · have hr := cond_t hb hr
      refine Tr.seq ?_
      refine Tr.region_f (fun _ => false) ?_
      refine W.q rfl rfl rfl rfl (by decide) (Yd.mv rfl (.t rfl)) ?_
      refine W.q rfl rfl rfl rfl (by decide) (Yd.as rfl .c) ?_
      refine W.q rfl rfl rfl rfl (by decide) (Yd.as rfl .c) ?_
      refine W.q rfl rfl rfl rfl (by decide) (Yd.as rfl (.t rfl)) ?_
      refine W.end ?_
      refine NX.sub (env' := [(10, _), (11, _), (12, _)]) ⟨rfl, rfl, rfl, trivial⟩ ?_
      refine NX.then ?_
      refine Tr.ret' (RT.then ?_)
      refine res3 rfl rfl rfl rfl ?_
      intro w hc
      cases hr
      exact ⟨_, rfl, (cX_nil hc)⟩
    · have hr := cond_f hb hr
      refine Tr.skip' ?_
      refine NX.then ?_
      refine Tr.seq ?_
      refine Tr.seq ?_
      obtain ⟨r3, hr4, hr⟩ := bind_some hr
      refine Tr.region_f (fun _ => false) ?_
      refine W.q rfl rfl rfl rfl (by decide) (Yd.mv rfl (.t rfl)) ?_
      refine W.q rfl rfl rfl rfl (by decide) (Yd.mv rfl (.t rfl)) ?_
      refine W.q rfl rfl rfl rfl (by decide) (Yd.mv rfl (.t rfl)) ?_
      refine W.q rfl rfl rfl rfl (by decide) (Yd.call (v := .int .i64 r3) rfl Try.func9 rfl rfl (.cons (.t rfl) (.cons (.t rfl) (.cons (.t rfl) .nil))) (fun x' hx w hw => choice_wrong_ok w0 x'.m x'.l n_0 _ _ (hb_3.mono hx.1) y_4 _ hr4 w hw)) ?_
      refine W.q rfl rfl rfl rfl (by decide) (Yd.as rfl (.t rfl)) ?_
      refine W.end ?_
      refine NX.sub (env' := [(0, _), (1, _), (2, _), (3, _), (4, _), (14, _)]) ⟨rfl, rfl, rfl, rfl, rfl, rfl, trivial⟩ ?_
      refine NX.then ?_
      refine Tr.seq ?_
      refine Tr.region_f (fun _ => false) ?_
      refine W.q rfl rfl rfl rfl (by decide) (Yd.mv rfl (.t rfl)) ?_
      refine W.q rfl rfl rfl rfl (by decide) (Yd.neq rfl (.t rfl) .c) ?_
      refine W.end ?_
      refine NX.sub (env' := [(0, _), (1, _), (2, _), (3, _), (4, _), (14, _), (46, _)]) ⟨rfl, rfl, rfl, rfl, rfl, rfl, rfl, trivial⟩ ?_
      refine NX.then ?_
      refine Tr.cond (.t rfl) (fun hb => ?_) (fun hb => ?_)
      · have hr := cond_t hb hr
        refine Tr.seq ?_
        refine Tr.region_f (fun _ => false) ?_
        refine W.q rfl rfl rfl rfl (by decide) (Yd.mv rfl (.t rfl)) ?_
        refine W.q rfl rfl rfl rfl (by decide) (Yd.as rfl .c) ?_
        refine W.q rfl rfl rfl rfl (by decide) (Yd.as rfl .c) ?_
        refine W.q rfl rfl rfl rfl (by decide) (Yd.as rfl (.t rfl)) ?_
        refine W.end ?_
        refine NX.sub (env' := [(10, _), (11, _), (12, _)]) ⟨rfl, rfl, rfl, trivial⟩ ?_
        refine NX.then ?_
        refine Tr.ret' (RT.then ?_)
        refine res3 rfl rfl rfl rfl ?_
        intro w hc
        cases hr
        exact ⟨_, rfl, (cX_nil hc)⟩
      · have hr := cond_f hb hr
        refine Tr.skip' ?_
        refine NX.then ?_
        refine Tr.seq ?_
        refine Tr.addnil 47 3 ?_
        refine Tr.cast (m' := m) (l' := hownT 47 3 Branch.enc (.slice none 0 0) (([] : List Branch)) :: l) rfl rfl ?_
        refine Tr.region_f (fun i => Nat.beq i 0 || Nat.beq i 4 || Nat.beq i 6) ?_
        refine W.e rfl rfl rfl rfl (by decide) (Ef.mkMap (ν := Int) ek47 ev3 rfl) ?_
        rintro _ _ ⟨b6, rfl, rfl⟩
        refine ⟨.inl rfl, ?_⟩
        refine W.cast (m' := m) (l' := hmap b6 ek47 ev3 _ :: hownT 47 3 Branch.enc (.slice none 0 0) (([] : List Branch)) :: l) rfl rfl ?_
        refine W.q rfl rfl rfl rfl (by decide) (Yd.bld (cells := [(.slice none 0 0), (.map (some b6))]) rfl ZI36 PL36 (.cons (.t rfl) .nil) rfl) ?_
        refine W.q rfl rfl rfl rfl (by decide) (Yd.mv rfl (.t rfl)) ?_
        refine W.q rfl rfl rfl rfl (by decide) (Yd.mv rfl (.t rfl)) ?_
        refine W.e rfl rfl rfl rfl (by decide) (Ef.mkMap (ν := Int) ek51 ev3 rfl) ?_
        rintro _ _ ⟨b8, rfl, rfl⟩
        refine ⟨.inl rfl, ?_⟩
        refine W.cast (m' := m) (l' := hmap b8 ek51 ev3 _ :: hmap b6 ek47 ev3 _ :: hownT 47 3 Branch.enc (.slice none 0 0) (([] : List Branch)) :: l) rfl rfl ?_
        refine W.q rfl rfl rfl rfl (by decide) (Yd.bld2 (cells := [(.slice none 0 0), (.map (some b6)), ua_1, ub_3, (.map (some b8))]) (Sl.ro ha_1) (Sl.ro hb_3) rfl ZI39 PL39 (.cons (.t rfl) (.cons (.t rfl) (.cons (.t rfl) (.cons (.t rfl) .nil)))) (by rintro ⟨_, _, _, rfl⟩; rintro ⟨_, _, _, rfl⟩; rfl)) ?_
        refine W.e rfl rfl rfl rfl (by decide) (Ef.bx rfl (.t rfl) rfl) ?_
        rintro _ _ ⟨b10, rfl, rfl⟩
        refine ⟨.inl rfl, ?_⟩
        refine W.cast (m' := m) (l' := hcells b10 [_, _, _, _, _] 39 :: hmap b8 ek51 ev3 _ :: hmap b6 ek47 ev3 _ :: hownT 47 3 Branch.enc (.slice none 0 0) (([] : List Branch)) :: l) rfl rfl ?_
        refine W.q rfl rfl rfl rfl (by decide) (Yd.as rfl (.t rfl)) ?_
        refine W.end ?_
        refine NX.sub (env' := [(0, _), (2, _), (4, _), (15, _)]) ⟨rfl, rfl, rfl, rfl, trivial⟩ ?_
        refine NX.then ?_
        refine Tr.seq ?_
        obtain ⟨r12, hr13, hr⟩ := bind_some hr
        refine Tr.region_f (fun i => Nat.beq i 4) ?_
        refine W.q rfl rfl rfl rfl (by decide) (Yd.mv rfl (.t rfl)) ?_
        refine W.q rfl rfl rfl rfl (by decide) (Yd.mv rfl (.t rfl)) ?_
        refine W.q rfl rfl rfl rfl (by decide) (Yd.mv rfl (.t rfl)) ?_
        refine W.q rfl rfl rfl rfl (by decide) (Yd.mv rfl (.t rfl)) ?_
        refine W.e rfl rfl rfl rfl (by decide) (Ef.call (R := fun z x' => ∃ v14 : Value, z = .int .i64 r12.1 ∧ x' = ⟨m, hcells b10 [v14, (.map (some b6)), ua_1, ub_3, (.map (some b8))] 39 :: hownT 47 3 Branch.enc v14 r12.2.maker.l :: hmap b6 ek47 ev3 r12.2.maker.known :: hmap b8 ek51 ev3 r12.2.done :: l⟩) rfl Try.func10 rfl rfl (.cons (.t rfl) (.cons (.t rfl) (.cons (.t rfl) (.cons (.t rfl) .nil)))) (by intro w hw; replace hw := cX_front (p := 1) hw rfl; replace hw := cX_front (p := 2) hw rfl; replace hw := cX_front (p := 3) hw rfl; replace hw := cX_front (p := 3) hw rfl; exact (choice_both_and_ok w0 _ _ fuel _ (({ maker := ({ l := ([] : List Branch), known := ([] : List (Branch × Int)) } : T36), a := a_1, b := b_3, done := ([] : List ((Int × Int) × Int)) } : T39)) _ _ _ ha_1 _ hb_3 _ x_2 y_4 n_0 _ hr13 w hw).mono fun e w' ⟨v14, he, hc'⟩ => ⟨_, _, he, ⟨v14, rfl, rfl⟩, hc'⟩)) ?_
        rintro _ _ ⟨v14, rfl, rfl⟩
        refine ⟨.inl rfl, ?_⟩
        refine W.cast (m' := m) (l' := hcells b10 [_, _, _, _, _] 39 :: hownT 47 3 Branch.enc v14 _ :: hmap b6 ek47 ev3 _ :: hmap b8 ek51 ev3 _ :: l) rfl rfl ?_
        refine W.q rfl rfl rfl rfl (by decide) (Yd.as rfl (.t rfl)) ?_
        refine W.end ?_
        refine NX.sub (env' := [(15, _), (16, _)]) ⟨rfl, rfl, trivial⟩ ?_
        refine NX.then ?_
        refine Tr.seq ?_
        obtain ⟨r15, hr16, hr⟩ := bind_some hr
        refine Tr.region_f (fun i => Nat.beq i 6) ?_
        refine W.q rfl rfl rfl rfl (by decide) (Yd.mv rfl (.t rfl)) ?_
        refine W.q rfl rfl rfl rfl (by decide) (Yd.nilc rfl (.t rfl)) ?_
        refine W.q rfl rfl rfl rfl (by decide) (Yd.fldB rfl Try.underlying39 rfl SZ36 rfl (.t rfl)) ?_
        refine W.q rfl rfl rfl rfl (by decide) (Yd.fldB rfl Try.underlying36 rfl SZ22 rfl (.t rfl)) ?_
        refine W.q rfl rfl rfl rfl (by decide) (Yd.ldB (pos := 0) rfl rfl rfl ON22 (.t rfl)) ?_
        refine W.q rfl rfl rfl rfl (by decide) (Yd.mv rfl (.t rfl)) ?_
        refine W.e rfl rfl rfl rfl (by decide) (Ef.call (R := fun z x' => ∃ v17 : Value, z = .tuple #[v17, .int .i64 r15.2] ∧ x' = ⟨m, hownT 47 3 Branch.enc v17 r15.1 :: hcells b10 [v14, (.map (some b6)), ua_1, ub_3, (.map (some b8))] 39 :: hownT 47 3 Branch.enc v14 r12.2.maker.l :: hmap b6 ek47 ev3 r12.2.maker.known :: hmap b8 ek51 ev3 r12.2.done :: l⟩) rfl Try.func11 rfl rfl (.cons (.t rfl) (.cons (.t rfl) .nil)) (by intro w hw; obtain ⟨m2, hm2, hc2, ⟨L2, hl1, hl2⟩, hback⟩ := cX_lend (p := 1) hw rfl lone_own; have hL1 : RS rBranch m2 _ _ := RS_of_own hl1 hl2; exact (choice_small_ok w0 m2 _ fuel _ _ hL1 r12.1 _ hr16 w hc2).mono fun e w' ⟨v17, he, hc'⟩ => ⟨_, _, he, ⟨v17, rfl, rfl⟩, (hback m2 _ 2 w' (.refl _) rfl).2 hc'⟩)) ?_
        rintro _ _ ⟨v17, rfl, rfl⟩
        refine ⟨.inl rfl, ?_⟩
        refine W.cast (m' := m) (l' := hownT 47 3 Branch.enc v17 _ :: hcells b10 [_, _, _, _, _] 39 :: hownT 47 3 Branch.enc v14 _ :: hmap b6 ek47 ev3 _ :: hmap b8 ek51 ev3 _ :: l) rfl rfl ?_
        refine W.q rfl rfl rfl rfl (by decide) (Yd.mv rfl (.t rfl)) ?_
        refine W.q rfl rfl rfl rfl (by decide) (Yd.ext rfl (.t rfl) rfl) ?_
        refine W.q rfl rfl rfl rfl (by decide) (Yd.ext rfl (.t rfl) rfl) ?_
        refine W.q rfl rfl rfl rfl (by decide) (Yd.as rfl (.t rfl)) ?_
        refine W.q rfl rfl rfl rfl (by decide) (Yd.as rfl (.t rfl)) ?_
        refine W.end ?_
        refine NX.sub (env' := [(16, _), (17, _)]) ⟨rfl, rfl, trivial⟩ ?_
        refine NX.drop (l' := hownT 47 3 Branch.enc v17 _ :: l) (.cons_cons _ (.cons _ (.cons _ (.cons _ (.cons _ (.refl _)))))) ?_
        refine NX.then ?_
        refine Tr.seq ?_
        refine Tr.region_f (fun _ => false) ?_
        refine W.q rfl rfl rfl rfl (by decide) (Yd.mv rfl (.t rfl)) ?_
        refine W.q rfl rfl rfl rfl (by decide) (Yd.mv rfl (.t rfl)) ?_
        refine W.q rfl rfl rfl rfl (by decide) (Yd.as rfl (.t rfl)) ?_
        refine W.q rfl rfl rfl rfl (by decide) (Yd.as rfl (.t rfl)) ?_
        refine W.q rfl rfl rfl rfl (by decide) (Yd.as rfl .c) ?_
        refine W.end ?_
        refine NX.sub (env' := [(10, _), (11, _), (12, _)]) ⟨rfl, rfl, rfl, trivial⟩ ?_
        refine NX.then ?_
        refine Tr.ret' ?_
        refine res3 rfl rfl rfl rfl ?_
        intro w hc
        cases hr
        exact ⟨_, rfl, hc⟩

def syllogistref_BranchCheck_k3 (l_1 : List Branch) (root_2 : Int) : Option (Int) :=
  (bif ((decide (root_2 < (0 : Int))) || (decide (root_2 ≥ (w64 ((l_1.length : Int) + (2 : Int)))))) then
  some ((2 : Int))
  else
  some ((0 : Int)))

def syllogistref_BranchCheck_k18 (nx8 : (Unit → Option (Int))) : Option (Int) :=
  nx8 ()

def syllogistref_BranchCheck_b22 (l_1 : List Branch) (t_6 : Int) (y10 : Branch) (t_21 : Int) (nx23 : Unit → Option (Int)) : Option (Int) :=
  (geti (([y10.low, y10.high] : List Int)) t_21).bind fun y25 =>
  bif (!((((decide (y25 < (0 : Int))) || (decide (y25 ≥ (w64 (t_6 + (2 : Int)))))) == false) && ((decide (y25 ≥ (2 : Int))) == true)) || (geti l_1 ((w64 (y25 - (2 : Int))))).isSome) then
  (bif (((decide (y25 < (0 : Int))) || (decide (y25 ≥ (w64 (t_6 + (2 : Int)))))) || ((decide (y25 ≥ (2 : Int))) && (decide ((((geti l_1 ((w64 (y25 - (2 : Int))))).getD ({ var := (0 : Int), low := (0 : Int), high := (0 : Int) } : Branch))).var ≤ y10.var)))) then
  some ((3 : Int))
  else
  nx23 ()) else none

def syllogistref_BranchCheck_b7 (n_0 : Int) (l_1 : List Branch) (t_6 : Int) (nx8 : Unit → Option (Int)) : Option (Int) :=
  (geti l_1 t_6).bind fun y10 =>
  (bif ((decide (y10.var < (0 : Int))) || (decide (y10.var ≥ n_0))) then
  some ((4 : Int))
  else
  forK (σ := Unit) (fun i s nx_ => syllogistref_BranchCheck_b22 l_1 t_6 y10 i nx_) (fun _ => syllogistref_BranchCheck_k18 nx8) (((([y10.low, y10.high] : List Int)).length : Int) - (0 : Int)).toNat (0 : Int) ())

def syllogistref_BranchCheck (n_0 : Int) (l_1 : List Branch) (root_2 : Int) : Option (Int) :=
  forK (σ := Unit) (fun i s nx_ => syllogistref_BranchCheck_b7 n_0 l_1 i nx_) (fun _ => syllogistref_BranchCheck_k3 l_1 root_2) ((l_1.length : Int) - (0 : Int)).toNat (0 : Int) ()

set_option maxRecDepth 100000 in
set_option maxHeartbeats 4000000 in
theorem syllogistref_BranchCheck_ok (w0 : World) (m : Snap) (l : List HI) (n_0 : Int) (ul_1 : Value) (l_1 : List Branch) (hl_1 : RS rBranch m ul_1 l_1) (root_2 : Int) (r : Int) (hr : syllogistref_BranchCheck n_0 l_1 root_2 = some r) (w : World) (hc : cX w0 ⟨m, l⟩ w) :
    Calls Try.prog 12 [.int .i64 n_0, ul_1, .int .i64 root_2].toArray w fun e w' => e = .returned (.int .i64 r) ∧ cX w0 ⟨m, l⟩ w' := by
  unfold syllogistref_BranchCheck at hr
  refine calls_of_Tr (N := 71) Try.func12 rfl hc rfl (Nat.le_of_ble_eq_true rfl) ?_
  refine Tr.seq ?_
  refine Tr.region_f (fun _ => false) ?_
  refine W.q rfl rfl rfl rfl (by decide) (Yd.as rfl .c) ?_
  refine W.end ?_
  refine NX.sub (env' := [(0, _), (1, _), (2, _)]) ⟨rfl, rfl, rfl, trivial⟩ ?_
  refine NX.then ?_
  refine Tr.seq ?_
  refine Tr.seq ?_
  refine Tr.region_f (fun _ => false) ?_
  refine W.q rfl rfl rfl rfl (by decide) (Yd.mv rfl (.t rfl)) ?_
  refine W.q rfl rfl rfl rfl (by decide) (Yd.lenR hl_1 rfl Try.underlying22 (.t rfl)) ?_
  refine W.q rfl rfl rfl rfl (by decide) (Yd.mv rfl .c) ?_
  refine W.end ?_
  refine NX.sub (env' := [(0, _), (1, _), (2, _), (11, _), (12, _), (13, _)]) ⟨rfl, rfl, rfl, rfl, rfl, rfl, trivial⟩ ?_
  refine NX.then ?_
  refine Tr.join (S := fun env x => env = [(1, ul_1), (2, .int .i64 root_2)] ∧ x = ⟨m, l⟩ ∧ syllogistref_BranchCheck_k3 l_1 root_2 = some r) ?_ (fun hk4 => ?_)
  · rintro _ _ ⟨rfl, rfl, hr⟩
    unfold syllogistref_BranchCheck_k3 at hr
    try dsimp only at hr
    refine NX.then ?_
    refine Tr.seq ?_
    refine Tr.seq ?_
    refine Tr.region_f (fun _ => false) ?_
    refine W.q rfl rfl rfl rfl (by decide) (Yd.mv rfl (.t rfl)) ?_
    refine W.q rfl rfl rfl rfl (by decide) (Yd.lss rfl (.t rfl) .c) ?_
    refine W.q rfl rfl rfl rfl (by decide) (Yd.mv rfl (.t rfl)) ?_
    refine W.g rfl rfl rfl rfl rfl (.t rfl _) rfl (by decide) (fun hG => Yd.mv rfl (.t rfl)) ?_
    refine W.g rfl rfl rfl rfl rfl (.t rfl _) rfl (by decide) (fun hG => Yd.mv rfl (.t rfl)) ?_
    refine W.g rfl rfl rfl rfl rfl (.t rfl _) rfl (by decide) (fun hG => Yd.lenR hl_1 rfl Try.underlying22 (.g rfl hG)) ?_
    refine W.g rfl rfl rfl rfl rfl (.t rfl _) rfl (by decide) (fun hG => Yd.add rfl (.g rfl hG) .c) ?_
    refine W.g rfl rfl rfl rfl rfl (.t rfl _) rfl (by decide) (fun hG => Yd.geq rfl (.g rfl hG) (.g rfl hG)) ?_
    refine W.q rfl rfl rfl rfl (by decide) (Yd.or rfl (.t rfl) .c rfl rfl) ?_
    refine W.end ?_
    refine NX.sub (env' := [(70, _)]) ⟨rfl, trivial⟩ ?_
    refine NX.then ?_
    refine Tr.cond (.t rfl) (fun hb => ?_) (fun hb => ?_)
    · have hr := cond_t hb hr
      refine Tr.seq ?_
      refine Tr.region_f (fun _ => false) ?_
      refine W.q rfl rfl rfl rfl (by decide) (Yd.as rfl .c) ?_
      refine W.end ?_
      refine NX.sub (env' := [(6, _)]) ⟨rfl, trivial⟩ ?_
      refine NX.then ?_
      refine Tr.ret' (RT.then ?_)
      refine res1 rfl rfl ?_
      intro w hc
      cases hr
      exact ⟨rfl, hc⟩
    · have hr := cond_f hb hr
      refine Tr.skip' ?_
      refine NX.then ?_
      refine Tr.seq ?_
      refine Tr.region_f (fun _ => false) ?_
      refine W.q rfl rfl rfl rfl (by decide) (Yd.as rfl .c) ?_
      refine W.end ?_
      refine NX.sub (env' := [(6, _)]) ⟨rfl, trivial⟩ ?_
      refine NX.then ?_
      refine Tr.ret' ?_
      refine res1 rfl rfl ?_
      intro w hc
      cases hr
      exact ⟨rfl, hc⟩
  have hlen5 := (hl_1).2.1
  refine Tr.block ?_
  refine Tr.sub (env' := [(0, _), (1, _), (2, _), (11, _), (12, _), (13, _)]) ⟨rfl, rfl, rfl, rfl, rfl, rfl, trivial⟩ ?_
  refine Tr.loop (S := fun n (z : Int × Unit) env x => match z with | (t_6, _) => env = [(0, .int .i64 n_0), (1, ul_1), (2, .int .i64 root_2), (11, ul_1), (12, .int .i64 ((l_1.length : Int))), (13, .int .i64 t_6)] ∧ x = ⟨m, l⟩ ∧ n = ((l_1.length : Int) - t_6).toNat ∧ 0 ≤ t_6 ∧ forK (σ := Unit) (fun i s nx_ => syllogistref_BranchCheck_b7 n_0 l_1 i nx_) (fun _ => syllogistref_BranchCheck_k3 l_1 root_2) n t_6 () = some r) _ ((0 : Int), ()) ⟨rfl, rfl, rfl, (by omega), hr⟩ ?_
  rintro n9 ⟨t_6, _⟩ env x ⟨rfl, rfl, hnt_6, h0t_6, hr⟩
  cases n9 with
  | zero =>
    simp only [forK] at hr
    refine Tr.seq ?_
    refine Tr.region_f (fun _ => false) ?_
    refine W.q rfl rfl rfl rfl (by decide) (Yd.lss rfl (.t rfl) (.t rfl)) ?_
    refine W.end ?_
    refine NX.sub (env' := [(0, _), (1, _), (2, _), (11, _), (12, _), (13, _), (14, _)]) ⟨rfl, rfl, rfl, rfl, rfl, rfl, rfl, trivial⟩ ?_
    refine NX.then ?_
    refine Tr.seq ?_
    refine Tr.cond (.t rfl) (fun hb => ?_) (fun hb => ?_)
    · exact absurd (hb.symm.trans (fr_end hnt_6)) (by decide)
    ·
      refine Tr.exit' (EX.then (EX.then (EX.block ?_)))
      refine NX.sub (env' := [(1, _), (2, _)]) ⟨rfl, rfl, trivial⟩ ?_
      exact hk4 _ _ ⟨rfl, rfl, hr⟩
  | succ n9 =>
    obtain ⟨nx8, hnx8, hr⟩ := forK_succ hr
    try dsimp only at hr
    unfold syllogistref_BranchCheck_b7 at hr
    try dsimp only at hr
    have hltt_6 := fr_bnd hnt_6
    refine Tr.seq ?_
    refine Tr.region_f (fun _ => false) ?_
    refine W.q rfl rfl rfl rfl (by decide) (Yd.lss rfl (.t rfl) (.t rfl)) ?_
    refine W.end ?_
    refine NX.sub (env' := [(0, _), (1, _), (2, _), (11, _), (12, _), (13, _), (14, _)]) ⟨rfl, rfl, rfl, rfl, rfl, rfl, rfl, trivial⟩ ?_
    refine NX.then ?_
    refine Tr.seq ?_
    refine Tr.cond (.t rfl) (fun hb => ?_) (fun hb => ?_)
    rotate_left
    · exact absurd (hb.symm.trans (fr_go hnt_6)) (by decide)
    ·
      refine Tr.skip' ?_
      refine NX.then ?_
      refine Tr.seq ?_
      refine Tr.block ?_
      refine Tr.seq ?_
      obtain ⟨y10, hy11, hr⟩ := bind_some hr
      refine Tr.region_f (fun i => Nat.beq i 3 || Nat.beq i 5) ?_
      refine W.q rfl rfl rfl rfl (by decide) (Yd.mv rfl (.t rfl)) ?_
      refine W.q rfl rfl rfl rfl (by decide) (Yd.idxR hl_1 hy11 rfl Try.underlying22 SZ47 (.t rfl) (.t rfl)) ?_
      refine W.q rfl rfl rfl rfl (by decide) (Yd.ldFs (us := [_, _, _]) hl_1 (.refl _) hy11 rfl rfl ON47 US47 SZ47 (.t rfl)) ?_
      refine W.e rfl rfl rfl rfl (by decide) (Ef.al rfl ZR47 rfl) ?_
      rintro _ _ ⟨b12, rfl, rfl⟩
      refine ⟨.inl rfl, ?_⟩
      refine W.cast (m' := m) (l' := hcells b12 [_, _, _] 47 :: l) rfl rfl ?_
      refine W.q rfl rfl rfl rfl (by decide) (Yd.as rfl (.t rfl)) ?_
      refine W.s rfl rfl rfl rfl (Ef.stB (pos := 0) (us := [_, _, _]) (cs' := [_, _, _]) rfl rfl (.t rfl) (.t rfl) SZ47 rfl rfl rfl (Nat.le_of_ble_eq_true rfl) rfl) ?_
      rintro _ _ ⟨rfl, rfl⟩
      refine ⟨.inl rfl, ?_⟩
      refine W.cast (m' := m) (l' := hcells b12 [_, _, _] 47 :: l) rfl rfl ?_
      refine W.end ?_
      refine NX.sub (env' := [(0, _), (1, _), (2, _), (11, _), (12, _), (13, _), (8, _), (7, _)]) ⟨rfl, rfl, rfl, rfl, rfl, rfl, rfl, rfl, trivial⟩ ?_
      refine NX.then ?_
      refine Tr.seq ?_
      refine Tr.seq ?_
      refine Tr.region_f (fun _ => false) ?_
      refine W.q rfl rfl rfl rfl (by decide) (Yd.fldB rfl Try.underlying47 rfl SZ3 rfl (.t rfl)) ?_
      refine W.q rfl rfl rfl rfl (by decide) (Yd.ldB (pos := 0) rfl rfl rfl ON3 (.t rfl)) ?_
      refine W.q rfl rfl rfl rfl (by decide) (Yd.lss rfl (.t rfl) .c) ?_
      refine W.q rfl rfl rfl rfl (by decide) (Yd.mv rfl (.t rfl)) ?_
      refine W.g rfl rfl rfl rfl rfl (.t rfl _) rfl (by decide) (fun hG => Yd.fldB rfl Try.underlying47 rfl SZ3 rfl (.t rfl)) ?_
      refine W.g rfl rfl rfl rfl rfl (.t rfl _) rfl (by decide) (fun hG => Yd.ldB (pos := 0) rfl rfl rfl ON3 (.g rfl hG)) ?_
      refine W.g rfl rfl rfl rfl rfl (.t rfl _) rfl (by decide) (fun hG => Yd.mv rfl (.t rfl)) ?_
      refine W.g rfl rfl rfl rfl rfl (.t rfl _) rfl (by decide) (fun hG => Yd.geq rfl (.g rfl hG) (.g rfl hG)) ?_
      refine W.q rfl rfl rfl rfl (by decide) (Yd.or rfl (.t rfl) .c rfl rfl) ?_
      refine W.end ?_
      refine NX.sub (env' := [(0, _), (1, _), (2, _), (11, _), (12, _), (13, _), (8, _), (7, _), (26, _)]) ⟨rfl, rfl, rfl, rfl, rfl, rfl, rfl, rfl, rfl, trivial⟩ ?_
      refine NX.then ?_
      refine Tr.cond (.t rfl) (fun hb => ?_) (fun hb => ?_)
      · have hr := cond_t hb hr
        refine Tr.seq ?_
        refine Tr.region_f (fun _ => false) ?_
        refine W.q rfl rfl rfl rfl (by decide) (Yd.as rfl .c) ?_
        refine W.end ?_
        refine NX.sub (env' := [(6, _)]) ⟨rfl, trivial⟩ ?_
        refine NX.drop (l' := l) (.cons _ (.refl _)) ?_
        refine NX.then ?_
        refine Tr.ret' (RT.then (RT.block (RT.then (RT.then (RT.block (RT.then ?_))))))
        refine res1 rfl rfl ?_
        intro w hc
        cases hr
        exact ⟨rfl, hc⟩
      · have hr := cond_f hb hr
        refine Tr.skip' ?_
        refine NX.then ?_
        refine Tr.seq ?_
        refine Tr.region_f (fun i => Nat.beq i 4) ?_
        refine W.q rfl rfl rfl rfl (by decide) (Yd.fldB rfl Try.underlying47 rfl SZ3 rfl (.t rfl)) ?_
        refine W.q rfl rfl rfl rfl (by decide) (Yd.ldB (pos := 0) rfl rfl rfl ON3 (.t rfl)) ?_
        refine W.q rfl rfl rfl rfl (by decide) (Yd.fldB rfl Try.underlying47 rfl SZ3 rfl (.t rfl)) ?_
        refine W.q rfl rfl rfl rfl (by decide) (Yd.ldB (pos := 0) rfl rfl rfl ON3 (.t rfl)) ?_
        refine W.e rfl rfl rfl rfl (by decide) (Ef.bsT (enc := encI) (vs := [_, _]) (ys := [y10.low, y10.high]) (fun _ => rfl) IF3 rfl Try.underlying48 (by decide) rfl (.cons (.t rfl) (.cons (.t rfl) .nil)) rfl rfl (by decide)) ?_
        rintro v14 _ rfl
        refine ⟨.inl rfl, ?_⟩
        refine W.cast (m' := m) (l' := hownT 3 1 encI v14 _ :: hcells b12 [_, _, _] 47 :: l) rfl rfl ?_
        refine W.q rfl rfl rfl rfl (by decide) (Yd.lenO (p := 0) rfl rfl Try.underlying48 (.t rfl)) ?_
        refine W.q rfl rfl rfl rfl (by decide) (Yd.mv rfl .c) ?_
        refine W.end ?_
        refine NX.sub (env' := [(0, _), (1, _), (2, _), (11, _), (12, _), (13, _), (8, _), (7, _), (31, _), (32, _), (33, _)]) ⟨rfl, rfl, rfl, rfl, rfl, rfl, rfl, rfl, rfl, rfl, rfl, trivial⟩ ?_
        refine NX.then ?_
        refine Tr.join (S := fun env x => env = [(0, .int .i64 n_0), (1, ul_1), (2, .int .i64 root_2), (11, ul_1), (12, .int .i64 ((l_1.length : Int))), (13, .int .i64 t_6)] ∧ x = ⟨m, l⟩ ∧ syllogistref_BranchCheck_k18 nx8 = some r) ?_ (fun hk19 => ?_)
        · rintro _ _ ⟨rfl, rfl, hr⟩
          unfold syllogistref_BranchCheck_k18 at hr
          try dsimp only at hr
          refine NX.block ?_
          refine NX.then ?_
          refine Tr.region_f (fun _ => false) ?_
          refine W.q rfl rfl rfl rfl (by decide) (Yd.add rfl (.t rfl) .c) ?_
          refine W.q rfl rfl rfl rfl (by decide) (Yd.mv rfl (.t rfl)) ?_
          refine W.end ?_
          refine NX.sub (env' := [(0, _), (1, _), (2, _), (11, _), (12, _), (13, _)]) ⟨rfl, rfl, rfl, rfl, rfl, rfl, trivial⟩ ?_
          refine NX.sub (env' := [(0, _), (1, _), (2, _), (11, _), (12, _), (13, _)]) ⟨rfl, rfl, rfl, rfl, rfl, rfl, trivial⟩ ?_
          have hw := w64_id (n := t_6 + 1) (by omega) (by omega)
          exact NX.again n9 (t_6 + 1, ()) (Nat.lt_succ_self _) ⟨(by rw [hw] <;> rfl), rfl, (fr_dec hnt_6), (by omega), ((hnx8 _).symm.trans hr)⟩
        refine Tr.lenO (pos := 0) rfl (fun hlen20 => ?_)
        refine Tr.block ?_
        refine Tr.sub (env' := [(0, _), (1, _), (2, _), (7, _), (8, _), (11, _), (12, _), (13, _), (31, _), (32, _), (33, _)]) ⟨rfl, rfl, rfl, rfl, rfl, rfl, rfl, rfl, rfl, rfl, rfl, trivial⟩ ?_
        refine Tr.loop (S := fun n (z : Int × Unit) env x => match z with | (t_21, _) => env = [(0, .int .i64 n_0), (1, ul_1), (2, .int .i64 root_2), (7, .int .i64 t_6), (8, bp b12 0), (11, ul_1), (12, .int .i64 ((l_1.length : Int))), (13, .int .i64 t_6), (31, v14), (32, .int .i64 (((([y10.low, y10.high] : List Int)).length : Int))), (33, .int .i64 t_21)] ∧ x = ⟨m, hownT 3 1 encI v14 (([y10.low, y10.high] : List Int)) :: hcells b12 [.int .i64 y10.var, .int .i64 y10.low, .int .i64 y10.high] 47 :: l⟩ ∧ n = (((([y10.low, y10.high] : List Int)).length : Int) - t_21).toNat ∧ 0 ≤ t_21 ∧ forK (σ := Unit) (fun i s nx_ => syllogistref_BranchCheck_b22 l_1 t_6 y10 i nx_) (fun _ => syllogistref_BranchCheck_k18 nx8) n t_21 () = some r) _ ((0 : Int), ()) ⟨rfl, rfl, rfl, (by omega), hr⟩ ?_
        rintro n24 ⟨t_21, _⟩ env x ⟨rfl, rfl, hnt_21, h0t_21, hr⟩
        cases n24 with
        | zero =>
          simp only [forK] at hr
          refine Tr.seq ?_
          refine Tr.region_f (fun _ => false) ?_
          refine W.q rfl rfl rfl rfl (by decide) (Yd.lss rfl (.t rfl) (.t rfl)) ?_
          refine W.end ?_
          refine NX.sub (env' := [(0, _), (1, _), (2, _), (7, _), (8, _), (11, _), (12, _), (13, _), (31, _), (32, _), (33, _), (34, _)]) ⟨rfl, rfl, rfl, rfl, rfl, rfl, rfl, rfl, rfl, rfl, rfl, rfl, trivial⟩ ?_
          refine NX.then ?_
          refine Tr.seq ?_
          refine Tr.cond (.t rfl) (fun hb => ?_) (fun hb => ?_)
          · exact absurd (hb.symm.trans (fr_end hnt_21)) (by decide)
          ·
            refine Tr.exit' (EX.then (EX.then (EX.block ?_)))
            refine NX.sub (env' := [(0, _), (1, _), (2, _), (11, _), (12, _), (13, _)]) ⟨rfl, rfl, rfl, rfl, rfl, rfl, trivial⟩ ?_
            refine NX.drop (l' := l) (.cons _ (.cons _ (.refl _))) ?_
            exact hk19 _ _ ⟨rfl, rfl, hr⟩
        | succ n24 =>
          obtain ⟨nx23, hnx23, hr⟩ := forK_succ hr
          try dsimp only at hr
          unfold syllogistref_BranchCheck_b22 at hr
          try dsimp only at hr
          have hltt_21 := fr_bnd hnt_21
          refine Tr.seq ?_
          refine Tr.region_f (fun _ => false) ?_
          refine W.q rfl rfl rfl rfl (by decide) (Yd.lss rfl (.t rfl) (.t rfl)) ?_
          refine W.end ?_
          refine NX.sub (env' := [(0, _), (1, _), (2, _), (7, _), (8, _), (11, _), (12, _), (13, _), (31, _), (32, _), (33, _), (34, _)]) ⟨rfl, rfl, rfl, rfl, rfl, rfl, rfl, rfl, rfl, rfl, rfl, rfl, trivial⟩ ?_
          refine NX.then ?_
          refine Tr.seq ?_
          refine Tr.cond (.t rfl) (fun hb => ?_) (fun hb => ?_)
          rotate_left
          · exact absurd (hb.symm.trans (fr_go hnt_21)) (by decide)
          ·
            refine Tr.skip' ?_
            refine NX.then ?_
            refine Tr.seq ?_
            refine Tr.block ?_
            refine Tr.seq ?_
            obtain ⟨y25, hy26, hr⟩ := bind_some hr
            refine Tr.region_f (fun _ => false) ?_
            refine W.q rfl rfl rfl rfl (by decide) (Yd.idxT (pos := 0) rfl hy26 rfl Try.underlying48 SZ3 (.t rfl) (.t rfl)) ?_
            refine W.q rfl rfl rfl rfl (by decide) (Yd.ldT (enc := encI) (n := 1) (pos := 0) (fun _ => rfl) rfl hy26 rfl rfl ON3 (.t rfl)) ?_
            refine W.q rfl rfl rfl rfl (by decide) (Yd.as rfl (.t rfl)) ?_
            refine W.end ?_
            refine NX.sub (env' := [(0, _), (1, _), (2, _), (7, _), (8, _), (11, _), (12, _), (13, _), (31, _), (32, _), (33, _), (10, _)]) ⟨rfl, rfl, rfl, rfl, rfl, rfl, rfl, rfl, rfl, rfl, rfl, rfl, trivial⟩ ?_
            refine NX.then ?_
            refine Tr.seq ?_
            obtain ⟨ha27, hr⟩ := guard_some hr
            refine Tr.region_x (fun _ => false) (fun _ => false) (Ord.of [0, 1, 2, 3, 4, 5, 6, 7, 8, 9, 10, 11, 12, 13, 14, 15, 16, 17, 18, 19, 20, 21, 22]) FM (by kernel_rfl) ?_
            refine W.q rfl rfl rfl rfl (by decide) (Yd.mv rfl (.t rfl)) ?_
            refine W.q rfl rfl rfl rfl (by decide) (Yd.lss rfl (.t rfl) .c) ?_
            refine W.q rfl rfl rfl rfl (by decide) (Yd.mv rfl (.t rfl)) ?_
            refine W.g rfl rfl rfl rfl rfl (.t rfl _) rfl (by decide) (fun hG => Yd.mv rfl (.t rfl)) ?_
            refine W.g rfl rfl rfl rfl rfl (.t rfl _) rfl (by decide) (fun hG => Yd.mv rfl (.t rfl)) ?_
            refine W.g rfl rfl rfl rfl rfl (.t rfl _) rfl (by decide) (fun hG => Yd.add rfl (.g rfl hG) .c) ?_
            refine W.g rfl rfl rfl rfl rfl (.t rfl _) rfl (by decide) (fun hG => Yd.geq rfl (.g rfl hG) (.g rfl hG)) ?_
            refine W.q rfl rfl rfl rfl (by decide) (Yd.or rfl (.t rfl) .c rfl rfl) ?_
            refine W.q rfl rfl rfl rfl (by decide) (Yd.mv rfl (.t rfl)) ?_
            refine W.g rfl rfl rfl rfl rfl (.t rfl _) rfl (by decide) (fun hG => Yd.mv rfl (.t rfl)) ?_
            refine W.g rfl rfl rfl rfl rfl (.t rfl _) rfl (by decide) (fun hG => Yd.geq rfl (.g rfl hG) .c) ?_
            refine W.g rfl rfl rfl rfl rfl (.t rfl _) rfl (by decide) (fun hG => Yd.mv rfl (.g rfl hG)) ?_
            refine W.g rfl rfl rfl rfl rfl (.g rfl _) rfl (by decide) (fun hG => Yd.mv rfl (.t rfl)) ?_
            refine W.g rfl rfl rfl rfl rfl (.g rfl _) rfl (by decide) (fun hG => Yd.mv rfl (.t rfl)) ?_
            refine W.g rfl rfl rfl rfl rfl (.g rfl _) rfl (by decide) (fun hG => Yd.sub rfl (.g rfl hG) .c) ?_
            refine W.g rfl rfl rfl rfl rfl (.g rfl _) rfl (by decide) (fun hG => Yd.idxR hl_1 (gd_get (d := ({ var := (0 : Int), low := (0 : Int), high := (0 : Int) } : Branch)) ha27 hG) rfl Try.underlying22 SZ47 (.g rfl hG) (.g rfl hG)) ?_
            refine W.g rfl rfl rfl rfl rfl (.g rfl _) rfl (by decide) (fun hG => Yd.fldA rfl Try.underlying47 rfl SZ3 rfl (adr_head hl_1 (gd_get (d := ({ var := (0 : Int), low := (0 : Int), high := (0 : Int) } : Branch)) ha27 hG)) (.g rfl hG)) ?_
            refine W.g rfl rfl rfl rfl rfl (.g rfl _) rfl (by decide) (fun hG => Yd.ldFf hl_1 (.refl _) (gd_get (d := ({ var := (0 : Int), low := (0 : Int), high := (0 : Int) } : Branch)) ha27 hG) rfl rfl ON3 (.g rfl hG)) ?_
            refine W.g rfl rfl rfl rfl rfl (.g rfl _) rfl (by decide) (fun hG => Yd.fldB rfl Try.underlying47 rfl SZ3 rfl (.t rfl)) ?_
            refine W.g rfl rfl rfl rfl rfl (.g rfl _) rfl (by decide) (fun hG => Yd.ldB (pos := 1) rfl rfl rfl ON3 (.g rfl hG)) ?_
            refine W.g rfl rfl rfl rfl rfl (.g rfl _) rfl (by decide) (fun hG => Yd.leq rfl (.g rfl hG) (.g rfl hG)) ?_
            refine W.g rfl rfl rfl rfl rfl (.t rfl _) rfl (by decide) (fun hG => Yd.andG rfl (.g rfl hG) .c rfl rfl hG) ?_
            refine W.q rfl rfl rfl rfl (by decide) (Yd.or rfl (.t rfl) .c rfl rfl) ?_
            refine W.end ?_
            refine NX.sub (env' := [(0, _), (1, _), (2, _), (7, _), (8, _), (11, _), (12, _), (13, _), (31, _), (32, _), (33, _), (59, _)]) ⟨rfl, rfl, rfl, rfl, rfl, rfl, rfl, rfl, rfl, rfl, rfl, rfl, trivial⟩ ?_
            refine NX.then ?_
            refine Tr.cond (.t rfl) (fun hb => ?_) (fun hb => ?_)
            · have hr := cond_t hb hr
              refine Tr.seq ?_
              refine Tr.region_f (fun _ => false) ?_
              refine W.q rfl rfl rfl rfl (by decide) (Yd.as rfl .c) ?_
              refine W.end ?_
              refine NX.sub (env' := [(6, _)]) ⟨rfl, trivial⟩ ?_
              refine NX.drop (l' := l) (.cons _ (.cons _ (.refl _))) ?_
              refine NX.then ?_
              refine Tr.ret' (RT.block (RT.then (RT.then (RT.block (RT.block (RT.then (RT.then (RT.block (RT.then ?_)))))))))
              refine res1 rfl rfl ?_
              intro w hc
              cases hr
              exact ⟨rfl, hc⟩
            · have hr := cond_f hb hr
              refine Tr.skip' ?_
              refine NX.block ?_
              refine NX.then ?_
              refine Tr.region_f (fun _ => false) ?_
              refine W.q rfl rfl rfl rfl (by decide) (Yd.add rfl (.t rfl) .c) ?_
              refine W.q rfl rfl rfl rfl (by decide) (Yd.mv rfl (.t rfl)) ?_
              refine W.end ?_
              refine NX.sub (env' := [(0, _), (1, _), (2, _), (7, _), (8, _), (11, _), (12, _), (13, _), (31, _), (32, _), (33, _)]) ⟨rfl, rfl, rfl, rfl, rfl, rfl, rfl, rfl, rfl, rfl, rfl, trivial⟩ ?_
              refine NX.sub (env' := [(0, _), (1, _), (2, _), (7, _), (8, _), (11, _), (12, _), (13, _), (31, _), (32, _), (33, _)]) ⟨rfl, rfl, rfl, rfl, rfl, rfl, rfl, rfl, rfl, rfl, rfl, trivial⟩ ?_
              have hw := w64_id (n := t_21 + 1) (by omega) (by omega)
              exact NX.again n24 (t_21 + 1, ()) (Nat.lt_succ_self _) ⟨(by rw [hw] <;> rfl), rfl, (fr_dec hnt_21), (by omega), ((hnx23 _).symm.trans hr)⟩

def syllogistlaw_treeCode (n_0 : Int) (l_1 : List Branch) (root_2 : Int) : Option (Int) :=
  (bif (((decide (n_0 < (0 : Int))) || (decide (n_0 > (4 : Int)))) || (decide ((l_1.length : Int) > (20 : Int)))) then
  some ((1 : Int))
  else
  (syllogistref_BranchCheck n_0 l_1 root_2).bind fun r1 =>
  some r1)

set_option maxRecDepth 100000 in
set_option maxHeartbeats 4000000 in
theorem syllogistlaw_treeCode_ok (w0 : World) (m : Snap) (l : List HI) (n_0 : Int) (ul_1 : Value) (l_1 : List Branch) (hl_1 : RS rBranch m ul_1 l_1) (root_2 : Int) (r : Int) (hr : syllogistlaw_treeCode n_0 l_1 root_2 = some r) (w : World) (hc : cX w0 ⟨m, l⟩ w) :
    Calls Try.prog 5 [.int .i64 n_0, ul_1, .int .i64 root_2].toArray w fun e w' => e = .returned (.int .i64 r) ∧ cX w0 ⟨m, l⟩ w' := by
  unfold syllogistlaw_treeCode at hr
  refine calls_of_Tr (N := 22) Try.func5 rfl hc rfl (Nat.le_of_ble_eq_true rfl) ?_
  refine Tr.seq ?_
  refine Tr.region_f (fun _ => false) ?_
  refine W.q rfl rfl rfl rfl (by decide) (Yd.as rfl .c) ?_
  refine W.end ?_
  refine NX.sub (env' := [(0, _), (1, _), (2, _)]) ⟨rfl, rfl, rfl, trivial⟩ ?_
  refine NX.then ?_
  refine Tr.seq ?_
  refine Tr.seq ?_
  refine Tr.region_f (fun _ => false) ?_
  refine W.q rfl rfl rfl rfl (by decide) (Yd.mv rfl (.t rfl)) ?_
  refine W.q rfl rfl rfl rfl (by decide) (Yd.lss rfl (.t rfl) .c) ?_
  refine W.q rfl rfl rfl rfl (by decide) (Yd.mv rfl (.t rfl)) ?_
  refine W.g rfl rfl rfl rfl rfl (.t rfl _) rfl (by decide) (fun hG => Yd.mv rfl (.t rfl)) ?_
  refine W.g rfl rfl rfl rfl rfl (.t rfl _) rfl (by decide) (fun hG => Yd.gtr rfl (.g rfl hG) .c) ?_
  refine W.q rfl rfl rfl rfl (by decide) (Yd.or rfl (.t rfl) .c rfl rfl) ?_
  refine W.q rfl rfl rfl rfl (by decide) (Yd.mv rfl (.t rfl)) ?_
  refine W.g rfl rfl rfl rfl rfl (.t rfl _) rfl (by decide) (fun hG => Yd.mv rfl (.t rfl)) ?_
  refine W.g rfl rfl rfl rfl rfl (.t rfl _) rfl (by decide) (fun hG => Yd.lenR hl_1 rfl Try.underlying22 (.g rfl hG)) ?_
  refine W.g rfl rfl rfl rfl rfl (.t rfl _) rfl (by decide) (fun hG => Yd.gtr rfl (.g rfl hG) .c) ?_
  refine W.q rfl rfl rfl rfl (by decide) (Yd.or rfl (.t rfl) .c rfl rfl) ?_
  refine W.end ?_
  refine NX.sub (env' := [(0, _), (1, _), (2, _), (17, _)]) ⟨rfl, rfl, rfl, rfl, trivial⟩ ?_
  refine NX.then ?_
  refine Tr.cond (.t rfl) (fun hb => ?_) (fun hb => ?_)
  · have hr := cond_t hb hr
    refine Tr.seq ?_
    refine Tr.region_f (fun _ => false) ?_
    refine W.q rfl rfl rfl rfl (by decide) (Yd.as rfl .c) ?_
    refine W.end ?_
    refine NX.sub (env' := [(6, _)]) ⟨rfl, trivial⟩ ?_
    refine NX.then ?_
    refine Tr.ret' (RT.then ?_)
    refine res1 rfl rfl ?_
    intro w hc
    cases hr
    exact ⟨rfl, hc⟩
  · have hr := cond_f hb hr
    refine Tr.skip' ?_
    refine NX.then ?_
    refine Tr.seq ?_
    obtain ⟨r1, hr2, hr⟩ := bind_some hr
    refine Tr.region_f (fun _ => false) ?_
    refine W.q rfl rfl rfl rfl (by decide) (Yd.mv rfl (.t rfl)) ?_
    refine W.q rfl rfl rfl rfl (by decide) (Yd.mv rfl (.t rfl)) ?_
    refine W.q rfl rfl rfl rfl (by decide) (Yd.mv rfl (.t rfl)) ?_
    refine W.q rfl rfl rfl rfl (by decide) (Yd.call (v := .int .i64 r1) rfl Try.func12 rfl rfl (.cons (.t rfl) (.cons (.t rfl) (.cons (.t rfl) .nil))) (fun x' hx w hw => syllogistref_BranchCheck_ok w0 x'.m x'.l n_0 _ _ (hl_1.mono hx.1) root_2 _ hr2 w hw)) ?_
    refine W.q rfl rfl rfl rfl (by decide) (Yd.as rfl (.t rfl)) ?_
    refine W.end ?_
    refine NX.sub (env' := [(6, _)]) ⟨rfl, trivial⟩ ?_
    refine NX.then ?_
    refine Tr.ret' ?_
    refine res1 rfl rfl ?_
    intro w hc
    cases hr
    exact ⟨rfl, hc⟩

def syllogistref_Bit (w_0 : (BitVec 32)) (i_1 : Int) : Option (Bool) :=
  some ((((decide (i_1 ≥ (0 : Int))) && (decide (i_1 < (32 : Int)))) && ((w_0 &&& (1#32 <<< ((BitVec.ofInt 64 i_1)).toNat)) != 0#32)))

set_option maxRecDepth 100000 in
set_option maxHeartbeats 4000000 in
theorem syllogistref_Bit_ok (w0 : World) (m : Snap) (l : List HI) (w_0 : (BitVec 32)) (i_1 : Int) (r : Bool) (hr : syllogistref_Bit w_0 i_1 = some r) (w : World) (hc : cX w0 ⟨m, l⟩ w) :
    Calls Try.prog 19 [.int .u32 (w_0.toNat : Int), .int .i64 i_1].toArray w fun e w' => e = .returned (.bool r) ∧ cX w0 ⟨m, l⟩ w' := by
  unfold syllogistref_Bit at hr
  refine calls_of_Tr (N := 19) Try.func19 rfl hc rfl (Nat.le_of_ble_eq_true rfl) ?_
  refine Tr.seq ?_
  refine Tr.region_f (fun _ => false) ?_
  refine W.q rfl rfl rfl rfl (by decide) (Yd.as rfl .c) ?_
  refine W.end ?_
  refine NX.sub (env' := [(0, _), (1, _)]) ⟨rfl, rfl, trivial⟩ ?_
  refine NX.then ?_
  refine Tr.seq ?_
  refine Tr.region_f (fun _ => false) ?_
  refine W.q rfl rfl rfl rfl (by decide) (Yd.mv rfl (.t rfl)) ?_
  refine W.q rfl rfl rfl rfl (by decide) (Yd.geq rfl (.t rfl) .c) ?_
  refine W.q rfl rfl rfl rfl (by decide) (Yd.mv rfl (.t rfl)) ?_
  refine W.g rfl rfl rfl rfl rfl (.t rfl _) rfl (by decide) (fun hG => Yd.mv rfl (.t rfl)) ?_
  refine W.g rfl rfl rfl rfl rfl (.t rfl _) rfl (by decide) (fun hG => Yd.lss rfl (.g rfl hG) .c) ?_
  refine W.q rfl rfl rfl rfl (by decide) (Yd.and rfl (.t rfl) .c rfl rfl) ?_
  refine W.q rfl rfl rfl rfl (by decide) (Yd.mv rfl (.t rfl)) ?_
  refine W.g rfl rfl rfl rfl rfl (.t rfl _) rfl (by decide) (fun hG => Yd.mv rfl (.t rfl)) ?_
  refine W.g rfl rfl rfl rfl rfl (.t rfl _) rfl (by decide) (fun hG => Yd.mv rfl (.t rfl)) ?_
  refine W.g rfl rfl rfl rfl rfl (.t rfl _) rfl (by decide) (fun hG => Yd.cvQ rfl US3 Try.underlying43 (.g rfl hG)) ?_
  refine W.g rfl rfl rfl rfl rfl (.t rfl _) rfl (by decide) (fun hG => Yd.shlU (a := 1#32) rfl .c (.g rfl hG) (Int.natCast_nonneg _)) ?_
  refine W.g rfl rfl rfl rfl rfl (.t rfl _) rfl (by decide) (fun hG => Yd.andU (a := w_0) (b := (1#32 <<< ((BitVec.ofInt 64 i_1)).toNat)) rfl (.g rfl hG) (.g rfl hG)) ?_
  refine W.g rfl rfl rfl rfl rfl (.t rfl _) rfl (by decide) (fun hG => Yd.neqU (a := (w_0 &&& (1#32 <<< ((BitVec.ofInt 64 i_1)).toNat))) (b := 0#32) rfl (.g rfl hG) .c) ?_
  refine W.q rfl rfl rfl rfl (by decide) (Yd.and rfl (.t rfl) .c rfl rfl) ?_
  refine W.q rfl rfl rfl rfl (by decide) (Yd.as rfl (.t rfl)) ?_
  refine W.end ?_
  refine NX.sub (env' := [(4, _)]) ⟨rfl, trivial⟩ ?_
  refine NX.then ?_
  refine Tr.ret' ?_
  refine res1 rfl rfl ?_
  intro w hc
  cases hr
  exact ⟨rfl, hc⟩

def syllogistref_Tells_s (slf : ((List Branch) → Int → (BitVec 32) → Option (Bool))) (l_0 : List Branch) (k_1 : Int) (s_2 : (BitVec 32)) : Option (Bool) :=
  (bif (decide (k_1 < (2 : Int))) then
  some ((k_1 == (1 : Int)))
  else
  (geti l_0 ((w64 (k_1 - (2 : Int))))).bind fun y1 =>
  (syllogistref_Bit s_2 y1.var).bind fun r3 =>
  (bif r3 then
  (geti l_0 ((w64 (k_1 - (2 : Int))))).bind fun y5 =>
  (slf l_0 y5.high s_2).bind fun r7 =>
  some r7
  else
  (geti l_0 ((w64 (k_1 - (2 : Int))))).bind fun y9 =>
  (slf l_0 y9.low s_2).bind fun r11 =>
  some r11))

def syllogistref_Tells (fuel : Nat) (l_0 : List Branch) (k_1 : Int) (s_2 : (BitVec 32)) : Option (Bool) :=
  match fuel with
  | 0 => none
  | fuel + 1 => syllogistref_Tells_s (syllogistref_Tells fuel) l_0 k_1 s_2

set_option maxRecDepth 100000 in
set_option maxHeartbeats 4000000 in
theorem syllogistref_Tells_ok (w0 : World) (m : Snap) (l : List HI) (fuel : Nat) : ∀ (ul_0 : Value) (l_0 : List Branch) (hl_0 : RS rBranch m ul_0 l_0) (k_1 : Int) (s_2 : (BitVec 32)) (r : Bool) (_ : syllogistref_Tells fuel l_0 k_1 s_2 = some r) (w : World) (_ : cX w0 ⟨m, l⟩ w),
    Calls Try.prog 13 [ul_0, .int .i64 k_1, .int .u32 (s_2.toNat : Int)].toArray w fun e w' => e = .returned (.bool r) ∧ cX w0 ⟨m, l⟩ w' := by
  induction fuel generalizing m l with
  | zero => intro ul_0 l_0 hl_0 k_1 s_2 r hr; simp [syllogistref_Tells] at hr
  | succ fuel ih =>
  intro ul_0 l_0 hl_0 k_1 s_2 r hr w hc
  replace hr : syllogistref_Tells_s (syllogistref_Tells fuel) l_0 k_1 s_2 = some r := hr
  obtain ⟨slf, hslf⟩ : ∃ f, f = syllogistref_Tells fuel := ⟨_, rfl⟩
  rw [← hslf] at hr ih
  unfold syllogistref_Tells_s at hr
  refine calls_of_Tr (N := 37) Try.func13 rfl hc rfl (Nat.le_of_ble_eq_true rfl) ?_
  refine Tr.seq ?_
  refine Tr.region_f (fun _ => false) ?_
  refine W.q rfl rfl rfl rfl (by decide) (Yd.as rfl .c) ?_
  refine W.end ?_
  refine NX.sub (env' := [(0, _), (1, _), (2, _)]) ⟨rfl, rfl, rfl, trivial⟩ ?_
  refine NX.then ?_
  refine Tr.seq ?_
  refine Tr.seq ?_
  refine Tr.region_f (fun _ => false) ?_
  refine W.q rfl rfl rfl rfl (by decide) (Yd.mv rfl (.t rfl)) ?_
  refine W.q rfl rfl rfl rfl (by decide) (Yd.lss rfl (.t rfl) .c) ?_
  refine W.end ?_
  refine NX.sub (env' := [(0, _), (1, _), (2, _), (8, _)]) ⟨rfl, rfl, rfl, rfl, trivial⟩ ?_
  refine NX.then ?_
  refine Tr.cond (.t rfl) (fun hb => ?_) (fun hb => ?_)
  · have hr := cond_t hb hr
    refine Tr.seq ?_
    refine Tr.region_f (fun _ => false) ?_
    refine W.q rfl rfl rfl rfl (by decide) (Yd.mv rfl (.t rfl)) ?_
    refine W.q rfl rfl rfl rfl (by decide) (Yd.eql rfl (.t rfl) .c) ?_
    refine W.q rfl rfl rfl rfl (by decide) (Yd.as rfl (.t rfl)) ?_
    refine W.end ?_
    refine NX.sub (env' := [(6, _)]) ⟨rfl, trivial⟩ ?_
    refine NX.then ?_
    refine Tr.ret' (RT.then ?_)
    refine res1 rfl rfl ?_
    intro w hc
    cases hr
    exact ⟨rfl, hc⟩
  · have hr := cond_f hb hr
    refine Tr.skip' ?_
    refine NX.then ?_
    refine Tr.seq ?_
    refine Tr.seq ?_
    obtain ⟨y1, hy2, hr⟩ := bind_some hr
    obtain ⟨r3, hr4, hr⟩ := bind_some hr
    refine Tr.region_f (fun _ => false) ?_
    refine W.q rfl rfl rfl rfl (by decide) (Yd.mv rfl (.t rfl)) ?_
    refine W.q rfl rfl rfl rfl (by decide) (Yd.mv rfl (.t rfl)) ?_
    refine W.q rfl rfl rfl rfl (by decide) (Yd.mv rfl (.t rfl)) ?_
    refine W.q rfl rfl rfl rfl (by decide) (Yd.sub rfl (.t rfl) .c) ?_
    refine W.q rfl rfl rfl rfl (by decide) (Yd.idxR hl_0 hy2 rfl Try.underlying22 SZ47 (.t rfl) (.t rfl)) ?_
    refine W.q rfl rfl rfl rfl (by decide) (Yd.fldA rfl Try.underlying47 rfl SZ3 rfl (adr_head hl_0 hy2) (.t rfl)) ?_
    refine W.q rfl rfl rfl rfl (by decide) (Yd.ldFf hl_0 (.refl _) hy2 rfl rfl ON3 (.t rfl)) ?_
    refine W.q rfl rfl rfl rfl (by decide) (Yd.call (v := .bool r3) rfl Try.func19 rfl rfl (.cons (.t rfl) (.cons (.t rfl) .nil)) (fun x' hx w hw => syllogistref_Bit_ok w0 x'.m x'.l s_2 y1.var _ hr4 w hw)) ?_
    refine W.end ?_
    refine NX.sub (env' := [(0, _), (1, _), (2, _), (18, _)]) ⟨rfl, rfl, rfl, rfl, trivial⟩ ?_
    refine NX.then ?_
    refine Tr.cond (.t rfl) (fun hb => ?_) (fun hb => ?_)
    · have hr := cond_t hb hr
      refine Tr.seq ?_
      obtain ⟨y5, hy6, hr⟩ := bind_some hr
      obtain ⟨r7, hr8, hr⟩ := bind_some hr
      refine Tr.region_f (fun _ => false) ?_
      refine W.q rfl rfl rfl rfl (by decide) (Yd.mv rfl (.t rfl)) ?_
      refine W.q rfl rfl rfl rfl (by decide) (Yd.mv rfl (.t rfl)) ?_
      refine W.q rfl rfl rfl rfl (by decide) (Yd.mv rfl (.t rfl)) ?_
      refine W.q rfl rfl rfl rfl (by decide) (Yd.sub rfl (.t rfl) .c) ?_
      refine W.q rfl rfl rfl rfl (by decide) (Yd.idxR hl_0 hy6 rfl Try.underlying22 SZ47 (.t rfl) (.t rfl)) ?_
      refine W.q rfl rfl rfl rfl (by decide) (Yd.fldA rfl Try.underlying47 rfl SZ3 rfl (adr_head hl_0 hy6) (.t rfl)) ?_
      refine W.q rfl rfl rfl rfl (by decide) (Yd.ldFf hl_0 (.refl _) hy6 rfl rfl ON3 (.t rfl)) ?_
      refine W.q rfl rfl rfl rfl (by decide) (Yd.mv rfl (.t rfl)) ?_
      refine W.q rfl rfl rfl rfl (by decide) (Yd.call (v := .bool r7) rfl Try.func13 rfl rfl (.cons (.t rfl) (.cons (.t rfl) (.cons (.t rfl) .nil))) (fun x' hx w hw => ih x'.m x'.l _ _ (hl_0.mono hx.1) y5.high s_2 _ hr8 w hw)) ?_
      refine W.q rfl rfl rfl rfl (by decide) (Yd.as rfl (.t rfl)) ?_
      refine W.end ?_
      refine NX.sub (env' := [(6, _)]) ⟨rfl, trivial⟩ ?_
      refine NX.then ?_
      refine Tr.ret' (RT.then ?_)
      refine res1 rfl rfl ?_
      intro w hc
      cases hr
      exact ⟨rfl, hc⟩
    · have hr := cond_f hb hr
      refine Tr.skip' ?_
      refine NX.then ?_
      refine Tr.seq ?_
      obtain ⟨y9, hy10, hr⟩ := bind_some hr
      obtain ⟨r11, hr12, hr⟩ := bind_some hr
      refine Tr.region_f (fun _ => false) ?_
      refine W.q rfl rfl rfl rfl (by decide) (Yd.mv rfl (.t rfl)) ?_
      refine W.q rfl rfl rfl rfl (by decide) (Yd.mv rfl (.t rfl)) ?_
      refine W.q rfl rfl rfl rfl (by decide) (Yd.mv rfl (.t rfl)) ?_
      refine W.q rfl rfl rfl rfl (by decide) (Yd.sub rfl (.t rfl) .c) ?_
      refine W.q rfl rfl rfl rfl (by decide) (Yd.idxR hl_0 hy10 rfl Try.underlying22 SZ47 (.t rfl) (.t rfl)) ?_
      refine W.q rfl rfl rfl rfl (by decide) (Yd.fldA rfl Try.underlying47 rfl SZ3 rfl (adr_head hl_0 hy10) (.t rfl)) ?_
      refine W.q rfl rfl rfl rfl (by decide) (Yd.ldFf hl_0 (.refl _) hy10 rfl rfl ON3 (.t rfl)) ?_
      refine W.q rfl rfl rfl rfl (by decide) (Yd.mv rfl (.t rfl)) ?_
      refine W.q rfl rfl rfl rfl (by decide) (Yd.call (v := .bool r11) rfl Try.func13 rfl rfl (.cons (.t rfl) (.cons (.t rfl) (.cons (.t rfl) .nil))) (fun x' hx w hw => ih x'.m x'.l _ _ (hl_0.mono hx.1) y9.low s_2 _ hr12 w hw)) ?_
      refine W.q rfl rfl rfl rfl (by decide) (Yd.as rfl (.t rfl)) ?_
      refine W.end ?_
      refine NX.sub (env' := [(6, _)]) ⟨rfl, trivial⟩ ?_
      refine NX.then ?_
      refine Tr.ret' ?_
      refine res1 rfl rfl ?_
      intro w hc
      cases hr
      exact ⟨rfl, hc⟩

def syllogistref_Read_k10 (l8 : List Bool) : Option ((List Bool)) :=
  some l8

def syllogistref_Read_b13 (l_1 : List Branch) (root_2 : Int) (fuel : Nat) (s_12 : BitVec 32) (l6 : List Bool) (nx14 : (List Bool) → Option ((List Bool))) : Option ((List Bool)) :=
  (syllogistref_Tells fuel l_1 root_2 s_12).bind fun r16 =>
  bif decide (l6.length + (([r16] : List Bool)).length ≤ 140737488355328) then
  nx14 (l6 ++ ([r16] : List Bool)) else none

def syllogistref_Read (fuel : Nat) (n_0 : Int) (l_1 : List Branch) (root_2 : Int) : Option ((List Bool)) :=
  forK (σ := (List Bool)) (fun i s nx_ => syllogistref_Read_b13 l_1 root_2 fuel i s nx_) (fun s => syllogistref_Read_k10 s) (((1#32 <<< ((BitVec.ofInt 64 n_0)).toNat)).toNat - (0#32).toNat) 0#32 (([] : List Bool))

set_option maxRecDepth 100000 in
set_option maxHeartbeats 4000000 in
theorem syllogistref_Read_ok (w0 : World) (m : Snap) (l : List HI) (fuel : Nat) (n_0 : Int) (ul_1 : Value) (l_1 : List Branch) (hl_1 : RS rBranch m ul_1 l_1) (root_2 : Int) (r : (List Bool)) (hr : syllogistref_Read fuel n_0 l_1 root_2 = some r) (w : World) (hc : cX w0 ⟨m, l⟩ w) :
    Calls Try.prog 6 [.int .i64 n_0, ul_1, .int .i64 root_2].toArray w fun e w' => ∃ z0 : Value, e = .returned (z0) ∧ cX w0 ⟨m, hownT 4 1 encB z0 r :: l⟩ w' := by
  unfold syllogistref_Read at hr
  refine calls_of_Tr (N := 24) Try.func6 rfl hc rfl (Nat.le_of_ble_eq_true rfl) ?_
  refine Tr.seq ?_
  refine Tr.region_f (fun _ => false) ?_
  refine W.q rfl rfl rfl rfl (by decide) (Yd.as rfl .c) ?_
  refine W.end ?_
  refine NX.sub (env' := [(0, _), (1, _), (2, _)]) ⟨rfl, rfl, rfl, trivial⟩ ?_
  refine NX.then ?_
  refine Tr.seq ?_
  refine Tr.region_f (fun _ => false) ?_
  refine W.q rfl rfl rfl rfl (by decide) (Yd.as rfl .c) ?_
  refine W.end ?_
  refine NX.sub (env' := [(0, _), (1, _), (2, _), (7, _)]) ⟨rfl, rfl, rfl, rfl, trivial⟩ ?_
  refine NX.then ?_
  refine Tr.seq ?_
  refine Tr.seq ?_
  refine Tr.region_f (fun _ => false) ?_
  refine W.q rfl rfl rfl rfl (by decide) (Yd.as rfl .c) ?_
  refine W.end ?_
  refine NX.sub (env' := [(0, _), (1, _), (2, _), (7, _), (8, _)]) ⟨rfl, rfl, rfl, rfl, rfl, trivial⟩ ?_
  refine NX.then ?_
  refine Tr.addnil 4 1 ?_
  refine Tr.join (S := fun env x => ∃ l8 : List Bool, ∃ v9 : Value, env = [(7, v9)] ∧ x = ⟨m, hownT 4 1 encB v9 l8 :: l⟩ ∧ syllogistref_Read_k10 l8 = some r) ?_ (fun hk11 => ?_)
  · rintro _ _ ⟨l8, v9, rfl, rfl, hr⟩
    unfold syllogistref_Read_k10 at hr
    try dsimp only at hr
    refine NX.then ?_
    refine Tr.seq ?_
    refine Tr.region_f (fun _ => false) ?_
    refine W.q rfl rfl rfl rfl (by decide) (Yd.mv rfl (.t rfl)) ?_
    refine W.q rfl rfl rfl rfl (by decide) (Yd.as rfl (.t rfl)) ?_
    refine W.end ?_
    refine NX.sub (env' := [(6, _)]) ⟨rfl, trivial⟩ ?_
    refine NX.then ?_
    refine Tr.ret' ?_
    refine res1 rfl rfl ?_
    intro w hc
    cases hr
    exact ⟨_, rfl, hc⟩
  refine Tr.block ?_
  refine Tr.sub (env' := [(0, _), (1, _), (2, _), (7, _), (8, _)]) ⟨rfl, rfl, rfl, rfl, rfl, trivial⟩ ?_
  refine Tr.loop (S := fun n (z : BitVec 32 × (List Bool)) env x => match z with | (s_12, l6) => ∃ v7 : Value, env = [(0, .int .i64 n_0), (1, ul_1), (2, .int .i64 root_2), (7, v7), (8, .int .u32 (s_12.toNat : Int))] ∧ x = ⟨m, hownT 4 1 encB v7 l6 :: l⟩ ∧ n = ((1#32 <<< ((BitVec.ofInt 64 n_0)).toNat)).toNat - s_12.toNat ∧ forK (σ := (List Bool)) (fun i s nx_ => syllogistref_Read_b13 l_1 root_2 fuel i s nx_) (fun s => syllogistref_Read_k10 s) n s_12 l6 = some r) _ (0#32, ([] : List Bool)) ⟨_, rfl, rfl, rfl, hr⟩ ?_
  rintro n15 ⟨s_12, l6⟩ env x ⟨v7, rfl, rfl, hns_12, hr⟩
  cases n15 with
  | zero =>
    simp only [forK] at hr
    refine Tr.seq ?_
    refine Tr.seq ?_
    refine Tr.region_f (fun _ => false) ?_
    refine W.q rfl rfl rfl rfl (by decide) (Yd.mv rfl (.t rfl)) ?_
    refine W.q rfl rfl rfl rfl (by decide) (Yd.mv rfl (.t rfl)) ?_
    refine W.q rfl rfl rfl rfl (by decide) (Yd.cvQ rfl US3 Try.underlying43 (.t rfl)) ?_
    refine W.q rfl rfl rfl rfl (by decide) (Yd.shlU (a := 1#32) rfl .c (.t rfl) (Int.natCast_nonneg _)) ?_
    refine W.q rfl rfl rfl rfl (by decide) (Yd.lssU (a := s_12) (b := (1#32 <<< ((BitVec.ofInt 64 n_0)).toNat)) rfl (.t rfl) (.t rfl)) ?_
    refine W.end ?_
    refine NX.sub (env' := [(0, _), (1, _), (2, _), (7, _), (8, _), (13, _)]) ⟨rfl, rfl, rfl, rfl, rfl, rfl, trivial⟩ ?_
    refine NX.then ?_
    refine Tr.cond (.t rfl) (fun hb => ?_) (fun hb => ?_)
    · exact absurd (hb.symm.trans (fu_end hns_12)) (by decide)
    ·
      refine Tr.exit' (EX.then (EX.then (EX.block ?_)))
      refine NX.sub (env' := [(7, _)]) ⟨rfl, trivial⟩ ?_
      exact hk11 _ _ ⟨_, _, rfl, rfl, hr⟩
  | succ n15 =>
    obtain ⟨nx14, hnx14, hr⟩ := forK_succ hr
    try dsimp only at hr
    unfold syllogistref_Read_b13 at hr
    try dsimp only at hr
    refine Tr.seq ?_
    refine Tr.seq ?_
    refine Tr.region_f (fun _ => false) ?_
    refine W.q rfl rfl rfl rfl (by decide) (Yd.mv rfl (.t rfl)) ?_
    refine W.q rfl rfl rfl rfl (by decide) (Yd.mv rfl (.t rfl)) ?_
    refine W.q rfl rfl rfl rfl (by decide) (Yd.cvQ rfl US3 Try.underlying43 (.t rfl)) ?_
    refine W.q rfl rfl rfl rfl (by decide) (Yd.shlU (a := 1#32) rfl .c (.t rfl) (Int.natCast_nonneg _)) ?_
    refine W.q rfl rfl rfl rfl (by decide) (Yd.lssU (a := s_12) (b := (1#32 <<< ((BitVec.ofInt 64 n_0)).toNat)) rfl (.t rfl) (.t rfl)) ?_
    refine W.end ?_
    refine NX.sub (env' := [(0, _), (1, _), (2, _), (7, _), (8, _), (13, _)]) ⟨rfl, rfl, rfl, rfl, rfl, rfl, trivial⟩ ?_
    refine NX.then ?_
    refine Tr.cond (.t rfl) (fun hb => ?_) (fun hb => ?_)
    rotate_left
    · exact absurd (hb.symm.trans (fu_go hns_12)) (by decide)
    ·
      refine Tr.skip' ?_
      refine NX.then ?_
      refine Tr.seq ?_
      refine Tr.block ?_
      obtain ⟨r16, hr17, hr⟩ := bind_some hr
      obtain ⟨hq21, hr⟩ := guard_some hr; replace hq21 := of_decide_eq_true hq21
      refine Tr.region_f (fun i => Nat.beq i 5 || Nat.beq i 6) ?_
      refine W.q rfl rfl rfl rfl (by decide) (Yd.mv rfl (.t rfl)) ?_
      refine W.q rfl rfl rfl rfl (by decide) (Yd.mv rfl (.t rfl)) ?_
      refine W.q rfl rfl rfl rfl (by decide) (Yd.mv rfl (.t rfl)) ?_
      refine W.q rfl rfl rfl rfl (by decide) (Yd.mv rfl (.t rfl)) ?_
      refine W.q rfl rfl rfl rfl (by decide) (Yd.call (v := .bool r16) rfl Try.func13 rfl rfl (.cons (.t rfl) (.cons (.t rfl) (.cons (.t rfl) .nil))) (fun x' hx w hw => syllogistref_Tells_ok w0 x'.m x'.l fuel _ _ (hl_1.mono hx.1) root_2 s_12 _ hr17 w hw)) ?_
      refine W.e rfl rfl rfl rfl (by decide) (Ef.bsT (enc := encB) (vs := [_]) (ys := [r16]) (fun _ => rfl) IF4 rfl Try.underlying27 (by decide) rfl (.cons (.t rfl) .nil) rfl rfl (by decide)) ?_
      rintro v18 _ rfl
      refine ⟨.inl rfl, ?_⟩
      refine W.cast (m' := m) (l' := hownT 4 1 encB v18 _ :: hownT 4 1 encB v7 _ :: l) rfl rfl ?_
      refine W.e rfl rfl rfl rfl (by decide) (Ef.apI (pos := 1) (enc := encB) (xs := l6) (ys := ([r16] : List Bool)) (fun _ => rfl) IF4 rfl rfl Try.underlying27 rfl (by decide) (.t rfl) (.t rfl) (Src.own (pos := 0) rfl) (fun _ => rfl) (by omega) (by omega)) ?_
      rintro v20 _ rfl
      refine ⟨.inl rfl, ?_⟩
      refine W.cast (m' := m) (l' := hownT 4 1 encB v18 _ :: hownT 4 1 encB v20 _ :: l) rfl rfl ?_
      refine W.q rfl rfl rfl rfl (by decide) (Yd.as rfl (.t rfl)) ?_
      refine W.end ?_
      refine NX.sub (env' := [(0, _), (1, _), (2, _), (7, _), (8, _)]) ⟨rfl, rfl, rfl, rfl, rfl, trivial⟩ ?_
      refine NX.drop (l' := hownT 4 1 encB v20 _ :: l) (.cons _ (.cons_cons _ (.refl _))) ?_
      refine NX.block ?_
      refine NX.then ?_
      refine Tr.region_f (fun _ => false) ?_
      refine W.q rfl rfl rfl rfl (by decide) (Yd.mv rfl (.t rfl)) ?_
      refine W.q rfl rfl rfl rfl (by decide) (Yd.addU (a := s_12) (b := 1#32) rfl (.t rfl) .c) ?_
      refine W.q rfl rfl rfl rfl (by decide) (Yd.as rfl (.t rfl)) ?_
      refine W.end ?_
      refine NX.sub (env' := [(0, _), (1, _), (2, _), (7, _), (8, _)]) ⟨rfl, rfl, rfl, rfl, rfl, trivial⟩ ?_
      refine NX.sub (env' := [(0, _), (1, _), (2, _), (7, _), (8, _)]) ⟨rfl, rfl, rfl, rfl, rfl, trivial⟩ ?_
      exact NX.again n15 (s_12 + 1, (l6 ++ ([r16] : List Bool))) (Nat.lt_succ_self _) ⟨_, rfl, rfl, (fu_dec hns_12), ((hnx14 _).symm.trans hr)⟩

def syllogistref_grow_k17 (v_2 : Int) (r3 : (List Branch) × Int) (r8 : (List Branch) × Int) : Option ((List Branch) × Int) :=
  bif decide ((([] : List Branch)).length + r8.1.length ≤ 5864062014805) then
  bif decide (((([] : List Branch) ++ r8.1)).length + (([({ var := v_2, low := r3.2, high := r8.2 } : Branch)] : List Branch)).length ≤ 5864062014805) then
  some ((((([] : List Branch) ++ r8.1) ++ ([({ var := v_2, low := r3.2, high := r8.2 } : Branch)] : List Branch)), (w64 ((r8.1.length : Int) + (2 : Int))))) else none else none

def syllogistref_grow_b531 (v_2 : Int) (r3 : (List Branch) × Int) (r8 : (List Branch) × Int) (t_530 : Int) (nx532 : Unit → Option ((List Branch) × Int)) : Option ((List Branch) × Int) :=
  (geti r8.1 t_530).bind fun y534 =>
  (bif ((y534.var == v_2) && ((y534.low == r3.2) && ((y534.high == r8.2) && true))) then
  some ((r8.1, (w64 (t_530 + (2 : Int)))))
  else
  nx532 ())

def syllogistref_grow_s (slf : (Int → (List Bool) → Int → (BitVec 32) → (List Branch) → Option ((List Branch) × Int))) (n_0 : Int) (f_1 : List Bool) (v_2 : Int) (fixed_3 : (BitVec 32)) (l_4 : List Branch) : Option ((List Branch) × Int) :=
  (bif (v_2 == n_0) then
  (geti f_1 ((fixed_3.toNat : Int))).bind fun y1 =>
  (bif y1 then
  some ((l_4, (1 : Int)))
  else
  some ((l_4, (0 : Int))))
  else
  (slf n_0 f_1 ((w64 (v_2 + (1 : Int)))) fixed_3 l_4).bind fun r3 =>
  (slf n_0 f_1 ((w64 (v_2 + (1 : Int)))) ((fixed_3 ||| (1#32 <<< ((BitVec.ofInt 64 v_2)).toNat))) r3.1).bind fun r8 =>
  (bif (r3.2 == r8.2) then
  some ((r8.1, r3.2))
  else
  forK (σ := Unit) (fun i s nx_ => syllogistref_grow_b531 v_2 r3 r8 i nx_) (fun _ => syllogistref_grow_k17 v_2 r3 r8) ((r8.1.length : Int) - (0 : Int)).toNat (0 : Int) ()))

def syllogistref_grow (fuel : Nat) (n_0 : Int) (f_1 : List Bool) (v_2 : Int) (fixed_3 : (BitVec 32)) (l_4 : List Branch) : Option ((List Branch) × Int) :=
  match fuel with
  | 0 => none
  | fuel + 1 => syllogistref_grow_s (syllogistref_grow fuel) n_0 f_1 v_2 fixed_3 l_4

set_option maxRecDepth 100000 in
set_option maxHeartbeats 4000000 in
theorem syllogistref_grow_ok (w0 : World) (m : Snap) (l : List HI) (fuel : Nat) : ∀ (n_0 : Int) (uf_1 : Value) (f_1 : List Bool) (hf_1 : RS rB m uf_1 f_1) (v_2 : Int) (fixed_3 : (BitVec 32)) (ul_4 : Value) (l_4 : List Branch) (hl_4 : RS rBranch m ul_4 l_4) (r : (List Branch) × Int) (_ : syllogistref_grow fuel n_0 f_1 v_2 fixed_3 l_4 = some r) (w : World) (_ : cX w0 ⟨m, l⟩ w),
    Calls Try.prog 14 [.int .i64 n_0, uf_1, .int .i64 v_2, .int .u32 (fixed_3.toNat : Int), ul_4].toArray w fun e w' => ∃ z0 : Value, ∃ m1 : Snap, e = .returned (.tuple #[z0, .int .i64 r.2]) ∧ Sle m m1 ∧ RS rBranch m1 z0 r.1 ∧ cX w0 ⟨m1, l⟩ w' := by
  induction fuel generalizing m l with
  | zero => intro n_0 uf_1 f_1 hf_1 v_2 fixed_3 ul_4 l_4 hl_4 r hr; simp [syllogistref_grow] at hr
  | succ fuel ih =>
  intro n_0 uf_1 f_1 hf_1 v_2 fixed_3 ul_4 l_4 hl_4 r hr w hc
  replace hr : syllogistref_grow_s (syllogistref_grow fuel) n_0 f_1 v_2 fixed_3 l_4 = some r := hr
  obtain ⟨slf, hslf⟩ : ∃ f, f = syllogistref_grow fuel := ⟨_, rfl⟩
  rw [← hslf] at hr ih
  unfold syllogistref_grow_s at hr
  refine calls_of_Tr (N := 82) Try.func14 rfl hc rfl (Nat.le_of_ble_eq_true rfl) ?_
  refine Tr.seq ?_
  refine Tr.region_f (fun _ => false) ?_
  refine W.q rfl rfl rfl rfl (by decide) (Yd.as rfl .c) ?_
  refine W.q rfl rfl rfl rfl (by decide) (Yd.as rfl .c) ?_
  refine W.end ?_
  refine NX.sub (env' := [(0, _), (1, _), (2, _), (3, _), (4, _)]) ⟨rfl, rfl, rfl, rfl, rfl, trivial⟩ ?_
  refine NX.then ?_
  refine Tr.seq ?_
  refine Tr.seq ?_
  refine Tr.region_f (fun _ => false) ?_
  refine W.q rfl rfl rfl rfl (by decide) (Yd.mv rfl (.t rfl)) ?_
  refine W.q rfl rfl rfl rfl (by decide) (Yd.mv rfl (.t rfl)) ?_
  refine W.q rfl rfl rfl rfl (by decide) (Yd.eql rfl (.t rfl) (.t rfl)) ?_
  refine W.end ?_
  refine NX.sub (env' := [(0, _), (1, _), (2, _), (3, _), (4, _), (19, _)]) ⟨rfl, rfl, rfl, rfl, rfl, rfl, trivial⟩ ?_
  refine NX.then ?_
  refine Tr.cond (.t rfl) (fun hb => ?_) (fun hb => ?_)
  · have hr := cond_t hb hr
    refine Tr.seq ?_
    refine Tr.seq ?_
    obtain ⟨y1, hy2, hr⟩ := bind_some hr
    refine Tr.region_f (fun _ => false) ?_
    refine W.q rfl rfl rfl rfl (by decide) (Yd.mv rfl (.t rfl)) ?_
    refine W.q rfl rfl rfl rfl (by decide) (Yd.mv rfl (.t rfl)) ?_
    refine W.q rfl rfl rfl rfl (by decide) (Yd.idxR hf_1 hy2 rfl Try.underlying27 SZ4 (.t rfl) (.t rfl)) ?_
    refine W.q rfl rfl rfl rfl (by decide) (Yd.ldF hf_1 (.refl _) hy2 rfl rfl ON4 (.t rfl)) ?_
    refine W.end ?_
    refine NX.sub (env' := [(4, _), (23, _)]) ⟨rfl, rfl, trivial⟩ ?_
    refine NX.then ?_
    refine Tr.cond (.t rfl) (fun hb => ?_) (fun hb => ?_)
    · have hr := cond_t hb hr
      refine Tr.seq ?_
      refine Tr.region_f (fun _ => false) ?_
      refine W.q rfl rfl rfl rfl (by decide) (Yd.mv rfl (.t rfl)) ?_
      refine W.q rfl rfl rfl rfl (by decide) (Yd.as rfl (.t rfl)) ?_
      refine W.q rfl rfl rfl rfl (by decide) (Yd.as rfl .c) ?_
      refine W.end ?_
      refine NX.sub (env' := [(10, _), (11, _)]) ⟨rfl, rfl, trivial⟩ ?_
      refine NX.then ?_
      refine Tr.ret' (RT.then (RT.then ?_))
      refine res2 rfl rfl rfl ?_
      intro w hc
      cases hr
      exact ⟨_, _, rfl, (.refl _), hl_4, hc⟩
    · have hr := cond_f hb hr
      refine Tr.skip' ?_
      refine NX.then ?_
      refine Tr.seq ?_
      refine Tr.region_f (fun _ => false) ?_
      refine W.q rfl rfl rfl rfl (by decide) (Yd.mv rfl (.t rfl)) ?_
      refine W.q rfl rfl rfl rfl (by decide) (Yd.as rfl (.t rfl)) ?_
      refine W.q rfl rfl rfl rfl (by decide) (Yd.as rfl .c) ?_
      refine W.end ?_
      refine NX.sub (env' := [(10, _), (11, _)]) ⟨rfl, rfl, trivial⟩ ?_
      refine NX.then ?_
      refine Tr.ret' (RT.then ?_)
      refine res2 rfl rfl rfl ?_
      intro w hc
      cases hr
      exact ⟨_, _, rfl, (.refl _), hl_4, hc⟩
  · have hr := cond_f hb hr
    refine Tr.skip' ?_
    refine NX.then ?_
    refine Tr.seq ?_
    obtain ⟨r3, hr4, hr⟩ := bind_some hr
    refine Tr.region_f (fun i => Nat.beq i 6) ?_
    refine W.q rfl rfl rfl rfl (by decide) (Yd.mv rfl (.t rfl)) ?_
    refine W.q rfl rfl rfl rfl (by decide) (Yd.mv rfl (.t rfl)) ?_
    refine W.q rfl rfl rfl rfl (by decide) (Yd.mv rfl (.t rfl)) ?_
    refine W.q rfl rfl rfl rfl (by decide) (Yd.add rfl (.t rfl) .c) ?_
    refine W.q rfl rfl rfl rfl (by decide) (Yd.mv rfl (.t rfl)) ?_
    refine W.q rfl rfl rfl rfl (by decide) (Yd.mv rfl (.t rfl)) ?_
    refine W.e rfl rfl rfl rfl (by decide) (Ef.call (R := fun z x' => ∃ u5 : Value, ∃ m6 : Snap, z = .tuple #[u5, .int .i64 r3.2] ∧ x' = ⟨m6, l⟩ ∧ Sle m m6 ∧ RS rBranch m6 u5 r3.1) rfl Try.func14 rfl rfl (.cons (.t rfl) (.cons (.t rfl) (.cons (.t rfl) (.cons (.t rfl) (.cons (.t rfl) .nil))))) (fun w hw => (ih _ _ n_0 _ _ hf_1 ((w64 (v_2 + (1 : Int)))) fixed_3 _ _ hl_4 _ hr4 w hw).mono fun e w' ⟨u5, m6, he, hm', hu7, hc'⟩ => ⟨_, _, he, ⟨u5, m6, rfl, rfl, hm', hu7⟩, hc'⟩)) ?_
    rintro _ _ ⟨u5, m6, rfl, rfl, hsm6, hu7⟩
    have hf_1 := hf_1.mono hsm6
    have hl_4 := hl_4.mono hsm6
    refine ⟨.inl rfl, ?_⟩
    refine W.cast (m' := m6) (l' := l) rfl rfl ?_
    refine W.q rfl rfl rfl rfl (by decide) (Yd.mv rfl (.t rfl)) ?_
    refine W.q rfl rfl rfl rfl (by decide) (Yd.ext rfl (.t rfl) rfl) ?_
    refine W.q rfl rfl rfl rfl (by decide) (Yd.ext rfl (.t rfl) rfl) ?_
    refine W.q rfl rfl rfl rfl (by decide) (Yd.as rfl (.t rfl)) ?_
    refine W.q rfl rfl rfl rfl (by decide) (Yd.as rfl (.t rfl)) ?_
    refine W.end ?_
    refine NX.sub (env' := [(0, _), (1, _), (2, _), (3, _), (4, _), (12, _)]) ⟨rfl, rfl, rfl, rfl, rfl, rfl, trivial⟩ ?_
    refine NX.then ?_
    refine Tr.seq ?_
    obtain ⟨r8, hr9, hr⟩ := bind_some hr
    refine Tr.region_f (fun i => Nat.beq i 10) ?_
    refine W.q rfl rfl rfl rfl (by decide) (Yd.mv rfl (.t rfl)) ?_
    refine W.q rfl rfl rfl rfl (by decide) (Yd.mv rfl (.t rfl)) ?_
    refine W.q rfl rfl rfl rfl (by decide) (Yd.mv rfl (.t rfl)) ?_
    refine W.q rfl rfl rfl rfl (by decide) (Yd.add rfl (.t rfl) .c) ?_
    refine W.q rfl rfl rfl rfl (by decide) (Yd.mv rfl (.t rfl)) ?_
    refine W.q rfl rfl rfl rfl (by decide) (Yd.mv rfl (.t rfl)) ?_
    refine W.q rfl rfl rfl rfl (by decide) (Yd.cvQ rfl US3 Try.underlying43 (.t rfl)) ?_
    refine W.q rfl rfl rfl rfl (by decide) (Yd.shlU (a := 1#32) rfl .c (.t rfl) (Int.natCast_nonneg _)) ?_
    refine W.q rfl rfl rfl rfl (by decide) (Yd.orU (a := fixed_3) (b := (1#32 <<< ((BitVec.ofInt 64 v_2)).toNat)) rfl (.t rfl) (.t rfl)) ?_
    refine W.q rfl rfl rfl rfl (by decide) (Yd.mv rfl (.t rfl)) ?_
    refine W.e rfl rfl rfl rfl (by decide) (Ef.call (R := fun z x' => ∃ u10 : Value, ∃ m11 : Snap, z = .tuple #[u10, .int .i64 r8.2] ∧ x' = ⟨m11, l⟩ ∧ Sle m6 m11 ∧ RS rBranch m11 u10 r8.1) rfl Try.func14 rfl rfl (.cons (.t rfl) (.cons (.t rfl) (.cons (.t rfl) (.cons (.t rfl) (.cons (.t rfl) .nil))))) (fun w hw => (ih _ _ n_0 _ _ hf_1 ((w64 (v_2 + (1 : Int)))) ((fixed_3 ||| (1#32 <<< ((BitVec.ofInt 64 v_2)).toNat))) _ _ hu7 _ hr9 w hw).mono fun e w' ⟨u10, m11, he, hm', hu12, hc'⟩ => ⟨_, _, he, ⟨u10, m11, rfl, rfl, hm', hu12⟩, hc'⟩)) ?_
    rintro _ _ ⟨u10, m11, rfl, rfl, hsm11, hu12⟩
    have hf_1 := hf_1.mono hsm11
    have hl_4 := hl_4.mono hsm11
    have hu7 := hu7.mono hsm11
    refine ⟨.inl rfl, ?_⟩
    refine W.cast (m' := m11) (l' := l) rfl rfl ?_
    refine W.q rfl rfl rfl rfl (by decide) (Yd.mv rfl (.t rfl)) ?_
    refine W.q rfl rfl rfl rfl (by decide) (Yd.ext rfl (.t rfl) rfl) ?_
    refine W.q rfl rfl rfl rfl (by decide) (Yd.ext rfl (.t rfl) rfl) ?_
    refine W.q rfl rfl rfl rfl (by decide) (Yd.as rfl (.t rfl)) ?_
    refine W.q rfl rfl rfl rfl (by decide) (Yd.as rfl (.t rfl)) ?_
    refine W.end ?_
    refine NX.sub (env' := [(2, _), (4, _), (12, _), (13, _)]) ⟨rfl, rfl, rfl, rfl, trivial⟩ ?_
    refine NX.then ?_
    refine Tr.seq ?_
    refine Tr.seq ?_
    refine Tr.region_f (fun _ => false) ?_
    refine W.q rfl rfl rfl rfl (by decide) (Yd.mv rfl (.t rfl)) ?_
    refine W.q rfl rfl rfl rfl (by decide) (Yd.mv rfl (.t rfl)) ?_
    refine W.q rfl rfl rfl rfl (by decide) (Yd.eql rfl (.t rfl) (.t rfl)) ?_
    refine W.end ?_
    refine NX.sub (env' := [(2, _), (4, _), (12, _), (13, _), (52, _)]) ⟨rfl, rfl, rfl, rfl, rfl, trivial⟩ ?_
    refine NX.then ?_
    refine Tr.cond (.t rfl) (fun hb => ?_) (fun hb => ?_)
    · have hr := cond_t hb hr
      refine Tr.seq ?_
      refine Tr.region_f (fun _ => false) ?_
      refine W.q rfl rfl rfl rfl (by decide) (Yd.mv rfl (.t rfl)) ?_
      refine W.q rfl rfl rfl rfl (by decide) (Yd.mv rfl (.t rfl)) ?_
      refine W.q rfl rfl rfl rfl (by decide) (Yd.as rfl (.t rfl)) ?_
      refine W.q rfl rfl rfl rfl (by decide) (Yd.as rfl (.t rfl)) ?_
      refine W.end ?_
      refine NX.sub (env' := [(10, _), (11, _)]) ⟨rfl, rfl, trivial⟩ ?_
      refine NX.then ?_
      refine Tr.ret' (RT.then ?_)
      refine res2 rfl rfl rfl ?_
      intro w hc
      cases hr
      exact ⟨_, _, rfl, (hsm6.trans hsm11), hu12, hc⟩
    · have hr := cond_f hb hr
      refine Tr.skip' ?_
      refine NX.then ?_
      refine Tr.seq ?_
      refine Tr.region_f (fun i => Nat.beq i 4 || Nat.beq i 5) ?_
      refine W.q rfl rfl rfl rfl (by decide) (Yd.mv rfl (.t rfl)) ?_
      refine W.q rfl rfl rfl rfl (by decide) (Yd.mv rfl (.t rfl)) ?_
      refine W.q rfl rfl rfl rfl (by decide) (Yd.mv rfl (.t rfl)) ?_
      refine W.q rfl rfl rfl rfl (by decide) (Yd.bld (cells := [.int .i64 v_2, .int .i64 r3.2, .int .i64 r8.2]) rfl ZI47 PL47 (.cons (.t rfl) (.cons (.t rfl) (.cons (.t rfl) .nil))) rfl) ?_
      refine W.e rfl rfl rfl rfl (by decide) (Ef.al rfl ZR47 rfl) ?_
      rintro _ _ ⟨b13, rfl, rfl⟩
      refine ⟨.inl rfl, ?_⟩
      refine W.cast (m' := m11) (l' := hcells b13 [_, _, _] 47 :: l) rfl rfl ?_
      refine W.s rfl rfl rfl rfl (Ef.stB (pos := 0) (us := [_, _, _]) (cs' := [_, _, _]) rfl rfl (.t rfl) (.t rfl) SZ47 rfl rfl rfl (Nat.le_of_ble_eq_true rfl) rfl) ?_
      rintro _ _ ⟨rfl, rfl⟩
      refine ⟨.inl rfl, ?_⟩
      refine W.cast (m' := m11) (l' := hcells b13 [_, _, _] 47 :: l) rfl rfl ?_
      refine W.end ?_
      refine NX.sub (env' := [(4, _), (14, _)]) ⟨rfl, rfl, trivial⟩ ?_
      refine NX.then ?_
      refine Tr.seq ?_
      refine Tr.seq ?_
      refine Tr.region_f (fun _ => false) ?_
      refine W.q rfl rfl rfl rfl (by decide) (Yd.mv rfl (.t rfl)) ?_
      refine W.q rfl rfl rfl rfl (by decide) (Yd.lenR hu12 rfl Try.underlying22 (.t rfl)) ?_
      refine W.q rfl rfl rfl rfl (by decide) (Yd.mv rfl .c) ?_
      refine W.end ?_
      refine NX.sub (env' := [(4, _), (14, _), (59, _), (60, _), (61, _)]) ⟨rfl, rfl, rfl, rfl, rfl, trivial⟩ ?_
      refine NX.then ?_
      refine Tr.join (S := fun env x => env = [(4, u10), (14, bp b13 0)] ∧ x = ⟨m11, hcells b13 [.int .i64 v_2, .int .i64 r3.2, .int .i64 r8.2] 47 :: l⟩ ∧ syllogistref_grow_k17 v_2 r3 r8 = some r) ?_ (fun hk18 => ?_)
      · rintro _ _ ⟨rfl, rfl, hr⟩
        unfold syllogistref_grow_k17 at hr
        try dsimp only at hr
        refine NX.then ?_
        refine Tr.seq ?_
        refine Tr.join (S := fun env x => ∃ v269 : Value, env = [(10, v269), (11, .int .i64 ((w64 ((r8.1.length : Int) + (2 : Int)))))] ∧ x = ⟨m11, hownT 47 3 Branch.enc v269 (((([] : List Branch) ++ r8.1) ++ ([({ var := v_2, low := r3.2, high := r8.2 } : Branch)] : List Branch))) :: l⟩ ∧ (some ((((([] : List Branch) ++ r8.1) ++ ([({ var := v_2, low := r3.2, high := r8.2 } : Branch)] : List Branch)), (w64 ((r8.1.length : Int) + (2 : Int)))))) = some r) ?_ (fun hk469 => ?_)
        · rintro _ _ ⟨v269, rfl, rfl, hr⟩
          refine NX.then ?_
          refine Tr.ret' ?_
          refine res2 rfl rfl rfl ?_
          intro w hc
          cases hr
          obtain ⟨m529, hsm529, hu530, hc⟩ := cX_freeze (enc := Branch.enc) (n := 3) (p := 0) (fun _ => rfl) hc rfl
          have hf_1 := hf_1.mono hsm529
          have hl_4 := hl_4.mono hsm529
          have hu7 := hu7.mono hsm529
          have hu12 := hu12.mono hsm529
          exact ⟨_, _, rfl, ((hsm6.trans hsm11).trans hsm529), hu530, hc⟩
        obtain ⟨hq150, hr⟩ := guard_some hr; replace hq150 := of_decide_eq_true hq150
        obtain ⟨hq270, hr⟩ := guard_some hr; replace hq270 := of_decide_eq_true hq270
        refine Tr.region_xJ (fun x => Sle m11 x.m ∧ (∃ p : Nat, x.l[p]? = some (hcells b13 [.int .i64 v_2, .int .i64 r3.2, .int .i64 r8.2] 47)) ∧ True) (fun _ _ hx h => by obtain ⟨hm, ⟨_, h0⟩, _⟩ := h; exact ⟨hm.trans hx.1, hx.at h0, trivial⟩) (fun i => Nat.beq i 2) (fun i => Nat.beq i 3) (fun i => Nat.beq i 0 || Nat.beq i 2 || Nat.beq i 4 || Nat.beq i 5) (fun i => Nat.beq i 2 || Nat.beq i 3 || Nat.beq i 5 || Nat.beq i 6 || Nat.beq i 7 || Nat.beq i 8) (.one 1 (.one 3 (.one 6 (.one 7 (.one 8 (.two 0 4 (.two 2 4 (Ord.of [4, 5, 9, 10]) (Ord.of [2, 5, 9, 10])) (Ord.of [0, 2, 5, 9, 10]))))))) FM (by kernel_rfl) ?_
        refine W.q rfl rfl rfl rfl (by decide) (Yd.mv rfl (.t rfl)) ?_
        refine W.pJ rfl rfl rfl rfl (by decide) (fun _ h => by obtain ⟨jhm, ⟨jp0, jhp0⟩, _⟩ := h; exact Yd.ldBs (pos := jp0) (us := [_, _, _]) jhp0 rfl rfl rfl ON47 US47 SZ47 (.t rfl)) ⟨(.refl _), ⟨0, rfl⟩, trivial⟩ rfl ?_
        refine W.p rfl rfl rfl rfl (by decide) (fun _ => Yd.mv rfl (.t rfl)) ?_
        refine W.p rfl rfl rfl rfl (by decide) (fun _ => Yd.lenR hu12 rfl Try.underlying22 (.t rfl)) ?_
        refine W.p rfl rfl rfl rfl (by decide) (fun _ => Yd.add rfl (.t rfl) .c) ?_
        refine W.two ?_ ?_
        ·
          refine W.e rfl rfl rfl rfl (by decide) (Ef.bsT (enc := Branch.enc) (vs := []) (ys := []) (fun _ => rfl) IF47 rfl Try.underlying22 (by decide) rfl .nil rfl rfl (by decide)) ?_ (hJ := fun _ _ _ h => absurd (show false = true from h) (by decide))
          rintro v69 _ rfl
          refine ⟨.inr ⟨.refl _, [_], rfl⟩, ?_⟩
          refine W.cast (m' := m11) (l' := hownT 47 3 Branch.enc v69 _ :: hcells b13 [_, _, _] 47 :: l) rfl rfl ?_
          refine W.two ?_ ?_
          ·
            refine W.e rfl rfl rfl rfl (by decide) (Ef.apI (pos := 0) (enc := Branch.enc) (xs := ([] : List Branch)) (ys := r8.1) (fun _ => rfl) IF47 rfl rfl Try.underlying22 rfl (by decide) (.t rfl) (.t rfl) (Src.rs (by decide) (.refl _) hu12) (fun _ => rfl) (by omega) (by omega)) ?_ (hJ := by rintro v149 _ rfl; exact fun _ => ⟨(.refl _), ⟨1, rfl⟩, trivial⟩)
            rintro v149 _ rfl
            refine ⟨.inl rfl, ?_⟩
            refine W.cast (m' := m11) (l' := hownT 47 3 Branch.enc v149 _ :: hcells b13 [_, _, _] 47 :: l) rfl rfl ?_
            refine W.e rfl rfl rfl rfl (by decide) (Ef.bsT (enc := Branch.enc) (vs := [_]) (ys := [({ var := v_2, low := r3.2, high := r8.2 } : Branch)]) (fun _ => rfl) IF47 rfl Try.underlying22 (by decide) rfl (.cons (.t rfl) .nil) rfl rfl (by decide)) ?_ (hJ := fun _ _ _ h => absurd (show false = true from h) (by decide))
            rintro v229 _ rfl
            refine ⟨.inr ⟨.refl _, [_], rfl⟩, ?_⟩
            refine W.cast (m' := m11) (l' := hownT 47 3 Branch.enc v229 _ :: hownT 47 3 Branch.enc v149 _ :: hcells b13 [_, _, _] 47 :: l) rfl rfl ?_
            refine W.e rfl rfl rfl rfl (by decide) (Ef.apI (pos := 1) (enc := Branch.enc) (xs := (([] : List Branch) ++ r8.1)) (ys := ([({ var := v_2, low := r3.2, high := r8.2 } : Branch)] : List Branch)) (fun _ => rfl) IF47 rfl rfl Try.underlying22 rfl (by decide) (.t rfl) (.t rfl) (Src.own (pos := 0) rfl) (fun _ => rfl) (by omega) (by omega)) ?_ (hJ := fun _ _ _ h => absurd (show false = true from h) (by decide))
            rintro v269 _ rfl
            refine ⟨.inl rfl, ?_⟩
            refine W.cast (m' := m11) (l' := hownT 47 3 Branch.enc v229 _ :: hownT 47 3 Branch.enc v269 _ :: hcells b13 [_, _, _] 47 :: l) rfl rfl ?_
            refine W.q rfl rfl rfl rfl (by decide) (Yd.as rfl (.t rfl)) ?_
            refine W.q rfl rfl rfl rfl (by decide) (Yd.as rfl (.t rfl)) ?_
            refine W.end ?_
            refine NX.sub (env' := [(10, _), (11, _)]) ⟨rfl, rfl, trivial⟩ ?_
            refine NX.drop (l' := hownT 47 3 Branch.enc v269 _ :: l) (.cons _ (.cons_cons _ (.cons _ (.refl _)))) ?_
            exact hk469 _ _ ⟨_, rfl, rfl, hr⟩
          ·
            refine W.e rfl rfl rfl rfl (by decide) (Ef.bsT (enc := Branch.enc) (vs := [_]) (ys := [({ var := v_2, low := r3.2, high := r8.2 } : Branch)]) (fun _ => rfl) IF47 rfl Try.underlying22 (by decide) rfl (.cons (.t rfl) .nil) rfl rfl (by decide)) ?_ (hJ := fun _ _ _ h => absurd (show false = true from h) (by decide))
            rintro v229 _ rfl
            refine ⟨.inr ⟨.refl _, [_], rfl⟩, ?_⟩
            refine W.cast (m' := m11) (l' := hownT 47 3 Branch.enc v229 _ :: hownT 47 3 Branch.enc v69 _ :: hcells b13 [_, _, _] 47 :: l) rfl rfl ?_
            refine W.e rfl rfl rfl rfl (by decide) (Ef.apI (pos := 1) (enc := Branch.enc) (xs := ([] : List Branch)) (ys := r8.1) (fun _ => rfl) IF47 rfl rfl Try.underlying22 rfl (by decide) (.t rfl) (.t rfl) (Src.rs (by decide) (.refl _) hu12) (fun _ => rfl) (by omega) (by omega)) ?_ (hJ := by rintro v149 _ rfl; exact fun _ => ⟨(.refl _), ⟨2, rfl⟩, trivial⟩)
            rintro v149 _ rfl
            refine ⟨.inl rfl, ?_⟩
            refine W.cast (m' := m11) (l' := hownT 47 3 Branch.enc v229 _ :: hownT 47 3 Branch.enc v149 _ :: hcells b13 [_, _, _] 47 :: l) rfl rfl ?_
            refine W.e rfl rfl rfl rfl (by decide) (Ef.apI (pos := 1) (enc := Branch.enc) (xs := (([] : List Branch) ++ r8.1)) (ys := ([({ var := v_2, low := r3.2, high := r8.2 } : Branch)] : List Branch)) (fun _ => rfl) IF47 rfl rfl Try.underlying22 rfl (by decide) (.t rfl) (.t rfl) (Src.own (pos := 0) rfl) (fun _ => rfl) (by omega) (by omega)) ?_ (hJ := fun _ _ _ h => absurd (show false = true from h) (by decide))
            rintro v269 _ rfl
            refine ⟨.inl rfl, ?_⟩
            refine W.cast (m' := m11) (l' := hownT 47 3 Branch.enc v229 _ :: hownT 47 3 Branch.enc v269 _ :: hcells b13 [_, _, _] 47 :: l) rfl rfl ?_
            refine W.q rfl rfl rfl rfl (by decide) (Yd.as rfl (.t rfl)) ?_
            refine W.q rfl rfl rfl rfl (by decide) (Yd.as rfl (.t rfl)) ?_
            refine W.end ?_
            refine NX.sub (env' := [(10, _), (11, _)]) ⟨rfl, rfl, trivial⟩ ?_
            refine NX.drop (l' := hownT 47 3 Branch.enc v269 _ :: l) (.cons _ (.cons_cons _ (.cons _ (.refl _)))) ?_
            exact hk469 _ _ ⟨_, rfl, rfl, hr⟩
        ·
          refine W.e rfl rfl rfl rfl (by decide) (Ef.bsT (enc := Branch.enc) (vs := [_]) (ys := [({ var := v_2, low := r3.2, high := r8.2 } : Branch)]) (fun _ => rfl) IF47 rfl Try.underlying22 (by decide) rfl (.cons (.t rfl) .nil) rfl rfl (by decide)) ?_ (hJ := fun _ _ _ h => absurd (show false = true from h) (by decide))
          rintro v229 _ rfl
          refine ⟨.inr ⟨.refl _, [_], rfl⟩, ?_⟩
          refine W.cast (m' := m11) (l' := hownT 47 3 Branch.enc v229 _ :: hcells b13 [_, _, _] 47 :: l) rfl rfl ?_
          refine W.e rfl rfl rfl rfl (by decide) (Ef.bsT (enc := Branch.enc) (vs := []) (ys := []) (fun _ => rfl) IF47 rfl Try.underlying22 (by decide) rfl .nil rfl rfl (by decide)) ?_ (hJ := fun _ _ _ h => absurd (show false = true from h) (by decide))
          rintro v69 _ rfl
          refine ⟨.inr ⟨.refl _, [_], rfl⟩, ?_⟩
          refine W.cast (m' := m11) (l' := hownT 47 3 Branch.enc v69 _ :: hownT 47 3 Branch.enc v229 _ :: hcells b13 [_, _, _] 47 :: l) rfl rfl ?_
          refine W.e rfl rfl rfl rfl (by decide) (Ef.apI (pos := 0) (enc := Branch.enc) (xs := ([] : List Branch)) (ys := r8.1) (fun _ => rfl) IF47 rfl rfl Try.underlying22 rfl (by decide) (.t rfl) (.t rfl) (Src.rs (by decide) (.refl _) hu12) (fun _ => rfl) (by omega) (by omega)) ?_ (hJ := by rintro v149 _ rfl; exact fun _ => ⟨(.refl _), ⟨2, rfl⟩, trivial⟩)
          rintro v149 _ rfl
          refine ⟨.inl rfl, ?_⟩
          refine W.cast (m' := m11) (l' := hownT 47 3 Branch.enc v149 _ :: hownT 47 3 Branch.enc v229 _ :: hcells b13 [_, _, _] 47 :: l) rfl rfl ?_
          refine W.e rfl rfl rfl rfl (by decide) (Ef.apI (pos := 0) (enc := Branch.enc) (xs := (([] : List Branch) ++ r8.1)) (ys := ([({ var := v_2, low := r3.2, high := r8.2 } : Branch)] : List Branch)) (fun _ => rfl) IF47 rfl rfl Try.underlying22 rfl (by decide) (.t rfl) (.t rfl) (Src.own (pos := 1) rfl) (fun _ => rfl) (by omega) (by omega)) ?_ (hJ := fun _ _ _ h => absurd (show false = true from h) (by decide))
          rintro v269 _ rfl
          refine ⟨.inl rfl, ?_⟩
          refine W.cast (m' := m11) (l' := hownT 47 3 Branch.enc v269 _ :: hownT 47 3 Branch.enc v229 _ :: hcells b13 [_, _, _] 47 :: l) rfl rfl ?_
          refine W.q rfl rfl rfl rfl (by decide) (Yd.as rfl (.t rfl)) ?_
          refine W.q rfl rfl rfl rfl (by decide) (Yd.as rfl (.t rfl)) ?_
          refine W.end ?_
          refine NX.imp (fun w hw => cX_front (p := 2) hw rfl) ?_
          refine NX.imp (fun w hw => cX_front (p := 1) hw rfl) ?_
          refine NX.imp (fun w hw => cX_front (p := 2) hw rfl) ?_
          refine NX.cast (m' := m11) (l' := hownT 47 3 Branch.enc v229 _ :: hownT 47 3 Branch.enc v269 _ :: hcells b13 [_, _, _] 47 :: l) rfl rfl ?_
          refine NX.sub (env' := [(10, _), (11, _)]) ⟨rfl, rfl, trivial⟩ ?_
          refine NX.drop (l' := hownT 47 3 Branch.enc v269 _ :: l) (.cons _ (.cons_cons _ (.cons _ (.refl _)))) ?_
          exact hk469 _ _ ⟨_, rfl, rfl, hr⟩
      have hlen529 := (hu12).2.1
      refine Tr.block ?_
      refine Tr.sub (env' := [(4, _), (14, _), (59, _), (60, _), (61, _)]) ⟨rfl, rfl, rfl, rfl, rfl, trivial⟩ ?_
      refine Tr.loop (S := fun n (z : Int × Unit) env x => match z with | (t_530, _) => env = [(4, u10), (14, bp b13 0), (59, u10), (60, .int .i64 ((r8.1.length : Int))), (61, .int .i64 t_530)] ∧ x = ⟨m11, hcells b13 [.int .i64 v_2, .int .i64 r3.2, .int .i64 r8.2] 47 :: l⟩ ∧ n = ((r8.1.length : Int) - t_530).toNat ∧ 0 ≤ t_530 ∧ forK (σ := Unit) (fun i s nx_ => syllogistref_grow_b531 v_2 r3 r8 i nx_) (fun _ => syllogistref_grow_k17 v_2 r3 r8) n t_530 () = some r) _ ((0 : Int), ()) ⟨rfl, rfl, rfl, (by omega), hr⟩ ?_
      rintro n533 ⟨t_530, _⟩ env x ⟨rfl, rfl, hnt_530, h0t_530, hr⟩
      cases n533 with
      | zero =>
        simp only [forK] at hr
        refine Tr.seq ?_
        refine Tr.region_f (fun _ => false) ?_
        refine W.q rfl rfl rfl rfl (by decide) (Yd.lss rfl (.t rfl) (.t rfl)) ?_
        refine W.end ?_
        refine NX.sub (env' := [(4, _), (14, _), (59, _), (60, _), (61, _), (62, _)]) ⟨rfl, rfl, rfl, rfl, rfl, rfl, trivial⟩ ?_
        refine NX.then ?_
        refine Tr.seq ?_
        refine Tr.cond (.t rfl) (fun hb => ?_) (fun hb => ?_)
        · exact absurd (hb.symm.trans (fr_end hnt_530)) (by decide)
        ·
          refine Tr.exit' (EX.then (EX.then (EX.block ?_)))
          refine NX.sub (env' := [(4, _), (14, _)]) ⟨rfl, rfl, trivial⟩ ?_
          exact hk18 _ _ ⟨rfl, rfl, hr⟩
      | succ n533 =>
        obtain ⟨nx532, hnx532, hr⟩ := forK_succ hr
        try dsimp only at hr
        unfold syllogistref_grow_b531 at hr
        try dsimp only at hr
        have hltt_530 := fr_bnd hnt_530
        refine Tr.seq ?_
        refine Tr.region_f (fun _ => false) ?_
        refine W.q rfl rfl rfl rfl (by decide) (Yd.lss rfl (.t rfl) (.t rfl)) ?_
        refine W.end ?_
        refine NX.sub (env' := [(4, _), (14, _), (59, _), (60, _), (61, _), (62, _)]) ⟨rfl, rfl, rfl, rfl, rfl, rfl, trivial⟩ ?_
        refine NX.then ?_
        refine Tr.seq ?_
        refine Tr.cond (.t rfl) (fun hb => ?_) (fun hb => ?_)
        rotate_left
        · exact absurd (hb.symm.trans (fr_go hnt_530)) (by decide)
        ·
          refine Tr.skip' ?_
          refine NX.then ?_
          refine Tr.seq ?_
          refine Tr.block ?_
          refine Tr.seq ?_
          obtain ⟨y534, hy535, hr⟩ := bind_some hr
          refine Tr.region_f (fun i => Nat.beq i 3 || Nat.beq i 5) ?_
          refine W.q rfl rfl rfl rfl (by decide) (Yd.mv rfl (.t rfl)) ?_
          refine W.q rfl rfl rfl rfl (by decide) (Yd.idxR hu12 hy535 rfl Try.underlying22 SZ47 (.t rfl) (.t rfl)) ?_
          refine W.q rfl rfl rfl rfl (by decide) (Yd.ldFs (us := [_, _, _]) hu12 (.refl _) hy535 rfl rfl ON47 US47 SZ47 (.t rfl)) ?_
          refine W.e rfl rfl rfl rfl (by decide) (Ef.al rfl ZR47 rfl) ?_
          rintro _ _ ⟨b536, rfl, rfl⟩
          refine ⟨.inl rfl, ?_⟩
          refine W.cast (m' := m11) (l' := hcells b536 [_, _, _] 47 :: hcells b13 [_, _, _] 47 :: l) rfl rfl ?_
          refine W.q rfl rfl rfl rfl (by decide) (Yd.as rfl (.t rfl)) ?_
          refine W.s rfl rfl rfl rfl (Ef.stB (pos := 0) (us := [_, _, _]) (cs' := [_, _, _]) rfl rfl (.t rfl) (.t rfl) SZ47 rfl rfl rfl (Nat.le_of_ble_eq_true rfl) rfl) ?_
          rintro _ _ ⟨rfl, rfl⟩
          refine ⟨.inl rfl, ?_⟩
          refine W.cast (m' := m11) (l' := hcells b536 [_, _, _] 47 :: hcells b13 [_, _, _] 47 :: l) rfl rfl ?_
          refine W.end ?_
          refine NX.sub (env' := [(4, _), (14, _), (59, _), (60, _), (61, _), (16, _), (15, _)]) ⟨rfl, rfl, rfl, rfl, rfl, rfl, rfl, trivial⟩ ?_
          refine NX.then ?_
          refine Tr.seq ?_
          refine Tr.region_f (fun _ => false) ?_
          refine W.q rfl rfl rfl rfl (by decide) (Yd.ldBs (pos := 0) (us := [_, _, _]) rfl rfl rfl rfl ON47 US47 SZ47 (.t rfl)) ?_
          refine W.q rfl rfl rfl rfl (by decide) (Yd.ldBs (pos := 1) (us := [_, _, _]) rfl rfl rfl rfl ON47 US47 SZ47 (.t rfl)) ?_
          refine W.q rfl rfl rfl rfl (by decide) (Yd.eqA rfl GU47 (fun w => EQ47 w y534.var y534.low y534.high v_2 r3.2 r8.2) (.t rfl) (.t rfl)) ?_
          refine W.end ?_
          refine NX.sub (env' := [(4, _), (14, _), (59, _), (60, _), (61, _), (15, _), (68, _)]) ⟨rfl, rfl, rfl, rfl, rfl, rfl, rfl, trivial⟩ ?_
          refine NX.drop (l' := hcells b13 [_, _, _] 47 :: l) (.cons _ (.cons_cons _ (.refl _))) ?_
          refine NX.then ?_
          refine Tr.cond (.t rfl) (fun hb => ?_) (fun hb => ?_)
          · have hr := cond_t hb hr
            refine Tr.seq ?_
            refine Tr.region_f (fun _ => false) ?_
            refine W.q rfl rfl rfl rfl (by decide) (Yd.mv rfl (.t rfl)) ?_
            refine W.q rfl rfl rfl rfl (by decide) (Yd.mv rfl (.t rfl)) ?_
            refine W.q rfl rfl rfl rfl (by decide) (Yd.add rfl (.t rfl) .c) ?_
            refine W.q rfl rfl rfl rfl (by decide) (Yd.as rfl (.t rfl)) ?_
            refine W.q rfl rfl rfl rfl (by decide) (Yd.as rfl (.t rfl)) ?_
            refine W.end ?_
            refine NX.sub (env' := [(10, _), (11, _)]) ⟨rfl, rfl, trivial⟩ ?_
            refine NX.drop (l' := l) (.cons _ (.refl _)) ?_
            refine NX.then ?_
            refine Tr.ret' (RT.block (RT.then (RT.then (RT.block (RT.then ?_)))))
            refine res2 rfl rfl rfl ?_
            intro w hc
            cases hr
            exact ⟨_, _, rfl, (hsm6.trans hsm11), hu12, hc⟩
          · have hr := cond_f hb hr
            refine Tr.skip' ?_
            refine NX.block ?_
            refine NX.then ?_
            refine Tr.region_f (fun _ => false) ?_
            refine W.q rfl rfl rfl rfl (by decide) (Yd.add rfl (.t rfl) .c) ?_
            refine W.q rfl rfl rfl rfl (by decide) (Yd.mv rfl (.t rfl)) ?_
            refine W.end ?_
            refine NX.sub (env' := [(4, _), (14, _), (59, _), (60, _), (61, _)]) ⟨rfl, rfl, rfl, rfl, rfl, trivial⟩ ?_
            refine NX.sub (env' := [(4, _), (14, _), (59, _), (60, _), (61, _)]) ⟨rfl, rfl, rfl, rfl, rfl, trivial⟩ ?_
            have hw := w64_id (n := t_530 + 1) (by omega) (by omega)
            exact NX.again n533 (t_530 + 1, ()) (Nat.lt_succ_self _) ⟨(by rw [hw] <;> rfl), rfl, (fr_dec hnt_530), (by omega), ((hnx532 _).symm.trans hr)⟩

def syllogistref_Grow (fuel : Nat) (n_0 : Int) (f_1 : List Bool) : Option ((List Branch) × Int) :=
  (syllogistref_grow fuel n_0 f_1 ((0 : Int)) (0#32) []).bind fun r1 =>
  some ((r1.1, r1.2))

set_option maxRecDepth 100000 in
set_option maxHeartbeats 4000000 in
theorem syllogistref_Grow_ok (w0 : World) (m : Snap) (l : List HI) (fuel : Nat) (n_0 : Int) (uf_1 : Value) (f_1 : List Bool) (hf_1 : RS rB m uf_1 f_1) (r : (List Branch) × Int) (hr : syllogistref_Grow fuel n_0 f_1 = some r) (w : World) (hc : cX w0 ⟨m, l⟩ w) :
    Calls Try.prog 7 [.int .i64 n_0, uf_1].toArray w fun e w' => ∃ z0 : Value, ∃ m1 : Snap, e = .returned (.tuple #[z0, .int .i64 r.2]) ∧ Sle m m1 ∧ RS rBranch m1 z0 r.1 ∧ cX w0 ⟨m1, l⟩ w' := by
  unfold syllogistref_Grow at hr
  refine calls_of_Tr (N := 11) Try.func7 rfl hc rfl (Nat.le_of_ble_eq_true rfl) ?_
  refine Tr.seq ?_
  refine Tr.region_f (fun _ => false) ?_
  refine W.q rfl rfl rfl rfl (by decide) (Yd.as rfl .c) ?_
  refine W.q rfl rfl rfl rfl (by decide) (Yd.as rfl .c) ?_
  refine W.end ?_
  refine NX.sub (env' := [(0, _), (1, _)]) ⟨rfl, rfl, trivial⟩ ?_
  refine NX.then ?_
  refine Tr.seq ?_
  obtain ⟨r1, hr2, hr⟩ := bind_some hr
  refine Tr.region_f (fun i => Nat.beq i 2) ?_
  refine W.q rfl rfl rfl rfl (by decide) (Yd.mv rfl (.t rfl)) ?_
  refine W.q rfl rfl rfl rfl (by decide) (Yd.mv rfl (.t rfl)) ?_
  refine W.e rfl rfl rfl rfl (by decide) (Ef.call (R := fun z x' => ∃ u3 : Value, ∃ m4 : Snap, z = .tuple #[u3, .int .i64 r1.2] ∧ x' = ⟨m4, l⟩ ∧ Sle m m4 ∧ RS rBranch m4 u3 r1.1) rfl Try.func14 rfl rfl (.cons (.t rfl) (.cons (.t rfl) (.cons .c (.cons .c (.cons .c .nil))))) (fun w hw => (syllogistref_grow_ok w0 _ _ fuel n_0 _ _ hf_1 ((0 : Int)) (0#32) _ _ (RS.nil _ _) _ hr2 w hw).mono fun e w' ⟨u3, m4, he, hm', hu5, hc'⟩ => ⟨_, _, he, ⟨u3, m4, rfl, rfl, hm', hu5⟩, hc'⟩)) ?_
  rintro _ _ ⟨u3, m4, rfl, rfl, hsm4, hu5⟩
  have hf_1 := hf_1.mono hsm4
  refine ⟨.inl rfl, ?_⟩
  refine W.cast (m' := m4) (l' := l) rfl rfl ?_
  refine W.q rfl rfl rfl rfl (by decide) (Yd.ext rfl (.t rfl) rfl) ?_
  refine W.q rfl rfl rfl rfl (by decide) (Yd.ext rfl (.t rfl) rfl) ?_
  refine W.q rfl rfl rfl rfl (by decide) (Yd.as rfl (.t rfl)) ?_
  refine W.q rfl rfl rfl rfl (by decide) (Yd.as rfl (.t rfl)) ?_
  refine W.end ?_
  refine NX.sub (env' := [(4, _), (5, _)]) ⟨rfl, rfl, trivial⟩ ?_
  refine NX.then ?_
  refine Tr.ret' ?_
  refine res2 rfl rfl rfl ?_
  intro w hc
  cases hr
  exact ⟨_, _, rfl, hsm4, hu5, hc⟩

def syllogistref_Branches_k3 : Option (Bool) :=
  some true

def syllogistref_Branches_b7 (a_0 : List Branch) (b_1 : List Branch) (i_6 : Int) (nx8 : Unit → Option (Bool)) : Option (Bool) :=
  (geti a_0 i_6).bind fun y10 =>
  (geti b_1 i_6).bind fun y12 =>
  (bif (!((y10.var == y12.var) && ((y10.low == y12.low) && ((y10.high == y12.high) && true)))) then
  some false
  else
  nx8 ())

def syllogistref_Branches (a_0 : List Branch) (b_1 : List Branch) : Option (Bool) :=
  (bif ((a_0.length : Int) != (b_1.length : Int)) then
  some false
  else
  forK (σ := Unit) (fun i s nx_ => syllogistref_Branches_b7 a_0 b_1 i nx_) (fun _ => syllogistref_Branches_k3) ((a_0.length : Int) - (0 : Int)).toNat (0 : Int) ())

set_option maxRecDepth 100000 in
set_option maxHeartbeats 4000000 in
theorem syllogistref_Branches_ok (w0 : World) (m : Snap) (l : List HI) (ua_0 : Value) (a_0 : List Branch) (ha_0 : RS rBranch m ua_0 a_0) (ub_1 : Value) (b_1 : List Branch) (hb_1 : RS rBranch m ub_1 b_1) (r : Bool) (hr : syllogistref_Branches a_0 b_1 = some r) (w : World) (hc : cX w0 ⟨m, l⟩ w) :
    Calls Try.prog 8 [ua_0, ub_1].toArray w fun e w' => e = .returned (.bool r) ∧ cX w0 ⟨m, l⟩ w' := by
  unfold syllogistref_Branches at hr
  refine calls_of_Tr (N := 26) Try.func8 rfl hc rfl (Nat.le_of_ble_eq_true rfl) ?_
  refine Tr.seq ?_
  refine Tr.region_f (fun _ => false) ?_
  refine W.q rfl rfl rfl rfl (by decide) (Yd.as rfl .c) ?_
  refine W.end ?_
  refine NX.sub (env' := [(0, _), (1, _)]) ⟨rfl, rfl, trivial⟩ ?_
  refine NX.then ?_
  refine Tr.seq ?_
  refine Tr.seq ?_
  refine Tr.region_f (fun _ => false) ?_
  refine W.q rfl rfl rfl rfl (by decide) (Yd.mv rfl (.t rfl)) ?_
  refine W.q rfl rfl rfl rfl (by decide) (Yd.lenR ha_0 rfl Try.underlying22 (.t rfl)) ?_
  refine W.q rfl rfl rfl rfl (by decide) (Yd.mv rfl (.t rfl)) ?_
  refine W.q rfl rfl rfl rfl (by decide) (Yd.lenR hb_1 rfl Try.underlying22 (.t rfl)) ?_
  refine W.q rfl rfl rfl rfl (by decide) (Yd.neq rfl (.t rfl) (.t rfl)) ?_
  refine W.end ?_
  refine NX.sub (env' := [(0, _), (1, _), (10, _)]) ⟨rfl, rfl, rfl, trivial⟩ ?_
  refine NX.then ?_
  refine Tr.cond (.t rfl) (fun hb => ?_) (fun hb => ?_)
  · have hr := cond_t hb hr
    refine Tr.seq ?_
    refine Tr.region_f (fun _ => false) ?_
    refine W.q rfl rfl rfl rfl (by decide) (Yd.as rfl .c) ?_
    refine W.end ?_
    refine NX.sub (env' := [(4, _)]) ⟨rfl, trivial⟩ ?_
    refine NX.then ?_
    refine Tr.ret' (RT.then ?_)
    refine res1 rfl rfl ?_
    intro w hc
    cases hr
    exact ⟨rfl, hc⟩
  · have hr := cond_f hb hr
    refine Tr.skip' ?_
    refine NX.then ?_
    refine Tr.seq ?_
    refine Tr.seq ?_
    refine Tr.region_f (fun _ => false) ?_
    refine W.q rfl rfl rfl rfl (by decide) (Yd.as rfl .c) ?_
    refine W.end ?_
    refine NX.sub (env' := [(0, _), (1, _), (5, _)]) ⟨rfl, rfl, rfl, trivial⟩ ?_
    refine NX.then ?_
    refine Tr.join (S := fun env x => env = [] ∧ x = ⟨m, l⟩ ∧ syllogistref_Branches_k3 = some r) ?_ (fun hk4 => ?_)
    · rintro _ _ ⟨rfl, rfl, hr⟩
      unfold syllogistref_Branches_k3 at hr
      try dsimp only at hr
      refine NX.then ?_
      refine Tr.seq ?_
      refine Tr.region_f (fun _ => false) ?_
      refine W.q rfl rfl rfl rfl (by decide) (Yd.as rfl .c) ?_
      refine W.end ?_
      refine NX.sub (env' := [(4, _)]) ⟨rfl, trivial⟩ ?_
      refine NX.then ?_
      refine Tr.ret' ?_
      refine res1 rfl rfl ?_
      intro w hc
      cases hr
      exact ⟨rfl, hc⟩
    have hlen5 := (ha_0).2.1
    refine Tr.block ?_
    refine Tr.sub (env' := [(0, _), (1, _), (5, _)]) ⟨rfl, rfl, rfl, trivial⟩ ?_
    refine Tr.loop (S := fun n (z : Int × Unit) env x => match z with | (i_6, _) => env = [(0, ua_0), (1, ub_1), (5, .int .i64 i_6)] ∧ x = ⟨m, l⟩ ∧ n = ((a_0.length : Int) - i_6).toNat ∧ 0 ≤ i_6 ∧ forK (σ := Unit) (fun i s nx_ => syllogistref_Branches_b7 a_0 b_1 i nx_) (fun _ => syllogistref_Branches_k3) n i_6 () = some r) _ ((0 : Int), ()) ⟨rfl, rfl, rfl, (by omega), hr⟩ ?_
    rintro n9 ⟨i_6, _⟩ env x ⟨rfl, rfl, hni_6, h0i_6, hr⟩
    cases n9 with
    | zero =>
      simp only [forK] at hr
      refine Tr.seq ?_
      refine Tr.seq ?_
      refine Tr.region_f (fun _ => false) ?_
      refine W.q rfl rfl rfl rfl (by decide) (Yd.mv rfl (.t rfl)) ?_
      refine W.q rfl rfl rfl rfl (by decide) (Yd.mv rfl (.t rfl)) ?_
      refine W.q rfl rfl rfl rfl (by decide) (Yd.lenR ha_0 rfl Try.underlying22 (.t rfl)) ?_
      refine W.q rfl rfl rfl rfl (by decide) (Yd.lss rfl (.t rfl) (.t rfl)) ?_
      refine W.end ?_
      refine NX.sub (env' := [(0, _), (1, _), (5, _), (14, _)]) ⟨rfl, rfl, rfl, rfl, trivial⟩ ?_
      refine NX.then ?_
      refine Tr.cond (.t rfl) (fun hb => ?_) (fun hb => ?_)
      · exact absurd (hb.symm.trans (fr_end hni_6)) (by decide)
      ·
        refine Tr.exit' (EX.then (EX.then (EX.block ?_)))
        refine NX.sub (env' := []) trivial ?_
        exact hk4 _ _ ⟨rfl, rfl, hr⟩
    | succ n9 =>
      obtain ⟨nx8, hnx8, hr⟩ := forK_succ hr
      try dsimp only at hr
      unfold syllogistref_Branches_b7 at hr
      try dsimp only at hr
      have hlti_6 := fr_bnd hni_6
      refine Tr.seq ?_
      refine Tr.seq ?_
      refine Tr.region_f (fun _ => false) ?_
      refine W.q rfl rfl rfl rfl (by decide) (Yd.mv rfl (.t rfl)) ?_
      refine W.q rfl rfl rfl rfl (by decide) (Yd.mv rfl (.t rfl)) ?_
      refine W.q rfl rfl rfl rfl (by decide) (Yd.lenR ha_0 rfl Try.underlying22 (.t rfl)) ?_
      refine W.q rfl rfl rfl rfl (by decide) (Yd.lss rfl (.t rfl) (.t rfl)) ?_
      refine W.end ?_
      refine NX.sub (env' := [(0, _), (1, _), (5, _), (14, _)]) ⟨rfl, rfl, rfl, rfl, trivial⟩ ?_
      refine NX.then ?_
      refine Tr.cond (.t rfl) (fun hb => ?_) (fun hb => ?_)
      rotate_left
      · exact absurd (hb.symm.trans (fr_go hni_6)) (by decide)
      ·
        refine Tr.skip' ?_
        refine NX.then ?_
        refine Tr.seq ?_
        refine Tr.block ?_
        refine Tr.seq ?_
        obtain ⟨y10, hy11, hr⟩ := bind_some hr
        obtain ⟨y12, hy13, hr⟩ := bind_some hr
        refine Tr.region_x (fun _ => false) (fun _ => false) (Ord.of [0, 1, 2, 3, 4, 5, 6, 7, 8]) FM (by kernel_rfl) ?_
        refine W.q rfl rfl rfl rfl (by decide) (Yd.mv rfl (.t rfl)) ?_
        refine W.q rfl rfl rfl rfl (by decide) (Yd.mv rfl (.t rfl)) ?_
        refine W.q rfl rfl rfl rfl (by decide) (Yd.idxR ha_0 hy11 rfl Try.underlying22 SZ47 (.t rfl) (.t rfl)) ?_
        refine W.q rfl rfl rfl rfl (by decide) (Yd.ldFs (us := [_, _, _]) ha_0 (.refl _) hy11 rfl rfl ON47 US47 SZ47 (.t rfl)) ?_
        refine W.q rfl rfl rfl rfl (by decide) (Yd.mv rfl (.t rfl)) ?_
        refine W.q rfl rfl rfl rfl (by decide) (Yd.mv rfl (.t rfl)) ?_
        refine W.q rfl rfl rfl rfl (by decide) (Yd.idxR hb_1 hy13 rfl Try.underlying22 SZ47 (.t rfl) (.t rfl)) ?_
        refine W.q rfl rfl rfl rfl (by decide) (Yd.ldFs (us := [_, _, _]) hb_1 (.refl _) hy13 rfl rfl ON47 US47 SZ47 (.t rfl)) ?_
        refine W.q rfl rfl rfl rfl (by decide) (Yd.neA rfl GU47 (fun w => ne_of_eq (EQ47 w y10.var y10.low y10.high y12.var y12.low y12.high)) (.t rfl) (.t rfl)) ?_
        refine W.end ?_
        refine NX.sub (env' := [(0, _), (1, _), (5, _), (25, _)]) ⟨rfl, rfl, rfl, rfl, trivial⟩ ?_
        refine NX.then ?_
        refine Tr.cond (.t rfl) (fun hb => ?_) (fun hb => ?_)
        · have hr := cond_t hb hr
          refine Tr.seq ?_
          refine Tr.region_f (fun _ => false) ?_
          refine W.q rfl rfl rfl rfl (by decide) (Yd.as rfl .c) ?_
          refine W.end ?_
          refine NX.sub (env' := [(4, _)]) ⟨rfl, trivial⟩ ?_
          refine NX.then ?_
          refine Tr.ret' (RT.block (RT.then (RT.then (RT.block (RT.then ?_)))))
          refine res1 rfl rfl ?_
          intro w hc
          cases hr
          exact ⟨rfl, hc⟩
        · have hr := cond_f hb hr
          refine Tr.skip' ?_
          refine NX.block ?_
          refine NX.then ?_
          refine Tr.region_f (fun _ => false) ?_
          refine W.q rfl rfl rfl rfl (by decide) (Yd.mv rfl (.t rfl)) ?_
          refine W.q rfl rfl rfl rfl (by decide) (Yd.add rfl (.t rfl) .c) ?_
          refine W.q rfl rfl rfl rfl (by decide) (Yd.as rfl (.t rfl)) ?_
          refine W.end ?_
          refine NX.sub (env' := [(0, _), (1, _), (5, _)]) ⟨rfl, rfl, rfl, trivial⟩ ?_
          refine NX.sub (env' := [(0, _), (1, _), (5, _)]) ⟨rfl, rfl, rfl, trivial⟩ ?_
          have hw := w64_id (n := i_6 + 1) (by omega) (by omega)
          exact NX.again n9 (i_6 + 1, ()) (Nat.lt_succ_self _) ⟨(by rw [hw] <;> rfl), rfl, (fr_dec hni_6), (by omega), ((hnx8 _).symm.trans hr)⟩

def syllogistlaw_ChoiceAnds_k29 (n_0 : Int) (fuel : Nat) (r1 : (List Branch) × Int × Int) (l27 : List Bool) : Option (Bool) :=
  (syllogistref_Grow fuel n_0 l27).bind fun r33 =>
  bif (!(((r1.2.2 == (0 : Int)) && (r1.2.1 == r33.2)) == true) || (syllogistref_Branches r1.1 r33.1).isSome) then
  some ((((r1.2.2 == (0 : Int)) && (r1.2.1 == r33.2)) && (((syllogistref_Branches r1.1 r33.1).getD false)))) else none

def syllogistlaw_ChoiceAnds_b41 (r17 : (List Bool)) (t_40 : Int) (l25 : List Bool) (nx42 : (List Bool) → Option (Bool)) : Option (Bool) :=
  (geti r17 t_40).bind fun y44 =>
  (geti l25 t_40).bind fun y46 =>
  nx42 (l25.set t_40.toNat ((y46 && y44)))

def syllogistlaw_ChoiceAnds_k11 (n_0 : Int) (a_1 : List Branch) (y_2 : Int) (b_3 : List Branch) (z_4 : Int) (fuel : Nat) (r1 : (List Branch) × Int × Int) (x_10 : Int) : Option (Bool) :=
  (bif (x_10 != (0 : Int)) then
  some ((((r1.2.2 == x_10) && ((r1.1.length : Int) == (0 : Int))) && (r1.2.1 == (0 : Int))))
  else
  (syllogistref_Read fuel n_0 a_1 y_2).bind fun r13 =>
  (syllogistref_Read fuel n_0 b_3 z_4).bind fun r17 =>
  forK (σ := (List Bool)) (fun i s nx_ => syllogistlaw_ChoiceAnds_b41 r17 i s nx_) (fun s => syllogistlaw_ChoiceAnds_k29 n_0 fuel r1 s) ((r17.length : Int) - (0 : Int)).toNat (0 : Int) r13)

def syllogistlaw_ChoiceAnds_k8 (n_0 : Int) (a_1 : List Branch) (y_2 : Int) (b_3 : List Branch) (z_4 : Int) (fuel : Nat) (r1 : (List Branch) × Int × Int) (x_7 : Int) : Option (Bool) :=
  (bif (x_7 == (0 : Int)) then
  (syllogistlaw_treeCode n_0 b_3 z_4).bind fun r48 =>
  syllogistlaw_ChoiceAnds_k11 n_0 a_1 y_2 b_3 z_4 fuel r1 r48
  else
  syllogistlaw_ChoiceAnds_k11 n_0 a_1 y_2 b_3 z_4 fuel r1 x_7)

def syllogistlaw_ChoiceAnds (fuel : Nat) (n_0 : Int) (a_1 : List Branch) (y_2 : Int) (b_3 : List Branch) (z_4 : Int) : Option (Bool) :=
  (choice_And fuel n_0 a_1 y_2 b_3 z_4).bind fun r1 =>
  (syllogistlaw_treeCode n_0 a_1 y_2).bind fun r5 =>
  (bif ((r5 != (1 : Int)) && (decide ((b_3.length : Int) > (20 : Int)))) then
  syllogistlaw_ChoiceAnds_k8 n_0 a_1 y_2 b_3 z_4 fuel r1 ((1 : Int))
  else
  syllogistlaw_ChoiceAnds_k8 n_0 a_1 y_2 b_3 z_4 fuel r1 r5)

set_option maxRecDepth 100000 in
set_option maxHeartbeats 4000000 in
theorem syllogistlaw_ChoiceAnds_ok (w0 : World) (m : Snap) (l : List HI) (fuel : Nat) (n_0 : Int) (ua_1 : Value) (a_1 : List Branch) (ha_1 : RS rBranch m ua_1 a_1) (y_2 : Int) (ub_3 : Value) (b_3 : List Branch) (hb_3 : RS rBranch m ub_3 b_3) (z_4 : Int) (r : Bool) (hr : syllogistlaw_ChoiceAnds fuel n_0 a_1 y_2 b_3 z_4 = some r) (w : World) (hc : cX w0 ⟨m, l⟩ w) :
    Calls Try.prog 3 [.int .i64 n_0, ua_1, .int .i64 y_2, ub_3, .int .i64 z_4].toArray w fun e w' => e = .returned (.bool r) ∧ cX w0 ⟨m, l⟩ w' := by
  unfold syllogistlaw_ChoiceAnds at hr
  refine calls_of_Tr (N := 104) Try.func3 rfl hc rfl (Nat.le_of_ble_eq_true rfl) ?_
  refine Tr.seq ?_
  refine Tr.region_f (fun _ => false) ?_
  refine W.q rfl rfl rfl rfl (by decide) (Yd.as rfl .c) ?_
  refine W.end ?_
  refine NX.sub (env' := [(0, _), (1, _), (2, _), (3, _), (4, _)]) ⟨rfl, rfl, rfl, rfl, rfl, trivial⟩ ?_
  refine NX.then ?_
  refine Tr.seq ?_
  obtain ⟨r1, hr2, hr⟩ := bind_some hr
  refine Tr.region_f (fun i => Nat.beq i 5) ?_
  refine W.q rfl rfl rfl rfl (by decide) (Yd.mv rfl (.t rfl)) ?_
  refine W.q rfl rfl rfl rfl (by decide) (Yd.mv rfl (.t rfl)) ?_
  refine W.q rfl rfl rfl rfl (by decide) (Yd.mv rfl (.t rfl)) ?_
  refine W.q rfl rfl rfl rfl (by decide) (Yd.mv rfl (.t rfl)) ?_
  refine W.q rfl rfl rfl rfl (by decide) (Yd.mv rfl (.t rfl)) ?_
  refine W.e rfl rfl rfl rfl (by decide) (Ef.call (R := fun z x' => ∃ v3 : Value, z = .tuple #[v3, .int .i64 r1.2.1, .int .i64 r1.2.2] ∧ x' = ⟨m, hownT 47 3 Branch.enc v3 r1.1 :: l⟩) rfl Try.func4 rfl rfl (.cons (.t rfl) (.cons (.t rfl) (.cons (.t rfl) (.cons (.t rfl) (.cons (.t rfl) .nil))))) (fun w hw => (choice_And_ok w0 _ _ fuel n_0 _ _ ha_1 y_2 _ _ hb_3 z_4 _ hr2 w hw).mono fun e w' ⟨v3, he, hc'⟩ => ⟨_, _, he, ⟨v3, rfl, rfl⟩, hc'⟩)) ?_
  rintro _ _ ⟨v3, rfl, rfl⟩
  refine ⟨.inl rfl, ?_⟩
  refine W.cast (m' := m) (l' := hownT 47 3 Branch.enc v3 _ :: l) rfl rfl ?_
  refine W.q rfl rfl rfl rfl (by decide) (Yd.mv rfl (.t rfl)) ?_
  refine W.q rfl rfl rfl rfl (by decide) (Yd.ext rfl (.t rfl) rfl) ?_
  refine W.q rfl rfl rfl rfl (by decide) (Yd.ext rfl (.t rfl) rfl) ?_
  refine W.q rfl rfl rfl rfl (by decide) (Yd.ext rfl (.t rfl) rfl) ?_
  refine W.q rfl rfl rfl rfl (by decide) (Yd.as rfl (.t rfl)) ?_
  refine W.q rfl rfl rfl rfl (by decide) (Yd.as rfl (.t rfl)) ?_
  refine W.q rfl rfl rfl rfl (by decide) (Yd.as rfl (.t rfl)) ?_
  refine W.end ?_
  refine NX.sub (env' := [(0, _), (1, _), (2, _), (3, _), (4, _), (11, _), (12, _), (13, _)]) ⟨rfl, rfl, rfl, rfl, rfl, rfl, rfl, rfl, trivial⟩ ?_
  refine NX.then ?_
  refine Tr.seq ?_
  obtain ⟨r5, hr6, hr⟩ := bind_some hr
  refine Tr.region_f (fun _ => false) ?_
  refine W.q rfl rfl rfl rfl (by decide) (Yd.mv rfl (.t rfl)) ?_
  refine W.q rfl rfl rfl rfl (by decide) (Yd.mv rfl (.t rfl)) ?_
  refine W.q rfl rfl rfl rfl (by decide) (Yd.mv rfl (.t rfl)) ?_
  refine W.q rfl rfl rfl rfl (by decide) (Yd.call (v := .int .i64 r5) rfl Try.func5 rfl rfl (.cons (.t rfl) (.cons (.t rfl) (.cons (.t rfl) .nil))) (fun x' hx w hw => syllogistlaw_treeCode_ok w0 x'.m x'.l n_0 _ _ (ha_1.mono hx.1) y_2 _ hr6 w hw)) ?_
  refine W.q rfl rfl rfl rfl (by decide) (Yd.as rfl (.t rfl)) ?_
  refine W.end ?_
  refine NX.sub (env' := [(0, _), (1, _), (2, _), (3, _), (4, _), (11, _), (12, _), (13, _), (14, _)]) ⟨rfl, rfl, rfl, rfl, rfl, rfl, rfl, rfl, rfl, trivial⟩ ?_
  refine NX.then ?_
  refine Tr.seq ?_
  refine Tr.seq ?_
  refine Tr.region_f (fun _ => false) ?_
  refine W.q rfl rfl rfl rfl (by decide) (Yd.mv rfl (.t rfl)) ?_
  refine W.q rfl rfl rfl rfl (by decide) (Yd.neq rfl (.t rfl) .c) ?_
  refine W.q rfl rfl rfl rfl (by decide) (Yd.mv rfl (.t rfl)) ?_
  refine W.g rfl rfl rfl rfl rfl (.t rfl _) rfl (by decide) (fun hG => Yd.mv rfl (.t rfl)) ?_
  refine W.g rfl rfl rfl rfl rfl (.t rfl _) rfl (by decide) (fun hG => Yd.lenR hb_3 rfl Try.underlying22 (.g rfl hG)) ?_
  refine W.g rfl rfl rfl rfl rfl (.t rfl _) rfl (by decide) (fun hG => Yd.gtr rfl (.g rfl hG) .c) ?_
  refine W.q rfl rfl rfl rfl (by decide) (Yd.and rfl (.t rfl) .c rfl rfl) ?_
  refine W.end ?_
  refine NX.sub (env' := [(0, _), (1, _), (2, _), (3, _), (4, _), (11, _), (12, _), (13, _), (14, _), (40, _)]) ⟨rfl, rfl, rfl, rfl, rfl, rfl, rfl, rfl, rfl, rfl, trivial⟩ ?_
  refine NX.then ?_
  refine Tr.join (S := fun env x => ∃ x_7 : Int, env = [(0, .int .i64 n_0), (1, ua_1), (2, .int .i64 y_2), (3, ub_3), (4, .int .i64 z_4), (11, v3), (12, .int .i64 r1.2.1), (13, .int .i64 r1.2.2), (14, .int .i64 x_7)] ∧ x = ⟨m, hownT 47 3 Branch.enc v3 r1.1 :: l⟩ ∧ syllogistlaw_ChoiceAnds_k8 n_0 a_1 y_2 b_3 z_4 fuel r1 x_7 = some r) ?_ (fun hk9 => ?_)
  · rintro _ _ ⟨x_7, rfl, rfl, hr⟩
    unfold syllogistlaw_ChoiceAnds_k8 at hr
    try dsimp only at hr
    refine NX.then ?_
    refine Tr.seq ?_
    refine Tr.seq ?_
    refine Tr.region_f (fun _ => false) ?_
    refine W.q rfl rfl rfl rfl (by decide) (Yd.mv rfl (.t rfl)) ?_
    refine W.q rfl rfl rfl rfl (by decide) (Yd.eql rfl (.t rfl) .c) ?_
    refine W.end ?_
    refine NX.sub (env' := [(0, _), (1, _), (2, _), (3, _), (4, _), (11, _), (12, _), (13, _), (14, _), (42, _)]) ⟨rfl, rfl, rfl, rfl, rfl, rfl, rfl, rfl, rfl, rfl, trivial⟩ ?_
    refine NX.then ?_
    refine Tr.join (S := fun env x => ∃ x_10 : Int, env = [(0, .int .i64 n_0), (1, ua_1), (2, .int .i64 y_2), (3, ub_3), (4, .int .i64 z_4), (11, v3), (12, .int .i64 r1.2.1), (13, .int .i64 r1.2.2), (14, .int .i64 x_10)] ∧ x = ⟨m, hownT 47 3 Branch.enc v3 r1.1 :: l⟩ ∧ syllogistlaw_ChoiceAnds_k11 n_0 a_1 y_2 b_3 z_4 fuel r1 x_10 = some r) ?_ (fun hk12 => ?_)
    · rintro _ _ ⟨x_10, rfl, rfl, hr⟩
      unfold syllogistlaw_ChoiceAnds_k11 at hr
      try dsimp only at hr
      refine NX.then ?_
      refine Tr.seq ?_
      refine Tr.seq ?_
      refine Tr.region_f (fun _ => false) ?_
      refine W.q rfl rfl rfl rfl (by decide) (Yd.mv rfl (.t rfl)) ?_
      refine W.q rfl rfl rfl rfl (by decide) (Yd.neq rfl (.t rfl) .c) ?_
      refine W.end ?_
      refine NX.sub (env' := [(0, _), (1, _), (2, _), (3, _), (4, _), (11, _), (12, _), (13, _), (14, _), (48, _)]) ⟨rfl, rfl, rfl, rfl, rfl, rfl, rfl, rfl, rfl, rfl, trivial⟩ ?_
      refine NX.then ?_
      refine Tr.cond (.t rfl) (fun hb => ?_) (fun hb => ?_)
      · have hr := cond_t hb hr
        refine Tr.seq ?_
        refine Tr.region_f (fun _ => false) ?_
        refine W.q rfl rfl rfl rfl (by decide) (Yd.mv rfl (.t rfl)) ?_
        refine W.q rfl rfl rfl rfl (by decide) (Yd.mv rfl (.t rfl)) ?_
        refine W.q rfl rfl rfl rfl (by decide) (Yd.eql rfl (.t rfl) (.t rfl)) ?_
        refine W.q rfl rfl rfl rfl (by decide) (Yd.mv rfl (.t rfl)) ?_
        refine W.g rfl rfl rfl rfl rfl (.t rfl _) rfl (by decide) (fun hG => Yd.mv rfl (.t rfl)) ?_
        refine W.g rfl rfl rfl rfl rfl (.t rfl _) rfl (by decide) (fun hG => Yd.lenO (p := 0) rfl rfl Try.underlying22 (.g rfl hG)) ?_
        refine W.g rfl rfl rfl rfl rfl (.t rfl _) rfl (by decide) (fun hG => Yd.eql rfl (.g rfl hG) .c) ?_
        refine W.q rfl rfl rfl rfl (by decide) (Yd.and rfl (.t rfl) .c rfl rfl) ?_
        refine W.q rfl rfl rfl rfl (by decide) (Yd.mv rfl (.t rfl)) ?_
        refine W.g rfl rfl rfl rfl rfl (.t rfl _) rfl (by decide) (fun hG => Yd.mv rfl (.t rfl)) ?_
        refine W.g rfl rfl rfl rfl rfl (.t rfl _) rfl (by decide) (fun hG => Yd.eql rfl (.g rfl hG) .c) ?_
        refine W.q rfl rfl rfl rfl (by decide) (Yd.and rfl (.t rfl) .c rfl rfl) ?_
        refine W.q rfl rfl rfl rfl (by decide) (Yd.as rfl (.t rfl)) ?_
        refine W.end ?_
        refine NX.sub (env' := [(10, _)]) ⟨rfl, trivial⟩ ?_
        refine NX.drop (l' := l) (.cons _ (.refl _)) ?_
        refine NX.then ?_
        refine Tr.ret' (RT.then ?_)
        refine res1 rfl rfl ?_
        intro w hc
        cases hr
        exact ⟨rfl, hc⟩
      · have hr := cond_f hb hr
        refine Tr.skip' ?_
        refine NX.then ?_
        refine Tr.seq ?_
        obtain ⟨r13, hr14, hr⟩ := bind_some hr
        refine Tr.region_f (fun i => Nat.beq i 3) ?_
        refine W.q rfl rfl rfl rfl (by decide) (Yd.mv rfl (.t rfl)) ?_
        refine W.q rfl rfl rfl rfl (by decide) (Yd.mv rfl (.t rfl)) ?_
        refine W.q rfl rfl rfl rfl (by decide) (Yd.mv rfl (.t rfl)) ?_
        refine W.e rfl rfl rfl rfl (by decide) (Ef.call (R := fun z x' => ∃ v15 : Value, z = v15 ∧ x' = ⟨m, hownT 4 1 encB v15 r13 :: hownT 47 3 Branch.enc v3 r1.1 :: l⟩) rfl Try.func6 rfl rfl (.cons (.t rfl) (.cons (.t rfl) (.cons (.t rfl) .nil))) (fun w hw => (syllogistref_Read_ok w0 _ _ fuel n_0 _ _ ha_1 y_2 _ hr14 w hw).mono fun e w' ⟨v15, he, hc'⟩ => ⟨_, _, he, ⟨v15, rfl, rfl⟩, hc'⟩)) ?_
        rintro v15 _ ⟨_, rfl, rfl⟩
        refine ⟨.inl rfl, ?_⟩
        refine W.cast (m' := m) (l' := hownT 4 1 encB v15 _ :: hownT 47 3 Branch.enc v3 _ :: l) rfl rfl ?_
        refine W.q rfl rfl rfl rfl (by decide) (Yd.as rfl (.t rfl)) ?_
        refine W.end ?_
        refine NX.sub (env' := [(0, _), (3, _), (4, _), (11, _), (12, _), (13, _), (15, _)]) ⟨rfl, rfl, rfl, rfl, rfl, rfl, rfl, trivial⟩ ?_
        refine NX.then ?_
        refine Tr.seq ?_
        refine Tr.seq ?_
        obtain ⟨r17, hr18, hr⟩ := bind_some hr
        refine Tr.region_f (fun i => Nat.beq i 3) ?_
        refine W.q rfl rfl rfl rfl (by decide) (Yd.mv rfl (.t rfl)) ?_
        refine W.q rfl rfl rfl rfl (by decide) (Yd.mv rfl (.t rfl)) ?_
        refine W.q rfl rfl rfl rfl (by decide) (Yd.mv rfl (.t rfl)) ?_
        refine W.e rfl rfl rfl rfl (by decide) (Ef.call (R := fun z x' => ∃ v19 : Value, z = v19 ∧ x' = ⟨m, hownT 4 1 encB v19 r17 :: hownT 4 1 encB v15 r13 :: hownT 47 3 Branch.enc v3 r1.1 :: l⟩) rfl Try.func6 rfl rfl (.cons (.t rfl) (.cons (.t rfl) (.cons (.t rfl) .nil))) (fun w hw => (syllogistref_Read_ok w0 _ _ fuel n_0 _ _ hb_3 z_4 _ hr18 w hw).mono fun e w' ⟨v19, he, hc'⟩ => ⟨_, _, he, ⟨v19, rfl, rfl⟩, hc'⟩)) ?_
        rintro v19 _ ⟨_, rfl, rfl⟩
        refine ⟨.inl rfl, ?_⟩
        refine W.cast (m' := m) (l' := hownT 4 1 encB v19 _ :: hownT 4 1 encB v15 _ :: hownT 47 3 Branch.enc v3 _ :: l) rfl rfl ?_
        refine W.q rfl rfl rfl rfl (by decide) (Yd.lenO (p := 0) rfl rfl Try.underlying27 (.t rfl)) ?_
        refine W.q rfl rfl rfl rfl (by decide) (Yd.mv rfl .c) ?_
        refine W.end ?_
        refine NX.sub (env' := [(0, _), (11, _), (12, _), (13, _), (15, _), (68, _), (69, _), (70, _)]) ⟨rfl, rfl, rfl, rfl, rfl, rfl, rfl, rfl, trivial⟩ ?_
        refine NX.then ?_
        refine Tr.join (S := fun env x => ∃ l27 : List Bool, ∃ v28 : Value, env = [(0, .int .i64 n_0), (11, v3), (12, .int .i64 r1.2.1), (13, .int .i64 r1.2.2), (15, v28)] ∧ x = ⟨m, hownT 4 1 encB v28 l27 :: hownT 47 3 Branch.enc v3 r1.1 :: l⟩ ∧ syllogistlaw_ChoiceAnds_k29 n_0 fuel r1 l27 = some r) ?_ (fun hk30 => ?_)
        · rintro _ _ ⟨l27, v28, rfl, rfl, hr⟩
          unfold syllogistlaw_ChoiceAnds_k29 at hr
          try dsimp only at hr
          refine NX.then ?_
          refine Tr.seq ?_
          refine Tr.freezeT (enc := encB) (n := 1) (pos := 0) (xs := l27) (fun _ => rfl) rfl (fun m31 hsm31 hu32 => ?_)
          have ha_1 := ha_1.mono hsm31
          have hb_3 := hb_3.mono hsm31
          refine Tr.cast (m' := m31) (l' := hownT 47 3 Branch.enc v3 _ :: l) rfl rfl ?_
          obtain ⟨r33, hr34, hr⟩ := bind_some hr
          refine Tr.region_f (fun i => Nat.beq i 2) ?_
          refine W.q rfl rfl rfl rfl (by decide) (Yd.mv rfl (.t rfl)) ?_
          refine W.q rfl rfl rfl rfl (by decide) (Yd.mv rfl (.t rfl)) ?_
          refine W.e rfl rfl rfl rfl (by decide) (Ef.call (R := fun z x' => ∃ u35 : Value, ∃ m36 : Snap, z = .tuple #[u35, .int .i64 r33.2] ∧ x' = ⟨m36, hownT 47 3 Branch.enc v3 r1.1 :: l⟩ ∧ Sle m31 m36 ∧ RS rBranch m36 u35 r33.1) rfl Try.func7 rfl rfl (.cons (.t rfl) (.cons (.t rfl) .nil)) (fun w hw => (syllogistref_Grow_ok w0 _ _ fuel n_0 _ _ hu32 _ hr34 w hw).mono fun e w' ⟨u35, m36, he, hm', hu37, hc'⟩ => ⟨_, _, he, ⟨u35, m36, rfl, rfl, hm', hu37⟩, hc'⟩)) ?_
          rintro _ _ ⟨u35, m36, rfl, rfl, hsm36, hu37⟩
          have ha_1 := ha_1.mono hsm36
          have hb_3 := hb_3.mono hsm36
          have hu32 := hu32.mono hsm36
          refine ⟨.inl rfl, ?_⟩
          refine W.cast (m' := m36) (l' := hownT 47 3 Branch.enc v3 _ :: l) rfl rfl ?_
          refine W.q rfl rfl rfl rfl (by decide) (Yd.mv rfl (.t rfl)) ?_
          refine W.q rfl rfl rfl rfl (by decide) (Yd.ext rfl (.t rfl) rfl) ?_
          refine W.q rfl rfl rfl rfl (by decide) (Yd.ext rfl (.t rfl) rfl) ?_
          refine W.q rfl rfl rfl rfl (by decide) (Yd.as rfl (.t rfl)) ?_
          refine W.q rfl rfl rfl rfl (by decide) (Yd.as rfl (.t rfl)) ?_
          refine W.end ?_
          refine NX.sub (env' := [(11, _), (12, _), (13, _), (18, _), (19, _)]) ⟨rfl, rfl, rfl, rfl, rfl, trivial⟩ ?_
          refine NX.then ?_
          refine Tr.seq ?_
          obtain ⟨ha38, hr⟩ := guard_some hr
          refine Tr.region_f (fun _ => false) ?_
          refine W.q rfl rfl rfl rfl (by decide) (Yd.mv rfl (.t rfl)) ?_
          refine W.q rfl rfl rfl rfl (by decide) (Yd.eql rfl (.t rfl) .c) ?_
          refine W.q rfl rfl rfl rfl (by decide) (Yd.mv rfl (.t rfl)) ?_
          refine W.g rfl rfl rfl rfl rfl (.t rfl _) rfl (by decide) (fun hG => Yd.mv rfl (.t rfl)) ?_
          refine W.g rfl rfl rfl rfl rfl (.t rfl _) rfl (by decide) (fun hG => Yd.mv rfl (.t rfl)) ?_
          refine W.g rfl rfl rfl rfl rfl (.t rfl _) rfl (by decide) (fun hG => Yd.eql rfl (.g rfl hG) (.g rfl hG)) ?_
          refine W.q rfl rfl rfl rfl (by decide) (Yd.and rfl (.t rfl) .c rfl rfl) ?_
          refine W.q rfl rfl rfl rfl (by decide) (Yd.mv rfl (.t rfl)) ?_
          refine W.g rfl rfl rfl rfl rfl (.t rfl _) rfl (by decide) (fun hG => Yd.mv rfl (.t rfl)) ?_
          refine W.g rfl rfl rfl rfl rfl (.t rfl _) rfl (by decide) (fun hG => Yd.mv rfl (.t rfl)) ?_
          refine W.g rfl rfl rfl rfl rfl (.t rfl _) rfl (by decide) (fun hG => Yd.call (v := .bool ((((syllogistref_Branches r1.1 r33.1).getD false)))) rfl Try.func8 rfl rfl (.cons (.g rfl hG) (.cons (.g rfl hG) .nil)) (by intro x' hx w hw; obtain ⟨p0, hp0⟩ := hx.at (p := 0) rfl; obtain ⟨m2, hm2, hc2, ⟨L2, hl1, hl2⟩, hback⟩ := cX_lend hw hp0 lone_own; have hL1 : RS rBranch m2 _ _ := RS_of_own hl1 hl2; exact (syllogistref_Branches_ok w0 m2 _ _ _ hL1 _ _ (hu37.mono (hx.1.trans hm2)) _ (gd_get (d := false) ha38 hG) w hc2).mono fun e w' ⟨he, hc'⟩ => ⟨he, (hback m2 _ _ w' (.refl _) hp0).2 hc'⟩)) ?_
          refine W.q rfl rfl rfl rfl (by decide) (Yd.and rfl (.t rfl) .c rfl rfl) ?_
          refine W.q rfl rfl rfl rfl (by decide) (Yd.as rfl (.t rfl)) ?_
          refine W.end ?_
          refine NX.sub (env' := [(10, _)]) ⟨rfl, trivial⟩ ?_
          refine NX.drop (l' := l) (.cons _ (.refl _)) ?_
          refine NX.then ?_
          refine Tr.ret' ?_
          refine res1 rfl rfl ?_
          intro w hc
          cases hr
          exact ⟨rfl, (cX_le (x := ⟨m, _⟩) ⟨(hsm31.trans hsm36), [], rfl⟩ hc)⟩
        refine Tr.lenO (pos := 0) rfl (fun hlen39 => ?_)
        refine Tr.block ?_
        refine Tr.sub (env' := [(0, _), (11, _), (12, _), (13, _), (15, _), (68, _), (69, _), (70, _)]) ⟨rfl, rfl, rfl, rfl, rfl, rfl, rfl, rfl, trivial⟩ ?_
        refine Tr.loop (S := fun n (z : Int × (List Bool)) env x => match z with | (t_40, l25) => ∃ v26 : Value, env = [(0, .int .i64 n_0), (11, v3), (12, .int .i64 r1.2.1), (13, .int .i64 r1.2.2), (15, v26), (68, v19), (69, .int .i64 ((r17.length : Int))), (70, .int .i64 t_40)] ∧ x = ⟨m, hownT 4 1 encB v19 r17 :: hownT 4 1 encB v26 l25 :: hownT 47 3 Branch.enc v3 r1.1 :: l⟩ ∧ n = ((r17.length : Int) - t_40).toNat ∧ 0 ≤ t_40 ∧ forK (σ := (List Bool)) (fun i s nx_ => syllogistlaw_ChoiceAnds_b41 r17 i s nx_) (fun s => syllogistlaw_ChoiceAnds_k29 n_0 fuel r1 s) n t_40 l25 = some r) _ ((0 : Int), r13) ⟨_, rfl, rfl, rfl, (by omega), hr⟩ ?_
        rintro n43 ⟨t_40, l25⟩ env x ⟨v26, rfl, rfl, hnt_40, h0t_40, hr⟩
        cases n43 with
        | zero =>
          simp only [forK] at hr
          refine Tr.seq ?_
          refine Tr.region_f (fun _ => false) ?_
          refine W.q rfl rfl rfl rfl (by decide) (Yd.lss rfl (.t rfl) (.t rfl)) ?_
          refine W.end ?_
          refine NX.sub (env' := [(0, _), (11, _), (12, _), (13, _), (15, _), (68, _), (69, _), (70, _), (71, _)]) ⟨rfl, rfl, rfl, rfl, rfl, rfl, rfl, rfl, rfl, trivial⟩ ?_
          refine NX.then ?_
          refine Tr.seq ?_
          refine Tr.cond (.t rfl) (fun hb => ?_) (fun hb => ?_)
          · exact absurd (hb.symm.trans (fr_end hnt_40)) (by decide)
          ·
            refine Tr.exit' (EX.then (EX.then (EX.block ?_)))
            refine NX.sub (env' := [(0, _), (11, _), (12, _), (13, _), (15, _)]) ⟨rfl, rfl, rfl, rfl, rfl, trivial⟩ ?_
            refine NX.drop (l' := hownT 4 1 encB v26 _ :: hownT 47 3 Branch.enc v3 _ :: l) (.cons _ (.cons_cons _ (.cons_cons _ (.refl _)))) ?_
            exact hk30 _ _ ⟨_, _, rfl, rfl, hr⟩
        | succ n43 =>
          obtain ⟨nx42, hnx42, hr⟩ := forK_succ hr
          try dsimp only at hr
          unfold syllogistlaw_ChoiceAnds_b41 at hr
          try dsimp only at hr
          have hltt_40 := fr_bnd hnt_40
          refine Tr.seq ?_
          refine Tr.region_f (fun _ => false) ?_
          refine W.q rfl rfl rfl rfl (by decide) (Yd.lss rfl (.t rfl) (.t rfl)) ?_
          refine W.end ?_
          refine NX.sub (env' := [(0, _), (11, _), (12, _), (13, _), (15, _), (68, _), (69, _), (70, _), (71, _)]) ⟨rfl, rfl, rfl, rfl, rfl, rfl, rfl, rfl, rfl, trivial⟩ ?_
          refine NX.then ?_
          refine Tr.seq ?_
          refine Tr.cond (.t rfl) (fun hb => ?_) (fun hb => ?_)
          rotate_left
          · exact absurd (hb.symm.trans (fr_go hnt_40)) (by decide)
          ·
            refine Tr.skip' ?_
            refine NX.then ?_
            refine Tr.seq ?_
            refine Tr.block ?_
            refine Tr.seq ?_
            obtain ⟨y44, hy45, hr⟩ := bind_some hr
            refine Tr.region_f (fun _ => false) ?_
            refine W.q rfl rfl rfl rfl (by decide) (Yd.mv rfl (.t rfl)) ?_
            refine W.q rfl rfl rfl rfl (by decide) (Yd.idxT (pos := 0) rfl hy45 rfl Try.underlying27 SZ4 (.t rfl) (.t rfl)) ?_
            refine W.q rfl rfl rfl rfl (by decide) (Yd.ldT (enc := encB) (n := 1) (pos := 0) (fun _ => rfl) rfl hy45 rfl rfl ON4 (.t rfl)) ?_
            refine W.q rfl rfl rfl rfl (by decide) (Yd.as rfl (.t rfl)) ?_
            refine W.q rfl rfl rfl rfl (by decide) (Yd.as rfl (.t rfl)) ?_
            refine W.end ?_
            refine NX.sub (env' := [(0, _), (11, _), (12, _), (13, _), (15, _), (68, _), (69, _), (70, _), (16, _), (17, _)]) ⟨rfl, rfl, rfl, rfl, rfl, rfl, rfl, rfl, rfl, rfl, trivial⟩ ?_
            refine NX.then ?_
            obtain ⟨y46, hy47, hr⟩ := bind_some hr
            refine Tr.region_f (fun i => Nat.beq i 10) ?_
            refine W.q rfl rfl rfl rfl (by decide) (Yd.mv rfl (.t rfl)) ?_
            refine W.q rfl rfl rfl rfl (by decide) (Yd.mv rfl (.t rfl)) ?_
            refine W.q rfl rfl rfl rfl (by decide) (Yd.mv rfl (.t rfl)) ?_
            refine W.q rfl rfl rfl rfl (by decide) (Yd.mv rfl (.t rfl)) ?_
            refine W.q rfl rfl rfl rfl (by decide) (Yd.idxT (pos := 1) rfl hy47 rfl Try.underlying27 SZ4 (.t rfl) (.t rfl)) ?_
            refine W.q rfl rfl rfl rfl (by decide) (Yd.ldT (enc := encB) (n := 1) (pos := 1) (fun _ => rfl) rfl hy47 rfl rfl ON4 (.t rfl)) ?_
            refine W.q rfl rfl rfl rfl (by decide) (Yd.mv rfl (.t rfl)) ?_
            refine W.g rfl rfl rfl rfl rfl (.t rfl _) rfl (by decide) (fun hG => Yd.mv rfl (.t rfl)) ?_
            refine W.q rfl rfl rfl rfl (by decide) (Yd.and rfl (.t rfl) .c rfl rfl) ?_
            refine W.q rfl rfl rfl rfl (by decide) (Yd.idxT (pos := 1) rfl hy47 rfl Try.underlying27 SZ4 (.t rfl) (.t rfl)) ?_
            refine W.s rfl rfl rfl rfl (Ef.stT (enc := encB) (n := 1) (pos := 1) (y := (y46 && y44)) (us := [_]) (fun _ => rfl) rfl hy47 rfl (.t rfl) (.t rfl) SZ4 rfl rfl rfl (by decide)) ?_
            rintro _ _ ⟨rfl, rfl⟩
            refine ⟨.inl rfl, ?_⟩
            refine W.cast (m' := m) (l' := hownT 4 1 encB v19 _ :: hownT 4 1 encB v26 _ :: hownT 47 3 Branch.enc v3 _ :: l) rfl rfl ?_
            refine W.end ?_
            refine NX.sub (env' := [(0, _), (11, _), (12, _), (13, _), (15, _), (68, _), (69, _), (70, _)]) ⟨rfl, rfl, rfl, rfl, rfl, rfl, rfl, rfl, trivial⟩ ?_
            refine NX.block ?_
            refine NX.then ?_
            refine Tr.region_f (fun _ => false) ?_
            refine W.q rfl rfl rfl rfl (by decide) (Yd.add rfl (.t rfl) .c) ?_
            refine W.q rfl rfl rfl rfl (by decide) (Yd.mv rfl (.t rfl)) ?_
            refine W.end ?_
            refine NX.sub (env' := [(0, _), (11, _), (12, _), (13, _), (15, _), (68, _), (69, _), (70, _)]) ⟨rfl, rfl, rfl, rfl, rfl, rfl, rfl, rfl, trivial⟩ ?_
            refine NX.sub (env' := [(0, _), (11, _), (12, _), (13, _), (15, _), (68, _), (69, _), (70, _)]) ⟨rfl, rfl, rfl, rfl, rfl, rfl, rfl, rfl, trivial⟩ ?_
            have hw := w64_id (n := t_40 + 1) (by omega) (by omega)
            exact NX.again n43 (t_40 + 1, (l25.set t_40.toNat ((y46 && y44)))) (Nat.lt_succ_self _) ⟨_, (by rw [hw] <;> rfl), rfl, (fr_dec hnt_40), (by omega), ((hnx42 _).symm.trans hr)⟩
    refine Tr.cond (.t rfl) (fun hb => ?_) (fun hb => ?_)
    · have hr := cond_t hb hr
      obtain ⟨r48, hr49, hr⟩ := bind_some hr
      refine Tr.region_f (fun _ => false) ?_
      refine W.q rfl rfl rfl rfl (by decide) (Yd.mv rfl (.t rfl)) ?_
      refine W.q rfl rfl rfl rfl (by decide) (Yd.mv rfl (.t rfl)) ?_
      refine W.q rfl rfl rfl rfl (by decide) (Yd.mv rfl (.t rfl)) ?_
      refine W.q rfl rfl rfl rfl (by decide) (Yd.call (v := .int .i64 r48) rfl Try.func5 rfl rfl (.cons (.t rfl) (.cons (.t rfl) (.cons (.t rfl) .nil))) (fun x' hx w hw => syllogistlaw_treeCode_ok w0 x'.m x'.l n_0 _ _ (hb_3.mono hx.1) z_4 _ hr49 w hw)) ?_
      refine W.q rfl rfl rfl rfl (by decide) (Yd.as rfl (.t rfl)) ?_
      refine W.end ?_
      refine NX.sub (env' := [(0, _), (1, _), (2, _), (3, _), (4, _), (11, _), (12, _), (13, _), (14, _)]) ⟨rfl, rfl, rfl, rfl, rfl, rfl, rfl, rfl, rfl, trivial⟩ ?_
      refine NX.sub (env' := [(0, _), (1, _), (2, _), (3, _), (4, _), (11, _), (12, _), (13, _), (14, _)]) ⟨rfl, rfl, rfl, rfl, rfl, rfl, rfl, rfl, rfl, trivial⟩ ?_
      exact hk12 _ _ ⟨_, rfl, rfl, hr⟩
    · have hr := cond_f hb hr
      refine Tr.skip' ?_
      refine NX.sub (env' := [(0, _), (1, _), (2, _), (3, _), (4, _), (11, _), (12, _), (13, _), (14, _)]) ⟨rfl, rfl, rfl, rfl, rfl, rfl, rfl, rfl, rfl, trivial⟩ ?_
      exact hk12 _ _ ⟨_, rfl, rfl, hr⟩
  refine Tr.cond (.t rfl) (fun hb => ?_) (fun hb => ?_)
  · have hr := cond_t hb hr
    refine Tr.region_f (fun _ => false) ?_
    refine W.q rfl rfl rfl rfl (by decide) (Yd.as rfl .c) ?_
    refine W.end ?_
    refine NX.sub (env' := [(0, _), (1, _), (2, _), (3, _), (4, _), (11, _), (12, _), (13, _), (14, _)]) ⟨rfl, rfl, rfl, rfl, rfl, rfl, rfl, rfl, rfl, trivial⟩ ?_
    refine NX.sub (env' := [(0, _), (1, _), (2, _), (3, _), (4, _), (11, _), (12, _), (13, _), (14, _)]) ⟨rfl, rfl, rfl, rfl, rfl, rfl, rfl, rfl, rfl, trivial⟩ ?_
    exact hk9 _ _ ⟨_, rfl, rfl, hr⟩
  · have hr := cond_f hb hr
    refine Tr.skip' ?_
    refine NX.sub (env' := [(0, _), (1, _), (2, _), (3, _), (4, _), (11, _), (12, _), (13, _), (14, _)]) ⟨rfl, rfl, rfl, rfl, rfl, rfl, rfl, rfl, rfl, trivial⟩ ?_
    exact hk9 _ _ ⟨_, rfl, rfl, hr⟩
end Go.Proofs.Ythdbfajfomgbkaa.Sy
