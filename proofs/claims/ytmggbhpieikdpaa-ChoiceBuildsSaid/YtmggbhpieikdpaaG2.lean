/- Functions of the program as plain functions, and that the translation computes them; the conditions stand in each theorem. Printed by an own program. -/
import Derived.Test.YtmggbhpieikdpaaSyZ
import Derived.Test.YtmggbhpieikdpaaSyMp
import Derived.Test.YtmggbhpieikdpaaT
import Derived.Test.YtmggbhpieikdpaaProg
namespace Go.Proofs.Ytmggbhpieikdpaa.Sy
open Go
set_option linter.unusedVariables false
structure T67 where
  l : List Branch
  known : List (Branch × Int)
abbrev ek71 (x : Branch) : Value := .agg #[.int .i64 x.var, .int .i64 x.low, .int .i64 x.high]
theorem GU71 : Try.prog.eqGuardType Try.prog.depth 71 = false := by kernel_rfl
theorem ST71 : Try.prog.stoodInHeld 71 = false := by kernel_rfl
theorem SZ3 : (Try.prog.info? 3).map (·.size) = some 1 := by kernel_rfl
theorem ON3 : one Try.prog 3 = true := by kernel_rfl
theorem US3 : (Try.prog.underlying 3).isSome = true := by kernel_rfl
theorem SZ71 : (Try.prog.info? 71).map (·.size) = some 3 := by kernel_rfl
theorem ON71 : one Try.prog 71 = false := by kernel_rfl
theorem US71 : (Try.prog.underlying 71).isSome = true := by kernel_rfl
theorem EQ71 (w : World) (x0 : Int) (x1 : Int) (x2 : Int) (y0 : Int) (y1 : Int) (y2 : Int) : (binOp .eql 71 (.agg #[.int .i64 x0, .int .i64 x1, .int .i64 x2]) (.agg #[.int .i64 y0, .int .i64 y1, .int .i64 y2])).run Try.prog w = .ok (.bool ((x0 == y0) && ((x1 == y1) && ((x2 == y2) && true)))) w :=
  eq_s w Try.underlying71 ST71 (fun d => (eqf_cons w rfl (part_one w ON3 rfl) (part_one w ON3 rfl) (run_equalIn_int w _ _ _ _ _ _ Try.underlying3) (eqf_cons w rfl (part_one w ON3 rfl) (part_one w ON3 rfl) (run_equalIn_int w _ _ _ _ _ _ Try.underlying3) (eqf_cons w rfl (part_one w ON3 rfl) (part_one w ON3 rfl) (run_equalIn_int w _ _ _ _ _ _ Try.underlying3) (eqf_nil w)))))
theorem EM71 (w : World) (x0 : Int) (x1 : Int) (x2 : Int) (y0 : Int) (y1 : Int) (y2 : Int) : (Op.equal 71 (.agg #[.int .i64 x0, .int .i64 x1, .int .i64 x2]) (.agg #[.int .i64 y0, .int .i64 y1, .int .i64 y2])).run Try.prog w = .ok (((x0 == y0) && ((x1 == y1) && ((x2 == y2) && true)))) w :=
  eq_in w (d := 9999) Try.underlying71 ST71 ((eqf_cons w rfl (part_one w ON3 rfl) (part_one w ON3 rfl) (run_equalIn_int w _ _ _ _ _ _ Try.underlying3) (eqf_cons w rfl (part_one w ON3 rfl) (part_one w ON3 rfl) (run_equalIn_int w _ _ _ _ _ _ Try.underlying3) (eqf_cons w rfl (part_one w ON3 rfl) (part_one w ON3 rfl) (run_equalIn_int w _ _ _ _ _ _ Try.underlying3) (eqf_nil w)))))
instance : DecidableEq Branch := fun a b => decidable_of_decidable_of_iff (p := (a.var = b.var ∧ a.low = b.low ∧ a.high = b.high)) ⟨fun h => by cases a; cases b; simp_all, fun h => by subst h; simp⟩
theorem MK71 : MK Try.prog 71 ek71 :=
  MK.struct Try.underlying71 (fun w em x => by
      rw [show (10000 : Nat) = 9998 + 1 + 1 from rfl, Instr.checkKey]
      have hp3 : ∀ (cs : Array Value) (off : Nat) (v : Value), cs[off]? = some v → (part 3 cs off).run Try.prog w = .ok v w := fun cs off v h => part_one w ON3 h
      have hk3 : ∀ k : Int, (Instr.checkKey em (9998 + 1) 3 (.int .i64 k)).run Try.prog w = .ok () w := fun k => by rw [Instr.checkKey]; simp [run_underlying Try.underlying3]
      simp [run_underlying Try.underlying71, hp3, hk3])
    (fun x => by simp [Instr.sameBits]) (fun w x y => by
      rw [EM71 w]
      congr 1
      cases x; cases y
      rw [Bool.eq_iff_iff]; simp)
abbrev ev3 (n : Int) : Value := .int .i64 n
theorem SZ65 : (Try.prog.info? 65).map (·.size) = some 1 := by kernel_rfl
theorem ON65 : one Try.prog 65 = true := by kernel_rfl
theorem IF3 : (Try.prog.info? 3).map (fun i => (i.zero, i.size, i.bytes)) = some (some (.int .i64 0), 1, 8) := by kernel_rfl
theorem SZ22 : (Try.prog.info? 22).map (·.size) = some 1 := by kernel_rfl
theorem ON22 : one Try.prog 22 = true := by kernel_rfl
theorem IF71 : (Try.prog.info? 71).map (fun i => (i.zero, i.size, i.bytes)) = some (some (.agg #[.int .i64 0, .int .i64 0, .int .i64 0]), 3, 24) := by kernel_rfl
theorem SZ4 : (Try.prog.info? 4).map (·.size) = some 1 := by kernel_rfl
theorem ON4 : one Try.prog 4 = true := by kernel_rfl
theorem IF4 : (Try.prog.info? 4).map (fun i => (i.zero, i.size, i.bytes)) = some (some (.bool false), 1, 1) := by kernel_rfl
theorem ZI71 : (Try.prog.info? 71).bind (·.zero) = some (.agg #[.int .i64 0, .int .i64 0, .int .i64 0]) := by kernel_rfl
theorem PL71 : plS Try.prog 71 = some [(0, 1), (1, 1), (2, 1)] := by kernel_rfl
theorem ZI67 : (Try.prog.info? 67).bind (·.zero) = some (.agg #[.slice none 0 0, .map none]) := by kernel_rfl
theorem PL67 : plS Try.prog 67 = some [(0, 1), (1, 1)] := by kernel_rfl
theorem ZR71 : (Try.prog.info? 71).bind (·.zero) = some (.agg #[.int .i64 0, .int .i64 0, .int .i64 0]) := by kernel_rfl
theorem FM : Try.prog.follows .mixedOrders = true := by kernel_rfl

def truth_Check (n_0 : Int) (f_1 : List Bool) : Option (Int) :=
  (bif ((decide (n_0 < (0 : Int))) || (decide (n_0 > (4 : Int)))) then
  some ((1 : Int))
  else
  bif decide (0 ≤ n_0) then
  (bif ((f_1.length : Int) != (ishl ((1 : Int)) n_0.toNat)) then
  some ((3 : Int))
  else
  some ((0 : Int))) else none)

set_option maxRecDepth 100000 in
set_option maxHeartbeats 4000000 in
theorem truth_Check_ok (w0 : World) (m : Snap) (l : List HI) (n_0 : Int) (uf_1 : Value) (f_1 : List Bool) (hf_1 : RS rB m uf_1 f_1) (r : Int) (hr : truth_Check n_0 f_1 = some r) (w : World) (hc : cX w0 ⟨m, l⟩ w) :
    Calls Try.prog 39 [.int .i64 n_0, uf_1].toArray w fun e w' => e = .returned (.int .i64 r) ∧ cX w0 ⟨m, l⟩ w' := by
  unfold truth_Check at hr
  refine calls_of_Tr (N := 16) Try.func39 rfl hc rfl (Nat.le_of_ble_eq_true rfl) ?_
  refine Tr.seq ?_
  refine Tr.region_f (fun _ => false) ?_
  refine W.q rfl rfl rfl rfl (by decide) (Yd.as rfl .c) ?_
  refine W.end ?_
  refine NX.sub (env' := [(0, _), (1, _)]) ⟨rfl, rfl, trivial⟩ ?_
  refine NX.then ?_
  refine Tr.seq ?_
  refine Tr.seq ?_
  refine Tr.region_f (fun _ => false) ?_
  refine W.q rfl rfl rfl rfl (by decide) (Yd.mv rfl (.t rfl)) ?_
  refine W.q rfl rfl rfl rfl (by decide) (Yd.lss rfl (.t rfl) .c) ?_
  refine W.q rfl rfl rfl rfl (by decide) (Yd.mv rfl (.t rfl)) ?_
  refine W.g rfl rfl rfl rfl rfl (.t rfl _) rfl (by decide) (fun hG => Yd.mv rfl (.t rfl)) ?_
  refine W.g rfl rfl rfl rfl rfl (.t rfl _) rfl (by decide) (fun hG => Yd.gtr rfl (.g rfl hG) .c) ?_
  refine W.q rfl rfl rfl rfl (by decide) (Yd.or rfl (.t rfl) .c rfl rfl) ?_
  refine W.end ?_
  refine NX.sub (env' := [(0, _), (1, _), (10, _)]) ⟨rfl, rfl, rfl, trivial⟩ ?_
  refine NX.then ?_
  refine Tr.cond (.t rfl) (fun hb => ?_) (fun hb => ?_)
  · have hr := cond_t hb hr
    refine Tr.seq ?_
    refine Tr.region_f (fun _ => false) ?_
    refine W.q rfl rfl rfl rfl (by decide) (Yd.as rfl .c) ?_
    refine W.end ?_
    refine NX.sub (env' := [(4, _)]) ⟨rfl, trivial⟩ ?_
    refine NX.then ?_
    refine Tr.ret' (RT.then ?_)
    refine res1 rfl rfl ?_
    intro w hc
    cases hr
    exact ⟨rfl, hc⟩
  · have hr := cond_f hb hr
    refine Tr.skip' ?_
    refine NX.then ?_
    refine Tr.seq ?_
    refine Tr.seq ?_
    obtain ⟨hq1, hr⟩ := guard_some hr; replace hq1 := of_decide_eq_true hq1
    refine Tr.region_f (fun _ => false) ?_
    refine W.q rfl rfl rfl rfl (by decide) (Yd.mv rfl (.t rfl)) ?_
    refine W.q rfl rfl rfl rfl (by decide) (Yd.lenR hf_1 rfl Try.underlying23 (.t rfl)) ?_
    refine W.q rfl rfl rfl rfl (by decide) (Yd.mv rfl (.t rfl)) ?_
    refine W.q rfl rfl rfl rfl (by decide) (Yd.shlI rfl .c (.t rfl) hq1) ?_
    refine W.q rfl rfl rfl rfl (by decide) (Yd.neq rfl (.t rfl) (.t rfl)) ?_
    refine W.end ?_
    refine NX.sub (env' := [(15, _)]) ⟨rfl, trivial⟩ ?_
    refine NX.then ?_
    refine Tr.cond (.t rfl) (fun hb => ?_) (fun hb => ?_)
    · have hr := cond_t hb hr
      refine Tr.seq ?_
      refine Tr.region_f (fun _ => false) ?_
      refine W.q rfl rfl rfl rfl (by decide) (Yd.as rfl .c) ?_
      refine W.end ?_
      refine NX.sub (env' := [(4, _)]) ⟨rfl, trivial⟩ ?_
      refine NX.then ?_
      refine Tr.ret' (RT.then ?_)
      refine res1 rfl rfl ?_
      intro w hc
      cases hr
      exact ⟨rfl, hc⟩
    · have hr := cond_f hb hr
      refine Tr.skip' ?_
      refine NX.then ?_
      refine Tr.seq ?_
      refine Tr.region_f (fun _ => false) ?_
      refine W.q rfl rfl rfl rfl (by decide) (Yd.as rfl .c) ?_
      refine W.end ?_
      refine NX.sub (env' := [(4, _)]) ⟨rfl, trivial⟩ ?_
      refine NX.then ?_
      refine Tr.ret' ?_
      refine res1 rfl rfl ?_
      intro w hc
      cases hr
      exact ⟨rfl, hc⟩

def choice_maker_put (m_0 : T67) (b_1 : Branch) : Option (Int × T67) :=
  (bif (b_1.low == b_1.high) then
  some ((b_1.low, ({ l := m_0.l, known := m_0.known } : T67)))
  else
  (bif (!(mget m_0.known (({ var := b_1.var, low := b_1.low, high := b_1.high } : Branch))).isSome) then
  bif decide (m_0.l.length + (([({ var := b_1.var, low := b_1.low, high := b_1.high } : Branch)] : List Branch)).length ≤ 5864062014805) then
  some (((w64 ((((m_0.l ++ ([({ var := b_1.var, low := b_1.low, high := b_1.high } : Branch)] : List Branch))).length : Int) + (1 : Int))), ({ l := (m_0.l ++ ([({ var := b_1.var, low := b_1.low, high := b_1.high } : Branch)] : List Branch)), known := (mput m_0.known (({ var := b_1.var, low := b_1.low, high := b_1.high } : Branch)) ((w64 ((((m_0.l ++ ([({ var := b_1.var, low := b_1.low, high := b_1.high } : Branch)] : List Branch))).length : Int) + (1 : Int))))) } : T67))) else none
  else
  some ((((mget m_0.known (({ var := b_1.var, low := b_1.low, high := b_1.high } : Branch))).getD (0 : Int)), ({ l := m_0.l, known := m_0.known } : T67)))))

set_option maxRecDepth 100000 in
set_option maxHeartbeats 4000000 in
theorem choice_maker_put_ok (w0 : World) (m : Snap) (l : List HI) (bm_0 : Nat) (m_0 : T67) (um_0_0 : Value) (mbm_0_1 : Nat) (b_1 : Branch) (r : Int × T67) (hr : choice_maker_put m_0 b_1 = some r) (w : World) (hc : cX w0 ⟨m, hcells bm_0 [um_0_0, (.map (some mbm_0_1))] 67 :: hownT 71 3 Branch.enc um_0_0 m_0.l :: hmap mbm_0_1 ek71 ev3 m_0.known :: l⟩ w) :
    Calls Try.prog 59 [bp bm_0 0, .agg #[.int .i64 b_1.var, .int .i64 b_1.low, .int .i64 b_1.high]].toArray w fun e w' => ∃ q0 : Value, e = .returned (.int .i64 r.1) ∧ cX w0 ⟨m, hcells bm_0 [q0, (.map (some mbm_0_1))] 67 :: hownT 71 3 Branch.enc q0 r.2.l :: hmap mbm_0_1 ek71 ev3 r.2.known :: l⟩ w' := by
  unfold choice_maker_put at hr
  refine calls_of_Tr (N := 48) Try.func59 rfl hc rfl (Nat.le_of_ble_eq_true rfl) ?_
  refine Tr.seq ?_
  refine Tr.region_f (fun i => Nat.beq i 0) ?_
  refine W.e rfl rfl rfl rfl (by decide) (Ef.bx rfl (.t rfl) rfl) ?_
  rintro _ _ ⟨b1, rfl, rfl⟩
  refine ⟨.inl rfl, ?_⟩
  refine W.cast (m' := m) (l' := hcells b1 [_, _, _] 71 :: hcells bm_0 [_, _] 67 :: hownT 71 3 Branch.enc um_0_0 _ :: hmap mbm_0_1 ek71 ev3 _ :: l) rfl rfl ?_
  refine W.q rfl rfl rfl rfl (by decide) (Yd.as rfl .c) ?_
  refine W.end ?_
  refine NX.sub (env' := [(0, _), (3, _)]) ⟨rfl, rfl, trivial⟩ ?_
  refine NX.then ?_
  refine Tr.seq ?_
  refine Tr.seq ?_
  refine Tr.region_f (fun _ => false) ?_
  refine W.q rfl rfl rfl rfl (by decide) (Yd.fldB rfl Try.underlying71 rfl SZ3 rfl (.t rfl)) ?_
  refine W.q rfl rfl rfl rfl (by decide) (Yd.ldB (pos := 0) rfl rfl rfl ON3 (.t rfl)) ?_
  refine W.q rfl rfl rfl rfl (by decide) (Yd.fldB rfl Try.underlying71 rfl SZ3 rfl (.t rfl)) ?_
  refine W.q rfl rfl rfl rfl (by decide) (Yd.ldB (pos := 0) rfl rfl rfl ON3 (.t rfl)) ?_
  refine W.q rfl rfl rfl rfl (by decide) (Yd.eql rfl (.t rfl) (.t rfl)) ?_
  refine W.end ?_
  refine NX.sub (env' := [(0, _), (3, _), (11, _)]) ⟨rfl, rfl, rfl, trivial⟩ ?_
  refine NX.then ?_
  refine Tr.cond (.t rfl) (fun hb => ?_) (fun hb => ?_)
  · have hr := cond_t hb hr
    refine Tr.seq ?_
    refine Tr.region_f (fun _ => false) ?_
    refine W.q rfl rfl rfl rfl (by decide) (Yd.fldB rfl Try.underlying71 rfl SZ3 rfl (.t rfl)) ?_
    refine W.q rfl rfl rfl rfl (by decide) (Yd.ldB (pos := 0) rfl rfl rfl ON3 (.t rfl)) ?_
    refine W.q rfl rfl rfl rfl (by decide) (Yd.as rfl (.t rfl)) ?_
    refine W.end ?_
    refine NX.sub (env' := [(4, _)]) ⟨rfl, trivial⟩ ?_
    refine NX.drop (l' := hcells bm_0 [_, _] 67 :: hownT 71 3 Branch.enc um_0_0 _ :: hmap mbm_0_1 ek71 ev3 _ :: l) (.cons _ (.cons_cons _ (.cons_cons _ (.cons_cons _ (.refl _))))) ?_
    refine NX.then ?_
    refine Tr.ret' (RT.then ?_)
    refine res1 rfl rfl ?_
    intro w hc
    cases hr
    exact ⟨_, rfl, hc⟩
  · have hr := cond_f hb hr
    refine Tr.skip' ?_
    refine NX.then ?_
    refine Tr.seq ?_
    refine Tr.region_x (fun _ => false) (fun _ => false) (Ord.of [0, 1, 2, 3, 4, 5, 6, 7, 8, 9, 10]) FM (by kernel_rfl) ?_
    refine W.q rfl rfl rfl rfl (by decide) (Yd.mv rfl (.t rfl)) ?_
    refine W.q rfl rfl rfl rfl (by decide) (Yd.nilc rfl (.t rfl)) ?_
    refine W.q rfl rfl rfl rfl (by decide) (Yd.fldB rfl Try.underlying67 rfl SZ65 rfl (.t rfl)) ?_
    refine W.q rfl rfl rfl rfl (by decide) (Yd.ldB (pos := 1) rfl rfl rfl ON65 (.t rfl)) ?_
    refine W.q rfl rfl rfl rfl (by decide) (Yd.ldBs (pos := 0) (us := [_, _, _]) rfl rfl rfl rfl ON71 US71 SZ71 (.t rfl)) ?_
    refine W.q rfl rfl rfl rfl (by decide) (Yd.mlook2E MK71 (pos := 3) (k := ({ var := b_1.var, low := b_1.low, high := b_1.high } : Branch)) (d := (0 : Int)) rfl rfl Try.underlying65 IF3 (.t rfl) (.t rfl)) ?_
    refine W.q rfl rfl rfl rfl (by decide) (Yd.mv rfl (.t rfl)) ?_
    refine W.q rfl rfl rfl rfl (by decide) (Yd.ext rfl (.t rfl) rfl) ?_
    refine W.q rfl rfl rfl rfl (by decide) (Yd.ext rfl (.t rfl) rfl) ?_
    refine W.q rfl rfl rfl rfl (by decide) (Yd.as rfl (.t rfl)) ?_
    refine W.q rfl rfl rfl rfl (by decide) (Yd.as rfl (.t rfl)) ?_
    refine W.end ?_
    refine NX.sub (env' := [(0, _), (3, _), (5, _), (6, _)]) ⟨rfl, rfl, rfl, rfl, trivial⟩ ?_
    refine NX.then ?_
    refine Tr.seq ?_
    refine Tr.seq ?_
    refine Tr.region_f (fun _ => false) ?_
    refine W.q rfl rfl rfl rfl (by decide) (Yd.mv rfl (.t rfl)) ?_
    refine W.q rfl rfl rfl rfl (by decide) (Yd.not rfl (.t rfl)) ?_
    refine W.end ?_
    refine NX.sub (env' := [(0, _), (3, _), (5, _), (24, _)]) ⟨rfl, rfl, rfl, rfl, trivial⟩ ?_
    refine NX.then ?_
    refine Tr.cond (.t rfl) (fun hb => ?_) (fun hb => ?_)
    · have hr := cond_t hb hr
      refine Tr.seq ?_
      obtain ⟨hq6, hr⟩ := guard_some hr; replace hq6 := of_decide_eq_true hq6
      refine Tr.region_x (fun i => Nat.beq i 6 || Nat.beq i 7 || Nat.beq i 10) (fun i => Nat.beq i 0 || Nat.beq i 7 || Nat.beq i 10) (Ord.of [0, 1, 2, 3, 4, 5, 6, 7, 8, 9, 10]) FM (by kernel_rfl) ?_
      refine W.p rfl rfl rfl rfl (by decide) (fun _ => Yd.mv rfl (.t rfl)) ?_
      refine W.q rfl rfl rfl rfl (by decide) (Yd.mv rfl (.t rfl)) ?_
      refine W.q rfl rfl rfl rfl (by decide) (Yd.nilc rfl (.t rfl)) ?_
      refine W.q rfl rfl rfl rfl (by decide) (Yd.fldB rfl Try.underlying67 rfl SZ22 rfl (.t rfl)) ?_
      refine W.q rfl rfl rfl rfl (by decide) (Yd.ldB (pos := 1) rfl rfl rfl ON22 (.t rfl)) ?_
      refine W.q rfl rfl rfl rfl (by decide) (Yd.ldBs (pos := 0) (us := [_, _, _]) rfl rfl rfl rfl ON71 US71 SZ71 (.t rfl)) ?_
      refine W.e rfl rfl rfl rfl (by decide) (Ef.bsT (enc := Branch.enc) (vs := [_]) (ys := [({ var := b_1.var, low := b_1.low, high := b_1.high } : Branch)]) (fun _ => rfl) IF71 rfl Try.underlying22 (by decide) rfl (.cons (.t rfl) .nil) rfl rfl (by decide)) ?_
      rintro v3 _ rfl
      refine ⟨.inr ⟨.refl _, [_], rfl⟩, ?_⟩
      refine W.cast (m' := m) (l' := hownT 71 3 Branch.enc v3 _ :: hcells b1 [_, _, _] 71 :: hcells bm_0 [_, _] 67 :: hownT 71 3 Branch.enc um_0_0 _ :: hmap mbm_0_1 ek71 ev3 _ :: l) rfl rfl ?_
      refine W.e rfl rfl rfl rfl (by decide) (Ef.apI (pos := 3) (enc := Branch.enc) (xs := m_0.l) (ys := ([({ var := b_1.var, low := b_1.low, high := b_1.high } : Branch)] : List Branch)) (fun _ => rfl) IF71 rfl rfl Try.underlying22 rfl (by decide) (.t rfl) (.t rfl) (Src.own (pos := 0) rfl) (fun _ => rfl) (by omega) (by omega)) ?_
      rintro v5 _ rfl
      refine ⟨.inl rfl, ?_⟩
      refine W.cast (m' := m) (l' := hownT 71 3 Branch.enc v3 _ :: hcells b1 [_, _, _] 71 :: hcells bm_0 [_, _] 67 :: hownT 71 3 Branch.enc v5 _ :: hmap mbm_0_1 ek71 ev3 _ :: l) rfl rfl ?_
      refine W.q rfl rfl rfl rfl (by decide) (Yd.nilc rfl (.t rfl)) ?_
      refine W.q rfl rfl rfl rfl (by decide) (Yd.fldB rfl Try.underlying67 rfl SZ22 rfl (.t rfl)) ?_
      refine W.s rfl rfl rfl rfl (Ef.stBo (pos := 2) (pos2 := 3) (cs' := [_, _]) rfl rfl rfl (.t rfl) (.t rfl) SZ22 (Nat.le_of_ble_eq_true rfl) rfl) ?_
      rintro _ _ ⟨rfl, rfl⟩
      refine ⟨.inl rfl, ?_⟩
      refine W.cast (m' := m) (l' := hownT 71 3 Branch.enc v3 _ :: hcells b1 [_, _, _] 71 :: hcells bm_0 [_, _] 67 :: hownT 71 3 Branch.enc v5 _ :: hmap mbm_0_1 ek71 ev3 _ :: l) rfl rfl ?_
      refine W.end ?_
      refine NX.sub (env' := [(0, _), (3, _)]) ⟨rfl, rfl, trivial⟩ ?_
      refine NX.drop (l' := hcells b1 [_, _, _] 71 :: hcells bm_0 [_, _] 67 :: hownT 71 3 Branch.enc v5 _ :: hmap mbm_0_1 ek71 ev3 _ :: l) (.cons _ (.cons_cons _ (.cons_cons _ (.cons_cons _ (.cons_cons _ (.refl _)))))) ?_
      refine NX.then ?_
      refine Tr.seq ?_
      refine Tr.region_f (fun _ => false) ?_
      refine W.q rfl rfl rfl rfl (by decide) (Yd.mv rfl (.t rfl)) ?_
      refine W.q rfl rfl rfl rfl (by decide) (Yd.nilc rfl (.t rfl)) ?_
      refine W.q rfl rfl rfl rfl (by decide) (Yd.fldB rfl Try.underlying67 rfl SZ22 rfl (.t rfl)) ?_
      refine W.q rfl rfl rfl rfl (by decide) (Yd.ldB (pos := 1) rfl rfl rfl ON22 (.t rfl)) ?_
      refine W.q rfl rfl rfl rfl (by decide) (Yd.lenO (p := 2) rfl rfl Try.underlying22 (.t rfl)) ?_
      refine W.q rfl rfl rfl rfl (by decide) (Yd.add rfl (.t rfl) .c) ?_
      refine W.q rfl rfl rfl rfl (by decide) (Yd.as rfl (.t rfl)) ?_
      refine W.end ?_
      refine NX.sub (env' := [(0, _), (3, _), (5, _)]) ⟨rfl, rfl, rfl, trivial⟩ ?_
      refine NX.then ?_
      refine Tr.region_x (fun i => Nat.beq i 6) (fun i => Nat.beq i 6) (Ord.of [0, 1, 2, 3, 4, 5, 6]) FM (by kernel_rfl) ?_
      refine W.q rfl rfl rfl rfl (by decide) (Yd.mv rfl (.t rfl)) ?_
      refine W.q rfl rfl rfl rfl (by decide) (Yd.nilc rfl (.t rfl)) ?_
      refine W.q rfl rfl rfl rfl (by decide) (Yd.fldB rfl Try.underlying67 rfl SZ65 rfl (.t rfl)) ?_
      refine W.q rfl rfl rfl rfl (by decide) (Yd.ldB (pos := 1) rfl rfl rfl ON65 (.t rfl)) ?_
      refine W.q rfl rfl rfl rfl (by decide) (Yd.ldBs (pos := 0) (us := [_, _, _]) rfl rfl rfl rfl ON71 US71 SZ71 (.t rfl)) ?_
      refine W.q rfl rfl rfl rfl (by decide) (Yd.mv rfl (.t rfl)) ?_
      refine W.s rfl rfl rfl rfl (Ef.mset MK71 (pos := 3) (k := ({ var := b_1.var, low := b_1.low, high := b_1.high } : Branch)) (v := (w64 ((((m_0.l ++ ([({ var := b_1.var, low := b_1.low, high := b_1.high } : Branch)] : List Branch))).length : Int) + (1 : Int)))) rfl rfl Try.underlying65 (.t rfl) (.t rfl) (.t rfl)) ?_
      rintro _ _ ⟨rfl, rfl⟩
      refine ⟨.inl rfl, ?_⟩
      refine W.cast (m' := m) (l' := hcells b1 [_, _, _] 71 :: hcells bm_0 [_, _] 67 :: hownT 71 3 Branch.enc v5 _ :: hmap mbm_0_1 ek71 ev3 _ :: l) rfl rfl ?_
      refine W.end ?_
      refine NX.sub (env' := [(5, _)]) ⟨rfl, trivial⟩ ?_
      refine NX.drop (l' := hcells bm_0 [_, _] 67 :: hownT 71 3 Branch.enc v5 _ :: hmap mbm_0_1 ek71 ev3 _ :: l) (.cons _ (.cons_cons _ (.cons_cons _ (.cons_cons _ (.refl _))))) ?_
      refine NX.then ?_
      refine Tr.seq ?_
      refine Tr.region_f (fun _ => false) ?_
      refine W.q rfl rfl rfl rfl (by decide) (Yd.mv rfl (.t rfl)) ?_
      refine W.q rfl rfl rfl rfl (by decide) (Yd.as rfl (.t rfl)) ?_
      refine W.end ?_
      refine NX.sub (env' := [(4, _)]) ⟨rfl, trivial⟩ ?_
      refine NX.then ?_
      refine Tr.ret' ?_
      refine res1 rfl rfl ?_
      intro w hc
      cases hr
      exact ⟨_, rfl, hc⟩
    · have hr := cond_f hb hr
      refine Tr.skip' ?_
      refine NX.then ?_
      refine Tr.seq ?_
      refine Tr.region_f (fun _ => false) ?_
      refine W.q rfl rfl rfl rfl (by decide) (Yd.mv rfl (.t rfl)) ?_
      refine W.q rfl rfl rfl rfl (by decide) (Yd.as rfl (.t rfl)) ?_
      refine W.end ?_
      refine NX.sub (env' := [(4, _)]) ⟨rfl, trivial⟩ ?_
      refine NX.drop (l' := hcells bm_0 [_, _] 67 :: hownT 71 3 Branch.enc um_0_0 _ :: hmap mbm_0_1 ek71 ev3 _ :: l) (.cons _ (.cons_cons _ (.cons_cons _ (.cons_cons _ (.refl _))))) ?_
      refine NX.then ?_
      refine Tr.ret' ?_
      refine res1 rfl rfl ?_
      intro w hc
      cases hr
      exact ⟨_, rfl, hc⟩

def choice_maker_table_k19 (m_0 : T67) (v_1 : Int) (n_2 : Int) (slf : (T67 → Int → Int → (List Bool) → Option (Int × T67))) (l15 : List Bool) (l17 : List Bool) : Option (Int × T67) :=
  (slf (({ l := m_0.l, known := m_0.known } : T67)) ((w64 (v_1 + (1 : Int)))) n_2 l17).bind fun r23 =>
  (slf (({ l := r23.2.l, known := r23.2.known } : T67)) ((w64 (v_1 + (1 : Int)))) n_2 l15).bind fun r28 =>
  (choice_maker_put (({ l := r28.2.l, known := r28.2.known } : T67)) (({ var := v_1, low := r23.1, high := r28.1 } : Branch))).bind fun r31 =>
  some ((r31.1, ({ l := r31.2.l, known := r31.2.known } : T67)))

def choice_maker_table_b36 (f_3 : List Bool) (t_35 : Int) (l11 : List Bool) (l13 : List Bool) (nx37 : ((List Bool) × (List Bool)) → Option (Int × T67)) : Option (Int × T67) :=
  (geti f_3 t_35).bind fun y39 =>
  (bif ((iand t_35 ((1 : Int))) == (0 : Int)) then
  bif decide (l13.length + (([y39] : List Bool)).length ≤ 140737488355328) then
  nx37 (l11, (l13 ++ ([y39] : List Bool))) else none
  else
  bif decide (l11.length + (([y39] : List Bool)).length ≤ 140737488355328) then
  nx37 ((l11 ++ ([y39] : List Bool)), l13) else none)

def choice_maker_table_s (slf : (T67 → Int → Int → (List Bool) → Option (Int × T67))) (m_0 : T67) (v_1 : Int) (n_2 : Int) (f_3 : List Bool) : Option (Int × T67) :=
  (bif (v_1 == n_2) then
  (geti f_3 ((0 : Int))).bind fun y1 =>
  (bif y1 then
  some (((1 : Int), ({ l := m_0.l, known := m_0.known } : T67)))
  else
  some (((0 : Int), ({ l := m_0.l, known := m_0.known } : T67))))
  else
  forK (σ := (List Bool) × (List Bool)) (fun i s nx_ => choice_maker_table_b36 f_3 i s.1 s.2 nx_) (fun s => choice_maker_table_k19 m_0 v_1 n_2 slf s.1 s.2) ((f_3.length : Int) - (0 : Int)).toNat (0 : Int) ((([] : List Bool)), (([] : List Bool))))

def choice_maker_table (fuel : Nat) (m_0 : T67) (v_1 : Int) (n_2 : Int) (f_3 : List Bool) : Option (Int × T67) :=
  match fuel with
  | 0 => none
  | fuel + 1 => choice_maker_table_s (choice_maker_table fuel) m_0 v_1 n_2 f_3

set_option maxRecDepth 100000 in
set_option maxHeartbeats 4000000 in
theorem choice_maker_table_ok (w0 : World) (m : Snap) (l : List HI) (fuel : Nat) : ∀ (bm_0 : Nat) (m_0 : T67) (um_0_0 : Value) (mbm_0_1 : Nat) (v_1 : Int) (n_2 : Int) (uf_3 : Value) (f_3 : List Bool) (hf_3 : RS rB m uf_3 f_3) (r : Int × T67) (_ : choice_maker_table fuel m_0 v_1 n_2 f_3 = some r) (w : World) (_ : cX w0 ⟨m, hcells bm_0 [um_0_0, (.map (some mbm_0_1))] 67 :: hownT 71 3 Branch.enc um_0_0 m_0.l :: hmap mbm_0_1 ek71 ev3 m_0.known :: l⟩ w),
    Calls Try.prog 40 [bp bm_0 0, .int .i64 v_1, .int .i64 n_2, uf_3].toArray w fun e w' => ∃ q0 : Value, e = .returned (.int .i64 r.1) ∧ cX w0 ⟨m, hcells bm_0 [q0, (.map (some mbm_0_1))] 67 :: hownT 71 3 Branch.enc q0 r.2.l :: hmap mbm_0_1 ek71 ev3 r.2.known :: l⟩ w' := by
  induction fuel generalizing m l with
  | zero => intro bm_0 m_0 um_0_0 mbm_0_1 v_1 n_2 uf_3 f_3 hf_3 r hr; simp [choice_maker_table] at hr
  | succ fuel ih =>
  intro bm_0 m_0 um_0_0 mbm_0_1 v_1 n_2 uf_3 f_3 hf_3 r hr w hc
  replace hr : choice_maker_table_s (choice_maker_table fuel) m_0 v_1 n_2 f_3 = some r := hr
  obtain ⟨slf, hslf⟩ : ∃ f, f = choice_maker_table fuel := ⟨_, rfl⟩
  rw [← hslf] at hr ih
  unfold choice_maker_table_s at hr
  refine calls_of_Tr (N := 56) Try.func40 rfl hc rfl (Nat.le_of_ble_eq_true rfl) ?_
  refine Tr.seq ?_
  refine Tr.region_f (fun _ => false) ?_
  refine W.q rfl rfl rfl rfl (by decide) (Yd.as rfl .c) ?_
  refine W.end ?_
  refine NX.sub (env' := [(0, _), (1, _), (2, _), (3, _)]) ⟨rfl, rfl, rfl, rfl, trivial⟩ ?_
  refine NX.then ?_
  refine Tr.seq ?_
  refine Tr.seq ?_
  refine Tr.region_f (fun _ => false) ?_
  refine W.q rfl rfl rfl rfl (by decide) (Yd.mv rfl (.t rfl)) ?_
  refine W.q rfl rfl rfl rfl (by decide) (Yd.mv rfl (.t rfl)) ?_
  refine W.q rfl rfl rfl rfl (by decide) (Yd.eql rfl (.t rfl) (.t rfl)) ?_
  refine W.end ?_
  refine NX.sub (env' := [(0, _), (1, _), (2, _), (3, _), (16, _)]) ⟨rfl, rfl, rfl, rfl, rfl, trivial⟩ ?_
  refine NX.then ?_
  refine Tr.cond (.t rfl) (fun hb => ?_) (fun hb => ?_)
  · have hr := cond_t hb hr
    refine Tr.seq ?_
    refine Tr.seq ?_
    obtain ⟨y1, hy2, hr⟩ := bind_some hr
    refine Tr.region_f (fun _ => false) ?_
    refine W.q rfl rfl rfl rfl (by decide) (Yd.mv rfl (.t rfl)) ?_
    refine W.q rfl rfl rfl rfl (by decide) (Yd.idxR hf_3 hy2 rfl Try.underlying23 SZ4 (.t rfl) .c) ?_
    refine W.q rfl rfl rfl rfl (by decide) (Yd.ldF hf_3 (.refl _) hy2 rfl rfl ON4 (.t rfl)) ?_
    refine W.end ?_
    refine NX.sub (env' := [(19, _)]) ⟨rfl, trivial⟩ ?_
    refine NX.then ?_
    refine Tr.cond (.t rfl) (fun hb => ?_) (fun hb => ?_)
    · have hr := cond_t hb hr
      refine Tr.seq ?_
      refine Tr.region_f (fun _ => false) ?_
      refine W.q rfl rfl rfl rfl (by decide) (Yd.as rfl .c) ?_
      refine W.end ?_
      refine NX.sub (env' := [(8, _)]) ⟨rfl, trivial⟩ ?_
      refine NX.then ?_
      refine Tr.ret' (RT.then (RT.then ?_))
      refine res1 rfl rfl ?_
      intro w hc
      cases hr
      exact ⟨_, rfl, hc⟩
    · have hr := cond_f hb hr
      refine Tr.skip' ?_
      refine NX.then ?_
      refine Tr.seq ?_
      refine Tr.region_f (fun _ => false) ?_
      refine W.q rfl rfl rfl rfl (by decide) (Yd.as rfl .c) ?_
      refine W.end ?_
      refine NX.sub (env' := [(8, _)]) ⟨rfl, trivial⟩ ?_
      refine NX.then ?_
      refine Tr.ret' (RT.then ?_)
      refine res1 rfl rfl ?_
      intro w hc
      cases hr
      exact ⟨_, rfl, hc⟩
  · have hr := cond_f hb hr
    refine Tr.skip' ?_
    refine NX.then ?_
    refine Tr.seq ?_
    refine Tr.region_f (fun _ => false) ?_
    refine W.q rfl rfl rfl rfl (by decide) (Yd.as rfl .c) ?_
    refine W.q rfl rfl rfl rfl (by decide) (Yd.as rfl .c) ?_
    refine W.end ?_
    refine NX.sub (env' := [(0, _), (1, _), (2, _), (3, _), (9, _), (10, _)]) ⟨rfl, rfl, rfl, rfl, rfl, rfl, trivial⟩ ?_
    refine NX.then ?_
    refine Tr.seq ?_
    refine Tr.seq ?_
    refine Tr.region_f (fun _ => false) ?_
    refine W.q rfl rfl rfl rfl (by decide) (Yd.mv rfl (.t rfl)) ?_
    refine W.q rfl rfl rfl rfl (by decide) (Yd.lenR hf_3 rfl Try.underlying23 (.t rfl)) ?_
    refine W.q rfl rfl rfl rfl (by decide) (Yd.mv rfl .c) ?_
    refine W.end ?_
    refine NX.sub (env' := [(0, _), (1, _), (2, _), (9, _), (10, _), (20, _), (21, _), (22, _)]) ⟨rfl, rfl, rfl, rfl, rfl, rfl, rfl, rfl, trivial⟩ ?_
    refine NX.then ?_
    refine Tr.addnil 4 1 ?_
    refine Tr.addnil 4 1 ?_
    refine Tr.join (S := fun env x => ∃ l15 : List Bool, ∃ l17 : List Bool, ∃ v16 : Value, ∃ v18 : Value, env = [(0, bp bm_0 0), (1, .int .i64 v_1), (2, .int .i64 n_2), (9, v18), (10, v16)] ∧ x = ⟨m, hownT 4 1 encB v16 l15 :: hownT 4 1 encB v18 l17 :: hcells bm_0 [um_0_0, (.map (some mbm_0_1))] 67 :: hownT 71 3 Branch.enc um_0_0 m_0.l :: hmap mbm_0_1 ek71 ev3 m_0.known :: l⟩ ∧ choice_maker_table_k19 m_0 v_1 n_2 slf l15 l17 = some r) ?_ (fun hk20 => ?_)
    · rintro _ _ ⟨l15, l17, v16, v18, rfl, rfl, hr⟩
      unfold choice_maker_table_k19 at hr
      try dsimp only at hr
      refine NX.then ?_
      refine Tr.seq ?_
      refine Tr.freezeT (enc := encB) (n := 1) (pos := 1) (xs := l17) (fun _ => rfl) rfl (fun m21 hsm21 hu22 => ?_)
      have hf_3 := hf_3.mono hsm21
      refine Tr.cast (m' := m21) (l' := hownT 4 1 encB v16 _ :: hcells bm_0 [_, _] 67 :: hownT 71 3 Branch.enc um_0_0 _ :: hmap mbm_0_1 ek71 ev3 _ :: l) rfl rfl ?_
      obtain ⟨r23, hr24, hr⟩ := bind_some hr
      refine Tr.region_f (fun i => Nat.beq i 5) ?_
      refine W.q rfl rfl rfl rfl (by decide) (Yd.mv rfl (.t rfl)) ?_
      refine W.q rfl rfl rfl rfl (by decide) (Yd.mv rfl (.t rfl)) ?_
      refine W.q rfl rfl rfl rfl (by decide) (Yd.add rfl (.t rfl) .c) ?_
      refine W.q rfl rfl rfl rfl (by decide) (Yd.mv rfl (.t rfl)) ?_
      refine W.q rfl rfl rfl rfl (by decide) (Yd.mv rfl (.t rfl)) ?_
      refine W.e rfl rfl rfl rfl (by decide) (Ef.call (R := fun z x' => ∃ v25 : Value, z = .int .i64 r23.1 ∧ x' = ⟨m21, hcells bm_0 [v25, (.map (some mbm_0_1))] 67 :: hownT 71 3 Branch.enc v25 r23.2.l :: hmap mbm_0_1 ek71 ev3 r23.2.known :: hownT 4 1 encB v16 l15 :: l⟩) rfl Try.func40 rfl rfl (.cons (.t rfl) (.cons (.t rfl) (.cons (.t rfl) (.cons (.t rfl) .nil)))) (by intro w hw; replace hw := cX_front (p := 3) hw rfl; replace hw := cX_front (p := 3) hw rfl; replace hw := cX_front (p := 3) hw rfl; exact (ih _ _ _ _ _ _ ((w64 (v_1 + (1 : Int)))) n_2 _ _ hu22 _ hr24 w hw).mono fun e w' ⟨v25, he, hc'⟩ => ⟨_, _, he, ⟨v25, rfl, rfl⟩, hc'⟩)) ?_
      rintro _ _ ⟨v25, rfl, rfl⟩
      refine ⟨.inl rfl, ?_⟩
      refine W.cast (m' := m21) (l' := hcells bm_0 [_, _] 67 :: hownT 71 3 Branch.enc v25 _ :: hmap mbm_0_1 ek71 ev3 _ :: hownT 4 1 encB v16 _ :: l) rfl rfl ?_
      refine W.q rfl rfl rfl rfl (by decide) (Yd.as rfl (.t rfl)) ?_
      refine W.end ?_
      refine NX.sub (env' := [(0, _), (1, _), (2, _), (10, _), (13, _)]) ⟨rfl, rfl, rfl, rfl, rfl, trivial⟩ ?_
      refine NX.then ?_
      refine Tr.seq ?_
      refine Tr.freezeT (enc := encB) (n := 1) (pos := 3) (xs := l15) (fun _ => rfl) rfl (fun m26 hsm26 hu27 => ?_)
      have hf_3 := hf_3.mono hsm26
      have hu22 := hu22.mono hsm26
      refine Tr.cast (m' := m26) (l' := hcells bm_0 [_, _] 67 :: hownT 71 3 Branch.enc v25 _ :: hmap mbm_0_1 ek71 ev3 _ :: l) rfl rfl ?_
      obtain ⟨r28, hr29, hr⟩ := bind_some hr
      obtain ⟨r31, hr32, hr⟩ := bind_some hr
      refine Tr.region_f (fun i => Nat.beq i 8 || Nat.beq i 10) ?_
      refine W.q rfl rfl rfl rfl (by decide) (Yd.mv rfl (.t rfl)) ?_
      refine W.q rfl rfl rfl rfl (by decide) (Yd.mv rfl (.t rfl)) ?_
      refine W.q rfl rfl rfl rfl (by decide) (Yd.mv rfl (.t rfl)) ?_
      refine W.q rfl rfl rfl rfl (by decide) (Yd.mv rfl (.t rfl)) ?_
      refine W.q rfl rfl rfl rfl (by decide) (Yd.mv rfl (.t rfl)) ?_
      refine W.q rfl rfl rfl rfl (by decide) (Yd.add rfl (.t rfl) .c) ?_
      refine W.q rfl rfl rfl rfl (by decide) (Yd.mv rfl (.t rfl)) ?_
      refine W.q rfl rfl rfl rfl (by decide) (Yd.mv rfl (.t rfl)) ?_
      refine W.e rfl rfl rfl rfl (by decide) (Ef.call (R := fun z x' => ∃ v30 : Value, z = .int .i64 r28.1 ∧ x' = ⟨m26, hcells bm_0 [v30, (.map (some mbm_0_1))] 67 :: hownT 71 3 Branch.enc v30 r28.2.l :: hmap mbm_0_1 ek71 ev3 r28.2.known :: l⟩) rfl Try.func40 rfl rfl (.cons (.t rfl) (.cons (.t rfl) (.cons (.t rfl) (.cons (.t rfl) .nil)))) (by intro w hw; replace hw := cX_front (p := 2) hw rfl; replace hw := cX_front (p := 2) hw rfl; replace hw := cX_front (p := 2) hw rfl; exact (ih _ _ _ _ _ _ ((w64 (v_1 + (1 : Int)))) n_2 _ _ hu27 _ hr29 w hw).mono fun e w' ⟨v30, he, hc'⟩ => ⟨_, _, he, ⟨v30, rfl, rfl⟩, hc'⟩)) ?_
      rintro _ _ ⟨v30, rfl, rfl⟩
      refine ⟨.inl rfl, ?_⟩
      refine W.cast (m' := m26) (l' := hcells bm_0 [_, _] 67 :: hownT 71 3 Branch.enc v30 _ :: hmap mbm_0_1 ek71 ev3 _ :: l) rfl rfl ?_
      refine W.q rfl rfl rfl rfl (by decide) (Yd.bld (cells := [.int .i64 v_1, .int .i64 r23.1, .int .i64 r28.1]) rfl ZI71 PL71 (.cons (.t rfl) (.cons (.t rfl) (.cons (.t rfl) .nil))) rfl) ?_
      refine W.e rfl rfl rfl rfl (by decide) (Ef.call (R := fun z x' => ∃ v33 : Value, z = .int .i64 r31.1 ∧ x' = ⟨m26, hcells bm_0 [v33, (.map (some mbm_0_1))] 67 :: hownT 71 3 Branch.enc v33 r31.2.l :: hmap mbm_0_1 ek71 ev3 r31.2.known :: l⟩) rfl Try.func59 rfl rfl (.cons (.t rfl) (.cons (.t rfl) .nil)) (by intro w hw; replace hw := cX_front (p := 2) hw rfl; replace hw := cX_front (p := 2) hw rfl; replace hw := cX_front (p := 2) hw rfl; exact (choice_maker_put_ok w0 _ _ _ _ _ _ (({ var := v_1, low := r23.1, high := r28.1 } : Branch)) _ hr32 w hw).mono fun e w' ⟨v33, he, hc'⟩ => ⟨_, _, he, ⟨v33, rfl, rfl⟩, hc'⟩)) ?_
      rintro _ _ ⟨v33, rfl, rfl⟩
      refine ⟨.inl rfl, ?_⟩
      refine W.cast (m' := m26) (l' := hcells bm_0 [_, _] 67 :: hownT 71 3 Branch.enc v33 _ :: hmap mbm_0_1 ek71 ev3 _ :: l) rfl rfl ?_
      refine W.q rfl rfl rfl rfl (by decide) (Yd.as rfl (.t rfl)) ?_
      refine W.end ?_
      refine NX.sub (env' := [(8, _)]) ⟨rfl, trivial⟩ ?_
      refine NX.then ?_
      refine Tr.ret' ?_
      refine res1 rfl rfl ?_
      intro w hc
      cases hr
      exact ⟨_, rfl, (cX_le (x := ⟨m, _⟩) ⟨(hsm21.trans hsm26), [], rfl⟩ hc)⟩
    have hlen34 := (hf_3).2.1
    refine Tr.block ?_
    refine Tr.sub (env' := [(0, _), (1, _), (2, _), (9, _), (10, _), (20, _), (21, _), (22, _)]) ⟨rfl, rfl, rfl, rfl, rfl, rfl, rfl, rfl, trivial⟩ ?_
    refine Tr.loop (S := fun n (z : Int × (List Bool) × (List Bool)) env x => match z with | (t_35, l11, l13) => ∃ v12 : Value, ∃ v14 : Value, env = [(0, bp bm_0 0), (1, .int .i64 v_1), (2, .int .i64 n_2), (9, v14), (10, v12), (20, uf_3), (21, .int .i64 ((f_3.length : Int))), (22, .int .i64 t_35)] ∧ x = ⟨m, hownT 4 1 encB v12 l11 :: hownT 4 1 encB v14 l13 :: hcells bm_0 [um_0_0, (.map (some mbm_0_1))] 67 :: hownT 71 3 Branch.enc um_0_0 m_0.l :: hmap mbm_0_1 ek71 ev3 m_0.known :: l⟩ ∧ n = ((f_3.length : Int) - t_35).toNat ∧ 0 ≤ t_35 ∧ forK (σ := (List Bool) × (List Bool)) (fun i s nx_ => choice_maker_table_b36 f_3 i s.1 s.2 nx_) (fun s => choice_maker_table_k19 m_0 v_1 n_2 slf s.1 s.2) n t_35 (l11, l13) = some r) _ ((0 : Int), ([] : List Bool), ([] : List Bool)) ⟨_, _, rfl, rfl, rfl, (by omega), hr⟩ ?_
    rintro n38 ⟨t_35, l11, l13⟩ env x ⟨v12, v14, rfl, rfl, hnt_35, h0t_35, hr⟩
    cases n38 with
    | zero =>
      simp only [forK] at hr
      refine Tr.seq ?_
      refine Tr.region_f (fun _ => false) ?_
      refine W.q rfl rfl rfl rfl (by decide) (Yd.lss rfl (.t rfl) (.t rfl)) ?_
      refine W.end ?_
      refine NX.sub (env' := [(0, _), (1, _), (2, _), (9, _), (10, _), (20, _), (21, _), (22, _), (23, _)]) ⟨rfl, rfl, rfl, rfl, rfl, rfl, rfl, rfl, rfl, trivial⟩ ?_
      refine NX.then ?_
      refine Tr.seq ?_
      refine Tr.cond (.t rfl) (fun hb => ?_) (fun hb => ?_)
      · exact absurd (hb.symm.trans (fr_end hnt_35)) (by decide)
      ·
        refine Tr.exit' (EX.then (EX.then (EX.block ?_)))
        refine NX.sub (env' := [(0, _), (1, _), (2, _), (9, _), (10, _)]) ⟨rfl, rfl, rfl, rfl, rfl, trivial⟩ ?_
        exact hk20 _ _ ⟨_, _, _, _, rfl, rfl, hr⟩
    | succ n38 =>
      obtain ⟨nx37, hnx37, hr⟩ := forK_succ hr
      try dsimp only at hr
      unfold choice_maker_table_b36 at hr
      try dsimp only at hr
      have hltt_35 := fr_bnd hnt_35
      refine Tr.seq ?_
      refine Tr.region_f (fun _ => false) ?_
      refine W.q rfl rfl rfl rfl (by decide) (Yd.lss rfl (.t rfl) (.t rfl)) ?_
      refine W.end ?_
      refine NX.sub (env' := [(0, _), (1, _), (2, _), (9, _), (10, _), (20, _), (21, _), (22, _), (23, _)]) ⟨rfl, rfl, rfl, rfl, rfl, rfl, rfl, rfl, rfl, trivial⟩ ?_
      refine NX.then ?_
      refine Tr.seq ?_
      refine Tr.cond (.t rfl) (fun hb => ?_) (fun hb => ?_)
      rotate_left
      · exact absurd (hb.symm.trans (fr_go hnt_35)) (by decide)
      ·
        refine Tr.skip' ?_
        refine NX.then ?_
        refine Tr.seq ?_
        refine Tr.block ?_
        refine Tr.seq ?_
        obtain ⟨y39, hy40, hr⟩ := bind_some hr
        refine Tr.region_f (fun _ => false) ?_
        refine W.q rfl rfl rfl rfl (by decide) (Yd.mv rfl (.t rfl)) ?_
        refine W.q rfl rfl rfl rfl (by decide) (Yd.idxR hf_3 hy40 rfl Try.underlying23 SZ4 (.t rfl) (.t rfl)) ?_
        refine W.q rfl rfl rfl rfl (by decide) (Yd.ldF hf_3 (.refl _) hy40 rfl rfl ON4 (.t rfl)) ?_
        refine W.q rfl rfl rfl rfl (by decide) (Yd.as rfl (.t rfl)) ?_
        refine W.q rfl rfl rfl rfl (by decide) (Yd.as rfl (.t rfl)) ?_
        refine W.end ?_
        refine NX.sub (env' := [(0, _), (1, _), (2, _), (9, _), (10, _), (20, _), (21, _), (22, _), (11, _), (12, _)]) ⟨rfl, rfl, rfl, rfl, rfl, rfl, rfl, rfl, rfl, rfl, trivial⟩ ?_
        refine NX.then ?_
        refine Tr.seq ?_
        refine Tr.region_f (fun _ => false) ?_
        refine W.q rfl rfl rfl rfl (by decide) (Yd.mv rfl (.t rfl)) ?_
        refine W.q rfl rfl rfl rfl (by decide) (Yd.andI rfl (.t rfl) .c) ?_
        refine W.q rfl rfl rfl rfl (by decide) (Yd.eql rfl (.t rfl) .c) ?_
        refine W.end ?_
        refine NX.sub (env' := [(0, _), (1, _), (2, _), (9, _), (10, _), (20, _), (21, _), (22, _), (12, _), (29, _)]) ⟨rfl, rfl, rfl, rfl, rfl, rfl, rfl, rfl, rfl, rfl, trivial⟩ ?_
        refine NX.then ?_
        refine Tr.cond (.t rfl) (fun hb => ?_) (fun hb => ?_)
        · have hr := cond_t hb hr
          obtain ⟨hq44, hr⟩ := guard_some hr; replace hq44 := of_decide_eq_true hq44
          refine Tr.region_f (fun i => Nat.beq i 2 || Nat.beq i 3) ?_
          refine W.q rfl rfl rfl rfl (by decide) (Yd.mv rfl (.t rfl)) ?_
          refine W.q rfl rfl rfl rfl (by decide) (Yd.mv rfl (.t rfl)) ?_
          refine W.e rfl rfl rfl rfl (by decide) (Ef.bsT (enc := encB) (vs := [_]) (ys := [y39]) (fun _ => rfl) IF4 rfl Try.underlying23 (by decide) rfl (.cons (.t rfl) .nil) rfl rfl (by decide)) ?_
          rintro v41 _ rfl
          refine ⟨.inl rfl, ?_⟩
          refine W.cast (m' := m) (l' := hownT 4 1 encB v41 _ :: hownT 4 1 encB v12 _ :: hownT 4 1 encB v14 _ :: hcells bm_0 [_, _] 67 :: hownT 71 3 Branch.enc um_0_0 _ :: hmap mbm_0_1 ek71 ev3 _ :: l) rfl rfl ?_
          refine W.e rfl rfl rfl rfl (by decide) (Ef.apI (pos := 2) (enc := encB) (xs := l13) (ys := ([y39] : List Bool)) (fun _ => rfl) IF4 rfl rfl Try.underlying23 rfl (by decide) (.t rfl) (.t rfl) (Src.own (pos := 0) rfl) (fun _ => rfl) (by omega) (by omega)) ?_
          rintro v43 _ rfl
          refine ⟨.inl rfl, ?_⟩
          refine W.cast (m' := m) (l' := hownT 4 1 encB v41 _ :: hownT 4 1 encB v12 _ :: hownT 4 1 encB v43 _ :: hcells bm_0 [_, _] 67 :: hownT 71 3 Branch.enc um_0_0 _ :: hmap mbm_0_1 ek71 ev3 _ :: l) rfl rfl ?_
          refine W.q rfl rfl rfl rfl (by decide) (Yd.as rfl (.t rfl)) ?_
          refine W.end ?_
          refine NX.sub (env' := [(0, _), (1, _), (2, _), (9, _), (10, _), (20, _), (21, _), (22, _)]) ⟨rfl, rfl, rfl, rfl, rfl, rfl, rfl, rfl, trivial⟩ ?_
          refine NX.drop (l' := hownT 4 1 encB v12 _ :: hownT 4 1 encB v43 _ :: hcells bm_0 [_, _] 67 :: hownT 71 3 Branch.enc um_0_0 _ :: hmap mbm_0_1 ek71 ev3 _ :: l) (.cons _ (.cons_cons _ (.cons_cons _ (.cons_cons _ (.cons_cons _ (.cons_cons _ (.refl _))))))) ?_
          refine NX.block ?_
          refine NX.then ?_
          refine Tr.region_f (fun _ => false) ?_
          refine W.q rfl rfl rfl rfl (by decide) (Yd.add rfl (.t rfl) .c) ?_
          refine W.q rfl rfl rfl rfl (by decide) (Yd.mv rfl (.t rfl)) ?_
          refine W.end ?_
          refine NX.sub (env' := [(0, _), (1, _), (2, _), (9, _), (10, _), (20, _), (21, _), (22, _)]) ⟨rfl, rfl, rfl, rfl, rfl, rfl, rfl, rfl, trivial⟩ ?_
          refine NX.sub (env' := [(0, _), (1, _), (2, _), (9, _), (10, _), (20, _), (21, _), (22, _)]) ⟨rfl, rfl, rfl, rfl, rfl, rfl, rfl, rfl, trivial⟩ ?_
          have hw := w64_id (n := t_35 + 1) (by omega) (by omega)
          exact NX.again n38 (t_35 + 1, l11, (l13 ++ ([y39] : List Bool))) (Nat.lt_succ_self _) ⟨_, _, (by rw [hw] <;> rfl), rfl, (fr_dec hnt_35), (by omega), ((hnx37 _).symm.trans hr)⟩
        · have hr := cond_f hb hr
          obtain ⟨hq48, hr⟩ := guard_some hr; replace hq48 := of_decide_eq_true hq48
          refine Tr.region_f (fun i => Nat.beq i 2 || Nat.beq i 3) ?_
          refine W.q rfl rfl rfl rfl (by decide) (Yd.mv rfl (.t rfl)) ?_
          refine W.q rfl rfl rfl rfl (by decide) (Yd.mv rfl (.t rfl)) ?_
          refine W.e rfl rfl rfl rfl (by decide) (Ef.bsT (enc := encB) (vs := [_]) (ys := [y39]) (fun _ => rfl) IF4 rfl Try.underlying23 (by decide) rfl (.cons (.t rfl) .nil) rfl rfl (by decide)) ?_
          rintro v45 _ rfl
          refine ⟨.inl rfl, ?_⟩
          refine W.cast (m' := m) (l' := hownT 4 1 encB v45 _ :: hownT 4 1 encB v12 _ :: hownT 4 1 encB v14 _ :: hcells bm_0 [_, _] 67 :: hownT 71 3 Branch.enc um_0_0 _ :: hmap mbm_0_1 ek71 ev3 _ :: l) rfl rfl ?_
          refine W.e rfl rfl rfl rfl (by decide) (Ef.apI (pos := 1) (enc := encB) (xs := l11) (ys := ([y39] : List Bool)) (fun _ => rfl) IF4 rfl rfl Try.underlying23 rfl (by decide) (.t rfl) (.t rfl) (Src.own (pos := 0) rfl) (fun _ => rfl) (by omega) (by omega)) ?_
          rintro v47 _ rfl
          refine ⟨.inl rfl, ?_⟩
          refine W.cast (m' := m) (l' := hownT 4 1 encB v45 _ :: hownT 4 1 encB v47 _ :: hownT 4 1 encB v14 _ :: hcells bm_0 [_, _] 67 :: hownT 71 3 Branch.enc um_0_0 _ :: hmap mbm_0_1 ek71 ev3 _ :: l) rfl rfl ?_
          refine W.q rfl rfl rfl rfl (by decide) (Yd.as rfl (.t rfl)) ?_
          refine W.end ?_
          refine NX.sub (env' := [(0, _), (1, _), (2, _), (9, _), (10, _), (20, _), (21, _), (22, _)]) ⟨rfl, rfl, rfl, rfl, rfl, rfl, rfl, rfl, trivial⟩ ?_
          refine NX.drop (l' := hownT 4 1 encB v47 _ :: hownT 4 1 encB v14 _ :: hcells bm_0 [_, _] 67 :: hownT 71 3 Branch.enc um_0_0 _ :: hmap mbm_0_1 ek71 ev3 _ :: l) (.cons _ (.cons_cons _ (.cons_cons _ (.cons_cons _ (.cons_cons _ (.cons_cons _ (.refl _))))))) ?_
          refine NX.block ?_
          refine NX.then ?_
          refine Tr.region_f (fun _ => false) ?_
          refine W.q rfl rfl rfl rfl (by decide) (Yd.add rfl (.t rfl) .c) ?_
          refine W.q rfl rfl rfl rfl (by decide) (Yd.mv rfl (.t rfl)) ?_
          refine W.end ?_
          refine NX.sub (env' := [(0, _), (1, _), (2, _), (9, _), (10, _), (20, _), (21, _), (22, _)]) ⟨rfl, rfl, rfl, rfl, rfl, rfl, rfl, rfl, trivial⟩ ?_
          refine NX.sub (env' := [(0, _), (1, _), (2, _), (9, _), (10, _), (20, _), (21, _), (22, _)]) ⟨rfl, rfl, rfl, rfl, rfl, rfl, rfl, rfl, trivial⟩ ?_
          have hw := w64_id (n := t_35 + 1) (by omega) (by omega)
          exact NX.again n38 (t_35 + 1, (l11 ++ ([y39] : List Bool)), l13) (Nat.lt_succ_self _) ⟨_, _, (by rw [hw] <;> rfl), rfl, (fr_dec hnt_35), (by omega), ((hnx37 _).symm.trans hr)⟩

def choice_Build (fuel : Nat) (n_0 : Int) (f_1 : List Bool) : Option ((List Branch) × Int × Int) :=
  (truth_Check n_0 f_1).bind fun r1 =>
  (bif (r1 != (0 : Int)) then
  some (([], (0 : Int), r1))
  else
  (choice_maker_table fuel (({ l := ([] : List Branch), known := ([] : List (Branch × Int)) } : T67)) ((0 : Int)) n_0 f_1).bind fun r8 =>
  some ((r8.2.l, r8.1, (0 : Int))))

set_option maxRecDepth 100000 in
set_option maxHeartbeats 4000000 in
theorem choice_Build_ok (w0 : World) (m : Snap) (l : List HI) (fuel : Nat) (n_0 : Int) (uf_1 : Value) (f_1 : List Bool) (hf_1 : RS rB m uf_1 f_1) (r : (List Branch) × Int × Int) (hr : choice_Build fuel n_0 f_1 = some r) (w : World) (hc : cX w0 ⟨m, l⟩ w) :
    Calls Try.prog 16 [.int .i64 n_0, uf_1].toArray w fun e w' => ∃ z0 : Value, e = .returned (.tuple #[z0, .int .i64 r.2.1, .int .i64 r.2.2]) ∧ cX w0 ⟨m, hownT 71 3 Branch.enc z0 r.1 :: l⟩ w' := by
  unfold choice_Build at hr
  refine calls_of_Tr (N := 28) Try.func16 rfl hc rfl (Nat.le_of_ble_eq_true rfl) ?_
  refine Tr.seq ?_
  refine Tr.region_f (fun _ => false) ?_
  refine W.q rfl rfl rfl rfl (by decide) (Yd.as rfl .c) ?_
  refine W.q rfl rfl rfl rfl (by decide) (Yd.as rfl .c) ?_
  refine W.q rfl rfl rfl rfl (by decide) (Yd.as rfl .c) ?_
  refine W.end ?_
  refine NX.sub (env' := [(0, _), (1, _)]) ⟨rfl, rfl, trivial⟩ ?_
  refine NX.then ?_
  refine Tr.seq ?_
  refine Tr.seq ?_
  obtain ⟨r1, hr2, hr⟩ := bind_some hr
  refine Tr.region_f (fun _ => false) ?_
  refine W.q rfl rfl rfl rfl (by decide) (Yd.mv rfl (.t rfl)) ?_
  refine W.q rfl rfl rfl rfl (by decide) (Yd.mv rfl (.t rfl)) ?_
  refine W.q rfl rfl rfl rfl (by decide) (Yd.call (v := .int .i64 r1) rfl Try.func39 rfl rfl (.cons (.t rfl) (.cons (.t rfl) .nil)) (fun x' hx w hw => truth_Check_ok w0 x'.m x'.l n_0 _ _ (hf_1.mono hx.1) _ hr2 w hw)) ?_
  refine W.q rfl rfl rfl rfl (by decide) (Yd.as rfl (.t rfl)) ?_
  refine W.end ?_
  refine NX.sub (env' := [(0, _), (1, _), (7, _)]) ⟨rfl, rfl, rfl, trivial⟩ ?_
  refine NX.then ?_
  refine Tr.seq ?_
  refine Tr.region_f (fun _ => false) ?_
  refine W.q rfl rfl rfl rfl (by decide) (Yd.mv rfl (.t rfl)) ?_
  refine W.q rfl rfl rfl rfl (by decide) (Yd.neq rfl (.t rfl) .c) ?_
  refine W.end ?_
  refine NX.sub (env' := [(0, _), (1, _), (7, _), (14, _)]) ⟨rfl, rfl, rfl, rfl, trivial⟩ ?_
  refine NX.then ?_
  refine Tr.cond (.t rfl) (fun hb => ?_) (fun hb => ?_)
  · have hr := cond_t hb hr
    refine Tr.seq ?_
    refine Tr.region_f (fun _ => false) ?_
    refine W.q rfl rfl rfl rfl (by decide) (Yd.mv rfl (.t rfl)) ?_
    refine W.q rfl rfl rfl rfl (by decide) (Yd.as rfl .c) ?_
    refine W.q rfl rfl rfl rfl (by decide) (Yd.as rfl .c) ?_
    refine W.q rfl rfl rfl rfl (by decide) (Yd.as rfl (.t rfl)) ?_
    refine W.end ?_
    refine NX.sub (env' := [(4, _), (5, _), (6, _)]) ⟨rfl, rfl, rfl, trivial⟩ ?_
    refine NX.then ?_
    refine Tr.ret' (RT.then ?_)
    refine res3 rfl rfl rfl rfl ?_
    intro w hc
    cases hr
    exact ⟨_, rfl, (cX_nil hc)⟩
  · have hr := cond_f hb hr
    refine Tr.skip' ?_
    refine NX.then ?_
    refine Tr.seq ?_
    refine Tr.addnil 71 3 ?_
    refine Tr.cast (m' := m) (l' := hownT 71 3 Branch.enc (.slice none 0 0) (([] : List Branch)) :: l) rfl rfl ?_
    refine Tr.region_f (fun i => Nat.beq i 0 || Nat.beq i 2) ?_
    refine W.e rfl rfl rfl rfl (by decide) (Ef.mkMap (ν := Int) ek71 ev3 rfl) ?_
    rintro _ _ ⟨b4, rfl, rfl⟩
    refine ⟨.inl rfl, ?_⟩
    refine W.cast (m' := m) (l' := hmap b4 ek71 ev3 _ :: hownT 71 3 Branch.enc (.slice none 0 0) (([] : List Branch)) :: l) rfl rfl ?_
    refine W.q rfl rfl rfl rfl (by decide) (Yd.bld (cells := [(.slice none 0 0), (.map (some b4))]) rfl ZI67 PL67 (.cons (.t rfl) .nil) rfl) ?_
    refine W.e rfl rfl rfl rfl (by decide) (Ef.bx rfl (.t rfl) rfl) ?_
    rintro _ _ ⟨b6, rfl, rfl⟩
    refine ⟨.inl rfl, ?_⟩
    refine W.cast (m' := m) (l' := hcells b6 [_, _] 67 :: hmap b4 ek71 ev3 _ :: hownT 71 3 Branch.enc (.slice none 0 0) (([] : List Branch)) :: l) rfl rfl ?_
    refine W.q rfl rfl rfl rfl (by decide) (Yd.as rfl (.t rfl)) ?_
    refine W.end ?_
    refine NX.sub (env' := [(0, _), (1, _), (8, _)]) ⟨rfl, rfl, rfl, trivial⟩ ?_
    refine NX.then ?_
    refine Tr.seq ?_
    obtain ⟨r8, hr9, hr⟩ := bind_some hr
    refine Tr.region_f (fun i => Nat.beq i 3) ?_
    refine W.q rfl rfl rfl rfl (by decide) (Yd.mv rfl (.t rfl)) ?_
    refine W.q rfl rfl rfl rfl (by decide) (Yd.mv rfl (.t rfl)) ?_
    refine W.q rfl rfl rfl rfl (by decide) (Yd.mv rfl (.t rfl)) ?_
    refine W.e rfl rfl rfl rfl (by decide) (Ef.call (R := fun z x' => ∃ v10 : Value, z = .int .i64 r8.1 ∧ x' = ⟨m, hcells b6 [v10, (.map (some b4))] 67 :: hownT 71 3 Branch.enc v10 r8.2.l :: hmap b4 ek71 ev3 r8.2.known :: l⟩) rfl Try.func40 rfl rfl (.cons (.t rfl) (.cons .c (.cons (.t rfl) (.cons (.t rfl) .nil)))) (by intro w hw; replace hw := cX_front (p := 1) hw rfl; replace hw := cX_front (p := 2) hw rfl; replace hw := cX_front (p := 2) hw rfl; exact (choice_maker_table_ok w0 _ _ fuel _ _ _ _ ((0 : Int)) n_0 _ _ hf_1 _ hr9 w hw).mono fun e w' ⟨v10, he, hc'⟩ => ⟨_, _, he, ⟨v10, rfl, rfl⟩, hc'⟩)) ?_
    rintro _ _ ⟨v10, rfl, rfl⟩
    refine ⟨.inl rfl, ?_⟩
    refine W.cast (m' := m) (l' := hcells b6 [_, _] 67 :: hownT 71 3 Branch.enc v10 _ :: hmap b4 ek71 ev3 _ :: l) rfl rfl ?_
    refine W.q rfl rfl rfl rfl (by decide) (Yd.as rfl (.t rfl)) ?_
    refine W.end ?_
    refine NX.sub (env' := [(8, _), (9, _)]) ⟨rfl, rfl, trivial⟩ ?_
    refine NX.then ?_
    refine Tr.seq ?_
    refine Tr.region_f (fun _ => false) ?_
    refine W.q rfl rfl rfl rfl (by decide) (Yd.mv rfl (.t rfl)) ?_
    refine W.q rfl rfl rfl rfl (by decide) (Yd.nilc rfl (.t rfl)) ?_
    refine W.q rfl rfl rfl rfl (by decide) (Yd.fldB rfl Try.underlying67 rfl SZ22 rfl (.t rfl)) ?_
    refine W.q rfl rfl rfl rfl (by decide) (Yd.ldB (pos := 0) rfl rfl rfl ON22 (.t rfl)) ?_
    refine W.q rfl rfl rfl rfl (by decide) (Yd.mv rfl (.t rfl)) ?_
    refine W.q rfl rfl rfl rfl (by decide) (Yd.as rfl (.t rfl)) ?_
    refine W.q rfl rfl rfl rfl (by decide) (Yd.as rfl (.t rfl)) ?_
    refine W.q rfl rfl rfl rfl (by decide) (Yd.as rfl .c) ?_
    refine W.end ?_
    refine NX.sub (env' := [(4, _), (5, _), (6, _)]) ⟨rfl, rfl, rfl, trivial⟩ ?_
    refine NX.drop (l' := hownT 71 3 Branch.enc v10 _ :: l) (.cons _ (.cons_cons _ (.cons _ (.refl _)))) ?_
    refine NX.then ?_
    refine Tr.ret' ?_
    refine res3 rfl rfl rfl rfl ?_
    intro w hc
    cases hr
    exact ⟨_, rfl, hc⟩

def syllogistref_TruthCheck (n_0 : Int) (f_1 : List Bool) : Option (Int) :=
  (bif ((decide (n_0 < (0 : Int))) || (decide (n_0 > (4 : Int)))) then
  some ((1 : Int))
  else
  (bif ((f_1.length : Int) != (ishl ((1 : Int)) (((BitVec.ofInt 64 n_0)).toNat))) then
  some ((3 : Int))
  else
  some ((0 : Int))))

set_option maxRecDepth 100000 in
set_option maxHeartbeats 4000000 in
theorem syllogistref_TruthCheck_ok (w0 : World) (m : Snap) (l : List HI) (n_0 : Int) (uf_1 : Value) (f_1 : List Bool) (hf_1 : RS rB m uf_1 f_1) (r : Int) (hr : syllogistref_TruthCheck n_0 f_1 = some r) (w : World) (hc : cX w0 ⟨m, l⟩ w) :
    Calls Try.prog 17 [.int .i64 n_0, uf_1].toArray w fun e w' => e = .returned (.int .i64 r) ∧ cX w0 ⟨m, l⟩ w' := by
  unfold syllogistref_TruthCheck at hr
  refine calls_of_Tr (N := 17) Try.func17 rfl hc rfl (Nat.le_of_ble_eq_true rfl) ?_
  refine Tr.seq ?_
  refine Tr.region_f (fun _ => false) ?_
  refine W.q rfl rfl rfl rfl (by decide) (Yd.as rfl .c) ?_
  refine W.end ?_
  refine NX.sub (env' := [(0, _), (1, _)]) ⟨rfl, rfl, trivial⟩ ?_
  refine NX.then ?_
  refine Tr.seq ?_
  refine Tr.seq ?_
  refine Tr.region_f (fun _ => false) ?_
  refine W.q rfl rfl rfl rfl (by decide) (Yd.mv rfl (.t rfl)) ?_
  refine W.q rfl rfl rfl rfl (by decide) (Yd.lss rfl (.t rfl) .c) ?_
  refine W.q rfl rfl rfl rfl (by decide) (Yd.mv rfl (.t rfl)) ?_
  refine W.g rfl rfl rfl rfl rfl (.t rfl _) rfl (by decide) (fun hG => Yd.mv rfl (.t rfl)) ?_
  refine W.g rfl rfl rfl rfl rfl (.t rfl _) rfl (by decide) (fun hG => Yd.gtr rfl (.g rfl hG) .c) ?_
  refine W.q rfl rfl rfl rfl (by decide) (Yd.or rfl (.t rfl) .c rfl rfl) ?_
  refine W.end ?_
  refine NX.sub (env' := [(0, _), (1, _), (10, _)]) ⟨rfl, rfl, rfl, trivial⟩ ?_
  refine NX.then ?_
  refine Tr.cond (.t rfl) (fun hb => ?_) (fun hb => ?_)
  · have hr := cond_t hb hr
    refine Tr.seq ?_
    refine Tr.region_f (fun _ => false) ?_
    refine W.q rfl rfl rfl rfl (by decide) (Yd.as rfl .c) ?_
    refine W.end ?_
    refine NX.sub (env' := [(4, _)]) ⟨rfl, trivial⟩ ?_
    refine NX.then ?_
    refine Tr.ret' (RT.then ?_)
    refine res1 rfl rfl ?_
    intro w hc
    cases hr
    exact ⟨rfl, hc⟩
  · have hr := cond_f hb hr
    refine Tr.skip' ?_
    refine NX.then ?_
    refine Tr.seq ?_
    refine Tr.seq ?_
    refine Tr.region_f (fun _ => false) ?_
    refine W.q rfl rfl rfl rfl (by decide) (Yd.mv rfl (.t rfl)) ?_
    refine W.q rfl rfl rfl rfl (by decide) (Yd.lenR hf_1 rfl Try.underlying23 (.t rfl)) ?_
    refine W.q rfl rfl rfl rfl (by decide) (Yd.mv rfl (.t rfl)) ?_
    refine W.q rfl rfl rfl rfl (by decide) (Yd.cvQ rfl US3 Try.underlying48 (.t rfl)) ?_
    refine W.q rfl rfl rfl rfl (by decide) (Yd.shlI rfl .c (.t rfl) (Int.natCast_nonneg _)) ?_
    refine W.q rfl rfl rfl rfl (by decide) (Yd.neq rfl (.t rfl) (.t rfl)) ?_
    refine W.end ?_
    refine NX.sub (env' := [(16, _)]) ⟨rfl, trivial⟩ ?_
    refine NX.then ?_
    refine Tr.cond (.t rfl) (fun hb => ?_) (fun hb => ?_)
    · have hr := cond_t hb hr
      refine Tr.seq ?_
      refine Tr.region_f (fun _ => false) ?_
      refine W.q rfl rfl rfl rfl (by decide) (Yd.as rfl .c) ?_
      refine W.end ?_
      refine NX.sub (env' := [(4, _)]) ⟨rfl, trivial⟩ ?_
      refine NX.then ?_
      refine Tr.ret' (RT.then ?_)
      refine res1 rfl rfl ?_
      intro w hc
      cases hr
      exact ⟨rfl, hc⟩
    · have hr := cond_f hb hr
      refine Tr.skip' ?_
      refine NX.then ?_
      refine Tr.seq ?_
      refine Tr.region_f (fun _ => false) ?_
      refine W.q rfl rfl rfl rfl (by decide) (Yd.as rfl .c) ?_
      refine W.end ?_
      refine NX.sub (env' := [(4, _)]) ⟨rfl, trivial⟩ ?_
      refine NX.then ?_
      refine Tr.ret' ?_
      refine res1 rfl rfl ?_
      intro w hc
      cases hr
      exact ⟨rfl, hc⟩

def syllogistref_grow_k17 (v_2 : Int) (r3 : (List Branch) × Int) (r8 : (List Branch) × Int) : Option ((List Branch) × Int) :=
  bif decide ((([] : List Branch)).length + r8.1.length ≤ 5864062014805) then
  bif decide (((([] : List Branch) ++ r8.1)).length + (([({ var := v_2, low := r3.2, high := r8.2 } : Branch)] : List Branch)).length ≤ 5864062014805) then
  some ((((([] : List Branch) ++ r8.1) ++ ([({ var := v_2, low := r3.2, high := r8.2 } : Branch)] : List Branch)), (w64 ((r8.1.length : Int) + (2 : Int))))) else none else none

def syllogistref_grow_b531 (v_2 : Int) (r3 : (List Branch) × Int) (r8 : (List Branch) × Int) (t_530 : Int) (nx532 : Unit → Option ((List Branch) × Int)) : Option ((List Branch) × Int) :=
  (geti r8.1 t_530).bind fun y534 =>
  (bif ((y534.var == v_2) && ((y534.low == r3.2) && ((y534.high == r8.2) && true))) then
  some ((r8.1, (w64 (t_530 + (2 : Int)))))
  else
  nx532 ())

def syllogistref_grow_s (slf : (Int → (List Bool) → Int → (BitVec 32) → (List Branch) → Option ((List Branch) × Int))) (n_0 : Int) (f_1 : List Bool) (v_2 : Int) (fixed_3 : (BitVec 32)) (l_4 : List Branch) : Option ((List Branch) × Int) :=
  (bif (v_2 == n_0) then
  (geti f_1 ((fixed_3.toNat : Int))).bind fun y1 =>
  (bif y1 then
  some ((l_4, (1 : Int)))
  else
  some ((l_4, (0 : Int))))
  else
  (slf n_0 f_1 ((w64 (v_2 + (1 : Int)))) fixed_3 l_4).bind fun r3 =>
  (slf n_0 f_1 ((w64 (v_2 + (1 : Int)))) ((fixed_3 ||| (1#32 <<< ((BitVec.ofInt 64 v_2)).toNat))) r3.1).bind fun r8 =>
  (bif (r3.2 == r8.2) then
  some ((r8.1, r3.2))
  else
  forK (σ := Unit) (fun i s nx_ => syllogistref_grow_b531 v_2 r3 r8 i nx_) (fun _ => syllogistref_grow_k17 v_2 r3 r8) ((r8.1.length : Int) - (0 : Int)).toNat (0 : Int) ()))

def syllogistref_grow (fuel : Nat) (n_0 : Int) (f_1 : List Bool) (v_2 : Int) (fixed_3 : (BitVec 32)) (l_4 : List Branch) : Option ((List Branch) × Int) :=
  match fuel with
  | 0 => none
  | fuel + 1 => syllogistref_grow_s (syllogistref_grow fuel) n_0 f_1 v_2 fixed_3 l_4

set_option maxRecDepth 100000 in
set_option maxHeartbeats 4000000 in
theorem syllogistref_grow_ok (w0 : World) (m : Snap) (l : List HI) (fuel : Nat) : ∀ (n_0 : Int) (uf_1 : Value) (f_1 : List Bool) (hf_1 : RS rB m uf_1 f_1) (v_2 : Int) (fixed_3 : (BitVec 32)) (ul_4 : Value) (l_4 : List Branch) (hl_4 : RS rBranch m ul_4 l_4) (r : (List Branch) × Int) (_ : syllogistref_grow fuel n_0 f_1 v_2 fixed_3 l_4 = some r) (w : World) (_ : cX w0 ⟨m, l⟩ w),
    Calls Try.prog 41 [.int .i64 n_0, uf_1, .int .i64 v_2, .int .u32 (fixed_3.toNat : Int), ul_4].toArray w fun e w' => ∃ z0 : Value, ∃ m1 : Snap, e = .returned (.tuple #[z0, .int .i64 r.2]) ∧ Sle m m1 ∧ RS rBranch m1 z0 r.1 ∧ cX w0 ⟨m1, l⟩ w' := by
  induction fuel generalizing m l with
  | zero => intro n_0 uf_1 f_1 hf_1 v_2 fixed_3 ul_4 l_4 hl_4 r hr; simp [syllogistref_grow] at hr
  | succ fuel ih =>
  intro n_0 uf_1 f_1 hf_1 v_2 fixed_3 ul_4 l_4 hl_4 r hr w hc
  replace hr : syllogistref_grow_s (syllogistref_grow fuel) n_0 f_1 v_2 fixed_3 l_4 = some r := hr
  obtain ⟨slf, hslf⟩ : ∃ f, f = syllogistref_grow fuel := ⟨_, rfl⟩
  rw [← hslf] at hr ih
  unfold syllogistref_grow_s at hr
  refine calls_of_Tr (N := 82) Try.func41 rfl hc rfl (Nat.le_of_ble_eq_true rfl) ?_
  refine Tr.seq ?_
  refine Tr.region_f (fun _ => false) ?_
  refine W.q rfl rfl rfl rfl (by decide) (Yd.as rfl .c) ?_
  refine W.q rfl rfl rfl rfl (by decide) (Yd.as rfl .c) ?_
  refine W.end ?_
  refine NX.sub (env' := [(0, _), (1, _), (2, _), (3, _), (4, _)]) ⟨rfl, rfl, rfl, rfl, rfl, trivial⟩ ?_
  refine NX.then ?_
  refine Tr.seq ?_
  refine Tr.seq ?_
  refine Tr.region_f (fun _ => false) ?_
  refine W.q rfl rfl rfl rfl (by decide) (Yd.mv rfl (.t rfl)) ?_
  refine W.q rfl rfl rfl rfl (by decide) (Yd.mv rfl (.t rfl)) ?_
  refine W.q rfl rfl rfl rfl (by decide) (Yd.eql rfl (.t rfl) (.t rfl)) ?_
  refine W.end ?_
  refine NX.sub (env' := [(0, _), (1, _), (2, _), (3, _), (4, _), (19, _)]) ⟨rfl, rfl, rfl, rfl, rfl, rfl, trivial⟩ ?_
  refine NX.then ?_
  refine Tr.cond (.t rfl) (fun hb => ?_) (fun hb => ?_)
  · have hr := cond_t hb hr
    refine Tr.seq ?_
    refine Tr.seq ?_
    obtain ⟨y1, hy2, hr⟩ := bind_some hr
    refine Tr.region_f (fun _ => false) ?_
    refine W.q rfl rfl rfl rfl (by decide) (Yd.mv rfl (.t rfl)) ?_
    refine W.q rfl rfl rfl rfl (by decide) (Yd.mv rfl (.t rfl)) ?_
    refine W.q rfl rfl rfl rfl (by decide) (Yd.idxR hf_1 hy2 rfl Try.underlying23 SZ4 (.t rfl) (.t rfl)) ?_
    refine W.q rfl rfl rfl rfl (by decide) (Yd.ldF hf_1 (.refl _) hy2 rfl rfl ON4 (.t rfl)) ?_
    refine W.end ?_
    refine NX.sub (env' := [(4, _), (23, _)]) ⟨rfl, rfl, trivial⟩ ?_
    refine NX.then ?_
    refine Tr.cond (.t rfl) (fun hb => ?_) (fun hb => ?_)
    · have hr := cond_t hb hr
      refine Tr.seq ?_
      refine Tr.region_f (fun _ => false) ?_
      refine W.q rfl rfl rfl rfl (by decide) (Yd.mv rfl (.t rfl)) ?_
      refine W.q rfl rfl rfl rfl (by decide) (Yd.as rfl (.t rfl)) ?_
      refine W.q rfl rfl rfl rfl (by decide) (Yd.as rfl .c) ?_
      refine W.end ?_
      refine NX.sub (env' := [(10, _), (11, _)]) ⟨rfl, rfl, trivial⟩ ?_
      refine NX.then ?_
      refine Tr.ret' (RT.then (RT.then ?_))
      refine res2 rfl rfl rfl ?_
      intro w hc
      cases hr
      exact ⟨_, _, rfl, (.refl _), hl_4, hc⟩
    · have hr := cond_f hb hr
      refine Tr.skip' ?_
      refine NX.then ?_
      refine Tr.seq ?_
      refine Tr.region_f (fun _ => false) ?_
      refine W.q rfl rfl rfl rfl (by decide) (Yd.mv rfl (.t rfl)) ?_
      refine W.q rfl rfl rfl rfl (by decide) (Yd.as rfl (.t rfl)) ?_
      refine W.q rfl rfl rfl rfl (by decide) (Yd.as rfl .c) ?_
      refine W.end ?_
      refine NX.sub (env' := [(10, _), (11, _)]) ⟨rfl, rfl, trivial⟩ ?_
      refine NX.then ?_
      refine Tr.ret' (RT.then ?_)
      refine res2 rfl rfl rfl ?_
      intro w hc
      cases hr
      exact ⟨_, _, rfl, (.refl _), hl_4, hc⟩
  · have hr := cond_f hb hr
    refine Tr.skip' ?_
    refine NX.then ?_
    refine Tr.seq ?_
    obtain ⟨r3, hr4, hr⟩ := bind_some hr
    refine Tr.region_f (fun i => Nat.beq i 6) ?_
    refine W.q rfl rfl rfl rfl (by decide) (Yd.mv rfl (.t rfl)) ?_
    refine W.q rfl rfl rfl rfl (by decide) (Yd.mv rfl (.t rfl)) ?_
    refine W.q rfl rfl rfl rfl (by decide) (Yd.mv rfl (.t rfl)) ?_
    refine W.q rfl rfl rfl rfl (by decide) (Yd.add rfl (.t rfl) .c) ?_
    refine W.q rfl rfl rfl rfl (by decide) (Yd.mv rfl (.t rfl)) ?_
    refine W.q rfl rfl rfl rfl (by decide) (Yd.mv rfl (.t rfl)) ?_
    refine W.e rfl rfl rfl rfl (by decide) (Ef.call (R := fun z x' => ∃ u5 : Value, ∃ m6 : Snap, z = .tuple #[u5, .int .i64 r3.2] ∧ x' = ⟨m6, l⟩ ∧ Sle m m6 ∧ RS rBranch m6 u5 r3.1) rfl Try.func41 rfl rfl (.cons (.t rfl) (.cons (.t rfl) (.cons (.t rfl) (.cons (.t rfl) (.cons (.t rfl) .nil))))) (fun w hw => (ih _ _ n_0 _ _ hf_1 ((w64 (v_2 + (1 : Int)))) fixed_3 _ _ hl_4 _ hr4 w hw).mono fun e w' ⟨u5, m6, he, hm', hu7, hc'⟩ => ⟨_, _, he, ⟨u5, m6, rfl, rfl, hm', hu7⟩, hc'⟩)) ?_
    rintro _ _ ⟨u5, m6, rfl, rfl, hsm6, hu7⟩
    have hf_1 := hf_1.mono hsm6
    have hl_4 := hl_4.mono hsm6
    refine ⟨.inl rfl, ?_⟩
    refine W.cast (m' := m6) (l' := l) rfl rfl ?_
    refine W.q rfl rfl rfl rfl (by decide) (Yd.mv rfl (.t rfl)) ?_
    refine W.q rfl rfl rfl rfl (by decide) (Yd.ext rfl (.t rfl) rfl) ?_
    refine W.q rfl rfl rfl rfl (by decide) (Yd.ext rfl (.t rfl) rfl) ?_
    refine W.q rfl rfl rfl rfl (by decide) (Yd.as rfl (.t rfl)) ?_
    refine W.q rfl rfl rfl rfl (by decide) (Yd.as rfl (.t rfl)) ?_
    refine W.end ?_
    refine NX.sub (env' := [(0, _), (1, _), (2, _), (3, _), (4, _), (12, _)]) ⟨rfl, rfl, rfl, rfl, rfl, rfl, trivial⟩ ?_
    refine NX.then ?_
    refine Tr.seq ?_
    obtain ⟨r8, hr9, hr⟩ := bind_some hr
    refine Tr.region_f (fun i => Nat.beq i 10) ?_
    refine W.q rfl rfl rfl rfl (by decide) (Yd.mv rfl (.t rfl)) ?_
    refine W.q rfl rfl rfl rfl (by decide) (Yd.mv rfl (.t rfl)) ?_
    refine W.q rfl rfl rfl rfl (by decide) (Yd.mv rfl (.t rfl)) ?_
    refine W.q rfl rfl rfl rfl (by decide) (Yd.add rfl (.t rfl) .c) ?_
    refine W.q rfl rfl rfl rfl (by decide) (Yd.mv rfl (.t rfl)) ?_
    refine W.q rfl rfl rfl rfl (by decide) (Yd.mv rfl (.t rfl)) ?_
    refine W.q rfl rfl rfl rfl (by decide) (Yd.cvQ rfl US3 Try.underlying48 (.t rfl)) ?_
    refine W.q rfl rfl rfl rfl (by decide) (Yd.shlU (a := 1#32) rfl .c (.t rfl) (Int.natCast_nonneg _)) ?_
    refine W.q rfl rfl rfl rfl (by decide) (Yd.orU (a := fixed_3) (b := (1#32 <<< ((BitVec.ofInt 64 v_2)).toNat)) rfl (.t rfl) (.t rfl)) ?_
    refine W.q rfl rfl rfl rfl (by decide) (Yd.mv rfl (.t rfl)) ?_
    refine W.e rfl rfl rfl rfl (by decide) (Ef.call (R := fun z x' => ∃ u10 : Value, ∃ m11 : Snap, z = .tuple #[u10, .int .i64 r8.2] ∧ x' = ⟨m11, l⟩ ∧ Sle m6 m11 ∧ RS rBranch m11 u10 r8.1) rfl Try.func41 rfl rfl (.cons (.t rfl) (.cons (.t rfl) (.cons (.t rfl) (.cons (.t rfl) (.cons (.t rfl) .nil))))) (fun w hw => (ih _ _ n_0 _ _ hf_1 ((w64 (v_2 + (1 : Int)))) ((fixed_3 ||| (1#32 <<< ((BitVec.ofInt 64 v_2)).toNat))) _ _ hu7 _ hr9 w hw).mono fun e w' ⟨u10, m11, he, hm', hu12, hc'⟩ => ⟨_, _, he, ⟨u10, m11, rfl, rfl, hm', hu12⟩, hc'⟩)) ?_
    rintro _ _ ⟨u10, m11, rfl, rfl, hsm11, hu12⟩
    have hf_1 := hf_1.mono hsm11
    have hl_4 := hl_4.mono hsm11
    have hu7 := hu7.mono hsm11
    refine ⟨.inl rfl, ?_⟩
    refine W.cast (m' := m11) (l' := l) rfl rfl ?_
    refine W.q rfl rfl rfl rfl (by decide) (Yd.mv rfl (.t rfl)) ?_
    refine W.q rfl rfl rfl rfl (by decide) (Yd.ext rfl (.t rfl) rfl) ?_
    refine W.q rfl rfl rfl rfl (by decide) (Yd.ext rfl (.t rfl) rfl) ?_
    refine W.q rfl rfl rfl rfl (by decide) (Yd.as rfl (.t rfl)) ?_
    refine W.q rfl rfl rfl rfl (by decide) (Yd.as rfl (.t rfl)) ?_
    refine W.end ?_
    refine NX.sub (env' := [(2, _), (4, _), (12, _), (13, _)]) ⟨rfl, rfl, rfl, rfl, trivial⟩ ?_
    refine NX.then ?_
    refine Tr.seq ?_
    refine Tr.seq ?_
    refine Tr.region_f (fun _ => false) ?_
    refine W.q rfl rfl rfl rfl (by decide) (Yd.mv rfl (.t rfl)) ?_
    refine W.q rfl rfl rfl rfl (by decide) (Yd.mv rfl (.t rfl)) ?_
    refine W.q rfl rfl rfl rfl (by decide) (Yd.eql rfl (.t rfl) (.t rfl)) ?_
    refine W.end ?_
    refine NX.sub (env' := [(2, _), (4, _), (12, _), (13, _), (52, _)]) ⟨rfl, rfl, rfl, rfl, rfl, trivial⟩ ?_
    refine NX.then ?_
    refine Tr.cond (.t rfl) (fun hb => ?_) (fun hb => ?_)
    · have hr := cond_t hb hr
      refine Tr.seq ?_
      refine Tr.region_f (fun _ => false) ?_
      refine W.q rfl rfl rfl rfl (by decide) (Yd.mv rfl (.t rfl)) ?_
      refine W.q rfl rfl rfl rfl (by decide) (Yd.mv rfl (.t rfl)) ?_
      refine W.q rfl rfl rfl rfl (by decide) (Yd.as rfl (.t rfl)) ?_
      refine W.q rfl rfl rfl rfl (by decide) (Yd.as rfl (.t rfl)) ?_
      refine W.end ?_
      refine NX.sub (env' := [(10, _), (11, _)]) ⟨rfl, rfl, trivial⟩ ?_
      refine NX.then ?_
      refine Tr.ret' (RT.then ?_)
      refine res2 rfl rfl rfl ?_
      intro w hc
      cases hr
      exact ⟨_, _, rfl, (hsm6.trans hsm11), hu12, hc⟩
    · have hr := cond_f hb hr
      refine Tr.skip' ?_
      refine NX.then ?_
      refine Tr.seq ?_
      refine Tr.region_f (fun i => Nat.beq i 4 || Nat.beq i 5) ?_
      refine W.q rfl rfl rfl rfl (by decide) (Yd.mv rfl (.t rfl)) ?_
      refine W.q rfl rfl rfl rfl (by decide) (Yd.mv rfl (.t rfl)) ?_
      refine W.q rfl rfl rfl rfl (by decide) (Yd.mv rfl (.t rfl)) ?_
      refine W.q rfl rfl rfl rfl (by decide) (Yd.bld (cells := [.int .i64 v_2, .int .i64 r3.2, .int .i64 r8.2]) rfl ZI71 PL71 (.cons (.t rfl) (.cons (.t rfl) (.cons (.t rfl) .nil))) rfl) ?_
      refine W.e rfl rfl rfl rfl (by decide) (Ef.al rfl ZR71 rfl) ?_
      rintro _ _ ⟨b13, rfl, rfl⟩
      refine ⟨.inl rfl, ?_⟩
      refine W.cast (m' := m11) (l' := hcells b13 [_, _, _] 71 :: l) rfl rfl ?_
      refine W.s rfl rfl rfl rfl (Ef.stB (pos := 0) (us := [_, _, _]) (cs' := [_, _, _]) rfl rfl (.t rfl) (.t rfl) SZ71 rfl rfl rfl (Nat.le_of_ble_eq_true rfl) rfl) ?_
      rintro _ _ ⟨rfl, rfl⟩
      refine ⟨.inl rfl, ?_⟩
      refine W.cast (m' := m11) (l' := hcells b13 [_, _, _] 71 :: l) rfl rfl ?_
      refine W.end ?_
      refine NX.sub (env' := [(4, _), (14, _)]) ⟨rfl, rfl, trivial⟩ ?_
      refine NX.then ?_
      refine Tr.seq ?_
      refine Tr.seq ?_
      refine Tr.region_f (fun _ => false) ?_
      refine W.q rfl rfl rfl rfl (by decide) (Yd.mv rfl (.t rfl)) ?_
      refine W.q rfl rfl rfl rfl (by decide) (Yd.lenR hu12 rfl Try.underlying22 (.t rfl)) ?_
      refine W.q rfl rfl rfl rfl (by decide) (Yd.mv rfl .c) ?_
      refine W.end ?_
      refine NX.sub (env' := [(4, _), (14, _), (59, _), (60, _), (61, _)]) ⟨rfl, rfl, rfl, rfl, rfl, trivial⟩ ?_
      refine NX.then ?_
      refine Tr.join (S := fun env x => env = [(4, u10), (14, bp b13 0)] ∧ x = ⟨m11, hcells b13 [.int .i64 v_2, .int .i64 r3.2, .int .i64 r8.2] 71 :: l⟩ ∧ syllogistref_grow_k17 v_2 r3 r8 = some r) ?_ (fun hk18 => ?_)
      · rintro _ _ ⟨rfl, rfl, hr⟩
        unfold syllogistref_grow_k17 at hr
        try dsimp only at hr
        refine NX.then ?_
        refine Tr.seq ?_
        refine Tr.join (S := fun env x => ∃ v269 : Value, env = [(10, v269), (11, .int .i64 ((w64 ((r8.1.length : Int) + (2 : Int)))))] ∧ x = ⟨m11, hownT 71 3 Branch.enc v269 (((([] : List Branch) ++ r8.1) ++ ([({ var := v_2, low := r3.2, high := r8.2 } : Branch)] : List Branch))) :: l⟩ ∧ (some ((((([] : List Branch) ++ r8.1) ++ ([({ var := v_2, low := r3.2, high := r8.2 } : Branch)] : List Branch)), (w64 ((r8.1.length : Int) + (2 : Int)))))) = some r) ?_ (fun hk469 => ?_)
        · rintro _ _ ⟨v269, rfl, rfl, hr⟩
          refine NX.then ?_
          refine Tr.ret' ?_
          refine res2 rfl rfl rfl ?_
          intro w hc
          cases hr
          obtain ⟨m529, hsm529, hu530, hc⟩ := cX_freeze (enc := Branch.enc) (n := 3) (p := 0) (fun _ => rfl) hc rfl
          have hf_1 := hf_1.mono hsm529
          have hl_4 := hl_4.mono hsm529
          have hu7 := hu7.mono hsm529
          have hu12 := hu12.mono hsm529
          exact ⟨_, _, rfl, ((hsm6.trans hsm11).trans hsm529), hu530, hc⟩
        obtain ⟨hq150, hr⟩ := guard_some hr; replace hq150 := of_decide_eq_true hq150
        obtain ⟨hq270, hr⟩ := guard_some hr; replace hq270 := of_decide_eq_true hq270
        refine Tr.region_xJ (fun x => Sle m11 x.m ∧ (∃ p : Nat, x.l[p]? = some (hcells b13 [.int .i64 v_2, .int .i64 r3.2, .int .i64 r8.2] 71)) ∧ True) (fun _ _ hx h => by obtain ⟨hm, ⟨_, h0⟩, _⟩ := h; exact ⟨hm.trans hx.1, hx.at h0, trivial⟩) (fun i => Nat.beq i 2) (fun i => Nat.beq i 3) (fun i => Nat.beq i 0 || Nat.beq i 2 || Nat.beq i 4 || Nat.beq i 5) (fun i => Nat.beq i 2 || Nat.beq i 3 || Nat.beq i 5 || Nat.beq i 6 || Nat.beq i 7 || Nat.beq i 8) (.one 1 (.one 3 (.one 6 (.one 7 (.one 8 (.two 0 4 (.two 2 4 (Ord.of [4, 5, 9, 10]) (Ord.of [2, 5, 9, 10])) (Ord.of [0, 2, 5, 9, 10]))))))) FM (by kernel_rfl) ?_
        refine W.q rfl rfl rfl rfl (by decide) (Yd.mv rfl (.t rfl)) ?_
        refine W.pJ rfl rfl rfl rfl (by decide) (fun _ h => by obtain ⟨jhm, ⟨jp0, jhp0⟩, _⟩ := h; exact Yd.ldBs (pos := jp0) (us := [_, _, _]) jhp0 rfl rfl rfl ON71 US71 SZ71 (.t rfl)) ⟨(.refl _), ⟨0, rfl⟩, trivial⟩ rfl ?_
        refine W.p rfl rfl rfl rfl (by decide) (fun _ => Yd.mv rfl (.t rfl)) ?_
        refine W.p rfl rfl rfl rfl (by decide) (fun _ => Yd.lenR hu12 rfl Try.underlying22 (.t rfl)) ?_
        refine W.p rfl rfl rfl rfl (by decide) (fun _ => Yd.add rfl (.t rfl) .c) ?_
        refine W.two ?_ ?_
        ·
          refine W.e rfl rfl rfl rfl (by decide) (Ef.bsT (enc := Branch.enc) (vs := []) (ys := []) (fun _ => rfl) IF71 rfl Try.underlying22 (by decide) rfl .nil rfl rfl (by decide)) ?_ (hJ := fun _ _ _ h => absurd (show false = true from h) (by decide))
          rintro v69 _ rfl
          refine ⟨.inr ⟨.refl _, [_], rfl⟩, ?_⟩
          refine W.cast (m' := m11) (l' := hownT 71 3 Branch.enc v69 _ :: hcells b13 [_, _, _] 71 :: l) rfl rfl ?_
          refine W.two ?_ ?_
          ·
            refine W.e rfl rfl rfl rfl (by decide) (Ef.apI (pos := 0) (enc := Branch.enc) (xs := ([] : List Branch)) (ys := r8.1) (fun _ => rfl) IF71 rfl rfl Try.underlying22 rfl (by decide) (.t rfl) (.t rfl) (Src.rs (by decide) (.refl _) hu12) (fun _ => rfl) (by omega) (by omega)) ?_ (hJ := by rintro v149 _ rfl; exact fun _ => ⟨(.refl _), ⟨1, rfl⟩, trivial⟩)
            rintro v149 _ rfl
            refine ⟨.inl rfl, ?_⟩
            refine W.cast (m' := m11) (l' := hownT 71 3 Branch.enc v149 _ :: hcells b13 [_, _, _] 71 :: l) rfl rfl ?_
            refine W.e rfl rfl rfl rfl (by decide) (Ef.bsT (enc := Branch.enc) (vs := [_]) (ys := [({ var := v_2, low := r3.2, high := r8.2 } : Branch)]) (fun _ => rfl) IF71 rfl Try.underlying22 (by decide) rfl (.cons (.t rfl) .nil) rfl rfl (by decide)) ?_ (hJ := fun _ _ _ h => absurd (show false = true from h) (by decide))
            rintro v229 _ rfl
            refine ⟨.inr ⟨.refl _, [_], rfl⟩, ?_⟩
            refine W.cast (m' := m11) (l' := hownT 71 3 Branch.enc v229 _ :: hownT 71 3 Branch.enc v149 _ :: hcells b13 [_, _, _] 71 :: l) rfl rfl ?_
            refine W.e rfl rfl rfl rfl (by decide) (Ef.apI (pos := 1) (enc := Branch.enc) (xs := (([] : List Branch) ++ r8.1)) (ys := ([({ var := v_2, low := r3.2, high := r8.2 } : Branch)] : List Branch)) (fun _ => rfl) IF71 rfl rfl Try.underlying22 rfl (by decide) (.t rfl) (.t rfl) (Src.own (pos := 0) rfl) (fun _ => rfl) (by omega) (by omega)) ?_ (hJ := fun _ _ _ h => absurd (show false = true from h) (by decide))
            rintro v269 _ rfl
            refine ⟨.inl rfl, ?_⟩
            refine W.cast (m' := m11) (l' := hownT 71 3 Branch.enc v229 _ :: hownT 71 3 Branch.enc v269 _ :: hcells b13 [_, _, _] 71 :: l) rfl rfl ?_
            refine W.q rfl rfl rfl rfl (by decide) (Yd.as rfl (.t rfl)) ?_
            refine W.q rfl rfl rfl rfl (by decide) (Yd.as rfl (.t rfl)) ?_
            refine W.end ?_
            refine NX.sub (env' := [(10, _), (11, _)]) ⟨rfl, rfl, trivial⟩ ?_
            refine NX.drop (l' := hownT 71 3 Branch.enc v269 _ :: l) (.cons _ (.cons_cons _ (.cons _ (.refl _)))) ?_
            exact hk469 _ _ ⟨_, rfl, rfl, hr⟩
          ·
            refine W.e rfl rfl rfl rfl (by decide) (Ef.bsT (enc := Branch.enc) (vs := [_]) (ys := [({ var := v_2, low := r3.2, high := r8.2 } : Branch)]) (fun _ => rfl) IF71 rfl Try.underlying22 (by decide) rfl (.cons (.t rfl) .nil) rfl rfl (by decide)) ?_ (hJ := fun _ _ _ h => absurd (show false = true from h) (by decide))
            rintro v229 _ rfl
            refine ⟨.inr ⟨.refl _, [_], rfl⟩, ?_⟩
            refine W.cast (m' := m11) (l' := hownT 71 3 Branch.enc v229 _ :: hownT 71 3 Branch.enc v69 _ :: hcells b13 [_, _, _] 71 :: l) rfl rfl ?_
            refine W.e rfl rfl rfl rfl (by decide) (Ef.apI (pos := 1) (enc := Branch.enc) (xs := ([] : List Branch)) (ys := r8.1) (fun _ => rfl) IF71 rfl rfl Try.underlying22 rfl (by decide) (.t rfl) (.t rfl) (Src.rs (by decide) (.refl _) hu12) (fun _ => rfl) (by omega) (by omega)) ?_ (hJ := by rintro v149 _ rfl; exact fun _ => ⟨(.refl _), ⟨2, rfl⟩, trivial⟩)
            rintro v149 _ rfl
            refine ⟨.inl rfl, ?_⟩
            refine W.cast (m' := m11) (l' := hownT 71 3 Branch.enc v229 _ :: hownT 71 3 Branch.enc v149 _ :: hcells b13 [_, _, _] 71 :: l) rfl rfl ?_
            refine W.e rfl rfl rfl rfl (by decide) (Ef.apI (pos := 1) (enc := Branch.enc) (xs := (([] : List Branch) ++ r8.1)) (ys := ([({ var := v_2, low := r3.2, high := r8.2 } : Branch)] : List Branch)) (fun _ => rfl) IF71 rfl rfl Try.underlying22 rfl (by decide) (.t rfl) (.t rfl) (Src.own (pos := 0) rfl) (fun _ => rfl) (by omega) (by omega)) ?_ (hJ := fun _ _ _ h => absurd (show false = true from h) (by decide))
            rintro v269 _ rfl
            refine ⟨.inl rfl, ?_⟩
            refine W.cast (m' := m11) (l' := hownT 71 3 Branch.enc v229 _ :: hownT 71 3 Branch.enc v269 _ :: hcells b13 [_, _, _] 71 :: l) rfl rfl ?_
            refine W.q rfl rfl rfl rfl (by decide) (Yd.as rfl (.t rfl)) ?_
            refine W.q rfl rfl rfl rfl (by decide) (Yd.as rfl (.t rfl)) ?_
            refine W.end ?_
            refine NX.sub (env' := [(10, _), (11, _)]) ⟨rfl, rfl, trivial⟩ ?_
            refine NX.drop (l' := hownT 71 3 Branch.enc v269 _ :: l) (.cons _ (.cons_cons _ (.cons _ (.refl _)))) ?_
            exact hk469 _ _ ⟨_, rfl, rfl, hr⟩
        ·
          refine W.e rfl rfl rfl rfl (by decide) (Ef.bsT (enc := Branch.enc) (vs := [_]) (ys := [({ var := v_2, low := r3.2, high := r8.2 } : Branch)]) (fun _ => rfl) IF71 rfl Try.underlying22 (by decide) rfl (.cons (.t rfl) .nil) rfl rfl (by decide)) ?_ (hJ := fun _ _ _ h => absurd (show false = true from h) (by decide))
          rintro v229 _ rfl
          refine ⟨.inr ⟨.refl _, [_], rfl⟩, ?_⟩
          refine W.cast (m' := m11) (l' := hownT 71 3 Branch.enc v229 _ :: hcells b13 [_, _, _] 71 :: l) rfl rfl ?_
          refine W.e rfl rfl rfl rfl (by decide) (Ef.bsT (enc := Branch.enc) (vs := []) (ys := []) (fun _ => rfl) IF71 rfl Try.underlying22 (by decide) rfl .nil rfl rfl (by decide)) ?_ (hJ := fun _ _ _ h => absurd (show false = true from h) (by decide))
          rintro v69 _ rfl
          refine ⟨.inr ⟨.refl _, [_], rfl⟩, ?_⟩
          refine W.cast (m' := m11) (l' := hownT 71 3 Branch.enc v69 _ :: hownT 71 3 Branch.enc v229 _ :: hcells b13 [_, _, _] 71 :: l) rfl rfl ?_
          refine W.e rfl rfl rfl rfl (by decide) (Ef.apI (pos := 0) (enc := Branch.enc) (xs := ([] : List Branch)) (ys := r8.1) (fun _ => rfl) IF71 rfl rfl Try.underlying22 rfl (by decide) (.t rfl) (.t rfl) (Src.rs (by decide) (.refl _) hu12) (fun _ => rfl) (by omega) (by omega)) ?_ (hJ := by rintro v149 _ rfl; exact fun _ => ⟨(.refl _), ⟨2, rfl⟩, trivial⟩)
          rintro v149 _ rfl
          refine ⟨.inl rfl, ?_⟩
          refine W.cast (m' := m11) (l' := hownT 71 3 Branch.enc v149 _ :: hownT 71 3 Branch.enc v229 _ :: hcells b13 [_, _, _] 71 :: l) rfl rfl ?_
          refine W.e rfl rfl rfl rfl (by decide) (Ef.apI (pos := 0) (enc := Branch.enc) (xs := (([] : List Branch) ++ r8.1)) (ys := ([({ var := v_2, low := r3.2, high := r8.2 } : Branch)] : List Branch)) (fun _ => rfl) IF71 rfl rfl Try.underlying22 rfl (by decide) (.t rfl) (.t rfl) (Src.own (pos := 1) rfl) (fun _ => rfl) (by omega) (by omega)) ?_ (hJ := fun _ _ _ h => absurd (show false = true from h) (by decide))
          rintro v269 _ rfl
          refine ⟨.inl rfl, ?_⟩
          refine W.cast (m' := m11) (l' := hownT 71 3 Branch.enc v269 _ :: hownT 71 3 Branch.enc v229 _ :: hcells b13 [_, _, _] 71 :: l) rfl rfl ?_
          refine W.q rfl rfl rfl rfl (by decide) (Yd.as rfl (.t rfl)) ?_
          refine W.q rfl rfl rfl rfl (by decide) (Yd.as rfl (.t rfl)) ?_
          refine W.end ?_
          refine NX.imp (fun w hw => cX_front (p := 2) hw rfl) ?_
          refine NX.imp (fun w hw => cX_front (p := 1) hw rfl) ?_
          refine NX.imp (fun w hw => cX_front (p := 2) hw rfl) ?_
          refine NX.cast (m' := m11) (l' := hownT 71 3 Branch.enc v229 _ :: hownT 71 3 Branch.enc v269 _ :: hcells b13 [_, _, _] 71 :: l) rfl rfl ?_
          refine NX.sub (env' := [(10, _), (11, _)]) ⟨rfl, rfl, trivial⟩ ?_
          refine NX.drop (l' := hownT 71 3 Branch.enc v269 _ :: l) (.cons _ (.cons_cons _ (.cons _ (.refl _)))) ?_
          exact hk469 _ _ ⟨_, rfl, rfl, hr⟩
      have hlen529 := (hu12).2.1
      refine Tr.block ?_
      refine Tr.sub (env' := [(4, _), (14, _), (59, _), (60, _), (61, _)]) ⟨rfl, rfl, rfl, rfl, rfl, trivial⟩ ?_
      refine Tr.loop (S := fun n (z : Int × Unit) env x => match z with | (t_530, _) => env = [(4, u10), (14, bp b13 0), (59, u10), (60, .int .i64 ((r8.1.length : Int))), (61, .int .i64 t_530)] ∧ x = ⟨m11, hcells b13 [.int .i64 v_2, .int .i64 r3.2, .int .i64 r8.2] 71 :: l⟩ ∧ n = ((r8.1.length : Int) - t_530).toNat ∧ 0 ≤ t_530 ∧ forK (σ := Unit) (fun i s nx_ => syllogistref_grow_b531 v_2 r3 r8 i nx_) (fun _ => syllogistref_grow_k17 v_2 r3 r8) n t_530 () = some r) _ ((0 : Int), ()) ⟨rfl, rfl, rfl, (by omega), hr⟩ ?_
      rintro n533 ⟨t_530, _⟩ env x ⟨rfl, rfl, hnt_530, h0t_530, hr⟩
      cases n533 with
      | zero =>
        simp only [forK] at hr
        refine Tr.seq ?_
        refine Tr.region_f (fun _ => false) ?_
        refine W.q rfl rfl rfl rfl (by decide) (Yd.lss rfl (.t rfl) (.t rfl)) ?_
        refine W.end ?_
        refine NX.sub (env' := [(4, _), (14, _), (59, _), (60, _), (61, _), (62, _)]) ⟨rfl, rfl, rfl, rfl, rfl, rfl, trivial⟩ ?_
        refine NX.then ?_
        refine Tr.seq ?_
        refine Tr.cond (.t rfl) (fun hb => ?_) (fun hb => ?_)
        · exact absurd (hb.symm.trans (fr_end hnt_530)) (by decide)
        ·
          refine Tr.exit' (EX.then (EX.then (EX.block ?_)))
          refine NX.sub (env' := [(4, _), (14, _)]) ⟨rfl, rfl, trivial⟩ ?_
          exact hk18 _ _ ⟨rfl, rfl, hr⟩
      | succ n533 =>
        obtain ⟨nx532, hnx532, hr⟩ := forK_succ hr
        try dsimp only at hr
        unfold syllogistref_grow_b531 at hr
        try dsimp only at hr
        have hltt_530 := fr_bnd hnt_530
        refine Tr.seq ?_
        refine Tr.region_f (fun _ => false) ?_
        refine W.q rfl rfl rfl rfl (by decide) (Yd.lss rfl (.t rfl) (.t rfl)) ?_
        refine W.end ?_
        refine NX.sub (env' := [(4, _), (14, _), (59, _), (60, _), (61, _), (62, _)]) ⟨rfl, rfl, rfl, rfl, rfl, rfl, trivial⟩ ?_
        refine NX.then ?_
        refine Tr.seq ?_
        refine Tr.cond (.t rfl) (fun hb => ?_) (fun hb => ?_)
        rotate_left
        · exact absurd (hb.symm.trans (fr_go hnt_530)) (by decide)
        ·
          refine Tr.skip' ?_
          refine NX.then ?_
          refine Tr.seq ?_
          refine Tr.block ?_
          refine Tr.seq ?_
          obtain ⟨y534, hy535, hr⟩ := bind_some hr
          refine Tr.region_f (fun i => Nat.beq i 3 || Nat.beq i 5) ?_
          refine W.q rfl rfl rfl rfl (by decide) (Yd.mv rfl (.t rfl)) ?_
          refine W.q rfl rfl rfl rfl (by decide) (Yd.idxR hu12 hy535 rfl Try.underlying22 SZ71 (.t rfl) (.t rfl)) ?_
          refine W.q rfl rfl rfl rfl (by decide) (Yd.ldFs (us := [_, _, _]) hu12 (.refl _) hy535 rfl rfl ON71 US71 SZ71 (.t rfl)) ?_
          refine W.e rfl rfl rfl rfl (by decide) (Ef.al rfl ZR71 rfl) ?_
          rintro _ _ ⟨b536, rfl, rfl⟩
          refine ⟨.inl rfl, ?_⟩
          refine W.cast (m' := m11) (l' := hcells b536 [_, _, _] 71 :: hcells b13 [_, _, _] 71 :: l) rfl rfl ?_
          refine W.q rfl rfl rfl rfl (by decide) (Yd.as rfl (.t rfl)) ?_
          refine W.s rfl rfl rfl rfl (Ef.stB (pos := 0) (us := [_, _, _]) (cs' := [_, _, _]) rfl rfl (.t rfl) (.t rfl) SZ71 rfl rfl rfl (Nat.le_of_ble_eq_true rfl) rfl) ?_
          rintro _ _ ⟨rfl, rfl⟩
          refine ⟨.inl rfl, ?_⟩
          refine W.cast (m' := m11) (l' := hcells b536 [_, _, _] 71 :: hcells b13 [_, _, _] 71 :: l) rfl rfl ?_
          refine W.end ?_
          refine NX.sub (env' := [(4, _), (14, _), (59, _), (60, _), (61, _), (16, _), (15, _)]) ⟨rfl, rfl, rfl, rfl, rfl, rfl, rfl, trivial⟩ ?_
          refine NX.then ?_
          refine Tr.seq ?_
          refine Tr.region_f (fun _ => false) ?_
          refine W.q rfl rfl rfl rfl (by decide) (Yd.ldBs (pos := 0) (us := [_, _, _]) rfl rfl rfl rfl ON71 US71 SZ71 (.t rfl)) ?_
          refine W.q rfl rfl rfl rfl (by decide) (Yd.ldBs (pos := 1) (us := [_, _, _]) rfl rfl rfl rfl ON71 US71 SZ71 (.t rfl)) ?_
          refine W.q rfl rfl rfl rfl (by decide) (Yd.eqA rfl GU71 (fun w => EQ71 w y534.var y534.low y534.high v_2 r3.2 r8.2) (.t rfl) (.t rfl)) ?_
          refine W.end ?_
          refine NX.sub (env' := [(4, _), (14, _), (59, _), (60, _), (61, _), (15, _), (68, _)]) ⟨rfl, rfl, rfl, rfl, rfl, rfl, rfl, trivial⟩ ?_
          refine NX.drop (l' := hcells b13 [_, _, _] 71 :: l) (.cons _ (.cons_cons _ (.refl _))) ?_
          refine NX.then ?_
          refine Tr.cond (.t rfl) (fun hb => ?_) (fun hb => ?_)
          · have hr := cond_t hb hr
            refine Tr.seq ?_
            refine Tr.region_f (fun _ => false) ?_
            refine W.q rfl rfl rfl rfl (by decide) (Yd.mv rfl (.t rfl)) ?_
            refine W.q rfl rfl rfl rfl (by decide) (Yd.mv rfl (.t rfl)) ?_
            refine W.q rfl rfl rfl rfl (by decide) (Yd.add rfl (.t rfl) .c) ?_
            refine W.q rfl rfl rfl rfl (by decide) (Yd.as rfl (.t rfl)) ?_
            refine W.q rfl rfl rfl rfl (by decide) (Yd.as rfl (.t rfl)) ?_
            refine W.end ?_
            refine NX.sub (env' := [(10, _), (11, _)]) ⟨rfl, rfl, trivial⟩ ?_
            refine NX.drop (l' := l) (.cons _ (.refl _)) ?_
            refine NX.then ?_
            refine Tr.ret' (RT.block (RT.then (RT.then (RT.block (RT.then ?_)))))
            refine res2 rfl rfl rfl ?_
            intro w hc
            cases hr
            exact ⟨_, _, rfl, (hsm6.trans hsm11), hu12, hc⟩
          · have hr := cond_f hb hr
            refine Tr.skip' ?_
            refine NX.block ?_
            refine NX.then ?_
            refine Tr.region_f (fun _ => false) ?_
            refine W.q rfl rfl rfl rfl (by decide) (Yd.add rfl (.t rfl) .c) ?_
            refine W.q rfl rfl rfl rfl (by decide) (Yd.mv rfl (.t rfl)) ?_
            refine W.end ?_
            refine NX.sub (env' := [(4, _), (14, _), (59, _), (60, _), (61, _)]) ⟨rfl, rfl, rfl, rfl, rfl, trivial⟩ ?_
            refine NX.sub (env' := [(4, _), (14, _), (59, _), (60, _), (61, _)]) ⟨rfl, rfl, rfl, rfl, rfl, trivial⟩ ?_
            have hw := w64_id (n := t_530 + 1) (by omega) (by omega)
            exact NX.again n533 (t_530 + 1, ()) (Nat.lt_succ_self _) ⟨(by rw [hw] <;> rfl), rfl, (fr_dec hnt_530), (by omega), ((hnx532 _).symm.trans hr)⟩

def syllogistref_Grow (fuel : Nat) (n_0 : Int) (f_1 : List Bool) : Option ((List Branch) × Int) :=
  (syllogistref_grow fuel n_0 f_1 ((0 : Int)) (0#32) []).bind fun r1 =>
  some ((r1.1, r1.2))

set_option maxRecDepth 100000 in
set_option maxHeartbeats 4000000 in
theorem syllogistref_Grow_ok (w0 : World) (m : Snap) (l : List HI) (fuel : Nat) (n_0 : Int) (uf_1 : Value) (f_1 : List Bool) (hf_1 : RS rB m uf_1 f_1) (r : (List Branch) × Int) (hr : syllogistref_Grow fuel n_0 f_1 = some r) (w : World) (hc : cX w0 ⟨m, l⟩ w) :
    Calls Try.prog 18 [.int .i64 n_0, uf_1].toArray w fun e w' => ∃ z0 : Value, ∃ m1 : Snap, e = .returned (.tuple #[z0, .int .i64 r.2]) ∧ Sle m m1 ∧ RS rBranch m1 z0 r.1 ∧ cX w0 ⟨m1, l⟩ w' := by
  unfold syllogistref_Grow at hr
  refine calls_of_Tr (N := 11) Try.func18 rfl hc rfl (Nat.le_of_ble_eq_true rfl) ?_
  refine Tr.seq ?_
  refine Tr.region_f (fun _ => false) ?_
  refine W.q rfl rfl rfl rfl (by decide) (Yd.as rfl .c) ?_
  refine W.q rfl rfl rfl rfl (by decide) (Yd.as rfl .c) ?_
  refine W.end ?_
  refine NX.sub (env' := [(0, _), (1, _)]) ⟨rfl, rfl, trivial⟩ ?_
  refine NX.then ?_
  refine Tr.seq ?_
  obtain ⟨r1, hr2, hr⟩ := bind_some hr
  refine Tr.region_f (fun i => Nat.beq i 2) ?_
  refine W.q rfl rfl rfl rfl (by decide) (Yd.mv rfl (.t rfl)) ?_
  refine W.q rfl rfl rfl rfl (by decide) (Yd.mv rfl (.t rfl)) ?_
  refine W.e rfl rfl rfl rfl (by decide) (Ef.call (R := fun z x' => ∃ u3 : Value, ∃ m4 : Snap, z = .tuple #[u3, .int .i64 r1.2] ∧ x' = ⟨m4, l⟩ ∧ Sle m m4 ∧ RS rBranch m4 u3 r1.1) rfl Try.func41 rfl rfl (.cons (.t rfl) (.cons (.t rfl) (.cons .c (.cons .c (.cons .c .nil))))) (fun w hw => (syllogistref_grow_ok w0 _ _ fuel n_0 _ _ hf_1 ((0 : Int)) (0#32) _ _ (RS.nil _ _) _ hr2 w hw).mono fun e w' ⟨u3, m4, he, hm', hu5, hc'⟩ => ⟨_, _, he, ⟨u3, m4, rfl, rfl, hm', hu5⟩, hc'⟩)) ?_
  rintro _ _ ⟨u3, m4, rfl, rfl, hsm4, hu5⟩
  have hf_1 := hf_1.mono hsm4
  refine ⟨.inl rfl, ?_⟩
  refine W.cast (m' := m4) (l' := l) rfl rfl ?_
  refine W.q rfl rfl rfl rfl (by decide) (Yd.ext rfl (.t rfl) rfl) ?_
  refine W.q rfl rfl rfl rfl (by decide) (Yd.ext rfl (.t rfl) rfl) ?_
  refine W.q rfl rfl rfl rfl (by decide) (Yd.as rfl (.t rfl)) ?_
  refine W.q rfl rfl rfl rfl (by decide) (Yd.as rfl (.t rfl)) ?_
  refine W.end ?_
  refine NX.sub (env' := [(4, _), (5, _)]) ⟨rfl, rfl, trivial⟩ ?_
  refine NX.then ?_
  refine Tr.ret' ?_
  refine res2 rfl rfl rfl ?_
  intro w hc
  cases hr
  exact ⟨_, _, rfl, hsm4, hu5, hc⟩

def syllogistref_Branches_k3 : Option (Bool) :=
  some true

def syllogistref_Branches_b7 (a_0 : List Branch) (b_1 : List Branch) (i_6 : Int) (nx8 : Unit → Option (Bool)) : Option (Bool) :=
  (geti a_0 i_6).bind fun y10 =>
  (geti b_1 i_6).bind fun y12 =>
  (bif (!((y10.var == y12.var) && ((y10.low == y12.low) && ((y10.high == y12.high) && true)))) then
  some false
  else
  nx8 ())

def syllogistref_Branches (a_0 : List Branch) (b_1 : List Branch) : Option (Bool) :=
  (bif ((a_0.length : Int) != (b_1.length : Int)) then
  some false
  else
  forK (σ := Unit) (fun i s nx_ => syllogistref_Branches_b7 a_0 b_1 i nx_) (fun _ => syllogistref_Branches_k3) ((a_0.length : Int) - (0 : Int)).toNat (0 : Int) ())

set_option maxRecDepth 100000 in
set_option maxHeartbeats 4000000 in
theorem syllogistref_Branches_ok (w0 : World) (m : Snap) (l : List HI) (ua_0 : Value) (a_0 : List Branch) (ha_0 : RS rBranch m ua_0 a_0) (ub_1 : Value) (b_1 : List Branch) (hb_1 : RS rBranch m ub_1 b_1) (r : Bool) (hr : syllogistref_Branches a_0 b_1 = some r) (w : World) (hc : cX w0 ⟨m, l⟩ w) :
    Calls Try.prog 19 [ua_0, ub_1].toArray w fun e w' => e = .returned (.bool r) ∧ cX w0 ⟨m, l⟩ w' := by
  unfold syllogistref_Branches at hr
  refine calls_of_Tr (N := 26) Try.func19 rfl hc rfl (Nat.le_of_ble_eq_true rfl) ?_
  refine Tr.seq ?_
  refine Tr.region_f (fun _ => false) ?_
  refine W.q rfl rfl rfl rfl (by decide) (Yd.as rfl .c) ?_
  refine W.end ?_
  refine NX.sub (env' := [(0, _), (1, _)]) ⟨rfl, rfl, trivial⟩ ?_
  refine NX.then ?_
  refine Tr.seq ?_
  refine Tr.seq ?_
  refine Tr.region_f (fun _ => false) ?_
  refine W.q rfl rfl rfl rfl (by decide) (Yd.mv rfl (.t rfl)) ?_
  refine W.q rfl rfl rfl rfl (by decide) (Yd.lenR ha_0 rfl Try.underlying22 (.t rfl)) ?_
  refine W.q rfl rfl rfl rfl (by decide) (Yd.mv rfl (.t rfl)) ?_
  refine W.q rfl rfl rfl rfl (by decide) (Yd.lenR hb_1 rfl Try.underlying22 (.t rfl)) ?_
  refine W.q rfl rfl rfl rfl (by decide) (Yd.neq rfl (.t rfl) (.t rfl)) ?_
  refine W.end ?_
  refine NX.sub (env' := [(0, _), (1, _), (10, _)]) ⟨rfl, rfl, rfl, trivial⟩ ?_
  refine NX.then ?_
  refine Tr.cond (.t rfl) (fun hb => ?_) (fun hb => ?_)
  · have hr := cond_t hb hr
    refine Tr.seq ?_
    refine Tr.region_f (fun _ => false) ?_
    refine W.q rfl rfl rfl rfl (by decide) (Yd.as rfl .c) ?_
    refine W.end ?_
    refine NX.sub (env' := [(4, _)]) ⟨rfl, trivial⟩ ?_
    refine NX.then ?_
    refine Tr.ret' (RT.then ?_)
    refine res1 rfl rfl ?_
    intro w hc
    cases hr
    exact ⟨rfl, hc⟩
  · have hr := cond_f hb hr
    refine Tr.skip' ?_
    refine NX.then ?_
    refine Tr.seq ?_
    refine Tr.seq ?_
    refine Tr.region_f (fun _ => false) ?_
    refine W.q rfl rfl rfl rfl (by decide) (Yd.as rfl .c) ?_
    refine W.end ?_
    refine NX.sub (env' := [(0, _), (1, _), (5, _)]) ⟨rfl, rfl, rfl, trivial⟩ ?_
    refine NX.then ?_
    refine Tr.join (S := fun env x => env = [] ∧ x = ⟨m, l⟩ ∧ syllogistref_Branches_k3 = some r) ?_ (fun hk4 => ?_)
    · rintro _ _ ⟨rfl, rfl, hr⟩
      unfold syllogistref_Branches_k3 at hr
      try dsimp only at hr
      refine NX.then ?_
      refine Tr.seq ?_
      refine Tr.region_f (fun _ => false) ?_
      refine W.q rfl rfl rfl rfl (by decide) (Yd.as rfl .c) ?_
      refine W.end ?_
      refine NX.sub (env' := [(4, _)]) ⟨rfl, trivial⟩ ?_
      refine NX.then ?_
      refine Tr.ret' ?_
      refine res1 rfl rfl ?_
      intro w hc
      cases hr
      exact ⟨rfl, hc⟩
    have hlen5 := (ha_0).2.1
    refine Tr.block ?_
    refine Tr.sub (env' := [(0, _), (1, _), (5, _)]) ⟨rfl, rfl, rfl, trivial⟩ ?_
    refine Tr.loop (S := fun n (z : Int × Unit) env x => match z with | (i_6, _) => env = [(0, ua_0), (1, ub_1), (5, .int .i64 i_6)] ∧ x = ⟨m, l⟩ ∧ n = ((a_0.length : Int) - i_6).toNat ∧ 0 ≤ i_6 ∧ forK (σ := Unit) (fun i s nx_ => syllogistref_Branches_b7 a_0 b_1 i nx_) (fun _ => syllogistref_Branches_k3) n i_6 () = some r) _ ((0 : Int), ()) ⟨rfl, rfl, rfl, (by omega), hr⟩ ?_
    rintro n9 ⟨i_6, _⟩ env x ⟨rfl, rfl, hni_6, h0i_6, hr⟩
    cases n9 with
    | zero =>
      simp only [forK] at hr
      refine Tr.seq ?_
      refine Tr.seq ?_
      refine Tr.region_f (fun _ => false) ?_
      refine W.q rfl rfl rfl rfl (by decide) (Yd.mv rfl (.t rfl)) ?_
      refine W.q rfl rfl rfl rfl (by decide) (Yd.mv rfl (.t rfl)) ?_
      refine W.q rfl rfl rfl rfl (by decide) (Yd.lenR ha_0 rfl Try.underlying22 (.t rfl)) ?_
      refine W.q rfl rfl rfl rfl (by decide) (Yd.lss rfl (.t rfl) (.t rfl)) ?_
      refine W.end ?_
      refine NX.sub (env' := [(0, _), (1, _), (5, _), (14, _)]) ⟨rfl, rfl, rfl, rfl, trivial⟩ ?_
      refine NX.then ?_
      refine Tr.cond (.t rfl) (fun hb => ?_) (fun hb => ?_)
      · exact absurd (hb.symm.trans (fr_end hni_6)) (by decide)
      ·
        refine Tr.exit' (EX.then (EX.then (EX.block ?_)))
        refine NX.sub (env' := []) trivial ?_
        exact hk4 _ _ ⟨rfl, rfl, hr⟩
    | succ n9 =>
      obtain ⟨nx8, hnx8, hr⟩ := forK_succ hr
      try dsimp only at hr
      unfold syllogistref_Branches_b7 at hr
      try dsimp only at hr
      have hlti_6 := fr_bnd hni_6
      refine Tr.seq ?_
      refine Tr.seq ?_
      refine Tr.region_f (fun _ => false) ?_
      refine W.q rfl rfl rfl rfl (by decide) (Yd.mv rfl (.t rfl)) ?_
      refine W.q rfl rfl rfl rfl (by decide) (Yd.mv rfl (.t rfl)) ?_
      refine W.q rfl rfl rfl rfl (by decide) (Yd.lenR ha_0 rfl Try.underlying22 (.t rfl)) ?_
      refine W.q rfl rfl rfl rfl (by decide) (Yd.lss rfl (.t rfl) (.t rfl)) ?_
      refine W.end ?_
      refine NX.sub (env' := [(0, _), (1, _), (5, _), (14, _)]) ⟨rfl, rfl, rfl, rfl, trivial⟩ ?_
      refine NX.then ?_
      refine Tr.cond (.t rfl) (fun hb => ?_) (fun hb => ?_)
      rotate_left
      · exact absurd (hb.symm.trans (fr_go hni_6)) (by decide)
      ·
        refine Tr.skip' ?_
        refine NX.then ?_
        refine Tr.seq ?_
        refine Tr.block ?_
        refine Tr.seq ?_
        obtain ⟨y10, hy11, hr⟩ := bind_some hr
        obtain ⟨y12, hy13, hr⟩ := bind_some hr
        refine Tr.region_x (fun _ => false) (fun _ => false) (Ord.of [0, 1, 2, 3, 4, 5, 6, 7, 8]) FM (by kernel_rfl) ?_
        refine W.q rfl rfl rfl rfl (by decide) (Yd.mv rfl (.t rfl)) ?_
        refine W.q rfl rfl rfl rfl (by decide) (Yd.mv rfl (.t rfl)) ?_
        refine W.q rfl rfl rfl rfl (by decide) (Yd.idxR ha_0 hy11 rfl Try.underlying22 SZ71 (.t rfl) (.t rfl)) ?_
        refine W.q rfl rfl rfl rfl (by decide) (Yd.ldFs (us := [_, _, _]) ha_0 (.refl _) hy11 rfl rfl ON71 US71 SZ71 (.t rfl)) ?_
        refine W.q rfl rfl rfl rfl (by decide) (Yd.mv rfl (.t rfl)) ?_
        refine W.q rfl rfl rfl rfl (by decide) (Yd.mv rfl (.t rfl)) ?_
        refine W.q rfl rfl rfl rfl (by decide) (Yd.idxR hb_1 hy13 rfl Try.underlying22 SZ71 (.t rfl) (.t rfl)) ?_
        refine W.q rfl rfl rfl rfl (by decide) (Yd.ldFs (us := [_, _, _]) hb_1 (.refl _) hy13 rfl rfl ON71 US71 SZ71 (.t rfl)) ?_
        refine W.q rfl rfl rfl rfl (by decide) (Yd.neA rfl GU71 (fun w => ne_of_eq (EQ71 w y10.var y10.low y10.high y12.var y12.low y12.high)) (.t rfl) (.t rfl)) ?_
        refine W.end ?_
        refine NX.sub (env' := [(0, _), (1, _), (5, _), (25, _)]) ⟨rfl, rfl, rfl, rfl, trivial⟩ ?_
        refine NX.then ?_
        refine Tr.cond (.t rfl) (fun hb => ?_) (fun hb => ?_)
        · have hr := cond_t hb hr
          refine Tr.seq ?_
          refine Tr.region_f (fun _ => false) ?_
          refine W.q rfl rfl rfl rfl (by decide) (Yd.as rfl .c) ?_
          refine W.end ?_
          refine NX.sub (env' := [(4, _)]) ⟨rfl, trivial⟩ ?_
          refine NX.then ?_
          refine Tr.ret' (RT.block (RT.then (RT.then (RT.block (RT.then ?_)))))
          refine res1 rfl rfl ?_
          intro w hc
          cases hr
          exact ⟨rfl, hc⟩
        · have hr := cond_f hb hr
          refine Tr.skip' ?_
          refine NX.block ?_
          refine NX.then ?_
          refine Tr.region_f (fun _ => false) ?_
          refine W.q rfl rfl rfl rfl (by decide) (Yd.mv rfl (.t rfl)) ?_
          refine W.q rfl rfl rfl rfl (by decide) (Yd.add rfl (.t rfl) .c) ?_
          refine W.q rfl rfl rfl rfl (by decide) (Yd.as rfl (.t rfl)) ?_
          refine W.end ?_
          refine NX.sub (env' := [(0, _), (1, _), (5, _)]) ⟨rfl, rfl, rfl, trivial⟩ ?_
          refine NX.sub (env' := [(0, _), (1, _), (5, _)]) ⟨rfl, rfl, rfl, trivial⟩ ?_
          have hw := w64_id (n := i_6 + 1) (by omega) (by omega)
          exact NX.again n9 (i_6 + 1, ()) (Nat.lt_succ_self _) ⟨(by rw [hw] <;> rfl), rfl, (fr_dec hni_6), (by omega), ((hnx8 _).symm.trans hr)⟩

def syllogistlaw_ChoiceBuilds (fuel : Nat) (n_0 : Int) (f_1 : List Bool) : Option (Bool) :=
  (choice_Build fuel n_0 f_1).bind fun r1 =>
  (syllogistref_TruthCheck n_0 f_1).bind fun r5 =>
  (bif (r5 != (0 : Int)) then
  some ((((r1.2.2 == r5) && ((r1.1.length : Int) == (0 : Int))) && (r1.2.1 == (0 : Int))))
  else
  (syllogistref_Grow fuel n_0 f_1).bind fun r7 =>
  bif (!(((r1.2.2 == (0 : Int)) && (r1.2.1 == r7.2)) == true) || (syllogistref_Branches r1.1 r7.1).isSome) then
  some ((((r1.2.2 == (0 : Int)) && (r1.2.1 == r7.2)) && (((syllogistref_Branches r1.1 r7.1).getD false)))) else none)

set_option maxRecDepth 100000 in
set_option maxHeartbeats 4000000 in
theorem syllogistlaw_ChoiceBuilds_ok (w0 : World) (m : Snap) (l : List HI) (fuel : Nat) (n_0 : Int) (uf_1 : Value) (f_1 : List Bool) (hf_1 : RS rB m uf_1 f_1) (r : Bool) (hr : syllogistlaw_ChoiceBuilds fuel n_0 f_1 = some r) (w : World) (hc : cX w0 ⟨m, l⟩ w) :
    Calls Try.prog 4 [.int .i64 n_0, uf_1].toArray w fun e w' => e = .returned (.bool r) ∧ cX w0 ⟨m, l⟩ w' := by
  unfold syllogistlaw_ChoiceBuilds at hr
  refine calls_of_Tr (N := 53) Try.func4 rfl hc rfl (Nat.le_of_ble_eq_true rfl) ?_
  refine Tr.seq ?_
  refine Tr.region_f (fun _ => false) ?_
  refine W.q rfl rfl rfl rfl (by decide) (Yd.as rfl .c) ?_
  refine W.end ?_
  refine NX.sub (env' := [(0, _), (1, _)]) ⟨rfl, rfl, trivial⟩ ?_
  refine NX.then ?_
  refine Tr.seq ?_
  obtain ⟨r1, hr2, hr⟩ := bind_some hr
  refine Tr.region_f (fun i => Nat.beq i 2) ?_
  refine W.q rfl rfl rfl rfl (by decide) (Yd.mv rfl (.t rfl)) ?_
  refine W.q rfl rfl rfl rfl (by decide) (Yd.mv rfl (.t rfl)) ?_
  refine W.e rfl rfl rfl rfl (by decide) (Ef.call (R := fun z x' => ∃ v3 : Value, z = .tuple #[v3, .int .i64 r1.2.1, .int .i64 r1.2.2] ∧ x' = ⟨m, hownT 71 3 Branch.enc v3 r1.1 :: l⟩) rfl Try.func16 rfl rfl (.cons (.t rfl) (.cons (.t rfl) .nil)) (fun w hw => (choice_Build_ok w0 _ _ fuel n_0 _ _ hf_1 _ hr2 w hw).mono fun e w' ⟨v3, he, hc'⟩ => ⟨_, _, he, ⟨v3, rfl, rfl⟩, hc'⟩)) ?_
  rintro _ _ ⟨v3, rfl, rfl⟩
  refine ⟨.inl rfl, ?_⟩
  refine W.cast (m' := m) (l' := hownT 71 3 Branch.enc v3 _ :: l) rfl rfl ?_
  refine W.q rfl rfl rfl rfl (by decide) (Yd.mv rfl (.t rfl)) ?_
  refine W.q rfl rfl rfl rfl (by decide) (Yd.ext rfl (.t rfl) rfl) ?_
  refine W.q rfl rfl rfl rfl (by decide) (Yd.ext rfl (.t rfl) rfl) ?_
  refine W.q rfl rfl rfl rfl (by decide) (Yd.ext rfl (.t rfl) rfl) ?_
  refine W.q rfl rfl rfl rfl (by decide) (Yd.as rfl (.t rfl)) ?_
  refine W.q rfl rfl rfl rfl (by decide) (Yd.as rfl (.t rfl)) ?_
  refine W.q rfl rfl rfl rfl (by decide) (Yd.as rfl (.t rfl)) ?_
  refine W.end ?_
  refine NX.sub (env' := [(0, _), (1, _), (5, _), (6, _), (7, _)]) ⟨rfl, rfl, rfl, rfl, rfl, trivial⟩ ?_
  refine NX.then ?_
  refine Tr.seq ?_
  obtain ⟨r5, hr6, hr⟩ := bind_some hr
  refine Tr.region_f (fun _ => false) ?_
  refine W.q rfl rfl rfl rfl (by decide) (Yd.mv rfl (.t rfl)) ?_
  refine W.q rfl rfl rfl rfl (by decide) (Yd.mv rfl (.t rfl)) ?_
  refine W.q rfl rfl rfl rfl (by decide) (Yd.call (v := .int .i64 r5) rfl Try.func17 rfl rfl (.cons (.t rfl) (.cons (.t rfl) .nil)) (fun x' hx w hw => syllogistref_TruthCheck_ok w0 x'.m x'.l n_0 _ _ (hf_1.mono hx.1) _ hr6 w hw)) ?_
  refine W.q rfl rfl rfl rfl (by decide) (Yd.as rfl (.t rfl)) ?_
  refine W.end ?_
  refine NX.sub (env' := [(0, _), (1, _), (5, _), (6, _), (7, _), (8, _)]) ⟨rfl, rfl, rfl, rfl, rfl, rfl, trivial⟩ ?_
  refine NX.then ?_
  refine Tr.seq ?_
  refine Tr.seq ?_
  refine Tr.region_f (fun _ => false) ?_
  refine W.q rfl rfl rfl rfl (by decide) (Yd.mv rfl (.t rfl)) ?_
  refine W.q rfl rfl rfl rfl (by decide) (Yd.neq rfl (.t rfl) .c) ?_
  refine W.end ?_
  refine NX.sub (env' := [(0, _), (1, _), (5, _), (6, _), (7, _), (8, _), (22, _)]) ⟨rfl, rfl, rfl, rfl, rfl, rfl, rfl, trivial⟩ ?_
  refine NX.then ?_
  refine Tr.cond (.t rfl) (fun hb => ?_) (fun hb => ?_)
  · have hr := cond_t hb hr
    refine Tr.seq ?_
    refine Tr.region_f (fun _ => false) ?_
    refine W.q rfl rfl rfl rfl (by decide) (Yd.mv rfl (.t rfl)) ?_
    refine W.q rfl rfl rfl rfl (by decide) (Yd.mv rfl (.t rfl)) ?_
    refine W.q rfl rfl rfl rfl (by decide) (Yd.eql rfl (.t rfl) (.t rfl)) ?_
    refine W.q rfl rfl rfl rfl (by decide) (Yd.mv rfl (.t rfl)) ?_
    refine W.g rfl rfl rfl rfl rfl (.t rfl _) rfl (by decide) (fun hG => Yd.mv rfl (.t rfl)) ?_
    refine W.g rfl rfl rfl rfl rfl (.t rfl _) rfl (by decide) (fun hG => Yd.lenO (p := 0) rfl rfl Try.underlying22 (.g rfl hG)) ?_
    refine W.g rfl rfl rfl rfl rfl (.t rfl _) rfl (by decide) (fun hG => Yd.eql rfl (.g rfl hG) .c) ?_
    refine W.q rfl rfl rfl rfl (by decide) (Yd.and rfl (.t rfl) .c rfl rfl) ?_
    refine W.q rfl rfl rfl rfl (by decide) (Yd.mv rfl (.t rfl)) ?_
    refine W.g rfl rfl rfl rfl rfl (.t rfl _) rfl (by decide) (fun hG => Yd.mv rfl (.t rfl)) ?_
    refine W.g rfl rfl rfl rfl rfl (.t rfl _) rfl (by decide) (fun hG => Yd.eql rfl (.g rfl hG) .c) ?_
    refine W.q rfl rfl rfl rfl (by decide) (Yd.and rfl (.t rfl) .c rfl rfl) ?_
    refine W.q rfl rfl rfl rfl (by decide) (Yd.as rfl (.t rfl)) ?_
    refine W.end ?_
    refine NX.sub (env' := [(4, _)]) ⟨rfl, trivial⟩ ?_
    refine NX.drop (l' := l) (.cons _ (.refl _)) ?_
    refine NX.then ?_
    refine Tr.ret' (RT.then ?_)
    refine res1 rfl rfl ?_
    intro w hc
    cases hr
    exact ⟨rfl, hc⟩
  · have hr := cond_f hb hr
    refine Tr.skip' ?_
    refine NX.then ?_
    refine Tr.seq ?_
    obtain ⟨r7, hr8, hr⟩ := bind_some hr
    refine Tr.region_f (fun i => Nat.beq i 2) ?_
    refine W.q rfl rfl rfl rfl (by decide) (Yd.mv rfl (.t rfl)) ?_
    refine W.q rfl rfl rfl rfl (by decide) (Yd.mv rfl (.t rfl)) ?_
    refine W.e rfl rfl rfl rfl (by decide) (Ef.call (R := fun z x' => ∃ u9 : Value, ∃ m10 : Snap, z = .tuple #[u9, .int .i64 r7.2] ∧ x' = ⟨m10, hownT 71 3 Branch.enc v3 r1.1 :: l⟩ ∧ Sle m m10 ∧ RS rBranch m10 u9 r7.1) rfl Try.func18 rfl rfl (.cons (.t rfl) (.cons (.t rfl) .nil)) (fun w hw => (syllogistref_Grow_ok w0 _ _ fuel n_0 _ _ hf_1 _ hr8 w hw).mono fun e w' ⟨u9, m10, he, hm', hu11, hc'⟩ => ⟨_, _, he, ⟨u9, m10, rfl, rfl, hm', hu11⟩, hc'⟩)) ?_
    rintro _ _ ⟨u9, m10, rfl, rfl, hsm10, hu11⟩
    have hf_1 := hf_1.mono hsm10
    refine ⟨.inl rfl, ?_⟩
    refine W.cast (m' := m10) (l' := hownT 71 3 Branch.enc v3 _ :: l) rfl rfl ?_
    refine W.q rfl rfl rfl rfl (by decide) (Yd.mv rfl (.t rfl)) ?_
    refine W.q rfl rfl rfl rfl (by decide) (Yd.ext rfl (.t rfl) rfl) ?_
    refine W.q rfl rfl rfl rfl (by decide) (Yd.ext rfl (.t rfl) rfl) ?_
    refine W.q rfl rfl rfl rfl (by decide) (Yd.as rfl (.t rfl)) ?_
    refine W.q rfl rfl rfl rfl (by decide) (Yd.as rfl (.t rfl)) ?_
    refine W.end ?_
    refine NX.sub (env' := [(5, _), (6, _), (7, _), (9, _), (10, _)]) ⟨rfl, rfl, rfl, rfl, rfl, trivial⟩ ?_
    refine NX.then ?_
    refine Tr.seq ?_
    obtain ⟨ha12, hr⟩ := guard_some hr
    refine Tr.region_f (fun _ => false) ?_
    refine W.q rfl rfl rfl rfl (by decide) (Yd.mv rfl (.t rfl)) ?_
    refine W.q rfl rfl rfl rfl (by decide) (Yd.eql rfl (.t rfl) .c) ?_
    refine W.q rfl rfl rfl rfl (by decide) (Yd.mv rfl (.t rfl)) ?_
    refine W.g rfl rfl rfl rfl rfl (.t rfl _) rfl (by decide) (fun hG => Yd.mv rfl (.t rfl)) ?_
    refine W.g rfl rfl rfl rfl rfl (.t rfl _) rfl (by decide) (fun hG => Yd.mv rfl (.t rfl)) ?_
    refine W.g rfl rfl rfl rfl rfl (.t rfl _) rfl (by decide) (fun hG => Yd.eql rfl (.g rfl hG) (.g rfl hG)) ?_
    refine W.q rfl rfl rfl rfl (by decide) (Yd.and rfl (.t rfl) .c rfl rfl) ?_
    refine W.q rfl rfl rfl rfl (by decide) (Yd.mv rfl (.t rfl)) ?_
    refine W.g rfl rfl rfl rfl rfl (.t rfl _) rfl (by decide) (fun hG => Yd.mv rfl (.t rfl)) ?_
    refine W.g rfl rfl rfl rfl rfl (.t rfl _) rfl (by decide) (fun hG => Yd.mv rfl (.t rfl)) ?_
    refine W.g rfl rfl rfl rfl rfl (.t rfl _) rfl (by decide) (fun hG => Yd.call (v := .bool ((((syllogistref_Branches r1.1 r7.1).getD false)))) rfl Try.func19 rfl rfl (.cons (.g rfl hG) (.cons (.g rfl hG) .nil)) (by intro x' hx w hw; obtain ⟨p0, hp0⟩ := hx.at (p := 0) rfl; obtain ⟨m2, hm2, hc2, ⟨L2, hl1, hl2⟩, hback⟩ := cX_lend hw hp0 lone_own; have hL1 : RS rBranch m2 _ _ := RS_of_own hl1 hl2; exact (syllogistref_Branches_ok w0 m2 _ _ _ hL1 _ _ (hu11.mono (hx.1.trans hm2)) _ (gd_get (d := false) ha12 hG) w hc2).mono fun e w' ⟨he, hc'⟩ => ⟨he, (hback m2 _ _ w' (.refl _) hp0).2 hc'⟩)) ?_
    refine W.q rfl rfl rfl rfl (by decide) (Yd.and rfl (.t rfl) .c rfl rfl) ?_
    refine W.q rfl rfl rfl rfl (by decide) (Yd.as rfl (.t rfl)) ?_
    refine W.end ?_
    refine NX.sub (env' := [(4, _)]) ⟨rfl, trivial⟩ ?_
    refine NX.drop (l' := l) (.cons _ (.refl _)) ?_
    refine NX.then ?_
    refine Tr.ret' ?_
    refine res1 rfl rfl ?_
    intro w hc
    cases hr
    exact ⟨rfl, (cX_le (x := ⟨m, _⟩) ⟨hsm10, [], rfl⟩ hc)⟩
end Go.Proofs.Ytmggbhpieikdpaa.Sy
