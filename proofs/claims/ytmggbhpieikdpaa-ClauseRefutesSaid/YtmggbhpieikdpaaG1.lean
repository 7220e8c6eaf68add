/- Functions of the program as plain functions, and that the translation computes them; the conditions stand in each theorem. Printed by an own program. -/
import Derived.Test.YtmggbhpieikdpaaSyZ
import Derived.Test.YtmggbhpieikdpaaSyMp
import Derived.Test.YtmggbhpieikdpaaT
import Derived.Test.YtmggbhpieikdpaaProg
namespace Go.Proofs.Ytmggbhpieikdpaa.Sy
open Go
set_option linter.unusedVariables false
theorem SZ41 : (Try.prog.info? 41).map (·.size) = some 1 := by kernel_rfl
theorem ON41 : one Try.prog 41 = true := by kernel_rfl
theorem ON3 : one Try.prog 3 = true := by kernel_rfl
theorem SZ46 : (Try.prog.info? 46).map (·.size) = some 2 := by kernel_rfl
theorem ON46 : one Try.prog 46 = false := by kernel_rfl
theorem US46 : (Try.prog.underlying 46).isSome = true := by kernel_rfl
theorem GU46 : Try.prog.eqGuardType Try.prog.depth 46 = false := by kernel_rfl
theorem ST46 : Try.prog.stoodInHeld 46 = false := by kernel_rfl
theorem US41 : (Try.prog.underlying 41).isSome = true := by kernel_rfl
theorem EQ46 (w : World) (x0 : BitVec 32) (x1 : BitVec 32) (y0 : BitVec 32) (y1 : BitVec 32) : (binOp .eql 46 (.agg #[.int .u32 (x0.toNat : Int), .int .u32 (x1.toNat : Int)]) (.agg #[.int .u32 (y0.toNat : Int), .int .u32 (y1.toNat : Int)])).run Try.prog w = .ok (.bool ((x0 == y0) && ((x1 == y1) && true))) w :=
  eq_s w Try.underlying46 ST46 (fun d => (eqf_cons w rfl (part_one w ON41 rfl) (part_one w ON41 rfl) (eq_u w Try.underlying41) (eqf_cons w rfl (part_one w ON41 rfl) (part_one w ON41 rfl) (eq_u w Try.underlying41) (eqf_nil w))))
theorem IF46 : (Try.prog.info? 46).map (fun i => (i.zero, i.size, i.bytes)) = some (some (.agg #[.int .u32 0, .int .u32 0]), 2, 8) := by kernel_rfl
theorem ZR46 : (Try.prog.info? 46).bind (·.zero) = some (.agg #[.int .u32 0, .int .u32 0]) := by kernel_rfl
theorem ZI46 : (Try.prog.info? 46).bind (·.zero) = some (.agg #[.int .u32 0, .int .u32 0]) := by kernel_rfl
theorem PL46 : plS Try.prog 46 = some [(0, 1), (1, 1)] := by kernel_rfl
theorem IF4 : (Try.prog.info? 4).map (fun i => (i.zero, i.size, i.bytes)) = some (some (.bool false), 1, 1) := by kernel_rfl
theorem SZ4 : (Try.prog.info? 4).map (·.size) = some 1 := by kernel_rfl
theorem ON4 : one Try.prog 4 = true := by kernel_rfl
theorem SZ86 : (Try.prog.info? 86).map (·.size) = some 2 := by kernel_rfl
theorem SZ3 : (Try.prog.info? 3).map (·.size) = some 1 := by kernel_rfl
theorem IF3 : (Try.prog.info? 3).map (fun i => (i.zero, i.size, i.bytes)) = some (some (.int .i64 0), 1, 8) := by kernel_rfl
theorem ON86 : one Try.prog 86 = false := by kernel_rfl
theorem US86 : (Try.prog.underlying 86).isSome = true := by kernel_rfl
theorem ZR86 : (Try.prog.info? 86).bind (·.zero) = some (.agg #[.int .i64 0, .int .i64 0]) := by kernel_rfl
theorem ZI86 : (Try.prog.info? 86).bind (·.zero) = some (.agg #[.int .i64 0, .int .i64 0]) := by kernel_rfl
theorem PA86 : plA Try.prog 86 = some 1 := by kernel_rfl
theorem IF86 : (Try.prog.info? 86).map (fun i => (i.zero, i.size, i.bytes)) = some (some (.agg #[.int .i64 0, .int .i64 0]), 2, 16) := by kernel_rfl
abbrev ek46 (x : Clause) : Value := .agg #[.int .u32 (x.yes.toNat : Int), .int .u32 (x.no.toNat : Int)]
theorem EM46 (w : World) (x0 : BitVec 32) (x1 : BitVec 32) (y0 : BitVec 32) (y1 : BitVec 32) : (Op.equal 46 (.agg #[.int .u32 (x0.toNat : Int), .int .u32 (x1.toNat : Int)]) (.agg #[.int .u32 (y0.toNat : Int), .int .u32 (y1.toNat : Int)])).run Try.prog w = .ok (((x0 == y0) && ((x1 == y1) && true))) w :=
  eq_in w (d := 9999) Try.underlying46 ST46 ((eqf_cons w rfl (part_one w ON41 rfl) (part_one w ON41 rfl) (eq_u w Try.underlying41) (eqf_cons w rfl (part_one w ON41 rfl) (part_one w ON41 rfl) (eq_u w Try.underlying41) (eqf_nil w))))
instance : DecidableEq Clause := fun a b => decidable_of_decidable_of_iff (p := (a.yes = b.yes ∧ a.no = b.no)) ⟨fun h => by cases a; cases b; simp_all, fun h => by subst h; simp⟩
theorem MK46 : MK Try.prog 46 ek46 :=
  MK.struct Try.underlying46 (fun w em x => by
      rw [show (10000 : Nat) = 9998 + 1 + 1 from rfl, Instr.checkKey]
      have hp41 : ∀ (cs : Array Value) (off : Nat) (v : Value), cs[off]? = some v → (part 41 cs off).run Try.prog w = .ok v w := fun cs off v h => part_one w ON41 h
      have hk41 : ∀ k : Int, (Instr.checkKey em (9998 + 1) 41 (.int .u32 k)).run Try.prog w = .ok () w := fun k => by rw [Instr.checkKey]; simp [run_underlying Try.underlying41]
      simp [run_underlying Try.underlying46, hp41, hk41])
    (fun x => by simp [Instr.sameBits]) (fun w x y => by
      rw [EM46 w]
      congr 1
      cases x; cases y
      rw [Bool.eq_iff_iff]; simp)
abbrev ev4 (b : Bool) : Value := .bool b
theorem US3 : (Try.prog.underlying 3).isSome = true := by kernel_rfl
theorem FM : Try.prog.follows .mixedOrders = true := by kernel_rfl

def clause_wrong_c1 (c_0 : Clause) (cp_0 : Int) : Option (Bool) :=
  bif decide (0 ≤ cp_0) then
  some ((((c_0.yes ||| c_0.no) >>> cp_0.toNat) != 0#32)) else none

set_option maxRecDepth 100000 in
set_option maxHeartbeats 4000000 in
theorem clause_wrong_c1_ok (w0 : World) (m : Snap) (l : List HI) (c_0 : Clause) (fp0 fb0 : Nat) (cp_0 : Int) (hfp0 : l[fp0]? = some (hcells fb0 [.int .i64 cp_0] 3)) (r : Bool) (hr : clause_wrong_c1 c_0 cp_0 = some r) (w : World) (hc : cX w0 ⟨m, l⟩ w) :
    Calls Try.prog 63 [.agg #[.int .u32 (c_0.yes.toNat : Int), .int .u32 (c_0.no.toNat : Int)], bp fb0 0].toArray w fun e w' => e = .returned (.bool r) ∧ cX w0 ⟨m, l⟩ w' := by
  unfold clause_wrong_c1 at hr
  refine calls_of_Tr (N := 12) Try.func63 rfl hc rfl (Nat.le_of_ble_eq_true rfl) ?_
  refine Tr.seq ?_
  refine Tr.region_f (fun i => Nat.beq i 0) ?_
  refine W.e rfl rfl rfl rfl (by decide) (Ef.bx rfl (.t rfl) rfl) ?_
  rintro _ _ ⟨b1, rfl, rfl⟩
  refine ⟨.inl rfl, ?_⟩
  refine W.cast (m' := m) (l' := hcells b1 [_, _] 46 :: l) rfl rfl ?_
  refine W.q rfl rfl rfl rfl (by decide) (Yd.as rfl .c) ?_
  refine W.end ?_
  refine NX.sub (env' := [(1, _), (2, _)]) ⟨rfl, rfl, trivial⟩ ?_
  refine NX.then ?_
  refine Tr.seq ?_
  obtain ⟨hq3, hr⟩ := guard_some hr; replace hq3 := of_decide_eq_true hq3
  refine Tr.region_f (fun _ => false) ?_
  refine W.q rfl rfl rfl rfl (by decide) (Yd.fldB rfl Try.underlying46 rfl SZ41 rfl (.t rfl)) ?_
  refine W.q rfl rfl rfl rfl (by decide) (Yd.ldB (pos := 0) rfl rfl rfl ON41 (.t rfl)) ?_
  refine W.q rfl rfl rfl rfl (by decide) (Yd.fldB rfl Try.underlying46 rfl SZ41 rfl (.t rfl)) ?_
  refine W.q rfl rfl rfl rfl (by decide) (Yd.ldB (pos := 0) rfl rfl rfl ON41 (.t rfl)) ?_
  refine W.q rfl rfl rfl rfl (by decide) (Yd.orU (a := c_0.yes) (b := c_0.no) rfl (.t rfl) (.t rfl)) ?_
  refine W.q rfl rfl rfl rfl (by decide) (Yd.ldB (pos := (fp0 + 1)) hfp0 rfl rfl ON3 (.t rfl)) ?_
  refine W.q rfl rfl rfl rfl (by decide) (Yd.shrU (a := (c_0.yes ||| c_0.no)) rfl (.t rfl) (.t rfl) hq3) ?_
  refine W.q rfl rfl rfl rfl (by decide) (Yd.neqU (a := ((c_0.yes ||| c_0.no) >>> cp_0.toNat)) (b := 0#32) rfl (.t rfl) .c) ?_
  refine W.q rfl rfl rfl rfl (by decide) (Yd.as rfl (.t rfl)) ?_
  refine W.end ?_
  refine NX.sub (env' := [(3, _)]) ⟨rfl, trivial⟩ ?_
  refine NX.drop (l' := l) (.cons _ (.refl _)) ?_
  refine NX.then ?_
  refine Tr.ret' ?_
  refine res1 rfl rfl ?_
  intro w hc
  cases hr
  exact ⟨rfl, hc⟩

def slices_IndexFunc_SapiClauseapiClause_k3 : Option (Int) :=
  some ((-1 : Int))

def slices_IndexFunc_SapiClauseapiClause_b7 (s_0 : List Clause) (f_1 : Clause → Option Bool) (t_6 : Int) (nx8 : Unit → Option (Int)) : Option (Int) :=
  (geti s_0 t_6).bind fun y10 =>
  (f_1 y10).bind fun r12 =>
  (bif r12 then
  some t_6
  else
  nx8 ())

def slices_IndexFunc_SapiClauseapiClause (s_0 : List Clause) (f_1 : Clause → Option Bool) : Option (Int) :=
  forK (σ := Unit) (fun i s nx_ => slices_IndexFunc_SapiClauseapiClause_b7 s_0 f_1 i nx_) (fun _ => slices_IndexFunc_SapiClauseapiClause_k3) ((s_0.length : Int) - (0 : Int)).toNat (0 : Int) ()

set_option maxRecDepth 100000 in
set_option maxHeartbeats 4000000 in
theorem slices_IndexFunc_SapiClauseapiClause_ok (w0 : World) (m : Snap) (l : List HI) (us_0 : Value) (s_0 : List Clause) (hs_0 : RS rClause m us_0 s_0) (uf_1 : Value) (f_1 : Clause → Option Bool) (hf_1 : Fq Try.prog w0 ⟨m, l⟩ uf_1 (α := Clause) (β := Bool) (fun _ v a => v = .agg #[.int .u32 (a.yes.toNat : Int), .int .u32 (a.no.toNat : Int)]) (fun b => .bool b) f_1) (r : Int) (hr : slices_IndexFunc_SapiClauseapiClause s_0 f_1 = some r) (w : World) (hc : cX w0 ⟨m, l⟩ w) :
    Calls Try.prog 64 [us_0, uf_1].toArray w fun e w' => e = .returned (.int .i64 r) ∧ cX w0 ⟨m, l⟩ w' := by
  unfold slices_IndexFunc_SapiClauseapiClause at hr
  refine calls_of_Tr (N := 19) Try.func64 rfl hc rfl (Nat.le_of_ble_eq_true rfl) ?_
  refine Tr.seq ?_
  refine Tr.region_f (fun _ => false) ?_
  refine W.q rfl rfl rfl rfl (by decide) (Yd.as rfl .c) ?_
  refine W.end ?_
  refine NX.sub (env' := [(0, _), (1, _)]) ⟨rfl, rfl, trivial⟩ ?_
  refine NX.then ?_
  refine Tr.seq ?_
  refine Tr.seq ?_
  refine Tr.region_f (fun _ => false) ?_
  refine W.q rfl rfl rfl rfl (by decide) (Yd.mv rfl (.t rfl)) ?_
  refine W.q rfl rfl rfl rfl (by decide) (Yd.lenR hs_0 rfl Try.underlying40 (.t rfl)) ?_
  refine W.q rfl rfl rfl rfl (by decide) (Yd.mv rfl .c) ?_
  refine W.end ?_
  refine NX.sub (env' := [(0, _), (1, _), (7, _), (8, _)]) ⟨rfl, rfl, rfl, rfl, trivial⟩ ?_
  refine NX.then ?_
  refine Tr.join (S := fun env x => env = [] ∧ x = ⟨m, l⟩ ∧ slices_IndexFunc_SapiClauseapiClause_k3 = some r) ?_ (fun hk4 => ?_)
  · rintro _ _ ⟨rfl, rfl, hr⟩
    unfold slices_IndexFunc_SapiClauseapiClause_k3 at hr
    try dsimp only at hr
    refine NX.then ?_
    refine Tr.seq ?_
    refine Tr.region_f (fun _ => false) ?_
    refine W.q rfl rfl rfl rfl (by decide) (Yd.as rfl .c) ?_
    refine W.end ?_
    refine NX.sub (env' := [(4, _)]) ⟨rfl, trivial⟩ ?_
    refine NX.then ?_
    refine Tr.ret' ?_
    refine res1 rfl rfl ?_
    intro w hc
    cases hr
    exact ⟨rfl, hc⟩
  have hlen5 := (hs_0).2.1
  refine Tr.block ?_
  refine Tr.sub (env' := [(0, _), (1, _), (7, _), (8, _)]) ⟨rfl, rfl, rfl, rfl, trivial⟩ ?_
  refine Tr.loop (S := fun n (z : Int × Unit) env x => match z with | (t_6, _) => env = [(0, us_0), (1, uf_1), (7, .int .i64 ((s_0.length : Int))), (8, .int .i64 t_6)] ∧ x = ⟨m, l⟩ ∧ n = ((s_0.length : Int) - t_6).toNat ∧ 0 ≤ t_6 ∧ forK (σ := Unit) (fun i s nx_ => slices_IndexFunc_SapiClauseapiClause_b7 s_0 f_1 i nx_) (fun _ => slices_IndexFunc_SapiClauseapiClause_k3) n t_6 () = some r) _ ((0 : Int), ()) ⟨rfl, rfl, rfl, (by omega), hr⟩ ?_
  rintro n9 ⟨t_6, _⟩ env x ⟨rfl, rfl, hnt_6, h0t_6, hr⟩
  cases n9 with
  | zero =>
    simp only [forK] at hr
    refine Tr.seq ?_
    refine Tr.region_f (fun _ => false) ?_
    refine W.q rfl rfl rfl rfl (by decide) (Yd.lss rfl (.t rfl) (.t rfl)) ?_
    refine W.end ?_
    refine NX.sub (env' := [(0, _), (1, _), (7, _), (8, _), (9, _)]) ⟨rfl, rfl, rfl, rfl, rfl, trivial⟩ ?_
    refine NX.then ?_
    refine Tr.seq ?_
    refine Tr.cond (.t rfl) (fun hb => ?_) (fun hb => ?_)
    · exact absurd (hb.symm.trans (fr_end hnt_6)) (by decide)
    ·
      refine Tr.exit' (EX.then (EX.then (EX.block ?_)))
      refine NX.sub (env' := []) trivial ?_
      exact hk4 _ _ ⟨rfl, rfl, hr⟩
  | succ n9 =>
    obtain ⟨nx8, hnx8, hr⟩ := forK_succ hr
    try dsimp only at hr
    unfold slices_IndexFunc_SapiClauseapiClause_b7 at hr
    try dsimp only at hr
    have hltt_6 := fr_bnd hnt_6
    refine Tr.seq ?_
    refine Tr.region_f (fun _ => false) ?_
    refine W.q rfl rfl rfl rfl (by decide) (Yd.lss rfl (.t rfl) (.t rfl)) ?_
    refine W.end ?_
    refine NX.sub (env' := [(0, _), (1, _), (7, _), (8, _), (9, _)]) ⟨rfl, rfl, rfl, rfl, rfl, trivial⟩ ?_
    refine NX.then ?_
    refine Tr.seq ?_
    refine Tr.cond (.t rfl) (fun hb => ?_) (fun hb => ?_)
    rotate_left
    · exact absurd (hb.symm.trans (fr_go hnt_6)) (by decide)
    ·
      refine Tr.skip' ?_
      refine NX.then ?_
      refine Tr.seq ?_
      refine Tr.block ?_
      refine Tr.seq ?_
      refine Tr.region_f (fun _ => false) ?_
      refine W.q rfl rfl rfl rfl (by decide) (Yd.mv rfl (.t rfl)) ?_
      refine W.q rfl rfl rfl rfl (by decide) (Yd.as rfl (.t rfl)) ?_
      refine W.end ?_
      refine NX.sub (env' := [(0, _), (1, _), (7, _), (8, _), (5, _)]) ⟨rfl, rfl, rfl, rfl, rfl, trivial⟩ ?_
      refine NX.then ?_
      refine Tr.seq ?_
      obtain ⟨y10, hy11, hr⟩ := bind_some hr
      obtain ⟨r12, hr13, hr⟩ := bind_some hr
      refine Tr.region_f (fun _ => false) ?_
      refine W.q rfl rfl rfl rfl (by decide) (Yd.mv rfl (.t rfl)) ?_
      refine W.q rfl rfl rfl rfl (by decide) (Yd.mv rfl (.t rfl)) ?_
      refine W.q rfl rfl rfl rfl (by decide) (Yd.mv rfl (.t rfl)) ?_
      refine W.q rfl rfl rfl rfl (by decide) (Yd.idxR hs_0 hy11 rfl Try.underlying40 SZ46 (.t rfl) (.t rfl)) ?_
      refine W.q rfl rfl rfl rfl (by decide) (Yd.ldFs (us := [_, _]) hs_0 (.refl _) hy11 rfl rfl ON46 US46 SZ46 (.t rfl)) ?_
      refine W.q rfl rfl rfl rfl (by decide) (Yd.callF hf_1 ⟨(.refl _), [], rfl⟩ rfl (.t rfl) (.t rfl) (fun _ _ => rfl) hr13) ?_
      refine W.end ?_
      refine NX.sub (env' := [(0, _), (1, _), (7, _), (8, _), (5, _), (16, _)]) ⟨rfl, rfl, rfl, rfl, rfl, rfl, trivial⟩ ?_
      refine NX.then ?_
      refine Tr.cond (.t rfl) (fun hb => ?_) (fun hb => ?_)
      · have hr := cond_t hb hr
        refine Tr.seq ?_
        refine Tr.region_f (fun _ => false) ?_
        refine W.q rfl rfl rfl rfl (by decide) (Yd.mv rfl (.t rfl)) ?_
        refine W.q rfl rfl rfl rfl (by decide) (Yd.as rfl (.t rfl)) ?_
        refine W.end ?_
        refine NX.sub (env' := [(4, _)]) ⟨rfl, trivial⟩ ?_
        refine NX.then ?_
        refine Tr.ret' (RT.block (RT.then (RT.then (RT.block (RT.then ?_)))))
        refine res1 rfl rfl ?_
        intro w hc
        cases hr
        exact ⟨rfl, hc⟩
      · have hr := cond_f hb hr
        refine Tr.skip' ?_
        refine NX.block ?_
        refine NX.then ?_
        refine Tr.region_f (fun _ => false) ?_
        refine W.q rfl rfl rfl rfl (by decide) (Yd.add rfl (.t rfl) .c) ?_
        refine W.q rfl rfl rfl rfl (by decide) (Yd.mv rfl (.t rfl)) ?_
        refine W.end ?_
        refine NX.sub (env' := [(0, _), (1, _), (7, _), (8, _)]) ⟨rfl, rfl, rfl, rfl, trivial⟩ ?_
        refine NX.sub (env' := [(0, _), (1, _), (7, _), (8, _)]) ⟨rfl, rfl, rfl, rfl, trivial⟩ ?_
        have hw := w64_id (n := t_6 + 1) (by omega) (by omega)
        exact NX.again n9 (t_6 + 1, ()) (Nat.lt_succ_self _) ⟨(by rw [hw] <;> rfl), rfl, (fr_dec hnt_6), (by omega), ((hnx8 _).symm.trans hr)⟩

def slices_ContainsFunc_SapiClauseapiClause (s_0 : List Clause) (f_1 : Clause → Option Bool) : Option (Bool) :=
  (slices_IndexFunc_SapiClauseapiClause s_0 f_1).bind fun r1 =>
  some ((decide (r1 ≥ (0 : Int))))

set_option maxRecDepth 100000 in
set_option maxHeartbeats 4000000 in
theorem slices_ContainsFunc_SapiClauseapiClause_ok (w0 : World) (m : Snap) (l : List HI) (us_0 : Value) (s_0 : List Clause) (hs_0 : RS rClause m us_0 s_0) (uf_1 : Value) (f_1 : Clause → Option Bool) (hf_1 : Fq Try.prog w0 ⟨m, l⟩ uf_1 (α := Clause) (β := Bool) (fun _ v a => v = .agg #[.int .u32 (a.yes.toNat : Int), .int .u32 (a.no.toNat : Int)]) (fun b => .bool b) f_1) (r : Bool) (hr : slices_ContainsFunc_SapiClauseapiClause s_0 f_1 = some r) (w : World) (hc : cX w0 ⟨m, l⟩ w) :
    Calls Try.prog 45 [us_0, uf_1].toArray w fun e w' => e = .returned (.bool r) ∧ cX w0 ⟨m, l⟩ w' := by
  unfold slices_ContainsFunc_SapiClauseapiClause at hr
  refine calls_of_Tr (N := 9) Try.func45 rfl hc rfl (Nat.le_of_ble_eq_true rfl) ?_
  refine Tr.seq ?_
  refine Tr.region_f (fun _ => false) ?_
  refine W.q rfl rfl rfl rfl (by decide) (Yd.as rfl .c) ?_
  refine W.end ?_
  refine NX.sub (env' := [(0, _), (1, _)]) ⟨rfl, rfl, trivial⟩ ?_
  refine NX.then ?_
  refine Tr.seq ?_
  obtain ⟨r1, hr2, hr⟩ := bind_some hr
  refine Tr.region_f (fun _ => false) ?_
  refine W.q rfl rfl rfl rfl (by decide) (Yd.mv rfl (.t rfl)) ?_
  refine W.q rfl rfl rfl rfl (by decide) (Yd.mv rfl (.t rfl)) ?_
  refine W.q rfl rfl rfl rfl (by decide) (Yd.call (v := .int .i64 r1) rfl Try.func64 rfl rfl (.cons (.t rfl) (.cons (.t rfl) .nil)) (fun x' hx w hw => slices_IndexFunc_SapiClauseapiClause_ok w0 x'.m x'.l _ _ (hs_0.mono hx.1) _ f_1 (hf_1.mono (leX_trans _ _ _ ⟨(.refl _), [], rfl⟩ hx)) _ hr2 w hw)) ?_
  refine W.q rfl rfl rfl rfl (by decide) (Yd.geq rfl (.t rfl) .c) ?_
  refine W.q rfl rfl rfl rfl (by decide) (Yd.as rfl (.t rfl)) ?_
  refine W.end ?_
  refine NX.sub (env' := [(4, _)]) ⟨rfl, trivial⟩ ?_
  refine NX.then ?_
  refine Tr.ret' ?_
  refine res1 rfl rfl ?_
  intro w hc
  cases hr
  exact ⟨rfl, hc⟩

def clause_wrong (n_0 : Int) (l_1 : List Clause) : Option (Int) :=
  (bif (((decide (n_0 < (1 : Int))) || (decide (n_0 > (6 : Int)))) || (decide ((l_1.length : Int) > (16 : Int)))) then
  some ((1 : Int))
  else
  (slices_ContainsFunc_SapiClauseapiClause l_1 (fun a => clause_wrong_c1 a n_0)).bind fun r3 =>
  (bif r3 then
  some ((4 : Int))
  else
  some ((0 : Int))))

set_option maxRecDepth 100000 in
set_option maxHeartbeats 4000000 in
theorem clause_wrong_ok (w0 : World) (m : Snap) (l : List HI) (n_0 : Int) (ul_1 : Value) (l_1 : List Clause) (hl_1 : RS rClause m ul_1 l_1) (r : Int) (hr : clause_wrong n_0 l_1 = some r) (w : World) (hc : cX w0 ⟨m, l⟩ w) :
    Calls Try.prog 44 [.int .i64 n_0, ul_1].toArray w fun e w' => e = .returned (.int .i64 r) ∧ cX w0 ⟨m, l⟩ w' := by
  unfold clause_wrong at hr
  refine calls_of_Tr (N := 19) Try.func44 rfl hc rfl (Nat.le_of_ble_eq_true rfl) ?_
  refine Tr.seq ?_
  refine Tr.region_f (fun i => Nat.beq i 0) ?_
  refine W.e rfl rfl rfl rfl (by decide) (Ef.bx rfl (.t rfl) rfl) ?_
  rintro _ _ ⟨b1, rfl, rfl⟩
  refine ⟨.inl rfl, ?_⟩
  refine W.cast (m' := m) (l' := hcells b1 [_] 3 :: l) rfl rfl ?_
  refine W.q rfl rfl rfl rfl (by decide) (Yd.as rfl .c) ?_
  refine W.end ?_
  refine NX.sub (env' := [(1, _), (2, _)]) ⟨rfl, rfl, trivial⟩ ?_
  refine NX.then ?_
  refine Tr.seq ?_
  refine Tr.seq ?_
  refine Tr.region_f (fun _ => false) ?_
  refine W.q rfl rfl rfl rfl (by decide) (Yd.ldB (pos := 0) rfl rfl rfl ON3 (.t rfl)) ?_
  refine W.q rfl rfl rfl rfl (by decide) (Yd.lss rfl (.t rfl) .c) ?_
  refine W.q rfl rfl rfl rfl (by decide) (Yd.mv rfl (.t rfl)) ?_
  refine W.g rfl rfl rfl rfl rfl (.t rfl _) rfl (by decide) (fun hG => Yd.ldB (pos := 0) rfl rfl rfl ON3 (.t rfl)) ?_
  refine W.g rfl rfl rfl rfl rfl (.t rfl _) rfl (by decide) (fun hG => Yd.gtr rfl (.g rfl hG) .c) ?_
  refine W.q rfl rfl rfl rfl (by decide) (Yd.or rfl (.t rfl) .c rfl rfl) ?_
  refine W.q rfl rfl rfl rfl (by decide) (Yd.mv rfl (.t rfl)) ?_
  refine W.g rfl rfl rfl rfl rfl (.t rfl _) rfl (by decide) (fun hG => Yd.mv rfl (.t rfl)) ?_
  refine W.g rfl rfl rfl rfl rfl (.t rfl _) rfl (by decide) (fun hG => Yd.lenR hl_1 rfl Try.underlying40 (.g rfl hG)) ?_
  refine W.g rfl rfl rfl rfl rfl (.t rfl _) rfl (by decide) (fun hG => Yd.gtr rfl (.g rfl hG) .c) ?_
  refine W.q rfl rfl rfl rfl (by decide) (Yd.or rfl (.t rfl) .c rfl rfl) ?_
  refine W.end ?_
  refine NX.sub (env' := [(1, _), (2, _), (15, _)]) ⟨rfl, rfl, rfl, trivial⟩ ?_
  refine NX.then ?_
  refine Tr.cond (.t rfl) (fun hb => ?_) (fun hb => ?_)
  · have hr := cond_t hb hr
    refine Tr.seq ?_
    refine Tr.region_f (fun _ => false) ?_
    refine W.q rfl rfl rfl rfl (by decide) (Yd.as rfl .c) ?_
    refine W.end ?_
    refine NX.sub (env' := [(4, _)]) ⟨rfl, trivial⟩ ?_
    refine NX.drop (l' := l) (.cons _ (.refl _)) ?_
    refine NX.then ?_
    refine Tr.ret' (RT.then ?_)
    refine res1 rfl rfl ?_
    intro w hc
    cases hr
    exact ⟨rfl, hc⟩
  · have hr := cond_f hb hr
    refine Tr.skip' ?_
    refine NX.then ?_
    refine Tr.seq ?_
    refine Tr.seq ?_
    obtain ⟨r3, hr4, hr⟩ := bind_some hr
    refine Tr.region_f (fun _ => false) ?_
    refine W.q rfl rfl rfl rfl (by decide) (Yd.mv rfl (.t rfl)) ?_
    refine W.q rfl rfl rfl rfl (by decide) (Yd.mkf rfl (.cons (.t rfl) .nil)) ?_
    refine W.q rfl rfl rfl rfl (by decide) (Yd.call (v := .bool r3) rfl Try.func45 rfl rfl (.cons (.t rfl) (.cons (.t rfl) .nil)) (fun x' hx w hw => slices_ContainsFunc_SapiClauseapiClause_ok w0 x'.m x'.l _ _ (hl_1.mono hx.1) _ (fun a => clause_wrong_c1 a n_0) ⟨63, _, _, rfl, Try.func63, rfl, rfl, fun y hy w2 hw2 v a r2 hv hr2 => by obtain ⟨p5, hp5⟩ := (leX_trans _ _ _ hx hy).at (p := 0) rfl; obtain rfl := hv; exact clause_wrong_c1_ok w0 y.m y.l a p5 _ n_0 hp5 r2 hr2 w2 hw2⟩ _ hr4 w hw)) ?_
    refine W.end ?_
    refine NX.sub (env' := [(18, _)]) ⟨rfl, trivial⟩ ?_
    refine NX.drop (l' := l) (.cons _ (.refl _)) ?_
    refine NX.then ?_
    refine Tr.cond (.t rfl) (fun hb => ?_) (fun hb => ?_)
    · have hr := cond_t hb hr
      refine Tr.seq ?_
      refine Tr.region_f (fun _ => false) ?_
      refine W.q rfl rfl rfl rfl (by decide) (Yd.as rfl .c) ?_
      refine W.end ?_
      refine NX.sub (env' := [(4, _)]) ⟨rfl, trivial⟩ ?_
      refine NX.then ?_
      refine Tr.ret' (RT.then ?_)
      refine res1 rfl rfl ?_
      intro w hc
      cases hr
      exact ⟨rfl, hc⟩
    · have hr := cond_f hb hr
      refine Tr.skip' ?_
      refine NX.then ?_
      refine Tr.seq ?_
      refine Tr.region_f (fun _ => false) ?_
      refine W.q rfl rfl rfl rfl (by decide) (Yd.as rfl .c) ?_
      refine W.end ?_
      refine NX.sub (env' := [(4, _)]) ⟨rfl, trivial⟩ ?_
      refine NX.then ?_
      refine Tr.ret' ?_
      refine res1 rfl rfl ?_
      intro w hc
      cases hr
      exact ⟨rfl, hc⟩

def slices_Index_SapiClauseapiClause_k5 : Option (Int) :=
  some ((-1 : Int))

def slices_Index_SapiClauseapiClause_b9 (s_0 : List Clause) (v_1 : Clause) (t_8 : Int) (nx10 : Unit → Option (Int)) : Option (Int) :=
  (geti s_0 t_8).bind fun y12 =>
  (bif ((v_1.yes == y12.yes) && ((v_1.no == y12.no) && true)) then
  some t_8
  else
  nx10 ())

def slices_Index_SapiClauseapiClause (s_0 : List Clause) (v_1 : Clause) : Option (Int) :=
  forK (σ := Unit) (fun i s nx_ => slices_Index_SapiClauseapiClause_b9 s_0 v_1 i nx_) (fun _ => slices_Index_SapiClauseapiClause_k5) ((s_0.length : Int) - (0 : Int)).toNat (0 : Int) ()

set_option maxRecDepth 100000 in
set_option maxHeartbeats 4000000 in
theorem slices_Index_SapiClauseapiClause_ok (w0 : World) (m : Snap) (l : List HI) (us_0 : Value) (s_0 : List Clause) (hs_0 : RS rClause m us_0 s_0) (v_1 : Clause) (r : Int) (hr : slices_Index_SapiClauseapiClause s_0 v_1 = some r) (w : World) (hc : cX w0 ⟨m, l⟩ w) :
    Calls Try.prog 67 [us_0, .agg #[.int .u32 (v_1.yes.toNat : Int), .int .u32 (v_1.no.toNat : Int)]].toArray w fun e w' => e = .returned (.int .i64 r) ∧ cX w0 ⟨m, l⟩ w' := by
  unfold slices_Index_SapiClauseapiClause at hr
  refine calls_of_Tr (N := 19) Try.func67 rfl hc rfl (Nat.le_of_ble_eq_true rfl) ?_
  refine Tr.seq ?_
  refine Tr.region_f (fun i => Nat.beq i 0) ?_
  refine W.e rfl rfl rfl rfl (by decide) (Ef.bx rfl (.t rfl) rfl) ?_
  rintro _ _ ⟨b1, rfl, rfl⟩
  refine ⟨.inl rfl, ?_⟩
  refine W.cast (m' := m) (l' := hcells b1 [_, _] 46 :: l) rfl rfl ?_
  refine W.q rfl rfl rfl rfl (by decide) (Yd.as rfl .c) ?_
  refine W.end ?_
  refine NX.sub (env' := [(0, _), (3, _)]) ⟨rfl, rfl, trivial⟩ ?_
  refine NX.then ?_
  refine Tr.seq ?_
  refine Tr.seq ?_
  refine Tr.region_f (fun _ => false) ?_
  refine W.q rfl rfl rfl rfl (by decide) (Yd.mv rfl (.t rfl)) ?_
  refine W.q rfl rfl rfl rfl (by decide) (Yd.lenR hs_0 rfl Try.underlying40 (.t rfl)) ?_
  refine W.q rfl rfl rfl rfl (by decide) (Yd.mv rfl .c) ?_
  refine W.end ?_
  refine NX.sub (env' := [(0, _), (3, _), (7, _), (8, _)]) ⟨rfl, rfl, rfl, rfl, trivial⟩ ?_
  refine NX.then ?_
  refine Tr.join (S := fun env x => env = [] ∧ x = ⟨m, l⟩ ∧ slices_Index_SapiClauseapiClause_k5 = some r) ?_ (fun hk6 => ?_)
  · rintro _ _ ⟨rfl, rfl, hr⟩
    unfold slices_Index_SapiClauseapiClause_k5 at hr
    try dsimp only at hr
    refine NX.then ?_
    refine Tr.seq ?_
    refine Tr.region_f (fun _ => false) ?_
    refine W.q rfl rfl rfl rfl (by decide) (Yd.as rfl .c) ?_
    refine W.end ?_
    refine NX.sub (env' := [(4, _)]) ⟨rfl, trivial⟩ ?_
    refine NX.then ?_
    refine Tr.ret' ?_
    refine res1 rfl rfl ?_
    intro w hc
    cases hr
    exact ⟨rfl, hc⟩
  have hlen7 := (hs_0).2.1
  refine Tr.block ?_
  refine Tr.sub (env' := [(0, _), (3, _), (7, _), (8, _)]) ⟨rfl, rfl, rfl, rfl, trivial⟩ ?_
  refine Tr.loop (S := fun n (z : Int × Unit) env x => match z with | (t_8, _) => env = [(0, us_0), (3, bp b1 0), (7, .int .i64 ((s_0.length : Int))), (8, .int .i64 t_8)] ∧ x = ⟨m, hcells b1 [.int .u32 (v_1.yes.toNat : Int), .int .u32 (v_1.no.toNat : Int)] 46 :: l⟩ ∧ n = ((s_0.length : Int) - t_8).toNat ∧ 0 ≤ t_8 ∧ forK (σ := Unit) (fun i s nx_ => slices_Index_SapiClauseapiClause_b9 s_0 v_1 i nx_) (fun _ => slices_Index_SapiClauseapiClause_k5) n t_8 () = some r) _ ((0 : Int), ()) ⟨rfl, rfl, rfl, (by omega), hr⟩ ?_
  rintro n11 ⟨t_8, _⟩ env x ⟨rfl, rfl, hnt_8, h0t_8, hr⟩
  cases n11 with
  | zero =>
    simp only [forK] at hr
    refine Tr.seq ?_
    refine Tr.region_f (fun _ => false) ?_
    refine W.q rfl rfl rfl rfl (by decide) (Yd.lss rfl (.t rfl) (.t rfl)) ?_
    refine W.end ?_
    refine NX.sub (env' := [(0, _), (3, _), (7, _), (8, _), (9, _)]) ⟨rfl, rfl, rfl, rfl, rfl, trivial⟩ ?_
    refine NX.then ?_
    refine Tr.seq ?_
    refine Tr.cond (.t rfl) (fun hb => ?_) (fun hb => ?_)
    · exact absurd (hb.symm.trans (fr_end hnt_8)) (by decide)
    ·
      refine Tr.exit' (EX.then (EX.then (EX.block ?_)))
      refine NX.sub (env' := []) trivial ?_
      refine NX.drop (l' := l) (.cons _ (.refl _)) ?_
      exact hk6 _ _ ⟨rfl, rfl, hr⟩
  | succ n11 =>
    obtain ⟨nx10, hnx10, hr⟩ := forK_succ hr
    try dsimp only at hr
    unfold slices_Index_SapiClauseapiClause_b9 at hr
    try dsimp only at hr
    have hltt_8 := fr_bnd hnt_8
    refine Tr.seq ?_
    refine Tr.region_f (fun _ => false) ?_
    refine W.q rfl rfl rfl rfl (by decide) (Yd.lss rfl (.t rfl) (.t rfl)) ?_
    refine W.end ?_
    refine NX.sub (env' := [(0, _), (3, _), (7, _), (8, _), (9, _)]) ⟨rfl, rfl, rfl, rfl, rfl, trivial⟩ ?_
    refine NX.then ?_
    refine Tr.seq ?_
    refine Tr.cond (.t rfl) (fun hb => ?_) (fun hb => ?_)
    rotate_left
    · exact absurd (hb.symm.trans (fr_go hnt_8)) (by decide)
    ·
      refine Tr.skip' ?_
      refine NX.then ?_
      refine Tr.seq ?_
      refine Tr.block ?_
      refine Tr.seq ?_
      refine Tr.region_f (fun _ => false) ?_
      refine W.q rfl rfl rfl rfl (by decide) (Yd.mv rfl (.t rfl)) ?_
      refine W.q rfl rfl rfl rfl (by decide) (Yd.as rfl (.t rfl)) ?_
      refine W.end ?_
      refine NX.sub (env' := [(0, _), (3, _), (7, _), (8, _), (5, _)]) ⟨rfl, rfl, rfl, rfl, rfl, trivial⟩ ?_
      refine NX.then ?_
      refine Tr.seq ?_
      obtain ⟨y12, hy13, hr⟩ := bind_some hr
      refine Tr.region_x (fun _ => false) (fun _ => false) (Ord.of [0, 1, 2, 3, 4, 5]) FM (by kernel_rfl) ?_
      refine W.q rfl rfl rfl rfl (by decide) (Yd.ldBs (pos := 0) (us := [_, _]) rfl rfl rfl rfl ON46 US46 SZ46 (.t rfl)) ?_
      refine W.q rfl rfl rfl rfl (by decide) (Yd.mv rfl (.t rfl)) ?_
      refine W.q rfl rfl rfl rfl (by decide) (Yd.mv rfl (.t rfl)) ?_
      refine W.q rfl rfl rfl rfl (by decide) (Yd.idxR hs_0 hy13 rfl Try.underlying40 SZ46 (.t rfl) (.t rfl)) ?_
      refine W.q rfl rfl rfl rfl (by decide) (Yd.ldFs (us := [_, _]) hs_0 (.refl _) hy13 rfl rfl ON46 US46 SZ46 (.t rfl)) ?_
      refine W.q rfl rfl rfl rfl (by decide) (Yd.eqA rfl GU46 (fun w => EQ46 w v_1.yes v_1.no y12.yes y12.no) (.t rfl) (.t rfl)) ?_
      refine W.end ?_
      refine NX.sub (env' := [(0, _), (3, _), (7, _), (8, _), (5, _), (16, _)]) ⟨rfl, rfl, rfl, rfl, rfl, rfl, trivial⟩ ?_
      refine NX.then ?_
      refine Tr.cond (.t rfl) (fun hb => ?_) (fun hb => ?_)
      · have hr := cond_t hb hr
        refine Tr.seq ?_
        refine Tr.region_f (fun _ => false) ?_
        refine W.q rfl rfl rfl rfl (by decide) (Yd.mv rfl (.t rfl)) ?_
        refine W.q rfl rfl rfl rfl (by decide) (Yd.as rfl (.t rfl)) ?_
        refine W.end ?_
        refine NX.sub (env' := [(4, _)]) ⟨rfl, trivial⟩ ?_
        refine NX.drop (l' := l) (.cons _ (.refl _)) ?_
        refine NX.then ?_
        refine Tr.ret' (RT.block (RT.then (RT.then (RT.block (RT.then ?_)))))
        refine res1 rfl rfl ?_
        intro w hc
        cases hr
        exact ⟨rfl, hc⟩
      · have hr := cond_f hb hr
        refine Tr.skip' ?_
        refine NX.block ?_
        refine NX.then ?_
        refine Tr.region_f (fun _ => false) ?_
        refine W.q rfl rfl rfl rfl (by decide) (Yd.add rfl (.t rfl) .c) ?_
        refine W.q rfl rfl rfl rfl (by decide) (Yd.mv rfl (.t rfl)) ?_
        refine W.end ?_
        refine NX.sub (env' := [(0, _), (3, _), (7, _), (8, _)]) ⟨rfl, rfl, rfl, rfl, trivial⟩ ?_
        refine NX.sub (env' := [(0, _), (3, _), (7, _), (8, _)]) ⟨rfl, rfl, rfl, rfl, trivial⟩ ?_
        have hw := w64_id (n := t_8 + 1) (by omega) (by omega)
        exact NX.again n11 (t_8 + 1, ()) (Nat.lt_succ_self _) ⟨(by rw [hw] <;> rfl), rfl, (fr_dec hnt_8), (by omega), ((hnx10 _).symm.trans hr)⟩

def slices_Contains_SapiClauseapiClause (s_0 : List Clause) (v_1 : Clause) : Option (Bool) :=
  (slices_Index_SapiClauseapiClause s_0 (({ yes := v_1.yes, no := v_1.no } : Clause))).bind fun r3 =>
  some ((decide (r3 ≥ (0 : Int))))

set_option maxRecDepth 100000 in
set_option maxHeartbeats 4000000 in
theorem slices_Contains_SapiClauseapiClause_ok (w0 : World) (m : Snap) (l : List HI) (us_0 : Value) (s_0 : List Clause) (hs_0 : RS rClause m us_0 s_0) (v_1 : Clause) (r : Bool) (hr : slices_Contains_SapiClauseapiClause s_0 v_1 = some r) (w : World) (hc : cX w0 ⟨m, l⟩ w) :
    Calls Try.prog 50 [us_0, .agg #[.int .u32 (v_1.yes.toNat : Int), .int .u32 (v_1.no.toNat : Int)]].toArray w fun e w' => e = .returned (.bool r) ∧ cX w0 ⟨m, l⟩ w' := by
  unfold slices_Contains_SapiClauseapiClause at hr
  refine calls_of_Tr (N := 9) Try.func50 rfl hc rfl (Nat.le_of_ble_eq_true rfl) ?_
  refine Tr.seq ?_
  refine Tr.region_f (fun i => Nat.beq i 0) ?_
  refine W.e rfl rfl rfl rfl (by decide) (Ef.bx rfl (.t rfl) rfl) ?_
  rintro _ _ ⟨b1, rfl, rfl⟩
  refine ⟨.inl rfl, ?_⟩
  refine W.cast (m' := m) (l' := hcells b1 [_, _] 46 :: l) rfl rfl ?_
  refine W.q rfl rfl rfl rfl (by decide) (Yd.as rfl .c) ?_
  refine W.end ?_
  refine NX.sub (env' := [(0, _), (3, _)]) ⟨rfl, rfl, trivial⟩ ?_
  refine NX.then ?_
  refine Tr.seq ?_
  obtain ⟨r3, hr4, hr⟩ := bind_some hr
  refine Tr.region_f (fun _ => false) ?_
  refine W.q rfl rfl rfl rfl (by decide) (Yd.mv rfl (.t rfl)) ?_
  refine W.q rfl rfl rfl rfl (by decide) (Yd.ldBs (pos := 0) (us := [_, _]) rfl rfl rfl rfl ON46 US46 SZ46 (.t rfl)) ?_
  refine W.q rfl rfl rfl rfl (by decide) (Yd.call (v := .int .i64 r3) rfl Try.func67 rfl rfl (.cons (.t rfl) (.cons (.t rfl) .nil)) (fun x' hx w hw => slices_Index_SapiClauseapiClause_ok w0 x'.m x'.l _ _ (hs_0.mono hx.1) (({ yes := v_1.yes, no := v_1.no } : Clause)) _ hr4 w hw)) ?_
  refine W.q rfl rfl rfl rfl (by decide) (Yd.geq rfl (.t rfl) .c) ?_
  refine W.q rfl rfl rfl rfl (by decide) (Yd.as rfl (.t rfl)) ?_
  refine W.end ?_
  refine NX.sub (env' := [(4, _)]) ⟨rfl, trivial⟩ ?_
  refine NX.drop (l' := l) (.cons _ (.refl _)) ?_
  refine NX.then ?_
  refine Tr.ret' ?_
  refine res1 rfl rfl ?_
  intro w hc
  cases hr
  exact ⟨rfl, hc⟩

def slices_Clone_SapiClauseapiClause (s_0 : List Clause) : Option ((List Clause)) :=
  bif decide ((([] : List Clause)).length + s_0.length ≤ 17592186044416) then
  some ((([] : List Clause) ++ s_0)) else none

set_option maxRecDepth 100000 in
set_option maxHeartbeats 4000000 in
theorem slices_Clone_SapiClauseapiClause_ok (w0 : World) (m : Snap) (l : List HI) (us_0 : Value) (s_0 : List Clause) (hs_0 : RS rClause m us_0 s_0) (r : (List Clause)) (hr : slices_Clone_SapiClauseapiClause s_0 = some r) (w : World) (hc : cX w0 ⟨m, l⟩ w) :
    Calls Try.prog 51 [us_0].toArray w fun e w' => ∃ z0 : Value, e = .returned (z0) ∧ cX w0 ⟨m, hownT 46 2 Clause.enc z0 r :: l⟩ w' := by
  unfold slices_Clone_SapiClauseapiClause at hr
  refine calls_of_Tr (N := 8) Try.func51 rfl hc rfl (Nat.le_of_ble_eq_true rfl) ?_
  refine Tr.seq ?_
  refine Tr.region_f (fun _ => false) ?_
  refine W.q rfl rfl rfl rfl (by decide) (Yd.as rfl .c) ?_
  refine W.end ?_
  refine NX.sub (env' := [(0, _)]) ⟨rfl, trivial⟩ ?_
  refine NX.then ?_
  refine Tr.seq ?_
  refine Tr.seq ?_
  refine Tr.region_f (fun _ => false) ?_
  refine W.q rfl rfl rfl rfl (by decide) (Yd.mv rfl (.t rfl)) ?_
  refine W.q rfl rfl rfl rfl (by decide) (Yd.eqnil hs_0 rfl Try.underlying40 (.t rfl) .c) ?_
  refine W.end ?_
  refine NX.sub (env' := [(0, _), (4, _)]) ⟨rfl, rfl, trivial⟩ ?_
  refine NX.then ?_
  refine Tr.cond (.t rfl) (fun hb => ?_) (fun hb => ?_)
  · obtain rfl : s_0 = [] := RS.nil_of hs_0 hb
    have hr : some ([]) = some r := hr
    refine Tr.seq ?_
    refine Tr.region_f (fun _ => false) ?_
    refine W.q rfl rfl rfl rfl (by decide) (Yd.as rfl .c) ?_
    refine W.end ?_
    refine NX.sub (env' := [(2, _)]) ⟨rfl, trivial⟩ ?_
    refine NX.then ?_
    refine Tr.ret' (RT.then ?_)
    refine res1 rfl rfl ?_
    intro w hc
    cases hr
    exact ⟨_, rfl, (cX_nil hc)⟩
  ·
    refine Tr.skip' ?_
    refine NX.then ?_
    refine Tr.seq ?_
    obtain ⟨hq4, hr⟩ := guard_some hr; replace hq4 := of_decide_eq_true hq4
    refine Tr.region_f (fun i => Nat.beq i 0 || Nat.beq i 2) ?_
    refine W.e rfl rfl rfl rfl (by decide) (Ef.bsT (enc := Clause.enc) (vs := []) (ys := []) (fun _ => rfl) IF46 rfl Try.underlying40 (by decide) rfl .nil rfl rfl (by decide)) ?_
    rintro v1 _ rfl
    refine ⟨.inl rfl, ?_⟩
    refine W.cast (m' := m) (l' := hownT 46 2 Clause.enc v1 _ :: l) rfl rfl ?_
    refine W.q rfl rfl rfl rfl (by decide) (Yd.mv rfl (.t rfl)) ?_
    refine W.e rfl rfl rfl rfl (by decide) (Ef.apI (pos := 0) (enc := Clause.enc) (xs := ([] : List Clause)) (ys := s_0) (fun _ => rfl) IF46 rfl rfl Try.underlying40 rfl (by decide) (.t rfl) (.t rfl) (Src.rs (by decide) (.refl _) hs_0) (fun _ => rfl) (by omega) (by omega)) ?_
    rintro v3 _ rfl
    refine ⟨.inl rfl, ?_⟩
    refine W.cast (m' := m) (l' := hownT 46 2 Clause.enc v3 _ :: l) rfl rfl ?_
    refine W.q rfl rfl rfl rfl (by decide) (Yd.as rfl (.t rfl)) ?_
    refine W.end ?_
    refine NX.sub (env' := [(2, _)]) ⟨rfl, trivial⟩ ?_
    refine NX.then ?_
    refine Tr.ret' ?_
    refine res1 rfl rfl ?_
    intro w hc
    cases hr
    exact ⟨_, rfl, hc⟩

def clause_Resolve (a_0 : Clause) (b_1 : Clause) : Option (Clause × Bool) :=
  (bif ((a_0.yes &&& b_1.no) == 0#32) then
  some ((({ yes := (0#32), no := (0#32) } : Clause), false))
  else
  some ((({ yes := ((a_0.yes &&& ~~~((a_0.yes &&& b_1.no) &&& (0 - (a_0.yes &&& b_1.no)))) ||| b_1.yes), no := (a_0.no ||| (b_1.no &&& ~~~((a_0.yes &&& b_1.no) &&& (0 - (a_0.yes &&& b_1.no))))) } : Clause), true)))

set_option maxRecDepth 100000 in
set_option maxHeartbeats 4000000 in
theorem clause_Resolve_ok (w0 : World) (m : Snap) (l : List HI) (a_0 : Clause) (b_1 : Clause) (r : Clause × Bool) (hr : clause_Resolve a_0 b_1 = some r) (w : World) (hc : cX w0 ⟨m, l⟩ w) :
    Calls Try.prog 52 [.agg #[.int .u32 (a_0.yes.toNat : Int), .int .u32 (a_0.no.toNat : Int)], .agg #[.int .u32 (b_1.yes.toNat : Int), .int .u32 (b_1.no.toNat : Int)]].toArray w fun e w' => e = .returned (.tuple #[.agg #[.int .u32 (r.1.yes.toNat : Int), .int .u32 (r.1.no.toNat : Int)], .bool r.2]) ∧ cX w0 ⟨m, l⟩ w' := by
  unfold clause_Resolve at hr
  refine calls_of_Tr (N := 35) Try.func52 rfl hc rfl (Nat.le_of_ble_eq_true rfl) ?_
  refine Tr.seq ?_
  refine Tr.region_f (fun i => Nat.beq i 0 || Nat.beq i 1 || Nat.beq i 2) ?_
  refine W.e rfl rfl rfl rfl (by decide) (Ef.bx rfl (.t rfl) rfl) ?_
  rintro _ _ ⟨b1, rfl, rfl⟩
  refine ⟨.inl rfl, ?_⟩
  refine W.cast (m' := m) (l' := hcells b1 [_, _] 46 :: l) rfl rfl ?_
  refine W.e rfl rfl rfl rfl (by decide) (Ef.bx rfl (.t rfl) rfl) ?_
  rintro _ _ ⟨b3, rfl, rfl⟩
  refine ⟨.inl rfl, ?_⟩
  refine W.cast (m' := m) (l' := hcells b3 [_, _] 46 :: hcells b1 [_, _] 46 :: l) rfl rfl ?_
  refine W.e rfl rfl rfl rfl (by decide) (Ef.al rfl ZR46 rfl) ?_
  rintro _ _ ⟨b5, rfl, rfl⟩
  refine ⟨.inl rfl, ?_⟩
  refine W.cast (m' := m) (l' := hcells b5 [_, _] 46 :: hcells b3 [_, _] 46 :: hcells b1 [_, _] 46 :: l) rfl rfl ?_
  refine W.q rfl rfl rfl rfl (by decide) (Yd.as rfl .c) ?_
  refine W.end ?_
  refine NX.sub (env' := [(2, _), (3, _), (4, _)]) ⟨rfl, rfl, rfl, trivial⟩ ?_
  refine NX.then ?_
  refine Tr.seq ?_
  refine Tr.region_f (fun _ => false) ?_
  refine W.q rfl rfl rfl rfl (by decide) (Yd.fldB rfl Try.underlying46 rfl SZ41 rfl (.t rfl)) ?_
  refine W.q rfl rfl rfl rfl (by decide) (Yd.ldB (pos := 2) rfl rfl rfl ON41 (.t rfl)) ?_
  refine W.q rfl rfl rfl rfl (by decide) (Yd.fldB rfl Try.underlying46 rfl SZ41 rfl (.t rfl)) ?_
  refine W.q rfl rfl rfl rfl (by decide) (Yd.ldB (pos := 1) rfl rfl rfl ON41 (.t rfl)) ?_
  refine W.q rfl rfl rfl rfl (by decide) (Yd.andU (a := a_0.yes) (b := b_1.no) rfl (.t rfl) (.t rfl)) ?_
  refine W.q rfl rfl rfl rfl (by decide) (Yd.as rfl (.t rfl)) ?_
  refine W.end ?_
  refine NX.sub (env' := [(2, _), (3, _), (4, _), (6, _)]) ⟨rfl, rfl, rfl, rfl, trivial⟩ ?_
  refine NX.then ?_
  refine Tr.seq ?_
  refine Tr.seq ?_
  refine Tr.region_f (fun _ => false) ?_
  refine W.q rfl rfl rfl rfl (by decide) (Yd.mv rfl (.t rfl)) ?_
  refine W.q rfl rfl rfl rfl (by decide) (Yd.eqlU (a := (a_0.yes &&& b_1.no)) (b := 0#32) rfl (.t rfl) .c) ?_
  refine W.end ?_
  refine NX.sub (env' := [(2, _), (3, _), (4, _), (6, _), (14, _)]) ⟨rfl, rfl, rfl, rfl, rfl, trivial⟩ ?_
  refine NX.then ?_
  refine Tr.cond (.t rfl) (fun hb => ?_) (fun hb => ?_)
  · have hr := cond_t hb hr
    refine Tr.seq ?_
    refine Tr.region_f (fun i => Nat.beq i 1) ?_
    refine W.q rfl rfl rfl rfl (by decide) (Yd.bld (cells := [.int .u32 (((0#32)).toNat : Int), .int .u32 (((0#32)).toNat : Int)]) rfl ZI46 PL46 .nil rfl) ?_
    refine W.s rfl rfl rfl rfl (Ef.stB (pos := 0) (us := [_, _]) (cs' := [_, _]) rfl rfl (.t rfl) (.t rfl) SZ46 rfl rfl rfl (Nat.le_of_ble_eq_true rfl) rfl) ?_
    rintro _ _ ⟨rfl, rfl⟩
    refine ⟨.inl rfl, ?_⟩
    refine W.cast (m' := m) (l' := hcells b5 [_, _] 46 :: hcells b3 [_, _] 46 :: hcells b1 [_, _] 46 :: l) rfl rfl ?_
    refine W.q rfl rfl rfl rfl (by decide) (Yd.as rfl .c) ?_
    refine W.end ?_
    refine NX.sub (env' := [(4, _), (5, _)]) ⟨rfl, rfl, trivial⟩ ?_
    refine NX.drop (l' := hcells b5 [_, _] 46 :: l) (.cons_cons _ (.cons _ (.cons _ (.refl _)))) ?_
    refine NX.then ?_
    refine Tr.ret' (RT.then ?_)
    refine resV2 rfl (Rv.cs (pos := 0) rfl rfl rfl ON46 US46 SZ46) (Rv.t rfl) ?_
    intro w hc
    cases hr
    exact ⟨rfl, (cX_sub (.cons _ (.refl _)) hc)⟩
  · have hr := cond_f hb hr
    refine Tr.skip' ?_
    refine NX.then ?_
    refine Tr.seq ?_
    refine Tr.region_f (fun _ => false) ?_
    refine W.q rfl rfl rfl rfl (by decide) (Yd.mv rfl (.t rfl)) ?_
    refine W.q rfl rfl rfl rfl (by decide) (Yd.mv rfl (.t rfl)) ?_
    refine W.q rfl rfl rfl rfl (by decide) (Yd.negU (a := (a_0.yes &&& b_1.no)) rfl (.t rfl)) ?_
    refine W.q rfl rfl rfl rfl (by decide) (Yd.andU (a := (a_0.yes &&& b_1.no)) (b := (0 - (a_0.yes &&& b_1.no))) rfl (.t rfl) (.t rfl)) ?_
    refine W.q rfl rfl rfl rfl (by decide) (Yd.as rfl (.t rfl)) ?_
    refine W.end ?_
    refine NX.sub (env' := [(2, _), (3, _), (4, _), (7, _)]) ⟨rfl, rfl, rfl, rfl, trivial⟩ ?_
    refine NX.then ?_
    refine Tr.seq ?_
    refine Tr.region_f (fun i => Nat.beq i 15) ?_
    refine W.q rfl rfl rfl rfl (by decide) (Yd.fldB rfl Try.underlying46 rfl SZ41 rfl (.t rfl)) ?_
    refine W.q rfl rfl rfl rfl (by decide) (Yd.ldB (pos := 2) rfl rfl rfl ON41 (.t rfl)) ?_
    refine W.q rfl rfl rfl rfl (by decide) (Yd.mv rfl (.t rfl)) ?_
    refine W.q rfl rfl rfl rfl (by decide) (Yd.andnU (a := a_0.yes) (b := ((a_0.yes &&& b_1.no) &&& (0 - (a_0.yes &&& b_1.no)))) rfl (.t rfl) (.t rfl)) ?_
    refine W.q rfl rfl rfl rfl (by decide) (Yd.fldB rfl Try.underlying46 rfl SZ41 rfl (.t rfl)) ?_
    refine W.q rfl rfl rfl rfl (by decide) (Yd.ldB (pos := 1) rfl rfl rfl ON41 (.t rfl)) ?_
    refine W.q rfl rfl rfl rfl (by decide) (Yd.orU (a := (a_0.yes &&& ~~~((a_0.yes &&& b_1.no) &&& (0 - (a_0.yes &&& b_1.no))))) (b := b_1.yes) rfl (.t rfl) (.t rfl)) ?_
    refine W.q rfl rfl rfl rfl (by decide) (Yd.fldB rfl Try.underlying46 rfl SZ41 rfl (.t rfl)) ?_
    refine W.q rfl rfl rfl rfl (by decide) (Yd.ldB (pos := 2) rfl rfl rfl ON41 (.t rfl)) ?_
    refine W.q rfl rfl rfl rfl (by decide) (Yd.fldB rfl Try.underlying46 rfl SZ41 rfl (.t rfl)) ?_
    refine W.q rfl rfl rfl rfl (by decide) (Yd.ldB (pos := 1) rfl rfl rfl ON41 (.t rfl)) ?_
    refine W.q rfl rfl rfl rfl (by decide) (Yd.mv rfl (.t rfl)) ?_
    refine W.q rfl rfl rfl rfl (by decide) (Yd.andnU (a := b_1.no) (b := ((a_0.yes &&& b_1.no) &&& (0 - (a_0.yes &&& b_1.no)))) rfl (.t rfl) (.t rfl)) ?_
    refine W.q rfl rfl rfl rfl (by decide) (Yd.orU (a := a_0.no) (b := (b_1.no &&& ~~~((a_0.yes &&& b_1.no) &&& (0 - (a_0.yes &&& b_1.no))))) rfl (.t rfl) (.t rfl)) ?_
    refine W.q rfl rfl rfl rfl (by decide) (Yd.bld (cells := [.int .u32 ((((a_0.yes &&& ~~~((a_0.yes &&& b_1.no) &&& (0 - (a_0.yes &&& b_1.no)))) ||| b_1.yes)).toNat : Int), .int .u32 (((a_0.no ||| (b_1.no &&& ~~~((a_0.yes &&& b_1.no) &&& (0 - (a_0.yes &&& b_1.no)))))).toNat : Int)]) rfl ZI46 PL46 (.cons (.t rfl) (.cons (.t rfl) .nil)) rfl) ?_
    refine W.s rfl rfl rfl rfl (Ef.stB (pos := 0) (us := [_, _]) (cs' := [_, _]) rfl rfl (.t rfl) (.t rfl) SZ46 rfl rfl rfl (Nat.le_of_ble_eq_true rfl) rfl) ?_
    rintro _ _ ⟨rfl, rfl⟩
    refine ⟨.inl rfl, ?_⟩
    refine W.cast (m' := m) (l' := hcells b5 [_, _] 46 :: hcells b3 [_, _] 46 :: hcells b1 [_, _] 46 :: l) rfl rfl ?_
    refine W.q rfl rfl rfl rfl (by decide) (Yd.as rfl .c) ?_
    refine W.end ?_
    refine NX.sub (env' := [(4, _), (5, _)]) ⟨rfl, rfl, trivial⟩ ?_
    refine NX.drop (l' := hcells b5 [_, _] 46 :: l) (.cons_cons _ (.cons _ (.cons _ (.refl _)))) ?_
    refine NX.then ?_
    refine Tr.ret' ?_
    refine resV2 rfl (Rv.cs (pos := 0) rfl rfl rfl ON46 US46 SZ46) (Rv.t rfl) ?_
    intro w hc
    cases hr
    exact ⟨rfl, (cX_sub (.cons _ (.refl _)) hc)⟩

def clause_needed_k34 (l30 : List (Int × Int)) : Option ((List (Int × Int))) :=
  some l30

def clause_needed_b38 (n_0 : Int) (by_1 : List (Int × Int)) (l12 : List Bool) (t_37 : Int) (l26 : List (Int × Int)) (l28 : List Int) (nx39 : ((List (Int × Int)) × (List Int)) → Option ((List (Int × Int)))) : Option ((List (Int × Int))) :=
  (geti by_1 t_37).bind fun y41 =>
  (geti l28 t_37).bind fun y45 =>
  bif (!((decide (t_37 ≥ n_0)) == true) || (geti l12 t_37).isSome) then
  (bif ((decide (t_37 ≥ n_0)) && ((geti l12 t_37).getD false)) then
  (geti ((l28.set t_37.toNat t_37)) t_37).bind fun y48 =>
  (geti ((((l28.set t_37.toNat t_37)).set t_37.toNat ((w64 (n_0 + (l26.length : Int)))))) y41.1).bind fun y50 =>
  (geti ((((l28.set t_37.toNat t_37)).set t_37.toNat ((w64 (n_0 + (l26.length : Int)))))) y41.2).bind fun y52 =>
  bif decide (l26.length + (([(y50, y52)] : List (Int × Int))).length ≤ 8796093022208) then
  nx39 ((l26 ++ ([(y50, y52)] : List (Int × Int))), (((l28.set t_37.toNat t_37)).set t_37.toNat ((w64 (n_0 + (l26.length : Int)))))) else none
  else
  nx39 (l26, (l28.set t_37.toNat t_37))) else none

def clause_needed_k14 (n_0 : Int) (by_1 : List (Int × Int)) (l12 : List Bool) : Option ((List (Int × Int))) :=
  bif decide (0 ≤ (by_1.length : Int) ∧ (by_1.length : Int) ≤ 1048576) then
  forK (σ := (List (Int × Int)) × (List Int)) (fun i s nx_ => clause_needed_b38 n_0 by_1 l12 i s.1 s.2 nx_) (fun s => clause_needed_k34 s.1) ((by_1.length : Int) - (0 : Int)).toNat (0 : Int) ((([] : List (Int × Int))), ((List.replicate ((by_1.length : Int)).toNat (0 : Int)))) else none

def clause_needed_b58 (n_0 : Int) (by_1 : List (Int × Int)) (i_9 : Int) (l10 : List Bool) (nx59 : (Int × (List Bool)) → Option ((List (Int × Int)))) : Option ((List (Int × Int))) :=
  (bif (decide (i_9 ≥ n_0)) then
  (geti l10 i_9).bind fun y61 =>
  (bif y61 then
  (geti by_1 i_9).bind fun y63 =>
  (geti l10 y63.1).bind fun y65 =>
  (geti ((l10.set y63.1.toNat true)) y63.2).bind fun y67 =>
  nx59 ((w64 (i_9 - (1 : Int))), (((l10.set y63.1.toNat true)).set y63.2.toNat true))
  else
  nx59 ((w64 (i_9 - (1 : Int))), l10))
  else
  clause_needed_k14 n_0 by_1 l10)

def clause_needed (fuel : Nat) (n_0 : Int) (by_1 : List (Int × Int)) : Option ((List (Int × Int))) :=
  bif decide (0 ≤ (by_1.length : Int) ∧ (by_1.length : Int) ≤ 1048576) then
  (geti ((List.replicate ((by_1.length : Int)).toNat false)) ((w64 ((by_1.length : Int) - (1 : Int))))).bind fun y4 =>
  whileK (σ := Int × (List Bool)) (fun s nx_ => clause_needed_b58 n_0 by_1 s.1 s.2 nx_) fuel (((w64 ((by_1.length : Int) - (1 : Int)))), ((((List.replicate ((by_1.length : Int)).toNat false)).set ((w64 ((by_1.length : Int) - (1 : Int)))).toNat true))) else none

set_option maxRecDepth 100000 in
set_option maxHeartbeats 4000000 in
theorem clause_needed_ok (w0 : World) (m : Snap) (l : List HI) (fuel : Nat) (n_0 : Int) (uby_1 : Value) (by_1 : List (Int × Int)) (hby_1 : RS rP m uby_1 by_1) (r : (List (Int × Int))) (hr : clause_needed fuel n_0 by_1 = some r) (w : World) (hc : cX w0 ⟨m, l⟩ w) :
    Calls Try.prog 53 [.int .i64 n_0, uby_1].toArray w fun e w' => ∃ z0 : Value, e = .returned (z0) ∧ cX w0 ⟨m, hownT 86 2 encP z0 r :: l⟩ w' := by
  unfold clause_needed at hr
  refine calls_of_Tr (N := 91) Try.func53 rfl hc rfl (Nat.le_of_ble_eq_true rfl) ?_
  refine Tr.seq ?_
  refine Tr.region_f (fun _ => false) ?_
  refine W.q rfl rfl rfl rfl (by decide) (Yd.as rfl .c) ?_
  refine W.end ?_
  refine NX.sub (env' := [(0, _), (1, _)]) ⟨rfl, rfl, trivial⟩ ?_
  refine NX.then ?_
  refine Tr.seq ?_
  obtain ⟨hq1, hr⟩ := guard_some hr; replace hq1 := of_decide_eq_true hq1
  refine Tr.region_f (fun i => Nat.beq i 2) ?_
  refine W.q rfl rfl rfl rfl (by decide) (Yd.mv rfl (.t rfl)) ?_
  refine W.q rfl rfl rfl rfl (by decide) (Yd.lenR hby_1 rfl Try.underlying53 (.t rfl)) ?_
  refine W.e rfl rfl rfl rfl (by decide) (Ef.mkT (enc := encB) false IF4 rfl Try.underlying23 rfl rfl (by decide) (.t rfl) (.t rfl) (by omega) (by omega) (by omega)) ?_
  rintro v2 _ rfl
  refine ⟨.inl rfl, ?_⟩
  refine W.cast (m' := m) (l' := hownT 4 1 encB v2 _ :: l) rfl rfl ?_
  refine W.q rfl rfl rfl rfl (by decide) (Yd.as rfl (.t rfl)) ?_
  refine W.end ?_
  refine NX.sub (env' := [(0, _), (1, _), (5, _)]) ⟨rfl, rfl, rfl, trivial⟩ ?_
  refine NX.then ?_
  refine Tr.seq ?_
  obtain ⟨y4, hy5, hr⟩ := bind_some hr
  refine Tr.region_f (fun i => Nat.beq i 5) ?_
  refine W.q rfl rfl rfl rfl (by decide) (Yd.mv rfl (.t rfl)) ?_
  refine W.q rfl rfl rfl rfl (by decide) (Yd.mv rfl (.t rfl)) ?_
  refine W.q rfl rfl rfl rfl (by decide) (Yd.lenR hby_1 rfl Try.underlying53 (.t rfl)) ?_
  refine W.q rfl rfl rfl rfl (by decide) (Yd.sub rfl (.t rfl) .c) ?_
  refine W.q rfl rfl rfl rfl (by decide) (Yd.idxT (pos := 0) rfl hy5 rfl Try.underlying23 SZ4 (.t rfl) (.t rfl)) ?_
  refine W.s rfl rfl rfl rfl (Ef.stT (enc := encB) (n := 1) (pos := 0) (y := true) (us := [_]) (fun _ => rfl) rfl hy5 rfl (.t rfl) .c SZ4 rfl rfl rfl (by decide)) ?_
  rintro _ _ ⟨rfl, rfl⟩
  refine ⟨.inl rfl, ?_⟩
  refine W.cast (m' := m) (l' := hownT 4 1 encB v2 _ :: l) rfl rfl ?_
  refine W.end ?_
  refine NX.sub (env' := [(0, _), (1, _), (5, _)]) ⟨rfl, rfl, rfl, trivial⟩ ?_
  refine NX.then ?_
  refine Tr.seq ?_
  refine Tr.seq ?_
  refine Tr.region_f (fun _ => false) ?_
  refine W.q rfl rfl rfl rfl (by decide) (Yd.mv rfl (.t rfl)) ?_
  refine W.q rfl rfl rfl rfl (by decide) (Yd.lenR hby_1 rfl Try.underlying53 (.t rfl)) ?_
  refine W.q rfl rfl rfl rfl (by decide) (Yd.sub rfl (.t rfl) .c) ?_
  refine W.q rfl rfl rfl rfl (by decide) (Yd.as rfl (.t rfl)) ?_
  refine W.end ?_
  refine NX.sub (env' := [(0, _), (1, _), (5, _), (6, _)]) ⟨rfl, rfl, rfl, rfl, trivial⟩ ?_
  refine NX.then ?_
  refine Tr.join (S := fun env x => ∃ l12 : List Bool, ∃ v13 : Value, env = [(0, .int .i64 n_0), (1, uby_1), (5, v13)] ∧ x = ⟨m, hownT 4 1 encB v13 l12 :: l⟩ ∧ clause_needed_k14 n_0 by_1 l12 = some r) ?_ (fun hk15 => ?_)
  · rintro _ _ ⟨l12, v13, rfl, rfl, hr⟩
    unfold clause_needed_k14 at hr
    try dsimp only at hr
    refine NX.then ?_
    refine Tr.seq ?_
    obtain ⟨hq16, hr⟩ := guard_some hr; replace hq16 := of_decide_eq_true hq16
    refine Tr.region_f (fun i => Nat.beq i 2) ?_
    refine W.q rfl rfl rfl rfl (by decide) (Yd.mv rfl (.t rfl)) ?_
    refine W.q rfl rfl rfl rfl (by decide) (Yd.lenR hby_1 rfl Try.underlying53 (.t rfl)) ?_
    refine W.e rfl rfl rfl rfl (by decide) (Ef.mkT (enc := encI) (0 : Int) IF3 rfl Try.underlying90 rfl rfl (by decide) (.t rfl) (.t rfl) (by omega) (by omega) (by omega)) ?_
    rintro v17 _ rfl
    refine ⟨.inl rfl, ?_⟩
    refine W.cast (m' := m) (l' := hownT 3 1 encI v17 _ :: hownT 4 1 encB v13 _ :: l) rfl rfl ?_
    refine W.q rfl rfl rfl rfl (by decide) (Yd.as rfl (.t rfl)) ?_
    refine W.end ?_
    refine NX.sub (env' := [(0, _), (1, _), (5, _), (7, _)]) ⟨rfl, rfl, rfl, rfl, trivial⟩ ?_
    refine NX.then ?_
    refine Tr.seq ?_
    refine Tr.region_f (fun _ => false) ?_
    refine W.q rfl rfl rfl rfl (by decide) (Yd.as rfl .c) ?_
    refine W.end ?_
    refine NX.sub (env' := [(0, _), (1, _), (5, _), (7, _), (8, _)]) ⟨rfl, rfl, rfl, rfl, rfl, trivial⟩ ?_
    refine NX.then ?_
    refine Tr.seq ?_
    refine Tr.seq ?_
    refine Tr.region_f (fun _ => false) ?_
    refine W.q rfl rfl rfl rfl (by decide) (Yd.mv rfl (.t rfl)) ?_
    refine W.q rfl rfl rfl rfl (by decide) (Yd.lenR hby_1 rfl Try.underlying53 (.t rfl)) ?_
    refine W.q rfl rfl rfl rfl (by decide) (Yd.mv rfl .c) ?_
    refine W.end ?_
    refine NX.sub (env' := [(0, _), (5, _), (7, _), (8, _), (48, _), (49, _), (50, _)]) ⟨rfl, rfl, rfl, rfl, rfl, rfl, rfl, trivial⟩ ?_
    refine NX.then ?_
    refine Tr.addnil 86 2 ?_
    refine Tr.join (S := fun env x => ∃ l30 : List (Int × Int), ∃ v31 : Value, env = [(8, v31)] ∧ x = ⟨m, hownT 86 2 encP v31 l30 :: l⟩ ∧ clause_needed_k34 l30 = some r) ?_ (fun hk35 => ?_)
    · rintro _ _ ⟨l30, v31, rfl, rfl, hr⟩
      unfold clause_needed_k34 at hr
      try dsimp only at hr
      refine NX.then ?_
      refine Tr.seq ?_
      refine Tr.region_f (fun _ => false) ?_
      refine W.q rfl rfl rfl rfl (by decide) (Yd.mv rfl (.t rfl)) ?_
      refine W.q rfl rfl rfl rfl (by decide) (Yd.as rfl (.t rfl)) ?_
      refine W.end ?_
      refine NX.sub (env' := [(4, _)]) ⟨rfl, trivial⟩ ?_
      refine NX.then ?_
      refine Tr.ret' ?_
      refine res1 rfl rfl ?_
      intro w hc
      cases hr
      exact ⟨_, rfl, hc⟩
    have hlen36 := (hby_1).2.1
    refine Tr.block ?_
    refine Tr.sub (env' := [(0, _), (5, _), (7, _), (8, _), (48, _), (49, _), (50, _)]) ⟨rfl, rfl, rfl, rfl, rfl, rfl, rfl, trivial⟩ ?_
    refine Tr.loop (S := fun n (z : Int × (List (Int × Int)) × (List Int)) env x => match z with | (t_37, l26, l28) => ∃ v27 : Value, ∃ v29 : Value, env = [(0, .int .i64 n_0), (5, v13), (7, v29), (8, v27), (48, uby_1), (49, .int .i64 ((by_1.length : Int))), (50, .int .i64 t_37)] ∧ x = ⟨m, hownT 86 2 encP v27 l26 :: hownT 3 1 encI v29 l28 :: hownT 4 1 encB v13 l12 :: l⟩ ∧ n = ((by_1.length : Int) - t_37).toNat ∧ 0 ≤ t_37 ∧ forK (σ := (List (Int × Int)) × (List Int)) (fun i s nx_ => clause_needed_b38 n_0 by_1 l12 i s.1 s.2 nx_) (fun s => clause_needed_k34 s.1) n t_37 (l26, l28) = some r) _ ((0 : Int), ([] : List (Int × Int)), (List.replicate ((by_1.length : Int)).toNat (0 : Int))) ⟨_, _, rfl, rfl, rfl, (by omega), hr⟩ ?_
    rintro n40 ⟨t_37, l26, l28⟩ env x ⟨v27, v29, rfl, rfl, hnt_37, h0t_37, hr⟩
    cases n40 with
    | zero =>
      simp only [forK] at hr
      refine Tr.seq ?_
      refine Tr.region_f (fun _ => false) ?_
      refine W.q rfl rfl rfl rfl (by decide) (Yd.lss rfl (.t rfl) (.t rfl)) ?_
      refine W.end ?_
      refine NX.sub (env' := [(0, _), (5, _), (7, _), (8, _), (48, _), (49, _), (50, _), (51, _)]) ⟨rfl, rfl, rfl, rfl, rfl, rfl, rfl, rfl, trivial⟩ ?_
      refine NX.then ?_
      refine Tr.seq ?_
      refine Tr.cond (.t rfl) (fun hb => ?_) (fun hb => ?_)
      · exact absurd (hb.symm.trans (fr_end hnt_37)) (by decide)
      ·
        refine Tr.exit' (EX.then (EX.then (EX.block ?_)))
        refine NX.sub (env' := [(8, _)]) ⟨rfl, trivial⟩ ?_
        refine NX.drop (l' := hownT 86 2 encP v27 _ :: l) (.cons_cons _ (.cons _ (.cons _ (.refl _)))) ?_
        exact hk35 _ _ ⟨_, _, rfl, rfl, hr⟩
    | succ n40 =>
      obtain ⟨nx39, hnx39, hr⟩ := forK_succ hr
      try dsimp only at hr
      unfold clause_needed_b38 at hr
      try dsimp only at hr
      have hltt_37 := fr_bnd hnt_37
      refine Tr.seq ?_
      refine Tr.region_f (fun _ => false) ?_
      refine W.q rfl rfl rfl rfl (by decide) (Yd.lss rfl (.t rfl) (.t rfl)) ?_
      refine W.end ?_
      refine NX.sub (env' := [(0, _), (5, _), (7, _), (8, _), (48, _), (49, _), (50, _), (51, _)]) ⟨rfl, rfl, rfl, rfl, rfl, rfl, rfl, rfl, trivial⟩ ?_
      refine NX.then ?_
      refine Tr.seq ?_
      refine Tr.cond (.t rfl) (fun hb => ?_) (fun hb => ?_)
      rotate_left
      · exact absurd (hb.symm.trans (fr_go hnt_37)) (by decide)
      ·
        refine Tr.skip' ?_
        refine NX.then ?_
        refine Tr.seq ?_
        refine Tr.block ?_
        refine Tr.seq ?_
        obtain ⟨y41, hy42, hr⟩ := bind_some hr
        refine Tr.region_f (fun i => Nat.beq i 3 || Nat.beq i 5) ?_
        refine W.q rfl rfl rfl rfl (by decide) (Yd.mv rfl (.t rfl)) ?_
        refine W.q rfl rfl rfl rfl (by decide) (Yd.idxR hby_1 hy42 rfl Try.underlying53 SZ86 (.t rfl) (.t rfl)) ?_
        refine W.q rfl rfl rfl rfl (by decide) (Yd.ldFs (us := [_, _]) hby_1 (.refl _) hy42 rfl rfl ON86 US86 SZ86 (.t rfl)) ?_
        refine W.e rfl rfl rfl rfl (by decide) (Ef.al rfl ZR86 rfl) ?_
        rintro _ _ ⟨b43, rfl, rfl⟩
        refine ⟨.inl rfl, ?_⟩
        refine W.cast (m' := m) (l' := hcells b43 [_, _] 86 :: hownT 86 2 encP v27 _ :: hownT 3 1 encI v29 _ :: hownT 4 1 encB v13 _ :: l) rfl rfl ?_
        refine W.q rfl rfl rfl rfl (by decide) (Yd.as rfl (.t rfl)) ?_
        refine W.s rfl rfl rfl rfl (Ef.stB (pos := 0) (us := [_, _]) (cs' := [_, _]) rfl rfl (.t rfl) (.t rfl) SZ86 rfl rfl rfl (Nat.le_of_ble_eq_true rfl) rfl) ?_
        rintro _ _ ⟨rfl, rfl⟩
        refine ⟨.inl rfl, ?_⟩
        refine W.cast (m' := m) (l' := hcells b43 [_, _] 86 :: hownT 86 2 encP v27 _ :: hownT 3 1 encI v29 _ :: hownT 4 1 encB v13 _ :: l) rfl rfl ?_
        refine W.end ?_
        refine NX.sub (env' := [(0, _), (5, _), (7, _), (8, _), (48, _), (49, _), (50, _), (10, _), (9, _)]) ⟨rfl, rfl, rfl, rfl, rfl, rfl, rfl, rfl, rfl, trivial⟩ ?_
        refine NX.then ?_
        refine Tr.seq ?_
        obtain ⟨y45, hy46, hr⟩ := bind_some hr
        refine Tr.region_f (fun i => Nat.beq i 4) ?_
        refine W.q rfl rfl rfl rfl (by decide) (Yd.mv rfl (.t rfl)) ?_
        refine W.q rfl rfl rfl rfl (by decide) (Yd.mv rfl (.t rfl)) ?_
        refine W.q rfl rfl rfl rfl (by decide) (Yd.mv rfl (.t rfl)) ?_
        refine W.q rfl rfl rfl rfl (by decide) (Yd.idxT (pos := 2) rfl hy46 rfl Try.underlying90 SZ3 (.t rfl) (.t rfl)) ?_
        refine W.s rfl rfl rfl rfl (Ef.stT (enc := encI) (n := 1) (pos := 2) (y := t_37) (us := [_]) (fun _ => rfl) rfl hy46 rfl (.t rfl) (.t rfl) SZ3 rfl rfl rfl (by decide)) ?_
        rintro _ _ ⟨rfl, rfl⟩
        refine ⟨.inl rfl, ?_⟩
        refine W.cast (m' := m) (l' := hcells b43 [_, _] 86 :: hownT 86 2 encP v27 _ :: hownT 3 1 encI v29 _ :: hownT 4 1 encB v13 _ :: l) rfl rfl ?_
        refine W.end ?_
        refine NX.sub (env' := [(0, _), (5, _), (7, _), (8, _), (48, _), (49, _), (50, _), (10, _), (9, _)]) ⟨rfl, rfl, rfl, rfl, rfl, rfl, rfl, rfl, rfl, trivial⟩ ?_
        refine NX.then ?_
        refine Tr.seq ?_
        obtain ⟨ha47, hr⟩ := guard_some hr
        refine Tr.region_f (fun _ => false) ?_
        refine W.q rfl rfl rfl rfl (by decide) (Yd.mv rfl (.t rfl)) ?_
        refine W.q rfl rfl rfl rfl (by decide) (Yd.mv rfl (.t rfl)) ?_
        refine W.q rfl rfl rfl rfl (by decide) (Yd.geq rfl (.t rfl) (.t rfl)) ?_
        refine W.q rfl rfl rfl rfl (by decide) (Yd.mv rfl (.t rfl)) ?_
        refine W.g rfl rfl rfl rfl rfl (.t rfl _) rfl (by decide) (fun hG => Yd.mv rfl (.t rfl)) ?_
        refine W.g rfl rfl rfl rfl rfl (.t rfl _) rfl (by decide) (fun hG => Yd.mv rfl (.t rfl)) ?_
        refine W.g rfl rfl rfl rfl rfl (.t rfl _) rfl (by decide) (fun hG => Yd.idxT (pos := 3) rfl (gd_get (d := false) ha47 hG) rfl Try.underlying23 SZ4 (.g rfl hG) (.g rfl hG)) ?_
        refine W.g rfl rfl rfl rfl rfl (.t rfl _) rfl (by decide) (fun hG => Yd.ldT (enc := encB) (n := 1) (pos := 3) (fun _ => rfl) rfl (gd_get (d := false) ha47 hG) rfl rfl ON4 (.g rfl hG)) ?_
        refine W.q rfl rfl rfl rfl (by decide) (Yd.and rfl (.t rfl) .c rfl rfl) ?_
        refine W.end ?_
        refine NX.sub (env' := [(0, _), (5, _), (7, _), (8, _), (48, _), (49, _), (50, _), (10, _), (9, _), (67, _)]) ⟨rfl, rfl, rfl, rfl, rfl, rfl, rfl, rfl, rfl, rfl, trivial⟩ ?_
        refine NX.then ?_
        refine Tr.cond (.t rfl) (fun hb => ?_) (fun hb => ?_)
        · have hr := cond_t hb hr
          refine Tr.seq ?_
          obtain ⟨y48, hy49, hr⟩ := bind_some hr
          refine Tr.region_f (fun i => Nat.beq i 7) ?_
          refine W.q rfl rfl rfl rfl (by decide) (Yd.mv rfl (.t rfl)) ?_
          refine W.q rfl rfl rfl rfl (by decide) (Yd.mv rfl (.t rfl)) ?_
          refine W.q rfl rfl rfl rfl (by decide) (Yd.mv rfl (.t rfl)) ?_
          refine W.q rfl rfl rfl rfl (by decide) (Yd.mv rfl (.t rfl)) ?_
          refine W.q rfl rfl rfl rfl (by decide) (Yd.lenO (p := 1) rfl rfl Try.underlying53 (.t rfl)) ?_
          refine W.q rfl rfl rfl rfl (by decide) (Yd.add rfl (.t rfl) (.t rfl)) ?_
          refine W.q rfl rfl rfl rfl (by decide) (Yd.idxT (pos := 2) rfl hy49 rfl Try.underlying90 SZ3 (.t rfl) (.t rfl)) ?_
          refine W.s rfl rfl rfl rfl (Ef.stT (enc := encI) (n := 1) (pos := 2) (y := (w64 (n_0 + (l26.length : Int)))) (us := [_]) (fun _ => rfl) rfl hy49 rfl (.t rfl) (.t rfl) SZ3 rfl rfl rfl (by decide)) ?_
          rintro _ _ ⟨rfl, rfl⟩
          refine ⟨.inl rfl, ?_⟩
          refine W.cast (m' := m) (l' := hcells b43 [_, _] 86 :: hownT 86 2 encP v27 _ :: hownT 3 1 encI v29 _ :: hownT 4 1 encB v13 _ :: l) rfl rfl ?_
          refine W.end ?_
          refine NX.sub (env' := [(0, _), (5, _), (7, _), (8, _), (48, _), (49, _), (50, _), (10, _)]) ⟨rfl, rfl, rfl, rfl, rfl, rfl, rfl, rfl, trivial⟩ ?_
          refine NX.then ?_
          obtain ⟨y50, hy51, hr⟩ := bind_some hr
          obtain ⟨y52, hy53, hr⟩ := bind_some hr
          obtain ⟨hq57, hr⟩ := guard_some hr; replace hq57 := of_decide_eq_true hq57
          refine Tr.region_x (fun i => Nat.beq i 12 || Nat.beq i 13) (fun i => Nat.beq i 13) (Ord.of [0, 1, 2, 3, 4, 5, 6, 7, 8, 9, 10, 11, 12, 13, 14]) FM (by kernel_rfl) ?_
          refine W.q rfl rfl rfl rfl (by decide) (Yd.mv rfl (.t rfl)) ?_
          refine W.q rfl rfl rfl rfl (by decide) (Yd.mv rfl (.t rfl)) ?_
          refine W.q rfl rfl rfl rfl (by decide) (Yd.arrB rfl Try.underlying86 SZ3 (by decide) (by decide) (.t rfl) .c) ?_
          refine W.q rfl rfl rfl rfl (by decide) (Yd.ldB (pos := 0) rfl rfl rfl ON3 (.t rfl)) ?_
          refine W.q rfl rfl rfl rfl (by decide) (Yd.idxT (pos := 2) rfl hy51 rfl Try.underlying90 SZ3 (.t rfl) (.t rfl)) ?_
          refine W.q rfl rfl rfl rfl (by decide) (Yd.ldT (enc := encI) (n := 1) (pos := 2) (fun _ => rfl) rfl hy51 rfl rfl ON3 (.t rfl)) ?_
          refine W.q rfl rfl rfl rfl (by decide) (Yd.mv rfl (.t rfl)) ?_
          refine W.q rfl rfl rfl rfl (by decide) (Yd.arrB rfl Try.underlying86 SZ3 (by decide) (by decide) (.t rfl) .c) ?_
          refine W.q rfl rfl rfl rfl (by decide) (Yd.ldB (pos := 0) rfl rfl rfl ON3 (.t rfl)) ?_
          refine W.q rfl rfl rfl rfl (by decide) (Yd.idxT (pos := 2) rfl hy53 rfl Try.underlying90 SZ3 (.t rfl) (.t rfl)) ?_
          refine W.q rfl rfl rfl rfl (by decide) (Yd.ldT (enc := encI) (n := 1) (pos := 2) (fun _ => rfl) rfl hy53 rfl rfl ON3 (.t rfl)) ?_
          refine W.q rfl rfl rfl rfl (by decide) (Yd.bldA (cells := [.int .i64 y50, .int .i64 y52]) rfl ZI86 PA86 (.cons (.t rfl) (.cons (.t rfl) .nil)) rfl) ?_
          refine W.e rfl rfl rfl rfl (by decide) (Ef.bsT (enc := encP) (vs := [_]) (ys := [(y50, y52)]) (fun _ => rfl) IF86 rfl Try.underlying53 (by decide) rfl (.cons (.t rfl) .nil) rfl rfl (by decide)) ?_
          rintro v54 _ rfl
          refine ⟨.inr ⟨.refl _, [_], rfl⟩, ?_⟩
          refine W.cast (m' := m) (l' := hownT 86 2 encP v54 _ :: hcells b43 [_, _] 86 :: hownT 86 2 encP v27 _ :: hownT 3 1 encI v29 _ :: hownT 4 1 encB v13 _ :: l) rfl rfl ?_
          refine W.e rfl rfl rfl rfl (by decide) (Ef.apI (pos := 2) (enc := encP) (xs := l26) (ys := ([(y50, y52)] : List (Int × Int))) (fun _ => rfl) IF86 rfl rfl Try.underlying53 rfl (by decide) (.t rfl) (.t rfl) (Src.own (pos := 0) rfl) (fun _ => rfl) (by omega) (by omega)) ?_
          rintro v56 _ rfl
          refine ⟨.inl rfl, ?_⟩
          refine W.cast (m' := m) (l' := hownT 86 2 encP v54 _ :: hcells b43 [_, _] 86 :: hownT 86 2 encP v56 _ :: hownT 3 1 encI v29 _ :: hownT 4 1 encB v13 _ :: l) rfl rfl ?_
          refine W.q rfl rfl rfl rfl (by decide) (Yd.as rfl (.t rfl)) ?_
          refine W.end ?_
          refine NX.sub (env' := [(0, _), (5, _), (7, _), (8, _), (48, _), (49, _), (50, _)]) ⟨rfl, rfl, rfl, rfl, rfl, rfl, rfl, trivial⟩ ?_
          refine NX.drop (l' := hownT 86 2 encP v56 _ :: hownT 3 1 encI v29 _ :: hownT 4 1 encB v13 _ :: l) (.cons _ (.cons _ (.cons_cons _ (.cons_cons _ (.cons_cons _ (.refl _)))))) ?_
          refine NX.block ?_
          refine NX.then ?_
          refine Tr.region_f (fun _ => false) ?_
          refine W.q rfl rfl rfl rfl (by decide) (Yd.add rfl (.t rfl) .c) ?_
          refine W.q rfl rfl rfl rfl (by decide) (Yd.mv rfl (.t rfl)) ?_
          refine W.end ?_
          refine NX.sub (env' := [(0, _), (5, _), (7, _), (8, _), (48, _), (49, _), (50, _)]) ⟨rfl, rfl, rfl, rfl, rfl, rfl, rfl, trivial⟩ ?_
          refine NX.sub (env' := [(0, _), (5, _), (7, _), (8, _), (48, _), (49, _), (50, _)]) ⟨rfl, rfl, rfl, rfl, rfl, rfl, rfl, trivial⟩ ?_
          have hw := w64_id (n := t_37 + 1) (by omega) (by omega)
          exact NX.again n40 (t_37 + 1, (l26 ++ ([(y50, y52)] : List (Int × Int))), (((l28.set t_37.toNat t_37)).set t_37.toNat ((w64 (n_0 + (l26.length : Int)))))) (Nat.lt_succ_self _) ⟨_, _, (by rw [hw] <;> rfl), rfl, (fr_dec hnt_37), (by omega), ((hnx39 _).symm.trans hr)⟩
        · have hr := cond_f hb hr
          refine Tr.skip' ?_
          refine NX.block ?_
          refine NX.then ?_
          refine Tr.region_f (fun _ => false) ?_
          refine W.q rfl rfl rfl rfl (by decide) (Yd.add rfl (.t rfl) .c) ?_
          refine W.q rfl rfl rfl rfl (by decide) (Yd.mv rfl (.t rfl)) ?_
          refine W.end ?_
          refine NX.sub (env' := [(0, _), (5, _), (7, _), (8, _), (48, _), (49, _), (50, _)]) ⟨rfl, rfl, rfl, rfl, rfl, rfl, rfl, trivial⟩ ?_
          refine NX.drop (l' := hownT 86 2 encP v27 _ :: hownT 3 1 encI v29 _ :: hownT 4 1 encB v13 _ :: l) (.cons _ (.cons_cons _ (.cons_cons _ (.cons_cons _ (.refl _))))) ?_
          refine NX.sub (env' := [(0, _), (5, _), (7, _), (8, _), (48, _), (49, _), (50, _)]) ⟨rfl, rfl, rfl, rfl, rfl, rfl, rfl, trivial⟩ ?_
          have hw := w64_id (n := t_37 + 1) (by omega) (by omega)
          exact NX.again n40 (t_37 + 1, l26, (l28.set t_37.toNat t_37)) (Nat.lt_succ_self _) ⟨_, _, (by rw [hw] <;> rfl), rfl, (fr_dec hnt_37), (by omega), ((hnx39 _).symm.trans hr)⟩
  refine Tr.block ?_
  refine Tr.sub (env' := [(0, _), (1, _), (5, _), (6, _)]) ⟨rfl, rfl, rfl, rfl, trivial⟩ ?_
  refine Tr.loop (S := fun n (z : Int × (List Bool)) env x => match z with | (i_9, l10) => ∃ v11 : Value, env = [(0, .int .i64 n_0), (1, uby_1), (5, v11), (6, .int .i64 i_9)] ∧ x = ⟨m, hownT 4 1 encB v11 l10 :: l⟩ ∧ whileK (σ := Int × (List Bool)) (fun s nx_ => clause_needed_b58 n_0 by_1 s.1 s.2 nx_) n (i_9, l10) = some r) _ ((w64 ((by_1.length : Int) - (1 : Int))), (((List.replicate ((by_1.length : Int)).toNat false)).set ((w64 ((by_1.length : Int) - (1 : Int)))).toNat true)) ⟨_, rfl, rfl, hr⟩ ?_
  rintro n60 ⟨i_9, l10⟩ env x ⟨v11, rfl, rfl, hr⟩
  cases n60 with
  | zero => simp [whileK] at hr
  | succ n60 =>
    obtain ⟨nx59, hnx59, hr⟩ := whileK_succ hr
    try dsimp only at hr
    unfold clause_needed_b58 at hr
    try dsimp only at hr
    refine Tr.seq ?_
    refine Tr.seq ?_
    refine Tr.region_f (fun _ => false) ?_
    refine W.q rfl rfl rfl rfl (by decide) (Yd.mv rfl (.t rfl)) ?_
    refine W.q rfl rfl rfl rfl (by decide) (Yd.mv rfl (.t rfl)) ?_
    refine W.q rfl rfl rfl rfl (by decide) (Yd.geq rfl (.t rfl) (.t rfl)) ?_
    refine W.end ?_
    refine NX.sub (env' := [(0, _), (1, _), (5, _), (6, _), (24, _)]) ⟨rfl, rfl, rfl, rfl, rfl, trivial⟩ ?_
    refine NX.then ?_
    refine Tr.cond (.t rfl) (fun hb => ?_) (fun hb => ?_)
    · have hr := cond_t hb hr
      refine Tr.skip' ?_
      refine NX.then ?_
      refine Tr.seq ?_
      refine Tr.block ?_
      refine Tr.seq ?_
      obtain ⟨y61, hy62, hr⟩ := bind_some hr
      refine Tr.region_f (fun _ => false) ?_
      refine W.q rfl rfl rfl rfl (by decide) (Yd.mv rfl (.t rfl)) ?_
      refine W.q rfl rfl rfl rfl (by decide) (Yd.mv rfl (.t rfl)) ?_
      refine W.q rfl rfl rfl rfl (by decide) (Yd.idxT (pos := 0) rfl hy62 rfl Try.underlying23 SZ4 (.t rfl) (.t rfl)) ?_
      refine W.q rfl rfl rfl rfl (by decide) (Yd.ldT (enc := encB) (n := 1) (pos := 0) (fun _ => rfl) rfl hy62 rfl rfl ON4 (.t rfl)) ?_
      refine W.end ?_
      refine NX.sub (env' := [(0, _), (1, _), (5, _), (6, _), (30, _)]) ⟨rfl, rfl, rfl, rfl, rfl, trivial⟩ ?_
      refine NX.then ?_
      refine Tr.cond (.t rfl) (fun hb => ?_) (fun hb => ?_)
      · have hr := cond_t hb hr
        obtain ⟨y63, hy64, hr⟩ := bind_some hr
        obtain ⟨y65, hy66, hr⟩ := bind_some hr
        obtain ⟨y67, hy68, hr⟩ := bind_some hr
        refine Tr.region_x (fun i => Nat.beq i 13 || Nat.beq i 15) (fun i => Nat.beq i 6 || Nat.beq i 13 || Nat.beq i 15) (Ord.of [0, 1, 2, 3, 4, 5, 6, 7, 8, 9, 10, 11, 12, 13, 14, 15]) FM (by kernel_rfl) ?_
        refine W.q rfl rfl rfl rfl (by decide) (Yd.mv rfl (.t rfl)) ?_
        refine W.q rfl rfl rfl rfl (by decide) (Yd.mv rfl (.t rfl)) ?_
        refine W.q rfl rfl rfl rfl (by decide) (Yd.mv rfl (.t rfl)) ?_
        refine W.q rfl rfl rfl rfl (by decide) (Yd.idxR hby_1 hy64 rfl Try.underlying53 SZ86 (.t rfl) (.t rfl)) ?_
        refine W.q rfl rfl rfl rfl (by decide) (Yd.arrA rfl Try.underlying86 SZ3 (by decide) (by decide) (adr_head hby_1 hy64) (.t rfl) .c) ?_
        refine W.q rfl rfl rfl rfl (by decide) (Yd.ldFf hby_1 (.refl _) hy64 rfl rfl ON3 (.t rfl)) ?_
        refine W.p rfl rfl rfl rfl (by decide) (fun _ => Yd.mv rfl (.t rfl)) ?_
        refine W.q rfl rfl rfl rfl (by decide) (Yd.mv rfl (.t rfl)) ?_
        refine W.q rfl rfl rfl rfl (by decide) (Yd.mv rfl (.t rfl)) ?_
        refine W.q rfl rfl rfl rfl (by decide) (Yd.idxR hby_1 hy64 rfl Try.underlying53 SZ86 (.t rfl) (.t rfl)) ?_
        refine W.q rfl rfl rfl rfl (by decide) (Yd.arrA rfl Try.underlying86 SZ3 (by decide) (by decide) (adr_head hby_1 hy64) (.t rfl) .c) ?_
        refine W.q rfl rfl rfl rfl (by decide) (Yd.ldFf hby_1 (.refl _) hy64 rfl rfl ON3 (.t rfl)) ?_
        refine W.q rfl rfl rfl rfl (by decide) (Yd.idxT (pos := 0) rfl hy66 rfl Try.underlying23 SZ4 (.t rfl) (.t rfl)) ?_
        refine W.s rfl rfl rfl rfl (Ef.stT (enc := encB) (n := 1) (pos := 0) (y := true) (us := [_]) (fun _ => rfl) rfl hy66 rfl (.t rfl) .c SZ4 rfl rfl rfl (by decide)) ?_
        rintro _ _ ⟨rfl, rfl⟩
        refine ⟨.inl rfl, ?_⟩
        refine W.cast (m' := m) (l' := hownT 4 1 encB v11 _ :: l) rfl rfl ?_
        refine W.q rfl rfl rfl rfl (by decide) (Yd.idxT (pos := 0) rfl hy68 rfl Try.underlying23 SZ4 (.t rfl) (.t rfl)) ?_
        refine W.s rfl rfl rfl rfl (Ef.stT (enc := encB) (n := 1) (pos := 0) (y := true) (us := [_]) (fun _ => rfl) rfl hy68 rfl (.t rfl) .c SZ4 rfl rfl rfl (by decide)) ?_
        rintro _ _ ⟨rfl, rfl⟩
        refine ⟨.inl rfl, ?_⟩
        refine W.cast (m' := m) (l' := hownT 4 1 encB v11 _ :: l) rfl rfl ?_
        refine W.end ?_
        refine NX.sub (env' := [(0, _), (1, _), (5, _), (6, _)]) ⟨rfl, rfl, rfl, rfl, trivial⟩ ?_
        refine NX.block ?_
        refine NX.then ?_
        refine Tr.region_f (fun _ => false) ?_
        refine W.q rfl rfl rfl rfl (by decide) (Yd.mv rfl (.t rfl)) ?_
        refine W.q rfl rfl rfl rfl (by decide) (Yd.sub rfl (.t rfl) .c) ?_
        refine W.q rfl rfl rfl rfl (by decide) (Yd.as rfl (.t rfl)) ?_
        refine W.end ?_
        refine NX.sub (env' := [(0, _), (1, _), (5, _), (6, _)]) ⟨rfl, rfl, rfl, rfl, trivial⟩ ?_
        refine NX.sub (env' := [(0, _), (1, _), (5, _), (6, _)]) ⟨rfl, rfl, rfl, rfl, trivial⟩ ?_
        exact NX.again n60 ((w64 (i_9 - (1 : Int))), (((l10.set y63.1.toNat true)).set y63.2.toNat true)) (Nat.lt_succ_self _) ⟨_, rfl, rfl, ((hnx59 _).symm.trans hr)⟩
      · have hr := cond_f hb hr
        refine Tr.skip' ?_
        refine NX.block ?_
        refine NX.then ?_
        refine Tr.region_f (fun _ => false) ?_
        refine W.q rfl rfl rfl rfl (by decide) (Yd.mv rfl (.t rfl)) ?_
        refine W.q rfl rfl rfl rfl (by decide) (Yd.sub rfl (.t rfl) .c) ?_
        refine W.q rfl rfl rfl rfl (by decide) (Yd.as rfl (.t rfl)) ?_
        refine W.end ?_
        refine NX.sub (env' := [(0, _), (1, _), (5, _), (6, _)]) ⟨rfl, rfl, rfl, rfl, trivial⟩ ?_
        refine NX.sub (env' := [(0, _), (1, _), (5, _), (6, _)]) ⟨rfl, rfl, rfl, rfl, trivial⟩ ?_
        exact NX.again n60 ((w64 (i_9 - (1 : Int))), l10) (Nat.lt_succ_self _) ⟨_, rfl, rfl, ((hnx59 _).symm.trans hr)⟩
    · have hr := cond_f hb hr
      refine Tr.exit' (EX.then (EX.then (EX.block ?_)))
      refine NX.sub (env' := [(0, _), (1, _), (5, _)]) ⟨rfl, rfl, rfl, trivial⟩ ?_
      exact hk15 _ _ ⟨_, _, rfl, rfl, hr⟩

def clause_Refute_k38 : Option ((List (Int × Int)) × Int) :=
  some (([], (5 : Int)))

def clause_Refute_k60 (i_27 : Int) (nx41 : ((Int × (List (Clause × Bool)) × (List (Int × Int)) × (List Clause)) → Option ((List (Int × Int)) × Int))) (l55 : List (Clause × Bool)) (l56 : List (Int × Int)) (l58 : List Clause) : Option ((List (Int × Int)) × Int) :=
  nx41 ((w64 (i_27 + (1 : Int))), l55, l56, l58)

def clause_Refute_k86 (nx65 : (((List (Clause × Bool)) × (List (Int × Int)) × (List Clause)) → Option ((List (Int × Int)) × Int))) (l81 : List (Clause × Bool)) (l82 : List (Int × Int)) (l84 : List Clause) : Option ((List (Int × Int)) × Int) :=
  nx65 (l81, l82, l84)

def clause_Refute_b90 (l_1 : List Clause) (fuel : Nat) (i_27 : Int) (t_63 : Int) (t_89 : Int) (l76 : List (Clause × Bool)) (l77 : List (Int × Int)) (l79 : List Clause) (nx91 : ((List (Clause × Bool)) × (List (Int × Int)) × (List Clause)) → Option ((List (Int × Int)) × Int)) : Option ((List (Int × Int)) × Int) :=
  (geti (([(i_27, t_63), (t_63, i_27)] : List (Int × Int))) t_89).bind fun y93 =>
  (geti l79 y93.1).bind fun y97 =>
  (geti l79 y93.2).bind fun y99 =>
  (clause_Resolve y97 y99).bind fun r101 =>
  (bif (((!r101.2) || ((mget l76 (({ yes := r101.1.yes, no := r101.1.no } : Clause))).getD false)) || ((r101.1.yes &&& r101.1.no) != 0#32)) then
  nx91 (l76, l77, l79)
  else
  bif decide (l79.length + (([({ yes := r101.1.yes, no := r101.1.no } : Clause)] : List Clause)).length ≤ 17592186044416) then
  bif decide (l77.length + (([(y93.1, y93.2)] : List (Int × Int))).length ≤ 8796093022208) then
  (bif ((r101.1.yes == (0#32)) && ((r101.1.no == (0#32)) && true)) then
  (clause_needed fuel ((l_1.length : Int)) ((l77 ++ ([(y93.1, y93.2)] : List (Int × Int))))).bind fun r577 =>
  some ((r577, (0 : Int)))
  else
  nx91 ((mput l76 (({ yes := r101.1.yes, no := r101.1.no } : Clause)) true), (l77 ++ ([(y93.1, y93.2)] : List (Int × Int))), (l79 ++ ([({ yes := r101.1.yes, no := r101.1.no } : Clause)] : List Clause)))) else none else none)

def clause_Refute_b64 (l_1 : List Clause) (fuel : Nat) (i_27 : Int) (t_63 : Int) (l50 : List (Clause × Bool)) (l51 : List (Int × Int)) (l53 : List Clause) (nx65 : ((List (Clause × Bool)) × (List (Int × Int)) × (List Clause)) → Option ((List (Int × Int)) × Int)) : Option ((List (Int × Int)) × Int) :=
  forK (σ := (List (Clause × Bool)) × (List (Int × Int)) × (List Clause)) (fun i s nx_ => clause_Refute_b90 l_1 fuel i_27 t_63 i s.1 s.2.1 s.2.2 nx_) (fun s => clause_Refute_k86 nx65 s.1 s.2.1 s.2.2) (((([(i_27, t_63), (t_63, i_27)] : List (Int × Int))).length : Int) - (0 : Int)).toNat (0 : Int) (l50, l51, l53)

def clause_Refute_b40 (l_1 : List Clause) (fuel : Nat) (i_27 : Int) (l28 : List (Clause × Bool)) (l29 : List (Int × Int)) (l31 : List Clause) (nx41 : (Int × (List (Clause × Bool)) × (List (Int × Int)) × (List Clause)) → Option ((List (Int × Int)) × Int)) : Option ((List (Int × Int)) × Int) :=
  (bif (decide (i_27 < (l31.length : Int))) then
  bif decide ((w64 (i_27 + (1 : Int))) ≤ 9223372036854775807) then
  forK (σ := (List (Clause × Bool)) × (List (Int × Int)) × (List Clause)) (fun i s nx_ => clause_Refute_b64 l_1 fuel i_27 i s.1 s.2.1 s.2.2 nx_) (fun s => clause_Refute_k60 i_27 nx41 s.1 s.2.1 s.2.2) ((w64 (i_27 + (1 : Int))) - (0 : Int)).toNat (0 : Int) (l28, l29, l31) else none
  else
  clause_Refute_k38)

def clause_Refute_k19 (l_1 : List Clause) (fuel : Nat) (r5 : (List Clause)) (l18 : List (Clause × Bool)) : Option ((List (Int × Int)) × Int) :=
  whileK (σ := Int × (List (Clause × Bool)) × (List (Int × Int)) × (List Clause)) (fun s nx_ => clause_Refute_b40 l_1 fuel s.1 s.2.1 s.2.2.1 s.2.2.2 nx_) fuel (((0 : Int)), l18, ((List.replicate ((l_1.length : Int)).toNat ((0 : Int), (0 : Int)))), r5)

def clause_Refute_b579 (l_1 : List Clause) (t_578 : Int) (l17 : List (Clause × Bool)) (nx580 : ((List (Clause × Bool))) → Option ((List (Int × Int)) × Int)) : Option ((List (Int × Int)) × Int) :=
  (geti l_1 t_578).bind fun y582 =>
  nx580 (mput l17 (({ yes := y582.yes, no := y582.no } : Clause)) true)

def clause_Refute (fuel : Nat) (n_0 : Int) (l_1 : List Clause) : Option ((List (Int × Int)) × Int) :=
  (clause_wrong n_0 l_1).bind fun r1 =>
  (bif (r1 != (0 : Int)) then
  some (([], r1))
  else
  (slices_Contains_SapiClauseapiClause l_1 (({ yes := (0#32), no := (0#32) } : Clause))).bind fun r3 =>
  (bif r3 then
  some (([], (0 : Int)))
  else
  (slices_Clone_SapiClauseapiClause l_1).bind fun r5 =>
  bif decide (0 ≤ (l_1.length : Int) ∧ (l_1.length : Int) ≤ 1048576) then
  forK (σ := (List (Clause × Bool))) (fun i s nx_ => clause_Refute_b579 l_1 i s nx_) (fun s => clause_Refute_k19 l_1 fuel r5 s) ((l_1.length : Int) - (0 : Int)).toNat (0 : Int) (([] : List (Clause × Bool))) else none))

set_option maxRecDepth 100000 in
set_option maxHeartbeats 4000000 in
theorem clause_Refute_ok (w0 : World) (m : Snap) (l : List HI) (fuel : Nat) (n_0 : Int) (ul_1 : Value) (l_1 : List Clause) (hl_1 : RS rClause m ul_1 l_1) (r : (List (Int × Int)) × Int) (hr : clause_Refute fuel n_0 l_1 = some r) (w : World) (hc : cX w0 ⟨m, l⟩ w) :
    Calls Try.prog 27 [.int .i64 n_0, ul_1].toArray w fun e w' => ∃ z0 : Value, e = .returned (.tuple #[z0, .int .i64 r.2]) ∧ cX w0 ⟨m, hownT 86 2 encP z0 r.1 :: l⟩ w' := by
  unfold clause_Refute at hr
  refine calls_of_Tr (N := 113) Try.func27 rfl hc rfl (Nat.le_of_ble_eq_true rfl) ?_
  refine Tr.seq ?_
  refine Tr.region_f (fun _ => false) ?_
  refine W.q rfl rfl rfl rfl (by decide) (Yd.as rfl .c) ?_
  refine W.q rfl rfl rfl rfl (by decide) (Yd.as rfl .c) ?_
  refine W.end ?_
  refine NX.sub (env' := [(0, _), (1, _)]) ⟨rfl, rfl, trivial⟩ ?_
  refine NX.then ?_
  refine Tr.seq ?_
  refine Tr.seq ?_
  obtain ⟨r1, hr2, hr⟩ := bind_some hr
  refine Tr.region_f (fun _ => false) ?_
  refine W.q rfl rfl rfl rfl (by decide) (Yd.mv rfl (.t rfl)) ?_
  refine W.q rfl rfl rfl rfl (by decide) (Yd.mv rfl (.t rfl)) ?_
  refine W.q rfl rfl rfl rfl (by decide) (Yd.call (v := .int .i64 r1) rfl Try.func44 rfl rfl (.cons (.t rfl) (.cons (.t rfl) .nil)) (fun x' hx w hw => clause_wrong_ok w0 x'.m x'.l n_0 _ _ (hl_1.mono hx.1) _ hr2 w hw)) ?_
  refine W.q rfl rfl rfl rfl (by decide) (Yd.as rfl (.t rfl)) ?_
  refine W.end ?_
  refine NX.sub (env' := [(1, _), (6, _)]) ⟨rfl, rfl, trivial⟩ ?_
  refine NX.then ?_
  refine Tr.seq ?_
  refine Tr.region_f (fun _ => false) ?_
  refine W.q rfl rfl rfl rfl (by decide) (Yd.mv rfl (.t rfl)) ?_
  refine W.q rfl rfl rfl rfl (by decide) (Yd.neq rfl (.t rfl) .c) ?_
  refine W.end ?_
  refine NX.sub (env' := [(1, _), (6, _), (22, _)]) ⟨rfl, rfl, rfl, trivial⟩ ?_
  refine NX.then ?_
  refine Tr.cond (.t rfl) (fun hb => ?_) (fun hb => ?_)
  · have hr := cond_t hb hr
    refine Tr.seq ?_
    refine Tr.region_f (fun _ => false) ?_
    refine W.q rfl rfl rfl rfl (by decide) (Yd.mv rfl (.t rfl)) ?_
    refine W.q rfl rfl rfl rfl (by decide) (Yd.as rfl .c) ?_
    refine W.q rfl rfl rfl rfl (by decide) (Yd.as rfl (.t rfl)) ?_
    refine W.end ?_
    refine NX.sub (env' := [(4, _), (5, _)]) ⟨rfl, rfl, trivial⟩ ?_
    refine NX.then ?_
    refine Tr.ret' (RT.then ?_)
    refine res2 rfl rfl rfl ?_
    intro w hc
    cases hr
    exact ⟨_, rfl, (cX_nil hc)⟩
  · have hr := cond_f hb hr
    refine Tr.skip' ?_
    refine NX.then ?_
    refine Tr.seq ?_
    refine Tr.seq ?_
    obtain ⟨r3, hr4, hr⟩ := bind_some hr
    refine Tr.region_f (fun _ => false) ?_
    refine W.q rfl rfl rfl rfl (by decide) (Yd.mv rfl (.t rfl)) ?_
    refine W.q rfl rfl rfl rfl (by decide) (Yd.bld (cells := [.int .u32 (((0#32)).toNat : Int), .int .u32 (((0#32)).toNat : Int)]) rfl ZI46 PL46 .nil rfl) ?_
    refine W.q rfl rfl rfl rfl (by decide) (Yd.call (v := .bool r3) rfl Try.func50 rfl rfl (.cons (.t rfl) (.cons (.t rfl) .nil)) (fun x' hx w hw => slices_Contains_SapiClauseapiClause_ok w0 x'.m x'.l _ _ (hl_1.mono hx.1) (({ yes := (0#32), no := (0#32) } : Clause)) _ hr4 w hw)) ?_
    refine W.end ?_
    refine NX.sub (env' := [(1, _), (26, _)]) ⟨rfl, rfl, trivial⟩ ?_
    refine NX.then ?_
    refine Tr.cond (.t rfl) (fun hb => ?_) (fun hb => ?_)
    · have hr := cond_t hb hr
      refine Tr.seq ?_
      refine Tr.region_f (fun _ => false) ?_
      refine W.q rfl rfl rfl rfl (by decide) (Yd.as rfl .c) ?_
      refine W.q rfl rfl rfl rfl (by decide) (Yd.as rfl .c) ?_
      refine W.end ?_
      refine NX.sub (env' := [(4, _), (5, _)]) ⟨rfl, rfl, trivial⟩ ?_
      refine NX.then ?_
      refine Tr.ret' (RT.then ?_)
      refine res2 rfl rfl rfl ?_
      intro w hc
      cases hr
      exact ⟨_, rfl, (cX_nil hc)⟩
    · have hr := cond_f hb hr
      refine Tr.skip' ?_
      refine NX.then ?_
      refine Tr.seq ?_
      obtain ⟨r5, hr6, hr⟩ := bind_some hr
      refine Tr.region_f (fun i => Nat.beq i 1) ?_
      refine W.q rfl rfl rfl rfl (by decide) (Yd.mv rfl (.t rfl)) ?_
      refine W.e rfl rfl rfl rfl (by decide) (Ef.call (R := fun z x' => ∃ v7 : Value, z = v7 ∧ x' = ⟨m, hownT 46 2 Clause.enc v7 r5 :: l⟩) rfl Try.func51 rfl rfl (.cons (.t rfl) .nil) (fun w hw => (slices_Clone_SapiClauseapiClause_ok w0 _ _ _ _ hl_1 _ hr6 w hw).mono fun e w' ⟨v7, he, hc'⟩ => ⟨_, _, he, ⟨v7, rfl, rfl⟩, hc'⟩)) ?_
      rintro v7 _ ⟨_, rfl, rfl⟩
      refine ⟨.inl rfl, ?_⟩
      refine W.cast (m' := m) (l' := hownT 46 2 Clause.enc v7 _ :: l) rfl rfl ?_
      refine W.q rfl rfl rfl rfl (by decide) (Yd.as rfl (.t rfl)) ?_
      refine W.end ?_
      refine NX.sub (env' := [(1, _), (7, _)]) ⟨rfl, rfl, trivial⟩ ?_
      refine NX.then ?_
      refine Tr.seq ?_
      obtain ⟨hq9, hr⟩ := guard_some hr; replace hq9 := of_decide_eq_true hq9
      refine Tr.region_f (fun i => Nat.beq i 2) ?_
      refine W.q rfl rfl rfl rfl (by decide) (Yd.mv rfl (.t rfl)) ?_
      refine W.q rfl rfl rfl rfl (by decide) (Yd.lenR hl_1 rfl Try.underlying40 (.t rfl)) ?_
      refine W.e rfl rfl rfl rfl (by decide) (Ef.mkT (enc := encP) ((0 : Int), (0 : Int)) IF86 rfl Try.underlying53 rfl rfl (by decide) (.t rfl) (.t rfl) (by omega) (by omega) (by omega)) ?_
      rintro v10 _ rfl
      refine ⟨.inl rfl, ?_⟩
      refine W.cast (m' := m) (l' := hownT 86 2 encP v10 _ :: hownT 46 2 Clause.enc v7 _ :: l) rfl rfl ?_
      refine W.q rfl rfl rfl rfl (by decide) (Yd.as rfl (.t rfl)) ?_
      refine W.end ?_
      refine NX.sub (env' := [(1, _), (7, _), (8, _)]) ⟨rfl, rfl, rfl, trivial⟩ ?_
      refine NX.then ?_
      refine Tr.seq ?_
      refine Tr.region_f (fun i => Nat.beq i 0) ?_
      refine W.e rfl rfl rfl rfl (by decide) (Ef.mkMap (ν := Bool) ek46 ev4 rfl) ?_
      rintro _ _ ⟨b12, rfl, rfl⟩
      refine ⟨.inl rfl, ?_⟩
      refine W.cast (m' := m) (l' := hmap b12 ek46 ev4 _ :: hownT 86 2 encP v10 _ :: hownT 46 2 Clause.enc v7 _ :: l) rfl rfl ?_
      refine W.q rfl rfl rfl rfl (by decide) (Yd.as rfl (.t rfl)) ?_
      refine W.end ?_
      refine NX.sub (env' := [(1, _), (7, _), (8, _), (9, _)]) ⟨rfl, rfl, rfl, rfl, trivial⟩ ?_
      refine NX.then ?_
      refine Tr.seq ?_
      refine Tr.seq ?_
      refine Tr.region_f (fun _ => false) ?_
      refine W.q rfl rfl rfl rfl (by decide) (Yd.mv rfl (.t rfl)) ?_
      refine W.q rfl rfl rfl rfl (by decide) (Yd.lenR hl_1 rfl Try.underlying40 (.t rfl)) ?_
      refine W.q rfl rfl rfl rfl (by decide) (Yd.mv rfl .c) ?_
      refine W.end ?_
      refine NX.sub (env' := [(1, _), (7, _), (8, _), (9, _), (33, _), (34, _), (35, _)]) ⟨rfl, rfl, rfl, rfl, rfl, rfl, rfl, trivial⟩ ?_
      refine NX.then ?_
      refine Tr.join (S := fun env x => ∃ l18 : List (Clause × Bool), env = [(1, ul_1), (7, v7), (8, v10), (9, (.map (some b12)))] ∧ x = ⟨m, hmap b12 ek46 ev4 l18 :: hownT 86 2 encP v10 ((List.replicate ((l_1.length : Int)).toNat ((0 : Int), (0 : Int)))) :: hownT 46 2 Clause.enc v7 r5 :: l⟩ ∧ clause_Refute_k19 l_1 fuel r5 l18 = some r) ?_ (fun hk20 => ?_)
      · rintro _ _ ⟨l18, rfl, rfl, hr⟩
        unfold clause_Refute_k19 at hr
        try dsimp only at hr
        refine NX.then ?_
        refine Tr.seq ?_
        refine Tr.seq ?_
        refine Tr.region_f (fun _ => false) ?_
        refine W.q rfl rfl rfl rfl (by decide) (Yd.as rfl .c) ?_
        refine W.end ?_
        refine NX.sub (env' := [(1, _), (7, _), (8, _), (9, _), (12, _)]) ⟨rfl, rfl, rfl, rfl, rfl, trivial⟩ ?_
        refine NX.then ?_
        refine Tr.join (S := fun env x => env = [] ∧ x = ⟨m, l⟩ ∧ clause_Refute_k38 = some r) ?_ (fun hk39 => ?_)
        · rintro _ _ ⟨rfl, rfl, hr⟩
          unfold clause_Refute_k38 at hr
          try dsimp only at hr
          refine NX.then ?_
          refine Tr.seq ?_
          refine Tr.region_f (fun _ => false) ?_
          refine W.q rfl rfl rfl rfl (by decide) (Yd.as rfl .c) ?_
          refine W.q rfl rfl rfl rfl (by decide) (Yd.as rfl .c) ?_
          refine W.end ?_
          refine NX.sub (env' := [(4, _), (5, _)]) ⟨rfl, rfl, trivial⟩ ?_
          refine NX.then ?_
          refine Tr.ret' ?_
          refine res2 rfl rfl rfl ?_
          intro w hc
          cases hr
          exact ⟨_, rfl, (cX_nil hc)⟩
        refine Tr.block ?_
        refine Tr.sub (env' := [(1, _), (7, _), (8, _), (9, _), (12, _)]) ⟨rfl, rfl, rfl, rfl, rfl, trivial⟩ ?_
        refine Tr.loop (S := fun n (z : Int × (List (Clause × Bool)) × (List (Int × Int)) × (List Clause)) env x => match z with | (i_27, l28, l29, l31) => ∃ v30 : Value, ∃ v32 : Value, env = [(1, ul_1), (7, v32), (8, v30), (9, (.map (some b12))), (12, .int .i64 i_27)] ∧ x = ⟨m, hmap b12 ek46 ev4 l28 :: hownT 86 2 encP v30 l29 :: hownT 46 2 Clause.enc v32 l31 :: l⟩ ∧ whileK (σ := Int × (List (Clause × Bool)) × (List (Int × Int)) × (List Clause)) (fun s nx_ => clause_Refute_b40 l_1 fuel s.1 s.2.1 s.2.2.1 s.2.2.2 nx_) n (i_27, l28, l29, l31) = some r) _ ((0 : Int), l18, (List.replicate ((l_1.length : Int)).toNat ((0 : Int), (0 : Int))), r5) ⟨_, _, rfl, rfl, hr⟩ ?_
        rintro n42 ⟨i_27, l28, l29, l31⟩ env x ⟨v30, v32, rfl, rfl, hr⟩
        cases n42 with
        | zero => simp [whileK] at hr
        | succ n42 =>
          obtain ⟨nx41, hnx41, hr⟩ := whileK_succ hr
          try dsimp only at hr
          unfold clause_Refute_b40 at hr
          try dsimp only at hr
          refine Tr.seq ?_
          refine Tr.seq ?_
          refine Tr.region_f (fun _ => false) ?_
          refine W.q rfl rfl rfl rfl (by decide) (Yd.mv rfl (.t rfl)) ?_
          refine W.q rfl rfl rfl rfl (by decide) (Yd.mv rfl (.t rfl)) ?_
          refine W.q rfl rfl rfl rfl (by decide) (Yd.lenO (p := 2) rfl rfl Try.underlying40 (.t rfl)) ?_
          refine W.q rfl rfl rfl rfl (by decide) (Yd.lss rfl (.t rfl) (.t rfl)) ?_
          refine W.end ?_
          refine NX.sub (env' := [(1, _), (7, _), (8, _), (9, _), (12, _), (45, _)]) ⟨rfl, rfl, rfl, rfl, rfl, rfl, trivial⟩ ?_
          refine NX.then ?_
          refine Tr.cond (.t rfl) (fun hb => ?_) (fun hb => ?_)
          · have hr := cond_t hb hr
            refine Tr.skip' ?_
            refine NX.then ?_
            refine Tr.seq ?_
            refine Tr.block ?_
            refine Tr.seq ?_
            refine Tr.region_f (fun _ => false) ?_
            refine W.q rfl rfl rfl rfl (by decide) (Yd.mv rfl (.t rfl)) ?_
            refine W.q rfl rfl rfl rfl (by decide) (Yd.add rfl (.t rfl) .c) ?_
            refine W.q rfl rfl rfl rfl (by decide) (Yd.mv rfl .c) ?_
            refine W.end ?_
            refine NX.sub (env' := [(1, _), (7, _), (8, _), (9, _), (12, _), (49, _), (50, _)]) ⟨rfl, rfl, rfl, rfl, rfl, rfl, rfl, trivial⟩ ?_
            refine NX.then ?_
            refine Tr.join (S := fun env x => ∃ l55 : List (Clause × Bool), ∃ l56 : List (Int × Int), ∃ l58 : List Clause, ∃ v57 : Value, ∃ v59 : Value, env = [(1, ul_1), (7, v59), (8, v57), (9, (.map (some b12))), (12, .int .i64 i_27)] ∧ x = ⟨m, hmap b12 ek46 ev4 l55 :: hownT 86 2 encP v57 l56 :: hownT 46 2 Clause.enc v59 l58 :: l⟩ ∧ clause_Refute_k60 i_27 nx41 l55 l56 l58 = some r) ?_ (fun hk61 => ?_)
            · rintro _ _ ⟨l55, l56, l58, v57, v59, rfl, rfl, hr⟩
              unfold clause_Refute_k60 at hr
              try dsimp only at hr
              refine NX.block ?_
              refine NX.then ?_
              refine Tr.region_f (fun _ => false) ?_
              refine W.q rfl rfl rfl rfl (by decide) (Yd.mv rfl (.t rfl)) ?_
              refine W.q rfl rfl rfl rfl (by decide) (Yd.add rfl (.t rfl) .c) ?_
              refine W.q rfl rfl rfl rfl (by decide) (Yd.as rfl (.t rfl)) ?_
              refine W.end ?_
              refine NX.sub (env' := [(1, _), (7, _), (8, _), (9, _), (12, _)]) ⟨rfl, rfl, rfl, rfl, rfl, trivial⟩ ?_
              refine NX.sub (env' := [(1, _), (7, _), (8, _), (9, _), (12, _)]) ⟨rfl, rfl, rfl, rfl, rfl, trivial⟩ ?_
              exact NX.again n42 ((w64 (i_27 + (1 : Int))), l55, l56, l58) (Nat.lt_succ_self _) ⟨_, _, rfl, rfl, ((hnx41 _).symm.trans hr)⟩
            obtain ⟨hle62, hr⟩ := guard_some hr; replace hle62 := of_decide_eq_true hle62
            refine Tr.block ?_
            refine Tr.sub (env' := [(1, _), (7, _), (8, _), (9, _), (12, _), (49, _), (50, _)]) ⟨rfl, rfl, rfl, rfl, rfl, rfl, rfl, trivial⟩ ?_
            refine Tr.loop (S := fun n (z : Int × (List (Clause × Bool)) × (List (Int × Int)) × (List Clause)) env x => match z with | (t_63, l50, l51, l53) => ∃ v52 : Value, ∃ v54 : Value, env = [(1, ul_1), (7, v54), (8, v52), (9, (.map (some b12))), (12, .int .i64 i_27), (49, .int .i64 ((w64 (i_27 + (1 : Int))))), (50, .int .i64 t_63)] ∧ x = ⟨m, hmap b12 ek46 ev4 l50 :: hownT 86 2 encP v52 l51 :: hownT 46 2 Clause.enc v54 l53 :: l⟩ ∧ n = ((w64 (i_27 + (1 : Int))) - t_63).toNat ∧ 0 ≤ t_63 ∧ forK (σ := (List (Clause × Bool)) × (List (Int × Int)) × (List Clause)) (fun i s nx_ => clause_Refute_b64 l_1 fuel i_27 i s.1 s.2.1 s.2.2 nx_) (fun s => clause_Refute_k60 i_27 nx41 s.1 s.2.1 s.2.2) n t_63 (l50, l51, l53) = some r) _ ((0 : Int), l28, l29, l31) ⟨_, _, rfl, rfl, rfl, (by omega), hr⟩ ?_
            rintro n66 ⟨t_63, l50, l51, l53⟩ env x ⟨v52, v54, rfl, rfl, hnt_63, h0t_63, hr⟩
            cases n66 with
            | zero =>
              simp only [forK] at hr
              refine Tr.seq ?_
              refine Tr.region_f (fun _ => false) ?_
              refine W.q rfl rfl rfl rfl (by decide) (Yd.lss rfl (.t rfl) (.t rfl)) ?_
              refine W.end ?_
              refine NX.sub (env' := [(1, _), (7, _), (8, _), (9, _), (12, _), (49, _), (50, _), (51, _)]) ⟨rfl, rfl, rfl, rfl, rfl, rfl, rfl, rfl, trivial⟩ ?_
              refine NX.then ?_
              refine Tr.seq ?_
              refine Tr.cond (.t rfl) (fun hb => ?_) (fun hb => ?_)
              · exact absurd (hb.symm.trans (fr_end hnt_63)) (by decide)
              ·
                refine Tr.exit' (EX.then (EX.then (EX.block ?_)))
                refine NX.sub (env' := [(1, _), (7, _), (8, _), (9, _), (12, _)]) ⟨rfl, rfl, rfl, rfl, rfl, trivial⟩ ?_
                exact hk61 _ _ ⟨_, _, _, _, _, rfl, rfl, hr⟩
            | succ n66 =>
              obtain ⟨nx65, hnx65, hr⟩ := forK_succ hr
              try dsimp only at hr
              unfold clause_Refute_b64 at hr
              try dsimp only at hr
              have hltt_63 := fr_bnd hnt_63
              refine Tr.seq ?_
              refine Tr.region_f (fun _ => false) ?_
              refine W.q rfl rfl rfl rfl (by decide) (Yd.lss rfl (.t rfl) (.t rfl)) ?_
              refine W.end ?_
              refine NX.sub (env' := [(1, _), (7, _), (8, _), (9, _), (12, _), (49, _), (50, _), (51, _)]) ⟨rfl, rfl, rfl, rfl, rfl, rfl, rfl, rfl, trivial⟩ ?_
              refine NX.then ?_
              refine Tr.seq ?_
              refine Tr.cond (.t rfl) (fun hb => ?_) (fun hb => ?_)
              rotate_left
              · exact absurd (hb.symm.trans (fr_go hnt_63)) (by decide)
              ·
                refine Tr.skip' ?_
                refine NX.then ?_
                refine Tr.seq ?_
                refine Tr.block ?_
                refine Tr.seq ?_
                refine Tr.region_f (fun _ => false) ?_
                refine W.q rfl rfl rfl rfl (by decide) (Yd.mv rfl (.t rfl)) ?_
                refine W.q rfl rfl rfl rfl (by decide) (Yd.as rfl (.t rfl)) ?_
                refine W.end ?_
                refine NX.sub (env' := [(1, _), (7, _), (8, _), (9, _), (12, _), (49, _), (50, _), (13, _)]) ⟨rfl, rfl, rfl, rfl, rfl, rfl, rfl, rfl, trivial⟩ ?_
                refine NX.then ?_
                refine Tr.seq ?_
                refine Tr.region_f (fun i => Nat.beq i 6) ?_
                refine W.q rfl rfl rfl rfl (by decide) (Yd.mv rfl (.t rfl)) ?_
                refine W.q rfl rfl rfl rfl (by decide) (Yd.mv rfl (.t rfl)) ?_
                refine W.q rfl rfl rfl rfl (by decide) (Yd.bldA (cells := [.int .i64 i_27, .int .i64 t_63]) rfl ZI86 PA86 (.cons (.t rfl) (.cons (.t rfl) .nil)) rfl) ?_
                refine W.q rfl rfl rfl rfl (by decide) (Yd.mv rfl (.t rfl)) ?_
                refine W.q rfl rfl rfl rfl (by decide) (Yd.mv rfl (.t rfl)) ?_
                refine W.q rfl rfl rfl rfl (by decide) (Yd.bldA (cells := [.int .i64 t_63, .int .i64 i_27]) rfl ZI86 PA86 (.cons (.t rfl) (.cons (.t rfl) .nil)) rfl) ?_
                refine W.e rfl rfl rfl rfl (by decide) (Ef.bsT (enc := encP) (vs := [_, _]) (ys := [(i_27, t_63), (t_63, i_27)]) (fun _ => rfl) IF86 rfl Try.underlying53 (by decide) rfl (.cons (.t rfl) (.cons (.t rfl) .nil)) rfl rfl (by decide)) ?_
                rintro v67 _ rfl
                refine ⟨.inl rfl, ?_⟩
                refine W.cast (m' := m) (l' := hownT 86 2 encP v67 _ :: hmap b12 ek46 ev4 _ :: hownT 86 2 encP v52 _ :: hownT 46 2 Clause.enc v54 _ :: l) rfl rfl ?_
                refine W.q rfl rfl rfl rfl (by decide) (Yd.lenO (p := 0) rfl rfl Try.underlying53 (.t rfl)) ?_
                refine W.q rfl rfl rfl rfl (by decide) (Yd.mv rfl .c) ?_
                refine W.end ?_
                refine NX.sub (env' := [(1, _), (7, _), (8, _), (9, _), (12, _), (49, _), (50, _), (59, _), (60, _), (61, _)]) ⟨rfl, rfl, rfl, rfl, rfl, rfl, rfl, rfl, rfl, rfl, trivial⟩ ?_
                refine NX.then ?_
                refine Tr.join (S := fun env x => ∃ l81 : List (Clause × Bool), ∃ l82 : List (Int × Int), ∃ l84 : List Clause, ∃ v83 : Value, ∃ v85 : Value, env = [(1, ul_1), (7, v85), (8, v83), (9, (.map (some b12))), (12, .int .i64 i_27), (49, .int .i64 ((w64 (i_27 + (1 : Int))))), (50, .int .i64 t_63)] ∧ x = ⟨m, hmap b12 ek46 ev4 l81 :: hownT 86 2 encP v83 l82 :: hownT 46 2 Clause.enc v85 l84 :: l⟩ ∧ clause_Refute_k86 nx65 l81 l82 l84 = some r) ?_ (fun hk87 => ?_)
                · rintro _ _ ⟨l81, l82, l84, v83, v85, rfl, rfl, hr⟩
                  unfold clause_Refute_k86 at hr
                  try dsimp only at hr
                  refine NX.block ?_
                  refine NX.then ?_
                  refine Tr.region_f (fun _ => false) ?_
                  refine W.q rfl rfl rfl rfl (by decide) (Yd.add rfl (.t rfl) .c) ?_
                  refine W.q rfl rfl rfl rfl (by decide) (Yd.mv rfl (.t rfl)) ?_
                  refine W.end ?_
                  refine NX.sub (env' := [(1, _), (7, _), (8, _), (9, _), (12, _), (49, _), (50, _)]) ⟨rfl, rfl, rfl, rfl, rfl, rfl, rfl, trivial⟩ ?_
                  refine NX.sub (env' := [(1, _), (7, _), (8, _), (9, _), (12, _), (49, _), (50, _)]) ⟨rfl, rfl, rfl, rfl, rfl, rfl, rfl, trivial⟩ ?_
                  have hw := w64_id (n := t_63 + 1) (by omega) (by omega)
                  exact NX.again n66 (t_63 + 1, l81, l82, l84) (Nat.lt_succ_self _) ⟨_, _, (by rw [hw] <;> rfl), rfl, (fr_dec hnt_63), (by omega), ((hnx65 _).symm.trans hr)⟩
                refine Tr.lenO (pos := 0) rfl (fun hlen88 => ?_)
                refine Tr.block ?_
                refine Tr.sub (env' := [(1, _), (7, _), (8, _), (9, _), (12, _), (49, _), (50, _), (59, _), (60, _), (61, _)]) ⟨rfl, rfl, rfl, rfl, rfl, rfl, rfl, rfl, rfl, rfl, trivial⟩ ?_
                refine Tr.loop (S := fun n (z : Int × (List (Clause × Bool)) × (List (Int × Int)) × (List Clause)) env x => match z with | (t_89, l76, l77, l79) => ∃ v78 : Value, ∃ v80 : Value, env = [(1, ul_1), (7, v80), (8, v78), (9, (.map (some b12))), (12, .int .i64 i_27), (49, .int .i64 ((w64 (i_27 + (1 : Int))))), (50, .int .i64 t_63), (59, v67), (60, .int .i64 (((([(i_27, t_63), (t_63, i_27)] : List (Int × Int))).length : Int))), (61, .int .i64 t_89)] ∧ x = ⟨m, hownT 86 2 encP v67 (([(i_27, t_63), (t_63, i_27)] : List (Int × Int))) :: hmap b12 ek46 ev4 l76 :: hownT 86 2 encP v78 l77 :: hownT 46 2 Clause.enc v80 l79 :: l⟩ ∧ n = (((([(i_27, t_63), (t_63, i_27)] : List (Int × Int))).length : Int) - t_89).toNat ∧ 0 ≤ t_89 ∧ forK (σ := (List (Clause × Bool)) × (List (Int × Int)) × (List Clause)) (fun i s nx_ => clause_Refute_b90 l_1 fuel i_27 t_63 i s.1 s.2.1 s.2.2 nx_) (fun s => clause_Refute_k86 nx65 s.1 s.2.1 s.2.2) n t_89 (l76, l77, l79) = some r) _ ((0 : Int), l50, l51, l53) ⟨_, _, rfl, rfl, rfl, (by omega), hr⟩ ?_
                rintro n92 ⟨t_89, l76, l77, l79⟩ env x ⟨v78, v80, rfl, rfl, hnt_89, h0t_89, hr⟩
                cases n92 with
                | zero =>
                  simp only [forK] at hr
                  refine Tr.seq ?_
                  refine Tr.region_f (fun _ => false) ?_
                  refine W.q rfl rfl rfl rfl (by decide) (Yd.lss rfl (.t rfl) (.t rfl)) ?_
                  refine W.end ?_
                  refine NX.sub (env' := [(1, _), (7, _), (8, _), (9, _), (12, _), (49, _), (50, _), (59, _), (60, _), (61, _), (62, _)]) ⟨rfl, rfl, rfl, rfl, rfl, rfl, rfl, rfl, rfl, rfl, rfl, trivial⟩ ?_
                  refine NX.then ?_
                  refine Tr.seq ?_
                  refine Tr.cond (.t rfl) (fun hb => ?_) (fun hb => ?_)
                  · exact absurd (hb.symm.trans (fr_end hnt_89)) (by decide)
                  ·
                    refine Tr.exit' (EX.then (EX.then (EX.block ?_)))
                    refine NX.sub (env' := [(1, _), (7, _), (8, _), (9, _), (12, _), (49, _), (50, _)]) ⟨rfl, rfl, rfl, rfl, rfl, rfl, rfl, trivial⟩ ?_
                    refine NX.drop (l' := hmap b12 ek46 ev4 _ :: hownT 86 2 encP v78 _ :: hownT 46 2 Clause.enc v80 _ :: l) (.cons _ (.cons_cons _ (.cons_cons _ (.cons_cons _ (.refl _))))) ?_
                    exact hk87 _ _ ⟨_, _, _, _, _, rfl, rfl, hr⟩
                | succ n92 =>
                  obtain ⟨nx91, hnx91, hr⟩ := forK_succ hr
                  try dsimp only at hr
                  unfold clause_Refute_b90 at hr
                  try dsimp only at hr
                  have hltt_89 := fr_bnd hnt_89
                  refine Tr.seq ?_
                  refine Tr.region_f (fun _ => false) ?_
                  refine W.q rfl rfl rfl rfl (by decide) (Yd.lss rfl (.t rfl) (.t rfl)) ?_
                  refine W.end ?_
                  refine NX.sub (env' := [(1, _), (7, _), (8, _), (9, _), (12, _), (49, _), (50, _), (59, _), (60, _), (61, _), (62, _)]) ⟨rfl, rfl, rfl, rfl, rfl, rfl, rfl, rfl, rfl, rfl, rfl, trivial⟩ ?_
                  refine NX.then ?_
                  refine Tr.seq ?_
                  refine Tr.cond (.t rfl) (fun hb => ?_) (fun hb => ?_)
                  rotate_left
                  · exact absurd (hb.symm.trans (fr_go hnt_89)) (by decide)
                  ·
                    refine Tr.skip' ?_
                    refine NX.then ?_
                    refine Tr.seq ?_
                    refine Tr.block ?_
                    refine Tr.seq ?_
                    obtain ⟨y93, hy94, hr⟩ := bind_some hr
                    refine Tr.region_f (fun i => Nat.beq i 2 || Nat.beq i 3) ?_
                    refine W.q rfl rfl rfl rfl (by decide) (Yd.idxT (pos := 0) rfl hy94 rfl Try.underlying53 SZ86 (.t rfl) (.t rfl)) ?_
                    refine W.q rfl rfl rfl rfl (by decide) (Yd.ldTs (enc := encP) (n := 2) (pos := 0) (us := [_, _]) (fun _ => rfl) rfl hy94 rfl (by decide) rfl ON86 US86 SZ86 (.t rfl)) ?_
                    refine W.e rfl rfl rfl rfl (by decide) (Ef.al rfl ZR86 rfl) ?_
                    rintro _ _ ⟨b95, rfl, rfl⟩
                    refine ⟨.inl rfl, ?_⟩
                    refine W.cast (m' := m) (l' := hcells b95 [_, _] 86 :: hownT 86 2 encP v67 _ :: hmap b12 ek46 ev4 _ :: hownT 86 2 encP v78 _ :: hownT 46 2 Clause.enc v80 _ :: l) rfl rfl ?_
                    refine W.s rfl rfl rfl rfl (Ef.stB (pos := 0) (us := [_, _]) (cs' := [_, _]) rfl rfl (.t rfl) (.t rfl) SZ86 rfl rfl rfl (Nat.le_of_ble_eq_true rfl) rfl) ?_
                    rintro _ _ ⟨rfl, rfl⟩
                    refine ⟨.inl rfl, ?_⟩
                    refine W.cast (m' := m) (l' := hcells b95 [_, _] 86 :: hownT 86 2 encP v67 _ :: hmap b12 ek46 ev4 _ :: hownT 86 2 encP v78 _ :: hownT 46 2 Clause.enc v80 _ :: l) rfl rfl ?_
                    refine W.end ?_
                    refine NX.sub (env' := [(1, _), (7, _), (8, _), (9, _), (12, _), (49, _), (50, _), (59, _), (60, _), (61, _), (15, _)]) ⟨rfl, rfl, rfl, rfl, rfl, rfl, rfl, rfl, rfl, rfl, rfl, trivial⟩ ?_
                    refine NX.then ?_
                    refine Tr.seq ?_
                    obtain ⟨y97, hy98, hr⟩ := bind_some hr
                    obtain ⟨y99, hy100, hr⟩ := bind_some hr
                    obtain ⟨r101, hr102, hr⟩ := bind_some hr
                    refine Tr.region_x (fun i => Nat.beq i 14 || Nat.beq i 15) (fun i => Nat.beq i 13 || Nat.beq i 15) (Ord.of [0, 1, 2, 3, 4, 5, 6, 7, 8, 9, 10, 11, 12, 13, 14, 15, 16]) FM (by kernel_rfl) ?_
                    refine W.q rfl rfl rfl rfl (by decide) (Yd.mv rfl (.t rfl)) ?_
                    refine W.q rfl rfl rfl rfl (by decide) (Yd.arrB rfl Try.underlying86 SZ3 (by decide) (by decide) (.t rfl) .c) ?_
                    refine W.q rfl rfl rfl rfl (by decide) (Yd.ldB (pos := 0) rfl rfl rfl ON3 (.t rfl)) ?_
                    refine W.q rfl rfl rfl rfl (by decide) (Yd.idxT (pos := 4) rfl hy98 rfl Try.underlying40 SZ46 (.t rfl) (.t rfl)) ?_
                    refine W.q rfl rfl rfl rfl (by decide) (Yd.ldTs (enc := Clause.enc) (n := 2) (pos := 4) (us := [_, _]) (fun _ => rfl) rfl hy98 rfl (by decide) rfl ON46 US46 SZ46 (.t rfl)) ?_
                    refine W.q rfl rfl rfl rfl (by decide) (Yd.mv rfl (.t rfl)) ?_
                    refine W.q rfl rfl rfl rfl (by decide) (Yd.arrB rfl Try.underlying86 SZ3 (by decide) (by decide) (.t rfl) .c) ?_
                    refine W.q rfl rfl rfl rfl (by decide) (Yd.ldB (pos := 0) rfl rfl rfl ON3 (.t rfl)) ?_
                    refine W.q rfl rfl rfl rfl (by decide) (Yd.idxT (pos := 4) rfl hy100 rfl Try.underlying40 SZ46 (.t rfl) (.t rfl)) ?_
                    refine W.q rfl rfl rfl rfl (by decide) (Yd.ldTs (enc := Clause.enc) (n := 2) (pos := 4) (us := [_, _]) (fun _ => rfl) rfl hy100 rfl (by decide) rfl ON46 US46 SZ46 (.t rfl)) ?_
                    refine W.q rfl rfl rfl rfl (by decide) (Yd.call (v := .tuple #[.agg #[.int .u32 (r101.1.yes.toNat : Int), .int .u32 (r101.1.no.toNat : Int)], .bool r101.2]) rfl Try.func52 rfl rfl (.cons (.t rfl) (.cons (.t rfl) .nil)) (fun x' hx w hw => clause_Resolve_ok w0 x'.m x'.l y97 y99 _ hr102 w hw)) ?_
                    refine W.q rfl rfl rfl rfl (by decide) (Yd.mv rfl (.t rfl)) ?_
                    refine W.q rfl rfl rfl rfl (by decide) (Yd.ext rfl (.t rfl) rfl) ?_
                    refine W.p rfl rfl rfl rfl (by decide) (fun _ => Yd.ext rfl (.t rfl) rfl) ?_
                    refine W.e rfl rfl rfl rfl (by decide) (Ef.al rfl ZR46 rfl) ?_
                    rintro _ _ ⟨b105, rfl, rfl⟩
                    refine ⟨.inr ⟨.refl _, [_], rfl⟩, ?_⟩
                    refine W.cast (m' := m) (l' := hcells b105 [_, _] 46 :: hcells b95 [_, _] 86 :: hownT 86 2 encP v67 _ :: hmap b12 ek46 ev4 _ :: hownT 86 2 encP v78 _ :: hownT 46 2 Clause.enc v80 _ :: l) rfl rfl ?_
                    refine W.s rfl rfl rfl rfl (Ef.stB (pos := 0) (us := [_, _]) (cs' := [_, _]) rfl rfl (.t rfl) (.t rfl) SZ46 rfl rfl rfl (Nat.le_of_ble_eq_true rfl) rfl) ?_
                    rintro _ _ ⟨rfl, rfl⟩
                    refine ⟨.inl rfl, ?_⟩
                    refine W.cast (m' := m) (l' := hcells b105 [_, _] 46 :: hcells b95 [_, _] 86 :: hownT 86 2 encP v67 _ :: hmap b12 ek46 ev4 _ :: hownT 86 2 encP v78 _ :: hownT 46 2 Clause.enc v80 _ :: l) rfl rfl ?_
                    refine W.q rfl rfl rfl rfl (by decide) (Yd.as rfl (.t rfl)) ?_
                    refine W.end ?_
                    refine NX.sub (env' := [(1, _), (7, _), (8, _), (9, _), (12, _), (49, _), (50, _), (59, _), (60, _), (61, _), (15, _), (16, _), (17, _)]) ⟨rfl, rfl, rfl, rfl, rfl, rfl, rfl, rfl, rfl, rfl, rfl, rfl, rfl, trivial⟩ ?_
                    refine NX.then ?_
                    refine Tr.seq ?_
                    refine Tr.seq ?_
                    refine Tr.region_f (fun _ => false) ?_
                    refine W.q rfl rfl rfl rfl (by decide) (Yd.mv rfl (.t rfl)) ?_
                    refine W.q rfl rfl rfl rfl (by decide) (Yd.not rfl (.t rfl)) ?_
                    refine W.q rfl rfl rfl rfl (by decide) (Yd.mv rfl (.t rfl)) ?_
                    refine W.g rfl rfl rfl rfl rfl (.t rfl _) rfl (by decide) (fun hG => Yd.mv rfl (.t rfl)) ?_
                    refine W.g rfl rfl rfl rfl rfl (.t rfl _) rfl (by decide) (fun hG => Yd.ldBs (pos := 0) (us := [_, _]) rfl rfl rfl rfl ON46 US46 SZ46 (.t rfl)) ?_
                    refine W.g rfl rfl rfl rfl rfl (.t rfl _) rfl (by decide) (fun hG => Yd.mlookE MK46 (pos := 3) (k := ({ yes := r101.1.yes, no := r101.1.no } : Clause)) (d := false) rfl rfl Try.underlying85 IF4 (.g rfl hG) (.g rfl hG)) ?_
                    refine W.q rfl rfl rfl rfl (by decide) (Yd.or rfl (.t rfl) .c rfl rfl) ?_
                    refine W.q rfl rfl rfl rfl (by decide) (Yd.mv rfl (.t rfl)) ?_
                    refine W.g rfl rfl rfl rfl rfl (.t rfl _) rfl (by decide) (fun hG => Yd.fldB rfl Try.underlying46 rfl SZ41 rfl (.t rfl)) ?_
                    refine W.g rfl rfl rfl rfl rfl (.t rfl _) rfl (by decide) (fun hG => Yd.ldB (pos := 0) rfl rfl rfl ON41 (.g rfl hG)) ?_
                    refine W.g rfl rfl rfl rfl rfl (.t rfl _) rfl (by decide) (fun hG => Yd.fldB rfl Try.underlying46 rfl SZ41 rfl (.t rfl)) ?_
                    refine W.g rfl rfl rfl rfl rfl (.t rfl _) rfl (by decide) (fun hG => Yd.ldB (pos := 0) rfl rfl rfl ON41 (.g rfl hG)) ?_
                    refine W.g rfl rfl rfl rfl rfl (.t rfl _) rfl (by decide) (fun hG => Yd.andU (a := r101.1.yes) (b := r101.1.no) rfl (.g rfl hG) (.g rfl hG)) ?_
                    refine W.g rfl rfl rfl rfl rfl (.t rfl _) rfl (by decide) (fun hG => Yd.neqU (a := (r101.1.yes &&& r101.1.no)) (b := 0#32) rfl (.g rfl hG) .c) ?_
                    refine W.q rfl rfl rfl rfl (by decide) (Yd.or rfl (.t rfl) .c rfl rfl) ?_
                    refine W.end ?_
                    refine NX.sub (env' := [(1, _), (7, _), (8, _), (9, _), (12, _), (49, _), (50, _), (59, _), (60, _), (61, _), (15, _), (16, _), (93, _)]) ⟨rfl, rfl, rfl, rfl, rfl, rfl, rfl, rfl, rfl, rfl, rfl, rfl, rfl, trivial⟩ ?_
                    refine NX.then ?_
                    refine Tr.cond (.t rfl) (fun hb => ?_) (fun hb => ?_)
                    · have hr := cond_t hb hr
                      refine Tr.exit' (EX.then (EX.block ?_))
                      refine NX.then ?_
                      refine Tr.region_f (fun _ => false) ?_
                      refine W.q rfl rfl rfl rfl (by decide) (Yd.add rfl (.t rfl) .c) ?_
                      refine W.q rfl rfl rfl rfl (by decide) (Yd.mv rfl (.t rfl)) ?_
                      refine W.end ?_
                      refine NX.sub (env' := [(1, _), (7, _), (8, _), (9, _), (12, _), (49, _), (50, _), (59, _), (60, _), (61, _)]) ⟨rfl, rfl, rfl, rfl, rfl, rfl, rfl, rfl, rfl, rfl, trivial⟩ ?_
                      refine NX.drop (l' := hownT 86 2 encP v67 _ :: hmap b12 ek46 ev4 _ :: hownT 86 2 encP v78 _ :: hownT 46 2 Clause.enc v80 _ :: l) (.cons _ (.cons _ (.cons_cons _ (.cons_cons _ (.cons_cons _ (.cons_cons _ (.refl _))))))) ?_
                      refine NX.sub (env' := [(1, _), (7, _), (8, _), (9, _), (12, _), (49, _), (50, _), (59, _), (60, _), (61, _)]) ⟨rfl, rfl, rfl, rfl, rfl, rfl, rfl, rfl, rfl, rfl, trivial⟩ ?_
                      have hw := w64_id (n := t_89 + 1) (by omega) (by omega)
                      exact NX.again n92 (t_89 + 1, l76, l77, l79) (Nat.lt_succ_self _) ⟨_, _, (by rw [hw] <;> rfl), rfl, (fr_dec hnt_89), (by omega), ((hnx91 _).symm.trans hr)⟩
                    · have hr := cond_f hb hr
                      refine Tr.skip' ?_
                      refine NX.then ?_
                      refine Tr.seq ?_
                      refine Tr.region_f (fun i => Nat.beq i 2) ?_
                      refine W.q rfl rfl rfl rfl (by decide) (Yd.mv rfl (.t rfl)) ?_
                      refine W.q rfl rfl rfl rfl (by decide) (Yd.ldBs (pos := 0) (us := [_, _]) rfl rfl rfl rfl ON46 US46 SZ46 (.t rfl)) ?_
                      refine W.s rfl rfl rfl rfl (Ef.mset MK46 (pos := 3) (k := ({ yes := r101.1.yes, no := r101.1.no } : Clause)) (v := true) rfl rfl Try.underlying85 (.t rfl) (.t rfl) .c) ?_
                      rintro _ _ ⟨rfl, rfl⟩
                      refine ⟨.inl rfl, ?_⟩
                      refine W.cast (m' := m) (l' := hcells b105 [_, _] 46 :: hcells b95 [_, _] 86 :: hownT 86 2 encP v67 _ :: hmap b12 ek46 ev4 _ :: hownT 86 2 encP v78 _ :: hownT 46 2 Clause.enc v80 _ :: l) rfl rfl ?_
                      refine W.end ?_
                      refine NX.sub (env' := [(1, _), (7, _), (8, _), (9, _), (12, _), (49, _), (50, _), (59, _), (60, _), (61, _), (15, _), (16, _)]) ⟨rfl, rfl, rfl, rfl, rfl, rfl, rfl, rfl, rfl, rfl, rfl, rfl, trivial⟩ ?_
                      refine NX.then ?_
                      refine Tr.seq ?_
                      refine Tr.join (S := fun env x => ∃ v277 : Value, ∃ v437 : Value, env = [(1, ul_1), (7, v277), (8, v437), (9, (.map (some b12))), (12, .int .i64 i_27), (49, .int .i64 ((w64 (i_27 + (1 : Int))))), (50, .int .i64 t_63), (59, v67), (60, .int .i64 (((([(i_27, t_63), (t_63, i_27)] : List (Int × Int))).length : Int))), (61, .int .i64 t_89), (16, bp b105 0)] ∧ x = ⟨m, hcells b105 [.int .u32 (r101.1.yes.toNat : Int), .int .u32 (r101.1.no.toNat : Int)] 46 :: hownT 86 2 encP v67 (([(i_27, t_63), (t_63, i_27)] : List (Int × Int))) :: hmap b12 ek46 ev4 ((mput l76 (({ yes := r101.1.yes, no := r101.1.no } : Clause)) true)) :: hownT 86 2 encP v437 ((l77 ++ ([(y93.1, y93.2)] : List (Int × Int)))) :: hownT 46 2 Clause.enc v277 ((l79 ++ ([({ yes := r101.1.yes, no := r101.1.no } : Clause)] : List Clause))) :: l⟩ ∧ ((bif ((r101.1.yes == (0#32)) && ((r101.1.no == (0#32)) && true)) then
  (clause_needed fuel ((l_1.length : Int)) ((l77 ++ ([(y93.1, y93.2)] : List (Int × Int))))).bind fun r577 =>
  some ((r577, (0 : Int)))
  else
  nx91 ((mput l76 (({ yes := r101.1.yes, no := r101.1.no } : Clause)) true), (l77 ++ ([(y93.1, y93.2)] : List (Int × Int))), (l79 ++ ([({ yes := r101.1.yes, no := r101.1.no } : Clause)] : List Clause))))) = some r) ?_ (fun hk517 => ?_)
                      · rintro _ _ ⟨v277, v437, rfl, rfl, hr⟩
                        refine NX.then ?_
                        refine Tr.seq ?_
                        refine Tr.region_f (fun _ => false) ?_
                        refine W.q rfl rfl rfl rfl (by decide) (Yd.ldBs (pos := 0) (us := [_, _]) rfl rfl rfl rfl ON46 US46 SZ46 (.t rfl)) ?_
                        refine W.q rfl rfl rfl rfl (by decide) (Yd.bld (cells := [.int .u32 (((0#32)).toNat : Int), .int .u32 (((0#32)).toNat : Int)]) rfl ZI46 PL46 .nil rfl) ?_
                        refine W.q rfl rfl rfl rfl (by decide) (Yd.eqA rfl GU46 (fun w => EQ46 w r101.1.yes r101.1.no ((0#32)) ((0#32))) (.t rfl) (.t rfl)) ?_
                        refine W.end ?_
                        refine NX.sub (env' := [(1, _), (7, _), (8, _), (9, _), (12, _), (49, _), (50, _), (59, _), (60, _), (61, _), (106, _)]) ⟨rfl, rfl, rfl, rfl, rfl, rfl, rfl, rfl, rfl, rfl, rfl, trivial⟩ ?_
                        refine NX.drop (l' := hownT 86 2 encP v67 _ :: hmap b12 ek46 ev4 _ :: hownT 86 2 encP v437 _ :: hownT 46 2 Clause.enc v277 _ :: l) (.cons _ (.cons_cons _ (.cons_cons _ (.cons_cons _ (.cons_cons _ (.refl _)))))) ?_
                        refine NX.then ?_
                        refine Tr.cond (.t rfl) (fun hb => ?_) (fun hb => ?_)
                        · have hr := cond_t hb hr
                          refine Tr.seq ?_
                          obtain ⟨r577, hr578, hr⟩ := bind_some hr
                          refine Tr.region_f (fun i => Nat.beq i 3) ?_
                          refine W.q rfl rfl rfl rfl (by decide) (Yd.mv rfl (.t rfl)) ?_
                          refine W.q rfl rfl rfl rfl (by decide) (Yd.lenR hl_1 rfl Try.underlying40 (.t rfl)) ?_
                          refine W.q rfl rfl rfl rfl (by decide) (Yd.mv rfl (.t rfl)) ?_
                          refine W.e rfl rfl rfl rfl (by decide) (Ef.call (R := fun z x' => ∃ v579 : Value, z = v579 ∧ x' = ⟨m, hownT 86 2 encP v579 r577 :: hownT 86 2 encP v67 (([(i_27, t_63), (t_63, i_27)] : List (Int × Int))) :: hmap b12 ek46 ev4 ((mput l76 (({ yes := r101.1.yes, no := r101.1.no } : Clause)) true)) :: hownT 86 2 encP v437 ((l77 ++ ([(y93.1, y93.2)] : List (Int × Int)))) :: hownT 46 2 Clause.enc v277 ((l79 ++ ([({ yes := r101.1.yes, no := r101.1.no } : Clause)] : List Clause))) :: l⟩) rfl Try.func53 rfl rfl (.cons (.t rfl) (.cons (.t rfl) .nil)) (by intro w hw; obtain ⟨m2, hm2, hc2, ⟨L2, hl1, hl2⟩, hback⟩ := cX_lend (p := 2) hw rfl lone_own; have hL1 : RS rP m2 _ _ := RS_of_own hl1 hl2; exact (clause_needed_ok w0 m2 _ fuel ((l_1.length : Int)) _ _ hL1 _ hr578 w hc2).mono fun e w' ⟨v579, he, hc'⟩ => ⟨_, _, he, ⟨v579, rfl, rfl⟩, (hback m2 _ 3 w' (.refl _) rfl).2 hc'⟩)) ?_
                          rintro v579 _ ⟨_, rfl, rfl⟩
                          refine ⟨.inl rfl, ?_⟩
                          refine W.cast (m' := m) (l' := hownT 86 2 encP v579 _ :: hownT 86 2 encP v67 _ :: hmap b12 ek46 ev4 _ :: hownT 86 2 encP v437 _ :: hownT 46 2 Clause.enc v277 _ :: l) rfl rfl ?_
                          refine W.q rfl rfl rfl rfl (by decide) (Yd.as rfl (.t rfl)) ?_
                          refine W.q rfl rfl rfl rfl (by decide) (Yd.as rfl .c) ?_
                          refine W.end ?_
                          refine NX.sub (env' := [(4, _), (5, _)]) ⟨rfl, rfl, trivial⟩ ?_
                          refine NX.drop (l' := hownT 86 2 encP v579 _ :: l) (.cons_cons _ (.cons _ (.cons _ (.cons _ (.cons _ (.refl _)))))) ?_
                          refine NX.then ?_
                          refine Tr.ret' (RT.block (RT.then (RT.then (RT.block (RT.block (RT.then (RT.then (RT.block (RT.block (RT.then (RT.then (RT.block (RT.then ?_)))))))))))))
                          refine res2 rfl rfl rfl ?_
                          intro w hc
                          cases hr
                          exact ⟨_, rfl, hc⟩
                        · have hr := cond_f hb hr
                          refine Tr.skip' ?_
                          refine NX.block ?_
                          refine NX.then ?_
                          refine Tr.region_f (fun _ => false) ?_
                          refine W.q rfl rfl rfl rfl (by decide) (Yd.add rfl (.t rfl) .c) ?_
                          refine W.q rfl rfl rfl rfl (by decide) (Yd.mv rfl (.t rfl)) ?_
                          refine W.end ?_
                          refine NX.sub (env' := [(1, _), (7, _), (8, _), (9, _), (12, _), (49, _), (50, _), (59, _), (60, _), (61, _)]) ⟨rfl, rfl, rfl, rfl, rfl, rfl, rfl, rfl, rfl, rfl, trivial⟩ ?_
                          refine NX.sub (env' := [(1, _), (7, _), (8, _), (9, _), (12, _), (49, _), (50, _), (59, _), (60, _), (61, _)]) ⟨rfl, rfl, rfl, rfl, rfl, rfl, rfl, rfl, rfl, rfl, trivial⟩ ?_
                          have hw := w64_id (n := t_89 + 1) (by omega) (by omega)
                          exact NX.again n92 (t_89 + 1, (mput l76 (({ yes := r101.1.yes, no := r101.1.no } : Clause)) true), (l77 ++ ([(y93.1, y93.2)] : List (Int × Int))), (l79 ++ ([({ yes := r101.1.yes, no := r101.1.no } : Clause)] : List Clause))) (Nat.lt_succ_self _) ⟨_, _, (by rw [hw] <;> rfl), rfl, (fr_dec hnt_89), (by omega), ((hnx91 _).symm.trans hr)⟩
                      obtain ⟨hq278, hr⟩ := guard_some hr; replace hq278 := of_decide_eq_true hq278
                      obtain ⟨hq438, hr⟩ := guard_some hr; replace hq438 := of_decide_eq_true hq438
                      refine Tr.region_xJ (fun x => Sle m x.m ∧ (∃ p : Nat, x.l[p]? = some (hcells b95 [.int .i64 y93.1, .int .i64 y93.2] 86)) ∧ True) (fun _ _ hx h => by obtain ⟨hm, ⟨_, h0⟩, _⟩ := h; exact ⟨hm.trans hx.1, hx.at h0, trivial⟩) (fun i => Nat.beq i 3) (fun i => Nat.beq i 5) (fun i => Nat.beq i 2 || Nat.beq i 3 || Nat.beq i 6 || Nat.beq i 7) (fun i => Nat.beq i 3 || Nat.beq i 4 || Nat.beq i 5 || Nat.beq i 7) (.one 0 (.one 1 (.one 4 (.one 5 (.two 2 6 (.two 3 6 (Ord.of [6, 7, 8, 9]) (Ord.of [3, 7, 8, 9])) (Ord.of [2, 3, 7, 8, 9])))))) FM (by kernel_rfl) ?_
                      refine W.q rfl rfl rfl rfl (by decide) (Yd.mv rfl (.t rfl)) ?_
                      refine W.q rfl rfl rfl rfl (by decide) (Yd.ldBs (pos := 0) (us := [_, _]) rfl rfl rfl rfl ON46 US46 SZ46 (.t rfl)) ?_
                      refine W.p rfl rfl rfl rfl (by decide) (fun _ => Yd.mv rfl (.t rfl)) ?_
                      refine W.pJ rfl rfl rfl rfl (by decide) (fun _ h => by obtain ⟨jhm, ⟨jp0, jhp0⟩, _⟩ := h; exact Yd.ldBs (pos := jp0) (us := [_, _]) jhp0 rfl rfl rfl ON86 US86 SZ86 (.t rfl)) ⟨(.refl _), ⟨1, rfl⟩, trivial⟩ rfl ?_
                      refine W.two ?_ ?_
                      ·
                        refine W.e rfl rfl rfl rfl (by decide) (Ef.bsT (enc := Clause.enc) (vs := [_]) (ys := [({ yes := r101.1.yes, no := r101.1.no } : Clause)]) (fun _ => rfl) IF46 rfl Try.underlying40 (by decide) rfl (.cons (.t rfl) .nil) rfl rfl (by decide)) ?_ (hJ := fun _ _ _ h => absurd (show false = true from h) (by decide))
                        rintro v237 _ rfl
                        refine ⟨.inr ⟨.refl _, [_], rfl⟩, ?_⟩
                        refine W.cast (m' := m) (l' := hownT 46 2 Clause.enc v237 _ :: hcells b105 [_, _] 46 :: hcells b95 [_, _] 86 :: hownT 86 2 encP v67 _ :: hmap b12 ek46 ev4 _ :: hownT 86 2 encP v78 _ :: hownT 46 2 Clause.enc v80 _ :: l) rfl rfl ?_
                        refine W.two ?_ ?_
                        ·
                          refine W.e rfl rfl rfl rfl (by decide) (Ef.apI (pos := 6) (enc := Clause.enc) (xs := l79) (ys := ([({ yes := r101.1.yes, no := r101.1.no } : Clause)] : List Clause)) (fun _ => rfl) IF46 rfl rfl Try.underlying40 rfl (by decide) (.t rfl) (.t rfl) (Src.own (pos := 0) rfl) (fun _ => rfl) (by omega) (by omega)) ?_ (hJ := by rintro v277 _ rfl; exact fun _ => ⟨(.refl _), ⟨2, rfl⟩, trivial⟩)
                          rintro v277 _ rfl
                          refine ⟨.inl rfl, ?_⟩
                          refine W.cast (m' := m) (l' := hownT 46 2 Clause.enc v237 _ :: hcells b105 [_, _] 46 :: hcells b95 [_, _] 86 :: hownT 86 2 encP v67 _ :: hmap b12 ek46 ev4 _ :: hownT 86 2 encP v78 _ :: hownT 46 2 Clause.enc v277 _ :: l) rfl rfl ?_
                          refine W.e rfl rfl rfl rfl (by decide) (Ef.bsT (enc := encP) (vs := [_]) (ys := [(y93.1, y93.2)]) (fun _ => rfl) IF86 rfl Try.underlying53 (by decide) rfl (.cons (.t rfl) .nil) rfl rfl (by decide)) ?_ (hJ := fun _ _ _ h => absurd (show false = true from h) (by decide))
                          rintro v397 _ rfl
                          refine ⟨.inr ⟨.refl _, [_], rfl⟩, ?_⟩
                          refine W.cast (m' := m) (l' := hownT 86 2 encP v397 _ :: hownT 46 2 Clause.enc v237 _ :: hcells b105 [_, _] 46 :: hcells b95 [_, _] 86 :: hownT 86 2 encP v67 _ :: hmap b12 ek46 ev4 _ :: hownT 86 2 encP v78 _ :: hownT 46 2 Clause.enc v277 _ :: l) rfl rfl ?_
                          refine W.e rfl rfl rfl rfl (by decide) (Ef.apI (pos := 6) (enc := encP) (xs := l77) (ys := ([(y93.1, y93.2)] : List (Int × Int))) (fun _ => rfl) IF86 rfl rfl Try.underlying53 rfl (by decide) (.t rfl) (.t rfl) (Src.own (pos := 0) rfl) (fun _ => rfl) (by omega) (by omega)) ?_ (hJ := fun _ _ _ h => absurd (show false = true from h) (by decide))
                          rintro v437 _ rfl
                          refine ⟨.inl rfl, ?_⟩
                          refine W.cast (m' := m) (l' := hownT 86 2 encP v397 _ :: hownT 46 2 Clause.enc v237 _ :: hcells b105 [_, _] 46 :: hcells b95 [_, _] 86 :: hownT 86 2 encP v67 _ :: hmap b12 ek46 ev4 _ :: hownT 86 2 encP v437 _ :: hownT 46 2 Clause.enc v277 _ :: l) rfl rfl ?_
                          refine W.q rfl rfl rfl rfl (by decide) (Yd.as rfl (.t rfl)) ?_
                          refine W.q rfl rfl rfl rfl (by decide) (Yd.as rfl (.t rfl)) ?_
                          refine W.end ?_
                          refine NX.sub (env' := [(1, _), (7, _), (8, _), (9, _), (12, _), (49, _), (50, _), (59, _), (60, _), (61, _), (16, _)]) ⟨rfl, rfl, rfl, rfl, rfl, rfl, rfl, rfl, rfl, rfl, rfl, trivial⟩ ?_
                          refine NX.drop (l' := hcells b105 [_, _] 46 :: hownT 86 2 encP v67 _ :: hmap b12 ek46 ev4 _ :: hownT 86 2 encP v437 _ :: hownT 46 2 Clause.enc v277 _ :: l) (.cons _ (.cons _ (.cons_cons _ (.cons _ (.cons_cons _ (.cons_cons _ (.cons_cons _ (.cons_cons _ (.refl _))))))))) ?_
                          exact hk517 _ _ ⟨_, _, rfl, rfl, hr⟩
                        ·
                          refine W.e rfl rfl rfl rfl (by decide) (Ef.bsT (enc := encP) (vs := [_]) (ys := [(y93.1, y93.2)]) (fun _ => rfl) IF86 rfl Try.underlying53 (by decide) rfl (.cons (.t rfl) .nil) rfl rfl (by decide)) ?_ (hJ := fun _ _ _ h => absurd (show false = true from h) (by decide))
                          rintro v397 _ rfl
                          refine ⟨.inr ⟨.refl _, [_], rfl⟩, ?_⟩
                          refine W.cast (m' := m) (l' := hownT 86 2 encP v397 _ :: hownT 46 2 Clause.enc v237 _ :: hcells b105 [_, _] 46 :: hcells b95 [_, _] 86 :: hownT 86 2 encP v67 _ :: hmap b12 ek46 ev4 _ :: hownT 86 2 encP v78 _ :: hownT 46 2 Clause.enc v80 _ :: l) rfl rfl ?_
                          refine W.e rfl rfl rfl rfl (by decide) (Ef.apI (pos := 7) (enc := Clause.enc) (xs := l79) (ys := ([({ yes := r101.1.yes, no := r101.1.no } : Clause)] : List Clause)) (fun _ => rfl) IF46 rfl rfl Try.underlying40 rfl (by decide) (.t rfl) (.t rfl) (Src.own (pos := 1) rfl) (fun _ => rfl) (by omega) (by omega)) ?_ (hJ := by rintro v277 _ rfl; exact fun _ => ⟨(.refl _), ⟨3, rfl⟩, trivial⟩)
                          rintro v277 _ rfl
                          refine ⟨.inl rfl, ?_⟩
                          refine W.cast (m' := m) (l' := hownT 86 2 encP v397 _ :: hownT 46 2 Clause.enc v237 _ :: hcells b105 [_, _] 46 :: hcells b95 [_, _] 86 :: hownT 86 2 encP v67 _ :: hmap b12 ek46 ev4 _ :: hownT 86 2 encP v78 _ :: hownT 46 2 Clause.enc v277 _ :: l) rfl rfl ?_
                          refine W.e rfl rfl rfl rfl (by decide) (Ef.apI (pos := 6) (enc := encP) (xs := l77) (ys := ([(y93.1, y93.2)] : List (Int × Int))) (fun _ => rfl) IF86 rfl rfl Try.underlying53 rfl (by decide) (.t rfl) (.t rfl) (Src.own (pos := 0) rfl) (fun _ => rfl) (by omega) (by omega)) ?_ (hJ := fun _ _ _ h => absurd (show false = true from h) (by decide))
                          rintro v437 _ rfl
                          refine ⟨.inl rfl, ?_⟩
                          refine W.cast (m' := m) (l' := hownT 86 2 encP v397 _ :: hownT 46 2 Clause.enc v237 _ :: hcells b105 [_, _] 46 :: hcells b95 [_, _] 86 :: hownT 86 2 encP v67 _ :: hmap b12 ek46 ev4 _ :: hownT 86 2 encP v437 _ :: hownT 46 2 Clause.enc v277 _ :: l) rfl rfl ?_
                          refine W.q rfl rfl rfl rfl (by decide) (Yd.as rfl (.t rfl)) ?_
                          refine W.q rfl rfl rfl rfl (by decide) (Yd.as rfl (.t rfl)) ?_
                          refine W.end ?_
                          refine NX.sub (env' := [(1, _), (7, _), (8, _), (9, _), (12, _), (49, _), (50, _), (59, _), (60, _), (61, _), (16, _)]) ⟨rfl, rfl, rfl, rfl, rfl, rfl, rfl, rfl, rfl, rfl, rfl, trivial⟩ ?_
                          refine NX.drop (l' := hcells b105 [_, _] 46 :: hownT 86 2 encP v67 _ :: hmap b12 ek46 ev4 _ :: hownT 86 2 encP v437 _ :: hownT 46 2 Clause.enc v277 _ :: l) (.cons _ (.cons _ (.cons_cons _ (.cons _ (.cons_cons _ (.cons_cons _ (.cons_cons _ (.cons_cons _ (.refl _))))))))) ?_
                          exact hk517 _ _ ⟨_, _, rfl, rfl, hr⟩
                      ·
                        refine W.e rfl rfl rfl rfl (by decide) (Ef.bsT (enc := encP) (vs := [_]) (ys := [(y93.1, y93.2)]) (fun _ => rfl) IF86 rfl Try.underlying53 (by decide) rfl (.cons (.t rfl) .nil) rfl rfl (by decide)) ?_ (hJ := fun _ _ _ h => absurd (show false = true from h) (by decide))
                        rintro v397 _ rfl
                        refine ⟨.inr ⟨.refl _, [_], rfl⟩, ?_⟩
                        refine W.cast (m' := m) (l' := hownT 86 2 encP v397 _ :: hcells b105 [_, _] 46 :: hcells b95 [_, _] 86 :: hownT 86 2 encP v67 _ :: hmap b12 ek46 ev4 _ :: hownT 86 2 encP v78 _ :: hownT 46 2 Clause.enc v80 _ :: l) rfl rfl ?_
                        refine W.e rfl rfl rfl rfl (by decide) (Ef.bsT (enc := Clause.enc) (vs := [_]) (ys := [({ yes := r101.1.yes, no := r101.1.no } : Clause)]) (fun _ => rfl) IF46 rfl Try.underlying40 (by decide) rfl (.cons (.t rfl) .nil) rfl rfl (by decide)) ?_ (hJ := fun _ _ _ h => absurd (show false = true from h) (by decide))
                        rintro v237 _ rfl
                        refine ⟨.inr ⟨.refl _, [_], rfl⟩, ?_⟩
                        refine W.cast (m' := m) (l' := hownT 46 2 Clause.enc v237 _ :: hownT 86 2 encP v397 _ :: hcells b105 [_, _] 46 :: hcells b95 [_, _] 86 :: hownT 86 2 encP v67 _ :: hmap b12 ek46 ev4 _ :: hownT 86 2 encP v78 _ :: hownT 46 2 Clause.enc v80 _ :: l) rfl rfl ?_
                        refine W.e rfl rfl rfl rfl (by decide) (Ef.apI (pos := 7) (enc := Clause.enc) (xs := l79) (ys := ([({ yes := r101.1.yes, no := r101.1.no } : Clause)] : List Clause)) (fun _ => rfl) IF46 rfl rfl Try.underlying40 rfl (by decide) (.t rfl) (.t rfl) (Src.own (pos := 0) rfl) (fun _ => rfl) (by omega) (by omega)) ?_ (hJ := by rintro v277 _ rfl; exact fun _ => ⟨(.refl _), ⟨3, rfl⟩, trivial⟩)
                        rintro v277 _ rfl
                        refine ⟨.inl rfl, ?_⟩
                        refine W.cast (m' := m) (l' := hownT 46 2 Clause.enc v237 _ :: hownT 86 2 encP v397 _ :: hcells b105 [_, _] 46 :: hcells b95 [_, _] 86 :: hownT 86 2 encP v67 _ :: hmap b12 ek46 ev4 _ :: hownT 86 2 encP v78 _ :: hownT 46 2 Clause.enc v277 _ :: l) rfl rfl ?_
                        refine W.e rfl rfl rfl rfl (by decide) (Ef.apI (pos := 6) (enc := encP) (xs := l77) (ys := ([(y93.1, y93.2)] : List (Int × Int))) (fun _ => rfl) IF86 rfl rfl Try.underlying53 rfl (by decide) (.t rfl) (.t rfl) (Src.own (pos := 1) rfl) (fun _ => rfl) (by omega) (by omega)) ?_ (hJ := fun _ _ _ h => absurd (show false = true from h) (by decide))
                        rintro v437 _ rfl
                        refine ⟨.inl rfl, ?_⟩
                        refine W.cast (m' := m) (l' := hownT 46 2 Clause.enc v237 _ :: hownT 86 2 encP v397 _ :: hcells b105 [_, _] 46 :: hcells b95 [_, _] 86 :: hownT 86 2 encP v67 _ :: hmap b12 ek46 ev4 _ :: hownT 86 2 encP v437 _ :: hownT 46 2 Clause.enc v277 _ :: l) rfl rfl ?_
                        refine W.q rfl rfl rfl rfl (by decide) (Yd.as rfl (.t rfl)) ?_
                        refine W.q rfl rfl rfl rfl (by decide) (Yd.as rfl (.t rfl)) ?_
                        refine W.end ?_
                        refine NX.imp (fun w hw => cX_front (p := 7) hw rfl) ?_
                        refine NX.imp (fun w hw => cX_front (p := 7) hw rfl) ?_
                        refine NX.imp (fun w hw => cX_front (p := 7) hw rfl) ?_
                        refine NX.imp (fun w hw => cX_front (p := 7) hw rfl) ?_
                        refine NX.imp (fun w hw => cX_front (p := 7) hw rfl) ?_
                        refine NX.imp (fun w hw => cX_front (p := 7) hw rfl) ?_
                        refine NX.imp (fun w hw => cX_front (p := 6) hw rfl) ?_
                        refine NX.imp (fun w hw => cX_front (p := 7) hw rfl) ?_
                        refine NX.cast (m' := m) (l' := hownT 86 2 encP v397 _ :: hownT 46 2 Clause.enc v237 _ :: hcells b105 [_, _] 46 :: hcells b95 [_, _] 86 :: hownT 86 2 encP v67 _ :: hmap b12 ek46 ev4 _ :: hownT 86 2 encP v437 _ :: hownT 46 2 Clause.enc v277 _ :: l) rfl rfl ?_
                        refine NX.sub (env' := [(1, _), (7, _), (8, _), (9, _), (12, _), (49, _), (50, _), (59, _), (60, _), (61, _), (16, _)]) ⟨rfl, rfl, rfl, rfl, rfl, rfl, rfl, rfl, rfl, rfl, rfl, trivial⟩ ?_
                        refine NX.drop (l' := hcells b105 [_, _] 46 :: hownT 86 2 encP v67 _ :: hmap b12 ek46 ev4 _ :: hownT 86 2 encP v437 _ :: hownT 46 2 Clause.enc v277 _ :: l) (.cons _ (.cons _ (.cons_cons _ (.cons _ (.cons_cons _ (.cons_cons _ (.cons_cons _ (.cons_cons _ (.refl _))))))))) ?_
                        exact hk517 _ _ ⟨_, _, rfl, rfl, hr⟩
          · have hr := cond_f hb hr
            refine Tr.exit' (EX.then (EX.then (EX.block ?_)))
            refine NX.sub (env' := []) trivial ?_
            refine NX.drop (l' := l) (.cons _ (.cons _ (.cons _ (.refl _)))) ?_
            exact hk39 _ _ ⟨rfl, rfl, hr⟩
      have hlen577 := (hl_1).2.1
      refine Tr.block ?_
      refine Tr.sub (env' := [(1, _), (7, _), (8, _), (9, _), (33, _), (34, _), (35, _)]) ⟨rfl, rfl, rfl, rfl, rfl, rfl, rfl, trivial⟩ ?_
      refine Tr.loop (S := fun n (z : Int × (List (Clause × Bool))) env x => match z with | (t_578, l17) => env = [(1, ul_1), (7, v7), (8, v10), (9, (.map (some b12))), (33, ul_1), (34, .int .i64 ((l_1.length : Int))), (35, .int .i64 t_578)] ∧ x = ⟨m, hmap b12 ek46 ev4 l17 :: hownT 86 2 encP v10 ((List.replicate ((l_1.length : Int)).toNat ((0 : Int), (0 : Int)))) :: hownT 46 2 Clause.enc v7 r5 :: l⟩ ∧ n = ((l_1.length : Int) - t_578).toNat ∧ 0 ≤ t_578 ∧ forK (σ := (List (Clause × Bool))) (fun i s nx_ => clause_Refute_b579 l_1 i s nx_) (fun s => clause_Refute_k19 l_1 fuel r5 s) n t_578 l17 = some r) _ ((0 : Int), ([] : List (Clause × Bool))) ⟨rfl, rfl, rfl, (by omega), hr⟩ ?_
      rintro n581 ⟨t_578, l17⟩ env x ⟨rfl, rfl, hnt_578, h0t_578, hr⟩
      cases n581 with
      | zero =>
        simp only [forK] at hr
        refine Tr.seq ?_
        refine Tr.region_f (fun _ => false) ?_
        refine W.q rfl rfl rfl rfl (by decide) (Yd.lss rfl (.t rfl) (.t rfl)) ?_
        refine W.end ?_
        refine NX.sub (env' := [(1, _), (7, _), (8, _), (9, _), (33, _), (34, _), (35, _), (36, _)]) ⟨rfl, rfl, rfl, rfl, rfl, rfl, rfl, rfl, trivial⟩ ?_
        refine NX.then ?_
        refine Tr.seq ?_
        refine Tr.cond (.t rfl) (fun hb => ?_) (fun hb => ?_)
        · exact absurd (hb.symm.trans (fr_end hnt_578)) (by decide)
        ·
          refine Tr.exit' (EX.then (EX.then (EX.block ?_)))
          refine NX.sub (env' := [(1, _), (7, _), (8, _), (9, _)]) ⟨rfl, rfl, rfl, rfl, trivial⟩ ?_
          exact hk20 _ _ ⟨_, rfl, rfl, hr⟩
      | succ n581 =>
        obtain ⟨nx580, hnx580, hr⟩ := forK_succ hr
        try dsimp only at hr
        unfold clause_Refute_b579 at hr
        try dsimp only at hr
        have hltt_578 := fr_bnd hnt_578
        refine Tr.seq ?_
        refine Tr.region_f (fun _ => false) ?_
        refine W.q rfl rfl rfl rfl (by decide) (Yd.lss rfl (.t rfl) (.t rfl)) ?_
        refine W.end ?_
        refine NX.sub (env' := [(1, _), (7, _), (8, _), (9, _), (33, _), (34, _), (35, _), (36, _)]) ⟨rfl, rfl, rfl, rfl, rfl, rfl, rfl, rfl, trivial⟩ ?_
        refine NX.then ?_
        refine Tr.seq ?_
        refine Tr.cond (.t rfl) (fun hb => ?_) (fun hb => ?_)
        rotate_left
        · exact absurd (hb.symm.trans (fr_go hnt_578)) (by decide)
        ·
          refine Tr.skip' ?_
          refine NX.then ?_
          refine Tr.seq ?_
          refine Tr.block ?_
          refine Tr.seq ?_
          obtain ⟨y582, hy583, hr⟩ := bind_some hr
          refine Tr.region_f (fun i => Nat.beq i 2 || Nat.beq i 3) ?_
          refine W.q rfl rfl rfl rfl (by decide) (Yd.idxR hl_1 hy583 rfl Try.underlying40 SZ46 (.t rfl) (.t rfl)) ?_
          refine W.q rfl rfl rfl rfl (by decide) (Yd.ldFs (us := [_, _]) hl_1 (.refl _) hy583 rfl rfl ON46 US46 SZ46 (.t rfl)) ?_
          refine W.e rfl rfl rfl rfl (by decide) (Ef.al rfl ZR46 rfl) ?_
          rintro _ _ ⟨b584, rfl, rfl⟩
          refine ⟨.inl rfl, ?_⟩
          refine W.cast (m' := m) (l' := hcells b584 [_, _] 46 :: hmap b12 ek46 ev4 _ :: hownT 86 2 encP v10 _ :: hownT 46 2 Clause.enc v7 _ :: l) rfl rfl ?_
          refine W.s rfl rfl rfl rfl (Ef.stB (pos := 0) (us := [_, _]) (cs' := [_, _]) rfl rfl (.t rfl) (.t rfl) SZ46 rfl rfl rfl (Nat.le_of_ble_eq_true rfl) rfl) ?_
          rintro _ _ ⟨rfl, rfl⟩
          refine ⟨.inl rfl, ?_⟩
          refine W.cast (m' := m) (l' := hcells b584 [_, _] 46 :: hmap b12 ek46 ev4 _ :: hownT 86 2 encP v10 _ :: hownT 46 2 Clause.enc v7 _ :: l) rfl rfl ?_
          refine W.end ?_
          refine NX.sub (env' := [(1, _), (7, _), (8, _), (9, _), (33, _), (34, _), (35, _), (11, _)]) ⟨rfl, rfl, rfl, rfl, rfl, rfl, rfl, rfl, trivial⟩ ?_
          refine NX.then ?_
          refine Tr.region_f (fun i => Nat.beq i 2) ?_
          refine W.q rfl rfl rfl rfl (by decide) (Yd.mv rfl (.t rfl)) ?_
          refine W.q rfl rfl rfl rfl (by decide) (Yd.ldBs (pos := 0) (us := [_, _]) rfl rfl rfl rfl ON46 US46 SZ46 (.t rfl)) ?_
          refine W.s rfl rfl rfl rfl (Ef.mset MK46 (pos := 1) (k := ({ yes := y582.yes, no := y582.no } : Clause)) (v := true) rfl rfl Try.underlying85 (.t rfl) (.t rfl) .c) ?_
          rintro _ _ ⟨rfl, rfl⟩
          refine ⟨.inl rfl, ?_⟩
          refine W.cast (m' := m) (l' := hcells b584 [_, _] 46 :: hmap b12 ek46 ev4 _ :: hownT 86 2 encP v10 _ :: hownT 46 2 Clause.enc v7 _ :: l) rfl rfl ?_
          refine W.end ?_
          refine NX.sub (env' := [(1, _), (7, _), (8, _), (9, _), (33, _), (34, _), (35, _)]) ⟨rfl, rfl, rfl, rfl, rfl, rfl, rfl, trivial⟩ ?_
          refine NX.drop (l' := hmap b12 ek46 ev4 _ :: hownT 86 2 encP v10 _ :: hownT 46 2 Clause.enc v7 _ :: l) (.cons _ (.cons_cons _ (.cons_cons _ (.cons_cons _ (.refl _))))) ?_
          refine NX.block ?_
          refine NX.then ?_
          refine Tr.region_f (fun _ => false) ?_
          refine W.q rfl rfl rfl rfl (by decide) (Yd.add rfl (.t rfl) .c) ?_
          refine W.q rfl rfl rfl rfl (by decide) (Yd.mv rfl (.t rfl)) ?_
          refine W.end ?_
          refine NX.sub (env' := [(1, _), (7, _), (8, _), (9, _), (33, _), (34, _), (35, _)]) ⟨rfl, rfl, rfl, rfl, rfl, rfl, rfl, trivial⟩ ?_
          refine NX.sub (env' := [(1, _), (7, _), (8, _), (9, _), (33, _), (34, _), (35, _)]) ⟨rfl, rfl, rfl, rfl, rfl, rfl, rfl, trivial⟩ ?_
          have hw := w64_id (n := t_578 + 1) (by omega) (by omega)
          exact NX.again n581 (t_578 + 1, (mput l17 (({ yes := y582.yes, no := y582.no } : Clause)) true)) (Nat.lt_succ_self _) ⟨(by rw [hw] <;> rfl), rfl, (fr_dec hnt_578), (by omega), ((hnx580 _).symm.trans hr)⟩

def syllogistref_Fits (n_0 : Int) (s_1 : (BitVec 32)) : Option (Bool) :=
  some (((decide (n_0 ≥ (32 : Int))) || ((decide (n_0 ≥ (0 : Int))) && (decide (s_1 < (1#32 <<< ((BitVec.ofInt 64 n_0)).toNat))))))

set_option maxRecDepth 100000 in
set_option maxHeartbeats 4000000 in
theorem syllogistref_Fits_ok (w0 : World) (m : Snap) (l : List HI) (n_0 : Int) (s_1 : (BitVec 32)) (r : Bool) (hr : syllogistref_Fits n_0 s_1 = some r) (w : World) (hc : cX w0 ⟨m, l⟩ w) :
    Calls Try.prog 47 [.int .i64 n_0, .int .u32 (s_1.toNat : Int)].toArray w fun e w' => e = .returned (.bool r) ∧ cX w0 ⟨m, l⟩ w' := by
  unfold syllogistref_Fits at hr
  refine calls_of_Tr (N := 18) Try.func47 rfl hc rfl (Nat.le_of_ble_eq_true rfl) ?_
  refine Tr.seq ?_
  refine Tr.region_f (fun _ => false) ?_
  refine W.q rfl rfl rfl rfl (by decide) (Yd.as rfl .c) ?_
  refine W.end ?_
  refine NX.sub (env' := [(0, _), (1, _)]) ⟨rfl, rfl, trivial⟩ ?_
  refine NX.then ?_
  refine Tr.seq ?_
  refine Tr.region_f (fun _ => false) ?_
  refine W.q rfl rfl rfl rfl (by decide) (Yd.mv rfl (.t rfl)) ?_
  refine W.q rfl rfl rfl rfl (by decide) (Yd.geq rfl (.t rfl) .c) ?_
  refine W.q rfl rfl rfl rfl (by decide) (Yd.mv rfl (.t rfl)) ?_
  refine W.g rfl rfl rfl rfl rfl (.t rfl _) rfl (by decide) (fun hG => Yd.mv rfl (.t rfl)) ?_
  refine W.g rfl rfl rfl rfl rfl (.t rfl _) rfl (by decide) (fun hG => Yd.geq rfl (.g rfl hG) .c) ?_
  refine W.g rfl rfl rfl rfl rfl (.t rfl _) rfl (by decide) (fun hG => Yd.mv rfl (.g rfl hG)) ?_
  refine W.g rfl rfl rfl rfl rfl (.g rfl _) rfl (by decide) (fun hG => Yd.mv rfl (.t rfl)) ?_
  refine W.g rfl rfl rfl rfl rfl (.g rfl _) rfl (by decide) (fun hG => Yd.mv rfl (.t rfl)) ?_
  refine W.g rfl rfl rfl rfl rfl (.g rfl _) rfl (by decide) (fun hG => Yd.cvQ rfl US3 Try.underlying48 (.g rfl hG)) ?_
  refine W.g rfl rfl rfl rfl rfl (.g rfl _) rfl (by decide) (fun hG => Yd.shlU (a := 1#32) rfl .c (.g rfl hG) (Int.natCast_nonneg _)) ?_
  refine W.g rfl rfl rfl rfl rfl (.g rfl _) rfl (by decide) (fun hG => Yd.lssU (a := s_1) (b := (1#32 <<< ((BitVec.ofInt 64 n_0)).toNat)) rfl (.g rfl hG) (.g rfl hG)) ?_
  refine W.g rfl rfl rfl rfl rfl (.t rfl _) rfl (by decide) (fun hG => Yd.andG rfl (.g rfl hG) .c rfl rfl hG) ?_
  refine W.q rfl rfl rfl rfl (by decide) (Yd.or rfl (.t rfl) .c rfl rfl) ?_
  refine W.q rfl rfl rfl rfl (by decide) (Yd.as rfl (.t rfl)) ?_
  refine W.end ?_
  refine NX.sub (env' := [(4, _)]) ⟨rfl, trivial⟩ ?_
  refine NX.then ?_
  refine Tr.ret' ?_
  refine res1 rfl rfl ?_
  intro w hc
  cases hr
  exact ⟨rfl, hc⟩

def syllogistref_SatCheck_k3 : Option (Int) :=
  some ((0 : Int))

def syllogistref_SatCheck_b7 (n_0 : Int) (l_1 : List Clause) (t_6 : Int) (nx8 : Unit → Option (Int)) : Option (Int) :=
  (geti l_1 t_6).bind fun y10 =>
  (syllogistref_Fits n_0 y10.yes).bind fun r14 =>
  bif (!((!r14) == false) || (syllogistref_Fits n_0 y10.no).isSome) then
  (bif ((!r14) || (!(((syllogistref_Fits n_0 y10.no).getD false)))) then
  some ((4 : Int))
  else
  nx8 ()) else none

def syllogistref_SatCheck (n_0 : Int) (l_1 : List Clause) : Option (Int) :=
  (bif (((decide (n_0 < (1 : Int))) || (decide (n_0 > (6 : Int)))) || (decide ((l_1.length : Int) > (16 : Int)))) then
  some ((1 : Int))
  else
  forK (σ := Unit) (fun i s nx_ => syllogistref_SatCheck_b7 n_0 l_1 i nx_) (fun _ => syllogistref_SatCheck_k3) ((l_1.length : Int) - (0 : Int)).toNat (0 : Int) ())

set_option maxRecDepth 100000 in
set_option maxHeartbeats 4000000 in
theorem syllogistref_SatCheck_ok (w0 : World) (m : Snap) (l : List HI) (n_0 : Int) (ul_1 : Value) (l_1 : List Clause) (hl_1 : RS rClause m ul_1 l_1) (r : Int) (hr : syllogistref_SatCheck n_0 l_1 = some r) (w : World) (hc : cX w0 ⟨m, l⟩ w) :
    Calls Try.prog 22 [.int .i64 n_0, ul_1].toArray w fun e w' => e = .returned (.int .i64 r) ∧ cX w0 ⟨m, l⟩ w' := by
  unfold syllogistref_SatCheck at hr
  refine calls_of_Tr (N := 37) Try.func22 rfl hc rfl (Nat.le_of_ble_eq_true rfl) ?_
  refine Tr.seq ?_
  refine Tr.region_f (fun _ => false) ?_
  refine W.q rfl rfl rfl rfl (by decide) (Yd.as rfl .c) ?_
  refine W.end ?_
  refine NX.sub (env' := [(0, _), (1, _)]) ⟨rfl, rfl, trivial⟩ ?_
  refine NX.then ?_
  refine Tr.seq ?_
  refine Tr.seq ?_
  refine Tr.region_f (fun _ => false) ?_
  refine W.q rfl rfl rfl rfl (by decide) (Yd.mv rfl (.t rfl)) ?_
  refine W.q rfl rfl rfl rfl (by decide) (Yd.lss rfl (.t rfl) .c) ?_
  refine W.q rfl rfl rfl rfl (by decide) (Yd.mv rfl (.t rfl)) ?_
  refine W.g rfl rfl rfl rfl rfl (.t rfl _) rfl (by decide) (fun hG => Yd.mv rfl (.t rfl)) ?_
  refine W.g rfl rfl rfl rfl rfl (.t rfl _) rfl (by decide) (fun hG => Yd.gtr rfl (.g rfl hG) .c) ?_
  refine W.q rfl rfl rfl rfl (by decide) (Yd.or rfl (.t rfl) .c rfl rfl) ?_
  refine W.q rfl rfl rfl rfl (by decide) (Yd.mv rfl (.t rfl)) ?_
  refine W.g rfl rfl rfl rfl rfl (.t rfl _) rfl (by decide) (fun hG => Yd.mv rfl (.t rfl)) ?_
  refine W.g rfl rfl rfl rfl rfl (.t rfl _) rfl (by decide) (fun hG => Yd.lenR hl_1 rfl Try.underlying40 (.g rfl hG)) ?_
  refine W.g rfl rfl rfl rfl rfl (.t rfl _) rfl (by decide) (fun hG => Yd.gtr rfl (.g rfl hG) .c) ?_
  refine W.q rfl rfl rfl rfl (by decide) (Yd.or rfl (.t rfl) .c rfl rfl) ?_
  refine W.end ?_
  refine NX.sub (env' := [(0, _), (1, _), (17, _)]) ⟨rfl, rfl, rfl, trivial⟩ ?_
  refine NX.then ?_
  refine Tr.cond (.t rfl) (fun hb => ?_) (fun hb => ?_)
  · have hr := cond_t hb hr
    refine Tr.seq ?_
    refine Tr.region_f (fun _ => false) ?_
    refine W.q rfl rfl rfl rfl (by decide) (Yd.as rfl .c) ?_
    refine W.end ?_
    refine NX.sub (env' := [(4, _)]) ⟨rfl, trivial⟩ ?_
    refine NX.then ?_
    refine Tr.ret' (RT.then ?_)
    refine res1 rfl rfl ?_
    intro w hc
    cases hr
    exact ⟨rfl, hc⟩
  · have hr := cond_f hb hr
    refine Tr.skip' ?_
    refine NX.then ?_
    refine Tr.seq ?_
    refine Tr.seq ?_
    refine Tr.region_f (fun _ => false) ?_
    refine W.q rfl rfl rfl rfl (by decide) (Yd.mv rfl (.t rfl)) ?_
    refine W.q rfl rfl rfl rfl (by decide) (Yd.lenR hl_1 rfl Try.underlying40 (.t rfl)) ?_
    refine W.q rfl rfl rfl rfl (by decide) (Yd.mv rfl .c) ?_
    refine W.end ?_
    refine NX.sub (env' := [(0, _), (18, _), (19, _), (20, _)]) ⟨rfl, rfl, rfl, rfl, trivial⟩ ?_
    refine NX.then ?_
    refine Tr.join (S := fun env x => env = [] ∧ x = ⟨m, l⟩ ∧ syllogistref_SatCheck_k3 = some r) ?_ (fun hk4 => ?_)
    · rintro _ _ ⟨rfl, rfl, hr⟩
      unfold syllogistref_SatCheck_k3 at hr
      try dsimp only at hr
      refine NX.then ?_
      refine Tr.seq ?_
      refine Tr.region_f (fun _ => false) ?_
      refine W.q rfl rfl rfl rfl (by decide) (Yd.as rfl .c) ?_
      refine W.end ?_
      refine NX.sub (env' := [(4, _)]) ⟨rfl, trivial⟩ ?_
      refine NX.then ?_
      refine Tr.ret' ?_
      refine res1 rfl rfl ?_
      intro w hc
      cases hr
      exact ⟨rfl, hc⟩
    have hlen5 := (hl_1).2.1
    refine Tr.block ?_
    refine Tr.sub (env' := [(0, _), (18, _), (19, _), (20, _)]) ⟨rfl, rfl, rfl, rfl, trivial⟩ ?_
    refine Tr.loop (S := fun n (z : Int × Unit) env x => match z with | (t_6, _) => env = [(0, .int .i64 n_0), (18, ul_1), (19, .int .i64 ((l_1.length : Int))), (20, .int .i64 t_6)] ∧ x = ⟨m, l⟩ ∧ n = ((l_1.length : Int) - t_6).toNat ∧ 0 ≤ t_6 ∧ forK (σ := Unit) (fun i s nx_ => syllogistref_SatCheck_b7 n_0 l_1 i nx_) (fun _ => syllogistref_SatCheck_k3) n t_6 () = some r) _ ((0 : Int), ()) ⟨rfl, rfl, rfl, (by omega), hr⟩ ?_
    rintro n9 ⟨t_6, _⟩ env x ⟨rfl, rfl, hnt_6, h0t_6, hr⟩
    cases n9 with
    | zero =>
      simp only [forK] at hr
      refine Tr.seq ?_
      refine Tr.region_f (fun _ => false) ?_
      refine W.q rfl rfl rfl rfl (by decide) (Yd.lss rfl (.t rfl) (.t rfl)) ?_
      refine W.end ?_
      refine NX.sub (env' := [(0, _), (18, _), (19, _), (20, _), (21, _)]) ⟨rfl, rfl, rfl, rfl, rfl, trivial⟩ ?_
      refine NX.then ?_
      refine Tr.seq ?_
      refine Tr.cond (.t rfl) (fun hb => ?_) (fun hb => ?_)
      · exact absurd (hb.symm.trans (fr_end hnt_6)) (by decide)
      ·
        refine Tr.exit' (EX.then (EX.then (EX.block ?_)))
        refine NX.sub (env' := []) trivial ?_
        exact hk4 _ _ ⟨rfl, rfl, hr⟩
    | succ n9 =>
      obtain ⟨nx8, hnx8, hr⟩ := forK_succ hr
      try dsimp only at hr
      unfold syllogistref_SatCheck_b7 at hr
      try dsimp only at hr
      have hltt_6 := fr_bnd hnt_6
      refine Tr.seq ?_
      refine Tr.region_f (fun _ => false) ?_
      refine W.q rfl rfl rfl rfl (by decide) (Yd.lss rfl (.t rfl) (.t rfl)) ?_
      refine W.end ?_
      refine NX.sub (env' := [(0, _), (18, _), (19, _), (20, _), (21, _)]) ⟨rfl, rfl, rfl, rfl, rfl, trivial⟩ ?_
      refine NX.then ?_
      refine Tr.seq ?_
      refine Tr.cond (.t rfl) (fun hb => ?_) (fun hb => ?_)
      rotate_left
      · exact absurd (hb.symm.trans (fr_go hnt_6)) (by decide)
      ·
        refine Tr.skip' ?_
        refine NX.then ?_
        refine Tr.seq ?_
        refine Tr.block ?_
        refine Tr.seq ?_
        obtain ⟨y10, hy11, hr⟩ := bind_some hr
        refine Tr.region_f (fun i => Nat.beq i 2 || Nat.beq i 3) ?_
        refine W.q rfl rfl rfl rfl (by decide) (Yd.idxR hl_1 hy11 rfl Try.underlying40 SZ46 (.t rfl) (.t rfl)) ?_
        refine W.q rfl rfl rfl rfl (by decide) (Yd.ldFs (us := [_, _]) hl_1 (.refl _) hy11 rfl rfl ON46 US46 SZ46 (.t rfl)) ?_
        refine W.e rfl rfl rfl rfl (by decide) (Ef.al rfl ZR46 rfl) ?_
        rintro _ _ ⟨b12, rfl, rfl⟩
        refine ⟨.inl rfl, ?_⟩
        refine W.cast (m' := m) (l' := hcells b12 [_, _] 46 :: l) rfl rfl ?_
        refine W.s rfl rfl rfl rfl (Ef.stB (pos := 0) (us := [_, _]) (cs' := [_, _]) rfl rfl (.t rfl) (.t rfl) SZ46 rfl rfl rfl (Nat.le_of_ble_eq_true rfl) rfl) ?_
        rintro _ _ ⟨rfl, rfl⟩
        refine ⟨.inl rfl, ?_⟩
        refine W.cast (m' := m) (l' := hcells b12 [_, _] 46 :: l) rfl rfl ?_
        refine W.end ?_
        refine NX.sub (env' := [(0, _), (18, _), (19, _), (20, _), (6, _)]) ⟨rfl, rfl, rfl, rfl, rfl, trivial⟩ ?_
        refine NX.then ?_
        refine Tr.seq ?_
        obtain ⟨r14, hr15, hr⟩ := bind_some hr
        obtain ⟨ha16, hr⟩ := guard_some hr
        refine Tr.region_f (fun _ => false) ?_
        refine W.q rfl rfl rfl rfl (by decide) (Yd.mv rfl (.t rfl)) ?_
        refine W.q rfl rfl rfl rfl (by decide) (Yd.fldB rfl Try.underlying46 rfl SZ41 rfl (.t rfl)) ?_
        refine W.q rfl rfl rfl rfl (by decide) (Yd.ldB (pos := 0) rfl rfl rfl ON41 (.t rfl)) ?_
        refine W.q rfl rfl rfl rfl (by decide) (Yd.call (v := .bool r14) rfl Try.func47 rfl rfl (.cons (.t rfl) (.cons (.t rfl) .nil)) (fun x' hx w hw => syllogistref_Fits_ok w0 x'.m x'.l n_0 y10.yes _ hr15 w hw)) ?_
        refine W.q rfl rfl rfl rfl (by decide) (Yd.not rfl (.t rfl)) ?_
        refine W.q rfl rfl rfl rfl (by decide) (Yd.mv rfl (.t rfl)) ?_
        refine W.g rfl rfl rfl rfl rfl (.t rfl _) rfl (by decide) (fun hG => Yd.mv rfl (.t rfl)) ?_
        refine W.g rfl rfl rfl rfl rfl (.t rfl _) rfl (by decide) (fun hG => Yd.fldB rfl Try.underlying46 rfl SZ41 rfl (.t rfl)) ?_
        refine W.g rfl rfl rfl rfl rfl (.t rfl _) rfl (by decide) (fun hG => Yd.ldB (pos := 0) rfl rfl rfl ON41 (.g rfl hG)) ?_
        refine W.g rfl rfl rfl rfl rfl (.t rfl _) rfl (by decide) (fun hG => Yd.call (v := .bool ((((syllogistref_Fits n_0 y10.no).getD false)))) rfl Try.func47 rfl rfl (.cons (.g rfl hG) (.cons (.g rfl hG) .nil)) (fun x' hx w hw => syllogistref_Fits_ok w0 x'.m x'.l n_0 y10.no _ (gd_get (d := false) ha16 hG) w hw)) ?_
        refine W.g rfl rfl rfl rfl rfl (.t rfl _) rfl (by decide) (fun hG => Yd.not rfl (.g rfl hG)) ?_
        refine W.q rfl rfl rfl rfl (by decide) (Yd.or rfl (.t rfl) .c rfl rfl) ?_
        refine W.end ?_
        refine NX.sub (env' := [(0, _), (18, _), (19, _), (20, _), (35, _)]) ⟨rfl, rfl, rfl, rfl, rfl, trivial⟩ ?_
        refine NX.drop (l' := l) (.cons _ (.refl _)) ?_
        refine NX.then ?_
        refine Tr.cond (.t rfl) (fun hb => ?_) (fun hb => ?_)
        · have hr := cond_t hb hr
          refine Tr.seq ?_
          refine Tr.region_f (fun _ => false) ?_
          refine W.q rfl rfl rfl rfl (by decide) (Yd.as rfl .c) ?_
          refine W.end ?_
          refine NX.sub (env' := [(4, _)]) ⟨rfl, trivial⟩ ?_
          refine NX.then ?_
          refine Tr.ret' (RT.block (RT.then (RT.then (RT.block (RT.then ?_)))))
          refine res1 rfl rfl ?_
          intro w hc
          cases hr
          exact ⟨rfl, hc⟩
        · have hr := cond_f hb hr
          refine Tr.skip' ?_
          refine NX.block ?_
          refine NX.then ?_
          refine Tr.region_f (fun _ => false) ?_
          refine W.q rfl rfl rfl rfl (by decide) (Yd.add rfl (.t rfl) .c) ?_
          refine W.q rfl rfl rfl rfl (by decide) (Yd.mv rfl (.t rfl)) ?_
          refine W.end ?_
          refine NX.sub (env' := [(0, _), (18, _), (19, _), (20, _)]) ⟨rfl, rfl, rfl, rfl, trivial⟩ ?_
          refine NX.sub (env' := [(0, _), (18, _), (19, _), (20, _)]) ⟨rfl, rfl, rfl, rfl, trivial⟩ ?_
          have hw := w64_id (n := t_6 + 1) (by omega) (by omega)
          exact NX.again n9 (t_6 + 1, ()) (Nat.lt_succ_self _) ⟨(by rw [hw] <;> rfl), rfl, (fr_dec hnt_6), (by omega), ((hnx8 _).symm.trans hr)⟩

def syllogistref_In (a_0 : (BitVec 32)) (b_1 : (BitVec 32)) : Option (Bool) :=
  some (((a_0 ||| b_1) == b_1))

set_option maxRecDepth 100000 in
set_option maxHeartbeats 4000000 in
theorem syllogistref_In_ok (w0 : World) (m : Snap) (l : List HI) (a_0 : (BitVec 32)) (b_1 : (BitVec 32)) (r : Bool) (hr : syllogistref_In a_0 b_1 = some r) (w : World) (hc : cX w0 ⟨m, l⟩ w) :
    Calls Try.prog 48 [.int .u32 (a_0.toNat : Int), .int .u32 (b_1.toNat : Int)].toArray w fun e w' => e = .returned (.bool r) ∧ cX w0 ⟨m, l⟩ w' := by
  unfold syllogistref_In at hr
  refine calls_of_Tr (N := 10) Try.func48 rfl hc rfl (Nat.le_of_ble_eq_true rfl) ?_
  refine Tr.seq ?_
  refine Tr.region_f (fun _ => false) ?_
  refine W.q rfl rfl rfl rfl (by decide) (Yd.as rfl .c) ?_
  refine W.end ?_
  refine NX.sub (env' := [(0, _), (1, _)]) ⟨rfl, rfl, trivial⟩ ?_
  refine NX.then ?_
  refine Tr.seq ?_
  refine Tr.region_f (fun _ => false) ?_
  refine W.q rfl rfl rfl rfl (by decide) (Yd.mv rfl (.t rfl)) ?_
  refine W.q rfl rfl rfl rfl (by decide) (Yd.mv rfl (.t rfl)) ?_
  refine W.q rfl rfl rfl rfl (by decide) (Yd.orU (a := a_0) (b := b_1) rfl (.t rfl) (.t rfl)) ?_
  refine W.q rfl rfl rfl rfl (by decide) (Yd.mv rfl (.t rfl)) ?_
  refine W.q rfl rfl rfl rfl (by decide) (Yd.eqlU (a := (a_0 ||| b_1)) (b := b_1) rfl (.t rfl) (.t rfl)) ?_
  refine W.q rfl rfl rfl rfl (by decide) (Yd.as rfl (.t rfl)) ?_
  refine W.end ?_
  refine NX.sub (env' := [(4, _)]) ⟨rfl, trivial⟩ ?_
  refine NX.then ?_
  refine Tr.ret' ?_
  refine res1 rfl rfl ?_
  intro w hc
  cases hr
  exact ⟨rfl, hc⟩

def syllogistref_True_k3 : Option (Bool) :=
  some true

def syllogistref_True_b7 (l_0 : List Clause) (s_1 : (BitVec 32)) (t_6 : Int) (nx8 : Unit → Option (Bool)) : Option (Bool) :=
  (geti l_0 t_6).bind fun y10 =>
  bif (!(((y10.yes &&& s_1) == 0#32) == true) || (syllogistref_In y10.no s_1).isSome) then
  (bif (((y10.yes &&& s_1) == 0#32) && (((syllogistref_In y10.no s_1).getD false))) then
  some false
  else
  nx8 ()) else none

def syllogistref_True (l_0 : List Clause) (s_1 : (BitVec 32)) : Option (Bool) :=
  forK (σ := Unit) (fun i s nx_ => syllogistref_True_b7 l_0 s_1 i nx_) (fun _ => syllogistref_True_k3) ((l_0.length : Int) - (0 : Int)).toNat (0 : Int) ()

set_option maxRecDepth 100000 in
set_option maxHeartbeats 4000000 in
theorem syllogistref_True_ok (w0 : World) (m : Snap) (l : List HI) (ul_0 : Value) (l_0 : List Clause) (hl_0 : RS rClause m ul_0 l_0) (s_1 : (BitVec 32)) (r : Bool) (hr : syllogistref_True l_0 s_1 = some r) (w : World) (hc : cX w0 ⟨m, l⟩ w) :
    Calls Try.prog 24 [ul_0, .int .u32 (s_1.toNat : Int)].toArray w fun e w' => e = .returned (.bool r) ∧ cX w0 ⟨m, l⟩ w' := by
  unfold syllogistref_True at hr
  refine calls_of_Tr (N := 25) Try.func24 rfl hc rfl (Nat.le_of_ble_eq_true rfl) ?_
  refine Tr.seq ?_
  refine Tr.region_f (fun _ => false) ?_
  refine W.q rfl rfl rfl rfl (by decide) (Yd.as rfl .c) ?_
  refine W.end ?_
  refine NX.sub (env' := [(0, _), (1, _)]) ⟨rfl, rfl, trivial⟩ ?_
  refine NX.then ?_
  refine Tr.seq ?_
  refine Tr.seq ?_
  refine Tr.region_f (fun _ => false) ?_
  refine W.q rfl rfl rfl rfl (by decide) (Yd.mv rfl (.t rfl)) ?_
  refine W.q rfl rfl rfl rfl (by decide) (Yd.lenR hl_0 rfl Try.underlying40 (.t rfl)) ?_
  refine W.q rfl rfl rfl rfl (by decide) (Yd.mv rfl .c) ?_
  refine W.end ?_
  refine NX.sub (env' := [(1, _), (7, _), (8, _), (9, _)]) ⟨rfl, rfl, rfl, rfl, trivial⟩ ?_
  refine NX.then ?_
  refine Tr.join (S := fun env x => env = [] ∧ x = ⟨m, l⟩ ∧ syllogistref_True_k3 = some r) ?_ (fun hk4 => ?_)
  · rintro _ _ ⟨rfl, rfl, hr⟩
    unfold syllogistref_True_k3 at hr
    try dsimp only at hr
    refine NX.then ?_
    refine Tr.seq ?_
    refine Tr.region_f (fun _ => false) ?_
    refine W.q rfl rfl rfl rfl (by decide) (Yd.as rfl .c) ?_
    refine W.end ?_
    refine NX.sub (env' := [(4, _)]) ⟨rfl, trivial⟩ ?_
    refine NX.then ?_
    refine Tr.ret' ?_
    refine res1 rfl rfl ?_
    intro w hc
    cases hr
    exact ⟨rfl, hc⟩
  have hlen5 := (hl_0).2.1
  refine Tr.block ?_
  refine Tr.sub (env' := [(1, _), (7, _), (8, _), (9, _)]) ⟨rfl, rfl, rfl, rfl, trivial⟩ ?_
  refine Tr.loop (S := fun n (z : Int × Unit) env x => match z with | (t_6, _) => env = [(1, .int .u32 (s_1.toNat : Int)), (7, ul_0), (8, .int .i64 ((l_0.length : Int))), (9, .int .i64 t_6)] ∧ x = ⟨m, l⟩ ∧ n = ((l_0.length : Int) - t_6).toNat ∧ 0 ≤ t_6 ∧ forK (σ := Unit) (fun i s nx_ => syllogistref_True_b7 l_0 s_1 i nx_) (fun _ => syllogistref_True_k3) n t_6 () = some r) _ ((0 : Int), ()) ⟨rfl, rfl, rfl, (by omega), hr⟩ ?_
  rintro n9 ⟨t_6, _⟩ env x ⟨rfl, rfl, hnt_6, h0t_6, hr⟩
  cases n9 with
  | zero =>
    simp only [forK] at hr
    refine Tr.seq ?_
    refine Tr.region_f (fun _ => false) ?_
    refine W.q rfl rfl rfl rfl (by decide) (Yd.lss rfl (.t rfl) (.t rfl)) ?_
    refine W.end ?_
    refine NX.sub (env' := [(1, _), (7, _), (8, _), (9, _), (10, _)]) ⟨rfl, rfl, rfl, rfl, rfl, trivial⟩ ?_
    refine NX.then ?_
    refine Tr.seq ?_
    refine Tr.cond (.t rfl) (fun hb => ?_) (fun hb => ?_)
    · exact absurd (hb.symm.trans (fr_end hnt_6)) (by decide)
    ·
      refine Tr.exit' (EX.then (EX.then (EX.block ?_)))
      refine NX.sub (env' := []) trivial ?_
      exact hk4 _ _ ⟨rfl, rfl, hr⟩
  | succ n9 =>
    obtain ⟨nx8, hnx8, hr⟩ := forK_succ hr
    try dsimp only at hr
    unfold syllogistref_True_b7 at hr
    try dsimp only at hr
    have hltt_6 := fr_bnd hnt_6
    refine Tr.seq ?_
    refine Tr.region_f (fun _ => false) ?_
    refine W.q rfl rfl rfl rfl (by decide) (Yd.lss rfl (.t rfl) (.t rfl)) ?_
    refine W.end ?_
    refine NX.sub (env' := [(1, _), (7, _), (8, _), (9, _), (10, _)]) ⟨rfl, rfl, rfl, rfl, rfl, trivial⟩ ?_
    refine NX.then ?_
    refine Tr.seq ?_
    refine Tr.cond (.t rfl) (fun hb => ?_) (fun hb => ?_)
    rotate_left
    · exact absurd (hb.symm.trans (fr_go hnt_6)) (by decide)
    ·
      refine Tr.skip' ?_
      refine NX.then ?_
      refine Tr.seq ?_
      refine Tr.block ?_
      refine Tr.seq ?_
      obtain ⟨y10, hy11, hr⟩ := bind_some hr
      refine Tr.region_f (fun i => Nat.beq i 2 || Nat.beq i 3) ?_
      refine W.q rfl rfl rfl rfl (by decide) (Yd.idxR hl_0 hy11 rfl Try.underlying40 SZ46 (.t rfl) (.t rfl)) ?_
      refine W.q rfl rfl rfl rfl (by decide) (Yd.ldFs (us := [_, _]) hl_0 (.refl _) hy11 rfl rfl ON46 US46 SZ46 (.t rfl)) ?_
      refine W.e rfl rfl rfl rfl (by decide) (Ef.al rfl ZR46 rfl) ?_
      rintro _ _ ⟨b12, rfl, rfl⟩
      refine ⟨.inl rfl, ?_⟩
      refine W.cast (m' := m) (l' := hcells b12 [_, _] 46 :: l) rfl rfl ?_
      refine W.s rfl rfl rfl rfl (Ef.stB (pos := 0) (us := [_, _]) (cs' := [_, _]) rfl rfl (.t rfl) (.t rfl) SZ46 rfl rfl rfl (Nat.le_of_ble_eq_true rfl) rfl) ?_
      rintro _ _ ⟨rfl, rfl⟩
      refine ⟨.inl rfl, ?_⟩
      refine W.cast (m' := m) (l' := hcells b12 [_, _] 46 :: l) rfl rfl ?_
      refine W.end ?_
      refine NX.sub (env' := [(1, _), (7, _), (8, _), (9, _), (6, _)]) ⟨rfl, rfl, rfl, rfl, rfl, trivial⟩ ?_
      refine NX.then ?_
      refine Tr.seq ?_
      obtain ⟨ha14, hr⟩ := guard_some hr
      refine Tr.region_f (fun _ => false) ?_
      refine W.q rfl rfl rfl rfl (by decide) (Yd.fldB rfl Try.underlying46 rfl SZ41 rfl (.t rfl)) ?_
      refine W.q rfl rfl rfl rfl (by decide) (Yd.ldB (pos := 0) rfl rfl rfl ON41 (.t rfl)) ?_
      refine W.q rfl rfl rfl rfl (by decide) (Yd.mv rfl (.t rfl)) ?_
      refine W.q rfl rfl rfl rfl (by decide) (Yd.andU (a := y10.yes) (b := s_1) rfl (.t rfl) (.t rfl)) ?_
      refine W.q rfl rfl rfl rfl (by decide) (Yd.eqlU (a := (y10.yes &&& s_1)) (b := 0#32) rfl (.t rfl) .c) ?_
      refine W.q rfl rfl rfl rfl (by decide) (Yd.mv rfl (.t rfl)) ?_
      refine W.g rfl rfl rfl rfl rfl (.t rfl _) rfl (by decide) (fun hG => Yd.fldB rfl Try.underlying46 rfl SZ41 rfl (.t rfl)) ?_
      refine W.g rfl rfl rfl rfl rfl (.t rfl _) rfl (by decide) (fun hG => Yd.ldB (pos := 0) rfl rfl rfl ON41 (.g rfl hG)) ?_
      refine W.g rfl rfl rfl rfl rfl (.t rfl _) rfl (by decide) (fun hG => Yd.mv rfl (.t rfl)) ?_
      refine W.g rfl rfl rfl rfl rfl (.t rfl _) rfl (by decide) (fun hG => Yd.call (v := .bool ((((syllogistref_In y10.no s_1).getD false)))) rfl Try.func48 rfl rfl (.cons (.g rfl hG) (.cons (.g rfl hG) .nil)) (fun x' hx w hw => syllogistref_In_ok w0 x'.m x'.l y10.no s_1 _ (gd_get (d := false) ha14 hG) w hw)) ?_
      refine W.q rfl rfl rfl rfl (by decide) (Yd.and rfl (.t rfl) .c rfl rfl) ?_
      refine W.end ?_
      refine NX.sub (env' := [(1, _), (7, _), (8, _), (9, _), (23, _)]) ⟨rfl, rfl, rfl, rfl, rfl, trivial⟩ ?_
      refine NX.drop (l' := l) (.cons _ (.refl _)) ?_
      refine NX.then ?_
      refine Tr.cond (.t rfl) (fun hb => ?_) (fun hb => ?_)
      · have hr := cond_t hb hr
        refine Tr.seq ?_
        refine Tr.region_f (fun _ => false) ?_
        refine W.q rfl rfl rfl rfl (by decide) (Yd.as rfl .c) ?_
        refine W.end ?_
        refine NX.sub (env' := [(4, _)]) ⟨rfl, trivial⟩ ?_
        refine NX.then ?_
        refine Tr.ret' (RT.block (RT.then (RT.then (RT.block (RT.then ?_)))))
        refine res1 rfl rfl ?_
        intro w hc
        cases hr
        exact ⟨rfl, hc⟩
      · have hr := cond_f hb hr
        refine Tr.skip' ?_
        refine NX.block ?_
        refine NX.then ?_
        refine Tr.region_f (fun _ => false) ?_
        refine W.q rfl rfl rfl rfl (by decide) (Yd.add rfl (.t rfl) .c) ?_
        refine W.q rfl rfl rfl rfl (by decide) (Yd.mv rfl (.t rfl)) ?_
        refine W.end ?_
        refine NX.sub (env' := [(1, _), (7, _), (8, _), (9, _)]) ⟨rfl, rfl, rfl, rfl, trivial⟩ ?_
        refine NX.sub (env' := [(1, _), (7, _), (8, _), (9, _)]) ⟨rfl, rfl, rfl, rfl, trivial⟩ ?_
        have hw := w64_id (n := t_6 + 1) (by omega) (by omega)
        exact NX.again n9 (t_6 + 1, ()) (Nat.lt_succ_self _) ⟨(by rw [hw] <;> rfl), rfl, (fr_dec hnt_6), (by omega), ((hnx8 _).symm.trans hr)⟩

def syllogistref_First_k3 : Option ((BitVec 32) × Bool) :=
  some ((0#32, false))

def syllogistref_First_b6 (l_1 : List Clause) (s_5 : BitVec 32) (nx7 : Unit → Option ((BitVec 32) × Bool)) : Option ((BitVec 32) × Bool) :=
  (syllogistref_True l_1 s_5).bind fun r9 =>
  (bif r9 then
  some ((s_5, true))
  else
  nx7 ())

def syllogistref_First (n_0 : Int) (l_1 : List Clause) : Option ((BitVec 32) × Bool) :=
  forK (σ := Unit) (fun i s nx_ => syllogistref_First_b6 l_1 i nx_) (fun _ => syllogistref_First_k3) (((1#32 <<< ((BitVec.ofInt 64 n_0)).toNat)).toNat - (0#32).toNat) 0#32 ()

set_option maxRecDepth 100000 in
set_option maxHeartbeats 4000000 in
theorem syllogistref_First_ok (w0 : World) (m : Snap) (l : List HI) (n_0 : Int) (ul_1 : Value) (l_1 : List Clause) (hl_1 : RS rClause m ul_1 l_1) (r : (BitVec 32) × Bool) (hr : syllogistref_First n_0 l_1 = some r) (w : World) (hc : cX w0 ⟨m, l⟩ w) :
    Calls Try.prog 26 [.int .i64 n_0, ul_1].toArray w fun e w' => e = .returned (.tuple #[.int .u32 (r.1.toNat : Int), .bool r.2]) ∧ cX w0 ⟨m, l⟩ w' := by
  unfold syllogistref_First at hr
  refine calls_of_Tr (N := 18) Try.func26 rfl hc rfl (Nat.le_of_ble_eq_true rfl) ?_
  refine Tr.seq ?_
  refine Tr.region_f (fun _ => false) ?_
  refine W.q rfl rfl rfl rfl (by decide) (Yd.as rfl .c) ?_
  refine W.q rfl rfl rfl rfl (by decide) (Yd.as rfl .c) ?_
  refine W.end ?_
  refine NX.sub (env' := [(0, _), (1, _)]) ⟨rfl, rfl, trivial⟩ ?_
  refine NX.then ?_
  refine Tr.seq ?_
  refine Tr.seq ?_
  refine Tr.region_f (fun _ => false) ?_
  refine W.q rfl rfl rfl rfl (by decide) (Yd.as rfl .c) ?_
  refine W.end ?_
  refine NX.sub (env' := [(0, _), (1, _), (6, _)]) ⟨rfl, rfl, rfl, trivial⟩ ?_
  refine NX.then ?_
  refine Tr.join (S := fun env x => env = [] ∧ x = ⟨m, l⟩ ∧ syllogistref_First_k3 = some r) ?_ (fun hk4 => ?_)
  · rintro _ _ ⟨rfl, rfl, hr⟩
    unfold syllogistref_First_k3 at hr
    try dsimp only at hr
    refine NX.then ?_
    refine Tr.seq ?_
    refine Tr.region_f (fun _ => false) ?_
    refine W.q rfl rfl rfl rfl (by decide) (Yd.as rfl .c) ?_
    refine W.q rfl rfl rfl rfl (by decide) (Yd.as rfl .c) ?_
    refine W.end ?_
    refine NX.sub (env' := [(4, _), (5, _)]) ⟨rfl, rfl, trivial⟩ ?_
    refine NX.then ?_
    refine Tr.ret' ?_
    refine res2 rfl rfl rfl ?_
    intro w hc
    cases hr
    exact ⟨rfl, hc⟩
  refine Tr.block ?_
  refine Tr.sub (env' := [(0, _), (1, _), (6, _)]) ⟨rfl, rfl, rfl, trivial⟩ ?_
  refine Tr.loop (S := fun n (z : BitVec 32 × Unit) env x => match z with | (s_5, _) => env = [(0, .int .i64 n_0), (1, ul_1), (6, .int .u32 (s_5.toNat : Int))] ∧ x = ⟨m, l⟩ ∧ n = ((1#32 <<< ((BitVec.ofInt 64 n_0)).toNat)).toNat - s_5.toNat ∧ forK (σ := Unit) (fun i s nx_ => syllogistref_First_b6 l_1 i nx_) (fun _ => syllogistref_First_k3) n s_5 () = some r) _ (0#32, ()) ⟨rfl, rfl, rfl, hr⟩ ?_
  rintro n8 ⟨s_5, _⟩ env x ⟨rfl, rfl, hns_5, hr⟩
  cases n8 with
  | zero =>
    simp only [forK] at hr
    refine Tr.seq ?_
    refine Tr.seq ?_
    refine Tr.region_f (fun _ => false) ?_
    refine W.q rfl rfl rfl rfl (by decide) (Yd.mv rfl (.t rfl)) ?_
    refine W.q rfl rfl rfl rfl (by decide) (Yd.mv rfl (.t rfl)) ?_
    refine W.q rfl rfl rfl rfl (by decide) (Yd.cvQ rfl US3 Try.underlying48 (.t rfl)) ?_
    refine W.q rfl rfl rfl rfl (by decide) (Yd.shlU (a := 1#32) rfl .c (.t rfl) (Int.natCast_nonneg _)) ?_
    refine W.q rfl rfl rfl rfl (by decide) (Yd.lssU (a := s_5) (b := (1#32 <<< ((BitVec.ofInt 64 n_0)).toNat)) rfl (.t rfl) (.t rfl)) ?_
    refine W.end ?_
    refine NX.sub (env' := [(0, _), (1, _), (6, _), (11, _)]) ⟨rfl, rfl, rfl, rfl, trivial⟩ ?_
    refine NX.then ?_
    refine Tr.cond (.t rfl) (fun hb => ?_) (fun hb => ?_)
    · exact absurd (hb.symm.trans (fu_end hns_5)) (by decide)
    ·
      refine Tr.exit' (EX.then (EX.then (EX.block ?_)))
      refine NX.sub (env' := []) trivial ?_
      exact hk4 _ _ ⟨rfl, rfl, hr⟩
  | succ n8 =>
    obtain ⟨nx7, hnx7, hr⟩ := forK_succ hr
    try dsimp only at hr
    unfold syllogistref_First_b6 at hr
    try dsimp only at hr
    refine Tr.seq ?_
    refine Tr.seq ?_
    refine Tr.region_f (fun _ => false) ?_
    refine W.q rfl rfl rfl rfl (by decide) (Yd.mv rfl (.t rfl)) ?_
    refine W.q rfl rfl rfl rfl (by decide) (Yd.mv rfl (.t rfl)) ?_
    refine W.q rfl rfl rfl rfl (by decide) (Yd.cvQ rfl US3 Try.underlying48 (.t rfl)) ?_
    refine W.q rfl rfl rfl rfl (by decide) (Yd.shlU (a := 1#32) rfl .c (.t rfl) (Int.natCast_nonneg _)) ?_
    refine W.q rfl rfl rfl rfl (by decide) (Yd.lssU (a := s_5) (b := (1#32 <<< ((BitVec.ofInt 64 n_0)).toNat)) rfl (.t rfl) (.t rfl)) ?_
    refine W.end ?_
    refine NX.sub (env' := [(0, _), (1, _), (6, _), (11, _)]) ⟨rfl, rfl, rfl, rfl, trivial⟩ ?_
    refine NX.then ?_
    refine Tr.cond (.t rfl) (fun hb => ?_) (fun hb => ?_)
    rotate_left
    · exact absurd (hb.symm.trans (fu_go hns_5)) (by decide)
    ·
      refine Tr.skip' ?_
      refine NX.then ?_
      refine Tr.seq ?_
      refine Tr.block ?_
      refine Tr.seq ?_
      obtain ⟨r9, hr10, hr⟩ := bind_some hr
      refine Tr.region_f (fun _ => false) ?_
      refine W.q rfl rfl rfl rfl (by decide) (Yd.mv rfl (.t rfl)) ?_
      refine W.q rfl rfl rfl rfl (by decide) (Yd.mv rfl (.t rfl)) ?_
      refine W.q rfl rfl rfl rfl (by decide) (Yd.call (v := .bool r9) rfl Try.func24 rfl rfl (.cons (.t rfl) (.cons (.t rfl) .nil)) (fun x' hx w hw => syllogistref_True_ok w0 x'.m x'.l _ _ (hl_1.mono hx.1) s_5 _ hr10 w hw)) ?_
      refine W.end ?_
      refine NX.sub (env' := [(0, _), (1, _), (6, _), (16, _)]) ⟨rfl, rfl, rfl, rfl, trivial⟩ ?_
      refine NX.then ?_
      refine Tr.cond (.t rfl) (fun hb => ?_) (fun hb => ?_)
      · have hr := cond_t hb hr
        refine Tr.seq ?_
        refine Tr.region_f (fun _ => false) ?_
        refine W.q rfl rfl rfl rfl (by decide) (Yd.mv rfl (.t rfl)) ?_
        refine W.q rfl rfl rfl rfl (by decide) (Yd.as rfl (.t rfl)) ?_
        refine W.q rfl rfl rfl rfl (by decide) (Yd.as rfl .c) ?_
        refine W.end ?_
        refine NX.sub (env' := [(4, _), (5, _)]) ⟨rfl, rfl, trivial⟩ ?_
        refine NX.then ?_
        refine Tr.ret' (RT.block (RT.then (RT.then (RT.block (RT.then ?_)))))
        refine res2 rfl rfl rfl ?_
        intro w hc
        cases hr
        exact ⟨rfl, hc⟩
      · have hr := cond_f hb hr
        refine Tr.skip' ?_
        refine NX.block ?_
        refine NX.then ?_
        refine Tr.region_f (fun _ => false) ?_
        refine W.q rfl rfl rfl rfl (by decide) (Yd.mv rfl (.t rfl)) ?_
        refine W.q rfl rfl rfl rfl (by decide) (Yd.addU (a := s_5) (b := 1#32) rfl (.t rfl) .c) ?_
        refine W.q rfl rfl rfl rfl (by decide) (Yd.as rfl (.t rfl)) ?_
        refine W.end ?_
        refine NX.sub (env' := [(0, _), (1, _), (6, _)]) ⟨rfl, rfl, rfl, trivial⟩ ?_
        refine NX.sub (env' := [(0, _), (1, _), (6, _)]) ⟨rfl, rfl, rfl, trivial⟩ ?_
        exact NX.again n8 (s_5 + 1, ()) (Nat.lt_succ_self _) ⟨rfl, rfl, (fu_dec hns_5), ((hnx7 _).symm.trans hr)⟩

def syllogistref_Bit (w_0 : (BitVec 32)) (i_1 : Int) : Option (Bool) :=
  some ((((decide (i_1 ≥ (0 : Int))) && (decide (i_1 < (32 : Int)))) && ((w_0 &&& (1#32 <<< ((BitVec.ofInt 64 i_1)).toNat)) != 0#32)))

set_option maxRecDepth 100000 in
set_option maxHeartbeats 4000000 in
theorem syllogistref_Bit_ok (w0 : World) (m : Snap) (l : List HI) (w_0 : (BitVec 32)) (i_1 : Int) (r : Bool) (hr : syllogistref_Bit w_0 i_1 = some r) (w : World) (hc : cX w0 ⟨m, l⟩ w) :
    Calls Try.prog 33 [.int .u32 (w_0.toNat : Int), .int .i64 i_1].toArray w fun e w' => e = .returned (.bool r) ∧ cX w0 ⟨m, l⟩ w' := by
  unfold syllogistref_Bit at hr
  refine calls_of_Tr (N := 19) Try.func33 rfl hc rfl (Nat.le_of_ble_eq_true rfl) ?_
  refine Tr.seq ?_
  refine Tr.region_f (fun _ => false) ?_
  refine W.q rfl rfl rfl rfl (by decide) (Yd.as rfl .c) ?_
  refine W.end ?_
  refine NX.sub (env' := [(0, _), (1, _)]) ⟨rfl, rfl, trivial⟩ ?_
  refine NX.then ?_
  refine Tr.seq ?_
  refine Tr.region_f (fun _ => false) ?_
  refine W.q rfl rfl rfl rfl (by decide) (Yd.mv rfl (.t rfl)) ?_
  refine W.q rfl rfl rfl rfl (by decide) (Yd.geq rfl (.t rfl) .c) ?_
  refine W.q rfl rfl rfl rfl (by decide) (Yd.mv rfl (.t rfl)) ?_
  refine W.g rfl rfl rfl rfl rfl (.t rfl _) rfl (by decide) (fun hG => Yd.mv rfl (.t rfl)) ?_
  refine W.g rfl rfl rfl rfl rfl (.t rfl _) rfl (by decide) (fun hG => Yd.lss rfl (.g rfl hG) .c) ?_
  refine W.q rfl rfl rfl rfl (by decide) (Yd.and rfl (.t rfl) .c rfl rfl) ?_
  refine W.q rfl rfl rfl rfl (by decide) (Yd.mv rfl (.t rfl)) ?_
  refine W.g rfl rfl rfl rfl rfl (.t rfl _) rfl (by decide) (fun hG => Yd.mv rfl (.t rfl)) ?_
  refine W.g rfl rfl rfl rfl rfl (.t rfl _) rfl (by decide) (fun hG => Yd.mv rfl (.t rfl)) ?_
  refine W.g rfl rfl rfl rfl rfl (.t rfl _) rfl (by decide) (fun hG => Yd.cvQ rfl US3 Try.underlying48 (.g rfl hG)) ?_
  refine W.g rfl rfl rfl rfl rfl (.t rfl _) rfl (by decide) (fun hG => Yd.shlU (a := 1#32) rfl .c (.g rfl hG) (Int.natCast_nonneg _)) ?_
  refine W.g rfl rfl rfl rfl rfl (.t rfl _) rfl (by decide) (fun hG => Yd.andU (a := w_0) (b := (1#32 <<< ((BitVec.ofInt 64 i_1)).toNat)) rfl (.g rfl hG) (.g rfl hG)) ?_
  refine W.g rfl rfl rfl rfl rfl (.t rfl _) rfl (by decide) (fun hG => Yd.neqU (a := (w_0 &&& (1#32 <<< ((BitVec.ofInt 64 i_1)).toNat))) (b := 0#32) rfl (.g rfl hG) .c) ?_
  refine W.q rfl rfl rfl rfl (by decide) (Yd.and rfl (.t rfl) .c rfl rfl) ?_
  refine W.q rfl rfl rfl rfl (by decide) (Yd.as rfl (.t rfl)) ?_
  refine W.end ?_
  refine NX.sub (env' := [(4, _)]) ⟨rfl, trivial⟩ ?_
  refine NX.then ?_
  refine Tr.ret' ?_
  refine res1 rfl rfl ?_
  intro w hc
  cases hr
  exact ⟨rfl, hc⟩

def syllogistref_Resolve_k9 : Option (Clause × Bool) :=
  some ((({ yes := (0#32), no := (0#32) } : Clause), false))

def syllogistref_Resolve_b12 (a_0 : Clause) (b_1 : Clause) (v_11 : Int) (nx13 : Unit → Option (Clause × Bool)) : Option (Clause × Bool) :=
  (syllogistref_Bit a_0.yes v_11).bind fun r15 =>
  bif (!(r15 == true) || (syllogistref_Bit b_1.no v_11).isSome) then
  (bif (r15 && (((syllogistref_Bit b_1.no v_11).getD false))) then
  some ((({ yes := ((a_0.yes &&& ~~~(1#32 <<< ((BitVec.ofInt 64 v_11)).toNat)) ||| b_1.yes), no := (a_0.no ||| (b_1.no &&& ~~~(1#32 <<< ((BitVec.ofInt 64 v_11)).toNat))) } : Clause), true))
  else
  nx13 ()) else none

def syllogistref_Resolve (a_0 : Clause) (b_1 : Clause) : Option (Clause × Bool) :=
  forK (σ := Unit) (fun i s nx_ => syllogistref_Resolve_b12 a_0 b_1 i nx_) (fun _ => syllogistref_Resolve_k9) ((32 : Int) - (0 : Int)).toNat (0 : Int) ()

set_option maxRecDepth 100000 in
set_option maxHeartbeats 4000000 in
theorem syllogistref_Resolve_ok (w0 : World) (m : Snap) (l : List HI) (a_0 : Clause) (b_1 : Clause) (r : Clause × Bool) (hr : syllogistref_Resolve a_0 b_1 = some r) (w : World) (hc : cX w0 ⟨m, l⟩ w) :
    Calls Try.prog 54 [.agg #[.int .u32 (a_0.yes.toNat : Int), .int .u32 (a_0.no.toNat : Int)], .agg #[.int .u32 (b_1.yes.toNat : Int), .int .u32 (b_1.no.toNat : Int)]].toArray w fun e w' => e = .returned (.tuple #[.agg #[.int .u32 (r.1.yes.toNat : Int), .int .u32 (r.1.no.toNat : Int)], .bool r.2]) ∧ cX w0 ⟨m, l⟩ w' := by
  unfold syllogistref_Resolve at hr
  refine calls_of_Tr (N := 41) Try.func54 rfl hc rfl (Nat.le_of_ble_eq_true rfl) ?_
  refine Tr.seq ?_
  refine Tr.region_f (fun i => Nat.beq i 0 || Nat.beq i 1 || Nat.beq i 2) ?_
  refine W.e rfl rfl rfl rfl (by decide) (Ef.bx rfl (.t rfl) rfl) ?_
  rintro _ _ ⟨b1, rfl, rfl⟩
  refine ⟨.inl rfl, ?_⟩
  refine W.cast (m' := m) (l' := hcells b1 [_, _] 46 :: l) rfl rfl ?_
  refine W.e rfl rfl rfl rfl (by decide) (Ef.bx rfl (.t rfl) rfl) ?_
  rintro _ _ ⟨b3, rfl, rfl⟩
  refine ⟨.inl rfl, ?_⟩
  refine W.cast (m' := m) (l' := hcells b3 [_, _] 46 :: hcells b1 [_, _] 46 :: l) rfl rfl ?_
  refine W.e rfl rfl rfl rfl (by decide) (Ef.al rfl ZR46 rfl) ?_
  rintro _ _ ⟨b5, rfl, rfl⟩
  refine ⟨.inl rfl, ?_⟩
  refine W.cast (m' := m) (l' := hcells b5 [_, _] 46 :: hcells b3 [_, _] 46 :: hcells b1 [_, _] 46 :: l) rfl rfl ?_
  refine W.q rfl rfl rfl rfl (by decide) (Yd.as rfl .c) ?_
  refine W.end ?_
  refine NX.sub (env' := [(2, _), (3, _), (4, _)]) ⟨rfl, rfl, rfl, trivial⟩ ?_
  refine NX.then ?_
  refine Tr.seq ?_
  refine Tr.seq ?_
  refine Tr.region_f (fun _ => false) ?_
  refine W.q rfl rfl rfl rfl (by decide) (Yd.as rfl .c) ?_
  refine W.end ?_
  refine NX.sub (env' := [(2, _), (3, _), (4, _), (6, _)]) ⟨rfl, rfl, rfl, rfl, trivial⟩ ?_
  refine NX.then ?_
  refine Tr.join (S := fun env x => env = [(4, bp b5 0)] ∧ x = ⟨m, hcells b5 [.int .u32 (((0#32)).toNat : Int), .int .u32 (((0#32)).toNat : Int)] 46 :: l⟩ ∧ syllogistref_Resolve_k9 = some r) ?_ (fun hk10 => ?_)
  · rintro _ _ ⟨rfl, rfl, hr⟩
    unfold syllogistref_Resolve_k9 at hr
    try dsimp only at hr
    refine NX.then ?_
    refine Tr.seq ?_
    refine Tr.region_f (fun i => Nat.beq i 1) ?_
    refine W.q rfl rfl rfl rfl (by decide) (Yd.bld (cells := [.int .u32 (((0#32)).toNat : Int), .int .u32 (((0#32)).toNat : Int)]) rfl ZI46 PL46 .nil rfl) ?_
    refine W.s rfl rfl rfl rfl (Ef.stB (pos := 0) (us := [_, _]) (cs' := [_, _]) rfl rfl (.t rfl) (.t rfl) SZ46 rfl rfl rfl (Nat.le_of_ble_eq_true rfl) rfl) ?_
    rintro _ _ ⟨rfl, rfl⟩
    refine ⟨.inl rfl, ?_⟩
    refine W.cast (m' := m) (l' := hcells b5 [_, _] 46 :: l) rfl rfl ?_
    refine W.q rfl rfl rfl rfl (by decide) (Yd.as rfl .c) ?_
    refine W.end ?_
    refine NX.sub (env' := [(4, _), (5, _)]) ⟨rfl, rfl, trivial⟩ ?_
    refine NX.then ?_
    refine Tr.ret' ?_
    refine resV2 rfl (Rv.cs (pos := 0) rfl rfl rfl ON46 US46 SZ46) (Rv.t rfl) ?_
    intro w hc
    cases hr
    exact ⟨rfl, (cX_sub (.cons _ (.refl _)) hc)⟩
  refine Tr.block ?_
  refine Tr.sub (env' := [(2, _), (3, _), (4, _), (6, _)]) ⟨rfl, rfl, rfl, rfl, trivial⟩ ?_
  refine Tr.loop (S := fun n (z : Int × Unit) env x => match z with | (v_11, _) => env = [(2, bp b1 0), (3, bp b3 0), (4, bp b5 0), (6, .int .i64 v_11)] ∧ x = ⟨m, hcells b5 [.int .u32 (((0#32)).toNat : Int), .int .u32 (((0#32)).toNat : Int)] 46 :: hcells b3 [.int .u32 (b_1.yes.toNat : Int), .int .u32 (b_1.no.toNat : Int)] 46 :: hcells b1 [.int .u32 (a_0.yes.toNat : Int), .int .u32 (a_0.no.toNat : Int)] 46 :: l⟩ ∧ n = ((32 : Int) - v_11).toNat ∧ 0 ≤ v_11 ∧ forK (σ := Unit) (fun i s nx_ => syllogistref_Resolve_b12 a_0 b_1 i nx_) (fun _ => syllogistref_Resolve_k9) n v_11 () = some r) _ ((0 : Int), ()) ⟨rfl, rfl, rfl, (by omega), hr⟩ ?_
  rintro n14 ⟨v_11, _⟩ env x ⟨rfl, rfl, hnv_11, h0v_11, hr⟩
  cases n14 with
  | zero =>
    simp only [forK] at hr
    refine Tr.seq ?_
    refine Tr.seq ?_
    refine Tr.region_f (fun _ => false) ?_
    refine W.q rfl rfl rfl rfl (by decide) (Yd.mv rfl (.t rfl)) ?_
    refine W.q rfl rfl rfl rfl (by decide) (Yd.lss rfl (.t rfl) .c) ?_
    refine W.end ?_
    refine NX.sub (env' := [(2, _), (3, _), (4, _), (6, _), (9, _)]) ⟨rfl, rfl, rfl, rfl, rfl, trivial⟩ ?_
    refine NX.then ?_
    refine Tr.cond (.t rfl) (fun hb => ?_) (fun hb => ?_)
    · exact absurd (hb.symm.trans (fr_end hnv_11)) (by decide)
    ·
      refine Tr.exit' (EX.then (EX.then (EX.block ?_)))
      refine NX.sub (env' := [(4, _)]) ⟨rfl, trivial⟩ ?_
      refine NX.drop (l' := hcells b5 [_, _] 46 :: l) (.cons_cons _ (.cons _ (.cons _ (.refl _)))) ?_
      exact hk10 _ _ ⟨rfl, rfl, hr⟩
  | succ n14 =>
    obtain ⟨nx13, hnx13, hr⟩ := forK_succ hr
    try dsimp only at hr
    unfold syllogistref_Resolve_b12 at hr
    try dsimp only at hr
    have hltv_11 := fr_bnd hnv_11
    refine Tr.seq ?_
    refine Tr.seq ?_
    refine Tr.region_f (fun _ => false) ?_
    refine W.q rfl rfl rfl rfl (by decide) (Yd.mv rfl (.t rfl)) ?_
    refine W.q rfl rfl rfl rfl (by decide) (Yd.lss rfl (.t rfl) .c) ?_
    refine W.end ?_
    refine NX.sub (env' := [(2, _), (3, _), (4, _), (6, _), (9, _)]) ⟨rfl, rfl, rfl, rfl, rfl, trivial⟩ ?_
    refine NX.then ?_
    refine Tr.cond (.t rfl) (fun hb => ?_) (fun hb => ?_)
    rotate_left
    · exact absurd (hb.symm.trans (fr_go hnv_11)) (by decide)
    ·
      refine Tr.skip' ?_
      refine NX.then ?_
      refine Tr.seq ?_
      refine Tr.block ?_
      refine Tr.seq ?_
      obtain ⟨r15, hr16, hr⟩ := bind_some hr
      obtain ⟨ha17, hr⟩ := guard_some hr
      refine Tr.region_f (fun _ => false) ?_
      refine W.q rfl rfl rfl rfl (by decide) (Yd.fldB rfl Try.underlying46 rfl SZ41 rfl (.t rfl)) ?_
      refine W.q rfl rfl rfl rfl (by decide) (Yd.ldB (pos := 2) rfl rfl rfl ON41 (.t rfl)) ?_
      refine W.q rfl rfl rfl rfl (by decide) (Yd.mv rfl (.t rfl)) ?_
      refine W.q rfl rfl rfl rfl (by decide) (Yd.call (v := .bool r15) rfl Try.func33 rfl rfl (.cons (.t rfl) (.cons (.t rfl) .nil)) (fun x' hx w hw => syllogistref_Bit_ok w0 x'.m x'.l a_0.yes v_11 _ hr16 w hw)) ?_
      refine W.q rfl rfl rfl rfl (by decide) (Yd.mv rfl (.t rfl)) ?_
      refine W.g rfl rfl rfl rfl rfl (.t rfl _) rfl (by decide) (fun hG => Yd.fldB rfl Try.underlying46 rfl SZ41 rfl (.t rfl)) ?_
      refine W.g rfl rfl rfl rfl rfl (.t rfl _) rfl (by decide) (fun hG => Yd.ldB (pos := 1) rfl rfl rfl ON41 (.g rfl hG)) ?_
      refine W.g rfl rfl rfl rfl rfl (.t rfl _) rfl (by decide) (fun hG => Yd.mv rfl (.t rfl)) ?_
      refine W.g rfl rfl rfl rfl rfl (.t rfl _) rfl (by decide) (fun hG => Yd.call (v := .bool ((((syllogistref_Bit b_1.no v_11).getD false)))) rfl Try.func33 rfl rfl (.cons (.g rfl hG) (.cons (.g rfl hG) .nil)) (fun x' hx w hw => syllogistref_Bit_ok w0 x'.m x'.l b_1.no v_11 _ (gd_get (d := false) ha17 hG) w hw)) ?_
      refine W.q rfl rfl rfl rfl (by decide) (Yd.and rfl (.t rfl) .c rfl rfl) ?_
      refine W.end ?_
      refine NX.sub (env' := [(2, _), (3, _), (4, _), (6, _), (21, _)]) ⟨rfl, rfl, rfl, rfl, rfl, trivial⟩ ?_
      refine NX.then ?_
      refine Tr.cond (.t rfl) (fun hb => ?_) (fun hb => ?_)
      · have hr := cond_t hb hr
        refine Tr.seq ?_
        refine Tr.region_f (fun _ => false) ?_
        refine W.q rfl rfl rfl rfl (by decide) (Yd.mv rfl (.t rfl)) ?_
        refine W.q rfl rfl rfl rfl (by decide) (Yd.cvQ rfl US3 Try.underlying48 (.t rfl)) ?_
        refine W.q rfl rfl rfl rfl (by decide) (Yd.shlU (a := 1#32) rfl .c (.t rfl) (Int.natCast_nonneg _)) ?_
        refine W.q rfl rfl rfl rfl (by decide) (Yd.as rfl (.t rfl)) ?_
        refine W.end ?_
        refine NX.sub (env' := [(2, _), (3, _), (4, _), (7, _)]) ⟨rfl, rfl, rfl, rfl, trivial⟩ ?_
        refine NX.then ?_
        refine Tr.seq ?_
        refine Tr.region_f (fun i => Nat.beq i 15) ?_
        refine W.q rfl rfl rfl rfl (by decide) (Yd.fldB rfl Try.underlying46 rfl SZ41 rfl (.t rfl)) ?_
        refine W.q rfl rfl rfl rfl (by decide) (Yd.ldB (pos := 2) rfl rfl rfl ON41 (.t rfl)) ?_
        refine W.q rfl rfl rfl rfl (by decide) (Yd.mv rfl (.t rfl)) ?_
        refine W.q rfl rfl rfl rfl (by decide) (Yd.andnU (a := a_0.yes) (b := (1#32 <<< ((BitVec.ofInt 64 v_11)).toNat)) rfl (.t rfl) (.t rfl)) ?_
        refine W.q rfl rfl rfl rfl (by decide) (Yd.fldB rfl Try.underlying46 rfl SZ41 rfl (.t rfl)) ?_
        refine W.q rfl rfl rfl rfl (by decide) (Yd.ldB (pos := 1) rfl rfl rfl ON41 (.t rfl)) ?_
        refine W.q rfl rfl rfl rfl (by decide) (Yd.orU (a := (a_0.yes &&& ~~~(1#32 <<< ((BitVec.ofInt 64 v_11)).toNat))) (b := b_1.yes) rfl (.t rfl) (.t rfl)) ?_
        refine W.q rfl rfl rfl rfl (by decide) (Yd.fldB rfl Try.underlying46 rfl SZ41 rfl (.t rfl)) ?_
        refine W.q rfl rfl rfl rfl (by decide) (Yd.ldB (pos := 2) rfl rfl rfl ON41 (.t rfl)) ?_
        refine W.q rfl rfl rfl rfl (by decide) (Yd.fldB rfl Try.underlying46 rfl SZ41 rfl (.t rfl)) ?_
        refine W.q rfl rfl rfl rfl (by decide) (Yd.ldB (pos := 1) rfl rfl rfl ON41 (.t rfl)) ?_
        refine W.q rfl rfl rfl rfl (by decide) (Yd.mv rfl (.t rfl)) ?_
        refine W.q rfl rfl rfl rfl (by decide) (Yd.andnU (a := b_1.no) (b := (1#32 <<< ((BitVec.ofInt 64 v_11)).toNat)) rfl (.t rfl) (.t rfl)) ?_
        refine W.q rfl rfl rfl rfl (by decide) (Yd.orU (a := a_0.no) (b := (b_1.no &&& ~~~(1#32 <<< ((BitVec.ofInt 64 v_11)).toNat))) rfl (.t rfl) (.t rfl)) ?_
        refine W.q rfl rfl rfl rfl (by decide) (Yd.bld (cells := [.int .u32 ((((a_0.yes &&& ~~~(1#32 <<< ((BitVec.ofInt 64 v_11)).toNat)) ||| b_1.yes)).toNat : Int), .int .u32 (((a_0.no ||| (b_1.no &&& ~~~(1#32 <<< ((BitVec.ofInt 64 v_11)).toNat)))).toNat : Int)]) rfl ZI46 PL46 (.cons (.t rfl) (.cons (.t rfl) .nil)) rfl) ?_
        refine W.s rfl rfl rfl rfl (Ef.stB (pos := 0) (us := [_, _]) (cs' := [_, _]) rfl rfl (.t rfl) (.t rfl) SZ46 rfl rfl rfl (Nat.le_of_ble_eq_true rfl) rfl) ?_
        rintro _ _ ⟨rfl, rfl⟩
        refine ⟨.inl rfl, ?_⟩
        refine W.cast (m' := m) (l' := hcells b5 [_, _] 46 :: hcells b3 [_, _] 46 :: hcells b1 [_, _] 46 :: l) rfl rfl ?_
        refine W.q rfl rfl rfl rfl (by decide) (Yd.as rfl .c) ?_
        refine W.end ?_
        refine NX.sub (env' := [(4, _), (5, _)]) ⟨rfl, rfl, trivial⟩ ?_
        refine NX.drop (l' := hcells b5 [_, _] 46 :: l) (.cons_cons _ (.cons _ (.cons _ (.refl _)))) ?_
        refine NX.then ?_
        refine Tr.ret' (RT.block (RT.then (RT.then (RT.block (RT.then ?_)))))
        refine resV2 rfl (Rv.cs (pos := 0) rfl rfl rfl ON46 US46 SZ46) (Rv.t rfl) ?_
        intro w hc
        cases hr
        exact ⟨rfl, (cX_sub (.cons _ (.refl _)) hc)⟩
      · have hr := cond_f hb hr
        refine Tr.skip' ?_
        refine NX.block ?_
        refine NX.then ?_
        refine Tr.region_f (fun _ => false) ?_
        refine W.q rfl rfl rfl rfl (by decide) (Yd.mv rfl (.t rfl)) ?_
        refine W.q rfl rfl rfl rfl (by decide) (Yd.add rfl (.t rfl) .c) ?_
        refine W.q rfl rfl rfl rfl (by decide) (Yd.as rfl (.t rfl)) ?_
        refine W.end ?_
        refine NX.sub (env' := [(2, _), (3, _), (4, _), (6, _)]) ⟨rfl, rfl, rfl, rfl, trivial⟩ ?_
        refine NX.sub (env' := [(2, _), (3, _), (4, _), (6, _)]) ⟨rfl, rfl, rfl, rfl, trivial⟩ ?_
        have hw := w64_id (n := v_11 + 1) (by omega) (by omega)
        exact NX.again n14 (v_11 + 1, ()) (Nat.lt_succ_self _) ⟨(by rw [hw] <;> rfl), rfl, (fr_dec hnv_11), (by omega), ((hnx13 _).symm.trans hr)⟩

def syllogistref_Refutes_k7 : Option (Bool) :=
  some false

def syllogistref_Refutes_b11 (l_0 : List Clause) (t_10 : Int) (nx12 : Unit → Option (Bool)) : Option (Bool) :=
  (geti l_0 t_10).bind fun y14 =>
  (bif ((y14.yes == (0#32)) && ((y14.no == (0#32)) && true)) then
  some true
  else
  nx12 ())

def syllogistref_Refutes_k26 (l24 : List Clause) : Option (Bool) :=
  (geti l24 ((w64 ((l24.length : Int) - (1 : Int))))).bind fun y28 =>
  some (((y28.yes == (0#32)) && ((y28.no == (0#32)) && true)))

def syllogistref_Refutes_b32 (pairs_1 : List (Int × Int)) (t_31 : Int) (l22 : List Clause) (nx33 : (List Clause) → Option (Bool)) : Option (Bool) :=
  (geti pairs_1 t_31).bind fun y35 =>
  (bif ((((decide (y35.1 < (0 : Int))) || (decide (y35.2 < (0 : Int)))) || (decide (y35.1 ≥ (l22.length : Int)))) || (decide (y35.2 ≥ (l22.length : Int)))) then
  some false
  else
  (geti l22 y35.1).bind fun y39 =>
  (geti l22 y35.2).bind fun y41 =>
  (syllogistref_Resolve y39 y41).bind fun r43 =>
  (bif (!r43.2) then
  some false
  else
  bif decide (l22.length + (([({ yes := r43.1.yes, no := r43.1.no } : Clause)] : List Clause)).length ≤ 17592186044416) then
  nx33 (l22 ++ ([({ yes := r43.1.yes, no := r43.1.no } : Clause)] : List Clause)) else none))

def syllogistref_Refutes (l_0 : List Clause) (pairs_1 : List (Int × Int)) : Option (Bool) :=
  bif decide ((([] : List Clause)).length + l_0.length ≤ 17592186044416) then
  (bif ((pairs_1.length : Int) == (0 : Int)) then
  forK (σ := Unit) (fun i s nx_ => syllogistref_Refutes_b11 l_0 i nx_) (fun _ => syllogistref_Refutes_k7) ((l_0.length : Int) - (0 : Int)).toNat (0 : Int) ()
  else
  forK (σ := (List Clause)) (fun i s nx_ => syllogistref_Refutes_b32 pairs_1 i s nx_) (fun s => syllogistref_Refutes_k26 s) ((pairs_1.length : Int) - (0 : Int)).toNat (0 : Int) ((([] : List Clause) ++ l_0))) else none

set_option maxRecDepth 100000 in
set_option maxHeartbeats 4000000 in
theorem syllogistref_Refutes_ok (w0 : World) (m : Snap) (l : List HI) (ul_0 : Value) (l_0 : List Clause) (hl_0 : RS rClause m ul_0 l_0) (upairs_1 : Value) (pairs_1 : List (Int × Int)) (hpairs_1 : RS rP m upairs_1 pairs_1) (r : Bool) (hr : syllogistref_Refutes l_0 pairs_1 = some r) (w : World) (hc : cX w0 ⟨m, l⟩ w) :
    Calls Try.prog 28 [ul_0, upairs_1].toArray w fun e w' => e = .returned (.bool r) ∧ cX w0 ⟨m, l⟩ w' := by
  unfold syllogistref_Refutes at hr
  refine calls_of_Tr (N := 85) Try.func28 rfl hc rfl (Nat.le_of_ble_eq_true rfl) ?_
  refine Tr.seq ?_
  refine Tr.region_f (fun _ => false) ?_
  refine W.q rfl rfl rfl rfl (by decide) (Yd.as rfl .c) ?_
  refine W.end ?_
  refine NX.sub (env' := [(0, _), (1, _)]) ⟨rfl, rfl, trivial⟩ ?_
  refine NX.then ?_
  refine Tr.seq ?_
  obtain ⟨hq4, hr⟩ := guard_some hr; replace hq4 := of_decide_eq_true hq4
  refine Tr.region_f (fun i => Nat.beq i 0 || Nat.beq i 2) ?_
  refine W.e rfl rfl rfl rfl (by decide) (Ef.bsT (enc := Clause.enc) (vs := []) (ys := []) (fun _ => rfl) IF46 rfl Try.underlying40 (by decide) rfl .nil rfl rfl (by decide)) ?_
  rintro v1 _ rfl
  refine ⟨.inl rfl, ?_⟩
  refine W.cast (m' := m) (l' := hownT 46 2 Clause.enc v1 _ :: l) rfl rfl ?_
  refine W.q rfl rfl rfl rfl (by decide) (Yd.mv rfl (.t rfl)) ?_
  refine W.e rfl rfl rfl rfl (by decide) (Ef.apI (pos := 0) (enc := Clause.enc) (xs := ([] : List Clause)) (ys := l_0) (fun _ => rfl) IF46 rfl rfl Try.underlying40 rfl (by decide) (.t rfl) (.t rfl) (Src.rs (by decide) (.refl _) hl_0) (fun _ => rfl) (by omega) (by omega)) ?_
  rintro v3 _ rfl
  refine ⟨.inl rfl, ?_⟩
  refine W.cast (m' := m) (l' := hownT 46 2 Clause.enc v3 _ :: l) rfl rfl ?_
  refine W.q rfl rfl rfl rfl (by decide) (Yd.as rfl (.t rfl)) ?_
  refine W.end ?_
  refine NX.sub (env' := [(0, _), (1, _), (5, _)]) ⟨rfl, rfl, rfl, trivial⟩ ?_
  refine NX.then ?_
  refine Tr.seq ?_
  refine Tr.seq ?_
  refine Tr.region_f (fun _ => false) ?_
  refine W.q rfl rfl rfl rfl (by decide) (Yd.mv rfl (.t rfl)) ?_
  refine W.q rfl rfl rfl rfl (by decide) (Yd.lenR hpairs_1 rfl Try.underlying53 (.t rfl)) ?_
  refine W.q rfl rfl rfl rfl (by decide) (Yd.eql rfl (.t rfl) .c) ?_
  refine W.end ?_
  refine NX.sub (env' := [(0, _), (1, _), (5, _), (17, _)]) ⟨rfl, rfl, rfl, rfl, trivial⟩ ?_
  refine NX.then ?_
  refine Tr.cond (.t rfl) (fun hb => ?_) (fun hb => ?_)
  · have hr := cond_t hb hr
    refine Tr.seq ?_
    refine Tr.seq ?_
    refine Tr.region_f (fun _ => false) ?_
    refine W.q rfl rfl rfl rfl (by decide) (Yd.mv rfl (.t rfl)) ?_
    refine W.q rfl rfl rfl rfl (by decide) (Yd.lenR hl_0 rfl Try.underlying40 (.t rfl)) ?_
    refine W.q rfl rfl rfl rfl (by decide) (Yd.mv rfl .c) ?_
    refine W.end ?_
    refine NX.sub (env' := [(18, _), (19, _), (20, _)]) ⟨rfl, rfl, rfl, trivial⟩ ?_
    refine NX.drop (l' := l) (.cons _ (.refl _)) ?_
    refine NX.then ?_
    refine Tr.join (S := fun env x => env = [] ∧ x = ⟨m, l⟩ ∧ syllogistref_Refutes_k7 = some r) ?_ (fun hk8 => ?_)
    · rintro _ _ ⟨rfl, rfl, hr⟩
      unfold syllogistref_Refutes_k7 at hr
      try dsimp only at hr
      refine NX.then ?_
      refine Tr.seq ?_
      refine Tr.region_f (fun _ => false) ?_
      refine W.q rfl rfl rfl rfl (by decide) (Yd.as rfl .c) ?_
      refine W.end ?_
      refine NX.sub (env' := [(4, _)]) ⟨rfl, trivial⟩ ?_
      refine NX.then ?_
      refine Tr.ret' (RT.then ?_)
      refine res1 rfl rfl ?_
      intro w hc
      cases hr
      exact ⟨rfl, hc⟩
    have hlen9 := (hl_0).2.1
    refine Tr.block ?_
    refine Tr.sub (env' := [(18, _), (19, _), (20, _)]) ⟨rfl, rfl, rfl, trivial⟩ ?_
    refine Tr.loop (S := fun n (z : Int × Unit) env x => match z with | (t_10, _) => env = [(18, ul_0), (19, .int .i64 ((l_0.length : Int))), (20, .int .i64 t_10)] ∧ x = ⟨m, l⟩ ∧ n = ((l_0.length : Int) - t_10).toNat ∧ 0 ≤ t_10 ∧ forK (σ := Unit) (fun i s nx_ => syllogistref_Refutes_b11 l_0 i nx_) (fun _ => syllogistref_Refutes_k7) n t_10 () = some r) _ ((0 : Int), ()) ⟨rfl, rfl, rfl, (by omega), hr⟩ ?_
    rintro n13 ⟨t_10, _⟩ env x ⟨rfl, rfl, hnt_10, h0t_10, hr⟩
    cases n13 with
    | zero =>
      simp only [forK] at hr
      refine Tr.seq ?_
      refine Tr.region_f (fun _ => false) ?_
      refine W.q rfl rfl rfl rfl (by decide) (Yd.lss rfl (.t rfl) (.t rfl)) ?_
      refine W.end ?_
      refine NX.sub (env' := [(18, _), (19, _), (20, _), (21, _)]) ⟨rfl, rfl, rfl, rfl, trivial⟩ ?_
      refine NX.then ?_
      refine Tr.seq ?_
      refine Tr.cond (.t rfl) (fun hb => ?_) (fun hb => ?_)
      · exact absurd (hb.symm.trans (fr_end hnt_10)) (by decide)
      ·
        refine Tr.exit' (EX.then (EX.then (EX.block ?_)))
        refine NX.sub (env' := []) trivial ?_
        exact hk8 _ _ ⟨rfl, rfl, hr⟩
    | succ n13 =>
      obtain ⟨nx12, hnx12, hr⟩ := forK_succ hr
      try dsimp only at hr
      unfold syllogistref_Refutes_b11 at hr
      try dsimp only at hr
      have hltt_10 := fr_bnd hnt_10
      refine Tr.seq ?_
      refine Tr.region_f (fun _ => false) ?_
      refine W.q rfl rfl rfl rfl (by decide) (Yd.lss rfl (.t rfl) (.t rfl)) ?_
      refine W.end ?_
      refine NX.sub (env' := [(18, _), (19, _), (20, _), (21, _)]) ⟨rfl, rfl, rfl, rfl, trivial⟩ ?_
      refine NX.then ?_
      refine Tr.seq ?_
      refine Tr.cond (.t rfl) (fun hb => ?_) (fun hb => ?_)
      rotate_left
      · exact absurd (hb.symm.trans (fr_go hnt_10)) (by decide)
      ·
        refine Tr.skip' ?_
        refine NX.then ?_
        refine Tr.seq ?_
        refine Tr.block ?_
        refine Tr.seq ?_
        obtain ⟨y14, hy15, hr⟩ := bind_some hr
        refine Tr.region_f (fun i => Nat.beq i 2 || Nat.beq i 3) ?_
        refine W.q rfl rfl rfl rfl (by decide) (Yd.idxR hl_0 hy15 rfl Try.underlying40 SZ46 (.t rfl) (.t rfl)) ?_
        refine W.q rfl rfl rfl rfl (by decide) (Yd.ldFs (us := [_, _]) hl_0 (.refl _) hy15 rfl rfl ON46 US46 SZ46 (.t rfl)) ?_
        refine W.e rfl rfl rfl rfl (by decide) (Ef.al rfl ZR46 rfl) ?_
        rintro _ _ ⟨b16, rfl, rfl⟩
        refine ⟨.inl rfl, ?_⟩
        refine W.cast (m' := m) (l' := hcells b16 [_, _] 46 :: l) rfl rfl ?_
        refine W.s rfl rfl rfl rfl (Ef.stB (pos := 0) (us := [_, _]) (cs' := [_, _]) rfl rfl (.t rfl) (.t rfl) SZ46 rfl rfl rfl (Nat.le_of_ble_eq_true rfl) rfl) ?_
        rintro _ _ ⟨rfl, rfl⟩
        refine ⟨.inl rfl, ?_⟩
        refine W.cast (m' := m) (l' := hcells b16 [_, _] 46 :: l) rfl rfl ?_
        refine W.end ?_
        refine NX.sub (env' := [(18, _), (19, _), (20, _), (7, _)]) ⟨rfl, rfl, rfl, rfl, trivial⟩ ?_
        refine NX.then ?_
        refine Tr.seq ?_
        refine Tr.region_f (fun _ => false) ?_
        refine W.q rfl rfl rfl rfl (by decide) (Yd.ldBs (pos := 0) (us := [_, _]) rfl rfl rfl rfl ON46 US46 SZ46 (.t rfl)) ?_
        refine W.q rfl rfl rfl rfl (by decide) (Yd.bld (cells := [.int .u32 (((0#32)).toNat : Int), .int .u32 (((0#32)).toNat : Int)]) rfl ZI46 PL46 .nil rfl) ?_
        refine W.q rfl rfl rfl rfl (by decide) (Yd.eqA rfl GU46 (fun w => EQ46 w y14.yes y14.no ((0#32)) ((0#32))) (.t rfl) (.t rfl)) ?_
        refine W.end ?_
        refine NX.sub (env' := [(18, _), (19, _), (20, _), (26, _)]) ⟨rfl, rfl, rfl, rfl, trivial⟩ ?_
        refine NX.drop (l' := l) (.cons _ (.refl _)) ?_
        refine NX.then ?_
        refine Tr.cond (.t rfl) (fun hb => ?_) (fun hb => ?_)
        · have hr := cond_t hb hr
          refine Tr.seq ?_
          refine Tr.region_f (fun _ => false) ?_
          refine W.q rfl rfl rfl rfl (by decide) (Yd.as rfl .c) ?_
          refine W.end ?_
          refine NX.sub (env' := [(4, _)]) ⟨rfl, trivial⟩ ?_
          refine NX.then ?_
          refine Tr.ret' (RT.block (RT.then (RT.then (RT.block (RT.then (RT.then ?_))))))
          refine res1 rfl rfl ?_
          intro w hc
          cases hr
          exact ⟨rfl, hc⟩
        · have hr := cond_f hb hr
          refine Tr.skip' ?_
          refine NX.block ?_
          refine NX.then ?_
          refine Tr.region_f (fun _ => false) ?_
          refine W.q rfl rfl rfl rfl (by decide) (Yd.add rfl (.t rfl) .c) ?_
          refine W.q rfl rfl rfl rfl (by decide) (Yd.mv rfl (.t rfl)) ?_
          refine W.end ?_
          refine NX.sub (env' := [(18, _), (19, _), (20, _)]) ⟨rfl, rfl, rfl, trivial⟩ ?_
          refine NX.sub (env' := [(18, _), (19, _), (20, _)]) ⟨rfl, rfl, rfl, trivial⟩ ?_
          have hw := w64_id (n := t_10 + 1) (by omega) (by omega)
          exact NX.again n13 (t_10 + 1, ()) (Nat.lt_succ_self _) ⟨(by rw [hw] <;> rfl), rfl, (fr_dec hnt_10), (by omega), ((hnx12 _).symm.trans hr)⟩
  · have hr := cond_f hb hr
    refine Tr.skip' ?_
    refine NX.then ?_
    refine Tr.seq ?_
    refine Tr.seq ?_
    refine Tr.region_f (fun _ => false) ?_
    refine W.q rfl rfl rfl rfl (by decide) (Yd.mv rfl (.t rfl)) ?_
    refine W.q rfl rfl rfl rfl (by decide) (Yd.lenR hpairs_1 rfl Try.underlying53 (.t rfl)) ?_
    refine W.q rfl rfl rfl rfl (by decide) (Yd.mv rfl .c) ?_
    refine W.end ?_
    refine NX.sub (env' := [(5, _), (28, _), (29, _), (30, _)]) ⟨rfl, rfl, rfl, rfl, trivial⟩ ?_
    refine NX.then ?_
    refine Tr.join (S := fun env x => ∃ l24 : List Clause, ∃ v25 : Value, env = [(5, v25)] ∧ x = ⟨m, hownT 46 2 Clause.enc v25 l24 :: l⟩ ∧ syllogistref_Refutes_k26 l24 = some r) ?_ (fun hk27 => ?_)
    · rintro _ _ ⟨l24, v25, rfl, rfl, hr⟩
      unfold syllogistref_Refutes_k26 at hr
      try dsimp only at hr
      refine NX.then ?_
      refine Tr.seq ?_
      obtain ⟨y28, hy29, hr⟩ := bind_some hr
      refine Tr.region_f (fun _ => false) ?_
      refine W.q rfl rfl rfl rfl (by decide) (Yd.mv rfl (.t rfl)) ?_
      refine W.q rfl rfl rfl rfl (by decide) (Yd.mv rfl (.t rfl)) ?_
      refine W.q rfl rfl rfl rfl (by decide) (Yd.lenO (p := 0) rfl rfl Try.underlying40 (.t rfl)) ?_
      refine W.q rfl rfl rfl rfl (by decide) (Yd.sub rfl (.t rfl) .c) ?_
      refine W.q rfl rfl rfl rfl (by decide) (Yd.idxT (pos := 0) rfl hy29 rfl Try.underlying40 SZ46 (.t rfl) (.t rfl)) ?_
      refine W.q rfl rfl rfl rfl (by decide) (Yd.ldTs (enc := Clause.enc) (n := 2) (pos := 0) (us := [_, _]) (fun _ => rfl) rfl hy29 rfl (by decide) rfl ON46 US46 SZ46 (.t rfl)) ?_
      refine W.q rfl rfl rfl rfl (by decide) (Yd.bld (cells := [.int .u32 (((0#32)).toNat : Int), .int .u32 (((0#32)).toNat : Int)]) rfl ZI46 PL46 .nil rfl) ?_
      refine W.q rfl rfl rfl rfl (by decide) (Yd.eqA rfl GU46 (fun w => EQ46 w y28.yes y28.no ((0#32)) ((0#32))) (.t rfl) (.t rfl)) ?_
      refine W.q rfl rfl rfl rfl (by decide) (Yd.as rfl (.t rfl)) ?_
      refine W.end ?_
      refine NX.sub (env' := [(4, _)]) ⟨rfl, trivial⟩ ?_
      refine NX.drop (l' := l) (.cons _ (.refl _)) ?_
      refine NX.then ?_
      refine Tr.ret' ?_
      refine res1 rfl rfl ?_
      intro w hc
      cases hr
      exact ⟨rfl, hc⟩
    have hlen30 := (hpairs_1).2.1
    refine Tr.block ?_
    refine Tr.sub (env' := [(5, _), (28, _), (29, _), (30, _)]) ⟨rfl, rfl, rfl, rfl, trivial⟩ ?_
    refine Tr.loop (S := fun n (z : Int × (List Clause)) env x => match z with | (t_31, l22) => ∃ v23 : Value, env = [(5, v23), (28, upairs_1), (29, .int .i64 ((pairs_1.length : Int))), (30, .int .i64 t_31)] ∧ x = ⟨m, hownT 46 2 Clause.enc v23 l22 :: l⟩ ∧ n = ((pairs_1.length : Int) - t_31).toNat ∧ 0 ≤ t_31 ∧ forK (σ := (List Clause)) (fun i s nx_ => syllogistref_Refutes_b32 pairs_1 i s nx_) (fun s => syllogistref_Refutes_k26 s) n t_31 l22 = some r) _ ((0 : Int), (([] : List Clause) ++ l_0)) ⟨_, rfl, rfl, rfl, (by omega), hr⟩ ?_
    rintro n34 ⟨t_31, l22⟩ env x ⟨v23, rfl, rfl, hnt_31, h0t_31, hr⟩
    cases n34 with
    | zero =>
      simp only [forK] at hr
      refine Tr.seq ?_
      refine Tr.region_f (fun _ => false) ?_
      refine W.q rfl rfl rfl rfl (by decide) (Yd.lss rfl (.t rfl) (.t rfl)) ?_
      refine W.end ?_
      refine NX.sub (env' := [(5, _), (28, _), (29, _), (30, _), (31, _)]) ⟨rfl, rfl, rfl, rfl, rfl, trivial⟩ ?_
      refine NX.then ?_
      refine Tr.seq ?_
      refine Tr.cond (.t rfl) (fun hb => ?_) (fun hb => ?_)
      · exact absurd (hb.symm.trans (fr_end hnt_31)) (by decide)
      ·
        refine Tr.exit' (EX.then (EX.then (EX.block ?_)))
        refine NX.sub (env' := [(5, _)]) ⟨rfl, trivial⟩ ?_
        exact hk27 _ _ ⟨_, _, rfl, rfl, hr⟩
    | succ n34 =>
      obtain ⟨nx33, hnx33, hr⟩ := forK_succ hr
      try dsimp only at hr
      unfold syllogistref_Refutes_b32 at hr
      try dsimp only at hr
      have hltt_31 := fr_bnd hnt_31
      refine Tr.seq ?_
      refine Tr.region_f (fun _ => false) ?_
      refine W.q rfl rfl rfl rfl (by decide) (Yd.lss rfl (.t rfl) (.t rfl)) ?_
      refine W.end ?_
      refine NX.sub (env' := [(5, _), (28, _), (29, _), (30, _), (31, _)]) ⟨rfl, rfl, rfl, rfl, rfl, trivial⟩ ?_
      refine NX.then ?_
      refine Tr.seq ?_
      refine Tr.cond (.t rfl) (fun hb => ?_) (fun hb => ?_)
      rotate_left
      · exact absurd (hb.symm.trans (fr_go hnt_31)) (by decide)
      ·
        refine Tr.skip' ?_
        refine NX.then ?_
        refine Tr.seq ?_
        refine Tr.block ?_
        refine Tr.seq ?_
        obtain ⟨y35, hy36, hr⟩ := bind_some hr
        refine Tr.region_f (fun i => Nat.beq i 2 || Nat.beq i 3) ?_
        refine W.q rfl rfl rfl rfl (by decide) (Yd.idxR hpairs_1 hy36 rfl Try.underlying53 SZ86 (.t rfl) (.t rfl)) ?_
        refine W.q rfl rfl rfl rfl (by decide) (Yd.ldFs (us := [_, _]) hpairs_1 (.refl _) hy36 rfl rfl ON86 US86 SZ86 (.t rfl)) ?_
        refine W.e rfl rfl rfl rfl (by decide) (Ef.al rfl ZR86 rfl) ?_
        rintro _ _ ⟨b37, rfl, rfl⟩
        refine ⟨.inl rfl, ?_⟩
        refine W.cast (m' := m) (l' := hcells b37 [_, _] 86 :: hownT 46 2 Clause.enc v23 _ :: l) rfl rfl ?_
        refine W.s rfl rfl rfl rfl (Ef.stB (pos := 0) (us := [_, _]) (cs' := [_, _]) rfl rfl (.t rfl) (.t rfl) SZ86 rfl rfl rfl (Nat.le_of_ble_eq_true rfl) rfl) ?_
        rintro _ _ ⟨rfl, rfl⟩
        refine ⟨.inl rfl, ?_⟩
        refine W.cast (m' := m) (l' := hcells b37 [_, _] 86 :: hownT 46 2 Clause.enc v23 _ :: l) rfl rfl ?_
        refine W.end ?_
        refine NX.sub (env' := [(5, _), (28, _), (29, _), (30, _), (9, _)]) ⟨rfl, rfl, rfl, rfl, rfl, trivial⟩ ?_
        refine NX.then ?_
        refine Tr.seq ?_
        refine Tr.seq ?_
        refine Tr.region_f (fun _ => false) ?_
        refine W.q rfl rfl rfl rfl (by decide) (Yd.arrB rfl Try.underlying86 SZ3 (by decide) (by decide) (.t rfl) .c) ?_
        refine W.q rfl rfl rfl rfl (by decide) (Yd.ldB (pos := 0) rfl rfl rfl ON3 (.t rfl)) ?_
        refine W.q rfl rfl rfl rfl (by decide) (Yd.lss rfl (.t rfl) .c) ?_
        refine W.q rfl rfl rfl rfl (by decide) (Yd.mv rfl (.t rfl)) ?_
        refine W.g rfl rfl rfl rfl rfl (.t rfl _) rfl (by decide) (fun hG => Yd.arrB rfl Try.underlying86 SZ3 (by decide) (by decide) (.t rfl) .c) ?_
        refine W.g rfl rfl rfl rfl rfl (.t rfl _) rfl (by decide) (fun hG => Yd.ldB (pos := 0) rfl rfl rfl ON3 (.g rfl hG)) ?_
        refine W.g rfl rfl rfl rfl rfl (.t rfl _) rfl (by decide) (fun hG => Yd.lss rfl (.g rfl hG) .c) ?_
        refine W.q rfl rfl rfl rfl (by decide) (Yd.or rfl (.t rfl) .c rfl rfl) ?_
        refine W.q rfl rfl rfl rfl (by decide) (Yd.mv rfl (.t rfl)) ?_
        refine W.g rfl rfl rfl rfl rfl (.t rfl _) rfl (by decide) (fun hG => Yd.arrB rfl Try.underlying86 SZ3 (by decide) (by decide) (.t rfl) .c) ?_
        refine W.g rfl rfl rfl rfl rfl (.t rfl _) rfl (by decide) (fun hG => Yd.ldB (pos := 0) rfl rfl rfl ON3 (.g rfl hG)) ?_
        refine W.g rfl rfl rfl rfl rfl (.t rfl _) rfl (by decide) (fun hG => Yd.mv rfl (.t rfl)) ?_
        refine W.g rfl rfl rfl rfl rfl (.t rfl _) rfl (by decide) (fun hG => Yd.lenO (p := 1) rfl rfl Try.underlying40 (.g rfl hG)) ?_
        refine W.g rfl rfl rfl rfl rfl (.t rfl _) rfl (by decide) (fun hG => Yd.geq rfl (.g rfl hG) (.g rfl hG)) ?_
        refine W.q rfl rfl rfl rfl (by decide) (Yd.or rfl (.t rfl) .c rfl rfl) ?_
        refine W.q rfl rfl rfl rfl (by decide) (Yd.mv rfl (.t rfl)) ?_
        refine W.g rfl rfl rfl rfl rfl (.t rfl _) rfl (by decide) (fun hG => Yd.arrB rfl Try.underlying86 SZ3 (by decide) (by decide) (.t rfl) .c) ?_
        refine W.g rfl rfl rfl rfl rfl (.t rfl _) rfl (by decide) (fun hG => Yd.ldB (pos := 0) rfl rfl rfl ON3 (.g rfl hG)) ?_
        refine W.g rfl rfl rfl rfl rfl (.t rfl _) rfl (by decide) (fun hG => Yd.mv rfl (.t rfl)) ?_
        refine W.g rfl rfl rfl rfl rfl (.t rfl _) rfl (by decide) (fun hG => Yd.lenO (p := 1) rfl rfl Try.underlying40 (.g rfl hG)) ?_
        refine W.g rfl rfl rfl rfl rfl (.t rfl _) rfl (by decide) (fun hG => Yd.geq rfl (.g rfl hG) (.g rfl hG)) ?_
        refine W.q rfl rfl rfl rfl (by decide) (Yd.or rfl (.t rfl) .c rfl rfl) ?_
        refine W.end ?_
        refine NX.sub (env' := [(5, _), (28, _), (29, _), (30, _), (9, _), (55, _)]) ⟨rfl, rfl, rfl, rfl, rfl, rfl, trivial⟩ ?_
        refine NX.then ?_
        refine Tr.cond (.t rfl) (fun hb => ?_) (fun hb => ?_)
        · have hr := cond_t hb hr
          refine Tr.seq ?_
          refine Tr.region_f (fun _ => false) ?_
          refine W.q rfl rfl rfl rfl (by decide) (Yd.as rfl .c) ?_
          refine W.end ?_
          refine NX.sub (env' := [(4, _)]) ⟨rfl, trivial⟩ ?_
          refine NX.drop (l' := l) (.cons _ (.cons _ (.refl _))) ?_
          refine NX.then ?_
          refine Tr.ret' (RT.then (RT.block (RT.then (RT.then (RT.block (RT.then ?_))))))
          refine res1 rfl rfl ?_
          intro w hc
          cases hr
          exact ⟨rfl, hc⟩
        · have hr := cond_f hb hr
          refine Tr.skip' ?_
          refine NX.then ?_
          refine Tr.seq ?_
          obtain ⟨y39, hy40, hr⟩ := bind_some hr
          obtain ⟨y41, hy42, hr⟩ := bind_some hr
          obtain ⟨r43, hr44, hr⟩ := bind_some hr
          refine Tr.region_x (fun i => Nat.beq i 14 || Nat.beq i 15) (fun i => Nat.beq i 13 || Nat.beq i 15) (Ord.of [0, 1, 2, 3, 4, 5, 6, 7, 8, 9, 10, 11, 12, 13, 14, 15, 16]) FM (by kernel_rfl) ?_
          refine W.q rfl rfl rfl rfl (by decide) (Yd.mv rfl (.t rfl)) ?_
          refine W.q rfl rfl rfl rfl (by decide) (Yd.arrB rfl Try.underlying86 SZ3 (by decide) (by decide) (.t rfl) .c) ?_
          refine W.q rfl rfl rfl rfl (by decide) (Yd.ldB (pos := 0) rfl rfl rfl ON3 (.t rfl)) ?_
          refine W.q rfl rfl rfl rfl (by decide) (Yd.idxT (pos := 1) rfl hy40 rfl Try.underlying40 SZ46 (.t rfl) (.t rfl)) ?_
          refine W.q rfl rfl rfl rfl (by decide) (Yd.ldTs (enc := Clause.enc) (n := 2) (pos := 1) (us := [_, _]) (fun _ => rfl) rfl hy40 rfl (by decide) rfl ON46 US46 SZ46 (.t rfl)) ?_
          refine W.q rfl rfl rfl rfl (by decide) (Yd.mv rfl (.t rfl)) ?_
          refine W.q rfl rfl rfl rfl (by decide) (Yd.arrB rfl Try.underlying86 SZ3 (by decide) (by decide) (.t rfl) .c) ?_
          refine W.q rfl rfl rfl rfl (by decide) (Yd.ldB (pos := 0) rfl rfl rfl ON3 (.t rfl)) ?_
          refine W.q rfl rfl rfl rfl (by decide) (Yd.idxT (pos := 1) rfl hy42 rfl Try.underlying40 SZ46 (.t rfl) (.t rfl)) ?_
          refine W.q rfl rfl rfl rfl (by decide) (Yd.ldTs (enc := Clause.enc) (n := 2) (pos := 1) (us := [_, _]) (fun _ => rfl) rfl hy42 rfl (by decide) rfl ON46 US46 SZ46 (.t rfl)) ?_
          refine W.q rfl rfl rfl rfl (by decide) (Yd.call (v := .tuple #[.agg #[.int .u32 (r43.1.yes.toNat : Int), .int .u32 (r43.1.no.toNat : Int)], .bool r43.2]) rfl Try.func54 rfl rfl (.cons (.t rfl) (.cons (.t rfl) .nil)) (fun x' hx w hw => syllogistref_Resolve_ok w0 x'.m x'.l y39 y41 _ hr44 w hw)) ?_
          refine W.q rfl rfl rfl rfl (by decide) (Yd.mv rfl (.t rfl)) ?_
          refine W.q rfl rfl rfl rfl (by decide) (Yd.ext rfl (.t rfl) rfl) ?_
          refine W.p rfl rfl rfl rfl (by decide) (fun _ => Yd.ext rfl (.t rfl) rfl) ?_
          refine W.e rfl rfl rfl rfl (by decide) (Ef.al rfl ZR46 rfl) ?_
          rintro _ _ ⟨b47, rfl, rfl⟩
          refine ⟨.inr ⟨.refl _, [_], rfl⟩, ?_⟩
          refine W.cast (m' := m) (l' := hcells b47 [_, _] 46 :: hcells b37 [_, _] 86 :: hownT 46 2 Clause.enc v23 _ :: l) rfl rfl ?_
          refine W.s rfl rfl rfl rfl (Ef.stB (pos := 0) (us := [_, _]) (cs' := [_, _]) rfl rfl (.t rfl) (.t rfl) SZ46 rfl rfl rfl (Nat.le_of_ble_eq_true rfl) rfl) ?_
          rintro _ _ ⟨rfl, rfl⟩
          refine ⟨.inl rfl, ?_⟩
          refine W.cast (m' := m) (l' := hcells b47 [_, _] 46 :: hcells b37 [_, _] 86 :: hownT 46 2 Clause.enc v23 _ :: l) rfl rfl ?_
          refine W.q rfl rfl rfl rfl (by decide) (Yd.as rfl (.t rfl)) ?_
          refine W.end ?_
          refine NX.sub (env' := [(5, _), (28, _), (29, _), (30, _), (10, _), (11, _)]) ⟨rfl, rfl, rfl, rfl, rfl, rfl, trivial⟩ ?_
          refine NX.drop (l' := hcells b47 [_, _] 46 :: hownT 46 2 Clause.enc v23 _ :: l) (.cons_cons _ (.cons _ (.cons_cons _ (.refl _)))) ?_
          refine NX.then ?_
          refine Tr.seq ?_
          refine Tr.seq ?_
          refine Tr.region_f (fun _ => false) ?_
          refine W.q rfl rfl rfl rfl (by decide) (Yd.mv rfl (.t rfl)) ?_
          refine W.q rfl rfl rfl rfl (by decide) (Yd.not rfl (.t rfl)) ?_
          refine W.end ?_
          refine NX.sub (env' := [(5, _), (28, _), (29, _), (30, _), (10, _), (71, _)]) ⟨rfl, rfl, rfl, rfl, rfl, rfl, trivial⟩ ?_
          refine NX.then ?_
          refine Tr.cond (.t rfl) (fun hb => ?_) (fun hb => ?_)
          · have hr := cond_t hb hr
            refine Tr.seq ?_
            refine Tr.region_f (fun _ => false) ?_
            refine W.q rfl rfl rfl rfl (by decide) (Yd.as rfl .c) ?_
            refine W.end ?_
            refine NX.sub (env' := [(4, _)]) ⟨rfl, trivial⟩ ?_
            refine NX.drop (l' := l) (.cons _ (.cons _ (.refl _))) ?_
            refine NX.then ?_
            refine Tr.ret' (RT.then (RT.block (RT.then (RT.then (RT.block (RT.then ?_))))))
            refine res1 rfl rfl ?_
            intro w hc
            cases hr
            exact ⟨rfl, hc⟩
          · have hr := cond_f hb hr
            refine Tr.skip' ?_
            refine NX.then ?_
            obtain ⟨hq52, hr⟩ := guard_some hr; replace hq52 := of_decide_eq_true hq52
            refine Tr.region_f (fun i => Nat.beq i 2 || Nat.beq i 3) ?_
            refine W.q rfl rfl rfl rfl (by decide) (Yd.mv rfl (.t rfl)) ?_
            refine W.q rfl rfl rfl rfl (by decide) (Yd.ldBs (pos := 0) (us := [_, _]) rfl rfl rfl rfl ON46 US46 SZ46 (.t rfl)) ?_
            refine W.e rfl rfl rfl rfl (by decide) (Ef.bsT (enc := Clause.enc) (vs := [_]) (ys := [({ yes := r43.1.yes, no := r43.1.no } : Clause)]) (fun _ => rfl) IF46 rfl Try.underlying40 (by decide) rfl (.cons (.t rfl) .nil) rfl rfl (by decide)) ?_
            rintro v49 _ rfl
            refine ⟨.inl rfl, ?_⟩
            refine W.cast (m' := m) (l' := hownT 46 2 Clause.enc v49 _ :: hcells b47 [_, _] 46 :: hownT 46 2 Clause.enc v23 _ :: l) rfl rfl ?_
            refine W.e rfl rfl rfl rfl (by decide) (Ef.apI (pos := 2) (enc := Clause.enc) (xs := l22) (ys := ([({ yes := r43.1.yes, no := r43.1.no } : Clause)] : List Clause)) (fun _ => rfl) IF46 rfl rfl Try.underlying40 rfl (by decide) (.t rfl) (.t rfl) (Src.own (pos := 0) rfl) (fun _ => rfl) (by omega) (by omega)) ?_
            rintro v51 _ rfl
            refine ⟨.inl rfl, ?_⟩
            refine W.cast (m' := m) (l' := hownT 46 2 Clause.enc v49 _ :: hcells b47 [_, _] 46 :: hownT 46 2 Clause.enc v51 _ :: l) rfl rfl ?_
            refine W.q rfl rfl rfl rfl (by decide) (Yd.as rfl (.t rfl)) ?_
            refine W.end ?_
            refine NX.sub (env' := [(5, _), (28, _), (29, _), (30, _)]) ⟨rfl, rfl, rfl, rfl, trivial⟩ ?_
            refine NX.drop (l' := hownT 46 2 Clause.enc v51 _ :: l) (.cons _ (.cons _ (.cons_cons _ (.refl _)))) ?_
            refine NX.block ?_
            refine NX.then ?_
            refine Tr.region_f (fun _ => false) ?_
            refine W.q rfl rfl rfl rfl (by decide) (Yd.add rfl (.t rfl) .c) ?_
            refine W.q rfl rfl rfl rfl (by decide) (Yd.mv rfl (.t rfl)) ?_
            refine W.end ?_
            refine NX.sub (env' := [(5, _), (28, _), (29, _), (30, _)]) ⟨rfl, rfl, rfl, rfl, trivial⟩ ?_
            refine NX.sub (env' := [(5, _), (28, _), (29, _), (30, _)]) ⟨rfl, rfl, rfl, rfl, trivial⟩ ?_
            have hw := w64_id (n := t_31 + 1) (by omega) (by omega)
            exact NX.again n34 (t_31 + 1, (l22 ++ ([({ yes := r43.1.yes, no := r43.1.no } : Clause)] : List Clause))) (Nat.lt_succ_self _) ⟨_, (by rw [hw] <;> rfl), rfl, (fr_dec hnt_31), (by omega), ((hnx33 _).symm.trans hr)⟩

def syllogistlaw_ClauseRefutes (fuel : Nat) (n_0 : Int) (l_1 : List Clause) : Option (Bool) :=
  (clause_Refute fuel n_0 l_1).bind fun r1 =>
  (syllogistref_SatCheck n_0 l_1).bind fun r5 =>
  (bif (r5 != (0 : Int)) then
  some (((r1.2 == r5) && ((r1.1.length : Int) == (0 : Int))))
  else
  (syllogistref_First n_0 l_1).bind fun r7 =>
  (bif r7.2 then
  some (((r1.2 == (5 : Int)) && ((r1.1.length : Int) == (0 : Int))))
  else
  bif (!((r1.2 == (0 : Int)) == true) || (syllogistref_Refutes l_1 r1.1).isSome) then
  some (((r1.2 == (0 : Int)) && (((syllogistref_Refutes l_1 r1.1).getD false)))) else none))

set_option maxRecDepth 100000 in
set_option maxHeartbeats 4000000 in
theorem syllogistlaw_ClauseRefutes_ok (w0 : World) (m : Snap) (l : List HI) (fuel : Nat) (n_0 : Int) (ul_1 : Value) (l_1 : List Clause) (hl_1 : RS rClause m ul_1 l_1) (r : Bool) (hr : syllogistlaw_ClauseRefutes fuel n_0 l_1 = some r) (w : World) (hc : cX w0 ⟨m, l⟩ w) :
    Calls Try.prog 8 [.int .i64 n_0, ul_1].toArray w fun e w' => e = .returned (.bool r) ∧ cX w0 ⟨m, l⟩ w' := by
  unfold syllogistlaw_ClauseRefutes at hr
  refine calls_of_Tr (N := 50) Try.func8 rfl hc rfl (Nat.le_of_ble_eq_true rfl) ?_
  refine Tr.seq ?_
  refine Tr.region_f (fun _ => false) ?_
  refine W.q rfl rfl rfl rfl (by decide) (Yd.as rfl .c) ?_
  refine W.end ?_
  refine NX.sub (env' := [(0, _), (1, _)]) ⟨rfl, rfl, trivial⟩ ?_
  refine NX.then ?_
  refine Tr.seq ?_
  obtain ⟨r1, hr2, hr⟩ := bind_some hr
  refine Tr.region_f (fun i => Nat.beq i 2) ?_
  refine W.q rfl rfl rfl rfl (by decide) (Yd.mv rfl (.t rfl)) ?_
  refine W.q rfl rfl rfl rfl (by decide) (Yd.mv rfl (.t rfl)) ?_
  refine W.e rfl rfl rfl rfl (by decide) (Ef.call (R := fun z x' => ∃ v3 : Value, z = .tuple #[v3, .int .i64 r1.2] ∧ x' = ⟨m, hownT 86 2 encP v3 r1.1 :: l⟩) rfl Try.func27 rfl rfl (.cons (.t rfl) (.cons (.t rfl) .nil)) (fun w hw => (clause_Refute_ok w0 _ _ fuel n_0 _ _ hl_1 _ hr2 w hw).mono fun e w' ⟨v3, he, hc'⟩ => ⟨_, _, he, ⟨v3, rfl, rfl⟩, hc'⟩)) ?_
  rintro _ _ ⟨v3, rfl, rfl⟩
  refine ⟨.inl rfl, ?_⟩
  refine W.cast (m' := m) (l' := hownT 86 2 encP v3 _ :: l) rfl rfl ?_
  refine W.q rfl rfl rfl rfl (by decide) (Yd.mv rfl (.t rfl)) ?_
  refine W.q rfl rfl rfl rfl (by decide) (Yd.ext rfl (.t rfl) rfl) ?_
  refine W.q rfl rfl rfl rfl (by decide) (Yd.ext rfl (.t rfl) rfl) ?_
  refine W.q rfl rfl rfl rfl (by decide) (Yd.as rfl (.t rfl)) ?_
  refine W.q rfl rfl rfl rfl (by decide) (Yd.as rfl (.t rfl)) ?_
  refine W.end ?_
  refine NX.sub (env' := [(0, _), (1, _), (5, _), (6, _)]) ⟨rfl, rfl, rfl, rfl, trivial⟩ ?_
  refine NX.then ?_
  refine Tr.seq ?_
  obtain ⟨r5, hr6, hr⟩ := bind_some hr
  refine Tr.region_f (fun _ => false) ?_
  refine W.q rfl rfl rfl rfl (by decide) (Yd.mv rfl (.t rfl)) ?_
  refine W.q rfl rfl rfl rfl (by decide) (Yd.mv rfl (.t rfl)) ?_
  refine W.q rfl rfl rfl rfl (by decide) (Yd.call (v := .int .i64 r5) rfl Try.func22 rfl rfl (.cons (.t rfl) (.cons (.t rfl) .nil)) (fun x' hx w hw => syllogistref_SatCheck_ok w0 x'.m x'.l n_0 _ _ (hl_1.mono hx.1) _ hr6 w hw)) ?_
  refine W.q rfl rfl rfl rfl (by decide) (Yd.as rfl (.t rfl)) ?_
  refine W.end ?_
  refine NX.sub (env' := [(0, _), (1, _), (5, _), (6, _), (7, _)]) ⟨rfl, rfl, rfl, rfl, rfl, trivial⟩ ?_
  refine NX.then ?_
  refine Tr.seq ?_
  refine Tr.seq ?_
  refine Tr.region_f (fun _ => false) ?_
  refine W.q rfl rfl rfl rfl (by decide) (Yd.mv rfl (.t rfl)) ?_
  refine W.q rfl rfl rfl rfl (by decide) (Yd.neq rfl (.t rfl) .c) ?_
  refine W.end ?_
  refine NX.sub (env' := [(0, _), (1, _), (5, _), (6, _), (7, _), (20, _)]) ⟨rfl, rfl, rfl, rfl, rfl, rfl, trivial⟩ ?_
  refine NX.then ?_
  refine Tr.cond (.t rfl) (fun hb => ?_) (fun hb => ?_)
  · have hr := cond_t hb hr
    refine Tr.seq ?_
    refine Tr.region_f (fun _ => false) ?_
    refine W.q rfl rfl rfl rfl (by decide) (Yd.mv rfl (.t rfl)) ?_
    refine W.q rfl rfl rfl rfl (by decide) (Yd.mv rfl (.t rfl)) ?_
    refine W.q rfl rfl rfl rfl (by decide) (Yd.eql rfl (.t rfl) (.t rfl)) ?_
    refine W.q rfl rfl rfl rfl (by decide) (Yd.mv rfl (.t rfl)) ?_
    refine W.g rfl rfl rfl rfl rfl (.t rfl _) rfl (by decide) (fun hG => Yd.mv rfl (.t rfl)) ?_
    refine W.g rfl rfl rfl rfl rfl (.t rfl _) rfl (by decide) (fun hG => Yd.lenO (p := 0) rfl rfl Try.underlying53 (.g rfl hG)) ?_
    refine W.g rfl rfl rfl rfl rfl (.t rfl _) rfl (by decide) (fun hG => Yd.eql rfl (.g rfl hG) .c) ?_
    refine W.q rfl rfl rfl rfl (by decide) (Yd.and rfl (.t rfl) .c rfl rfl) ?_
    refine W.q rfl rfl rfl rfl (by decide) (Yd.as rfl (.t rfl)) ?_
    refine W.end ?_
    refine NX.sub (env' := [(4, _)]) ⟨rfl, trivial⟩ ?_
    refine NX.drop (l' := l) (.cons _ (.refl _)) ?_
    refine NX.then ?_
    refine Tr.ret' (RT.then ?_)
    refine res1 rfl rfl ?_
    intro w hc
    cases hr
    exact ⟨rfl, hc⟩
  · have hr := cond_f hb hr
    refine Tr.skip' ?_
    refine NX.then ?_
    refine Tr.seq ?_
    obtain ⟨r7, hr8, hr⟩ := bind_some hr
    refine Tr.region_f (fun _ => false) ?_
    refine W.q rfl rfl rfl rfl (by decide) (Yd.mv rfl (.t rfl)) ?_
    refine W.q rfl rfl rfl rfl (by decide) (Yd.mv rfl (.t rfl)) ?_
    refine W.q rfl rfl rfl rfl (by decide) (Yd.call (v := .tuple #[.int .u32 (r7.1.toNat : Int), .bool r7.2]) rfl Try.func26 rfl rfl (.cons (.t rfl) (.cons (.t rfl) .nil)) (fun x' hx w hw => syllogistref_First_ok w0 x'.m x'.l n_0 _ _ (hl_1.mono hx.1) _ hr8 w hw)) ?_
    refine W.q rfl rfl rfl rfl (by decide) (Yd.mv rfl (.t rfl)) ?_
    refine W.q rfl rfl rfl rfl (by decide) (Yd.ext rfl (.t rfl) rfl) ?_
    refine W.q rfl rfl rfl rfl (by decide) (Yd.ext rfl (.t rfl) rfl) ?_
    refine W.q rfl rfl rfl rfl (by decide) (Yd.as rfl (.t rfl)) ?_
    refine W.q rfl rfl rfl rfl (by decide) (Yd.as rfl (.t rfl)) ?_
    refine W.end ?_
    refine NX.sub (env' := [(1, _), (5, _), (6, _), (9, _)]) ⟨rfl, rfl, rfl, rfl, trivial⟩ ?_
    refine NX.then ?_
    refine Tr.seq ?_
    refine Tr.seq ?_
    refine Tr.region_f (fun _ => false) ?_
    refine W.q rfl rfl rfl rfl (by decide) (Yd.mv rfl (.t rfl)) ?_
    refine W.end ?_
    refine NX.sub (env' := [(1, _), (5, _), (6, _), (35, _)]) ⟨rfl, rfl, rfl, rfl, trivial⟩ ?_
    refine NX.then ?_
    refine Tr.cond (.t rfl) (fun hb => ?_) (fun hb => ?_)
    · have hr := cond_t hb hr
      refine Tr.seq ?_
      refine Tr.region_f (fun _ => false) ?_
      refine W.q rfl rfl rfl rfl (by decide) (Yd.mv rfl (.t rfl)) ?_
      refine W.q rfl rfl rfl rfl (by decide) (Yd.eql rfl (.t rfl) .c) ?_
      refine W.q rfl rfl rfl rfl (by decide) (Yd.mv rfl (.t rfl)) ?_
      refine W.g rfl rfl rfl rfl rfl (.t rfl _) rfl (by decide) (fun hG => Yd.mv rfl (.t rfl)) ?_
      refine W.g rfl rfl rfl rfl rfl (.t rfl _) rfl (by decide) (fun hG => Yd.lenO (p := 0) rfl rfl Try.underlying53 (.g rfl hG)) ?_
      refine W.g rfl rfl rfl rfl rfl (.t rfl _) rfl (by decide) (fun hG => Yd.eql rfl (.g rfl hG) .c) ?_
      refine W.q rfl rfl rfl rfl (by decide) (Yd.and rfl (.t rfl) .c rfl rfl) ?_
      refine W.q rfl rfl rfl rfl (by decide) (Yd.as rfl (.t rfl)) ?_
      refine W.end ?_
      refine NX.sub (env' := [(4, _)]) ⟨rfl, trivial⟩ ?_
      refine NX.drop (l' := l) (.cons _ (.refl _)) ?_
      refine NX.then ?_
      refine Tr.ret' (RT.then ?_)
      refine res1 rfl rfl ?_
      intro w hc
      cases hr
      exact ⟨rfl, hc⟩
    · have hr := cond_f hb hr
      refine Tr.skip' ?_
      refine NX.then ?_
      refine Tr.seq ?_
      obtain ⟨ha9, hr⟩ := guard_some hr
      refine Tr.region_f (fun _ => false) ?_
      refine W.q rfl rfl rfl rfl (by decide) (Yd.mv rfl (.t rfl)) ?_
      refine W.q rfl rfl rfl rfl (by decide) (Yd.eql rfl (.t rfl) .c) ?_
      refine W.q rfl rfl rfl rfl (by decide) (Yd.mv rfl (.t rfl)) ?_
      refine W.g rfl rfl rfl rfl rfl (.t rfl _) rfl (by decide) (fun hG => Yd.mv rfl (.t rfl)) ?_
      refine W.g rfl rfl rfl rfl rfl (.t rfl _) rfl (by decide) (fun hG => Yd.mv rfl (.t rfl)) ?_
      refine W.g rfl rfl rfl rfl rfl (.t rfl _) rfl (by decide) (fun hG => Yd.call (v := .bool ((((syllogistref_Refutes l_1 r1.1).getD false)))) rfl Try.func28 rfl rfl (.cons (.g rfl hG) (.cons (.g rfl hG) .nil)) (by intro x' hx w hw; obtain ⟨p0, hp0⟩ := hx.at (p := 0) rfl; obtain ⟨m2, hm2, hc2, ⟨L2, hl1, hl2⟩, hback⟩ := cX_lend hw hp0 lone_own; have hL1 : RS rP m2 _ _ := RS_of_own hl1 hl2; exact (syllogistref_Refutes_ok w0 m2 _ _ _ (hl_1.mono (hx.1.trans hm2)) _ _ hL1 _ (gd_get (d := false) ha9 hG) w hc2).mono fun e w' ⟨he, hc'⟩ => ⟨he, (hback m2 _ _ w' (.refl _) hp0).2 hc'⟩)) ?_
      refine W.q rfl rfl rfl rfl (by decide) (Yd.and rfl (.t rfl) .c rfl rfl) ?_
      refine W.q rfl rfl rfl rfl (by decide) (Yd.as rfl (.t rfl)) ?_
      refine W.end ?_
      refine NX.sub (env' := [(4, _)]) ⟨rfl, trivial⟩ ?_
      refine NX.drop (l' := l) (.cons _ (.refl _)) ?_
      refine NX.then ?_
      refine Tr.ret' ?_
      refine res1 rfl rfl ?_
      intro w hc
      cases hr
      exact ⟨rfl, hc⟩
end Go.Proofs.Ytmggbhpieikdpaa.Sy
