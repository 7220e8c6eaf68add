/- Functions of the program as plain functions, and that the translation computes them; the conditions stand in each theorem. Printed by an own program. -/
import Derived.Test.YtbbenieabpmghaaSyZ
import Derived.Test.YtbbenieabpmghaaSyT
import Derived.Test.YtbbenieabpmghaaSyMp
import Derived.Test.YtbbenieabpmghaaSyMr
import Derived.Test.YtbbenieabpmghaaSyQu
import Derived.Test.YtbbenieabpmghaaT
import Derived.Test.YtbbenieabpmghaaProg
namespace Go.Proofs.Ytbbenieabpmghaa.Sy
open Go
set_option linter.unusedVariables false
theorem SZ3 : (Try.prog.info? 3).map (·.size) = some 1 := by kernel_rfl
theorem ON3 : one Try.prog 3 = true := by kernel_rfl
theorem SZ40 : (Try.prog.info? 40).map (·.size) = some 1 := by kernel_rfl
theorem ON40 : one Try.prog 40 = true := by kernel_rfl
theorem SZ22 : (Try.prog.info? 22).map (·.size) = some 1 := by kernel_rfl
theorem ON22 : one Try.prog 22 = true := by kernel_rfl
theorem SZ23 : (Try.prog.info? 23).map (·.size) = some 1 := by kernel_rfl
theorem ON23 : one Try.prog 23 = true := by kernel_rfl
theorem IN40 : (Try.prog.info? 40).isSome = true := by kernel_rfl
theorem IF40 : (Try.prog.info? 40).map (fun i => (i.zero, i.size, i.bytes)) = some (some (.slice none 0 0), 1, 24) := by kernel_rfl
theorem IN3 : (Try.prog.info? 3).isSome = true := by kernel_rfl
theorem IF3 : (Try.prog.info? 3).map (fun i => (i.zero, i.size, i.bytes)) = some (some (.int .i64 0), 1, 8) := by kernel_rfl
theorem ON25 : one Try.prog 25 = false := by kernel_rfl
theorem US25 : (Try.prog.underlying 25).isSome = true := by kernel_rfl
theorem SZ25 : (Try.prog.info? 25).map (·.size) = some 5 := by kernel_rfl
theorem IF43 : (Try.prog.info? 43).map (fun i => (i.zero, i.size, i.bytes)) = some (some (.agg #[.int .i64 0, .int .i64 0]), 2, 16) := by kernel_rfl
abbrev ek36 : Int × Int → Value := ekP
theorem MK36 : MK Try.prog 36 ek36 := MK.pair Try.underlying36 Try.underlying3 SZ3
theorem ZI36 : (Try.prog.info? 36).bind (·.zero) = some (.agg #[.int .i64 0, .int .i64 0]) := by kernel_rfl
theorem PA36 : plA Try.prog 36 = some 1 := by kernel_rfl
theorem IF36 : (Try.prog.info? 36).map (fun i => (i.zero, i.size, i.bytes)) = some (some (.agg #[.int .i64 0, .int .i64 0]), 2, 16) := by kernel_rfl
theorem SZ36 : (Try.prog.info? 36).map (·.size) = some 2 := by kernel_rfl
theorem ON36 : one Try.prog 36 = false := by kernel_rfl
theorem US36 : (Try.prog.underlying 36).isSome = true := by kernel_rfl
theorem ZR36 : (Try.prog.info? 36).bind (·.zero) = some (.agg #[.int .i64 0, .int .i64 0]) := by kernel_rfl
theorem IF27 : (Try.prog.info? 27).map (fun i => (i.zero, i.size, i.bytes)) = some (some (.slice none 0 0), 1, 24) := by kernel_rfl
theorem ZI43 : (Try.prog.info? 43).bind (·.zero) = some (.agg #[.int .i64 0, .int .i64 0]) := by kernel_rfl
theorem PL43 : plS Try.prog 43 = some [(0, 1), (1, 1)] := by kernel_rfl
theorem US3 : (Try.prog.underlying 3).isSome = true := by kernel_rfl
theorem SZ43 : (Try.prog.info? 43).map (·.size) = some 2 := by kernel_rfl
theorem ON43 : one Try.prog 43 = false := by kernel_rfl
theorem US43 : (Try.prog.underlying 43).isSome = true := by kernel_rfl
theorem GU43 : Try.prog.eqGuardType Try.prog.depth 43 = false := by kernel_rfl
theorem ST43 : Try.prog.stoodInHeld 43 = false := by kernel_rfl
theorem EQ43 (w : World) (x0 : Int) (x1 : Int) (y0 : Int) (y1 : Int) : (binOp .eql 43 (.agg #[.int .i64 x0, .int .i64 x1]) (.agg #[.int .i64 y0, .int .i64 y1])).run Try.prog w = .ok (.bool ((x0 == y0) && ((x1 == y1) && true))) w :=
  eq_s w Try.underlying43 ST43 (fun d => (eqf_cons w rfl (part_one w ON3 rfl) (part_one w ON3 rfl) (run_equalIn_int w _ _ _ _ _ _ Try.underlying3) (eqf_cons w rfl (part_one w ON3 rfl) (part_one w ON3 rfl) (run_equalIn_int w _ _ _ _ _ _ Try.underlying3) (eqf_nil w))))
theorem FM : Try.prog.follows .mixedOrders = true := by kernel_rfl

def view_shaped_c1 (l_0 : List Int) (cp_0 : Machine) : Option (Bool) :=
  some (((l_0.length : Int) != cp_0.acts))

set_option maxRecDepth 100000 in
set_option maxHeartbeats 4000000 in
theorem view_shaped_c1_ok (w0 : World) (m : Snap) (l : List HI) (ul_0 : Value) (l_0 : List Int) (hl_0 : RS rI m ul_0 l_0) (fp0 fb0 : Nat) (cp_0 : Machine) (uc0_3 : Value) (hc0_3 : RS (Rp.slice (Rp.slice rI)) m uc0_3 cp_0.next) (uc0_4 : Value) (hc0_4 : RS (Rp.slice rI) m uc0_4 cp_0.sees) (hfp0 : l[fp0]? = some (hcells fb0 [.int .i64 cp_0.n, .int .i64 cp_0.users, .int .i64 cp_0.acts, uc0_3, uc0_4] 25)) (r : Bool) (hr : view_shaped_c1 l_0 cp_0 = some r) (w : World) (hc : cX w0 ⟨m, l⟩ w) :
    Calls Try.prog 24 [ul_0, bp fb0 0].toArray w fun e w' => e = .returned (.bool r) ∧ cX w0 ⟨m, l⟩ w' := by
  unfold view_shaped_c1 at hr
  refine calls_of_Tr (N := 9) Try.func24 rfl hc rfl (Nat.le_of_ble_eq_true rfl) ?_
  refine Tr.seq ?_
  refine Tr.region_f (fun _ => false) ?_
  refine W.q rfl rfl rfl rfl (by decide) (Yd.as rfl .c) ?_
  refine W.end ?_
  refine NX.sub (env' := [(0, _), (1, _)]) ⟨rfl, rfl, trivial⟩ ?_
  refine NX.then ?_
  refine Tr.seq ?_
  refine Tr.region_f (fun _ => false) ?_
  refine W.q rfl rfl rfl rfl (by decide) (Yd.mv rfl (.t rfl)) ?_
  refine W.q rfl rfl rfl rfl (by decide) (Yd.lenR hl_0 rfl Try.underlying40 (.t rfl)) ?_
  refine W.q rfl rfl rfl rfl (by decide) (Yd.fldB rfl Try.underlying25 rfl SZ3 rfl (.t rfl)) ?_
  refine W.q rfl rfl rfl rfl (by decide) (Yd.ldB (pos := fp0) hfp0 rfl rfl ON3 (.t rfl)) ?_
  refine W.q rfl rfl rfl rfl (by decide) (Yd.neq rfl (.t rfl) (.t rfl)) ?_
  refine W.q rfl rfl rfl rfl (by decide) (Yd.as rfl (.t rfl)) ?_
  refine W.end ?_
  refine NX.sub (env' := [(3, _)]) ⟨rfl, trivial⟩ ?_
  refine NX.then ?_
  refine Tr.ret' ?_
  refine res1 rfl rfl ?_
  intro w hc
  cases hr
  exact ⟨rfl, hc⟩

def slices_IndexFunc_SSintSint_k3 : Option (Int) :=
  some ((-1 : Int))

def slices_IndexFunc_SSintSint_b7 (s_0 : List (List Int)) (f_1 : List Int → Option Bool) (t_6 : Int) (nx8 : Unit → Option (Int)) : Option (Int) :=
  (geti s_0 t_6).bind fun y10 =>
  (f_1 y10).bind fun r15 =>
  (bif r15 then
  some t_6
  else
  nx8 ())

def slices_IndexFunc_SSintSint (s_0 : List (List Int)) (f_1 : List Int → Option Bool) : Option (Int) :=
  forK (σ := Unit) (fun i s nx_ => slices_IndexFunc_SSintSint_b7 s_0 f_1 i nx_) (fun _ => slices_IndexFunc_SSintSint_k3) ((s_0.length : Int) - (0 : Int)).toNat (0 : Int) ()

set_option maxRecDepth 100000 in
set_option maxHeartbeats 4000000 in
theorem slices_IndexFunc_SSintSint_ok (w0 : World) (m : Snap) (l : List HI) (us_0 : Value) (s_0 : List (List Int)) (hs_0 : RS (Rp.slice rI) m us_0 s_0) (uf_1 : Value) (f_1 : List Int → Option Bool) (hf_1 : Fq Try.prog w0 ⟨m, l⟩ uf_1 (α := List Int) (β := Bool) (fun m v a => RS rI m v a) (fun b => .bool b) f_1) (r : Int) (hr : slices_IndexFunc_SSintSint s_0 f_1 = some r) (w : World) (hc : cX w0 ⟨m, l⟩ w) :
    Calls Try.prog 28 [us_0, uf_1].toArray w fun e w' => e = .returned (.int .i64 r) ∧ cX w0 ⟨m, l⟩ w' := by
  unfold slices_IndexFunc_SSintSint at hr
  refine calls_of_Tr (N := 19) Try.func28 rfl hc rfl (Nat.le_of_ble_eq_true rfl) ?_
  refine Tr.seq ?_
  refine Tr.region_f (fun _ => false) ?_
  refine W.q rfl rfl rfl rfl (by decide) (Yd.as rfl .c) ?_
  refine W.end ?_
  refine NX.sub (env' := [(0, _), (1, _)]) ⟨rfl, rfl, trivial⟩ ?_
  refine NX.then ?_
  refine Tr.seq ?_
  refine Tr.seq ?_
  refine Tr.region_f (fun _ => false) ?_
  refine W.q rfl rfl rfl rfl (by decide) (Yd.mv rfl (.t rfl)) ?_
  refine W.q rfl rfl rfl rfl (by decide) (Yd.lenR hs_0 rfl Try.underlying23 (.t rfl)) ?_
  refine W.q rfl rfl rfl rfl (by decide) (Yd.mv rfl .c) ?_
  refine W.end ?_
  refine NX.sub (env' := [(0, _), (1, _), (7, _), (8, _)]) ⟨rfl, rfl, rfl, rfl, trivial⟩ ?_
  refine NX.then ?_
  refine Tr.join (S := fun env x => env = [] ∧ x = ⟨m, l⟩ ∧ slices_IndexFunc_SSintSint_k3 = some r) ?_ (fun hk4 => ?_)
  · rintro _ _ ⟨rfl, rfl, hr⟩
    unfold slices_IndexFunc_SSintSint_k3 at hr
    try dsimp only at hr
    refine NX.then ?_
    refine Tr.seq ?_
    refine Tr.region_f (fun _ => false) ?_
    refine W.q rfl rfl rfl rfl (by decide) (Yd.as rfl .c) ?_
    refine W.end ?_
    refine NX.sub (env' := [(4, _)]) ⟨rfl, trivial⟩ ?_
    refine NX.then ?_
    refine Tr.ret' ?_
    refine res1 rfl rfl ?_
    intro w hc
    cases hr
    exact ⟨rfl, hc⟩
  have hlen5 := (hs_0).2.1
  refine Tr.block ?_
  refine Tr.sub (env' := [(0, _), (1, _), (7, _), (8, _)]) ⟨rfl, rfl, rfl, rfl, trivial⟩ ?_
  refine Tr.loop (S := fun n (z : Int × Unit) env x => match z with | (t_6, _) => env = [(0, us_0), (1, uf_1), (7, .int .i64 ((s_0.length : Int))), (8, .int .i64 t_6)] ∧ x = ⟨m, l⟩ ∧ n = ((s_0.length : Int) - t_6).toNat ∧ 0 ≤ t_6 ∧ forK (σ := Unit) (fun i s nx_ => slices_IndexFunc_SSintSint_b7 s_0 f_1 i nx_) (fun _ => slices_IndexFunc_SSintSint_k3) n t_6 () = some r) _ ((0 : Int), ()) ⟨rfl, rfl, rfl, (by omega), hr⟩ ?_
  rintro n9 ⟨t_6, _⟩ env x ⟨rfl, rfl, hnt_6, h0t_6, hr⟩
  cases n9 with
  | zero =>
    simp only [forK] at hr
    refine Tr.seq ?_
    refine Tr.region_f (fun _ => false) ?_
    refine W.q rfl rfl rfl rfl (by decide) (Yd.lss rfl (.t rfl) (.t rfl)) ?_
    refine W.end ?_
    refine NX.sub (env' := [(0, _), (1, _), (7, _), (8, _), (9, _)]) ⟨rfl, rfl, rfl, rfl, rfl, trivial⟩ ?_
    refine NX.then ?_
    refine Tr.seq ?_
    refine Tr.cond (.t rfl) (fun hb => ?_) (fun hb => ?_)
    · exact absurd (hb.symm.trans (fr_end hnt_6)) (by decide)
    ·
      refine Tr.exit' (EX.then (EX.then (EX.block ?_)))
      refine NX.sub (env' := []) trivial ?_
      exact hk4 _ _ ⟨rfl, rfl, hr⟩
  | succ n9 =>
    obtain ⟨nx8, hnx8, hr⟩ := forK_succ hr
    try dsimp only at hr
    unfold slices_IndexFunc_SSintSint_b7 at hr
    try dsimp only at hr
    have hltt_6 := fr_bnd hnt_6
    refine Tr.seq ?_
    refine Tr.region_f (fun _ => false) ?_
    refine W.q rfl rfl rfl rfl (by decide) (Yd.lss rfl (.t rfl) (.t rfl)) ?_
    refine W.end ?_
    refine NX.sub (env' := [(0, _), (1, _), (7, _), (8, _), (9, _)]) ⟨rfl, rfl, rfl, rfl, rfl, trivial⟩ ?_
    refine NX.then ?_
    refine Tr.seq ?_
    refine Tr.cond (.t rfl) (fun hb => ?_) (fun hb => ?_)
    rotate_left
    · exact absurd (hb.symm.trans (fr_go hnt_6)) (by decide)
    ·
      refine Tr.skip' ?_
      refine NX.then ?_
      refine Tr.seq ?_
      refine Tr.block ?_
      refine Tr.seq ?_
      refine Tr.region_f (fun _ => false) ?_
      refine W.q rfl rfl rfl rfl (by decide) (Yd.mv rfl (.t rfl)) ?_
      refine W.q rfl rfl rfl rfl (by decide) (Yd.as rfl (.t rfl)) ?_
      refine W.end ?_
      refine NX.sub (env' := [(0, _), (1, _), (7, _), (8, _), (5, _)]) ⟨rfl, rfl, rfl, rfl, rfl, trivial⟩ ?_
      refine NX.then ?_
      refine Tr.seq ?_
      obtain ⟨y10, hy11, hr⟩ := bind_some hr
      obtain ⟨r15, hr16, hr⟩ := bind_some hr
      refine Tr.region_f (fun _ => false) ?_
      refine W.q rfl rfl rfl rfl (by decide) (Yd.mv rfl (.t rfl)) ?_
      refine W.q rfl rfl rfl rfl (by decide) (Yd.mv rfl (.t rfl)) ?_
      refine W.q rfl rfl rfl rfl (by decide) (Yd.mv rfl (.t rfl)) ?_
      refine W.q rfl rfl rfl rfl (by decide) (Yd.idxR hs_0 hy11 rfl Try.underlying23 SZ40 (.t rfl) (.t rfl)) ?_
      obtain ⟨u12, hu13, hat14⟩ := hs_0.row hy11
      refine W.q rfl rfl rfl rfl (by decide) (Yd.ldRow hat14 (.refl _) rfl ON40 (.t rfl)) ?_
      refine W.q rfl rfl rfl rfl (by decide) (Yd.callF hf_1 ⟨(.refl _), [], rfl⟩ rfl (.t rfl) (.t rfl) (fun _ hm => hu13.mono hm) hr16) ?_
      refine W.end ?_
      refine NX.sub (env' := [(0, _), (1, _), (7, _), (8, _), (5, _), (16, _)]) ⟨rfl, rfl, rfl, rfl, rfl, rfl, trivial⟩ ?_
      refine NX.then ?_
      refine Tr.cond (.t rfl) (fun hb => ?_) (fun hb => ?_)
      · have hr := cond_t hb hr
        refine Tr.seq ?_
        refine Tr.region_f (fun _ => false) ?_
        refine W.q rfl rfl rfl rfl (by decide) (Yd.mv rfl (.t rfl)) ?_
        refine W.q rfl rfl rfl rfl (by decide) (Yd.as rfl (.t rfl)) ?_
        refine W.end ?_
        refine NX.sub (env' := [(4, _)]) ⟨rfl, trivial⟩ ?_
        refine NX.then ?_
        refine Tr.ret' (RT.block (RT.then (RT.then (RT.block (RT.then ?_)))))
        refine res1 rfl rfl ?_
        intro w hc
        cases hr
        exact ⟨rfl, hc⟩
      · have hr := cond_f hb hr
        refine Tr.skip' ?_
        refine NX.block ?_
        refine NX.then ?_
        refine Tr.region_f (fun _ => false) ?_
        refine W.q rfl rfl rfl rfl (by decide) (Yd.add rfl (.t rfl) .c) ?_
        refine W.q rfl rfl rfl rfl (by decide) (Yd.mv rfl (.t rfl)) ?_
        refine W.end ?_
        refine NX.sub (env' := [(0, _), (1, _), (7, _), (8, _)]) ⟨rfl, rfl, rfl, rfl, trivial⟩ ?_
        refine NX.sub (env' := [(0, _), (1, _), (7, _), (8, _)]) ⟨rfl, rfl, rfl, rfl, trivial⟩ ?_
        have hw := w64_id (n := t_6 + 1) (by omega) (by omega)
        exact NX.again n9 (t_6 + 1, ()) (Nat.lt_succ_self _) ⟨(by rw [hw] <;> rfl), rfl, (fr_dec hnt_6), (by omega), ((hnx8 _).symm.trans hr)⟩

def slices_ContainsFunc_SSintSint (s_0 : List (List Int)) (f_1 : List Int → Option Bool) : Option (Bool) :=
  (slices_IndexFunc_SSintSint s_0 f_1).bind fun r1 =>
  some ((decide (r1 ≥ (0 : Int))))

set_option maxRecDepth 100000 in
set_option maxHeartbeats 4000000 in
theorem slices_ContainsFunc_SSintSint_ok (w0 : World) (m : Snap) (l : List HI) (us_0 : Value) (s_0 : List (List Int)) (hs_0 : RS (Rp.slice rI) m us_0 s_0) (uf_1 : Value) (f_1 : List Int → Option Bool) (hf_1 : Fq Try.prog w0 ⟨m, l⟩ uf_1 (α := List Int) (β := Bool) (fun m v a => RS rI m v a) (fun b => .bool b) f_1) (r : Bool) (hr : slices_ContainsFunc_SSintSint s_0 f_1 = some r) (w : World) (hc : cX w0 ⟨m, l⟩ w) :
    Calls Try.prog 23 [us_0, uf_1].toArray w fun e w' => e = .returned (.bool r) ∧ cX w0 ⟨m, l⟩ w' := by
  unfold slices_ContainsFunc_SSintSint at hr
  refine calls_of_Tr (N := 9) Try.func23 rfl hc rfl (Nat.le_of_ble_eq_true rfl) ?_
  refine Tr.seq ?_
  refine Tr.region_f (fun _ => false) ?_
  refine W.q rfl rfl rfl rfl (by decide) (Yd.as rfl .c) ?_
  refine W.end ?_
  refine NX.sub (env' := [(0, _), (1, _)]) ⟨rfl, rfl, trivial⟩ ?_
  refine NX.then ?_
  refine Tr.seq ?_
  obtain ⟨r1, hr2, hr⟩ := bind_some hr
  refine Tr.region_f (fun _ => false) ?_
  refine W.q rfl rfl rfl rfl (by decide) (Yd.mv rfl (.t rfl)) ?_
  refine W.q rfl rfl rfl rfl (by decide) (Yd.mv rfl (.t rfl)) ?_
  refine W.q rfl rfl rfl rfl (by decide) (Yd.call (v := .int .i64 r1) rfl Try.func28 rfl rfl (.cons (.t rfl) (.cons (.t rfl) .nil)) (fun x' hx w hw => slices_IndexFunc_SSintSint_ok w0 x'.m x'.l _ _ (hs_0.mono hx.1) _ f_1 (hf_1.mono (leX_trans _ _ _ ⟨(.refl _), [], rfl⟩ hx)) _ hr2 w hw)) ?_
  refine W.q rfl rfl rfl rfl (by decide) (Yd.geq rfl (.t rfl) .c) ?_
  refine W.q rfl rfl rfl rfl (by decide) (Yd.as rfl (.t rfl)) ?_
  refine W.end ?_
  refine NX.sub (env' := [(4, _)]) ⟨rfl, trivial⟩ ?_
  refine NX.then ?_
  refine Tr.ret' ?_
  refine res1 rfl rfl ?_
  intro w hc
  cases hr
  exact ⟨rfl, hc⟩

def view_shaped_k5 : Option (Bool) :=
  some true

def view_shaped_b9 (m_0 : Machine) (t_8 : Int) (nx10 : Unit → Option (Bool)) : Option (Bool) :=
  (geti m_0.next t_8).bind fun y12 =>
  bif (!(((y12.length : Int) != m_0.users) == false) || (geti m_0.sees t_8).isSome) then
  bif (!((((y12.length : Int) != m_0.users) || (((((geti m_0.sees t_8).getD [])).length : Int) != m_0.users)) == false) || (slices_ContainsFunc_SSintSint y12 (fun a => view_shaped_c1 a (({ n := m_0.n, users := m_0.users, acts := m_0.acts, next := m_0.next, sees := m_0.sees } : Machine)))).isSome) then
  (bif ((((y12.length : Int) != m_0.users) || (((((geti m_0.sees t_8).getD [])).length : Int) != m_0.users)) || (((slices_ContainsFunc_SSintSint y12 (fun a => view_shaped_c1 a (({ n := m_0.n, users := m_0.users, acts := m_0.acts, next := m_0.next, sees := m_0.sees } : Machine)))).getD false))) then
  some false
  else
  nx10 ()) else none else none

def view_shaped (m_0 : Machine) : Option (Bool) :=
  (bif (((m_0.next.length : Int) != m_0.n) || ((m_0.sees.length : Int) != m_0.n)) then
  some false
  else
  bif decide (m_0.n ≤ 9223372036854775807) then
  forK (σ := Unit) (fun i s nx_ => view_shaped_b9 m_0 i nx_) (fun _ => view_shaped_k5) (m_0.n - (0 : Int)).toNat (0 : Int) () else none)

set_option maxRecDepth 100000 in
set_option maxHeartbeats 4000000 in
theorem view_shaped_ok (w0 : World) (m : Snap) (l : List HI) (m_0 : Machine) (um_0_3 : Value) (hm_0_3 : RS (Rp.slice (Rp.slice rI)) m um_0_3 m_0.next) (um_0_4 : Value) (hm_0_4 : RS (Rp.slice rI) m um_0_4 m_0.sees) (r : Bool) (hr : view_shaped m_0 = some r) (w : World) (hc : cX w0 ⟨m, l⟩ w) :
    Calls Try.prog 18 [.agg #[.int .i64 m_0.n, .int .i64 m_0.users, .int .i64 m_0.acts, um_0_3, um_0_4]].toArray w fun e w' => e = .returned (.bool r) ∧ cX w0 ⟨m, l⟩ w' := by
  unfold view_shaped at hr
  refine calls_of_Tr (N := 53) Try.func18 rfl hc rfl (Nat.le_of_ble_eq_true rfl) ?_
  refine Tr.seq ?_
  refine Tr.region_f (fun i => Nat.beq i 0) ?_
  refine W.e rfl rfl rfl rfl (by decide) (Ef.bx rfl (.t rfl) rfl) ?_
  rintro _ _ ⟨b1, rfl, rfl⟩
  refine ⟨.inl rfl, ?_⟩
  refine W.cast (m' := m) (l' := hcells b1 [_, _, _, _, _] 25 :: l) rfl rfl ?_
  refine W.q rfl rfl rfl rfl (by decide) (Yd.as rfl .c) ?_
  refine W.end ?_
  refine NX.sub (env' := [(1, _)]) ⟨rfl, trivial⟩ ?_
  refine NX.then ?_
  refine Tr.seq ?_
  refine Tr.seq ?_
  refine Tr.region_f (fun _ => false) ?_
  refine W.q rfl rfl rfl rfl (by decide) (Yd.fldB rfl Try.underlying25 rfl SZ22 rfl (.t rfl)) ?_
  refine W.q rfl rfl rfl rfl (by decide) (Yd.ldB (pos := 0) rfl rfl rfl ON22 (.t rfl)) ?_
  refine W.q rfl rfl rfl rfl (by decide) (Yd.lenR hm_0_3 rfl Try.underlying22 (.t rfl)) ?_
  refine W.q rfl rfl rfl rfl (by decide) (Yd.fldB rfl Try.underlying25 rfl SZ3 rfl (.t rfl)) ?_
  refine W.q rfl rfl rfl rfl (by decide) (Yd.ldB (pos := 0) rfl rfl rfl ON3 (.t rfl)) ?_
  refine W.q rfl rfl rfl rfl (by decide) (Yd.neq rfl (.t rfl) (.t rfl)) ?_
  refine W.q rfl rfl rfl rfl (by decide) (Yd.mv rfl (.t rfl)) ?_
  refine W.g rfl rfl rfl rfl rfl (.t rfl _) rfl (by decide) (fun hG => Yd.fldB rfl Try.underlying25 rfl SZ23 rfl (.t rfl)) ?_
  refine W.g rfl rfl rfl rfl rfl (.t rfl _) rfl (by decide) (fun hG => Yd.ldB (pos := 0) rfl rfl rfl ON23 (.g rfl hG)) ?_
  refine W.g rfl rfl rfl rfl rfl (.t rfl _) rfl (by decide) (fun hG => Yd.lenR hm_0_4 rfl Try.underlying23 (.g rfl hG)) ?_
  refine W.g rfl rfl rfl rfl rfl (.t rfl _) rfl (by decide) (fun hG => Yd.fldB rfl Try.underlying25 rfl SZ3 rfl (.t rfl)) ?_
  refine W.g rfl rfl rfl rfl rfl (.t rfl _) rfl (by decide) (fun hG => Yd.ldB (pos := 0) rfl rfl rfl ON3 (.g rfl hG)) ?_
  refine W.g rfl rfl rfl rfl rfl (.t rfl _) rfl (by decide) (fun hG => Yd.neq rfl (.g rfl hG) (.g rfl hG)) ?_
  refine W.q rfl rfl rfl rfl (by decide) (Yd.or rfl (.t rfl) .c rfl rfl) ?_
  refine W.end ?_
  refine NX.sub (env' := [(1, _), (17, _)]) ⟨rfl, rfl, trivial⟩ ?_
  refine NX.then ?_
  refine Tr.cond (.t rfl) (fun hb => ?_) (fun hb => ?_)
  · have hr := cond_t hb hr
    refine Tr.seq ?_
    refine Tr.region_f (fun _ => false) ?_
    refine W.q rfl rfl rfl rfl (by decide) (Yd.as rfl .c) ?_
    refine W.end ?_
    refine NX.sub (env' := [(2, _)]) ⟨rfl, trivial⟩ ?_
    refine NX.drop (l' := l) (.cons _ (.refl _)) ?_
    refine NX.then ?_
    refine Tr.ret' (RT.then ?_)
    refine res1 rfl rfl ?_
    intro w hc
    cases hr
    exact ⟨rfl, hc⟩
  · have hr := cond_f hb hr
    refine Tr.skip' ?_
    refine NX.then ?_
    refine Tr.seq ?_
    refine Tr.seq ?_
    refine Tr.region_f (fun _ => false) ?_
    refine W.q rfl rfl rfl rfl (by decide) (Yd.fldB rfl Try.underlying25 rfl SZ3 rfl (.t rfl)) ?_
    refine W.q rfl rfl rfl rfl (by decide) (Yd.ldB (pos := 0) rfl rfl rfl ON3 (.t rfl)) ?_
    refine W.q rfl rfl rfl rfl (by decide) (Yd.mv rfl .c) ?_
    refine W.end ?_
    refine NX.sub (env' := [(1, _), (19, _), (20, _)]) ⟨rfl, rfl, rfl, trivial⟩ ?_
    refine NX.then ?_
    refine Tr.join (S := fun env x => env = [] ∧ x = ⟨m, l⟩ ∧ view_shaped_k5 = some r) ?_ (fun hk6 => ?_)
    · rintro _ _ ⟨rfl, rfl, hr⟩
      unfold view_shaped_k5 at hr
      try dsimp only at hr
      refine NX.then ?_
      refine Tr.seq ?_
      refine Tr.region_f (fun _ => false) ?_
      refine W.q rfl rfl rfl rfl (by decide) (Yd.as rfl .c) ?_
      refine W.end ?_
      refine NX.sub (env' := [(2, _)]) ⟨rfl, trivial⟩ ?_
      refine NX.then ?_
      refine Tr.ret' ?_
      refine res1 rfl rfl ?_
      intro w hc
      cases hr
      exact ⟨rfl, hc⟩
    obtain ⟨hle7, hr⟩ := guard_some hr; replace hle7 := of_decide_eq_true hle7
    refine Tr.block ?_
    refine Tr.sub (env' := [(1, _), (19, _), (20, _)]) ⟨rfl, rfl, rfl, trivial⟩ ?_
    refine Tr.loop (S := fun n (z : Int × Unit) env x => match z with | (t_8, _) => env = [(1, bp b1 0), (19, .int .i64 m_0.n), (20, .int .i64 t_8)] ∧ x = ⟨m, hcells b1 [.int .i64 m_0.n, .int .i64 m_0.users, .int .i64 m_0.acts, um_0_3, um_0_4] 25 :: l⟩ ∧ n = (m_0.n - t_8).toNat ∧ 0 ≤ t_8 ∧ forK (σ := Unit) (fun i s nx_ => view_shaped_b9 m_0 i nx_) (fun _ => view_shaped_k5) n t_8 () = some r) _ ((0 : Int), ()) ⟨rfl, rfl, rfl, (by omega), hr⟩ ?_
    rintro n11 ⟨t_8, _⟩ env x ⟨rfl, rfl, hnt_8, h0t_8, hr⟩
    cases n11 with
    | zero =>
      simp only [forK] at hr
      refine Tr.seq ?_
      refine Tr.region_f (fun _ => false) ?_
      refine W.q rfl rfl rfl rfl (by decide) (Yd.lss rfl (.t rfl) (.t rfl)) ?_
      refine W.end ?_
      refine NX.sub (env' := [(1, _), (19, _), (20, _), (21, _)]) ⟨rfl, rfl, rfl, rfl, trivial⟩ ?_
      refine NX.then ?_
      refine Tr.seq ?_
      refine Tr.cond (.t rfl) (fun hb => ?_) (fun hb => ?_)
      · exact absurd (hb.symm.trans (fr_end hnt_8)) (by decide)
      ·
        refine Tr.exit' (EX.then (EX.then (EX.block ?_)))
        refine NX.sub (env' := []) trivial ?_
        refine NX.drop (l' := l) (.cons _ (.refl _)) ?_
        exact hk6 _ _ ⟨rfl, rfl, hr⟩
    | succ n11 =>
      obtain ⟨nx10, hnx10, hr⟩ := forK_succ hr
      try dsimp only at hr
      unfold view_shaped_b9 at hr
      try dsimp only at hr
      have hltt_8 := fr_bnd hnt_8
      refine Tr.seq ?_
      refine Tr.region_f (fun _ => false) ?_
      refine W.q rfl rfl rfl rfl (by decide) (Yd.lss rfl (.t rfl) (.t rfl)) ?_
      refine W.end ?_
      refine NX.sub (env' := [(1, _), (19, _), (20, _), (21, _)]) ⟨rfl, rfl, rfl, rfl, trivial⟩ ?_
      refine NX.then ?_
      refine Tr.seq ?_
      refine Tr.cond (.t rfl) (fun hb => ?_) (fun hb => ?_)
      rotate_left
      · exact absurd (hb.symm.trans (fr_go hnt_8)) (by decide)
      ·
        refine Tr.skip' ?_
        refine NX.then ?_
        refine Tr.seq ?_
        refine Tr.block ?_
        refine Tr.seq ?_
        refine Tr.region_f (fun _ => false) ?_
        refine W.q rfl rfl rfl rfl (by decide) (Yd.mv rfl (.t rfl)) ?_
        refine W.q rfl rfl rfl rfl (by decide) (Yd.as rfl (.t rfl)) ?_
        refine W.end ?_
        refine NX.sub (env' := [(1, _), (19, _), (20, _), (3, _)]) ⟨rfl, rfl, rfl, rfl, trivial⟩ ?_
        refine NX.then ?_
        refine Tr.seq ?_
        obtain ⟨y12, hy13, hr⟩ := bind_some hr
        obtain ⟨ha17, hr⟩ := guard_some hr
        obtain ⟨ha21, hr⟩ := guard_some hr
        refine Tr.region_x (fun _ => false) (fun _ => false) (Ord.of [0, 1, 2, 3, 4, 5, 6, 7, 8, 9, 10, 11, 12, 13, 14, 15, 16, 17, 18, 19, 20, 21, 22, 23, 24, 25, 26, 27, 28]) FM (by kernel_rfl) ?_
        refine W.q rfl rfl rfl rfl (by decide) (Yd.fldB rfl Try.underlying25 rfl SZ22 rfl (.t rfl)) ?_
        refine W.q rfl rfl rfl rfl (by decide) (Yd.ldB (pos := 0) rfl rfl rfl ON22 (.t rfl)) ?_
        refine W.q rfl rfl rfl rfl (by decide) (Yd.mv rfl (.t rfl)) ?_
        refine W.q rfl rfl rfl rfl (by decide) (Yd.idxR hm_0_3 hy13 rfl Try.underlying22 SZ23 (.t rfl) (.t rfl)) ?_
        obtain ⟨u14, hu15, hat16⟩ := hm_0_3.row hy13
        refine W.q rfl rfl rfl rfl (by decide) (Yd.ldRow hat16 (.refl _) rfl ON23 (.t rfl)) ?_
        refine W.q rfl rfl rfl rfl (by decide) (Yd.lenR hu15 rfl Try.underlying23 (.t rfl)) ?_
        refine W.q rfl rfl rfl rfl (by decide) (Yd.fldB rfl Try.underlying25 rfl SZ3 rfl (.t rfl)) ?_
        refine W.q rfl rfl rfl rfl (by decide) (Yd.ldB (pos := 0) rfl rfl rfl ON3 (.t rfl)) ?_
        refine W.q rfl rfl rfl rfl (by decide) (Yd.neq rfl (.t rfl) (.t rfl)) ?_
        refine W.q rfl rfl rfl rfl (by decide) (Yd.mv rfl (.t rfl)) ?_
        refine W.g rfl rfl rfl rfl rfl (.t rfl _) rfl (by decide) (fun hG => Yd.fldB rfl Try.underlying25 rfl SZ23 rfl (.t rfl)) ?_
        refine W.g rfl rfl rfl rfl rfl (.t rfl _) rfl (by decide) (fun hG => Yd.ldB (pos := 0) rfl rfl rfl ON23 (.g rfl hG)) ?_
        refine W.g rfl rfl rfl rfl rfl (.t rfl _) rfl (by decide) (fun hG => Yd.mv rfl (.t rfl)) ?_
        refine W.g rfl rfl rfl rfl rfl (.t rfl _) rfl (by decide) (fun hG => Yd.idxR hm_0_4 (gd_get (d := []) ha17 hG) rfl Try.underlying23 SZ40 (.g rfl hG) (.g rfl hG)) ?_
        obtain ⟨u18, hu19⟩ := RS.rowD hm_0_4 (i := t_8)
        refine W.g rfl rfl rfl rfl rfl (.t rfl _) rfl (by decide) (fun hG => Yd.ldRow (hu19 _ (gd_get (d := []) ha17 hG)).2 (.refl _) rfl ON40 (.g rfl hG)) ?_
        refine W.g rfl rfl rfl rfl rfl (.t rfl _) rfl (by decide) (fun hG => Yd.lenR (hu19 _ (gd_get (d := []) ha17 hG)).1 rfl Try.underlying40 (.g rfl hG)) ?_
        refine W.g rfl rfl rfl rfl rfl (.t rfl _) rfl (by decide) (fun hG => Yd.fldB rfl Try.underlying25 rfl SZ3 rfl (.t rfl)) ?_
        refine W.g rfl rfl rfl rfl rfl (.t rfl _) rfl (by decide) (fun hG => Yd.ldB (pos := 0) rfl rfl rfl ON3 (.g rfl hG)) ?_
        refine W.g rfl rfl rfl rfl rfl (.t rfl _) rfl (by decide) (fun hG => Yd.neq rfl (.g rfl hG) (.g rfl hG)) ?_
        refine W.q rfl rfl rfl rfl (by decide) (Yd.or rfl (.t rfl) .c rfl rfl) ?_
        refine W.q rfl rfl rfl rfl (by decide) (Yd.mv rfl (.t rfl)) ?_
        refine W.g rfl rfl rfl rfl rfl (.t rfl _) rfl (by decide) (fun hG => Yd.fldB rfl Try.underlying25 rfl SZ22 rfl (.t rfl)) ?_
        refine W.g rfl rfl rfl rfl rfl (.t rfl _) rfl (by decide) (fun hG => Yd.ldB (pos := 0) rfl rfl rfl ON22 (.g rfl hG)) ?_
        refine W.g rfl rfl rfl rfl rfl (.t rfl _) rfl (by decide) (fun hG => Yd.mv rfl (.t rfl)) ?_
        refine W.g rfl rfl rfl rfl rfl (.t rfl _) rfl (by decide) (fun hG => Yd.idxR hm_0_3 hy13 rfl Try.underlying22 SZ23 (.g rfl hG) (.g rfl hG)) ?_
        refine W.g rfl rfl rfl rfl rfl (.t rfl _) rfl (by decide) (fun hG => Yd.ldRow hat16 (.refl _) rfl ON23 (.g rfl hG)) ?_
        refine W.g rfl rfl rfl rfl rfl (.t rfl _) rfl (by decide) (fun hG => Yd.mkf rfl (.cons (.t rfl) .nil)) ?_
        refine W.g rfl rfl rfl rfl rfl (.t rfl _) rfl (by decide) (fun hG => Yd.call (v := .bool ((((slices_ContainsFunc_SSintSint y12 (fun a => view_shaped_c1 a (({ n := m_0.n, users := m_0.users, acts := m_0.acts, next := m_0.next, sees := m_0.sees } : Machine)))).getD false)))) rfl Try.func23 rfl rfl (.cons (.g rfl hG) (.cons (.g rfl hG) .nil)) (fun x' hx w hw => slices_ContainsFunc_SSintSint_ok w0 x'.m x'.l _ _ (hu15.mono hx.1) _ (fun a => view_shaped_c1 a (({ n := m_0.n, users := m_0.users, acts := m_0.acts, next := m_0.next, sees := m_0.sees } : Machine))) ⟨24, _, _, rfl, Try.func24, rfl, rfl, fun y hy w2 hw2 v a r2 hv hr2 => by obtain ⟨p5, hp5⟩ := (leX_trans _ _ _ hx hy).at (p := 0) rfl; exact view_shaped_c1_ok w0 y.m y.l v a hv p5 _ _ _ (hm_0_3.mono (hx.1.trans hy.1)) _ (hm_0_4.mono (hx.1.trans hy.1)) hp5 r2 hr2 w2 hw2⟩ _ (gd_get (d := false) ha21 hG) w hw)) ?_
        refine W.q rfl rfl rfl rfl (by decide) (Yd.or rfl (.t rfl) .c rfl rfl) ?_
        refine W.end ?_
        refine NX.sub (env' := [(1, _), (19, _), (20, _), (51, _)]) ⟨rfl, rfl, rfl, rfl, trivial⟩ ?_
        refine NX.then ?_
        refine Tr.cond (.t rfl) (fun hb => ?_) (fun hb => ?_)
        · have hr := cond_t hb hr
          refine Tr.seq ?_
          refine Tr.region_f (fun _ => false) ?_
          refine W.q rfl rfl rfl rfl (by decide) (Yd.as rfl .c) ?_
          refine W.end ?_
          refine NX.sub (env' := [(2, _)]) ⟨rfl, trivial⟩ ?_
          refine NX.drop (l' := l) (.cons _ (.refl _)) ?_
          refine NX.then ?_
          refine Tr.ret' (RT.block (RT.then (RT.then (RT.block (RT.then ?_)))))
          refine res1 rfl rfl ?_
          intro w hc
          cases hr
          exact ⟨rfl, hc⟩
        · have hr := cond_f hb hr
          refine Tr.skip' ?_
          refine NX.block ?_
          refine NX.then ?_
          refine Tr.region_f (fun _ => false) ?_
          refine W.q rfl rfl rfl rfl (by decide) (Yd.add rfl (.t rfl) .c) ?_
          refine W.q rfl rfl rfl rfl (by decide) (Yd.mv rfl (.t rfl)) ?_
          refine W.end ?_
          refine NX.sub (env' := [(1, _), (19, _), (20, _)]) ⟨rfl, rfl, rfl, trivial⟩ ?_
          refine NX.sub (env' := [(1, _), (19, _), (20, _)]) ⟨rfl, rfl, rfl, trivial⟩ ?_
          have hw := w64_id (n := t_8 + 1) (by omega) (by omega)
          exact NX.again n11 (t_8 + 1, ()) (Nat.lt_succ_self _) ⟨(by rw [hw] <;> rfl), rfl, (fr_dec hnt_8), (by omega), ((hnx10 _).symm.trans hr)⟩

def slices_Grow_SSintSint_fnil (n_1 : Int) : Option (Unit) :=
  (bif (decide (n_1 < (0 : Int))) then
  none
  else
  (bif (decide ((w64 (n_1 - (w64 ((0 : Int) - ((([] : List (List Int))).length : Int))))) > (0 : Int))) then
  bif decide (0 < (w64 (n_1 - (w64 ((0 : Int) - ((([] : List (List Int))).length : Int))))) ∧ (w64 (n_1 - (w64 ((0 : Int) - ((([] : List (List Int))).length : Int))))) ≤ 140737488355328 ∧ ((w64 (n_1 - (w64 ((0 : Int) - ((([] : List (List Int))).length : Int)))))).toNat * 24 ≤ 140737488355328) then
  some (()) else none
  else
  some (())))

set_option maxRecDepth 100000 in
set_option maxHeartbeats 4000000 in
theorem slices_Grow_SSintSint_fnil_ok (w0 : World) (m : Snap) (l : List HI) (n_1 : Int) (r : Unit) (hr : slices_Grow_SSintSint_fnil n_1 = some r) (w : World) (hc : cX w0 ⟨m, l⟩ w) :
    Calls Try.prog 27 [.slice none 0 0, .int .i64 n_1].toArray w fun e w' => ∃ z0 : Value, e = .returned (z0) ∧ cX w0 ⟨m, hown 40 1 z0 0 [] :: l⟩ w' := by
  unfold slices_Grow_SSintSint_fnil at hr
  refine calls_of_Tr (N := 27) Try.func27 rfl hc rfl (Nat.le_of_ble_eq_true rfl) ?_
  refine Tr.addnil 40 1 ?_
  refine Tr.seq ?_
  refine Tr.region_f (fun _ => false) ?_
  refine W.q rfl rfl rfl rfl (by decide) (Yd.as rfl .c) ?_
  refine W.end ?_
  refine NX.sub (env' := [(0, _), (1, _)]) ⟨rfl, rfl, trivial⟩ ?_
  refine NX.then ?_
  refine Tr.seq ?_
  refine Tr.seq ?_
  refine Tr.region_f (fun _ => false) ?_
  refine W.q rfl rfl rfl rfl (by decide) (Yd.mv rfl (.t rfl)) ?_
  refine W.q rfl rfl rfl rfl (by decide) (Yd.lss rfl (.t rfl) .c) ?_
  refine W.end ?_
  refine NX.sub (env' := [(0, _), (1, _), (6, _)]) ⟨rfl, rfl, rfl, trivial⟩ ?_
  refine NX.then ?_
  refine Tr.cond (.t rfl) (fun hb => ?_) (fun hb => ?_)
  · have hr := cond_t hb hr
    cases hr
  · have hr := cond_f hb hr
    refine Tr.skip' ?_
    refine NX.then ?_
    refine Tr.seq ?_
    refine Tr.seq ?_
    refine Tr.region_f (fun _ => false) ?_
    refine W.q rfl rfl rfl rfl (by decide) (Yd.mv rfl (.t rfl)) ?_
    refine W.q rfl rfl rfl rfl (by decide) (Yd.mv rfl (.t rfl)) ?_
    refine W.q rfl rfl rfl rfl (by decide) (Yd.cap rfl Try.underlying23 (.t rfl)) ?_
    refine W.q rfl rfl rfl rfl (by decide) (Yd.mv rfl (.t rfl)) ?_
    refine W.q rfl rfl rfl rfl (by decide) (Yd.lenO (p := 0) rfl rfl Try.underlying23 (.t rfl)) ?_
    refine W.q rfl rfl rfl rfl (by decide) (Yd.sub rfl (.t rfl) (.t rfl)) ?_
    refine W.q rfl rfl rfl rfl (by decide) (Yd.sub rfl (.t rfl) (.t rfl)) ?_
    refine W.q rfl rfl rfl rfl (by decide) (Yd.as rfl (.t rfl)) ?_
    refine W.end ?_
    refine NX.sub (env' := [(0, _), (1, _)]) ⟨rfl, rfl, trivial⟩ ?_
    refine NX.then ?_
    refine Tr.seq ?_
    refine Tr.region_f (fun _ => false) ?_
    refine W.q rfl rfl rfl rfl (by decide) (Yd.mv rfl (.t rfl)) ?_
    refine W.q rfl rfl rfl rfl (by decide) (Yd.gtr rfl (.t rfl) .c) ?_
    refine W.end ?_
    refine NX.sub (env' := [(0, _), (1, _), (16, _)]) ⟨rfl, rfl, rfl, trivial⟩ ?_
    refine NX.then ?_
    refine Tr.cond (.t rfl) (fun hb => ?_) (fun hb => ?_)
    · have hr := cond_t hb hr
      obtain ⟨hq4, hr⟩ := guard_some hr; replace hq4 := of_decide_eq_true hq4
      refine Tr.region_f (fun i => Nat.beq i 5) ?_
      refine W.q rfl rfl rfl rfl (by decide) (Yd.mv rfl (.t rfl)) ?_
      refine W.q rfl rfl rfl rfl (by decide) (Yd.mv rfl (.t rfl)) ?_
      refine W.q rfl rfl rfl rfl (by decide) (Yd.cap rfl Try.underlying23 (.t rfl)) ?_
      refine W.q rfl rfl rfl rfl (by decide) (Yd.slTo (pos := 0) rfl rfl Try.underlying23 (Option.some_get IN40).symm (.t rfl) (.t rfl) (by decide) (Int.natCast_nonneg _)) ?_
      refine W.q rfl rfl rfl rfl (by decide) (Yd.mv rfl (.t rfl)) ?_
      refine W.e rfl rfl rfl rfl (by decide) (Ef.apMk (pos := 0) IF40 rfl rfl Try.underlying23 Try.underlying3 rfl (by decide) (.t rfl) (.t rfl) hq4) ?_
      rintro v2 _ ⟨cs3, rfl⟩
      refine ⟨.inl rfl, ?_⟩
      refine W.cast (m' := m) (l' := hown 40 1 v2 (((w64 (n_1 - (w64 ((0 : Int) - ((([] : List (List Int))).length : Int)))))).toNat) cs3 :: l) rfl rfl ?_
      refine W.q rfl rfl rfl rfl (by decide) (Yd.mv rfl (.t rfl)) ?_
      refine W.q rfl rfl rfl rfl (by decide) (Yd.len rfl Try.underlying23 (.t rfl)) ?_
      refine W.q rfl rfl rfl rfl (by decide) (Yd.slTo (pos := 0) rfl rfl Try.underlying23 (Option.some_get IN40).symm (.t rfl) (.t rfl) (by decide) (Int.natCast_nonneg _)) ?_
      refine W.q rfl rfl rfl rfl (by decide) (Yd.as rfl (.t rfl)) ?_
      refine W.end ?_
      refine NX.imp (fun w hw => cX_sl0 (p := 0) rfl hw) ?_
      refine NX.cast (m' := m) (l' := hown 40 1 (slTo v2 0) (([] : List (List Int))).length ([] : List Value) :: l) rfl rfl ?_
      refine NX.sub (env' := [(0, _)]) ⟨rfl, trivial⟩ ?_
      refine NX.then ?_
      refine Tr.seq ?_
      refine Tr.region_f (fun _ => false) ?_
      refine W.q rfl rfl rfl rfl (by decide) (Yd.mv rfl (.t rfl)) ?_
      refine W.q rfl rfl rfl rfl (by decide) (Yd.as rfl (.t rfl)) ?_
      refine W.end ?_
      refine NX.sub (env' := [(4, _)]) ⟨rfl, trivial⟩ ?_
      refine NX.then ?_
      refine Tr.ret' ?_
      refine res1 rfl rfl ?_
      intro w hc
      cases hr
      exact ⟨_, rfl, hc⟩
    · have hr := cond_f hb hr
      refine Tr.skip' ?_
      refine NX.then ?_
      refine Tr.seq ?_
      refine Tr.region_f (fun _ => false) ?_
      refine W.q rfl rfl rfl rfl (by decide) (Yd.mv rfl (.t rfl)) ?_
      refine W.q rfl rfl rfl rfl (by decide) (Yd.as rfl (.t rfl)) ?_
      refine W.end ?_
      refine NX.sub (env' := [(4, _)]) ⟨rfl, trivial⟩ ?_
      refine NX.then ?_
      refine Tr.ret' ?_
      refine res1 rfl rfl ?_
      intro w hc
      cases hr
      exact ⟨_, rfl, hc⟩

def slices_Concat_SSintSint_k26 (l22 : List (List Int)) : Option ((List (List Int))) :=
  some l22

def slices_Concat_SSintSint_b32 (slices_0 : List (List (List Int))) (t_31 : Int) (l18 : List (List Int)) (nx33 : (List (List Int)) → Option ((List (List Int)))) : Option ((List (List Int))) :=
  (geti slices_0 t_31).bind fun y35 =>
  bif decide (l18.length + y35.length ≤ 5864062014805) then
  nx33 (l18 ++ y35) else none

def slices_Concat_SSintSint_k6 (slices_0 : List (List (List Int))) (size_5 : Int) : Option ((List (List Int))) :=
  (slices_Grow_SSintSint_fnil size_5).bind fun r8 =>
  forK (σ := (List (List Int))) (fun i s nx_ => slices_Concat_SSintSint_b32 slices_0 i s nx_) (fun s => slices_Concat_SSintSint_k26 s) ((slices_0.length : Int) - (0 : Int)).toNat (0 : Int) (([] : List (List Int)))

def slices_Concat_SSintSint_b47 (slices_0 : List (List (List Int))) (t_46 : Int) (size_3 : Int) (nx48 : Int → Option ((List (List Int)))) : Option ((List (List Int))) :=
  (geti slices_0 t_46).bind fun y50 =>
  (bif (decide ((w64 (size_3 + (y50.length : Int))) < (0 : Int))) then
  none
  else
  nx48 (w64 (size_3 + (y50.length : Int))))

def slices_Concat_SSintSint (slices_0 : List (List (List Int))) : Option ((List (List Int))) :=
  forK (σ := Int) (fun i s nx_ => slices_Concat_SSintSint_b47 slices_0 i s nx_) (fun s => slices_Concat_SSintSint_k6 slices_0 s) ((slices_0.length : Int) - (0 : Int)).toNat (0 : Int) ((0 : Int))

set_option maxRecDepth 100000 in
set_option maxHeartbeats 4000000 in
theorem slices_Concat_SSintSint_ok (w0 : World) (m : Snap) (l : List HI) (uslices_0 : Value) (slices_0 : List (List (List Int))) (hslices_0 : RS (Rp.slice (Rp.slice rI)) m uslices_0 slices_0) (r : (List (List Int))) (hr : slices_Concat_SSintSint slices_0 = some r) (w : World) (hc : cX w0 ⟨m, l⟩ w) :
    Calls Try.prog 21 [uslices_0].toArray w fun e w' => ∃ z0 : Value, ∃ m1 : Snap, e = .returned (z0) ∧ Sle m m1 ∧ RS (Rp.slice rI) m1 z0 r ∧ cX w0 ⟨m1, l⟩ w' := by
  unfold slices_Concat_SSintSint at hr
  refine calls_of_Tr (N := 36) Try.func21 rfl hc rfl (Nat.le_of_ble_eq_true rfl) ?_
  refine Tr.seq ?_
  refine Tr.region_f (fun _ => false) ?_
  refine W.q rfl rfl rfl rfl (by decide) (Yd.as rfl .c) ?_
  refine W.end ?_
  refine NX.sub (env' := [(0, _)]) ⟨rfl, trivial⟩ ?_
  refine NX.then ?_
  refine Tr.seq ?_
  refine Tr.region_f (fun _ => false) ?_
  refine W.q rfl rfl rfl rfl (by decide) (Yd.as rfl .c) ?_
  refine W.end ?_
  refine NX.sub (env' := [(0, _), (3, _)]) ⟨rfl, rfl, trivial⟩ ?_
  refine NX.then ?_
  refine Tr.seq ?_
  refine Tr.seq ?_
  refine Tr.region_f (fun _ => false) ?_
  refine W.q rfl rfl rfl rfl (by decide) (Yd.mv rfl (.t rfl)) ?_
  refine W.q rfl rfl rfl rfl (by decide) (Yd.lenR hslices_0 rfl Try.underlying22 (.t rfl)) ?_
  refine W.q rfl rfl rfl rfl (by decide) (Yd.mv rfl .c) ?_
  refine W.end ?_
  refine NX.sub (env' := [(0, _), (3, _), (9, _), (10, _), (11, _)]) ⟨rfl, rfl, rfl, rfl, rfl, trivial⟩ ?_
  refine NX.then ?_
  refine Tr.join (S := fun env x => ∃ size_5 : Int, env = [(0, uslices_0), (3, .int .i64 size_5)] ∧ x = ⟨m, l⟩ ∧ slices_Concat_SSintSint_k6 slices_0 size_5 = some r) ?_ (fun hk7 => ?_)
  · rintro _ _ ⟨size_5, rfl, rfl, hr⟩
    unfold slices_Concat_SSintSint_k6 at hr
    try dsimp only at hr
    refine NX.then ?_
    refine Tr.seq ?_
    obtain ⟨r8, hr9, hr⟩ := bind_some hr
    refine Tr.region_f (fun i => Nat.beq i 1) ?_
    refine W.q rfl rfl rfl rfl (by decide) (Yd.mv rfl (.t rfl)) ?_
    refine W.e rfl rfl rfl rfl (by decide) (Ef.call (R := fun z x' => ∃ v10 : Value, z = v10 ∧ x' = ⟨m, hown 40 1 v10 (([] : List (List Int))).length ([] : List Value) :: l⟩) rfl Try.func27 rfl rfl (.cons .c (.cons (.t rfl) .nil)) (fun w hw => (slices_Grow_SSintSint_fnil_ok w0 _ _ size_5 _ hr9 w hw).mono fun e w' ⟨v10, he, hc'⟩ => ⟨_, _, he, ⟨v10, rfl, rfl⟩, hc'⟩)) ?_
    rintro v10 _ ⟨_, rfl, rfl⟩
    refine ⟨.inl rfl, ?_⟩
    refine W.cast (m' := m) (l' := hown 40 1 v10 _ _ :: l) rfl rfl ?_
    refine W.q rfl rfl rfl rfl (by decide) (Yd.as rfl (.t rfl)) ?_
    refine W.end ?_
    refine NX.sub (env' := [(0, _), (6, _)]) ⟨rfl, rfl, trivial⟩ ?_
    refine NX.then ?_
    refine Tr.seq ?_
    refine Tr.seq ?_
    refine Tr.region_f (fun _ => false) ?_
    refine W.q rfl rfl rfl rfl (by decide) (Yd.mv rfl (.t rfl)) ?_
    refine W.q rfl rfl rfl rfl (by decide) (Yd.lenR hslices_0 rfl Try.underlying22 (.t rfl)) ?_
    refine W.q rfl rfl rfl rfl (by decide) (Yd.mv rfl .c) ?_
    refine W.end ?_
    refine NX.sub (env' := [(6, _), (25, _), (26, _), (27, _)]) ⟨rfl, rfl, rfl, rfl, trivial⟩ ?_
    refine NX.then ?_
    refine Tr.join (S := fun env x => ∃ l22 : List (List Int), ∃ v23 : Value, ∃ us24 : List Value, Rows rI m us24 l22 ∧ env = [(6, v23)] ∧ x = ⟨m, hown 40 1 v23 l22.length us24 :: l⟩ ∧ slices_Concat_SSintSint_k26 l22 = some r) ?_ (fun hk27 => ?_)
    · rintro _ _ ⟨l22, v23, us24, hw25, rfl, rfl, hr⟩
      unfold slices_Concat_SSintSint_k26 at hr
      try dsimp only at hr
      refine NX.then ?_
      refine Tr.seq ?_
      refine Tr.region_f (fun _ => false) ?_
      refine W.q rfl rfl rfl rfl (by decide) (Yd.mv rfl (.t rfl)) ?_
      refine W.q rfl rfl rfl rfl (by decide) (Yd.as rfl (.t rfl)) ?_
      refine W.end ?_
      refine NX.sub (env' := [(2, _)]) ⟨rfl, trivial⟩ ?_
      refine NX.then ?_
      refine Tr.ret' ?_
      refine res1 rfl rfl ?_
      intro w hc
      cases hr
      obtain ⟨m28, hsm28, hu29, hc⟩ := cX_freezeR (p := 0) hc hw25 rfl
      have hslices_0 := hslices_0.mono hsm28
      have hw25 := hw25.mono hsm28
      exact ⟨_, _, rfl, hsm28, hu29, hc⟩
    have hlen30 := (hslices_0).2.1
    refine Tr.block ?_
    refine Tr.sub (env' := [(6, _), (25, _), (26, _), (27, _)]) ⟨rfl, rfl, rfl, rfl, trivial⟩ ?_
    refine Tr.loop (S := fun n (z : Int × (List (List Int))) env x => match z with | (t_31, l18) => ∃ v19 : Value, ∃ us20 : List Value, Rows rI m us20 l18 ∧ env = [(6, v19), (25, uslices_0), (26, .int .i64 ((slices_0.length : Int))), (27, .int .i64 t_31)] ∧ x = ⟨m, hown 40 1 v19 l18.length us20 :: l⟩ ∧ n = ((slices_0.length : Int) - t_31).toNat ∧ 0 ≤ t_31 ∧ forK (σ := (List (List Int))) (fun i s nx_ => slices_Concat_SSintSint_b32 slices_0 i s nx_) (fun s => slices_Concat_SSintSint_k26 s) n t_31 l18 = some r) _ ((0 : Int), ([] : List (List Int))) ⟨_, _, (Rows.nil _ _), rfl, rfl, rfl, (by omega), hr⟩ ?_
    rintro n34 ⟨t_31, l18⟩ env x ⟨v19, us20, hw21, rfl, rfl, hnt_31, h0t_31, hr⟩
    cases n34 with
    | zero =>
      simp only [forK] at hr
      refine Tr.seq ?_
      refine Tr.region_f (fun _ => false) ?_
      refine W.q rfl rfl rfl rfl (by decide) (Yd.lss rfl (.t rfl) (.t rfl)) ?_
      refine W.end ?_
      refine NX.sub (env' := [(6, _), (25, _), (26, _), (27, _), (28, _)]) ⟨rfl, rfl, rfl, rfl, rfl, trivial⟩ ?_
      refine NX.then ?_
      refine Tr.seq ?_
      refine Tr.cond (.t rfl) (fun hb => ?_) (fun hb => ?_)
      · exact absurd (hb.symm.trans (fr_end hnt_31)) (by decide)
      ·
        refine Tr.exit' (EX.then (EX.then (EX.block ?_)))
        refine NX.sub (env' := [(6, _)]) ⟨rfl, trivial⟩ ?_
        exact hk27 _ _ ⟨_, _, _, hw21, rfl, rfl, hr⟩
    | succ n34 =>
      obtain ⟨nx33, hnx33, hr⟩ := forK_succ hr
      try dsimp only at hr
      unfold slices_Concat_SSintSint_b32 at hr
      try dsimp only at hr
      have hltt_31 := fr_bnd hnt_31
      refine Tr.seq ?_
      refine Tr.region_f (fun _ => false) ?_
      refine W.q rfl rfl rfl rfl (by decide) (Yd.lss rfl (.t rfl) (.t rfl)) ?_
      refine W.end ?_
      refine NX.sub (env' := [(6, _), (25, _), (26, _), (27, _), (28, _)]) ⟨rfl, rfl, rfl, rfl, rfl, trivial⟩ ?_
      refine NX.then ?_
      refine Tr.seq ?_
      refine Tr.cond (.t rfl) (fun hb => ?_) (fun hb => ?_)
      rotate_left
      · exact absurd (hb.symm.trans (fr_go hnt_31)) (by decide)
      ·
        refine Tr.skip' ?_
        refine NX.then ?_
        refine Tr.seq ?_
        refine Tr.block ?_
        refine Tr.seq ?_
        obtain ⟨y35, hy36, hr⟩ := bind_some hr
        refine Tr.region_f (fun _ => false) ?_
        refine W.q rfl rfl rfl rfl (by decide) (Yd.idxR hslices_0 hy36 rfl Try.underlying22 SZ23 (.t rfl) (.t rfl)) ?_
        obtain ⟨u37, hu38, hat39⟩ := hslices_0.row hy36
        refine W.q rfl rfl rfl rfl (by decide) (Yd.ldRow hat39 (.refl _) rfl ON23 (.t rfl)) ?_
        refine W.q rfl rfl rfl rfl (by decide) (Yd.as rfl (.t rfl)) ?_
        refine W.end ?_
        refine NX.sub (env' := [(6, _), (25, _), (26, _), (27, _), (8, _)]) ⟨rfl, rfl, rfl, rfl, rfl, trivial⟩ ?_
        refine NX.then ?_
        obtain ⟨hq44, hr⟩ := guard_some hr; replace hq44 := of_decide_eq_true hq44
        refine Tr.region_f (fun i => Nat.beq i 2) ?_
        refine W.q rfl rfl rfl rfl (by decide) (Yd.mv rfl (.t rfl)) ?_
        refine W.q rfl rfl rfl rfl (by decide) (Yd.mv rfl (.t rfl)) ?_
        obtain ⟨us41, hw42, hsr43⟩ := RS.rowsOf hu38
        refine W.e rfl rfl rfl rfl (by decide) (Ef.apRR (pos := 0) (xss := l18) (yss := y35) IF40 rfl hw42 (hsr43 _ _ (.refl _)) rfl Try.underlying23 rfl (.t rfl) (.t rfl) (by omega) (by omega)) ?_
        rintro v40 _ rfl
        refine ⟨.inl rfl, ?_⟩
        refine W.cast (m' := m) (l' := hown 40 1 v40 _ _ :: l) rfl rfl ?_
        refine W.q rfl rfl rfl rfl (by decide) (Yd.as rfl (.t rfl)) ?_
        refine W.end ?_
        refine NX.sub (env' := [(6, _), (25, _), (26, _), (27, _)]) ⟨rfl, rfl, rfl, rfl, trivial⟩ ?_
        refine NX.block ?_
        refine NX.then ?_
        refine Tr.region_f (fun _ => false) ?_
        refine W.q rfl rfl rfl rfl (by decide) (Yd.add rfl (.t rfl) .c) ?_
        refine W.q rfl rfl rfl rfl (by decide) (Yd.mv rfl (.t rfl)) ?_
        refine W.end ?_
        refine NX.sub (env' := [(6, _), (25, _), (26, _), (27, _)]) ⟨rfl, rfl, rfl, rfl, trivial⟩ ?_
        refine NX.sub (env' := [(6, _), (25, _), (26, _), (27, _)]) ⟨rfl, rfl, rfl, rfl, trivial⟩ ?_
        have hw := w64_id (n := t_31 + 1) (by omega) (by omega)
        exact NX.again n34 (t_31 + 1, (l18 ++ y35)) (Nat.lt_succ_self _) ⟨_, _, (Rows.app hw21 hw42), (by rw [hw] <;> rfl), rfl, (fr_dec hnt_31), (by omega), ((hnx33 _).symm.trans hr)⟩
  have hlen45 := (hslices_0).2.1
  refine Tr.block ?_
  refine Tr.sub (env' := [(0, _), (3, _), (9, _), (10, _), (11, _)]) ⟨rfl, rfl, rfl, rfl, rfl, trivial⟩ ?_
  refine Tr.loop (S := fun n (z : Int × Int) env x => match z with | (t_46, size_3) => env = [(0, uslices_0), (3, .int .i64 size_3), (9, uslices_0), (10, .int .i64 ((slices_0.length : Int))), (11, .int .i64 t_46)] ∧ x = ⟨m, l⟩ ∧ n = ((slices_0.length : Int) - t_46).toNat ∧ 0 ≤ t_46 ∧ forK (σ := Int) (fun i s nx_ => slices_Concat_SSintSint_b47 slices_0 i s nx_) (fun s => slices_Concat_SSintSint_k6 slices_0 s) n t_46 size_3 = some r) _ ((0 : Int), (0 : Int)) ⟨rfl, rfl, rfl, (by omega), hr⟩ ?_
  rintro n49 ⟨t_46, size_3⟩ env x ⟨rfl, rfl, hnt_46, h0t_46, hr⟩
  cases n49 with
  | zero =>
    simp only [forK] at hr
    refine Tr.seq ?_
    refine Tr.region_f (fun _ => false) ?_
    refine W.q rfl rfl rfl rfl (by decide) (Yd.lss rfl (.t rfl) (.t rfl)) ?_
    refine W.end ?_
    refine NX.sub (env' := [(0, _), (3, _), (9, _), (10, _), (11, _), (12, _)]) ⟨rfl, rfl, rfl, rfl, rfl, rfl, trivial⟩ ?_
    refine NX.then ?_
    refine Tr.seq ?_
    refine Tr.cond (.t rfl) (fun hb => ?_) (fun hb => ?_)
    · exact absurd (hb.symm.trans (fr_end hnt_46)) (by decide)
    ·
      refine Tr.exit' (EX.then (EX.then (EX.block ?_)))
      refine NX.sub (env' := [(0, _), (3, _)]) ⟨rfl, rfl, trivial⟩ ?_
      exact hk7 _ _ ⟨_, rfl, rfl, hr⟩
  | succ n49 =>
    obtain ⟨nx48, hnx48, hr⟩ := forK_succ hr
    try dsimp only at hr
    unfold slices_Concat_SSintSint_b47 at hr
    try dsimp only at hr
    have hltt_46 := fr_bnd hnt_46
    refine Tr.seq ?_
    refine Tr.region_f (fun _ => false) ?_
    refine W.q rfl rfl rfl rfl (by decide) (Yd.lss rfl (.t rfl) (.t rfl)) ?_
    refine W.end ?_
    refine NX.sub (env' := [(0, _), (3, _), (9, _), (10, _), (11, _), (12, _)]) ⟨rfl, rfl, rfl, rfl, rfl, rfl, trivial⟩ ?_
    refine NX.then ?_
    refine Tr.seq ?_
    refine Tr.cond (.t rfl) (fun hb => ?_) (fun hb => ?_)
    rotate_left
    · exact absurd (hb.symm.trans (fr_go hnt_46)) (by decide)
    ·
      refine Tr.skip' ?_
      refine NX.then ?_
      refine Tr.seq ?_
      refine Tr.block ?_
      refine Tr.seq ?_
      obtain ⟨y50, hy51, hr⟩ := bind_some hr
      refine Tr.region_f (fun _ => false) ?_
      refine W.q rfl rfl rfl rfl (by decide) (Yd.idxR hslices_0 hy51 rfl Try.underlying22 SZ23 (.t rfl) (.t rfl)) ?_
      obtain ⟨u52, hu53, hat54⟩ := hslices_0.row hy51
      refine W.q rfl rfl rfl rfl (by decide) (Yd.ldRow hat54 (.refl _) rfl ON23 (.t rfl)) ?_
      refine W.q rfl rfl rfl rfl (by decide) (Yd.as rfl (.t rfl)) ?_
      refine W.end ?_
      refine NX.sub (env' := [(0, _), (3, _), (9, _), (10, _), (11, _), (5, _)]) ⟨rfl, rfl, rfl, rfl, rfl, rfl, trivial⟩ ?_
      refine NX.then ?_
      refine Tr.seq ?_
      refine Tr.region_f (fun _ => false) ?_
      refine W.q rfl rfl rfl rfl (by decide) (Yd.mv rfl (.t rfl)) ?_
      refine W.q rfl rfl rfl rfl (by decide) (Yd.mv rfl (.t rfl)) ?_
      refine W.q rfl rfl rfl rfl (by decide) (Yd.lenR hu53 rfl Try.underlying23 (.t rfl)) ?_
      refine W.q rfl rfl rfl rfl (by decide) (Yd.add rfl (.t rfl) (.t rfl)) ?_
      refine W.q rfl rfl rfl rfl (by decide) (Yd.as rfl (.t rfl)) ?_
      refine W.end ?_
      refine NX.sub (env' := [(0, _), (3, _), (9, _), (10, _), (11, _)]) ⟨rfl, rfl, rfl, rfl, rfl, trivial⟩ ?_
      refine NX.then ?_
      refine Tr.seq ?_
      refine Tr.region_f (fun _ => false) ?_
      refine W.q rfl rfl rfl rfl (by decide) (Yd.mv rfl (.t rfl)) ?_
      refine W.q rfl rfl rfl rfl (by decide) (Yd.lss rfl (.t rfl) .c) ?_
      refine W.end ?_
      refine NX.sub (env' := [(0, _), (3, _), (9, _), (10, _), (11, _), (20, _)]) ⟨rfl, rfl, rfl, rfl, rfl, rfl, trivial⟩ ?_
      refine NX.then ?_
      refine Tr.cond (.t rfl) (fun hb => ?_) (fun hb => ?_)
      · have hr := cond_t hb hr
        cases hr
      · have hr := cond_f hb hr
        refine Tr.skip' ?_
        refine NX.block ?_
        refine NX.then ?_
        refine Tr.region_f (fun _ => false) ?_
        refine W.q rfl rfl rfl rfl (by decide) (Yd.add rfl (.t rfl) .c) ?_
        refine W.q rfl rfl rfl rfl (by decide) (Yd.mv rfl (.t rfl)) ?_
        refine W.end ?_
        refine NX.sub (env' := [(0, _), (3, _), (9, _), (10, _), (11, _)]) ⟨rfl, rfl, rfl, rfl, rfl, trivial⟩ ?_
        refine NX.sub (env' := [(0, _), (3, _), (9, _), (10, _), (11, _)]) ⟨rfl, rfl, rfl, rfl, rfl, trivial⟩ ?_
        have hw := w64_id (n := t_46 + 1) (by omega) (by omega)
        exact NX.again n49 (t_46 + 1, (w64 (size_3 + (y50.length : Int)))) (Nat.lt_succ_self _) ⟨(by rw [hw] <;> rfl), rfl, (fr_dec hnt_46), (by omega), ((hnx48 _).symm.trans hr)⟩

def slices_Grow_Sintint_fnil (n_1 : Int) : Option (Unit) :=
  (bif (decide (n_1 < (0 : Int))) then
  none
  else
  (bif (decide ((w64 (n_1 - (w64 ((0 : Int) - ((([] : List Int)).length : Int))))) > (0 : Int))) then
  bif decide (0 < (w64 (n_1 - (w64 ((0 : Int) - ((([] : List Int)).length : Int))))) ∧ (w64 (n_1 - (w64 ((0 : Int) - ((([] : List Int)).length : Int))))) ≤ 140737488355328 ∧ ((w64 (n_1 - (w64 ((0 : Int) - ((([] : List Int)).length : Int)))))).toNat * 8 ≤ 140737488355328) then
  some (()) else none
  else
  some (())))

set_option maxRecDepth 100000 in
set_option maxHeartbeats 4000000 in
theorem slices_Grow_Sintint_fnil_ok (w0 : World) (m : Snap) (l : List HI) (n_1 : Int) (r : Unit) (hr : slices_Grow_Sintint_fnil n_1 = some r) (w : World) (hc : cX w0 ⟨m, l⟩ w) :
    Calls Try.prog 26 [.slice none 0 0, .int .i64 n_1].toArray w fun e w' => ∃ z0 : Value, e = .returned (z0) ∧ cX w0 ⟨m, hown 3 1 z0 0 [] :: l⟩ w' := by
  unfold slices_Grow_Sintint_fnil at hr
  refine calls_of_Tr (N := 27) Try.func26 rfl hc rfl (Nat.le_of_ble_eq_true rfl) ?_
  refine Tr.addnil 3 1 ?_
  refine Tr.seq ?_
  refine Tr.region_f (fun _ => false) ?_
  refine W.q rfl rfl rfl rfl (by decide) (Yd.as rfl .c) ?_
  refine W.end ?_
  refine NX.sub (env' := [(0, _), (1, _)]) ⟨rfl, rfl, trivial⟩ ?_
  refine NX.then ?_
  refine Tr.seq ?_
  refine Tr.seq ?_
  refine Tr.region_f (fun _ => false) ?_
  refine W.q rfl rfl rfl rfl (by decide) (Yd.mv rfl (.t rfl)) ?_
  refine W.q rfl rfl rfl rfl (by decide) (Yd.lss rfl (.t rfl) .c) ?_
  refine W.end ?_
  refine NX.sub (env' := [(0, _), (1, _), (6, _)]) ⟨rfl, rfl, rfl, trivial⟩ ?_
  refine NX.then ?_
  refine Tr.cond (.t rfl) (fun hb => ?_) (fun hb => ?_)
  · have hr := cond_t hb hr
    cases hr
  · have hr := cond_f hb hr
    refine Tr.skip' ?_
    refine NX.then ?_
    refine Tr.seq ?_
    refine Tr.seq ?_
    refine Tr.region_f (fun _ => false) ?_
    refine W.q rfl rfl rfl rfl (by decide) (Yd.mv rfl (.t rfl)) ?_
    refine W.q rfl rfl rfl rfl (by decide) (Yd.mv rfl (.t rfl)) ?_
    refine W.q rfl rfl rfl rfl (by decide) (Yd.cap rfl Try.underlying40 (.t rfl)) ?_
    refine W.q rfl rfl rfl rfl (by decide) (Yd.mv rfl (.t rfl)) ?_
    refine W.q rfl rfl rfl rfl (by decide) (Yd.lenO (p := 0) rfl rfl Try.underlying40 (.t rfl)) ?_
    refine W.q rfl rfl rfl rfl (by decide) (Yd.sub rfl (.t rfl) (.t rfl)) ?_
    refine W.q rfl rfl rfl rfl (by decide) (Yd.sub rfl (.t rfl) (.t rfl)) ?_
    refine W.q rfl rfl rfl rfl (by decide) (Yd.as rfl (.t rfl)) ?_
    refine W.end ?_
    refine NX.sub (env' := [(0, _), (1, _)]) ⟨rfl, rfl, trivial⟩ ?_
    refine NX.then ?_
    refine Tr.seq ?_
    refine Tr.region_f (fun _ => false) ?_
    refine W.q rfl rfl rfl rfl (by decide) (Yd.mv rfl (.t rfl)) ?_
    refine W.q rfl rfl rfl rfl (by decide) (Yd.gtr rfl (.t rfl) .c) ?_
    refine W.end ?_
    refine NX.sub (env' := [(0, _), (1, _), (16, _)]) ⟨rfl, rfl, rfl, trivial⟩ ?_
    refine NX.then ?_
    refine Tr.cond (.t rfl) (fun hb => ?_) (fun hb => ?_)
    · have hr := cond_t hb hr
      obtain ⟨hq4, hr⟩ := guard_some hr; replace hq4 := of_decide_eq_true hq4
      refine Tr.region_f (fun i => Nat.beq i 5) ?_
      refine W.q rfl rfl rfl rfl (by decide) (Yd.mv rfl (.t rfl)) ?_
      refine W.q rfl rfl rfl rfl (by decide) (Yd.mv rfl (.t rfl)) ?_
      refine W.q rfl rfl rfl rfl (by decide) (Yd.cap rfl Try.underlying40 (.t rfl)) ?_
      refine W.q rfl rfl rfl rfl (by decide) (Yd.slTo (pos := 0) rfl rfl Try.underlying40 (Option.some_get IN3).symm (.t rfl) (.t rfl) (by decide) (Int.natCast_nonneg _)) ?_
      refine W.q rfl rfl rfl rfl (by decide) (Yd.mv rfl (.t rfl)) ?_
      refine W.e rfl rfl rfl rfl (by decide) (Ef.apMk (pos := 0) IF3 rfl rfl Try.underlying40 Try.underlying3 rfl (by decide) (.t rfl) (.t rfl) hq4) ?_
      rintro v2 _ ⟨cs3, rfl⟩
      refine ⟨.inl rfl, ?_⟩
      refine W.cast (m' := m) (l' := hown 3 1 v2 (((w64 (n_1 - (w64 ((0 : Int) - ((([] : List Int)).length : Int)))))).toNat) cs3 :: l) rfl rfl ?_
      refine W.q rfl rfl rfl rfl (by decide) (Yd.mv rfl (.t rfl)) ?_
      refine W.q rfl rfl rfl rfl (by decide) (Yd.len rfl Try.underlying40 (.t rfl)) ?_
      refine W.q rfl rfl rfl rfl (by decide) (Yd.slTo (pos := 0) rfl rfl Try.underlying40 (Option.some_get IN3).symm (.t rfl) (.t rfl) (by decide) (Int.natCast_nonneg _)) ?_
      refine W.q rfl rfl rfl rfl (by decide) (Yd.as rfl (.t rfl)) ?_
      refine W.end ?_
      refine NX.imp (fun w hw => cX_sl0 (p := 0) rfl hw) ?_
      refine NX.cast (m' := m) (l' := hownT 3 1 encI (slTo v2 0) (([] : List Int)) :: l) rfl rfl ?_
      refine NX.sub (env' := [(0, _)]) ⟨rfl, trivial⟩ ?_
      refine NX.then ?_
      refine Tr.seq ?_
      refine Tr.region_f (fun _ => false) ?_
      refine W.q rfl rfl rfl rfl (by decide) (Yd.mv rfl (.t rfl)) ?_
      refine W.q rfl rfl rfl rfl (by decide) (Yd.as rfl (.t rfl)) ?_
      refine W.end ?_
      refine NX.sub (env' := [(4, _)]) ⟨rfl, trivial⟩ ?_
      refine NX.then ?_
      refine Tr.ret' ?_
      refine res1 rfl rfl ?_
      intro w hc
      cases hr
      exact ⟨_, rfl, hc⟩
    · have hr := cond_f hb hr
      refine Tr.skip' ?_
      refine NX.then ?_
      refine Tr.seq ?_
      refine Tr.region_f (fun _ => false) ?_
      refine W.q rfl rfl rfl rfl (by decide) (Yd.mv rfl (.t rfl)) ?_
      refine W.q rfl rfl rfl rfl (by decide) (Yd.as rfl (.t rfl)) ?_
      refine W.end ?_
      refine NX.sub (env' := [(4, _)]) ⟨rfl, trivial⟩ ?_
      refine NX.then ?_
      refine Tr.ret' ?_
      refine res1 rfl rfl ?_
      intro w hc
      cases hr
      exact ⟨_, rfl, hc⟩

def slices_Concat_Sintint_k20 (l18 : List Int) : Option ((List Int)) :=
  some l18

def slices_Concat_Sintint_b24 (slices_0 : List (List Int)) (t_23 : Int) (l16 : List Int) (nx25 : (List Int) → Option ((List Int))) : Option ((List Int)) :=
  (geti slices_0 t_23).bind fun y27 =>
  bif decide (l16.length + y27.length ≤ 17592186044416) then
  nx25 (l16 ++ y27) else none

def slices_Concat_Sintint_k6 (slices_0 : List (List Int)) (size_5 : Int) : Option ((List Int)) :=
  (slices_Grow_Sintint_fnil size_5).bind fun r8 =>
  forK (σ := (List Int)) (fun i s nx_ => slices_Concat_Sintint_b24 slices_0 i s nx_) (fun s => slices_Concat_Sintint_k20 s) ((slices_0.length : Int) - (0 : Int)).toNat (0 : Int) (([] : List Int))

def slices_Concat_Sintint_b36 (slices_0 : List (List Int)) (t_35 : Int) (size_3 : Int) (nx37 : Int → Option ((List Int))) : Option ((List Int)) :=
  (geti slices_0 t_35).bind fun y39 =>
  (bif (decide ((w64 (size_3 + (y39.length : Int))) < (0 : Int))) then
  none
  else
  nx37 (w64 (size_3 + (y39.length : Int))))

def slices_Concat_Sintint (slices_0 : List (List Int)) : Option ((List Int)) :=
  forK (σ := Int) (fun i s nx_ => slices_Concat_Sintint_b36 slices_0 i s nx_) (fun s => slices_Concat_Sintint_k6 slices_0 s) ((slices_0.length : Int) - (0 : Int)).toNat (0 : Int) ((0 : Int))

set_option maxRecDepth 100000 in
set_option maxHeartbeats 4000000 in
theorem slices_Concat_Sintint_ok (w0 : World) (m : Snap) (l : List HI) (uslices_0 : Value) (slices_0 : List (List Int)) (hslices_0 : RS (Rp.slice rI) m uslices_0 slices_0) (r : (List Int)) (hr : slices_Concat_Sintint slices_0 = some r) (w : World) (hc : cX w0 ⟨m, l⟩ w) :
    Calls Try.prog 20 [uslices_0].toArray w fun e w' => ∃ z0 : Value, e = .returned (z0) ∧ cX w0 ⟨m, hownT 3 1 encI z0 r :: l⟩ w' := by
  unfold slices_Concat_Sintint at hr
  refine calls_of_Tr (N := 36) Try.func20 rfl hc rfl (Nat.le_of_ble_eq_true rfl) ?_
  refine Tr.seq ?_
  refine Tr.region_f (fun _ => false) ?_
  refine W.q rfl rfl rfl rfl (by decide) (Yd.as rfl .c) ?_
  refine W.end ?_
  refine NX.sub (env' := [(0, _)]) ⟨rfl, trivial⟩ ?_
  refine NX.then ?_
  refine Tr.seq ?_
  refine Tr.region_f (fun _ => false) ?_
  refine W.q rfl rfl rfl rfl (by decide) (Yd.as rfl .c) ?_
  refine W.end ?_
  refine NX.sub (env' := [(0, _), (3, _)]) ⟨rfl, rfl, trivial⟩ ?_
  refine NX.then ?_
  refine Tr.seq ?_
  refine Tr.seq ?_
  refine Tr.region_f (fun _ => false) ?_
  refine W.q rfl rfl rfl rfl (by decide) (Yd.mv rfl (.t rfl)) ?_
  refine W.q rfl rfl rfl rfl (by decide) (Yd.lenR hslices_0 rfl Try.underlying23 (.t rfl)) ?_
  refine W.q rfl rfl rfl rfl (by decide) (Yd.mv rfl .c) ?_
  refine W.end ?_
  refine NX.sub (env' := [(0, _), (3, _), (9, _), (10, _), (11, _)]) ⟨rfl, rfl, rfl, rfl, rfl, trivial⟩ ?_
  refine NX.then ?_
  refine Tr.join (S := fun env x => ∃ size_5 : Int, env = [(0, uslices_0), (3, .int .i64 size_5)] ∧ x = ⟨m, l⟩ ∧ slices_Concat_Sintint_k6 slices_0 size_5 = some r) ?_ (fun hk7 => ?_)
  · rintro _ _ ⟨size_5, rfl, rfl, hr⟩
    unfold slices_Concat_Sintint_k6 at hr
    try dsimp only at hr
    refine NX.then ?_
    refine Tr.seq ?_
    obtain ⟨r8, hr9, hr⟩ := bind_some hr
    refine Tr.region_f (fun i => Nat.beq i 1) ?_
    refine W.q rfl rfl rfl rfl (by decide) (Yd.mv rfl (.t rfl)) ?_
    refine W.e rfl rfl rfl rfl (by decide) (Ef.call (R := fun z x' => ∃ v10 : Value, z = v10 ∧ x' = ⟨m, hownT 3 1 encI v10 (([] : List Int)) :: l⟩) rfl Try.func26 rfl rfl (.cons .c (.cons (.t rfl) .nil)) (fun w hw => (slices_Grow_Sintint_fnil_ok w0 _ _ size_5 _ hr9 w hw).mono fun e w' ⟨v10, he, hc'⟩ => ⟨_, _, he, ⟨v10, rfl, rfl⟩, hc'⟩)) ?_
    rintro v10 _ ⟨_, rfl, rfl⟩
    refine ⟨.inl rfl, ?_⟩
    refine W.cast (m' := m) (l' := hownT 3 1 encI v10 _ :: l) rfl rfl ?_
    refine W.q rfl rfl rfl rfl (by decide) (Yd.as rfl (.t rfl)) ?_
    refine W.end ?_
    refine NX.sub (env' := [(0, _), (6, _)]) ⟨rfl, rfl, trivial⟩ ?_
    refine NX.then ?_
    refine Tr.seq ?_
    refine Tr.seq ?_
    refine Tr.region_f (fun _ => false) ?_
    refine W.q rfl rfl rfl rfl (by decide) (Yd.mv rfl (.t rfl)) ?_
    refine W.q rfl rfl rfl rfl (by decide) (Yd.lenR hslices_0 rfl Try.underlying23 (.t rfl)) ?_
    refine W.q rfl rfl rfl rfl (by decide) (Yd.mv rfl .c) ?_
    refine W.end ?_
    refine NX.sub (env' := [(6, _), (25, _), (26, _), (27, _)]) ⟨rfl, rfl, rfl, rfl, trivial⟩ ?_
    refine NX.then ?_
    refine Tr.join (S := fun env x => ∃ l18 : List Int, ∃ v19 : Value, env = [(6, v19)] ∧ x = ⟨m, hownT 3 1 encI v19 l18 :: l⟩ ∧ slices_Concat_Sintint_k20 l18 = some r) ?_ (fun hk21 => ?_)
    · rintro _ _ ⟨l18, v19, rfl, rfl, hr⟩
      unfold slices_Concat_Sintint_k20 at hr
      try dsimp only at hr
      refine NX.then ?_
      refine Tr.seq ?_
      refine Tr.region_f (fun _ => false) ?_
      refine W.q rfl rfl rfl rfl (by decide) (Yd.mv rfl (.t rfl)) ?_
      refine W.q rfl rfl rfl rfl (by decide) (Yd.as rfl (.t rfl)) ?_
      refine W.end ?_
      refine NX.sub (env' := [(2, _)]) ⟨rfl, trivial⟩ ?_
      refine NX.then ?_
      refine Tr.ret' ?_
      refine res1 rfl rfl ?_
      intro w hc
      cases hr
      exact ⟨_, rfl, hc⟩
    have hlen22 := (hslices_0).2.1
    refine Tr.block ?_
    refine Tr.sub (env' := [(6, _), (25, _), (26, _), (27, _)]) ⟨rfl, rfl, rfl, rfl, trivial⟩ ?_
    refine Tr.loop (S := fun n (z : Int × (List Int)) env x => match z with | (t_23, l16) => ∃ v17 : Value, env = [(6, v17), (25, uslices_0), (26, .int .i64 ((slices_0.length : Int))), (27, .int .i64 t_23)] ∧ x = ⟨m, hownT 3 1 encI v17 l16 :: l⟩ ∧ n = ((slices_0.length : Int) - t_23).toNat ∧ 0 ≤ t_23 ∧ forK (σ := (List Int)) (fun i s nx_ => slices_Concat_Sintint_b24 slices_0 i s nx_) (fun s => slices_Concat_Sintint_k20 s) n t_23 l16 = some r) _ ((0 : Int), ([] : List Int)) ⟨_, rfl, rfl, rfl, (by omega), hr⟩ ?_
    rintro n26 ⟨t_23, l16⟩ env x ⟨v17, rfl, rfl, hnt_23, h0t_23, hr⟩
    cases n26 with
    | zero =>
      simp only [forK] at hr
      refine Tr.seq ?_
      refine Tr.region_f (fun _ => false) ?_
      refine W.q rfl rfl rfl rfl (by decide) (Yd.lss rfl (.t rfl) (.t rfl)) ?_
      refine W.end ?_
      refine NX.sub (env' := [(6, _), (25, _), (26, _), (27, _), (28, _)]) ⟨rfl, rfl, rfl, rfl, rfl, trivial⟩ ?_
      refine NX.then ?_
      refine Tr.seq ?_
      refine Tr.cond (.t rfl) (fun hb => ?_) (fun hb => ?_)
      · exact absurd (hb.symm.trans (fr_end hnt_23)) (by decide)
      ·
        refine Tr.exit' (EX.then (EX.then (EX.block ?_)))
        refine NX.sub (env' := [(6, _)]) ⟨rfl, trivial⟩ ?_
        exact hk21 _ _ ⟨_, _, rfl, rfl, hr⟩
    | succ n26 =>
      obtain ⟨nx25, hnx25, hr⟩ := forK_succ hr
      try dsimp only at hr
      unfold slices_Concat_Sintint_b24 at hr
      try dsimp only at hr
      have hltt_23 := fr_bnd hnt_23
      refine Tr.seq ?_
      refine Tr.region_f (fun _ => false) ?_
      refine W.q rfl rfl rfl rfl (by decide) (Yd.lss rfl (.t rfl) (.t rfl)) ?_
      refine W.end ?_
      refine NX.sub (env' := [(6, _), (25, _), (26, _), (27, _), (28, _)]) ⟨rfl, rfl, rfl, rfl, rfl, trivial⟩ ?_
      refine NX.then ?_
      refine Tr.seq ?_
      refine Tr.cond (.t rfl) (fun hb => ?_) (fun hb => ?_)
      rotate_left
      · exact absurd (hb.symm.trans (fr_go hnt_23)) (by decide)
      ·
        refine Tr.skip' ?_
        refine NX.then ?_
        refine Tr.seq ?_
        refine Tr.block ?_
        refine Tr.seq ?_
        obtain ⟨y27, hy28, hr⟩ := bind_some hr
        refine Tr.region_f (fun _ => false) ?_
        refine W.q rfl rfl rfl rfl (by decide) (Yd.idxR hslices_0 hy28 rfl Try.underlying23 SZ40 (.t rfl) (.t rfl)) ?_
        obtain ⟨u29, hu30, hat31⟩ := hslices_0.row hy28
        refine W.q rfl rfl rfl rfl (by decide) (Yd.ldRow hat31 (.refl _) rfl ON40 (.t rfl)) ?_
        refine W.q rfl rfl rfl rfl (by decide) (Yd.as rfl (.t rfl)) ?_
        refine W.end ?_
        refine NX.sub (env' := [(6, _), (25, _), (26, _), (27, _), (8, _)]) ⟨rfl, rfl, rfl, rfl, rfl, trivial⟩ ?_
        refine NX.then ?_
        obtain ⟨hq33, hr⟩ := guard_some hr; replace hq33 := of_decide_eq_true hq33
        refine Tr.region_f (fun i => Nat.beq i 2) ?_
        refine W.q rfl rfl rfl rfl (by decide) (Yd.mv rfl (.t rfl)) ?_
        refine W.q rfl rfl rfl rfl (by decide) (Yd.mv rfl (.t rfl)) ?_
        refine W.e rfl rfl rfl rfl (by decide) (Ef.apI (pos := 0) (enc := encI) (xs := l16) (ys := y27) (fun _ => rfl) IF3 rfl rfl Try.underlying40 rfl (by decide) (.t rfl) (.t rfl) (Src.rs (by decide) (.refl _) hu30) (fun _ => rfl) (by omega) (by omega)) ?_
        rintro v32 _ rfl
        refine ⟨.inl rfl, ?_⟩
        refine W.cast (m' := m) (l' := hownT 3 1 encI v32 _ :: l) rfl rfl ?_
        refine W.q rfl rfl rfl rfl (by decide) (Yd.as rfl (.t rfl)) ?_
        refine W.end ?_
        refine NX.sub (env' := [(6, _), (25, _), (26, _), (27, _)]) ⟨rfl, rfl, rfl, rfl, trivial⟩ ?_
        refine NX.block ?_
        refine NX.then ?_
        refine Tr.region_f (fun _ => false) ?_
        refine W.q rfl rfl rfl rfl (by decide) (Yd.add rfl (.t rfl) .c) ?_
        refine W.q rfl rfl rfl rfl (by decide) (Yd.mv rfl (.t rfl)) ?_
        refine W.end ?_
        refine NX.sub (env' := [(6, _), (25, _), (26, _), (27, _)]) ⟨rfl, rfl, rfl, rfl, trivial⟩ ?_
        refine NX.sub (env' := [(6, _), (25, _), (26, _), (27, _)]) ⟨rfl, rfl, rfl, rfl, trivial⟩ ?_
        have hw := w64_id (n := t_23 + 1) (by omega) (by omega)
        exact NX.again n26 (t_23 + 1, (l16 ++ y27)) (Nat.lt_succ_self _) ⟨_, (by rw [hw] <;> rfl), rfl, (fr_dec hnt_23), (by omega), ((hnx25 _).symm.trans hr)⟩
  have hlen34 := (hslices_0).2.1
  refine Tr.block ?_
  refine Tr.sub (env' := [(0, _), (3, _), (9, _), (10, _), (11, _)]) ⟨rfl, rfl, rfl, rfl, rfl, trivial⟩ ?_
  refine Tr.loop (S := fun n (z : Int × Int) env x => match z with | (t_35, size_3) => env = [(0, uslices_0), (3, .int .i64 size_3), (9, uslices_0), (10, .int .i64 ((slices_0.length : Int))), (11, .int .i64 t_35)] ∧ x = ⟨m, l⟩ ∧ n = ((slices_0.length : Int) - t_35).toNat ∧ 0 ≤ t_35 ∧ forK (σ := Int) (fun i s nx_ => slices_Concat_Sintint_b36 slices_0 i s nx_) (fun s => slices_Concat_Sintint_k6 slices_0 s) n t_35 size_3 = some r) _ ((0 : Int), (0 : Int)) ⟨rfl, rfl, rfl, (by omega), hr⟩ ?_
  rintro n38 ⟨t_35, size_3⟩ env x ⟨rfl, rfl, hnt_35, h0t_35, hr⟩
  cases n38 with
  | zero =>
    simp only [forK] at hr
    refine Tr.seq ?_
    refine Tr.region_f (fun _ => false) ?_
    refine W.q rfl rfl rfl rfl (by decide) (Yd.lss rfl (.t rfl) (.t rfl)) ?_
    refine W.end ?_
    refine NX.sub (env' := [(0, _), (3, _), (9, _), (10, _), (11, _), (12, _)]) ⟨rfl, rfl, rfl, rfl, rfl, rfl, trivial⟩ ?_
    refine NX.then ?_
    refine Tr.seq ?_
    refine Tr.cond (.t rfl) (fun hb => ?_) (fun hb => ?_)
    · exact absurd (hb.symm.trans (fr_end hnt_35)) (by decide)
    ·
      refine Tr.exit' (EX.then (EX.then (EX.block ?_)))
      refine NX.sub (env' := [(0, _), (3, _)]) ⟨rfl, rfl, trivial⟩ ?_
      exact hk7 _ _ ⟨_, rfl, rfl, hr⟩
  | succ n38 =>
    obtain ⟨nx37, hnx37, hr⟩ := forK_succ hr
    try dsimp only at hr
    unfold slices_Concat_Sintint_b36 at hr
    try dsimp only at hr
    have hltt_35 := fr_bnd hnt_35
    refine Tr.seq ?_
    refine Tr.region_f (fun _ => false) ?_
    refine W.q rfl rfl rfl rfl (by decide) (Yd.lss rfl (.t rfl) (.t rfl)) ?_
    refine W.end ?_
    refine NX.sub (env' := [(0, _), (3, _), (9, _), (10, _), (11, _), (12, _)]) ⟨rfl, rfl, rfl, rfl, rfl, rfl, trivial⟩ ?_
    refine NX.then ?_
    refine Tr.seq ?_
    refine Tr.cond (.t rfl) (fun hb => ?_) (fun hb => ?_)
    rotate_left
    · exact absurd (hb.symm.trans (fr_go hnt_35)) (by decide)
    ·
      refine Tr.skip' ?_
      refine NX.then ?_
      refine Tr.seq ?_
      refine Tr.block ?_
      refine Tr.seq ?_
      obtain ⟨y39, hy40, hr⟩ := bind_some hr
      refine Tr.region_f (fun _ => false) ?_
      refine W.q rfl rfl rfl rfl (by decide) (Yd.idxR hslices_0 hy40 rfl Try.underlying23 SZ40 (.t rfl) (.t rfl)) ?_
      obtain ⟨u41, hu42, hat43⟩ := hslices_0.row hy40
      refine W.q rfl rfl rfl rfl (by decide) (Yd.ldRow hat43 (.refl _) rfl ON40 (.t rfl)) ?_
      refine W.q rfl rfl rfl rfl (by decide) (Yd.as rfl (.t rfl)) ?_
      refine W.end ?_
      refine NX.sub (env' := [(0, _), (3, _), (9, _), (10, _), (11, _), (5, _)]) ⟨rfl, rfl, rfl, rfl, rfl, rfl, trivial⟩ ?_
      refine NX.then ?_
      refine Tr.seq ?_
      refine Tr.region_f (fun _ => false) ?_
      refine W.q rfl rfl rfl rfl (by decide) (Yd.mv rfl (.t rfl)) ?_
      refine W.q rfl rfl rfl rfl (by decide) (Yd.mv rfl (.t rfl)) ?_
      refine W.q rfl rfl rfl rfl (by decide) (Yd.lenR hu42 rfl Try.underlying40 (.t rfl)) ?_
      refine W.q rfl rfl rfl rfl (by decide) (Yd.add rfl (.t rfl) (.t rfl)) ?_
      refine W.q rfl rfl rfl rfl (by decide) (Yd.as rfl (.t rfl)) ?_
      refine W.end ?_
      refine NX.sub (env' := [(0, _), (3, _), (9, _), (10, _), (11, _)]) ⟨rfl, rfl, rfl, rfl, rfl, trivial⟩ ?_
      refine NX.then ?_
      refine Tr.seq ?_
      refine Tr.region_f (fun _ => false) ?_
      refine W.q rfl rfl rfl rfl (by decide) (Yd.mv rfl (.t rfl)) ?_
      refine W.q rfl rfl rfl rfl (by decide) (Yd.lss rfl (.t rfl) .c) ?_
      refine W.end ?_
      refine NX.sub (env' := [(0, _), (3, _), (9, _), (10, _), (11, _), (20, _)]) ⟨rfl, rfl, rfl, rfl, rfl, rfl, trivial⟩ ?_
      refine NX.then ?_
      refine Tr.cond (.t rfl) (fun hb => ?_) (fun hb => ?_)
      · have hr := cond_t hb hr
        cases hr
      · have hr := cond_f hb hr
        refine Tr.skip' ?_
        refine NX.block ?_
        refine NX.then ?_
        refine Tr.region_f (fun _ => false) ?_
        refine W.q rfl rfl rfl rfl (by decide) (Yd.add rfl (.t rfl) .c) ?_
        refine W.q rfl rfl rfl rfl (by decide) (Yd.mv rfl (.t rfl)) ?_
        refine W.end ?_
        refine NX.sub (env' := [(0, _), (3, _), (9, _), (10, _), (11, _)]) ⟨rfl, rfl, rfl, rfl, rfl, trivial⟩ ?_
        refine NX.sub (env' := [(0, _), (3, _), (9, _), (10, _), (11, _)]) ⟨rfl, rfl, rfl, rfl, rfl, trivial⟩ ?_
        have hw := w64_id (n := t_35 + 1) (by omega) (by omega)
        exact NX.again n38 (t_35 + 1, (w64 (size_3 + (y39.length : Int)))) (Nat.lt_succ_self _) ⟨(by rw [hw] <;> rfl), rfl, (fr_dec hnt_35), (by omega), ((hnx37 _).symm.trans hr)⟩

def view_Check_c1 (s_0 : Int) (cp_0 : Machine) : Option (Bool) :=
  some (((decide (s_0 < (0 : Int))) || (decide (s_0 ≥ cp_0.n))))

set_option maxRecDepth 100000 in
set_option maxHeartbeats 4000000 in
theorem view_Check_c1_ok (w0 : World) (m : Snap) (l : List HI) (s_0 : Int) (fp0 fb0 : Nat) (cp_0 : Machine) (uc0_3 : Value) (hc0_3 : RS (Rp.slice (Rp.slice rI)) m uc0_3 cp_0.next) (uc0_4 : Value) (hc0_4 : RS (Rp.slice rI) m uc0_4 cp_0.sees) (hfp0 : l[fp0]? = some (hcells fb0 [.int .i64 cp_0.n, .int .i64 cp_0.users, .int .i64 cp_0.acts, uc0_3, uc0_4] 25)) (r : Bool) (hr : view_Check_c1 s_0 cp_0 = some r) (w : World) (hc : cX w0 ⟨m, l⟩ w) :
    Calls Try.prog 22 [.int .i64 s_0, bp fb0 0].toArray w fun e w' => e = .returned (.bool r) ∧ cX w0 ⟨m, l⟩ w' := by
  unfold view_Check_c1 at hr
  refine calls_of_Tr (N := 12) Try.func22 rfl hc rfl (Nat.le_of_ble_eq_true rfl) ?_
  refine Tr.seq ?_
  refine Tr.region_f (fun _ => false) ?_
  refine W.q rfl rfl rfl rfl (by decide) (Yd.as rfl .c) ?_
  refine W.end ?_
  refine NX.sub (env' := [(0, _), (1, _)]) ⟨rfl, rfl, trivial⟩ ?_
  refine NX.then ?_
  refine Tr.seq ?_
  refine Tr.region_f (fun _ => false) ?_
  refine W.q rfl rfl rfl rfl (by decide) (Yd.mv rfl (.t rfl)) ?_
  refine W.q rfl rfl rfl rfl (by decide) (Yd.lss rfl (.t rfl) .c) ?_
  refine W.q rfl rfl rfl rfl (by decide) (Yd.mv rfl (.t rfl)) ?_
  refine W.g rfl rfl rfl rfl rfl (.t rfl _) rfl (by decide) (fun hG => Yd.mv rfl (.t rfl)) ?_
  refine W.g rfl rfl rfl rfl rfl (.t rfl _) rfl (by decide) (fun hG => Yd.fldB rfl Try.underlying25 rfl SZ3 rfl (.t rfl)) ?_
  refine W.g rfl rfl rfl rfl rfl (.t rfl _) rfl (by decide) (fun hG => Yd.ldB (pos := fp0) hfp0 rfl rfl ON3 (.g rfl hG)) ?_
  refine W.g rfl rfl rfl rfl rfl (.t rfl _) rfl (by decide) (fun hG => Yd.geq rfl (.g rfl hG) (.g rfl hG)) ?_
  refine W.q rfl rfl rfl rfl (by decide) (Yd.or rfl (.t rfl) .c rfl rfl) ?_
  refine W.q rfl rfl rfl rfl (by decide) (Yd.as rfl (.t rfl)) ?_
  refine W.end ?_
  refine NX.sub (env' := [(3, _)]) ⟨rfl, trivial⟩ ?_
  refine NX.then ?_
  refine Tr.ret' ?_
  refine res1 rfl rfl ?_
  intro w hc
  cases hr
  exact ⟨rfl, hc⟩

def slices_IndexFunc_Sintint_k3 : Option (Int) :=
  some ((-1 : Int))

def slices_IndexFunc_Sintint_b7 (s_0 : List Int) (f_1 : Int → Option Bool) (t_6 : Int) (nx8 : Unit → Option (Int)) : Option (Int) :=
  (geti s_0 t_6).bind fun y10 =>
  (f_1 y10).bind fun r12 =>
  (bif r12 then
  some t_6
  else
  nx8 ())

def slices_IndexFunc_Sintint (s_0 : List Int) (f_1 : Int → Option Bool) : Option (Int) :=
  forK (σ := Unit) (fun i s nx_ => slices_IndexFunc_Sintint_b7 s_0 f_1 i nx_) (fun _ => slices_IndexFunc_Sintint_k3) ((s_0.length : Int) - (0 : Int)).toNat (0 : Int) ()

set_option maxRecDepth 100000 in
set_option maxHeartbeats 4000000 in
theorem slices_IndexFunc_Sintint_ok (w0 : World) (m : Snap) (l : List HI) (us_0 : Value) (s_0 : List Int) (hs_0 : RS rI m us_0 s_0) (uf_1 : Value) (f_1 : Int → Option Bool) (hf_1 : Fq Try.prog w0 ⟨m, l⟩ uf_1 (α := Int) (β := Bool) (fun _ v a => v = .int .i64 a) (fun b => .bool b) f_1) (r : Int) (hr : slices_IndexFunc_Sintint s_0 f_1 = some r) (w : World) (hc : cX w0 ⟨m, l⟩ w) :
    Calls Try.prog 25 [us_0, uf_1].toArray w fun e w' => e = .returned (.int .i64 r) ∧ cX w0 ⟨m, l⟩ w' := by
  unfold slices_IndexFunc_Sintint at hr
  refine calls_of_Tr (N := 19) Try.func25 rfl hc rfl (Nat.le_of_ble_eq_true rfl) ?_
  refine Tr.seq ?_
  refine Tr.region_f (fun _ => false) ?_
  refine W.q rfl rfl rfl rfl (by decide) (Yd.as rfl .c) ?_
  refine W.end ?_
  refine NX.sub (env' := [(0, _), (1, _)]) ⟨rfl, rfl, trivial⟩ ?_
  refine NX.then ?_
  refine Tr.seq ?_
  refine Tr.seq ?_
  refine Tr.region_f (fun _ => false) ?_
  refine W.q rfl rfl rfl rfl (by decide) (Yd.mv rfl (.t rfl)) ?_
  refine W.q rfl rfl rfl rfl (by decide) (Yd.lenR hs_0 rfl Try.underlying40 (.t rfl)) ?_
  refine W.q rfl rfl rfl rfl (by decide) (Yd.mv rfl .c) ?_
  refine W.end ?_
  refine NX.sub (env' := [(0, _), (1, _), (7, _), (8, _)]) ⟨rfl, rfl, rfl, rfl, trivial⟩ ?_
  refine NX.then ?_
  refine Tr.join (S := fun env x => env = [] ∧ x = ⟨m, l⟩ ∧ slices_IndexFunc_Sintint_k3 = some r) ?_ (fun hk4 => ?_)
  · rintro _ _ ⟨rfl, rfl, hr⟩
    unfold slices_IndexFunc_Sintint_k3 at hr
    try dsimp only at hr
    refine NX.then ?_
    refine Tr.seq ?_
    refine Tr.region_f (fun _ => false) ?_
    refine W.q rfl rfl rfl rfl (by decide) (Yd.as rfl .c) ?_
    refine W.end ?_
    refine NX.sub (env' := [(4, _)]) ⟨rfl, trivial⟩ ?_
    refine NX.then ?_
    refine Tr.ret' ?_
    refine res1 rfl rfl ?_
    intro w hc
    cases hr
    exact ⟨rfl, hc⟩
  have hlen5 := (hs_0).2.1
  refine Tr.block ?_
  refine Tr.sub (env' := [(0, _), (1, _), (7, _), (8, _)]) ⟨rfl, rfl, rfl, rfl, trivial⟩ ?_
  refine Tr.loop (S := fun n (z : Int × Unit) env x => match z with | (t_6, _) => env = [(0, us_0), (1, uf_1), (7, .int .i64 ((s_0.length : Int))), (8, .int .i64 t_6)] ∧ x = ⟨m, l⟩ ∧ n = ((s_0.length : Int) - t_6).toNat ∧ 0 ≤ t_6 ∧ forK (σ := Unit) (fun i s nx_ => slices_IndexFunc_Sintint_b7 s_0 f_1 i nx_) (fun _ => slices_IndexFunc_Sintint_k3) n t_6 () = some r) _ ((0 : Int), ()) ⟨rfl, rfl, rfl, (by omega), hr⟩ ?_
  rintro n9 ⟨t_6, _⟩ env x ⟨rfl, rfl, hnt_6, h0t_6, hr⟩
  cases n9 with
  | zero =>
    simp only [forK] at hr
    refine Tr.seq ?_
    refine Tr.region_f (fun _ => false) ?_
    refine W.q rfl rfl rfl rfl (by decide) (Yd.lss rfl (.t rfl) (.t rfl)) ?_
    refine W.end ?_
    refine NX.sub (env' := [(0, _), (1, _), (7, _), (8, _), (9, _)]) ⟨rfl, rfl, rfl, rfl, rfl, trivial⟩ ?_
    refine NX.then ?_
    refine Tr.seq ?_
    refine Tr.cond (.t rfl) (fun hb => ?_) (fun hb => ?_)
    · exact absurd (hb.symm.trans (fr_end hnt_6)) (by decide)
    ·
      refine Tr.exit' (EX.then (EX.then (EX.block ?_)))
      refine NX.sub (env' := []) trivial ?_
      exact hk4 _ _ ⟨rfl, rfl, hr⟩
  | succ n9 =>
    obtain ⟨nx8, hnx8, hr⟩ := forK_succ hr
    try dsimp only at hr
    unfold slices_IndexFunc_Sintint_b7 at hr
    try dsimp only at hr
    have hltt_6 := fr_bnd hnt_6
    refine Tr.seq ?_
    refine Tr.region_f (fun _ => false) ?_
    refine W.q rfl rfl rfl rfl (by decide) (Yd.lss rfl (.t rfl) (.t rfl)) ?_
    refine W.end ?_
    refine NX.sub (env' := [(0, _), (1, _), (7, _), (8, _), (9, _)]) ⟨rfl, rfl, rfl, rfl, rfl, trivial⟩ ?_
    refine NX.then ?_
    refine Tr.seq ?_
    refine Tr.cond (.t rfl) (fun hb => ?_) (fun hb => ?_)
    rotate_left
    · exact absurd (hb.symm.trans (fr_go hnt_6)) (by decide)
    ·
      refine Tr.skip' ?_
      refine NX.then ?_
      refine Tr.seq ?_
      refine Tr.block ?_
      refine Tr.seq ?_
      refine Tr.region_f (fun _ => false) ?_
      refine W.q rfl rfl rfl rfl (by decide) (Yd.mv rfl (.t rfl)) ?_
      refine W.q rfl rfl rfl rfl (by decide) (Yd.as rfl (.t rfl)) ?_
      refine W.end ?_
      refine NX.sub (env' := [(0, _), (1, _), (7, _), (8, _), (5, _)]) ⟨rfl, rfl, rfl, rfl, rfl, trivial⟩ ?_
      refine NX.then ?_
      refine Tr.seq ?_
      obtain ⟨y10, hy11, hr⟩ := bind_some hr
      obtain ⟨r12, hr13, hr⟩ := bind_some hr
      refine Tr.region_f (fun _ => false) ?_
      refine W.q rfl rfl rfl rfl (by decide) (Yd.mv rfl (.t rfl)) ?_
      refine W.q rfl rfl rfl rfl (by decide) (Yd.mv rfl (.t rfl)) ?_
      refine W.q rfl rfl rfl rfl (by decide) (Yd.mv rfl (.t rfl)) ?_
      refine W.q rfl rfl rfl rfl (by decide) (Yd.idxR hs_0 hy11 rfl Try.underlying40 SZ3 (.t rfl) (.t rfl)) ?_
      refine W.q rfl rfl rfl rfl (by decide) (Yd.ldF hs_0 (.refl _) hy11 rfl rfl ON3 (.t rfl)) ?_
      refine W.q rfl rfl rfl rfl (by decide) (Yd.callF hf_1 ⟨(.refl _), [], rfl⟩ rfl (.t rfl) (.t rfl) (fun _ _ => rfl) hr13) ?_
      refine W.end ?_
      refine NX.sub (env' := [(0, _), (1, _), (7, _), (8, _), (5, _), (16, _)]) ⟨rfl, rfl, rfl, rfl, rfl, rfl, trivial⟩ ?_
      refine NX.then ?_
      refine Tr.cond (.t rfl) (fun hb => ?_) (fun hb => ?_)
      · have hr := cond_t hb hr
        refine Tr.seq ?_
        refine Tr.region_f (fun _ => false) ?_
        refine W.q rfl rfl rfl rfl (by decide) (Yd.mv rfl (.t rfl)) ?_
        refine W.q rfl rfl rfl rfl (by decide) (Yd.as rfl (.t rfl)) ?_
        refine W.end ?_
        refine NX.sub (env' := [(4, _)]) ⟨rfl, trivial⟩ ?_
        refine NX.then ?_
        refine Tr.ret' (RT.block (RT.then (RT.then (RT.block (RT.then ?_)))))
        refine res1 rfl rfl ?_
        intro w hc
        cases hr
        exact ⟨rfl, hc⟩
      · have hr := cond_f hb hr
        refine Tr.skip' ?_
        refine NX.block ?_
        refine NX.then ?_
        refine Tr.region_f (fun _ => false) ?_
        refine W.q rfl rfl rfl rfl (by decide) (Yd.add rfl (.t rfl) .c) ?_
        refine W.q rfl rfl rfl rfl (by decide) (Yd.mv rfl (.t rfl)) ?_
        refine W.end ?_
        refine NX.sub (env' := [(0, _), (1, _), (7, _), (8, _)]) ⟨rfl, rfl, rfl, rfl, trivial⟩ ?_
        refine NX.sub (env' := [(0, _), (1, _), (7, _), (8, _)]) ⟨rfl, rfl, rfl, rfl, trivial⟩ ?_
        have hw := w64_id (n := t_6 + 1) (by omega) (by omega)
        exact NX.again n9 (t_6 + 1, ()) (Nat.lt_succ_self _) ⟨(by rw [hw] <;> rfl), rfl, (fr_dec hnt_6), (by omega), ((hnx8 _).symm.trans hr)⟩

def slices_ContainsFunc_Sintint (s_0 : List Int) (f_1 : Int → Option Bool) : Option (Bool) :=
  (slices_IndexFunc_Sintint s_0 f_1).bind fun r1 =>
  some ((decide (r1 ≥ (0 : Int))))

set_option maxRecDepth 100000 in
set_option maxHeartbeats 4000000 in
theorem slices_ContainsFunc_Sintint_ok (w0 : World) (m : Snap) (l : List HI) (us_0 : Value) (s_0 : List Int) (hs_0 : RS rI m us_0 s_0) (uf_1 : Value) (f_1 : Int → Option Bool) (hf_1 : Fq Try.prog w0 ⟨m, l⟩ uf_1 (α := Int) (β := Bool) (fun _ v a => v = .int .i64 a) (fun b => .bool b) f_1) (r : Bool) (hr : slices_ContainsFunc_Sintint s_0 f_1 = some r) (w : World) (hc : cX w0 ⟨m, l⟩ w) :
    Calls Try.prog 19 [us_0, uf_1].toArray w fun e w' => e = .returned (.bool r) ∧ cX w0 ⟨m, l⟩ w' := by
  unfold slices_ContainsFunc_Sintint at hr
  refine calls_of_Tr (N := 9) Try.func19 rfl hc rfl (Nat.le_of_ble_eq_true rfl) ?_
  refine Tr.seq ?_
  refine Tr.region_f (fun _ => false) ?_
  refine W.q rfl rfl rfl rfl (by decide) (Yd.as rfl .c) ?_
  refine W.end ?_
  refine NX.sub (env' := [(0, _), (1, _)]) ⟨rfl, rfl, trivial⟩ ?_
  refine NX.then ?_
  refine Tr.seq ?_
  obtain ⟨r1, hr2, hr⟩ := bind_some hr
  refine Tr.region_f (fun _ => false) ?_
  refine W.q rfl rfl rfl rfl (by decide) (Yd.mv rfl (.t rfl)) ?_
  refine W.q rfl rfl rfl rfl (by decide) (Yd.mv rfl (.t rfl)) ?_
  refine W.q rfl rfl rfl rfl (by decide) (Yd.call (v := .int .i64 r1) rfl Try.func25 rfl rfl (.cons (.t rfl) (.cons (.t rfl) .nil)) (fun x' hx w hw => slices_IndexFunc_Sintint_ok w0 x'.m x'.l _ _ (hs_0.mono hx.1) _ f_1 (hf_1.mono (leX_trans _ _ _ ⟨(.refl _), [], rfl⟩ hx)) _ hr2 w hw)) ?_
  refine W.q rfl rfl rfl rfl (by decide) (Yd.geq rfl (.t rfl) .c) ?_
  refine W.q rfl rfl rfl rfl (by decide) (Yd.as rfl (.t rfl)) ?_
  refine W.end ?_
  refine NX.sub (env' := [(4, _)]) ⟨rfl, trivial⟩ ?_
  refine NX.then ?_
  refine Tr.ret' ?_
  refine res1 rfl rfl ?_
  intro w hc
  cases hr
  exact ⟨rfl, hc⟩

def view_Check (m_0 : Machine) : Option (Int) :=
  (bif ((((((decide (m_0.n < (1 : Int))) || (decide (m_0.n > (6 : Int)))) || (decide (m_0.users < (1 : Int)))) || (decide (m_0.users > (3 : Int)))) || (decide (m_0.acts < (1 : Int)))) || (decide (m_0.acts > (2 : Int)))) then
  some ((1 : Int))
  else
  (view_shaped (({ n := m_0.n, users := m_0.users, acts := m_0.acts, next := m_0.next, sees := m_0.sees } : Machine))).bind fun r3 =>
  (bif (!r3) then
  some ((3 : Int))
  else
  (slices_Concat_SSintSint m_0.next).bind fun r5 =>
  (slices_Concat_Sintint r5).bind fun r10 =>
  (slices_ContainsFunc_Sintint r10 (fun a => view_Check_c1 a (({ n := m_0.n, users := m_0.users, acts := m_0.acts, next := m_0.next, sees := m_0.sees } : Machine)))).bind fun r14 =>
  (bif r14 then
  some ((2 : Int))
  else
  some ((0 : Int)))))

set_option maxRecDepth 100000 in
set_option maxHeartbeats 4000000 in
theorem view_Check_ok (w0 : World) (m : Snap) (l : List HI) (m_0 : Machine) (um_0_3 : Value) (hm_0_3 : RS (Rp.slice (Rp.slice rI)) m um_0_3 m_0.next) (um_0_4 : Value) (hm_0_4 : RS (Rp.slice rI) m um_0_4 m_0.sees) (r : Int) (hr : view_Check m_0 = some r) (w : World) (hc : cX w0 ⟨m, l⟩ w) :
    Calls Try.prog 15 [.agg #[.int .i64 m_0.n, .int .i64 m_0.users, .int .i64 m_0.acts, um_0_3, um_0_4]].toArray w fun e w' => e = .returned (.int .i64 r) ∧ cX w0 ⟨m, l⟩ w' := by
  unfold view_Check at hr
  refine calls_of_Tr (N := 43) Try.func15 rfl hc rfl (Nat.le_of_ble_eq_true rfl) ?_
  refine Tr.seq ?_
  refine Tr.region_f (fun i => Nat.beq i 0) ?_
  refine W.e rfl rfl rfl rfl (by decide) (Ef.bx rfl (.t rfl) rfl) ?_
  rintro _ _ ⟨b1, rfl, rfl⟩
  refine ⟨.inl rfl, ?_⟩
  refine W.cast (m' := m) (l' := hcells b1 [_, _, _, _, _] 25 :: l) rfl rfl ?_
  refine W.q rfl rfl rfl rfl (by decide) (Yd.as rfl .c) ?_
  refine W.end ?_
  refine NX.sub (env' := [(1, _)]) ⟨rfl, trivial⟩ ?_
  refine NX.then ?_
  refine Tr.seq ?_
  refine Tr.block ?_
  refine Tr.seq ?_
  refine Tr.region_f (fun _ => false) ?_
  refine W.q rfl rfl rfl rfl (by decide) (Yd.fldB rfl Try.underlying25 rfl SZ3 rfl (.t rfl)) ?_
  refine W.q rfl rfl rfl rfl (by decide) (Yd.ldB (pos := 0) rfl rfl rfl ON3 (.t rfl)) ?_
  refine W.q rfl rfl rfl rfl (by decide) (Yd.lss rfl (.t rfl) .c) ?_
  refine W.q rfl rfl rfl rfl (by decide) (Yd.mv rfl (.t rfl)) ?_
  refine W.g rfl rfl rfl rfl rfl (.t rfl _) rfl (by decide) (fun hG => Yd.fldB rfl Try.underlying25 rfl SZ3 rfl (.t rfl)) ?_
  refine W.g rfl rfl rfl rfl rfl (.t rfl _) rfl (by decide) (fun hG => Yd.ldB (pos := 0) rfl rfl rfl ON3 (.g rfl hG)) ?_
  refine W.g rfl rfl rfl rfl rfl (.t rfl _) rfl (by decide) (fun hG => Yd.gtr rfl (.g rfl hG) .c) ?_
  refine W.q rfl rfl rfl rfl (by decide) (Yd.or rfl (.t rfl) .c rfl rfl) ?_
  refine W.q rfl rfl rfl rfl (by decide) (Yd.mv rfl (.t rfl)) ?_
  refine W.g rfl rfl rfl rfl rfl (.t rfl _) rfl (by decide) (fun hG => Yd.fldB rfl Try.underlying25 rfl SZ3 rfl (.t rfl)) ?_
  refine W.g rfl rfl rfl rfl rfl (.t rfl _) rfl (by decide) (fun hG => Yd.ldB (pos := 0) rfl rfl rfl ON3 (.g rfl hG)) ?_
  refine W.g rfl rfl rfl rfl rfl (.t rfl _) rfl (by decide) (fun hG => Yd.lss rfl (.g rfl hG) .c) ?_
  refine W.q rfl rfl rfl rfl (by decide) (Yd.or rfl (.t rfl) .c rfl rfl) ?_
  refine W.q rfl rfl rfl rfl (by decide) (Yd.mv rfl (.t rfl)) ?_
  refine W.g rfl rfl rfl rfl rfl (.t rfl _) rfl (by decide) (fun hG => Yd.fldB rfl Try.underlying25 rfl SZ3 rfl (.t rfl)) ?_
  refine W.g rfl rfl rfl rfl rfl (.t rfl _) rfl (by decide) (fun hG => Yd.ldB (pos := 0) rfl rfl rfl ON3 (.g rfl hG)) ?_
  refine W.g rfl rfl rfl rfl rfl (.t rfl _) rfl (by decide) (fun hG => Yd.gtr rfl (.g rfl hG) .c) ?_
  refine W.q rfl rfl rfl rfl (by decide) (Yd.or rfl (.t rfl) .c rfl rfl) ?_
  refine W.q rfl rfl rfl rfl (by decide) (Yd.mv rfl (.t rfl)) ?_
  refine W.g rfl rfl rfl rfl rfl (.t rfl _) rfl (by decide) (fun hG => Yd.fldB rfl Try.underlying25 rfl SZ3 rfl (.t rfl)) ?_
  refine W.g rfl rfl rfl rfl rfl (.t rfl _) rfl (by decide) (fun hG => Yd.ldB (pos := 0) rfl rfl rfl ON3 (.g rfl hG)) ?_
  refine W.g rfl rfl rfl rfl rfl (.t rfl _) rfl (by decide) (fun hG => Yd.lss rfl (.g rfl hG) .c) ?_
  refine W.q rfl rfl rfl rfl (by decide) (Yd.or rfl (.t rfl) .c rfl rfl) ?_
  refine W.q rfl rfl rfl rfl (by decide) (Yd.mv rfl (.t rfl)) ?_
  refine W.g rfl rfl rfl rfl rfl (.t rfl _) rfl (by decide) (fun hG => Yd.fldB rfl Try.underlying25 rfl SZ3 rfl (.t rfl)) ?_
  refine W.g rfl rfl rfl rfl rfl (.t rfl _) rfl (by decide) (fun hG => Yd.ldB (pos := 0) rfl rfl rfl ON3 (.g rfl hG)) ?_
  refine W.g rfl rfl rfl rfl rfl (.t rfl _) rfl (by decide) (fun hG => Yd.gtr rfl (.g rfl hG) .c) ?_
  refine W.q rfl rfl rfl rfl (by decide) (Yd.or rfl (.t rfl) .c rfl rfl) ?_
  refine W.q rfl rfl rfl rfl (by decide) (Yd.as rfl (.t rfl)) ?_
  refine W.end ?_
  refine NX.sub (env' := [(1, _), (3, _)]) ⟨rfl, rfl, trivial⟩ ?_
  refine NX.then ?_
  refine Tr.cond (.t rfl) (fun hb => ?_) (fun hb => ?_)
  · have hr := cond_t hb hr
    refine Tr.seq ?_
    refine Tr.region_f (fun _ => false) ?_
    refine W.q rfl rfl rfl rfl (by decide) (Yd.as rfl .c) ?_
    refine W.end ?_
    refine NX.sub (env' := [(2, _)]) ⟨rfl, trivial⟩ ?_
    refine NX.drop (l' := l) (.cons _ (.refl _)) ?_
    refine NX.then ?_
    refine Tr.ret' (RT.block (RT.then ?_))
    refine res1 rfl rfl ?_
    intro w hc
    cases hr
    exact ⟨rfl, hc⟩
  · have hr := cond_f hb hr
    refine Tr.seq ?_
    obtain ⟨r3, hr4, hr⟩ := bind_some hr
    refine Tr.region_f (fun _ => false) ?_
    refine W.q rfl rfl rfl rfl (by decide) (Yd.ldBs (pos := 0) (us := [_, _, _, _, _]) rfl rfl rfl rfl ON25 US25 SZ25 (.t rfl)) ?_
    refine W.q rfl rfl rfl rfl (by decide) (Yd.call (v := .bool r3) rfl Try.func18 rfl rfl (.cons (.t rfl) .nil) (fun x' hx w hw => view_shaped_ok w0 x'.m x'.l _ _ (hm_0_3.mono hx.1) _ (hm_0_4.mono hx.1) _ hr4 w hw)) ?_
    refine W.q rfl rfl rfl rfl (by decide) (Yd.not rfl (.t rfl)) ?_
    refine W.q rfl rfl rfl rfl (by decide) (Yd.as rfl (.t rfl)) ?_
    refine W.end ?_
    refine NX.sub (env' := [(1, _), (32, _)]) ⟨rfl, rfl, trivial⟩ ?_
    refine NX.then ?_
    refine Tr.cond (.t rfl) (fun hb => ?_) (fun hb => ?_)
    · have hr := cond_t hb hr
      refine Tr.seq ?_
      refine Tr.region_f (fun _ => false) ?_
      refine W.q rfl rfl rfl rfl (by decide) (Yd.as rfl .c) ?_
      refine W.end ?_
      refine NX.sub (env' := [(2, _)]) ⟨rfl, trivial⟩ ?_
      refine NX.drop (l' := l) (.cons _ (.refl _)) ?_
      refine NX.then ?_
      refine Tr.ret' (RT.block (RT.then ?_))
      refine res1 rfl rfl ?_
      intro w hc
      cases hr
      exact ⟨rfl, hc⟩
    · have hr := cond_f hb hr
      refine Tr.seq ?_
      obtain ⟨r5, hr6, hr⟩ := bind_some hr
      obtain ⟨r10, hr11, hr⟩ := bind_some hr
      obtain ⟨r14, hr15, hr⟩ := bind_some hr
      refine Tr.region_f (fun i => Nat.beq i 2 || Nat.beq i 3) ?_
      refine W.q rfl rfl rfl rfl (by decide) (Yd.fldB rfl Try.underlying25 rfl SZ22 rfl (.t rfl)) ?_
      refine W.q rfl rfl rfl rfl (by decide) (Yd.ldB (pos := 0) rfl rfl rfl ON22 (.t rfl)) ?_
      refine W.e rfl rfl rfl rfl (by decide) (Ef.call (R := fun z x' => ∃ u7 : Value, ∃ m8 : Snap, z = u7 ∧ x' = ⟨m8, hcells b1 [.int .i64 m_0.n, .int .i64 m_0.users, .int .i64 m_0.acts, um_0_3, um_0_4] 25 :: l⟩ ∧ Sle m m8 ∧ RS (Rp.slice rI) m8 u7 r5) rfl Try.func21 rfl rfl (.cons (.t rfl) .nil) (fun w hw => (slices_Concat_SSintSint_ok w0 _ _ _ _ hm_0_3 _ hr6 w hw).mono fun e w' ⟨u7, m8, he, hm', hu9, hc'⟩ => ⟨_, _, he, ⟨u7, m8, rfl, rfl, hm', hu9⟩, hc'⟩)) ?_
      rintro u7 _ ⟨_, m8, rfl, rfl, hsm8, hu9⟩
      have hm_0_3 := hm_0_3.mono hsm8
      have hm_0_4 := hm_0_4.mono hsm8
      refine ⟨.inl rfl, ?_⟩
      refine W.cast (m' := m8) (l' := hcells b1 [_, _, _, _, _] 25 :: l) rfl rfl ?_
      refine W.e rfl rfl rfl rfl (by decide) (Ef.call (R := fun z x' => ∃ v12 : Value, z = v12 ∧ x' = ⟨m8, hownT 3 1 encI v12 r10 :: hcells b1 [.int .i64 m_0.n, .int .i64 m_0.users, .int .i64 m_0.acts, um_0_3, um_0_4] 25 :: l⟩) rfl Try.func20 rfl rfl (.cons (.t rfl) .nil) (fun w hw => (slices_Concat_Sintint_ok w0 _ _ _ _ hu9 _ hr11 w hw).mono fun e w' ⟨v12, he, hc'⟩ => ⟨_, _, he, ⟨v12, rfl, rfl⟩, hc'⟩)) ?_
      rintro v12 _ ⟨_, rfl, rfl⟩
      refine ⟨.inl rfl, ?_⟩
      refine W.cast (m' := m8) (l' := hownT 3 1 encI v12 _ :: hcells b1 [_, _, _, _, _] 25 :: l) rfl rfl ?_
      refine W.q rfl rfl rfl rfl (by decide) (Yd.mkf rfl (.cons (.t rfl) .nil)) ?_
      refine W.q rfl rfl rfl rfl (by decide) (Yd.call (v := .bool r14) rfl Try.func19 rfl rfl (.cons (.t rfl) (.cons (.t rfl) .nil)) (by intro x' hx w hw; obtain ⟨p0, p5, hp0, hp5⟩ := hx.at2 (a := 0) (b := 1) rfl rfl rfl; obtain ⟨m2, hm2, hc2, ⟨L2, hl1, hl2⟩, hback⟩ := cX_lend hw hp0 lone_own; have hL1 : RS rI m2 _ _ := RS_of_own hl1 hl2; exact (slices_ContainsFunc_Sintint_ok w0 m2 _ _ _ hL1 _ (fun a => view_Check_c1 a (({ n := m_0.n, users := m_0.users, acts := m_0.acts, next := m_0.next, sees := m_0.sees } : Machine))) ⟨22, _, _, rfl, Try.func22, rfl, rfl, fun y hy w2 hw2 v a r2 hv hr2 => by obtain ⟨q5, hq5⟩ := hy.at (p := p5) hp5; obtain rfl := hv; exact view_Check_c1_ok w0 y.m y.l a q5 _ _ _ (hm_0_3.mono ((hx.1.trans hm2).trans hy.1)) _ (hm_0_4.mono ((hx.1.trans hm2).trans hy.1)) hq5 r2 hr2 w2 hw2⟩ _ hr15 w hc2).mono fun e w' ⟨he, hc'⟩ => ⟨he, (hback m2 _ _ w' (.refl _) hp0).2 hc'⟩)) ?_
      refine W.q rfl rfl rfl rfl (by decide) (Yd.as rfl (.t rfl)) ?_
      refine W.end ?_
      refine NX.sub (env' := [(36, _)]) ⟨rfl, trivial⟩ ?_
      refine NX.drop (l' := l) (.cons _ (.cons _ (.refl _))) ?_
      refine NX.then ?_
      refine Tr.cond (.t rfl) (fun hb => ?_) (fun hb => ?_)
      · have hr := cond_t hb hr
        refine Tr.seq ?_
        refine Tr.region_f (fun _ => false) ?_
        refine W.q rfl rfl rfl rfl (by decide) (Yd.as rfl .c) ?_
        refine W.end ?_
        refine NX.sub (env' := [(2, _)]) ⟨rfl, trivial⟩ ?_
        refine NX.then ?_
        refine Tr.ret' (RT.block (RT.then ?_))
        refine res1 rfl rfl ?_
        intro w hc
        cases hr
        exact ⟨rfl, (cX_le (x := ⟨m, _⟩) ⟨hsm8, [], rfl⟩ hc)⟩
      · have hr := cond_f hb hr
        refine Tr.skip' ?_
        refine NX.block ?_
        refine NX.then ?_
        refine Tr.seq ?_
        refine Tr.region_f (fun _ => false) ?_
        refine W.q rfl rfl rfl rfl (by decide) (Yd.as rfl .c) ?_
        refine W.end ?_
        refine NX.sub (env' := [(2, _)]) ⟨rfl, trivial⟩ ?_
        refine NX.then ?_
        refine Tr.ret' ?_
        refine res1 rfl rfl ?_
        intro w hc
        cases hr
        exact ⟨rfl, (cX_le (x := ⟨m, _⟩) ⟨hsm8, [], rfl⟩ hc)⟩

def view_wrong (m_0 : Machine) (hidden_1 : (BitVec 32)) : Option (Int) :=
  (view_Check (({ n := m_0.n, users := m_0.users, acts := m_0.acts, next := m_0.next, sees := m_0.sees } : Machine))).bind fun r3 =>
  (bif (r3 != (0 : Int)) then
  some r3
  else
  bif decide (0 ≤ m_0.users) then
  (bif ((hidden_1 >>> m_0.users.toNat) != 0#32) then
  some ((4 : Int))
  else
  some ((0 : Int))) else none)

set_option maxRecDepth 100000 in
set_option maxHeartbeats 4000000 in
theorem view_wrong_ok (w0 : World) (m : Snap) (l : List HI) (m_0 : Machine) (um_0_3 : Value) (hm_0_3 : RS (Rp.slice (Rp.slice rI)) m um_0_3 m_0.next) (um_0_4 : Value) (hm_0_4 : RS (Rp.slice rI) m um_0_4 m_0.sees) (hidden_1 : (BitVec 32)) (r : Int) (hr : view_wrong m_0 hidden_1 = some r) (w : World) (hc : cX w0 ⟨m, l⟩ w) :
    Calls Try.prog 8 [.agg #[.int .i64 m_0.n, .int .i64 m_0.users, .int .i64 m_0.acts, um_0_3, um_0_4], .int .u32 (hidden_1.toNat : Int)].toArray w fun e w' => e = .returned (.int .i64 r) ∧ cX w0 ⟨m, l⟩ w' := by
  unfold view_wrong at hr
  refine calls_of_Tr (N := 16) Try.func8 rfl hc rfl (Nat.le_of_ble_eq_true rfl) ?_
  refine Tr.seq ?_
  refine Tr.region_f (fun i => Nat.beq i 0) ?_
  refine W.e rfl rfl rfl rfl (by decide) (Ef.bx rfl (.t rfl) rfl) ?_
  rintro _ _ ⟨b1, rfl, rfl⟩
  refine ⟨.inl rfl, ?_⟩
  refine W.cast (m' := m) (l' := hcells b1 [_, _, _, _, _] 25 :: l) rfl rfl ?_
  refine W.q rfl rfl rfl rfl (by decide) (Yd.as rfl .c) ?_
  refine W.end ?_
  refine NX.sub (env' := [(1, _), (2, _)]) ⟨rfl, rfl, trivial⟩ ?_
  refine NX.then ?_
  refine Tr.seq ?_
  refine Tr.seq ?_
  obtain ⟨r3, hr4, hr⟩ := bind_some hr
  refine Tr.region_f (fun _ => false) ?_
  refine W.q rfl rfl rfl rfl (by decide) (Yd.ldBs (pos := 0) (us := [_, _, _, _, _]) rfl rfl rfl rfl ON25 US25 SZ25 (.t rfl)) ?_
  refine W.q rfl rfl rfl rfl (by decide) (Yd.call (v := .int .i64 r3) rfl Try.func15 rfl rfl (.cons (.t rfl) .nil) (fun x' hx w hw => view_Check_ok w0 x'.m x'.l _ _ (hm_0_3.mono hx.1) _ (hm_0_4.mono hx.1) _ hr4 w hw)) ?_
  refine W.q rfl rfl rfl rfl (by decide) (Yd.as rfl (.t rfl)) ?_
  refine W.end ?_
  refine NX.sub (env' := [(1, _), (2, _), (5, _)]) ⟨rfl, rfl, rfl, trivial⟩ ?_
  refine NX.then ?_
  refine Tr.seq ?_
  refine Tr.region_f (fun _ => false) ?_
  refine W.q rfl rfl rfl rfl (by decide) (Yd.mv rfl (.t rfl)) ?_
  refine W.q rfl rfl rfl rfl (by decide) (Yd.neq rfl (.t rfl) .c) ?_
  refine W.end ?_
  refine NX.sub (env' := [(1, _), (2, _), (5, _), (9, _)]) ⟨rfl, rfl, rfl, rfl, trivial⟩ ?_
  refine NX.then ?_
  refine Tr.cond (.t rfl) (fun hb => ?_) (fun hb => ?_)
  · have hr := cond_t hb hr
    refine Tr.seq ?_
    refine Tr.region_f (fun _ => false) ?_
    refine W.q rfl rfl rfl rfl (by decide) (Yd.mv rfl (.t rfl)) ?_
    refine W.q rfl rfl rfl rfl (by decide) (Yd.as rfl (.t rfl)) ?_
    refine W.end ?_
    refine NX.sub (env' := [(4, _)]) ⟨rfl, trivial⟩ ?_
    refine NX.drop (l' := l) (.cons _ (.refl _)) ?_
    refine NX.then ?_
    refine Tr.ret' (RT.then ?_)
    refine res1 rfl rfl ?_
    intro w hc
    cases hr
    exact ⟨rfl, hc⟩
  · have hr := cond_f hb hr
    refine Tr.skip' ?_
    refine NX.then ?_
    refine Tr.seq ?_
    refine Tr.seq ?_
    obtain ⟨hq5, hr⟩ := guard_some hr; replace hq5 := of_decide_eq_true hq5
    refine Tr.region_f (fun _ => false) ?_
    refine W.q rfl rfl rfl rfl (by decide) (Yd.mv rfl (.t rfl)) ?_
    refine W.q rfl rfl rfl rfl (by decide) (Yd.fldB rfl Try.underlying25 rfl SZ3 rfl (.t rfl)) ?_
    refine W.q rfl rfl rfl rfl (by decide) (Yd.ldB (pos := 0) rfl rfl rfl ON3 (.t rfl)) ?_
    refine W.q rfl rfl rfl rfl (by decide) (Yd.shrU (a := hidden_1) rfl (.t rfl) (.t rfl) hq5) ?_
    refine W.q rfl rfl rfl rfl (by decide) (Yd.neqU (a := (hidden_1 >>> m_0.users.toNat)) (b := 0#32) rfl (.t rfl) .c) ?_
    refine W.end ?_
    refine NX.sub (env' := [(15, _)]) ⟨rfl, trivial⟩ ?_
    refine NX.drop (l' := l) (.cons _ (.refl _)) ?_
    refine NX.then ?_
    refine Tr.cond (.t rfl) (fun hb => ?_) (fun hb => ?_)
    · have hr := cond_t hb hr
      refine Tr.seq ?_
      refine Tr.region_f (fun _ => false) ?_
      refine W.q rfl rfl rfl rfl (by decide) (Yd.as rfl .c) ?_
      refine W.end ?_
      refine NX.sub (env' := [(4, _)]) ⟨rfl, trivial⟩ ?_
      refine NX.then ?_
      refine Tr.ret' (RT.then ?_)
      refine res1 rfl rfl ?_
      intro w hc
      cases hr
      exact ⟨rfl, hc⟩
    · have hr := cond_f hb hr
      refine Tr.skip' ?_
      refine NX.then ?_
      refine Tr.seq ?_
      refine Tr.region_f (fun _ => false) ?_
      refine W.q rfl rfl rfl rfl (by decide) (Yd.as rfl .c) ?_
      refine W.end ?_
      refine NX.sub (env' := [(4, _)]) ⟨rfl, trivial⟩ ?_
      refine NX.then ?_
      refine Tr.ret' ?_
      refine res1 rfl rfl ?_
      intro w hc
      cases hr
      exact ⟨rfl, hc⟩

def view_same_k5 : Option (Bool) :=
  some true

def view_same_b9 (m_0 : Machine) (hidden_1 : (BitVec 32)) (s_2 : Int) (t_3 : Int) (t_8 : Int) (nx10 : Unit → Option (Bool)) : Option (Bool) :=
  bif (!((((hidden_1 >>> t_8.toNat) &&& 1#32) == 0#32) == true) || (geti m_0.sees s_2).isSome) then
  bif (!((((hidden_1 >>> t_8.toNat) &&& 1#32) == 0#32) == true) || (geti (((geti m_0.sees s_2).getD [])) t_8).isSome) then
  bif (!((((hidden_1 >>> t_8.toNat) &&& 1#32) == 0#32) == true) || (geti m_0.sees t_3).isSome) then
  bif (!((((hidden_1 >>> t_8.toNat) &&& 1#32) == 0#32) == true) || (geti (((geti m_0.sees t_3).getD [])) t_8).isSome) then
  (bif ((((hidden_1 >>> t_8.toNat) &&& 1#32) == 0#32) && (((geti (((geti m_0.sees s_2).getD [])) t_8).getD (0 : Int)) != ((geti (((geti m_0.sees t_3).getD [])) t_8).getD (0 : Int)))) then
  some false
  else
  nx10 ()) else none else none else none else none

def view_same (m_0 : Machine) (hidden_1 : (BitVec 32)) (s_2 : Int) (t_3 : Int) : Option (Bool) :=
  bif decide (m_0.users ≤ 9223372036854775807) then
  forK (σ := Unit) (fun i s nx_ => view_same_b9 m_0 hidden_1 s_2 t_3 i nx_) (fun _ => view_same_k5) (m_0.users - (0 : Int)).toNat (0 : Int) () else none

set_option maxRecDepth 100000 in
set_option maxHeartbeats 4000000 in
theorem view_same_ok (w0 : World) (m : Snap) (l : List HI) (m_0 : Machine) (um_0_3 : Value) (hm_0_3 : RS (Rp.slice (Rp.slice rI)) m um_0_3 m_0.next) (um_0_4 : Value) (hm_0_4 : RS (Rp.slice rI) m um_0_4 m_0.sees) (hidden_1 : (BitVec 32)) (s_2 : Int) (t_3 : Int) (r : Bool) (hr : view_same m_0 hidden_1 s_2 t_3 = some r) (w : World) (hc : cX w0 ⟨m, l⟩ w) :
    Calls Try.prog 9 [.agg #[.int .i64 m_0.n, .int .i64 m_0.users, .int .i64 m_0.acts, um_0_3, um_0_4], .int .u32 (hidden_1.toNat : Int), .int .i64 s_2, .int .i64 t_3].toArray w fun e w' => e = .returned (.bool r) ∧ cX w0 ⟨m, l⟩ w' := by
  unfold view_same at hr
  refine calls_of_Tr (N := 40) Try.func9 rfl hc rfl (Nat.le_of_ble_eq_true rfl) ?_
  refine Tr.seq ?_
  refine Tr.region_f (fun i => Nat.beq i 0) ?_
  refine W.e rfl rfl rfl rfl (by decide) (Ef.bx rfl (.t rfl) rfl) ?_
  rintro _ _ ⟨b1, rfl, rfl⟩
  refine ⟨.inl rfl, ?_⟩
  refine W.cast (m' := m) (l' := hcells b1 [_, _, _, _, _] 25 :: l) rfl rfl ?_
  refine W.q rfl rfl rfl rfl (by decide) (Yd.as rfl .c) ?_
  refine W.end ?_
  refine NX.sub (env' := [(1, _), (2, _), (3, _), (4, _)]) ⟨rfl, rfl, rfl, rfl, trivial⟩ ?_
  refine NX.then ?_
  refine Tr.seq ?_
  refine Tr.seq ?_
  refine Tr.region_f (fun _ => false) ?_
  refine W.q rfl rfl rfl rfl (by decide) (Yd.fldB rfl Try.underlying25 rfl SZ3 rfl (.t rfl)) ?_
  refine W.q rfl rfl rfl rfl (by decide) (Yd.ldB (pos := 0) rfl rfl rfl ON3 (.t rfl)) ?_
  refine W.q rfl rfl rfl rfl (by decide) (Yd.mv rfl .c) ?_
  refine W.end ?_
  refine NX.sub (env' := [(1, _), (2, _), (3, _), (4, _), (11, _), (12, _)]) ⟨rfl, rfl, rfl, rfl, rfl, rfl, trivial⟩ ?_
  refine NX.then ?_
  refine Tr.join (S := fun env x => env = [] ∧ x = ⟨m, l⟩ ∧ view_same_k5 = some r) ?_ (fun hk6 => ?_)
  · rintro _ _ ⟨rfl, rfl, hr⟩
    unfold view_same_k5 at hr
    try dsimp only at hr
    refine NX.then ?_
    refine Tr.seq ?_
    refine Tr.region_f (fun _ => false) ?_
    refine W.q rfl rfl rfl rfl (by decide) (Yd.as rfl .c) ?_
    refine W.end ?_
    refine NX.sub (env' := [(8, _)]) ⟨rfl, trivial⟩ ?_
    refine NX.then ?_
    refine Tr.ret' ?_
    refine res1 rfl rfl ?_
    intro w hc
    cases hr
    exact ⟨rfl, hc⟩
  obtain ⟨hle7, hr⟩ := guard_some hr; replace hle7 := of_decide_eq_true hle7
  refine Tr.block ?_
  refine Tr.sub (env' := [(1, _), (2, _), (3, _), (4, _), (11, _), (12, _)]) ⟨rfl, rfl, rfl, rfl, rfl, rfl, trivial⟩ ?_
  refine Tr.loop (S := fun n (z : Int × Unit) env x => match z with | (t_8, _) => env = [(1, .int .u32 (hidden_1.toNat : Int)), (2, .int .i64 s_2), (3, .int .i64 t_3), (4, bp b1 0), (11, .int .i64 m_0.users), (12, .int .i64 t_8)] ∧ x = ⟨m, hcells b1 [.int .i64 m_0.n, .int .i64 m_0.users, .int .i64 m_0.acts, um_0_3, um_0_4] 25 :: l⟩ ∧ n = (m_0.users - t_8).toNat ∧ 0 ≤ t_8 ∧ forK (σ := Unit) (fun i s nx_ => view_same_b9 m_0 hidden_1 s_2 t_3 i nx_) (fun _ => view_same_k5) n t_8 () = some r) _ ((0 : Int), ()) ⟨rfl, rfl, rfl, (by omega), hr⟩ ?_
  rintro n11 ⟨t_8, _⟩ env x ⟨rfl, rfl, hnt_8, h0t_8, hr⟩
  cases n11 with
  | zero =>
    simp only [forK] at hr
    refine Tr.seq ?_
    refine Tr.region_f (fun _ => false) ?_
    refine W.q rfl rfl rfl rfl (by decide) (Yd.lss rfl (.t rfl) (.t rfl)) ?_
    refine W.end ?_
    refine NX.sub (env' := [(1, _), (2, _), (3, _), (4, _), (11, _), (12, _), (13, _)]) ⟨rfl, rfl, rfl, rfl, rfl, rfl, rfl, trivial⟩ ?_
    refine NX.then ?_
    refine Tr.seq ?_
    refine Tr.cond (.t rfl) (fun hb => ?_) (fun hb => ?_)
    · exact absurd (hb.symm.trans (fr_end hnt_8)) (by decide)
    ·
      refine Tr.exit' (EX.then (EX.then (EX.block ?_)))
      refine NX.sub (env' := []) trivial ?_
      refine NX.drop (l' := l) (.cons _ (.refl _)) ?_
      exact hk6 _ _ ⟨rfl, rfl, hr⟩
  | succ n11 =>
    obtain ⟨nx10, hnx10, hr⟩ := forK_succ hr
    try dsimp only at hr
    unfold view_same_b9 at hr
    try dsimp only at hr
    have hltt_8 := fr_bnd hnt_8
    refine Tr.seq ?_
    refine Tr.region_f (fun _ => false) ?_
    refine W.q rfl rfl rfl rfl (by decide) (Yd.lss rfl (.t rfl) (.t rfl)) ?_
    refine W.end ?_
    refine NX.sub (env' := [(1, _), (2, _), (3, _), (4, _), (11, _), (12, _), (13, _)]) ⟨rfl, rfl, rfl, rfl, rfl, rfl, rfl, trivial⟩ ?_
    refine NX.then ?_
    refine Tr.seq ?_
    refine Tr.cond (.t rfl) (fun hb => ?_) (fun hb => ?_)
    rotate_left
    · exact absurd (hb.symm.trans (fr_go hnt_8)) (by decide)
    ·
      refine Tr.skip' ?_
      refine NX.then ?_
      refine Tr.seq ?_
      refine Tr.block ?_
      refine Tr.seq ?_
      refine Tr.region_f (fun _ => false) ?_
      refine W.q rfl rfl rfl rfl (by decide) (Yd.mv rfl (.t rfl)) ?_
      refine W.q rfl rfl rfl rfl (by decide) (Yd.as rfl (.t rfl)) ?_
      refine W.end ?_
      refine NX.sub (env' := [(1, _), (2, _), (3, _), (4, _), (11, _), (12, _), (9, _)]) ⟨rfl, rfl, rfl, rfl, rfl, rfl, rfl, trivial⟩ ?_
      refine NX.then ?_
      refine Tr.seq ?_
      obtain ⟨ha12, hr⟩ := guard_some hr
      obtain ⟨ha16, hr⟩ := guard_some hr
      obtain ⟨ha17, hr⟩ := guard_some hr
      obtain ⟨ha21, hr⟩ := guard_some hr
      refine Tr.region_x (fun _ => false) (fun _ => false) (Ord.of [0, 1, 2, 3, 4, 5, 6, 7, 8, 9, 10, 11, 12, 13, 14, 15, 16, 17, 18, 19, 20, 21, 22, 23]) FM (by kernel_rfl) ?_
      refine W.q rfl rfl rfl rfl (by decide) (Yd.mv rfl (.t rfl)) ?_
      refine W.q rfl rfl rfl rfl (by decide) (Yd.mv rfl (.t rfl)) ?_
      refine W.q rfl rfl rfl rfl (by decide) (Yd.shrU (a := hidden_1) rfl (.t rfl) (.t rfl) h0t_8) ?_
      refine W.q rfl rfl rfl rfl (by decide) (Yd.andU (a := (hidden_1 >>> t_8.toNat)) (b := 1#32) rfl (.t rfl) .c) ?_
      refine W.q rfl rfl rfl rfl (by decide) (Yd.eqlU (a := ((hidden_1 >>> t_8.toNat) &&& 1#32)) (b := 0#32) rfl (.t rfl) .c) ?_
      refine W.q rfl rfl rfl rfl (by decide) (Yd.mv rfl (.t rfl)) ?_
      refine W.g rfl rfl rfl rfl rfl (.t rfl _) rfl (by decide) (fun hG => Yd.fldB rfl Try.underlying25 rfl SZ23 rfl (.t rfl)) ?_
      refine W.g rfl rfl rfl rfl rfl (.t rfl _) rfl (by decide) (fun hG => Yd.ldB (pos := 0) rfl rfl rfl ON23 (.g rfl hG)) ?_
      refine W.g rfl rfl rfl rfl rfl (.t rfl _) rfl (by decide) (fun hG => Yd.mv rfl (.t rfl)) ?_
      refine W.g rfl rfl rfl rfl rfl (.t rfl _) rfl (by decide) (fun hG => Yd.idxR hm_0_4 (gd_get (d := []) ha12 hG) rfl Try.underlying23 SZ40 (.g rfl hG) (.g rfl hG)) ?_
      obtain ⟨u13, hu14⟩ := RS.rowD hm_0_4 (i := s_2)
      refine W.g rfl rfl rfl rfl rfl (.t rfl _) rfl (by decide) (fun hG => Yd.ldRow (hu14 _ (gd_get (d := []) ha12 hG)).2 (.refl _) rfl ON40 (.g rfl hG)) ?_
      refine W.g rfl rfl rfl rfl rfl (.t rfl _) rfl (by decide) (fun hG => Yd.mv rfl (.t rfl)) ?_
      refine W.g rfl rfl rfl rfl rfl (.t rfl _) rfl (by decide) (fun hG => Yd.idxR (hu14 _ (gd_get (d := []) ha12 hG)).1 (gd_get (d := (0 : Int)) ha16 hG) rfl Try.underlying40 SZ3 (.g rfl hG) (.g rfl hG)) ?_
      refine W.g rfl rfl rfl rfl rfl (.t rfl _) rfl (by decide) (fun hG => Yd.ldF (hu14 _ (gd_get (d := []) ha12 hG)).1 (.refl _) (gd_get (d := (0 : Int)) ha16 hG) rfl rfl ON3 (.g rfl hG)) ?_
      refine W.g rfl rfl rfl rfl rfl (.t rfl _) rfl (by decide) (fun hG => Yd.fldB rfl Try.underlying25 rfl SZ23 rfl (.t rfl)) ?_
      refine W.g rfl rfl rfl rfl rfl (.t rfl _) rfl (by decide) (fun hG => Yd.ldB (pos := 0) rfl rfl rfl ON23 (.g rfl hG)) ?_
      refine W.g rfl rfl rfl rfl rfl (.t rfl _) rfl (by decide) (fun hG => Yd.mv rfl (.t rfl)) ?_
      refine W.g rfl rfl rfl rfl rfl (.t rfl _) rfl (by decide) (fun hG => Yd.idxR hm_0_4 (gd_get (d := []) ha17 hG) rfl Try.underlying23 SZ40 (.g rfl hG) (.g rfl hG)) ?_
      obtain ⟨u18, hu19⟩ := RS.rowD hm_0_4 (i := t_3)
      refine W.g rfl rfl rfl rfl rfl (.t rfl _) rfl (by decide) (fun hG => Yd.ldRow (hu19 _ (gd_get (d := []) ha17 hG)).2 (.refl _) rfl ON40 (.g rfl hG)) ?_
      refine W.g rfl rfl rfl rfl rfl (.t rfl _) rfl (by decide) (fun hG => Yd.mv rfl (.t rfl)) ?_
      refine W.g rfl rfl rfl rfl rfl (.t rfl _) rfl (by decide) (fun hG => Yd.idxR (hu19 _ (gd_get (d := []) ha17 hG)).1 (gd_get (d := (0 : Int)) ha21 hG) rfl Try.underlying40 SZ3 (.g rfl hG) (.g rfl hG)) ?_
      refine W.g rfl rfl rfl rfl rfl (.t rfl _) rfl (by decide) (fun hG => Yd.ldF (hu19 _ (gd_get (d := []) ha17 hG)).1 (.refl _) (gd_get (d := (0 : Int)) ha21 hG) rfl rfl ON3 (.g rfl hG)) ?_
      refine W.g rfl rfl rfl rfl rfl (.t rfl _) rfl (by decide) (fun hG => Yd.neq rfl (.g rfl hG) (.g rfl hG)) ?_
      refine W.q rfl rfl rfl rfl (by decide) (Yd.and rfl (.t rfl) .c rfl rfl) ?_
      refine W.end ?_
      refine NX.sub (env' := [(1, _), (2, _), (3, _), (4, _), (11, _), (12, _), (38, _)]) ⟨rfl, rfl, rfl, rfl, rfl, rfl, rfl, trivial⟩ ?_
      refine NX.then ?_
      refine Tr.cond (.t rfl) (fun hb => ?_) (fun hb => ?_)
      · have hr := cond_t hb hr
        refine Tr.seq ?_
        refine Tr.region_f (fun _ => false) ?_
        refine W.q rfl rfl rfl rfl (by decide) (Yd.as rfl .c) ?_
        refine W.end ?_
        refine NX.sub (env' := [(8, _)]) ⟨rfl, trivial⟩ ?_
        refine NX.drop (l' := l) (.cons _ (.refl _)) ?_
        refine NX.then ?_
        refine Tr.ret' (RT.block (RT.then (RT.then (RT.block (RT.then ?_)))))
        refine res1 rfl rfl ?_
        intro w hc
        cases hr
        exact ⟨rfl, hc⟩
      · have hr := cond_f hb hr
        refine Tr.skip' ?_
        refine NX.block ?_
        refine NX.then ?_
        refine Tr.region_f (fun _ => false) ?_
        refine W.q rfl rfl rfl rfl (by decide) (Yd.add rfl (.t rfl) .c) ?_
        refine W.q rfl rfl rfl rfl (by decide) (Yd.mv rfl (.t rfl)) ?_
        refine W.end ?_
        refine NX.sub (env' := [(1, _), (2, _), (3, _), (4, _), (11, _), (12, _)]) ⟨rfl, rfl, rfl, rfl, rfl, rfl, trivial⟩ ?_
        refine NX.sub (env' := [(1, _), (2, _), (3, _), (4, _), (11, _), (12, _)]) ⟨rfl, rfl, rfl, rfl, rfl, rfl, trivial⟩ ?_
        have hw := w64_id (n := t_8 + 1) (by omega) (by omega)
        exact NX.again n11 (t_8 + 1, ()) (Nat.lt_succ_self _) ⟨(by rw [hw] <;> rfl), rfl, (fr_dec hnt_8), (by omega), ((hnx10 _).symm.trans hr)⟩

def slices_Clone_SapiActapiAct (s_0 : List Act) : Option ((List Act)) :=
  bif decide ((([] : List Act)).length + s_0.length ≤ 8796093022208) then
  some ((([] : List Act) ++ s_0)) else none

set_option maxRecDepth 100000 in
set_option maxHeartbeats 4000000 in
theorem slices_Clone_SapiActapiAct_ok (w0 : World) (m : Snap) (l : List HI) (us_0 : Value) (s_0 : List Act) (hs_0 : RS rAct m us_0 s_0) (r : (List Act)) (hr : slices_Clone_SapiActapiAct s_0 = some r) (w : World) (hc : cX w0 ⟨m, l⟩ w) :
    Calls Try.prog 10 [us_0].toArray w fun e w' => ∃ z0 : Value, e = .returned (z0) ∧ cX w0 ⟨m, hownT 43 2 Act.enc z0 r :: l⟩ w' := by
  unfold slices_Clone_SapiActapiAct at hr
  refine calls_of_Tr (N := 8) Try.func10 rfl hc rfl (Nat.le_of_ble_eq_true rfl) ?_
  refine Tr.seq ?_
  refine Tr.region_f (fun _ => false) ?_
  refine W.q rfl rfl rfl rfl (by decide) (Yd.as rfl .c) ?_
  refine W.end ?_
  refine NX.sub (env' := [(0, _)]) ⟨rfl, trivial⟩ ?_
  refine NX.then ?_
  refine Tr.seq ?_
  refine Tr.seq ?_
  refine Tr.region_f (fun _ => false) ?_
  refine W.q rfl rfl rfl rfl (by decide) (Yd.mv rfl (.t rfl)) ?_
  refine W.q rfl rfl rfl rfl (by decide) (Yd.eqnil hs_0 rfl Try.underlying27 (.t rfl) .c) ?_
  refine W.end ?_
  refine NX.sub (env' := [(0, _), (4, _)]) ⟨rfl, rfl, trivial⟩ ?_
  refine NX.then ?_
  refine Tr.cond (.t rfl) (fun hb => ?_) (fun hb => ?_)
  · obtain rfl : s_0 = [] := RS.nil_of hs_0 hb
    have hr : some ([]) = some r := hr
    refine Tr.seq ?_
    refine Tr.region_f (fun _ => false) ?_
    refine W.q rfl rfl rfl rfl (by decide) (Yd.as rfl .c) ?_
    refine W.end ?_
    refine NX.sub (env' := [(2, _)]) ⟨rfl, trivial⟩ ?_
    refine NX.then ?_
    refine Tr.ret' (RT.then ?_)
    refine res1 rfl rfl ?_
    intro w hc
    cases hr
    exact ⟨_, rfl, (cX_nil hc)⟩
  ·
    refine Tr.skip' ?_
    refine NX.then ?_
    refine Tr.seq ?_
    obtain ⟨hq4, hr⟩ := guard_some hr; replace hq4 := of_decide_eq_true hq4
    refine Tr.region_f (fun i => Nat.beq i 0 || Nat.beq i 2) ?_
    refine W.e rfl rfl rfl rfl (by decide) (Ef.bsT (enc := Act.enc) (vs := []) (ys := []) (fun _ => rfl) IF43 rfl Try.underlying27 (by decide) rfl .nil rfl rfl (by decide)) ?_
    rintro v1 _ rfl
    refine ⟨.inl rfl, ?_⟩
    refine W.cast (m' := m) (l' := hownT 43 2 Act.enc v1 _ :: l) rfl rfl ?_
    refine W.q rfl rfl rfl rfl (by decide) (Yd.mv rfl (.t rfl)) ?_
    refine W.e rfl rfl rfl rfl (by decide) (Ef.apI (pos := 0) (enc := Act.enc) (xs := ([] : List Act)) (ys := s_0) (fun _ => rfl) IF43 rfl rfl Try.underlying27 rfl (by decide) (.t rfl) (.t rfl) (Src.rs (by decide) (.refl _) hs_0) (fun _ => rfl) (by omega) (by omega)) ?_
    rintro v3 _ rfl
    refine ⟨.inl rfl, ?_⟩
    refine W.cast (m' := m) (l' := hownT 43 2 Act.enc v3 _ :: l) rfl rfl ?_
    refine W.q rfl rfl rfl rfl (by decide) (Yd.as rfl (.t rfl)) ?_
    refine W.end ?_
    refine NX.sub (env' := [(2, _)]) ⟨rfl, trivial⟩ ?_
    refine NX.then ?_
    refine Tr.ret' ?_
    refine res1 rfl rfl ?_
    intro w hc
    cases hr
    exact ⟨_, rfl, hc⟩

def view_Leak_k27 : Option ((List Act) × Int) :=
  some (([], (5 : Int)))

def view_Leak_k62 (nx30 : (((List (Int × Int)) × (List ((Int × Int) × (List Act)))) → Option ((List Act) × Int))) (l56 : List (Int × Int)) (l58 : List ((Int × Int) × (List Act))) : Option ((List Act) × Int) :=
  bif decide (0 ≤ (1 : Int) ∧ (1 : Int) ≤ (l56.length : Int)) then
  nx30 ((l56.drop ((1 : Int)).toNat), l58) else none

def view_Leak_k90 (nx68 : (((List (Int × Int)) × (List ((Int × Int) × (List Act)))) → Option ((List Act) × Int))) (l84 : List (Int × Int)) (l86 : List ((Int × Int) × (List Act))) : Option ((List Act) × Int) :=
  nx68 (l84, l86)

def view_Leak_k112 (y32 : (Int × Int)) (t_66 : Int) (t_93 : Int) (l78 : List (Int × Int)) (l80 : List ((Int × Int) × (List Act))) (nx95 : (((List (Int × Int)) × (List ((Int × Int) × (List Act)))) → Option ((List Act) × Int))) (y107 : Int) (c111 : Int) : Option ((List Act) × Int) :=
  (bif (!(mget l80 ((y107, c111))).isSome) then
  (slices_Clone_SapiActapiAct (((mget l80 ((y32.1, y32.2))).getD []))).bind fun r368 =>
  bif decide (r368.length + (([({ user := t_66, act := t_93 } : Act)] : List Act)).length ≤ 8796093022208) then
  bif decide (l78.length + (([(y107, c111)] : List (Int × Int))).length ≤ 8796093022208) then
  nx95 ((l78 ++ ([(y107, c111)] : List (Int × Int))), (mput l80 ((y107, c111)) ((r368 ++ ([({ user := t_66, act := t_93 } : Act)] : List Act))))) else none else none
  else
  nx95 (l78, l80))

def view_Leak_b94 (m_0 : Machine) (hidden_1 : (BitVec 32)) (y32 : (Int × Int)) (t_66 : Int) (t_93 : Int) (l78 : List (Int × Int)) (l80 : List ((Int × Int) × (List Act))) (nx95 : ((List (Int × Int)) × (List ((Int × Int) × (List Act)))) → Option ((List Act) × Int)) : Option ((List Act) × Int) :=
  (geti m_0.next y32.1).bind fun y97 =>
  (geti y97 t_66).bind fun y102 =>
  (geti y102 t_93).bind fun y107 =>
  (bif (((hidden_1 >>> t_66.toNat) &&& 1#32) == 0#32) then
  (geti m_0.next y32.2).bind fun y672 =>
  (geti y672 t_66).bind fun y677 =>
  (geti y677 t_93).bind fun y682 =>
  view_Leak_k112 y32 t_66 t_93 l78 l80 nx95 y107 y682
  else
  view_Leak_k112 y32 t_66 t_93 l78 l80 nx95 y107 y32.2)

def view_Leak_b67 (m_0 : Machine) (hidden_1 : (BitVec 32)) (y32 : (Int × Int)) (t_66 : Int) (l50 : List (Int × Int)) (l52 : List ((Int × Int) × (List Act))) (nx68 : ((List (Int × Int)) × (List ((Int × Int) × (List Act)))) → Option ((List Act) × Int)) : Option ((List Act) × Int) :=
  bif decide (m_0.acts ≤ 9223372036854775807) then
  forK (σ := (List (Int × Int)) × (List ((Int × Int) × (List Act)))) (fun i s nx_ => view_Leak_b94 m_0 hidden_1 y32 t_66 i s.1 s.2 nx_) (fun s => view_Leak_k90 nx68 s.1 s.2) (m_0.acts - (0 : Int)).toNat (0 : Int) (l50, l52) else none

def view_Leak_b29 (m_0 : Machine) (hidden_1 : (BitVec 32)) (l15 : List (Int × Int)) (l17 : List ((Int × Int) × (List Act))) (nx30 : ((List (Int × Int)) × (List ((Int × Int) × (List Act)))) → Option ((List Act) × Int)) : Option ((List Act) × Int) :=
  (bif (decide ((l15.length : Int) > (0 : Int))) then
  (geti l15 ((0 : Int))).bind fun y32 =>
  (view_same (({ n := m_0.n, users := m_0.users, acts := m_0.acts, next := m_0.next, sees := m_0.sees } : Machine)) hidden_1 y32.1 y32.2).bind fun r36 =>
  (bif (!r36) then
  some ((((mget l17 ((y32.1, y32.2))).getD []), (0 : Int)))
  else
  bif decide (m_0.users ≤ 9223372036854775807) then
  forK (σ := (List (Int × Int)) × (List ((Int × Int) × (List Act)))) (fun i s nx_ => view_Leak_b67 m_0 hidden_1 y32 i s.1 s.2 nx_) (fun s => view_Leak_k62 nx30 s.1 s.2) (m_0.users - (0 : Int)).toNat (0 : Int) (l15, l17) else none)
  else
  view_Leak_k27)

def view_Leak (fuel : Nat) (m_0 : Machine) (hidden_1 : (BitVec 32)) : Option ((List Act) × Int) :=
  (view_wrong (({ n := m_0.n, users := m_0.users, acts := m_0.acts, next := m_0.next, sees := m_0.sees } : Machine)) hidden_1).bind fun r3 =>
  (bif (r3 != (0 : Int)) then
  some (([], r3))
  else
  whileK (σ := (List (Int × Int)) × (List ((Int × Int) × (List Act)))) (fun s nx_ => view_Leak_b29 m_0 hidden_1 s.1 s.2 nx_) fuel ((([((0 : Int), (0 : Int))] : List (Int × Int))), ((mput (([] : List ((Int × Int) × (List Act)))) (((0 : Int), (0 : Int))) ([])))))

set_option maxRecDepth 100000 in
set_option maxHeartbeats 4000000 in
theorem view_Leak_ok (w0 : World) (m : Snap) (l : List HI) (fuel : Nat) (m_0 : Machine) (um_0_3 : Value) (hm_0_3 : RS (Rp.slice (Rp.slice rI)) m um_0_3 m_0.next) (um_0_4 : Value) (hm_0_4 : RS (Rp.slice rI) m um_0_4 m_0.sees) (hidden_1 : (BitVec 32)) (r : (List Act) × Int) (hr : view_Leak fuel m_0 hidden_1 = some r) (w : World) (hc : cX w0 ⟨m, l⟩ w) :
    Calls Try.prog 4 [.agg #[.int .i64 m_0.n, .int .i64 m_0.users, .int .i64 m_0.acts, um_0_3, um_0_4], .int .u32 (hidden_1.toNat : Int)].toArray w fun e w' => ∃ z0 : Value, ∃ m1 : Snap, e = .returned (.tuple #[z0, .int .i64 r.2]) ∧ Sle m m1 ∧ RS rAct m1 z0 r.1 ∧ cX w0 ⟨m1, l⟩ w' := by
  unfold view_Leak at hr
  refine calls_of_Tr (N := 113) Try.func4 rfl hc rfl (Nat.le_of_ble_eq_true rfl) ?_
  refine Tr.seq ?_
  refine Tr.region_f (fun i => Nat.beq i 0) ?_
  refine W.e rfl rfl rfl rfl (by decide) (Ef.bx rfl (.t rfl) rfl) ?_
  rintro _ _ ⟨b1, rfl, rfl⟩
  refine ⟨.inl rfl, ?_⟩
  refine W.cast (m' := m) (l' := hcells b1 [_, _, _, _, _] 25 :: l) rfl rfl ?_
  refine W.q rfl rfl rfl rfl (by decide) (Yd.as rfl .c) ?_
  refine W.q rfl rfl rfl rfl (by decide) (Yd.as rfl .c) ?_
  refine W.end ?_
  refine NX.sub (env' := [(1, _), (2, _)]) ⟨rfl, rfl, trivial⟩ ?_
  refine NX.then ?_
  refine Tr.seq ?_
  refine Tr.seq ?_
  obtain ⟨r3, hr4, hr⟩ := bind_some hr
  refine Tr.region_f (fun _ => false) ?_
  refine W.q rfl rfl rfl rfl (by decide) (Yd.ldBs (pos := 0) (us := [_, _, _, _, _]) rfl rfl rfl rfl ON25 US25 SZ25 (.t rfl)) ?_
  refine W.q rfl rfl rfl rfl (by decide) (Yd.mv rfl (.t rfl)) ?_
  refine W.q rfl rfl rfl rfl (by decide) (Yd.call (v := .int .i64 r3) rfl Try.func8 rfl rfl (.cons (.t rfl) (.cons (.t rfl) .nil)) (fun x' hx w hw => view_wrong_ok w0 x'.m x'.l _ _ (hm_0_3.mono hx.1) _ (hm_0_4.mono hx.1) hidden_1 _ hr4 w hw)) ?_
  refine W.q rfl rfl rfl rfl (by decide) (Yd.as rfl (.t rfl)) ?_
  refine W.end ?_
  refine NX.sub (env' := [(1, _), (2, _), (6, _)]) ⟨rfl, rfl, rfl, trivial⟩ ?_
  refine NX.then ?_
  refine Tr.seq ?_
  refine Tr.region_f (fun _ => false) ?_
  refine W.q rfl rfl rfl rfl (by decide) (Yd.mv rfl (.t rfl)) ?_
  refine W.q rfl rfl rfl rfl (by decide) (Yd.neq rfl (.t rfl) .c) ?_
  refine W.end ?_
  refine NX.sub (env' := [(1, _), (2, _), (6, _), (19, _)]) ⟨rfl, rfl, rfl, rfl, trivial⟩ ?_
  refine NX.then ?_
  refine Tr.cond (.t rfl) (fun hb => ?_) (fun hb => ?_)
  · have hr := cond_t hb hr
    refine Tr.seq ?_
    refine Tr.region_f (fun _ => false) ?_
    refine W.q rfl rfl rfl rfl (by decide) (Yd.mv rfl (.t rfl)) ?_
    refine W.q rfl rfl rfl rfl (by decide) (Yd.as rfl .c) ?_
    refine W.q rfl rfl rfl rfl (by decide) (Yd.as rfl (.t rfl)) ?_
    refine W.end ?_
    refine NX.sub (env' := [(4, _), (5, _)]) ⟨rfl, rfl, trivial⟩ ?_
    refine NX.drop (l' := l) (.cons _ (.refl _)) ?_
    refine NX.then ?_
    refine Tr.ret' (RT.then ?_)
    refine res2 rfl rfl rfl ?_
    intro w hc
    cases hr
    exact ⟨_, _, rfl, (.refl _), (RS.nil _ _), hc⟩
  · have hr := cond_f hb hr
    refine Tr.skip' ?_
    refine NX.then ?_
    refine Tr.seq ?_
    refine Tr.region_f (fun i => Nat.beq i 0 || Nat.beq i 2) ?_
    refine W.e rfl rfl rfl rfl (by decide) (Ef.mkMap (ν := Value) ek36 evV rfl) ?_
    rintro _ _ ⟨b5, rfl, rfl⟩
    refine ⟨.inl rfl, ?_⟩
    refine W.cast (m' := m) (l' := hmap b5 ek36 evV _ :: hcells b1 [_, _, _, _, _] 25 :: l) rfl rfl ?_
    refine W.q rfl rfl rfl rfl (by decide) (Yd.bldA (cells := [.int .i64 ((0 : Int)), .int .i64 ((0 : Int))]) rfl ZI36 PA36 (.cons .c (.cons .c .nil)) rfl) ?_
    refine W.s rfl rfl rfl rfl (Ef.mins MK36 (ev := evV) (pos := 0) (k := ((0 : Int), (0 : Int))) (v := (.slice none 0 0)) rfl rfl Try.underlying37 (.t rfl) (.t rfl) .c) ?_
    rintro _ _ ⟨rfl, rfl⟩
    refine ⟨.inl rfl, ?_⟩
    refine W.cast (m' := m) (l' := hmap b5 ek36 evV _ :: hcells b1 [_, _, _, _, _] 25 :: l) rfl rfl ?_
    refine W.q rfl rfl rfl rfl (by decide) (Yd.mv rfl (.t rfl)) ?_
    refine W.q rfl rfl rfl rfl (by decide) (Yd.as rfl (.t rfl)) ?_
    refine W.end ?_
    refine NX.sub (env' := [(1, _), (2, _), (7, _)]) ⟨rfl, rfl, rfl, trivial⟩ ?_
    refine NX.then ?_
    refine Tr.seq ?_
    refine Tr.seq ?_
    refine Tr.region_f (fun i => Nat.beq i 1) ?_
    refine W.q rfl rfl rfl rfl (by decide) (Yd.bldA (cells := [.int .i64 ((0 : Int)), .int .i64 ((0 : Int))]) rfl ZI36 PA36 (.cons .c (.cons .c .nil)) rfl) ?_
    refine W.e rfl rfl rfl rfl (by decide) (Ef.bsT (enc := encP) (vs := [_]) (ys := [((0 : Int), (0 : Int))]) (fun _ => rfl) IF36 rfl Try.underlying38 (by decide) rfl (.cons (.t rfl) .nil) rfl rfl (by decide)) ?_
    rintro v7 _ rfl
    refine ⟨.inl rfl, ?_⟩
    refine W.cast (m' := m) (l' := hownT 36 2 encP v7 _ :: hmap b5 ek36 evV _ :: hcells b1 [_, _, _, _, _] 25 :: l) rfl rfl ?_
    refine W.q rfl rfl rfl rfl (by decide) (Yd.as rfl (.t rfl)) ?_
    refine W.end ?_
    refine NX.imp (fun w hw => cX_toQ (p := 0) rfl hw) ?_
    refine NX.cast (m' := m) (l' := hqT 36 2 encP v7 (([((0 : Int), (0 : Int))] : List (Int × Int))) :: hmap b5 ek36 evV ((mput (([] : List ((Int × Int) × Value))) (((0 : Int), (0 : Int))) (.slice none 0 0))) :: hcells b1 [.int .i64 m_0.n, .int .i64 m_0.users, .int .i64 m_0.acts, um_0_3, um_0_4] 25 :: l) rfl rfl ?_
    refine NX.sub (env' := [(1, _), (2, _), (7, _), (8, _)]) ⟨rfl, rfl, rfl, rfl, trivial⟩ ?_
    refine NX.then ?_
    refine Tr.join (S := fun env x => ∃ m26 : Snap, Sle m m26 ∧ env = [] ∧ x = ⟨m26, l⟩ ∧ view_Leak_k27 = some r) ?_ (fun hk28 => ?_)
    · rintro _ _ ⟨m26, hsm26, rfl, rfl, hr⟩
      unfold view_Leak_k27 at hr
      try dsimp only at hr
      have hm_0_3 := hm_0_3.mono hsm26
      have hm_0_4 := hm_0_4.mono hsm26
      refine NX.then ?_
      refine Tr.seq ?_
      refine Tr.region_f (fun _ => false) ?_
      refine W.q rfl rfl rfl rfl (by decide) (Yd.as rfl .c) ?_
      refine W.q rfl rfl rfl rfl (by decide) (Yd.as rfl .c) ?_
      refine W.end ?_
      refine NX.sub (env' := [(4, _), (5, _)]) ⟨rfl, rfl, trivial⟩ ?_
      refine NX.then ?_
      refine Tr.ret' ?_
      refine res2 rfl rfl rfl ?_
      intro w hc
      cases hr
      exact ⟨_, _, rfl, hsm26, (RS.nil _ _), hc⟩
    refine Tr.block ?_
    refine Tr.sub (env' := [(1, _), (2, _), (7, _), (8, _)]) ⟨rfl, rfl, rfl, rfl, trivial⟩ ?_
    refine Tr.loop (S := fun n (z : (List (Int × Int)) × (List ((Int × Int) × (List Act)))) env x => match z with | (l15, l17) => ∃ m20 : Snap, ∃ v16 : Value, ∃ us18 : List ((Int × Int) × Value), Sle m m20 ∧ MRows rAct m20 us18 l17 ∧ env = [(1, .int .u32 (hidden_1.toNat : Int)), (2, bp b1 0), (7, (.map (some b5))), (8, v16)] ∧ x = ⟨m20, hqT 36 2 encP v16 l15 :: hmap b5 ek36 evV us18 :: hcells b1 [.int .i64 m_0.n, .int .i64 m_0.users, .int .i64 m_0.acts, um_0_3, um_0_4] 25 :: l⟩ ∧ whileK (σ := (List (Int × Int)) × (List ((Int × Int) × (List Act)))) (fun s nx_ => view_Leak_b29 m_0 hidden_1 s.1 s.2 nx_) n (l15, l17) = some r) _ (([((0 : Int), (0 : Int))] : List (Int × Int)), (mput (([] : List ((Int × Int) × (List Act)))) (((0 : Int), (0 : Int))) ([]))) ⟨_, _, _, (.refl _), (MRows.put (MRows.nil : MRows rAct _ ([] : List ((Int × Int) × Value)) []) (((0 : Int), (0 : Int))) (RS.nil _ _)), rfl, rfl, hr⟩ ?_
    rintro n31 ⟨l15, l17⟩ env x ⟨m20, v16, us18, hsm20, hw19, rfl, rfl, hr⟩
    have hm_0_3 := hm_0_3.mono hsm20
    have hm_0_4 := hm_0_4.mono hsm20
    cases n31 with
    | zero => simp [whileK] at hr
    | succ n31 =>
      obtain ⟨nx30, hnx30, hr⟩ := whileK_succ hr
      try dsimp only at hr
      unfold view_Leak_b29 at hr
      try dsimp only at hr
      refine Tr.seq ?_
      refine Tr.seq ?_
      refine Tr.region_f (fun _ => false) ?_
      refine W.q rfl rfl rfl rfl (by decide) (Yd.mv rfl (.t rfl)) ?_
      refine W.q rfl rfl rfl rfl (by decide) (Yd.lenQ (p := 0) rfl rfl Try.underlying38 (.t rfl)) ?_
      refine W.q rfl rfl rfl rfl (by decide) (Yd.gtr rfl (.t rfl) .c) ?_
      refine W.end ?_
      refine NX.sub (env' := [(1, _), (2, _), (7, _), (8, _), (28, _)]) ⟨rfl, rfl, rfl, rfl, rfl, trivial⟩ ?_
      refine NX.then ?_
      refine Tr.cond (.t rfl) (fun hb => ?_) (fun hb => ?_)
      · have hr := cond_t hb hr
        refine Tr.skip' ?_
        refine NX.then ?_
        refine Tr.seq ?_
        refine Tr.block ?_
        refine Tr.seq ?_
        obtain ⟨y32, hy33, hr⟩ := bind_some hr
        refine Tr.region_f (fun i => Nat.beq i 3 || Nat.beq i 4) ?_
        refine W.q rfl rfl rfl rfl (by decide) (Yd.mv rfl (.t rfl)) ?_
        refine W.q rfl rfl rfl rfl (by decide) (Yd.idxQ (pos := 0) (enc := encP) (n := 2) rfl hy33 rfl Try.underlying38 SZ36 (.t rfl) .c) ?_
        refine W.q rfl rfl rfl rfl (by decide) (Yd.ldQs (enc := encP) (n := 2) (pos := 0) (us := [_, _]) (fun _ => rfl) rfl hy33 rfl (by decide) rfl ON36 US36 SZ36 (.t rfl)) ?_
        refine W.e rfl rfl rfl rfl (by decide) (Ef.al rfl ZR36 rfl) ?_
        rintro _ _ ⟨b34, rfl, rfl⟩
        refine ⟨.inl rfl, ?_⟩
        refine W.cast (m' := m20) (l' := hcells b34 [_, _] 36 :: hqT 36 2 encP v16 _ :: hmap b5 ek36 evV _ :: hcells b1 [_, _, _, _, _] 25 :: l) rfl rfl ?_
        refine W.s rfl rfl rfl rfl (Ef.stB (pos := 0) (us := [_, _]) (cs' := [_, _]) rfl rfl (.t rfl) (.t rfl) SZ36 rfl rfl rfl (Nat.le_of_ble_eq_true rfl) rfl) ?_
        rintro _ _ ⟨rfl, rfl⟩
        refine ⟨.inl rfl, ?_⟩
        refine W.cast (m' := m20) (l' := hcells b34 [_, _] 36 :: hqT 36 2 encP v16 _ :: hmap b5 ek36 evV _ :: hcells b1 [_, _, _, _, _] 25 :: l) rfl rfl ?_
        refine W.end ?_
        refine NX.sub (env' := [(1, _), (2, _), (7, _), (8, _), (9, _)]) ⟨rfl, rfl, rfl, rfl, rfl, trivial⟩ ?_
        refine NX.then ?_
        refine Tr.seq ?_
        refine Tr.seq ?_
        obtain ⟨r36, hr37, hr⟩ := bind_some hr
        refine Tr.region_f (fun _ => false) ?_
        refine W.q rfl rfl rfl rfl (by decide) (Yd.ldBs (pos := 3) (us := [_, _, _, _, _]) rfl rfl rfl rfl ON25 US25 SZ25 (.t rfl)) ?_
        refine W.q rfl rfl rfl rfl (by decide) (Yd.mv rfl (.t rfl)) ?_
        refine W.q rfl rfl rfl rfl (by decide) (Yd.arrB rfl Try.underlying36 SZ3 (by decide) (by decide) (.t rfl) .c) ?_
        refine W.q rfl rfl rfl rfl (by decide) (Yd.ldB (pos := 0) rfl rfl rfl ON3 (.t rfl)) ?_
        refine W.q rfl rfl rfl rfl (by decide) (Yd.arrB rfl Try.underlying36 SZ3 (by decide) (by decide) (.t rfl) .c) ?_
        refine W.q rfl rfl rfl rfl (by decide) (Yd.ldB (pos := 0) rfl rfl rfl ON3 (.t rfl)) ?_
        refine W.q rfl rfl rfl rfl (by decide) (Yd.call (v := .bool r36) rfl Try.func9 rfl rfl (.cons (.t rfl) (.cons (.t rfl) (.cons (.t rfl) (.cons (.t rfl) .nil)))) (fun x' hx w hw => view_same_ok w0 x'.m x'.l _ _ (hm_0_3.mono hx.1) _ (hm_0_4.mono hx.1) hidden_1 y32.1 y32.2 _ hr37 w hw)) ?_
        refine W.q rfl rfl rfl rfl (by decide) (Yd.not rfl (.t rfl)) ?_
        refine W.end ?_
        refine NX.sub (env' := [(1, _), (2, _), (7, _), (8, _), (9, _), (41, _)]) ⟨rfl, rfl, rfl, rfl, rfl, rfl, trivial⟩ ?_
        refine NX.then ?_
        refine Tr.cond (.t rfl) (fun hb => ?_) (fun hb => ?_)
        · have hr := cond_t hb hr
          refine Tr.seq ?_
          refine Tr.region_f (fun _ => false) ?_
          refine W.q rfl rfl rfl rfl (by decide) (Yd.mv rfl (.t rfl)) ?_
          refine W.q rfl rfl rfl rfl (by decide) (Yd.ldBs (pos := 0) (us := [_, _]) rfl rfl rfl rfl ON36 US36 SZ36 (.t rfl)) ?_
          obtain ⟨u38, eu39, es40, hu41⟩ := MRows.get hw19 ((y32.1, y32.2))
          refine W.q rfl rfl rfl rfl (by decide) (Yd.mlookR MK36 (pos := 2) (k := (y32.1, y32.2)) rfl eu39 rfl Try.underlying37 IF27 (.t rfl) (.t rfl)) ?_
          refine W.q rfl rfl rfl rfl (by decide) (Yd.as rfl (.t rfl)) ?_
          refine W.q rfl rfl rfl rfl (by decide) (Yd.as rfl .c) ?_
          refine W.end ?_
          refine NX.sub (env' := [(4, _), (5, _)]) ⟨rfl, rfl, trivial⟩ ?_
          refine NX.drop (l' := l) (.cons _ (.cons _ (.cons _ (.cons _ (.refl _))))) ?_
          refine NX.then ?_
          refine Tr.ret' (RT.then (RT.block (RT.then (RT.then (RT.block (RT.then ?_))))))
          refine res2 rfl rfl rfl ?_
          intro w hc
          cases hr
          exact ⟨_, _, rfl, hsm20, hu41, hc⟩
        · have hr := cond_f hb hr
          refine Tr.skip' ?_
          refine NX.then ?_
          refine Tr.seq ?_
          refine Tr.region_f (fun _ => false) ?_
          refine W.q rfl rfl rfl rfl (by decide) (Yd.fldB rfl Try.underlying25 rfl SZ3 rfl (.t rfl)) ?_
          refine W.q rfl rfl rfl rfl (by decide) (Yd.ldB (pos := 3) rfl rfl rfl ON3 (.t rfl)) ?_
          refine W.q rfl rfl rfl rfl (by decide) (Yd.mv rfl .c) ?_
          refine W.end ?_
          refine NX.sub (env' := [(1, _), (2, _), (7, _), (8, _), (9, _), (46, _), (47, _)]) ⟨rfl, rfl, rfl, rfl, rfl, rfl, rfl, trivial⟩ ?_
          refine NX.then ?_
          refine Tr.join (S := fun env x => ∃ l56 : List (Int × Int), ∃ l58 : List ((Int × Int) × (List Act)), ∃ m61 : Snap, ∃ v57 : Value, ∃ us59 : List ((Int × Int) × Value), Sle m20 m61 ∧ MRows rAct m61 us59 l58 ∧ env = [(1, .int .u32 (hidden_1.toNat : Int)), (2, bp b1 0), (7, (.map (some b5))), (8, v57)] ∧ x = ⟨m61, hqT 36 2 encP v57 l56 :: hmap b5 ek36 evV us59 :: hcells b1 [.int .i64 m_0.n, .int .i64 m_0.users, .int .i64 m_0.acts, um_0_3, um_0_4] 25 :: l⟩ ∧ view_Leak_k62 nx30 l56 l58 = some r) ?_ (fun hk63 => ?_)
          · rintro _ _ ⟨l56, l58, m61, v57, us59, hsm61, hw60, rfl, rfl, hr⟩
            unfold view_Leak_k62 at hr
            try dsimp only at hr
            have hm_0_3 := hm_0_3.mono hsm61
            have hm_0_4 := hm_0_4.mono hsm61
            have hw19 := hw19.mono hsm61
            refine NX.block ?_
            refine NX.then ?_
            obtain ⟨hq64, hr⟩ := guard_some hr; replace hq64 := of_decide_eq_true hq64
            refine Tr.region_f (fun _ => false) ?_
            refine W.q rfl rfl rfl rfl (by decide) (Yd.mv rfl (.t rfl)) ?_
            refine W.q rfl rfl rfl rfl (by decide) (Yd.slFromQ (pos := 0) rfl rfl Try.underlying38 SZ36 (.t rfl) .c hq64.1 hq64.2) ?_
            refine W.q rfl rfl rfl rfl (by decide) (Yd.as rfl (.t rfl)) ?_
            refine W.end ?_
            refine NX.imp (fun w hw => cX_dropQT (enc := encP) (n := 2) (p := 0) (h := ((1 : Int)).toNat) (xs := l56) (fun _ => rfl) (by have := hq64; omega) rfl hw) ?_
            refine NX.cast (m' := m61) (l' := hqT 36 2 encP (Sy.slFrom 2 v57 ((1 : Int)).toNat) ((l56.drop ((1 : Int)).toNat)) :: hmap b5 ek36 evV us59 :: hcells b1 [.int .i64 m_0.n, .int .i64 m_0.users, .int .i64 m_0.acts, um_0_3, um_0_4] 25 :: l) rfl rfl ?_
            refine NX.sub (env' := [(1, _), (2, _), (7, _), (8, _)]) ⟨rfl, rfl, rfl, rfl, trivial⟩ ?_
            refine NX.sub (env' := [(1, _), (2, _), (7, _), (8, _)]) ⟨rfl, rfl, rfl, rfl, trivial⟩ ?_
            exact NX.again n31 ((l56.drop ((1 : Int)).toNat), l58) (Nat.lt_succ_self _) ⟨_, _, _, (hsm20.trans hsm61), hw60, rfl, rfl, ((hnx30 _).symm.trans hr)⟩
          obtain ⟨hle65, hr⟩ := guard_some hr; replace hle65 := of_decide_eq_true hle65
          refine Tr.block ?_
          refine Tr.sub (env' := [(1, _), (2, _), (7, _), (8, _), (9, _), (46, _), (47, _)]) ⟨rfl, rfl, rfl, rfl, rfl, rfl, rfl, trivial⟩ ?_
          refine Tr.loop (S := fun n (z : Int × (List (Int × Int)) × (List ((Int × Int) × (List Act)))) env x => match z with | (t_66, l50, l52) => ∃ m55 : Snap, ∃ v51 : Value, ∃ us53 : List ((Int × Int) × Value), Sle m20 m55 ∧ MRows rAct m55 us53 l52 ∧ env = [(1, .int .u32 (hidden_1.toNat : Int)), (2, bp b1 0), (7, (.map (some b5))), (8, v51), (9, bp b34 0), (46, .int .i64 m_0.users), (47, .int .i64 t_66)] ∧ x = ⟨m55, hcells b34 [.int .i64 y32.1, .int .i64 y32.2] 36 :: hqT 36 2 encP v51 l50 :: hmap b5 ek36 evV us53 :: hcells b1 [.int .i64 m_0.n, .int .i64 m_0.users, .int .i64 m_0.acts, um_0_3, um_0_4] 25 :: l⟩ ∧ n = (m_0.users - t_66).toNat ∧ 0 ≤ t_66 ∧ forK (σ := (List (Int × Int)) × (List ((Int × Int) × (List Act)))) (fun i s nx_ => view_Leak_b67 m_0 hidden_1 y32 i s.1 s.2 nx_) (fun s => view_Leak_k62 nx30 s.1 s.2) n t_66 (l50, l52) = some r) _ ((0 : Int), l15, l17) ⟨_, _, _, (.refl _), hw19, rfl, rfl, rfl, (by omega), hr⟩ ?_
          rintro n69 ⟨t_66, l50, l52⟩ env x ⟨m55, v51, us53, hsm55, hw54, rfl, rfl, hnt_66, h0t_66, hr⟩
          have hm_0_3 := hm_0_3.mono hsm55
          have hm_0_4 := hm_0_4.mono hsm55
          have hw19 := hw19.mono hsm55
          cases n69 with
          | zero =>
            simp only [forK] at hr
            refine Tr.seq ?_
            refine Tr.region_f (fun _ => false) ?_
            refine W.q rfl rfl rfl rfl (by decide) (Yd.lss rfl (.t rfl) (.t rfl)) ?_
            refine W.end ?_
            refine NX.sub (env' := [(1, _), (2, _), (7, _), (8, _), (9, _), (46, _), (47, _), (48, _)]) ⟨rfl, rfl, rfl, rfl, rfl, rfl, rfl, rfl, trivial⟩ ?_
            refine NX.then ?_
            refine Tr.seq ?_
            refine Tr.cond (.t rfl) (fun hb => ?_) (fun hb => ?_)
            · exact absurd (hb.symm.trans (fr_end hnt_66)) (by decide)
            ·
              refine Tr.exit' (EX.then (EX.then (EX.block ?_)))
              refine NX.sub (env' := [(1, _), (2, _), (7, _), (8, _)]) ⟨rfl, rfl, rfl, rfl, trivial⟩ ?_
              refine NX.drop (l' := hqT 36 2 encP v51 _ :: hmap b5 ek36 evV _ :: hcells b1 [_, _, _, _, _] 25 :: l) (.cons _ (.cons_cons _ (.cons_cons _ (.cons_cons _ (.refl _))))) ?_
              exact hk63 _ _ ⟨_, _, _, _, _, hsm55, hw54, rfl, rfl, hr⟩
          | succ n69 =>
            obtain ⟨nx68, hnx68, hr⟩ := forK_succ hr
            try dsimp only at hr
            unfold view_Leak_b67 at hr
            try dsimp only at hr
            have hltt_66 := fr_bnd hnt_66
            refine Tr.seq ?_
            refine Tr.region_f (fun _ => false) ?_
            refine W.q rfl rfl rfl rfl (by decide) (Yd.lss rfl (.t rfl) (.t rfl)) ?_
            refine W.end ?_
            refine NX.sub (env' := [(1, _), (2, _), (7, _), (8, _), (9, _), (46, _), (47, _), (48, _)]) ⟨rfl, rfl, rfl, rfl, rfl, rfl, rfl, rfl, trivial⟩ ?_
            refine NX.then ?_
            refine Tr.seq ?_
            refine Tr.cond (.t rfl) (fun hb => ?_) (fun hb => ?_)
            rotate_left
            · exact absurd (hb.symm.trans (fr_go hnt_66)) (by decide)
            ·
              refine Tr.skip' ?_
              refine NX.then ?_
              refine Tr.seq ?_
              refine Tr.block ?_
              refine Tr.seq ?_
              refine Tr.region_f (fun _ => false) ?_
              refine W.q rfl rfl rfl rfl (by decide) (Yd.mv rfl (.t rfl)) ?_
              refine W.q rfl rfl rfl rfl (by decide) (Yd.as rfl (.t rfl)) ?_
              refine W.end ?_
              refine NX.sub (env' := [(1, _), (2, _), (7, _), (8, _), (9, _), (46, _), (47, _), (10, _)]) ⟨rfl, rfl, rfl, rfl, rfl, rfl, rfl, rfl, trivial⟩ ?_
              refine NX.then ?_
              refine Tr.seq ?_
              refine Tr.region_f (fun _ => false) ?_
              refine W.q rfl rfl rfl rfl (by decide) (Yd.fldB rfl Try.underlying25 rfl SZ3 rfl (.t rfl)) ?_
              refine W.q rfl rfl rfl rfl (by decide) (Yd.ldB (pos := 3) rfl rfl rfl ON3 (.t rfl)) ?_
              refine W.q rfl rfl rfl rfl (by decide) (Yd.mv rfl .c) ?_
              refine W.end ?_
              refine NX.sub (env' := [(1, _), (2, _), (7, _), (8, _), (9, _), (46, _), (47, _), (10, _), (51, _), (52, _)]) ⟨rfl, rfl, rfl, rfl, rfl, rfl, rfl, rfl, rfl, rfl, trivial⟩ ?_
              refine NX.then ?_
              refine Tr.join (S := fun env x => ∃ l84 : List (Int × Int), ∃ l86 : List ((Int × Int) × (List Act)), ∃ m89 : Snap, ∃ v85 : Value, ∃ us87 : List ((Int × Int) × Value), Sle m55 m89 ∧ MRows rAct m89 us87 l86 ∧ env = [(1, .int .u32 (hidden_1.toNat : Int)), (2, bp b1 0), (7, (.map (some b5))), (8, v85), (9, bp b34 0), (46, .int .i64 m_0.users), (47, .int .i64 t_66)] ∧ x = ⟨m89, hcells b34 [.int .i64 y32.1, .int .i64 y32.2] 36 :: hqT 36 2 encP v85 l84 :: hmap b5 ek36 evV us87 :: hcells b1 [.int .i64 m_0.n, .int .i64 m_0.users, .int .i64 m_0.acts, um_0_3, um_0_4] 25 :: l⟩ ∧ view_Leak_k90 nx68 l84 l86 = some r) ?_ (fun hk91 => ?_)
              · rintro _ _ ⟨l84, l86, m89, v85, us87, hsm89, hw88, rfl, rfl, hr⟩
                unfold view_Leak_k90 at hr
                try dsimp only at hr
                have hm_0_3 := hm_0_3.mono hsm89
                have hm_0_4 := hm_0_4.mono hsm89
                have hw19 := hw19.mono hsm89
                have hw54 := hw54.mono hsm89
                refine NX.block ?_
                refine NX.then ?_
                refine Tr.region_f (fun _ => false) ?_
                refine W.q rfl rfl rfl rfl (by decide) (Yd.add rfl (.t rfl) .c) ?_
                refine W.q rfl rfl rfl rfl (by decide) (Yd.mv rfl (.t rfl)) ?_
                refine W.end ?_
                refine NX.sub (env' := [(1, _), (2, _), (7, _), (8, _), (9, _), (46, _), (47, _)]) ⟨rfl, rfl, rfl, rfl, rfl, rfl, rfl, trivial⟩ ?_
                refine NX.sub (env' := [(1, _), (2, _), (7, _), (8, _), (9, _), (46, _), (47, _)]) ⟨rfl, rfl, rfl, rfl, rfl, rfl, rfl, trivial⟩ ?_
                have hw := w64_id (n := t_66 + 1) (by omega) (by omega)
                exact NX.again n69 (t_66 + 1, l84, l86) (Nat.lt_succ_self _) ⟨_, _, _, (hsm55.trans hsm89), hw88, (by rw [hw] <;> rfl), rfl, (fr_dec hnt_66), (by omega), ((hnx68 _).symm.trans hr)⟩
              obtain ⟨hle92, hr⟩ := guard_some hr; replace hle92 := of_decide_eq_true hle92
              refine Tr.block ?_
              refine Tr.sub (env' := [(1, _), (2, _), (7, _), (8, _), (9, _), (10, _), (46, _), (47, _), (51, _), (52, _)]) ⟨rfl, rfl, rfl, rfl, rfl, rfl, rfl, rfl, rfl, rfl, trivial⟩ ?_
              refine Tr.loop (S := fun n (z : Int × (List (Int × Int)) × (List ((Int × Int) × (List Act)))) env x => match z with | (t_93, l78, l80) => ∃ m83 : Snap, ∃ v79 : Value, ∃ us81 : List ((Int × Int) × Value), Sle m55 m83 ∧ MRows rAct m83 us81 l80 ∧ env = [(1, .int .u32 (hidden_1.toNat : Int)), (2, bp b1 0), (7, (.map (some b5))), (8, v79), (9, bp b34 0), (10, .int .i64 t_66), (46, .int .i64 m_0.users), (47, .int .i64 t_66), (51, .int .i64 m_0.acts), (52, .int .i64 t_93)] ∧ x = ⟨m83, hcells b34 [.int .i64 y32.1, .int .i64 y32.2] 36 :: hqT 36 2 encP v79 l78 :: hmap b5 ek36 evV us81 :: hcells b1 [.int .i64 m_0.n, .int .i64 m_0.users, .int .i64 m_0.acts, um_0_3, um_0_4] 25 :: l⟩ ∧ n = (m_0.acts - t_93).toNat ∧ 0 ≤ t_93 ∧ forK (σ := (List (Int × Int)) × (List ((Int × Int) × (List Act)))) (fun i s nx_ => view_Leak_b94 m_0 hidden_1 y32 t_66 i s.1 s.2 nx_) (fun s => view_Leak_k90 nx68 s.1 s.2) n t_93 (l78, l80) = some r) _ ((0 : Int), l50, l52) ⟨_, _, _, (.refl _), hw54, rfl, rfl, rfl, (by omega), hr⟩ ?_
              rintro n96 ⟨t_93, l78, l80⟩ env x ⟨m83, v79, us81, hsm83, hw82, rfl, rfl, hnt_93, h0t_93, hr⟩
              have hm_0_3 := hm_0_3.mono hsm83
              have hm_0_4 := hm_0_4.mono hsm83
              have hw19 := hw19.mono hsm83
              have hw54 := hw54.mono hsm83
              cases n96 with
              | zero =>
                simp only [forK] at hr
                refine Tr.seq ?_
                refine Tr.region_f (fun _ => false) ?_
                refine W.q rfl rfl rfl rfl (by decide) (Yd.lss rfl (.t rfl) (.t rfl)) ?_
                refine W.end ?_
                refine NX.sub (env' := [(1, _), (2, _), (7, _), (8, _), (9, _), (10, _), (46, _), (47, _), (51, _), (52, _), (53, _)]) ⟨rfl, rfl, rfl, rfl, rfl, rfl, rfl, rfl, rfl, rfl, rfl, trivial⟩ ?_
                refine NX.then ?_
                refine Tr.seq ?_
                refine Tr.cond (.t rfl) (fun hb => ?_) (fun hb => ?_)
                · exact absurd (hb.symm.trans (fr_end hnt_93)) (by decide)
                ·
                  refine Tr.exit' (EX.then (EX.then (EX.block ?_)))
                  refine NX.sub (env' := [(1, _), (2, _), (7, _), (8, _), (9, _), (46, _), (47, _)]) ⟨rfl, rfl, rfl, rfl, rfl, rfl, rfl, trivial⟩ ?_
                  exact hk91 _ _ ⟨_, _, _, _, _, hsm83, hw82, rfl, rfl, hr⟩
              | succ n96 =>
                obtain ⟨nx95, hnx95, hr⟩ := forK_succ hr
                try dsimp only at hr
                unfold view_Leak_b94 at hr
                try dsimp only at hr
                have hltt_93 := fr_bnd hnt_93
                refine Tr.seq ?_
                refine Tr.region_f (fun _ => false) ?_
                refine W.q rfl rfl rfl rfl (by decide) (Yd.lss rfl (.t rfl) (.t rfl)) ?_
                refine W.end ?_
                refine NX.sub (env' := [(1, _), (2, _), (7, _), (8, _), (9, _), (10, _), (46, _), (47, _), (51, _), (52, _), (53, _)]) ⟨rfl, rfl, rfl, rfl, rfl, rfl, rfl, rfl, rfl, rfl, rfl, trivial⟩ ?_
                refine NX.then ?_
                refine Tr.seq ?_
                refine Tr.cond (.t rfl) (fun hb => ?_) (fun hb => ?_)
                rotate_left
                · exact absurd (hb.symm.trans (fr_go hnt_93)) (by decide)
                ·
                  refine Tr.skip' ?_
                  refine NX.then ?_
                  refine Tr.seq ?_
                  refine Tr.block ?_
                  refine Tr.seq ?_
                  refine Tr.region_f (fun _ => false) ?_
                  refine W.q rfl rfl rfl rfl (by decide) (Yd.mv rfl (.t rfl)) ?_
                  refine W.q rfl rfl rfl rfl (by decide) (Yd.as rfl (.t rfl)) ?_
                  refine W.end ?_
                  refine NX.sub (env' := [(1, _), (2, _), (7, _), (8, _), (9, _), (10, _), (46, _), (47, _), (51, _), (52, _), (11, _)]) ⟨rfl, rfl, rfl, rfl, rfl, rfl, rfl, rfl, rfl, rfl, rfl, trivial⟩ ?_
                  refine NX.then ?_
                  refine Tr.seq ?_
                  obtain ⟨y97, hy98, hr⟩ := bind_some hr
                  obtain ⟨y102, hy103, hr⟩ := bind_some hr
                  obtain ⟨y107, hy108, hr⟩ := bind_some hr
                  refine Tr.region_x (fun i => Nat.beq i 15 || Nat.beq i 16) (fun i => Nat.beq i 16) (Ord.of [0, 1, 2, 3, 4, 5, 6, 7, 8, 9, 10, 11, 12, 13, 14, 15, 16]) FM (by kernel_rfl) ?_
                  refine W.q rfl rfl rfl rfl (by decide) (Yd.fldB rfl Try.underlying25 rfl SZ22 rfl (.t rfl)) ?_
                  refine W.q rfl rfl rfl rfl (by decide) (Yd.ldB (pos := 3) rfl rfl rfl ON22 (.t rfl)) ?_
                  refine W.q rfl rfl rfl rfl (by decide) (Yd.arrB rfl Try.underlying36 SZ3 (by decide) (by decide) (.t rfl) .c) ?_
                  refine W.q rfl rfl rfl rfl (by decide) (Yd.ldB (pos := 0) rfl rfl rfl ON3 (.t rfl)) ?_
                  refine W.q rfl rfl rfl rfl (by decide) (Yd.idxR hm_0_3 hy98 rfl Try.underlying22 SZ23 (.t rfl) (.t rfl)) ?_
                  obtain ⟨u99, hu100, hat101⟩ := hm_0_3.row hy98
                  refine W.q rfl rfl rfl rfl (by decide) (Yd.ldRow hat101 (.refl _) rfl ON23 (.t rfl)) ?_
                  refine W.q rfl rfl rfl rfl (by decide) (Yd.mv rfl (.t rfl)) ?_
                  refine W.q rfl rfl rfl rfl (by decide) (Yd.idxR hu100 hy103 rfl Try.underlying23 SZ40 (.t rfl) (.t rfl)) ?_
                  obtain ⟨u104, hu105, hat106⟩ := hu100.row hy103
                  refine W.q rfl rfl rfl rfl (by decide) (Yd.ldRow hat106 (.refl _) rfl ON40 (.t rfl)) ?_
                  refine W.q rfl rfl rfl rfl (by decide) (Yd.mv rfl (.t rfl)) ?_
                  refine W.q rfl rfl rfl rfl (by decide) (Yd.idxR hu105 hy108 rfl Try.underlying40 SZ3 (.t rfl) (.t rfl)) ?_
                  refine W.q rfl rfl rfl rfl (by decide) (Yd.ldF hu105 (.refl _) hy108 rfl rfl ON3 (.t rfl)) ?_
                  refine W.q rfl rfl rfl rfl (by decide) (Yd.arrB rfl Try.underlying36 SZ3 (by decide) (by decide) (.t rfl) .c) ?_
                  refine W.q rfl rfl rfl rfl (by decide) (Yd.ldB (pos := 0) rfl rfl rfl ON3 (.t rfl)) ?_
                  refine W.q rfl rfl rfl rfl (by decide) (Yd.bldA (cells := [.int .i64 y107, .int .i64 y32.2]) rfl ZI36 PA36 (.cons (.t rfl) (.cons (.t rfl) .nil)) rfl) ?_
                  refine W.e rfl rfl rfl rfl (by decide) (Ef.al rfl ZR36 rfl) ?_
                  rintro _ _ ⟨b109, rfl, rfl⟩
                  refine ⟨.inr ⟨.refl _, [_], rfl⟩, ?_⟩
                  refine W.cast (m' := m83) (l' := hcells b109 [_, _] 36 :: hcells b34 [_, _] 36 :: hqT 36 2 encP v79 _ :: hmap b5 ek36 evV _ :: hcells b1 [_, _, _, _, _] 25 :: l) rfl rfl ?_
                  refine W.s rfl rfl rfl rfl (Ef.stB (pos := 0) (us := [_, _]) (cs' := [_, _]) rfl rfl (.t rfl) (.t rfl) SZ36 rfl rfl rfl (Nat.le_of_ble_eq_true rfl) rfl) ?_
                  rintro _ _ ⟨rfl, rfl⟩
                  refine ⟨.inl rfl, ?_⟩
                  refine W.cast (m' := m83) (l' := hcells b109 [_, _] 36 :: hcells b34 [_, _] 36 :: hqT 36 2 encP v79 _ :: hmap b5 ek36 evV _ :: hcells b1 [_, _, _, _, _] 25 :: l) rfl rfl ?_
                  refine W.end ?_
                  refine NX.sub (env' := [(1, _), (2, _), (7, _), (8, _), (9, _), (10, _), (46, _), (47, _), (51, _), (52, _), (11, _), (12, _)]) ⟨rfl, rfl, rfl, rfl, rfl, rfl, rfl, rfl, rfl, rfl, rfl, rfl, trivial⟩ ?_
                  refine NX.then ?_
                  refine Tr.seq ?_
                  refine Tr.seq ?_
                  refine Tr.region_f (fun _ => false) ?_
                  refine W.q rfl rfl rfl rfl (by decide) (Yd.mv rfl (.t rfl)) ?_
                  refine W.q rfl rfl rfl rfl (by decide) (Yd.mv rfl (.t rfl)) ?_
                  refine W.q rfl rfl rfl rfl (by decide) (Yd.shrU (a := hidden_1) rfl (.t rfl) (.t rfl) h0t_66) ?_
                  refine W.q rfl rfl rfl rfl (by decide) (Yd.andU (a := (hidden_1 >>> t_66.toNat)) (b := 1#32) rfl (.t rfl) .c) ?_
                  refine W.q rfl rfl rfl rfl (by decide) (Yd.eqlU (a := ((hidden_1 >>> t_66.toNat) &&& 1#32)) (b := 0#32) rfl (.t rfl) .c) ?_
                  refine W.end ?_
                  refine NX.sub (env' := [(1, _), (2, _), (7, _), (8, _), (9, _), (10, _), (46, _), (47, _), (51, _), (52, _), (11, _), (12, _), (74, _)]) ⟨rfl, rfl, rfl, rfl, rfl, rfl, rfl, rfl, rfl, rfl, rfl, rfl, rfl, trivial⟩ ?_
                  refine NX.then ?_
                  refine Tr.join (S := fun env x => ∃ c111 : Int, env = [(1, .int .u32 (hidden_1.toNat : Int)), (2, bp b1 0), (7, (.map (some b5))), (8, v79), (9, bp b34 0), (10, .int .i64 t_66), (46, .int .i64 m_0.users), (47, .int .i64 t_66), (51, .int .i64 m_0.acts), (52, .int .i64 t_93), (11, .int .i64 t_93), (12, bp b109 0)] ∧ x = ⟨m83, hcells b109 [.int .i64 y107, .int .i64 c111] 36 :: hcells b34 [.int .i64 y32.1, .int .i64 y32.2] 36 :: hqT 36 2 encP v79 l78 :: hmap b5 ek36 evV us81 :: hcells b1 [.int .i64 m_0.n, .int .i64 m_0.users, .int .i64 m_0.acts, um_0_3, um_0_4] 25 :: l⟩ ∧ view_Leak_k112 y32 t_66 t_93 l78 l80 nx95 y107 c111 = some r) ?_ (fun hk113 => ?_)
                  · rintro _ _ ⟨c111, rfl, rfl, hr⟩
                    unfold view_Leak_k112 at hr
                    try dsimp only at hr
                    refine NX.then ?_
                    refine Tr.seq ?_
                    refine Tr.region_f (fun _ => false) ?_
                    refine W.q rfl rfl rfl rfl (by decide) (Yd.mv rfl (.t rfl)) ?_
                    refine W.q rfl rfl rfl rfl (by decide) (Yd.ldBs (pos := 0) (us := [_, _]) rfl rfl rfl rfl ON36 US36 SZ36 (.t rfl)) ?_
                    obtain ⟨u114, eu115, es116, hu117⟩ := MRows.get hw82 ((y107, c111))
                    refine W.q rfl rfl rfl rfl (by decide) (Yd.mlook2R MK36 (pos := 3) (k := (y107, c111)) rfl eu115 es116 rfl Try.underlying37 IF27 (.t rfl) (.t rfl)) ?_
                    refine W.q rfl rfl rfl rfl (by decide) (Yd.mv rfl (.t rfl)) ?_
                    refine W.q rfl rfl rfl rfl (by decide) (Yd.ext rfl (.t rfl) rfl) ?_
                    refine W.q rfl rfl rfl rfl (by decide) (Yd.ext rfl (.t rfl) rfl) ?_
                    refine W.q rfl rfl rfl rfl (by decide) (Yd.as rfl (.t rfl)) ?_
                    refine W.q rfl rfl rfl rfl (by decide) (Yd.as rfl (.t rfl)) ?_
                    refine W.end ?_
                    refine NX.sub (env' := [(1, _), (2, _), (7, _), (8, _), (9, _), (10, _), (46, _), (47, _), (51, _), (52, _), (11, _), (12, _), (14, _)]) ⟨rfl, rfl, rfl, rfl, rfl, rfl, rfl, rfl, rfl, rfl, rfl, rfl, rfl, trivial⟩ ?_
                    refine NX.then ?_
                    refine Tr.seq ?_
                    refine Tr.region_f (fun _ => false) ?_
                    refine W.q rfl rfl rfl rfl (by decide) (Yd.mv rfl (.t rfl)) ?_
                    refine W.q rfl rfl rfl rfl (by decide) (Yd.not rfl (.t rfl)) ?_
                    refine W.end ?_
                    refine NX.sub (env' := [(1, _), (2, _), (7, _), (8, _), (9, _), (10, _), (46, _), (47, _), (51, _), (52, _), (11, _), (12, _), (95, _)]) ⟨rfl, rfl, rfl, rfl, rfl, rfl, rfl, rfl, rfl, rfl, rfl, rfl, rfl, trivial⟩ ?_
                    refine NX.then ?_
                    refine Tr.cond (.t rfl) (fun hb => ?_) (fun hb => ?_)
                    · have hr := cond_t hb hr
                      refine Tr.seq ?_
                      obtain ⟨r368, hr369, hr⟩ := bind_some hr
                      obtain ⟨hq569, hr⟩ := guard_some hr; replace hq569 := of_decide_eq_true hq569
                      refine Tr.region_xJ (fun x => Sle m83 x.m ∧ (∃ p : Nat, x.l[p]? = some (hcells b109 [.int .i64 y107, .int .i64 c111] 36)) ∧ True) (fun _ _ hx h => by obtain ⟨hm, ⟨_, h0⟩, _⟩ := h; exact ⟨hm.trans hx.1, hx.at h0, trivial⟩) (fun i => Nat.beq i 10) (fun i => Nat.beq i 1) (fun i => Nat.beq i 5 || Nat.beq i 9 || Nat.beq i 10 || Nat.beq i 11) (fun i => Nat.beq i 0 || Nat.beq i 1 || Nat.beq i 10 || Nat.beq i 11) (.one 0 (.one 1 (.one 2 (.one 3 (.one 4 (.one 6 (.one 7 (.one 8 (.two 5 9 (Ord.of [9, 10, 11]) (Ord.of [5, 10, 11])))))))))) FM (by kernel_rfl) ?_
                      refine W.p rfl rfl rfl rfl (by decide) (fun _ => Yd.mv rfl (.t rfl)) ?_
                      refine W.pJ rfl rfl rfl rfl (by decide) (fun _ h => by obtain ⟨jhm, ⟨jp0, jhp0⟩, _⟩ := h; exact Yd.ldBs (pos := jp0) (us := [_, _]) jhp0 rfl rfl rfl ON36 US36 SZ36 (.t rfl)) ⟨(.refl _), ⟨0, rfl⟩, trivial⟩ rfl ?_
                      refine W.q rfl rfl rfl rfl (by decide) (Yd.mv rfl (.t rfl)) ?_
                      refine W.q rfl rfl rfl rfl (by decide) (Yd.ldBs (pos := 1) (us := [_, _]) rfl rfl rfl rfl ON36 US36 SZ36 (.t rfl)) ?_
                      obtain ⟨u328, eu329, es330, hu331⟩ := MRows.get hw82 ((y32.1, y32.2))
                      refine W.q rfl rfl rfl rfl (by decide) (Yd.mlookR MK36 (pos := 3) (k := (y32.1, y32.2)) rfl eu329 rfl Try.underlying37 IF27 (.t rfl) (.t rfl)) ?_
                      refine W.q rfl rfl rfl rfl (by decide) (Yd.mv rfl (.t rfl)) ?_
                      refine W.q rfl rfl rfl rfl (by decide) (Yd.mv rfl (.t rfl)) ?_
                      refine W.q rfl rfl rfl rfl (by decide) (Yd.bld (cells := [.int .i64 t_66, .int .i64 t_93]) rfl ZI43 PL43 (.cons (.t rfl) (.cons (.t rfl) .nil)) rfl) ?_
                      refine W.two ?_ ?_
                      ·
                        refine W.e rfl rfl rfl rfl (by decide) (Ef.call (R := fun z x' => ∃ v368 : Value, z = v368 ∧ x' = ⟨m83, hownT 43 2 Act.enc v368 r368 :: hcells b109 [.int .i64 y107, .int .i64 c111] 36 :: hcells b34 [.int .i64 y32.1, .int .i64 y32.2] 36 :: hqT 36 2 encP v79 l78 :: hmap b5 ek36 evV us81 :: hcells b1 [.int .i64 m_0.n, .int .i64 m_0.users, .int .i64 m_0.acts, um_0_3, um_0_4] 25 :: l⟩) rfl Try.func10 rfl rfl (.cons (.t rfl) .nil) (fun w hw => (slices_Clone_SapiActapiAct_ok w0 _ _ _ _ hu331 _ hr369 w hw).mono fun e w' ⟨v368, he, hc'⟩ => ⟨_, _, he, ⟨v368, rfl, rfl⟩, hc'⟩)) ?_ (hJ := fun _ _ _ h => absurd (show false = true from h) (by decide))
                        rintro v368 _ ⟨_, rfl, rfl⟩
                        refine ⟨.inr ⟨.refl _, [_], rfl⟩, ?_⟩
                        refine W.cast (m' := m83) (l' := hownT 43 2 Act.enc v368 _ :: hcells b109 [_, _] 36 :: hcells b34 [_, _] 36 :: hqT 36 2 encP v79 _ :: hmap b5 ek36 evV _ :: hcells b1 [_, _, _, _, _] 25 :: l) rfl rfl ?_
                        refine W.e rfl rfl rfl rfl (by decide) (Ef.bsT (enc := Act.enc) (vs := [_]) (ys := [({ user := t_66, act := t_93 } : Act)]) (fun _ => rfl) IF43 rfl Try.underlying27 (by decide) rfl (.cons (.t rfl) .nil) rfl rfl (by decide)) ?_ (hJ := fun _ _ _ h => absurd (show false = true from h) (by decide))
                        rintro v528 _ rfl
                        refine ⟨.inr ⟨.refl _, [_], rfl⟩, ?_⟩
                        refine W.cast (m' := m83) (l' := hownT 43 2 Act.enc v528 _ :: hownT 43 2 Act.enc v368 _ :: hcells b109 [_, _] 36 :: hcells b34 [_, _] 36 :: hqT 36 2 encP v79 _ :: hmap b5 ek36 evV _ :: hcells b1 [_, _, _, _, _] 25 :: l) rfl rfl ?_
                        refine W.e rfl rfl rfl rfl (by decide) (Ef.apI (pos := 1) (enc := Act.enc) (xs := r368) (ys := ([({ user := t_66, act := t_93 } : Act)] : List Act)) (fun _ => rfl) IF43 rfl rfl Try.underlying27 rfl (by decide) (.t rfl) (.t rfl) (Src.own (pos := 0) rfl) (fun _ => rfl) (by omega) (by omega)) ?_ (hJ := by rintro v568 _ rfl; exact fun _ => ⟨(.refl _), ⟨2, rfl⟩, trivial⟩)
                        rintro v568 _ rfl
                        refine ⟨.inl rfl, ?_⟩
                        refine W.cast (m' := m83) (l' := hownT 43 2 Act.enc v528 _ :: hownT 43 2 Act.enc v568 _ :: hcells b109 [_, _] 36 :: hcells b34 [_, _] 36 :: hqT 36 2 encP v79 _ :: hmap b5 ek36 evV _ :: hcells b1 [_, _, _, _, _] 25 :: l) rfl rfl ?_
                        refine W.s rfl rfl rfl rfl (Ef.frz (enc := Act.enc) (n := 2) (p := 1) (xs := (r368 ++ ([({ user := t_66, act := t_93 } : Act)] : List Act))) (fun _ => rfl) rfl (fun m608 hsm608 hu609 => Ef.mset MK36 (ev := evV) (pos := 4) (k := (y107, c111)) (v := v568) rfl rfl Try.underlying37 (.t rfl) (.t rfl) (.t rfl))) ?_ (hJ := fun _ _ _ h => absurd (show false = true from h) (by decide))
                        rintro _ _ ⟨m608, hsm608, hu609, rfl, rfl⟩
                        have hm_0_3 := hm_0_3.mono hsm608
                        have hm_0_4 := hm_0_4.mono hsm608
                        have hw19 := hw19.mono hsm608
                        have hw54 := hw54.mono hsm608
                        have hw82 := hw82.mono hsm608
                        have hu100 := hu100.mono hsm608
                        have hu105 := hu105.mono hsm608
                        have hu117 := hu117.mono hsm608
                        have hu331 := hu331.mono hsm608
                        refine ⟨.inl rfl, ?_⟩
                        refine W.cast (m' := m608) (l' := hownT 43 2 Act.enc v528 _ :: hcells b109 [_, _] 36 :: hcells b34 [_, _] 36 :: hqT 36 2 encP v79 _ :: hmap b5 ek36 evV _ :: hcells b1 [_, _, _, _, _] 25 :: l) rfl rfl ?_
                        refine W.end ?_
                        refine NX.sub (env' := [(1, _), (2, _), (7, _), (8, _), (9, _), (10, _), (46, _), (47, _), (51, _), (52, _), (12, _)]) ⟨rfl, rfl, rfl, rfl, rfl, rfl, rfl, rfl, rfl, rfl, rfl, trivial⟩ ?_
                        refine NX.drop (l' := hcells b109 [_, _] 36 :: hcells b34 [_, _] 36 :: hqT 36 2 encP v79 _ :: hmap b5 ek36 evV _ :: hcells b1 [_, _, _, _, _] 25 :: l) (.cons _ (.cons_cons _ (.cons_cons _ (.cons_cons _ (.cons_cons _ (.cons_cons _ (.refl _))))))) ?_
                        refine NX.then ?_
                        obtain ⟨hq671, hr⟩ := guard_some hr; replace hq671 := of_decide_eq_true hq671
                        refine Tr.region_f (fun i => Nat.beq i 2 || Nat.beq i 3) ?_
                        refine W.q rfl rfl rfl rfl (by decide) (Yd.mv rfl (.t rfl)) ?_
                        refine W.q rfl rfl rfl rfl (by decide) (Yd.ldBs (pos := 0) (us := [_, _]) rfl rfl rfl rfl ON36 US36 SZ36 (.t rfl)) ?_
                        refine W.e rfl rfl rfl rfl (by decide) (Ef.bsT (enc := encP) (vs := [_]) (ys := [(y107, c111)]) (fun _ => rfl) IF36 rfl Try.underlying38 (by decide) rfl (.cons (.t rfl) .nil) rfl rfl (by decide)) ?_
                        rintro v668 _ rfl
                        refine ⟨.inl rfl, ?_⟩
                        refine W.cast (m' := m608) (l' := hownT 36 2 encP v668 _ :: hcells b109 [_, _] 36 :: hcells b34 [_, _] 36 :: hqT 36 2 encP v79 _ :: hmap b5 ek36 evV _ :: hcells b1 [_, _, _, _, _] 25 :: l) rfl rfl ?_
                        refine W.e rfl rfl rfl rfl (by decide) (Ef.apQ (pos := 3) (enc := encP) (xs := l78) (ys := ([(y107, c111)] : List (Int × Int))) (fun _ => rfl) IF36 rfl rfl Try.underlying38 rfl (by decide) (.t rfl) (.t rfl) (Src.own (pos := 0) rfl) (fun _ => rfl) (by simp) (by omega) (by omega)) ?_
                        rintro v670 _ rfl
                        refine ⟨.inl rfl, ?_⟩
                        refine W.cast (m' := m608) (l' := hownT 36 2 encP v668 _ :: hcells b109 [_, _] 36 :: hcells b34 [_, _] 36 :: hqT 36 2 encP v670 _ :: hmap b5 ek36 evV _ :: hcells b1 [_, _, _, _, _] 25 :: l) rfl rfl ?_
                        refine W.q rfl rfl rfl rfl (by decide) (Yd.as rfl (.t rfl)) ?_
                        refine W.end ?_
                        refine NX.sub (env' := [(1, _), (2, _), (7, _), (8, _), (9, _), (10, _), (46, _), (47, _), (51, _), (52, _)]) ⟨rfl, rfl, rfl, rfl, rfl, rfl, rfl, rfl, rfl, rfl, trivial⟩ ?_
                        refine NX.drop (l' := hcells b34 [_, _] 36 :: hqT 36 2 encP v670 _ :: hmap b5 ek36 evV _ :: hcells b1 [_, _, _, _, _] 25 :: l) (.cons _ (.cons _ (.cons_cons _ (.cons_cons _ (.cons_cons _ (.cons_cons _ (.refl _))))))) ?_
                        refine NX.block ?_
                        refine NX.then ?_
                        refine Tr.region_f (fun _ => false) ?_
                        refine W.q rfl rfl rfl rfl (by decide) (Yd.add rfl (.t rfl) .c) ?_
                        refine W.q rfl rfl rfl rfl (by decide) (Yd.mv rfl (.t rfl)) ?_
                        refine W.end ?_
                        refine NX.sub (env' := [(1, _), (2, _), (7, _), (8, _), (9, _), (10, _), (46, _), (47, _), (51, _), (52, _)]) ⟨rfl, rfl, rfl, rfl, rfl, rfl, rfl, rfl, rfl, rfl, trivial⟩ ?_
                        refine NX.sub (env' := [(1, _), (2, _), (7, _), (8, _), (9, _), (10, _), (46, _), (47, _), (51, _), (52, _)]) ⟨rfl, rfl, rfl, rfl, rfl, rfl, rfl, rfl, rfl, rfl, trivial⟩ ?_
                        have hw := w64_id (n := t_93 + 1) (by omega) (by omega)
                        exact NX.again n96 (t_93 + 1, (l78 ++ ([(y107, c111)] : List (Int × Int))), (mput l80 ((y107, c111)) ((r368 ++ ([({ user := t_66, act := t_93 } : Act)] : List Act))))) (Nat.lt_succ_self _) ⟨_, _, _, (hsm83.trans hsm608), (MRows.put hw82 ((y107, c111)) hu609), (by rw [hw] <;> rfl), rfl, (fr_dec hnt_93), (by omega), ((hnx95 _).symm.trans hr)⟩
                      ·
                        refine W.e rfl rfl rfl rfl (by decide) (Ef.bsT (enc := Act.enc) (vs := [_]) (ys := [({ user := t_66, act := t_93 } : Act)]) (fun _ => rfl) IF43 rfl Try.underlying27 (by decide) rfl (.cons (.t rfl) .nil) rfl rfl (by decide)) ?_ (hJ := fun _ _ _ h => absurd (show false = true from h) (by decide))
                        rintro v528 _ rfl
                        refine ⟨.inr ⟨.refl _, [_], rfl⟩, ?_⟩
                        refine W.cast (m' := m83) (l' := hownT 43 2 Act.enc v528 _ :: hcells b109 [_, _] 36 :: hcells b34 [_, _] 36 :: hqT 36 2 encP v79 _ :: hmap b5 ek36 evV _ :: hcells b1 [_, _, _, _, _] 25 :: l) rfl rfl ?_
                        refine W.e rfl rfl rfl rfl (by decide) (Ef.call (R := fun z x' => ∃ v368 : Value, z = v368 ∧ x' = ⟨m83, hownT 43 2 Act.enc v368 r368 :: hownT 43 2 Act.enc v528 (([({ user := t_66, act := t_93 } : Act)] : List Act)) :: hcells b109 [.int .i64 y107, .int .i64 c111] 36 :: hcells b34 [.int .i64 y32.1, .int .i64 y32.2] 36 :: hqT 36 2 encP v79 l78 :: hmap b5 ek36 evV us81 :: hcells b1 [.int .i64 m_0.n, .int .i64 m_0.users, .int .i64 m_0.acts, um_0_3, um_0_4] 25 :: l⟩) rfl Try.func10 rfl rfl (.cons (.t rfl) .nil) (fun w hw => (slices_Clone_SapiActapiAct_ok w0 _ _ _ _ hu331 _ hr369 w hw).mono fun e w' ⟨v368, he, hc'⟩ => ⟨_, _, he, ⟨v368, rfl, rfl⟩, hc'⟩)) ?_ (hJ := fun _ _ _ h => absurd (show false = true from h) (by decide))
                        rintro v368 _ ⟨_, rfl, rfl⟩
                        refine ⟨.inr ⟨.refl _, [_], rfl⟩, ?_⟩
                        refine W.cast (m' := m83) (l' := hownT 43 2 Act.enc v368 _ :: hownT 43 2 Act.enc v528 _ :: hcells b109 [_, _] 36 :: hcells b34 [_, _] 36 :: hqT 36 2 encP v79 _ :: hmap b5 ek36 evV _ :: hcells b1 [_, _, _, _, _] 25 :: l) rfl rfl ?_
                        refine W.e rfl rfl rfl rfl (by decide) (Ef.apI (pos := 0) (enc := Act.enc) (xs := r368) (ys := ([({ user := t_66, act := t_93 } : Act)] : List Act)) (fun _ => rfl) IF43 rfl rfl Try.underlying27 rfl (by decide) (.t rfl) (.t rfl) (Src.own (pos := 1) rfl) (fun _ => rfl) (by omega) (by omega)) ?_ (hJ := by rintro v568 _ rfl; exact fun _ => ⟨(.refl _), ⟨2, rfl⟩, trivial⟩)
                        rintro v568 _ rfl
                        refine ⟨.inl rfl, ?_⟩
                        refine W.cast (m' := m83) (l' := hownT 43 2 Act.enc v568 _ :: hownT 43 2 Act.enc v528 _ :: hcells b109 [_, _] 36 :: hcells b34 [_, _] 36 :: hqT 36 2 encP v79 _ :: hmap b5 ek36 evV _ :: hcells b1 [_, _, _, _, _] 25 :: l) rfl rfl ?_
                        refine W.s rfl rfl rfl rfl (Ef.frz (enc := Act.enc) (n := 2) (p := 0) (xs := (r368 ++ ([({ user := t_66, act := t_93 } : Act)] : List Act))) (fun _ => rfl) rfl (fun m608 hsm608 hu609 => Ef.mset MK36 (ev := evV) (pos := 4) (k := (y107, c111)) (v := v568) rfl rfl Try.underlying37 (.t rfl) (.t rfl) (.t rfl))) ?_ (hJ := fun _ _ _ h => absurd (show false = true from h) (by decide))
                        rintro _ _ ⟨m608, hsm608, hu609, rfl, rfl⟩
                        have hm_0_3 := hm_0_3.mono hsm608
                        have hm_0_4 := hm_0_4.mono hsm608
                        have hw19 := hw19.mono hsm608
                        have hw54 := hw54.mono hsm608
                        have hw82 := hw82.mono hsm608
                        have hu100 := hu100.mono hsm608
                        have hu105 := hu105.mono hsm608
                        have hu117 := hu117.mono hsm608
                        have hu331 := hu331.mono hsm608
                        refine ⟨.inl rfl, ?_⟩
                        refine W.cast (m' := m608) (l' := hownT 43 2 Act.enc v528 _ :: hcells b109 [_, _] 36 :: hcells b34 [_, _] 36 :: hqT 36 2 encP v79 _ :: hmap b5 ek36 evV _ :: hcells b1 [_, _, _, _, _] 25 :: l) rfl rfl ?_
                        refine W.end ?_
                        refine NX.sub (env' := [(1, _), (2, _), (7, _), (8, _), (9, _), (10, _), (46, _), (47, _), (51, _), (52, _), (12, _)]) ⟨rfl, rfl, rfl, rfl, rfl, rfl, rfl, rfl, rfl, rfl, rfl, trivial⟩ ?_
                        refine NX.drop (l' := hcells b109 [_, _] 36 :: hcells b34 [_, _] 36 :: hqT 36 2 encP v79 _ :: hmap b5 ek36 evV _ :: hcells b1 [_, _, _, _, _] 25 :: l) (.cons _ (.cons_cons _ (.cons_cons _ (.cons_cons _ (.cons_cons _ (.cons_cons _ (.refl _))))))) ?_
                        refine NX.then ?_
                        obtain ⟨hq671, hr⟩ := guard_some hr; replace hq671 := of_decide_eq_true hq671
                        refine Tr.region_f (fun i => Nat.beq i 2 || Nat.beq i 3) ?_
                        refine W.q rfl rfl rfl rfl (by decide) (Yd.mv rfl (.t rfl)) ?_
                        refine W.q rfl rfl rfl rfl (by decide) (Yd.ldBs (pos := 0) (us := [_, _]) rfl rfl rfl rfl ON36 US36 SZ36 (.t rfl)) ?_
                        refine W.e rfl rfl rfl rfl (by decide) (Ef.bsT (enc := encP) (vs := [_]) (ys := [(y107, c111)]) (fun _ => rfl) IF36 rfl Try.underlying38 (by decide) rfl (.cons (.t rfl) .nil) rfl rfl (by decide)) ?_
                        rintro v668 _ rfl
                        refine ⟨.inl rfl, ?_⟩
                        refine W.cast (m' := m608) (l' := hownT 36 2 encP v668 _ :: hcells b109 [_, _] 36 :: hcells b34 [_, _] 36 :: hqT 36 2 encP v79 _ :: hmap b5 ek36 evV _ :: hcells b1 [_, _, _, _, _] 25 :: l) rfl rfl ?_
                        refine W.e rfl rfl rfl rfl (by decide) (Ef.apQ (pos := 3) (enc := encP) (xs := l78) (ys := ([(y107, c111)] : List (Int × Int))) (fun _ => rfl) IF36 rfl rfl Try.underlying38 rfl (by decide) (.t rfl) (.t rfl) (Src.own (pos := 0) rfl) (fun _ => rfl) (by simp) (by omega) (by omega)) ?_
                        rintro v670 _ rfl
                        refine ⟨.inl rfl, ?_⟩
                        refine W.cast (m' := m608) (l' := hownT 36 2 encP v668 _ :: hcells b109 [_, _] 36 :: hcells b34 [_, _] 36 :: hqT 36 2 encP v670 _ :: hmap b5 ek36 evV _ :: hcells b1 [_, _, _, _, _] 25 :: l) rfl rfl ?_
                        refine W.q rfl rfl rfl rfl (by decide) (Yd.as rfl (.t rfl)) ?_
                        refine W.end ?_
                        refine NX.sub (env' := [(1, _), (2, _), (7, _), (8, _), (9, _), (10, _), (46, _), (47, _), (51, _), (52, _)]) ⟨rfl, rfl, rfl, rfl, rfl, rfl, rfl, rfl, rfl, rfl, trivial⟩ ?_
                        refine NX.drop (l' := hcells b34 [_, _] 36 :: hqT 36 2 encP v670 _ :: hmap b5 ek36 evV _ :: hcells b1 [_, _, _, _, _] 25 :: l) (.cons _ (.cons _ (.cons_cons _ (.cons_cons _ (.cons_cons _ (.cons_cons _ (.refl _))))))) ?_
                        refine NX.block ?_
                        refine NX.then ?_
                        refine Tr.region_f (fun _ => false) ?_
                        refine W.q rfl rfl rfl rfl (by decide) (Yd.add rfl (.t rfl) .c) ?_
                        refine W.q rfl rfl rfl rfl (by decide) (Yd.mv rfl (.t rfl)) ?_
                        refine W.end ?_
                        refine NX.sub (env' := [(1, _), (2, _), (7, _), (8, _), (9, _), (10, _), (46, _), (47, _), (51, _), (52, _)]) ⟨rfl, rfl, rfl, rfl, rfl, rfl, rfl, rfl, rfl, rfl, trivial⟩ ?_
                        refine NX.sub (env' := [(1, _), (2, _), (7, _), (8, _), (9, _), (10, _), (46, _), (47, _), (51, _), (52, _)]) ⟨rfl, rfl, rfl, rfl, rfl, rfl, rfl, rfl, rfl, rfl, trivial⟩ ?_
                        have hw := w64_id (n := t_93 + 1) (by omega) (by omega)
                        exact NX.again n96 (t_93 + 1, (l78 ++ ([(y107, c111)] : List (Int × Int))), (mput l80 ((y107, c111)) ((r368 ++ ([({ user := t_66, act := t_93 } : Act)] : List Act))))) (Nat.lt_succ_self _) ⟨_, _, _, (hsm83.trans hsm608), (MRows.put hw82 ((y107, c111)) hu609), (by rw [hw] <;> rfl), rfl, (fr_dec hnt_93), (by omega), ((hnx95 _).symm.trans hr)⟩
                    · have hr := cond_f hb hr
                      refine Tr.skip' ?_
                      refine NX.block ?_
                      refine NX.then ?_
                      refine Tr.region_f (fun _ => false) ?_
                      refine W.q rfl rfl rfl rfl (by decide) (Yd.add rfl (.t rfl) .c) ?_
                      refine W.q rfl rfl rfl rfl (by decide) (Yd.mv rfl (.t rfl)) ?_
                      refine W.end ?_
                      refine NX.sub (env' := [(1, _), (2, _), (7, _), (8, _), (9, _), (10, _), (46, _), (47, _), (51, _), (52, _)]) ⟨rfl, rfl, rfl, rfl, rfl, rfl, rfl, rfl, rfl, rfl, trivial⟩ ?_
                      refine NX.drop (l' := hcells b34 [_, _] 36 :: hqT 36 2 encP v79 _ :: hmap b5 ek36 evV _ :: hcells b1 [_, _, _, _, _] 25 :: l) (.cons _ (.cons_cons _ (.cons_cons _ (.cons_cons _ (.cons_cons _ (.refl _)))))) ?_
                      refine NX.sub (env' := [(1, _), (2, _), (7, _), (8, _), (9, _), (10, _), (46, _), (47, _), (51, _), (52, _)]) ⟨rfl, rfl, rfl, rfl, rfl, rfl, rfl, rfl, rfl, rfl, trivial⟩ ?_
                      have hw := w64_id (n := t_93 + 1) (by omega) (by omega)
                      exact NX.again n96 (t_93 + 1, l78, l80) (Nat.lt_succ_self _) ⟨_, _, _, hsm83, hw82, (by rw [hw] <;> rfl), rfl, (fr_dec hnt_93), (by omega), ((hnx95 _).symm.trans hr)⟩
                  refine Tr.cond (.t rfl) (fun hb => ?_) (fun hb => ?_)
                  · have hr := cond_t hb hr
                    obtain ⟨y672, hy673, hr⟩ := bind_some hr
                    obtain ⟨y677, hy678, hr⟩ := bind_some hr
                    obtain ⟨y682, hy683, hr⟩ := bind_some hr
                    refine Tr.region_f (fun i => Nat.beq i 13) ?_
                    refine W.q rfl rfl rfl rfl (by decide) (Yd.fldB rfl Try.underlying25 rfl SZ22 rfl (.t rfl)) ?_
                    refine W.q rfl rfl rfl rfl (by decide) (Yd.ldB (pos := 4) rfl rfl rfl ON22 (.t rfl)) ?_
                    refine W.q rfl rfl rfl rfl (by decide) (Yd.arrB rfl Try.underlying36 SZ3 (by decide) (by decide) (.t rfl) .c) ?_
                    refine W.q rfl rfl rfl rfl (by decide) (Yd.ldB (pos := 1) rfl rfl rfl ON3 (.t rfl)) ?_
                    refine W.q rfl rfl rfl rfl (by decide) (Yd.idxR hm_0_3 hy673 rfl Try.underlying22 SZ23 (.t rfl) (.t rfl)) ?_
                    obtain ⟨u674, hu675, hat676⟩ := hm_0_3.row hy673
                    refine W.q rfl rfl rfl rfl (by decide) (Yd.ldRow hat676 (.refl _) rfl ON23 (.t rfl)) ?_
                    refine W.q rfl rfl rfl rfl (by decide) (Yd.mv rfl (.t rfl)) ?_
                    refine W.q rfl rfl rfl rfl (by decide) (Yd.idxR hu675 hy678 rfl Try.underlying23 SZ40 (.t rfl) (.t rfl)) ?_
                    obtain ⟨u679, hu680, hat681⟩ := hu675.row hy678
                    refine W.q rfl rfl rfl rfl (by decide) (Yd.ldRow hat681 (.refl _) rfl ON40 (.t rfl)) ?_
                    refine W.q rfl rfl rfl rfl (by decide) (Yd.mv rfl (.t rfl)) ?_
                    refine W.q rfl rfl rfl rfl (by decide) (Yd.idxR hu680 hy683 rfl Try.underlying40 SZ3 (.t rfl) (.t rfl)) ?_
                    refine W.q rfl rfl rfl rfl (by decide) (Yd.ldF hu680 (.refl _) hy683 rfl rfl ON3 (.t rfl)) ?_
                    refine W.q rfl rfl rfl rfl (by decide) (Yd.arrB rfl Try.underlying36 SZ3 (by decide) (by decide) (.t rfl) .c) ?_
                    refine W.s rfl rfl rfl rfl (Ef.stB (pos := 0) (us := [_]) (cs' := [_, _]) rfl rfl (.t rfl) (.t rfl) SZ3 rfl rfl rfl (Nat.le_of_ble_eq_true rfl) rfl) ?_
                    rintro _ _ ⟨rfl, rfl⟩
                    refine ⟨.inl rfl, ?_⟩
                    refine W.cast (m' := m83) (l' := hcells b109 [_, _] 36 :: hcells b34 [_, _] 36 :: hqT 36 2 encP v79 _ :: hmap b5 ek36 evV _ :: hcells b1 [_, _, _, _, _] 25 :: l) rfl rfl ?_
                    refine W.end ?_
                    refine NX.sub (env' := [(1, _), (2, _), (7, _), (8, _), (9, _), (10, _), (46, _), (47, _), (51, _), (52, _), (11, _), (12, _)]) ⟨rfl, rfl, rfl, rfl, rfl, rfl, rfl, rfl, rfl, rfl, rfl, rfl, trivial⟩ ?_
                    refine NX.sub (env' := [(1, _), (2, _), (7, _), (8, _), (9, _), (10, _), (46, _), (47, _), (51, _), (52, _), (11, _), (12, _)]) ⟨rfl, rfl, rfl, rfl, rfl, rfl, rfl, rfl, rfl, rfl, rfl, rfl, trivial⟩ ?_
                    exact hk113 _ _ ⟨_, rfl, rfl, hr⟩
                  · have hr := cond_f hb hr
                    refine Tr.skip' ?_
                    refine NX.sub (env' := [(1, _), (2, _), (7, _), (8, _), (9, _), (10, _), (46, _), (47, _), (51, _), (52, _), (11, _), (12, _)]) ⟨rfl, rfl, rfl, rfl, rfl, rfl, rfl, rfl, rfl, rfl, rfl, rfl, trivial⟩ ?_
                    exact hk113 _ _ ⟨_, rfl, rfl, hr⟩
      · have hr := cond_f hb hr
        refine Tr.exit' (EX.then (EX.then (EX.block ?_)))
        refine NX.sub (env' := []) trivial ?_
        refine NX.drop (l' := l) (.cons _ (.cons _ (.cons _ (.refl _)))) ?_
        exact hk28 _ _ ⟨_, hsm20, rfl, rfl, hr⟩

def syllogistref_ViewCheck_k9 : Option (Int) :=
  some ((0 : Int))

def syllogistref_ViewCheck_k23 (nx14 : (Unit → Option (Int))) : Option (Int) :=
  nx14 ()

def syllogistref_ViewCheck_k37 (nx28 : (Unit → Option (Int))) : Option (Int) :=
  nx28 ()

def syllogistref_ViewCheck_b41 (m_0 : Machine) (y30 : (List Int)) (t_40 : Int) (nx42 : Unit → Option (Int)) : Option (Int) :=
  (geti y30 t_40).bind fun y44 =>
  (bif ((decide (y44 < (0 : Int))) || (decide (y44 ≥ m_0.n))) then
  some ((2 : Int))
  else
  nx42 ())

def syllogistref_ViewCheck_b27 (m_0 : Machine) (y16 : (List (List Int))) (t_26 : Int) (nx28 : Unit → Option (Int)) : Option (Int) :=
  (geti y16 t_26).bind fun y30 =>
  forK (σ := Unit) (fun i s nx_ => syllogistref_ViewCheck_b41 m_0 y30 i nx_) (fun _ => syllogistref_ViewCheck_k37 nx28) ((y30.length : Int) - (0 : Int)).toNat (0 : Int) ()

def syllogistref_ViewCheck_b13 (m_0 : Machine) (s_12 : Int) (nx14 : Unit → Option (Int)) : Option (Int) :=
  (geti m_0.next s_12).bind fun y16 =>
  forK (σ := Unit) (fun i s nx_ => syllogistref_ViewCheck_b27 m_0 y16 i nx_) (fun _ => syllogistref_ViewCheck_k23 nx14) ((y16.length : Int) - (0 : Int)).toNat (0 : Int) ()

def syllogistref_ViewCheck_k5 (m_0 : Machine) : Option (Int) :=
  bif decide (m_0.n ≤ 9223372036854775807) then
  forK (σ := Unit) (fun i s nx_ => syllogistref_ViewCheck_b13 m_0 i nx_) (fun _ => syllogistref_ViewCheck_k9) (m_0.n - (0 : Int)).toNat (0 : Int) () else none

def syllogistref_ViewCheck_k67 (nx49 : (Unit → Option (Int))) : Option (Int) :=
  nx49 ()

def syllogistref_ViewCheck_b71 (m_0 : Machine) (y60 : (List (List Int))) (t_70 : Int) (nx72 : Unit → Option (Int)) : Option (Int) :=
  (geti y60 t_70).bind fun y74 =>
  (bif ((y74.length : Int) != m_0.acts) then
  some ((3 : Int))
  else
  nx72 ())

def syllogistref_ViewCheck_b48 (m_0 : Machine) (s_47 : Int) (nx49 : Unit → Option (Int)) : Option (Int) :=
  (geti m_0.next s_47).bind fun y51 =>
  bif (!(((y51.length : Int) != m_0.users) == false) || (geti m_0.sees s_47).isSome) then
  (bif (((y51.length : Int) != m_0.users) || (((((geti m_0.sees s_47).getD [])).length : Int) != m_0.users)) then
  some ((3 : Int))
  else
  (geti m_0.next s_47).bind fun y60 =>
  forK (σ := Unit) (fun i s nx_ => syllogistref_ViewCheck_b71 m_0 y60 i nx_) (fun _ => syllogistref_ViewCheck_k67 nx49) ((y60.length : Int) - (0 : Int)).toNat (0 : Int) ()) else none

def syllogistref_ViewCheck (m_0 : Machine) : Option (Int) :=
  (bif ((((((decide (m_0.n < (1 : Int))) || (decide (m_0.n > (6 : Int)))) || (decide (m_0.users < (1 : Int)))) || (decide (m_0.users > (3 : Int)))) || (decide (m_0.acts < (1 : Int)))) || (decide (m_0.acts > (2 : Int)))) then
  some ((1 : Int))
  else
  (bif (((m_0.next.length : Int) != m_0.n) || ((m_0.sees.length : Int) != m_0.n)) then
  some ((3 : Int))
  else
  bif decide (m_0.n ≤ 9223372036854775807) then
  forK (σ := Unit) (fun i s nx_ => syllogistref_ViewCheck_b48 m_0 i nx_) (fun _ => syllogistref_ViewCheck_k5 m_0) (m_0.n - (0 : Int)).toNat (0 : Int) () else none))

set_option maxRecDepth 100000 in
set_option maxHeartbeats 4000000 in
theorem syllogistref_ViewCheck_ok (w0 : World) (m : Snap) (l : List HI) (m_0 : Machine) (um_0_3 : Value) (hm_0_3 : RS (Rp.slice (Rp.slice rI)) m um_0_3 m_0.next) (um_0_4 : Value) (hm_0_4 : RS (Rp.slice rI) m um_0_4 m_0.sees) (r : Int) (hr : syllogistref_ViewCheck m_0 = some r) (w : World) (hc : cX w0 ⟨m, l⟩ w) :
    Calls Try.prog 11 [.agg #[.int .i64 m_0.n, .int .i64 m_0.users, .int .i64 m_0.acts, um_0_3, um_0_4]].toArray w fun e w' => e = .returned (.int .i64 r) ∧ cX w0 ⟨m, l⟩ w' := by
  unfold syllogistref_ViewCheck at hr
  refine calls_of_Tr (N := 127) Try.func11 rfl hc rfl (Nat.le_of_ble_eq_true rfl) ?_
  refine Tr.seq ?_
  refine Tr.region_f (fun i => Nat.beq i 0) ?_
  refine W.e rfl rfl rfl rfl (by decide) (Ef.bx rfl (.t rfl) rfl) ?_
  rintro _ _ ⟨b1, rfl, rfl⟩
  refine ⟨.inl rfl, ?_⟩
  refine W.cast (m' := m) (l' := hcells b1 [_, _, _, _, _] 25 :: l) rfl rfl ?_
  refine W.q rfl rfl rfl rfl (by decide) (Yd.as rfl .c) ?_
  refine W.end ?_
  refine NX.sub (env' := [(1, _)]) ⟨rfl, trivial⟩ ?_
  refine NX.then ?_
  refine Tr.seq ?_
  refine Tr.seq ?_
  refine Tr.region_f (fun _ => false) ?_
  refine W.q rfl rfl rfl rfl (by decide) (Yd.fldB rfl Try.underlying25 rfl SZ3 rfl (.t rfl)) ?_
  refine W.q rfl rfl rfl rfl (by decide) (Yd.ldB (pos := 0) rfl rfl rfl ON3 (.t rfl)) ?_
  refine W.q rfl rfl rfl rfl (by decide) (Yd.lss rfl (.t rfl) .c) ?_
  refine W.q rfl rfl rfl rfl (by decide) (Yd.mv rfl (.t rfl)) ?_
  refine W.g rfl rfl rfl rfl rfl (.t rfl _) rfl (by decide) (fun hG => Yd.fldB rfl Try.underlying25 rfl SZ3 rfl (.t rfl)) ?_
  refine W.g rfl rfl rfl rfl rfl (.t rfl _) rfl (by decide) (fun hG => Yd.ldB (pos := 0) rfl rfl rfl ON3 (.g rfl hG)) ?_
  refine W.g rfl rfl rfl rfl rfl (.t rfl _) rfl (by decide) (fun hG => Yd.gtr rfl (.g rfl hG) .c) ?_
  refine W.q rfl rfl rfl rfl (by decide) (Yd.or rfl (.t rfl) .c rfl rfl) ?_
  refine W.q rfl rfl rfl rfl (by decide) (Yd.mv rfl (.t rfl)) ?_
  refine W.g rfl rfl rfl rfl rfl (.t rfl _) rfl (by decide) (fun hG => Yd.fldB rfl Try.underlying25 rfl SZ3 rfl (.t rfl)) ?_
  refine W.g rfl rfl rfl rfl rfl (.t rfl _) rfl (by decide) (fun hG => Yd.ldB (pos := 0) rfl rfl rfl ON3 (.g rfl hG)) ?_
  refine W.g rfl rfl rfl rfl rfl (.t rfl _) rfl (by decide) (fun hG => Yd.lss rfl (.g rfl hG) .c) ?_
  refine W.q rfl rfl rfl rfl (by decide) (Yd.or rfl (.t rfl) .c rfl rfl) ?_
  refine W.q rfl rfl rfl rfl (by decide) (Yd.mv rfl (.t rfl)) ?_
  refine W.g rfl rfl rfl rfl rfl (.t rfl _) rfl (by decide) (fun hG => Yd.fldB rfl Try.underlying25 rfl SZ3 rfl (.t rfl)) ?_
  refine W.g rfl rfl rfl rfl rfl (.t rfl _) rfl (by decide) (fun hG => Yd.ldB (pos := 0) rfl rfl rfl ON3 (.g rfl hG)) ?_
  refine W.g rfl rfl rfl rfl rfl (.t rfl _) rfl (by decide) (fun hG => Yd.gtr rfl (.g rfl hG) .c) ?_
  refine W.q rfl rfl rfl rfl (by decide) (Yd.or rfl (.t rfl) .c rfl rfl) ?_
  refine W.q rfl rfl rfl rfl (by decide) (Yd.mv rfl (.t rfl)) ?_
  refine W.g rfl rfl rfl rfl rfl (.t rfl _) rfl (by decide) (fun hG => Yd.fldB rfl Try.underlying25 rfl SZ3 rfl (.t rfl)) ?_
  refine W.g rfl rfl rfl rfl rfl (.t rfl _) rfl (by decide) (fun hG => Yd.ldB (pos := 0) rfl rfl rfl ON3 (.g rfl hG)) ?_
  refine W.g rfl rfl rfl rfl rfl (.t rfl _) rfl (by decide) (fun hG => Yd.lss rfl (.g rfl hG) .c) ?_
  refine W.q rfl rfl rfl rfl (by decide) (Yd.or rfl (.t rfl) .c rfl rfl) ?_
  refine W.q rfl rfl rfl rfl (by decide) (Yd.mv rfl (.t rfl)) ?_
  refine W.g rfl rfl rfl rfl rfl (.t rfl _) rfl (by decide) (fun hG => Yd.fldB rfl Try.underlying25 rfl SZ3 rfl (.t rfl)) ?_
  refine W.g rfl rfl rfl rfl rfl (.t rfl _) rfl (by decide) (fun hG => Yd.ldB (pos := 0) rfl rfl rfl ON3 (.g rfl hG)) ?_
  refine W.g rfl rfl rfl rfl rfl (.t rfl _) rfl (by decide) (fun hG => Yd.gtr rfl (.g rfl hG) .c) ?_
  refine W.q rfl rfl rfl rfl (by decide) (Yd.or rfl (.t rfl) .c rfl rfl) ?_
  refine W.end ?_
  refine NX.sub (env' := [(1, _), (38, _)]) ⟨rfl, rfl, trivial⟩ ?_
  refine NX.then ?_
  refine Tr.cond (.t rfl) (fun hb => ?_) (fun hb => ?_)
  · have hr := cond_t hb hr
    refine Tr.seq ?_
    refine Tr.region_f (fun _ => false) ?_
    refine W.q rfl rfl rfl rfl (by decide) (Yd.as rfl .c) ?_
    refine W.end ?_
    refine NX.sub (env' := [(2, _)]) ⟨rfl, trivial⟩ ?_
    refine NX.drop (l' := l) (.cons _ (.refl _)) ?_
    refine NX.then ?_
    refine Tr.ret' (RT.then ?_)
    refine res1 rfl rfl ?_
    intro w hc
    cases hr
    exact ⟨rfl, hc⟩
  · have hr := cond_f hb hr
    refine Tr.skip' ?_
    refine NX.then ?_
    refine Tr.seq ?_
    refine Tr.seq ?_
    refine Tr.region_f (fun _ => false) ?_
    refine W.q rfl rfl rfl rfl (by decide) (Yd.fldB rfl Try.underlying25 rfl SZ22 rfl (.t rfl)) ?_
    refine W.q rfl rfl rfl rfl (by decide) (Yd.ldB (pos := 0) rfl rfl rfl ON22 (.t rfl)) ?_
    refine W.q rfl rfl rfl rfl (by decide) (Yd.lenR hm_0_3 rfl Try.underlying22 (.t rfl)) ?_
    refine W.q rfl rfl rfl rfl (by decide) (Yd.fldB rfl Try.underlying25 rfl SZ3 rfl (.t rfl)) ?_
    refine W.q rfl rfl rfl rfl (by decide) (Yd.ldB (pos := 0) rfl rfl rfl ON3 (.t rfl)) ?_
    refine W.q rfl rfl rfl rfl (by decide) (Yd.neq rfl (.t rfl) (.t rfl)) ?_
    refine W.q rfl rfl rfl rfl (by decide) (Yd.mv rfl (.t rfl)) ?_
    refine W.g rfl rfl rfl rfl rfl (.t rfl _) rfl (by decide) (fun hG => Yd.fldB rfl Try.underlying25 rfl SZ23 rfl (.t rfl)) ?_
    refine W.g rfl rfl rfl rfl rfl (.t rfl _) rfl (by decide) (fun hG => Yd.ldB (pos := 0) rfl rfl rfl ON23 (.g rfl hG)) ?_
    refine W.g rfl rfl rfl rfl rfl (.t rfl _) rfl (by decide) (fun hG => Yd.lenR hm_0_4 rfl Try.underlying23 (.g rfl hG)) ?_
    refine W.g rfl rfl rfl rfl rfl (.t rfl _) rfl (by decide) (fun hG => Yd.fldB rfl Try.underlying25 rfl SZ3 rfl (.t rfl)) ?_
    refine W.g rfl rfl rfl rfl rfl (.t rfl _) rfl (by decide) (fun hG => Yd.ldB (pos := 0) rfl rfl rfl ON3 (.g rfl hG)) ?_
    refine W.g rfl rfl rfl rfl rfl (.t rfl _) rfl (by decide) (fun hG => Yd.neq rfl (.g rfl hG) (.g rfl hG)) ?_
    refine W.q rfl rfl rfl rfl (by decide) (Yd.or rfl (.t rfl) .c rfl rfl) ?_
    refine W.end ?_
    refine NX.sub (env' := [(1, _), (52, _)]) ⟨rfl, rfl, trivial⟩ ?_
    refine NX.then ?_
    refine Tr.cond (.t rfl) (fun hb => ?_) (fun hb => ?_)
    · have hr := cond_t hb hr
      refine Tr.seq ?_
      refine Tr.region_f (fun _ => false) ?_
      refine W.q rfl rfl rfl rfl (by decide) (Yd.as rfl .c) ?_
      refine W.end ?_
      refine NX.sub (env' := [(2, _)]) ⟨rfl, trivial⟩ ?_
      refine NX.drop (l' := l) (.cons _ (.refl _)) ?_
      refine NX.then ?_
      refine Tr.ret' (RT.then ?_)
      refine res1 rfl rfl ?_
      intro w hc
      cases hr
      exact ⟨rfl, hc⟩
    · have hr := cond_f hb hr
      refine Tr.skip' ?_
      refine NX.then ?_
      refine Tr.seq ?_
      refine Tr.seq ?_
      refine Tr.region_f (fun _ => false) ?_
      refine W.q rfl rfl rfl rfl (by decide) (Yd.as rfl .c) ?_
      refine W.end ?_
      refine NX.sub (env' := [(1, _), (3, _)]) ⟨rfl, rfl, trivial⟩ ?_
      refine NX.then ?_
      refine Tr.join (S := fun env x => env = [(1, bp b1 0)] ∧ x = ⟨m, hcells b1 [.int .i64 m_0.n, .int .i64 m_0.users, .int .i64 m_0.acts, um_0_3, um_0_4] 25 :: l⟩ ∧ syllogistref_ViewCheck_k5 m_0 = some r) ?_ (fun hk6 => ?_)
      · rintro _ _ ⟨rfl, rfl, hr⟩
        unfold syllogistref_ViewCheck_k5 at hr
        try dsimp only at hr
        refine NX.then ?_
        refine Tr.seq ?_
        refine Tr.seq ?_
        refine Tr.region_f (fun _ => false) ?_
        refine W.q rfl rfl rfl rfl (by decide) (Yd.as rfl .c) ?_
        refine W.end ?_
        refine NX.sub (env' := [(1, _), (6, _)]) ⟨rfl, rfl, trivial⟩ ?_
        refine NX.then ?_
        refine Tr.join (S := fun env x => env = [] ∧ x = ⟨m, l⟩ ∧ syllogistref_ViewCheck_k9 = some r) ?_ (fun hk10 => ?_)
        · rintro _ _ ⟨rfl, rfl, hr⟩
          unfold syllogistref_ViewCheck_k9 at hr
          try dsimp only at hr
          refine NX.then ?_
          refine Tr.seq ?_
          refine Tr.region_f (fun _ => false) ?_
          refine W.q rfl rfl rfl rfl (by decide) (Yd.as rfl .c) ?_
          refine W.end ?_
          refine NX.sub (env' := [(2, _)]) ⟨rfl, trivial⟩ ?_
          refine NX.then ?_
          refine Tr.ret' ?_
          refine res1 rfl rfl ?_
          intro w hc
          cases hr
          exact ⟨rfl, hc⟩
        obtain ⟨hle11, hr⟩ := guard_some hr; replace hle11 := of_decide_eq_true hle11
        refine Tr.block ?_
        refine Tr.sub (env' := [(1, _), (6, _)]) ⟨rfl, rfl, trivial⟩ ?_
        refine Tr.loop (S := fun n (z : Int × Unit) env x => match z with | (s_12, _) => env = [(1, bp b1 0), (6, .int .i64 s_12)] ∧ x = ⟨m, hcells b1 [.int .i64 m_0.n, .int .i64 m_0.users, .int .i64 m_0.acts, um_0_3, um_0_4] 25 :: l⟩ ∧ n = (m_0.n - s_12).toNat ∧ 0 ≤ s_12 ∧ forK (σ := Unit) (fun i s nx_ => syllogistref_ViewCheck_b13 m_0 i nx_) (fun _ => syllogistref_ViewCheck_k9) n s_12 () = some r) _ ((0 : Int), ()) ⟨rfl, rfl, rfl, (by omega), hr⟩ ?_
        rintro n15 ⟨s_12, _⟩ env x ⟨rfl, rfl, hns_12, h0s_12, hr⟩
        cases n15 with
        | zero =>
          simp only [forK] at hr
          refine Tr.seq ?_
          refine Tr.seq ?_
          refine Tr.region_f (fun _ => false) ?_
          refine W.q rfl rfl rfl rfl (by decide) (Yd.mv rfl (.t rfl)) ?_
          refine W.q rfl rfl rfl rfl (by decide) (Yd.fldB rfl Try.underlying25 rfl SZ3 rfl (.t rfl)) ?_
          refine W.q rfl rfl rfl rfl (by decide) (Yd.ldB (pos := 0) rfl rfl rfl ON3 (.t rfl)) ?_
          refine W.q rfl rfl rfl rfl (by decide) (Yd.lss rfl (.t rfl) (.t rfl)) ?_
          refine W.end ?_
          refine NX.sub (env' := [(1, _), (6, _), (98, _)]) ⟨rfl, rfl, rfl, trivial⟩ ?_
          refine NX.then ?_
          refine Tr.cond (.t rfl) (fun hb => ?_) (fun hb => ?_)
          · exact absurd (hb.symm.trans (fr_end hns_12)) (by decide)
          ·
            refine Tr.exit' (EX.then (EX.then (EX.block ?_)))
            refine NX.sub (env' := []) trivial ?_
            refine NX.drop (l' := l) (.cons _ (.refl _)) ?_
            exact hk10 _ _ ⟨rfl, rfl, hr⟩
        | succ n15 =>
          obtain ⟨nx14, hnx14, hr⟩ := forK_succ hr
          try dsimp only at hr
          unfold syllogistref_ViewCheck_b13 at hr
          try dsimp only at hr
          have hlts_12 := fr_bnd hns_12
          refine Tr.seq ?_
          refine Tr.seq ?_
          refine Tr.region_f (fun _ => false) ?_
          refine W.q rfl rfl rfl rfl (by decide) (Yd.mv rfl (.t rfl)) ?_
          refine W.q rfl rfl rfl rfl (by decide) (Yd.fldB rfl Try.underlying25 rfl SZ3 rfl (.t rfl)) ?_
          refine W.q rfl rfl rfl rfl (by decide) (Yd.ldB (pos := 0) rfl rfl rfl ON3 (.t rfl)) ?_
          refine W.q rfl rfl rfl rfl (by decide) (Yd.lss rfl (.t rfl) (.t rfl)) ?_
          refine W.end ?_
          refine NX.sub (env' := [(1, _), (6, _), (98, _)]) ⟨rfl, rfl, rfl, trivial⟩ ?_
          refine NX.then ?_
          refine Tr.cond (.t rfl) (fun hb => ?_) (fun hb => ?_)
          rotate_left
          · exact absurd (hb.symm.trans (fr_go hns_12)) (by decide)
          ·
            refine Tr.skip' ?_
            refine NX.then ?_
            refine Tr.seq ?_
            refine Tr.block ?_
            refine Tr.seq ?_
            obtain ⟨y16, hy17, hr⟩ := bind_some hr
            refine Tr.region_f (fun _ => false) ?_
            refine W.q rfl rfl rfl rfl (by decide) (Yd.fldB rfl Try.underlying25 rfl SZ22 rfl (.t rfl)) ?_
            refine W.q rfl rfl rfl rfl (by decide) (Yd.ldB (pos := 0) rfl rfl rfl ON22 (.t rfl)) ?_
            refine W.q rfl rfl rfl rfl (by decide) (Yd.mv rfl (.t rfl)) ?_
            refine W.q rfl rfl rfl rfl (by decide) (Yd.idxR hm_0_3 hy17 rfl Try.underlying22 SZ23 (.t rfl) (.t rfl)) ?_
            obtain ⟨u18, hu19, hat20⟩ := hm_0_3.row hy17
            refine W.q rfl rfl rfl rfl (by decide) (Yd.ldRow hat20 (.refl _) rfl ON23 (.t rfl)) ?_
            refine W.q rfl rfl rfl rfl (by decide) (Yd.lenR hu19 rfl Try.underlying23 (.t rfl)) ?_
            refine W.q rfl rfl rfl rfl (by decide) (Yd.mv rfl .c) ?_
            refine W.end ?_
            refine NX.sub (env' := [(1, _), (6, _), (105, _), (106, _), (107, _)]) ⟨rfl, rfl, rfl, rfl, rfl, trivial⟩ ?_
            refine NX.then ?_
            refine Tr.join (S := fun env x => env = [(1, bp b1 0), (6, .int .i64 s_12)] ∧ x = ⟨m, hcells b1 [.int .i64 m_0.n, .int .i64 m_0.users, .int .i64 m_0.acts, um_0_3, um_0_4] 25 :: l⟩ ∧ syllogistref_ViewCheck_k23 nx14 = some r) ?_ (fun hk24 => ?_)
            · rintro _ _ ⟨rfl, rfl, hr⟩
              unfold syllogistref_ViewCheck_k23 at hr
              try dsimp only at hr
              refine NX.block ?_
              refine NX.then ?_
              refine Tr.region_f (fun _ => false) ?_
              refine W.q rfl rfl rfl rfl (by decide) (Yd.mv rfl (.t rfl)) ?_
              refine W.q rfl rfl rfl rfl (by decide) (Yd.add rfl (.t rfl) .c) ?_
              refine W.q rfl rfl rfl rfl (by decide) (Yd.as rfl (.t rfl)) ?_
              refine W.end ?_
              refine NX.sub (env' := [(1, _), (6, _)]) ⟨rfl, rfl, trivial⟩ ?_
              refine NX.sub (env' := [(1, _), (6, _)]) ⟨rfl, rfl, trivial⟩ ?_
              have hw := w64_id (n := s_12 + 1) (by omega) (by omega)
              exact NX.again n15 (s_12 + 1, ()) (Nat.lt_succ_self _) ⟨(by rw [hw] <;> rfl), rfl, (fr_dec hns_12), (by omega), ((hnx14 _).symm.trans hr)⟩
            have hlen25 := (hu19).2.1
            refine Tr.block ?_
            refine Tr.sub (env' := [(1, _), (6, _), (105, _), (106, _), (107, _)]) ⟨rfl, rfl, rfl, rfl, rfl, trivial⟩ ?_
            refine Tr.loop (S := fun n (z : Int × Unit) env x => match z with | (t_26, _) => env = [(1, bp b1 0), (6, .int .i64 s_12), (105, u18), (106, .int .i64 ((y16.length : Int))), (107, .int .i64 t_26)] ∧ x = ⟨m, hcells b1 [.int .i64 m_0.n, .int .i64 m_0.users, .int .i64 m_0.acts, um_0_3, um_0_4] 25 :: l⟩ ∧ n = ((y16.length : Int) - t_26).toNat ∧ 0 ≤ t_26 ∧ forK (σ := Unit) (fun i s nx_ => syllogistref_ViewCheck_b27 m_0 y16 i nx_) (fun _ => syllogistref_ViewCheck_k23 nx14) n t_26 () = some r) _ ((0 : Int), ()) ⟨rfl, rfl, rfl, (by omega), hr⟩ ?_
            rintro n29 ⟨t_26, _⟩ env x ⟨rfl, rfl, hnt_26, h0t_26, hr⟩
            cases n29 with
            | zero =>
              simp only [forK] at hr
              refine Tr.seq ?_
              refine Tr.region_f (fun _ => false) ?_
              refine W.q rfl rfl rfl rfl (by decide) (Yd.lss rfl (.t rfl) (.t rfl)) ?_
              refine W.end ?_
              refine NX.sub (env' := [(1, _), (6, _), (105, _), (106, _), (107, _), (108, _)]) ⟨rfl, rfl, rfl, rfl, rfl, rfl, trivial⟩ ?_
              refine NX.then ?_
              refine Tr.seq ?_
              refine Tr.cond (.t rfl) (fun hb => ?_) (fun hb => ?_)
              · exact absurd (hb.symm.trans (fr_end hnt_26)) (by decide)
              ·
                refine Tr.exit' (EX.then (EX.then (EX.block ?_)))
                refine NX.sub (env' := [(1, _), (6, _)]) ⟨rfl, rfl, trivial⟩ ?_
                exact hk24 _ _ ⟨rfl, rfl, hr⟩
            | succ n29 =>
              obtain ⟨nx28, hnx28, hr⟩ := forK_succ hr
              try dsimp only at hr
              unfold syllogistref_ViewCheck_b27 at hr
              try dsimp only at hr
              have hltt_26 := fr_bnd hnt_26
              refine Tr.seq ?_
              refine Tr.region_f (fun _ => false) ?_
              refine W.q rfl rfl rfl rfl (by decide) (Yd.lss rfl (.t rfl) (.t rfl)) ?_
              refine W.end ?_
              refine NX.sub (env' := [(1, _), (6, _), (105, _), (106, _), (107, _), (108, _)]) ⟨rfl, rfl, rfl, rfl, rfl, rfl, trivial⟩ ?_
              refine NX.then ?_
              refine Tr.seq ?_
              refine Tr.cond (.t rfl) (fun hb => ?_) (fun hb => ?_)
              rotate_left
              · exact absurd (hb.symm.trans (fr_go hnt_26)) (by decide)
              ·
                refine Tr.skip' ?_
                refine NX.then ?_
                refine Tr.seq ?_
                refine Tr.block ?_
                refine Tr.seq ?_
                obtain ⟨y30, hy31, hr⟩ := bind_some hr
                refine Tr.region_f (fun _ => false) ?_
                refine W.q rfl rfl rfl rfl (by decide) (Yd.idxR hu19 hy31 rfl Try.underlying23 SZ40 (.t rfl) (.t rfl)) ?_
                obtain ⟨u32, hu33, hat34⟩ := hu19.row hy31
                refine W.q rfl rfl rfl rfl (by decide) (Yd.ldRow hat34 (.refl _) rfl ON40 (.t rfl)) ?_
                refine W.q rfl rfl rfl rfl (by decide) (Yd.as rfl (.t rfl)) ?_
                refine W.end ?_
                refine NX.sub (env' := [(1, _), (6, _), (105, _), (106, _), (107, _), (8, _)]) ⟨rfl, rfl, rfl, rfl, rfl, rfl, trivial⟩ ?_
                refine NX.then ?_
                refine Tr.seq ?_
                refine Tr.region_f (fun _ => false) ?_
                refine W.q rfl rfl rfl rfl (by decide) (Yd.mv rfl (.t rfl)) ?_
                refine W.q rfl rfl rfl rfl (by decide) (Yd.lenR hu33 rfl Try.underlying40 (.t rfl)) ?_
                refine W.q rfl rfl rfl rfl (by decide) (Yd.mv rfl .c) ?_
                refine W.end ?_
                refine NX.sub (env' := [(1, _), (6, _), (105, _), (106, _), (107, _), (111, _), (112, _), (113, _)]) ⟨rfl, rfl, rfl, rfl, rfl, rfl, rfl, rfl, trivial⟩ ?_
                refine NX.then ?_
                refine Tr.join (S := fun env x => env = [(1, bp b1 0), (6, .int .i64 s_12), (105, u18), (106, .int .i64 ((y16.length : Int))), (107, .int .i64 t_26)] ∧ x = ⟨m, hcells b1 [.int .i64 m_0.n, .int .i64 m_0.users, .int .i64 m_0.acts, um_0_3, um_0_4] 25 :: l⟩ ∧ syllogistref_ViewCheck_k37 nx28 = some r) ?_ (fun hk38 => ?_)
                · rintro _ _ ⟨rfl, rfl, hr⟩
                  unfold syllogistref_ViewCheck_k37 at hr
                  try dsimp only at hr
                  refine NX.block ?_
                  refine NX.then ?_
                  refine Tr.region_f (fun _ => false) ?_
                  refine W.q rfl rfl rfl rfl (by decide) (Yd.add rfl (.t rfl) .c) ?_
                  refine W.q rfl rfl rfl rfl (by decide) (Yd.mv rfl (.t rfl)) ?_
                  refine W.end ?_
                  refine NX.sub (env' := [(1, _), (6, _), (105, _), (106, _), (107, _)]) ⟨rfl, rfl, rfl, rfl, rfl, trivial⟩ ?_
                  refine NX.sub (env' := [(1, _), (6, _), (105, _), (106, _), (107, _)]) ⟨rfl, rfl, rfl, rfl, rfl, trivial⟩ ?_
                  have hw := w64_id (n := t_26 + 1) (by omega) (by omega)
                  exact NX.again n29 (t_26 + 1, ()) (Nat.lt_succ_self _) ⟨(by rw [hw] <;> rfl), rfl, (fr_dec hnt_26), (by omega), ((hnx28 _).symm.trans hr)⟩
                have hlen39 := (hu33).2.1
                refine Tr.block ?_
                refine Tr.sub (env' := [(1, _), (6, _), (105, _), (106, _), (107, _), (111, _), (112, _), (113, _)]) ⟨rfl, rfl, rfl, rfl, rfl, rfl, rfl, rfl, trivial⟩ ?_
                refine Tr.loop (S := fun n (z : Int × Unit) env x => match z with | (t_40, _) => env = [(1, bp b1 0), (6, .int .i64 s_12), (105, u18), (106, .int .i64 ((y16.length : Int))), (107, .int .i64 t_26), (111, u32), (112, .int .i64 ((y30.length : Int))), (113, .int .i64 t_40)] ∧ x = ⟨m, hcells b1 [.int .i64 m_0.n, .int .i64 m_0.users, .int .i64 m_0.acts, um_0_3, um_0_4] 25 :: l⟩ ∧ n = ((y30.length : Int) - t_40).toNat ∧ 0 ≤ t_40 ∧ forK (σ := Unit) (fun i s nx_ => syllogistref_ViewCheck_b41 m_0 y30 i nx_) (fun _ => syllogistref_ViewCheck_k37 nx28) n t_40 () = some r) _ ((0 : Int), ()) ⟨rfl, rfl, rfl, (by omega), hr⟩ ?_
                rintro n43 ⟨t_40, _⟩ env x ⟨rfl, rfl, hnt_40, h0t_40, hr⟩
                cases n43 with
                | zero =>
                  simp only [forK] at hr
                  refine Tr.seq ?_
                  refine Tr.region_f (fun _ => false) ?_
                  refine W.q rfl rfl rfl rfl (by decide) (Yd.lss rfl (.t rfl) (.t rfl)) ?_
                  refine W.end ?_
                  refine NX.sub (env' := [(1, _), (6, _), (105, _), (106, _), (107, _), (111, _), (112, _), (113, _), (114, _)]) ⟨rfl, rfl, rfl, rfl, rfl, rfl, rfl, rfl, rfl, trivial⟩ ?_
                  refine NX.then ?_
                  refine Tr.seq ?_
                  refine Tr.cond (.t rfl) (fun hb => ?_) (fun hb => ?_)
                  · exact absurd (hb.symm.trans (fr_end hnt_40)) (by decide)
                  ·
                    refine Tr.exit' (EX.then (EX.then (EX.block ?_)))
                    refine NX.sub (env' := [(1, _), (6, _), (105, _), (106, _), (107, _)]) ⟨rfl, rfl, rfl, rfl, rfl, trivial⟩ ?_
                    exact hk38 _ _ ⟨rfl, rfl, hr⟩
                | succ n43 =>
                  obtain ⟨nx42, hnx42, hr⟩ := forK_succ hr
                  try dsimp only at hr
                  unfold syllogistref_ViewCheck_b41 at hr
                  try dsimp only at hr
                  have hltt_40 := fr_bnd hnt_40
                  refine Tr.seq ?_
                  refine Tr.region_f (fun _ => false) ?_
                  refine W.q rfl rfl rfl rfl (by decide) (Yd.lss rfl (.t rfl) (.t rfl)) ?_
                  refine W.end ?_
                  refine NX.sub (env' := [(1, _), (6, _), (105, _), (106, _), (107, _), (111, _), (112, _), (113, _), (114, _)]) ⟨rfl, rfl, rfl, rfl, rfl, rfl, rfl, rfl, rfl, trivial⟩ ?_
                  refine NX.then ?_
                  refine Tr.seq ?_
                  refine Tr.cond (.t rfl) (fun hb => ?_) (fun hb => ?_)
                  rotate_left
                  · exact absurd (hb.symm.trans (fr_go hnt_40)) (by decide)
                  ·
                    refine Tr.skip' ?_
                    refine NX.then ?_
                    refine Tr.seq ?_
                    refine Tr.block ?_
                    refine Tr.seq ?_
                    obtain ⟨y44, hy45, hr⟩ := bind_some hr
                    refine Tr.region_f (fun _ => false) ?_
                    refine W.q rfl rfl rfl rfl (by decide) (Yd.idxR hu33 hy45 rfl Try.underlying40 SZ3 (.t rfl) (.t rfl)) ?_
                    refine W.q rfl rfl rfl rfl (by decide) (Yd.ldF hu33 (.refl _) hy45 rfl rfl ON3 (.t rfl)) ?_
                    refine W.q rfl rfl rfl rfl (by decide) (Yd.as rfl (.t rfl)) ?_
                    refine W.end ?_
                    refine NX.sub (env' := [(1, _), (6, _), (105, _), (106, _), (107, _), (111, _), (112, _), (113, _), (10, _)]) ⟨rfl, rfl, rfl, rfl, rfl, rfl, rfl, rfl, rfl, trivial⟩ ?_
                    refine NX.then ?_
                    refine Tr.seq ?_
                    refine Tr.region_f (fun _ => false) ?_
                    refine W.q rfl rfl rfl rfl (by decide) (Yd.mv rfl (.t rfl)) ?_
                    refine W.q rfl rfl rfl rfl (by decide) (Yd.lss rfl (.t rfl) .c) ?_
                    refine W.q rfl rfl rfl rfl (by decide) (Yd.mv rfl (.t rfl)) ?_
                    refine W.g rfl rfl rfl rfl rfl (.t rfl _) rfl (by decide) (fun hG => Yd.mv rfl (.t rfl)) ?_
                    refine W.g rfl rfl rfl rfl rfl (.t rfl _) rfl (by decide) (fun hG => Yd.fldB rfl Try.underlying25 rfl SZ3 rfl (.t rfl)) ?_
                    refine W.g rfl rfl rfl rfl rfl (.t rfl _) rfl (by decide) (fun hG => Yd.ldB (pos := 0) rfl rfl rfl ON3 (.g rfl hG)) ?_
                    refine W.g rfl rfl rfl rfl rfl (.t rfl _) rfl (by decide) (fun hG => Yd.geq rfl (.g rfl hG) (.g rfl hG)) ?_
                    refine W.q rfl rfl rfl rfl (by decide) (Yd.or rfl (.t rfl) .c rfl rfl) ?_
                    refine W.end ?_
                    refine NX.sub (env' := [(1, _), (6, _), (105, _), (106, _), (107, _), (111, _), (112, _), (113, _), (124, _)]) ⟨rfl, rfl, rfl, rfl, rfl, rfl, rfl, rfl, rfl, trivial⟩ ?_
                    refine NX.then ?_
                    refine Tr.cond (.t rfl) (fun hb => ?_) (fun hb => ?_)
                    · have hr := cond_t hb hr
                      refine Tr.seq ?_
                      refine Tr.region_f (fun _ => false) ?_
                      refine W.q rfl rfl rfl rfl (by decide) (Yd.as rfl .c) ?_
                      refine W.end ?_
                      refine NX.sub (env' := [(2, _)]) ⟨rfl, trivial⟩ ?_
                      refine NX.drop (l' := l) (.cons _ (.refl _)) ?_
                      refine NX.then ?_
                      refine Tr.ret' (RT.block (RT.then (RT.then (RT.block (RT.block (RT.then (RT.then (RT.block (RT.block (RT.then (RT.then (RT.block (RT.then ?_)))))))))))))
                      refine res1 rfl rfl ?_
                      intro w hc
                      cases hr
                      exact ⟨rfl, hc⟩
                    · have hr := cond_f hb hr
                      refine Tr.skip' ?_
                      refine NX.block ?_
                      refine NX.then ?_
                      refine Tr.region_f (fun _ => false) ?_
                      refine W.q rfl rfl rfl rfl (by decide) (Yd.add rfl (.t rfl) .c) ?_
                      refine W.q rfl rfl rfl rfl (by decide) (Yd.mv rfl (.t rfl)) ?_
                      refine W.end ?_
                      refine NX.sub (env' := [(1, _), (6, _), (105, _), (106, _), (107, _), (111, _), (112, _), (113, _)]) ⟨rfl, rfl, rfl, rfl, rfl, rfl, rfl, rfl, trivial⟩ ?_
                      refine NX.sub (env' := [(1, _), (6, _), (105, _), (106, _), (107, _), (111, _), (112, _), (113, _)]) ⟨rfl, rfl, rfl, rfl, rfl, rfl, rfl, rfl, trivial⟩ ?_
                      have hw := w64_id (n := t_40 + 1) (by omega) (by omega)
                      exact NX.again n43 (t_40 + 1, ()) (Nat.lt_succ_self _) ⟨(by rw [hw] <;> rfl), rfl, (fr_dec hnt_40), (by omega), ((hnx42 _).symm.trans hr)⟩
      obtain ⟨hle46, hr⟩ := guard_some hr; replace hle46 := of_decide_eq_true hle46
      refine Tr.block ?_
      refine Tr.sub (env' := [(1, _), (3, _)]) ⟨rfl, rfl, trivial⟩ ?_
      refine Tr.loop (S := fun n (z : Int × Unit) env x => match z with | (s_47, _) => env = [(1, bp b1 0), (3, .int .i64 s_47)] ∧ x = ⟨m, hcells b1 [.int .i64 m_0.n, .int .i64 m_0.users, .int .i64 m_0.acts, um_0_3, um_0_4] 25 :: l⟩ ∧ n = (m_0.n - s_47).toNat ∧ 0 ≤ s_47 ∧ forK (σ := Unit) (fun i s nx_ => syllogistref_ViewCheck_b48 m_0 i nx_) (fun _ => syllogistref_ViewCheck_k5 m_0) n s_47 () = some r) _ ((0 : Int), ()) ⟨rfl, rfl, rfl, (by omega), hr⟩ ?_
      rintro n50 ⟨s_47, _⟩ env x ⟨rfl, rfl, hns_47, h0s_47, hr⟩
      cases n50 with
      | zero =>
        simp only [forK] at hr
        refine Tr.seq ?_
        refine Tr.seq ?_
        refine Tr.region_f (fun _ => false) ?_
        refine W.q rfl rfl rfl rfl (by decide) (Yd.mv rfl (.t rfl)) ?_
        refine W.q rfl rfl rfl rfl (by decide) (Yd.fldB rfl Try.underlying25 rfl SZ3 rfl (.t rfl)) ?_
        refine W.q rfl rfl rfl rfl (by decide) (Yd.ldB (pos := 0) rfl rfl rfl ON3 (.t rfl)) ?_
        refine W.q rfl rfl rfl rfl (by decide) (Yd.lss rfl (.t rfl) (.t rfl)) ?_
        refine W.end ?_
        refine NX.sub (env' := [(1, _), (3, _), (56, _)]) ⟨rfl, rfl, rfl, trivial⟩ ?_
        refine NX.then ?_
        refine Tr.cond (.t rfl) (fun hb => ?_) (fun hb => ?_)
        · exact absurd (hb.symm.trans (fr_end hns_47)) (by decide)
        ·
          refine Tr.exit' (EX.then (EX.then (EX.block ?_)))
          refine NX.sub (env' := [(1, _)]) ⟨rfl, trivial⟩ ?_
          exact hk6 _ _ ⟨rfl, rfl, hr⟩
      | succ n50 =>
        obtain ⟨nx49, hnx49, hr⟩ := forK_succ hr
        try dsimp only at hr
        unfold syllogistref_ViewCheck_b48 at hr
        try dsimp only at hr
        have hlts_47 := fr_bnd hns_47
        refine Tr.seq ?_
        refine Tr.seq ?_
        refine Tr.region_f (fun _ => false) ?_
        refine W.q rfl rfl rfl rfl (by decide) (Yd.mv rfl (.t rfl)) ?_
        refine W.q rfl rfl rfl rfl (by decide) (Yd.fldB rfl Try.underlying25 rfl SZ3 rfl (.t rfl)) ?_
        refine W.q rfl rfl rfl rfl (by decide) (Yd.ldB (pos := 0) rfl rfl rfl ON3 (.t rfl)) ?_
        refine W.q rfl rfl rfl rfl (by decide) (Yd.lss rfl (.t rfl) (.t rfl)) ?_
        refine W.end ?_
        refine NX.sub (env' := [(1, _), (3, _), (56, _)]) ⟨rfl, rfl, rfl, trivial⟩ ?_
        refine NX.then ?_
        refine Tr.cond (.t rfl) (fun hb => ?_) (fun hb => ?_)
        rotate_left
        · exact absurd (hb.symm.trans (fr_go hns_47)) (by decide)
        ·
          refine Tr.skip' ?_
          refine NX.then ?_
          refine Tr.seq ?_
          refine Tr.block ?_
          refine Tr.seq ?_
          refine Tr.seq ?_
          obtain ⟨y51, hy52, hr⟩ := bind_some hr
          obtain ⟨ha56, hr⟩ := guard_some hr
          refine Tr.region_x (fun _ => false) (fun _ => false) (Ord.of [0, 1, 2, 3, 4, 5, 6, 7, 8, 9, 10, 11, 12, 13, 14, 15, 16, 17, 18, 19]) FM (by kernel_rfl) ?_
          refine W.q rfl rfl rfl rfl (by decide) (Yd.fldB rfl Try.underlying25 rfl SZ22 rfl (.t rfl)) ?_
          refine W.q rfl rfl rfl rfl (by decide) (Yd.ldB (pos := 0) rfl rfl rfl ON22 (.t rfl)) ?_
          refine W.q rfl rfl rfl rfl (by decide) (Yd.mv rfl (.t rfl)) ?_
          refine W.q rfl rfl rfl rfl (by decide) (Yd.idxR hm_0_3 hy52 rfl Try.underlying22 SZ23 (.t rfl) (.t rfl)) ?_
          obtain ⟨u53, hu54, hat55⟩ := hm_0_3.row hy52
          refine W.q rfl rfl rfl rfl (by decide) (Yd.ldRow hat55 (.refl _) rfl ON23 (.t rfl)) ?_
          refine W.q rfl rfl rfl rfl (by decide) (Yd.lenR hu54 rfl Try.underlying23 (.t rfl)) ?_
          refine W.q rfl rfl rfl rfl (by decide) (Yd.fldB rfl Try.underlying25 rfl SZ3 rfl (.t rfl)) ?_
          refine W.q rfl rfl rfl rfl (by decide) (Yd.ldB (pos := 0) rfl rfl rfl ON3 (.t rfl)) ?_
          refine W.q rfl rfl rfl rfl (by decide) (Yd.neq rfl (.t rfl) (.t rfl)) ?_
          refine W.q rfl rfl rfl rfl (by decide) (Yd.mv rfl (.t rfl)) ?_
          refine W.g rfl rfl rfl rfl rfl (.t rfl _) rfl (by decide) (fun hG => Yd.fldB rfl Try.underlying25 rfl SZ23 rfl (.t rfl)) ?_
          refine W.g rfl rfl rfl rfl rfl (.t rfl _) rfl (by decide) (fun hG => Yd.ldB (pos := 0) rfl rfl rfl ON23 (.g rfl hG)) ?_
          refine W.g rfl rfl rfl rfl rfl (.t rfl _) rfl (by decide) (fun hG => Yd.mv rfl (.t rfl)) ?_
          refine W.g rfl rfl rfl rfl rfl (.t rfl _) rfl (by decide) (fun hG => Yd.idxR hm_0_4 (gd_get (d := []) ha56 hG) rfl Try.underlying23 SZ40 (.g rfl hG) (.g rfl hG)) ?_
          obtain ⟨u57, hu58⟩ := RS.rowD hm_0_4 (i := s_47)
          refine W.g rfl rfl rfl rfl rfl (.t rfl _) rfl (by decide) (fun hG => Yd.ldRow (hu58 _ (gd_get (d := []) ha56 hG)).2 (.refl _) rfl ON40 (.g rfl hG)) ?_
          refine W.g rfl rfl rfl rfl rfl (.t rfl _) rfl (by decide) (fun hG => Yd.lenR (hu58 _ (gd_get (d := []) ha56 hG)).1 rfl Try.underlying40 (.g rfl hG)) ?_
          refine W.g rfl rfl rfl rfl rfl (.t rfl _) rfl (by decide) (fun hG => Yd.fldB rfl Try.underlying25 rfl SZ3 rfl (.t rfl)) ?_
          refine W.g rfl rfl rfl rfl rfl (.t rfl _) rfl (by decide) (fun hG => Yd.ldB (pos := 0) rfl rfl rfl ON3 (.g rfl hG)) ?_
          refine W.g rfl rfl rfl rfl rfl (.t rfl _) rfl (by decide) (fun hG => Yd.neq rfl (.g rfl hG) (.g rfl hG)) ?_
          refine W.q rfl rfl rfl rfl (by decide) (Yd.or rfl (.t rfl) .c rfl rfl) ?_
          refine W.end ?_
          refine NX.sub (env' := [(1, _), (3, _), (78, _)]) ⟨rfl, rfl, rfl, trivial⟩ ?_
          refine NX.then ?_
          refine Tr.cond (.t rfl) (fun hb => ?_) (fun hb => ?_)
          · have hr := cond_t hb hr
            refine Tr.seq ?_
            refine Tr.region_f (fun _ => false) ?_
            refine W.q rfl rfl rfl rfl (by decide) (Yd.as rfl .c) ?_
            refine W.end ?_
            refine NX.sub (env' := [(2, _)]) ⟨rfl, trivial⟩ ?_
            refine NX.drop (l' := l) (.cons _ (.refl _)) ?_
            refine NX.then ?_
            refine Tr.ret' (RT.then (RT.block (RT.then (RT.then (RT.block (RT.then ?_))))))
            refine res1 rfl rfl ?_
            intro w hc
            cases hr
            exact ⟨rfl, hc⟩
          · have hr := cond_f hb hr
            refine Tr.skip' ?_
            refine NX.then ?_
            refine Tr.seq ?_
            obtain ⟨y60, hy61, hr⟩ := bind_some hr
            refine Tr.region_f (fun _ => false) ?_
            refine W.q rfl rfl rfl rfl (by decide) (Yd.fldB rfl Try.underlying25 rfl SZ22 rfl (.t rfl)) ?_
            refine W.q rfl rfl rfl rfl (by decide) (Yd.ldB (pos := 0) rfl rfl rfl ON22 (.t rfl)) ?_
            refine W.q rfl rfl rfl rfl (by decide) (Yd.mv rfl (.t rfl)) ?_
            refine W.q rfl rfl rfl rfl (by decide) (Yd.idxR hm_0_3 hy61 rfl Try.underlying22 SZ23 (.t rfl) (.t rfl)) ?_
            obtain ⟨u62, hu63, hat64⟩ := hm_0_3.row hy61
            refine W.q rfl rfl rfl rfl (by decide) (Yd.ldRow hat64 (.refl _) rfl ON23 (.t rfl)) ?_
            refine W.q rfl rfl rfl rfl (by decide) (Yd.lenR hu63 rfl Try.underlying23 (.t rfl)) ?_
            refine W.q rfl rfl rfl rfl (by decide) (Yd.mv rfl .c) ?_
            refine W.end ?_
            refine NX.sub (env' := [(1, _), (3, _), (83, _), (84, _), (85, _)]) ⟨rfl, rfl, rfl, rfl, rfl, trivial⟩ ?_
            refine NX.then ?_
            refine Tr.join (S := fun env x => env = [(1, bp b1 0), (3, .int .i64 s_47)] ∧ x = ⟨m, hcells b1 [.int .i64 m_0.n, .int .i64 m_0.users, .int .i64 m_0.acts, um_0_3, um_0_4] 25 :: l⟩ ∧ syllogistref_ViewCheck_k67 nx49 = some r) ?_ (fun hk68 => ?_)
            · rintro _ _ ⟨rfl, rfl, hr⟩
              unfold syllogistref_ViewCheck_k67 at hr
              try dsimp only at hr
              refine NX.block ?_
              refine NX.then ?_
              refine Tr.region_f (fun _ => false) ?_
              refine W.q rfl rfl rfl rfl (by decide) (Yd.mv rfl (.t rfl)) ?_
              refine W.q rfl rfl rfl rfl (by decide) (Yd.add rfl (.t rfl) .c) ?_
              refine W.q rfl rfl rfl rfl (by decide) (Yd.as rfl (.t rfl)) ?_
              refine W.end ?_
              refine NX.sub (env' := [(1, _), (3, _)]) ⟨rfl, rfl, trivial⟩ ?_
              refine NX.sub (env' := [(1, _), (3, _)]) ⟨rfl, rfl, trivial⟩ ?_
              have hw := w64_id (n := s_47 + 1) (by omega) (by omega)
              exact NX.again n50 (s_47 + 1, ()) (Nat.lt_succ_self _) ⟨(by rw [hw] <;> rfl), rfl, (fr_dec hns_47), (by omega), ((hnx49 _).symm.trans hr)⟩
            have hlen69 := (hu63).2.1
            refine Tr.block ?_
            refine Tr.sub (env' := [(1, _), (3, _), (83, _), (84, _), (85, _)]) ⟨rfl, rfl, rfl, rfl, rfl, trivial⟩ ?_
            refine Tr.loop (S := fun n (z : Int × Unit) env x => match z with | (t_70, _) => env = [(1, bp b1 0), (3, .int .i64 s_47), (83, u62), (84, .int .i64 ((y60.length : Int))), (85, .int .i64 t_70)] ∧ x = ⟨m, hcells b1 [.int .i64 m_0.n, .int .i64 m_0.users, .int .i64 m_0.acts, um_0_3, um_0_4] 25 :: l⟩ ∧ n = ((y60.length : Int) - t_70).toNat ∧ 0 ≤ t_70 ∧ forK (σ := Unit) (fun i s nx_ => syllogistref_ViewCheck_b71 m_0 y60 i nx_) (fun _ => syllogistref_ViewCheck_k67 nx49) n t_70 () = some r) _ ((0 : Int), ()) ⟨rfl, rfl, rfl, (by omega), hr⟩ ?_
            rintro n73 ⟨t_70, _⟩ env x ⟨rfl, rfl, hnt_70, h0t_70, hr⟩
            cases n73 with
            | zero =>
              simp only [forK] at hr
              refine Tr.seq ?_
              refine Tr.region_f (fun _ => false) ?_
              refine W.q rfl rfl rfl rfl (by decide) (Yd.lss rfl (.t rfl) (.t rfl)) ?_
              refine W.end ?_
              refine NX.sub (env' := [(1, _), (3, _), (83, _), (84, _), (85, _), (86, _)]) ⟨rfl, rfl, rfl, rfl, rfl, rfl, trivial⟩ ?_
              refine NX.then ?_
              refine Tr.seq ?_
              refine Tr.cond (.t rfl) (fun hb => ?_) (fun hb => ?_)
              · exact absurd (hb.symm.trans (fr_end hnt_70)) (by decide)
              ·
                refine Tr.exit' (EX.then (EX.then (EX.block ?_)))
                refine NX.sub (env' := [(1, _), (3, _)]) ⟨rfl, rfl, trivial⟩ ?_
                exact hk68 _ _ ⟨rfl, rfl, hr⟩
            | succ n73 =>
              obtain ⟨nx72, hnx72, hr⟩ := forK_succ hr
              try dsimp only at hr
              unfold syllogistref_ViewCheck_b71 at hr
              try dsimp only at hr
              have hltt_70 := fr_bnd hnt_70
              refine Tr.seq ?_
              refine Tr.region_f (fun _ => false) ?_
              refine W.q rfl rfl rfl rfl (by decide) (Yd.lss rfl (.t rfl) (.t rfl)) ?_
              refine W.end ?_
              refine NX.sub (env' := [(1, _), (3, _), (83, _), (84, _), (85, _), (86, _)]) ⟨rfl, rfl, rfl, rfl, rfl, rfl, trivial⟩ ?_
              refine NX.then ?_
              refine Tr.seq ?_
              refine Tr.cond (.t rfl) (fun hb => ?_) (fun hb => ?_)
              rotate_left
              · exact absurd (hb.symm.trans (fr_go hnt_70)) (by decide)
              ·
                refine Tr.skip' ?_
                refine NX.then ?_
                refine Tr.seq ?_
                refine Tr.block ?_
                refine Tr.seq ?_
                obtain ⟨y74, hy75, hr⟩ := bind_some hr
                refine Tr.region_f (fun _ => false) ?_
                refine W.q rfl rfl rfl rfl (by decide) (Yd.idxR hu63 hy75 rfl Try.underlying23 SZ40 (.t rfl) (.t rfl)) ?_
                obtain ⟨u76, hu77, hat78⟩ := hu63.row hy75
                refine W.q rfl rfl rfl rfl (by decide) (Yd.ldRow hat78 (.refl _) rfl ON40 (.t rfl)) ?_
                refine W.q rfl rfl rfl rfl (by decide) (Yd.as rfl (.t rfl)) ?_
                refine W.end ?_
                refine NX.sub (env' := [(1, _), (3, _), (83, _), (84, _), (85, _), (5, _)]) ⟨rfl, rfl, rfl, rfl, rfl, rfl, trivial⟩ ?_
                refine NX.then ?_
                refine Tr.seq ?_
                refine Tr.region_f (fun _ => false) ?_
                refine W.q rfl rfl rfl rfl (by decide) (Yd.mv rfl (.t rfl)) ?_
                refine W.q rfl rfl rfl rfl (by decide) (Yd.lenR hu77 rfl Try.underlying40 (.t rfl)) ?_
                refine W.q rfl rfl rfl rfl (by decide) (Yd.fldB rfl Try.underlying25 rfl SZ3 rfl (.t rfl)) ?_
                refine W.q rfl rfl rfl rfl (by decide) (Yd.ldB (pos := 0) rfl rfl rfl ON3 (.t rfl)) ?_
                refine W.q rfl rfl rfl rfl (by decide) (Yd.neq rfl (.t rfl) (.t rfl)) ?_
                refine W.end ?_
                refine NX.sub (env' := [(1, _), (3, _), (83, _), (84, _), (85, _), (93, _)]) ⟨rfl, rfl, rfl, rfl, rfl, rfl, trivial⟩ ?_
                refine NX.then ?_
                refine Tr.cond (.t rfl) (fun hb => ?_) (fun hb => ?_)
                · have hr := cond_t hb hr
                  refine Tr.seq ?_
                  refine Tr.region_f (fun _ => false) ?_
                  refine W.q rfl rfl rfl rfl (by decide) (Yd.as rfl .c) ?_
                  refine W.end ?_
                  refine NX.sub (env' := [(2, _)]) ⟨rfl, trivial⟩ ?_
                  refine NX.drop (l' := l) (.cons _ (.refl _)) ?_
                  refine NX.then ?_
                  refine Tr.ret' (RT.block (RT.then (RT.then (RT.block (RT.block (RT.then (RT.then (RT.block (RT.then ?_)))))))))
                  refine res1 rfl rfl ?_
                  intro w hc
                  cases hr
                  exact ⟨rfl, hc⟩
                · have hr := cond_f hb hr
                  refine Tr.skip' ?_
                  refine NX.block ?_
                  refine NX.then ?_
                  refine Tr.region_f (fun _ => false) ?_
                  refine W.q rfl rfl rfl rfl (by decide) (Yd.add rfl (.t rfl) .c) ?_
                  refine W.q rfl rfl rfl rfl (by decide) (Yd.mv rfl (.t rfl)) ?_
                  refine W.end ?_
                  refine NX.sub (env' := [(1, _), (3, _), (83, _), (84, _), (85, _)]) ⟨rfl, rfl, rfl, rfl, rfl, trivial⟩ ?_
                  refine NX.sub (env' := [(1, _), (3, _), (83, _), (84, _), (85, _)]) ⟨rfl, rfl, rfl, rfl, rfl, trivial⟩ ?_
                  have hw := w64_id (n := t_70 + 1) (by omega) (by omega)
                  exact NX.again n73 (t_70 + 1, ()) (Nat.lt_succ_self _) ⟨(by rw [hw] <;> rfl), rfl, (fr_dec hnt_70), (by omega), ((hnx72 _).symm.trans hr)⟩

def syllogistref_Fits (n_0 : Int) (s_1 : (BitVec 32)) : Option (Bool) :=
  some (((decide (n_0 ≥ (32 : Int))) || ((decide (n_0 ≥ (0 : Int))) && (decide (s_1 < (1#32 <<< ((BitVec.ofInt 64 n_0)).toNat))))))

set_option maxRecDepth 100000 in
set_option maxHeartbeats 4000000 in
theorem syllogistref_Fits_ok (w0 : World) (m : Snap) (l : List HI) (n_0 : Int) (s_1 : (BitVec 32)) (r : Bool) (hr : syllogistref_Fits n_0 s_1 = some r) (w : World) (hc : cX w0 ⟨m, l⟩ w) :
    Calls Try.prog 12 [.int .i64 n_0, .int .u32 (s_1.toNat : Int)].toArray w fun e w' => e = .returned (.bool r) ∧ cX w0 ⟨m, l⟩ w' := by
  unfold syllogistref_Fits at hr
  refine calls_of_Tr (N := 18) Try.func12 rfl hc rfl (Nat.le_of_ble_eq_true rfl) ?_
  refine Tr.seq ?_
  refine Tr.region_f (fun _ => false) ?_
  refine W.q rfl rfl rfl rfl (by decide) (Yd.as rfl .c) ?_
  refine W.end ?_
  refine NX.sub (env' := [(0, _), (1, _)]) ⟨rfl, rfl, trivial⟩ ?_
  refine NX.then ?_
  refine Tr.seq ?_
  refine Tr.region_f (fun _ => false) ?_
  refine W.q rfl rfl rfl rfl (by decide) (Yd.mv rfl (.t rfl)) ?_
  refine W.q rfl rfl rfl rfl (by decide) (Yd.geq rfl (.t rfl) .c) ?_
  refine W.q rfl rfl rfl rfl (by decide) (Yd.mv rfl (.t rfl)) ?_
  refine W.g rfl rfl rfl rfl rfl (.t rfl _) rfl (by decide) (fun hG => Yd.mv rfl (.t rfl)) ?_
  refine W.g rfl rfl rfl rfl rfl (.t rfl _) rfl (by decide) (fun hG => Yd.geq rfl (.g rfl hG) .c) ?_
  refine W.g rfl rfl rfl rfl rfl (.t rfl _) rfl (by decide) (fun hG => Yd.mv rfl (.g rfl hG)) ?_
  refine W.g rfl rfl rfl rfl rfl (.g rfl _) rfl (by decide) (fun hG => Yd.mv rfl (.t rfl)) ?_
  refine W.g rfl rfl rfl rfl rfl (.g rfl _) rfl (by decide) (fun hG => Yd.mv rfl (.t rfl)) ?_
  refine W.g rfl rfl rfl rfl rfl (.g rfl _) rfl (by decide) (fun hG => Yd.cvQ rfl US3 Try.underlying49 (.g rfl hG)) ?_
  refine W.g rfl rfl rfl rfl rfl (.g rfl _) rfl (by decide) (fun hG => Yd.shlU (a := 1#32) rfl .c (.g rfl hG) (Int.natCast_nonneg _)) ?_
  refine W.g rfl rfl rfl rfl rfl (.g rfl _) rfl (by decide) (fun hG => Yd.lssU (a := s_1) (b := (1#32 <<< ((BitVec.ofInt 64 n_0)).toNat)) rfl (.g rfl hG) (.g rfl hG)) ?_
  refine W.g rfl rfl rfl rfl rfl (.t rfl _) rfl (by decide) (fun hG => Yd.andG rfl (.g rfl hG) .c rfl rfl hG) ?_
  refine W.q rfl rfl rfl rfl (by decide) (Yd.or rfl (.t rfl) .c rfl rfl) ?_
  refine W.q rfl rfl rfl rfl (by decide) (Yd.as rfl (.t rfl)) ?_
  refine W.end ?_
  refine NX.sub (env' := [(4, _)]) ⟨rfl, trivial⟩ ?_
  refine NX.then ?_
  refine Tr.ret' ?_
  refine res1 rfl rfl ?_
  intro w hc
  cases hr
  exact ⟨rfl, hc⟩

def syllogistlaw_hiddenCode (m_0 : Machine) (hidden_1 : (BitVec 32)) : Option (Int) :=
  (syllogistref_ViewCheck (({ n := m_0.n, users := m_0.users, acts := m_0.acts, next := m_0.next, sees := m_0.sees } : Machine))).bind fun r3 =>
  bif (!((r3 == (0 : Int)) == true) || (syllogistref_Fits m_0.users hidden_1).isSome) then
  (bif ((r3 == (0 : Int)) && (!(((syllogistref_Fits m_0.users hidden_1).getD false)))) then
  some ((4 : Int))
  else
  some r3) else none

set_option maxRecDepth 100000 in
set_option maxHeartbeats 4000000 in
theorem syllogistlaw_hiddenCode_ok (w0 : World) (m : Snap) (l : List HI) (m_0 : Machine) (um_0_3 : Value) (hm_0_3 : RS (Rp.slice (Rp.slice rI)) m um_0_3 m_0.next) (um_0_4 : Value) (hm_0_4 : RS (Rp.slice rI) m um_0_4 m_0.sees) (hidden_1 : (BitVec 32)) (r : Int) (hr : syllogistlaw_hiddenCode m_0 hidden_1 = some r) (w : World) (hc : cX w0 ⟨m, l⟩ w) :
    Calls Try.prog 5 [.agg #[.int .i64 m_0.n, .int .i64 m_0.users, .int .i64 m_0.acts, um_0_3, um_0_4], .int .u32 (hidden_1.toNat : Int)].toArray w fun e w' => e = .returned (.int .i64 r) ∧ cX w0 ⟨m, l⟩ w' := by
  unfold syllogistlaw_hiddenCode at hr
  refine calls_of_Tr (N := 18) Try.func5 rfl hc rfl (Nat.le_of_ble_eq_true rfl) ?_
  refine Tr.seq ?_
  refine Tr.region_f (fun i => Nat.beq i 0) ?_
  refine W.e rfl rfl rfl rfl (by decide) (Ef.bx rfl (.t rfl) rfl) ?_
  rintro _ _ ⟨b1, rfl, rfl⟩
  refine ⟨.inl rfl, ?_⟩
  refine W.cast (m' := m) (l' := hcells b1 [_, _, _, _, _] 25 :: l) rfl rfl ?_
  refine W.q rfl rfl rfl rfl (by decide) (Yd.as rfl .c) ?_
  refine W.end ?_
  refine NX.sub (env' := [(1, _), (2, _)]) ⟨rfl, rfl, trivial⟩ ?_
  refine NX.then ?_
  refine Tr.seq ?_
  obtain ⟨r3, hr4, hr⟩ := bind_some hr
  refine Tr.region_f (fun _ => false) ?_
  refine W.q rfl rfl rfl rfl (by decide) (Yd.ldBs (pos := 0) (us := [_, _, _, _, _]) rfl rfl rfl rfl ON25 US25 SZ25 (.t rfl)) ?_
  refine W.q rfl rfl rfl rfl (by decide) (Yd.call (v := .int .i64 r3) rfl Try.func11 rfl rfl (.cons (.t rfl) .nil) (fun x' hx w hw => syllogistref_ViewCheck_ok w0 x'.m x'.l _ _ (hm_0_3.mono hx.1) _ (hm_0_4.mono hx.1) _ hr4 w hw)) ?_
  refine W.q rfl rfl rfl rfl (by decide) (Yd.as rfl (.t rfl)) ?_
  refine W.end ?_
  refine NX.sub (env' := [(1, _), (2, _), (5, _)]) ⟨rfl, rfl, rfl, trivial⟩ ?_
  refine NX.then ?_
  refine Tr.seq ?_
  refine Tr.seq ?_
  obtain ⟨ha5, hr⟩ := guard_some hr
  refine Tr.region_f (fun _ => false) ?_
  refine W.q rfl rfl rfl rfl (by decide) (Yd.mv rfl (.t rfl)) ?_
  refine W.q rfl rfl rfl rfl (by decide) (Yd.eql rfl (.t rfl) .c) ?_
  refine W.q rfl rfl rfl rfl (by decide) (Yd.mv rfl (.t rfl)) ?_
  refine W.g rfl rfl rfl rfl rfl (.t rfl _) rfl (by decide) (fun hG => Yd.fldB rfl Try.underlying25 rfl SZ3 rfl (.t rfl)) ?_
  refine W.g rfl rfl rfl rfl rfl (.t rfl _) rfl (by decide) (fun hG => Yd.ldB (pos := 0) rfl rfl rfl ON3 (.g rfl hG)) ?_
  refine W.g rfl rfl rfl rfl rfl (.t rfl _) rfl (by decide) (fun hG => Yd.mv rfl (.t rfl)) ?_
  refine W.g rfl rfl rfl rfl rfl (.t rfl _) rfl (by decide) (fun hG => Yd.call (v := .bool ((((syllogistref_Fits m_0.users hidden_1).getD false)))) rfl Try.func12 rfl rfl (.cons (.g rfl hG) (.cons (.g rfl hG) .nil)) (fun x' hx w hw => syllogistref_Fits_ok w0 x'.m x'.l m_0.users hidden_1 _ (gd_get (d := false) ha5 hG) w hw)) ?_
  refine W.g rfl rfl rfl rfl rfl (.t rfl _) rfl (by decide) (fun hG => Yd.not rfl (.g rfl hG)) ?_
  refine W.q rfl rfl rfl rfl (by decide) (Yd.and rfl (.t rfl) .c rfl rfl) ?_
  refine W.end ?_
  refine NX.sub (env' := [(5, _), (16, _)]) ⟨rfl, rfl, trivial⟩ ?_
  refine NX.drop (l' := l) (.cons _ (.refl _)) ?_
  refine NX.then ?_
  refine Tr.cond (.t rfl) (fun hb => ?_) (fun hb => ?_)
  · have hr := cond_t hb hr
    refine Tr.region_f (fun _ => false) ?_
    refine W.q rfl rfl rfl rfl (by decide) (Yd.as rfl .c) ?_
    refine W.end ?_
    refine NX.sub (env' := [(5, _)]) ⟨rfl, trivial⟩ ?_
    refine NX.then ?_
    refine Tr.seq ?_
    refine Tr.region_f (fun _ => false) ?_
    refine W.q rfl rfl rfl rfl (by decide) (Yd.mv rfl (.t rfl)) ?_
    refine W.q rfl rfl rfl rfl (by decide) (Yd.as rfl (.t rfl)) ?_
    refine W.end ?_
    refine NX.sub (env' := [(4, _)]) ⟨rfl, trivial⟩ ?_
    refine NX.then ?_
    refine Tr.ret' ?_
    refine res1 rfl rfl ?_
    intro w hc
    cases hr
    exact ⟨rfl, hc⟩
  · have hr := cond_f hb hr
    refine Tr.skip' ?_
    refine NX.then ?_
    refine Tr.seq ?_
    refine Tr.region_f (fun _ => false) ?_
    refine W.q rfl rfl rfl rfl (by decide) (Yd.mv rfl (.t rfl)) ?_
    refine W.q rfl rfl rfl rfl (by decide) (Yd.as rfl (.t rfl)) ?_
    refine W.end ?_
    refine NX.sub (env' := [(4, _)]) ⟨rfl, trivial⟩ ?_
    refine NX.then ?_
    refine Tr.ret' ?_
    refine res1 rfl rfl ?_
    intro w hc
    cases hr
    exact ⟨rfl, hc⟩

def syllogistref_Bit (w_0 : (BitVec 32)) (i_1 : Int) : Option (Bool) :=
  some ((((decide (i_1 ≥ (0 : Int))) && (decide (i_1 < (32 : Int)))) && ((w_0 &&& (1#32 <<< ((BitVec.ofInt 64 i_1)).toNat)) != 0#32)))

set_option maxRecDepth 100000 in
set_option maxHeartbeats 4000000 in
theorem syllogistref_Bit_ok (w0 : World) (m : Snap) (l : List HI) (w_0 : (BitVec 32)) (i_1 : Int) (r : Bool) (hr : syllogistref_Bit w_0 i_1 = some r) (w : World) (hc : cX w0 ⟨m, l⟩ w) :
    Calls Try.prog 17 [.int .u32 (w_0.toNat : Int), .int .i64 i_1].toArray w fun e w' => e = .returned (.bool r) ∧ cX w0 ⟨m, l⟩ w' := by
  unfold syllogistref_Bit at hr
  refine calls_of_Tr (N := 19) Try.func17 rfl hc rfl (Nat.le_of_ble_eq_true rfl) ?_
  refine Tr.seq ?_
  refine Tr.region_f (fun _ => false) ?_
  refine W.q rfl rfl rfl rfl (by decide) (Yd.as rfl .c) ?_
  refine W.end ?_
  refine NX.sub (env' := [(0, _), (1, _)]) ⟨rfl, rfl, trivial⟩ ?_
  refine NX.then ?_
  refine Tr.seq ?_
  refine Tr.region_f (fun _ => false) ?_
  refine W.q rfl rfl rfl rfl (by decide) (Yd.mv rfl (.t rfl)) ?_
  refine W.q rfl rfl rfl rfl (by decide) (Yd.geq rfl (.t rfl) .c) ?_
  refine W.q rfl rfl rfl rfl (by decide) (Yd.mv rfl (.t rfl)) ?_
  refine W.g rfl rfl rfl rfl rfl (.t rfl _) rfl (by decide) (fun hG => Yd.mv rfl (.t rfl)) ?_
  refine W.g rfl rfl rfl rfl rfl (.t rfl _) rfl (by decide) (fun hG => Yd.lss rfl (.g rfl hG) .c) ?_
  refine W.q rfl rfl rfl rfl (by decide) (Yd.and rfl (.t rfl) .c rfl rfl) ?_
  refine W.q rfl rfl rfl rfl (by decide) (Yd.mv rfl (.t rfl)) ?_
  refine W.g rfl rfl rfl rfl rfl (.t rfl _) rfl (by decide) (fun hG => Yd.mv rfl (.t rfl)) ?_
  refine W.g rfl rfl rfl rfl rfl (.t rfl _) rfl (by decide) (fun hG => Yd.mv rfl (.t rfl)) ?_
  refine W.g rfl rfl rfl rfl rfl (.t rfl _) rfl (by decide) (fun hG => Yd.cvQ rfl US3 Try.underlying49 (.g rfl hG)) ?_
  refine W.g rfl rfl rfl rfl rfl (.t rfl _) rfl (by decide) (fun hG => Yd.shlU (a := 1#32) rfl .c (.g rfl hG) (Int.natCast_nonneg _)) ?_
  refine W.g rfl rfl rfl rfl rfl (.t rfl _) rfl (by decide) (fun hG => Yd.andU (a := w_0) (b := (1#32 <<< ((BitVec.ofInt 64 i_1)).toNat)) rfl (.g rfl hG) (.g rfl hG)) ?_
  refine W.g rfl rfl rfl rfl rfl (.t rfl _) rfl (by decide) (fun hG => Yd.neqU (a := (w_0 &&& (1#32 <<< ((BitVec.ofInt 64 i_1)).toNat))) (b := 0#32) rfl (.g rfl hG) .c) ?_
  refine W.q rfl rfl rfl rfl (by decide) (Yd.and rfl (.t rfl) .c rfl rfl) ?_
  refine W.q rfl rfl rfl rfl (by decide) (Yd.as rfl (.t rfl)) ?_
  refine W.end ?_
  refine NX.sub (env' := [(4, _)]) ⟨rfl, trivial⟩ ?_
  refine NX.then ?_
  refine Tr.ret' ?_
  refine res1 rfl rfl ?_
  intro w hc
  cases hr
  exact ⟨rfl, hc⟩
end Go.Proofs.Ytbbenieabpmghaa.Sy
