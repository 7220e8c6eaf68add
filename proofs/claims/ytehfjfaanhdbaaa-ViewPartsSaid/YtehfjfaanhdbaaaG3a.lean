/- Functions of the program as plain functions, and that the translation computes them; the conditions stand in each theorem. Printed by an own program. -/
import Derived.Test.YtehfjfaanhdbaaaSyU
import Derived.Test.YtehfjfaanhdbaaaT
import Derived.Test.YtehfjfaanhdbaaaProg
namespace Go.Proofs.Ytehfjfaanhdbaaa.Sy
open Go
set_option linter.unusedVariables false
theorem SZ3 : (Try.prog.info? 3).map (·.size) = some 1 := by kernel_rfl
theorem ON3 : one Try.prog 3 = true := by kernel_rfl
theorem SZ84 : (Try.prog.info? 84).map (·.size) = some 1 := by kernel_rfl
theorem ON84 : one Try.prog 84 = true := by kernel_rfl
theorem SZ66 : (Try.prog.info? 66).map (·.size) = some 1 := by kernel_rfl
theorem ON66 : one Try.prog 66 = true := by kernel_rfl
theorem SZ67 : (Try.prog.info? 67).map (·.size) = some 1 := by kernel_rfl
theorem ON67 : one Try.prog 67 = true := by kernel_rfl
theorem IN84 : (Try.prog.info? 84).isSome = true := by kernel_rfl
theorem IF84 : (Try.prog.info? 84).map (fun i => (i.zero, i.size, i.bytes)) = some (some (.slice none 0 0), 1, 24) := by kernel_rfl
theorem IN3 : (Try.prog.info? 3).isSome = true := by kernel_rfl
theorem IF3 : (Try.prog.info? 3).map (fun i => (i.zero, i.size, i.bytes)) = some (some (.int .i64 0), 1, 8) := by kernel_rfl
theorem ON69 : one Try.prog 69 = false := by kernel_rfl
theorem US69 : (Try.prog.underlying 69).isSome = true := by kernel_rfl
theorem SZ69 : (Try.prog.info? 69).map (·.size) = some 5 := by kernel_rfl
theorem US3 : (Try.prog.underlying 3).isSome = true := by kernel_rfl
theorem IF89 : (Try.prog.info? 89).map (fun i => (i.zero, i.size, i.bytes)) = some (some (.slice none 0 0), 1, 24) := by kernel_rfl
theorem IF4 : (Try.prog.info? 4).map (fun i => (i.zero, i.size, i.bytes)) = some (some (.bool false), 1, 1) := by kernel_rfl
theorem SZ89 : (Try.prog.info? 89).map (·.size) = some 1 := by kernel_rfl
theorem ON89 : one Try.prog 89 = true := by kernel_rfl
theorem SZ4 : (Try.prog.info? 4).map (·.size) = some 1 := by kernel_rfl
theorem ON4 : one Try.prog 4 = true := by kernel_rfl
theorem FM : Try.prog.follows .mixedOrders = true := by kernel_rfl

def view_shaped_c1 (l_0 : List Int) (cp_0 : Machine) : Option (Bool) :=
  some (((l_0.length : Int) != cp_0.acts))

set_option maxRecDepth 100000 in
set_option maxHeartbeats 4000000 in
theorem view_shaped_c1_ok (w0 : World) (m : Snap) (l : List HI) (ul_0 : Value) (l_0 : List Int) (hl_0 : RS rI m ul_0 l_0) (fp0 fb0 : Nat) (cp_0 : Machine) (uc0_3 : Value) (hc0_3 : RS (Rp.slice (Rp.slice rI)) m uc0_3 cp_0.next) (uc0_4 : Value) (hc0_4 : RS (Rp.slice rI) m uc0_4 cp_0.sees) (hfp0 : l[fp0]? = some (hcells fb0 [.int .i64 cp_0.n, .int .i64 cp_0.users, .int .i64 cp_0.acts, uc0_3, uc0_4] 69)) (r : Bool) (hr : view_shaped_c1 l_0 cp_0 = some r) (w : World) (hc : cX w0 ⟨m, l⟩ w) :
    Calls Try.prog 79 [ul_0, bp fb0 0].toArray w fun e w' => e = .returned (.bool r) ∧ cX w0 ⟨m, l⟩ w' := by
  unfold view_shaped_c1 at hr
  refine calls_of_Tr (N := 9) Try.func79 rfl hc rfl (Nat.le_of_ble_eq_true rfl) ?_
  refine Tr.seq ?_
  refine Tr.region_f (fun _ => false) ?_
  refine W.q rfl rfl rfl rfl (by decide) (Yd.as rfl .c) ?_
  refine W.end ?_
  refine NX.sub (env' := [(0, _), (1, _)]) ⟨rfl, rfl, trivial⟩ ?_
  refine NX.then ?_
  refine Tr.seq ?_
  refine Tr.region_f (fun _ => false) ?_
  refine W.q rfl rfl rfl rfl (by decide) (Yd.mv rfl (.t rfl)) ?_
  refine W.q rfl rfl rfl rfl (by decide) (Yd.lenR hl_0 rfl Try.underlying84 (.t rfl)) ?_
  refine W.q rfl rfl rfl rfl (by decide) (Yd.fldB rfl Try.underlying69 rfl SZ3 rfl (.t rfl)) ?_
  refine W.q rfl rfl rfl rfl (by decide) (Yd.ldB (pos := fp0) hfp0 rfl rfl ON3 (.t rfl)) ?_
  refine W.q rfl rfl rfl rfl (by decide) (Yd.neq rfl (.t rfl) (.t rfl)) ?_
  refine W.q rfl rfl rfl rfl (by decide) (Yd.as rfl (.t rfl)) ?_
  refine W.end ?_
  refine NX.sub (env' := [(3, _)]) ⟨rfl, trivial⟩ ?_
  refine NX.then ?_
  refine Tr.ret' ?_
  refine res1 rfl rfl ?_
  intro w hc
  cases hr
  exact ⟨rfl, hc⟩

def slices_IndexFunc_SSintSint_k3 : Option (Int) :=
  some ((-1 : Int))

def slices_IndexFunc_SSintSint_b7 (s_0 : List (List Int)) (f_1 : List Int → Option Bool) (t_6 : Int) (nx8 : Unit → Option (Int)) : Option (Int) :=
  (geti s_0 t_6).bind fun y10 =>
  (f_1 y10).bind fun r15 =>
  (bif r15 then
  some t_6
  else
  nx8 ())

def slices_IndexFunc_SSintSint (s_0 : List (List Int)) (f_1 : List Int → Option Bool) : Option (Int) :=
  forK (σ := Unit) (fun i s nx_ => slices_IndexFunc_SSintSint_b7 s_0 f_1 i nx_) (fun _ => slices_IndexFunc_SSintSint_k3) ((s_0.length : Int) - (0 : Int)).toNat (0 : Int) ()

set_option maxRecDepth 100000 in
set_option maxHeartbeats 4000000 in
theorem slices_IndexFunc_SSintSint_ok (w0 : World) (m : Snap) (l : List HI) (us_0 : Value) (s_0 : List (List Int)) (hs_0 : RS (Rp.slice rI) m us_0 s_0) (uf_1 : Value) (f_1 : List Int → Option Bool) (hf_1 : Fq Try.prog w0 ⟨m, l⟩ uf_1 (α := List Int) (β := Bool) (fun m v a => RS rI m v a) (fun b => .bool b) f_1) (r : Int) (hr : slices_IndexFunc_SSintSint s_0 f_1 = some r) (w : World) (hc : cX w0 ⟨m, l⟩ w) :
    Calls Try.prog 85 [us_0, uf_1].toArray w fun e w' => e = .returned (.int .i64 r) ∧ cX w0 ⟨m, l⟩ w' := by
  unfold slices_IndexFunc_SSintSint at hr
  refine calls_of_Tr (N := 19) Try.func85 rfl hc rfl (Nat.le_of_ble_eq_true rfl) ?_
  refine Tr.seq ?_
  refine Tr.region_f (fun _ => false) ?_
  refine W.q rfl rfl rfl rfl (by decide) (Yd.as rfl .c) ?_
  refine W.end ?_
  refine NX.sub (env' := [(0, _), (1, _)]) ⟨rfl, rfl, trivial⟩ ?_
  refine NX.then ?_
  refine Tr.seq ?_
  refine Tr.seq ?_
  refine Tr.region_f (fun _ => false) ?_
  refine W.q rfl rfl rfl rfl (by decide) (Yd.mv rfl (.t rfl)) ?_
  refine W.q rfl rfl rfl rfl (by decide) (Yd.lenR hs_0 rfl Try.underlying67 (.t rfl)) ?_
  refine W.q rfl rfl rfl rfl (by decide) (Yd.mv rfl .c) ?_
  refine W.end ?_
  refine NX.sub (env' := [(0, _), (1, _), (7, _), (8, _)]) ⟨rfl, rfl, rfl, rfl, trivial⟩ ?_
  refine NX.then ?_
  refine Tr.join (S := fun env x => env = [] ∧ x = ⟨m, l⟩ ∧ slices_IndexFunc_SSintSint_k3 = some r) ?_ (fun hk4 => ?_)
  · rintro _ _ ⟨rfl, rfl, hr⟩
    unfold slices_IndexFunc_SSintSint_k3 at hr
    try dsimp only at hr
    refine NX.then ?_
    refine Tr.seq ?_
    refine Tr.region_f (fun _ => false) ?_
    refine W.q rfl rfl rfl rfl (by decide) (Yd.as rfl .c) ?_
    refine W.end ?_
    refine NX.sub (env' := [(4, _)]) ⟨rfl, trivial⟩ ?_
    refine NX.then ?_
    refine Tr.ret' ?_
    refine res1 rfl rfl ?_
    intro w hc
    cases hr
    exact ⟨rfl, hc⟩
  have hlen5 := (hs_0).2.1
  refine Tr.block ?_
  refine Tr.sub (env' := [(0, _), (1, _), (7, _), (8, _)]) ⟨rfl, rfl, rfl, rfl, trivial⟩ ?_
  refine Tr.loop (S := fun n (z : Int × Unit) env x => match z with | (t_6, _) => env = [(0, us_0), (1, uf_1), (7, .int .i64 ((s_0.length : Int))), (8, .int .i64 t_6)] ∧ x = ⟨m, l⟩ ∧ n = ((s_0.length : Int) - t_6).toNat ∧ 0 ≤ t_6 ∧ forK (σ := Unit) (fun i s nx_ => slices_IndexFunc_SSintSint_b7 s_0 f_1 i nx_) (fun _ => slices_IndexFunc_SSintSint_k3) n t_6 () = some r) _ ((0 : Int), ()) ⟨rfl, rfl, rfl, (by omega), hr⟩ ?_
  rintro n9 ⟨t_6, _⟩ env x ⟨rfl, rfl, hnt_6, h0t_6, hr⟩
  cases n9 with
  | zero =>
    simp only [forK] at hr
    refine Tr.seq ?_
    refine Tr.region_f (fun _ => false) ?_
    refine W.q rfl rfl rfl rfl (by decide) (Yd.lss rfl (.t rfl) (.t rfl)) ?_
    refine W.end ?_
    refine NX.sub (env' := [(0, _), (1, _), (7, _), (8, _), (9, _)]) ⟨rfl, rfl, rfl, rfl, rfl, trivial⟩ ?_
    refine NX.then ?_
    refine Tr.seq ?_
    refine Tr.cond (.t rfl) (fun hb => ?_) (fun hb => ?_)
    · exact absurd (hb.symm.trans (fr_end hnt_6)) (by decide)
    ·
      refine Tr.exit' (EX.then (EX.then (EX.block ?_)))
      refine NX.sub (env' := []) trivial ?_
      exact hk4 _ _ ⟨rfl, rfl, hr⟩
  | succ n9 =>
    obtain ⟨nx8, hnx8, hr⟩ := forK_succ hr
    try dsimp only at hr
    unfold slices_IndexFunc_SSintSint_b7 at hr
    try dsimp only at hr
    have hltt_6 := fr_bnd hnt_6
    refine Tr.seq ?_
    refine Tr.region_f (fun _ => false) ?_
    refine W.q rfl rfl rfl rfl (by decide) (Yd.lss rfl (.t rfl) (.t rfl)) ?_
    refine W.end ?_
    refine NX.sub (env' := [(0, _), (1, _), (7, _), (8, _), (9, _)]) ⟨rfl, rfl, rfl, rfl, rfl, trivial⟩ ?_
    refine NX.then ?_
    refine Tr.seq ?_
    refine Tr.cond (.t rfl) (fun hb => ?_) (fun hb => ?_)
    rotate_left
    · exact absurd (hb.symm.trans (fr_go hnt_6)) (by decide)
    ·
      refine Tr.skip' ?_
      refine NX.then ?_
      refine Tr.seq ?_
      refine Tr.block ?_
      refine Tr.seq ?_
      refine Tr.region_f (fun _ => false) ?_
      refine W.q rfl rfl rfl rfl (by decide) (Yd.mv rfl (.t rfl)) ?_
      refine W.q rfl rfl rfl rfl (by decide) (Yd.as rfl (.t rfl)) ?_
      refine W.end ?_
      refine NX.sub (env' := [(0, _), (1, _), (7, _), (8, _), (5, _)]) ⟨rfl, rfl, rfl, rfl, rfl, trivial⟩ ?_
      refine NX.then ?_
      refine Tr.seq ?_
      obtain ⟨y10, hy11, hr⟩ := bind_some hr
      obtain ⟨r15, hr16, hr⟩ := bind_some hr
      refine Tr.region_f (fun _ => false) ?_
      refine W.q rfl rfl rfl rfl (by decide) (Yd.mv rfl (.t rfl)) ?_
      refine W.q rfl rfl rfl rfl (by decide) (Yd.mv rfl (.t rfl)) ?_
      refine W.q rfl rfl rfl rfl (by decide) (Yd.mv rfl (.t rfl)) ?_
      refine W.q rfl rfl rfl rfl (by decide) (Yd.idxR hs_0 hy11 rfl Try.underlying67 SZ84 (.t rfl) (.t rfl)) ?_
      obtain ⟨u12, hu13, hat14⟩ := hs_0.row hy11
      refine W.q rfl rfl rfl rfl (by decide) (Yd.ldRow hat14 (.refl _) rfl ON84 (.t rfl)) ?_
      refine W.q rfl rfl rfl rfl (by decide) (Yd.callF hf_1 ⟨(.refl _), [], rfl⟩ rfl (.t rfl) (.t rfl) (fun _ hm => hu13.mono hm) hr16) ?_
      refine W.end ?_
      refine NX.sub (env' := [(0, _), (1, _), (7, _), (8, _), (5, _), (16, _)]) ⟨rfl, rfl, rfl, rfl, rfl, rfl, trivial⟩ ?_
      refine NX.then ?_
      refine Tr.cond (.t rfl) (fun hb => ?_) (fun hb => ?_)
      · have hr := cond_t hb hr
        refine Tr.seq ?_
        refine Tr.region_f (fun _ => false) ?_
        refine W.q rfl rfl rfl rfl (by decide) (Yd.mv rfl (.t rfl)) ?_
        refine W.q rfl rfl rfl rfl (by decide) (Yd.as rfl (.t rfl)) ?_
        refine W.end ?_
        refine NX.sub (env' := [(4, _)]) ⟨rfl, trivial⟩ ?_
        refine NX.then ?_
        refine Tr.ret' (RT.block (RT.then (RT.then (RT.block (RT.then ?_)))))
        refine res1 rfl rfl ?_
        intro w hc
        cases hr
        exact ⟨rfl, hc⟩
      · have hr := cond_f hb hr
        refine Tr.skip' ?_
        refine NX.block ?_
        refine NX.then ?_
        refine Tr.region_f (fun _ => false) ?_
        refine W.q rfl rfl rfl rfl (by decide) (Yd.add rfl (.t rfl) .c) ?_
        refine W.q rfl rfl rfl rfl (by decide) (Yd.mv rfl (.t rfl)) ?_
        refine W.end ?_
        refine NX.sub (env' := [(0, _), (1, _), (7, _), (8, _)]) ⟨rfl, rfl, rfl, rfl, trivial⟩ ?_
        refine NX.sub (env' := [(0, _), (1, _), (7, _), (8, _)]) ⟨rfl, rfl, rfl, rfl, trivial⟩ ?_
        have hw := w64_id (n := t_6 + 1) (by omega) (by omega)
        exact NX.again n9 (t_6 + 1, ()) (Nat.lt_succ_self _) ⟨(by rw [hw] <;> rfl), rfl, (fr_dec hnt_6), (by omega), ((hnx8 _).symm.trans hr)⟩

def slices_ContainsFunc_SSintSint (s_0 : List (List Int)) (f_1 : List Int → Option Bool) : Option (Bool) :=
  (slices_IndexFunc_SSintSint s_0 f_1).bind fun r1 =>
  some ((decide (r1 ≥ (0 : Int))))

set_option maxRecDepth 100000 in
set_option maxHeartbeats 4000000 in
theorem slices_ContainsFunc_SSintSint_ok (w0 : World) (m : Snap) (l : List HI) (us_0 : Value) (s_0 : List (List Int)) (hs_0 : RS (Rp.slice rI) m us_0 s_0) (uf_1 : Value) (f_1 : List Int → Option Bool) (hf_1 : Fq Try.prog w0 ⟨m, l⟩ uf_1 (α := List Int) (β := Bool) (fun m v a => RS rI m v a) (fun b => .bool b) f_1) (r : Bool) (hr : slices_ContainsFunc_SSintSint s_0 f_1 = some r) (w : World) (hc : cX w0 ⟨m, l⟩ w) :
    Calls Try.prog 78 [us_0, uf_1].toArray w fun e w' => e = .returned (.bool r) ∧ cX w0 ⟨m, l⟩ w' := by
  unfold slices_ContainsFunc_SSintSint at hr
  refine calls_of_Tr (N := 9) Try.func78 rfl hc rfl (Nat.le_of_ble_eq_true rfl) ?_
  refine Tr.seq ?_
  refine Tr.region_f (fun _ => false) ?_
  refine W.q rfl rfl rfl rfl (by decide) (Yd.as rfl .c) ?_
  refine W.end ?_
  refine NX.sub (env' := [(0, _), (1, _)]) ⟨rfl, rfl, trivial⟩ ?_
  refine NX.then ?_
  refine Tr.seq ?_
  obtain ⟨r1, hr2, hr⟩ := bind_some hr
  refine Tr.region_f (fun _ => false) ?_
  refine W.q rfl rfl rfl rfl (by decide) (Yd.mv rfl (.t rfl)) ?_
  refine W.q rfl rfl rfl rfl (by decide) (Yd.mv rfl (.t rfl)) ?_
  refine W.q rfl rfl rfl rfl (by decide) (Yd.call (v := .int .i64 r1) rfl Try.func85 rfl rfl (.cons (.t rfl) (.cons (.t rfl) .nil)) (fun x' hx w hw => slices_IndexFunc_SSintSint_ok w0 x'.m x'.l _ _ (hs_0.mono hx.1) _ f_1 (hf_1.mono (leX_trans _ _ _ ⟨(.refl _), [], rfl⟩ hx)) _ hr2 w hw)) ?_
  refine W.q rfl rfl rfl rfl (by decide) (Yd.geq rfl (.t rfl) .c) ?_
  refine W.q rfl rfl rfl rfl (by decide) (Yd.as rfl (.t rfl)) ?_
  refine W.end ?_
  refine NX.sub (env' := [(4, _)]) ⟨rfl, trivial⟩ ?_
  refine NX.then ?_
  refine Tr.ret' ?_
  refine res1 rfl rfl ?_
  intro w hc
  cases hr
  exact ⟨rfl, hc⟩

def view_shaped_k5 : Option (Bool) :=
  some true

def view_shaped_b9 (m_0 : Machine) (t_8 : Int) (nx10 : Unit → Option (Bool)) : Option (Bool) :=
  (geti m_0.next t_8).bind fun y12 =>
  bif (!(((y12.length : Int) != m_0.users) == false) || (geti m_0.sees t_8).isSome) then
  bif (!((((y12.length : Int) != m_0.users) || (((((geti m_0.sees t_8).getD [])).length : Int) != m_0.users)) == false) || (slices_ContainsFunc_SSintSint y12 (fun a => view_shaped_c1 a (({ n := m_0.n, users := m_0.users, acts := m_0.acts, next := m_0.next, sees := m_0.sees } : Machine)))).isSome) then
  (bif ((((y12.length : Int) != m_0.users) || (((((geti m_0.sees t_8).getD [])).length : Int) != m_0.users)) || (((slices_ContainsFunc_SSintSint y12 (fun a => view_shaped_c1 a (({ n := m_0.n, users := m_0.users, acts := m_0.acts, next := m_0.next, sees := m_0.sees } : Machine)))).getD false))) then
  some false
  else
  nx10 ()) else none else none

def view_shaped (m_0 : Machine) : Option (Bool) :=
  (bif (((m_0.next.length : Int) != m_0.n) || ((m_0.sees.length : Int) != m_0.n)) then
  some false
  else
  bif decide (m_0.n ≤ 9223372036854775807) then
  forK (σ := Unit) (fun i s nx_ => view_shaped_b9 m_0 i nx_) (fun _ => view_shaped_k5) (m_0.n - (0 : Int)).toNat (0 : Int) () else none)

set_option maxRecDepth 100000 in
set_option maxHeartbeats 4000000 in
theorem view_shaped_ok (w0 : World) (m : Snap) (l : List HI) (m_0 : Machine) (um_0_3 : Value) (hm_0_3 : RS (Rp.slice (Rp.slice rI)) m um_0_3 m_0.next) (um_0_4 : Value) (hm_0_4 : RS (Rp.slice rI) m um_0_4 m_0.sees) (r : Bool) (hr : view_shaped m_0 = some r) (w : World) (hc : cX w0 ⟨m, l⟩ w) :
    Calls Try.prog 56 [.agg #[.int .i64 m_0.n, .int .i64 m_0.users, .int .i64 m_0.acts, um_0_3, um_0_4]].toArray w fun e w' => e = .returned (.bool r) ∧ cX w0 ⟨m, l⟩ w' := by
  unfold view_shaped at hr
  refine calls_of_Tr (N := 53) Try.func56 rfl hc rfl (Nat.le_of_ble_eq_true rfl) ?_
  refine Tr.seq ?_
  refine Tr.region_f (fun i => Nat.beq i 0) ?_
  refine W.e rfl rfl rfl rfl (by decide) (Ef.bx rfl (.t rfl) rfl) ?_
  rintro _ _ ⟨b1, rfl, rfl⟩
  refine ⟨.inl rfl, ?_⟩
  refine W.cast (m' := m) (l' := hcells b1 [_, _, _, _, _] 69 :: l) rfl rfl ?_
  refine W.q rfl rfl rfl rfl (by decide) (Yd.as rfl .c) ?_
  refine W.end ?_
  refine NX.sub (env' := [(1, _)]) ⟨rfl, trivial⟩ ?_
  refine NX.then ?_
  refine Tr.seq ?_
  refine Tr.seq ?_
  refine Tr.region_f (fun _ => false) ?_
  refine W.q rfl rfl rfl rfl (by decide) (Yd.fldB rfl Try.underlying69 rfl SZ66 rfl (.t rfl)) ?_
  refine W.q rfl rfl rfl rfl (by decide) (Yd.ldB (pos := 0) rfl rfl rfl ON66 (.t rfl)) ?_
  refine W.q rfl rfl rfl rfl (by decide) (Yd.lenR hm_0_3 rfl Try.underlying66 (.t rfl)) ?_
  refine W.q rfl rfl rfl rfl (by decide) (Yd.fldB rfl Try.underlying69 rfl SZ3 rfl (.t rfl)) ?_
  refine W.q rfl rfl rfl rfl (by decide) (Yd.ldB (pos := 0) rfl rfl rfl ON3 (.t rfl)) ?_
  refine W.q rfl rfl rfl rfl (by decide) (Yd.neq rfl (.t rfl) (.t rfl)) ?_
  refine W.q rfl rfl rfl rfl (by decide) (Yd.mv rfl (.t rfl)) ?_
  refine W.g rfl rfl rfl rfl rfl (.t rfl _) rfl (by decide) (fun hG => Yd.fldB rfl Try.underlying69 rfl SZ67 rfl (.t rfl)) ?_
  refine W.g rfl rfl rfl rfl rfl (.t rfl _) rfl (by decide) (fun hG => Yd.ldB (pos := 0) rfl rfl rfl ON67 (.g rfl hG)) ?_
  refine W.g rfl rfl rfl rfl rfl (.t rfl _) rfl (by decide) (fun hG => Yd.lenR hm_0_4 rfl Try.underlying67 (.g rfl hG)) ?_
  refine W.g rfl rfl rfl rfl rfl (.t rfl _) rfl (by decide) (fun hG => Yd.fldB rfl Try.underlying69 rfl SZ3 rfl (.t rfl)) ?_
  refine W.g rfl rfl rfl rfl rfl (.t rfl _) rfl (by decide) (fun hG => Yd.ldB (pos := 0) rfl rfl rfl ON3 (.g rfl hG)) ?_
  refine W.g rfl rfl rfl rfl rfl (.t rfl _) rfl (by decide) (fun hG => Yd.neq rfl (.g rfl hG) (.g rfl hG)) ?_
  refine W.q rfl rfl rfl rfl (by decide) (Yd.or rfl (.t rfl) .c rfl rfl) ?_
  refine W.end ?_
  refine NX.sub (env' := [(1, _), (17, _)]) ⟨rfl, rfl, trivial⟩ ?_
  refine NX.then ?_
  refine Tr.cond (.t rfl) (fun hb => ?_) (fun hb => ?_)
  · have hr := cond_t hb hr
    refine Tr.seq ?_
    refine Tr.region_f (fun _ => false) ?_
    refine W.q rfl rfl rfl rfl (by decide) (Yd.as rfl .c) ?_
    refine W.end ?_
    refine NX.sub (env' := [(2, _)]) ⟨rfl, trivial⟩ ?_
    refine NX.drop (l' := l) (.cons _ (.refl _)) ?_
    refine NX.then ?_
    refine Tr.ret' (RT.then ?_)
    refine res1 rfl rfl ?_
    intro w hc
    cases hr
    exact ⟨rfl, hc⟩
  · have hr := cond_f hb hr
    refine Tr.skip' ?_
    refine NX.then ?_
    refine Tr.seq ?_
    refine Tr.seq ?_
    refine Tr.region_f (fun _ => false) ?_
    refine W.q rfl rfl rfl rfl (by decide) (Yd.fldB rfl Try.underlying69 rfl SZ3 rfl (.t rfl)) ?_
    refine W.q rfl rfl rfl rfl (by decide) (Yd.ldB (pos := 0) rfl rfl rfl ON3 (.t rfl)) ?_
    refine W.q rfl rfl rfl rfl (by decide) (Yd.mv rfl .c) ?_
    refine W.end ?_
    refine NX.sub (env' := [(1, _), (19, _), (20, _)]) ⟨rfl, rfl, rfl, trivial⟩ ?_
    refine NX.then ?_
    refine Tr.join (S := fun env x => env = [] ∧ x = ⟨m, l⟩ ∧ view_shaped_k5 = some r) ?_ (fun hk6 => ?_)
    · rintro _ _ ⟨rfl, rfl, hr⟩
      unfold view_shaped_k5 at hr
      try dsimp only at hr
      refine NX.then ?_
      refine Tr.seq ?_
      refine Tr.region_f (fun _ => false) ?_
      refine W.q rfl rfl rfl rfl (by decide) (Yd.as rfl .c) ?_
      refine W.end ?_
      refine NX.sub (env' := [(2, _)]) ⟨rfl, trivial⟩ ?_
      refine NX.then ?_
      refine Tr.ret' ?_
      refine res1 rfl rfl ?_
      intro w hc
      cases hr
      exact ⟨rfl, hc⟩
    obtain ⟨hle7, hr⟩ := guard_some hr; replace hle7 := of_decide_eq_true hle7
    refine Tr.block ?_
    refine Tr.sub (env' := [(1, _), (19, _), (20, _)]) ⟨rfl, rfl, rfl, trivial⟩ ?_
    refine Tr.loop (S := fun n (z : Int × Unit) env x => match z with | (t_8, _) => env = [(1, bp b1 0), (19, .int .i64 m_0.n), (20, .int .i64 t_8)] ∧ x = ⟨m, hcells b1 [.int .i64 m_0.n, .int .i64 m_0.users, .int .i64 m_0.acts, um_0_3, um_0_4] 69 :: l⟩ ∧ n = (m_0.n - t_8).toNat ∧ 0 ≤ t_8 ∧ forK (σ := Unit) (fun i s nx_ => view_shaped_b9 m_0 i nx_) (fun _ => view_shaped_k5) n t_8 () = some r) _ ((0 : Int), ()) ⟨rfl, rfl, rfl, (by omega), hr⟩ ?_
    rintro n11 ⟨t_8, _⟩ env x ⟨rfl, rfl, hnt_8, h0t_8, hr⟩
    cases n11 with
    | zero =>
      simp only [forK] at hr
      refine Tr.seq ?_
      refine Tr.region_f (fun _ => false) ?_
      refine W.q rfl rfl rfl rfl (by decide) (Yd.lss rfl (.t rfl) (.t rfl)) ?_
      refine W.end ?_
      refine NX.sub (env' := [(1, _), (19, _), (20, _), (21, _)]) ⟨rfl, rfl, rfl, rfl, trivial⟩ ?_
      refine NX.then ?_
      refine Tr.seq ?_
      refine Tr.cond (.t rfl) (fun hb => ?_) (fun hb => ?_)
      · exact absurd (hb.symm.trans (fr_end hnt_8)) (by decide)
      ·
        refine Tr.exit' (EX.then (EX.then (EX.block ?_)))
        refine NX.sub (env' := []) trivial ?_
        refine NX.drop (l' := l) (.cons _ (.refl _)) ?_
        exact hk6 _ _ ⟨rfl, rfl, hr⟩
    | succ n11 =>
      obtain ⟨nx10, hnx10, hr⟩ := forK_succ hr
      try dsimp only at hr
      unfold view_shaped_b9 at hr
      try dsimp only at hr
      have hltt_8 := fr_bnd hnt_8
      refine Tr.seq ?_
      refine Tr.region_f (fun _ => false) ?_
      refine W.q rfl rfl rfl rfl (by decide) (Yd.lss rfl (.t rfl) (.t rfl)) ?_
      refine W.end ?_
      refine NX.sub (env' := [(1, _), (19, _), (20, _), (21, _)]) ⟨rfl, rfl, rfl, rfl, trivial⟩ ?_
      refine NX.then ?_
      refine Tr.seq ?_
      refine Tr.cond (.t rfl) (fun hb => ?_) (fun hb => ?_)
      rotate_left
      · exact absurd (hb.symm.trans (fr_go hnt_8)) (by decide)
      ·
        refine Tr.skip' ?_
        refine NX.then ?_
        refine Tr.seq ?_
        refine Tr.block ?_
        refine Tr.seq ?_
        refine Tr.region_f (fun _ => false) ?_
        refine W.q rfl rfl rfl rfl (by decide) (Yd.mv rfl (.t rfl)) ?_
        refine W.q rfl rfl rfl rfl (by decide) (Yd.as rfl (.t rfl)) ?_
        refine W.end ?_
        refine NX.sub (env' := [(1, _), (19, _), (20, _), (3, _)]) ⟨rfl, rfl, rfl, rfl, trivial⟩ ?_
        refine NX.then ?_
        refine Tr.seq ?_
        obtain ⟨y12, hy13, hr⟩ := bind_some hr
        obtain ⟨ha17, hr⟩ := guard_some hr
        obtain ⟨ha21, hr⟩ := guard_some hr
        refine Tr.region_x (fun _ => false) (fun _ => false) (Ord.of [0, 1, 2, 3, 4, 5, 6, 7, 8, 9, 10, 11, 12, 13, 14, 15, 16, 17, 18, 19, 20, 21, 22, 23, 24, 25, 26, 27, 28]) FM (by kernel_rfl) ?_
        refine W.q rfl rfl rfl rfl (by decide) (Yd.fldB rfl Try.underlying69 rfl SZ66 rfl (.t rfl)) ?_
        refine W.q rfl rfl rfl rfl (by decide) (Yd.ldB (pos := 0) rfl rfl rfl ON66 (.t rfl)) ?_
        refine W.q rfl rfl rfl rfl (by decide) (Yd.mv rfl (.t rfl)) ?_
        refine W.q rfl rfl rfl rfl (by decide) (Yd.idxR hm_0_3 hy13 rfl Try.underlying66 SZ67 (.t rfl) (.t rfl)) ?_
        obtain ⟨u14, hu15, hat16⟩ := hm_0_3.row hy13
        refine W.q rfl rfl rfl rfl (by decide) (Yd.ldRow hat16 (.refl _) rfl ON67 (.t rfl)) ?_
        refine W.q rfl rfl rfl rfl (by decide) (Yd.lenR hu15 rfl Try.underlying67 (.t rfl)) ?_
        refine W.q rfl rfl rfl rfl (by decide) (Yd.fldB rfl Try.underlying69 rfl SZ3 rfl (.t rfl)) ?_
        refine W.q rfl rfl rfl rfl (by decide) (Yd.ldB (pos := 0) rfl rfl rfl ON3 (.t rfl)) ?_
        refine W.q rfl rfl rfl rfl (by decide) (Yd.neq rfl (.t rfl) (.t rfl)) ?_
        refine W.q rfl rfl rfl rfl (by decide) (Yd.mv rfl (.t rfl)) ?_
        refine W.g rfl rfl rfl rfl rfl (.t rfl _) rfl (by decide) (fun hG => Yd.fldB rfl Try.underlying69 rfl SZ67 rfl (.t rfl)) ?_
        refine W.g rfl rfl rfl rfl rfl (.t rfl _) rfl (by decide) (fun hG => Yd.ldB (pos := 0) rfl rfl rfl ON67 (.g rfl hG)) ?_
        refine W.g rfl rfl rfl rfl rfl (.t rfl _) rfl (by decide) (fun hG => Yd.mv rfl (.t rfl)) ?_
        refine W.g rfl rfl rfl rfl rfl (.t rfl _) rfl (by decide) (fun hG => Yd.idxR hm_0_4 (gd_get (d := []) ha17 hG) rfl Try.underlying67 SZ84 (.g rfl hG) (.g rfl hG)) ?_
        obtain ⟨u18, hu19⟩ := RS.rowD hm_0_4 (i := t_8)
        refine W.g rfl rfl rfl rfl rfl (.t rfl _) rfl (by decide) (fun hG => Yd.ldRow (hu19 _ (gd_get (d := []) ha17 hG)).2 (.refl _) rfl ON84 (.g rfl hG)) ?_
        refine W.g rfl rfl rfl rfl rfl (.t rfl _) rfl (by decide) (fun hG => Yd.lenR (hu19 _ (gd_get (d := []) ha17 hG)).1 rfl Try.underlying84 (.g rfl hG)) ?_
        refine W.g rfl rfl rfl rfl rfl (.t rfl _) rfl (by decide) (fun hG => Yd.fldB rfl Try.underlying69 rfl SZ3 rfl (.t rfl)) ?_
        refine W.g rfl rfl rfl rfl rfl (.t rfl _) rfl (by decide) (fun hG => Yd.ldB (pos := 0) rfl rfl rfl ON3 (.g rfl hG)) ?_
        refine W.g rfl rfl rfl rfl rfl (.t rfl _) rfl (by decide) (fun hG => Yd.neq rfl (.g rfl hG) (.g rfl hG)) ?_
        refine W.q rfl rfl rfl rfl (by decide) (Yd.or rfl (.t rfl) .c rfl rfl) ?_
        refine W.q rfl rfl rfl rfl (by decide) (Yd.mv rfl (.t rfl)) ?_
        refine W.g rfl rfl rfl rfl rfl (.t rfl _) rfl (by decide) (fun hG => Yd.fldB rfl Try.underlying69 rfl SZ66 rfl (.t rfl)) ?_
        refine W.g rfl rfl rfl rfl rfl (.t rfl _) rfl (by decide) (fun hG => Yd.ldB (pos := 0) rfl rfl rfl ON66 (.g rfl hG)) ?_
        refine W.g rfl rfl rfl rfl rfl (.t rfl _) rfl (by decide) (fun hG => Yd.mv rfl (.t rfl)) ?_
        refine W.g rfl rfl rfl rfl rfl (.t rfl _) rfl (by decide) (fun hG => Yd.idxR hm_0_3 hy13 rfl Try.underlying66 SZ67 (.g rfl hG) (.g rfl hG)) ?_
        refine W.g rfl rfl rfl rfl rfl (.t rfl _) rfl (by decide) (fun hG => Yd.ldRow hat16 (.refl _) rfl ON67 (.g rfl hG)) ?_
        refine W.g rfl rfl rfl rfl rfl (.t rfl _) rfl (by decide) (fun hG => Yd.mkf rfl (.cons (.t rfl) .nil)) ?_
        refine W.g rfl rfl rfl rfl rfl (.t rfl _) rfl (by decide) (fun hG => Yd.call (v := .bool ((((slices_ContainsFunc_SSintSint y12 (fun a => view_shaped_c1 a (({ n := m_0.n, users := m_0.users, acts := m_0.acts, next := m_0.next, sees := m_0.sees } : Machine)))).getD false)))) rfl Try.func78 rfl rfl (.cons (.g rfl hG) (.cons (.g rfl hG) .nil)) (fun x' hx w hw => slices_ContainsFunc_SSintSint_ok w0 x'.m x'.l _ _ (hu15.mono hx.1) _ (fun a => view_shaped_c1 a (({ n := m_0.n, users := m_0.users, acts := m_0.acts, next := m_0.next, sees := m_0.sees } : Machine))) ⟨79, _, _, rfl, Try.func79, rfl, rfl, fun y hy w2 hw2 v a r2 hv hr2 => by obtain ⟨p5, hp5⟩ := (leX_trans _ _ _ hx hy).at (p := 0) rfl; exact view_shaped_c1_ok w0 y.m y.l v a hv p5 _ _ _ (hm_0_3.mono (hx.1.trans hy.1)) _ (hm_0_4.mono (hx.1.trans hy.1)) hp5 r2 hr2 w2 hw2⟩ _ (gd_get (d := false) ha21 hG) w hw)) ?_
        refine W.q rfl rfl rfl rfl (by decide) (Yd.or rfl (.t rfl) .c rfl rfl) ?_
        refine W.end ?_
        refine NX.sub (env' := [(1, _), (19, _), (20, _), (51, _)]) ⟨rfl, rfl, rfl, rfl, trivial⟩ ?_
        refine NX.then ?_
        refine Tr.cond (.t rfl) (fun hb => ?_) (fun hb => ?_)
        · have hr := cond_t hb hr
          refine Tr.seq ?_
          refine Tr.region_f (fun _ => false) ?_
          refine W.q rfl rfl rfl rfl (by decide) (Yd.as rfl .c) ?_
          refine W.end ?_
          refine NX.sub (env' := [(2, _)]) ⟨rfl, trivial⟩ ?_
          refine NX.drop (l' := l) (.cons _ (.refl _)) ?_
          refine NX.then ?_
          refine Tr.ret' (RT.block (RT.then (RT.then (RT.block (RT.then ?_)))))
          refine res1 rfl rfl ?_
          intro w hc
          cases hr
          exact ⟨rfl, hc⟩
        · have hr := cond_f hb hr
          refine Tr.skip' ?_
          refine NX.block ?_
          refine NX.then ?_
          refine Tr.region_f (fun _ => false) ?_
          refine W.q rfl rfl rfl rfl (by decide) (Yd.add rfl (.t rfl) .c) ?_
          refine W.q rfl rfl rfl rfl (by decide) (Yd.mv rfl (.t rfl)) ?_
          refine W.end ?_
          refine NX.sub (env' := [(1, _), (19, _), (20, _)]) ⟨rfl, rfl, rfl, trivial⟩ ?_
          refine NX.sub (env' := [(1, _), (19, _), (20, _)]) ⟨rfl, rfl, rfl, trivial⟩ ?_
          have hw := w64_id (n := t_8 + 1) (by omega) (by omega)
          exact NX.again n11 (t_8 + 1, ()) (Nat.lt_succ_self _) ⟨(by rw [hw] <;> rfl), rfl, (fr_dec hnt_8), (by omega), ((hnx10 _).symm.trans hr)⟩

def slices_Grow_SSintSint_fnil (n_1 : Int) : Option (Unit) :=
  (bif (decide (n_1 < (0 : Int))) then
  none
  else
  (bif (decide ((w64 (n_1 - (w64 ((0 : Int) - ((([] : List (List Int))).length : Int))))) > (0 : Int))) then
  bif decide (0 < (w64 (n_1 - (w64 ((0 : Int) - ((([] : List (List Int))).length : Int))))) ∧ (w64 (n_1 - (w64 ((0 : Int) - ((([] : List (List Int))).length : Int))))) ≤ 140737488355328 ∧ ((w64 (n_1 - (w64 ((0 : Int) - ((([] : List (List Int))).length : Int)))))).toNat * 24 ≤ 140737488355328) then
  some (()) else none
  else
  some (())))

set_option maxRecDepth 100000 in
set_option maxHeartbeats 4000000 in
theorem slices_Grow_SSintSint_fnil_ok (w0 : World) (m : Snap) (l : List HI) (n_1 : Int) (r : Unit) (hr : slices_Grow_SSintSint_fnil n_1 = some r) (w : World) (hc : cX w0 ⟨m, l⟩ w) :
    Calls Try.prog 82 [.slice none 0 0, .int .i64 n_1].toArray w fun e w' => ∃ z0 : Value, e = .returned (z0) ∧ cX w0 ⟨m, hown 84 1 z0 0 [] :: l⟩ w' := by
  unfold slices_Grow_SSintSint_fnil at hr
  refine calls_of_Tr (N := 27) Try.func82 rfl hc rfl (Nat.le_of_ble_eq_true rfl) ?_
  refine Tr.addnil 84 1 ?_
  refine Tr.seq ?_
  refine Tr.region_f (fun _ => false) ?_
  refine W.q rfl rfl rfl rfl (by decide) (Yd.as rfl .c) ?_
  refine W.end ?_
  refine NX.sub (env' := [(0, _), (1, _)]) ⟨rfl, rfl, trivial⟩ ?_
  refine NX.then ?_
  refine Tr.seq ?_
  refine Tr.seq ?_
  refine Tr.region_f (fun _ => false) ?_
  refine W.q rfl rfl rfl rfl (by decide) (Yd.mv rfl (.t rfl)) ?_
  refine W.q rfl rfl rfl rfl (by decide) (Yd.lss rfl (.t rfl) .c) ?_
  refine W.end ?_
  refine NX.sub (env' := [(0, _), (1, _), (6, _)]) ⟨rfl, rfl, rfl, trivial⟩ ?_
  refine NX.then ?_
  refine Tr.cond (.t rfl) (fun hb => ?_) (fun hb => ?_)
  · have hr := cond_t hb hr
    cases hr
  · have hr := cond_f hb hr
    refine Tr.skip' ?_
    refine NX.then ?_
    refine Tr.seq ?_
    refine Tr.seq ?_
    refine Tr.region_f (fun _ => false) ?_
    refine W.q rfl rfl rfl rfl (by decide) (Yd.mv rfl (.t rfl)) ?_
    refine W.q rfl rfl rfl rfl (by decide) (Yd.mv rfl (.t rfl)) ?_
    refine W.q rfl rfl rfl rfl (by decide) (Yd.cap rfl Try.underlying67 (.t rfl)) ?_
    refine W.q rfl rfl rfl rfl (by decide) (Yd.mv rfl (.t rfl)) ?_
    refine W.q rfl rfl rfl rfl (by decide) (Yd.lenO (p := 0) rfl rfl Try.underlying67 (.t rfl)) ?_
    refine W.q rfl rfl rfl rfl (by decide) (Yd.sub rfl (.t rfl) (.t rfl)) ?_
    refine W.q rfl rfl rfl rfl (by decide) (Yd.sub rfl (.t rfl) (.t rfl)) ?_
    refine W.q rfl rfl rfl rfl (by decide) (Yd.as rfl (.t rfl)) ?_
    refine W.end ?_
    refine NX.sub (env' := [(0, _), (1, _)]) ⟨rfl, rfl, trivial⟩ ?_
    refine NX.then ?_
    refine Tr.seq ?_
    refine Tr.region_f (fun _ => false) ?_
    refine W.q rfl rfl rfl rfl (by decide) (Yd.mv rfl (.t rfl)) ?_
    refine W.q rfl rfl rfl rfl (by decide) (Yd.gtr rfl (.t rfl) .c) ?_
    refine W.end ?_
    refine NX.sub (env' := [(0, _), (1, _), (16, _)]) ⟨rfl, rfl, rfl, trivial⟩ ?_
    refine NX.then ?_
    refine Tr.cond (.t rfl) (fun hb => ?_) (fun hb => ?_)
    · have hr := cond_t hb hr
      obtain ⟨hq4, hr⟩ := guard_some hr; replace hq4 := of_decide_eq_true hq4
      refine Tr.region_f (fun i => Nat.beq i 5) ?_
      refine W.q rfl rfl rfl rfl (by decide) (Yd.mv rfl (.t rfl)) ?_
      refine W.q rfl rfl rfl rfl (by decide) (Yd.mv rfl (.t rfl)) ?_
      refine W.q rfl rfl rfl rfl (by decide) (Yd.cap rfl Try.underlying67 (.t rfl)) ?_
      refine W.q rfl rfl rfl rfl (by decide) (Yd.slTo (pos := 0) rfl rfl Try.underlying67 (Option.some_get IN84).symm (.t rfl) (.t rfl) (by decide) (Int.natCast_nonneg _)) ?_
      refine W.q rfl rfl rfl rfl (by decide) (Yd.mv rfl (.t rfl)) ?_
      refine W.e rfl rfl rfl rfl (by decide) (Ef.apMk (pos := 0) IF84 rfl rfl Try.underlying67 Try.underlying3 rfl (by decide) (.t rfl) (.t rfl) hq4) ?_
      rintro v2 _ ⟨cs3, rfl⟩
      refine ⟨.inl rfl, ?_⟩
      refine W.cast (m' := m) (l' := hown 84 1 v2 (((w64 (n_1 - (w64 ((0 : Int) - ((([] : List (List Int))).length : Int)))))).toNat) cs3 :: l) rfl rfl ?_
      refine W.q rfl rfl rfl rfl (by decide) (Yd.mv rfl (.t rfl)) ?_
      refine W.q rfl rfl rfl rfl (by decide) (Yd.len rfl Try.underlying67 (.t rfl)) ?_
      refine W.q rfl rfl rfl rfl (by decide) (Yd.slTo (pos := 0) rfl rfl Try.underlying67 (Option.some_get IN84).symm (.t rfl) (.t rfl) (by decide) (Int.natCast_nonneg _)) ?_
      refine W.q rfl rfl rfl rfl (by decide) (Yd.as rfl (.t rfl)) ?_
      refine W.end ?_
      refine NX.imp (fun w hw => cX_sl0 (p := 0) rfl hw) ?_
      refine NX.cast (m' := m) (l' := hown 84 1 (slTo v2 0) (([] : List (List Int))).length ([] : List Value) :: l) rfl rfl ?_
      refine NX.sub (env' := [(0, _)]) ⟨rfl, trivial⟩ ?_
      refine NX.then ?_
      refine Tr.seq ?_
      refine Tr.region_f (fun _ => false) ?_
      refine W.q rfl rfl rfl rfl (by decide) (Yd.mv rfl (.t rfl)) ?_
      refine W.q rfl rfl rfl rfl (by decide) (Yd.as rfl (.t rfl)) ?_
      refine W.end ?_
      refine NX.sub (env' := [(4, _)]) ⟨rfl, trivial⟩ ?_
      refine NX.then ?_
      refine Tr.ret' ?_
      refine res1 rfl rfl ?_
      intro w hc
      cases hr
      exact ⟨_, rfl, hc⟩
    · have hr := cond_f hb hr
      refine Tr.skip' ?_
      refine NX.then ?_
      refine Tr.seq ?_
      refine Tr.region_f (fun _ => false) ?_
      refine W.q rfl rfl rfl rfl (by decide) (Yd.mv rfl (.t rfl)) ?_
      refine W.q rfl rfl rfl rfl (by decide) (Yd.as rfl (.t rfl)) ?_
      refine W.end ?_
      refine NX.sub (env' := [(4, _)]) ⟨rfl, trivial⟩ ?_
      refine NX.then ?_
      refine Tr.ret' ?_
      refine res1 rfl rfl ?_
      intro w hc
      cases hr
      exact ⟨_, rfl, hc⟩

def slices_Concat_SSintSint_k26 (l22 : List (List Int)) : Option ((List (List Int))) :=
  some l22

def slices_Concat_SSintSint_b32 (slices_0 : List (List (List Int))) (t_31 : Int) (l18 : List (List Int)) (nx33 : (List (List Int)) → Option ((List (List Int)))) : Option ((List (List Int))) :=
  (geti slices_0 t_31).bind fun y35 =>
  bif decide (l18.length + y35.length ≤ 5864062014805) then
  nx33 (l18 ++ y35) else none

def slices_Concat_SSintSint_k6 (slices_0 : List (List (List Int))) (size_5 : Int) : Option ((List (List Int))) :=
  (slices_Grow_SSintSint_fnil size_5).bind fun r8 =>
  forK (σ := (List (List Int))) (fun i s nx_ => slices_Concat_SSintSint_b32 slices_0 i s nx_) (fun s => slices_Concat_SSintSint_k26 s) ((slices_0.length : Int) - (0 : Int)).toNat (0 : Int) (([] : List (List Int)))

def slices_Concat_SSintSint_b47 (slices_0 : List (List (List Int))) (t_46 : Int) (size_3 : Int) (nx48 : Int → Option ((List (List Int)))) : Option ((List (List Int))) :=
  (geti slices_0 t_46).bind fun y50 =>
  (bif (decide ((w64 (size_3 + (y50.length : Int))) < (0 : Int))) then
  none
  else
  nx48 (w64 (size_3 + (y50.length : Int))))

def slices_Concat_SSintSint (slices_0 : List (List (List Int))) : Option ((List (List Int))) :=
  forK (σ := Int) (fun i s nx_ => slices_Concat_SSintSint_b47 slices_0 i s nx_) (fun s => slices_Concat_SSintSint_k6 slices_0 s) ((slices_0.length : Int) - (0 : Int)).toNat (0 : Int) ((0 : Int))

set_option maxRecDepth 100000 in
set_option maxHeartbeats 4000000 in
theorem slices_Concat_SSintSint_ok (w0 : World) (m : Snap) (l : List HI) (uslices_0 : Value) (slices_0 : List (List (List Int))) (hslices_0 : RS (Rp.slice (Rp.slice rI)) m uslices_0 slices_0) (r : (List (List Int))) (hr : slices_Concat_SSintSint slices_0 = some r) (w : World) (hc : cX w0 ⟨m, l⟩ w) :
    Calls Try.prog 59 [uslices_0].toArray w fun e w' => ∃ z0 : Value, ∃ m1 : Snap, e = .returned (z0) ∧ Sle m m1 ∧ RS (Rp.slice rI) m1 z0 r ∧ cX w0 ⟨m1, l⟩ w' := by
  unfold slices_Concat_SSintSint at hr
  refine calls_of_Tr (N := 36) Try.func59 rfl hc rfl (Nat.le_of_ble_eq_true rfl) ?_
  refine Tr.seq ?_
  refine Tr.region_f (fun _ => false) ?_
  refine W.q rfl rfl rfl rfl (by decide) (Yd.as rfl .c) ?_
  refine W.end ?_
  refine NX.sub (env' := [(0, _)]) ⟨rfl, trivial⟩ ?_
  refine NX.then ?_
  refine Tr.seq ?_
  refine Tr.region_f (fun _ => false) ?_
  refine W.q rfl rfl rfl rfl (by decide) (Yd.as rfl .c) ?_
  refine W.end ?_
  refine NX.sub (env' := [(0, _), (3, _)]) ⟨rfl, rfl, trivial⟩ ?_
  refine NX.then ?_
  refine Tr.seq ?_
  refine Tr.seq ?_
  refine Tr.region_f (fun _ => false) ?_
  refine W.q rfl rfl rfl rfl (by decide) (Yd.mv rfl (.t rfl)) ?_
  refine W.q rfl rfl rfl rfl (by decide) (Yd.lenR hslices_0 rfl Try.underlying66 (.t rfl)) ?_
  refine W.q rfl rfl rfl rfl (by decide) (Yd.mv rfl .c) ?_
  refine W.end ?_
  refine NX.sub (env' := [(0, _), (3, _), (9, _), (10, _), (11, _)]) ⟨rfl, rfl, rfl, rfl, rfl, trivial⟩ ?_
  refine NX.then ?_
  refine Tr.join (S := fun env x => ∃ size_5 : Int, env = [(0, uslices_0), (3, .int .i64 size_5)] ∧ x = ⟨m, l⟩ ∧ slices_Concat_SSintSint_k6 slices_0 size_5 = some r) ?_ (fun hk7 => ?_)
  · rintro _ _ ⟨size_5, rfl, rfl, hr⟩
    unfold slices_Concat_SSintSint_k6 at hr
    try dsimp only at hr
    refine NX.then ?_
    refine Tr.seq ?_
    obtain ⟨r8, hr9, hr⟩ := bind_some hr
    refine Tr.region_f (fun i => Nat.beq i 1) ?_
    refine W.q rfl rfl rfl rfl (by decide) (Yd.mv rfl (.t rfl)) ?_
    refine W.e rfl rfl rfl rfl (by decide) (Ef.call (R := fun z x' => ∃ v10 : Value, z = v10 ∧ x' = ⟨m, hown 84 1 v10 (([] : List (List Int))).length ([] : List Value) :: l⟩) rfl Try.func82 rfl rfl (.cons .c (.cons (.t rfl) .nil)) (fun w hw => (slices_Grow_SSintSint_fnil_ok w0 _ _ size_5 _ hr9 w hw).mono fun e w' ⟨v10, he, hc'⟩ => ⟨_, _, he, ⟨v10, rfl, rfl⟩, hc'⟩)) ?_
    rintro v10 _ ⟨_, rfl, rfl⟩
    refine ⟨.inl rfl, ?_⟩
    refine W.cast (m' := m) (l' := hown 84 1 v10 _ _ :: l) rfl rfl ?_
    refine W.q rfl rfl rfl rfl (by decide) (Yd.as rfl (.t rfl)) ?_
    refine W.end ?_
    refine NX.sub (env' := [(0, _), (6, _)]) ⟨rfl, rfl, trivial⟩ ?_
    refine NX.then ?_
    refine Tr.seq ?_
    refine Tr.seq ?_
    refine Tr.region_f (fun _ => false) ?_
    refine W.q rfl rfl rfl rfl (by decide) (Yd.mv rfl (.t rfl)) ?_
    refine W.q rfl rfl rfl rfl (by decide) (Yd.lenR hslices_0 rfl Try.underlying66 (.t rfl)) ?_
    refine W.q rfl rfl rfl rfl (by decide) (Yd.mv rfl .c) ?_
    refine W.end ?_
    refine NX.sub (env' := [(6, _), (25, _), (26, _), (27, _)]) ⟨rfl, rfl, rfl, rfl, trivial⟩ ?_
    refine NX.then ?_
    refine Tr.join (S := fun env x => ∃ l22 : List (List Int), ∃ v23 : Value, ∃ us24 : List Value, Rows rI m us24 l22 ∧ env = [(6, v23)] ∧ x = ⟨m, hown 84 1 v23 l22.length us24 :: l⟩ ∧ slices_Concat_SSintSint_k26 l22 = some r) ?_ (fun hk27 => ?_)
    · rintro _ _ ⟨l22, v23, us24, hw25, rfl, rfl, hr⟩
      unfold slices_Concat_SSintSint_k26 at hr
      try dsimp only at hr
      refine NX.then ?_
      refine Tr.seq ?_
      refine Tr.region_f (fun _ => false) ?_
      refine W.q rfl rfl rfl rfl (by decide) (Yd.mv rfl (.t rfl)) ?_
      refine W.q rfl rfl rfl rfl (by decide) (Yd.as rfl (.t rfl)) ?_
      refine W.end ?_
      refine NX.sub (env' := [(2, _)]) ⟨rfl, trivial⟩ ?_
      refine NX.then ?_
      refine Tr.ret' ?_
      refine res1 rfl rfl ?_
      intro w hc
      cases hr
      obtain ⟨m28, hsm28, hu29, hc⟩ := cX_freezeR (p := 0) hc hw25 rfl
      have hslices_0 := hslices_0.mono hsm28
      have hw25 := hw25.mono hsm28
      exact ⟨_, _, rfl, hsm28, hu29, hc⟩
    have hlen30 := (hslices_0).2.1
    refine Tr.block ?_
    refine Tr.sub (env' := [(6, _), (25, _), (26, _), (27, _)]) ⟨rfl, rfl, rfl, rfl, trivial⟩ ?_
    refine Tr.loop (S := fun n (z : Int × (List (List Int))) env x => match z with | (t_31, l18) => ∃ v19 : Value, ∃ us20 : List Value, Rows rI m us20 l18 ∧ env = [(6, v19), (25, uslices_0), (26, .int .i64 ((slices_0.length : Int))), (27, .int .i64 t_31)] ∧ x = ⟨m, hown 84 1 v19 l18.length us20 :: l⟩ ∧ n = ((slices_0.length : Int) - t_31).toNat ∧ 0 ≤ t_31 ∧ forK (σ := (List (List Int))) (fun i s nx_ => slices_Concat_SSintSint_b32 slices_0 i s nx_) (fun s => slices_Concat_SSintSint_k26 s) n t_31 l18 = some r) _ ((0 : Int), ([] : List (List Int))) ⟨_, _, (Rows.nil _ _), rfl, rfl, rfl, (by omega), hr⟩ ?_
    rintro n34 ⟨t_31, l18⟩ env x ⟨v19, us20, hw21, rfl, rfl, hnt_31, h0t_31, hr⟩
    cases n34 with
    | zero =>
      simp only [forK] at hr
      refine Tr.seq ?_
      refine Tr.region_f (fun _ => false) ?_
      refine W.q rfl rfl rfl rfl (by decide) (Yd.lss rfl (.t rfl) (.t rfl)) ?_
      refine W.end ?_
      refine NX.sub (env' := [(6, _), (25, _), (26, _), (27, _), (28, _)]) ⟨rfl, rfl, rfl, rfl, rfl, trivial⟩ ?_
      refine NX.then ?_
      refine Tr.seq ?_
      refine Tr.cond (.t rfl) (fun hb => ?_) (fun hb => ?_)
      · exact absurd (hb.symm.trans (fr_end hnt_31)) (by decide)
      ·
        refine Tr.exit' (EX.then (EX.then (EX.block ?_)))
        refine NX.sub (env' := [(6, _)]) ⟨rfl, trivial⟩ ?_
        exact hk27 _ _ ⟨_, _, _, hw21, rfl, rfl, hr⟩
    | succ n34 =>
      obtain ⟨nx33, hnx33, hr⟩ := forK_succ hr
      try dsimp only at hr
      unfold slices_Concat_SSintSint_b32 at hr
      try dsimp only at hr
      have hltt_31 := fr_bnd hnt_31
      refine Tr.seq ?_
      refine Tr.region_f (fun _ => false) ?_
      refine W.q rfl rfl rfl rfl (by decide) (Yd.lss rfl (.t rfl) (.t rfl)) ?_
      refine W.end ?_
      refine NX.sub (env' := [(6, _), (25, _), (26, _), (27, _), (28, _)]) ⟨rfl, rfl, rfl, rfl, rfl, trivial⟩ ?_
      refine NX.then ?_
      refine Tr.seq ?_
      refine Tr.cond (.t rfl) (fun hb => ?_) (fun hb => ?_)
      rotate_left
      · exact absurd (hb.symm.trans (fr_go hnt_31)) (by decide)
      ·
        refine Tr.skip' ?_
        refine NX.then ?_
        refine Tr.seq ?_
        refine Tr.block ?_
        refine Tr.seq ?_
        obtain ⟨y35, hy36, hr⟩ := bind_some hr
        refine Tr.region_f (fun _ => false) ?_
        refine W.q rfl rfl rfl rfl (by decide) (Yd.idxR hslices_0 hy36 rfl Try.underlying66 SZ67 (.t rfl) (.t rfl)) ?_
        obtain ⟨u37, hu38, hat39⟩ := hslices_0.row hy36
        refine W.q rfl rfl rfl rfl (by decide) (Yd.ldRow hat39 (.refl _) rfl ON67 (.t rfl)) ?_
        refine W.q rfl rfl rfl rfl (by decide) (Yd.as rfl (.t rfl)) ?_
        refine W.end ?_
        refine NX.sub (env' := [(6, _), (25, _), (26, _), (27, _), (8, _)]) ⟨rfl, rfl, rfl, rfl, rfl, trivial⟩ ?_
        refine NX.then ?_
        obtain ⟨hq44, hr⟩ := guard_some hr; replace hq44 := of_decide_eq_true hq44
        refine Tr.region_f (fun i => Nat.beq i 2) ?_
        refine W.q rfl rfl rfl rfl (by decide) (Yd.mv rfl (.t rfl)) ?_
        refine W.q rfl rfl rfl rfl (by decide) (Yd.mv rfl (.t rfl)) ?_
        obtain ⟨us41, hw42, hsr43⟩ := RS.rowsOf hu38
        refine W.e rfl rfl rfl rfl (by decide) (Ef.apRR (pos := 0) (xss := l18) (yss := y35) IF84 rfl hw42 (hsr43 _ _ (.refl _)) rfl Try.underlying67 rfl (.t rfl) (.t rfl) (by omega) (by omega)) ?_
        rintro v40 _ rfl
        refine ⟨.inl rfl, ?_⟩
        refine W.cast (m' := m) (l' := hown 84 1 v40 _ _ :: l) rfl rfl ?_
        refine W.q rfl rfl rfl rfl (by decide) (Yd.as rfl (.t rfl)) ?_
        refine W.end ?_
        refine NX.sub (env' := [(6, _), (25, _), (26, _), (27, _)]) ⟨rfl, rfl, rfl, rfl, trivial⟩ ?_
        refine NX.block ?_
        refine NX.then ?_
        refine Tr.region_f (fun _ => false) ?_
        refine W.q rfl rfl rfl rfl (by decide) (Yd.add rfl (.t rfl) .c) ?_
        refine W.q rfl rfl rfl rfl (by decide) (Yd.mv rfl (.t rfl)) ?_
        refine W.end ?_
        refine NX.sub (env' := [(6, _), (25, _), (26, _), (27, _)]) ⟨rfl, rfl, rfl, rfl, trivial⟩ ?_
        refine NX.sub (env' := [(6, _), (25, _), (26, _), (27, _)]) ⟨rfl, rfl, rfl, rfl, trivial⟩ ?_
        have hw := w64_id (n := t_31 + 1) (by omega) (by omega)
        exact NX.again n34 (t_31 + 1, (l18 ++ y35)) (Nat.lt_succ_self _) ⟨_, _, (Rows.app hw21 hw42), (by rw [hw] <;> rfl), rfl, (fr_dec hnt_31), (by omega), ((hnx33 _).symm.trans hr)⟩
  have hlen45 := (hslices_0).2.1
  refine Tr.block ?_
  refine Tr.sub (env' := [(0, _), (3, _), (9, _), (10, _), (11, _)]) ⟨rfl, rfl, rfl, rfl, rfl, trivial⟩ ?_
  refine Tr.loop (S := fun n (z : Int × Int) env x => match z with | (t_46, size_3) => env = [(0, uslices_0), (3, .int .i64 size_3), (9, uslices_0), (10, .int .i64 ((slices_0.length : Int))), (11, .int .i64 t_46)] ∧ x = ⟨m, l⟩ ∧ n = ((slices_0.length : Int) - t_46).toNat ∧ 0 ≤ t_46 ∧ forK (σ := Int) (fun i s nx_ => slices_Concat_SSintSint_b47 slices_0 i s nx_) (fun s => slices_Concat_SSintSint_k6 slices_0 s) n t_46 size_3 = some r) _ ((0 : Int), (0 : Int)) ⟨rfl, rfl, rfl, (by omega), hr⟩ ?_
  rintro n49 ⟨t_46, size_3⟩ env x ⟨rfl, rfl, hnt_46, h0t_46, hr⟩
  cases n49 with
  | zero =>
    simp only [forK] at hr
    refine Tr.seq ?_
    refine Tr.region_f (fun _ => false) ?_
    refine W.q rfl rfl rfl rfl (by decide) (Yd.lss rfl (.t rfl) (.t rfl)) ?_
    refine W.end ?_
    refine NX.sub (env' := [(0, _), (3, _), (9, _), (10, _), (11, _), (12, _)]) ⟨rfl, rfl, rfl, rfl, rfl, rfl, trivial⟩ ?_
    refine NX.then ?_
    refine Tr.seq ?_
    refine Tr.cond (.t rfl) (fun hb => ?_) (fun hb => ?_)
    · exact absurd (hb.symm.trans (fr_end hnt_46)) (by decide)
    ·
      refine Tr.exit' (EX.then (EX.then (EX.block ?_)))
      refine NX.sub (env' := [(0, _), (3, _)]) ⟨rfl, rfl, trivial⟩ ?_
      exact hk7 _ _ ⟨_, rfl, rfl, hr⟩
  | succ n49 =>
    obtain ⟨nx48, hnx48, hr⟩ := forK_succ hr
    try dsimp only at hr
    unfold slices_Concat_SSintSint_b47 at hr
    try dsimp only at hr
    have hltt_46 := fr_bnd hnt_46
    refine Tr.seq ?_
    refine Tr.region_f (fun _ => false) ?_
    refine W.q rfl rfl rfl rfl (by decide) (Yd.lss rfl (.t rfl) (.t rfl)) ?_
    refine W.end ?_
    refine NX.sub (env' := [(0, _), (3, _), (9, _), (10, _), (11, _), (12, _)]) ⟨rfl, rfl, rfl, rfl, rfl, rfl, trivial⟩ ?_
    refine NX.then ?_
    refine Tr.seq ?_
    refine Tr.cond (.t rfl) (fun hb => ?_) (fun hb => ?_)
    rotate_left
    · exact absurd (hb.symm.trans (fr_go hnt_46)) (by decide)
    ·
      refine Tr.skip' ?_
      refine NX.then ?_
      refine Tr.seq ?_
      refine Tr.block ?_
      refine Tr.seq ?_
      obtain ⟨y50, hy51, hr⟩ := bind_some hr
      refine Tr.region_f (fun _ => false) ?_
      refine W.q rfl rfl rfl rfl (by decide) (Yd.idxR hslices_0 hy51 rfl Try.underlying66 SZ67 (.t rfl) (.t rfl)) ?_
      obtain ⟨u52, hu53, hat54⟩ := hslices_0.row hy51
      refine W.q rfl rfl rfl rfl (by decide) (Yd.ldRow hat54 (.refl _) rfl ON67 (.t rfl)) ?_
      refine W.q rfl rfl rfl rfl (by decide) (Yd.as rfl (.t rfl)) ?_
      refine W.end ?_
      refine NX.sub (env' := [(0, _), (3, _), (9, _), (10, _), (11, _), (5, _)]) ⟨rfl, rfl, rfl, rfl, rfl, rfl, trivial⟩ ?_
      refine NX.then ?_
      refine Tr.seq ?_
      refine Tr.region_f (fun _ => false) ?_
      refine W.q rfl rfl rfl rfl (by decide) (Yd.mv rfl (.t rfl)) ?_
      refine W.q rfl rfl rfl rfl (by decide) (Yd.mv rfl (.t rfl)) ?_
      refine W.q rfl rfl rfl rfl (by decide) (Yd.lenR hu53 rfl Try.underlying67 (.t rfl)) ?_
      refine W.q rfl rfl rfl rfl (by decide) (Yd.add rfl (.t rfl) (.t rfl)) ?_
      refine W.q rfl rfl rfl rfl (by decide) (Yd.as rfl (.t rfl)) ?_
      refine W.end ?_
      refine NX.sub (env' := [(0, _), (3, _), (9, _), (10, _), (11, _)]) ⟨rfl, rfl, rfl, rfl, rfl, trivial⟩ ?_
      refine NX.then ?_
      refine Tr.seq ?_
      refine Tr.region_f (fun _ => false) ?_
      refine W.q rfl rfl rfl rfl (by decide) (Yd.mv rfl (.t rfl)) ?_
      refine W.q rfl rfl rfl rfl (by decide) (Yd.lss rfl (.t rfl) .c) ?_
      refine W.end ?_
      refine NX.sub (env' := [(0, _), (3, _), (9, _), (10, _), (11, _), (20, _)]) ⟨rfl, rfl, rfl, rfl, rfl, rfl, trivial⟩ ?_
      refine NX.then ?_
      refine Tr.cond (.t rfl) (fun hb => ?_) (fun hb => ?_)
      · have hr := cond_t hb hr
        cases hr
      · have hr := cond_f hb hr
        refine Tr.skip' ?_
        refine NX.block ?_
        refine NX.then ?_
        refine Tr.region_f (fun _ => false) ?_
        refine W.q rfl rfl rfl rfl (by decide) (Yd.add rfl (.t rfl) .c) ?_
        refine W.q rfl rfl rfl rfl (by decide) (Yd.mv rfl (.t rfl)) ?_
        refine W.end ?_
        refine NX.sub (env' := [(0, _), (3, _), (9, _), (10, _), (11, _)]) ⟨rfl, rfl, rfl, rfl, rfl, trivial⟩ ?_
        refine NX.sub (env' := [(0, _), (3, _), (9, _), (10, _), (11, _)]) ⟨rfl, rfl, rfl, rfl, rfl, trivial⟩ ?_
        have hw := w64_id (n := t_46 + 1) (by omega) (by omega)
        exact NX.again n49 (t_46 + 1, (w64 (size_3 + (y50.length : Int)))) (Nat.lt_succ_self _) ⟨(by rw [hw] <;> rfl), rfl, (fr_dec hnt_46), (by omega), ((hnx48 _).symm.trans hr)⟩

def slices_Grow_Sintint_fnil (n_1 : Int) : Option (Unit) :=
  (bif (decide (n_1 < (0 : Int))) then
  none
  else
  (bif (decide ((w64 (n_1 - (w64 ((0 : Int) - ((([] : List Int)).length : Int))))) > (0 : Int))) then
  bif decide (0 < (w64 (n_1 - (w64 ((0 : Int) - ((([] : List Int)).length : Int))))) ∧ (w64 (n_1 - (w64 ((0 : Int) - ((([] : List Int)).length : Int))))) ≤ 140737488355328 ∧ ((w64 (n_1 - (w64 ((0 : Int) - ((([] : List Int)).length : Int)))))).toNat * 8 ≤ 140737488355328) then
  some (()) else none
  else
  some (())))

set_option maxRecDepth 100000 in
set_option maxHeartbeats 4000000 in
theorem slices_Grow_Sintint_fnil_ok (w0 : World) (m : Snap) (l : List HI) (n_1 : Int) (r : Unit) (hr : slices_Grow_Sintint_fnil n_1 = some r) (w : World) (hc : cX w0 ⟨m, l⟩ w) :
    Calls Try.prog 81 [.slice none 0 0, .int .i64 n_1].toArray w fun e w' => ∃ z0 : Value, e = .returned (z0) ∧ cX w0 ⟨m, hown 3 1 z0 0 [] :: l⟩ w' := by
  unfold slices_Grow_Sintint_fnil at hr
  refine calls_of_Tr (N := 27) Try.func81 rfl hc rfl (Nat.le_of_ble_eq_true rfl) ?_
  refine Tr.addnil 3 1 ?_
  refine Tr.seq ?_
  refine Tr.region_f (fun _ => false) ?_
  refine W.q rfl rfl rfl rfl (by decide) (Yd.as rfl .c) ?_
  refine W.end ?_
  refine NX.sub (env' := [(0, _), (1, _)]) ⟨rfl, rfl, trivial⟩ ?_
  refine NX.then ?_
  refine Tr.seq ?_
  refine Tr.seq ?_
  refine Tr.region_f (fun _ => false) ?_
  refine W.q rfl rfl rfl rfl (by decide) (Yd.mv rfl (.t rfl)) ?_
  refine W.q rfl rfl rfl rfl (by decide) (Yd.lss rfl (.t rfl) .c) ?_
  refine W.end ?_
  refine NX.sub (env' := [(0, _), (1, _), (6, _)]) ⟨rfl, rfl, rfl, trivial⟩ ?_
  refine NX.then ?_
  refine Tr.cond (.t rfl) (fun hb => ?_) (fun hb => ?_)
  · have hr := cond_t hb hr
    cases hr
  · have hr := cond_f hb hr
    refine Tr.skip' ?_
    refine NX.then ?_
    refine Tr.seq ?_
    refine Tr.seq ?_
    refine Tr.region_f (fun _ => false) ?_
    refine W.q rfl rfl rfl rfl (by decide) (Yd.mv rfl (.t rfl)) ?_
    refine W.q rfl rfl rfl rfl (by decide) (Yd.mv rfl (.t rfl)) ?_
    refine W.q rfl rfl rfl rfl (by decide) (Yd.cap rfl Try.underlying84 (.t rfl)) ?_
    refine W.q rfl rfl rfl rfl (by decide) (Yd.mv rfl (.t rfl)) ?_
    refine W.q rfl rfl rfl rfl (by decide) (Yd.lenO (p := 0) rfl rfl Try.underlying84 (.t rfl)) ?_
    refine W.q rfl rfl rfl rfl (by decide) (Yd.sub rfl (.t rfl) (.t rfl)) ?_
    refine W.q rfl rfl rfl rfl (by decide) (Yd.sub rfl (.t rfl) (.t rfl)) ?_
    refine W.q rfl rfl rfl rfl (by decide) (Yd.as rfl (.t rfl)) ?_
    refine W.end ?_
    refine NX.sub (env' := [(0, _), (1, _)]) ⟨rfl, rfl, trivial⟩ ?_
    refine NX.then ?_
    refine Tr.seq ?_
    refine Tr.region_f (fun _ => false) ?_
    refine W.q rfl rfl rfl rfl (by decide) (Yd.mv rfl (.t rfl)) ?_
    refine W.q rfl rfl rfl rfl (by decide) (Yd.gtr rfl (.t rfl) .c) ?_
    refine W.end ?_
    refine NX.sub (env' := [(0, _), (1, _), (16, _)]) ⟨rfl, rfl, rfl, trivial⟩ ?_
    refine NX.then ?_
    refine Tr.cond (.t rfl) (fun hb => ?_) (fun hb => ?_)
    · have hr := cond_t hb hr
      obtain ⟨hq4, hr⟩ := guard_some hr; replace hq4 := of_decide_eq_true hq4
      refine Tr.region_f (fun i => Nat.beq i 5) ?_
      refine W.q rfl rfl rfl rfl (by decide) (Yd.mv rfl (.t rfl)) ?_
      refine W.q rfl rfl rfl rfl (by decide) (Yd.mv rfl (.t rfl)) ?_
      refine W.q rfl rfl rfl rfl (by decide) (Yd.cap rfl Try.underlying84 (.t rfl)) ?_
      refine W.q rfl rfl rfl rfl (by decide) (Yd.slTo (pos := 0) rfl rfl Try.underlying84 (Option.some_get IN3).symm (.t rfl) (.t rfl) (by decide) (Int.natCast_nonneg _)) ?_
      refine W.q rfl rfl rfl rfl (by decide) (Yd.mv rfl (.t rfl)) ?_
      refine W.e rfl rfl rfl rfl (by decide) (Ef.apMk (pos := 0) IF3 rfl rfl Try.underlying84 Try.underlying3 rfl (by decide) (.t rfl) (.t rfl) hq4) ?_
      rintro v2 _ ⟨cs3, rfl⟩
      refine ⟨.inl rfl, ?_⟩
      refine W.cast (m' := m) (l' := hown 3 1 v2 (((w64 (n_1 - (w64 ((0 : Int) - ((([] : List Int)).length : Int)))))).toNat) cs3 :: l) rfl rfl ?_
      refine W.q rfl rfl rfl rfl (by decide) (Yd.mv rfl (.t rfl)) ?_
      refine W.q rfl rfl rfl rfl (by decide) (Yd.len rfl Try.underlying84 (.t rfl)) ?_
      refine W.q rfl rfl rfl rfl (by decide) (Yd.slTo (pos := 0) rfl rfl Try.underlying84 (Option.some_get IN3).symm (.t rfl) (.t rfl) (by decide) (Int.natCast_nonneg _)) ?_
      refine W.q rfl rfl rfl rfl (by decide) (Yd.as rfl (.t rfl)) ?_
      refine W.end ?_
      refine NX.imp (fun w hw => cX_sl0 (p := 0) rfl hw) ?_
      refine NX.cast (m' := m) (l' := hownT 3 1 encI (slTo v2 0) (([] : List Int)) :: l) rfl rfl ?_
      refine NX.sub (env' := [(0, _)]) ⟨rfl, trivial⟩ ?_
      refine NX.then ?_
      refine Tr.seq ?_
      refine Tr.region_f (fun _ => false) ?_
      refine W.q rfl rfl rfl rfl (by decide) (Yd.mv rfl (.t rfl)) ?_
      refine W.q rfl rfl rfl rfl (by decide) (Yd.as rfl (.t rfl)) ?_
      refine W.end ?_
      refine NX.sub (env' := [(4, _)]) ⟨rfl, trivial⟩ ?_
      refine NX.then ?_
      refine Tr.ret' ?_
      refine res1 rfl rfl ?_
      intro w hc
      cases hr
      exact ⟨_, rfl, hc⟩
    · have hr := cond_f hb hr
      refine Tr.skip' ?_
      refine NX.then ?_
      refine Tr.seq ?_
      refine Tr.region_f (fun _ => false) ?_
      refine W.q rfl rfl rfl rfl (by decide) (Yd.mv rfl (.t rfl)) ?_
      refine W.q rfl rfl rfl rfl (by decide) (Yd.as rfl (.t rfl)) ?_
      refine W.end ?_
      refine NX.sub (env' := [(4, _)]) ⟨rfl, trivial⟩ ?_
      refine NX.then ?_
      refine Tr.ret' ?_
      refine res1 rfl rfl ?_
      intro w hc
      cases hr
      exact ⟨_, rfl, hc⟩

def slices_Concat_Sintint_k20 (l18 : List Int) : Option ((List Int)) :=
  some l18

def slices_Concat_Sintint_b24 (slices_0 : List (List Int)) (t_23 : Int) (l16 : List Int) (nx25 : (List Int) → Option ((List Int))) : Option ((List Int)) :=
  (geti slices_0 t_23).bind fun y27 =>
  bif decide (l16.length + y27.length ≤ 17592186044416) then
  nx25 (l16 ++ y27) else none

def slices_Concat_Sintint_k6 (slices_0 : List (List Int)) (size_5 : Int) : Option ((List Int)) :=
  (slices_Grow_Sintint_fnil size_5).bind fun r8 =>
  forK (σ := (List Int)) (fun i s nx_ => slices_Concat_Sintint_b24 slices_0 i s nx_) (fun s => slices_Concat_Sintint_k20 s) ((slices_0.length : Int) - (0 : Int)).toNat (0 : Int) (([] : List Int))

def slices_Concat_Sintint_b36 (slices_0 : List (List Int)) (t_35 : Int) (size_3 : Int) (nx37 : Int → Option ((List Int))) : Option ((List Int)) :=
  (geti slices_0 t_35).bind fun y39 =>
  (bif (decide ((w64 (size_3 + (y39.length : Int))) < (0 : Int))) then
  none
  else
  nx37 (w64 (size_3 + (y39.length : Int))))

def slices_Concat_Sintint (slices_0 : List (List Int)) : Option ((List Int)) :=
  forK (σ := Int) (fun i s nx_ => slices_Concat_Sintint_b36 slices_0 i s nx_) (fun s => slices_Concat_Sintint_k6 slices_0 s) ((slices_0.length : Int) - (0 : Int)).toNat (0 : Int) ((0 : Int))

set_option maxRecDepth 100000 in
set_option maxHeartbeats 4000000 in
theorem slices_Concat_Sintint_ok (w0 : World) (m : Snap) (l : List HI) (uslices_0 : Value) (slices_0 : List (List Int)) (hslices_0 : RS (Rp.slice rI) m uslices_0 slices_0) (r : (List Int)) (hr : slices_Concat_Sintint slices_0 = some r) (w : World) (hc : cX w0 ⟨m, l⟩ w) :
    Calls Try.prog 58 [uslices_0].toArray w fun e w' => ∃ z0 : Value, e = .returned (z0) ∧ cX w0 ⟨m, hownT 3 1 encI z0 r :: l⟩ w' := by
  unfold slices_Concat_Sintint at hr
  refine calls_of_Tr (N := 36) Try.func58 rfl hc rfl (Nat.le_of_ble_eq_true rfl) ?_
  refine Tr.seq ?_
  refine Tr.region_f (fun _ => false) ?_
  refine W.q rfl rfl rfl rfl (by decide) (Yd.as rfl .c) ?_
  refine W.end ?_
  refine NX.sub (env' := [(0, _)]) ⟨rfl, trivial⟩ ?_
  refine NX.then ?_
  refine Tr.seq ?_
  refine Tr.region_f (fun _ => false) ?_
  refine W.q rfl rfl rfl rfl (by decide) (Yd.as rfl .c) ?_
  refine W.end ?_
  refine NX.sub (env' := [(0, _), (3, _)]) ⟨rfl, rfl, trivial⟩ ?_
  refine NX.then ?_
  refine Tr.seq ?_
  refine Tr.seq ?_
  refine Tr.region_f (fun _ => false) ?_
  refine W.q rfl rfl rfl rfl (by decide) (Yd.mv rfl (.t rfl)) ?_
  refine W.q rfl rfl rfl rfl (by decide) (Yd.lenR hslices_0 rfl Try.underlying67 (.t rfl)) ?_
  refine W.q rfl rfl rfl rfl (by decide) (Yd.mv rfl .c) ?_
  refine W.end ?_
  refine NX.sub (env' := [(0, _), (3, _), (9, _), (10, _), (11, _)]) ⟨rfl, rfl, rfl, rfl, rfl, trivial⟩ ?_
  refine NX.then ?_
  refine Tr.join (S := fun env x => ∃ size_5 : Int, env = [(0, uslices_0), (3, .int .i64 size_5)] ∧ x = ⟨m, l⟩ ∧ slices_Concat_Sintint_k6 slices_0 size_5 = some r) ?_ (fun hk7 => ?_)
  · rintro _ _ ⟨size_5, rfl, rfl, hr⟩
    unfold slices_Concat_Sintint_k6 at hr
    try dsimp only at hr
    refine NX.then ?_
    refine Tr.seq ?_
    obtain ⟨r8, hr9, hr⟩ := bind_some hr
    refine Tr.region_f (fun i => Nat.beq i 1) ?_
    refine W.q rfl rfl rfl rfl (by decide) (Yd.mv rfl (.t rfl)) ?_
    refine W.e rfl rfl rfl rfl (by decide) (Ef.call (R := fun z x' => ∃ v10 : Value, z = v10 ∧ x' = ⟨m, hownT 3 1 encI v10 (([] : List Int)) :: l⟩) rfl Try.func81 rfl rfl (.cons .c (.cons (.t rfl) .nil)) (fun w hw => (slices_Grow_Sintint_fnil_ok w0 _ _ size_5 _ hr9 w hw).mono fun e w' ⟨v10, he, hc'⟩ => ⟨_, _, he, ⟨v10, rfl, rfl⟩, hc'⟩)) ?_
    rintro v10 _ ⟨_, rfl, rfl⟩
    refine ⟨.inl rfl, ?_⟩
    refine W.cast (m' := m) (l' := hownT 3 1 encI v10 _ :: l) rfl rfl ?_
    refine W.q rfl rfl rfl rfl (by decide) (Yd.as rfl (.t rfl)) ?_
    refine W.end ?_
    refine NX.sub (env' := [(0, _), (6, _)]) ⟨rfl, rfl, trivial⟩ ?_
    refine NX.then ?_
    refine Tr.seq ?_
    refine Tr.seq ?_
    refine Tr.region_f (fun _ => false) ?_
    refine W.q rfl rfl rfl rfl (by decide) (Yd.mv rfl (.t rfl)) ?_
    refine W.q rfl rfl rfl rfl (by decide) (Yd.lenR hslices_0 rfl Try.underlying67 (.t rfl)) ?_
    refine W.q rfl rfl rfl rfl (by decide) (Yd.mv rfl .c) ?_
    refine W.end ?_
    refine NX.sub (env' := [(6, _), (25, _), (26, _), (27, _)]) ⟨rfl, rfl, rfl, rfl, trivial⟩ ?_
    refine NX.then ?_
    refine Tr.join (S := fun env x => ∃ l18 : List Int, ∃ v19 : Value, env = [(6, v19)] ∧ x = ⟨m, hownT 3 1 encI v19 l18 :: l⟩ ∧ slices_Concat_Sintint_k20 l18 = some r) ?_ (fun hk21 => ?_)
    · rintro _ _ ⟨l18, v19, rfl, rfl, hr⟩
      unfold slices_Concat_Sintint_k20 at hr
      try dsimp only at hr
      refine NX.then ?_
      refine Tr.seq ?_
      refine Tr.region_f (fun _ => false) ?_
      refine W.q rfl rfl rfl rfl (by decide) (Yd.mv rfl (.t rfl)) ?_
      refine W.q rfl rfl rfl rfl (by decide) (Yd.as rfl (.t rfl)) ?_
      refine W.end ?_
      refine NX.sub (env' := [(2, _)]) ⟨rfl, trivial⟩ ?_
      refine NX.then ?_
      refine Tr.ret' ?_
      refine res1 rfl rfl ?_
      intro w hc
      cases hr
      exact ⟨_, rfl, hc⟩
    have hlen22 := (hslices_0).2.1
    refine Tr.block ?_
    refine Tr.sub (env' := [(6, _), (25, _), (26, _), (27, _)]) ⟨rfl, rfl, rfl, rfl, trivial⟩ ?_
    refine Tr.loop (S := fun n (z : Int × (List Int)) env x => match z with | (t_23, l16) => ∃ v17 : Value, env = [(6, v17), (25, uslices_0), (26, .int .i64 ((slices_0.length : Int))), (27, .int .i64 t_23)] ∧ x = ⟨m, hownT 3 1 encI v17 l16 :: l⟩ ∧ n = ((slices_0.length : Int) - t_23).toNat ∧ 0 ≤ t_23 ∧ forK (σ := (List Int)) (fun i s nx_ => slices_Concat_Sintint_b24 slices_0 i s nx_) (fun s => slices_Concat_Sintint_k20 s) n t_23 l16 = some r) _ ((0 : Int), ([] : List Int)) ⟨_, rfl, rfl, rfl, (by omega), hr⟩ ?_
    rintro n26 ⟨t_23, l16⟩ env x ⟨v17, rfl, rfl, hnt_23, h0t_23, hr⟩
    cases n26 with
    | zero =>
      simp only [forK] at hr
      refine Tr.seq ?_
      refine Tr.region_f (fun _ => false) ?_
      refine W.q rfl rfl rfl rfl (by decide) (Yd.lss rfl (.t rfl) (.t rfl)) ?_
      refine W.end ?_
      refine NX.sub (env' := [(6, _), (25, _), (26, _), (27, _), (28, _)]) ⟨rfl, rfl, rfl, rfl, rfl, trivial⟩ ?_
      refine NX.then ?_
      refine Tr.seq ?_
      refine Tr.cond (.t rfl) (fun hb => ?_) (fun hb => ?_)
      · exact absurd (hb.symm.trans (fr_end hnt_23)) (by decide)
      ·
        refine Tr.exit' (EX.then (EX.then (EX.block ?_)))
        refine NX.sub (env' := [(6, _)]) ⟨rfl, trivial⟩ ?_
        exact hk21 _ _ ⟨_, _, rfl, rfl, hr⟩
    | succ n26 =>
      obtain ⟨nx25, hnx25, hr⟩ := forK_succ hr
      try dsimp only at hr
      unfold slices_Concat_Sintint_b24 at hr
      try dsimp only at hr
      have hltt_23 := fr_bnd hnt_23
      refine Tr.seq ?_
      refine Tr.region_f (fun _ => false) ?_
      refine W.q rfl rfl rfl rfl (by decide) (Yd.lss rfl (.t rfl) (.t rfl)) ?_
      refine W.end ?_
      refine NX.sub (env' := [(6, _), (25, _), (26, _), (27, _), (28, _)]) ⟨rfl, rfl, rfl, rfl, rfl, trivial⟩ ?_
      refine NX.then ?_
      refine Tr.seq ?_
      refine Tr.cond (.t rfl) (fun hb => ?_) (fun hb => ?_)
      rotate_left
      · exact absurd (hb.symm.trans (fr_go hnt_23)) (by decide)
      ·
        refine Tr.skip' ?_
        refine NX.then ?_
        refine Tr.seq ?_
        refine Tr.block ?_
        refine Tr.seq ?_
        obtain ⟨y27, hy28, hr⟩ := bind_some hr
        refine Tr.region_f (fun _ => false) ?_
        refine W.q rfl rfl rfl rfl (by decide) (Yd.idxR hslices_0 hy28 rfl Try.underlying67 SZ84 (.t rfl) (.t rfl)) ?_
        obtain ⟨u29, hu30, hat31⟩ := hslices_0.row hy28
        refine W.q rfl rfl rfl rfl (by decide) (Yd.ldRow hat31 (.refl _) rfl ON84 (.t rfl)) ?_
        refine W.q rfl rfl rfl rfl (by decide) (Yd.as rfl (.t rfl)) ?_
        refine W.end ?_
        refine NX.sub (env' := [(6, _), (25, _), (26, _), (27, _), (8, _)]) ⟨rfl, rfl, rfl, rfl, rfl, trivial⟩ ?_
        refine NX.then ?_
        obtain ⟨hq33, hr⟩ := guard_some hr; replace hq33 := of_decide_eq_true hq33
        refine Tr.region_f (fun i => Nat.beq i 2) ?_
        refine W.q rfl rfl rfl rfl (by decide) (Yd.mv rfl (.t rfl)) ?_
        refine W.q rfl rfl rfl rfl (by decide) (Yd.mv rfl (.t rfl)) ?_
        refine W.e rfl rfl rfl rfl (by decide) (Ef.apI (pos := 0) (enc := encI) (xs := l16) (ys := y27) (fun _ => rfl) IF3 rfl rfl Try.underlying84 rfl (by decide) (.t rfl) (.t rfl) (Src.rs (by decide) (.refl _) hu30) (fun _ => rfl) (by omega) (by omega)) ?_
        rintro v32 _ rfl
        refine ⟨.inl rfl, ?_⟩
        refine W.cast (m' := m) (l' := hownT 3 1 encI v32 _ :: l) rfl rfl ?_
        refine W.q rfl rfl rfl rfl (by decide) (Yd.as rfl (.t rfl)) ?_
        refine W.end ?_
        refine NX.sub (env' := [(6, _), (25, _), (26, _), (27, _)]) ⟨rfl, rfl, rfl, rfl, trivial⟩ ?_
        refine NX.block ?_
        refine NX.then ?_
        refine Tr.region_f (fun _ => false) ?_
        refine W.q rfl rfl rfl rfl (by decide) (Yd.add rfl (.t rfl) .c) ?_
        refine W.q rfl rfl rfl rfl (by decide) (Yd.mv rfl (.t rfl)) ?_
        refine W.end ?_
        refine NX.sub (env' := [(6, _), (25, _), (26, _), (27, _)]) ⟨rfl, rfl, rfl, rfl, trivial⟩ ?_
        refine NX.sub (env' := [(6, _), (25, _), (26, _), (27, _)]) ⟨rfl, rfl, rfl, rfl, trivial⟩ ?_
        have hw := w64_id (n := t_23 + 1) (by omega) (by omega)
        exact NX.again n26 (t_23 + 1, (l16 ++ y27)) (Nat.lt_succ_self _) ⟨_, (by rw [hw] <;> rfl), rfl, (fr_dec hnt_23), (by omega), ((hnx25 _).symm.trans hr)⟩
  have hlen34 := (hslices_0).2.1
  refine Tr.block ?_
  refine Tr.sub (env' := [(0, _), (3, _), (9, _), (10, _), (11, _)]) ⟨rfl, rfl, rfl, rfl, rfl, trivial⟩ ?_
  refine Tr.loop (S := fun n (z : Int × Int) env x => match z with | (t_35, size_3) => env = [(0, uslices_0), (3, .int .i64 size_3), (9, uslices_0), (10, .int .i64 ((slices_0.length : Int))), (11, .int .i64 t_35)] ∧ x = ⟨m, l⟩ ∧ n = ((slices_0.length : Int) - t_35).toNat ∧ 0 ≤ t_35 ∧ forK (σ := Int) (fun i s nx_ => slices_Concat_Sintint_b36 slices_0 i s nx_) (fun s => slices_Concat_Sintint_k6 slices_0 s) n t_35 size_3 = some r) _ ((0 : Int), (0 : Int)) ⟨rfl, rfl, rfl, (by omega), hr⟩ ?_
  rintro n38 ⟨t_35, size_3⟩ env x ⟨rfl, rfl, hnt_35, h0t_35, hr⟩
  cases n38 with
  | zero =>
    simp only [forK] at hr
    refine Tr.seq ?_
    refine Tr.region_f (fun _ => false) ?_
    refine W.q rfl rfl rfl rfl (by decide) (Yd.lss rfl (.t rfl) (.t rfl)) ?_
    refine W.end ?_
    refine NX.sub (env' := [(0, _), (3, _), (9, _), (10, _), (11, _), (12, _)]) ⟨rfl, rfl, rfl, rfl, rfl, rfl, trivial⟩ ?_
    refine NX.then ?_
    refine Tr.seq ?_
    refine Tr.cond (.t rfl) (fun hb => ?_) (fun hb => ?_)
    · exact absurd (hb.symm.trans (fr_end hnt_35)) (by decide)
    ·
      refine Tr.exit' (EX.then (EX.then (EX.block ?_)))
      refine NX.sub (env' := [(0, _), (3, _)]) ⟨rfl, rfl, trivial⟩ ?_
      exact hk7 _ _ ⟨_, rfl, rfl, hr⟩
  | succ n38 =>
    obtain ⟨nx37, hnx37, hr⟩ := forK_succ hr
    try dsimp only at hr
    unfold slices_Concat_Sintint_b36 at hr
    try dsimp only at hr
    have hltt_35 := fr_bnd hnt_35
    refine Tr.seq ?_
    refine Tr.region_f (fun _ => false) ?_
    refine W.q rfl rfl rfl rfl (by decide) (Yd.lss rfl (.t rfl) (.t rfl)) ?_
    refine W.end ?_
    refine NX.sub (env' := [(0, _), (3, _), (9, _), (10, _), (11, _), (12, _)]) ⟨rfl, rfl, rfl, rfl, rfl, rfl, trivial⟩ ?_
    refine NX.then ?_
    refine Tr.seq ?_
    refine Tr.cond (.t rfl) (fun hb => ?_) (fun hb => ?_)
    rotate_left
    · exact absurd (hb.symm.trans (fr_go hnt_35)) (by decide)
    ·
      refine Tr.skip' ?_
      refine NX.then ?_
      refine Tr.seq ?_
      refine Tr.block ?_
      refine Tr.seq ?_
      obtain ⟨y39, hy40, hr⟩ := bind_some hr
      refine Tr.region_f (fun _ => false) ?_
      refine W.q rfl rfl rfl rfl (by decide) (Yd.idxR hslices_0 hy40 rfl Try.underlying67 SZ84 (.t rfl) (.t rfl)) ?_
      obtain ⟨u41, hu42, hat43⟩ := hslices_0.row hy40
      refine W.q rfl rfl rfl rfl (by decide) (Yd.ldRow hat43 (.refl _) rfl ON84 (.t rfl)) ?_
      refine W.q rfl rfl rfl rfl (by decide) (Yd.as rfl (.t rfl)) ?_
      refine W.end ?_
      refine NX.sub (env' := [(0, _), (3, _), (9, _), (10, _), (11, _), (5, _)]) ⟨rfl, rfl, rfl, rfl, rfl, rfl, trivial⟩ ?_
      refine NX.then ?_
      refine Tr.seq ?_
      refine Tr.region_f (fun _ => false) ?_
      refine W.q rfl rfl rfl rfl (by decide) (Yd.mv rfl (.t rfl)) ?_
      refine W.q rfl rfl rfl rfl (by decide) (Yd.mv rfl (.t rfl)) ?_
      refine W.q rfl rfl rfl rfl (by decide) (Yd.lenR hu42 rfl Try.underlying84 (.t rfl)) ?_
      refine W.q rfl rfl rfl rfl (by decide) (Yd.add rfl (.t rfl) (.t rfl)) ?_
      refine W.q rfl rfl rfl rfl (by decide) (Yd.as rfl (.t rfl)) ?_
      refine W.end ?_
      refine NX.sub (env' := [(0, _), (3, _), (9, _), (10, _), (11, _)]) ⟨rfl, rfl, rfl, rfl, rfl, trivial⟩ ?_
      refine NX.then ?_
      refine Tr.seq ?_
      refine Tr.region_f (fun _ => false) ?_
      refine W.q rfl rfl rfl rfl (by decide) (Yd.mv rfl (.t rfl)) ?_
      refine W.q rfl rfl rfl rfl (by decide) (Yd.lss rfl (.t rfl) .c) ?_
      refine W.end ?_
      refine NX.sub (env' := [(0, _), (3, _), (9, _), (10, _), (11, _), (20, _)]) ⟨rfl, rfl, rfl, rfl, rfl, rfl, trivial⟩ ?_
      refine NX.then ?_
      refine Tr.cond (.t rfl) (fun hb => ?_) (fun hb => ?_)
      · have hr := cond_t hb hr
        cases hr
      · have hr := cond_f hb hr
        refine Tr.skip' ?_
        refine NX.block ?_
        refine NX.then ?_
        refine Tr.region_f (fun _ => false) ?_
        refine W.q rfl rfl rfl rfl (by decide) (Yd.add rfl (.t rfl) .c) ?_
        refine W.q rfl rfl rfl rfl (by decide) (Yd.mv rfl (.t rfl)) ?_
        refine W.end ?_
        refine NX.sub (env' := [(0, _), (3, _), (9, _), (10, _), (11, _)]) ⟨rfl, rfl, rfl, rfl, rfl, trivial⟩ ?_
        refine NX.sub (env' := [(0, _), (3, _), (9, _), (10, _), (11, _)]) ⟨rfl, rfl, rfl, rfl, rfl, trivial⟩ ?_
        have hw := w64_id (n := t_35 + 1) (by omega) (by omega)
        exact NX.again n38 (t_35 + 1, (w64 (size_3 + (y39.length : Int)))) (Nat.lt_succ_self _) ⟨(by rw [hw] <;> rfl), rfl, (fr_dec hnt_35), (by omega), ((hnx37 _).symm.trans hr)⟩

def view_Check_c1 (s_0 : Int) (cp_0 : Machine) : Option (Bool) :=
  some (((decide (s_0 < (0 : Int))) || (decide (s_0 ≥ cp_0.n))))

set_option maxRecDepth 100000 in
set_option maxHeartbeats 4000000 in
theorem view_Check_c1_ok (w0 : World) (m : Snap) (l : List HI) (s_0 : Int) (fp0 fb0 : Nat) (cp_0 : Machine) (uc0_3 : Value) (hc0_3 : RS (Rp.slice (Rp.slice rI)) m uc0_3 cp_0.next) (uc0_4 : Value) (hc0_4 : RS (Rp.slice rI) m uc0_4 cp_0.sees) (hfp0 : l[fp0]? = some (hcells fb0 [.int .i64 cp_0.n, .int .i64 cp_0.users, .int .i64 cp_0.acts, uc0_3, uc0_4] 69)) (r : Bool) (hr : view_Check_c1 s_0 cp_0 = some r) (w : World) (hc : cX w0 ⟨m, l⟩ w) :
    Calls Try.prog 60 [.int .i64 s_0, bp fb0 0].toArray w fun e w' => e = .returned (.bool r) ∧ cX w0 ⟨m, l⟩ w' := by
  unfold view_Check_c1 at hr
  refine calls_of_Tr (N := 12) Try.func60 rfl hc rfl (Nat.le_of_ble_eq_true rfl) ?_
  refine Tr.seq ?_
  refine Tr.region_f (fun _ => false) ?_
  refine W.q rfl rfl rfl rfl (by decide) (Yd.as rfl .c) ?_
  refine W.end ?_
  refine NX.sub (env' := [(0, _), (1, _)]) ⟨rfl, rfl, trivial⟩ ?_
  refine NX.then ?_
  refine Tr.seq ?_
  refine Tr.region_f (fun _ => false) ?_
  refine W.q rfl rfl rfl rfl (by decide) (Yd.mv rfl (.t rfl)) ?_
  refine W.q rfl rfl rfl rfl (by decide) (Yd.lss rfl (.t rfl) .c) ?_
  refine W.q rfl rfl rfl rfl (by decide) (Yd.mv rfl (.t rfl)) ?_
  refine W.g rfl rfl rfl rfl rfl (.t rfl _) rfl (by decide) (fun hG => Yd.mv rfl (.t rfl)) ?_
  refine W.g rfl rfl rfl rfl rfl (.t rfl _) rfl (by decide) (fun hG => Yd.fldB rfl Try.underlying69 rfl SZ3 rfl (.t rfl)) ?_
  refine W.g rfl rfl rfl rfl rfl (.t rfl _) rfl (by decide) (fun hG => Yd.ldB (pos := fp0) hfp0 rfl rfl ON3 (.g rfl hG)) ?_
  refine W.g rfl rfl rfl rfl rfl (.t rfl _) rfl (by decide) (fun hG => Yd.geq rfl (.g rfl hG) (.g rfl hG)) ?_
  refine W.q rfl rfl rfl rfl (by decide) (Yd.or rfl (.t rfl) .c rfl rfl) ?_
  refine W.q rfl rfl rfl rfl (by decide) (Yd.as rfl (.t rfl)) ?_
  refine W.end ?_
  refine NX.sub (env' := [(3, _)]) ⟨rfl, trivial⟩ ?_
  refine NX.then ?_
  refine Tr.ret' ?_
  refine res1 rfl rfl ?_
  intro w hc
  cases hr
  exact ⟨rfl, hc⟩

def slices_IndexFunc_Sintint_k3 : Option (Int) :=
  some ((-1 : Int))

def slices_IndexFunc_Sintint_b7 (s_0 : List Int) (f_1 : Int → Option Bool) (t_6 : Int) (nx8 : Unit → Option (Int)) : Option (Int) :=
  (geti s_0 t_6).bind fun y10 =>
  (f_1 y10).bind fun r12 =>
  (bif r12 then
  some t_6
  else
  nx8 ())

def slices_IndexFunc_Sintint (s_0 : List Int) (f_1 : Int → Option Bool) : Option (Int) :=
  forK (σ := Unit) (fun i s nx_ => slices_IndexFunc_Sintint_b7 s_0 f_1 i nx_) (fun _ => slices_IndexFunc_Sintint_k3) ((s_0.length : Int) - (0 : Int)).toNat (0 : Int) ()

set_option maxRecDepth 100000 in
set_option maxHeartbeats 4000000 in
theorem slices_IndexFunc_Sintint_ok (w0 : World) (m : Snap) (l : List HI) (us_0 : Value) (s_0 : List Int) (hs_0 : RS rI m us_0 s_0) (uf_1 : Value) (f_1 : Int → Option Bool) (hf_1 : Fq Try.prog w0 ⟨m, l⟩ uf_1 (α := Int) (β := Bool) (fun _ v a => v = .int .i64 a) (fun b => .bool b) f_1) (r : Int) (hr : slices_IndexFunc_Sintint s_0 f_1 = some r) (w : World) (hc : cX w0 ⟨m, l⟩ w) :
    Calls Try.prog 80 [us_0, uf_1].toArray w fun e w' => e = .returned (.int .i64 r) ∧ cX w0 ⟨m, l⟩ w' := by
  unfold slices_IndexFunc_Sintint at hr
  refine calls_of_Tr (N := 19) Try.func80 rfl hc rfl (Nat.le_of_ble_eq_true rfl) ?_
  refine Tr.seq ?_
  refine Tr.region_f (fun _ => false) ?_
  refine W.q rfl rfl rfl rfl (by decide) (Yd.as rfl .c) ?_
  refine W.end ?_
  refine NX.sub (env' := [(0, _), (1, _)]) ⟨rfl, rfl, trivial⟩ ?_
  refine NX.then ?_
  refine Tr.seq ?_
  refine Tr.seq ?_
  refine Tr.region_f (fun _ => false) ?_
  refine W.q rfl rfl rfl rfl (by decide) (Yd.mv rfl (.t rfl)) ?_
  refine W.q rfl rfl rfl rfl (by decide) (Yd.lenR hs_0 rfl Try.underlying84 (.t rfl)) ?_
  refine W.q rfl rfl rfl rfl (by decide) (Yd.mv rfl .c) ?_
  refine W.end ?_
  refine NX.sub (env' := [(0, _), (1, _), (7, _), (8, _)]) ⟨rfl, rfl, rfl, rfl, trivial⟩ ?_
  refine NX.then ?_
  refine Tr.join (S := fun env x => env = [] ∧ x = ⟨m, l⟩ ∧ slices_IndexFunc_Sintint_k3 = some r) ?_ (fun hk4 => ?_)
  · rintro _ _ ⟨rfl, rfl, hr⟩
    unfold slices_IndexFunc_Sintint_k3 at hr
    try dsimp only at hr
    refine NX.then ?_
    refine Tr.seq ?_
    refine Tr.region_f (fun _ => false) ?_
    refine W.q rfl rfl rfl rfl (by decide) (Yd.as rfl .c) ?_
    refine W.end ?_
    refine NX.sub (env' := [(4, _)]) ⟨rfl, trivial⟩ ?_
    refine NX.then ?_
    refine Tr.ret' ?_
    refine res1 rfl rfl ?_
    intro w hc
    cases hr
    exact ⟨rfl, hc⟩
  have hlen5 := (hs_0).2.1
  refine Tr.block ?_
  refine Tr.sub (env' := [(0, _), (1, _), (7, _), (8, _)]) ⟨rfl, rfl, rfl, rfl, trivial⟩ ?_
  refine Tr.loop (S := fun n (z : Int × Unit) env x => match z with | (t_6, _) => env = [(0, us_0), (1, uf_1), (7, .int .i64 ((s_0.length : Int))), (8, .int .i64 t_6)] ∧ x = ⟨m, l⟩ ∧ n = ((s_0.length : Int) - t_6).toNat ∧ 0 ≤ t_6 ∧ forK (σ := Unit) (fun i s nx_ => slices_IndexFunc_Sintint_b7 s_0 f_1 i nx_) (fun _ => slices_IndexFunc_Sintint_k3) n t_6 () = some r) _ ((0 : Int), ()) ⟨rfl, rfl, rfl, (by omega), hr⟩ ?_
  rintro n9 ⟨t_6, _⟩ env x ⟨rfl, rfl, hnt_6, h0t_6, hr⟩
  cases n9 with
  | zero =>
    simp only [forK] at hr
    refine Tr.seq ?_
    refine Tr.region_f (fun _ => false) ?_
    refine W.q rfl rfl rfl rfl (by decide) (Yd.lss rfl (.t rfl) (.t rfl)) ?_
    refine W.end ?_
    refine NX.sub (env' := [(0, _), (1, _), (7, _), (8, _), (9, _)]) ⟨rfl, rfl, rfl, rfl, rfl, trivial⟩ ?_
    refine NX.then ?_
    refine Tr.seq ?_
    refine Tr.cond (.t rfl) (fun hb => ?_) (fun hb => ?_)
    · exact absurd (hb.symm.trans (fr_end hnt_6)) (by decide)
    ·
      refine Tr.exit' (EX.then (EX.then (EX.block ?_)))
      refine NX.sub (env' := []) trivial ?_
      exact hk4 _ _ ⟨rfl, rfl, hr⟩
  | succ n9 =>
    obtain ⟨nx8, hnx8, hr⟩ := forK_succ hr
    try dsimp only at hr
    unfold slices_IndexFunc_Sintint_b7 at hr
    try dsimp only at hr
    have hltt_6 := fr_bnd hnt_6
    refine Tr.seq ?_
    refine Tr.region_f (fun _ => false) ?_
    refine W.q rfl rfl rfl rfl (by decide) (Yd.lss rfl (.t rfl) (.t rfl)) ?_
    refine W.end ?_
    refine NX.sub (env' := [(0, _), (1, _), (7, _), (8, _), (9, _)]) ⟨rfl, rfl, rfl, rfl, rfl, trivial⟩ ?_
    refine NX.then ?_
    refine Tr.seq ?_
    refine Tr.cond (.t rfl) (fun hb => ?_) (fun hb => ?_)
    rotate_left
    · exact absurd (hb.symm.trans (fr_go hnt_6)) (by decide)
    ·
      refine Tr.skip' ?_
      refine NX.then ?_
      refine Tr.seq ?_
      refine Tr.block ?_
      refine Tr.seq ?_
      refine Tr.region_f (fun _ => false) ?_
      refine W.q rfl rfl rfl rfl (by decide) (Yd.mv rfl (.t rfl)) ?_
      refine W.q rfl rfl rfl rfl (by decide) (Yd.as rfl (.t rfl)) ?_
      refine W.end ?_
      refine NX.sub (env' := [(0, _), (1, _), (7, _), (8, _), (5, _)]) ⟨rfl, rfl, rfl, rfl, rfl, trivial⟩ ?_
      refine NX.then ?_
      refine Tr.seq ?_
      obtain ⟨y10, hy11, hr⟩ := bind_some hr
      obtain ⟨r12, hr13, hr⟩ := bind_some hr
      refine Tr.region_f (fun _ => false) ?_
      refine W.q rfl rfl rfl rfl (by decide) (Yd.mv rfl (.t rfl)) ?_
      refine W.q rfl rfl rfl rfl (by decide) (Yd.mv rfl (.t rfl)) ?_
      refine W.q rfl rfl rfl rfl (by decide) (Yd.mv rfl (.t rfl)) ?_
      refine W.q rfl rfl rfl rfl (by decide) (Yd.idxR hs_0 hy11 rfl Try.underlying84 SZ3 (.t rfl) (.t rfl)) ?_
      refine W.q rfl rfl rfl rfl (by decide) (Yd.ldF hs_0 (.refl _) hy11 rfl rfl ON3 (.t rfl)) ?_
      refine W.q rfl rfl rfl rfl (by decide) (Yd.callF hf_1 ⟨(.refl _), [], rfl⟩ rfl (.t rfl) (.t rfl) (fun _ _ => rfl) hr13) ?_
      refine W.end ?_
      refine NX.sub (env' := [(0, _), (1, _), (7, _), (8, _), (5, _), (16, _)]) ⟨rfl, rfl, rfl, rfl, rfl, rfl, trivial⟩ ?_
      refine NX.then ?_
      refine Tr.cond (.t rfl) (fun hb => ?_) (fun hb => ?_)
      · have hr := cond_t hb hr
        refine Tr.seq ?_
        refine Tr.region_f (fun _ => false) ?_
        refine W.q rfl rfl rfl rfl (by decide) (Yd.mv rfl (.t rfl)) ?_
        refine W.q rfl rfl rfl rfl (by decide) (Yd.as rfl (.t rfl)) ?_
        refine W.end ?_
        refine NX.sub (env' := [(4, _)]) ⟨rfl, trivial⟩ ?_
        refine NX.then ?_
        refine Tr.ret' (RT.block (RT.then (RT.then (RT.block (RT.then ?_)))))
        refine res1 rfl rfl ?_
        intro w hc
        cases hr
        exact ⟨rfl, hc⟩
      · have hr := cond_f hb hr
        refine Tr.skip' ?_
        refine NX.block ?_
        refine NX.then ?_
        refine Tr.region_f (fun _ => false) ?_
        refine W.q rfl rfl rfl rfl (by decide) (Yd.add rfl (.t rfl) .c) ?_
        refine W.q rfl rfl rfl rfl (by decide) (Yd.mv rfl (.t rfl)) ?_
        refine W.end ?_
        refine NX.sub (env' := [(0, _), (1, _), (7, _), (8, _)]) ⟨rfl, rfl, rfl, rfl, trivial⟩ ?_
        refine NX.sub (env' := [(0, _), (1, _), (7, _), (8, _)]) ⟨rfl, rfl, rfl, rfl, trivial⟩ ?_
        have hw := w64_id (n := t_6 + 1) (by omega) (by omega)
        exact NX.again n9 (t_6 + 1, ()) (Nat.lt_succ_self _) ⟨(by rw [hw] <;> rfl), rfl, (fr_dec hnt_6), (by omega), ((hnx8 _).symm.trans hr)⟩

def slices_ContainsFunc_Sintint (s_0 : List Int) (f_1 : Int → Option Bool) : Option (Bool) :=
  (slices_IndexFunc_Sintint s_0 f_1).bind fun r1 =>
  some ((decide (r1 ≥ (0 : Int))))

set_option maxRecDepth 100000 in
set_option maxHeartbeats 4000000 in
theorem slices_ContainsFunc_Sintint_ok (w0 : World) (m : Snap) (l : List HI) (us_0 : Value) (s_0 : List Int) (hs_0 : RS rI m us_0 s_0) (uf_1 : Value) (f_1 : Int → Option Bool) (hf_1 : Fq Try.prog w0 ⟨m, l⟩ uf_1 (α := Int) (β := Bool) (fun _ v a => v = .int .i64 a) (fun b => .bool b) f_1) (r : Bool) (hr : slices_ContainsFunc_Sintint s_0 f_1 = some r) (w : World) (hc : cX w0 ⟨m, l⟩ w) :
    Calls Try.prog 57 [us_0, uf_1].toArray w fun e w' => e = .returned (.bool r) ∧ cX w0 ⟨m, l⟩ w' := by
  unfold slices_ContainsFunc_Sintint at hr
  refine calls_of_Tr (N := 9) Try.func57 rfl hc rfl (Nat.le_of_ble_eq_true rfl) ?_
  refine Tr.seq ?_
  refine Tr.region_f (fun _ => false) ?_
  refine W.q rfl rfl rfl rfl (by decide) (Yd.as rfl .c) ?_
  refine W.end ?_
  refine NX.sub (env' := [(0, _), (1, _)]) ⟨rfl, rfl, trivial⟩ ?_
  refine NX.then ?_
  refine Tr.seq ?_
  obtain ⟨r1, hr2, hr⟩ := bind_some hr
  refine Tr.region_f (fun _ => false) ?_
  refine W.q rfl rfl rfl rfl (by decide) (Yd.mv rfl (.t rfl)) ?_
  refine W.q rfl rfl rfl rfl (by decide) (Yd.mv rfl (.t rfl)) ?_
  refine W.q rfl rfl rfl rfl (by decide) (Yd.call (v := .int .i64 r1) rfl Try.func80 rfl rfl (.cons (.t rfl) (.cons (.t rfl) .nil)) (fun x' hx w hw => slices_IndexFunc_Sintint_ok w0 x'.m x'.l _ _ (hs_0.mono hx.1) _ f_1 (hf_1.mono (leX_trans _ _ _ ⟨(.refl _), [], rfl⟩ hx)) _ hr2 w hw)) ?_
  refine W.q rfl rfl rfl rfl (by decide) (Yd.geq rfl (.t rfl) .c) ?_
  refine W.q rfl rfl rfl rfl (by decide) (Yd.as rfl (.t rfl)) ?_
  refine W.end ?_
  refine NX.sub (env' := [(4, _)]) ⟨rfl, trivial⟩ ?_
  refine NX.then ?_
  refine Tr.ret' ?_
  refine res1 rfl rfl ?_
  intro w hc
  cases hr
  exact ⟨rfl, hc⟩

def view_Check (m_0 : Machine) : Option (Int) :=
  (bif ((((((decide (m_0.n < (1 : Int))) || (decide (m_0.n > (6 : Int)))) || (decide (m_0.users < (1 : Int)))) || (decide (m_0.users > (3 : Int)))) || (decide (m_0.acts < (1 : Int)))) || (decide (m_0.acts > (2 : Int)))) then
  some ((1 : Int))
  else
  (view_shaped (({ n := m_0.n, users := m_0.users, acts := m_0.acts, next := m_0.next, sees := m_0.sees } : Machine))).bind fun r3 =>
  (bif (!r3) then
  some ((3 : Int))
  else
  (slices_Concat_SSintSint m_0.next).bind fun r5 =>
  (slices_Concat_Sintint r5).bind fun r10 =>
  (slices_ContainsFunc_Sintint r10 (fun a => view_Check_c1 a (({ n := m_0.n, users := m_0.users, acts := m_0.acts, next := m_0.next, sees := m_0.sees } : Machine)))).bind fun r14 =>
  (bif r14 then
  some ((2 : Int))
  else
  some ((0 : Int)))))

set_option maxRecDepth 100000 in
set_option maxHeartbeats 4000000 in
theorem view_Check_ok (w0 : World) (m : Snap) (l : List HI) (m_0 : Machine) (um_0_3 : Value) (hm_0_3 : RS (Rp.slice (Rp.slice rI)) m um_0_3 m_0.next) (um_0_4 : Value) (hm_0_4 : RS (Rp.slice rI) m um_0_4 m_0.sees) (r : Int) (hr : view_Check m_0 = some r) (w : World) (hc : cX w0 ⟨m, l⟩ w) :
    Calls Try.prog 32 [.agg #[.int .i64 m_0.n, .int .i64 m_0.users, .int .i64 m_0.acts, um_0_3, um_0_4]].toArray w fun e w' => e = .returned (.int .i64 r) ∧ cX w0 ⟨m, l⟩ w' := by
  unfold view_Check at hr
  refine calls_of_Tr (N := 43) Try.func32 rfl hc rfl (Nat.le_of_ble_eq_true rfl) ?_
  refine Tr.seq ?_
  refine Tr.region_f (fun i => Nat.beq i 0) ?_
  refine W.e rfl rfl rfl rfl (by decide) (Ef.bx rfl (.t rfl) rfl) ?_
  rintro _ _ ⟨b1, rfl, rfl⟩
  refine ⟨.inl rfl, ?_⟩
  refine W.cast (m' := m) (l' := hcells b1 [_, _, _, _, _] 69 :: l) rfl rfl ?_
  refine W.q rfl rfl rfl rfl (by decide) (Yd.as rfl .c) ?_
  refine W.end ?_
  refine NX.sub (env' := [(1, _)]) ⟨rfl, trivial⟩ ?_
  refine NX.then ?_
  refine Tr.seq ?_
  refine Tr.block ?_
  refine Tr.seq ?_
  refine Tr.region_f (fun _ => false) ?_
  refine W.q rfl rfl rfl rfl (by decide) (Yd.fldB rfl Try.underlying69 rfl SZ3 rfl (.t rfl)) ?_
  refine W.q rfl rfl rfl rfl (by decide) (Yd.ldB (pos := 0) rfl rfl rfl ON3 (.t rfl)) ?_
  refine W.q rfl rfl rfl rfl (by decide) (Yd.lss rfl (.t rfl) .c) ?_
  refine W.q rfl rfl rfl rfl (by decide) (Yd.mv rfl (.t rfl)) ?_
  refine W.g rfl rfl rfl rfl rfl (.t rfl _) rfl (by decide) (fun hG => Yd.fldB rfl Try.underlying69 rfl SZ3 rfl (.t rfl)) ?_
  refine W.g rfl rfl rfl rfl rfl (.t rfl _) rfl (by decide) (fun hG => Yd.ldB (pos := 0) rfl rfl rfl ON3 (.g rfl hG)) ?_
  refine W.g rfl rfl rfl rfl rfl (.t rfl _) rfl (by decide) (fun hG => Yd.gtr rfl (.g rfl hG) .c) ?_
  refine W.q rfl rfl rfl rfl (by decide) (Yd.or rfl (.t rfl) .c rfl rfl) ?_
  refine W.q rfl rfl rfl rfl (by decide) (Yd.mv rfl (.t rfl)) ?_
  refine W.g rfl rfl rfl rfl rfl (.t rfl _) rfl (by decide) (fun hG => Yd.fldB rfl Try.underlying69 rfl SZ3 rfl (.t rfl)) ?_
  refine W.g rfl rfl rfl rfl rfl (.t rfl _) rfl (by decide) (fun hG => Yd.ldB (pos := 0) rfl rfl rfl ON3 (.g rfl hG)) ?_
  refine W.g rfl rfl rfl rfl rfl (.t rfl _) rfl (by decide) (fun hG => Yd.lss rfl (.g rfl hG) .c) ?_
  refine W.q rfl rfl rfl rfl (by decide) (Yd.or rfl (.t rfl) .c rfl rfl) ?_
  refine W.q rfl rfl rfl rfl (by decide) (Yd.mv rfl (.t rfl)) ?_
  refine W.g rfl rfl rfl rfl rfl (.t rfl _) rfl (by decide) (fun hG => Yd.fldB rfl Try.underlying69 rfl SZ3 rfl (.t rfl)) ?_
  refine W.g rfl rfl rfl rfl rfl (.t rfl _) rfl (by decide) (fun hG => Yd.ldB (pos := 0) rfl rfl rfl ON3 (.g rfl hG)) ?_
  refine W.g rfl rfl rfl rfl rfl (.t rfl _) rfl (by decide) (fun hG => Yd.gtr rfl (.g rfl hG) .c) ?_
  refine W.q rfl rfl rfl rfl (by decide) (Yd.or rfl (.t rfl) .c rfl rfl) ?_
  refine W.q rfl rfl rfl rfl (by decide) (Yd.mv rfl (.t rfl)) ?_
  refine W.g rfl rfl rfl rfl rfl (.t rfl _) rfl (by decide) (fun hG => Yd.fldB rfl Try.underlying69 rfl SZ3 rfl (.t rfl)) ?_
  refine W.g rfl rfl rfl rfl rfl (.t rfl _) rfl (by decide) (fun hG => Yd.ldB (pos := 0) rfl rfl rfl ON3 (.g rfl hG)) ?_
  refine W.g rfl rfl rfl rfl rfl (.t rfl _) rfl (by decide) (fun hG => Yd.lss rfl (.g rfl hG) .c) ?_
  refine W.q rfl rfl rfl rfl (by decide) (Yd.or rfl (.t rfl) .c rfl rfl) ?_
  refine W.q rfl rfl rfl rfl (by decide) (Yd.mv rfl (.t rfl)) ?_
  refine W.g rfl rfl rfl rfl rfl (.t rfl _) rfl (by decide) (fun hG => Yd.fldB rfl Try.underlying69 rfl SZ3 rfl (.t rfl)) ?_
  refine W.g rfl rfl rfl rfl rfl (.t rfl _) rfl (by decide) (fun hG => Yd.ldB (pos := 0) rfl rfl rfl ON3 (.g rfl hG)) ?_
  refine W.g rfl rfl rfl rfl rfl (.t rfl _) rfl (by decide) (fun hG => Yd.gtr rfl (.g rfl hG) .c) ?_
  refine W.q rfl rfl rfl rfl (by decide) (Yd.or rfl (.t rfl) .c rfl rfl) ?_
  refine W.q rfl rfl rfl rfl (by decide) (Yd.as rfl (.t rfl)) ?_
  refine W.end ?_
  refine NX.sub (env' := [(1, _), (3, _)]) ⟨rfl, rfl, trivial⟩ ?_
  refine NX.then ?_
  refine Tr.cond (.t rfl) (fun hb => ?_) (fun hb => ?_)
  · have hr := cond_t hb hr
    refine Tr.seq ?_
    refine Tr.region_f (fun _ => false) ?_
    refine W.q rfl rfl rfl rfl (by decide) (Yd.as rfl .c) ?_
    refine W.end ?_
    refine NX.sub (env' := [(2, _)]) ⟨rfl, trivial⟩ ?_
    refine NX.drop (l' := l) (.cons _ (.refl _)) ?_
    refine NX.then ?_
    refine Tr.ret' (RT.block (RT.then ?_))
    refine res1 rfl rfl ?_
    intro w hc
    cases hr
    exact ⟨rfl, hc⟩
  · have hr := cond_f hb hr
    refine Tr.seq ?_
    obtain ⟨r3, hr4, hr⟩ := bind_some hr
    refine Tr.region_f (fun _ => false) ?_
    refine W.q rfl rfl rfl rfl (by decide) (Yd.ldBs (pos := 0) (us := [_, _, _, _, _]) rfl rfl rfl rfl ON69 US69 SZ69 (.t rfl)) ?_
    refine W.q rfl rfl rfl rfl (by decide) (Yd.call (v := .bool r3) rfl Try.func56 rfl rfl (.cons (.t rfl) .nil) (fun x' hx w hw => view_shaped_ok w0 x'.m x'.l _ _ (hm_0_3.mono hx.1) _ (hm_0_4.mono hx.1) _ hr4 w hw)) ?_
    refine W.q rfl rfl rfl rfl (by decide) (Yd.not rfl (.t rfl)) ?_
    refine W.q rfl rfl rfl rfl (by decide) (Yd.as rfl (.t rfl)) ?_
    refine W.end ?_
    refine NX.sub (env' := [(1, _), (32, _)]) ⟨rfl, rfl, trivial⟩ ?_
    refine NX.then ?_
    refine Tr.cond (.t rfl) (fun hb => ?_) (fun hb => ?_)
    · have hr := cond_t hb hr
      refine Tr.seq ?_
      refine Tr.region_f (fun _ => false) ?_
      refine W.q rfl rfl rfl rfl (by decide) (Yd.as rfl .c) ?_
      refine W.end ?_
      refine NX.sub (env' := [(2, _)]) ⟨rfl, trivial⟩ ?_
      refine NX.drop (l' := l) (.cons _ (.refl _)) ?_
      refine NX.then ?_
      refine Tr.ret' (RT.block (RT.then ?_))
      refine res1 rfl rfl ?_
      intro w hc
      cases hr
      exact ⟨rfl, hc⟩
    · have hr := cond_f hb hr
      refine Tr.seq ?_
      obtain ⟨r5, hr6, hr⟩ := bind_some hr
      obtain ⟨r10, hr11, hr⟩ := bind_some hr
      obtain ⟨r14, hr15, hr⟩ := bind_some hr
      refine Tr.region_f (fun i => Nat.beq i 2 || Nat.beq i 3) ?_
      refine W.q rfl rfl rfl rfl (by decide) (Yd.fldB rfl Try.underlying69 rfl SZ66 rfl (.t rfl)) ?_
      refine W.q rfl rfl rfl rfl (by decide) (Yd.ldB (pos := 0) rfl rfl rfl ON66 (.t rfl)) ?_
      refine W.e rfl rfl rfl rfl (by decide) (Ef.call (R := fun z x' => ∃ u7 : Value, ∃ m8 : Snap, z = u7 ∧ x' = ⟨m8, hcells b1 [.int .i64 m_0.n, .int .i64 m_0.users, .int .i64 m_0.acts, um_0_3, um_0_4] 69 :: l⟩ ∧ Sle m m8 ∧ RS (Rp.slice rI) m8 u7 r5) rfl Try.func59 rfl rfl (.cons (.t rfl) .nil) (fun w hw => (slices_Concat_SSintSint_ok w0 _ _ _ _ hm_0_3 _ hr6 w hw).mono fun e w' ⟨u7, m8, he, hm', hu9, hc'⟩ => ⟨_, _, he, ⟨u7, m8, rfl, rfl, hm', hu9⟩, hc'⟩)) ?_
      rintro u7 _ ⟨_, m8, rfl, rfl, hsm8, hu9⟩
      have hm_0_3 := hm_0_3.mono hsm8
      have hm_0_4 := hm_0_4.mono hsm8
      refine ⟨.inl rfl, ?_⟩
      refine W.cast (m' := m8) (l' := hcells b1 [_, _, _, _, _] 69 :: l) rfl rfl ?_
      refine W.e rfl rfl rfl rfl (by decide) (Ef.call (R := fun z x' => ∃ v12 : Value, z = v12 ∧ x' = ⟨m8, hownT 3 1 encI v12 r10 :: hcells b1 [.int .i64 m_0.n, .int .i64 m_0.users, .int .i64 m_0.acts, um_0_3, um_0_4] 69 :: l⟩) rfl Try.func58 rfl rfl (.cons (.t rfl) .nil) (fun w hw => (slices_Concat_Sintint_ok w0 _ _ _ _ hu9 _ hr11 w hw).mono fun e w' ⟨v12, he, hc'⟩ => ⟨_, _, he, ⟨v12, rfl, rfl⟩, hc'⟩)) ?_
      rintro v12 _ ⟨_, rfl, rfl⟩
      refine ⟨.inl rfl, ?_⟩
      refine W.cast (m' := m8) (l' := hownT 3 1 encI v12 _ :: hcells b1 [_, _, _, _, _] 69 :: l) rfl rfl ?_
      refine W.q rfl rfl rfl rfl (by decide) (Yd.mkf rfl (.cons (.t rfl) .nil)) ?_
      refine W.q rfl rfl rfl rfl (by decide) (Yd.call (v := .bool r14) rfl Try.func57 rfl rfl (.cons (.t rfl) (.cons (.t rfl) .nil)) (by intro x' hx w hw; obtain ⟨p0, p5, hp0, hp5⟩ := hx.at2 (a := 0) (b := 1) rfl rfl rfl; obtain ⟨m2, hm2, hc2, ⟨L2, hl1, hl2⟩, hback⟩ := cX_lend hw hp0 lone_own; have hL1 : RS rI m2 _ _ := RS_of_own hl1 hl2; exact (slices_ContainsFunc_Sintint_ok w0 m2 _ _ _ hL1 _ (fun a => view_Check_c1 a (({ n := m_0.n, users := m_0.users, acts := m_0.acts, next := m_0.next, sees := m_0.sees } : Machine))) ⟨60, _, _, rfl, Try.func60, rfl, rfl, fun y hy w2 hw2 v a r2 hv hr2 => by obtain ⟨q5, hq5⟩ := hy.at (p := p5) hp5; obtain rfl := hv; exact view_Check_c1_ok w0 y.m y.l a q5 _ _ _ (hm_0_3.mono ((hx.1.trans hm2).trans hy.1)) _ (hm_0_4.mono ((hx.1.trans hm2).trans hy.1)) hq5 r2 hr2 w2 hw2⟩ _ hr15 w hc2).mono fun e w' ⟨he, hc'⟩ => ⟨he, (hback m2 _ _ w' (.refl _) hp0).2 hc'⟩)) ?_
      refine W.q rfl rfl rfl rfl (by decide) (Yd.as rfl (.t rfl)) ?_
      refine W.end ?_
      refine NX.sub (env' := [(36, _)]) ⟨rfl, trivial⟩ ?_
      refine NX.drop (l' := l) (.cons _ (.cons _ (.refl _))) ?_
      refine NX.then ?_
      refine Tr.cond (.t rfl) (fun hb => ?_) (fun hb => ?_)
      · have hr := cond_t hb hr
        refine Tr.seq ?_
        refine Tr.region_f (fun _ => false) ?_
        refine W.q rfl rfl rfl rfl (by decide) (Yd.as rfl .c) ?_
        refine W.end ?_
        refine NX.sub (env' := [(2, _)]) ⟨rfl, trivial⟩ ?_
        refine NX.then ?_
        refine Tr.ret' (RT.block (RT.then ?_))
        refine res1 rfl rfl ?_
        intro w hc
        cases hr
        exact ⟨rfl, (cX_le (x := ⟨m, _⟩) ⟨hsm8, [], rfl⟩ hc)⟩
      · have hr := cond_f hb hr
        refine Tr.skip' ?_
        refine NX.block ?_
        refine NX.then ?_
        refine Tr.seq ?_
        refine Tr.region_f (fun _ => false) ?_
        refine W.q rfl rfl rfl rfl (by decide) (Yd.as rfl .c) ?_
        refine W.end ?_
        refine NX.sub (env' := [(2, _)]) ⟨rfl, trivial⟩ ?_
        refine NX.then ?_
        refine Tr.ret' ?_
        refine res1 rfl rfl ?_
        intro w hc
        cases hr
        exact ⟨rfl, (cX_le (x := ⟨m, _⟩) ⟨hsm8, [], rfl⟩ hc)⟩

def view_wrong (m_0 : Machine) (hidden_1 : (BitVec 32)) : Option (Int) :=
  (view_Check (({ n := m_0.n, users := m_0.users, acts := m_0.acts, next := m_0.next, sees := m_0.sees } : Machine))).bind fun r3 =>
  (bif (r3 != (0 : Int)) then
  some r3
  else
  bif decide (0 ≤ m_0.users) then
  (bif ((hidden_1 >>> m_0.users.toNat) != 0#32) then
  some ((4 : Int))
  else
  some ((0 : Int))) else none)

set_option maxRecDepth 100000 in
set_option maxHeartbeats 4000000 in
theorem view_wrong_ok (w0 : World) (m : Snap) (l : List HI) (m_0 : Machine) (um_0_3 : Value) (hm_0_3 : RS (Rp.slice (Rp.slice rI)) m um_0_3 m_0.next) (um_0_4 : Value) (hm_0_4 : RS (Rp.slice rI) m um_0_4 m_0.sees) (hidden_1 : (BitVec 32)) (r : Int) (hr : view_wrong m_0 hidden_1 = some r) (w : World) (hc : cX w0 ⟨m, l⟩ w) :
    Calls Try.prog 61 [.agg #[.int .i64 m_0.n, .int .i64 m_0.users, .int .i64 m_0.acts, um_0_3, um_0_4], .int .u32 (hidden_1.toNat : Int)].toArray w fun e w' => e = .returned (.int .i64 r) ∧ cX w0 ⟨m, l⟩ w' := by
  unfold view_wrong at hr
  refine calls_of_Tr (N := 16) Try.func61 rfl hc rfl (Nat.le_of_ble_eq_true rfl) ?_
  refine Tr.seq ?_
  refine Tr.region_f (fun i => Nat.beq i 0) ?_
  refine W.e rfl rfl rfl rfl (by decide) (Ef.bx rfl (.t rfl) rfl) ?_
  rintro _ _ ⟨b1, rfl, rfl⟩
  refine ⟨.inl rfl, ?_⟩
  refine W.cast (m' := m) (l' := hcells b1 [_, _, _, _, _] 69 :: l) rfl rfl ?_
  refine W.q rfl rfl rfl rfl (by decide) (Yd.as rfl .c) ?_
  refine W.end ?_
  refine NX.sub (env' := [(1, _), (2, _)]) ⟨rfl, rfl, trivial⟩ ?_
  refine NX.then ?_
  refine Tr.seq ?_
  refine Tr.seq ?_
  obtain ⟨r3, hr4, hr⟩ := bind_some hr
  refine Tr.region_f (fun _ => false) ?_
  refine W.q rfl rfl rfl rfl (by decide) (Yd.ldBs (pos := 0) (us := [_, _, _, _, _]) rfl rfl rfl rfl ON69 US69 SZ69 (.t rfl)) ?_
  refine W.q rfl rfl rfl rfl (by decide) (Yd.call (v := .int .i64 r3) rfl Try.func32 rfl rfl (.cons (.t rfl) .nil) (fun x' hx w hw => view_Check_ok w0 x'.m x'.l _ _ (hm_0_3.mono hx.1) _ (hm_0_4.mono hx.1) _ hr4 w hw)) ?_
  refine W.q rfl rfl rfl rfl (by decide) (Yd.as rfl (.t rfl)) ?_
  refine W.end ?_
  refine NX.sub (env' := [(1, _), (2, _), (5, _)]) ⟨rfl, rfl, rfl, trivial⟩ ?_
  refine NX.then ?_
  refine Tr.seq ?_
  refine Tr.region_f (fun _ => false) ?_
  refine W.q rfl rfl rfl rfl (by decide) (Yd.mv rfl (.t rfl)) ?_
  refine W.q rfl rfl rfl rfl (by decide) (Yd.neq rfl (.t rfl) .c) ?_
  refine W.end ?_
  refine NX.sub (env' := [(1, _), (2, _), (5, _), (9, _)]) ⟨rfl, rfl, rfl, rfl, trivial⟩ ?_
  refine NX.then ?_
  refine Tr.cond (.t rfl) (fun hb => ?_) (fun hb => ?_)
  · have hr := cond_t hb hr
    refine Tr.seq ?_
    refine Tr.region_f (fun _ => false) ?_
    refine W.q rfl rfl rfl rfl (by decide) (Yd.mv rfl (.t rfl)) ?_
    refine W.q rfl rfl rfl rfl (by decide) (Yd.as rfl (.t rfl)) ?_
    refine W.end ?_
    refine NX.sub (env' := [(4, _)]) ⟨rfl, trivial⟩ ?_
    refine NX.drop (l' := l) (.cons _ (.refl _)) ?_
    refine NX.then ?_
    refine Tr.ret' (RT.then ?_)
    refine res1 rfl rfl ?_
    intro w hc
    cases hr
    exact ⟨rfl, hc⟩
  · have hr := cond_f hb hr
    refine Tr.skip' ?_
    refine NX.then ?_
    refine Tr.seq ?_
    refine Tr.seq ?_
    obtain ⟨hq5, hr⟩ := guard_some hr; replace hq5 := of_decide_eq_true hq5
    refine Tr.region_f (fun _ => false) ?_
    refine W.q rfl rfl rfl rfl (by decide) (Yd.mv rfl (.t rfl)) ?_
    refine W.q rfl rfl rfl rfl (by decide) (Yd.fldB rfl Try.underlying69 rfl SZ3 rfl (.t rfl)) ?_
    refine W.q rfl rfl rfl rfl (by decide) (Yd.ldB (pos := 0) rfl rfl rfl ON3 (.t rfl)) ?_
    refine W.q rfl rfl rfl rfl (by decide) (Yd.shrU (a := hidden_1) rfl (.t rfl) (.t rfl) hq5) ?_
    refine W.q rfl rfl rfl rfl (by decide) (Yd.neqU (a := (hidden_1 >>> m_0.users.toNat)) (b := 0#32) rfl (.t rfl) .c) ?_
    refine W.end ?_
    refine NX.sub (env' := [(15, _)]) ⟨rfl, trivial⟩ ?_
    refine NX.drop (l' := l) (.cons _ (.refl _)) ?_
    refine NX.then ?_
    refine Tr.cond (.t rfl) (fun hb => ?_) (fun hb => ?_)
    · have hr := cond_t hb hr
      refine Tr.seq ?_
      refine Tr.region_f (fun _ => false) ?_
      refine W.q rfl rfl rfl rfl (by decide) (Yd.as rfl .c) ?_
      refine W.end ?_
      refine NX.sub (env' := [(4, _)]) ⟨rfl, trivial⟩ ?_
      refine NX.then ?_
      refine Tr.ret' (RT.then ?_)
      refine res1 rfl rfl ?_
      intro w hc
      cases hr
      exact ⟨rfl, hc⟩
    · have hr := cond_f hb hr
      refine Tr.skip' ?_
      refine NX.then ?_
      refine Tr.seq ?_
      refine Tr.region_f (fun _ => false) ?_
      refine W.q rfl rfl rfl rfl (by decide) (Yd.as rfl .c) ?_
      refine W.end ?_
      refine NX.sub (env' := [(4, _)]) ⟨rfl, trivial⟩ ?_
      refine NX.then ?_
      refine Tr.ret' ?_
      refine res1 rfl rfl ?_
      intro w hc
      cases hr
      exact ⟨rfl, hc⟩

def view_same_k5 : Option (Bool) :=
  some true

def view_same_b9 (m_0 : Machine) (hidden_1 : (BitVec 32)) (s_2 : Int) (t_3 : Int) (t_8 : Int) (nx10 : Unit → Option (Bool)) : Option (Bool) :=
  bif (!((((hidden_1 >>> t_8.toNat) &&& 1#32) == 0#32) == true) || (geti m_0.sees s_2).isSome) then
  bif (!((((hidden_1 >>> t_8.toNat) &&& 1#32) == 0#32) == true) || (geti (((geti m_0.sees s_2).getD [])) t_8).isSome) then
  bif (!((((hidden_1 >>> t_8.toNat) &&& 1#32) == 0#32) == true) || (geti m_0.sees t_3).isSome) then
  bif (!((((hidden_1 >>> t_8.toNat) &&& 1#32) == 0#32) == true) || (geti (((geti m_0.sees t_3).getD [])) t_8).isSome) then
  (bif ((((hidden_1 >>> t_8.toNat) &&& 1#32) == 0#32) && (((geti (((geti m_0.sees s_2).getD [])) t_8).getD (0 : Int)) != ((geti (((geti m_0.sees t_3).getD [])) t_8).getD (0 : Int)))) then
  some false
  else
  nx10 ()) else none else none else none else none

def view_same (m_0 : Machine) (hidden_1 : (BitVec 32)) (s_2 : Int) (t_3 : Int) : Option (Bool) :=
  bif decide (m_0.users ≤ 9223372036854775807) then
  forK (σ := Unit) (fun i s nx_ => view_same_b9 m_0 hidden_1 s_2 t_3 i nx_) (fun _ => view_same_k5) (m_0.users - (0 : Int)).toNat (0 : Int) () else none

set_option maxRecDepth 100000 in
set_option maxHeartbeats 4000000 in
theorem view_same_ok (w0 : World) (m : Snap) (l : List HI) (m_0 : Machine) (um_0_3 : Value) (hm_0_3 : RS (Rp.slice (Rp.slice rI)) m um_0_3 m_0.next) (um_0_4 : Value) (hm_0_4 : RS (Rp.slice rI) m um_0_4 m_0.sees) (hidden_1 : (BitVec 32)) (s_2 : Int) (t_3 : Int) (r : Bool) (hr : view_same m_0 hidden_1 s_2 t_3 = some r) (w : World) (hc : cX w0 ⟨m, l⟩ w) :
    Calls Try.prog 62 [.agg #[.int .i64 m_0.n, .int .i64 m_0.users, .int .i64 m_0.acts, um_0_3, um_0_4], .int .u32 (hidden_1.toNat : Int), .int .i64 s_2, .int .i64 t_3].toArray w fun e w' => e = .returned (.bool r) ∧ cX w0 ⟨m, l⟩ w' := by
  unfold view_same at hr
  refine calls_of_Tr (N := 40) Try.func62 rfl hc rfl (Nat.le_of_ble_eq_true rfl) ?_
  refine Tr.seq ?_
  refine Tr.region_f (fun i => Nat.beq i 0) ?_
  refine W.e rfl rfl rfl rfl (by decide) (Ef.bx rfl (.t rfl) rfl) ?_
  rintro _ _ ⟨b1, rfl, rfl⟩
  refine ⟨.inl rfl, ?_⟩
  refine W.cast (m' := m) (l' := hcells b1 [_, _, _, _, _] 69 :: l) rfl rfl ?_
  refine W.q rfl rfl rfl rfl (by decide) (Yd.as rfl .c) ?_
  refine W.end ?_
  refine NX.sub (env' := [(1, _), (2, _), (3, _), (4, _)]) ⟨rfl, rfl, rfl, rfl, trivial⟩ ?_
  refine NX.then ?_
  refine Tr.seq ?_
  refine Tr.seq ?_
  refine Tr.region_f (fun _ => false) ?_
  refine W.q rfl rfl rfl rfl (by decide) (Yd.fldB rfl Try.underlying69 rfl SZ3 rfl (.t rfl)) ?_
  refine W.q rfl rfl rfl rfl (by decide) (Yd.ldB (pos := 0) rfl rfl rfl ON3 (.t rfl)) ?_
  refine W.q rfl rfl rfl rfl (by decide) (Yd.mv rfl .c) ?_
  refine W.end ?_
  refine NX.sub (env' := [(1, _), (2, _), (3, _), (4, _), (11, _), (12, _)]) ⟨rfl, rfl, rfl, rfl, rfl, rfl, trivial⟩ ?_
  refine NX.then ?_
  refine Tr.join (S := fun env x => env = [] ∧ x = ⟨m, l⟩ ∧ view_same_k5 = some r) ?_ (fun hk6 => ?_)
  · rintro _ _ ⟨rfl, rfl, hr⟩
    unfold view_same_k5 at hr
    try dsimp only at hr
    refine NX.then ?_
    refine Tr.seq ?_
    refine Tr.region_f (fun _ => false) ?_
    refine W.q rfl rfl rfl rfl (by decide) (Yd.as rfl .c) ?_
    refine W.end ?_
    refine NX.sub (env' := [(8, _)]) ⟨rfl, trivial⟩ ?_
    refine NX.then ?_
    refine Tr.ret' ?_
    refine res1 rfl rfl ?_
    intro w hc
    cases hr
    exact ⟨rfl, hc⟩
  obtain ⟨hle7, hr⟩ := guard_some hr; replace hle7 := of_decide_eq_true hle7
  refine Tr.block ?_
  refine Tr.sub (env' := [(1, _), (2, _), (3, _), (4, _), (11, _), (12, _)]) ⟨rfl, rfl, rfl, rfl, rfl, rfl, trivial⟩ ?_
  refine Tr.loop (S := fun n (z : Int × Unit) env x => match z with | (t_8, _) => env = [(1, .int .u32 (hidden_1.toNat : Int)), (2, .int .i64 s_2), (3, .int .i64 t_3), (4, bp b1 0), (11, .int .i64 m_0.users), (12, .int .i64 t_8)] ∧ x = ⟨m, hcells b1 [.int .i64 m_0.n, .int .i64 m_0.users, .int .i64 m_0.acts, um_0_3, um_0_4] 69 :: l⟩ ∧ n = (m_0.users - t_8).toNat ∧ 0 ≤ t_8 ∧ forK (σ := Unit) (fun i s nx_ => view_same_b9 m_0 hidden_1 s_2 t_3 i nx_) (fun _ => view_same_k5) n t_8 () = some r) _ ((0 : Int), ()) ⟨rfl, rfl, rfl, (by omega), hr⟩ ?_
  rintro n11 ⟨t_8, _⟩ env x ⟨rfl, rfl, hnt_8, h0t_8, hr⟩
  cases n11 with
  | zero =>
    simp only [forK] at hr
    refine Tr.seq ?_
    refine Tr.region_f (fun _ => false) ?_
    refine W.q rfl rfl rfl rfl (by decide) (Yd.lss rfl (.t rfl) (.t rfl)) ?_
    refine W.end ?_
    refine NX.sub (env' := [(1, _), (2, _), (3, _), (4, _), (11, _), (12, _), (13, _)]) ⟨rfl, rfl, rfl, rfl, rfl, rfl, rfl, trivial⟩ ?_
    refine NX.then ?_
    refine Tr.seq ?_
    refine Tr.cond (.t rfl) (fun hb => ?_) (fun hb => ?_)
    · exact absurd (hb.symm.trans (fr_end hnt_8)) (by decide)
    ·
      refine Tr.exit' (EX.then (EX.then (EX.block ?_)))
      refine NX.sub (env' := []) trivial ?_
      refine NX.drop (l' := l) (.cons _ (.refl _)) ?_
      exact hk6 _ _ ⟨rfl, rfl, hr⟩
  | succ n11 =>
    obtain ⟨nx10, hnx10, hr⟩ := forK_succ hr
    try dsimp only at hr
    unfold view_same_b9 at hr
    try dsimp only at hr
    have hltt_8 := fr_bnd hnt_8
    refine Tr.seq ?_
    refine Tr.region_f (fun _ => false) ?_
    refine W.q rfl rfl rfl rfl (by decide) (Yd.lss rfl (.t rfl) (.t rfl)) ?_
    refine W.end ?_
    refine NX.sub (env' := [(1, _), (2, _), (3, _), (4, _), (11, _), (12, _), (13, _)]) ⟨rfl, rfl, rfl, rfl, rfl, rfl, rfl, trivial⟩ ?_
    refine NX.then ?_
    refine Tr.seq ?_
    refine Tr.cond (.t rfl) (fun hb => ?_) (fun hb => ?_)
    rotate_left
    · exact absurd (hb.symm.trans (fr_go hnt_8)) (by decide)
    ·
      refine Tr.skip' ?_
      refine NX.then ?_
      refine Tr.seq ?_
      refine Tr.block ?_
      refine Tr.seq ?_
      refine Tr.region_f (fun _ => false) ?_
      refine W.q rfl rfl rfl rfl (by decide) (Yd.mv rfl (.t rfl)) ?_
      refine W.q rfl rfl rfl rfl (by decide) (Yd.as rfl (.t rfl)) ?_
      refine W.end ?_
      refine NX.sub (env' := [(1, _), (2, _), (3, _), (4, _), (11, _), (12, _), (9, _)]) ⟨rfl, rfl, rfl, rfl, rfl, rfl, rfl, trivial⟩ ?_
      refine NX.then ?_
      refine Tr.seq ?_
      obtain ⟨ha12, hr⟩ := guard_some hr
      obtain ⟨ha16, hr⟩ := guard_some hr
      obtain ⟨ha17, hr⟩ := guard_some hr
      obtain ⟨ha21, hr⟩ := guard_some hr
      refine Tr.region_x (fun _ => false) (fun _ => false) (Ord.of [0, 1, 2, 3, 4, 5, 6, 7, 8, 9, 10, 11, 12, 13, 14, 15, 16, 17, 18, 19, 20, 21, 22, 23]) FM (by kernel_rfl) ?_
      refine W.q rfl rfl rfl rfl (by decide) (Yd.mv rfl (.t rfl)) ?_
      refine W.q rfl rfl rfl rfl (by decide) (Yd.mv rfl (.t rfl)) ?_
      refine W.q rfl rfl rfl rfl (by decide) (Yd.shrU (a := hidden_1) rfl (.t rfl) (.t rfl) h0t_8) ?_
      refine W.q rfl rfl rfl rfl (by decide) (Yd.andU (a := (hidden_1 >>> t_8.toNat)) (b := 1#32) rfl (.t rfl) .c) ?_
      refine W.q rfl rfl rfl rfl (by decide) (Yd.eqlU (a := ((hidden_1 >>> t_8.toNat) &&& 1#32)) (b := 0#32) rfl (.t rfl) .c) ?_
      refine W.q rfl rfl rfl rfl (by decide) (Yd.mv rfl (.t rfl)) ?_
      refine W.g rfl rfl rfl rfl rfl (.t rfl _) rfl (by decide) (fun hG => Yd.fldB rfl Try.underlying69 rfl SZ67 rfl (.t rfl)) ?_
      refine W.g rfl rfl rfl rfl rfl (.t rfl _) rfl (by decide) (fun hG => Yd.ldB (pos := 0) rfl rfl rfl ON67 (.g rfl hG)) ?_
      refine W.g rfl rfl rfl rfl rfl (.t rfl _) rfl (by decide) (fun hG => Yd.mv rfl (.t rfl)) ?_
      refine W.g rfl rfl rfl rfl rfl (.t rfl _) rfl (by decide) (fun hG => Yd.idxR hm_0_4 (gd_get (d := []) ha12 hG) rfl Try.underlying67 SZ84 (.g rfl hG) (.g rfl hG)) ?_
      obtain ⟨u13, hu14⟩ := RS.rowD hm_0_4 (i := s_2)
      refine W.g rfl rfl rfl rfl rfl (.t rfl _) rfl (by decide) (fun hG => Yd.ldRow (hu14 _ (gd_get (d := []) ha12 hG)).2 (.refl _) rfl ON84 (.g rfl hG)) ?_
      refine W.g rfl rfl rfl rfl rfl (.t rfl _) rfl (by decide) (fun hG => Yd.mv rfl (.t rfl)) ?_
      refine W.g rfl rfl rfl rfl rfl (.t rfl _) rfl (by decide) (fun hG => Yd.idxR (hu14 _ (gd_get (d := []) ha12 hG)).1 (gd_get (d := (0 : Int)) ha16 hG) rfl Try.underlying84 SZ3 (.g rfl hG) (.g rfl hG)) ?_
      refine W.g rfl rfl rfl rfl rfl (.t rfl _) rfl (by decide) (fun hG => Yd.ldF (hu14 _ (gd_get (d := []) ha12 hG)).1 (.refl _) (gd_get (d := (0 : Int)) ha16 hG) rfl rfl ON3 (.g rfl hG)) ?_
      refine W.g rfl rfl rfl rfl rfl (.t rfl _) rfl (by decide) (fun hG => Yd.fldB rfl Try.underlying69 rfl SZ67 rfl (.t rfl)) ?_
      refine W.g rfl rfl rfl rfl rfl (.t rfl _) rfl (by decide) (fun hG => Yd.ldB (pos := 0) rfl rfl rfl ON67 (.g rfl hG)) ?_
      refine W.g rfl rfl rfl rfl rfl (.t rfl _) rfl (by decide) (fun hG => Yd.mv rfl (.t rfl)) ?_
      refine W.g rfl rfl rfl rfl rfl (.t rfl _) rfl (by decide) (fun hG => Yd.idxR hm_0_4 (gd_get (d := []) ha17 hG) rfl Try.underlying67 SZ84 (.g rfl hG) (.g rfl hG)) ?_
      obtain ⟨u18, hu19⟩ := RS.rowD hm_0_4 (i := t_3)
      refine W.g rfl rfl rfl rfl rfl (.t rfl _) rfl (by decide) (fun hG => Yd.ldRow (hu19 _ (gd_get (d := []) ha17 hG)).2 (.refl _) rfl ON84 (.g rfl hG)) ?_
      refine W.g rfl rfl rfl rfl rfl (.t rfl _) rfl (by decide) (fun hG => Yd.mv rfl (.t rfl)) ?_
      refine W.g rfl rfl rfl rfl rfl (.t rfl _) rfl (by decide) (fun hG => Yd.idxR (hu19 _ (gd_get (d := []) ha17 hG)).1 (gd_get (d := (0 : Int)) ha21 hG) rfl Try.underlying84 SZ3 (.g rfl hG) (.g rfl hG)) ?_
      refine W.g rfl rfl rfl rfl rfl (.t rfl _) rfl (by decide) (fun hG => Yd.ldF (hu19 _ (gd_get (d := []) ha17 hG)).1 (.refl _) (gd_get (d := (0 : Int)) ha21 hG) rfl rfl ON3 (.g rfl hG)) ?_
      refine W.g rfl rfl rfl rfl rfl (.t rfl _) rfl (by decide) (fun hG => Yd.neq rfl (.g rfl hG) (.g rfl hG)) ?_
      refine W.q rfl rfl rfl rfl (by decide) (Yd.and rfl (.t rfl) .c rfl rfl) ?_
      refine W.end ?_
      refine NX.sub (env' := [(1, _), (2, _), (3, _), (4, _), (11, _), (12, _), (38, _)]) ⟨rfl, rfl, rfl, rfl, rfl, rfl, rfl, trivial⟩ ?_
      refine NX.then ?_
      refine Tr.cond (.t rfl) (fun hb => ?_) (fun hb => ?_)
      · have hr := cond_t hb hr
        refine Tr.seq ?_
        refine Tr.region_f (fun _ => false) ?_
        refine W.q rfl rfl rfl rfl (by decide) (Yd.as rfl .c) ?_
        refine W.end ?_
        refine NX.sub (env' := [(8, _)]) ⟨rfl, trivial⟩ ?_
        refine NX.drop (l' := l) (.cons _ (.refl _)) ?_
        refine NX.then ?_
        refine Tr.ret' (RT.block (RT.then (RT.then (RT.block (RT.then ?_)))))
        refine res1 rfl rfl ?_
        intro w hc
        cases hr
        exact ⟨rfl, hc⟩
      · have hr := cond_f hb hr
        refine Tr.skip' ?_
        refine NX.block ?_
        refine NX.then ?_
        refine Tr.region_f (fun _ => false) ?_
        refine W.q rfl rfl rfl rfl (by decide) (Yd.add rfl (.t rfl) .c) ?_
        refine W.q rfl rfl rfl rfl (by decide) (Yd.mv rfl (.t rfl)) ?_
        refine W.end ?_
        refine NX.sub (env' := [(1, _), (2, _), (3, _), (4, _), (11, _), (12, _)]) ⟨rfl, rfl, rfl, rfl, rfl, rfl, trivial⟩ ?_
        refine NX.sub (env' := [(1, _), (2, _), (3, _), (4, _), (11, _), (12, _)]) ⟨rfl, rfl, rfl, rfl, rfl, rfl, trivial⟩ ?_
        have hw := w64_id (n := t_8 + 1) (by omega) (by omega)
        exact NX.again n11 (t_8 + 1, ()) (Nat.lt_succ_self _) ⟨(by rw [hw] <;> rfl), rfl, (fr_dec hnt_8), (by omega), ((hnx10 _).symm.trans hr)⟩

def slices_Equal_Sintint_k3 : Option (Bool) :=
  some true

def slices_Equal_Sintint_b7 (s1_0 : List Int) (s2_1 : List Int) (t_6 : Int) (nx8 : Unit → Option (Bool)) : Option (Bool) :=
  (geti s1_0 t_6).bind fun y10 =>
  (geti s2_1 t_6).bind fun y12 =>
  (bif (y10 != y12) then
  some false
  else
  nx8 ())

def slices_Equal_Sintint (s1_0 : List Int) (s2_1 : List Int) : Option (Bool) :=
  (bif ((s1_0.length : Int) != (s2_1.length : Int)) then
  some false
  else
  forK (σ := Unit) (fun i s nx_ => slices_Equal_Sintint_b7 s1_0 s2_1 i nx_) (fun _ => slices_Equal_Sintint_k3) ((s1_0.length : Int) - (0 : Int)).toNat (0 : Int) ())

set_option maxRecDepth 100000 in
set_option maxHeartbeats 4000000 in
theorem slices_Equal_Sintint_ok (w0 : World) (m : Snap) (l : List HI) (us1_0 : Value) (s1_0 : List Int) (hs1_0 : RS rI m us1_0 s1_0) (us2_1 : Value) (s2_1 : List Int) (hs2_1 : RS rI m us2_1 s2_1) (r : Bool) (hr : slices_Equal_Sintint s1_0 s2_1 = some r) (w : World) (hc : cX w0 ⟨m, l⟩ w) :
    Calls Try.prog 67 [us1_0, us2_1].toArray w fun e w' => e = .returned (.bool r) ∧ cX w0 ⟨m, l⟩ w' := by
  unfold slices_Equal_Sintint at hr
  refine calls_of_Tr (N := 26) Try.func67 rfl hc rfl (Nat.le_of_ble_eq_true rfl) ?_
  refine Tr.seq ?_
  refine Tr.region_f (fun _ => false) ?_
  refine W.q rfl rfl rfl rfl (by decide) (Yd.as rfl .c) ?_
  refine W.end ?_
  refine NX.sub (env' := [(0, _), (1, _)]) ⟨rfl, rfl, trivial⟩ ?_
  refine NX.then ?_
  refine Tr.seq ?_
  refine Tr.seq ?_
  refine Tr.region_f (fun _ => false) ?_
  refine W.q rfl rfl rfl rfl (by decide) (Yd.mv rfl (.t rfl)) ?_
  refine W.q rfl rfl rfl rfl (by decide) (Yd.lenR hs1_0 rfl Try.underlying84 (.t rfl)) ?_
  refine W.q rfl rfl rfl rfl (by decide) (Yd.mv rfl (.t rfl)) ?_
  refine W.q rfl rfl rfl rfl (by decide) (Yd.lenR hs2_1 rfl Try.underlying84 (.t rfl)) ?_
  refine W.q rfl rfl rfl rfl (by decide) (Yd.neq rfl (.t rfl) (.t rfl)) ?_
  refine W.end ?_
  refine NX.sub (env' := [(0, _), (1, _), (10, _)]) ⟨rfl, rfl, rfl, trivial⟩ ?_
  refine NX.then ?_
  refine Tr.cond (.t rfl) (fun hb => ?_) (fun hb => ?_)
  · have hr := cond_t hb hr
    refine Tr.seq ?_
    refine Tr.region_f (fun _ => false) ?_
    refine W.q rfl rfl rfl rfl (by decide) (Yd.as rfl .c) ?_
    refine W.end ?_
    refine NX.sub (env' := [(4, _)]) ⟨rfl, trivial⟩ ?_
    refine NX.then ?_
    refine Tr.ret' (RT.then ?_)
    refine res1 rfl rfl ?_
    intro w hc
    cases hr
    exact ⟨rfl, hc⟩
  · have hr := cond_f hb hr
    refine Tr.skip' ?_
    refine NX.then ?_
    refine Tr.seq ?_
    refine Tr.seq ?_
    refine Tr.region_f (fun _ => false) ?_
    refine W.q rfl rfl rfl rfl (by decide) (Yd.mv rfl (.t rfl)) ?_
    refine W.q rfl rfl rfl rfl (by decide) (Yd.lenR hs1_0 rfl Try.underlying84 (.t rfl)) ?_
    refine W.q rfl rfl rfl rfl (by decide) (Yd.mv rfl .c) ?_
    refine W.end ?_
    refine NX.sub (env' := [(0, _), (1, _), (12, _), (13, _)]) ⟨rfl, rfl, rfl, rfl, trivial⟩ ?_
    refine NX.then ?_
    refine Tr.join (S := fun env x => env = [] ∧ x = ⟨m, l⟩ ∧ slices_Equal_Sintint_k3 = some r) ?_ (fun hk4 => ?_)
    · rintro _ _ ⟨rfl, rfl, hr⟩
      unfold slices_Equal_Sintint_k3 at hr
      try dsimp only at hr
      refine NX.then ?_
      refine Tr.seq ?_
      refine Tr.region_f (fun _ => false) ?_
      refine W.q rfl rfl rfl rfl (by decide) (Yd.as rfl .c) ?_
      refine W.end ?_
      refine NX.sub (env' := [(4, _)]) ⟨rfl, trivial⟩ ?_
      refine NX.then ?_
      refine Tr.ret' ?_
      refine res1 rfl rfl ?_
      intro w hc
      cases hr
      exact ⟨rfl, hc⟩
    have hlen5 := (hs1_0).2.1
    refine Tr.block ?_
    refine Tr.sub (env' := [(0, _), (1, _), (12, _), (13, _)]) ⟨rfl, rfl, rfl, rfl, trivial⟩ ?_
    refine Tr.loop (S := fun n (z : Int × Unit) env x => match z with | (t_6, _) => env = [(0, us1_0), (1, us2_1), (12, .int .i64 ((s1_0.length : Int))), (13, .int .i64 t_6)] ∧ x = ⟨m, l⟩ ∧ n = ((s1_0.length : Int) - t_6).toNat ∧ 0 ≤ t_6 ∧ forK (σ := Unit) (fun i s nx_ => slices_Equal_Sintint_b7 s1_0 s2_1 i nx_) (fun _ => slices_Equal_Sintint_k3) n t_6 () = some r) _ ((0 : Int), ()) ⟨rfl, rfl, rfl, (by omega), hr⟩ ?_
    rintro n9 ⟨t_6, _⟩ env x ⟨rfl, rfl, hnt_6, h0t_6, hr⟩
    cases n9 with
    | zero =>
      simp only [forK] at hr
      refine Tr.seq ?_
      refine Tr.region_f (fun _ => false) ?_
      refine W.q rfl rfl rfl rfl (by decide) (Yd.lss rfl (.t rfl) (.t rfl)) ?_
      refine W.end ?_
      refine NX.sub (env' := [(0, _), (1, _), (12, _), (13, _), (14, _)]) ⟨rfl, rfl, rfl, rfl, rfl, trivial⟩ ?_
      refine NX.then ?_
      refine Tr.seq ?_
      refine Tr.cond (.t rfl) (fun hb => ?_) (fun hb => ?_)
      · exact absurd (hb.symm.trans (fr_end hnt_6)) (by decide)
      ·
        refine Tr.exit' (EX.then (EX.then (EX.block ?_)))
        refine NX.sub (env' := []) trivial ?_
        exact hk4 _ _ ⟨rfl, rfl, hr⟩
    | succ n9 =>
      obtain ⟨nx8, hnx8, hr⟩ := forK_succ hr
      try dsimp only at hr
      unfold slices_Equal_Sintint_b7 at hr
      try dsimp only at hr
      have hltt_6 := fr_bnd hnt_6
      refine Tr.seq ?_
      refine Tr.region_f (fun _ => false) ?_
      refine W.q rfl rfl rfl rfl (by decide) (Yd.lss rfl (.t rfl) (.t rfl)) ?_
      refine W.end ?_
      refine NX.sub (env' := [(0, _), (1, _), (12, _), (13, _), (14, _)]) ⟨rfl, rfl, rfl, rfl, rfl, trivial⟩ ?_
      refine NX.then ?_
      refine Tr.seq ?_
      refine Tr.cond (.t rfl) (fun hb => ?_) (fun hb => ?_)
      rotate_left
      · exact absurd (hb.symm.trans (fr_go hnt_6)) (by decide)
      ·
        refine Tr.skip' ?_
        refine NX.then ?_
        refine Tr.seq ?_
        refine Tr.block ?_
        refine Tr.seq ?_
        refine Tr.region_f (fun _ => false) ?_
        refine W.q rfl rfl rfl rfl (by decide) (Yd.mv rfl (.t rfl)) ?_
        refine W.q rfl rfl rfl rfl (by decide) (Yd.as rfl (.t rfl)) ?_
        refine W.end ?_
        refine NX.sub (env' := [(0, _), (1, _), (12, _), (13, _), (5, _)]) ⟨rfl, rfl, rfl, rfl, rfl, trivial⟩ ?_
        refine NX.then ?_
        refine Tr.seq ?_
        obtain ⟨y10, hy11, hr⟩ := bind_some hr
        obtain ⟨y12, hy13, hr⟩ := bind_some hr
        refine Tr.region_x (fun _ => false) (fun _ => false) (Ord.of [0, 1, 2, 3, 4, 5, 6, 7, 8]) FM (by kernel_rfl) ?_
        refine W.q rfl rfl rfl rfl (by decide) (Yd.mv rfl (.t rfl)) ?_
        refine W.q rfl rfl rfl rfl (by decide) (Yd.mv rfl (.t rfl)) ?_
        refine W.q rfl rfl rfl rfl (by decide) (Yd.idxR hs1_0 hy11 rfl Try.underlying84 SZ3 (.t rfl) (.t rfl)) ?_
        refine W.q rfl rfl rfl rfl (by decide) (Yd.ldF hs1_0 (.refl _) hy11 rfl rfl ON3 (.t rfl)) ?_
        refine W.q rfl rfl rfl rfl (by decide) (Yd.mv rfl (.t rfl)) ?_
        refine W.q rfl rfl rfl rfl (by decide) (Yd.mv rfl (.t rfl)) ?_
        refine W.q rfl rfl rfl rfl (by decide) (Yd.idxR hs2_1 hy13 rfl Try.underlying84 SZ3 (.t rfl) (.t rfl)) ?_
        refine W.q rfl rfl rfl rfl (by decide) (Yd.ldF hs2_1 (.refl _) hy13 rfl rfl ON3 (.t rfl)) ?_
        refine W.q rfl rfl rfl rfl (by decide) (Yd.neq rfl (.t rfl) (.t rfl)) ?_
        refine W.end ?_
        refine NX.sub (env' := [(0, _), (1, _), (12, _), (13, _), (24, _)]) ⟨rfl, rfl, rfl, rfl, rfl, trivial⟩ ?_
        refine NX.then ?_
        refine Tr.cond (.t rfl) (fun hb => ?_) (fun hb => ?_)
        · have hr := cond_t hb hr
          refine Tr.seq ?_
          refine Tr.region_f (fun _ => false) ?_
          refine W.q rfl rfl rfl rfl (by decide) (Yd.as rfl .c) ?_
          refine W.end ?_
          refine NX.sub (env' := [(4, _)]) ⟨rfl, trivial⟩ ?_
          refine NX.then ?_
          refine Tr.ret' (RT.block (RT.then (RT.then (RT.block (RT.then ?_)))))
          refine res1 rfl rfl ?_
          intro w hc
          cases hr
          exact ⟨rfl, hc⟩
        · have hr := cond_f hb hr
          refine Tr.skip' ?_
          refine NX.block ?_
          refine NX.then ?_
          refine Tr.region_f (fun _ => false) ?_
          refine W.q rfl rfl rfl rfl (by decide) (Yd.add rfl (.t rfl) .c) ?_
          refine W.q rfl rfl rfl rfl (by decide) (Yd.mv rfl (.t rfl)) ?_
          refine W.end ?_
          refine NX.sub (env' := [(0, _), (1, _), (12, _), (13, _)]) ⟨rfl, rfl, rfl, rfl, trivial⟩ ?_
          refine NX.sub (env' := [(0, _), (1, _), (12, _), (13, _)]) ⟨rfl, rfl, rfl, rfl, trivial⟩ ?_
          have hw := w64_id (n := t_6 + 1) (by omega) (by omega)
          exact NX.again n9 (t_6 + 1, ()) (Nat.lt_succ_self _) ⟨(by rw [hw] <;> rfl), rfl, (fr_dec hnt_6), (by omega), ((hnx8 _).symm.trans hr)⟩

def view_Parts_k40 (part_22 : List Int) (nx27 : ((List Int) → Option ((List Int) × Int))) (l38 : List Int) : Option ((List Int) × Int) :=
  (slices_Equal_Sintint l38 part_22).bind fun r42 =>
  (bif r42 then
  some ((part_22, (0 : Int)))
  else
  nx27 l38)

def view_Parts_k61 (nx49 : ((List Int) → Option ((List Int) × Int))) (l59 : List Int) : Option ((List Int) × Int) :=
  nx49 l59

def view_Parts_k76 (t_47 : Int) (t_56 : Int) (l57 : List Int) (nx64 : ((Int × (List Int)) → Option ((List Int) × Int))) (alike_75 : Bool) : Option ((List Int) × Int) :=
  (bif alike_75 then
  (geti l57 t_47).bind fun y78 =>
  nx64 ((w64 (t_56 - (1 : Int))), (l57.set t_47.toNat t_56))
  else
  nx64 ((w64 (t_56 - (1 : Int))), l57))

def view_Parts_k90 (nx83 : (Bool → Option ((List Int) × Int))) (alike_89 : Bool) : Option ((List Int) × Int) :=
  nx83 alike_89

def view_Parts_b94 (m_0 : Machine) (hidden_1 : (BitVec 32)) (part_22 : List Int) (t_47 : Int) (t_56 : Int) (t_81 : Int) (t_93 : Int) (alike_87 : Bool) (nx95 : Bool → Option ((List Int) × Int)) : Option ((List Int) × Int) :=
  bif (!((alike_87 == true) && ((((hidden_1 >>> t_81.toNat) &&& 1#32) == 1#32) == false)) || (geti m_0.next t_47).isSome) then
  bif (!((alike_87 == true) && ((((hidden_1 >>> t_81.toNat) &&& 1#32) == 1#32) == false)) || (geti (((geti m_0.next t_47).getD [])) t_81).isSome) then
  bif (!((alike_87 == true) && ((((hidden_1 >>> t_81.toNat) &&& 1#32) == 1#32) == false)) || (geti (((geti (((geti m_0.next t_47).getD [])) t_81).getD [])) t_93).isSome) then
  bif (!((alike_87 == true) && ((((hidden_1 >>> t_81.toNat) &&& 1#32) == 1#32) == false)) || (geti part_22 (((geti (((geti (((geti m_0.next t_47).getD [])) t_81).getD [])) t_93).getD (0 : Int)))).isSome) then
  bif (!((alike_87 == true) && ((((hidden_1 >>> t_81.toNat) &&& 1#32) == 1#32) == false)) || (geti m_0.next t_56).isSome) then
  bif (!((alike_87 == true) && ((((hidden_1 >>> t_81.toNat) &&& 1#32) == 1#32) == false)) || (geti (((geti m_0.next t_56).getD [])) t_81).isSome) then
  bif (!((alike_87 == true) && ((((hidden_1 >>> t_81.toNat) &&& 1#32) == 1#32) == false)) || (geti (((geti (((geti m_0.next t_56).getD [])) t_81).getD [])) t_93).isSome) then
  bif (!((alike_87 == true) && ((((hidden_1 >>> t_81.toNat) &&& 1#32) == 1#32) == false)) || (geti part_22 (((geti (((geti (((geti m_0.next t_56).getD [])) t_81).getD [])) t_93).getD (0 : Int)))).isSome) then
  nx95 (alike_87 && ((((hidden_1 >>> t_81.toNat) &&& 1#32) == 1#32) || (((geti part_22 (((geti (((geti (((geti m_0.next t_47).getD [])) t_81).getD [])) t_93).getD (0 : Int)))).getD (0 : Int)) == ((geti part_22 (((geti (((geti (((geti m_0.next t_56).getD [])) t_81).getD [])) t_93).getD (0 : Int)))).getD (0 : Int))))) else none else none else none else none else none else none else none else none

def view_Parts_b82 (m_0 : Machine) (hidden_1 : (BitVec 32)) (part_22 : List Int) (t_47 : Int) (t_56 : Int) (t_81 : Int) (alike_73 : Bool) (nx83 : Bool → Option ((List Int) × Int)) : Option ((List Int) × Int) :=
  bif decide (m_0.acts ≤ 9223372036854775807) then
  forK (σ := Bool) (fun i s nx_ => view_Parts_b94 m_0 hidden_1 part_22 t_47 t_56 t_81 i s nx_) (fun s => view_Parts_k90 nx83 s) (m_0.acts - (0 : Int)).toNat (0 : Int) alike_73 else none

def view_Parts_b63 (m_0 : Machine) (hidden_1 : (BitVec 32)) (part_22 : List Int) (t_47 : Int) (nx49 : ((List Int) → Option ((List Int) × Int))) (t_56 : Int) (l57 : List Int) (nx64 : (Int × (List Int)) → Option ((List Int) × Int)) : Option ((List Int) × Int) :=
  (bif (decide (t_56 ≥ (0 : Int))) then
  (geti part_22 t_47).bind fun y66 =>
  (geti part_22 t_56).bind fun y68 =>
  bif (!((y66 == y68) == true) || (view_same (({ n := m_0.n, users := m_0.users, acts := m_0.acts, next := m_0.next, sees := m_0.sees } : Machine)) hidden_1 t_47 t_56).isSome) then
  bif decide (m_0.users ≤ 9223372036854775807) then
  forK (σ := Bool) (fun i s nx_ => view_Parts_b82 m_0 hidden_1 part_22 t_47 t_56 i s nx_) (fun s => view_Parts_k76 t_47 t_56 l57 nx64 s) (m_0.users - (0 : Int)).toNat (0 : Int) (((y66 == y68) && (((view_same (({ n := m_0.n, users := m_0.users, acts := m_0.acts, next := m_0.next, sees := m_0.sees } : Machine)) hidden_1 t_47 t_56).getD false)))) else none else none
  else
  view_Parts_k61 nx49 l57)

def view_Parts_b48 (m_0 : Machine) (hidden_1 : (BitVec 32)) (fuel : Nat) (part_22 : List Int) (t_47 : Int) (l36 : List Int) (nx49 : (List Int) → Option ((List Int) × Int)) : Option ((List Int) × Int) :=
  (geti l36 t_47).bind fun y51 =>
  whileK (σ := Int × (List Int)) (fun s nx_ => view_Parts_b63 m_0 hidden_1 part_22 t_47 nx49 s.1 s.2 nx_) fuel (((w64 (t_47 - (1 : Int)))), ((l36.set t_47.toNat t_47)))

def view_Parts_b26 (m_0 : Machine) (hidden_1 : (BitVec 32)) (fuel : Nat) (part_22 : List Int) (nx27 : (List Int) → Option ((List Int) × Int)) : Option ((List Int) × Int) :=
  bif decide (0 ≤ m_0.n ∧ m_0.n ≤ 1048576) then
  bif decide (m_0.n ≤ 9223372036854775807) then
  forK (σ := (List Int)) (fun i s nx_ => view_Parts_b48 m_0 hidden_1 fuel part_22 i s nx_) (fun s => view_Parts_k40 part_22 nx27 s) (m_0.n - (0 : Int)).toNat (0 : Int) ((List.replicate m_0.n.toNat (0 : Int))) else none else none

def view_Parts (fuel : Nat) (m_0 : Machine) (hidden_1 : (BitVec 32)) : Option ((List Int) × Int) :=
  (view_wrong (({ n := m_0.n, users := m_0.users, acts := m_0.acts, next := m_0.next, sees := m_0.sees } : Machine)) hidden_1).bind fun r3 =>
  (bif (r3 != (0 : Int)) then
  some (([], r3))
  else
  bif decide (0 ≤ m_0.n ∧ m_0.n ≤ 1048576) then
  whileK (σ := (List Int)) (fun s nx_ => view_Parts_b26 m_0 hidden_1 fuel s nx_) fuel ((List.replicate m_0.n.toNat (0 : Int))) else none)

set_option maxRecDepth 100000 in
set_option maxHeartbeats 4000000 in
theorem view_Parts_ok (w0 : World) (m : Snap) (l : List HI) (fuel : Nat) (m_0 : Machine) (um_0_3 : Value) (hm_0_3 : RS (Rp.slice (Rp.slice rI)) m um_0_3 m_0.next) (um_0_4 : Value) (hm_0_4 : RS (Rp.slice rI) m um_0_4 m_0.sees) (hidden_1 : (BitVec 32)) (r : (List Int) × Int) (hr : view_Parts fuel m_0 hidden_1 = some r) (w : World) (hc : cX w0 ⟨m, l⟩ w) :
    Calls Try.prog 41 [.agg #[.int .i64 m_0.n, .int .i64 m_0.users, .int .i64 m_0.acts, um_0_3, um_0_4], .int .u32 (hidden_1.toNat : Int)].toArray w fun e w' => ∃ z0 : Value, ∃ m1 : Snap, e = .returned (.tuple #[z0, .int .i64 r.2]) ∧ Sle m m1 ∧ RS rI m1 z0 r.1 ∧ cX w0 ⟨m1, l⟩ w' := by
  unfold view_Parts at hr
  refine calls_of_Tr (N := 119) Try.func41 rfl hc rfl (Nat.le_of_ble_eq_true rfl) ?_
  refine Tr.seq ?_
  refine Tr.region_f (fun i => Nat.beq i 0) ?_
  refine W.e rfl rfl rfl rfl (by decide) (Ef.bx rfl (.t rfl) rfl) ?_
  rintro _ _ ⟨b1, rfl, rfl⟩
  refine ⟨.inl rfl, ?_⟩
  refine W.cast (m' := m) (l' := hcells b1 [_, _, _, _, _] 69 :: l) rfl rfl ?_
  refine W.q rfl rfl rfl rfl (by decide) (Yd.as rfl .c) ?_
  refine W.q rfl rfl rfl rfl (by decide) (Yd.as rfl .c) ?_
  refine W.end ?_
  refine NX.sub (env' := [(1, _), (2, _)]) ⟨rfl, rfl, trivial⟩ ?_
  refine NX.then ?_
  refine Tr.seq ?_
  refine Tr.seq ?_
  obtain ⟨r3, hr4, hr⟩ := bind_some hr
  refine Tr.region_f (fun _ => false) ?_
  refine W.q rfl rfl rfl rfl (by decide) (Yd.ldBs (pos := 0) (us := [_, _, _, _, _]) rfl rfl rfl rfl ON69 US69 SZ69 (.t rfl)) ?_
  refine W.q rfl rfl rfl rfl (by decide) (Yd.mv rfl (.t rfl)) ?_
  refine W.q rfl rfl rfl rfl (by decide) (Yd.call (v := .int .i64 r3) rfl Try.func61 rfl rfl (.cons (.t rfl) (.cons (.t rfl) .nil)) (fun x' hx w hw => view_wrong_ok w0 x'.m x'.l _ _ (hm_0_3.mono hx.1) _ (hm_0_4.mono hx.1) hidden_1 _ hr4 w hw)) ?_
  refine W.q rfl rfl rfl rfl (by decide) (Yd.as rfl (.t rfl)) ?_
  refine W.end ?_
  refine NX.sub (env' := [(1, _), (2, _), (6, _)]) ⟨rfl, rfl, rfl, trivial⟩ ?_
  refine NX.then ?_
  refine Tr.seq ?_
  refine Tr.region_f (fun _ => false) ?_
  refine W.q rfl rfl rfl rfl (by decide) (Yd.mv rfl (.t rfl)) ?_
  refine W.q rfl rfl rfl rfl (by decide) (Yd.neq rfl (.t rfl) .c) ?_
  refine W.end ?_
  refine NX.sub (env' := [(1, _), (2, _), (6, _), (18, _)]) ⟨rfl, rfl, rfl, rfl, trivial⟩ ?_
  refine NX.then ?_
  refine Tr.cond (.t rfl) (fun hb => ?_) (fun hb => ?_)
  · have hr := cond_t hb hr
    refine Tr.seq ?_
    refine Tr.region_f (fun _ => false) ?_
    refine W.q rfl rfl rfl rfl (by decide) (Yd.mv rfl (.t rfl)) ?_
    refine W.q rfl rfl rfl rfl (by decide) (Yd.as rfl .c) ?_
    refine W.q rfl rfl rfl rfl (by decide) (Yd.as rfl (.t rfl)) ?_
    refine W.end ?_
    refine NX.sub (env' := [(4, _), (5, _)]) ⟨rfl, rfl, trivial⟩ ?_
    refine NX.drop (l' := l) (.cons _ (.refl _)) ?_
    refine NX.then ?_
    refine Tr.ret' (RT.then ?_)
    refine res2 rfl rfl rfl ?_
    intro w hc
    cases hr
    exact ⟨_, _, rfl, (.refl _), (RS.nil _ _), hc⟩
  · have hr := cond_f hb hr
    refine Tr.skip' ?_
    refine NX.then ?_
    refine Tr.seq ?_
    obtain ⟨hq5, hr⟩ := guard_some hr; replace hq5 := of_decide_eq_true hq5
    refine Tr.region_f (fun i => Nat.beq i 2) ?_
    refine W.q rfl rfl rfl rfl (by decide) (Yd.fldB rfl Try.underlying69 rfl SZ3 rfl (.t rfl)) ?_
    refine W.q rfl rfl rfl rfl (by decide) (Yd.ldB (pos := 0) rfl rfl rfl ON3 (.t rfl)) ?_
    refine W.e rfl rfl rfl rfl (by decide) (Ef.mkT (enc := encI) (0 : Int) IF3 rfl Try.underlying84 rfl rfl (by decide) (.t rfl) (.t rfl) (by omega) (by omega) (by omega)) ?_
    rintro v6 _ rfl
    refine ⟨.inl rfl, ?_⟩
    refine W.cast (m' := m) (l' := hownT 3 1 encI v6 _ :: hcells b1 [_, _, _, _, _] 69 :: l) rfl rfl ?_
    refine W.q rfl rfl rfl rfl (by decide) (Yd.as rfl (.t rfl)) ?_
    refine W.end ?_
    refine NX.sub (env' := [(1, _), (2, _), (7, _)]) ⟨rfl, rfl, rfl, trivial⟩ ?_
    refine NX.then ?_
    refine Tr.freezeT (enc := encI) (n := 1) (pos := 0) (xs := (List.replicate m_0.n.toNat (0 : Int))) (fun _ => rfl) rfl (fun m16 hsm16 hu17 => ?_)
    have hm_0_3 := hm_0_3.mono hsm16
    have hm_0_4 := hm_0_4.mono hsm16
    refine Tr.cast (m' := m16) (l' := hcells b1 [_, _, _, _, _] 69 :: l) rfl rfl ?_
    refine Tr.block ?_
    refine Tr.sub (env' := [(1, _), (2, _), (7, _)]) ⟨rfl, rfl, rfl, trivial⟩ ?_
    refine Tr.loop (S := fun n (z : (List Int)) env x => match z with | part_22 => ∃ m25 : Snap, ∃ u23 : Value, Sle m16 m25 ∧ RS rI m25 u23 part_22 ∧ env = [(1, .int .u32 (hidden_1.toNat : Int)), (2, bp b1 0), (7, u23)] ∧ x = ⟨m25, hcells b1 [.int .i64 m_0.n, .int .i64 m_0.users, .int .i64 m_0.acts, um_0_3, um_0_4] 69 :: l⟩ ∧ whileK (σ := (List Int)) (fun s nx_ => view_Parts_b26 m_0 hidden_1 fuel s nx_) n part_22 = some r) _ (List.replicate m_0.n.toNat (0 : Int)) ⟨_, _, (.refl _), hu17, rfl, rfl, hr⟩ ?_
    rintro n28 part_22 env x ⟨m25, u23, hsm25, hu24, rfl, rfl, hr⟩
    have hm_0_3 := hm_0_3.mono hsm25
    have hm_0_4 := hm_0_4.mono hsm25
    have hu17 := hu17.mono hsm25
    cases n28 with
    | zero => simp [whileK] at hr
    | succ n28 =>
      obtain ⟨nx27, hnx27, hr⟩ := whileK_succ hr
      try dsimp only at hr
      unfold view_Parts_b26 at hr
      try dsimp only at hr
      refine Tr.block ?_
      refine Tr.seq ?_
      obtain ⟨hq29, hr⟩ := guard_some hr; replace hq29 := of_decide_eq_true hq29
      refine Tr.region_f (fun i => Nat.beq i 2) ?_
      refine W.q rfl rfl rfl rfl (by decide) (Yd.fldB rfl Try.underlying69 rfl SZ3 rfl (.t rfl)) ?_
      refine W.q rfl rfl rfl rfl (by decide) (Yd.ldB (pos := 0) rfl rfl rfl ON3 (.t rfl)) ?_
      refine W.e rfl rfl rfl rfl (by decide) (Ef.mkT (enc := encI) (0 : Int) IF3 rfl Try.underlying84 rfl rfl (by decide) (.t rfl) (.t rfl) (by omega) (by omega) (by omega)) ?_
      rintro v30 _ rfl
      refine ⟨.inl rfl, ?_⟩
      refine W.cast (m' := m25) (l' := hownT 3 1 encI v30 _ :: hcells b1 [_, _, _, _, _] 69 :: l) rfl rfl ?_
      refine W.q rfl rfl rfl rfl (by decide) (Yd.as rfl (.t rfl)) ?_
      refine W.end ?_
      refine NX.sub (env' := [(1, _), (2, _), (7, _), (8, _)]) ⟨rfl, rfl, rfl, rfl, trivial⟩ ?_
      refine NX.then ?_
      refine Tr.seq ?_
      refine Tr.seq ?_
      refine Tr.region_f (fun _ => false) ?_
      refine W.q rfl rfl rfl rfl (by decide) (Yd.fldB rfl Try.underlying69 rfl SZ3 rfl (.t rfl)) ?_
      refine W.q rfl rfl rfl rfl (by decide) (Yd.ldB (pos := 1) rfl rfl rfl ON3 (.t rfl)) ?_
      refine W.q rfl rfl rfl rfl (by decide) (Yd.mv rfl .c) ?_
      refine W.end ?_
      refine NX.sub (env' := [(1, _), (2, _), (7, _), (8, _), (27, _), (28, _)]) ⟨rfl, rfl, rfl, rfl, rfl, rfl, trivial⟩ ?_
      refine NX.then ?_
      refine Tr.join (S := fun env x => ∃ l38 : List Int, ∃ v39 : Value, env = [(1, .int .u32 (hidden_1.toNat : Int)), (2, bp b1 0), (7, u23), (8, v39)] ∧ x = ⟨m25, hownT 3 1 encI v39 l38 :: hcells b1 [.int .i64 m_0.n, .int .i64 m_0.users, .int .i64 m_0.acts, um_0_3, um_0_4] 69 :: l⟩ ∧ view_Parts_k40 part_22 nx27 l38 = some r) ?_ (fun hk41 => ?_)
      · rintro _ _ ⟨l38, v39, rfl, rfl, hr⟩
        unfold view_Parts_k40 at hr
        try dsimp only at hr
        refine NX.then ?_
        refine Tr.seq ?_
        refine Tr.seq ?_
        obtain ⟨r42, hr43, hr⟩ := bind_some hr
        refine Tr.region_f (fun _ => false) ?_
        refine W.q rfl rfl rfl rfl (by decide) (Yd.mv rfl (.t rfl)) ?_
        refine W.q rfl rfl rfl rfl (by decide) (Yd.mv rfl (.t rfl)) ?_
        refine W.q rfl rfl rfl rfl (by decide) (Yd.call (v := .bool r42) rfl Try.func67 rfl rfl (.cons (.t rfl) (.cons (.t rfl) .nil)) (by intro x' hx w hw; obtain ⟨p0, hp0⟩ := hx.at (p := 0) rfl; obtain ⟨m2, hm2, hc2, ⟨L2, hl1, hl2⟩, hback⟩ := cX_lend hw hp0 lone_own; have hL1 : RS rI m2 _ _ := RS_of_own hl1 hl2; exact (slices_Equal_Sintint_ok w0 m2 _ _ _ hL1 _ _ (hu24.mono (hx.1.trans hm2)) _ hr43 w hc2).mono fun e w' ⟨he, hc'⟩ => ⟨he, (hback m2 _ _ w' (.refl _) hp0).2 hc'⟩)) ?_
        refine W.end ?_
        refine NX.sub (env' := [(1, _), (2, _), (7, _), (8, _), (116, _)]) ⟨rfl, rfl, rfl, rfl, rfl, trivial⟩ ?_
        refine NX.then ?_
        refine Tr.cond (.t rfl) (fun hb => ?_) (fun hb => ?_)
        · have hr := cond_t hb hr
          refine Tr.seq ?_
          refine Tr.region_f (fun _ => false) ?_
          refine W.q rfl rfl rfl rfl (by decide) (Yd.mv rfl (.t rfl)) ?_
          refine W.q rfl rfl rfl rfl (by decide) (Yd.as rfl (.t rfl)) ?_
          refine W.q rfl rfl rfl rfl (by decide) (Yd.as rfl .c) ?_
          refine W.end ?_
          refine NX.sub (env' := [(4, _), (5, _)]) ⟨rfl, rfl, trivial⟩ ?_
          refine NX.drop (l' := l) (.cons _ (.cons _ (.refl _))) ?_
          refine NX.then ?_
          refine Tr.ret' (RT.then (RT.block (RT.then (RT.block ?_))))
          refine res2 rfl rfl rfl ?_
          intro w hc
          cases hr
          exact ⟨_, _, rfl, (hsm16.trans hsm25), hu24, hc⟩
        · have hr := cond_f hb hr
          refine Tr.skip' ?_
          refine NX.then ?_
          refine Tr.region_f (fun _ => false) ?_
          refine W.q rfl rfl rfl rfl (by decide) (Yd.mv rfl (.t rfl)) ?_
          refine W.q rfl rfl rfl rfl (by decide) (Yd.as rfl (.t rfl)) ?_
          refine W.end ?_
          refine NX.sub (env' := [(1, _), (2, _), (7, _)]) ⟨rfl, rfl, rfl, trivial⟩ ?_
          refine NX.block ?_
          refine NX.freezeT (enc := encI) (n := 1) (pos := 0) (xs := l38) (fun _ => rfl) rfl (fun m44 hsm44 hu45 => ?_)
          have hm_0_3 := hm_0_3.mono hsm44
          have hm_0_4 := hm_0_4.mono hsm44
          have hu17 := hu17.mono hsm44
          have hu24 := hu24.mono hsm44
          refine NX.cast (m' := m44) (l' := hcells b1 [_, _, _, _, _] 69 :: l) rfl rfl ?_
          refine NX.sub (env' := [(1, _), (2, _), (7, _)]) ⟨rfl, rfl, rfl, trivial⟩ ?_
          exact NX.again n28 l38 (Nat.lt_succ_self _) ⟨_, _, (hsm25.trans hsm44), hu45, rfl, rfl, ((hnx27 _).symm.trans hr)⟩
      obtain ⟨hle46, hr⟩ := guard_some hr; replace hle46 := of_decide_eq_true hle46
      refine Tr.block ?_
      refine Tr.sub (env' := [(1, _), (2, _), (7, _), (8, _), (27, _), (28, _)]) ⟨rfl, rfl, rfl, rfl, rfl, rfl, trivial⟩ ?_
      refine Tr.loop (S := fun n (z : Int × (List Int)) env x => match z with | (t_47, l36) => ∃ v37 : Value, env = [(1, .int .u32 (hidden_1.toNat : Int)), (2, bp b1 0), (7, u23), (8, v37), (27, .int .i64 m_0.n), (28, .int .i64 t_47)] ∧ x = ⟨m25, hownT 3 1 encI v37 l36 :: hcells b1 [.int .i64 m_0.n, .int .i64 m_0.users, .int .i64 m_0.acts, um_0_3, um_0_4] 69 :: l⟩ ∧ n = (m_0.n - t_47).toNat ∧ 0 ≤ t_47 ∧ forK (σ := (List Int)) (fun i s nx_ => view_Parts_b48 m_0 hidden_1 fuel part_22 i s nx_) (fun s => view_Parts_k40 part_22 nx27 s) n t_47 l36 = some r) _ ((0 : Int), (List.replicate m_0.n.toNat (0 : Int))) ⟨_, rfl, rfl, rfl, (by omega), hr⟩ ?_
      rintro n50 ⟨t_47, l36⟩ env x ⟨v37, rfl, rfl, hnt_47, h0t_47, hr⟩
      cases n50 with
      | zero =>
        simp only [forK] at hr
        refine Tr.seq ?_
        refine Tr.region_f (fun _ => false) ?_
        refine W.q rfl rfl rfl rfl (by decide) (Yd.lss rfl (.t rfl) (.t rfl)) ?_
        refine W.end ?_
        refine NX.sub (env' := [(1, _), (2, _), (7, _), (8, _), (27, _), (28, _), (29, _)]) ⟨rfl, rfl, rfl, rfl, rfl, rfl, rfl, trivial⟩ ?_
        refine NX.then ?_
        refine Tr.seq ?_
        refine Tr.cond (.t rfl) (fun hb => ?_) (fun hb => ?_)
        · exact absurd (hb.symm.trans (fr_end hnt_47)) (by decide)
        ·
          refine Tr.exit' (EX.then (EX.then (EX.block ?_)))
          refine NX.sub (env' := [(1, _), (2, _), (7, _), (8, _)]) ⟨rfl, rfl, rfl, rfl, trivial⟩ ?_
          exact hk41 _ _ ⟨_, _, rfl, rfl, hr⟩
      | succ n50 =>
        obtain ⟨nx49, hnx49, hr⟩ := forK_succ hr
        try dsimp only at hr
        unfold view_Parts_b48 at hr
        try dsimp only at hr
        have hltt_47 := fr_bnd hnt_47
        refine Tr.seq ?_
        refine Tr.region_f (fun _ => false) ?_
        refine W.q rfl rfl rfl rfl (by decide) (Yd.lss rfl (.t rfl) (.t rfl)) ?_
        refine W.end ?_
        refine NX.sub (env' := [(1, _), (2, _), (7, _), (8, _), (27, _), (28, _), (29, _)]) ⟨rfl, rfl, rfl, rfl, rfl, rfl, rfl, trivial⟩ ?_
        refine NX.then ?_
        refine Tr.seq ?_
        refine Tr.cond (.t rfl) (fun hb => ?_) (fun hb => ?_)
        rotate_left
        · exact absurd (hb.symm.trans (fr_go hnt_47)) (by decide)
        ·
          refine Tr.skip' ?_
          refine NX.then ?_
          refine Tr.seq ?_
          refine Tr.block ?_
          refine Tr.seq ?_
          refine Tr.region_f (fun _ => false) ?_
          refine W.q rfl rfl rfl rfl (by decide) (Yd.mv rfl (.t rfl)) ?_
          refine W.q rfl rfl rfl rfl (by decide) (Yd.as rfl (.t rfl)) ?_
          refine W.end ?_
          refine NX.sub (env' := [(1, _), (2, _), (7, _), (8, _), (27, _), (28, _), (9, _)]) ⟨rfl, rfl, rfl, rfl, rfl, rfl, rfl, trivial⟩ ?_
          refine NX.then ?_
          refine Tr.seq ?_
          obtain ⟨y51, hy52, hr⟩ := bind_some hr
          refine Tr.region_f (fun i => Nat.beq i 4) ?_
          refine W.q rfl rfl rfl rfl (by decide) (Yd.mv rfl (.t rfl)) ?_
          refine W.q rfl rfl rfl rfl (by decide) (Yd.mv rfl (.t rfl)) ?_
          refine W.q rfl rfl rfl rfl (by decide) (Yd.mv rfl (.t rfl)) ?_
          refine W.q rfl rfl rfl rfl (by decide) (Yd.idxT (pos := 0) rfl hy52 rfl Try.underlying84 SZ3 (.t rfl) (.t rfl)) ?_
          refine W.s rfl rfl rfl rfl (Ef.stT (enc := encI) (n := 1) (pos := 0) (y := t_47) (us := [_]) (fun _ => rfl) rfl hy52 rfl (.t rfl) (.t rfl) SZ3 rfl rfl rfl (by decide)) ?_
          rintro _ _ ⟨rfl, rfl⟩
          refine ⟨.inl rfl, ?_⟩
          refine W.cast (m' := m25) (l' := hownT 3 1 encI v37 _ :: hcells b1 [_, _, _, _, _] 69 :: l) rfl rfl ?_
          refine W.end ?_
          refine NX.sub (env' := [(1, _), (2, _), (7, _), (8, _), (27, _), (28, _), (9, _)]) ⟨rfl, rfl, rfl, rfl, rfl, rfl, rfl, trivial⟩ ?_
          refine NX.then ?_
          refine Tr.seq ?_
          refine Tr.region_f (fun _ => false) ?_
          refine W.q rfl rfl rfl rfl (by decide) (Yd.mv rfl (.t rfl)) ?_
          refine W.q rfl rfl rfl rfl (by decide) (Yd.sub rfl (.t rfl) .c) ?_
          refine W.q rfl rfl rfl rfl (by decide) (Yd.as rfl (.t rfl)) ?_
          refine W.end ?_
          refine NX.sub (env' := [(1, _), (2, _), (7, _), (8, _), (27, _), (28, _), (9, _), (10, _)]) ⟨rfl, rfl, rfl, rfl, rfl, rfl, rfl, rfl, trivial⟩ ?_
          refine NX.then ?_
          refine Tr.join (S := fun env x => ∃ l59 : List Int, ∃ v60 : Value, env = [(1, .int .u32 (hidden_1.toNat : Int)), (2, bp b1 0), (7, u23), (8, v60), (27, .int .i64 m_0.n), (28, .int .i64 t_47)] ∧ x = ⟨m25, hownT 3 1 encI v60 l59 :: hcells b1 [.int .i64 m_0.n, .int .i64 m_0.users, .int .i64 m_0.acts, um_0_3, um_0_4] 69 :: l⟩ ∧ view_Parts_k61 nx49 l59 = some r) ?_ (fun hk62 => ?_)
          · rintro _ _ ⟨l59, v60, rfl, rfl, hr⟩
            unfold view_Parts_k61 at hr
            try dsimp only at hr
            refine NX.block ?_
            refine NX.then ?_
            refine Tr.region_f (fun _ => false) ?_
            refine W.q rfl rfl rfl rfl (by decide) (Yd.add rfl (.t rfl) .c) ?_
            refine W.q rfl rfl rfl rfl (by decide) (Yd.mv rfl (.t rfl)) ?_
            refine W.end ?_
            refine NX.sub (env' := [(1, _), (2, _), (7, _), (8, _), (27, _), (28, _)]) ⟨rfl, rfl, rfl, rfl, rfl, rfl, trivial⟩ ?_
            refine NX.sub (env' := [(1, _), (2, _), (7, _), (8, _), (27, _), (28, _)]) ⟨rfl, rfl, rfl, rfl, rfl, rfl, trivial⟩ ?_
            have hw := w64_id (n := t_47 + 1) (by omega) (by omega)
            exact NX.again n50 (t_47 + 1, l59) (Nat.lt_succ_self _) ⟨_, (by rw [hw] <;> rfl), rfl, (fr_dec hnt_47), (by omega), ((hnx49 _).symm.trans hr)⟩
          refine Tr.block ?_
          refine Tr.sub (env' := [(1, _), (2, _), (7, _), (8, _), (9, _), (10, _), (27, _), (28, _)]) ⟨rfl, rfl, rfl, rfl, rfl, rfl, rfl, rfl, trivial⟩ ?_
          refine Tr.loop (S := fun n (z : Int × (List Int)) env x => match z with | (t_56, l57) => ∃ v58 : Value, env = [(1, .int .u32 (hidden_1.toNat : Int)), (2, bp b1 0), (7, u23), (8, v58), (9, .int .i64 t_47), (10, .int .i64 t_56), (27, .int .i64 m_0.n), (28, .int .i64 t_47)] ∧ x = ⟨m25, hownT 3 1 encI v58 l57 :: hcells b1 [.int .i64 m_0.n, .int .i64 m_0.users, .int .i64 m_0.acts, um_0_3, um_0_4] 69 :: l⟩ ∧ whileK (σ := Int × (List Int)) (fun s nx_ => view_Parts_b63 m_0 hidden_1 part_22 t_47 nx49 s.1 s.2 nx_) n (t_56, l57) = some r) _ ((w64 (t_47 - (1 : Int))), (l36.set t_47.toNat t_47)) ⟨_, rfl, rfl, hr⟩ ?_
          rintro n65 ⟨t_56, l57⟩ env x ⟨v58, rfl, rfl, hr⟩
          cases n65 with
          | zero => simp [whileK] at hr
          | succ n65 =>
            obtain ⟨nx64, hnx64, hr⟩ := whileK_succ hr
            try dsimp only at hr
            unfold view_Parts_b63 at hr
            try dsimp only at hr
            refine Tr.seq ?_
            refine Tr.seq ?_
            refine Tr.region_f (fun _ => false) ?_
            refine W.q rfl rfl rfl rfl (by decide) (Yd.mv rfl (.t rfl)) ?_
            refine W.q rfl rfl rfl rfl (by decide) (Yd.geq rfl (.t rfl) .c) ?_
            refine W.end ?_
            refine NX.sub (env' := [(1, _), (2, _), (7, _), (8, _), (9, _), (10, _), (27, _), (28, _), (38, _)]) ⟨rfl, rfl, rfl, rfl, rfl, rfl, rfl, rfl, rfl, trivial⟩ ?_
            refine NX.then ?_
            refine Tr.cond (.t rfl) (fun hb => ?_) (fun hb => ?_)
            · have hr := cond_t hb hr
              refine Tr.skip' ?_
              refine NX.then ?_
              refine Tr.seq ?_
              refine Tr.block ?_
              refine Tr.seq ?_
              obtain ⟨y66, hy67, hr⟩ := bind_some hr
              obtain ⟨y68, hy69, hr⟩ := bind_some hr
              obtain ⟨ha70, hr⟩ := guard_some hr
              refine Tr.region_x (fun _ => false) (fun _ => false) (Ord.of [0, 1, 2, 3, 4, 5, 6, 7, 8, 9, 10, 11, 12, 13, 14, 15, 16]) FM (by kernel_rfl) ?_
              refine W.q rfl rfl rfl rfl (by decide) (Yd.mv rfl (.t rfl)) ?_
              refine W.q rfl rfl rfl rfl (by decide) (Yd.mv rfl (.t rfl)) ?_
              refine W.q rfl rfl rfl rfl (by decide) (Yd.idxR hu24 hy67 rfl Try.underlying84 SZ3 (.t rfl) (.t rfl)) ?_
              refine W.q rfl rfl rfl rfl (by decide) (Yd.ldF hu24 (.refl _) hy67 rfl rfl ON3 (.t rfl)) ?_
              refine W.q rfl rfl rfl rfl (by decide) (Yd.mv rfl (.t rfl)) ?_
              refine W.q rfl rfl rfl rfl (by decide) (Yd.mv rfl (.t rfl)) ?_
              refine W.q rfl rfl rfl rfl (by decide) (Yd.idxR hu24 hy69 rfl Try.underlying84 SZ3 (.t rfl) (.t rfl)) ?_
              refine W.q rfl rfl rfl rfl (by decide) (Yd.ldF hu24 (.refl _) hy69 rfl rfl ON3 (.t rfl)) ?_
              refine W.q rfl rfl rfl rfl (by decide) (Yd.eql rfl (.t rfl) (.t rfl)) ?_
              refine W.q rfl rfl rfl rfl (by decide) (Yd.mv rfl (.t rfl)) ?_
              refine W.g rfl rfl rfl rfl rfl (.t rfl _) rfl (by decide) (fun hG => Yd.ldBs (pos := 1) (us := [_, _, _, _, _]) rfl rfl rfl rfl ON69 US69 SZ69 (.t rfl)) ?_
              refine W.g rfl rfl rfl rfl rfl (.t rfl _) rfl (by decide) (fun hG => Yd.mv rfl (.t rfl)) ?_
              refine W.g rfl rfl rfl rfl rfl (.t rfl _) rfl (by decide) (fun hG => Yd.mv rfl (.t rfl)) ?_
              refine W.g rfl rfl rfl rfl rfl (.t rfl _) rfl (by decide) (fun hG => Yd.mv rfl (.t rfl)) ?_
              refine W.g rfl rfl rfl rfl rfl (.t rfl _) rfl (by decide) (fun hG => Yd.call (v := .bool ((((view_same (({ n := m_0.n, users := m_0.users, acts := m_0.acts, next := m_0.next, sees := m_0.sees } : Machine)) hidden_1 t_47 t_56).getD false)))) rfl Try.func62 rfl rfl (.cons (.g rfl hG) (.cons (.g rfl hG) (.cons (.g rfl hG) (.cons (.g rfl hG) .nil)))) (fun x' hx w hw => view_same_ok w0 x'.m x'.l _ _ (hm_0_3.mono hx.1) _ (hm_0_4.mono hx.1) hidden_1 t_47 t_56 _ (gd_get (d := false) ha70 hG) w hw)) ?_
              refine W.q rfl rfl rfl rfl (by decide) (Yd.and rfl (.t rfl) .c rfl rfl) ?_
              refine W.q rfl rfl rfl rfl (by decide) (Yd.as rfl (.t rfl)) ?_
              refine W.end ?_
              refine NX.sub (env' := [(1, _), (2, _), (7, _), (8, _), (9, _), (10, _), (27, _), (28, _), (11, _)]) ⟨rfl, rfl, rfl, rfl, rfl, rfl, rfl, rfl, rfl, trivial⟩ ?_
              refine NX.then ?_
              refine Tr.seq ?_
              refine Tr.seq ?_
              refine Tr.region_f (fun _ => false) ?_
              refine W.q rfl rfl rfl rfl (by decide) (Yd.fldB rfl Try.underlying69 rfl SZ3 rfl (.t rfl)) ?_
              refine W.q rfl rfl rfl rfl (by decide) (Yd.ldB (pos := 1) rfl rfl rfl ON3 (.t rfl)) ?_
              refine W.q rfl rfl rfl rfl (by decide) (Yd.mv rfl .c) ?_
              refine W.end ?_
              refine NX.sub (env' := [(1, _), (2, _), (7, _), (8, _), (9, _), (10, _), (27, _), (28, _), (11, _), (58, _), (59, _)]) ⟨rfl, rfl, rfl, rfl, rfl, rfl, rfl, rfl, rfl, rfl, rfl, trivial⟩ ?_
              refine NX.then ?_
              refine Tr.join (S := fun env x => ∃ alike_75 : Bool, env = [(1, .int .u32 (hidden_1.toNat : Int)), (2, bp b1 0), (7, u23), (8, v58), (9, .int .i64 t_47), (10, .int .i64 t_56), (27, .int .i64 m_0.n), (28, .int .i64 t_47), (11, .bool alike_75)] ∧ x = ⟨m25, hownT 3 1 encI v58 l57 :: hcells b1 [.int .i64 m_0.n, .int .i64 m_0.users, .int .i64 m_0.acts, um_0_3, um_0_4] 69 :: l⟩ ∧ view_Parts_k76 t_47 t_56 l57 nx64 alike_75 = some r) ?_ (fun hk77 => ?_)
              · rintro _ _ ⟨alike_75, rfl, rfl, hr⟩
                unfold view_Parts_k76 at hr
                try dsimp only at hr
                refine NX.then ?_
                refine Tr.seq ?_
                refine Tr.region_f (fun _ => false) ?_
                refine W.q rfl rfl rfl rfl (by decide) (Yd.mv rfl (.t rfl)) ?_
                refine W.end ?_
                refine NX.sub (env' := [(1, _), (2, _), (7, _), (8, _), (9, _), (10, _), (27, _), (28, _), (108, _)]) ⟨rfl, rfl, rfl, rfl, rfl, rfl, rfl, rfl, rfl, trivial⟩ ?_
                refine NX.then ?_
                refine Tr.cond (.t rfl) (fun hb => ?_) (fun hb => ?_)
                · have hr := cond_t hb hr
                  obtain ⟨y78, hy79, hr⟩ := bind_some hr
                  refine Tr.region_f (fun i => Nat.beq i 4) ?_
                  refine W.q rfl rfl rfl rfl (by decide) (Yd.mv rfl (.t rfl)) ?_
                  refine W.q rfl rfl rfl rfl (by decide) (Yd.mv rfl (.t rfl)) ?_
                  refine W.q rfl rfl rfl rfl (by decide) (Yd.mv rfl (.t rfl)) ?_
                  refine W.q rfl rfl rfl rfl (by decide) (Yd.idxT (pos := 0) rfl hy79 rfl Try.underlying84 SZ3 (.t rfl) (.t rfl)) ?_
                  refine W.s rfl rfl rfl rfl (Ef.stT (enc := encI) (n := 1) (pos := 0) (y := t_56) (us := [_]) (fun _ => rfl) rfl hy79 rfl (.t rfl) (.t rfl) SZ3 rfl rfl rfl (by decide)) ?_
                  rintro _ _ ⟨rfl, rfl⟩
                  refine ⟨.inl rfl, ?_⟩
                  refine W.cast (m' := m25) (l' := hownT 3 1 encI v58 _ :: hcells b1 [_, _, _, _, _] 69 :: l) rfl rfl ?_
                  refine W.end ?_
                  refine NX.sub (env' := [(1, _), (2, _), (7, _), (8, _), (9, _), (10, _), (27, _), (28, _)]) ⟨rfl, rfl, rfl, rfl, rfl, rfl, rfl, rfl, trivial⟩ ?_
                  refine NX.block ?_
                  refine NX.then ?_
                  refine Tr.region_f (fun _ => false) ?_
                  refine W.q rfl rfl rfl rfl (by decide) (Yd.mv rfl (.t rfl)) ?_
                  refine W.q rfl rfl rfl rfl (by decide) (Yd.sub rfl (.t rfl) .c) ?_
                  refine W.q rfl rfl rfl rfl (by decide) (Yd.as rfl (.t rfl)) ?_
                  refine W.end ?_
                  refine NX.sub (env' := [(1, _), (2, _), (7, _), (8, _), (9, _), (10, _), (27, _), (28, _)]) ⟨rfl, rfl, rfl, rfl, rfl, rfl, rfl, rfl, trivial⟩ ?_
                  refine NX.sub (env' := [(1, _), (2, _), (7, _), (8, _), (9, _), (10, _), (27, _), (28, _)]) ⟨rfl, rfl, rfl, rfl, rfl, rfl, rfl, rfl, trivial⟩ ?_
                  exact NX.again n65 ((w64 (t_56 - (1 : Int))), (l57.set t_47.toNat t_56)) (Nat.lt_succ_self _) ⟨_, rfl, rfl, ((hnx64 _).symm.trans hr)⟩
                · have hr := cond_f hb hr
                  refine Tr.skip' ?_
                  refine NX.block ?_
                  refine NX.then ?_
                  refine Tr.region_f (fun _ => false) ?_
                  refine W.q rfl rfl rfl rfl (by decide) (Yd.mv rfl (.t rfl)) ?_
                  refine W.q rfl rfl rfl rfl (by decide) (Yd.sub rfl (.t rfl) .c) ?_
                  refine W.q rfl rfl rfl rfl (by decide) (Yd.as rfl (.t rfl)) ?_
                  refine W.end ?_
                  refine NX.sub (env' := [(1, _), (2, _), (7, _), (8, _), (9, _), (10, _), (27, _), (28, _)]) ⟨rfl, rfl, rfl, rfl, rfl, rfl, rfl, rfl, trivial⟩ ?_
                  refine NX.sub (env' := [(1, _), (2, _), (7, _), (8, _), (9, _), (10, _), (27, _), (28, _)]) ⟨rfl, rfl, rfl, rfl, rfl, rfl, rfl, rfl, trivial⟩ ?_
                  exact NX.again n65 ((w64 (t_56 - (1 : Int))), l57) (Nat.lt_succ_self _) ⟨_, rfl, rfl, ((hnx64 _).symm.trans hr)⟩
              obtain ⟨hle80, hr⟩ := guard_some hr; replace hle80 := of_decide_eq_true hle80
              refine Tr.block ?_
              refine Tr.sub (env' := [(1, _), (2, _), (7, _), (8, _), (9, _), (10, _), (11, _), (27, _), (28, _), (58, _), (59, _)]) ⟨rfl, rfl, rfl, rfl, rfl, rfl, rfl, rfl, rfl, rfl, rfl, trivial⟩ ?_
              refine Tr.loop (S := fun n (z : Int × Bool) env x => match z with | (t_81, alike_73) => env = [(1, .int .u32 (hidden_1.toNat : Int)), (2, bp b1 0), (7, u23), (8, v58), (9, .int .i64 t_47), (10, .int .i64 t_56), (11, .bool alike_73), (27, .int .i64 m_0.n), (28, .int .i64 t_47), (58, .int .i64 m_0.users), (59, .int .i64 t_81)] ∧ x = ⟨m25, hownT 3 1 encI v58 l57 :: hcells b1 [.int .i64 m_0.n, .int .i64 m_0.users, .int .i64 m_0.acts, um_0_3, um_0_4] 69 :: l⟩ ∧ n = (m_0.users - t_81).toNat ∧ 0 ≤ t_81 ∧ forK (σ := Bool) (fun i s nx_ => view_Parts_b82 m_0 hidden_1 part_22 t_47 t_56 i s nx_) (fun s => view_Parts_k76 t_47 t_56 l57 nx64 s) n t_81 alike_73 = some r) _ ((0 : Int), ((y66 == y68) && (((view_same (({ n := m_0.n, users := m_0.users, acts := m_0.acts, next := m_0.next, sees := m_0.sees } : Machine)) hidden_1 t_47 t_56).getD false)))) ⟨rfl, rfl, rfl, (by omega), hr⟩ ?_
              rintro n84 ⟨t_81, alike_73⟩ env x ⟨rfl, rfl, hnt_81, h0t_81, hr⟩
              cases n84 with
              | zero =>
                simp only [forK] at hr
                refine Tr.seq ?_
                refine Tr.region_f (fun _ => false) ?_
                refine W.q rfl rfl rfl rfl (by decide) (Yd.lss rfl (.t rfl) (.t rfl)) ?_
                refine W.end ?_
                refine NX.sub (env' := [(1, _), (2, _), (7, _), (8, _), (9, _), (10, _), (11, _), (27, _), (28, _), (58, _), (59, _), (60, _)]) ⟨rfl, rfl, rfl, rfl, rfl, rfl, rfl, rfl, rfl, rfl, rfl, rfl, trivial⟩ ?_
                refine NX.then ?_
                refine Tr.seq ?_
                refine Tr.cond (.t rfl) (fun hb => ?_) (fun hb => ?_)
                · exact absurd (hb.symm.trans (fr_end hnt_81)) (by decide)
                ·
                  refine Tr.exit' (EX.then (EX.then (EX.block ?_)))
                  refine NX.sub (env' := [(1, _), (2, _), (7, _), (8, _), (9, _), (10, _), (27, _), (28, _), (11, _)]) ⟨rfl, rfl, rfl, rfl, rfl, rfl, rfl, rfl, rfl, trivial⟩ ?_
                  exact hk77 _ _ ⟨_, rfl, rfl, hr⟩
              | succ n84 =>
                obtain ⟨nx83, hnx83, hr⟩ := forK_succ hr
                try dsimp only at hr
                unfold view_Parts_b82 at hr
                try dsimp only at hr
                have hltt_81 := fr_bnd hnt_81
                refine Tr.seq ?_
                refine Tr.region_f (fun _ => false) ?_
                refine W.q rfl rfl rfl rfl (by decide) (Yd.lss rfl (.t rfl) (.t rfl)) ?_
                refine W.end ?_
                refine NX.sub (env' := [(1, _), (2, _), (7, _), (8, _), (9, _), (10, _), (11, _), (27, _), (28, _), (58, _), (59, _), (60, _)]) ⟨rfl, rfl, rfl, rfl, rfl, rfl, rfl, rfl, rfl, rfl, rfl, rfl, trivial⟩ ?_
                refine NX.then ?_
                refine Tr.seq ?_
                refine Tr.cond (.t rfl) (fun hb => ?_) (fun hb => ?_)
                rotate_left
                · exact absurd (hb.symm.trans (fr_go hnt_81)) (by decide)
                ·
                  refine Tr.skip' ?_
                  refine NX.then ?_
                  refine Tr.seq ?_
                  refine Tr.block ?_
                  refine Tr.seq ?_
                  refine Tr.region_f (fun _ => false) ?_
                  refine W.q rfl rfl rfl rfl (by decide) (Yd.mv rfl (.t rfl)) ?_
                  refine W.q rfl rfl rfl rfl (by decide) (Yd.as rfl (.t rfl)) ?_
                  refine W.end ?_
                  refine NX.sub (env' := [(1, _), (2, _), (7, _), (8, _), (9, _), (10, _), (11, _), (27, _), (28, _), (58, _), (59, _), (12, _)]) ⟨rfl, rfl, rfl, rfl, rfl, rfl, rfl, rfl, rfl, rfl, rfl, rfl, trivial⟩ ?_
                  refine NX.then ?_
                  refine Tr.seq ?_
                  refine Tr.region_f (fun _ => false) ?_
                  refine W.q rfl rfl rfl rfl (by decide) (Yd.fldB rfl Try.underlying69 rfl SZ3 rfl (.t rfl)) ?_
                  refine W.q rfl rfl rfl rfl (by decide) (Yd.ldB (pos := 1) rfl rfl rfl ON3 (.t rfl)) ?_
                  refine W.q rfl rfl rfl rfl (by decide) (Yd.mv rfl .c) ?_
                  refine W.end ?_
                  refine NX.sub (env' := [(1, _), (2, _), (7, _), (8, _), (9, _), (10, _), (11, _), (27, _), (28, _), (58, _), (59, _), (12, _), (63, _), (64, _)]) ⟨rfl, rfl, rfl, rfl, rfl, rfl, rfl, rfl, rfl, rfl, rfl, rfl, rfl, rfl, trivial⟩ ?_
                  refine NX.then ?_
                  refine Tr.join (S := fun env x => ∃ alike_89 : Bool, env = [(1, .int .u32 (hidden_1.toNat : Int)), (2, bp b1 0), (7, u23), (8, v58), (9, .int .i64 t_47), (10, .int .i64 t_56), (11, .bool alike_89), (27, .int .i64 m_0.n), (28, .int .i64 t_47), (58, .int .i64 m_0.users), (59, .int .i64 t_81)] ∧ x = ⟨m25, hownT 3 1 encI v58 l57 :: hcells b1 [.int .i64 m_0.n, .int .i64 m_0.users, .int .i64 m_0.acts, um_0_3, um_0_4] 69 :: l⟩ ∧ view_Parts_k90 nx83 alike_89 = some r) ?_ (fun hk91 => ?_)
                  · rintro _ _ ⟨alike_89, rfl, rfl, hr⟩
                    unfold view_Parts_k90 at hr
                    try dsimp only at hr
                    refine NX.block ?_
                    refine NX.then ?_
                    refine Tr.region_f (fun _ => false) ?_
                    refine W.q rfl rfl rfl rfl (by decide) (Yd.add rfl (.t rfl) .c) ?_
                    refine W.q rfl rfl rfl rfl (by decide) (Yd.mv rfl (.t rfl)) ?_
                    refine W.end ?_
                    refine NX.sub (env' := [(1, _), (2, _), (7, _), (8, _), (9, _), (10, _), (11, _), (27, _), (28, _), (58, _), (59, _)]) ⟨rfl, rfl, rfl, rfl, rfl, rfl, rfl, rfl, rfl, rfl, rfl, trivial⟩ ?_
                    refine NX.sub (env' := [(1, _), (2, _), (7, _), (8, _), (9, _), (10, _), (11, _), (27, _), (28, _), (58, _), (59, _)]) ⟨rfl, rfl, rfl, rfl, rfl, rfl, rfl, rfl, rfl, rfl, rfl, trivial⟩ ?_
                    have hw := w64_id (n := t_81 + 1) (by omega) (by omega)
                    exact NX.again n84 (t_81 + 1, alike_89) (Nat.lt_succ_self _) ⟨(by rw [hw] <;> rfl), rfl, (fr_dec hnt_81), (by omega), ((hnx83 _).symm.trans hr)⟩
                  obtain ⟨hle92, hr⟩ := guard_some hr; replace hle92 := of_decide_eq_true hle92
                  refine Tr.block ?_
                  refine Tr.sub (env' := [(1, _), (2, _), (7, _), (8, _), (9, _), (10, _), (11, _), (12, _), (27, _), (28, _), (58, _), (59, _), (63, _), (64, _)]) ⟨rfl, rfl, rfl, rfl, rfl, rfl, rfl, rfl, rfl, rfl, rfl, rfl, rfl, rfl, trivial⟩ ?_
                  refine Tr.loop (S := fun n (z : Int × Bool) env x => match z with | (t_93, alike_87) => env = [(1, .int .u32 (hidden_1.toNat : Int)), (2, bp b1 0), (7, u23), (8, v58), (9, .int .i64 t_47), (10, .int .i64 t_56), (11, .bool alike_87), (12, .int .i64 t_81), (27, .int .i64 m_0.n), (28, .int .i64 t_47), (58, .int .i64 m_0.users), (59, .int .i64 t_81), (63, .int .i64 m_0.acts), (64, .int .i64 t_93)] ∧ x = ⟨m25, hownT 3 1 encI v58 l57 :: hcells b1 [.int .i64 m_0.n, .int .i64 m_0.users, .int .i64 m_0.acts, um_0_3, um_0_4] 69 :: l⟩ ∧ n = (m_0.acts - t_93).toNat ∧ 0 ≤ t_93 ∧ forK (σ := Bool) (fun i s nx_ => view_Parts_b94 m_0 hidden_1 part_22 t_47 t_56 t_81 i s nx_) (fun s => view_Parts_k90 nx83 s) n t_93 alike_87 = some r) _ ((0 : Int), alike_73) ⟨rfl, rfl, rfl, (by omega), hr⟩ ?_
                  rintro n96 ⟨t_93, alike_87⟩ env x ⟨rfl, rfl, hnt_93, h0t_93, hr⟩
                  cases n96 with
                  | zero =>
                    simp only [forK] at hr
                    refine Tr.seq ?_
                    refine Tr.region_f (fun _ => false) ?_
                    refine W.q rfl rfl rfl rfl (by decide) (Yd.lss rfl (.t rfl) (.t rfl)) ?_
                    refine W.end ?_
                    refine NX.sub (env' := [(1, _), (2, _), (7, _), (8, _), (9, _), (10, _), (11, _), (12, _), (27, _), (28, _), (58, _), (59, _), (63, _), (64, _), (65, _)]) ⟨rfl, rfl, rfl, rfl, rfl, rfl, rfl, rfl, rfl, rfl, rfl, rfl, rfl, rfl, rfl, trivial⟩ ?_
                    refine NX.then ?_
                    refine Tr.seq ?_
                    refine Tr.cond (.t rfl) (fun hb => ?_) (fun hb => ?_)
                    · exact absurd (hb.symm.trans (fr_end hnt_93)) (by decide)
                    ·
                      refine Tr.exit' (EX.then (EX.then (EX.block ?_)))
                      refine NX.sub (env' := [(1, _), (2, _), (7, _), (8, _), (9, _), (10, _), (11, _), (27, _), (28, _), (58, _), (59, _)]) ⟨rfl, rfl, rfl, rfl, rfl, rfl, rfl, rfl, rfl, rfl, rfl, trivial⟩ ?_
                      exact hk91 _ _ ⟨_, rfl, rfl, hr⟩
                  | succ n96 =>
                    obtain ⟨nx95, hnx95, hr⟩ := forK_succ hr
                    try dsimp only at hr
                    unfold view_Parts_b94 at hr
                    try dsimp only at hr
                    have hltt_93 := fr_bnd hnt_93
                    refine Tr.seq ?_
                    refine Tr.region_f (fun _ => false) ?_
                    refine W.q rfl rfl rfl rfl (by decide) (Yd.lss rfl (.t rfl) (.t rfl)) ?_
                    refine W.end ?_
                    refine NX.sub (env' := [(1, _), (2, _), (7, _), (8, _), (9, _), (10, _), (11, _), (12, _), (27, _), (28, _), (58, _), (59, _), (63, _), (64, _), (65, _)]) ⟨rfl, rfl, rfl, rfl, rfl, rfl, rfl, rfl, rfl, rfl, rfl, rfl, rfl, rfl, rfl, trivial⟩ ?_
                    refine NX.then ?_
                    refine Tr.seq ?_
                    refine Tr.cond (.t rfl) (fun hb => ?_) (fun hb => ?_)
                    rotate_left
                    · exact absurd (hb.symm.trans (fr_go hnt_93)) (by decide)
                    ·
                      refine Tr.skip' ?_
                      refine NX.then ?_
                      refine Tr.seq ?_
                      refine Tr.block ?_
                      refine Tr.seq ?_
                      refine Tr.region_f (fun _ => false) ?_
                      refine W.q rfl rfl rfl rfl (by decide) (Yd.mv rfl (.t rfl)) ?_
                      refine W.q rfl rfl rfl rfl (by decide) (Yd.as rfl (.t rfl)) ?_
                      refine W.end ?_
                      refine NX.sub (env' := [(1, _), (2, _), (7, _), (8, _), (9, _), (10, _), (11, _), (12, _), (27, _), (28, _), (58, _), (59, _), (63, _), (64, _), (13, _)]) ⟨rfl, rfl, rfl, rfl, rfl, rfl, rfl, rfl, rfl, rfl, rfl, rfl, rfl, rfl, rfl, trivial⟩ ?_
                      refine NX.then ?_
                      obtain ⟨ha97, hr⟩ := guard_some hr
                      obtain ⟨ha101, hr⟩ := guard_some hr
                      obtain ⟨ha105, hr⟩ := guard_some hr
                      obtain ⟨ha106, hr⟩ := guard_some hr
                      obtain ⟨ha107, hr⟩ := guard_some hr
                      obtain ⟨ha111, hr⟩ := guard_some hr
                      obtain ⟨ha115, hr⟩ := guard_some hr
                      obtain ⟨ha116, hr⟩ := guard_some hr
                      refine Tr.region_x (fun _ => false) (fun _ => false) (Ord.of [0, 1, 2, 3, 4, 5, 6, 7, 8, 9, 10, 11, 12, 13, 14, 15, 16, 17, 18, 19, 20, 21, 22, 23, 24, 25, 26, 27, 28, 29, 30, 31, 32, 33, 34, 35, 36, 37, 38, 39]) FM (by kernel_rfl) ?_
                      refine W.q rfl rfl rfl rfl (by decide) (Yd.mv rfl (.t rfl)) ?_
                      refine W.q rfl rfl rfl rfl (by decide) (Yd.mv rfl (.t rfl)) ?_
                      refine W.g rfl rfl rfl rfl rfl (.t rfl _) rfl (by decide) (fun hG => Yd.mv rfl (.t rfl)) ?_
                      refine W.g rfl rfl rfl rfl rfl (.t rfl _) rfl (by decide) (fun hG => Yd.mv rfl (.t rfl)) ?_
                      refine W.g rfl rfl rfl rfl rfl (.t rfl _) rfl (by decide) (fun hG => Yd.shrU (a := hidden_1) rfl (.g rfl hG) (.g rfl hG) h0t_81) ?_
                      refine W.g rfl rfl rfl rfl rfl (.t rfl _) rfl (by decide) (fun hG => Yd.andU (a := (hidden_1 >>> t_81.toNat)) (b := 1#32) rfl (.g rfl hG) .c) ?_
                      refine W.g rfl rfl rfl rfl rfl (.t rfl _) rfl (by decide) (fun hG => Yd.eqlU (a := ((hidden_1 >>> t_81.toNat) &&& 1#32)) (b := 1#32) rfl (.g rfl hG) .c) ?_
                      refine W.g rfl rfl rfl rfl rfl (.t rfl _) rfl (by decide) (fun hG => Yd.mv rfl (.g rfl hG)) ?_
                      refine W.g rfl rfl rfl rfl rfl (.g rfl _) rfl (by decide) (fun hG => Yd.mv rfl (.t rfl)) ?_
                      refine W.g rfl rfl rfl rfl rfl (.g rfl _) rfl (by decide) (fun hG => Yd.fldB rfl Try.underlying69 rfl SZ66 rfl (.t rfl)) ?_
                      refine W.g rfl rfl rfl rfl rfl (.g rfl _) rfl (by decide) (fun hG => Yd.ldB (pos := 1) rfl rfl rfl ON66 (.g rfl hG)) ?_
                      refine W.g rfl rfl rfl rfl rfl (.g rfl _) rfl (by decide) (fun hG => Yd.mv rfl (.t rfl)) ?_
                      refine W.g rfl rfl rfl rfl rfl (.g rfl _) rfl (by decide) (fun hG => Yd.idxR hm_0_3 (gd_get (d := []) ha97 hG) rfl Try.underlying66 SZ67 (.g rfl hG) (.g rfl hG)) ?_
                      obtain ⟨u98, hu99⟩ := RS.rowD hm_0_3 (i := t_47)
                      refine W.g rfl rfl rfl rfl rfl (.g rfl _) rfl (by decide) (fun hG => Yd.ldRow (hu99 _ (gd_get (d := []) ha97 hG)).2 (.refl _) rfl ON67 (.g rfl hG)) ?_
                      refine W.g rfl rfl rfl rfl rfl (.g rfl _) rfl (by decide) (fun hG => Yd.mv rfl (.t rfl)) ?_
                      refine W.g rfl rfl rfl rfl rfl (.g rfl _) rfl (by decide) (fun hG => Yd.idxR (hu99 _ (gd_get (d := []) ha97 hG)).1 (gd_get (d := []) ha101 hG) rfl Try.underlying67 SZ84 (.g rfl hG) (.g rfl hG)) ?_
                      obtain ⟨u102, hu103⟩ := RS.rowG (G := ((alike_87 == true) && ((((hidden_1 >>> t_81.toNat) &&& 1#32) == 1#32) == false))) (fun hG => (hu99 _ (gd_get (d := []) ha97 hG)).1) (i := t_81)
                      refine W.g rfl rfl rfl rfl rfl (.g rfl _) rfl (by decide) (fun hG => Yd.ldRow (hu103 _ (gd_get (d := []) ha101 hG) hG).2 (.refl _) rfl ON84 (.g rfl hG)) ?_
                      refine W.g rfl rfl rfl rfl rfl (.g rfl _) rfl (by decide) (fun hG => Yd.mv rfl (.t rfl)) ?_
                      refine W.g rfl rfl rfl rfl rfl (.g rfl _) rfl (by decide) (fun hG => Yd.idxR (hu103 _ (gd_get (d := []) ha101 hG) hG).1 (gd_get (d := (0 : Int)) ha105 hG) rfl Try.underlying84 SZ3 (.g rfl hG) (.g rfl hG)) ?_
                      refine W.g rfl rfl rfl rfl rfl (.g rfl _) rfl (by decide) (fun hG => Yd.ldF (hu103 _ (gd_get (d := []) ha101 hG) hG).1 (.refl _) (gd_get (d := (0 : Int)) ha105 hG) rfl rfl ON3 (.g rfl hG)) ?_
                      refine W.g rfl rfl rfl rfl rfl (.g rfl _) rfl (by decide) (fun hG => Yd.idxR hu24 (gd_get (d := (0 : Int)) ha106 hG) rfl Try.underlying84 SZ3 (.g rfl hG) (.g rfl hG)) ?_
                      refine W.g rfl rfl rfl rfl rfl (.g rfl _) rfl (by decide) (fun hG => Yd.ldF hu24 (.refl _) (gd_get (d := (0 : Int)) ha106 hG) rfl rfl ON3 (.g rfl hG)) ?_
                      refine W.g rfl rfl rfl rfl rfl (.g rfl _) rfl (by decide) (fun hG => Yd.mv rfl (.t rfl)) ?_
                      refine W.g rfl rfl rfl rfl rfl (.g rfl _) rfl (by decide) (fun hG => Yd.fldB rfl Try.underlying69 rfl SZ66 rfl (.t rfl)) ?_
                      refine W.g rfl rfl rfl rfl rfl (.g rfl _) rfl (by decide) (fun hG => Yd.ldB (pos := 1) rfl rfl rfl ON66 (.g rfl hG)) ?_
                      refine W.g rfl rfl rfl rfl rfl (.g rfl _) rfl (by decide) (fun hG => Yd.mv rfl (.t rfl)) ?_
                      refine W.g rfl rfl rfl rfl rfl (.g rfl _) rfl (by decide) (fun hG => Yd.idxR hm_0_3 (gd_get (d := []) ha107 hG) rfl Try.underlying66 SZ67 (.g rfl hG) (.g rfl hG)) ?_
                      obtain ⟨u108, hu109⟩ := RS.rowD hm_0_3 (i := t_56)
                      refine W.g rfl rfl rfl rfl rfl (.g rfl _) rfl (by decide) (fun hG => Yd.ldRow (hu109 _ (gd_get (d := []) ha107 hG)).2 (.refl _) rfl ON67 (.g rfl hG)) ?_
                      refine W.g rfl rfl rfl rfl rfl (.g rfl _) rfl (by decide) (fun hG => Yd.mv rfl (.t rfl)) ?_
                      refine W.g rfl rfl rfl rfl rfl (.g rfl _) rfl (by decide) (fun hG => Yd.idxR (hu109 _ (gd_get (d := []) ha107 hG)).1 (gd_get (d := []) ha111 hG) rfl Try.underlying67 SZ84 (.g rfl hG) (.g rfl hG)) ?_
                      obtain ⟨u112, hu113⟩ := RS.rowG (G := ((alike_87 == true) && ((((hidden_1 >>> t_81.toNat) &&& 1#32) == 1#32) == false))) (fun hG => (hu109 _ (gd_get (d := []) ha107 hG)).1) (i := t_81)
                      refine W.g rfl rfl rfl rfl rfl (.g rfl _) rfl (by decide) (fun hG => Yd.ldRow (hu113 _ (gd_get (d := []) ha111 hG) hG).2 (.refl _) rfl ON84 (.g rfl hG)) ?_
                      refine W.g rfl rfl rfl rfl rfl (.g rfl _) rfl (by decide) (fun hG => Yd.mv rfl (.t rfl)) ?_
                      refine W.g rfl rfl rfl rfl rfl (.g rfl _) rfl (by decide) (fun hG => Yd.idxR (hu113 _ (gd_get (d := []) ha111 hG) hG).1 (gd_get (d := (0 : Int)) ha115 hG) rfl Try.underlying84 SZ3 (.g rfl hG) (.g rfl hG)) ?_
                      refine W.g rfl rfl rfl rfl rfl (.g rfl _) rfl (by decide) (fun hG => Yd.ldF (hu113 _ (gd_get (d := []) ha111 hG) hG).1 (.refl _) (gd_get (d := (0 : Int)) ha115 hG) rfl rfl ON3 (.g rfl hG)) ?_
                      refine W.g rfl rfl rfl rfl rfl (.g rfl _) rfl (by decide) (fun hG => Yd.idxR hu24 (gd_get (d := (0 : Int)) ha116 hG) rfl Try.underlying84 SZ3 (.g rfl hG) (.g rfl hG)) ?_
                      refine W.g rfl rfl rfl rfl rfl (.g rfl _) rfl (by decide) (fun hG => Yd.ldF hu24 (.refl _) (gd_get (d := (0 : Int)) ha116 hG) rfl rfl ON3 (.g rfl hG)) ?_
                      refine W.g rfl rfl rfl rfl rfl (.g rfl _) rfl (by decide) (fun hG => Yd.eql rfl (.g rfl hG) (.g rfl hG)) ?_
                      refine W.g rfl rfl rfl rfl rfl (.t rfl _) rfl (by decide) (fun hG => Yd.orG rfl (.g rfl hG) .c rfl rfl hG) ?_
                      refine W.q rfl rfl rfl rfl (by decide) (Yd.and rfl (.t rfl) .c rfl rfl) ?_
                      refine W.q rfl rfl rfl rfl (by decide) (Yd.as rfl (.t rfl)) ?_
                      refine W.end ?_
                      refine NX.sub (env' := [(1, _), (2, _), (7, _), (8, _), (9, _), (10, _), (11, _), (12, _), (27, _), (28, _), (58, _), (59, _), (63, _), (64, _)]) ⟨rfl, rfl, rfl, rfl, rfl, rfl, rfl, rfl, rfl, rfl, rfl, rfl, rfl, rfl, trivial⟩ ?_
                      refine NX.block ?_
                      refine NX.then ?_
                      refine Tr.region_f (fun _ => false) ?_
                      refine W.q rfl rfl rfl rfl (by decide) (Yd.add rfl (.t rfl) .c) ?_
                      refine W.q rfl rfl rfl rfl (by decide) (Yd.mv rfl (.t rfl)) ?_
                      refine W.end ?_
                      refine NX.sub (env' := [(1, _), (2, _), (7, _), (8, _), (9, _), (10, _), (11, _), (12, _), (27, _), (28, _), (58, _), (59, _), (63, _), (64, _)]) ⟨rfl, rfl, rfl, rfl, rfl, rfl, rfl, rfl, rfl, rfl, rfl, rfl, rfl, rfl, trivial⟩ ?_
                      refine NX.sub (env' := [(1, _), (2, _), (7, _), (8, _), (9, _), (10, _), (11, _), (12, _), (27, _), (28, _), (58, _), (59, _), (63, _), (64, _)]) ⟨rfl, rfl, rfl, rfl, rfl, rfl, rfl, rfl, rfl, rfl, rfl, rfl, rfl, rfl, trivial⟩ ?_
                      have hw := w64_id (n := t_93 + 1) (by omega) (by omega)
                      exact NX.again n96 (t_93 + 1, (alike_87 && ((((hidden_1 >>> t_81.toNat) &&& 1#32) == 1#32) || (((geti part_22 (((geti (((geti (((geti m_0.next t_47).getD [])) t_81).getD [])) t_93).getD (0 : Int)))).getD (0 : Int)) == ((geti part_22 (((geti (((geti (((geti m_0.next t_56).getD [])) t_81).getD [])) t_93).getD (0 : Int)))).getD (0 : Int)))))) (Nat.lt_succ_self _) ⟨(by rw [hw] <;> rfl), rfl, (fr_dec hnt_93), (by omega), ((hnx95 _).symm.trans hr)⟩
            · have hr := cond_f hb hr
              refine Tr.exit' (EX.then (EX.then (EX.block ?_)))
              refine NX.sub (env' := [(1, _), (2, _), (7, _), (8, _), (27, _), (28, _)]) ⟨rfl, rfl, rfl, rfl, rfl, rfl, trivial⟩ ?_
              exact hk62 _ _ ⟨_, _, rfl, rfl, hr⟩

def syllogistref_ViewCheck_k9 : Option (Int) :=
  some ((0 : Int))

def syllogistref_ViewCheck_k23 (nx14 : (Unit → Option (Int))) : Option (Int) :=
  nx14 ()

def syllogistref_ViewCheck_k37 (nx28 : (Unit → Option (Int))) : Option (Int) :=
  nx28 ()

def syllogistref_ViewCheck_b41 (m_0 : Machine) (y30 : (List Int)) (t_40 : Int) (nx42 : Unit → Option (Int)) : Option (Int) :=
  (geti y30 t_40).bind fun y44 =>
  (bif ((decide (y44 < (0 : Int))) || (decide (y44 ≥ m_0.n))) then
  some ((2 : Int))
  else
  nx42 ())

def syllogistref_ViewCheck_b27 (m_0 : Machine) (y16 : (List (List Int))) (t_26 : Int) (nx28 : Unit → Option (Int)) : Option (Int) :=
  (geti y16 t_26).bind fun y30 =>
  forK (σ := Unit) (fun i s nx_ => syllogistref_ViewCheck_b41 m_0 y30 i nx_) (fun _ => syllogistref_ViewCheck_k37 nx28) ((y30.length : Int) - (0 : Int)).toNat (0 : Int) ()

def syllogistref_ViewCheck_b13 (m_0 : Machine) (s_12 : Int) (nx14 : Unit → Option (Int)) : Option (Int) :=
  (geti m_0.next s_12).bind fun y16 =>
  forK (σ := Unit) (fun i s nx_ => syllogistref_ViewCheck_b27 m_0 y16 i nx_) (fun _ => syllogistref_ViewCheck_k23 nx14) ((y16.length : Int) - (0 : Int)).toNat (0 : Int) ()

def syllogistref_ViewCheck_k5 (m_0 : Machine) : Option (Int) :=
  bif decide (m_0.n ≤ 9223372036854775807) then
  forK (σ := Unit) (fun i s nx_ => syllogistref_ViewCheck_b13 m_0 i nx_) (fun _ => syllogistref_ViewCheck_k9) (m_0.n - (0 : Int)).toNat (0 : Int) () else none

def syllogistref_ViewCheck_k67 (nx49 : (Unit → Option (Int))) : Option (Int) :=
  nx49 ()

def syllogistref_ViewCheck_b71 (m_0 : Machine) (y60 : (List (List Int))) (t_70 : Int) (nx72 : Unit → Option (Int)) : Option (Int) :=
  (geti y60 t_70).bind fun y74 =>
  (bif ((y74.length : Int) != m_0.acts) then
  some ((3 : Int))
  else
  nx72 ())

def syllogistref_ViewCheck_b48 (m_0 : Machine) (s_47 : Int) (nx49 : Unit → Option (Int)) : Option (Int) :=
  (geti m_0.next s_47).bind fun y51 =>
  bif (!(((y51.length : Int) != m_0.users) == false) || (geti m_0.sees s_47).isSome) then
  (bif (((y51.length : Int) != m_0.users) || (((((geti m_0.sees s_47).getD [])).length : Int) != m_0.users)) then
  some ((3 : Int))
  else
  (geti m_0.next s_47).bind fun y60 =>
  forK (σ := Unit) (fun i s nx_ => syllogistref_ViewCheck_b71 m_0 y60 i nx_) (fun _ => syllogistref_ViewCheck_k67 nx49) ((y60.length : Int) - (0 : Int)).toNat (0 : Int) ()) else none

def syllogistref_ViewCheck (m_0 : Machine) : Option (Int) :=
  (bif ((((((decide (m_0.n < (1 : Int))) || (decide (m_0.n > (6 : Int)))) || (decide (m_0.users < (1 : Int)))) || (decide (m_0.users > (3 : Int)))) || (decide (m_0.acts < (1 : Int)))) || (decide (m_0.acts > (2 : Int)))) then
  some ((1 : Int))
  else
  (bif (((m_0.next.length : Int) != m_0.n) || ((m_0.sees.length : Int) != m_0.n)) then
  some ((3 : Int))
  else
  bif decide (m_0.n ≤ 9223372036854775807) then
  forK (σ := Unit) (fun i s nx_ => syllogistref_ViewCheck_b48 m_0 i nx_) (fun _ => syllogistref_ViewCheck_k5 m_0) (m_0.n - (0 : Int)).toNat (0 : Int) () else none))

set_option maxRecDepth 100000 in
set_option maxHeartbeats 4000000 in
theorem syllogistref_ViewCheck_ok (w0 : World) (m : Snap) (l : List HI) (m_0 : Machine) (um_0_3 : Value) (hm_0_3 : RS (Rp.slice (Rp.slice rI)) m um_0_3 m_0.next) (um_0_4 : Value) (hm_0_4 : RS (Rp.slice rI) m um_0_4 m_0.sees) (r : Int) (hr : syllogistref_ViewCheck m_0 = some r) (w : World) (hc : cX w0 ⟨m, l⟩ w) :
    Calls Try.prog 33 [.agg #[.int .i64 m_0.n, .int .i64 m_0.users, .int .i64 m_0.acts, um_0_3, um_0_4]].toArray w fun e w' => e = .returned (.int .i64 r) ∧ cX w0 ⟨m, l⟩ w' := by
  unfold syllogistref_ViewCheck at hr
  refine calls_of_Tr (N := 127) Try.func33 rfl hc rfl (Nat.le_of_ble_eq_true rfl) ?_
  refine Tr.seq ?_
  refine Tr.region_f (fun i => Nat.beq i 0) ?_
  refine W.e rfl rfl rfl rfl (by decide) (Ef.bx rfl (.t rfl) rfl) ?_
  rintro _ _ ⟨b1, rfl, rfl⟩
  refine ⟨.inl rfl, ?_⟩
  refine W.cast (m' := m) (l' := hcells b1 [_, _, _, _, _] 69 :: l) rfl rfl ?_
  refine W.q rfl rfl rfl rfl (by decide) (Yd.as rfl .c) ?_
  refine W.end ?_
  refine NX.sub (env' := [(1, _)]) ⟨rfl, trivial⟩ ?_
  refine NX.then ?_
  refine Tr.seq ?_
  refine Tr.seq ?_
  refine Tr.region_f (fun _ => false) ?_
  refine W.q rfl rfl rfl rfl (by decide) (Yd.fldB rfl Try.underlying69 rfl SZ3 rfl (.t rfl)) ?_
  refine W.q rfl rfl rfl rfl (by decide) (Yd.ldB (pos := 0) rfl rfl rfl ON3 (.t rfl)) ?_
  refine W.q rfl rfl rfl rfl (by decide) (Yd.lss rfl (.t rfl) .c) ?_
  refine W.q rfl rfl rfl rfl (by decide) (Yd.mv rfl (.t rfl)) ?_
  refine W.g rfl rfl rfl rfl rfl (.t rfl _) rfl (by decide) (fun hG => Yd.fldB rfl Try.underlying69 rfl SZ3 rfl (.t rfl)) ?_
  refine W.g rfl rfl rfl rfl rfl (.t rfl _) rfl (by decide) (fun hG => Yd.ldB (pos := 0) rfl rfl rfl ON3 (.g rfl hG)) ?_
  refine W.g rfl rfl rfl rfl rfl (.t rfl _) rfl (by decide) (fun hG => Yd.gtr rfl (.g rfl hG) .c) ?_
  refine W.q rfl rfl rfl rfl (by decide) (Yd.or rfl (.t rfl) .c rfl rfl) ?_
  refine W.q rfl rfl rfl rfl (by decide) (Yd.mv rfl (.t rfl)) ?_
  refine W.g rfl rfl rfl rfl rfl (.t rfl _) rfl (by decide) (fun hG => Yd.fldB rfl Try.underlying69 rfl SZ3 rfl (.t rfl)) ?_
  refine W.g rfl rfl rfl rfl rfl (.t rfl _) rfl (by decide) (fun hG => Yd.ldB (pos := 0) rfl rfl rfl ON3 (.g rfl hG)) ?_
  refine W.g rfl rfl rfl rfl rfl (.t rfl _) rfl (by decide) (fun hG => Yd.lss rfl (.g rfl hG) .c) ?_
  refine W.q rfl rfl rfl rfl (by decide) (Yd.or rfl (.t rfl) .c rfl rfl) ?_
  refine W.q rfl rfl rfl rfl (by decide) (Yd.mv rfl (.t rfl)) ?_
  refine W.g rfl rfl rfl rfl rfl (.t rfl _) rfl (by decide) (fun hG => Yd.fldB rfl Try.underlying69 rfl SZ3 rfl (.t rfl)) ?_
  refine W.g rfl rfl rfl rfl rfl (.t rfl _) rfl (by decide) (fun hG => Yd.ldB (pos := 0) rfl rfl rfl ON3 (.g rfl hG)) ?_
  refine W.g rfl rfl rfl rfl rfl (.t rfl _) rfl (by decide) (fun hG => Yd.gtr rfl (.g rfl hG) .c) ?_
  refine W.q rfl rfl rfl rfl (by decide) (Yd.or rfl (.t rfl) .c rfl rfl) ?_
  refine W.q rfl rfl rfl rfl (by decide) (Yd.mv rfl (.t rfl)) ?_
  refine W.g rfl rfl rfl rfl rfl (.t rfl _) rfl (by decide) (fun hG => Yd.fldB rfl Try.underlying69 rfl SZ3 rfl (.t rfl)) ?_
  refine W.g rfl rfl rfl rfl rfl (.t rfl _) rfl (by decide) (fun hG => Yd.ldB (pos := 0) rfl rfl rfl ON3 (.g rfl hG)) ?_
  refine W.g rfl rfl rfl rfl rfl (.t rfl _) rfl (by decide) (fun hG => Yd.lss rfl (.g rfl hG) .c) ?_
  refine W.q rfl rfl rfl rfl (by decide) (Yd.or rfl (.t rfl) .c rfl rfl) ?_
  refine W.q rfl rfl rfl rfl (by decide) (Yd.mv rfl (.t rfl)) ?_
  refine W.g rfl rfl rfl rfl rfl (.t rfl _) rfl (by decide) (fun hG => Yd.fldB rfl Try.underlying69 rfl SZ3 rfl (.t rfl)) ?_
  refine W.g rfl rfl rfl rfl rfl (.t rfl _) rfl (by decide) (fun hG => Yd.ldB (pos := 0) rfl rfl rfl ON3 (.g rfl hG)) ?_
  refine W.g rfl rfl rfl rfl rfl (.t rfl _) rfl (by decide) (fun hG => Yd.gtr rfl (.g rfl hG) .c) ?_
  refine W.q rfl rfl rfl rfl (by decide) (Yd.or rfl (.t rfl) .c rfl rfl) ?_
  refine W.end ?_
  refine NX.sub (env' := [(1, _), (38, _)]) ⟨rfl, rfl, trivial⟩ ?_
  refine NX.then ?_
  refine Tr.cond (.t rfl) (fun hb => ?_) (fun hb => ?_)
  · have hr := cond_t hb hr
    refine Tr.seq ?_
    refine Tr.region_f (fun _ => false) ?_
    refine W.q rfl rfl rfl rfl (by decide) (Yd.as rfl .c) ?_
    refine W.end ?_
    refine NX.sub (env' := [(2, _)]) ⟨rfl, trivial⟩ ?_
    refine NX.drop (l' := l) (.cons _ (.refl _)) ?_
    refine NX.then ?_
    refine Tr.ret' (RT.then ?_)
    refine res1 rfl rfl ?_
    intro w hc
    cases hr
    exact ⟨rfl, hc⟩
  · have hr := cond_f hb hr
    refine Tr.skip' ?_
    refine NX.then ?_
    refine Tr.seq ?_
    refine Tr.seq ?_
    refine Tr.region_f (fun _ => false) ?_
    refine W.q rfl rfl rfl rfl (by decide) (Yd.fldB rfl Try.underlying69 rfl SZ66 rfl (.t rfl)) ?_
    refine W.q rfl rfl rfl rfl (by decide) (Yd.ldB (pos := 0) rfl rfl rfl ON66 (.t rfl)) ?_
    refine W.q rfl rfl rfl rfl (by decide) (Yd.lenR hm_0_3 rfl Try.underlying66 (.t rfl)) ?_
    refine W.q rfl rfl rfl rfl (by decide) (Yd.fldB rfl Try.underlying69 rfl SZ3 rfl (.t rfl)) ?_
    refine W.q rfl rfl rfl rfl (by decide) (Yd.ldB (pos := 0) rfl rfl rfl ON3 (.t rfl)) ?_
    refine W.q rfl rfl rfl rfl (by decide) (Yd.neq rfl (.t rfl) (.t rfl)) ?_
    refine W.q rfl rfl rfl rfl (by decide) (Yd.mv rfl (.t rfl)) ?_
    refine W.g rfl rfl rfl rfl rfl (.t rfl _) rfl (by decide) (fun hG => Yd.fldB rfl Try.underlying69 rfl SZ67 rfl (.t rfl)) ?_
    refine W.g rfl rfl rfl rfl rfl (.t rfl _) rfl (by decide) (fun hG => Yd.ldB (pos := 0) rfl rfl rfl ON67 (.g rfl hG)) ?_
    refine W.g rfl rfl rfl rfl rfl (.t rfl _) rfl (by decide) (fun hG => Yd.lenR hm_0_4 rfl Try.underlying67 (.g rfl hG)) ?_
    refine W.g rfl rfl rfl rfl rfl (.t rfl _) rfl (by decide) (fun hG => Yd.fldB rfl Try.underlying69 rfl SZ3 rfl (.t rfl)) ?_
    refine W.g rfl rfl rfl rfl rfl (.t rfl _) rfl (by decide) (fun hG => Yd.ldB (pos := 0) rfl rfl rfl ON3 (.g rfl hG)) ?_
    refine W.g rfl rfl rfl rfl rfl (.t rfl _) rfl (by decide) (fun hG => Yd.neq rfl (.g rfl hG) (.g rfl hG)) ?_
    refine W.q rfl rfl rfl rfl (by decide) (Yd.or rfl (.t rfl) .c rfl rfl) ?_
    refine W.end ?_
    refine NX.sub (env' := [(1, _), (52, _)]) ⟨rfl, rfl, trivial⟩ ?_
    refine NX.then ?_
    refine Tr.cond (.t rfl) (fun hb => ?_) (fun hb => ?_)
    · have hr := cond_t hb hr
      refine Tr.seq ?_
      refine Tr.region_f (fun _ => false) ?_
      refine W.q rfl rfl rfl rfl (by decide) (Yd.as rfl .c) ?_
      refine W.end ?_
      refine NX.sub (env' := [(2, _)]) ⟨rfl, trivial⟩ ?_
      refine NX.drop (l' := l) (.cons _ (.refl _)) ?_
      refine NX.then ?_
      refine Tr.ret' (RT.then ?_)
      refine res1 rfl rfl ?_
      intro w hc
      cases hr
      exact ⟨rfl, hc⟩
    · have hr := cond_f hb hr
      refine Tr.skip' ?_
      refine NX.then ?_
      refine Tr.seq ?_
      refine Tr.seq ?_
      refine Tr.region_f (fun _ => false) ?_
      refine W.q rfl rfl rfl rfl (by decide) (Yd.as rfl .c) ?_
      refine W.end ?_
      refine NX.sub (env' := [(1, _), (3, _)]) ⟨rfl, rfl, trivial⟩ ?_
      refine NX.then ?_
      refine Tr.join (S := fun env x => env = [(1, bp b1 0)] ∧ x = ⟨m, hcells b1 [.int .i64 m_0.n, .int .i64 m_0.users, .int .i64 m_0.acts, um_0_3, um_0_4] 69 :: l⟩ ∧ syllogistref_ViewCheck_k5 m_0 = some r) ?_ (fun hk6 => ?_)
      · rintro _ _ ⟨rfl, rfl, hr⟩
        unfold syllogistref_ViewCheck_k5 at hr
        try dsimp only at hr
        refine NX.then ?_
        refine Tr.seq ?_
        refine Tr.seq ?_
        refine Tr.region_f (fun _ => false) ?_
        refine W.q rfl rfl rfl rfl (by decide) (Yd.as rfl .c) ?_
        refine W.end ?_
        refine NX.sub (env' := [(1, _), (6, _)]) ⟨rfl, rfl, trivial⟩ ?_
        refine NX.then ?_
        refine Tr.join (S := fun env x => env = [] ∧ x = ⟨m, l⟩ ∧ syllogistref_ViewCheck_k9 = some r) ?_ (fun hk10 => ?_)
        · rintro _ _ ⟨rfl, rfl, hr⟩
          unfold syllogistref_ViewCheck_k9 at hr
          try dsimp only at hr
          refine NX.then ?_
          refine Tr.seq ?_
          refine Tr.region_f (fun _ => false) ?_
          refine W.q rfl rfl rfl rfl (by decide) (Yd.as rfl .c) ?_
          refine W.end ?_
          refine NX.sub (env' := [(2, _)]) ⟨rfl, trivial⟩ ?_
          refine NX.then ?_
          refine Tr.ret' ?_
          refine res1 rfl rfl ?_
          intro w hc
          cases hr
          exact ⟨rfl, hc⟩
        obtain ⟨hle11, hr⟩ := guard_some hr; replace hle11 := of_decide_eq_true hle11
        refine Tr.block ?_
        refine Tr.sub (env' := [(1, _), (6, _)]) ⟨rfl, rfl, trivial⟩ ?_
        refine Tr.loop (S := fun n (z : Int × Unit) env x => match z with | (s_12, _) => env = [(1, bp b1 0), (6, .int .i64 s_12)] ∧ x = ⟨m, hcells b1 [.int .i64 m_0.n, .int .i64 m_0.users, .int .i64 m_0.acts, um_0_3, um_0_4] 69 :: l⟩ ∧ n = (m_0.n - s_12).toNat ∧ 0 ≤ s_12 ∧ forK (σ := Unit) (fun i s nx_ => syllogistref_ViewCheck_b13 m_0 i nx_) (fun _ => syllogistref_ViewCheck_k9) n s_12 () = some r) _ ((0 : Int), ()) ⟨rfl, rfl, rfl, (by omega), hr⟩ ?_
        rintro n15 ⟨s_12, _⟩ env x ⟨rfl, rfl, hns_12, h0s_12, hr⟩
        cases n15 with
        | zero =>
          simp only [forK] at hr
          refine Tr.seq ?_
          refine Tr.seq ?_
          refine Tr.region_f (fun _ => false) ?_
          refine W.q rfl rfl rfl rfl (by decide) (Yd.mv rfl (.t rfl)) ?_
          refine W.q rfl rfl rfl rfl (by decide) (Yd.fldB rfl Try.underlying69 rfl SZ3 rfl (.t rfl)) ?_
          refine W.q rfl rfl rfl rfl (by decide) (Yd.ldB (pos := 0) rfl rfl rfl ON3 (.t rfl)) ?_
          refine W.q rfl rfl rfl rfl (by decide) (Yd.lss rfl (.t rfl) (.t rfl)) ?_
          refine W.end ?_
          refine NX.sub (env' := [(1, _), (6, _), (98, _)]) ⟨rfl, rfl, rfl, trivial⟩ ?_
          refine NX.then ?_
          refine Tr.cond (.t rfl) (fun hb => ?_) (fun hb => ?_)
          · exact absurd (hb.symm.trans (fr_end hns_12)) (by decide)
          ·
            refine Tr.exit' (EX.then (EX.then (EX.block ?_)))
            refine NX.sub (env' := []) trivial ?_
            refine NX.drop (l' := l) (.cons _ (.refl _)) ?_
            exact hk10 _ _ ⟨rfl, rfl, hr⟩
        | succ n15 =>
          obtain ⟨nx14, hnx14, hr⟩ := forK_succ hr
          try dsimp only at hr
          unfold syllogistref_ViewCheck_b13 at hr
          try dsimp only at hr
          have hlts_12 := fr_bnd hns_12
          refine Tr.seq ?_
          refine Tr.seq ?_
          refine Tr.region_f (fun _ => false) ?_
          refine W.q rfl rfl rfl rfl (by decide) (Yd.mv rfl (.t rfl)) ?_
          refine W.q rfl rfl rfl rfl (by decide) (Yd.fldB rfl Try.underlying69 rfl SZ3 rfl (.t rfl)) ?_
          refine W.q rfl rfl rfl rfl (by decide) (Yd.ldB (pos := 0) rfl rfl rfl ON3 (.t rfl)) ?_
          refine W.q rfl rfl rfl rfl (by decide) (Yd.lss rfl (.t rfl) (.t rfl)) ?_
          refine W.end ?_
          refine NX.sub (env' := [(1, _), (6, _), (98, _)]) ⟨rfl, rfl, rfl, trivial⟩ ?_
          refine NX.then ?_
          refine Tr.cond (.t rfl) (fun hb => ?_) (fun hb => ?_)
          rotate_left
          · exact absurd (hb.symm.trans (fr_go hns_12)) (by decide)
          ·
            refine Tr.skip' ?_
            refine NX.then ?_
            refine Tr.seq ?_
            refine Tr.block ?_
            refine Tr.seq ?_
            obtain ⟨y16, hy17, hr⟩ := bind_some hr
            refine Tr.region_f (fun _ => false) ?_
            refine W.q rfl rfl rfl rfl (by decide) (Yd.fldB rfl Try.underlying69 rfl SZ66 rfl (.t rfl)) ?_
            refine W.q rfl rfl rfl rfl (by decide) (Yd.ldB (pos := 0) rfl rfl rfl ON66 (.t rfl)) ?_
            refine W.q rfl rfl rfl rfl (by decide) (Yd.mv rfl (.t rfl)) ?_
            refine W.q rfl rfl rfl rfl (by decide) (Yd.idxR hm_0_3 hy17 rfl Try.underlying66 SZ67 (.t rfl) (.t rfl)) ?_
            obtain ⟨u18, hu19, hat20⟩ := hm_0_3.row hy17
            refine W.q rfl rfl rfl rfl (by decide) (Yd.ldRow hat20 (.refl _) rfl ON67 (.t rfl)) ?_
            refine W.q rfl rfl rfl rfl (by decide) (Yd.lenR hu19 rfl Try.underlying67 (.t rfl)) ?_
            refine W.q rfl rfl rfl rfl (by decide) (Yd.mv rfl .c) ?_
            refine W.end ?_
            refine NX.sub (env' := [(1, _), (6, _), (105, _), (106, _), (107, _)]) ⟨rfl, rfl, rfl, rfl, rfl, trivial⟩ ?_
            refine NX.then ?_
            refine Tr.join (S := fun env x => env = [(1, bp b1 0), (6, .int .i64 s_12)] ∧ x = ⟨m, hcells b1 [.int .i64 m_0.n, .int .i64 m_0.users, .int .i64 m_0.acts, um_0_3, um_0_4] 69 :: l⟩ ∧ syllogistref_ViewCheck_k23 nx14 = some r) ?_ (fun hk24 => ?_)
            · rintro _ _ ⟨rfl, rfl, hr⟩
              unfold syllogistref_ViewCheck_k23 at hr
              try dsimp only at hr
              refine NX.block ?_
              refine NX.then ?_
              refine Tr.region_f (fun _ => false) ?_
              refine W.q rfl rfl rfl rfl (by decide) (Yd.mv rfl (.t rfl)) ?_
              refine W.q rfl rfl rfl rfl (by decide) (Yd.add rfl (.t rfl) .c) ?_
              refine W.q rfl rfl rfl rfl (by decide) (Yd.as rfl (.t rfl)) ?_
              refine W.end ?_
              refine NX.sub (env' := [(1, _), (6, _)]) ⟨rfl, rfl, trivial⟩ ?_
              refine NX.sub (env' := [(1, _), (6, _)]) ⟨rfl, rfl, trivial⟩ ?_
              have hw := w64_id (n := s_12 + 1) (by omega) (by omega)
              exact NX.again n15 (s_12 + 1, ()) (Nat.lt_succ_self _) ⟨(by rw [hw] <;> rfl), rfl, (fr_dec hns_12), (by omega), ((hnx14 _).symm.trans hr)⟩
            have hlen25 := (hu19).2.1
            refine Tr.block ?_
            refine Tr.sub (env' := [(1, _), (6, _), (105, _), (106, _), (107, _)]) ⟨rfl, rfl, rfl, rfl, rfl, trivial⟩ ?_
            refine Tr.loop (S := fun n (z : Int × Unit) env x => match z with | (t_26, _) => env = [(1, bp b1 0), (6, .int .i64 s_12), (105, u18), (106, .int .i64 ((y16.length : Int))), (107, .int .i64 t_26)] ∧ x = ⟨m, hcells b1 [.int .i64 m_0.n, .int .i64 m_0.users, .int .i64 m_0.acts, um_0_3, um_0_4] 69 :: l⟩ ∧ n = ((y16.length : Int) - t_26).toNat ∧ 0 ≤ t_26 ∧ forK (σ := Unit) (fun i s nx_ => syllogistref_ViewCheck_b27 m_0 y16 i nx_) (fun _ => syllogistref_ViewCheck_k23 nx14) n t_26 () = some r) _ ((0 : Int), ()) ⟨rfl, rfl, rfl, (by omega), hr⟩ ?_
            rintro n29 ⟨t_26, _⟩ env x ⟨rfl, rfl, hnt_26, h0t_26, hr⟩
            cases n29 with
            | zero =>
              simp only [forK] at hr
              refine Tr.seq ?_
              refine Tr.region_f (fun _ => false) ?_
              refine W.q rfl rfl rfl rfl (by decide) (Yd.lss rfl (.t rfl) (.t rfl)) ?_
              refine W.end ?_
              refine NX.sub (env' := [(1, _), (6, _), (105, _), (106, _), (107, _), (108, _)]) ⟨rfl, rfl, rfl, rfl, rfl, rfl, trivial⟩ ?_
              refine NX.then ?_
              refine Tr.seq ?_
              refine Tr.cond (.t rfl) (fun hb => ?_) (fun hb => ?_)
              · exact absurd (hb.symm.trans (fr_end hnt_26)) (by decide)
              ·
                refine Tr.exit' (EX.then (EX.then (EX.block ?_)))
                refine NX.sub (env' := [(1, _), (6, _)]) ⟨rfl, rfl, trivial⟩ ?_
                exact hk24 _ _ ⟨rfl, rfl, hr⟩
            | succ n29 =>
              obtain ⟨nx28, hnx28, hr⟩ := forK_succ hr
              try dsimp only at hr
              unfold syllogistref_ViewCheck_b27 at hr
              try dsimp only at hr
              have hltt_26 := fr_bnd hnt_26
              refine Tr.seq ?_
              refine Tr.region_f (fun _ => false) ?_
              refine W.q rfl rfl rfl rfl (by decide) (Yd.lss rfl (.t rfl) (.t rfl)) ?_
              refine W.end ?_
              refine NX.sub (env' := [(1, _), (6, _), (105, _), (106, _), (107, _), (108, _)]) ⟨rfl, rfl, rfl, rfl, rfl, rfl, trivial⟩ ?_
              refine NX.then ?_
              refine Tr.seq ?_
              refine Tr.cond (.t rfl) (fun hb => ?_) (fun hb => ?_)
              rotate_left
              · exact absurd (hb.symm.trans (fr_go hnt_26)) (by decide)
              ·
                refine Tr.skip' ?_
                refine NX.then ?_
                refine Tr.seq ?_
                refine Tr.block ?_
                refine Tr.seq ?_
                obtain ⟨y30, hy31, hr⟩ := bind_some hr
                refine Tr.region_f (fun _ => false) ?_
                refine W.q rfl rfl rfl rfl (by decide) (Yd.idxR hu19 hy31 rfl Try.underlying67 SZ84 (.t rfl) (.t rfl)) ?_
                obtain ⟨u32, hu33, hat34⟩ := hu19.row hy31
                refine W.q rfl rfl rfl rfl (by decide) (Yd.ldRow hat34 (.refl _) rfl ON84 (.t rfl)) ?_
                refine W.q rfl rfl rfl rfl (by decide) (Yd.as rfl (.t rfl)) ?_
                refine W.end ?_
                refine NX.sub (env' := [(1, _), (6, _), (105, _), (106, _), (107, _), (8, _)]) ⟨rfl, rfl, rfl, rfl, rfl, rfl, trivial⟩ ?_
                refine NX.then ?_
                refine Tr.seq ?_
                refine Tr.region_f (fun _ => false) ?_
                refine W.q rfl rfl rfl rfl (by decide) (Yd.mv rfl (.t rfl)) ?_
                refine W.q rfl rfl rfl rfl (by decide) (Yd.lenR hu33 rfl Try.underlying84 (.t rfl)) ?_
                refine W.q rfl rfl rfl rfl (by decide) (Yd.mv rfl .c) ?_
                refine W.end ?_
                refine NX.sub (env' := [(1, _), (6, _), (105, _), (106, _), (107, _), (111, _), (112, _), (113, _)]) ⟨rfl, rfl, rfl, rfl, rfl, rfl, rfl, rfl, trivial⟩ ?_
                refine NX.then ?_
                refine Tr.join (S := fun env x => env = [(1, bp b1 0), (6, .int .i64 s_12), (105, u18), (106, .int .i64 ((y16.length : Int))), (107, .int .i64 t_26)] ∧ x = ⟨m, hcells b1 [.int .i64 m_0.n, .int .i64 m_0.users, .int .i64 m_0.acts, um_0_3, um_0_4] 69 :: l⟩ ∧ syllogistref_ViewCheck_k37 nx28 = some r) ?_ (fun hk38 => ?_)
                · rintro _ _ ⟨rfl, rfl, hr⟩
                  unfold syllogistref_ViewCheck_k37 at hr
                  try dsimp only at hr
                  refine NX.block ?_
                  refine NX.then ?_
                  refine Tr.region_f (fun _ => false) ?_
                  refine W.q rfl rfl rfl rfl (by decide) (Yd.add rfl (.t rfl) .c) ?_
                  refine W.q rfl rfl rfl rfl (by decide) (Yd.mv rfl (.t rfl)) ?_
                  refine W.end ?_
                  refine NX.sub (env' := [(1, _), (6, _), (105, _), (106, _), (107, _)]) ⟨rfl, rfl, rfl, rfl, rfl, trivial⟩ ?_
                  refine NX.sub (env' := [(1, _), (6, _), (105, _), (106, _), (107, _)]) ⟨rfl, rfl, rfl, rfl, rfl, trivial⟩ ?_
                  have hw := w64_id (n := t_26 + 1) (by omega) (by omega)
                  exact NX.again n29 (t_26 + 1, ()) (Nat.lt_succ_self _) ⟨(by rw [hw] <;> rfl), rfl, (fr_dec hnt_26), (by omega), ((hnx28 _).symm.trans hr)⟩
                have hlen39 := (hu33).2.1
                refine Tr.block ?_
                refine Tr.sub (env' := [(1, _), (6, _), (105, _), (106, _), (107, _), (111, _), (112, _), (113, _)]) ⟨rfl, rfl, rfl, rfl, rfl, rfl, rfl, rfl, trivial⟩ ?_
                refine Tr.loop (S := fun n (z : Int × Unit) env x => match z with | (t_40, _) => env = [(1, bp b1 0), (6, .int .i64 s_12), (105, u18), (106, .int .i64 ((y16.length : Int))), (107, .int .i64 t_26), (111, u32), (112, .int .i64 ((y30.length : Int))), (113, .int .i64 t_40)] ∧ x = ⟨m, hcells b1 [.int .i64 m_0.n, .int .i64 m_0.users, .int .i64 m_0.acts, um_0_3, um_0_4] 69 :: l⟩ ∧ n = ((y30.length : Int) - t_40).toNat ∧ 0 ≤ t_40 ∧ forK (σ := Unit) (fun i s nx_ => syllogistref_ViewCheck_b41 m_0 y30 i nx_) (fun _ => syllogistref_ViewCheck_k37 nx28) n t_40 () = some r) _ ((0 : Int), ()) ⟨rfl, rfl, rfl, (by omega), hr⟩ ?_
                rintro n43 ⟨t_40, _⟩ env x ⟨rfl, rfl, hnt_40, h0t_40, hr⟩
                cases n43 with
                | zero =>
                  simp only [forK] at hr
                  refine Tr.seq ?_
                  refine Tr.region_f (fun _ => false) ?_
                  refine W.q rfl rfl rfl rfl (by decide) (Yd.lss rfl (.t rfl) (.t rfl)) ?_
                  refine W.end ?_
                  refine NX.sub (env' := [(1, _), (6, _), (105, _), (106, _), (107, _), (111, _), (112, _), (113, _), (114, _)]) ⟨rfl, rfl, rfl, rfl, rfl, rfl, rfl, rfl, rfl, trivial⟩ ?_
                  refine NX.then ?_
                  refine Tr.seq ?_
                  refine Tr.cond (.t rfl) (fun hb => ?_) (fun hb => ?_)
                  · exact absurd (hb.symm.trans (fr_end hnt_40)) (by decide)
                  ·
                    refine Tr.exit' (EX.then (EX.then (EX.block ?_)))
                    refine NX.sub (env' := [(1, _), (6, _), (105, _), (106, _), (107, _)]) ⟨rfl, rfl, rfl, rfl, rfl, trivial⟩ ?_
                    exact hk38 _ _ ⟨rfl, rfl, hr⟩
                | succ n43 =>
                  obtain ⟨nx42, hnx42, hr⟩ := forK_succ hr
                  try dsimp only at hr
                  unfold syllogistref_ViewCheck_b41 at hr
                  try dsimp only at hr
                  have hltt_40 := fr_bnd hnt_40
                  refine Tr.seq ?_
                  refine Tr.region_f (fun _ => false) ?_
                  refine W.q rfl rfl rfl rfl (by decide) (Yd.lss rfl (.t rfl) (.t rfl)) ?_
                  refine W.end ?_
                  refine NX.sub (env' := [(1, _), (6, _), (105, _), (106, _), (107, _), (111, _), (112, _), (113, _), (114, _)]) ⟨rfl, rfl, rfl, rfl, rfl, rfl, rfl, rfl, rfl, trivial⟩ ?_
                  refine NX.then ?_
                  refine Tr.seq ?_
                  refine Tr.cond (.t rfl) (fun hb => ?_) (fun hb => ?_)
                  rotate_left
                  · exact absurd (hb.symm.trans (fr_go hnt_40)) (by decide)
                  ·
                    refine Tr.skip' ?_
                    refine NX.then ?_
                    refine Tr.seq ?_
                    refine Tr.block ?_
                    refine Tr.seq ?_
                    obtain ⟨y44, hy45, hr⟩ := bind_some hr
                    refine Tr.region_f (fun _ => false) ?_
                    refine W.q rfl rfl rfl rfl (by decide) (Yd.idxR hu33 hy45 rfl Try.underlying84 SZ3 (.t rfl) (.t rfl)) ?_
                    refine W.q rfl rfl rfl rfl (by decide) (Yd.ldF hu33 (.refl _) hy45 rfl rfl ON3 (.t rfl)) ?_
                    refine W.q rfl rfl rfl rfl (by decide) (Yd.as rfl (.t rfl)) ?_
                    refine W.end ?_
                    refine NX.sub (env' := [(1, _), (6, _), (105, _), (106, _), (107, _), (111, _), (112, _), (113, _), (10, _)]) ⟨rfl, rfl, rfl, rfl, rfl, rfl, rfl, rfl, rfl, trivial⟩ ?_
                    refine NX.then ?_
                    refine Tr.seq ?_
                    refine Tr.region_f (fun _ => false) ?_
                    refine W.q rfl rfl rfl rfl (by decide) (Yd.mv rfl (.t rfl)) ?_
                    refine W.q rfl rfl rfl rfl (by decide) (Yd.lss rfl (.t rfl) .c) ?_
                    refine W.q rfl rfl rfl rfl (by decide) (Yd.mv rfl (.t rfl)) ?_
                    refine W.g rfl rfl rfl rfl rfl (.t rfl _) rfl (by decide) (fun hG => Yd.mv rfl (.t rfl)) ?_
                    refine W.g rfl rfl rfl rfl rfl (.t rfl _) rfl (by decide) (fun hG => Yd.fldB rfl Try.underlying69 rfl SZ3 rfl (.t rfl)) ?_
                    refine W.g rfl rfl rfl rfl rfl (.t rfl _) rfl (by decide) (fun hG => Yd.ldB (pos := 0) rfl rfl rfl ON3 (.g rfl hG)) ?_
                    refine W.g rfl rfl rfl rfl rfl (.t rfl _) rfl (by decide) (fun hG => Yd.geq rfl (.g rfl hG) (.g rfl hG)) ?_
                    refine W.q rfl rfl rfl rfl (by decide) (Yd.or rfl (.t rfl) .c rfl rfl) ?_
                    refine W.end ?_
                    refine NX.sub (env' := [(1, _), (6, _), (105, _), (106, _), (107, _), (111, _), (112, _), (113, _), (124, _)]) ⟨rfl, rfl, rfl, rfl, rfl, rfl, rfl, rfl, rfl, trivial⟩ ?_
                    refine NX.then ?_
                    refine Tr.cond (.t rfl) (fun hb => ?_) (fun hb => ?_)
                    · have hr := cond_t hb hr
                      refine Tr.seq ?_
                      refine Tr.region_f (fun _ => false) ?_
                      refine W.q rfl rfl rfl rfl (by decide) (Yd.as rfl .c) ?_
                      refine W.end ?_
                      refine NX.sub (env' := [(2, _)]) ⟨rfl, trivial⟩ ?_
                      refine NX.drop (l' := l) (.cons _ (.refl _)) ?_
                      refine NX.then ?_
                      refine Tr.ret' (RT.block (RT.then (RT.then (RT.block (RT.block (RT.then (RT.then (RT.block (RT.block (RT.then (RT.then (RT.block (RT.then ?_)))))))))))))
                      refine res1 rfl rfl ?_
                      intro w hc
                      cases hr
                      exact ⟨rfl, hc⟩
                    · have hr := cond_f hb hr
                      refine Tr.skip' ?_
                      refine NX.block ?_
                      refine NX.then ?_
                      refine Tr.region_f (fun _ => false) ?_
                      refine W.q rfl rfl rfl rfl (by decide) (Yd.add rfl (.t rfl) .c) ?_
                      refine W.q rfl rfl rfl rfl (by decide) (Yd.mv rfl (.t rfl)) ?_
                      refine W.end ?_
                      refine NX.sub (env' := [(1, _), (6, _), (105, _), (106, _), (107, _), (111, _), (112, _), (113, _)]) ⟨rfl, rfl, rfl, rfl, rfl, rfl, rfl, rfl, trivial⟩ ?_
                      refine NX.sub (env' := [(1, _), (6, _), (105, _), (106, _), (107, _), (111, _), (112, _), (113, _)]) ⟨rfl, rfl, rfl, rfl, rfl, rfl, rfl, rfl, trivial⟩ ?_
                      have hw := w64_id (n := t_40 + 1) (by omega) (by omega)
                      exact NX.again n43 (t_40 + 1, ()) (Nat.lt_succ_self _) ⟨(by rw [hw] <;> rfl), rfl, (fr_dec hnt_40), (by omega), ((hnx42 _).symm.trans hr)⟩
      obtain ⟨hle46, hr⟩ := guard_some hr; replace hle46 := of_decide_eq_true hle46
      refine Tr.block ?_
      refine Tr.sub (env' := [(1, _), (3, _)]) ⟨rfl, rfl, trivial⟩ ?_
      refine Tr.loop (S := fun n (z : Int × Unit) env x => match z with | (s_47, _) => env = [(1, bp b1 0), (3, .int .i64 s_47)] ∧ x = ⟨m, hcells b1 [.int .i64 m_0.n, .int .i64 m_0.users, .int .i64 m_0.acts, um_0_3, um_0_4] 69 :: l⟩ ∧ n = (m_0.n - s_47).toNat ∧ 0 ≤ s_47 ∧ forK (σ := Unit) (fun i s nx_ => syllogistref_ViewCheck_b48 m_0 i nx_) (fun _ => syllogistref_ViewCheck_k5 m_0) n s_47 () = some r) _ ((0 : Int), ()) ⟨rfl, rfl, rfl, (by omega), hr⟩ ?_
      rintro n50 ⟨s_47, _⟩ env x ⟨rfl, rfl, hns_47, h0s_47, hr⟩
      cases n50 with
      | zero =>
        simp only [forK] at hr
        refine Tr.seq ?_
        refine Tr.seq ?_
        refine Tr.region_f (fun _ => false) ?_
        refine W.q rfl rfl rfl rfl (by decide) (Yd.mv rfl (.t rfl)) ?_
        refine W.q rfl rfl rfl rfl (by decide) (Yd.fldB rfl Try.underlying69 rfl SZ3 rfl (.t rfl)) ?_
        refine W.q rfl rfl rfl rfl (by decide) (Yd.ldB (pos := 0) rfl rfl rfl ON3 (.t rfl)) ?_
        refine W.q rfl rfl rfl rfl (by decide) (Yd.lss rfl (.t rfl) (.t rfl)) ?_
        refine W.end ?_
        refine NX.sub (env' := [(1, _), (3, _), (56, _)]) ⟨rfl, rfl, rfl, trivial⟩ ?_
        refine NX.then ?_
        refine Tr.cond (.t rfl) (fun hb => ?_) (fun hb => ?_)
        · exact absurd (hb.symm.trans (fr_end hns_47)) (by decide)
        ·
          refine Tr.exit' (EX.then (EX.then (EX.block ?_)))
          refine NX.sub (env' := [(1, _)]) ⟨rfl, trivial⟩ ?_
          exact hk6 _ _ ⟨rfl, rfl, hr⟩
      | succ n50 =>
        obtain ⟨nx49, hnx49, hr⟩ := forK_succ hr
        try dsimp only at hr
        unfold syllogistref_ViewCheck_b48 at hr
        try dsimp only at hr
        have hlts_47 := fr_bnd hns_47
        refine Tr.seq ?_
        refine Tr.seq ?_
        refine Tr.region_f (fun _ => false) ?_
        refine W.q rfl rfl rfl rfl (by decide) (Yd.mv rfl (.t rfl)) ?_
        refine W.q rfl rfl rfl rfl (by decide) (Yd.fldB rfl Try.underlying69 rfl SZ3 rfl (.t rfl)) ?_
        refine W.q rfl rfl rfl rfl (by decide) (Yd.ldB (pos := 0) rfl rfl rfl ON3 (.t rfl)) ?_
        refine W.q rfl rfl rfl rfl (by decide) (Yd.lss rfl (.t rfl) (.t rfl)) ?_
        refine W.end ?_
        refine NX.sub (env' := [(1, _), (3, _), (56, _)]) ⟨rfl, rfl, rfl, trivial⟩ ?_
        refine NX.then ?_
        refine Tr.cond (.t rfl) (fun hb => ?_) (fun hb => ?_)
        rotate_left
        · exact absurd (hb.symm.trans (fr_go hns_47)) (by decide)
        ·
          refine Tr.skip' ?_
          refine NX.then ?_
          refine Tr.seq ?_
          refine Tr.block ?_
          refine Tr.seq ?_
          refine Tr.seq ?_
          obtain ⟨y51, hy52, hr⟩ := bind_some hr
          obtain ⟨ha56, hr⟩ := guard_some hr
          refine Tr.region_x (fun _ => false) (fun _ => false) (Ord.of [0, 1, 2, 3, 4, 5, 6, 7, 8, 9, 10, 11, 12, 13, 14, 15, 16, 17, 18, 19]) FM (by kernel_rfl) ?_
          refine W.q rfl rfl rfl rfl (by decide) (Yd.fldB rfl Try.underlying69 rfl SZ66 rfl (.t rfl)) ?_
          refine W.q rfl rfl rfl rfl (by decide) (Yd.ldB (pos := 0) rfl rfl rfl ON66 (.t rfl)) ?_
          refine W.q rfl rfl rfl rfl (by decide) (Yd.mv rfl (.t rfl)) ?_
          refine W.q rfl rfl rfl rfl (by decide) (Yd.idxR hm_0_3 hy52 rfl Try.underlying66 SZ67 (.t rfl) (.t rfl)) ?_
          obtain ⟨u53, hu54, hat55⟩ := hm_0_3.row hy52
          refine W.q rfl rfl rfl rfl (by decide) (Yd.ldRow hat55 (.refl _) rfl ON67 (.t rfl)) ?_
          refine W.q rfl rfl rfl rfl (by decide) (Yd.lenR hu54 rfl Try.underlying67 (.t rfl)) ?_
          refine W.q rfl rfl rfl rfl (by decide) (Yd.fldB rfl Try.underlying69 rfl SZ3 rfl (.t rfl)) ?_
          refine W.q rfl rfl rfl rfl (by decide) (Yd.ldB (pos := 0) rfl rfl rfl ON3 (.t rfl)) ?_
          refine W.q rfl rfl rfl rfl (by decide) (Yd.neq rfl (.t rfl) (.t rfl)) ?_
          refine W.q rfl rfl rfl rfl (by decide) (Yd.mv rfl (.t rfl)) ?_
          refine W.g rfl rfl rfl rfl rfl (.t rfl _) rfl (by decide) (fun hG => Yd.fldB rfl Try.underlying69 rfl SZ67 rfl (.t rfl)) ?_
          refine W.g rfl rfl rfl rfl rfl (.t rfl _) rfl (by decide) (fun hG => Yd.ldB (pos := 0) rfl rfl rfl ON67 (.g rfl hG)) ?_
          refine W.g rfl rfl rfl rfl rfl (.t rfl _) rfl (by decide) (fun hG => Yd.mv rfl (.t rfl)) ?_
          refine W.g rfl rfl rfl rfl rfl (.t rfl _) rfl (by decide) (fun hG => Yd.idxR hm_0_4 (gd_get (d := []) ha56 hG) rfl Try.underlying67 SZ84 (.g rfl hG) (.g rfl hG)) ?_
          obtain ⟨u57, hu58⟩ := RS.rowD hm_0_4 (i := s_47)
          refine W.g rfl rfl rfl rfl rfl (.t rfl _) rfl (by decide) (fun hG => Yd.ldRow (hu58 _ (gd_get (d := []) ha56 hG)).2 (.refl _) rfl ON84 (.g rfl hG)) ?_
          refine W.g rfl rfl rfl rfl rfl (.t rfl _) rfl (by decide) (fun hG => Yd.lenR (hu58 _ (gd_get (d := []) ha56 hG)).1 rfl Try.underlying84 (.g rfl hG)) ?_
          refine W.g rfl rfl rfl rfl rfl (.t rfl _) rfl (by decide) (fun hG => Yd.fldB rfl Try.underlying69 rfl SZ3 rfl (.t rfl)) ?_
          refine W.g rfl rfl rfl rfl rfl (.t rfl _) rfl (by decide) (fun hG => Yd.ldB (pos := 0) rfl rfl rfl ON3 (.g rfl hG)) ?_
          refine W.g rfl rfl rfl rfl rfl (.t rfl _) rfl (by decide) (fun hG => Yd.neq rfl (.g rfl hG) (.g rfl hG)) ?_
          refine W.q rfl rfl rfl rfl (by decide) (Yd.or rfl (.t rfl) .c rfl rfl) ?_
          refine W.end ?_
          refine NX.sub (env' := [(1, _), (3, _), (78, _)]) ⟨rfl, rfl, rfl, trivial⟩ ?_
          refine NX.then ?_
          refine Tr.cond (.t rfl) (fun hb => ?_) (fun hb => ?_)
          · have hr := cond_t hb hr
            refine Tr.seq ?_
            refine Tr.region_f (fun _ => false) ?_
            refine W.q rfl rfl rfl rfl (by decide) (Yd.as rfl .c) ?_
            refine W.end ?_
            refine NX.sub (env' := [(2, _)]) ⟨rfl, trivial⟩ ?_
            refine NX.drop (l' := l) (.cons _ (.refl _)) ?_
            refine NX.then ?_
            refine Tr.ret' (RT.then (RT.block (RT.then (RT.then (RT.block (RT.then ?_))))))
            refine res1 rfl rfl ?_
            intro w hc
            cases hr
            exact ⟨rfl, hc⟩
          · have hr := cond_f hb hr
            refine Tr.skip' ?_
            refine NX.then ?_
            refine Tr.seq ?_
            obtain ⟨y60, hy61, hr⟩ := bind_some hr
            refine Tr.region_f (fun _ => false) ?_
            refine W.q rfl rfl rfl rfl (by decide) (Yd.fldB rfl Try.underlying69 rfl SZ66 rfl (.t rfl)) ?_
            refine W.q rfl rfl rfl rfl (by decide) (Yd.ldB (pos := 0) rfl rfl rfl ON66 (.t rfl)) ?_
            refine W.q rfl rfl rfl rfl (by decide) (Yd.mv rfl (.t rfl)) ?_
            refine W.q rfl rfl rfl rfl (by decide) (Yd.idxR hm_0_3 hy61 rfl Try.underlying66 SZ67 (.t rfl) (.t rfl)) ?_
            obtain ⟨u62, hu63, hat64⟩ := hm_0_3.row hy61
            refine W.q rfl rfl rfl rfl (by decide) (Yd.ldRow hat64 (.refl _) rfl ON67 (.t rfl)) ?_
            refine W.q rfl rfl rfl rfl (by decide) (Yd.lenR hu63 rfl Try.underlying67 (.t rfl)) ?_
            refine W.q rfl rfl rfl rfl (by decide) (Yd.mv rfl .c) ?_
            refine W.end ?_
            refine NX.sub (env' := [(1, _), (3, _), (83, _), (84, _), (85, _)]) ⟨rfl, rfl, rfl, rfl, rfl, trivial⟩ ?_
            refine NX.then ?_
            refine Tr.join (S := fun env x => env = [(1, bp b1 0), (3, .int .i64 s_47)] ∧ x = ⟨m, hcells b1 [.int .i64 m_0.n, .int .i64 m_0.users, .int .i64 m_0.acts, um_0_3, um_0_4] 69 :: l⟩ ∧ syllogistref_ViewCheck_k67 nx49 = some r) ?_ (fun hk68 => ?_)
            · rintro _ _ ⟨rfl, rfl, hr⟩
              unfold syllogistref_ViewCheck_k67 at hr
              try dsimp only at hr
              refine NX.block ?_
              refine NX.then ?_
              refine Tr.region_f (fun _ => false) ?_
              refine W.q rfl rfl rfl rfl (by decide) (Yd.mv rfl (.t rfl)) ?_
              refine W.q rfl rfl rfl rfl (by decide) (Yd.add rfl (.t rfl) .c) ?_
              refine W.q rfl rfl rfl rfl (by decide) (Yd.as rfl (.t rfl)) ?_
              refine W.end ?_
              refine NX.sub (env' := [(1, _), (3, _)]) ⟨rfl, rfl, trivial⟩ ?_
              refine NX.sub (env' := [(1, _), (3, _)]) ⟨rfl, rfl, trivial⟩ ?_
              have hw := w64_id (n := s_47 + 1) (by omega) (by omega)
              exact NX.again n50 (s_47 + 1, ()) (Nat.lt_succ_self _) ⟨(by rw [hw] <;> rfl), rfl, (fr_dec hns_47), (by omega), ((hnx49 _).symm.trans hr)⟩
            have hlen69 := (hu63).2.1
            refine Tr.block ?_
            refine Tr.sub (env' := [(1, _), (3, _), (83, _), (84, _), (85, _)]) ⟨rfl, rfl, rfl, rfl, rfl, trivial⟩ ?_
            refine Tr.loop (S := fun n (z : Int × Unit) env x => match z with | (t_70, _) => env = [(1, bp b1 0), (3, .int .i64 s_47), (83, u62), (84, .int .i64 ((y60.length : Int))), (85, .int .i64 t_70)] ∧ x = ⟨m, hcells b1 [.int .i64 m_0.n, .int .i64 m_0.users, .int .i64 m_0.acts, um_0_3, um_0_4] 69 :: l⟩ ∧ n = ((y60.length : Int) - t_70).toNat ∧ 0 ≤ t_70 ∧ forK (σ := Unit) (fun i s nx_ => syllogistref_ViewCheck_b71 m_0 y60 i nx_) (fun _ => syllogistref_ViewCheck_k67 nx49) n t_70 () = some r) _ ((0 : Int), ()) ⟨rfl, rfl, rfl, (by omega), hr⟩ ?_
            rintro n73 ⟨t_70, _⟩ env x ⟨rfl, rfl, hnt_70, h0t_70, hr⟩
            cases n73 with
            | zero =>
              simp only [forK] at hr
              refine Tr.seq ?_
              refine Tr.region_f (fun _ => false) ?_
              refine W.q rfl rfl rfl rfl (by decide) (Yd.lss rfl (.t rfl) (.t rfl)) ?_
              refine W.end ?_
              refine NX.sub (env' := [(1, _), (3, _), (83, _), (84, _), (85, _), (86, _)]) ⟨rfl, rfl, rfl, rfl, rfl, rfl, trivial⟩ ?_
              refine NX.then ?_
              refine Tr.seq ?_
              refine Tr.cond (.t rfl) (fun hb => ?_) (fun hb => ?_)
              · exact absurd (hb.symm.trans (fr_end hnt_70)) (by decide)
              ·
                refine Tr.exit' (EX.then (EX.then (EX.block ?_)))
                refine NX.sub (env' := [(1, _), (3, _)]) ⟨rfl, rfl, trivial⟩ ?_
                exact hk68 _ _ ⟨rfl, rfl, hr⟩
            | succ n73 =>
              obtain ⟨nx72, hnx72, hr⟩ := forK_succ hr
              try dsimp only at hr
              unfold syllogistref_ViewCheck_b71 at hr
              try dsimp only at hr
              have hltt_70 := fr_bnd hnt_70
              refine Tr.seq ?_
              refine Tr.region_f (fun _ => false) ?_
              refine W.q rfl rfl rfl rfl (by decide) (Yd.lss rfl (.t rfl) (.t rfl)) ?_
              refine W.end ?_
              refine NX.sub (env' := [(1, _), (3, _), (83, _), (84, _), (85, _), (86, _)]) ⟨rfl, rfl, rfl, rfl, rfl, rfl, trivial⟩ ?_
              refine NX.then ?_
              refine Tr.seq ?_
              refine Tr.cond (.t rfl) (fun hb => ?_) (fun hb => ?_)
              rotate_left
              · exact absurd (hb.symm.trans (fr_go hnt_70)) (by decide)
              ·
                refine Tr.skip' ?_
                refine NX.then ?_
                refine Tr.seq ?_
                refine Tr.block ?_
                refine Tr.seq ?_
                obtain ⟨y74, hy75, hr⟩ := bind_some hr
                refine Tr.region_f (fun _ => false) ?_
                refine W.q rfl rfl rfl rfl (by decide) (Yd.idxR hu63 hy75 rfl Try.underlying67 SZ84 (.t rfl) (.t rfl)) ?_
                obtain ⟨u76, hu77, hat78⟩ := hu63.row hy75
                refine W.q rfl rfl rfl rfl (by decide) (Yd.ldRow hat78 (.refl _) rfl ON84 (.t rfl)) ?_
                refine W.q rfl rfl rfl rfl (by decide) (Yd.as rfl (.t rfl)) ?_
                refine W.end ?_
                refine NX.sub (env' := [(1, _), (3, _), (83, _), (84, _), (85, _), (5, _)]) ⟨rfl, rfl, rfl, rfl, rfl, rfl, trivial⟩ ?_
                refine NX.then ?_
                refine Tr.seq ?_
                refine Tr.region_f (fun _ => false) ?_
                refine W.q rfl rfl rfl rfl (by decide) (Yd.mv rfl (.t rfl)) ?_
                refine W.q rfl rfl rfl rfl (by decide) (Yd.lenR hu77 rfl Try.underlying84 (.t rfl)) ?_
                refine W.q rfl rfl rfl rfl (by decide) (Yd.fldB rfl Try.underlying69 rfl SZ3 rfl (.t rfl)) ?_
                refine W.q rfl rfl rfl rfl (by decide) (Yd.ldB (pos := 0) rfl rfl rfl ON3 (.t rfl)) ?_
                refine W.q rfl rfl rfl rfl (by decide) (Yd.neq rfl (.t rfl) (.t rfl)) ?_
                refine W.end ?_
                refine NX.sub (env' := [(1, _), (3, _), (83, _), (84, _), (85, _), (93, _)]) ⟨rfl, rfl, rfl, rfl, rfl, rfl, trivial⟩ ?_
                refine NX.then ?_
                refine Tr.cond (.t rfl) (fun hb => ?_) (fun hb => ?_)
                · have hr := cond_t hb hr
                  refine Tr.seq ?_
                  refine Tr.region_f (fun _ => false) ?_
                  refine W.q rfl rfl rfl rfl (by decide) (Yd.as rfl .c) ?_
                  refine W.end ?_
                  refine NX.sub (env' := [(2, _)]) ⟨rfl, trivial⟩ ?_
                  refine NX.drop (l' := l) (.cons _ (.refl _)) ?_
                  refine NX.then ?_
                  refine Tr.ret' (RT.block (RT.then (RT.then (RT.block (RT.block (RT.then (RT.then (RT.block (RT.then ?_)))))))))
                  refine res1 rfl rfl ?_
                  intro w hc
                  cases hr
                  exact ⟨rfl, hc⟩
                · have hr := cond_f hb hr
                  refine Tr.skip' ?_
                  refine NX.block ?_
                  refine NX.then ?_
                  refine Tr.region_f (fun _ => false) ?_
                  refine W.q rfl rfl rfl rfl (by decide) (Yd.add rfl (.t rfl) .c) ?_
                  refine W.q rfl rfl rfl rfl (by decide) (Yd.mv rfl (.t rfl)) ?_
                  refine W.end ?_
                  refine NX.sub (env' := [(1, _), (3, _), (83, _), (84, _), (85, _)]) ⟨rfl, rfl, rfl, rfl, rfl, trivial⟩ ?_
                  refine NX.sub (env' := [(1, _), (3, _), (83, _), (84, _), (85, _)]) ⟨rfl, rfl, rfl, rfl, rfl, trivial⟩ ?_
                  have hw := w64_id (n := t_70 + 1) (by omega) (by omega)
                  exact NX.again n73 (t_70 + 1, ()) (Nat.lt_succ_self _) ⟨(by rw [hw] <;> rfl), rfl, (fr_dec hnt_70), (by omega), ((hnx72 _).symm.trans hr)⟩

def syllogistref_Fits (n_0 : Int) (s_1 : (BitVec 32)) : Option (Bool) :=
  some (((decide (n_0 ≥ (32 : Int))) || ((decide (n_0 ≥ (0 : Int))) && (decide (s_1 < (1#32 <<< ((BitVec.ofInt 64 n_0)).toNat))))))

set_option maxRecDepth 100000 in
set_option maxHeartbeats 4000000 in
theorem syllogistref_Fits_ok (w0 : World) (m : Snap) (l : List HI) (n_0 : Int) (s_1 : (BitVec 32)) (r : Bool) (hr : syllogistref_Fits n_0 s_1 = some r) (w : World) (hc : cX w0 ⟨m, l⟩ w) :
    Calls Try.prog 64 [.int .i64 n_0, .int .u32 (s_1.toNat : Int)].toArray w fun e w' => e = .returned (.bool r) ∧ cX w0 ⟨m, l⟩ w' := by
  unfold syllogistref_Fits at hr
  refine calls_of_Tr (N := 18) Try.func64 rfl hc rfl (Nat.le_of_ble_eq_true rfl) ?_
  refine Tr.seq ?_
  refine Tr.region_f (fun _ => false) ?_
  refine W.q rfl rfl rfl rfl (by decide) (Yd.as rfl .c) ?_
  refine W.end ?_
  refine NX.sub (env' := [(0, _), (1, _)]) ⟨rfl, rfl, trivial⟩ ?_
  refine NX.then ?_
  refine Tr.seq ?_
  refine Tr.region_f (fun _ => false) ?_
  refine W.q rfl rfl rfl rfl (by decide) (Yd.mv rfl (.t rfl)) ?_
  refine W.q rfl rfl rfl rfl (by decide) (Yd.geq rfl (.t rfl) .c) ?_
  refine W.q rfl rfl rfl rfl (by decide) (Yd.mv rfl (.t rfl)) ?_
  refine W.g rfl rfl rfl rfl rfl (.t rfl _) rfl (by decide) (fun hG => Yd.mv rfl (.t rfl)) ?_
  refine W.g rfl rfl rfl rfl rfl (.t rfl _) rfl (by decide) (fun hG => Yd.geq rfl (.g rfl hG) .c) ?_
  refine W.g rfl rfl rfl rfl rfl (.t rfl _) rfl (by decide) (fun hG => Yd.mv rfl (.g rfl hG)) ?_
  refine W.g rfl rfl rfl rfl rfl (.g rfl _) rfl (by decide) (fun hG => Yd.mv rfl (.t rfl)) ?_
  refine W.g rfl rfl rfl rfl rfl (.g rfl _) rfl (by decide) (fun hG => Yd.mv rfl (.t rfl)) ?_
  refine W.g rfl rfl rfl rfl rfl (.g rfl _) rfl (by decide) (fun hG => Yd.cvQ rfl US3 Try.underlying139 (.g rfl hG)) ?_
  refine W.g rfl rfl rfl rfl rfl (.g rfl _) rfl (by decide) (fun hG => Yd.shlU (a := 1#32) rfl .c (.g rfl hG) (Int.natCast_nonneg _)) ?_
  refine W.g rfl rfl rfl rfl rfl (.g rfl _) rfl (by decide) (fun hG => Yd.lssU (a := s_1) (b := (1#32 <<< ((BitVec.ofInt 64 n_0)).toNat)) rfl (.g rfl hG) (.g rfl hG)) ?_
  refine W.g rfl rfl rfl rfl rfl (.t rfl _) rfl (by decide) (fun hG => Yd.andG rfl (.g rfl hG) .c rfl rfl hG) ?_
  refine W.q rfl rfl rfl rfl (by decide) (Yd.or rfl (.t rfl) .c rfl rfl) ?_
  refine W.q rfl rfl rfl rfl (by decide) (Yd.as rfl (.t rfl)) ?_
  refine W.end ?_
  refine NX.sub (env' := [(4, _)]) ⟨rfl, trivial⟩ ?_
  refine NX.then ?_
  refine Tr.ret' ?_
  refine res1 rfl rfl ?_
  intro w hc
  cases hr
  exact ⟨rfl, hc⟩

def syllogistlaw_hiddenCode (m_0 : Machine) (hidden_1 : (BitVec 32)) : Option (Int) :=
  (syllogistref_ViewCheck (({ n := m_0.n, users := m_0.users, acts := m_0.acts, next := m_0.next, sees := m_0.sees } : Machine))).bind fun r3 =>
  bif (!((r3 == (0 : Int)) == true) || (syllogistref_Fits m_0.users hidden_1).isSome) then
  (bif ((r3 == (0 : Int)) && (!(((syllogistref_Fits m_0.users hidden_1).getD false)))) then
  some ((4 : Int))
  else
  some r3) else none

set_option maxRecDepth 100000 in
set_option maxHeartbeats 4000000 in
theorem syllogistlaw_hiddenCode_ok (w0 : World) (m : Snap) (l : List HI) (m_0 : Machine) (um_0_3 : Value) (hm_0_3 : RS (Rp.slice (Rp.slice rI)) m um_0_3 m_0.next) (um_0_4 : Value) (hm_0_4 : RS (Rp.slice rI) m um_0_4 m_0.sees) (hidden_1 : (BitVec 32)) (r : Int) (hr : syllogistlaw_hiddenCode m_0 hidden_1 = some r) (w : World) (hc : cX w0 ⟨m, l⟩ w) :
    Calls Try.prog 38 [.agg #[.int .i64 m_0.n, .int .i64 m_0.users, .int .i64 m_0.acts, um_0_3, um_0_4], .int .u32 (hidden_1.toNat : Int)].toArray w fun e w' => e = .returned (.int .i64 r) ∧ cX w0 ⟨m, l⟩ w' := by
  unfold syllogistlaw_hiddenCode at hr
  refine calls_of_Tr (N := 18) Try.func38 rfl hc rfl (Nat.le_of_ble_eq_true rfl) ?_
  refine Tr.seq ?_
  refine Tr.region_f (fun i => Nat.beq i 0) ?_
  refine W.e rfl rfl rfl rfl (by decide) (Ef.bx rfl (.t rfl) rfl) ?_
  rintro _ _ ⟨b1, rfl, rfl⟩
  refine ⟨.inl rfl, ?_⟩
  refine W.cast (m' := m) (l' := hcells b1 [_, _, _, _, _] 69 :: l) rfl rfl ?_
  refine W.q rfl rfl rfl rfl (by decide) (Yd.as rfl .c) ?_
  refine W.end ?_
  refine NX.sub (env' := [(1, _), (2, _)]) ⟨rfl, rfl, trivial⟩ ?_
  refine NX.then ?_
  refine Tr.seq ?_
  obtain ⟨r3, hr4, hr⟩ := bind_some hr
  refine Tr.region_f (fun _ => false) ?_
  refine W.q rfl rfl rfl rfl (by decide) (Yd.ldBs (pos := 0) (us := [_, _, _, _, _]) rfl rfl rfl rfl ON69 US69 SZ69 (.t rfl)) ?_
  refine W.q rfl rfl rfl rfl (by decide) (Yd.call (v := .int .i64 r3) rfl Try.func33 rfl rfl (.cons (.t rfl) .nil) (fun x' hx w hw => syllogistref_ViewCheck_ok w0 x'.m x'.l _ _ (hm_0_3.mono hx.1) _ (hm_0_4.mono hx.1) _ hr4 w hw)) ?_
  refine W.q rfl rfl rfl rfl (by decide) (Yd.as rfl (.t rfl)) ?_
  refine W.end ?_
  refine NX.sub (env' := [(1, _), (2, _), (5, _)]) ⟨rfl, rfl, rfl, trivial⟩ ?_
  refine NX.then ?_
  refine Tr.seq ?_
  refine Tr.seq ?_
  obtain ⟨ha5, hr⟩ := guard_some hr
  refine Tr.region_f (fun _ => false) ?_
  refine W.q rfl rfl rfl rfl (by decide) (Yd.mv rfl (.t rfl)) ?_
  refine W.q rfl rfl rfl rfl (by decide) (Yd.eql rfl (.t rfl) .c) ?_
  refine W.q rfl rfl rfl rfl (by decide) (Yd.mv rfl (.t rfl)) ?_
  refine W.g rfl rfl rfl rfl rfl (.t rfl _) rfl (by decide) (fun hG => Yd.fldB rfl Try.underlying69 rfl SZ3 rfl (.t rfl)) ?_
  refine W.g rfl rfl rfl rfl rfl (.t rfl _) rfl (by decide) (fun hG => Yd.ldB (pos := 0) rfl rfl rfl ON3 (.g rfl hG)) ?_
  refine W.g rfl rfl rfl rfl rfl (.t rfl _) rfl (by decide) (fun hG => Yd.mv rfl (.t rfl)) ?_
  refine W.g rfl rfl rfl rfl rfl (.t rfl _) rfl (by decide) (fun hG => Yd.call (v := .bool ((((syllogistref_Fits m_0.users hidden_1).getD false)))) rfl Try.func64 rfl rfl (.cons (.g rfl hG) (.cons (.g rfl hG) .nil)) (fun x' hx w hw => syllogistref_Fits_ok w0 x'.m x'.l m_0.users hidden_1 _ (gd_get (d := false) ha5 hG) w hw)) ?_
  refine W.g rfl rfl rfl rfl rfl (.t rfl _) rfl (by decide) (fun hG => Yd.not rfl (.g rfl hG)) ?_
  refine W.q rfl rfl rfl rfl (by decide) (Yd.and rfl (.t rfl) .c rfl rfl) ?_
  refine W.end ?_
  refine NX.sub (env' := [(5, _), (16, _)]) ⟨rfl, rfl, trivial⟩ ?_
  refine NX.drop (l' := l) (.cons _ (.refl _)) ?_
  refine NX.then ?_
  refine Tr.cond (.t rfl) (fun hb => ?_) (fun hb => ?_)
  · have hr := cond_t hb hr
    refine Tr.region_f (fun _ => false) ?_
    refine W.q rfl rfl rfl rfl (by decide) (Yd.as rfl .c) ?_
    refine W.end ?_
    refine NX.sub (env' := [(5, _)]) ⟨rfl, trivial⟩ ?_
    refine NX.then ?_
    refine Tr.seq ?_
    refine Tr.region_f (fun _ => false) ?_
    refine W.q rfl rfl rfl rfl (by decide) (Yd.mv rfl (.t rfl)) ?_
    refine W.q rfl rfl rfl rfl (by decide) (Yd.as rfl (.t rfl)) ?_
    refine W.end ?_
    refine NX.sub (env' := [(4, _)]) ⟨rfl, trivial⟩ ?_
    refine NX.then ?_
    refine Tr.ret' ?_
    refine res1 rfl rfl ?_
    intro w hc
    cases hr
    exact ⟨rfl, hc⟩
  · have hr := cond_f hb hr
    refine Tr.skip' ?_
    refine NX.then ?_
    refine Tr.seq ?_
    refine Tr.region_f (fun _ => false) ?_
    refine W.q rfl rfl rfl rfl (by decide) (Yd.mv rfl (.t rfl)) ?_
    refine W.q rfl rfl rfl rfl (by decide) (Yd.as rfl (.t rfl)) ?_
    refine W.end ?_
    refine NX.sub (env' := [(4, _)]) ⟨rfl, trivial⟩ ?_
    refine NX.then ?_
    refine Tr.ret' ?_
    refine res1 rfl rfl ?_
    intro w hc
    cases hr
    exact ⟨rfl, hc⟩

def syllogistref_Bit (w_0 : (BitVec 32)) (i_1 : Int) : Option (Bool) :=
  some ((((decide (i_1 ≥ (0 : Int))) && (decide (i_1 < (32 : Int)))) && ((w_0 &&& (1#32 <<< ((BitVec.ofInt 64 i_1)).toNat)) != 0#32)))

set_option maxRecDepth 100000 in
set_option maxHeartbeats 4000000 in
theorem syllogistref_Bit_ok (w0 : World) (m : Snap) (l : List HI) (w_0 : (BitVec 32)) (i_1 : Int) (r : Bool) (hr : syllogistref_Bit w_0 i_1 = some r) (w : World) (hc : cX w0 ⟨m, l⟩ w) :
    Calls Try.prog 69 [.int .u32 (w_0.toNat : Int), .int .i64 i_1].toArray w fun e w' => e = .returned (.bool r) ∧ cX w0 ⟨m, l⟩ w' := by
  unfold syllogistref_Bit at hr
  refine calls_of_Tr (N := 19) Try.func69 rfl hc rfl (Nat.le_of_ble_eq_true rfl) ?_
  refine Tr.seq ?_
  refine Tr.region_f (fun _ => false) ?_
  refine W.q rfl rfl rfl rfl (by decide) (Yd.as rfl .c) ?_
  refine W.end ?_
  refine NX.sub (env' := [(0, _), (1, _)]) ⟨rfl, rfl, trivial⟩ ?_
  refine NX.then ?_
  refine Tr.seq ?_
  refine Tr.region_f (fun _ => false) ?_
  refine W.q rfl rfl rfl rfl (by decide) (Yd.mv rfl (.t rfl)) ?_
  refine W.q rfl rfl rfl rfl (by decide) (Yd.geq rfl (.t rfl) .c) ?_
  refine W.q rfl rfl rfl rfl (by decide) (Yd.mv rfl (.t rfl)) ?_
  refine W.g rfl rfl rfl rfl rfl (.t rfl _) rfl (by decide) (fun hG => Yd.mv rfl (.t rfl)) ?_
  refine W.g rfl rfl rfl rfl rfl (.t rfl _) rfl (by decide) (fun hG => Yd.lss rfl (.g rfl hG) .c) ?_
  refine W.q rfl rfl rfl rfl (by decide) (Yd.and rfl (.t rfl) .c rfl rfl) ?_
  refine W.q rfl rfl rfl rfl (by decide) (Yd.mv rfl (.t rfl)) ?_
  refine W.g rfl rfl rfl rfl rfl (.t rfl _) rfl (by decide) (fun hG => Yd.mv rfl (.t rfl)) ?_
  refine W.g rfl rfl rfl rfl rfl (.t rfl _) rfl (by decide) (fun hG => Yd.mv rfl (.t rfl)) ?_
  refine W.g rfl rfl rfl rfl rfl (.t rfl _) rfl (by decide) (fun hG => Yd.cvQ rfl US3 Try.underlying139 (.g rfl hG)) ?_
  refine W.g rfl rfl rfl rfl rfl (.t rfl _) rfl (by decide) (fun hG => Yd.shlU (a := 1#32) rfl .c (.g rfl hG) (Int.natCast_nonneg _)) ?_
  refine W.g rfl rfl rfl rfl rfl (.t rfl _) rfl (by decide) (fun hG => Yd.andU (a := w_0) (b := (1#32 <<< ((BitVec.ofInt 64 i_1)).toNat)) rfl (.g rfl hG) (.g rfl hG)) ?_
  refine W.g rfl rfl rfl rfl rfl (.t rfl _) rfl (by decide) (fun hG => Yd.neqU (a := (w_0 &&& (1#32 <<< ((BitVec.ofInt 64 i_1)).toNat))) (b := 0#32) rfl (.g rfl hG) .c) ?_
  refine W.q rfl rfl rfl rfl (by decide) (Yd.and rfl (.t rfl) .c rfl rfl) ?_
  refine W.q rfl rfl rfl rfl (by decide) (Yd.as rfl (.t rfl)) ?_
  refine W.end ?_
  refine NX.sub (env' := [(4, _)]) ⟨rfl, trivial⟩ ?_
  refine NX.then ?_
  refine Tr.ret' ?_
  refine res1 rfl rfl ?_
  intro w hc
  cases hr
  exact ⟨rfl, hc⟩

def syllogistref_Sees_k5 : Option (Bool) :=
  some true

def syllogistref_Sees_b9 (m_0 : Machine) (hidden_1 : (BitVec 32)) (s_2 : Int) (t_3 : Int) (u_8 : Int) (nx10 : Unit → Option (Bool)) : Option (Bool) :=
  (syllogistref_Bit hidden_1 u_8).bind fun r12 =>
  bif (!((!r12) == true) || (geti m_0.sees s_2).isSome) then
  bif (!((!r12) == true) || (geti (((geti m_0.sees s_2).getD [])) u_8).isSome) then
  bif (!((!r12) == true) || (geti m_0.sees t_3).isSome) then
  bif (!((!r12) == true) || (geti (((geti m_0.sees t_3).getD [])) u_8).isSome) then
  (bif ((!r12) && (((geti (((geti m_0.sees s_2).getD [])) u_8).getD (0 : Int)) != ((geti (((geti m_0.sees t_3).getD [])) u_8).getD (0 : Int)))) then
  some false
  else
  nx10 ()) else none else none else none else none

def syllogistref_Sees (m_0 : Machine) (hidden_1 : (BitVec 32)) (s_2 : Int) (t_3 : Int) : Option (Bool) :=
  bif decide (m_0.users ≤ 9223372036854775807) then
  forK (σ := Unit) (fun i s nx_ => syllogistref_Sees_b9 m_0 hidden_1 s_2 t_3 i nx_) (fun _ => syllogistref_Sees_k5) (m_0.users - (0 : Int)).toNat (0 : Int) () else none

set_option maxRecDepth 100000 in
set_option maxHeartbeats 4000000 in
theorem syllogistref_Sees_ok (w0 : World) (m : Snap) (l : List HI) (m_0 : Machine) (um_0_3 : Value) (hm_0_3 : RS (Rp.slice (Rp.slice rI)) m um_0_3 m_0.next) (um_0_4 : Value) (hm_0_4 : RS (Rp.slice rI) m um_0_4 m_0.sees) (hidden_1 : (BitVec 32)) (s_2 : Int) (t_3 : Int) (r : Bool) (hr : syllogistref_Sees m_0 hidden_1 s_2 t_3 = some r) (w : World) (hc : cX w0 ⟨m, l⟩ w) :
    Calls Try.prog 68 [.agg #[.int .i64 m_0.n, .int .i64 m_0.users, .int .i64 m_0.acts, um_0_3, um_0_4], .int .u32 (hidden_1.toNat : Int), .int .i64 s_2, .int .i64 t_3].toArray w fun e w' => e = .returned (.bool r) ∧ cX w0 ⟨m, l⟩ w' := by
  unfold syllogistref_Sees at hr
  refine calls_of_Tr (N := 39) Try.func68 rfl hc rfl (Nat.le_of_ble_eq_true rfl) ?_
  refine Tr.seq ?_
  refine Tr.region_f (fun i => Nat.beq i 0) ?_
  refine W.e rfl rfl rfl rfl (by decide) (Ef.bx rfl (.t rfl) rfl) ?_
  rintro _ _ ⟨b1, rfl, rfl⟩
  refine ⟨.inl rfl, ?_⟩
  refine W.cast (m' := m) (l' := hcells b1 [_, _, _, _, _] 69 :: l) rfl rfl ?_
  refine W.q rfl rfl rfl rfl (by decide) (Yd.as rfl .c) ?_
  refine W.end ?_
  refine NX.sub (env' := [(1, _), (2, _), (3, _), (4, _)]) ⟨rfl, rfl, rfl, rfl, trivial⟩ ?_
  refine NX.then ?_
  refine Tr.seq ?_
  refine Tr.seq ?_
  refine Tr.region_f (fun _ => false) ?_
  refine W.q rfl rfl rfl rfl (by decide) (Yd.as rfl .c) ?_
  refine W.end ?_
  refine NX.sub (env' := [(1, _), (2, _), (3, _), (4, _), (9, _)]) ⟨rfl, rfl, rfl, rfl, rfl, trivial⟩ ?_
  refine NX.then ?_
  refine Tr.join (S := fun env x => env = [] ∧ x = ⟨m, l⟩ ∧ syllogistref_Sees_k5 = some r) ?_ (fun hk6 => ?_)
  · rintro _ _ ⟨rfl, rfl, hr⟩
    unfold syllogistref_Sees_k5 at hr
    try dsimp only at hr
    refine NX.then ?_
    refine Tr.seq ?_
    refine Tr.region_f (fun _ => false) ?_
    refine W.q rfl rfl rfl rfl (by decide) (Yd.as rfl .c) ?_
    refine W.end ?_
    refine NX.sub (env' := [(8, _)]) ⟨rfl, trivial⟩ ?_
    refine NX.then ?_
    refine Tr.ret' ?_
    refine res1 rfl rfl ?_
    intro w hc
    cases hr
    exact ⟨rfl, hc⟩
  obtain ⟨hle7, hr⟩ := guard_some hr; replace hle7 := of_decide_eq_true hle7
  refine Tr.block ?_
  refine Tr.sub (env' := [(1, _), (2, _), (3, _), (4, _), (9, _)]) ⟨rfl, rfl, rfl, rfl, rfl, trivial⟩ ?_
  refine Tr.loop (S := fun n (z : Int × Unit) env x => match z with | (u_8, _) => env = [(1, .int .u32 (hidden_1.toNat : Int)), (2, .int .i64 s_2), (3, .int .i64 t_3), (4, bp b1 0), (9, .int .i64 u_8)] ∧ x = ⟨m, hcells b1 [.int .i64 m_0.n, .int .i64 m_0.users, .int .i64 m_0.acts, um_0_3, um_0_4] 69 :: l⟩ ∧ n = (m_0.users - u_8).toNat ∧ 0 ≤ u_8 ∧ forK (σ := Unit) (fun i s nx_ => syllogistref_Sees_b9 m_0 hidden_1 s_2 t_3 i nx_) (fun _ => syllogistref_Sees_k5) n u_8 () = some r) _ ((0 : Int), ()) ⟨rfl, rfl, rfl, (by omega), hr⟩ ?_
  rintro n11 ⟨u_8, _⟩ env x ⟨rfl, rfl, hnu_8, h0u_8, hr⟩
  cases n11 with
  | zero =>
    simp only [forK] at hr
    refine Tr.seq ?_
    refine Tr.seq ?_
    refine Tr.region_f (fun _ => false) ?_
    refine W.q rfl rfl rfl rfl (by decide) (Yd.mv rfl (.t rfl)) ?_
    refine W.q rfl rfl rfl rfl (by decide) (Yd.fldB rfl Try.underlying69 rfl SZ3 rfl (.t rfl)) ?_
    refine W.q rfl rfl rfl rfl (by decide) (Yd.ldB (pos := 0) rfl rfl rfl ON3 (.t rfl)) ?_
    refine W.q rfl rfl rfl rfl (by decide) (Yd.lss rfl (.t rfl) (.t rfl)) ?_
    refine W.end ?_
    refine NX.sub (env' := [(1, _), (2, _), (3, _), (4, _), (9, _), (13, _)]) ⟨rfl, rfl, rfl, rfl, rfl, rfl, trivial⟩ ?_
    refine NX.then ?_
    refine Tr.cond (.t rfl) (fun hb => ?_) (fun hb => ?_)
    · exact absurd (hb.symm.trans (fr_end hnu_8)) (by decide)
    ·
      refine Tr.exit' (EX.then (EX.then (EX.block ?_)))
      refine NX.sub (env' := []) trivial ?_
      refine NX.drop (l' := l) (.cons _ (.refl _)) ?_
      exact hk6 _ _ ⟨rfl, rfl, hr⟩
  | succ n11 =>
    obtain ⟨nx10, hnx10, hr⟩ := forK_succ hr
    try dsimp only at hr
    unfold syllogistref_Sees_b9 at hr
    try dsimp only at hr
    have hltu_8 := fr_bnd hnu_8
    refine Tr.seq ?_
    refine Tr.seq ?_
    refine Tr.region_f (fun _ => false) ?_
    refine W.q rfl rfl rfl rfl (by decide) (Yd.mv rfl (.t rfl)) ?_
    refine W.q rfl rfl rfl rfl (by decide) (Yd.fldB rfl Try.underlying69 rfl SZ3 rfl (.t rfl)) ?_
    refine W.q rfl rfl rfl rfl (by decide) (Yd.ldB (pos := 0) rfl rfl rfl ON3 (.t rfl)) ?_
    refine W.q rfl rfl rfl rfl (by decide) (Yd.lss rfl (.t rfl) (.t rfl)) ?_
    refine W.end ?_
    refine NX.sub (env' := [(1, _), (2, _), (3, _), (4, _), (9, _), (13, _)]) ⟨rfl, rfl, rfl, rfl, rfl, rfl, trivial⟩ ?_
    refine NX.then ?_
    refine Tr.cond (.t rfl) (fun hb => ?_) (fun hb => ?_)
    rotate_left
    · exact absurd (hb.symm.trans (fr_go hnu_8)) (by decide)
    ·
      refine Tr.skip' ?_
      refine NX.then ?_
      refine Tr.seq ?_
      refine Tr.block ?_
      refine Tr.seq ?_
      obtain ⟨r12, hr13, hr⟩ := bind_some hr
      obtain ⟨ha14, hr⟩ := guard_some hr
      obtain ⟨ha18, hr⟩ := guard_some hr
      obtain ⟨ha19, hr⟩ := guard_some hr
      obtain ⟨ha23, hr⟩ := guard_some hr
      refine Tr.region_x (fun _ => false) (fun _ => false) (Ord.of [0, 1, 2, 3, 4, 5, 6, 7, 8, 9, 10, 11, 12, 13, 14, 15, 16, 17, 18, 19, 20, 21, 22]) FM (by kernel_rfl) ?_
      refine W.q rfl rfl rfl rfl (by decide) (Yd.mv rfl (.t rfl)) ?_
      refine W.q rfl rfl rfl rfl (by decide) (Yd.mv rfl (.t rfl)) ?_
      refine W.q rfl rfl rfl rfl (by decide) (Yd.call (v := .bool r12) rfl Try.func69 rfl rfl (.cons (.t rfl) (.cons (.t rfl) .nil)) (fun x' hx w hw => syllogistref_Bit_ok w0 x'.m x'.l hidden_1 u_8 _ hr13 w hw)) ?_
      refine W.q rfl rfl rfl rfl (by decide) (Yd.not rfl (.t rfl)) ?_
      refine W.q rfl rfl rfl rfl (by decide) (Yd.mv rfl (.t rfl)) ?_
      refine W.g rfl rfl rfl rfl rfl (.t rfl _) rfl (by decide) (fun hG => Yd.fldB rfl Try.underlying69 rfl SZ67 rfl (.t rfl)) ?_
      refine W.g rfl rfl rfl rfl rfl (.t rfl _) rfl (by decide) (fun hG => Yd.ldB (pos := 0) rfl rfl rfl ON67 (.g rfl hG)) ?_
      refine W.g rfl rfl rfl rfl rfl (.t rfl _) rfl (by decide) (fun hG => Yd.mv rfl (.t rfl)) ?_
      refine W.g rfl rfl rfl rfl rfl (.t rfl _) rfl (by decide) (fun hG => Yd.idxR hm_0_4 (gd_get (d := []) ha14 hG) rfl Try.underlying67 SZ84 (.g rfl hG) (.g rfl hG)) ?_
      obtain ⟨u15, hu16⟩ := RS.rowD hm_0_4 (i := s_2)
      refine W.g rfl rfl rfl rfl rfl (.t rfl _) rfl (by decide) (fun hG => Yd.ldRow (hu16 _ (gd_get (d := []) ha14 hG)).2 (.refl _) rfl ON84 (.g rfl hG)) ?_
      refine W.g rfl rfl rfl rfl rfl (.t rfl _) rfl (by decide) (fun hG => Yd.mv rfl (.t rfl)) ?_
      refine W.g rfl rfl rfl rfl rfl (.t rfl _) rfl (by decide) (fun hG => Yd.idxR (hu16 _ (gd_get (d := []) ha14 hG)).1 (gd_get (d := (0 : Int)) ha18 hG) rfl Try.underlying84 SZ3 (.g rfl hG) (.g rfl hG)) ?_
      refine W.g rfl rfl rfl rfl rfl (.t rfl _) rfl (by decide) (fun hG => Yd.ldF (hu16 _ (gd_get (d := []) ha14 hG)).1 (.refl _) (gd_get (d := (0 : Int)) ha18 hG) rfl rfl ON3 (.g rfl hG)) ?_
      refine W.g rfl rfl rfl rfl rfl (.t rfl _) rfl (by decide) (fun hG => Yd.fldB rfl Try.underlying69 rfl SZ67 rfl (.t rfl)) ?_
      refine W.g rfl rfl rfl rfl rfl (.t rfl _) rfl (by decide) (fun hG => Yd.ldB (pos := 0) rfl rfl rfl ON67 (.g rfl hG)) ?_
      refine W.g rfl rfl rfl rfl rfl (.t rfl _) rfl (by decide) (fun hG => Yd.mv rfl (.t rfl)) ?_
      refine W.g rfl rfl rfl rfl rfl (.t rfl _) rfl (by decide) (fun hG => Yd.idxR hm_0_4 (gd_get (d := []) ha19 hG) rfl Try.underlying67 SZ84 (.g rfl hG) (.g rfl hG)) ?_
      obtain ⟨u20, hu21⟩ := RS.rowD hm_0_4 (i := t_3)
      refine W.g rfl rfl rfl rfl rfl (.t rfl _) rfl (by decide) (fun hG => Yd.ldRow (hu21 _ (gd_get (d := []) ha19 hG)).2 (.refl _) rfl ON84 (.g rfl hG)) ?_
      refine W.g rfl rfl rfl rfl rfl (.t rfl _) rfl (by decide) (fun hG => Yd.mv rfl (.t rfl)) ?_
      refine W.g rfl rfl rfl rfl rfl (.t rfl _) rfl (by decide) (fun hG => Yd.idxR (hu21 _ (gd_get (d := []) ha19 hG)).1 (gd_get (d := (0 : Int)) ha23 hG) rfl Try.underlying84 SZ3 (.g rfl hG) (.g rfl hG)) ?_
      refine W.g rfl rfl rfl rfl rfl (.t rfl _) rfl (by decide) (fun hG => Yd.ldF (hu21 _ (gd_get (d := []) ha19 hG)).1 (.refl _) (gd_get (d := (0 : Int)) ha23 hG) rfl rfl ON3 (.g rfl hG)) ?_
      refine W.g rfl rfl rfl rfl rfl (.t rfl _) rfl (by decide) (fun hG => Yd.neq rfl (.g rfl hG) (.g rfl hG)) ?_
      refine W.q rfl rfl rfl rfl (by decide) (Yd.and rfl (.t rfl) .c rfl rfl) ?_
      refine W.end ?_
      refine NX.sub (env' := [(1, _), (2, _), (3, _), (4, _), (9, _), (38, _)]) ⟨rfl, rfl, rfl, rfl, rfl, rfl, trivial⟩ ?_
      refine NX.then ?_
      refine Tr.cond (.t rfl) (fun hb => ?_) (fun hb => ?_)
      · have hr := cond_t hb hr
        refine Tr.seq ?_
        refine Tr.region_f (fun _ => false) ?_
        refine W.q rfl rfl rfl rfl (by decide) (Yd.as rfl .c) ?_
        refine W.end ?_
        refine NX.sub (env' := [(8, _)]) ⟨rfl, trivial⟩ ?_
        refine NX.drop (l' := l) (.cons _ (.refl _)) ?_
        refine NX.then ?_
        refine Tr.ret' (RT.block (RT.then (RT.then (RT.block (RT.then ?_)))))
        refine res1 rfl rfl ?_
        intro w hc
        cases hr
        exact ⟨rfl, hc⟩
      · have hr := cond_f hb hr
        refine Tr.skip' ?_
        refine NX.block ?_
        refine NX.then ?_
        refine Tr.region_f (fun _ => false) ?_
        refine W.q rfl rfl rfl rfl (by decide) (Yd.mv rfl (.t rfl)) ?_
        refine W.q rfl rfl rfl rfl (by decide) (Yd.add rfl (.t rfl) .c) ?_
        refine W.q rfl rfl rfl rfl (by decide) (Yd.as rfl (.t rfl)) ?_
        refine W.end ?_
        refine NX.sub (env' := [(1, _), (2, _), (3, _), (4, _), (9, _)]) ⟨rfl, rfl, rfl, rfl, rfl, trivial⟩ ?_
        refine NX.sub (env' := [(1, _), (2, _), (3, _), (4, _), (9, _)]) ⟨rfl, rfl, rfl, rfl, rfl, trivial⟩ ?_
        have hw := w64_id (n := u_8 + 1) (by omega) (by omega)
        exact NX.again n11 (u_8 + 1, ()) (Nat.lt_succ_self _) ⟨(by rw [hw] <;> rfl), rfl, (fr_dec hnu_8), (by omega), ((hnx10 _).symm.trans hr)⟩
end Go.Proofs.Ytehfjfaanhdbaaa.Sy
